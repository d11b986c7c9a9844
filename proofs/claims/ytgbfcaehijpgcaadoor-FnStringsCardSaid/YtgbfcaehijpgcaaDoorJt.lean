/- Texts joined. Plain. -/
import Derived.Test.YtgbfcaehijpgcaaDoorD
import Derived.Lib.Join
import Derived.Lib.Strings
import Derived.Lib.Bytealg
import Derived.Laws.Concat
namespace Go.Proofs.YtgbfcaehijpgcaaDoor
set_option maxRecDepth 100000
open Go.RowKit

/-- does a string hold a byte? -/
def hasByte (c : UInt8) (s : ByteArray) : Bool := s.data.toList.any fun x => x == c
theorem indexByte_has (c : UInt8) (s : ByteArray) : decide (0 ≤ Lib.indexByte s.data.toList c) = hasByte c s := by
  rw [hasByte]
  have : ∀ l : List UInt8, decide (0 ≤ Lib.indexByte l c) = l.any fun x => x == c := by
    intro l
    induction l with
    | nil => rfl
    | cons x l ih =>
      have hge := Lib.indexByte_ge l c
      rw [Lib.indexByte, List.any_cons, ← ih]
      by_cases h : (x == c) = true
      · simp [h]
      · replace h : (x == c) = false := by simpa using h
        rw [h, if_neg (by simp), Bool.false_or, Bool.eq_iff_iff, decide_eq_true_iff, decide_eq_true_iff]
        by_cases h1 : Lib.indexByte l c = -1
        · simp [h1]
        · rw [if_neg (by simpa using h1)]; omega
  exact this _

theorem join_grow (xs : List (List UInt8)) (y sep : List UInt8) : Lib.join (xs ++ [y]) sep = if xs = [] then y else Lib.join xs sep ++ sep ++ y := by
  cases xs with
  | nil => simp [Lib.join_one]
  | cons x r => rw [if_neg (by simp), List.cons_append, Lib.join_cons, Lib.join_cons]; simp [Lib.joinTail, List.append_assoc]
theorem join_mono (zs : List (List UInt8)) (sep : List UInt8) : ∀ xs, (Lib.join xs sep).length ≤ (Lib.join (xs ++ zs) sep).length := by
  induction zs with
  | nil => intro xs; simp
  | cons z zs ih =>
    intro xs
    have h := ih (xs ++ [z])
    rw [List.append_assoc] at h
    refine Nat.le_trans ?_ h
    rw [join_grow]
    split
    · rename_i e; subst e; simp [Lib.join_nil]
    · simp only [List.length_append]; omega

def lists (ss : List ByteArray) : List (List UInt8) := ss.map (·.data.toList)
/-- the strings with s between them -/
def joined (ss : List ByteArray) (s : ByteArray) : ByteArray := ⟨(Lib.join (lists ss) s.data.toList).toArray⟩
theorem joined_size (ss : List ByteArray) (s : ByteArray) : (joined ss s).size = (Lib.join (lists ss) s.data.toList).length := by simp [joined, ByteArray.size]
theorem joined_nil (s : ByteArray) : joined [] s = ByteArray.empty := by rw [joined, lists, List.map_nil, Lib.join_nil]; rfl
theorem ba_mk (s : ByteArray) : (⟨s.data.toList.toArray⟩ : ByteArray) = s := by cases s; simp
theorem joined_one (x s : ByteArray) : joined [x] s = x := by rw [joined, lists, List.map_cons, List.map_nil, Lib.join_one]
theorem joined_grow (ss : List ByteArray) (x s : ByteArray) (h : ss ≠ []) : joined (ss ++ [x]) s = joined ss s ++ s ++ x := by
  have h' : ss.map (·.data.toList) ≠ [] := by simpa using h
  rw [joined, joined, lists, lists, List.map_append, List.map_cons, List.map_nil, join_grow, if_neg h']
  conv => rhs; rw [← ba_mk s, ← ba_mk x]
  rw [ByteArray.mk_append_mk, ByteArray.mk_append_mk]
theorem joined_take (ss : List ByteArray) (s : ByteArray) (k : Nat) : (joined (ss.take k) s).size ≤ (joined ss s).size := by
  rw [joined_size, joined_size]
  have := join_mono (lists (ss.drop k)) s.data.toList (lists (ss.take k))
  rwa [lists, lists, ← List.map_append, List.take_append_drop] at this

/-- JoinStrings -/
def joinOk (ss : List ByteArray) (s : ByteArray) : Bool := decide (s.size = 1) && decide (ss.length ≠ 0) && !(ss.any (hasByte (s.data.toList.headD 0))) && decide ((joined ss s).size ≤ 4000)
def joinR (ss : List ByteArray) (s : ByteArray) : ByteArray := if joinOk ss s then joined ss s else ByteArray.empty
theorem one_byte {s : ByteArray} (h : s.size = 1) : ∃ c, s = ⟨#[c]⟩ := by
  obtain ⟨⟨l⟩⟩ := s
  match l, h with
  | [c], _ => exact ⟨c, rfl⟩
end Go.Proofs.YtgbfcaehijpgcaaDoor
