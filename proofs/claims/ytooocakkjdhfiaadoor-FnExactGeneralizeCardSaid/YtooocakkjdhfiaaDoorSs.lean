/- Lists of strings: how a law measures, copies and compares them. -/
import Derived.Test.YtooocakkjdhfiaaDoorRows
import Derived.Test.YtooocakkjdhfiaaDoorBr
import Derived.Test.YtooocakkjdhfiaaDoorSz
import Derived.Test.YtooocakkjdhfiaaDoorSe
import Derived.Test.YtooocakkjdhfiaaDoorCh
import Derived.Test.YtooocakkjdhfiaaDoorD
import Derived.Test.YtooocakkjdhfiaaDoorReg
import Derived.WalkSpells
import Derived.WalkLawsBesides
namespace Go.Proofs.YtooocakkjdhfiaaDoor
set_option maxRecDepth 100000
open Go.RowKit Go.ChangeShapes Go.WideShapes

def strSum : List ByteArray → Nat
  | [] => 0
  | s :: ss => s.size + strSum ss
def strBulk (ss : List ByteArray) : Nat := ss.length + strSum ss
theorem strSum_take : ∀ (ss : List ByteArray) (k : Nat) (hk : k < ss.length), strSum (ss.take (k + 1)) = strSum (ss.take k) + ss[k].size
  | [], k, hk => absurd hk (by simp)
  | t :: ts, 0, _ => by simp [strSum]
  | t :: ts, k + 1, hk => by
    have := strSum_take ts k (by simpa using hk)
    simp only [List.take_succ_cons, strSum, this, List.getElem_cons_succ]; omega
theorem strSum_le : ∀ (ss : List ByteArray) (k : Nat), strSum (ss.take k) ≤ strSum ss
  | [], k => by simp
  | t :: ts, 0 => by simp [strSum]
  | t :: ts, k + 1 => by
    have := strSum_le ts k
    simp only [List.take_succ_cons, strSum]; omega
theorem strSum_mem {ss : List ByteArray} {s : ByteArray} (h : s ∈ ss) : s.size ≤ strSum ss := by
  induction ss with
  | nil => cases h
  | cons a ss ih =>
    rw [strSum]
    rcases List.mem_cons.1 h with rfl | h
    · omega
    · have := ih h; omega

def MadeStr (ss : List ByteArray) (w : World) (e : Ending) (w' : World) : Prop := ∃ v F, e = .returned v ∧ D.own w' v (slOf strE ss) F ∧ (∀ x ∈ F, w.heap.size ≤ x) ∧ Below w.heap.size w w'
theorem infoStrS : (Tryd.prog.info? 9).map (fun i => (i.zero, i.size, i.bytes)) = some (some (.string ByteArray.empty), 1, 16) := by kernel_rfl
theorem strE_take (ss : List ByteArray) (k : Nat) (hk : k < ss.length) : (ss.take (k + 1)).flatMap strE = (ss.take k).flatMap strE ++ [.str ss[k]] := flat_take_succ ss k hk

/-- the value reads as the list -/
def IsSS (ss : List ByteArray) (v : Value) (w : World) : Prop := D.rd (fun _ => True) w v (slOf strE ss)
theorem IsSS.form {ss : List ByteArray} {v : Value} {w : World} (h : IsSS ss v w) : ∃ a cap, v = .slice a ss.length cap ∧ D.rd (fun _ => True) w (.slice a ss.length cap) (slOf strE ss) := by
  obtain ⟨a, cap, rfl, _, _⟩ := slOf_form h
  exact ⟨a, cap, rfl, h⟩
theorem IsSS.stable {ss : List ByteArray} {w : World} : ∀ v w1 w2, Below w.heap.size w w1 → Below w1.heap.size w1 w2 → IsSS ss v w1 → IsSS ss v w2 :=
  fun _ _ _ _ hb h => D.rd_keep (Keeps.all hb) _ _ h
theorem toList_yes {a b : ByteArray} (h : a = b) : (a.toList == b.toList) = true := by rw [h]; simp

theorem cellsStr1 : Tryd.prog.cellsOf 9 = 1 := by kernel_rfl
section
variable {H : Type} {enc' : TypeId × Value → H} {w : World}
theorem read_str : ∀ (fuel : Nat) (cs : List Value) (x : DataW H × List MemPlace), DataW.trod enc' Tryd.prog w 0 (fun _ => true) true fuel 9 cs = some x → ∃ s : ByteArray, CellsRd (fun _ => True) w cs (strE s) := by
  intro fuel cs x h
  obtain ⟨s, hs, -, hsz⟩ := DataW.trod_string Tryd.underlying9 h
  subst hs
  exact ⟨s, D.rd_str hsz, trivial⟩
theorem open_StringS {r : Reach} {b0 : Nat} {v : Value} {d : DataW H} {p : List MemPlace} (hv : Value.okWide Tryd.prog w r b0 62 v) (h : DataW.Trod enc' Tryd.prog w 0 (fun _ => true) true 62 v d p) :
    ∃ ss, D.rd (fun _ => True) w v (slOf strE ss) := by
  obtain ⟨a, len, cap, rfl⟩ := okWide_slice Tryd.underlying62 hv
  obtain ⟨fuel, hf⟩ := h
  obtain ⟨u, ss, hu, hr⟩ := open_slOf strE_wide (by decide) Tryd.underlying62 cellsStr1 (fun m cs' x' _ hx => read_str m cs' x' hx) hf
  obtain rfl : Value.slice a len cap = u := by simpa [Value.cells] using hu
  exact ⟨ss, hr⟩
end
end Go.Proofs.YtooocakkjdhfiaaDoor
