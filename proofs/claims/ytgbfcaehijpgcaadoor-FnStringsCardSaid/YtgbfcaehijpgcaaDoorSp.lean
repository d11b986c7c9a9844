/- A string is split at a byte. -/
import Derived.Test.YtgbfcaehijpgcaaDoorAp
import Derived.Test.YtgbfcaehijpgcaaDoorCh
import Derived.Test.YtgbfcaehijpgcaaDoorGs
import Derived.Lib.SplitLaws
import Derived.Lib.IndexLaws
import Derived.Lib.IndexBytes
import Derived.Lib.CountLaws
import Derived.Lib.CutLaws
namespace Go.Proofs.YtgbfcaehijpgcaaDoor
set_option maxRecDepth 100000
open Go Go.RowKit

/-- the parts between a byte -/
def splitL (c : UInt8) : List UInt8 → List (List UInt8)
  | [] => [[]]
  | b :: l => if b = c then [] :: splitL c l else (b :: (splitL c l).headD []) :: (splitL c l).tail
theorem splitL_ne (c : UInt8) (l : List UInt8) : splitL c l ≠ [] := by
  cases l with
  | nil => simp [splitL]
  | cons b l => rw [splitL]; split <;> simp
theorem splitL_no (c : UInt8) : ∀ l : List UInt8, (∀ b ∈ l, b ≠ c) → splitL c l = [l]
  | [], _ => rfl
  | b :: l, h => by
    rw [splitL, if_neg (h b (by simp)), splitL_no c l (fun x hx => h x (by simp [hx]))]
    rfl
theorem splitL_at (c : UInt8) : ∀ (l : List UInt8) (m : Nat), l[m]? = some c → (∀ k, k < m → l[k]? ≠ some c) → splitL c l = l.take m :: splitL c (l.drop (m + 1))
  | [], m, h, _ => by simp at h
  | b :: l, 0, h, _ => by
    have : b = c := by simpa using h
    rw [splitL, if_pos this]; rfl
  | b :: l, m + 1, h, hk => by
    have hb : b ≠ c := fun e => hk 0 (by omega) (by simp [e])
    have ih := splitL_at c l m (by simpa using h) (fun k hkm => by have := hk (k + 1) (by omega); simpa using this)
    rw [splitL, if_neg hb, ih]
    rfl
theorem splitL_length (c : UInt8) (l : List UInt8) : (splitL c l).length = l.count c + 1 := by
  induction l with
  | nil => rfl
  | cons b l ih =>
    rw [splitL]
    split
    · rename_i h; subst h; simp [ih]
    · rename_i h
      rw [List.length_cons, List.length_tail, ih, List.count_cons_of_ne h]; omega
theorem splitL_sizes (c : UInt8) : ∀ (l : List UInt8), ∀ p ∈ splitL c l, p.length ≤ l.length
  | [], p, hp => by
    have : p = [] := by simpa [splitL] using hp
    subst this; simp
  | b :: l, p, hp => by
    rw [splitL] at hp
    split at hp
    · rcases List.mem_cons.1 hp with rfl | q
      · simp
      · have := splitL_sizes c l p q
        simp only [List.length_cons]; omega
    · rcases List.mem_cons.1 hp with rfl | q
      · have hne := splitL_ne c l
        cases e : splitL c l with
        | nil => exact absurd e hne
        | cons x xs =>
          have := splitL_sizes c l x (by rw [e]; simp)
          simp only [List.headD_cons, List.length_cons]; omega
      · have := splitL_sizes c l p (List.mem_of_mem_tail q)
        simp only [List.length_cons]; omega
/-- .. as strings -/
def splitS (c : UInt8) (s : ByteArray) : List ByteArray := (splitL c s.data.toList).map fun l => ⟨l.toArray⟩
theorem splitS_ne (c : UInt8) (s : ByteArray) : splitS c s ≠ [] := by
  unfold splitS; intro e; exact splitL_ne c _ (List.map_eq_nil_iff.1 e)
theorem ext_list (s : ByteArray) (a b : Nat) : (s.extract a b).data.toList = (s.data.toList.take b).drop a := by
  rw [ByteArray.data_extract, Array.toList_extract, List.extract_eq_take_drop, List.drop_take]
theorem ba_list (s : ByteArray) : (⟨s.data.toList.toArray⟩ : ByteArray) = s := by cases s; simp
theorem indexB_one (s : ByteArray) (c : UInt8) : Lib.indexB s ⟨#[c]⟩ = Lib.indexByte s.data.toList c := by
  have := Lib.one s ⟨#[c]⟩ rfl
  rw [this]
  congr 1
  show ((c.toNat : Int)).toNat.toUInt8 = c
  simp
theorem splitB_one (c : UInt8) : ∀ (n : Nat) (s : ByteArray), s.size ≤ n → Lib.splitB ⟨#[c]⟩ 0 (Lib.countB s ⟨#[c]⟩) s = splitS c s := by
  intro n
  induction n with
  | zero =>
    intro s hs
    have hl : s.data.toList = [] := List.length_eq_zero_iff.1 (by rw [Array.length_toList]; exact Nat.le_zero.1 hs)
    have hm : Lib.indexB s ⟨#[c]⟩ = -1 := by rw [indexB_one, hl]; rfl
    rw [Lib.splitB_miss _ _ _ _ hm, splitS, hl]
    show [s] = [⟨#[]⟩]
    rw [← ba_list s, hl]
  | succ n ih =>
    intro s hs
    have h1 := Lib.indexByte_ge s.data.toList c
    by_cases hi : Lib.indexByte s.data.toList c = -1
    · have hm : Lib.indexB s ⟨#[c]⟩ = -1 := by rw [indexB_one, hi]
      have hno := Lib.indexByte_none hi
      rw [Lib.splitB_miss _ _ _ _ hm, splitS, splitL_no c _ (fun b hb e => by
        obtain ⟨k, hk, rfl⟩ := List.mem_iff_getElem.1 hb
        exact hno k (by rw [List.getElem?_eq_getElem hk, e]))]
      show [s] = [⟨s.data.toList.toArray⟩]
      rw [ba_list]
    · obtain ⟨i, hi'⟩ : ∃ i : Nat, Lib.indexByte s.data.toList c = i := ⟨(Lib.indexByte s.data.toList c).toNat, by omega⟩
      obtain ⟨h2, h3⟩ := Lib.indexByte_some hi'
      have hx : Lib.indexB s ⟨#[c]⟩ = i := by rw [indexB_one, hi']
      have hil : i < s.size := by
        have : i < s.data.toList.length := by
          rcases Nat.lt_or_ge i s.data.toList.length with q | q
          · exact q
          · rw [List.getElem?_eq_none q] at h2; cases h2
        rwa [Array.length_toList] at this
      have hsz : (s.extract (i + 1) s.size).size ≤ n := by rw [ByteArray.size_extract]; omega
      have hc := Lib.countB_hit s ⟨#[c]⟩ i (show 1 ≤ 1 from Nat.le_refl _) hx
      rw [show (⟨#[c]⟩ : ByteArray).size = 1 from rfl] at hc
      have hs1 := Lib.splitB_hit ⟨#[c]⟩ 0 (Lib.countB (s.extract (i + 1) s.size) ⟨#[c]⟩) s i hx
      rw [show (⟨#[c]⟩ : ByteArray).size = 1 from rfl, ih _ hsz] at hs1
      rw [hc, Nat.add_comm 1, hs1, splitS, splitS, splitL_at c _ i h2 h3, List.map_cons, Nat.add_zero]
      congr 1
      · rw [← ba_list (s.extract 0 i), ext_list, List.drop_zero]
      · congr 1
        rw [ext_list, List.take_of_length_le (by rw [Array.length_toList]; exact Nat.le_refl _)]
theorem countB_one (c : UInt8) (s : ByteArray) : Lib.countB s ⟨#[c]⟩ + 1 = (splitS c s).length := by
  have h := Lib.splitB_all ⟨#[c]⟩ (show 1 ≤ 1 from Nat.le_refl _) 0 _ s rfl
  rw [splitB_one c s.size s (Nat.le_refl _)] at h
  exact h.symm
/-- the part ahead of the byte -/
def firstS (c : UInt8) (s : ByteArray) : ByteArray := (splitS c s).headD ⟨#[]⟩
theorem cut_one (c : UInt8) (s : ByteArray) : (⟨(Lib.cut s.data.toList [c]).1.toArray⟩ : ByteArray) = firstS c s := by
  unfold firstS splitS Lib.cut
  rw [Lib.index_one]
  have h1 := Lib.indexByte_ge s.data.toList c
  split
  · rename_i h
    obtain ⟨i, hi'⟩ : ∃ i : Nat, Lib.indexByte s.data.toList c = i := ⟨(Lib.indexByte s.data.toList c).toNat, by omega⟩
    obtain ⟨h2, h3⟩ := Lib.indexByte_some hi'
    rw [splitL_at c _ i h2 h3, hi']
    simp
  · rename_i h
    have hno := Lib.indexByte_none (show Lib.indexByte s.data.toList c = -1 by omega)
    rw [splitL_no c _ (fun b hb e => by
      obtain ⟨k, hk, rfl⟩ := List.mem_iff_getElem.1 hb
      exact hno k (by rw [List.getElem?_eq_getElem hk, e]))]
    simp
end Go.Proofs.YtgbfcaehijpgcaaDoor
