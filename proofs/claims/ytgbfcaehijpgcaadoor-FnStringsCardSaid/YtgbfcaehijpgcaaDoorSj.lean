/- SplitString: the program's and the reference's. -/
import Derived.Test.YtgbfcaehijpgcaaDoorSq
import Derived.Test.YtgbfcaehijpgcaaDoorMx
import Derived.Test.YtgbfcaehijpgcaaDoorHw
import Derived.Laws.OwnMore
namespace Go.Proofs.YtgbfcaehijpgcaaDoor
set_option maxRecDepth 100000
open Go Go.RowKit

/-- a row that a call has made -/
theorem Row.lit (w : World) (ss : List ByteArray) (hs : ∀ s ∈ ss, s.size ≤ maxLen) (hl : ss.length ≤ maxLen) : Row (w.alloc (.cells (ss.map Value.string).toArray 9)) w.heap.size (.slice (some ⟨w.heap.size, 0, none⟩) ss.length ss.length) ss := by
  have := World.ownsRow_lit (base := w.heap.size) (e := 9) (size := 1) w (ss.map Value.string).toArray ss.length (Nat.le_refl _) hl (by simp)
  exact ⟨by simpa using this, hs⟩
def splOk (s q : ByteArray) : Bool := decide (s.size ≤ 4000) && decide (q.size = 1)
def splR (s q : ByteArray) : List ByteArray := if splOk s q = true then splitS (q.data.toList.headD 0) s else []
theorem splitS_sizes (c : UInt8) (s : ByteArray) : ∀ p ∈ splitS c s, p.size ≤ s.size := by
  intro p hp
  obtain ⟨l, hl, rfl⟩ := List.mem_map.1 hp
  have := splitL_sizes c _ l hl
  rw [size_list] at this
  show l.toArray.size ≤ _
  simpa using this
theorem splitS_length (c : UInt8) (s : ByteArray) : (splitS c s).length ≤ s.size + 1 := by
  rw [splitS, List.length_map, splitL_length]
  have := List.count_le_length (a := c) (l := s.data.toList)
  rw [size_list] at this
  omega
theorem splR_length (s q : ByteArray) : (splR s q).length ≤ 4001 := by
  unfold splR
  split
  · rename_i h
    have := splitS_length (q.data.toList.headD 0) s
    rw [splOk, Bool.and_eq_true, decide_eq_true_iff] at h
    omega
  · simp
theorem one_head {q : ByteArray} (h : q.size = 1) : q = ⟨#[q.data.toList.headD 0]⟩ := by
  obtain ⟨c, rfl⟩ := Lib.one_byte q h
  rfl
set_option maxHeartbeats 2000000 in
theorem spec_SplitString {s q : ByteArray} (hs : s.size ≤ 1048576) (_ : q.size ≤ 1048576) {w : World} : Calls Tryd.prog 14 #[.string s, .string q] w (RdD id (slOf strE (splR s q)) (splOk s q) w) := by
  by_cases h1 : q.size = 1
  · by_cases h2 : s.size ≤ 4000
    · have HO : Hid (splOk s q = true) := by simp [Hid, splOk, h1, h2]
      have HR : Hid (splR s q = splitS (q.data.toList.headD 0) s) := by rw [Hid, splR, if_pos HO.out]
      have hq := l1Split_any s (q.data.toList.headD 0) hs w
      rw [HO.out, HR.out]
      have hb := byteAt_eq (s := q) (i := 0) (by omega)
      have hb2 : byteAt q 0 = (q.data.toList.headD 0).toNat := by
        obtain ⟨b, hb, hv⟩ := byteAt_list (s := q) (k := 0) (by omega)
        rw [← hv]
        cases e : q.data.toList with
        | nil => rw [e] at hb; simp at hb
        | cons x xs => rw [e] at hb; injection hb with hb; subst hb; rfl
      rw [hb2] at hb
      have h1' : ((q.size : Int) != 1) = false := by simp [h1]
      have h2' : ¬ (4000 : Int) < s.size := by omega
      have h0 : (0 : Int) < q.size := by omega
      generalize q.data.toList.headD 0 = c at *
      obtain ⟨C, HC⟩ : ∃ C, Hid (c.toNat = C) := ⟨_, hid rfl⟩
      rw [HC.out] at hq hb
      clear h2 hb2 HO HR
      go_enter Tryd.func14, Tryd.ntmps14
      go_wp2_with fail
      refine hq.mono ?_
      rintro e w2 ⟨v, rfl, hr, hn, hb⟩
      go_wp2_with fail
      go_ret2
      exact ⟨v, rfl, hr.rd, hb⟩
    · have HO : Hid (splOk s q = false) := by simp [Hid, splOk, h2]
      have HR : Hid (splR s q = []) := by rw [Hid, splR, if_neg (by rw [HO.out]; simp)]
      rw [HO.out, HR.out]
      have h1' : ((q.size : Int) != 1) = false := by simp [h1]
      have h2' : (4000 : Int) < s.size := by omega
      clear h1 h2
      go_enter Tryd.func14, Tryd.ntmps14
      go_wp2_with fail
      go_ret2
      exact ⟨_, rfl, (Row.made w (Nat.le_refl _)).rd, (Below.refl _ _).alloc (Nat.le_refl _) _⟩
  · have HO : Hid (splOk s q = false) := by simp [Hid, splOk, h1]
    have HR : Hid (splR s q = []) := by rw [Hid, splR, if_neg (by rw [HO.out]; simp)]
    rw [HO.out, HR.out]
    have h1' : ((q.size : Int) != 1) = true := by simp; omega
    clear h1
    go_enter Tryd.func14, Tryd.ntmps14
    go_wp2_with fail
    go_ret2
    exact ⟨_, rfl, (Row.made w (Nat.le_refl _)).rd, (Below.refl _ _).alloc (Nat.le_refl _) _⟩
set_option maxHeartbeats 2000000 in
theorem impl_SplitString {s q : ByteArray} (hs : s.size ≤ 1048576) (_ : q.size ≤ 1048576) {w : World} (hM : MaxF w) : Calls Tryd.prog 15 #[.string s, .string q] w (OutD id (slOf strE (splR s q)) (splOk s q) w) := by
  by_cases h2 : s.size ≤ 4000
  · by_cases h1 : q.size = 1
    · have HO : Hid (splOk s q = true) := by simp [Hid, splOk, h1, h2]
      have HR : Hid (splR s q = splitS (q.data.toList.headD 0) s) := by rw [Hid, splR, if_pos HO.out]
      obtain ⟨m, hm⟩ := hM
      have hq := Tryd.strings_Split s q m w (by omega) hm (by omega)
      have he := one_head h1
      generalize q.data.toList.headD 0 = c at *
      have hc1 := countB_one c s
      have hc2 := splitB_one c s.size s (Nat.le_refl _)
      rw [← he] at hc1 hc2
      rw [hc1, hc2] at hq
      rw [HO.out, HR.out]
      have hsl := splitS_length c s
      have hrow := Row.lit w (splitS c s) (fun p hp => by have := splitS_sizes c s p hp; unfold maxLen; omega) (by unfold maxLen; omega)
      have h1' : ((q.size : Int) != 1) = false := by simp [h1]
      have h2' : ¬ (4000 : Int) < s.size := by omega
      clear h1 h2 he hc1 hc2
      go_enter Tryd.func15, Tryd.ntmps15
      go_wp2_with fail
      refine hq.mono ?_
      rintro e w2 ⟨rfl, hw⟩
      obtain ⟨F, ho, hF⟩ := (GS.of_row hrow).own
      rw [← hw] at ho
      have hb : Below w.heap.size w w2 := by rw [hw]; exact (Below.refl _ _).alloc (Nat.le_refl _) _
      clear hq hw hrow
      go_wp2_with fail
      go_ret2
      exact ⟨_, F, rfl, ho, hF, hb⟩
    · have HO : Hid (splOk s q = false) := by simp [Hid, splOk, h1]
      have HR : Hid (splR s q = []) := by rw [Hid, splR, if_neg (by rw [HO.out]; simp)]
      rw [HO.out, HR.out]
      have h1' : ((q.size : Int) != 1) = true := by simp; omega
      have h2' : ¬ (4000 : Int) < s.size := by omega
      clear h1 h2
      go_enter Tryd.func15, Tryd.ntmps15
      go_wp2_with fail
      go_ret2
      exact ⟨_, [], rfl, D.own_nil _ _, by simp, Below.refl _ _⟩
  · have HO : Hid (splOk s q = false) := by simp [Hid, splOk, h2]
    have HR : Hid (splR s q = []) := by rw [Hid, splR, if_neg (by rw [HO.out]; simp)]
    rw [HO.out, HR.out]
    have h2' : (4000 : Int) < s.size := by omega
    clear h2
    go_enter Tryd.func15, Tryd.ntmps15
    go_wp2_with fail
    go_ret2
    exact ⟨_, [], rfl, D.own_nil _ _, by simp, Below.refl _ _⟩
end Go.Proofs.YtgbfcaehijpgcaaDoor
