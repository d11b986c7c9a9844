/- Bytes of a string, and a byte that is changed. -/
import Derived.Test.YtgbfcaehijpgcaaDoorDk
import Derived.Test.YtgbfcaehijpgcaaDoorSy
import Derived.Laws.IdiomStrings
import Derived.Laws.BitsAllLaws
namespace Go.Proofs.YtgbfcaehijpgcaaDoor
set_option maxRecDepth 100000
open Go Go.RowKit

theorem bytes_made (w : World) (s : ByteArray) (hs : s.size ≤ 1048576) : ∃ cap w1, (convert 9 43 (.string s)).run Tryd.prog w = .ok (.slice (some ⟨w.heap.size, 0, none⟩) s.size cap) w1 ∧ s.size ≤ cap ∧ cap ≤ big ∧ Below w.heap.size w w1 ∧ w.heap.size < w1.heap.size ∧
    (∀ j, j < s.size → w1.cell? ⟨w.heap.size, j, none⟩ = some (.int .u8 (byteAt s j))) ∧ ∀ j, j < s.size → w1.frozen? ⟨w.heap.size, j, none⟩ = false := by
  have h := run_bytes_of_string (P := Tryd.prog) w 9 43 5 s Tryd.underlying9 Tryd.underlying43 Tryd.underlying5
  have h1 := grownCap_ge w s.size 0 5
  have h2 := grownCap_le_maxLen w s.size 0 5 (by unfold maxLen; omega)
  generalize grownCap w s.size 0 5 = cap at *
  have hsz : s.size ≤ (bytesRow s cap).size := by
    unfold bytesRow
    rw [Array.size_append, Array.size_map]
    exact Nat.le_add_right _ _
  refine ⟨cap, _, h, h1, h2, (Below.refl _ _).drew.alloc (Nat.le_refl _) _, ?_, fun j hj => ?_, fun j hj => ?_⟩
  · show w.heap.size < (w.drew.alloc _).heap.size
    rw [World.size_alloc]; exact Nat.lt_succ_self _
  · have hj' : j < s.data.size := hj
    have e := World.cell?_alloc_new (w := w.drew)
    rw [show (⟨w.heap.size, j, none⟩ : Addr) = ⟨w.drew.heap.size, j, none⟩ from rfl]
    unfold World.cell?
    rw [show (w.drew.alloc (.cells (bytesRow s cap) 5 ((bytesRow s cap).size, (bytesRow s cap).size + 1))).heap[(⟨w.drew.heap.size, j, none⟩ : Addr).block]? = some (.cells (bytesRow s cap) 5 ((bytesRow s cap).size, (bytesRow s cap).size + 1)) from heap_alloc_new w.drew _]
    show (bytesRow s cap)[j]? = _
    rw [bytesRow_at s cap j hj', ← byteAt_eq hj]
    rfl
  · unfold World.frozen?
    rw [show (w.drew.alloc (.cells (bytesRow s cap) 5 ((bytesRow s cap).size, (bytesRow s cap).size + 1))).heap[(⟨w.heap.size, j, none⟩ : Addr).block]? = some (.cells (bytesRow s cap) 5 ((bytesRow s cap).size, (bytesRow s cap).size + 1)) from heap_alloc_new w.drew _]
    show (decide ((bytesRow s cap).size ≤ j) && decide (j < (bytesRow s cap).size + 1)) = false
    rw [decide_eq_false (by omega)]; rfl
theorem flip_byte {a b : Int} (a0 : 0 ≤ a) (a1 : a < 256) (b0 : 1 ≤ b) (b1 : b < 256) : ∃ c : Nat, bits .xor .u8 a b = (c : Int) ∧ c < 256 ∧ (c : Int) ≠ a := by
  refine ⟨a.toNat ^^^ b.toNat, u8_xor a b a0 a1 (by omega) b1, Nat.xor_lt_two_pow (n := 8) (by omega) (by omega), fun h => ?_⟩
  have h1 : a.toNat ^^^ b.toNat = a.toNat := by omega
  have h2 : a.toNat ^^^ (a.toNat ^^^ b.toNat) = a.toNat ^^^ a.toNat := by rw [h1]
  rw [← Nat.xor_assoc, Nat.xor_self, Nat.zero_xor] at h2
  omega
theorem back_text (W : World) (g cap : Nat) (y : ByteArray) (k c : Nat) (hk : k < y.size) (hc : c < 256) (hw : ∀ j, j < y.size → W.cell? ⟨g, j, none⟩ = some (.int .u8 ((if j = k then c else byteAt y j : Nat) : Int))) :
    ∃ z : ByteArray, (convert 43 9 (.slice (some ⟨g, 0, none⟩) y.size cap)).run Tryd.prog W = .ok (.string z) W ∧ z.size = y.size ∧ byteAt z k = c ∧ ∀ j, j ≠ k → byteAt z j = byteAt y j := by
  let l : List UInt8 := (List.range y.size).map fun j => UInt8.ofNat (if j = k then c else byteAt y j)
  have hl : l.length = y.size := by simp [l]
  have hg : ∀ j (hj : j < l.length), l[j].toNat = if j = k then c else byteAt y j := fun j hj => by
    have := byteAt_lt y j
    simp only [l, List.getElem_map, List.getElem_range, UInt8.toNat_ofNat']
    split <;> omega
  have h := run_convert_bytes_back (P := Tryd.prog) W 43 9 5 ⟨g, 0, none⟩ cap l Tryd.underlying43 Tryd.underlying5 Tryd.underlying9 (fun j hj => by
    have e : (Addr.add ⟨g, 0, none⟩ j) = ⟨g, j, none⟩ := by
      unfold Addr.add
      split
      · rename_i h0; subst h0; rfl
      · simp
    rw [e, hw j (by omega), hg j hj])
  rw [hl] at h
  have hz : (⟨l.toArray⟩ : ByteArray).size = y.size := by rw [← size_list]; simpa using hl
  have hb : ∀ j, j < y.size → byteAt ⟨l.toArray⟩ j = if j = k then c else byteAt y j := fun j hj => by
    obtain ⟨b, q0, q1⟩ := byteAt_list (s := ⟨l.toArray⟩) (k := j) (by omega)
    have q2 : l[j]? = some b := by simpa using q0
    rw [List.getElem?_eq_getElem (by omega)] at q2
    injection q2 with q2
    rw [← q1, ← q2, hg j (by omega)]
  refine ⟨_, h, hz, by rw [hb k hk, if_pos rfl], fun j hj => ?_⟩
  by_cases hl2 : j < y.size
  · rw [hb j hl2, if_neg hj]
  · unfold byteAt; rw [dif_neg (by omega), dif_neg hl2]
theorem fmt_back {z : Int} (h : fmtOk z = true) : numOk (fmtR z) = true ∧ numR (fmtR z) = z := by
  have hb : -999999 ≤ z ∧ z ≤ 999999 := by
    refine Classical.byContradiction fun q => ?_
    rw [fmtOk, inB_no (by omega)] at h; cases h
  have hn := (numOf_iff (fmtR z).data.toList z).2 ⟨by rw [fmtR, if_pos h, itoaB_bs, bs_list], hb⟩
  exact ⟨(num_some hn).2, (num_some hn).1⟩
theorem fmtR_size (z : Int) : (fmtR z).size ≤ 7 := by
  unfold fmtR
  split
  · rename_i h
    have hb : -999999 ≤ z ∧ z ≤ 999999 := by
      refine Classical.byContradiction fun q => ?_
      rw [fmtOk, inB_no (by omega)] at h; cases h
    rw [itoaB_bs, bs_size]
    exact (itoa_len hb.1 hb.2).2
  · show (0 : Nat) ≤ 7; omega
theorem appR_size (x : ByteArray) : (appR x).size ≤ 4000 := by
  unfold appR
  split
  · rename_i h
    rw [appOk, Bool.and_eq_true, decide_eq_true_iff] at h
    exact h.2
  · show (0 : Nat) ≤ 4000; omega
end Go.Proofs.YtgbfcaehijpgcaaDoor
