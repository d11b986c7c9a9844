/- What FnStrings draws. -/
import Derived.Test.YtgbfcaehijpgcaaDoorDj
import Derived.Test.YtgbfcaehijpgcaaDoorNw
import Derived.Test.YtgbfcaehijpgcaaDoorGi
namespace Go.Proofs.YtgbfcaehijpgcaaDoor
set_option maxRecDepth 100000
open Go Go.RowKit

theorem lit_rdI (w : World) (zs : List Int) {b : Nat} (hb : b < w.heap.size) (hz : ∀ z ∈ zs, IsI64 z) (hl : zs.length ≤ 60000) : D.rd (fun x => x ≠ b) (w.alloc (.cells (zs.map (Value.int .i64)).toArray 3)) (.slice (some ⟨w.heap.size, 0, none⟩) zs.length zs.length) (slOf intE zs) := by
  have hg : GI (w.alloc (.cells (zs.map (Value.int .i64)).toArray 3)) w.heap.size (.slice (some ⟨w.heap.size, 0, none⟩) zs.length zs.length) zs :=
    Gr.lit 3 rfl (Nat.le_refl _) (by simp) (by unfold maxLen; omega) (ownsL_ints zs hz) (by simp)
  obtain ⟨G, h1, h2⟩ := hg.own
  exact D.rd_mono (fun x hx => by have := h2 x hx; omega) _ _ (D.own_rd _ _ _ h1)
set_option maxHeartbeats 2000000 in
theorem drawFormat_any {w : World} {v : Value} {n : Nat} (h : Bytes w v n) : Calls Tryd.prog 41 #[v] w fun e w' => ∃ z : Int, e = .returned (.int .i64 z) ∧ Below w.heap.size w w' := by
  have hA : Below w.heap.size w (w.alloc (.cells #[v, .int .i64 0, .int .u64 0] 70)) := (Below.refl _ _).alloc (Nat.le_refl _) _
  have hC := Cur.new h
  obtain ⟨va, vc, rfl, -⟩ := h
  go_enter Tryd.func41, Tryd.ntmps41
  go_wp2_with fail
  generalize w.alloc (.cells #[.slice va n vc, .int .i64 0, .int .u64 0] 70) = w0 at *
  have hz0 := hA.size
  refine (pick_any (N := 1000) hC (by omega) (by omega) (by omega)).mono ?_
  rintro e w1 ⟨x, rfl, x0, x1, hc1, hg1⟩
  have hb1 : Below w.heap.size w w1 := hA.grown hg1 hz0 (fun k hk => by have hk' : w.heap.size = k := Option.some.inj hk; omega)
  have hl : w.heap.size < w1.heap.size := by obtain ⟨_, _, _, _, _, _, h, _⟩ := hc1; exact h
  have hA2 : Below w1.heap.size w1 (w1.alloc (.cells (([0, 1, -1, 10, 999999, -999999, 1000000, -1000000, x - 500] : List Int).map (Value.int .i64)).toArray 3)) := (Below.refl _ _).alloc (Nat.le_refl _) _
  have hq := among_any (hc1.below hA2) (by omega) (lit_rdI w1 [0, 1, -1, 10, 999999, -999999, 1000000, -1000000, x - 500] hl (fun z hz => by
    simp only [List.mem_cons, List.not_mem_nil, or_false] at hz
    unfold IsI64
    omega) (by simp)) (by simp) (by simp)
  go_wp2_with fail
  refine Calls.mono hq ?_
  rintro e w2 ⟨z, hz, rfl, hc2, hg2⟩
  go_wp2_with fail
  go_ret
  exact ⟨z, rfl, (hb1.trans (hA2.mono hb1.size)).grown hg2 (by rw [World.size_alloc]; have := hb1.size; omega) (fun k hk => by have hk' : w.heap.size = k := Option.some.inj hk; omega)⟩
def nums : List ByteArray := [⟨#[]⟩, ⟨#[45]⟩, ⟨#[45, 48]⟩, ⟨#[48, 48]⟩, ⟨#[48, 49]⟩, ⟨#[45, 45, 49]⟩, ⟨#[49, 120]⟩, ⟨#[57, 57, 57, 57, 57, 57]⟩, ⟨#[49, 48, 48, 48, 48, 48, 48]⟩, ⟨#[45, 57, 57, 57, 57, 57, 57]⟩, ⟨#[49, 56, 52, 52, 54, 55, 52, 52, 48, 55, 51, 55, 48, 57, 53, 53, 49, 54, 49, 55]⟩]
theorem nums_size : ∀ s ∈ nums, s.size ≤ 20 := by decide +kernel
set_option maxHeartbeats 2000000 in
theorem drawParse_any {w : World} {v : Value} {n : Nat} (h : Bytes w v n) : Calls Tryd.prog 42 #[v] w fun e w' => ∃ s, e = .returned (.string s) ∧ s.size ≤ 20 ∧ Below w.heap.size w w' := by
  have hA : Below w.heap.size w (w.alloc (.cells #[v, .int .i64 0, .int .u64 0] 70)) := (Below.refl _ _).alloc (Nat.le_refl _) _
  have hC := Cur.new h
  obtain ⟨va, vc, rfl, -⟩ := h
  go_enter Tryd.func42, Tryd.ntmps42
  go_wp2_with fail
  generalize w.alloc (.cells #[.slice va n vc, .int .i64 0, .int .u64 0] 70) = w0 at *
  have hz0 := hA.size
  refine (one_any (N := 2) hC (by omega) (by omega) (by omega)).mono ?_
  rintro e w1 ⟨r, rfl, hc1, hg1⟩
  have hb1 : Below w.heap.size w w1 := hA.grown hg1 hz0 (fun k hk => by have hk' : w.heap.size = k := Option.some.inj hk; omega)
  have hl : w.heap.size < w1.heap.size := by obtain ⟨_, _, _, _, _, _, h, _⟩ := hc1; exact h
  cases r
  · go_wp2_with fail
    refine (pick_any (N := 2000) hc1 (by omega) (by omega) (by omega)).mono ?_
    rintro e w2 ⟨x, rfl, x0, x1, hc2, hg2⟩
    have hb2 : Below w.heap.size w w2 := hb1.grown hg2 hb1.size (fun k hk => by have hk' : w.heap.size = k := Option.some.inj hk; omega)
    have hq := l1Num_any (x - 1000) (by omega) (by omega) w2
    have hlen := itoa_len (n := x - 1000) (by omega) (by omega)
    go_wp2_with fail
    refine hq.mono ?_
    rintro e w3 ⟨_, rfl, hb3, rfl⟩
    go_wp2_with fail
    go_ret
    exact ⟨_, rfl, by rw [itoaB]; show (Lib.itoa (x - 1000)).toArray.size ≤ 20; rw [List.size_toArray]; omega, hb2.trans (hb3.mono hb2.size)⟩
  · have hA2 : Below w1.heap.size w1 (w1.alloc (.cells (nums.map Value.string).toArray 9)) := (Below.refl _ _).alloc (Nat.le_refl _) _
    have hq := of_any (hc1.below hA2) (by omega) (lit_rd w1 nums hl (fun s hs => by have := nums_size s hs; unfold maxLen; omega) (by decide)) (by decide) (by decide)
    go_wp2_with fail
    refine Calls.mono hq ?_
    rintro e w2 ⟨q, rfl, hq2, hc2, hg2⟩
    go_wp2_with fail
    go_ret
    exact ⟨q, rfl, nums_size q hq2, (hb1.trans (hA2.mono hb1.size)).grown hg2 (by rw [World.size_alloc]; have := hb1.size; omega) (fun k hk => by have hk' : w.heap.size = k := Option.some.inj hk; omega)⟩
set_option maxHeartbeats 2000000 in
theorem drawAppend_any {w : World} {v : Value} {n : Nat} (h : Bytes w v n) : Calls Tryd.prog 43 #[v] w fun e w' => ∃ s, e = .returned (.string s) ∧ s.size ≤ 4000 ∧ Below w.heap.size w w' := by
  have hA : Below w.heap.size w (w.alloc (.cells #[v, .int .i64 0, .int .u64 0] 70)) := (Below.refl _ _).alloc (Nat.le_refl _) _
  have hC := Cur.new h
  obtain ⟨va, vc, rfl, -⟩ := h
  go_enter Tryd.func43, Tryd.ntmps43
  go_wp2_with fail
  generalize w.alloc (.cells #[.slice va n vc, .int .i64 0, .int .u64 0] 70) = w0 at *
  have hz0 := hA.size
  refine (one_any (N := 20) hC (by omega) (by omega) (by omega)).mono ?_
  rintro e w1 ⟨r, rfl, hc1, hg1⟩
  have hb1 : Below w.heap.size w w1 := hA.grown hg1 hz0 (fun k hk => by have hk' : w.heap.size = k := Option.some.inj hk; omega)
  cases r
  · go_wp2_with fail
    refine (any1_any hc1 (by omega)).mono ?_
    rintro e w2 ⟨s, rfl, hs, hc2, hg2⟩
    go_wp2_with fail
    go_ret
    exact ⟨s, rfl, by omega, hb1.grown hg2 hb1.size (fun k hk => by have hk' : w.heap.size = k := Option.some.inj hk; omega)⟩
  · go_wp2_with fail
    refine (pick_any (N := 10) hc1 (by omega) (by omega) (by omega)).mono ?_
    rintro e w3 ⟨y, rfl, y0, y1, hc3, hg3⟩
    have hb3 : Below w.heap.size w w3 := hb1.grown hg3 hb1.size (fun k hk => by have hk' : w.heap.size = k := Option.some.inj hk; omega)
    obtain ⟨m, hm⟩ : ∃ m : Nat, 3990 + y = (m : Int) := ⟨(3990 + y).toNat, by omega⟩
    have hm2 : m ≤ 3999 := by omega
    have hmk : (Instr.makeSlice 43 (.int .i64 (m : Int)) (.int .i64 (m : Int))).run Tryd.prog w3 = .ok (.slice (some ⟨w3.heap.size, 0, none⟩) m m) (w3.alloc (.cells (madeCells #[.int .u8 0] m) 5)) := by
      have := run_mk (P := Tryd.prog) Tryd.underlying43 infoByte m (by omega) (by unfold big; omega) w3
      rw [Nat.mul_one] at this
      exact this
    have hcv := run_zeros w3 m
    have hA3 : Below w3.heap.size w3 (w3.alloc (.cells (madeCells #[.int .u8 0] m) 5)) := (Below.refl _ _).alloc (Nat.le_refl _) _
    have hzz := zeros_size m
    go_wp2_with fail
    go_ret
    exact ⟨_, rfl, by rw [zeros_size]; omega, hb3.trans (hA3.mono hb3.size)⟩
set_option maxHeartbeats 1000000 in
theorem vAt_any {w : World} {v : Value} {n : Nat} (h : Bytes w v n) (hn : n ≤ 65536) (i : Nat) (hi : i ≤ 10) : Calls Tryd.prog 44 #[v, .int .i64 i] w fun e w' => (∃ r : Int, e = .returned (.int .i64 r) ∧ 0 ≤ r ∧ r ≤ 255) ∧ w = w' := by
  obtain ⟨va, vc, rfl, h1, h2, h3⟩ := h
  unfold big at h1
  by_cases hlt : i < n
  · obtain ⟨b, off, rfl, -, hb, hx⟩ := h3 (by omega)
    obtain ⟨x, q0, x0, x1⟩ := hx i hlt
    have hlt' : (i : Int) < n := by omega
    clear hx h3
    go_enter Tryd.func44, Tryd.ntmps44
    go_wp2_with fail
    go_ret
    exact ⟨⟨x, rfl, x0, x1⟩, rfl⟩
  · have hlt' : ¬ (i : Int) < n := by omega
    clear h3
    go_enter Tryd.func44, Tryd.ntmps44
    go_wp2_with fail
    go_ret
    exact ⟨⟨_, rfl, by omega, by omega⟩, rfl⟩
end Go.Proofs.YtgbfcaehijpgcaaDoor
