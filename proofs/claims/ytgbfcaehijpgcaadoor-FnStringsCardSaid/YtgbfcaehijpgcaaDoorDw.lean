/- What the laws on strings draw. -/
import Derived.Test.YtgbfcaehijpgcaaDoorCu
import Derived.Test.YtgbfcaehijpgcaaDoorMt
import Derived.Test.YtgbfcaehijpgcaaDoorIl
import Derived.Test.YtgbfcaehijpgcaaDoorBr
namespace Go.Proofs.YtgbfcaehijpgcaaDoor
set_option maxRecDepth 100000
open Go Go.RowKit
open Go.ChangeShapes Go.WideShapes Go.ChangeAt

theorem cellsByte1 : Tryd.prog.cellsOf 5 = 1 := by kernel_rfl
theorem infoByte : (Tryd.prog.info? 5).map (fun i => (i.zero, i.size, i.bytes)) = some (some (.int .u8 0), 1, 1) := by kernel_rfl
/-- some bytes -/
def Bytes (w : World) (v : Value) (n : Nat) : Prop := BytesAt w.heap.size w v n
theorem BytesAt.up {B B' : Nat} {w : World} {v : Value} {n : Nat} (h : BytesAt B w v n) (hB : ∀ b, b < B → b < w.heap.size → b < B') : BytesAt B' w v n := by
  obtain ⟨a, cap, rfl, h1, h2, h3⟩ := h
  refine ⟨a, cap, rfl, h1, h2, fun hn => ?_⟩
  obtain ⟨b, off, rfl, q1, q2, q3⟩ := h3 hn
  exact ⟨b, off, rfl, hB b q1 q2, q2, q3⟩
theorem Bytes.keep {w w' : World} {v : Value} {n : Nat} (h : Bytes w v n) (hb : Below w.heap.size w w') : Bytes w' v n := by
  have := BytesAt.keep h hb.size (fun k _ hk => hb.block k hk)
  exact this.up (fun b _ h => h)
theorem Cur.new {w : World} {v : Value} {n : Nat} (h : Bytes w v n) : Cur (w.alloc (.cells #[v, .int .i64 0, .int .u64 0] 70)) w.heap.size 0 := by
  refine ⟨v, n, 0, 0, ?_, Nat.le_refl _, by simp, ?_, ?_, ?_, fun i => World.frozen?_alloc_at _ _ _ i rfl⟩
  · have hA : Below w.heap.size w (w.alloc (.cells #[v, .int .i64 0, .int .u64 0] 70)) := (Below.refl _ _).alloc (Nat.le_refl _) _
    exact BytesAt.keep h hA.size (fun k _ hk => hA.block k hk)
  · rw [box1]; rfl
  · rw [box1]; rfl
  · rw [box1]; rfl
section
variable {H : Type} {enc' : TypeId × Value → H} {w : World}
theorem open_ByteS {r : Reach} {b0 : Nat} {v : Value} {d : DataW H} {p : List MemPlace} (hv : Value.okWide Tryd.prog w r b0 43 v) (h : DataW.Trod enc' Tryd.prog w 0 (fun _ => true) true 43 v d p) :
    ∃ n, Bytes w v n := by
  obtain ⟨a, len, cap, rfl⟩ := okWide_slice Tryd.underlying43 hv
  obtain ⟨fuel, hf⟩ := h
  rcases open_ints Tryd.underlying43 Tryd.underlying5 cellsByte1 hf with ⟨h0, _⟩ | ⟨a', len', cap', zs, h0, _, hl, hm, hz, _, hc, hwf⟩
  · obtain h0 : Value.slice a len cap = .slice none 0 0 := by simpa [Value.cells] using h0
    rw [h0]
    exact ⟨0, none, 0, rfl, Nat.zero_le _, Nat.zero_le _, fun h => absurd rfl h⟩
  · obtain h0 : Value.slice a len cap = .slice (some a') len' cap' := by simpa [Value.cells] using h0
    rw [h0]
    rw [if_pos rfl] at hz
    have hmx : maxLen = big := rfl
    refine ⟨len', some a', cap', rfl, by omega, hl, fun hn => ?_⟩
    have hc0 := hc 0 (by omega)
    have ha : a' = ⟨a'.block, a'.off, none⟩ := by
      have := spot_none hc0
      simpa [Addr.add] using this
    have hbl := World.block_lt_of_cell? _ _ hc0
    replace hbl : a'.block < w.heap.size := by simpa [Addr.add] using hbl
    refine ⟨a'.block, a'.off, congrArg some ha, hbl, hbl, fun k hk => ⟨zs.getD k 0, ?_, ?_⟩⟩
    · have := hc k (by omega)
      rw [← this]
      congr 1
      rw [ha]
      simp only [Addr.add]
      split
      · rename_i h0; subst h0; rfl
      · rfl
    · have := hwf (zs.getD k 0) (by rw [List.getD_eq_getElem?_getD, List.getElem?_eq_getElem (show k < zs.length by omega)]; exact List.getElem_mem _)
      generalize zs.getD k 0 = y at *
      have e : (Lit.int .u8 y).wf = true := this
      simp [Lit.wf, IntKind.min, IntKind.max, IntKind.signed, IntKind.bits] at e
      omega
end
theorem vBig_any {w : World} {v : Value} {n : Nat} (h : Bytes w v n) : Calls Tryd.prog 33 #[v] w fun e w' => e = .returned (.bool (decide (65536 < (n : Int)))) ∧ w = w' := by
  obtain ⟨a, cap, rfl, h1, h2, -⟩ := h
  unfold big at h1
  go_enter Tryd.func33, Tryd.ntmps33
  go_wp2_with fail
  go_ret
  exact ⟨rfl, rfl⟩
def seps1 : List ByteArray := [⟨#[44]⟩, ⟨#[44]⟩, ⟨#[32]⟩, ⟨#[]⟩, ⟨#[44, 44]⟩]
def seps2 : List ByteArray := [⟨#[44]⟩, ⟨#[59]⟩, ⟨#[59]⟩, ⟨#[]⟩, ⟨#[97, 98]⟩]
theorem seps1_size : ∀ s ∈ seps1, s.size ≤ 10 := by decide +kernel
theorem seps2_size : ∀ s ∈ seps2, s.size ≤ 10 := by decide +kernel
set_option maxHeartbeats 1000000 in
theorem drawSplit_any {w : World} {v : Value} {n : Nat} (h : Bytes w v n) : Calls Tryd.prog 34 #[v] w fun e w' => ∃ s q, e = .returned (.tuple #[.string s, .string q]) ∧ s.size ≤ 10 ∧ q.size ≤ 10 ∧ Below w.heap.size w w' := by
  have hA : Below w.heap.size w (w.alloc (.cells #[v, .int .i64 0, .int .u64 0] 70)) := (Below.refl _ _).alloc (Nat.le_refl _) _
  have hC := Cur.new h
  obtain ⟨va, vc, rfl, -⟩ := h
  go_enter Tryd.func34, Tryd.ntmps34
  go_wp2_with fail
  generalize w.alloc (.cells #[.slice va n vc, .int .i64 0, .int .u64 0] 70) = w0 at *
  have hz0 := hA.size
  refine (any1_any hC (by omega)).mono ?_
  rintro e w1 ⟨s, rfl, hs, hc1, hg1⟩
  have hb1 : Below w.heap.size w w1 := hA.grown hg1 hz0 (fun k hk => by have hk' : w.heap.size = k := Option.some.inj hk; omega)
  have hA2 : Below w1.heap.size w1 (w1.alloc (.cells (seps1.map Value.string).toArray 9)) := (Below.refl _ _).alloc (Nat.le_refl _) _
  have hl : w.heap.size < w1.heap.size := by obtain ⟨_, _, _, _, _, _, h, _⟩ := hc1; exact h
  have hq := of_any (hc1.below hA2) (by omega) (lit_rd w1 seps1 hl (fun s hs => by have := seps1_size s hs; unfold maxLen; omega) (by decide)) (by decide) (by decide)
  go_wp2_with fail
  refine Calls.mono hq ?_
  rintro e w2 ⟨q, rfl, hq2, hc2, hg2⟩
  go_wp2_with fail
  go_ret2
  exact ⟨s, q, rfl, hs, seps1_size q hq2, (hb1.trans (hA2.mono hb1.size)).grown hg2 (by rw [World.size_alloc]; have := hb1.size; omega) (fun k hk => by have hk' : w.heap.size = k := Option.some.inj hk; omega)⟩
set_option maxHeartbeats 1000000 in
theorem drawLess_any {w : World} {v : Value} {n : Nat} (h : Bytes w v n) : Calls Tryd.prog 38 #[v] w fun e w' => ∃ s q, e = .returned (.tuple #[.string s, .string q]) ∧ Below w.heap.size w w' := by
  have hA : Below w.heap.size w (w.alloc (.cells #[v, .int .i64 0, .int .u64 0] 70)) := (Below.refl _ _).alloc (Nat.le_refl _) _
  have hC := Cur.new h
  obtain ⟨va, vc, rfl, -⟩ := h
  go_enter Tryd.func38, Tryd.ntmps38
  go_wp2_with fail
  generalize w.alloc (.cells #[.slice va n vc, .int .i64 0, .int .u64 0] 70) = w0 at *
  have hz0 := hA.size
  refine (any1_any hC (by omega)).mono ?_
  rintro e w1 ⟨s, rfl, hs, hc1, hg1⟩
  have hb1 : Below w.heap.size w w1 := hA.grown hg1 hz0 (fun k hk => by have hk' : w.heap.size = k := Option.some.inj hk; omega)
  go_wp2_with fail
  refine (any1_any hc1 (by omega)).mono ?_
  rintro e w2 ⟨q, rfl, hq2, hc2, hg2⟩
  go_wp2_with fail
  go_ret2
  exact ⟨s, q, rfl, hb1.grown hg2 hb1.size (fun k hk => by have hk' : w.heap.size = k := Option.some.inj hk; omega)⟩
theorem impl_LessString (s q : ByteArray) (w : World) : Calls Tryd.prog 39 #[.string s, .string q] w fun e w' => e = .returned (.bool (Op.bytesLess s.toList q.toList)) ∧ w = w' := by
  go_enter Tryd.func39, Tryd.ntmps39
  go_wp2_with fail
  go_ret
  exact ⟨rfl, rfl⟩
theorem spec_LessString (s q : ByteArray) (w : World) : Calls Tryd.prog 40 #[.string s, .string q] w fun e w' => e = .returned (.bool (Op.bytesLess s.toList q.toList)) ∧ w = w' := by
  go_enter Tryd.func40, Tryd.ntmps40
  go_wp2_with fail
  go_ret
  exact ⟨rfl, rfl⟩
end Go.Proofs.YtgbfcaehijpgcaaDoor
