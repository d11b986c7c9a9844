/- Choices that are drawn from bytes. -/
import Derived.Test.YtgbfcaehijpgcaaDoorTp
import Derived.Test.YtgbfcaehijpgcaaDoorAp
import Derived.Test.YtgbfcaehijpgcaaDoorGr
import Derived.Test.YtgbfcaehijpgcaaDoorSj
import Derived.Test.YtgbfcaehijpgcaaDoorIl
import Derived.ChangeSlices
import Derived.BigQuiet
namespace Go.Proofs.YtgbfcaehijpgcaaDoor
set_option maxRecDepth 100000
open Go Go.RowKit

/-- bytes that lie below B -/
def BytesAt (B : Nat) (w : World) (v : Value) (n : Nat) : Prop := ∃ a cap, v = .slice a n cap ∧ n ≤ big ∧ n ≤ cap ∧ (n ≠ 0 → ∃ b off, a = some ⟨b, off, none⟩ ∧ b < B ∧ b < w.heap.size ∧ ∀ k, k < n → ∃ x : Int, w.cell? ⟨b, off + k, none⟩ = some (.int .u8 x) ∧ 0 ≤ x ∧ x ≤ 255)
theorem BytesAt.keep {B : Nat} {w w' : World} {v : Value} {n : Nat} (h : BytesAt B w v n) (hz : w.heap.size ≤ w'.heap.size) (hb : ∀ k, k < B → k < w.heap.size → w'.heap[k]? = w.heap[k]?) : BytesAt B w' v n := by
  obtain ⟨a, cap, rfl, h1, h2, h3⟩ := h
  refine ⟨a, cap, rfl, h1, h2, fun hn => ?_⟩
  obtain ⟨b, off, rfl, q1, q2, q3⟩ := h3 hn
  refine ⟨b, off, rfl, q1, Nat.lt_of_lt_of_le q2 hz, fun k hk => ?_⟩
  obtain ⟨x, r1, r2⟩ := q3 k hk
  exact ⟨x, (World.cell?_of_block (a := ⟨b, off + k, none⟩) (hb b q1 q2)).trans r1, r2⟩
/-- a cursor lies at block b; at most k bytes are read -/
def Cur (w : World) (b k : Nat) : Prop := ∃ (v : Value) (n p : Nat) (s : Int), BytesAt b w v n ∧ p ≤ k ∧ b < w.heap.size ∧ w.cell? ⟨b, 0, none⟩ = some v ∧ w.cell? ⟨b, 1, none⟩ = some (.int .i64 p) ∧ w.cell? ⟨b, 2, none⟩ = some (.int .u64 s) ∧ ∀ i, w.frozen? ⟨b, i, none⟩ = false
theorem Cur.keep {w w' : World} {b k : Nat} (h : Cur w b k) (hz : w.heap.size ≤ w'.heap.size) (hb : ∀ k, k < w.heap.size → w'.heap[k]? = w.heap[k]?) : Cur w' b k := by
  obtain ⟨v, n, p, s, h1, h2, h3, h4, h5, h6, h7⟩ := h
  have e := hb b h3
  exact ⟨v, n, p, s, h1.keep hz (fun k _ hk => hb k hk), h2, Nat.lt_of_lt_of_le h3 hz, (World.cell?_of_block (a := ⟨b, 0, none⟩) e).trans h4, (World.cell?_of_block (a := ⟨b, 1, none⟩) e).trans h5, (World.cell?_of_block (a := ⟨b, 2, none⟩) e).trans h6, fun i => (World.frozen?_of_block (a := ⟨b, i, none⟩) e).trans (h7 i)⟩
theorem Cur.below {w w' : World} {b k : Nat} (h : Cur w b k) (hb : Below w.heap.size w w') : Cur w' b k := h.keep hb.size hb.block
theorem Cur.mono {w : World} {b k k' : Nat} (h : Cur w b k) (hk : k ≤ k') : Cur w b k' := by
  obtain ⟨v, n, p, s, h1, h2, h3⟩ := h
  exact ⟨v, n, p, s, h1, Nat.le_trans h2 hk, h3⟩
/-- a number that is drawn -/
def Drew (lo hi : Int) (b k : Nat) (w : World) (e : Ending) (w' : World) : Prop := ∃ r : Int, e = .returned (.int .i64 r) ∧ lo ≤ r ∧ r ≤ hi ∧ Cur w' b k ∧ w.grownBy w' (some b)
theorem and255 (X : Int) : 0 ≤ wrap64 (bits .and .u64 (IntKind.u64.wrap X / 1099511627776) 255) ∧ wrap64 (bits .and .u64 (IntKind.u64.wrap X / 1099511627776) 255) ≤ 255 := by
  have h1 : 0 ≤ IntKind.u64.wrap X ∧ IntKind.u64.wrap X < 18446744073709551616 := by rw [IntKind.wrap_u64]; omega
  generalize IntKind.u64.wrap X = Y at *
  have h2 : 0 ≤ Y / 1099511627776 ∧ Y / 1099511627776 < 18446744073709551616 := by omega
  generalize Y / 1099511627776 = Z at *
  have h := bits_and_u64_nat Z.toNat 255 (by omega) (by omega)
  rw [Int.toNat_of_nonneg h2.1] at h
  have h3 : Z.toNat &&& 255 ≤ 255 := Nat.and_le_right
  have h4 : bits .and .u64 Z 255 = ((Z.toNat &&& 255 : Nat) : Int) := h
  rw [h4]
  unfold wrap64
  omega
theorem cur_step {w : World} {b k n p m m2 : Nat} {u1 u2 s' : Value} {v : Value} {s2 : Int} (hs : s' = .int .u64 s2) (hB : BytesAt b w v n) (hp : p ≤ k) (hl : b < w.heap.size) (e0 : w.cell? ⟨b, 0, none⟩ = some v) (e1 : w.cell? ⟨b, 1, none⟩ = some u1) (e2 : w.cell? ⟨b, 2, none⟩ = some u2) (hf : ∀ i, w.frozen? ⟨b, i, none⟩ = false) :
    Cur ((((w.drewN m).setCell ⟨b, 1, none⟩ (.int .i64 ((p : Int) + 1))).setCell ⟨b, 2, none⟩ s').drewN m2) b (k + 1) ∧ w.grownBy ((((w.drewN m).setCell ⟨b, 1, none⟩ (.int .i64 ((p : Int) + 1))).setCell ⟨b, 2, none⟩ s').drewN m2) (some b) := by
  subst hs
  have hz : w.heap.size = ((((w.drewN m).setCell ⟨b, 1, none⟩ (.int .i64 ((p : Int) + 1))).setCell ⟨b, 2, none⟩ (.int .u64 s2)).drewN m2).heap.size := by
    show w.heap.size = (((w.drewN m).setCell ⟨b, 1, none⟩ (.int .i64 ((p : Int) + 1))).setCell ⟨b, 2, none⟩ (.int .u64 s2)).heap.size
    rw [World.size_setCell, World.size_setCell]; rfl
  have hk : ∀ j, j ≠ b → ((((w.drewN m).setCell ⟨b, 1, none⟩ (.int .i64 ((p : Int) + 1))).setCell ⟨b, 2, none⟩ (.int .u64 s2)).drewN m2).heap[j]? = w.heap[j]? := fun j hj => by
    show (((w.drewN m).setCell ⟨b, 1, none⟩ (.int .i64 ((p : Int) + 1))).setCell ⟨b, 2, none⟩ (.int .u64 s2)).heap[j]? = _
    rw [Below.heap_setCell _ _ _ _ hj, Below.heap_setCell _ _ _ _ hj]; rfl
  refine ⟨⟨v, n, p + 1, s2, hB.keep (Nat.le_of_eq hz) (fun j hj _ => hk j (by omega)), by omega, by omega, ?_, ?_, ?_, fun i => ?_⟩, ⟨rfl, rfl, rfl, Nat.le_of_eq hz, fun j _ hne => hk j fun e => hne (by rw [e])⟩⟩
  · show (((w.drewN m).setCell ⟨b, 1, none⟩ (.int .i64 ((p : Int) + 1))).setCell ⟨b, 2, none⟩ (.int .u64 s2)).cell? ⟨b, 0, none⟩ = _
    rw [World.cell?_setCell_other _ _ _ _ (by intro e; injection e with _ e; cases e), World.cell?_setCell_other _ _ _ _ (by intro e; injection e with _ e; cases e)]; exact e0
  · show (((w.drewN m).setCell ⟨b, 1, none⟩ (.int .i64 ((p : Int) + 1))).setCell ⟨b, 2, none⟩ (.int .u64 s2)).cell? ⟨b, 1, none⟩ = _
    rw [World.cell?_setCell_other _ _ _ _ (by intro e; injection e with _ e; cases e)]
    exact World.cell?_setCell_same (u := u1) (w.drewN m) ⟨b, 1, none⟩ (.int .i64 ((p : Int) + 1)) e1
  · show (((w.drewN m).setCell ⟨b, 1, none⟩ (.int .i64 ((p : Int) + 1))).setCell ⟨b, 2, none⟩ (.int .u64 s2)).cell? ⟨b, 2, none⟩ = _
    refine World.cell?_setCell_same (u := u2) _ _ _ ?_
    rw [World.cell?_setCell_other _ _ _ _ (by intro e; injection e with _ e; cases e)]; exact e2
  · show (((w.drewN m).setCell ⟨b, 1, none⟩ (.int .i64 ((p : Int) + 1))).setCell ⟨b, 2, none⟩ (.int .u64 s2)).frozen? ⟨b, i, none⟩ = false
    rw [World.frozen?_setCell, World.frozen?_setCell]; exact hf i
set_option maxHeartbeats 2000000 in
theorem next_any {b k : Nat} {w : World} (h : Cur w b k) (hk : k ≤ 1048576) : Calls Tryd.prog 80 #[.pointer (some ⟨b, 0, none⟩)] w (Drew 0 255 b (k + 1) w) := by
  obtain ⟨v, n, p, s, hB, hp, hl, e0, e1, e2, hf⟩ := h
  have HB := hid hB
  have HF := hid hf
  obtain ⟨a, cap, rfl, hn, hc, hr⟩ := hB
  unfold big at hn
  have f1 := hf 1
  have f2 := hf 2
  by_cases hlt : p < n
  · obtain ⟨cb, off, rfl, hcb, hcl, hx⟩ := hr (by omega)
    obtain ⟨x, q0, hx0, hx1⟩ := hx p hlt
    have hpn : (p : Int) < n := by omega
    have hpn1 : (p : Int) + 1 ≤ n := by omega
    clear hx hr hf
    go_enter Tryd.func80, Tryd.ntmps80
    go_wp2_with fail
    go_quiet (fail)
    go_wp2_with fail
    go_quiet (fail)
    go_wp2_with fail
    go_quiet (fail)
    go_wp2_with fail
    go_ret
    obtain ⟨h1, h2⟩ := cur_step rfl HB.out hp hl e0 e1 e2 HF.out
    exact ⟨x, rfl, hx0, hx1, h1, h2⟩
  · have hpn : ¬ (p : Int) < n := by omega
    have hpn1 : ¬ (p : Int) + 1 ≤ n := by omega
    clear hr hf
    go_enter Tryd.func80, Tryd.ntmps80
    go_wp2_with fail
    go_quiet (fail)
    go_wp2_with fail
    go_quiet (fail)
    go_wp2_with fail
    go_ret
    obtain ⟨h1, h2⟩ := cur_step rfl HB.out hp hl e0 e1 e2 HF.out
    exact ⟨_, rfl, (and255 _).1, (and255 _).2, h1, h2⟩
set_option maxHeartbeats 2000000 in
theorem pick_any {b k N : Nat} {w : World} (h : Cur w b k) (hk : k ≤ 1000000) (hN : 1 ≤ N) (hN2 : N ≤ 60000) : Calls Tryd.prog 65 #[.pointer (some ⟨b, 0, none⟩), .int .i64 N] w (Drew 0 (N - 1) b (k + 2) w) := by
  by_cases h1 : N ≤ 1
  · have h1' : (N : Int) ≤ 1 := by omega
    go_enter Tryd.func65, Tryd.ntmps65
    go_wp2_with fail
    go_ret
    exact ⟨0, rfl, Int.le_refl _, by omega, h.mono (by omega), grown_refl _ _⟩
  · have h1' : ¬ (N : Int) ≤ 1 := by omega
    have hN0 : (N : Int) ≠ 0 := by omega
    by_cases h2 : 200 < N
    · have h2' : (200 : Int) < N := by omega
      go_enter Tryd.func65, Tryd.ntmps65
      go_wp2_with fail
      refine (next_any h (by omega)).mono ?_
      rintro e w1 ⟨x, rfl, x0, x1, hc1, hg1⟩
      go_wp2_with fail
      refine (next_any hc1 (by omega)).mono ?_
      rintro e w2 ⟨y, rfl, y0, y1, hc2, hg2⟩
      go_wp2_with fail
      go_ret
      exact ⟨_, rfl, Int.emod_nonneg _ hN0, by have := Int.emod_lt_of_pos (x * 256 + y) (show (0 : Int) < N by omega); omega, hc2, grown_trans hg1 hg2 (fun x h => .inl h)⟩
    · have h2' : ¬ (200 : Int) < N := by omega
      go_enter Tryd.func65, Tryd.ntmps65
      go_wp2_with fail
      refine (next_any h (by omega)).mono ?_
      rintro e w1 ⟨x, rfl, x0, x1, hc1, hg1⟩
      go_wp2_with fail
      go_ret
      exact ⟨_, rfl, Int.emod_nonneg _ hN0, by have := Int.emod_lt_of_pos x (show (0 : Int) < N by omega); omega, hc1.mono (by omega), hg1⟩
/-- a bool that is drawn -/
def DrewB (b k : Nat) (w : World) (e : Ending) (w' : World) : Prop := ∃ r : Bool, e = .returned (.bool r) ∧ Cur w' b k ∧ w.grownBy w' (some b)
theorem one_any {b k N : Nat} {w : World} (h : Cur w b k) (hk : k ≤ 1000000) (hN : 1 ≤ N) (hN2 : N ≤ 60000) : Calls Tryd.prog 66 #[.pointer (some ⟨b, 0, none⟩), .int .i64 N] w (DrewB b (k + 2) w) := by
  go_enter Tryd.func66, Tryd.ntmps66
  go_wp2_with fail
  refine (pick_any h hk hN hN2).mono ?_
  rintro e w1 ⟨x, rfl, x0, x1, hc1, hg1⟩
  go_wp2_with fail
  go_ret
  exact ⟨_, rfl, hc1, hg1⟩
/-- a string that is drawn -/
def DrewS (P : ByteArray → Prop) (b k : Nat) (w : World) (e : Ending) (w' : World) : Prop := ∃ s, e = .returned (.string s) ∧ P s ∧ Cur w' b k ∧ w.grownBy w' (some b)
theorem keeps_cur {w w' : World} {b : Nat} (hg : w.grownBy w' (some b)) : Keeps (fun x => x ≠ b) w w' := ⟨hg.size, fun x hx hl => hg.block x hl fun e => hx (Option.some.inj e)⟩
set_option maxHeartbeats 1000000 in
theorem of_any {b k : Nat} {w : World} {ss : List ByteArray} {v : Value} (h : Cur w b k) (hk : k ≤ 1000000) (hv : D.rd (fun x => x ≠ b) w v (slOf strE ss)) (hn : 1 ≤ ss.length) (hn2 : ss.length ≤ 60000) : Calls Tryd.prog 64 #[.pointer (some ⟨b, 0, none⟩), v] w (DrewS (· ∈ ss) b (k + 2) w) := by
  obtain ⟨a, cap, rfl, -, -⟩ := slOf_form hv
  have hp := pick_any (N := ss.length) h hk hn hn2
  have hne : ss ≠ [] := by intro e; rw [e] at hn; simp at hn
  go_enter Tryd.func64, Tryd.ntmps64
  go_wp2_with fail
  refine hp.mono ?_
  rintro e w1 ⟨x, rfl, x0, x1, hc1, hg1⟩
  obtain ⟨j, rfl⟩ : ∃ j : Nat, x = j := ⟨x.toNat, by omega⟩
  have hj : j < ss.length := by omega
  obtain ⟨g, off, rfl, hgb, hgl, hrr⟩ := strs_get (D.rd_keep (keeps_cur hg1) _ _ hv) hne
  obtain ⟨q0, -⟩ := hrr j hj
  clear hrr hp
  go_wp2_with fail
  go_ret
  exact ⟨_, rfl, List.getElem_mem hj, hc1, hg1⟩
set_option maxHeartbeats 1000000 in
theorem among_any {b k : Nat} {w : World} {ss : List Int} {v : Value} (h : Cur w b k) (hk : k ≤ 1000000) (hv : D.rd (fun x => x ≠ b) w v (slOf intE ss)) (hn : 1 ≤ ss.length) (hn2 : ss.length ≤ 60000) : Calls Tryd.prog 70 #[.pointer (some ⟨b, 0, none⟩), v] w fun e w' => ∃ z ∈ ss, e = .returned (.int .i64 z) ∧ Cur w' b (k + 2) ∧ w.grownBy w' (some b) := by
  obtain ⟨a, cap, rfl, -, -⟩ := slOf_form hv
  have hp := pick_any (N := ss.length) h hk hn hn2
  have hne : ss ≠ [] := by intro e; rw [e] at hn; simp at hn
  go_enter Tryd.func70, Tryd.ntmps70
  go_wp2_with fail
  refine hp.mono ?_
  rintro e w1 ⟨x, rfl, x0, x1, hc1, hg1⟩
  obtain ⟨j, rfl⟩ : ∃ j : Nat, x = j := ⟨x.toNat, by omega⟩
  have hj : j < ss.length := by omega
  obtain ⟨g, off, rfl, hgb, hgl, hrr⟩ := ints_get (D.rd_keep (keeps_cur hg1) _ _ hv) hne
  obtain ⟨q0, -⟩ := hrr j hj
  clear hrr hp
  go_wp2_with fail
  go_ret
  exact ⟨_, List.getElem_mem hj, rfl, hc1, hg1⟩
/-- a literal's strings -/
theorem lit_rd (w : World) (ss : List ByteArray) {b : Nat} (hb : b < w.heap.size) (hs : ∀ s ∈ ss, s.size ≤ maxLen) (hl : ss.length ≤ 60000) : D.rd (fun x => x ≠ b) (w.alloc (.cells (ss.map Value.string).toArray 9)) (.slice (some ⟨w.heap.size, 0, none⟩) ss.length ss.length) (slOf strE ss) :=
  slOf_strs (ss := ss) (by omega) (by simp) (by unfold big; omega) (fun i hi => ⟨by rw [box1]; simp [hi], hs _ (List.getElem_mem hi)⟩) (Nat.le_refl _)
def words : List ByteArray := [⟨#[]⟩, ⟨#[97]⟩, ⟨#[97, 44, 98]⟩, ⟨#[115, 111, 109, 101, 32, 119, 111, 114, 100, 115]⟩, ⟨#[120, 35, 121]⟩, ⟨#[45, 49, 50]⟩, ⟨#[0, 255]⟩, ⟨#[44, 44]⟩, ⟨#[48]⟩]
theorem words_size : ∀ s ∈ words, s.size ≤ 10 := by decide +kernel
set_option maxHeartbeats 1000000 in
theorem any1_any {b k : Nat} {w : World} (h : Cur w b k) (hk : k ≤ 1000000) : Calls Tryd.prog 63 #[.pointer (some ⟨b, 0, none⟩)] w (DrewS (fun s => s.size ≤ 10) b (k + 2) w) := by
  have hl : b < w.heap.size := by obtain ⟨_, _, _, _, _, _, h, _⟩ := h; exact h
  have hA : Below w.heap.size w (w.alloc (.cells (words.map Value.string).toArray 9)) := (Below.refl _ _).alloc (Nat.le_refl _) _
  have hq := of_any (h.below hA) hk (lit_rd w words hl (fun s hs => by have := words_size s hs; unfold maxLen; omega) (by decide)) (by decide) (by decide)
  go_enter Tryd.func63, Tryd.ntmps63
  go_wp2_with fail
  refine Calls.mono hq ?_
  rintro e w1 ⟨s, rfl, hs, hc, hg⟩
  go_wp2_with fail
  go_ret
  exact ⟨s, rfl, words_size s hs, hc, grown_trans (grown_of_below hA _) hg (fun x h => .inl h)⟩
end Go.Proofs.YtgbfcaehijpgcaaDoor
