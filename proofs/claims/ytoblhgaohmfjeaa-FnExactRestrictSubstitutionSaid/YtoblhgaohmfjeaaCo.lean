/- The implementation's copies of terms. NOT BUILT YET. -/
import Derived.Test.YtoblhgaohmfjeaaTo
import Derived.Deep.RegionHeld3
namespace Go.Proofs.Ytoblhgaohmfjeaa
set_option maxRecDepth 100000
open Go.RowKit

def CopyT (t : Tm) : Prop := ∀ (S : Nat → Prop) (c0 c1 : Value) (w : World), Tm.at S w c0 c1 t → t.bulk ≤ 1048576 → Calls Try.prog 63 #[.agg #[c0, c1]] w (MadeT t w)
def CopyS (ts : List Tm) : Prop := ∀ (S : Nat → Prop) (v : Value) (w : World), D.rd S w v (Tm.sd ts) → ts.length + Tm.bulks ts ≤ 1048576 → Calls Try.prog 79 #[v] w (MadeS ts w)

set_option maxHeartbeats 400000 in
theorem copyTermS_of (ts : List Tm) (h : ∀ t ∈ ts, CopyT t) : CopyS ts := by
  intro S v w hr hbk
  obtain ⟨a, cap, rfl, hlen, hcap⟩ := Tm.sd_form hr
  have hmk := run_mk (P := Try.prog) Try.underlying27 infoTerm ts.length (by omega) hlen
  unfold big at hlen
  by_cases h0 : ts.length = 0
  · have h0' : ((ts.length : Int) == 0) = true := by simp [h0]
    have H0 := hid h0
    clear h0 hmk
    go_enter Try.func79, Try.ntmps79
    go_wp2_with fail
    go_ret
    obtain rfl : ts = [] := List.length_eq_zero_iff.1 H0.out
    exact ⟨_, [], rfl, by rw [Tm.sd, D.own]; exact ⟨none, 0, rfl, by simp, by simp, by simp, .inl ⟨by simp [Tm.css], rfl⟩⟩, by simp, Below.refl _ _⟩
  have h0' : ((ts.length : Int) == 0) = false := by simpa using h0
  clear h0
  go_enter Try.func79, Try.ntmps79
  go_wp2_with fail
  go_loopw [14] (fun i wr => ∃ (k : Nat) (F : List Nat), k ≤ ts.length ∧ i = .int .i64 k ∧ Filled wr w.heap.size 29 (ts.length * 2) (Tm.css (ts.take k)) F ∧ (∀ x ∈ F, w.heap.size < x) ∧ Below w.heap.size w wr) (fun i _ => ts.length - (intOf i).toNat)
  case atStart =>
    refine ⟨0, [], Nat.zero_le _, rfl, ?_, by simp, (Below.refl _ _).alloc (Nat.le_refl _) _⟩
    have := Filled.made w (madeCells #[Value.string ByteArray.empty, Value.slice none 0 0] (ts.length * 2)) 29
    rw [size_madeCells] at this
    simpa [Tm.css] using this
  case round =>
    obtain ⟨k, F, hk, rfl, hfl, hF, hb⟩ := hrel
    by_cases hlt : k < ts.length
    · have hne : ts ≠ [] := by intro e; subst e; simp at hlt
      obtain ⟨b, off, rfl, hS, hbl, hrr⟩ := Tm.sd_get hr hne
      obtain ⟨c0, c1, q0, q1, q2⟩ := hrr k hlt
      have q0' := (hb.cell (p := ⟨b, off + k * 2, none⟩) hbl).trans q0
      have q1' := (hb.cell (p := ⟨b, off + k * 2 + 1, none⟩) hbl).trans q1
      have q2' := Tm.at_keep (Keeps.all hb) q2
      have hmem := h ts[k] (List.getElem_mem hlt)
      have hbk' := Tm.bulk_mem (List.getElem_mem hlt)
      clear q0 q1 q2 hr hrr
      obtain ⟨rfl, -, x, xc, rfl⟩ := Tm.at_form q2'
      have hbx : Below wr.heap.size wr (wr.alloc (.cells #[.string ts[k].name, .slice x ts[k].args.length xc] 29)) := (Below.refl _ _).alloc (Nat.le_refl _) _
      have hq0 := cell_alloc q0'
      go_wp2_with fail
      refine (hmem _ _ _ _ (Tm.at_keep (Keeps.all hbx) q2') (by omega)).mono ?_
      rintro e w1 ⟨v, G, rfl, ho, hG, hb2⟩
      have hb1 : Below wr.heap.size wr w1 := hbx.trans (hb2.mono hbx.size)
      replace hG : ∀ x ∈ G, wr.heap.size ≤ x := fun x hx => Nat.le_trans hbx.size (hG x hx)
      clear hb2 hbx
      obtain ⟨a', cap', rfl⟩ := Tm.sd_own_form ho
      have hfl1 := hfl.keep (Keeps.all hb1)
      obtain ⟨x0, hx0⟩ := hfl1.cell (p := k * 2) (by omega)
      obtain ⟨x1, hx1⟩ := hfl1.cell (p := k * 2 + 1) (by omega)
      have hf0 := hfl1.free (k * 2)
      have hf1 := hfl1.free (k * 2 + 1)
      go_wp2_with fail
      go_roundw
      case rel =>
        have hB := hb.size
        have hBl := hfl.lt
        have hG' : w.heap.size ∉ G := fun q => by have := hG _ q; omega
        refine ⟨k + 1, F ++ G, by omega, by go_num, ?_, fun x hx => ?_, ((hb.trans (hb1.mono hB)).setCell (Nat.le_refl _) _).setCell (Nat.le_refl _) _⟩
        · rw [Tm.css_take_succ ts k hlt]
          have hl : (Tm.css (ts.take k)).length = k * 2 := by rw [Tm.css_length, List.length_take, Nat.min_eq_left hk]
          have hsz : ts[k].name.size ≤ maxLen := (Tm.at_form q2').2.1
          have hd : ∀ x ∈ F, x ∉ G := fun x hx hx' => by have := hG x hx'; have := hfl.ltF x hx; omega
          have s1 := hfl1.set (v := .string ts[k].name) (G := []) hl.symm (by omega) (D.own_str hsz) (by simp) (by simp)
          have s2 := s1.set (p := k * 2 + 1) (v := .slice a' ts[k].args.length cap') (G := G) (d := Tm.sd ts[k].args) (by simp [hl]) (by omega) (D.own_keep _ _ _ ((Keeps.refl _ _).setCell (fun q _ => hG' q) _) ho) hG' (by simpa using hd)
          simpa using s2
        · rcases List.mem_append.1 hx with hx | hx
          · exact hF x hx
          · have := hG x hx; omega
      case measure => simp [intOf]; omega
    · obtain rfl : k = ts.length := by omega
      go_wp2_with fail
      go_ret
      rw [List.take_length] at hfl
      by_cases hne : ts = []
      · subst hne
        exact ⟨_, [], rfl, D.own_nil _ _, by simp, hb⟩
      · exact ⟨_, _ :: F, rfl, hfl.own (Tm.css_ne hne) (by unfold big; omega) (Nat.le_refl _), fun x hx => by rcases List.mem_cons.1 hx with rfl | hx; exact Nat.le_refl _; exact Nat.le_of_lt (hF x hx), hb⟩


set_option maxHeartbeats 1000000 in
theorem copyTerm_of (n : ByteArray) (ts : List Tm) (h : CopyS ts) : CopyT (.node n ts) := by
  intro S c0 c1 w hr hbk
  obtain ⟨rfl, hn, a, cap, rfl⟩ := Tm.at_form hr
  have hs := hr.2
  rw [Tm.bulk] at hbk
  simp only [Tm.name, Tm.args] at hn hs ⊢
  clear hr
  have hW : Below w.heap.size w ((w.alloc (.cells #[.string n, .slice a ts.length cap] 29)).alloc (.cells #[.string ByteArray.empty, .slice none 0 0] 29)) := ((Below.refl _ _).alloc (Nat.le_refl _) _).alloc (by simp) _
  have z0 : ((w.alloc (.cells #[.string n, .slice a ts.length cap] 29)).alloc (.cells #[.string ByteArray.empty, .slice none 0 0] 29)).cell? ⟨w.heap.size, 0, none⟩ = some (.string n) := cell_alloc (box1 _ _ _ 0) _
  have z1 : ((w.alloc (.cells #[.string n, .slice a ts.length cap] 29)).alloc (.cells #[.string ByteArray.empty, .slice none 0 0] 29)).cell? ⟨w.heap.size, 1, none⟩ = some (.slice a ts.length cap) := cell_alloc (box1 _ _ _ 1) _
  have zs : w.heap.size + 1 = (w.alloc (.cells #[.string n, .slice a ts.length cap] 29)).heap.size := by simp
  have z2 : ((w.alloc (.cells #[.string n, .slice a ts.length cap] 29)).alloc (.cells #[.string ByteArray.empty, .slice none 0 0] 29)).cell? ⟨w.heap.size + 1, 0, none⟩ = some (.string ByteArray.empty) := by rw [zs]; exact box1 _ _ _ 0
  have z3 : ((w.alloc (.cells #[.string n, .slice a ts.length cap] 29)).alloc (.cells #[.string ByteArray.empty, .slice none 0 0] 29)).cell? ⟨w.heap.size + 1, 1, none⟩ = some (.slice none 0 0) := by rw [zs]; exact box1 _ _ _ 1
  clear zs
  go_enter Try.func63, Try.ntmps63
  go_wp2_with fail
  go_region_held3 (fun w' => w'.cell? ⟨w.heap.size, 0, none⟩ = some (.string n) ∧ w'.cell? ⟨w.heap.size, 1, none⟩ = some (.slice a ts.length cap))
    (first | go_keep)
    (first | (go_at_call 79; go_must (refine (h S _ _ (D.rd_keep (by first | exact (((Keeps.refl _ _).alloc _).alloc _).drew | exact ((Keeps.refl _ _).alloc _).alloc _ | exact ((((Keeps.refl _ _).alloc _).alloc _).drew).drew) _ _ hs) (by omega)).mono ?_; rintro e w1 ⟨v, F, rfl, ho, hF, hb⟩; (obtain ⟨a', cap', rfl⟩ := Tm.sd_own_form ho); (have y0 : w1.cell? ⟨w.heap.size, 0, none⟩ = some (.string n) := (hb.cell (p := ⟨w.heap.size, 0, none⟩) (by simp; try omega)).trans z0); (have y1 : w1.cell? ⟨w.heap.size, 1, none⟩ = some (.slice a ts.length cap) := (hb.cell (p := ⟨w.heap.size, 1, none⟩) (by simp; try omega)).trans z1); (have y2 := (hb.cell (p := ⟨w.heap.size + 1, 0, none⟩) (by simp; try omega)).trans z2); (have y3 := (hb.cell (p := ⟨w.heap.size + 1, 1, none⟩) (by simp; try omega)).trans z3); (have y4 := hb.frozen (p := ⟨w.heap.size + 1, 0, none⟩) (by simp; try omega)); (have y5 := hb.frozen (p := ⟨w.heap.size + 1, 1, none⟩) (by simp; try omega)))))
  have hz := hb.size
  simp only [World.size_drew, World.size_alloc] at hF hz
  have g1 : w.heap.size + 1 < w1.heap.size := by omega
  go_wp2_with fail
  refine bodyPost_ret (v := .agg #[.string n, .slice a' ts.length cap']) (by simp [results, Try.results63, go_sem, y2, y3]) rfl ?_
  refine ⟨_, F, rfl, D.own_keep _ _ _ (((Keeps.refl _ _).set_lt hF (by simp) _).set_lt hF (by simp) _) ho, fun x hx => by have := hF x hx; omega, ?_⟩
  exact ((hW.drew.trans (hb.mono (by simp; omega))).setCell (by simp) _).setCell (by simp) _
theorem copyTerm_any (t : Tm) : CopyT t := Tm.ind (fun n ts h => copyTerm_of n ts (copyTermS_of ts h)) t
end Go.Proofs.Ytoblhgaohmfjeaa
