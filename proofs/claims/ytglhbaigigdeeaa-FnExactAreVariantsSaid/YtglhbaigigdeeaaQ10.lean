/- Several texts in one file. -/
import Derived.Test.YtglhbaigigdeeaaQ02
import Derived.Deep.RegionHeld3
import Derived.Test.YtglhbaigigdeeaaQ03
import Derived.Deep.RegionLaw
import Derived.Test.YtglhbaigigdeeaaQ07
import Derived.Test.YtglhbaigigdeeaaQ08
import Derived.Test.YtglhbaigigdeeaaQ06
import Derived.Test.YtglhbaigigdeeaaQ04
import Derived.Test.YtglhbaigigdeeaaQ05
/- The implementation's copies of terms. NOT BUILT YET. -/
namespace Go.Proofs.Ytglhbaigigdeeaa
set_option maxRecDepth 100000
open Go.RowKit

def CopyT (t : Tm) : Prop := ∀ (S : Nat → Prop) (c0 c1 : Value) (w : World), Tm.at S w c0 c1 t → t.bulk ≤ 1048576 → Calls Try.prog 56 #[.agg #[c0, c1]] w (MadeT t w)
def CopyS (ts : List Tm) : Prop := ∀ (S : Nat → Prop) (v : Value) (w : World), D.rd S w v (Tm.sd ts) → ts.length + Tm.bulks ts ≤ 1048576 → Calls Try.prog 75 #[v] w (MadeS ts w)

set_option maxHeartbeats 400000 in
theorem copyTermS_of (ts : List Tm) (h : ∀ t ∈ ts, CopyT t) : CopyS ts := by
  intro S v w hr hbk
  obtain ⟨a, cap, rfl, hlen, hcap⟩ := Tm.sd_form hr
  have hmk := run_mk (P := Try.prog) Try.underlying31 infoTerm ts.length (by omega) hlen
  unfold big at hlen
  by_cases h0 : ts.length = 0
  · have h0' : ((ts.length : Int) == 0) = true := by simp [h0]
    have H0 := hid h0
    clear h0 hmk
    go_enter Try.func75, Try.ntmps75
    go_wp2_with fail
    go_ret
    obtain rfl : ts = [] := List.length_eq_zero_iff.1 H0.out
    exact ⟨_, [], rfl, by rw [Tm.sd, D.own]; exact ⟨none, 0, rfl, by simp, by simp, by simp, .inl ⟨by simp [Tm.css], rfl⟩⟩, by simp, Below.refl _ _⟩
  have h0' : ((ts.length : Int) == 0) = false := by simpa using h0
  clear h0
  go_enter Try.func75, Try.ntmps75
  go_wp2_with fail
  go_loopw [14] (fun i wr => ∃ (k : Nat) (F : List Nat), k ≤ ts.length ∧ i = .int .i64 k ∧ Filled wr w.heap.size 33 (ts.length * 2) (Tm.css (ts.take k)) F ∧ (∀ x ∈ F, w.heap.size < x) ∧ Below w.heap.size w wr) (fun i _ => ts.length - (intOf i).toNat)
  case atStart =>
    refine ⟨0, [], Nat.zero_le _, rfl, ?_, by simp, (Below.refl _ _).alloc (Nat.le_refl _) _⟩
    have := Filled.made w (madeCells #[Value.string ByteArray.empty, Value.slice none 0 0] (ts.length * 2)) 33
    rw [size_madeCells] at this
    simpa [Tm.css] using this
  case round =>
    obtain ⟨k, F, hk, rfl, hfl, hF, hb⟩ := hrel
    by_cases hlt : k < ts.length
    · have hne : ts ≠ [] := by intro e; subst e; simp at hlt
      obtain ⟨b, off, rfl, hS, hbl, hrr⟩ := Tm.sd_get hr hne
      obtain ⟨c0, c1, q0, q1, q2⟩ := hrr k hlt
      have q0' := (hb.cell (p := ⟨b, off + k * 2, none⟩) hbl).trans q0
      have q1' := (hb.cell (p := ⟨b, off + k * 2 + 1, none⟩) hbl).trans q1
      have q2' := Tm.at_keep (Keeps.all hb) q2
      have hmem := h ts[k] (List.getElem_mem hlt)
      have hbk' := Tm.bulk_mem (List.getElem_mem hlt)
      clear q0 q1 q2 hr hrr
      obtain ⟨rfl, -, x, xc, rfl⟩ := Tm.at_form q2'
      have hbx : Below wr.heap.size wr (wr.alloc (.cells #[.string ts[k].name, .slice x ts[k].args.length xc] 33)) := (Below.refl _ _).alloc (Nat.le_refl _) _
      have hq0 := cell_alloc q0'
      go_wp2_with fail
      refine (hmem _ _ _ _ (Tm.at_keep (Keeps.all hbx) q2') (by omega)).mono ?_
      rintro e w1 ⟨v, G, rfl, ho, hG, hb2⟩
      have hb1 : Below wr.heap.size wr w1 := hbx.trans (hb2.mono hbx.size)
      replace hG : ∀ x ∈ G, wr.heap.size ≤ x := fun x hx => Nat.le_trans hbx.size (hG x hx)
      clear hb2 hbx
      obtain ⟨a', cap', rfl⟩ := Tm.sd_own_form ho
      have hfl1 := hfl.keep (Keeps.all hb1)
      obtain ⟨x0, hx0⟩ := hfl1.cell (p := k * 2) (by omega)
      obtain ⟨x1, hx1⟩ := hfl1.cell (p := k * 2 + 1) (by omega)
      have hf0 := hfl1.free (k * 2)
      have hf1 := hfl1.free (k * 2 + 1)
      go_wp2_with fail
      go_roundw
      case rel =>
        have hB := hb.size
        have hBl := hfl.lt
        have hG' : w.heap.size ∉ G := fun q => by have := hG _ q; omega
        refine ⟨k + 1, F ++ G, by omega, by go_num, ?_, fun x hx => ?_, ((hb.trans (hb1.mono hB)).setCell (Nat.le_refl _) _).setCell (Nat.le_refl _) _⟩
        · rw [Tm.css_take_succ ts k hlt]
          have hl : (Tm.css (ts.take k)).length = k * 2 := by rw [Tm.css_length, List.length_take, Nat.min_eq_left hk]
          have hsz : ts[k].name.size ≤ maxLen := (Tm.at_form q2').2.1
          have hd : ∀ x ∈ F, x ∉ G := fun x hx hx' => by have := hG x hx'; have := hfl.ltF x hx; omega
          have s1 := hfl1.set (v := .string ts[k].name) (G := []) hl.symm (by omega) (D.own_str hsz) (by simp) (by simp)
          have s2 := s1.set (p := k * 2 + 1) (v := .slice a' ts[k].args.length cap') (G := G) (d := Tm.sd ts[k].args) (by simp [hl]) (by omega) (D.own_keep _ _ _ ((Keeps.refl _ _).setCell (fun q _ => hG' q) _) ho) hG' (by simpa using hd)
          simpa using s2
        · rcases List.mem_append.1 hx with hx | hx
          · exact hF x hx
          · have := hG x hx; omega
      case measure => simp [intOf]; omega
    · obtain rfl : k = ts.length := by omega
      go_wp2_with fail
      go_ret
      rw [List.take_length] at hfl
      by_cases hne : ts = []
      · subst hne
        exact ⟨_, [], rfl, D.own_nil _ _, by simp, hb⟩
      · exact ⟨_, _ :: F, rfl, hfl.own (Tm.css_ne hne) (by unfold big; omega) (Nat.le_refl _), fun x hx => by rcases List.mem_cons.1 hx with rfl | hx; exact Nat.le_refl _; exact Nat.le_of_lt (hF x hx), hb⟩


set_option maxHeartbeats 1000000 in
theorem copyTerm_of (n : ByteArray) (ts : List Tm) (h : CopyS ts) : CopyT (.node n ts) := by
  intro S c0 c1 w hr hbk
  obtain ⟨rfl, hn, a, cap, rfl⟩ := Tm.at_form hr
  have hs := hr.2
  rw [Tm.bulk] at hbk
  simp only [Tm.name, Tm.args] at hn hs ⊢
  clear hr
  have hW : Below w.heap.size w ((w.alloc (.cells #[.string n, .slice a ts.length cap] 33)).alloc (.cells #[.string ByteArray.empty, .slice none 0 0] 33)) := ((Below.refl _ _).alloc (Nat.le_refl _) _).alloc (by simp) _
  have z0 : ((w.alloc (.cells #[.string n, .slice a ts.length cap] 33)).alloc (.cells #[.string ByteArray.empty, .slice none 0 0] 33)).cell? ⟨w.heap.size, 0, none⟩ = some (.string n) := cell_alloc (box1 _ _ _ 0) _
  have z1 : ((w.alloc (.cells #[.string n, .slice a ts.length cap] 33)).alloc (.cells #[.string ByteArray.empty, .slice none 0 0] 33)).cell? ⟨w.heap.size, 1, none⟩ = some (.slice a ts.length cap) := cell_alloc (box1 _ _ _ 1) _
  have zs : w.heap.size + 1 = (w.alloc (.cells #[.string n, .slice a ts.length cap] 33)).heap.size := by simp
  have z2 : ((w.alloc (.cells #[.string n, .slice a ts.length cap] 33)).alloc (.cells #[.string ByteArray.empty, .slice none 0 0] 33)).cell? ⟨w.heap.size + 1, 0, none⟩ = some (.string ByteArray.empty) := by rw [zs]; exact box1 _ _ _ 0
  have z3 : ((w.alloc (.cells #[.string n, .slice a ts.length cap] 33)).alloc (.cells #[.string ByteArray.empty, .slice none 0 0] 33)).cell? ⟨w.heap.size + 1, 1, none⟩ = some (.slice none 0 0) := by rw [zs]; exact box1 _ _ _ 1
  clear zs
  go_enter Try.func56, Try.ntmps56
  go_wp2_with fail
  go_region_held3 (fun w' => w'.cell? ⟨w.heap.size, 0, none⟩ = some (.string n) ∧ w'.cell? ⟨w.heap.size, 1, none⟩ = some (.slice a ts.length cap))
    (first | go_keep)
    (first | (go_at_call 75; go_must (refine (h S _ _ (D.rd_keep (by first | exact (((Keeps.refl _ _).alloc _).alloc _).drew | exact ((Keeps.refl _ _).alloc _).alloc _ | exact ((((Keeps.refl _ _).alloc _).alloc _).drew).drew) _ _ hs) (by omega)).mono ?_; rintro e w1 ⟨v, F, rfl, ho, hF, hb⟩; (obtain ⟨a', cap', rfl⟩ := Tm.sd_own_form ho); (have y0 : w1.cell? ⟨w.heap.size, 0, none⟩ = some (.string n) := (hb.cell (p := ⟨w.heap.size, 0, none⟩) (by simp; try omega)).trans z0); (have y1 : w1.cell? ⟨w.heap.size, 1, none⟩ = some (.slice a ts.length cap) := (hb.cell (p := ⟨w.heap.size, 1, none⟩) (by simp; try omega)).trans z1); (have y2 := (hb.cell (p := ⟨w.heap.size + 1, 0, none⟩) (by simp; try omega)).trans z2); (have y3 := (hb.cell (p := ⟨w.heap.size + 1, 1, none⟩) (by simp; try omega)).trans z3); (have y4 := hb.frozen (p := ⟨w.heap.size + 1, 0, none⟩) (by simp; try omega)); (have y5 := hb.frozen (p := ⟨w.heap.size + 1, 1, none⟩) (by simp; try omega)))))
  have hz := hb.size
  simp only [World.size_drew, World.size_alloc] at hF hz
  have g1 : w.heap.size + 1 < w1.heap.size := by omega
  go_wp2_with fail
  refine bodyPost_ret (v := .agg #[.string n, .slice a' ts.length cap']) (by simp [results, Try.results56, go_sem, y2, y3]) rfl ?_
  refine ⟨_, F, rfl, D.own_keep _ _ _ (((Keeps.refl _ _).set_lt hF (by simp) _).set_lt hF (by simp) _) ho, fun x hx => by have := hF x hx; omega, ?_⟩
  exact ((hW.drew.trans (hb.mono (by simp; omega))).setCell (by simp) _).setCell (by simp) _
theorem copyTerm_any (t : Tm) : CopyT t := Tm.ind (fun n ts h => copyTerm_of n ts (copyTermS_of ts h)) t
end Go.Proofs.Ytglhbaigigdeeaa
/- The reference's copies of terms. -/
namespace Go.Proofs.Ytglhbaigigdeeaa
set_option maxRecDepth 100000
open Go.RowKit

def OwnT (t : Tm) : Prop := ∀ (S : Nat → Prop) (c0 c1 : Value) (w : World), Tm.at S w c0 c1 t → t.bulk ≤ 1048576 → Calls Try.prog 50 #[.agg #[c0, c1]] w (MadeT t w)

theorem Tm.cs_eq (t : Tm) : t.cs = [.str t.name, Tm.sd t.args] := by cases t; simp [Tm.cs, Tm.name, Tm.args, Tm.sd]
theorem Tm.own_item {w : World} {t : Tm} {v : Value} {F : List Nat} (hn : t.name.size ≤ maxLen) (h : D.own w v (Tm.sd t.args) F) : OwnsL w [.string t.name, v] t.cs F := by
  have e : t.cs = [.str t.name, Tm.sd t.args] := by cases t; simp [Tm.cs, Tm.name, Tm.args, Tm.sd]
  rw [e]
  have := OwnsL.cons (F := []) (D.own_str hn) (OwnsL.cons h (OwnsL.nil w) (by simp)) (by simp)
  simpa using this

set_option maxHeartbeats 2000000 in
theorem ownT_of (n : ByteArray) (ts : List Tm) (h : ∀ t ∈ ts, OwnT t) : OwnT (.node n ts) := by
  intro S c0 c1 w hr hbk
  obtain ⟨rfl, hn, a, cap, rfl⟩ := Tm.at_form hr
  have hs := hr.2
  rw [Tm.bulk] at hbk
  simp only [Tm.name, Tm.args] at hn hs ⊢
  clear hr
  have hlen := (Tm.sd_form hs)
  obtain ⟨_, _, e, hlen, hcap⟩ := hlen
  unfold big at hlen
  clear e
  go_enter Try.func50, Try.ntmps50
  go_wp2_with fail
  go_loopw [4] (fun i wr => ∃ (k : Nat) (F : List Nat) (v : Value), k ≤ ts.length ∧ i = .int .i64 k ∧ Gr wr (w.heap.size + 1 + 1 + 1) 33 2 v k (Tm.css (ts.take k)) F ∧ wr.cell? ⟨w.heap.size + 1 + 1, 0, none⟩ = some (.string n) ∧ wr.cell? ⟨w.heap.size + 1 + 1, 1, none⟩ = some v ∧ (∀ p, wr.frozen? ⟨w.heap.size + 1 + 1, p, none⟩ = false) ∧ w.heap.size + 1 + 1 + 1 ≤ wr.heap.size ∧ Below (w.heap.size + 1 + 1) (((w.alloc (.cells #[.string n, .slice a ts.length cap] 33)).alloc (.cells #[.string ByteArray.empty, .slice none 0 0] 33)).alloc (.cells #[.string n, .slice none 0 0] 33)) wr) (fun i _ => ts.length - (intOf i).toNat)
  case atStart =>
    refine ⟨0, [], .slice none 0 0, Nat.zero_le _, rfl, by rw [List.take_zero, Tm.css]; exact Gr.nil _ _ _ _, (box3 w _ _ _ _ _ _ 0).2.2, (box3 w _ _ _ _ _ _ 1).2.2, fun p => frz1 _ _ _ _ _ (by simp), by simp, Below.refl _ _⟩
  case round =>
    obtain ⟨k, F, v, hk, rfl, HG, y0, y1, y2, hz, hb⟩ := hrel
    have hbw : Below w.heap.size w wr := (((((Below.refl _ _).alloc (Nat.le_refl _) _).alloc (by simp) _).alloc (by simp; omega) _).trans (hb.mono (by omega)))
    have x0 : wr.cell? ⟨w.heap.size, 0, none⟩ = some (.string n) := (hb.cell (p := ⟨w.heap.size, 0, none⟩) (by simp; omega)).trans (box3 w _ _ _ _ _ _ 0).1
    have x1 : wr.cell? ⟨w.heap.size, 1, none⟩ = some (.slice a ts.length cap) := (hb.cell (p := ⟨w.heap.size, 1, none⟩) (by simp; omega)).trans (box3 w _ _ _ _ _ _ 1).1
    by_cases hlt : k < ts.length
    · have HGl := HG.ltF
      have hne : ts ≠ [] := by intro e; subst e; simp at hlt
      obtain ⟨b, off, rfl, hS, hbl, hrr⟩ := Tm.sd_get hs hne
      obtain ⟨c0, c1, q0, q1, q2⟩ := hrr k hlt
      replace q0 := (hbw.cell (p := ⟨b, off + k * 2, none⟩) hbl).trans q0
      replace q1 := (hbw.cell (p := ⟨b, off + k * 2 + 1, none⟩) hbl).trans q1
      replace q2 := Tm.at_keep (Keeps.all hbw) q2
      have hmem := h ts[k] (List.getElem_mem hlt)
      have hbk' := Tm.bulk_mem (List.getElem_mem hlt)
      obtain ⟨rfl, -, x, xc, rfl⟩ := Tm.at_form q2
      clear hrr
      have hv := HG.lt
      have hlb := hb.size
      simp only [World.size_alloc] at hlb
      have hbw2 : Below wr.heap.size wr wr.drew := (Below.refl _ _).drew
      go_wp2_with fail
      have hbne : b ≠ w.heap.size + 1 + 1 := by omega
      go_region_law (first
          | (refine step_append_gr (news := [.string ts[k].name, .slice a1 ts[k].args.length cap1]) (G := G) Try.underlying31 infoTerm rfl (by decide) (by decide) rfl _ _ (by rfl) (by rfl) (by rfl) (HG1.keep ((Below.refl _ _).alloc (Nat.le_refl _) _)) rfl (by intro j u hj; rw [box1]; simpa using hj) (by simp [Value.oneCell']) ((Tm.own_item (Tm.at_form q2).2.1 ho).keep (Keeps.all ((Below.refl _ _).alloc (Nat.le_refl _) _))) (fun x hx => by have := hG x hx; omega) (fun x hx hx' => by have := hG x hx'; have := HGl x hx; omega) (fun x hx hx' => by have := hG x hx'; have := (hv x hx).2; omega) (by omega) (by simp; omega) ?_
             intro g capg wg hg hgr hgo hglt
             have gc := fun (b' : Nat) (h' : b' < w.heap.size + 1 + 1 + 1) => grown_cell hgr (b := b') (by simp; omega) (fun x hx => by have := (hv x hx).1; omega)
             have y0g := ((gc (w.heap.size + 1 + 1) (by omega)).1 0).trans (cell_alloc y0' _)
             have y1g := ((gc (w.heap.size + 1 + 1) (by omega)).1 1).trans (cell_alloc y1' _)
             have y2g := fun p => ((gc (w.heap.size + 1 + 1) (by omega)).2 p).trans ((World.frozen?_alloc_past (w := w1) (.cells #[.string ts[k].name, .slice a1 ts[k].args.length cap1] 33) _ p (by omega)).trans (y2' p))
             have y2h := y2g 1
             clear gc)
          | (refine step_does rfl ?_
             unfold Does
             go_simp
             go_at_call 50
             refine (hmem _ _ _ _ (Tm.at_keep (Keeps.all hbw2) q2) (by omega)).mono ?_
             rintro e w1 ⟨v1, G, rfl, ho, hG, hb1⟩
             obtain ⟨a1, cap1, rfl⟩ := Tm.sd_own_form ho
             have z := bcell hb1
             simp only [World.size_drew, World.cell?_drew, World.frozen?_drew] at z hG
             have hb2 : Below wr.heap.size wr w1 := hbw2.trans (hb1.mono (by simp))
             have hzb := hb2.size
             have HG1 := HG.keep hb2
             have y0' := (z.1 (w.heap.size + 1 + 1) 0 (by omega)).trans y0
             have y1' := (z.1 (w.heap.size + 1 + 1) 1 (by omega)).trans y1
             have y2' := fun p => (z.2 (w.heap.size + 1 + 1) p (by omega)).trans (y2 p)
             have y1b := fun o => cell_alloc y1' o
             clear z
             refine ⟨_, rfl, ?_⟩))
      all_goals
        have hz1 : wg.heap.size ≥ w1.heap.size := by have := hgr.size; simp at this; omega
        have hb5 : Below (w.heap.size + 1 + 1) wr wg := below_grown ((hb2.mono (by omega)).trans (((Below.refl _ _).alloc (by omega) _))) hgr (by simp; omega) (fun x hx => by have := (hv x hx).1; omega)
        go_wp2_with fail
        go_roundw
        case rel =>
          refine ⟨k + 1, F ++ G, .slice (some ⟨g, 0, none⟩) (k + 1) capg, by omega, by go_num, ?_, ?_, ?_, ?_, ?_, ?_⟩
          · rw [Tm.css_take_succ ts k hlt, ← Tm.cs_eq]
            exact hg.setCell (by show w.heap.size + 1 + 1 < _; omega) _
          · rw [World.cell?_setCell_other _ _ _ _ (by intro e; injection e with _ e; omega)]; exact y0g
          · exact World.cell?_setCell_same _ _ _ y1g
          · intro p; rw [World.frozen?_setCell]; exact y2g p
          · rw [World.size_setCell]; omega
          · exact (hb.trans hb5).setCell (Nat.le_refl _) _
        case measure => simp [intOf]; omega
    · obtain rfl : k = ts.length := by omega
      rw [List.take_length] at HG
      obtain ⟨Gf, hO, hGf⟩ := HG.own (by decide)
      obtain ⟨a2, cap2, rfl⟩ := Tm.sd_own_form hO
      have r0 : wr.cell? ⟨w.heap.size + 1, 0, none⟩ = some (.string ByteArray.empty) := (hb.cell (p := ⟨w.heap.size + 1, 0, none⟩) (by simp)).trans (box3 w _ _ _ _ _ _ 0).2.1
      have r1 : wr.cell? ⟨w.heap.size + 1, 1, none⟩ = some (.slice none 0 0) := (hb.cell (p := ⟨w.heap.size + 1, 1, none⟩) (by simp)).trans (box3 w _ _ _ _ _ _ 1).2.1
      have f1 : ∀ p, wr.frozen? ⟨w.heap.size + 1, p, none⟩ = false := fun p => (hb.frozen (p := ⟨w.heap.size + 1, p, none⟩) (by simp)).trans ((World.frozen?_alloc_past _ _ p (by simp)).trans (World.frozen?_alloc_at _ _ _ p (by simp)))
      have f10 := f1 0
      have f11 := f1 1
      have hlb := hb.size
      simp only [World.size_alloc] at hlb
      go_wp2_with fail
      refine bodyPost_ret (v := .agg #[.string n, .slice a2 ts.length cap2]) (by simp [results, Try.results50, go_sem, r0, r1]) rfl ?_
      refine ⟨_, Gf, rfl, D.own_keep _ _ _ (((Keeps.refl _ _).set_lt hGf (by simp) _).set_lt hGf (by simp) _) hO, fun x hx => by have := hGf x hx; omega, ?_⟩
      exact (hbw.setCell (by simp) _).setCell (by simp) _
theorem ownT_any (t : Tm) : OwnT t := Tm.ind (fun n ts h => ownT_of n ts h) t
end Go.Proofs.Ytglhbaigigdeeaa
/- Substitutions are copied: the program's way and the reference's. -/
namespace Go.Proofs.Ytglhbaigigdeeaa
set_option maxRecDepth 100000
open Go.RowKit

theorem infoBndI : (Try.prog.info? 59).map (fun i => (i.zero, i.size, i.bytes)) = some (some (.agg #[.string ByteArray.empty, .string ByteArray.empty, .slice none 0 0]), 3, 56) := by kernel_rfl
theorem Bnd.own_item {w : World} {x : Bnd} {v : Value} {F : List Nat} (hv : x.var.size ≤ maxLen) (hn : x.term.name.size ≤ maxLen) (h : D.own w v (Tm.sd x.term.args) F) : OwnsL w [.string x.var, .string x.term.name, v] x.cs F := by
  have := OwnsL.cons (F := []) (D.own_str hv) (OwnsL.cons (F := []) (D.own_str hn) (OwnsL.cons h (OwnsL.nil w) (by simp)) (by simp)) (by simp)
  rw [Bnd.cs_eq]
  simpa using this
theorem Bnd.name_le {S : Nat → Prop} {w : World} {c0 c1 c2 : Value} {x : Bnd} (h : Bnd.at S w c0 c1 c2 x) : x.term.name.size ≤ maxLen := by have q := h.2.1; rw [D.rd] at q; exact q.2

/-- a copy of the substitution comes back -/
def CopySb (f : FuncId) : Prop := ∀ (x : Sb) (S : Nat → Prop) (c0 : Value) (w : World), Sb.at S w c0 x → x.bulk ≤ 1048576 → Calls Try.prog f #[.agg #[c0]] w (MadeSb x w)

end Go.Proofs.Ytglhbaigigdeeaa
/- Rows whose cells are stored anew; what is kept of a list. -/
namespace Go.Proofs.Ytglhbaigigdeeaa
set_option maxRecDepth 100000
open Go.RowKit

/-! ### rows whose cells are stored -/
theorem RowAt.setCells {b off : Nat} {e : TypeId} : ∀ (us : List Value) {w : World} {vs : List Value} {s : Nat}, RowAt w b off e vs → s + us.length ≤ vs.length → ∃ vs', RowAt (w.setCells b (off + s) us) b off e vs' ∧ vs'.length = vs.length ∧ ∀ i, i < s → vs'[i]? = vs[i]?
  | [], w, vs, s, h, _ => ⟨vs, h, rfl, fun _ _ => rfl⟩
  | u :: us, w, vs, s, h, hl => by
    simp only [List.length_cons] at hl
    have h1 := h.set (i := s) (by omega) u
    obtain ⟨vs', h2, h3, h4⟩ := RowAt.setCells us (s := s + 1) h1 (by rw [List.length_set]; omega)
    refine ⟨vs', ?_, by rw [h3, List.length_set], fun i hi => ?_⟩
    · rw [World.setCells]
      rw [show off + s + 1 = off + (s + 1) by omega]
      exact h2
    · rw [h4 i (by omega), List.getElem?_set_ne (by omega)]
theorem Mk.setCells {F : List Nat} {b : Nat} (hb : b ∈ F) : ∀ (us : List Value) (o : Nat) (w : World), Mk F w (w.setCells b o us)
  | [], _, w => Mk.refl _ _
  | u :: us, o, w => by rw [World.setCells]; exact (Mk.set hb u).trans (Mk.setCells hb us (o + 1) _)
/-- clear(s) of a list of structs -/
theorem run_clear_rows {P : Program} (w : World) (t e : TypeId) (z : Value) (m : Nat) (ht : P.underlying t = some (.slice e)) (hv : ∀ w, (zeroValue e).run P w = .ok z w) (hz : z.cells.size = m) (hm : 0 < m) (h1 : ∀ v ∈ z.cells.toList, v.oneCell' = true) (b o n c : Nat) (hn : 0 < n)
    (hc : ∀ j, j < n * m → (w.cell? ⟨b, o + j, none⟩).isSome = true) (hf : ∀ j, j < n * m → w.frozen? ⟨b, o + j, none⟩ = false) :
    ∃ us : List Value, us.length = n * m ∧ ∀ ty, (Builtin.clear_ #[t] ty #[.slice (some ⟨b, o, none⟩) n c]).run P w = .ok (.tuple #[]) (w.setCells b o us) := by
  have hl : (Builtin.zeroCells z.cells n).toList.length = n * m := by simp [Builtin.zeroCells, hz]
  refine ⟨(Builtin.zeroCells z.cells n).toList, hl, fun ty => ?_⟩
  have hst := run_storeCells_cells (P := P) b o (Builtin.zeroCells z.cells n).toList 0 w (by rw [hl]; simpa using hc) (by rw [hl]; simpa using hf) (by
    intro v hv'
    simp only [Builtin.zeroCells, Array.toList_map, List.mem_map] at hv'
    obtain ⟨i, hi, rfl⟩ := hv'
    have hlt : i % z.cells.size < z.cells.size := Nat.mod_lt _ (by omega)
    rw [getElem!_pos z.cells _ hlt]
    exact h1 _ (by simp))
  simp only [Nat.add_zero] at hst
  obtain ⟨n, rfl⟩ : ∃ k, n = k + 1 := ⟨n - 1, by omega⟩
  simp [Builtin.clear_, run_underlying ht, hv, hst]

/-! ### what is kept -/
theorem filter_take_snoc {α : Type} (p : α → Bool) (d : List α) (j : Nat) (h : j < d.length) : (d.take (j + 1)).filter p = (d.take j).filter p ++ if p d[j] = true then [d[j]] else [] := by
  rw [List.take_succ_eq_append_getElem h, List.filter_append]
  congr 1
  cases hp : p d[j] <;> simp [hp]
/-- the row after j items: the kept ones ahead, those to come as they were -/
def KInv {α : Type} (p : α → Bool) (d : List α) (j i : Nat) (E : List α) : Prop := E.length = d.length ∧ i = ((d.take j).filter p).length ∧ E.take i = (d.take j).filter p ∧ E.drop j = d.drop j ∧ i < j ∧ j ≤ d.length
theorem KInv.keep {α : Type} {p : α → Bool} {d E : List α} {j i : Nat} (h : KInv p d j i E) (hj : j < d.length) (hp : p d[j] = true) : KInv p d (j + 1) (i + 1) (E.set i d[j]) := by
  obtain ⟨h0, h1, h2, h3, h4, h5⟩ := h
  have hs := filter_take_snoc p d j hj
  rw [if_pos hp] at hs
  refine ⟨by rw [List.length_set, h0], by rw [hs, List.length_append, ← h1]; rfl, ?_, ?_, by omega, by omega⟩
  · rw [hs, ← h2]
    rw [List.take_succ_eq_append_getElem (by rw [List.length_set]; omega), List.take_set_of_le (Nat.le_refl _)]
    simp
  · rw [List.drop_set_of_lt (by omega)]
    have := congrArg (List.drop 1) h3
    simpa only [List.drop_drop] using this
theorem KInv.skip {α : Type} {p : α → Bool} {d E : List α} {j i : Nat} (h : KInv p d j i E) (hj : j < d.length) (hp : p d[j] = false) : KInv p d (j + 1) i E := by
  obtain ⟨h0, h1, h2, h3, h4, h5⟩ := h
  have hs := filter_take_snoc p d j hj
  rw [if_neg (by simp [hp]), List.append_nil] at hs
  exact ⟨h0, by rw [hs]; exact h1, by rw [hs]; exact h2, by have := congrArg (List.drop 1) h3; simpa only [List.drop_drop] using this, by omega, by omega⟩
theorem KInv.at {α : Type} {p : α → Bool} {d E : List α} {j i : Nat} (h : KInv p d j i E) (hj : j < d.length) (hE : j < E.length) : E[j] = d[j] := by
  have h3 := h.2.2.2.1
  rw [List.drop_eq_getElem_cons hE, List.drop_eq_getElem_cons hj] at h3
  injection h3
theorem KInv.start {α : Type} {p : α → Bool} {d : List α} {k : Nat} (hk : k < d.length) (hall : ∀ j (h : j < d.length), j < k → p d[j] = true) (hno : p d[k] = false) : KInv p d (k + 1) k d := by
  have hf : (d.take k).filter p = d.take k := by
    rw [List.filter_eq_self]
    intro a ha
    obtain ⟨j, hj, rfl⟩ := List.mem_iff_getElem.1 ha
    rw [List.length_take] at hj
    rw [List.getElem_take]
    exact hall j (by omega) (by omega)
  have hs := filter_take_snoc p d k hk
  rw [if_neg (by simp [hno]), List.append_nil, hf] at hs
  exact ⟨rfl, by rw [hs, List.length_take]; omega, by rw [hs], rfl, by omega, by omega⟩
end Go.Proofs.Ytglhbaigigdeeaa
/- Bindings of some variables: slices.DeleteFunc in the program's text. -/
namespace Go.Proofs.Ytglhbaigigdeeaa
set_option maxRecDepth 100000
open Go.RowKit

/-! ### bindings as pairs -/
def Bnd.ev (p : Bnd × Value) : List Value := [.string p.1.var, .string p.1.term.name, p.2]
def Bnd.ed (p : Bnd × Value) : List D := p.1.cs
theorem Bnd.ev_ed (p : Bnd × Value) : (Bnd.ev p).length = (Bnd.ed p).length := by rw [Bnd.ed, Bnd.cs_eq]; rfl
theorem Bnd.items {w : World} : ∀ (xs : List Bnd) (vs : List Value) (F : List Nat), OwnsL w vs (Bnd.css xs) F → ∃ d : List (Bnd × Value), d.map Prod.fst = xs ∧ vs = d.flatMap Bnd.ev ∧ ∀ p ∈ d, p.1.var.size ≤ maxLen ∧ p.1.term.name.size ≤ maxLen ∧ ∃ a c, p.2 = .slice a p.1.term.args.length c
  | [], vs, F, h => by
    have := h.length
    have hv : vs = [] := List.length_eq_zero_iff.1 (by simpa [Bnd.css] using this)
    exact ⟨[], rfl, hv, by simp⟩
  | x :: xs, vs, F, h => by
    have hl := h.length
    rw [Bnd.css_flat, List.flatMap_cons, Bnd.cs_eq] at h hl
    simp only [List.length_append, List.length_cons, List.length_nil] at hl
    match vs, hl, h with
    | v0 :: v1 :: v2 :: vs, _, h =>
      rw [show ([D.str x.var, D.str x.term.name, Tm.sd x.term.args] ++ xs.flatMap Bnd.cs) = D.str x.var :: D.str x.term.name :: Tm.sd x.term.args :: xs.flatMap Bnd.cs from rfl] at h
      rw [OwnsL] at h
      obtain ⟨G0, R0, _, _, o0, h⟩ := h
      rw [OwnsL] at h
      obtain ⟨G1, R1, _, _, o1, h⟩ := h
      rw [OwnsL] at h
      obtain ⟨G2, R2, _, _, o2, h⟩ := h
      rw [D.own] at o0 o1
      obtain ⟨d, hd, hv, hs⟩ := Bnd.items xs vs R2 (by rw [Bnd.css_flat]; exact h)
      refine ⟨(x, v2) :: d, by simp [hd], ?_, fun p hp => ?_⟩
      · rw [o0.1, o1.1, hv, List.flatMap_cons]; rfl
      · rcases List.mem_cons.1 hp with rfl | hp
        · exact ⟨o0.2.1, o1.2.1, Tm.sd_own_form o2⟩
        · exact hs p hp
    | [_, _], hl, _ => simp at hl; omega
    | [_], hl, _ => simp at hl; omega
    | [], hl, _ => simp at hl; omega
theorem Bnd.flat_ed (d : List (Bnd × Value)) : d.flatMap Bnd.ed = Bnd.css (d.map Prod.fst) := by
  induction d with
  | nil => rfl
  | cons p d ih => rw [List.flatMap_cons, ih, List.map_cons, Bnd.css_flat, Bnd.css_flat, List.flatMap_cons]; rfl
theorem Bnd.ev_get : ∀ (d : List (Bnd × Value)) (k : Nat) (h : k < d.length), (d.flatMap Bnd.ev)[k * 3]? = some (.string d[k].1.var) ∧ (d.flatMap Bnd.ev)[k * 3 + 1]? = some (.string d[k].1.term.name) ∧ (d.flatMap Bnd.ev)[k * 3 + 2]? = some d[k].2
  | [], k, h => absurd h (by simp)
  | p :: d, 0, _ => by simp [Bnd.ev]
  | p :: d, k + 1, h => by
    have ih := Bnd.ev_get d k (by simpa using h)
    rw [List.flatMap_cons, Bnd.ev]
    rw [show (k + 1) * 3 = k * 3 + 1 + 1 + 1 by omega, show k * 3 + 1 + 1 + 1 + 1 = (k * 3 + 1) + 1 + 1 + 1 by omega, show k * 3 + 1 + 1 + 1 + 2 = (k * 3 + 2) + 1 + 1 + 1 by omega]
    simpa using ih
theorem Bnd.ev_length (d : List (Bnd × Value)) : (d.flatMap Bnd.ev).length = d.length * 3 := by
  induction d with
  | nil => rfl
  | cons p d ih => rw [List.flatMap_cons, List.length_append, ih, List.length_cons]; show 3 + _ = _; omega
theorem Bnd.ev_set : ∀ (d : List (Bnd × Value)) (k : Nat) (p : Bnd × Value) (_ : k < d.length), (((d.flatMap Bnd.ev).set (k * 3) (.string p.1.var)).set (k * 3 + 1) (.string p.1.term.name)).set (k * 3 + 2) p.2 = (d.set k p).flatMap Bnd.ev
  | [], k, _, h => absurd h (by simp)
  | q :: d, 0, p, _ => by simp [Bnd.ev]
  | q :: d, k + 1, p, h => by
    have ih := Bnd.ev_set d k p (by simpa using h)
    rw [List.set_cons_succ, List.flatMap_cons, List.flatMap_cons, Bnd.ev]
    rw [show (k + 1) * 3 = k * 3 + 1 + 1 + 1 by omega, show k * 3 + 1 + 1 + 1 + 1 = (k * 3 + 1) + 1 + 1 + 1 by omega, show k * 3 + 1 + 1 + 1 + 2 = (k * 3 + 2) + 1 + 1 + 1 by omega]
    simpa using ih
theorem Bnd.ev_take (d : List (Bnd × Value)) (k : Nat) : ∀ i, i < k * 3 → (d.flatMap Bnd.ev)[i]? = ((d.take k).flatMap Bnd.ev)[i]? := by
  intro i hi
  have e : d.flatMap Bnd.ev = (d.take k).flatMap Bnd.ev ++ (d.drop k).flatMap Bnd.ev := by rw [← List.flatMap_append, List.take_append_drop]
  rw [e]
  by_cases hk : k ≤ d.length
  · rw [List.getElem?_append_left (by rw [Bnd.ev_length, List.length_take, Nat.min_eq_left hk]; exact hi)]
  · rw [List.drop_eq_nil_of_le (by omega)]; simp

end Go.Proofs.Ytglhbaigigdeeaa
