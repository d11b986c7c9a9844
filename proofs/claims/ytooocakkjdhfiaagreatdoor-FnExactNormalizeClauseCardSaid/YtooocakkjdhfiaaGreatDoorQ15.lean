/- Several texts in one file. -/
import Derived.Test.YtooocakkjdhfiaaGreatDoorQ02
import Derived.Deep.RegionHeld3
import Derived.Test.YtooocakkjdhfiaaGreatDoorQ05
import Derived.Deep.RegionLaw
import Derived.Test.YtooocakkjdhfiaaGreatDoorQ08
import Derived.Test.YtooocakkjdhfiaaGreatDoorQ07
import Derived.Test.YtooocakkjdhfiaaGreatDoorQ01
import Derived.Laws.AppendOwnNone
import Derived.Test.YtooocakkjdhfiaaGreatDoorQ13
/- The implementation's copies of terms. NOT BUILT YET. -/
namespace Go.Proofs.YtooocakkjdhfiaaGreatDoor
set_option maxRecDepth 100000
open Go.RowKit

def CopyT (t : Tm) : Prop := ∀ (S : Nat → Prop) (c0 c1 : Value) (w : World), Tm.at S w c0 c1 t → t.bulk ≤ 1048576 → Calls Tryz.prog 92 #[.agg #[c0, c1]] w (MadeT t w)
def CopyS (ts : List Tm) : Prop := ∀ (S : Nat → Prop) (v : Value) (w : World), D.rd S w v (Tm.sd ts) → ts.length + Tm.bulks ts ≤ 1048576 → Calls Tryz.prog 110 #[v] w (MadeS ts w)

set_option maxHeartbeats 400000 in
theorem copyTermS_of (ts : List Tm) (h : ∀ t ∈ ts, CopyT t) : CopyS ts := by
  intro S v w hr hbk
  obtain ⟨a, cap, rfl, hlen, hcap⟩ := Tm.sd_form hr
  have hmk := run_mk (P := Tryz.prog) Tryz.underlying48 infoTerm ts.length (by omega) hlen
  unfold big at hlen
  by_cases h0 : ts.length = 0
  · have h0' : ((ts.length : Int) == 0) = true := by simp [h0]
    have H0 := hid h0
    clear h0 hmk
    go_enter Tryz.func110, Tryz.ntmps110
    go_wp2_with fail
    go_ret
    obtain rfl : ts = [] := List.length_eq_zero_iff.1 H0.out
    exact ⟨_, [], rfl, by rw [Tm.sd, D.own]; exact ⟨none, 0, rfl, by simp, by simp, by simp, .inl ⟨by simp [Tm.css], rfl⟩⟩, by simp, Below.refl _ _⟩
  have h0' : ((ts.length : Int) == 0) = false := by simpa using h0
  clear h0
  go_enter Tryz.func110, Tryz.ntmps110
  go_wp2_with fail
  go_loopw [14] (fun i wr => ∃ (k : Nat) (F : List Nat), k ≤ ts.length ∧ i = .int .i64 k ∧ Filled wr w.heap.size 50 (ts.length * 2) (Tm.css (ts.take k)) F ∧ (∀ x ∈ F, w.heap.size < x) ∧ Below w.heap.size w wr) (fun i _ => ts.length - (intOf i).toNat)
  case atStart =>
    refine ⟨0, [], Nat.zero_le _, rfl, ?_, by simp, (Below.refl _ _).alloc (Nat.le_refl _) _⟩
    have := Filled.made w (madeCells #[Value.string ByteArray.empty, Value.slice none 0 0] (ts.length * 2)) 50
    rw [size_madeCells] at this
    simpa [Tm.css] using this
  case round =>
    obtain ⟨k, F, hk, rfl, hfl, hF, hb⟩ := hrel
    by_cases hlt : k < ts.length
    · have hne : ts ≠ [] := by intro e; subst e; simp at hlt
      obtain ⟨b, off, rfl, hS, hbl, hrr⟩ := Tm.sd_get hr hne
      obtain ⟨c0, c1, q0, q1, q2⟩ := hrr k hlt
      have q0' := (hb.cell (p := ⟨b, off + k * 2, none⟩) hbl).trans q0
      have q1' := (hb.cell (p := ⟨b, off + k * 2 + 1, none⟩) hbl).trans q1
      have q2' := Tm.at_keep (Keeps.all hb) q2
      have hmem := h ts[k] (List.getElem_mem hlt)
      have hbk' := Tm.bulk_mem (List.getElem_mem hlt)
      clear q0 q1 q2 hr hrr
      obtain ⟨rfl, -, x, xc, rfl⟩ := Tm.at_form q2'
      have hbx : Below wr.heap.size wr (wr.alloc (.cells #[.string ts[k].name, .slice x ts[k].args.length xc] 50)) := (Below.refl _ _).alloc (Nat.le_refl _) _
      have hq0 := cell_alloc q0'
      go_wp2_with fail
      refine (hmem _ _ _ _ (Tm.at_keep (Keeps.all hbx) q2') (by omega)).mono ?_
      rintro e w1 ⟨v, G, rfl, ho, hG, hb2⟩
      have hb1 : Below wr.heap.size wr w1 := hbx.trans (hb2.mono hbx.size)
      replace hG : ∀ x ∈ G, wr.heap.size ≤ x := fun x hx => Nat.le_trans hbx.size (hG x hx)
      clear hb2 hbx
      obtain ⟨a', cap', rfl⟩ := Tm.sd_own_form ho
      have hfl1 := hfl.keep (Keeps.all hb1)
      obtain ⟨x0, hx0⟩ := hfl1.cell (p := k * 2) (by omega)
      obtain ⟨x1, hx1⟩ := hfl1.cell (p := k * 2 + 1) (by omega)
      have hf0 := hfl1.free (k * 2)
      have hf1 := hfl1.free (k * 2 + 1)
      go_wp2_with fail
      go_roundw
      case rel =>
        have hB := hb.size
        have hBl := hfl.lt
        have hG' : w.heap.size ∉ G := fun q => by have := hG _ q; omega
        refine ⟨k + 1, F ++ G, by omega, by go_num, ?_, fun x hx => ?_, ((hb.trans (hb1.mono hB)).setCell (Nat.le_refl _) _).setCell (Nat.le_refl _) _⟩
        · rw [Tm.css_take_succ ts k hlt]
          have hl : (Tm.css (ts.take k)).length = k * 2 := by rw [Tm.css_length, List.length_take, Nat.min_eq_left hk]
          have hsz : ts[k].name.size ≤ maxLen := (Tm.at_form q2').2.1
          have hd : ∀ x ∈ F, x ∉ G := fun x hx hx' => by have := hG x hx'; have := hfl.ltF x hx; omega
          have s1 := hfl1.set (v := .string ts[k].name) (G := []) hl.symm (by omega) (D.own_str hsz) (by simp) (by simp)
          have s2 := s1.set (p := k * 2 + 1) (v := .slice a' ts[k].args.length cap') (G := G) (d := Tm.sd ts[k].args) (by simp [hl]) (by omega) (D.own_keep _ _ _ ((Keeps.refl _ _).setCell (fun q _ => hG' q) _) ho) hG' (by simpa using hd)
          simpa using s2
        · rcases List.mem_append.1 hx with hx | hx
          · exact hF x hx
          · have := hG x hx; omega
      case measure => simp [intOf]; omega
    · obtain rfl : k = ts.length := by omega
      go_wp2_with fail
      go_ret
      rw [List.take_length] at hfl
      by_cases hne : ts = []
      · subst hne
        exact ⟨_, [], rfl, D.own_nil _ _, by simp, hb⟩
      · exact ⟨_, _ :: F, rfl, hfl.own (Tm.css_ne hne) (by unfold big; omega) (Nat.le_refl _), fun x hx => by rcases List.mem_cons.1 hx with rfl | hx; exact Nat.le_refl _; exact Nat.le_of_lt (hF x hx), hb⟩


set_option maxHeartbeats 1000000 in
theorem copyTerm_of (n : ByteArray) (ts : List Tm) (h : CopyS ts) : CopyT (.node n ts) := by
  intro S c0 c1 w hr hbk
  obtain ⟨rfl, hn, a, cap, rfl⟩ := Tm.at_form hr
  have hs := hr.2
  rw [Tm.bulk] at hbk
  simp only [Tm.name, Tm.args] at hn hs ⊢
  clear hr
  have hW : Below w.heap.size w ((w.alloc (.cells #[.string n, .slice a ts.length cap] 50)).alloc (.cells #[.string ByteArray.empty, .slice none 0 0] 50)) := ((Below.refl _ _).alloc (Nat.le_refl _) _).alloc (by simp) _
  have z0 : ((w.alloc (.cells #[.string n, .slice a ts.length cap] 50)).alloc (.cells #[.string ByteArray.empty, .slice none 0 0] 50)).cell? ⟨w.heap.size, 0, none⟩ = some (.string n) := cell_alloc (box1 _ _ _ 0) _
  have z1 : ((w.alloc (.cells #[.string n, .slice a ts.length cap] 50)).alloc (.cells #[.string ByteArray.empty, .slice none 0 0] 50)).cell? ⟨w.heap.size, 1, none⟩ = some (.slice a ts.length cap) := cell_alloc (box1 _ _ _ 1) _
  have zs : w.heap.size + 1 = (w.alloc (.cells #[.string n, .slice a ts.length cap] 50)).heap.size := by simp
  have z2 : ((w.alloc (.cells #[.string n, .slice a ts.length cap] 50)).alloc (.cells #[.string ByteArray.empty, .slice none 0 0] 50)).cell? ⟨w.heap.size + 1, 0, none⟩ = some (.string ByteArray.empty) := by rw [zs]; exact box1 _ _ _ 0
  have z3 : ((w.alloc (.cells #[.string n, .slice a ts.length cap] 50)).alloc (.cells #[.string ByteArray.empty, .slice none 0 0] 50)).cell? ⟨w.heap.size + 1, 1, none⟩ = some (.slice none 0 0) := by rw [zs]; exact box1 _ _ _ 1
  clear zs
  go_enter Tryz.func92, Tryz.ntmps92
  go_wp2_with fail
  go_region_held3 (fun w' => w'.cell? ⟨w.heap.size, 0, none⟩ = some (.string n) ∧ w'.cell? ⟨w.heap.size, 1, none⟩ = some (.slice a ts.length cap))
    (first | go_keep)
    (first | (go_at_call 110; go_must (refine (h S _ _ (D.rd_keep (by first | exact (((Keeps.refl _ _).alloc _).alloc _).drew | exact ((Keeps.refl _ _).alloc _).alloc _ | exact ((((Keeps.refl _ _).alloc _).alloc _).drew).drew) _ _ hs) (by omega)).mono ?_; rintro e w1 ⟨v, F, rfl, ho, hF, hb⟩; (obtain ⟨a', cap', rfl⟩ := Tm.sd_own_form ho); (have y0 : w1.cell? ⟨w.heap.size, 0, none⟩ = some (.string n) := (hb.cell (p := ⟨w.heap.size, 0, none⟩) (by simp; try omega)).trans z0); (have y1 : w1.cell? ⟨w.heap.size, 1, none⟩ = some (.slice a ts.length cap) := (hb.cell (p := ⟨w.heap.size, 1, none⟩) (by simp; try omega)).trans z1); (have y2 := (hb.cell (p := ⟨w.heap.size + 1, 0, none⟩) (by simp; try omega)).trans z2); (have y3 := (hb.cell (p := ⟨w.heap.size + 1, 1, none⟩) (by simp; try omega)).trans z3); (have y4 := hb.frozen (p := ⟨w.heap.size + 1, 0, none⟩) (by simp; try omega)); (have y5 := hb.frozen (p := ⟨w.heap.size + 1, 1, none⟩) (by simp; try omega)))))
  have hz := hb.size
  simp only [World.size_drew, World.size_alloc] at hF hz
  have g1 : w.heap.size + 1 < w1.heap.size := by omega
  go_wp2_with fail
  refine bodyPost_ret (v := .agg #[.string n, .slice a' ts.length cap']) (by simp [results, Tryz.results92, go_sem, y2, y3]) rfl ?_
  refine ⟨_, F, rfl, D.own_keep _ _ _ (((Keeps.refl _ _).set_lt hF (by simp) _).set_lt hF (by simp) _) ho, fun x hx => by have := hF x hx; omega, ?_⟩
  exact ((hW.drew.trans (hb.mono (by simp; omega))).setCell (by simp) _).setCell (by simp) _
theorem copyTerm_any (t : Tm) : CopyT t := Tm.ind (fun n ts h => copyTerm_of n ts (copyTermS_of ts h)) t
end Go.Proofs.YtooocakkjdhfiaaGreatDoor
/- The reference's copies of terms. -/
namespace Go.Proofs.YtooocakkjdhfiaaGreatDoor
set_option maxRecDepth 100000
open Go.RowKit


theorem Tm.cs_eq (t : Tm) : t.cs = [.str t.name, Tm.sd t.args] := by cases t; simp [Tm.cs, Tm.name, Tm.args, Tm.sd]
theorem Tm.own_item {w : World} {t : Tm} {v : Value} {F : List Nat} (hn : t.name.size ≤ maxLen) (h : D.own w v (Tm.sd t.args) F) : OwnsL w [.string t.name, v] t.cs F := by
  have e : t.cs = [.str t.name, Tm.sd t.args] := by cases t; simp [Tm.cs, Tm.name, Tm.args, Tm.sd]
  rw [e]
  have := OwnsL.cons (F := []) (D.own_str hn) (OwnsL.cons h (OwnsL.nil w) (by simp)) (by simp)
  simpa using this

def OwnT (t : Tm) : Prop := ∀ (S : Nat → Prop) (c0 c1 : Value) (w : World), Tm.at S w c0 c1 t → t.bulk ≤ 1048576 → Calls Tryz.prog 61 #[.agg #[c0, c1]] w (MadeT t w)
set_option maxHeartbeats 2000000 in
theorem ownT_of (n : ByteArray) (ts : List Tm) (h : ∀ t ∈ ts, OwnT t) : OwnT (.node n ts) := by
  intro S c0 c1 w hr hbk
  obtain ⟨rfl, hn, a, cap, rfl⟩ := Tm.at_form hr
  have hs := hr.2
  rw [Tm.bulk] at hbk
  simp only [Tm.name, Tm.args] at hn hs ⊢
  clear hr
  have hlen := (Tm.sd_form hs)
  obtain ⟨_, _, e, hlen, hcap⟩ := hlen
  unfold big at hlen
  clear e
  go_enter Tryz.func61, Tryz.ntmps61
  go_wp2_with fail
  go_loopw [4] (fun i wr => ∃ (k : Nat) (F : List Nat) (v : Value), k ≤ ts.length ∧ i = .int .i64 k ∧ Gr wr (w.heap.size + 1 + 1 + 1) 50 2 v k (Tm.css (ts.take k)) F ∧ wr.cell? ⟨w.heap.size + 1 + 1, 0, none⟩ = some (.string n) ∧ wr.cell? ⟨w.heap.size + 1 + 1, 1, none⟩ = some v ∧ (∀ p, wr.frozen? ⟨w.heap.size + 1 + 1, p, none⟩ = false) ∧ w.heap.size + 1 + 1 + 1 ≤ wr.heap.size ∧ Below (w.heap.size + 1 + 1) (((w.alloc (.cells #[.string n, .slice a ts.length cap] 50)).alloc (.cells #[.string ByteArray.empty, .slice none 0 0] 50)).alloc (.cells #[.string n, .slice none 0 0] 50)) wr) (fun i _ => ts.length - (intOf i).toNat)
  case atStart =>
    refine ⟨0, [], .slice none 0 0, Nat.zero_le _, rfl, by rw [List.take_zero, Tm.css]; exact Gr.nil _ _ _ _, (box3 w _ _ _ _ _ _ 0).2.2, (box3 w _ _ _ _ _ _ 1).2.2, fun p => frz1 _ _ _ _ _ (by simp), by simp, Below.refl _ _⟩
  case round =>
    obtain ⟨k, F, v, hk, rfl, HG, y0, y1, y2, hz, hb⟩ := hrel
    have hbw : Below w.heap.size w wr := (((((Below.refl _ _).alloc (Nat.le_refl _) _).alloc (by simp) _).alloc (by simp; omega) _).trans (hb.mono (by omega)))
    have x0 : wr.cell? ⟨w.heap.size, 0, none⟩ = some (.string n) := (hb.cell (p := ⟨w.heap.size, 0, none⟩) (by simp; omega)).trans (box3 w _ _ _ _ _ _ 0).1
    have x1 : wr.cell? ⟨w.heap.size, 1, none⟩ = some (.slice a ts.length cap) := (hb.cell (p := ⟨w.heap.size, 1, none⟩) (by simp; omega)).trans (box3 w _ _ _ _ _ _ 1).1
    by_cases hlt : k < ts.length
    · have HGl := HG.ltF
      have hne : ts ≠ [] := by intro e; subst e; simp at hlt
      obtain ⟨b, off, rfl, hS, hbl, hrr⟩ := Tm.sd_get hs hne
      obtain ⟨c0, c1, q0, q1, q2⟩ := hrr k hlt
      replace q0 := (hbw.cell (p := ⟨b, off + k * 2, none⟩) hbl).trans q0
      replace q1 := (hbw.cell (p := ⟨b, off + k * 2 + 1, none⟩) hbl).trans q1
      replace q2 := Tm.at_keep (Keeps.all hbw) q2
      have hmem := h ts[k] (List.getElem_mem hlt)
      have hbk' := Tm.bulk_mem (List.getElem_mem hlt)
      obtain ⟨rfl, -, x, xc, rfl⟩ := Tm.at_form q2
      clear hrr
      have hv := HG.lt
      have hlb := hb.size
      simp only [World.size_alloc] at hlb
      have hbw2 : Below wr.heap.size wr wr.drew := (Below.refl _ _).drew
      go_wp2_with fail
      have hbne : b ≠ w.heap.size + 1 + 1 := by omega
      go_region_law (first
          | (refine step_append_gr (news := [.string ts[k].name, .slice a1 ts[k].args.length cap1]) (G := G) Tryz.underlying48 infoTerm rfl (by decide) (by decide) rfl _ _ (by rfl) (by rfl) (by rfl) (HG1.keep ((Below.refl _ _).alloc (Nat.le_refl _) _)) rfl (by intro j u hj; rw [box1]; simpa using hj) (by simp [Value.oneCell']) ((Tm.own_item (Tm.at_form q2).2.1 ho).keep (Keeps.all ((Below.refl _ _).alloc (Nat.le_refl _) _))) (fun x hx => by have := hG x hx; omega) (fun x hx hx' => by have := hG x hx'; have := HGl x hx; omega) (fun x hx hx' => by have := hG x hx'; have := (hv x hx).2; omega) (by omega) (by simp; omega) ?_
             intro g capg wg hg hgr hgo hglt
             have gc := fun (b' : Nat) (h' : b' < w.heap.size + 1 + 1 + 1) => grown_cell hgr (b := b') (by simp; omega) (fun x hx => by have := (hv x hx).1; omega)
             have y0g := ((gc (w.heap.size + 1 + 1) (by omega)).1 0).trans (cell_alloc y0' _)
             have y1g := ((gc (w.heap.size + 1 + 1) (by omega)).1 1).trans (cell_alloc y1' _)
             have y2g := fun p => ((gc (w.heap.size + 1 + 1) (by omega)).2 p).trans ((World.frozen?_alloc_past (w := w1) (.cells #[.string ts[k].name, .slice a1 ts[k].args.length cap1] 50) _ p (by omega)).trans (y2' p))
             have y2h := y2g 1
             clear gc)
          | (refine step_does rfl ?_
             unfold Does
             go_simp
             go_at_call 61
             refine (hmem _ _ _ _ (Tm.at_keep (Keeps.all hbw2) q2) (by omega)).mono ?_
             rintro e w1 ⟨v1, G, rfl, ho, hG, hb1⟩
             obtain ⟨a1, cap1, rfl⟩ := Tm.sd_own_form ho
             have z := bcell hb1
             simp only [World.size_drew, World.cell?_drew, World.frozen?_drew] at z hG
             have hb2 : Below wr.heap.size wr w1 := hbw2.trans (hb1.mono (by simp))
             have hzb := hb2.size
             have HG1 := HG.keep hb2
             have y0' := (z.1 (w.heap.size + 1 + 1) 0 (by omega)).trans y0
             have y1' := (z.1 (w.heap.size + 1 + 1) 1 (by omega)).trans y1
             have y2' := fun p => (z.2 (w.heap.size + 1 + 1) p (by omega)).trans (y2 p)
             have y1b := fun o => cell_alloc y1' o
             clear z
             refine ⟨_, rfl, ?_⟩))
      all_goals
        have hz1 : wg.heap.size ≥ w1.heap.size := by have := hgr.size; simp at this; omega
        have hb5 : Below (w.heap.size + 1 + 1) wr wg := below_grown ((hb2.mono (by omega)).trans (((Below.refl _ _).alloc (by omega) _))) hgr (by simp; omega) (fun x hx => by have := (hv x hx).1; omega)
        go_wp2_with fail
        go_roundw
        case rel =>
          refine ⟨k + 1, F ++ G, .slice (some ⟨g, 0, none⟩) (k + 1) capg, by omega, by go_num, ?_, ?_, ?_, ?_, ?_, ?_⟩
          · rw [Tm.css_take_succ ts k hlt, ← Tm.cs_eq]
            exact hg.setCell (by show w.heap.size + 1 + 1 < _; omega) _
          · rw [World.cell?_setCell_other _ _ _ _ (by intro e; injection e with _ e; omega)]; exact y0g
          · exact World.cell?_setCell_same _ _ _ y1g
          · intro p; rw [World.frozen?_setCell]; exact y2g p
          · rw [World.size_setCell]; omega
          · exact (hb.trans hb5).setCell (Nat.le_refl _) _
        case measure => simp [intOf]; omega
    · obtain rfl : k = ts.length := by omega
      rw [List.take_length] at HG
      obtain ⟨Gf, hO, hGf⟩ := HG.own (by decide)
      obtain ⟨a2, cap2, rfl⟩ := Tm.sd_own_form hO
      have r0 : wr.cell? ⟨w.heap.size + 1, 0, none⟩ = some (.string ByteArray.empty) := (hb.cell (p := ⟨w.heap.size + 1, 0, none⟩) (by simp)).trans (box3 w _ _ _ _ _ _ 0).2.1
      have r1 : wr.cell? ⟨w.heap.size + 1, 1, none⟩ = some (.slice none 0 0) := (hb.cell (p := ⟨w.heap.size + 1, 1, none⟩) (by simp)).trans (box3 w _ _ _ _ _ _ 1).2.1
      have f1 : ∀ p, wr.frozen? ⟨w.heap.size + 1, p, none⟩ = false := fun p => (hb.frozen (p := ⟨w.heap.size + 1, p, none⟩) (by simp)).trans ((World.frozen?_alloc_past _ _ p (by simp)).trans (World.frozen?_alloc_at _ _ _ p (by simp)))
      have f10 := f1 0
      have f11 := f1 1
      have hlb := hb.size
      simp only [World.size_alloc] at hlb
      go_wp2_with fail
      refine bodyPost_ret (v := .agg #[.string n, .slice a2 ts.length cap2]) (by simp [results, Tryz.results61, go_sem, r0, r1]) rfl ?_
      refine ⟨_, Gf, rfl, D.own_keep _ _ _ (((Keeps.refl _ _).set_lt hGf (by simp) _).set_lt hGf (by simp) _) hO, fun x hx => by have := hGf x hx; omega, ?_⟩
      exact (hbw.setCell (by simp) _).setCell (by simp) _
theorem ownT_any (t : Tm) : OwnT t := Tm.ind (fun n ts h => ownT_of n ts h) t
end Go.Proofs.YtooocakkjdhfiaaGreatDoor
/- The variables of a term in the order of their first occurrence: the reference's. -/
namespace Go.Proofs.YtooocakkjdhfiaaGreatDoor
set_option maxRecDepth 100000
open Go.RowKit

theorem Tm.leafy_iff (t : Tm) : t.leafy ↔ (varName t.name = true → t.args = []) ∧ ∀ a ∈ t.args, a.leafy := by
  cases t; rw [Tm.leafy, Tm.leafies_iff]; rfl
theorem l2InO_any {ss : List ByteArray} {s : ByteArray} {S : Nat → Prop} {v : Value} {w : World} (hv : D.rd S w v (slOf strE ss)) : Calls Tryz.prog 75 #[v, .string s] w fun e w' => e = .returned (.bool (hasStr ss s)) ∧ w = w' := by
  obtain ⟨a, cap, rfl, hlen, hcap⟩ := slOf_form hv
  unfold big at hlen
  go_enter Tryz.func75, Tryz.ntmps75
  go_wp2_with fail
  go_loop [5] (fun i => ∃ k : Nat, k ≤ ss.length ∧ i = .int .i64 k ∧ Hid (∀ j (h : j < k) (hj : j < ss.length), ss[j] ≠ s)) (fun i => ss.length - (intOf i).toNat)
  case atStart => exact ⟨0, Nat.zero_le _, rfl, fun j h => absurd h (by omega)⟩
  case round =>
    obtain ⟨k, hk, rfl, HK⟩ := hrel
    by_cases hlt : k < ss.length
    · obtain ⟨b, off, rfl, -, hbl, hrr⟩ := strs_get hv (by intro e; subst e; simp at hlt)
      obtain ⟨q0, -⟩ := hrr k hlt
      clear hrr hv
      by_cases he : ss[k] = s
      · have HP : Hid (hasStr ss s = true) := (hasStr_iff _ _).2 (he ▸ List.getElem_mem hlt)
        have hq := show (ss[k].toList == s.toList) = true by rw [he]; simp
        clear he
        go_wp2_with fail
        go_ret
        exact ⟨by rw [HP.out]; rfl, rfl⟩
      · have HS : Hid (∀ j (h : j < k + 1) (hj : j < ss.length), ss[j] ≠ s) := fun j h hj => by
          by_cases hjk : j < k
          · exact HK.out j hjk hj
          · obtain rfl : j = k := by omega
            exact he
        have hq := toList_ne he
        clear he
        go_wp2_with fail
        go_round
        case rel => exact ⟨k + 1, by omega, by go_num, HS⟩
        case measure => simp [intOf]; omega
    · obtain rfl : k = ss.length := by omega
      have HP : Hid (hasStr ss s = false) := by
        rw [Hid, Bool.eq_false_iff, Ne, hasStr_iff]
        intro hm
        obtain ⟨j, hj, e⟩ := List.mem_iff_getElem.1 hm
        exact HK.out j hj hj e
      go_wp2_with fail
      go_ret
      exact ⟨by rw [HP.out]; rfl, rfl⟩
/-- what l5Order comes to -/
def OrdIs (t : Tm) : Prop := ∀ (ss : List ByteArray) (v : Value) (B : Nat) (S : Nat → Prop) (c0 c1 : Value) (w : World), GS w B v ss → B ≤ w.heap.size → Tm.at S w c0 c1 t → (∀ x, S x → x < B) → t.leafy → t.bulk ≤ 1048576 → ss.length + t.size ≤ 1073741824 → Calls Tryz.prog 53 #[.agg #[c0, c1], v] w (Grew v (t.coll ss) B w)
set_option maxHeartbeats 2000000 in
theorem ordIs_of (t : Tm) (ih : ∀ a ∈ t.args, OrdIs a) : OrdIs t := by
  intro ss v B S c0 c1 w hv hB ht hS hlf hbk hss
  have hvl := hv.lt
  obtain ⟨va, vc, rfl, hvn, hvc⟩ := hv.form
  unfold big at hvn
  have HV := hid hv
  have HS := hid ht.2
  have hts : t.size = 1 + Tm.sizes t.args := by cases t; rw [Tm.size]; rfl
  obtain ⟨_, _, e, hlen, -⟩ := Tm.sd_form HS.out
  unfold big at hlen
  clear e
  obtain ⟨rfl, tn, ta, tc, rfl⟩ := Tm.at_form ht
  have hW : Below w.heap.size w (w.alloc (.cells #[.string t.name, .slice ta t.args.length tc] 50)) := (Below.refl _ _).alloc (Nat.le_refl _) _
  have bt : Box (w.alloc (.cells #[.string t.name, .slice ta t.args.length tc] 50)) w.heap.size [.string t.name, .slice ta t.args.length tc] := Box.new w _ _
  have x0 := bt.c0
  have hzz : w.heap.size + 1 ≤ (w.alloc (.cells #[.string t.name, .slice ta t.args.length tc] 50)).heap.size := by simp
  have hnr := hid ((Tm.leafy_iff t).1 hlf).2
  by_cases hvn2 : varName t.name = true
  · have HC : Hid (t.coll ss = addStr ss t.name) := by rw [Hid, Tm.coll_eq, if_pos ⟨((Tm.leafy_iff t).1 hlf).1 hvn2, hvn2⟩]
    have HVN := hid hvn2
    clear hvn2
    have hq := l2Var_any t.name tn (w.alloc (.cells #[.string t.name, .slice ta t.args.length tc] 50))
    go_enter Tryz.func53, Tryz.ntmps53
    go_wp2_with fail
    refine hq.mono ?_
    generalize w.alloc (.cells #[.string t.name, .slice ta t.args.length tc] 50) = w0 at *
    clear hq
    rintro e w1 ⟨rfl, rfl⟩
    rw [HVN.out]
    have hrd := D.rd_keep (Keeps.all hW) _ _ HV.out.rd
    by_cases hin : hasStr ss t.name = true
    · have HA : Hid (addStr ss t.name = ss) := by rw [Hid, addStr, if_pos hin]
      have HI := hid hin
      clear hin
      go_wp2_with fail
      refine (l2InO_any hrd).mono ?_
      rintro e w2 ⟨rfl, rfl⟩
      rw [HI.out]
      go_wp2_with fail
      go_ret
      exact ⟨_, rfl, by rw [HC.out, HA.out]; exact HV.out.keep hW, grown_of_below hW _, Goes.refl _ _, fun h => h⟩
    · have HA : Hid (addStr ss t.name = ss ++ [t.name]) := by rw [Hid, addStr, if_neg hin]
      have HI := hid (Bool.eq_false_iff.2 hin)
      clear hin
      have hA : Below w0.heap.size w0 (w0.alloc (.cells #[.string t.name] 9)) := (Below.refl _ _).alloc (Nat.le_refl _) _
      go_wp2_with fail
      refine (l2InO_any hrd).mono ?_
      rintro e w2 ⟨rfl, rfl⟩
      rw [HI.out]
      go_wp2_with (refine wpList_append_str (B := B) (ss := ss) (y := t.name) rfl _ _ (by rfl) (by rfl) (by rfl) ((HV.out.row.keep hW).keep hA) tn (box1 _ _ _ 0) (by omega) (by rw [World.size_alloc]; have := hW.size; omega) ?_; intro g cap2 w2 hrow hgr hgo hlt2)
      go_ret
      refine ⟨_, rfl, ?_, grown_trans (grown_of_below (hW.trans (hA.mono hW.size)) _) hgr (fun x h => .inl h), fun x h => ?_, fun _ e => by cases e⟩
      · rw [HC.out, HA.out]
        have := GS.of_row hrow
        exact this
      · rcases hgo x h with q | q
        · exact .inl q
        · right; rw [World.size_alloc] at q; have := hW.size; omega
  · have HC : Hid (t.coll ss = Tm.colls t.args ss) := by rw [Hid, Tm.coll_eq, if_neg (fun h => hvn2 h.2)]
    have HVN := hid (Bool.eq_false_iff.2 hvn2)
    clear hvn2
    have hq := l2Var_any t.name tn (w.alloc (.cells #[.string t.name, .slice ta t.args.length tc] 50))
    go_enter Tryz.func53, Tryz.ntmps53
    go_wp2_with fail
    refine hq.mono ?_
    generalize w.alloc (.cells #[.string t.name, .slice ta t.args.length tc] 50) = w0 at *
    clear hq x0
    rintro e w1 ⟨rfl, rfl⟩
    rw [HVN.out]
    go_wp2_with fail
    go_loopw [1, 5] (fun x i wr => ∃ k : Nat, k ≤ t.args.length ∧ i = .int .i64 k ∧ Hid (GS wr B x (Tm.colls (t.args.take k) ss)) ∧ Hid (w0.grownBy wr (Value.slice va ss.length vc).ownBlock) ∧ Hid (Goes w0 (.slice va ss.length vc) x) ∧ Hid (Value.slice va ss.length vc ≠ .slice none 0 0 → x ≠ .slice none 0 0)) (fun _ i _ => t.args.length - (intOf i).toNat)
    case atStart => exact ⟨0, Nat.zero_le _, rfl, by rw [List.take_zero, Tm.colls]; exact HV.out.keep hW, grown_refl _ _, Goes.refl _ _, fun h => h⟩
    case round =>
      obtain ⟨k, hk, rfl, HG, HGR, HGO, HNN⟩ := hrel
      have hgz := HGR.out.size
      have hltb := bt.lt
      have gx := (grown_cell HGR.out (b := w.heap.size) hltb (fun x hx => by have := (hvl x hx).2; omega)).1
      have x1 := (gx 1).trans bt.c1
      clear gx
      have hkI : (0 : Int) ≤ (k : Int) := by omega
      by_cases hlt : k < t.args.length
      · have hne : t.args ≠ [] := by intro e; rw [e] at hlt; simp at hlt
        have hr := D.rd_keep (keeps_low HGR.out (fun k hk => (hvl k hk).1) hS) _ _ (D.rd_keep (Keeps.all hW) _ _ HS.out)
        obtain ⟨b, off, rfl, hSb, hbl, hrr⟩ := Tm.sd_get hr hne
        obtain ⟨c0, c1, q0, q1, q2⟩ := hrr k hlt
        obtain ⟨rfl, -, qa, qc, rfl⟩ := Tm.at_form q2
        have hbm := Tm.bulk_mem (List.getElem_mem hlt)
        have hba := Tm.args_bulk t
        have hst := Tm.sizes_take t.args k hlt
        have hsl := Tm.sizes_le t.args (k + 1)
        have hcl := Tm.colls_length (t.args.take k) ss
        have hq := ih t.args[k] (List.getElem_mem hlt) _ _ B S _ _ _ HG.out (by have := hW.size; omega) q2 hS (hnr.out _ (List.getElem_mem hlt)) (by omega) (by omega)
        rw [← Tm.colls_take _ _ _ hlt] at hq
        clear hrr hbm hba hst hsl hcl hr
        go_wp2_with fail
        refine hq.mono ?_
        rintro e w2 ⟨v2, rfl, hg2, hgr2, hgo2, hnn2⟩
        have HG2 := hid hg2
        have HGR2 := hid (grown_trans HGR.out hgr2 (fun x h => HGO.out x h))
        have HGO2 := hid (Goes.trans HGO.out hgz hgo2)
        have HNN2 := hid (fun h => hnn2 (HNN.out h))
        clear hq hg2 hgr2 hgo2 hnn2
        go_wp2_with fail
        go_roundw
        case rel => exact ⟨k + 1, by omega, by go_num, HG2, HGR2, HGO2, HNN2.out⟩
        case measure => simp [intOf]; omega
      · obtain rfl : k = t.args.length := by omega
        go_wp2_with fail
        go_ret
        refine ⟨_, rfl, by rw [HC.out]; have := HG.out; rwa [List.take_length] at this, grown_trans (grown_of_below hW _) HGR.out (fun x h => .inl h), fun x h => ?_, HNN.out⟩
        rcases HGO.out x h with q | q
        · exact .inl q
        · exact .inr (Nat.le_trans hW.size q)
theorem ordIs_any (t : Tm) : OrdIs t := ind2 ordIs_of t
end Go.Proofs.YtooocakkjdhfiaaGreatDoor
/- Lists that grow, of which the call owns the row alone: what the items' slices lead to is another's. -/
namespace Go.Proofs.YtooocakkjdhfiaaGreatDoor
set_option maxRecDepth 100000
open Go.RowKit

theorem CellsRd.keep {S : Nat → Prop} {w w' : World} (hk : Keeps S w w') : ∀ {vs : List Value} {ds : List D}, CellsRd S w vs ds → CellsRd S w' vs ds
  | [], [], _ => trivial
  | [], _ :: _, h => h.elim
  | _ :: _, [], h => h.elim
  | _ :: _, _ :: _, ⟨h0, h1⟩ => ⟨D.rd_keep hk _ _ h0, CellsRd.keep hk h1⟩
theorem CellsRd.mono {S S' : Nat → Prop} {w : World} (hs : ∀ b, S b → S' b) : ∀ {vs : List Value} {ds : List D}, CellsRd S w vs ds → CellsRd S' w vs ds
  | [], [], _ => trivial
  | [], _ :: _, h => h.elim
  | _ :: _, [], h => h.elim
  | _ :: _, _ :: _, ⟨h0, h1⟩ => ⟨D.rd_mono hs _ _ h0, CellsRd.mono hs h1⟩
theorem CellsRd.append {S : Nat → Prop} {w : World} : ∀ {vs : List Value} {ds : List D} {us : List Value} {es : List D}, CellsRd S w vs ds → CellsRd S w us es → CellsRd S w (vs ++ us) (ds ++ es)
  | [], [], _, _, _, k => k
  | [], _ :: _, _, _, h, _ => h.elim
  | _ :: _, [], _, _, h, _ => h.elim
  | _ :: _, _ :: _, _, _, ⟨h0, h1⟩, k => ⟨h0, CellsRd.append h1 k⟩
theorem CellsRd.length {S : Nat → Prop} {w : World} {vs : List Value} {ds : List D} (h : CellsRd S w vs ds) : vs.length = ds.length := h.get.1
theorem CellsRd.rds {S : Nat → Prop} {w : World} {b : Nat} : ∀ {vs : List Value} {ds : List D} (off : Nat), CellsRd S w vs ds → (∀ i (h : i < vs.length), w.cell? ⟨b, off + i, none⟩ = some vs[i]) → D.rds S w b off ds
  | [], [], _, _, _ => by rw [D.rds]; trivial
  | [], _ :: _, _, h, _ => h.elim
  | _ :: _, [], _, h, _ => h.elim
  | v :: vs, d :: ds, off, ⟨h0, h1⟩, hc => by
    rw [D.rds]
    refine ⟨⟨v, hc 0 (by simp), h0⟩, CellsRd.rds (off + 1) h1 fun i hi => ?_⟩
    have := hc (i + 1) (by simpa using hi)
    rw [show off + (i + 1) = off + 1 + i by omega] at this
    simpa using this
theorem rds_cells {S : Nat → Prop} {w : World} {b : Nat} : ∀ (ds : List D) (off : Nat), D.rds S w b off ds → ∃ vs : List Value, CellsRd S w vs ds ∧ ∀ i (h : i < vs.length), w.cell? ⟨b, off + i, none⟩ = some vs[i]
  | [], _, _ => ⟨[], trivial, fun i h => absurd h (by simp)⟩
  | d :: ds, off, h => by
    rw [D.rds] at h
    obtain ⟨⟨v, q0, q1⟩, hr⟩ := h
    obtain ⟨vs, h0, h1⟩ := rds_cells ds (off + 1) hr
    refine ⟨v :: vs, ⟨q1, h0⟩, fun i hi => ?_⟩
    cases i with
    | zero => simpa using q0
    | succ i =>
      have := h1 i (by simpa using hi)
      rw [show off + 1 + i = off + (i + 1) by omega] at this
      simpa using this
theorem rd_one {S : Nat → Prop} {w : World} {v : Value} {d : D} (h : D.rd S w v d) : v.oneCell' = true := by
  cases d with
  | str s => rw [D.rd] at h; rw [h.1]; rfl
  | num n => rw [D.rd] at h; rw [h.1]; rfl
  | bit b => rw [D.rd] at h; rw [h]; rfl
  | sl n cs => rw [D.rd] at h; obtain ⟨a, cap, rfl, _⟩ := h; rfl
theorem CellsRd.one {S : Nat → Prop} {w : World} : ∀ {vs : List Value} {ds : List D}, CellsRd S w vs ds → ∀ u ∈ vs, u.oneCell' = true
  | [], [], _, u, hu => by simp at hu
  | [], _ :: _, h, _, _ => h.elim
  | _ :: _, [], h, _, _ => h.elim
  | v :: vs, d :: ds, ⟨h0, h1⟩, u, hu => by
    rcases List.mem_cons.1 hu with rfl | hu
    · exact rd_one h0
    · exact CellsRd.one h1 u hu

/-- a list that grows, of items of m cells of type e: its row lies in a block from B on; its cells read by blocks of S -/
def Rv (S : Nat → Prop) (w : World) (B : Nat) (e : TypeId) (m : Nat) (v : Value) (n : Nat) (ds : List D) : Prop :=
  ∃ vs, w.ownsRow B e m v n vs ∧ CellsRd S w vs ds

theorem Rv.nil (S : Nat → Prop) (w : World) (B : Nat) (e : TypeId) (m : Nat) : Rv S w B e m (.slice none 0 0) 0 [] := ⟨[], World.ownsRow_nil w B e m, trivial⟩
theorem Rv.made {S : Nat → Prop} {w : World} {B n : Nat} (e : TypeId) (m : Nat) (hn : n = w.heap.size) (hB : B ≤ w.heap.size) : Rv S (w.alloc (.cells #[] e)) B e m (.slice (some ⟨n, 0, none⟩) 0 0) 0 [] := by
  subst hn
  exact ⟨[], World.ownsRow_made w #[] 0 hB (by decide) (by simp), trivial⟩
theorem Rv.keep {S : Nat → Prop} {w w' : World} {B : Nat} {e : TypeId} {m : Nat} {v : Value} {n : Nat} {ds : List D} (h : Rv S w B e m v n ds) (hb : Below w.heap.size w w') : Rv S w' B e m v n ds := by
  obtain ⟨vs, h0, h1⟩ := h
  exact ⟨vs, h0.kept ⟨hb.os, hb.tape, hb.output, hb.size, fun k hk _ => hb.block k hk⟩ (row := none) (by cases v.ownBlock <;> simp), h1.keep (Keeps.all hb)⟩
theorem Rv.mono {S S' : Nat → Prop} {w : World} {B : Nat} {e : TypeId} {m : Nat} {v : Value} {n : Nat} {ds : List D} (h : Rv S w B e m v n ds) (hs : ∀ b, S b → S' b) : Rv S' w B e m v n ds := by
  obtain ⟨vs, h0, h1⟩ := h
  exact ⟨vs, h0, h1.mono hs⟩
theorem Rv.form {S : Nat → Prop} {w : World} {B : Nat} {e : TypeId} {m : Nat} {v : Value} {n : Nat} {ds : List D} (h : Rv S w B e m v n ds) : ∃ a cap, v = .slice a n cap ∧ n ≤ big ∧ n ≤ cap := by
  obtain ⟨vs, h0, _⟩ := h
  rcases h0.2 with ⟨rfl, h1⟩ | ⟨g, cap, cur, rfl, hb, hg, hc, hm, _⟩
  · exact ⟨none, 0, by rw [h1], by omega, by omega⟩
  · exact ⟨_, cap, rfl, Nat.le_trans hc hm, hc⟩
theorem Rv.lt {S : Nat → Prop} {w : World} {B : Nat} {e : TypeId} {m : Nat} {v : Value} {n : Nat} {ds : List D} (h : Rv S w B e m v n ds) : ∀ k, v.ownBlock = some k → B ≤ k ∧ k < w.heap.size := by
  obtain ⟨vs, h0, _⟩ := h; exact h0.lt
/-- .. it reads as a slice -/
theorem Rv.rd {S : Nat → Prop} {w : World} {B : Nat} {e : TypeId} {m : Nat} {v : Value} {n : Nat} {ds : List D} (h : Rv S w B e m v n ds) (hm : 0 < m) (hS : ∀ k, v.ownBlock = some k → S k) : D.rd S w v (.sl n ds) := by
  obtain ⟨vs, h0, h1⟩ := h
  have hl := h1.length
  have hn := h0.1
  rw [D.rd]
  rcases h0.2 with ⟨rfl, h4⟩ | ⟨g, cap, cur, rfl, hb, hg, hcp, hmx, hs, htk⟩
  · subst h4
    have : vs = [] := List.length_eq_zero_iff.1 (by simpa using hn)
    subst this
    have : ds = [] := List.length_eq_zero_iff.1 (by simpa using hl.symm)
    subst this
    exact ⟨_, _, rfl, by simp, by simp, by simp, by simp⟩
  · refine ⟨_, _, rfl, Nat.le_trans hcp hmx, hcp, fun h0 hd => ?_, fun _ => ⟨g, 0, rfl, hS g rfl, lt_of_heap hg, h1.rds 0 (Gr.cell h0)⟩⟩
    subst hd
    have hz : n * m = 0 := by rw [← hn, hl]; rfl
    rcases Nat.mul_eq_zero.1 hz with q | q <;> omega

/-- what was in the slice is in it still -/
def Pre (w w' : World) (v : Value) (k : Nat) : Prop := ∀ g i, v.ownBlock = some g → i < k → w'.cell? ⟨g, i, none⟩ = w.cell? ⟨g, i, none⟩
theorem Pre.refl (w : World) (v : Value) (k : Nat) : Pre w w v k := fun _ _ _ _ => rfl
theorem Pre.of_below {w w' : World} {v : Value} {k : Nat} (h : Below w.heap.size w w') (hv : ∀ x, v.ownBlock = some x → x < w.heap.size) : Pre w w' v k := fun g i hg _ => h.cell (p := ⟨g, i, none⟩) (hv g hg)
theorem Rv.old {S : Nat → Prop} {w w' : World} {B : Nat} {e : TypeId} {m : Nat} {v : Value} {n : Nat} {ds : List D} (h : Rv S w B e m v n ds) (hm : 0 < m) (hk : Keeps S w w') (hp : Pre w w' v (n * m)) (hz : w.heap.size ≤ w'.heap.size) : D.rd (fun x => S x ∨ v.ownBlock = some x) w' v (.sl n ds) := by
  obtain ⟨vs, h0, h1⟩ := h
  have hl := h1.length
  have hn := h0.1
  rw [D.rd]
  rcases h0.2 with ⟨rfl, h4⟩ | ⟨g, cap, cur, rfl, hb, hg, hcp, hmx, hs, htk⟩
  · subst h4
    have : vs = [] := List.length_eq_zero_iff.1 (by simpa using hn)
    subst this
    have : ds = [] := List.length_eq_zero_iff.1 (by simpa using hl.symm)
    subst this
    exact ⟨_, _, rfl, by simp, by simp, by simp, by simp⟩
  · refine ⟨_, _, rfl, Nat.le_trans hcp hmx, hcp, fun h0 hd => ?_, fun _ => ⟨g, 0, rfl, .inr rfl, Nat.lt_of_lt_of_le (lt_of_heap hg) hz, ((h1.keep hk).mono fun _ q => .inl q).rds 0 fun i hi => ?_⟩⟩
    · subst hd
      have hz : n * m = 0 := by rw [← hn, hl]; rfl
      rcases Nat.mul_eq_zero.1 hz with q | q <;> omega
    · have := hp g (0 + i) rfl (by rw [← hn]; omega)
      rw [this]
      exact Gr.cell h0 i hi

/-- append(list, src...) at known cells: where the new list lies, and what becomes of the old -/
theorem run_append_val {P : Program} {w : World} {B : Nat} {t e ty : TypeId} {m bytes : Nat} {z : Value} (ht : P.underlying t = some (.slice e)) (hinfo : (P.info? e).map (fun i => (i.zero, i.size, i.bytes)) = some (some z, m, bytes)) (hzs : z.cells.size = m) (hm : 0 < m) (hbytes : bytes ≤ 1000)
    {v : Value} {n : Nat} {vs : List Value} (hrow : w.ownsRow B e m v n vs) {b off k c : Nat} {news : List Value} (hl : news.length = k * m) (hcell : ∀ j u, news[j]? = some u → w.cell? ⟨b, off + j, none⟩ = some u) (h1 : ∀ u ∈ news, u.oneCell' = true) (hn : n + k ≤ 4294967296) (hB : B ≤ w.heap.size) :
    ∃ v' w', (Builtin.append_ #[t, t] ty #[v, .slice (some ⟨b, off, none⟩) k c]).run P w = .ok v' w' ∧ w'.ownsRow B e m v' (n + k) (vs ++ news) ∧ w.grownBy w' v.ownBlock ∧ (v'.ownBlock = v.ownBlock ∨ v'.ownBlock = some w.heap.size) ∧ (v ≠ .slice none 0 0 → v' ≠ .slice none 0 0) ∧ Pre w w' v (n * m) := by
  obtain ⟨i, hi, hz0, hz1, hz2⟩ := info_split hinfo
  have hcell' : ∀ j u, news[j]? = some u → w.cell? ((⟨b, off, none⟩ : Addr).add j) = some u := fun j u hj => by
    have := hcell j u hj
    unfold Addr.add
    split
    · rename_i h0; subst h0; exact this
    · simpa using this
  obtain ⟨v', w', q1, q2, q3, q4, q5⟩ := run_append_own_at (P := P) w B t ty e i z m bytes ht hi hz0 hz1 hz2 hzs hm v n vs hrow ⟨b, off, none⟩ k c news hl hcell' h1 (by unfold maxLen; omega) (Nat.le_trans (Nat.mul_le_mul_left _ hbytes) (by omega)) hB
  refine ⟨v', w', q1, q2, q3, q5, fun hne hn => hne (q4.1 hn).1, ?_⟩
  intro g i' hg hi'
  have hc := hrow.cells hg
  have hvl := hrow.1
  have hold : w.cell? ⟨g, i', none⟩ = some (vs[i']'(by omega)) := by
    have := hc i' (vs[i']'(by omega)) (List.getElem?_eq_getElem (by omega))
    have hadd : (⟨g, 0, none⟩ : Addr).add i' = ⟨g, i', none⟩ := by unfold Addr.add; split <;> simp_all
    rwa [hadd] at this
  rcases hrow.2 with ⟨rfl, _⟩ | ⟨g0, cap, cur, rfl, hbg, hgg, hnc, hcm, hcs, htk⟩
  · cases hg
  · have : g0 = g := Option.some.inj hg
    subst this
    by_cases hroom : n + k ≤ cap
    · have hfit : n * i.size + news.length ≤ cur.size := by rw [hz1, hl, hcs, ← Nat.add_mul]; exact Nat.mul_le_mul_right _ hroom
      have hr := run_append_room (P := P) w t ty e i ht hi g0 n cap cur hgg ⟨b, off, none⟩ k c news (by rw [hz1]; exact hl) hcell' h1 hroom hfit
      rw [q1] at hr
      injection hr with e1 e2
      subst e1
      have hx := q2.cells (g := g0) rfl i' (vs[i']'(by omega)) (by rw [List.getElem?_append_left (by omega), List.getElem?_eq_getElem (by omega)])
      have hadd : (⟨g0, 0, none⟩ : Addr).add i' = ⟨g0, i', none⟩ := by unfold Addr.add; split <;> simp_all
      rw [hadd] at hx
      rw [hold, hx]
    · have hr := run_append_grow (P := P) w t ty e i z ht hi hz0 ⟨g0, 0, none⟩ n cap vs (by rw [hz1]; exact hvl) (hrow.cells (g := g0) rfl) ⟨b, off, none⟩ k c news (by rw [hz1]; exact hl) hcell' (by omega) (by omega) (growslice_fits (by omega) (by rw [hz2]; exact Nat.le_trans (Nat.mul_le_mul_left _ hbytes) (by omega)))
      rw [q1] at hr
      injection hr with e1 e2
      subst e2
      exact World.cell?_of_block (a := ⟨g0, i', none⟩) (heap_alloc_old w.drew _ (lt_of_heap hgg))

/-- .. at items that read -/
theorem run_append_rv {P : Program} {S : Nat → Prop} {w : World} {B : Nat} {t e ty : TypeId} {m bytes : Nat} {z : Value} (ht : P.underlying t = some (.slice e)) (hinfo : (P.info? e).map (fun i => (i.zero, i.size, i.bytes)) = some (some z, m, bytes)) (hzs : z.cells.size = m) (hm : 0 < m) (hbytes : bytes ≤ 1000)
    {v : Value} {n : Nat} {ds : List D} (hrow : Rv S w B e m v n ds) (hv : ∀ k, v.ownBlock = some k → ¬ S k) {b off k c : Nat} {news : List Value} {es : List D} (hl : news.length = k * m) (hcell : ∀ j u, news[j]? = some u → w.cell? ⟨b, off + j, none⟩ = some u) (hR : CellsRd S w news es) (hn : n + k ≤ 4294967296) (hB : B ≤ w.heap.size) :
    ∃ v' w', (Builtin.append_ #[t, t] ty #[v, .slice (some ⟨b, off, none⟩) k c]).run P w = .ok v' w' ∧ Rv S w' B e m v' (n + k) (ds ++ es) ∧ w.grownBy w' v.ownBlock ∧ (v'.ownBlock = v.ownBlock ∨ v'.ownBlock = some w.heap.size) ∧ (v ≠ .slice none 0 0 → v' ≠ .slice none 0 0) ∧ Pre w w' v (n * m) := by
  obtain ⟨vs, h0, h1⟩ := hrow
  obtain ⟨v', w', q1, q2, q3, q4, q5, q6⟩ := run_append_val (ty := ty) (c := c) ht hinfo hzs hm hbytes h0 hl hcell hR.one hn hB
  have hk : Keeps S w w' := ⟨q3.size, fun x hx hl => q3.block x hl fun e => hv x e.symm hx⟩
  exact ⟨v', w', q1, ⟨_, q2, (h1.keep hk).append (hR.keep hk)⟩, q3, q4, q5, q6⟩
theorem wpList_append_rv {P : Program} {ops : Array Oper} {rest : List Oper} {o : Oper} {a : Act} {w : World} {Q : Exit → Act → World → Prop} {S : Nat → Prop} {B : Nat} {t e : TypeId} {m bytes : Nat} {z : Value} (ht : P.underlying t = some (.slice e)) (hinfo : (P.info? e).map (fun i => (i.zero, i.size, i.bytes)) = some (some z, m, bytes)) (hzs : z.cells.size = m) (hm : 0 < m) (hbytes : bytes ≤ 1000)
    (hgd : o.guard = none) (s x : Operand) (ho : o.op = .call { callee := .builtin .append, args := #[s, x], argTypes := #[t, t] })
    {v : Value} {n : Nat} {ds : List D} {b off k c : Nat} {news : List Value} {es : List D} (hs : a.eval s = v) (hx : a.eval x = .slice (some ⟨b, off, none⟩) k c) (hrow : Rv S w B e m v n ds) (hv : ∀ k, v.ownBlock = some k → ¬ S k) (hl : news.length = k * m) (hcell : ∀ j u, news[j]? = some u → w.cell? ⟨b, off + j, none⟩ = some u) (hR : CellsRd S w news es) (hn : n + k ≤ 4294967296) (hB : B ≤ w.heap.size)
    (h : ∀ v' w', Rv S w' B e m v' (n + k) (ds ++ es) → w.grownBy w' v.ownBlock → (v'.ownBlock = v.ownBlock ∨ v'.ownBlock = some w.heap.size) → (v ≠ .slice none 0 0 → v' ≠ .slice none 0 0) → Pre w w' v (n * m) → wpList P ops Q rest (a.put o.dst v') w') : wpList P ops Q (o :: rest) a w := by
  obtain ⟨v', w', hr, h2, h3, h4, h5, h6⟩ := run_append_rv (ty := o.type) (c := c) ht hinfo hzs hm hbytes hrow hv hl hcell hR hn hB
  refine wpList_plain hgd fun _ hK => ?_
  unfold Oper.wp execOp
  simp only [ho, resolve, invoke, builtin, Sem.run_bind, Sem.run_pure, Result.andThen_ok, List.map_toArray, List.map_cons, List.map_nil, hs, hx, hr]
  exact hK _ _ (h v' w' h2 h3 h4 h5 h6)
theorem wpList_append_rv_none {P : Program} {ops : Array Oper} {rest : List Oper} {o : Oper} {a : Act} {w : World} {Q : Exit → Act → World → Prop} {S : Nat → Prop} {B : Nat} {t e : TypeId} {m bytes : Nat} {z : Value} (ht : P.underlying t = some (.slice e)) (hinfo : (P.info? e).map (fun i => (i.zero, i.size, i.bytes)) = some (some z, m, bytes))
    (hgd : o.guard = none) (s x : Operand) (ho : o.op = .call { callee := .builtin .append, args := #[s, x], argTypes := #[t, t] })
    {v : Value} {n : Nat} {ds : List D} (hs : a.eval s = v) (hx : a.eval x = .slice none 0 0) (hrow : Rv S w B e m v n ds) (h : wpList P ops Q rest (a.put o.dst v) w) : wpList P ops Q (o :: rest) a w := by
  obtain ⟨i, hi, hz0, hz1, hz2⟩ := info_split hinfo
  obtain ⟨vs, h0, h1⟩ := hrow
  exact wpList_append_own_none hgd s x t ho B e i m ht hi v n vs hs h0 hx h
end Go.Proofs.YtooocakkjdhfiaaGreatDoor
/- The reference's names of a clause, in the order of their first occurrence. -/
namespace Go.Proofs.YtooocakkjdhfiaaGreatDoor
set_option maxRecDepth 100000
open Go.RowKit

set_option maxHeartbeats 2000000 in
theorem l7Order_any (t : Cl) {S : Nat → Prop} {c0 : Value} {w : World} (hT : Cl.at S w c0 t) (hbk : t.bulk ≤ 1048576) (hlf : ∀ a ∈ t.atoms, a.leafy) :
    Calls Tryz.prog 31 #[.agg #[c0]] w fun e w' => ∃ g cap, e = .returned (.slice (some ⟨g, 0, none⟩) (Tm.colls t.atoms []).length cap) ∧ GS w' w.heap.size (.slice (some ⟨g, 0, none⟩) (Tm.colls t.atoms []).length cap) (Tm.colls t.atoms []) ∧ Below w.heap.size w w' := by
  have hal := t.atoms_length
  have has := t.atoms_sizes
  have hlen : t.ls.length ≤ 1048576 := by rw [Cl.bulk] at hbk; omega
  have HT := hid (D.rd_lt _ _ hT)
  obtain ⟨a, cap, rfl⟩ := Cl.at_form hT
  have hW : Below w.heap.size w (w.alloc (.cells #[.slice a t.ls.length cap] 28)) := (Below.refl _ _).alloc (Nat.le_refl _) _
  have bT : Box (w.alloc (.cells #[.slice a t.ls.length cap] 28)) w.heap.size [.slice a t.ls.length cap] := Box.new w _ _
  have x0 := bT.c0
  go_enter Tryz.func31, Tryz.ntmps31
  go_wp2_with fail
  clear x0
  go_loopw [3, 4] (fun x i wr => ∃ k : Nat, k ≤ t.ls.length ∧ i = .int .i64 k ∧ Hid (GS wr (w.heap.size + 1) x (Tm.colls (t.atoms.take k) [])) ∧ Hid (x ≠ .slice none 0 0) ∧ Hid (Below (w.heap.size + 1) (w.alloc (.cells #[.slice a t.ls.length cap] 28)) wr)) (fun _ i _ => t.ls.length - (intOf i).toNat)
  case atStart => exact ⟨0, Nat.zero_le _, rfl, by rw [List.take_zero, Tm.colls]; exact GS.made (by simp) (by simp), hid (by intro e; cases e), (Below.refl _ _).alloc (by simp) _⟩
  case round =>
    obtain ⟨k, hk, rfl, HG, HN, HB⟩ := hrel
    have hzb : w.heap.size + 1 ≤ wr.heap.size := by have := HB.out.size; rw [World.size_alloc] at this; exact this
    have hb : Below w.heap.size w wr := hW.trans (HB.out.mono (Nat.le_succ _))
    have x0 := (HB.out.cell (p := ⟨w.heap.size, 0, none⟩) (Nat.lt_succ_self _)).trans bT.c0
    have l0 : w.heap.size < wr.heap.size := hzb
    have hkI : (0 : Int) ≤ (k : Int) := by omega
    by_cases hlt : k < t.ls.length
    · have hne : t.ls ≠ [] := by intro e; rw [e] at hlt; simp at hlt
      obtain ⟨b, off, rfl, hSb, hbl, hrr⟩ := Lit.sd_get (D.rd_keep (Keeps.all hb) _ _ HT.out) hne
      obtain ⟨c0, c1, c2, q0, q1, q2, qx⟩ := hrr k hlt
      obtain ⟨rfl, rfl, qa, qc, rfl⟩ := Lit.at_form qx
      have hga := Cl.atoms_get t k hlt (by omega)
      have hmem : t.ls[k].atom ∈ t.atoms := by rw [← hga]; exact List.getElem_mem _
      have hst := Tm.sizes_take t.atoms k (by omega)
      have hsl := Tm.sizes_le t.atoms (k + 1)
      have hcl := Tm.colls_length (t.atoms.take k) []
      have hbm : t.ls[k].atom.bulk ≤ 1048576 := by have := Lit.bulk_mem (List.getElem_mem hlt); rw [Cl.bulk] at hbk; have h3 : t.ls[k].bulk = t.ls[k].atom.bulk := rfl; omega
      rw [hga] at hst
      simp only [List.length_nil, Nat.zero_add] at hcl
      have hq := ordIs_any t.ls[k].atom _ _ (w.heap.size + 1) _ _ _ _ HG.out hzb (Lit.at_atom qx) (fun x (hx : x < w.heap.size) => Nat.lt_succ_of_lt hx) (hlf _ hmem) hbm (by omega)
      rw [← hga, ← Tm.colls_take _ _ _ (by omega)] at hq
      have q3 : wr.cell? ⟨b, off + k * 3 + 1 + 1, none⟩ = some (.slice qa t.ls[k].atom.args.length qc) := q2
      clear hrr hst hsl hcl
      rw [hga] at hq
      have hvl := HG.out.lt
      go_wp2_with fail
      refine hq.mono ?_
      rintro e w2 ⟨v2, rfl, hg2, hgr2, hgo2, hnn2⟩
      have HG2 := hid hg2
      have HN2 := hid (hnn2 HN.out)
      have HB2 := hid (Below.grown HB.out hgr2 hzb (fun x hx => (hvl x hx).1))
      clear hq hg2 hgr2 hgo2 hnn2
      go_wp2_with fail
      go_roundw
      case rel => exact ⟨k + 1, by omega, by go_num, HG2, HN2, HB2⟩
      case measure => simp [intOf]; omega
    · obtain rfl : k = t.ls.length := by omega
      have hg := HG.out.mono (B' := w.heap.size) (Nat.le_succ _)
      rw [← hal, List.take_length] at hg
      obtain ⟨g, c, rfl⟩ := hg.addr HN.out
      go_wp2_with fail
      go_ret
      exact ⟨g, c, rfl, hg, hb⟩
end Go.Proofs.YtooocakkjdhfiaaGreatDoor
