/- Substitutions are copied: the program's way and the reference's. -/
import Derived.Test.YtoblhgaohmfjeaaLa
import Derived.Test.YtoblhgaohmfjeaaAp
import Derived.Test.YtoblhgaohmfjeaaSb
import Derived.Test.YtoblhgaohmfjeaaGr
import Derived.Test.YtoblhgaohmfjeaaCo
import Derived.Test.YtoblhgaohmfjeaaSo
namespace Go.Proofs.Ytoblhgaohmfjeaa
set_option maxRecDepth 100000
open Go.RowKit

theorem infoBndI : (Try.prog.info? 68).map (fun i => (i.zero, i.size, i.bytes)) = some (some (.agg #[.string ByteArray.empty, .string ByteArray.empty, .slice none 0 0]), 3, 56) := by kernel_rfl
theorem Bnd.own_item {w : World} {x : Bnd} {v : Value} {F : List Nat} (hv : x.var.size ≤ maxLen) (hn : x.term.name.size ≤ maxLen) (h : D.own w v (Tm.sd x.term.args) F) : OwnsL w [.string x.var, .string x.term.name, v] x.cs F := by
  have := OwnsL.cons (F := []) (D.own_str hv) (OwnsL.cons (F := []) (D.own_str hn) (OwnsL.cons h (OwnsL.nil w) (by simp)) (by simp)) (by simp)
  rw [Bnd.cs_eq]
  simpa using this
theorem Bnd.name_le {S : Nat → Prop} {w : World} {c0 c1 c2 : Value} {x : Bnd} (h : Bnd.at S w c0 c1 c2 x) : x.term.name.size ≤ maxLen := by have q := h.2.1; rw [D.rd] at q; exact q.2

/-- a copy of the substitution comes back -/
def CopySb (f : FuncId) : Prop := ∀ (x : Sb) (S : Nat → Prop) (c0 : Value) (w : World), Sb.at S w c0 x → x.bulk ≤ 1048576 → Calls Try.prog f #[.agg #[c0]] w (MadeSb x w)

set_option maxHeartbeats 4000000 in
theorem copySb_any : CopySb 45 := by
  intro x S c0 w hr hbk
  obtain ⟨ts⟩ := x
  unfold Sb.at at hr
  rw [Sb.bulk] at hbk
  simp only at hr hbk
  unfold MadeSb
  simp only
  obtain ⟨a, cap, rfl, hlen, hcap⟩ := Bnd.sd_form hr
  unfold big at hlen
  go_enter Try.func45, Try.ntmps45
  go_wp2_with fail
  go_loopw [10] (fun i wr => ∃ (k : Nat) (F : List Nat) (v : Value), k ≤ ts.length ∧ i = .int .i64 k ∧ Hid (Gr wr (w.heap.size + 1 + 1 + 1) 68 3 v k (Bnd.css (ts.take k)) F) ∧ wr.cell? ⟨w.heap.size + 1 + 1, 0, none⟩ = some v ∧ wr.frozen? ⟨w.heap.size + 1 + 1, 0, none⟩ = false ∧ w.heap.size + 1 + 1 + 1 ≤ wr.heap.size ∧ Hid (Below (w.heap.size + 1 + 1) (((w.alloc (.cells #[.slice a ts.length cap] 47)).alloc (.cells #[.slice none 0 0] 47)).alloc (.cells #[.slice none 0 0] 47)) wr)) (fun i _ => ts.length - (intOf i).toNat)
  case atStart =>
    refine ⟨0, [], .slice none 0 0, Nat.zero_le _, rfl, by rw [List.take_zero]; exact hid (Gr.nil _ _ _ _), (box3 w _ _ _ _ _ _ 0).2.2, frz1 _ _ _ _ _ (by simp), by simp, Below.refl _ _⟩
  case round =>
    obtain ⟨k, F, v, hk, rfl, HG, y0, y2, hz, HB⟩ := hrel
    have hb := HB.out
    have hbw : Below w.heap.size w wr := (((((Below.refl _ _).alloc (Nat.le_refl _) _).alloc (by simp) _).alloc (by simp; omega) _).trans (hb.mono (by omega)))
    have x0 : wr.cell? ⟨w.heap.size, 0, none⟩ = some (.slice a ts.length cap) := (hb.cell (p := ⟨w.heap.size, 0, none⟩) (by simp; omega)).trans (box3 w _ _ _ _ _ _ 0).1
    have HBW := hid hbw
    by_cases hlt : k < ts.length
    · have hne : ts ≠ [] := by intro e; subst e; simp at hlt
      obtain ⟨b, off, rfl, hS, hbl, hrr⟩ := Bnd.sd_get hr hne
      obtain ⟨c0, c1, c2, q0, q1, q2, qx⟩ := hrr k hlt
      have hvl := Bnd.var_le qx
      have hnl := Bnd.name_le qx
      have hbm : ts[k].term.bulk ≤ 1048576 := by have := Bnd.bulk_mem (List.getElem_mem hlt); rw [Bnd.bulk] at this; omega
      obtain ⟨rfl, rfl, x, xc, rfl⟩ := Bnd.at_form qx
      replace q0 := (hbw.cell (p := ⟨b, off + k * 3, none⟩) hbl).trans q0
      replace q1 := (hbw.cell (p := ⟨b, off + k * 3 + 1, none⟩) hbl).trans q1
      replace q2 := (hbw.cell (p := ⟨b, off + k * 3 + 2, none⟩) hbl).trans q2
      have hE := hid (Tm.at_keep (Keeps.all hbw) (Bnd.at_term qx))
      have hT : Hid (w.heap.size + 1 + 1 + 1 ≤ wr.heap.size) := hz
      obtain ⟨r, Hr⟩ : ∃ r, Hid (v.ownBlock = r) := ⟨_, hid rfl⟩
      have HL : Hid (∀ y, r = some y → w.heap.size + 1 + 1 + 1 ≤ y ∧ y < wr.heap.size) := fun y hy => HG.out.lt y (Hr.out.trans hy)
      have n2 : ¬ r = some (w.heap.size + 1 + 1) := fun e => by have := HL.out _ e; omega
      have n0 : ¬ r = some w.heap.size := fun e => by have := HL.out _ e; omega
      have nb : ¬ r = some b := fun e => by have := HL.out _ e; omega
      have nw : ¬ r = some wr.heap.size := fun e => by have := HL.out _ e; omega
      clear hb hbw hrr qx
      go_wp2_with fail
      have HA0 : Hid (Below wr.heap.size wr (wr.alloc (.cells #[.string ts[k].var, .string ts[k].term.name, .slice x ts[k].term.args.length xc] 68))) := (Below.refl _ _).alloc (Nat.le_refl _) _
      have bE : Box (wr.alloc (.cells #[.string ts[k].var, .string ts[k].term.name, .slice x ts[k].term.args.length xc] 68)) wr.heap.size [.string ts[k].var, .string ts[k].term.name, .slice x ts[k].term.args.length xc] := Box.new _ _ _
      replace hE := hid (Tm.at_keep (Keeps.all HA0.out) hE.out)
      replace HG := hid (HG.out.keep HA0.out)
      replace y0 := (HA0.out.cell (p := ⟨w.heap.size + 1 + 1, 0, none⟩) (by show w.heap.size + 1 + 1 < _; omega)).trans y0
      replace y2 := (HA0.out.frozen (p := ⟨w.heap.size + 1 + 1, 0, none⟩) (by show w.heap.size + 1 + 1 < _; omega)).trans y2
      replace HB := hid (HB.out.trans (HA0.out.mono (by omega)))
      have hzb : wr.heap.size + 1 = (wr.alloc (.cells #[.string ts[k].var, .string ts[k].term.name, .slice x ts[k].term.args.length xc] 68)).heap.size := by simp
      replace HBW := hid (HBW.out.trans (HA0.out.mono HBW.out.size))
      clear q0 q1 q2 HA0 x0
      generalize wr.alloc (.cells #[.string ts[k].var, .string ts[k].term.name, .slice x ts[k].term.args.length xc] 68) = wb at *
      have e0 := bE.c0
      have e1 := bE.c1
      have e2 := bE.c2
      have lE := bE.lt
      have l2 : w.heap.size + 1 + 1 < wb.heap.size := by omega
      have hBb : w.heap.size + 1 + 1 + 1 ≤ wb.heap.size := by omega
      refine region_late (l := [_, _, _, _, _, _, _, _, _, _, _]) (tl := [_]) (S := fun w1 => (wb).grownBy w1 (r)) (n := 11) rfl rfl (by kernel_rfl) (by kernel_rfl) (grown_of_below ((Below.refl _ _).drew) _) (fun hQL hS => ?_)
      refine late_take (i := 0) (d := some 14) (v := .pointer (some ⟨(w.heap.size + 1 + 1), 0, none⟩)) rfl rfl (by kernel_rfl) (by kernel_rfl) (by kernel_rfl) hQL (by rfl) (fun w1 _ => (by go_simp)) hS ?_
      try simp only [Act.put, List.setIfInBounds_toArray, List.set_cons_zero, List.set_cons_succ]
      refine late_take (i := 1) (d := some 15) (v := v) rfl rfl (by kernel_rfl) (by kernel_rfl) (by kernel_rfl) hQL (by rfl) (fun w1 hS1 => (by obtain ⟨hc, hf⟩ := bcellG hS1; go_simp)) hS ?_
      try simp only [Act.put, List.setIfInBounds_toArray, List.set_cons_zero, List.set_cons_succ]
      refine late_take (i := 2) (d := some 16) (v := .pointer (some ⟨wr.heap.size, 0, none⟩)) rfl rfl (by kernel_rfl) (by kernel_rfl) (by kernel_rfl) hQL (by rfl) (fun w1 _ => (by go_simp)) hS ?_
      try simp only [Act.put, List.setIfInBounds_toArray, List.set_cons_zero, List.set_cons_succ]
      refine late_take (i := 3) (d := some 17) (v := .string ts[k].var) rfl rfl (by kernel_rfl) (by kernel_rfl) (by kernel_rfl) hQL (by rfl) (fun w1 hS1 => (by obtain ⟨hc, hf⟩ := bcellG hS1; go_simp)) hS ?_
      try simp only [Act.put, List.setIfInBounds_toArray, List.set_cons_zero, List.set_cons_succ]
      refine late_take (i := 4) (d := some 18) (v := .pointer (some ⟨wr.heap.size, 1, none⟩)) rfl rfl (by kernel_rfl) (by kernel_rfl) (by kernel_rfl) hQL (by rfl) (fun w1 _ => (by go_simp)) hS ?_
      try simp only [Act.put, List.setIfInBounds_toArray, List.set_cons_zero, List.set_cons_succ]
      refine late_take (i := 5) (d := some 19) (v := .agg #[.string ts[k].term.name, .slice x ts[k].term.args.length xc]) rfl rfl (by kernel_rfl) (by kernel_rfl) (by kernel_rfl) hQL (by rfl) (fun w1 hS1 => (by obtain ⟨hc, hf⟩ := bcellG hS1; go_simp)) hS ?_
      try simp only [Act.put, List.setIfInBounds_toArray, List.set_cons_zero, List.set_cons_succ]
      refine wpAnyH_ready (rs := [6]) (by kernel_rfl) (by simp) ?_
      refine AllReadyH.cons rfl (fun K hK => ?_) AllReadyH.nil
      refine step_does rfl ?_
      unfold Does
      go_simp
      go_at_call 63
      refine (copyTerm_any ts[k].term _ _ _ _ (Tm.at_keep (Keeps.all ((Below.refl _ _).drew)) hE.out) (by omega)).mono ?_
      rintro e w1 ⟨v1, G, rfl, ho, hG, hb1⟩
      obtain ⟨a1, cap1, rfl⟩ := Tm.sd_own_form ho
      have HO := hid ho
      have HGG : Hid (∀ y ∈ G, wb.heap.size ≤ y) := hG
      have HG1 := hid (HG.out.keep (Below.trans ((Below.refl _ _).drew) (hb1.mono (Nat.le_refl _))))
      have hz2 : wb.heap.size ≤ w1.heap.size := hb1.size
      clear ho hG
      refine ⟨_, rfl, ?_⟩
      refine hK.out _ _ (World.grownBy.trans hS (grown_of_below hb1 _)) (fun hS => ?_)
      try show wpAnyH _ _ _ _ _ _ _ (Act.put _ (some 20) _) _
      try simp only [Act.put, List.setIfInBounds_toArray, List.set_cons_zero, List.set_cons_succ]
      refine late_take (i := 7) (d := some 21) (v := .agg #[.string ts[k].var, .string ts[k].term.name, .slice a1 ts[k].term.args.length cap1]) rfl rfl (by kernel_rfl) (by kernel_rfl) (by kernel_rfl) hQL (by rfl) (fun w1 _ => (by go_simp)) hS ?_
      try simp only [Act.put, List.setIfInBounds_toArray, List.set_cons_zero, List.set_cons_succ]
      refine wpAnyH_ready (rs := [8]) (by kernel_rfl) (by simp) ?_
      refine AllReadyH.cons rfl (fun K hK => ?_) AllReadyH.nil
      go_simp
      refine hK.out _ _ (World.grownBy.trans hS (World.grownBy_alloc _ _ _)) (fun hS => ?_)
      try show wpAnyH _ _ _ _ _ _ _ (Act.put _ (some 22) _) _
      try simp only [Act.put, List.setIfInBounds_toArray, List.set_cons_zero, List.set_cons_succ]
      refine wpAnyH_ready (rs := [9]) (by kernel_rfl) (by simp) ?_
      refine AllReadyH.cons rfl (fun K hK => ?_) AllReadyH.nil
      refine step_append_gr (news := [.string ts[k].var, .string ts[k].term.name, .slice a1 ts[k].term.args.length cap1]) (G := G) Try.underlying45 infoBndI rfl (by decide) (by decide) rfl _ _ (by rfl) (by rfl) (by rfl) (HG1.out.keep ((Below.refl _ _).alloc (Nat.le_refl _) _)) rfl (by intro j u hj; rw [box1]; simpa using hj) (by simp [Value.oneCell']) ((Bnd.own_item hvl hnl HO.out).keep (Keeps.all ((Below.refl _ _).alloc (Nat.le_refl _) _))) (fun y hy => by have := HGG.out y hy; omega) (fun y hy hy' => by have := HGG.out y hy'; have := HG.out.ltF y hy; omega) (fun y hy hy' => by have := HGG.out y hy'; have := HG.out.lt y hy; omega) (by omega) (by simp; omega) ?_
      intro g capg wg hg hgr hgo hglt
      rw [Hr.out] at hgr
      refine hK.out _ _ (World.grownBy.trans hS hgr) (fun hS => ?_)
      try show wpAnyH _ _ _ _ _ _ _ (Act.put _ (some 23) _) _
      try simp only [Act.put, List.setIfInBounds_toArray, List.set_cons_zero, List.set_cons_succ]
      refine late_take (i := 10) (d := some 24) (v := .pointer (some ⟨(w.heap.size + 1 + 1), 0, none⟩)) rfl rfl (by kernel_rfl) (by kernel_rfl) (by kernel_rfl) hQL (by rfl) (fun w1 _ => (by go_simp)) hS ?_
      try simp only [Act.put, List.setIfInBounds_toArray, List.set_cons_zero, List.set_cons_succ]
      refine wpAnyH_done (by kernel_rfl) ?_ _
      show wpTail _ _ _ _ _
      refine wpTail_step rfl (fun K hK => ?_)
      obtain ⟨hc, hf⟩ := bcellG hS
      go_simp
      refine hK.out _ _ ?_
      try clear hc hf
      refine wpTail_nil ?_
      have hgz := hS.size
      have HBg : Hid (Below (w.heap.size + 1 + 1) wb wg) := (Below.refl _ _).grown hS (by omega) (fun y hy => by have := HL.out y hy; omega)
      have z0g := (bcellG hS).1 (w.heap.size + 1 + 1) 0 l2 n2
      have z2g := (bcellG hS).2 (w.heap.size + 1 + 1) 0 l2 n2
      have HG2 := hid hg
      clear hg hgr hgo hglt hS
      go_wp2_with fail
      go_roundw
      case rel =>
        refine ⟨k + 1, F ++ G, .slice (some ⟨g, 0, none⟩) (k + 1) capg, by omega, by go_num, hid ?_, ?_, ?_, ?_, hid ?_⟩
        · rw [Bnd.css_take_succ ts k hlt, ← Bnd.cs_eq]
          exact HG2.out.setCell (by show w.heap.size + 1 + 1 < _; omega) _
        · exact World.cell?_setCell_same _ _ _ (z0g.trans y0)
        · rw [World.frozen?_setCell]; exact z2g.trans y2
        · rw [World.size_setCell]; omega
        · exact (HB.out.trans HBg.out).setCell (Nat.le_refl _) _
      case measure => simp [intOf]; omega
    · obtain rfl : k = ts.length := by omega
      have HG' := HG.out
      rw [List.take_length] at HG'
      obtain ⟨Gf, hO, hGf⟩ := HG'.own (by decide)
      rw [← Bnd.sd_css] at hO
      obtain ⟨a2, cap2, rfl⟩ := Bnd.sd_own_form hO
      have hb := HB.out
      have r0 : wr.cell? ⟨w.heap.size + 1, 0, none⟩ = some (.slice none 0 0) := (hb.cell (p := ⟨w.heap.size + 1, 0, none⟩) (by simp)).trans (box3 w _ _ _ _ _ _ 0).2.1
      have f10 : wr.frozen? ⟨w.heap.size + 1, 0, none⟩ = false := (hb.frozen (p := ⟨w.heap.size + 1, 0, none⟩) (by simp)).trans ((World.frozen?_alloc_past _ _ 0 (by simp)).trans (World.frozen?_alloc_at _ _ _ 0 (by simp)))
      have hOO := hid hO
      have hlb := hz
      clear hb hbw hO HG'
      go_wp2_with fail
      refine bodyPost_ret (v := .agg #[.slice a2 ts.length cap2]) (by simp [results, Try.results45, go_sem, r0]) rfl ?_
      refine ⟨_, Gf, rfl, D.own_keep _ _ _ ((Keeps.refl _ _).set_lt hGf (by simp) _) hOO.out, fun y hy => by have := hGf y hy; omega, ?_⟩
      exact HBW.out.setCell (by simp) _
set_option maxHeartbeats 4000000 in
theorem ownSb_any : CopySb 41 := by
  intro x S c0 w hr hbk
  obtain ⟨ts⟩ := x
  unfold Sb.at at hr
  rw [Sb.bulk] at hbk
  simp only at hr hbk
  unfold MadeSb
  simp only
  obtain ⟨a, cap, rfl, hlen, hcap⟩ := Bnd.sd_form hr
  unfold big at hlen
  go_enter Try.func41, Try.ntmps41
  go_wp2_with fail
  go_loopw [4] (fun i wr => ∃ (k : Nat) (F : List Nat) (v : Value), k ≤ ts.length ∧ i = .int .i64 k ∧ Hid (Gr wr (w.heap.size + 1 + 1 + 1) 68 3 v k (Bnd.css (ts.take k)) F) ∧ wr.cell? ⟨w.heap.size + 1 + 1, 0, none⟩ = some v ∧ wr.frozen? ⟨w.heap.size + 1 + 1, 0, none⟩ = false ∧ w.heap.size + 1 + 1 + 1 ≤ wr.heap.size ∧ Hid (Below (w.heap.size + 1 + 1) (((w.alloc (.cells #[.slice a ts.length cap] 47)).alloc (.cells #[.slice none 0 0] 47)).alloc (.cells #[.slice none 0 0] 47)) wr)) (fun i _ => ts.length - (intOf i).toNat)
  case atStart =>
    refine ⟨0, [], .slice none 0 0, Nat.zero_le _, rfl, by rw [List.take_zero]; exact hid (Gr.nil _ _ _ _), (box3 w _ _ _ _ _ _ 0).2.2, frz1 _ _ _ _ _ (by simp), by simp, Below.refl _ _⟩
  case round =>
    obtain ⟨k, F, v, hk, rfl, HG, y0, y2, hz, HB⟩ := hrel
    have hb := HB.out
    have hbw : Below w.heap.size w wr := (((((Below.refl _ _).alloc (Nat.le_refl _) _).alloc (by simp) _).alloc (by simp; omega) _).trans (hb.mono (by omega)))
    have x0 : wr.cell? ⟨w.heap.size, 0, none⟩ = some (.slice a ts.length cap) := (hb.cell (p := ⟨w.heap.size, 0, none⟩) (by simp; omega)).trans (box3 w _ _ _ _ _ _ 0).1
    have HBW := hid hbw
    by_cases hlt : k < ts.length
    · have hne : ts ≠ [] := by intro e; subst e; simp at hlt
      obtain ⟨b, off, rfl, hS, hbl, hrr⟩ := Bnd.sd_get hr hne
      obtain ⟨c0, c1, c2, q0, q1, q2, qx⟩ := hrr k hlt
      have hvl := Bnd.var_le qx
      have hnl := Bnd.name_le qx
      have hbm : ts[k].term.bulk ≤ 1048576 := by have := Bnd.bulk_mem (List.getElem_mem hlt); rw [Bnd.bulk] at this; omega
      obtain ⟨rfl, rfl, x, xc, rfl⟩ := Bnd.at_form qx
      replace q0 := (hbw.cell (p := ⟨b, off + k * 3, none⟩) hbl).trans q0
      replace q1 := (hbw.cell (p := ⟨b, off + k * 3 + 1, none⟩) hbl).trans q1
      replace q2 := (hbw.cell (p := ⟨b, off + k * 3 + 2, none⟩) hbl).trans q2
      have hE := hid (Tm.at_keep (Keeps.all hbw) (Bnd.at_term qx))
      have hT : Hid (w.heap.size + 1 + 1 + 1 ≤ wr.heap.size) := hz
      obtain ⟨r, Hr⟩ : ∃ r, Hid (v.ownBlock = r) := ⟨_, hid rfl⟩
      have HL : Hid (∀ y, r = some y → w.heap.size + 1 + 1 + 1 ≤ y ∧ y < wr.heap.size) := fun y hy => HG.out.lt y (Hr.out.trans hy)
      have n2 : ¬ r = some (w.heap.size + 1 + 1) := fun e => by have := HL.out _ e; omega
      have n0 : ¬ r = some w.heap.size := fun e => by have := HL.out _ e; omega
      have nb : ¬ r = some b := fun e => by have := HL.out _ e; omega
      have nw : ¬ r = some wr.heap.size := fun e => by have := HL.out _ e; omega
      clear hb hbw hrr qx
      go_wp2_with fail
      have q2' : wr.cell? ⟨b, off + k * 3 + 1 + 1, none⟩ = some (.slice x ts[k].term.args.length xc) := q2
      have hBb : w.heap.size + 1 + 1 + 1 ≤ wr.heap.size := hz
      have l2 : w.heap.size + 1 + 1 < wr.heap.size := by omega
      have l0 : w.heap.size < wr.heap.size := by omega
      have lb : b < wr.heap.size := by omega
      have hT0 : (0 : Int) ≤ (k : Int) := by omega
      refine region_late (l := [_, _, _, _, _, _, _, _, _, _, _, _, _, _, _, _, _, _, _]) (tl := [_]) (S := fun w1 => (wr).grownBy w1 (r)) (n := 19) rfl rfl (by kernel_rfl) (by kernel_rfl) (grown_of_below ((Below.refl _ _).drew) _) (fun hQL hS => ?_)
      refine late_take (i := 0) (d := some 13) (v := .pointer (some ⟨(w.heap.size + 1 + 1), 0, none⟩)) rfl rfl (by kernel_rfl) (by kernel_rfl) (by kernel_rfl) hQL (by rfl) (fun w1 _ => (by go_simp)) hS ?_
      try simp only [Act.put, List.setIfInBounds_toArray, List.set_cons_zero, List.set_cons_succ]
      refine late_take (i := 1) (d := some 14) (v := v) rfl rfl (by kernel_rfl) (by kernel_rfl) (by kernel_rfl) hQL (by rfl) (fun w1 hS1 => (by obtain ⟨hc, hf⟩ := bcellG hS1; go_simp)) hS ?_
      try simp only [Act.put, List.setIfInBounds_toArray, List.set_cons_zero, List.set_cons_succ]
      refine late_take (i := 2) (d := some 15) (v := .pointer (some ⟨w.heap.size, 0, none⟩)) rfl rfl (by kernel_rfl) (by kernel_rfl) (by kernel_rfl) hQL (by rfl) (fun w1 _ => (by go_simp)) hS ?_
      try simp only [Act.put, List.setIfInBounds_toArray, List.set_cons_zero, List.set_cons_succ]
      refine late_take (i := 3) (d := some 16) (v := .slice (some ⟨b, off, none⟩) ts.length cap) rfl rfl (by kernel_rfl) (by kernel_rfl) (by kernel_rfl) hQL (by rfl) (fun w1 hS1 => (by obtain ⟨hc, hf⟩ := bcellG hS1; go_simp)) hS ?_
      try simp only [Act.put, List.setIfInBounds_toArray, List.set_cons_zero, List.set_cons_succ]
      refine late_take (i := 4) (d := some 17) (v := .int .i64 k) rfl rfl (by kernel_rfl) (by kernel_rfl) (by kernel_rfl) hQL (by rfl) (fun w1 _ => (by go_simp)) hS ?_
      try simp only [Act.put, List.setIfInBounds_toArray, List.set_cons_zero, List.set_cons_succ]
      refine late_take (i := 5) (d := some 18) (v := .pointer (some ⟨b, off + k * 3, none⟩)) rfl rfl (by kernel_rfl) (by kernel_rfl) (by kernel_rfl) hQL (by rfl) (fun w1 _ => (by go_simp)) hS ?_
      try simp only [Act.put, List.setIfInBounds_toArray, List.set_cons_zero, List.set_cons_succ]
      refine late_take (i := 6) (d := some 19) (v := .pointer (some ⟨b, off + k * 3, none⟩)) rfl rfl (by kernel_rfl) (by kernel_rfl) (by kernel_rfl) hQL (by rfl) (fun w1 _ => (by go_simp)) hS ?_
      try simp only [Act.put, List.setIfInBounds_toArray, List.set_cons_zero, List.set_cons_succ]
      refine late_take (i := 7) (d := some 20) (v := .string ts[k].var) rfl rfl (by kernel_rfl) (by kernel_rfl) (by kernel_rfl) hQL (by rfl) (fun w1 hS1 => (by obtain ⟨hc, hf⟩ := bcellG hS1; go_simp)) hS ?_
      try simp only [Act.put, List.setIfInBounds_toArray, List.set_cons_zero, List.set_cons_succ]
      refine late_take (i := 8) (d := some 21) (v := .pointer (some ⟨w.heap.size, 0, none⟩)) rfl rfl (by kernel_rfl) (by kernel_rfl) (by kernel_rfl) hQL (by rfl) (fun w1 _ => (by go_simp)) hS ?_
      try simp only [Act.put, List.setIfInBounds_toArray, List.set_cons_zero, List.set_cons_succ]
      refine late_take (i := 9) (d := some 22) (v := .slice (some ⟨b, off, none⟩) ts.length cap) rfl rfl (by kernel_rfl) (by kernel_rfl) (by kernel_rfl) hQL (by rfl) (fun w1 hS1 => (by obtain ⟨hc, hf⟩ := bcellG hS1; go_simp)) hS ?_
      try simp only [Act.put, List.setIfInBounds_toArray, List.set_cons_zero, List.set_cons_succ]
      refine late_take (i := 10) (d := some 23) (v := .int .i64 k) rfl rfl (by kernel_rfl) (by kernel_rfl) (by kernel_rfl) hQL (by rfl) (fun w1 _ => (by go_simp)) hS ?_
      try simp only [Act.put, List.setIfInBounds_toArray, List.set_cons_zero, List.set_cons_succ]
      refine late_take (i := 11) (d := some 24) (v := .pointer (some ⟨b, off + k * 3, none⟩)) rfl rfl (by kernel_rfl) (by kernel_rfl) (by kernel_rfl) hQL (by rfl) (fun w1 _ => (by go_simp)) hS ?_
      try simp only [Act.put, List.setIfInBounds_toArray, List.set_cons_zero, List.set_cons_succ]
      refine late_take (i := 12) (d := some 25) (v := .pointer (some ⟨b, off + k * 3 + 1, none⟩)) rfl rfl (by kernel_rfl) (by kernel_rfl) (by kernel_rfl) hQL (by rfl) (fun w1 _ => (by go_simp)) hS ?_
      try simp only [Act.put, List.setIfInBounds_toArray, List.set_cons_zero, List.set_cons_succ]
      refine late_take (i := 13) (d := some 26) (v := .agg #[.string ts[k].term.name, .slice x ts[k].term.args.length xc]) rfl rfl (by kernel_rfl) (by kernel_rfl) (by kernel_rfl) hQL (by rfl) (fun w1 hS1 => (by obtain ⟨hc, hf⟩ := bcellG hS1; go_simp)) hS ?_
      try simp only [Act.put, List.setIfInBounds_toArray, List.set_cons_zero, List.set_cons_succ]
      refine wpAnyH_ready (rs := [14]) (by kernel_rfl) (by simp) ?_
      refine AllReadyH.cons rfl (fun K hK => ?_) AllReadyH.nil
      refine step_does rfl ?_
      unfold Does
      go_simp
      go_at_call 57
      refine (ownT_any ts[k].term _ _ _ _ (Tm.at_keep (Keeps.all ((Below.refl _ _).drew)) hE.out) (by omega)).mono ?_
      rintro e w1 ⟨v1, G, rfl, ho, hG, hb1⟩
      obtain ⟨a1, cap1, rfl⟩ := Tm.sd_own_form ho
      have HO := hid ho
      have HGG : Hid (∀ y ∈ G, wr.heap.size ≤ y) := hG
      have HG1 := hid (HG.out.keep (Below.trans ((Below.refl _ _).drew) (hb1.mono (Nat.le_refl _))))
      have hz2 : wr.heap.size ≤ w1.heap.size := hb1.size
      clear ho hG
      refine ⟨_, rfl, ?_⟩
      refine hK.out _ _ (World.grownBy.trans hS (grown_of_below hb1 _)) (fun hS => ?_)
      try show wpAnyH _ _ _ _ _ _ _ (Act.put _ (some 27) _) _
      try simp only [Act.put, List.setIfInBounds_toArray, List.set_cons_zero, List.set_cons_succ]
      refine late_take (i := 15) (d := some 28) (v := .agg #[.string ts[k].var, .string ts[k].term.name, .slice a1 ts[k].term.args.length cap1]) rfl rfl (by kernel_rfl) (by kernel_rfl) (by kernel_rfl) hQL (by rfl) (fun w1 _ => (by go_simp)) hS ?_
      try simp only [Act.put, List.setIfInBounds_toArray, List.set_cons_zero, List.set_cons_succ]
      refine wpAnyH_ready (rs := [16]) (by kernel_rfl) (by simp) ?_
      refine AllReadyH.cons rfl (fun K hK => ?_) AllReadyH.nil
      go_simp
      refine hK.out _ _ (World.grownBy.trans hS (World.grownBy_alloc _ _ _)) (fun hS => ?_)
      try show wpAnyH _ _ _ _ _ _ _ (Act.put _ (some 29) _) _
      try simp only [Act.put, List.setIfInBounds_toArray, List.set_cons_zero, List.set_cons_succ]
      refine wpAnyH_ready (rs := [17]) (by kernel_rfl) (by simp) ?_
      refine AllReadyH.cons rfl (fun K hK => ?_) AllReadyH.nil
      refine step_append_gr (news := [.string ts[k].var, .string ts[k].term.name, .slice a1 ts[k].term.args.length cap1]) (G := G) Try.underlying45 infoBndI rfl (by decide) (by decide) rfl _ _ (by rfl) (by rfl) (by rfl) (HG1.out.keep ((Below.refl _ _).alloc (Nat.le_refl _) _)) rfl (by intro j u hj; rw [box1]; simpa using hj) (by simp [Value.oneCell']) ((Bnd.own_item hvl hnl HO.out).keep (Keeps.all ((Below.refl _ _).alloc (Nat.le_refl _) _))) (fun y hy => by have := HGG.out y hy; omega) (fun y hy hy' => by have := HGG.out y hy'; have := HG.out.ltF y hy; omega) (fun y hy hy' => by have := HGG.out y hy'; have := HG.out.lt y hy; omega) (by omega) (by simp; omega) ?_
      intro g capg wg hg hgr hgo hglt
      rw [Hr.out] at hgr
      refine hK.out _ _ (World.grownBy.trans hS hgr) (fun hS => ?_)
      try show wpAnyH _ _ _ _ _ _ _ (Act.put _ (some 30) _) _
      try simp only [Act.put, List.setIfInBounds_toArray, List.set_cons_zero, List.set_cons_succ]
      refine late_take (i := 18) (d := some 31) (v := .pointer (some ⟨(w.heap.size + 1 + 1), 0, none⟩)) rfl rfl (by kernel_rfl) (by kernel_rfl) (by kernel_rfl) hQL (by rfl) (fun w1 _ => (by go_simp)) hS ?_
      try simp only [Act.put, List.setIfInBounds_toArray, List.set_cons_zero, List.set_cons_succ]
      refine wpAnyH_done (by kernel_rfl) ?_ _
      show wpTail _ _ _ _ _
      refine wpTail_step rfl (fun K hK => ?_)
      obtain ⟨hc, hf⟩ := bcellG hS
      go_simp
      refine hK.out _ _ ?_
      try clear hc hf
      refine wpTail_nil ?_
      have hgz := hS.size
      have HBg : Hid (Below (w.heap.size + 1 + 1) wr wg) := (Below.refl _ _).grown hS (by omega) (fun y hy => by have := HL.out y hy; omega)
      have z0g := (bcellG hS).1 (w.heap.size + 1 + 1) 0 l2 n2
      have z2g := (bcellG hS).2 (w.heap.size + 1 + 1) 0 l2 n2
      have HG2 := hid hg
      clear hg hgr hgo hglt hS
      go_wp2_with fail
      go_roundw
      case rel =>
        refine ⟨k + 1, F ++ G, .slice (some ⟨g, 0, none⟩) (k + 1) capg, by omega, by go_num, hid ?_, ?_, ?_, ?_, hid ?_⟩
        · rw [Bnd.css_take_succ ts k hlt, ← Bnd.cs_eq]
          exact HG2.out.setCell (by show w.heap.size + 1 + 1 < _; omega) _
        · exact World.cell?_setCell_same _ _ _ (z0g.trans y0)
        · rw [World.frozen?_setCell]; exact z2g.trans y2
        · rw [World.size_setCell]; omega
        · exact (HB.out.trans HBg.out).setCell (Nat.le_refl _) _
      case measure => simp [intOf]; omega
    · obtain rfl : k = ts.length := by omega
      have HG' := HG.out
      rw [List.take_length] at HG'
      obtain ⟨Gf, hO, hGf⟩ := HG'.own (by decide)
      rw [← Bnd.sd_css] at hO
      obtain ⟨a2, cap2, rfl⟩ := Bnd.sd_own_form hO
      have hb := HB.out
      have r0 : wr.cell? ⟨w.heap.size + 1, 0, none⟩ = some (.slice none 0 0) := (hb.cell (p := ⟨w.heap.size + 1, 0, none⟩) (by simp)).trans (box3 w _ _ _ _ _ _ 0).2.1
      have f10 : wr.frozen? ⟨w.heap.size + 1, 0, none⟩ = false := (hb.frozen (p := ⟨w.heap.size + 1, 0, none⟩) (by simp)).trans ((World.frozen?_alloc_past _ _ 0 (by simp)).trans (World.frozen?_alloc_at _ _ _ 0 (by simp)))
      have hOO := hid hO
      have hlb := hz
      clear hb hbw hO HG'
      go_wp2_with fail
      refine bodyPost_ret (v := .agg #[.slice a2 ts.length cap2]) (by simp [results, Try.results41, go_sem, r0]) rfl ?_
      refine ⟨_, Gf, rfl, D.own_keep _ _ _ ((Keeps.refl _ _).set_lt hGf (by simp) _) hOO.out, fun y hy => by have := hGf y hy; omega, ?_⟩
      exact HBW.out.setCell (by simp) _
end Go.Proofs.Ytoblhgaohmfjeaa
