/- Several texts in one file. -/
import Derived.Test.YtooocakkjdhfiaaGreatDoorQ17
import Derived.Test.YtooocakkjdhfiaaGreatDoorQ18
import Derived.Test.YtooocakkjdhfiaaGreatDoorQ04
import Derived.Test.YtooocakkjdhfiaaGreatDoorQ20
/- The program's copy of a clause. -/
namespace Go.Proofs.YtooocakkjdhfiaaGreatDoor
set_option maxRecDepth 100000
open Go.RowKit

set_option maxHeartbeats 2000000 in
theorem copyClause_any {t : Cl} {S : Nat → Prop} {c0 : Value} {w : World} (ht : Cl.at S w c0 t) (hbk : t.bulk ≤ 1048576) :
    Calls Tryz.prog 45 #[.agg #[c0]] w (MadeCl t w) := by
  obtain ⟨ts⟩ := t
  rw [Cl.bulk] at hbk
  simp only at hbk ⊢
  have HRD := hid (D.rd_lt _ _ ht)
  obtain ⟨a, cap, rfl⟩ := Cl.at_form ht
  simp only at HRD ⊢
  clear ht
  have hW : Below w.heap.size w (((w.alloc (.cells #[.slice a ts.length cap] 28)).alloc (.cells #[.slice none 0 0] 28)).alloc (.cells #[.slice none 0 0] 28)) := (((Below.refl _ _).alloc (Nat.le_refl _) _).alloc (by simp) _).alloc (by simp; omega) _
  have tb : Box (((w.alloc (.cells #[.slice a ts.length cap] 28)).alloc (.cells #[.slice none 0 0] 28)).alloc (.cells #[.slice none 0 0] 28)) w.heap.size [.slice a ts.length cap] := ((Box.new w [Value.slice a ts.length cap] 28).alloc _).alloc _
  have rb : Box (((w.alloc (.cells #[.slice a ts.length cap] 28)).alloc (.cells #[.slice none 0 0] 28)).alloc (.cells #[.slice none 0 0] 28)) (w.heap.size + 1) [.slice none 0 0] := by
    have := (Box.new (w.alloc (.cells #[.slice a ts.length cap] 28)) [Value.slice none 0 0] 28).alloc (.cells #[.slice none 0 0] 28)
    simpa only [World.size_alloc] using this
  have ob : Box (((w.alloc (.cells #[.slice a ts.length cap] 28)).alloc (.cells #[.slice none 0 0] 28)).alloc (.cells #[.slice none 0 0] 28)) (w.heap.size + 1 + 1) [.slice none 0 0] := by
    have := Box.new ((w.alloc (.cells #[.slice a ts.length cap] 28)).alloc (.cells #[.slice none 0 0] 28)) [Value.slice none 0 0] 28
    simpa only [World.size_alloc] using this
  have rf : (((w.alloc (.cells #[.slice a ts.length cap] 28)).alloc (.cells #[.slice none 0 0] 28)).alloc (.cells #[.slice none 0 0] 28)).frozen? ⟨w.heap.size + 1, 0, none⟩ = false := (World.frozen?_alloc_past _ _ 0 (by simp)).trans (World.frozen?_alloc_at _ _ _ 0 (by simp))
  have of : (((w.alloc (.cells #[.slice a ts.length cap] 28)).alloc (.cells #[.slice none 0 0] 28)).alloc (.cells #[.slice none 0 0] 28)).frozen? ⟨w.heap.size + 1 + 1, 0, none⟩ = false := World.frozen?_alloc_at _ _ _ 0 (by simp)
  have HZ : Hid ((((w.alloc (.cells #[.slice a ts.length cap] 28)).alloc (.cells #[.slice none 0 0] 28)).alloc (.cells #[.slice none 0 0] 28)).heap.size = w.heap.size + 1 + 1 + 1) := by simp [Hid]
  have x0 := tb.c0
  go_enter Tryz.func45, Tryz.ntmps45
  go_wp2_with fail
  clear x0
  generalize (((w.alloc (.cells #[.slice a ts.length cap] 28)).alloc (.cells #[.slice none 0 0] 28)).alloc (.cells #[.slice none 0 0] 28)) = w0 at *
  have hz0 := HZ.out
  go_loopw [10] (fun i wr => ∃ (k : Nat) (F : List Nat) (v : Value), k ≤ ts.length ∧ i = .int .i64 k ∧ Hid (Gr wr (w.heap.size + 1 + 1 + 1) 52 3 v k (Lit.css (ts.take k)) F) ∧ wr.cell? ⟨w.heap.size + 1 + 1, 0, none⟩ = some v ∧ wr.frozen? ⟨w.heap.size + 1 + 1, 0, none⟩ = false ∧ w.heap.size + 1 + 1 + 1 ≤ wr.heap.size ∧ Hid (Below (w.heap.size + 1 + 1) w0 wr)) (fun i _ => ts.length - (intOf i).toNat)
  case atStart => exact ⟨0, [], .slice none 0 0, Nat.zero_le _, rfl, by rw [List.take_zero]; exact hid (Gr.nil _ _ _ _), ob.c0, of, by omega, Below.refl _ _⟩
  case round =>
    obtain ⟨k, F, v, hk, rfl, HG, y0, y2, hz, HB⟩ := hrel
    have HBW := hid (hW.trans (HB.out.mono (by omega)))
    by_cases hlt : k < ts.length
    · have hne : ts ≠ [] := by intro e; subst e; simp at hlt
      obtain ⟨b, off, rfl, hS, hbl, hrr⟩ := Lit.sd_get HRD.out hne
      obtain ⟨c0, c1, c2, q0, q1, q2, qx⟩ := hrr k hlt
      have hnl := Lit.name_leA qx
      have hbm : ts[k].atom.bulk ≤ 1048576 := by have := Lit.bulk_memA (List.getElem_mem hlt); omega
      have hE := hid (Lit.at_keep (Keeps.all HBW.out) qx)
      obtain ⟨rfl, rfl, x, xc, rfl⟩ := Lit.at_form qx
      replace q0 := (HBW.out.cell (p := ⟨b, off + k * 3, none⟩) hbl).trans q0
      replace q1 := (HBW.out.cell (p := ⟨b, off + k * 3 + 1, none⟩) hbl).trans q1
      replace q2 := (HBW.out.cell (p := ⟨b, off + k * 3 + 2, none⟩) hbl).trans q2
      obtain ⟨r, Hr⟩ : ∃ r, Hid (v.ownBlock = r) := ⟨_, hid rfl⟩
      have HL : Hid (∀ y, r = some y → w.heap.size + 1 + 1 + 1 ≤ y ∧ y < wr.heap.size) := fun y hy => HG.out.lt y (Hr.out.trans hy)
      have n2 : ¬ r = some (w.heap.size + 1 + 1) := fun e => by have := HL.out _ e; omega
      have nw : ¬ r = some wr.heap.size := fun e => by have := HL.out _ e; omega
      clear hrr qx
      go_wp2_with fail
      have HA0 : Hid (Below wr.heap.size wr (wr.alloc (.cells #[.bool ts[k].pos, .string ts[k].atom.name, .slice x ts[k].atom.args.length xc] 52))) := (Below.refl _ _).alloc (Nat.le_refl _) _
      have bE : Box (wr.alloc (.cells #[.bool ts[k].pos, .string ts[k].atom.name, .slice x ts[k].atom.args.length xc] 52)) wr.heap.size [.bool ts[k].pos, .string ts[k].atom.name, .slice x ts[k].atom.args.length xc] := Box.new _ _ _
      replace hE := hid (Lit.at_keep (Keeps.all HA0.out) hE.out)
      replace HG := hid (HG.out.keep HA0.out)
      replace y0 := (HA0.out.cell (p := ⟨w.heap.size + 1 + 1, 0, none⟩) (by show w.heap.size + 1 + 1 < _; omega)).trans y0
      replace y2 := (HA0.out.frozen (p := ⟨w.heap.size + 1 + 1, 0, none⟩) (by show w.heap.size + 1 + 1 < _; omega)).trans y2
      replace HB := hid (HB.out.trans (HA0.out.mono (by omega)))
      have hzb : wr.heap.size + 1 = (wr.alloc (.cells #[.bool ts[k].pos, .string ts[k].atom.name, .slice x ts[k].atom.args.length xc] 52)).heap.size := by simp
      replace HBW := hid (HBW.out.trans (HA0.out.mono HBW.out.size))
      clear q0 q1 q2 HA0
      generalize wr.alloc (.cells #[.bool ts[k].pos, .string ts[k].atom.name, .slice x ts[k].atom.args.length xc] 52) = wb at *
      have e0 := bE.c0
      have e1 := bE.c1
      have e2 : wb.cell? ⟨wr.heap.size, 1 + 1, none⟩ = _ := bE.c2
      have lE := bE.lt
      have l2 : w.heap.size + 1 + 1 < wb.heap.size := by omega
      have hBb : w.heap.size + 1 + 1 + 1 ≤ wb.heap.size := by omega
      refine region_late (l := [_, _, _, _, _, _, _]) (tl := [_]) (S := fun w1 => (wb).grownBy w1 (r)) (n := 7) rfl rfl (by kernel_rfl) (by kernel_rfl) (grown_of_below ((Below.refl _ _).drew) _) (fun hQL hS => ?_)
      refine late_take (i := 0) (d := some 14) (v := .pointer (some ⟨(w.heap.size + 1 + 1), 0, none⟩)) rfl rfl (by kernel_rfl) (by kernel_rfl) (by kernel_rfl) hQL (by rfl) (fun w1 _ => (by go_simp)) hS ?_
      try simp only [Act.put, List.setIfInBounds_toArray, List.set_cons_zero, List.set_cons_succ]
      refine late_take (i := 1) (d := some 15) (v := v) rfl rfl (by kernel_rfl) (by kernel_rfl) (by kernel_rfl) hQL (by rfl) (fun w1 hS1 => (by obtain ⟨hc, hf⟩ := bcellG hS1; go_simp)) hS ?_
      try simp only [Act.put, List.setIfInBounds_toArray, List.set_cons_zero, List.set_cons_succ]
      refine late_take (i := 2) (d := some 16) (v := .agg #[.bool ts[k].pos, .string ts[k].atom.name, .slice x ts[k].atom.args.length xc]) rfl rfl (by kernel_rfl) (by kernel_rfl) (by kernel_rfl) hQL (by rfl) (fun w1 hS1 => (by obtain ⟨hc, hf⟩ := bcellG hS1; go_simp)) hS ?_
      try simp only [Act.put, List.setIfInBounds_toArray, List.set_cons_zero, List.set_cons_succ]
      refine wpAnyH_ready (rs := [3]) (by kernel_rfl) (by simp) ?_
      refine AllReadyH.cons rfl (fun K hK => ?_) AllReadyH.nil
      refine step_does rfl ?_
      unfold Does
      go_simp
      go_at_call 67
      refine (copyLiteral_any (t := ts[k]) (Lit.at_keep (Keeps.all ((Below.refl _ _).drew)) hE.out) hbm).mono ?_
      rintro e wc ⟨a1, cap1, G, rfl, ho, hG, hb1⟩
      have HO := hid ho
      have HGG : Hid (∀ y ∈ G, wb.heap.size ≤ y) := hG
      have HG1 := hid (HG.out.keep (Below.trans ((Below.refl _ _).drew) (hb1.mono (Nat.le_refl _))))
      have hz2 : wb.heap.size ≤ wc.heap.size := hb1.size
      clear ho hG
      refine ⟨_, rfl, ?_⟩
      refine hK.out _ _ (World.grownBy.trans hS (grown_of_below hb1 _)) (fun hS => ?_)
      try show wpAnyH _ _ _ _ _ _ _ (Act.put _ (some 17) _) _
      try simp only [Act.put, List.setIfInBounds_toArray, List.set_cons_zero, List.set_cons_succ]
      refine wpAnyH_ready (rs := [4]) (by kernel_rfl) (by simp) ?_
      refine AllReadyH.cons rfl (fun K hK => ?_) AllReadyH.nil
      go_simp
      refine hK.out _ _ (World.grownBy.trans hS (World.grownBy_alloc _ _ _)) (fun hS => ?_)
      try show wpAnyH _ _ _ _ _ _ _ (Act.put _ (some 18) _) _
      try simp only [Act.put, List.setIfInBounds_toArray, List.set_cons_zero, List.set_cons_succ]
      refine wpAnyH_ready (rs := [5]) (by kernel_rfl) (by simp) ?_
      refine AllReadyH.cons rfl (fun K hK => ?_) AllReadyH.nil
      refine step_append_gr (news := [.bool ts[k].pos, .string ts[k].atom.name, .slice a1 ts[k].atom.args.length cap1]) (G := G) Tryz.underlying26 infoLitI rfl (by decide) (by decide) rfl _ _ (by rfl) (by rfl) (by rfl) (HG1.out.keep ((Below.refl _ _).alloc (Nat.le_refl _) _)) rfl (by intro j u hj; rw [box1]; simpa using hj) (by simp [Value.oneCell']) ((Lit.own_item hnl HO.out).keep (Keeps.all ((Below.refl _ _).alloc (Nat.le_refl _) _))) (fun y hy => by have := HGG.out y hy; omega) (fun y hy hy' => by have := HGG.out y hy'; have := HG.out.ltF y hy; omega) (fun y hy hy' => by have := HGG.out y hy'; have := HG.out.lt y hy; omega) (by omega) (by simp; omega) ?_
      intro g capg wg hg hgr hgo hglt
      rw [Hr.out] at hgr
      refine hK.out _ _ (World.grownBy.trans hS hgr) (fun hS => ?_)
      try show wpAnyH _ _ _ _ _ _ _ (Act.put _ (some 19) _) _
      try simp only [Act.put, List.setIfInBounds_toArray, List.set_cons_zero, List.set_cons_succ]
      refine late_take (i := 6) (d := some 20) (v := .pointer (some ⟨(w.heap.size + 1 + 1), 0, none⟩)) rfl rfl (by kernel_rfl) (by kernel_rfl) (by kernel_rfl) hQL (by rfl) (fun w1 _ => (by go_simp)) hS ?_
      try simp only [Act.put, List.setIfInBounds_toArray, List.set_cons_zero, List.set_cons_succ]
      refine wpAnyH_done (by kernel_rfl) ?_ _
      show wpTail _ _ _ _ _
      refine wpTail_step rfl (fun K hK => ?_)
      obtain ⟨hc, hf⟩ := bcellG hS
      go_simp
      refine hK.out _ _ ?_
      try clear hc hf
      refine wpTail_nil ?_
      have hgz := hS.size
      have HBg : Hid (Below (w.heap.size + 1 + 1) wb wg) := (Below.refl _ _).grown hS (by omega) (fun y hy => by have := HL.out y hy; omega)
      have z0g := (bcellG hS).1 (w.heap.size + 1 + 1) 0 l2 n2
      have z2g := (bcellG hS).2 (w.heap.size + 1 + 1) 0 l2 n2
      have HG2 := hid hg
      clear hg hgr hgo hglt hS
      go_wp2_with fail
      go_roundw
      case rel =>
        refine ⟨k + 1, F ++ G, .slice (some ⟨g, 0, none⟩) (k + 1) capg, by omega, by go_num, hid ?_, ?_, ?_, ?_, hid ?_⟩
        · rw [Lit.css_take_succ ts k hlt, ← Lit.cs_eq]
          exact HG2.out.setCell (by show w.heap.size + 1 + 1 < _; omega) _
        · exact World.cell?_setCell_same _ _ _ (z0g.trans y0)
        · rw [World.frozen?_setCell]; exact z2g.trans y2
        · rw [World.size_setCell]; omega
        · exact (HB.out.trans HBg.out).setCell (Nat.le_refl _) _
      case measure => simp [intOf]; omega
    · obtain rfl : k = ts.length := by omega
      have HG' := HG.out
      rw [List.take_length] at HG'
      obtain ⟨Gf, hO, hGf⟩ := HG'.own (by decide)
      rw [← Lit.sd_css] at hO
      obtain ⟨a2, cap2, rfl⟩ := Lit.sd_own_form hO
      have HGF := hid hGf
      have HO := hid hO
      have l1 : w.heap.size + 1 < wr.heap.size := by omega
      have r0 : wr.cell? ⟨w.heap.size + 1, 0, none⟩ = some (.slice none 0 0) := (HB.out.cell (p := ⟨w.heap.size + 1, 0, none⟩) (by show w.heap.size + 1 < w.heap.size + 1 + 1; omega)).trans rb.c0
      have r1 : wr.frozen? ⟨w.heap.size + 1, 0, none⟩ = false := (HB.out.frozen (p := ⟨w.heap.size + 1, 0, none⟩) (by show w.heap.size + 1 < w.heap.size + 1 + 1; omega)).trans rf
      have nG1 : w.heap.size + 1 ∉ Gf := fun q => by have := HGF.out _ q; omega
      have hqn : ¬ (ts.length : Int) < (ts.length : Int) := by omega
      clear hO hGf HG' HB HG
      go_wp2_with fail
      refine bodyPost_ret (v := .agg #[.slice a2 ts.length cap2]) (by simp [results, Tryz.results45, go_sem, r0]) rfl ?_
      refine ⟨_, Gf, rfl, ?_, fun y hy => by have := HGF.out y hy; omega, ?_⟩
      · exact D.own_keep _ _ _ ((Keeps.refl (· ∈ Gf) wr).setCell (fun q _ => nG1 q) _) HO.out
      · exact HBW.out.setCell (by simp) _
end Go.Proofs.YtooocakkjdhfiaaGreatDoor
/- The program's rounds of normalizing. -/
namespace Go.Proofs.YtooocakkjdhfiaaGreatDoor
set_option maxRecDepth 100000
open Go.RowKit

set_option maxHeartbeats 4000000 in
theorem normalize_any {t : Cl} {S : Nat → Prop} {c0 : Value} {w : World} (ht : Cl.at S w c0 t) (hv : t.valid = true) (hF : TabF w) :
    Calls Tryz.prog 27 #[.agg #[c0]] w (MadeCl (normN 10 t) w) := by
  have hI := NormI.start hv
  have hbk : t.bulk ≤ 1048576 := by have := (hI.bulk (by omega)).1; omega
  have HI := hid hI
  have HTF := hid hF
  obtain ⟨R, HR⟩ : ∃ R, Hid (normN 10 t = R) := ⟨_, hid rfl⟩
  rw [HR.out]
  clear hI hv hF
  obtain ⟨ta, tc, rfl⟩ := Cl.at_form ht
  have hW : Below w.heap.size w ((w.alloc (.cells #[.slice ta t.ls.length tc] 28)).alloc (.cells #[.slice none 0 0] 28)) := ((Below.refl _ _).alloc (Nat.le_refl _) _).alloc (by simp) _
  have bt : Box ((w.alloc (.cells #[.slice ta t.ls.length tc] 28)).alloc (.cells #[.slice none 0 0] 28)) (w.heap.size) [.slice ta t.ls.length tc] := by
    have := ((Box.new w [.slice ta t.ls.length tc] 28).alloc (.cells #[.slice none 0 0] 28))
    simpa only [World.size_alloc] using this
  have rb : Box ((w.alloc (.cells #[.slice ta t.ls.length tc] 28)).alloc (.cells #[.slice none 0 0] 28)) (w.heap.size + 1) [.slice none 0 0] := by
    have := (Box.new (w.alloc (.cells #[.slice ta t.ls.length tc] 28)) [.slice none 0 0] 28)
    simpa only [World.size_alloc] using this
  have rf : ∀ p, ((w.alloc (.cells #[.slice ta t.ls.length tc] 28)).alloc (.cells #[.slice none 0 0] 28)).frozen? ⟨w.heap.size + 1, p, none⟩ = false := fun p => World.frozen?_alloc_at _ _ _ p (by simp)
  replace ht := Cl.at_keep (Keeps.all hW) ht
  have et0 := bt.c0
  have lt := bt.lt
  have re0 := rb.c0
  have rf0 := rf 0
  have rl := rb.lt
  go_enter Tryz.func27, Tryz.ntmps27
  go_wp2_with fail
  clear et0 lt re0 rf0 rl
  have Hw0 : Hid (((w.alloc (.cells #[.slice ta t.ls.length tc] 28)).alloc (.cells #[.slice none 0 0] 28)).heap.size = w.heap.size + 1 + 1) := by simp [Hid]
  generalize ((w.alloc (.cells #[.slice ta t.ls.length tc] 28)).alloc (.cells #[.slice none 0 0] 28)) = w0 at *
  refine (copyClause_any ht hbk).mono ?_
  rintro e w1 ⟨v1, F1, rfl, ho1, hF1, hb⟩
  obtain ⟨a1, cp1, rfl⟩ := Lit.sd_own_form ho1
  have hzz := hW.size
  have hz0 := Hw0.out
  replace hW := hW.trans (hb.mono hW.size)
  replace bt := bt.keep hb
  replace ht := Cl.at_keep (Keeps.all hb) ht
  replace rf := fun p => (hb.frozen (p := ⟨_, p, none⟩) rb.lt).trans (rf p)
  replace rb := rb.keep hb
  have HF1 : Hid (∀ y ∈ F1, w0.heap.size ≤ y) := hF1
  have HLT1 := hid (D.own_lt _ _ _ ho1)
  have hz1 := hb.size
  have hA : Below w1.heap.size w1 (w1.alloc (.cells #[.slice a1 t.ls.length cp1] 28)) := (Below.refl _ _).alloc (Nat.le_refl _) _
  have HO1 := hid (D.own_keep _ _ _ (Keeps.all hA) ho1)
  have oB : Box (w1.alloc (.cells #[.slice a1 t.ls.length cp1] 28)) w1.heap.size [.slice a1 t.ls.length cp1] := Box.new _ _ _
  have of : (w1.alloc (.cells #[.slice a1 t.ls.length cp1] 28)).frozen? ⟨w1.heap.size, 0, none⟩ = false := World.frozen?_alloc_at _ _ _ 0 (by simp)
  have hzA : (w1.alloc (.cells #[.slice a1 t.ls.length cp1] 28)).heap.size = w1.heap.size + 1 := by simp
  have HZA := hid hzA
  clear hb ho1 hF1 hzA
  have et0 := bt.c0
  have lt := bt.lt
  have re0 := rb.c0
  have rf0 := rf 0
  have rl := rb.lt
  go_wp2_with fail
  clear et0 lt re0 rf0 rl
  have hb := hA
  replace hW := hW.trans (hb.mono hW.size)
  replace bt := bt.keep hb
  replace ht := Cl.at_keep (Keeps.all hb) ht
  replace rf := fun p => (hb.frozen (p := ⟨_, p, none⟩) rb.lt).trans (rf p)
  replace rb := rb.keep hb
  clear hb hA
  generalize (w1.alloc (.cells #[.slice a1 t.ls.length cp1] 28)) = wl at *
  have hzl := HZA.out
  obtain ⟨N, HN⟩ : ∃ N, Hid (w1.heap.size = N) := ⟨_, hid rfl⟩
  rw [HN.out] at hzl oB of HLT1
  rw [HN.out]
  have hN : w.heap.size + 1 + 1 ≤ N := by have := HN.out; omega
  have oc := oB.c0
  have HWL := hid hW
  have nF1 : N ∉ F1 := fun q => by have := HLT1.out _ q; omega
  go_loopw [4] (fun i wr => ∃ (k : Nat) (d : Cl) (a : Option Addr) (cp : Nat) (F : List Nat), k ≤ 10 ∧ i = .int .i64 k ∧ Hid (NormI k d) ∧ Hid (normN (10 - k) d = R) ∧ wr.cell? ⟨N, 0, none⟩ = some (.slice a d.ls.length cp) ∧ wr.frozen? ⟨N, 0, none⟩ = false ∧ Hid (D.own wr (.slice a d.ls.length cp) (Lit.sd d.ls) F) ∧ Hid (∀ y ∈ F, w.heap.size + 1 + 1 ≤ y) ∧ N ∉ F ∧ N + 1 ≤ wr.heap.size ∧ Hid (Below N wl wr)) (fun i _ => 10 - (intOf i).toNat)
  case atStart => exact ⟨0, t, a1, cp1, F1, by omega, rfl, HI, HR, oc, of, HO1, fun y hy => by have := HF1.out y hy; omega, nF1, by omega, Below.refl _ _⟩
  case round =>
    obtain ⟨k, d, a, cp, F, hk, rfl, HID, HNN, y0, y2, HO, HFF, nF, hz, HB⟩ := hrel
    have HBW := hid (HWL.out.trans (HB.out.mono (by omega)))
    have lN : N < wr.heap.size := hz
    have r0 := (HB.out.cell (p := ⟨w.heap.size + 1, 0, none⟩) (by show w.heap.size + 1 < N; omega)).trans rb.c0
    have r1 := (HB.out.frozen (p := ⟨w.heap.size + 1, 0, none⟩) (by show w.heap.size + 1 < N; omega)).trans (rf 0)
    have l1 : w.heap.size + 1 < wr.heap.size := by omega
    have nF1 : w.heap.size + 1 ∉ F := fun q => by have := HFF.out _ q; omega
    by_cases hlt : k < 10
    · have hat : Cl.at (· ∈ F) wr (.slice a d.ls.length cp) d := D.own_rd _ _ _ HO.out
      have hbkd := (HID.out.bulk (by omega)).1
      have hq := isNormalized_any d hat (by omega) HID.out.nice (by have := HID.out.names; rw [Cl.names] at this; omega) (TabF.keep HTF.out HBW.out)
      obtain ⟨nk, Hnk⟩ : ∃ nk, Hid (normK (Tm.colls d.atoms []) = nk) := ⟨_, hid rfl⟩
      rw [Hnk.out] at hq
      have HQ := hid hq
      have HAT := hid hat
      clear hq hat
      go_wp2_with fail
      refine HQ.out.mono ?_
      rintro e w2 ⟨_, rfl, hb2, rfl⟩
      replace y0 := (hb2.cell (p := ⟨N, 0, none⟩) lN).trans y0
      replace y2 := (hb2.frozen (p := ⟨N, 0, none⟩) lN).trans y2
      replace r0 := (hb2.cell (p := ⟨w.heap.size + 1, 0, none⟩) l1).trans r0
      replace r1 := (hb2.frozen (p := ⟨w.heap.size + 1, 0, none⟩) l1).trans r1
      replace HO := hid (D.own_keep _ _ _ (Keeps.all hb2) HO.out)
      replace HB := hid (HB.out.trans (hb2.mono (by omega)))
      replace HBW := hid (HBW.out.trans (hb2.mono HBW.out.size))
      have hz2 := hb2.size
      replace lN := Nat.lt_of_lt_of_le lN hz2
      replace l1 := Nat.lt_of_lt_of_le l1 hz2
      replace HAT : Hid (Cl.at (· ∈ F) w2 (.slice a d.ls.length cp) d) := D.own_rd _ _ _ HO.out
      clear HQ hb2
      cases nk with
      | true =>
        have HE : Hid (R = d) := by rw [Hid, ← HNN.out]; exact normN_done Hnk.out
        go_wp2_with fail
        refine bodyPost_ret (v := .agg #[.slice a d.ls.length cp]) (by simp [results, Tryz.results27, go_sem, r0]) rfl ?_
        refine ⟨_, F, rfl, ?_, fun y hy => by have := HFF.out y hy; omega, HBW.out.setCell (by simp) _⟩
        rw [HE.out]
        exact D.own_keep _ _ _ ((Keeps.refl (· ∈ F) w2).setCell (fun q _ => nF1 q) _) HO.out
      | false =>
        have HST : Hid (normN (10 - (k + 1)) d.step = R) := by
          rw [Hid, ← HNN.out, show 10 - k = (10 - (k + 1)) + 1 by omega]
          exact (normN_step Hnk.out).symm
        have HIS := hid HID.out.step
        have hkn := HID.out.names
        have HNV := hid d.names_var
        have HND := hid d.names_nodup
        have HRB := hid (HID.out.rens hlt (x := 88) hkn)
        have HS2 : Hid (d.step = Cl.ren ⟨#[88]⟩ d.names d) := rfl
        have hnm := namesIn_any d HAT.out (by omega) HID.out.nice
        have hnmx : Tm.colls d.atoms [] = d.names := rfl
        rw [hnmx] at hnm
        clear hnm hnmx
        obtain ⟨ks, Hks⟩ : ∃ ks, Hid (d.names = ks) := ⟨_, hid rfl⟩
        obtain ⟨d2, Hd2⟩ : ∃ d2, Hid (d.step = d2) := ⟨_, hid rfl⟩
        rw [Hks.out] at hkn HNV HND HRB HS2
        rw [Hd2.out] at HST HIS HS2
        have nn : ¬ (none : Option Nat) = some N := fun e => by cases e
        go_wp2_with fail
        refine region_late (l := [_, _, _, _, _]) (tl := [_]) (S := fun w1 => (w2).grownBy w1 (none)) (n := 5) rfl rfl (by kernel_rfl) (by kernel_rfl) (grown_of_below ((Below.refl _ _).drew) _) (fun hQL hS => ?_)
        refine late_take (i := 0) (d := some 16) (v := .agg #[.slice a d.ls.length cp]) rfl rfl (by kernel_rfl) (by kernel_rfl) (by kernel_rfl) hQL (by rfl) (fun w1 hS1 => (by obtain ⟨hc, hf⟩ := bcellG hS1; go_simp)) hS ?_
        try simp only [Act.put, List.setIfInBounds_toArray, List.set_cons_zero, List.set_cons_succ]
        refine late_take (i := 1) (d := some 17) (v := .agg #[.slice a d.ls.length cp]) rfl rfl (by kernel_rfl) (by kernel_rfl) (by kernel_rfl) hQL (by rfl) (fun w1 hS1 => (by obtain ⟨hc, hf⟩ := bcellG hS1; go_simp)) hS ?_
        try simp only [Act.put, List.setIfInBounds_toArray, List.set_cons_zero, List.set_cons_succ]
        refine wpAnyH_ready (rs := [2]) (by kernel_rfl) (by simp) ?_
        refine AllReadyH.cons rfl (fun K hK => ?_) AllReadyH.nil
        refine step_does rfl ?_
        unfold Does
        go_simp
        go_at_call 36
        have hA : Below w2.heap.size w2 w2.drew := (Below.refl _ _).drew
        have hq := namesIn_any d (D.rd_keep (Keeps.all hA) _ _ HAT.out) (by omega) HID.out.nice
        rw [show Tm.colls d.atoms [] = ks from Hks.out] at hq
        refine hq.mono ?_
        clear hq
        rintro e wo ⟨gn, cn, rfl, hg1, hbo⟩
        have HG1 := hid hg1
        have HBO : Hid (Below w2.heap.size w2 wo) := hA.trans (hbo.mono hA.size)
        clear hg1 hbo
        refine ⟨_, rfl, ?_⟩
        refine hK.out _ _ (grown_of_below HBO.out _) (fun hS => ?_)
        try show wpAnyH _ _ _ _ _ _ _ (Act.put _ (some 18) _) _
        try simp only [Act.put, List.setIfInBounds_toArray, List.set_cons_zero, List.set_cons_succ]
        refine wpAnyH_ready (rs := [3]) (by kernel_rfl) (by simp) ?_
        refine AllReadyH.cons rfl (fun K hK => ?_) AllReadyH.nil
        refine step_does rfl ?_
        unfold Does
        go_simp
        go_at_call 46
        have hq := renaming_any ⟨#[88]⟩ (w := wo) (by decide) (by omega) HND.out (TabF.keep HTF.out (HBW.out.trans (HBO.out.mono HBW.out.size))) HG1.out.rd
        refine hq.mono ?_
        clear hq
        rintro e wm ⟨rfl, hm, hb⟩
        have HM := hid hm
        have HBM := hid (HBO.out.trans (hb.mono HBO.out.size))
        clear hm hb
        refine ⟨_, rfl, ?_⟩
        refine hK.out _ _ (grown_of_below HBM.out _) (fun hS => ?_)
        try show wpAnyH _ _ _ _ _ _ _ (Act.put _ (some 19) _) _
        try simp only [Act.put, List.setIfInBounds_toArray, List.set_cons_zero, List.set_cons_succ]
        refine wpAnyH_ready (rs := [4]) (by kernel_rfl) (by simp) ?_
        refine AllReadyH.cons rfl (fun K hK => ?_) AllReadyH.nil
        refine step_does rfl ?_
        unfold Does
        go_simp
        go_at_call 37
        have hq := renamedClause_any 88 ks upX (by omega) HND.out HNV.out (D.rd_keep (Keeps.all HBM.out) _ _ HAT.out) HM.out (fun x hx => (HID.out.2 x hx).1) (fun x hx => (HID.out.2 x hx).2.1) hbkd HRB.out
        rw [← HS2.out] at hq
        refine hq.mono ?_
        clear hq
        rintro e wq ⟨v3, F3, rfl, ho, hF3, hb⟩
        obtain ⟨a3, cp3, rfl⟩ := Lit.sd_own_form ho
        have HO3 := hid ho
        have HF3 : Hid (∀ y ∈ F3, w2.heap.size ≤ y) := fun y hy => Nat.le_trans HBM.out.size (hF3 y hy)
        have HBQ := hid (HBM.out.trans (hb.mono HBM.out.size))
        clear ho hF3 hb
        refine ⟨_, rfl, ?_⟩
        refine hK.out _ _ (grown_of_below HBQ.out _) (fun hS => ?_)
        try show wpAnyH _ _ _ _ _ _ _ (Act.put _ (some 20) _) _
        try simp only [Act.put, List.setIfInBounds_toArray, List.set_cons_zero, List.set_cons_succ]
        refine wpAnyH_done (by kernel_rfl) ?_ _
        show wpTail _ _ _ _ _
        refine wpTail_step rfl (fun K hK => ?_)
        obtain ⟨hc, hf⟩ := bcellG hS
        go_simp
        refine hK.out _ _ ?_
        try clear hc hf
        refine wpTail_nil ?_
        have hzq := HBQ.out.size
        have z0 := (HBQ.out.cell (p := ⟨N, 0, none⟩) lN).trans y0
        have z2 := (HBQ.out.frozen (p := ⟨N, 0, none⟩) lN).trans y2
        have nF3 : N ∉ F3 := fun q => by have := HF3.out _ q; omega
        clear hS
        go_wp2_with fail
        go_roundw
        case rel =>
          refine ⟨k + 1, d2, a3, cp3, F3, by omega, by go_num, HIS, HST, ?_, ?_, hid ?_, fun y hy => by have := HF3.out y hy; omega, nF3, ?_, hid ?_⟩
          · exact World.cell?_setCell_same _ _ _ z0
          · rw [World.frozen?_setCell]; exact z2
          · exact D.own_keep _ _ _ ((Keeps.refl (· ∈ F3) _).setCell (fun q _ => nF3 q) _) HO3.out
          · rw [World.size_setCell]; omega
          · exact (HB.out.trans (HBQ.out.mono (by omega))).setCell (Nat.le_refl _) _
        case measure => simp [intOf]; omega
    · obtain rfl : k = 10 := by omega
      have HE : Hid (R = d) := by rw [Hid, ← HNN.out]; rfl
      go_wp2_with fail
      refine bodyPost_ret (v := .agg #[.slice a d.ls.length cp]) (by simp [results, Tryz.results27, go_sem, r0]) rfl ?_
      refine ⟨_, F, rfl, ?_, fun y hy => by have := HFF.out y hy; omega, HBW.out.setCell (by simp) _⟩
      rw [HE.out]
      exact D.own_keep _ _ _ ((Keeps.refl (· ∈ F) wr).setCell (fun q _ => nF1 q) _) HO.out
end Go.Proofs.YtooocakkjdhfiaaGreatDoor
/- The reference's rounds of normalizing. -/
namespace Go.Proofs.YtooocakkjdhfiaaGreatDoor
set_option maxRecDepth 100000
open Go.RowKit

set_option maxHeartbeats 4000000 in
theorem l7Normal_any {t : Cl} {S : Nat → Prop} {c0 : Value} {w : World} (ht : Cl.at S w c0 t) (hv : t.valid = true) :
    Calls Tryz.prog 24 #[.agg #[c0]] w (RdN (fun v => .agg #[v]) (Lit.sd (normN 10 t).ls) (normN 10 t).valid w) := by
  have hI := NormI.start hv
  have hbk : t.bulk ≤ 30000 ∧ t.ls.length + Lit.bulks t.ls ≤ 30000 := hI.bulk (by omega)
  have hbk2 : t.bulk ≤ 1048576 := by omega
  have HMK : Hid (makeL t.ls = t.ls) := make_valid hv
  have HI := hid hI
  obtain ⟨R, HR⟩ : ∃ R, Hid (normN 10 t = R) := ⟨_, hid rfl⟩
  rw [HR.out]
  have HTT := hid ht
  clear hI hv
  obtain ⟨ta, tc, rfl⟩ := Cl.at_form ht
  have hW : Below w.heap.size w ((w.alloc (.cells #[.slice ta t.ls.length tc] 28)).alloc (.cells #[.slice none 0 0] 28)) := ((Below.refl _ _).alloc (Nat.le_refl _) _).alloc (by simp) _
  have bt : Box ((w.alloc (.cells #[.slice ta t.ls.length tc] 28)).alloc (.cells #[.slice none 0 0] 28)) (w.heap.size) [.slice ta t.ls.length tc] := by
    have := ((Box.new w [.slice ta t.ls.length tc] 28).alloc (.cells #[.slice none 0 0] 28))
    simpa only [World.size_alloc] using this
  have rb : Box ((w.alloc (.cells #[.slice ta t.ls.length tc] 28)).alloc (.cells #[.slice none 0 0] 28)) (w.heap.size + 1) [.slice none 0 0] := by
    have := (Box.new (w.alloc (.cells #[.slice ta t.ls.length tc] 28)) [.slice none 0 0] 28)
    simpa only [World.size_alloc] using this
  have rf : ∀ p, ((w.alloc (.cells #[.slice ta t.ls.length tc] 28)).alloc (.cells #[.slice none 0 0] 28)).frozen? ⟨w.heap.size + 1, p, none⟩ = false := fun p => World.frozen?_alloc_at _ _ _ p (by simp)
  replace ht := Cl.at_keep (Keeps.all hW) ht
  have et0 := bt.c0
  have lt := bt.lt
  have re0 := rb.c0
  have rf0 := rf 0
  have rl := rb.lt
  go_enter Tryz.func24, Tryz.ntmps24
  go_wp2_with fail
  clear et0 lt re0 rf0 rl
  have Hw0 : Hid (((w.alloc (.cells #[.slice ta t.ls.length tc] 28)).alloc (.cells #[.slice none 0 0] 28)).heap.size = w.heap.size + 1 + 1) := by simp [Hid]
  generalize ((w.alloc (.cells #[.slice ta t.ls.length tc] 28)).alloc (.cells #[.slice none 0 0] 28)) = w0 at *
  have htr : D.rd _ w0 _ (Lit.sd t.ls) := ht
  refine (l7Make_any htr (by omega)).mono ?_
  clear htr
  rintro e w1 ⟨v1, rfl, hr1, hb⟩
  rw [HMK.out] at hr1
  obtain ⟨a1, cp1, rfl, -, -⟩ := Lit.sd_form hr1
  have hzz := hW.size
  have hz0 := Hw0.out
  replace hW := hW.trans (hb.mono hW.size)
  replace bt := bt.keep hb
  replace ht := Cl.at_keep (Keeps.all hb) ht
  replace rf := fun p => (hb.frozen (p := ⟨_, p, none⟩) rb.lt).trans (rf p)
  replace rb := rb.keep hb
  have hz1 := hb.size
  have hA : Below w1.heap.size w1 (w1.alloc (.cells #[.slice a1 t.ls.length cp1] 28)) := (Below.refl _ _).alloc (Nat.le_refl _) _
  have HO1 : Hid (D.rd (fun x => w.heap.size + 1 + 1 ≤ x ∧ x ≠ w1.heap.size) (w1.alloc (.cells #[.slice a1 t.ls.length cp1] 28)) (.slice a1 t.ls.length cp1) (Lit.sd t.ls)) := D.rd_mono (fun x (hx : w0.heap.size ≤ x ∧ x < w1.heap.size) => ⟨by omega, by omega⟩) _ _ (D.rd_keep (Keeps.all hA) _ _ (D.rd_ltS _ _ hr1))
  have oB : Box (w1.alloc (.cells #[.slice a1 t.ls.length cp1] 28)) w1.heap.size [.slice a1 t.ls.length cp1] := Box.new _ _ _
  have of : (w1.alloc (.cells #[.slice a1 t.ls.length cp1] 28)).frozen? ⟨w1.heap.size, 0, none⟩ = false := World.frozen?_alloc_at _ _ _ 0 (by simp)
  have hzA : (w1.alloc (.cells #[.slice a1 t.ls.length cp1] 28)).heap.size = w1.heap.size + 1 := by simp
  have HZA := hid hzA
  clear hb hr1 hzA
  have et0 := bt.c0
  have lt := bt.lt
  have re0 := rb.c0
  have rf0 := rf 0
  have rl := rb.lt
  go_wp2_with fail
  clear et0 lt re0 rf0 rl
  have hb := hA
  replace hW := hW.trans (hb.mono hW.size)
  replace bt := bt.keep hb
  replace ht := Cl.at_keep (Keeps.all hb) ht
  replace rf := fun p => (hb.frozen (p := ⟨_, p, none⟩) rb.lt).trans (rf p)
  replace rb := rb.keep hb
  clear hb hA
  generalize (w1.alloc (.cells #[.slice a1 t.ls.length cp1] 28)) = wl at *
  have hzl := HZA.out
  obtain ⟨N, HN⟩ : ∃ N, Hid (w1.heap.size = N) := ⟨_, hid rfl⟩
  rw [HN.out] at hzl oB of HO1
  rw [HN.out]
  have hN : w.heap.size + 1 + 1 ≤ N := by have := HN.out; omega
  have oc := oB.c0
  have HWL := hid hW
  go_loopw [5] (fun i wr => ∃ (k : Nat) (d : Cl) (a : Option Addr) (cp : Nat), k ≤ 10 ∧ i = .int .i64 k ∧ Hid (NormI k d) ∧ Hid (normN (10 - k) d = R) ∧ wr.cell? ⟨N, 0, none⟩ = some (.slice a d.ls.length cp) ∧ wr.frozen? ⟨N, 0, none⟩ = false ∧ Hid (D.rd (fun x => w.heap.size + 1 + 1 ≤ x ∧ x ≠ N) wr (.slice a d.ls.length cp) (Lit.sd d.ls)) ∧ N + 1 ≤ wr.heap.size ∧ Hid (Below N wl wr)) (fun i _ => 10 - (intOf i).toNat)
  case atStart => exact ⟨0, t, a1, cp1, by omega, rfl, HI, HR, oc, of, HO1, by omega, Below.refl _ _⟩
  case round =>
    obtain ⟨k, d, a, cp, hk, rfl, HID, HNN, y0, y2, HO, hz, HB⟩ := hrel
    have HBW := hid (HWL.out.trans (HB.out.mono (by omega)))
    have lN : N < wr.heap.size := hz
    have r0 := (HB.out.cell (p := ⟨w.heap.size + 1, 0, none⟩) (by show w.heap.size + 1 < N; omega)).trans rb.c0
    have r1 := (HB.out.frozen (p := ⟨w.heap.size + 1, 0, none⟩) (by show w.heap.size + 1 < N; omega)).trans (rf 0)
    have l1 : w.heap.size + 1 < wr.heap.size := by omega
    by_cases hlt : k < 10
    · have hbkd := (HID.out.bulk (by omega)).1
      have hnl := HID.out.names
      have hq := l7IsNormal_any d (S := fun x => w.heap.size + 1 + 1 ≤ x ∧ x ≠ N) HO.out (by omega) HID.out.leafy (by rw [Cl.names] at hnl; omega)
      obtain ⟨nk, Hnk⟩ : ∃ nk, Hid (normK (Tm.colls d.atoms []) = nk) := ⟨_, hid rfl⟩
      rw [Hnk.out] at hq
      have HQ := hid hq
      clear hq
      go_wp2_with fail
      refine HQ.out.mono ?_
      rintro e w2 ⟨_, rfl, hb2, rfl⟩
      replace y0 := (hb2.cell (p := ⟨N, 0, none⟩) lN).trans y0
      replace y2 := (hb2.frozen (p := ⟨N, 0, none⟩) lN).trans y2
      replace r0 := (hb2.cell (p := ⟨w.heap.size + 1, 0, none⟩) l1).trans r0
      replace r1 := (hb2.frozen (p := ⟨w.heap.size + 1, 0, none⟩) l1).trans r1
      replace HO := hid (D.rd_keep (Keeps.all hb2) _ _ HO.out)
      replace HB := hid (HB.out.trans (hb2.mono (by omega)))
      replace HBW := hid (HBW.out.trans (hb2.mono HBW.out.size))
      have hz2 := hb2.size
      replace lN := Nat.lt_of_lt_of_le lN hz2
      replace l1 := Nat.lt_of_lt_of_le l1 hz2
      clear HQ hb2
      cases nk with
      | true =>
        have HE : Hid (R = d) := by rw [Hid, ← HNN.out]; exact normN_done Hnk.out
        have nn : ¬ (none : Option Nat) = some N := fun e => by cases e
        have nr : ¬ (none : Option Nat) = some (w.heap.size + 1) := fun e => by cases e
        go_wp2_with fail
        refine region_late (l := [_, _, _]) (tl := [_, _]) (S := fun w1 => (w2).grownBy w1 (none)) (n := 3) rfl rfl (by kernel_rfl) (by kernel_rfl) (grown_of_below ((Below.refl _ _).drew) _) (fun hQL hS => ?_)
        refine late_take (i := 0) (d := some 22) (v := .agg #[.slice a d.ls.length cp]) rfl rfl (by kernel_rfl) (by kernel_rfl) (by kernel_rfl) hQL (by rfl) (fun w1 hS1 => (by obtain ⟨hc, hf⟩ := bcellG hS1; go_simp)) hS ?_
        try simp only [Act.put, List.setIfInBounds_toArray, List.set_cons_zero, List.set_cons_succ]
        refine late_take (i := 1) (d := some 23) (v := .agg #[.slice a d.ls.length cp]) rfl rfl (by kernel_rfl) (by kernel_rfl) (by kernel_rfl) hQL (by rfl) (fun w1 hS1 => (by obtain ⟨hc, hf⟩ := bcellG hS1; go_simp)) hS ?_
        try simp only [Act.put, List.setIfInBounds_toArray, List.set_cons_zero, List.set_cons_succ]
        refine wpAnyH_ready (rs := [2]) (by kernel_rfl) (by simp) ?_
        refine AllReadyH.cons rfl (fun K hK => ?_) AllReadyH.nil
        refine step_does rfl ?_
        unfold Does
        go_simp
        go_at_call 15
        have hA : Below w2.heap.size w2 w2.drew := (Below.refl _ _).drew
        have hq := l7Good_any (x := d) (S := fun x => w.heap.size + 1 + 1 ≤ x ∧ x ≠ N) (D.rd_keep (Keeps.all hA) _ _ HO.out) (by have := (HID.out.bulk (by omega)).1; omega)
        refine hq.mono ?_
        clear hq
        rintro e wg ⟨_, rfl, hb1, rfl⟩
        have HBG : Hid (Below w2.heap.size w2 wg) := hA.trans (hb1.mono hA.size)
        clear hb1
        refine ⟨_, rfl, ?_⟩
        refine hK.out _ _ (grown_of_below HBG.out _) (fun hS => ?_)
        try show wpAnyH _ _ _ _ _ _ _ (Act.put _ (some 24) _) _
        try simp only [Act.put, List.setIfInBounds_toArray, List.set_cons_zero, List.set_cons_succ]
        refine wpAnyH_done (by kernel_rfl) ?_ _
        show wpTail _ _ _ _ _
        refine wpTail_step rfl (fun K hK => ?_)
        obtain ⟨hc, hf⟩ := bcellG hS
        go_simp
        refine hK.out _ _ ?_
        try clear hc hf
        refine wpTail_step rfl (fun K hK => ?_)
        obtain ⟨hc, hf⟩ := bcellG hS
        go_simp
        refine hK.out _ _ ?_
        try clear hc hf
        refine wpTail_nil ?_
        have zg0 := (HBG.out.cell (p := ⟨w.heap.size + 1, 0, none⟩) l1).trans r0
        have HOG := hid (D.rd_keep (Keeps.all HBG.out) _ _ HO.out)
        have HBF := hid (HBW.out.trans (HBG.out.mono HBW.out.size))
        clear hS
        go_wp2_with fail
        refine bodyPost_ret (v := .tuple #[.agg #[.slice a d.ls.length cp], .bool d.valid]) (by simp [results, Tryz.results24, go_sem, zg0]) rfl ?_
        refine ⟨_, by rw [HE.out], ?_, HBF.out.setCell (by simp) _⟩
        rw [HE.out]
        exact D.rd_mono (fun x (hx : w.heap.size + 1 + 1 ≤ x ∧ x ≠ N) => (by omega : w.heap.size ≤ x)) _ _ (D.rd_keep ((Keeps.refl _ _).setCell (fun (q : w.heap.size + 1 + 1 ≤ w.heap.size + 1 ∧ w.heap.size + 1 ≠ N) _ => by omega) _) _ _ HOG.out)
      | false =>
        have HST : Hid (normN (10 - (k + 1)) d.step = R) := by
          rw [Hid, ← HNN.out, show 10 - k = (10 - (k + 1)) + 1 by omega]
          exact (normN_step Hnk.out).symm
        have HIS := hid HID.out.step
        have HRB := hid (HID.out.rens hlt (x := 88) hnl)
        have HS2 : Hid (d.step = Cl.ren ⟨#[88]⟩ d.names d) := rfl
        obtain ⟨ks, Hks⟩ : ∃ ks, Hid (d.names = ks) := ⟨_, hid rfl⟩
        obtain ⟨d2, Hd2⟩ : ∃ d2, Hid (d.step = d2) := ⟨_, hid rfl⟩
        rw [Hks.out] at hnl HRB HS2
        rw [Hd2.out] at HST HIS HS2
        have nn : ¬ (none : Option Nat) = some N := fun e => by cases e
        go_wp2_with fail
        refine region_late (l := [_, _, _, _]) (tl := [_]) (S := fun w1 => (w2).grownBy w1 (none)) (n := 4) rfl rfl (by kernel_rfl) (by kernel_rfl) (grown_of_below ((Below.refl _ _).drew) _) (fun hQL hS => ?_)
        refine late_take (i := 0) (d := some 18) (v := .agg #[.slice a d.ls.length cp]) rfl rfl (by kernel_rfl) (by kernel_rfl) (by kernel_rfl) hQL (by rfl) (fun w1 hS1 => (by obtain ⟨hc, hf⟩ := bcellG hS1; go_simp)) hS ?_
        try simp only [Act.put, List.setIfInBounds_toArray, List.set_cons_zero, List.set_cons_succ]
        refine late_take (i := 1) (d := some 19) (v := .agg #[.slice a d.ls.length cp]) rfl rfl (by kernel_rfl) (by kernel_rfl) (by kernel_rfl) hQL (by rfl) (fun w1 hS1 => (by obtain ⟨hc, hf⟩ := bcellG hS1; go_simp)) hS ?_
        try simp only [Act.put, List.setIfInBounds_toArray, List.set_cons_zero, List.set_cons_succ]
        refine wpAnyH_ready (rs := [2]) (by kernel_rfl) (by simp) ?_
        refine AllReadyH.cons rfl (fun K hK => ?_) AllReadyH.nil
        refine step_does rfl ?_
        unfold Does
        go_simp
        go_at_call 31
        have hA : Below w2.heap.size w2 w2.drew := (Below.refl _ _).drew
        have hq := l7Order_any d (D.rd_keep (Keeps.all hA) _ _ HO.out) (by omega) HID.out.leafy
        rw [show Tm.colls d.atoms [] = ks from Hks.out] at hq
        refine hq.mono ?_
        clear hq
        rintro e wo ⟨gn, cn, rfl, hg1, hbo⟩
        have HG1 := hid hg1
        have HBO : Hid (Below w2.heap.size w2 wo) := hA.trans (hbo.mono hA.size)
        clear hg1 hbo
        refine ⟨_, rfl, ?_⟩
        refine hK.out _ _ (grown_of_below HBO.out _) (fun hS => ?_)
        try show wpAnyH _ _ _ _ _ _ _ (Act.put _ (some 20) _) _
        try simp only [Act.put, List.setIfInBounds_toArray, List.set_cons_zero, List.set_cons_succ]
        refine wpAnyH_ready (rs := [3]) (by kernel_rfl) (by simp) ?_
        refine AllReadyH.cons rfl (fun K hK => ?_) AllReadyH.nil
        refine step_does rfl ?_
        unfold Does
        go_simp
        go_at_call 33
        have hq := l7Rename_any ⟨#[88]⟩ ks (w := wo) (t := d) (by decide) (by omega) (D.rd_keep (Keeps.all HBO.out) _ _ HO.out) HG1.out.rd hbkd HRB.out
        have hq2 : Calls Tryz.prog 33 #[.agg #[.slice a d.ls.length cp], .slice (some ⟨gn, 0, none⟩) ks.length cn, .string ⟨#[88]⟩] wo fun e w' => ∃ v', e = .returned (.agg #[v']) ∧ D.rd (fun x => wo.heap.size ≤ x) w' v' (Lit.sd d2.ls) ∧ Below wo.heap.size wo w' := by rw [HS2.out]; exact hq
        refine hq2.mono ?_
        clear hq hq2
        rintro e wq ⟨v3, rfl, ho, hb⟩
        obtain ⟨a3, cp3, rfl, -, -⟩ := Lit.sd_form ho
        have HO3 := hid ho
        have HBQ := hid (HBO.out.trans (hb.mono HBO.out.size))
        have hzo := HBO.out.size
        clear ho hb
        refine ⟨_, rfl, ?_⟩
        refine hK.out _ _ (grown_of_below HBQ.out _) (fun hS => ?_)
        try show wpAnyH _ _ _ _ _ _ _ (Act.put _ (some 21) _) _
        try simp only [Act.put, List.setIfInBounds_toArray, List.set_cons_zero, List.set_cons_succ]
        refine wpAnyH_done (by kernel_rfl) ?_ _
        show wpTail _ _ _ _ _
        refine wpTail_step rfl (fun K hK => ?_)
        obtain ⟨hc, hf⟩ := bcellG hS
        go_simp
        refine hK.out _ _ ?_
        try clear hc hf
        refine wpTail_nil ?_
        have hzq := HBQ.out.size
        have z0 := (HBQ.out.cell (p := ⟨N, 0, none⟩) lN).trans y0
        have z2 := (HBQ.out.frozen (p := ⟨N, 0, none⟩) lN).trans y2
        clear hS
        go_wp2_with fail
        go_roundw
        case rel =>
          refine ⟨k + 1, d2, a3, cp3, by omega, by go_num, HIS, HST, ?_, ?_, hid ?_, ?_, hid ?_⟩
          · exact World.cell?_setCell_same _ _ _ z0
          · rw [World.frozen?_setCell]; exact z2
          · exact D.rd_mono (fun x (hx : wo.heap.size ≤ x) => ⟨by omega, by omega⟩) _ _ (D.rd_keep ((Keeps.refl _ _).setCell (fun (q : wo.heap.size ≤ N) _ => by omega) _) _ _ HO3.out)
          · rw [World.size_setCell]; omega
          · exact (HB.out.trans (HBQ.out.mono (by omega))).setCell (Nat.le_refl _) _
        case measure => simp [intOf]; omega
    · obtain rfl : k = 10 := by omega
      have HE : Hid (R = d) := by rw [Hid, ← HNN.out]; rfl
      have nn : ¬ (none : Option Nat) = some N := fun e => by cases e
      have nr : ¬ (none : Option Nat) = some (w.heap.size + 1) := fun e => by cases e
      go_wp2_with fail
      refine region_late (l := [_, _, _]) (tl := [_, _]) (S := fun w1 => (wr).grownBy w1 (none)) (n := 3) rfl rfl (by kernel_rfl) (by kernel_rfl) (grown_of_below ((Below.refl _ _).drew) _) (fun hQL hS => ?_)
      refine late_take (i := 0) (d := some 22) (v := .agg #[.slice a d.ls.length cp]) rfl rfl (by kernel_rfl) (by kernel_rfl) (by kernel_rfl) hQL (by rfl) (fun w1 hS1 => (by obtain ⟨hc, hf⟩ := bcellG hS1; go_simp)) hS ?_
      try simp only [Act.put, List.setIfInBounds_toArray, List.set_cons_zero, List.set_cons_succ]
      refine late_take (i := 1) (d := some 23) (v := .agg #[.slice a d.ls.length cp]) rfl rfl (by kernel_rfl) (by kernel_rfl) (by kernel_rfl) hQL (by rfl) (fun w1 hS1 => (by obtain ⟨hc, hf⟩ := bcellG hS1; go_simp)) hS ?_
      try simp only [Act.put, List.setIfInBounds_toArray, List.set_cons_zero, List.set_cons_succ]
      refine wpAnyH_ready (rs := [2]) (by kernel_rfl) (by simp) ?_
      refine AllReadyH.cons rfl (fun K hK => ?_) AllReadyH.nil
      refine step_does rfl ?_
      unfold Does
      go_simp
      go_at_call 15
      have hA : Below wr.heap.size wr wr.drew := (Below.refl _ _).drew
      have hq := l7Good_any (x := d) (S := fun x => w.heap.size + 1 + 1 ≤ x ∧ x ≠ N) (D.rd_keep (Keeps.all hA) _ _ HO.out) (by have := (HID.out.bulk (by omega)).1; omega)
      refine hq.mono ?_
      clear hq
      rintro e wg ⟨_, rfl, hb1, rfl⟩
      have HBG : Hid (Below wr.heap.size wr wg) := hA.trans (hb1.mono hA.size)
      clear hb1
      refine ⟨_, rfl, ?_⟩
      refine hK.out _ _ (grown_of_below HBG.out _) (fun hS => ?_)
      try show wpAnyH _ _ _ _ _ _ _ (Act.put _ (some 24) _) _
      try simp only [Act.put, List.setIfInBounds_toArray, List.set_cons_zero, List.set_cons_succ]
      refine wpAnyH_done (by kernel_rfl) ?_ _
      show wpTail _ _ _ _ _
      refine wpTail_step rfl (fun K hK => ?_)
      obtain ⟨hc, hf⟩ := bcellG hS
      go_simp
      refine hK.out _ _ ?_
      try clear hc hf
      refine wpTail_step rfl (fun K hK => ?_)
      obtain ⟨hc, hf⟩ := bcellG hS
      go_simp
      refine hK.out _ _ ?_
      try clear hc hf
      refine wpTail_nil ?_
      have zg0 := (HBG.out.cell (p := ⟨w.heap.size + 1, 0, none⟩) l1).trans r0
      have HOG := hid (D.rd_keep (Keeps.all HBG.out) _ _ HO.out)
      have HBF := hid (HBW.out.trans (HBG.out.mono HBW.out.size))
      clear hS
      go_wp2_with fail
      refine bodyPost_ret (v := .tuple #[.agg #[.slice a d.ls.length cp], .bool d.valid]) (by simp [results, Tryz.results24, go_sem, zg0]) rfl ?_
      refine ⟨_, by rw [HE.out], ?_, HBF.out.setCell (by simp) _⟩
      rw [HE.out]
      exact D.rd_mono (fun x (hx : w.heap.size + 1 + 1 ≤ x ∧ x ≠ N) => (by omega : w.heap.size ≤ x)) _ _ (D.rd_keep ((Keeps.refl _ _).setCell (fun (q : w.heap.size + 1 + 1 ≤ w.heap.size + 1 ∧ w.heap.size + 1 ≠ N) _ => by omega) _) _ _ HOG.out)
end Go.Proofs.YtooocakkjdhfiaaGreatDoor
/- NormalizeClause: the program's and the reference's. -/
namespace Go.Proofs.YtooocakkjdhfiaaGreatDoor
set_option maxRecDepth 100000
open Go.RowKit

set_option maxHeartbeats 2000000 in
theorem impl_NormalizeClause {t : Cl} {S : Nat → Prop} {c0 : Value} {w : World} (ht : Cl.at S w c0 t) (hbk : t.bulk ≤ 1048576) (hF : TabF w) :
    Calls Tryz.prog 13 #[.agg #[c0]] w (OutD (fun v => .agg #[v]) (Lit.sd (normR t).ls) (normOk t) w) := by
  have HTF := hid hF
  by_cases hv : t.valid = true
  · obtain ⟨h1, h2⟩ := norm_yes hv
    rw [h1, h2]
    have HV := hid hv
    have HI := hid (normN_I 10 0 t (NormI.start hv) (by omega))
    obtain ⟨R, HR⟩ : ∃ R, Hid (normN 10 t = R) := ⟨_, hid rfl⟩
    obtain ⟨V, HVV⟩ : ∃ V, Hid (R.valid = V) := ⟨_, hid rfl⟩
    obtain ⟨R2, HR2⟩ : ∃ R2, Hid (ifCl R = R2) := ⟨_, hid rfl⟩
    rw [HR.out] at HI ⊢
    rw [HVV.out, HR2.out]
    clear hv h1 h2 hF
    obtain ⟨ta, tc, rfl⟩ := Cl.at_form ht
    have hW : Below w.heap.size w ((w.alloc (.cells #[.slice ta t.ls.length tc] 28)).alloc (.cells #[.slice none 0 0] 28)) := ((Below.refl _ _).alloc (Nat.le_refl _) _).alloc (by simp) _
    have bt : Box ((w.alloc (.cells #[.slice ta t.ls.length tc] 28)).alloc (.cells #[.slice none 0 0] 28)) (w.heap.size) [.slice ta t.ls.length tc] := by
      have := ((Box.new w [.slice ta t.ls.length tc] 28).alloc (.cells #[.slice none 0 0] 28))
      simpa only [World.size_alloc] using this
    have rb : Box ((w.alloc (.cells #[.slice ta t.ls.length tc] 28)).alloc (.cells #[.slice none 0 0] 28)) (w.heap.size + 1) [.slice none 0 0] := by
      have := (Box.new (w.alloc (.cells #[.slice ta t.ls.length tc] 28)) [.slice none 0 0] 28)
      simpa only [World.size_alloc] using this
    have rf : ∀ p, ((w.alloc (.cells #[.slice ta t.ls.length tc] 28)).alloc (.cells #[.slice none 0 0] 28)).frozen? ⟨w.heap.size + 1, p, none⟩ = false := fun p => World.frozen?_alloc_at _ _ _ p (by simp)
    replace ht := Cl.at_keep (Keeps.all hW) ht
    have et0 := bt.c0
    have lt := bt.lt
    have re0 := rb.c0
    have rf0 := rf 0
    have rl := rb.lt
    go_enter Tryz.func13, Tryz.ntmps13
    go_wp2_with fail
    clear et0 lt re0 rf0 rl
    have Hw0 : Hid (((w.alloc (.cells #[.slice ta t.ls.length tc] 28)).alloc (.cells #[.slice none 0 0] 28)).heap.size = w.heap.size + 1 + 1) := by simp [Hid]
    generalize ((w.alloc (.cells #[.slice ta t.ls.length tc] 28)).alloc (.cells #[.slice none 0 0] 28)) = w0 at *
    refine (impl_IsValidClause ht hbk).mono ?_
    rintro e w1 ⟨_, rfl, hb, rfl⟩
    replace hW := hW.trans (hb.mono hW.size)
    replace bt := bt.keep hb
    replace ht := Cl.at_keep (Keeps.all hb) ht
    replace rf := fun p => (hb.frozen (p := ⟨_, p, none⟩) rb.lt).trans (rf p)
    replace rb := rb.keep hb
    clear hb
    rw [HV.out]
    have et0 := bt.c0
    have lt := bt.lt
    have re0 := rb.c0
    have rf0 := rf 0
    have rl := rb.lt
    go_wp2_with fail
    clear et0 lt re0 rf0 rl
    have hq := normalize_any ht HV.out (TabF.keep HTF.out hW)
    rw [HR.out] at hq
    refine hq.mono ?_
    clear hq
    rintro e w2 ⟨v2, F, rfl, ho, hF, hb⟩
    have hzz := hW.size
    have hrr := rb.lt
    replace hW := hW.trans (hb.mono hW.size)
    replace bt := bt.keep hb
    replace ht := Cl.at_keep (Keeps.all hb) ht
    replace rf := fun p => (hb.frozen (p := ⟨_, p, none⟩) rb.lt).trans (rf p)
    replace rb := rb.keep hb
    have HF : Hid (∀ y ∈ F, w1.heap.size ≤ y) := hF
    have hbR := (HI.out.bulk (by omega)).1
    have hq := ifClause_any (t := R) ho (by omega)
    obtain ⟨a2, c2, rfl⟩ := Lit.sd_own_form ho
    rw [HVV.out, HR2.out] at hq
    have HQ := hid hq
    clear hb ho hF hq
    go_wp2_with fail
    refine HQ.out.mono ?_
    rintro e w3 ⟨v3, F3, rfl, ho, hs3, hb⟩
    replace hW := hW.trans (hb.mono hW.size)
    replace bt := bt.keep hb
    replace ht := Cl.at_keep (Keeps.all hb) ht
    replace rf := fun p => (hb.frozen (p := ⟨_, p, none⟩) rb.lt).trans (rf p)
    replace rb := rb.keep hb
    have nF : w.heap.size + 1 ∉ F3 := fun q => by have := HF.out _ (hs3 _ q); omega
    have HF3 : Hid (∀ y ∈ F3, w.heap.size ≤ y) := fun y hy => by have := HF.out _ (hs3 _ hy); omega
    obtain ⟨a3, c3, rfl⟩ := Lit.sd_own_form ho
    have HO := hid ho
    clear hb ho hs3 HQ
    have et0 := bt.c0
    have lt := bt.lt
    have re0 := rb.c0
    have rf0 := rf 0
    have rl := rb.lt
    go_wp2_with fail
    refine bodyPost_ret (v := .tuple #[.agg #[.slice a3 R2.ls.length c3], .bool V]) (by simp [results, Tryz.results13, go_sem, rb.c0]; try rfl) rfl ?_
    exact ⟨_, F3, rfl, D.own_keep _ _ _ ((Keeps.refl _ _).setCell (fun q _ => nF q) _) HO.out, HF3.out, hW.setCell (by simp) _⟩
  · have HV := hid (Bool.eq_false_iff.2 hv)
    obtain ⟨h1, h2⟩ := norm_no HV.out
    rw [h1, h2]
    clear hv h1 h2 hF
    obtain ⟨ta, tc, rfl⟩ := Cl.at_form ht
    have hW : Below w.heap.size w ((w.alloc (.cells #[.slice ta t.ls.length tc] 28)).alloc (.cells #[.slice none 0 0] 28)) := ((Below.refl _ _).alloc (Nat.le_refl _) _).alloc (by simp) _
    have bt : Box ((w.alloc (.cells #[.slice ta t.ls.length tc] 28)).alloc (.cells #[.slice none 0 0] 28)) (w.heap.size) [.slice ta t.ls.length tc] := by
      have := ((Box.new w [.slice ta t.ls.length tc] 28).alloc (.cells #[.slice none 0 0] 28))
      simpa only [World.size_alloc] using this
    have rb : Box ((w.alloc (.cells #[.slice ta t.ls.length tc] 28)).alloc (.cells #[.slice none 0 0] 28)) (w.heap.size + 1) [.slice none 0 0] := by
      have := (Box.new (w.alloc (.cells #[.slice ta t.ls.length tc] 28)) [.slice none 0 0] 28)
      simpa only [World.size_alloc] using this
    have rf : ∀ p, ((w.alloc (.cells #[.slice ta t.ls.length tc] 28)).alloc (.cells #[.slice none 0 0] 28)).frozen? ⟨w.heap.size + 1, p, none⟩ = false := fun p => World.frozen?_alloc_at _ _ _ p (by simp)
    replace ht := Cl.at_keep (Keeps.all hW) ht
    have et0 := bt.c0
    have lt := bt.lt
    have re0 := rb.c0
    have rf0 := rf 0
    have rl := rb.lt
    go_enter Tryz.func13, Tryz.ntmps13
    go_wp2_with fail
    clear et0 lt re0 rf0 rl
    have Hw0 : Hid (((w.alloc (.cells #[.slice ta t.ls.length tc] 28)).alloc (.cells #[.slice none 0 0] 28)).heap.size = w.heap.size + 1 + 1) := by simp [Hid]
    generalize ((w.alloc (.cells #[.slice ta t.ls.length tc] 28)).alloc (.cells #[.slice none 0 0] 28)) = w0 at *
    refine (impl_IsValidClause ht hbk).mono ?_
    rintro e w1 ⟨_, rfl, hb, rfl⟩
    replace hW := hW.trans (hb.mono hW.size)
    replace bt := bt.keep hb
    replace ht := Cl.at_keep (Keeps.all hb) ht
    replace rf := fun p => (hb.frozen (p := ⟨_, p, none⟩) rb.lt).trans (rf p)
    replace rb := rb.keep hb
    clear hb
    rw [HV.out]
    have et0 := bt.c0
    have lt := bt.lt
    have re0 := rb.c0
    have rf0 := rf 0
    have rl := rb.lt
    go_wp2_with fail
    refine bodyPost_ret (v := .tuple #[.agg #[.slice none 0 0], .bool false]) (by simp [results, Tryz.results13, go_sem, rb.c0]; try rfl) rfl ?_
    exact ⟨_, [], rfl, by rw [Lit.sd_css]; exact D.own_nil _ _, by simp, hW.setCell (by simp) _⟩
set_option maxHeartbeats 2000000 in
theorem spec_NormalizeClause {t : Cl} {S : Nat → Prop} {c0 : Value} {w : World} (ht : Cl.at S w c0 t) (hbk : t.bulk ≤ 1048576) :
    Calls Tryz.prog 12 #[.agg #[c0]] w (RdN (fun v => .agg #[v]) (Lit.sd (normR t).ls) (normOk t) w) := by
  by_cases hv : t.valid = true
  · obtain ⟨h1, h2⟩ := norm_yes hv
    have HV := hid hv
    have HOK := hid h1
    have HRR := hid h2
    obtain ⟨R, HR⟩ : ∃ R, Hid (normN 10 t = R) := ⟨_, hid rfl⟩
    rw [HR.out] at HOK HRR
    obtain ⟨V, HVV⟩ : ∃ V, Hid (R.valid = V) := ⟨_, hid rfl⟩
    rw [HVV.out] at HOK
    rw [HOK.out, HRR.out]
    clear hv h1 h2
    obtain ⟨ta, tc, rfl⟩ := Cl.at_form ht
    have hW : Below w.heap.size w ((w.alloc (.cells #[.slice ta t.ls.length tc] 28)).alloc (.cells #[.slice none 0 0] 28)) := ((Below.refl _ _).alloc (Nat.le_refl _) _).alloc (by simp) _
    have bt : Box ((w.alloc (.cells #[.slice ta t.ls.length tc] 28)).alloc (.cells #[.slice none 0 0] 28)) (w.heap.size) [.slice ta t.ls.length tc] := by
      have := ((Box.new w [.slice ta t.ls.length tc] 28).alloc (.cells #[.slice none 0 0] 28))
      simpa only [World.size_alloc] using this
    have rb : Box ((w.alloc (.cells #[.slice ta t.ls.length tc] 28)).alloc (.cells #[.slice none 0 0] 28)) (w.heap.size + 1) [.slice none 0 0] := by
      have := (Box.new (w.alloc (.cells #[.slice ta t.ls.length tc] 28)) [.slice none 0 0] 28)
      simpa only [World.size_alloc] using this
    have rf : ∀ p, ((w.alloc (.cells #[.slice ta t.ls.length tc] 28)).alloc (.cells #[.slice none 0 0] 28)).frozen? ⟨w.heap.size + 1, p, none⟩ = false := fun p => World.frozen?_alloc_at _ _ _ p (by simp)
    replace ht := Cl.at_keep (Keeps.all hW) ht
    have et0 := bt.c0
    have lt := bt.lt
    have re0 := rb.c0
    have rf0 := rf 0
    have rl := rb.lt
    go_enter Tryz.func12, Tryz.ntmps12
    go_wp2_with fail
    clear et0 lt re0 rf0 rl
    have Hw0 : Hid (((w.alloc (.cells #[.slice ta t.ls.length tc] 28)).alloc (.cells #[.slice none 0 0] 28)).heap.size = w.heap.size + 1 + 1) := by simp [Hid]
    generalize ((w.alloc (.cells #[.slice ta t.ls.length tc] 28)).alloc (.cells #[.slice none 0 0] 28)) = w0 at *
    refine (l7Good_any ht hbk).mono ?_
    rintro e w1 ⟨_, rfl, hb, rfl⟩
    replace hW := hW.trans (hb.mono hW.size)
    replace bt := bt.keep hb
    replace ht := Cl.at_keep (Keeps.all hb) ht
    replace rf := fun p => (hb.frozen (p := ⟨_, p, none⟩) rb.lt).trans (rf p)
    replace rb := rb.keep hb
    clear hb
    rw [HV.out]
    have et0 := bt.c0
    have lt := bt.lt
    have re0 := rb.c0
    have rf0 := rf 0
    have rl := rb.lt
    go_wp2_with fail
    clear et0 lt re0 rf0 rl
    have hq := l7Normal_any ht HV.out
    rw [HR.out, HVV.out] at hq
    refine hq.mono ?_
    clear hq
    rintro e w2 ⟨v2, rfl, hr2, hb⟩
    have hzz := hW.size
    have hrr := rb.lt
    replace hW := hW.trans (hb.mono hW.size)
    replace bt := bt.keep hb
    replace ht := Cl.at_keep (Keeps.all hb) ht
    replace rf := fun p => (hb.frozen (p := ⟨_, p, none⟩) rb.lt).trans (rf p)
    replace rb := rb.keep hb
    obtain ⟨a2, c2, rfl, -, -⟩ := Lit.sd_form hr2
    have HO := hid hr2
    have hz0 := Hw0.out
    clear hb hr2
    cases V with
    | true =>
      have HE : Hid (ifCl R = R) := by rw [Hid, ifCl, if_pos HVV.out]
      have et0 := bt.c0
      have lt := bt.lt
      have re0 := rb.c0
      have rf0 := rf 0
      have rl := rb.lt
      go_wp2_with fail
      have hz := cell_alloc (World.cell?_setCell_same w2 ⟨w.heap.size + 1, 0, none⟩ (.slice a2 R.ls.length c2) rb.c0) (.cells #[.slice a2 R.ls.length c2] 28)
      refine bodyPost_ret (v := .tuple #[.agg #[.slice a2 R.ls.length c2], .bool true]) (by simp [results, Tryz.results12, go_sem, hz]) rfl ?_
      refine ⟨_, rfl, ?_, (hW.setCell (by simp) _).alloc (by rw [World.size_setCell]; exact hW.size) _⟩
      rw [HE.out]
      exact D.rd_mono (fun x (hx : w1.heap.size ≤ x) => (by omega : w.heap.size ≤ x)) _ _ (D.rd_keep (((Keeps.refl _ _).setCell (fun (q : w1.heap.size ≤ w.heap.size + 1) _ => by omega) _).alloc _) _ _ HO.out)
    | false =>
      have HE : Hid (ifCl R = ⟨[]⟩) := by rw [Hid, ifCl, if_neg (by rw [HVV.out]; decide)]
      have et0 := bt.c0
      have lt := bt.lt
      have re0 := rb.c0
      have rf0 := rf 0
      have rl := rb.lt
      go_wp2_with fail
      have hz := cell_alloc (World.cell?_setCell_same w2 ⟨w.heap.size + 1, 0, none⟩ (.slice none 0 0) rb.c0) (.cells #[.slice a2 R.ls.length c2] 28)
      refine bodyPost_ret (v := .tuple #[.agg #[.slice none 0 0], .bool false]) (by simp [results, Tryz.results12, go_sem, hz]) rfl ?_
      exact ⟨_, rfl, by rw [HE.out]; exact rd_nilL, (hW.setCell (by simp) _).alloc (by rw [World.size_setCell]; exact hW.size) _⟩
  · have HV := hid (Bool.eq_false_iff.2 hv)
    obtain ⟨h1, h2⟩ := norm_no HV.out
    rw [h1, h2]
    clear hv h1 h2
    obtain ⟨ta, tc, rfl⟩ := Cl.at_form ht
    have hW : Below w.heap.size w ((w.alloc (.cells #[.slice ta t.ls.length tc] 28)).alloc (.cells #[.slice none 0 0] 28)) := ((Below.refl _ _).alloc (Nat.le_refl _) _).alloc (by simp) _
    have bt : Box ((w.alloc (.cells #[.slice ta t.ls.length tc] 28)).alloc (.cells #[.slice none 0 0] 28)) (w.heap.size) [.slice ta t.ls.length tc] := by
      have := ((Box.new w [.slice ta t.ls.length tc] 28).alloc (.cells #[.slice none 0 0] 28))
      simpa only [World.size_alloc] using this
    have rb : Box ((w.alloc (.cells #[.slice ta t.ls.length tc] 28)).alloc (.cells #[.slice none 0 0] 28)) (w.heap.size + 1) [.slice none 0 0] := by
      have := (Box.new (w.alloc (.cells #[.slice ta t.ls.length tc] 28)) [.slice none 0 0] 28)
      simpa only [World.size_alloc] using this
    have rf : ∀ p, ((w.alloc (.cells #[.slice ta t.ls.length tc] 28)).alloc (.cells #[.slice none 0 0] 28)).frozen? ⟨w.heap.size + 1, p, none⟩ = false := fun p => World.frozen?_alloc_at _ _ _ p (by simp)
    replace ht := Cl.at_keep (Keeps.all hW) ht
    have et0 := bt.c0
    have lt := bt.lt
    have re0 := rb.c0
    have rf0 := rf 0
    have rl := rb.lt
    go_enter Tryz.func12, Tryz.ntmps12
    go_wp2_with fail
    clear et0 lt re0 rf0 rl
    have Hw0 : Hid (((w.alloc (.cells #[.slice ta t.ls.length tc] 28)).alloc (.cells #[.slice none 0 0] 28)).heap.size = w.heap.size + 1 + 1) := by simp [Hid]
    generalize ((w.alloc (.cells #[.slice ta t.ls.length tc] 28)).alloc (.cells #[.slice none 0 0] 28)) = w0 at *
    refine (l7Good_any ht hbk).mono ?_
    rintro e w1 ⟨_, rfl, hb, rfl⟩
    replace hW := hW.trans (hb.mono hW.size)
    replace bt := bt.keep hb
    replace ht := Cl.at_keep (Keeps.all hb) ht
    replace rf := fun p => (hb.frozen (p := ⟨_, p, none⟩) rb.lt).trans (rf p)
    replace rb := rb.keep hb
    clear hb
    rw [HV.out]
    have et0 := bt.c0
    have lt := bt.lt
    have re0 := rb.c0
    have rf0 := rf 0
    have rl := rb.lt
    go_wp2_with fail
    refine bodyPost_ret (v := .tuple #[.agg #[.slice none 0 0], .bool false]) (by simp [results, Tryz.results12, go_sem, rb.c0]; try rfl) rfl ?_
    exact ⟨_, rfl, rd_nilL, hW.setCell (by simp) _⟩
end Go.Proofs.YtooocakkjdhfiaaGreatDoor
