/- Several texts in one file. -/
import Derived.Test.YtooocakkjdhfiaaGreatDoorQ16
import Derived.Test.YtooocakkjdhfiaaGreatDoorQ17
import Derived.Test.YtooocakkjdhfiaaGreatDoorQ19
import Derived.Test.YtooocakkjdhfiaaGreatDoorQ14
import Derived.Test.YtooocakkjdhfiaaGreatDoorQ15
import Derived.Test.YtooocakkjdhfiaaGreatDoorQ18
import Derived.Test.YtooocakkjdhfiaaGreatDoorQ04
/- The reference renames the variables of a clause. -/
namespace Go.Proofs.YtooocakkjdhfiaaGreatDoor
set_option maxRecDepth 100000
open Go.RowKit

set_option maxHeartbeats 4000000 in
theorem l7Rename_any (p : ByteArray) (ks : List ByteArray) (hp : p.size ≤ 1048576) (hks : ks.length ≤ 1000) {t : Cl} {S S' : Nat → Prop} {c0 kv : Value} {w : World} (ht : Cl.at S w c0 t) (hv : D.rd S' w kv (slOf strE ks)) (hbk : t.bulk ≤ 30000) (hbr : Lit.bulks (t.ls.map (renL p ks)) ≤ 30000) :
    Calls Tryz.prog 33 #[.agg #[c0], kv, .string p] w (RdCl (t.ls.map (renL p ks)) w) := by
  obtain ⟨ts⟩ := t
  rw [Cl.bulk] at hbk
  simp only at hbk hbr ⊢
  have HT := hid (D.rd_lt _ _ ht)
  obtain ⟨a, cap, rfl⟩ := Cl.at_form ht
  simp only at HT ⊢
  obtain ⟨va, vc, rfl, hvn, hvc⟩ := slOf_form hv
  obtain ⟨ms, Hms⟩ : ∃ ms, Hid (ts.map (renL p ks) = ms) := ⟨_, hid rfl⟩
  have hml : ms.length = ts.length := by rw [← Hms.out, List.length_map]
  have HMS : Hid (∀ k (h : k < ts.length) (h' : k < ms.length), ms[k] = renL p ks ts[k]) := fun k h h' => by
    have := Hms.out
    subst this
    simp
  rw [Hms.out] at hbr ⊢
  have HV := hid hv
  have HP := hid hp
  have HML := hid hml
  clear ht hp hml hv
  have hW : Below w.heap.size w (((w.alloc (.cells #[.slice a ts.length cap] 28)).alloc (.cells #[.slice none 0 0] 28)).alloc (.cells #[] 52)) := (((Below.refl _ _).alloc (Nat.le_refl _) _).alloc (by simp) _).alloc (by simp; omega) _
  have tb : Box (((w.alloc (.cells #[.slice a ts.length cap] 28)).alloc (.cells #[.slice none 0 0] 28)).alloc (.cells #[] 52)) w.heap.size [.slice a ts.length cap] := ((Box.new w [Value.slice a ts.length cap] 28).alloc _).alloc _
  have rb : Box (((w.alloc (.cells #[.slice a ts.length cap] 28)).alloc (.cells #[.slice none 0 0] 28)).alloc (.cells #[] 52)) (w.heap.size + 1) [.slice none 0 0] := by
    have := (Box.new (w.alloc (.cells #[.slice a ts.length cap] 28)) [Value.slice none 0 0] 28).alloc (.cells #[] 52)
    simpa only [World.size_alloc] using this
  have rf : (((w.alloc (.cells #[.slice a ts.length cap] 28)).alloc (.cells #[.slice none 0 0] 28)).alloc (.cells #[] 52)).frozen? ⟨w.heap.size + 1, 0, none⟩ = false := (World.frozen?_alloc_past _ _ 0 (by simp)).trans (World.frozen?_alloc_at _ _ _ 0 (by simp))
  have HZ : Hid ((((w.alloc (.cells #[.slice a ts.length cap] 28)).alloc (.cells #[.slice none 0 0] 28)).alloc (.cells #[] 52)).heap.size = w.heap.size + 1 + 1 + 1) := by simp [Hid]
  have HG0 : Hid (Gr (((w.alloc (.cells #[.slice a ts.length cap] 28)).alloc (.cells #[.slice none 0 0] 28)).alloc (.cells #[] 52)) (w.heap.size + 1 + 1) 52 3 (.slice (some ⟨w.heap.size + 1 + 1, 0, none⟩) 0 0) 0 [] []) := Gr.made _ _ (by simp) (by simp)
  go_enter Tryz.func33, Tryz.ntmps33
  go_wp2_with fail
  generalize (((w.alloc (.cells #[.slice a ts.length cap] 28)).alloc (.cells #[.slice none 0 0] 28)).alloc (.cells #[] 52)) = w0 at *
  have hz0 := HZ.out
  go_loopw [7, 8] (fun v i wr => ∃ (k : Nat) (F : List Nat), k ≤ ts.length ∧ i = .int .i64 k ∧ Hid (Gr wr (w.heap.size + 1 + 1) 52 3 v k (Lit.css (ms.take k)) F) ∧ w.heap.size + 1 + 1 + 1 ≤ wr.heap.size ∧ Hid (Below (w.heap.size + 1 + 1) w0 wr)) (fun _ i _ => ts.length - (intOf i).toNat)
  case atStart => exact ⟨0, [], Nat.zero_le _, rfl, by rw [List.take_zero]; exact HG0, by omega, Below.refl _ _⟩
  case round =>
    obtain ⟨k, F, hk, rfl, HG, hz, HB⟩ := hrel
    have HBW := hid (hW.trans (HB.out.mono (by omega)))
    have x0 := (HB.out.cell (p := ⟨w.heap.size, 0, none⟩) (by show w.heap.size < w.heap.size + 1 + 1; omega)).trans tb.c0
    have l0 : w.heap.size < wr.heap.size := by omega
    have hkI : (0 : Int) ≤ (k : Int) := by omega
    by_cases hlt : k < ts.length
    · have hne : ts ≠ [] := by intro e; subst e; simp at hlt
      obtain ⟨b, off, rfl, hS, hbl, hrr⟩ := Lit.sd_get HT.out hne
      obtain ⟨c0, c1, c2, q0, q1, q2, qx⟩ := hrr k hlt
      have hnl := Lit.name_leA qx
      have hbm : ts[k].atom.bulk ≤ 1048576 := by have := Lit.bulk_memA (List.getElem_mem hlt); omega
      have hE := hid (Lit.at_atom (Lit.at_keep (Keeps.all HBW.out) qx))
      obtain ⟨rfl, rfl, x, xc, rfl⟩ := Lit.at_form qx
      replace q0 := (HBW.out.cell (p := ⟨b, off + k * 3, none⟩) hbl).trans q0
      replace q1 := (HBW.out.cell (p := ⟨b, off + k * 3 + 1, none⟩) hbl).trans q1
      replace q2 : wr.cell? ⟨b, off + k * 3 + 1 + 1, none⟩ = some (.slice x ts[k].atom.args.length xc) := (HBW.out.cell (p := ⟨b, off + k * 3 + 2, none⟩) hbl).trans q2
      have hbr2 := Nat.lt_of_lt_of_le hbl HBW.out.size
      obtain ⟨r, Hr⟩ : ∃ r, Hid (u7.ownBlock = r) := ⟨_, hid rfl⟩
      have HL : Hid (∀ y, r = some y → w.heap.size + 1 + 1 ≤ y ∧ y < wr.heap.size) := fun y hy => HG.out.lt y (Hr.out.trans hy)
      have nb : ¬ r = some b := fun e => by have := HL.out _ e; omega
      have nt : ¬ r = some w.heap.size := fun e => by have := HL.out _ e; omega
      have HVR := hid (D.rd_keep (Keeps.all HBW.out) _ _ HV.out)
      obtain ⟨R, HRK⟩ : ∃ R, Hid (Tm.ren p ks ts[k].atom = R) := ⟨_, hid rfl⟩
      have hRn : R.name.size ≤ maxLen := by
        have := ren_name p (show ks.length ≤ 999999 by omega) ts[k].atom
        rw [HRK.out] at this
        have := Tm.name_bulk ts[k].atom
        have := HP.out
        unfold maxLen
        omega
      have hBb : w.heap.size + 1 + 1 ≤ wr.heap.size := by omega
      clear hrr qx
      go_wp2_with fail
      refine region_late (l := [_, _, _, _, _, _, _, _, _, _, _, _, _, _, _, _, _, _, _, _]) (tl := []) (S := fun w1 => (wr).grownBy w1 (r)) (n := 20) rfl rfl (by kernel_rfl) (by kernel_rfl) (grown_of_below ((Below.refl _ _).drew) _) (fun hQL hS => ?_)
      refine late_take (i := 0) (d := some 17) (v := u7) rfl rfl (by kernel_rfl) (by kernel_rfl) (by kernel_rfl) hQL (by rfl) (fun w1 _ => (by go_simp)) hS ?_
      try simp only [Act.put, List.setIfInBounds_toArray, List.set_cons_zero, List.set_cons_succ]
      refine late_take (i := 1) (d := some 18) (v := .pointer (some ⟨w.heap.size, 0, none⟩)) rfl rfl (by kernel_rfl) (by kernel_rfl) (by kernel_rfl) hQL (by rfl) (fun w1 _ => (by go_simp)) hS ?_
      try simp only [Act.put, List.setIfInBounds_toArray, List.set_cons_zero, List.set_cons_succ]
      refine late_take (i := 2) (d := some 19) (v := .slice (some ⟨b, off, none⟩) ts.length cap) rfl rfl (by kernel_rfl) (by kernel_rfl) (by kernel_rfl) hQL (by rfl) (fun w1 hS1 => (by obtain ⟨hc, hf⟩ := bcellG hS1; go_simp)) hS ?_
      try simp only [Act.put, List.setIfInBounds_toArray, List.set_cons_zero, List.set_cons_succ]
      refine late_take (i := 3) (d := some 20) (v := .int .i64 k) rfl rfl (by kernel_rfl) (by kernel_rfl) (by kernel_rfl) hQL (by rfl) (fun w1 _ => (by go_simp)) hS ?_
      try simp only [Act.put, List.setIfInBounds_toArray, List.set_cons_zero, List.set_cons_succ]
      refine late_take (i := 4) (d := some 21) (v := .pointer (some ⟨b, off + k * 3, none⟩)) rfl rfl (by kernel_rfl) (by kernel_rfl) (by kernel_rfl) hQL (by rfl) (fun w1 _ => (by go_simp)) hS ?_
      try simp only [Act.put, List.setIfInBounds_toArray, List.set_cons_zero, List.set_cons_succ]
      refine late_take (i := 5) (d := some 22) (v := .pointer (some ⟨b, off + k * 3, none⟩)) rfl rfl (by kernel_rfl) (by kernel_rfl) (by kernel_rfl) hQL (by rfl) (fun w1 _ => (by go_simp)) hS ?_
      try simp only [Act.put, List.setIfInBounds_toArray, List.set_cons_zero, List.set_cons_succ]
      refine late_take (i := 6) (d := some 23) (v := .bool ts[k].pos) rfl rfl (by kernel_rfl) (by kernel_rfl) (by kernel_rfl) hQL (by rfl) (fun w1 hS1 => (by obtain ⟨hc, hf⟩ := bcellG hS1; go_simp)) hS ?_
      try simp only [Act.put, List.setIfInBounds_toArray, List.set_cons_zero, List.set_cons_succ]
      refine late_take (i := 7) (d := some 24) (v := .pointer (some ⟨w.heap.size, 0, none⟩)) rfl rfl (by kernel_rfl) (by kernel_rfl) (by kernel_rfl) hQL (by rfl) (fun w1 _ => (by go_simp)) hS ?_
      try simp only [Act.put, List.setIfInBounds_toArray, List.set_cons_zero, List.set_cons_succ]
      refine late_take (i := 8) (d := some 25) (v := .slice (some ⟨b, off, none⟩) ts.length cap) rfl rfl (by kernel_rfl) (by kernel_rfl) (by kernel_rfl) hQL (by rfl) (fun w1 hS1 => (by obtain ⟨hc, hf⟩ := bcellG hS1; go_simp)) hS ?_
      try simp only [Act.put, List.setIfInBounds_toArray, List.set_cons_zero, List.set_cons_succ]
      refine late_take (i := 9) (d := some 26) (v := .int .i64 k) rfl rfl (by kernel_rfl) (by kernel_rfl) (by kernel_rfl) hQL (by rfl) (fun w1 _ => (by go_simp)) hS ?_
      try simp only [Act.put, List.setIfInBounds_toArray, List.set_cons_zero, List.set_cons_succ]
      refine late_take (i := 10) (d := some 27) (v := .pointer (some ⟨b, off + k * 3, none⟩)) rfl rfl (by kernel_rfl) (by kernel_rfl) (by kernel_rfl) hQL (by rfl) (fun w1 _ => (by go_simp)) hS ?_
      try simp only [Act.put, List.setIfInBounds_toArray, List.set_cons_zero, List.set_cons_succ]
      refine late_take (i := 11) (d := some 28) (v := .pointer (some ⟨b, off + k * 3 + 1, none⟩)) rfl rfl (by kernel_rfl) (by kernel_rfl) (by kernel_rfl) hQL (by rfl) (fun w1 _ => (by go_simp)) hS ?_
      try simp only [Act.put, List.setIfInBounds_toArray, List.set_cons_zero, List.set_cons_succ]
      refine late_take (i := 12) (d := some 29) (v := .agg #[.string ts[k].atom.name, .slice x ts[k].atom.args.length xc]) rfl rfl (by kernel_rfl) (by kernel_rfl) (by kernel_rfl) hQL (by rfl) (fun w1 hS1 => (by obtain ⟨hc, hf⟩ := bcellG hS1; go_simp)) hS ?_
      try simp only [Act.put, List.setIfInBounds_toArray, List.set_cons_zero, List.set_cons_succ]
      refine late_take (i := 13) (d := some 30) (v := .slice va ks.length vc) rfl rfl (by kernel_rfl) (by kernel_rfl) (by kernel_rfl) hQL (by rfl) (fun w1 _ => (by go_simp)) hS ?_
      try simp only [Act.put, List.setIfInBounds_toArray, List.set_cons_zero, List.set_cons_succ]
      refine late_take (i := 14) (d := some 31) (v := .string p) rfl rfl (by kernel_rfl) (by kernel_rfl) (by kernel_rfl) hQL (by rfl) (fun w1 _ => (by go_simp)) hS ?_
      try simp only [Act.put, List.setIfInBounds_toArray, List.set_cons_zero, List.set_cons_succ]
      refine wpAnyH_ready (rs := [15]) (by kernel_rfl) (by simp) ?_
      refine AllReadyH.cons rfl (fun K hK => ?_) AllReadyH.nil
      refine step_does rfl ?_
      unfold Does
      go_simp
      go_at_call 54
      have hq := renS_any p ks HP.out (by omega) ts[k].atom _ _ _ _ _ _ (Tm.at_keep (Keeps.all ((Below.refl _ _).drew)) hE.out) (D.rd_keep (Keeps.all ((Below.refl _ _).drew)) _ _ HVR.out) hbm
      rw [HRK.out] at hq
      refine hq.mono ?_
      clear hq
      rintro e wc ⟨v1, G, rfl, ho, hG, hb1⟩
      obtain ⟨a1, cap1, rfl⟩ := Tm.sd_own_form ho
      have HO := hid ho
      have HGG : Hid (∀ y ∈ G, wr.heap.size ≤ y) := hG
      have HG1 := hid (HG.out.keep (Below.trans ((Below.refl _ _).drew) (hb1.mono (Nat.le_refl _))))
      have hz2 : wr.heap.size ≤ wc.heap.size := hb1.size
      clear ho hG
      refine ⟨_, rfl, ?_⟩
      refine hK.out _ _ (World.grownBy.trans hS (grown_of_below hb1 _)) (fun hS => ?_)
      try show wpAnyH _ _ _ _ _ _ _ (Act.put _ (some 32) _) _
      try simp only [Act.put, List.setIfInBounds_toArray, List.set_cons_zero, List.set_cons_succ]
      refine late_take (i := 16) (d := some 33) (v := .agg #[.bool ts[k].pos, .string R.name, .slice a1 R.args.length cap1]) rfl rfl (by kernel_rfl) (by kernel_rfl) (by kernel_rfl) hQL (by rfl) (fun w1 _ => (by go_simp)) hS ?_
      try simp only [Act.put, List.setIfInBounds_toArray, List.set_cons_zero, List.set_cons_succ]
      refine wpAnyH_ready (rs := [17]) (by kernel_rfl) (by simp) ?_
      refine AllReadyH.cons rfl (fun K hK => ?_) AllReadyH.nil
      go_simp
      refine hK.out _ _ (World.grownBy.trans hS (World.grownBy_alloc _ _ _)) (fun hS => ?_)
      try show wpAnyH _ _ _ _ _ _ _ (Act.put _ (some 34) _) _
      try simp only [Act.put, List.setIfInBounds_toArray, List.set_cons_zero, List.set_cons_succ]
      refine wpAnyH_ready (rs := [18]) (by kernel_rfl) (by simp) ?_
      refine AllReadyH.cons rfl (fun K hK => ?_) AllReadyH.nil
      refine step_append_gr (news := [.bool ts[k].pos, .string R.name, .slice a1 R.args.length cap1]) (G := G) (ds := (Lit.cs ⟨ts[k].pos, R⟩)) Tryz.underlying26 infoLitI rfl (by decide) (by decide) rfl _ _ (by rfl) (by rfl) (by rfl) (HG1.out.keep ((Below.refl _ _).alloc (Nat.le_refl _) _)) rfl (by intro j u hj; rw [box1]; simpa using hj) (by simp [Value.oneCell']) ((Lit.own_item (x := ⟨ts[k].pos, R⟩) hRn HO.out).keep (Keeps.all ((Below.refl _ _).alloc (Nat.le_refl _) _))) (fun y hy => by have := HGG.out y hy; omega) (fun y hy hy' => by have := HGG.out y hy'; have := HG.out.ltF y hy; omega) (fun y hy hy' => by have := HGG.out y hy'; have := HG.out.lt y hy; omega) (by omega) (by simp; omega) ?_
      intro g capg wg hg hgr hgo hglt
      rw [Hr.out] at hgr
      refine hK.out _ _ (World.grownBy.trans hS hgr) (fun hS => ?_)
      try show wpAnyH _ _ _ _ _ _ _ (Act.put _ (some 35) _) _
      try simp only [Act.put, List.setIfInBounds_toArray, List.set_cons_zero, List.set_cons_succ]
      refine late_take (i := 19) (d := some 7) (v := .slice (some ⟨g, 0, none⟩) (k + 1) capg) rfl rfl (by kernel_rfl) (by kernel_rfl) (by kernel_rfl) hQL (by rfl) (fun w1 _ => (by go_simp)) hS ?_
      try simp only [Act.put, List.setIfInBounds_toArray, List.set_cons_zero, List.set_cons_succ]
      refine wpAnyH_done (by kernel_rfl) ?_ _
      show wpTail _ _ _ _ _
      refine wpTail_nil ?_
      have hgz := hS.size
      have HBg : Hid (Below (w.heap.size + 1 + 1) wr wg) := (Below.refl _ _).grown hS (by omega) (fun y hy => by have := HL.out y hy; omega)
      have HG2 := hid hg
      clear hg hgr hgo hglt hS
      go_wp2_with fail
      go_roundw
      case rel =>
        refine ⟨k + 1, F ++ G, by omega, by go_num, hid ?_, by omega, hid ?_⟩
        · have hlm : k < ms.length := by have := HML.out; omega
          rw [Lit.css_take_succ ms k hlm, ← Lit.cs_eq, HMS.out k hlt hlm, renL, HRK.out]
          exact HG2.out
        · exact HB.out.trans HBg.out
      case measure => simp [intOf]; omega
    · obtain rfl : k = ts.length := by omega
      have HG' := HG.out
      rw [← HML.out, List.take_length] at HG'
      obtain ⟨Gf, hO, hGf⟩ := HG'.own (by decide)
      rw [← Lit.sd_css] at hO
      have hq := hid (l7Make_any (D.own_rd _ _ _ hO) (by have := HML.out; omega))
      have r0 : wr.cell? ⟨w.heap.size + 1, 0, none⟩ = some (.slice none 0 0) := (HB.out.cell (p := ⟨w.heap.size + 1, 0, none⟩) (by show w.heap.size + 1 < w.heap.size + 1 + 1; omega)).trans rb.c0
      have r1 : wr.frozen? ⟨w.heap.size + 1, 0, none⟩ = false := (HB.out.frozen (p := ⟨w.heap.size + 1, 0, none⟩) (by show w.heap.size + 1 < w.heap.size + 1 + 1; omega)).trans rf
      have hqn : ¬ (ts.length : Int) < (ts.length : Int) := by omega
      clear hO hGf HG'
      go_wp2_with fail
      refine hq.out.mono ?_
      rintro e w1 ⟨v1, rfl, hr1, hb1⟩
      obtain ⟨a2, cap2, rfl, -, -⟩ := Lit.sd_form hr1
      replace r0 := (hb1.cell (p := ⟨w.heap.size + 1, 0, none⟩) (by show w.heap.size + 1 < _; omega)).trans r0
      replace r1 := (hb1.frozen (p := ⟨w.heap.size + 1, 0, none⟩) (by show w.heap.size + 1 < _; omega)).trans r1
      have HBW1 := hid (HBW.out.trans (hb1.mono HBW.out.size))
      have HR1 := hid hr1
      have l1 : w.heap.size + 1 < w1.heap.size := by have := hb1.size; omega
      clear hq hr1 hb1
      go_wp2_with fail
      refine bodyPost_ret (v := .agg #[.slice a2 (makeL ms).length cap2]) (by simp [results, Tryz.results33, go_sem, r0]) rfl ?_
      refine ⟨_, rfl, ?_, HBW1.out.setCell (by simp) _⟩
      exact D.rd_mono (fun y (hy : wr.heap.size ≤ y) => (by omega : w.heap.size ≤ y)) _ _ (D.rd_keep ((Keeps.refl _ _).setCell (fun (q : wr.heap.size ≤ w.heap.size + 1) _ => by omega) _) _ _ HR1.out)
end Go.Proofs.YtooocakkjdhfiaaGreatDoor
/- Is a clause normalized: the reference's. -/
namespace Go.Proofs.YtooocakkjdhfiaaGreatDoor
set_option maxRecDepth 100000
open Go.RowKit

set_option maxHeartbeats 2000000 in
theorem l7IsNormal_any (t : Cl) {S : Nat → Prop} {c0 : Value} {w : World} (ht : Cl.at S w c0 t) (hbk : t.bulk ≤ 1048576) (hlf : ∀ a ∈ t.atoms, a.leafy) (hk : (Tm.colls t.atoms []).length ≤ 999999) :
    Calls Tryz.prog 16 #[.agg #[c0]] w (Gives w (.bool (normK (Tm.colls t.atoms [])))) := by
  obtain ⟨ks, Hks⟩ : ∃ ks, Hid (Tm.colls t.atoms [] = ks) := ⟨_, hid rfl⟩
  rw [Hks.out] at hk ⊢
  obtain ⟨ta, tc, rfl⟩ := Cl.at_form ht
  have hW : Below w.heap.size w (w.alloc (.cells #[.slice ta t.ls.length tc] 28)) := (Below.refl _ _).alloc (Nat.le_refl _) _
  have bt : Box (w.alloc (.cells #[.slice ta t.ls.length tc] 28)) (w.heap.size) [.slice ta t.ls.length tc] := by
    have := (Box.new w [.slice ta t.ls.length tc] 28)
    simpa only [World.size_alloc] using this
  replace ht := Cl.at_keep (Keeps.all hW) ht
  have et0 := bt.c0
  have lt := bt.lt
  go_enter Tryz.func16, Tryz.ntmps16
  go_wp2_with fail
  clear et0 lt
  have Hw0 : Hid ((w.alloc (.cells #[.slice ta t.ls.length tc] 28)).heap.size = w.heap.size + 1) := by simp [Hid]
  generalize (w.alloc (.cells #[.slice ta t.ls.length tc] 28)) = w0 at *
  have hq := l7Order_any t ht hbk hlf
  rw [Hks.out] at hq
  refine hq.mono ?_
  clear hq
  rintro e wn ⟨g, cap, rfl, hg, hb⟩
  replace hW := hW.trans (hb.mono hW.size)
  have HRD := hid hg.rd
  have HW := hid hW
  clear hg hb hW
  go_wp2_with fail
  go_loopw [4] (fun i wr => ∃ k : Nat, k ≤ ks.length ∧ i = .int .i64 k ∧ Hid (∀ j (h : j < ks.length), j < k → ks[j] = numS ⟨#[88]⟩ j) ∧ Hid (Below wn.heap.size wn wr)) (fun i _ => ks.length - (intOf i).toNat)
  case atStart => exact ⟨0, Nat.zero_le _, rfl, fun j h h' => absurd h' (by omega), Below.refl _ _⟩
  case round =>
    obtain ⟨k, hk2, rfl, HX, HB⟩ := hrel
    have hkI : (0 : Int) ≤ (k : Int) := by omega
    have HBW := hid (HW.out.trans (HB.out.mono HW.out.size))
    by_cases hlt : k < ks.length
    · obtain ⟨b, off, e, -, hbl, hrr⟩ := strs_get (D.rd_keep (Keeps.all HB.out) _ _ HRD.out) (by intro e; subst e; simp at hlt)
      injection e with e
      injection e with e1 e2
      subst e1 e2
      obtain ⟨q0, -⟩ := hrr k hlt
      rw [Nat.zero_add] at q0
      clear hrr
      have hz := itoaB_size (n := (k : Int)) (by omega) (by omega)
      have g4 : ¬ 9223372036854775807 < 1 + (itoaB (k : Int)).size := by omega
      have hnum := l1Num_any (k : Int) (by omega) (by omega)
      have hbr := Nat.lt_of_lt_of_le hbl (Nat.le_refl _)
      by_cases he : ks[k] = numS ⟨#[88]⟩ k
      · have HZ : Hid (∀ j (h : j < ks.length), j < k + 1 → ks[j] = numS ⟨#[88]⟩ j) := fun j h h' => by
          by_cases hjk : j < k
          · exact HX.out j h hjk
          · obtain rfl : j = k := by omega
            exact he
        have hq := show (ks[k].toList == (ByteArray.mk #[88] ++ itoaB (k : Int)).toList) = true by rw [he, numS]; simp
        clear he
        go_wp2_with fail
        refine wp_region_B [fun v _ => v = .slice (some ⟨g, 0, none⟩) ks.length cap, fun v _ => v = .int .i64 k, fun v _ => v = .pointer (some ⟨g, k, none⟩), fun v _ => v = .string ks[k], fun v _ => v = .int .i64 k, fun v _ => v = .string (itoaB (k : Int)), fun v _ => v = .string (⟨#[88]⟩ ++ itoaB (k : Int)), fun v _ => v = .bool false] _ (fun V => by simp [putAll, Act.put]; rfl) (by kernel_rfl) (by decide) (by simp) (by kernel_rfl) ?_ ?_ ?_
        · intro F hF
          simp only [List.mem_cons, List.not_mem_nil, or_false] at hF
          rcases hF with rfl | rfl | rfl | rfl | rfl | rfl | rfl | rfl
          · exact stable_eq
          · exact stable_eq
          · exact stable_eq
          · exact stable_eq
          · exact stable_eq
          · exact stable_eq
          · exact stable_eq
          · exact stable_eq
        · refine ⟨?_, ?_, ?_, ?_, ?_, ?_, ?_, ?_, trivial⟩
          · intro V w1 hbR _
            unfold Does
            go_simp
            exact ⟨Below.refl _ _, rfl⟩
          · intro V w1 hbR _
            unfold Does
            go_simp
            exact ⟨Below.refl _ _, rfl⟩
          · intro V w1 hbR ⟨f0, f1, _⟩
            replace f0 : V 0 = .slice (some ⟨g, 0, none⟩) ks.length cap := f0
            replace f1 : V 1 = .int .i64 k := f1
            unfold Does
            go_simp
            exact ⟨Below.refl _ _, rfl⟩
          · intro V w1 hbR ⟨f2, _⟩
            replace f2 : V 2 = .pointer (some ⟨g, k, none⟩) := f2
            obtain ⟨hc, hf⟩ := bcell hbR
            try simp only [World.size_alloc, World.size_setCell] at hc hf
            unfold Does
            go_simp
            exact ⟨Below.refl _ _, rfl⟩
          · intro V w1 hbR _
            unfold Does
            go_simp
            exact ⟨Below.refl _ _, rfl⟩
          · intro V w1 hbR ⟨f4, _⟩
            replace f4 : V 4 = .int .i64 k := f4
            obtain ⟨hc, hf⟩ := bcell hbR
            try simp only [World.size_alloc, World.size_setCell] at hc hf
            unfold Does
            go_simp
            exact hnum w1
          · intro V w1 hbR ⟨f5, _⟩
            replace f5 : V 5 = .string (itoaB (k : Int)) := f5
            unfold Does
            go_simp
            exact ⟨Below.refl _ _, rfl⟩
          · intro V w1 hbR ⟨f3, f6, _⟩
            replace f3 : V 3 = .string ks[k] := f3
            replace f6 : V 6 = .string (⟨#[88]⟩ ++ itoaB (k : Int)) := f6
            unfold Does
            go_simp
            exact ⟨Below.refl _ _, rfl⟩
        intro V w3 hbR hfR
        obtain ⟨f0, f1, f2, f3, f4, f5, f6, f7, _⟩ := hfR
        replace f0 : V 0 = .slice (some ⟨g, 0, none⟩) ks.length cap := f0
        replace f1 : V 1 = .int .i64 k := f1
        replace f2 : V 2 = .pointer (some ⟨g, k, none⟩) := f2
        replace f3 : V 3 = .string ks[k] := f3
        replace f4 : V 4 = .int .i64 k := f4
        replace f5 : V 5 = .string (itoaB (k : Int)) := f5
        replace f6 : V 6 = .string (⟨#[88]⟩ ++ itoaB (k : Int)) := f6
        replace f7 : V 7 = .bool false := f7
        simp only [f0, f1, f2, f3, f4, f5, f6, f7]
        clear f0 f1 f2 f3 f4 f5 f6 f7
        have HB2 := hid (HB.out.trans (hbR.mono HB.out.size))
        go_wp2_with fail
        go_roundw
        case rel => exact ⟨k + 1, by omega, by go_num, HZ, HB2⟩
        case measure => simp [intOf]; omega
      · have HV : Hid (normK ks = false) := by
          rw [Hid, Bool.eq_false_iff, Ne, normK_iff]; intro h; exact he (h k hlt)
        have hq : (ks[k].toList == (ByteArray.mk #[88] ++ itoaB (k : Int)).toList) = false := toList_ne he
        clear he
        go_wp2_with fail
        refine wp_region_B [fun v _ => v = .slice (some ⟨g, 0, none⟩) ks.length cap, fun v _ => v = .int .i64 k, fun v _ => v = .pointer (some ⟨g, k, none⟩), fun v _ => v = .string ks[k], fun v _ => v = .int .i64 k, fun v _ => v = .string (itoaB (k : Int)), fun v _ => v = .string (⟨#[88]⟩ ++ itoaB (k : Int)), fun v _ => v = .bool true] _ (fun V => by simp [putAll, Act.put]; rfl) (by kernel_rfl) (by decide) (by simp) (by kernel_rfl) ?_ ?_ ?_
        · intro F hF
          simp only [List.mem_cons, List.not_mem_nil, or_false] at hF
          rcases hF with rfl | rfl | rfl | rfl | rfl | rfl | rfl | rfl
          · exact stable_eq
          · exact stable_eq
          · exact stable_eq
          · exact stable_eq
          · exact stable_eq
          · exact stable_eq
          · exact stable_eq
          · exact stable_eq
        · refine ⟨?_, ?_, ?_, ?_, ?_, ?_, ?_, ?_, trivial⟩
          · intro V w1 hbR _
            unfold Does
            go_simp
            exact ⟨Below.refl _ _, rfl⟩
          · intro V w1 hbR _
            unfold Does
            go_simp
            exact ⟨Below.refl _ _, rfl⟩
          · intro V w1 hbR ⟨f0, f1, _⟩
            replace f0 : V 0 = .slice (some ⟨g, 0, none⟩) ks.length cap := f0
            replace f1 : V 1 = .int .i64 k := f1
            unfold Does
            go_simp
            exact ⟨Below.refl _ _, rfl⟩
          · intro V w1 hbR ⟨f2, _⟩
            replace f2 : V 2 = .pointer (some ⟨g, k, none⟩) := f2
            obtain ⟨hc, hf⟩ := bcell hbR
            try simp only [World.size_alloc, World.size_setCell] at hc hf
            unfold Does
            go_simp
            exact ⟨Below.refl _ _, rfl⟩
          · intro V w1 hbR _
            unfold Does
            go_simp
            exact ⟨Below.refl _ _, rfl⟩
          · intro V w1 hbR ⟨f4, _⟩
            replace f4 : V 4 = .int .i64 k := f4
            obtain ⟨hc, hf⟩ := bcell hbR
            try simp only [World.size_alloc, World.size_setCell] at hc hf
            unfold Does
            go_simp
            exact hnum w1
          · intro V w1 hbR ⟨f5, _⟩
            replace f5 : V 5 = .string (itoaB (k : Int)) := f5
            unfold Does
            go_simp
            exact ⟨Below.refl _ _, rfl⟩
          · intro V w1 hbR ⟨f3, f6, _⟩
            replace f3 : V 3 = .string ks[k] := f3
            replace f6 : V 6 = .string (⟨#[88]⟩ ++ itoaB (k : Int)) := f6
            unfold Does
            go_simp
            exact ⟨Below.refl _ _, rfl⟩
        intro V w3 hbR hfR
        obtain ⟨f0, f1, f2, f3, f4, f5, f6, f7, _⟩ := hfR
        replace f0 : V 0 = .slice (some ⟨g, 0, none⟩) ks.length cap := f0
        replace f1 : V 1 = .int .i64 k := f1
        replace f2 : V 2 = .pointer (some ⟨g, k, none⟩) := f2
        replace f3 : V 3 = .string ks[k] := f3
        replace f4 : V 4 = .int .i64 k := f4
        replace f5 : V 5 = .string (itoaB (k : Int)) := f5
        replace f6 : V 6 = .string (⟨#[88]⟩ ++ itoaB (k : Int)) := f6
        replace f7 : V 7 = .bool true := f7
        simp only [f0, f1, f2, f3, f4, f5, f6, f7]
        clear f0 f1 f2 f3 f4 f5 f6 f7
        have HB2 := hid (HBW.out.trans (hbR.mono HBW.out.size))
        go_wp2_with fail
        go_ret
        exact Gives.mk (by rw [HV.out]; rfl) HB2.out
    · obtain rfl : k = ks.length := by omega
      have HV : Hid (normK ks = true) := (normK_iff ks).2 fun i h => HX.out i h h
      go_wp2_with fail
      go_ret
      exact Gives.mk (by rw [HV.out]; rfl) HBW.out
end Go.Proofs.YtooocakkjdhfiaaGreatDoor
/- RenameApart: the program's and the reference's. -/
namespace Go.Proofs.YtooocakkjdhfiaaGreatDoor
set_option maxRecDepth 100000
open Go.RowKit

theorem ext_tail (c : UInt8) (b : ByteArray) : ((⟨#[c]⟩ : ByteArray) ++ b).extract 1 (1 + b.size) = b := by
  apply ByteArray.ext
  rw [ByteArray.data_extract, ByteArray.data_append]
  apply Array.toList_inj.1
  rw [Array.toList_extract, List.extract_eq_take_drop, Array.toList_append]
  show List.take (1 + b.size - 1) b.data.toList = b.data.toList
  have h : 1 + b.size - 1 = b.data.toList.length := by rw [Array.length_toList]; show 1 + b.size - 1 = b.size; omega
  rw [h, List.take_length]
theorem numS_tail (k : Nat) : (numS ⟨#[88]⟩ k).extract 1 (numS ⟨#[88]⟩ k).size = itoaB (k : Int) := by
  have hz : (numS ⟨#[88]⟩ k).size = 1 + (itoaB (k : Int)).size := by rw [numS, ByteArray.size_append]; rfl
  rw [hz, numS]
  exact ext_tail 88 _
set_option maxHeartbeats 2000000 in
theorem isNormal_any {t : Cl} {S : Nat → Prop} {c0 : Value} {w : World} (hT : Cl.at S w c0 t) (hbk : t.bulk ≤ 1048576) (hF : TabF w) :
    Calls Tryz.prog 19 #[.agg #[c0]] w (Gives w (.bool (apartOk t))) := by
  have HTF := hid hF
  clear hF
  by_cases hv : t.valid = true
  · have HE : Hid (apartOk t = normK (Tm.colls t.atoms [])) := by rw [Hid, apartOk, hv]; rfl
    have HI := hid (NormI.start hv)
    rw [HE.out]
    obtain ⟨a, cap, rfl⟩ := Cl.at_form hT
    have hW : Below w.heap.size w (w.alloc (.cells #[.slice a t.ls.length cap] 28)) := (Below.refl _ _).alloc (Nat.le_refl _) _
    have bT : Box (w.alloc (.cells #[.slice a t.ls.length cap] 28)) w.heap.size [.slice a t.ls.length cap] := Box.new w _ _
    replace hT := Cl.at_keep (Keeps.all hW) hT
    go_enter Tryz.func19, Tryz.ntmps19
    go_wp2_with fail
    generalize (w.alloc (.cells #[.slice a t.ls.length cap] 28)) = w0 at *
    refine (impl_IsValidClause hT hbk).mono ?_
    rintro e w1 ⟨_, rfl, hb, rfl⟩
    replace hW := hW.trans (hb.mono hW.size)
    replace bT := bT.keep hb
    replace hT := Cl.at_keep (Keeps.all hb) hT
    clear hb
    rw [hv]
    have eT0 := bT.c0
    have lT := bT.lt
    go_wp2_with fail
    clear eT0 lT
    clear hv
    refine (isNormalized_any t hT hbk HI.out.nice (by have := HI.out.names; rw [Cl.names] at this; omega) (TabF.keep HTF.out hW)).mono ?_
    rintro e w1 ⟨_, rfl, hb, rfl⟩
    replace hW := hW.trans (hb.mono hW.size)
    replace bT := bT.keep hb
    replace hT := Cl.at_keep (Keeps.all hb) hT
    clear hb
    have eT0 := bT.c0
    have lT := bT.lt
    go_wp2_with fail
    clear eT0 lT
    go_ret
    exact Gives.mk rfl hW
  · have HE : Hid (apartOk t = false) := (apart_no (fun q => hv q.1)).1
    replace hv : t.valid = false := by simpa using hv
    rw [HE.out]
    obtain ⟨a, cap, rfl⟩ := Cl.at_form hT
    have hW : Below w.heap.size w (w.alloc (.cells #[.slice a t.ls.length cap] 28)) := (Below.refl _ _).alloc (Nat.le_refl _) _
    have bT : Box (w.alloc (.cells #[.slice a t.ls.length cap] 28)) w.heap.size [.slice a t.ls.length cap] := Box.new w _ _
    replace hT := Cl.at_keep (Keeps.all hW) hT
    go_enter Tryz.func19, Tryz.ntmps19
    go_wp2_with fail
    generalize (w.alloc (.cells #[.slice a t.ls.length cap] 28)) = w0 at *
    refine (impl_IsValidClause hT hbk).mono ?_
    rintro e w1 ⟨_, rfl, hb, rfl⟩
    replace hW := hW.trans (hb.mono hW.size)
    replace bT := bT.keep hb
    replace hT := Cl.at_keep (Keeps.all hb) hT
    clear hb
    rw [hv]
    have eT0 := bT.c0
    have lT := bT.lt
    go_wp2_with fail
    clear eT0 lT
    go_ret
    exact Gives.mk rfl hW
set_option maxHeartbeats 4000000 in
theorem apart_any {t : Cl} {S : Nat → Prop} {c0 : Value} {w : World} (ht : Cl.at S w c0 t) (hv : t.valid = true) (hn : normK t.names = true) :
    Calls Tryz.prog 20 #[.agg #[c0]] w (MadeCl (t.ren ⟨#[89]⟩ t.names) w) := by
  have HI := hid (NormI.start hv)
  have hbk := (HI.out.bulk (by omega)).1
  have hnl := HI.out.names
  have HRB := hid (HI.out.rens (by omega) (x := 89) hnl)
  have HNV := hid t.names_var
  have HND := hid t.names_nodup
  obtain ⟨ks, Hks⟩ : ∃ ks, Hid (t.names = ks) := ⟨_, hid rfl⟩
  have HKS : Hid (Tm.colls t.atoms [] = ks) := Hks.out
  rw [Hks.out] at hnl HRB HNV HND hn ⊢
  have HNK : Hid (∀ i (h : i < ks.length), ks[i] = numS ⟨#[88]⟩ i) := (normK_iff ks).1 hn
  obtain ⟨R, HR⟩ : ∃ R, Hid (t.ren ⟨#[89]⟩ ks = R) := ⟨_, hid rfl⟩
  rw [HR.out]
  have HT := hid (D.rd_lt _ _ ht)
  obtain ⟨a, cap, rfl⟩ := Cl.at_form ht
  clear hv hn ht
  have hW : Below w.heap.size w (((w.alloc (.cells #[.slice a t.ls.length cap] 28)).alloc (.cells #[.slice none 0 0] 28)).alloc (.map #[] 0)) := (((Below.refl _ _).alloc (Nat.le_refl _) _).alloc (by simp) _).alloc (by simp; omega) _
  have tb : Box (((w.alloc (.cells #[.slice a t.ls.length cap] 28)).alloc (.cells #[.slice none 0 0] 28)).alloc (.map #[] 0)) w.heap.size [.slice a t.ls.length cap] := ((Box.new w [Value.slice a t.ls.length cap] 28).alloc _).alloc _
  have rb : Box (((w.alloc (.cells #[.slice a t.ls.length cap] 28)).alloc (.cells #[.slice none 0 0] 28)).alloc (.map #[] 0)) (w.heap.size + 1) [.slice none 0 0] := by
    have := (Box.new (w.alloc (.cells #[.slice a t.ls.length cap] 28)) [Value.slice none 0 0] 28).alloc (.map #[] 0)
    simpa only [World.size_alloc] using this
  have rf : (((w.alloc (.cells #[.slice a t.ls.length cap] 28)).alloc (.cells #[.slice none 0 0] 28)).alloc (.map #[] 0)).frozen? ⟨w.heap.size + 1, 0, none⟩ = false := (World.frozen?_alloc_past _ _ 0 (by simp)).trans (World.frozen?_alloc_at _ _ _ 0 (by simp))
  have HZ : Hid ((((w.alloc (.cells #[.slice a t.ls.length cap] 28)).alloc (.cells #[.slice none 0 0] 28)).alloc (.map #[] 0)).heap.size = w.heap.size + 1 + 1 + 1) := by simp [Hid]
  have HM0 : Hid (MapIs (((w.alloc (.cells #[.slice a t.ls.length cap] 28)).alloc (.cells #[.slice none 0 0] 28)).alloc (.map #[] 0)) (w.heap.size + 1 + 1) []) := by
    have := MapIs.made ((w.alloc (.cells #[.slice a t.ls.length cap] 28)).alloc (.cells #[.slice none 0 0] 28))
    simpa only [Hid, World.size_alloc] using this
  have x0 := tb.c0
  have hmm := @run_makeMap Tryz.prog
  go_enter Tryz.func20, Tryz.ntmps20
  go_wp2_with fail
  clear x0 hmm
  try simp only [World.size_alloc]
  generalize (((w.alloc (.cells #[.slice a t.ls.length cap] 28)).alloc (.cells #[.slice none 0 0] 28)).alloc (.map #[] 0)) = w0 at *
  have hz0 := HZ.out
  have hq := namesIn_any t (S := (· < w.heap.size)) (D.rd_keep (Keeps.all hW) _ _ HT.out) (by omega) HI.out.nice
  rw [HKS.out] at hq
  refine hq.mono ?_
  clear hq
  rintro e w1 ⟨g, gc, rfl, hg, hb⟩
  obtain ⟨G, hgo, hGG⟩ := hg.own
  have HG : Hid (D.rd (fun x => w0.heap.size ≤ x) w1 (.slice (some ⟨g, 0, none⟩) ks.length gc) (slOf strE ks)) := D.rd_mono (fun x hx => hGG x hx) _ _ (D.own_rd _ _ _ hgo)
  obtain ⟨M, HMM⟩ : ∃ M, Hid (w.heap.size + 1 + 1 = M) := ⟨_, hid rfl⟩
  have hM0 : M + 1 = w0.heap.size := by rw [← HMM.out]; omega
  have hM1 : w.heap.size + 1 < M := by rw [← HMM.out]; omega
  have HW := hid (hW.trans (hb.mono hW.size))
  have hz1 := hb.size
  have HM1 := hid (HM0.out.keep (Keeps.all hb))
  have rb1 := rb.keep hb
  have rf1 := (hb.frozen (p := ⟨w.heap.size + 1, 0, none⟩) rb.lt).trans rf
  have tb1 := tb.keep hb
  have HHM := HM0
  clear hg hb hgo hGG HM0 HHM
  try rw [HMM.out]
  rw [HMM.out] at HM1
  have x0 := tb1.c0
  have lx := tb1.lt
  go_wp2_with fail
  clear x0 lx
  go_loopw [10] (fun i wr => ∃ k : Nat, k ≤ ks.length ∧ i = .int .i64 k ∧ Hid (MapIs wr M (kvR ⟨#[89]⟩ (ks.take k))) ∧ Hid (w1.grownBy wr (some M)) ∧ w1.heap.size ≤ wr.heap.size) (fun i _ => ks.length - (intOf i).toNat)
  case atStart => exact ⟨0, Nat.zero_le _, rfl, HM1, grown_refl _ _, Nat.le_refl _⟩
  case round =>
    obtain ⟨k, hk, rfl, HM, HGR, hz⟩ := hrel
    have hkI : (0 : Int) ≤ (k : Int) := by omega
    have nr : ¬ some M = some (w.heap.size + 1) := fun e => by injection e with e; omega
    have nt : ¬ some M = some w.heap.size := fun e => by injection e with e; omega
    have l1 : w.heap.size + 1 < w1.heap.size := by omega
    have l0 : w.heap.size < w1.heap.size := by omega
    by_cases hlt : k < ks.length
    · have hkp : Keeps (fun x => w0.heap.size ≤ x) w1 wr := ⟨hz, fun b hS hl => HGR.out.block b hl (fun e => by injection e with e; have hS' : w0.heap.size ≤ b := hS; omega)⟩
      obtain ⟨b, off, e, hSb, hbl, hrr⟩ := strs_get (D.rd_keep hkp _ _ HG.out) (by intro e; subst e; simp at hlt)
      injection e with e
      injection e with e1 e2
      subst e1 e2
      obtain ⟨q0, -⟩ := hrr k hlt
      rw [Nat.zero_add] at q0
      clear hrr hkp
      have hsz := numS_size ⟨#[88]⟩ (i := k) (by omega)
      have hsz1 : (⟨#[88]⟩ : ByteArray).size = 1 := rfl
      rw [hsz1] at hsz
      have HKK := hid (HNK.out k hlt)
      have HTL := hid (numS_tail k)
      have HKV : Hid (kvR ⟨#[89]⟩ (ks.take (k + 1)) = kvR ⟨#[89]⟩ (ks.take k) ++ [(ks[k], Value.string (⟨#[89]⟩ ++ itoaB (k : Int)))]) := kvR_snoc ⟨#[89]⟩ ks k hlt
      have HFR := hid (kvR_fresh (p := ⟨#[89]⟩) HND.out hlt)
      obtain ⟨s, HS⟩ : ∃ s, Hid (ks[k] = s) := ⟨_, hid rfl⟩
      rw [← HKK.out, HS.out] at hsz HTL
      rw [HS.out] at q0 HKV HFR
      have hez : (s.extract 1 s.size).size = s.size - 1 := by rw [ByteArray.size_extract]; omega
      have hs1 : (1 : Int) ≤ (s.size : Int) := by omega
      have g4 : ¬ 9223372036854775807 < 1 + (s.size - 1) := by omega
      have g5 : ¬ 9223372036854775807 < 1 + (s.extract 1 s.size).size := by omega
      have HKD : Hid (((kvR ⟨#[89]⟩ (ks.take k)).map (·.1)).Nodup) := by rw [Hid, kvR_keys]; exact HND.out.sublist (List.take_sublist _ _)
      clear hsz1
      go_wp2_with (at_mapUpdate; go_must (refine wpList_put rfl _ _ _ (by rfl) HM.out HKD.out Tryz.underlying59 Tryz.underlying9 (by rfl) (by rfl) (by rfl) ?_; intro w3 hm3 hg3 hz3))
      rw [kvPut_none HFR.out] at hm3
      have HM3 : Hid (MapIs w3 M (kvR ⟨#[89]⟩ (ks.take (k + 1)))) := by rw [Hid, HKV.out, ← HTL.out]; exact hm3
      have HGR3 := hid (World.grownBy.trans HGR.out hg3)
      clear hm3 hg3
      go_roundw
      case rel => exact ⟨k + 1, by omega, by go_num, HM3, HGR3, by omega⟩
      case measure => simp [intOf]; omega
    · obtain rfl : k = ks.length := by omega
      have HM2 := HM.out
      rw [List.take_length] at HM2
      have HMF := hid HM2
      have HBW : Hid (Below w.heap.size w wr) := HW.out.grown HGR.out HW.out.size (fun y hy => by injection hy with hy; omega)
      have x0 := ((bcellG HGR.out).1 w.heap.size 0 l0 nt).trans tb1.c0
      have r0 := ((bcellG HGR.out).1 (w.heap.size + 1) 0 l1 nr).trans rb1.c0
      have r1 := ((bcellG HGR.out).2 (w.heap.size + 1) 0 l1 nr).trans rf1
      have hq := renamedClause_any 89 ks upY (by omega) HND.out HNV.out (D.rd_keep (Keeps.all HBW.out) _ _ HT.out) HMF.out (fun x hx => (HI.out.2 x hx).1) (fun x hx => (HI.out.2 x hx).2.1) hbk HRB.out
      rw [HR.out] at hq
      have HQ := hid hq
      have hqn : ¬ (ks.length : Int) < (ks.length : Int) := by omega
      clear hq HM2 HM
      go_wp2_with fail
      refine HQ.out.mono ?_
      rintro e w4 ⟨v4, F4, rfl, ho4, hF4, hb4⟩
      obtain ⟨a4, cap4, rfl⟩ := Lit.sd_own_form ho4
      replace r0 := (hb4.cell (p := ⟨w.heap.size + 1, 0, none⟩) (by show w.heap.size + 1 < _; omega)).trans r0
      replace r1 := (hb4.frozen (p := ⟨w.heap.size + 1, 0, none⟩) (by show w.heap.size + 1 < _; omega)).trans r1
      have HBW4 := hid (HBW.out.trans (hb4.mono HBW.out.size))
      have HO4 := hid ho4
      have HF4 := hid hF4
      have l4 : w.heap.size + 1 < w4.heap.size := by have := hb4.size; omega
      have nF4 : w.heap.size + 1 ∉ F4 := fun q => by have := HF4.out _ q; omega
      clear HQ ho4 hF4 hb4
      go_wp2_with fail
      refine bodyPost_ret (v := .agg #[.slice a4 R.ls.length cap4]) (by simp [results, Tryz.results20, go_sem, r0]) rfl ?_
      refine ⟨_, F4, rfl, ?_, fun y hy => by have := HF4.out y hy; omega, ?_⟩
      · exact D.own_keep _ _ _ ((Keeps.refl (· ∈ F4) w4).setCell (fun q _ => nF4 q) _) HO4.out
      · exact HBW4.out.setCell (by simp) _
set_option maxHeartbeats 2000000 in
theorem impl_RenameApart {t : Cl} {S : Nat → Prop} {c0 : Value} {w : World} (ht : Cl.at S w c0 t) (hbk : t.bulk ≤ 1048576) (hF : TabF w) :
    Calls Tryz.prog 8 #[.agg #[c0]] w (OutD (fun v => .agg #[v]) (Lit.sd (apartR t).ls) (apartOk t) w) := by
  have HTF := hid hF
  by_cases hv : t.valid = true ∧ normK t.names = true
  · obtain ⟨h1, h2⟩ := apart_yes hv.1 hv.2
    have HV := hid hv
    have HOK := hid h1
    obtain ⟨R, HR⟩ : ∃ R, Hid (t.ren ⟨#[89]⟩ t.names = R) := ⟨_, hid rfl⟩
    rw [h1, h2, HR.out]
    clear hv h1 h2 hF
    obtain ⟨ta, tc, rfl⟩ := Cl.at_form ht
    have hW : Below w.heap.size w ((w.alloc (.cells #[.slice ta t.ls.length tc] 28)).alloc (.cells #[.slice none 0 0] 28)) := ((Below.refl _ _).alloc (Nat.le_refl _) _).alloc (by simp) _
    have bt : Box ((w.alloc (.cells #[.slice ta t.ls.length tc] 28)).alloc (.cells #[.slice none 0 0] 28)) (w.heap.size) [.slice ta t.ls.length tc] := by
      have := ((Box.new w [.slice ta t.ls.length tc] 28).alloc (.cells #[.slice none 0 0] 28))
      simpa only [World.size_alloc] using this
    have rb : Box ((w.alloc (.cells #[.slice ta t.ls.length tc] 28)).alloc (.cells #[.slice none 0 0] 28)) (w.heap.size + 1) [.slice none 0 0] := by
      have := (Box.new (w.alloc (.cells #[.slice ta t.ls.length tc] 28)) [.slice none 0 0] 28)
      simpa only [World.size_alloc] using this
    have rf : ∀ p, ((w.alloc (.cells #[.slice ta t.ls.length tc] 28)).alloc (.cells #[.slice none 0 0] 28)).frozen? ⟨w.heap.size + 1, p, none⟩ = false := fun p => World.frozen?_alloc_at _ _ _ p (by simp)
    replace ht := Cl.at_keep (Keeps.all hW) ht
    have et0 := bt.c0
    have lt := bt.lt
    have re0 := rb.c0
    have rf0 := rf 0
    have rl := rb.lt
    go_enter Tryz.func8, Tryz.ntmps8
    go_wp2_with fail
    clear et0 lt re0 rf0 rl
    have Hw0 : Hid (((w.alloc (.cells #[.slice ta t.ls.length tc] 28)).alloc (.cells #[.slice none 0 0] 28)).heap.size = w.heap.size + 1 + 1) := by simp [Hid]
    generalize ((w.alloc (.cells #[.slice ta t.ls.length tc] 28)).alloc (.cells #[.slice none 0 0] 28)) = w0 at *
    refine (isNormal_any ht hbk (TabF.keep HTF.out hW)).mono ?_
    rintro e w1 ⟨_, rfl, hb, rfl⟩
    replace hW := hW.trans (hb.mono hW.size)
    replace bt := bt.keep hb
    replace ht := Cl.at_keep (Keeps.all hb) ht
    replace rf := fun p => (hb.frozen (p := ⟨_, p, none⟩) rb.lt).trans (rf p)
    replace rb := rb.keep hb
    clear hb
    rw [HOK.out]
    have et0 := bt.c0
    have lt := bt.lt
    have re0 := rb.c0
    have rf0 := rf 0
    have rl := rb.lt
    go_wp2_with fail
    clear et0 lt re0 rf0 rl
    have hq := apart_any ht HV.out.1 HV.out.2
    rw [HR.out] at hq
    refine hq.mono ?_
    clear hq
    rintro e w2 ⟨v2, F, rfl, ho, hF, hb⟩
    have hzz := hW.size
    have hrr := rb.lt
    replace hW := hW.trans (hb.mono hW.size)
    replace bt := bt.keep hb
    replace ht := Cl.at_keep (Keeps.all hb) ht
    replace rf := fun p => (hb.frozen (p := ⟨_, p, none⟩) rb.lt).trans (rf p)
    replace rb := rb.keep hb
    have HF : Hid (∀ y ∈ F, w1.heap.size ≤ y) := hF
    obtain ⟨a2, c2, rfl⟩ := Lit.sd_own_form ho
    have HO := hid ho
    have nF : w.heap.size + 1 ∉ F := fun q => by have := HF.out _ q; omega
    clear hb ho hF
    have et0 := bt.c0
    have lt := bt.lt
    have re0 := rb.c0
    have rf0 := rf 0
    have rl := rb.lt
    go_wp2_with fail
    refine bodyPost_ret (v := .tuple #[.agg #[.slice a2 R.ls.length c2], .bool true]) (by simp [results, Tryz.results8, go_sem, rb.c0]; try rfl) rfl ?_
    exact ⟨_, F, rfl, D.own_keep _ _ _ ((Keeps.refl _ _).setCell (fun q _ => nF q) _) HO.out, fun y hy => by have := HF.out y hy; omega, hW.setCell (by simp) _⟩
  · obtain ⟨h1, h2⟩ := apart_no hv
    have HOK := hid h1
    rw [h1, h2]
    clear hv h1 h2 hF
    obtain ⟨ta, tc, rfl⟩ := Cl.at_form ht
    have hW : Below w.heap.size w ((w.alloc (.cells #[.slice ta t.ls.length tc] 28)).alloc (.cells #[.slice none 0 0] 28)) := ((Below.refl _ _).alloc (Nat.le_refl _) _).alloc (by simp) _
    have bt : Box ((w.alloc (.cells #[.slice ta t.ls.length tc] 28)).alloc (.cells #[.slice none 0 0] 28)) (w.heap.size) [.slice ta t.ls.length tc] := by
      have := ((Box.new w [.slice ta t.ls.length tc] 28).alloc (.cells #[.slice none 0 0] 28))
      simpa only [World.size_alloc] using this
    have rb : Box ((w.alloc (.cells #[.slice ta t.ls.length tc] 28)).alloc (.cells #[.slice none 0 0] 28)) (w.heap.size + 1) [.slice none 0 0] := by
      have := (Box.new (w.alloc (.cells #[.slice ta t.ls.length tc] 28)) [.slice none 0 0] 28)
      simpa only [World.size_alloc] using this
    have rf : ∀ p, ((w.alloc (.cells #[.slice ta t.ls.length tc] 28)).alloc (.cells #[.slice none 0 0] 28)).frozen? ⟨w.heap.size + 1, p, none⟩ = false := fun p => World.frozen?_alloc_at _ _ _ p (by simp)
    replace ht := Cl.at_keep (Keeps.all hW) ht
    have et0 := bt.c0
    have lt := bt.lt
    have re0 := rb.c0
    have rf0 := rf 0
    have rl := rb.lt
    go_enter Tryz.func8, Tryz.ntmps8
    go_wp2_with fail
    clear et0 lt re0 rf0 rl
    have Hw0 : Hid (((w.alloc (.cells #[.slice ta t.ls.length tc] 28)).alloc (.cells #[.slice none 0 0] 28)).heap.size = w.heap.size + 1 + 1) := by simp [Hid]
    generalize ((w.alloc (.cells #[.slice ta t.ls.length tc] 28)).alloc (.cells #[.slice none 0 0] 28)) = w0 at *
    refine (isNormal_any ht hbk (TabF.keep HTF.out hW)).mono ?_
    rintro e w1 ⟨_, rfl, hb, rfl⟩
    replace hW := hW.trans (hb.mono hW.size)
    replace bt := bt.keep hb
    replace ht := Cl.at_keep (Keeps.all hb) ht
    replace rf := fun p => (hb.frozen (p := ⟨_, p, none⟩) rb.lt).trans (rf p)
    replace rb := rb.keep hb
    clear hb
    rw [HOK.out]
    have et0 := bt.c0
    have lt := bt.lt
    have re0 := rb.c0
    have rf0 := rf 0
    have rl := rb.lt
    go_wp2_with fail
    refine bodyPost_ret (v := .tuple #[.agg #[.slice none 0 0], .bool false]) (by simp [results, Tryz.results8, go_sem, rb.c0]; try rfl) rfl ?_
    exact ⟨_, [], rfl, by rw [Lit.sd_css]; exact D.own_nil _ _, by simp, hW.setCell (by simp) _⟩
end Go.Proofs.YtooocakkjdhfiaaGreatDoor
/- RenameApart: the reference's. -/
namespace Go.Proofs.YtooocakkjdhfiaaGreatDoor
set_option maxRecDepth 100000
open Go.RowKit

set_option maxHeartbeats 2000000 in
theorem l7Apart_any {t : Cl} {S : Nat → Prop} {c0 : Value} {w : World} (ht : Cl.at S w c0 t) (hv : t.valid = true) :
    Calls Tryz.prog 17 #[.agg #[c0]] w fun e w' => ∃ v', e = .returned (.agg #[v']) ∧ D.rd (fun x => w.heap.size ≤ x) w' v' (Lit.sd (t.ren ⟨#[89]⟩ t.names).ls) ∧ Below w.heap.size w w' := by
  have HI := hid (NormI.start hv)
  have hbk := (HI.out.bulk (by omega)).1
  have hnl := HI.out.names
  have HRB := hid (HI.out.rens (by omega) (x := 89) hnl)
  obtain ⟨ks, Hks⟩ : ∃ ks, Hid (t.names = ks) := ⟨_, hid rfl⟩
  have HKS : Hid (Tm.colls t.atoms [] = ks) := Hks.out
  rw [Hks.out] at hnl HRB ⊢
  obtain ⟨R, HR⟩ : ∃ R, Hid (t.ren ⟨#[89]⟩ ks = R) := ⟨_, hid rfl⟩
  rw [HR.out]
  clear hv
  obtain ⟨ta, tc, rfl⟩ := Cl.at_form ht
  have hW : Below w.heap.size w ((w.alloc (.cells #[.slice ta t.ls.length tc] 28)).alloc (.cells #[.slice none 0 0] 28)) := ((Below.refl _ _).alloc (Nat.le_refl _) _).alloc (by simp) _
  have bt : Box ((w.alloc (.cells #[.slice ta t.ls.length tc] 28)).alloc (.cells #[.slice none 0 0] 28)) (w.heap.size) [.slice ta t.ls.length tc] := by
    have := ((Box.new w [.slice ta t.ls.length tc] 28).alloc (.cells #[.slice none 0 0] 28))
    simpa only [World.size_alloc] using this
  have rb : Box ((w.alloc (.cells #[.slice ta t.ls.length tc] 28)).alloc (.cells #[.slice none 0 0] 28)) (w.heap.size + 1) [.slice none 0 0] := by
    have := (Box.new (w.alloc (.cells #[.slice ta t.ls.length tc] 28)) [.slice none 0 0] 28)
    simpa only [World.size_alloc] using this
  have rf : ∀ p, ((w.alloc (.cells #[.slice ta t.ls.length tc] 28)).alloc (.cells #[.slice none 0 0] 28)).frozen? ⟨w.heap.size + 1, p, none⟩ = false := fun p => World.frozen?_alloc_at _ _ _ p (by simp)
  replace ht := Cl.at_keep (Keeps.all hW) ht
  have et0 := bt.c0
  have lt := bt.lt
  have re0 := rb.c0
  have rf0 := rf 0
  have rl := rb.lt
  go_enter Tryz.func17, Tryz.ntmps17
  go_wp2_with fail
  clear et0 lt re0 rf0 rl
  have Hw0 : Hid (((w.alloc (.cells #[.slice ta t.ls.length tc] 28)).alloc (.cells #[.slice none 0 0] 28)).heap.size = w.heap.size + 1 + 1) := by simp [Hid]
  generalize ((w.alloc (.cells #[.slice ta t.ls.length tc] 28)).alloc (.cells #[.slice none 0 0] 28)) = w0 at *
  have HW := hid hW
  have HT := hid ht
  have hz0 := Hw0.out
  have nn : ¬ (none : Option Nat) = some w.heap.size := fun e => by cases e
  have nr : ¬ (none : Option Nat) = some (w.heap.size + 1) := fun e => by cases e
  have et0 := bt.c0
  have lt := bt.lt
  have re0 := rb.c0
  have rf0 := rf 0
  have rl := rb.lt
  refine region_late (l := [_, _, _, _]) (tl := [_]) (S := fun w1 => (w0).grownBy w1 (none)) (n := 4) rfl rfl (by kernel_rfl) (by kernel_rfl) (grown_of_below ((Below.refl _ _).drew) _) (fun hQL hS => ?_)
  refine late_take (i := 0) (d := some 3) (v := .agg #[.slice ta t.ls.length tc]) rfl rfl (by kernel_rfl) (by kernel_rfl) (by kernel_rfl) hQL (by rfl) (fun w1 hS1 => (by obtain ⟨hc, hf⟩ := bcellG hS1; go_simp)) hS ?_
  try simp only [Act.put, List.setIfInBounds_toArray, List.set_cons_zero, List.set_cons_succ]
  refine late_take (i := 1) (d := some 4) (v := .agg #[.slice ta t.ls.length tc]) rfl rfl (by kernel_rfl) (by kernel_rfl) (by kernel_rfl) hQL (by rfl) (fun w1 hS1 => (by obtain ⟨hc, hf⟩ := bcellG hS1; go_simp)) hS ?_
  try simp only [Act.put, List.setIfInBounds_toArray, List.set_cons_zero, List.set_cons_succ]
  refine wpAnyH_ready (rs := [2]) (by kernel_rfl) (by simp) ?_
  refine AllReadyH.cons rfl (fun K hK => ?_) AllReadyH.nil
  refine step_does rfl ?_
  unfold Does
  go_simp
  go_at_call 31
  have hA : Below w0.heap.size w0 w0.drew := (Below.refl _ _).drew
  have hq := l7Order_any t (D.rd_keep (Keeps.all hA) _ _ HT.out) (by omega) HI.out.leafy
  rw [HKS.out] at hq
  refine hq.mono ?_
  clear hq
  rintro e wo ⟨gn, cn, rfl, hg1, hbo⟩
  have HG1 := hid hg1
  have HBO : Hid (Below w0.heap.size w0 wo) := hA.trans (hbo.mono hA.size)
  clear hg1 hbo
  refine ⟨_, rfl, ?_⟩
  refine hK.out _ _ (grown_of_below HBO.out _) (fun hS => ?_)
  try show wpAnyH _ _ _ _ _ _ _ (Act.put _ (some 5) _) _
  try simp only [Act.put, List.setIfInBounds_toArray, List.set_cons_zero, List.set_cons_succ]
  refine wpAnyH_ready (rs := [3]) (by kernel_rfl) (by simp) ?_
  refine AllReadyH.cons rfl (fun K hK => ?_) AllReadyH.nil
  refine step_does rfl ?_
  unfold Does
  go_simp
  go_at_call 33
  have hq := l7Rename_any ⟨#[89]⟩ ks (w := wo) (t := t) (by decide) (by omega) (D.rd_keep (Keeps.all HBO.out) _ _ HT.out) HG1.out.rd hbk HRB.out
  have hq2 : Calls Tryz.prog 33 #[.agg #[.slice ta t.ls.length tc], .slice (some ⟨gn, 0, none⟩) ks.length cn, .string ⟨#[89]⟩] wo fun e w' => ∃ v', e = .returned (.agg #[v']) ∧ D.rd (fun x => wo.heap.size ≤ x) w' v' (Lit.sd R.ls) ∧ Below wo.heap.size wo w' := by rw [← HR.out]; exact hq
  refine hq2.mono ?_
  clear hq hq2
  rintro e wq ⟨v3, rfl, ho, hb⟩
  obtain ⟨a3, cp3, rfl, -, -⟩ := Lit.sd_form ho
  have HO3 := hid ho
  have HBQ := hid (HBO.out.trans (hb.mono HBO.out.size))
  have hzo := HBO.out.size
  clear ho hb
  refine ⟨_, rfl, ?_⟩
  refine hK.out _ _ (grown_of_below HBQ.out _) (fun hS => ?_)
  try show wpAnyH _ _ _ _ _ _ _ (Act.put _ (some 6) _) _
  try simp only [Act.put, List.setIfInBounds_toArray, List.set_cons_zero, List.set_cons_succ]
  refine wpAnyH_done (by kernel_rfl) ?_ _
  show wpTail _ _ _ _ _
  refine wpTail_step rfl (fun K hK => ?_)
  obtain ⟨hc, hf⟩ := bcellG hS
  go_simp
  refine hK.out _ _ ?_
  try clear hc hf
  refine wpTail_nil ?_
  have z0 := (HBQ.out.cell (p := ⟨w.heap.size + 1, 0, none⟩) (by show w.heap.size + 1 < _; omega)).trans re0
  have HBF := hid (HW.out.trans (HBQ.out.mono HW.out.size))
  clear hS
  go_wp2_with fail
  refine bodyPost_ret (v := .agg #[.slice a3 R.ls.length cp3]) (by simp [results, Tryz.results17, go_sem, z0]) rfl ?_
  refine ⟨_, rfl, ?_, HBF.out.setCell (by simp) _⟩
  exact D.rd_mono (fun x (hx : wo.heap.size ≤ x) => (by omega : w.heap.size ≤ x)) _ _ (D.rd_keep ((Keeps.refl _ _).setCell (fun (q : wo.heap.size ≤ w.heap.size + 1) _ => by omega) _) _ _ HO3.out)
set_option maxHeartbeats 2000000 in
theorem spec_RenameApart {t : Cl} {S : Nat → Prop} {c0 : Value} {w : World} (ht : Cl.at S w c0 t) (hbk : t.bulk ≤ 1048576) :
    Calls Tryz.prog 6 #[.agg #[c0]] w (RdN (fun v => .agg #[v]) (Lit.sd (apartR t).ls) (apartOk t) w) := by
  by_cases hv : t.valid = true
  · have HV := hid hv
    have HI := hid (NormI.start hv)
    have hnl := HI.out.names
    rw [Cl.names] at hnl
    by_cases hn : normK t.names = true
    · obtain ⟨h1, h2⟩ := apart_yes hv hn
      have HN := hid hn
      obtain ⟨R, HR⟩ : ∃ R, Hid (t.ren ⟨#[89]⟩ t.names = R) := ⟨_, hid rfl⟩
      rw [h1, h2, HR.out]
      clear hv hn h1 h2
      obtain ⟨ta, tc, rfl⟩ := Cl.at_form ht
      have hW : Below w.heap.size w ((w.alloc (.cells #[.slice ta t.ls.length tc] 28)).alloc (.cells #[.slice none 0 0] 28)) := ((Below.refl _ _).alloc (Nat.le_refl _) _).alloc (by simp) _
      have bt : Box ((w.alloc (.cells #[.slice ta t.ls.length tc] 28)).alloc (.cells #[.slice none 0 0] 28)) (w.heap.size) [.slice ta t.ls.length tc] := by
        have := ((Box.new w [.slice ta t.ls.length tc] 28).alloc (.cells #[.slice none 0 0] 28))
        simpa only [World.size_alloc] using this
      have rb : Box ((w.alloc (.cells #[.slice ta t.ls.length tc] 28)).alloc (.cells #[.slice none 0 0] 28)) (w.heap.size + 1) [.slice none 0 0] := by
        have := (Box.new (w.alloc (.cells #[.slice ta t.ls.length tc] 28)) [.slice none 0 0] 28)
        simpa only [World.size_alloc] using this
      have rf : ∀ p, ((w.alloc (.cells #[.slice ta t.ls.length tc] 28)).alloc (.cells #[.slice none 0 0] 28)).frozen? ⟨w.heap.size + 1, p, none⟩ = false := fun p => World.frozen?_alloc_at _ _ _ p (by simp)
      replace ht := Cl.at_keep (Keeps.all hW) ht
      have et0 := bt.c0
      have lt := bt.lt
      have re0 := rb.c0
      have rf0 := rf 0
      have rl := rb.lt
      go_enter Tryz.func6, Tryz.ntmps6
      go_wp2_with fail
      clear et0 lt re0 rf0 rl
      have Hw0 : Hid (((w.alloc (.cells #[.slice ta t.ls.length tc] 28)).alloc (.cells #[.slice none 0 0] 28)).heap.size = w.heap.size + 1 + 1) := by simp [Hid]
      generalize ((w.alloc (.cells #[.slice ta t.ls.length tc] 28)).alloc (.cells #[.slice none 0 0] 28)) = w0 at *
      refine (l7Good_any ht hbk).mono ?_
      rintro e w1 ⟨_, rfl, hb, rfl⟩
      replace hW := hW.trans (hb.mono hW.size)
      replace bt := bt.keep hb
      replace ht := Cl.at_keep (Keeps.all hb) ht
      replace rf := fun p => (hb.frozen (p := ⟨_, p, none⟩) rb.lt).trans (rf p)
      replace rb := rb.keep hb
      clear hb
      rw [HV.out]
      have et0 := bt.c0
      have lt := bt.lt
      have re0 := rb.c0
      have rf0 := rf 0
      have rl := rb.lt
      go_wp2_with fail
      clear et0 lt re0 rf0 rl
      refine (l7IsNormal_any t ht hbk HI.out.leafy (by omega)).mono ?_
      rintro e w2 ⟨_, rfl, hb, rfl⟩
      replace hW := hW.trans (hb.mono hW.size)
      replace bt := bt.keep hb
      replace ht := Cl.at_keep (Keeps.all hb) ht
      replace rf := fun p => (hb.frozen (p := ⟨_, p, none⟩) rb.lt).trans (rf p)
      replace rb := rb.keep hb
      clear hb
      rw [show normK (Tm.colls t.atoms []) = true from HN.out]
      have et0 := bt.c0
      have lt := bt.lt
      have re0 := rb.c0
      have rf0 := rf 0
      have rl := rb.lt
      go_wp2_with fail
      clear et0 lt re0 rf0 rl
      have hq := l7Apart_any ht HV.out
      rw [HR.out] at hq
      refine hq.mono ?_
      clear hq
      rintro e w3 ⟨v3, rfl, hr3, hb⟩
      have hzz := hW.size
      have hrr := rb.lt
      replace hW := hW.trans (hb.mono hW.size)
      replace bt := bt.keep hb
      replace ht := Cl.at_keep (Keeps.all hb) ht
      replace rf := fun p => (hb.frozen (p := ⟨_, p, none⟩) rb.lt).trans (rf p)
      replace rb := rb.keep hb
      obtain ⟨a3, c3, rfl, -, -⟩ := Lit.sd_form hr3
      have HO := hid hr3
      clear hb hr3
      have et0 := bt.c0
      have lt := bt.lt
      have re0 := rb.c0
      have rf0 := rf 0
      have rl := rb.lt
      go_wp2_with fail
      refine bodyPost_ret (v := .tuple #[.agg #[.slice a3 R.ls.length c3], .bool true]) (by simp [results, Tryz.results6, go_sem, rb.c0]; try rfl) rfl ?_
      refine ⟨_, rfl, ?_, hW.setCell (by simp) _⟩
      exact D.rd_mono (fun x (hx : w2.heap.size ≤ x) => (by omega : w.heap.size ≤ x)) _ _ (D.rd_keep ((Keeps.refl _ _).setCell (fun (q : w2.heap.size ≤ w.heap.size + 1) _ => by omega) _) _ _ HO.out)
    · obtain ⟨h1, h2⟩ := apart_no (t := t) (fun q => hn q.2)
      have HN := hid (Bool.eq_false_iff.2 hn)
      rw [h1, h2]
      clear hv hn h1 h2
      obtain ⟨ta, tc, rfl⟩ := Cl.at_form ht
      have hW : Below w.heap.size w ((w.alloc (.cells #[.slice ta t.ls.length tc] 28)).alloc (.cells #[.slice none 0 0] 28)) := ((Below.refl _ _).alloc (Nat.le_refl _) _).alloc (by simp) _
      have bt : Box ((w.alloc (.cells #[.slice ta t.ls.length tc] 28)).alloc (.cells #[.slice none 0 0] 28)) (w.heap.size) [.slice ta t.ls.length tc] := by
        have := ((Box.new w [.slice ta t.ls.length tc] 28).alloc (.cells #[.slice none 0 0] 28))
        simpa only [World.size_alloc] using this
      have rb : Box ((w.alloc (.cells #[.slice ta t.ls.length tc] 28)).alloc (.cells #[.slice none 0 0] 28)) (w.heap.size + 1) [.slice none 0 0] := by
        have := (Box.new (w.alloc (.cells #[.slice ta t.ls.length tc] 28)) [.slice none 0 0] 28)
        simpa only [World.size_alloc] using this
      have rf : ∀ p, ((w.alloc (.cells #[.slice ta t.ls.length tc] 28)).alloc (.cells #[.slice none 0 0] 28)).frozen? ⟨w.heap.size + 1, p, none⟩ = false := fun p => World.frozen?_alloc_at _ _ _ p (by simp)
      replace ht := Cl.at_keep (Keeps.all hW) ht
      have et0 := bt.c0
      have lt := bt.lt
      have re0 := rb.c0
      have rf0 := rf 0
      have rl := rb.lt
      go_enter Tryz.func6, Tryz.ntmps6
      go_wp2_with fail
      clear et0 lt re0 rf0 rl
      have Hw0 : Hid (((w.alloc (.cells #[.slice ta t.ls.length tc] 28)).alloc (.cells #[.slice none 0 0] 28)).heap.size = w.heap.size + 1 + 1) := by simp [Hid]
      generalize ((w.alloc (.cells #[.slice ta t.ls.length tc] 28)).alloc (.cells #[.slice none 0 0] 28)) = w0 at *
      refine (l7Good_any ht hbk).mono ?_
      rintro e w1 ⟨_, rfl, hb, rfl⟩
      replace hW := hW.trans (hb.mono hW.size)
      replace bt := bt.keep hb
      replace ht := Cl.at_keep (Keeps.all hb) ht
      replace rf := fun p => (hb.frozen (p := ⟨_, p, none⟩) rb.lt).trans (rf p)
      replace rb := rb.keep hb
      clear hb
      rw [HV.out]
      have et0 := bt.c0
      have lt := bt.lt
      have re0 := rb.c0
      have rf0 := rf 0
      have rl := rb.lt
      go_wp2_with fail
      clear et0 lt re0 rf0 rl
      refine (l7IsNormal_any t ht hbk HI.out.leafy (by omega)).mono ?_
      rintro e w2 ⟨_, rfl, hb, rfl⟩
      replace hW := hW.trans (hb.mono hW.size)
      replace bt := bt.keep hb
      replace ht := Cl.at_keep (Keeps.all hb) ht
      replace rf := fun p => (hb.frozen (p := ⟨_, p, none⟩) rb.lt).trans (rf p)
      replace rb := rb.keep hb
      clear hb
      rw [show normK (Tm.colls t.atoms []) = false from HN.out]
      have et0 := bt.c0
      have lt := bt.lt
      have re0 := rb.c0
      have rf0 := rf 0
      have rl := rb.lt
      go_wp2_with fail
      refine bodyPost_ret (v := .tuple #[.agg #[.slice none 0 0], .bool false]) (by simp [results, Tryz.results6, go_sem, rb.c0]; try rfl) rfl ?_
      exact ⟨_, rfl, rd_nilL, hW.setCell (by simp) _⟩
  · obtain ⟨h1, h2⟩ := apart_no (t := t) (fun q => hv q.1)
    have HV := hid (Bool.eq_false_iff.2 hv)
    rw [h1, h2]
    clear hv h1 h2
    obtain ⟨ta, tc, rfl⟩ := Cl.at_form ht
    have hW : Below w.heap.size w ((w.alloc (.cells #[.slice ta t.ls.length tc] 28)).alloc (.cells #[.slice none 0 0] 28)) := ((Below.refl _ _).alloc (Nat.le_refl _) _).alloc (by simp) _
    have bt : Box ((w.alloc (.cells #[.slice ta t.ls.length tc] 28)).alloc (.cells #[.slice none 0 0] 28)) (w.heap.size) [.slice ta t.ls.length tc] := by
      have := ((Box.new w [.slice ta t.ls.length tc] 28).alloc (.cells #[.slice none 0 0] 28))
      simpa only [World.size_alloc] using this
    have rb : Box ((w.alloc (.cells #[.slice ta t.ls.length tc] 28)).alloc (.cells #[.slice none 0 0] 28)) (w.heap.size + 1) [.slice none 0 0] := by
      have := (Box.new (w.alloc (.cells #[.slice ta t.ls.length tc] 28)) [.slice none 0 0] 28)
      simpa only [World.size_alloc] using this
    have rf : ∀ p, ((w.alloc (.cells #[.slice ta t.ls.length tc] 28)).alloc (.cells #[.slice none 0 0] 28)).frozen? ⟨w.heap.size + 1, p, none⟩ = false := fun p => World.frozen?_alloc_at _ _ _ p (by simp)
    replace ht := Cl.at_keep (Keeps.all hW) ht
    have et0 := bt.c0
    have lt := bt.lt
    have re0 := rb.c0
    have rf0 := rf 0
    have rl := rb.lt
    go_enter Tryz.func6, Tryz.ntmps6
    go_wp2_with fail
    clear et0 lt re0 rf0 rl
    have Hw0 : Hid (((w.alloc (.cells #[.slice ta t.ls.length tc] 28)).alloc (.cells #[.slice none 0 0] 28)).heap.size = w.heap.size + 1 + 1) := by simp [Hid]
    generalize ((w.alloc (.cells #[.slice ta t.ls.length tc] 28)).alloc (.cells #[.slice none 0 0] 28)) = w0 at *
    refine (l7Good_any ht hbk).mono ?_
    rintro e w1 ⟨_, rfl, hb, rfl⟩
    replace hW := hW.trans (hb.mono hW.size)
    replace bt := bt.keep hb
    replace ht := Cl.at_keep (Keeps.all hb) ht
    replace rf := fun p => (hb.frozen (p := ⟨_, p, none⟩) rb.lt).trans (rf p)
    replace rb := rb.keep hb
    clear hb
    rw [HV.out]
    have et0 := bt.c0
    have lt := bt.lt
    have re0 := rb.c0
    have rf0 := rf 0
    have rl := rb.lt
    go_wp2_with fail
    refine bodyPost_ret (v := .tuple #[.agg #[.slice none 0 0], .bool false]) (by simp [results, Tryz.results6, go_sem, rb.c0]; try rfl) rfl ?_
    exact ⟨_, rfl, rd_nilL, hW.setCell (by simp) _⟩
end Go.Proofs.YtooocakkjdhfiaaGreatDoor
