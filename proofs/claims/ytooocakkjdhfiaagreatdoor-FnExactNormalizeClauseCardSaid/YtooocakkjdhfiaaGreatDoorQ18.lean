/- Several texts in one file. -/
import Derived.Test.YtooocakkjdhfiaaGreatDoorQ17
import Derived.Test.YtooocakkjdhfiaaGreatDoorQ15
import Derived.Test.YtooocakkjdhfiaaGreatDoorQ14
import Derived.Test.YtooocakkjdhfiaaGreatDoorQ16
/- The program renames the variables of a term. -/
namespace Go.Proofs.YtooocakkjdhfiaaGreatDoor
set_option maxRecDepth 100000
open Go.RowKit

/-- what renamed comes to -/
def RenI (p : ByteArray) (ks : List ByteArray) (t : Tm) : Prop := ∀ (S : Nat → Prop) (c0 c1 : Value) (mb : Nat) (w : World), Tm.at S w c0 c1 t → MapIs w mb (kvR p ks) → t.leafy → t.bulk ≤ 1048576 → Calls Tryz.prog 58 #[.agg #[c0, c1], .map (some mb)] w (MadeT (Tm.ren p ks t) w)
set_option maxHeartbeats 4000000 in
theorem renI_of (p : ByteArray) (ks : List ByteArray) (hp : p.size ≤ 1048576) (hks : ks.length ≤ 999999) (hnd : ks.Nodup) (hkv : ∀ k ∈ ks, varName k = true) (n : ByteArray) (ts : List Tm) (h : ∀ t ∈ ts, RenI p ks t) : RenI p ks (.node n ts) := by
  intro S c0 c1 mb w hr hm hlf hbk
  obtain ⟨rfl, hn, a, cap, rfl⟩ := Tm.at_form hr
  have hs := hr.2
  rw [Tm.bulk] at hbk
  simp only [Tm.name, Tm.args] at hn hs ⊢
  clear hr
  have hlen := (Tm.sd_form hs)
  obtain ⟨_, _, e, hlen, hcap⟩ := hlen
  unfold big at hlen
  clear e
  have hmb := hm.lt
  have HM := hid hm
  have HLF : Hid (∀ a ∈ ts, a.leafy) := ((Tm.leafy_iff _).1 hlf).2
  have HND : Hid (((kvR p ks).map (·.1)).Nodup) := by rw [Hid, kvR_keys]; exact hnd
  have hlv := hid ((Tm.leafy_iff _).1 hlf).1
  have HKV := hid hkv
  have HP := hid hp
  clear hm hlf hkv hnd
  have HW0 : Hid (Below w.heap.size w (((w.alloc (.cells #[.string n, .slice a ts.length cap] 50)).alloc (.cells #[.string ByteArray.empty, .slice none 0 0] 50)).alloc (.cells #[.string n, .slice none 0 0] 50))) := (((Below.refl _ _).alloc (Nat.le_refl _) _).alloc (by simp) _).alloc (by simp; omega) _
  have XB : Hid (Box (((w.alloc (.cells #[.string n, .slice a ts.length cap] 50)).alloc (.cells #[.string ByteArray.empty, .slice none 0 0] 50)).alloc (.cells #[.string n, .slice none 0 0] 50)) w.heap.size [.string n, .slice a ts.length cap]) := ((Box.new w [Value.string n, .slice a ts.length cap] 50).alloc _).alloc _
  have HMW := hid (HM.out.keep (Keeps.all HW0.out))
  by_cases hin : idxS ks n < ks.length
  · have hvn : varName n = true := HKV.out n (idxS_mem.1 hin)
    have hts : ts = [] := hlv.out hvn
    have hl0 : ((ts.length : Int) == 0) = true := by simp [hts]
    have HE0 : Hid (∀ k, ¬ k < ts.length) := fun k => by simp [hts]
    obtain ⟨m, Hm⟩ : ∃ m, Hid (numS p (idxS ks n) = m) := ⟨_, hid rfl⟩
    have HK : Hid (kvLook (kvR p ks) n = some (.string m)) := by rw [Hid, kvR_look, if_pos hin, Hm.out]
    have HR : Hid (Tm.ren p ks (.node n ts) = .node m (Tm.rens p ks ts)) := by rw [Hid, Tm.ren, if_pos hvn, renN, if_pos hin, Hm.out, hts, Tm.rens]
    have HW1 : Hid (Below w.heap.size w (((w.alloc (.cells #[.string n, .slice a ts.length cap] 50)).alloc (.cells #[.string ByteArray.empty, .slice none 0 0] 50)).alloc (.cells #[.string m, .slice none 0 0] 50))) := (((Below.refl _ _).alloc (Nat.le_refl _) _).alloc (by simp) _).alloc (by simp; omega) _
    have HZ1 : Hid ((((w.alloc (.cells #[.string n, .slice a ts.length cap] 50)).alloc (.cells #[.string ByteArray.empty, .slice none 0 0] 50)).alloc (.cells #[.string m, .slice none 0 0] 50)).heap.size = w.heap.size + 1 + 1 + 1) := by simp [Hid]
    have RB : Hid (Box (((w.alloc (.cells #[.string n, .slice a ts.length cap] 50)).alloc (.cells #[.string ByteArray.empty, .slice none 0 0] 50)).alloc (.cells #[.string m, .slice none 0 0] 50)) (w.heap.size + 1) [.string ByteArray.empty, .slice none 0 0]) := by
      have := (Box.new (w.alloc (.cells #[.string n, .slice a ts.length cap] 50)) [Value.string ByteArray.empty, .slice none 0 0] 50).alloc (.cells #[.string m, .slice none 0 0] 50)
      rw [Hid]
      simpa only [World.size_alloc] using this
    have RF : Hid (∀ p, (((w.alloc (.cells #[.string n, .slice a ts.length cap] 50)).alloc (.cells #[.string ByteArray.empty, .slice none 0 0] 50)).alloc (.cells #[.string m, .slice none 0 0] 50)).frozen? ⟨w.heap.size + 1, p, none⟩ = false) := fun p => (World.frozen?_alloc_past _ _ p (by simp)).trans (World.frozen?_alloc_at _ _ _ p (by simp))
    have OB : Hid ((((w.alloc (.cells #[.string n, .slice a ts.length cap] 50)).alloc (.cells #[.string ByteArray.empty, .slice none 0 0] 50)).alloc (.cells #[.string m, .slice none 0 0] 50)).cell? ⟨w.heap.size + 1 + 1, 0, none⟩ = some (.string m) ∧ (((w.alloc (.cells #[.string n, .slice a ts.length cap] 50)).alloc (.cells #[.string ByteArray.empty, .slice none 0 0] 50)).alloc (.cells #[.string m, .slice none 0 0] 50)).cell? ⟨w.heap.size + 1 + 1, 1, none⟩ = some (.slice none 0 0) ∧ ∀ p, (((w.alloc (.cells #[.string n, .slice a ts.length cap] 50)).alloc (.cells #[.string ByteArray.empty, .slice none 0 0] 50)).alloc (.cells #[.string m, .slice none 0 0] 50)).frozen? ⟨w.heap.size + 1 + 1, p, none⟩ = false) := ⟨(box3 w _ _ _ _ _ _ 0).2.2, (box3 w _ _ _ _ _ _ 1).2.2, fun p => frz1 _ _ _ _ _ (by simp)⟩
    have x0 := XB.out.c0
    have x1 := XB.out.c1
    clear hin hvn hts
    go_enter Tryz.func58, Tryz.ntmps58
    go_wp2_with (at_lookup; go_must (refine wpList_look rfl _ _ (by rfl) HMW.out HND.out Tryz.underlying59 Tryz.underlying9 (zeroStrM _) (by rfl) (by rfl) ?_; rw [HK.out]; simp only [Option.getD_some, Option.isSome_some]))
    try rw [show ({ data := #[] } : ByteArray) = ByteArray.empty from rfl]
    clear x0 x1 HMW XB HW0
    generalize (((w.alloc (.cells #[.string n, .slice a ts.length cap] 50)).alloc (.cells #[.string ByteArray.empty, .slice none 0 0] 50)).alloc (.cells #[.string m, .slice none 0 0] 50)) = wl at *
    have hzl := HZ1.out
    go_loopw [32] (fun i wr => ∃ (k : Nat) (F : List Nat) (v : Value), k ≤ ts.length ∧ i = .int .i64 k ∧ Hid (Gr wr (w.heap.size + 1 + 1 + 1) 50 2 v k (Tm.css (Tm.rens p ks (ts.take k))) F) ∧ wr.cell? ⟨w.heap.size + 1 + 1, 0, none⟩ = some (.string m) ∧ wr.cell? ⟨w.heap.size + 1 + 1, 1, none⟩ = some v ∧ Hid (∀ p, wr.frozen? ⟨w.heap.size + 1 + 1, p, none⟩ = false) ∧ w.heap.size + 1 + 1 + 1 ≤ wr.heap.size ∧ Hid (Below (w.heap.size + 1 + 1) wl wr)) (fun i _ => ts.length - (intOf i).toNat)
    case atStart =>
      refine ⟨0, [], .slice none 0 0, Nat.zero_le _, rfl, by rw [List.take_zero, Tm.rens, Tm.css]; exact hid (Gr.nil _ _ _ _), OB.out.1, OB.out.2.1, OB.out.2.2, Nat.le_of_eq HZ1.out.symm, Below.refl _ _⟩
    case round =>
      obtain ⟨k, F, v, hk, rfl, HG, y0, y1, HY2, hz, HB⟩ := hrel
      have HBW := hid (HW1.out.trans (HB.out.mono (by omega)))
      have hkI : (0 : Int) ≤ (k : Int) := by omega
      by_cases hlt : k < ts.length
      · exact absurd hlt (HE0.out k)
      · obtain rfl : k = ts.length := by omega
        have HG' := HG.out
        rw [List.take_length] at HG'
        obtain ⟨Gf, hO, hGf⟩ := HG'.own (by decide)
        have hrl := Tm.rens_length p ks ts
        obtain ⟨R, HRR⟩ : ∃ R, Hid (Tm.rens p ks ts = R) := ⟨_, hid rfl⟩
        rw [HRR.out] at hO hrl
        rw [← hrl] at hO
        obtain ⟨a2, cap2, rfl⟩ := Tm.sd_own_form hO
        have hOO := hid hO
        have r0 := (HB.out.cell (p := ⟨w.heap.size + 1, 0, none⟩) (by show w.heap.size + 1 < _; omega)).trans RB.out.c0
        have r1 := (HB.out.cell (p := ⟨w.heap.size + 1, 1, none⟩) (by show w.heap.size + 1 < _; omega)).trans RB.out.c1
        have f10 := (HB.out.frozen (p := ⟨w.heap.size + 1, 0, none⟩) (by show w.heap.size + 1 < _; omega)).trans (RF.out 0)
        have f11 := (HB.out.frozen (p := ⟨w.heap.size + 1, 1, none⟩) (by show w.heap.size + 1 < _; omega)).trans (RF.out 1)
        have hltn : ¬ (ts.length : Int) < (ts.length : Int) := by omega
        have HGF := hid hGf
        clear hrl hO hGf HG'
        go_wp2_with fail
        refine bodyPost_ret (v := .agg #[.string m, .slice a2 R.length cap2]) (by simp [results, Tryz.results58, go_sem, r0, r1]) rfl ?_
        refine ⟨_, Gf, by rw [HR.out]; rfl, ?_, fun x hx => by have := HGF.out x hx; omega, ?_⟩
        · rw [HR.out]
          show D.own _ _ (Tm.sd (Tm.rens p ks ts)) _
          rw [HRR.out]
          exact D.own_keep _ _ _ (((Keeps.refl _ _).set_lt HGF.out (by simp) _).set_lt HGF.out (by simp) _) hOO.out
        exact (HBW.out.setCell (by simp) _).setCell (by simp) _
  · have HK : Hid (kvLook (kvR p ks) n = none) := by rw [Hid, kvR_look, if_neg hin]
    obtain ⟨m, Hm⟩ : ∃ m, m = n := ⟨_, rfl⟩
    subst Hm
    have HR : Hid (Tm.ren p ks (.node m ts) = .node m (Tm.rens p ks ts)) := by
      rw [Hid, Tm.ren, renN, if_neg hin]
      split
      · rename_i hv
        have e : ts = [] := hlv.out hv
        rw [e, Tm.rens]
      · rfl
    have HW1 : Hid (Below w.heap.size w (((w.alloc (.cells #[.string m, .slice a ts.length cap] 50)).alloc (.cells #[.string ByteArray.empty, .slice none 0 0] 50)).alloc (.cells #[.string m, .slice none 0 0] 50))) := (((Below.refl _ _).alloc (Nat.le_refl _) _).alloc (by simp) _).alloc (by simp; omega) _
    have HZ1 : Hid ((((w.alloc (.cells #[.string m, .slice a ts.length cap] 50)).alloc (.cells #[.string ByteArray.empty, .slice none 0 0] 50)).alloc (.cells #[.string m, .slice none 0 0] 50)).heap.size = w.heap.size + 1 + 1 + 1) := by simp [Hid]
    have RB : Hid (Box (((w.alloc (.cells #[.string m, .slice a ts.length cap] 50)).alloc (.cells #[.string ByteArray.empty, .slice none 0 0] 50)).alloc (.cells #[.string m, .slice none 0 0] 50)) (w.heap.size + 1) [.string ByteArray.empty, .slice none 0 0]) := by
      have := (Box.new (w.alloc (.cells #[.string m, .slice a ts.length cap] 50)) [Value.string ByteArray.empty, .slice none 0 0] 50).alloc (.cells #[.string m, .slice none 0 0] 50)
      rw [Hid]
      simpa only [World.size_alloc] using this
    have RF : Hid (∀ p, (((w.alloc (.cells #[.string m, .slice a ts.length cap] 50)).alloc (.cells #[.string ByteArray.empty, .slice none 0 0] 50)).alloc (.cells #[.string m, .slice none 0 0] 50)).frozen? ⟨w.heap.size + 1, p, none⟩ = false) := fun p => (World.frozen?_alloc_past _ _ p (by simp)).trans (World.frozen?_alloc_at _ _ _ p (by simp))
    have OB : Hid ((((w.alloc (.cells #[.string m, .slice a ts.length cap] 50)).alloc (.cells #[.string ByteArray.empty, .slice none 0 0] 50)).alloc (.cells #[.string m, .slice none 0 0] 50)).cell? ⟨w.heap.size + 1 + 1, 0, none⟩ = some (.string m) ∧ (((w.alloc (.cells #[.string m, .slice a ts.length cap] 50)).alloc (.cells #[.string ByteArray.empty, .slice none 0 0] 50)).alloc (.cells #[.string m, .slice none 0 0] 50)).cell? ⟨w.heap.size + 1 + 1, 1, none⟩ = some (.slice none 0 0) ∧ ∀ p, (((w.alloc (.cells #[.string m, .slice a ts.length cap] 50)).alloc (.cells #[.string ByteArray.empty, .slice none 0 0] 50)).alloc (.cells #[.string m, .slice none 0 0] 50)).frozen? ⟨w.heap.size + 1 + 1, p, none⟩ = false) := ⟨(box3 w _ _ _ _ _ _ 0).2.2, (box3 w _ _ _ _ _ _ 1).2.2, fun p => frz1 _ _ _ _ _ (by simp)⟩
    have x0 := XB.out.c0
    have x1 := XB.out.c1
    clear hin
    go_enter Tryz.func58, Tryz.ntmps58
    go_wp2_with (at_lookup; go_must (refine wpList_look rfl _ _ (by rfl) HMW.out HND.out Tryz.underlying59 Tryz.underlying9 (zeroStrM _) (by rfl) (by rfl) ?_; rw [HK.out]; simp only [Option.getD_none, Option.isSome_none]))
    try rw [show ({ data := #[] } : ByteArray) = ByteArray.empty from rfl]
    clear x0 x1 HMW XB HW0
    generalize (((w.alloc (.cells #[.string m, .slice a ts.length cap] 50)).alloc (.cells #[.string ByteArray.empty, .slice none 0 0] 50)).alloc (.cells #[.string m, .slice none 0 0] 50)) = wl at *
    have hzl := HZ1.out
    go_loopw [32] (fun i wr => ∃ (k : Nat) (F : List Nat) (v : Value), k ≤ ts.length ∧ i = .int .i64 k ∧ Hid (Gr wr (w.heap.size + 1 + 1 + 1) 50 2 v k (Tm.css (Tm.rens p ks (ts.take k))) F) ∧ wr.cell? ⟨w.heap.size + 1 + 1, 0, none⟩ = some (.string m) ∧ wr.cell? ⟨w.heap.size + 1 + 1, 1, none⟩ = some v ∧ Hid (∀ p, wr.frozen? ⟨w.heap.size + 1 + 1, p, none⟩ = false) ∧ w.heap.size + 1 + 1 + 1 ≤ wr.heap.size ∧ Hid (Below (w.heap.size + 1 + 1) wl wr)) (fun i _ => ts.length - (intOf i).toNat)
    case atStart =>
      refine ⟨0, [], .slice none 0 0, Nat.zero_le _, rfl, by rw [List.take_zero, Tm.rens, Tm.css]; exact hid (Gr.nil _ _ _ _), OB.out.1, OB.out.2.1, OB.out.2.2, Nat.le_of_eq HZ1.out.symm, Below.refl _ _⟩
    case round =>
      obtain ⟨k, F, v, hk, rfl, HG, y0, y1, HY2, hz, HB⟩ := hrel
      have HBW := hid (HW1.out.trans (HB.out.mono (by omega)))
      have hkI : (0 : Int) ≤ (k : Int) := by omega
      by_cases hlt : k < ts.length
      · have hne : ts ≠ [] := by intro e; subst e; simp at hlt
        obtain ⟨b, off, rfl, hS, hbl, hrr⟩ := Tm.sd_get hs hne
        obtain ⟨c0, c1, q0, q1, q2⟩ := hrr k hlt
        replace q0 := (HBW.out.cell (p := ⟨b, off + k * 2, none⟩) hbl).trans q0
        replace q1 := (HBW.out.cell (p := ⟨b, off + k * 2 + 1, none⟩) hbl).trans q1
        replace q2 := Tm.at_keep (Keeps.all HBW.out) q2
        have hmem := hid (h ts[k] (List.getElem_mem hlt))
        have hbk' := Tm.bulk_mem (List.getElem_mem hlt)
        have hE := hid q2
        obtain ⟨rfl, hnk, x, xc, rfl⟩ := Tm.at_form q2
        obtain ⟨R, HRK⟩ : ∃ R, Hid (Tm.ren p ks ts[k] = R) := ⟨_, hid rfl⟩
        have hRn : R.name.size ≤ maxLen := by
          have := ren_name p hks ts[k]
          rw [HRK.out] at this
          have := Tm.name_bulk ts[k]
          unfold maxLen
          omega
        obtain ⟨r, Hr⟩ : ∃ r, Hid (v.ownBlock = r) := ⟨_, hid rfl⟩
        have HL : Hid (∀ y, r = some y → w.heap.size + 1 + 1 + 1 ≤ y ∧ y < wr.heap.size) := fun y hy => HG.out.lt y (Hr.out.trans hy)
        have n2 : ¬ r = some (w.heap.size + 1 + 1) := fun e => by have := HL.out _ e; omega
        have nw : ¬ r = some wr.heap.size := fun e => by have := HL.out _ e; omega
        have HMR := hid (HM.out.keep (Keeps.all HBW.out))
        clear hrr q2
        go_wp2_with fail
        have HA0 : Hid (Below wr.heap.size wr (wr.alloc (.cells #[.string ts[k].name, .slice x ts[k].args.length xc] 50))) := (Below.refl _ _).alloc (Nat.le_refl _) _
        have bE : Box (wr.alloc (.cells #[.string ts[k].name, .slice x ts[k].args.length xc] 50)) wr.heap.size [.string ts[k].name, .slice x ts[k].args.length xc] := Box.new _ _ _
        replace hE := hid (Tm.at_keep (Keeps.all HA0.out) hE.out)
        replace HG := hid (HG.out.keep HA0.out)
        replace HMR := hid (HMR.out.keep (Keeps.all HA0.out))
        replace y0 := (HA0.out.cell (p := ⟨w.heap.size + 1 + 1, 0, none⟩) (by show w.heap.size + 1 + 1 < _; omega)).trans y0
        replace y1 := (HA0.out.cell (p := ⟨w.heap.size + 1 + 1, 1, none⟩) (by show w.heap.size + 1 + 1 < _; omega)).trans y1
        replace HY2 : Hid (∀ p, (wr.alloc (.cells #[.string ts[k].name, .slice x ts[k].args.length xc] 50)).frozen? ⟨w.heap.size + 1 + 1, p, none⟩ = false) := fun p => (HA0.out.frozen (p := ⟨w.heap.size + 1 + 1, p, none⟩) (by show w.heap.size + 1 + 1 < _; omega)).trans (HY2.out p)
        replace HB := hid (HB.out.trans (HA0.out.mono (by omega)))
        have hzb : wr.heap.size + 1 = (wr.alloc (.cells #[.string ts[k].name, .slice x ts[k].args.length xc] 50)).heap.size := by simp
        clear q0 q1 HA0
        generalize wr.alloc (.cells #[.string ts[k].name, .slice x ts[k].args.length xc] 50) = wb at *
        have e0 := bE.c0
        have e1 := bE.c1
        have lE := bE.lt
        have l2 : w.heap.size + 1 + 1 < wb.heap.size := by omega
        have y2 := HY2.out 1
        have hBb : w.heap.size + 1 + 1 + 1 ≤ wb.heap.size := by omega
        refine region_late (l := [_, _, _, _, _, _, _, _]) (tl := [_]) (S := fun w1 => (wb).grownBy w1 (r)) (n := 8) rfl rfl (by kernel_rfl) (by kernel_rfl) (grown_of_below ((Below.refl _ _).drew) _) (fun hQL hS => ?_)
        refine late_take (i := 0) (d := some 36) (v := .pointer (some ⟨(w.heap.size + 1 + 1), 1, none⟩)) rfl rfl (by kernel_rfl) (by kernel_rfl) (by kernel_rfl) hQL (by rfl) (fun w1 _ => (by go_simp)) hS ?_
        try simp only [Act.put, List.setIfInBounds_toArray, List.set_cons_zero, List.set_cons_succ]
        refine late_take (i := 1) (d := some 37) (v := v) rfl rfl (by kernel_rfl) (by kernel_rfl) (by kernel_rfl) hQL (by rfl) (fun w1 hS1 => (by obtain ⟨hc, hf⟩ := bcellG hS1; go_simp)) hS ?_
        try simp only [Act.put, List.setIfInBounds_toArray, List.set_cons_zero, List.set_cons_succ]
        refine late_take (i := 2) (d := some 38) (v := .agg #[.string ts[k].name, .slice x ts[k].args.length xc]) rfl rfl (by kernel_rfl) (by kernel_rfl) (by kernel_rfl) hQL (by rfl) (fun w1 hS1 => (by obtain ⟨hc, hf⟩ := bcellG hS1; go_simp)) hS ?_
        try simp only [Act.put, List.setIfInBounds_toArray, List.set_cons_zero, List.set_cons_succ]
        refine late_take (i := 3) (d := some 39) (v := .map (some mb)) rfl rfl (by kernel_rfl) (by kernel_rfl) (by kernel_rfl) hQL (by rfl) (fun w1 _ => (by go_simp)) hS ?_
        try simp only [Act.put, List.setIfInBounds_toArray, List.set_cons_zero, List.set_cons_succ]
        refine wpAnyH_ready (rs := [4]) (by kernel_rfl) (by simp) ?_
        refine AllReadyH.cons rfl (fun K hK => ?_) AllReadyH.nil
        refine step_does rfl ?_
        unfold Does
        go_simp
        go_at_call 58
        have hq := hmem.out _ _ _ _ _ (Tm.at_keep (Keeps.all ((Below.refl _ _).drew)) hE.out) (HMR.out.keep (Keeps.all ((Below.refl _ _).drew))) (HLF.out _ (List.getElem_mem hlt)) (by omega)
        rw [HRK.out] at hq
        refine hq.mono ?_
        clear hq
        rintro e wc ⟨v1, G, rfl, ho, hG, hb1⟩
        obtain ⟨a1, cap1, rfl⟩ := Tm.sd_own_form ho
        have HO := hid ho
        have HGG : Hid (∀ y ∈ G, wb.heap.size ≤ y) := hG
        have HG1 := hid (HG.out.keep (Below.trans ((Below.refl _ _).drew) (hb1.mono (Nat.le_refl _))))
        have hz2 : wb.heap.size ≤ wc.heap.size := hb1.size
        clear ho hG
        refine ⟨_, rfl, ?_⟩
        refine hK.out _ _ (World.grownBy.trans hS (grown_of_below hb1 _)) (fun hS => ?_)
        try show wpAnyH _ _ _ _ _ _ _ (Act.put _ (some 40) _) _
        try simp only [Act.put, List.setIfInBounds_toArray, List.set_cons_zero, List.set_cons_succ]
        refine wpAnyH_ready (rs := [5]) (by kernel_rfl) (by simp) ?_
        refine AllReadyH.cons rfl (fun K hK => ?_) AllReadyH.nil
        go_simp
        refine hK.out _ _ (World.grownBy.trans hS (World.grownBy_alloc _ _ _)) (fun hS => ?_)
        try show wpAnyH _ _ _ _ _ _ _ (Act.put _ (some 41) _) _
        try simp only [Act.put, List.setIfInBounds_toArray, List.set_cons_zero, List.set_cons_succ]
        refine wpAnyH_ready (rs := [6]) (by kernel_rfl) (by simp) ?_
        refine AllReadyH.cons rfl (fun K hK => ?_) AllReadyH.nil
        refine step_append_gr (news := [.string R.name, .slice a1 R.args.length cap1]) (G := G) Tryz.underlying48 infoTerm rfl (by decide) (by decide) rfl _ _ (by rfl) (by rfl) (by rfl) (HG1.out.keep ((Below.refl _ _).alloc (Nat.le_refl _) _)) rfl (by intro j u hj; rw [box1]; simpa using hj) (by simp [Value.oneCell']) ((Tm.own_item hRn HO.out).keep (Keeps.all ((Below.refl _ _).alloc (Nat.le_refl _) _))) (fun y hy => by have := HGG.out y hy; omega) (fun y hy hy' => by have := HGG.out y hy'; have := HG.out.ltF y hy; omega) (fun y hy hy' => by have := HGG.out y hy'; have := HG.out.lt y hy; omega) (by omega) (by simp; omega) ?_
        intro g capg wg hg hgr hgo hglt
        rw [Hr.out] at hgr
        refine hK.out _ _ (World.grownBy.trans hS hgr) (fun hS => ?_)
        try show wpAnyH _ _ _ _ _ _ _ (Act.put _ (some 42) _) _
        try simp only [Act.put, List.setIfInBounds_toArray, List.set_cons_zero, List.set_cons_succ]
        refine late_take (i := 7) (d := some 43) (v := .pointer (some ⟨(w.heap.size + 1 + 1), 1, none⟩)) rfl rfl (by kernel_rfl) (by kernel_rfl) (by kernel_rfl) hQL (by rfl) (fun w1 _ => (by go_simp)) hS ?_
        try simp only [Act.put, List.setIfInBounds_toArray, List.set_cons_zero, List.set_cons_succ]
        refine wpAnyH_done (by kernel_rfl) ?_ _
        show wpTail _ _ _ _ _
        refine wpTail_step rfl (fun K hK => ?_)
        obtain ⟨hc, hf⟩ := bcellG hS
        go_simp
        refine hK.out _ _ ?_
        try clear hc hf
        refine wpTail_nil ?_
        have hgz := hS.size
        have HBg : Hid (Below (w.heap.size + 1 + 1) wb wg) := (Below.refl _ _).grown hS (by omega) (fun y hy => by have := HL.out y hy; omega)
        have z0g := (bcellG hS).1 (w.heap.size + 1 + 1) 0 l2 n2
        have z1g := (bcellG hS).1 (w.heap.size + 1 + 1) 1 l2 n2
        have z2g := fun p => (bcellG hS).2 (w.heap.size + 1 + 1) p l2 n2
        have HG2 := hid hg
        clear hg hgr hgo hglt hS
        go_wp2_with fail
        go_roundw
        case rel =>
          refine ⟨k + 1, F ++ G, .slice (some ⟨g, 0, none⟩) (k + 1) capg, by omega, by go_num, hid ?_, ?_, ?_, hid (fun p => ?_), ?_, hid ?_⟩
          · rw [Tm.rens_take p ks ts k hlt, HRK.out, Tm.css_snoc, ← Tm.cs_eq]
            exact HG2.out.setCell (by show w.heap.size + 1 + 1 < _; omega) _
          · rw [World.cell?_setCell_other _ _ _ _ (by intro e; injection e with _ e; omega)]; exact z0g.trans y0
          · exact World.cell?_setCell_same _ _ _ (z1g.trans y1)
          · rw [World.frozen?_setCell]; exact (z2g p).trans (HY2.out p)
          · rw [World.size_setCell]; omega
          · exact (HB.out.trans HBg.out).setCell (Nat.le_refl _) _
        case measure => simp [intOf]; omega
      · obtain rfl : k = ts.length := by omega
        have HG' := HG.out
        rw [List.take_length] at HG'
        obtain ⟨Gf, hO, hGf⟩ := HG'.own (by decide)
        have hrl := Tm.rens_length p ks ts
        obtain ⟨R, HRR⟩ : ∃ R, Hid (Tm.rens p ks ts = R) := ⟨_, hid rfl⟩
        rw [HRR.out] at hO hrl
        rw [← hrl] at hO
        obtain ⟨a2, cap2, rfl⟩ := Tm.sd_own_form hO
        have hOO := hid hO
        have r0 := (HB.out.cell (p := ⟨w.heap.size + 1, 0, none⟩) (by show w.heap.size + 1 < _; omega)).trans RB.out.c0
        have r1 := (HB.out.cell (p := ⟨w.heap.size + 1, 1, none⟩) (by show w.heap.size + 1 < _; omega)).trans RB.out.c1
        have f10 := (HB.out.frozen (p := ⟨w.heap.size + 1, 0, none⟩) (by show w.heap.size + 1 < _; omega)).trans (RF.out 0)
        have f11 := (HB.out.frozen (p := ⟨w.heap.size + 1, 1, none⟩) (by show w.heap.size + 1 < _; omega)).trans (RF.out 1)
        have hltn : ¬ (ts.length : Int) < (ts.length : Int) := by omega
        have HGF := hid hGf
        clear hrl hO hGf HG'
        go_wp2_with fail
        refine bodyPost_ret (v := .agg #[.string m, .slice a2 R.length cap2]) (by simp [results, Tryz.results58, go_sem, r0, r1]) rfl ?_
        refine ⟨_, Gf, by rw [HR.out]; rfl, ?_, fun x hx => by have := HGF.out x hx; omega, ?_⟩
        · rw [HR.out]
          show D.own _ _ (Tm.sd (Tm.rens p ks ts)) _
          rw [HRR.out]
          exact D.own_keep _ _ _ (((Keeps.refl _ _).set_lt HGF.out (by simp) _).set_lt HGF.out (by simp) _) hOO.out
        exact (HBW.out.setCell (by simp) _).setCell (by simp) _
theorem renI_any (p : ByteArray) (ks : List ByteArray) (hp : p.size ≤ 1048576) (hks : ks.length ≤ 999999) (hnd : ks.Nodup) (hkv : ∀ k ∈ ks, varName k = true) (t : Tm) : RenI p ks t := Tm.ind (fun n ts h => renI_of p ks hp hks hnd hkv n ts h) t
end Go.Proofs.YtooocakkjdhfiaaGreatDoor
/- The program renames the variables of a clause. -/
namespace Go.Proofs.YtooocakkjdhfiaaGreatDoor
set_option maxRecDepth 100000
open Go.RowKit

set_option maxHeartbeats 4000000 in
theorem renamedClause_any (c : UInt8) (ks : List ByteArray) (hc : upB c.toNat = true) (hks : ks.length ≤ 1000) (hnd : ks.Nodup) (hkv : ∀ k ∈ ks, varName k = true) {t : Cl} {S : Nat → Prop} {c0 : Value} {mb : Nat} {w : World} (ht : Cl.at S w c0 t) (hm : MapIs w mb (kvR ⟨#[c]⟩ ks)) (hni : ∀ x ∈ t.ls, x.atom.nice = true) (hlf : ∀ x ∈ t.ls, x.atom.leafy) (hbk : t.bulk ≤ 30000) (hbr : Lit.bulks (t.ls.map (renL ⟨#[c]⟩ ks)) ≤ 30000) :
    Calls Tryz.prog 37 #[.agg #[c0], .map (some mb)] w (MadeCl (t.ren ⟨#[c]⟩ ks) w) := by
  obtain ⟨ts⟩ := t
  rw [Cl.bulk] at hbk
  simp only at hbk hni hlf hbr ⊢
  have HT := hid (D.rd_lt _ _ ht)
  obtain ⟨a, cap, rfl⟩ := Cl.at_form ht
  simp only at HT ⊢
  have HR0 : Hid (∀ x ∈ ts.map (renL ⟨#[c]⟩ ks), x.atom.nice = true) := fun x hx => by
    obtain ⟨y, hy, rfl⟩ := List.mem_map.1 hx
    exact Tm.ren_nice hc hks y.atom (hni y hy)
  obtain ⟨p, Hp⟩ : ∃ p : ByteArray, Hid ((⟨#[c]⟩ : ByteArray) = p) := ⟨_, hid rfl⟩
  have hp : p.size ≤ 1048576 := by rw [← Hp.out]; show 1 ≤ 1048576; decide
  rw [Hp.out] at hm hbr HR0 ⊢
  obtain ⟨ms, Hms⟩ : ∃ ms, Hid (ts.map (renL p ks) = ms) := ⟨_, hid rfl⟩
  have hml : ms.length = ts.length := by rw [← Hms.out, List.length_map]
  have HMS : Hid (∀ k (h : k < ts.length) (h' : k < ms.length), ms[k] = renL p ks ts[k]) := fun k h h' => by
    have := Hms.out
    subst this
    simp
  have HRES : Hid ((Cl.ren p ks ⟨ts⟩) = ⟨makeL ms⟩) := by rw [Hid, Cl.ren, Hms.out]
  rw [HRES.out]
  rw [Hms.out] at hbr HR0
  have HNI := HR0
  have HLF := hid hlf
  have HND := hid hnd
  have HKV := hid hkv
  have HP := hid hp
  have HM := hid hm
  have hmb := hm.lt
  have HML := hid hml
  clear hni hlf hnd hkv hc HR0 hm ht hp hml
  have hW : Below w.heap.size w (((w.alloc (.cells #[.slice a ts.length cap] 28)).alloc (.cells #[.slice none 0 0] 28)).alloc (.cells #[] 52)) := (((Below.refl _ _).alloc (Nat.le_refl _) _).alloc (by simp) _).alloc (by simp; omega) _
  have tb : Box (((w.alloc (.cells #[.slice a ts.length cap] 28)).alloc (.cells #[.slice none 0 0] 28)).alloc (.cells #[] 52)) w.heap.size [.slice a ts.length cap] := ((Box.new w [Value.slice a ts.length cap] 28).alloc _).alloc _
  have rb : Box (((w.alloc (.cells #[.slice a ts.length cap] 28)).alloc (.cells #[.slice none 0 0] 28)).alloc (.cells #[] 52)) (w.heap.size + 1) [.slice none 0 0] := by
    have := (Box.new (w.alloc (.cells #[.slice a ts.length cap] 28)) [Value.slice none 0 0] 28).alloc (.cells #[] 52)
    simpa only [World.size_alloc] using this
  have rf : (((w.alloc (.cells #[.slice a ts.length cap] 28)).alloc (.cells #[.slice none 0 0] 28)).alloc (.cells #[] 52)).frozen? ⟨w.heap.size + 1, 0, none⟩ = false := (World.frozen?_alloc_past _ _ 0 (by simp)).trans (World.frozen?_alloc_at _ _ _ 0 (by simp))
  have HZ : Hid ((((w.alloc (.cells #[.slice a ts.length cap] 28)).alloc (.cells #[.slice none 0 0] 28)).alloc (.cells #[] 52)).heap.size = w.heap.size + 1 + 1 + 1) := by simp [Hid]
  have HG0 : Hid (Gr (((w.alloc (.cells #[.slice a ts.length cap] 28)).alloc (.cells #[.slice none 0 0] 28)).alloc (.cells #[] 52)) (w.heap.size + 1 + 1) 52 3 (.slice (some ⟨w.heap.size + 1 + 1, 0, none⟩) 0 0) 0 [] []) := Gr.made _ _ (by simp) (by simp)
  have x0 := tb.c0
  go_enter Tryz.func37, Tryz.ntmps37
  go_wp2_with fail
  clear x0
  generalize (((w.alloc (.cells #[.slice a ts.length cap] 28)).alloc (.cells #[.slice none 0 0] 28)).alloc (.cells #[] 52)) = w0 at *
  have hz0 := HZ.out
  go_loopw [5, 12] (fun v i wr => ∃ (k : Nat) (F : List Nat), k ≤ ts.length ∧ i = .int .i64 k ∧ Hid (Gr wr (w.heap.size + 1 + 1) 52 3 v k (Lit.css (ms.take k)) F) ∧ w.heap.size + 1 + 1 + 1 ≤ wr.heap.size ∧ Hid (Below (w.heap.size + 1 + 1) w0 wr)) (fun _ i _ => ts.length - (intOf i).toNat)
  case atStart => exact ⟨0, [], Nat.zero_le _, rfl, by rw [List.take_zero]; exact HG0, by omega, Below.refl _ _⟩
  case round =>
    obtain ⟨k, F, hk, rfl, HG, hz, HB⟩ := hrel
    have HBW := hid (hW.trans (HB.out.mono (by omega)))
    by_cases hlt : k < ts.length
    · have hne : ts ≠ [] := by intro e; subst e; simp at hlt
      obtain ⟨b, off, rfl, hS, hbl, hrr⟩ := Lit.sd_get HT.out hne
      obtain ⟨c0, c1, c2, q0, q1, q2, qx⟩ := hrr k hlt
      have hnl := Lit.name_leA qx
      have hbm : ts[k].atom.bulk ≤ 1048576 := by have := Lit.bulk_memA (List.getElem_mem hlt); omega
      have hE := hid (Lit.at_keep (Keeps.all HBW.out) qx)
      obtain ⟨rfl, rfl, x, xc, rfl⟩ := Lit.at_form qx
      replace q0 := (HBW.out.cell (p := ⟨b, off + k * 3, none⟩) hbl).trans q0
      replace q1 := (HBW.out.cell (p := ⟨b, off + k * 3 + 1, none⟩) hbl).trans q1
      replace q2 := (HBW.out.cell (p := ⟨b, off + k * 3 + 2, none⟩) hbl).trans q2
      obtain ⟨r, Hr⟩ : ∃ r, Hid (u5.ownBlock = r) := ⟨_, hid rfl⟩
      have HL : Hid (∀ y, r = some y → w.heap.size + 1 + 1 ≤ y ∧ y < wr.heap.size) := fun y hy => HG.out.lt y (Hr.out.trans hy)
      have nw : ¬ r = some wr.heap.size := fun e => by have := HL.out _ e; omega
      have HMR := hid (HM.out.keep (Keeps.all HBW.out))
      obtain ⟨R, HRK⟩ : ∃ R, Hid (Tm.ren p ks ts[k].atom = R) := ⟨_, hid rfl⟩
      have hRn : R.name.size ≤ maxLen := by
        have := ren_name p (show ks.length ≤ 999999 by omega) ts[k].atom
        rw [HRK.out] at this
        have := Tm.name_bulk ts[k].atom
        have := HP.out
        unfold maxLen
        omega
      clear hrr qx
      go_wp2_with fail
      have HA0 : Hid (Below wr.heap.size wr (wr.alloc (.cells #[.bool ts[k].pos, .string ts[k].atom.name, .slice x ts[k].atom.args.length xc] 52))) := (Below.refl _ _).alloc (Nat.le_refl _) _
      have bE : Box (wr.alloc (.cells #[.bool ts[k].pos, .string ts[k].atom.name, .slice x ts[k].atom.args.length xc] 52)) wr.heap.size [.bool ts[k].pos, .string ts[k].atom.name, .slice x ts[k].atom.args.length xc] := Box.new _ _ _
      replace hE := hid (Lit.at_atom (Lit.at_keep (Keeps.all HA0.out) hE.out))
      replace HG := hid (HG.out.keep HA0.out)
      replace HMR := hid (HMR.out.keep (Keeps.all HA0.out))
      replace HB := hid (HB.out.trans (HA0.out.mono (by omega)))
      have hzb : wr.heap.size + 1 = (wr.alloc (.cells #[.bool ts[k].pos, .string ts[k].atom.name, .slice x ts[k].atom.args.length xc] 52)).heap.size := by simp
      replace HBW := hid (HBW.out.trans (HA0.out.mono HBW.out.size))
      clear q0 q1 q2 HA0
      generalize wr.alloc (.cells #[.bool ts[k].pos, .string ts[k].atom.name, .slice x ts[k].atom.args.length xc] 52) = wb at *
      have e0 := bE.c0
      have e1 := bE.c1
      have e2 : wb.cell? ⟨wr.heap.size, 1 + 1, none⟩ = _ := bE.c2
      have lE := bE.lt
      have hBb : w.heap.size + 1 + 1 ≤ wb.heap.size := by omega
      refine region_late (l := [_, _, _, _, _, _, _, _, _, _, _]) (tl := []) (S := fun w1 => (wb).grownBy w1 (r)) (n := 11) rfl rfl (by kernel_rfl) (by kernel_rfl) (grown_of_below ((Below.refl _ _).drew) _) (fun hQL hS => ?_)
      refine late_take (i := 0) (d := some 16) (v := u5) rfl rfl (by kernel_rfl) (by kernel_rfl) (by kernel_rfl) hQL (by rfl) (fun w1 _ => (by go_simp)) hS ?_
      try simp only [Act.put, List.setIfInBounds_toArray, List.set_cons_zero, List.set_cons_succ]
      refine late_take (i := 1) (d := some 17) (v := .pointer (some ⟨wr.heap.size, 0, none⟩)) rfl rfl (by kernel_rfl) (by kernel_rfl) (by kernel_rfl) hQL (by rfl) (fun w1 _ => (by go_simp)) hS ?_
      try simp only [Act.put, List.setIfInBounds_toArray, List.set_cons_zero, List.set_cons_succ]
      refine late_take (i := 2) (d := some 18) (v := .bool ts[k].pos) rfl rfl (by kernel_rfl) (by kernel_rfl) (by kernel_rfl) hQL (by rfl) (fun w1 hS1 => (by obtain ⟨hc, hf⟩ := bcellG hS1; go_simp)) hS ?_
      try simp only [Act.put, List.setIfInBounds_toArray, List.set_cons_zero, List.set_cons_succ]
      refine late_take (i := 3) (d := some 19) (v := .pointer (some ⟨wr.heap.size, 1, none⟩)) rfl rfl (by kernel_rfl) (by kernel_rfl) (by kernel_rfl) hQL (by rfl) (fun w1 _ => (by go_simp)) hS ?_
      try simp only [Act.put, List.setIfInBounds_toArray, List.set_cons_zero, List.set_cons_succ]
      refine late_take (i := 4) (d := some 20) (v := .agg #[.string ts[k].atom.name, .slice x ts[k].atom.args.length xc]) rfl rfl (by kernel_rfl) (by kernel_rfl) (by kernel_rfl) hQL (by rfl) (fun w1 hS1 => (by obtain ⟨hc, hf⟩ := bcellG hS1; go_simp)) hS ?_
      try simp only [Act.put, List.setIfInBounds_toArray, List.set_cons_zero, List.set_cons_succ]
      refine late_take (i := 5) (d := some 21) (v := .map (some mb)) rfl rfl (by kernel_rfl) (by kernel_rfl) (by kernel_rfl) hQL (by rfl) (fun w1 _ => (by go_simp)) hS ?_
      try simp only [Act.put, List.setIfInBounds_toArray, List.set_cons_zero, List.set_cons_succ]
      refine wpAnyH_ready (rs := [6]) (by kernel_rfl) (by simp) ?_
      refine AllReadyH.cons rfl (fun K hK => ?_) AllReadyH.nil
      refine step_does rfl ?_
      unfold Does
      go_simp
      go_at_call 58
      have hq := renI_any p ks HP.out (by omega) HND.out HKV.out ts[k].atom _ _ _ _ _ (Tm.at_keep (Keeps.all ((Below.refl _ _).drew)) hE.out) (HMR.out.keep (Keeps.all ((Below.refl _ _).drew))) (HLF.out _ (List.getElem_mem hlt)) hbm
      rw [HRK.out] at hq
      refine hq.mono ?_
      clear hq
      rintro e wc ⟨v1, G, rfl, ho, hG, hb1⟩
      obtain ⟨a1, cap1, rfl⟩ := Tm.sd_own_form ho
      have HO := hid ho
      have HGG : Hid (∀ y ∈ G, wb.heap.size ≤ y) := hG
      have HG1 := hid (HG.out.keep (Below.trans ((Below.refl _ _).drew) (hb1.mono (Nat.le_refl _))))
      have hz2 : wb.heap.size ≤ wc.heap.size := hb1.size
      clear ho hG
      refine ⟨_, rfl, ?_⟩
      refine hK.out _ _ (World.grownBy.trans hS (grown_of_below hb1 _)) (fun hS => ?_)
      try show wpAnyH _ _ _ _ _ _ _ (Act.put _ (some 22) _) _
      try simp only [Act.put, List.setIfInBounds_toArray, List.set_cons_zero, List.set_cons_succ]
      refine late_take (i := 7) (d := some 23) (v := .agg #[.bool ts[k].pos, .string R.name, .slice a1 R.args.length cap1]) rfl rfl (by kernel_rfl) (by kernel_rfl) (by kernel_rfl) hQL (by rfl) (fun w1 _ => (by go_simp)) hS ?_
      try simp only [Act.put, List.setIfInBounds_toArray, List.set_cons_zero, List.set_cons_succ]
      refine wpAnyH_ready (rs := [8]) (by kernel_rfl) (by simp) ?_
      refine AllReadyH.cons rfl (fun K hK => ?_) AllReadyH.nil
      go_simp
      refine hK.out _ _ (World.grownBy.trans hS (World.grownBy_alloc _ _ _)) (fun hS => ?_)
      try show wpAnyH _ _ _ _ _ _ _ (Act.put _ (some 24) _) _
      try simp only [Act.put, List.setIfInBounds_toArray, List.set_cons_zero, List.set_cons_succ]
      refine wpAnyH_ready (rs := [9]) (by kernel_rfl) (by simp) ?_
      refine AllReadyH.cons rfl (fun K hK => ?_) AllReadyH.nil
      refine step_append_gr (news := [.bool ts[k].pos, .string R.name, .slice a1 R.args.length cap1]) (G := G) (ds := (Lit.cs ⟨ts[k].pos, R⟩)) Tryz.underlying26 infoLitI rfl (by decide) (by decide) rfl _ _ (by rfl) (by rfl) (by rfl) (HG1.out.keep ((Below.refl _ _).alloc (Nat.le_refl _) _)) rfl (by intro j u hj; rw [box1]; simpa using hj) (by simp [Value.oneCell']) ((Lit.own_item (x := ⟨ts[k].pos, R⟩) hRn HO.out).keep (Keeps.all ((Below.refl _ _).alloc (Nat.le_refl _) _))) (fun y hy => by have := HGG.out y hy; omega) (fun y hy hy' => by have := HGG.out y hy'; have := HG.out.ltF y hy; omega) (fun y hy hy' => by have := HGG.out y hy'; have := HG.out.lt y hy; omega) (by omega) (by simp; omega) ?_
      intro g capg wg hg hgr hgo hglt
      rw [Hr.out] at hgr
      refine hK.out _ _ (World.grownBy.trans hS hgr) (fun hS => ?_)
      try show wpAnyH _ _ _ _ _ _ _ (Act.put _ (some 25) _) _
      try simp only [Act.put, List.setIfInBounds_toArray, List.set_cons_zero, List.set_cons_succ]
      refine late_take (i := 10) (d := some 5) (v := .slice (some ⟨g, 0, none⟩) (k + 1) capg) rfl rfl (by kernel_rfl) (by kernel_rfl) (by kernel_rfl) hQL (by rfl) (fun w1 _ => (by go_simp)) hS ?_
      try simp only [Act.put, List.setIfInBounds_toArray, List.set_cons_zero, List.set_cons_succ]
      refine wpAnyH_done (by kernel_rfl) ?_ _
      show wpTail _ _ _ _ _
      refine wpTail_nil ?_
      have hgz := hS.size
      have HBg : Hid (Below (w.heap.size + 1 + 1) wb wg) := (Below.refl _ _).grown hS (by omega) (fun y hy => by have := HL.out y hy; omega)
      have HG2 := hid hg
      clear hg hgr hgo hglt hS
      go_wp2_with fail
      go_roundw
      case rel =>
        refine ⟨k + 1, F ++ G, by omega, by go_num, hid ?_, by omega, hid ?_⟩
        · have hlm : k < ms.length := by have := HML.out; omega
          rw [Lit.css_take_succ ms k hlm, ← Lit.cs_eq, HMS.out k hlt hlm, renL, HRK.out]
          exact HG2.out
        · exact HB.out.trans HBg.out
      case measure => simp [intOf]; omega
    · obtain rfl : k = ts.length := by omega
      have HG' := HG.out
      rw [← HML.out, List.take_length] at HG'
      obtain ⟨Gf, hO, hGf⟩ := HG'.own (by decide)
      rw [← Lit.sd_css] at hO
      have hq := hid (clauseOf_any (D.own_rd _ _ _ hO) (by have := HML.out; omega) HNI.out)
      have r0 : wr.cell? ⟨w.heap.size + 1, 0, none⟩ = some (.slice none 0 0) := (HB.out.cell (p := ⟨w.heap.size + 1, 0, none⟩) (by show w.heap.size + 1 < w.heap.size + 1 + 1; omega)).trans rb.c0
      have r1 : wr.frozen? ⟨w.heap.size + 1, 0, none⟩ = false := (HB.out.frozen (p := ⟨w.heap.size + 1, 0, none⟩) (by show w.heap.size + 1 < w.heap.size + 1 + 1; omega)).trans rf
      have hqn : ¬ (ts.length : Int) < (ts.length : Int) := by omega
      clear hO hGf HG'
      go_wp2_with fail
      refine hq.out.mono ?_
      rintro e w1 ⟨v1, F1, rfl, ho1, hF1, hb1⟩
      obtain ⟨a2, cap2, rfl⟩ := Lit.sd_own_form ho1
      replace r0 := (hb1.cell (p := ⟨w.heap.size + 1, 0, none⟩) (by show w.heap.size + 1 < _; omega)).trans r0
      replace r1 := (hb1.frozen (p := ⟨w.heap.size + 1, 0, none⟩) (by show w.heap.size + 1 < _; omega)).trans r1
      have HBW1 := hid (HBW.out.trans (hb1.mono HBW.out.size))
      have HO1 := hid ho1
      have HF1 := hid hF1
      have l1 : w.heap.size + 1 < w1.heap.size := by have := hb1.size; omega
      have nF1 : w.heap.size + 1 ∉ F1 := fun q => by have := HF1.out _ q; omega
      clear hq ho1 hF1 hb1
      go_wp2_with fail
      refine bodyPost_ret (v := .agg #[.slice a2 (makeL ms).length cap2]) (by simp [results, Tryz.results37, go_sem, r0]) rfl ?_
      refine ⟨_, F1, rfl, ?_, fun y hy => by have := HF1.out y hy; omega, ?_⟩
      · exact D.own_keep _ _ _ ((Keeps.refl (· ∈ F1) w1).setCell (fun q _ => nF1 q) _) HO1.out
      · exact HBW1.out.setCell (by simp) _
end Go.Proofs.YtooocakkjdhfiaaGreatDoor
