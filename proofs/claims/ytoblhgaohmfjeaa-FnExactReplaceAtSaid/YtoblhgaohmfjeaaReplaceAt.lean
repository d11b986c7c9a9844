/- For every input the law FnExactReplaceAt returns true, and each argument reads behind the call as it read before it. No conditions. -/
import Derived.Test.YtoblhgaohmfjeaaRows
import Derived.Test.YtoblhgaohmfjeaaBrT
import Derived.Test.YtoblhgaohmfjeaaSz
import Derived.Test.YtoblhgaohmfjeaaTo
import Derived.Test.YtoblhgaohmfjeaaEq
import Derived.Test.YtoblhgaohmfjeaaRp
import Derived.Test.YtoblhgaohmfjeaaZb
import Derived.Deep.Cut
import Derived.OpenShut
namespace Go.Proofs.Ytoblhgaohmfjeaa.fnExactReplaceAt
set_option maxRecDepth 100000
open Go.ChangeShapes Go.WideShapes Go.ChangeAt Go.RowKit

set_option maxHeartbeats 4000000 in
theorem walk (t0 t1 : Value) (t : Tm) {w : World} (ht : Tm.at (fun _ => True) w t0 t1 t) (pv : Value) (p : List Int) (hp : D.rd (fun _ => True) w pv (slOf intE p)) (s0 s1 : Value) (s : Tm) (hs : Tm.at (fun _ => True) w s0 s1 s) :
    Calls Try.prog 3 #[.agg #[t0, t1], pv, .agg #[s0, s1]] w fun e w' => e = .returned (.bool true) ∧ Below w.heap.size w w' := by
  obtain ⟨rfl, hnt, ta0, tc0, rfl⟩ := Tm.at_form ht
  obtain ⟨pa0, pc0, rfl, -, -⟩ := slOf_form hp
  obtain ⟨rfl, hns, sa0, sc0, rfl⟩ := Tm.at_form hs
  obtain ⟨r, Hr⟩ : ∃ r, Hid (repR t p s = r) := ⟨_, hid rfl⟩
  obtain ⟨ok, Hok⟩ : ∃ ok : Bool, Hid (repOk t p s = ok) := ⟨_, hid rfl⟩
  have hW : Below w.heap.size w ((w.alloc (.cells #[.string t.name, .slice ta0 t.args.length tc0] 24)).alloc (.cells #[.string s.name, .slice sa0 s.args.length sc0] 24)) := ((Below.refl _ _).alloc (Nat.le_refl _) _).alloc (by simp) _
  have bt : Box ((w.alloc (.cells #[.string t.name, .slice ta0 t.args.length tc0] 24)).alloc (.cells #[.string s.name, .slice sa0 s.args.length sc0] 24)) (w.heap.size) [.string t.name, .slice ta0 t.args.length tc0] := by
    have := (Box.new w [.string t.name, .slice ta0 t.args.length tc0] 24).alloc (.cells #[.string s.name, .slice sa0 s.args.length sc0] 24)
    simpa only [World.size_alloc] using this
  have bs : Box ((w.alloc (.cells #[.string t.name, .slice ta0 t.args.length tc0] 24)).alloc (.cells #[.string s.name, .slice sa0 s.args.length sc0] 24)) (w.heap.size + 1) [.string s.name, .slice sa0 s.args.length sc0] := by
    have := (Box.new (w.alloc (.cells #[.string t.name, .slice ta0 t.args.length tc0] 24)) [.string s.name, .slice sa0 s.args.length sc0] 24)
    simpa only [World.size_alloc] using this
  replace ht := Tm.at_keep (Keeps.all hW) ht
  replace hp := D.rd_keep (Keeps.all hW) _ _ hp
  replace hs := Tm.at_keep (Keeps.all hW) hs
  have z0 : Hid (w.heap.size + 2 ≤ ((w.alloc (.cells #[.string t.name, .slice ta0 t.args.length tc0] 24)).alloc (.cells #[.string s.name, .slice sa0 s.args.length sc0] 24)).heap.size) := by simp [Hid]
  go_enter Try.func3, Try.ntmps3
  by_cases hbp : p.length ≤ 1048576
  rotate_left
  · go_wp2_with fail
    go_ret
    exact ⟨rfl, hW⟩
  have ebt0 := bt.c0
  have ebt1 := bt.c1
  have lbt := bt.lt
  have ebs0 := bs.c0
  have ebs1 := bs.c1
  have lbs := bs.lt
  go_wp2_with fail
  generalize ((w.alloc (.cells #[.string t.name, .slice ta0 t.args.length tc0] 24)).alloc (.cells #[.string s.name, .slice sa0 s.args.length sc0] 24)) = w0 at *
  refine (szTerm_any t _ _ _ _ _ ht (by omega) (by omega)).mono ?_
  rintro e w1 ⟨rfl, hb⟩
  have z1 : Hid (w0.heap.size ≤ w1.heap.size) := hb.size
  replace hW := hW.trans (hb.mono hW.size)
  replace bt := bt.keep hb
  replace bs := bs.keep hb
  replace ht := Tm.at_keep (Keeps.all hb) ht
  replace hp := D.rd_keep (Keeps.all hb) _ _ hp
  replace hs := Tm.at_keep (Keeps.all hb) hs
  clear ebt0 ebt1 lbt ebs0 ebs1 lbs hb
  by_cases hzt : (t.bulk : Int) ≤ 1048576
  rotate_left
  · rw [after_neg (by omega)]
    go_wp2_with fail
    go_ret
    exact ⟨rfl, hW⟩
  rw [after_pos hzt]
  have hbt : t.bulk ≤ 1048576 := by omega
  have ebt0 := bt.c0
  have ebt1 := bt.c1
  have lbt := bt.lt
  have ebs0 := bs.c0
  have ebs1 := bs.c1
  have lbs := bs.lt
  go_wp2_with fail
  refine (szTerm_any s _ _ _ _ _ hs (by omega) (by omega)).mono ?_
  rintro e w2 ⟨rfl, hb⟩
  have z2 : Hid (w1.heap.size ≤ w2.heap.size) := hb.size
  replace hW := hW.trans (hb.mono hW.size)
  replace bt := bt.keep hb
  replace bs := bs.keep hb
  replace ht := Tm.at_keep (Keeps.all hb) ht
  replace hp := D.rd_keep (Keeps.all hb) _ _ hp
  replace hs := Tm.at_keep (Keeps.all hb) hs
  clear ebt0 ebt1 lbt ebs0 ebs1 lbs hb
  by_cases hzs : (s.bulk : Int) ≤ 1048576 - (t.bulk : Nat)
  rotate_left
  · rw [after_neg (by omega)]
    go_wp2_with fail
    go_ret
    exact ⟨rfl, hW⟩
  rw [after_pos hzs]
  have hbs : s.bulk ≤ 1048576 := by omega
  have ebt0 := bt.c0
  have ebt1 := bt.c1
  have lbt := bt.lt
  have ebs0 := bs.c0
  have ebs1 := bs.c1
  have lbs := bs.lt
  go_wp2_with fail
  have hbr : r.bulk ≤ 1048576 := by
    rw [← Hr.out]
    exact repR_bulk t p s (by omega)
  have hnr : r.name.size ≤ maxLen := Tm.name_le hbr
  have hcr : 1 + Tm.sizes r.args ≤ 1099511627776 := by
    have := Tm.sizes_le_bulk r
    omega
  obtain ⟨rm, Hrm⟩ : ∃ n : Nat, Hid (1 + Tm.sizes r.args = n) := ⟨_, hid rfl⟩
  have hrm : ¬ ((rm : Nat) : Int) < 0 := by omega
  go_cut [8, 9] from 22 (fun v8 v9 wc => ZEnd w2 r ok v8 v9 wc)
  case first =>
    have HMK : Hid (∀ w', Below w2.heap.size w2 w' → (w'.cell? ⟨w.heap.size, 0, none⟩ = some (.string t.name) ∧ w'.cell? ⟨w.heap.size, 1, none⟩ = some (.slice ta0 t.args.length tc0) ∧ w'.cell? ⟨w.heap.size + 1, 0, none⟩ = some (.string s.name) ∧ w'.cell? ⟨w.heap.size + 1, 1, none⟩ = some (.slice sa0 s.args.length sc0) ∧ Below w2.heap.size w2 w')) := fun w' h => ⟨(bt.keep h).c0, (bt.keep h).c1, (bs.keep h).c0, (bs.keep h).c1, h⟩
    have HEX : Hid (∀ w', (w'.cell? ⟨w.heap.size, 0, none⟩ = some (.string t.name) ∧ w'.cell? ⟨w.heap.size, 1, none⟩ = some (.slice ta0 t.args.length tc0) ∧ w'.cell? ⟨w.heap.size + 1, 0, none⟩ = some (.string s.name) ∧ w'.cell? ⟨w.heap.size + 1, 1, none⟩ = some (.slice sa0 s.args.length sc0) ∧ Below w2.heap.size w2 w') → Below w2.heap.size w2 w') := fun _ h => h.2.2.2.2
    have HSP : Hid (∀ (w' : World) (q0 q1 q2 : Value), Below w2.heap.size w2 w' → Tm.at (fun _ => True) w' (.string t.name) (q0) t → D.rd (fun _ => True) w' (q1) (slOf intE p) → Tm.at (fun _ => True) w' (.string s.name) (q2) s → Calls Try.prog 6 #[.agg #[.string t.name, q0], q1, .agg #[.string s.name, q2]] w' (OutT r ok w')) := fun w' _ _ _ hWW h0 h1 h2 => by
      have hq := spec_ReplaceAt h0 hbt h1 hbp h2 hbs (by omega)
      rw [Hr.out, Hok.out] at hq
      exact hq
    go_region_held3 (fun w' => w'.cell? ⟨w.heap.size, 0, none⟩ = some (.string t.name) ∧ w'.cell? ⟨w.heap.size, 1, none⟩ = some (.slice ta0 t.args.length tc0) ∧ w'.cell? ⟨w.heap.size + 1, 0, none⟩ = some (.string s.name) ∧ w'.cell? ⟨w.heap.size + 1, 1, none⟩ = some (.slice sa0 s.args.length sc0) ∧ Below w2.heap.size w2 w')
      (first | assumption | exact HMK.out _ (Below.refl _ _).drew | exact HMK.out _ ((Below.refl _ _).alloc (Nat.le_refl _) _).drew | exact HMK.out _ (Below.refl _ _) | exact HMK.out _ (Below.alloc (HEX.out _ (by assumption)) (HEX.out _ (by assumption)).size _) | exact HMK.out _ (Below.setCell (HEX.out _ (by assumption)) (by dsimp only; omega) _) | exact HMK.out _ (Below.setCell (Below.setCell (HEX.out _ (by assumption)) (by dsimp only; omega) _) (by dsimp only; omega) _))
      (first
        | (have _q := f2; go_at_call 7; refine (toTerm_is (Tm.at_keep (Keeps.all (HEX.out _ (by assumption))) hs) hbs).mono ?_; rintro e x3 ⟨_, rfl, hx3, g3⟩; obtain ⟨sa7, sc7, rfl, f3⟩ := Is.form g3; clear g3; have hB3 : Below w2.heap.size w2 x3 := Below.trans (HEX.out _ (by assumption)) (hx3.mono (HEX.out _ (by assumption)).size); have zz3 := hB3.size; have hS3 := HMK.out _ hB3; (first | (replace zb := ZBox.keep zb hx3) | (have zb := ZBox.keep (ZBox.new _) hx3) | (have zb := ZBox.keep ((ZBox.new w2).keep (Below.refl _ _).drew) hx3) | skip); replace f1 := Tm.at_keep (Keeps.all hx3) (by first | exact f1 | exact Tm.at_keep (Keeps.all ((Below.refl _ _).alloc (Nat.le_refl _) _)) f1); replace f2 := D.rd_keep (Keeps.all hx3) _ _ (by first | exact f2 | exact D.rd_keep (Keeps.all ((Below.refl _ _).alloc (Nat.le_refl _) _)) _ _ f2))
        | (have _q := f1; go_at_call 8; refine (toIntS_is (D.rd_keep (Keeps.all (HEX.out _ (by assumption))) _ _ hp) hbp).mono ?_; rintro e x2 ⟨_, rfl, hx2, g2⟩; obtain ⟨pa7, pc7, rfl, f2⟩ := IsIS.form g2; clear g2; have hB2 : Below w2.heap.size w2 x2 := Below.trans (HEX.out _ (by assumption)) (hx2.mono (HEX.out _ (by assumption)).size); have zz2 := hB2.size; have hS2 := HMK.out _ hB2; (first | (replace zb := ZBox.keep zb hx2) | (have zb := ZBox.keep (ZBox.new _) hx2) | (have zb := ZBox.keep ((ZBox.new w2).keep (Below.refl _ _).drew) hx2) | skip); replace f1 := Tm.at_keep (Keeps.all hx2) (by first | exact f1 | exact Tm.at_keep (Keeps.all ((Below.refl _ _).alloc (Nat.le_refl _) _)) f1))
        | (go_at_call 7; refine (toTerm_is (Tm.at_keep (Keeps.all (HEX.out _ (by assumption))) ht) hbt).mono ?_; rintro e x1 ⟨_, rfl, hx1, g1⟩; obtain ⟨ta7, tc7, rfl, f1⟩ := Is.form g1; clear g1; have hB1 : Below w2.heap.size w2 x1 := Below.trans (HEX.out _ (by assumption)) (hx1.mono (HEX.out _ (by assumption)).size); have zz1 := hB1.size; have hS1 := HMK.out _ hB1; (first | (replace zb := ZBox.keep zb hx1) | (have zb := ZBox.keep (ZBox.new _) hx1) | (have zb := ZBox.keep ((ZBox.new w2).keep (Below.refl _ _).drew) hx1) | skip))
        | (go_at_call 6; refine (HSP.out _ _ _ _ (HEX.out _ (by assumption)) (by first | exact f1 | exact Tm.at_keep (Keeps.all ((Below.refl _ _).alloc (Nat.le_refl _) _)) f1) (by first | exact f2 | exact D.rd_keep (Keeps.all ((Below.refl _ _).alloc (Nat.le_refl _) _)) _ _ f2) (by first | exact f3 | exact Tm.at_keep (Keeps.all ((Below.refl _ _).alloc (Nat.le_refl _) _)) f3)).mono ?_; rintro e x4 ⟨_, Fr, rfl, oR, hFr, hx4⟩; (first | (have hnb := ZBox.notin zb hFr) | skip); obtain ⟨ra7, rc7, rfl⟩ := Tm.sd_own_form oR; have hB4 : Below w2.heap.size w2 x4 := Below.trans (HEX.out _ (by assumption)) (hx4.mono (HEX.out _ (by assumption)).size); have zz4 := hB4.size; have hS4 := HMK.out _ hB4; (first | (replace zb := ZBox.keep zb hx4) | (have zb := ZBox.keep (ZBox.new _) hx4) | (have zb := ZBox.keep ((ZBox.new w2).keep (Below.refl _ _).drew) hx4) | skip); (first | (obtain ⟨zl, z0, z1, zf0, zf1⟩ := zb) | skip)))
    all_goals
      go_wp2_with fail
      go_meet
      case rel =>
        first
          | (have _q := zl; exact ZEnd.filled ⟨zl, z0, z1, zf0, zf1⟩ hB4 (by omega) hnr oR (by first | exact hnb | (intro q; have q1 := hFr _ q; simp only [World.size_alloc] at q1; omega)))
          | exact ZEnd.last hB4 hnr oR
  obtain ⟨bBr0, ra0, rc0, rfl, rfl, z3, Br0, hr, hb⟩ := hcut
  replace Br0 := Br0.out
  replace hr := hr.out
  obtain ⟨w3, rfl⟩ : ∃ x, x = wc := ⟨_, rfl⟩
  have z4 : Hid (w2.heap.size ≤ w3.heap.size) := hb.size
  replace hW := hW.trans (hb.mono hW.size)
  replace bt := bt.keep hb
  replace bs := bs.keep hb
  replace ht := Tm.at_keep (Keeps.all hb) ht
  replace hp := D.rd_keep (Keeps.all hb) _ _ hp
  replace hs := Tm.at_keep (Keeps.all hb) hs
  clear ebt0 ebt1 lbt ebs0 ebs1 lbs hb
  have ebt0 := bt.c0
  have ebt1 := bt.c1
  have lbt := bt.lt
  have ebs0 := bs.c0
  have ebs1 := bs.c1
  have lbs := bs.lt
  have eBr00 := Br0.c0
  have eBr01 := Br0.c1
  have lBr0 := Br0.lt
  go_wp2_with fail
  replace ht := Tm.at_lt ht
  replace hp := D.rd_lt _ _ hp
  replace hs := Tm.at_lt hs
  replace hr := Tm.at_lt hr
  refine (toTerm_any t _ _ _ _ ht hbt).mono ?_
  rintro e w4 ⟨_, Ft1, rfl, ot1, lt1, hb⟩
  have z5 : Hid (w3.heap.size ≤ w4.heap.size) := hb.size
  replace hW := hW.trans (hb.mono hW.size)
  replace bt := bt.keep hb
  replace bs := bs.keep hb
  replace ht := Tm.at_keep (Keeps.all hb) ht
  replace hp := D.rd_keep (Keeps.all hb) _ _ hp
  replace hs := Tm.at_keep (Keeps.all hb) hs
  replace Br0 := Br0.keep hb
  replace hr := Tm.at_keep (Keeps.all hb) hr
  clear ebt0 ebt1 lbt ebs0 ebs1 lbs eBr00 eBr01 lBr0 hb
  obtain ⟨ta1, tc1, rfl⟩ := Tm.sd_own_form ot1
  have ut1 := D.own_lt _ _ _ ot1
  have hb : Below w4.heap.size w4 (w4.alloc (.cells #[.string t.name, .slice ta1 t.args.length tc1] 29)) := (Below.refl _ _).alloc (Nat.le_refl _) _
  have Bt1 : Box (w4.alloc (.cells #[.string t.name, .slice ta1 t.args.length tc1] 29)) w4.heap.size [.string t.name, .slice ta1 t.args.length tc1] := Box.new _ _ _
  have z6 : Hid (w4.heap.size + 1 ≤ (w4.alloc (.cells #[.string t.name, .slice ta1 t.args.length tc1] 29)).heap.size) := by simp [Hid]
  replace hW := hW.trans (hb.mono hW.size)
  replace bt := bt.keep hb
  replace bs := bs.keep hb
  replace ht := Tm.at_keep (Keeps.all hb) ht
  replace hp := D.rd_keep (Keeps.all hb) _ _ hp
  replace hs := Tm.at_keep (Keeps.all hb) hs
  replace Br0 := Br0.keep hb
  replace hr := Tm.at_keep (Keeps.all hb) hr
  replace ot1 := D.own_keep _ _ _ (Keeps.all hb) ot1
  clear hb
  have ebt0 := bt.c0
  have ebt1 := bt.c1
  have lbt := bt.lt
  have ebs0 := bs.c0
  have ebs1 := bs.c1
  have lbs := bs.lt
  have eBr00 := Br0.c0
  have eBr01 := Br0.c1
  have lBr0 := Br0.lt
  have eBt10 := Bt1.c0
  have eBt11 := Bt1.c1
  have lBt1 := Bt1.lt
  go_wp2_with fail
  generalize (w4.alloc (.cells #[.string t.name, .slice ta1 t.args.length tc1] 29)) = w4b at *
  refine (toIntS_any p hp hbp).mono ?_
  rintro e w5 ⟨_, Fp1, rfl, op1, lp1, hb⟩
  have z7 : Hid (w4b.heap.size ≤ w5.heap.size) := hb.size
  replace hW := hW.trans (hb.mono hW.size)
  replace bt := bt.keep hb
  replace bs := bs.keep hb
  replace ht := Tm.at_keep (Keeps.all hb) ht
  replace hp := D.rd_keep (Keeps.all hb) _ _ hp
  replace hs := Tm.at_keep (Keeps.all hb) hs
  replace Br0 := Br0.keep hb
  replace hr := Tm.at_keep (Keeps.all hb) hr
  replace ot1 := D.own_keep _ _ _ (Keeps.all hb) ot1
  replace Bt1 := Bt1.keep hb
  clear ebt0 ebt1 lbt ebs0 ebs1 lbs eBr00 eBr01 lBr0 eBt10 eBt11 lBt1 hb
  obtain ⟨pa1, pc1, rfl, -, -⟩ := slOf_form (D.own_rd _ _ _ op1)
  have up1 := D.own_lt _ _ _ op1
  have ebt0 := bt.c0
  have ebt1 := bt.c1
  have lbt := bt.lt
  have ebs0 := bs.c0
  have ebs1 := bs.c1
  have lbs := bs.lt
  have eBr00 := Br0.c0
  have eBr01 := Br0.c1
  have lBr0 := Br0.lt
  have eBt10 := Bt1.c0
  have eBt11 := Bt1.c1
  have lBt1 := Bt1.lt
  go_wp2_with fail
  refine (toTerm_any s _ _ _ _ hs hbs).mono ?_
  rintro e w6 ⟨_, Fs1, rfl, os1, ls1, hb⟩
  have z8 : Hid (w5.heap.size ≤ w6.heap.size) := hb.size
  replace hW := hW.trans (hb.mono hW.size)
  replace bt := bt.keep hb
  replace bs := bs.keep hb
  replace ht := Tm.at_keep (Keeps.all hb) ht
  replace hp := D.rd_keep (Keeps.all hb) _ _ hp
  replace hs := Tm.at_keep (Keeps.all hb) hs
  replace Br0 := Br0.keep hb
  replace hr := Tm.at_keep (Keeps.all hb) hr
  replace ot1 := D.own_keep _ _ _ (Keeps.all hb) ot1
  replace Bt1 := Bt1.keep hb
  replace op1 := D.own_keep _ _ _ (Keeps.all hb) op1
  clear ebt0 ebt1 lbt ebs0 ebs1 lbs eBr00 eBr01 lBr0 eBt10 eBt11 lBt1 hb
  obtain ⟨sa1, sc1, rfl⟩ := Tm.sd_own_form os1
  have us1 := D.own_lt _ _ _ os1
  have hb : Below w6.heap.size w6 (w6.alloc (.cells #[.string s.name, .slice sa1 s.args.length sc1] 29)) := (Below.refl _ _).alloc (Nat.le_refl _) _
  have Bs1 : Box (w6.alloc (.cells #[.string s.name, .slice sa1 s.args.length sc1] 29)) w6.heap.size [.string s.name, .slice sa1 s.args.length sc1] := Box.new _ _ _
  have z9 : Hid (w6.heap.size + 1 ≤ (w6.alloc (.cells #[.string s.name, .slice sa1 s.args.length sc1] 29)).heap.size) := by simp [Hid]
  replace hW := hW.trans (hb.mono hW.size)
  replace bt := bt.keep hb
  replace bs := bs.keep hb
  replace ht := Tm.at_keep (Keeps.all hb) ht
  replace hp := D.rd_keep (Keeps.all hb) _ _ hp
  replace hs := Tm.at_keep (Keeps.all hb) hs
  replace Br0 := Br0.keep hb
  replace hr := Tm.at_keep (Keeps.all hb) hr
  replace ot1 := D.own_keep _ _ _ (Keeps.all hb) ot1
  replace Bt1 := Bt1.keep hb
  replace op1 := D.own_keep _ _ _ (Keeps.all hb) op1
  replace os1 := D.own_keep _ _ _ (Keeps.all hb) os1
  clear hb
  have ebt0 := bt.c0
  have ebt1 := bt.c1
  have lbt := bt.lt
  have ebs0 := bs.c0
  have ebs1 := bs.c1
  have lbs := bs.lt
  have eBr00 := Br0.c0
  have eBr01 := Br0.c1
  have lBr0 := Br0.lt
  have eBt10 := Bt1.c0
  have eBt11 := Bt1.c1
  have lBt1 := Bt1.lt
  have eBs10 := Bs1.c0
  have eBs11 := Bs1.c1
  have lBs1 := Bs1.lt
  go_wp2_with fail
  generalize (w6.alloc (.cells #[.string s.name, .slice sa1 s.args.length sc1] 29)) = w6b at *
  have hq := impl_ReplaceAt (Tm.at_of hnt ot1) hbt (D.rd_all (D.own_rd _ _ _ op1)) hbp (Tm.at_of hns os1) hbs (by omega)
  rw [Hr.out, Hok.out] at hq
  refine hq.mono ?_
  clear hq
  rintro e w7 ⟨_, Fr1, rfl, or1, lr1, hb⟩
  have z10 : Hid (w6b.heap.size ≤ w7.heap.size) := hb.size
  replace hW := hW.trans (hb.mono hW.size)
  replace bt := bt.keep hb
  replace bs := bs.keep hb
  replace ht := Tm.at_keep (Keeps.all hb) ht
  replace hp := D.rd_keep (Keeps.all hb) _ _ hp
  replace hs := Tm.at_keep (Keeps.all hb) hs
  replace Br0 := Br0.keep hb
  replace hr := Tm.at_keep (Keeps.all hb) hr
  replace ot1 := D.own_keep _ _ _ (Keeps.all hb) ot1
  replace Bt1 := Bt1.keep hb
  replace op1 := D.own_keep _ _ _ (Keeps.all hb) op1
  replace os1 := D.own_keep _ _ _ (Keeps.all hb) os1
  replace Bs1 := Bs1.keep hb
  clear ebt0 ebt1 lbt ebs0 ebs1 lbs eBr00 eBr01 lBr0 eBt10 eBt11 lBt1 eBs10 eBs11 lBs1 hb
  obtain ⟨ra1, rc1, rfl⟩ := Tm.sd_own_form or1
  have ur1 := D.own_lt _ _ _ or1
  have hb : Below w7.heap.size w7 (w7.alloc (.cells #[.string r.name, .slice ra1 r.args.length rc1] 29)) := (Below.refl _ _).alloc (Nat.le_refl _) _
  have Br1 : Box (w7.alloc (.cells #[.string r.name, .slice ra1 r.args.length rc1] 29)) w7.heap.size [.string r.name, .slice ra1 r.args.length rc1] := Box.new _ _ _
  have z11 : Hid (w7.heap.size + 1 ≤ (w7.alloc (.cells #[.string r.name, .slice ra1 r.args.length rc1] 29)).heap.size) := by simp [Hid]
  replace hW := hW.trans (hb.mono hW.size)
  replace bt := bt.keep hb
  replace bs := bs.keep hb
  replace ht := Tm.at_keep (Keeps.all hb) ht
  replace hp := D.rd_keep (Keeps.all hb) _ _ hp
  replace hs := Tm.at_keep (Keeps.all hb) hs
  replace Br0 := Br0.keep hb
  replace hr := Tm.at_keep (Keeps.all hb) hr
  replace ot1 := D.own_keep _ _ _ (Keeps.all hb) ot1
  replace Bt1 := Bt1.keep hb
  replace op1 := D.own_keep _ _ _ (Keeps.all hb) op1
  replace os1 := D.own_keep _ _ _ (Keeps.all hb) os1
  replace Bs1 := Bs1.keep hb
  replace or1 := D.own_keep _ _ _ (Keeps.all hb) or1
  clear hb
  have ebt0 := bt.c0
  have ebt1 := bt.c1
  have lbt := bt.lt
  have ebs0 := bs.c0
  have ebs1 := bs.c1
  have lbs := bs.lt
  have eBr00 := Br0.c0
  have eBr01 := Br0.c1
  have lBr0 := Br0.lt
  have eBt10 := Bt1.c0
  have eBt11 := Bt1.c1
  have lBt1 := Bt1.lt
  have eBs10 := Bs1.c0
  have eBs11 := Bs1.c1
  have lBs1 := Bs1.lt
  have eBr10 := Br1.c0
  have eBr11 := Br1.c1
  have lBr1 := Br1.lt
  go_wp2_with fail
  generalize (w7.alloc (.cells #[.string r.name, .slice ra1 r.args.length rc1] 29)) = w7b at *
  refine (eqTerm_refl (Tm.at_of hnr or1) (Tm.at_all hr)).mono ?_
  rintro e w8 ⟨_, rfl, hb, rfl⟩
  have z12 : Hid (w7b.heap.size ≤ w8.heap.size) := hb.size
  replace hW := hW.trans (hb.mono hW.size)
  replace bt := bt.keep hb
  replace bs := bs.keep hb
  replace ht := Tm.at_keep (Keeps.all hb) ht
  replace hp := D.rd_keep (Keeps.all hb) _ _ hp
  replace hs := Tm.at_keep (Keeps.all hb) hs
  replace Br0 := Br0.keep hb
  replace hr := Tm.at_keep (Keeps.all hb) hr
  replace ot1 := D.own_keep _ _ _ (Keeps.all hb) ot1
  replace Bt1 := Bt1.keep hb
  replace op1 := D.own_keep _ _ _ (Keeps.all hb) op1
  replace os1 := D.own_keep _ _ _ (Keeps.all hb) os1
  replace Bs1 := Bs1.keep hb
  replace or1 := D.own_keep _ _ _ (Keeps.all hb) or1
  replace Br1 := Br1.keep hb
  clear ebt0 ebt1 lbt ebs0 ebs1 lbs eBr00 eBr01 lBr0 eBt10 eBt11 lBt1 eBs10 eBs11 lBs1 eBr10 eBr11 lBr1 hb
  have ebt0 := bt.c0
  have ebt1 := bt.c1
  have lbt := bt.lt
  have ebs0 := bs.c0
  have ebs1 := bs.c1
  have lbs := bs.lt
  have eBr00 := Br0.c0
  have eBr01 := Br0.c1
  have lBr0 := Br0.lt
  have eBt10 := Bt1.c0
  have eBt11 := Bt1.c1
  have lBt1 := Bt1.lt
  have eBs10 := Bs1.c0
  have eBs11 := Bs1.c1
  have lBs1 := Bs1.lt
  have eBr10 := Br1.c0
  have eBr11 := Br1.c1
  have lBr1 := Br1.lt
  go_wp2_with fail
  refine wp_region_B [fun v _ => v = .agg #[.string t.name, .slice ta1 t.args.length tc1], fun v _ => v = .agg #[.string t.name, .slice ta0 t.args.length tc0], Is t, fun v _ => v = .bool true, fun v _ => v = .bool false] _ (fun V => by simp [putAll, Act.put]; rfl) (by kernel_rfl) (by decide) (by simp) (by kernel_rfl) ?_ ?_ ?_
  · intro F hF
    simp only [List.mem_cons, List.not_mem_nil, or_false] at hF
    rcases hF with rfl | rfl | rfl | rfl | rfl
    · exact stable_eq
    · exact stable_eq
    · exact Is.stable
    · exact stable_eq
    · exact stable_eq
  · refine ⟨?_, ?_, ?_, ?_, ?_, trivial⟩
    · intro V w1 hbR _
      obtain ⟨hc, hf⟩ := bcell hbR
      try simp only [World.size_alloc, World.size_setCell] at hc hf
      unfold Does
      go_simp
      exact ⟨Below.refl _ _, rfl⟩
    · intro V w1 hbR _
      obtain ⟨hc, hf⟩ := bcell hbR
      try simp only [World.size_alloc, World.size_setCell] at hc hf
      unfold Does
      go_simp
      exact ⟨Below.refl _ _, rfl⟩
    · intro V w1 hbR ⟨f1, _⟩
      replace f1 : V 1 = .agg #[.string t.name, .slice ta0 t.args.length tc0] := f1
      obtain ⟨hc, hf⟩ := bcell hbR
      try simp only [World.size_alloc, World.size_setCell] at hc hf
      unfold Does
      go_simp
      exact toTerm_is (Tm.at_all (Tm.at_keep (Keeps.all hbR) ht)) hbt
    · intro V w1 hbR ⟨f0, f2, _, _⟩
      replace f0 : V 0 = .agg #[.string t.name, .slice ta1 t.args.length tc1] := f0
      replace f2 : (Is t) (V 2) w1 := f2
      obtain ⟨_, _, E2, g2⟩ := Is.form f2
      obtain ⟨hc, hf⟩ := bcell hbR
      try simp only [World.size_alloc, World.size_setCell] at hc hf
      unfold Does
      go_simp
      exact eqTerm_refl (Tm.at_of hnt (D.own_keep _ _ _ (Keeps.all hbR) ot1)) g2
    · intro V w1 hbR ⟨f3, _⟩
      replace f3 : V 3 = .bool true := f3
      unfold Does
      go_simp
      exact ⟨Below.refl _ _, rfl⟩
  intro V w9 hbR hfR
  obtain ⟨f0, f1, f2, f3, f4, _⟩ := hfR
  replace f0 : V 0 = .agg #[.string t.name, .slice ta1 t.args.length tc1] := f0
  replace f1 : V 1 = .agg #[.string t.name, .slice ta0 t.args.length tc0] := f1
  replace f2 : (Is t) (V 2) w9 := f2
  replace f3 : V 3 = .bool true := f3
  replace f4 : V 4 = .bool false := f4
  simp only [f0, f1, f3, f4]
  clear f0 f1 f3 f4
  have hb := hbR
  have z13 : Hid (w8.heap.size ≤ w9.heap.size) := hb.size
  replace hW := hW.trans (hb.mono hW.size)
  replace bt := bt.keep hb
  replace bs := bs.keep hb
  replace ht := Tm.at_keep (Keeps.all hb) ht
  replace hp := D.rd_keep (Keeps.all hb) _ _ hp
  replace hs := Tm.at_keep (Keeps.all hb) hs
  replace Br0 := Br0.keep hb
  replace hr := Tm.at_keep (Keeps.all hb) hr
  replace ot1 := D.own_keep _ _ _ (Keeps.all hb) ot1
  replace Bt1 := Bt1.keep hb
  replace op1 := D.own_keep _ _ _ (Keeps.all hb) op1
  replace os1 := D.own_keep _ _ _ (Keeps.all hb) os1
  replace Bs1 := Bs1.keep hb
  replace or1 := D.own_keep _ _ _ (Keeps.all hb) or1
  replace Br1 := Br1.keep hb
  clear ebt0 ebt1 lbt ebs0 ebs1 lbs eBr00 eBr01 lBr0 eBt10 eBt11 lBt1 eBs10 eBs11 lBs1 eBr10 eBr11 lBr1 hb hbR f2
  have ebt0 := bt.c0
  have ebt1 := bt.c1
  have lbt := bt.lt
  have ebs0 := bs.c0
  have ebs1 := bs.c1
  have lbs := bs.lt
  have eBr00 := Br0.c0
  have eBr01 := Br0.c1
  have lBr0 := Br0.lt
  have eBt10 := Bt1.c0
  have eBt11 := Bt1.c1
  have lBt1 := Bt1.lt
  have eBs10 := Bs1.c0
  have eBs11 := Bs1.c1
  have lBs1 := Bs1.lt
  have eBr10 := Br1.c0
  have eBr11 := Br1.c1
  have lBr1 := Br1.lt
  go_wp2_with fail
  refine (toIntS_any p hp hbp).mono ?_
  rintro e w10 ⟨_, Fp2, rfl, op2, lp2, hb⟩
  have z14 : Hid (w9.heap.size ≤ w10.heap.size) := hb.size
  replace hW := hW.trans (hb.mono hW.size)
  replace bt := bt.keep hb
  replace bs := bs.keep hb
  replace ht := Tm.at_keep (Keeps.all hb) ht
  replace hp := D.rd_keep (Keeps.all hb) _ _ hp
  replace hs := Tm.at_keep (Keeps.all hb) hs
  replace Br0 := Br0.keep hb
  replace hr := Tm.at_keep (Keeps.all hb) hr
  replace ot1 := D.own_keep _ _ _ (Keeps.all hb) ot1
  replace Bt1 := Bt1.keep hb
  replace op1 := D.own_keep _ _ _ (Keeps.all hb) op1
  replace os1 := D.own_keep _ _ _ (Keeps.all hb) os1
  replace Bs1 := Bs1.keep hb
  replace or1 := D.own_keep _ _ _ (Keeps.all hb) or1
  replace Br1 := Br1.keep hb
  clear ebt0 ebt1 lbt ebs0 ebs1 lbs eBr00 eBr01 lBr0 eBt10 eBt11 lBt1 eBs10 eBs11 lBs1 eBr10 eBr11 lBr1 hb
  obtain ⟨pa2, pc2, rfl, -, -⟩ := slOf_form (D.own_rd _ _ _ op2)
  have up2 := D.own_lt _ _ _ op2
  have ebt0 := bt.c0
  have ebt1 := bt.c1
  have lbt := bt.lt
  have ebs0 := bs.c0
  have ebs1 := bs.c1
  have lbs := bs.lt
  have eBr00 := Br0.c0
  have eBr01 := Br0.c1
  have lBr0 := Br0.lt
  have eBt10 := Bt1.c0
  have eBt11 := Bt1.c1
  have lBt1 := Bt1.lt
  have eBs10 := Bs1.c0
  have eBs11 := Bs1.c1
  have lBs1 := Bs1.lt
  have eBr10 := Br1.c0
  have eBr11 := Br1.c1
  have lBr1 := Br1.lt
  go_wp2_with fail
  refine (eqIntS_refl (D.rd_all (D.own_rd _ _ _ op1)) (D.rd_all (D.own_rd _ _ _ op2))).mono ?_
  rintro e w11 ⟨_, rfl, hb, rfl⟩
  have z15 : Hid (w10.heap.size ≤ w11.heap.size) := hb.size
  replace hW := hW.trans (hb.mono hW.size)
  replace bt := bt.keep hb
  replace bs := bs.keep hb
  replace ht := Tm.at_keep (Keeps.all hb) ht
  replace hp := D.rd_keep (Keeps.all hb) _ _ hp
  replace hs := Tm.at_keep (Keeps.all hb) hs
  replace Br0 := Br0.keep hb
  replace hr := Tm.at_keep (Keeps.all hb) hr
  replace ot1 := D.own_keep _ _ _ (Keeps.all hb) ot1
  replace Bt1 := Bt1.keep hb
  replace op1 := D.own_keep _ _ _ (Keeps.all hb) op1
  replace os1 := D.own_keep _ _ _ (Keeps.all hb) os1
  replace Bs1 := Bs1.keep hb
  replace or1 := D.own_keep _ _ _ (Keeps.all hb) or1
  replace Br1 := Br1.keep hb
  replace op2 := D.own_keep _ _ _ (Keeps.all hb) op2
  clear ebt0 ebt1 lbt ebs0 ebs1 lbs eBr00 eBr01 lBr0 eBt10 eBt11 lBt1 eBs10 eBs11 lBs1 eBr10 eBr11 lBr1 hb
  have ebt0 := bt.c0
  have ebt1 := bt.c1
  have lbt := bt.lt
  have ebs0 := bs.c0
  have ebs1 := bs.c1
  have lbs := bs.lt
  have eBr00 := Br0.c0
  have eBr01 := Br0.c1
  have lBr0 := Br0.lt
  have eBt10 := Bt1.c0
  have eBt11 := Bt1.c1
  have lBt1 := Bt1.lt
  have eBs10 := Bs1.c0
  have eBs11 := Bs1.c1
  have lBs1 := Bs1.lt
  have eBr10 := Br1.c0
  have eBr11 := Br1.c1
  have lBr1 := Br1.lt
  go_wp2_with fail
  refine wp_region_B [fun v _ => v = .agg #[.string s.name, .slice sa1 s.args.length sc1], fun v _ => v = .agg #[.string s.name, .slice sa0 s.args.length sc0], Is s, fun v _ => v = .bool true, fun v _ => v = .bool false] _ (fun V => by simp [putAll, Act.put]; rfl) (by kernel_rfl) (by decide) (by simp) (by kernel_rfl) ?_ ?_ ?_
  · intro F hF
    simp only [List.mem_cons, List.not_mem_nil, or_false] at hF
    rcases hF with rfl | rfl | rfl | rfl | rfl
    · exact stable_eq
    · exact stable_eq
    · exact Is.stable
    · exact stable_eq
    · exact stable_eq
  · refine ⟨?_, ?_, ?_, ?_, ?_, trivial⟩
    · intro V w1 hbR _
      obtain ⟨hc, hf⟩ := bcell hbR
      try simp only [World.size_alloc, World.size_setCell] at hc hf
      unfold Does
      go_simp
      exact ⟨Below.refl _ _, rfl⟩
    · intro V w1 hbR _
      obtain ⟨hc, hf⟩ := bcell hbR
      try simp only [World.size_alloc, World.size_setCell] at hc hf
      unfold Does
      go_simp
      exact ⟨Below.refl _ _, rfl⟩
    · intro V w1 hbR ⟨f1, _⟩
      replace f1 : V 1 = .agg #[.string s.name, .slice sa0 s.args.length sc0] := f1
      obtain ⟨hc, hf⟩ := bcell hbR
      try simp only [World.size_alloc, World.size_setCell] at hc hf
      unfold Does
      go_simp
      exact toTerm_is (Tm.at_all (Tm.at_keep (Keeps.all hbR) hs)) hbs
    · intro V w1 hbR ⟨f0, f2, _, _⟩
      replace f0 : V 0 = .agg #[.string s.name, .slice sa1 s.args.length sc1] := f0
      replace f2 : (Is s) (V 2) w1 := f2
      obtain ⟨_, _, E2, g2⟩ := Is.form f2
      obtain ⟨hc, hf⟩ := bcell hbR
      try simp only [World.size_alloc, World.size_setCell] at hc hf
      unfold Does
      go_simp
      exact eqTerm_refl (Tm.at_of hns (D.own_keep _ _ _ (Keeps.all hbR) os1)) g2
    · intro V w1 hbR ⟨f3, _⟩
      replace f3 : V 3 = .bool true := f3
      unfold Does
      go_simp
      exact ⟨Below.refl _ _, rfl⟩
  intro V w12 hbR hfR
  obtain ⟨f0, f1, f2, f3, f4, _⟩ := hfR
  replace f0 : V 0 = .agg #[.string s.name, .slice sa1 s.args.length sc1] := f0
  replace f1 : V 1 = .agg #[.string s.name, .slice sa0 s.args.length sc0] := f1
  replace f2 : (Is s) (V 2) w12 := f2
  replace f3 : V 3 = .bool true := f3
  replace f4 : V 4 = .bool false := f4
  simp only [f0, f1, f3, f4]
  clear f0 f1 f3 f4
  have hb := hbR
  have z16 : Hid (w11.heap.size ≤ w12.heap.size) := hb.size
  replace hW := hW.trans (hb.mono hW.size)
  replace bt := bt.keep hb
  replace bs := bs.keep hb
  replace ht := Tm.at_keep (Keeps.all hb) ht
  replace hp := D.rd_keep (Keeps.all hb) _ _ hp
  replace hs := Tm.at_keep (Keeps.all hb) hs
  replace Br0 := Br0.keep hb
  replace hr := Tm.at_keep (Keeps.all hb) hr
  replace ot1 := D.own_keep _ _ _ (Keeps.all hb) ot1
  replace Bt1 := Bt1.keep hb
  replace op1 := D.own_keep _ _ _ (Keeps.all hb) op1
  replace os1 := D.own_keep _ _ _ (Keeps.all hb) os1
  replace Bs1 := Bs1.keep hb
  replace or1 := D.own_keep _ _ _ (Keeps.all hb) or1
  replace Br1 := Br1.keep hb
  replace op2 := D.own_keep _ _ _ (Keeps.all hb) op2
  clear ebt0 ebt1 lbt ebs0 ebs1 lbs eBr00 eBr01 lBr0 eBt10 eBt11 lBt1 eBs10 eBs11 lBs1 eBr10 eBr11 lBr1 hb hbR f2
  have ebt0 := bt.c0
  have ebt1 := bt.c1
  have lbt := bt.lt
  have ebs0 := bs.c0
  have ebs1 := bs.c1
  have lbs := bs.lt
  have eBr00 := Br0.c0
  have eBr01 := Br0.c1
  have lBr0 := Br0.lt
  have eBt10 := Bt1.c0
  have eBt11 := Bt1.c1
  have lBt1 := Bt1.lt
  have eBs10 := Bs1.c0
  have eBs11 := Bs1.c1
  have lBs1 := Bs1.lt
  have eBr10 := Br1.c0
  have eBr11 := Br1.c1
  have lBr1 := Br1.lt
  go_wp2_with fail
  obtain ⟨k0, Hk0⟩ : ∃ n : Nat, Hid (1 + Tm.sizes t.args = n) := ⟨_, hid rfl⟩
  have hq := markTerm_any t.args 1 (n := t.name) (by have := Tm.sizes_le_bulk t; have := (Nat.le_refl p.length); have := Tm.sizes_le_bulk s; have := Hk0.out; omega) ot1
  rw [Hk0.out] at hq
  rw [show ((1 : Nat) : Int) = 1 from rfl] at hq
  have nk0 : ¬ ((k0 : Nat) : Int) < 0 := by omega
  refine hq.mono ?_
  clear hq
  rintro e w13 ⟨rfl, hm, oM⟩
  clear ot1
  have z17 : Hid (w12.heap.size ≤ w13.heap.size) := hm.size
  replace hW := hW.trans (hm.2 _ hW.size (fun y hy => by have q1 := lt1 y hy; have := z0.out; have := z1.out; have := z2.out; have := z3.out; have := z4.out; have := z5.out; have := z6.out; have := z7.out; have := z8.out; have := z9.out; have := z10.out; have := z11.out; have := z12.out; have := z13.out; have := z14.out; have := z15.out; have := z16.out; have := z17.out; omega))
  replace bt := bt.marked hm (fun q => by have q1 := lt1 _ q; have q2 := ut1 _ q; have := z0.out; have := z1.out; have := z2.out; have := z3.out; have := z4.out; have := z5.out; have := z6.out; have := z7.out; have := z8.out; have := z9.out; have := z10.out; have := z11.out; have := z12.out; have := z13.out; have := z14.out; have := z15.out; have := z16.out; have := z17.out; omega)
  replace bs := bs.marked hm (fun q => by have q1 := lt1 _ q; have q2 := ut1 _ q; have := z0.out; have := z1.out; have := z2.out; have := z3.out; have := z4.out; have := z5.out; have := z6.out; have := z7.out; have := z8.out; have := z9.out; have := z10.out; have := z11.out; have := z12.out; have := z13.out; have := z14.out; have := z15.out; have := z16.out; have := z17.out; omega)
  replace ht := Tm.at_keep (hm.lt (fun y q => by have q1 := lt1 y q; have := z0.out; have := z1.out; have := z2.out; have := z3.out; have := z4.out; have := z5.out; have := z6.out; have := z7.out; have := z8.out; have := z9.out; have := z10.out; have := z11.out; have := z12.out; have := z13.out; have := z14.out; have := z15.out; have := z16.out; have := z17.out; omega)) ht
  replace hp := D.rd_keep (hm.lt (fun y q => by have q1 := lt1 y q; have := z0.out; have := z1.out; have := z2.out; have := z3.out; have := z4.out; have := z5.out; have := z6.out; have := z7.out; have := z8.out; have := z9.out; have := z10.out; have := z11.out; have := z12.out; have := z13.out; have := z14.out; have := z15.out; have := z16.out; have := z17.out; omega)) _ _ hp
  replace hs := Tm.at_keep (hm.lt (fun y q => by have q1 := lt1 y q; have := z0.out; have := z1.out; have := z2.out; have := z3.out; have := z4.out; have := z5.out; have := z6.out; have := z7.out; have := z8.out; have := z9.out; have := z10.out; have := z11.out; have := z12.out; have := z13.out; have := z14.out; have := z15.out; have := z16.out; have := z17.out; omega)) hs
  replace Br0 := Br0.marked hm (fun q => by have q1 := lt1 _ q; have q2 := ut1 _ q; have := z0.out; have := z1.out; have := z2.out; have := z3.out; have := z4.out; have := z5.out; have := z6.out; have := z7.out; have := z8.out; have := z9.out; have := z10.out; have := z11.out; have := z12.out; have := z13.out; have := z14.out; have := z15.out; have := z16.out; have := z17.out; omega)
  replace hr := Tm.at_keep (hm.lt (fun y q => by have q1 := lt1 y q; have := z0.out; have := z1.out; have := z2.out; have := z3.out; have := z4.out; have := z5.out; have := z6.out; have := z7.out; have := z8.out; have := z9.out; have := z10.out; have := z11.out; have := z12.out; have := z13.out; have := z14.out; have := z15.out; have := z16.out; have := z17.out; omega)) hr
  replace Bt1 := Bt1.marked hm (fun q => by have q1 := lt1 _ q; have q2 := ut1 _ q; have := z0.out; have := z1.out; have := z2.out; have := z3.out; have := z4.out; have := z5.out; have := z6.out; have := z7.out; have := z8.out; have := z9.out; have := z10.out; have := z11.out; have := z12.out; have := z13.out; have := z14.out; have := z15.out; have := z16.out; have := z17.out; omega)
  replace op1 := D.own_keep _ _ _ (hm.apart (fun y hy q => by have q1 := lt1 y q; have q2 := ut1 y q; have q3 := lp1 y hy; have q4 := up1 y hy; have := z0.out; have := z1.out; have := z2.out; have := z3.out; have := z4.out; have := z5.out; have := z6.out; have := z7.out; have := z8.out; have := z9.out; have := z10.out; have := z11.out; have := z12.out; have := z13.out; have := z14.out; have := z15.out; have := z16.out; have := z17.out; omega)) op1
  replace os1 := D.own_keep _ _ _ (hm.apart (fun y hy q => by have q1 := lt1 y q; have q2 := ut1 y q; have q3 := ls1 y hy; have q4 := us1 y hy; have := z0.out; have := z1.out; have := z2.out; have := z3.out; have := z4.out; have := z5.out; have := z6.out; have := z7.out; have := z8.out; have := z9.out; have := z10.out; have := z11.out; have := z12.out; have := z13.out; have := z14.out; have := z15.out; have := z16.out; have := z17.out; omega)) os1
  replace Bs1 := Bs1.marked hm (fun q => by have q1 := lt1 _ q; have q2 := ut1 _ q; have := z0.out; have := z1.out; have := z2.out; have := z3.out; have := z4.out; have := z5.out; have := z6.out; have := z7.out; have := z8.out; have := z9.out; have := z10.out; have := z11.out; have := z12.out; have := z13.out; have := z14.out; have := z15.out; have := z16.out; have := z17.out; omega)
  replace or1 := D.own_keep _ _ _ (hm.apart (fun y hy q => by have q1 := lt1 y q; have q2 := ut1 y q; have q3 := lr1 y hy; have q4 := ur1 y hy; have := z0.out; have := z1.out; have := z2.out; have := z3.out; have := z4.out; have := z5.out; have := z6.out; have := z7.out; have := z8.out; have := z9.out; have := z10.out; have := z11.out; have := z12.out; have := z13.out; have := z14.out; have := z15.out; have := z16.out; have := z17.out; omega)) or1
  replace Br1 := Br1.marked hm (fun q => by have q1 := lt1 _ q; have q2 := ut1 _ q; have := z0.out; have := z1.out; have := z2.out; have := z3.out; have := z4.out; have := z5.out; have := z6.out; have := z7.out; have := z8.out; have := z9.out; have := z10.out; have := z11.out; have := z12.out; have := z13.out; have := z14.out; have := z15.out; have := z16.out; have := z17.out; omega)
  replace op2 := D.own_keep _ _ _ (hm.apart (fun y hy q => by have q1 := lt1 y q; have q2 := ut1 y q; have q3 := lp2 y hy; have q4 := up2 y hy; have := z0.out; have := z1.out; have := z2.out; have := z3.out; have := z4.out; have := z5.out; have := z6.out; have := z7.out; have := z8.out; have := z9.out; have := z10.out; have := z11.out; have := z12.out; have := z13.out; have := z14.out; have := z15.out; have := z16.out; have := z17.out; omega)) op2
  clear ebt0 ebt1 lbt ebs0 ebs1 lbs eBr00 eBr01 lBr0 eBt10 eBt11 lBt1 eBs10 eBs11 lBs1 eBr10 eBr11 lBr1 hm
  clear oM lt1 ut1
  have ebt0 := bt.c0
  have ebt1 := bt.c1
  have lbt := bt.lt
  have ebs0 := bs.c0
  have ebs1 := bs.c1
  have lbs := bs.lt
  have eBr00 := Br0.c0
  have eBr01 := Br0.c1
  have lBr0 := Br0.lt
  have eBt10 := Bt1.c0
  have eBt11 := Bt1.c1
  have lBt1 := Bt1.lt
  have eBs10 := Bs1.c0
  have eBs11 := Bs1.c1
  have lBs1 := Bs1.lt
  have eBr10 := Br1.c0
  have eBr11 := Br1.c1
  have lBr1 := Br1.lt
  go_wp2_with fail
  obtain ⟨k1, Hk1⟩ : ∃ n : Nat, Hid (k0 + p.length = n) := ⟨_, hid rfl⟩
  have hq := markIntS_any p k0 (by have := Tm.sizes_le_bulk t; have := (Nat.le_refl p.length); have := Tm.sizes_le_bulk s; have := Hk0.out; have := Hk1.out; omega) op1
  rw [Hk1.out] at hq
  have nk1 : ¬ ((k1 : Nat) : Int) < 0 := by omega
  refine hq.mono ?_
  clear hq
  rintro e w14 ⟨rfl, hm, oM⟩
  clear op1
  have z18 : Hid (w13.heap.size ≤ w14.heap.size) := hm.size
  replace hW := hW.trans (hm.2 _ hW.size (fun y hy => by have q1 := lp1 y hy; have := z0.out; have := z1.out; have := z2.out; have := z3.out; have := z4.out; have := z5.out; have := z6.out; have := z7.out; have := z8.out; have := z9.out; have := z10.out; have := z11.out; have := z12.out; have := z13.out; have := z14.out; have := z15.out; have := z16.out; have := z17.out; have := z18.out; omega))
  replace bt := bt.marked hm (fun q => by have q1 := lp1 _ q; have q2 := up1 _ q; have := z0.out; have := z1.out; have := z2.out; have := z3.out; have := z4.out; have := z5.out; have := z6.out; have := z7.out; have := z8.out; have := z9.out; have := z10.out; have := z11.out; have := z12.out; have := z13.out; have := z14.out; have := z15.out; have := z16.out; have := z17.out; have := z18.out; omega)
  replace bs := bs.marked hm (fun q => by have q1 := lp1 _ q; have q2 := up1 _ q; have := z0.out; have := z1.out; have := z2.out; have := z3.out; have := z4.out; have := z5.out; have := z6.out; have := z7.out; have := z8.out; have := z9.out; have := z10.out; have := z11.out; have := z12.out; have := z13.out; have := z14.out; have := z15.out; have := z16.out; have := z17.out; have := z18.out; omega)
  replace ht := Tm.at_keep (hm.lt (fun y q => by have q1 := lp1 y q; have := z0.out; have := z1.out; have := z2.out; have := z3.out; have := z4.out; have := z5.out; have := z6.out; have := z7.out; have := z8.out; have := z9.out; have := z10.out; have := z11.out; have := z12.out; have := z13.out; have := z14.out; have := z15.out; have := z16.out; have := z17.out; have := z18.out; omega)) ht
  replace hp := D.rd_keep (hm.lt (fun y q => by have q1 := lp1 y q; have := z0.out; have := z1.out; have := z2.out; have := z3.out; have := z4.out; have := z5.out; have := z6.out; have := z7.out; have := z8.out; have := z9.out; have := z10.out; have := z11.out; have := z12.out; have := z13.out; have := z14.out; have := z15.out; have := z16.out; have := z17.out; have := z18.out; omega)) _ _ hp
  replace hs := Tm.at_keep (hm.lt (fun y q => by have q1 := lp1 y q; have := z0.out; have := z1.out; have := z2.out; have := z3.out; have := z4.out; have := z5.out; have := z6.out; have := z7.out; have := z8.out; have := z9.out; have := z10.out; have := z11.out; have := z12.out; have := z13.out; have := z14.out; have := z15.out; have := z16.out; have := z17.out; have := z18.out; omega)) hs
  replace Br0 := Br0.marked hm (fun q => by have q1 := lp1 _ q; have q2 := up1 _ q; have := z0.out; have := z1.out; have := z2.out; have := z3.out; have := z4.out; have := z5.out; have := z6.out; have := z7.out; have := z8.out; have := z9.out; have := z10.out; have := z11.out; have := z12.out; have := z13.out; have := z14.out; have := z15.out; have := z16.out; have := z17.out; have := z18.out; omega)
  replace hr := Tm.at_keep (hm.lt (fun y q => by have q1 := lp1 y q; have := z0.out; have := z1.out; have := z2.out; have := z3.out; have := z4.out; have := z5.out; have := z6.out; have := z7.out; have := z8.out; have := z9.out; have := z10.out; have := z11.out; have := z12.out; have := z13.out; have := z14.out; have := z15.out; have := z16.out; have := z17.out; have := z18.out; omega)) hr
  replace Bt1 := Bt1.marked hm (fun q => by have q1 := lp1 _ q; have q2 := up1 _ q; have := z0.out; have := z1.out; have := z2.out; have := z3.out; have := z4.out; have := z5.out; have := z6.out; have := z7.out; have := z8.out; have := z9.out; have := z10.out; have := z11.out; have := z12.out; have := z13.out; have := z14.out; have := z15.out; have := z16.out; have := z17.out; have := z18.out; omega)
  replace os1 := D.own_keep _ _ _ (hm.apart (fun y hy q => by have q1 := lp1 y q; have q2 := up1 y q; have q3 := ls1 y hy; have q4 := us1 y hy; have := z0.out; have := z1.out; have := z2.out; have := z3.out; have := z4.out; have := z5.out; have := z6.out; have := z7.out; have := z8.out; have := z9.out; have := z10.out; have := z11.out; have := z12.out; have := z13.out; have := z14.out; have := z15.out; have := z16.out; have := z17.out; have := z18.out; omega)) os1
  replace Bs1 := Bs1.marked hm (fun q => by have q1 := lp1 _ q; have q2 := up1 _ q; have := z0.out; have := z1.out; have := z2.out; have := z3.out; have := z4.out; have := z5.out; have := z6.out; have := z7.out; have := z8.out; have := z9.out; have := z10.out; have := z11.out; have := z12.out; have := z13.out; have := z14.out; have := z15.out; have := z16.out; have := z17.out; have := z18.out; omega)
  replace or1 := D.own_keep _ _ _ (hm.apart (fun y hy q => by have q1 := lp1 y q; have q2 := up1 y q; have q3 := lr1 y hy; have q4 := ur1 y hy; have := z0.out; have := z1.out; have := z2.out; have := z3.out; have := z4.out; have := z5.out; have := z6.out; have := z7.out; have := z8.out; have := z9.out; have := z10.out; have := z11.out; have := z12.out; have := z13.out; have := z14.out; have := z15.out; have := z16.out; have := z17.out; have := z18.out; omega)) or1
  replace Br1 := Br1.marked hm (fun q => by have q1 := lp1 _ q; have q2 := up1 _ q; have := z0.out; have := z1.out; have := z2.out; have := z3.out; have := z4.out; have := z5.out; have := z6.out; have := z7.out; have := z8.out; have := z9.out; have := z10.out; have := z11.out; have := z12.out; have := z13.out; have := z14.out; have := z15.out; have := z16.out; have := z17.out; have := z18.out; omega)
  replace op2 := D.own_keep _ _ _ (hm.apart (fun y hy q => by have q1 := lp1 y q; have q2 := up1 y q; have q3 := lp2 y hy; have q4 := up2 y hy; have := z0.out; have := z1.out; have := z2.out; have := z3.out; have := z4.out; have := z5.out; have := z6.out; have := z7.out; have := z8.out; have := z9.out; have := z10.out; have := z11.out; have := z12.out; have := z13.out; have := z14.out; have := z15.out; have := z16.out; have := z17.out; have := z18.out; omega)) op2
  clear ebt0 ebt1 lbt ebs0 ebs1 lbs eBr00 eBr01 lBr0 eBt10 eBt11 lBt1 eBs10 eBs11 lBs1 eBr10 eBr11 lBr1 hm
  clear oM lp1 up1
  have ebt0 := bt.c0
  have ebt1 := bt.c1
  have lbt := bt.lt
  have ebs0 := bs.c0
  have ebs1 := bs.c1
  have lbs := bs.lt
  have eBr00 := Br0.c0
  have eBr01 := Br0.c1
  have lBr0 := Br0.lt
  have eBt10 := Bt1.c0
  have eBt11 := Bt1.c1
  have lBt1 := Bt1.lt
  have eBs10 := Bs1.c0
  have eBs11 := Bs1.c1
  have lBs1 := Bs1.lt
  have eBr10 := Br1.c0
  have eBr11 := Br1.c1
  have lBr1 := Br1.lt
  go_wp2_with fail
  obtain ⟨k2, Hk2⟩ : ∃ n : Nat, Hid (k1 + Tm.sizes s.args = n) := ⟨_, hid rfl⟩
  have hq := markTerm_any s.args k1 (n := s.name) (by have := Tm.sizes_le_bulk t; have := (Nat.le_refl p.length); have := Tm.sizes_le_bulk s; have := Hk0.out; have := Hk1.out; have := Hk2.out; omega) os1
  rw [Hk2.out] at hq
  have nk2 : ¬ ((k2 : Nat) : Int) < 0 := by omega
  refine hq.mono ?_
  clear hq
  rintro e w15 ⟨rfl, hm, oM⟩
  clear os1
  have z19 : Hid (w14.heap.size ≤ w15.heap.size) := hm.size
  replace hW := hW.trans (hm.2 _ hW.size (fun y hy => by have q1 := ls1 y hy; have := z0.out; have := z1.out; have := z2.out; have := z3.out; have := z4.out; have := z5.out; have := z6.out; have := z7.out; have := z8.out; have := z9.out; have := z10.out; have := z11.out; have := z12.out; have := z13.out; have := z14.out; have := z15.out; have := z16.out; have := z17.out; have := z18.out; have := z19.out; omega))
  replace bt := bt.marked hm (fun q => by have q1 := ls1 _ q; have q2 := us1 _ q; have := z0.out; have := z1.out; have := z2.out; have := z3.out; have := z4.out; have := z5.out; have := z6.out; have := z7.out; have := z8.out; have := z9.out; have := z10.out; have := z11.out; have := z12.out; have := z13.out; have := z14.out; have := z15.out; have := z16.out; have := z17.out; have := z18.out; have := z19.out; omega)
  replace bs := bs.marked hm (fun q => by have q1 := ls1 _ q; have q2 := us1 _ q; have := z0.out; have := z1.out; have := z2.out; have := z3.out; have := z4.out; have := z5.out; have := z6.out; have := z7.out; have := z8.out; have := z9.out; have := z10.out; have := z11.out; have := z12.out; have := z13.out; have := z14.out; have := z15.out; have := z16.out; have := z17.out; have := z18.out; have := z19.out; omega)
  replace ht := Tm.at_keep (hm.lt (fun y q => by have q1 := ls1 y q; have := z0.out; have := z1.out; have := z2.out; have := z3.out; have := z4.out; have := z5.out; have := z6.out; have := z7.out; have := z8.out; have := z9.out; have := z10.out; have := z11.out; have := z12.out; have := z13.out; have := z14.out; have := z15.out; have := z16.out; have := z17.out; have := z18.out; have := z19.out; omega)) ht
  replace hp := D.rd_keep (hm.lt (fun y q => by have q1 := ls1 y q; have := z0.out; have := z1.out; have := z2.out; have := z3.out; have := z4.out; have := z5.out; have := z6.out; have := z7.out; have := z8.out; have := z9.out; have := z10.out; have := z11.out; have := z12.out; have := z13.out; have := z14.out; have := z15.out; have := z16.out; have := z17.out; have := z18.out; have := z19.out; omega)) _ _ hp
  replace hs := Tm.at_keep (hm.lt (fun y q => by have q1 := ls1 y q; have := z0.out; have := z1.out; have := z2.out; have := z3.out; have := z4.out; have := z5.out; have := z6.out; have := z7.out; have := z8.out; have := z9.out; have := z10.out; have := z11.out; have := z12.out; have := z13.out; have := z14.out; have := z15.out; have := z16.out; have := z17.out; have := z18.out; have := z19.out; omega)) hs
  replace Br0 := Br0.marked hm (fun q => by have q1 := ls1 _ q; have q2 := us1 _ q; have := z0.out; have := z1.out; have := z2.out; have := z3.out; have := z4.out; have := z5.out; have := z6.out; have := z7.out; have := z8.out; have := z9.out; have := z10.out; have := z11.out; have := z12.out; have := z13.out; have := z14.out; have := z15.out; have := z16.out; have := z17.out; have := z18.out; have := z19.out; omega)
  replace hr := Tm.at_keep (hm.lt (fun y q => by have q1 := ls1 y q; have := z0.out; have := z1.out; have := z2.out; have := z3.out; have := z4.out; have := z5.out; have := z6.out; have := z7.out; have := z8.out; have := z9.out; have := z10.out; have := z11.out; have := z12.out; have := z13.out; have := z14.out; have := z15.out; have := z16.out; have := z17.out; have := z18.out; have := z19.out; omega)) hr
  replace Bt1 := Bt1.marked hm (fun q => by have q1 := ls1 _ q; have q2 := us1 _ q; have := z0.out; have := z1.out; have := z2.out; have := z3.out; have := z4.out; have := z5.out; have := z6.out; have := z7.out; have := z8.out; have := z9.out; have := z10.out; have := z11.out; have := z12.out; have := z13.out; have := z14.out; have := z15.out; have := z16.out; have := z17.out; have := z18.out; have := z19.out; omega)
  replace Bs1 := Bs1.marked hm (fun q => by have q1 := ls1 _ q; have q2 := us1 _ q; have := z0.out; have := z1.out; have := z2.out; have := z3.out; have := z4.out; have := z5.out; have := z6.out; have := z7.out; have := z8.out; have := z9.out; have := z10.out; have := z11.out; have := z12.out; have := z13.out; have := z14.out; have := z15.out; have := z16.out; have := z17.out; have := z18.out; have := z19.out; omega)
  replace or1 := D.own_keep _ _ _ (hm.apart (fun y hy q => by have q1 := ls1 y q; have q2 := us1 y q; have q3 := lr1 y hy; have q4 := ur1 y hy; have := z0.out; have := z1.out; have := z2.out; have := z3.out; have := z4.out; have := z5.out; have := z6.out; have := z7.out; have := z8.out; have := z9.out; have := z10.out; have := z11.out; have := z12.out; have := z13.out; have := z14.out; have := z15.out; have := z16.out; have := z17.out; have := z18.out; have := z19.out; omega)) or1
  replace Br1 := Br1.marked hm (fun q => by have q1 := ls1 _ q; have q2 := us1 _ q; have := z0.out; have := z1.out; have := z2.out; have := z3.out; have := z4.out; have := z5.out; have := z6.out; have := z7.out; have := z8.out; have := z9.out; have := z10.out; have := z11.out; have := z12.out; have := z13.out; have := z14.out; have := z15.out; have := z16.out; have := z17.out; have := z18.out; have := z19.out; omega)
  replace op2 := D.own_keep _ _ _ (hm.apart (fun y hy q => by have q1 := ls1 y q; have q2 := us1 y q; have q3 := lp2 y hy; have q4 := up2 y hy; have := z0.out; have := z1.out; have := z2.out; have := z3.out; have := z4.out; have := z5.out; have := z6.out; have := z7.out; have := z8.out; have := z9.out; have := z10.out; have := z11.out; have := z12.out; have := z13.out; have := z14.out; have := z15.out; have := z16.out; have := z17.out; have := z18.out; have := z19.out; omega)) op2
  clear ebt0 ebt1 lbt ebs0 ebs1 lbs eBr00 eBr01 lBr0 eBt10 eBt11 lBt1 eBs10 eBs11 lBs1 eBr10 eBr11 lBr1 hm
  clear oM ls1 us1
  have ebt0 := bt.c0
  have ebt1 := bt.c1
  have lbt := bt.lt
  have ebs0 := bs.c0
  have ebs1 := bs.c1
  have lbs := bs.lt
  have eBr00 := Br0.c0
  have eBr01 := Br0.c1
  have lBr0 := Br0.lt
  have eBt10 := Bt1.c0
  have eBt11 := Bt1.c1
  have lBt1 := Bt1.lt
  have eBs10 := Bs1.c0
  have eBs11 := Bs1.c1
  have lBs1 := Bs1.lt
  have eBr10 := Br1.c0
  have eBr11 := Br1.c1
  have lBr1 := Br1.lt
  go_wp2_with fail
  refine (eqTerm_refl (Tm.at_of hnr or1) (Tm.at_all hr)).mono ?_
  rintro e w16 ⟨_, rfl, hb, rfl⟩
  have z20 : Hid (w15.heap.size ≤ w16.heap.size) := hb.size
  replace hW := hW.trans (hb.mono hW.size)
  replace bt := bt.keep hb
  replace bs := bs.keep hb
  replace ht := Tm.at_keep (Keeps.all hb) ht
  replace hp := D.rd_keep (Keeps.all hb) _ _ hp
  replace hs := Tm.at_keep (Keeps.all hb) hs
  replace Br0 := Br0.keep hb
  replace hr := Tm.at_keep (Keeps.all hb) hr
  replace Bt1 := Bt1.keep hb
  replace Bs1 := Bs1.keep hb
  replace or1 := D.own_keep _ _ _ (Keeps.all hb) or1
  replace Br1 := Br1.keep hb
  replace op2 := D.own_keep _ _ _ (Keeps.all hb) op2
  clear ebt0 ebt1 lbt ebs0 ebs1 lbs eBr00 eBr01 lBr0 eBt10 eBt11 lBt1 eBs10 eBs11 lBs1 eBr10 eBr11 lBr1 hb
  have ebt0 := bt.c0
  have ebt1 := bt.c1
  have lbt := bt.lt
  have ebs0 := bs.c0
  have ebs1 := bs.c1
  have lbs := bs.lt
  have eBr00 := Br0.c0
  have eBr01 := Br0.c1
  have lBr0 := Br0.lt
  have eBt10 := Bt1.c0
  have eBt11 := Bt1.c1
  have lBt1 := Bt1.lt
  have eBs10 := Bs1.c0
  have eBs11 := Bs1.c1
  have lBs1 := Bs1.lt
  have eBr10 := Br1.c0
  have eBr11 := Br1.c1
  have lBr1 := Br1.lt
  go_wp2_with fail
  have hq := markTerm_any r.args 1 (n := r.name) hcr or1
  rw [Hrm.out] at hq
  rw [show ((1 : Nat) : Int) = 1 from rfl] at hq
  refine hq.mono ?_
  clear hq
  rintro e w17 ⟨rfl, hm, oM⟩
  clear or1
  have z21 : Hid (w16.heap.size ≤ w17.heap.size) := hm.size
  replace hW := hW.trans (hm.2 _ hW.size (fun y hy => by have q1 := lr1 y hy; have := z0.out; have := z1.out; have := z2.out; have := z3.out; have := z4.out; have := z5.out; have := z6.out; have := z7.out; have := z8.out; have := z9.out; have := z10.out; have := z11.out; have := z12.out; have := z13.out; have := z14.out; have := z15.out; have := z16.out; have := z17.out; have := z18.out; have := z19.out; have := z20.out; have := z21.out; omega))
  replace bt := bt.marked hm (fun q => by have q1 := lr1 _ q; have q2 := ur1 _ q; have := z0.out; have := z1.out; have := z2.out; have := z3.out; have := z4.out; have := z5.out; have := z6.out; have := z7.out; have := z8.out; have := z9.out; have := z10.out; have := z11.out; have := z12.out; have := z13.out; have := z14.out; have := z15.out; have := z16.out; have := z17.out; have := z18.out; have := z19.out; have := z20.out; have := z21.out; omega)
  replace bs := bs.marked hm (fun q => by have q1 := lr1 _ q; have q2 := ur1 _ q; have := z0.out; have := z1.out; have := z2.out; have := z3.out; have := z4.out; have := z5.out; have := z6.out; have := z7.out; have := z8.out; have := z9.out; have := z10.out; have := z11.out; have := z12.out; have := z13.out; have := z14.out; have := z15.out; have := z16.out; have := z17.out; have := z18.out; have := z19.out; have := z20.out; have := z21.out; omega)
  replace ht := Tm.at_keep (hm.lt (fun y q => by have q1 := lr1 y q; have := z0.out; have := z1.out; have := z2.out; have := z3.out; have := z4.out; have := z5.out; have := z6.out; have := z7.out; have := z8.out; have := z9.out; have := z10.out; have := z11.out; have := z12.out; have := z13.out; have := z14.out; have := z15.out; have := z16.out; have := z17.out; have := z18.out; have := z19.out; have := z20.out; have := z21.out; omega)) ht
  replace hp := D.rd_keep (hm.lt (fun y q => by have q1 := lr1 y q; have := z0.out; have := z1.out; have := z2.out; have := z3.out; have := z4.out; have := z5.out; have := z6.out; have := z7.out; have := z8.out; have := z9.out; have := z10.out; have := z11.out; have := z12.out; have := z13.out; have := z14.out; have := z15.out; have := z16.out; have := z17.out; have := z18.out; have := z19.out; have := z20.out; have := z21.out; omega)) _ _ hp
  replace hs := Tm.at_keep (hm.lt (fun y q => by have q1 := lr1 y q; have := z0.out; have := z1.out; have := z2.out; have := z3.out; have := z4.out; have := z5.out; have := z6.out; have := z7.out; have := z8.out; have := z9.out; have := z10.out; have := z11.out; have := z12.out; have := z13.out; have := z14.out; have := z15.out; have := z16.out; have := z17.out; have := z18.out; have := z19.out; have := z20.out; have := z21.out; omega)) hs
  replace Br0 := Br0.marked hm (fun q => by have q1 := lr1 _ q; have q2 := ur1 _ q; have := z0.out; have := z1.out; have := z2.out; have := z3.out; have := z4.out; have := z5.out; have := z6.out; have := z7.out; have := z8.out; have := z9.out; have := z10.out; have := z11.out; have := z12.out; have := z13.out; have := z14.out; have := z15.out; have := z16.out; have := z17.out; have := z18.out; have := z19.out; have := z20.out; have := z21.out; omega)
  replace hr := Tm.at_keep (hm.lt (fun y q => by have q1 := lr1 y q; have := z0.out; have := z1.out; have := z2.out; have := z3.out; have := z4.out; have := z5.out; have := z6.out; have := z7.out; have := z8.out; have := z9.out; have := z10.out; have := z11.out; have := z12.out; have := z13.out; have := z14.out; have := z15.out; have := z16.out; have := z17.out; have := z18.out; have := z19.out; have := z20.out; have := z21.out; omega)) hr
  replace Bt1 := Bt1.marked hm (fun q => by have q1 := lr1 _ q; have q2 := ur1 _ q; have := z0.out; have := z1.out; have := z2.out; have := z3.out; have := z4.out; have := z5.out; have := z6.out; have := z7.out; have := z8.out; have := z9.out; have := z10.out; have := z11.out; have := z12.out; have := z13.out; have := z14.out; have := z15.out; have := z16.out; have := z17.out; have := z18.out; have := z19.out; have := z20.out; have := z21.out; omega)
  replace Bs1 := Bs1.marked hm (fun q => by have q1 := lr1 _ q; have q2 := ur1 _ q; have := z0.out; have := z1.out; have := z2.out; have := z3.out; have := z4.out; have := z5.out; have := z6.out; have := z7.out; have := z8.out; have := z9.out; have := z10.out; have := z11.out; have := z12.out; have := z13.out; have := z14.out; have := z15.out; have := z16.out; have := z17.out; have := z18.out; have := z19.out; have := z20.out; have := z21.out; omega)
  replace Br1 := Br1.marked hm (fun q => by have q1 := lr1 _ q; have q2 := ur1 _ q; have := z0.out; have := z1.out; have := z2.out; have := z3.out; have := z4.out; have := z5.out; have := z6.out; have := z7.out; have := z8.out; have := z9.out; have := z10.out; have := z11.out; have := z12.out; have := z13.out; have := z14.out; have := z15.out; have := z16.out; have := z17.out; have := z18.out; have := z19.out; have := z20.out; have := z21.out; omega)
  replace op2 := D.own_keep _ _ _ (hm.apart (fun y hy q => by have q1 := lr1 y q; have q2 := ur1 y q; have q3 := lp2 y hy; have q4 := up2 y hy; have := z0.out; have := z1.out; have := z2.out; have := z3.out; have := z4.out; have := z5.out; have := z6.out; have := z7.out; have := z8.out; have := z9.out; have := z10.out; have := z11.out; have := z12.out; have := z13.out; have := z14.out; have := z15.out; have := z16.out; have := z17.out; have := z18.out; have := z19.out; have := z20.out; have := z21.out; omega)) op2
  clear ebt0 ebt1 lbt ebs0 ebs1 lbs eBr00 eBr01 lBr0 eBt10 eBt11 lBt1 eBs10 eBs11 lBs1 eBr10 eBr11 lBr1 hm
  have oM0 := oM
  clear oM
  have ebt0 := bt.c0
  have ebt1 := bt.c1
  have lbt := bt.lt
  have ebs0 := bs.c0
  have ebs1 := bs.c1
  have lbs := bs.lt
  have eBr00 := Br0.c0
  have eBr01 := Br0.c1
  have lBr0 := Br0.lt
  have eBt10 := Bt1.c0
  have eBt11 := Bt1.c1
  have lBt1 := Bt1.lt
  have eBs10 := Bs1.c0
  have eBs11 := Bs1.c1
  have lBs1 := Bs1.lt
  have eBr10 := Br1.c0
  have eBr11 := Br1.c1
  have lBr1 := Br1.lt
  go_wp2_with fail
  have hq := heldTerm_any r.args 1 (n := r.name) hcr (D.own_rd _ _ _ oM0)
  rw [Hrm.out] at hq
  rw [show ((1 : Nat) : Int) = 1 from rfl] at hq
  refine hq.mono ?_
  clear hq
  rintro e w18 ⟨_, rfl, hb, rfl⟩
  have z22 : Hid (w17.heap.size ≤ w18.heap.size) := hb.size
  replace hW := hW.trans (hb.mono hW.size)
  replace bt := bt.keep hb
  replace bs := bs.keep hb
  replace ht := Tm.at_keep (Keeps.all hb) ht
  replace hp := D.rd_keep (Keeps.all hb) _ _ hp
  replace hs := Tm.at_keep (Keeps.all hb) hs
  replace Br0 := Br0.keep hb
  replace hr := Tm.at_keep (Keeps.all hb) hr
  replace Bt1 := Bt1.keep hb
  replace Bs1 := Bs1.keep hb
  replace Br1 := Br1.keep hb
  replace op2 := D.own_keep _ _ _ (Keeps.all hb) op2
  replace oM0 := D.own_keep _ _ _ (Keeps.all hb) oM0
  clear ebt0 ebt1 lbt ebs0 ebs1 lbs eBr00 eBr01 lBr0 eBt10 eBt11 lBt1 eBs10 eBs11 lBs1 eBr10 eBr11 lBr1 hb
  have ebt0 := bt.c0
  have ebt1 := bt.c1
  have lbt := bt.lt
  have ebs0 := bs.c0
  have ebs1 := bs.c1
  have lbs := bs.lt
  have eBr00 := Br0.c0
  have eBr01 := Br0.c1
  have lBr0 := Br0.lt
  have eBt10 := Bt1.c0
  have eBt11 := Bt1.c1
  have lBt1 := Bt1.lt
  have eBs10 := Bs1.c0
  have eBs11 := Bs1.c1
  have lBs1 := Bs1.lt
  have eBr10 := Br1.c0
  have eBr11 := Br1.c1
  have lBr1 := Br1.lt
  go_wp2_with fail
  go_cut [18, 19] from 22 (fun v8 v9 wc => ZEnd w18 r ok v8 v9 wc)
  case first =>
    have HMK : Hid (∀ w', Below w18.heap.size w18 w' → (w'.cell? ⟨w.heap.size, 0, none⟩ = some (.string t.name) ∧ w'.cell? ⟨w.heap.size, 1, none⟩ = some (.slice ta0 t.args.length tc0) ∧ w'.cell? ⟨w.heap.size + 1, 0, none⟩ = some (.string s.name) ∧ w'.cell? ⟨w.heap.size + 1, 1, none⟩ = some (.slice sa0 s.args.length sc0) ∧ Below w18.heap.size w18 w')) := fun w' h => ⟨(bt.keep h).c0, (bt.keep h).c1, (bs.keep h).c0, (bs.keep h).c1, h⟩
    have HEX : Hid (∀ w', (w'.cell? ⟨w.heap.size, 0, none⟩ = some (.string t.name) ∧ w'.cell? ⟨w.heap.size, 1, none⟩ = some (.slice ta0 t.args.length tc0) ∧ w'.cell? ⟨w.heap.size + 1, 0, none⟩ = some (.string s.name) ∧ w'.cell? ⟨w.heap.size + 1, 1, none⟩ = some (.slice sa0 s.args.length sc0) ∧ Below w18.heap.size w18 w') → Below w18.heap.size w18 w') := fun _ h => h.2.2.2.2
    have HSP : Hid (∀ (w' : World) (q0 q1 q2 : Value), Below w18.heap.size w18 w' → Tm.at (fun _ => True) w' (.string t.name) (q0) t → D.rd (fun _ => True) w' (q1) (slOf intE p) → Tm.at (fun _ => True) w' (.string s.name) (q2) s → Calls Try.prog 9 #[.agg #[.string t.name, q0], q1, .agg #[.string s.name, q2]] w' (OutT r ok w')) := fun w' _ _ _ hWW h0 h1 h2 => by
      have hq := impl_ReplaceAt h0 hbt h1 hbp h2 hbs (by omega)
      rw [Hr.out, Hok.out] at hq
      exact hq
    go_region_held3 (fun w' => w'.cell? ⟨w.heap.size, 0, none⟩ = some (.string t.name) ∧ w'.cell? ⟨w.heap.size, 1, none⟩ = some (.slice ta0 t.args.length tc0) ∧ w'.cell? ⟨w.heap.size + 1, 0, none⟩ = some (.string s.name) ∧ w'.cell? ⟨w.heap.size + 1, 1, none⟩ = some (.slice sa0 s.args.length sc0) ∧ Below w18.heap.size w18 w')
      (first | assumption | exact HMK.out _ (Below.refl _ _).drew | exact HMK.out _ ((Below.refl _ _).alloc (Nat.le_refl _) _).drew | exact HMK.out _ (Below.refl _ _) | exact HMK.out _ (Below.alloc (HEX.out _ (by assumption)) (HEX.out _ (by assumption)).size _) | exact HMK.out _ (Below.setCell (HEX.out _ (by assumption)) (by dsimp only; omega) _) | exact HMK.out _ (Below.setCell (Below.setCell (HEX.out _ (by assumption)) (by dsimp only; omega) _) (by dsimp only; omega) _))
      (first
        | (have _q := f2; go_at_call 7; refine (toTerm_is (Tm.at_keep (Keeps.all (HEX.out _ (by assumption))) hs) hbs).mono ?_; rintro e x3 ⟨_, rfl, hx3, g3⟩; obtain ⟨sa7, sc7, rfl, f3⟩ := Is.form g3; clear g3; have hB3 : Below w18.heap.size w18 x3 := Below.trans (HEX.out _ (by assumption)) (hx3.mono (HEX.out _ (by assumption)).size); have zz3 := hB3.size; have hS3 := HMK.out _ hB3; (first | (replace zb := ZBox.keep zb hx3) | (have zb := ZBox.keep (ZBox.new _) hx3) | (have zb := ZBox.keep ((ZBox.new w18).keep (Below.refl _ _).drew) hx3) | skip); replace f1 := Tm.at_keep (Keeps.all hx3) (by first | exact f1 | exact Tm.at_keep (Keeps.all ((Below.refl _ _).alloc (Nat.le_refl _) _)) f1); replace f2 := D.rd_keep (Keeps.all hx3) _ _ (by first | exact f2 | exact D.rd_keep (Keeps.all ((Below.refl _ _).alloc (Nat.le_refl _) _)) _ _ f2))
        | (have _q := f1; go_at_call 8; refine (toIntS_is (D.rd_keep (Keeps.all (HEX.out _ (by assumption))) _ _ hp) hbp).mono ?_; rintro e x2 ⟨_, rfl, hx2, g2⟩; obtain ⟨pa7, pc7, rfl, f2⟩ := IsIS.form g2; clear g2; have hB2 : Below w18.heap.size w18 x2 := Below.trans (HEX.out _ (by assumption)) (hx2.mono (HEX.out _ (by assumption)).size); have zz2 := hB2.size; have hS2 := HMK.out _ hB2; (first | (replace zb := ZBox.keep zb hx2) | (have zb := ZBox.keep (ZBox.new _) hx2) | (have zb := ZBox.keep ((ZBox.new w18).keep (Below.refl _ _).drew) hx2) | skip); replace f1 := Tm.at_keep (Keeps.all hx2) (by first | exact f1 | exact Tm.at_keep (Keeps.all ((Below.refl _ _).alloc (Nat.le_refl _) _)) f1))
        | (go_at_call 7; refine (toTerm_is (Tm.at_keep (Keeps.all (HEX.out _ (by assumption))) ht) hbt).mono ?_; rintro e x1 ⟨_, rfl, hx1, g1⟩; obtain ⟨ta7, tc7, rfl, f1⟩ := Is.form g1; clear g1; have hB1 : Below w18.heap.size w18 x1 := Below.trans (HEX.out _ (by assumption)) (hx1.mono (HEX.out _ (by assumption)).size); have zz1 := hB1.size; have hS1 := HMK.out _ hB1; (first | (replace zb := ZBox.keep zb hx1) | (have zb := ZBox.keep (ZBox.new _) hx1) | (have zb := ZBox.keep ((ZBox.new w18).keep (Below.refl _ _).drew) hx1) | skip))
        | (go_at_call 9; refine (HSP.out _ _ _ _ (HEX.out _ (by assumption)) (by first | exact f1 | exact Tm.at_keep (Keeps.all ((Below.refl _ _).alloc (Nat.le_refl _) _)) f1) (by first | exact f2 | exact D.rd_keep (Keeps.all ((Below.refl _ _).alloc (Nat.le_refl _) _)) _ _ f2) (by first | exact f3 | exact Tm.at_keep (Keeps.all ((Below.refl _ _).alloc (Nat.le_refl _) _)) f3)).mono ?_; rintro e x4 ⟨_, Fr, rfl, oR, hFr, hx4⟩; (first | (have hnb := ZBox.notin zb hFr) | skip); obtain ⟨ra7, rc7, rfl⟩ := Tm.sd_own_form oR; have hB4 : Below w18.heap.size w18 x4 := Below.trans (HEX.out _ (by assumption)) (hx4.mono (HEX.out _ (by assumption)).size); have zz4 := hB4.size; have hS4 := HMK.out _ hB4; (first | (replace zb := ZBox.keep zb hx4) | (have zb := ZBox.keep (ZBox.new _) hx4) | (have zb := ZBox.keep ((ZBox.new w18).keep (Below.refl _ _).drew) hx4) | skip); (first | (obtain ⟨zl, z0, z1, zf0, zf1⟩ := zb) | skip)))
    all_goals
      go_wp2_with fail
      go_meet
      case rel =>
        first
          | (have _q := zl; exact ZEnd.filled ⟨zl, z0, z1, zf0, zf1⟩ hB4 (by omega) hnr oR (by first | exact hnb | (intro q; have q1 := hFr _ q; simp only [World.size_alloc] at q1; omega)))
          | exact ZEnd.last hB4 hnr oR
  obtain ⟨bBh2, ra2, rc2, rfl, rfl, z23, Bh2, hr2, hb⟩ := hcut
  replace Bh2 := Bh2.out
  replace hr2 := hr2.out
  obtain ⟨w19, rfl⟩ : ∃ x, x = wc := ⟨_, rfl⟩
  have z24 : Hid (w18.heap.size ≤ w19.heap.size) := hb.size
  replace hW := hW.trans (hb.mono hW.size)
  replace bt := bt.keep hb
  replace bs := bs.keep hb
  replace ht := Tm.at_keep (Keeps.all hb) ht
  replace hp := D.rd_keep (Keeps.all hb) _ _ hp
  replace hs := Tm.at_keep (Keeps.all hb) hs
  replace Br0 := Br0.keep hb
  replace hr := Tm.at_keep (Keeps.all hb) hr
  replace Bt1 := Bt1.keep hb
  replace Bs1 := Bs1.keep hb
  replace Br1 := Br1.keep hb
  replace op2 := D.own_keep _ _ _ (Keeps.all hb) op2
  replace oM0 := D.own_keep _ _ _ (Keeps.all hb) oM0
  clear ebt0 ebt1 lbt ebs0 ebs1 lbs eBr00 eBr01 lBr0 eBt10 eBt11 lBt1 eBs10 eBs11 lBs1 eBr10 eBr11 lBr1 hb
  have ebt0 := bt.c0
  have ebt1 := bt.c1
  have lbt := bt.lt
  have ebs0 := bs.c0
  have ebs1 := bs.c1
  have lbs := bs.lt
  have eBr00 := Br0.c0
  have eBr01 := Br0.c1
  have lBr0 := Br0.lt
  have eBt10 := Bt1.c0
  have eBt11 := Bt1.c1
  have lBt1 := Bt1.lt
  have eBs10 := Bs1.c0
  have eBs11 := Bs1.c1
  have lBs1 := Bs1.lt
  have eBr10 := Br1.c0
  have eBr11 := Br1.c1
  have lBr1 := Br1.lt
  have eBh20 := Bh2.c0
  have eBh21 := Bh2.c1
  have lBh2 := Bh2.lt
  go_wp2_with fail
  refine (eqTerm_refl (Tm.at_all hr2) (Tm.at_all hr)).mono ?_
  rintro e w20 ⟨_, rfl, hb, rfl⟩
  have z25 : Hid (w19.heap.size ≤ w20.heap.size) := hb.size
  replace hW := hW.trans (hb.mono hW.size)
  replace bt := bt.keep hb
  replace bs := bs.keep hb
  replace ht := Tm.at_keep (Keeps.all hb) ht
  replace hp := D.rd_keep (Keeps.all hb) _ _ hp
  replace hs := Tm.at_keep (Keeps.all hb) hs
  replace Br0 := Br0.keep hb
  replace hr := Tm.at_keep (Keeps.all hb) hr
  replace Bt1 := Bt1.keep hb
  replace Bs1 := Bs1.keep hb
  replace Br1 := Br1.keep hb
  replace op2 := D.own_keep _ _ _ (Keeps.all hb) op2
  replace oM0 := D.own_keep _ _ _ (Keeps.all hb) oM0
  replace Bh2 := Bh2.keep hb
  replace hr2 := Tm.at_keep (Keeps.all hb) hr2
  clear ebt0 ebt1 lbt ebs0 ebs1 lbs eBr00 eBr01 lBr0 eBt10 eBt11 lBt1 eBs10 eBs11 lBs1 eBr10 eBr11 lBr1 eBh20 eBh21 lBh2 hb
  have ebt0 := bt.c0
  have ebt1 := bt.c1
  have lbt := bt.lt
  have ebs0 := bs.c0
  have ebs1 := bs.c1
  have lbs := bs.lt
  have eBr00 := Br0.c0
  have eBr01 := Br0.c1
  have lBr0 := Br0.lt
  have eBt10 := Bt1.c0
  have eBt11 := Bt1.c1
  have lBt1 := Bt1.lt
  have eBs10 := Bs1.c0
  have eBs11 := Bs1.c1
  have lBs1 := Bs1.lt
  have eBr10 := Br1.c0
  have eBr11 := Br1.c1
  have lBr1 := Br1.lt
  have eBh20 := Bh2.c0
  have eBh21 := Bh2.c1
  have lBh2 := Bh2.lt
  go_wp2_with fail
  have hq := heldTerm_any r.args 1 (n := r.name) hcr (D.own_rd _ _ _ oM0)
  rw [Hrm.out] at hq
  rw [show ((1 : Nat) : Int) = 1 from rfl] at hq
  refine hq.mono ?_
  clear hq
  rintro e w21 ⟨_, rfl, hb, rfl⟩
  have z26 : Hid (w20.heap.size ≤ w21.heap.size) := hb.size
  replace hW := hW.trans (hb.mono hW.size)
  replace bt := bt.keep hb
  replace bs := bs.keep hb
  replace ht := Tm.at_keep (Keeps.all hb) ht
  replace hp := D.rd_keep (Keeps.all hb) _ _ hp
  replace hs := Tm.at_keep (Keeps.all hb) hs
  replace Br0 := Br0.keep hb
  replace hr := Tm.at_keep (Keeps.all hb) hr
  replace Bt1 := Bt1.keep hb
  replace Bs1 := Bs1.keep hb
  replace Br1 := Br1.keep hb
  replace op2 := D.own_keep _ _ _ (Keeps.all hb) op2
  replace oM0 := D.own_keep _ _ _ (Keeps.all hb) oM0
  replace Bh2 := Bh2.keep hb
  replace hr2 := Tm.at_keep (Keeps.all hb) hr2
  clear ebt0 ebt1 lbt ebs0 ebs1 lbs eBr00 eBr01 lBr0 eBt10 eBt11 lBt1 eBs10 eBs11 lBs1 eBr10 eBr11 lBr1 eBh20 eBh21 lBh2 hb
  have ebt0 := bt.c0
  have ebt1 := bt.c1
  have lbt := bt.lt
  have ebs0 := bs.c0
  have ebs1 := bs.c1
  have lbs := bs.lt
  have eBr00 := Br0.c0
  have eBr01 := Br0.c1
  have lBr0 := Br0.lt
  have eBt10 := Bt1.c0
  have eBt11 := Bt1.c1
  have lBt1 := Bt1.lt
  have eBs10 := Bs1.c0
  have eBs11 := Bs1.c1
  have lBs1 := Bs1.lt
  have eBr10 := Br1.c0
  have eBr11 := Br1.c1
  have lBr1 := Br1.lt
  have eBh20 := Bh2.c0
  have eBh21 := Bh2.c1
  have lBh2 := Bh2.lt
  go_wp2_with fail
  go_ret
  exact ⟨rfl, hW⟩

/-! the row -/
set_option maxRecDepth 100000 in
theorem lifted (os : Os) (started : os.Started) (H : Type) (enc : TypeId × Value → H) :
    ReturnsInHanded {} Try.checked os 3 .any (Rows.fnExactReplaceAtSpec.pre6 enc Try.prog Try.f3 Rows.fnExactReplaceAtRow.domain false) (Rows.fnExactReplaceAtSpec.post enc Try.prog Try.f3 false true false false) := by
  refine returnsInHanded_of_change (C := Try.checked) own started (by kernel_rfl) Try.func3
    (ChangeSpec.witness6 (enc := enc) (C := Try.checked) false ⟨#[], #[.agg #[.string ByteArray.empty, .slice none 0 0], .slice none 0 0, .agg #[.string ByteArray.empty, .slice none 0 0]], []⟩ 8 (by kernel_rfl) (by kernel_rfl) (by kernel_rfl) (by kernel_rfl)) ?_
  intro W base args ds gs before hval0 hW _ _
  have hval : ∀ (j : Nat) t v, Try.f3.params[j]? = some t → args[j]? = some v → Value.okWide Try.prog W .any base t v := hval0
  have hW' := hW
  obtain ⟨p, q, hA0, hV, rfl, hfz, hnd⟩ := hW
  have hA : DataW.TrodAll enc Try.prog W 0 (fun _ => true) true Try.f3.params.toList args.toList ds p := hA0
  rw [Try.params3] at hA hval
  obtain ⟨v0, vs0, d0, ds0, p0, q0, hargs, rfl, rfl, h0, r0⟩ := trodAll_cons hA
  obtain ⟨v1, vs1, d1, ds1, p1, q1, rfl, rfl, rfl, h1, r1⟩ := trodAll_cons r0
  obtain ⟨v2, vs2, d2, ds2, p2, q2, rfl, rfl, rfl, h2, r2⟩ := trodAll_cons r1
  obtain ⟨rfl, rfl, rfl⟩ := trodAll_nil r2
  obtain rfl : args = #[v0, v1, v2] := by cases args; simp_all
  obtain ⟨rfl, rfl⟩ := trodVars_none hV
  have k0 := h0
  have k1 := h1
  have k2 := h2
  obtain ⟨t0, t1, t, rfl, ht⟩ := open_Term (hval 0 24 v0 rfl rfl) h0
  obtain ⟨p, hp⟩ := open_IntS (hval 1 25 v1 rfl rfl) h1
  obtain ⟨s0, s1, s, rfl, hs⟩ := open_Term (hval 2 24 v2 rfl rfl) h2
  clear hA0 hval0
  simp only [List.append_nil] at hW'
  have hlt0 : ∀ x ∈ p0, x.block < W.heap.size := fun x hx => hW'.lt x (by simp [hx])
  have hlt1 : ∀ x ∈ p1, x.block < W.heap.size := fun x hx => hW'.lt x (by simp [hx])
  have hlt2 : ∀ x ∈ p2, x.block < W.heap.size := fun x hx => hW'.lt x (by simp [hx])
  refine (walk t0 t1 t ht v1 p hp s0 s1 s hs).mono fun e W' ⟨he, hb⟩ => ?_
  subst he
  exact ⟨_, rfl, [d0, d1, d2], [], _, [], p0 ++ (p1 ++ (p2 ++ [])), [], by simpa using hW', trodAll_cons_mk (shut_bool Try.underlying4 _) trodAll_mk0, (trodAll_cons_mk (Below.trod laidOut (by kernel_rfl) (of_decide_eq_true (by kernel_rfl)) k0 hb hlt0) (trodAll_cons_mk (Below.trod laidOut (by kernel_rfl) (of_decide_eq_true (by kernel_rfl)) k1 hb hlt1) (trodAll_cons_mk (Below.trod laidOut (by kernel_rfl) (of_decide_eq_true (by kernel_rfl)) k2 hb hlt2) trodAll_mk0))), rfl, hb.frame _, fun h => by cases h⟩

theorem over : Rows.fnExactReplaceAtRow.holds Try.pinned (OpenSpec.ofChange Rows.fnExactReplaceAtSpec) :=
  OpenClaim.holds_of_wide 3 Try.f3 rfl rfl rfl rfl rfl rfl rfl ⟨rfl, rfl, rfl, rfl, rfl⟩ rfl rfl rfl rfl rfl (by kernel_rfl) Try.func3 (by kernel_rfl)
    (of_decide_eq_true (by kernel_rfl)) (by unfold Func.isWrapper; first | (rw [if_pos (by decide +kernel)]; kernel_rfl) | (rw [if_neg (by decide +kernel)]; exact ⟨rfl, rfl⟩))
    (fun os started H enc _ => lifted os started H enc)

theorem proved : Rows.FnExactReplaceAtSaid :=
  over
#print axioms proved
end Go.Proofs.Ytoblhgaohmfjeaa.fnExactReplaceAt
