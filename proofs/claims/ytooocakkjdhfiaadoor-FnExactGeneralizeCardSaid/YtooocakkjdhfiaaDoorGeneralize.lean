/- For every input the law FnExactGeneralize returns true, and each argument reads behind the call as it read before it: the tied card. Conditions: the package-level variables that the row lists start as the program's text lays them. -/
import Derived.Test.YtooocakkjdhfiaaDoorRows
import Derived.Test.YtooocakkjdhfiaaDoorCards
import Derived.Test.YtooocakkjdhfiaaDoorTie
import Derived.Test.YtooocakkjdhfiaaDoorBrT
import Derived.Test.YtooocakkjdhfiaaDoorSz
import Derived.Test.YtooocakkjdhfiaaDoorTo
import Derived.Test.YtooocakkjdhfiaaDoorEq
import Derived.Test.YtooocakkjdhfiaaDoorMw
import Derived.Test.YtooocakkjdhfiaaDoorZb
import Derived.Test.YtooocakkjdhfiaaDoorGz
import Derived.Deep.Cut
import Derived.Deep.RegionHeld3
import Derived.OpenShut
namespace Go.Proofs.YtooocakkjdhfiaaDoor.fnExactGeneralize
set_option maxRecDepth 100000
open Go Go.ChangeShapes Go.WideShapes Go.ChangeAt Go.RowKit

def Fact (w : World) : Prop := TabF w
theorem fact_of_laid {W : World} (h : laidMetH Tryd.prog Rows.fnExactGeneralizeRow.laid W) (_ : W.ShapedOpen Tryd.prog) : Fact W := tab_of (laidMetH_iff.1 h).1 rfl
theorem laidWorld_met (os : Os) (args : Array Value) : laidMetH Tryd.prog Rows.fnExactGeneralizeRow.laid ((laidWorld os).forCall (fun _ _ => 0) ⟨#[], args, []⟩).memory :=
  laidMetH_of_parts (laidMet_of_run' 8 (by kernel_rfl) (by kernel_rfl)) (by kernel_rfl)
set_option maxHeartbeats 4000000 in
theorem walk {w : World} (hF : Fact w) (t0 t1 : Value) (t : Tm) (ht : Tm.at (fun _ => True) w t0 t1 t) (u0 u1 : Value) (u : Tm) (hu : Tm.at (fun _ => True) w u0 u1 u) :
    Calls Tryd.prog 3 #[.agg #[t0, t1], .agg #[u0, u1]] w fun e w' => e = .returned (.bool true) ∧ Below w.heap.size w w' := by
  obtain ⟨rfl, hnt, ta0, tc0, rfl⟩ := Tm.at_form ht
  obtain ⟨rfl, hnu, ua0, uc0, rfl⟩ := Tm.at_form hu
  obtain ⟨r, Hr⟩ : ∃ r, Hid (genR t u = r) := ⟨_, hid rfl⟩
  obtain ⟨ok, Hok⟩ : ∃ ok : Bool, Hid (genOk t u = ok) := ⟨_, hid rfl⟩
  have hW : Below w.heap.size w ((w.alloc (.cells #[.string t.name, .slice ta0 t.args.length tc0] 24)).alloc (.cells #[.string u.name, .slice ua0 u.args.length uc0] 24)) := ((Below.refl _ _).alloc (Nat.le_refl _) _).alloc (by simp) _
  have bt : Box ((w.alloc (.cells #[.string t.name, .slice ta0 t.args.length tc0] 24)).alloc (.cells #[.string u.name, .slice ua0 u.args.length uc0] 24)) (w.heap.size) [.string t.name, .slice ta0 t.args.length tc0] := by
    have := (Box.new w [.string t.name, .slice ta0 t.args.length tc0] 24).alloc (.cells #[.string u.name, .slice ua0 u.args.length uc0] 24)
    simpa only [World.size_alloc] using this
  have bu : Box ((w.alloc (.cells #[.string t.name, .slice ta0 t.args.length tc0] 24)).alloc (.cells #[.string u.name, .slice ua0 u.args.length uc0] 24)) (w.heap.size + 1) [.string u.name, .slice ua0 u.args.length uc0] := by
    have := (Box.new (w.alloc (.cells #[.string t.name, .slice ta0 t.args.length tc0] 24)) [.string u.name, .slice ua0 u.args.length uc0] 24)
    simpa only [World.size_alloc] using this
  replace ht := Tm.at_keep (Keeps.all hW) ht
  replace hu := Tm.at_keep (Keeps.all hW) hu
  have z0 : Hid (w.heap.size + 2 ≤ ((w.alloc (.cells #[.string t.name, .slice ta0 t.args.length tc0] 24)).alloc (.cells #[.string u.name, .slice ua0 u.args.length uc0] 24)).heap.size) := by simp [Hid]
  go_enter Tryd.func3, Tryd.ntmps3
  have ebt0 := bt.c0
  have ebt1 := bt.c1
  have lbt := bt.lt
  have ebu0 := bu.c0
  have ebu1 := bu.c1
  have lbu := bu.lt
  go_wp2_with fail
  generalize ((w.alloc (.cells #[.string t.name, .slice ta0 t.args.length tc0] 24)).alloc (.cells #[.string u.name, .slice ua0 u.args.length uc0] 24)) = w0 at *
  refine (szTerm_any t _ _ _ _ _ ht (by omega) (by omega)).mono ?_
  rintro e w1 ⟨rfl, hb⟩
  have z1 : Hid (w0.heap.size ≤ w1.heap.size) := hb.size
  replace hW := hW.trans (hb.mono hW.size)
  replace bt := bt.keep hb
  replace bu := bu.keep hb
  replace ht := Tm.at_keep (Keeps.all hb) ht
  replace hu := Tm.at_keep (Keeps.all hb) hu
  clear ebt0 ebt1 lbt ebu0 ebu1 lbu hb
  by_cases hzt : (t.bulk : Int) ≤ 1048576
  rotate_left
  · rw [after_neg (by omega)]
    go_wp2_with fail
    go_ret
    exact ⟨rfl, hW⟩
  rw [after_pos hzt]
  have hbt : t.bulk ≤ 1048576 := by omega
  have ebt0 := bt.c0
  have ebt1 := bt.c1
  have lbt := bt.lt
  have ebu0 := bu.c0
  have ebu1 := bu.c1
  have lbu := bu.lt
  go_wp2_with fail
  refine (szTerm_any u _ _ _ _ _ hu (by omega) (by omega)).mono ?_
  rintro e w2 ⟨rfl, hb⟩
  have z2 : Hid (w1.heap.size ≤ w2.heap.size) := hb.size
  replace hW := hW.trans (hb.mono hW.size)
  replace bt := bt.keep hb
  replace bu := bu.keep hb
  replace ht := Tm.at_keep (Keeps.all hb) ht
  replace hu := Tm.at_keep (Keeps.all hb) hu
  clear ebt0 ebt1 lbt ebu0 ebu1 lbu hb
  by_cases hzu : (u.bulk : Int) ≤ 1048576 - (t.bulk : Nat)
  rotate_left
  · rw [after_neg (by omega)]
    go_wp2_with fail
    go_ret
    exact ⟨rfl, hW⟩
  rw [after_pos hzu]
  have hbu : u.bulk ≤ 1048576 := by omega
  have ebt0 := bt.c0
  have ebt1 := bt.c1
  have lbt := bt.lt
  have ebu0 := bu.c0
  have ebu1 := bu.c1
  have lbu := bu.lt
  go_wp2_with fail
  have hbr : r.bulk ≤ 1048576 := by
    rw [← Hr.out]
    exact genR_bulk t u
  have hnr : r.name.size ≤ maxLen := Tm.name_le hbr
  have hcr : 1 + Tm.sizes r.args ≤ 1099511627776 := by
    have := Tm.sizes_le_bulk r
    omega
  obtain ⟨rm, Hrm⟩ : ∃ n : Nat, Hid (1 + Tm.sizes r.args = n) := ⟨_, hid rfl⟩
  have hrm : ¬ ((rm : Nat) : Int) < 0 := by omega
  go_cut [6, 7] from 17 (fun v8 v9 wc => ZEnd w2 r ok v8 v9 wc)
  case first =>
    have HMK : Hid (∀ w', Below w2.heap.size w2 w' → (w'.cell? ⟨w.heap.size, 0, none⟩ = some (.string t.name) ∧ w'.cell? ⟨w.heap.size, 1, none⟩ = some (.slice ta0 t.args.length tc0) ∧ w'.cell? ⟨w.heap.size + 1, 0, none⟩ = some (.string u.name) ∧ w'.cell? ⟨w.heap.size + 1, 1, none⟩ = some (.slice ua0 u.args.length uc0) ∧ Below w2.heap.size w2 w')) := fun w' h => ⟨(bt.keep h).c0, (bt.keep h).c1, (bu.keep h).c0, (bu.keep h).c1, h⟩
    have HEX : Hid (∀ w', (w'.cell? ⟨w.heap.size, 0, none⟩ = some (.string t.name) ∧ w'.cell? ⟨w.heap.size, 1, none⟩ = some (.slice ta0 t.args.length tc0) ∧ w'.cell? ⟨w.heap.size + 1, 0, none⟩ = some (.string u.name) ∧ w'.cell? ⟨w.heap.size + 1, 1, none⟩ = some (.slice ua0 u.args.length uc0) ∧ Below w2.heap.size w2 w') → Below w2.heap.size w2 w') := fun _ h => h.2.2.2.2
    have HSP : Hid (∀ (w' : World) (q0 q1 : Value), Below w2.heap.size w2 w' → Tm.at (fun _ => True) w' (.string t.name) (q0) t → Tm.at (fun _ => True) w' (.string u.name) (q1) u → Calls Tryd.prog 5 #[.agg #[.string t.name, q0], .agg #[.string u.name, q1]] w' (OutT r ok w')) := fun w' _ _ hWW h0 h1 => by
      have hq := spec_Generalize h0 hbt h1 hbu
      rw [Hr.out, Hok.out] at hq
      exact hq
    go_region_held3 (fun w' => w'.cell? ⟨w.heap.size, 0, none⟩ = some (.string t.name) ∧ w'.cell? ⟨w.heap.size, 1, none⟩ = some (.slice ta0 t.args.length tc0) ∧ w'.cell? ⟨w.heap.size + 1, 0, none⟩ = some (.string u.name) ∧ w'.cell? ⟨w.heap.size + 1, 1, none⟩ = some (.slice ua0 u.args.length uc0) ∧ Below w2.heap.size w2 w')
      (first | assumption | exact HMK.out _ (Below.refl _ _).drew | exact HMK.out _ ((Below.refl _ _).alloc (Nat.le_refl _) _).drew | exact HMK.out _ (Below.refl _ _) | exact HMK.out _ (Below.alloc (HEX.out _ (by assumption)) (HEX.out _ (by assumption)).size _) | exact HMK.out _ (Below.setCell (HEX.out _ (by assumption)) (by dsimp only; omega) _) | exact HMK.out _ (Below.setCell (Below.setCell (HEX.out _ (by assumption)) (by dsimp only; omega) _) (by dsimp only; omega) _))
      (first
        | (have _q := f1; go_at_call 6; refine (toTerm_is (Tm.at_keep (Keeps.all (HEX.out _ (by assumption))) hu) hbu).mono ?_; rintro e x2 ⟨_, rfl, hx2, g2⟩; obtain ⟨ua7, uc7, rfl, f2⟩ := Is.form g2; clear g2; have hB2 : Below w2.heap.size w2 x2 := Below.trans (HEX.out _ (by assumption)) (hx2.mono (HEX.out _ (by assumption)).size); have zz2 := hB2.size; have hS2 := HMK.out _ hB2; (first | (replace zb := ZBox.keep zb hx2) | (have zb := ZBox.keep (ZBox.new _) hx2) | (have zb := ZBox.keep ((ZBox.new w2).keep (Below.refl _ _).drew) hx2) | skip); replace f1 := Tm.at_keep (Keeps.all hx2) (by first | exact f1 | exact Tm.at_keep (Keeps.all ((Below.refl _ _).alloc (Nat.le_refl _) _)) f1))
        | (go_at_call 6; refine (toTerm_is (Tm.at_keep (Keeps.all (HEX.out _ (by assumption))) ht) hbt).mono ?_; rintro e x1 ⟨_, rfl, hx1, g1⟩; obtain ⟨ta7, tc7, rfl, f1⟩ := Is.form g1; clear g1; have hB1 : Below w2.heap.size w2 x1 := Below.trans (HEX.out _ (by assumption)) (hx1.mono (HEX.out _ (by assumption)).size); have zz1 := hB1.size; have hS1 := HMK.out _ hB1; (first | (replace zb := ZBox.keep zb hx1) | (have zb := ZBox.keep (ZBox.new _) hx1) | (have zb := ZBox.keep ((ZBox.new w2).keep (Below.refl _ _).drew) hx1) | skip))
        | (go_at_call 5; refine (HSP.out _ _ _ (HEX.out _ (by assumption)) (by first | exact f1 | exact Tm.at_keep (Keeps.all ((Below.refl _ _).alloc (Nat.le_refl _) _)) f1) (by first | exact f2 | exact Tm.at_keep (Keeps.all ((Below.refl _ _).alloc (Nat.le_refl _) _)) f2)).mono ?_; rintro e x3 ⟨_, Fr, rfl, oR, hFr, hx3⟩; (first | (have hnb := ZBox.notin zb hFr) | skip); obtain ⟨ra7, rc7, rfl⟩ := Tm.sd_own_form oR; have hB3 : Below w2.heap.size w2 x3 := Below.trans (HEX.out _ (by assumption)) (hx3.mono (HEX.out _ (by assumption)).size); have zz3 := hB3.size; have hS3 := HMK.out _ hB3; (first | (replace zb := ZBox.keep zb hx3) | (have zb := ZBox.keep (ZBox.new _) hx3) | (have zb := ZBox.keep ((ZBox.new w2).keep (Below.refl _ _).drew) hx3) | skip); (first | (obtain ⟨zl, z0, z1, zf0, zf1⟩ := zb) | skip)))
    all_goals
      go_wp2_with fail
      go_meet
      case rel =>
        first
          | (have _q := zl; exact ZEnd.filled ⟨zl, z0, z1, zf0, zf1⟩ hB3 (by omega) hnr oR (by first | exact hnb | (intro q; have q1 := hFr _ q; simp only [World.size_alloc] at q1; omega)))
          | exact ZEnd.last hB3 hnr oR
  obtain ⟨bBr0, ra0, rc0, rfl, rfl, z3, Br0, hr, hb⟩ := hcut
  replace Br0 := Br0.out
  replace hr := hr.out
  obtain ⟨w3, rfl⟩ : ∃ x, x = wc := ⟨_, rfl⟩
  have z4 : Hid (w2.heap.size ≤ w3.heap.size) := hb.size
  replace hW := hW.trans (hb.mono hW.size)
  replace bt := bt.keep hb
  replace bu := bu.keep hb
  replace ht := Tm.at_keep (Keeps.all hb) ht
  replace hu := Tm.at_keep (Keeps.all hb) hu
  clear ebt0 ebt1 lbt ebu0 ebu1 lbu hb
  have ebt0 := bt.c0
  have ebt1 := bt.c1
  have lbt := bt.lt
  have ebu0 := bu.c0
  have ebu1 := bu.c1
  have lbu := bu.lt
  have eBr00 := Br0.c0
  have eBr01 := Br0.c1
  have lBr0 := Br0.lt
  go_wp2_with fail
  replace ht := Tm.at_lt ht
  replace hu := Tm.at_lt hu
  replace hr := Tm.at_lt hr
  refine (toTerm_any t _ _ _ _ ht hbt).mono ?_
  rintro e w4 ⟨_, Ft1, rfl, ot1, lt1, hb⟩
  have z5 : Hid (w3.heap.size ≤ w4.heap.size) := hb.size
  replace hW := hW.trans (hb.mono hW.size)
  replace bt := bt.keep hb
  replace bu := bu.keep hb
  replace ht := Tm.at_keep (Keeps.all hb) ht
  replace hu := Tm.at_keep (Keeps.all hb) hu
  replace Br0 := Br0.keep hb
  replace hr := Tm.at_keep (Keeps.all hb) hr
  clear ebt0 ebt1 lbt ebu0 ebu1 lbu eBr00 eBr01 lBr0 hb
  obtain ⟨ta1, tc1, rfl⟩ := Tm.sd_own_form ot1
  have ut1 := D.own_lt _ _ _ ot1
  have hb : Below w4.heap.size w4 (w4.alloc (.cells #[.string t.name, .slice ta1 t.args.length tc1] 28)) := (Below.refl _ _).alloc (Nat.le_refl _) _
  have Bt1 : Box (w4.alloc (.cells #[.string t.name, .slice ta1 t.args.length tc1] 28)) w4.heap.size [.string t.name, .slice ta1 t.args.length tc1] := Box.new _ _ _
  have z6 : Hid (w4.heap.size + 1 ≤ (w4.alloc (.cells #[.string t.name, .slice ta1 t.args.length tc1] 28)).heap.size) := by simp [Hid]
  replace hW := hW.trans (hb.mono hW.size)
  replace bt := bt.keep hb
  replace bu := bu.keep hb
  replace ht := Tm.at_keep (Keeps.all hb) ht
  replace hu := Tm.at_keep (Keeps.all hb) hu
  replace Br0 := Br0.keep hb
  replace hr := Tm.at_keep (Keeps.all hb) hr
  replace ot1 := D.own_keep _ _ _ (Keeps.all hb) ot1
  clear hb
  have ebt0 := bt.c0
  have ebt1 := bt.c1
  have lbt := bt.lt
  have ebu0 := bu.c0
  have ebu1 := bu.c1
  have lbu := bu.lt
  have eBr00 := Br0.c0
  have eBr01 := Br0.c1
  have lBr0 := Br0.lt
  have eBt10 := Bt1.c0
  have eBt11 := Bt1.c1
  have lBt1 := Bt1.lt
  go_wp2_with fail
  generalize (w4.alloc (.cells #[.string t.name, .slice ta1 t.args.length tc1] 28)) = w4b at *
  refine (toTerm_any u _ _ _ _ hu hbu).mono ?_
  rintro e w5 ⟨_, Fu1, rfl, ou1, lu1, hb⟩
  have z7 : Hid (w4b.heap.size ≤ w5.heap.size) := hb.size
  replace hW := hW.trans (hb.mono hW.size)
  replace bt := bt.keep hb
  replace bu := bu.keep hb
  replace ht := Tm.at_keep (Keeps.all hb) ht
  replace hu := Tm.at_keep (Keeps.all hb) hu
  replace Br0 := Br0.keep hb
  replace hr := Tm.at_keep (Keeps.all hb) hr
  replace ot1 := D.own_keep _ _ _ (Keeps.all hb) ot1
  replace Bt1 := Bt1.keep hb
  clear ebt0 ebt1 lbt ebu0 ebu1 lbu eBr00 eBr01 lBr0 eBt10 eBt11 lBt1 hb
  obtain ⟨ua1, uc1, rfl⟩ := Tm.sd_own_form ou1
  have uu1 := D.own_lt _ _ _ ou1
  have hb : Below w5.heap.size w5 (w5.alloc (.cells #[.string u.name, .slice ua1 u.args.length uc1] 28)) := (Below.refl _ _).alloc (Nat.le_refl _) _
  have Bu1 : Box (w5.alloc (.cells #[.string u.name, .slice ua1 u.args.length uc1] 28)) w5.heap.size [.string u.name, .slice ua1 u.args.length uc1] := Box.new _ _ _
  have z8 : Hid (w5.heap.size + 1 ≤ (w5.alloc (.cells #[.string u.name, .slice ua1 u.args.length uc1] 28)).heap.size) := by simp [Hid]
  replace hW := hW.trans (hb.mono hW.size)
  replace bt := bt.keep hb
  replace bu := bu.keep hb
  replace ht := Tm.at_keep (Keeps.all hb) ht
  replace hu := Tm.at_keep (Keeps.all hb) hu
  replace Br0 := Br0.keep hb
  replace hr := Tm.at_keep (Keeps.all hb) hr
  replace ot1 := D.own_keep _ _ _ (Keeps.all hb) ot1
  replace Bt1 := Bt1.keep hb
  replace ou1 := D.own_keep _ _ _ (Keeps.all hb) ou1
  clear hb
  have ebt0 := bt.c0
  have ebt1 := bt.c1
  have lbt := bt.lt
  have ebu0 := bu.c0
  have ebu1 := bu.c1
  have lbu := bu.lt
  have eBr00 := Br0.c0
  have eBr01 := Br0.c1
  have lBr0 := Br0.lt
  have eBt10 := Bt1.c0
  have eBt11 := Bt1.c1
  have lBt1 := Bt1.lt
  have eBu10 := Bu1.c0
  have eBu11 := Bu1.c1
  have lBu1 := Bu1.lt
  go_wp2_with fail
  generalize (w5.alloc (.cells #[.string u.name, .slice ua1 u.args.length uc1] 28)) = w5b at *
  have hq := impl_Generalize (Tm.at_of hnt ot1) hbt (Tm.at_of hnu ou1) hbu (TabF.keep hF hW)
  rw [Hr.out, Hok.out] at hq
  refine hq.mono ?_
  clear hq
  rintro e w6 ⟨_, Fr1, rfl, or1, lr1, hb⟩
  have z9 : Hid (w5b.heap.size ≤ w6.heap.size) := hb.size
  replace hW := hW.trans (hb.mono hW.size)
  replace bt := bt.keep hb
  replace bu := bu.keep hb
  replace ht := Tm.at_keep (Keeps.all hb) ht
  replace hu := Tm.at_keep (Keeps.all hb) hu
  replace Br0 := Br0.keep hb
  replace hr := Tm.at_keep (Keeps.all hb) hr
  replace ot1 := D.own_keep _ _ _ (Keeps.all hb) ot1
  replace Bt1 := Bt1.keep hb
  replace ou1 := D.own_keep _ _ _ (Keeps.all hb) ou1
  replace Bu1 := Bu1.keep hb
  clear ebt0 ebt1 lbt ebu0 ebu1 lbu eBr00 eBr01 lBr0 eBt10 eBt11 lBt1 eBu10 eBu11 lBu1 hb
  obtain ⟨ra1, rc1, rfl⟩ := Tm.sd_own_form or1
  have ur1 := D.own_lt _ _ _ or1
  have hb : Below w6.heap.size w6 (w6.alloc (.cells #[.string r.name, .slice ra1 r.args.length rc1] 28)) := (Below.refl _ _).alloc (Nat.le_refl _) _
  have Br1 : Box (w6.alloc (.cells #[.string r.name, .slice ra1 r.args.length rc1] 28)) w6.heap.size [.string r.name, .slice ra1 r.args.length rc1] := Box.new _ _ _
  have z10 : Hid (w6.heap.size + 1 ≤ (w6.alloc (.cells #[.string r.name, .slice ra1 r.args.length rc1] 28)).heap.size) := by simp [Hid]
  replace hW := hW.trans (hb.mono hW.size)
  replace bt := bt.keep hb
  replace bu := bu.keep hb
  replace ht := Tm.at_keep (Keeps.all hb) ht
  replace hu := Tm.at_keep (Keeps.all hb) hu
  replace Br0 := Br0.keep hb
  replace hr := Tm.at_keep (Keeps.all hb) hr
  replace ot1 := D.own_keep _ _ _ (Keeps.all hb) ot1
  replace Bt1 := Bt1.keep hb
  replace ou1 := D.own_keep _ _ _ (Keeps.all hb) ou1
  replace Bu1 := Bu1.keep hb
  replace or1 := D.own_keep _ _ _ (Keeps.all hb) or1
  clear hb
  have ebt0 := bt.c0
  have ebt1 := bt.c1
  have lbt := bt.lt
  have ebu0 := bu.c0
  have ebu1 := bu.c1
  have lbu := bu.lt
  have eBr00 := Br0.c0
  have eBr01 := Br0.c1
  have lBr0 := Br0.lt
  have eBt10 := Bt1.c0
  have eBt11 := Bt1.c1
  have lBt1 := Bt1.lt
  have eBu10 := Bu1.c0
  have eBu11 := Bu1.c1
  have lBu1 := Bu1.lt
  have eBr10 := Br1.c0
  have eBr11 := Br1.c1
  have lBr1 := Br1.lt
  go_wp2_with fail
  generalize (w6.alloc (.cells #[.string r.name, .slice ra1 r.args.length rc1] 28)) = w6b at *
  refine (eqTerm_refl (Tm.at_of hnr or1) (Tm.at_all hr)).mono ?_
  rintro e w7 ⟨_, rfl, hb, rfl⟩
  have z11 : Hid (w6b.heap.size ≤ w7.heap.size) := hb.size
  replace hW := hW.trans (hb.mono hW.size)
  replace bt := bt.keep hb
  replace bu := bu.keep hb
  replace ht := Tm.at_keep (Keeps.all hb) ht
  replace hu := Tm.at_keep (Keeps.all hb) hu
  replace Br0 := Br0.keep hb
  replace hr := Tm.at_keep (Keeps.all hb) hr
  replace ot1 := D.own_keep _ _ _ (Keeps.all hb) ot1
  replace Bt1 := Bt1.keep hb
  replace ou1 := D.own_keep _ _ _ (Keeps.all hb) ou1
  replace Bu1 := Bu1.keep hb
  replace or1 := D.own_keep _ _ _ (Keeps.all hb) or1
  replace Br1 := Br1.keep hb
  clear ebt0 ebt1 lbt ebu0 ebu1 lbu eBr00 eBr01 lBr0 eBt10 eBt11 lBt1 eBu10 eBu11 lBu1 eBr10 eBr11 lBr1 hb
  have ebt0 := bt.c0
  have ebt1 := bt.c1
  have lbt := bt.lt
  have ebu0 := bu.c0
  have ebu1 := bu.c1
  have lbu := bu.lt
  have eBr00 := Br0.c0
  have eBr01 := Br0.c1
  have lBr0 := Br0.lt
  have eBt10 := Bt1.c0
  have eBt11 := Bt1.c1
  have lBt1 := Bt1.lt
  have eBu10 := Bu1.c0
  have eBu11 := Bu1.c1
  have lBu1 := Bu1.lt
  have eBr10 := Br1.c0
  have eBr11 := Br1.c1
  have lBr1 := Br1.lt
  go_wp2_with fail
  refine wp_region_B [fun v _ => v = .agg #[.string t.name, .slice ta1 t.args.length tc1], fun v _ => v = .agg #[.string t.name, .slice ta0 t.args.length tc0], Is t, fun v _ => v = .bool true, fun v _ => v = .bool false] _ (fun V => by simp [putAll, Act.put]; rfl) (by kernel_rfl) (by decide) (by simp) (by kernel_rfl) ?_ ?_ ?_
  · intro F hF
    simp only [List.mem_cons, List.not_mem_nil, or_false] at hF
    rcases hF with rfl | rfl | rfl | rfl | rfl
    · exact stable_eq
    · exact stable_eq
    · exact Is.stable
    · exact stable_eq
    · exact stable_eq
  · refine ⟨?_, ?_, ?_, ?_, ?_, trivial⟩
    · intro V w1 hbR _
      obtain ⟨hc, hf⟩ := bcell hbR
      try simp only [World.size_alloc, World.size_setCell] at hc hf
      unfold Does
      go_simp
      exact ⟨Below.refl _ _, rfl⟩
    · intro V w1 hbR _
      obtain ⟨hc, hf⟩ := bcell hbR
      try simp only [World.size_alloc, World.size_setCell] at hc hf
      unfold Does
      go_simp
      exact ⟨Below.refl _ _, rfl⟩
    · intro V w1 hbR ⟨f1, _⟩
      replace f1 : V 1 = .agg #[.string t.name, .slice ta0 t.args.length tc0] := f1
      obtain ⟨hc, hf⟩ := bcell hbR
      try simp only [World.size_alloc, World.size_setCell] at hc hf
      unfold Does
      go_simp
      exact toTerm_is (Tm.at_all (Tm.at_keep (Keeps.all hbR) ht)) hbt
    · intro V w1 hbR ⟨f0, f2, _, _⟩
      replace f0 : V 0 = .agg #[.string t.name, .slice ta1 t.args.length tc1] := f0
      replace f2 : (Is t) (V 2) w1 := f2
      obtain ⟨_, _, E2, g2⟩ := Is.form f2
      obtain ⟨hc, hf⟩ := bcell hbR
      try simp only [World.size_alloc, World.size_setCell] at hc hf
      unfold Does
      go_simp
      exact eqTerm_refl (Tm.at_of hnt (D.own_keep _ _ _ (Keeps.all hbR) ot1)) g2
    · intro V w1 hbR ⟨f3, _⟩
      replace f3 : V 3 = .bool true := f3
      unfold Does
      go_simp
      exact ⟨Below.refl _ _, rfl⟩
  intro V w8 hbR hfR
  obtain ⟨f0, f1, f2, f3, f4, _⟩ := hfR
  replace f0 : V 0 = .agg #[.string t.name, .slice ta1 t.args.length tc1] := f0
  replace f1 : V 1 = .agg #[.string t.name, .slice ta0 t.args.length tc0] := f1
  replace f2 : (Is t) (V 2) w8 := f2
  replace f3 : V 3 = .bool true := f3
  replace f4 : V 4 = .bool false := f4
  simp only [f0, f1, f3, f4]
  clear f0 f1 f3 f4
  have hb := hbR
  have z12 : Hid (w7.heap.size ≤ w8.heap.size) := hb.size
  replace hW := hW.trans (hb.mono hW.size)
  replace bt := bt.keep hb
  replace bu := bu.keep hb
  replace ht := Tm.at_keep (Keeps.all hb) ht
  replace hu := Tm.at_keep (Keeps.all hb) hu
  replace Br0 := Br0.keep hb
  replace hr := Tm.at_keep (Keeps.all hb) hr
  replace ot1 := D.own_keep _ _ _ (Keeps.all hb) ot1
  replace Bt1 := Bt1.keep hb
  replace ou1 := D.own_keep _ _ _ (Keeps.all hb) ou1
  replace Bu1 := Bu1.keep hb
  replace or1 := D.own_keep _ _ _ (Keeps.all hb) or1
  replace Br1 := Br1.keep hb
  clear ebt0 ebt1 lbt ebu0 ebu1 lbu eBr00 eBr01 lBr0 eBt10 eBt11 lBt1 eBu10 eBu11 lBu1 eBr10 eBr11 lBr1 hb hbR f2
  have ebt0 := bt.c0
  have ebt1 := bt.c1
  have lbt := bt.lt
  have ebu0 := bu.c0
  have ebu1 := bu.c1
  have lbu := bu.lt
  have eBr00 := Br0.c0
  have eBr01 := Br0.c1
  have lBr0 := Br0.lt
  have eBt10 := Bt1.c0
  have eBt11 := Bt1.c1
  have lBt1 := Bt1.lt
  have eBu10 := Bu1.c0
  have eBu11 := Bu1.c1
  have lBu1 := Bu1.lt
  have eBr10 := Br1.c0
  have eBr11 := Br1.c1
  have lBr1 := Br1.lt
  go_wp2_with fail
  refine wp_region_B [fun v _ => v = .agg #[.string u.name, .slice ua1 u.args.length uc1], fun v _ => v = .agg #[.string u.name, .slice ua0 u.args.length uc0], Is u, fun v _ => v = .bool true, fun v _ => v = .bool false] _ (fun V => by simp [putAll, Act.put]; rfl) (by kernel_rfl) (by decide) (by simp) (by kernel_rfl) ?_ ?_ ?_
  · intro F hF
    simp only [List.mem_cons, List.not_mem_nil, or_false] at hF
    rcases hF with rfl | rfl | rfl | rfl | rfl
    · exact stable_eq
    · exact stable_eq
    · exact Is.stable
    · exact stable_eq
    · exact stable_eq
  · refine ⟨?_, ?_, ?_, ?_, ?_, trivial⟩
    · intro V w1 hbR _
      obtain ⟨hc, hf⟩ := bcell hbR
      try simp only [World.size_alloc, World.size_setCell] at hc hf
      unfold Does
      go_simp
      exact ⟨Below.refl _ _, rfl⟩
    · intro V w1 hbR _
      obtain ⟨hc, hf⟩ := bcell hbR
      try simp only [World.size_alloc, World.size_setCell] at hc hf
      unfold Does
      go_simp
      exact ⟨Below.refl _ _, rfl⟩
    · intro V w1 hbR ⟨f1, _⟩
      replace f1 : V 1 = .agg #[.string u.name, .slice ua0 u.args.length uc0] := f1
      obtain ⟨hc, hf⟩ := bcell hbR
      try simp only [World.size_alloc, World.size_setCell] at hc hf
      unfold Does
      go_simp
      exact toTerm_is (Tm.at_all (Tm.at_keep (Keeps.all hbR) hu)) hbu
    · intro V w1 hbR ⟨f0, f2, _, _⟩
      replace f0 : V 0 = .agg #[.string u.name, .slice ua1 u.args.length uc1] := f0
      replace f2 : (Is u) (V 2) w1 := f2
      obtain ⟨_, _, E2, g2⟩ := Is.form f2
      obtain ⟨hc, hf⟩ := bcell hbR
      try simp only [World.size_alloc, World.size_setCell] at hc hf
      unfold Does
      go_simp
      exact eqTerm_refl (Tm.at_of hnu (D.own_keep _ _ _ (Keeps.all hbR) ou1)) g2
    · intro V w1 hbR ⟨f3, _⟩
      replace f3 : V 3 = .bool true := f3
      unfold Does
      go_simp
      exact ⟨Below.refl _ _, rfl⟩
  intro V w9 hbR hfR
  obtain ⟨f0, f1, f2, f3, f4, _⟩ := hfR
  replace f0 : V 0 = .agg #[.string u.name, .slice ua1 u.args.length uc1] := f0
  replace f1 : V 1 = .agg #[.string u.name, .slice ua0 u.args.length uc0] := f1
  replace f2 : (Is u) (V 2) w9 := f2
  replace f3 : V 3 = .bool true := f3
  replace f4 : V 4 = .bool false := f4
  simp only [f0, f1, f3, f4]
  clear f0 f1 f3 f4
  have hb := hbR
  have z13 : Hid (w8.heap.size ≤ w9.heap.size) := hb.size
  replace hW := hW.trans (hb.mono hW.size)
  replace bt := bt.keep hb
  replace bu := bu.keep hb
  replace ht := Tm.at_keep (Keeps.all hb) ht
  replace hu := Tm.at_keep (Keeps.all hb) hu
  replace Br0 := Br0.keep hb
  replace hr := Tm.at_keep (Keeps.all hb) hr
  replace ot1 := D.own_keep _ _ _ (Keeps.all hb) ot1
  replace Bt1 := Bt1.keep hb
  replace ou1 := D.own_keep _ _ _ (Keeps.all hb) ou1
  replace Bu1 := Bu1.keep hb
  replace or1 := D.own_keep _ _ _ (Keeps.all hb) or1
  replace Br1 := Br1.keep hb
  clear ebt0 ebt1 lbt ebu0 ebu1 lbu eBr00 eBr01 lBr0 eBt10 eBt11 lBt1 eBu10 eBu11 lBu1 eBr10 eBr11 lBr1 hb hbR f2
  have ebt0 := bt.c0
  have ebt1 := bt.c1
  have lbt := bt.lt
  have ebu0 := bu.c0
  have ebu1 := bu.c1
  have lbu := bu.lt
  have eBr00 := Br0.c0
  have eBr01 := Br0.c1
  have lBr0 := Br0.lt
  have eBt10 := Bt1.c0
  have eBt11 := Bt1.c1
  have lBt1 := Bt1.lt
  have eBu10 := Bu1.c0
  have eBu11 := Bu1.c1
  have lBu1 := Bu1.lt
  have eBr10 := Br1.c0
  have eBr11 := Br1.c1
  have lBr1 := Br1.lt
  go_wp2_with fail
  obtain ⟨k0, Hk0⟩ : ∃ n : Nat, Hid (1 + Tm.sizes t.args = n) := ⟨_, hid rfl⟩
  have hq := markTerm_any t.args 1 (n := t.name) (by have := Tm.sizes_le_bulk t; have := Tm.sizes_le_bulk u; have := Hk0.out; omega) ot1
  rw [Hk0.out] at hq
  rw [show ((1 : Nat) : Int) = 1 from rfl] at hq
  have nk0 : ¬ ((k0 : Nat) : Int) < 0 := by omega
  refine hq.mono ?_
  clear hq
  rintro e w10 ⟨rfl, hm, oM⟩
  clear ot1
  have z14 : Hid (w9.heap.size ≤ w10.heap.size) := hm.size
  replace hW := hW.trans (hm.2 _ hW.size (fun y hy => by have q1 := lt1 y hy; have := z0.out; have := z1.out; have := z2.out; have := z3.out; have := z4.out; have := z5.out; have := z6.out; have := z7.out; have := z8.out; have := z9.out; have := z10.out; have := z11.out; have := z12.out; have := z13.out; have := z14.out; omega))
  replace bt := bt.marked hm (fun q => by have q1 := lt1 _ q; have q2 := ut1 _ q; have := z0.out; have := z1.out; have := z2.out; have := z3.out; have := z4.out; have := z5.out; have := z6.out; have := z7.out; have := z8.out; have := z9.out; have := z10.out; have := z11.out; have := z12.out; have := z13.out; have := z14.out; omega)
  replace bu := bu.marked hm (fun q => by have q1 := lt1 _ q; have q2 := ut1 _ q; have := z0.out; have := z1.out; have := z2.out; have := z3.out; have := z4.out; have := z5.out; have := z6.out; have := z7.out; have := z8.out; have := z9.out; have := z10.out; have := z11.out; have := z12.out; have := z13.out; have := z14.out; omega)
  replace ht := Tm.at_keep (hm.lt (fun y q => by have q1 := lt1 y q; have := z0.out; have := z1.out; have := z2.out; have := z3.out; have := z4.out; have := z5.out; have := z6.out; have := z7.out; have := z8.out; have := z9.out; have := z10.out; have := z11.out; have := z12.out; have := z13.out; have := z14.out; omega)) ht
  replace hu := Tm.at_keep (hm.lt (fun y q => by have q1 := lt1 y q; have := z0.out; have := z1.out; have := z2.out; have := z3.out; have := z4.out; have := z5.out; have := z6.out; have := z7.out; have := z8.out; have := z9.out; have := z10.out; have := z11.out; have := z12.out; have := z13.out; have := z14.out; omega)) hu
  replace Br0 := Br0.marked hm (fun q => by have q1 := lt1 _ q; have q2 := ut1 _ q; have := z0.out; have := z1.out; have := z2.out; have := z3.out; have := z4.out; have := z5.out; have := z6.out; have := z7.out; have := z8.out; have := z9.out; have := z10.out; have := z11.out; have := z12.out; have := z13.out; have := z14.out; omega)
  replace hr := Tm.at_keep (hm.lt (fun y q => by have q1 := lt1 y q; have := z0.out; have := z1.out; have := z2.out; have := z3.out; have := z4.out; have := z5.out; have := z6.out; have := z7.out; have := z8.out; have := z9.out; have := z10.out; have := z11.out; have := z12.out; have := z13.out; have := z14.out; omega)) hr
  replace Bt1 := Bt1.marked hm (fun q => by have q1 := lt1 _ q; have q2 := ut1 _ q; have := z0.out; have := z1.out; have := z2.out; have := z3.out; have := z4.out; have := z5.out; have := z6.out; have := z7.out; have := z8.out; have := z9.out; have := z10.out; have := z11.out; have := z12.out; have := z13.out; have := z14.out; omega)
  replace ou1 := D.own_keep _ _ _ (hm.apart (fun y hy q => by have q1 := lt1 y q; have q2 := ut1 y q; have q3 := lu1 y hy; have q4 := uu1 y hy; have := z0.out; have := z1.out; have := z2.out; have := z3.out; have := z4.out; have := z5.out; have := z6.out; have := z7.out; have := z8.out; have := z9.out; have := z10.out; have := z11.out; have := z12.out; have := z13.out; have := z14.out; omega)) ou1
  replace Bu1 := Bu1.marked hm (fun q => by have q1 := lt1 _ q; have q2 := ut1 _ q; have := z0.out; have := z1.out; have := z2.out; have := z3.out; have := z4.out; have := z5.out; have := z6.out; have := z7.out; have := z8.out; have := z9.out; have := z10.out; have := z11.out; have := z12.out; have := z13.out; have := z14.out; omega)
  replace or1 := D.own_keep _ _ _ (hm.apart (fun y hy q => by have q1 := lt1 y q; have q2 := ut1 y q; have q3 := lr1 y hy; have q4 := ur1 y hy; have := z0.out; have := z1.out; have := z2.out; have := z3.out; have := z4.out; have := z5.out; have := z6.out; have := z7.out; have := z8.out; have := z9.out; have := z10.out; have := z11.out; have := z12.out; have := z13.out; have := z14.out; omega)) or1
  replace Br1 := Br1.marked hm (fun q => by have q1 := lt1 _ q; have q2 := ut1 _ q; have := z0.out; have := z1.out; have := z2.out; have := z3.out; have := z4.out; have := z5.out; have := z6.out; have := z7.out; have := z8.out; have := z9.out; have := z10.out; have := z11.out; have := z12.out; have := z13.out; have := z14.out; omega)
  clear ebt0 ebt1 lbt ebu0 ebu1 lbu eBr00 eBr01 lBr0 eBt10 eBt11 lBt1 eBu10 eBu11 lBu1 eBr10 eBr11 lBr1 hm
  clear oM lt1 ut1
  have ebt0 := bt.c0
  have ebt1 := bt.c1
  have lbt := bt.lt
  have ebu0 := bu.c0
  have ebu1 := bu.c1
  have lbu := bu.lt
  have eBr00 := Br0.c0
  have eBr01 := Br0.c1
  have lBr0 := Br0.lt
  have eBt10 := Bt1.c0
  have eBt11 := Bt1.c1
  have lBt1 := Bt1.lt
  have eBu10 := Bu1.c0
  have eBu11 := Bu1.c1
  have lBu1 := Bu1.lt
  have eBr10 := Br1.c0
  have eBr11 := Br1.c1
  have lBr1 := Br1.lt
  go_wp2_with fail
  obtain ⟨k1, Hk1⟩ : ∃ n : Nat, Hid (k0 + Tm.sizes u.args = n) := ⟨_, hid rfl⟩
  have hq := markTerm_any u.args k0 (n := u.name) (by have := Tm.sizes_le_bulk t; have := Tm.sizes_le_bulk u; have := Hk0.out; have := Hk1.out; omega) ou1
  rw [Hk1.out] at hq
  have nk1 : ¬ ((k1 : Nat) : Int) < 0 := by omega
  refine hq.mono ?_
  clear hq
  rintro e w11 ⟨rfl, hm, oM⟩
  clear ou1
  have z15 : Hid (w10.heap.size ≤ w11.heap.size) := hm.size
  replace hW := hW.trans (hm.2 _ hW.size (fun y hy => by have q1 := lu1 y hy; have := z0.out; have := z1.out; have := z2.out; have := z3.out; have := z4.out; have := z5.out; have := z6.out; have := z7.out; have := z8.out; have := z9.out; have := z10.out; have := z11.out; have := z12.out; have := z13.out; have := z14.out; have := z15.out; omega))
  replace bt := bt.marked hm (fun q => by have q1 := lu1 _ q; have q2 := uu1 _ q; have := z0.out; have := z1.out; have := z2.out; have := z3.out; have := z4.out; have := z5.out; have := z6.out; have := z7.out; have := z8.out; have := z9.out; have := z10.out; have := z11.out; have := z12.out; have := z13.out; have := z14.out; have := z15.out; omega)
  replace bu := bu.marked hm (fun q => by have q1 := lu1 _ q; have q2 := uu1 _ q; have := z0.out; have := z1.out; have := z2.out; have := z3.out; have := z4.out; have := z5.out; have := z6.out; have := z7.out; have := z8.out; have := z9.out; have := z10.out; have := z11.out; have := z12.out; have := z13.out; have := z14.out; have := z15.out; omega)
  replace ht := Tm.at_keep (hm.lt (fun y q => by have q1 := lu1 y q; have := z0.out; have := z1.out; have := z2.out; have := z3.out; have := z4.out; have := z5.out; have := z6.out; have := z7.out; have := z8.out; have := z9.out; have := z10.out; have := z11.out; have := z12.out; have := z13.out; have := z14.out; have := z15.out; omega)) ht
  replace hu := Tm.at_keep (hm.lt (fun y q => by have q1 := lu1 y q; have := z0.out; have := z1.out; have := z2.out; have := z3.out; have := z4.out; have := z5.out; have := z6.out; have := z7.out; have := z8.out; have := z9.out; have := z10.out; have := z11.out; have := z12.out; have := z13.out; have := z14.out; have := z15.out; omega)) hu
  replace Br0 := Br0.marked hm (fun q => by have q1 := lu1 _ q; have q2 := uu1 _ q; have := z0.out; have := z1.out; have := z2.out; have := z3.out; have := z4.out; have := z5.out; have := z6.out; have := z7.out; have := z8.out; have := z9.out; have := z10.out; have := z11.out; have := z12.out; have := z13.out; have := z14.out; have := z15.out; omega)
  replace hr := Tm.at_keep (hm.lt (fun y q => by have q1 := lu1 y q; have := z0.out; have := z1.out; have := z2.out; have := z3.out; have := z4.out; have := z5.out; have := z6.out; have := z7.out; have := z8.out; have := z9.out; have := z10.out; have := z11.out; have := z12.out; have := z13.out; have := z14.out; have := z15.out; omega)) hr
  replace Bt1 := Bt1.marked hm (fun q => by have q1 := lu1 _ q; have q2 := uu1 _ q; have := z0.out; have := z1.out; have := z2.out; have := z3.out; have := z4.out; have := z5.out; have := z6.out; have := z7.out; have := z8.out; have := z9.out; have := z10.out; have := z11.out; have := z12.out; have := z13.out; have := z14.out; have := z15.out; omega)
  replace Bu1 := Bu1.marked hm (fun q => by have q1 := lu1 _ q; have q2 := uu1 _ q; have := z0.out; have := z1.out; have := z2.out; have := z3.out; have := z4.out; have := z5.out; have := z6.out; have := z7.out; have := z8.out; have := z9.out; have := z10.out; have := z11.out; have := z12.out; have := z13.out; have := z14.out; have := z15.out; omega)
  replace or1 := D.own_keep _ _ _ (hm.apart (fun y hy q => by have q1 := lu1 y q; have q2 := uu1 y q; have q3 := lr1 y hy; have q4 := ur1 y hy; have := z0.out; have := z1.out; have := z2.out; have := z3.out; have := z4.out; have := z5.out; have := z6.out; have := z7.out; have := z8.out; have := z9.out; have := z10.out; have := z11.out; have := z12.out; have := z13.out; have := z14.out; have := z15.out; omega)) or1
  replace Br1 := Br1.marked hm (fun q => by have q1 := lu1 _ q; have q2 := uu1 _ q; have := z0.out; have := z1.out; have := z2.out; have := z3.out; have := z4.out; have := z5.out; have := z6.out; have := z7.out; have := z8.out; have := z9.out; have := z10.out; have := z11.out; have := z12.out; have := z13.out; have := z14.out; have := z15.out; omega)
  clear ebt0 ebt1 lbt ebu0 ebu1 lbu eBr00 eBr01 lBr0 eBt10 eBt11 lBt1 eBu10 eBu11 lBu1 eBr10 eBr11 lBr1 hm
  clear oM lu1 uu1
  have ebt0 := bt.c0
  have ebt1 := bt.c1
  have lbt := bt.lt
  have ebu0 := bu.c0
  have ebu1 := bu.c1
  have lbu := bu.lt
  have eBr00 := Br0.c0
  have eBr01 := Br0.c1
  have lBr0 := Br0.lt
  have eBt10 := Bt1.c0
  have eBt11 := Bt1.c1
  have lBt1 := Bt1.lt
  have eBu10 := Bu1.c0
  have eBu11 := Bu1.c1
  have lBu1 := Bu1.lt
  have eBr10 := Br1.c0
  have eBr11 := Br1.c1
  have lBr1 := Br1.lt
  go_wp2_with fail
  refine (eqTerm_refl (Tm.at_of hnr or1) (Tm.at_all hr)).mono ?_
  rintro e w12 ⟨_, rfl, hb, rfl⟩
  have z16 : Hid (w11.heap.size ≤ w12.heap.size) := hb.size
  replace hW := hW.trans (hb.mono hW.size)
  replace bt := bt.keep hb
  replace bu := bu.keep hb
  replace ht := Tm.at_keep (Keeps.all hb) ht
  replace hu := Tm.at_keep (Keeps.all hb) hu
  replace Br0 := Br0.keep hb
  replace hr := Tm.at_keep (Keeps.all hb) hr
  replace Bt1 := Bt1.keep hb
  replace Bu1 := Bu1.keep hb
  replace or1 := D.own_keep _ _ _ (Keeps.all hb) or1
  replace Br1 := Br1.keep hb
  clear ebt0 ebt1 lbt ebu0 ebu1 lbu eBr00 eBr01 lBr0 eBt10 eBt11 lBt1 eBu10 eBu11 lBu1 eBr10 eBr11 lBr1 hb
  have ebt0 := bt.c0
  have ebt1 := bt.c1
  have lbt := bt.lt
  have ebu0 := bu.c0
  have ebu1 := bu.c1
  have lbu := bu.lt
  have eBr00 := Br0.c0
  have eBr01 := Br0.c1
  have lBr0 := Br0.lt
  have eBt10 := Bt1.c0
  have eBt11 := Bt1.c1
  have lBt1 := Bt1.lt
  have eBu10 := Bu1.c0
  have eBu11 := Bu1.c1
  have lBu1 := Bu1.lt
  have eBr10 := Br1.c0
  have eBr11 := Br1.c1
  have lBr1 := Br1.lt
  go_wp2_with fail
  have hq := markTerm_any r.args 1 (n := r.name) hcr or1
  rw [Hrm.out] at hq
  rw [show ((1 : Nat) : Int) = 1 from rfl] at hq
  refine hq.mono ?_
  clear hq
  rintro e w13 ⟨rfl, hm, oM⟩
  clear or1
  have z17 : Hid (w12.heap.size ≤ w13.heap.size) := hm.size
  replace hW := hW.trans (hm.2 _ hW.size (fun y hy => by have q1 := lr1 y hy; have := z0.out; have := z1.out; have := z2.out; have := z3.out; have := z4.out; have := z5.out; have := z6.out; have := z7.out; have := z8.out; have := z9.out; have := z10.out; have := z11.out; have := z12.out; have := z13.out; have := z14.out; have := z15.out; have := z16.out; have := z17.out; omega))
  replace bt := bt.marked hm (fun q => by have q1 := lr1 _ q; have q2 := ur1 _ q; have := z0.out; have := z1.out; have := z2.out; have := z3.out; have := z4.out; have := z5.out; have := z6.out; have := z7.out; have := z8.out; have := z9.out; have := z10.out; have := z11.out; have := z12.out; have := z13.out; have := z14.out; have := z15.out; have := z16.out; have := z17.out; omega)
  replace bu := bu.marked hm (fun q => by have q1 := lr1 _ q; have q2 := ur1 _ q; have := z0.out; have := z1.out; have := z2.out; have := z3.out; have := z4.out; have := z5.out; have := z6.out; have := z7.out; have := z8.out; have := z9.out; have := z10.out; have := z11.out; have := z12.out; have := z13.out; have := z14.out; have := z15.out; have := z16.out; have := z17.out; omega)
  replace ht := Tm.at_keep (hm.lt (fun y q => by have q1 := lr1 y q; have := z0.out; have := z1.out; have := z2.out; have := z3.out; have := z4.out; have := z5.out; have := z6.out; have := z7.out; have := z8.out; have := z9.out; have := z10.out; have := z11.out; have := z12.out; have := z13.out; have := z14.out; have := z15.out; have := z16.out; have := z17.out; omega)) ht
  replace hu := Tm.at_keep (hm.lt (fun y q => by have q1 := lr1 y q; have := z0.out; have := z1.out; have := z2.out; have := z3.out; have := z4.out; have := z5.out; have := z6.out; have := z7.out; have := z8.out; have := z9.out; have := z10.out; have := z11.out; have := z12.out; have := z13.out; have := z14.out; have := z15.out; have := z16.out; have := z17.out; omega)) hu
  replace Br0 := Br0.marked hm (fun q => by have q1 := lr1 _ q; have q2 := ur1 _ q; have := z0.out; have := z1.out; have := z2.out; have := z3.out; have := z4.out; have := z5.out; have := z6.out; have := z7.out; have := z8.out; have := z9.out; have := z10.out; have := z11.out; have := z12.out; have := z13.out; have := z14.out; have := z15.out; have := z16.out; have := z17.out; omega)
  replace hr := Tm.at_keep (hm.lt (fun y q => by have q1 := lr1 y q; have := z0.out; have := z1.out; have := z2.out; have := z3.out; have := z4.out; have := z5.out; have := z6.out; have := z7.out; have := z8.out; have := z9.out; have := z10.out; have := z11.out; have := z12.out; have := z13.out; have := z14.out; have := z15.out; have := z16.out; have := z17.out; omega)) hr
  replace Bt1 := Bt1.marked hm (fun q => by have q1 := lr1 _ q; have q2 := ur1 _ q; have := z0.out; have := z1.out; have := z2.out; have := z3.out; have := z4.out; have := z5.out; have := z6.out; have := z7.out; have := z8.out; have := z9.out; have := z10.out; have := z11.out; have := z12.out; have := z13.out; have := z14.out; have := z15.out; have := z16.out; have := z17.out; omega)
  replace Bu1 := Bu1.marked hm (fun q => by have q1 := lr1 _ q; have q2 := ur1 _ q; have := z0.out; have := z1.out; have := z2.out; have := z3.out; have := z4.out; have := z5.out; have := z6.out; have := z7.out; have := z8.out; have := z9.out; have := z10.out; have := z11.out; have := z12.out; have := z13.out; have := z14.out; have := z15.out; have := z16.out; have := z17.out; omega)
  replace Br1 := Br1.marked hm (fun q => by have q1 := lr1 _ q; have q2 := ur1 _ q; have := z0.out; have := z1.out; have := z2.out; have := z3.out; have := z4.out; have := z5.out; have := z6.out; have := z7.out; have := z8.out; have := z9.out; have := z10.out; have := z11.out; have := z12.out; have := z13.out; have := z14.out; have := z15.out; have := z16.out; have := z17.out; omega)
  clear ebt0 ebt1 lbt ebu0 ebu1 lbu eBr00 eBr01 lBr0 eBt10 eBt11 lBt1 eBu10 eBu11 lBu1 eBr10 eBr11 lBr1 hm
  have oM0 := oM
  clear oM
  have ebt0 := bt.c0
  have ebt1 := bt.c1
  have lbt := bt.lt
  have ebu0 := bu.c0
  have ebu1 := bu.c1
  have lbu := bu.lt
  have eBr00 := Br0.c0
  have eBr01 := Br0.c1
  have lBr0 := Br0.lt
  have eBt10 := Bt1.c0
  have eBt11 := Bt1.c1
  have lBt1 := Bt1.lt
  have eBu10 := Bu1.c0
  have eBu11 := Bu1.c1
  have lBu1 := Bu1.lt
  have eBr10 := Br1.c0
  have eBr11 := Br1.c1
  have lBr1 := Br1.lt
  go_wp2_with fail
  have hq := heldTerm_any r.args 1 (n := r.name) hcr (D.own_rd _ _ _ oM0)
  rw [Hrm.out] at hq
  rw [show ((1 : Nat) : Int) = 1 from rfl] at hq
  refine hq.mono ?_
  clear hq
  rintro e w14 ⟨_, rfl, hb, rfl⟩
  have z18 : Hid (w13.heap.size ≤ w14.heap.size) := hb.size
  replace hW := hW.trans (hb.mono hW.size)
  replace bt := bt.keep hb
  replace bu := bu.keep hb
  replace ht := Tm.at_keep (Keeps.all hb) ht
  replace hu := Tm.at_keep (Keeps.all hb) hu
  replace Br0 := Br0.keep hb
  replace hr := Tm.at_keep (Keeps.all hb) hr
  replace Bt1 := Bt1.keep hb
  replace Bu1 := Bu1.keep hb
  replace Br1 := Br1.keep hb
  replace oM0 := D.own_keep _ _ _ (Keeps.all hb) oM0
  clear ebt0 ebt1 lbt ebu0 ebu1 lbu eBr00 eBr01 lBr0 eBt10 eBt11 lBt1 eBu10 eBu11 lBu1 eBr10 eBr11 lBr1 hb
  have ebt0 := bt.c0
  have ebt1 := bt.c1
  have lbt := bt.lt
  have ebu0 := bu.c0
  have ebu1 := bu.c1
  have lbu := bu.lt
  have eBr00 := Br0.c0
  have eBr01 := Br0.c1
  have lBr0 := Br0.lt
  have eBt10 := Bt1.c0
  have eBt11 := Bt1.c1
  have lBt1 := Bt1.lt
  have eBu10 := Bu1.c0
  have eBu11 := Bu1.c1
  have lBu1 := Bu1.lt
  have eBr10 := Br1.c0
  have eBr11 := Br1.c1
  have lBr1 := Br1.lt
  go_wp2_with fail
  go_cut [15, 16] from 17 (fun v8 v9 wc => ZEnd w14 r ok v8 v9 wc)
  case first =>
    have HMK : Hid (∀ w', Below w14.heap.size w14 w' → (w'.cell? ⟨w.heap.size, 0, none⟩ = some (.string t.name) ∧ w'.cell? ⟨w.heap.size, 1, none⟩ = some (.slice ta0 t.args.length tc0) ∧ w'.cell? ⟨w.heap.size + 1, 0, none⟩ = some (.string u.name) ∧ w'.cell? ⟨w.heap.size + 1, 1, none⟩ = some (.slice ua0 u.args.length uc0) ∧ Below w14.heap.size w14 w')) := fun w' h => ⟨(bt.keep h).c0, (bt.keep h).c1, (bu.keep h).c0, (bu.keep h).c1, h⟩
    have HEX : Hid (∀ w', (w'.cell? ⟨w.heap.size, 0, none⟩ = some (.string t.name) ∧ w'.cell? ⟨w.heap.size, 1, none⟩ = some (.slice ta0 t.args.length tc0) ∧ w'.cell? ⟨w.heap.size + 1, 0, none⟩ = some (.string u.name) ∧ w'.cell? ⟨w.heap.size + 1, 1, none⟩ = some (.slice ua0 u.args.length uc0) ∧ Below w14.heap.size w14 w') → Below w14.heap.size w14 w') := fun _ h => h.2.2.2.2
    have HSP : Hid (∀ (w' : World) (q0 q1 : Value), Below w14.heap.size w14 w' → Tm.at (fun _ => True) w' (.string t.name) (q0) t → Tm.at (fun _ => True) w' (.string u.name) (q1) u → Calls Tryd.prog 7 #[.agg #[.string t.name, q0], .agg #[.string u.name, q1]] w' (OutT r ok w')) := fun w' _ _ hWW h0 h1 => by
      have hq := impl_Generalize h0 hbt h1 hbu (TabF.keep hF (hW.trans (hWW.mono hW.size)))
      rw [Hr.out, Hok.out] at hq
      exact hq
    go_region_held3 (fun w' => w'.cell? ⟨w.heap.size, 0, none⟩ = some (.string t.name) ∧ w'.cell? ⟨w.heap.size, 1, none⟩ = some (.slice ta0 t.args.length tc0) ∧ w'.cell? ⟨w.heap.size + 1, 0, none⟩ = some (.string u.name) ∧ w'.cell? ⟨w.heap.size + 1, 1, none⟩ = some (.slice ua0 u.args.length uc0) ∧ Below w14.heap.size w14 w')
      (first | assumption | exact HMK.out _ (Below.refl _ _).drew | exact HMK.out _ ((Below.refl _ _).alloc (Nat.le_refl _) _).drew | exact HMK.out _ (Below.refl _ _) | exact HMK.out _ (Below.alloc (HEX.out _ (by assumption)) (HEX.out _ (by assumption)).size _) | exact HMK.out _ (Below.setCell (HEX.out _ (by assumption)) (by dsimp only; omega) _) | exact HMK.out _ (Below.setCell (Below.setCell (HEX.out _ (by assumption)) (by dsimp only; omega) _) (by dsimp only; omega) _))
      (first
        | (have _q := f1; go_at_call 6; refine (toTerm_is (Tm.at_keep (Keeps.all (HEX.out _ (by assumption))) hu) hbu).mono ?_; rintro e x2 ⟨_, rfl, hx2, g2⟩; obtain ⟨ua7, uc7, rfl, f2⟩ := Is.form g2; clear g2; have hB2 : Below w14.heap.size w14 x2 := Below.trans (HEX.out _ (by assumption)) (hx2.mono (HEX.out _ (by assumption)).size); have zz2 := hB2.size; have hS2 := HMK.out _ hB2; (first | (replace zb := ZBox.keep zb hx2) | (have zb := ZBox.keep (ZBox.new _) hx2) | (have zb := ZBox.keep ((ZBox.new w14).keep (Below.refl _ _).drew) hx2) | skip); replace f1 := Tm.at_keep (Keeps.all hx2) (by first | exact f1 | exact Tm.at_keep (Keeps.all ((Below.refl _ _).alloc (Nat.le_refl _) _)) f1))
        | (go_at_call 6; refine (toTerm_is (Tm.at_keep (Keeps.all (HEX.out _ (by assumption))) ht) hbt).mono ?_; rintro e x1 ⟨_, rfl, hx1, g1⟩; obtain ⟨ta7, tc7, rfl, f1⟩ := Is.form g1; clear g1; have hB1 : Below w14.heap.size w14 x1 := Below.trans (HEX.out _ (by assumption)) (hx1.mono (HEX.out _ (by assumption)).size); have zz1 := hB1.size; have hS1 := HMK.out _ hB1; (first | (replace zb := ZBox.keep zb hx1) | (have zb := ZBox.keep (ZBox.new _) hx1) | (have zb := ZBox.keep ((ZBox.new w14).keep (Below.refl _ _).drew) hx1) | skip))
        | (go_at_call 7; refine (HSP.out _ _ _ (HEX.out _ (by assumption)) (by first | exact f1 | exact Tm.at_keep (Keeps.all ((Below.refl _ _).alloc (Nat.le_refl _) _)) f1) (by first | exact f2 | exact Tm.at_keep (Keeps.all ((Below.refl _ _).alloc (Nat.le_refl _) _)) f2)).mono ?_; rintro e x3 ⟨_, Fr, rfl, oR, hFr, hx3⟩; (first | (have hnb := ZBox.notin zb hFr) | skip); obtain ⟨ra7, rc7, rfl⟩ := Tm.sd_own_form oR; have hB3 : Below w14.heap.size w14 x3 := Below.trans (HEX.out _ (by assumption)) (hx3.mono (HEX.out _ (by assumption)).size); have zz3 := hB3.size; have hS3 := HMK.out _ hB3; (first | (replace zb := ZBox.keep zb hx3) | (have zb := ZBox.keep (ZBox.new _) hx3) | (have zb := ZBox.keep ((ZBox.new w14).keep (Below.refl _ _).drew) hx3) | skip); (first | (obtain ⟨zl, z0, z1, zf0, zf1⟩ := zb) | skip)))
    all_goals
      go_wp2_with fail
      go_meet
      case rel =>
        first
          | (have _q := zl; exact ZEnd.filled ⟨zl, z0, z1, zf0, zf1⟩ hB3 (by omega) hnr oR (by first | exact hnb | (intro q; have q1 := hFr _ q; simp only [World.size_alloc] at q1; omega)))
          | exact ZEnd.last hB3 hnr oR
  obtain ⟨bBh2, ra2, rc2, rfl, rfl, z19, Bh2, hr2, hb⟩ := hcut
  replace Bh2 := Bh2.out
  replace hr2 := hr2.out
  obtain ⟨w15, rfl⟩ : ∃ x, x = wc := ⟨_, rfl⟩
  have z20 : Hid (w14.heap.size ≤ w15.heap.size) := hb.size
  replace hW := hW.trans (hb.mono hW.size)
  replace bt := bt.keep hb
  replace bu := bu.keep hb
  replace ht := Tm.at_keep (Keeps.all hb) ht
  replace hu := Tm.at_keep (Keeps.all hb) hu
  replace Br0 := Br0.keep hb
  replace hr := Tm.at_keep (Keeps.all hb) hr
  replace Bt1 := Bt1.keep hb
  replace Bu1 := Bu1.keep hb
  replace Br1 := Br1.keep hb
  replace oM0 := D.own_keep _ _ _ (Keeps.all hb) oM0
  clear ebt0 ebt1 lbt ebu0 ebu1 lbu eBr00 eBr01 lBr0 eBt10 eBt11 lBt1 eBu10 eBu11 lBu1 eBr10 eBr11 lBr1 hb
  have ebt0 := bt.c0
  have ebt1 := bt.c1
  have lbt := bt.lt
  have ebu0 := bu.c0
  have ebu1 := bu.c1
  have lbu := bu.lt
  have eBr00 := Br0.c0
  have eBr01 := Br0.c1
  have lBr0 := Br0.lt
  have eBt10 := Bt1.c0
  have eBt11 := Bt1.c1
  have lBt1 := Bt1.lt
  have eBu10 := Bu1.c0
  have eBu11 := Bu1.c1
  have lBu1 := Bu1.lt
  have eBr10 := Br1.c0
  have eBr11 := Br1.c1
  have lBr1 := Br1.lt
  have eBh20 := Bh2.c0
  have eBh21 := Bh2.c1
  have lBh2 := Bh2.lt
  go_wp2_with fail
  refine (eqTerm_refl (Tm.at_all hr2) (Tm.at_all hr)).mono ?_
  rintro e w16 ⟨_, rfl, hb, rfl⟩
  have z21 : Hid (w15.heap.size ≤ w16.heap.size) := hb.size
  replace hW := hW.trans (hb.mono hW.size)
  replace bt := bt.keep hb
  replace bu := bu.keep hb
  replace ht := Tm.at_keep (Keeps.all hb) ht
  replace hu := Tm.at_keep (Keeps.all hb) hu
  replace Br0 := Br0.keep hb
  replace hr := Tm.at_keep (Keeps.all hb) hr
  replace Bt1 := Bt1.keep hb
  replace Bu1 := Bu1.keep hb
  replace Br1 := Br1.keep hb
  replace oM0 := D.own_keep _ _ _ (Keeps.all hb) oM0
  replace Bh2 := Bh2.keep hb
  replace hr2 := Tm.at_keep (Keeps.all hb) hr2
  clear ebt0 ebt1 lbt ebu0 ebu1 lbu eBr00 eBr01 lBr0 eBt10 eBt11 lBt1 eBu10 eBu11 lBu1 eBr10 eBr11 lBr1 eBh20 eBh21 lBh2 hb
  have ebt0 := bt.c0
  have ebt1 := bt.c1
  have lbt := bt.lt
  have ebu0 := bu.c0
  have ebu1 := bu.c1
  have lbu := bu.lt
  have eBr00 := Br0.c0
  have eBr01 := Br0.c1
  have lBr0 := Br0.lt
  have eBt10 := Bt1.c0
  have eBt11 := Bt1.c1
  have lBt1 := Bt1.lt
  have eBu10 := Bu1.c0
  have eBu11 := Bu1.c1
  have lBu1 := Bu1.lt
  have eBr10 := Br1.c0
  have eBr11 := Br1.c1
  have lBr1 := Br1.lt
  have eBh20 := Bh2.c0
  have eBh21 := Bh2.c1
  have lBh2 := Bh2.lt
  go_wp2_with fail
  have hq := heldTerm_any r.args 1 (n := r.name) hcr (D.own_rd _ _ _ oM0)
  rw [Hrm.out] at hq
  rw [show ((1 : Nat) : Int) = 1 from rfl] at hq
  refine hq.mono ?_
  clear hq
  rintro e w17 ⟨_, rfl, hb, rfl⟩
  have z22 : Hid (w16.heap.size ≤ w17.heap.size) := hb.size
  replace hW := hW.trans (hb.mono hW.size)
  replace bt := bt.keep hb
  replace bu := bu.keep hb
  replace ht := Tm.at_keep (Keeps.all hb) ht
  replace hu := Tm.at_keep (Keeps.all hb) hu
  replace Br0 := Br0.keep hb
  replace hr := Tm.at_keep (Keeps.all hb) hr
  replace Bt1 := Bt1.keep hb
  replace Bu1 := Bu1.keep hb
  replace Br1 := Br1.keep hb
  replace oM0 := D.own_keep _ _ _ (Keeps.all hb) oM0
  replace Bh2 := Bh2.keep hb
  replace hr2 := Tm.at_keep (Keeps.all hb) hr2
  clear ebt0 ebt1 lbt ebu0 ebu1 lbu eBr00 eBr01 lBr0 eBt10 eBt11 lBt1 eBu10 eBu11 lBu1 eBr10 eBr11 lBr1 eBh20 eBh21 lBh2 hb
  have ebt0 := bt.c0
  have ebt1 := bt.c1
  have lbt := bt.lt
  have ebu0 := bu.c0
  have ebu1 := bu.c1
  have lbu := bu.lt
  have eBr00 := Br0.c0
  have eBr01 := Br0.c1
  have lBr0 := Br0.lt
  have eBt10 := Bt1.c0
  have eBt11 := Bt1.c1
  have lBt1 := Bt1.lt
  have eBu10 := Bu1.c0
  have eBu11 := Bu1.c1
  have lBu1 := Bu1.lt
  have eBr10 := Br1.c0
  have eBr11 := Br1.c1
  have lBr1 := Br1.lt
  have eBh20 := Bh2.c0
  have eBh21 := Bh2.c1
  have lBh2 := Bh2.lt
  go_wp2_with fail
  go_ret
  exact ⟨rfl, hW⟩

/-! the row -/
set_option maxRecDepth 100000 in
theorem lifted (os : Os) (started : os.Started) (H : Type) (enc : TypeId × Value → H) :
    ReturnsInHanded {} Tryd.checked os 3 .any (fun w args => (Rows.fnExactGeneralizeSpec.pre enc Tryd.prog Tryd.f3 Rows.fnExactGeneralizeRow.domain false w args ∧ laidMetH Tryd.prog Rows.fnExactGeneralizeRow.laid w) ∧ sizedMet enc Tryd.prog Tryd.f3 (OpenSpec.ofChange Rows.fnExactGeneralizeSpec) false w args) (Rows.fnExactGeneralizeSpec.post enc Tryd.prog Tryd.f3 false true false false) := by
  refine returns_both (C := Tryd.checked) (X := (fun w _ => laidMetH Tryd.prog Rows.fnExactGeneralizeRow.laid w)) (fun _ _ _ hh h => h.of_heap hh) own started (by kernel_rfl) Tryd.func3
    (ChangeSpec.witness_at (enc := enc) (C := Tryd.checked) (os := os) (X := (fun w _ => laidMetH Tryd.prog Rows.fnExactGeneralizeRow.laid w)) false (laidWorld os) #[.agg #[.string ByteArray.empty, .slice none 0 0], .agg #[.string ByteArray.empty, .slice none 0 0]] 8 rfl (by kernel_rfl) (by kernel_rfl) (by kernel_rfl) (by kernel_rfl) (by kernel_rfl) (laidWorld_met os _)) ?_
  intro W base args ds gs before hval0 hW hL hSh
  have hF : Fact W := fact_of_laid hL hSh
  have hval : ∀ (j : Nat) t v, Tryd.f3.params[j]? = some t → args[j]? = some v → Value.okWide Tryd.prog W .any base t v := hval0
  have hW' := hW
  obtain ⟨p, q, hA0, hV, rfl, hfz, hnd⟩ := hW
  have hA : DataW.TrodAll enc Tryd.prog W 0 (fun _ => true) true Tryd.f3.params.toList args.toList ds p := hA0
  rw [Tryd.params3] at hA hval
  obtain ⟨v0, vs0, d0, ds0, p0, q0, hargs, rfl, rfl, h0, r0⟩ := trodAll_cons hA
  obtain ⟨v1, vs1, d1, ds1, p1, q1, rfl, rfl, rfl, h1, r1⟩ := trodAll_cons r0
  obtain ⟨rfl, rfl, rfl⟩ := trodAll_nil r1
  obtain rfl : args = #[v0, v1] := by cases args; simp_all
  obtain ⟨rfl, rfl⟩ := trodVars_none hV
  have k0 := h0
  have k1 := h1
  obtain ⟨t0, t1, t, rfl, ht⟩ := open_Term (hval 0 24 v0 rfl rfl) h0
  obtain ⟨u0, u1, u, rfl, hu⟩ := open_Term (hval 1 24 v1 rfl rfl) h1
  clear hA0 hval0
  simp only [List.append_nil] at hW'
  have hlt0 : ∀ x ∈ p0, x.block < W.heap.size := fun x hx => hW'.lt x (by simp [hx])
  have hlt1 : ∀ x ∈ p1, x.block < W.heap.size := fun x hx => hW'.lt x (by simp [hx])
  refine (walk hF t0 t1 t ht u0 u1 u hu).mono fun e W' ⟨he, hb⟩ => ?_
  subst he
  exact ⟨_, rfl, [d0, d1], [], _, [], p0 ++ (p1 ++ []), [], by simpa using hW', trodAll_cons_mk (shut_bool Tryd.underlying4 _) trodAll_mk0, (trodAll_cons_mk (Below.trod laidOut (by kernel_rfl) (of_decide_eq_true (by kernel_rfl)) k0 hb hlt0) (trodAll_cons_mk (Below.trod laidOut (by kernel_rfl) (of_decide_eq_true (by kernel_rfl)) k1 hb hlt1) trodAll_mk0)), rfl, hb.frame _, fun h => by cases h⟩

theorem over : Rows.fnExactGeneralizeRow.holds Tryd.pinned (OpenSpec.ofChange Rows.fnExactGeneralizeSpec) :=
  OpenClaim.holds_of_wide 3 Tryd.f3 rfl rfl rfl rfl rfl rfl rfl ⟨rfl, rfl, rfl, rfl, rfl⟩ rfl rfl rfl rfl rfl (by kernel_rfl) Tryd.func3 (by kernel_rfl)
    (of_decide_eq_true (by kernel_rfl)) (by unfold Func.isWrapper; first | (rw [if_pos (by decide +kernel)]; kernel_rfl) | (rw [if_neg (by decide +kernel)]; exact ⟨rfl, rfl⟩))
    (fun os started H enc _ => lifted os started H enc)

theorem proved : Rows.FnExactGeneralizeCardSaid :=
  Claim7.holds_tied_plain_at .later [] [.data, .data, .data] true (true, "8c0cb5f828b2205c1a5021b9421154f261f3283adb051614270caa8771ff4f3e") false
    over (fun _ h => by cases h) (by kernel_rfl) (fun _ h => by cases h) fnExactGeneralize_row_tie rfl ⟨rfl, rfl⟩ (by kernel_rfl) rfl
    (fun f fn hf hfn => by
      obtain rfl : f = 3 := Option.some.inj ((show Tryd.prog.funcNamed "loop.example/g00892/laws.FnExactGeneralize" = some 3 by kernel_rfl).symm.trans hf) |>.symm
      obtain rfl : fn = Tryd.f3 := (Option.some.inj (Tryd.func3.symm.trans hfn)).symm
      exact ⟨by kernel_rfl, fun j t ht => by
        rw [Tryd.params3] at ht
        rcases j with _ | _ | j
        · obtain rfl : t = 24 := by simpa using ht.symm
          exact (show Tryd.prog.wantsStandIn 24 = false by kernel_rfl)
        · obtain rfl : t = 24 := by simpa using ht.symm
          exact (show Tryd.prog.wantsStandIn 24 = false by kernel_rfl)
        · simp at ht⟩)
    (by kernel_rfl)
#print axioms proved
end Go.Proofs.YtooocakkjdhfiaaDoor.fnExactGeneralize
