/- For every input the law FnExactSubsumes returns true, and each argument reads behind the call as it read before it. No conditions. -/
import Derived.Test.YtglhbaigigdeeaaGreatRows
import Derived.Test.YtglhbaigigdeeaaGreatQ01
import Derived.Test.YtglhbaigigdeeaaGreatQ02
import Derived.Test.YtglhbaigigdeeaaGreatQ23
import Derived.Test.YtglhbaigigdeeaaGreatQ21
import Derived.OpenShut
namespace Go.Proofs.YtglhbaigigdeeaaGreat.fnExactSubsumes
set_option maxRecDepth 100000
open Go.ChangeShapes Go.WideShapes Go.ChangeAt Go.RowKit

set_option maxHeartbeats 4000000 in
theorem walk (t0 : Value) (t : Cl) {w : World} (ht : Cl.at (fun _ => True) w t0 t) (u0 : Value) (u : Cl) (hu : Cl.at (fun _ => True) w u0 u) :
    Calls Tryz.prog 4 #[.agg #[t0], .agg #[u0]] w fun e w' => e = .returned (.bool true) ∧ Below w.heap.size w w' := by
  obtain ⟨ta0, tc0, rfl⟩ := Cl.at_form ht
  obtain ⟨ua0, uc0, rfl⟩ := Cl.at_form hu
  obtain ⟨r, Hr⟩ : ∃ r, Hid (subR t u = r) := ⟨_, hid rfl⟩
  obtain ⟨ok, Hok⟩ : ∃ ok : Bool, Hid (subOk t u = ok) := ⟨_, hid rfl⟩
  have hW : Below w.heap.size w ((w.alloc (.cells #[.slice ta0 t.ls.length tc0] 36)).alloc (.cells #[.slice ua0 u.ls.length uc0] 36)) := ((Below.refl _ _).alloc (Nat.le_refl _) _).alloc (by simp) _
  have bt : Box ((w.alloc (.cells #[.slice ta0 t.ls.length tc0] 36)).alloc (.cells #[.slice ua0 u.ls.length uc0] 36)) (w.heap.size) [.slice ta0 t.ls.length tc0] := by
    have := (Box.new w [.slice ta0 t.ls.length tc0] 36).alloc (.cells #[.slice ua0 u.ls.length uc0] 36)
    simpa only [World.size_alloc] using this
  have bu : Box ((w.alloc (.cells #[.slice ta0 t.ls.length tc0] 36)).alloc (.cells #[.slice ua0 u.ls.length uc0] 36)) (w.heap.size + 1) [.slice ua0 u.ls.length uc0] := by
    have := (Box.new (w.alloc (.cells #[.slice ta0 t.ls.length tc0] 36)) [.slice ua0 u.ls.length uc0] 36)
    simpa only [World.size_alloc] using this
  replace ht := Cl.at_keep (Keeps.all hW) ht
  replace hu := Cl.at_keep (Keeps.all hW) hu
  have z0 : Hid (w.heap.size + 2 ≤ ((w.alloc (.cells #[.slice ta0 t.ls.length tc0] 36)).alloc (.cells #[.slice ua0 u.ls.length uc0] 36)).heap.size) := by simp [Hid]
  go_enter Tryz.func4, Tryz.ntmps4
  have ebt0 := bt.c0
  have lbt := bt.lt
  have ebu0 := bu.c0
  have lbu := bu.lt
  go_wp2_with fail
  generalize ((w.alloc (.cells #[.slice ta0 t.ls.length tc0] 36)).alloc (.cells #[.slice ua0 u.ls.length uc0] 36)) = w0 at *
  refine (szCl_any t _ _ _ _ ht (by omega) (by omega)).mono ?_
  rintro e w1 ⟨rfl, hb⟩
  have z1 : Hid (w0.heap.size ≤ w1.heap.size) := hb.size
  replace hW := hW.trans (hb.mono hW.size)
  replace bt := bt.keep hb
  replace bu := bu.keep hb
  replace ht := Cl.at_keep (Keeps.all hb) ht
  replace hu := Cl.at_keep (Keeps.all hb) hu
  clear ebt0 lbt ebu0 lbu hb
  by_cases hzt : (t.bulk : Int) ≤ 1048576
  rotate_left
  · rw [after_neg (by omega)]
    go_wp2_with fail
    go_ret
    exact ⟨rfl, hW⟩
  rw [after_pos hzt]
  have hbt : t.bulk ≤ 1048576 := by omega
  have ebt0 := bt.c0
  have lbt := bt.lt
  have ebu0 := bu.c0
  have lbu := bu.lt
  go_wp2_with fail
  refine (szCl_any u _ _ _ _ hu (by omega) (by omega)).mono ?_
  rintro e w2 ⟨rfl, hb⟩
  have z2 : Hid (w1.heap.size ≤ w2.heap.size) := hb.size
  replace hW := hW.trans (hb.mono hW.size)
  replace bt := bt.keep hb
  replace bu := bu.keep hb
  replace ht := Cl.at_keep (Keeps.all hb) ht
  replace hu := Cl.at_keep (Keeps.all hb) hu
  clear ebt0 lbt ebu0 lbu hb
  by_cases hzu : (u.bulk : Int) ≤ 1048576 - (t.bulk : Nat)
  rotate_left
  · rw [after_neg (by omega)]
    go_wp2_with fail
    go_ret
    exact ⟨rfl, hW⟩
  rw [after_pos hzu]
  have hbu : u.bulk ≤ 1048576 := by omega
  have ebt0 := bt.c0
  have lbt := bt.lt
  have ebu0 := bu.c0
  have lbu := bu.lt
  go_wp2_with fail
  have hbr : r.bulk ≤ 1048576 := by
    rw [← Hr.out]
    exact Nat.le_trans (subR_bulk t u) (by decide)
  have hcr : 1 + c3 (bndAs r.bs) ≤ 1099511627776 := by
    have := c3_le_bulkB r
    omega
  obtain ⟨rm, Hrm⟩ : ∃ n : Nat, Hid (1 + c3 (bndAs r.bs) = n) := ⟨_, hid rfl⟩
  have hrm : ¬ ((rm : Nat) : Int) < 0 := by omega
  go_cut [6, 7] from 17 (fun v8 v9 wc => ZEndS w2 r ok v8 v9 wc)
  case first =>
    have HMK : Hid (∀ w', Below w2.heap.size w2 w' → (w'.cell? ⟨w.heap.size, 0, none⟩ = some (.slice ta0 t.ls.length tc0) ∧ w'.cell? ⟨w.heap.size + 1, 0, none⟩ = some (.slice ua0 u.ls.length uc0) ∧ Below w2.heap.size w2 w')) := fun w' h => ⟨(bt.keep h).c0, (bu.keep h).c0, h⟩
    have HEX : Hid (∀ w', (w'.cell? ⟨w.heap.size, 0, none⟩ = some (.slice ta0 t.ls.length tc0) ∧ w'.cell? ⟨w.heap.size + 1, 0, none⟩ = some (.slice ua0 u.ls.length uc0) ∧ Below w2.heap.size w2 w') → Below w2.heap.size w2 w') := fun _ h => h.2.2
    have HSP : Hid (∀ (w' : World) (q0 q1 : Value), Below w2.heap.size w2 w' → Cl.at (fun _ => True) w' (q0) t → Cl.at (fun _ => True) w' (q1) u → Calls Tryz.prog 15 #[.agg #[q0], .agg #[q1]] w' (RdN (fun v => .agg #[v]) (Bnd.sd r.bs) ok w')) := fun w' _ _ hWW h0 h1 => by
      have hq := spec_Subsumes h0 hbt h1 hbu
      rw [Hr.out, Hok.out] at hq
      exact hq
    go_region_held3 (fun w' => w'.cell? ⟨w.heap.size, 0, none⟩ = some (.slice ta0 t.ls.length tc0) ∧ w'.cell? ⟨w.heap.size + 1, 0, none⟩ = some (.slice ua0 u.ls.length uc0) ∧ Below w2.heap.size w2 w')
      (first | assumption | exact HMK.out _ (Below.refl _ _).drew | exact HMK.out _ ((Below.refl _ _).alloc (Nat.le_refl _) _).drew | exact HMK.out _ (Below.refl _ _) | exact HMK.out _ (Below.alloc (HEX.out _ (by assumption)) (HEX.out _ (by assumption)).size _) | exact HMK.out _ (Below.setCell (HEX.out _ (by assumption)) (by dsimp only; omega) _) | exact HMK.out _ (Below.setCell (Below.setCell (HEX.out _ (by assumption)) (by dsimp only; omega) _) (by dsimp only; omega) _))
      (first
        | (have _q := f1; go_at_call 16; refine (toCl_is (Cl.at_keep (Keeps.all (HEX.out _ (by assumption))) hu) hbu).mono ?_; rintro e x2 ⟨_, rfl, hx2, g2⟩; obtain ⟨ua7, uc7, rfl, f2⟩ := IsC.form g2; clear g2; have hB2 : Below w2.heap.size w2 x2 := Below.trans (HEX.out _ (by assumption)) (hx2.mono (HEX.out _ (by assumption)).size); have zz2 := hB2.size; have hS2 := HMK.out _ hB2; (first | (replace zb := ZBoxS.keep zb hx2) | (have zb := ZBoxS.keep (ZBoxS.new _) hx2) | (have zb := ZBoxS.keep ((ZBoxS.new w2).keep (Below.refl _ _).drew) hx2) | skip); replace f1 := Cl.at_keep (Keeps.all hx2) (by first | exact f1 | exact Cl.at_keep (Keeps.all ((Below.refl _ _).alloc (Nat.le_refl _) _)) f1))
        | (go_at_call 16; refine (toCl_is (Cl.at_keep (Keeps.all (HEX.out _ (by assumption))) ht) hbt).mono ?_; rintro e x1 ⟨_, rfl, hx1, g1⟩; obtain ⟨ta7, tc7, rfl, f1⟩ := IsC.form g1; clear g1; have hB1 : Below w2.heap.size w2 x1 := Below.trans (HEX.out _ (by assumption)) (hx1.mono (HEX.out _ (by assumption)).size); have zz1 := hB1.size; have hS1 := HMK.out _ hB1; (first | (replace zb := ZBoxS.keep zb hx1) | (have zb := ZBoxS.keep (ZBoxS.new _) hx1) | (have zb := ZBoxS.keep ((ZBoxS.new w2).keep (Below.refl _ _).drew) hx1) | skip))
        | (go_at_call 15; refine (HSP.out _ _ _ (HEX.out _ (by assumption)) (by first | exact f1 | exact Cl.at_keep (Keeps.all ((Below.refl _ _).alloc (Nat.le_refl _) _)) f1) (by first | exact f2 | exact Cl.at_keep (Keeps.all ((Below.refl _ _).alloc (Nat.le_refl _) _)) f2)).mono ?_; rintro e x3 ⟨_, rfl, oR, hx3⟩; (first | (have hnb := zb.1) | skip); obtain ⟨ra7, rc7, rfl, -, -⟩ := Bnd.sd_form oR; have hB3 : Below w2.heap.size w2 x3 := Below.trans (HEX.out _ (by assumption)) (hx3.mono (HEX.out _ (by assumption)).size); have zz3 := hB3.size; have hS3 := HMK.out _ hB3; (first | (replace zb := ZBoxS.keep zb hx3) | (have zb := ZBoxS.keep (ZBoxS.new _) hx3) | (have zb := ZBoxS.keep ((ZBoxS.new w2).keep (Below.refl _ _).drew) hx3) | skip); (first | (obtain ⟨zl, z0, zf0⟩ := zb) | skip)))
    all_goals
      go_wp2_with fail
      go_meet
      case rel =>
        first
          | (have _q := zl; exact ZEndS.filledR ⟨zl, z0, zf0⟩ hB3 (by omega) oR (by first | exact hnb | (simp only [World.size_alloc]; omega) | (show _ < (World.alloc _ _).heap.size; simp only [World.size_alloc]; omega)))
          | exact ZEndS.lastR hB3 oR
  obtain ⟨bBr0, ra0, rc0, rfl, rfl, z3, Br0, hr, hb⟩ := hcut
  replace Br0 := Br0.out
  replace hr := hr.out
  obtain ⟨w3, rfl⟩ : ∃ x, x = wc := ⟨_, rfl⟩
  have z4 : Hid (w2.heap.size ≤ w3.heap.size) := hb.size
  replace hW := hW.trans (hb.mono hW.size)
  replace bt := bt.keep hb
  replace bu := bu.keep hb
  replace ht := Cl.at_keep (Keeps.all hb) ht
  replace hu := Cl.at_keep (Keeps.all hb) hu
  clear ebt0 lbt ebu0 lbu hb
  have ebt0 := bt.c0
  have lbt := bt.lt
  have ebu0 := bu.c0
  have lbu := bu.lt
  have eBr00 := Br0.c0
  have lBr0 := Br0.lt
  go_wp2_with fail
  replace ht := Cl.at_lt ht
  replace hu := Cl.at_lt hu
  replace hr := Sb.at_lt hr
  refine (toCl_any t _ _ _ ht hbt).mono ?_
  rintro e w4 ⟨_, Ft1, rfl, ot1, lt1, hb⟩
  have z5 : Hid (w3.heap.size ≤ w4.heap.size) := hb.size
  replace hW := hW.trans (hb.mono hW.size)
  replace bt := bt.keep hb
  replace bu := bu.keep hb
  replace ht := Cl.at_keep (Keeps.all hb) ht
  replace hu := Cl.at_keep (Keeps.all hb) hu
  replace Br0 := Br0.keep hb
  replace hr := Sb.at_keep (Keeps.all hb) hr
  clear ebt0 lbt ebu0 lbu eBr00 lBr0 hb
  obtain ⟨ta1, tc1, rfl⟩ := Lit.sd_own_form ot1
  have ut1 := D.own_lt _ _ _ ot1
  have hb : Below w4.heap.size w4 (w4.alloc (.cells #[.slice ta1 t.ls.length tc1] 26)) := (Below.refl _ _).alloc (Nat.le_refl _) _
  have Bt1 : Box (w4.alloc (.cells #[.slice ta1 t.ls.length tc1] 26)) w4.heap.size [.slice ta1 t.ls.length tc1] := Box.new _ _ _
  have z6 : Hid (w4.heap.size + 1 ≤ (w4.alloc (.cells #[.slice ta1 t.ls.length tc1] 26)).heap.size) := by simp [Hid]
  replace hW := hW.trans (hb.mono hW.size)
  replace bt := bt.keep hb
  replace bu := bu.keep hb
  replace ht := Cl.at_keep (Keeps.all hb) ht
  replace hu := Cl.at_keep (Keeps.all hb) hu
  replace Br0 := Br0.keep hb
  replace hr := Sb.at_keep (Keeps.all hb) hr
  replace ot1 := D.own_keep _ _ _ (Keeps.all hb) ot1
  clear hb
  have ebt0 := bt.c0
  have lbt := bt.lt
  have ebu0 := bu.c0
  have lbu := bu.lt
  have eBr00 := Br0.c0
  have lBr0 := Br0.lt
  have eBt10 := Bt1.c0
  have lBt1 := Bt1.lt
  go_wp2_with fail
  generalize (w4.alloc (.cells #[.slice ta1 t.ls.length tc1] 26)) = w4b at *
  refine (toCl_any u _ _ _ hu hbu).mono ?_
  rintro e w5 ⟨_, Fu1, rfl, ou1, lu1, hb⟩
  have z7 : Hid (w4b.heap.size ≤ w5.heap.size) := hb.size
  replace hW := hW.trans (hb.mono hW.size)
  replace bt := bt.keep hb
  replace bu := bu.keep hb
  replace ht := Cl.at_keep (Keeps.all hb) ht
  replace hu := Cl.at_keep (Keeps.all hb) hu
  replace Br0 := Br0.keep hb
  replace hr := Sb.at_keep (Keeps.all hb) hr
  replace ot1 := D.own_keep _ _ _ (Keeps.all hb) ot1
  replace Bt1 := Bt1.keep hb
  clear ebt0 lbt ebu0 lbu eBr00 lBr0 eBt10 lBt1 hb
  obtain ⟨ua1, uc1, rfl⟩ := Lit.sd_own_form ou1
  have uu1 := D.own_lt _ _ _ ou1
  have hb : Below w5.heap.size w5 (w5.alloc (.cells #[.slice ua1 u.ls.length uc1] 26)) := (Below.refl _ _).alloc (Nat.le_refl _) _
  have Bu1 : Box (w5.alloc (.cells #[.slice ua1 u.ls.length uc1] 26)) w5.heap.size [.slice ua1 u.ls.length uc1] := Box.new _ _ _
  have z8 : Hid (w5.heap.size + 1 ≤ (w5.alloc (.cells #[.slice ua1 u.ls.length uc1] 26)).heap.size) := by simp [Hid]
  replace hW := hW.trans (hb.mono hW.size)
  replace bt := bt.keep hb
  replace bu := bu.keep hb
  replace ht := Cl.at_keep (Keeps.all hb) ht
  replace hu := Cl.at_keep (Keeps.all hb) hu
  replace Br0 := Br0.keep hb
  replace hr := Sb.at_keep (Keeps.all hb) hr
  replace ot1 := D.own_keep _ _ _ (Keeps.all hb) ot1
  replace Bt1 := Bt1.keep hb
  replace ou1 := D.own_keep _ _ _ (Keeps.all hb) ou1
  clear hb
  have ebt0 := bt.c0
  have lbt := bt.lt
  have ebu0 := bu.c0
  have lbu := bu.lt
  have eBr00 := Br0.c0
  have lBr0 := Br0.lt
  have eBt10 := Bt1.c0
  have lBt1 := Bt1.lt
  have eBu10 := Bu1.c0
  have lBu1 := Bu1.lt
  go_wp2_with fail
  generalize (w5.alloc (.cells #[.slice ua1 u.ls.length uc1] 26)) = w5b at *
  have hq := impl_Subsumes (Cl.at_of ot1) hbt (Cl.at_of ou1) hbu
  rw [Hr.out, Hok.out] at hq
  refine hq.mono ?_
  clear hq
  rintro e w6 ⟨_, Fr1, rfl, or1, lr1, hb⟩
  have z9 : Hid (w5b.heap.size ≤ w6.heap.size) := hb.size
  replace hW := hW.trans (hb.mono hW.size)
  replace bt := bt.keep hb
  replace bu := bu.keep hb
  replace ht := Cl.at_keep (Keeps.all hb) ht
  replace hu := Cl.at_keep (Keeps.all hb) hu
  replace Br0 := Br0.keep hb
  replace hr := Sb.at_keep (Keeps.all hb) hr
  replace ot1 := D.own_keep _ _ _ (Keeps.all hb) ot1
  replace Bt1 := Bt1.keep hb
  replace ou1 := D.own_keep _ _ _ (Keeps.all hb) ou1
  replace Bu1 := Bu1.keep hb
  clear ebt0 lbt ebu0 lbu eBr00 lBr0 eBt10 lBt1 eBu10 lBu1 hb
  obtain ⟨ra1, rc1, rfl⟩ := Bnd.sd_own_form or1
  have ur1 := D.own_lt _ _ _ or1
  have hb : Below w6.heap.size w6 (w6.alloc (.cells #[.slice ra1 r.bs.length rc1] 40)) := (Below.refl _ _).alloc (Nat.le_refl _) _
  have Br1 : Box (w6.alloc (.cells #[.slice ra1 r.bs.length rc1] 40)) w6.heap.size [.slice ra1 r.bs.length rc1] := Box.new _ _ _
  have z10 : Hid (w6.heap.size + 1 ≤ (w6.alloc (.cells #[.slice ra1 r.bs.length rc1] 40)).heap.size) := by simp [Hid]
  replace hW := hW.trans (hb.mono hW.size)
  replace bt := bt.keep hb
  replace bu := bu.keep hb
  replace ht := Cl.at_keep (Keeps.all hb) ht
  replace hu := Cl.at_keep (Keeps.all hb) hu
  replace Br0 := Br0.keep hb
  replace hr := Sb.at_keep (Keeps.all hb) hr
  replace ot1 := D.own_keep _ _ _ (Keeps.all hb) ot1
  replace Bt1 := Bt1.keep hb
  replace ou1 := D.own_keep _ _ _ (Keeps.all hb) ou1
  replace Bu1 := Bu1.keep hb
  replace or1 := D.own_keep _ _ _ (Keeps.all hb) or1
  clear hb
  have ebt0 := bt.c0
  have lbt := bt.lt
  have ebu0 := bu.c0
  have lbu := bu.lt
  have eBr00 := Br0.c0
  have lBr0 := Br0.lt
  have eBt10 := Bt1.c0
  have lBt1 := Bt1.lt
  have eBu10 := Bu1.c0
  have lBu1 := Bu1.lt
  have eBr10 := Br1.c0
  have lBr1 := Br1.lt
  go_wp2_with fail
  generalize (w6.alloc (.cells #[.slice ra1 r.bs.length rc1] 40)) = w6b at *
  refine (eqSb_refl (Sb.at_of or1) (Sb.at_all hr)).mono ?_
  rintro e w7 ⟨_, rfl, hb, rfl⟩
  have z11 : Hid (w6b.heap.size ≤ w7.heap.size) := hb.size
  replace hW := hW.trans (hb.mono hW.size)
  replace bt := bt.keep hb
  replace bu := bu.keep hb
  replace ht := Cl.at_keep (Keeps.all hb) ht
  replace hu := Cl.at_keep (Keeps.all hb) hu
  replace Br0 := Br0.keep hb
  replace hr := Sb.at_keep (Keeps.all hb) hr
  replace ot1 := D.own_keep _ _ _ (Keeps.all hb) ot1
  replace Bt1 := Bt1.keep hb
  replace ou1 := D.own_keep _ _ _ (Keeps.all hb) ou1
  replace Bu1 := Bu1.keep hb
  replace or1 := D.own_keep _ _ _ (Keeps.all hb) or1
  replace Br1 := Br1.keep hb
  clear ebt0 lbt ebu0 lbu eBr00 lBr0 eBt10 lBt1 eBu10 lBu1 eBr10 lBr1 hb
  have ebt0 := bt.c0
  have lbt := bt.lt
  have ebu0 := bu.c0
  have lbu := bu.lt
  have eBr00 := Br0.c0
  have lBr0 := Br0.lt
  have eBt10 := Bt1.c0
  have lBt1 := Bt1.lt
  have eBu10 := Bu1.c0
  have lBu1 := Bu1.lt
  have eBr10 := Br1.c0
  have lBr1 := Br1.lt
  go_wp2_with fail
  refine wp_region_B [fun v _ => v = .agg #[.slice ta1 t.ls.length tc1], fun v _ => v = .agg #[.slice ta0 t.ls.length tc0], IsC t, fun v _ => v = .bool true, fun v _ => v = .bool false] _ (fun V => by simp [putAll, Act.put]; rfl) (by kernel_rfl) (by decide) (by simp) (by kernel_rfl) ?_ ?_ ?_
  · intro F hF
    simp only [List.mem_cons, List.not_mem_nil, or_false] at hF
    rcases hF with rfl | rfl | rfl | rfl | rfl
    · exact stable_eq
    · exact stable_eq
    · exact IsC.stable
    · exact stable_eq
    · exact stable_eq
  · refine ⟨?_, ?_, ?_, ?_, ?_, trivial⟩
    · intro V w1 hbR _
      obtain ⟨hc, hf⟩ := bcell hbR
      try simp only [World.size_alloc, World.size_setCell] at hc hf
      unfold Does
      go_simp
      exact ⟨Below.refl _ _, rfl⟩
    · intro V w1 hbR _
      obtain ⟨hc, hf⟩ := bcell hbR
      try simp only [World.size_alloc, World.size_setCell] at hc hf
      unfold Does
      go_simp
      exact ⟨Below.refl _ _, rfl⟩
    · intro V w1 hbR ⟨f1, _⟩
      replace f1 : V 1 = .agg #[.slice ta0 t.ls.length tc0] := f1
      obtain ⟨hc, hf⟩ := bcell hbR
      try simp only [World.size_alloc, World.size_setCell] at hc hf
      unfold Does
      go_simp
      exact toCl_is (Cl.at_all (Cl.at_keep (Keeps.all hbR) ht)) hbt
    · intro V w1 hbR ⟨f0, f2, _, _⟩
      replace f0 : V 0 = .agg #[.slice ta1 t.ls.length tc1] := f0
      replace f2 : (IsC t) (V 2) w1 := f2
      obtain ⟨_, _, E2, g2⟩ := IsC.form f2
      obtain ⟨hc, hf⟩ := bcell hbR
      try simp only [World.size_alloc, World.size_setCell] at hc hf
      unfold Does
      go_simp
      exact eqCl_refl (Cl.at_of (D.own_keep _ _ _ (Keeps.all hbR) ot1)) g2
    · intro V w1 hbR ⟨f3, _⟩
      replace f3 : V 3 = .bool true := f3
      unfold Does
      go_simp
      exact ⟨Below.refl _ _, rfl⟩
  intro V w8 hbR hfR
  obtain ⟨f0, f1, f2, f3, f4, _⟩ := hfR
  replace f0 : V 0 = .agg #[.slice ta1 t.ls.length tc1] := f0
  replace f1 : V 1 = .agg #[.slice ta0 t.ls.length tc0] := f1
  replace f2 : (IsC t) (V 2) w8 := f2
  replace f3 : V 3 = .bool true := f3
  replace f4 : V 4 = .bool false := f4
  simp only [f0, f1, f3, f4]
  clear f0 f1 f3 f4
  have hb := hbR
  have z12 : Hid (w7.heap.size ≤ w8.heap.size) := hb.size
  replace hW := hW.trans (hb.mono hW.size)
  replace bt := bt.keep hb
  replace bu := bu.keep hb
  replace ht := Cl.at_keep (Keeps.all hb) ht
  replace hu := Cl.at_keep (Keeps.all hb) hu
  replace Br0 := Br0.keep hb
  replace hr := Sb.at_keep (Keeps.all hb) hr
  replace ot1 := D.own_keep _ _ _ (Keeps.all hb) ot1
  replace Bt1 := Bt1.keep hb
  replace ou1 := D.own_keep _ _ _ (Keeps.all hb) ou1
  replace Bu1 := Bu1.keep hb
  replace or1 := D.own_keep _ _ _ (Keeps.all hb) or1
  replace Br1 := Br1.keep hb
  clear ebt0 lbt ebu0 lbu eBr00 lBr0 eBt10 lBt1 eBu10 lBu1 eBr10 lBr1 hb hbR f2
  have ebt0 := bt.c0
  have lbt := bt.lt
  have ebu0 := bu.c0
  have lbu := bu.lt
  have eBr00 := Br0.c0
  have lBr0 := Br0.lt
  have eBt10 := Bt1.c0
  have lBt1 := Bt1.lt
  have eBu10 := Bu1.c0
  have lBu1 := Bu1.lt
  have eBr10 := Br1.c0
  have lBr1 := Br1.lt
  go_wp2_with fail
  refine wp_region_B [fun v _ => v = .agg #[.slice ua1 u.ls.length uc1], fun v _ => v = .agg #[.slice ua0 u.ls.length uc0], IsC u, fun v _ => v = .bool true, fun v _ => v = .bool false] _ (fun V => by simp [putAll, Act.put]; rfl) (by kernel_rfl) (by decide) (by simp) (by kernel_rfl) ?_ ?_ ?_
  · intro F hF
    simp only [List.mem_cons, List.not_mem_nil, or_false] at hF
    rcases hF with rfl | rfl | rfl | rfl | rfl
    · exact stable_eq
    · exact stable_eq
    · exact IsC.stable
    · exact stable_eq
    · exact stable_eq
  · refine ⟨?_, ?_, ?_, ?_, ?_, trivial⟩
    · intro V w1 hbR _
      obtain ⟨hc, hf⟩ := bcell hbR
      try simp only [World.size_alloc, World.size_setCell] at hc hf
      unfold Does
      go_simp
      exact ⟨Below.refl _ _, rfl⟩
    · intro V w1 hbR _
      obtain ⟨hc, hf⟩ := bcell hbR
      try simp only [World.size_alloc, World.size_setCell] at hc hf
      unfold Does
      go_simp
      exact ⟨Below.refl _ _, rfl⟩
    · intro V w1 hbR ⟨f1, _⟩
      replace f1 : V 1 = .agg #[.slice ua0 u.ls.length uc0] := f1
      obtain ⟨hc, hf⟩ := bcell hbR
      try simp only [World.size_alloc, World.size_setCell] at hc hf
      unfold Does
      go_simp
      exact toCl_is (Cl.at_all (Cl.at_keep (Keeps.all hbR) hu)) hbu
    · intro V w1 hbR ⟨f0, f2, _, _⟩
      replace f0 : V 0 = .agg #[.slice ua1 u.ls.length uc1] := f0
      replace f2 : (IsC u) (V 2) w1 := f2
      obtain ⟨_, _, E2, g2⟩ := IsC.form f2
      obtain ⟨hc, hf⟩ := bcell hbR
      try simp only [World.size_alloc, World.size_setCell] at hc hf
      unfold Does
      go_simp
      exact eqCl_refl (Cl.at_of (D.own_keep _ _ _ (Keeps.all hbR) ou1)) g2
    · intro V w1 hbR ⟨f3, _⟩
      replace f3 : V 3 = .bool true := f3
      unfold Does
      go_simp
      exact ⟨Below.refl _ _, rfl⟩
  intro V w9 hbR hfR
  obtain ⟨f0, f1, f2, f3, f4, _⟩ := hfR
  replace f0 : V 0 = .agg #[.slice ua1 u.ls.length uc1] := f0
  replace f1 : V 1 = .agg #[.slice ua0 u.ls.length uc0] := f1
  replace f2 : (IsC u) (V 2) w9 := f2
  replace f3 : V 3 = .bool true := f3
  replace f4 : V 4 = .bool false := f4
  simp only [f0, f1, f3, f4]
  clear f0 f1 f3 f4
  have hb := hbR
  have z13 : Hid (w8.heap.size ≤ w9.heap.size) := hb.size
  replace hW := hW.trans (hb.mono hW.size)
  replace bt := bt.keep hb
  replace bu := bu.keep hb
  replace ht := Cl.at_keep (Keeps.all hb) ht
  replace hu := Cl.at_keep (Keeps.all hb) hu
  replace Br0 := Br0.keep hb
  replace hr := Sb.at_keep (Keeps.all hb) hr
  replace ot1 := D.own_keep _ _ _ (Keeps.all hb) ot1
  replace Bt1 := Bt1.keep hb
  replace ou1 := D.own_keep _ _ _ (Keeps.all hb) ou1
  replace Bu1 := Bu1.keep hb
  replace or1 := D.own_keep _ _ _ (Keeps.all hb) or1
  replace Br1 := Br1.keep hb
  clear ebt0 lbt ebu0 lbu eBr00 lBr0 eBt10 lBt1 eBu10 lBu1 eBr10 lBr1 hb hbR f2
  have ebt0 := bt.c0
  have lbt := bt.lt
  have ebu0 := bu.c0
  have lbu := bu.lt
  have eBr00 := Br0.c0
  have lBr0 := Br0.lt
  have eBt10 := Bt1.c0
  have lBt1 := Bt1.lt
  have eBu10 := Bu1.c0
  have lBu1 := Bu1.lt
  have eBr10 := Br1.c0
  have lBr1 := Br1.lt
  go_wp2_with fail
  obtain ⟨k0, Hk0⟩ : ∃ n : Nat, Hid (1 + c3 (litAs t.ls) = n) := ⟨_, hid rfl⟩
  have hq := markCl_any t.ls 1 (by have := c3_le_bulk t; have := c3_le_bulk u; have := Hk0.out; omega) ot1
  rw [Hk0.out] at hq
  rw [show ((1 : Nat) : Int) = 1 from rfl] at hq
  have nk0 : ¬ ((k0 : Nat) : Int) < 0 := by omega
  refine hq.mono ?_
  clear hq
  rintro e w10 ⟨rfl, hm, oM⟩
  clear ot1
  have z14 : Hid (w9.heap.size ≤ w10.heap.size) := hm.size
  replace hW := hW.trans (hm.2 _ hW.size (fun y hy => by have q1 := lt1 y hy; have := z0.out; have := z1.out; have := z2.out; have := z3.out; have := z4.out; have := z5.out; have := z6.out; have := z7.out; have := z8.out; have := z9.out; have := z10.out; have := z11.out; have := z12.out; have := z13.out; have := z14.out; omega))
  replace bt := bt.marked hm (fun q => by have q1 := lt1 _ q; have q2 := ut1 _ q; have := z0.out; have := z1.out; have := z2.out; have := z3.out; have := z4.out; have := z5.out; have := z6.out; have := z7.out; have := z8.out; have := z9.out; have := z10.out; have := z11.out; have := z12.out; have := z13.out; have := z14.out; omega)
  replace bu := bu.marked hm (fun q => by have q1 := lt1 _ q; have q2 := ut1 _ q; have := z0.out; have := z1.out; have := z2.out; have := z3.out; have := z4.out; have := z5.out; have := z6.out; have := z7.out; have := z8.out; have := z9.out; have := z10.out; have := z11.out; have := z12.out; have := z13.out; have := z14.out; omega)
  replace ht := Cl.at_keep (hm.lt (fun y q => by have q1 := lt1 y q; have := z0.out; have := z1.out; have := z2.out; have := z3.out; have := z4.out; have := z5.out; have := z6.out; have := z7.out; have := z8.out; have := z9.out; have := z10.out; have := z11.out; have := z12.out; have := z13.out; have := z14.out; omega)) ht
  replace hu := Cl.at_keep (hm.lt (fun y q => by have q1 := lt1 y q; have := z0.out; have := z1.out; have := z2.out; have := z3.out; have := z4.out; have := z5.out; have := z6.out; have := z7.out; have := z8.out; have := z9.out; have := z10.out; have := z11.out; have := z12.out; have := z13.out; have := z14.out; omega)) hu
  replace Br0 := Br0.marked hm (fun q => by have q1 := lt1 _ q; have q2 := ut1 _ q; have := z0.out; have := z1.out; have := z2.out; have := z3.out; have := z4.out; have := z5.out; have := z6.out; have := z7.out; have := z8.out; have := z9.out; have := z10.out; have := z11.out; have := z12.out; have := z13.out; have := z14.out; omega)
  replace hr := Sb.at_keep (hm.lt (fun y q => by have q1 := lt1 y q; have := z0.out; have := z1.out; have := z2.out; have := z3.out; have := z4.out; have := z5.out; have := z6.out; have := z7.out; have := z8.out; have := z9.out; have := z10.out; have := z11.out; have := z12.out; have := z13.out; have := z14.out; omega)) hr
  replace Bt1 := Bt1.marked hm (fun q => by have q1 := lt1 _ q; have q2 := ut1 _ q; have := z0.out; have := z1.out; have := z2.out; have := z3.out; have := z4.out; have := z5.out; have := z6.out; have := z7.out; have := z8.out; have := z9.out; have := z10.out; have := z11.out; have := z12.out; have := z13.out; have := z14.out; omega)
  replace ou1 := D.own_keep _ _ _ (hm.apart (fun y hy q => by have q1 := lt1 y q; have q2 := ut1 y q; have q3 := lu1 y hy; have q4 := uu1 y hy; have := z0.out; have := z1.out; have := z2.out; have := z3.out; have := z4.out; have := z5.out; have := z6.out; have := z7.out; have := z8.out; have := z9.out; have := z10.out; have := z11.out; have := z12.out; have := z13.out; have := z14.out; omega)) ou1
  replace Bu1 := Bu1.marked hm (fun q => by have q1 := lt1 _ q; have q2 := ut1 _ q; have := z0.out; have := z1.out; have := z2.out; have := z3.out; have := z4.out; have := z5.out; have := z6.out; have := z7.out; have := z8.out; have := z9.out; have := z10.out; have := z11.out; have := z12.out; have := z13.out; have := z14.out; omega)
  replace or1 := D.own_keep _ _ _ (hm.apart (fun y hy q => by have q1 := lt1 y q; have q2 := ut1 y q; have q3 := lr1 y hy; have q4 := ur1 y hy; have := z0.out; have := z1.out; have := z2.out; have := z3.out; have := z4.out; have := z5.out; have := z6.out; have := z7.out; have := z8.out; have := z9.out; have := z10.out; have := z11.out; have := z12.out; have := z13.out; have := z14.out; omega)) or1
  replace Br1 := Br1.marked hm (fun q => by have q1 := lt1 _ q; have q2 := ut1 _ q; have := z0.out; have := z1.out; have := z2.out; have := z3.out; have := z4.out; have := z5.out; have := z6.out; have := z7.out; have := z8.out; have := z9.out; have := z10.out; have := z11.out; have := z12.out; have := z13.out; have := z14.out; omega)
  clear ebt0 lbt ebu0 lbu eBr00 lBr0 eBt10 lBt1 eBu10 lBu1 eBr10 lBr1 hm
  clear oM lt1 ut1
  have ebt0 := bt.c0
  have lbt := bt.lt
  have ebu0 := bu.c0
  have lbu := bu.lt
  have eBr00 := Br0.c0
  have lBr0 := Br0.lt
  have eBt10 := Bt1.c0
  have lBt1 := Bt1.lt
  have eBu10 := Bu1.c0
  have lBu1 := Bu1.lt
  have eBr10 := Br1.c0
  have lBr1 := Br1.lt
  go_wp2_with fail
  obtain ⟨k1, Hk1⟩ : ∃ n : Nat, Hid (k0 + c3 (litAs u.ls) = n) := ⟨_, hid rfl⟩
  have hq := markCl_any u.ls k0 (by have := c3_le_bulk t; have := c3_le_bulk u; have := Hk0.out; have := Hk1.out; omega) ou1
  rw [Hk1.out] at hq
  have nk1 : ¬ ((k1 : Nat) : Int) < 0 := by omega
  refine hq.mono ?_
  clear hq
  rintro e w11 ⟨rfl, hm, oM⟩
  clear ou1
  have z15 : Hid (w10.heap.size ≤ w11.heap.size) := hm.size
  replace hW := hW.trans (hm.2 _ hW.size (fun y hy => by have q1 := lu1 y hy; have := z0.out; have := z1.out; have := z2.out; have := z3.out; have := z4.out; have := z5.out; have := z6.out; have := z7.out; have := z8.out; have := z9.out; have := z10.out; have := z11.out; have := z12.out; have := z13.out; have := z14.out; have := z15.out; omega))
  replace bt := bt.marked hm (fun q => by have q1 := lu1 _ q; have q2 := uu1 _ q; have := z0.out; have := z1.out; have := z2.out; have := z3.out; have := z4.out; have := z5.out; have := z6.out; have := z7.out; have := z8.out; have := z9.out; have := z10.out; have := z11.out; have := z12.out; have := z13.out; have := z14.out; have := z15.out; omega)
  replace bu := bu.marked hm (fun q => by have q1 := lu1 _ q; have q2 := uu1 _ q; have := z0.out; have := z1.out; have := z2.out; have := z3.out; have := z4.out; have := z5.out; have := z6.out; have := z7.out; have := z8.out; have := z9.out; have := z10.out; have := z11.out; have := z12.out; have := z13.out; have := z14.out; have := z15.out; omega)
  replace ht := Cl.at_keep (hm.lt (fun y q => by have q1 := lu1 y q; have := z0.out; have := z1.out; have := z2.out; have := z3.out; have := z4.out; have := z5.out; have := z6.out; have := z7.out; have := z8.out; have := z9.out; have := z10.out; have := z11.out; have := z12.out; have := z13.out; have := z14.out; have := z15.out; omega)) ht
  replace hu := Cl.at_keep (hm.lt (fun y q => by have q1 := lu1 y q; have := z0.out; have := z1.out; have := z2.out; have := z3.out; have := z4.out; have := z5.out; have := z6.out; have := z7.out; have := z8.out; have := z9.out; have := z10.out; have := z11.out; have := z12.out; have := z13.out; have := z14.out; have := z15.out; omega)) hu
  replace Br0 := Br0.marked hm (fun q => by have q1 := lu1 _ q; have q2 := uu1 _ q; have := z0.out; have := z1.out; have := z2.out; have := z3.out; have := z4.out; have := z5.out; have := z6.out; have := z7.out; have := z8.out; have := z9.out; have := z10.out; have := z11.out; have := z12.out; have := z13.out; have := z14.out; have := z15.out; omega)
  replace hr := Sb.at_keep (hm.lt (fun y q => by have q1 := lu1 y q; have := z0.out; have := z1.out; have := z2.out; have := z3.out; have := z4.out; have := z5.out; have := z6.out; have := z7.out; have := z8.out; have := z9.out; have := z10.out; have := z11.out; have := z12.out; have := z13.out; have := z14.out; have := z15.out; omega)) hr
  replace Bt1 := Bt1.marked hm (fun q => by have q1 := lu1 _ q; have q2 := uu1 _ q; have := z0.out; have := z1.out; have := z2.out; have := z3.out; have := z4.out; have := z5.out; have := z6.out; have := z7.out; have := z8.out; have := z9.out; have := z10.out; have := z11.out; have := z12.out; have := z13.out; have := z14.out; have := z15.out; omega)
  replace Bu1 := Bu1.marked hm (fun q => by have q1 := lu1 _ q; have q2 := uu1 _ q; have := z0.out; have := z1.out; have := z2.out; have := z3.out; have := z4.out; have := z5.out; have := z6.out; have := z7.out; have := z8.out; have := z9.out; have := z10.out; have := z11.out; have := z12.out; have := z13.out; have := z14.out; have := z15.out; omega)
  replace or1 := D.own_keep _ _ _ (hm.apart (fun y hy q => by have q1 := lu1 y q; have q2 := uu1 y q; have q3 := lr1 y hy; have q4 := ur1 y hy; have := z0.out; have := z1.out; have := z2.out; have := z3.out; have := z4.out; have := z5.out; have := z6.out; have := z7.out; have := z8.out; have := z9.out; have := z10.out; have := z11.out; have := z12.out; have := z13.out; have := z14.out; have := z15.out; omega)) or1
  replace Br1 := Br1.marked hm (fun q => by have q1 := lu1 _ q; have q2 := uu1 _ q; have := z0.out; have := z1.out; have := z2.out; have := z3.out; have := z4.out; have := z5.out; have := z6.out; have := z7.out; have := z8.out; have := z9.out; have := z10.out; have := z11.out; have := z12.out; have := z13.out; have := z14.out; have := z15.out; omega)
  clear ebt0 lbt ebu0 lbu eBr00 lBr0 eBt10 lBt1 eBu10 lBu1 eBr10 lBr1 hm
  clear oM lu1 uu1
  have ebt0 := bt.c0
  have lbt := bt.lt
  have ebu0 := bu.c0
  have lbu := bu.lt
  have eBr00 := Br0.c0
  have lBr0 := Br0.lt
  have eBt10 := Bt1.c0
  have lBt1 := Bt1.lt
  have eBu10 := Bu1.c0
  have lBu1 := Bu1.lt
  have eBr10 := Br1.c0
  have lBr1 := Br1.lt
  go_wp2_with fail
  refine (eqSb_refl (Sb.at_of or1) (Sb.at_all hr)).mono ?_
  rintro e w12 ⟨_, rfl, hb, rfl⟩
  have z16 : Hid (w11.heap.size ≤ w12.heap.size) := hb.size
  replace hW := hW.trans (hb.mono hW.size)
  replace bt := bt.keep hb
  replace bu := bu.keep hb
  replace ht := Cl.at_keep (Keeps.all hb) ht
  replace hu := Cl.at_keep (Keeps.all hb) hu
  replace Br0 := Br0.keep hb
  replace hr := Sb.at_keep (Keeps.all hb) hr
  replace Bt1 := Bt1.keep hb
  replace Bu1 := Bu1.keep hb
  replace or1 := D.own_keep _ _ _ (Keeps.all hb) or1
  replace Br1 := Br1.keep hb
  clear ebt0 lbt ebu0 lbu eBr00 lBr0 eBt10 lBt1 eBu10 lBu1 eBr10 lBr1 hb
  have ebt0 := bt.c0
  have lbt := bt.lt
  have ebu0 := bu.c0
  have lbu := bu.lt
  have eBr00 := Br0.c0
  have lBr0 := Br0.lt
  have eBt10 := Bt1.c0
  have lBt1 := Bt1.lt
  have eBu10 := Bu1.c0
  have lBu1 := Bu1.lt
  have eBr10 := Br1.c0
  have lBr1 := Br1.lt
  go_wp2_with fail
  have hq := markSb_any r.bs 1 hcr or1
  rw [Hrm.out] at hq
  rw [show ((1 : Nat) : Int) = 1 from rfl] at hq
  refine hq.mono ?_
  clear hq
  rintro e w13 ⟨rfl, hm, oM⟩
  clear or1
  have z17 : Hid (w12.heap.size ≤ w13.heap.size) := hm.size
  replace hW := hW.trans (hm.2 _ hW.size (fun y hy => by have q1 := lr1 y hy; have := z0.out; have := z1.out; have := z2.out; have := z3.out; have := z4.out; have := z5.out; have := z6.out; have := z7.out; have := z8.out; have := z9.out; have := z10.out; have := z11.out; have := z12.out; have := z13.out; have := z14.out; have := z15.out; have := z16.out; have := z17.out; omega))
  replace bt := bt.marked hm (fun q => by have q1 := lr1 _ q; have q2 := ur1 _ q; have := z0.out; have := z1.out; have := z2.out; have := z3.out; have := z4.out; have := z5.out; have := z6.out; have := z7.out; have := z8.out; have := z9.out; have := z10.out; have := z11.out; have := z12.out; have := z13.out; have := z14.out; have := z15.out; have := z16.out; have := z17.out; omega)
  replace bu := bu.marked hm (fun q => by have q1 := lr1 _ q; have q2 := ur1 _ q; have := z0.out; have := z1.out; have := z2.out; have := z3.out; have := z4.out; have := z5.out; have := z6.out; have := z7.out; have := z8.out; have := z9.out; have := z10.out; have := z11.out; have := z12.out; have := z13.out; have := z14.out; have := z15.out; have := z16.out; have := z17.out; omega)
  replace ht := Cl.at_keep (hm.lt (fun y q => by have q1 := lr1 y q; have := z0.out; have := z1.out; have := z2.out; have := z3.out; have := z4.out; have := z5.out; have := z6.out; have := z7.out; have := z8.out; have := z9.out; have := z10.out; have := z11.out; have := z12.out; have := z13.out; have := z14.out; have := z15.out; have := z16.out; have := z17.out; omega)) ht
  replace hu := Cl.at_keep (hm.lt (fun y q => by have q1 := lr1 y q; have := z0.out; have := z1.out; have := z2.out; have := z3.out; have := z4.out; have := z5.out; have := z6.out; have := z7.out; have := z8.out; have := z9.out; have := z10.out; have := z11.out; have := z12.out; have := z13.out; have := z14.out; have := z15.out; have := z16.out; have := z17.out; omega)) hu
  replace Br0 := Br0.marked hm (fun q => by have q1 := lr1 _ q; have q2 := ur1 _ q; have := z0.out; have := z1.out; have := z2.out; have := z3.out; have := z4.out; have := z5.out; have := z6.out; have := z7.out; have := z8.out; have := z9.out; have := z10.out; have := z11.out; have := z12.out; have := z13.out; have := z14.out; have := z15.out; have := z16.out; have := z17.out; omega)
  replace hr := Sb.at_keep (hm.lt (fun y q => by have q1 := lr1 y q; have := z0.out; have := z1.out; have := z2.out; have := z3.out; have := z4.out; have := z5.out; have := z6.out; have := z7.out; have := z8.out; have := z9.out; have := z10.out; have := z11.out; have := z12.out; have := z13.out; have := z14.out; have := z15.out; have := z16.out; have := z17.out; omega)) hr
  replace Bt1 := Bt1.marked hm (fun q => by have q1 := lr1 _ q; have q2 := ur1 _ q; have := z0.out; have := z1.out; have := z2.out; have := z3.out; have := z4.out; have := z5.out; have := z6.out; have := z7.out; have := z8.out; have := z9.out; have := z10.out; have := z11.out; have := z12.out; have := z13.out; have := z14.out; have := z15.out; have := z16.out; have := z17.out; omega)
  replace Bu1 := Bu1.marked hm (fun q => by have q1 := lr1 _ q; have q2 := ur1 _ q; have := z0.out; have := z1.out; have := z2.out; have := z3.out; have := z4.out; have := z5.out; have := z6.out; have := z7.out; have := z8.out; have := z9.out; have := z10.out; have := z11.out; have := z12.out; have := z13.out; have := z14.out; have := z15.out; have := z16.out; have := z17.out; omega)
  replace Br1 := Br1.marked hm (fun q => by have q1 := lr1 _ q; have q2 := ur1 _ q; have := z0.out; have := z1.out; have := z2.out; have := z3.out; have := z4.out; have := z5.out; have := z6.out; have := z7.out; have := z8.out; have := z9.out; have := z10.out; have := z11.out; have := z12.out; have := z13.out; have := z14.out; have := z15.out; have := z16.out; have := z17.out; omega)
  clear ebt0 lbt ebu0 lbu eBr00 lBr0 eBt10 lBt1 eBu10 lBu1 eBr10 lBr1 hm
  have oM0 := oM
  clear oM
  have ebt0 := bt.c0
  have lbt := bt.lt
  have ebu0 := bu.c0
  have lbu := bu.lt
  have eBr00 := Br0.c0
  have lBr0 := Br0.lt
  have eBt10 := Bt1.c0
  have lBt1 := Bt1.lt
  have eBu10 := Bu1.c0
  have lBu1 := Bu1.lt
  have eBr10 := Br1.c0
  have lBr1 := Br1.lt
  go_wp2_with fail
  have hq := heldSb_any r.bs 1 hcr (D.own_rd _ _ _ oM0)
  rw [Hrm.out] at hq
  rw [show ((1 : Nat) : Int) = 1 from rfl] at hq
  refine hq.mono ?_
  clear hq
  rintro e w14 ⟨_, rfl, hb, rfl⟩
  have z18 : Hid (w13.heap.size ≤ w14.heap.size) := hb.size
  replace hW := hW.trans (hb.mono hW.size)
  replace bt := bt.keep hb
  replace bu := bu.keep hb
  replace ht := Cl.at_keep (Keeps.all hb) ht
  replace hu := Cl.at_keep (Keeps.all hb) hu
  replace Br0 := Br0.keep hb
  replace hr := Sb.at_keep (Keeps.all hb) hr
  replace Bt1 := Bt1.keep hb
  replace Bu1 := Bu1.keep hb
  replace Br1 := Br1.keep hb
  replace oM0 := D.own_keep _ _ _ (Keeps.all hb) oM0
  clear ebt0 lbt ebu0 lbu eBr00 lBr0 eBt10 lBt1 eBu10 lBu1 eBr10 lBr1 hb
  have ebt0 := bt.c0
  have lbt := bt.lt
  have ebu0 := bu.c0
  have lbu := bu.lt
  have eBr00 := Br0.c0
  have lBr0 := Br0.lt
  have eBt10 := Bt1.c0
  have lBt1 := Bt1.lt
  have eBu10 := Bu1.c0
  have lBu1 := Bu1.lt
  have eBr10 := Br1.c0
  have lBr1 := Br1.lt
  go_wp2_with fail
  go_cut [15, 16] from 17 (fun v8 v9 wc => ZEndS w14 r ok v8 v9 wc)
  case first =>
    have HMK : Hid (∀ w', Below w14.heap.size w14 w' → (w'.cell? ⟨w.heap.size, 0, none⟩ = some (.slice ta0 t.ls.length tc0) ∧ w'.cell? ⟨w.heap.size + 1, 0, none⟩ = some (.slice ua0 u.ls.length uc0) ∧ Below w14.heap.size w14 w')) := fun w' h => ⟨(bt.keep h).c0, (bu.keep h).c0, h⟩
    have HEX : Hid (∀ w', (w'.cell? ⟨w.heap.size, 0, none⟩ = some (.slice ta0 t.ls.length tc0) ∧ w'.cell? ⟨w.heap.size + 1, 0, none⟩ = some (.slice ua0 u.ls.length uc0) ∧ Below w14.heap.size w14 w') → Below w14.heap.size w14 w') := fun _ h => h.2.2
    have HSP : Hid (∀ (w' : World) (q0 q1 : Value), Below w14.heap.size w14 w' → Cl.at (fun _ => True) w' (q0) t → Cl.at (fun _ => True) w' (q1) u → Calls Tryz.prog 17 #[.agg #[q0], .agg #[q1]] w' (OutD (fun v => .agg #[v]) (Bnd.sd r.bs) ok w')) := fun w' _ _ hWW h0 h1 => by
      have hq := impl_Subsumes h0 hbt h1 hbu
      rw [Hr.out, Hok.out] at hq
      exact hq
    go_region_held3 (fun w' => w'.cell? ⟨w.heap.size, 0, none⟩ = some (.slice ta0 t.ls.length tc0) ∧ w'.cell? ⟨w.heap.size + 1, 0, none⟩ = some (.slice ua0 u.ls.length uc0) ∧ Below w14.heap.size w14 w')
      (first | assumption | exact HMK.out _ (Below.refl _ _).drew | exact HMK.out _ ((Below.refl _ _).alloc (Nat.le_refl _) _).drew | exact HMK.out _ (Below.refl _ _) | exact HMK.out _ (Below.alloc (HEX.out _ (by assumption)) (HEX.out _ (by assumption)).size _) | exact HMK.out _ (Below.setCell (HEX.out _ (by assumption)) (by dsimp only; omega) _) | exact HMK.out _ (Below.setCell (Below.setCell (HEX.out _ (by assumption)) (by dsimp only; omega) _) (by dsimp only; omega) _))
      (first
        | (have _q := f1; go_at_call 16; refine (toCl_is (Cl.at_keep (Keeps.all (HEX.out _ (by assumption))) hu) hbu).mono ?_; rintro e x2 ⟨_, rfl, hx2, g2⟩; obtain ⟨ua7, uc7, rfl, f2⟩ := IsC.form g2; clear g2; have hB2 : Below w14.heap.size w14 x2 := Below.trans (HEX.out _ (by assumption)) (hx2.mono (HEX.out _ (by assumption)).size); have zz2 := hB2.size; have hS2 := HMK.out _ hB2; (first | (replace zb := ZBoxS.keep zb hx2) | (have zb := ZBoxS.keep (ZBoxS.new _) hx2) | (have zb := ZBoxS.keep ((ZBoxS.new w14).keep (Below.refl _ _).drew) hx2) | skip); replace f1 := Cl.at_keep (Keeps.all hx2) (by first | exact f1 | exact Cl.at_keep (Keeps.all ((Below.refl _ _).alloc (Nat.le_refl _) _)) f1))
        | (go_at_call 16; refine (toCl_is (Cl.at_keep (Keeps.all (HEX.out _ (by assumption))) ht) hbt).mono ?_; rintro e x1 ⟨_, rfl, hx1, g1⟩; obtain ⟨ta7, tc7, rfl, f1⟩ := IsC.form g1; clear g1; have hB1 : Below w14.heap.size w14 x1 := Below.trans (HEX.out _ (by assumption)) (hx1.mono (HEX.out _ (by assumption)).size); have zz1 := hB1.size; have hS1 := HMK.out _ hB1; (first | (replace zb := ZBoxS.keep zb hx1) | (have zb := ZBoxS.keep (ZBoxS.new _) hx1) | (have zb := ZBoxS.keep ((ZBoxS.new w14).keep (Below.refl _ _).drew) hx1) | skip))
        | (go_at_call 17; refine (HSP.out _ _ _ (HEX.out _ (by assumption)) (by first | exact f1 | exact Cl.at_keep (Keeps.all ((Below.refl _ _).alloc (Nat.le_refl _) _)) f1) (by first | exact f2 | exact Cl.at_keep (Keeps.all ((Below.refl _ _).alloc (Nat.le_refl _) _)) f2)).mono ?_; rintro e x3 ⟨_, Fr, rfl, oR, hFr, hx3⟩; (first | (have hnb := ZBoxS.notin zb hFr) | skip); obtain ⟨ra7, rc7, rfl⟩ := Bnd.sd_own_form oR; have hB3 : Below w14.heap.size w14 x3 := Below.trans (HEX.out _ (by assumption)) (hx3.mono (HEX.out _ (by assumption)).size); have zz3 := hB3.size; have hS3 := HMK.out _ hB3; (first | (replace zb := ZBoxS.keep zb hx3) | (have zb := ZBoxS.keep (ZBoxS.new _) hx3) | (have zb := ZBoxS.keep ((ZBoxS.new w14).keep (Below.refl _ _).drew) hx3) | skip); (first | (obtain ⟨zl, z0, zf0⟩ := zb) | skip)))
    all_goals
      go_wp2_with fail
      go_meet
      case rel =>
        first
          | (have _q := zl; exact ZEndS.filled ⟨zl, z0, zf0⟩ hB3 (by omega) oR (by first | exact hnb | (intro q; have q1 := hFr _ q; simp only [World.size_alloc] at q1; omega)))
          | exact ZEndS.last hB3 oR
  obtain ⟨bBh2, ra2, rc2, rfl, rfl, z19, Bh2, hr2, hb⟩ := hcut
  replace Bh2 := Bh2.out
  replace hr2 := hr2.out
  obtain ⟨w15, rfl⟩ : ∃ x, x = wc := ⟨_, rfl⟩
  have z20 : Hid (w14.heap.size ≤ w15.heap.size) := hb.size
  replace hW := hW.trans (hb.mono hW.size)
  replace bt := bt.keep hb
  replace bu := bu.keep hb
  replace ht := Cl.at_keep (Keeps.all hb) ht
  replace hu := Cl.at_keep (Keeps.all hb) hu
  replace Br0 := Br0.keep hb
  replace hr := Sb.at_keep (Keeps.all hb) hr
  replace Bt1 := Bt1.keep hb
  replace Bu1 := Bu1.keep hb
  replace Br1 := Br1.keep hb
  replace oM0 := D.own_keep _ _ _ (Keeps.all hb) oM0
  clear ebt0 lbt ebu0 lbu eBr00 lBr0 eBt10 lBt1 eBu10 lBu1 eBr10 lBr1 hb
  have ebt0 := bt.c0
  have lbt := bt.lt
  have ebu0 := bu.c0
  have lbu := bu.lt
  have eBr00 := Br0.c0
  have lBr0 := Br0.lt
  have eBt10 := Bt1.c0
  have lBt1 := Bt1.lt
  have eBu10 := Bu1.c0
  have lBu1 := Bu1.lt
  have eBr10 := Br1.c0
  have lBr1 := Br1.lt
  have eBh20 := Bh2.c0
  have lBh2 := Bh2.lt
  go_wp2_with fail
  refine (eqSb_refl (Sb.at_all hr2) (Sb.at_all hr)).mono ?_
  rintro e w16 ⟨_, rfl, hb, rfl⟩
  have z21 : Hid (w15.heap.size ≤ w16.heap.size) := hb.size
  replace hW := hW.trans (hb.mono hW.size)
  replace bt := bt.keep hb
  replace bu := bu.keep hb
  replace ht := Cl.at_keep (Keeps.all hb) ht
  replace hu := Cl.at_keep (Keeps.all hb) hu
  replace Br0 := Br0.keep hb
  replace hr := Sb.at_keep (Keeps.all hb) hr
  replace Bt1 := Bt1.keep hb
  replace Bu1 := Bu1.keep hb
  replace Br1 := Br1.keep hb
  replace oM0 := D.own_keep _ _ _ (Keeps.all hb) oM0
  replace Bh2 := Bh2.keep hb
  replace hr2 := Sb.at_keep (Keeps.all hb) hr2
  clear ebt0 lbt ebu0 lbu eBr00 lBr0 eBt10 lBt1 eBu10 lBu1 eBr10 lBr1 eBh20 lBh2 hb
  have ebt0 := bt.c0
  have lbt := bt.lt
  have ebu0 := bu.c0
  have lbu := bu.lt
  have eBr00 := Br0.c0
  have lBr0 := Br0.lt
  have eBt10 := Bt1.c0
  have lBt1 := Bt1.lt
  have eBu10 := Bu1.c0
  have lBu1 := Bu1.lt
  have eBr10 := Br1.c0
  have lBr1 := Br1.lt
  have eBh20 := Bh2.c0
  have lBh2 := Bh2.lt
  go_wp2_with fail
  have hq := heldSb_any r.bs 1 hcr (D.own_rd _ _ _ oM0)
  rw [Hrm.out] at hq
  rw [show ((1 : Nat) : Int) = 1 from rfl] at hq
  refine hq.mono ?_
  clear hq
  rintro e w17 ⟨_, rfl, hb, rfl⟩
  have z22 : Hid (w16.heap.size ≤ w17.heap.size) := hb.size
  replace hW := hW.trans (hb.mono hW.size)
  replace bt := bt.keep hb
  replace bu := bu.keep hb
  replace ht := Cl.at_keep (Keeps.all hb) ht
  replace hu := Cl.at_keep (Keeps.all hb) hu
  replace Br0 := Br0.keep hb
  replace hr := Sb.at_keep (Keeps.all hb) hr
  replace Bt1 := Bt1.keep hb
  replace Bu1 := Bu1.keep hb
  replace Br1 := Br1.keep hb
  replace oM0 := D.own_keep _ _ _ (Keeps.all hb) oM0
  replace Bh2 := Bh2.keep hb
  replace hr2 := Sb.at_keep (Keeps.all hb) hr2
  clear ebt0 lbt ebu0 lbu eBr00 lBr0 eBt10 lBt1 eBu10 lBu1 eBr10 lBr1 eBh20 lBh2 hb
  have ebt0 := bt.c0
  have lbt := bt.lt
  have ebu0 := bu.c0
  have lbu := bu.lt
  have eBr00 := Br0.c0
  have lBr0 := Br0.lt
  have eBt10 := Bt1.c0
  have lBt1 := Bt1.lt
  have eBu10 := Bu1.c0
  have lBu1 := Bu1.lt
  have eBr10 := Br1.c0
  have lBr1 := Br1.lt
  have eBh20 := Bh2.c0
  have lBh2 := Bh2.lt
  go_wp2_with fail
  go_ret
  exact ⟨rfl, hW⟩

/-! the row -/
set_option maxRecDepth 100000 in
theorem lifted (os : Os) (started : os.Started) (H : Type) (enc : TypeId × Value → H) :
    ReturnsInHanded {} Tryz.checked os 4 .any (Rows.fnExactSubsumesSpec.pre6 enc Tryz.prog Tryz.f4 Rows.fnExactSubsumesRow.domain false) (Rows.fnExactSubsumesSpec.post enc Tryz.prog Tryz.f4 false true false false) := by
  refine returnsInHanded_of_change (C := Tryz.checked) own started (by kernel_rfl) Tryz.func4
    (ChangeSpec.witness6 (enc := enc) (C := Tryz.checked) false ⟨#[], #[.agg #[.slice none 0 0], .agg #[.slice none 0 0]], []⟩ 8 (by kernel_rfl) (by kernel_rfl) (by kernel_rfl) (by kernel_rfl)) ?_
  intro W base args ds gs before hval0 hW _ _
  have hval : ∀ (j : Nat) t v, Tryz.f4.params[j]? = some t → args[j]? = some v → Value.okWide Tryz.prog W .any base t v := hval0
  have hW' := hW
  obtain ⟨p, q, hA0, hV, rfl, hfz, hnd⟩ := hW
  have hA : DataW.TrodAll enc Tryz.prog W 0 (fun _ => true) true Tryz.f4.params.toList args.toList ds p := hA0
  rw [Tryz.params4] at hA hval
  obtain ⟨v0, vs0, d0, ds0, p0, q0, hargs, rfl, rfl, h0, r0⟩ := trodAll_cons hA
  obtain ⟨v1, vs1, d1, ds1, p1, q1, rfl, rfl, rfl, h1, r1⟩ := trodAll_cons r0
  obtain ⟨rfl, rfl, rfl⟩ := trodAll_nil r1
  obtain rfl : args = #[v0, v1] := by cases args; simp_all
  obtain ⟨rfl, rfl⟩ := trodVars_none hV
  have k0 := h0
  have k1 := h1
  obtain ⟨t0, t, rfl, ht⟩ := open_Clause (hval 0 36 v0 rfl rfl) h0
  obtain ⟨u0, u, rfl, hu⟩ := open_Clause (hval 1 36 v1 rfl rfl) h1
  clear hA0 hval0
  simp only [List.append_nil] at hW'
  have hlt0 : ∀ x ∈ p0, x.block < W.heap.size := fun x hx => hW'.lt x (by simp [hx])
  have hlt1 : ∀ x ∈ p1, x.block < W.heap.size := fun x hx => hW'.lt x (by simp [hx])
  refine (walk t0 t ht u0 u hu).mono fun e W' ⟨he, hb⟩ => ?_
  subst he
  exact ⟨_, rfl, [d0, d1], [], _, [], p0 ++ (p1 ++ []), [], by simpa using hW', trodAll_cons_mk (shut_bool Tryz.underlying4 _) trodAll_mk0, (trodAll_cons_mk (Below.trod laidOut (by kernel_rfl) (of_decide_eq_true (by kernel_rfl)) k0 hb hlt0) (trodAll_cons_mk (Below.trod laidOut (by kernel_rfl) (of_decide_eq_true (by kernel_rfl)) k1 hb hlt1) trodAll_mk0)), rfl, hb.frame _, fun h => by cases h⟩

theorem over : Rows.fnExactSubsumesRow.holds Tryz.pinned (OpenSpec.ofChange Rows.fnExactSubsumesSpec) :=
  OpenClaim.holds_of_wide 4 Tryz.f4 rfl rfl rfl rfl rfl rfl rfl ⟨rfl, rfl, rfl, rfl, rfl⟩ rfl rfl rfl rfl rfl (by kernel_rfl) Tryz.func4 (by kernel_rfl)
    (of_decide_eq_true (by kernel_rfl)) (by unfold Func.isWrapper; first | (rw [if_pos (by decide +kernel)]; kernel_rfl) | (rw [if_neg (by decide +kernel)]; exact ⟨rfl, rfl⟩))
    (fun os started H enc _ => lifted os started H enc)

theorem proved : Rows.FnExactSubsumesSaid :=
  over
#print axioms proved
end Go.Proofs.YtglhbaigigdeeaaGreat.fnExactSubsumes
