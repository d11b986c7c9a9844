/- For every input the law FnExactNormalizeClause returns true, and the argument reads behind the call as it read before it: the tied card. Conditions: the package-level variables that the row lists start as the program's text lays them. -/
import Derived.Test.YtooocakkjdhfiaaGreatDoorRows
import Derived.Test.YtooocakkjdhfiaaGreatDoorCards
import Derived.Test.YtooocakkjdhfiaaGreatDoorTie
import Derived.Test.YtooocakkjdhfiaaGreatDoorQ01
import Derived.Test.YtooocakkjdhfiaaGreatDoorQ02
import Derived.Test.YtooocakkjdhfiaaGreatDoorQ05
import Derived.Test.YtooocakkjdhfiaaGreatDoorQ04
import Derived.Test.YtooocakkjdhfiaaGreatDoorQ21
import Derived.OpenShut
namespace Go.Proofs.YtooocakkjdhfiaaGreatDoor.fnExactNormalizeClause
set_option maxRecDepth 100000
open Go Go.ChangeShapes Go.WideShapes Go.ChangeAt Go.RowKit

def Fact (w : World) : Prop := TabF w
theorem fact_of_laid {W : World} (h : laidMetH Tryz.prog Rows.fnExactNormalizeClauseRow.laid W) (_ : W.ShapedOpen Tryz.prog) : Fact W := tab_of (laidMetH_iff.1 h).1 rfl
theorem laidWorld_met (os : Os) (args : Array Value) : laidMetH Tryz.prog Rows.fnExactNormalizeClauseRow.laid ((laidWorld os).forCall (fun _ _ => 0) ⟨#[], args, []⟩).memory :=
  laidMetH_of_parts (laidMet_of_run' 8 (by kernel_rfl) (by kernel_rfl)) (by kernel_rfl)
set_option maxHeartbeats 4000000 in
theorem walk {w : World} (hF : Fact w) (t0 : Value) (t : Cl) (ht : Cl.at (fun _ => True) w t0 t) :
    Calls Tryz.prog 4 #[.agg #[t0]] w fun e w' => e = .returned (.bool true) ∧ Below w.heap.size w w' := by
  obtain ⟨ta0, tc0, rfl⟩ := Cl.at_form ht
  obtain ⟨r, Hr⟩ : ∃ r, Hid (normR t = r) := ⟨_, hid rfl⟩
  obtain ⟨ok, Hok⟩ : ∃ ok : Bool, Hid (normOk t = ok) := ⟨_, hid rfl⟩
  have hW : Below w.heap.size w (w.alloc (.cells #[.slice ta0 t.ls.length tc0] 24)) := (Below.refl _ _).alloc (Nat.le_refl _) _
  have bt : Box (w.alloc (.cells #[.slice ta0 t.ls.length tc0] 24)) (w.heap.size) [.slice ta0 t.ls.length tc0] := by
    have := (Box.new w [.slice ta0 t.ls.length tc0] 24)
    simpa only [World.size_alloc] using this
  replace ht := Cl.at_keep (Keeps.all hW) ht
  have z0 : Hid (w.heap.size + 1 ≤ (w.alloc (.cells #[.slice ta0 t.ls.length tc0] 24)).heap.size) := by simp [Hid]
  go_enter Tryz.func4, Tryz.ntmps4
  have ebt0 := bt.c0
  have lbt := bt.lt
  go_wp2_with fail
  generalize (w.alloc (.cells #[.slice ta0 t.ls.length tc0] 24)) = w0 at *
  refine (szCl_any t _ _ _ _ ht (by omega) (by omega)).mono ?_
  rintro e w1 ⟨rfl, hb⟩
  have z1 : Hid (w0.heap.size ≤ w1.heap.size) := hb.size
  replace hW := hW.trans (hb.mono hW.size)
  replace bt := bt.keep hb
  replace ht := Cl.at_keep (Keeps.all hb) ht
  clear ebt0 lbt hb
  by_cases hzt : (t.bulk : Int) ≤ 1048576
  rotate_left
  · rw [after_neg (by omega)]
    go_wp2_with fail
    go_ret
    exact ⟨rfl, hW⟩
  rw [after_pos hzt]
  have hbt : t.bulk ≤ 1048576 := by omega
  have ebt0 := bt.c0
  have lbt := bt.lt
  go_wp2_with fail
  have hbr : r.bulk ≤ 1048576 := by
    rw [← Hr.out]
    exact normR_bulk t
  have hcr : 1 + c3 (litAs r.ls) ≤ 1099511627776 := by
    have := c3_le_bulk r
    omega
  obtain ⟨rm, Hrm⟩ : ∃ n : Nat, Hid (1 + c3 (litAs r.ls) = n) := ⟨_, hid rfl⟩
  have hrm : ¬ ((rm : Nat) : Int) < 0 := by omega
  refine (toCl_any t _ _ _ ht hbt).mono ?_
  rintro e w2 ⟨_, Ft1, rfl, ot1, lt1, hb⟩
  have z2 : Hid (w1.heap.size ≤ w2.heap.size) := hb.size
  replace hW := hW.trans (hb.mono hW.size)
  replace bt := bt.keep hb
  replace ht := Cl.at_keep (Keeps.all hb) ht
  clear ebt0 lbt hb
  obtain ⟨ta1, tc1, rfl⟩ := Lit.sd_own_form ot1
  have ut1 := D.own_lt _ _ _ ot1
  have ebt0 := bt.c0
  have lbt := bt.lt
  go_wp2_with fail
  have hq := spec_NormalizeClause (Cl.at_of ot1) hbt
  rw [Hr.out, Hok.out] at hq
  refine hq.mono ?_
  clear hq
  rintro e w3 ⟨_, rfl, hr, hb⟩
  have z3 : Hid (w2.heap.size ≤ w3.heap.size) := hb.size
  replace hW := hW.trans (hb.mono hW.size)
  replace bt := bt.keep hb
  replace ht := Cl.at_keep (Keeps.all hb) ht
  replace ot1 := D.own_keep _ _ _ (Keeps.all hb) ot1
  clear ebt0 lbt hb
  obtain ⟨ra0, rc0, rfl, -, -⟩ := Lit.sd_form hr
  clear ot1
  clear lt1 ut1
  have hb : Below w3.heap.size w3 (w3.alloc (.cells #[.slice ra0 r.ls.length rc0] 28)) := (Below.refl _ _).alloc (Nat.le_refl _) _
  have Br0 : Box (w3.alloc (.cells #[.slice ra0 r.ls.length rc0] 28)) w3.heap.size [.slice ra0 r.ls.length rc0] := Box.new _ _ _
  have z4 : Hid (w3.heap.size + 1 ≤ (w3.alloc (.cells #[.slice ra0 r.ls.length rc0] 28)).heap.size) := by simp [Hid]
  replace hW := hW.trans (hb.mono hW.size)
  replace bt := bt.keep hb
  replace ht := Cl.at_keep (Keeps.all hb) ht
  replace hr := Cl.at_keep (Keeps.all hb) hr
  clear hb
  have ebt0 := bt.c0
  have lbt := bt.lt
  have eBr00 := Br0.c0
  have lBr0 := Br0.lt
  go_wp2_with fail
  generalize (w3.alloc (.cells #[.slice ra0 r.ls.length rc0] 28)) = w3b at *
  replace ht := Cl.at_lt ht
  replace hr := Cl.at_lt hr
  refine (toCl_any t _ _ _ ht hbt).mono ?_
  rintro e w4 ⟨_, Ft2, rfl, ot2, lt2, hb⟩
  have z5 : Hid (w3b.heap.size ≤ w4.heap.size) := hb.size
  replace hW := hW.trans (hb.mono hW.size)
  replace bt := bt.keep hb
  replace ht := Cl.at_keep (Keeps.all hb) ht
  replace hr := Cl.at_keep (Keeps.all hb) hr
  replace Br0 := Br0.keep hb
  clear ebt0 lbt eBr00 lBr0 hb
  obtain ⟨ta2, tc2, rfl⟩ := Lit.sd_own_form ot2
  have ut2 := D.own_lt _ _ _ ot2
  have hb : Below w4.heap.size w4 (w4.alloc (.cells #[.slice ta2 t.ls.length tc2] 28)) := (Below.refl _ _).alloc (Nat.le_refl _) _
  have Bt2 : Box (w4.alloc (.cells #[.slice ta2 t.ls.length tc2] 28)) w4.heap.size [.slice ta2 t.ls.length tc2] := Box.new _ _ _
  have z6 : Hid (w4.heap.size + 1 ≤ (w4.alloc (.cells #[.slice ta2 t.ls.length tc2] 28)).heap.size) := by simp [Hid]
  replace hW := hW.trans (hb.mono hW.size)
  replace bt := bt.keep hb
  replace ht := Cl.at_keep (Keeps.all hb) ht
  replace hr := Cl.at_keep (Keeps.all hb) hr
  replace Br0 := Br0.keep hb
  replace ot2 := D.own_keep _ _ _ (Keeps.all hb) ot2
  clear hb
  have ebt0 := bt.c0
  have lbt := bt.lt
  have eBr00 := Br0.c0
  have lBr0 := Br0.lt
  have eBt20 := Bt2.c0
  have lBt2 := Bt2.lt
  go_wp2_with fail
  generalize (w4.alloc (.cells #[.slice ta2 t.ls.length tc2] 28)) = w4b at *
  have hq := impl_NormalizeClause (Cl.at_of ot2) hbt (TabF.keep hF hW)
  rw [Hr.out, Hok.out] at hq
  refine hq.mono ?_
  clear hq
  rintro e w5 ⟨_, Fr1, rfl, or1, lr1, hb⟩
  have z7 : Hid (w4b.heap.size ≤ w5.heap.size) := hb.size
  replace hW := hW.trans (hb.mono hW.size)
  replace bt := bt.keep hb
  replace ht := Cl.at_keep (Keeps.all hb) ht
  replace hr := Cl.at_keep (Keeps.all hb) hr
  replace Br0 := Br0.keep hb
  replace ot2 := D.own_keep _ _ _ (Keeps.all hb) ot2
  replace Bt2 := Bt2.keep hb
  clear ebt0 lbt eBr00 lBr0 eBt20 lBt2 hb
  obtain ⟨ra1, rc1, rfl⟩ := Lit.sd_own_form or1
  have ur1 := D.own_lt _ _ _ or1
  have hb : Below w5.heap.size w5 (w5.alloc (.cells #[.slice ra1 r.ls.length rc1] 28)) := (Below.refl _ _).alloc (Nat.le_refl _) _
  have Br1 : Box (w5.alloc (.cells #[.slice ra1 r.ls.length rc1] 28)) w5.heap.size [.slice ra1 r.ls.length rc1] := Box.new _ _ _
  have z8 : Hid (w5.heap.size + 1 ≤ (w5.alloc (.cells #[.slice ra1 r.ls.length rc1] 28)).heap.size) := by simp [Hid]
  replace hW := hW.trans (hb.mono hW.size)
  replace bt := bt.keep hb
  replace ht := Cl.at_keep (Keeps.all hb) ht
  replace hr := Cl.at_keep (Keeps.all hb) hr
  replace Br0 := Br0.keep hb
  replace ot2 := D.own_keep _ _ _ (Keeps.all hb) ot2
  replace Bt2 := Bt2.keep hb
  replace or1 := D.own_keep _ _ _ (Keeps.all hb) or1
  clear hb
  have ebt0 := bt.c0
  have lbt := bt.lt
  have eBr00 := Br0.c0
  have lBr0 := Br0.lt
  have eBt20 := Bt2.c0
  have lBt2 := Bt2.lt
  have eBr10 := Br1.c0
  have lBr1 := Br1.lt
  go_wp2_with fail
  generalize (w5.alloc (.cells #[.slice ra1 r.ls.length rc1] 28)) = w5b at *
  refine (eqCl_refl (Cl.at_of or1) (Cl.at_all hr)).mono ?_
  rintro e w6 ⟨_, rfl, hb, rfl⟩
  have z9 : Hid (w5b.heap.size ≤ w6.heap.size) := hb.size
  replace hW := hW.trans (hb.mono hW.size)
  replace bt := bt.keep hb
  replace ht := Cl.at_keep (Keeps.all hb) ht
  replace hr := Cl.at_keep (Keeps.all hb) hr
  replace Br0 := Br0.keep hb
  replace ot2 := D.own_keep _ _ _ (Keeps.all hb) ot2
  replace Bt2 := Bt2.keep hb
  replace or1 := D.own_keep _ _ _ (Keeps.all hb) or1
  replace Br1 := Br1.keep hb
  clear ebt0 lbt eBr00 lBr0 eBt20 lBt2 eBr10 lBr1 hb
  have ebt0 := bt.c0
  have lbt := bt.lt
  have eBr00 := Br0.c0
  have lBr0 := Br0.lt
  have eBt20 := Bt2.c0
  have lBt2 := Bt2.lt
  have eBr10 := Br1.c0
  have lBr1 := Br1.lt
  go_wp2_with fail
  refine wp_region_B [fun v _ => v = .agg #[.slice ta2 t.ls.length tc2], fun v _ => v = .agg #[.slice ta0 t.ls.length tc0], IsC t, fun v _ => v = .bool true, fun v _ => v = .bool false] _ (fun V => by simp [putAll, Act.put]; rfl) (by kernel_rfl) (by decide) (by simp) (by kernel_rfl) ?_ ?_ ?_
  · intro F hF
    simp only [List.mem_cons, List.not_mem_nil, or_false] at hF
    rcases hF with rfl | rfl | rfl | rfl | rfl
    · exact stable_eq
    · exact stable_eq
    · exact IsC.stable
    · exact stable_eq
    · exact stable_eq
  · refine ⟨?_, ?_, ?_, ?_, ?_, trivial⟩
    · intro V w1 hbR _
      obtain ⟨hc, hf⟩ := bcell hbR
      try simp only [World.size_alloc, World.size_setCell] at hc hf
      unfold Does
      go_simp
      exact ⟨Below.refl _ _, rfl⟩
    · intro V w1 hbR _
      obtain ⟨hc, hf⟩ := bcell hbR
      try simp only [World.size_alloc, World.size_setCell] at hc hf
      unfold Does
      go_simp
      exact ⟨Below.refl _ _, rfl⟩
    · intro V w1 hbR ⟨f1, _⟩
      replace f1 : V 1 = .agg #[.slice ta0 t.ls.length tc0] := f1
      obtain ⟨hc, hf⟩ := bcell hbR
      try simp only [World.size_alloc, World.size_setCell] at hc hf
      unfold Does
      go_simp
      exact toCl_is (Cl.at_all (Cl.at_keep (Keeps.all hbR) ht)) hbt
    · intro V w1 hbR ⟨f0, f2, _, _⟩
      replace f0 : V 0 = .agg #[.slice ta2 t.ls.length tc2] := f0
      replace f2 : (IsC t) (V 2) w1 := f2
      obtain ⟨_, _, E2, g2⟩ := IsC.form f2
      obtain ⟨hc, hf⟩ := bcell hbR
      try simp only [World.size_alloc, World.size_setCell] at hc hf
      unfold Does
      go_simp
      exact eqCl_refl (Cl.at_of (D.own_keep _ _ _ (Keeps.all hbR) ot2)) g2
    · intro V w1 hbR ⟨f3, _⟩
      replace f3 : V 3 = .bool true := f3
      unfold Does
      go_simp
      exact ⟨Below.refl _ _, rfl⟩
  intro V w7 hbR hfR
  obtain ⟨f0, f1, f2, f3, f4, _⟩ := hfR
  replace f0 : V 0 = .agg #[.slice ta2 t.ls.length tc2] := f0
  replace f1 : V 1 = .agg #[.slice ta0 t.ls.length tc0] := f1
  replace f2 : (IsC t) (V 2) w7 := f2
  replace f3 : V 3 = .bool true := f3
  replace f4 : V 4 = .bool false := f4
  simp only [f0, f1, f3, f4]
  clear f0 f1 f3 f4
  have hb := hbR
  have z10 : Hid (w6.heap.size ≤ w7.heap.size) := hb.size
  replace hW := hW.trans (hb.mono hW.size)
  replace bt := bt.keep hb
  replace ht := Cl.at_keep (Keeps.all hb) ht
  replace hr := Cl.at_keep (Keeps.all hb) hr
  replace Br0 := Br0.keep hb
  replace ot2 := D.own_keep _ _ _ (Keeps.all hb) ot2
  replace Bt2 := Bt2.keep hb
  replace or1 := D.own_keep _ _ _ (Keeps.all hb) or1
  replace Br1 := Br1.keep hb
  clear ebt0 lbt eBr00 lBr0 eBt20 lBt2 eBr10 lBr1 hb hbR f2
  have ebt0 := bt.c0
  have lbt := bt.lt
  have eBr00 := Br0.c0
  have lBr0 := Br0.lt
  have eBt20 := Bt2.c0
  have lBt2 := Bt2.lt
  have eBr10 := Br1.c0
  have lBr1 := Br1.lt
  go_wp2_with fail
  obtain ⟨k0, Hk0⟩ : ∃ n : Nat, Hid (1 + c3 (litAs t.ls) = n) := ⟨_, hid rfl⟩
  have hq := markCl_any t.ls 1 (by have := c3_le_bulk t; have := Hk0.out; omega) ot2
  rw [Hk0.out] at hq
  rw [show ((1 : Nat) : Int) = 1 from rfl] at hq
  have nk0 : ¬ ((k0 : Nat) : Int) < 0 := by omega
  refine hq.mono ?_
  clear hq
  rintro e w8 ⟨rfl, hm, oM⟩
  clear ot2
  have z11 : Hid (w7.heap.size ≤ w8.heap.size) := hm.size
  replace hW := hW.trans (hm.2 _ hW.size (fun y hy => by have q1 := lt2 y hy; have := z0.out; have := z1.out; have := z2.out; have := z3.out; have := z4.out; have := z5.out; have := z6.out; have := z7.out; have := z8.out; have := z9.out; have := z10.out; have := z11.out; omega))
  replace bt := bt.marked hm (fun q => by have q1 := lt2 _ q; have q2 := ut2 _ q; have := z0.out; have := z1.out; have := z2.out; have := z3.out; have := z4.out; have := z5.out; have := z6.out; have := z7.out; have := z8.out; have := z9.out; have := z10.out; have := z11.out; omega)
  replace ht := Cl.at_keep (hm.lt (fun y q => by have q1 := lt2 y q; have := z0.out; have := z1.out; have := z2.out; have := z3.out; have := z4.out; have := z5.out; have := z6.out; have := z7.out; have := z8.out; have := z9.out; have := z10.out; have := z11.out; omega)) ht
  replace hr := Cl.at_keep (hm.lt (fun y q => by have q1 := lt2 y q; have := z0.out; have := z1.out; have := z2.out; have := z3.out; have := z4.out; have := z5.out; have := z6.out; have := z7.out; have := z8.out; have := z9.out; have := z10.out; have := z11.out; omega)) hr
  replace Br0 := Br0.marked hm (fun q => by have q1 := lt2 _ q; have q2 := ut2 _ q; have := z0.out; have := z1.out; have := z2.out; have := z3.out; have := z4.out; have := z5.out; have := z6.out; have := z7.out; have := z8.out; have := z9.out; have := z10.out; have := z11.out; omega)
  replace Bt2 := Bt2.marked hm (fun q => by have q1 := lt2 _ q; have q2 := ut2 _ q; have := z0.out; have := z1.out; have := z2.out; have := z3.out; have := z4.out; have := z5.out; have := z6.out; have := z7.out; have := z8.out; have := z9.out; have := z10.out; have := z11.out; omega)
  replace or1 := D.own_keep _ _ _ (hm.apart (fun y hy q => by have q1 := lt2 y q; have q2 := ut2 y q; have q3 := lr1 y hy; have q4 := ur1 y hy; have := z0.out; have := z1.out; have := z2.out; have := z3.out; have := z4.out; have := z5.out; have := z6.out; have := z7.out; have := z8.out; have := z9.out; have := z10.out; have := z11.out; omega)) or1
  replace Br1 := Br1.marked hm (fun q => by have q1 := lt2 _ q; have q2 := ut2 _ q; have := z0.out; have := z1.out; have := z2.out; have := z3.out; have := z4.out; have := z5.out; have := z6.out; have := z7.out; have := z8.out; have := z9.out; have := z10.out; have := z11.out; omega)
  clear ebt0 lbt eBr00 lBr0 eBt20 lBt2 eBr10 lBr1 hm
  clear oM lt2 ut2
  have ebt0 := bt.c0
  have lbt := bt.lt
  have eBr00 := Br0.c0
  have lBr0 := Br0.lt
  have eBt20 := Bt2.c0
  have lBt2 := Bt2.lt
  have eBr10 := Br1.c0
  have lBr1 := Br1.lt
  go_wp2_with fail
  refine (eqCl_refl (Cl.at_of or1) (Cl.at_all hr)).mono ?_
  rintro e w9 ⟨_, rfl, hb, rfl⟩
  have z12 : Hid (w8.heap.size ≤ w9.heap.size) := hb.size
  replace hW := hW.trans (hb.mono hW.size)
  replace bt := bt.keep hb
  replace ht := Cl.at_keep (Keeps.all hb) ht
  replace hr := Cl.at_keep (Keeps.all hb) hr
  replace Br0 := Br0.keep hb
  replace Bt2 := Bt2.keep hb
  replace or1 := D.own_keep _ _ _ (Keeps.all hb) or1
  replace Br1 := Br1.keep hb
  clear ebt0 lbt eBr00 lBr0 eBt20 lBt2 eBr10 lBr1 hb
  have ebt0 := bt.c0
  have lbt := bt.lt
  have eBr00 := Br0.c0
  have lBr0 := Br0.lt
  have eBt20 := Bt2.c0
  have lBt2 := Bt2.lt
  have eBr10 := Br1.c0
  have lBr1 := Br1.lt
  go_wp2_with fail
  have hq := markCl_any r.ls 1 hcr or1
  rw [Hrm.out] at hq
  rw [show ((1 : Nat) : Int) = 1 from rfl] at hq
  refine hq.mono ?_
  clear hq
  rintro e w10 ⟨rfl, hm, oM⟩
  clear or1
  have z13 : Hid (w9.heap.size ≤ w10.heap.size) := hm.size
  replace hW := hW.trans (hm.2 _ hW.size (fun y hy => by have q1 := lr1 y hy; have := z0.out; have := z1.out; have := z2.out; have := z3.out; have := z4.out; have := z5.out; have := z6.out; have := z7.out; have := z8.out; have := z9.out; have := z10.out; have := z11.out; have := z12.out; have := z13.out; omega))
  replace bt := bt.marked hm (fun q => by have q1 := lr1 _ q; have q2 := ur1 _ q; have := z0.out; have := z1.out; have := z2.out; have := z3.out; have := z4.out; have := z5.out; have := z6.out; have := z7.out; have := z8.out; have := z9.out; have := z10.out; have := z11.out; have := z12.out; have := z13.out; omega)
  replace ht := Cl.at_keep (hm.lt (fun y q => by have q1 := lr1 y q; have := z0.out; have := z1.out; have := z2.out; have := z3.out; have := z4.out; have := z5.out; have := z6.out; have := z7.out; have := z8.out; have := z9.out; have := z10.out; have := z11.out; have := z12.out; have := z13.out; omega)) ht
  replace hr := Cl.at_keep (hm.lt (fun y q => by have q1 := lr1 y q; have := z0.out; have := z1.out; have := z2.out; have := z3.out; have := z4.out; have := z5.out; have := z6.out; have := z7.out; have := z8.out; have := z9.out; have := z10.out; have := z11.out; have := z12.out; have := z13.out; omega)) hr
  replace Br0 := Br0.marked hm (fun q => by have q1 := lr1 _ q; have q2 := ur1 _ q; have := z0.out; have := z1.out; have := z2.out; have := z3.out; have := z4.out; have := z5.out; have := z6.out; have := z7.out; have := z8.out; have := z9.out; have := z10.out; have := z11.out; have := z12.out; have := z13.out; omega)
  replace Bt2 := Bt2.marked hm (fun q => by have q1 := lr1 _ q; have q2 := ur1 _ q; have := z0.out; have := z1.out; have := z2.out; have := z3.out; have := z4.out; have := z5.out; have := z6.out; have := z7.out; have := z8.out; have := z9.out; have := z10.out; have := z11.out; have := z12.out; have := z13.out; omega)
  replace Br1 := Br1.marked hm (fun q => by have q1 := lr1 _ q; have q2 := ur1 _ q; have := z0.out; have := z1.out; have := z2.out; have := z3.out; have := z4.out; have := z5.out; have := z6.out; have := z7.out; have := z8.out; have := z9.out; have := z10.out; have := z11.out; have := z12.out; have := z13.out; omega)
  clear ebt0 lbt eBr00 lBr0 eBt20 lBt2 eBr10 lBr1 hm
  have oM0 := oM
  clear oM
  have ebt0 := bt.c0
  have lbt := bt.lt
  have eBr00 := Br0.c0
  have lBr0 := Br0.lt
  have eBt20 := Bt2.c0
  have lBt2 := Bt2.lt
  have eBr10 := Br1.c0
  have lBr1 := Br1.lt
  go_wp2_with fail
  have hq := heldCl_any r.ls 1 hcr (D.own_rd _ _ _ oM0)
  rw [Hrm.out] at hq
  rw [show ((1 : Nat) : Int) = 1 from rfl] at hq
  refine hq.mono ?_
  clear hq
  rintro e w11 ⟨_, rfl, hb, rfl⟩
  have z14 : Hid (w10.heap.size ≤ w11.heap.size) := hb.size
  replace hW := hW.trans (hb.mono hW.size)
  replace bt := bt.keep hb
  replace ht := Cl.at_keep (Keeps.all hb) ht
  replace hr := Cl.at_keep (Keeps.all hb) hr
  replace Br0 := Br0.keep hb
  replace Bt2 := Bt2.keep hb
  replace Br1 := Br1.keep hb
  replace oM0 := D.own_keep _ _ _ (Keeps.all hb) oM0
  clear ebt0 lbt eBr00 lBr0 eBt20 lBt2 eBr10 lBr1 hb
  have ebt0 := bt.c0
  have lbt := bt.lt
  have eBr00 := Br0.c0
  have lBr0 := Br0.lt
  have eBt20 := Bt2.c0
  have lBt2 := Bt2.lt
  have eBr10 := Br1.c0
  have lBr1 := Br1.lt
  go_wp2_with fail
  refine (toCl_any t _ _ _ ht hbt).mono ?_
  rintro e w12 ⟨_, Ft3, rfl, ot3, lt3, hb⟩
  have z15 : Hid (w11.heap.size ≤ w12.heap.size) := hb.size
  replace hW := hW.trans (hb.mono hW.size)
  replace bt := bt.keep hb
  replace ht := Cl.at_keep (Keeps.all hb) ht
  replace hr := Cl.at_keep (Keeps.all hb) hr
  replace Br0 := Br0.keep hb
  replace Bt2 := Bt2.keep hb
  replace Br1 := Br1.keep hb
  replace oM0 := D.own_keep _ _ _ (Keeps.all hb) oM0
  clear ebt0 lbt eBr00 lBr0 eBt20 lBt2 eBr10 lBr1 hb
  obtain ⟨ta3, tc3, rfl⟩ := Lit.sd_own_form ot3
  have ut3 := D.own_lt _ _ _ ot3
  have ebt0 := bt.c0
  have lbt := bt.lt
  have eBr00 := Br0.c0
  have lBr0 := Br0.lt
  have eBt20 := Bt2.c0
  have lBt2 := Bt2.lt
  have eBr10 := Br1.c0
  have lBr1 := Br1.lt
  go_wp2_with fail
  have hq := impl_NormalizeClause (Cl.at_of ot3) hbt (TabF.keep hF hW)
  rw [Hr.out, Hok.out] at hq
  refine hq.mono ?_
  clear hq
  rintro e w13 ⟨_, Fr2, rfl, or2, lr2, hb⟩
  have z16 : Hid (w12.heap.size ≤ w13.heap.size) := hb.size
  replace hW := hW.trans (hb.mono hW.size)
  replace bt := bt.keep hb
  replace ht := Cl.at_keep (Keeps.all hb) ht
  replace hr := Cl.at_keep (Keeps.all hb) hr
  replace Br0 := Br0.keep hb
  replace Bt2 := Bt2.keep hb
  replace Br1 := Br1.keep hb
  replace oM0 := D.own_keep _ _ _ (Keeps.all hb) oM0
  replace ot3 := D.own_keep _ _ _ (Keeps.all hb) ot3
  clear ebt0 lbt eBr00 lBr0 eBt20 lBt2 eBr10 lBr1 hb
  obtain ⟨ra2, rc2, rfl⟩ := Lit.sd_own_form or2
  have ur2 := D.own_lt _ _ _ or2
  clear ot3
  clear lt3 ut3
  have hb : Below w13.heap.size w13 (w13.alloc (.cells #[.slice ra2 r.ls.length rc2] 28)) := (Below.refl _ _).alloc (Nat.le_refl _) _
  have Br2 : Box (w13.alloc (.cells #[.slice ra2 r.ls.length rc2] 28)) w13.heap.size [.slice ra2 r.ls.length rc2] := Box.new _ _ _
  have z17 : Hid (w13.heap.size + 1 ≤ (w13.alloc (.cells #[.slice ra2 r.ls.length rc2] 28)).heap.size) := by simp [Hid]
  replace hW := hW.trans (hb.mono hW.size)
  replace bt := bt.keep hb
  replace ht := Cl.at_keep (Keeps.all hb) ht
  replace hr := Cl.at_keep (Keeps.all hb) hr
  replace Br0 := Br0.keep hb
  replace Bt2 := Bt2.keep hb
  replace Br1 := Br1.keep hb
  replace oM0 := D.own_keep _ _ _ (Keeps.all hb) oM0
  replace or2 := D.own_keep _ _ _ (Keeps.all hb) or2
  clear hb
  have ebt0 := bt.c0
  have lbt := bt.lt
  have eBr00 := Br0.c0
  have lBr0 := Br0.lt
  have eBt20 := Bt2.c0
  have lBt2 := Bt2.lt
  have eBr10 := Br1.c0
  have lBr1 := Br1.lt
  have eBr20 := Br2.c0
  have lBr2 := Br2.lt
  go_wp2_with fail
  generalize (w13.alloc (.cells #[.slice ra2 r.ls.length rc2] 28)) = w13b at *
  refine (eqCl_refl (Cl.at_of or2) (Cl.at_all hr)).mono ?_
  rintro e w14 ⟨_, rfl, hb, rfl⟩
  have z18 : Hid (w13b.heap.size ≤ w14.heap.size) := hb.size
  replace hW := hW.trans (hb.mono hW.size)
  replace bt := bt.keep hb
  replace ht := Cl.at_keep (Keeps.all hb) ht
  replace hr := Cl.at_keep (Keeps.all hb) hr
  replace Br0 := Br0.keep hb
  replace Bt2 := Bt2.keep hb
  replace Br1 := Br1.keep hb
  replace oM0 := D.own_keep _ _ _ (Keeps.all hb) oM0
  replace or2 := D.own_keep _ _ _ (Keeps.all hb) or2
  replace Br2 := Br2.keep hb
  clear ebt0 lbt eBr00 lBr0 eBt20 lBt2 eBr10 lBr1 eBr20 lBr2 hb
  have ebt0 := bt.c0
  have lbt := bt.lt
  have eBr00 := Br0.c0
  have lBr0 := Br0.lt
  have eBt20 := Bt2.c0
  have lBt2 := Bt2.lt
  have eBr10 := Br1.c0
  have lBr1 := Br1.lt
  have eBr20 := Br2.c0
  have lBr2 := Br2.lt
  go_wp2_with fail
  have hq := heldCl_any r.ls 1 hcr (D.own_rd _ _ _ oM0)
  rw [Hrm.out] at hq
  rw [show ((1 : Nat) : Int) = 1 from rfl] at hq
  refine hq.mono ?_
  clear hq
  rintro e w15 ⟨_, rfl, hb, rfl⟩
  have z19 : Hid (w14.heap.size ≤ w15.heap.size) := hb.size
  replace hW := hW.trans (hb.mono hW.size)
  replace bt := bt.keep hb
  replace ht := Cl.at_keep (Keeps.all hb) ht
  replace hr := Cl.at_keep (Keeps.all hb) hr
  replace Br0 := Br0.keep hb
  replace Bt2 := Bt2.keep hb
  replace Br1 := Br1.keep hb
  replace oM0 := D.own_keep _ _ _ (Keeps.all hb) oM0
  replace or2 := D.own_keep _ _ _ (Keeps.all hb) or2
  replace Br2 := Br2.keep hb
  clear ebt0 lbt eBr00 lBr0 eBt20 lBt2 eBr10 lBr1 eBr20 lBr2 hb
  have ebt0 := bt.c0
  have lbt := bt.lt
  have eBr00 := Br0.c0
  have lBr0 := Br0.lt
  have eBt20 := Bt2.c0
  have lBt2 := Bt2.lt
  have eBr10 := Br1.c0
  have lBr1 := Br1.lt
  have eBr20 := Br2.c0
  have lBr2 := Br2.lt
  go_wp2_with fail
  go_ret
  exact ⟨rfl, hW⟩

/-! the row -/
set_option maxRecDepth 100000 in
theorem lifted (os : Os) (started : os.Started) (H : Type) (enc : TypeId × Value → H) :
    ReturnsInHanded {} Tryz.checked os 4 .any (fun w args => (Rows.fnExactNormalizeClauseSpec.pre enc Tryz.prog Tryz.f4 Rows.fnExactNormalizeClauseRow.domain false w args ∧ laidMetH Tryz.prog Rows.fnExactNormalizeClauseRow.laid w) ∧ sizedMet enc Tryz.prog Tryz.f4 (OpenSpec.ofChange Rows.fnExactNormalizeClauseSpec) false w args) (Rows.fnExactNormalizeClauseSpec.post enc Tryz.prog Tryz.f4 false true false false) := by
  refine returns_both (C := Tryz.checked) (X := (fun w _ => laidMetH Tryz.prog Rows.fnExactNormalizeClauseRow.laid w)) (fun _ _ _ hh h => h.of_heap hh) own started (by kernel_rfl) Tryz.func4
    (ChangeSpec.witness_at (enc := enc) (C := Tryz.checked) (os := os) (X := (fun w _ => laidMetH Tryz.prog Rows.fnExactNormalizeClauseRow.laid w)) false (laidWorld os) #[.agg #[.slice none 0 0]] 8 rfl (by kernel_rfl) (by kernel_rfl) (by kernel_rfl) (by kernel_rfl) (by kernel_rfl) (laidWorld_met os _)) ?_
  intro W base args ds gs before hval0 hW hL hSh
  have hF : Fact W := fact_of_laid hL hSh
  have hval : ∀ (j : Nat) t v, Tryz.f4.params[j]? = some t → args[j]? = some v → Value.okWide Tryz.prog W .any base t v := hval0
  have hW' := hW
  obtain ⟨p, q, hA0, hV, rfl, hfz, hnd⟩ := hW
  have hA : DataW.TrodAll enc Tryz.prog W 0 (fun _ => true) true Tryz.f4.params.toList args.toList ds p := hA0
  rw [Tryz.params4] at hA hval
  obtain ⟨v0, vs0, d0, ds0, p0, q0, hargs, rfl, rfl, h0, r0⟩ := trodAll_cons hA
  obtain ⟨rfl, rfl, rfl⟩ := trodAll_nil r0
  obtain rfl : args = #[v0] := by cases args; simp_all
  obtain ⟨rfl, rfl⟩ := trodVars_none hV
  have k0 := h0
  obtain ⟨t0, t, rfl, ht⟩ := open_Clause (hval 0 24 v0 rfl rfl) h0
  clear hA0 hval0
  simp only [List.append_nil] at hW'
  have hlt0 : ∀ x ∈ p0, x.block < W.heap.size := fun x hx => hW'.lt x (by simp [hx])
  refine (walk hF t0 t ht).mono fun e W' ⟨he, hb⟩ => ?_
  subst he
  exact ⟨_, rfl, [d0], [], _, [], p0 ++ [], [], by simpa using hW', trodAll_cons_mk (shut_bool Tryz.underlying4 _) trodAll_mk0, (trodAll_cons_mk (Below.trod laidOut (by kernel_rfl) (of_decide_eq_true (by kernel_rfl)) k0 hb hlt0) trodAll_mk0), rfl, hb.frame _, fun h => by cases h⟩

theorem over : Rows.fnExactNormalizeClauseRow.holds Tryz.pinned (OpenSpec.ofChange Rows.fnExactNormalizeClauseSpec) :=
  OpenClaim.holds_of_wide 4 Tryz.f4 rfl rfl rfl rfl rfl rfl rfl ⟨rfl, rfl, rfl, rfl, rfl⟩ rfl rfl rfl rfl rfl (by kernel_rfl) Tryz.func4 (by kernel_rfl)
    (of_decide_eq_true (by kernel_rfl)) (by unfold Func.isWrapper; first | (rw [if_pos (by decide +kernel)]; kernel_rfl) | (rw [if_neg (by decide +kernel)]; exact ⟨rfl, rfl⟩))
    (fun os started H enc _ => lifted os started H enc)

theorem proved : Rows.FnExactNormalizeClauseCardSaid :=
  Claim7.holds_tied_plain_at .later [] [.data, .data, .data] true (true, "e32883067352f922dd002b394b3b7ba78c5ebfb4aea6e1f5e72d14f449f683fa") false
    over (fun _ h => by cases h) (by kernel_rfl) (fun _ h => by cases h) fnExactNormalizeClause_row_tie rfl ⟨rfl, rfl⟩ (by kernel_rfl) rfl
    (fun f fn hf hfn => by
      obtain rfl : f = 4 := Option.some.inj ((show Tryz.prog.funcNamed "loop.example/g00892/laws.FnExactNormalizeClause" = some 4 by kernel_rfl).symm.trans hf) |>.symm
      obtain rfl : fn = Tryz.f4 := (Option.some.inj (Tryz.func4.symm.trans hfn)).symm
      exact ⟨by kernel_rfl, fun j t ht => by
        rw [Tryz.params4] at ht
        rcases j with _ | j
        · obtain rfl : t = 24 := by simpa using ht.symm
          exact (show Tryz.prog.wantsStandIn 24 = false by kernel_rfl)
        · simp at ht⟩)
    (by kernel_rfl)
#print axioms proved
end Go.Proofs.YtooocakkjdhfiaaGreatDoor.fnExactNormalizeClause
