/- For every input the law FnExactMakeClause returns true, and the argument reads behind the call as it read before it. No conditions. -/
import Derived.Test.YtglhbaigigdeeaaGreatRows
import Derived.Test.YtglhbaigigdeeaaGreatQ01
import Derived.Test.YtglhbaigigdeeaaGreatQ02
import Derived.Test.YtglhbaigigdeeaaGreatQ05
import Derived.Test.YtglhbaigigdeeaaGreatQ15
import Derived.Test.YtglhbaigigdeeaaGreatQ17
import Derived.OpenShut
namespace Go.Proofs.YtglhbaigigdeeaaGreat.fnExactMakeClause
set_option maxRecDepth 100000
open Go.ChangeShapes Go.WideShapes Go.ChangeAt Go.RowKit

set_option maxHeartbeats 4000000 in
theorem walk (xsv : Value) (xs : List Lit) {w : World} (hxs : D.rd (fun _ => True) w xsv (Lit.sd xs)) :
    Calls Tryz.prog 3 #[xsv] w fun e w' => e = .returned (.bool true) ∧ Below w.heap.size w w' := by
  obtain ⟨xsa0, xsc0, rfl, -, -⟩ := Lit.sd_form hxs
  obtain ⟨r, Hr⟩ : ∃ r, Hid (mkR xs = r) := ⟨_, hid rfl⟩
  obtain ⟨ok, Hok⟩ : ∃ ok : Bool, Hid (mkOk xs = ok) := ⟨_, hid rfl⟩
  have hW : Below w.heap.size w w := Below.refl _ _
  replace hxs := D.rd_keep (Keeps.all hW) _ _ hxs
  have z0 : Hid (w.heap.size + 0 ≤ w.heap.size) := by simp [Hid]
  go_enter Tryz.func3, Tryz.ntmps3
  go_wp2_with fail
  refine (szLitS_b xs hxs (by omega) (by omega)).mono ?_
  rintro e w1 ⟨rfl, hb⟩
  have z1 : Hid (w.heap.size ≤ w1.heap.size) := hb.size
  replace hW := hW.trans (hb.mono hW.size)
  replace hxs := D.rd_keep (Keeps.all hb) _ _ hxs
  clear hb
  by_cases hzxs : ((litBulk xs) : Int) ≤ 1048576
  rotate_left
  · rw [after_neg (by omega)]
    go_wp2_with fail
    go_ret
    exact ⟨rfl, hW⟩
  rw [after_pos hzxs]
  have hbxs : (litBulk xs) ≤ 1048576 := by omega
  go_wp2_with fail
  have hbr : r.bulk ≤ 1048576 := by
    rw [← Hr.out]
    exact mkR_bulk xs hbxs
  have hcr : 1 + c3 (litAs r.ls) ≤ 1099511627776 := by
    have := c3_le_bulk r
    omega
  obtain ⟨rm, Hrm⟩ : ∃ n : Nat, Hid (1 + c3 (litAs r.ls) = n) := ⟨_, hid rfl⟩
  have hrm : ¬ ((rm : Nat) : Int) < 0 := by omega
  refine (toLitS_any xs _ _ _ hxs hbxs).mono ?_
  rintro e w2 ⟨_, Fxs1, rfl, oxs1, lxs1, hb⟩
  have z2 : Hid (w1.heap.size ≤ w2.heap.size) := hb.size
  replace hW := hW.trans (hb.mono hW.size)
  replace hxs := D.rd_keep (Keeps.all hb) _ _ hxs
  clear hb
  obtain ⟨xsa1, xsc1, rfl⟩ := Lit.sd_own_form oxs1
  have uxs1 := D.own_lt _ _ _ oxs1
  go_wp2_with fail
  have hq := spec_MakeClause (D.rd_all (D.own_rd _ _ _ oxs1)) hbxs
  rw [Hr.out, Hok.out] at hq
  refine hq.mono ?_
  clear hq
  rintro e w3 ⟨_, rfl, hr, hb⟩
  have z3 : Hid (w2.heap.size ≤ w3.heap.size) := hb.size
  replace hW := hW.trans (hb.mono hW.size)
  replace hxs := D.rd_keep (Keeps.all hb) _ _ hxs
  replace oxs1 := D.own_keep _ _ _ (Keeps.all hb) oxs1
  clear hb
  obtain ⟨ra0, rc0, rfl, -, -⟩ := Lit.sd_form hr
  clear oxs1
  clear lxs1 uxs1
  have hb : Below w3.heap.size w3 (w3.alloc (.cells #[.slice ra0 r.ls.length rc0] 26)) := (Below.refl _ _).alloc (Nat.le_refl _) _
  have Br0 : Box (w3.alloc (.cells #[.slice ra0 r.ls.length rc0] 26)) w3.heap.size [.slice ra0 r.ls.length rc0] := Box.new _ _ _
  have z4 : Hid (w3.heap.size + 1 ≤ (w3.alloc (.cells #[.slice ra0 r.ls.length rc0] 26)).heap.size) := by simp [Hid]
  replace hW := hW.trans (hb.mono hW.size)
  replace hxs := D.rd_keep (Keeps.all hb) _ _ hxs
  replace hr := Cl.at_keep (Keeps.all hb) hr
  clear hb
  have eBr00 := Br0.c0
  have lBr0 := Br0.lt
  go_wp2_with fail
  generalize (w3.alloc (.cells #[.slice ra0 r.ls.length rc0] 26)) = w3b at *
  replace hxs := D.rd_lt _ _ hxs
  replace hr := Cl.at_lt hr
  refine (toLitS_any xs _ _ _ hxs hbxs).mono ?_
  rintro e w4 ⟨_, Fxs2, rfl, oxs2, lxs2, hb⟩
  have z5 : Hid (w3b.heap.size ≤ w4.heap.size) := hb.size
  replace hW := hW.trans (hb.mono hW.size)
  replace hxs := D.rd_keep (Keeps.all hb) _ _ hxs
  replace hr := Cl.at_keep (Keeps.all hb) hr
  replace Br0 := Br0.keep hb
  clear eBr00 lBr0 hb
  obtain ⟨xsa2, xsc2, rfl⟩ := Lit.sd_own_form oxs2
  have uxs2 := D.own_lt _ _ _ oxs2
  have eBr00 := Br0.c0
  have lBr0 := Br0.lt
  go_wp2_with fail
  have hq := impl_MakeClause (D.rd_all (D.own_rd _ _ _ oxs2)) hbxs
  rw [Hr.out, Hok.out] at hq
  refine hq.mono ?_
  clear hq
  rintro e w5 ⟨_, Fr1, rfl, or1, lr1, hb⟩
  have z6 : Hid (w4.heap.size ≤ w5.heap.size) := hb.size
  replace hW := hW.trans (hb.mono hW.size)
  replace hxs := D.rd_keep (Keeps.all hb) _ _ hxs
  replace hr := Cl.at_keep (Keeps.all hb) hr
  replace Br0 := Br0.keep hb
  replace oxs2 := D.own_keep _ _ _ (Keeps.all hb) oxs2
  clear eBr00 lBr0 hb
  obtain ⟨ra1, rc1, rfl⟩ := Lit.sd_own_form or1
  have ur1 := D.own_lt _ _ _ or1
  have hb : Below w5.heap.size w5 (w5.alloc (.cells #[.slice ra1 r.ls.length rc1] 26)) := (Below.refl _ _).alloc (Nat.le_refl _) _
  have Br1 : Box (w5.alloc (.cells #[.slice ra1 r.ls.length rc1] 26)) w5.heap.size [.slice ra1 r.ls.length rc1] := Box.new _ _ _
  have z7 : Hid (w5.heap.size + 1 ≤ (w5.alloc (.cells #[.slice ra1 r.ls.length rc1] 26)).heap.size) := by simp [Hid]
  replace hW := hW.trans (hb.mono hW.size)
  replace hxs := D.rd_keep (Keeps.all hb) _ _ hxs
  replace hr := Cl.at_keep (Keeps.all hb) hr
  replace Br0 := Br0.keep hb
  replace oxs2 := D.own_keep _ _ _ (Keeps.all hb) oxs2
  replace or1 := D.own_keep _ _ _ (Keeps.all hb) or1
  clear hb
  have eBr00 := Br0.c0
  have lBr0 := Br0.lt
  have eBr10 := Br1.c0
  have lBr1 := Br1.lt
  go_wp2_with fail
  generalize (w5.alloc (.cells #[.slice ra1 r.ls.length rc1] 26)) = w5b at *
  refine (eqCl_refl (Cl.at_of or1) (Cl.at_all hr)).mono ?_
  rintro e w6 ⟨_, rfl, hb, rfl⟩
  have z8 : Hid (w5b.heap.size ≤ w6.heap.size) := hb.size
  replace hW := hW.trans (hb.mono hW.size)
  replace hxs := D.rd_keep (Keeps.all hb) _ _ hxs
  replace hr := Cl.at_keep (Keeps.all hb) hr
  replace Br0 := Br0.keep hb
  replace oxs2 := D.own_keep _ _ _ (Keeps.all hb) oxs2
  replace or1 := D.own_keep _ _ _ (Keeps.all hb) or1
  replace Br1 := Br1.keep hb
  clear eBr00 lBr0 eBr10 lBr1 hb
  have eBr00 := Br0.c0
  have lBr0 := Br0.lt
  have eBr10 := Br1.c0
  have lBr1 := Br1.lt
  go_wp2_with fail
  refine (toLitS_any xs _ _ _ hxs hbxs).mono ?_
  rintro e w7 ⟨_, Fxs3, rfl, oxs3, lxs3, hb⟩
  have z9 : Hid (w6.heap.size ≤ w7.heap.size) := hb.size
  replace hW := hW.trans (hb.mono hW.size)
  replace hxs := D.rd_keep (Keeps.all hb) _ _ hxs
  replace hr := Cl.at_keep (Keeps.all hb) hr
  replace Br0 := Br0.keep hb
  replace oxs2 := D.own_keep _ _ _ (Keeps.all hb) oxs2
  replace or1 := D.own_keep _ _ _ (Keeps.all hb) or1
  replace Br1 := Br1.keep hb
  clear eBr00 lBr0 eBr10 lBr1 hb
  obtain ⟨xsa3, xsc3, rfl⟩ := Lit.sd_own_form oxs3
  have uxs3 := D.own_lt _ _ _ oxs3
  have eBr00 := Br0.c0
  have lBr0 := Br0.lt
  have eBr10 := Br1.c0
  have lBr1 := Br1.lt
  go_wp2_with fail
  refine (eqLitS_refl (D.rd_all (D.own_rd _ _ _ oxs2)) (D.rd_all (D.own_rd _ _ _ oxs3))).mono ?_
  rintro e w8 ⟨_, rfl, hb, rfl⟩
  have z10 : Hid (w7.heap.size ≤ w8.heap.size) := hb.size
  replace hW := hW.trans (hb.mono hW.size)
  replace hxs := D.rd_keep (Keeps.all hb) _ _ hxs
  replace hr := Cl.at_keep (Keeps.all hb) hr
  replace Br0 := Br0.keep hb
  replace oxs2 := D.own_keep _ _ _ (Keeps.all hb) oxs2
  replace or1 := D.own_keep _ _ _ (Keeps.all hb) or1
  replace Br1 := Br1.keep hb
  replace oxs3 := D.own_keep _ _ _ (Keeps.all hb) oxs3
  clear eBr00 lBr0 eBr10 lBr1 hb
  clear oxs3
  clear lxs3 uxs3
  have eBr00 := Br0.c0
  have lBr0 := Br0.lt
  have eBr10 := Br1.c0
  have lBr1 := Br1.lt
  go_wp2_with fail
  obtain ⟨k0, Hk0⟩ : ∃ n : Nat, Hid (1 + c3 (litAs xs) = n) := ⟨_, hid rfl⟩
  have hq := markLitS_any xs 1 (by have := c3_litBulk xs; have := Hk0.out; omega) oxs2
  rw [Hk0.out] at hq
  rw [show ((1 : Nat) : Int) = 1 from rfl] at hq
  have nk0 : ¬ ((k0 : Nat) : Int) < 0 := by omega
  refine hq.mono ?_
  clear hq
  rintro e w9 ⟨rfl, hm, oM⟩
  clear oxs2
  have z11 : Hid (w8.heap.size ≤ w9.heap.size) := hm.size
  replace hW := hW.trans (hm.2 _ hW.size (fun y hy => by have q1 := lxs2 y hy; have := z0.out; have := z1.out; have := z2.out; have := z3.out; have := z4.out; have := z5.out; have := z6.out; have := z7.out; have := z8.out; have := z9.out; have := z10.out; have := z11.out; omega))
  replace hxs := D.rd_keep (hm.lt (fun y q => by have q1 := lxs2 y q; have := z0.out; have := z1.out; have := z2.out; have := z3.out; have := z4.out; have := z5.out; have := z6.out; have := z7.out; have := z8.out; have := z9.out; have := z10.out; have := z11.out; omega)) _ _ hxs
  replace hr := Cl.at_keep (hm.lt (fun y q => by have q1 := lxs2 y q; have := z0.out; have := z1.out; have := z2.out; have := z3.out; have := z4.out; have := z5.out; have := z6.out; have := z7.out; have := z8.out; have := z9.out; have := z10.out; have := z11.out; omega)) hr
  replace Br0 := Br0.marked hm (fun q => by have q1 := lxs2 _ q; have q2 := uxs2 _ q; have := z0.out; have := z1.out; have := z2.out; have := z3.out; have := z4.out; have := z5.out; have := z6.out; have := z7.out; have := z8.out; have := z9.out; have := z10.out; have := z11.out; omega)
  replace or1 := D.own_keep _ _ _ (hm.apart (fun y hy q => by have q1 := lxs2 y q; have q2 := uxs2 y q; have q3 := lr1 y hy; have q4 := ur1 y hy; have := z0.out; have := z1.out; have := z2.out; have := z3.out; have := z4.out; have := z5.out; have := z6.out; have := z7.out; have := z8.out; have := z9.out; have := z10.out; have := z11.out; omega)) or1
  replace Br1 := Br1.marked hm (fun q => by have q1 := lxs2 _ q; have q2 := uxs2 _ q; have := z0.out; have := z1.out; have := z2.out; have := z3.out; have := z4.out; have := z5.out; have := z6.out; have := z7.out; have := z8.out; have := z9.out; have := z10.out; have := z11.out; omega)
  clear eBr00 lBr0 eBr10 lBr1 hm
  clear oM lxs2 uxs2
  have eBr00 := Br0.c0
  have lBr0 := Br0.lt
  have eBr10 := Br1.c0
  have lBr1 := Br1.lt
  go_wp2_with fail
  refine (eqCl_refl (Cl.at_of or1) (Cl.at_all hr)).mono ?_
  rintro e w10 ⟨_, rfl, hb, rfl⟩
  have z12 : Hid (w9.heap.size ≤ w10.heap.size) := hb.size
  replace hW := hW.trans (hb.mono hW.size)
  replace hxs := D.rd_keep (Keeps.all hb) _ _ hxs
  replace hr := Cl.at_keep (Keeps.all hb) hr
  replace Br0 := Br0.keep hb
  replace or1 := D.own_keep _ _ _ (Keeps.all hb) or1
  replace Br1 := Br1.keep hb
  clear eBr00 lBr0 eBr10 lBr1 hb
  have eBr00 := Br0.c0
  have lBr0 := Br0.lt
  have eBr10 := Br1.c0
  have lBr1 := Br1.lt
  go_wp2_with fail
  have hq := markCl_any r.ls 1 hcr or1
  rw [Hrm.out] at hq
  rw [show ((1 : Nat) : Int) = 1 from rfl] at hq
  refine hq.mono ?_
  clear hq
  rintro e w11 ⟨rfl, hm, oM⟩
  clear or1
  have z13 : Hid (w10.heap.size ≤ w11.heap.size) := hm.size
  replace hW := hW.trans (hm.2 _ hW.size (fun y hy => by have q1 := lr1 y hy; have := z0.out; have := z1.out; have := z2.out; have := z3.out; have := z4.out; have := z5.out; have := z6.out; have := z7.out; have := z8.out; have := z9.out; have := z10.out; have := z11.out; have := z12.out; have := z13.out; omega))
  replace hxs := D.rd_keep (hm.lt (fun y q => by have q1 := lr1 y q; have := z0.out; have := z1.out; have := z2.out; have := z3.out; have := z4.out; have := z5.out; have := z6.out; have := z7.out; have := z8.out; have := z9.out; have := z10.out; have := z11.out; have := z12.out; have := z13.out; omega)) _ _ hxs
  replace hr := Cl.at_keep (hm.lt (fun y q => by have q1 := lr1 y q; have := z0.out; have := z1.out; have := z2.out; have := z3.out; have := z4.out; have := z5.out; have := z6.out; have := z7.out; have := z8.out; have := z9.out; have := z10.out; have := z11.out; have := z12.out; have := z13.out; omega)) hr
  replace Br0 := Br0.marked hm (fun q => by have q1 := lr1 _ q; have q2 := ur1 _ q; have := z0.out; have := z1.out; have := z2.out; have := z3.out; have := z4.out; have := z5.out; have := z6.out; have := z7.out; have := z8.out; have := z9.out; have := z10.out; have := z11.out; have := z12.out; have := z13.out; omega)
  replace Br1 := Br1.marked hm (fun q => by have q1 := lr1 _ q; have q2 := ur1 _ q; have := z0.out; have := z1.out; have := z2.out; have := z3.out; have := z4.out; have := z5.out; have := z6.out; have := z7.out; have := z8.out; have := z9.out; have := z10.out; have := z11.out; have := z12.out; have := z13.out; omega)
  clear eBr00 lBr0 eBr10 lBr1 hm
  have oM0 := oM
  clear oM
  have eBr00 := Br0.c0
  have lBr0 := Br0.lt
  have eBr10 := Br1.c0
  have lBr1 := Br1.lt
  go_wp2_with fail
  have hq := heldCl_any r.ls 1 hcr (D.own_rd _ _ _ oM0)
  rw [Hrm.out] at hq
  rw [show ((1 : Nat) : Int) = 1 from rfl] at hq
  refine hq.mono ?_
  clear hq
  rintro e w12 ⟨_, rfl, hb, rfl⟩
  have z14 : Hid (w11.heap.size ≤ w12.heap.size) := hb.size
  replace hW := hW.trans (hb.mono hW.size)
  replace hxs := D.rd_keep (Keeps.all hb) _ _ hxs
  replace hr := Cl.at_keep (Keeps.all hb) hr
  replace Br0 := Br0.keep hb
  replace Br1 := Br1.keep hb
  replace oM0 := D.own_keep _ _ _ (Keeps.all hb) oM0
  clear eBr00 lBr0 eBr10 lBr1 hb
  have eBr00 := Br0.c0
  have lBr0 := Br0.lt
  have eBr10 := Br1.c0
  have lBr1 := Br1.lt
  go_wp2_with fail
  refine (toLitS_any xs _ _ _ hxs hbxs).mono ?_
  rintro e w13 ⟨_, Fxs4, rfl, oxs4, lxs4, hb⟩
  have z15 : Hid (w12.heap.size ≤ w13.heap.size) := hb.size
  replace hW := hW.trans (hb.mono hW.size)
  replace hxs := D.rd_keep (Keeps.all hb) _ _ hxs
  replace hr := Cl.at_keep (Keeps.all hb) hr
  replace Br0 := Br0.keep hb
  replace Br1 := Br1.keep hb
  replace oM0 := D.own_keep _ _ _ (Keeps.all hb) oM0
  clear eBr00 lBr0 eBr10 lBr1 hb
  obtain ⟨xsa4, xsc4, rfl⟩ := Lit.sd_own_form oxs4
  have uxs4 := D.own_lt _ _ _ oxs4
  have eBr00 := Br0.c0
  have lBr0 := Br0.lt
  have eBr10 := Br1.c0
  have lBr1 := Br1.lt
  go_wp2_with fail
  have hq := impl_MakeClause (D.rd_all (D.own_rd _ _ _ oxs4)) hbxs
  rw [Hr.out, Hok.out] at hq
  refine hq.mono ?_
  clear hq
  rintro e w14 ⟨_, Fr2, rfl, or2, lr2, hb⟩
  have z16 : Hid (w13.heap.size ≤ w14.heap.size) := hb.size
  replace hW := hW.trans (hb.mono hW.size)
  replace hxs := D.rd_keep (Keeps.all hb) _ _ hxs
  replace hr := Cl.at_keep (Keeps.all hb) hr
  replace Br0 := Br0.keep hb
  replace Br1 := Br1.keep hb
  replace oM0 := D.own_keep _ _ _ (Keeps.all hb) oM0
  replace oxs4 := D.own_keep _ _ _ (Keeps.all hb) oxs4
  clear eBr00 lBr0 eBr10 lBr1 hb
  obtain ⟨ra2, rc2, rfl⟩ := Lit.sd_own_form or2
  have ur2 := D.own_lt _ _ _ or2
  clear oxs4
  clear lxs4 uxs4
  have hb : Below w14.heap.size w14 (w14.alloc (.cells #[.slice ra2 r.ls.length rc2] 26)) := (Below.refl _ _).alloc (Nat.le_refl _) _
  have Br2 : Box (w14.alloc (.cells #[.slice ra2 r.ls.length rc2] 26)) w14.heap.size [.slice ra2 r.ls.length rc2] := Box.new _ _ _
  have z17 : Hid (w14.heap.size + 1 ≤ (w14.alloc (.cells #[.slice ra2 r.ls.length rc2] 26)).heap.size) := by simp [Hid]
  replace hW := hW.trans (hb.mono hW.size)
  replace hxs := D.rd_keep (Keeps.all hb) _ _ hxs
  replace hr := Cl.at_keep (Keeps.all hb) hr
  replace Br0 := Br0.keep hb
  replace Br1 := Br1.keep hb
  replace oM0 := D.own_keep _ _ _ (Keeps.all hb) oM0
  replace or2 := D.own_keep _ _ _ (Keeps.all hb) or2
  clear hb
  have eBr00 := Br0.c0
  have lBr0 := Br0.lt
  have eBr10 := Br1.c0
  have lBr1 := Br1.lt
  have eBr20 := Br2.c0
  have lBr2 := Br2.lt
  go_wp2_with fail
  generalize (w14.alloc (.cells #[.slice ra2 r.ls.length rc2] 26)) = w14b at *
  refine (eqCl_refl (Cl.at_of or2) (Cl.at_all hr)).mono ?_
  rintro e w15 ⟨_, rfl, hb, rfl⟩
  have z18 : Hid (w14b.heap.size ≤ w15.heap.size) := hb.size
  replace hW := hW.trans (hb.mono hW.size)
  replace hxs := D.rd_keep (Keeps.all hb) _ _ hxs
  replace hr := Cl.at_keep (Keeps.all hb) hr
  replace Br0 := Br0.keep hb
  replace Br1 := Br1.keep hb
  replace oM0 := D.own_keep _ _ _ (Keeps.all hb) oM0
  replace or2 := D.own_keep _ _ _ (Keeps.all hb) or2
  replace Br2 := Br2.keep hb
  clear eBr00 lBr0 eBr10 lBr1 eBr20 lBr2 hb
  have eBr00 := Br0.c0
  have lBr0 := Br0.lt
  have eBr10 := Br1.c0
  have lBr1 := Br1.lt
  have eBr20 := Br2.c0
  have lBr2 := Br2.lt
  go_wp2_with fail
  have hq := heldCl_any r.ls 1 hcr (D.own_rd _ _ _ oM0)
  rw [Hrm.out] at hq
  rw [show ((1 : Nat) : Int) = 1 from rfl] at hq
  refine hq.mono ?_
  clear hq
  rintro e w16 ⟨_, rfl, hb, rfl⟩
  have z19 : Hid (w15.heap.size ≤ w16.heap.size) := hb.size
  replace hW := hW.trans (hb.mono hW.size)
  replace hxs := D.rd_keep (Keeps.all hb) _ _ hxs
  replace hr := Cl.at_keep (Keeps.all hb) hr
  replace Br0 := Br0.keep hb
  replace Br1 := Br1.keep hb
  replace oM0 := D.own_keep _ _ _ (Keeps.all hb) oM0
  replace or2 := D.own_keep _ _ _ (Keeps.all hb) or2
  replace Br2 := Br2.keep hb
  clear eBr00 lBr0 eBr10 lBr1 eBr20 lBr2 hb
  have eBr00 := Br0.c0
  have lBr0 := Br0.lt
  have eBr10 := Br1.c0
  have lBr1 := Br1.lt
  have eBr20 := Br2.c0
  have lBr2 := Br2.lt
  go_wp2_with fail
  go_ret
  exact ⟨rfl, hW⟩

/-! the row -/
set_option maxRecDepth 100000 in
theorem lifted (os : Os) (started : os.Started) (H : Type) (enc : TypeId × Value → H) :
    ReturnsInHanded {} Tryz.checked os 3 .any (Rows.fnExactMakeClauseSpec.pre6 enc Tryz.prog Tryz.f3 Rows.fnExactMakeClauseRow.domain false) (Rows.fnExactMakeClauseSpec.post enc Tryz.prog Tryz.f3 false true false false) := by
  refine returnsInHanded_of_change (C := Tryz.checked) own started (by kernel_rfl) Tryz.func3
    (ChangeSpec.witness6 (enc := enc) (C := Tryz.checked) false ⟨#[], #[.slice none 0 0], []⟩ 8 (by kernel_rfl) (by kernel_rfl) (by kernel_rfl) (by kernel_rfl)) ?_
  intro W base args ds gs before hval0 hW _ _
  have hval : ∀ (j : Nat) t v, Tryz.f3.params[j]? = some t → args[j]? = some v → Value.okWide Tryz.prog W .any base t v := hval0
  have hW' := hW
  obtain ⟨p, q, hA0, hV, rfl, hfz, hnd⟩ := hW
  have hA : DataW.TrodAll enc Tryz.prog W 0 (fun _ => true) true Tryz.f3.params.toList args.toList ds p := hA0
  rw [Tryz.params3] at hA hval
  obtain ⟨v0, vs0, d0, ds0, p0, q0, hargs, rfl, rfl, h0, r0⟩ := trodAll_cons hA
  obtain ⟨rfl, rfl, rfl⟩ := trodAll_nil r0
  obtain rfl : args = #[v0] := by cases args; simp_all
  obtain ⟨rfl, rfl⟩ := trodVars_none hV
  have k0 := h0
  obtain ⟨xs, hxs⟩ := open_LiteralS (hval 0 22 v0 rfl rfl) h0
  clear hA0 hval0
  simp only [List.append_nil] at hW'
  have hlt0 : ∀ x ∈ p0, x.block < W.heap.size := fun x hx => hW'.lt x (by simp [hx])
  refine (walk v0 xs hxs).mono fun e W' ⟨he, hb⟩ => ?_
  subst he
  exact ⟨_, rfl, [d0], [], _, [], p0 ++ [], [], by simpa using hW', trodAll_cons_mk (shut_bool Tryz.underlying4 _) trodAll_mk0, (trodAll_cons_mk (Below.trod laidOut (by kernel_rfl) (of_decide_eq_true (by kernel_rfl)) k0 hb hlt0) trodAll_mk0), rfl, hb.frame _, fun h => by cases h⟩

theorem over : Rows.fnExactMakeClauseRow.holds Tryz.pinned (OpenSpec.ofChange Rows.fnExactMakeClauseSpec) :=
  OpenClaim.holds_of_wide 3 Tryz.f3 rfl rfl rfl rfl rfl rfl rfl ⟨rfl, rfl, rfl, rfl, rfl⟩ rfl rfl rfl rfl rfl (by kernel_rfl) Tryz.func3 (by kernel_rfl)
    (of_decide_eq_true (by kernel_rfl)) (by unfold Func.isWrapper; first | (rw [if_pos (by decide +kernel)]; kernel_rfl) | (rw [if_neg (by decide +kernel)]; exact ⟨rfl, rfl⟩))
    (fun os started H enc _ => lifted os started H enc)

theorem proved : Rows.FnExactMakeClauseSaid :=
  over
#print axioms proved
end Go.Proofs.YtglhbaigigdeeaaGreat.fnExactMakeClause
