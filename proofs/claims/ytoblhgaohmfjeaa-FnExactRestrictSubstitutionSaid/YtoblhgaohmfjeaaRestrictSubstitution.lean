/- For every input the law FnExactRestrictSubstitution returns true, and each argument reads behind the call as it read before it. No conditions. -/
import Derived.Test.YtoblhgaohmfjeaaRows
import Derived.Test.YtoblhgaohmfjeaaBrT
import Derived.Test.YtoblhgaohmfjeaaSz
import Derived.Test.YtoblhgaohmfjeaaTo
import Derived.Test.YtoblhgaohmfjeaaEq
import Derived.Test.YtoblhgaohmfjeaaRt
import Derived.Test.YtoblhgaohmfjeaaMb
import Derived.OpenShut
namespace Go.Proofs.Ytoblhgaohmfjeaa.fnExactRestrictSubstitution
set_option maxRecDepth 100000
open Go.ChangeShapes Go.WideShapes Go.ChangeAt Go.RowKit

set_option maxHeartbeats 4000000 in
theorem walk (s0 : Value) (s : Sb) {w : World} (hs : Sb.at (fun _ => True) w s0 s) (pv : Value) (p : List ByteArray) (hp : D.rd (fun _ => True) w pv (slOf strE p)) :
    Calls Try.prog 4 #[.agg #[s0], pv] w fun e w' => e = .returned (.bool true) ∧ Below w.heap.size w w' := by
  obtain ⟨sa0, sc0, rfl⟩ := Sb.at_form hs
  obtain ⟨pa0, pc0, rfl, -, -⟩ := slOf_form hp
  obtain ⟨r, Hr⟩ : ∃ r, Hid (restR s p = r) := ⟨_, hid rfl⟩
  obtain ⟨ok, Hok⟩ : ∃ ok : Bool, Hid (s.valid = ok) := ⟨_, hid rfl⟩
  have hW : Below w.heap.size w (w.alloc (.cells #[.slice sa0 s.bs.length sc0] 41)) := (Below.refl _ _).alloc (Nat.le_refl _) _
  have bs : Box (w.alloc (.cells #[.slice sa0 s.bs.length sc0] 41)) (w.heap.size) [.slice sa0 s.bs.length sc0] := by
    have := (Box.new w [.slice sa0 s.bs.length sc0] 41)
    simpa only [World.size_alloc] using this
  replace hs := Sb.at_keep (Keeps.all hW) hs
  replace hp := D.rd_keep (Keeps.all hW) _ _ hp
  have z0 : Hid (w.heap.size + 1 ≤ (w.alloc (.cells #[.slice sa0 s.bs.length sc0] 41)).heap.size) := by simp [Hid]
  go_enter Try.func4, Try.ntmps4
  have ebs0 := bs.c0
  have lbs := bs.lt
  go_wp2_with fail
  generalize (w.alloc (.cells #[.slice sa0 s.bs.length sc0] 41)) = w0 at *
  refine (szSb_any s _ _ _ _ hs (by omega) (by omega)).mono ?_
  rintro e w1 ⟨rfl, hb⟩
  have z1 : Hid (w0.heap.size ≤ w1.heap.size) := hb.size
  replace hW := hW.trans (hb.mono hW.size)
  replace bs := bs.keep hb
  replace hs := Sb.at_keep (Keeps.all hb) hs
  replace hp := D.rd_keep (Keeps.all hb) _ _ hp
  clear ebs0 lbs hb
  by_cases hzs : (s.bulk : Int) ≤ 1048576
  rotate_left
  · rw [after_neg (by omega)]
    go_wp2_with fail
    go_ret
    exact ⟨rfl, hW⟩
  rw [after_pos hzs]
  have hbs : s.bulk ≤ 1048576 := by omega
  have ebs0 := bs.c0
  have lbs := bs.lt
  go_wp2_with fail
  refine (szStrS_any p hp (by omega) (by omega)).mono ?_
  rintro e w2 ⟨rfl, hb⟩
  have z2 : Hid (w1.heap.size ≤ w2.heap.size) := hb.size
  replace hW := hW.trans (hb.mono hW.size)
  replace bs := bs.keep hb
  replace hs := Sb.at_keep (Keeps.all hb) hs
  replace hp := D.rd_keep (Keeps.all hb) _ _ hp
  clear ebs0 lbs hb
  by_cases hzp : ((strBulk p) : Int) ≤ 1048576 - (s.bulk : Nat)
  rotate_left
  · rw [after_neg (by omega)]
    go_wp2_with fail
    go_ret
    exact ⟨rfl, hW⟩
  rw [after_pos hzp]
  have hbp : (strBulk p) ≤ 1048576 := by omega
  have ebs0 := bs.c0
  have lbs := bs.lt
  go_wp2_with fail
  have hbr : r.bulk ≤ 1048576 := by
    rw [← Hr.out]
    exact restR_bulk s p hbs
  have hcr : 1 + c3 (bndAs r.bs) ≤ 1099511627776 := by
    have := c3_le_bulkB r
    omega
  obtain ⟨rm, Hrm⟩ : ∃ n : Nat, Hid (1 + c3 (bndAs r.bs) = n) := ⟨_, hid rfl⟩
  have hrm : ¬ ((rm : Nat) : Int) < 0 := by omega
  refine (toSb_any s _ _ _ hs hbs).mono ?_
  rintro e w3 ⟨_, Fs1, rfl, os1, ls1, hb⟩
  have z3 : Hid (w2.heap.size ≤ w3.heap.size) := hb.size
  replace hW := hW.trans (hb.mono hW.size)
  replace bs := bs.keep hb
  replace hs := Sb.at_keep (Keeps.all hb) hs
  replace hp := D.rd_keep (Keeps.all hb) _ _ hp
  clear ebs0 lbs hb
  obtain ⟨sa1, sc1, rfl⟩ := Bnd.sd_own_form os1
  have us1 := D.own_lt _ _ _ os1
  have ebs0 := bs.c0
  have lbs := bs.lt
  go_wp2_with fail
  refine (toStrS_any p hp hbp).mono ?_
  rintro e w4 ⟨_, Fp1, rfl, op1, lp1, hb⟩
  have z4 : Hid (w3.heap.size ≤ w4.heap.size) := hb.size
  replace hW := hW.trans (hb.mono hW.size)
  replace bs := bs.keep hb
  replace hs := Sb.at_keep (Keeps.all hb) hs
  replace hp := D.rd_keep (Keeps.all hb) _ _ hp
  replace os1 := D.own_keep _ _ _ (Keeps.all hb) os1
  clear ebs0 lbs hb
  obtain ⟨pa1, pc1, rfl, -, -⟩ := slOf_form (D.own_rd _ _ _ op1)
  have up1 := D.own_lt _ _ _ op1
  have ebs0 := bs.c0
  have lbs := bs.lt
  go_wp2_with fail
  have hq := spec_RestrictSubstitution (Sb.at_of os1) hbs (D.rd_all (D.own_rd _ _ _ op1)) hbp
  rw [Hr.out, Hok.out] at hq
  refine hq.mono ?_
  clear hq
  rintro e w5 ⟨_, Fr, rfl, oR, _, hb⟩
  have z5 : Hid (w4.heap.size ≤ w5.heap.size) := hb.size
  replace hW := hW.trans (hb.mono hW.size)
  replace bs := bs.keep hb
  replace hs := Sb.at_keep (Keeps.all hb) hs
  replace hp := D.rd_keep (Keeps.all hb) _ _ hp
  replace os1 := D.own_keep _ _ _ (Keeps.all hb) os1
  replace op1 := D.own_keep _ _ _ (Keeps.all hb) op1
  clear ebs0 lbs hb
  obtain ⟨ra0, rc0, rfl⟩ := Bnd.sd_own_form oR
  have hr := (Sb.at_of oR)
  clear oR
  clear os1
  clear ls1 us1
  clear op1
  clear lp1 up1
  have hb : Below w5.heap.size w5 (w5.alloc (.cells #[.slice ra0 r.bs.length rc0] 47)) := (Below.refl _ _).alloc (Nat.le_refl _) _
  have Br0 : Box (w5.alloc (.cells #[.slice ra0 r.bs.length rc0] 47)) w5.heap.size [.slice ra0 r.bs.length rc0] := Box.new _ _ _
  have z6 : Hid (w5.heap.size + 1 ≤ (w5.alloc (.cells #[.slice ra0 r.bs.length rc0] 47)).heap.size) := by simp [Hid]
  replace hW := hW.trans (hb.mono hW.size)
  replace bs := bs.keep hb
  replace hs := Sb.at_keep (Keeps.all hb) hs
  replace hp := D.rd_keep (Keeps.all hb) _ _ hp
  replace hr := Sb.at_keep (Keeps.all hb) hr
  clear hb
  have ebs0 := bs.c0
  have lbs := bs.lt
  have eBr00 := Br0.c0
  have lBr0 := Br0.lt
  go_wp2_with fail
  generalize (w5.alloc (.cells #[.slice ra0 r.bs.length rc0] 47)) = w5b at *
  replace hs := Sb.at_lt hs
  replace hp := D.rd_lt _ _ hp
  replace hr := Sb.at_lt hr
  refine (toSb_any s _ _ _ hs hbs).mono ?_
  rintro e w6 ⟨_, Fs2, rfl, os2, ls2, hb⟩
  have z7 : Hid (w5b.heap.size ≤ w6.heap.size) := hb.size
  replace hW := hW.trans (hb.mono hW.size)
  replace bs := bs.keep hb
  replace hs := Sb.at_keep (Keeps.all hb) hs
  replace hp := D.rd_keep (Keeps.all hb) _ _ hp
  replace hr := Sb.at_keep (Keeps.all hb) hr
  replace Br0 := Br0.keep hb
  clear ebs0 lbs eBr00 lBr0 hb
  obtain ⟨sa2, sc2, rfl⟩ := Bnd.sd_own_form os2
  have us2 := D.own_lt _ _ _ os2
  have hb : Below w6.heap.size w6 (w6.alloc (.cells #[.slice sa2 s.bs.length sc2] 47)) := (Below.refl _ _).alloc (Nat.le_refl _) _
  have Bs2 : Box (w6.alloc (.cells #[.slice sa2 s.bs.length sc2] 47)) w6.heap.size [.slice sa2 s.bs.length sc2] := Box.new _ _ _
  have z8 : Hid (w6.heap.size + 1 ≤ (w6.alloc (.cells #[.slice sa2 s.bs.length sc2] 47)).heap.size) := by simp [Hid]
  replace hW := hW.trans (hb.mono hW.size)
  replace bs := bs.keep hb
  replace hs := Sb.at_keep (Keeps.all hb) hs
  replace hp := D.rd_keep (Keeps.all hb) _ _ hp
  replace hr := Sb.at_keep (Keeps.all hb) hr
  replace Br0 := Br0.keep hb
  replace os2 := D.own_keep _ _ _ (Keeps.all hb) os2
  clear hb
  have ebs0 := bs.c0
  have lbs := bs.lt
  have eBr00 := Br0.c0
  have lBr0 := Br0.lt
  have eBs20 := Bs2.c0
  have lBs2 := Bs2.lt
  go_wp2_with fail
  generalize (w6.alloc (.cells #[.slice sa2 s.bs.length sc2] 47)) = w6b at *
  refine (toStrS_any p hp hbp).mono ?_
  rintro e w7 ⟨_, Fp2, rfl, op2, lp2, hb⟩
  have z9 : Hid (w6b.heap.size ≤ w7.heap.size) := hb.size
  replace hW := hW.trans (hb.mono hW.size)
  replace bs := bs.keep hb
  replace hs := Sb.at_keep (Keeps.all hb) hs
  replace hp := D.rd_keep (Keeps.all hb) _ _ hp
  replace hr := Sb.at_keep (Keeps.all hb) hr
  replace Br0 := Br0.keep hb
  replace os2 := D.own_keep _ _ _ (Keeps.all hb) os2
  replace Bs2 := Bs2.keep hb
  clear ebs0 lbs eBr00 lBr0 eBs20 lBs2 hb
  obtain ⟨pa2, pc2, rfl, -, -⟩ := slOf_form (D.own_rd _ _ _ op2)
  have up2 := D.own_lt _ _ _ op2
  have ebs0 := bs.c0
  have lbs := bs.lt
  have eBr00 := Br0.c0
  have lBr0 := Br0.lt
  have eBs20 := Bs2.c0
  have lBs2 := Bs2.lt
  go_wp2_with fail
  have hq := impl_RestrictSubstitution (Sb.at_of os2) hbs (D.rd_all (D.own_rd _ _ _ op2)) hbp
  rw [Hr.out, Hok.out] at hq
  refine hq.mono ?_
  clear hq
  rintro e w8 ⟨_, Fr1, rfl, or1, lr1, hb⟩
  have z10 : Hid (w7.heap.size ≤ w8.heap.size) := hb.size
  replace hW := hW.trans (hb.mono hW.size)
  replace bs := bs.keep hb
  replace hs := Sb.at_keep (Keeps.all hb) hs
  replace hp := D.rd_keep (Keeps.all hb) _ _ hp
  replace hr := Sb.at_keep (Keeps.all hb) hr
  replace Br0 := Br0.keep hb
  replace os2 := D.own_keep _ _ _ (Keeps.all hb) os2
  replace Bs2 := Bs2.keep hb
  replace op2 := D.own_keep _ _ _ (Keeps.all hb) op2
  clear ebs0 lbs eBr00 lBr0 eBs20 lBs2 hb
  obtain ⟨ra1, rc1, rfl⟩ := Bnd.sd_own_form or1
  have ur1 := D.own_lt _ _ _ or1
  have hb : Below w8.heap.size w8 (w8.alloc (.cells #[.slice ra1 r.bs.length rc1] 47)) := (Below.refl _ _).alloc (Nat.le_refl _) _
  have Br1 : Box (w8.alloc (.cells #[.slice ra1 r.bs.length rc1] 47)) w8.heap.size [.slice ra1 r.bs.length rc1] := Box.new _ _ _
  have z11 : Hid (w8.heap.size + 1 ≤ (w8.alloc (.cells #[.slice ra1 r.bs.length rc1] 47)).heap.size) := by simp [Hid]
  replace hW := hW.trans (hb.mono hW.size)
  replace bs := bs.keep hb
  replace hs := Sb.at_keep (Keeps.all hb) hs
  replace hp := D.rd_keep (Keeps.all hb) _ _ hp
  replace hr := Sb.at_keep (Keeps.all hb) hr
  replace Br0 := Br0.keep hb
  replace os2 := D.own_keep _ _ _ (Keeps.all hb) os2
  replace Bs2 := Bs2.keep hb
  replace op2 := D.own_keep _ _ _ (Keeps.all hb) op2
  replace or1 := D.own_keep _ _ _ (Keeps.all hb) or1
  clear hb
  have ebs0 := bs.c0
  have lbs := bs.lt
  have eBr00 := Br0.c0
  have lBr0 := Br0.lt
  have eBs20 := Bs2.c0
  have lBs2 := Bs2.lt
  have eBr10 := Br1.c0
  have lBr1 := Br1.lt
  go_wp2_with fail
  generalize (w8.alloc (.cells #[.slice ra1 r.bs.length rc1] 47)) = w8b at *
  refine (eqSb_refl (Sb.at_of or1) (Sb.at_all hr)).mono ?_
  rintro e w9 ⟨_, rfl, hb, rfl⟩
  have z12 : Hid (w8b.heap.size ≤ w9.heap.size) := hb.size
  replace hW := hW.trans (hb.mono hW.size)
  replace bs := bs.keep hb
  replace hs := Sb.at_keep (Keeps.all hb) hs
  replace hp := D.rd_keep (Keeps.all hb) _ _ hp
  replace hr := Sb.at_keep (Keeps.all hb) hr
  replace Br0 := Br0.keep hb
  replace os2 := D.own_keep _ _ _ (Keeps.all hb) os2
  replace Bs2 := Bs2.keep hb
  replace op2 := D.own_keep _ _ _ (Keeps.all hb) op2
  replace or1 := D.own_keep _ _ _ (Keeps.all hb) or1
  replace Br1 := Br1.keep hb
  clear ebs0 lbs eBr00 lBr0 eBs20 lBs2 eBr10 lBr1 hb
  have ebs0 := bs.c0
  have lbs := bs.lt
  have eBr00 := Br0.c0
  have lBr0 := Br0.lt
  have eBs20 := Bs2.c0
  have lBs2 := Bs2.lt
  have eBr10 := Br1.c0
  have lBr1 := Br1.lt
  go_wp2_with fail
  refine wp_region_B [fun v _ => v = .agg #[.slice sa2 s.bs.length sc2], fun v _ => v = .agg #[.slice sa0 s.bs.length sc0], IsS s, fun v _ => v = .bool true, fun v _ => v = .bool false] _ (fun V => by simp [putAll, Act.put]; rfl) (by kernel_rfl) (by decide) (by simp) (by kernel_rfl) ?_ ?_ ?_
  · intro F hF
    simp only [List.mem_cons, List.not_mem_nil, or_false] at hF
    rcases hF with rfl | rfl | rfl | rfl | rfl
    · exact stable_eq
    · exact stable_eq
    · exact IsS.stable
    · exact stable_eq
    · exact stable_eq
  · refine ⟨?_, ?_, ?_, ?_, ?_, trivial⟩
    · intro V w1 hbR _
      obtain ⟨hc, hf⟩ := bcell hbR
      try simp only [World.size_alloc, World.size_setCell] at hc hf
      unfold Does
      go_simp
      exact ⟨Below.refl _ _, rfl⟩
    · intro V w1 hbR _
      obtain ⟨hc, hf⟩ := bcell hbR
      try simp only [World.size_alloc, World.size_setCell] at hc hf
      unfold Does
      go_simp
      exact ⟨Below.refl _ _, rfl⟩
    · intro V w1 hbR ⟨f1, _⟩
      replace f1 : V 1 = .agg #[.slice sa0 s.bs.length sc0] := f1
      obtain ⟨hc, hf⟩ := bcell hbR
      try simp only [World.size_alloc, World.size_setCell] at hc hf
      unfold Does
      go_simp
      exact toSb_is (Sb.at_all (Sb.at_keep (Keeps.all hbR) hs)) hbs
    · intro V w1 hbR ⟨f0, f2, _, _⟩
      replace f0 : V 0 = .agg #[.slice sa2 s.bs.length sc2] := f0
      replace f2 : (IsS s) (V 2) w1 := f2
      obtain ⟨_, _, E2, g2⟩ := IsS.form f2
      obtain ⟨hc, hf⟩ := bcell hbR
      try simp only [World.size_alloc, World.size_setCell] at hc hf
      unfold Does
      go_simp
      exact eqSb_refl (Sb.at_of (D.own_keep _ _ _ (Keeps.all hbR) os2)) g2
    · intro V w1 hbR ⟨f3, _⟩
      replace f3 : V 3 = .bool true := f3
      unfold Does
      go_simp
      exact ⟨Below.refl _ _, rfl⟩
  intro V w10 hbR hfR
  obtain ⟨f0, f1, f2, f3, f4, _⟩ := hfR
  replace f0 : V 0 = .agg #[.slice sa2 s.bs.length sc2] := f0
  replace f1 : V 1 = .agg #[.slice sa0 s.bs.length sc0] := f1
  replace f2 : (IsS s) (V 2) w10 := f2
  replace f3 : V 3 = .bool true := f3
  replace f4 : V 4 = .bool false := f4
  simp only [f0, f1, f3, f4]
  clear f0 f1 f3 f4
  have hb := hbR
  have z13 : Hid (w9.heap.size ≤ w10.heap.size) := hb.size
  replace hW := hW.trans (hb.mono hW.size)
  replace bs := bs.keep hb
  replace hs := Sb.at_keep (Keeps.all hb) hs
  replace hp := D.rd_keep (Keeps.all hb) _ _ hp
  replace hr := Sb.at_keep (Keeps.all hb) hr
  replace Br0 := Br0.keep hb
  replace os2 := D.own_keep _ _ _ (Keeps.all hb) os2
  replace Bs2 := Bs2.keep hb
  replace op2 := D.own_keep _ _ _ (Keeps.all hb) op2
  replace or1 := D.own_keep _ _ _ (Keeps.all hb) or1
  replace Br1 := Br1.keep hb
  clear ebs0 lbs eBr00 lBr0 eBs20 lBs2 eBr10 lBr1 hb hbR f2
  have ebs0 := bs.c0
  have lbs := bs.lt
  have eBr00 := Br0.c0
  have lBr0 := Br0.lt
  have eBs20 := Bs2.c0
  have lBs2 := Bs2.lt
  have eBr10 := Br1.c0
  have lBr1 := Br1.lt
  go_wp2_with fail
  refine (toStrS_any p hp hbp).mono ?_
  rintro e w11 ⟨_, Fp3, rfl, op3, lp3, hb⟩
  have z14 : Hid (w10.heap.size ≤ w11.heap.size) := hb.size
  replace hW := hW.trans (hb.mono hW.size)
  replace bs := bs.keep hb
  replace hs := Sb.at_keep (Keeps.all hb) hs
  replace hp := D.rd_keep (Keeps.all hb) _ _ hp
  replace hr := Sb.at_keep (Keeps.all hb) hr
  replace Br0 := Br0.keep hb
  replace os2 := D.own_keep _ _ _ (Keeps.all hb) os2
  replace Bs2 := Bs2.keep hb
  replace op2 := D.own_keep _ _ _ (Keeps.all hb) op2
  replace or1 := D.own_keep _ _ _ (Keeps.all hb) or1
  replace Br1 := Br1.keep hb
  clear ebs0 lbs eBr00 lBr0 eBs20 lBs2 eBr10 lBr1 hb
  obtain ⟨pa3, pc3, rfl, -, -⟩ := slOf_form (D.own_rd _ _ _ op3)
  have up3 := D.own_lt _ _ _ op3
  have ebs0 := bs.c0
  have lbs := bs.lt
  have eBr00 := Br0.c0
  have lBr0 := Br0.lt
  have eBs20 := Bs2.c0
  have lBs2 := Bs2.lt
  have eBr10 := Br1.c0
  have lBr1 := Br1.lt
  go_wp2_with fail
  refine (eqStrS_refl (D.rd_all (D.own_rd _ _ _ op2)) (D.rd_all (D.own_rd _ _ _ op3))).mono ?_
  rintro e w12 ⟨_, rfl, hb, rfl⟩
  have z15 : Hid (w11.heap.size ≤ w12.heap.size) := hb.size
  replace hW := hW.trans (hb.mono hW.size)
  replace bs := bs.keep hb
  replace hs := Sb.at_keep (Keeps.all hb) hs
  replace hp := D.rd_keep (Keeps.all hb) _ _ hp
  replace hr := Sb.at_keep (Keeps.all hb) hr
  replace Br0 := Br0.keep hb
  replace os2 := D.own_keep _ _ _ (Keeps.all hb) os2
  replace Bs2 := Bs2.keep hb
  replace op2 := D.own_keep _ _ _ (Keeps.all hb) op2
  replace or1 := D.own_keep _ _ _ (Keeps.all hb) or1
  replace Br1 := Br1.keep hb
  replace op3 := D.own_keep _ _ _ (Keeps.all hb) op3
  clear ebs0 lbs eBr00 lBr0 eBs20 lBs2 eBr10 lBr1 hb
  clear op3
  clear lp3 up3
  have ebs0 := bs.c0
  have lbs := bs.lt
  have eBr00 := Br0.c0
  have lBr0 := Br0.lt
  have eBs20 := Bs2.c0
  have lBs2 := Bs2.lt
  have eBr10 := Br1.c0
  have lBr1 := Br1.lt
  go_wp2_with fail
  obtain ⟨k0, Hk0⟩ : ∃ n : Nat, Hid (1 + c3 (bndAs s.bs) = n) := ⟨_, hid rfl⟩
  have hq := markSb_any s.bs 1 (by have := c3_le_bulkB s; have := (show p.length ≤ p.length ∧ p.length ≤ strBulk p from ⟨Nat.le_refl _, by unfold strBulk; omega⟩); have := Hk0.out; omega) os2
  rw [Hk0.out] at hq
  rw [show ((1 : Nat) : Int) = 1 from rfl] at hq
  have nk0 : ¬ ((k0 : Nat) : Int) < 0 := by omega
  refine hq.mono ?_
  clear hq
  rintro e w13 ⟨rfl, hm, oM⟩
  clear os2
  have z16 : Hid (w12.heap.size ≤ w13.heap.size) := hm.size
  replace hW := hW.trans (hm.2 _ hW.size (fun y hy => by have q1 := ls2 y hy; have := z0.out; have := z1.out; have := z2.out; have := z3.out; have := z4.out; have := z5.out; have := z6.out; have := z7.out; have := z8.out; have := z9.out; have := z10.out; have := z11.out; have := z12.out; have := z13.out; have := z14.out; have := z15.out; have := z16.out; omega))
  replace bs := bs.marked hm (fun q => by have q1 := ls2 _ q; have q2 := us2 _ q; have := z0.out; have := z1.out; have := z2.out; have := z3.out; have := z4.out; have := z5.out; have := z6.out; have := z7.out; have := z8.out; have := z9.out; have := z10.out; have := z11.out; have := z12.out; have := z13.out; have := z14.out; have := z15.out; have := z16.out; omega)
  replace hs := Sb.at_keep (hm.lt (fun y q => by have q1 := ls2 y q; have := z0.out; have := z1.out; have := z2.out; have := z3.out; have := z4.out; have := z5.out; have := z6.out; have := z7.out; have := z8.out; have := z9.out; have := z10.out; have := z11.out; have := z12.out; have := z13.out; have := z14.out; have := z15.out; have := z16.out; omega)) hs
  replace hp := D.rd_keep (hm.lt (fun y q => by have q1 := ls2 y q; have := z0.out; have := z1.out; have := z2.out; have := z3.out; have := z4.out; have := z5.out; have := z6.out; have := z7.out; have := z8.out; have := z9.out; have := z10.out; have := z11.out; have := z12.out; have := z13.out; have := z14.out; have := z15.out; have := z16.out; omega)) _ _ hp
  replace hr := Sb.at_keep (hm.lt (fun y q => by have q1 := ls2 y q; have := z0.out; have := z1.out; have := z2.out; have := z3.out; have := z4.out; have := z5.out; have := z6.out; have := z7.out; have := z8.out; have := z9.out; have := z10.out; have := z11.out; have := z12.out; have := z13.out; have := z14.out; have := z15.out; have := z16.out; omega)) hr
  replace Br0 := Br0.marked hm (fun q => by have q1 := ls2 _ q; have q2 := us2 _ q; have := z0.out; have := z1.out; have := z2.out; have := z3.out; have := z4.out; have := z5.out; have := z6.out; have := z7.out; have := z8.out; have := z9.out; have := z10.out; have := z11.out; have := z12.out; have := z13.out; have := z14.out; have := z15.out; have := z16.out; omega)
  replace Bs2 := Bs2.marked hm (fun q => by have q1 := ls2 _ q; have q2 := us2 _ q; have := z0.out; have := z1.out; have := z2.out; have := z3.out; have := z4.out; have := z5.out; have := z6.out; have := z7.out; have := z8.out; have := z9.out; have := z10.out; have := z11.out; have := z12.out; have := z13.out; have := z14.out; have := z15.out; have := z16.out; omega)
  replace op2 := D.own_keep _ _ _ (hm.apart (fun y hy q => by have q1 := ls2 y q; have q2 := us2 y q; have q3 := lp2 y hy; have q4 := up2 y hy; have := z0.out; have := z1.out; have := z2.out; have := z3.out; have := z4.out; have := z5.out; have := z6.out; have := z7.out; have := z8.out; have := z9.out; have := z10.out; have := z11.out; have := z12.out; have := z13.out; have := z14.out; have := z15.out; have := z16.out; omega)) op2
  replace or1 := D.own_keep _ _ _ (hm.apart (fun y hy q => by have q1 := ls2 y q; have q2 := us2 y q; have q3 := lr1 y hy; have q4 := ur1 y hy; have := z0.out; have := z1.out; have := z2.out; have := z3.out; have := z4.out; have := z5.out; have := z6.out; have := z7.out; have := z8.out; have := z9.out; have := z10.out; have := z11.out; have := z12.out; have := z13.out; have := z14.out; have := z15.out; have := z16.out; omega)) or1
  replace Br1 := Br1.marked hm (fun q => by have q1 := ls2 _ q; have q2 := us2 _ q; have := z0.out; have := z1.out; have := z2.out; have := z3.out; have := z4.out; have := z5.out; have := z6.out; have := z7.out; have := z8.out; have := z9.out; have := z10.out; have := z11.out; have := z12.out; have := z13.out; have := z14.out; have := z15.out; have := z16.out; omega)
  clear ebs0 lbs eBr00 lBr0 eBs20 lBs2 eBr10 lBr1 hm
  clear oM ls2 us2
  have ebs0 := bs.c0
  have lbs := bs.lt
  have eBr00 := Br0.c0
  have lBr0 := Br0.lt
  have eBs20 := Bs2.c0
  have lBs2 := Bs2.lt
  have eBr10 := Br1.c0
  have lBr1 := Br1.lt
  go_wp2_with fail
  obtain ⟨k1, Hk1⟩ : ∃ n : Nat, Hid (k0 + p.length = n) := ⟨_, hid rfl⟩
  have hq := markStrS_any p k0 (by have := c3_le_bulkB s; have := (show p.length ≤ p.length ∧ p.length ≤ strBulk p from ⟨Nat.le_refl _, by unfold strBulk; omega⟩); have := Hk0.out; have := Hk1.out; omega) op2
  rw [Hk1.out] at hq
  have nk1 : ¬ ((k1 : Nat) : Int) < 0 := by omega
  refine hq.mono ?_
  clear hq
  rintro e w14 ⟨rfl, hm, oM⟩
  clear op2
  have z17 : Hid (w13.heap.size ≤ w14.heap.size) := hm.size
  replace hW := hW.trans (hm.2 _ hW.size (fun y hy => by have q1 := lp2 y hy; have := z0.out; have := z1.out; have := z2.out; have := z3.out; have := z4.out; have := z5.out; have := z6.out; have := z7.out; have := z8.out; have := z9.out; have := z10.out; have := z11.out; have := z12.out; have := z13.out; have := z14.out; have := z15.out; have := z16.out; have := z17.out; omega))
  replace bs := bs.marked hm (fun q => by have q1 := lp2 _ q; have q2 := up2 _ q; have := z0.out; have := z1.out; have := z2.out; have := z3.out; have := z4.out; have := z5.out; have := z6.out; have := z7.out; have := z8.out; have := z9.out; have := z10.out; have := z11.out; have := z12.out; have := z13.out; have := z14.out; have := z15.out; have := z16.out; have := z17.out; omega)
  replace hs := Sb.at_keep (hm.lt (fun y q => by have q1 := lp2 y q; have := z0.out; have := z1.out; have := z2.out; have := z3.out; have := z4.out; have := z5.out; have := z6.out; have := z7.out; have := z8.out; have := z9.out; have := z10.out; have := z11.out; have := z12.out; have := z13.out; have := z14.out; have := z15.out; have := z16.out; have := z17.out; omega)) hs
  replace hp := D.rd_keep (hm.lt (fun y q => by have q1 := lp2 y q; have := z0.out; have := z1.out; have := z2.out; have := z3.out; have := z4.out; have := z5.out; have := z6.out; have := z7.out; have := z8.out; have := z9.out; have := z10.out; have := z11.out; have := z12.out; have := z13.out; have := z14.out; have := z15.out; have := z16.out; have := z17.out; omega)) _ _ hp
  replace hr := Sb.at_keep (hm.lt (fun y q => by have q1 := lp2 y q; have := z0.out; have := z1.out; have := z2.out; have := z3.out; have := z4.out; have := z5.out; have := z6.out; have := z7.out; have := z8.out; have := z9.out; have := z10.out; have := z11.out; have := z12.out; have := z13.out; have := z14.out; have := z15.out; have := z16.out; have := z17.out; omega)) hr
  replace Br0 := Br0.marked hm (fun q => by have q1 := lp2 _ q; have q2 := up2 _ q; have := z0.out; have := z1.out; have := z2.out; have := z3.out; have := z4.out; have := z5.out; have := z6.out; have := z7.out; have := z8.out; have := z9.out; have := z10.out; have := z11.out; have := z12.out; have := z13.out; have := z14.out; have := z15.out; have := z16.out; have := z17.out; omega)
  replace Bs2 := Bs2.marked hm (fun q => by have q1 := lp2 _ q; have q2 := up2 _ q; have := z0.out; have := z1.out; have := z2.out; have := z3.out; have := z4.out; have := z5.out; have := z6.out; have := z7.out; have := z8.out; have := z9.out; have := z10.out; have := z11.out; have := z12.out; have := z13.out; have := z14.out; have := z15.out; have := z16.out; have := z17.out; omega)
  replace or1 := D.own_keep _ _ _ (hm.apart (fun y hy q => by have q1 := lp2 y q; have q2 := up2 y q; have q3 := lr1 y hy; have q4 := ur1 y hy; have := z0.out; have := z1.out; have := z2.out; have := z3.out; have := z4.out; have := z5.out; have := z6.out; have := z7.out; have := z8.out; have := z9.out; have := z10.out; have := z11.out; have := z12.out; have := z13.out; have := z14.out; have := z15.out; have := z16.out; have := z17.out; omega)) or1
  replace Br1 := Br1.marked hm (fun q => by have q1 := lp2 _ q; have q2 := up2 _ q; have := z0.out; have := z1.out; have := z2.out; have := z3.out; have := z4.out; have := z5.out; have := z6.out; have := z7.out; have := z8.out; have := z9.out; have := z10.out; have := z11.out; have := z12.out; have := z13.out; have := z14.out; have := z15.out; have := z16.out; have := z17.out; omega)
  clear ebs0 lbs eBr00 lBr0 eBs20 lBs2 eBr10 lBr1 hm
  clear oM lp2 up2
  have ebs0 := bs.c0
  have lbs := bs.lt
  have eBr00 := Br0.c0
  have lBr0 := Br0.lt
  have eBs20 := Bs2.c0
  have lBs2 := Bs2.lt
  have eBr10 := Br1.c0
  have lBr1 := Br1.lt
  go_wp2_with fail
  refine (eqSb_refl (Sb.at_of or1) (Sb.at_all hr)).mono ?_
  rintro e w15 ⟨_, rfl, hb, rfl⟩
  have z18 : Hid (w14.heap.size ≤ w15.heap.size) := hb.size
  replace hW := hW.trans (hb.mono hW.size)
  replace bs := bs.keep hb
  replace hs := Sb.at_keep (Keeps.all hb) hs
  replace hp := D.rd_keep (Keeps.all hb) _ _ hp
  replace hr := Sb.at_keep (Keeps.all hb) hr
  replace Br0 := Br0.keep hb
  replace Bs2 := Bs2.keep hb
  replace or1 := D.own_keep _ _ _ (Keeps.all hb) or1
  replace Br1 := Br1.keep hb
  clear ebs0 lbs eBr00 lBr0 eBs20 lBs2 eBr10 lBr1 hb
  have ebs0 := bs.c0
  have lbs := bs.lt
  have eBr00 := Br0.c0
  have lBr0 := Br0.lt
  have eBs20 := Bs2.c0
  have lBs2 := Bs2.lt
  have eBr10 := Br1.c0
  have lBr1 := Br1.lt
  go_wp2_with fail
  have hq := markSb_any r.bs 1 hcr or1
  rw [Hrm.out] at hq
  rw [show ((1 : Nat) : Int) = 1 from rfl] at hq
  refine hq.mono ?_
  clear hq
  rintro e w16 ⟨rfl, hm, oM⟩
  clear or1
  have z19 : Hid (w15.heap.size ≤ w16.heap.size) := hm.size
  replace hW := hW.trans (hm.2 _ hW.size (fun y hy => by have q1 := lr1 y hy; have := z0.out; have := z1.out; have := z2.out; have := z3.out; have := z4.out; have := z5.out; have := z6.out; have := z7.out; have := z8.out; have := z9.out; have := z10.out; have := z11.out; have := z12.out; have := z13.out; have := z14.out; have := z15.out; have := z16.out; have := z17.out; have := z18.out; have := z19.out; omega))
  replace bs := bs.marked hm (fun q => by have q1 := lr1 _ q; have q2 := ur1 _ q; have := z0.out; have := z1.out; have := z2.out; have := z3.out; have := z4.out; have := z5.out; have := z6.out; have := z7.out; have := z8.out; have := z9.out; have := z10.out; have := z11.out; have := z12.out; have := z13.out; have := z14.out; have := z15.out; have := z16.out; have := z17.out; have := z18.out; have := z19.out; omega)
  replace hs := Sb.at_keep (hm.lt (fun y q => by have q1 := lr1 y q; have := z0.out; have := z1.out; have := z2.out; have := z3.out; have := z4.out; have := z5.out; have := z6.out; have := z7.out; have := z8.out; have := z9.out; have := z10.out; have := z11.out; have := z12.out; have := z13.out; have := z14.out; have := z15.out; have := z16.out; have := z17.out; have := z18.out; have := z19.out; omega)) hs
  replace hp := D.rd_keep (hm.lt (fun y q => by have q1 := lr1 y q; have := z0.out; have := z1.out; have := z2.out; have := z3.out; have := z4.out; have := z5.out; have := z6.out; have := z7.out; have := z8.out; have := z9.out; have := z10.out; have := z11.out; have := z12.out; have := z13.out; have := z14.out; have := z15.out; have := z16.out; have := z17.out; have := z18.out; have := z19.out; omega)) _ _ hp
  replace hr := Sb.at_keep (hm.lt (fun y q => by have q1 := lr1 y q; have := z0.out; have := z1.out; have := z2.out; have := z3.out; have := z4.out; have := z5.out; have := z6.out; have := z7.out; have := z8.out; have := z9.out; have := z10.out; have := z11.out; have := z12.out; have := z13.out; have := z14.out; have := z15.out; have := z16.out; have := z17.out; have := z18.out; have := z19.out; omega)) hr
  replace Br0 := Br0.marked hm (fun q => by have q1 := lr1 _ q; have q2 := ur1 _ q; have := z0.out; have := z1.out; have := z2.out; have := z3.out; have := z4.out; have := z5.out; have := z6.out; have := z7.out; have := z8.out; have := z9.out; have := z10.out; have := z11.out; have := z12.out; have := z13.out; have := z14.out; have := z15.out; have := z16.out; have := z17.out; have := z18.out; have := z19.out; omega)
  replace Bs2 := Bs2.marked hm (fun q => by have q1 := lr1 _ q; have q2 := ur1 _ q; have := z0.out; have := z1.out; have := z2.out; have := z3.out; have := z4.out; have := z5.out; have := z6.out; have := z7.out; have := z8.out; have := z9.out; have := z10.out; have := z11.out; have := z12.out; have := z13.out; have := z14.out; have := z15.out; have := z16.out; have := z17.out; have := z18.out; have := z19.out; omega)
  replace Br1 := Br1.marked hm (fun q => by have q1 := lr1 _ q; have q2 := ur1 _ q; have := z0.out; have := z1.out; have := z2.out; have := z3.out; have := z4.out; have := z5.out; have := z6.out; have := z7.out; have := z8.out; have := z9.out; have := z10.out; have := z11.out; have := z12.out; have := z13.out; have := z14.out; have := z15.out; have := z16.out; have := z17.out; have := z18.out; have := z19.out; omega)
  clear ebs0 lbs eBr00 lBr0 eBs20 lBs2 eBr10 lBr1 hm
  have oM0 := oM
  clear oM
  have ebs0 := bs.c0
  have lbs := bs.lt
  have eBr00 := Br0.c0
  have lBr0 := Br0.lt
  have eBs20 := Bs2.c0
  have lBs2 := Bs2.lt
  have eBr10 := Br1.c0
  have lBr1 := Br1.lt
  go_wp2_with fail
  have hq := heldSb_any r.bs 1 hcr (D.own_rd _ _ _ oM0)
  rw [Hrm.out] at hq
  rw [show ((1 : Nat) : Int) = 1 from rfl] at hq
  refine hq.mono ?_
  clear hq
  rintro e w17 ⟨_, rfl, hb, rfl⟩
  have z20 : Hid (w16.heap.size ≤ w17.heap.size) := hb.size
  replace hW := hW.trans (hb.mono hW.size)
  replace bs := bs.keep hb
  replace hs := Sb.at_keep (Keeps.all hb) hs
  replace hp := D.rd_keep (Keeps.all hb) _ _ hp
  replace hr := Sb.at_keep (Keeps.all hb) hr
  replace Br0 := Br0.keep hb
  replace Bs2 := Bs2.keep hb
  replace Br1 := Br1.keep hb
  replace oM0 := D.own_keep _ _ _ (Keeps.all hb) oM0
  clear ebs0 lbs eBr00 lBr0 eBs20 lBs2 eBr10 lBr1 hb
  have ebs0 := bs.c0
  have lbs := bs.lt
  have eBr00 := Br0.c0
  have lBr0 := Br0.lt
  have eBs20 := Bs2.c0
  have lBs2 := Bs2.lt
  have eBr10 := Br1.c0
  have lBr1 := Br1.lt
  go_wp2_with fail
  refine (toSb_any s _ _ _ hs hbs).mono ?_
  rintro e w18 ⟨_, Fs3, rfl, os3, ls3, hb⟩
  have z21 : Hid (w17.heap.size ≤ w18.heap.size) := hb.size
  replace hW := hW.trans (hb.mono hW.size)
  replace bs := bs.keep hb
  replace hs := Sb.at_keep (Keeps.all hb) hs
  replace hp := D.rd_keep (Keeps.all hb) _ _ hp
  replace hr := Sb.at_keep (Keeps.all hb) hr
  replace Br0 := Br0.keep hb
  replace Bs2 := Bs2.keep hb
  replace Br1 := Br1.keep hb
  replace oM0 := D.own_keep _ _ _ (Keeps.all hb) oM0
  clear ebs0 lbs eBr00 lBr0 eBs20 lBs2 eBr10 lBr1 hb
  obtain ⟨sa3, sc3, rfl⟩ := Bnd.sd_own_form os3
  have us3 := D.own_lt _ _ _ os3
  have ebs0 := bs.c0
  have lbs := bs.lt
  have eBr00 := Br0.c0
  have lBr0 := Br0.lt
  have eBs20 := Bs2.c0
  have lBs2 := Bs2.lt
  have eBr10 := Br1.c0
  have lBr1 := Br1.lt
  go_wp2_with fail
  refine (toStrS_any p hp hbp).mono ?_
  rintro e w19 ⟨_, Fp4, rfl, op4, lp4, hb⟩
  have z22 : Hid (w18.heap.size ≤ w19.heap.size) := hb.size
  replace hW := hW.trans (hb.mono hW.size)
  replace bs := bs.keep hb
  replace hs := Sb.at_keep (Keeps.all hb) hs
  replace hp := D.rd_keep (Keeps.all hb) _ _ hp
  replace hr := Sb.at_keep (Keeps.all hb) hr
  replace Br0 := Br0.keep hb
  replace Bs2 := Bs2.keep hb
  replace Br1 := Br1.keep hb
  replace oM0 := D.own_keep _ _ _ (Keeps.all hb) oM0
  replace os3 := D.own_keep _ _ _ (Keeps.all hb) os3
  clear ebs0 lbs eBr00 lBr0 eBs20 lBs2 eBr10 lBr1 hb
  obtain ⟨pa4, pc4, rfl, -, -⟩ := slOf_form (D.own_rd _ _ _ op4)
  have up4 := D.own_lt _ _ _ op4
  have ebs0 := bs.c0
  have lbs := bs.lt
  have eBr00 := Br0.c0
  have lBr0 := Br0.lt
  have eBs20 := Bs2.c0
  have lBs2 := Bs2.lt
  have eBr10 := Br1.c0
  have lBr1 := Br1.lt
  go_wp2_with fail
  have hq := impl_RestrictSubstitution (Sb.at_of os3) hbs (D.rd_all (D.own_rd _ _ _ op4)) hbp
  rw [Hr.out, Hok.out] at hq
  refine hq.mono ?_
  clear hq
  rintro e w20 ⟨_, Fr2, rfl, or2, lr2, hb⟩
  have z23 : Hid (w19.heap.size ≤ w20.heap.size) := hb.size
  replace hW := hW.trans (hb.mono hW.size)
  replace bs := bs.keep hb
  replace hs := Sb.at_keep (Keeps.all hb) hs
  replace hp := D.rd_keep (Keeps.all hb) _ _ hp
  replace hr := Sb.at_keep (Keeps.all hb) hr
  replace Br0 := Br0.keep hb
  replace Bs2 := Bs2.keep hb
  replace Br1 := Br1.keep hb
  replace oM0 := D.own_keep _ _ _ (Keeps.all hb) oM0
  replace os3 := D.own_keep _ _ _ (Keeps.all hb) os3
  replace op4 := D.own_keep _ _ _ (Keeps.all hb) op4
  clear ebs0 lbs eBr00 lBr0 eBs20 lBs2 eBr10 lBr1 hb
  obtain ⟨ra2, rc2, rfl⟩ := Bnd.sd_own_form or2
  have ur2 := D.own_lt _ _ _ or2
  clear os3
  clear ls3 us3
  clear op4
  clear lp4 up4
  have hb : Below w20.heap.size w20 (w20.alloc (.cells #[.slice ra2 r.bs.length rc2] 47)) := (Below.refl _ _).alloc (Nat.le_refl _) _
  have Br2 : Box (w20.alloc (.cells #[.slice ra2 r.bs.length rc2] 47)) w20.heap.size [.slice ra2 r.bs.length rc2] := Box.new _ _ _
  have z24 : Hid (w20.heap.size + 1 ≤ (w20.alloc (.cells #[.slice ra2 r.bs.length rc2] 47)).heap.size) := by simp [Hid]
  replace hW := hW.trans (hb.mono hW.size)
  replace bs := bs.keep hb
  replace hs := Sb.at_keep (Keeps.all hb) hs
  replace hp := D.rd_keep (Keeps.all hb) _ _ hp
  replace hr := Sb.at_keep (Keeps.all hb) hr
  replace Br0 := Br0.keep hb
  replace Bs2 := Bs2.keep hb
  replace Br1 := Br1.keep hb
  replace oM0 := D.own_keep _ _ _ (Keeps.all hb) oM0
  replace or2 := D.own_keep _ _ _ (Keeps.all hb) or2
  clear hb
  have ebs0 := bs.c0
  have lbs := bs.lt
  have eBr00 := Br0.c0
  have lBr0 := Br0.lt
  have eBs20 := Bs2.c0
  have lBs2 := Bs2.lt
  have eBr10 := Br1.c0
  have lBr1 := Br1.lt
  have eBr20 := Br2.c0
  have lBr2 := Br2.lt
  go_wp2_with fail
  generalize (w20.alloc (.cells #[.slice ra2 r.bs.length rc2] 47)) = w20b at *
  refine (eqSb_refl (Sb.at_of or2) (Sb.at_all hr)).mono ?_
  rintro e w21 ⟨_, rfl, hb, rfl⟩
  have z25 : Hid (w20b.heap.size ≤ w21.heap.size) := hb.size
  replace hW := hW.trans (hb.mono hW.size)
  replace bs := bs.keep hb
  replace hs := Sb.at_keep (Keeps.all hb) hs
  replace hp := D.rd_keep (Keeps.all hb) _ _ hp
  replace hr := Sb.at_keep (Keeps.all hb) hr
  replace Br0 := Br0.keep hb
  replace Bs2 := Bs2.keep hb
  replace Br1 := Br1.keep hb
  replace oM0 := D.own_keep _ _ _ (Keeps.all hb) oM0
  replace or2 := D.own_keep _ _ _ (Keeps.all hb) or2
  replace Br2 := Br2.keep hb
  clear ebs0 lbs eBr00 lBr0 eBs20 lBs2 eBr10 lBr1 eBr20 lBr2 hb
  have ebs0 := bs.c0
  have lbs := bs.lt
  have eBr00 := Br0.c0
  have lBr0 := Br0.lt
  have eBs20 := Bs2.c0
  have lBs2 := Bs2.lt
  have eBr10 := Br1.c0
  have lBr1 := Br1.lt
  have eBr20 := Br2.c0
  have lBr2 := Br2.lt
  go_wp2_with fail
  have hq := heldSb_any r.bs 1 hcr (D.own_rd _ _ _ oM0)
  rw [Hrm.out] at hq
  rw [show ((1 : Nat) : Int) = 1 from rfl] at hq
  refine hq.mono ?_
  clear hq
  rintro e w22 ⟨_, rfl, hb, rfl⟩
  have z26 : Hid (w21.heap.size ≤ w22.heap.size) := hb.size
  replace hW := hW.trans (hb.mono hW.size)
  replace bs := bs.keep hb
  replace hs := Sb.at_keep (Keeps.all hb) hs
  replace hp := D.rd_keep (Keeps.all hb) _ _ hp
  replace hr := Sb.at_keep (Keeps.all hb) hr
  replace Br0 := Br0.keep hb
  replace Bs2 := Bs2.keep hb
  replace Br1 := Br1.keep hb
  replace oM0 := D.own_keep _ _ _ (Keeps.all hb) oM0
  replace or2 := D.own_keep _ _ _ (Keeps.all hb) or2
  replace Br2 := Br2.keep hb
  clear ebs0 lbs eBr00 lBr0 eBs20 lBs2 eBr10 lBr1 eBr20 lBr2 hb
  have ebs0 := bs.c0
  have lbs := bs.lt
  have eBr00 := Br0.c0
  have lBr0 := Br0.lt
  have eBs20 := Bs2.c0
  have lBs2 := Bs2.lt
  have eBr10 := Br1.c0
  have lBr1 := Br1.lt
  have eBr20 := Br2.c0
  have lBr2 := Br2.lt
  go_wp2_with fail
  go_ret
  exact ⟨rfl, hW⟩

/-! the row -/
set_option maxRecDepth 100000 in
theorem lifted (os : Os) (started : os.Started) (H : Type) (enc : TypeId × Value → H) :
    ReturnsInHanded {} Try.checked os 4 .any (Rows.fnExactRestrictSubstitutionSpec.pre6 enc Try.prog Try.f4 Rows.fnExactRestrictSubstitutionRow.domain false) (Rows.fnExactRestrictSubstitutionSpec.post enc Try.prog Try.f4 false true false false) := by
  refine returnsInHanded_of_change (C := Try.checked) own started (by kernel_rfl) Try.func4
    (ChangeSpec.witness6 (enc := enc) (C := Try.checked) false ⟨#[], #[.agg #[.slice none 0 0], .slice none 0 0], []⟩ 8 (by kernel_rfl) (by kernel_rfl) (by kernel_rfl) (by kernel_rfl)) ?_
  intro W base args ds gs before hval0 hW _ _
  have hval : ∀ (j : Nat) t v, Try.f4.params[j]? = some t → args[j]? = some v → Value.okWide Try.prog W .any base t v := hval0
  have hW' := hW
  obtain ⟨p, q, hA0, hV, rfl, hfz, hnd⟩ := hW
  have hA : DataW.TrodAll enc Try.prog W 0 (fun _ => true) true Try.f4.params.toList args.toList ds p := hA0
  rw [Try.params4] at hA hval
  obtain ⟨v0, vs0, d0, ds0, p0, q0, hargs, rfl, rfl, h0, r0⟩ := trodAll_cons hA
  obtain ⟨v1, vs1, d1, ds1, p1, q1, rfl, rfl, rfl, h1, r1⟩ := trodAll_cons r0
  obtain ⟨rfl, rfl, rfl⟩ := trodAll_nil r1
  obtain rfl : args = #[v0, v1] := by cases args; simp_all
  obtain ⟨rfl, rfl⟩ := trodVars_none hV
  have k0 := h0
  have k1 := h1
  obtain ⟨s0, s, rfl, hs⟩ := open_Subst (hval 0 41 v0 rfl rfl) h0
  obtain ⟨p, hp⟩ := open_StringS (hval 1 42 v1 rfl rfl) h1
  clear hA0 hval0
  simp only [List.append_nil] at hW'
  have hlt0 : ∀ x ∈ p0, x.block < W.heap.size := fun x hx => hW'.lt x (by simp [hx])
  have hlt1 : ∀ x ∈ p1, x.block < W.heap.size := fun x hx => hW'.lt x (by simp [hx])
  refine (walk s0 s hs v1 p hp).mono fun e W' ⟨he, hb⟩ => ?_
  subst he
  exact ⟨_, rfl, [d0, d1], [], _, [], p0 ++ (p1 ++ []), [], by simpa using hW', trodAll_cons_mk (shut_bool Try.underlying4 _) trodAll_mk0, (trodAll_cons_mk (Below.trod laidOut (by kernel_rfl) (of_decide_eq_true (by kernel_rfl)) k0 hb hlt0) (trodAll_cons_mk (Below.trod laidOut (by kernel_rfl) (of_decide_eq_true (by kernel_rfl)) k1 hb hlt1) trodAll_mk0)), rfl, hb.frame _, fun h => by cases h⟩

theorem over : Rows.fnExactRestrictSubstitutionRow.holds Try.pinned (OpenSpec.ofChange Rows.fnExactRestrictSubstitutionSpec) :=
  OpenClaim.holds_of_wide 4 Try.f4 rfl rfl rfl rfl rfl rfl rfl ⟨rfl, rfl, rfl, rfl, rfl⟩ rfl rfl rfl rfl rfl (by kernel_rfl) Try.func4 (by kernel_rfl)
    (of_decide_eq_true (by kernel_rfl)) (by unfold Func.isWrapper; first | (rw [if_pos (by decide +kernel)]; kernel_rfl) | (rw [if_neg (by decide +kernel)]; exact ⟨rfl, rfl⟩))
    (fun os started H enc _ => lifted os started H enc)

theorem proved : Rows.FnExactRestrictSubstitutionSaid :=
  over
#print axioms proved
end Go.Proofs.Ytoblhgaohmfjeaa.fnExactRestrictSubstitution
