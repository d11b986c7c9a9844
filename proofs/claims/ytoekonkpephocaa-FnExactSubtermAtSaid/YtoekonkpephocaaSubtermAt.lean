/- For every input the law FnExactSubtermAt returns true, and each argument reads behind the call as it read before it. No conditions. -/
import Derived.Test.YtoekonkpephocaaRows
import Derived.Test.YtoekonkpephocaaBrT
import Derived.Test.YtoekonkpephocaaSz
import Derived.Test.YtoekonkpephocaaTo
import Derived.Test.YtoekonkpephocaaEq
import Derived.Test.YtoekonkpephocaaSu
import Derived.Test.YtoekonkpephocaaMw
import Derived.OpenShut
namespace Go.Proofs.Ytoekonkpephocaa.fnExactSubtermAt
set_option maxRecDepth 100000
open Go.ChangeShapes Go.WideShapes Go.ChangeAt Go.RowKit

set_option maxHeartbeats 4000000 in
theorem walk (t0 t1 : Value) (t : Tm) {w : World} (ht : Tm.at (fun _ => True) w t0 t1 t) (pv : Value) (p : List Int) (hp : D.rd (fun _ => True) w pv (slOf intE p)) :
    Calls Try.prog 5 #[.agg #[t0, t1], pv] w fun e w' => e = .returned (.bool true) ∧ Below w.heap.size w w' := by
  obtain ⟨rfl, hnt, ta0, tc0, rfl⟩ := Tm.at_form ht
  obtain ⟨pa0, pc0, rfl, -, -⟩ := slOf_form hp
  obtain ⟨r, Hr⟩ : ∃ r, Hid (subR t p = r) := ⟨_, hid rfl⟩
  obtain ⟨ok, Hok⟩ : ∃ ok : Bool, Hid (subOk t p = ok) := ⟨_, hid rfl⟩
  have hW : Below w.heap.size w (w.alloc (.cells #[.string t.name, .slice ta0 t.args.length tc0] 24)) := (Below.refl _ _).alloc (Nat.le_refl _) _
  have bt : Box (w.alloc (.cells #[.string t.name, .slice ta0 t.args.length tc0] 24)) (w.heap.size) [.string t.name, .slice ta0 t.args.length tc0] := by
    have := (Box.new w [.string t.name, .slice ta0 t.args.length tc0] 24)
    simpa only [World.size_alloc] using this
  replace ht := Tm.at_keep (Keeps.all hW) ht
  replace hp := D.rd_keep (Keeps.all hW) _ _ hp
  have z0 : Hid (w.heap.size + 1 ≤ (w.alloc (.cells #[.string t.name, .slice ta0 t.args.length tc0] 24)).heap.size) := by simp [Hid]
  go_enter Try.func5, Try.ntmps5
  by_cases hbp : p.length ≤ 1048576
  rotate_left
  · go_wp2_with fail
    go_ret
    exact ⟨rfl, hW⟩
  have ebt0 := bt.c0
  have ebt1 := bt.c1
  have lbt := bt.lt
  go_wp2_with fail
  generalize (w.alloc (.cells #[.string t.name, .slice ta0 t.args.length tc0] 24)) = w0 at *
  refine (szTerm_any t _ _ _ _ _ ht (by omega) (by omega)).mono ?_
  rintro e w1 ⟨rfl, hb⟩
  have z1 : Hid (w0.heap.size ≤ w1.heap.size) := hb.size
  replace hW := hW.trans (hb.mono hW.size)
  replace bt := bt.keep hb
  replace ht := Tm.at_keep (Keeps.all hb) ht
  replace hp := D.rd_keep (Keeps.all hb) _ _ hp
  clear ebt0 ebt1 lbt hb
  by_cases hzt : (t.bulk : Int) ≤ 1048576
  rotate_left
  · rw [after_neg (by omega)]
    go_wp2_with fail
    go_ret
    exact ⟨rfl, hW⟩
  rw [after_pos hzt]
  have hbt : t.bulk ≤ 1048576 := by omega
  have ebt0 := bt.c0
  have ebt1 := bt.c1
  have lbt := bt.lt
  go_wp2_with fail
  have hbr : r.bulk ≤ 1048576 := by
    rw [← Hr.out]
    exact subR_bulk t p hbt
  have hnr : r.name.size ≤ maxLen := Tm.name_le hbr
  have hcr : 1 + Tm.sizes r.args ≤ 1099511627776 := by
    have := Tm.sizes_le_bulk r
    omega
  obtain ⟨rm, Hrm⟩ : ∃ n : Nat, Hid (1 + Tm.sizes r.args = n) := ⟨_, hid rfl⟩
  have hrm : ¬ ((rm : Nat) : Int) < 0 := by omega
  refine (toTerm_any t _ _ _ _ ht hbt).mono ?_
  rintro e w2 ⟨_, Ft1, rfl, ot1, lt1, hb⟩
  have z2 : Hid (w1.heap.size ≤ w2.heap.size) := hb.size
  replace hW := hW.trans (hb.mono hW.size)
  replace bt := bt.keep hb
  replace ht := Tm.at_keep (Keeps.all hb) ht
  replace hp := D.rd_keep (Keeps.all hb) _ _ hp
  clear ebt0 ebt1 lbt hb
  obtain ⟨ta1, tc1, rfl⟩ := Tm.sd_own_form ot1
  have ut1 := D.own_lt _ _ _ ot1
  have ebt0 := bt.c0
  have ebt1 := bt.c1
  have lbt := bt.lt
  go_wp2_with fail
  refine (toIntS_any p hp hbp).mono ?_
  rintro e w3 ⟨_, Fp1, rfl, op1, lp1, hb⟩
  have z3 : Hid (w2.heap.size ≤ w3.heap.size) := hb.size
  replace hW := hW.trans (hb.mono hW.size)
  replace bt := bt.keep hb
  replace ht := Tm.at_keep (Keeps.all hb) ht
  replace hp := D.rd_keep (Keeps.all hb) _ _ hp
  replace ot1 := D.own_keep _ _ _ (Keeps.all hb) ot1
  clear ebt0 ebt1 lbt hb
  obtain ⟨pa1, pc1, rfl, -, -⟩ := slOf_form (D.own_rd _ _ _ op1)
  have up1 := D.own_lt _ _ _ op1
  have ebt0 := bt.c0
  have ebt1 := bt.c1
  have lbt := bt.lt
  go_wp2_with fail
  have hq := spec_SubtermAt (Tm.at_of hnt ot1) hbt (D.rd_all (D.own_rd _ _ _ op1)) hbp
  rw [Hr.out, Hok.out] at hq
  refine hq.mono ?_
  clear hq
  rintro e w4 ⟨_, Fr, rfl, oR, _, hb⟩
  have z4 : Hid (w3.heap.size ≤ w4.heap.size) := hb.size
  replace hW := hW.trans (hb.mono hW.size)
  replace bt := bt.keep hb
  replace ht := Tm.at_keep (Keeps.all hb) ht
  replace hp := D.rd_keep (Keeps.all hb) _ _ hp
  replace ot1 := D.own_keep _ _ _ (Keeps.all hb) ot1
  replace op1 := D.own_keep _ _ _ (Keeps.all hb) op1
  clear ebt0 ebt1 lbt hb
  obtain ⟨ra0, rc0, rfl⟩ := Tm.sd_own_form oR
  have hr := (Tm.at_of hnr oR)
  clear oR
  clear ot1
  clear lt1 ut1
  clear op1
  clear lp1 up1
  have hb : Below w4.heap.size w4 (w4.alloc (.cells #[.string r.name, .slice ra0 r.args.length rc0] 31)) := (Below.refl _ _).alloc (Nat.le_refl _) _
  have Br0 : Box (w4.alloc (.cells #[.string r.name, .slice ra0 r.args.length rc0] 31)) w4.heap.size [.string r.name, .slice ra0 r.args.length rc0] := Box.new _ _ _
  have z5 : Hid (w4.heap.size + 1 ≤ (w4.alloc (.cells #[.string r.name, .slice ra0 r.args.length rc0] 31)).heap.size) := by simp [Hid]
  replace hW := hW.trans (hb.mono hW.size)
  replace bt := bt.keep hb
  replace ht := Tm.at_keep (Keeps.all hb) ht
  replace hp := D.rd_keep (Keeps.all hb) _ _ hp
  replace hr := Tm.at_keep (Keeps.all hb) hr
  clear hb
  have ebt0 := bt.c0
  have ebt1 := bt.c1
  have lbt := bt.lt
  have eBr00 := Br0.c0
  have eBr01 := Br0.c1
  have lBr0 := Br0.lt
  go_wp2_with fail
  generalize (w4.alloc (.cells #[.string r.name, .slice ra0 r.args.length rc0] 31)) = w4b at *
  replace ht := Tm.at_lt ht
  replace hp := D.rd_lt _ _ hp
  replace hr := Tm.at_lt hr
  refine (toTerm_any t _ _ _ _ ht hbt).mono ?_
  rintro e w5 ⟨_, Ft2, rfl, ot2, lt2, hb⟩
  have z6 : Hid (w4b.heap.size ≤ w5.heap.size) := hb.size
  replace hW := hW.trans (hb.mono hW.size)
  replace bt := bt.keep hb
  replace ht := Tm.at_keep (Keeps.all hb) ht
  replace hp := D.rd_keep (Keeps.all hb) _ _ hp
  replace hr := Tm.at_keep (Keeps.all hb) hr
  replace Br0 := Br0.keep hb
  clear ebt0 ebt1 lbt eBr00 eBr01 lBr0 hb
  obtain ⟨ta2, tc2, rfl⟩ := Tm.sd_own_form ot2
  have ut2 := D.own_lt _ _ _ ot2
  have hb : Below w5.heap.size w5 (w5.alloc (.cells #[.string t.name, .slice ta2 t.args.length tc2] 31)) := (Below.refl _ _).alloc (Nat.le_refl _) _
  have Bt2 : Box (w5.alloc (.cells #[.string t.name, .slice ta2 t.args.length tc2] 31)) w5.heap.size [.string t.name, .slice ta2 t.args.length tc2] := Box.new _ _ _
  have z7 : Hid (w5.heap.size + 1 ≤ (w5.alloc (.cells #[.string t.name, .slice ta2 t.args.length tc2] 31)).heap.size) := by simp [Hid]
  replace hW := hW.trans (hb.mono hW.size)
  replace bt := bt.keep hb
  replace ht := Tm.at_keep (Keeps.all hb) ht
  replace hp := D.rd_keep (Keeps.all hb) _ _ hp
  replace hr := Tm.at_keep (Keeps.all hb) hr
  replace Br0 := Br0.keep hb
  replace ot2 := D.own_keep _ _ _ (Keeps.all hb) ot2
  clear hb
  have ebt0 := bt.c0
  have ebt1 := bt.c1
  have lbt := bt.lt
  have eBr00 := Br0.c0
  have eBr01 := Br0.c1
  have lBr0 := Br0.lt
  have eBt20 := Bt2.c0
  have eBt21 := Bt2.c1
  have lBt2 := Bt2.lt
  go_wp2_with fail
  generalize (w5.alloc (.cells #[.string t.name, .slice ta2 t.args.length tc2] 31)) = w5b at *
  refine (toIntS_any p hp hbp).mono ?_
  rintro e w6 ⟨_, Fp2, rfl, op2, lp2, hb⟩
  have z8 : Hid (w5b.heap.size ≤ w6.heap.size) := hb.size
  replace hW := hW.trans (hb.mono hW.size)
  replace bt := bt.keep hb
  replace ht := Tm.at_keep (Keeps.all hb) ht
  replace hp := D.rd_keep (Keeps.all hb) _ _ hp
  replace hr := Tm.at_keep (Keeps.all hb) hr
  replace Br0 := Br0.keep hb
  replace ot2 := D.own_keep _ _ _ (Keeps.all hb) ot2
  replace Bt2 := Bt2.keep hb
  clear ebt0 ebt1 lbt eBr00 eBr01 lBr0 eBt20 eBt21 lBt2 hb
  obtain ⟨pa2, pc2, rfl, -, -⟩ := slOf_form (D.own_rd _ _ _ op2)
  have up2 := D.own_lt _ _ _ op2
  have ebt0 := bt.c0
  have ebt1 := bt.c1
  have lbt := bt.lt
  have eBr00 := Br0.c0
  have eBr01 := Br0.c1
  have lBr0 := Br0.lt
  have eBt20 := Bt2.c0
  have eBt21 := Bt2.c1
  have lBt2 := Bt2.lt
  go_wp2_with fail
  have hq := impl_SubtermAt (Tm.at_of hnt ot2) hbt (D.rd_all (D.own_rd _ _ _ op2)) hbp
  rw [Hr.out, Hok.out] at hq
  refine hq.mono ?_
  clear hq
  rintro e w7 ⟨_, Fr1, rfl, or1, lr1, hb⟩
  have z9 : Hid (w6.heap.size ≤ w7.heap.size) := hb.size
  replace hW := hW.trans (hb.mono hW.size)
  replace bt := bt.keep hb
  replace ht := Tm.at_keep (Keeps.all hb) ht
  replace hp := D.rd_keep (Keeps.all hb) _ _ hp
  replace hr := Tm.at_keep (Keeps.all hb) hr
  replace Br0 := Br0.keep hb
  replace ot2 := D.own_keep _ _ _ (Keeps.all hb) ot2
  replace Bt2 := Bt2.keep hb
  replace op2 := D.own_keep _ _ _ (Keeps.all hb) op2
  clear ebt0 ebt1 lbt eBr00 eBr01 lBr0 eBt20 eBt21 lBt2 hb
  obtain ⟨ra1, rc1, rfl⟩ := Tm.sd_own_form or1
  have ur1 := D.own_lt _ _ _ or1
  have hb : Below w7.heap.size w7 (w7.alloc (.cells #[.string r.name, .slice ra1 r.args.length rc1] 31)) := (Below.refl _ _).alloc (Nat.le_refl _) _
  have Br1 : Box (w7.alloc (.cells #[.string r.name, .slice ra1 r.args.length rc1] 31)) w7.heap.size [.string r.name, .slice ra1 r.args.length rc1] := Box.new _ _ _
  have z10 : Hid (w7.heap.size + 1 ≤ (w7.alloc (.cells #[.string r.name, .slice ra1 r.args.length rc1] 31)).heap.size) := by simp [Hid]
  replace hW := hW.trans (hb.mono hW.size)
  replace bt := bt.keep hb
  replace ht := Tm.at_keep (Keeps.all hb) ht
  replace hp := D.rd_keep (Keeps.all hb) _ _ hp
  replace hr := Tm.at_keep (Keeps.all hb) hr
  replace Br0 := Br0.keep hb
  replace ot2 := D.own_keep _ _ _ (Keeps.all hb) ot2
  replace Bt2 := Bt2.keep hb
  replace op2 := D.own_keep _ _ _ (Keeps.all hb) op2
  replace or1 := D.own_keep _ _ _ (Keeps.all hb) or1
  clear hb
  have ebt0 := bt.c0
  have ebt1 := bt.c1
  have lbt := bt.lt
  have eBr00 := Br0.c0
  have eBr01 := Br0.c1
  have lBr0 := Br0.lt
  have eBt20 := Bt2.c0
  have eBt21 := Bt2.c1
  have lBt2 := Bt2.lt
  have eBr10 := Br1.c0
  have eBr11 := Br1.c1
  have lBr1 := Br1.lt
  go_wp2_with fail
  generalize (w7.alloc (.cells #[.string r.name, .slice ra1 r.args.length rc1] 31)) = w7b at *
  refine (eqTerm_refl (Tm.at_of hnr or1) (Tm.at_all hr)).mono ?_
  rintro e w8 ⟨_, rfl, hb, rfl⟩
  have z11 : Hid (w7b.heap.size ≤ w8.heap.size) := hb.size
  replace hW := hW.trans (hb.mono hW.size)
  replace bt := bt.keep hb
  replace ht := Tm.at_keep (Keeps.all hb) ht
  replace hp := D.rd_keep (Keeps.all hb) _ _ hp
  replace hr := Tm.at_keep (Keeps.all hb) hr
  replace Br0 := Br0.keep hb
  replace ot2 := D.own_keep _ _ _ (Keeps.all hb) ot2
  replace Bt2 := Bt2.keep hb
  replace op2 := D.own_keep _ _ _ (Keeps.all hb) op2
  replace or1 := D.own_keep _ _ _ (Keeps.all hb) or1
  replace Br1 := Br1.keep hb
  clear ebt0 ebt1 lbt eBr00 eBr01 lBr0 eBt20 eBt21 lBt2 eBr10 eBr11 lBr1 hb
  have ebt0 := bt.c0
  have ebt1 := bt.c1
  have lbt := bt.lt
  have eBr00 := Br0.c0
  have eBr01 := Br0.c1
  have lBr0 := Br0.lt
  have eBt20 := Bt2.c0
  have eBt21 := Bt2.c1
  have lBt2 := Bt2.lt
  have eBr10 := Br1.c0
  have eBr11 := Br1.c1
  have lBr1 := Br1.lt
  go_wp2_with fail
  refine wp_region_B [fun v _ => v = .agg #[.string t.name, .slice ta2 t.args.length tc2], fun v _ => v = .agg #[.string t.name, .slice ta0 t.args.length tc0], Is t, fun v _ => v = .bool true, fun v _ => v = .bool false] _ (fun V => by simp [putAll, Act.put]; rfl) (by kernel_rfl) (by decide) (by simp) (by kernel_rfl) ?_ ?_ ?_
  · intro F hF
    simp only [List.mem_cons, List.not_mem_nil, or_false] at hF
    rcases hF with rfl | rfl | rfl | rfl | rfl
    · exact stable_eq
    · exact stable_eq
    · exact Is.stable
    · exact stable_eq
    · exact stable_eq
  · refine ⟨?_, ?_, ?_, ?_, ?_, trivial⟩
    · intro V w1 hbR _
      obtain ⟨hc, hf⟩ := bcell hbR
      try simp only [World.size_alloc, World.size_setCell] at hc hf
      unfold Does
      go_simp
      exact ⟨Below.refl _ _, rfl⟩
    · intro V w1 hbR _
      obtain ⟨hc, hf⟩ := bcell hbR
      try simp only [World.size_alloc, World.size_setCell] at hc hf
      unfold Does
      go_simp
      exact ⟨Below.refl _ _, rfl⟩
    · intro V w1 hbR ⟨f1, _⟩
      replace f1 : V 1 = .agg #[.string t.name, .slice ta0 t.args.length tc0] := f1
      obtain ⟨hc, hf⟩ := bcell hbR
      try simp only [World.size_alloc, World.size_setCell] at hc hf
      unfold Does
      go_simp
      exact toTerm_is (Tm.at_all (Tm.at_keep (Keeps.all hbR) ht)) hbt
    · intro V w1 hbR ⟨f0, f2, _, _⟩
      replace f0 : V 0 = .agg #[.string t.name, .slice ta2 t.args.length tc2] := f0
      replace f2 : (Is t) (V 2) w1 := f2
      obtain ⟨_, _, E2, g2⟩ := Is.form f2
      obtain ⟨hc, hf⟩ := bcell hbR
      try simp only [World.size_alloc, World.size_setCell] at hc hf
      unfold Does
      go_simp
      exact eqTerm_refl (Tm.at_of hnt (D.own_keep _ _ _ (Keeps.all hbR) ot2)) g2
    · intro V w1 hbR ⟨f3, _⟩
      replace f3 : V 3 = .bool true := f3
      unfold Does
      go_simp
      exact ⟨Below.refl _ _, rfl⟩
  intro V w9 hbR hfR
  obtain ⟨f0, f1, f2, f3, f4, _⟩ := hfR
  replace f0 : V 0 = .agg #[.string t.name, .slice ta2 t.args.length tc2] := f0
  replace f1 : V 1 = .agg #[.string t.name, .slice ta0 t.args.length tc0] := f1
  replace f2 : (Is t) (V 2) w9 := f2
  replace f3 : V 3 = .bool true := f3
  replace f4 : V 4 = .bool false := f4
  simp only [f0, f1, f3, f4]
  clear f0 f1 f3 f4
  have hb := hbR
  have z12 : Hid (w8.heap.size ≤ w9.heap.size) := hb.size
  replace hW := hW.trans (hb.mono hW.size)
  replace bt := bt.keep hb
  replace ht := Tm.at_keep (Keeps.all hb) ht
  replace hp := D.rd_keep (Keeps.all hb) _ _ hp
  replace hr := Tm.at_keep (Keeps.all hb) hr
  replace Br0 := Br0.keep hb
  replace ot2 := D.own_keep _ _ _ (Keeps.all hb) ot2
  replace Bt2 := Bt2.keep hb
  replace op2 := D.own_keep _ _ _ (Keeps.all hb) op2
  replace or1 := D.own_keep _ _ _ (Keeps.all hb) or1
  replace Br1 := Br1.keep hb
  clear ebt0 ebt1 lbt eBr00 eBr01 lBr0 eBt20 eBt21 lBt2 eBr10 eBr11 lBr1 hb hbR f2
  have ebt0 := bt.c0
  have ebt1 := bt.c1
  have lbt := bt.lt
  have eBr00 := Br0.c0
  have eBr01 := Br0.c1
  have lBr0 := Br0.lt
  have eBt20 := Bt2.c0
  have eBt21 := Bt2.c1
  have lBt2 := Bt2.lt
  have eBr10 := Br1.c0
  have eBr11 := Br1.c1
  have lBr1 := Br1.lt
  go_wp2_with fail
  refine (toIntS_any p hp hbp).mono ?_
  rintro e w10 ⟨_, Fp3, rfl, op3, lp3, hb⟩
  have z13 : Hid (w9.heap.size ≤ w10.heap.size) := hb.size
  replace hW := hW.trans (hb.mono hW.size)
  replace bt := bt.keep hb
  replace ht := Tm.at_keep (Keeps.all hb) ht
  replace hp := D.rd_keep (Keeps.all hb) _ _ hp
  replace hr := Tm.at_keep (Keeps.all hb) hr
  replace Br0 := Br0.keep hb
  replace ot2 := D.own_keep _ _ _ (Keeps.all hb) ot2
  replace Bt2 := Bt2.keep hb
  replace op2 := D.own_keep _ _ _ (Keeps.all hb) op2
  replace or1 := D.own_keep _ _ _ (Keeps.all hb) or1
  replace Br1 := Br1.keep hb
  clear ebt0 ebt1 lbt eBr00 eBr01 lBr0 eBt20 eBt21 lBt2 eBr10 eBr11 lBr1 hb
  obtain ⟨pa3, pc3, rfl, -, -⟩ := slOf_form (D.own_rd _ _ _ op3)
  have up3 := D.own_lt _ _ _ op3
  have ebt0 := bt.c0
  have ebt1 := bt.c1
  have lbt := bt.lt
  have eBr00 := Br0.c0
  have eBr01 := Br0.c1
  have lBr0 := Br0.lt
  have eBt20 := Bt2.c0
  have eBt21 := Bt2.c1
  have lBt2 := Bt2.lt
  have eBr10 := Br1.c0
  have eBr11 := Br1.c1
  have lBr1 := Br1.lt
  go_wp2_with fail
  refine (eqIntS_refl (D.rd_all (D.own_rd _ _ _ op2)) (D.rd_all (D.own_rd _ _ _ op3))).mono ?_
  rintro e w11 ⟨_, rfl, hb, rfl⟩
  have z14 : Hid (w10.heap.size ≤ w11.heap.size) := hb.size
  replace hW := hW.trans (hb.mono hW.size)
  replace bt := bt.keep hb
  replace ht := Tm.at_keep (Keeps.all hb) ht
  replace hp := D.rd_keep (Keeps.all hb) _ _ hp
  replace hr := Tm.at_keep (Keeps.all hb) hr
  replace Br0 := Br0.keep hb
  replace ot2 := D.own_keep _ _ _ (Keeps.all hb) ot2
  replace Bt2 := Bt2.keep hb
  replace op2 := D.own_keep _ _ _ (Keeps.all hb) op2
  replace or1 := D.own_keep _ _ _ (Keeps.all hb) or1
  replace Br1 := Br1.keep hb
  replace op3 := D.own_keep _ _ _ (Keeps.all hb) op3
  clear ebt0 ebt1 lbt eBr00 eBr01 lBr0 eBt20 eBt21 lBt2 eBr10 eBr11 lBr1 hb
  clear op3
  clear lp3 up3
  have ebt0 := bt.c0
  have ebt1 := bt.c1
  have lbt := bt.lt
  have eBr00 := Br0.c0
  have eBr01 := Br0.c1
  have lBr0 := Br0.lt
  have eBt20 := Bt2.c0
  have eBt21 := Bt2.c1
  have lBt2 := Bt2.lt
  have eBr10 := Br1.c0
  have eBr11 := Br1.c1
  have lBr1 := Br1.lt
  go_wp2_with fail
  obtain ⟨k0, Hk0⟩ : ∃ n : Nat, Hid (1 + Tm.sizes t.args = n) := ⟨_, hid rfl⟩
  have hq := markTerm_any t.args 1 (n := t.name) (by have := Tm.sizes_le_bulk t; have := (Nat.le_refl p.length); have := Hk0.out; omega) ot2
  rw [Hk0.out] at hq
  rw [show ((1 : Nat) : Int) = 1 from rfl] at hq
  have nk0 : ¬ ((k0 : Nat) : Int) < 0 := by omega
  refine hq.mono ?_
  clear hq
  rintro e w12 ⟨rfl, hm, oM⟩
  clear ot2
  have z15 : Hid (w11.heap.size ≤ w12.heap.size) := hm.size
  replace hW := hW.trans (hm.2 _ hW.size (fun y hy => by have q1 := lt2 y hy; have := z0.out; have := z1.out; have := z2.out; have := z3.out; have := z4.out; have := z5.out; have := z6.out; have := z7.out; have := z8.out; have := z9.out; have := z10.out; have := z11.out; have := z12.out; have := z13.out; have := z14.out; have := z15.out; omega))
  replace bt := bt.marked hm (fun q => by have q1 := lt2 _ q; have q2 := ut2 _ q; have := z0.out; have := z1.out; have := z2.out; have := z3.out; have := z4.out; have := z5.out; have := z6.out; have := z7.out; have := z8.out; have := z9.out; have := z10.out; have := z11.out; have := z12.out; have := z13.out; have := z14.out; have := z15.out; omega)
  replace ht := Tm.at_keep (hm.lt (fun y q => by have q1 := lt2 y q; have := z0.out; have := z1.out; have := z2.out; have := z3.out; have := z4.out; have := z5.out; have := z6.out; have := z7.out; have := z8.out; have := z9.out; have := z10.out; have := z11.out; have := z12.out; have := z13.out; have := z14.out; have := z15.out; omega)) ht
  replace hp := D.rd_keep (hm.lt (fun y q => by have q1 := lt2 y q; have := z0.out; have := z1.out; have := z2.out; have := z3.out; have := z4.out; have := z5.out; have := z6.out; have := z7.out; have := z8.out; have := z9.out; have := z10.out; have := z11.out; have := z12.out; have := z13.out; have := z14.out; have := z15.out; omega)) _ _ hp
  replace hr := Tm.at_keep (hm.lt (fun y q => by have q1 := lt2 y q; have := z0.out; have := z1.out; have := z2.out; have := z3.out; have := z4.out; have := z5.out; have := z6.out; have := z7.out; have := z8.out; have := z9.out; have := z10.out; have := z11.out; have := z12.out; have := z13.out; have := z14.out; have := z15.out; omega)) hr
  replace Br0 := Br0.marked hm (fun q => by have q1 := lt2 _ q; have q2 := ut2 _ q; have := z0.out; have := z1.out; have := z2.out; have := z3.out; have := z4.out; have := z5.out; have := z6.out; have := z7.out; have := z8.out; have := z9.out; have := z10.out; have := z11.out; have := z12.out; have := z13.out; have := z14.out; have := z15.out; omega)
  replace Bt2 := Bt2.marked hm (fun q => by have q1 := lt2 _ q; have q2 := ut2 _ q; have := z0.out; have := z1.out; have := z2.out; have := z3.out; have := z4.out; have := z5.out; have := z6.out; have := z7.out; have := z8.out; have := z9.out; have := z10.out; have := z11.out; have := z12.out; have := z13.out; have := z14.out; have := z15.out; omega)
  replace op2 := D.own_keep _ _ _ (hm.apart (fun y hy q => by have q1 := lt2 y q; have q2 := ut2 y q; have q3 := lp2 y hy; have q4 := up2 y hy; have := z0.out; have := z1.out; have := z2.out; have := z3.out; have := z4.out; have := z5.out; have := z6.out; have := z7.out; have := z8.out; have := z9.out; have := z10.out; have := z11.out; have := z12.out; have := z13.out; have := z14.out; have := z15.out; omega)) op2
  replace or1 := D.own_keep _ _ _ (hm.apart (fun y hy q => by have q1 := lt2 y q; have q2 := ut2 y q; have q3 := lr1 y hy; have q4 := ur1 y hy; have := z0.out; have := z1.out; have := z2.out; have := z3.out; have := z4.out; have := z5.out; have := z6.out; have := z7.out; have := z8.out; have := z9.out; have := z10.out; have := z11.out; have := z12.out; have := z13.out; have := z14.out; have := z15.out; omega)) or1
  replace Br1 := Br1.marked hm (fun q => by have q1 := lt2 _ q; have q2 := ut2 _ q; have := z0.out; have := z1.out; have := z2.out; have := z3.out; have := z4.out; have := z5.out; have := z6.out; have := z7.out; have := z8.out; have := z9.out; have := z10.out; have := z11.out; have := z12.out; have := z13.out; have := z14.out; have := z15.out; omega)
  clear ebt0 ebt1 lbt eBr00 eBr01 lBr0 eBt20 eBt21 lBt2 eBr10 eBr11 lBr1 hm
  clear oM lt2 ut2
  have ebt0 := bt.c0
  have ebt1 := bt.c1
  have lbt := bt.lt
  have eBr00 := Br0.c0
  have eBr01 := Br0.c1
  have lBr0 := Br0.lt
  have eBt20 := Bt2.c0
  have eBt21 := Bt2.c1
  have lBt2 := Bt2.lt
  have eBr10 := Br1.c0
  have eBr11 := Br1.c1
  have lBr1 := Br1.lt
  go_wp2_with fail
  obtain ⟨k1, Hk1⟩ : ∃ n : Nat, Hid (k0 + p.length = n) := ⟨_, hid rfl⟩
  have hq := markIntS_any p k0 (by have := Tm.sizes_le_bulk t; have := (Nat.le_refl p.length); have := Hk0.out; have := Hk1.out; omega) op2
  rw [Hk1.out] at hq
  have nk1 : ¬ ((k1 : Nat) : Int) < 0 := by omega
  refine hq.mono ?_
  clear hq
  rintro e w13 ⟨rfl, hm, oM⟩
  clear op2
  have z16 : Hid (w12.heap.size ≤ w13.heap.size) := hm.size
  replace hW := hW.trans (hm.2 _ hW.size (fun y hy => by have q1 := lp2 y hy; have := z0.out; have := z1.out; have := z2.out; have := z3.out; have := z4.out; have := z5.out; have := z6.out; have := z7.out; have := z8.out; have := z9.out; have := z10.out; have := z11.out; have := z12.out; have := z13.out; have := z14.out; have := z15.out; have := z16.out; omega))
  replace bt := bt.marked hm (fun q => by have q1 := lp2 _ q; have q2 := up2 _ q; have := z0.out; have := z1.out; have := z2.out; have := z3.out; have := z4.out; have := z5.out; have := z6.out; have := z7.out; have := z8.out; have := z9.out; have := z10.out; have := z11.out; have := z12.out; have := z13.out; have := z14.out; have := z15.out; have := z16.out; omega)
  replace ht := Tm.at_keep (hm.lt (fun y q => by have q1 := lp2 y q; have := z0.out; have := z1.out; have := z2.out; have := z3.out; have := z4.out; have := z5.out; have := z6.out; have := z7.out; have := z8.out; have := z9.out; have := z10.out; have := z11.out; have := z12.out; have := z13.out; have := z14.out; have := z15.out; have := z16.out; omega)) ht
  replace hp := D.rd_keep (hm.lt (fun y q => by have q1 := lp2 y q; have := z0.out; have := z1.out; have := z2.out; have := z3.out; have := z4.out; have := z5.out; have := z6.out; have := z7.out; have := z8.out; have := z9.out; have := z10.out; have := z11.out; have := z12.out; have := z13.out; have := z14.out; have := z15.out; have := z16.out; omega)) _ _ hp
  replace hr := Tm.at_keep (hm.lt (fun y q => by have q1 := lp2 y q; have := z0.out; have := z1.out; have := z2.out; have := z3.out; have := z4.out; have := z5.out; have := z6.out; have := z7.out; have := z8.out; have := z9.out; have := z10.out; have := z11.out; have := z12.out; have := z13.out; have := z14.out; have := z15.out; have := z16.out; omega)) hr
  replace Br0 := Br0.marked hm (fun q => by have q1 := lp2 _ q; have q2 := up2 _ q; have := z0.out; have := z1.out; have := z2.out; have := z3.out; have := z4.out; have := z5.out; have := z6.out; have := z7.out; have := z8.out; have := z9.out; have := z10.out; have := z11.out; have := z12.out; have := z13.out; have := z14.out; have := z15.out; have := z16.out; omega)
  replace Bt2 := Bt2.marked hm (fun q => by have q1 := lp2 _ q; have q2 := up2 _ q; have := z0.out; have := z1.out; have := z2.out; have := z3.out; have := z4.out; have := z5.out; have := z6.out; have := z7.out; have := z8.out; have := z9.out; have := z10.out; have := z11.out; have := z12.out; have := z13.out; have := z14.out; have := z15.out; have := z16.out; omega)
  replace or1 := D.own_keep _ _ _ (hm.apart (fun y hy q => by have q1 := lp2 y q; have q2 := up2 y q; have q3 := lr1 y hy; have q4 := ur1 y hy; have := z0.out; have := z1.out; have := z2.out; have := z3.out; have := z4.out; have := z5.out; have := z6.out; have := z7.out; have := z8.out; have := z9.out; have := z10.out; have := z11.out; have := z12.out; have := z13.out; have := z14.out; have := z15.out; have := z16.out; omega)) or1
  replace Br1 := Br1.marked hm (fun q => by have q1 := lp2 _ q; have q2 := up2 _ q; have := z0.out; have := z1.out; have := z2.out; have := z3.out; have := z4.out; have := z5.out; have := z6.out; have := z7.out; have := z8.out; have := z9.out; have := z10.out; have := z11.out; have := z12.out; have := z13.out; have := z14.out; have := z15.out; have := z16.out; omega)
  clear ebt0 ebt1 lbt eBr00 eBr01 lBr0 eBt20 eBt21 lBt2 eBr10 eBr11 lBr1 hm
  clear oM lp2 up2
  have ebt0 := bt.c0
  have ebt1 := bt.c1
  have lbt := bt.lt
  have eBr00 := Br0.c0
  have eBr01 := Br0.c1
  have lBr0 := Br0.lt
  have eBt20 := Bt2.c0
  have eBt21 := Bt2.c1
  have lBt2 := Bt2.lt
  have eBr10 := Br1.c0
  have eBr11 := Br1.c1
  have lBr1 := Br1.lt
  go_wp2_with fail
  refine (eqTerm_refl (Tm.at_of hnr or1) (Tm.at_all hr)).mono ?_
  rintro e w14 ⟨_, rfl, hb, rfl⟩
  have z17 : Hid (w13.heap.size ≤ w14.heap.size) := hb.size
  replace hW := hW.trans (hb.mono hW.size)
  replace bt := bt.keep hb
  replace ht := Tm.at_keep (Keeps.all hb) ht
  replace hp := D.rd_keep (Keeps.all hb) _ _ hp
  replace hr := Tm.at_keep (Keeps.all hb) hr
  replace Br0 := Br0.keep hb
  replace Bt2 := Bt2.keep hb
  replace or1 := D.own_keep _ _ _ (Keeps.all hb) or1
  replace Br1 := Br1.keep hb
  clear ebt0 ebt1 lbt eBr00 eBr01 lBr0 eBt20 eBt21 lBt2 eBr10 eBr11 lBr1 hb
  have ebt0 := bt.c0
  have ebt1 := bt.c1
  have lbt := bt.lt
  have eBr00 := Br0.c0
  have eBr01 := Br0.c1
  have lBr0 := Br0.lt
  have eBt20 := Bt2.c0
  have eBt21 := Bt2.c1
  have lBt2 := Bt2.lt
  have eBr10 := Br1.c0
  have eBr11 := Br1.c1
  have lBr1 := Br1.lt
  go_wp2_with fail
  have hq := markTerm_any r.args 1 (n := r.name) hcr or1
  rw [Hrm.out] at hq
  rw [show ((1 : Nat) : Int) = 1 from rfl] at hq
  refine hq.mono ?_
  clear hq
  rintro e w15 ⟨rfl, hm, oM⟩
  clear or1
  have z18 : Hid (w14.heap.size ≤ w15.heap.size) := hm.size
  replace hW := hW.trans (hm.2 _ hW.size (fun y hy => by have q1 := lr1 y hy; have := z0.out; have := z1.out; have := z2.out; have := z3.out; have := z4.out; have := z5.out; have := z6.out; have := z7.out; have := z8.out; have := z9.out; have := z10.out; have := z11.out; have := z12.out; have := z13.out; have := z14.out; have := z15.out; have := z16.out; have := z17.out; have := z18.out; omega))
  replace bt := bt.marked hm (fun q => by have q1 := lr1 _ q; have q2 := ur1 _ q; have := z0.out; have := z1.out; have := z2.out; have := z3.out; have := z4.out; have := z5.out; have := z6.out; have := z7.out; have := z8.out; have := z9.out; have := z10.out; have := z11.out; have := z12.out; have := z13.out; have := z14.out; have := z15.out; have := z16.out; have := z17.out; have := z18.out; omega)
  replace ht := Tm.at_keep (hm.lt (fun y q => by have q1 := lr1 y q; have := z0.out; have := z1.out; have := z2.out; have := z3.out; have := z4.out; have := z5.out; have := z6.out; have := z7.out; have := z8.out; have := z9.out; have := z10.out; have := z11.out; have := z12.out; have := z13.out; have := z14.out; have := z15.out; have := z16.out; have := z17.out; have := z18.out; omega)) ht
  replace hp := D.rd_keep (hm.lt (fun y q => by have q1 := lr1 y q; have := z0.out; have := z1.out; have := z2.out; have := z3.out; have := z4.out; have := z5.out; have := z6.out; have := z7.out; have := z8.out; have := z9.out; have := z10.out; have := z11.out; have := z12.out; have := z13.out; have := z14.out; have := z15.out; have := z16.out; have := z17.out; have := z18.out; omega)) _ _ hp
  replace hr := Tm.at_keep (hm.lt (fun y q => by have q1 := lr1 y q; have := z0.out; have := z1.out; have := z2.out; have := z3.out; have := z4.out; have := z5.out; have := z6.out; have := z7.out; have := z8.out; have := z9.out; have := z10.out; have := z11.out; have := z12.out; have := z13.out; have := z14.out; have := z15.out; have := z16.out; have := z17.out; have := z18.out; omega)) hr
  replace Br0 := Br0.marked hm (fun q => by have q1 := lr1 _ q; have q2 := ur1 _ q; have := z0.out; have := z1.out; have := z2.out; have := z3.out; have := z4.out; have := z5.out; have := z6.out; have := z7.out; have := z8.out; have := z9.out; have := z10.out; have := z11.out; have := z12.out; have := z13.out; have := z14.out; have := z15.out; have := z16.out; have := z17.out; have := z18.out; omega)
  replace Bt2 := Bt2.marked hm (fun q => by have q1 := lr1 _ q; have q2 := ur1 _ q; have := z0.out; have := z1.out; have := z2.out; have := z3.out; have := z4.out; have := z5.out; have := z6.out; have := z7.out; have := z8.out; have := z9.out; have := z10.out; have := z11.out; have := z12.out; have := z13.out; have := z14.out; have := z15.out; have := z16.out; have := z17.out; have := z18.out; omega)
  replace Br1 := Br1.marked hm (fun q => by have q1 := lr1 _ q; have q2 := ur1 _ q; have := z0.out; have := z1.out; have := z2.out; have := z3.out; have := z4.out; have := z5.out; have := z6.out; have := z7.out; have := z8.out; have := z9.out; have := z10.out; have := z11.out; have := z12.out; have := z13.out; have := z14.out; have := z15.out; have := z16.out; have := z17.out; have := z18.out; omega)
  clear ebt0 ebt1 lbt eBr00 eBr01 lBr0 eBt20 eBt21 lBt2 eBr10 eBr11 lBr1 hm
  have oM0 := oM
  clear oM
  have ebt0 := bt.c0
  have ebt1 := bt.c1
  have lbt := bt.lt
  have eBr00 := Br0.c0
  have eBr01 := Br0.c1
  have lBr0 := Br0.lt
  have eBt20 := Bt2.c0
  have eBt21 := Bt2.c1
  have lBt2 := Bt2.lt
  have eBr10 := Br1.c0
  have eBr11 := Br1.c1
  have lBr1 := Br1.lt
  go_wp2_with fail
  have hq := heldTerm_any r.args 1 (n := r.name) hcr (D.own_rd _ _ _ oM0)
  rw [Hrm.out] at hq
  rw [show ((1 : Nat) : Int) = 1 from rfl] at hq
  refine hq.mono ?_
  clear hq
  rintro e w16 ⟨_, rfl, hb, rfl⟩
  have z19 : Hid (w15.heap.size ≤ w16.heap.size) := hb.size
  replace hW := hW.trans (hb.mono hW.size)
  replace bt := bt.keep hb
  replace ht := Tm.at_keep (Keeps.all hb) ht
  replace hp := D.rd_keep (Keeps.all hb) _ _ hp
  replace hr := Tm.at_keep (Keeps.all hb) hr
  replace Br0 := Br0.keep hb
  replace Bt2 := Bt2.keep hb
  replace Br1 := Br1.keep hb
  replace oM0 := D.own_keep _ _ _ (Keeps.all hb) oM0
  clear ebt0 ebt1 lbt eBr00 eBr01 lBr0 eBt20 eBt21 lBt2 eBr10 eBr11 lBr1 hb
  have ebt0 := bt.c0
  have ebt1 := bt.c1
  have lbt := bt.lt
  have eBr00 := Br0.c0
  have eBr01 := Br0.c1
  have lBr0 := Br0.lt
  have eBt20 := Bt2.c0
  have eBt21 := Bt2.c1
  have lBt2 := Bt2.lt
  have eBr10 := Br1.c0
  have eBr11 := Br1.c1
  have lBr1 := Br1.lt
  go_wp2_with fail
  refine (toTerm_any t _ _ _ _ ht hbt).mono ?_
  rintro e w17 ⟨_, Ft3, rfl, ot3, lt3, hb⟩
  have z20 : Hid (w16.heap.size ≤ w17.heap.size) := hb.size
  replace hW := hW.trans (hb.mono hW.size)
  replace bt := bt.keep hb
  replace ht := Tm.at_keep (Keeps.all hb) ht
  replace hp := D.rd_keep (Keeps.all hb) _ _ hp
  replace hr := Tm.at_keep (Keeps.all hb) hr
  replace Br0 := Br0.keep hb
  replace Bt2 := Bt2.keep hb
  replace Br1 := Br1.keep hb
  replace oM0 := D.own_keep _ _ _ (Keeps.all hb) oM0
  clear ebt0 ebt1 lbt eBr00 eBr01 lBr0 eBt20 eBt21 lBt2 eBr10 eBr11 lBr1 hb
  obtain ⟨ta3, tc3, rfl⟩ := Tm.sd_own_form ot3
  have ut3 := D.own_lt _ _ _ ot3
  have ebt0 := bt.c0
  have ebt1 := bt.c1
  have lbt := bt.lt
  have eBr00 := Br0.c0
  have eBr01 := Br0.c1
  have lBr0 := Br0.lt
  have eBt20 := Bt2.c0
  have eBt21 := Bt2.c1
  have lBt2 := Bt2.lt
  have eBr10 := Br1.c0
  have eBr11 := Br1.c1
  have lBr1 := Br1.lt
  go_wp2_with fail
  refine (toIntS_any p hp hbp).mono ?_
  rintro e w18 ⟨_, Fp4, rfl, op4, lp4, hb⟩
  have z21 : Hid (w17.heap.size ≤ w18.heap.size) := hb.size
  replace hW := hW.trans (hb.mono hW.size)
  replace bt := bt.keep hb
  replace ht := Tm.at_keep (Keeps.all hb) ht
  replace hp := D.rd_keep (Keeps.all hb) _ _ hp
  replace hr := Tm.at_keep (Keeps.all hb) hr
  replace Br0 := Br0.keep hb
  replace Bt2 := Bt2.keep hb
  replace Br1 := Br1.keep hb
  replace oM0 := D.own_keep _ _ _ (Keeps.all hb) oM0
  replace ot3 := D.own_keep _ _ _ (Keeps.all hb) ot3
  clear ebt0 ebt1 lbt eBr00 eBr01 lBr0 eBt20 eBt21 lBt2 eBr10 eBr11 lBr1 hb
  obtain ⟨pa4, pc4, rfl, -, -⟩ := slOf_form (D.own_rd _ _ _ op4)
  have up4 := D.own_lt _ _ _ op4
  have ebt0 := bt.c0
  have ebt1 := bt.c1
  have lbt := bt.lt
  have eBr00 := Br0.c0
  have eBr01 := Br0.c1
  have lBr0 := Br0.lt
  have eBt20 := Bt2.c0
  have eBt21 := Bt2.c1
  have lBt2 := Bt2.lt
  have eBr10 := Br1.c0
  have eBr11 := Br1.c1
  have lBr1 := Br1.lt
  go_wp2_with fail
  have hq := impl_SubtermAt (Tm.at_of hnt ot3) hbt (D.rd_all (D.own_rd _ _ _ op4)) hbp
  rw [Hr.out, Hok.out] at hq
  refine hq.mono ?_
  clear hq
  rintro e w19 ⟨_, Fr2, rfl, or2, lr2, hb⟩
  have z22 : Hid (w18.heap.size ≤ w19.heap.size) := hb.size
  replace hW := hW.trans (hb.mono hW.size)
  replace bt := bt.keep hb
  replace ht := Tm.at_keep (Keeps.all hb) ht
  replace hp := D.rd_keep (Keeps.all hb) _ _ hp
  replace hr := Tm.at_keep (Keeps.all hb) hr
  replace Br0 := Br0.keep hb
  replace Bt2 := Bt2.keep hb
  replace Br1 := Br1.keep hb
  replace oM0 := D.own_keep _ _ _ (Keeps.all hb) oM0
  replace ot3 := D.own_keep _ _ _ (Keeps.all hb) ot3
  replace op4 := D.own_keep _ _ _ (Keeps.all hb) op4
  clear ebt0 ebt1 lbt eBr00 eBr01 lBr0 eBt20 eBt21 lBt2 eBr10 eBr11 lBr1 hb
  obtain ⟨ra2, rc2, rfl⟩ := Tm.sd_own_form or2
  have ur2 := D.own_lt _ _ _ or2
  clear ot3
  clear lt3 ut3
  clear op4
  clear lp4 up4
  have hb : Below w19.heap.size w19 (w19.alloc (.cells #[.string r.name, .slice ra2 r.args.length rc2] 31)) := (Below.refl _ _).alloc (Nat.le_refl _) _
  have Br2 : Box (w19.alloc (.cells #[.string r.name, .slice ra2 r.args.length rc2] 31)) w19.heap.size [.string r.name, .slice ra2 r.args.length rc2] := Box.new _ _ _
  have z23 : Hid (w19.heap.size + 1 ≤ (w19.alloc (.cells #[.string r.name, .slice ra2 r.args.length rc2] 31)).heap.size) := by simp [Hid]
  replace hW := hW.trans (hb.mono hW.size)
  replace bt := bt.keep hb
  replace ht := Tm.at_keep (Keeps.all hb) ht
  replace hp := D.rd_keep (Keeps.all hb) _ _ hp
  replace hr := Tm.at_keep (Keeps.all hb) hr
  replace Br0 := Br0.keep hb
  replace Bt2 := Bt2.keep hb
  replace Br1 := Br1.keep hb
  replace oM0 := D.own_keep _ _ _ (Keeps.all hb) oM0
  replace or2 := D.own_keep _ _ _ (Keeps.all hb) or2
  clear hb
  have ebt0 := bt.c0
  have ebt1 := bt.c1
  have lbt := bt.lt
  have eBr00 := Br0.c0
  have eBr01 := Br0.c1
  have lBr0 := Br0.lt
  have eBt20 := Bt2.c0
  have eBt21 := Bt2.c1
  have lBt2 := Bt2.lt
  have eBr10 := Br1.c0
  have eBr11 := Br1.c1
  have lBr1 := Br1.lt
  have eBr20 := Br2.c0
  have eBr21 := Br2.c1
  have lBr2 := Br2.lt
  go_wp2_with fail
  generalize (w19.alloc (.cells #[.string r.name, .slice ra2 r.args.length rc2] 31)) = w19b at *
  refine (eqTerm_refl (Tm.at_of hnr or2) (Tm.at_all hr)).mono ?_
  rintro e w20 ⟨_, rfl, hb, rfl⟩
  have z24 : Hid (w19b.heap.size ≤ w20.heap.size) := hb.size
  replace hW := hW.trans (hb.mono hW.size)
  replace bt := bt.keep hb
  replace ht := Tm.at_keep (Keeps.all hb) ht
  replace hp := D.rd_keep (Keeps.all hb) _ _ hp
  replace hr := Tm.at_keep (Keeps.all hb) hr
  replace Br0 := Br0.keep hb
  replace Bt2 := Bt2.keep hb
  replace Br1 := Br1.keep hb
  replace oM0 := D.own_keep _ _ _ (Keeps.all hb) oM0
  replace or2 := D.own_keep _ _ _ (Keeps.all hb) or2
  replace Br2 := Br2.keep hb
  clear ebt0 ebt1 lbt eBr00 eBr01 lBr0 eBt20 eBt21 lBt2 eBr10 eBr11 lBr1 eBr20 eBr21 lBr2 hb
  have ebt0 := bt.c0
  have ebt1 := bt.c1
  have lbt := bt.lt
  have eBr00 := Br0.c0
  have eBr01 := Br0.c1
  have lBr0 := Br0.lt
  have eBt20 := Bt2.c0
  have eBt21 := Bt2.c1
  have lBt2 := Bt2.lt
  have eBr10 := Br1.c0
  have eBr11 := Br1.c1
  have lBr1 := Br1.lt
  have eBr20 := Br2.c0
  have eBr21 := Br2.c1
  have lBr2 := Br2.lt
  go_wp2_with fail
  have hq := heldTerm_any r.args 1 (n := r.name) hcr (D.own_rd _ _ _ oM0)
  rw [Hrm.out] at hq
  rw [show ((1 : Nat) : Int) = 1 from rfl] at hq
  refine hq.mono ?_
  clear hq
  rintro e w21 ⟨_, rfl, hb, rfl⟩
  have z25 : Hid (w20.heap.size ≤ w21.heap.size) := hb.size
  replace hW := hW.trans (hb.mono hW.size)
  replace bt := bt.keep hb
  replace ht := Tm.at_keep (Keeps.all hb) ht
  replace hp := D.rd_keep (Keeps.all hb) _ _ hp
  replace hr := Tm.at_keep (Keeps.all hb) hr
  replace Br0 := Br0.keep hb
  replace Bt2 := Bt2.keep hb
  replace Br1 := Br1.keep hb
  replace oM0 := D.own_keep _ _ _ (Keeps.all hb) oM0
  replace or2 := D.own_keep _ _ _ (Keeps.all hb) or2
  replace Br2 := Br2.keep hb
  clear ebt0 ebt1 lbt eBr00 eBr01 lBr0 eBt20 eBt21 lBt2 eBr10 eBr11 lBr1 eBr20 eBr21 lBr2 hb
  have ebt0 := bt.c0
  have ebt1 := bt.c1
  have lbt := bt.lt
  have eBr00 := Br0.c0
  have eBr01 := Br0.c1
  have lBr0 := Br0.lt
  have eBt20 := Bt2.c0
  have eBt21 := Bt2.c1
  have lBt2 := Bt2.lt
  have eBr10 := Br1.c0
  have eBr11 := Br1.c1
  have lBr1 := Br1.lt
  have eBr20 := Br2.c0
  have eBr21 := Br2.c1
  have lBr2 := Br2.lt
  go_wp2_with fail
  go_ret
  exact ⟨rfl, hW⟩

/-! the row -/
set_option maxRecDepth 100000 in
theorem lifted (os : Os) (started : os.Started) (H : Type) (enc : TypeId × Value → H) :
    ReturnsInHanded {} Try.checked os 5 .any (Rows.fnExactSubtermAtSpec.pre6 enc Try.prog Try.f5 Rows.fnExactSubtermAtRow.domain false) (Rows.fnExactSubtermAtSpec.post enc Try.prog Try.f5 false true false false) := by
  refine returnsInHanded_of_change (C := Try.checked) own started (by kernel_rfl) Try.func5
    (ChangeSpec.witness6 (enc := enc) (C := Try.checked) false ⟨#[], #[.agg #[.string ByteArray.empty, .slice none 0 0], .slice none 0 0], []⟩ 8 (by kernel_rfl) (by kernel_rfl) (by kernel_rfl) (by kernel_rfl)) ?_
  intro W base args ds gs before hval0 hW _ _
  have hval : ∀ (j : Nat) t v, Try.f5.params[j]? = some t → args[j]? = some v → Value.okWide Try.prog W .any base t v := hval0
  have hW' := hW
  obtain ⟨p, q, hA0, hV, rfl, hfz, hnd⟩ := hW
  have hA : DataW.TrodAll enc Try.prog W 0 (fun _ => true) true Try.f5.params.toList args.toList ds p := hA0
  rw [Try.params5] at hA hval
  obtain ⟨v0, vs0, d0, ds0, p0, q0, hargs, rfl, rfl, h0, r0⟩ := trodAll_cons hA
  obtain ⟨v1, vs1, d1, ds1, p1, q1, rfl, rfl, rfl, h1, r1⟩ := trodAll_cons r0
  obtain ⟨rfl, rfl, rfl⟩ := trodAll_nil r1
  obtain rfl : args = #[v0, v1] := by cases args; simp_all
  obtain ⟨rfl, rfl⟩ := trodVars_none hV
  have k0 := h0
  have k1 := h1
  obtain ⟨t0, t1, t, rfl, ht⟩ := open_Term (hval 0 24 v0 rfl rfl) h0
  obtain ⟨p, hp⟩ := open_IntS (hval 1 26 v1 rfl rfl) h1
  clear hA0 hval0
  simp only [List.append_nil] at hW'
  have hlt0 : ∀ x ∈ p0, x.block < W.heap.size := fun x hx => hW'.lt x (by simp [hx])
  have hlt1 : ∀ x ∈ p1, x.block < W.heap.size := fun x hx => hW'.lt x (by simp [hx])
  refine (walk t0 t1 t ht v1 p hp).mono fun e W' ⟨he, hb⟩ => ?_
  subst he
  exact ⟨_, rfl, [d0, d1], [], _, [], p0 ++ (p1 ++ []), [], by simpa using hW', trodAll_cons_mk (shut_bool Try.underlying4 _) trodAll_mk0, (trodAll_cons_mk (Below.trod laidOut (by kernel_rfl) (of_decide_eq_true (by kernel_rfl)) k0 hb hlt0) (trodAll_cons_mk (Below.trod laidOut (by kernel_rfl) (of_decide_eq_true (by kernel_rfl)) k1 hb hlt1) trodAll_mk0)), rfl, hb.frame _, fun h => by cases h⟩

theorem over : Rows.fnExactSubtermAtRow.holds Try.pinned (OpenSpec.ofChange Rows.fnExactSubtermAtSpec) :=
  OpenClaim.holds_of_wide 5 Try.f5 rfl rfl rfl rfl rfl rfl rfl ⟨rfl, rfl, rfl, rfl, rfl⟩ rfl rfl rfl rfl rfl (by kernel_rfl) Try.func5 (by kernel_rfl)
    (of_decide_eq_true (by kernel_rfl)) (by unfold Func.isWrapper; first | (rw [if_pos (by decide +kernel)]; kernel_rfl) | (rw [if_neg (by decide +kernel)]; exact ⟨rfl, rfl⟩))
    (fun os started H enc _ => lifted os started H enc)

theorem proved : Rows.FnExactSubtermAtSaid :=
  over
#print axioms proved
end Go.Proofs.Ytoekonkpephocaa.fnExactSubtermAt
