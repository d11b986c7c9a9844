/- For every input the law FnExactFreeVariables returns true, and each argument reads behind the call as it read before it. No conditions. -/
import Derived.Test.YtominpdaipaioaaRows
import Derived.Test.YtominpdaipaioaaBrT
import Derived.Test.YtominpdaipaioaaSz
import Derived.Test.YtominpdaipaioaaTo
import Derived.Test.YtominpdaipaioaaEq
import Derived.Test.YtominpdaipaioaaFx
import Derived.Test.YtominpdaipaioaaFk
import Derived.Test.YtominpdaipaioaaMw
import Derived.OpenShut
namespace Go.Proofs.Ytominpdaipaioaa.fnExactFreeVariables
set_option maxRecDepth 100000
open Go.ChangeShapes Go.WideShapes Go.ChangeAt Go.RowKit

set_option maxHeartbeats 4000000 in
theorem walk (t0 t1 t2 t3 t4 : Value) (t : Fm) {w : World} (ht : Fm.at (fun _ => True) w t0 t1 t2 t3 t4 t) :
    Calls Try.prog 5 #[.agg #[t0, t1, t2, t3, t4]] w fun e w' => e = .returned (.bool true) ∧ Below w.heap.size w w' := by
  obtain ⟨rfl, rfl, ⟨ta0, tc0, rfl⟩, rfl, tA0, tC0, rfl⟩ := Fm.at_form ht
  obtain ⟨r, Hr⟩ : ∃ r, Hid (fvR t = r) := ⟨_, hid rfl⟩
  obtain ⟨ok, Hok⟩ : ∃ ok : Bool, Hid (t.valid = ok) := ⟨_, hid rfl⟩
  have hW : Below w.heap.size w (w.alloc (.cells #[.int .i64 t.op, .string t.atom.name, .slice ta0 t.atom.args.length tc0, .string t.v, .slice tA0 t.parts.length tC0] 58)) := (Below.refl _ _).alloc (Nat.le_refl _) _
  have bt : Box (w.alloc (.cells #[.int .i64 t.op, .string t.atom.name, .slice ta0 t.atom.args.length tc0, .string t.v, .slice tA0 t.parts.length tC0] 58)) (w.heap.size) [.int .i64 t.op, .string t.atom.name, .slice ta0 t.atom.args.length tc0, .string t.v, .slice tA0 t.parts.length tC0] := by
    have := (Box.new w [.int .i64 t.op, .string t.atom.name, .slice ta0 t.atom.args.length tc0, .string t.v, .slice tA0 t.parts.length tC0] 58)
    simpa only [World.size_alloc] using this
  replace ht := Fm.at_keep (Keeps.all hW) ht
  have z0 : Hid (w.heap.size + 1 ≤ (w.alloc (.cells #[.int .i64 t.op, .string t.atom.name, .slice ta0 t.atom.args.length tc0, .string t.v, .slice tA0 t.parts.length tC0] 58)).heap.size) := by simp [Hid]
  go_enter Try.func5, Try.ntmps5
  have ebt0 := bt.c0
  have ebt1 := bt.c1
  have ebt2 := bt.c2
  have ebt3 := bt.c3
  have ebt4 := bt.c4
  have lbt := bt.lt
  go_wp2_with fail
  generalize (w.alloc (.cells #[.int .i64 t.op, .string t.atom.name, .slice ta0 t.atom.args.length tc0, .string t.v, .slice tA0 t.parts.length tC0] 58)) = w0 at *
  refine (szFm_any t _ _ _ _ _ _ _ _ ht (by omega) (by omega)).mono ?_
  rintro e w1 ⟨rfl, hb⟩
  have z1 : Hid (w0.heap.size ≤ w1.heap.size) := hb.size
  replace hW := hW.trans (hb.mono hW.size)
  replace bt := bt.keep hb
  replace ht := Fm.at_keep (Keeps.all hb) ht
  clear ebt0 ebt1 ebt2 ebt3 ebt4 lbt hb
  by_cases hzt : (t.bulk : Int) ≤ 1048576
  rotate_left
  · rw [after_neg (by omega)]
    go_wp2_with fail
    go_ret
    exact ⟨rfl, hW⟩
  rw [after_pos hzt]
  have hbt : t.bulk ≤ 1048576 := by omega
  have ebt0 := bt.c0
  have ebt1 := bt.c1
  have ebt2 := bt.c2
  have ebt3 := bt.c3
  have ebt4 := bt.c4
  have lbt := bt.lt
  go_wp2_with fail
  have hbr : r.length ≤ 2097152 := by
    rw [← Hr.out]
    exact fvR_length t hbt
  have hcr : 1 + r.length ≤ 1099511627776 := by
    have := (Nat.le_refl r.length)
    omega
  obtain ⟨rm, Hrm⟩ : ∃ n : Nat, Hid (1 + r.length = n) := ⟨_, hid rfl⟩
  have hrm : ¬ ((rm : Nat) : Int) < 0 := by omega
  refine (toFm_held ht hbt).mono ?_
  rintro e w2 ⟨ta1, tc1, tA1, tC1, Ft1, rfl, ot1, lt1, hb⟩
  have z2 : Hid (w1.heap.size ≤ w2.heap.size) := hb.size
  replace hW := hW.trans (hb.mono hW.size)
  replace bt := bt.keep hb
  replace ht := Fm.at_keep (Keeps.all hb) ht
  clear ebt0 ebt1 ebt2 ebt3 ebt4 lbt hb
  have ut1 := FmOwn.lt ot1
  have ebt0 := bt.c0
  have ebt1 := bt.c1
  have ebt2 := bt.c2
  have ebt3 := bt.c3
  have ebt4 := bt.c4
  have lbt := bt.lt
  go_wp2_with fail
  have hq := spec_FreeVariables (FmOwn.at ht ot1) hbt
  rw [Hr.out, Hok.out] at hq
  refine hq.mono ?_
  clear hq
  rintro e w3 ⟨_, rfl, hr, hb⟩
  have z3 : Hid (w2.heap.size ≤ w3.heap.size) := hb.size
  replace hW := hW.trans (hb.mono hW.size)
  replace bt := bt.keep hb
  replace ht := Fm.at_keep (Keeps.all hb) ht
  replace ot1 := FmOwn.keep (Keeps.all hb) ot1
  clear ebt0 ebt1 ebt2 ebt3 ebt4 lbt hb
  obtain ⟨ra0, rc0, rfl, -, -⟩ := slOf_form hr
  clear ot1
  clear lt1 ut1
  have ebt0 := bt.c0
  have ebt1 := bt.c1
  have ebt2 := bt.c2
  have ebt3 := bt.c3
  have ebt4 := bt.c4
  have lbt := bt.lt
  go_wp2_with fail
  replace ht := Fm.at_lt ht
  replace hr := D.rd_lt _ _ hr
  refine (toFm_held ht hbt).mono ?_
  rintro e w4 ⟨ta2, tc2, tA2, tC2, Ft2, rfl, ot2, lt2, hb⟩
  have z4 : Hid (w3.heap.size ≤ w4.heap.size) := hb.size
  replace hW := hW.trans (hb.mono hW.size)
  replace bt := bt.keep hb
  replace ht := Fm.at_keep (Keeps.all hb) ht
  replace hr := D.rd_keep (Keeps.all hb) _ _ hr
  clear ebt0 ebt1 ebt2 ebt3 ebt4 lbt hb
  have ut2 := FmOwn.lt ot2
  have hb : Below w4.heap.size w4 (w4.alloc (.cells #[.int .i64 t.op, .string t.atom.name, .slice ta2 t.atom.args.length tc2, .string t.v, .slice tA2 t.parts.length tC2] 64)) := (Below.refl _ _).alloc (Nat.le_refl _) _
  have Bt2 : Box (w4.alloc (.cells #[.int .i64 t.op, .string t.atom.name, .slice ta2 t.atom.args.length tc2, .string t.v, .slice tA2 t.parts.length tC2] 64)) w4.heap.size [.int .i64 t.op, .string t.atom.name, .slice ta2 t.atom.args.length tc2, .string t.v, .slice tA2 t.parts.length tC2] := Box.new _ _ _
  have z5 : Hid (w4.heap.size + 1 ≤ (w4.alloc (.cells #[.int .i64 t.op, .string t.atom.name, .slice ta2 t.atom.args.length tc2, .string t.v, .slice tA2 t.parts.length tC2] 64)).heap.size) := by simp [Hid]
  replace hW := hW.trans (hb.mono hW.size)
  replace bt := bt.keep hb
  replace ht := Fm.at_keep (Keeps.all hb) ht
  replace hr := D.rd_keep (Keeps.all hb) _ _ hr
  replace ot2 := FmOwn.keep (Keeps.all hb) ot2
  clear hb
  have ebt0 := bt.c0
  have ebt1 := bt.c1
  have ebt2 := bt.c2
  have ebt3 := bt.c3
  have ebt4 := bt.c4
  have lbt := bt.lt
  have eBt20 := Bt2.c0
  have eBt21 := Bt2.c1
  have eBt22 := Bt2.c2
  have eBt23 := Bt2.c3
  have eBt24 := Bt2.c4
  have lBt2 := Bt2.lt
  go_wp2_with fail
  generalize (w4.alloc (.cells #[.int .i64 t.op, .string t.atom.name, .slice ta2 t.atom.args.length tc2, .string t.v, .slice tA2 t.parts.length tC2] 64)) = w4b at *
  have hq := impl_FreeVariables (FmOwn.at ht ot2) hbt
  rw [Hr.out, Hok.out] at hq
  refine hq.mono ?_
  clear hq
  rintro e w5 ⟨_, Fr1, rfl, or1, lr1, hb⟩
  have z6 : Hid (w4b.heap.size ≤ w5.heap.size) := hb.size
  replace hW := hW.trans (hb.mono hW.size)
  replace bt := bt.keep hb
  replace ht := Fm.at_keep (Keeps.all hb) ht
  replace hr := D.rd_keep (Keeps.all hb) _ _ hr
  replace ot2 := FmOwn.keep (Keeps.all hb) ot2
  replace Bt2 := Bt2.keep hb
  clear ebt0 ebt1 ebt2 ebt3 ebt4 lbt eBt20 eBt21 eBt22 eBt23 eBt24 lBt2 hb
  obtain ⟨ra1, rc1, rfl, -, -⟩ := slOf_form (D.own_rd _ _ _ or1)
  have ur1 := D.own_lt _ _ _ or1
  have ebt0 := bt.c0
  have ebt1 := bt.c1
  have ebt2 := bt.c2
  have ebt3 := bt.c3
  have ebt4 := bt.c4
  have lbt := bt.lt
  have eBt20 := Bt2.c0
  have eBt21 := Bt2.c1
  have eBt22 := Bt2.c2
  have eBt23 := Bt2.c3
  have eBt24 := Bt2.c4
  have lBt2 := Bt2.lt
  go_wp2_with fail
  refine (eqStrS_refl (D.rd_all (D.own_rd _ _ _ or1)) (D.rd_all hr)).mono ?_
  rintro e w6 ⟨_, rfl, hb, rfl⟩
  have z7 : Hid (w5.heap.size ≤ w6.heap.size) := hb.size
  replace hW := hW.trans (hb.mono hW.size)
  replace bt := bt.keep hb
  replace ht := Fm.at_keep (Keeps.all hb) ht
  replace hr := D.rd_keep (Keeps.all hb) _ _ hr
  replace ot2 := FmOwn.keep (Keeps.all hb) ot2
  replace Bt2 := Bt2.keep hb
  replace or1 := D.own_keep _ _ _ (Keeps.all hb) or1
  clear ebt0 ebt1 ebt2 ebt3 ebt4 lbt eBt20 eBt21 eBt22 eBt23 eBt24 lBt2 hb
  have ebt0 := bt.c0
  have ebt1 := bt.c1
  have ebt2 := bt.c2
  have ebt3 := bt.c3
  have ebt4 := bt.c4
  have lbt := bt.lt
  have eBt20 := Bt2.c0
  have eBt21 := Bt2.c1
  have eBt22 := Bt2.c2
  have eBt23 := Bt2.c3
  have eBt24 := Bt2.c4
  have lBt2 := Bt2.lt
  go_wp2_with fail
  refine wp_region_B [fun v _ => v = .agg #[.int .i64 t.op, .string t.atom.name, .slice ta2 t.atom.args.length tc2, .string t.v, .slice tA2 t.parts.length tC2], fun v _ => v = .agg #[.int .i64 t.op, .string t.atom.name, .slice ta0 t.atom.args.length tc0, .string t.v, .slice tA0 t.parts.length tC0], IsF t, fun v _ => v = .bool true, fun v _ => v = .bool false] _ (fun V => by simp [putAll, Act.put]; rfl) (by kernel_rfl) (by decide) (by simp) (by kernel_rfl) ?_ ?_ ?_
  · intro F hF
    simp only [List.mem_cons, List.not_mem_nil, or_false] at hF
    rcases hF with rfl | rfl | rfl | rfl | rfl
    · exact stable_eq
    · exact stable_eq
    · exact IsF.stable
    · exact stable_eq
    · exact stable_eq
  · refine ⟨?_, ?_, ?_, ?_, ?_, trivial⟩
    · intro V w1 hbR _
      obtain ⟨hc, hf⟩ := bcell hbR
      try simp only [World.size_alloc, World.size_setCell] at hc hf
      unfold Does
      go_simp
      exact ⟨Below.refl _ _, rfl⟩
    · intro V w1 hbR _
      obtain ⟨hc, hf⟩ := bcell hbR
      try simp only [World.size_alloc, World.size_setCell] at hc hf
      unfold Does
      go_simp
      exact ⟨Below.refl _ _, rfl⟩
    · intro V w1 hbR ⟨f1, _⟩
      replace f1 : V 1 = .agg #[.int .i64 t.op, .string t.atom.name, .slice ta0 t.atom.args.length tc0, .string t.v, .slice tA0 t.parts.length tC0] := f1
      obtain ⟨hc, hf⟩ := bcell hbR
      try simp only [World.size_alloc, World.size_setCell] at hc hf
      unfold Does
      go_simp
      exact toFm_is (Fm.at_keep (Keeps.all hbR) ht) hbt
    · intro V w1 hbR ⟨f0, f2, _, _⟩
      replace f0 : V 0 = .agg #[.int .i64 t.op, .string t.atom.name, .slice ta2 t.atom.args.length tc2, .string t.v, .slice tA2 t.parts.length tC2] := f0
      replace f2 : (IsF t) (V 2) w1 := f2
      obtain ⟨_, _, _, _, E2, g2⟩ := IsF.form f2
      obtain ⟨hc, hf⟩ := bcell hbR
      try simp only [World.size_alloc, World.size_setCell] at hc hf
      unfold Does
      go_simp
      exact eqFm_refl (FmOwn.at ht (FmOwn.keep (Keeps.all hbR) ot2)) g2
    · intro V w1 hbR ⟨f3, _⟩
      replace f3 : V 3 = .bool true := f3
      unfold Does
      go_simp
      exact ⟨Below.refl _ _, rfl⟩
  intro V w7 hbR hfR
  obtain ⟨f0, f1, f2, f3, f4, _⟩ := hfR
  replace f0 : V 0 = .agg #[.int .i64 t.op, .string t.atom.name, .slice ta2 t.atom.args.length tc2, .string t.v, .slice tA2 t.parts.length tC2] := f0
  replace f1 : V 1 = .agg #[.int .i64 t.op, .string t.atom.name, .slice ta0 t.atom.args.length tc0, .string t.v, .slice tA0 t.parts.length tC0] := f1
  replace f2 : (IsF t) (V 2) w7 := f2
  replace f3 : V 3 = .bool true := f3
  replace f4 : V 4 = .bool false := f4
  simp only [f0, f1, f3, f4]
  clear f0 f1 f3 f4
  have hb := hbR
  have z8 : Hid (w6.heap.size ≤ w7.heap.size) := hb.size
  replace hW := hW.trans (hb.mono hW.size)
  replace bt := bt.keep hb
  replace ht := Fm.at_keep (Keeps.all hb) ht
  replace hr := D.rd_keep (Keeps.all hb) _ _ hr
  replace ot2 := FmOwn.keep (Keeps.all hb) ot2
  replace Bt2 := Bt2.keep hb
  replace or1 := D.own_keep _ _ _ (Keeps.all hb) or1
  clear ebt0 ebt1 ebt2 ebt3 ebt4 lbt eBt20 eBt21 eBt22 eBt23 eBt24 lBt2 hb hbR f2
  have ebt0 := bt.c0
  have ebt1 := bt.c1
  have ebt2 := bt.c2
  have ebt3 := bt.c3
  have ebt4 := bt.c4
  have lbt := bt.lt
  have eBt20 := Bt2.c0
  have eBt21 := Bt2.c1
  have eBt22 := Bt2.c2
  have eBt23 := Bt2.c3
  have eBt24 := Bt2.c4
  have lBt2 := Bt2.lt
  go_wp2_with fail
  obtain ⟨k0, Hk0⟩ : ∃ n : Nat, Hid (1 + t.marks = n) := ⟨_, hid rfl⟩
  have hq := markFm_any (o := t.op) (n := t.atom.name) (m := t.v) t 1 (by have := Fm.marks_bulk t; have := Hk0.out; omega) ot2
  rw [Hk0.out] at hq
  rw [show ((1 : Nat) : Int) = 1 from rfl] at hq
  have nk0 : ¬ ((k0 : Nat) : Int) < 0 := by omega
  refine hq.mono ?_
  clear hq
  rintro e w8 ⟨rfl, hm, oM⟩
  clear ot2
  have z9 : Hid (w7.heap.size ≤ w8.heap.size) := hm.size
  replace hW := hW.trans (hm.2 _ hW.size (fun y hy => by have q1 := lt2 y hy; have := z0.out; have := z1.out; have := z2.out; have := z3.out; have := z4.out; have := z5.out; have := z6.out; have := z7.out; have := z8.out; have := z9.out; omega))
  replace bt := bt.marked hm (fun q => by have q1 := lt2 _ q; have q2 := ut2 _ q; have := z0.out; have := z1.out; have := z2.out; have := z3.out; have := z4.out; have := z5.out; have := z6.out; have := z7.out; have := z8.out; have := z9.out; omega)
  replace ht := Fm.at_keep (hm.lt (fun y q => by have q1 := lt2 y q; have := z0.out; have := z1.out; have := z2.out; have := z3.out; have := z4.out; have := z5.out; have := z6.out; have := z7.out; have := z8.out; have := z9.out; omega)) ht
  replace hr := D.rd_keep (hm.lt (fun y q => by have q1 := lt2 y q; have := z0.out; have := z1.out; have := z2.out; have := z3.out; have := z4.out; have := z5.out; have := z6.out; have := z7.out; have := z8.out; have := z9.out; omega)) _ _ hr
  replace Bt2 := Bt2.marked hm (fun q => by have q1 := lt2 _ q; have q2 := ut2 _ q; have := z0.out; have := z1.out; have := z2.out; have := z3.out; have := z4.out; have := z5.out; have := z6.out; have := z7.out; have := z8.out; have := z9.out; omega)
  replace or1 := D.own_keep _ _ _ (hm.apart (fun y hy q => by have q1 := lt2 y q; have q2 := ut2 y q; have q3 := lr1 y hy; have q4 := ur1 y hy; have := z0.out; have := z1.out; have := z2.out; have := z3.out; have := z4.out; have := z5.out; have := z6.out; have := z7.out; have := z8.out; have := z9.out; omega)) or1
  clear ebt0 ebt1 ebt2 ebt3 ebt4 lbt eBt20 eBt21 eBt22 eBt23 eBt24 lBt2 hm
  clear oM lt2 ut2
  have ebt0 := bt.c0
  have ebt1 := bt.c1
  have ebt2 := bt.c2
  have ebt3 := bt.c3
  have ebt4 := bt.c4
  have lbt := bt.lt
  have eBt20 := Bt2.c0
  have eBt21 := Bt2.c1
  have eBt22 := Bt2.c2
  have eBt23 := Bt2.c3
  have eBt24 := Bt2.c4
  have lBt2 := Bt2.lt
  go_wp2_with fail
  refine (eqStrS_refl (D.rd_all (D.own_rd _ _ _ or1)) (D.rd_all hr)).mono ?_
  rintro e w9 ⟨_, rfl, hb, rfl⟩
  have z10 : Hid (w8.heap.size ≤ w9.heap.size) := hb.size
  replace hW := hW.trans (hb.mono hW.size)
  replace bt := bt.keep hb
  replace ht := Fm.at_keep (Keeps.all hb) ht
  replace hr := D.rd_keep (Keeps.all hb) _ _ hr
  replace Bt2 := Bt2.keep hb
  replace or1 := D.own_keep _ _ _ (Keeps.all hb) or1
  clear ebt0 ebt1 ebt2 ebt3 ebt4 lbt eBt20 eBt21 eBt22 eBt23 eBt24 lBt2 hb
  have ebt0 := bt.c0
  have ebt1 := bt.c1
  have ebt2 := bt.c2
  have ebt3 := bt.c3
  have ebt4 := bt.c4
  have lbt := bt.lt
  have eBt20 := Bt2.c0
  have eBt21 := Bt2.c1
  have eBt22 := Bt2.c2
  have eBt23 := Bt2.c3
  have eBt24 := Bt2.c4
  have lBt2 := Bt2.lt
  go_wp2_with fail
  have hq := markStrS_any r 1 hcr or1
  rw [Hrm.out] at hq
  rw [show ((1 : Nat) : Int) = 1 from rfl] at hq
  refine hq.mono ?_
  clear hq
  rintro e w10 ⟨rfl, hm, oM⟩
  clear or1
  have z11 : Hid (w9.heap.size ≤ w10.heap.size) := hm.size
  replace hW := hW.trans (hm.2 _ hW.size (fun y hy => by have q1 := lr1 y hy; have := z0.out; have := z1.out; have := z2.out; have := z3.out; have := z4.out; have := z5.out; have := z6.out; have := z7.out; have := z8.out; have := z9.out; have := z10.out; have := z11.out; omega))
  replace bt := bt.marked hm (fun q => by have q1 := lr1 _ q; have q2 := ur1 _ q; have := z0.out; have := z1.out; have := z2.out; have := z3.out; have := z4.out; have := z5.out; have := z6.out; have := z7.out; have := z8.out; have := z9.out; have := z10.out; have := z11.out; omega)
  replace ht := Fm.at_keep (hm.lt (fun y q => by have q1 := lr1 y q; have := z0.out; have := z1.out; have := z2.out; have := z3.out; have := z4.out; have := z5.out; have := z6.out; have := z7.out; have := z8.out; have := z9.out; have := z10.out; have := z11.out; omega)) ht
  replace hr := D.rd_keep (hm.lt (fun y q => by have q1 := lr1 y q; have := z0.out; have := z1.out; have := z2.out; have := z3.out; have := z4.out; have := z5.out; have := z6.out; have := z7.out; have := z8.out; have := z9.out; have := z10.out; have := z11.out; omega)) _ _ hr
  replace Bt2 := Bt2.marked hm (fun q => by have q1 := lr1 _ q; have q2 := ur1 _ q; have := z0.out; have := z1.out; have := z2.out; have := z3.out; have := z4.out; have := z5.out; have := z6.out; have := z7.out; have := z8.out; have := z9.out; have := z10.out; have := z11.out; omega)
  clear ebt0 ebt1 ebt2 ebt3 ebt4 lbt eBt20 eBt21 eBt22 eBt23 eBt24 lBt2 hm
  have oM0 := oM
  clear oM
  have ebt0 := bt.c0
  have ebt1 := bt.c1
  have ebt2 := bt.c2
  have ebt3 := bt.c3
  have ebt4 := bt.c4
  have lbt := bt.lt
  have eBt20 := Bt2.c0
  have eBt21 := Bt2.c1
  have eBt22 := Bt2.c2
  have eBt23 := Bt2.c3
  have eBt24 := Bt2.c4
  have lBt2 := Bt2.lt
  go_wp2_with fail
  have hq := heldStrS_any (mixS r 1 r.length) 1 (by rw [mixS_length]; exact hcr) (D.own_rd _ _ _ oM0) (fun i hi => mixS_get r 1 _ i hi (by rw [mixS_length] at hi; exact hi))
  rw [mixS_length] at hq
  rw [Hrm.out] at hq
  rw [show ((1 : Nat) : Int) = 1 from rfl] at hq
  refine hq.mono ?_
  clear hq
  rintro e w11 ⟨_, rfl, hb, rfl⟩
  have z12 : Hid (w10.heap.size ≤ w11.heap.size) := hb.size
  replace hW := hW.trans (hb.mono hW.size)
  replace bt := bt.keep hb
  replace ht := Fm.at_keep (Keeps.all hb) ht
  replace hr := D.rd_keep (Keeps.all hb) _ _ hr
  replace Bt2 := Bt2.keep hb
  replace oM0 := D.own_keep _ _ _ (Keeps.all hb) oM0
  clear ebt0 ebt1 ebt2 ebt3 ebt4 lbt eBt20 eBt21 eBt22 eBt23 eBt24 lBt2 hb
  have ebt0 := bt.c0
  have ebt1 := bt.c1
  have ebt2 := bt.c2
  have ebt3 := bt.c3
  have ebt4 := bt.c4
  have lbt := bt.lt
  have eBt20 := Bt2.c0
  have eBt21 := Bt2.c1
  have eBt22 := Bt2.c2
  have eBt23 := Bt2.c3
  have eBt24 := Bt2.c4
  have lBt2 := Bt2.lt
  go_wp2_with fail
  refine (toFm_held ht hbt).mono ?_
  rintro e w12 ⟨ta3, tc3, tA3, tC3, Ft3, rfl, ot3, lt3, hb⟩
  have z13 : Hid (w11.heap.size ≤ w12.heap.size) := hb.size
  replace hW := hW.trans (hb.mono hW.size)
  replace bt := bt.keep hb
  replace ht := Fm.at_keep (Keeps.all hb) ht
  replace hr := D.rd_keep (Keeps.all hb) _ _ hr
  replace Bt2 := Bt2.keep hb
  replace oM0 := D.own_keep _ _ _ (Keeps.all hb) oM0
  clear ebt0 ebt1 ebt2 ebt3 ebt4 lbt eBt20 eBt21 eBt22 eBt23 eBt24 lBt2 hb
  have ut3 := FmOwn.lt ot3
  have ebt0 := bt.c0
  have ebt1 := bt.c1
  have ebt2 := bt.c2
  have ebt3 := bt.c3
  have ebt4 := bt.c4
  have lbt := bt.lt
  have eBt20 := Bt2.c0
  have eBt21 := Bt2.c1
  have eBt22 := Bt2.c2
  have eBt23 := Bt2.c3
  have eBt24 := Bt2.c4
  have lBt2 := Bt2.lt
  go_wp2_with fail
  have hq := impl_FreeVariables (FmOwn.at ht ot3) hbt
  rw [Hr.out, Hok.out] at hq
  refine hq.mono ?_
  clear hq
  rintro e w13 ⟨_, Fr2, rfl, or2, lr2, hb⟩
  have z14 : Hid (w12.heap.size ≤ w13.heap.size) := hb.size
  replace hW := hW.trans (hb.mono hW.size)
  replace bt := bt.keep hb
  replace ht := Fm.at_keep (Keeps.all hb) ht
  replace hr := D.rd_keep (Keeps.all hb) _ _ hr
  replace Bt2 := Bt2.keep hb
  replace oM0 := D.own_keep _ _ _ (Keeps.all hb) oM0
  replace ot3 := FmOwn.keep (Keeps.all hb) ot3
  clear ebt0 ebt1 ebt2 ebt3 ebt4 lbt eBt20 eBt21 eBt22 eBt23 eBt24 lBt2 hb
  obtain ⟨ra2, rc2, rfl, -, -⟩ := slOf_form (D.own_rd _ _ _ or2)
  have ur2 := D.own_lt _ _ _ or2
  clear ot3
  clear lt3 ut3
  have ebt0 := bt.c0
  have ebt1 := bt.c1
  have ebt2 := bt.c2
  have ebt3 := bt.c3
  have ebt4 := bt.c4
  have lbt := bt.lt
  have eBt20 := Bt2.c0
  have eBt21 := Bt2.c1
  have eBt22 := Bt2.c2
  have eBt23 := Bt2.c3
  have eBt24 := Bt2.c4
  have lBt2 := Bt2.lt
  go_wp2_with fail
  refine (eqStrS_refl (D.rd_all (D.own_rd _ _ _ or2)) (D.rd_all hr)).mono ?_
  rintro e w14 ⟨_, rfl, hb, rfl⟩
  have z15 : Hid (w13.heap.size ≤ w14.heap.size) := hb.size
  replace hW := hW.trans (hb.mono hW.size)
  replace bt := bt.keep hb
  replace ht := Fm.at_keep (Keeps.all hb) ht
  replace hr := D.rd_keep (Keeps.all hb) _ _ hr
  replace Bt2 := Bt2.keep hb
  replace oM0 := D.own_keep _ _ _ (Keeps.all hb) oM0
  replace or2 := D.own_keep _ _ _ (Keeps.all hb) or2
  clear ebt0 ebt1 ebt2 ebt3 ebt4 lbt eBt20 eBt21 eBt22 eBt23 eBt24 lBt2 hb
  have ebt0 := bt.c0
  have ebt1 := bt.c1
  have ebt2 := bt.c2
  have ebt3 := bt.c3
  have ebt4 := bt.c4
  have lbt := bt.lt
  have eBt20 := Bt2.c0
  have eBt21 := Bt2.c1
  have eBt22 := Bt2.c2
  have eBt23 := Bt2.c3
  have eBt24 := Bt2.c4
  have lBt2 := Bt2.lt
  go_wp2_with fail
  have hq := heldStrS_any (mixS r 1 r.length) 1 (by rw [mixS_length]; exact hcr) (D.own_rd _ _ _ oM0) (fun i hi => mixS_get r 1 _ i hi (by rw [mixS_length] at hi; exact hi))
  rw [mixS_length] at hq
  rw [Hrm.out] at hq
  rw [show ((1 : Nat) : Int) = 1 from rfl] at hq
  refine hq.mono ?_
  clear hq
  rintro e w15 ⟨_, rfl, hb, rfl⟩
  have z16 : Hid (w14.heap.size ≤ w15.heap.size) := hb.size
  replace hW := hW.trans (hb.mono hW.size)
  replace bt := bt.keep hb
  replace ht := Fm.at_keep (Keeps.all hb) ht
  replace hr := D.rd_keep (Keeps.all hb) _ _ hr
  replace Bt2 := Bt2.keep hb
  replace oM0 := D.own_keep _ _ _ (Keeps.all hb) oM0
  replace or2 := D.own_keep _ _ _ (Keeps.all hb) or2
  clear ebt0 ebt1 ebt2 ebt3 ebt4 lbt eBt20 eBt21 eBt22 eBt23 eBt24 lBt2 hb
  have ebt0 := bt.c0
  have ebt1 := bt.c1
  have ebt2 := bt.c2
  have ebt3 := bt.c3
  have ebt4 := bt.c4
  have lbt := bt.lt
  have eBt20 := Bt2.c0
  have eBt21 := Bt2.c1
  have eBt22 := Bt2.c2
  have eBt23 := Bt2.c3
  have eBt24 := Bt2.c4
  have lBt2 := Bt2.lt
  go_wp2_with fail
  go_ret
  exact ⟨rfl, hW⟩

/-! the row -/
set_option maxRecDepth 100000 in
theorem lifted (os : Os) (started : os.Started) (H : Type) (enc : TypeId × Value → H) :
    ReturnsInHanded {} Try.checked os 5 .any (Rows.fnExactFreeVariablesSpec.pre6 enc Try.prog Try.f5 Rows.fnExactFreeVariablesRow.domain false) (Rows.fnExactFreeVariablesSpec.post enc Try.prog Try.f5 false true false false) := by
  refine returnsInHanded_of_change (C := Try.checked) own started (by kernel_rfl) Try.func5
    (ChangeSpec.witness6 (enc := enc) (C := Try.checked) false ⟨#[], #[.agg #[.int .i64 0, .string ByteArray.empty, .slice none 0 0, .string ByteArray.empty, .slice none 0 0]], []⟩ 8 (by kernel_rfl) (by kernel_rfl) (by kernel_rfl) (by kernel_rfl)) ?_
  intro W base args ds gs before hval0 hW _ _
  have hval : ∀ (j : Nat) t v, Try.f5.params[j]? = some t → args[j]? = some v → Value.okWide Try.prog W .any base t v := hval0
  have hW' := hW
  obtain ⟨p, q, hA0, hV, rfl, hfz, hnd⟩ := hW
  have hA : DataW.TrodAll enc Try.prog W 0 (fun _ => true) true Try.f5.params.toList args.toList ds p := hA0
  rw [Try.params5] at hA hval
  obtain ⟨v0, vs0, d0, ds0, p0, q0, hargs, rfl, rfl, h0, r0⟩ := trodAll_cons hA
  obtain ⟨rfl, rfl, rfl⟩ := trodAll_nil r0
  obtain rfl : args = #[v0] := by cases args; simp_all
  obtain ⟨rfl, rfl⟩ := trodVars_none hV
  have k0 := h0
  obtain ⟨t0, t1, t2, t3, t4, t, rfl, ht⟩ := open_Formula (hval 0 58 v0 rfl rfl) h0
  clear hA0 hval0
  simp only [List.append_nil] at hW'
  have hlt0 : ∀ x ∈ p0, x.block < W.heap.size := fun x hx => hW'.lt x (by simp [hx])
  refine (walk t0 t1 t2 t3 t4 t ht).mono fun e W' ⟨he, hb⟩ => ?_
  subst he
  exact ⟨_, rfl, [d0], [], _, [], p0 ++ [], [], by simpa using hW', trodAll_cons_mk (shut_bool Try.underlying4 _) trodAll_mk0, (trodAll_cons_mk (Below.trod laidOut (by kernel_rfl) (of_decide_eq_true (by kernel_rfl)) k0 hb hlt0) trodAll_mk0), rfl, hb.frame _, fun h => by cases h⟩

theorem over : Rows.fnExactFreeVariablesRow.holds Try.pinned (OpenSpec.ofChange Rows.fnExactFreeVariablesSpec) :=
  OpenClaim.holds_of_wide 5 Try.f5 rfl rfl rfl rfl rfl rfl rfl ⟨rfl, rfl, rfl, rfl, rfl⟩ rfl rfl rfl rfl rfl (by kernel_rfl) Try.func5 (by kernel_rfl)
    (of_decide_eq_true (by kernel_rfl)) (by unfold Func.isWrapper; first | (rw [if_pos (by decide +kernel)]; kernel_rfl) | (rw [if_neg (by decide +kernel)]; exact ⟨rfl, rfl⟩))
    (fun os started H enc _ => lifted os started H enc)

theorem proved : Rows.FnExactFreeVariablesSaid :=
  over
#print axioms proved
end Go.Proofs.Ytominpdaipaioaa.fnExactFreeVariables
