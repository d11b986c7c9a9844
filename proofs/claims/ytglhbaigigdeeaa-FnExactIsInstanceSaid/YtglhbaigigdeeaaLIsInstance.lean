/- For every input the law FnExactIsInstance returns true, and each argument reads behind the call as it read before it. No conditions. -/
import Derived.Test.YtglhbaigigdeeaaRows
import Derived.Test.YtglhbaigigdeeaaQ01
import Derived.Test.YtglhbaigigdeeaaQ02
import Derived.Test.YtglhbaigigdeeaaQ19
import Derived.OpenShut
namespace Go.Proofs.Ytglhbaigigdeeaa.fnExactIsInstance
set_option maxRecDepth 100000
open Go.ChangeShapes Go.WideShapes Go.ChangeAt Go.RowKit

set_option maxHeartbeats 2000000 in
theorem walk (t0 t1 : Value) (t : Tm) {w : World} (ht : Tm.at (fun _ => True) w t0 t1 t) (u0 u1 : Value) (u : Tm) (hu : Tm.at (fun _ => True) w u0 u1 u) :
    Calls Try.prog 4 #[.agg #[t0, t1], .agg #[u0, u1]] w fun e w' => e = .returned (.bool true) ∧ Below w.heap.size w w' := by
  obtain ⟨rfl, -, ta0, tc0, rfl⟩ := Tm.at_form ht
  obtain ⟨rfl, -, ua0, uc0, rfl⟩ := Tm.at_form hu
  have hW : Below w.heap.size w ((w.alloc (.cells #[.string t.name, .slice ta0 t.args.length tc0] 24)).alloc (.cells #[.string u.name, .slice ua0 u.args.length uc0] 24)) := ((Below.refl _ _).alloc (Nat.le_refl _) _).alloc (by simp) _
  have bt : Box ((w.alloc (.cells #[.string t.name, .slice ta0 t.args.length tc0] 24)).alloc (.cells #[.string u.name, .slice ua0 u.args.length uc0] 24)) (w.heap.size) [.string t.name, .slice ta0 t.args.length tc0] := by
    have := (Box.new w [.string t.name, .slice ta0 t.args.length tc0] 24).alloc (.cells #[.string u.name, .slice ua0 u.args.length uc0] 24)
    simpa only [World.size_alloc] using this
  have bu : Box ((w.alloc (.cells #[.string t.name, .slice ta0 t.args.length tc0] 24)).alloc (.cells #[.string u.name, .slice ua0 u.args.length uc0] 24)) (w.heap.size + 1) [.string u.name, .slice ua0 u.args.length uc0] := by
    have := (Box.new (w.alloc (.cells #[.string t.name, .slice ta0 t.args.length tc0] 24)) [.string u.name, .slice ua0 u.args.length uc0] 24)
    simpa only [World.size_alloc] using this
  replace ht := Tm.at_keep (Keeps.all hW) ht
  replace hu := Tm.at_keep (Keeps.all hW) hu
  go_enter Try.func4, Try.ntmps4
  have ebt0 := bt.c0
  have ebt1 := bt.c1
  have lbt := bt.lt
  have ebu0 := bu.c0
  have ebu1 := bu.c1
  have lbu := bu.lt
  go_wp2_with fail
  generalize ((w.alloc (.cells #[.string t.name, .slice ta0 t.args.length tc0] 24)).alloc (.cells #[.string u.name, .slice ua0 u.args.length uc0] 24)) = w0 at *
  refine (szTerm_any t _ _ _ _ _ ht (by omega) (by omega)).mono ?_
  rintro e w1 ⟨rfl, hb⟩
  replace hW := hW.trans (hb.mono hW.size)
  replace bt := bt.keep hb
  replace bu := bu.keep hb
  replace ht := Tm.at_keep (Keeps.all hb) ht
  replace hu := Tm.at_keep (Keeps.all hb) hu
  clear ebt0 ebt1 lbt ebu0 ebu1 lbu hb
  by_cases hzt : (t.bulk : Int) ≤ 1048576
  rotate_left
  · rw [after_neg (by omega)]
    go_wp2_with fail
    go_ret
    exact ⟨rfl, hW⟩
  rw [after_pos hzt]
  have hbt : t.bulk ≤ 1048576 := by omega
  have ebt0 := bt.c0
  have ebt1 := bt.c1
  have lbt := bt.lt
  have ebu0 := bu.c0
  have ebu1 := bu.c1
  have lbu := bu.lt
  go_wp2_with fail
  refine (szTerm_any u _ _ _ _ _ hu (by omega) (by omega)).mono ?_
  rintro e w2 ⟨rfl, hb⟩
  replace hW := hW.trans (hb.mono hW.size)
  replace bt := bt.keep hb
  replace bu := bu.keep hb
  replace ht := Tm.at_keep (Keeps.all hb) ht
  replace hu := Tm.at_keep (Keeps.all hb) hu
  clear ebt0 ebt1 lbt ebu0 ebu1 lbu hb
  by_cases hzu : (u.bulk : Int) ≤ 1048576 - (t.bulk : Nat)
  rotate_left
  · rw [after_neg (by omega)]
    go_wp2_with fail
    go_ret
    exact ⟨rfl, hW⟩
  rw [after_pos hzu]
  have hbu : u.bulk ≤ 1048576 := by omega
  have ebt0 := bt.c0
  have ebt1 := bt.c1
  have lbt := bt.lt
  have ebu0 := bu.c0
  have ebu1 := bu.c1
  have lbu := bu.lt
  go_wp2_with fail
  refine wp_region_B [fun v _ => v = .agg #[.string t.name, .slice ta0 t.args.length tc0], Is t, fun v _ => v = .agg #[.string u.name, .slice ua0 u.args.length uc0], Is u, fun v _ => v = .tuple #[.bool (matchOk u t), .bool (t.expr && u.expr)], fun v _ => v = .tuple #[.bool (matchOk u t), .bool (t.expr && u.expr)], fun v _ => v = .bool (matchOk u t), fun v _ => v = .bool (t.expr && u.expr), fun v _ => v = .bool (matchOk u t), fun v _ => v = .bool (t.expr && u.expr)] _ (fun V => by simp [putAll, Act.put]; rfl) (by kernel_rfl) (by decide) (by simp) (by kernel_rfl) ?_ ?_ ?_
  · intro F hF
    simp only [List.mem_cons, List.not_mem_nil, or_false] at hF
    rcases hF with rfl | rfl | rfl | rfl | rfl | rfl | rfl | rfl | rfl | rfl
    · exact stable_eq
    · exact Is.stable
    · exact stable_eq
    · exact Is.stable
    · exact stable_eq
    · exact stable_eq
    · exact stable_eq
    · exact stable_eq
    · exact stable_eq
    · exact stable_eq
  · refine ⟨?_, ?_, ?_, ?_, ?_, ?_, ?_, ?_, ?_, ?_, trivial⟩
    · intro V w1 hbR _
      obtain ⟨hc, hf⟩ := bcell hbR
      try simp only [World.size_alloc, World.size_setCell] at hc hf
      unfold Does
      go_simp
      exact ⟨Below.refl _ _, rfl⟩
    · intro V w1 hbR ⟨f0, _⟩
      replace f0 : V 0 = .agg #[.string t.name, .slice ta0 t.args.length tc0] := f0
      obtain ⟨hc, hf⟩ := bcell hbR
      try simp only [World.size_alloc, World.size_setCell] at hc hf
      unfold Does
      go_simp
      exact toTerm_is (Tm.at_keep (Keeps.all hbR) ht) hbt
    · intro V w1 hbR _
      obtain ⟨hc, hf⟩ := bcell hbR
      try simp only [World.size_alloc, World.size_setCell] at hc hf
      unfold Does
      go_simp
      exact ⟨Below.refl _ _, rfl⟩
    · intro V w1 hbR ⟨f2, f1, _⟩
      replace f1 : (Is t) (V 1) w1 := f1
      replace f2 : V 2 = .agg #[.string u.name, .slice ua0 u.args.length uc0] := f2
      obtain ⟨hc, hf⟩ := bcell hbR
      try simp only [World.size_alloc, World.size_setCell] at hc hf
      unfold Does
      go_simp
      exact toTerm_is (Tm.at_keep (Keeps.all hbR) hu) hbu
    · intro V w1 hbR ⟨f1, f3, _, _⟩
      replace f1 : (Is t) (V 1) w1 := f1
      replace f3 : (Is u) (V 3) w1 := f3
      obtain ⟨_, _, E1, g1⟩ := Is.form f1; obtain ⟨_, _, E3, g3⟩ := Is.form f3
      obtain ⟨hc, hf⟩ := bcell hbR
      try simp only [World.size_alloc, World.size_setCell] at hc hf
      unfold Does
      go_simp
      exact spec_IsInstance g1 hbt g3 hbu
    · intro V w1 hbR ⟨f4, _⟩
      replace f4 : V 4 = .tuple #[.bool (matchOk u t), .bool (t.expr && u.expr)] := f4
      unfold Does
      go_simp
      exact ⟨Below.refl _ _, rfl⟩
    · intro V w1 hbR ⟨f5, _⟩
      replace f5 : V 5 = .tuple #[.bool (matchOk u t), .bool (t.expr && u.expr)] := f5
      unfold Does
      go_simp
      exact ⟨Below.refl _ _, rfl⟩
    · intro V w1 hbR ⟨f5, _⟩
      replace f5 : V 5 = .tuple #[.bool (matchOk u t), .bool (t.expr && u.expr)] := f5
      unfold Does
      go_simp
      exact ⟨Below.refl _ _, rfl⟩
    · intro V w1 hbR ⟨f6, f4, f0, f1, f2, f3, _, f5, _, _⟩
      replace f0 : V 0 = .agg #[.string t.name, .slice ta0 t.args.length tc0] := f0
      replace f1 : (Is t) (V 1) w1 := f1
      replace f2 : V 2 = .agg #[.string u.name, .slice ua0 u.args.length uc0] := f2
      replace f3 : (Is u) (V 3) w1 := f3
      replace f4 : V 4 = .tuple #[.bool (matchOk u t), .bool (t.expr && u.expr)] := f4
      replace f5 : V 5 = .tuple #[.bool (matchOk u t), .bool (t.expr && u.expr)] := f5
      replace f6 : V 6 = .bool (matchOk u t) := f6
      unfold Does
      go_simp
      exact ⟨Below.refl _ _, rfl⟩
    · intro V w1 hbR ⟨f7, f8, f0, f1, f2, f3, f4, f5, f6, _, _, _⟩
      replace f0 : V 0 = .agg #[.string t.name, .slice ta0 t.args.length tc0] := f0
      replace f1 : (Is t) (V 1) w1 := f1
      replace f2 : V 2 = .agg #[.string u.name, .slice ua0 u.args.length uc0] := f2
      replace f3 : (Is u) (V 3) w1 := f3
      replace f4 : V 4 = .tuple #[.bool (matchOk u t), .bool (t.expr && u.expr)] := f4
      replace f5 : V 5 = .tuple #[.bool (matchOk u t), .bool (t.expr && u.expr)] := f5
      replace f6 : V 6 = .bool (matchOk u t) := f6
      replace f7 : V 7 = .bool (t.expr && u.expr) := f7
      replace f8 : V 8 = .bool (matchOk u t) := f8
      unfold Does
      go_simp
      exact ⟨Below.refl _ _, rfl⟩
  intro V w3 hbR hfR
  obtain ⟨f0, f1, f2, f3, f4, f5, f6, f7, f8, f9, _⟩ := hfR
  replace f0 : V 0 = .agg #[.string t.name, .slice ta0 t.args.length tc0] := f0
  replace f1 : (Is t) (V 1) w3 := f1
  replace f2 : V 2 = .agg #[.string u.name, .slice ua0 u.args.length uc0] := f2
  replace f3 : (Is u) (V 3) w3 := f3
  replace f4 : V 4 = .tuple #[.bool (matchOk u t), .bool (t.expr && u.expr)] := f4
  replace f5 : V 5 = .tuple #[.bool (matchOk u t), .bool (t.expr && u.expr)] := f5
  replace f6 : V 6 = .bool (matchOk u t) := f6
  replace f7 : V 7 = .bool (t.expr && u.expr) := f7
  replace f8 : V 8 = .bool (matchOk u t) := f8
  replace f9 : V 9 = .bool (t.expr && u.expr) := f9
  simp only [f0, f2, f4, f5, f6, f7, f8, f9]
  clear f0 f2 f4 f5 f6 f7 f8 f9
  have hb := hbR
  replace hW := hW.trans (hb.mono hW.size)
  replace bt := bt.keep hb
  replace bu := bu.keep hb
  replace ht := Tm.at_keep (Keeps.all hb) ht
  replace hu := Tm.at_keep (Keeps.all hb) hu
  clear ebt0 ebt1 lbt ebu0 ebu1 lbu hb hbR f1 f3
  have ebt0 := bt.c0
  have ebt1 := bt.c1
  have lbt := bt.lt
  have ebu0 := bu.c0
  have ebu1 := bu.c1
  have lbu := bu.lt
  go_wp2_with fail
  refine (toTerm_is ht hbt).mono ?_
  rintro e w4 ⟨_, rfl, hb, hI⟩
  replace hW := hW.trans (hb.mono hW.size)
  replace bt := bt.keep hb
  replace bu := bu.keep hb
  replace ht := Tm.at_keep (Keeps.all hb) ht
  replace hu := Tm.at_keep (Keeps.all hb) hu
  clear ebt0 ebt1 lbt ebu0 ebu1 lbu hb
  obtain ⟨ta1, tc1, rfl, ht1⟩ := Is.form hI
  have hb : Below w4.heap.size w4 (w4.alloc (.cells #[.string t.name, .slice ta1 t.args.length tc1] 33)) := (Below.refl _ _).alloc (Nat.le_refl _) _
  have Bt : Box (w4.alloc (.cells #[.string t.name, .slice ta1 t.args.length tc1] 33)) w4.heap.size [.string t.name, .slice ta1 t.args.length tc1] := Box.new _ _ _
  replace hW := hW.trans (hb.mono hW.size)
  replace bt := bt.keep hb
  replace bu := bu.keep hb
  replace ht := Tm.at_keep (Keeps.all hb) ht
  replace hu := Tm.at_keep (Keeps.all hb) hu
  replace ht1 := Tm.at_keep (Keeps.all hb) ht1
  clear hb
  have ebt0 := bt.c0
  have ebt1 := bt.c1
  have lbt := bt.lt
  have ebu0 := bu.c0
  have ebu1 := bu.c1
  have lbu := bu.lt
  have eBt0 := Bt.c0
  have eBt1 := Bt.c1
  have lBt := Bt.lt
  go_wp2_with fail
  refine (toTerm_is hu hbu).mono ?_
  rintro e w5 ⟨_, rfl, hb, hI⟩
  replace hW := hW.trans (hb.mono hW.size)
  replace bt := bt.keep hb
  replace bu := bu.keep hb
  replace ht := Tm.at_keep (Keeps.all hb) ht
  replace hu := Tm.at_keep (Keeps.all hb) hu
  replace ht1 := Tm.at_keep (Keeps.all hb) ht1
  replace Bt := Bt.keep hb
  clear ebt0 ebt1 lbt ebu0 ebu1 lbu eBt0 eBt1 lBt hb
  obtain ⟨ua1, uc1, rfl, hu1⟩ := Is.form hI
  have hb : Below w5.heap.size w5 (w5.alloc (.cells #[.string u.name, .slice ua1 u.args.length uc1] 33)) := (Below.refl _ _).alloc (Nat.le_refl _) _
  have Bu : Box (w5.alloc (.cells #[.string u.name, .slice ua1 u.args.length uc1] 33)) w5.heap.size [.string u.name, .slice ua1 u.args.length uc1] := Box.new _ _ _
  replace hW := hW.trans (hb.mono hW.size)
  replace bt := bt.keep hb
  replace bu := bu.keep hb
  replace ht := Tm.at_keep (Keeps.all hb) ht
  replace hu := Tm.at_keep (Keeps.all hb) hu
  replace ht1 := Tm.at_keep (Keeps.all hb) ht1
  replace Bt := Bt.keep hb
  replace hu1 := Tm.at_keep (Keeps.all hb) hu1
  clear hb
  have ebt0 := bt.c0
  have ebt1 := bt.c1
  have lbt := bt.lt
  have ebu0 := bu.c0
  have ebu1 := bu.c1
  have lbu := bu.lt
  have eBt0 := Bt.c0
  have eBt1 := Bt.c1
  have lBt := Bt.lt
  have eBu0 := Bu.c0
  have eBu1 := Bu.c1
  have lBu := Bu.lt
  go_wp2_with fail
  refine (impl_IsInstance ht1 hbt hu1 hbu).mono ?_
  rintro e w6 ⟨_, rfl, hb, rfl⟩
  replace hW := hW.trans (hb.mono hW.size)
  replace bt := bt.keep hb
  replace bu := bu.keep hb
  replace ht := Tm.at_keep (Keeps.all hb) ht
  replace hu := Tm.at_keep (Keeps.all hb) hu
  replace ht1 := Tm.at_keep (Keeps.all hb) ht1
  replace Bt := Bt.keep hb
  replace hu1 := Tm.at_keep (Keeps.all hb) hu1
  replace Bu := Bu.keep hb
  clear ebt0 ebt1 lbt ebu0 ebu1 lbu eBt0 eBt1 lBt eBu0 eBu1 lBu hb
  have ebt0 := bt.c0
  have ebt1 := bt.c1
  have lbt := bt.lt
  have ebu0 := bu.c0
  have ebu1 := bu.c1
  have lbu := bu.lt
  have eBt0 := Bt.c0
  have eBt1 := Bt.c1
  have lBt := Bt.lt
  have eBu0 := Bu.c0
  have eBu1 := Bu.c1
  have lBu := Bu.lt
  go_wp2_with fail
  refine wp_region_B [fun v _ => v = .agg #[.string t.name, .slice ta1 t.args.length tc1], fun v _ => v = .agg #[.string t.name, .slice ta0 t.args.length tc0], Is t, fun v _ => v = .bool true, fun v _ => v = .bool false] _ (fun V => by simp [putAll, Act.put]; rfl) (by kernel_rfl) (by decide) (by simp) (by kernel_rfl) ?_ ?_ ?_
  · intro F hF
    simp only [List.mem_cons, List.not_mem_nil, or_false] at hF
    rcases hF with rfl | rfl | rfl | rfl | rfl
    · exact stable_eq
    · exact stable_eq
    · exact Is.stable
    · exact stable_eq
    · exact stable_eq
  · refine ⟨?_, ?_, ?_, ?_, ?_, trivial⟩
    · intro V w1 hbR _
      obtain ⟨hc, hf⟩ := bcell hbR
      try simp only [World.size_alloc, World.size_setCell] at hc hf
      unfold Does
      go_simp
      exact ⟨Below.refl _ _, rfl⟩
    · intro V w1 hbR _
      obtain ⟨hc, hf⟩ := bcell hbR
      try simp only [World.size_alloc, World.size_setCell] at hc hf
      unfold Does
      go_simp
      exact ⟨Below.refl _ _, rfl⟩
    · intro V w1 hbR ⟨f1, _⟩
      replace f1 : V 1 = .agg #[.string t.name, .slice ta0 t.args.length tc0] := f1
      obtain ⟨hc, hf⟩ := bcell hbR
      try simp only [World.size_alloc, World.size_setCell] at hc hf
      unfold Does
      go_simp
      exact toTerm_is (Tm.at_keep (Keeps.all hbR) ht) hbt
    · intro V w1 hbR ⟨f0, f2, _, _⟩
      replace f0 : V 0 = .agg #[.string t.name, .slice ta1 t.args.length tc1] := f0
      replace f2 : (Is t) (V 2) w1 := f2
      obtain ⟨_, _, E2, g2⟩ := Is.form f2
      obtain ⟨hc, hf⟩ := bcell hbR
      try simp only [World.size_alloc, World.size_setCell] at hc hf
      unfold Does
      go_simp
      exact eqTerm_refl (Tm.at_keep (Keeps.all hbR) ht1) g2
    · intro V w1 hbR ⟨f3, _⟩
      replace f3 : V 3 = .bool true := f3
      unfold Does
      go_simp
      exact ⟨Below.refl _ _, rfl⟩
  intro V w7 hbR hfR
  obtain ⟨f0, f1, f2, f3, f4, _⟩ := hfR
  replace f0 : V 0 = .agg #[.string t.name, .slice ta1 t.args.length tc1] := f0
  replace f1 : V 1 = .agg #[.string t.name, .slice ta0 t.args.length tc0] := f1
  replace f2 : (Is t) (V 2) w7 := f2
  replace f3 : V 3 = .bool true := f3
  replace f4 : V 4 = .bool false := f4
  simp only [f0, f1, f3, f4]
  clear f0 f1 f3 f4
  have hb := hbR
  replace hW := hW.trans (hb.mono hW.size)
  replace bt := bt.keep hb
  replace bu := bu.keep hb
  replace ht := Tm.at_keep (Keeps.all hb) ht
  replace hu := Tm.at_keep (Keeps.all hb) hu
  replace ht1 := Tm.at_keep (Keeps.all hb) ht1
  replace Bt := Bt.keep hb
  replace hu1 := Tm.at_keep (Keeps.all hb) hu1
  replace Bu := Bu.keep hb
  clear ebt0 ebt1 lbt ebu0 ebu1 lbu eBt0 eBt1 lBt eBu0 eBu1 lBu hb hbR f2
  have ebt0 := bt.c0
  have ebt1 := bt.c1
  have lbt := bt.lt
  have ebu0 := bu.c0
  have ebu1 := bu.c1
  have lbu := bu.lt
  have eBt0 := Bt.c0
  have eBt1 := Bt.c1
  have lBt := Bt.lt
  have eBu0 := Bu.c0
  have eBu1 := Bu.c1
  have lBu := Bu.lt
  go_wp2_with fail
  refine wp_region_B [fun v _ => v = .agg #[.string u.name, .slice ua1 u.args.length uc1], fun v _ => v = .agg #[.string u.name, .slice ua0 u.args.length uc0], Is u, fun v _ => v = .bool true, fun v _ => v = .bool false] _ (fun V => by simp [putAll, Act.put]; rfl) (by kernel_rfl) (by decide) (by simp) (by kernel_rfl) ?_ ?_ ?_
  · intro F hF
    simp only [List.mem_cons, List.not_mem_nil, or_false] at hF
    rcases hF with rfl | rfl | rfl | rfl | rfl
    · exact stable_eq
    · exact stable_eq
    · exact Is.stable
    · exact stable_eq
    · exact stable_eq
  · refine ⟨?_, ?_, ?_, ?_, ?_, trivial⟩
    · intro V w1 hbR _
      obtain ⟨hc, hf⟩ := bcell hbR
      try simp only [World.size_alloc, World.size_setCell] at hc hf
      unfold Does
      go_simp
      exact ⟨Below.refl _ _, rfl⟩
    · intro V w1 hbR _
      obtain ⟨hc, hf⟩ := bcell hbR
      try simp only [World.size_alloc, World.size_setCell] at hc hf
      unfold Does
      go_simp
      exact ⟨Below.refl _ _, rfl⟩
    · intro V w1 hbR ⟨f1, _⟩
      replace f1 : V 1 = .agg #[.string u.name, .slice ua0 u.args.length uc0] := f1
      obtain ⟨hc, hf⟩ := bcell hbR
      try simp only [World.size_alloc, World.size_setCell] at hc hf
      unfold Does
      go_simp
      exact toTerm_is (Tm.at_keep (Keeps.all hbR) hu) hbu
    · intro V w1 hbR ⟨f0, f2, _, _⟩
      replace f0 : V 0 = .agg #[.string u.name, .slice ua1 u.args.length uc1] := f0
      replace f2 : (Is u) (V 2) w1 := f2
      obtain ⟨_, _, E2, g2⟩ := Is.form f2
      obtain ⟨hc, hf⟩ := bcell hbR
      try simp only [World.size_alloc, World.size_setCell] at hc hf
      unfold Does
      go_simp
      exact eqTerm_refl (Tm.at_keep (Keeps.all hbR) hu1) g2
    · intro V w1 hbR ⟨f3, _⟩
      replace f3 : V 3 = .bool true := f3
      unfold Does
      go_simp
      exact ⟨Below.refl _ _, rfl⟩
  intro V w8 hbR hfR
  obtain ⟨f0, f1, f2, f3, f4, _⟩ := hfR
  replace f0 : V 0 = .agg #[.string u.name, .slice ua1 u.args.length uc1] := f0
  replace f1 : V 1 = .agg #[.string u.name, .slice ua0 u.args.length uc0] := f1
  replace f2 : (Is u) (V 2) w8 := f2
  replace f3 : V 3 = .bool true := f3
  replace f4 : V 4 = .bool false := f4
  simp only [f0, f1, f3, f4]
  clear f0 f1 f3 f4
  have hb := hbR
  replace hW := hW.trans (hb.mono hW.size)
  replace bt := bt.keep hb
  replace bu := bu.keep hb
  replace ht := Tm.at_keep (Keeps.all hb) ht
  replace hu := Tm.at_keep (Keeps.all hb) hu
  replace ht1 := Tm.at_keep (Keeps.all hb) ht1
  replace Bt := Bt.keep hb
  replace hu1 := Tm.at_keep (Keeps.all hb) hu1
  replace Bu := Bu.keep hb
  clear ebt0 ebt1 lbt ebu0 ebu1 lbu eBt0 eBt1 lBt eBu0 eBu1 lBu hb hbR f2
  have ebt0 := bt.c0
  have ebt1 := bt.c1
  have lbt := bt.lt
  have ebu0 := bu.c0
  have ebu1 := bu.c1
  have lbu := bu.lt
  have eBt0 := Bt.c0
  have eBt1 := Bt.c1
  have lBt := Bt.lt
  have eBu0 := Bu.c0
  have eBu1 := Bu.c1
  have lBu := Bu.lt
  go_wp2_with fail
  go_ret
  exact ⟨rfl, hW⟩

/-! the row -/
set_option maxRecDepth 100000 in
theorem lifted (os : Os) (started : os.Started) (H : Type) (enc : TypeId × Value → H) :
    ReturnsInHanded {} Try.checked os 4 .any (Rows.fnExactIsInstanceSpec.pre6 enc Try.prog Try.f4 Rows.fnExactIsInstanceRow.domain false) (Rows.fnExactIsInstanceSpec.post enc Try.prog Try.f4 false true false false) := by
  refine returnsInHanded_of_change (C := Try.checked) own started (by kernel_rfl) Try.func4
    (ChangeSpec.witness6 (enc := enc) (C := Try.checked) false ⟨#[], #[.agg #[.string ByteArray.empty, .slice none 0 0], .agg #[.string ByteArray.empty, .slice none 0 0]], []⟩ 8 (by kernel_rfl) (by kernel_rfl) (by kernel_rfl) (by kernel_rfl)) ?_
  intro W base args ds gs before hval0 hW _ _
  have hval : ∀ (j : Nat) t v, Try.f4.params[j]? = some t → args[j]? = some v → Value.okWide Try.prog W .any base t v := hval0
  have hW' := hW
  obtain ⟨p, q, hA0, hV, rfl, hfz, hnd⟩ := hW
  have hA : DataW.TrodAll enc Try.prog W 0 (fun _ => true) true Try.f4.params.toList args.toList ds p := hA0
  rw [Try.params4] at hA hval
  obtain ⟨v0, vs0, d0, ds0, p0, q0, hargs, rfl, rfl, h0, r0⟩ := trodAll_cons hA
  obtain ⟨v1, vs1, d1, ds1, p1, q1, rfl, rfl, rfl, h1, r1⟩ := trodAll_cons r0
  obtain ⟨rfl, rfl, rfl⟩ := trodAll_nil r1
  obtain rfl : args = #[v0, v1] := by cases args; simp_all
  obtain ⟨rfl, rfl⟩ := trodVars_none hV
  have k0 := h0
  have k1 := h1
  obtain ⟨t0, t1, t, rfl, ht⟩ := open_Term (hval 0 24 v0 rfl rfl) h0
  obtain ⟨u0, u1, u, rfl, hu⟩ := open_Term (hval 1 24 v1 rfl rfl) h1
  clear hA0 hval0
  simp only [List.append_nil] at hW'
  have hlt0 : ∀ x ∈ p0, x.block < W.heap.size := fun x hx => hW'.lt x (by simp [hx])
  have hlt1 : ∀ x ∈ p1, x.block < W.heap.size := fun x hx => hW'.lt x (by simp [hx])
  refine (walk t0 t1 t ht u0 u1 u hu).mono fun e W' ⟨he, hb⟩ => ?_
  subst he
  exact ⟨_, rfl, [d0, d1], [], _, [], p0 ++ (p1 ++ []), [], by simpa using hW', trodAll_cons_mk (shut_bool Try.underlying4 _) trodAll_mk0, (trodAll_cons_mk (Below.trod laidOut (by kernel_rfl) (of_decide_eq_true (by kernel_rfl)) k0 hb hlt0) (trodAll_cons_mk (Below.trod laidOut (by kernel_rfl) (of_decide_eq_true (by kernel_rfl)) k1 hb hlt1) trodAll_mk0)), rfl, hb.frame _, fun h => by cases h⟩

theorem over : Rows.fnExactIsInstanceRow.holds Try.pinned (OpenSpec.ofChange Rows.fnExactIsInstanceSpec) :=
  OpenClaim.holds_of_wide 4 Try.f4 rfl rfl rfl rfl rfl rfl rfl ⟨rfl, rfl, rfl, rfl, rfl⟩ rfl rfl rfl rfl rfl (by kernel_rfl) Try.func4 (by kernel_rfl)
    (of_decide_eq_true (by kernel_rfl)) (by unfold Func.isWrapper; first | (rw [if_pos (by decide +kernel)]; kernel_rfl) | (rw [if_neg (by decide +kernel)]; exact ⟨rfl, rfl⟩))
    (fun os started H enc _ => lifted os started H enc)

theorem proved : Rows.FnExactIsInstanceSaid :=
  over
#print axioms proved
end Go.Proofs.Ytglhbaigigdeeaa.fnExactIsInstance
