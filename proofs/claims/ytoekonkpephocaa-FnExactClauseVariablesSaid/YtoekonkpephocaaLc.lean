/- CompareLiterals. -/
import Derived.Test.YtoekonkpephocaaCc
import Derived.Test.YtoekonkpephocaaLv
namespace Go.Proofs.Ytoekonkpephocaa
set_option maxRecDepth 100000
open Go.RowKit

def flagI (b : Bool) : Int := if b then 1 else 0
def Lit.cmp (x y : Lit) : Int := orZ (Tm.cmp x.atom y.atom) (numCmp (flagI x.pos) (flagI y.pos))
def Lit.compareR (x y : Lit) : Int := if x.atom.atom && y.atom.atom then Lit.cmp x y else 0
theorem Tm.atom_expr {t : Tm} (h : t.atom = true) : t.expr = true := by rw [Tm.expr, h]; simp

theorem flag_any (b : Bool) (w : World) : Calls Try.prog 168 #[.bool b] w fun e w' => e = .returned (.int .i64 (flagI b)) ∧ w = w' := by
  cases b
  all_goals
    go_enter Try.func168, Try.ntmps168
    go_wp2
    go_ret
    exact ⟨rfl, rfl⟩

set_option maxHeartbeats 2000000 in
theorem l7Literals_any {t u : Lit} {S : Nat → Prop} {c0 c1 c2 d0 d1 d2 : Value} {w : World} (hT : Lit.at S w c0 c1 c2 t) (hU : Lit.at S w d0 d1 d2 u) : Calls Try.prog 135 #[.agg #[c0, c1, c2], .agg #[d0, d1, d2]] w (Gives w (.int .i64 (Lit.cmp t u))) := by
  obtain ⟨rfl, rfl, a, cap, rfl⟩ := Lit.at_form hT
  obtain ⟨rfl, rfl, a', cap', rfl⟩ := Lit.at_form hU
  have hW : Below w.heap.size w ((w.alloc (.cells #[.bool t.pos, .string t.atom.name, .slice a t.atom.args.length cap] 126)).alloc (.cells #[.bool u.pos, .string u.atom.name, .slice a' u.atom.args.length cap'] 126)) := ((Below.refl _ _).alloc (Nat.le_refl _) _).alloc (by simp) _
  have bT : Box ((w.alloc (.cells #[.bool t.pos, .string t.atom.name, .slice a t.atom.args.length cap] 126)).alloc (.cells #[.bool u.pos, .string u.atom.name, .slice a' u.atom.args.length cap'] 126)) w.heap.size [.bool t.pos, .string t.atom.name, .slice a t.atom.args.length cap] := (Box.new w _ _).alloc _
  have bU : Box ((w.alloc (.cells #[.bool t.pos, .string t.atom.name, .slice a t.atom.args.length cap] 126)).alloc (.cells #[.bool u.pos, .string u.atom.name, .slice a' u.atom.args.length cap'] 126)) (w.heap.size + 1) [.bool u.pos, .string u.atom.name, .slice a' u.atom.args.length cap'] := by
    have := Box.new (w.alloc (.cells #[.bool t.pos, .string t.atom.name, .slice a t.atom.args.length cap] 126)) [.bool u.pos, .string u.atom.name, .slice a' u.atom.args.length cap'] 126
    simpa only [World.size_alloc] using this
  replace hT := Lit.at_keep (Keeps.all hW) hT
  replace hU := Lit.at_keep (Keeps.all hW) hU
  go_enter Try.func135, Try.ntmps135
  go_wp2_with fail
  generalize ((w.alloc (.cells #[.bool t.pos, .string t.atom.name, .slice a t.atom.args.length cap] 126)).alloc (.cells #[.bool u.pos, .string u.atom.name, .slice a' u.atom.args.length cap'] 126)) = w0 at *
  refine (l2Compare_any t.atom (Lit.at_atom hT) (Lit.at_atom hU)).mono ?_
  rintro e w1 ⟨_, rfl, hb, rfl⟩
  replace hW := hW.trans (hb.mono hW.size)
  replace bT := bT.keep hb
  replace bU := bU.keep hb
  replace hT := Lit.at_keep (Keeps.all hb) hT
  replace hU := Lit.at_keep (Keeps.all hb) hU
  clear hb
  have eT0 := bT.c0
  have eT1 := bT.c1
  have eT2 := bT.c2
  have eU0 := bU.c0
  have eU1 := bU.c1
  have eU2 := bU.c2
  have lT := bT.lt
  have lU := bU.lt
  by_cases hc : Tm.cmp t.atom u.atom = 0
  · have HX : Hid (Lit.cmp t u = numCmp (flagI t.pos) (flagI u.pos)) := by rw [Hid, Lit.cmp, hc, orZ, if_pos rfl]
    rw [hc]
    clear hc
    by_cases hp : t.pos = true
    · by_cases hq : u.pos = true
      · skip
        have HZ : Hid (Lit.cmp t u = 0) := by rw [Hid, HX.out, hp, hq]; rfl
        go_wp2_with fail
        go_ret
        exact Gives.mk (ret_i64 HZ.out.symm) hW
      · replace hq : u.pos = false := by simpa using hq
        have HZ : Hid (Lit.cmp t u = 1) := by rw [Hid, HX.out, hp, hq]; rfl
        go_wp2_with fail
        go_ret
        exact Gives.mk (ret_i64 HZ.out.symm) hW
    · replace hp : t.pos = false := by simpa using hp
      by_cases hq : u.pos = true
      · skip
        have HZ : Hid (Lit.cmp t u = -1) := by rw [Hid, HX.out, hp, hq]; rfl
        go_wp2_with fail
        go_ret
        exact Gives.mk (ret_i64 HZ.out.symm) hW
      · replace hq : u.pos = false := by simpa using hq
        have HZ : Hid (Lit.cmp t u = 0) := by rw [Hid, HX.out, hp, hq]; rfl
        go_wp2_with fail
        go_ret
        exact Gives.mk (ret_i64 HZ.out.symm) hW
  · have HX : Hid (Lit.cmp t u = Tm.cmp t.atom u.atom) := by rw [Hid, Lit.cmp, orZ, if_neg hc]
    have hc1 : (Tm.cmp t.atom u.atom == 0) = false := by simp [hc]
    have hc2 : (Tm.cmp t.atom u.atom != 0) = true := by simp [hc]
    clear hc
    go_wp2_with fail
    go_ret
    exact Gives.mk (ret_i64 HX.out.symm) hW

set_option maxHeartbeats 2000000 in
theorem compareLiterals_any {t u : Lit} (ht : t.atom.atom = true) (hu : u.atom.atom = true) {S : Nat → Prop} {c0 c1 c2 d0 d1 d2 : Value} {w : World} (hT : Lit.at S w c0 c1 c2 t) (hU : Lit.at S w d0 d1 d2 u) : Calls Try.prog 139 #[.agg #[c0, c1, c2], .agg #[d0, d1, d2]] w (Gives w (.int .i64 (Lit.cmp t u))) := by
  have HT := hid (Tm.expr_nice (Tm.atom_expr ht))
  have HU := hid (Tm.expr_nice (Tm.atom_expr hu))
  clear ht hu
  obtain ⟨rfl, rfl, a, cap, rfl⟩ := Lit.at_form hT
  obtain ⟨rfl, rfl, a', cap', rfl⟩ := Lit.at_form hU
  have hW : Below w.heap.size w ((w.alloc (.cells #[.bool t.pos, .string t.atom.name, .slice a t.atom.args.length cap] 126)).alloc (.cells #[.bool u.pos, .string u.atom.name, .slice a' u.atom.args.length cap'] 126)) := ((Below.refl _ _).alloc (Nat.le_refl _) _).alloc (by simp) _
  have bT : Box ((w.alloc (.cells #[.bool t.pos, .string t.atom.name, .slice a t.atom.args.length cap] 126)).alloc (.cells #[.bool u.pos, .string u.atom.name, .slice a' u.atom.args.length cap'] 126)) w.heap.size [.bool t.pos, .string t.atom.name, .slice a t.atom.args.length cap] := (Box.new w _ _).alloc _
  have bU : Box ((w.alloc (.cells #[.bool t.pos, .string t.atom.name, .slice a t.atom.args.length cap] 126)).alloc (.cells #[.bool u.pos, .string u.atom.name, .slice a' u.atom.args.length cap'] 126)) (w.heap.size + 1) [.bool u.pos, .string u.atom.name, .slice a' u.atom.args.length cap'] := by
    have := Box.new (w.alloc (.cells #[.bool t.pos, .string t.atom.name, .slice a t.atom.args.length cap] 126)) [.bool u.pos, .string u.atom.name, .slice a' u.atom.args.length cap'] 126
    simpa only [World.size_alloc] using this
  replace hT := Lit.at_keep (Keeps.all hW) hT
  replace hU := Lit.at_keep (Keeps.all hW) hU
  go_enter Try.func139, Try.ntmps139
  go_wp2_with fail
  generalize ((w.alloc (.cells #[.bool t.pos, .string t.atom.name, .slice a t.atom.args.length cap] 126)).alloc (.cells #[.bool u.pos, .string u.atom.name, .slice a' u.atom.args.length cap'] 126)) = w0 at *
  have eT0 := bT.c0
  have eT1 := bT.c1
  have eT2 := bT.c2
  have eU0 := bU.c0
  have eU1 := bU.c1
  have eU2 := bU.c2
  have lT := bT.lt
  have lU := bU.lt
  refine wp_region_B [fun v _ => v = .pointer (some ⟨w.heap.size, 1, none⟩), fun v _ => v = .agg #[.string t.atom.name, .slice a t.atom.args.length cap], fun v _ => v = .pointer (some ⟨(w.heap.size + 1), 1, none⟩), fun v _ => v = .agg #[.string u.atom.name, .slice a' u.atom.args.length cap'], fun v _ => v = .int .i64 (Tm.cmp t.atom u.atom), fun v _ => v = .pointer (some ⟨w.heap.size, 0, none⟩), fun v _ => v = .bool t.pos, fun v _ => v = .int .i64 (flagI t.pos), fun v _ => v = .pointer (some ⟨(w.heap.size + 1), 0, none⟩), fun v _ => v = .bool u.pos, fun v _ => v = .int .i64 (flagI u.pos), fun v _ => v = .int .i64 (numCmp (flagI t.pos) (flagI u.pos)), TwoInts (Tm.cmp t.atom u.atom) (numCmp (flagI t.pos) (flagI u.pos)), fun v _ => v = .int .i64 (Lit.cmp t u), fun v _ => v = .int .i64 (Lit.cmp t u)] _ (fun V => by simp [putAll, Act.put]; rfl) (by kernel_rfl) (by decide) (by simp) (by kernel_rfl) ?_ ?_ ?_
  · intro F hF
    simp only [List.mem_cons, List.not_mem_nil, or_false] at hF
    rcases hF with rfl | rfl | rfl | rfl | rfl | rfl | rfl | rfl | rfl | rfl | rfl | rfl | rfl | rfl | rfl
    · exact stable_eq
    · exact stable_eq
    · exact stable_eq
    · exact stable_eq
    · exact stable_eq
    · exact stable_eq
    · exact stable_eq
    · exact stable_eq
    · exact stable_eq
    · exact stable_eq
    · exact stable_eq
    · exact stable_eq
    · exact TwoInts.stable
    · exact stable_eq
    · exact stable_eq
  · refine ⟨?_, ?_, ?_, ?_, ?_, ?_, ?_, ?_, ?_, ?_, ?_, ?_, ?_, ?_, ?_, trivial⟩
    · intro V w1 hbR _
      unfold Does
      go_simp
      exact ⟨Below.refl _ _, rfl⟩
    · intro V w1 hbR ⟨f0, _⟩
      replace f0 : V 0 = .pointer (some ⟨w.heap.size, 1, none⟩) := f0
      obtain ⟨hc, hf⟩ := bcell hbR
      try simp only [World.size_alloc, World.size_setCell] at hc hf
      unfold Does
      go_simp
      exact ⟨Below.refl _ _, rfl⟩
    · intro V w1 hbR _
      unfold Does
      go_simp
      exact ⟨Below.refl _ _, rfl⟩
    · intro V w1 hbR ⟨f2, _⟩
      replace f2 : V 2 = .pointer (some ⟨(w.heap.size + 1), 1, none⟩) := f2
      obtain ⟨hc, hf⟩ := bcell hbR
      try simp only [World.size_alloc, World.size_setCell] at hc hf
      unfold Does
      go_simp
      exact ⟨Below.refl _ _, rfl⟩
    · intro V w1 hbR ⟨f1, f3, _⟩
      replace f1 : V 1 = .agg #[.string t.atom.name, .slice a t.atom.args.length cap] := f1
      replace f3 : V 3 = .agg #[.string u.atom.name, .slice a' u.atom.args.length cap'] := f3
      obtain ⟨hc, hf⟩ := bcell hbR
      try simp only [World.size_alloc, World.size_setCell] at hc hf
      unfold Does
      go_simp
      exact compareTerms_any t.atom HT.out HU.out (Tm.at_keep (Keeps.all hbR) (Lit.at_atom hT)) (Tm.at_keep (Keeps.all hbR) (Lit.at_atom hU))
    · intro V w1 hbR _
      unfold Does
      go_simp
      exact ⟨Below.refl _ _, rfl⟩
    · intro V w1 hbR ⟨f5, _⟩
      replace f5 : V 5 = .pointer (some ⟨w.heap.size, 0, none⟩) := f5
      obtain ⟨hc, hf⟩ := bcell hbR
      try simp only [World.size_alloc, World.size_setCell] at hc hf
      unfold Does
      go_simp
      exact ⟨Below.refl _ _, rfl⟩
    · intro V w1 hbR ⟨f6, f4, _⟩
      replace f4 : V 4 = .int .i64 (Tm.cmp t.atom u.atom) := f4
      replace f6 : V 6 = .bool t.pos := f6
      obtain ⟨hc, hf⟩ := bcell hbR
      try simp only [World.size_alloc, World.size_setCell] at hc hf
      unfold Does
      go_simp
      refine (flag_any _ w1).mono ?_; rintro e w4 ⟨rfl, rfl⟩; exact ⟨_, rfl, Below.refl _ _, rfl⟩
    · intro V w1 hbR _
      unfold Does
      go_simp
      exact ⟨Below.refl _ _, rfl⟩
    · intro V w1 hbR ⟨f8, _⟩
      replace f8 : V 8 = .pointer (some ⟨(w.heap.size + 1), 0, none⟩) := f8
      obtain ⟨hc, hf⟩ := bcell hbR
      try simp only [World.size_alloc, World.size_setCell] at hc hf
      unfold Does
      go_simp
      exact ⟨Below.refl _ _, rfl⟩
    · intro V w1 hbR ⟨f9, f7, _⟩
      replace f7 : V 7 = .int .i64 (flagI t.pos) := f7
      replace f9 : V 9 = .bool u.pos := f9
      obtain ⟨hc, hf⟩ := bcell hbR
      try simp only [World.size_alloc, World.size_setCell] at hc hf
      unfold Does
      go_simp
      refine (flag_any _ w1).mono ?_; rintro e w4 ⟨rfl, rfl⟩; exact ⟨_, rfl, Below.refl _ _, rfl⟩
    · intro V w1 hbR ⟨f7, f10, _, _⟩
      replace f7 : V 7 = .int .i64 (flagI t.pos) := f7
      replace f10 : V 10 = .int .i64 (flagI u.pos) := f10
      obtain ⟨hc, hf⟩ := bcell hbR
      try simp only [World.size_alloc, World.size_setCell] at hc hf
      unfold Does
      go_simp
      refine (compareInt_any _ _ w1).mono ?_; rintro e w4 ⟨rfl, rfl⟩; exact ⟨_, rfl, Below.refl _ _, rfl⟩
    · intro V w1 hbR ⟨f4, f11, _⟩
      replace f4 : V 4 = .int .i64 (Tm.cmp t.atom u.atom) := f4
      replace f11 : V 11 = .int .i64 (numCmp (flagI t.pos) (flagI u.pos)) := f11
      unfold Does
      go_simp
      exact TwoInts.mk _ _ _ _
    · intro V w1 hbR ⟨f12, f11, _⟩
      replace f11 : V 11 = .int .i64 (numCmp (flagI t.pos) (flagI u.pos)) := f11
      replace f12 : (TwoInts (Tm.cmp t.atom u.atom) (numCmp (flagI t.pos) (flagI u.pos))) (V 12) w1 := f12
      obtain ⟨hc, hf⟩ := bcell hbR
      try simp only [World.size_alloc, World.size_setCell] at hc hf
      unfold Does
      go_simp
      exact or_any f12
    · intro V w1 hbR ⟨f13, _, f0, f1, f2, f3, f4, f5, f6, f7, f8, f9, f10, f11, f12, _, _⟩
      replace f0 : V 0 = .pointer (some ⟨w.heap.size, 1, none⟩) := f0
      replace f1 : V 1 = .agg #[.string t.atom.name, .slice a t.atom.args.length cap] := f1
      replace f2 : V 2 = .pointer (some ⟨(w.heap.size + 1), 1, none⟩) := f2
      replace f3 : V 3 = .agg #[.string u.atom.name, .slice a' u.atom.args.length cap'] := f3
      replace f4 : V 4 = .int .i64 (Tm.cmp t.atom u.atom) := f4
      replace f5 : V 5 = .pointer (some ⟨w.heap.size, 0, none⟩) := f5
      replace f6 : V 6 = .bool t.pos := f6
      replace f7 : V 7 = .int .i64 (flagI t.pos) := f7
      replace f8 : V 8 = .pointer (some ⟨(w.heap.size + 1), 0, none⟩) := f8
      replace f9 : V 9 = .bool u.pos := f9
      replace f10 : V 10 = .int .i64 (flagI u.pos) := f10
      replace f11 : V 11 = .int .i64 (numCmp (flagI t.pos) (flagI u.pos)) := f11
      replace f12 : (TwoInts (Tm.cmp t.atom u.atom) (numCmp (flagI t.pos) (flagI u.pos))) (V 12) w1 := f12
      replace f13 : V 13 = .int .i64 (Lit.cmp t u) := f13
      unfold Does
      go_simp
      exact ⟨Below.refl _ _, rfl⟩
  intro V w1 hbR hfR
  obtain ⟨f0, f1, f2, f3, f4, f5, f6, f7, f8, f9, f10, f11, f12, f13, f14, _⟩ := hfR
  replace f0 : V 0 = .pointer (some ⟨w.heap.size, 1, none⟩) := f0
  replace f1 : V 1 = .agg #[.string t.atom.name, .slice a t.atom.args.length cap] := f1
  replace f2 : V 2 = .pointer (some ⟨(w.heap.size + 1), 1, none⟩) := f2
  replace f3 : V 3 = .agg #[.string u.atom.name, .slice a' u.atom.args.length cap'] := f3
  replace f4 : V 4 = .int .i64 (Tm.cmp t.atom u.atom) := f4
  replace f5 : V 5 = .pointer (some ⟨w.heap.size, 0, none⟩) := f5
  replace f6 : V 6 = .bool t.pos := f6
  replace f7 : V 7 = .int .i64 (flagI t.pos) := f7
  replace f8 : V 8 = .pointer (some ⟨(w.heap.size + 1), 0, none⟩) := f8
  replace f9 : V 9 = .bool u.pos := f9
  replace f10 : V 10 = .int .i64 (flagI u.pos) := f10
  replace f11 : V 11 = .int .i64 (numCmp (flagI t.pos) (flagI u.pos)) := f11
  replace f12 : (TwoInts (Tm.cmp t.atom u.atom) (numCmp (flagI t.pos) (flagI u.pos))) (V 12) w1 := f12
  replace f13 : V 13 = .int .i64 (Lit.cmp t u) := f13
  replace f14 : V 14 = .int .i64 (Lit.cmp t u) := f14
  simp only [f0, f1, f2, f3, f4, f5, f6, f7, f8, f9, f10, f11, f13, f14]
  clear f0 f1 f2 f3 f4 f5 f6 f7 f8 f9 f10 f11 f13 f14
  clear eT0 eT1 eT2 eU0 eU1 eU2 lT lU
  replace hW := hW.trans (hbR.mono hW.size)
  replace bT := bT.keep hbR
  replace bU := bU.keep hbR
  replace hT := Lit.at_keep (Keeps.all hbR) hT
  replace hU := Lit.at_keep (Keeps.all hbR) hU
  clear hbR
  go_wp2_with fail
  go_ret
  exact Gives.mk rfl hW

end Go.Proofs.Ytoekonkpephocaa
