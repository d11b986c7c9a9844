/- Terms that differ in bound names only: the walks. -/
import Derived.Test.YthpookgpmnbilaaAq
import Derived.Test.YthpookgpmnbilaaCi
import Derived.Test.YthpookgpmnbilaaHw
namespace Go.Proofs.Ythpookgpmnbilaa
set_option maxRecDepth 100000
open Go.RowKit

def LastF (f : FuncId) : Prop := ∀ {ss : List ByteArray} {s : ByteArray} {S : Nat → Prop} {v : Value} {w : World}, D.rd S w v (slOf strE ss) → Calls Try.prog f #[v, .string s] w fun e w' => e = .returned (.int .i64 (lastAt ss s)) ∧ w = w'
theorem boundAt_any : LastF 76 := by
  intro ss s S v w hv
  obtain ⟨a, cap, rfl, hlen, hcap⟩ := slOf_form hv
  unfold big at hlen
  go_enter Try.func76, Try.ntmps76
  go_wp2_with fail
  go_loop [5] (fun i => ∃ q : Int, i = .int .i64 q ∧ Hid ((q = -1 ∨ ∃ j : Nat, q = j ∧ j < ss.length) ∧ ∀ j (h : j < ss.length), q < j → ss[j] ≠ s)) (fun i => (intOf i + 1).toNat)
  case atStart =>
    refine ⟨(ss.length : Int) - 1, by go_num, ?_, fun j h h' => absurd h' (by omega)⟩
    by_cases h0 : ss.length = 0
    · left; omega
    · right; exact ⟨ss.length - 1, by omega, by omega⟩
  case round =>
    obtain ⟨q, rfl, HQ⟩ := hrel
    rcases HQ.out.1 with hq | ⟨j, hq, hj⟩
    · have HX : Hid (lastAt ss s = -1) := lastAt_none fun j hj => HQ.out.2 j hj (by omega)
      subst hq
      go_wp2_with fail
      go_ret
      exact ⟨ret_i64 HX.out.symm, rfl⟩
    · subst hq
      obtain ⟨b, off, rfl, -, hbl, hrr⟩ := strs_get hv (by intro e; subst e; simp at hj)
      obtain ⟨q0, -⟩ := hrr j hj
      clear hrr hv
      have hj0 : (0 : Int) ≤ (j : Int) := by omega
      by_cases he : ss[j] = s
      · have HX : Hid (lastAt ss s = j) := lastAt_at hj he fun j' hj' h => HQ.out.2 j' hj' (by omega)
        have hq := show (ss[j].toList == s.toList) = true by rw [he]; simp
        clear he
        go_wp2_with fail
        go_ret
        exact ⟨ret_i64 HX.out.symm, rfl⟩
      · have HS : Hid ((((j : Int) - 1 = -1) ∨ ∃ j' : Nat, (j : Int) - 1 = j' ∧ j' < ss.length) ∧ ∀ j' (h : j' < ss.length), (j : Int) - 1 < j' → ss[j'] ≠ s) := by
          refine ⟨?_, fun j' h h' => ?_⟩
          · by_cases h0 : j = 0
            · left; omega
            · right; exact ⟨j - 1, by omega, by omega⟩
          · by_cases hjj : j' = j
            · subst hjj; exact he
            · exact HQ.out.2 j' h (by omega)
        have hq := toList_ne he
        clear he
        go_wp2_with fail
        go_round
        case rel => exact ⟨(j : Int) - 1, by go_num, HS⟩
        case measure => simp [intOf]
theorem l8Last_any : LastF 69 := by
  intro ss s S v w hv
  obtain ⟨a, cap, rfl, hlen, hcap⟩ := slOf_form hv
  unfold big at hlen
  go_enter Try.func69, Try.ntmps69
  go_wp2_with fail
  go_loop [5] (fun i => ∃ q : Int, i = .int .i64 q ∧ Hid ((q = -1 ∨ ∃ j : Nat, q = j ∧ j < ss.length) ∧ ∀ j (h : j < ss.length), q < j → ss[j] ≠ s)) (fun i => (intOf i + 1).toNat)
  case atStart =>
    refine ⟨(ss.length : Int) - 1, by go_num, ?_, fun j h h' => absurd h' (by omega)⟩
    by_cases h0 : ss.length = 0
    · left; omega
    · right; exact ⟨ss.length - 1, by omega, by omega⟩
  case round =>
    obtain ⟨q, rfl, HQ⟩ := hrel
    rcases HQ.out.1 with hq | ⟨j, hq, hj⟩
    · have HX : Hid (lastAt ss s = -1) := lastAt_none fun j hj => HQ.out.2 j hj (by omega)
      subst hq
      go_wp2_with fail
      go_ret
      exact ⟨ret_i64 HX.out.symm, rfl⟩
    · subst hq
      obtain ⟨b, off, rfl, -, hbl, hrr⟩ := strs_get hv (by intro e; subst e; simp at hj)
      obtain ⟨q0, -⟩ := hrr j hj
      clear hrr hv
      have hj0 : (0 : Int) ≤ (j : Int) := by omega
      by_cases he : ss[j] = s
      · have HX : Hid (lastAt ss s = j) := lastAt_at hj he fun j' hj' h => HQ.out.2 j' hj' (by omega)
        have hq := show (ss[j].toList == s.toList) = true by rw [he]; simp
        clear he
        go_wp2_with fail
        go_ret
        exact ⟨ret_i64 HX.out.symm, rfl⟩
      · have HS : Hid ((((j : Int) - 1 = -1) ∨ ∃ j' : Nat, (j : Int) - 1 = j' ∧ j' < ss.length) ∧ ∀ j' (h : j' < ss.length), (j : Int) - 1 < j' → ss[j'] ≠ s) := by
          refine ⟨?_, fun j' h h' => ?_⟩
          · by_cases h0 : j = 0
            · left; omega
            · right; exact ⟨j - 1, by omega, by omega⟩
          · by_cases hjj : j' = j
            · subst hjj; exact he
            · exact HQ.out.2 j' h (by omega)
        have hq := toList_ne he
        clear he
        go_wp2_with fail
        go_round
        case rel => exact ⟨(j : Int) - 1, by go_num, HS⟩
        case measure => simp [intOf]

/-- f tells whether two terms differ in bound names only -/
def AlphaT (f : FuncId) (t : Tm) : Prop := ∀ (u : Tm) (x y : List ByteArray) (S : Nat → Prop) (c0 c1 d0 d1 vx vy : Value) (w : World), Tm.at S w c0 c1 t → Tm.at S w d0 d1 u → D.rd (fun _ => True) w vx (slOf strE x) → D.rd (fun _ => True) w vy (slOf strE y) → t.leafy → u.leafy → t.nice = true → u.nice = true →
  Calls Try.prog f #[.agg #[c0, c1], .agg #[d0, d1], vx, vy] w (Gives w (.bool (Tm.alpha x y t u)))
theorem Tm.leafy_args {t : Tm} (h : t.leafy) : ∀ a ∈ t.args, a.leafy := by cases t; rw [Tm.leafy] at h; exact (Tm.leafies_iff _).1 h.2
theorem Tm.leafy_var {t : Tm} (h : t.leafy) (hv : varName t.name = true) : t.args = [] := by cases t; rw [Tm.leafy] at h; exact h.1 hv
theorem Tm.nice_args {t : Tm} (h : t.nice = true) : ∀ a ∈ t.args, a.nice = true := ((Tm.nice_iff t).1 h).2.2

set_option maxHeartbeats 4000000 in
theorem l8Terms_of (t : Tm) (ih : ∀ a ∈ t.args, AlphaT 47 a) : AlphaT 47 t := by
  intro u x y S c0 c1 d0 d1 vx vy w hT hU hx hy hlt hlu hnt hnu
  have HC := hid (Tm.alpha_eq x y t u)
  obtain ⟨xa, xc, rfl, hxl, -⟩ := slOf_form hx
  obtain ⟨ya, yc, rfl, hyl, -⟩ := slOf_form hy
  have hi1 := lastAt_in x t.name
  have hi2 := lastAt_in y u.name
  have hlt0 : t.args.length ≤ 9223372036854775807 := by obtain ⟨_, _, _, q, _⟩ := Tm.sd_form hT.2; exact q
  have hlu0 : u.args.length ≤ 9223372036854775807 := by obtain ⟨_, _, _, q, _⟩ := Tm.sd_form hU.2; exact q
  have HXR := hid hx
  have HYR := hid hy
  clear hx hy
  unfold big at hxl hyl
  have hlt0' := hlt
  have hlu0' := hlu
  by_cases hv1 : varName t.name = true
  · by_cases hv2 : varName u.name = true
    · have HD : Hid (Tm.alpha x y t u = (decide (lastAt x t.name = lastAt y u.name) && (decide (0 ≤ lastAt x t.name) || decide (t.name = u.name)))) := by rw [Hid, HC.out, hv1, hv2]; rfl
      obtain ⟨rfl, hn, a, cap, rfl⟩ := Tm.at_form hT
      obtain ⟨rfl, hm, a', cap', rfl⟩ := Tm.at_form hU
      have hW : Below w.heap.size w ((w.alloc (.cells #[.string t.name, .slice a t.args.length cap] 33)).alloc (.cells #[.string u.name, .slice a' u.args.length cap'] 33)) := ((Below.refl _ _).alloc (Nat.le_refl _) _).alloc (by simp) _
      have bT : Box ((w.alloc (.cells #[.string t.name, .slice a t.args.length cap] 33)).alloc (.cells #[.string u.name, .slice a' u.args.length cap'] 33)) w.heap.size [.string t.name, .slice a t.args.length cap] := (Box.new w _ _).alloc _
      have bU : Box ((w.alloc (.cells #[.string t.name, .slice a t.args.length cap] 33)).alloc (.cells #[.string u.name, .slice a' u.args.length cap'] 33)) (w.heap.size + 1) [.string u.name, .slice a' u.args.length cap'] := by
        have := Box.new (w.alloc (.cells #[.string t.name, .slice a t.args.length cap] 33)) [.string u.name, .slice a' u.args.length cap'] 33
        simpa only [World.size_alloc] using this
      replace hT := Tm.at_keep (Keeps.all hW) hT
      replace hU := Tm.at_keep (Keeps.all hW) hU
      go_enter Try.func47, Try.ntmps47
      go_wp2_with fail
      generalize ((w.alloc (.cells #[.string t.name, .slice a t.args.length cap] 33)).alloc (.cells #[.string u.name, .slice a' u.args.length cap'] 33)) = w0 at *
      have HX0 := hid (D.rd_keep (Keeps.all hW) _ _ HXR.out)
      have HY0 := hid (D.rd_keep (Keeps.all hW) _ _ HYR.out)
      refine (l2Var_any _ hn _).mono ?_
      rintro e w1 ⟨rfl, rfl⟩
      rw [hv1]
      clear hv1
      have eT0 := bT.c0
      have eT1 := bT.c1
      have eU0 := bU.c0
      have eU1 := bU.c1
      have lT := bT.lt
      have lU := bU.lt
      go_wp2_with fail
      refine (l2Var_any _ hm _).mono ?_
      rintro e w1 ⟨rfl, rfl⟩
      rw [hv2]
      clear hv2
      go_wp2_with fail
      obtain ⟨i, Hi⟩ : ∃ i, Hid (lastAt x t.name = i) := ⟨_, hid rfl⟩
      obtain ⟨k, Hk⟩ : ∃ k, Hid (lastAt y u.name = k) := ⟨_, hid rfl⟩
      rw [Hi.out] at hi1
      rw [Hk.out] at hi2
      rw [Hi.out, Hk.out] at HD
      refine wp_region_B [fun v _ => v = .slice xa x.length xc, fun v _ => v = .pointer (some ⟨w.heap.size, 0, none⟩), fun v _ => v = .string t.name, fun v _ => v = .int .i64 i, fun v _ => v = .slice ya y.length yc, fun v _ => v = .pointer (some ⟨(w.heap.size + 1), 0, none⟩), fun v _ => v = .string u.name, fun v _ => v = .int .i64 k, fun v _ => v = .int .i64 i, fun v _ => v = .int .i64 k] _ (fun V => by simp [putAll, Act.put]; rfl) (by kernel_rfl) (by decide) (by simp) (by kernel_rfl) ?_ ?_ ?_
      · intro F hF
        simp only [List.mem_cons, List.not_mem_nil, or_false] at hF
        rcases hF with rfl | rfl | rfl | rfl | rfl | rfl | rfl | rfl | rfl | rfl
        · exact stable_eq
        · exact stable_eq
        · exact stable_eq
        · exact stable_eq
        · exact stable_eq
        · exact stable_eq
        · exact stable_eq
        · exact stable_eq
        · exact stable_eq
        · exact stable_eq
      · refine ⟨?_, ?_, ?_, ?_, ?_, ?_, ?_, ?_, ?_, ?_, trivial⟩
        · intro V w1 hbR _
          unfold Does
          go_simp
          exact ⟨Below.refl _ _, rfl⟩
        · intro V w1 hbR _
          unfold Does
          go_simp
          exact ⟨Below.refl _ _, rfl⟩
        · intro V w1 hbR ⟨f1, _⟩
          replace f1 : V 1 = .pointer (some ⟨w.heap.size, 0, none⟩) := f1
          obtain ⟨hc, hf⟩ := bcell hbR
          try simp only [World.size_alloc, World.size_setCell] at hc hf
          unfold Does
          go_simp
          exact ⟨Below.refl _ _, rfl⟩
        · intro V w1 hbR ⟨f0, f2, _⟩
          replace f0 : V 0 = .slice xa x.length xc := f0
          replace f2 : V 2 = .string t.name := f2
          obtain ⟨hc, hf⟩ := bcell hbR
          try simp only [World.size_alloc, World.size_setCell] at hc hf
          unfold Does
          go_simp
          refine (l8Last_any (D.rd_keep (Keeps.all hbR) _ _ HX0.out)).mono ?_; rintro e w4 ⟨rfl, rfl⟩; exact ⟨_, by rw [Hi.out], Below.refl _ _, rfl⟩
        · intro V w1 hbR _
          unfold Does
          go_simp
          exact ⟨Below.refl _ _, rfl⟩
        · intro V w1 hbR _
          unfold Does
          go_simp
          exact ⟨Below.refl _ _, rfl⟩
        · intro V w1 hbR ⟨f5, _⟩
          replace f5 : V 5 = .pointer (some ⟨(w.heap.size + 1), 0, none⟩) := f5
          obtain ⟨hc, hf⟩ := bcell hbR
          try simp only [World.size_alloc, World.size_setCell] at hc hf
          unfold Does
          go_simp
          exact ⟨Below.refl _ _, rfl⟩
        · intro V w1 hbR ⟨f4, f6, f3, _⟩
          replace f3 : V 3 = .int .i64 i := f3
          replace f4 : V 4 = .slice ya y.length yc := f4
          replace f6 : V 6 = .string u.name := f6
          obtain ⟨hc, hf⟩ := bcell hbR
          try simp only [World.size_alloc, World.size_setCell] at hc hf
          unfold Does
          go_simp
          refine (l8Last_any (D.rd_keep (Keeps.all hbR) _ _ HY0.out)).mono ?_; rintro e w4 ⟨rfl, rfl⟩; exact ⟨_, by rw [Hk.out], Below.refl _ _, rfl⟩
        · intro V w1 hbR ⟨f3, f7, f0, f1, f2, _, _⟩
          replace f0 : V 0 = .slice xa x.length xc := f0
          replace f1 : V 1 = .pointer (some ⟨w.heap.size, 0, none⟩) := f1
          replace f2 : V 2 = .string t.name := f2
          replace f3 : V 3 = .int .i64 i := f3
          replace f7 : V 7 = .int .i64 k := f7
          unfold Does
          go_simp
          exact ⟨Below.refl _ _, rfl⟩
        · intro V w1 hbR ⟨f7, f8, f0, f1, f2, f3, f4, f5, f6, _, _, _⟩
          replace f0 : V 0 = .slice xa x.length xc := f0
          replace f1 : V 1 = .pointer (some ⟨w.heap.size, 0, none⟩) := f1
          replace f2 : V 2 = .string t.name := f2
          replace f3 : V 3 = .int .i64 i := f3
          replace f4 : V 4 = .slice ya y.length yc := f4
          replace f5 : V 5 = .pointer (some ⟨(w.heap.size + 1), 0, none⟩) := f5
          replace f6 : V 6 = .string u.name := f6
          replace f7 : V 7 = .int .i64 k := f7
          replace f8 : V 8 = .int .i64 i := f8
          unfold Does
          go_simp
          exact ⟨Below.refl _ _, rfl⟩
      intro V w1 hbR hfR
      obtain ⟨f0, f1, f2, f3, f4, f5, f6, f7, f8, f9, _⟩ := hfR
      replace f0 : V 0 = .slice xa x.length xc := f0
      replace f1 : V 1 = .pointer (some ⟨w.heap.size, 0, none⟩) := f1
      replace f2 : V 2 = .string t.name := f2
      replace f3 : V 3 = .int .i64 i := f3
      replace f4 : V 4 = .slice ya y.length yc := f4
      replace f5 : V 5 = .pointer (some ⟨(w.heap.size + 1), 0, none⟩) := f5
      replace f6 : V 6 = .string u.name := f6
      replace f7 : V 7 = .int .i64 k := f7
      replace f8 : V 8 = .int .i64 i := f8
      replace f9 : V 9 = .int .i64 k := f9
      simp only [f0, f1, f2, f3, f4, f5, f6, f7, f8, f9]
      clear f0 f1 f2 f3 f4 f5 f6 f7 f8 f9
      clear eT0 eT1 eU0 eU1 lT lU
      replace hW := hW.trans (hbR.mono hW.size)
      replace bT := bT.keep hbR
      replace bU := bU.keep hbR
      replace hT := Tm.at_keep (Keeps.all hbR) hT
      replace hU := Tm.at_keep (Keeps.all hbR) hU
      clear hbR
      have eT0 := bT.c0
      have eT1 := bT.c1
      have eU0 := bU.c0
      have eU1 := bU.c1
      have lT := bT.lt
      have lU := bU.lt
      by_cases hik : i = k
      · have e1 : (i == k) = true := by simp [hik]
        by_cases h0 : 0 ≤ i
        · have HX : Hid (Tm.alpha x y t u = true) := by rw [Hid, HD.out]; simp [hik, hik ▸ h0]
          clear hik
          go_wp2_with fail
          go_ret
          exact Gives.mk (ret_bool HX.out.symm) hW
        · have h0' : ¬ i ≥ 0 := h0
          have HX : Hid (Tm.alpha x y t u = decide (t.name = u.name)) := by rw [Hid, HD.out]; simp [hik, hik ▸ h0]
          by_cases hnm : t.name = u.name
          · have hs1 : (t.name.toList == u.name.toList) = true := by rw [hnm]; simp
            have HZ : Hid (Tm.alpha x y t u = true) := by rw [Hid, HX.out]; simp [hnm]
            clear hik hnm
            go_wp2_with fail
            go_ret
            exact Gives.mk (ret_bool HZ.out.symm) hW
          · have hs1 := toList_ne hnm
            have HZ : Hid (Tm.alpha x y t u = false) := by rw [Hid, HX.out]; simp [hnm]
            clear hik hnm
            go_wp2_with fail
            go_ret
            exact Gives.mk (ret_bool HZ.out.symm) hW
      · have e1 : (i == k) = false := by simp [hik]
        have HX : Hid (Tm.alpha x y t u = false) := by rw [Hid, HD.out]; simp [hik]
        clear hik
        go_wp2_with fail
        go_ret
        exact Gives.mk (ret_bool HX.out.symm) hW
    · replace hv2 : varName u.name = false := by simpa using hv2
      have HD : Hid (Tm.alpha x y t u = (decide (t.name = u.name) && Tm.alphas x y t.args u.args)) := by rw [Hid, HC.out, hv1, hv2]; rfl
      obtain ⟨rfl, hn, a, cap, rfl⟩ := Tm.at_form hT
      obtain ⟨rfl, hm, a', cap', rfl⟩ := Tm.at_form hU
      have hW : Below w.heap.size w ((w.alloc (.cells #[.string t.name, .slice a t.args.length cap] 33)).alloc (.cells #[.string u.name, .slice a' u.args.length cap'] 33)) := ((Below.refl _ _).alloc (Nat.le_refl _) _).alloc (by simp) _
      have bT : Box ((w.alloc (.cells #[.string t.name, .slice a t.args.length cap] 33)).alloc (.cells #[.string u.name, .slice a' u.args.length cap'] 33)) w.heap.size [.string t.name, .slice a t.args.length cap] := (Box.new w _ _).alloc _
      have bU : Box ((w.alloc (.cells #[.string t.name, .slice a t.args.length cap] 33)).alloc (.cells #[.string u.name, .slice a' u.args.length cap'] 33)) (w.heap.size + 1) [.string u.name, .slice a' u.args.length cap'] := by
        have := Box.new (w.alloc (.cells #[.string t.name, .slice a t.args.length cap] 33)) [.string u.name, .slice a' u.args.length cap'] 33
        simpa only [World.size_alloc] using this
      replace hT := Tm.at_keep (Keeps.all hW) hT
      replace hU := Tm.at_keep (Keeps.all hW) hU
      go_enter Try.func47, Try.ntmps47
      go_wp2_with fail
      generalize ((w.alloc (.cells #[.string t.name, .slice a t.args.length cap] 33)).alloc (.cells #[.string u.name, .slice a' u.args.length cap'] 33)) = w0 at *
      have HX0 := hid (D.rd_keep (Keeps.all hW) _ _ HXR.out)
      have HY0 := hid (D.rd_keep (Keeps.all hW) _ _ HYR.out)
      refine (l2Var_any _ hn _).mono ?_
      rintro e w1 ⟨rfl, rfl⟩
      rw [hv1]
      clear hv1
      have eT0 := bT.c0
      have eT1 := bT.c1
      have eU0 := bU.c0
      have eU1 := bU.c1
      have lT := bT.lt
      have lU := bU.lt
      go_wp2_with fail
      refine (l2Var_any _ hm _).mono ?_
      rintro e w1 ⟨rfl, rfl⟩
      rw [hv2]
      clear hv2
      by_cases hnm : t.name = u.name
      · have hs1 : (t.name.toList == u.name.toList) = true := by rw [hnm]; simp
        by_cases hll : t.args.length = u.args.length
        · have HE : Hid (Tm.alpha x y t u = Tm.alphas x y t.args u.args) := by rw [Hid, HD.out]; simp [hnm]
          have HL := hid hll
          have hlz : (t.args.length : Int) = (u.args.length : Int) := by omega
          have hlb : ((t.args.length : Int) == (u.args.length : Int)) = true := by simp [hll]
          have HHL : Hid (t.args.length = u.args.length) := hll
          have hul : u.args.length = t.args.length := hll.symm
          rw [hul] at bU hU eU1 ⊢
          clear hnm hll hlz hlb hul
          go_wp2_with fail
          clear eT0 eT1 eU0 eU1 lT lU
          go_loopw [11] (fun i wr => ∃ (k : Nat), k ≤ t.args.length ∧ i = .int .i64 k ∧ Hid (∀ j (h : j < t.args.length) (h' : j < u.args.length), j < k → Tm.alpha x y t.args[j] u.args[j] = true) ∧ Below w0.heap.size w0 wr) (fun i _ => t.args.length - (intOf i).toNat)
          case atStart => exact ⟨0, Nat.zero_le _, rfl, fun j h h' h0 => absurd h0 (by omega), Below.refl _ _⟩
          case round =>
            obtain ⟨k, hk, rfl, HK, hb⟩ := hrel
            have hb0 := hb
            replace HX0 := hid (D.rd_keep (Keeps.all hb) _ _ HX0.out)
            replace HY0 := hid (D.rd_keep (Keeps.all hb) _ _ HY0.out)
            replace hW := hW.trans (hb.mono hW.size)
            replace bT := bT.keep hb
            replace bU := bU.keep hb
            replace hT := Tm.at_keep (Keeps.all hb) hT
            replace hU := Tm.at_keep (Keeps.all hb) hU
            clear hb
            have eT0 := bT.c0
            have eT1 := bT.c1
            have eU0 := bU.c0
            have eU1 := bU.c1
            have lT := bT.lt
            have lU := bU.lt
            by_cases hlt : k < t.args.length
            · have hne : t.args ≠ [] := by intro e; rw [e] at hlt; simp at hlt
              have hlt' : k < u.args.length := by rw [← HHL.out]; exact hlt
              have hne' : u.args ≠ [] := by intro e; rw [e] at hlt'; simp at hlt'
              obtain ⟨b, off, rfl, hS, hbl, hrr⟩ := Tm.sd_get hT.2 hne
              obtain ⟨b', off', rfl, hS', hbl', hrr'⟩ := Tm.sd_get hU.2 hne'
              obtain ⟨c0, c1, q0, q1, q2⟩ := hrr k hlt
              obtain ⟨d0, d1, r0, r1, r2⟩ := hrr' k hlt'
              obtain ⟨rfl, -, za, zc, rfl⟩ := Tm.at_form q2
              obtain ⟨rfl, -, ya', yc', rfl⟩ := Tm.at_form r2
              have hmem := ih t.args[k] (List.getElem_mem hlt) u.args[k] x y S
              have hl1 := Tm.leafy_args hlt0' _ (List.getElem_mem hlt)
              have hl2 := Tm.leafy_args hlu0' _ (List.getElem_mem hlt')
              have hn1 := Tm.nice_args hnt _ (List.getElem_mem hlt)
              have hn2 := Tm.nice_args hnu _ (List.getElem_mem hlt')
              have HM := hid hmem
              have HLN := hid (And.intro (And.intro hl1 hl2) (And.intro hn1 hn2))
              clear hrr hrr' hmem hl1 hl2 hn1 hn2
              go_wp2_with fail
              refine wp_region_B [fun v _ => v = .pointer (some ⟨w.heap.size, 1, none⟩), fun v _ => v = .slice (some ⟨b, off, none⟩) t.args.length cap, fun v _ => v = .int .i64 k, fun v _ => v = .pointer (some ⟨b, off + k * 2, none⟩), fun v _ => v = .agg #[.string t.args[k].name, .slice za t.args[k].args.length zc], fun v _ => v = .pointer (some ⟨(w.heap.size + 1), 1, none⟩), fun v _ => v = .slice (some ⟨b', off', none⟩) t.args.length cap', fun v _ => v = .int .i64 k, fun v _ => v = .pointer (some ⟨b', off' + k * 2, none⟩), fun v _ => v = .agg #[.string u.args[k].name, .slice ya' u.args[k].args.length yc'], fun v _ => v = .slice xa x.length xc, fun v _ => v = .slice ya y.length yc, fun v _ => v = .bool (Tm.alpha x y t.args[k] u.args[k]), fun v _ => v = .bool (!(Tm.alpha x y t.args[k] u.args[k]))] _ (fun V => by simp [putAll, Act.put]; rfl) (by kernel_rfl) (by decide) (by simp) (by kernel_rfl) ?_ ?_ ?_
              · intro F hF
                simp only [List.mem_cons, List.not_mem_nil, or_false] at hF
                rcases hF with rfl | rfl | rfl | rfl | rfl | rfl | rfl | rfl | rfl | rfl | rfl | rfl | rfl | rfl
                · exact stable_eq
                · exact stable_eq
                · exact stable_eq
                · exact stable_eq
                · exact stable_eq
                · exact stable_eq
                · exact stable_eq
                · exact stable_eq
                · exact stable_eq
                · exact stable_eq
                · exact stable_eq
                · exact stable_eq
                · exact stable_eq
                · exact stable_eq
              · refine ⟨?_, ?_, ?_, ?_, ?_, ?_, ?_, ?_, ?_, ?_, ?_, ?_, ?_, ?_, trivial⟩
                · intro V w1 hbR _
                  unfold Does
                  go_simp
                  exact ⟨Below.refl _ _, rfl⟩
                · intro V w1 hbR ⟨f0, _⟩
                  replace f0 : V 0 = .pointer (some ⟨w.heap.size, 1, none⟩) := f0
                  obtain ⟨hc, hf⟩ := bcell hbR
                  try simp only [World.size_alloc, World.size_setCell] at hc hf
                  unfold Does
                  go_simp
                  exact ⟨Below.refl _ _, rfl⟩
                · intro V w1 hbR _
                  unfold Does
                  go_simp
                  exact ⟨Below.refl _ _, rfl⟩
                · intro V w1 hbR ⟨f1, f2, _⟩
                  replace f1 : V 1 = .slice (some ⟨b, off, none⟩) t.args.length cap := f1
                  replace f2 : V 2 = .int .i64 k := f2
                  unfold Does
                  go_simp
                  exact ⟨Below.refl _ _, rfl⟩
                · intro V w1 hbR ⟨f3, _⟩
                  replace f3 : V 3 = .pointer (some ⟨b, off + k * 2, none⟩) := f3
                  obtain ⟨hc, hf⟩ := bcell hbR
                  try simp only [World.size_alloc, World.size_setCell] at hc hf
                  unfold Does
                  go_simp
                  exact ⟨Below.refl _ _, rfl⟩
                · intro V w1 hbR _
                  unfold Does
                  go_simp
                  exact ⟨Below.refl _ _, rfl⟩
                · intro V w1 hbR ⟨f5, _⟩
                  replace f5 : V 5 = .pointer (some ⟨(w.heap.size + 1), 1, none⟩) := f5
                  obtain ⟨hc, hf⟩ := bcell hbR
                  try simp only [World.size_alloc, World.size_setCell] at hc hf
                  unfold Does
                  go_simp
                  exact ⟨Below.refl _ _, rfl⟩
                · intro V w1 hbR _
                  unfold Does
                  go_simp
                  exact ⟨Below.refl _ _, rfl⟩
                · intro V w1 hbR ⟨f6, f7, _⟩
                  replace f6 : V 6 = .slice (some ⟨b', off', none⟩) t.args.length cap' := f6
                  replace f7 : V 7 = .int .i64 k := f7
                  unfold Does
                  go_simp
                  exact ⟨Below.refl _ _, rfl⟩
                · intro V w1 hbR ⟨f8, _⟩
                  replace f8 : V 8 = .pointer (some ⟨b', off' + k * 2, none⟩) := f8
                  obtain ⟨hc, hf⟩ := bcell hbR
                  try simp only [World.size_alloc, World.size_setCell] at hc hf
                  unfold Does
                  go_simp
                  exact ⟨Below.refl _ _, rfl⟩
                · intro V w1 hbR _
                  unfold Does
                  go_simp
                  exact ⟨Below.refl _ _, rfl⟩
                · intro V w1 hbR _
                  unfold Does
                  go_simp
                  exact ⟨Below.refl _ _, rfl⟩
                · intro V w1 hbR ⟨f4, f9, f10, f11, _⟩
                  replace f4 : V 4 = .agg #[.string t.args[k].name, .slice za t.args[k].args.length zc] := f4
                  replace f9 : V 9 = .agg #[.string u.args[k].name, .slice ya' u.args[k].args.length yc'] := f9
                  replace f10 : V 10 = .slice xa x.length xc := f10
                  replace f11 : V 11 = .slice ya y.length yc := f11
                  obtain ⟨hc, hf⟩ := bcell hbR
                  try simp only [World.size_alloc, World.size_setCell] at hc hf
                  unfold Does
                  go_simp
                  exact HM.out _ _ _ _ _ _ _ (Tm.at_keep (Keeps.all hbR) q2) (Tm.at_keep (Keeps.all hbR) r2) (D.rd_keep (Keeps.all hbR) _ _ HX0.out) (D.rd_keep (Keeps.all hbR) _ _ HY0.out) HLN.out.1.1 HLN.out.1.2 HLN.out.2.1 HLN.out.2.2
                · intro V w1 hbR ⟨f12, _⟩
                  replace f12 : V 12 = .bool (Tm.alpha x y t.args[k] u.args[k]) := f12
                  unfold Does
                  go_simp
                  exact ⟨Below.refl _ _, rfl⟩
              intro V w2 hbR hfR
              obtain ⟨f0, f1, f2, f3, f4, f5, f6, f7, f8, f9, f10, f11, f12, f13, _⟩ := hfR
              replace f0 : V 0 = .pointer (some ⟨w.heap.size, 1, none⟩) := f0
              replace f1 : V 1 = .slice (some ⟨b, off, none⟩) t.args.length cap := f1
              replace f2 : V 2 = .int .i64 k := f2
              replace f3 : V 3 = .pointer (some ⟨b, off + k * 2, none⟩) := f3
              replace f4 : V 4 = .agg #[.string t.args[k].name, .slice za t.args[k].args.length zc] := f4
              replace f5 : V 5 = .pointer (some ⟨(w.heap.size + 1), 1, none⟩) := f5
              replace f6 : V 6 = .slice (some ⟨b', off', none⟩) t.args.length cap' := f6
              replace f7 : V 7 = .int .i64 k := f7
              replace f8 : V 8 = .pointer (some ⟨b', off' + k * 2, none⟩) := f8
              replace f9 : V 9 = .agg #[.string u.args[k].name, .slice ya' u.args[k].args.length yc'] := f9
              replace f10 : V 10 = .slice xa x.length xc := f10
              replace f11 : V 11 = .slice ya y.length yc := f11
              replace f12 : V 12 = .bool (Tm.alpha x y t.args[k] u.args[k]) := f12
              replace f13 : V 13 = .bool (!(Tm.alpha x y t.args[k] u.args[k])) := f13
              simp only [f0, f1, f2, f3, f4, f5, f6, f7, f8, f9, f10, f11, f12, f13]
              clear f0 f1 f2 f3 f4 f5 f6 f7 f8 f9 f10 f11 f12 f13
              by_cases he : Tm.alpha x y t.args[k] u.args[k] = true
              · have HZ : Hid (∀ j (h : j < t.args.length) (h' : j < u.args.length), j < k + 1 → Tm.alpha x y t.args[j] u.args[j] = true) := fun j h h' h0 => by
                  by_cases hjk : j < k
                  · exact HK.out j h h' hjk
                  · obtain rfl : j = k := by omega
                    exact he
                rw [he]
                clear he
                go_wp2_with fail
                go_roundw
                case rel => exact ⟨k + 1, by omega, by go_num, HZ, hb0.trans (hbR.mono hb0.size)⟩
                case measure => simp [intOf]; omega
              · replace he : Tm.alpha x y t.args[k] u.args[k] = false := by simpa using he
                have HZ : Hid (Tm.alpha x y t u = false) := by rw [Hid, HE.out]; exact Tm.alphas_at hlt hlt' he
                rw [he]
                clear he
                go_wp2_with fail
                go_ret
                exact Gives.mk (ret_bool HZ.out.symm) (hW.trans (hbR.mono hW.size))
            · obtain rfl : k = t.args.length := by omega
              have HZ : Hid (Tm.alpha x y t u = true) := by rw [Hid, HE.out, Tm.alphas_iff]; exact ⟨HHL.out, fun j h h' => HK.out j h h' h⟩
              go_wp2_with fail
              go_ret
              exact Gives.mk (ret_bool HZ.out.symm) hW
        · have hlb : ((t.args.length : Int) == (u.args.length : Int)) = false := by rw [beq_eq_false_iff_ne]; omega
          have hln : ((t.args.length : Int) != (u.args.length : Int)) = true := by simp; omega
          have HZ : Hid (Tm.alpha x y t u = false) := by rw [Hid, HD.out, Tm.alphas_len hll]; simp
          clear hnm hll
          go_wp2_with fail
          go_ret
          exact Gives.mk (ret_bool HZ.out.symm) hW
      · have hs1 := toList_ne hnm
        have HZ : Hid (Tm.alpha x y t u = false) := by rw [Hid, HD.out]; simp [hnm]
        clear hnm
        go_wp2_with fail
        go_ret
        exact Gives.mk (ret_bool HZ.out.symm) hW
  · replace hv1 : varName t.name = false := by simpa using hv1
    have HD : Hid (Tm.alpha x y t u = (decide (t.name = u.name) && Tm.alphas x y t.args u.args)) := by rw [Hid, HC.out, hv1]; rfl
    obtain ⟨rfl, hn, a, cap, rfl⟩ := Tm.at_form hT
    obtain ⟨rfl, hm, a', cap', rfl⟩ := Tm.at_form hU
    have hW : Below w.heap.size w ((w.alloc (.cells #[.string t.name, .slice a t.args.length cap] 33)).alloc (.cells #[.string u.name, .slice a' u.args.length cap'] 33)) := ((Below.refl _ _).alloc (Nat.le_refl _) _).alloc (by simp) _
    have bT : Box ((w.alloc (.cells #[.string t.name, .slice a t.args.length cap] 33)).alloc (.cells #[.string u.name, .slice a' u.args.length cap'] 33)) w.heap.size [.string t.name, .slice a t.args.length cap] := (Box.new w _ _).alloc _
    have bU : Box ((w.alloc (.cells #[.string t.name, .slice a t.args.length cap] 33)).alloc (.cells #[.string u.name, .slice a' u.args.length cap'] 33)) (w.heap.size + 1) [.string u.name, .slice a' u.args.length cap'] := by
      have := Box.new (w.alloc (.cells #[.string t.name, .slice a t.args.length cap] 33)) [.string u.name, .slice a' u.args.length cap'] 33
      simpa only [World.size_alloc] using this
    replace hT := Tm.at_keep (Keeps.all hW) hT
    replace hU := Tm.at_keep (Keeps.all hW) hU
    go_enter Try.func47, Try.ntmps47
    go_wp2_with fail
    generalize ((w.alloc (.cells #[.string t.name, .slice a t.args.length cap] 33)).alloc (.cells #[.string u.name, .slice a' u.args.length cap'] 33)) = w0 at *
    have HX0 := hid (D.rd_keep (Keeps.all hW) _ _ HXR.out)
    have HY0 := hid (D.rd_keep (Keeps.all hW) _ _ HYR.out)
    refine (l2Var_any _ hn _).mono ?_
    rintro e w1 ⟨rfl, rfl⟩
    rw [hv1]
    clear hv1
    have eT0 := bT.c0
    have eT1 := bT.c1
    have eU0 := bU.c0
    have eU1 := bU.c1
    have lT := bT.lt
    have lU := bU.lt
    by_cases hnm : t.name = u.name
    · have hs1 : (t.name.toList == u.name.toList) = true := by rw [hnm]; simp
      by_cases hll : t.args.length = u.args.length
      · have HE : Hid (Tm.alpha x y t u = Tm.alphas x y t.args u.args) := by rw [Hid, HD.out]; simp [hnm]
        have HL := hid hll
        have hlz : (t.args.length : Int) = (u.args.length : Int) := by omega
        have hlb : ((t.args.length : Int) == (u.args.length : Int)) = true := by simp [hll]
        have HHL : Hid (t.args.length = u.args.length) := hll
        have hul : u.args.length = t.args.length := hll.symm
        rw [hul] at bU hU eU1 ⊢
        clear hnm hll hlz hlb hul
        go_wp2_with fail
        clear eT0 eT1 eU0 eU1 lT lU
        go_loopw [11] (fun i wr => ∃ (k : Nat), k ≤ t.args.length ∧ i = .int .i64 k ∧ Hid (∀ j (h : j < t.args.length) (h' : j < u.args.length), j < k → Tm.alpha x y t.args[j] u.args[j] = true) ∧ Below w0.heap.size w0 wr) (fun i _ => t.args.length - (intOf i).toNat)
        case atStart => exact ⟨0, Nat.zero_le _, rfl, fun j h h' h0 => absurd h0 (by omega), Below.refl _ _⟩
        case round =>
          obtain ⟨k, hk, rfl, HK, hb⟩ := hrel
          have hb0 := hb
          replace HX0 := hid (D.rd_keep (Keeps.all hb) _ _ HX0.out)
          replace HY0 := hid (D.rd_keep (Keeps.all hb) _ _ HY0.out)
          replace hW := hW.trans (hb.mono hW.size)
          replace bT := bT.keep hb
          replace bU := bU.keep hb
          replace hT := Tm.at_keep (Keeps.all hb) hT
          replace hU := Tm.at_keep (Keeps.all hb) hU
          clear hb
          have eT0 := bT.c0
          have eT1 := bT.c1
          have eU0 := bU.c0
          have eU1 := bU.c1
          have lT := bT.lt
          have lU := bU.lt
          by_cases hlt : k < t.args.length
          · have hne : t.args ≠ [] := by intro e; rw [e] at hlt; simp at hlt
            have hlt' : k < u.args.length := by rw [← HHL.out]; exact hlt
            have hne' : u.args ≠ [] := by intro e; rw [e] at hlt'; simp at hlt'
            obtain ⟨b, off, rfl, hS, hbl, hrr⟩ := Tm.sd_get hT.2 hne
            obtain ⟨b', off', rfl, hS', hbl', hrr'⟩ := Tm.sd_get hU.2 hne'
            obtain ⟨c0, c1, q0, q1, q2⟩ := hrr k hlt
            obtain ⟨d0, d1, r0, r1, r2⟩ := hrr' k hlt'
            obtain ⟨rfl, -, za, zc, rfl⟩ := Tm.at_form q2
            obtain ⟨rfl, -, ya', yc', rfl⟩ := Tm.at_form r2
            have hmem := ih t.args[k] (List.getElem_mem hlt) u.args[k] x y S
            have hl1 := Tm.leafy_args hlt0' _ (List.getElem_mem hlt)
            have hl2 := Tm.leafy_args hlu0' _ (List.getElem_mem hlt')
            have hn1 := Tm.nice_args hnt _ (List.getElem_mem hlt)
            have hn2 := Tm.nice_args hnu _ (List.getElem_mem hlt')
            have HM := hid hmem
            have HLN := hid (And.intro (And.intro hl1 hl2) (And.intro hn1 hn2))
            clear hrr hrr' hmem hl1 hl2 hn1 hn2
            go_wp2_with fail
            refine wp_region_B [fun v _ => v = .pointer (some ⟨w.heap.size, 1, none⟩), fun v _ => v = .slice (some ⟨b, off, none⟩) t.args.length cap, fun v _ => v = .int .i64 k, fun v _ => v = .pointer (some ⟨b, off + k * 2, none⟩), fun v _ => v = .agg #[.string t.args[k].name, .slice za t.args[k].args.length zc], fun v _ => v = .pointer (some ⟨(w.heap.size + 1), 1, none⟩), fun v _ => v = .slice (some ⟨b', off', none⟩) t.args.length cap', fun v _ => v = .int .i64 k, fun v _ => v = .pointer (some ⟨b', off' + k * 2, none⟩), fun v _ => v = .agg #[.string u.args[k].name, .slice ya' u.args[k].args.length yc'], fun v _ => v = .slice xa x.length xc, fun v _ => v = .slice ya y.length yc, fun v _ => v = .bool (Tm.alpha x y t.args[k] u.args[k]), fun v _ => v = .bool (!(Tm.alpha x y t.args[k] u.args[k]))] _ (fun V => by simp [putAll, Act.put]; rfl) (by kernel_rfl) (by decide) (by simp) (by kernel_rfl) ?_ ?_ ?_
            · intro F hF
              simp only [List.mem_cons, List.not_mem_nil, or_false] at hF
              rcases hF with rfl | rfl | rfl | rfl | rfl | rfl | rfl | rfl | rfl | rfl | rfl | rfl | rfl | rfl
              · exact stable_eq
              · exact stable_eq
              · exact stable_eq
              · exact stable_eq
              · exact stable_eq
              · exact stable_eq
              · exact stable_eq
              · exact stable_eq
              · exact stable_eq
              · exact stable_eq
              · exact stable_eq
              · exact stable_eq
              · exact stable_eq
              · exact stable_eq
            · refine ⟨?_, ?_, ?_, ?_, ?_, ?_, ?_, ?_, ?_, ?_, ?_, ?_, ?_, ?_, trivial⟩
              · intro V w1 hbR _
                unfold Does
                go_simp
                exact ⟨Below.refl _ _, rfl⟩
              · intro V w1 hbR ⟨f0, _⟩
                replace f0 : V 0 = .pointer (some ⟨w.heap.size, 1, none⟩) := f0
                obtain ⟨hc, hf⟩ := bcell hbR
                try simp only [World.size_alloc, World.size_setCell] at hc hf
                unfold Does
                go_simp
                exact ⟨Below.refl _ _, rfl⟩
              · intro V w1 hbR _
                unfold Does
                go_simp
                exact ⟨Below.refl _ _, rfl⟩
              · intro V w1 hbR ⟨f1, f2, _⟩
                replace f1 : V 1 = .slice (some ⟨b, off, none⟩) t.args.length cap := f1
                replace f2 : V 2 = .int .i64 k := f2
                unfold Does
                go_simp
                exact ⟨Below.refl _ _, rfl⟩
              · intro V w1 hbR ⟨f3, _⟩
                replace f3 : V 3 = .pointer (some ⟨b, off + k * 2, none⟩) := f3
                obtain ⟨hc, hf⟩ := bcell hbR
                try simp only [World.size_alloc, World.size_setCell] at hc hf
                unfold Does
                go_simp
                exact ⟨Below.refl _ _, rfl⟩
              · intro V w1 hbR _
                unfold Does
                go_simp
                exact ⟨Below.refl _ _, rfl⟩
              · intro V w1 hbR ⟨f5, _⟩
                replace f5 : V 5 = .pointer (some ⟨(w.heap.size + 1), 1, none⟩) := f5
                obtain ⟨hc, hf⟩ := bcell hbR
                try simp only [World.size_alloc, World.size_setCell] at hc hf
                unfold Does
                go_simp
                exact ⟨Below.refl _ _, rfl⟩
              · intro V w1 hbR _
                unfold Does
                go_simp
                exact ⟨Below.refl _ _, rfl⟩
              · intro V w1 hbR ⟨f6, f7, _⟩
                replace f6 : V 6 = .slice (some ⟨b', off', none⟩) t.args.length cap' := f6
                replace f7 : V 7 = .int .i64 k := f7
                unfold Does
                go_simp
                exact ⟨Below.refl _ _, rfl⟩
              · intro V w1 hbR ⟨f8, _⟩
                replace f8 : V 8 = .pointer (some ⟨b', off' + k * 2, none⟩) := f8
                obtain ⟨hc, hf⟩ := bcell hbR
                try simp only [World.size_alloc, World.size_setCell] at hc hf
                unfold Does
                go_simp
                exact ⟨Below.refl _ _, rfl⟩
              · intro V w1 hbR _
                unfold Does
                go_simp
                exact ⟨Below.refl _ _, rfl⟩
              · intro V w1 hbR _
                unfold Does
                go_simp
                exact ⟨Below.refl _ _, rfl⟩
              · intro V w1 hbR ⟨f4, f9, f10, f11, _⟩
                replace f4 : V 4 = .agg #[.string t.args[k].name, .slice za t.args[k].args.length zc] := f4
                replace f9 : V 9 = .agg #[.string u.args[k].name, .slice ya' u.args[k].args.length yc'] := f9
                replace f10 : V 10 = .slice xa x.length xc := f10
                replace f11 : V 11 = .slice ya y.length yc := f11
                obtain ⟨hc, hf⟩ := bcell hbR
                try simp only [World.size_alloc, World.size_setCell] at hc hf
                unfold Does
                go_simp
                exact HM.out _ _ _ _ _ _ _ (Tm.at_keep (Keeps.all hbR) q2) (Tm.at_keep (Keeps.all hbR) r2) (D.rd_keep (Keeps.all hbR) _ _ HX0.out) (D.rd_keep (Keeps.all hbR) _ _ HY0.out) HLN.out.1.1 HLN.out.1.2 HLN.out.2.1 HLN.out.2.2
              · intro V w1 hbR ⟨f12, _⟩
                replace f12 : V 12 = .bool (Tm.alpha x y t.args[k] u.args[k]) := f12
                unfold Does
                go_simp
                exact ⟨Below.refl _ _, rfl⟩
            intro V w2 hbR hfR
            obtain ⟨f0, f1, f2, f3, f4, f5, f6, f7, f8, f9, f10, f11, f12, f13, _⟩ := hfR
            replace f0 : V 0 = .pointer (some ⟨w.heap.size, 1, none⟩) := f0
            replace f1 : V 1 = .slice (some ⟨b, off, none⟩) t.args.length cap := f1
            replace f2 : V 2 = .int .i64 k := f2
            replace f3 : V 3 = .pointer (some ⟨b, off + k * 2, none⟩) := f3
            replace f4 : V 4 = .agg #[.string t.args[k].name, .slice za t.args[k].args.length zc] := f4
            replace f5 : V 5 = .pointer (some ⟨(w.heap.size + 1), 1, none⟩) := f5
            replace f6 : V 6 = .slice (some ⟨b', off', none⟩) t.args.length cap' := f6
            replace f7 : V 7 = .int .i64 k := f7
            replace f8 : V 8 = .pointer (some ⟨b', off' + k * 2, none⟩) := f8
            replace f9 : V 9 = .agg #[.string u.args[k].name, .slice ya' u.args[k].args.length yc'] := f9
            replace f10 : V 10 = .slice xa x.length xc := f10
            replace f11 : V 11 = .slice ya y.length yc := f11
            replace f12 : V 12 = .bool (Tm.alpha x y t.args[k] u.args[k]) := f12
            replace f13 : V 13 = .bool (!(Tm.alpha x y t.args[k] u.args[k])) := f13
            simp only [f0, f1, f2, f3, f4, f5, f6, f7, f8, f9, f10, f11, f12, f13]
            clear f0 f1 f2 f3 f4 f5 f6 f7 f8 f9 f10 f11 f12 f13
            by_cases he : Tm.alpha x y t.args[k] u.args[k] = true
            · have HZ : Hid (∀ j (h : j < t.args.length) (h' : j < u.args.length), j < k + 1 → Tm.alpha x y t.args[j] u.args[j] = true) := fun j h h' h0 => by
                by_cases hjk : j < k
                · exact HK.out j h h' hjk
                · obtain rfl : j = k := by omega
                  exact he
              rw [he]
              clear he
              go_wp2_with fail
              go_roundw
              case rel => exact ⟨k + 1, by omega, by go_num, HZ, hb0.trans (hbR.mono hb0.size)⟩
              case measure => simp [intOf]; omega
            · replace he : Tm.alpha x y t.args[k] u.args[k] = false := by simpa using he
              have HZ : Hid (Tm.alpha x y t u = false) := by rw [Hid, HE.out]; exact Tm.alphas_at hlt hlt' he
              rw [he]
              clear he
              go_wp2_with fail
              go_ret
              exact Gives.mk (ret_bool HZ.out.symm) (hW.trans (hbR.mono hW.size))
          · obtain rfl : k = t.args.length := by omega
            have HZ : Hid (Tm.alpha x y t u = true) := by rw [Hid, HE.out, Tm.alphas_iff]; exact ⟨HHL.out, fun j h h' => HK.out j h h' h⟩
            go_wp2_with fail
            go_ret
            exact Gives.mk (ret_bool HZ.out.symm) hW
      · have hlb : ((t.args.length : Int) == (u.args.length : Int)) = false := by rw [beq_eq_false_iff_ne]; omega
        have hln : ((t.args.length : Int) != (u.args.length : Int)) = true := by simp; omega
        have HZ : Hid (Tm.alpha x y t u = false) := by rw [Hid, HD.out, Tm.alphas_len hll]; simp
        clear hnm hll
        go_wp2_with fail
        go_ret
        exact Gives.mk (ret_bool HZ.out.symm) hW
    · have hs1 := toList_ne hnm
      have HZ : Hid (Tm.alpha x y t u = false) := by rw [Hid, HD.out]; simp [hnm]
      clear hnm
      go_wp2_with fail
      go_ret
      exact Gives.mk (ret_bool HZ.out.symm) hW
theorem l8Terms_any (t : Tm) : AlphaT 47 t := Tm.ind (P := AlphaT 47) (fun n ts h => l8Terms_of (.node n ts) h) t

theorem Tm.at_sd {S : Nat → Prop} {w : World} {c0 c1 : Value} {t : Tm} (h : Tm.at S w c0 c1 t) : D.rd S w c1 (Tm.sd t.args) := h.2
/-- the bound names of the call lie in two boxes -/
def XY (w : World) (b6 b7 : Nat) (vx vy : Value) (x y : List ByteArray) : Prop := w.cell? ⟨b6, 0, none⟩ = some vx ∧ w.cell? ⟨b7, 0, none⟩ = some vy ∧ b6 < w.heap.size ∧ b7 < w.heap.size ∧ D.rd (fun _ => True) w vx (slOf strE x) ∧ D.rd (fun _ => True) w vy (slOf strE y)
theorem XY.keep {w w' : World} {b6 b7 : Nat} {vx vy : Value} {x y : List ByteArray} (h : XY w b6 b7 vx vy x y) (hb : Below w.heap.size w w') : XY w' b6 b7 vx vy x y :=
  ⟨(hb.cell (p := ⟨b6, 0, none⟩) h.2.2.1).trans h.1, (hb.cell (p := ⟨b7, 0, none⟩) h.2.2.2.1).trans h.2.1, Nat.lt_of_lt_of_le h.2.2.1 hb.size, Nat.lt_of_lt_of_le h.2.2.2.1 hb.size, D.rd_keep (Keeps.all hb) _ _ h.2.2.2.2.1, D.rd_keep (Keeps.all hb) _ _ h.2.2.2.2.2⟩

set_option maxHeartbeats 1000000 in
theorem alphaTerms1_of {t : Tm} (h : AlphaT 50 t) {u : Tm} {x y : List ByteArray} {S : Nat → Prop} {c0 c1 d0 d1 vx vy : Value} {b6 b7 : Nat} {w : World} (hT : Tm.at S w c0 c1 t) (hU : Tm.at S w d0 d1 u) (hxy : XY w b6 b7 vx vy x y) (hlt : t.leafy) (hlu : u.leafy) (hnt : t.nice = true) (hnu : u.nice = true) :
    Calls Try.prog 78 #[.agg #[c0, c1], .agg #[d0, d1], .pointer (some ⟨b6, 0, none⟩), .pointer (some ⟨b7, 0, none⟩)] w (Gives w (.bool (Tm.alpha x y t u))) := by
  obtain ⟨rfl, hn, a, cap, rfl⟩ := Tm.at_form hT
  obtain ⟨rfl, hm, a', cap', rfl⟩ := Tm.at_form hU
  have hW : Below w.heap.size w ((w.alloc (.cells #[.string t.name, .slice a t.args.length cap] 33)).alloc (.cells #[.string u.name, .slice a' u.args.length cap'] 33)) := ((Below.refl _ _).alloc (Nat.le_refl _) _).alloc (by simp) _
  have hxy2 := hxy.keep hW
  have hq := h u x y S _ _ _ _ vx vy _ (Tm.at_keep (Keeps.all hW) hT) (Tm.at_keep (Keeps.all hW) hU) hxy2.2.2.2.2.1 hxy2.2.2.2.2.2 hlt hlu hnt hnu
  obtain ⟨e6, e7, l6, l7, -, -⟩ := hxy2
  clear hxy hT hU
  go_enter Try.func78, Try.ntmps78
  go_wp2_with fail
  refine hq.mono ?_
  rintro e w1 ⟨_, rfl, hb, rfl⟩
  go_wp2_with fail
  go_ret
  exact Gives.mk rfl (hW.trans (hb.mono hW.size))
set_option maxHeartbeats 1000000 in
theorem eqFuncA_of (ts : List Tm) (h : ∀ t ∈ ts, AlphaT 50 t) (us : List Tm) (x y : List ByteArray) {S : Nat → Prop} {v u vx vy : Value} {b6 b7 : Nat} {w : World} (hr : D.rd S w v (Tm.sd ts)) (hr' : D.rd S w u (Tm.sd us)) (hxy : XY w b6 b7 vx vy x y) (hlt : ∀ t ∈ ts, t.leafy) (hlu : ∀ t ∈ us, t.leafy) (hnt : ∀ t ∈ ts, t.nice = true) (hnu : ∀ t ∈ us, t.nice = true) :
    Calls Try.prog 77 #[v, u, .func (.func 78) #[] #[.pointer (some ⟨b6, 0, none⟩), .pointer (some ⟨b7, 0, none⟩)]] w (Gives w (.bool (Tm.alphas x y ts us))) := by
  obtain ⟨a, cap, rfl, hlen, hcap⟩ := Tm.sd_form hr
  obtain ⟨a', cap', rfl, hlen', hcap'⟩ := Tm.sd_form hr'
  unfold big at hlen hlen'
  have HXY := hid hxy
  have HHH := hid h
  have HLT := hid hlt
  have HLU := hid hlu
  have HNT := hid hnt
  have HNU := hid hnu
  clear hxy h hlt hlu hnt hnu
  by_cases hll : ts.length = us.length
  · have HL := hid hll
    rw [← hll] at hr' hlen' hcap' ⊢
    clear hll
    go_enter Try.func77, Try.ntmps77
    go_wp2_with fail
    go_loopw [17] (fun i wr => ∃ (k : Nat), k ≤ ts.length ∧ i = .int .i64 k ∧ Hid (∀ j (h : j < ts.length) (h' : j < us.length), j < k → Tm.alpha x y ts[j] us[j] = true) ∧ Below w.heap.size w wr) (fun i _ => ts.length - (intOf i).toNat)
    case atStart => exact ⟨0, Nat.zero_le _, rfl, fun j h h' h0 => absurd h0 (by omega), Below.refl _ _⟩
    case round =>
      obtain ⟨k, hk, rfl, HX, hb⟩ := hrel
      by_cases hlt : k < ts.length
      · have hne : ts ≠ [] := by intro e; subst e; simp at hlt
        have hlt' : k < us.length := by rw [← HL.out]; exact hlt
        have hne' : us ≠ [] := by intro e; subst e; simp at hlt'
        obtain ⟨b, off, rfl, hS, hbl, hrr⟩ := Tm.sd_get hr hne
        obtain ⟨b', off', rfl, hS', hbl', hrr'⟩ := Tm.sd_get hr' hne'
        obtain ⟨c0, c1, q0, q1, q2⟩ := hrr k hlt
        obtain ⟨d0, d1, r0, r1, r2⟩ := hrr' k hlt'
        obtain ⟨rfl, -, za, zc, rfl⟩ := Tm.at_form q2
        obtain ⟨rfl, -, ya, yc, rfl⟩ := Tm.at_form r2
        replace q0 := (hb.cell (p := ⟨b, off + k * 2, none⟩) hbl).trans q0
        replace q1 := (hb.cell (p := ⟨b, off + k * 2 + 1, none⟩) hbl).trans q1
        replace r0 := (hb.cell (p := ⟨b', off' + k * 2, none⟩) hbl').trans r0
        replace r1 := (hb.cell (p := ⟨b', off' + k * 2 + 1, none⟩) hbl').trans r1
        have r0' := cell_alloc r0
        have r1' := cell_alloc r1
        have hbx : Below wr.heap.size wr ((wr.alloc (.cells #[.string ts[k].name, .slice za ts[k].args.length zc] 33)).alloc (.cells #[.string us[k].name, .slice ya us[k].args.length yc] 33)) := ((Below.refl _ _).alloc (Nat.le_refl _) _).alloc (by simp) _
        have hb2 := hb.trans (hbx.mono hb.size)
        have hq := alphaTerms1_of (HHH.out ts[k] (List.getElem_mem hlt)) (Tm.at_keep (Keeps.all hb2) q2) (Tm.at_keep (Keeps.all hb2) r2) (HXY.out.keep hb2) (HLT.out _ (List.getElem_mem hlt)) (HLU.out _ (List.getElem_mem hlt')) (HNT.out _ (List.getElem_mem hlt)) (HNU.out _ (List.getElem_mem hlt'))
        have HB2 := hid hb2
        clear hr hrr hr' hrr' q2 r2 hbx hb2
        go_wp2_with fail
        refine hq.mono ?_
        rintro e w2 ⟨_, rfl, hb3, rfl⟩
        have hb4 := HB2.out.trans (hb3.mono HB2.out.size)
        by_cases he : Tm.alpha x y ts[k] us[k] = true
        · have HZ : Hid (∀ j (h : j < ts.length) (h' : j < us.length), j < k + 1 → Tm.alpha x y ts[j] us[j] = true) := fun j h h' h0 => by
            by_cases hjk : j < k
            · exact HX.out j h h' hjk
            · obtain rfl : j = k := by omega
              exact he
          rw [he]
          clear he
          go_wp2_with fail
          go_roundw
          case rel => exact ⟨k + 1, by omega, by go_num, HZ, hb4⟩
          case measure => simp [intOf]; omega
        · replace he : Tm.alpha x y ts[k] us[k] = false := by simpa using he
          have HZ := hid (Tm.alphas_at hlt hlt' he)
          rw [he]
          clear he
          go_wp2_with fail
          go_ret
          exact Gives.mk (ret_bool HZ.out.symm) hb4
      · obtain rfl : k = ts.length := by omega
        have HY : Hid (Tm.alphas x y ts us = true) := (Tm.alphas_iff _ _ _ _).2 ⟨HL.out, fun j h h' => HX.out j h h' h⟩
        go_wp2_with fail
        go_ret
        exact Gives.mk (ret_bool HY.out.symm) hb
  · have HY := hid (Tm.alphas_len (x := x) (y := y) hll)
    go_enter Try.func77, Try.ntmps77
    go_wp2_with fail
    go_ret
    exact Gives.mk (ret_bool HY.out.symm) (Below.refl _ _)
set_option maxHeartbeats 4000000 in
theorem alphaTerms_of (t : Tm) (ih : ∀ a ∈ t.args, AlphaT 50 a) : AlphaT 50 t := by
  intro u x y S c0 c1 d0 d1 vx vy w hT hU hx hy hlt hlu hnt hnu
  have HC := hid (Tm.alpha_eq x y t u)
  obtain ⟨xa, xc, rfl, hxl, -⟩ := slOf_form hx
  obtain ⟨ya, yc, rfl, hyl, -⟩ := slOf_form hy
  have hi1 := lastAt_in x t.name
  have hi2 := lastAt_in y u.name
  have HXR := hid hx
  have HYR := hid hy
  have hlt0' := hlt
  have hlu0' := hlu
  clear hx hy
  unfold big at hxl hyl
  by_cases hl1 : t.args.length = 0
  · have z1 : ((t.args.length : Int) == 0) = true := by simp [hl1]
    by_cases hl2 : u.args.length = 0
    · have z2 : ((u.args.length : Int) == 0) = true := by simp [hl2]
      clear hl1 hl2
      by_cases hv1 : varName t.name = true
      · by_cases hv2 : varName u.name = true
        · have HD : Hid (Tm.alpha x y t u = (decide (lastAt x t.name = lastAt y u.name) && (decide (0 ≤ lastAt x t.name) || decide (t.name = u.name)))) := by rw [Hid, HC.out, hv1, hv2]; rfl
          have HV1 := hid hv1
          have HV2 := hid hv2
          clear hv1 hv2
          obtain ⟨rfl, hn, a, cap, rfl⟩ := Tm.at_form hT
          obtain ⟨rfl, hm, a', cap', rfl⟩ := Tm.at_form hU
          have hW : Below w.heap.size w ((((w.alloc (.cells #[.string t.name, .slice a t.args.length cap] 33)).alloc (.cells #[.string u.name, .slice a' u.args.length cap'] 33)).alloc (.cells #[.slice xa x.length xc] 56)).alloc (.cells #[.slice ya y.length yc] 56)) := ((((Below.refl _ _).alloc (Nat.le_refl _) _).alloc (by simp) _).alloc (by simp; omega) _).alloc (by simp; omega) _
          have bT : Box ((((w.alloc (.cells #[.string t.name, .slice a t.args.length cap] 33)).alloc (.cells #[.string u.name, .slice a' u.args.length cap'] 33)).alloc (.cells #[.slice xa x.length xc] 56)).alloc (.cells #[.slice ya y.length yc] 56)) w.heap.size [.string t.name, .slice a t.args.length cap] := (((Box.new w _ _).alloc _).alloc _).alloc _
          have bU : Box ((((w.alloc (.cells #[.string t.name, .slice a t.args.length cap] 33)).alloc (.cells #[.string u.name, .slice a' u.args.length cap'] 33)).alloc (.cells #[.slice xa x.length xc] 56)).alloc (.cells #[.slice ya y.length yc] 56)) (w.heap.size + 1) [.string u.name, .slice a' u.args.length cap'] := by
            have := ((Box.new (w.alloc (.cells #[.string t.name, .slice a t.args.length cap] 33)) [.string u.name, .slice a' u.args.length cap'] 33).alloc (.cells #[.slice xa x.length xc] 56)).alloc (.cells #[.slice ya y.length yc] 56)
            simpa only [World.size_alloc] using this
          have bX : Box ((((w.alloc (.cells #[.string t.name, .slice a t.args.length cap] 33)).alloc (.cells #[.string u.name, .slice a' u.args.length cap'] 33)).alloc (.cells #[.slice xa x.length xc] 56)).alloc (.cells #[.slice ya y.length yc] 56)) (w.heap.size + 2) [.slice xa x.length xc] := by
            have := (Box.new ((w.alloc (.cells #[.string t.name, .slice a t.args.length cap] 33)).alloc (.cells #[.string u.name, .slice a' u.args.length cap'] 33)) [.slice xa x.length xc] 56).alloc (.cells #[.slice ya y.length yc] 56)
            simpa only [World.size_alloc] using this
          have bY : Box ((((w.alloc (.cells #[.string t.name, .slice a t.args.length cap] 33)).alloc (.cells #[.string u.name, .slice a' u.args.length cap'] 33)).alloc (.cells #[.slice xa x.length xc] 56)).alloc (.cells #[.slice ya y.length yc] 56)) (w.heap.size + 3) [.slice ya y.length yc] := by
            have := Box.new (((w.alloc (.cells #[.string t.name, .slice a t.args.length cap] 33)).alloc (.cells #[.string u.name, .slice a' u.args.length cap'] 33)).alloc (.cells #[.slice xa x.length xc] 56)) [.slice ya y.length yc] 56
            simpa only [World.size_alloc] using this
          replace hT := Tm.at_keep (Keeps.all hW) hT
          replace hU := Tm.at_keep (Keeps.all hW) hU
          have HX0 := hid (D.rd_keep (Keeps.all hW) _ _ HXR.out)
          have HY0 := hid (D.rd_keep (Keeps.all hW) _ _ HYR.out)
          go_enter Try.func50, Try.ntmps50
          go_wp2_with fail
          generalize ((((w.alloc (.cells #[.string t.name, .slice a t.args.length cap] 33)).alloc (.cells #[.string u.name, .slice a' u.args.length cap'] 33)).alloc (.cells #[.slice xa x.length xc] 56)).alloc (.cells #[.slice ya y.length yc] 56)) = w0 at *
          have eT0 := bT.c0
          have eT1 := bT.c1
          have eU0 := bU.c0
          have eU1 := bU.c1
          have lT := bT.lt
          have lU := bU.lt
          have eX0 := bX.c0
          have eY0 := bY.c0
          have lX := bX.lt
          have lY := bY.lt
          refine (isVar_any hnt hT).mono ?_
          rintro e w1 ⟨_, rfl, hb, rfl⟩
          clear eT0 eT1 eU0 eU1 lT lU
          clear eX0 eY0 lX lY
          replace bX := bX.keep hb
          replace bY := bY.keep hb
          replace HX0 := hid (D.rd_keep (Keeps.all hb) _ _ HX0.out)
          replace HY0 := hid (D.rd_keep (Keeps.all hb) _ _ HY0.out)
          replace hW := hW.trans (hb.mono hW.size)
          replace bT := bT.keep hb
          replace bU := bU.keep hb
          replace hT := Tm.at_keep (Keeps.all hb) hT
          replace hU := Tm.at_keep (Keeps.all hb) hU
          clear hb
          have eT0 := bT.c0
          have eT1 := bT.c1
          have eU0 := bU.c0
          have eU1 := bU.c1
          have lT := bT.lt
          have lU := bU.lt
          have eX0 := bX.c0
          have eY0 := bY.c0
          have lX := bX.lt
          have lY := bY.lt
          rw [HV1.out]
          go_wp2_with fail
          refine (isVar_any hnu hU).mono ?_
          rintro e w1 ⟨_, rfl, hb, rfl⟩
          clear eT0 eT1 eU0 eU1 lT lU
          clear eX0 eY0 lX lY
          replace bX := bX.keep hb
          replace bY := bY.keep hb
          replace HX0 := hid (D.rd_keep (Keeps.all hb) _ _ HX0.out)
          replace HY0 := hid (D.rd_keep (Keeps.all hb) _ _ HY0.out)
          replace hW := hW.trans (hb.mono hW.size)
          replace bT := bT.keep hb
          replace bU := bU.keep hb
          replace hT := Tm.at_keep (Keeps.all hb) hT
          replace hU := Tm.at_keep (Keeps.all hb) hU
          clear hb
          have eT0 := bT.c0
          have eT1 := bT.c1
          have eU0 := bU.c0
          have eU1 := bU.c1
          have lT := bT.lt
          have lU := bU.lt
          have eX0 := bX.c0
          have eY0 := bY.c0
          have lX := bX.lt
          have lY := bY.lt
          rw [HV2.out]
          go_wp2_with fail
          obtain ⟨i, Hi⟩ : ∃ i, Hid (lastAt x t.name = i) := ⟨_, hid rfl⟩
          obtain ⟨k, Hk⟩ : ∃ k, Hid (lastAt y u.name = k) := ⟨_, hid rfl⟩
          rw [Hi.out] at hi1
          rw [Hk.out] at hi2
          rw [Hi.out, Hk.out] at HD
          refine wp_region_B [fun v _ => v = .slice xa x.length xc, fun v _ => v = .pointer (some ⟨w.heap.size, 0, none⟩), fun v _ => v = .string t.name, fun v _ => v = .int .i64 i, fun v _ => v = .slice ya y.length yc, fun v _ => v = .pointer (some ⟨(w.heap.size + 1), 0, none⟩), fun v _ => v = .string u.name, fun v _ => v = .int .i64 k, fun v _ => v = .int .i64 i, fun v _ => v = .int .i64 k] _ (fun V => by simp [putAll, Act.put]; rfl) (by kernel_rfl) (by decide) (by simp) (by kernel_rfl) ?_ ?_ ?_
          · intro F hF
            simp only [List.mem_cons, List.not_mem_nil, or_false] at hF
            rcases hF with rfl | rfl | rfl | rfl | rfl | rfl | rfl | rfl | rfl | rfl
            · exact stable_eq
            · exact stable_eq
            · exact stable_eq
            · exact stable_eq
            · exact stable_eq
            · exact stable_eq
            · exact stable_eq
            · exact stable_eq
            · exact stable_eq
            · exact stable_eq
          · refine ⟨?_, ?_, ?_, ?_, ?_, ?_, ?_, ?_, ?_, ?_, trivial⟩
            · intro V w1 hbR _
              obtain ⟨hc, hf⟩ := bcell hbR
              try simp only [World.size_alloc, World.size_setCell] at hc hf
              unfold Does
              go_simp
              exact ⟨Below.refl _ _, rfl⟩
            · intro V w1 hbR _
              unfold Does
              go_simp
              exact ⟨Below.refl _ _, rfl⟩
            · intro V w1 hbR ⟨f1, _⟩
              replace f1 : V 1 = .pointer (some ⟨w.heap.size, 0, none⟩) := f1
              obtain ⟨hc, hf⟩ := bcell hbR
              try simp only [World.size_alloc, World.size_setCell] at hc hf
              unfold Does
              go_simp
              exact ⟨Below.refl _ _, rfl⟩
            · intro V w1 hbR ⟨f0, f2, _⟩
              replace f0 : V 0 = .slice xa x.length xc := f0
              replace f2 : V 2 = .string t.name := f2
              obtain ⟨hc, hf⟩ := bcell hbR
              try simp only [World.size_alloc, World.size_setCell] at hc hf
              unfold Does
              go_simp
              refine (boundAt_any (D.rd_keep (Keeps.all hbR) _ _ HX0.out)).mono ?_; rintro e w4 ⟨rfl, rfl⟩; exact ⟨_, by rw [Hi.out], Below.refl _ _, rfl⟩
            · intro V w1 hbR _
              obtain ⟨hc, hf⟩ := bcell hbR
              try simp only [World.size_alloc, World.size_setCell] at hc hf
              unfold Does
              go_simp
              exact ⟨Below.refl _ _, rfl⟩
            · intro V w1 hbR _
              unfold Does
              go_simp
              exact ⟨Below.refl _ _, rfl⟩
            · intro V w1 hbR ⟨f5, _⟩
              replace f5 : V 5 = .pointer (some ⟨(w.heap.size + 1), 0, none⟩) := f5
              obtain ⟨hc, hf⟩ := bcell hbR
              try simp only [World.size_alloc, World.size_setCell] at hc hf
              unfold Does
              go_simp
              exact ⟨Below.refl _ _, rfl⟩
            · intro V w1 hbR ⟨f4, f6, f3, _⟩
              replace f3 : V 3 = .int .i64 i := f3
              replace f4 : V 4 = .slice ya y.length yc := f4
              replace f6 : V 6 = .string u.name := f6
              obtain ⟨hc, hf⟩ := bcell hbR
              try simp only [World.size_alloc, World.size_setCell] at hc hf
              unfold Does
              go_simp
              refine (boundAt_any (D.rd_keep (Keeps.all hbR) _ _ HY0.out)).mono ?_; rintro e w4 ⟨rfl, rfl⟩; exact ⟨_, by rw [Hk.out], Below.refl _ _, rfl⟩
            · intro V w1 hbR ⟨f3, f7, f0, f1, f2, _, _⟩
              replace f0 : V 0 = .slice xa x.length xc := f0
              replace f1 : V 1 = .pointer (some ⟨w.heap.size, 0, none⟩) := f1
              replace f2 : V 2 = .string t.name := f2
              replace f3 : V 3 = .int .i64 i := f3
              replace f7 : V 7 = .int .i64 k := f7
              unfold Does
              go_simp
              exact ⟨Below.refl _ _, rfl⟩
            · intro V w1 hbR ⟨f7, f8, f0, f1, f2, f3, f4, f5, f6, _, _, _⟩
              replace f0 : V 0 = .slice xa x.length xc := f0
              replace f1 : V 1 = .pointer (some ⟨w.heap.size, 0, none⟩) := f1
              replace f2 : V 2 = .string t.name := f2
              replace f3 : V 3 = .int .i64 i := f3
              replace f4 : V 4 = .slice ya y.length yc := f4
              replace f5 : V 5 = .pointer (some ⟨(w.heap.size + 1), 0, none⟩) := f5
              replace f6 : V 6 = .string u.name := f6
              replace f7 : V 7 = .int .i64 k := f7
              replace f8 : V 8 = .int .i64 i := f8
              unfold Does
              go_simp
              exact ⟨Below.refl _ _, rfl⟩
          intro V w1 hbR hfR
          obtain ⟨f0, f1, f2, f3, f4, f5, f6, f7, f8, f9, _⟩ := hfR
          replace f0 : V 0 = .slice xa x.length xc := f0
          replace f1 : V 1 = .pointer (some ⟨w.heap.size, 0, none⟩) := f1
          replace f2 : V 2 = .string t.name := f2
          replace f3 : V 3 = .int .i64 i := f3
          replace f4 : V 4 = .slice ya y.length yc := f4
          replace f5 : V 5 = .pointer (some ⟨(w.heap.size + 1), 0, none⟩) := f5
          replace f6 : V 6 = .string u.name := f6
          replace f7 : V 7 = .int .i64 k := f7
          replace f8 : V 8 = .int .i64 i := f8
          replace f9 : V 9 = .int .i64 k := f9
          simp only [f0, f1, f2, f3, f4, f5, f6, f7, f8, f9]
          clear f0 f1 f2 f3 f4 f5 f6 f7 f8 f9
          clear eT0 eT1 eU0 eU1 lT lU
          clear eX0 eY0 lX lY
          replace bX := bX.keep hbR
          replace bY := bY.keep hbR
          replace HX0 := hid (D.rd_keep (Keeps.all hbR) _ _ HX0.out)
          replace HY0 := hid (D.rd_keep (Keeps.all hbR) _ _ HY0.out)
          replace hW := hW.trans (hbR.mono hW.size)
          replace bT := bT.keep hbR
          replace bU := bU.keep hbR
          replace hT := Tm.at_keep (Keeps.all hbR) hT
          replace hU := Tm.at_keep (Keeps.all hbR) hU
          clear hbR
          have eT0 := bT.c0
          have eT1 := bT.c1
          have eU0 := bU.c0
          have eU1 := bU.c1
          have lT := bT.lt
          have lU := bU.lt
          have eX0 := bX.c0
          have eY0 := bY.c0
          have lX := bX.lt
          have lY := bY.lt
          by_cases hik : i = k
          · have e1 : (i == k) = true := by simp [hik]
            by_cases h0 : 0 ≤ i
            · have HX : Hid (Tm.alpha x y t u = true) := by rw [Hid, HD.out]; simp [hik, hik ▸ h0]
              clear hik
              go_wp2_with fail
              go_ret
              exact Gives.mk (ret_bool HX.out.symm) hW
            · have h0' : ¬ i ≥ 0 := h0
              have HX : Hid (Tm.alpha x y t u = decide (t.name = u.name)) := by rw [Hid, HD.out]; simp [hik, hik ▸ h0]
              by_cases hnm : t.name = u.name
              · have hs1 : (t.name.toList == u.name.toList) = true := by rw [hnm]; simp
                have HZ : Hid (Tm.alpha x y t u = true) := by rw [Hid, HX.out]; simp [hnm]
                clear hik hnm
                go_wp2_with fail
                go_ret
                exact Gives.mk (ret_bool HZ.out.symm) hW
              · have hs1 := toList_ne hnm
                have HZ : Hid (Tm.alpha x y t u = false) := by rw [Hid, HX.out]; simp [hnm]
                clear hik hnm
                go_wp2_with fail
                go_ret
                exact Gives.mk (ret_bool HZ.out.symm) hW
          · have e1 : (i == k) = false := by simp [hik]
            have HX : Hid (Tm.alpha x y t u = false) := by rw [Hid, HD.out]; simp [hik]
            clear hik
            go_wp2_with fail
            go_ret
            exact Gives.mk (ret_bool HX.out.symm) hW
        · have HD : Hid (Tm.alpha x y t u = (decide (t.name = u.name) && Tm.alphas x y t.args u.args)) := by rw [Hid, HC.out, if_neg (by simp [hv2])]
          have HV1 := hid hv1
          have HV2 : Hid (varName u.name = false) := by simpa [Hid] using hv2
          clear hv1 hv2
          obtain ⟨rfl, hn, a, cap, rfl⟩ := Tm.at_form hT
          obtain ⟨rfl, hm, a', cap', rfl⟩ := Tm.at_form hU
          have hW : Below w.heap.size w ((((w.alloc (.cells #[.string t.name, .slice a t.args.length cap] 33)).alloc (.cells #[.string u.name, .slice a' u.args.length cap'] 33)).alloc (.cells #[.slice xa x.length xc] 56)).alloc (.cells #[.slice ya y.length yc] 56)) := ((((Below.refl _ _).alloc (Nat.le_refl _) _).alloc (by simp) _).alloc (by simp; omega) _).alloc (by simp; omega) _
          have bT : Box ((((w.alloc (.cells #[.string t.name, .slice a t.args.length cap] 33)).alloc (.cells #[.string u.name, .slice a' u.args.length cap'] 33)).alloc (.cells #[.slice xa x.length xc] 56)).alloc (.cells #[.slice ya y.length yc] 56)) w.heap.size [.string t.name, .slice a t.args.length cap] := (((Box.new w _ _).alloc _).alloc _).alloc _
          have bU : Box ((((w.alloc (.cells #[.string t.name, .slice a t.args.length cap] 33)).alloc (.cells #[.string u.name, .slice a' u.args.length cap'] 33)).alloc (.cells #[.slice xa x.length xc] 56)).alloc (.cells #[.slice ya y.length yc] 56)) (w.heap.size + 1) [.string u.name, .slice a' u.args.length cap'] := by
            have := ((Box.new (w.alloc (.cells #[.string t.name, .slice a t.args.length cap] 33)) [.string u.name, .slice a' u.args.length cap'] 33).alloc (.cells #[.slice xa x.length xc] 56)).alloc (.cells #[.slice ya y.length yc] 56)
            simpa only [World.size_alloc] using this
          have bX : Box ((((w.alloc (.cells #[.string t.name, .slice a t.args.length cap] 33)).alloc (.cells #[.string u.name, .slice a' u.args.length cap'] 33)).alloc (.cells #[.slice xa x.length xc] 56)).alloc (.cells #[.slice ya y.length yc] 56)) (w.heap.size + 2) [.slice xa x.length xc] := by
            have := (Box.new ((w.alloc (.cells #[.string t.name, .slice a t.args.length cap] 33)).alloc (.cells #[.string u.name, .slice a' u.args.length cap'] 33)) [.slice xa x.length xc] 56).alloc (.cells #[.slice ya y.length yc] 56)
            simpa only [World.size_alloc] using this
          have bY : Box ((((w.alloc (.cells #[.string t.name, .slice a t.args.length cap] 33)).alloc (.cells #[.string u.name, .slice a' u.args.length cap'] 33)).alloc (.cells #[.slice xa x.length xc] 56)).alloc (.cells #[.slice ya y.length yc] 56)) (w.heap.size + 3) [.slice ya y.length yc] := by
            have := Box.new (((w.alloc (.cells #[.string t.name, .slice a t.args.length cap] 33)).alloc (.cells #[.string u.name, .slice a' u.args.length cap'] 33)).alloc (.cells #[.slice xa x.length xc] 56)) [.slice ya y.length yc] 56
            simpa only [World.size_alloc] using this
          replace hT := Tm.at_keep (Keeps.all hW) hT
          replace hU := Tm.at_keep (Keeps.all hW) hU
          have HX0 := hid (D.rd_keep (Keeps.all hW) _ _ HXR.out)
          have HY0 := hid (D.rd_keep (Keeps.all hW) _ _ HYR.out)
          go_enter Try.func50, Try.ntmps50
          go_wp2_with fail
          generalize ((((w.alloc (.cells #[.string t.name, .slice a t.args.length cap] 33)).alloc (.cells #[.string u.name, .slice a' u.args.length cap'] 33)).alloc (.cells #[.slice xa x.length xc] 56)).alloc (.cells #[.slice ya y.length yc] 56)) = w0 at *
          have eT0 := bT.c0
          have eT1 := bT.c1
          have eU0 := bU.c0
          have eU1 := bU.c1
          have lT := bT.lt
          have lU := bU.lt
          have eX0 := bX.c0
          have eY0 := bY.c0
          have lX := bX.lt
          have lY := bY.lt
          refine (isVar_any hnt hT).mono ?_
          rintro e w1 ⟨_, rfl, hb, rfl⟩
          clear eT0 eT1 eU0 eU1 lT lU
          clear eX0 eY0 lX lY
          replace bX := bX.keep hb
          replace bY := bY.keep hb
          replace HX0 := hid (D.rd_keep (Keeps.all hb) _ _ HX0.out)
          replace HY0 := hid (D.rd_keep (Keeps.all hb) _ _ HY0.out)
          replace hW := hW.trans (hb.mono hW.size)
          replace bT := bT.keep hb
          replace bU := bU.keep hb
          replace hT := Tm.at_keep (Keeps.all hb) hT
          replace hU := Tm.at_keep (Keeps.all hb) hU
          clear hb
          have eT0 := bT.c0
          have eT1 := bT.c1
          have eU0 := bU.c0
          have eU1 := bU.c1
          have lT := bT.lt
          have lU := bU.lt
          have eX0 := bX.c0
          have eY0 := bY.c0
          have lX := bX.lt
          have lY := bY.lt
          rw [HV1.out]
          go_wp2_with fail
          refine (isVar_any hnu hU).mono ?_
          rintro e w1 ⟨_, rfl, hb, rfl⟩
          clear eT0 eT1 eU0 eU1 lT lU
          clear eX0 eY0 lX lY
          replace bX := bX.keep hb
          replace bY := bY.keep hb
          replace HX0 := hid (D.rd_keep (Keeps.all hb) _ _ HX0.out)
          replace HY0 := hid (D.rd_keep (Keeps.all hb) _ _ HY0.out)
          replace hW := hW.trans (hb.mono hW.size)
          replace bT := bT.keep hb
          replace bU := bU.keep hb
          replace hT := Tm.at_keep (Keeps.all hb) hT
          replace hU := Tm.at_keep (Keeps.all hb) hU
          clear hb
          have eT0 := bT.c0
          have eT1 := bT.c1
          have eU0 := bU.c0
          have eU1 := bU.c1
          have lT := bT.lt
          have lU := bU.lt
          have eX0 := bX.c0
          have eY0 := bY.c0
          have lX := bX.lt
          have lY := bY.lt
          rw [HV2.out]
          by_cases hnm : t.name = u.name
          · have hs1 : (t.name.toList == u.name.toList) = true := by rw [hnm]; simp
            have HE : Hid (Tm.alpha x y t u = Tm.alphas x y t.args u.args) := by rw [Hid, HD.out]; simp [hnm]
            have hq := eqFuncA_of t.args ih u.args x y (Tm.at_sd hT) (Tm.at_sd hU) ⟨bX.c0, bY.c0, bX.lt, bY.lt, HX0.out, HY0.out⟩ (Tm.leafy_args hlt0') (Tm.leafy_args hlu0') (Tm.nice_args hnt) (Tm.nice_args hnu)
            clear hnm
            go_wp2_with fail
            refine hq.mono ?_
            rintro e w5 ⟨_, rfl, hb, rfl⟩
            go_wp2_with fail
            go_ret
            exact Gives.mk (ret_bool HE.out.symm) (hW.trans (hb.mono hW.size))
          · have hs1 := toList_ne hnm
            have HZ : Hid (Tm.alpha x y t u = false) := by rw [Hid, HD.out]; simp [hnm]
            clear hnm
            go_wp2_with fail
            go_ret
            exact Gives.mk (ret_bool HZ.out.symm) hW
      · have HD : Hid (Tm.alpha x y t u = (decide (t.name = u.name) && Tm.alphas x y t.args u.args)) := by rw [Hid, HC.out, if_neg (by simp [hv1])]
        have HV1 : Hid (varName t.name = false) := by simpa [Hid] using hv1
        clear hv1
        obtain ⟨rfl, hn, a, cap, rfl⟩ := Tm.at_form hT
        obtain ⟨rfl, hm, a', cap', rfl⟩ := Tm.at_form hU
        have hW : Below w.heap.size w ((((w.alloc (.cells #[.string t.name, .slice a t.args.length cap] 33)).alloc (.cells #[.string u.name, .slice a' u.args.length cap'] 33)).alloc (.cells #[.slice xa x.length xc] 56)).alloc (.cells #[.slice ya y.length yc] 56)) := ((((Below.refl _ _).alloc (Nat.le_refl _) _).alloc (by simp) _).alloc (by simp; omega) _).alloc (by simp; omega) _
        have bT : Box ((((w.alloc (.cells #[.string t.name, .slice a t.args.length cap] 33)).alloc (.cells #[.string u.name, .slice a' u.args.length cap'] 33)).alloc (.cells #[.slice xa x.length xc] 56)).alloc (.cells #[.slice ya y.length yc] 56)) w.heap.size [.string t.name, .slice a t.args.length cap] := (((Box.new w _ _).alloc _).alloc _).alloc _
        have bU : Box ((((w.alloc (.cells #[.string t.name, .slice a t.args.length cap] 33)).alloc (.cells #[.string u.name, .slice a' u.args.length cap'] 33)).alloc (.cells #[.slice xa x.length xc] 56)).alloc (.cells #[.slice ya y.length yc] 56)) (w.heap.size + 1) [.string u.name, .slice a' u.args.length cap'] := by
          have := ((Box.new (w.alloc (.cells #[.string t.name, .slice a t.args.length cap] 33)) [.string u.name, .slice a' u.args.length cap'] 33).alloc (.cells #[.slice xa x.length xc] 56)).alloc (.cells #[.slice ya y.length yc] 56)
          simpa only [World.size_alloc] using this
        have bX : Box ((((w.alloc (.cells #[.string t.name, .slice a t.args.length cap] 33)).alloc (.cells #[.string u.name, .slice a' u.args.length cap'] 33)).alloc (.cells #[.slice xa x.length xc] 56)).alloc (.cells #[.slice ya y.length yc] 56)) (w.heap.size + 2) [.slice xa x.length xc] := by
          have := (Box.new ((w.alloc (.cells #[.string t.name, .slice a t.args.length cap] 33)).alloc (.cells #[.string u.name, .slice a' u.args.length cap'] 33)) [.slice xa x.length xc] 56).alloc (.cells #[.slice ya y.length yc] 56)
          simpa only [World.size_alloc] using this
        have bY : Box ((((w.alloc (.cells #[.string t.name, .slice a t.args.length cap] 33)).alloc (.cells #[.string u.name, .slice a' u.args.length cap'] 33)).alloc (.cells #[.slice xa x.length xc] 56)).alloc (.cells #[.slice ya y.length yc] 56)) (w.heap.size + 3) [.slice ya y.length yc] := by
          have := Box.new (((w.alloc (.cells #[.string t.name, .slice a t.args.length cap] 33)).alloc (.cells #[.string u.name, .slice a' u.args.length cap'] 33)).alloc (.cells #[.slice xa x.length xc] 56)) [.slice ya y.length yc] 56
          simpa only [World.size_alloc] using this
        replace hT := Tm.at_keep (Keeps.all hW) hT
        replace hU := Tm.at_keep (Keeps.all hW) hU
        have HX0 := hid (D.rd_keep (Keeps.all hW) _ _ HXR.out)
        have HY0 := hid (D.rd_keep (Keeps.all hW) _ _ HYR.out)
        go_enter Try.func50, Try.ntmps50
        go_wp2_with fail
        generalize ((((w.alloc (.cells #[.string t.name, .slice a t.args.length cap] 33)).alloc (.cells #[.string u.name, .slice a' u.args.length cap'] 33)).alloc (.cells #[.slice xa x.length xc] 56)).alloc (.cells #[.slice ya y.length yc] 56)) = w0 at *
        have eT0 := bT.c0
        have eT1 := bT.c1
        have eU0 := bU.c0
        have eU1 := bU.c1
        have lT := bT.lt
        have lU := bU.lt
        have eX0 := bX.c0
        have eY0 := bY.c0
        have lX := bX.lt
        have lY := bY.lt
        refine (isVar_any hnt hT).mono ?_
        rintro e w1 ⟨_, rfl, hb, rfl⟩
        clear eT0 eT1 eU0 eU1 lT lU
        clear eX0 eY0 lX lY
        replace bX := bX.keep hb
        replace bY := bY.keep hb
        replace HX0 := hid (D.rd_keep (Keeps.all hb) _ _ HX0.out)
        replace HY0 := hid (D.rd_keep (Keeps.all hb) _ _ HY0.out)
        replace hW := hW.trans (hb.mono hW.size)
        replace bT := bT.keep hb
        replace bU := bU.keep hb
        replace hT := Tm.at_keep (Keeps.all hb) hT
        replace hU := Tm.at_keep (Keeps.all hb) hU
        clear hb
        have eT0 := bT.c0
        have eT1 := bT.c1
        have eU0 := bU.c0
        have eU1 := bU.c1
        have lT := bT.lt
        have lU := bU.lt
        have eX0 := bX.c0
        have eY0 := bY.c0
        have lX := bX.lt
        have lY := bY.lt
        rw [HV1.out]
        by_cases hnm : t.name = u.name
        · have hs1 : (t.name.toList == u.name.toList) = true := by rw [hnm]; simp
          have HE : Hid (Tm.alpha x y t u = Tm.alphas x y t.args u.args) := by rw [Hid, HD.out]; simp [hnm]
          have hq := eqFuncA_of t.args ih u.args x y (Tm.at_sd hT) (Tm.at_sd hU) ⟨bX.c0, bY.c0, bX.lt, bY.lt, HX0.out, HY0.out⟩ (Tm.leafy_args hlt0') (Tm.leafy_args hlu0') (Tm.nice_args hnt) (Tm.nice_args hnu)
          clear hnm
          go_wp2_with fail
          refine hq.mono ?_
          rintro e w5 ⟨_, rfl, hb, rfl⟩
          go_wp2_with fail
          go_ret
          exact Gives.mk (ret_bool HE.out.symm) (hW.trans (hb.mono hW.size))
        · have hs1 := toList_ne hnm
          have HZ : Hid (Tm.alpha x y t u = false) := by rw [Hid, HD.out]; simp [hnm]
          clear hnm
          go_wp2_with fail
          go_ret
          exact Gives.mk (ret_bool HZ.out.symm) hW
    · have HD : Hid (Tm.alpha x y t u = (decide (t.name = u.name) && Tm.alphas x y t.args u.args)) := by
        rw [Hid, HC.out, if_neg]
        intro e
        rw [Bool.and_eq_true] at e
        rw [Tm.leafy_var hlu e.2] at hl2
        exact hl2 rfl
      have z2 : ((u.args.length : Int) == 0) = false := by rw [beq_eq_false_iff_ne]; omega
      clear hl1 hl2
      by_cases hnm : t.name = u.name
      · have hs1 : (t.name.toList == u.name.toList) = true := by rw [hnm]; simp
        have HE : Hid (Tm.alpha x y t u = Tm.alphas x y t.args u.args) := by rw [Hid, HD.out]; simp [hnm]
        clear hnm
        obtain ⟨rfl, hn, a, cap, rfl⟩ := Tm.at_form hT
        obtain ⟨rfl, hm, a', cap', rfl⟩ := Tm.at_form hU
        have hW : Below w.heap.size w ((((w.alloc (.cells #[.string t.name, .slice a t.args.length cap] 33)).alloc (.cells #[.string u.name, .slice a' u.args.length cap'] 33)).alloc (.cells #[.slice xa x.length xc] 56)).alloc (.cells #[.slice ya y.length yc] 56)) := ((((Below.refl _ _).alloc (Nat.le_refl _) _).alloc (by simp) _).alloc (by simp; omega) _).alloc (by simp; omega) _
        have bT : Box ((((w.alloc (.cells #[.string t.name, .slice a t.args.length cap] 33)).alloc (.cells #[.string u.name, .slice a' u.args.length cap'] 33)).alloc (.cells #[.slice xa x.length xc] 56)).alloc (.cells #[.slice ya y.length yc] 56)) w.heap.size [.string t.name, .slice a t.args.length cap] := (((Box.new w _ _).alloc _).alloc _).alloc _
        have bU : Box ((((w.alloc (.cells #[.string t.name, .slice a t.args.length cap] 33)).alloc (.cells #[.string u.name, .slice a' u.args.length cap'] 33)).alloc (.cells #[.slice xa x.length xc] 56)).alloc (.cells #[.slice ya y.length yc] 56)) (w.heap.size + 1) [.string u.name, .slice a' u.args.length cap'] := by
          have := ((Box.new (w.alloc (.cells #[.string t.name, .slice a t.args.length cap] 33)) [.string u.name, .slice a' u.args.length cap'] 33).alloc (.cells #[.slice xa x.length xc] 56)).alloc (.cells #[.slice ya y.length yc] 56)
          simpa only [World.size_alloc] using this
        have bX : Box ((((w.alloc (.cells #[.string t.name, .slice a t.args.length cap] 33)).alloc (.cells #[.string u.name, .slice a' u.args.length cap'] 33)).alloc (.cells #[.slice xa x.length xc] 56)).alloc (.cells #[.slice ya y.length yc] 56)) (w.heap.size + 2) [.slice xa x.length xc] := by
          have := (Box.new ((w.alloc (.cells #[.string t.name, .slice a t.args.length cap] 33)).alloc (.cells #[.string u.name, .slice a' u.args.length cap'] 33)) [.slice xa x.length xc] 56).alloc (.cells #[.slice ya y.length yc] 56)
          simpa only [World.size_alloc] using this
        have bY : Box ((((w.alloc (.cells #[.string t.name, .slice a t.args.length cap] 33)).alloc (.cells #[.string u.name, .slice a' u.args.length cap'] 33)).alloc (.cells #[.slice xa x.length xc] 56)).alloc (.cells #[.slice ya y.length yc] 56)) (w.heap.size + 3) [.slice ya y.length yc] := by
          have := Box.new (((w.alloc (.cells #[.string t.name, .slice a t.args.length cap] 33)).alloc (.cells #[.string u.name, .slice a' u.args.length cap'] 33)).alloc (.cells #[.slice xa x.length xc] 56)) [.slice ya y.length yc] 56
          simpa only [World.size_alloc] using this
        replace hT := Tm.at_keep (Keeps.all hW) hT
        replace hU := Tm.at_keep (Keeps.all hW) hU
        have HX0 := hid (D.rd_keep (Keeps.all hW) _ _ HXR.out)
        have HY0 := hid (D.rd_keep (Keeps.all hW) _ _ HYR.out)
        go_enter Try.func50, Try.ntmps50
        go_wp2_with fail
        generalize ((((w.alloc (.cells #[.string t.name, .slice a t.args.length cap] 33)).alloc (.cells #[.string u.name, .slice a' u.args.length cap'] 33)).alloc (.cells #[.slice xa x.length xc] 56)).alloc (.cells #[.slice ya y.length yc] 56)) = w0 at *
        refine (eqFuncA_of t.args ih u.args x y (Tm.at_sd hT) (Tm.at_sd hU) ⟨bX.c0, bY.c0, bX.lt, bY.lt, HX0.out, HY0.out⟩ (Tm.leafy_args hlt0') (Tm.leafy_args hlu0') (Tm.nice_args hnt) (Tm.nice_args hnu)).mono ?_
        rintro e w5 ⟨_, rfl, hb, rfl⟩
        go_wp2_with fail
        go_ret
        exact Gives.mk (ret_bool HE.out.symm) (hW.trans (hb.mono hW.size))
      · have hs1 := toList_ne hnm
        have HZ : Hid (Tm.alpha x y t u = false) := by rw [Hid, HD.out]; simp [hnm]
        clear hnm
        obtain ⟨rfl, hn, a, cap, rfl⟩ := Tm.at_form hT
        obtain ⟨rfl, hm, a', cap', rfl⟩ := Tm.at_form hU
        have hW : Below w.heap.size w ((((w.alloc (.cells #[.string t.name, .slice a t.args.length cap] 33)).alloc (.cells #[.string u.name, .slice a' u.args.length cap'] 33)).alloc (.cells #[.slice xa x.length xc] 56)).alloc (.cells #[.slice ya y.length yc] 56)) := ((((Below.refl _ _).alloc (Nat.le_refl _) _).alloc (by simp) _).alloc (by simp; omega) _).alloc (by simp; omega) _
        have bT : Box ((((w.alloc (.cells #[.string t.name, .slice a t.args.length cap] 33)).alloc (.cells #[.string u.name, .slice a' u.args.length cap'] 33)).alloc (.cells #[.slice xa x.length xc] 56)).alloc (.cells #[.slice ya y.length yc] 56)) w.heap.size [.string t.name, .slice a t.args.length cap] := (((Box.new w _ _).alloc _).alloc _).alloc _
        have bU : Box ((((w.alloc (.cells #[.string t.name, .slice a t.args.length cap] 33)).alloc (.cells #[.string u.name, .slice a' u.args.length cap'] 33)).alloc (.cells #[.slice xa x.length xc] 56)).alloc (.cells #[.slice ya y.length yc] 56)) (w.heap.size + 1) [.string u.name, .slice a' u.args.length cap'] := by
          have := ((Box.new (w.alloc (.cells #[.string t.name, .slice a t.args.length cap] 33)) [.string u.name, .slice a' u.args.length cap'] 33).alloc (.cells #[.slice xa x.length xc] 56)).alloc (.cells #[.slice ya y.length yc] 56)
          simpa only [World.size_alloc] using this
        have bX : Box ((((w.alloc (.cells #[.string t.name, .slice a t.args.length cap] 33)).alloc (.cells #[.string u.name, .slice a' u.args.length cap'] 33)).alloc (.cells #[.slice xa x.length xc] 56)).alloc (.cells #[.slice ya y.length yc] 56)) (w.heap.size + 2) [.slice xa x.length xc] := by
          have := (Box.new ((w.alloc (.cells #[.string t.name, .slice a t.args.length cap] 33)).alloc (.cells #[.string u.name, .slice a' u.args.length cap'] 33)) [.slice xa x.length xc] 56).alloc (.cells #[.slice ya y.length yc] 56)
          simpa only [World.size_alloc] using this
        have bY : Box ((((w.alloc (.cells #[.string t.name, .slice a t.args.length cap] 33)).alloc (.cells #[.string u.name, .slice a' u.args.length cap'] 33)).alloc (.cells #[.slice xa x.length xc] 56)).alloc (.cells #[.slice ya y.length yc] 56)) (w.heap.size + 3) [.slice ya y.length yc] := by
          have := Box.new (((w.alloc (.cells #[.string t.name, .slice a t.args.length cap] 33)).alloc (.cells #[.string u.name, .slice a' u.args.length cap'] 33)).alloc (.cells #[.slice xa x.length xc] 56)) [.slice ya y.length yc] 56
          simpa only [World.size_alloc] using this
        replace hT := Tm.at_keep (Keeps.all hW) hT
        replace hU := Tm.at_keep (Keeps.all hW) hU
        have HX0 := hid (D.rd_keep (Keeps.all hW) _ _ HXR.out)
        have HY0 := hid (D.rd_keep (Keeps.all hW) _ _ HYR.out)
        go_enter Try.func50, Try.ntmps50
        go_wp2_with fail
        generalize ((((w.alloc (.cells #[.string t.name, .slice a t.args.length cap] 33)).alloc (.cells #[.string u.name, .slice a' u.args.length cap'] 33)).alloc (.cells #[.slice xa x.length xc] 56)).alloc (.cells #[.slice ya y.length yc] 56)) = w0 at *
        go_ret
        exact Gives.mk (ret_bool HZ.out.symm) hW
  · have HD : Hid (Tm.alpha x y t u = (decide (t.name = u.name) && Tm.alphas x y t.args u.args)) := by
      rw [Hid, HC.out, if_neg]
      intro e
      rw [Bool.and_eq_true] at e
      rw [Tm.leafy_var hlt e.1] at hl1
      exact hl1 rfl
    have z1 : ((t.args.length : Int) == 0) = false := by rw [beq_eq_false_iff_ne]; omega
    clear hl1
    by_cases hnm : t.name = u.name
    · have hs1 : (t.name.toList == u.name.toList) = true := by rw [hnm]; simp
      have HE : Hid (Tm.alpha x y t u = Tm.alphas x y t.args u.args) := by rw [Hid, HD.out]; simp [hnm]
      clear hnm
      obtain ⟨rfl, hn, a, cap, rfl⟩ := Tm.at_form hT
      obtain ⟨rfl, hm, a', cap', rfl⟩ := Tm.at_form hU
      have hW : Below w.heap.size w ((((w.alloc (.cells #[.string t.name, .slice a t.args.length cap] 33)).alloc (.cells #[.string u.name, .slice a' u.args.length cap'] 33)).alloc (.cells #[.slice xa x.length xc] 56)).alloc (.cells #[.slice ya y.length yc] 56)) := ((((Below.refl _ _).alloc (Nat.le_refl _) _).alloc (by simp) _).alloc (by simp; omega) _).alloc (by simp; omega) _
      have bT : Box ((((w.alloc (.cells #[.string t.name, .slice a t.args.length cap] 33)).alloc (.cells #[.string u.name, .slice a' u.args.length cap'] 33)).alloc (.cells #[.slice xa x.length xc] 56)).alloc (.cells #[.slice ya y.length yc] 56)) w.heap.size [.string t.name, .slice a t.args.length cap] := (((Box.new w _ _).alloc _).alloc _).alloc _
      have bU : Box ((((w.alloc (.cells #[.string t.name, .slice a t.args.length cap] 33)).alloc (.cells #[.string u.name, .slice a' u.args.length cap'] 33)).alloc (.cells #[.slice xa x.length xc] 56)).alloc (.cells #[.slice ya y.length yc] 56)) (w.heap.size + 1) [.string u.name, .slice a' u.args.length cap'] := by
        have := ((Box.new (w.alloc (.cells #[.string t.name, .slice a t.args.length cap] 33)) [.string u.name, .slice a' u.args.length cap'] 33).alloc (.cells #[.slice xa x.length xc] 56)).alloc (.cells #[.slice ya y.length yc] 56)
        simpa only [World.size_alloc] using this
      have bX : Box ((((w.alloc (.cells #[.string t.name, .slice a t.args.length cap] 33)).alloc (.cells #[.string u.name, .slice a' u.args.length cap'] 33)).alloc (.cells #[.slice xa x.length xc] 56)).alloc (.cells #[.slice ya y.length yc] 56)) (w.heap.size + 2) [.slice xa x.length xc] := by
        have := (Box.new ((w.alloc (.cells #[.string t.name, .slice a t.args.length cap] 33)).alloc (.cells #[.string u.name, .slice a' u.args.length cap'] 33)) [.slice xa x.length xc] 56).alloc (.cells #[.slice ya y.length yc] 56)
        simpa only [World.size_alloc] using this
      have bY : Box ((((w.alloc (.cells #[.string t.name, .slice a t.args.length cap] 33)).alloc (.cells #[.string u.name, .slice a' u.args.length cap'] 33)).alloc (.cells #[.slice xa x.length xc] 56)).alloc (.cells #[.slice ya y.length yc] 56)) (w.heap.size + 3) [.slice ya y.length yc] := by
        have := Box.new (((w.alloc (.cells #[.string t.name, .slice a t.args.length cap] 33)).alloc (.cells #[.string u.name, .slice a' u.args.length cap'] 33)).alloc (.cells #[.slice xa x.length xc] 56)) [.slice ya y.length yc] 56
        simpa only [World.size_alloc] using this
      replace hT := Tm.at_keep (Keeps.all hW) hT
      replace hU := Tm.at_keep (Keeps.all hW) hU
      have HX0 := hid (D.rd_keep (Keeps.all hW) _ _ HXR.out)
      have HY0 := hid (D.rd_keep (Keeps.all hW) _ _ HYR.out)
      go_enter Try.func50, Try.ntmps50
      go_wp2_with fail
      generalize ((((w.alloc (.cells #[.string t.name, .slice a t.args.length cap] 33)).alloc (.cells #[.string u.name, .slice a' u.args.length cap'] 33)).alloc (.cells #[.slice xa x.length xc] 56)).alloc (.cells #[.slice ya y.length yc] 56)) = w0 at *
      refine (eqFuncA_of t.args ih u.args x y (Tm.at_sd hT) (Tm.at_sd hU) ⟨bX.c0, bY.c0, bX.lt, bY.lt, HX0.out, HY0.out⟩ (Tm.leafy_args hlt0') (Tm.leafy_args hlu0') (Tm.nice_args hnt) (Tm.nice_args hnu)).mono ?_
      rintro e w5 ⟨_, rfl, hb, rfl⟩
      go_wp2_with fail
      go_ret
      exact Gives.mk (ret_bool HE.out.symm) (hW.trans (hb.mono hW.size))
    · have hs1 := toList_ne hnm
      have HZ : Hid (Tm.alpha x y t u = false) := by rw [Hid, HD.out]; simp [hnm]
      clear hnm
      obtain ⟨rfl, hn, a, cap, rfl⟩ := Tm.at_form hT
      obtain ⟨rfl, hm, a', cap', rfl⟩ := Tm.at_form hU
      have hW : Below w.heap.size w ((((w.alloc (.cells #[.string t.name, .slice a t.args.length cap] 33)).alloc (.cells #[.string u.name, .slice a' u.args.length cap'] 33)).alloc (.cells #[.slice xa x.length xc] 56)).alloc (.cells #[.slice ya y.length yc] 56)) := ((((Below.refl _ _).alloc (Nat.le_refl _) _).alloc (by simp) _).alloc (by simp; omega) _).alloc (by simp; omega) _
      have bT : Box ((((w.alloc (.cells #[.string t.name, .slice a t.args.length cap] 33)).alloc (.cells #[.string u.name, .slice a' u.args.length cap'] 33)).alloc (.cells #[.slice xa x.length xc] 56)).alloc (.cells #[.slice ya y.length yc] 56)) w.heap.size [.string t.name, .slice a t.args.length cap] := (((Box.new w _ _).alloc _).alloc _).alloc _
      have bU : Box ((((w.alloc (.cells #[.string t.name, .slice a t.args.length cap] 33)).alloc (.cells #[.string u.name, .slice a' u.args.length cap'] 33)).alloc (.cells #[.slice xa x.length xc] 56)).alloc (.cells #[.slice ya y.length yc] 56)) (w.heap.size + 1) [.string u.name, .slice a' u.args.length cap'] := by
        have := ((Box.new (w.alloc (.cells #[.string t.name, .slice a t.args.length cap] 33)) [.string u.name, .slice a' u.args.length cap'] 33).alloc (.cells #[.slice xa x.length xc] 56)).alloc (.cells #[.slice ya y.length yc] 56)
        simpa only [World.size_alloc] using this
      have bX : Box ((((w.alloc (.cells #[.string t.name, .slice a t.args.length cap] 33)).alloc (.cells #[.string u.name, .slice a' u.args.length cap'] 33)).alloc (.cells #[.slice xa x.length xc] 56)).alloc (.cells #[.slice ya y.length yc] 56)) (w.heap.size + 2) [.slice xa x.length xc] := by
        have := (Box.new ((w.alloc (.cells #[.string t.name, .slice a t.args.length cap] 33)).alloc (.cells #[.string u.name, .slice a' u.args.length cap'] 33)) [.slice xa x.length xc] 56).alloc (.cells #[.slice ya y.length yc] 56)
        simpa only [World.size_alloc] using this
      have bY : Box ((((w.alloc (.cells #[.string t.name, .slice a t.args.length cap] 33)).alloc (.cells #[.string u.name, .slice a' u.args.length cap'] 33)).alloc (.cells #[.slice xa x.length xc] 56)).alloc (.cells #[.slice ya y.length yc] 56)) (w.heap.size + 3) [.slice ya y.length yc] := by
        have := Box.new (((w.alloc (.cells #[.string t.name, .slice a t.args.length cap] 33)).alloc (.cells #[.string u.name, .slice a' u.args.length cap'] 33)).alloc (.cells #[.slice xa x.length xc] 56)) [.slice ya y.length yc] 56
        simpa only [World.size_alloc] using this
      replace hT := Tm.at_keep (Keeps.all hW) hT
      replace hU := Tm.at_keep (Keeps.all hW) hU
      have HX0 := hid (D.rd_keep (Keeps.all hW) _ _ HXR.out)
      have HY0 := hid (D.rd_keep (Keeps.all hW) _ _ HYR.out)
      go_enter Try.func50, Try.ntmps50
      go_wp2_with fail
      generalize ((((w.alloc (.cells #[.string t.name, .slice a t.args.length cap] 33)).alloc (.cells #[.string u.name, .slice a' u.args.length cap'] 33)).alloc (.cells #[.slice xa x.length xc] 56)).alloc (.cells #[.slice ya y.length yc] 56)) = w0 at *
      go_ret
      exact Gives.mk (ret_bool HZ.out.symm) hW
theorem alphaTerms_any (t : Tm) : AlphaT 50 t := Tm.ind (P := AlphaT 50) (fun n ts h => alphaTerms_of (.node n ts) h) t
end Go.Proofs.Ythpookgpmnbilaa
