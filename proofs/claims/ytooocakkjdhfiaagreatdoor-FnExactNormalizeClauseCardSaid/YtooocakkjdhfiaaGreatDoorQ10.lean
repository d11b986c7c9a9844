/- Several texts in one file. -/
import Derived.Test.YtooocakkjdhfiaaGreatDoorQ08
import Derived.Test.YtooocakkjdhfiaaGreatDoorQ07
import Derived.Test.YtooocakkjdhfiaaGreatDoorQ04
/- CompareTerms. -/
namespace Go.Proofs.YtooocakkjdhfiaaGreatDoor
set_option maxRecDepth 100000
open Go.RowKit

theorem TwoInts.mk (w : World) (x y : Int) (T : TypeId) : Both (fun a b => Below a.heap.size a b) (TwoInts x y) w (.slice (some ⟨w.heap.size, 0, none⟩) 2 2) (w.alloc (.cells #[.int .i64 x, .int .i64 y] T)) :=
  ⟨(Below.refl _ _).alloc (Nat.le_refl _) _, w.heap.size, rfl, by simp, by rw [box1]; rfl, by rw [box1]; rfl⟩
theorem orZ_assoc (x y z : Int) : orZ (orZ x y) z = orZ x (orZ y z) := by 
  by_cases h : x = 0
  · simp [orZ, h]
  · simp [orZ, h]
theorem orZ_len {s : Int} {n m : Nat} (h : orZ s (numCmp n m) = 0) : n = m := by
  unfold orZ at h
  split at h
  · unfold numCmp at h
    split at h
    · exact absurd h (by decide)
    · split at h
      · exact absurd h (by decide)
      · omega
  · contradiction
theorem callableC : Callable 64 := fun _ _ => by kernel_rfl

set_option maxHeartbeats 4000000 in
theorem compareTerms_of (t : Tm) (h : ∀ a ∈ t.args, CmpsN 64 a) : CmpsN 64 t := by
  intro u S c0 c1 d0 d1 w hnt hnu hT hU
  have HC := hid (Tm.cmp_eq t u)
  have hlt0 : t.args.length ≤ 9223372036854775807 := by obtain ⟨_, _, _, q, _⟩ := Tm.sd_form hT.2; exact q
  have hlu0 : u.args.length ≤ 9223372036854775807 := by obtain ⟨_, _, _, q, _⟩ := Tm.sd_form hU.2; exact q
  have HNT := hid hnt
  have HNU := hid hnu
  clear hnt hnu
  obtain ⟨rfl, hn, a, cap, rfl⟩ := Tm.at_form hT
  obtain ⟨rfl, hm, a', cap', rfl⟩ := Tm.at_form hU
  have hW : Below w.heap.size w ((w.alloc (.cells #[.string t.name, .slice a t.args.length cap] 50)).alloc (.cells #[.string u.name, .slice a' u.args.length cap'] 50)) := ((Below.refl _ _).alloc (Nat.le_refl _) _).alloc (by simp) _
  have bT : Box ((w.alloc (.cells #[.string t.name, .slice a t.args.length cap] 50)).alloc (.cells #[.string u.name, .slice a' u.args.length cap'] 50)) w.heap.size [.string t.name, .slice a t.args.length cap] := (Box.new w _ _).alloc _
  have bU : Box ((w.alloc (.cells #[.string t.name, .slice a t.args.length cap] 50)).alloc (.cells #[.string u.name, .slice a' u.args.length cap'] 50)) (w.heap.size + 1) [.string u.name, .slice a' u.args.length cap'] := by
    have := Box.new (w.alloc (.cells #[.string t.name, .slice a t.args.length cap] 50)) [.string u.name, .slice a' u.args.length cap'] 50
    simpa only [World.size_alloc] using this
  replace hT := Tm.at_keep (Keeps.all hW) hT
  replace hU := Tm.at_keep (Keeps.all hW) hU
  go_enter Tryz.func64, Tryz.ntmps64
  go_wp2_with fail
  generalize ((w.alloc (.cells #[.string t.name, .slice a t.args.length cap] 50)).alloc (.cells #[.string u.name, .slice a' u.args.length cap'] 50)) = w0 at *
  have eT0 := bT.c0
  have eT1 := bT.c1
  have eU0 := bU.c0
  have eU1 := bU.c1
  have lT := bT.lt
  have lU := bU.lt
  refine wp_region_B [fun v _ => v = .agg #[.string t.name, .slice a t.args.length cap], fun v _ => v = .bool (varName t.name), fun v _ => v = .agg #[.string u.name, .slice a' u.args.length cap'], fun v _ => v = .bool (varName u.name), fun v _ => v = .bool (varName t.name), fun v _ => v = .bool (varName u.name)] _ (fun V => by simp [putAll, Act.put]; rfl) (by kernel_rfl) (by decide) (by simp) (by kernel_rfl) ?_ ?_ ?_
  · intro F hF
    simp only [List.mem_cons, List.not_mem_nil, or_false] at hF
    rcases hF with rfl | rfl | rfl | rfl | rfl | rfl
    · exact stable_eq
    · exact stable_eq
    · exact stable_eq
    · exact stable_eq
    · exact stable_eq
    · exact stable_eq
  · refine ⟨?_, ?_, ?_, ?_, ?_, ?_, trivial⟩
    · intro V w1 hbR _
      obtain ⟨hc, hf⟩ := bcell hbR
      try simp only [World.size_alloc, World.size_setCell] at hc hf
      unfold Does
      go_simp
      exact ⟨Below.refl _ _, rfl⟩
    · intro V w1 hbR ⟨f0, _⟩
      replace f0 : V 0 = .agg #[.string t.name, .slice a t.args.length cap] := f0
      obtain ⟨hc, hf⟩ := bcell hbR
      try simp only [World.size_alloc, World.size_setCell] at hc hf
      unfold Does
      go_simp
      exact isVar_any HNT.out (Tm.at_keep (Keeps.all hbR) hT)
    · intro V w1 hbR _
      obtain ⟨hc, hf⟩ := bcell hbR
      try simp only [World.size_alloc, World.size_setCell] at hc hf
      unfold Does
      go_simp
      exact ⟨Below.refl _ _, rfl⟩
    · intro V w1 hbR ⟨f2, f1, _⟩
      replace f1 : V 1 = .bool (varName t.name) := f1
      replace f2 : V 2 = .agg #[.string u.name, .slice a' u.args.length cap'] := f2
      obtain ⟨hc, hf⟩ := bcell hbR
      try simp only [World.size_alloc, World.size_setCell] at hc hf
      unfold Does
      go_simp
      exact isVar_any HNU.out (Tm.at_keep (Keeps.all hbR) hU)
    · intro V w1 hbR ⟨f1, f3, f0, _, _⟩
      replace f0 : V 0 = .agg #[.string t.name, .slice a t.args.length cap] := f0
      replace f1 : V 1 = .bool (varName t.name) := f1
      replace f3 : V 3 = .bool (varName u.name) := f3
      unfold Does
      go_simp
      exact ⟨Below.refl _ _, rfl⟩
    · intro V w1 hbR ⟨f3, f4, f0, f1, f2, _, _, _⟩
      replace f0 : V 0 = .agg #[.string t.name, .slice a t.args.length cap] := f0
      replace f1 : V 1 = .bool (varName t.name) := f1
      replace f2 : V 2 = .agg #[.string u.name, .slice a' u.args.length cap'] := f2
      replace f3 : V 3 = .bool (varName u.name) := f3
      replace f4 : V 4 = .bool (varName t.name) := f4
      unfold Does
      go_simp
      exact ⟨Below.refl _ _, rfl⟩
  intro V w1 hbR hfR
  obtain ⟨f0, f1, f2, f3, f4, f5, _⟩ := hfR
  replace f0 : V 0 = .agg #[.string t.name, .slice a t.args.length cap] := f0
  replace f1 : V 1 = .bool (varName t.name) := f1
  replace f2 : V 2 = .agg #[.string u.name, .slice a' u.args.length cap'] := f2
  replace f3 : V 3 = .bool (varName u.name) := f3
  replace f4 : V 4 = .bool (varName t.name) := f4
  replace f5 : V 5 = .bool (varName u.name) := f5
  simp only [f0, f1, f2, f3, f4, f5]
  clear f0 f1 f2 f3 f4 f5
  clear eT0 eT1 eU0 eU1 lT lU
  replace hW := hW.trans (hbR.mono hW.size)
  replace bT := bT.keep hbR
  replace bU := bU.keep hbR
  replace hT := Tm.at_keep (Keeps.all hbR) hT
  replace hU := Tm.at_keep (Keeps.all hbR) hU
  clear hbR
  have eT0 := bT.c0
  have eT1 := bT.c1
  have eU0 := bU.c0
  have eU1 := bU.c1
  have lT := bT.lt
  have lU := bU.lt
  by_cases ht : varName t.name = true
  · by_cases hu : varName u.name = true
    · rw [ht, hu]
      have HD : Hid (Tm.cmp t u = orZ (strCmp t.name u.name) (orZ (numCmp t.args.length u.args.length) (Tm.cmps t.args u.args))) := by rw [Hid, HC.out, ht, hu]; rfl
      clear ht hu
      go_wp2_with fail
      have hs0 : 0 ≤ t.args.length := Nat.zero_le _
      refine wp_region_B [fun v _ => v = .pointer (some ⟨w.heap.size, 0, none⟩), fun v _ => v = .string t.name, fun v _ => v = .pointer (some ⟨(w.heap.size + 1), 0, none⟩), fun v _ => v = .string u.name, fun v _ => v = .int .i64 (strCmp t.name u.name), fun v _ => v = .pointer (some ⟨w.heap.size, 1, none⟩), fun v _ => v = .slice a t.args.length cap, fun v _ => v = .int .i64 t.args.length, fun v _ => v = .pointer (some ⟨(w.heap.size + 1), 1, none⟩), fun v _ => v = .slice a' u.args.length cap', fun v _ => v = .int .i64 u.args.length, fun v _ => v = .int .i64 (numCmp t.args.length u.args.length), TwoInts (strCmp t.name u.name) (numCmp t.args.length u.args.length), fun v _ => v = .int .i64 (orZ (strCmp t.name u.name) (numCmp t.args.length u.args.length)), fun v _ => v = .int .i64 (orZ (strCmp t.name u.name) (numCmp t.args.length u.args.length))] _ (fun V => by simp [putAll, Act.put]; rfl) (by kernel_rfl) (by decide) (by simp) (by kernel_rfl) ?_ ?_ ?_
      · intro F hF
        simp only [List.mem_cons, List.not_mem_nil, or_false] at hF
        rcases hF with rfl | rfl | rfl | rfl | rfl | rfl | rfl | rfl | rfl | rfl | rfl | rfl | rfl | rfl | rfl
        · exact stable_eq
        · exact stable_eq
        · exact stable_eq
        · exact stable_eq
        · exact stable_eq
        · exact stable_eq
        · exact stable_eq
        · exact stable_eq
        · exact stable_eq
        · exact stable_eq
        · exact stable_eq
        · exact stable_eq
        · exact TwoInts.stable
        · exact stable_eq
        · exact stable_eq
      · refine ⟨?_, ?_, ?_, ?_, ?_, ?_, ?_, ?_, ?_, ?_, ?_, ?_, ?_, ?_, ?_, trivial⟩
        · intro V w1 hbR _
          unfold Does
          go_simp
          exact ⟨Below.refl _ _, rfl⟩
        · intro V w1 hbR ⟨f0, _⟩
          replace f0 : V 0 = .pointer (some ⟨w.heap.size, 0, none⟩) := f0
          obtain ⟨hc, hf⟩ := bcell hbR
          try simp only [World.size_alloc, World.size_setCell] at hc hf
          unfold Does
          go_simp
          exact ⟨Below.refl _ _, rfl⟩
        · intro V w1 hbR _
          unfold Does
          go_simp
          exact ⟨Below.refl _ _, rfl⟩
        · intro V w1 hbR ⟨f2, _⟩
          replace f2 : V 2 = .pointer (some ⟨(w.heap.size + 1), 0, none⟩) := f2
          obtain ⟨hc, hf⟩ := bcell hbR
          try simp only [World.size_alloc, World.size_setCell] at hc hf
          unfold Does
          go_simp
          exact ⟨Below.refl _ _, rfl⟩
        · intro V w1 hbR ⟨f1, f3, _⟩
          replace f1 : V 1 = .string t.name := f1
          replace f3 : V 3 = .string u.name := f3
          obtain ⟨hc, hf⟩ := bcell hbR
          try simp only [World.size_alloc, World.size_setCell] at hc hf
          unfold Does
          go_simp
          refine (compareString_any _ _ w1).mono ?_; rintro e w4 ⟨rfl, rfl⟩; exact ⟨_, rfl, Below.refl _ _, rfl⟩
        · intro V w1 hbR _
          unfold Does
          go_simp
          exact ⟨Below.refl _ _, rfl⟩
        · intro V w1 hbR ⟨f5, _⟩
          replace f5 : V 5 = .pointer (some ⟨w.heap.size, 1, none⟩) := f5
          obtain ⟨hc, hf⟩ := bcell hbR
          try simp only [World.size_alloc, World.size_setCell] at hc hf
          unfold Does
          go_simp
          exact ⟨Below.refl _ _, rfl⟩
        · intro V w1 hbR ⟨f6, _⟩
          replace f6 : V 6 = .slice a t.args.length cap := f6
          obtain ⟨hc, hf⟩ := bcell hbR
          try simp only [World.size_alloc, World.size_setCell] at hc hf
          unfold Does
          go_simp
          exact ⟨Below.refl _ _, rfl⟩
        · intro V w1 hbR _
          unfold Does
          go_simp
          exact ⟨Below.refl _ _, rfl⟩
        · intro V w1 hbR ⟨f8, _⟩
          replace f8 : V 8 = .pointer (some ⟨(w.heap.size + 1), 1, none⟩) := f8
          obtain ⟨hc, hf⟩ := bcell hbR
          try simp only [World.size_alloc, World.size_setCell] at hc hf
          unfold Does
          go_simp
          exact ⟨Below.refl _ _, rfl⟩
        · intro V w1 hbR ⟨f9, _⟩
          replace f9 : V 9 = .slice a' u.args.length cap' := f9
          obtain ⟨hc, hf⟩ := bcell hbR
          try simp only [World.size_alloc, World.size_setCell] at hc hf
          unfold Does
          go_simp
          exact ⟨Below.refl _ _, rfl⟩
        · intro V w1 hbR ⟨f7, f10, f4, _⟩
          replace f4 : V 4 = .int .i64 (strCmp t.name u.name) := f4
          replace f7 : V 7 = .int .i64 t.args.length := f7
          replace f10 : V 10 = .int .i64 u.args.length := f10
          obtain ⟨hc, hf⟩ := bcell hbR
          try simp only [World.size_alloc, World.size_setCell] at hc hf
          unfold Does
          go_simp
          refine (compareInt_any _ _ w1).mono ?_; rintro e w4 ⟨rfl, rfl⟩; exact ⟨_, rfl, Below.refl _ _, rfl⟩
        · intro V w1 hbR ⟨f4, f11, _⟩
          replace f4 : V 4 = .int .i64 (strCmp t.name u.name) := f4
          replace f11 : V 11 = .int .i64 (numCmp t.args.length u.args.length) := f11
          unfold Does
          go_simp
          exact TwoInts.mk _ _ _ _
        · intro V w1 hbR ⟨f12, f11, _⟩
          replace f11 : V 11 = .int .i64 (numCmp t.args.length u.args.length) := f11
          replace f12 : (TwoInts (strCmp t.name u.name) (numCmp t.args.length u.args.length)) (V 12) w1 := f12
          obtain ⟨hc, hf⟩ := bcell hbR
          try simp only [World.size_alloc, World.size_setCell] at hc hf
          unfold Does
          go_simp
          exact or_any f12
        · intro V w1 hbR ⟨f13, _, f0, f1, f2, f3, f4, f5, f6, f7, f8, f9, f10, f11, f12, _, _⟩
          replace f0 : V 0 = .pointer (some ⟨w.heap.size, 0, none⟩) := f0
          replace f1 : V 1 = .string t.name := f1
          replace f2 : V 2 = .pointer (some ⟨(w.heap.size + 1), 0, none⟩) := f2
          replace f3 : V 3 = .string u.name := f3
          replace f4 : V 4 = .int .i64 (strCmp t.name u.name) := f4
          replace f5 : V 5 = .pointer (some ⟨w.heap.size, 1, none⟩) := f5
          replace f6 : V 6 = .slice a t.args.length cap := f6
          replace f7 : V 7 = .int .i64 t.args.length := f7
          replace f8 : V 8 = .pointer (some ⟨(w.heap.size + 1), 1, none⟩) := f8
          replace f9 : V 9 = .slice a' u.args.length cap' := f9
          replace f10 : V 10 = .int .i64 u.args.length := f10
          replace f11 : V 11 = .int .i64 (numCmp t.args.length u.args.length) := f11
          replace f12 : (TwoInts (strCmp t.name u.name) (numCmp t.args.length u.args.length)) (V 12) w1 := f12
          replace f13 : V 13 = .int .i64 (orZ (strCmp t.name u.name) (numCmp t.args.length u.args.length)) := f13
          unfold Does
          go_simp
          exact ⟨Below.refl _ _, rfl⟩
      intro V w2 hbR hfR
      obtain ⟨f0, f1, f2, f3, f4, f5, f6, f7, f8, f9, f10, f11, f12, f13, f14, _⟩ := hfR
      replace f0 : V 0 = .pointer (some ⟨w.heap.size, 0, none⟩) := f0
      replace f1 : V 1 = .string t.name := f1
      replace f2 : V 2 = .pointer (some ⟨(w.heap.size + 1), 0, none⟩) := f2
      replace f3 : V 3 = .string u.name := f3
      replace f4 : V 4 = .int .i64 (strCmp t.name u.name) := f4
      replace f5 : V 5 = .pointer (some ⟨w.heap.size, 1, none⟩) := f5
      replace f6 : V 6 = .slice a t.args.length cap := f6
      replace f7 : V 7 = .int .i64 t.args.length := f7
      replace f8 : V 8 = .pointer (some ⟨(w.heap.size + 1), 1, none⟩) := f8
      replace f9 : V 9 = .slice a' u.args.length cap' := f9
      replace f10 : V 10 = .int .i64 u.args.length := f10
      replace f11 : V 11 = .int .i64 (numCmp t.args.length u.args.length) := f11
      replace f12 : (TwoInts (strCmp t.name u.name) (numCmp t.args.length u.args.length)) (V 12) w2 := f12
      replace f13 : V 13 = .int .i64 (orZ (strCmp t.name u.name) (numCmp t.args.length u.args.length)) := f13
      replace f14 : V 14 = .int .i64 (orZ (strCmp t.name u.name) (numCmp t.args.length u.args.length)) := f14
      simp only [f0, f1, f2, f3, f4, f5, f6, f7, f8, f9, f10, f11, f13, f14]
      clear f0 f1 f2 f3 f4 f5 f6 f7 f8 f9 f10 f11 f13 f14
      clear eT0 eT1 eU0 eU1 lT lU
      replace hW := hW.trans (hbR.mono hW.size)
      replace bT := bT.keep hbR
      replace bU := bU.keep hbR
      replace hT := Tm.at_keep (Keeps.all hbR) hT
      replace hU := Tm.at_keep (Keeps.all hbR) hU
      clear hbR
      have eT0 := bT.c0
      have eT1 := bT.c1
      have eU0 := bU.c0
      have eU1 := bU.c1
      have lT := bT.lt
      have lU := bU.lt
      by_cases ho : orZ (strCmp t.name u.name) (numCmp t.args.length u.args.length) = 0
      · have HX : Hid (Tm.cmp t u = Tm.cmps t.args u.args) := by rw [Hid, HD.out, ← orZ_assoc, ho, orZ, if_pos rfl]
        have hll : t.args.length = u.args.length := orZ_len ho
        have HL := hid hll
        rw [ho]
        clear ho hll
        go_wp2_with fail
        clear eT0 eT1 eU0 eU1 lT lU
        refine (compareFuncT 64 callableC t.args u.args HL.out h ((Tm.nice_iff t).1 HNT.out).2.2 ((Tm.nice_iff u).1 HNU.out).2.2 hT.2 hU.2).mono ?_
        rintro e w5 ⟨_, rfl, hb, rfl⟩
        go_wp2_with fail
        go_ret
        exact Gives.mk (ret_i64 HX.out.symm) (hW.trans (hb.mono hW.size))
      · have HX : Hid (Tm.cmp t u = orZ (strCmp t.name u.name) (numCmp t.args.length u.args.length)) := by rw [Hid, HD.out, ← orZ_assoc, orZ, if_neg ho]
        have ho' : (orZ (strCmp t.name u.name) (numCmp t.args.length u.args.length) == 0) = false := by simp [ho]
        have ho2 : (orZ (strCmp t.name u.name) (numCmp t.args.length u.args.length) != 0) = true := by simp [ho]
        clear ho
        go_wp2_with fail
        go_ret
        exact Gives.mk (ret_i64 HX.out.symm) hW
    · replace hu : varName u.name = false := by simpa using hu
      have HX : Hid (Tm.cmp t u = -1) := by rw [Hid, HC.out, ht, hu]; rfl
      rw [ht, hu]
      clear ht hu
      go_wp2_with fail
      go_ret
      exact Gives.mk (ret_i64 HX.out.symm) hW
  · replace ht : varName t.name = false := by simpa using ht
    by_cases hu : varName u.name = true
    · have HX : Hid (Tm.cmp t u = 1) := by rw [Hid, HC.out, ht, hu]; rfl
      rw [ht, hu]
      clear ht hu
      go_wp2_with fail
      go_ret
      exact Gives.mk (ret_i64 HX.out.symm) hW
    · replace hu : varName u.name = false := by simpa using hu
      have HD : Hid (Tm.cmp t u = orZ (strCmp t.name u.name) (orZ (numCmp t.args.length u.args.length) (Tm.cmps t.args u.args))) := by rw [Hid, HC.out, ht, hu]; rfl
      rw [ht, hu]
      clear ht hu
      go_wp2_with fail
      have hs0 : 0 ≤ t.args.length := Nat.zero_le _
      refine wp_region_B [fun v _ => v = .pointer (some ⟨w.heap.size, 0, none⟩), fun v _ => v = .string t.name, fun v _ => v = .pointer (some ⟨(w.heap.size + 1), 0, none⟩), fun v _ => v = .string u.name, fun v _ => v = .int .i64 (strCmp t.name u.name), fun v _ => v = .pointer (some ⟨w.heap.size, 1, none⟩), fun v _ => v = .slice a t.args.length cap, fun v _ => v = .int .i64 t.args.length, fun v _ => v = .pointer (some ⟨(w.heap.size + 1), 1, none⟩), fun v _ => v = .slice a' u.args.length cap', fun v _ => v = .int .i64 u.args.length, fun v _ => v = .int .i64 (numCmp t.args.length u.args.length), TwoInts (strCmp t.name u.name) (numCmp t.args.length u.args.length), fun v _ => v = .int .i64 (orZ (strCmp t.name u.name) (numCmp t.args.length u.args.length)), fun v _ => v = .int .i64 (orZ (strCmp t.name u.name) (numCmp t.args.length u.args.length))] _ (fun V => by simp [putAll, Act.put]; rfl) (by kernel_rfl) (by decide) (by simp) (by kernel_rfl) ?_ ?_ ?_
      · intro F hF
        simp only [List.mem_cons, List.not_mem_nil, or_false] at hF
        rcases hF with rfl | rfl | rfl | rfl | rfl | rfl | rfl | rfl | rfl | rfl | rfl | rfl | rfl | rfl | rfl
        · exact stable_eq
        · exact stable_eq
        · exact stable_eq
        · exact stable_eq
        · exact stable_eq
        · exact stable_eq
        · exact stable_eq
        · exact stable_eq
        · exact stable_eq
        · exact stable_eq
        · exact stable_eq
        · exact stable_eq
        · exact TwoInts.stable
        · exact stable_eq
        · exact stable_eq
      · refine ⟨?_, ?_, ?_, ?_, ?_, ?_, ?_, ?_, ?_, ?_, ?_, ?_, ?_, ?_, ?_, trivial⟩
        · intro V w1 hbR _
          unfold Does
          go_simp
          exact ⟨Below.refl _ _, rfl⟩
        · intro V w1 hbR ⟨f0, _⟩
          replace f0 : V 0 = .pointer (some ⟨w.heap.size, 0, none⟩) := f0
          obtain ⟨hc, hf⟩ := bcell hbR
          try simp only [World.size_alloc, World.size_setCell] at hc hf
          unfold Does
          go_simp
          exact ⟨Below.refl _ _, rfl⟩
        · intro V w1 hbR _
          unfold Does
          go_simp
          exact ⟨Below.refl _ _, rfl⟩
        · intro V w1 hbR ⟨f2, _⟩
          replace f2 : V 2 = .pointer (some ⟨(w.heap.size + 1), 0, none⟩) := f2
          obtain ⟨hc, hf⟩ := bcell hbR
          try simp only [World.size_alloc, World.size_setCell] at hc hf
          unfold Does
          go_simp
          exact ⟨Below.refl _ _, rfl⟩
        · intro V w1 hbR ⟨f1, f3, _⟩
          replace f1 : V 1 = .string t.name := f1
          replace f3 : V 3 = .string u.name := f3
          obtain ⟨hc, hf⟩ := bcell hbR
          try simp only [World.size_alloc, World.size_setCell] at hc hf
          unfold Does
          go_simp
          refine (compareString_any _ _ w1).mono ?_; rintro e w4 ⟨rfl, rfl⟩; exact ⟨_, rfl, Below.refl _ _, rfl⟩
        · intro V w1 hbR _
          unfold Does
          go_simp
          exact ⟨Below.refl _ _, rfl⟩
        · intro V w1 hbR ⟨f5, _⟩
          replace f5 : V 5 = .pointer (some ⟨w.heap.size, 1, none⟩) := f5
          obtain ⟨hc, hf⟩ := bcell hbR
          try simp only [World.size_alloc, World.size_setCell] at hc hf
          unfold Does
          go_simp
          exact ⟨Below.refl _ _, rfl⟩
        · intro V w1 hbR ⟨f6, _⟩
          replace f6 : V 6 = .slice a t.args.length cap := f6
          obtain ⟨hc, hf⟩ := bcell hbR
          try simp only [World.size_alloc, World.size_setCell] at hc hf
          unfold Does
          go_simp
          exact ⟨Below.refl _ _, rfl⟩
        · intro V w1 hbR _
          unfold Does
          go_simp
          exact ⟨Below.refl _ _, rfl⟩
        · intro V w1 hbR ⟨f8, _⟩
          replace f8 : V 8 = .pointer (some ⟨(w.heap.size + 1), 1, none⟩) := f8
          obtain ⟨hc, hf⟩ := bcell hbR
          try simp only [World.size_alloc, World.size_setCell] at hc hf
          unfold Does
          go_simp
          exact ⟨Below.refl _ _, rfl⟩
        · intro V w1 hbR ⟨f9, _⟩
          replace f9 : V 9 = .slice a' u.args.length cap' := f9
          obtain ⟨hc, hf⟩ := bcell hbR
          try simp only [World.size_alloc, World.size_setCell] at hc hf
          unfold Does
          go_simp
          exact ⟨Below.refl _ _, rfl⟩
        · intro V w1 hbR ⟨f7, f10, f4, _⟩
          replace f4 : V 4 = .int .i64 (strCmp t.name u.name) := f4
          replace f7 : V 7 = .int .i64 t.args.length := f7
          replace f10 : V 10 = .int .i64 u.args.length := f10
          obtain ⟨hc, hf⟩ := bcell hbR
          try simp only [World.size_alloc, World.size_setCell] at hc hf
          unfold Does
          go_simp
          refine (compareInt_any _ _ w1).mono ?_; rintro e w4 ⟨rfl, rfl⟩; exact ⟨_, rfl, Below.refl _ _, rfl⟩
        · intro V w1 hbR ⟨f4, f11, _⟩
          replace f4 : V 4 = .int .i64 (strCmp t.name u.name) := f4
          replace f11 : V 11 = .int .i64 (numCmp t.args.length u.args.length) := f11
          unfold Does
          go_simp
          exact TwoInts.mk _ _ _ _
        · intro V w1 hbR ⟨f12, f11, _⟩
          replace f11 : V 11 = .int .i64 (numCmp t.args.length u.args.length) := f11
          replace f12 : (TwoInts (strCmp t.name u.name) (numCmp t.args.length u.args.length)) (V 12) w1 := f12
          obtain ⟨hc, hf⟩ := bcell hbR
          try simp only [World.size_alloc, World.size_setCell] at hc hf
          unfold Does
          go_simp
          exact or_any f12
        · intro V w1 hbR ⟨f13, _, f0, f1, f2, f3, f4, f5, f6, f7, f8, f9, f10, f11, f12, _, _⟩
          replace f0 : V 0 = .pointer (some ⟨w.heap.size, 0, none⟩) := f0
          replace f1 : V 1 = .string t.name := f1
          replace f2 : V 2 = .pointer (some ⟨(w.heap.size + 1), 0, none⟩) := f2
          replace f3 : V 3 = .string u.name := f3
          replace f4 : V 4 = .int .i64 (strCmp t.name u.name) := f4
          replace f5 : V 5 = .pointer (some ⟨w.heap.size, 1, none⟩) := f5
          replace f6 : V 6 = .slice a t.args.length cap := f6
          replace f7 : V 7 = .int .i64 t.args.length := f7
          replace f8 : V 8 = .pointer (some ⟨(w.heap.size + 1), 1, none⟩) := f8
          replace f9 : V 9 = .slice a' u.args.length cap' := f9
          replace f10 : V 10 = .int .i64 u.args.length := f10
          replace f11 : V 11 = .int .i64 (numCmp t.args.length u.args.length) := f11
          replace f12 : (TwoInts (strCmp t.name u.name) (numCmp t.args.length u.args.length)) (V 12) w1 := f12
          replace f13 : V 13 = .int .i64 (orZ (strCmp t.name u.name) (numCmp t.args.length u.args.length)) := f13
          unfold Does
          go_simp
          exact ⟨Below.refl _ _, rfl⟩
      intro V w2 hbR hfR
      obtain ⟨f0, f1, f2, f3, f4, f5, f6, f7, f8, f9, f10, f11, f12, f13, f14, _⟩ := hfR
      replace f0 : V 0 = .pointer (some ⟨w.heap.size, 0, none⟩) := f0
      replace f1 : V 1 = .string t.name := f1
      replace f2 : V 2 = .pointer (some ⟨(w.heap.size + 1), 0, none⟩) := f2
      replace f3 : V 3 = .string u.name := f3
      replace f4 : V 4 = .int .i64 (strCmp t.name u.name) := f4
      replace f5 : V 5 = .pointer (some ⟨w.heap.size, 1, none⟩) := f5
      replace f6 : V 6 = .slice a t.args.length cap := f6
      replace f7 : V 7 = .int .i64 t.args.length := f7
      replace f8 : V 8 = .pointer (some ⟨(w.heap.size + 1), 1, none⟩) := f8
      replace f9 : V 9 = .slice a' u.args.length cap' := f9
      replace f10 : V 10 = .int .i64 u.args.length := f10
      replace f11 : V 11 = .int .i64 (numCmp t.args.length u.args.length) := f11
      replace f12 : (TwoInts (strCmp t.name u.name) (numCmp t.args.length u.args.length)) (V 12) w2 := f12
      replace f13 : V 13 = .int .i64 (orZ (strCmp t.name u.name) (numCmp t.args.length u.args.length)) := f13
      replace f14 : V 14 = .int .i64 (orZ (strCmp t.name u.name) (numCmp t.args.length u.args.length)) := f14
      simp only [f0, f1, f2, f3, f4, f5, f6, f7, f8, f9, f10, f11, f13, f14]
      clear f0 f1 f2 f3 f4 f5 f6 f7 f8 f9 f10 f11 f13 f14
      clear eT0 eT1 eU0 eU1 lT lU
      replace hW := hW.trans (hbR.mono hW.size)
      replace bT := bT.keep hbR
      replace bU := bU.keep hbR
      replace hT := Tm.at_keep (Keeps.all hbR) hT
      replace hU := Tm.at_keep (Keeps.all hbR) hU
      clear hbR
      have eT0 := bT.c0
      have eT1 := bT.c1
      have eU0 := bU.c0
      have eU1 := bU.c1
      have lT := bT.lt
      have lU := bU.lt
      by_cases ho : orZ (strCmp t.name u.name) (numCmp t.args.length u.args.length) = 0
      · have HX : Hid (Tm.cmp t u = Tm.cmps t.args u.args) := by rw [Hid, HD.out, ← orZ_assoc, ho, orZ, if_pos rfl]
        have hll : t.args.length = u.args.length := orZ_len ho
        have HL := hid hll
        rw [ho]
        clear ho hll
        go_wp2_with fail
        clear eT0 eT1 eU0 eU1 lT lU
        refine (compareFuncT 64 callableC t.args u.args HL.out h ((Tm.nice_iff t).1 HNT.out).2.2 ((Tm.nice_iff u).1 HNU.out).2.2 hT.2 hU.2).mono ?_
        rintro e w5 ⟨_, rfl, hb, rfl⟩
        go_wp2_with fail
        go_ret
        exact Gives.mk (ret_i64 HX.out.symm) (hW.trans (hb.mono hW.size))
      · have HX : Hid (Tm.cmp t u = orZ (strCmp t.name u.name) (numCmp t.args.length u.args.length)) := by rw [Hid, HD.out, ← orZ_assoc, orZ, if_neg ho]
        have ho' : (orZ (strCmp t.name u.name) (numCmp t.args.length u.args.length) == 0) = false := by simp [ho]
        have ho2 : (orZ (strCmp t.name u.name) (numCmp t.args.length u.args.length) != 0) = true := by simp [ho]
        clear ho
        go_wp2_with fail
        go_ret
        exact Gives.mk (ret_i64 HX.out.symm) hW
theorem compareTerms_any (t : Tm) : CmpsN 64 t := Tm.ind (P := CmpsN 64) (fun n ts h => compareTerms_of (.node n ts) h) t

/-- CompareTerms -/
def Tm.compareR (t u : Tm) : Int := if t.expr && u.expr then Tm.cmp t u else 0
end Go.Proofs.YtooocakkjdhfiaaGreatDoor
/- Is a literal valid? -/
namespace Go.Proofs.YtooocakkjdhfiaaGreatDoor
set_option maxRecDepth 100000
open Go.RowKit

set_option maxHeartbeats 1000000 in
theorem impl_IsValidLiteral {t : Lit} {S : Nat → Prop} {c0 c1 c2 : Value} {w : World} (hT : Lit.at S w c0 c1 c2 t) (hbk : t.bulk ≤ 1048576) : Calls Tryz.prog 43 #[.agg #[c0, c1, c2]] w (Gives w (.bool t.atom.atom)) := by
  obtain ⟨rfl, rfl, a, cap, rfl⟩ := Lit.at_form hT
  have hW : Below w.heap.size w (w.alloc (.cells #[.bool t.pos, .string t.atom.name, .slice a t.atom.args.length cap] 52)) := (Below.refl _ _).alloc (Nat.le_refl _) _
  have bT : Box (w.alloc (.cells #[.bool t.pos, .string t.atom.name, .slice a t.atom.args.length cap] 52)) w.heap.size [.bool t.pos, .string t.atom.name, .slice a t.atom.args.length cap] := Box.new w _ _
  replace hT := Lit.at_keep (Keeps.all hW) hT
  go_enter Tryz.func43, Tryz.ntmps43
  go_wp2_with fail
  generalize (w.alloc (.cells #[.bool t.pos, .string t.atom.name, .slice a t.atom.args.length cap] 52)) = w0 at *
  refine (isValidAtom_any t.atom (Lit.at_atom hT) hbk).mono ?_
  rintro e w1 ⟨_, rfl, hb, rfl⟩
  replace hW := hW.trans (hb.mono hW.size)
  replace bT := bT.keep hb
  replace hT := Lit.at_keep (Keeps.all hb) hT
  clear hb
  have eT0 := bT.c0
  have eT1 := bT.c1
  have eT2 := bT.c2
  have lT := bT.lt
  go_wp2_with fail
  clear eT0 eT1 eT2 lT
  go_ret
  exact Gives.mk rfl hW
end Go.Proofs.YtooocakkjdhfiaaGreatDoor
/- CompareLiterals. -/
namespace Go.Proofs.YtooocakkjdhfiaaGreatDoor
set_option maxRecDepth 100000
open Go.RowKit

def flagI (b : Bool) : Int := if b then 1 else 0
def Lit.cmp (x y : Lit) : Int := orZ (Tm.cmp x.atom y.atom) (numCmp (flagI x.pos) (flagI y.pos))
def Lit.compareR (x y : Lit) : Int := if x.atom.atom && y.atom.atom then Lit.cmp x y else 0
theorem Tm.atom_expr {t : Tm} (h : t.atom = true) : t.expr = true := by rw [Tm.expr, h]; simp

theorem flag_any (b : Bool) (w : World) : Calls Tryz.prog 66 #[.bool b] w fun e w' => e = .returned (.int .i64 (flagI b)) ∧ w = w' := by
  cases b
  all_goals
    go_enter Tryz.func66, Tryz.ntmps66
    go_wp2
    go_ret
    exact ⟨rfl, rfl⟩

set_option maxHeartbeats 2000000 in
theorem l7Literals_any {t u : Lit} {S : Nat → Prop} {c0 c1 c2 d0 d1 d2 : Value} {w : World} (hT : Lit.at S w c0 c1 c2 t) (hU : Lit.at S w d0 d1 d2 u) : Calls Tryz.prog 30 #[.agg #[c0, c1, c2], .agg #[d0, d1, d2]] w (Gives w (.int .i64 (Lit.cmp t u))) := by
  obtain ⟨rfl, rfl, a, cap, rfl⟩ := Lit.at_form hT
  obtain ⟨rfl, rfl, a', cap', rfl⟩ := Lit.at_form hU
  have hW : Below w.heap.size w ((w.alloc (.cells #[.bool t.pos, .string t.atom.name, .slice a t.atom.args.length cap] 52)).alloc (.cells #[.bool u.pos, .string u.atom.name, .slice a' u.atom.args.length cap'] 52)) := ((Below.refl _ _).alloc (Nat.le_refl _) _).alloc (by simp) _
  have bT : Box ((w.alloc (.cells #[.bool t.pos, .string t.atom.name, .slice a t.atom.args.length cap] 52)).alloc (.cells #[.bool u.pos, .string u.atom.name, .slice a' u.atom.args.length cap'] 52)) w.heap.size [.bool t.pos, .string t.atom.name, .slice a t.atom.args.length cap] := (Box.new w _ _).alloc _
  have bU : Box ((w.alloc (.cells #[.bool t.pos, .string t.atom.name, .slice a t.atom.args.length cap] 52)).alloc (.cells #[.bool u.pos, .string u.atom.name, .slice a' u.atom.args.length cap'] 52)) (w.heap.size + 1) [.bool u.pos, .string u.atom.name, .slice a' u.atom.args.length cap'] := by
    have := Box.new (w.alloc (.cells #[.bool t.pos, .string t.atom.name, .slice a t.atom.args.length cap] 52)) [.bool u.pos, .string u.atom.name, .slice a' u.atom.args.length cap'] 52
    simpa only [World.size_alloc] using this
  replace hT := Lit.at_keep (Keeps.all hW) hT
  replace hU := Lit.at_keep (Keeps.all hW) hU
  go_enter Tryz.func30, Tryz.ntmps30
  go_wp2_with fail
  generalize ((w.alloc (.cells #[.bool t.pos, .string t.atom.name, .slice a t.atom.args.length cap] 52)).alloc (.cells #[.bool u.pos, .string u.atom.name, .slice a' u.atom.args.length cap'] 52)) = w0 at *
  refine (l2Compare_any t.atom (Lit.at_atom hT) (Lit.at_atom hU)).mono ?_
  rintro e w1 ⟨_, rfl, hb, rfl⟩
  replace hW := hW.trans (hb.mono hW.size)
  replace bT := bT.keep hb
  replace bU := bU.keep hb
  replace hT := Lit.at_keep (Keeps.all hb) hT
  replace hU := Lit.at_keep (Keeps.all hb) hU
  clear hb
  have eT0 := bT.c0
  have eT1 := bT.c1
  have eT2 := bT.c2
  have eU0 := bU.c0
  have eU1 := bU.c1
  have eU2 := bU.c2
  have lT := bT.lt
  have lU := bU.lt
  by_cases hc : Tm.cmp t.atom u.atom = 0
  · have HX : Hid (Lit.cmp t u = numCmp (flagI t.pos) (flagI u.pos)) := by rw [Hid, Lit.cmp, hc, orZ, if_pos rfl]
    rw [hc]
    clear hc
    by_cases hp : t.pos = true
    · by_cases hq : u.pos = true
      · skip
        have HZ : Hid (Lit.cmp t u = 0) := by rw [Hid, HX.out, hp, hq]; rfl
        go_wp2_with fail
        go_ret
        exact Gives.mk (ret_i64 HZ.out.symm) hW
      · replace hq : u.pos = false := by simpa using hq
        have HZ : Hid (Lit.cmp t u = 1) := by rw [Hid, HX.out, hp, hq]; rfl
        go_wp2_with fail
        go_ret
        exact Gives.mk (ret_i64 HZ.out.symm) hW
    · replace hp : t.pos = false := by simpa using hp
      by_cases hq : u.pos = true
      · skip
        have HZ : Hid (Lit.cmp t u = -1) := by rw [Hid, HX.out, hp, hq]; rfl
        go_wp2_with fail
        go_ret
        exact Gives.mk (ret_i64 HZ.out.symm) hW
      · replace hq : u.pos = false := by simpa using hq
        have HZ : Hid (Lit.cmp t u = 0) := by rw [Hid, HX.out, hp, hq]; rfl
        go_wp2_with fail
        go_ret
        exact Gives.mk (ret_i64 HZ.out.symm) hW
  · have HX : Hid (Lit.cmp t u = Tm.cmp t.atom u.atom) := by rw [Hid, Lit.cmp, orZ, if_neg hc]
    have hc1 : (Tm.cmp t.atom u.atom == 0) = false := by simp [hc]
    have hc2 : (Tm.cmp t.atom u.atom != 0) = true := by simp [hc]
    clear hc
    go_wp2_with fail
    go_ret
    exact Gives.mk (ret_i64 HX.out.symm) hW

set_option maxHeartbeats 2000000 in
theorem compareLiterals_nice {t u : Lit} (ht : t.atom.nice = true) (hu : u.atom.nice = true) {S : Nat → Prop} {c0 c1 c2 d0 d1 d2 : Value} {w : World} (hT : Lit.at S w c0 c1 c2 t) (hU : Lit.at S w d0 d1 d2 u) : Calls Tryz.prog 44 #[.agg #[c0, c1, c2], .agg #[d0, d1, d2]] w (Gives w (.int .i64 (Lit.cmp t u))) := by
  have HT := hid ht
  have HU := hid hu
  clear ht hu
  obtain ⟨rfl, rfl, a, cap, rfl⟩ := Lit.at_form hT
  obtain ⟨rfl, rfl, a', cap', rfl⟩ := Lit.at_form hU
  have hW : Below w.heap.size w ((w.alloc (.cells #[.bool t.pos, .string t.atom.name, .slice a t.atom.args.length cap] 52)).alloc (.cells #[.bool u.pos, .string u.atom.name, .slice a' u.atom.args.length cap'] 52)) := ((Below.refl _ _).alloc (Nat.le_refl _) _).alloc (by simp) _
  have bT : Box ((w.alloc (.cells #[.bool t.pos, .string t.atom.name, .slice a t.atom.args.length cap] 52)).alloc (.cells #[.bool u.pos, .string u.atom.name, .slice a' u.atom.args.length cap'] 52)) w.heap.size [.bool t.pos, .string t.atom.name, .slice a t.atom.args.length cap] := (Box.new w _ _).alloc _
  have bU : Box ((w.alloc (.cells #[.bool t.pos, .string t.atom.name, .slice a t.atom.args.length cap] 52)).alloc (.cells #[.bool u.pos, .string u.atom.name, .slice a' u.atom.args.length cap'] 52)) (w.heap.size + 1) [.bool u.pos, .string u.atom.name, .slice a' u.atom.args.length cap'] := by
    have := Box.new (w.alloc (.cells #[.bool t.pos, .string t.atom.name, .slice a t.atom.args.length cap] 52)) [.bool u.pos, .string u.atom.name, .slice a' u.atom.args.length cap'] 52
    simpa only [World.size_alloc] using this
  replace hT := Lit.at_keep (Keeps.all hW) hT
  replace hU := Lit.at_keep (Keeps.all hW) hU
  go_enter Tryz.func44, Tryz.ntmps44
  go_wp2_with fail
  generalize ((w.alloc (.cells #[.bool t.pos, .string t.atom.name, .slice a t.atom.args.length cap] 52)).alloc (.cells #[.bool u.pos, .string u.atom.name, .slice a' u.atom.args.length cap'] 52)) = w0 at *
  have eT0 := bT.c0
  have eT1 := bT.c1
  have eT2 := bT.c2
  have eU0 := bU.c0
  have eU1 := bU.c1
  have eU2 := bU.c2
  have lT := bT.lt
  have lU := bU.lt
  refine wp_region_B [fun v _ => v = .pointer (some ⟨w.heap.size, 1, none⟩), fun v _ => v = .agg #[.string t.atom.name, .slice a t.atom.args.length cap], fun v _ => v = .pointer (some ⟨(w.heap.size + 1), 1, none⟩), fun v _ => v = .agg #[.string u.atom.name, .slice a' u.atom.args.length cap'], fun v _ => v = .int .i64 (Tm.cmp t.atom u.atom), fun v _ => v = .pointer (some ⟨w.heap.size, 0, none⟩), fun v _ => v = .bool t.pos, fun v _ => v = .int .i64 (flagI t.pos), fun v _ => v = .pointer (some ⟨(w.heap.size + 1), 0, none⟩), fun v _ => v = .bool u.pos, fun v _ => v = .int .i64 (flagI u.pos), fun v _ => v = .int .i64 (numCmp (flagI t.pos) (flagI u.pos)), TwoInts (Tm.cmp t.atom u.atom) (numCmp (flagI t.pos) (flagI u.pos)), fun v _ => v = .int .i64 (Lit.cmp t u), fun v _ => v = .int .i64 (Lit.cmp t u)] _ (fun V => by simp [putAll, Act.put]; rfl) (by kernel_rfl) (by decide) (by simp) (by kernel_rfl) ?_ ?_ ?_
  · intro F hF
    simp only [List.mem_cons, List.not_mem_nil, or_false] at hF
    rcases hF with rfl | rfl | rfl | rfl | rfl | rfl | rfl | rfl | rfl | rfl | rfl | rfl | rfl | rfl | rfl
    · exact stable_eq
    · exact stable_eq
    · exact stable_eq
    · exact stable_eq
    · exact stable_eq
    · exact stable_eq
    · exact stable_eq
    · exact stable_eq
    · exact stable_eq
    · exact stable_eq
    · exact stable_eq
    · exact stable_eq
    · exact TwoInts.stable
    · exact stable_eq
    · exact stable_eq
  · refine ⟨?_, ?_, ?_, ?_, ?_, ?_, ?_, ?_, ?_, ?_, ?_, ?_, ?_, ?_, ?_, trivial⟩
    · intro V w1 hbR _
      unfold Does
      go_simp
      exact ⟨Below.refl _ _, rfl⟩
    · intro V w1 hbR ⟨f0, _⟩
      replace f0 : V 0 = .pointer (some ⟨w.heap.size, 1, none⟩) := f0
      obtain ⟨hc, hf⟩ := bcell hbR
      try simp only [World.size_alloc, World.size_setCell] at hc hf
      unfold Does
      go_simp
      exact ⟨Below.refl _ _, rfl⟩
    · intro V w1 hbR _
      unfold Does
      go_simp
      exact ⟨Below.refl _ _, rfl⟩
    · intro V w1 hbR ⟨f2, _⟩
      replace f2 : V 2 = .pointer (some ⟨(w.heap.size + 1), 1, none⟩) := f2
      obtain ⟨hc, hf⟩ := bcell hbR
      try simp only [World.size_alloc, World.size_setCell] at hc hf
      unfold Does
      go_simp
      exact ⟨Below.refl _ _, rfl⟩
    · intro V w1 hbR ⟨f1, f3, _⟩
      replace f1 : V 1 = .agg #[.string t.atom.name, .slice a t.atom.args.length cap] := f1
      replace f3 : V 3 = .agg #[.string u.atom.name, .slice a' u.atom.args.length cap'] := f3
      obtain ⟨hc, hf⟩ := bcell hbR
      try simp only [World.size_alloc, World.size_setCell] at hc hf
      unfold Does
      go_simp
      exact compareTerms_any t.atom HT.out HU.out (Tm.at_keep (Keeps.all hbR) (Lit.at_atom hT)) (Tm.at_keep (Keeps.all hbR) (Lit.at_atom hU))
    · intro V w1 hbR _
      unfold Does
      go_simp
      exact ⟨Below.refl _ _, rfl⟩
    · intro V w1 hbR ⟨f5, _⟩
      replace f5 : V 5 = .pointer (some ⟨w.heap.size, 0, none⟩) := f5
      obtain ⟨hc, hf⟩ := bcell hbR
      try simp only [World.size_alloc, World.size_setCell] at hc hf
      unfold Does
      go_simp
      exact ⟨Below.refl _ _, rfl⟩
    · intro V w1 hbR ⟨f6, f4, _⟩
      replace f4 : V 4 = .int .i64 (Tm.cmp t.atom u.atom) := f4
      replace f6 : V 6 = .bool t.pos := f6
      obtain ⟨hc, hf⟩ := bcell hbR
      try simp only [World.size_alloc, World.size_setCell] at hc hf
      unfold Does
      go_simp
      refine (flag_any _ w1).mono ?_; rintro e w4 ⟨rfl, rfl⟩; exact ⟨_, rfl, Below.refl _ _, rfl⟩
    · intro V w1 hbR _
      unfold Does
      go_simp
      exact ⟨Below.refl _ _, rfl⟩
    · intro V w1 hbR ⟨f8, _⟩
      replace f8 : V 8 = .pointer (some ⟨(w.heap.size + 1), 0, none⟩) := f8
      obtain ⟨hc, hf⟩ := bcell hbR
      try simp only [World.size_alloc, World.size_setCell] at hc hf
      unfold Does
      go_simp
      exact ⟨Below.refl _ _, rfl⟩
    · intro V w1 hbR ⟨f9, f7, _⟩
      replace f7 : V 7 = .int .i64 (flagI t.pos) := f7
      replace f9 : V 9 = .bool u.pos := f9
      obtain ⟨hc, hf⟩ := bcell hbR
      try simp only [World.size_alloc, World.size_setCell] at hc hf
      unfold Does
      go_simp
      refine (flag_any _ w1).mono ?_; rintro e w4 ⟨rfl, rfl⟩; exact ⟨_, rfl, Below.refl _ _, rfl⟩
    · intro V w1 hbR ⟨f7, f10, _, _⟩
      replace f7 : V 7 = .int .i64 (flagI t.pos) := f7
      replace f10 : V 10 = .int .i64 (flagI u.pos) := f10
      obtain ⟨hc, hf⟩ := bcell hbR
      try simp only [World.size_alloc, World.size_setCell] at hc hf
      unfold Does
      go_simp
      refine (compareInt_any _ _ w1).mono ?_; rintro e w4 ⟨rfl, rfl⟩; exact ⟨_, rfl, Below.refl _ _, rfl⟩
    · intro V w1 hbR ⟨f4, f11, _⟩
      replace f4 : V 4 = .int .i64 (Tm.cmp t.atom u.atom) := f4
      replace f11 : V 11 = .int .i64 (numCmp (flagI t.pos) (flagI u.pos)) := f11
      unfold Does
      go_simp
      exact TwoInts.mk _ _ _ _
    · intro V w1 hbR ⟨f12, f11, _⟩
      replace f11 : V 11 = .int .i64 (numCmp (flagI t.pos) (flagI u.pos)) := f11
      replace f12 : (TwoInts (Tm.cmp t.atom u.atom) (numCmp (flagI t.pos) (flagI u.pos))) (V 12) w1 := f12
      obtain ⟨hc, hf⟩ := bcell hbR
      try simp only [World.size_alloc, World.size_setCell] at hc hf
      unfold Does
      go_simp
      exact or_any f12
    · intro V w1 hbR ⟨f13, _, f0, f1, f2, f3, f4, f5, f6, f7, f8, f9, f10, f11, f12, _, _⟩
      replace f0 : V 0 = .pointer (some ⟨w.heap.size, 1, none⟩) := f0
      replace f1 : V 1 = .agg #[.string t.atom.name, .slice a t.atom.args.length cap] := f1
      replace f2 : V 2 = .pointer (some ⟨(w.heap.size + 1), 1, none⟩) := f2
      replace f3 : V 3 = .agg #[.string u.atom.name, .slice a' u.atom.args.length cap'] := f3
      replace f4 : V 4 = .int .i64 (Tm.cmp t.atom u.atom) := f4
      replace f5 : V 5 = .pointer (some ⟨w.heap.size, 0, none⟩) := f5
      replace f6 : V 6 = .bool t.pos := f6
      replace f7 : V 7 = .int .i64 (flagI t.pos) := f7
      replace f8 : V 8 = .pointer (some ⟨(w.heap.size + 1), 0, none⟩) := f8
      replace f9 : V 9 = .bool u.pos := f9
      replace f10 : V 10 = .int .i64 (flagI u.pos) := f10
      replace f11 : V 11 = .int .i64 (numCmp (flagI t.pos) (flagI u.pos)) := f11
      replace f12 : (TwoInts (Tm.cmp t.atom u.atom) (numCmp (flagI t.pos) (flagI u.pos))) (V 12) w1 := f12
      replace f13 : V 13 = .int .i64 (Lit.cmp t u) := f13
      unfold Does
      go_simp
      exact ⟨Below.refl _ _, rfl⟩
  intro V w1 hbR hfR
  obtain ⟨f0, f1, f2, f3, f4, f5, f6, f7, f8, f9, f10, f11, f12, f13, f14, _⟩ := hfR
  replace f0 : V 0 = .pointer (some ⟨w.heap.size, 1, none⟩) := f0
  replace f1 : V 1 = .agg #[.string t.atom.name, .slice a t.atom.args.length cap] := f1
  replace f2 : V 2 = .pointer (some ⟨(w.heap.size + 1), 1, none⟩) := f2
  replace f3 : V 3 = .agg #[.string u.atom.name, .slice a' u.atom.args.length cap'] := f3
  replace f4 : V 4 = .int .i64 (Tm.cmp t.atom u.atom) := f4
  replace f5 : V 5 = .pointer (some ⟨w.heap.size, 0, none⟩) := f5
  replace f6 : V 6 = .bool t.pos := f6
  replace f7 : V 7 = .int .i64 (flagI t.pos) := f7
  replace f8 : V 8 = .pointer (some ⟨(w.heap.size + 1), 0, none⟩) := f8
  replace f9 : V 9 = .bool u.pos := f9
  replace f10 : V 10 = .int .i64 (flagI u.pos) := f10
  replace f11 : V 11 = .int .i64 (numCmp (flagI t.pos) (flagI u.pos)) := f11
  replace f12 : (TwoInts (Tm.cmp t.atom u.atom) (numCmp (flagI t.pos) (flagI u.pos))) (V 12) w1 := f12
  replace f13 : V 13 = .int .i64 (Lit.cmp t u) := f13
  replace f14 : V 14 = .int .i64 (Lit.cmp t u) := f14
  simp only [f0, f1, f2, f3, f4, f5, f6, f7, f8, f9, f10, f11, f13, f14]
  clear f0 f1 f2 f3 f4 f5 f6 f7 f8 f9 f10 f11 f13 f14
  clear eT0 eT1 eT2 eU0 eU1 eU2 lT lU
  replace hW := hW.trans (hbR.mono hW.size)
  replace bT := bT.keep hbR
  replace bU := bU.keep hbR
  replace hT := Lit.at_keep (Keeps.all hbR) hT
  replace hU := Lit.at_keep (Keeps.all hbR) hU
  clear hbR
  go_wp2_with fail
  go_ret
  exact Gives.mk rfl hW

theorem compareLiterals_any {t u : Lit} (ht : t.atom.atom = true) (hu : u.atom.atom = true) {S : Nat → Prop} {c0 c1 c2 d0 d1 d2 : Value} {w : World} (hT : Lit.at S w c0 c1 c2 t) (hU : Lit.at S w d0 d1 d2 u) : Calls Tryz.prog 44 #[.agg #[c0, c1, c2], .agg #[d0, d1, d2]] w (Gives w (.int .i64 (Lit.cmp t u))) :=
  compareLiterals_nice (Tm.expr_nice (Tm.atom_expr ht)) (Tm.expr_nice (Tm.atom_expr hu)) hT hU

end Go.Proofs.YtooocakkjdhfiaaGreatDoor
