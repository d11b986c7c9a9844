/- Several texts in one file. -/
import Derived.Test.YtooocakkjdhfiaaGreatDoorQ07
import Derived.Test.YtooocakkjdhfiaaGreatDoorQ06
import Derived.Test.YtooocakkjdhfiaaGreatDoorQ04
/- Terms are compared: the walk of the reference. -/
namespace Go.Proofs.YtooocakkjdhfiaaGreatDoor
set_option maxRecDepth 100000
open Go.RowKit

theorem l2Text_any (a b : ByteArray) (w : World) : Calls Tryz.prog 74 #[.string a, .string b] w fun e w' => e = .returned (.int .i64 (strCmp a b)) ∧ w = w' := by
  by_cases h1 : Op.bytesLess a.toList b.toList = true
  · have HX : Hid (strCmp a b = -1) := by rw [Hid, strCmp, if_pos h1]
    go_enter Tryz.func74, Tryz.ntmps74
    go_wp2
    go_ret
    exact ⟨ret_i64 HX.out.symm, rfl⟩
  · replace h1 : Op.bytesLess a.toList b.toList = false := by simpa using h1
    by_cases h2 : a = b
    · have HX : Hid (strCmp a b = 0) := by rw [Hid, strCmp, h1]; simp [h2]
      have h3 : (a.toList == b.toList) = true := by rw [h2]; simp
      clear h2
      go_enter Tryz.func74, Tryz.ntmps74
      go_wp2
      go_ret
      exact ⟨ret_i64 HX.out.symm, rfl⟩
    · have HX : Hid (strCmp a b = 1) := by rw [Hid, strCmp, h1]; simp [h2]
      have h3 := toList_ne h2
      clear h2
      go_enter Tryz.func74, Tryz.ntmps74
      go_wp2
      go_ret
      exact ⟨ret_i64 HX.out.symm, rfl⟩

/-- f compares two terms -/
def Cmps (f : FuncId) (t : Tm) : Prop := ∀ ⦃u : Tm⦄ ⦃S : Nat → Prop⦄ ⦃c0 c1 d0 d1 : Value⦄ ⦃w : World⦄, Tm.at S w c0 c1 t → Tm.at S w d0 d1 u → Calls Tryz.prog f #[.agg #[c0, c1], .agg #[d0, d1]] w (Gives w (.int .i64 (Tm.cmp t u)))

set_option maxHeartbeats 4000000 in
theorem l2Compare_of (t : Tm) (h : ∀ a ∈ t.args, Cmps 52 a) : Cmps 52 t := by
  intro u S c0 c1 d0 d1 w hT hU
  have HC := hid (Tm.cmp_eq t u)
  have hlt0 : t.args.length ≤ 9223372036854775807 := by obtain ⟨_, _, _, q, _⟩ := Tm.sd_form hT.2; exact q
  have hlu0 : u.args.length ≤ 9223372036854775807 := by obtain ⟨_, _, _, q, _⟩ := Tm.sd_form hU.2; exact q
  obtain ⟨rfl, hn, a, cap, rfl⟩ := Tm.at_form hT
  obtain ⟨rfl, hm, a', cap', rfl⟩ := Tm.at_form hU
  have hW : Below w.heap.size w ((w.alloc (.cells #[.string t.name, .slice a t.args.length cap] 50)).alloc (.cells #[.string u.name, .slice a' u.args.length cap'] 50)) := ((Below.refl _ _).alloc (Nat.le_refl _) _).alloc (by simp) _
  have bT : Box ((w.alloc (.cells #[.string t.name, .slice a t.args.length cap] 50)).alloc (.cells #[.string u.name, .slice a' u.args.length cap'] 50)) w.heap.size [.string t.name, .slice a t.args.length cap] := (Box.new w _ _).alloc _
  have bU : Box ((w.alloc (.cells #[.string t.name, .slice a t.args.length cap] 50)).alloc (.cells #[.string u.name, .slice a' u.args.length cap'] 50)) (w.heap.size + 1) [.string u.name, .slice a' u.args.length cap'] := by
    have := Box.new (w.alloc (.cells #[.string t.name, .slice a t.args.length cap] 50)) [.string u.name, .slice a' u.args.length cap'] 50
    simpa only [World.size_alloc] using this
  replace hT := Tm.at_keep (Keeps.all hW) hT
  replace hU := Tm.at_keep (Keeps.all hW) hU
  go_enter Tryz.func52, Tryz.ntmps52
  go_wp2_with fail
  generalize ((w.alloc (.cells #[.string t.name, .slice a t.args.length cap] 50)).alloc (.cells #[.string u.name, .slice a' u.args.length cap'] 50)) = w0 at *
  have eT0 := bT.c0
  have eT1 := bT.c1
  have eU0 := bU.c0
  have eU1 := bU.c1
  have lT := bT.lt
  have lU := bU.lt
  refine wp_region_B [fun v _ => v = .pointer (some ⟨w.heap.size, 0, none⟩), fun v _ => v = .string t.name, fun v _ => v = .bool (varName t.name), fun v _ => v = .pointer (some ⟨(w.heap.size + 1), 0, none⟩), fun v _ => v = .string u.name, fun v _ => v = .bool (varName u.name), fun v _ => v = .bool (varName t.name), fun v _ => v = .bool (varName u.name)] _ (fun V => by simp [putAll, Act.put]; rfl) (by kernel_rfl) (by decide) (by simp) (by kernel_rfl) ?_ ?_ ?_
  · intro F hF
    simp only [List.mem_cons, List.not_mem_nil, or_false] at hF
    rcases hF with rfl | rfl | rfl | rfl | rfl | rfl | rfl | rfl
    · exact stable_eq
    · exact stable_eq
    · exact stable_eq
    · exact stable_eq
    · exact stable_eq
    · exact stable_eq
    · exact stable_eq
    · exact stable_eq
  · refine ⟨?_, ?_, ?_, ?_, ?_, ?_, ?_, ?_, trivial⟩
    · intro V w1 hbR _
      unfold Does
      go_simp
      exact ⟨Below.refl _ _, rfl⟩
    · intro V w1 hbR ⟨f0, _⟩
      replace f0 : V 0 = .pointer (some ⟨w.heap.size, 0, none⟩) := f0
      obtain ⟨hc, hf⟩ := bcell hbR
      try simp only [World.size_alloc, World.size_setCell] at hc hf
      unfold Does
      go_simp
      exact ⟨Below.refl _ _, rfl⟩
    · intro V w1 hbR ⟨f1, _⟩
      replace f1 : V 1 = .string t.name := f1
      obtain ⟨hc, hf⟩ := bcell hbR
      try simp only [World.size_alloc, World.size_setCell] at hc hf
      unfold Does
      go_simp
      refine (l2Var_any _ hn w1).mono ?_; rintro e w4 ⟨rfl, rfl⟩; exact ⟨_, rfl, Below.refl _ _, rfl⟩
    · intro V w1 hbR _
      unfold Does
      go_simp
      exact ⟨Below.refl _ _, rfl⟩
    · intro V w1 hbR ⟨f3, _⟩
      replace f3 : V 3 = .pointer (some ⟨(w.heap.size + 1), 0, none⟩) := f3
      obtain ⟨hc, hf⟩ := bcell hbR
      try simp only [World.size_alloc, World.size_setCell] at hc hf
      unfold Does
      go_simp
      exact ⟨Below.refl _ _, rfl⟩
    · intro V w1 hbR ⟨f4, f2, _⟩
      replace f2 : V 2 = .bool (varName t.name) := f2
      replace f4 : V 4 = .string u.name := f4
      obtain ⟨hc, hf⟩ := bcell hbR
      try simp only [World.size_alloc, World.size_setCell] at hc hf
      unfold Does
      go_simp
      refine (l2Var_any _ hm w1).mono ?_; rintro e w4 ⟨rfl, rfl⟩; exact ⟨_, rfl, Below.refl _ _, rfl⟩
    · intro V w1 hbR ⟨f2, f5, f0, f1, _, _⟩
      replace f0 : V 0 = .pointer (some ⟨w.heap.size, 0, none⟩) := f0
      replace f1 : V 1 = .string t.name := f1
      replace f2 : V 2 = .bool (varName t.name) := f2
      replace f5 : V 5 = .bool (varName u.name) := f5
      unfold Does
      go_simp
      exact ⟨Below.refl _ _, rfl⟩
    · intro V w1 hbR ⟨f5, f6, f0, f1, f2, f3, f4, _, _, _⟩
      replace f0 : V 0 = .pointer (some ⟨w.heap.size, 0, none⟩) := f0
      replace f1 : V 1 = .string t.name := f1
      replace f2 : V 2 = .bool (varName t.name) := f2
      replace f3 : V 3 = .pointer (some ⟨(w.heap.size + 1), 0, none⟩) := f3
      replace f4 : V 4 = .string u.name := f4
      replace f5 : V 5 = .bool (varName u.name) := f5
      replace f6 : V 6 = .bool (varName t.name) := f6
      unfold Does
      go_simp
      exact ⟨Below.refl _ _, rfl⟩
  intro V w1 hbR hfR
  obtain ⟨f0, f1, f2, f3, f4, f5, f6, f7, _⟩ := hfR
  replace f0 : V 0 = .pointer (some ⟨w.heap.size, 0, none⟩) := f0
  replace f1 : V 1 = .string t.name := f1
  replace f2 : V 2 = .bool (varName t.name) := f2
  replace f3 : V 3 = .pointer (some ⟨(w.heap.size + 1), 0, none⟩) := f3
  replace f4 : V 4 = .string u.name := f4
  replace f5 : V 5 = .bool (varName u.name) := f5
  replace f6 : V 6 = .bool (varName t.name) := f6
  replace f7 : V 7 = .bool (varName u.name) := f7
  simp only [f0, f1, f2, f3, f4, f5, f6, f7]
  clear f0 f1 f2 f3 f4 f5 f6 f7
  clear eT0 eT1 eU0 eU1 lT lU
  replace hW := hW.trans (hbR.mono hW.size)
  replace bT := bT.keep hbR
  replace bU := bU.keep hbR
  replace hT := Tm.at_keep (Keeps.all hbR) hT
  replace hU := Tm.at_keep (Keeps.all hbR) hU
  clear hbR
  have eT0 := bT.c0
  have eT1 := bT.c1
  have eU0 := bU.c0
  have eU1 := bU.c1
  have lT := bT.lt
  have lU := bU.lt
  by_cases ht : varName t.name = true
  · by_cases hu : varName u.name = true
    · rw [ht, hu]
      have HD : Hid (Tm.cmp t u = orZ (strCmp t.name u.name) (orZ (numCmp t.args.length u.args.length) (Tm.cmps t.args u.args))) := by rw [Hid, HC.out, ht, hu]; rfl
      clear ht hu
      by_cases hnm : t.name = u.name
      · have hs1 : (t.name.toList == u.name.toList) = true := by rw [hnm]; simp
        have HE : Hid (Tm.cmp t u = orZ (numCmp t.args.length u.args.length) (Tm.cmps t.args u.args)) := by rw [Hid, HD.out, hnm, strCmp_self, orZ, if_pos rfl]
        clear hnm
        by_cases hl1 : t.args.length < u.args.length
        · have hl1' : (t.args.length : Int) < u.args.length := by omega
          have HX : Hid (Tm.cmp t u = -1) := by rw [Hid, HE.out, numCmp, if_pos hl1', orZ]; rfl
          go_wp2_with fail
          go_ret
          exact Gives.mk (ret_i64 HX.out.symm) hW
        · by_cases hl2 : u.args.length < t.args.length
          · have hl2' : (u.args.length : Int) < t.args.length := by omega
            have hl1' : ¬ (t.args.length : Int) < u.args.length := by omega
            have HX : Hid (Tm.cmp t u = 1) := by rw [Hid, HE.out, numCmp, if_neg hl1', if_pos hl2', orZ]; rfl
            go_wp2_with fail
            go_ret
            exact Gives.mk (ret_i64 HX.out.symm) hW
          · have hll : t.args.length = u.args.length := by omega
            have hl1' : ¬ (t.args.length : Int) < u.args.length := by omega
            have hl2' : ¬ (u.args.length : Int) < t.args.length := by omega
            have HX : Hid (Tm.cmp t u = Tm.cmps t.args u.args) := by rw [Hid, HE.out, numCmp, if_neg hl1', if_neg hl2', orZ, if_pos rfl]
            have HL := hid hll
            clear hll hl1 hl2
            go_wp2_with fail
            clear eT0 eT1 eU0 eU1 lT lU
            rename World => w1
            go_loopw [7] (fun i wr => ∃ (k : Nat), k ≤ t.args.length ∧ i = .int .i64 k ∧ Hid (Tm.cmp t u = Tm.cmps (t.args.drop k) (u.args.drop k)) ∧ Below w1.heap.size w1 wr) (fun i _ => t.args.length - (intOf i).toNat)
            case atStart => exact ⟨0, Nat.zero_le _, rfl, by simpa using HX, Below.refl _ _⟩
            case round =>
              obtain ⟨k, hk, rfl, HK, hb⟩ := hrel
              replace hW := hW.trans (hb.mono hW.size)
              replace bT := bT.keep hb
              replace bU := bU.keep hb
              have eT0 := bT.c0
              have eT1 := bT.c1
              have eU0 := bU.c0
              have eU1 := bU.c1
              have lT := bT.lt
              have lU := bU.lt
              by_cases hlt : k < t.args.length
              · have hlt' : k < u.args.length := by rw [← HL.out]; exact hlt
                have hne : t.args ≠ [] := by intro e; rw [e] at hlt; simp at hlt
                have hne' : u.args ≠ [] := by intro e; rw [e] at hlt'; simp at hlt'
                obtain ⟨b, off, rfl, hS, hbl, hrr⟩ := Tm.sd_get hT.2 hne
                obtain ⟨b', off', rfl, hS', hbl', hrr'⟩ := Tm.sd_get hU.2 hne'
                obtain ⟨x0, x1, q0, q1, qx⟩ := hrr k hlt
                obtain ⟨y0, y1, r0, r1, rx⟩ := hrr' k hlt'
                replace q0 := (hb.cell (p := ⟨b, off + k * 2, none⟩) hbl).trans q0
                replace q1 := (hb.cell (p := ⟨b, off + k * 2 + 1, none⟩) hbl).trans q1
                replace r0 := (hb.cell (p := ⟨b', off' + k * 2, none⟩) hbl').trans r0
                replace r1 := (hb.cell (p := ⟨b', off' + k * 2 + 1, none⟩) hbl').trans r1
                replace qx := Tm.at_keep (Keeps.all hb) qx
                replace rx := Tm.at_keep (Keeps.all hb) rx
                have hmem := h t.args[k] (List.getElem_mem hlt)
                have HS := hid (Tm.cmps_drop hlt hlt')
                have hcin := Tm.cmp_in t.args[k] u.args[k]
                clear hrr hrr'
                go_wp2_with fail
                have hb0 : b < wr.heap.size := Nat.lt_of_lt_of_le hbl hb.size
                have hb0' : b' < wr.heap.size := Nat.lt_of_lt_of_le hbl' hb.size
                refine wp_region_B [fun v _ => v = .pointer (some ⟨w.heap.size, 1, none⟩), fun v _ => v = .slice (some ⟨b, off, none⟩) t.args.length cap, fun v _ => v = .int .i64 k, fun v _ => v = .pointer (some ⟨b, off + k * 2, none⟩), fun v _ => v = .agg #[x0, x1], fun v _ => v = .pointer (some ⟨(w.heap.size + 1), 1, none⟩), fun v _ => v = .slice (some ⟨b', off', none⟩) u.args.length cap', fun v _ => v = .int .i64 k, fun v _ => v = .pointer (some ⟨b', off' + k * 2, none⟩), fun v _ => v = .agg #[y0, y1], fun v _ => v = .int .i64 (Tm.cmp t.args[k] u.args[k]), fun v _ => v = .int .i64 (Tm.cmp t.args[k] u.args[k])] _ (fun V => by simp [putAll, Act.put]; rfl) (by kernel_rfl) (by decide) (by simp) (by kernel_rfl) ?_ ?_ ?_
                · intro F hF
                  simp only [List.mem_cons, List.not_mem_nil, or_false] at hF
                  rcases hF with rfl | rfl | rfl | rfl | rfl | rfl | rfl | rfl | rfl | rfl | rfl | rfl
                  · exact stable_eq
                  · exact stable_eq
                  · exact stable_eq
                  · exact stable_eq
                  · exact stable_eq
                  · exact stable_eq
                  · exact stable_eq
                  · exact stable_eq
                  · exact stable_eq
                  · exact stable_eq
                  · exact stable_eq
                  · exact stable_eq
                · refine ⟨?_, ?_, ?_, ?_, ?_, ?_, ?_, ?_, ?_, ?_, ?_, ?_, trivial⟩
                  · intro V w1 hbR _
                    unfold Does
                    go_simp
                    exact ⟨Below.refl _ _, rfl⟩
                  · intro V w1 hbR ⟨f0, _⟩
                    replace f0 : V 0 = .pointer (some ⟨w.heap.size, 1, none⟩) := f0
                    obtain ⟨hc, hf⟩ := bcell hbR
                    try simp only [World.size_alloc, World.size_setCell] at hc hf
                    unfold Does
                    go_simp
                    exact ⟨Below.refl _ _, rfl⟩
                  · intro V w1 hbR _
                    unfold Does
                    go_simp
                    exact ⟨Below.refl _ _, rfl⟩
                  · intro V w1 hbR ⟨f1, f2, _⟩
                    replace f1 : V 1 = .slice (some ⟨b, off, none⟩) t.args.length cap := f1
                    replace f2 : V 2 = .int .i64 k := f2
                    unfold Does
                    go_simp
                    exact ⟨Below.refl _ _, rfl⟩
                  · intro V w1 hbR ⟨f3, _⟩
                    replace f3 : V 3 = .pointer (some ⟨b, off + k * 2, none⟩) := f3
                    obtain ⟨hc, hf⟩ := bcell hbR
                    try simp only [World.size_alloc, World.size_setCell] at hc hf
                    unfold Does
                    go_simp
                    exact ⟨Below.refl _ _, rfl⟩
                  · intro V w1 hbR _
                    unfold Does
                    go_simp
                    exact ⟨Below.refl _ _, rfl⟩
                  · intro V w1 hbR ⟨f5, _⟩
                    replace f5 : V 5 = .pointer (some ⟨(w.heap.size + 1), 1, none⟩) := f5
                    obtain ⟨hc, hf⟩ := bcell hbR
                    try simp only [World.size_alloc, World.size_setCell] at hc hf
                    unfold Does
                    go_simp
                    exact ⟨Below.refl _ _, rfl⟩
                  · intro V w1 hbR _
                    unfold Does
                    go_simp
                    exact ⟨Below.refl _ _, rfl⟩
                  · intro V w1 hbR ⟨f6, f7, _⟩
                    replace f6 : V 6 = .slice (some ⟨b', off', none⟩) u.args.length cap' := f6
                    replace f7 : V 7 = .int .i64 k := f7
                    unfold Does
                    go_simp
                    exact ⟨Below.refl _ _, rfl⟩
                  · intro V w1 hbR ⟨f8, _⟩
                    replace f8 : V 8 = .pointer (some ⟨b', off' + k * 2, none⟩) := f8
                    obtain ⟨hc, hf⟩ := bcell hbR
                    try simp only [World.size_alloc, World.size_setCell] at hc hf
                    unfold Does
                    go_simp
                    exact ⟨Below.refl _ _, rfl⟩
                  · intro V w1 hbR ⟨f4, f9, _⟩
                    replace f4 : V 4 = .agg #[x0, x1] := f4
                    replace f9 : V 9 = .agg #[y0, y1] := f9
                    obtain ⟨hc, hf⟩ := bcell hbR
                    try simp only [World.size_alloc, World.size_setCell] at hc hf
                    unfold Does
                    go_simp
                    exact hmem (Tm.at_keep (Keeps.all hbR) qx) (Tm.at_keep (Keeps.all hbR) rx)
                  · intro V w1 hbR ⟨f10, _, f0, f1, f2, f3, f4, f5, f6, f7, f8, f9, _, _⟩
                    replace f0 : V 0 = .pointer (some ⟨w.heap.size, 1, none⟩) := f0
                    replace f1 : V 1 = .slice (some ⟨b, off, none⟩) t.args.length cap := f1
                    replace f2 : V 2 = .int .i64 k := f2
                    replace f3 : V 3 = .pointer (some ⟨b, off + k * 2, none⟩) := f3
                    replace f4 : V 4 = .agg #[x0, x1] := f4
                    replace f5 : V 5 = .pointer (some ⟨(w.heap.size + 1), 1, none⟩) := f5
                    replace f6 : V 6 = .slice (some ⟨b', off', none⟩) u.args.length cap' := f6
                    replace f7 : V 7 = .int .i64 k := f7
                    replace f8 : V 8 = .pointer (some ⟨b', off' + k * 2, none⟩) := f8
                    replace f9 : V 9 = .agg #[y0, y1] := f9
                    replace f10 : V 10 = .int .i64 (Tm.cmp t.args[k] u.args[k]) := f10
                    unfold Does
                    go_simp
                    exact ⟨Below.refl _ _, rfl⟩
                intro V w2 hbR hfR
                obtain ⟨f0, f1, f2, f3, f4, f5, f6, f7, f8, f9, f10, f11, _⟩ := hfR
                replace f0 : V 0 = .pointer (some ⟨w.heap.size, 1, none⟩) := f0
                replace f1 : V 1 = .slice (some ⟨b, off, none⟩) t.args.length cap := f1
                replace f2 : V 2 = .int .i64 k := f2
                replace f3 : V 3 = .pointer (some ⟨b, off + k * 2, none⟩) := f3
                replace f4 : V 4 = .agg #[x0, x1] := f4
                replace f5 : V 5 = .pointer (some ⟨(w.heap.size + 1), 1, none⟩) := f5
                replace f6 : V 6 = .slice (some ⟨b', off', none⟩) u.args.length cap' := f6
                replace f7 : V 7 = .int .i64 k := f7
                replace f8 : V 8 = .pointer (some ⟨b', off' + k * 2, none⟩) := f8
                replace f9 : V 9 = .agg #[y0, y1] := f9
                replace f10 : V 10 = .int .i64 (Tm.cmp t.args[k] u.args[k]) := f10
                replace f11 : V 11 = .int .i64 (Tm.cmp t.args[k] u.args[k]) := f11
                simp only [f0, f1, f2, f3, f4, f5, f6, f7, f8, f9, f10, f11]
                clear f0 f1 f2 f3 f4 f5 f6 f7 f8 f9 f10 f11
                clear eT0 eT1 eU0 eU1 lT lU
                by_cases hc : Tm.cmp t.args[k] u.args[k] = 0
                · have HZ : Hid (Tm.cmp t u = Tm.cmps (t.args.drop (k + 1)) (u.args.drop (k + 1))) := by rw [Hid, HK.out, HS.out, hc, orZ, if_pos rfl]
                  rw [hc]
                  go_wp2_with fail
                  go_roundw
                  case rel => exact ⟨k + 1, by omega, by go_num, HZ, hb.trans (hbR.mono hb.size)⟩
                  case measure => simp [intOf]; omega
                · have HZ : Hid (Tm.cmp t u = Tm.cmp t.args[k] u.args[k]) := by rw [Hid, HK.out, HS.out, orZ, if_neg hc]
                  have hc' : (Tm.cmp t.args[k] u.args[k] == 0) = false := by simp [hc]
                  clear hc
                  go_wp2_with fail
                  go_ret
                  exact Gives.mk (ret_i64 HZ.out.symm) (hW.trans (hbR.mono hW.size))
              · obtain rfl : k = t.args.length := by omega
                have HZ : Hid (Tm.cmp t u = 0) := by rw [Hid, HK.out, Tm.cmps_end]
                go_wp2_with fail
                go_ret
                exact Gives.mk (ret_i64 HZ.out.symm) hW
      · have hs1 := toList_ne hnm
        have HX : Hid (Tm.cmp t u = strCmp t.name u.name) := by rw [Hid, HD.out, orZ, if_neg (strCmp_ne hnm)]
        clear hnm
        go_wp2_with fail
        refine (l2Text_any _ _ _).mono ?_
        rintro e w4 ⟨rfl, rfl⟩
        go_wp2_with fail
        go_ret
        exact Gives.mk (ret_i64 HX.out.symm) hW
    · replace hu : varName u.name = false := by simpa using hu
      have HX : Hid (Tm.cmp t u = -1) := by rw [Hid, HC.out, ht, hu]; rfl
      rw [ht, hu]
      clear ht hu
      go_wp2_with fail
      go_ret
      exact Gives.mk (ret_i64 HX.out.symm) hW
  · replace ht : varName t.name = false := by simpa using ht
    by_cases hu : varName u.name = true
    · have HX : Hid (Tm.cmp t u = 1) := by rw [Hid, HC.out, ht, hu]; rfl
      rw [ht, hu]
      clear ht hu
      go_wp2_with fail
      go_ret
      exact Gives.mk (ret_i64 HX.out.symm) hW
    · replace hu : varName u.name = false := by simpa using hu
      have HD : Hid (Tm.cmp t u = orZ (strCmp t.name u.name) (orZ (numCmp t.args.length u.args.length) (Tm.cmps t.args u.args))) := by rw [Hid, HC.out, ht, hu]; rfl
      rw [ht, hu]
      clear ht hu
      by_cases hnm : t.name = u.name
      · have hs1 : (t.name.toList == u.name.toList) = true := by rw [hnm]; simp
        have HE : Hid (Tm.cmp t u = orZ (numCmp t.args.length u.args.length) (Tm.cmps t.args u.args)) := by rw [Hid, HD.out, hnm, strCmp_self, orZ, if_pos rfl]
        clear hnm
        by_cases hl1 : t.args.length < u.args.length
        · have hl1' : (t.args.length : Int) < u.args.length := by omega
          have HX : Hid (Tm.cmp t u = -1) := by rw [Hid, HE.out, numCmp, if_pos hl1', orZ]; rfl
          go_wp2_with fail
          go_ret
          exact Gives.mk (ret_i64 HX.out.symm) hW
        · by_cases hl2 : u.args.length < t.args.length
          · have hl2' : (u.args.length : Int) < t.args.length := by omega
            have hl1' : ¬ (t.args.length : Int) < u.args.length := by omega
            have HX : Hid (Tm.cmp t u = 1) := by rw [Hid, HE.out, numCmp, if_neg hl1', if_pos hl2', orZ]; rfl
            go_wp2_with fail
            go_ret
            exact Gives.mk (ret_i64 HX.out.symm) hW
          · have hll : t.args.length = u.args.length := by omega
            have hl1' : ¬ (t.args.length : Int) < u.args.length := by omega
            have hl2' : ¬ (u.args.length : Int) < t.args.length := by omega
            have HX : Hid (Tm.cmp t u = Tm.cmps t.args u.args) := by rw [Hid, HE.out, numCmp, if_neg hl1', if_neg hl2', orZ, if_pos rfl]
            have HL := hid hll
            clear hll hl1 hl2
            go_wp2_with fail
            clear eT0 eT1 eU0 eU1 lT lU
            rename World => w1
            go_loopw [7] (fun i wr => ∃ (k : Nat), k ≤ t.args.length ∧ i = .int .i64 k ∧ Hid (Tm.cmp t u = Tm.cmps (t.args.drop k) (u.args.drop k)) ∧ Below w1.heap.size w1 wr) (fun i _ => t.args.length - (intOf i).toNat)
            case atStart => exact ⟨0, Nat.zero_le _, rfl, by simpa using HX, Below.refl _ _⟩
            case round =>
              obtain ⟨k, hk, rfl, HK, hb⟩ := hrel
              replace hW := hW.trans (hb.mono hW.size)
              replace bT := bT.keep hb
              replace bU := bU.keep hb
              have eT0 := bT.c0
              have eT1 := bT.c1
              have eU0 := bU.c0
              have eU1 := bU.c1
              have lT := bT.lt
              have lU := bU.lt
              by_cases hlt : k < t.args.length
              · have hlt' : k < u.args.length := by rw [← HL.out]; exact hlt
                have hne : t.args ≠ [] := by intro e; rw [e] at hlt; simp at hlt
                have hne' : u.args ≠ [] := by intro e; rw [e] at hlt'; simp at hlt'
                obtain ⟨b, off, rfl, hS, hbl, hrr⟩ := Tm.sd_get hT.2 hne
                obtain ⟨b', off', rfl, hS', hbl', hrr'⟩ := Tm.sd_get hU.2 hne'
                obtain ⟨x0, x1, q0, q1, qx⟩ := hrr k hlt
                obtain ⟨y0, y1, r0, r1, rx⟩ := hrr' k hlt'
                replace q0 := (hb.cell (p := ⟨b, off + k * 2, none⟩) hbl).trans q0
                replace q1 := (hb.cell (p := ⟨b, off + k * 2 + 1, none⟩) hbl).trans q1
                replace r0 := (hb.cell (p := ⟨b', off' + k * 2, none⟩) hbl').trans r0
                replace r1 := (hb.cell (p := ⟨b', off' + k * 2 + 1, none⟩) hbl').trans r1
                replace qx := Tm.at_keep (Keeps.all hb) qx
                replace rx := Tm.at_keep (Keeps.all hb) rx
                have hmem := h t.args[k] (List.getElem_mem hlt)
                have HS := hid (Tm.cmps_drop hlt hlt')
                have hcin := Tm.cmp_in t.args[k] u.args[k]
                clear hrr hrr'
                go_wp2_with fail
                have hb0 : b < wr.heap.size := Nat.lt_of_lt_of_le hbl hb.size
                have hb0' : b' < wr.heap.size := Nat.lt_of_lt_of_le hbl' hb.size
                refine wp_region_B [fun v _ => v = .pointer (some ⟨w.heap.size, 1, none⟩), fun v _ => v = .slice (some ⟨b, off, none⟩) t.args.length cap, fun v _ => v = .int .i64 k, fun v _ => v = .pointer (some ⟨b, off + k * 2, none⟩), fun v _ => v = .agg #[x0, x1], fun v _ => v = .pointer (some ⟨(w.heap.size + 1), 1, none⟩), fun v _ => v = .slice (some ⟨b', off', none⟩) u.args.length cap', fun v _ => v = .int .i64 k, fun v _ => v = .pointer (some ⟨b', off' + k * 2, none⟩), fun v _ => v = .agg #[y0, y1], fun v _ => v = .int .i64 (Tm.cmp t.args[k] u.args[k]), fun v _ => v = .int .i64 (Tm.cmp t.args[k] u.args[k])] _ (fun V => by simp [putAll, Act.put]; rfl) (by kernel_rfl) (by decide) (by simp) (by kernel_rfl) ?_ ?_ ?_
                · intro F hF
                  simp only [List.mem_cons, List.not_mem_nil, or_false] at hF
                  rcases hF with rfl | rfl | rfl | rfl | rfl | rfl | rfl | rfl | rfl | rfl | rfl | rfl
                  · exact stable_eq
                  · exact stable_eq
                  · exact stable_eq
                  · exact stable_eq
                  · exact stable_eq
                  · exact stable_eq
                  · exact stable_eq
                  · exact stable_eq
                  · exact stable_eq
                  · exact stable_eq
                  · exact stable_eq
                  · exact stable_eq
                · refine ⟨?_, ?_, ?_, ?_, ?_, ?_, ?_, ?_, ?_, ?_, ?_, ?_, trivial⟩
                  · intro V w1 hbR _
                    unfold Does
                    go_simp
                    exact ⟨Below.refl _ _, rfl⟩
                  · intro V w1 hbR ⟨f0, _⟩
                    replace f0 : V 0 = .pointer (some ⟨w.heap.size, 1, none⟩) := f0
                    obtain ⟨hc, hf⟩ := bcell hbR
                    try simp only [World.size_alloc, World.size_setCell] at hc hf
                    unfold Does
                    go_simp
                    exact ⟨Below.refl _ _, rfl⟩
                  · intro V w1 hbR _
                    unfold Does
                    go_simp
                    exact ⟨Below.refl _ _, rfl⟩
                  · intro V w1 hbR ⟨f1, f2, _⟩
                    replace f1 : V 1 = .slice (some ⟨b, off, none⟩) t.args.length cap := f1
                    replace f2 : V 2 = .int .i64 k := f2
                    unfold Does
                    go_simp
                    exact ⟨Below.refl _ _, rfl⟩
                  · intro V w1 hbR ⟨f3, _⟩
                    replace f3 : V 3 = .pointer (some ⟨b, off + k * 2, none⟩) := f3
                    obtain ⟨hc, hf⟩ := bcell hbR
                    try simp only [World.size_alloc, World.size_setCell] at hc hf
                    unfold Does
                    go_simp
                    exact ⟨Below.refl _ _, rfl⟩
                  · intro V w1 hbR _
                    unfold Does
                    go_simp
                    exact ⟨Below.refl _ _, rfl⟩
                  · intro V w1 hbR ⟨f5, _⟩
                    replace f5 : V 5 = .pointer (some ⟨(w.heap.size + 1), 1, none⟩) := f5
                    obtain ⟨hc, hf⟩ := bcell hbR
                    try simp only [World.size_alloc, World.size_setCell] at hc hf
                    unfold Does
                    go_simp
                    exact ⟨Below.refl _ _, rfl⟩
                  · intro V w1 hbR _
                    unfold Does
                    go_simp
                    exact ⟨Below.refl _ _, rfl⟩
                  · intro V w1 hbR ⟨f6, f7, _⟩
                    replace f6 : V 6 = .slice (some ⟨b', off', none⟩) u.args.length cap' := f6
                    replace f7 : V 7 = .int .i64 k := f7
                    unfold Does
                    go_simp
                    exact ⟨Below.refl _ _, rfl⟩
                  · intro V w1 hbR ⟨f8, _⟩
                    replace f8 : V 8 = .pointer (some ⟨b', off' + k * 2, none⟩) := f8
                    obtain ⟨hc, hf⟩ := bcell hbR
                    try simp only [World.size_alloc, World.size_setCell] at hc hf
                    unfold Does
                    go_simp
                    exact ⟨Below.refl _ _, rfl⟩
                  · intro V w1 hbR ⟨f4, f9, _⟩
                    replace f4 : V 4 = .agg #[x0, x1] := f4
                    replace f9 : V 9 = .agg #[y0, y1] := f9
                    obtain ⟨hc, hf⟩ := bcell hbR
                    try simp only [World.size_alloc, World.size_setCell] at hc hf
                    unfold Does
                    go_simp
                    exact hmem (Tm.at_keep (Keeps.all hbR) qx) (Tm.at_keep (Keeps.all hbR) rx)
                  · intro V w1 hbR ⟨f10, _, f0, f1, f2, f3, f4, f5, f6, f7, f8, f9, _, _⟩
                    replace f0 : V 0 = .pointer (some ⟨w.heap.size, 1, none⟩) := f0
                    replace f1 : V 1 = .slice (some ⟨b, off, none⟩) t.args.length cap := f1
                    replace f2 : V 2 = .int .i64 k := f2
                    replace f3 : V 3 = .pointer (some ⟨b, off + k * 2, none⟩) := f3
                    replace f4 : V 4 = .agg #[x0, x1] := f4
                    replace f5 : V 5 = .pointer (some ⟨(w.heap.size + 1), 1, none⟩) := f5
                    replace f6 : V 6 = .slice (some ⟨b', off', none⟩) u.args.length cap' := f6
                    replace f7 : V 7 = .int .i64 k := f7
                    replace f8 : V 8 = .pointer (some ⟨b', off' + k * 2, none⟩) := f8
                    replace f9 : V 9 = .agg #[y0, y1] := f9
                    replace f10 : V 10 = .int .i64 (Tm.cmp t.args[k] u.args[k]) := f10
                    unfold Does
                    go_simp
                    exact ⟨Below.refl _ _, rfl⟩
                intro V w2 hbR hfR
                obtain ⟨f0, f1, f2, f3, f4, f5, f6, f7, f8, f9, f10, f11, _⟩ := hfR
                replace f0 : V 0 = .pointer (some ⟨w.heap.size, 1, none⟩) := f0
                replace f1 : V 1 = .slice (some ⟨b, off, none⟩) t.args.length cap := f1
                replace f2 : V 2 = .int .i64 k := f2
                replace f3 : V 3 = .pointer (some ⟨b, off + k * 2, none⟩) := f3
                replace f4 : V 4 = .agg #[x0, x1] := f4
                replace f5 : V 5 = .pointer (some ⟨(w.heap.size + 1), 1, none⟩) := f5
                replace f6 : V 6 = .slice (some ⟨b', off', none⟩) u.args.length cap' := f6
                replace f7 : V 7 = .int .i64 k := f7
                replace f8 : V 8 = .pointer (some ⟨b', off' + k * 2, none⟩) := f8
                replace f9 : V 9 = .agg #[y0, y1] := f9
                replace f10 : V 10 = .int .i64 (Tm.cmp t.args[k] u.args[k]) := f10
                replace f11 : V 11 = .int .i64 (Tm.cmp t.args[k] u.args[k]) := f11
                simp only [f0, f1, f2, f3, f4, f5, f6, f7, f8, f9, f10, f11]
                clear f0 f1 f2 f3 f4 f5 f6 f7 f8 f9 f10 f11
                clear eT0 eT1 eU0 eU1 lT lU
                by_cases hc : Tm.cmp t.args[k] u.args[k] = 0
                · have HZ : Hid (Tm.cmp t u = Tm.cmps (t.args.drop (k + 1)) (u.args.drop (k + 1))) := by rw [Hid, HK.out, HS.out, hc, orZ, if_pos rfl]
                  rw [hc]
                  go_wp2_with fail
                  go_roundw
                  case rel => exact ⟨k + 1, by omega, by go_num, HZ, hb.trans (hbR.mono hb.size)⟩
                  case measure => simp [intOf]; omega
                · have HZ : Hid (Tm.cmp t u = Tm.cmp t.args[k] u.args[k]) := by rw [Hid, HK.out, HS.out, orZ, if_neg hc]
                  have hc' : (Tm.cmp t.args[k] u.args[k] == 0) = false := by simp [hc]
                  clear hc
                  go_wp2_with fail
                  go_ret
                  exact Gives.mk (ret_i64 HZ.out.symm) (hW.trans (hbR.mono hW.size))
              · obtain rfl : k = t.args.length := by omega
                have HZ : Hid (Tm.cmp t u = 0) := by rw [Hid, HK.out, Tm.cmps_end]
                go_wp2_with fail
                go_ret
                exact Gives.mk (ret_i64 HZ.out.symm) hW
      · have hs1 := toList_ne hnm
        have HX : Hid (Tm.cmp t u = strCmp t.name u.name) := by rw [Hid, HD.out, orZ, if_neg (strCmp_ne hnm)]
        clear hnm
        go_wp2_with fail
        refine (l2Text_any _ _ _).mono ?_
        rintro e w4 ⟨rfl, rfl⟩
        go_wp2_with fail
        go_ret
        exact Gives.mk (ret_i64 HX.out.symm) hW
theorem l2Compare_any (t : Tm) : Cmps 52 t := Tm.ind (P := Cmps 52) (fun n ts h => l2Compare_of (.node n ts) h) t
end Go.Proofs.YtooocakkjdhfiaaGreatDoor
/- Terms are compared: the walk of the program. -/
namespace Go.Proofs.YtooocakkjdhfiaaGreatDoor
set_option maxRecDepth 100000
open Go.RowKit

theorem compareString_any (a b : ByteArray) (w : World) : Calls Tryz.prog 89 #[.string a, .string b] w fun e w' => e = .returned (.int .i64 (strCmp a b)) ∧ w = w' := by
  have isNaN : ∀ (s : ByteArray) (w : World), Calls Tryz.prog 109 #[.string s] w fun e w' => e = .returned (.bool false) ∧ w = w' := by
    intro s w
    go_enter Tryz.func109, Tryz.ntmps109
    go_wp2
    go_ret
    exact ⟨ret_bool (by simp), rfl⟩
  by_cases h1 : Op.bytesLess a.toList b.toList = true
  · have HX : Hid (strCmp a b = -1) := by rw [Hid, strCmp, if_pos h1]
    go_enter Tryz.func89, Tryz.ntmps89
    go_wp2_with (first | (go_at_call 109; refine (isNaN _ _).mono ?_; rintro e w' ⟨rfl, rfl⟩))
    go_ret
    exact ⟨ret_i64 HX.out.symm, rfl⟩
  · replace h1 : Op.bytesLess a.toList b.toList = false := by simpa using h1
    by_cases h2 : a = b
    · have HX : Hid (strCmp a b = 0) := by rw [Hid, strCmp, h1]; simp [h2]
      have h3 : (a.toList == b.toList) = true := by rw [h2]; simp
      clear h2
      go_enter Tryz.func89, Tryz.ntmps89
      go_wp2_with (first | (go_at_call 109; refine (isNaN _ _).mono ?_; rintro e w' ⟨rfl, rfl⟩))
      go_ret
      exact ⟨ret_i64 HX.out.symm, rfl⟩
    · have HX : Hid (strCmp a b = 1) := by rw [Hid, strCmp, h1]; simp [h2]
      have h3 := toList_ne h2
      clear h2
      go_enter Tryz.func89, Tryz.ntmps89
      go_wp2_with (first | (go_at_call 109; refine (isNaN _ _).mono ?_; rintro e w' ⟨rfl, rfl⟩))
      go_ret
      exact ⟨ret_i64 HX.out.symm, rfl⟩
theorem compareInt_any (a b : Int) (w : World) : Calls Tryz.prog 65 #[.int .i64 a, .int .i64 b] w fun e w' => e = .returned (.int .i64 (numCmp a b)) ∧ w = w' := by
  have isNaN : ∀ (s : Int) (w : World), Calls Tryz.prog 91 #[.int .i64 s] w fun e w' => e = .returned (.bool false) ∧ w = w' := by
    intro s w
    go_enter Tryz.func91, Tryz.ntmps91
    go_wp2
    go_ret
    exact ⟨ret_bool (by simp), rfl⟩
  by_cases h1 : a < b
  · have HX : Hid (numCmp a b = -1) := by rw [Hid, numCmp, if_pos h1]
    go_enter Tryz.func65, Tryz.ntmps65
    go_wp2_with (first | (go_at_call 91; refine (isNaN _ _).mono ?_; rintro e w' ⟨rfl, rfl⟩))
    go_ret
    exact ⟨ret_i64 HX.out.symm, rfl⟩
  · by_cases h2 : b < a
    · have HX : Hid (numCmp a b = 1) := by rw [Hid, numCmp, if_neg h1, if_pos h2]
      go_enter Tryz.func65, Tryz.ntmps65
      go_wp2_with (first | (go_at_call 91; refine (isNaN _ _).mono ?_; rintro e w' ⟨rfl, rfl⟩))
      go_ret
      exact ⟨ret_i64 HX.out.symm, rfl⟩
    · have HX : Hid (numCmp a b = 0) := by rw [Hid, numCmp, if_neg h1, if_neg h2]
      go_enter Tryz.func65, Tryz.ntmps65
      go_wp2_with (first | (go_at_call 91; refine (isNaN _ _).mono ?_; rintro e w' ⟨rfl, rfl⟩))
      go_ret
      exact ⟨ret_i64 HX.out.symm, rfl⟩

/-- the value is a slice of the two numbers -/
def TwoInts (x y : Int) (v : Value) (w : World) : Prop := ∃ b, v = .slice (some ⟨b, 0, none⟩) 2 2 ∧ b < w.heap.size ∧ w.cell? ⟨b, 0, none⟩ = some (.int .i64 x) ∧ w.cell? ⟨b, 1, none⟩ = some (.int .i64 y)
theorem TwoInts.stable {x y : Int} {w : World} : ∀ v w1 w2, Below w.heap.size w w1 → Below w1.heap.size w1 w2 → TwoInts x y v w1 → TwoInts x y v w2 :=
  fun _ _ _ _ hb ⟨b, e, hl, h0, h1⟩ => ⟨b, e, Nat.lt_of_lt_of_le hl hb.size, (hb.cell (p := ⟨b, 0, none⟩) hl).trans h0, (hb.cell (p := ⟨b, 1, none⟩) hl).trans h1⟩

theorem or_any {x y : Int} {v : Value} {w : World} (h : TwoInts x y v w) : Calls Tryz.prog 63 #[v] w (Gives w (.int .i64 (orZ x y))) := by
  obtain ⟨b, rfl, hl, h0, h1⟩ := h
  go_enter Tryz.func63, Tryz.ntmps63
  go_wp2_with fail
  go_loop [8] (fun i => ∃ k : Nat, k ≤ 2 ∧ i = .int .i64 k ∧ Hid ((1 ≤ k → x = 0) ∧ (2 ≤ k → y = 0))) (fun i => 2 - (intOf i).toNat)
  case atStart => exact ⟨0, by omega, rfl, fun h => absurd h (by omega), fun h => absurd h (by omega)⟩
  case round =>
    obtain ⟨k, hk, rfl, HK⟩ := hrel
    match k, hk, HK with
    | 0, _, HK =>
      by_cases hx : x = 0
      · have HX := hid hx
        have hx' : (x == 0) = true := by simp [hx]
        clear hx
        go_wp2_with fail
        go_round
        case rel => exact ⟨0 + 1, by omega, by go_num, fun _ => HX.out, fun h => absurd h (by omega)⟩
        case measure => simp [intOf]
      · have HX : Hid (orZ x y = x) := by rw [Hid, orZ, if_neg hx]
        have hx' : (x == 0) = false := by simp [hx]
        clear hx
        go_wp2_with fail
        go_ret
        exact Gives.mk (ret_i64 HX.out.symm) (Below.refl _ _)
    | 1, _, HK =>
      have hx := HK.out.1 (by omega)
      have HX : Hid (orZ x y = y) := by rw [Hid, orZ, if_pos hx]
      have HX0 := hid hx
      clear hx
      by_cases hy : y = 0
      · have HY := hid hy
        have hy' : (y == 0) = true := by simp [hy]
        clear hy
        go_wp2_with fail
        go_round
        case rel => exact ⟨1 + 1, by omega, by go_num, fun _ => HX0.out, fun _ => HY.out⟩
        case measure => simp [intOf]
      · have hy' : (y == 0) = false := by simp [hy]
        clear hy
        go_wp2_with fail
        go_ret
        exact Gives.mk (ret_i64 HX.out.symm) (Below.refl _ _)
    | 2, _, HK =>
      have HX : Hid (orZ x y = 0) := by rw [Hid, orZ, if_pos (HK.out.1 (by omega)), HK.out.2 (by omega)]
      go_wp2_with fail
      go_ret
      exact Gives.mk (ret_i64 HX.out.symm) (Below.refl _ _)

theorem isVar_any {t : Tm} (hni : t.nice = true) {S : Nat → Prop} {c0 c1 : Value} {w : World} (hT : Tm.at S w c0 c1 t) : Calls Tryz.prog 78 #[.agg #[c0, c1]] w (Gives w (.bool (varName t.name))) := by
  obtain ⟨h1, h2, _⟩ := (Tm.nice_iff t).1 hni
  have hlt : 0 < t.name.size := h1
  have hbe := byteAt_eq hlt
  have H2 := hid h2
  have hlt0 : (0 : Int) < t.name.size := by omega
  clear h2
  obtain ⟨rfl, hn, a, cap, rfl⟩ := Tm.at_form hT
  have hW : Below w.heap.size w (w.alloc (.cells #[.string t.name, .slice a t.args.length cap] 50)) := (Below.refl _ _).alloc (Nat.le_refl _) _
  have bT : Box (w.alloc (.cells #[.string t.name, .slice a t.args.length cap] 50)) w.heap.size [.string t.name, .slice a t.args.length cap] := Box.new w _ _
  replace hT := Tm.at_keep (Keeps.all hW) hT
  go_enter Tryz.func78, Tryz.ntmps78
  go_wp2_with fail
  generalize (w.alloc (.cells #[.string t.name, .slice a t.args.length cap] 50)) = w0 at *
  refine (isUpper_any (byteAt t.name 0) _).mono ?_
  rintro e w1 ⟨rfl, rfl⟩
  go_wp2_with fail
  go_ret
  exact Gives.mk (ret_bool H2.out) hW

/-- f compares two terms whose names tell by their first bytes -/
def CmpsN (f : FuncId) (t : Tm) : Prop := ∀ ⦃u : Tm⦄ ⦃S : Nat → Prop⦄ ⦃c0 c1 d0 d1 : Value⦄ ⦃w : World⦄, t.nice = true → u.nice = true → Tm.at S w c0 c1 t → Tm.at S w d0 d1 u → Calls Tryz.prog f #[.agg #[c0, c1], .agg #[d0, d1]] w (Gives w (.int .i64 (Tm.cmp t u)))

set_option maxHeartbeats 2000000 in
theorem compareFuncT (f : FuncId) (hcf : Callable f) (ts us : List Tm) (hll : ts.length = us.length) (h : ∀ t ∈ ts, CmpsN f t) (ht : ∀ t ∈ ts, t.nice = true) (hu : ∀ t ∈ us, t.nice = true) {S : Nat → Prop} {v v' : Value} {w : World} (hs : D.rd S w v (Tm.sd ts)) (hs' : D.rd S w v' (Tm.sd us)) :
    Calls Tryz.prog 90 #[v, v', .func (.func f) #[] #[]] w (Gives w (.int .i64 (Tm.cmps ts us))) := by
  obtain ⟨a, cap, rfl, hlen, hcap⟩ := Tm.sd_form hs
  obtain ⟨a', cap', rfl, hlen', hcap'⟩ := Tm.sd_form hs'
  unfold big at hlen hlen'
  unfold Callable at hcf
  have HL := hid hll
  rw [← hll] at hs' hlen' hcap' ⊢
  clear hll
  go_enter Tryz.func90, Tryz.ntmps90
  go_wp2_with fail
  go_loopw [13] (fun i wr => ∃ (k : Nat), k ≤ ts.length ∧ i = .int .i64 k ∧ Hid (Tm.cmps ts us = Tm.cmps (ts.drop k) (us.drop k)) ∧ Below w.heap.size w wr) (fun i _ => ts.length - (intOf i).toNat)
  case atStart => exact ⟨0, Nat.zero_le _, rfl, by simp [Hid], Below.refl _ _⟩
  case round =>
    obtain ⟨k, hk, rfl, HK, hb⟩ := hrel
    by_cases hlt : k < ts.length
    · have hlt' : k < us.length := by rw [← HL.out]; exact hlt
      have hne : ts ≠ [] := by intro e; rw [e] at hlt; simp at hlt
      have hne' : us ≠ [] := by intro e; rw [e] at hlt'; simp at hlt'
      obtain ⟨b, off, rfl, hS, hbl, hrr⟩ := Tm.sd_get hs hne
      obtain ⟨b', off', rfl, hS', hbl', hrr'⟩ := Tm.sd_get hs' hne'
      obtain ⟨x0, x1, q0, q1, qx⟩ := hrr k hlt
      obtain ⟨y0, y1, r0, r1, rx⟩ := hrr' k hlt'
      obtain ⟨rfl, -, x, xc, rfl⟩ := Tm.at_form qx
      obtain ⟨rfl, -, y, yc, rfl⟩ := Tm.at_form rx
      replace q0 := (hb.cell (p := ⟨b, off + k * 2, none⟩) hbl).trans q0
      replace q1 := (hb.cell (p := ⟨b, off + k * 2 + 1, none⟩) hbl).trans q1
      replace r0 := (hb.cell (p := ⟨b', off' + k * 2, none⟩) hbl').trans r0
      replace r1 := (hb.cell (p := ⟨b', off' + k * 2 + 1, none⟩) hbl').trans r1
      have p0 := fun o => cell_alloc r0 o
      have p1 := fun o => cell_alloc r1 o
      replace qx := Tm.at_keep (Keeps.all hb) qx
      replace rx := Tm.at_keep (Keeps.all hb) rx
      have hmem := h ts[k] (List.getElem_mem hlt)
      have ht1 := ht ts[k] (List.getElem_mem hlt)
      have hu1 := hu us[k] (List.getElem_mem hlt')
      have HT := hid ht1
      have HU := hid hu1
      have HS := hid (Tm.cmps_drop hlt hlt')
      have hcin := Tm.cmp_in ts[k] us[k]
      have hge : ¬ (ts.length : Int) ≤ k := by omega
      clear hrr hrr' hs hs' ht hu ht1 hu1
      go_wp2_with fail
      have hbx : Below wr.heap.size wr ((wr.alloc (.cells #[.string ts[k].name, .slice x ts[k].args.length xc] 50)).alloc (.cells #[.string us[k].name, .slice y us[k].args.length yc] 50)) := ((Below.refl _ _).alloc (Nat.le_refl _) _).alloc (by simp) _
      refine (hmem HT.out HU.out (Tm.at_keep (Keeps.all hbx) qx) (Tm.at_keep (Keeps.all hbx) rx)).mono ?_
      rintro e w2 ⟨_, rfl, hb2, rfl⟩
      have hb3 := hbx.trans (hb2.mono hbx.size)
      clear hbx hb2
      by_cases hc : Tm.cmp ts[k] us[k] = 0
      · have HZ : Hid (Tm.cmps ts us = Tm.cmps (ts.drop (k + 1)) (us.drop (k + 1))) := by rw [Hid, HK.out, HS.out, hc, orZ, if_pos rfl]
        rw [hc]
        go_wp2_with fail
        go_roundw
        case rel => exact ⟨k + 1, by omega, by go_num, HZ, hb.trans (hb3.mono hb.size)⟩
        case measure => simp [intOf]; omega
      · have HZ : Hid (Tm.cmps ts us = Tm.cmp ts[k] us[k]) := by rw [Hid, HK.out, HS.out, orZ, if_neg hc]
        have hc' : (Tm.cmp ts[k] us[k] == 0) = false := by simp [hc]
        clear hc
        go_wp2_with fail
        go_ret
        exact Gives.mk (ret_i64 HZ.out.symm) (hb.trans (hb3.mono hb.size))
    · obtain rfl : k = ts.length := by omega
      have HZ : Hid (Tm.cmps ts us = 0) := by rw [Hid, HK.out, Tm.cmps_end]
      have hnl : ¬ (ts.length : Int) < ts.length := by omega
      go_wp2_with fail
      go_ret
      exact Gives.mk (ret_i64 HZ.out.symm) hb
end Go.Proofs.YtooocakkjdhfiaaGreatDoor
/- The variables of a term are collected in the order of their first occurrence. -/
namespace Go.Proofs.YtooocakkjdhfiaaGreatDoor
set_option maxRecDepth 100000
open Go.RowKit

/-- a name is put behind a list, unless it is there -/
def addStr (l : List ByteArray) (s : ByteArray) : List ByteArray := if hasStr l s = true then l else l ++ [s]
mutual
/-- the variables of a term behind a list, each once -/
def Tm.coll : Tm → List ByteArray → List ByteArray
  | .node n ts, l => if ts = [] ∧ varName n = true then addStr l n else Tm.colls ts l
def Tm.colls : List Tm → List ByteArray → List ByteArray
  | [], l => l
  | t :: ts, l => Tm.colls ts (Tm.coll t l)
end
theorem Tm.coll_eq (t : Tm) (l : List ByteArray) : t.coll l = if t.args = [] ∧ varName t.name = true then addStr l t.name else Tm.colls t.args l := by cases t; rw [Tm.coll]; rfl
theorem Tm.colls_take (ts : List Tm) (l : List ByteArray) (k : Nat) (hk : k < ts.length) : Tm.colls (ts.take (k + 1)) l = Tm.coll ts[k] (Tm.colls (ts.take k) l) := by
  induction ts generalizing l k with
  | nil => exact absurd hk (by simp)
  | cons t ts ih =>
    cases k with
    | zero => simp [Tm.colls]
    | succ k => simpa [Tm.colls] using ih (Tm.coll t l) k (by simpa using hk)
theorem addStr_length (l : List ByteArray) (s : ByteArray) : (addStr l s).length ≤ l.length + 1 := by unfold addStr; split <;> simp
theorem Tm.coll_length (t : Tm) : ∀ l, (t.coll l).length ≤ l.length + t.size := by
  refine Tm.ind (P := fun t => ∀ l, (t.coll l).length ≤ l.length + t.size) (fun n ts ih l => ?_) t
  rw [Tm.coll, Tm.size]
  split
  · have := addStr_length l n; omega
  · have key : ∀ ts : List Tm, (∀ a ∈ ts, ∀ l, (Tm.coll a l).length ≤ l.length + a.size) → ∀ l, (Tm.colls ts l).length ≤ l.length + Tm.sizes ts := by
      intro ts
      induction ts with
      | nil => intro _ l; simp [Tm.colls]
      | cons t ts iht =>
        intro h l
        have h0 := h t (by simp) l
        have h1 := iht (fun a ha => h a (by simp [ha])) (Tm.coll t l)
        rw [Tm.colls, Tm.sizes]; omega
    have := key ts ih l
    omega
theorem Tm.colls_length (ts : List Tm) : ∀ l, (Tm.colls ts l).length ≤ l.length + Tm.sizes ts := by
  induction ts with
  | nil => intro l; simp [Tm.colls]
  | cons t ts iht =>
    intro l
    have h0 := Tm.coll_length t l
    have h1 := iht (Tm.coll t l)
    rw [Tm.colls, Tm.sizes]; omega

theorem ind2 {P : Tm → Prop} (h : ∀ t, (∀ a ∈ t.args, P a) → P t) (t : Tm) : P t := Tm.ind (fun n ts ih => h (.node n ts) ih) t
/-- what collecting leaves -/
def Grew (v : Value) (ss : List ByteArray) (B : Nat) (w : World) (e : Ending) (w' : World) : Prop := ∃ v', e = .returned v' ∧ GS w' B v' ss ∧ w.grownBy w' v.ownBlock ∧ Goes w v v' ∧ (v ≠ .slice none 0 0 → v' ≠ .slice none 0 0)
def CollIs (t : Tm) : Prop := ∀ (ss : List ByteArray) (v : Value) (B : Nat) (S : Nat → Prop) (c0 c1 : Value) (w : World), GS w B v ss → B ≤ w.heap.size → Tm.at S w c0 c1 t → (∀ x, S x → x < B) → t.nice = true → t.bulk ≤ 1048576 → ss.length + t.size ≤ 1073741824 → Calls Tryz.prog 57 #[v, .agg #[c0, c1]] w (Grew v (t.coll ss) B w)

theorem keeps_low {w w' : World} {v : Value} {B : Nat} {S : Nat → Prop} (hg : w.grownBy w' v.ownBlock) (hv : ∀ k, v.ownBlock = some k → B ≤ k) (hS : ∀ x, S x → x < B) : Keeps S w w' :=
  ⟨hg.size, fun b hb hl => hg.block b hl fun e => by have := hv b e.symm; have := hS b hb; omega⟩
set_option maxHeartbeats 2000000 in
theorem collIs_of (t : Tm) (ih : ∀ a ∈ t.args, CollIs a) : CollIs t := by
  intro ss v B S c0 c1 w hv hB ht hS hni hbk hss
  have hvl := hv.lt
  obtain ⟨va, vc, rfl, hvn, hvc⟩ := hv.form
  unfold big at hvn
  have HV := hid hv
  have HS := hid ht.2
  have HT := hid ht
  have hts : t.size = 1 + Tm.sizes t.args := by cases t; rw [Tm.size]; rfl
  obtain ⟨_, _, e, hlen, -⟩ := Tm.sd_form HS.out
  unfold big at hlen
  clear e
  obtain ⟨rfl, tn, ta, tc, rfl⟩ := Tm.at_form ht
  have hW : Below w.heap.size w (w.alloc (.cells #[.string t.name, .slice ta t.args.length tc] 50)) := (Below.refl _ _).alloc (Nat.le_refl _) _
  have bt : Box (w.alloc (.cells #[.string t.name, .slice ta t.args.length tc] 50)) w.heap.size [.string t.name, .slice ta t.args.length tc] := Box.new w _ _
  have x0 := bt.c0
  have x1 := bt.c1
  have hzz : w.heap.size + 1 ≤ (w.alloc (.cells #[.string t.name, .slice ta t.args.length tc] 50)).heap.size := by simp
  have hnr := hid ((Tm.nice_iff t).1 hni).2.2
  by_cases hte : t.args = []
  · have hl0 : t.args.length = 0 := by rw [hte]; rfl
    have hz0 : ((t.args.length : Int) == 0) = true := by simp [hl0]
    by_cases hvn2 : varName t.name = true
    · have HC : Hid (t.coll ss = addStr ss t.name) := by rw [Hid, Tm.coll_eq, if_pos ⟨hte, hvn2⟩]
      have HVN := hid hvn2
      clear hte hl0 hvn2
      have hq := isVar_any hni (Tm.at_keep (Keeps.all hW) HT.out)
      go_enter Tryz.func57, Tryz.ntmps57
      go_wp2_with fail
      refine hq.mono ?_
      generalize w.alloc (.cells #[.string t.name, .slice ta t.args.length tc] 50) = w0 at *
      clear hq x0 x1
      rintro e w1 ⟨_, rfl, hb, rfl⟩
      replace hW := hW.trans (hb.mono hW.size)
      replace bt := bt.keep hb
      have hz1 := hb.size
      rw [HVN.out]
      have x0 := bt.c0
      have hrd := D.rd_keep (Keeps.all hW) _ _ HV.out.rd
      by_cases hin : hasStr ss t.name = true
      · have HA : Hid (addStr ss t.name = ss) := by rw [Hid, addStr, if_pos hin]
        have HI := hid hin
        clear hin
        go_wp2_with fail
        refine (containsStr_any t.name hrd).mono ?_
        rintro e w2 ⟨rfl, rfl⟩
        rw [HI.out]
        go_wp2_with fail
        go_ret
        exact ⟨_, rfl, by rw [HC.out, HA.out]; exact HV.out.keep hW, grown_of_below hW _, Goes.refl _ _, fun h => h⟩
      · have HA : Hid (addStr ss t.name = ss ++ [t.name]) := by rw [Hid, addStr, if_neg hin]
        have HI := hid (Bool.eq_false_iff.2 hin)
        clear hin
        have hA : Below w1.heap.size w1 (w1.alloc (.cells #[.string t.name] 9)) := (Below.refl _ _).alloc (Nat.le_refl _) _
        go_wp2_with fail
        refine (containsStr_any t.name hrd).mono ?_
        rintro e w2 ⟨rfl, rfl⟩
        rw [HI.out]
        go_wp2_with (refine wpList_append_str (B := B) (ss := ss) (y := t.name) rfl _ _ (by rfl) (by rfl) (by rfl) ((HV.out.row.keep hW).keep hA) tn (box1 _ _ _ 0) (by omega) (by rw [World.size_alloc]; have := hW.size; omega) ?_; intro g cap2 w2 hrow hgr hgo hlt2)
        go_ret
        refine ⟨_, rfl, ?_, grown_trans (grown_of_below (hW.trans (hA.mono hW.size)) _) hgr (fun x h => .inl h), fun x h => ?_, fun _ e => by cases e⟩
        · rw [HC.out, HA.out]
          have := GS.of_row hrow
          exact this
        · rcases hgo x h with q | q
          · exact .inl q
          · right; rw [World.size_alloc] at q; have := hW.size; omega
    · have HC : Hid (t.coll ss = Tm.colls t.args ss) := by rw [Hid, Tm.coll_eq, if_neg (fun h => hvn2 h.2)]
      have HVN := hid (Bool.eq_false_iff.2 hvn2)
      clear hte hl0 hvn2
      have hq := isVar_any hni (Tm.at_keep (Keeps.all hW) HT.out)
      go_enter Tryz.func57, Tryz.ntmps57
      go_wp2_with fail
      refine hq.mono ?_
      generalize w.alloc (.cells #[.string t.name, .slice ta t.args.length tc] 50) = w0 at *
      clear hq x0 x1
      rintro e w1 ⟨_, rfl, hb, rfl⟩
      replace hW := hW.trans (hb.mono hW.size)
      replace bt := bt.keep hb
      have hz1 := hb.size
      clear hb
      rw [HVN.out]
      have x1 := bt.c1
      clear hz0
      go_wp2_with fail
      clear x1
      go_loopw [0, 29] (fun x i wr => ∃ k : Nat, k ≤ t.args.length ∧ i = .int .i64 k ∧ Hid (GS wr B x (Tm.colls (t.args.take k) ss)) ∧ Hid (w1.grownBy wr (Value.slice va ss.length vc).ownBlock) ∧ Hid (Goes w1 (.slice va ss.length vc) x) ∧ Hid (Value.slice va ss.length vc ≠ .slice none 0 0 → x ≠ .slice none 0 0)) (fun _ i _ => t.args.length - (intOf i).toNat)
      case atStart => exact ⟨0, Nat.zero_le _, rfl, by rw [List.take_zero, Tm.colls]; exact HV.out.keep hW, grown_refl _ _, Goes.refl _ _, fun h => h⟩
      case round =>
        obtain ⟨k, hk, rfl, HG, HGR, HGO, HNN⟩ := hrel
        have hgz := HGR.out.size
        by_cases hlt : k < t.args.length
        · have hne : t.args ≠ [] := by intro e; rw [e] at hlt; simp at hlt
          have hr := D.rd_keep (keeps_low HGR.out (fun k hk => (hvl k hk).1) hS) _ _ (D.rd_keep (Keeps.all hW) _ _ HS.out)
          obtain ⟨b, off, rfl, hSb, hbl, hrr⟩ := Tm.sd_get hr hne
          obtain ⟨c0, c1, q0, q1, q2⟩ := hrr k hlt
          obtain ⟨rfl, -, qa, qc, rfl⟩ := Tm.at_form q2
          have hA : Below wr.heap.size wr (wr.alloc (.cells #[.string t.args[k].name, .slice qa t.args[k].args.length qc] 50)) := (Below.refl _ _).alloc (Nat.le_refl _) _
          have hbm := Tm.bulk_mem (List.getElem_mem hlt)
          have hba := Tm.args_bulk t
          have hst := Tm.sizes_take t.args k hlt
          have hsl := Tm.sizes_le t.args (k + 1)
          have hcl := Tm.colls_length (t.args.take k) ss
          have hq := ih t.args[k] (List.getElem_mem hlt) _ _ B S _ _ _ (HG.out.keep hA) (by rw [World.size_alloc]; have := hW.size; omega) (Tm.at_keep (Keeps.all hA) q2) hS (hnr.out _ (List.getElem_mem hlt)) (by omega) (by omega)
          rw [← Tm.colls_take _ _ _ hlt] at hq
          clear hrr hbm hba hst hsl hcl hr
          go_wp2_with fail
          refine hq.mono ?_
          rintro e w2 ⟨v2, rfl, hg2, hgr2, hgo2, hnn2⟩
          have HG2 := hid hg2
          have HGR2 := hid (grown_trans HGR.out (grown_trans (grown_of_below hA u0.ownBlock) hgr2 (fun x h => .inl h)) (fun x h => HGO.out x h))
          have HGO2 := hid (Goes.trans HGO.out (by rw [World.size_alloc]; omega) hgo2)
          have HNN2 := hid (fun h => hnn2 (HNN.out h))
          clear hq hg2 hgr2 hgo2 hnn2
          go_wp2_with fail
          go_roundw
          case rel => exact ⟨k + 1, by omega, by go_num, HG2, HGR2, HGO2, HNN2.out⟩
          case measure => simp [intOf]; omega
        · obtain rfl : k = t.args.length := by omega
          go_wp2_with fail
          go_ret
          refine ⟨_, rfl, by rw [HC.out]; have := HG.out; rwa [List.take_length] at this, grown_trans (grown_of_below hW _) HGR.out (fun x h => .inl h), fun x h => ?_, HNN.out⟩
          rcases HGO.out x h with q | q
          · exact .inl q
          · exact .inr (Nat.le_trans hW.size q)
  · have HC : Hid (t.coll ss = Tm.colls t.args ss) := by rw [Hid, Tm.coll_eq, if_neg (fun h => hte h.1)]
    have hl0 : t.args.length ≠ 0 := by intro e; exact hte (List.length_eq_zero_iff.1 e)
    have hz0 : ((t.args.length : Int) == 0) = false := by simp; exact hte
    clear hte hl0
    go_enter Tryz.func57, Tryz.ntmps57
    go_wp2_with fail
    clear x0 x1 hz0
    generalize w.alloc (.cells #[.string t.name, .slice ta t.args.length tc] 50) = w0 at *
    go_loopw [0, 29] (fun x i wr => ∃ k : Nat, k ≤ t.args.length ∧ i = .int .i64 k ∧ Hid (GS wr B x (Tm.colls (t.args.take k) ss)) ∧ Hid (w0.grownBy wr (Value.slice va ss.length vc).ownBlock) ∧ Hid (Goes w0 (.slice va ss.length vc) x) ∧ Hid (Value.slice va ss.length vc ≠ .slice none 0 0 → x ≠ .slice none 0 0)) (fun _ i _ => t.args.length - (intOf i).toNat)
    case atStart => exact ⟨0, Nat.zero_le _, rfl, by rw [List.take_zero, Tm.colls]; exact HV.out.keep hW, grown_refl _ _, Goes.refl _ _, fun h => h⟩
    case round =>
      obtain ⟨k, hk, rfl, HG, HGR, HGO, HNN⟩ := hrel
      have hgz := HGR.out.size
      by_cases hlt : k < t.args.length
      · have hne : t.args ≠ [] := by intro e; rw [e] at hlt; simp at hlt
        have hr := D.rd_keep (keeps_low HGR.out (fun k hk => (hvl k hk).1) hS) _ _ (D.rd_keep (Keeps.all hW) _ _ HS.out)
        obtain ⟨b, off, rfl, hSb, hbl, hrr⟩ := Tm.sd_get hr hne
        obtain ⟨c0, c1, q0, q1, q2⟩ := hrr k hlt
        obtain ⟨rfl, -, qa, qc, rfl⟩ := Tm.at_form q2
        have hA : Below wr.heap.size wr (wr.alloc (.cells #[.string t.args[k].name, .slice qa t.args[k].args.length qc] 50)) := (Below.refl _ _).alloc (Nat.le_refl _) _
        have hbm := Tm.bulk_mem (List.getElem_mem hlt)
        have hba := Tm.args_bulk t
        have hst := Tm.sizes_take t.args k hlt
        have hsl := Tm.sizes_le t.args (k + 1)
        have hcl := Tm.colls_length (t.args.take k) ss
        have hq := ih t.args[k] (List.getElem_mem hlt) _ _ B S _ _ _ (HG.out.keep hA) (by rw [World.size_alloc]; have := hW.size; omega) (Tm.at_keep (Keeps.all hA) q2) hS (hnr.out _ (List.getElem_mem hlt)) (by omega) (by omega)
        rw [← Tm.colls_take _ _ _ hlt] at hq
        clear hrr hbm hba hst hsl hcl hr
        go_wp2_with fail
        refine hq.mono ?_
        rintro e w2 ⟨v2, rfl, hg2, hgr2, hgo2, hnn2⟩
        have HG2 := hid hg2
        have HGR2 := hid (grown_trans HGR.out (grown_trans (grown_of_below hA u0.ownBlock) hgr2 (fun x h => .inl h)) (fun x h => HGO.out x h))
        have HGO2 := hid (Goes.trans HGO.out (by rw [World.size_alloc]; omega) hgo2)
        have HNN2 := hid (fun h => hnn2 (HNN.out h))
        clear hq hg2 hgr2 hgo2 hnn2
        go_wp2_with fail
        go_roundw
        case rel => exact ⟨k + 1, by omega, by go_num, HG2, HGR2, HGO2, HNN2.out⟩
        case measure => simp [intOf]; omega
      · obtain rfl : k = t.args.length := by omega
        go_wp2_with fail
        go_ret
        refine ⟨_, rfl, by rw [HC.out]; have := HG.out; rwa [List.take_length] at this, grown_trans (grown_of_below hW _) HGR.out (fun x h => .inl h), fun x h => ?_, HNN.out⟩
        rcases HGO.out x h with q | q
        · exact .inl q
        · exact .inr (Nat.le_trans hW.size q)
theorem collIs_any (t : Tm) : CollIs t := ind2 collIs_of t
end Go.Proofs.YtooocakkjdhfiaaGreatDoor
/- Variables have no arguments. -/
namespace Go.Proofs.YtooocakkjdhfiaaGreatDoor
set_option maxRecDepth 100000

mutual
/-- variables have no arguments -/
def Tm.leafy : Tm → Prop
  | .node n ts => (varName n = true → ts = []) ∧ Tm.leafies ts
def Tm.leafies : List Tm → Prop
  | [] => True
  | t :: ts => Tm.leafy t ∧ Tm.leafies ts
end
theorem Tm.leafies_iff (ts : List Tm) : Tm.leafies ts ↔ ∀ t ∈ ts, t.leafy := by
  induction ts with
  | nil => simp [Tm.leafies]
  | cons t ts ih => simp [Tm.leafies, ih]
theorem Tm.names_leafy (t : Tm) : t.names = true → t.leafy := by
  refine Tm.ind (P := fun t => t.names = true → t.leafy) (fun n ts ih h => ?_) t
  rw [Tm.names] at h
  rw [Tm.leafy, Tm.leafies_iff]
  split at h
  · have : ts = [] := by simpa using h
    subst this
    exact ⟨fun _ => rfl, by simp⟩
  · rename_i hv
    simp only [Bool.and_eq_true] at h
    exact ⟨fun h => absurd h hv, fun a ha => ih a ha ((Tm.namesAll_iff ts).1 h.2 a ha)⟩
theorem Tm.atom_leafy {t : Tm} (h : t.atom = true) : t.leafy := by
  cases t with
  | node n ts =>
    rw [Tm.atom] at h
    by_cases he : n = eqSign
    · subst he
      rw [if_pos rfl] at h
      simp only [Bool.and_eq_true] at h
      rw [Tm.leafy, Tm.leafies_iff]
      exact ⟨fun q => (by rw [show varName eqSign = false by decide +kernel] at q; cases q), fun a ha => Tm.names_leafy a ((Tm.namesAll_iff ts).1 h.2 a ha)⟩
    · rw [if_neg he, Bool.and_eq_true, Tm.valid, Bool.and_eq_true] at h
      exact Tm.names_leafy _ h.2.2
theorem Tm.expr_leafy {t : Tm} (h : t.expr = true) : t.leafy := by
  rw [Tm.expr, Bool.or_eq_true] at h
  rcases h with h | h
  · rw [Tm.valid, Bool.and_eq_true] at h
    exact Tm.names_leafy t h.2
  · exact Tm.atom_leafy h
end Go.Proofs.YtooocakkjdhfiaaGreatDoor
