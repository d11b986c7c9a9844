/- Terms are compared: the walk of the reference. -/
import Derived.Test.YtoekonkpephocaaCp
namespace Go.Proofs.Ytoekonkpephocaa
set_option maxRecDepth 100000
open Go.RowKit

theorem l2Text_any (a b : ByteArray) (w : World) : Calls Try.prog 185 #[.string a, .string b] w fun e w' => e = .returned (.int .i64 (strCmp a b)) ∧ w = w' := by
  by_cases h1 : Op.bytesLess a.toList b.toList = true
  · have HX : Hid (strCmp a b = -1) := by rw [Hid, strCmp, if_pos h1]
    go_enter Try.func185, Try.ntmps185
    go_wp2
    go_ret
    exact ⟨ret_i64 HX.out.symm, rfl⟩
  · replace h1 : Op.bytesLess a.toList b.toList = false := by simpa using h1
    by_cases h2 : a = b
    · have HX : Hid (strCmp a b = 0) := by rw [Hid, strCmp, h1]; simp [h2]
      have h3 : (a.toList == b.toList) = true := by rw [h2]; simp
      clear h2
      go_enter Try.func185, Try.ntmps185
      go_wp2
      go_ret
      exact ⟨ret_i64 HX.out.symm, rfl⟩
    · have HX : Hid (strCmp a b = 1) := by rw [Hid, strCmp, h1]; simp [h2]
      have h3 := toList_ne h2
      clear h2
      go_enter Try.func185, Try.ntmps185
      go_wp2
      go_ret
      exact ⟨ret_i64 HX.out.symm, rfl⟩

/-- f compares two terms -/
def Cmps (f : FuncId) (t : Tm) : Prop := ∀ ⦃u : Tm⦄ ⦃S : Nat → Prop⦄ ⦃c0 c1 d0 d1 : Value⦄ ⦃w : World⦄, Tm.at S w c0 c1 t → Tm.at S w d0 d1 u → Calls Try.prog f #[.agg #[c0, c1], .agg #[d0, d1]] w (Gives w (.int .i64 (Tm.cmp t u)))

set_option maxHeartbeats 4000000 in
theorem l2Compare_of (t : Tm) (h : ∀ a ∈ t.args, Cmps 164 a) : Cmps 164 t := by
  intro u S c0 c1 d0 d1 w hT hU
  have HC := hid (Tm.cmp_eq t u)
  have hlt0 : t.args.length ≤ 9223372036854775807 := by obtain ⟨_, _, _, q, _⟩ := Tm.sd_form hT.2; exact q
  have hlu0 : u.args.length ≤ 9223372036854775807 := by obtain ⟨_, _, _, q, _⟩ := Tm.sd_form hU.2; exact q
  obtain ⟨rfl, hn, a, cap, rfl⟩ := Tm.at_form hT
  obtain ⟨rfl, hm, a', cap', rfl⟩ := Tm.at_form hU
  have hW : Below w.heap.size w ((w.alloc (.cells #[.string t.name, .slice a t.args.length cap] 31)).alloc (.cells #[.string u.name, .slice a' u.args.length cap'] 31)) := ((Below.refl _ _).alloc (Nat.le_refl _) _).alloc (by simp) _
  have bT : Box ((w.alloc (.cells #[.string t.name, .slice a t.args.length cap] 31)).alloc (.cells #[.string u.name, .slice a' u.args.length cap'] 31)) w.heap.size [.string t.name, .slice a t.args.length cap] := (Box.new w _ _).alloc _
  have bU : Box ((w.alloc (.cells #[.string t.name, .slice a t.args.length cap] 31)).alloc (.cells #[.string u.name, .slice a' u.args.length cap'] 31)) (w.heap.size + 1) [.string u.name, .slice a' u.args.length cap'] := by
    have := Box.new (w.alloc (.cells #[.string t.name, .slice a t.args.length cap] 31)) [.string u.name, .slice a' u.args.length cap'] 31
    simpa only [World.size_alloc] using this
  replace hT := Tm.at_keep (Keeps.all hW) hT
  replace hU := Tm.at_keep (Keeps.all hW) hU
  go_enter Try.func164, Try.ntmps164
  go_wp2_with fail
  generalize ((w.alloc (.cells #[.string t.name, .slice a t.args.length cap] 31)).alloc (.cells #[.string u.name, .slice a' u.args.length cap'] 31)) = w0 at *
  have eT0 := bT.c0
  have eT1 := bT.c1
  have eU0 := bU.c0
  have eU1 := bU.c1
  have lT := bT.lt
  have lU := bU.lt
  refine wp_region_B [fun v _ => v = .pointer (some ⟨w.heap.size, 0, none⟩), fun v _ => v = .string t.name, fun v _ => v = .bool (varName t.name), fun v _ => v = .pointer (some ⟨(w.heap.size + 1), 0, none⟩), fun v _ => v = .string u.name, fun v _ => v = .bool (varName u.name), fun v _ => v = .bool (varName t.name), fun v _ => v = .bool (varName u.name)] _ (fun V => by simp [putAll, Act.put]; rfl) (by kernel_rfl) (by decide) (by simp) (by kernel_rfl) ?_ ?_ ?_
  · intro F hF
    simp only [List.mem_cons, List.not_mem_nil, or_false] at hF
    rcases hF with rfl | rfl | rfl | rfl | rfl | rfl | rfl | rfl
    · exact stable_eq
    · exact stable_eq
    · exact stable_eq
    · exact stable_eq
    · exact stable_eq
    · exact stable_eq
    · exact stable_eq
    · exact stable_eq
  · refine ⟨?_, ?_, ?_, ?_, ?_, ?_, ?_, ?_, trivial⟩
    · intro V w1 hbR _
      unfold Does
      go_simp
      exact ⟨Below.refl _ _, rfl⟩
    · intro V w1 hbR ⟨f0, _⟩
      replace f0 : V 0 = .pointer (some ⟨w.heap.size, 0, none⟩) := f0
      obtain ⟨hc, hf⟩ := bcell hbR
      try simp only [World.size_alloc, World.size_setCell] at hc hf
      unfold Does
      go_simp
      exact ⟨Below.refl _ _, rfl⟩
    · intro V w1 hbR ⟨f1, _⟩
      replace f1 : V 1 = .string t.name := f1
      obtain ⟨hc, hf⟩ := bcell hbR
      try simp only [World.size_alloc, World.size_setCell] at hc hf
      unfold Does
      go_simp
      refine (l2Var_any _ hn w1).mono ?_; rintro e w4 ⟨rfl, rfl⟩; exact ⟨_, rfl, Below.refl _ _, rfl⟩
    · intro V w1 hbR _
      unfold Does
      go_simp
      exact ⟨Below.refl _ _, rfl⟩
    · intro V w1 hbR ⟨f3, _⟩
      replace f3 : V 3 = .pointer (some ⟨(w.heap.size + 1), 0, none⟩) := f3
      obtain ⟨hc, hf⟩ := bcell hbR
      try simp only [World.size_alloc, World.size_setCell] at hc hf
      unfold Does
      go_simp
      exact ⟨Below.refl _ _, rfl⟩
    · intro V w1 hbR ⟨f4, f2, _⟩
      replace f2 : V 2 = .bool (varName t.name) := f2
      replace f4 : V 4 = .string u.name := f4
      obtain ⟨hc, hf⟩ := bcell hbR
      try simp only [World.size_alloc, World.size_setCell] at hc hf
      unfold Does
      go_simp
      refine (l2Var_any _ hm w1).mono ?_; rintro e w4 ⟨rfl, rfl⟩; exact ⟨_, rfl, Below.refl _ _, rfl⟩
    · intro V w1 hbR ⟨f2, f5, f0, f1, _, _⟩
      replace f0 : V 0 = .pointer (some ⟨w.heap.size, 0, none⟩) := f0
      replace f1 : V 1 = .string t.name := f1
      replace f2 : V 2 = .bool (varName t.name) := f2
      replace f5 : V 5 = .bool (varName u.name) := f5
      unfold Does
      go_simp
      exact ⟨Below.refl _ _, rfl⟩
    · intro V w1 hbR ⟨f5, f6, f0, f1, f2, f3, f4, _, _, _⟩
      replace f0 : V 0 = .pointer (some ⟨w.heap.size, 0, none⟩) := f0
      replace f1 : V 1 = .string t.name := f1
      replace f2 : V 2 = .bool (varName t.name) := f2
      replace f3 : V 3 = .pointer (some ⟨(w.heap.size + 1), 0, none⟩) := f3
      replace f4 : V 4 = .string u.name := f4
      replace f5 : V 5 = .bool (varName u.name) := f5
      replace f6 : V 6 = .bool (varName t.name) := f6
      unfold Does
      go_simp
      exact ⟨Below.refl _ _, rfl⟩
  intro V w1 hbR hfR
  obtain ⟨f0, f1, f2, f3, f4, f5, f6, f7, _⟩ := hfR
  replace f0 : V 0 = .pointer (some ⟨w.heap.size, 0, none⟩) := f0
  replace f1 : V 1 = .string t.name := f1
  replace f2 : V 2 = .bool (varName t.name) := f2
  replace f3 : V 3 = .pointer (some ⟨(w.heap.size + 1), 0, none⟩) := f3
  replace f4 : V 4 = .string u.name := f4
  replace f5 : V 5 = .bool (varName u.name) := f5
  replace f6 : V 6 = .bool (varName t.name) := f6
  replace f7 : V 7 = .bool (varName u.name) := f7
  simp only [f0, f1, f2, f3, f4, f5, f6, f7]
  clear f0 f1 f2 f3 f4 f5 f6 f7
  clear eT0 eT1 eU0 eU1 lT lU
  replace hW := hW.trans (hbR.mono hW.size)
  replace bT := bT.keep hbR
  replace bU := bU.keep hbR
  replace hT := Tm.at_keep (Keeps.all hbR) hT
  replace hU := Tm.at_keep (Keeps.all hbR) hU
  clear hbR
  have eT0 := bT.c0
  have eT1 := bT.c1
  have eU0 := bU.c0
  have eU1 := bU.c1
  have lT := bT.lt
  have lU := bU.lt
  by_cases ht : varName t.name = true
  · by_cases hu : varName u.name = true
    · rw [ht, hu]
      have HD : Hid (Tm.cmp t u = orZ (strCmp t.name u.name) (orZ (numCmp t.args.length u.args.length) (Tm.cmps t.args u.args))) := by rw [Hid, HC.out, ht, hu]; rfl
      clear ht hu
      by_cases hnm : t.name = u.name
      · have hs1 : (t.name.toList == u.name.toList) = true := by rw [hnm]; simp
        have HE : Hid (Tm.cmp t u = orZ (numCmp t.args.length u.args.length) (Tm.cmps t.args u.args)) := by rw [Hid, HD.out, hnm, strCmp_self, orZ, if_pos rfl]
        clear hnm
        by_cases hl1 : t.args.length < u.args.length
        · have hl1' : (t.args.length : Int) < u.args.length := by omega
          have HX : Hid (Tm.cmp t u = -1) := by rw [Hid, HE.out, numCmp, if_pos hl1', orZ]; rfl
          go_wp2_with fail
          go_ret
          exact Gives.mk (ret_i64 HX.out.symm) hW
        · by_cases hl2 : u.args.length < t.args.length
          · have hl2' : (u.args.length : Int) < t.args.length := by omega
            have hl1' : ¬ (t.args.length : Int) < u.args.length := by omega
            have HX : Hid (Tm.cmp t u = 1) := by rw [Hid, HE.out, numCmp, if_neg hl1', if_pos hl2', orZ]; rfl
            go_wp2_with fail
            go_ret
            exact Gives.mk (ret_i64 HX.out.symm) hW
          · have hll : t.args.length = u.args.length := by omega
            have hl1' : ¬ (t.args.length : Int) < u.args.length := by omega
            have hl2' : ¬ (u.args.length : Int) < t.args.length := by omega
            have HX : Hid (Tm.cmp t u = Tm.cmps t.args u.args) := by rw [Hid, HE.out, numCmp, if_neg hl1', if_neg hl2', orZ, if_pos rfl]
            have HL := hid hll
            clear hll hl1 hl2
            go_wp2_with fail
            clear eT0 eT1 eU0 eU1 lT lU
            rename World => w1
            go_loopw [7] (fun i wr => ∃ (k : Nat), k ≤ t.args.length ∧ i = .int .i64 k ∧ Hid (Tm.cmp t u = Tm.cmps (t.args.drop k) (u.args.drop k)) ∧ Below w1.heap.size w1 wr) (fun i _ => t.args.length - (intOf i).toNat)
            case atStart => exact ⟨0, Nat.zero_le _, rfl, by simpa using HX, Below.refl _ _⟩
            case round =>
              obtain ⟨k, hk, rfl, HK, hb⟩ := hrel
              replace hW := hW.trans (hb.mono hW.size)
              replace bT := bT.keep hb
              replace bU := bU.keep hb
              have eT0 := bT.c0
              have eT1 := bT.c1
              have eU0 := bU.c0
              have eU1 := bU.c1
              have lT := bT.lt
              have lU := bU.lt
              by_cases hlt : k < t.args.length
              · have hlt' : k < u.args.length := by rw [← HL.out]; exact hlt
                have hne : t.args ≠ [] := by intro e; rw [e] at hlt; simp at hlt
                have hne' : u.args ≠ [] := by intro e; rw [e] at hlt'; simp at hlt'
                obtain ⟨b, off, rfl, hS, hbl, hrr⟩ := Tm.sd_get hT.2 hne
                obtain ⟨b', off', rfl, hS', hbl', hrr'⟩ := Tm.sd_get hU.2 hne'
                obtain ⟨x0, x1, q0, q1, qx⟩ := hrr k hlt
                obtain ⟨y0, y1, r0, r1, rx⟩ := hrr' k hlt'
                replace q0 := (hb.cell (p := ⟨b, off + k * 2, none⟩) hbl).trans q0
                replace q1 := (hb.cell (p := ⟨b, off + k * 2 + 1, none⟩) hbl).trans q1
                replace r0 := (hb.cell (p := ⟨b', off' + k * 2, none⟩) hbl').trans r0
                replace r1 := (hb.cell (p := ⟨b', off' + k * 2 + 1, none⟩) hbl').trans r1
                replace qx := Tm.at_keep (Keeps.all hb) qx
                replace rx := Tm.at_keep (Keeps.all hb) rx
                have hmem := h t.args[k] (List.getElem_mem hlt)
                have HS := hid (Tm.cmps_drop hlt hlt')
                have hcin := Tm.cmp_in t.args[k] u.args[k]
                clear hrr hrr'
                go_wp2_with fail
                have hb0 : b < wr.heap.size := Nat.lt_of_lt_of_le hbl hb.size
                have hb0' : b' < wr.heap.size := Nat.lt_of_lt_of_le hbl' hb.size
                refine wp_region_B [fun v _ => v = .pointer (some ⟨w.heap.size, 1, none⟩), fun v _ => v = .slice (some ⟨b, off, none⟩) t.args.length cap, fun v _ => v = .int .i64 k, fun v _ => v = .pointer (some ⟨b, off + k * 2, none⟩), fun v _ => v = .agg #[x0, x1], fun v _ => v = .pointer (some ⟨(w.heap.size + 1), 1, none⟩), fun v _ => v = .slice (some ⟨b', off', none⟩) u.args.length cap', fun v _ => v = .int .i64 k, fun v _ => v = .pointer (some ⟨b', off' + k * 2, none⟩), fun v _ => v = .agg #[y0, y1], fun v _ => v = .int .i64 (Tm.cmp t.args[k] u.args[k]), fun v _ => v = .int .i64 (Tm.cmp t.args[k] u.args[k])] _ (fun V => by simp [putAll, Act.put]; rfl) (by kernel_rfl) (by decide) (by simp) (by kernel_rfl) ?_ ?_ ?_
                · intro F hF
                  simp only [List.mem_cons, List.not_mem_nil, or_false] at hF
                  rcases hF with rfl | rfl | rfl | rfl | rfl | rfl | rfl | rfl | rfl | rfl | rfl | rfl
                  · exact stable_eq
                  · exact stable_eq
                  · exact stable_eq
                  · exact stable_eq
                  · exact stable_eq
                  · exact stable_eq
                  · exact stable_eq
                  · exact stable_eq
                  · exact stable_eq
                  · exact stable_eq
                  · exact stable_eq
                  · exact stable_eq
                · refine ⟨?_, ?_, ?_, ?_, ?_, ?_, ?_, ?_, ?_, ?_, ?_, ?_, trivial⟩
                  · intro V w1 hbR _
                    unfold Does
                    go_simp
                    exact ⟨Below.refl _ _, rfl⟩
                  · intro V w1 hbR ⟨f0, _⟩
                    replace f0 : V 0 = .pointer (some ⟨w.heap.size, 1, none⟩) := f0
                    obtain ⟨hc, hf⟩ := bcell hbR
                    try simp only [World.size_alloc, World.size_setCell] at hc hf
                    unfold Does
                    go_simp
                    exact ⟨Below.refl _ _, rfl⟩
                  · intro V w1 hbR _
                    unfold Does
                    go_simp
                    exact ⟨Below.refl _ _, rfl⟩
                  · intro V w1 hbR ⟨f1, f2, _⟩
                    replace f1 : V 1 = .slice (some ⟨b, off, none⟩) t.args.length cap := f1
                    replace f2 : V 2 = .int .i64 k := f2
                    unfold Does
                    go_simp
                    exact ⟨Below.refl _ _, rfl⟩
                  · intro V w1 hbR ⟨f3, _⟩
                    replace f3 : V 3 = .pointer (some ⟨b, off + k * 2, none⟩) := f3
                    obtain ⟨hc, hf⟩ := bcell hbR
                    try simp only [World.size_alloc, World.size_setCell] at hc hf
                    unfold Does
                    go_simp
                    exact ⟨Below.refl _ _, rfl⟩
                  · intro V w1 hbR _
                    unfold Does
                    go_simp
                    exact ⟨Below.refl _ _, rfl⟩
                  · intro V w1 hbR ⟨f5, _⟩
                    replace f5 : V 5 = .pointer (some ⟨(w.heap.size + 1), 1, none⟩) := f5
                    obtain ⟨hc, hf⟩ := bcell hbR
                    try simp only [World.size_alloc, World.size_setCell] at hc hf
                    unfold Does
                    go_simp
                    exact ⟨Below.refl _ _, rfl⟩
                  · intro V w1 hbR _
                    unfold Does
                    go_simp
                    exact ⟨Below.refl _ _, rfl⟩
                  · intro V w1 hbR ⟨f6, f7, _⟩
                    replace f6 : V 6 = .slice (some ⟨b', off', none⟩) u.args.length cap' := f6
                    replace f7 : V 7 = .int .i64 k := f7
                    unfold Does
                    go_simp
                    exact ⟨Below.refl _ _, rfl⟩
                  · intro V w1 hbR ⟨f8, _⟩
                    replace f8 : V 8 = .pointer (some ⟨b', off' + k * 2, none⟩) := f8
                    obtain ⟨hc, hf⟩ := bcell hbR
                    try simp only [World.size_alloc, World.size_setCell] at hc hf
                    unfold Does
                    go_simp
                    exact ⟨Below.refl _ _, rfl⟩
                  · intro V w1 hbR ⟨f4, f9, _⟩
                    replace f4 : V 4 = .agg #[x0, x1] := f4
                    replace f9 : V 9 = .agg #[y0, y1] := f9
                    obtain ⟨hc, hf⟩ := bcell hbR
                    try simp only [World.size_alloc, World.size_setCell] at hc hf
                    unfold Does
                    go_simp
                    exact hmem (Tm.at_keep (Keeps.all hbR) qx) (Tm.at_keep (Keeps.all hbR) rx)
                  · intro V w1 hbR ⟨f10, _, f0, f1, f2, f3, f4, f5, f6, f7, f8, f9, _, _⟩
                    replace f0 : V 0 = .pointer (some ⟨w.heap.size, 1, none⟩) := f0
                    replace f1 : V 1 = .slice (some ⟨b, off, none⟩) t.args.length cap := f1
                    replace f2 : V 2 = .int .i64 k := f2
                    replace f3 : V 3 = .pointer (some ⟨b, off + k * 2, none⟩) := f3
                    replace f4 : V 4 = .agg #[x0, x1] := f4
                    replace f5 : V 5 = .pointer (some ⟨(w.heap.size + 1), 1, none⟩) := f5
                    replace f6 : V 6 = .slice (some ⟨b', off', none⟩) u.args.length cap' := f6
                    replace f7 : V 7 = .int .i64 k := f7
                    replace f8 : V 8 = .pointer (some ⟨b', off' + k * 2, none⟩) := f8
                    replace f9 : V 9 = .agg #[y0, y1] := f9
                    replace f10 : V 10 = .int .i64 (Tm.cmp t.args[k] u.args[k]) := f10
                    unfold Does
                    go_simp
                    exact ⟨Below.refl _ _, rfl⟩
                intro V w2 hbR hfR
                obtain ⟨f0, f1, f2, f3, f4, f5, f6, f7, f8, f9, f10, f11, _⟩ := hfR
                replace f0 : V 0 = .pointer (some ⟨w.heap.size, 1, none⟩) := f0
                replace f1 : V 1 = .slice (some ⟨b, off, none⟩) t.args.length cap := f1
                replace f2 : V 2 = .int .i64 k := f2
                replace f3 : V 3 = .pointer (some ⟨b, off + k * 2, none⟩) := f3
                replace f4 : V 4 = .agg #[x0, x1] := f4
                replace f5 : V 5 = .pointer (some ⟨(w.heap.size + 1), 1, none⟩) := f5
                replace f6 : V 6 = .slice (some ⟨b', off', none⟩) u.args.length cap' := f6
                replace f7 : V 7 = .int .i64 k := f7
                replace f8 : V 8 = .pointer (some ⟨b', off' + k * 2, none⟩) := f8
                replace f9 : V 9 = .agg #[y0, y1] := f9
                replace f10 : V 10 = .int .i64 (Tm.cmp t.args[k] u.args[k]) := f10
                replace f11 : V 11 = .int .i64 (Tm.cmp t.args[k] u.args[k]) := f11
                simp only [f0, f1, f2, f3, f4, f5, f6, f7, f8, f9, f10, f11]
                clear f0 f1 f2 f3 f4 f5 f6 f7 f8 f9 f10 f11
                clear eT0 eT1 eU0 eU1 lT lU
                by_cases hc : Tm.cmp t.args[k] u.args[k] = 0
                · have HZ : Hid (Tm.cmp t u = Tm.cmps (t.args.drop (k + 1)) (u.args.drop (k + 1))) := by rw [Hid, HK.out, HS.out, hc, orZ, if_pos rfl]
                  rw [hc]
                  go_wp2_with fail
                  go_roundw
                  case rel => exact ⟨k + 1, by omega, by go_num, HZ, hb.trans (hbR.mono hb.size)⟩
                  case measure => simp [intOf]; omega
                · have HZ : Hid (Tm.cmp t u = Tm.cmp t.args[k] u.args[k]) := by rw [Hid, HK.out, HS.out, orZ, if_neg hc]
                  have hc' : (Tm.cmp t.args[k] u.args[k] == 0) = false := by simp [hc]
                  clear hc
                  go_wp2_with fail
                  go_ret
                  exact Gives.mk (ret_i64 HZ.out.symm) (hW.trans (hbR.mono hW.size))
              · obtain rfl : k = t.args.length := by omega
                have HZ : Hid (Tm.cmp t u = 0) := by rw [Hid, HK.out, Tm.cmps_end]
                go_wp2_with fail
                go_ret
                exact Gives.mk (ret_i64 HZ.out.symm) hW
      · have hs1 := toList_ne hnm
        have HX : Hid (Tm.cmp t u = strCmp t.name u.name) := by rw [Hid, HD.out, orZ, if_neg (strCmp_ne hnm)]
        clear hnm
        go_wp2_with fail
        refine (l2Text_any _ _ _).mono ?_
        rintro e w4 ⟨rfl, rfl⟩
        go_wp2_with fail
        go_ret
        exact Gives.mk (ret_i64 HX.out.symm) hW
    · replace hu : varName u.name = false := by simpa using hu
      have HX : Hid (Tm.cmp t u = -1) := by rw [Hid, HC.out, ht, hu]; rfl
      rw [ht, hu]
      clear ht hu
      go_wp2_with fail
      go_ret
      exact Gives.mk (ret_i64 HX.out.symm) hW
  · replace ht : varName t.name = false := by simpa using ht
    by_cases hu : varName u.name = true
    · have HX : Hid (Tm.cmp t u = 1) := by rw [Hid, HC.out, ht, hu]; rfl
      rw [ht, hu]
      clear ht hu
      go_wp2_with fail
      go_ret
      exact Gives.mk (ret_i64 HX.out.symm) hW
    · replace hu : varName u.name = false := by simpa using hu
      have HD : Hid (Tm.cmp t u = orZ (strCmp t.name u.name) (orZ (numCmp t.args.length u.args.length) (Tm.cmps t.args u.args))) := by rw [Hid, HC.out, ht, hu]; rfl
      rw [ht, hu]
      clear ht hu
      by_cases hnm : t.name = u.name
      · have hs1 : (t.name.toList == u.name.toList) = true := by rw [hnm]; simp
        have HE : Hid (Tm.cmp t u = orZ (numCmp t.args.length u.args.length) (Tm.cmps t.args u.args)) := by rw [Hid, HD.out, hnm, strCmp_self, orZ, if_pos rfl]
        clear hnm
        by_cases hl1 : t.args.length < u.args.length
        · have hl1' : (t.args.length : Int) < u.args.length := by omega
          have HX : Hid (Tm.cmp t u = -1) := by rw [Hid, HE.out, numCmp, if_pos hl1', orZ]; rfl
          go_wp2_with fail
          go_ret
          exact Gives.mk (ret_i64 HX.out.symm) hW
        · by_cases hl2 : u.args.length < t.args.length
          · have hl2' : (u.args.length : Int) < t.args.length := by omega
            have hl1' : ¬ (t.args.length : Int) < u.args.length := by omega
            have HX : Hid (Tm.cmp t u = 1) := by rw [Hid, HE.out, numCmp, if_neg hl1', if_pos hl2', orZ]; rfl
            go_wp2_with fail
            go_ret
            exact Gives.mk (ret_i64 HX.out.symm) hW
          · have hll : t.args.length = u.args.length := by omega
            have hl1' : ¬ (t.args.length : Int) < u.args.length := by omega
            have hl2' : ¬ (u.args.length : Int) < t.args.length := by omega
            have HX : Hid (Tm.cmp t u = Tm.cmps t.args u.args) := by rw [Hid, HE.out, numCmp, if_neg hl1', if_neg hl2', orZ, if_pos rfl]
            have HL := hid hll
            clear hll hl1 hl2
            go_wp2_with fail
            clear eT0 eT1 eU0 eU1 lT lU
            rename World => w1
            go_loopw [7] (fun i wr => ∃ (k : Nat), k ≤ t.args.length ∧ i = .int .i64 k ∧ Hid (Tm.cmp t u = Tm.cmps (t.args.drop k) (u.args.drop k)) ∧ Below w1.heap.size w1 wr) (fun i _ => t.args.length - (intOf i).toNat)
            case atStart => exact ⟨0, Nat.zero_le _, rfl, by simpa using HX, Below.refl _ _⟩
            case round =>
              obtain ⟨k, hk, rfl, HK, hb⟩ := hrel
              replace hW := hW.trans (hb.mono hW.size)
              replace bT := bT.keep hb
              replace bU := bU.keep hb
              have eT0 := bT.c0
              have eT1 := bT.c1
              have eU0 := bU.c0
              have eU1 := bU.c1
              have lT := bT.lt
              have lU := bU.lt
              by_cases hlt : k < t.args.length
              · have hlt' : k < u.args.length := by rw [← HL.out]; exact hlt
                have hne : t.args ≠ [] := by intro e; rw [e] at hlt; simp at hlt
                have hne' : u.args ≠ [] := by intro e; rw [e] at hlt'; simp at hlt'
                obtain ⟨b, off, rfl, hS, hbl, hrr⟩ := Tm.sd_get hT.2 hne
                obtain ⟨b', off', rfl, hS', hbl', hrr'⟩ := Tm.sd_get hU.2 hne'
                obtain ⟨x0, x1, q0, q1, qx⟩ := hrr k hlt
                obtain ⟨y0, y1, r0, r1, rx⟩ := hrr' k hlt'
                replace q0 := (hb.cell (p := ⟨b, off + k * 2, none⟩) hbl).trans q0
                replace q1 := (hb.cell (p := ⟨b, off + k * 2 + 1, none⟩) hbl).trans q1
                replace r0 := (hb.cell (p := ⟨b', off' + k * 2, none⟩) hbl').trans r0
                replace r1 := (hb.cell (p := ⟨b', off' + k * 2 + 1, none⟩) hbl').trans r1
                replace qx := Tm.at_keep (Keeps.all hb) qx
                replace rx := Tm.at_keep (Keeps.all hb) rx
                have hmem := h t.args[k] (List.getElem_mem hlt)
                have HS := hid (Tm.cmps_drop hlt hlt')
                have hcin := Tm.cmp_in t.args[k] u.args[k]
                clear hrr hrr'
                go_wp2_with fail
                have hb0 : b < wr.heap.size := Nat.lt_of_lt_of_le hbl hb.size
                have hb0' : b' < wr.heap.size := Nat.lt_of_lt_of_le hbl' hb.size
                refine wp_region_B [fun v _ => v = .pointer (some ⟨w.heap.size, 1, none⟩), fun v _ => v = .slice (some ⟨b, off, none⟩) t.args.length cap, fun v _ => v = .int .i64 k, fun v _ => v = .pointer (some ⟨b, off + k * 2, none⟩), fun v _ => v = .agg #[x0, x1], fun v _ => v = .pointer (some ⟨(w.heap.size + 1), 1, none⟩), fun v _ => v = .slice (some ⟨b', off', none⟩) u.args.length cap', fun v _ => v = .int .i64 k, fun v _ => v = .pointer (some ⟨b', off' + k * 2, none⟩), fun v _ => v = .agg #[y0, y1], fun v _ => v = .int .i64 (Tm.cmp t.args[k] u.args[k]), fun v _ => v = .int .i64 (Tm.cmp t.args[k] u.args[k])] _ (fun V => by simp [putAll, Act.put]; rfl) (by kernel_rfl) (by decide) (by simp) (by kernel_rfl) ?_ ?_ ?_
                · intro F hF
                  simp only [List.mem_cons, List.not_mem_nil, or_false] at hF
                  rcases hF with rfl | rfl | rfl | rfl | rfl | rfl | rfl | rfl | rfl | rfl | rfl | rfl
                  · exact stable_eq
                  · exact stable_eq
                  · exact stable_eq
                  · exact stable_eq
                  · exact stable_eq
                  · exact stable_eq
                  · exact stable_eq
                  · exact stable_eq
                  · exact stable_eq
                  · exact stable_eq
                  · exact stable_eq
                  · exact stable_eq
                · refine ⟨?_, ?_, ?_, ?_, ?_, ?_, ?_, ?_, ?_, ?_, ?_, ?_, trivial⟩
                  · intro V w1 hbR _
                    unfold Does
                    go_simp
                    exact ⟨Below.refl _ _, rfl⟩
                  · intro V w1 hbR ⟨f0, _⟩
                    replace f0 : V 0 = .pointer (some ⟨w.heap.size, 1, none⟩) := f0
                    obtain ⟨hc, hf⟩ := bcell hbR
                    try simp only [World.size_alloc, World.size_setCell] at hc hf
                    unfold Does
                    go_simp
                    exact ⟨Below.refl _ _, rfl⟩
                  · intro V w1 hbR _
                    unfold Does
                    go_simp
                    exact ⟨Below.refl _ _, rfl⟩
                  · intro V w1 hbR ⟨f1, f2, _⟩
                    replace f1 : V 1 = .slice (some ⟨b, off, none⟩) t.args.length cap := f1
                    replace f2 : V 2 = .int .i64 k := f2
                    unfold Does
                    go_simp
                    exact ⟨Below.refl _ _, rfl⟩
                  · intro V w1 hbR ⟨f3, _⟩
                    replace f3 : V 3 = .pointer (some ⟨b, off + k * 2, none⟩) := f3
                    obtain ⟨hc, hf⟩ := bcell hbR
                    try simp only [World.size_alloc, World.size_setCell] at hc hf
                    unfold Does
                    go_simp
                    exact ⟨Below.refl _ _, rfl⟩
                  · intro V w1 hbR _
                    unfold Does
                    go_simp
                    exact ⟨Below.refl _ _, rfl⟩
                  · intro V w1 hbR ⟨f5, _⟩
                    replace f5 : V 5 = .pointer (some ⟨(w.heap.size + 1), 1, none⟩) := f5
                    obtain ⟨hc, hf⟩ := bcell hbR
                    try simp only [World.size_alloc, World.size_setCell] at hc hf
                    unfold Does
                    go_simp
                    exact ⟨Below.refl _ _, rfl⟩
                  · intro V w1 hbR _
                    unfold Does
                    go_simp
                    exact ⟨Below.refl _ _, rfl⟩
                  · intro V w1 hbR ⟨f6, f7, _⟩
                    replace f6 : V 6 = .slice (some ⟨b', off', none⟩) u.args.length cap' := f6
                    replace f7 : V 7 = .int .i64 k := f7
                    unfold Does
                    go_simp
                    exact ⟨Below.refl _ _, rfl⟩
                  · intro V w1 hbR ⟨f8, _⟩
                    replace f8 : V 8 = .pointer (some ⟨b', off' + k * 2, none⟩) := f8
                    obtain ⟨hc, hf⟩ := bcell hbR
                    try simp only [World.size_alloc, World.size_setCell] at hc hf
                    unfold Does
                    go_simp
                    exact ⟨Below.refl _ _, rfl⟩
                  · intro V w1 hbR ⟨f4, f9, _⟩
                    replace f4 : V 4 = .agg #[x0, x1] := f4
                    replace f9 : V 9 = .agg #[y0, y1] := f9
                    obtain ⟨hc, hf⟩ := bcell hbR
                    try simp only [World.size_alloc, World.size_setCell] at hc hf
                    unfold Does
                    go_simp
                    exact hmem (Tm.at_keep (Keeps.all hbR) qx) (Tm.at_keep (Keeps.all hbR) rx)
                  · intro V w1 hbR ⟨f10, _, f0, f1, f2, f3, f4, f5, f6, f7, f8, f9, _, _⟩
                    replace f0 : V 0 = .pointer (some ⟨w.heap.size, 1, none⟩) := f0
                    replace f1 : V 1 = .slice (some ⟨b, off, none⟩) t.args.length cap := f1
                    replace f2 : V 2 = .int .i64 k := f2
                    replace f3 : V 3 = .pointer (some ⟨b, off + k * 2, none⟩) := f3
                    replace f4 : V 4 = .agg #[x0, x1] := f4
                    replace f5 : V 5 = .pointer (some ⟨(w.heap.size + 1), 1, none⟩) := f5
                    replace f6 : V 6 = .slice (some ⟨b', off', none⟩) u.args.length cap' := f6
                    replace f7 : V 7 = .int .i64 k := f7
                    replace f8 : V 8 = .pointer (some ⟨b', off' + k * 2, none⟩) := f8
                    replace f9 : V 9 = .agg #[y0, y1] := f9
                    replace f10 : V 10 = .int .i64 (Tm.cmp t.args[k] u.args[k]) := f10
                    unfold Does
                    go_simp
                    exact ⟨Below.refl _ _, rfl⟩
                intro V w2 hbR hfR
                obtain ⟨f0, f1, f2, f3, f4, f5, f6, f7, f8, f9, f10, f11, _⟩ := hfR
                replace f0 : V 0 = .pointer (some ⟨w.heap.size, 1, none⟩) := f0
                replace f1 : V 1 = .slice (some ⟨b, off, none⟩) t.args.length cap := f1
                replace f2 : V 2 = .int .i64 k := f2
                replace f3 : V 3 = .pointer (some ⟨b, off + k * 2, none⟩) := f3
                replace f4 : V 4 = .agg #[x0, x1] := f4
                replace f5 : V 5 = .pointer (some ⟨(w.heap.size + 1), 1, none⟩) := f5
                replace f6 : V 6 = .slice (some ⟨b', off', none⟩) u.args.length cap' := f6
                replace f7 : V 7 = .int .i64 k := f7
                replace f8 : V 8 = .pointer (some ⟨b', off' + k * 2, none⟩) := f8
                replace f9 : V 9 = .agg #[y0, y1] := f9
                replace f10 : V 10 = .int .i64 (Tm.cmp t.args[k] u.args[k]) := f10
                replace f11 : V 11 = .int .i64 (Tm.cmp t.args[k] u.args[k]) := f11
                simp only [f0, f1, f2, f3, f4, f5, f6, f7, f8, f9, f10, f11]
                clear f0 f1 f2 f3 f4 f5 f6 f7 f8 f9 f10 f11
                clear eT0 eT1 eU0 eU1 lT lU
                by_cases hc : Tm.cmp t.args[k] u.args[k] = 0
                · have HZ : Hid (Tm.cmp t u = Tm.cmps (t.args.drop (k + 1)) (u.args.drop (k + 1))) := by rw [Hid, HK.out, HS.out, hc, orZ, if_pos rfl]
                  rw [hc]
                  go_wp2_with fail
                  go_roundw
                  case rel => exact ⟨k + 1, by omega, by go_num, HZ, hb.trans (hbR.mono hb.size)⟩
                  case measure => simp [intOf]; omega
                · have HZ : Hid (Tm.cmp t u = Tm.cmp t.args[k] u.args[k]) := by rw [Hid, HK.out, HS.out, orZ, if_neg hc]
                  have hc' : (Tm.cmp t.args[k] u.args[k] == 0) = false := by simp [hc]
                  clear hc
                  go_wp2_with fail
                  go_ret
                  exact Gives.mk (ret_i64 HZ.out.symm) (hW.trans (hbR.mono hW.size))
              · obtain rfl : k = t.args.length := by omega
                have HZ : Hid (Tm.cmp t u = 0) := by rw [Hid, HK.out, Tm.cmps_end]
                go_wp2_with fail
                go_ret
                exact Gives.mk (ret_i64 HZ.out.symm) hW
      · have hs1 := toList_ne hnm
        have HX : Hid (Tm.cmp t u = strCmp t.name u.name) := by rw [Hid, HD.out, orZ, if_neg (strCmp_ne hnm)]
        clear hnm
        go_wp2_with fail
        refine (l2Text_any _ _ _).mono ?_
        rintro e w4 ⟨rfl, rfl⟩
        go_wp2_with fail
        go_ret
        exact Gives.mk (ret_i64 HX.out.symm) hW
theorem l2Compare_any (t : Tm) : Cmps 164 t := Tm.ind (P := Cmps 164) (fun n ts h => l2Compare_of (.node n ts) h) t
end Go.Proofs.Ytoekonkpephocaa
