/- Several texts in one file. -/
import Derived.Test.YtglhbaigigdeeaaGreatQ16
/- Is a substitution valid? The reference. -/
namespace Go.Proofs.YtglhbaigigdeeaaGreat
set_option maxRecDepth 100000
open Go.RowKit

set_option maxHeartbeats 4000000 in
theorem l4Good_any {x : Sb} {S : Nat → Prop} {c0 : Value} {w : World} (hr : Sb.at S w c0 x) (hbk : x.bulk ≤ 1048576) : Calls Tryz.prog 37 #[.agg #[c0]] w (Gives w (.bool x.valid)) := by
  obtain ⟨ts⟩ := x
  rw [Sb.bulk] at hbk
  unfold Sb.at at hr
  simp only at hr hbk
  obtain ⟨a, cap, rfl, hlen, hcap⟩ := Bnd.sd_form hr
  unfold big at hlen
  go_enter Tryz.func37, Tryz.ntmps37
  go_wp2_with fail
  go_loopw [3] (fun i wr => ∃ (k : Nat), k ≤ ts.length ∧ i = .int .i64 k ∧ Hid (∀ i, i < k → Bnd.okAt ts i = true) ∧ Below (w.heap.size + 1) (w.alloc (.cells #[.slice a ts.length cap] 40)) wr) (fun i _ => ts.length - (intOf i).toNat)
  case atStart => exact ⟨0, Nat.zero_le _, rfl, fun i h => absurd h (by omega), Below.refl _ _⟩
  case round =>
    obtain ⟨k, hk, rfl, HX, hb⟩ := hrel
    have hbw : Below w.heap.size w wr := ((Below.refl _ _).alloc (Nat.le_refl _) _).trans (hb.mono (by omega))
    have hz := hb.size
    simp only [World.size_alloc] at hz
    have hz0 : w.heap.size < wr.heap.size := by omega
    have bT : Box wr w.heap.size [.slice a ts.length cap] := by
      have q := (Box.new w [Value.slice a ts.length cap] 40)
      exact ⟨by omega, fun i hi => (hb.cell (by simp)).trans (q.cell i hi)⟩
    have e10 := bT.c0
    by_cases hlt : k < ts.length
    · have hne : ts ≠ [] := by intro e; subst e; simp at hlt
      obtain ⟨b, off, rfl, hS, hbl, hrr⟩ := Bnd.sd_get hr hne
      obtain ⟨c0, c1, c2, q0, q1, q2, qx⟩ := hrr k hlt
      have hvl := Bnd.var_le qx
      have hbm : ts[k].term.bulk ≤ 1048576 := by have := Bnd.bulk_mem (List.getElem_mem hlt); rw [Bnd.bulk] at this; omega
      obtain ⟨rfl, rfl, x, xc, rfl⟩ := Bnd.at_form qx
      replace q0 := (hbw.cell (p := ⟨b, off + k * 3, none⟩) hbl).trans q0
      replace q1 := (hbw.cell (p := ⟨b, off + k * 3 + 1, none⟩) hbl).trans q1
      replace q2 := (hbw.cell (p := ⟨b, off + k * 3 + 2, none⟩) hbl).trans q2
      have hE := Tm.at_keep (Keeps.all hbw) (Bnd.at_term qx)
      have hprev : ∀ j (hj : j < ts.length), wr.cell? ⟨b, off + j * 3, none⟩ = some (.string ts[j].var) := fun j hj => by
        obtain ⟨d0, d1, d2, p0, _, _, px⟩ := hrr j hj
        obtain ⟨rfl, _⟩ := Bnd.at_form px
        exact (hbw.cell (p := ⟨b, off + j * 3, none⟩) hbl).trans p0
      have HP := hid hprev
      clear hprev hrr hr qx
      go_wp2_with fail
      clear q0 q1 q2
      have hA0 : Below wr.heap.size wr (wr.alloc (.cells #[.string ts[k].var, .string ts[k].term.name, .slice x ts[k].term.args.length xc] 91)) := (Below.refl _ _).alloc (Nat.le_refl _) _
      have bE : Box (wr.alloc (.cells #[.string ts[k].var, .string ts[k].term.name, .slice x ts[k].term.args.length xc] 91)) wr.heap.size [.string ts[k].var, .string ts[k].term.name, .slice x ts[k].term.args.length xc] := Box.new _ _ _
      replace bT := bT.keep hA0
      replace hE := Tm.at_keep (Keeps.all hA0) hE
      have HP' : Hid (∀ j (hj : j < ts.length), (wr.alloc (.cells #[.string ts[k].var, .string ts[k].term.name, .slice x ts[k].term.args.length xc] 91)).cell? ⟨b, off + j * 3, none⟩ = some (.string ts[j].var)) := fun j hj => cell_alloc (HP.out j hj) _
      have lb : b < (wr.alloc (.cells #[.string ts[k].var, .string ts[k].term.name, .slice x ts[k].term.args.length xc] 91)).heap.size := Nat.lt_of_lt_of_le hbl (hbw.trans (hA0.mono hbw.size)).size
      have hz1 := hA0.size
      clear HP e10
      generalize wr.alloc (.cells #[.string ts[k].var, .string ts[k].term.name, .slice x ts[k].term.args.length xc] 91) = w2 at *
      have hW := hbw.trans (hA0.mono hbw.size)
      have eB0 := bT.c0
      have lB := bT.lt
      have eE0 := bE.c0
      have eE1 := bE.c1
      have eE2 := bE.c2
      have lE := bE.lt
      by_cases hA : varName ts[k].var = true
      · skip
        by_cases hG : ts[k].term.valid = true
        · skip
          by_cases hN : ts[k].term.name = ts[k].var
          · have hN1 : (ts[k].term.name.toList == ts[k].var.toList) = true := by rw [hN]; simp
            have HZ : Hid (Bnd.allOk ts = false) := Bnd.allOk_bad hlt (Bnd.okAt_fits hlt (by simp [Bnd.fits, hA, hG, hN]))
            clear hN
            refine wp_region_B [fun v _ => v = .pointer (some ⟨wr.heap.size, 0, none⟩), fun v _ => v = .string ts[k].var, fun v _ => v = .bool true, fun v _ => v = .bool false, fun v _ => v = .bool false, fun v _ => v = .pointer (some ⟨wr.heap.size, 1, none⟩), fun v _ => v = .agg #[.string ts[k].term.name, .slice x ts[k].term.args.length xc], fun v _ => v = .bool true, fun v _ => v = .bool false, fun v _ => v = .bool false, fun v _ => v = .bool false, fun v _ => v = .pointer (some ⟨wr.heap.size, 1, none⟩), fun v _ => v = .pointer (some ⟨wr.heap.size, 1, none⟩), fun v _ => v = .string ts[k].term.name, fun v _ => v = .pointer (some ⟨wr.heap.size, 0, none⟩), fun v _ => v = .string ts[k].var, fun v _ => v = .bool true, fun v _ => v = .bool true, fun v _ => v = .bool true, fun v _ => v = undef, fun v _ => v = undef, fun v _ => v = undef, fun v _ => v = undef, fun v _ => v = undef, fun v _ => v = undef, fun v _ => v = undef, fun v _ => v = undef, fun v _ => v = undef, fun v _ => v = undef, fun v _ => v = undef, fun v _ => v = undef, fun v _ => v = undef, fun v _ => v = undef, fun v _ => v = .bool true] _ (fun V => by simp [putAll, Act.put]; rfl) (by kernel_rfl) (by decide) (by simp) (by kernel_rfl) ?_ ?_ ?_
            · intro F hF
              simp only [List.mem_cons, List.not_mem_nil, or_false] at hF
              rcases hF with rfl | rfl | rfl | rfl | rfl | rfl | rfl | rfl | rfl | rfl | rfl | rfl | rfl | rfl | rfl | rfl | rfl | rfl | rfl | rfl | rfl | rfl | rfl | rfl | rfl | rfl | rfl | rfl | rfl | rfl | rfl | rfl | rfl | rfl
              · exact stable_eq
              · exact stable_eq
              · exact stable_eq
              · exact stable_eq
              · exact stable_eq
              · exact stable_eq
              · exact stable_eq
              · exact stable_eq
              · exact stable_eq
              · exact stable_eq
              · exact stable_eq
              · exact stable_eq
              · exact stable_eq
              · exact stable_eq
              · exact stable_eq
              · exact stable_eq
              · exact stable_eq
              · exact stable_eq
              · exact stable_eq
              · exact stable_eq
              · exact stable_eq
              · exact stable_eq
              · exact stable_eq
              · exact stable_eq
              · exact stable_eq
              · exact stable_eq
              · exact stable_eq
              · exact stable_eq
              · exact stable_eq
              · exact stable_eq
              · exact stable_eq
              · exact stable_eq
              · exact stable_eq
              · exact stable_eq
            · refine ⟨?_, ?_, ?_, ?_, ?_, ?_, ?_, ?_, ?_, ?_, ?_, ?_, ?_, ?_, ?_, ?_, ?_, ?_, ?_, ?_, ?_, ?_, ?_, ?_, ?_, ?_, ?_, ?_, ?_, ?_, ?_, ?_, ?_, ?_, trivial⟩
              · intro V w1 hbR _
                unfold Does
                go_simp
                exact ⟨Below.refl _ _, rfl⟩
              · intro V w1 hbR ⟨f0, _⟩
                replace f0 : V 0 = .pointer (some ⟨wr.heap.size, 0, none⟩) := f0
                obtain ⟨hc, hf⟩ := bcell hbR
                try simp only [World.size_alloc, World.size_setCell] at hc hf
                unfold Does
                go_simp
                exact ⟨Below.refl _ _, rfl⟩
              · intro V w1 hbR ⟨f1, _⟩
                replace f1 : V 1 = .string ts[k].var := f1
                obtain ⟨hc, hf⟩ := bcell hbR
                try simp only [World.size_alloc, World.size_setCell] at hc hf
                unfold Does
                go_simp
                refine (l2Var_any _ hvl w1).mono ?_; rintro e w4 ⟨rfl, rfl⟩; exact ⟨_, rfl, Below.refl _ _, by rw [hA]⟩
              · intro V w1 hbR ⟨f2, _⟩
                replace f2 : V 2 = .bool true := f2
                unfold Does
                go_simp
                exact ⟨Below.refl _ _, rfl⟩
              · intro V w1 hbR ⟨f3, f2, _⟩
                replace f2 : V 2 = .bool true := f2
                replace f3 : V 3 = .bool false := f3
                unfold Does
                go_simp
                exact ⟨Below.refl _ _, rfl⟩
              · intro V w1 hbR ⟨f4, _⟩
                replace f4 : V 4 = .bool false := f4
                refine .inl ⟨_, f4, fun hg => ?_, fun hg => ?_⟩
                · unfold Does
                  go_simp
                  exact ⟨Below.refl _ _, rfl⟩
                · exact absurd rfl hg
              · intro V w1 hbR ⟨f5, f4, _⟩
                replace f4 : V 4 = .bool false := f4
                replace f5 : V 5 = .pointer (some ⟨wr.heap.size, 1, none⟩) := f5
                refine .inl ⟨_, f4, fun hg => ?_, fun hg => ?_⟩
                · obtain ⟨hc, hf⟩ := bcell hbR
                  try simp only [World.size_alloc, World.size_setCell] at hc hf
                  unfold Does
                  go_simp
                  exact ⟨Below.refl _ _, rfl⟩
                · exact absurd rfl hg
              · intro V w1 hbR ⟨f6, f4, _, _⟩
                replace f4 : V 4 = .bool false := f4
                replace f6 : V 6 = .agg #[.string ts[k].term.name, .slice x ts[k].term.args.length xc] := f6
                refine .inl ⟨_, f4, fun hg => ?_, fun hg => ?_⟩
                · obtain ⟨hc, hf⟩ := bcell hbR
                  try simp only [World.size_alloc, World.size_setCell] at hc hf
                  unfold Does
                  go_simp
                  have hq := l2Good_any ts[k].term (Tm.at_keep (Keeps.all hbR) hE) hbm; rw [hG] at hq; exact hq
                · exact absurd rfl hg
              · intro V w1 hbR ⟨f7, f4, _⟩
                replace f4 : V 4 = .bool false := f4
                replace f7 : V 7 = .bool true := f7
                refine .inl ⟨_, f4, fun hg => ?_, fun hg => ?_⟩
                · unfold Does
                  go_simp
                  exact ⟨Below.refl _ _, rfl⟩
                · exact absurd rfl hg
              · intro V w1 hbR ⟨f4, f8, _⟩
                replace f4 : V 4 = .bool false := f4
                replace f8 : V 8 = .bool false := f8
                unfold Does
                go_simp
                exact ⟨Below.refl _ _, rfl⟩
              · intro V w1 hbR ⟨f9, f7, _⟩
                replace f7 : V 7 = .bool true := f7
                replace f9 : V 9 = .bool false := f9
                unfold Does
                go_simp
                exact ⟨Below.refl _ _, rfl⟩
              · intro V w1 hbR ⟨f10, _⟩
                replace f10 : V 10 = .bool false := f10
                refine .inl ⟨_, f10, fun hg => ?_, fun hg => ?_⟩
                · unfold Does
                  go_simp
                  exact ⟨Below.refl _ _, rfl⟩
                · exact absurd rfl hg
              · intro V w1 hbR ⟨f11, f10, _⟩
                replace f10 : V 10 = .bool false := f10
                replace f11 : V 11 = .pointer (some ⟨wr.heap.size, 1, none⟩) := f11
                refine .inl ⟨_, f10, fun hg => ?_, fun hg => ?_⟩
                · unfold Does
                  go_simp
                  exact ⟨Below.refl _ _, rfl⟩
                · exact absurd rfl hg
              · intro V w1 hbR ⟨f12, f10, _⟩
                replace f10 : V 10 = .bool false := f10
                replace f12 : V 12 = .pointer (some ⟨wr.heap.size, 1, none⟩) := f12
                refine .inl ⟨_, f10, fun hg => ?_, fun hg => ?_⟩
                · obtain ⟨hc, hf⟩ := bcell hbR
                  try simp only [World.size_alloc, World.size_setCell] at hc hf
                  unfold Does
                  go_simp
                  exact ⟨Below.refl _ _, rfl⟩
                · exact absurd rfl hg
              · intro V w1 hbR ⟨f10, _⟩
                replace f10 : V 10 = .bool false := f10
                refine .inl ⟨_, f10, fun hg => ?_, fun hg => ?_⟩
                · unfold Does
                  go_simp
                  exact ⟨Below.refl _ _, rfl⟩
                · exact absurd rfl hg
              · intro V w1 hbR ⟨f14, f10, _⟩
                replace f10 : V 10 = .bool false := f10
                replace f14 : V 14 = .pointer (some ⟨wr.heap.size, 0, none⟩) := f14
                refine .inl ⟨_, f10, fun hg => ?_, fun hg => ?_⟩
                · obtain ⟨hc, hf⟩ := bcell hbR
                  try simp only [World.size_alloc, World.size_setCell] at hc hf
                  unfold Does
                  go_simp
                  exact ⟨Below.refl _ _, rfl⟩
                · exact absurd rfl hg
              · intro V w1 hbR ⟨f13, f15, f10, _⟩
                replace f10 : V 10 = .bool false := f10
                replace f13 : V 13 = .string ts[k].term.name := f13
                replace f15 : V 15 = .string ts[k].var := f15
                refine .inl ⟨_, f10, fun hg => ?_, fun hg => ?_⟩
                · unfold Does
                  go_simp
                  exact ⟨Below.refl _ _, rfl⟩
                · exact absurd rfl hg
              · intro V w1 hbR ⟨f10, f16, _⟩
                replace f10 : V 10 = .bool false := f10
                replace f16 : V 16 = .bool true := f16
                unfold Does
                go_simp
                exact ⟨Below.refl _ _, rfl⟩
              · intro V w1 hbR ⟨f17, f10, _⟩
                replace f10 : V 10 = .bool false := f10
                replace f17 : V 17 = .bool true := f17
                unfold Does
                go_simp
                exact ⟨Below.refl _ _, rfl⟩
              · intro V w1 hbR ⟨f18, _⟩
                replace f18 : V 18 = .bool true := f18
                refine .inl ⟨_, f18, fun hg => ?_, fun hg => ?_⟩
                · exact absurd hg (by decide)
                · rfl
              · intro V w1 hbR ⟨f19, f18, _⟩
                replace f18 : V 18 = .bool true := f18
                replace f19 : V 19 = undef := f19
                refine .inl ⟨_, f18, fun hg => ?_, fun hg => ?_⟩
                · exact absurd hg (by decide)
                · rfl
              · intro V w1 hbR ⟨f20, f18, _, _⟩
                replace f18 : V 18 = .bool true := f18
                replace f20 : V 20 = undef := f20
                refine .inl ⟨_, f18, fun hg => ?_, fun hg => ?_⟩
                · exact absurd hg (by decide)
                · rfl
              · intro V w1 hbR ⟨f21, _⟩
                replace f21 : V 21 = undef := f21
                exact .inr ⟨f21, rfl⟩
              · intro V w1 hbR ⟨f22, f21, _⟩
                replace f21 : V 21 = undef := f21
                replace f22 : V 22 = undef := f22
                exact .inr ⟨f21, rfl⟩
              · intro V w1 hbR ⟨f21, _⟩
                replace f21 : V 21 = undef := f21
                exact .inr ⟨f21, rfl⟩
              · intro V w1 hbR ⟨f24, f21, _⟩
                replace f21 : V 21 = undef := f21
                replace f24 : V 24 = undef := f24
                exact .inr ⟨f21, rfl⟩
              · intro V w1 hbR ⟨f23, f25, f21, _⟩
                replace f21 : V 21 = undef := f21
                replace f23 : V 23 = undef := f23
                replace f25 : V 25 = undef := f25
                exact .inr ⟨f21, rfl⟩
              · intro V w1 hbR ⟨f26, f21, _⟩
                replace f21 : V 21 = undef := f21
                replace f26 : V 26 = undef := f26
                exact .inr ⟨f21, rfl⟩
              · intro V w1 hbR ⟨f27, f21, _⟩
                replace f21 : V 21 = undef := f21
                replace f27 : V 27 = undef := f27
                exact .inr ⟨f21, rfl⟩
              · intro V w1 hbR ⟨f21, _⟩
                replace f21 : V 21 = undef := f21
                exact .inr ⟨f21, rfl⟩
              · intro V w1 hbR ⟨f29, f21, _⟩
                replace f21 : V 21 = undef := f21
                replace f29 : V 29 = undef := f29
                exact .inr ⟨f21, rfl⟩
              · intro V w1 hbR ⟨f28, f30, f21, _⟩
                replace f21 : V 21 = undef := f21
                replace f28 : V 28 = undef := f28
                replace f30 : V 30 = undef := f30
                exact .inr ⟨f21, rfl⟩
              · intro V w1 hbR ⟨f21, f31, f18, _⟩
                replace f18 : V 18 = .bool true := f18
                replace f21 : V 21 = undef := f21
                replace f31 : V 31 = undef := f31
                refine .inl ⟨_, f18, fun hg => ?_, fun hg => ?_⟩
                · exact absurd hg (by decide)
                · rfl
              · intro V w1 hbR ⟨f18, f32, _⟩
                replace f18 : V 18 = .bool true := f18
                replace f32 : V 32 = undef := f32
                unfold Does
                go_simp
                exact ⟨Below.refl _ _, rfl⟩
            intro V w3 hbR hfR
            obtain ⟨f0, f1, f2, f3, f4, f5, f6, f7, f8, f9, f10, f11, f12, f13, f14, f15, f16, f17, f18, f19, f20, f21, f22, f23, f24, f25, f26, f27, f28, f29, f30, f31, f32, f33, _⟩ := hfR
            replace f0 : V 0 = .pointer (some ⟨wr.heap.size, 0, none⟩) := f0
            replace f1 : V 1 = .string ts[k].var := f1
            replace f2 : V 2 = .bool true := f2
            replace f3 : V 3 = .bool false := f3
            replace f4 : V 4 = .bool false := f4
            replace f5 : V 5 = .pointer (some ⟨wr.heap.size, 1, none⟩) := f5
            replace f6 : V 6 = .agg #[.string ts[k].term.name, .slice x ts[k].term.args.length xc] := f6
            replace f7 : V 7 = .bool true := f7
            replace f8 : V 8 = .bool false := f8
            replace f9 : V 9 = .bool false := f9
            replace f10 : V 10 = .bool false := f10
            replace f11 : V 11 = .pointer (some ⟨wr.heap.size, 1, none⟩) := f11
            replace f12 : V 12 = .pointer (some ⟨wr.heap.size, 1, none⟩) := f12
            replace f13 : V 13 = .string ts[k].term.name := f13
            replace f14 : V 14 = .pointer (some ⟨wr.heap.size, 0, none⟩) := f14
            replace f15 : V 15 = .string ts[k].var := f15
            replace f16 : V 16 = .bool true := f16
            replace f17 : V 17 = .bool true := f17
            replace f18 : V 18 = .bool true := f18
            replace f19 : V 19 = undef := f19
            replace f20 : V 20 = undef := f20
            replace f21 : V 21 = undef := f21
            replace f22 : V 22 = undef := f22
            replace f23 : V 23 = undef := f23
            replace f24 : V 24 = undef := f24
            replace f25 : V 25 = undef := f25
            replace f26 : V 26 = undef := f26
            replace f27 : V 27 = undef := f27
            replace f28 : V 28 = undef := f28
            replace f29 : V 29 = undef := f29
            replace f30 : V 30 = undef := f30
            replace f31 : V 31 = undef := f31
            replace f32 : V 32 = undef := f32
            replace f33 : V 33 = .bool true := f33
            simp only [f0, f1, f2, f3, f4, f5, f6, f7, f8, f9, f10, f11, f12, f13, f14, f15, f16, f17, f18, f19, f20, f21, f22, f23, f24, f25, f26, f27, f28, f29, f30, f31, f32, f33]
            clear f0 f1 f2 f3 f4 f5 f6 f7 f8 f9 f10 f11 f12 f13 f14 f15 f16 f17 f18 f19 f20 f21 f22 f23 f24 f25 f26 f27 f28 f29 f30 f31 f32 f33
            clear eB0 eE0 eE1 eE2 lB lE
            go_wp2_with fail
            go_ret
            exact Gives.mk (by rw [Sb.valid, HZ.out]; rfl) (hW.trans (hbR.mono hW.size))
          · have hN1 := toList_ne hN
            rcases k with _ | j
            · skip
              have HZ : Hid (∀ i, i < 0 + 1 → Bnd.okAt ts i = true) := fun i hi => if h : i < 0 then HX.out i h else by
                obtain rfl : i = 0 := by omega
                exact (by rw [Bnd.okAt_zero hlt]; simp [Bnd.fits, hA, hG, hN])
              clear hN
              refine wp_region_B [fun v _ => v = .pointer (some ⟨wr.heap.size, 0, none⟩), fun v _ => v = .string ts[0].var, fun v _ => v = .bool true, fun v _ => v = .bool false, fun v _ => v = .bool false, fun v _ => v = .pointer (some ⟨wr.heap.size, 1, none⟩), fun v _ => v = .agg #[.string ts[0].term.name, .slice x ts[0].term.args.length xc], fun v _ => v = .bool true, fun v _ => v = .bool false, fun v _ => v = .bool false, fun v _ => v = .bool false, fun v _ => v = .pointer (some ⟨wr.heap.size, 1, none⟩), fun v _ => v = .pointer (some ⟨wr.heap.size, 1, none⟩), fun v _ => v = .string ts[0].term.name, fun v _ => v = .pointer (some ⟨wr.heap.size, 0, none⟩), fun v _ => v = .string ts[0].var, fun v _ => v = .bool false, fun v _ => v = .bool false, fun v _ => v = .bool false, fun v _ => v = .int .i64 ((0 : Nat) : Int), fun v _ => v = .bool false, fun v _ => v = .bool false, fun v _ => v = undef, fun v _ => v = undef, fun v _ => v = undef, fun v _ => v = undef, fun v _ => v = undef, fun v _ => v = undef, fun v _ => v = undef, fun v _ => v = undef, fun v _ => v = undef, fun v _ => v = undef, fun v _ => v = .bool false, fun v _ => v = .bool false] _ (fun V => by simp [putAll, Act.put]; rfl) (by kernel_rfl) (by decide) (by simp) (by kernel_rfl) ?_ ?_ ?_
              · intro F hF
                simp only [List.mem_cons, List.not_mem_nil, or_false] at hF
                rcases hF with rfl | rfl | rfl | rfl | rfl | rfl | rfl | rfl | rfl | rfl | rfl | rfl | rfl | rfl | rfl | rfl | rfl | rfl | rfl | rfl | rfl | rfl | rfl | rfl | rfl | rfl | rfl | rfl | rfl | rfl | rfl | rfl | rfl | rfl
                · exact stable_eq
                · exact stable_eq
                · exact stable_eq
                · exact stable_eq
                · exact stable_eq
                · exact stable_eq
                · exact stable_eq
                · exact stable_eq
                · exact stable_eq
                · exact stable_eq
                · exact stable_eq
                · exact stable_eq
                · exact stable_eq
                · exact stable_eq
                · exact stable_eq
                · exact stable_eq
                · exact stable_eq
                · exact stable_eq
                · exact stable_eq
                · exact stable_eq
                · exact stable_eq
                · exact stable_eq
                · exact stable_eq
                · exact stable_eq
                · exact stable_eq
                · exact stable_eq
                · exact stable_eq
                · exact stable_eq
                · exact stable_eq
                · exact stable_eq
                · exact stable_eq
                · exact stable_eq
                · exact stable_eq
                · exact stable_eq
              · refine ⟨?_, ?_, ?_, ?_, ?_, ?_, ?_, ?_, ?_, ?_, ?_, ?_, ?_, ?_, ?_, ?_, ?_, ?_, ?_, ?_, ?_, ?_, ?_, ?_, ?_, ?_, ?_, ?_, ?_, ?_, ?_, ?_, ?_, ?_, trivial⟩
                · intro V w1 hbR _
                  unfold Does
                  go_simp
                  exact ⟨Below.refl _ _, rfl⟩
                · intro V w1 hbR ⟨f0, _⟩
                  replace f0 : V 0 = .pointer (some ⟨wr.heap.size, 0, none⟩) := f0
                  obtain ⟨hc, hf⟩ := bcell hbR
                  try simp only [World.size_alloc, World.size_setCell] at hc hf
                  unfold Does
                  go_simp
                  exact ⟨Below.refl _ _, rfl⟩
                · intro V w1 hbR ⟨f1, _⟩
                  replace f1 : V 1 = .string ts[0].var := f1
                  obtain ⟨hc, hf⟩ := bcell hbR
                  try simp only [World.size_alloc, World.size_setCell] at hc hf
                  unfold Does
                  go_simp
                  refine (l2Var_any _ hvl w1).mono ?_; rintro e w4 ⟨rfl, rfl⟩; exact ⟨_, rfl, Below.refl _ _, by rw [hA]⟩
                · intro V w1 hbR ⟨f2, _⟩
                  replace f2 : V 2 = .bool true := f2
                  unfold Does
                  go_simp
                  exact ⟨Below.refl _ _, rfl⟩
                · intro V w1 hbR ⟨f3, f2, _⟩
                  replace f2 : V 2 = .bool true := f2
                  replace f3 : V 3 = .bool false := f3
                  unfold Does
                  go_simp
                  exact ⟨Below.refl _ _, rfl⟩
                · intro V w1 hbR ⟨f4, _⟩
                  replace f4 : V 4 = .bool false := f4
                  refine .inl ⟨_, f4, fun hg => ?_, fun hg => ?_⟩
                  · unfold Does
                    go_simp
                    exact ⟨Below.refl _ _, rfl⟩
                  · exact absurd rfl hg
                · intro V w1 hbR ⟨f5, f4, _⟩
                  replace f4 : V 4 = .bool false := f4
                  replace f5 : V 5 = .pointer (some ⟨wr.heap.size, 1, none⟩) := f5
                  refine .inl ⟨_, f4, fun hg => ?_, fun hg => ?_⟩
                  · obtain ⟨hc, hf⟩ := bcell hbR
                    try simp only [World.size_alloc, World.size_setCell] at hc hf
                    unfold Does
                    go_simp
                    exact ⟨Below.refl _ _, rfl⟩
                  · exact absurd rfl hg
                · intro V w1 hbR ⟨f6, f4, _, _⟩
                  replace f4 : V 4 = .bool false := f4
                  replace f6 : V 6 = .agg #[.string ts[0].term.name, .slice x ts[0].term.args.length xc] := f6
                  refine .inl ⟨_, f4, fun hg => ?_, fun hg => ?_⟩
                  · obtain ⟨hc, hf⟩ := bcell hbR
                    try simp only [World.size_alloc, World.size_setCell] at hc hf
                    unfold Does
                    go_simp
                    have hq := l2Good_any ts[0].term (Tm.at_keep (Keeps.all hbR) hE) hbm; rw [hG] at hq; exact hq
                  · exact absurd rfl hg
                · intro V w1 hbR ⟨f7, f4, _⟩
                  replace f4 : V 4 = .bool false := f4
                  replace f7 : V 7 = .bool true := f7
                  refine .inl ⟨_, f4, fun hg => ?_, fun hg => ?_⟩
                  · unfold Does
                    go_simp
                    exact ⟨Below.refl _ _, rfl⟩
                  · exact absurd rfl hg
                · intro V w1 hbR ⟨f4, f8, _⟩
                  replace f4 : V 4 = .bool false := f4
                  replace f8 : V 8 = .bool false := f8
                  unfold Does
                  go_simp
                  exact ⟨Below.refl _ _, rfl⟩
                · intro V w1 hbR ⟨f9, f7, _⟩
                  replace f7 : V 7 = .bool true := f7
                  replace f9 : V 9 = .bool false := f9
                  unfold Does
                  go_simp
                  exact ⟨Below.refl _ _, rfl⟩
                · intro V w1 hbR ⟨f10, _⟩
                  replace f10 : V 10 = .bool false := f10
                  refine .inl ⟨_, f10, fun hg => ?_, fun hg => ?_⟩
                  · unfold Does
                    go_simp
                    exact ⟨Below.refl _ _, rfl⟩
                  · exact absurd rfl hg
                · intro V w1 hbR ⟨f11, f10, _⟩
                  replace f10 : V 10 = .bool false := f10
                  replace f11 : V 11 = .pointer (some ⟨wr.heap.size, 1, none⟩) := f11
                  refine .inl ⟨_, f10, fun hg => ?_, fun hg => ?_⟩
                  · unfold Does
                    go_simp
                    exact ⟨Below.refl _ _, rfl⟩
                  · exact absurd rfl hg
                · intro V w1 hbR ⟨f12, f10, _⟩
                  replace f10 : V 10 = .bool false := f10
                  replace f12 : V 12 = .pointer (some ⟨wr.heap.size, 1, none⟩) := f12
                  refine .inl ⟨_, f10, fun hg => ?_, fun hg => ?_⟩
                  · obtain ⟨hc, hf⟩ := bcell hbR
                    try simp only [World.size_alloc, World.size_setCell] at hc hf
                    unfold Does
                    go_simp
                    exact ⟨Below.refl _ _, rfl⟩
                  · exact absurd rfl hg
                · intro V w1 hbR ⟨f10, _⟩
                  replace f10 : V 10 = .bool false := f10
                  refine .inl ⟨_, f10, fun hg => ?_, fun hg => ?_⟩
                  · unfold Does
                    go_simp
                    exact ⟨Below.refl _ _, rfl⟩
                  · exact absurd rfl hg
                · intro V w1 hbR ⟨f14, f10, _⟩
                  replace f10 : V 10 = .bool false := f10
                  replace f14 : V 14 = .pointer (some ⟨wr.heap.size, 0, none⟩) := f14
                  refine .inl ⟨_, f10, fun hg => ?_, fun hg => ?_⟩
                  · obtain ⟨hc, hf⟩ := bcell hbR
                    try simp only [World.size_alloc, World.size_setCell] at hc hf
                    unfold Does
                    go_simp
                    exact ⟨Below.refl _ _, rfl⟩
                  · exact absurd rfl hg
                · intro V w1 hbR ⟨f13, f15, f10, _⟩
                  replace f10 : V 10 = .bool false := f10
                  replace f13 : V 13 = .string ts[0].term.name := f13
                  replace f15 : V 15 = .string ts[0].var := f15
                  refine .inl ⟨_, f10, fun hg => ?_, fun hg => ?_⟩
                  · unfold Does
                    go_simp
                    exact ⟨Below.refl _ _, rfl⟩
                  · exact absurd rfl hg
                · intro V w1 hbR ⟨f10, f16, _⟩
                  replace f10 : V 10 = .bool false := f10
                  replace f16 : V 16 = .bool false := f16
                  unfold Does
                  go_simp
                  exact ⟨Below.refl _ _, rfl⟩
                · intro V w1 hbR ⟨f17, f10, _⟩
                  replace f10 : V 10 = .bool false := f10
                  replace f17 : V 17 = .bool false := f17
                  unfold Does
                  go_simp
                  exact ⟨Below.refl _ _, rfl⟩
                · intro V w1 hbR ⟨f18, _⟩
                  replace f18 : V 18 = .bool false := f18
                  refine .inl ⟨_, f18, fun hg => ?_, fun hg => ?_⟩
                  · unfold Does
                    go_simp
                    exact ⟨Below.refl _ _, rfl⟩
                  · exact absurd rfl hg
                · intro V w1 hbR ⟨f19, f18, _⟩
                  replace f18 : V 18 = .bool false := f18
                  replace f19 : V 19 = .int .i64 ((0 : Nat) : Int) := f19
                  refine .inl ⟨_, f18, fun hg => ?_, fun hg => ?_⟩
                  · unfold Does
                    go_simp
                    exact ⟨Below.refl _ _, rfl⟩
                  · exact absurd rfl hg
                · intro V w1 hbR ⟨f20, f18, _, _⟩
                  replace f18 : V 18 = .bool false := f18
                  replace f20 : V 20 = .bool false := f20
                  refine .inl ⟨_, f18, fun hg => ?_, fun hg => ?_⟩
                  · unfold Does
                    go_simp
                    exact ⟨Below.refl _ _, rfl⟩
                  · exact absurd rfl hg
                · intro V w1 hbR ⟨f21, _⟩
                  replace f21 : V 21 = .bool false := f21
                  refine .inl ⟨_, f21, fun hg => ?_, fun hg => ?_⟩
                  · exact absurd hg (by decide)
                  · rfl
                · intro V w1 hbR ⟨f22, f21, _⟩
                  replace f21 : V 21 = .bool false := f21
                  replace f22 : V 22 = undef := f22
                  refine .inl ⟨_, f21, fun hg => ?_, fun hg => ?_⟩
                  · exact absurd hg (by decide)
                  · rfl
                · intro V w1 hbR ⟨f21, _⟩
                  replace f21 : V 21 = .bool false := f21
                  refine .inl ⟨_, f21, fun hg => ?_, fun hg => ?_⟩
                  · exact absurd hg (by decide)
                  · rfl
                · intro V w1 hbR ⟨f24, f21, _⟩
                  replace f21 : V 21 = .bool false := f21
                  replace f24 : V 24 = undef := f24
                  refine .inl ⟨_, f21, fun hg => ?_, fun hg => ?_⟩
                  · exact absurd hg (by decide)
                  · rfl
                · intro V w1 hbR ⟨f23, f25, f21, _⟩
                  replace f21 : V 21 = .bool false := f21
                  replace f23 : V 23 = undef := f23
                  replace f25 : V 25 = undef := f25
                  refine .inl ⟨_, f21, fun hg => ?_, fun hg => ?_⟩
                  · exact absurd hg (by decide)
                  · rfl
                · intro V w1 hbR ⟨f26, f21, _⟩
                  replace f21 : V 21 = .bool false := f21
                  replace f26 : V 26 = undef := f26
                  refine .inl ⟨_, f21, fun hg => ?_, fun hg => ?_⟩
                  · exact absurd hg (by decide)
                  · rfl
                · intro V w1 hbR ⟨f27, f21, _⟩
                  replace f21 : V 21 = .bool false := f21
                  replace f27 : V 27 = undef := f27
                  refine .inl ⟨_, f21, fun hg => ?_, fun hg => ?_⟩
                  · exact absurd hg (by decide)
                  · rfl
                · intro V w1 hbR ⟨f21, _⟩
                  replace f21 : V 21 = .bool false := f21
                  refine .inl ⟨_, f21, fun hg => ?_, fun hg => ?_⟩
                  · exact absurd hg (by decide)
                  · rfl
                · intro V w1 hbR ⟨f29, f21, _⟩
                  replace f21 : V 21 = .bool false := f21
                  replace f29 : V 29 = undef := f29
                  refine .inl ⟨_, f21, fun hg => ?_, fun hg => ?_⟩
                  · exact absurd hg (by decide)
                  · rfl
                · intro V w1 hbR ⟨f28, f30, f21, _⟩
                  replace f21 : V 21 = .bool false := f21
                  replace f28 : V 28 = undef := f28
                  replace f30 : V 30 = undef := f30
                  refine .inl ⟨_, f21, fun hg => ?_, fun hg => ?_⟩
                  · exact absurd hg (by decide)
                  · rfl
                · intro V w1 hbR ⟨f21, f31, f18, _⟩
                  replace f18 : V 18 = .bool false := f18
                  replace f21 : V 21 = .bool false := f21
                  replace f31 : V 31 = undef := f31
                  refine .inl ⟨_, f18, fun hg => ?_, fun hg => ?_⟩
                  · unfold Does
                    go_simp
                    exact ⟨Below.refl _ _, rfl⟩
                  · exact absurd rfl hg
                · intro V w1 hbR ⟨f18, f32, _⟩
                  replace f18 : V 18 = .bool false := f18
                  replace f32 : V 32 = .bool false := f32
                  unfold Does
                  go_simp
                  exact ⟨Below.refl _ _, rfl⟩
              intro V w3 hbR hfR
              obtain ⟨f0, f1, f2, f3, f4, f5, f6, f7, f8, f9, f10, f11, f12, f13, f14, f15, f16, f17, f18, f19, f20, f21, f22, f23, f24, f25, f26, f27, f28, f29, f30, f31, f32, f33, _⟩ := hfR
              replace f0 : V 0 = .pointer (some ⟨wr.heap.size, 0, none⟩) := f0
              replace f1 : V 1 = .string ts[0].var := f1
              replace f2 : V 2 = .bool true := f2
              replace f3 : V 3 = .bool false := f3
              replace f4 : V 4 = .bool false := f4
              replace f5 : V 5 = .pointer (some ⟨wr.heap.size, 1, none⟩) := f5
              replace f6 : V 6 = .agg #[.string ts[0].term.name, .slice x ts[0].term.args.length xc] := f6
              replace f7 : V 7 = .bool true := f7
              replace f8 : V 8 = .bool false := f8
              replace f9 : V 9 = .bool false := f9
              replace f10 : V 10 = .bool false := f10
              replace f11 : V 11 = .pointer (some ⟨wr.heap.size, 1, none⟩) := f11
              replace f12 : V 12 = .pointer (some ⟨wr.heap.size, 1, none⟩) := f12
              replace f13 : V 13 = .string ts[0].term.name := f13
              replace f14 : V 14 = .pointer (some ⟨wr.heap.size, 0, none⟩) := f14
              replace f15 : V 15 = .string ts[0].var := f15
              replace f16 : V 16 = .bool false := f16
              replace f17 : V 17 = .bool false := f17
              replace f18 : V 18 = .bool false := f18
              replace f19 : V 19 = .int .i64 ((0 : Nat) : Int) := f19
              replace f20 : V 20 = .bool false := f20
              replace f21 : V 21 = .bool false := f21
              replace f22 : V 22 = undef := f22
              replace f23 : V 23 = undef := f23
              replace f24 : V 24 = undef := f24
              replace f25 : V 25 = undef := f25
              replace f26 : V 26 = undef := f26
              replace f27 : V 27 = undef := f27
              replace f28 : V 28 = undef := f28
              replace f29 : V 29 = undef := f29
              replace f30 : V 30 = undef := f30
              replace f31 : V 31 = undef := f31
              replace f32 : V 32 = .bool false := f32
              replace f33 : V 33 = .bool false := f33
              simp only [f0, f1, f2, f3, f4, f5, f6, f7, f8, f9, f10, f11, f12, f13, f14, f15, f16, f17, f18, f19, f20, f21, f22, f23, f24, f25, f26, f27, f28, f29, f30, f31, f32, f33]
              clear f0 f1 f2 f3 f4 f5 f6 f7 f8 f9 f10 f11 f12 f13 f14 f15 f16 f17 f18 f19 f20 f21 f22 f23 f24 f25 f26 f27 f28 f29 f30 f31 f32 f33
              clear eB0 eE0 eE1 eE2 lB lE
              go_wp2_with fail
              go_roundw
              case rel => exact ⟨0 + 1, by omega, by go_num, HZ, hb.trans ((hA0.trans (hbR.mono hA0.size)).mono hz)⟩
              case measure => simp [intOf]; omega
            · have hj : j < ts.length := by omega
              have p0 := HP'.out j hj
              by_cases hL : Op.bytesLess ts[j].var.toList ts[j + 1].var.toList = true
              · have hC := hL
                have HZ : Hid (∀ i, i < (j + 1) + 1 → Bnd.okAt ts i = true) := fun i hi => if h : i < (j + 1) then HX.out i h else by
                  obtain rfl : i = (j + 1) := by omega
                  exact (by rw [Bnd.okAt_succ hlt]; simp [Bnd.fits, hA, hG, hN, hC])
                clear hN
                refine wp_region_B [fun v _ => v = .pointer (some ⟨wr.heap.size, 0, none⟩), fun v _ => v = .string ts[j + 1].var, fun v _ => v = .bool true, fun v _ => v = .bool false, fun v _ => v = .bool false, fun v _ => v = .pointer (some ⟨wr.heap.size, 1, none⟩), fun v _ => v = .agg #[.string ts[j + 1].term.name, .slice x ts[j + 1].term.args.length xc], fun v _ => v = .bool true, fun v _ => v = .bool false, fun v _ => v = .bool false, fun v _ => v = .bool false, fun v _ => v = .pointer (some ⟨wr.heap.size, 1, none⟩), fun v _ => v = .pointer (some ⟨wr.heap.size, 1, none⟩), fun v _ => v = .string ts[j + 1].term.name, fun v _ => v = .pointer (some ⟨wr.heap.size, 0, none⟩), fun v _ => v = .string ts[j + 1].var, fun v _ => v = .bool false, fun v _ => v = .bool false, fun v _ => v = .bool false, fun v _ => v = .int .i64 ((j + 1 : Nat) : Int), fun v _ => v = .bool true, fun v _ => v = .bool true, fun v _ => v = .pointer (some ⟨w.heap.size, 0, none⟩), fun v _ => v = .slice (some ⟨b, off, none⟩) ts.length cap, fun v _ => v = .int .i64 ((j + 1 : Nat) : Int), fun v _ => v = .int .i64 j, fun v _ => v = .pointer (some ⟨b, off + j * 3, none⟩), fun v _ => v = .pointer (some ⟨b, off + j * 3, none⟩), fun v _ => v = .string ts[j].var, fun v _ => v = .pointer (some ⟨wr.heap.size, 0, none⟩), fun v _ => v = .string ts[j + 1].var, fun v _ => v = .bool false, fun v _ => v = .bool false, fun v _ => v = .bool false] _ (fun V => by simp [putAll, Act.put]; rfl) (by kernel_rfl) (by decide) (by simp) (by kernel_rfl) ?_ ?_ ?_
                · intro F hF
                  simp only [List.mem_cons, List.not_mem_nil, or_false] at hF
                  rcases hF with rfl | rfl | rfl | rfl | rfl | rfl | rfl | rfl | rfl | rfl | rfl | rfl | rfl | rfl | rfl | rfl | rfl | rfl | rfl | rfl | rfl | rfl | rfl | rfl | rfl | rfl | rfl | rfl | rfl | rfl | rfl | rfl | rfl | rfl
                  · exact stable_eq
                  · exact stable_eq
                  · exact stable_eq
                  · exact stable_eq
                  · exact stable_eq
                  · exact stable_eq
                  · exact stable_eq
                  · exact stable_eq
                  · exact stable_eq
                  · exact stable_eq
                  · exact stable_eq
                  · exact stable_eq
                  · exact stable_eq
                  · exact stable_eq
                  · exact stable_eq
                  · exact stable_eq
                  · exact stable_eq
                  · exact stable_eq
                  · exact stable_eq
                  · exact stable_eq
                  · exact stable_eq
                  · exact stable_eq
                  · exact stable_eq
                  · exact stable_eq
                  · exact stable_eq
                  · exact stable_eq
                  · exact stable_eq
                  · exact stable_eq
                  · exact stable_eq
                  · exact stable_eq
                  · exact stable_eq
                  · exact stable_eq
                  · exact stable_eq
                  · exact stable_eq
                · refine ⟨?_, ?_, ?_, ?_, ?_, ?_, ?_, ?_, ?_, ?_, ?_, ?_, ?_, ?_, ?_, ?_, ?_, ?_, ?_, ?_, ?_, ?_, ?_, ?_, ?_, ?_, ?_, ?_, ?_, ?_, ?_, ?_, ?_, ?_, trivial⟩
                  · intro V w1 hbR _
                    unfold Does
                    go_simp
                    exact ⟨Below.refl _ _, rfl⟩
                  · intro V w1 hbR ⟨f0, _⟩
                    replace f0 : V 0 = .pointer (some ⟨wr.heap.size, 0, none⟩) := f0
                    obtain ⟨hc, hf⟩ := bcell hbR
                    try simp only [World.size_alloc, World.size_setCell] at hc hf
                    unfold Does
                    go_simp
                    exact ⟨Below.refl _ _, rfl⟩
                  · intro V w1 hbR ⟨f1, _⟩
                    replace f1 : V 1 = .string ts[j + 1].var := f1
                    obtain ⟨hc, hf⟩ := bcell hbR
                    try simp only [World.size_alloc, World.size_setCell] at hc hf
                    unfold Does
                    go_simp
                    refine (l2Var_any _ hvl w1).mono ?_; rintro e w4 ⟨rfl, rfl⟩; exact ⟨_, rfl, Below.refl _ _, by rw [hA]⟩
                  · intro V w1 hbR ⟨f2, _⟩
                    replace f2 : V 2 = .bool true := f2
                    unfold Does
                    go_simp
                    exact ⟨Below.refl _ _, rfl⟩
                  · intro V w1 hbR ⟨f3, f2, _⟩
                    replace f2 : V 2 = .bool true := f2
                    replace f3 : V 3 = .bool false := f3
                    unfold Does
                    go_simp
                    exact ⟨Below.refl _ _, rfl⟩
                  · intro V w1 hbR ⟨f4, _⟩
                    replace f4 : V 4 = .bool false := f4
                    refine .inl ⟨_, f4, fun hg => ?_, fun hg => ?_⟩
                    · unfold Does
                      go_simp
                      exact ⟨Below.refl _ _, rfl⟩
                    · exact absurd rfl hg
                  · intro V w1 hbR ⟨f5, f4, _⟩
                    replace f4 : V 4 = .bool false := f4
                    replace f5 : V 5 = .pointer (some ⟨wr.heap.size, 1, none⟩) := f5
                    refine .inl ⟨_, f4, fun hg => ?_, fun hg => ?_⟩
                    · obtain ⟨hc, hf⟩ := bcell hbR
                      try simp only [World.size_alloc, World.size_setCell] at hc hf
                      unfold Does
                      go_simp
                      exact ⟨Below.refl _ _, rfl⟩
                    · exact absurd rfl hg
                  · intro V w1 hbR ⟨f6, f4, _, _⟩
                    replace f4 : V 4 = .bool false := f4
                    replace f6 : V 6 = .agg #[.string ts[j + 1].term.name, .slice x ts[j + 1].term.args.length xc] := f6
                    refine .inl ⟨_, f4, fun hg => ?_, fun hg => ?_⟩
                    · obtain ⟨hc, hf⟩ := bcell hbR
                      try simp only [World.size_alloc, World.size_setCell] at hc hf
                      unfold Does
                      go_simp
                      have hq := l2Good_any ts[j + 1].term (Tm.at_keep (Keeps.all hbR) hE) hbm; rw [hG] at hq; exact hq
                    · exact absurd rfl hg
                  · intro V w1 hbR ⟨f7, f4, _⟩
                    replace f4 : V 4 = .bool false := f4
                    replace f7 : V 7 = .bool true := f7
                    refine .inl ⟨_, f4, fun hg => ?_, fun hg => ?_⟩
                    · unfold Does
                      go_simp
                      exact ⟨Below.refl _ _, rfl⟩
                    · exact absurd rfl hg
                  · intro V w1 hbR ⟨f4, f8, _⟩
                    replace f4 : V 4 = .bool false := f4
                    replace f8 : V 8 = .bool false := f8
                    unfold Does
                    go_simp
                    exact ⟨Below.refl _ _, rfl⟩
                  · intro V w1 hbR ⟨f9, f7, _⟩
                    replace f7 : V 7 = .bool true := f7
                    replace f9 : V 9 = .bool false := f9
                    unfold Does
                    go_simp
                    exact ⟨Below.refl _ _, rfl⟩
                  · intro V w1 hbR ⟨f10, _⟩
                    replace f10 : V 10 = .bool false := f10
                    refine .inl ⟨_, f10, fun hg => ?_, fun hg => ?_⟩
                    · unfold Does
                      go_simp
                      exact ⟨Below.refl _ _, rfl⟩
                    · exact absurd rfl hg
                  · intro V w1 hbR ⟨f11, f10, _⟩
                    replace f10 : V 10 = .bool false := f10
                    replace f11 : V 11 = .pointer (some ⟨wr.heap.size, 1, none⟩) := f11
                    refine .inl ⟨_, f10, fun hg => ?_, fun hg => ?_⟩
                    · unfold Does
                      go_simp
                      exact ⟨Below.refl _ _, rfl⟩
                    · exact absurd rfl hg
                  · intro V w1 hbR ⟨f12, f10, _⟩
                    replace f10 : V 10 = .bool false := f10
                    replace f12 : V 12 = .pointer (some ⟨wr.heap.size, 1, none⟩) := f12
                    refine .inl ⟨_, f10, fun hg => ?_, fun hg => ?_⟩
                    · obtain ⟨hc, hf⟩ := bcell hbR
                      try simp only [World.size_alloc, World.size_setCell] at hc hf
                      unfold Does
                      go_simp
                      exact ⟨Below.refl _ _, rfl⟩
                    · exact absurd rfl hg
                  · intro V w1 hbR ⟨f10, _⟩
                    replace f10 : V 10 = .bool false := f10
                    refine .inl ⟨_, f10, fun hg => ?_, fun hg => ?_⟩
                    · unfold Does
                      go_simp
                      exact ⟨Below.refl _ _, rfl⟩
                    · exact absurd rfl hg
                  · intro V w1 hbR ⟨f14, f10, _⟩
                    replace f10 : V 10 = .bool false := f10
                    replace f14 : V 14 = .pointer (some ⟨wr.heap.size, 0, none⟩) := f14
                    refine .inl ⟨_, f10, fun hg => ?_, fun hg => ?_⟩
                    · obtain ⟨hc, hf⟩ := bcell hbR
                      try simp only [World.size_alloc, World.size_setCell] at hc hf
                      unfold Does
                      go_simp
                      exact ⟨Below.refl _ _, rfl⟩
                    · exact absurd rfl hg
                  · intro V w1 hbR ⟨f13, f15, f10, _⟩
                    replace f10 : V 10 = .bool false := f10
                    replace f13 : V 13 = .string ts[j + 1].term.name := f13
                    replace f15 : V 15 = .string ts[j + 1].var := f15
                    refine .inl ⟨_, f10, fun hg => ?_, fun hg => ?_⟩
                    · unfold Does
                      go_simp
                      exact ⟨Below.refl _ _, rfl⟩
                    · exact absurd rfl hg
                  · intro V w1 hbR ⟨f10, f16, _⟩
                    replace f10 : V 10 = .bool false := f10
                    replace f16 : V 16 = .bool false := f16
                    unfold Does
                    go_simp
                    exact ⟨Below.refl _ _, rfl⟩
                  · intro V w1 hbR ⟨f17, f10, _⟩
                    replace f10 : V 10 = .bool false := f10
                    replace f17 : V 17 = .bool false := f17
                    unfold Does
                    go_simp
                    exact ⟨Below.refl _ _, rfl⟩
                  · intro V w1 hbR ⟨f18, _⟩
                    replace f18 : V 18 = .bool false := f18
                    refine .inl ⟨_, f18, fun hg => ?_, fun hg => ?_⟩
                    · unfold Does
                      go_simp
                      exact ⟨Below.refl _ _, rfl⟩
                    · exact absurd rfl hg
                  · intro V w1 hbR ⟨f19, f18, _⟩
                    replace f18 : V 18 = .bool false := f18
                    replace f19 : V 19 = .int .i64 ((j + 1 : Nat) : Int) := f19
                    refine .inl ⟨_, f18, fun hg => ?_, fun hg => ?_⟩
                    · unfold Does
                      go_simp
                      exact ⟨Below.refl _ _, rfl⟩
                    · exact absurd rfl hg
                  · intro V w1 hbR ⟨f20, f18, _, _⟩
                    replace f18 : V 18 = .bool false := f18
                    replace f20 : V 20 = .bool true := f20
                    refine .inl ⟨_, f18, fun hg => ?_, fun hg => ?_⟩
                    · unfold Does
                      go_simp
                      exact ⟨Below.refl _ _, rfl⟩
                    · exact absurd rfl hg
                  · intro V w1 hbR ⟨f21, _⟩
                    replace f21 : V 21 = .bool true := f21
                    refine .inl ⟨_, f21, fun hg => ?_, fun hg => ?_⟩
                    · unfold Does
                      go_simp
                      exact ⟨Below.refl _ _, rfl⟩
                    · exact absurd rfl hg
                  · intro V w1 hbR ⟨f22, f21, _⟩
                    replace f21 : V 21 = .bool true := f21
                    replace f22 : V 22 = .pointer (some ⟨w.heap.size, 0, none⟩) := f22
                    refine .inl ⟨_, f21, fun hg => ?_, fun hg => ?_⟩
                    · obtain ⟨hc, hf⟩ := bcell hbR
                      try simp only [World.size_alloc, World.size_setCell] at hc hf
                      unfold Does
                      go_simp
                      exact ⟨Below.refl _ _, rfl⟩
                    · exact absurd rfl hg
                  · intro V w1 hbR ⟨f21, _⟩
                    replace f21 : V 21 = .bool true := f21
                    refine .inl ⟨_, f21, fun hg => ?_, fun hg => ?_⟩
                    · unfold Does
                      go_simp
                      exact ⟨Below.refl _ _, rfl⟩
                    · exact absurd rfl hg
                  · intro V w1 hbR ⟨f24, f21, _⟩
                    replace f21 : V 21 = .bool true := f21
                    replace f24 : V 24 = .int .i64 ((j + 1 : Nat) : Int) := f24
                    refine .inl ⟨_, f21, fun hg => ?_, fun hg => ?_⟩
                    · unfold Does
                      go_simp
                      exact ⟨Below.refl _ _, by congr 1; rw [IntKind.wrap_i64]; omega⟩
                    · exact absurd rfl hg
                  · intro V w1 hbR ⟨f23, f25, f21, _⟩
                    replace f21 : V 21 = .bool true := f21
                    replace f23 : V 23 = .slice (some ⟨b, off, none⟩) ts.length cap := f23
                    replace f25 : V 25 = .int .i64 j := f25
                    refine .inl ⟨_, f21, fun hg => ?_, fun hg => ?_⟩
                    · unfold Does
                      go_simp
                      exact ⟨Below.refl _ _, rfl⟩
                    · exact absurd rfl hg
                  · intro V w1 hbR ⟨f26, f21, _⟩
                    replace f21 : V 21 = .bool true := f21
                    replace f26 : V 26 = .pointer (some ⟨b, off + j * 3, none⟩) := f26
                    refine .inl ⟨_, f21, fun hg => ?_, fun hg => ?_⟩
                    · unfold Does
                      go_simp
                      exact ⟨Below.refl _ _, rfl⟩
                    · exact absurd rfl hg
                  · intro V w1 hbR ⟨f27, f21, _⟩
                    replace f21 : V 21 = .bool true := f21
                    replace f27 : V 27 = .pointer (some ⟨b, off + j * 3, none⟩) := f27
                    refine .inl ⟨_, f21, fun hg => ?_, fun hg => ?_⟩
                    · obtain ⟨hc, hf⟩ := bcell hbR
                      try simp only [World.size_alloc, World.size_setCell] at hc hf
                      unfold Does
                      go_simp
                      exact ⟨Below.refl _ _, rfl⟩
                    · exact absurd rfl hg
                  · intro V w1 hbR ⟨f21, _⟩
                    replace f21 : V 21 = .bool true := f21
                    refine .inl ⟨_, f21, fun hg => ?_, fun hg => ?_⟩
                    · unfold Does
                      go_simp
                      exact ⟨Below.refl _ _, rfl⟩
                    · exact absurd rfl hg
                  · intro V w1 hbR ⟨f29, f21, _⟩
                    replace f21 : V 21 = .bool true := f21
                    replace f29 : V 29 = .pointer (some ⟨wr.heap.size, 0, none⟩) := f29
                    refine .inl ⟨_, f21, fun hg => ?_, fun hg => ?_⟩
                    · obtain ⟨hc, hf⟩ := bcell hbR
                      try simp only [World.size_alloc, World.size_setCell] at hc hf
                      unfold Does
                      go_simp
                      exact ⟨Below.refl _ _, rfl⟩
                    · exact absurd rfl hg
                  · intro V w1 hbR ⟨f28, f30, f21, _⟩
                    replace f21 : V 21 = .bool true := f21
                    replace f28 : V 28 = .string ts[j].var := f28
                    replace f30 : V 30 = .string ts[j + 1].var := f30
                    refine .inl ⟨_, f21, fun hg => ?_, fun hg => ?_⟩
                    · unfold Does
                      go_simp
                      exact ⟨Below.refl _ _, rfl⟩
                    · exact absurd rfl hg
                  · intro V w1 hbR ⟨f21, f31, f18, _⟩
                    replace f18 : V 18 = .bool false := f18
                    replace f21 : V 21 = .bool true := f21
                    replace f31 : V 31 = .bool false := f31
                    refine .inl ⟨_, f18, fun hg => ?_, fun hg => ?_⟩
                    · unfold Does
                      go_simp
                      exact ⟨Below.refl _ _, rfl⟩
                    · exact absurd rfl hg
                  · intro V w1 hbR ⟨f18, f32, _⟩
                    replace f18 : V 18 = .bool false := f18
                    replace f32 : V 32 = .bool false := f32
                    unfold Does
                    go_simp
                    exact ⟨Below.refl _ _, rfl⟩
                intro V w3 hbR hfR
                obtain ⟨f0, f1, f2, f3, f4, f5, f6, f7, f8, f9, f10, f11, f12, f13, f14, f15, f16, f17, f18, f19, f20, f21, f22, f23, f24, f25, f26, f27, f28, f29, f30, f31, f32, f33, _⟩ := hfR
                replace f0 : V 0 = .pointer (some ⟨wr.heap.size, 0, none⟩) := f0
                replace f1 : V 1 = .string ts[j + 1].var := f1
                replace f2 : V 2 = .bool true := f2
                replace f3 : V 3 = .bool false := f3
                replace f4 : V 4 = .bool false := f4
                replace f5 : V 5 = .pointer (some ⟨wr.heap.size, 1, none⟩) := f5
                replace f6 : V 6 = .agg #[.string ts[j + 1].term.name, .slice x ts[j + 1].term.args.length xc] := f6
                replace f7 : V 7 = .bool true := f7
                replace f8 : V 8 = .bool false := f8
                replace f9 : V 9 = .bool false := f9
                replace f10 : V 10 = .bool false := f10
                replace f11 : V 11 = .pointer (some ⟨wr.heap.size, 1, none⟩) := f11
                replace f12 : V 12 = .pointer (some ⟨wr.heap.size, 1, none⟩) := f12
                replace f13 : V 13 = .string ts[j + 1].term.name := f13
                replace f14 : V 14 = .pointer (some ⟨wr.heap.size, 0, none⟩) := f14
                replace f15 : V 15 = .string ts[j + 1].var := f15
                replace f16 : V 16 = .bool false := f16
                replace f17 : V 17 = .bool false := f17
                replace f18 : V 18 = .bool false := f18
                replace f19 : V 19 = .int .i64 ((j + 1 : Nat) : Int) := f19
                replace f20 : V 20 = .bool true := f20
                replace f21 : V 21 = .bool true := f21
                replace f22 : V 22 = .pointer (some ⟨w.heap.size, 0, none⟩) := f22
                replace f23 : V 23 = .slice (some ⟨b, off, none⟩) ts.length cap := f23
                replace f24 : V 24 = .int .i64 ((j + 1 : Nat) : Int) := f24
                replace f25 : V 25 = .int .i64 j := f25
                replace f26 : V 26 = .pointer (some ⟨b, off + j * 3, none⟩) := f26
                replace f27 : V 27 = .pointer (some ⟨b, off + j * 3, none⟩) := f27
                replace f28 : V 28 = .string ts[j].var := f28
                replace f29 : V 29 = .pointer (some ⟨wr.heap.size, 0, none⟩) := f29
                replace f30 : V 30 = .string ts[j + 1].var := f30
                replace f31 : V 31 = .bool false := f31
                replace f32 : V 32 = .bool false := f32
                replace f33 : V 33 = .bool false := f33
                simp only [f0, f1, f2, f3, f4, f5, f6, f7, f8, f9, f10, f11, f12, f13, f14, f15, f16, f17, f18, f19, f20, f21, f22, f23, f24, f25, f26, f27, f28, f29, f30, f31, f32, f33]
                clear f0 f1 f2 f3 f4 f5 f6 f7 f8 f9 f10 f11 f12 f13 f14 f15 f16 f17 f18 f19 f20 f21 f22 f23 f24 f25 f26 f27 f28 f29 f30 f31 f32 f33
                clear eB0 eE0 eE1 eE2 lB lE
                go_wp2_with fail
                go_roundw
                case rel => exact ⟨(j + 1) + 1, by omega, by go_num, HZ, hb.trans ((hA0.trans (hbR.mono hA0.size)).mono hz)⟩
                case measure => simp [intOf]; omega
              · have hC : Op.bytesLess ts[j].var.toList ts[j + 1].var.toList = false := by simpa using hL
                have HZ : Hid (Bnd.allOk ts = false) := Bnd.allOk_bad hlt (by rw [Bnd.okAt_succ hlt]; simp [Bnd.fits, hA, hG, hN, hC])
                clear hN
                refine wp_region_B [fun v _ => v = .pointer (some ⟨wr.heap.size, 0, none⟩), fun v _ => v = .string ts[j + 1].var, fun v _ => v = .bool true, fun v _ => v = .bool false, fun v _ => v = .bool false, fun v _ => v = .pointer (some ⟨wr.heap.size, 1, none⟩), fun v _ => v = .agg #[.string ts[j + 1].term.name, .slice x ts[j + 1].term.args.length xc], fun v _ => v = .bool true, fun v _ => v = .bool false, fun v _ => v = .bool false, fun v _ => v = .bool false, fun v _ => v = .pointer (some ⟨wr.heap.size, 1, none⟩), fun v _ => v = .pointer (some ⟨wr.heap.size, 1, none⟩), fun v _ => v = .string ts[j + 1].term.name, fun v _ => v = .pointer (some ⟨wr.heap.size, 0, none⟩), fun v _ => v = .string ts[j + 1].var, fun v _ => v = .bool false, fun v _ => v = .bool false, fun v _ => v = .bool false, fun v _ => v = .int .i64 ((j + 1 : Nat) : Int), fun v _ => v = .bool true, fun v _ => v = .bool true, fun v _ => v = .pointer (some ⟨w.heap.size, 0, none⟩), fun v _ => v = .slice (some ⟨b, off, none⟩) ts.length cap, fun v _ => v = .int .i64 ((j + 1 : Nat) : Int), fun v _ => v = .int .i64 j, fun v _ => v = .pointer (some ⟨b, off + j * 3, none⟩), fun v _ => v = .pointer (some ⟨b, off + j * 3, none⟩), fun v _ => v = .string ts[j].var, fun v _ => v = .pointer (some ⟨wr.heap.size, 0, none⟩), fun v _ => v = .string ts[j + 1].var, fun v _ => v = .bool true, fun v _ => v = .bool true, fun v _ => v = .bool true] _ (fun V => by simp [putAll, Act.put]; rfl) (by kernel_rfl) (by decide) (by simp) (by kernel_rfl) ?_ ?_ ?_
                · intro F hF
                  simp only [List.mem_cons, List.not_mem_nil, or_false] at hF
                  rcases hF with rfl | rfl | rfl | rfl | rfl | rfl | rfl | rfl | rfl | rfl | rfl | rfl | rfl | rfl | rfl | rfl | rfl | rfl | rfl | rfl | rfl | rfl | rfl | rfl | rfl | rfl | rfl | rfl | rfl | rfl | rfl | rfl | rfl | rfl
                  · exact stable_eq
                  · exact stable_eq
                  · exact stable_eq
                  · exact stable_eq
                  · exact stable_eq
                  · exact stable_eq
                  · exact stable_eq
                  · exact stable_eq
                  · exact stable_eq
                  · exact stable_eq
                  · exact stable_eq
                  · exact stable_eq
                  · exact stable_eq
                  · exact stable_eq
                  · exact stable_eq
                  · exact stable_eq
                  · exact stable_eq
                  · exact stable_eq
                  · exact stable_eq
                  · exact stable_eq
                  · exact stable_eq
                  · exact stable_eq
                  · exact stable_eq
                  · exact stable_eq
                  · exact stable_eq
                  · exact stable_eq
                  · exact stable_eq
                  · exact stable_eq
                  · exact stable_eq
                  · exact stable_eq
                  · exact stable_eq
                  · exact stable_eq
                  · exact stable_eq
                  · exact stable_eq
                · refine ⟨?_, ?_, ?_, ?_, ?_, ?_, ?_, ?_, ?_, ?_, ?_, ?_, ?_, ?_, ?_, ?_, ?_, ?_, ?_, ?_, ?_, ?_, ?_, ?_, ?_, ?_, ?_, ?_, ?_, ?_, ?_, ?_, ?_, ?_, trivial⟩
                  · intro V w1 hbR _
                    unfold Does
                    go_simp
                    exact ⟨Below.refl _ _, rfl⟩
                  · intro V w1 hbR ⟨f0, _⟩
                    replace f0 : V 0 = .pointer (some ⟨wr.heap.size, 0, none⟩) := f0
                    obtain ⟨hc, hf⟩ := bcell hbR
                    try simp only [World.size_alloc, World.size_setCell] at hc hf
                    unfold Does
                    go_simp
                    exact ⟨Below.refl _ _, rfl⟩
                  · intro V w1 hbR ⟨f1, _⟩
                    replace f1 : V 1 = .string ts[j + 1].var := f1
                    obtain ⟨hc, hf⟩ := bcell hbR
                    try simp only [World.size_alloc, World.size_setCell] at hc hf
                    unfold Does
                    go_simp
                    refine (l2Var_any _ hvl w1).mono ?_; rintro e w4 ⟨rfl, rfl⟩; exact ⟨_, rfl, Below.refl _ _, by rw [hA]⟩
                  · intro V w1 hbR ⟨f2, _⟩
                    replace f2 : V 2 = .bool true := f2
                    unfold Does
                    go_simp
                    exact ⟨Below.refl _ _, rfl⟩
                  · intro V w1 hbR ⟨f3, f2, _⟩
                    replace f2 : V 2 = .bool true := f2
                    replace f3 : V 3 = .bool false := f3
                    unfold Does
                    go_simp
                    exact ⟨Below.refl _ _, rfl⟩
                  · intro V w1 hbR ⟨f4, _⟩
                    replace f4 : V 4 = .bool false := f4
                    refine .inl ⟨_, f4, fun hg => ?_, fun hg => ?_⟩
                    · unfold Does
                      go_simp
                      exact ⟨Below.refl _ _, rfl⟩
                    · exact absurd rfl hg
                  · intro V w1 hbR ⟨f5, f4, _⟩
                    replace f4 : V 4 = .bool false := f4
                    replace f5 : V 5 = .pointer (some ⟨wr.heap.size, 1, none⟩) := f5
                    refine .inl ⟨_, f4, fun hg => ?_, fun hg => ?_⟩
                    · obtain ⟨hc, hf⟩ := bcell hbR
                      try simp only [World.size_alloc, World.size_setCell] at hc hf
                      unfold Does
                      go_simp
                      exact ⟨Below.refl _ _, rfl⟩
                    · exact absurd rfl hg
                  · intro V w1 hbR ⟨f6, f4, _, _⟩
                    replace f4 : V 4 = .bool false := f4
                    replace f6 : V 6 = .agg #[.string ts[j + 1].term.name, .slice x ts[j + 1].term.args.length xc] := f6
                    refine .inl ⟨_, f4, fun hg => ?_, fun hg => ?_⟩
                    · obtain ⟨hc, hf⟩ := bcell hbR
                      try simp only [World.size_alloc, World.size_setCell] at hc hf
                      unfold Does
                      go_simp
                      have hq := l2Good_any ts[j + 1].term (Tm.at_keep (Keeps.all hbR) hE) hbm; rw [hG] at hq; exact hq
                    · exact absurd rfl hg
                  · intro V w1 hbR ⟨f7, f4, _⟩
                    replace f4 : V 4 = .bool false := f4
                    replace f7 : V 7 = .bool true := f7
                    refine .inl ⟨_, f4, fun hg => ?_, fun hg => ?_⟩
                    · unfold Does
                      go_simp
                      exact ⟨Below.refl _ _, rfl⟩
                    · exact absurd rfl hg
                  · intro V w1 hbR ⟨f4, f8, _⟩
                    replace f4 : V 4 = .bool false := f4
                    replace f8 : V 8 = .bool false := f8
                    unfold Does
                    go_simp
                    exact ⟨Below.refl _ _, rfl⟩
                  · intro V w1 hbR ⟨f9, f7, _⟩
                    replace f7 : V 7 = .bool true := f7
                    replace f9 : V 9 = .bool false := f9
                    unfold Does
                    go_simp
                    exact ⟨Below.refl _ _, rfl⟩
                  · intro V w1 hbR ⟨f10, _⟩
                    replace f10 : V 10 = .bool false := f10
                    refine .inl ⟨_, f10, fun hg => ?_, fun hg => ?_⟩
                    · unfold Does
                      go_simp
                      exact ⟨Below.refl _ _, rfl⟩
                    · exact absurd rfl hg
                  · intro V w1 hbR ⟨f11, f10, _⟩
                    replace f10 : V 10 = .bool false := f10
                    replace f11 : V 11 = .pointer (some ⟨wr.heap.size, 1, none⟩) := f11
                    refine .inl ⟨_, f10, fun hg => ?_, fun hg => ?_⟩
                    · unfold Does
                      go_simp
                      exact ⟨Below.refl _ _, rfl⟩
                    · exact absurd rfl hg
                  · intro V w1 hbR ⟨f12, f10, _⟩
                    replace f10 : V 10 = .bool false := f10
                    replace f12 : V 12 = .pointer (some ⟨wr.heap.size, 1, none⟩) := f12
                    refine .inl ⟨_, f10, fun hg => ?_, fun hg => ?_⟩
                    · obtain ⟨hc, hf⟩ := bcell hbR
                      try simp only [World.size_alloc, World.size_setCell] at hc hf
                      unfold Does
                      go_simp
                      exact ⟨Below.refl _ _, rfl⟩
                    · exact absurd rfl hg
                  · intro V w1 hbR ⟨f10, _⟩
                    replace f10 : V 10 = .bool false := f10
                    refine .inl ⟨_, f10, fun hg => ?_, fun hg => ?_⟩
                    · unfold Does
                      go_simp
                      exact ⟨Below.refl _ _, rfl⟩
                    · exact absurd rfl hg
                  · intro V w1 hbR ⟨f14, f10, _⟩
                    replace f10 : V 10 = .bool false := f10
                    replace f14 : V 14 = .pointer (some ⟨wr.heap.size, 0, none⟩) := f14
                    refine .inl ⟨_, f10, fun hg => ?_, fun hg => ?_⟩
                    · obtain ⟨hc, hf⟩ := bcell hbR
                      try simp only [World.size_alloc, World.size_setCell] at hc hf
                      unfold Does
                      go_simp
                      exact ⟨Below.refl _ _, rfl⟩
                    · exact absurd rfl hg
                  · intro V w1 hbR ⟨f13, f15, f10, _⟩
                    replace f10 : V 10 = .bool false := f10
                    replace f13 : V 13 = .string ts[j + 1].term.name := f13
                    replace f15 : V 15 = .string ts[j + 1].var := f15
                    refine .inl ⟨_, f10, fun hg => ?_, fun hg => ?_⟩
                    · unfold Does
                      go_simp
                      exact ⟨Below.refl _ _, rfl⟩
                    · exact absurd rfl hg
                  · intro V w1 hbR ⟨f10, f16, _⟩
                    replace f10 : V 10 = .bool false := f10
                    replace f16 : V 16 = .bool false := f16
                    unfold Does
                    go_simp
                    exact ⟨Below.refl _ _, rfl⟩
                  · intro V w1 hbR ⟨f17, f10, _⟩
                    replace f10 : V 10 = .bool false := f10
                    replace f17 : V 17 = .bool false := f17
                    unfold Does
                    go_simp
                    exact ⟨Below.refl _ _, rfl⟩
                  · intro V w1 hbR ⟨f18, _⟩
                    replace f18 : V 18 = .bool false := f18
                    refine .inl ⟨_, f18, fun hg => ?_, fun hg => ?_⟩
                    · unfold Does
                      go_simp
                      exact ⟨Below.refl _ _, rfl⟩
                    · exact absurd rfl hg
                  · intro V w1 hbR ⟨f19, f18, _⟩
                    replace f18 : V 18 = .bool false := f18
                    replace f19 : V 19 = .int .i64 ((j + 1 : Nat) : Int) := f19
                    refine .inl ⟨_, f18, fun hg => ?_, fun hg => ?_⟩
                    · unfold Does
                      go_simp
                      exact ⟨Below.refl _ _, rfl⟩
                    · exact absurd rfl hg
                  · intro V w1 hbR ⟨f20, f18, _, _⟩
                    replace f18 : V 18 = .bool false := f18
                    replace f20 : V 20 = .bool true := f20
                    refine .inl ⟨_, f18, fun hg => ?_, fun hg => ?_⟩
                    · unfold Does
                      go_simp
                      exact ⟨Below.refl _ _, rfl⟩
                    · exact absurd rfl hg
                  · intro V w1 hbR ⟨f21, _⟩
                    replace f21 : V 21 = .bool true := f21
                    refine .inl ⟨_, f21, fun hg => ?_, fun hg => ?_⟩
                    · unfold Does
                      go_simp
                      exact ⟨Below.refl _ _, rfl⟩
                    · exact absurd rfl hg
                  · intro V w1 hbR ⟨f22, f21, _⟩
                    replace f21 : V 21 = .bool true := f21
                    replace f22 : V 22 = .pointer (some ⟨w.heap.size, 0, none⟩) := f22
                    refine .inl ⟨_, f21, fun hg => ?_, fun hg => ?_⟩
                    · obtain ⟨hc, hf⟩ := bcell hbR
                      try simp only [World.size_alloc, World.size_setCell] at hc hf
                      unfold Does
                      go_simp
                      exact ⟨Below.refl _ _, rfl⟩
                    · exact absurd rfl hg
                  · intro V w1 hbR ⟨f21, _⟩
                    replace f21 : V 21 = .bool true := f21
                    refine .inl ⟨_, f21, fun hg => ?_, fun hg => ?_⟩
                    · unfold Does
                      go_simp
                      exact ⟨Below.refl _ _, rfl⟩
                    · exact absurd rfl hg
                  · intro V w1 hbR ⟨f24, f21, _⟩
                    replace f21 : V 21 = .bool true := f21
                    replace f24 : V 24 = .int .i64 ((j + 1 : Nat) : Int) := f24
                    refine .inl ⟨_, f21, fun hg => ?_, fun hg => ?_⟩
                    · unfold Does
                      go_simp
                      exact ⟨Below.refl _ _, by congr 1; rw [IntKind.wrap_i64]; omega⟩
                    · exact absurd rfl hg
                  · intro V w1 hbR ⟨f23, f25, f21, _⟩
                    replace f21 : V 21 = .bool true := f21
                    replace f23 : V 23 = .slice (some ⟨b, off, none⟩) ts.length cap := f23
                    replace f25 : V 25 = .int .i64 j := f25
                    refine .inl ⟨_, f21, fun hg => ?_, fun hg => ?_⟩
                    · unfold Does
                      go_simp
                      exact ⟨Below.refl _ _, rfl⟩
                    · exact absurd rfl hg
                  · intro V w1 hbR ⟨f26, f21, _⟩
                    replace f21 : V 21 = .bool true := f21
                    replace f26 : V 26 = .pointer (some ⟨b, off + j * 3, none⟩) := f26
                    refine .inl ⟨_, f21, fun hg => ?_, fun hg => ?_⟩
                    · unfold Does
                      go_simp
                      exact ⟨Below.refl _ _, rfl⟩
                    · exact absurd rfl hg
                  · intro V w1 hbR ⟨f27, f21, _⟩
                    replace f21 : V 21 = .bool true := f21
                    replace f27 : V 27 = .pointer (some ⟨b, off + j * 3, none⟩) := f27
                    refine .inl ⟨_, f21, fun hg => ?_, fun hg => ?_⟩
                    · obtain ⟨hc, hf⟩ := bcell hbR
                      try simp only [World.size_alloc, World.size_setCell] at hc hf
                      unfold Does
                      go_simp
                      exact ⟨Below.refl _ _, rfl⟩
                    · exact absurd rfl hg
                  · intro V w1 hbR ⟨f21, _⟩
                    replace f21 : V 21 = .bool true := f21
                    refine .inl ⟨_, f21, fun hg => ?_, fun hg => ?_⟩
                    · unfold Does
                      go_simp
                      exact ⟨Below.refl _ _, rfl⟩
                    · exact absurd rfl hg
                  · intro V w1 hbR ⟨f29, f21, _⟩
                    replace f21 : V 21 = .bool true := f21
                    replace f29 : V 29 = .pointer (some ⟨wr.heap.size, 0, none⟩) := f29
                    refine .inl ⟨_, f21, fun hg => ?_, fun hg => ?_⟩
                    · obtain ⟨hc, hf⟩ := bcell hbR
                      try simp only [World.size_alloc, World.size_setCell] at hc hf
                      unfold Does
                      go_simp
                      exact ⟨Below.refl _ _, rfl⟩
                    · exact absurd rfl hg
                  · intro V w1 hbR ⟨f28, f30, f21, _⟩
                    replace f21 : V 21 = .bool true := f21
                    replace f28 : V 28 = .string ts[j].var := f28
                    replace f30 : V 30 = .string ts[j + 1].var := f30
                    refine .inl ⟨_, f21, fun hg => ?_, fun hg => ?_⟩
                    · unfold Does
                      go_simp
                      exact ⟨Below.refl _ _, rfl⟩
                    · exact absurd rfl hg
                  · intro V w1 hbR ⟨f21, f31, f18, _⟩
                    replace f18 : V 18 = .bool false := f18
                    replace f21 : V 21 = .bool true := f21
                    replace f31 : V 31 = .bool true := f31
                    refine .inl ⟨_, f18, fun hg => ?_, fun hg => ?_⟩
                    · unfold Does
                      go_simp
                      exact ⟨Below.refl _ _, rfl⟩
                    · exact absurd rfl hg
                  · intro V w1 hbR ⟨f18, f32, _⟩
                    replace f18 : V 18 = .bool false := f18
                    replace f32 : V 32 = .bool true := f32
                    unfold Does
                    go_simp
                    exact ⟨Below.refl _ _, rfl⟩
                intro V w3 hbR hfR
                obtain ⟨f0, f1, f2, f3, f4, f5, f6, f7, f8, f9, f10, f11, f12, f13, f14, f15, f16, f17, f18, f19, f20, f21, f22, f23, f24, f25, f26, f27, f28, f29, f30, f31, f32, f33, _⟩ := hfR
                replace f0 : V 0 = .pointer (some ⟨wr.heap.size, 0, none⟩) := f0
                replace f1 : V 1 = .string ts[j + 1].var := f1
                replace f2 : V 2 = .bool true := f2
                replace f3 : V 3 = .bool false := f3
                replace f4 : V 4 = .bool false := f4
                replace f5 : V 5 = .pointer (some ⟨wr.heap.size, 1, none⟩) := f5
                replace f6 : V 6 = .agg #[.string ts[j + 1].term.name, .slice x ts[j + 1].term.args.length xc] := f6
                replace f7 : V 7 = .bool true := f7
                replace f8 : V 8 = .bool false := f8
                replace f9 : V 9 = .bool false := f9
                replace f10 : V 10 = .bool false := f10
                replace f11 : V 11 = .pointer (some ⟨wr.heap.size, 1, none⟩) := f11
                replace f12 : V 12 = .pointer (some ⟨wr.heap.size, 1, none⟩) := f12
                replace f13 : V 13 = .string ts[j + 1].term.name := f13
                replace f14 : V 14 = .pointer (some ⟨wr.heap.size, 0, none⟩) := f14
                replace f15 : V 15 = .string ts[j + 1].var := f15
                replace f16 : V 16 = .bool false := f16
                replace f17 : V 17 = .bool false := f17
                replace f18 : V 18 = .bool false := f18
                replace f19 : V 19 = .int .i64 ((j + 1 : Nat) : Int) := f19
                replace f20 : V 20 = .bool true := f20
                replace f21 : V 21 = .bool true := f21
                replace f22 : V 22 = .pointer (some ⟨w.heap.size, 0, none⟩) := f22
                replace f23 : V 23 = .slice (some ⟨b, off, none⟩) ts.length cap := f23
                replace f24 : V 24 = .int .i64 ((j + 1 : Nat) : Int) := f24
                replace f25 : V 25 = .int .i64 j := f25
                replace f26 : V 26 = .pointer (some ⟨b, off + j * 3, none⟩) := f26
                replace f27 : V 27 = .pointer (some ⟨b, off + j * 3, none⟩) := f27
                replace f28 : V 28 = .string ts[j].var := f28
                replace f29 : V 29 = .pointer (some ⟨wr.heap.size, 0, none⟩) := f29
                replace f30 : V 30 = .string ts[j + 1].var := f30
                replace f31 : V 31 = .bool true := f31
                replace f32 : V 32 = .bool true := f32
                replace f33 : V 33 = .bool true := f33
                simp only [f0, f1, f2, f3, f4, f5, f6, f7, f8, f9, f10, f11, f12, f13, f14, f15, f16, f17, f18, f19, f20, f21, f22, f23, f24, f25, f26, f27, f28, f29, f30, f31, f32, f33]
                clear f0 f1 f2 f3 f4 f5 f6 f7 f8 f9 f10 f11 f12 f13 f14 f15 f16 f17 f18 f19 f20 f21 f22 f23 f24 f25 f26 f27 f28 f29 f30 f31 f32 f33
                clear eB0 eE0 eE1 eE2 lB lE
                go_wp2_with fail
                go_ret
                exact Gives.mk (by rw [Sb.valid, HZ.out]; rfl) (hW.trans (hbR.mono hW.size))
        · replace hG : ts[k].term.valid = false := by simpa using hG
          have HZ : Hid (Bnd.allOk ts = false) := Bnd.allOk_bad hlt (Bnd.okAt_fits hlt (by simp [Bnd.fits, hA, hG]))
          refine wp_region_B [fun v _ => v = .pointer (some ⟨wr.heap.size, 0, none⟩), fun v _ => v = .string ts[k].var, fun v _ => v = .bool true, fun v _ => v = .bool false, fun v _ => v = .bool false, fun v _ => v = .pointer (some ⟨wr.heap.size, 1, none⟩), fun v _ => v = .agg #[.string ts[k].term.name, .slice x ts[k].term.args.length xc], fun v _ => v = .bool false, fun v _ => v = .bool true, fun v _ => v = .bool true, fun v _ => v = .bool true, fun v _ => v = undef, fun v _ => v = undef, fun v _ => v = undef, fun v _ => v = undef, fun v _ => v = undef, fun v _ => v = undef, fun v _ => v = .bool true, fun v _ => v = .bool true, fun v _ => v = undef, fun v _ => v = undef, fun v _ => v = undef, fun v _ => v = undef, fun v _ => v = undef, fun v _ => v = undef, fun v _ => v = undef, fun v _ => v = undef, fun v _ => v = undef, fun v _ => v = undef, fun v _ => v = undef, fun v _ => v = undef, fun v _ => v = undef, fun v _ => v = undef, fun v _ => v = .bool true] _ (fun V => by simp [putAll, Act.put]; rfl) (by kernel_rfl) (by decide) (by simp) (by kernel_rfl) ?_ ?_ ?_
          · intro F hF
            simp only [List.mem_cons, List.not_mem_nil, or_false] at hF
            rcases hF with rfl | rfl | rfl | rfl | rfl | rfl | rfl | rfl | rfl | rfl | rfl | rfl | rfl | rfl | rfl | rfl | rfl | rfl | rfl | rfl | rfl | rfl | rfl | rfl | rfl | rfl | rfl | rfl | rfl | rfl | rfl | rfl | rfl | rfl
            · exact stable_eq
            · exact stable_eq
            · exact stable_eq
            · exact stable_eq
            · exact stable_eq
            · exact stable_eq
            · exact stable_eq
            · exact stable_eq
            · exact stable_eq
            · exact stable_eq
            · exact stable_eq
            · exact stable_eq
            · exact stable_eq
            · exact stable_eq
            · exact stable_eq
            · exact stable_eq
            · exact stable_eq
            · exact stable_eq
            · exact stable_eq
            · exact stable_eq
            · exact stable_eq
            · exact stable_eq
            · exact stable_eq
            · exact stable_eq
            · exact stable_eq
            · exact stable_eq
            · exact stable_eq
            · exact stable_eq
            · exact stable_eq
            · exact stable_eq
            · exact stable_eq
            · exact stable_eq
            · exact stable_eq
            · exact stable_eq
          · refine ⟨?_, ?_, ?_, ?_, ?_, ?_, ?_, ?_, ?_, ?_, ?_, ?_, ?_, ?_, ?_, ?_, ?_, ?_, ?_, ?_, ?_, ?_, ?_, ?_, ?_, ?_, ?_, ?_, ?_, ?_, ?_, ?_, ?_, ?_, trivial⟩
            · intro V w1 hbR _
              unfold Does
              go_simp
              exact ⟨Below.refl _ _, rfl⟩
            · intro V w1 hbR ⟨f0, _⟩
              replace f0 : V 0 = .pointer (some ⟨wr.heap.size, 0, none⟩) := f0
              obtain ⟨hc, hf⟩ := bcell hbR
              try simp only [World.size_alloc, World.size_setCell] at hc hf
              unfold Does
              go_simp
              exact ⟨Below.refl _ _, rfl⟩
            · intro V w1 hbR ⟨f1, _⟩
              replace f1 : V 1 = .string ts[k].var := f1
              obtain ⟨hc, hf⟩ := bcell hbR
              try simp only [World.size_alloc, World.size_setCell] at hc hf
              unfold Does
              go_simp
              refine (l2Var_any _ hvl w1).mono ?_; rintro e w4 ⟨rfl, rfl⟩; exact ⟨_, rfl, Below.refl _ _, by rw [hA]⟩
            · intro V w1 hbR ⟨f2, _⟩
              replace f2 : V 2 = .bool true := f2
              unfold Does
              go_simp
              exact ⟨Below.refl _ _, rfl⟩
            · intro V w1 hbR ⟨f3, f2, _⟩
              replace f2 : V 2 = .bool true := f2
              replace f3 : V 3 = .bool false := f3
              unfold Does
              go_simp
              exact ⟨Below.refl _ _, rfl⟩
            · intro V w1 hbR ⟨f4, _⟩
              replace f4 : V 4 = .bool false := f4
              refine .inl ⟨_, f4, fun hg => ?_, fun hg => ?_⟩
              · unfold Does
                go_simp
                exact ⟨Below.refl _ _, rfl⟩
              · exact absurd rfl hg
            · intro V w1 hbR ⟨f5, f4, _⟩
              replace f4 : V 4 = .bool false := f4
              replace f5 : V 5 = .pointer (some ⟨wr.heap.size, 1, none⟩) := f5
              refine .inl ⟨_, f4, fun hg => ?_, fun hg => ?_⟩
              · obtain ⟨hc, hf⟩ := bcell hbR
                try simp only [World.size_alloc, World.size_setCell] at hc hf
                unfold Does
                go_simp
                exact ⟨Below.refl _ _, rfl⟩
              · exact absurd rfl hg
            · intro V w1 hbR ⟨f6, f4, _, _⟩
              replace f4 : V 4 = .bool false := f4
              replace f6 : V 6 = .agg #[.string ts[k].term.name, .slice x ts[k].term.args.length xc] := f6
              refine .inl ⟨_, f4, fun hg => ?_, fun hg => ?_⟩
              · obtain ⟨hc, hf⟩ := bcell hbR
                try simp only [World.size_alloc, World.size_setCell] at hc hf
                unfold Does
                go_simp
                have hq := l2Good_any ts[k].term (Tm.at_keep (Keeps.all hbR) hE) hbm; rw [hG] at hq; exact hq
              · exact absurd rfl hg
            · intro V w1 hbR ⟨f7, f4, _⟩
              replace f4 : V 4 = .bool false := f4
              replace f7 : V 7 = .bool false := f7
              refine .inl ⟨_, f4, fun hg => ?_, fun hg => ?_⟩
              · unfold Does
                go_simp
                exact ⟨Below.refl _ _, rfl⟩
              · exact absurd rfl hg
            · intro V w1 hbR ⟨f4, f8, _⟩
              replace f4 : V 4 = .bool false := f4
              replace f8 : V 8 = .bool true := f8
              unfold Does
              go_simp
              exact ⟨Below.refl _ _, rfl⟩
            · intro V w1 hbR ⟨f9, f7, _⟩
              replace f7 : V 7 = .bool false := f7
              replace f9 : V 9 = .bool true := f9
              unfold Does
              go_simp
              exact ⟨Below.refl _ _, rfl⟩
            · intro V w1 hbR ⟨f10, _⟩
              replace f10 : V 10 = .bool true := f10
              refine .inl ⟨_, f10, fun hg => ?_, fun hg => ?_⟩
              · exact absurd hg (by decide)
              · rfl
            · intro V w1 hbR ⟨f11, f10, _⟩
              replace f10 : V 10 = .bool true := f10
              replace f11 : V 11 = undef := f11
              refine .inl ⟨_, f10, fun hg => ?_, fun hg => ?_⟩
              · exact absurd hg (by decide)
              · rfl
            · intro V w1 hbR ⟨f12, f10, _⟩
              replace f10 : V 10 = .bool true := f10
              replace f12 : V 12 = undef := f12
              refine .inl ⟨_, f10, fun hg => ?_, fun hg => ?_⟩
              · exact absurd hg (by decide)
              · rfl
            · intro V w1 hbR ⟨f10, _⟩
              replace f10 : V 10 = .bool true := f10
              refine .inl ⟨_, f10, fun hg => ?_, fun hg => ?_⟩
              · exact absurd hg (by decide)
              · rfl
            · intro V w1 hbR ⟨f14, f10, _⟩
              replace f10 : V 10 = .bool true := f10
              replace f14 : V 14 = undef := f14
              refine .inl ⟨_, f10, fun hg => ?_, fun hg => ?_⟩
              · exact absurd hg (by decide)
              · rfl
            · intro V w1 hbR ⟨f13, f15, f10, _⟩
              replace f10 : V 10 = .bool true := f10
              replace f13 : V 13 = undef := f13
              replace f15 : V 15 = undef := f15
              refine .inl ⟨_, f10, fun hg => ?_, fun hg => ?_⟩
              · exact absurd hg (by decide)
              · rfl
            · intro V w1 hbR ⟨f10, f16, _⟩
              replace f10 : V 10 = .bool true := f10
              replace f16 : V 16 = undef := f16
              unfold Does
              go_simp
              exact ⟨Below.refl _ _, rfl⟩
            · intro V w1 hbR ⟨f17, f10, _⟩
              replace f10 : V 10 = .bool true := f10
              replace f17 : V 17 = .bool true := f17
              unfold Does
              go_simp
              exact ⟨Below.refl _ _, rfl⟩
            · intro V w1 hbR ⟨f18, _⟩
              replace f18 : V 18 = .bool true := f18
              refine .inl ⟨_, f18, fun hg => ?_, fun hg => ?_⟩
              · exact absurd hg (by decide)
              · rfl
            · intro V w1 hbR ⟨f19, f18, _⟩
              replace f18 : V 18 = .bool true := f18
              replace f19 : V 19 = undef := f19
              refine .inl ⟨_, f18, fun hg => ?_, fun hg => ?_⟩
              · exact absurd hg (by decide)
              · rfl
            · intro V w1 hbR ⟨f20, f18, _, _⟩
              replace f18 : V 18 = .bool true := f18
              replace f20 : V 20 = undef := f20
              refine .inl ⟨_, f18, fun hg => ?_, fun hg => ?_⟩
              · exact absurd hg (by decide)
              · rfl
            · intro V w1 hbR ⟨f21, _⟩
              replace f21 : V 21 = undef := f21
              exact .inr ⟨f21, rfl⟩
            · intro V w1 hbR ⟨f22, f21, _⟩
              replace f21 : V 21 = undef := f21
              replace f22 : V 22 = undef := f22
              exact .inr ⟨f21, rfl⟩
            · intro V w1 hbR ⟨f21, _⟩
              replace f21 : V 21 = undef := f21
              exact .inr ⟨f21, rfl⟩
            · intro V w1 hbR ⟨f24, f21, _⟩
              replace f21 : V 21 = undef := f21
              replace f24 : V 24 = undef := f24
              exact .inr ⟨f21, rfl⟩
            · intro V w1 hbR ⟨f23, f25, f21, _⟩
              replace f21 : V 21 = undef := f21
              replace f23 : V 23 = undef := f23
              replace f25 : V 25 = undef := f25
              exact .inr ⟨f21, rfl⟩
            · intro V w1 hbR ⟨f26, f21, _⟩
              replace f21 : V 21 = undef := f21
              replace f26 : V 26 = undef := f26
              exact .inr ⟨f21, rfl⟩
            · intro V w1 hbR ⟨f27, f21, _⟩
              replace f21 : V 21 = undef := f21
              replace f27 : V 27 = undef := f27
              exact .inr ⟨f21, rfl⟩
            · intro V w1 hbR ⟨f21, _⟩
              replace f21 : V 21 = undef := f21
              exact .inr ⟨f21, rfl⟩
            · intro V w1 hbR ⟨f29, f21, _⟩
              replace f21 : V 21 = undef := f21
              replace f29 : V 29 = undef := f29
              exact .inr ⟨f21, rfl⟩
            · intro V w1 hbR ⟨f28, f30, f21, _⟩
              replace f21 : V 21 = undef := f21
              replace f28 : V 28 = undef := f28
              replace f30 : V 30 = undef := f30
              exact .inr ⟨f21, rfl⟩
            · intro V w1 hbR ⟨f21, f31, f18, _⟩
              replace f18 : V 18 = .bool true := f18
              replace f21 : V 21 = undef := f21
              replace f31 : V 31 = undef := f31
              refine .inl ⟨_, f18, fun hg => ?_, fun hg => ?_⟩
              · exact absurd hg (by decide)
              · rfl
            · intro V w1 hbR ⟨f18, f32, _⟩
              replace f18 : V 18 = .bool true := f18
              replace f32 : V 32 = undef := f32
              unfold Does
              go_simp
              exact ⟨Below.refl _ _, rfl⟩
          intro V w3 hbR hfR
          obtain ⟨f0, f1, f2, f3, f4, f5, f6, f7, f8, f9, f10, f11, f12, f13, f14, f15, f16, f17, f18, f19, f20, f21, f22, f23, f24, f25, f26, f27, f28, f29, f30, f31, f32, f33, _⟩ := hfR
          replace f0 : V 0 = .pointer (some ⟨wr.heap.size, 0, none⟩) := f0
          replace f1 : V 1 = .string ts[k].var := f1
          replace f2 : V 2 = .bool true := f2
          replace f3 : V 3 = .bool false := f3
          replace f4 : V 4 = .bool false := f4
          replace f5 : V 5 = .pointer (some ⟨wr.heap.size, 1, none⟩) := f5
          replace f6 : V 6 = .agg #[.string ts[k].term.name, .slice x ts[k].term.args.length xc] := f6
          replace f7 : V 7 = .bool false := f7
          replace f8 : V 8 = .bool true := f8
          replace f9 : V 9 = .bool true := f9
          replace f10 : V 10 = .bool true := f10
          replace f11 : V 11 = undef := f11
          replace f12 : V 12 = undef := f12
          replace f13 : V 13 = undef := f13
          replace f14 : V 14 = undef := f14
          replace f15 : V 15 = undef := f15
          replace f16 : V 16 = undef := f16
          replace f17 : V 17 = .bool true := f17
          replace f18 : V 18 = .bool true := f18
          replace f19 : V 19 = undef := f19
          replace f20 : V 20 = undef := f20
          replace f21 : V 21 = undef := f21
          replace f22 : V 22 = undef := f22
          replace f23 : V 23 = undef := f23
          replace f24 : V 24 = undef := f24
          replace f25 : V 25 = undef := f25
          replace f26 : V 26 = undef := f26
          replace f27 : V 27 = undef := f27
          replace f28 : V 28 = undef := f28
          replace f29 : V 29 = undef := f29
          replace f30 : V 30 = undef := f30
          replace f31 : V 31 = undef := f31
          replace f32 : V 32 = undef := f32
          replace f33 : V 33 = .bool true := f33
          simp only [f0, f1, f2, f3, f4, f5, f6, f7, f8, f9, f10, f11, f12, f13, f14, f15, f16, f17, f18, f19, f20, f21, f22, f23, f24, f25, f26, f27, f28, f29, f30, f31, f32, f33]
          clear f0 f1 f2 f3 f4 f5 f6 f7 f8 f9 f10 f11 f12 f13 f14 f15 f16 f17 f18 f19 f20 f21 f22 f23 f24 f25 f26 f27 f28 f29 f30 f31 f32 f33
          clear eB0 eE0 eE1 eE2 lB lE
          go_wp2_with fail
          go_ret
          exact Gives.mk (by rw [Sb.valid, HZ.out]; rfl) (hW.trans (hbR.mono hW.size))
      · replace hA : varName ts[k].var = false := by simpa using hA
        have HZ : Hid (Bnd.allOk ts = false) := Bnd.allOk_bad hlt (Bnd.okAt_fits hlt (by simp [Bnd.fits, hA]))
        refine wp_region_B [fun v _ => v = .pointer (some ⟨wr.heap.size, 0, none⟩), fun v _ => v = .string ts[k].var, fun v _ => v = .bool false, fun v _ => v = .bool true, fun v _ => v = .bool true, fun v _ => v = undef, fun v _ => v = undef, fun v _ => v = undef, fun v _ => v = undef, fun v _ => v = .bool true, fun v _ => v = .bool true, fun v _ => v = undef, fun v _ => v = undef, fun v _ => v = undef, fun v _ => v = undef, fun v _ => v = undef, fun v _ => v = undef, fun v _ => v = .bool true, fun v _ => v = .bool true, fun v _ => v = undef, fun v _ => v = undef, fun v _ => v = undef, fun v _ => v = undef, fun v _ => v = undef, fun v _ => v = undef, fun v _ => v = undef, fun v _ => v = undef, fun v _ => v = undef, fun v _ => v = undef, fun v _ => v = undef, fun v _ => v = undef, fun v _ => v = undef, fun v _ => v = undef, fun v _ => v = .bool true] _ (fun V => by simp [putAll, Act.put]; rfl) (by kernel_rfl) (by decide) (by simp) (by kernel_rfl) ?_ ?_ ?_
        · intro F hF
          simp only [List.mem_cons, List.not_mem_nil, or_false] at hF
          rcases hF with rfl | rfl | rfl | rfl | rfl | rfl | rfl | rfl | rfl | rfl | rfl | rfl | rfl | rfl | rfl | rfl | rfl | rfl | rfl | rfl | rfl | rfl | rfl | rfl | rfl | rfl | rfl | rfl | rfl | rfl | rfl | rfl | rfl | rfl
          · exact stable_eq
          · exact stable_eq
          · exact stable_eq
          · exact stable_eq
          · exact stable_eq
          · exact stable_eq
          · exact stable_eq
          · exact stable_eq
          · exact stable_eq
          · exact stable_eq
          · exact stable_eq
          · exact stable_eq
          · exact stable_eq
          · exact stable_eq
          · exact stable_eq
          · exact stable_eq
          · exact stable_eq
          · exact stable_eq
          · exact stable_eq
          · exact stable_eq
          · exact stable_eq
          · exact stable_eq
          · exact stable_eq
          · exact stable_eq
          · exact stable_eq
          · exact stable_eq
          · exact stable_eq
          · exact stable_eq
          · exact stable_eq
          · exact stable_eq
          · exact stable_eq
          · exact stable_eq
          · exact stable_eq
          · exact stable_eq
        · refine ⟨?_, ?_, ?_, ?_, ?_, ?_, ?_, ?_, ?_, ?_, ?_, ?_, ?_, ?_, ?_, ?_, ?_, ?_, ?_, ?_, ?_, ?_, ?_, ?_, ?_, ?_, ?_, ?_, ?_, ?_, ?_, ?_, ?_, ?_, trivial⟩
          · intro V w1 hbR _
            unfold Does
            go_simp
            exact ⟨Below.refl _ _, rfl⟩
          · intro V w1 hbR ⟨f0, _⟩
            replace f0 : V 0 = .pointer (some ⟨wr.heap.size, 0, none⟩) := f0
            obtain ⟨hc, hf⟩ := bcell hbR
            try simp only [World.size_alloc, World.size_setCell] at hc hf
            unfold Does
            go_simp
            exact ⟨Below.refl _ _, rfl⟩
          · intro V w1 hbR ⟨f1, _⟩
            replace f1 : V 1 = .string ts[k].var := f1
            obtain ⟨hc, hf⟩ := bcell hbR
            try simp only [World.size_alloc, World.size_setCell] at hc hf
            unfold Does
            go_simp
            refine (l2Var_any _ hvl w1).mono ?_; rintro e w4 ⟨rfl, rfl⟩; exact ⟨_, rfl, Below.refl _ _, by rw [hA]⟩
          · intro V w1 hbR ⟨f2, _⟩
            replace f2 : V 2 = .bool false := f2
            unfold Does
            go_simp
            exact ⟨Below.refl _ _, rfl⟩
          · intro V w1 hbR ⟨f3, f2, _⟩
            replace f2 : V 2 = .bool false := f2
            replace f3 : V 3 = .bool true := f3
            unfold Does
            go_simp
            exact ⟨Below.refl _ _, rfl⟩
          · intro V w1 hbR ⟨f4, _⟩
            replace f4 : V 4 = .bool true := f4
            refine .inl ⟨_, f4, fun hg => ?_, fun hg => ?_⟩
            · exact absurd hg (by decide)
            · rfl
          · intro V w1 hbR ⟨f5, f4, _⟩
            replace f4 : V 4 = .bool true := f4
            replace f5 : V 5 = undef := f5
            refine .inl ⟨_, f4, fun hg => ?_, fun hg => ?_⟩
            · exact absurd hg (by decide)
            · rfl
          · intro V w1 hbR ⟨f6, f4, _, _⟩
            replace f4 : V 4 = .bool true := f4
            replace f6 : V 6 = undef := f6
            refine .inl ⟨_, f4, fun hg => ?_, fun hg => ?_⟩
            · exact absurd hg (by decide)
            · rfl
          · intro V w1 hbR ⟨f7, f4, _⟩
            replace f4 : V 4 = .bool true := f4
            replace f7 : V 7 = undef := f7
            refine .inl ⟨_, f4, fun hg => ?_, fun hg => ?_⟩
            · exact absurd hg (by decide)
            · rfl
          · intro V w1 hbR ⟨f4, f8, _⟩
            replace f4 : V 4 = .bool true := f4
            replace f8 : V 8 = undef := f8
            unfold Does
            go_simp
            exact ⟨Below.refl _ _, rfl⟩
          · intro V w1 hbR ⟨f9, f7, _⟩
            replace f7 : V 7 = undef := f7
            replace f9 : V 9 = .bool true := f9
            unfold Does
            go_simp
            exact ⟨Below.refl _ _, rfl⟩
          · intro V w1 hbR ⟨f10, _⟩
            replace f10 : V 10 = .bool true := f10
            refine .inl ⟨_, f10, fun hg => ?_, fun hg => ?_⟩
            · exact absurd hg (by decide)
            · rfl
          · intro V w1 hbR ⟨f11, f10, _⟩
            replace f10 : V 10 = .bool true := f10
            replace f11 : V 11 = undef := f11
            refine .inl ⟨_, f10, fun hg => ?_, fun hg => ?_⟩
            · exact absurd hg (by decide)
            · rfl
          · intro V w1 hbR ⟨f12, f10, _⟩
            replace f10 : V 10 = .bool true := f10
            replace f12 : V 12 = undef := f12
            refine .inl ⟨_, f10, fun hg => ?_, fun hg => ?_⟩
            · exact absurd hg (by decide)
            · rfl
          · intro V w1 hbR ⟨f10, _⟩
            replace f10 : V 10 = .bool true := f10
            refine .inl ⟨_, f10, fun hg => ?_, fun hg => ?_⟩
            · exact absurd hg (by decide)
            · rfl
          · intro V w1 hbR ⟨f14, f10, _⟩
            replace f10 : V 10 = .bool true := f10
            replace f14 : V 14 = undef := f14
            refine .inl ⟨_, f10, fun hg => ?_, fun hg => ?_⟩
            · exact absurd hg (by decide)
            · rfl
          · intro V w1 hbR ⟨f13, f15, f10, _⟩
            replace f10 : V 10 = .bool true := f10
            replace f13 : V 13 = undef := f13
            replace f15 : V 15 = undef := f15
            refine .inl ⟨_, f10, fun hg => ?_, fun hg => ?_⟩
            · exact absurd hg (by decide)
            · rfl
          · intro V w1 hbR ⟨f10, f16, _⟩
            replace f10 : V 10 = .bool true := f10
            replace f16 : V 16 = undef := f16
            unfold Does
            go_simp
            exact ⟨Below.refl _ _, rfl⟩
          · intro V w1 hbR ⟨f17, f10, _⟩
            replace f10 : V 10 = .bool true := f10
            replace f17 : V 17 = .bool true := f17
            unfold Does
            go_simp
            exact ⟨Below.refl _ _, rfl⟩
          · intro V w1 hbR ⟨f18, _⟩
            replace f18 : V 18 = .bool true := f18
            refine .inl ⟨_, f18, fun hg => ?_, fun hg => ?_⟩
            · exact absurd hg (by decide)
            · rfl
          · intro V w1 hbR ⟨f19, f18, _⟩
            replace f18 : V 18 = .bool true := f18
            replace f19 : V 19 = undef := f19
            refine .inl ⟨_, f18, fun hg => ?_, fun hg => ?_⟩
            · exact absurd hg (by decide)
            · rfl
          · intro V w1 hbR ⟨f20, f18, _, _⟩
            replace f18 : V 18 = .bool true := f18
            replace f20 : V 20 = undef := f20
            refine .inl ⟨_, f18, fun hg => ?_, fun hg => ?_⟩
            · exact absurd hg (by decide)
            · rfl
          · intro V w1 hbR ⟨f21, _⟩
            replace f21 : V 21 = undef := f21
            exact .inr ⟨f21, rfl⟩
          · intro V w1 hbR ⟨f22, f21, _⟩
            replace f21 : V 21 = undef := f21
            replace f22 : V 22 = undef := f22
            exact .inr ⟨f21, rfl⟩
          · intro V w1 hbR ⟨f21, _⟩
            replace f21 : V 21 = undef := f21
            exact .inr ⟨f21, rfl⟩
          · intro V w1 hbR ⟨f24, f21, _⟩
            replace f21 : V 21 = undef := f21
            replace f24 : V 24 = undef := f24
            exact .inr ⟨f21, rfl⟩
          · intro V w1 hbR ⟨f23, f25, f21, _⟩
            replace f21 : V 21 = undef := f21
            replace f23 : V 23 = undef := f23
            replace f25 : V 25 = undef := f25
            exact .inr ⟨f21, rfl⟩
          · intro V w1 hbR ⟨f26, f21, _⟩
            replace f21 : V 21 = undef := f21
            replace f26 : V 26 = undef := f26
            exact .inr ⟨f21, rfl⟩
          · intro V w1 hbR ⟨f27, f21, _⟩
            replace f21 : V 21 = undef := f21
            replace f27 : V 27 = undef := f27
            exact .inr ⟨f21, rfl⟩
          · intro V w1 hbR ⟨f21, _⟩
            replace f21 : V 21 = undef := f21
            exact .inr ⟨f21, rfl⟩
          · intro V w1 hbR ⟨f29, f21, _⟩
            replace f21 : V 21 = undef := f21
            replace f29 : V 29 = undef := f29
            exact .inr ⟨f21, rfl⟩
          · intro V w1 hbR ⟨f28, f30, f21, _⟩
            replace f21 : V 21 = undef := f21
            replace f28 : V 28 = undef := f28
            replace f30 : V 30 = undef := f30
            exact .inr ⟨f21, rfl⟩
          · intro V w1 hbR ⟨f21, f31, f18, _⟩
            replace f18 : V 18 = .bool true := f18
            replace f21 : V 21 = undef := f21
            replace f31 : V 31 = undef := f31
            refine .inl ⟨_, f18, fun hg => ?_, fun hg => ?_⟩
            · exact absurd hg (by decide)
            · rfl
          · intro V w1 hbR ⟨f18, f32, _⟩
            replace f18 : V 18 = .bool true := f18
            replace f32 : V 32 = undef := f32
            unfold Does
            go_simp
            exact ⟨Below.refl _ _, rfl⟩
        intro V w3 hbR hfR
        obtain ⟨f0, f1, f2, f3, f4, f5, f6, f7, f8, f9, f10, f11, f12, f13, f14, f15, f16, f17, f18, f19, f20, f21, f22, f23, f24, f25, f26, f27, f28, f29, f30, f31, f32, f33, _⟩ := hfR
        replace f0 : V 0 = .pointer (some ⟨wr.heap.size, 0, none⟩) := f0
        replace f1 : V 1 = .string ts[k].var := f1
        replace f2 : V 2 = .bool false := f2
        replace f3 : V 3 = .bool true := f3
        replace f4 : V 4 = .bool true := f4
        replace f5 : V 5 = undef := f5
        replace f6 : V 6 = undef := f6
        replace f7 : V 7 = undef := f7
        replace f8 : V 8 = undef := f8
        replace f9 : V 9 = .bool true := f9
        replace f10 : V 10 = .bool true := f10
        replace f11 : V 11 = undef := f11
        replace f12 : V 12 = undef := f12
        replace f13 : V 13 = undef := f13
        replace f14 : V 14 = undef := f14
        replace f15 : V 15 = undef := f15
        replace f16 : V 16 = undef := f16
        replace f17 : V 17 = .bool true := f17
        replace f18 : V 18 = .bool true := f18
        replace f19 : V 19 = undef := f19
        replace f20 : V 20 = undef := f20
        replace f21 : V 21 = undef := f21
        replace f22 : V 22 = undef := f22
        replace f23 : V 23 = undef := f23
        replace f24 : V 24 = undef := f24
        replace f25 : V 25 = undef := f25
        replace f26 : V 26 = undef := f26
        replace f27 : V 27 = undef := f27
        replace f28 : V 28 = undef := f28
        replace f29 : V 29 = undef := f29
        replace f30 : V 30 = undef := f30
        replace f31 : V 31 = undef := f31
        replace f32 : V 32 = undef := f32
        replace f33 : V 33 = .bool true := f33
        simp only [f0, f1, f2, f3, f4, f5, f6, f7, f8, f9, f10, f11, f12, f13, f14, f15, f16, f17, f18, f19, f20, f21, f22, f23, f24, f25, f26, f27, f28, f29, f30, f31, f32, f33]
        clear f0 f1 f2 f3 f4 f5 f6 f7 f8 f9 f10 f11 f12 f13 f14 f15 f16 f17 f18 f19 f20 f21 f22 f23 f24 f25 f26 f27 f28 f29 f30 f31 f32 f33
        clear eB0 eE0 eE1 eE2 lB lE
        go_wp2_with fail
        go_ret
        exact Gives.mk (by rw [Sb.valid, HZ.out]; rfl) (hW.trans (hbR.mono hW.size))
    · obtain rfl : k = ts.length := by omega
      have HZ : Hid (Bnd.allOk ts = true) := Bnd.allOk_good HX.out
      clear hr
      go_wp2_with fail
      go_ret
      exact Gives.mk (by rw [Sb.valid, HZ.out]; simp; omega) hbw
end Go.Proofs.YtglhbaigigdeeaaGreat
