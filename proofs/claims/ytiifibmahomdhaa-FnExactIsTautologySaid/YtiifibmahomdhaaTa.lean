/- Is a clause a tautology? The program's walk. -/
import Derived.Test.YtiifibmahomdhaaTl
namespace Go.Proofs.Ytiifibmahomdhaa
set_option maxRecDepth 100000
open Go.RowKit

set_option maxHeartbeats 4000000 in
theorem isTautology_any {x : Cl} (hv : x.valid = true) {S : Nat → Prop} {c0 : Value} {w : World} (hr : Cl.at S w c0 x) (hbk : x.bulk ≤ 1048576) : Calls Try.prog 91 #[.agg #[c0]] w (Gives w (.bool x.taut)) := by
  obtain ⟨ts⟩ := x
  have HV := hid hv
  clear hv
  rw [Cl.bulk] at hbk
  unfold Cl.at at hr
  simp only at hr hbk
  obtain ⟨a, cap, rfl, hlen, hcap⟩ := Lit.sd_form hr
  unfold big at hlen
  go_enter Try.func91, Try.ntmps91
  go_wp2_with fail
  go_loopw [8] (fun i wr => ∃ (k : Nat), k ≤ ts.length ∧ i = .int .i64 k ∧ Hid (∀ i, i < k → Lit.tautAt ts i = false) ∧ Below (w.heap.size + 1) (w.alloc (.cells #[.slice a ts.length cap] 72)) wr) (fun i _ => ts.length - (intOf i).toNat)
  case atStart => exact ⟨0, Nat.zero_le _, rfl, fun i h => absurd h (by omega), Below.refl _ _⟩
  case round =>
    obtain ⟨k, hk, rfl, HX, hb⟩ := hrel
    have hbw : Below w.heap.size w wr := ((Below.refl _ _).alloc (Nat.le_refl _) _).trans (hb.mono (by omega))
    have hz := hb.size
    simp only [World.size_alloc] at hz
    have hz0 : w.heap.size < wr.heap.size := by omega
    have bT : Box wr w.heap.size [.slice a ts.length cap] := by
      have q := (Box.new w [Value.slice a ts.length cap] 72)
      exact ⟨by omega, fun i hi => (hb.cell (by simp)).trans (q.cell i hi)⟩
    have e10 := bT.c0
    by_cases hlt : k < ts.length
    · have hne : ts ≠ [] := by intro e; subst e; simp at hlt
      obtain ⟨b, off, rfl, hS, hbl, hrr⟩ := Lit.sd_get hr hne
      obtain ⟨c0, c1, c2, q0, q1, q2, qx⟩ := hrr k hlt
      obtain ⟨rfl, rfl, x, xc, rfl⟩ := Lit.at_form qx
      replace q0 := (hbw.cell (p := ⟨b, off + k * 3, none⟩) hbl).trans q0
      replace q1 := (hbw.cell (p := ⟨b, off + k * 3 + 1, none⟩) hbl).trans q1
      replace q2 := (hbw.cell (p := ⟨b, off + k * 3 + 2, none⟩) hbl).trans q2
      have q3 : wr.cell? ⟨b, off + k * 3 + 1 + 1, none⟩ = some (.slice x ts[k].atom.args.length xc) := q2
      have hE := Lit.at_keep (Keeps.all hbw) qx
      have HP : Hid (∀ j (hj : j < ts.length), ∃ y yc, wr.cell? ⟨b, off + j * 3 + 1, none⟩ = some (.string ts[j].atom.name) ∧ wr.cell? ⟨b, off + j * 3 + 1 + 1, none⟩ = some (.slice y ts[j].atom.args.length yc) ∧ Tm.at S wr (.string ts[j].atom.name) (.slice y ts[j].atom.args.length yc) ts[j].atom) := fun j hj => by
        obtain ⟨d0, d1, d2, p0, p1, p2, px⟩ := hrr j hj
        obtain ⟨rfl, rfl, y, yc, rfl⟩ := Lit.at_form px
        exact ⟨y, yc, (hbw.cell (p := ⟨b, off + j * 3 + 1, none⟩) hbl).trans p1, (hbw.cell (p := ⟨b, off + j * 3 + 2, none⟩) hbl).trans p2, Lit.at_atom (Lit.at_keep (Keeps.all hbw) px)⟩
      have HVA := hid (Cl.valid_at HV.out hlt)
      have hbm : ts[k].atom.bulk ≤ 1048576 := by have := Lit.bulk_mem (List.getElem_mem hlt); rw [Lit.bulk] at this; omega
      clear hrr hr qx
      go_wp2_with fail
      have hA0 : Below wr.heap.size wr (wr.alloc (.cells #[.bool ts[k].pos, .string ts[k].atom.name, .slice x ts[k].atom.args.length xc] 39)) := (Below.refl _ _).alloc (Nat.le_refl _) _
      have bE : Box (wr.alloc (.cells #[.bool ts[k].pos, .string ts[k].atom.name, .slice x ts[k].atom.args.length xc] 39)) wr.heap.size [.bool ts[k].pos, .string ts[k].atom.name, .slice x ts[k].atom.args.length xc] := Box.new _ _ _
      replace bT := bT.keep hA0
      replace hE := Lit.at_keep (Keeps.all hA0) hE
      have HP' : Hid (∀ j (hj : j < ts.length), ∃ y yc, (wr.alloc (.cells #[.bool ts[k].pos, .string ts[k].atom.name, .slice x ts[k].atom.args.length xc] 39)).cell? ⟨b, off + j * 3 + 1, none⟩ = some (.string ts[j].atom.name) ∧ (wr.alloc (.cells #[.bool ts[k].pos, .string ts[k].atom.name, .slice x ts[k].atom.args.length xc] 39)).cell? ⟨b, off + j * 3 + 1 + 1, none⟩ = some (.slice y ts[j].atom.args.length yc) ∧ Tm.at S (wr.alloc (.cells #[.bool ts[k].pos, .string ts[k].atom.name, .slice x ts[k].atom.args.length xc] 39)) (.string ts[j].atom.name) (.slice y ts[j].atom.args.length yc) ts[j].atom) := fun j hj => by
        obtain ⟨y, yc, p1, p2, px⟩ := HP.out j hj
        exact ⟨y, yc, cell_alloc p1 _, cell_alloc p2 _, Tm.at_keep (Keeps.all hA0) px⟩
      have lb : b < (wr.alloc (.cells #[.bool ts[k].pos, .string ts[k].atom.name, .slice x ts[k].atom.args.length xc] 39)).heap.size := Nat.lt_of_lt_of_le hbl (hbw.trans (hA0.mono hbw.size)).size
      replace q0 := cell_alloc q0 (.cells #[.bool ts[k].pos, .string ts[k].atom.name, .slice x ts[k].atom.args.length xc] 39)
      clear HP e10 q1 q2 q3
      generalize wr.alloc (.cells #[.bool ts[k].pos, .string ts[k].atom.name, .slice x ts[k].atom.args.length xc] 39) = w2 at *
      have hW := hbw.trans (hA0.mono hbw.size)
      by_cases hP : ts[k].pos = true
      · by_cases hQ : ts[k].atom.isEq = true
        · have h2 : ts[k].atom.args.length = 2 := Tm.isEq_two hQ HVA.out
          have i0 : 0 < ts[k].atom.args.length := by omega
          have i1 : 1 < ts[k].atom.args.length := by omega
          have j0 : (0 : Int) < ts[k].atom.args.length := by omega
          have j1 : (1 : Int) < ts[k].atom.args.length := by omega
          have hq61 := Tm.isEq_61 hQ
          have hnn : ts[k].atom.args ≠ [] := by intro e; rw [e] at h2; simp at h2
          obtain ⟨b2, off2, hx, hS2, hbl2, hrr2⟩ := Tm.sd_get (Lit.at_atom hE).2 hnn
          subst hx
          obtain ⟨u0, u1, g0, g1, hZ0⟩ := hrr2 0 i0
          obtain ⟨v0, v1, g2, g3, hZ1⟩ := hrr2 1 i1
          clear hrr2
          obtain ⟨rfl, -, z0, zc0, rfl⟩ := Tm.at_form hZ0
          obtain ⟨rfl, -, z1, zc1, rfl⟩ := Tm.at_form hZ1
          simp only [Nat.zero_mul, Nat.add_zero, Nat.one_mul] at g0 g1 g2 g3
          have H2 := hid h2
          clear h2
          by_cases hEq : Tm.eqb ts[k].atom.args[0] ts[k].atom.args[1] = true
          · have hSE : Lit.selfEq ts[k] = true := by rw [Lit.selfEq_two H2.out, hP, hQ, hEq]; rfl
            have HZ : Hid (Cl.taut ⟨ts⟩ = true) := Cl.taut_yes hlt (Lit.taut_self hlt hSE)
            clear hSE
            have eB0 := bT.c0
            have lB := bT.lt
            have eE0 := bE.c0
            have eE1 := bE.c1
            have eE2 := bE.c2
            have lE := bE.lt
            refine wp_region_B [fun v _ => v = .pointer (some ⟨wr.heap.size, 0, none⟩), fun v _ => v = .bool true, fun v _ => v = .bool true, fun v _ => v = .pointer (some ⟨wr.heap.size, 1, none⟩), fun v _ => v = .agg #[.string ts[k].atom.name, .slice (some ⟨b2, off2, none⟩) ts[k].atom.args.length xc], fun v _ => v = .bool true, fun v _ => v = .bool true, fun v _ => v = .bool true, fun v _ => v = .pointer (some ⟨wr.heap.size, 1, none⟩), fun v _ => v = .pointer (some ⟨wr.heap.size, 2, none⟩), fun v _ => v = .slice (some ⟨b2, off2, none⟩) ts[k].atom.args.length xc, fun v _ => v = .pointer (some ⟨b2, off2, none⟩), fun v _ => v = .agg #[.string ts[k].atom.args[0].name, .slice z0 ts[k].atom.args[0].args.length zc0], fun v _ => v = .pointer (some ⟨wr.heap.size, 1, none⟩), fun v _ => v = .pointer (some ⟨wr.heap.size, 2, none⟩), fun v _ => v = .slice (some ⟨b2, off2, none⟩) ts[k].atom.args.length xc, fun v _ => v = .pointer (some ⟨b2, off2 + 2, none⟩), fun v _ => v = .agg #[.string ts[k].atom.args[1].name, .slice z1 ts[k].atom.args[1].args.length zc1], fun v _ => v = .bool true, fun v _ => v = .bool true, fun v _ => v = .bool true, fun v _ => v = undef, fun v _ => v = undef, fun v _ => v = undef, fun v _ => v = undef, fun v _ => v = undef, fun v _ => v = undef, fun v _ => v = undef, fun v _ => v = undef, fun v _ => v = undef, fun v _ => v = undef, fun v _ => v = undef, fun v _ => v = undef, fun v _ => v = undef, fun v _ => v = undef, fun v _ => v = .bool true] _ (fun V => by simp [putAll, Act.put]; rfl) (by kernel_rfl) (by decide) (by simp) (by kernel_rfl) ?_ ?_ ?_
            · intro F hF
              simp only [List.mem_cons, List.not_mem_nil, or_false] at hF
              rcases hF with rfl | rfl | rfl | rfl | rfl | rfl | rfl | rfl | rfl | rfl | rfl | rfl | rfl | rfl | rfl | rfl | rfl | rfl | rfl | rfl | rfl | rfl | rfl | rfl | rfl | rfl | rfl | rfl | rfl | rfl | rfl | rfl | rfl | rfl | rfl | rfl
              · exact stable_eq
              · exact stable_eq
              · exact stable_eq
              · exact stable_eq
              · exact stable_eq
              · exact stable_eq
              · exact stable_eq
              · exact stable_eq
              · exact stable_eq
              · exact stable_eq
              · exact stable_eq
              · exact stable_eq
              · exact stable_eq
              · exact stable_eq
              · exact stable_eq
              · exact stable_eq
              · exact stable_eq
              · exact stable_eq
              · exact stable_eq
              · exact stable_eq
              · exact stable_eq
              · exact stable_eq
              · exact stable_eq
              · exact stable_eq
              · exact stable_eq
              · exact stable_eq
              · exact stable_eq
              · exact stable_eq
              · exact stable_eq
              · exact stable_eq
              · exact stable_eq
              · exact stable_eq
              · exact stable_eq
              · exact stable_eq
              · exact stable_eq
              · exact stable_eq
            · refine ⟨?_, ?_, ?_, ?_, ?_, ?_, ?_, ?_, ?_, ?_, ?_, ?_, ?_, ?_, ?_, ?_, ?_, ?_, ?_, ?_, ?_, ?_, ?_, ?_, ?_, ?_, ?_, ?_, ?_, ?_, ?_, ?_, ?_, ?_, ?_, ?_, trivial⟩
              · intro V w1 hbR _
                unfold Does
                go_simp
                exact ⟨Below.refl _ _, rfl⟩
              · intro V w1 hbR ⟨f0, _⟩
                replace f0 : V 0 = .pointer (some ⟨wr.heap.size, 0, none⟩) := f0
                obtain ⟨hc, hf⟩ := bcell hbR
                try simp only [World.size_alloc, World.size_setCell] at hc hf
                unfold Does
                go_simp
                exact ⟨Below.refl _ _, rfl⟩
              · intro V w1 hbR ⟨f1, _⟩
                replace f1 : V 1 = .bool true := f1
                unfold Does
                go_simp
                exact ⟨Below.refl _ _, rfl⟩
              · intro V w1 hbR ⟨f2, _⟩
                replace f2 : V 2 = .bool true := f2
                refine .inl ⟨_, f2, fun hg => ?_, fun hg => ?_⟩
                · unfold Does
                  go_simp
                  exact ⟨Below.refl _ _, rfl⟩
                · exact absurd rfl hg
              · intro V w1 hbR ⟨f3, f2, _⟩
                replace f2 : V 2 = .bool true := f2
                replace f3 : V 3 = .pointer (some ⟨wr.heap.size, 1, none⟩) := f3
                refine .inl ⟨_, f2, fun hg => ?_, fun hg => ?_⟩
                · obtain ⟨hc, hf⟩ := bcell hbR
                  try simp only [World.size_alloc, World.size_setCell] at hc hf
                  unfold Does
                  go_simp
                  exact ⟨Below.refl _ _, rfl⟩
                · exact absurd rfl hg
              · intro V w1 hbR ⟨f4, f2, _, _⟩
                replace f2 : V 2 = .bool true := f2
                replace f4 : V 4 = .agg #[.string ts[k].atom.name, .slice (some ⟨b2, off2, none⟩) ts[k].atom.args.length xc] := f4
                refine .inl ⟨_, f2, fun hg => ?_, fun hg => ?_⟩
                · obtain ⟨hc, hf⟩ := bcell hbR
                  try simp only [World.size_alloc, World.size_setCell] at hc hf
                  unfold Does
                  go_simp
                  have hq := isEquality_any ts[k].atom (Tm.at_keep (Keeps.all hbR) (Lit.at_atom hE)) hbm; rw [hQ] at hq; exact hq
                · exact absurd rfl hg
              · intro V w1 hbR ⟨f2, f5, _⟩
                replace f2 : V 2 = .bool true := f2
                replace f5 : V 5 = .bool true := f5
                unfold Does
                go_simp
                exact ⟨Below.refl _ _, rfl⟩
              · intro V w1 hbR ⟨f6, f5, _⟩
                replace f5 : V 5 = .bool true := f5
                replace f6 : V 6 = .bool true := f6
                unfold Does
                go_simp
                exact ⟨Below.refl _ _, rfl⟩
              · intro V w1 hbR ⟨f7, _⟩
                replace f7 : V 7 = .bool true := f7
                refine .inl ⟨_, f7, fun hg => ?_, fun hg => ?_⟩
                · unfold Does
                  go_simp
                  exact ⟨Below.refl _ _, rfl⟩
                · exact absurd rfl hg
              · intro V w1 hbR ⟨f8, f7, _⟩
                replace f7 : V 7 = .bool true := f7
                replace f8 : V 8 = .pointer (some ⟨wr.heap.size, 1, none⟩) := f8
                refine .inl ⟨_, f7, fun hg => ?_, fun hg => ?_⟩
                · unfold Does
                  go_simp
                  exact ⟨Below.refl _ _, rfl⟩
                · exact absurd rfl hg
              · intro V w1 hbR ⟨f9, f7, _⟩
                replace f7 : V 7 = .bool true := f7
                replace f9 : V 9 = .pointer (some ⟨wr.heap.size, 2, none⟩) := f9
                refine .inl ⟨_, f7, fun hg => ?_, fun hg => ?_⟩
                · obtain ⟨hc, hf⟩ := bcell hbR
                  try simp only [World.size_alloc, World.size_setCell] at hc hf
                  unfold Does
                  go_simp
                  exact ⟨Below.refl _ _, rfl⟩
                · exact absurd rfl hg
              · intro V w1 hbR ⟨f10, f7, _⟩
                replace f7 : V 7 = .bool true := f7
                replace f10 : V 10 = .slice (some ⟨b2, off2, none⟩) ts[k].atom.args.length xc := f10
                refine .inl ⟨_, f7, fun hg => ?_, fun hg => ?_⟩
                · unfold Does
                  go_simp
                  exact ⟨Below.refl _ _, rfl⟩
                · exact absurd rfl hg
              · intro V w1 hbR ⟨f11, f7, _⟩
                replace f7 : V 7 = .bool true := f7
                replace f11 : V 11 = .pointer (some ⟨b2, off2, none⟩) := f11
                refine .inl ⟨_, f7, fun hg => ?_, fun hg => ?_⟩
                · obtain ⟨hc, hf⟩ := bcell hbR
                  try simp only [World.size_alloc, World.size_setCell] at hc hf
                  unfold Does
                  go_simp
                  exact ⟨Below.refl _ _, rfl⟩
                · exact absurd rfl hg
              · intro V w1 hbR ⟨f7, _⟩
                replace f7 : V 7 = .bool true := f7
                refine .inl ⟨_, f7, fun hg => ?_, fun hg => ?_⟩
                · unfold Does
                  go_simp
                  exact ⟨Below.refl _ _, rfl⟩
                · exact absurd rfl hg
              · intro V w1 hbR ⟨f13, f7, _⟩
                replace f7 : V 7 = .bool true := f7
                replace f13 : V 13 = .pointer (some ⟨wr.heap.size, 1, none⟩) := f13
                refine .inl ⟨_, f7, fun hg => ?_, fun hg => ?_⟩
                · unfold Does
                  go_simp
                  exact ⟨Below.refl _ _, rfl⟩
                · exact absurd rfl hg
              · intro V w1 hbR ⟨f14, f7, _⟩
                replace f7 : V 7 = .bool true := f7
                replace f14 : V 14 = .pointer (some ⟨wr.heap.size, 2, none⟩) := f14
                refine .inl ⟨_, f7, fun hg => ?_, fun hg => ?_⟩
                · obtain ⟨hc, hf⟩ := bcell hbR
                  try simp only [World.size_alloc, World.size_setCell] at hc hf
                  unfold Does
                  go_simp
                  exact ⟨Below.refl _ _, rfl⟩
                · exact absurd rfl hg
              · intro V w1 hbR ⟨f15, f7, _⟩
                replace f7 : V 7 = .bool true := f7
                replace f15 : V 15 = .slice (some ⟨b2, off2, none⟩) ts[k].atom.args.length xc := f15
                refine .inl ⟨_, f7, fun hg => ?_, fun hg => ?_⟩
                · unfold Does
                  go_simp
                  exact ⟨Below.refl _ _, rfl⟩
                · exact absurd rfl hg
              · intro V w1 hbR ⟨f16, f7, _⟩
                replace f7 : V 7 = .bool true := f7
                replace f16 : V 16 = .pointer (some ⟨b2, off2 + 2, none⟩) := f16
                refine .inl ⟨_, f7, fun hg => ?_, fun hg => ?_⟩
                · obtain ⟨hc, hf⟩ := bcell hbR
                  try simp only [World.size_alloc, World.size_setCell] at hc hf
                  unfold Does
                  go_simp
                  exact ⟨Below.refl _ _, rfl⟩
                · exact absurd rfl hg
              · intro V w1 hbR ⟨f12, f17, f7, _, _⟩
                replace f7 : V 7 = .bool true := f7
                replace f12 : V 12 = .agg #[.string ts[k].atom.args[0].name, .slice z0 ts[k].atom.args[0].args.length zc0] := f12
                replace f17 : V 17 = .agg #[.string ts[k].atom.args[1].name, .slice z1 ts[k].atom.args[1].args.length zc1] := f17
                refine .inl ⟨_, f7, fun hg => ?_, fun hg => ?_⟩
                · obtain ⟨hc, hf⟩ := bcell hbR
                  try simp only [World.size_alloc, World.size_setCell] at hc hf
                  unfold Does
                  go_simp
                  refine (equalTerms_any _ _ S _ _ _ _ _ (Tm.at_keep (Keeps.all hbR) hZ0) (Tm.at_keep (Keeps.all hbR) hZ1)).mono ?_; rintro e w5 ⟨rfl, hb5⟩; exact ⟨_, rfl, hb5, by rw [hEq]⟩
                · exact absurd rfl hg
              · intro V w1 hbR ⟨f7, f18, _⟩
                replace f7 : V 7 = .bool true := f7
                replace f18 : V 18 = .bool true := f18
                unfold Does
                go_simp
                exact ⟨Below.refl _ _, rfl⟩
              · intro V w1 hbR ⟨f19, f18, _⟩
                replace f18 : V 18 = .bool true := f18
                replace f19 : V 19 = .bool true := f19
                unfold Does
                go_simp
                exact ⟨Below.refl _ _, rfl⟩
              · intro V w1 hbR ⟨f20, _⟩
                replace f20 : V 20 = .bool true := f20
                refine .inl ⟨_, f20, fun hg => ?_, fun hg => ?_⟩
                · exact absurd hg (by decide)
                · rfl
              · intro V w1 hbR ⟨f21, f20, _⟩
                replace f20 : V 20 = .bool true := f20
                replace f21 : V 21 = undef := f21
                refine .inl ⟨_, f20, fun hg => ?_, fun hg => ?_⟩
                · exact absurd hg (by decide)
                · rfl
              · intro V w1 hbR ⟨f22, f20, _, _⟩
                replace f20 : V 20 = .bool true := f20
                replace f22 : V 22 = undef := f22
                refine .inl ⟨_, f20, fun hg => ?_, fun hg => ?_⟩
                · exact absurd hg (by decide)
                · rfl
              · intro V w1 hbR ⟨f23, _⟩
                replace f23 : V 23 = undef := f23
                exact .inr ⟨f23, rfl⟩
              · intro V w1 hbR ⟨f24, f23, _⟩
                replace f23 : V 23 = undef := f23
                replace f24 : V 24 = undef := f24
                exact .inr ⟨f23, rfl⟩
              · intro V w1 hbR ⟨f23, _⟩
                replace f23 : V 23 = undef := f23
                exact .inr ⟨f23, rfl⟩
              · intro V w1 hbR ⟨f26, f23, _⟩
                replace f23 : V 23 = undef := f23
                replace f26 : V 26 = undef := f26
                exact .inr ⟨f23, rfl⟩
              · intro V w1 hbR ⟨f25, f27, f23, _⟩
                replace f23 : V 23 = undef := f23
                replace f25 : V 25 = undef := f25
                replace f27 : V 27 = undef := f27
                exact .inr ⟨f23, rfl⟩
              · intro V w1 hbR ⟨f28, f23, _⟩
                replace f23 : V 23 = undef := f23
                replace f28 : V 28 = undef := f28
                exact .inr ⟨f23, rfl⟩
              · intro V w1 hbR ⟨f29, f23, _⟩
                replace f23 : V 23 = undef := f23
                replace f29 : V 29 = undef := f29
                exact .inr ⟨f23, rfl⟩
              · intro V w1 hbR ⟨f23, _⟩
                replace f23 : V 23 = undef := f23
                exact .inr ⟨f23, rfl⟩
              · intro V w1 hbR ⟨f31, f23, _⟩
                replace f23 : V 23 = undef := f23
                replace f31 : V 31 = undef := f31
                exact .inr ⟨f23, rfl⟩
              · intro V w1 hbR ⟨f30, f32, f23, _, _⟩
                replace f23 : V 23 = undef := f23
                replace f30 : V 30 = undef := f30
                replace f32 : V 32 = undef := f32
                exact .inr ⟨f23, rfl⟩
              · intro V w1 hbR ⟨f23, f33, f20, _⟩
                replace f20 : V 20 = .bool true := f20
                replace f23 : V 23 = undef := f23
                replace f33 : V 33 = undef := f33
                refine .inl ⟨_, f20, fun hg => ?_, fun hg => ?_⟩
                · exact absurd hg (by decide)
                · rfl
              · intro V w1 hbR ⟨f20, f34, _⟩
                replace f20 : V 20 = .bool true := f20
                replace f34 : V 34 = undef := f34
                unfold Does
                go_simp
                exact ⟨Below.refl _ _, rfl⟩
            intro V w3 hbR hfR
            obtain ⟨f0, f1, f2, f3, f4, f5, f6, f7, f8, f9, f10, f11, f12, f13, f14, f15, f16, f17, f18, f19, f20, f21, f22, f23, f24, f25, f26, f27, f28, f29, f30, f31, f32, f33, f34, f35, _⟩ := hfR
            replace f0 : V 0 = .pointer (some ⟨wr.heap.size, 0, none⟩) := f0
            replace f1 : V 1 = .bool true := f1
            replace f2 : V 2 = .bool true := f2
            replace f3 : V 3 = .pointer (some ⟨wr.heap.size, 1, none⟩) := f3
            replace f4 : V 4 = .agg #[.string ts[k].atom.name, .slice (some ⟨b2, off2, none⟩) ts[k].atom.args.length xc] := f4
            replace f5 : V 5 = .bool true := f5
            replace f6 : V 6 = .bool true := f6
            replace f7 : V 7 = .bool true := f7
            replace f8 : V 8 = .pointer (some ⟨wr.heap.size, 1, none⟩) := f8
            replace f9 : V 9 = .pointer (some ⟨wr.heap.size, 2, none⟩) := f9
            replace f10 : V 10 = .slice (some ⟨b2, off2, none⟩) ts[k].atom.args.length xc := f10
            replace f11 : V 11 = .pointer (some ⟨b2, off2, none⟩) := f11
            replace f12 : V 12 = .agg #[.string ts[k].atom.args[0].name, .slice z0 ts[k].atom.args[0].args.length zc0] := f12
            replace f13 : V 13 = .pointer (some ⟨wr.heap.size, 1, none⟩) := f13
            replace f14 : V 14 = .pointer (some ⟨wr.heap.size, 2, none⟩) := f14
            replace f15 : V 15 = .slice (some ⟨b2, off2, none⟩) ts[k].atom.args.length xc := f15
            replace f16 : V 16 = .pointer (some ⟨b2, off2 + 2, none⟩) := f16
            replace f17 : V 17 = .agg #[.string ts[k].atom.args[1].name, .slice z1 ts[k].atom.args[1].args.length zc1] := f17
            replace f18 : V 18 = .bool true := f18
            replace f19 : V 19 = .bool true := f19
            replace f20 : V 20 = .bool true := f20
            replace f21 : V 21 = undef := f21
            replace f22 : V 22 = undef := f22
            replace f23 : V 23 = undef := f23
            replace f24 : V 24 = undef := f24
            replace f25 : V 25 = undef := f25
            replace f26 : V 26 = undef := f26
            replace f27 : V 27 = undef := f27
            replace f28 : V 28 = undef := f28
            replace f29 : V 29 = undef := f29
            replace f30 : V 30 = undef := f30
            replace f31 : V 31 = undef := f31
            replace f32 : V 32 = undef := f32
            replace f33 : V 33 = undef := f33
            replace f34 : V 34 = undef := f34
            replace f35 : V 35 = .bool true := f35
            simp only [f0, f1, f2, f3, f4, f5, f6, f7, f8, f9, f10, f11, f12, f13, f14, f15, f16, f17, f18, f19, f20, f21, f22, f23, f24, f25, f26, f27, f28, f29, f30, f31, f32, f33, f34, f35]
            clear f0 f1 f2 f3 f4 f5 f6 f7 f8 f9 f10 f11 f12 f13 f14 f15 f16 f17 f18 f19 f20 f21 f22 f23 f24 f25 f26 f27 f28 f29 f30 f31 f32 f33 f34 f35
            clear eB0 lB eE0 eE1 eE2 lE
            go_wp2_with fail
            go_ret
            exact Gives.mk (by rw [HZ.out]; rfl) (hW.trans (hbR.mono hW.size))
          · replace hEq : Tm.eqb ts[k].atom.args[0] ts[k].atom.args[1] = false := by simpa using hEq
            have hSE : Lit.selfEq ts[k] = false := by rw [Lit.selfEq_two H2.out, hEq]; simp
            by_cases hk1 : 0 < k
            · have hk0 : (0 : Int) < k := by omega
              obtain ⟨j, HJ⟩ : ∃ j, Hid (k = j + 1) := ⟨k - 1, by show k = k - 1 + 1; omega⟩
              have hj : j < ts.length := by have := HJ.out; omega
              have hjc : (j : Int) < ts.length := by omega
              have lb0 := lb
              obtain ⟨y, yc, p1, p2, hJ⟩ := HP'.out j hj
              by_cases hVq : Tm.eqb ts[j].atom ts[k].atom = true
              · skip
                have HZ : Hid (Cl.taut ⟨ts⟩ = true) := Cl.taut_yes hlt (Lit.taut_prev HJ.out hlt hVq)
                clear hSE
                have eB0 := bT.c0
                have lB := bT.lt
                have eE0 := bE.c0
                have eE1 := bE.c1
                have eE2 := bE.c2
                have lE := bE.lt
                refine wp_region_B [fun v _ => v = .pointer (some ⟨wr.heap.size, 0, none⟩), fun v _ => v = .bool true, fun v _ => v = .bool true, fun v _ => v = .pointer (some ⟨wr.heap.size, 1, none⟩), fun v _ => v = .agg #[.string ts[k].atom.name, .slice (some ⟨b2, off2, none⟩) ts[k].atom.args.length xc], fun v _ => v = .bool true, fun v _ => v = .bool true, fun v _ => v = .bool true, fun v _ => v = .pointer (some ⟨wr.heap.size, 1, none⟩), fun v _ => v = .pointer (some ⟨wr.heap.size, 2, none⟩), fun v _ => v = .slice (some ⟨b2, off2, none⟩) ts[k].atom.args.length xc, fun v _ => v = .pointer (some ⟨b2, off2, none⟩), fun v _ => v = .agg #[.string ts[k].atom.args[0].name, .slice z0 ts[k].atom.args[0].args.length zc0], fun v _ => v = .pointer (some ⟨wr.heap.size, 1, none⟩), fun v _ => v = .pointer (some ⟨wr.heap.size, 2, none⟩), fun v _ => v = .slice (some ⟨b2, off2, none⟩) ts[k].atom.args.length xc, fun v _ => v = .pointer (some ⟨b2, off2 + 2, none⟩), fun v _ => v = .agg #[.string ts[k].atom.args[1].name, .slice z1 ts[k].atom.args[1].args.length zc1], fun v _ => v = .bool false, fun v _ => v = .bool false, fun v _ => v = .bool false, fun v _ => v = .int .i64 k, fun v _ => v = .bool true, fun v _ => v = .bool true, fun v _ => v = .pointer (some ⟨w.heap.size, 0, none⟩), fun v _ => v = .slice (some ⟨b, off, none⟩) ts.length cap, fun v _ => v = .int .i64 k, fun v _ => v = .int .i64 j, fun v _ => v = .pointer (some ⟨b, off + j * 3, none⟩), fun v _ => v = .pointer (some ⟨b, off + j * 3 + 1, none⟩), fun v _ => v = .agg #[.string ts[j].atom.name, .slice y ts[j].atom.args.length yc], fun v _ => v = .pointer (some ⟨wr.heap.size, 1, none⟩), fun v _ => v = .agg #[.string ts[k].atom.name, .slice (some ⟨b2, off2, none⟩) ts[k].atom.args.length xc], fun v _ => v = .bool true, fun v _ => v = .bool true, fun v _ => v = .bool true] _ (fun V => by simp [putAll, Act.put]; rfl) (by kernel_rfl) (by decide) (by simp) (by kernel_rfl) ?_ ?_ ?_
                · intro F hF
                  simp only [List.mem_cons, List.not_mem_nil, or_false] at hF
                  rcases hF with rfl | rfl | rfl | rfl | rfl | rfl | rfl | rfl | rfl | rfl | rfl | rfl | rfl | rfl | rfl | rfl | rfl | rfl | rfl | rfl | rfl | rfl | rfl | rfl | rfl | rfl | rfl | rfl | rfl | rfl | rfl | rfl | rfl | rfl | rfl | rfl
                  · exact stable_eq
                  · exact stable_eq
                  · exact stable_eq
                  · exact stable_eq
                  · exact stable_eq
                  · exact stable_eq
                  · exact stable_eq
                  · exact stable_eq
                  · exact stable_eq
                  · exact stable_eq
                  · exact stable_eq
                  · exact stable_eq
                  · exact stable_eq
                  · exact stable_eq
                  · exact stable_eq
                  · exact stable_eq
                  · exact stable_eq
                  · exact stable_eq
                  · exact stable_eq
                  · exact stable_eq
                  · exact stable_eq
                  · exact stable_eq
                  · exact stable_eq
                  · exact stable_eq
                  · exact stable_eq
                  · exact stable_eq
                  · exact stable_eq
                  · exact stable_eq
                  · exact stable_eq
                  · exact stable_eq
                  · exact stable_eq
                  · exact stable_eq
                  · exact stable_eq
                  · exact stable_eq
                  · exact stable_eq
                  · exact stable_eq
                · refine ⟨?_, ?_, ?_, ?_, ?_, ?_, ?_, ?_, ?_, ?_, ?_, ?_, ?_, ?_, ?_, ?_, ?_, ?_, ?_, ?_, ?_, ?_, ?_, ?_, ?_, ?_, ?_, ?_, ?_, ?_, ?_, ?_, ?_, ?_, ?_, ?_, trivial⟩
                  · intro V w1 hbR _
                    unfold Does
                    go_simp
                    exact ⟨Below.refl _ _, rfl⟩
                  · intro V w1 hbR ⟨f0, _⟩
                    replace f0 : V 0 = .pointer (some ⟨wr.heap.size, 0, none⟩) := f0
                    obtain ⟨hc, hf⟩ := bcell hbR
                    try simp only [World.size_alloc, World.size_setCell] at hc hf
                    unfold Does
                    go_simp
                    exact ⟨Below.refl _ _, rfl⟩
                  · intro V w1 hbR ⟨f1, _⟩
                    replace f1 : V 1 = .bool true := f1
                    unfold Does
                    go_simp
                    exact ⟨Below.refl _ _, rfl⟩
                  · intro V w1 hbR ⟨f2, _⟩
                    replace f2 : V 2 = .bool true := f2
                    refine .inl ⟨_, f2, fun hg => ?_, fun hg => ?_⟩
                    · unfold Does
                      go_simp
                      exact ⟨Below.refl _ _, rfl⟩
                    · exact absurd rfl hg
                  · intro V w1 hbR ⟨f3, f2, _⟩
                    replace f2 : V 2 = .bool true := f2
                    replace f3 : V 3 = .pointer (some ⟨wr.heap.size, 1, none⟩) := f3
                    refine .inl ⟨_, f2, fun hg => ?_, fun hg => ?_⟩
                    · obtain ⟨hc, hf⟩ := bcell hbR
                      try simp only [World.size_alloc, World.size_setCell] at hc hf
                      unfold Does
                      go_simp
                      exact ⟨Below.refl _ _, rfl⟩
                    · exact absurd rfl hg
                  · intro V w1 hbR ⟨f4, f2, _, _⟩
                    replace f2 : V 2 = .bool true := f2
                    replace f4 : V 4 = .agg #[.string ts[k].atom.name, .slice (some ⟨b2, off2, none⟩) ts[k].atom.args.length xc] := f4
                    refine .inl ⟨_, f2, fun hg => ?_, fun hg => ?_⟩
                    · obtain ⟨hc, hf⟩ := bcell hbR
                      try simp only [World.size_alloc, World.size_setCell] at hc hf
                      unfold Does
                      go_simp
                      have hq := isEquality_any ts[k].atom (Tm.at_keep (Keeps.all hbR) (Lit.at_atom hE)) hbm; rw [hQ] at hq; exact hq
                    · exact absurd rfl hg
                  · intro V w1 hbR ⟨f2, f5, _⟩
                    replace f2 : V 2 = .bool true := f2
                    replace f5 : V 5 = .bool true := f5
                    unfold Does
                    go_simp
                    exact ⟨Below.refl _ _, rfl⟩
                  · intro V w1 hbR ⟨f6, f5, _⟩
                    replace f5 : V 5 = .bool true := f5
                    replace f6 : V 6 = .bool true := f6
                    unfold Does
                    go_simp
                    exact ⟨Below.refl _ _, rfl⟩
                  · intro V w1 hbR ⟨f7, _⟩
                    replace f7 : V 7 = .bool true := f7
                    refine .inl ⟨_, f7, fun hg => ?_, fun hg => ?_⟩
                    · unfold Does
                      go_simp
                      exact ⟨Below.refl _ _, rfl⟩
                    · exact absurd rfl hg
                  · intro V w1 hbR ⟨f8, f7, _⟩
                    replace f7 : V 7 = .bool true := f7
                    replace f8 : V 8 = .pointer (some ⟨wr.heap.size, 1, none⟩) := f8
                    refine .inl ⟨_, f7, fun hg => ?_, fun hg => ?_⟩
                    · unfold Does
                      go_simp
                      exact ⟨Below.refl _ _, rfl⟩
                    · exact absurd rfl hg
                  · intro V w1 hbR ⟨f9, f7, _⟩
                    replace f7 : V 7 = .bool true := f7
                    replace f9 : V 9 = .pointer (some ⟨wr.heap.size, 2, none⟩) := f9
                    refine .inl ⟨_, f7, fun hg => ?_, fun hg => ?_⟩
                    · obtain ⟨hc, hf⟩ := bcell hbR
                      try simp only [World.size_alloc, World.size_setCell] at hc hf
                      unfold Does
                      go_simp
                      exact ⟨Below.refl _ _, rfl⟩
                    · exact absurd rfl hg
                  · intro V w1 hbR ⟨f10, f7, _⟩
                    replace f7 : V 7 = .bool true := f7
                    replace f10 : V 10 = .slice (some ⟨b2, off2, none⟩) ts[k].atom.args.length xc := f10
                    refine .inl ⟨_, f7, fun hg => ?_, fun hg => ?_⟩
                    · unfold Does
                      go_simp
                      exact ⟨Below.refl _ _, rfl⟩
                    · exact absurd rfl hg
                  · intro V w1 hbR ⟨f11, f7, _⟩
                    replace f7 : V 7 = .bool true := f7
                    replace f11 : V 11 = .pointer (some ⟨b2, off2, none⟩) := f11
                    refine .inl ⟨_, f7, fun hg => ?_, fun hg => ?_⟩
                    · obtain ⟨hc, hf⟩ := bcell hbR
                      try simp only [World.size_alloc, World.size_setCell] at hc hf
                      unfold Does
                      go_simp
                      exact ⟨Below.refl _ _, rfl⟩
                    · exact absurd rfl hg
                  · intro V w1 hbR ⟨f7, _⟩
                    replace f7 : V 7 = .bool true := f7
                    refine .inl ⟨_, f7, fun hg => ?_, fun hg => ?_⟩
                    · unfold Does
                      go_simp
                      exact ⟨Below.refl _ _, rfl⟩
                    · exact absurd rfl hg
                  · intro V w1 hbR ⟨f13, f7, _⟩
                    replace f7 : V 7 = .bool true := f7
                    replace f13 : V 13 = .pointer (some ⟨wr.heap.size, 1, none⟩) := f13
                    refine .inl ⟨_, f7, fun hg => ?_, fun hg => ?_⟩
                    · unfold Does
                      go_simp
                      exact ⟨Below.refl _ _, rfl⟩
                    · exact absurd rfl hg
                  · intro V w1 hbR ⟨f14, f7, _⟩
                    replace f7 : V 7 = .bool true := f7
                    replace f14 : V 14 = .pointer (some ⟨wr.heap.size, 2, none⟩) := f14
                    refine .inl ⟨_, f7, fun hg => ?_, fun hg => ?_⟩
                    · obtain ⟨hc, hf⟩ := bcell hbR
                      try simp only [World.size_alloc, World.size_setCell] at hc hf
                      unfold Does
                      go_simp
                      exact ⟨Below.refl _ _, rfl⟩
                    · exact absurd rfl hg
                  · intro V w1 hbR ⟨f15, f7, _⟩
                    replace f7 : V 7 = .bool true := f7
                    replace f15 : V 15 = .slice (some ⟨b2, off2, none⟩) ts[k].atom.args.length xc := f15
                    refine .inl ⟨_, f7, fun hg => ?_, fun hg => ?_⟩
                    · unfold Does
                      go_simp
                      exact ⟨Below.refl _ _, rfl⟩
                    · exact absurd rfl hg
                  · intro V w1 hbR ⟨f16, f7, _⟩
                    replace f7 : V 7 = .bool true := f7
                    replace f16 : V 16 = .pointer (some ⟨b2, off2 + 2, none⟩) := f16
                    refine .inl ⟨_, f7, fun hg => ?_, fun hg => ?_⟩
                    · obtain ⟨hc, hf⟩ := bcell hbR
                      try simp only [World.size_alloc, World.size_setCell] at hc hf
                      unfold Does
                      go_simp
                      exact ⟨Below.refl _ _, rfl⟩
                    · exact absurd rfl hg
                  · intro V w1 hbR ⟨f12, f17, f7, _, _⟩
                    replace f7 : V 7 = .bool true := f7
                    replace f12 : V 12 = .agg #[.string ts[k].atom.args[0].name, .slice z0 ts[k].atom.args[0].args.length zc0] := f12
                    replace f17 : V 17 = .agg #[.string ts[k].atom.args[1].name, .slice z1 ts[k].atom.args[1].args.length zc1] := f17
                    refine .inl ⟨_, f7, fun hg => ?_, fun hg => ?_⟩
                    · obtain ⟨hc, hf⟩ := bcell hbR
                      try simp only [World.size_alloc, World.size_setCell] at hc hf
                      unfold Does
                      go_simp
                      refine (equalTerms_any _ _ S _ _ _ _ _ (Tm.at_keep (Keeps.all hbR) hZ0) (Tm.at_keep (Keeps.all hbR) hZ1)).mono ?_; rintro e w5 ⟨rfl, hb5⟩; exact ⟨_, rfl, hb5, by rw [hEq]⟩
                    · exact absurd rfl hg
                  · intro V w1 hbR ⟨f7, f18, _⟩
                    replace f7 : V 7 = .bool true := f7
                    replace f18 : V 18 = .bool false := f18
                    unfold Does
                    go_simp
                    exact ⟨Below.refl _ _, rfl⟩
                  · intro V w1 hbR ⟨f19, f18, _⟩
                    replace f18 : V 18 = .bool false := f18
                    replace f19 : V 19 = .bool false := f19
                    unfold Does
                    go_simp
                    exact ⟨Below.refl _ _, rfl⟩
                  · intro V w1 hbR ⟨f20, _⟩
                    replace f20 : V 20 = .bool false := f20
                    refine .inl ⟨_, f20, fun hg => ?_, fun hg => ?_⟩
                    · unfold Does
                      go_simp
                      exact ⟨Below.refl _ _, rfl⟩
                    · exact absurd rfl hg
                  · intro V w1 hbR ⟨f21, f20, _⟩
                    replace f20 : V 20 = .bool false := f20
                    replace f21 : V 21 = .int .i64 k := f21
                    refine .inl ⟨_, f20, fun hg => ?_, fun hg => ?_⟩
                    · unfold Does
                      go_simp
                      exact ⟨Below.refl _ _, rfl⟩
                    · exact absurd rfl hg
                  · intro V w1 hbR ⟨f22, f20, _, _⟩
                    replace f20 : V 20 = .bool false := f20
                    replace f22 : V 22 = .bool true := f22
                    refine .inl ⟨_, f20, fun hg => ?_, fun hg => ?_⟩
                    · unfold Does
                      go_simp
                      exact ⟨Below.refl _ _, rfl⟩
                    · exact absurd rfl hg
                  · intro V w1 hbR ⟨f23, _⟩
                    replace f23 : V 23 = .bool true := f23
                    refine .inl ⟨_, f23, fun hg => ?_, fun hg => ?_⟩
                    · unfold Does
                      go_simp
                      exact ⟨Below.refl _ _, rfl⟩
                    · exact absurd rfl hg
                  · intro V w1 hbR ⟨f24, f23, _⟩
                    replace f23 : V 23 = .bool true := f23
                    replace f24 : V 24 = .pointer (some ⟨w.heap.size, 0, none⟩) := f24
                    refine .inl ⟨_, f23, fun hg => ?_, fun hg => ?_⟩
                    · obtain ⟨hc, hf⟩ := bcell hbR
                      try simp only [World.size_alloc, World.size_setCell] at hc hf
                      unfold Does
                      go_simp
                      exact ⟨Below.refl _ _, rfl⟩
                    · exact absurd rfl hg
                  · intro V w1 hbR ⟨f23, _⟩
                    replace f23 : V 23 = .bool true := f23
                    refine .inl ⟨_, f23, fun hg => ?_, fun hg => ?_⟩
                    · unfold Does
                      go_simp
                      exact ⟨Below.refl _ _, rfl⟩
                    · exact absurd rfl hg
                  · intro V w1 hbR ⟨f26, f23, _⟩
                    replace f23 : V 23 = .bool true := f23
                    replace f26 : V 26 = .int .i64 k := f26
                    refine .inl ⟨_, f23, fun hg => ?_, fun hg => ?_⟩
                    · unfold Does
                      go_simp
                      exact ⟨Below.refl _ _, by congr 1; rw [IntKind.wrap_i64]; have := HJ.out; omega⟩
                    · exact absurd rfl hg
                  · intro V w1 hbR ⟨f25, f27, f23, _⟩
                    replace f23 : V 23 = .bool true := f23
                    replace f25 : V 25 = .slice (some ⟨b, off, none⟩) ts.length cap := f25
                    replace f27 : V 27 = .int .i64 j := f27
                    refine .inl ⟨_, f23, fun hg => ?_, fun hg => ?_⟩
                    · unfold Does
                      go_simp
                      exact ⟨Below.refl _ _, rfl⟩
                    · exact absurd rfl hg
                  · intro V w1 hbR ⟨f28, f23, _⟩
                    replace f23 : V 23 = .bool true := f23
                    replace f28 : V 28 = .pointer (some ⟨b, off + j * 3, none⟩) := f28
                    refine .inl ⟨_, f23, fun hg => ?_, fun hg => ?_⟩
                    · unfold Does
                      go_simp
                      exact ⟨Below.refl _ _, rfl⟩
                    · exact absurd rfl hg
                  · intro V w1 hbR ⟨f29, f23, _⟩
                    replace f23 : V 23 = .bool true := f23
                    replace f29 : V 29 = .pointer (some ⟨b, off + j * 3 + 1, none⟩) := f29
                    refine .inl ⟨_, f23, fun hg => ?_, fun hg => ?_⟩
                    · obtain ⟨hc, hf⟩ := bcell hbR
                      try simp only [World.size_alloc, World.size_setCell] at hc hf
                      unfold Does
                      go_simp
                      exact ⟨Below.refl _ _, rfl⟩
                    · exact absurd rfl hg
                  · intro V w1 hbR ⟨f23, _⟩
                    replace f23 : V 23 = .bool true := f23
                    refine .inl ⟨_, f23, fun hg => ?_, fun hg => ?_⟩
                    · unfold Does
                      go_simp
                      exact ⟨Below.refl _ _, rfl⟩
                    · exact absurd rfl hg
                  · intro V w1 hbR ⟨f31, f23, _⟩
                    replace f23 : V 23 = .bool true := f23
                    replace f31 : V 31 = .pointer (some ⟨wr.heap.size, 1, none⟩) := f31
                    refine .inl ⟨_, f23, fun hg => ?_, fun hg => ?_⟩
                    · obtain ⟨hc, hf⟩ := bcell hbR
                      try simp only [World.size_alloc, World.size_setCell] at hc hf
                      unfold Does
                      go_simp
                      exact ⟨Below.refl _ _, rfl⟩
                    · exact absurd rfl hg
                  · intro V w1 hbR ⟨f30, f32, f23, _, _⟩
                    replace f23 : V 23 = .bool true := f23
                    replace f30 : V 30 = .agg #[.string ts[j].atom.name, .slice y ts[j].atom.args.length yc] := f30
                    replace f32 : V 32 = .agg #[.string ts[k].atom.name, .slice (some ⟨b2, off2, none⟩) ts[k].atom.args.length xc] := f32
                    refine .inl ⟨_, f23, fun hg => ?_, fun hg => ?_⟩
                    · obtain ⟨hc, hf⟩ := bcell hbR
                      try simp only [World.size_alloc, World.size_setCell] at hc hf
                      unfold Does
                      go_simp
                      refine (equalTerms_any _ _ S _ _ _ _ _ (Tm.at_keep (Keeps.all hbR) hJ) (Tm.at_keep (Keeps.all hbR) (Lit.at_atom hE))).mono ?_; rintro e w5 ⟨rfl, hb5⟩; exact ⟨_, rfl, hb5, by rw [hVq]⟩
                    · exact absurd rfl hg
                  · intro V w1 hbR ⟨f23, f33, f20, _⟩
                    replace f20 : V 20 = .bool false := f20
                    replace f23 : V 23 = .bool true := f23
                    replace f33 : V 33 = .bool true := f33
                    refine .inl ⟨_, f20, fun hg => ?_, fun hg => ?_⟩
                    · unfold Does
                      go_simp
                      exact ⟨Below.refl _ _, rfl⟩
                    · exact absurd rfl hg
                  · intro V w1 hbR ⟨f20, f34, _⟩
                    replace f20 : V 20 = .bool false := f20
                    replace f34 : V 34 = .bool true := f34
                    unfold Does
                    go_simp
                    exact ⟨Below.refl _ _, rfl⟩
                intro V w3 hbR hfR
                obtain ⟨f0, f1, f2, f3, f4, f5, f6, f7, f8, f9, f10, f11, f12, f13, f14, f15, f16, f17, f18, f19, f20, f21, f22, f23, f24, f25, f26, f27, f28, f29, f30, f31, f32, f33, f34, f35, _⟩ := hfR
                replace f0 : V 0 = .pointer (some ⟨wr.heap.size, 0, none⟩) := f0
                replace f1 : V 1 = .bool true := f1
                replace f2 : V 2 = .bool true := f2
                replace f3 : V 3 = .pointer (some ⟨wr.heap.size, 1, none⟩) := f3
                replace f4 : V 4 = .agg #[.string ts[k].atom.name, .slice (some ⟨b2, off2, none⟩) ts[k].atom.args.length xc] := f4
                replace f5 : V 5 = .bool true := f5
                replace f6 : V 6 = .bool true := f6
                replace f7 : V 7 = .bool true := f7
                replace f8 : V 8 = .pointer (some ⟨wr.heap.size, 1, none⟩) := f8
                replace f9 : V 9 = .pointer (some ⟨wr.heap.size, 2, none⟩) := f9
                replace f10 : V 10 = .slice (some ⟨b2, off2, none⟩) ts[k].atom.args.length xc := f10
                replace f11 : V 11 = .pointer (some ⟨b2, off2, none⟩) := f11
                replace f12 : V 12 = .agg #[.string ts[k].atom.args[0].name, .slice z0 ts[k].atom.args[0].args.length zc0] := f12
                replace f13 : V 13 = .pointer (some ⟨wr.heap.size, 1, none⟩) := f13
                replace f14 : V 14 = .pointer (some ⟨wr.heap.size, 2, none⟩) := f14
                replace f15 : V 15 = .slice (some ⟨b2, off2, none⟩) ts[k].atom.args.length xc := f15
                replace f16 : V 16 = .pointer (some ⟨b2, off2 + 2, none⟩) := f16
                replace f17 : V 17 = .agg #[.string ts[k].atom.args[1].name, .slice z1 ts[k].atom.args[1].args.length zc1] := f17
                replace f18 : V 18 = .bool false := f18
                replace f19 : V 19 = .bool false := f19
                replace f20 : V 20 = .bool false := f20
                replace f21 : V 21 = .int .i64 k := f21
                replace f22 : V 22 = .bool true := f22
                replace f23 : V 23 = .bool true := f23
                replace f24 : V 24 = .pointer (some ⟨w.heap.size, 0, none⟩) := f24
                replace f25 : V 25 = .slice (some ⟨b, off, none⟩) ts.length cap := f25
                replace f26 : V 26 = .int .i64 k := f26
                replace f27 : V 27 = .int .i64 j := f27
                replace f28 : V 28 = .pointer (some ⟨b, off + j * 3, none⟩) := f28
                replace f29 : V 29 = .pointer (some ⟨b, off + j * 3 + 1, none⟩) := f29
                replace f30 : V 30 = .agg #[.string ts[j].atom.name, .slice y ts[j].atom.args.length yc] := f30
                replace f31 : V 31 = .pointer (some ⟨wr.heap.size, 1, none⟩) := f31
                replace f32 : V 32 = .agg #[.string ts[k].atom.name, .slice (some ⟨b2, off2, none⟩) ts[k].atom.args.length xc] := f32
                replace f33 : V 33 = .bool true := f33
                replace f34 : V 34 = .bool true := f34
                replace f35 : V 35 = .bool true := f35
                simp only [f0, f1, f2, f3, f4, f5, f6, f7, f8, f9, f10, f11, f12, f13, f14, f15, f16, f17, f18, f19, f20, f21, f22, f23, f24, f25, f26, f27, f28, f29, f30, f31, f32, f33, f34, f35]
                clear f0 f1 f2 f3 f4 f5 f6 f7 f8 f9 f10 f11 f12 f13 f14 f15 f16 f17 f18 f19 f20 f21 f22 f23 f24 f25 f26 f27 f28 f29 f30 f31 f32 f33 f34 f35
                clear eB0 lB eE0 eE1 eE2 lE
                go_wp2_with fail
                go_ret
                exact Gives.mk (by rw [HZ.out]; rfl) (hW.trans (hbR.mono hW.size))
              · replace hVq : Tm.eqb ts[j].atom ts[k].atom = false := by simpa using hVq
                have HZ : Hid (∀ i, i < k + 1 → Lit.tautAt ts i = false) := fun i hi => if h : i < k then HX.out i h else by
                  obtain rfl : i = k := by omega
                  exact Lit.taut_no HJ.out hlt hSE hVq
                clear hSE
                have eB0 := bT.c0
                have lB := bT.lt
                have eE0 := bE.c0
                have eE1 := bE.c1
                have eE2 := bE.c2
                have lE := bE.lt
                refine wp_region_B [fun v _ => v = .pointer (some ⟨wr.heap.size, 0, none⟩), fun v _ => v = .bool true, fun v _ => v = .bool true, fun v _ => v = .pointer (some ⟨wr.heap.size, 1, none⟩), fun v _ => v = .agg #[.string ts[k].atom.name, .slice (some ⟨b2, off2, none⟩) ts[k].atom.args.length xc], fun v _ => v = .bool true, fun v _ => v = .bool true, fun v _ => v = .bool true, fun v _ => v = .pointer (some ⟨wr.heap.size, 1, none⟩), fun v _ => v = .pointer (some ⟨wr.heap.size, 2, none⟩), fun v _ => v = .slice (some ⟨b2, off2, none⟩) ts[k].atom.args.length xc, fun v _ => v = .pointer (some ⟨b2, off2, none⟩), fun v _ => v = .agg #[.string ts[k].atom.args[0].name, .slice z0 ts[k].atom.args[0].args.length zc0], fun v _ => v = .pointer (some ⟨wr.heap.size, 1, none⟩), fun v _ => v = .pointer (some ⟨wr.heap.size, 2, none⟩), fun v _ => v = .slice (some ⟨b2, off2, none⟩) ts[k].atom.args.length xc, fun v _ => v = .pointer (some ⟨b2, off2 + 2, none⟩), fun v _ => v = .agg #[.string ts[k].atom.args[1].name, .slice z1 ts[k].atom.args[1].args.length zc1], fun v _ => v = .bool false, fun v _ => v = .bool false, fun v _ => v = .bool false, fun v _ => v = .int .i64 k, fun v _ => v = .bool true, fun v _ => v = .bool true, fun v _ => v = .pointer (some ⟨w.heap.size, 0, none⟩), fun v _ => v = .slice (some ⟨b, off, none⟩) ts.length cap, fun v _ => v = .int .i64 k, fun v _ => v = .int .i64 j, fun v _ => v = .pointer (some ⟨b, off + j * 3, none⟩), fun v _ => v = .pointer (some ⟨b, off + j * 3 + 1, none⟩), fun v _ => v = .agg #[.string ts[j].atom.name, .slice y ts[j].atom.args.length yc], fun v _ => v = .pointer (some ⟨wr.heap.size, 1, none⟩), fun v _ => v = .agg #[.string ts[k].atom.name, .slice (some ⟨b2, off2, none⟩) ts[k].atom.args.length xc], fun v _ => v = .bool false, fun v _ => v = .bool false, fun v _ => v = .bool false] _ (fun V => by simp [putAll, Act.put]; rfl) (by kernel_rfl) (by decide) (by simp) (by kernel_rfl) ?_ ?_ ?_
                · intro F hF
                  simp only [List.mem_cons, List.not_mem_nil, or_false] at hF
                  rcases hF with rfl | rfl | rfl | rfl | rfl | rfl | rfl | rfl | rfl | rfl | rfl | rfl | rfl | rfl | rfl | rfl | rfl | rfl | rfl | rfl | rfl | rfl | rfl | rfl | rfl | rfl | rfl | rfl | rfl | rfl | rfl | rfl | rfl | rfl | rfl | rfl
                  · exact stable_eq
                  · exact stable_eq
                  · exact stable_eq
                  · exact stable_eq
                  · exact stable_eq
                  · exact stable_eq
                  · exact stable_eq
                  · exact stable_eq
                  · exact stable_eq
                  · exact stable_eq
                  · exact stable_eq
                  · exact stable_eq
                  · exact stable_eq
                  · exact stable_eq
                  · exact stable_eq
                  · exact stable_eq
                  · exact stable_eq
                  · exact stable_eq
                  · exact stable_eq
                  · exact stable_eq
                  · exact stable_eq
                  · exact stable_eq
                  · exact stable_eq
                  · exact stable_eq
                  · exact stable_eq
                  · exact stable_eq
                  · exact stable_eq
                  · exact stable_eq
                  · exact stable_eq
                  · exact stable_eq
                  · exact stable_eq
                  · exact stable_eq
                  · exact stable_eq
                  · exact stable_eq
                  · exact stable_eq
                  · exact stable_eq
                · refine ⟨?_, ?_, ?_, ?_, ?_, ?_, ?_, ?_, ?_, ?_, ?_, ?_, ?_, ?_, ?_, ?_, ?_, ?_, ?_, ?_, ?_, ?_, ?_, ?_, ?_, ?_, ?_, ?_, ?_, ?_, ?_, ?_, ?_, ?_, ?_, ?_, trivial⟩
                  · intro V w1 hbR _
                    unfold Does
                    go_simp
                    exact ⟨Below.refl _ _, rfl⟩
                  · intro V w1 hbR ⟨f0, _⟩
                    replace f0 : V 0 = .pointer (some ⟨wr.heap.size, 0, none⟩) := f0
                    obtain ⟨hc, hf⟩ := bcell hbR
                    try simp only [World.size_alloc, World.size_setCell] at hc hf
                    unfold Does
                    go_simp
                    exact ⟨Below.refl _ _, rfl⟩
                  · intro V w1 hbR ⟨f1, _⟩
                    replace f1 : V 1 = .bool true := f1
                    unfold Does
                    go_simp
                    exact ⟨Below.refl _ _, rfl⟩
                  · intro V w1 hbR ⟨f2, _⟩
                    replace f2 : V 2 = .bool true := f2
                    refine .inl ⟨_, f2, fun hg => ?_, fun hg => ?_⟩
                    · unfold Does
                      go_simp
                      exact ⟨Below.refl _ _, rfl⟩
                    · exact absurd rfl hg
                  · intro V w1 hbR ⟨f3, f2, _⟩
                    replace f2 : V 2 = .bool true := f2
                    replace f3 : V 3 = .pointer (some ⟨wr.heap.size, 1, none⟩) := f3
                    refine .inl ⟨_, f2, fun hg => ?_, fun hg => ?_⟩
                    · obtain ⟨hc, hf⟩ := bcell hbR
                      try simp only [World.size_alloc, World.size_setCell] at hc hf
                      unfold Does
                      go_simp
                      exact ⟨Below.refl _ _, rfl⟩
                    · exact absurd rfl hg
                  · intro V w1 hbR ⟨f4, f2, _, _⟩
                    replace f2 : V 2 = .bool true := f2
                    replace f4 : V 4 = .agg #[.string ts[k].atom.name, .slice (some ⟨b2, off2, none⟩) ts[k].atom.args.length xc] := f4
                    refine .inl ⟨_, f2, fun hg => ?_, fun hg => ?_⟩
                    · obtain ⟨hc, hf⟩ := bcell hbR
                      try simp only [World.size_alloc, World.size_setCell] at hc hf
                      unfold Does
                      go_simp
                      have hq := isEquality_any ts[k].atom (Tm.at_keep (Keeps.all hbR) (Lit.at_atom hE)) hbm; rw [hQ] at hq; exact hq
                    · exact absurd rfl hg
                  · intro V w1 hbR ⟨f2, f5, _⟩
                    replace f2 : V 2 = .bool true := f2
                    replace f5 : V 5 = .bool true := f5
                    unfold Does
                    go_simp
                    exact ⟨Below.refl _ _, rfl⟩
                  · intro V w1 hbR ⟨f6, f5, _⟩
                    replace f5 : V 5 = .bool true := f5
                    replace f6 : V 6 = .bool true := f6
                    unfold Does
                    go_simp
                    exact ⟨Below.refl _ _, rfl⟩
                  · intro V w1 hbR ⟨f7, _⟩
                    replace f7 : V 7 = .bool true := f7
                    refine .inl ⟨_, f7, fun hg => ?_, fun hg => ?_⟩
                    · unfold Does
                      go_simp
                      exact ⟨Below.refl _ _, rfl⟩
                    · exact absurd rfl hg
                  · intro V w1 hbR ⟨f8, f7, _⟩
                    replace f7 : V 7 = .bool true := f7
                    replace f8 : V 8 = .pointer (some ⟨wr.heap.size, 1, none⟩) := f8
                    refine .inl ⟨_, f7, fun hg => ?_, fun hg => ?_⟩
                    · unfold Does
                      go_simp
                      exact ⟨Below.refl _ _, rfl⟩
                    · exact absurd rfl hg
                  · intro V w1 hbR ⟨f9, f7, _⟩
                    replace f7 : V 7 = .bool true := f7
                    replace f9 : V 9 = .pointer (some ⟨wr.heap.size, 2, none⟩) := f9
                    refine .inl ⟨_, f7, fun hg => ?_, fun hg => ?_⟩
                    · obtain ⟨hc, hf⟩ := bcell hbR
                      try simp only [World.size_alloc, World.size_setCell] at hc hf
                      unfold Does
                      go_simp
                      exact ⟨Below.refl _ _, rfl⟩
                    · exact absurd rfl hg
                  · intro V w1 hbR ⟨f10, f7, _⟩
                    replace f7 : V 7 = .bool true := f7
                    replace f10 : V 10 = .slice (some ⟨b2, off2, none⟩) ts[k].atom.args.length xc := f10
                    refine .inl ⟨_, f7, fun hg => ?_, fun hg => ?_⟩
                    · unfold Does
                      go_simp
                      exact ⟨Below.refl _ _, rfl⟩
                    · exact absurd rfl hg
                  · intro V w1 hbR ⟨f11, f7, _⟩
                    replace f7 : V 7 = .bool true := f7
                    replace f11 : V 11 = .pointer (some ⟨b2, off2, none⟩) := f11
                    refine .inl ⟨_, f7, fun hg => ?_, fun hg => ?_⟩
                    · obtain ⟨hc, hf⟩ := bcell hbR
                      try simp only [World.size_alloc, World.size_setCell] at hc hf
                      unfold Does
                      go_simp
                      exact ⟨Below.refl _ _, rfl⟩
                    · exact absurd rfl hg
                  · intro V w1 hbR ⟨f7, _⟩
                    replace f7 : V 7 = .bool true := f7
                    refine .inl ⟨_, f7, fun hg => ?_, fun hg => ?_⟩
                    · unfold Does
                      go_simp
                      exact ⟨Below.refl _ _, rfl⟩
                    · exact absurd rfl hg
                  · intro V w1 hbR ⟨f13, f7, _⟩
                    replace f7 : V 7 = .bool true := f7
                    replace f13 : V 13 = .pointer (some ⟨wr.heap.size, 1, none⟩) := f13
                    refine .inl ⟨_, f7, fun hg => ?_, fun hg => ?_⟩
                    · unfold Does
                      go_simp
                      exact ⟨Below.refl _ _, rfl⟩
                    · exact absurd rfl hg
                  · intro V w1 hbR ⟨f14, f7, _⟩
                    replace f7 : V 7 = .bool true := f7
                    replace f14 : V 14 = .pointer (some ⟨wr.heap.size, 2, none⟩) := f14
                    refine .inl ⟨_, f7, fun hg => ?_, fun hg => ?_⟩
                    · obtain ⟨hc, hf⟩ := bcell hbR
                      try simp only [World.size_alloc, World.size_setCell] at hc hf
                      unfold Does
                      go_simp
                      exact ⟨Below.refl _ _, rfl⟩
                    · exact absurd rfl hg
                  · intro V w1 hbR ⟨f15, f7, _⟩
                    replace f7 : V 7 = .bool true := f7
                    replace f15 : V 15 = .slice (some ⟨b2, off2, none⟩) ts[k].atom.args.length xc := f15
                    refine .inl ⟨_, f7, fun hg => ?_, fun hg => ?_⟩
                    · unfold Does
                      go_simp
                      exact ⟨Below.refl _ _, rfl⟩
                    · exact absurd rfl hg
                  · intro V w1 hbR ⟨f16, f7, _⟩
                    replace f7 : V 7 = .bool true := f7
                    replace f16 : V 16 = .pointer (some ⟨b2, off2 + 2, none⟩) := f16
                    refine .inl ⟨_, f7, fun hg => ?_, fun hg => ?_⟩
                    · obtain ⟨hc, hf⟩ := bcell hbR
                      try simp only [World.size_alloc, World.size_setCell] at hc hf
                      unfold Does
                      go_simp
                      exact ⟨Below.refl _ _, rfl⟩
                    · exact absurd rfl hg
                  · intro V w1 hbR ⟨f12, f17, f7, _, _⟩
                    replace f7 : V 7 = .bool true := f7
                    replace f12 : V 12 = .agg #[.string ts[k].atom.args[0].name, .slice z0 ts[k].atom.args[0].args.length zc0] := f12
                    replace f17 : V 17 = .agg #[.string ts[k].atom.args[1].name, .slice z1 ts[k].atom.args[1].args.length zc1] := f17
                    refine .inl ⟨_, f7, fun hg => ?_, fun hg => ?_⟩
                    · obtain ⟨hc, hf⟩ := bcell hbR
                      try simp only [World.size_alloc, World.size_setCell] at hc hf
                      unfold Does
                      go_simp
                      refine (equalTerms_any _ _ S _ _ _ _ _ (Tm.at_keep (Keeps.all hbR) hZ0) (Tm.at_keep (Keeps.all hbR) hZ1)).mono ?_; rintro e w5 ⟨rfl, hb5⟩; exact ⟨_, rfl, hb5, by rw [hEq]⟩
                    · exact absurd rfl hg
                  · intro V w1 hbR ⟨f7, f18, _⟩
                    replace f7 : V 7 = .bool true := f7
                    replace f18 : V 18 = .bool false := f18
                    unfold Does
                    go_simp
                    exact ⟨Below.refl _ _, rfl⟩
                  · intro V w1 hbR ⟨f19, f18, _⟩
                    replace f18 : V 18 = .bool false := f18
                    replace f19 : V 19 = .bool false := f19
                    unfold Does
                    go_simp
                    exact ⟨Below.refl _ _, rfl⟩
                  · intro V w1 hbR ⟨f20, _⟩
                    replace f20 : V 20 = .bool false := f20
                    refine .inl ⟨_, f20, fun hg => ?_, fun hg => ?_⟩
                    · unfold Does
                      go_simp
                      exact ⟨Below.refl _ _, rfl⟩
                    · exact absurd rfl hg
                  · intro V w1 hbR ⟨f21, f20, _⟩
                    replace f20 : V 20 = .bool false := f20
                    replace f21 : V 21 = .int .i64 k := f21
                    refine .inl ⟨_, f20, fun hg => ?_, fun hg => ?_⟩
                    · unfold Does
                      go_simp
                      exact ⟨Below.refl _ _, rfl⟩
                    · exact absurd rfl hg
                  · intro V w1 hbR ⟨f22, f20, _, _⟩
                    replace f20 : V 20 = .bool false := f20
                    replace f22 : V 22 = .bool true := f22
                    refine .inl ⟨_, f20, fun hg => ?_, fun hg => ?_⟩
                    · unfold Does
                      go_simp
                      exact ⟨Below.refl _ _, rfl⟩
                    · exact absurd rfl hg
                  · intro V w1 hbR ⟨f23, _⟩
                    replace f23 : V 23 = .bool true := f23
                    refine .inl ⟨_, f23, fun hg => ?_, fun hg => ?_⟩
                    · unfold Does
                      go_simp
                      exact ⟨Below.refl _ _, rfl⟩
                    · exact absurd rfl hg
                  · intro V w1 hbR ⟨f24, f23, _⟩
                    replace f23 : V 23 = .bool true := f23
                    replace f24 : V 24 = .pointer (some ⟨w.heap.size, 0, none⟩) := f24
                    refine .inl ⟨_, f23, fun hg => ?_, fun hg => ?_⟩
                    · obtain ⟨hc, hf⟩ := bcell hbR
                      try simp only [World.size_alloc, World.size_setCell] at hc hf
                      unfold Does
                      go_simp
                      exact ⟨Below.refl _ _, rfl⟩
                    · exact absurd rfl hg
                  · intro V w1 hbR ⟨f23, _⟩
                    replace f23 : V 23 = .bool true := f23
                    refine .inl ⟨_, f23, fun hg => ?_, fun hg => ?_⟩
                    · unfold Does
                      go_simp
                      exact ⟨Below.refl _ _, rfl⟩
                    · exact absurd rfl hg
                  · intro V w1 hbR ⟨f26, f23, _⟩
                    replace f23 : V 23 = .bool true := f23
                    replace f26 : V 26 = .int .i64 k := f26
                    refine .inl ⟨_, f23, fun hg => ?_, fun hg => ?_⟩
                    · unfold Does
                      go_simp
                      exact ⟨Below.refl _ _, by congr 1; rw [IntKind.wrap_i64]; have := HJ.out; omega⟩
                    · exact absurd rfl hg
                  · intro V w1 hbR ⟨f25, f27, f23, _⟩
                    replace f23 : V 23 = .bool true := f23
                    replace f25 : V 25 = .slice (some ⟨b, off, none⟩) ts.length cap := f25
                    replace f27 : V 27 = .int .i64 j := f27
                    refine .inl ⟨_, f23, fun hg => ?_, fun hg => ?_⟩
                    · unfold Does
                      go_simp
                      exact ⟨Below.refl _ _, rfl⟩
                    · exact absurd rfl hg
                  · intro V w1 hbR ⟨f28, f23, _⟩
                    replace f23 : V 23 = .bool true := f23
                    replace f28 : V 28 = .pointer (some ⟨b, off + j * 3, none⟩) := f28
                    refine .inl ⟨_, f23, fun hg => ?_, fun hg => ?_⟩
                    · unfold Does
                      go_simp
                      exact ⟨Below.refl _ _, rfl⟩
                    · exact absurd rfl hg
                  · intro V w1 hbR ⟨f29, f23, _⟩
                    replace f23 : V 23 = .bool true := f23
                    replace f29 : V 29 = .pointer (some ⟨b, off + j * 3 + 1, none⟩) := f29
                    refine .inl ⟨_, f23, fun hg => ?_, fun hg => ?_⟩
                    · obtain ⟨hc, hf⟩ := bcell hbR
                      try simp only [World.size_alloc, World.size_setCell] at hc hf
                      unfold Does
                      go_simp
                      exact ⟨Below.refl _ _, rfl⟩
                    · exact absurd rfl hg
                  · intro V w1 hbR ⟨f23, _⟩
                    replace f23 : V 23 = .bool true := f23
                    refine .inl ⟨_, f23, fun hg => ?_, fun hg => ?_⟩
                    · unfold Does
                      go_simp
                      exact ⟨Below.refl _ _, rfl⟩
                    · exact absurd rfl hg
                  · intro V w1 hbR ⟨f31, f23, _⟩
                    replace f23 : V 23 = .bool true := f23
                    replace f31 : V 31 = .pointer (some ⟨wr.heap.size, 1, none⟩) := f31
                    refine .inl ⟨_, f23, fun hg => ?_, fun hg => ?_⟩
                    · obtain ⟨hc, hf⟩ := bcell hbR
                      try simp only [World.size_alloc, World.size_setCell] at hc hf
                      unfold Does
                      go_simp
                      exact ⟨Below.refl _ _, rfl⟩
                    · exact absurd rfl hg
                  · intro V w1 hbR ⟨f30, f32, f23, _, _⟩
                    replace f23 : V 23 = .bool true := f23
                    replace f30 : V 30 = .agg #[.string ts[j].atom.name, .slice y ts[j].atom.args.length yc] := f30
                    replace f32 : V 32 = .agg #[.string ts[k].atom.name, .slice (some ⟨b2, off2, none⟩) ts[k].atom.args.length xc] := f32
                    refine .inl ⟨_, f23, fun hg => ?_, fun hg => ?_⟩
                    · obtain ⟨hc, hf⟩ := bcell hbR
                      try simp only [World.size_alloc, World.size_setCell] at hc hf
                      unfold Does
                      go_simp
                      refine (equalTerms_any _ _ S _ _ _ _ _ (Tm.at_keep (Keeps.all hbR) hJ) (Tm.at_keep (Keeps.all hbR) (Lit.at_atom hE))).mono ?_; rintro e w5 ⟨rfl, hb5⟩; exact ⟨_, rfl, hb5, by rw [hVq]⟩
                    · exact absurd rfl hg
                  · intro V w1 hbR ⟨f23, f33, f20, _⟩
                    replace f20 : V 20 = .bool false := f20
                    replace f23 : V 23 = .bool true := f23
                    replace f33 : V 33 = .bool false := f33
                    refine .inl ⟨_, f20, fun hg => ?_, fun hg => ?_⟩
                    · unfold Does
                      go_simp
                      exact ⟨Below.refl _ _, rfl⟩
                    · exact absurd rfl hg
                  · intro V w1 hbR ⟨f20, f34, _⟩
                    replace f20 : V 20 = .bool false := f20
                    replace f34 : V 34 = .bool false := f34
                    unfold Does
                    go_simp
                    exact ⟨Below.refl _ _, rfl⟩
                intro V w3 hbR hfR
                obtain ⟨f0, f1, f2, f3, f4, f5, f6, f7, f8, f9, f10, f11, f12, f13, f14, f15, f16, f17, f18, f19, f20, f21, f22, f23, f24, f25, f26, f27, f28, f29, f30, f31, f32, f33, f34, f35, _⟩ := hfR
                replace f0 : V 0 = .pointer (some ⟨wr.heap.size, 0, none⟩) := f0
                replace f1 : V 1 = .bool true := f1
                replace f2 : V 2 = .bool true := f2
                replace f3 : V 3 = .pointer (some ⟨wr.heap.size, 1, none⟩) := f3
                replace f4 : V 4 = .agg #[.string ts[k].atom.name, .slice (some ⟨b2, off2, none⟩) ts[k].atom.args.length xc] := f4
                replace f5 : V 5 = .bool true := f5
                replace f6 : V 6 = .bool true := f6
                replace f7 : V 7 = .bool true := f7
                replace f8 : V 8 = .pointer (some ⟨wr.heap.size, 1, none⟩) := f8
                replace f9 : V 9 = .pointer (some ⟨wr.heap.size, 2, none⟩) := f9
                replace f10 : V 10 = .slice (some ⟨b2, off2, none⟩) ts[k].atom.args.length xc := f10
                replace f11 : V 11 = .pointer (some ⟨b2, off2, none⟩) := f11
                replace f12 : V 12 = .agg #[.string ts[k].atom.args[0].name, .slice z0 ts[k].atom.args[0].args.length zc0] := f12
                replace f13 : V 13 = .pointer (some ⟨wr.heap.size, 1, none⟩) := f13
                replace f14 : V 14 = .pointer (some ⟨wr.heap.size, 2, none⟩) := f14
                replace f15 : V 15 = .slice (some ⟨b2, off2, none⟩) ts[k].atom.args.length xc := f15
                replace f16 : V 16 = .pointer (some ⟨b2, off2 + 2, none⟩) := f16
                replace f17 : V 17 = .agg #[.string ts[k].atom.args[1].name, .slice z1 ts[k].atom.args[1].args.length zc1] := f17
                replace f18 : V 18 = .bool false := f18
                replace f19 : V 19 = .bool false := f19
                replace f20 : V 20 = .bool false := f20
                replace f21 : V 21 = .int .i64 k := f21
                replace f22 : V 22 = .bool true := f22
                replace f23 : V 23 = .bool true := f23
                replace f24 : V 24 = .pointer (some ⟨w.heap.size, 0, none⟩) := f24
                replace f25 : V 25 = .slice (some ⟨b, off, none⟩) ts.length cap := f25
                replace f26 : V 26 = .int .i64 k := f26
                replace f27 : V 27 = .int .i64 j := f27
                replace f28 : V 28 = .pointer (some ⟨b, off + j * 3, none⟩) := f28
                replace f29 : V 29 = .pointer (some ⟨b, off + j * 3 + 1, none⟩) := f29
                replace f30 : V 30 = .agg #[.string ts[j].atom.name, .slice y ts[j].atom.args.length yc] := f30
                replace f31 : V 31 = .pointer (some ⟨wr.heap.size, 1, none⟩) := f31
                replace f32 : V 32 = .agg #[.string ts[k].atom.name, .slice (some ⟨b2, off2, none⟩) ts[k].atom.args.length xc] := f32
                replace f33 : V 33 = .bool false := f33
                replace f34 : V 34 = .bool false := f34
                replace f35 : V 35 = .bool false := f35
                simp only [f0, f1, f2, f3, f4, f5, f6, f7, f8, f9, f10, f11, f12, f13, f14, f15, f16, f17, f18, f19, f20, f21, f22, f23, f24, f25, f26, f27, f28, f29, f30, f31, f32, f33, f34, f35]
                clear f0 f1 f2 f3 f4 f5 f6 f7 f8 f9 f10 f11 f12 f13 f14 f15 f16 f17 f18 f19 f20 f21 f22 f23 f24 f25 f26 f27 f28 f29 f30 f31 f32 f33 f34 f35
                clear eB0 lB eE0 eE1 eE2 lE
                go_wp2_with fail
                go_roundw
                case rel => exact ⟨k + 1, by omega, by go_num, HZ, hb.trans ((hA0.trans (hbR.mono hA0.size)).mono hz)⟩
                case measure => simp [intOf]; omega
            · have hk0 : ¬ (0 : Int) < k := by omega
              have HJ : Hid (k = 0) := by show k = 0; omega
              have HZ : Hid (∀ i, i < k + 1 → Lit.tautAt ts i = false) := fun i hi => if h : i < k then HX.out i h else by
                obtain rfl : i = k := by omega
                exact Lit.taut_no0 HJ.out hlt hSE
              clear hSE
              have eB0 := bT.c0
              have lB := bT.lt
              have eE0 := bE.c0
              have eE1 := bE.c1
              have eE2 := bE.c2
              have lE := bE.lt
              refine wp_region_B [fun v _ => v = .pointer (some ⟨wr.heap.size, 0, none⟩), fun v _ => v = .bool true, fun v _ => v = .bool true, fun v _ => v = .pointer (some ⟨wr.heap.size, 1, none⟩), fun v _ => v = .agg #[.string ts[k].atom.name, .slice (some ⟨b2, off2, none⟩) ts[k].atom.args.length xc], fun v _ => v = .bool true, fun v _ => v = .bool true, fun v _ => v = .bool true, fun v _ => v = .pointer (some ⟨wr.heap.size, 1, none⟩), fun v _ => v = .pointer (some ⟨wr.heap.size, 2, none⟩), fun v _ => v = .slice (some ⟨b2, off2, none⟩) ts[k].atom.args.length xc, fun v _ => v = .pointer (some ⟨b2, off2, none⟩), fun v _ => v = .agg #[.string ts[k].atom.args[0].name, .slice z0 ts[k].atom.args[0].args.length zc0], fun v _ => v = .pointer (some ⟨wr.heap.size, 1, none⟩), fun v _ => v = .pointer (some ⟨wr.heap.size, 2, none⟩), fun v _ => v = .slice (some ⟨b2, off2, none⟩) ts[k].atom.args.length xc, fun v _ => v = .pointer (some ⟨b2, off2 + 2, none⟩), fun v _ => v = .agg #[.string ts[k].atom.args[1].name, .slice z1 ts[k].atom.args[1].args.length zc1], fun v _ => v = .bool false, fun v _ => v = .bool false, fun v _ => v = .bool false, fun v _ => v = .int .i64 k, fun v _ => v = .bool false, fun v _ => v = .bool false, fun v _ => v = undef, fun v _ => v = undef, fun v _ => v = undef, fun v _ => v = undef, fun v _ => v = undef, fun v _ => v = undef, fun v _ => v = undef, fun v _ => v = undef, fun v _ => v = undef, fun v _ => v = undef, fun v _ => v = .bool false, fun v _ => v = .bool false] _ (fun V => by simp [putAll, Act.put]; rfl) (by kernel_rfl) (by decide) (by simp) (by kernel_rfl) ?_ ?_ ?_
              · intro F hF
                simp only [List.mem_cons, List.not_mem_nil, or_false] at hF
                rcases hF with rfl | rfl | rfl | rfl | rfl | rfl | rfl | rfl | rfl | rfl | rfl | rfl | rfl | rfl | rfl | rfl | rfl | rfl | rfl | rfl | rfl | rfl | rfl | rfl | rfl | rfl | rfl | rfl | rfl | rfl | rfl | rfl | rfl | rfl | rfl | rfl
                · exact stable_eq
                · exact stable_eq
                · exact stable_eq
                · exact stable_eq
                · exact stable_eq
                · exact stable_eq
                · exact stable_eq
                · exact stable_eq
                · exact stable_eq
                · exact stable_eq
                · exact stable_eq
                · exact stable_eq
                · exact stable_eq
                · exact stable_eq
                · exact stable_eq
                · exact stable_eq
                · exact stable_eq
                · exact stable_eq
                · exact stable_eq
                · exact stable_eq
                · exact stable_eq
                · exact stable_eq
                · exact stable_eq
                · exact stable_eq
                · exact stable_eq
                · exact stable_eq
                · exact stable_eq
                · exact stable_eq
                · exact stable_eq
                · exact stable_eq
                · exact stable_eq
                · exact stable_eq
                · exact stable_eq
                · exact stable_eq
                · exact stable_eq
                · exact stable_eq
              · refine ⟨?_, ?_, ?_, ?_, ?_, ?_, ?_, ?_, ?_, ?_, ?_, ?_, ?_, ?_, ?_, ?_, ?_, ?_, ?_, ?_, ?_, ?_, ?_, ?_, ?_, ?_, ?_, ?_, ?_, ?_, ?_, ?_, ?_, ?_, ?_, ?_, trivial⟩
                · intro V w1 hbR _
                  unfold Does
                  go_simp
                  exact ⟨Below.refl _ _, rfl⟩
                · intro V w1 hbR ⟨f0, _⟩
                  replace f0 : V 0 = .pointer (some ⟨wr.heap.size, 0, none⟩) := f0
                  obtain ⟨hc, hf⟩ := bcell hbR
                  try simp only [World.size_alloc, World.size_setCell] at hc hf
                  unfold Does
                  go_simp
                  exact ⟨Below.refl _ _, rfl⟩
                · intro V w1 hbR ⟨f1, _⟩
                  replace f1 : V 1 = .bool true := f1
                  unfold Does
                  go_simp
                  exact ⟨Below.refl _ _, rfl⟩
                · intro V w1 hbR ⟨f2, _⟩
                  replace f2 : V 2 = .bool true := f2
                  refine .inl ⟨_, f2, fun hg => ?_, fun hg => ?_⟩
                  · unfold Does
                    go_simp
                    exact ⟨Below.refl _ _, rfl⟩
                  · exact absurd rfl hg
                · intro V w1 hbR ⟨f3, f2, _⟩
                  replace f2 : V 2 = .bool true := f2
                  replace f3 : V 3 = .pointer (some ⟨wr.heap.size, 1, none⟩) := f3
                  refine .inl ⟨_, f2, fun hg => ?_, fun hg => ?_⟩
                  · obtain ⟨hc, hf⟩ := bcell hbR
                    try simp only [World.size_alloc, World.size_setCell] at hc hf
                    unfold Does
                    go_simp
                    exact ⟨Below.refl _ _, rfl⟩
                  · exact absurd rfl hg
                · intro V w1 hbR ⟨f4, f2, _, _⟩
                  replace f2 : V 2 = .bool true := f2
                  replace f4 : V 4 = .agg #[.string ts[k].atom.name, .slice (some ⟨b2, off2, none⟩) ts[k].atom.args.length xc] := f4
                  refine .inl ⟨_, f2, fun hg => ?_, fun hg => ?_⟩
                  · obtain ⟨hc, hf⟩ := bcell hbR
                    try simp only [World.size_alloc, World.size_setCell] at hc hf
                    unfold Does
                    go_simp
                    have hq := isEquality_any ts[k].atom (Tm.at_keep (Keeps.all hbR) (Lit.at_atom hE)) hbm; rw [hQ] at hq; exact hq
                  · exact absurd rfl hg
                · intro V w1 hbR ⟨f2, f5, _⟩
                  replace f2 : V 2 = .bool true := f2
                  replace f5 : V 5 = .bool true := f5
                  unfold Does
                  go_simp
                  exact ⟨Below.refl _ _, rfl⟩
                · intro V w1 hbR ⟨f6, f5, _⟩
                  replace f5 : V 5 = .bool true := f5
                  replace f6 : V 6 = .bool true := f6
                  unfold Does
                  go_simp
                  exact ⟨Below.refl _ _, rfl⟩
                · intro V w1 hbR ⟨f7, _⟩
                  replace f7 : V 7 = .bool true := f7
                  refine .inl ⟨_, f7, fun hg => ?_, fun hg => ?_⟩
                  · unfold Does
                    go_simp
                    exact ⟨Below.refl _ _, rfl⟩
                  · exact absurd rfl hg
                · intro V w1 hbR ⟨f8, f7, _⟩
                  replace f7 : V 7 = .bool true := f7
                  replace f8 : V 8 = .pointer (some ⟨wr.heap.size, 1, none⟩) := f8
                  refine .inl ⟨_, f7, fun hg => ?_, fun hg => ?_⟩
                  · unfold Does
                    go_simp
                    exact ⟨Below.refl _ _, rfl⟩
                  · exact absurd rfl hg
                · intro V w1 hbR ⟨f9, f7, _⟩
                  replace f7 : V 7 = .bool true := f7
                  replace f9 : V 9 = .pointer (some ⟨wr.heap.size, 2, none⟩) := f9
                  refine .inl ⟨_, f7, fun hg => ?_, fun hg => ?_⟩
                  · obtain ⟨hc, hf⟩ := bcell hbR
                    try simp only [World.size_alloc, World.size_setCell] at hc hf
                    unfold Does
                    go_simp
                    exact ⟨Below.refl _ _, rfl⟩
                  · exact absurd rfl hg
                · intro V w1 hbR ⟨f10, f7, _⟩
                  replace f7 : V 7 = .bool true := f7
                  replace f10 : V 10 = .slice (some ⟨b2, off2, none⟩) ts[k].atom.args.length xc := f10
                  refine .inl ⟨_, f7, fun hg => ?_, fun hg => ?_⟩
                  · unfold Does
                    go_simp
                    exact ⟨Below.refl _ _, rfl⟩
                  · exact absurd rfl hg
                · intro V w1 hbR ⟨f11, f7, _⟩
                  replace f7 : V 7 = .bool true := f7
                  replace f11 : V 11 = .pointer (some ⟨b2, off2, none⟩) := f11
                  refine .inl ⟨_, f7, fun hg => ?_, fun hg => ?_⟩
                  · obtain ⟨hc, hf⟩ := bcell hbR
                    try simp only [World.size_alloc, World.size_setCell] at hc hf
                    unfold Does
                    go_simp
                    exact ⟨Below.refl _ _, rfl⟩
                  · exact absurd rfl hg
                · intro V w1 hbR ⟨f7, _⟩
                  replace f7 : V 7 = .bool true := f7
                  refine .inl ⟨_, f7, fun hg => ?_, fun hg => ?_⟩
                  · unfold Does
                    go_simp
                    exact ⟨Below.refl _ _, rfl⟩
                  · exact absurd rfl hg
                · intro V w1 hbR ⟨f13, f7, _⟩
                  replace f7 : V 7 = .bool true := f7
                  replace f13 : V 13 = .pointer (some ⟨wr.heap.size, 1, none⟩) := f13
                  refine .inl ⟨_, f7, fun hg => ?_, fun hg => ?_⟩
                  · unfold Does
                    go_simp
                    exact ⟨Below.refl _ _, rfl⟩
                  · exact absurd rfl hg
                · intro V w1 hbR ⟨f14, f7, _⟩
                  replace f7 : V 7 = .bool true := f7
                  replace f14 : V 14 = .pointer (some ⟨wr.heap.size, 2, none⟩) := f14
                  refine .inl ⟨_, f7, fun hg => ?_, fun hg => ?_⟩
                  · obtain ⟨hc, hf⟩ := bcell hbR
                    try simp only [World.size_alloc, World.size_setCell] at hc hf
                    unfold Does
                    go_simp
                    exact ⟨Below.refl _ _, rfl⟩
                  · exact absurd rfl hg
                · intro V w1 hbR ⟨f15, f7, _⟩
                  replace f7 : V 7 = .bool true := f7
                  replace f15 : V 15 = .slice (some ⟨b2, off2, none⟩) ts[k].atom.args.length xc := f15
                  refine .inl ⟨_, f7, fun hg => ?_, fun hg => ?_⟩
                  · unfold Does
                    go_simp
                    exact ⟨Below.refl _ _, rfl⟩
                  · exact absurd rfl hg
                · intro V w1 hbR ⟨f16, f7, _⟩
                  replace f7 : V 7 = .bool true := f7
                  replace f16 : V 16 = .pointer (some ⟨b2, off2 + 2, none⟩) := f16
                  refine .inl ⟨_, f7, fun hg => ?_, fun hg => ?_⟩
                  · obtain ⟨hc, hf⟩ := bcell hbR
                    try simp only [World.size_alloc, World.size_setCell] at hc hf
                    unfold Does
                    go_simp
                    exact ⟨Below.refl _ _, rfl⟩
                  · exact absurd rfl hg
                · intro V w1 hbR ⟨f12, f17, f7, _, _⟩
                  replace f7 : V 7 = .bool true := f7
                  replace f12 : V 12 = .agg #[.string ts[k].atom.args[0].name, .slice z0 ts[k].atom.args[0].args.length zc0] := f12
                  replace f17 : V 17 = .agg #[.string ts[k].atom.args[1].name, .slice z1 ts[k].atom.args[1].args.length zc1] := f17
                  refine .inl ⟨_, f7, fun hg => ?_, fun hg => ?_⟩
                  · obtain ⟨hc, hf⟩ := bcell hbR
                    try simp only [World.size_alloc, World.size_setCell] at hc hf
                    unfold Does
                    go_simp
                    refine (equalTerms_any _ _ S _ _ _ _ _ (Tm.at_keep (Keeps.all hbR) hZ0) (Tm.at_keep (Keeps.all hbR) hZ1)).mono ?_; rintro e w5 ⟨rfl, hb5⟩; exact ⟨_, rfl, hb5, by rw [hEq]⟩
                  · exact absurd rfl hg
                · intro V w1 hbR ⟨f7, f18, _⟩
                  replace f7 : V 7 = .bool true := f7
                  replace f18 : V 18 = .bool false := f18
                  unfold Does
                  go_simp
                  exact ⟨Below.refl _ _, rfl⟩
                · intro V w1 hbR ⟨f19, f18, _⟩
                  replace f18 : V 18 = .bool false := f18
                  replace f19 : V 19 = .bool false := f19
                  unfold Does
                  go_simp
                  exact ⟨Below.refl _ _, rfl⟩
                · intro V w1 hbR ⟨f20, _⟩
                  replace f20 : V 20 = .bool false := f20
                  refine .inl ⟨_, f20, fun hg => ?_, fun hg => ?_⟩
                  · unfold Does
                    go_simp
                    exact ⟨Below.refl _ _, rfl⟩
                  · exact absurd rfl hg
                · intro V w1 hbR ⟨f21, f20, _⟩
                  replace f20 : V 20 = .bool false := f20
                  replace f21 : V 21 = .int .i64 k := f21
                  refine .inl ⟨_, f20, fun hg => ?_, fun hg => ?_⟩
                  · unfold Does
                    go_simp
                    exact ⟨Below.refl _ _, rfl⟩
                  · exact absurd rfl hg
                · intro V w1 hbR ⟨f22, f20, _, _⟩
                  replace f20 : V 20 = .bool false := f20
                  replace f22 : V 22 = .bool false := f22
                  refine .inl ⟨_, f20, fun hg => ?_, fun hg => ?_⟩
                  · unfold Does
                    go_simp
                    exact ⟨Below.refl _ _, rfl⟩
                  · exact absurd rfl hg
                · intro V w1 hbR ⟨f23, _⟩
                  replace f23 : V 23 = .bool false := f23
                  refine .inl ⟨_, f23, fun hg => ?_, fun hg => ?_⟩
                  · exact absurd hg (by decide)
                  · rfl
                · intro V w1 hbR ⟨f24, f23, _⟩
                  replace f23 : V 23 = .bool false := f23
                  replace f24 : V 24 = undef := f24
                  refine .inl ⟨_, f23, fun hg => ?_, fun hg => ?_⟩
                  · exact absurd hg (by decide)
                  · rfl
                · intro V w1 hbR ⟨f23, _⟩
                  replace f23 : V 23 = .bool false := f23
                  refine .inl ⟨_, f23, fun hg => ?_, fun hg => ?_⟩
                  · exact absurd hg (by decide)
                  · rfl
                · intro V w1 hbR ⟨f26, f23, _⟩
                  replace f23 : V 23 = .bool false := f23
                  replace f26 : V 26 = undef := f26
                  refine .inl ⟨_, f23, fun hg => ?_, fun hg => ?_⟩
                  · exact absurd hg (by decide)
                  · rfl
                · intro V w1 hbR ⟨f25, f27, f23, _⟩
                  replace f23 : V 23 = .bool false := f23
                  replace f25 : V 25 = undef := f25
                  replace f27 : V 27 = undef := f27
                  refine .inl ⟨_, f23, fun hg => ?_, fun hg => ?_⟩
                  · exact absurd hg (by decide)
                  · rfl
                · intro V w1 hbR ⟨f28, f23, _⟩
                  replace f23 : V 23 = .bool false := f23
                  replace f28 : V 28 = undef := f28
                  refine .inl ⟨_, f23, fun hg => ?_, fun hg => ?_⟩
                  · exact absurd hg (by decide)
                  · rfl
                · intro V w1 hbR ⟨f29, f23, _⟩
                  replace f23 : V 23 = .bool false := f23
                  replace f29 : V 29 = undef := f29
                  refine .inl ⟨_, f23, fun hg => ?_, fun hg => ?_⟩
                  · exact absurd hg (by decide)
                  · rfl
                · intro V w1 hbR ⟨f23, _⟩
                  replace f23 : V 23 = .bool false := f23
                  refine .inl ⟨_, f23, fun hg => ?_, fun hg => ?_⟩
                  · exact absurd hg (by decide)
                  · rfl
                · intro V w1 hbR ⟨f31, f23, _⟩
                  replace f23 : V 23 = .bool false := f23
                  replace f31 : V 31 = undef := f31
                  refine .inl ⟨_, f23, fun hg => ?_, fun hg => ?_⟩
                  · exact absurd hg (by decide)
                  · rfl
                · intro V w1 hbR ⟨f30, f32, f23, _, _⟩
                  replace f23 : V 23 = .bool false := f23
                  replace f30 : V 30 = undef := f30
                  replace f32 : V 32 = undef := f32
                  refine .inl ⟨_, f23, fun hg => ?_, fun hg => ?_⟩
                  · exact absurd hg (by decide)
                  · rfl
                · intro V w1 hbR ⟨f23, f33, f20, _⟩
                  replace f20 : V 20 = .bool false := f20
                  replace f23 : V 23 = .bool false := f23
                  replace f33 : V 33 = undef := f33
                  refine .inl ⟨_, f20, fun hg => ?_, fun hg => ?_⟩
                  · unfold Does
                    go_simp
                    exact ⟨Below.refl _ _, rfl⟩
                  · exact absurd rfl hg
                · intro V w1 hbR ⟨f20, f34, _⟩
                  replace f20 : V 20 = .bool false := f20
                  replace f34 : V 34 = .bool false := f34
                  unfold Does
                  go_simp
                  exact ⟨Below.refl _ _, rfl⟩
              intro V w3 hbR hfR
              obtain ⟨f0, f1, f2, f3, f4, f5, f6, f7, f8, f9, f10, f11, f12, f13, f14, f15, f16, f17, f18, f19, f20, f21, f22, f23, f24, f25, f26, f27, f28, f29, f30, f31, f32, f33, f34, f35, _⟩ := hfR
              replace f0 : V 0 = .pointer (some ⟨wr.heap.size, 0, none⟩) := f0
              replace f1 : V 1 = .bool true := f1
              replace f2 : V 2 = .bool true := f2
              replace f3 : V 3 = .pointer (some ⟨wr.heap.size, 1, none⟩) := f3
              replace f4 : V 4 = .agg #[.string ts[k].atom.name, .slice (some ⟨b2, off2, none⟩) ts[k].atom.args.length xc] := f4
              replace f5 : V 5 = .bool true := f5
              replace f6 : V 6 = .bool true := f6
              replace f7 : V 7 = .bool true := f7
              replace f8 : V 8 = .pointer (some ⟨wr.heap.size, 1, none⟩) := f8
              replace f9 : V 9 = .pointer (some ⟨wr.heap.size, 2, none⟩) := f9
              replace f10 : V 10 = .slice (some ⟨b2, off2, none⟩) ts[k].atom.args.length xc := f10
              replace f11 : V 11 = .pointer (some ⟨b2, off2, none⟩) := f11
              replace f12 : V 12 = .agg #[.string ts[k].atom.args[0].name, .slice z0 ts[k].atom.args[0].args.length zc0] := f12
              replace f13 : V 13 = .pointer (some ⟨wr.heap.size, 1, none⟩) := f13
              replace f14 : V 14 = .pointer (some ⟨wr.heap.size, 2, none⟩) := f14
              replace f15 : V 15 = .slice (some ⟨b2, off2, none⟩) ts[k].atom.args.length xc := f15
              replace f16 : V 16 = .pointer (some ⟨b2, off2 + 2, none⟩) := f16
              replace f17 : V 17 = .agg #[.string ts[k].atom.args[1].name, .slice z1 ts[k].atom.args[1].args.length zc1] := f17
              replace f18 : V 18 = .bool false := f18
              replace f19 : V 19 = .bool false := f19
              replace f20 : V 20 = .bool false := f20
              replace f21 : V 21 = .int .i64 k := f21
              replace f22 : V 22 = .bool false := f22
              replace f23 : V 23 = .bool false := f23
              replace f24 : V 24 = undef := f24
              replace f25 : V 25 = undef := f25
              replace f26 : V 26 = undef := f26
              replace f27 : V 27 = undef := f27
              replace f28 : V 28 = undef := f28
              replace f29 : V 29 = undef := f29
              replace f30 : V 30 = undef := f30
              replace f31 : V 31 = undef := f31
              replace f32 : V 32 = undef := f32
              replace f33 : V 33 = undef := f33
              replace f34 : V 34 = .bool false := f34
              replace f35 : V 35 = .bool false := f35
              simp only [f0, f1, f2, f3, f4, f5, f6, f7, f8, f9, f10, f11, f12, f13, f14, f15, f16, f17, f18, f19, f20, f21, f22, f23, f24, f25, f26, f27, f28, f29, f30, f31, f32, f33, f34, f35]
              clear f0 f1 f2 f3 f4 f5 f6 f7 f8 f9 f10 f11 f12 f13 f14 f15 f16 f17 f18 f19 f20 f21 f22 f23 f24 f25 f26 f27 f28 f29 f30 f31 f32 f33 f34 f35
              clear eB0 lB eE0 eE1 eE2 lE
              go_wp2_with fail
              go_roundw
              case rel => exact ⟨k + 1, by omega, by go_num, HZ, hb.trans ((hA0.trans (hbR.mono hA0.size)).mono hz)⟩
              case measure => simp [intOf]; omega
        · replace hQ : ts[k].atom.isEq = false := by simpa using hQ
          have hq61 := Tm.isEq_n61 hQ
          have hSE : Lit.selfEq ts[k] = false := by simp [Lit.selfEq, hQ]
          by_cases hk1 : 0 < k
          · have hk0 : (0 : Int) < k := by omega
            obtain ⟨j, HJ⟩ : ∃ j, Hid (k = j + 1) := ⟨k - 1, by show k = k - 1 + 1; omega⟩
            have hj : j < ts.length := by have := HJ.out; omega
            have hjc : (j : Int) < ts.length := by omega
            have lb0 := lb
            obtain ⟨y, yc, p1, p2, hJ⟩ := HP'.out j hj
            by_cases hVq : Tm.eqb ts[j].atom ts[k].atom = true
            · skip
              have HZ : Hid (Cl.taut ⟨ts⟩ = true) := Cl.taut_yes hlt (Lit.taut_prev HJ.out hlt hVq)
              clear hSE
              have eB0 := bT.c0
              have lB := bT.lt
              have eE0 := bE.c0
              have eE1 := bE.c1
              have eE2 := bE.c2
              have lE := bE.lt
              refine wp_region_B [fun v _ => v = .pointer (some ⟨wr.heap.size, 0, none⟩), fun v _ => v = .bool true, fun v _ => v = .bool true, fun v _ => v = .pointer (some ⟨wr.heap.size, 1, none⟩), fun v _ => v = .agg #[.string ts[k].atom.name, .slice x ts[k].atom.args.length xc], fun v _ => v = .bool false, fun v _ => v = .bool false, fun v _ => v = .bool false, fun v _ => v = undef, fun v _ => v = undef, fun v _ => v = undef, fun v _ => v = undef, fun v _ => v = undef, fun v _ => v = undef, fun v _ => v = undef, fun v _ => v = undef, fun v _ => v = undef, fun v _ => v = undef, fun v _ => v = undef, fun v _ => v = .bool false, fun v _ => v = .bool false, fun v _ => v = .int .i64 k, fun v _ => v = .bool true, fun v _ => v = .bool true, fun v _ => v = .pointer (some ⟨w.heap.size, 0, none⟩), fun v _ => v = .slice (some ⟨b, off, none⟩) ts.length cap, fun v _ => v = .int .i64 k, fun v _ => v = .int .i64 j, fun v _ => v = .pointer (some ⟨b, off + j * 3, none⟩), fun v _ => v = .pointer (some ⟨b, off + j * 3 + 1, none⟩), fun v _ => v = .agg #[.string ts[j].atom.name, .slice y ts[j].atom.args.length yc], fun v _ => v = .pointer (some ⟨wr.heap.size, 1, none⟩), fun v _ => v = .agg #[.string ts[k].atom.name, .slice x ts[k].atom.args.length xc], fun v _ => v = .bool true, fun v _ => v = .bool true, fun v _ => v = .bool true] _ (fun V => by simp [putAll, Act.put]; rfl) (by kernel_rfl) (by decide) (by simp) (by kernel_rfl) ?_ ?_ ?_
              · intro F hF
                simp only [List.mem_cons, List.not_mem_nil, or_false] at hF
                rcases hF with rfl | rfl | rfl | rfl | rfl | rfl | rfl | rfl | rfl | rfl | rfl | rfl | rfl | rfl | rfl | rfl | rfl | rfl | rfl | rfl | rfl | rfl | rfl | rfl | rfl | rfl | rfl | rfl | rfl | rfl | rfl | rfl | rfl | rfl | rfl | rfl
                · exact stable_eq
                · exact stable_eq
                · exact stable_eq
                · exact stable_eq
                · exact stable_eq
                · exact stable_eq
                · exact stable_eq
                · exact stable_eq
                · exact stable_eq
                · exact stable_eq
                · exact stable_eq
                · exact stable_eq
                · exact stable_eq
                · exact stable_eq
                · exact stable_eq
                · exact stable_eq
                · exact stable_eq
                · exact stable_eq
                · exact stable_eq
                · exact stable_eq
                · exact stable_eq
                · exact stable_eq
                · exact stable_eq
                · exact stable_eq
                · exact stable_eq
                · exact stable_eq
                · exact stable_eq
                · exact stable_eq
                · exact stable_eq
                · exact stable_eq
                · exact stable_eq
                · exact stable_eq
                · exact stable_eq
                · exact stable_eq
                · exact stable_eq
                · exact stable_eq
              · refine ⟨?_, ?_, ?_, ?_, ?_, ?_, ?_, ?_, ?_, ?_, ?_, ?_, ?_, ?_, ?_, ?_, ?_, ?_, ?_, ?_, ?_, ?_, ?_, ?_, ?_, ?_, ?_, ?_, ?_, ?_, ?_, ?_, ?_, ?_, ?_, ?_, trivial⟩
                · intro V w1 hbR _
                  unfold Does
                  go_simp
                  exact ⟨Below.refl _ _, rfl⟩
                · intro V w1 hbR ⟨f0, _⟩
                  replace f0 : V 0 = .pointer (some ⟨wr.heap.size, 0, none⟩) := f0
                  obtain ⟨hc, hf⟩ := bcell hbR
                  try simp only [World.size_alloc, World.size_setCell] at hc hf
                  unfold Does
                  go_simp
                  exact ⟨Below.refl _ _, rfl⟩
                · intro V w1 hbR ⟨f1, _⟩
                  replace f1 : V 1 = .bool true := f1
                  unfold Does
                  go_simp
                  exact ⟨Below.refl _ _, rfl⟩
                · intro V w1 hbR ⟨f2, _⟩
                  replace f2 : V 2 = .bool true := f2
                  refine .inl ⟨_, f2, fun hg => ?_, fun hg => ?_⟩
                  · unfold Does
                    go_simp
                    exact ⟨Below.refl _ _, rfl⟩
                  · exact absurd rfl hg
                · intro V w1 hbR ⟨f3, f2, _⟩
                  replace f2 : V 2 = .bool true := f2
                  replace f3 : V 3 = .pointer (some ⟨wr.heap.size, 1, none⟩) := f3
                  refine .inl ⟨_, f2, fun hg => ?_, fun hg => ?_⟩
                  · obtain ⟨hc, hf⟩ := bcell hbR
                    try simp only [World.size_alloc, World.size_setCell] at hc hf
                    unfold Does
                    go_simp
                    exact ⟨Below.refl _ _, rfl⟩
                  · exact absurd rfl hg
                · intro V w1 hbR ⟨f4, f2, _, _⟩
                  replace f2 : V 2 = .bool true := f2
                  replace f4 : V 4 = .agg #[.string ts[k].atom.name, .slice x ts[k].atom.args.length xc] := f4
                  refine .inl ⟨_, f2, fun hg => ?_, fun hg => ?_⟩
                  · obtain ⟨hc, hf⟩ := bcell hbR
                    try simp only [World.size_alloc, World.size_setCell] at hc hf
                    unfold Does
                    go_simp
                    have hq := isEquality_any ts[k].atom (Tm.at_keep (Keeps.all hbR) (Lit.at_atom hE)) hbm; rw [hQ] at hq; exact hq
                  · exact absurd rfl hg
                · intro V w1 hbR ⟨f2, f5, _⟩
                  replace f2 : V 2 = .bool true := f2
                  replace f5 : V 5 = .bool false := f5
                  unfold Does
                  go_simp
                  exact ⟨Below.refl _ _, rfl⟩
                · intro V w1 hbR ⟨f6, f5, _⟩
                  replace f5 : V 5 = .bool false := f5
                  replace f6 : V 6 = .bool false := f6
                  unfold Does
                  go_simp
                  exact ⟨Below.refl _ _, rfl⟩
                · intro V w1 hbR ⟨f7, _⟩
                  replace f7 : V 7 = .bool false := f7
                  refine .inl ⟨_, f7, fun hg => ?_, fun hg => ?_⟩
                  · exact absurd hg (by decide)
                  · rfl
                · intro V w1 hbR ⟨f8, f7, _⟩
                  replace f7 : V 7 = .bool false := f7
                  replace f8 : V 8 = undef := f8
                  refine .inl ⟨_, f7, fun hg => ?_, fun hg => ?_⟩
                  · exact absurd hg (by decide)
                  · rfl
                · intro V w1 hbR ⟨f9, f7, _⟩
                  replace f7 : V 7 = .bool false := f7
                  replace f9 : V 9 = undef := f9
                  refine .inl ⟨_, f7, fun hg => ?_, fun hg => ?_⟩
                  · exact absurd hg (by decide)
                  · rfl
                · intro V w1 hbR ⟨f10, f7, _⟩
                  replace f7 : V 7 = .bool false := f7
                  replace f10 : V 10 = undef := f10
                  refine .inl ⟨_, f7, fun hg => ?_, fun hg => ?_⟩
                  · exact absurd hg (by decide)
                  · rfl
                · intro V w1 hbR ⟨f11, f7, _⟩
                  replace f7 : V 7 = .bool false := f7
                  replace f11 : V 11 = undef := f11
                  refine .inl ⟨_, f7, fun hg => ?_, fun hg => ?_⟩
                  · exact absurd hg (by decide)
                  · rfl
                · intro V w1 hbR ⟨f7, _⟩
                  replace f7 : V 7 = .bool false := f7
                  refine .inl ⟨_, f7, fun hg => ?_, fun hg => ?_⟩
                  · exact absurd hg (by decide)
                  · rfl
                · intro V w1 hbR ⟨f13, f7, _⟩
                  replace f7 : V 7 = .bool false := f7
                  replace f13 : V 13 = undef := f13
                  refine .inl ⟨_, f7, fun hg => ?_, fun hg => ?_⟩
                  · exact absurd hg (by decide)
                  · rfl
                · intro V w1 hbR ⟨f14, f7, _⟩
                  replace f7 : V 7 = .bool false := f7
                  replace f14 : V 14 = undef := f14
                  refine .inl ⟨_, f7, fun hg => ?_, fun hg => ?_⟩
                  · exact absurd hg (by decide)
                  · rfl
                · intro V w1 hbR ⟨f15, f7, _⟩
                  replace f7 : V 7 = .bool false := f7
                  replace f15 : V 15 = undef := f15
                  refine .inl ⟨_, f7, fun hg => ?_, fun hg => ?_⟩
                  · exact absurd hg (by decide)
                  · rfl
                · intro V w1 hbR ⟨f16, f7, _⟩
                  replace f7 : V 7 = .bool false := f7
                  replace f16 : V 16 = undef := f16
                  refine .inl ⟨_, f7, fun hg => ?_, fun hg => ?_⟩
                  · exact absurd hg (by decide)
                  · rfl
                · intro V w1 hbR ⟨f12, f17, f7, _, _⟩
                  replace f7 : V 7 = .bool false := f7
                  replace f12 : V 12 = undef := f12
                  replace f17 : V 17 = undef := f17
                  refine .inl ⟨_, f7, fun hg => ?_, fun hg => ?_⟩
                  · exact absurd hg (by decide)
                  · rfl
                · intro V w1 hbR ⟨f7, f18, _⟩
                  replace f7 : V 7 = .bool false := f7
                  replace f18 : V 18 = undef := f18
                  unfold Does
                  go_simp
                  exact ⟨Below.refl _ _, rfl⟩
                · intro V w1 hbR ⟨f19, f18, _⟩
                  replace f18 : V 18 = undef := f18
                  replace f19 : V 19 = .bool false := f19
                  unfold Does
                  go_simp
                  exact ⟨Below.refl _ _, rfl⟩
                · intro V w1 hbR ⟨f20, _⟩
                  replace f20 : V 20 = .bool false := f20
                  refine .inl ⟨_, f20, fun hg => ?_, fun hg => ?_⟩
                  · unfold Does
                    go_simp
                    exact ⟨Below.refl _ _, rfl⟩
                  · exact absurd rfl hg
                · intro V w1 hbR ⟨f21, f20, _⟩
                  replace f20 : V 20 = .bool false := f20
                  replace f21 : V 21 = .int .i64 k := f21
                  refine .inl ⟨_, f20, fun hg => ?_, fun hg => ?_⟩
                  · unfold Does
                    go_simp
                    exact ⟨Below.refl _ _, rfl⟩
                  · exact absurd rfl hg
                · intro V w1 hbR ⟨f22, f20, _, _⟩
                  replace f20 : V 20 = .bool false := f20
                  replace f22 : V 22 = .bool true := f22
                  refine .inl ⟨_, f20, fun hg => ?_, fun hg => ?_⟩
                  · unfold Does
                    go_simp
                    exact ⟨Below.refl _ _, rfl⟩
                  · exact absurd rfl hg
                · intro V w1 hbR ⟨f23, _⟩
                  replace f23 : V 23 = .bool true := f23
                  refine .inl ⟨_, f23, fun hg => ?_, fun hg => ?_⟩
                  · unfold Does
                    go_simp
                    exact ⟨Below.refl _ _, rfl⟩
                  · exact absurd rfl hg
                · intro V w1 hbR ⟨f24, f23, _⟩
                  replace f23 : V 23 = .bool true := f23
                  replace f24 : V 24 = .pointer (some ⟨w.heap.size, 0, none⟩) := f24
                  refine .inl ⟨_, f23, fun hg => ?_, fun hg => ?_⟩
                  · obtain ⟨hc, hf⟩ := bcell hbR
                    try simp only [World.size_alloc, World.size_setCell] at hc hf
                    unfold Does
                    go_simp
                    exact ⟨Below.refl _ _, rfl⟩
                  · exact absurd rfl hg
                · intro V w1 hbR ⟨f23, _⟩
                  replace f23 : V 23 = .bool true := f23
                  refine .inl ⟨_, f23, fun hg => ?_, fun hg => ?_⟩
                  · unfold Does
                    go_simp
                    exact ⟨Below.refl _ _, rfl⟩
                  · exact absurd rfl hg
                · intro V w1 hbR ⟨f26, f23, _⟩
                  replace f23 : V 23 = .bool true := f23
                  replace f26 : V 26 = .int .i64 k := f26
                  refine .inl ⟨_, f23, fun hg => ?_, fun hg => ?_⟩
                  · unfold Does
                    go_simp
                    exact ⟨Below.refl _ _, by congr 1; rw [IntKind.wrap_i64]; have := HJ.out; omega⟩
                  · exact absurd rfl hg
                · intro V w1 hbR ⟨f25, f27, f23, _⟩
                  replace f23 : V 23 = .bool true := f23
                  replace f25 : V 25 = .slice (some ⟨b, off, none⟩) ts.length cap := f25
                  replace f27 : V 27 = .int .i64 j := f27
                  refine .inl ⟨_, f23, fun hg => ?_, fun hg => ?_⟩
                  · unfold Does
                    go_simp
                    exact ⟨Below.refl _ _, rfl⟩
                  · exact absurd rfl hg
                · intro V w1 hbR ⟨f28, f23, _⟩
                  replace f23 : V 23 = .bool true := f23
                  replace f28 : V 28 = .pointer (some ⟨b, off + j * 3, none⟩) := f28
                  refine .inl ⟨_, f23, fun hg => ?_, fun hg => ?_⟩
                  · unfold Does
                    go_simp
                    exact ⟨Below.refl _ _, rfl⟩
                  · exact absurd rfl hg
                · intro V w1 hbR ⟨f29, f23, _⟩
                  replace f23 : V 23 = .bool true := f23
                  replace f29 : V 29 = .pointer (some ⟨b, off + j * 3 + 1, none⟩) := f29
                  refine .inl ⟨_, f23, fun hg => ?_, fun hg => ?_⟩
                  · obtain ⟨hc, hf⟩ := bcell hbR
                    try simp only [World.size_alloc, World.size_setCell] at hc hf
                    unfold Does
                    go_simp
                    exact ⟨Below.refl _ _, rfl⟩
                  · exact absurd rfl hg
                · intro V w1 hbR ⟨f23, _⟩
                  replace f23 : V 23 = .bool true := f23
                  refine .inl ⟨_, f23, fun hg => ?_, fun hg => ?_⟩
                  · unfold Does
                    go_simp
                    exact ⟨Below.refl _ _, rfl⟩
                  · exact absurd rfl hg
                · intro V w1 hbR ⟨f31, f23, _⟩
                  replace f23 : V 23 = .bool true := f23
                  replace f31 : V 31 = .pointer (some ⟨wr.heap.size, 1, none⟩) := f31
                  refine .inl ⟨_, f23, fun hg => ?_, fun hg => ?_⟩
                  · obtain ⟨hc, hf⟩ := bcell hbR
                    try simp only [World.size_alloc, World.size_setCell] at hc hf
                    unfold Does
                    go_simp
                    exact ⟨Below.refl _ _, rfl⟩
                  · exact absurd rfl hg
                · intro V w1 hbR ⟨f30, f32, f23, _, _⟩
                  replace f23 : V 23 = .bool true := f23
                  replace f30 : V 30 = .agg #[.string ts[j].atom.name, .slice y ts[j].atom.args.length yc] := f30
                  replace f32 : V 32 = .agg #[.string ts[k].atom.name, .slice x ts[k].atom.args.length xc] := f32
                  refine .inl ⟨_, f23, fun hg => ?_, fun hg => ?_⟩
                  · obtain ⟨hc, hf⟩ := bcell hbR
                    try simp only [World.size_alloc, World.size_setCell] at hc hf
                    unfold Does
                    go_simp
                    refine (equalTerms_any _ _ S _ _ _ _ _ (Tm.at_keep (Keeps.all hbR) hJ) (Tm.at_keep (Keeps.all hbR) (Lit.at_atom hE))).mono ?_; rintro e w5 ⟨rfl, hb5⟩; exact ⟨_, rfl, hb5, by rw [hVq]⟩
                  · exact absurd rfl hg
                · intro V w1 hbR ⟨f23, f33, f20, _⟩
                  replace f20 : V 20 = .bool false := f20
                  replace f23 : V 23 = .bool true := f23
                  replace f33 : V 33 = .bool true := f33
                  refine .inl ⟨_, f20, fun hg => ?_, fun hg => ?_⟩
                  · unfold Does
                    go_simp
                    exact ⟨Below.refl _ _, rfl⟩
                  · exact absurd rfl hg
                · intro V w1 hbR ⟨f20, f34, _⟩
                  replace f20 : V 20 = .bool false := f20
                  replace f34 : V 34 = .bool true := f34
                  unfold Does
                  go_simp
                  exact ⟨Below.refl _ _, rfl⟩
              intro V w3 hbR hfR
              obtain ⟨f0, f1, f2, f3, f4, f5, f6, f7, f8, f9, f10, f11, f12, f13, f14, f15, f16, f17, f18, f19, f20, f21, f22, f23, f24, f25, f26, f27, f28, f29, f30, f31, f32, f33, f34, f35, _⟩ := hfR
              replace f0 : V 0 = .pointer (some ⟨wr.heap.size, 0, none⟩) := f0
              replace f1 : V 1 = .bool true := f1
              replace f2 : V 2 = .bool true := f2
              replace f3 : V 3 = .pointer (some ⟨wr.heap.size, 1, none⟩) := f3
              replace f4 : V 4 = .agg #[.string ts[k].atom.name, .slice x ts[k].atom.args.length xc] := f4
              replace f5 : V 5 = .bool false := f5
              replace f6 : V 6 = .bool false := f6
              replace f7 : V 7 = .bool false := f7
              replace f8 : V 8 = undef := f8
              replace f9 : V 9 = undef := f9
              replace f10 : V 10 = undef := f10
              replace f11 : V 11 = undef := f11
              replace f12 : V 12 = undef := f12
              replace f13 : V 13 = undef := f13
              replace f14 : V 14 = undef := f14
              replace f15 : V 15 = undef := f15
              replace f16 : V 16 = undef := f16
              replace f17 : V 17 = undef := f17
              replace f18 : V 18 = undef := f18
              replace f19 : V 19 = .bool false := f19
              replace f20 : V 20 = .bool false := f20
              replace f21 : V 21 = .int .i64 k := f21
              replace f22 : V 22 = .bool true := f22
              replace f23 : V 23 = .bool true := f23
              replace f24 : V 24 = .pointer (some ⟨w.heap.size, 0, none⟩) := f24
              replace f25 : V 25 = .slice (some ⟨b, off, none⟩) ts.length cap := f25
              replace f26 : V 26 = .int .i64 k := f26
              replace f27 : V 27 = .int .i64 j := f27
              replace f28 : V 28 = .pointer (some ⟨b, off + j * 3, none⟩) := f28
              replace f29 : V 29 = .pointer (some ⟨b, off + j * 3 + 1, none⟩) := f29
              replace f30 : V 30 = .agg #[.string ts[j].atom.name, .slice y ts[j].atom.args.length yc] := f30
              replace f31 : V 31 = .pointer (some ⟨wr.heap.size, 1, none⟩) := f31
              replace f32 : V 32 = .agg #[.string ts[k].atom.name, .slice x ts[k].atom.args.length xc] := f32
              replace f33 : V 33 = .bool true := f33
              replace f34 : V 34 = .bool true := f34
              replace f35 : V 35 = .bool true := f35
              simp only [f0, f1, f2, f3, f4, f5, f6, f7, f8, f9, f10, f11, f12, f13, f14, f15, f16, f17, f18, f19, f20, f21, f22, f23, f24, f25, f26, f27, f28, f29, f30, f31, f32, f33, f34, f35]
              clear f0 f1 f2 f3 f4 f5 f6 f7 f8 f9 f10 f11 f12 f13 f14 f15 f16 f17 f18 f19 f20 f21 f22 f23 f24 f25 f26 f27 f28 f29 f30 f31 f32 f33 f34 f35
              clear eB0 lB eE0 eE1 eE2 lE
              go_wp2_with fail
              go_ret
              exact Gives.mk (by rw [HZ.out]; rfl) (hW.trans (hbR.mono hW.size))
            · replace hVq : Tm.eqb ts[j].atom ts[k].atom = false := by simpa using hVq
              have HZ : Hid (∀ i, i < k + 1 → Lit.tautAt ts i = false) := fun i hi => if h : i < k then HX.out i h else by
                obtain rfl : i = k := by omega
                exact Lit.taut_no HJ.out hlt hSE hVq
              clear hSE
              have eB0 := bT.c0
              have lB := bT.lt
              have eE0 := bE.c0
              have eE1 := bE.c1
              have eE2 := bE.c2
              have lE := bE.lt
              refine wp_region_B [fun v _ => v = .pointer (some ⟨wr.heap.size, 0, none⟩), fun v _ => v = .bool true, fun v _ => v = .bool true, fun v _ => v = .pointer (some ⟨wr.heap.size, 1, none⟩), fun v _ => v = .agg #[.string ts[k].atom.name, .slice x ts[k].atom.args.length xc], fun v _ => v = .bool false, fun v _ => v = .bool false, fun v _ => v = .bool false, fun v _ => v = undef, fun v _ => v = undef, fun v _ => v = undef, fun v _ => v = undef, fun v _ => v = undef, fun v _ => v = undef, fun v _ => v = undef, fun v _ => v = undef, fun v _ => v = undef, fun v _ => v = undef, fun v _ => v = undef, fun v _ => v = .bool false, fun v _ => v = .bool false, fun v _ => v = .int .i64 k, fun v _ => v = .bool true, fun v _ => v = .bool true, fun v _ => v = .pointer (some ⟨w.heap.size, 0, none⟩), fun v _ => v = .slice (some ⟨b, off, none⟩) ts.length cap, fun v _ => v = .int .i64 k, fun v _ => v = .int .i64 j, fun v _ => v = .pointer (some ⟨b, off + j * 3, none⟩), fun v _ => v = .pointer (some ⟨b, off + j * 3 + 1, none⟩), fun v _ => v = .agg #[.string ts[j].atom.name, .slice y ts[j].atom.args.length yc], fun v _ => v = .pointer (some ⟨wr.heap.size, 1, none⟩), fun v _ => v = .agg #[.string ts[k].atom.name, .slice x ts[k].atom.args.length xc], fun v _ => v = .bool false, fun v _ => v = .bool false, fun v _ => v = .bool false] _ (fun V => by simp [putAll, Act.put]; rfl) (by kernel_rfl) (by decide) (by simp) (by kernel_rfl) ?_ ?_ ?_
              · intro F hF
                simp only [List.mem_cons, List.not_mem_nil, or_false] at hF
                rcases hF with rfl | rfl | rfl | rfl | rfl | rfl | rfl | rfl | rfl | rfl | rfl | rfl | rfl | rfl | rfl | rfl | rfl | rfl | rfl | rfl | rfl | rfl | rfl | rfl | rfl | rfl | rfl | rfl | rfl | rfl | rfl | rfl | rfl | rfl | rfl | rfl
                · exact stable_eq
                · exact stable_eq
                · exact stable_eq
                · exact stable_eq
                · exact stable_eq
                · exact stable_eq
                · exact stable_eq
                · exact stable_eq
                · exact stable_eq
                · exact stable_eq
                · exact stable_eq
                · exact stable_eq
                · exact stable_eq
                · exact stable_eq
                · exact stable_eq
                · exact stable_eq
                · exact stable_eq
                · exact stable_eq
                · exact stable_eq
                · exact stable_eq
                · exact stable_eq
                · exact stable_eq
                · exact stable_eq
                · exact stable_eq
                · exact stable_eq
                · exact stable_eq
                · exact stable_eq
                · exact stable_eq
                · exact stable_eq
                · exact stable_eq
                · exact stable_eq
                · exact stable_eq
                · exact stable_eq
                · exact stable_eq
                · exact stable_eq
                · exact stable_eq
              · refine ⟨?_, ?_, ?_, ?_, ?_, ?_, ?_, ?_, ?_, ?_, ?_, ?_, ?_, ?_, ?_, ?_, ?_, ?_, ?_, ?_, ?_, ?_, ?_, ?_, ?_, ?_, ?_, ?_, ?_, ?_, ?_, ?_, ?_, ?_, ?_, ?_, trivial⟩
                · intro V w1 hbR _
                  unfold Does
                  go_simp
                  exact ⟨Below.refl _ _, rfl⟩
                · intro V w1 hbR ⟨f0, _⟩
                  replace f0 : V 0 = .pointer (some ⟨wr.heap.size, 0, none⟩) := f0
                  obtain ⟨hc, hf⟩ := bcell hbR
                  try simp only [World.size_alloc, World.size_setCell] at hc hf
                  unfold Does
                  go_simp
                  exact ⟨Below.refl _ _, rfl⟩
                · intro V w1 hbR ⟨f1, _⟩
                  replace f1 : V 1 = .bool true := f1
                  unfold Does
                  go_simp
                  exact ⟨Below.refl _ _, rfl⟩
                · intro V w1 hbR ⟨f2, _⟩
                  replace f2 : V 2 = .bool true := f2
                  refine .inl ⟨_, f2, fun hg => ?_, fun hg => ?_⟩
                  · unfold Does
                    go_simp
                    exact ⟨Below.refl _ _, rfl⟩
                  · exact absurd rfl hg
                · intro V w1 hbR ⟨f3, f2, _⟩
                  replace f2 : V 2 = .bool true := f2
                  replace f3 : V 3 = .pointer (some ⟨wr.heap.size, 1, none⟩) := f3
                  refine .inl ⟨_, f2, fun hg => ?_, fun hg => ?_⟩
                  · obtain ⟨hc, hf⟩ := bcell hbR
                    try simp only [World.size_alloc, World.size_setCell] at hc hf
                    unfold Does
                    go_simp
                    exact ⟨Below.refl _ _, rfl⟩
                  · exact absurd rfl hg
                · intro V w1 hbR ⟨f4, f2, _, _⟩
                  replace f2 : V 2 = .bool true := f2
                  replace f4 : V 4 = .agg #[.string ts[k].atom.name, .slice x ts[k].atom.args.length xc] := f4
                  refine .inl ⟨_, f2, fun hg => ?_, fun hg => ?_⟩
                  · obtain ⟨hc, hf⟩ := bcell hbR
                    try simp only [World.size_alloc, World.size_setCell] at hc hf
                    unfold Does
                    go_simp
                    have hq := isEquality_any ts[k].atom (Tm.at_keep (Keeps.all hbR) (Lit.at_atom hE)) hbm; rw [hQ] at hq; exact hq
                  · exact absurd rfl hg
                · intro V w1 hbR ⟨f2, f5, _⟩
                  replace f2 : V 2 = .bool true := f2
                  replace f5 : V 5 = .bool false := f5
                  unfold Does
                  go_simp
                  exact ⟨Below.refl _ _, rfl⟩
                · intro V w1 hbR ⟨f6, f5, _⟩
                  replace f5 : V 5 = .bool false := f5
                  replace f6 : V 6 = .bool false := f6
                  unfold Does
                  go_simp
                  exact ⟨Below.refl _ _, rfl⟩
                · intro V w1 hbR ⟨f7, _⟩
                  replace f7 : V 7 = .bool false := f7
                  refine .inl ⟨_, f7, fun hg => ?_, fun hg => ?_⟩
                  · exact absurd hg (by decide)
                  · rfl
                · intro V w1 hbR ⟨f8, f7, _⟩
                  replace f7 : V 7 = .bool false := f7
                  replace f8 : V 8 = undef := f8
                  refine .inl ⟨_, f7, fun hg => ?_, fun hg => ?_⟩
                  · exact absurd hg (by decide)
                  · rfl
                · intro V w1 hbR ⟨f9, f7, _⟩
                  replace f7 : V 7 = .bool false := f7
                  replace f9 : V 9 = undef := f9
                  refine .inl ⟨_, f7, fun hg => ?_, fun hg => ?_⟩
                  · exact absurd hg (by decide)
                  · rfl
                · intro V w1 hbR ⟨f10, f7, _⟩
                  replace f7 : V 7 = .bool false := f7
                  replace f10 : V 10 = undef := f10
                  refine .inl ⟨_, f7, fun hg => ?_, fun hg => ?_⟩
                  · exact absurd hg (by decide)
                  · rfl
                · intro V w1 hbR ⟨f11, f7, _⟩
                  replace f7 : V 7 = .bool false := f7
                  replace f11 : V 11 = undef := f11
                  refine .inl ⟨_, f7, fun hg => ?_, fun hg => ?_⟩
                  · exact absurd hg (by decide)
                  · rfl
                · intro V w1 hbR ⟨f7, _⟩
                  replace f7 : V 7 = .bool false := f7
                  refine .inl ⟨_, f7, fun hg => ?_, fun hg => ?_⟩
                  · exact absurd hg (by decide)
                  · rfl
                · intro V w1 hbR ⟨f13, f7, _⟩
                  replace f7 : V 7 = .bool false := f7
                  replace f13 : V 13 = undef := f13
                  refine .inl ⟨_, f7, fun hg => ?_, fun hg => ?_⟩
                  · exact absurd hg (by decide)
                  · rfl
                · intro V w1 hbR ⟨f14, f7, _⟩
                  replace f7 : V 7 = .bool false := f7
                  replace f14 : V 14 = undef := f14
                  refine .inl ⟨_, f7, fun hg => ?_, fun hg => ?_⟩
                  · exact absurd hg (by decide)
                  · rfl
                · intro V w1 hbR ⟨f15, f7, _⟩
                  replace f7 : V 7 = .bool false := f7
                  replace f15 : V 15 = undef := f15
                  refine .inl ⟨_, f7, fun hg => ?_, fun hg => ?_⟩
                  · exact absurd hg (by decide)
                  · rfl
                · intro V w1 hbR ⟨f16, f7, _⟩
                  replace f7 : V 7 = .bool false := f7
                  replace f16 : V 16 = undef := f16
                  refine .inl ⟨_, f7, fun hg => ?_, fun hg => ?_⟩
                  · exact absurd hg (by decide)
                  · rfl
                · intro V w1 hbR ⟨f12, f17, f7, _, _⟩
                  replace f7 : V 7 = .bool false := f7
                  replace f12 : V 12 = undef := f12
                  replace f17 : V 17 = undef := f17
                  refine .inl ⟨_, f7, fun hg => ?_, fun hg => ?_⟩
                  · exact absurd hg (by decide)
                  · rfl
                · intro V w1 hbR ⟨f7, f18, _⟩
                  replace f7 : V 7 = .bool false := f7
                  replace f18 : V 18 = undef := f18
                  unfold Does
                  go_simp
                  exact ⟨Below.refl _ _, rfl⟩
                · intro V w1 hbR ⟨f19, f18, _⟩
                  replace f18 : V 18 = undef := f18
                  replace f19 : V 19 = .bool false := f19
                  unfold Does
                  go_simp
                  exact ⟨Below.refl _ _, rfl⟩
                · intro V w1 hbR ⟨f20, _⟩
                  replace f20 : V 20 = .bool false := f20
                  refine .inl ⟨_, f20, fun hg => ?_, fun hg => ?_⟩
                  · unfold Does
                    go_simp
                    exact ⟨Below.refl _ _, rfl⟩
                  · exact absurd rfl hg
                · intro V w1 hbR ⟨f21, f20, _⟩
                  replace f20 : V 20 = .bool false := f20
                  replace f21 : V 21 = .int .i64 k := f21
                  refine .inl ⟨_, f20, fun hg => ?_, fun hg => ?_⟩
                  · unfold Does
                    go_simp
                    exact ⟨Below.refl _ _, rfl⟩
                  · exact absurd rfl hg
                · intro V w1 hbR ⟨f22, f20, _, _⟩
                  replace f20 : V 20 = .bool false := f20
                  replace f22 : V 22 = .bool true := f22
                  refine .inl ⟨_, f20, fun hg => ?_, fun hg => ?_⟩
                  · unfold Does
                    go_simp
                    exact ⟨Below.refl _ _, rfl⟩
                  · exact absurd rfl hg
                · intro V w1 hbR ⟨f23, _⟩
                  replace f23 : V 23 = .bool true := f23
                  refine .inl ⟨_, f23, fun hg => ?_, fun hg => ?_⟩
                  · unfold Does
                    go_simp
                    exact ⟨Below.refl _ _, rfl⟩
                  · exact absurd rfl hg
                · intro V w1 hbR ⟨f24, f23, _⟩
                  replace f23 : V 23 = .bool true := f23
                  replace f24 : V 24 = .pointer (some ⟨w.heap.size, 0, none⟩) := f24
                  refine .inl ⟨_, f23, fun hg => ?_, fun hg => ?_⟩
                  · obtain ⟨hc, hf⟩ := bcell hbR
                    try simp only [World.size_alloc, World.size_setCell] at hc hf
                    unfold Does
                    go_simp
                    exact ⟨Below.refl _ _, rfl⟩
                  · exact absurd rfl hg
                · intro V w1 hbR ⟨f23, _⟩
                  replace f23 : V 23 = .bool true := f23
                  refine .inl ⟨_, f23, fun hg => ?_, fun hg => ?_⟩
                  · unfold Does
                    go_simp
                    exact ⟨Below.refl _ _, rfl⟩
                  · exact absurd rfl hg
                · intro V w1 hbR ⟨f26, f23, _⟩
                  replace f23 : V 23 = .bool true := f23
                  replace f26 : V 26 = .int .i64 k := f26
                  refine .inl ⟨_, f23, fun hg => ?_, fun hg => ?_⟩
                  · unfold Does
                    go_simp
                    exact ⟨Below.refl _ _, by congr 1; rw [IntKind.wrap_i64]; have := HJ.out; omega⟩
                  · exact absurd rfl hg
                · intro V w1 hbR ⟨f25, f27, f23, _⟩
                  replace f23 : V 23 = .bool true := f23
                  replace f25 : V 25 = .slice (some ⟨b, off, none⟩) ts.length cap := f25
                  replace f27 : V 27 = .int .i64 j := f27
                  refine .inl ⟨_, f23, fun hg => ?_, fun hg => ?_⟩
                  · unfold Does
                    go_simp
                    exact ⟨Below.refl _ _, rfl⟩
                  · exact absurd rfl hg
                · intro V w1 hbR ⟨f28, f23, _⟩
                  replace f23 : V 23 = .bool true := f23
                  replace f28 : V 28 = .pointer (some ⟨b, off + j * 3, none⟩) := f28
                  refine .inl ⟨_, f23, fun hg => ?_, fun hg => ?_⟩
                  · unfold Does
                    go_simp
                    exact ⟨Below.refl _ _, rfl⟩
                  · exact absurd rfl hg
                · intro V w1 hbR ⟨f29, f23, _⟩
                  replace f23 : V 23 = .bool true := f23
                  replace f29 : V 29 = .pointer (some ⟨b, off + j * 3 + 1, none⟩) := f29
                  refine .inl ⟨_, f23, fun hg => ?_, fun hg => ?_⟩
                  · obtain ⟨hc, hf⟩ := bcell hbR
                    try simp only [World.size_alloc, World.size_setCell] at hc hf
                    unfold Does
                    go_simp
                    exact ⟨Below.refl _ _, rfl⟩
                  · exact absurd rfl hg
                · intro V w1 hbR ⟨f23, _⟩
                  replace f23 : V 23 = .bool true := f23
                  refine .inl ⟨_, f23, fun hg => ?_, fun hg => ?_⟩
                  · unfold Does
                    go_simp
                    exact ⟨Below.refl _ _, rfl⟩
                  · exact absurd rfl hg
                · intro V w1 hbR ⟨f31, f23, _⟩
                  replace f23 : V 23 = .bool true := f23
                  replace f31 : V 31 = .pointer (some ⟨wr.heap.size, 1, none⟩) := f31
                  refine .inl ⟨_, f23, fun hg => ?_, fun hg => ?_⟩
                  · obtain ⟨hc, hf⟩ := bcell hbR
                    try simp only [World.size_alloc, World.size_setCell] at hc hf
                    unfold Does
                    go_simp
                    exact ⟨Below.refl _ _, rfl⟩
                  · exact absurd rfl hg
                · intro V w1 hbR ⟨f30, f32, f23, _, _⟩
                  replace f23 : V 23 = .bool true := f23
                  replace f30 : V 30 = .agg #[.string ts[j].atom.name, .slice y ts[j].atom.args.length yc] := f30
                  replace f32 : V 32 = .agg #[.string ts[k].atom.name, .slice x ts[k].atom.args.length xc] := f32
                  refine .inl ⟨_, f23, fun hg => ?_, fun hg => ?_⟩
                  · obtain ⟨hc, hf⟩ := bcell hbR
                    try simp only [World.size_alloc, World.size_setCell] at hc hf
                    unfold Does
                    go_simp
                    refine (equalTerms_any _ _ S _ _ _ _ _ (Tm.at_keep (Keeps.all hbR) hJ) (Tm.at_keep (Keeps.all hbR) (Lit.at_atom hE))).mono ?_; rintro e w5 ⟨rfl, hb5⟩; exact ⟨_, rfl, hb5, by rw [hVq]⟩
                  · exact absurd rfl hg
                · intro V w1 hbR ⟨f23, f33, f20, _⟩
                  replace f20 : V 20 = .bool false := f20
                  replace f23 : V 23 = .bool true := f23
                  replace f33 : V 33 = .bool false := f33
                  refine .inl ⟨_, f20, fun hg => ?_, fun hg => ?_⟩
                  · unfold Does
                    go_simp
                    exact ⟨Below.refl _ _, rfl⟩
                  · exact absurd rfl hg
                · intro V w1 hbR ⟨f20, f34, _⟩
                  replace f20 : V 20 = .bool false := f20
                  replace f34 : V 34 = .bool false := f34
                  unfold Does
                  go_simp
                  exact ⟨Below.refl _ _, rfl⟩
              intro V w3 hbR hfR
              obtain ⟨f0, f1, f2, f3, f4, f5, f6, f7, f8, f9, f10, f11, f12, f13, f14, f15, f16, f17, f18, f19, f20, f21, f22, f23, f24, f25, f26, f27, f28, f29, f30, f31, f32, f33, f34, f35, _⟩ := hfR
              replace f0 : V 0 = .pointer (some ⟨wr.heap.size, 0, none⟩) := f0
              replace f1 : V 1 = .bool true := f1
              replace f2 : V 2 = .bool true := f2
              replace f3 : V 3 = .pointer (some ⟨wr.heap.size, 1, none⟩) := f3
              replace f4 : V 4 = .agg #[.string ts[k].atom.name, .slice x ts[k].atom.args.length xc] := f4
              replace f5 : V 5 = .bool false := f5
              replace f6 : V 6 = .bool false := f6
              replace f7 : V 7 = .bool false := f7
              replace f8 : V 8 = undef := f8
              replace f9 : V 9 = undef := f9
              replace f10 : V 10 = undef := f10
              replace f11 : V 11 = undef := f11
              replace f12 : V 12 = undef := f12
              replace f13 : V 13 = undef := f13
              replace f14 : V 14 = undef := f14
              replace f15 : V 15 = undef := f15
              replace f16 : V 16 = undef := f16
              replace f17 : V 17 = undef := f17
              replace f18 : V 18 = undef := f18
              replace f19 : V 19 = .bool false := f19
              replace f20 : V 20 = .bool false := f20
              replace f21 : V 21 = .int .i64 k := f21
              replace f22 : V 22 = .bool true := f22
              replace f23 : V 23 = .bool true := f23
              replace f24 : V 24 = .pointer (some ⟨w.heap.size, 0, none⟩) := f24
              replace f25 : V 25 = .slice (some ⟨b, off, none⟩) ts.length cap := f25
              replace f26 : V 26 = .int .i64 k := f26
              replace f27 : V 27 = .int .i64 j := f27
              replace f28 : V 28 = .pointer (some ⟨b, off + j * 3, none⟩) := f28
              replace f29 : V 29 = .pointer (some ⟨b, off + j * 3 + 1, none⟩) := f29
              replace f30 : V 30 = .agg #[.string ts[j].atom.name, .slice y ts[j].atom.args.length yc] := f30
              replace f31 : V 31 = .pointer (some ⟨wr.heap.size, 1, none⟩) := f31
              replace f32 : V 32 = .agg #[.string ts[k].atom.name, .slice x ts[k].atom.args.length xc] := f32
              replace f33 : V 33 = .bool false := f33
              replace f34 : V 34 = .bool false := f34
              replace f35 : V 35 = .bool false := f35
              simp only [f0, f1, f2, f3, f4, f5, f6, f7, f8, f9, f10, f11, f12, f13, f14, f15, f16, f17, f18, f19, f20, f21, f22, f23, f24, f25, f26, f27, f28, f29, f30, f31, f32, f33, f34, f35]
              clear f0 f1 f2 f3 f4 f5 f6 f7 f8 f9 f10 f11 f12 f13 f14 f15 f16 f17 f18 f19 f20 f21 f22 f23 f24 f25 f26 f27 f28 f29 f30 f31 f32 f33 f34 f35
              clear eB0 lB eE0 eE1 eE2 lE
              go_wp2_with fail
              go_roundw
              case rel => exact ⟨k + 1, by omega, by go_num, HZ, hb.trans ((hA0.trans (hbR.mono hA0.size)).mono hz)⟩
              case measure => simp [intOf]; omega
          · have hk0 : ¬ (0 : Int) < k := by omega
            have HJ : Hid (k = 0) := by show k = 0; omega
            have HZ : Hid (∀ i, i < k + 1 → Lit.tautAt ts i = false) := fun i hi => if h : i < k then HX.out i h else by
              obtain rfl : i = k := by omega
              exact Lit.taut_no0 HJ.out hlt hSE
            clear hSE
            have eB0 := bT.c0
            have lB := bT.lt
            have eE0 := bE.c0
            have eE1 := bE.c1
            have eE2 := bE.c2
            have lE := bE.lt
            refine wp_region_B [fun v _ => v = .pointer (some ⟨wr.heap.size, 0, none⟩), fun v _ => v = .bool true, fun v _ => v = .bool true, fun v _ => v = .pointer (some ⟨wr.heap.size, 1, none⟩), fun v _ => v = .agg #[.string ts[k].atom.name, .slice x ts[k].atom.args.length xc], fun v _ => v = .bool false, fun v _ => v = .bool false, fun v _ => v = .bool false, fun v _ => v = undef, fun v _ => v = undef, fun v _ => v = undef, fun v _ => v = undef, fun v _ => v = undef, fun v _ => v = undef, fun v _ => v = undef, fun v _ => v = undef, fun v _ => v = undef, fun v _ => v = undef, fun v _ => v = undef, fun v _ => v = .bool false, fun v _ => v = .bool false, fun v _ => v = .int .i64 k, fun v _ => v = .bool false, fun v _ => v = .bool false, fun v _ => v = undef, fun v _ => v = undef, fun v _ => v = undef, fun v _ => v = undef, fun v _ => v = undef, fun v _ => v = undef, fun v _ => v = undef, fun v _ => v = undef, fun v _ => v = undef, fun v _ => v = undef, fun v _ => v = .bool false, fun v _ => v = .bool false] _ (fun V => by simp [putAll, Act.put]; rfl) (by kernel_rfl) (by decide) (by simp) (by kernel_rfl) ?_ ?_ ?_
            · intro F hF
              simp only [List.mem_cons, List.not_mem_nil, or_false] at hF
              rcases hF with rfl | rfl | rfl | rfl | rfl | rfl | rfl | rfl | rfl | rfl | rfl | rfl | rfl | rfl | rfl | rfl | rfl | rfl | rfl | rfl | rfl | rfl | rfl | rfl | rfl | rfl | rfl | rfl | rfl | rfl | rfl | rfl | rfl | rfl | rfl | rfl
              · exact stable_eq
              · exact stable_eq
              · exact stable_eq
              · exact stable_eq
              · exact stable_eq
              · exact stable_eq
              · exact stable_eq
              · exact stable_eq
              · exact stable_eq
              · exact stable_eq
              · exact stable_eq
              · exact stable_eq
              · exact stable_eq
              · exact stable_eq
              · exact stable_eq
              · exact stable_eq
              · exact stable_eq
              · exact stable_eq
              · exact stable_eq
              · exact stable_eq
              · exact stable_eq
              · exact stable_eq
              · exact stable_eq
              · exact stable_eq
              · exact stable_eq
              · exact stable_eq
              · exact stable_eq
              · exact stable_eq
              · exact stable_eq
              · exact stable_eq
              · exact stable_eq
              · exact stable_eq
              · exact stable_eq
              · exact stable_eq
              · exact stable_eq
              · exact stable_eq
            · refine ⟨?_, ?_, ?_, ?_, ?_, ?_, ?_, ?_, ?_, ?_, ?_, ?_, ?_, ?_, ?_, ?_, ?_, ?_, ?_, ?_, ?_, ?_, ?_, ?_, ?_, ?_, ?_, ?_, ?_, ?_, ?_, ?_, ?_, ?_, ?_, ?_, trivial⟩
              · intro V w1 hbR _
                unfold Does
                go_simp
                exact ⟨Below.refl _ _, rfl⟩
              · intro V w1 hbR ⟨f0, _⟩
                replace f0 : V 0 = .pointer (some ⟨wr.heap.size, 0, none⟩) := f0
                obtain ⟨hc, hf⟩ := bcell hbR
                try simp only [World.size_alloc, World.size_setCell] at hc hf
                unfold Does
                go_simp
                exact ⟨Below.refl _ _, rfl⟩
              · intro V w1 hbR ⟨f1, _⟩
                replace f1 : V 1 = .bool true := f1
                unfold Does
                go_simp
                exact ⟨Below.refl _ _, rfl⟩
              · intro V w1 hbR ⟨f2, _⟩
                replace f2 : V 2 = .bool true := f2
                refine .inl ⟨_, f2, fun hg => ?_, fun hg => ?_⟩
                · unfold Does
                  go_simp
                  exact ⟨Below.refl _ _, rfl⟩
                · exact absurd rfl hg
              · intro V w1 hbR ⟨f3, f2, _⟩
                replace f2 : V 2 = .bool true := f2
                replace f3 : V 3 = .pointer (some ⟨wr.heap.size, 1, none⟩) := f3
                refine .inl ⟨_, f2, fun hg => ?_, fun hg => ?_⟩
                · obtain ⟨hc, hf⟩ := bcell hbR
                  try simp only [World.size_alloc, World.size_setCell] at hc hf
                  unfold Does
                  go_simp
                  exact ⟨Below.refl _ _, rfl⟩
                · exact absurd rfl hg
              · intro V w1 hbR ⟨f4, f2, _, _⟩
                replace f2 : V 2 = .bool true := f2
                replace f4 : V 4 = .agg #[.string ts[k].atom.name, .slice x ts[k].atom.args.length xc] := f4
                refine .inl ⟨_, f2, fun hg => ?_, fun hg => ?_⟩
                · obtain ⟨hc, hf⟩ := bcell hbR
                  try simp only [World.size_alloc, World.size_setCell] at hc hf
                  unfold Does
                  go_simp
                  have hq := isEquality_any ts[k].atom (Tm.at_keep (Keeps.all hbR) (Lit.at_atom hE)) hbm; rw [hQ] at hq; exact hq
                · exact absurd rfl hg
              · intro V w1 hbR ⟨f2, f5, _⟩
                replace f2 : V 2 = .bool true := f2
                replace f5 : V 5 = .bool false := f5
                unfold Does
                go_simp
                exact ⟨Below.refl _ _, rfl⟩
              · intro V w1 hbR ⟨f6, f5, _⟩
                replace f5 : V 5 = .bool false := f5
                replace f6 : V 6 = .bool false := f6
                unfold Does
                go_simp
                exact ⟨Below.refl _ _, rfl⟩
              · intro V w1 hbR ⟨f7, _⟩
                replace f7 : V 7 = .bool false := f7
                refine .inl ⟨_, f7, fun hg => ?_, fun hg => ?_⟩
                · exact absurd hg (by decide)
                · rfl
              · intro V w1 hbR ⟨f8, f7, _⟩
                replace f7 : V 7 = .bool false := f7
                replace f8 : V 8 = undef := f8
                refine .inl ⟨_, f7, fun hg => ?_, fun hg => ?_⟩
                · exact absurd hg (by decide)
                · rfl
              · intro V w1 hbR ⟨f9, f7, _⟩
                replace f7 : V 7 = .bool false := f7
                replace f9 : V 9 = undef := f9
                refine .inl ⟨_, f7, fun hg => ?_, fun hg => ?_⟩
                · exact absurd hg (by decide)
                · rfl
              · intro V w1 hbR ⟨f10, f7, _⟩
                replace f7 : V 7 = .bool false := f7
                replace f10 : V 10 = undef := f10
                refine .inl ⟨_, f7, fun hg => ?_, fun hg => ?_⟩
                · exact absurd hg (by decide)
                · rfl
              · intro V w1 hbR ⟨f11, f7, _⟩
                replace f7 : V 7 = .bool false := f7
                replace f11 : V 11 = undef := f11
                refine .inl ⟨_, f7, fun hg => ?_, fun hg => ?_⟩
                · exact absurd hg (by decide)
                · rfl
              · intro V w1 hbR ⟨f7, _⟩
                replace f7 : V 7 = .bool false := f7
                refine .inl ⟨_, f7, fun hg => ?_, fun hg => ?_⟩
                · exact absurd hg (by decide)
                · rfl
              · intro V w1 hbR ⟨f13, f7, _⟩
                replace f7 : V 7 = .bool false := f7
                replace f13 : V 13 = undef := f13
                refine .inl ⟨_, f7, fun hg => ?_, fun hg => ?_⟩
                · exact absurd hg (by decide)
                · rfl
              · intro V w1 hbR ⟨f14, f7, _⟩
                replace f7 : V 7 = .bool false := f7
                replace f14 : V 14 = undef := f14
                refine .inl ⟨_, f7, fun hg => ?_, fun hg => ?_⟩
                · exact absurd hg (by decide)
                · rfl
              · intro V w1 hbR ⟨f15, f7, _⟩
                replace f7 : V 7 = .bool false := f7
                replace f15 : V 15 = undef := f15
                refine .inl ⟨_, f7, fun hg => ?_, fun hg => ?_⟩
                · exact absurd hg (by decide)
                · rfl
              · intro V w1 hbR ⟨f16, f7, _⟩
                replace f7 : V 7 = .bool false := f7
                replace f16 : V 16 = undef := f16
                refine .inl ⟨_, f7, fun hg => ?_, fun hg => ?_⟩
                · exact absurd hg (by decide)
                · rfl
              · intro V w1 hbR ⟨f12, f17, f7, _, _⟩
                replace f7 : V 7 = .bool false := f7
                replace f12 : V 12 = undef := f12
                replace f17 : V 17 = undef := f17
                refine .inl ⟨_, f7, fun hg => ?_, fun hg => ?_⟩
                · exact absurd hg (by decide)
                · rfl
              · intro V w1 hbR ⟨f7, f18, _⟩
                replace f7 : V 7 = .bool false := f7
                replace f18 : V 18 = undef := f18
                unfold Does
                go_simp
                exact ⟨Below.refl _ _, rfl⟩
              · intro V w1 hbR ⟨f19, f18, _⟩
                replace f18 : V 18 = undef := f18
                replace f19 : V 19 = .bool false := f19
                unfold Does
                go_simp
                exact ⟨Below.refl _ _, rfl⟩
              · intro V w1 hbR ⟨f20, _⟩
                replace f20 : V 20 = .bool false := f20
                refine .inl ⟨_, f20, fun hg => ?_, fun hg => ?_⟩
                · unfold Does
                  go_simp
                  exact ⟨Below.refl _ _, rfl⟩
                · exact absurd rfl hg
              · intro V w1 hbR ⟨f21, f20, _⟩
                replace f20 : V 20 = .bool false := f20
                replace f21 : V 21 = .int .i64 k := f21
                refine .inl ⟨_, f20, fun hg => ?_, fun hg => ?_⟩
                · unfold Does
                  go_simp
                  exact ⟨Below.refl _ _, rfl⟩
                · exact absurd rfl hg
              · intro V w1 hbR ⟨f22, f20, _, _⟩
                replace f20 : V 20 = .bool false := f20
                replace f22 : V 22 = .bool false := f22
                refine .inl ⟨_, f20, fun hg => ?_, fun hg => ?_⟩
                · unfold Does
                  go_simp
                  exact ⟨Below.refl _ _, rfl⟩
                · exact absurd rfl hg
              · intro V w1 hbR ⟨f23, _⟩
                replace f23 : V 23 = .bool false := f23
                refine .inl ⟨_, f23, fun hg => ?_, fun hg => ?_⟩
                · exact absurd hg (by decide)
                · rfl
              · intro V w1 hbR ⟨f24, f23, _⟩
                replace f23 : V 23 = .bool false := f23
                replace f24 : V 24 = undef := f24
                refine .inl ⟨_, f23, fun hg => ?_, fun hg => ?_⟩
                · exact absurd hg (by decide)
                · rfl
              · intro V w1 hbR ⟨f23, _⟩
                replace f23 : V 23 = .bool false := f23
                refine .inl ⟨_, f23, fun hg => ?_, fun hg => ?_⟩
                · exact absurd hg (by decide)
                · rfl
              · intro V w1 hbR ⟨f26, f23, _⟩
                replace f23 : V 23 = .bool false := f23
                replace f26 : V 26 = undef := f26
                refine .inl ⟨_, f23, fun hg => ?_, fun hg => ?_⟩
                · exact absurd hg (by decide)
                · rfl
              · intro V w1 hbR ⟨f25, f27, f23, _⟩
                replace f23 : V 23 = .bool false := f23
                replace f25 : V 25 = undef := f25
                replace f27 : V 27 = undef := f27
                refine .inl ⟨_, f23, fun hg => ?_, fun hg => ?_⟩
                · exact absurd hg (by decide)
                · rfl
              · intro V w1 hbR ⟨f28, f23, _⟩
                replace f23 : V 23 = .bool false := f23
                replace f28 : V 28 = undef := f28
                refine .inl ⟨_, f23, fun hg => ?_, fun hg => ?_⟩
                · exact absurd hg (by decide)
                · rfl
              · intro V w1 hbR ⟨f29, f23, _⟩
                replace f23 : V 23 = .bool false := f23
                replace f29 : V 29 = undef := f29
                refine .inl ⟨_, f23, fun hg => ?_, fun hg => ?_⟩
                · exact absurd hg (by decide)
                · rfl
              · intro V w1 hbR ⟨f23, _⟩
                replace f23 : V 23 = .bool false := f23
                refine .inl ⟨_, f23, fun hg => ?_, fun hg => ?_⟩
                · exact absurd hg (by decide)
                · rfl
              · intro V w1 hbR ⟨f31, f23, _⟩
                replace f23 : V 23 = .bool false := f23
                replace f31 : V 31 = undef := f31
                refine .inl ⟨_, f23, fun hg => ?_, fun hg => ?_⟩
                · exact absurd hg (by decide)
                · rfl
              · intro V w1 hbR ⟨f30, f32, f23, _, _⟩
                replace f23 : V 23 = .bool false := f23
                replace f30 : V 30 = undef := f30
                replace f32 : V 32 = undef := f32
                refine .inl ⟨_, f23, fun hg => ?_, fun hg => ?_⟩
                · exact absurd hg (by decide)
                · rfl
              · intro V w1 hbR ⟨f23, f33, f20, _⟩
                replace f20 : V 20 = .bool false := f20
                replace f23 : V 23 = .bool false := f23
                replace f33 : V 33 = undef := f33
                refine .inl ⟨_, f20, fun hg => ?_, fun hg => ?_⟩
                · unfold Does
                  go_simp
                  exact ⟨Below.refl _ _, rfl⟩
                · exact absurd rfl hg
              · intro V w1 hbR ⟨f20, f34, _⟩
                replace f20 : V 20 = .bool false := f20
                replace f34 : V 34 = .bool false := f34
                unfold Does
                go_simp
                exact ⟨Below.refl _ _, rfl⟩
            intro V w3 hbR hfR
            obtain ⟨f0, f1, f2, f3, f4, f5, f6, f7, f8, f9, f10, f11, f12, f13, f14, f15, f16, f17, f18, f19, f20, f21, f22, f23, f24, f25, f26, f27, f28, f29, f30, f31, f32, f33, f34, f35, _⟩ := hfR
            replace f0 : V 0 = .pointer (some ⟨wr.heap.size, 0, none⟩) := f0
            replace f1 : V 1 = .bool true := f1
            replace f2 : V 2 = .bool true := f2
            replace f3 : V 3 = .pointer (some ⟨wr.heap.size, 1, none⟩) := f3
            replace f4 : V 4 = .agg #[.string ts[k].atom.name, .slice x ts[k].atom.args.length xc] := f4
            replace f5 : V 5 = .bool false := f5
            replace f6 : V 6 = .bool false := f6
            replace f7 : V 7 = .bool false := f7
            replace f8 : V 8 = undef := f8
            replace f9 : V 9 = undef := f9
            replace f10 : V 10 = undef := f10
            replace f11 : V 11 = undef := f11
            replace f12 : V 12 = undef := f12
            replace f13 : V 13 = undef := f13
            replace f14 : V 14 = undef := f14
            replace f15 : V 15 = undef := f15
            replace f16 : V 16 = undef := f16
            replace f17 : V 17 = undef := f17
            replace f18 : V 18 = undef := f18
            replace f19 : V 19 = .bool false := f19
            replace f20 : V 20 = .bool false := f20
            replace f21 : V 21 = .int .i64 k := f21
            replace f22 : V 22 = .bool false := f22
            replace f23 : V 23 = .bool false := f23
            replace f24 : V 24 = undef := f24
            replace f25 : V 25 = undef := f25
            replace f26 : V 26 = undef := f26
            replace f27 : V 27 = undef := f27
            replace f28 : V 28 = undef := f28
            replace f29 : V 29 = undef := f29
            replace f30 : V 30 = undef := f30
            replace f31 : V 31 = undef := f31
            replace f32 : V 32 = undef := f32
            replace f33 : V 33 = undef := f33
            replace f34 : V 34 = .bool false := f34
            replace f35 : V 35 = .bool false := f35
            simp only [f0, f1, f2, f3, f4, f5, f6, f7, f8, f9, f10, f11, f12, f13, f14, f15, f16, f17, f18, f19, f20, f21, f22, f23, f24, f25, f26, f27, f28, f29, f30, f31, f32, f33, f34, f35]
            clear f0 f1 f2 f3 f4 f5 f6 f7 f8 f9 f10 f11 f12 f13 f14 f15 f16 f17 f18 f19 f20 f21 f22 f23 f24 f25 f26 f27 f28 f29 f30 f31 f32 f33 f34 f35
            clear eB0 lB eE0 eE1 eE2 lE
            go_wp2_with fail
            go_roundw
            case rel => exact ⟨k + 1, by omega, by go_num, HZ, hb.trans ((hA0.trans (hbR.mono hA0.size)).mono hz)⟩
            case measure => simp [intOf]; omega
      · replace hP : ts[k].pos = false := by simpa using hP
        have hSE : Lit.selfEq ts[k] = false := by simp [Lit.selfEq, hP]
        by_cases hk1 : 0 < k
        · have hk0 : (0 : Int) < k := by omega
          obtain ⟨j, HJ⟩ : ∃ j, Hid (k = j + 1) := ⟨k - 1, by show k = k - 1 + 1; omega⟩
          have hj : j < ts.length := by have := HJ.out; omega
          have hjc : (j : Int) < ts.length := by omega
          have lb0 := lb
          obtain ⟨y, yc, p1, p2, hJ⟩ := HP'.out j hj
          by_cases hVq : Tm.eqb ts[j].atom ts[k].atom = true
          · skip
            have HZ : Hid (Cl.taut ⟨ts⟩ = true) := Cl.taut_yes hlt (Lit.taut_prev HJ.out hlt hVq)
            clear hSE
            have eB0 := bT.c0
            have lB := bT.lt
            have eE0 := bE.c0
            have eE1 := bE.c1
            have eE2 := bE.c2
            have lE := bE.lt
            refine wp_region_B [fun v _ => v = .pointer (some ⟨wr.heap.size, 0, none⟩), fun v _ => v = .bool false, fun v _ => v = .bool false, fun v _ => v = undef, fun v _ => v = undef, fun v _ => v = undef, fun v _ => v = .bool false, fun v _ => v = .bool false, fun v _ => v = undef, fun v _ => v = undef, fun v _ => v = undef, fun v _ => v = undef, fun v _ => v = undef, fun v _ => v = undef, fun v _ => v = undef, fun v _ => v = undef, fun v _ => v = undef, fun v _ => v = undef, fun v _ => v = undef, fun v _ => v = .bool false, fun v _ => v = .bool false, fun v _ => v = .int .i64 k, fun v _ => v = .bool true, fun v _ => v = .bool true, fun v _ => v = .pointer (some ⟨w.heap.size, 0, none⟩), fun v _ => v = .slice (some ⟨b, off, none⟩) ts.length cap, fun v _ => v = .int .i64 k, fun v _ => v = .int .i64 j, fun v _ => v = .pointer (some ⟨b, off + j * 3, none⟩), fun v _ => v = .pointer (some ⟨b, off + j * 3 + 1, none⟩), fun v _ => v = .agg #[.string ts[j].atom.name, .slice y ts[j].atom.args.length yc], fun v _ => v = .pointer (some ⟨wr.heap.size, 1, none⟩), fun v _ => v = .agg #[.string ts[k].atom.name, .slice x ts[k].atom.args.length xc], fun v _ => v = .bool true, fun v _ => v = .bool true, fun v _ => v = .bool true] _ (fun V => by simp [putAll, Act.put]; rfl) (by kernel_rfl) (by decide) (by simp) (by kernel_rfl) ?_ ?_ ?_
            · intro F hF
              simp only [List.mem_cons, List.not_mem_nil, or_false] at hF
              rcases hF with rfl | rfl | rfl | rfl | rfl | rfl | rfl | rfl | rfl | rfl | rfl | rfl | rfl | rfl | rfl | rfl | rfl | rfl | rfl | rfl | rfl | rfl | rfl | rfl | rfl | rfl | rfl | rfl | rfl | rfl | rfl | rfl | rfl | rfl | rfl | rfl
              · exact stable_eq
              · exact stable_eq
              · exact stable_eq
              · exact stable_eq
              · exact stable_eq
              · exact stable_eq
              · exact stable_eq
              · exact stable_eq
              · exact stable_eq
              · exact stable_eq
              · exact stable_eq
              · exact stable_eq
              · exact stable_eq
              · exact stable_eq
              · exact stable_eq
              · exact stable_eq
              · exact stable_eq
              · exact stable_eq
              · exact stable_eq
              · exact stable_eq
              · exact stable_eq
              · exact stable_eq
              · exact stable_eq
              · exact stable_eq
              · exact stable_eq
              · exact stable_eq
              · exact stable_eq
              · exact stable_eq
              · exact stable_eq
              · exact stable_eq
              · exact stable_eq
              · exact stable_eq
              · exact stable_eq
              · exact stable_eq
              · exact stable_eq
              · exact stable_eq
            · refine ⟨?_, ?_, ?_, ?_, ?_, ?_, ?_, ?_, ?_, ?_, ?_, ?_, ?_, ?_, ?_, ?_, ?_, ?_, ?_, ?_, ?_, ?_, ?_, ?_, ?_, ?_, ?_, ?_, ?_, ?_, ?_, ?_, ?_, ?_, ?_, ?_, trivial⟩
              · intro V w1 hbR _
                unfold Does
                go_simp
                exact ⟨Below.refl _ _, rfl⟩
              · intro V w1 hbR ⟨f0, _⟩
                replace f0 : V 0 = .pointer (some ⟨wr.heap.size, 0, none⟩) := f0
                obtain ⟨hc, hf⟩ := bcell hbR
                try simp only [World.size_alloc, World.size_setCell] at hc hf
                unfold Does
                go_simp
                exact ⟨Below.refl _ _, rfl⟩
              · intro V w1 hbR ⟨f1, _⟩
                replace f1 : V 1 = .bool false := f1
                unfold Does
                go_simp
                exact ⟨Below.refl _ _, rfl⟩
              · intro V w1 hbR ⟨f2, _⟩
                replace f2 : V 2 = .bool false := f2
                refine .inl ⟨_, f2, fun hg => ?_, fun hg => ?_⟩
                · exact absurd hg (by decide)
                · rfl
              · intro V w1 hbR ⟨f3, f2, _⟩
                replace f2 : V 2 = .bool false := f2
                replace f3 : V 3 = undef := f3
                refine .inl ⟨_, f2, fun hg => ?_, fun hg => ?_⟩
                · exact absurd hg (by decide)
                · rfl
              · intro V w1 hbR ⟨f4, f2, _, _⟩
                replace f2 : V 2 = .bool false := f2
                replace f4 : V 4 = undef := f4
                refine .inl ⟨_, f2, fun hg => ?_, fun hg => ?_⟩
                · exact absurd hg (by decide)
                · rfl
              · intro V w1 hbR ⟨f2, f5, _⟩
                replace f2 : V 2 = .bool false := f2
                replace f5 : V 5 = undef := f5
                unfold Does
                go_simp
                exact ⟨Below.refl _ _, rfl⟩
              · intro V w1 hbR ⟨f6, f5, _⟩
                replace f5 : V 5 = undef := f5
                replace f6 : V 6 = .bool false := f6
                unfold Does
                go_simp
                exact ⟨Below.refl _ _, rfl⟩
              · intro V w1 hbR ⟨f7, _⟩
                replace f7 : V 7 = .bool false := f7
                refine .inl ⟨_, f7, fun hg => ?_, fun hg => ?_⟩
                · exact absurd hg (by decide)
                · rfl
              · intro V w1 hbR ⟨f8, f7, _⟩
                replace f7 : V 7 = .bool false := f7
                replace f8 : V 8 = undef := f8
                refine .inl ⟨_, f7, fun hg => ?_, fun hg => ?_⟩
                · exact absurd hg (by decide)
                · rfl
              · intro V w1 hbR ⟨f9, f7, _⟩
                replace f7 : V 7 = .bool false := f7
                replace f9 : V 9 = undef := f9
                refine .inl ⟨_, f7, fun hg => ?_, fun hg => ?_⟩
                · exact absurd hg (by decide)
                · rfl
              · intro V w1 hbR ⟨f10, f7, _⟩
                replace f7 : V 7 = .bool false := f7
                replace f10 : V 10 = undef := f10
                refine .inl ⟨_, f7, fun hg => ?_, fun hg => ?_⟩
                · exact absurd hg (by decide)
                · rfl
              · intro V w1 hbR ⟨f11, f7, _⟩
                replace f7 : V 7 = .bool false := f7
                replace f11 : V 11 = undef := f11
                refine .inl ⟨_, f7, fun hg => ?_, fun hg => ?_⟩
                · exact absurd hg (by decide)
                · rfl
              · intro V w1 hbR ⟨f7, _⟩
                replace f7 : V 7 = .bool false := f7
                refine .inl ⟨_, f7, fun hg => ?_, fun hg => ?_⟩
                · exact absurd hg (by decide)
                · rfl
              · intro V w1 hbR ⟨f13, f7, _⟩
                replace f7 : V 7 = .bool false := f7
                replace f13 : V 13 = undef := f13
                refine .inl ⟨_, f7, fun hg => ?_, fun hg => ?_⟩
                · exact absurd hg (by decide)
                · rfl
              · intro V w1 hbR ⟨f14, f7, _⟩
                replace f7 : V 7 = .bool false := f7
                replace f14 : V 14 = undef := f14
                refine .inl ⟨_, f7, fun hg => ?_, fun hg => ?_⟩
                · exact absurd hg (by decide)
                · rfl
              · intro V w1 hbR ⟨f15, f7, _⟩
                replace f7 : V 7 = .bool false := f7
                replace f15 : V 15 = undef := f15
                refine .inl ⟨_, f7, fun hg => ?_, fun hg => ?_⟩
                · exact absurd hg (by decide)
                · rfl
              · intro V w1 hbR ⟨f16, f7, _⟩
                replace f7 : V 7 = .bool false := f7
                replace f16 : V 16 = undef := f16
                refine .inl ⟨_, f7, fun hg => ?_, fun hg => ?_⟩
                · exact absurd hg (by decide)
                · rfl
              · intro V w1 hbR ⟨f12, f17, f7, _, _⟩
                replace f7 : V 7 = .bool false := f7
                replace f12 : V 12 = undef := f12
                replace f17 : V 17 = undef := f17
                refine .inl ⟨_, f7, fun hg => ?_, fun hg => ?_⟩
                · exact absurd hg (by decide)
                · rfl
              · intro V w1 hbR ⟨f7, f18, _⟩
                replace f7 : V 7 = .bool false := f7
                replace f18 : V 18 = undef := f18
                unfold Does
                go_simp
                exact ⟨Below.refl _ _, rfl⟩
              · intro V w1 hbR ⟨f19, f18, _⟩
                replace f18 : V 18 = undef := f18
                replace f19 : V 19 = .bool false := f19
                unfold Does
                go_simp
                exact ⟨Below.refl _ _, rfl⟩
              · intro V w1 hbR ⟨f20, _⟩
                replace f20 : V 20 = .bool false := f20
                refine .inl ⟨_, f20, fun hg => ?_, fun hg => ?_⟩
                · unfold Does
                  go_simp
                  exact ⟨Below.refl _ _, rfl⟩
                · exact absurd rfl hg
              · intro V w1 hbR ⟨f21, f20, _⟩
                replace f20 : V 20 = .bool false := f20
                replace f21 : V 21 = .int .i64 k := f21
                refine .inl ⟨_, f20, fun hg => ?_, fun hg => ?_⟩
                · unfold Does
                  go_simp
                  exact ⟨Below.refl _ _, rfl⟩
                · exact absurd rfl hg
              · intro V w1 hbR ⟨f22, f20, _, _⟩
                replace f20 : V 20 = .bool false := f20
                replace f22 : V 22 = .bool true := f22
                refine .inl ⟨_, f20, fun hg => ?_, fun hg => ?_⟩
                · unfold Does
                  go_simp
                  exact ⟨Below.refl _ _, rfl⟩
                · exact absurd rfl hg
              · intro V w1 hbR ⟨f23, _⟩
                replace f23 : V 23 = .bool true := f23
                refine .inl ⟨_, f23, fun hg => ?_, fun hg => ?_⟩
                · unfold Does
                  go_simp
                  exact ⟨Below.refl _ _, rfl⟩
                · exact absurd rfl hg
              · intro V w1 hbR ⟨f24, f23, _⟩
                replace f23 : V 23 = .bool true := f23
                replace f24 : V 24 = .pointer (some ⟨w.heap.size, 0, none⟩) := f24
                refine .inl ⟨_, f23, fun hg => ?_, fun hg => ?_⟩
                · obtain ⟨hc, hf⟩ := bcell hbR
                  try simp only [World.size_alloc, World.size_setCell] at hc hf
                  unfold Does
                  go_simp
                  exact ⟨Below.refl _ _, rfl⟩
                · exact absurd rfl hg
              · intro V w1 hbR ⟨f23, _⟩
                replace f23 : V 23 = .bool true := f23
                refine .inl ⟨_, f23, fun hg => ?_, fun hg => ?_⟩
                · unfold Does
                  go_simp
                  exact ⟨Below.refl _ _, rfl⟩
                · exact absurd rfl hg
              · intro V w1 hbR ⟨f26, f23, _⟩
                replace f23 : V 23 = .bool true := f23
                replace f26 : V 26 = .int .i64 k := f26
                refine .inl ⟨_, f23, fun hg => ?_, fun hg => ?_⟩
                · unfold Does
                  go_simp
                  exact ⟨Below.refl _ _, by congr 1; rw [IntKind.wrap_i64]; have := HJ.out; omega⟩
                · exact absurd rfl hg
              · intro V w1 hbR ⟨f25, f27, f23, _⟩
                replace f23 : V 23 = .bool true := f23
                replace f25 : V 25 = .slice (some ⟨b, off, none⟩) ts.length cap := f25
                replace f27 : V 27 = .int .i64 j := f27
                refine .inl ⟨_, f23, fun hg => ?_, fun hg => ?_⟩
                · unfold Does
                  go_simp
                  exact ⟨Below.refl _ _, rfl⟩
                · exact absurd rfl hg
              · intro V w1 hbR ⟨f28, f23, _⟩
                replace f23 : V 23 = .bool true := f23
                replace f28 : V 28 = .pointer (some ⟨b, off + j * 3, none⟩) := f28
                refine .inl ⟨_, f23, fun hg => ?_, fun hg => ?_⟩
                · unfold Does
                  go_simp
                  exact ⟨Below.refl _ _, rfl⟩
                · exact absurd rfl hg
              · intro V w1 hbR ⟨f29, f23, _⟩
                replace f23 : V 23 = .bool true := f23
                replace f29 : V 29 = .pointer (some ⟨b, off + j * 3 + 1, none⟩) := f29
                refine .inl ⟨_, f23, fun hg => ?_, fun hg => ?_⟩
                · obtain ⟨hc, hf⟩ := bcell hbR
                  try simp only [World.size_alloc, World.size_setCell] at hc hf
                  unfold Does
                  go_simp
                  exact ⟨Below.refl _ _, rfl⟩
                · exact absurd rfl hg
              · intro V w1 hbR ⟨f23, _⟩
                replace f23 : V 23 = .bool true := f23
                refine .inl ⟨_, f23, fun hg => ?_, fun hg => ?_⟩
                · unfold Does
                  go_simp
                  exact ⟨Below.refl _ _, rfl⟩
                · exact absurd rfl hg
              · intro V w1 hbR ⟨f31, f23, _⟩
                replace f23 : V 23 = .bool true := f23
                replace f31 : V 31 = .pointer (some ⟨wr.heap.size, 1, none⟩) := f31
                refine .inl ⟨_, f23, fun hg => ?_, fun hg => ?_⟩
                · obtain ⟨hc, hf⟩ := bcell hbR
                  try simp only [World.size_alloc, World.size_setCell] at hc hf
                  unfold Does
                  go_simp
                  exact ⟨Below.refl _ _, rfl⟩
                · exact absurd rfl hg
              · intro V w1 hbR ⟨f30, f32, f23, _, _⟩
                replace f23 : V 23 = .bool true := f23
                replace f30 : V 30 = .agg #[.string ts[j].atom.name, .slice y ts[j].atom.args.length yc] := f30
                replace f32 : V 32 = .agg #[.string ts[k].atom.name, .slice x ts[k].atom.args.length xc] := f32
                refine .inl ⟨_, f23, fun hg => ?_, fun hg => ?_⟩
                · obtain ⟨hc, hf⟩ := bcell hbR
                  try simp only [World.size_alloc, World.size_setCell] at hc hf
                  unfold Does
                  go_simp
                  refine (equalTerms_any _ _ S _ _ _ _ _ (Tm.at_keep (Keeps.all hbR) hJ) (Tm.at_keep (Keeps.all hbR) (Lit.at_atom hE))).mono ?_; rintro e w5 ⟨rfl, hb5⟩; exact ⟨_, rfl, hb5, by rw [hVq]⟩
                · exact absurd rfl hg
              · intro V w1 hbR ⟨f23, f33, f20, _⟩
                replace f20 : V 20 = .bool false := f20
                replace f23 : V 23 = .bool true := f23
                replace f33 : V 33 = .bool true := f33
                refine .inl ⟨_, f20, fun hg => ?_, fun hg => ?_⟩
                · unfold Does
                  go_simp
                  exact ⟨Below.refl _ _, rfl⟩
                · exact absurd rfl hg
              · intro V w1 hbR ⟨f20, f34, _⟩
                replace f20 : V 20 = .bool false := f20
                replace f34 : V 34 = .bool true := f34
                unfold Does
                go_simp
                exact ⟨Below.refl _ _, rfl⟩
            intro V w3 hbR hfR
            obtain ⟨f0, f1, f2, f3, f4, f5, f6, f7, f8, f9, f10, f11, f12, f13, f14, f15, f16, f17, f18, f19, f20, f21, f22, f23, f24, f25, f26, f27, f28, f29, f30, f31, f32, f33, f34, f35, _⟩ := hfR
            replace f0 : V 0 = .pointer (some ⟨wr.heap.size, 0, none⟩) := f0
            replace f1 : V 1 = .bool false := f1
            replace f2 : V 2 = .bool false := f2
            replace f3 : V 3 = undef := f3
            replace f4 : V 4 = undef := f4
            replace f5 : V 5 = undef := f5
            replace f6 : V 6 = .bool false := f6
            replace f7 : V 7 = .bool false := f7
            replace f8 : V 8 = undef := f8
            replace f9 : V 9 = undef := f9
            replace f10 : V 10 = undef := f10
            replace f11 : V 11 = undef := f11
            replace f12 : V 12 = undef := f12
            replace f13 : V 13 = undef := f13
            replace f14 : V 14 = undef := f14
            replace f15 : V 15 = undef := f15
            replace f16 : V 16 = undef := f16
            replace f17 : V 17 = undef := f17
            replace f18 : V 18 = undef := f18
            replace f19 : V 19 = .bool false := f19
            replace f20 : V 20 = .bool false := f20
            replace f21 : V 21 = .int .i64 k := f21
            replace f22 : V 22 = .bool true := f22
            replace f23 : V 23 = .bool true := f23
            replace f24 : V 24 = .pointer (some ⟨w.heap.size, 0, none⟩) := f24
            replace f25 : V 25 = .slice (some ⟨b, off, none⟩) ts.length cap := f25
            replace f26 : V 26 = .int .i64 k := f26
            replace f27 : V 27 = .int .i64 j := f27
            replace f28 : V 28 = .pointer (some ⟨b, off + j * 3, none⟩) := f28
            replace f29 : V 29 = .pointer (some ⟨b, off + j * 3 + 1, none⟩) := f29
            replace f30 : V 30 = .agg #[.string ts[j].atom.name, .slice y ts[j].atom.args.length yc] := f30
            replace f31 : V 31 = .pointer (some ⟨wr.heap.size, 1, none⟩) := f31
            replace f32 : V 32 = .agg #[.string ts[k].atom.name, .slice x ts[k].atom.args.length xc] := f32
            replace f33 : V 33 = .bool true := f33
            replace f34 : V 34 = .bool true := f34
            replace f35 : V 35 = .bool true := f35
            simp only [f0, f1, f2, f3, f4, f5, f6, f7, f8, f9, f10, f11, f12, f13, f14, f15, f16, f17, f18, f19, f20, f21, f22, f23, f24, f25, f26, f27, f28, f29, f30, f31, f32, f33, f34, f35]
            clear f0 f1 f2 f3 f4 f5 f6 f7 f8 f9 f10 f11 f12 f13 f14 f15 f16 f17 f18 f19 f20 f21 f22 f23 f24 f25 f26 f27 f28 f29 f30 f31 f32 f33 f34 f35
            clear eB0 lB eE0 eE1 eE2 lE
            go_wp2_with fail
            go_ret
            exact Gives.mk (by rw [HZ.out]; rfl) (hW.trans (hbR.mono hW.size))
          · replace hVq : Tm.eqb ts[j].atom ts[k].atom = false := by simpa using hVq
            have HZ : Hid (∀ i, i < k + 1 → Lit.tautAt ts i = false) := fun i hi => if h : i < k then HX.out i h else by
              obtain rfl : i = k := by omega
              exact Lit.taut_no HJ.out hlt hSE hVq
            clear hSE
            have eB0 := bT.c0
            have lB := bT.lt
            have eE0 := bE.c0
            have eE1 := bE.c1
            have eE2 := bE.c2
            have lE := bE.lt
            refine wp_region_B [fun v _ => v = .pointer (some ⟨wr.heap.size, 0, none⟩), fun v _ => v = .bool false, fun v _ => v = .bool false, fun v _ => v = undef, fun v _ => v = undef, fun v _ => v = undef, fun v _ => v = .bool false, fun v _ => v = .bool false, fun v _ => v = undef, fun v _ => v = undef, fun v _ => v = undef, fun v _ => v = undef, fun v _ => v = undef, fun v _ => v = undef, fun v _ => v = undef, fun v _ => v = undef, fun v _ => v = undef, fun v _ => v = undef, fun v _ => v = undef, fun v _ => v = .bool false, fun v _ => v = .bool false, fun v _ => v = .int .i64 k, fun v _ => v = .bool true, fun v _ => v = .bool true, fun v _ => v = .pointer (some ⟨w.heap.size, 0, none⟩), fun v _ => v = .slice (some ⟨b, off, none⟩) ts.length cap, fun v _ => v = .int .i64 k, fun v _ => v = .int .i64 j, fun v _ => v = .pointer (some ⟨b, off + j * 3, none⟩), fun v _ => v = .pointer (some ⟨b, off + j * 3 + 1, none⟩), fun v _ => v = .agg #[.string ts[j].atom.name, .slice y ts[j].atom.args.length yc], fun v _ => v = .pointer (some ⟨wr.heap.size, 1, none⟩), fun v _ => v = .agg #[.string ts[k].atom.name, .slice x ts[k].atom.args.length xc], fun v _ => v = .bool false, fun v _ => v = .bool false, fun v _ => v = .bool false] _ (fun V => by simp [putAll, Act.put]; rfl) (by kernel_rfl) (by decide) (by simp) (by kernel_rfl) ?_ ?_ ?_
            · intro F hF
              simp only [List.mem_cons, List.not_mem_nil, or_false] at hF
              rcases hF with rfl | rfl | rfl | rfl | rfl | rfl | rfl | rfl | rfl | rfl | rfl | rfl | rfl | rfl | rfl | rfl | rfl | rfl | rfl | rfl | rfl | rfl | rfl | rfl | rfl | rfl | rfl | rfl | rfl | rfl | rfl | rfl | rfl | rfl | rfl | rfl
              · exact stable_eq
              · exact stable_eq
              · exact stable_eq
              · exact stable_eq
              · exact stable_eq
              · exact stable_eq
              · exact stable_eq
              · exact stable_eq
              · exact stable_eq
              · exact stable_eq
              · exact stable_eq
              · exact stable_eq
              · exact stable_eq
              · exact stable_eq
              · exact stable_eq
              · exact stable_eq
              · exact stable_eq
              · exact stable_eq
              · exact stable_eq
              · exact stable_eq
              · exact stable_eq
              · exact stable_eq
              · exact stable_eq
              · exact stable_eq
              · exact stable_eq
              · exact stable_eq
              · exact stable_eq
              · exact stable_eq
              · exact stable_eq
              · exact stable_eq
              · exact stable_eq
              · exact stable_eq
              · exact stable_eq
              · exact stable_eq
              · exact stable_eq
              · exact stable_eq
            · refine ⟨?_, ?_, ?_, ?_, ?_, ?_, ?_, ?_, ?_, ?_, ?_, ?_, ?_, ?_, ?_, ?_, ?_, ?_, ?_, ?_, ?_, ?_, ?_, ?_, ?_, ?_, ?_, ?_, ?_, ?_, ?_, ?_, ?_, ?_, ?_, ?_, trivial⟩
              · intro V w1 hbR _
                unfold Does
                go_simp
                exact ⟨Below.refl _ _, rfl⟩
              · intro V w1 hbR ⟨f0, _⟩
                replace f0 : V 0 = .pointer (some ⟨wr.heap.size, 0, none⟩) := f0
                obtain ⟨hc, hf⟩ := bcell hbR
                try simp only [World.size_alloc, World.size_setCell] at hc hf
                unfold Does
                go_simp
                exact ⟨Below.refl _ _, rfl⟩
              · intro V w1 hbR ⟨f1, _⟩
                replace f1 : V 1 = .bool false := f1
                unfold Does
                go_simp
                exact ⟨Below.refl _ _, rfl⟩
              · intro V w1 hbR ⟨f2, _⟩
                replace f2 : V 2 = .bool false := f2
                refine .inl ⟨_, f2, fun hg => ?_, fun hg => ?_⟩
                · exact absurd hg (by decide)
                · rfl
              · intro V w1 hbR ⟨f3, f2, _⟩
                replace f2 : V 2 = .bool false := f2
                replace f3 : V 3 = undef := f3
                refine .inl ⟨_, f2, fun hg => ?_, fun hg => ?_⟩
                · exact absurd hg (by decide)
                · rfl
              · intro V w1 hbR ⟨f4, f2, _, _⟩
                replace f2 : V 2 = .bool false := f2
                replace f4 : V 4 = undef := f4
                refine .inl ⟨_, f2, fun hg => ?_, fun hg => ?_⟩
                · exact absurd hg (by decide)
                · rfl
              · intro V w1 hbR ⟨f2, f5, _⟩
                replace f2 : V 2 = .bool false := f2
                replace f5 : V 5 = undef := f5
                unfold Does
                go_simp
                exact ⟨Below.refl _ _, rfl⟩
              · intro V w1 hbR ⟨f6, f5, _⟩
                replace f5 : V 5 = undef := f5
                replace f6 : V 6 = .bool false := f6
                unfold Does
                go_simp
                exact ⟨Below.refl _ _, rfl⟩
              · intro V w1 hbR ⟨f7, _⟩
                replace f7 : V 7 = .bool false := f7
                refine .inl ⟨_, f7, fun hg => ?_, fun hg => ?_⟩
                · exact absurd hg (by decide)
                · rfl
              · intro V w1 hbR ⟨f8, f7, _⟩
                replace f7 : V 7 = .bool false := f7
                replace f8 : V 8 = undef := f8
                refine .inl ⟨_, f7, fun hg => ?_, fun hg => ?_⟩
                · exact absurd hg (by decide)
                · rfl
              · intro V w1 hbR ⟨f9, f7, _⟩
                replace f7 : V 7 = .bool false := f7
                replace f9 : V 9 = undef := f9
                refine .inl ⟨_, f7, fun hg => ?_, fun hg => ?_⟩
                · exact absurd hg (by decide)
                · rfl
              · intro V w1 hbR ⟨f10, f7, _⟩
                replace f7 : V 7 = .bool false := f7
                replace f10 : V 10 = undef := f10
                refine .inl ⟨_, f7, fun hg => ?_, fun hg => ?_⟩
                · exact absurd hg (by decide)
                · rfl
              · intro V w1 hbR ⟨f11, f7, _⟩
                replace f7 : V 7 = .bool false := f7
                replace f11 : V 11 = undef := f11
                refine .inl ⟨_, f7, fun hg => ?_, fun hg => ?_⟩
                · exact absurd hg (by decide)
                · rfl
              · intro V w1 hbR ⟨f7, _⟩
                replace f7 : V 7 = .bool false := f7
                refine .inl ⟨_, f7, fun hg => ?_, fun hg => ?_⟩
                · exact absurd hg (by decide)
                · rfl
              · intro V w1 hbR ⟨f13, f7, _⟩
                replace f7 : V 7 = .bool false := f7
                replace f13 : V 13 = undef := f13
                refine .inl ⟨_, f7, fun hg => ?_, fun hg => ?_⟩
                · exact absurd hg (by decide)
                · rfl
              · intro V w1 hbR ⟨f14, f7, _⟩
                replace f7 : V 7 = .bool false := f7
                replace f14 : V 14 = undef := f14
                refine .inl ⟨_, f7, fun hg => ?_, fun hg => ?_⟩
                · exact absurd hg (by decide)
                · rfl
              · intro V w1 hbR ⟨f15, f7, _⟩
                replace f7 : V 7 = .bool false := f7
                replace f15 : V 15 = undef := f15
                refine .inl ⟨_, f7, fun hg => ?_, fun hg => ?_⟩
                · exact absurd hg (by decide)
                · rfl
              · intro V w1 hbR ⟨f16, f7, _⟩
                replace f7 : V 7 = .bool false := f7
                replace f16 : V 16 = undef := f16
                refine .inl ⟨_, f7, fun hg => ?_, fun hg => ?_⟩
                · exact absurd hg (by decide)
                · rfl
              · intro V w1 hbR ⟨f12, f17, f7, _, _⟩
                replace f7 : V 7 = .bool false := f7
                replace f12 : V 12 = undef := f12
                replace f17 : V 17 = undef := f17
                refine .inl ⟨_, f7, fun hg => ?_, fun hg => ?_⟩
                · exact absurd hg (by decide)
                · rfl
              · intro V w1 hbR ⟨f7, f18, _⟩
                replace f7 : V 7 = .bool false := f7
                replace f18 : V 18 = undef := f18
                unfold Does
                go_simp
                exact ⟨Below.refl _ _, rfl⟩
              · intro V w1 hbR ⟨f19, f18, _⟩
                replace f18 : V 18 = undef := f18
                replace f19 : V 19 = .bool false := f19
                unfold Does
                go_simp
                exact ⟨Below.refl _ _, rfl⟩
              · intro V w1 hbR ⟨f20, _⟩
                replace f20 : V 20 = .bool false := f20
                refine .inl ⟨_, f20, fun hg => ?_, fun hg => ?_⟩
                · unfold Does
                  go_simp
                  exact ⟨Below.refl _ _, rfl⟩
                · exact absurd rfl hg
              · intro V w1 hbR ⟨f21, f20, _⟩
                replace f20 : V 20 = .bool false := f20
                replace f21 : V 21 = .int .i64 k := f21
                refine .inl ⟨_, f20, fun hg => ?_, fun hg => ?_⟩
                · unfold Does
                  go_simp
                  exact ⟨Below.refl _ _, rfl⟩
                · exact absurd rfl hg
              · intro V w1 hbR ⟨f22, f20, _, _⟩
                replace f20 : V 20 = .bool false := f20
                replace f22 : V 22 = .bool true := f22
                refine .inl ⟨_, f20, fun hg => ?_, fun hg => ?_⟩
                · unfold Does
                  go_simp
                  exact ⟨Below.refl _ _, rfl⟩
                · exact absurd rfl hg
              · intro V w1 hbR ⟨f23, _⟩
                replace f23 : V 23 = .bool true := f23
                refine .inl ⟨_, f23, fun hg => ?_, fun hg => ?_⟩
                · unfold Does
                  go_simp
                  exact ⟨Below.refl _ _, rfl⟩
                · exact absurd rfl hg
              · intro V w1 hbR ⟨f24, f23, _⟩
                replace f23 : V 23 = .bool true := f23
                replace f24 : V 24 = .pointer (some ⟨w.heap.size, 0, none⟩) := f24
                refine .inl ⟨_, f23, fun hg => ?_, fun hg => ?_⟩
                · obtain ⟨hc, hf⟩ := bcell hbR
                  try simp only [World.size_alloc, World.size_setCell] at hc hf
                  unfold Does
                  go_simp
                  exact ⟨Below.refl _ _, rfl⟩
                · exact absurd rfl hg
              · intro V w1 hbR ⟨f23, _⟩
                replace f23 : V 23 = .bool true := f23
                refine .inl ⟨_, f23, fun hg => ?_, fun hg => ?_⟩
                · unfold Does
                  go_simp
                  exact ⟨Below.refl _ _, rfl⟩
                · exact absurd rfl hg
              · intro V w1 hbR ⟨f26, f23, _⟩
                replace f23 : V 23 = .bool true := f23
                replace f26 : V 26 = .int .i64 k := f26
                refine .inl ⟨_, f23, fun hg => ?_, fun hg => ?_⟩
                · unfold Does
                  go_simp
                  exact ⟨Below.refl _ _, by congr 1; rw [IntKind.wrap_i64]; have := HJ.out; omega⟩
                · exact absurd rfl hg
              · intro V w1 hbR ⟨f25, f27, f23, _⟩
                replace f23 : V 23 = .bool true := f23
                replace f25 : V 25 = .slice (some ⟨b, off, none⟩) ts.length cap := f25
                replace f27 : V 27 = .int .i64 j := f27
                refine .inl ⟨_, f23, fun hg => ?_, fun hg => ?_⟩
                · unfold Does
                  go_simp
                  exact ⟨Below.refl _ _, rfl⟩
                · exact absurd rfl hg
              · intro V w1 hbR ⟨f28, f23, _⟩
                replace f23 : V 23 = .bool true := f23
                replace f28 : V 28 = .pointer (some ⟨b, off + j * 3, none⟩) := f28
                refine .inl ⟨_, f23, fun hg => ?_, fun hg => ?_⟩
                · unfold Does
                  go_simp
                  exact ⟨Below.refl _ _, rfl⟩
                · exact absurd rfl hg
              · intro V w1 hbR ⟨f29, f23, _⟩
                replace f23 : V 23 = .bool true := f23
                replace f29 : V 29 = .pointer (some ⟨b, off + j * 3 + 1, none⟩) := f29
                refine .inl ⟨_, f23, fun hg => ?_, fun hg => ?_⟩
                · obtain ⟨hc, hf⟩ := bcell hbR
                  try simp only [World.size_alloc, World.size_setCell] at hc hf
                  unfold Does
                  go_simp
                  exact ⟨Below.refl _ _, rfl⟩
                · exact absurd rfl hg
              · intro V w1 hbR ⟨f23, _⟩
                replace f23 : V 23 = .bool true := f23
                refine .inl ⟨_, f23, fun hg => ?_, fun hg => ?_⟩
                · unfold Does
                  go_simp
                  exact ⟨Below.refl _ _, rfl⟩
                · exact absurd rfl hg
              · intro V w1 hbR ⟨f31, f23, _⟩
                replace f23 : V 23 = .bool true := f23
                replace f31 : V 31 = .pointer (some ⟨wr.heap.size, 1, none⟩) := f31
                refine .inl ⟨_, f23, fun hg => ?_, fun hg => ?_⟩
                · obtain ⟨hc, hf⟩ := bcell hbR
                  try simp only [World.size_alloc, World.size_setCell] at hc hf
                  unfold Does
                  go_simp
                  exact ⟨Below.refl _ _, rfl⟩
                · exact absurd rfl hg
              · intro V w1 hbR ⟨f30, f32, f23, _, _⟩
                replace f23 : V 23 = .bool true := f23
                replace f30 : V 30 = .agg #[.string ts[j].atom.name, .slice y ts[j].atom.args.length yc] := f30
                replace f32 : V 32 = .agg #[.string ts[k].atom.name, .slice x ts[k].atom.args.length xc] := f32
                refine .inl ⟨_, f23, fun hg => ?_, fun hg => ?_⟩
                · obtain ⟨hc, hf⟩ := bcell hbR
                  try simp only [World.size_alloc, World.size_setCell] at hc hf
                  unfold Does
                  go_simp
                  refine (equalTerms_any _ _ S _ _ _ _ _ (Tm.at_keep (Keeps.all hbR) hJ) (Tm.at_keep (Keeps.all hbR) (Lit.at_atom hE))).mono ?_; rintro e w5 ⟨rfl, hb5⟩; exact ⟨_, rfl, hb5, by rw [hVq]⟩
                · exact absurd rfl hg
              · intro V w1 hbR ⟨f23, f33, f20, _⟩
                replace f20 : V 20 = .bool false := f20
                replace f23 : V 23 = .bool true := f23
                replace f33 : V 33 = .bool false := f33
                refine .inl ⟨_, f20, fun hg => ?_, fun hg => ?_⟩
                · unfold Does
                  go_simp
                  exact ⟨Below.refl _ _, rfl⟩
                · exact absurd rfl hg
              · intro V w1 hbR ⟨f20, f34, _⟩
                replace f20 : V 20 = .bool false := f20
                replace f34 : V 34 = .bool false := f34
                unfold Does
                go_simp
                exact ⟨Below.refl _ _, rfl⟩
            intro V w3 hbR hfR
            obtain ⟨f0, f1, f2, f3, f4, f5, f6, f7, f8, f9, f10, f11, f12, f13, f14, f15, f16, f17, f18, f19, f20, f21, f22, f23, f24, f25, f26, f27, f28, f29, f30, f31, f32, f33, f34, f35, _⟩ := hfR
            replace f0 : V 0 = .pointer (some ⟨wr.heap.size, 0, none⟩) := f0
            replace f1 : V 1 = .bool false := f1
            replace f2 : V 2 = .bool false := f2
            replace f3 : V 3 = undef := f3
            replace f4 : V 4 = undef := f4
            replace f5 : V 5 = undef := f5
            replace f6 : V 6 = .bool false := f6
            replace f7 : V 7 = .bool false := f7
            replace f8 : V 8 = undef := f8
            replace f9 : V 9 = undef := f9
            replace f10 : V 10 = undef := f10
            replace f11 : V 11 = undef := f11
            replace f12 : V 12 = undef := f12
            replace f13 : V 13 = undef := f13
            replace f14 : V 14 = undef := f14
            replace f15 : V 15 = undef := f15
            replace f16 : V 16 = undef := f16
            replace f17 : V 17 = undef := f17
            replace f18 : V 18 = undef := f18
            replace f19 : V 19 = .bool false := f19
            replace f20 : V 20 = .bool false := f20
            replace f21 : V 21 = .int .i64 k := f21
            replace f22 : V 22 = .bool true := f22
            replace f23 : V 23 = .bool true := f23
            replace f24 : V 24 = .pointer (some ⟨w.heap.size, 0, none⟩) := f24
            replace f25 : V 25 = .slice (some ⟨b, off, none⟩) ts.length cap := f25
            replace f26 : V 26 = .int .i64 k := f26
            replace f27 : V 27 = .int .i64 j := f27
            replace f28 : V 28 = .pointer (some ⟨b, off + j * 3, none⟩) := f28
            replace f29 : V 29 = .pointer (some ⟨b, off + j * 3 + 1, none⟩) := f29
            replace f30 : V 30 = .agg #[.string ts[j].atom.name, .slice y ts[j].atom.args.length yc] := f30
            replace f31 : V 31 = .pointer (some ⟨wr.heap.size, 1, none⟩) := f31
            replace f32 : V 32 = .agg #[.string ts[k].atom.name, .slice x ts[k].atom.args.length xc] := f32
            replace f33 : V 33 = .bool false := f33
            replace f34 : V 34 = .bool false := f34
            replace f35 : V 35 = .bool false := f35
            simp only [f0, f1, f2, f3, f4, f5, f6, f7, f8, f9, f10, f11, f12, f13, f14, f15, f16, f17, f18, f19, f20, f21, f22, f23, f24, f25, f26, f27, f28, f29, f30, f31, f32, f33, f34, f35]
            clear f0 f1 f2 f3 f4 f5 f6 f7 f8 f9 f10 f11 f12 f13 f14 f15 f16 f17 f18 f19 f20 f21 f22 f23 f24 f25 f26 f27 f28 f29 f30 f31 f32 f33 f34 f35
            clear eB0 lB eE0 eE1 eE2 lE
            go_wp2_with fail
            go_roundw
            case rel => exact ⟨k + 1, by omega, by go_num, HZ, hb.trans ((hA0.trans (hbR.mono hA0.size)).mono hz)⟩
            case measure => simp [intOf]; omega
        · have hk0 : ¬ (0 : Int) < k := by omega
          have HJ : Hid (k = 0) := by show k = 0; omega
          have HZ : Hid (∀ i, i < k + 1 → Lit.tautAt ts i = false) := fun i hi => if h : i < k then HX.out i h else by
            obtain rfl : i = k := by omega
            exact Lit.taut_no0 HJ.out hlt hSE
          clear hSE
          have eB0 := bT.c0
          have lB := bT.lt
          have eE0 := bE.c0
          have eE1 := bE.c1
          have eE2 := bE.c2
          have lE := bE.lt
          refine wp_region_B [fun v _ => v = .pointer (some ⟨wr.heap.size, 0, none⟩), fun v _ => v = .bool false, fun v _ => v = .bool false, fun v _ => v = undef, fun v _ => v = undef, fun v _ => v = undef, fun v _ => v = .bool false, fun v _ => v = .bool false, fun v _ => v = undef, fun v _ => v = undef, fun v _ => v = undef, fun v _ => v = undef, fun v _ => v = undef, fun v _ => v = undef, fun v _ => v = undef, fun v _ => v = undef, fun v _ => v = undef, fun v _ => v = undef, fun v _ => v = undef, fun v _ => v = .bool false, fun v _ => v = .bool false, fun v _ => v = .int .i64 k, fun v _ => v = .bool false, fun v _ => v = .bool false, fun v _ => v = undef, fun v _ => v = undef, fun v _ => v = undef, fun v _ => v = undef, fun v _ => v = undef, fun v _ => v = undef, fun v _ => v = undef, fun v _ => v = undef, fun v _ => v = undef, fun v _ => v = undef, fun v _ => v = .bool false, fun v _ => v = .bool false] _ (fun V => by simp [putAll, Act.put]; rfl) (by kernel_rfl) (by decide) (by simp) (by kernel_rfl) ?_ ?_ ?_
          · intro F hF
            simp only [List.mem_cons, List.not_mem_nil, or_false] at hF
            rcases hF with rfl | rfl | rfl | rfl | rfl | rfl | rfl | rfl | rfl | rfl | rfl | rfl | rfl | rfl | rfl | rfl | rfl | rfl | rfl | rfl | rfl | rfl | rfl | rfl | rfl | rfl | rfl | rfl | rfl | rfl | rfl | rfl | rfl | rfl | rfl | rfl
            · exact stable_eq
            · exact stable_eq
            · exact stable_eq
            · exact stable_eq
            · exact stable_eq
            · exact stable_eq
            · exact stable_eq
            · exact stable_eq
            · exact stable_eq
            · exact stable_eq
            · exact stable_eq
            · exact stable_eq
            · exact stable_eq
            · exact stable_eq
            · exact stable_eq
            · exact stable_eq
            · exact stable_eq
            · exact stable_eq
            · exact stable_eq
            · exact stable_eq
            · exact stable_eq
            · exact stable_eq
            · exact stable_eq
            · exact stable_eq
            · exact stable_eq
            · exact stable_eq
            · exact stable_eq
            · exact stable_eq
            · exact stable_eq
            · exact stable_eq
            · exact stable_eq
            · exact stable_eq
            · exact stable_eq
            · exact stable_eq
            · exact stable_eq
            · exact stable_eq
          · refine ⟨?_, ?_, ?_, ?_, ?_, ?_, ?_, ?_, ?_, ?_, ?_, ?_, ?_, ?_, ?_, ?_, ?_, ?_, ?_, ?_, ?_, ?_, ?_, ?_, ?_, ?_, ?_, ?_, ?_, ?_, ?_, ?_, ?_, ?_, ?_, ?_, trivial⟩
            · intro V w1 hbR _
              unfold Does
              go_simp
              exact ⟨Below.refl _ _, rfl⟩
            · intro V w1 hbR ⟨f0, _⟩
              replace f0 : V 0 = .pointer (some ⟨wr.heap.size, 0, none⟩) := f0
              obtain ⟨hc, hf⟩ := bcell hbR
              try simp only [World.size_alloc, World.size_setCell] at hc hf
              unfold Does
              go_simp
              exact ⟨Below.refl _ _, rfl⟩
            · intro V w1 hbR ⟨f1, _⟩
              replace f1 : V 1 = .bool false := f1
              unfold Does
              go_simp
              exact ⟨Below.refl _ _, rfl⟩
            · intro V w1 hbR ⟨f2, _⟩
              replace f2 : V 2 = .bool false := f2
              refine .inl ⟨_, f2, fun hg => ?_, fun hg => ?_⟩
              · exact absurd hg (by decide)
              · rfl
            · intro V w1 hbR ⟨f3, f2, _⟩
              replace f2 : V 2 = .bool false := f2
              replace f3 : V 3 = undef := f3
              refine .inl ⟨_, f2, fun hg => ?_, fun hg => ?_⟩
              · exact absurd hg (by decide)
              · rfl
            · intro V w1 hbR ⟨f4, f2, _, _⟩
              replace f2 : V 2 = .bool false := f2
              replace f4 : V 4 = undef := f4
              refine .inl ⟨_, f2, fun hg => ?_, fun hg => ?_⟩
              · exact absurd hg (by decide)
              · rfl
            · intro V w1 hbR ⟨f2, f5, _⟩
              replace f2 : V 2 = .bool false := f2
              replace f5 : V 5 = undef := f5
              unfold Does
              go_simp
              exact ⟨Below.refl _ _, rfl⟩
            · intro V w1 hbR ⟨f6, f5, _⟩
              replace f5 : V 5 = undef := f5
              replace f6 : V 6 = .bool false := f6
              unfold Does
              go_simp
              exact ⟨Below.refl _ _, rfl⟩
            · intro V w1 hbR ⟨f7, _⟩
              replace f7 : V 7 = .bool false := f7
              refine .inl ⟨_, f7, fun hg => ?_, fun hg => ?_⟩
              · exact absurd hg (by decide)
              · rfl
            · intro V w1 hbR ⟨f8, f7, _⟩
              replace f7 : V 7 = .bool false := f7
              replace f8 : V 8 = undef := f8
              refine .inl ⟨_, f7, fun hg => ?_, fun hg => ?_⟩
              · exact absurd hg (by decide)
              · rfl
            · intro V w1 hbR ⟨f9, f7, _⟩
              replace f7 : V 7 = .bool false := f7
              replace f9 : V 9 = undef := f9
              refine .inl ⟨_, f7, fun hg => ?_, fun hg => ?_⟩
              · exact absurd hg (by decide)
              · rfl
            · intro V w1 hbR ⟨f10, f7, _⟩
              replace f7 : V 7 = .bool false := f7
              replace f10 : V 10 = undef := f10
              refine .inl ⟨_, f7, fun hg => ?_, fun hg => ?_⟩
              · exact absurd hg (by decide)
              · rfl
            · intro V w1 hbR ⟨f11, f7, _⟩
              replace f7 : V 7 = .bool false := f7
              replace f11 : V 11 = undef := f11
              refine .inl ⟨_, f7, fun hg => ?_, fun hg => ?_⟩
              · exact absurd hg (by decide)
              · rfl
            · intro V w1 hbR ⟨f7, _⟩
              replace f7 : V 7 = .bool false := f7
              refine .inl ⟨_, f7, fun hg => ?_, fun hg => ?_⟩
              · exact absurd hg (by decide)
              · rfl
            · intro V w1 hbR ⟨f13, f7, _⟩
              replace f7 : V 7 = .bool false := f7
              replace f13 : V 13 = undef := f13
              refine .inl ⟨_, f7, fun hg => ?_, fun hg => ?_⟩
              · exact absurd hg (by decide)
              · rfl
            · intro V w1 hbR ⟨f14, f7, _⟩
              replace f7 : V 7 = .bool false := f7
              replace f14 : V 14 = undef := f14
              refine .inl ⟨_, f7, fun hg => ?_, fun hg => ?_⟩
              · exact absurd hg (by decide)
              · rfl
            · intro V w1 hbR ⟨f15, f7, _⟩
              replace f7 : V 7 = .bool false := f7
              replace f15 : V 15 = undef := f15
              refine .inl ⟨_, f7, fun hg => ?_, fun hg => ?_⟩
              · exact absurd hg (by decide)
              · rfl
            · intro V w1 hbR ⟨f16, f7, _⟩
              replace f7 : V 7 = .bool false := f7
              replace f16 : V 16 = undef := f16
              refine .inl ⟨_, f7, fun hg => ?_, fun hg => ?_⟩
              · exact absurd hg (by decide)
              · rfl
            · intro V w1 hbR ⟨f12, f17, f7, _, _⟩
              replace f7 : V 7 = .bool false := f7
              replace f12 : V 12 = undef := f12
              replace f17 : V 17 = undef := f17
              refine .inl ⟨_, f7, fun hg => ?_, fun hg => ?_⟩
              · exact absurd hg (by decide)
              · rfl
            · intro V w1 hbR ⟨f7, f18, _⟩
              replace f7 : V 7 = .bool false := f7
              replace f18 : V 18 = undef := f18
              unfold Does
              go_simp
              exact ⟨Below.refl _ _, rfl⟩
            · intro V w1 hbR ⟨f19, f18, _⟩
              replace f18 : V 18 = undef := f18
              replace f19 : V 19 = .bool false := f19
              unfold Does
              go_simp
              exact ⟨Below.refl _ _, rfl⟩
            · intro V w1 hbR ⟨f20, _⟩
              replace f20 : V 20 = .bool false := f20
              refine .inl ⟨_, f20, fun hg => ?_, fun hg => ?_⟩
              · unfold Does
                go_simp
                exact ⟨Below.refl _ _, rfl⟩
              · exact absurd rfl hg
            · intro V w1 hbR ⟨f21, f20, _⟩
              replace f20 : V 20 = .bool false := f20
              replace f21 : V 21 = .int .i64 k := f21
              refine .inl ⟨_, f20, fun hg => ?_, fun hg => ?_⟩
              · unfold Does
                go_simp
                exact ⟨Below.refl _ _, rfl⟩
              · exact absurd rfl hg
            · intro V w1 hbR ⟨f22, f20, _, _⟩
              replace f20 : V 20 = .bool false := f20
              replace f22 : V 22 = .bool false := f22
              refine .inl ⟨_, f20, fun hg => ?_, fun hg => ?_⟩
              · unfold Does
                go_simp
                exact ⟨Below.refl _ _, rfl⟩
              · exact absurd rfl hg
            · intro V w1 hbR ⟨f23, _⟩
              replace f23 : V 23 = .bool false := f23
              refine .inl ⟨_, f23, fun hg => ?_, fun hg => ?_⟩
              · exact absurd hg (by decide)
              · rfl
            · intro V w1 hbR ⟨f24, f23, _⟩
              replace f23 : V 23 = .bool false := f23
              replace f24 : V 24 = undef := f24
              refine .inl ⟨_, f23, fun hg => ?_, fun hg => ?_⟩
              · exact absurd hg (by decide)
              · rfl
            · intro V w1 hbR ⟨f23, _⟩
              replace f23 : V 23 = .bool false := f23
              refine .inl ⟨_, f23, fun hg => ?_, fun hg => ?_⟩
              · exact absurd hg (by decide)
              · rfl
            · intro V w1 hbR ⟨f26, f23, _⟩
              replace f23 : V 23 = .bool false := f23
              replace f26 : V 26 = undef := f26
              refine .inl ⟨_, f23, fun hg => ?_, fun hg => ?_⟩
              · exact absurd hg (by decide)
              · rfl
            · intro V w1 hbR ⟨f25, f27, f23, _⟩
              replace f23 : V 23 = .bool false := f23
              replace f25 : V 25 = undef := f25
              replace f27 : V 27 = undef := f27
              refine .inl ⟨_, f23, fun hg => ?_, fun hg => ?_⟩
              · exact absurd hg (by decide)
              · rfl
            · intro V w1 hbR ⟨f28, f23, _⟩
              replace f23 : V 23 = .bool false := f23
              replace f28 : V 28 = undef := f28
              refine .inl ⟨_, f23, fun hg => ?_, fun hg => ?_⟩
              · exact absurd hg (by decide)
              · rfl
            · intro V w1 hbR ⟨f29, f23, _⟩
              replace f23 : V 23 = .bool false := f23
              replace f29 : V 29 = undef := f29
              refine .inl ⟨_, f23, fun hg => ?_, fun hg => ?_⟩
              · exact absurd hg (by decide)
              · rfl
            · intro V w1 hbR ⟨f23, _⟩
              replace f23 : V 23 = .bool false := f23
              refine .inl ⟨_, f23, fun hg => ?_, fun hg => ?_⟩
              · exact absurd hg (by decide)
              · rfl
            · intro V w1 hbR ⟨f31, f23, _⟩
              replace f23 : V 23 = .bool false := f23
              replace f31 : V 31 = undef := f31
              refine .inl ⟨_, f23, fun hg => ?_, fun hg => ?_⟩
              · exact absurd hg (by decide)
              · rfl
            · intro V w1 hbR ⟨f30, f32, f23, _, _⟩
              replace f23 : V 23 = .bool false := f23
              replace f30 : V 30 = undef := f30
              replace f32 : V 32 = undef := f32
              refine .inl ⟨_, f23, fun hg => ?_, fun hg => ?_⟩
              · exact absurd hg (by decide)
              · rfl
            · intro V w1 hbR ⟨f23, f33, f20, _⟩
              replace f20 : V 20 = .bool false := f20
              replace f23 : V 23 = .bool false := f23
              replace f33 : V 33 = undef := f33
              refine .inl ⟨_, f20, fun hg => ?_, fun hg => ?_⟩
              · unfold Does
                go_simp
                exact ⟨Below.refl _ _, rfl⟩
              · exact absurd rfl hg
            · intro V w1 hbR ⟨f20, f34, _⟩
              replace f20 : V 20 = .bool false := f20
              replace f34 : V 34 = .bool false := f34
              unfold Does
              go_simp
              exact ⟨Below.refl _ _, rfl⟩
          intro V w3 hbR hfR
          obtain ⟨f0, f1, f2, f3, f4, f5, f6, f7, f8, f9, f10, f11, f12, f13, f14, f15, f16, f17, f18, f19, f20, f21, f22, f23, f24, f25, f26, f27, f28, f29, f30, f31, f32, f33, f34, f35, _⟩ := hfR
          replace f0 : V 0 = .pointer (some ⟨wr.heap.size, 0, none⟩) := f0
          replace f1 : V 1 = .bool false := f1
          replace f2 : V 2 = .bool false := f2
          replace f3 : V 3 = undef := f3
          replace f4 : V 4 = undef := f4
          replace f5 : V 5 = undef := f5
          replace f6 : V 6 = .bool false := f6
          replace f7 : V 7 = .bool false := f7
          replace f8 : V 8 = undef := f8
          replace f9 : V 9 = undef := f9
          replace f10 : V 10 = undef := f10
          replace f11 : V 11 = undef := f11
          replace f12 : V 12 = undef := f12
          replace f13 : V 13 = undef := f13
          replace f14 : V 14 = undef := f14
          replace f15 : V 15 = undef := f15
          replace f16 : V 16 = undef := f16
          replace f17 : V 17 = undef := f17
          replace f18 : V 18 = undef := f18
          replace f19 : V 19 = .bool false := f19
          replace f20 : V 20 = .bool false := f20
          replace f21 : V 21 = .int .i64 k := f21
          replace f22 : V 22 = .bool false := f22
          replace f23 : V 23 = .bool false := f23
          replace f24 : V 24 = undef := f24
          replace f25 : V 25 = undef := f25
          replace f26 : V 26 = undef := f26
          replace f27 : V 27 = undef := f27
          replace f28 : V 28 = undef := f28
          replace f29 : V 29 = undef := f29
          replace f30 : V 30 = undef := f30
          replace f31 : V 31 = undef := f31
          replace f32 : V 32 = undef := f32
          replace f33 : V 33 = undef := f33
          replace f34 : V 34 = .bool false := f34
          replace f35 : V 35 = .bool false := f35
          simp only [f0, f1, f2, f3, f4, f5, f6, f7, f8, f9, f10, f11, f12, f13, f14, f15, f16, f17, f18, f19, f20, f21, f22, f23, f24, f25, f26, f27, f28, f29, f30, f31, f32, f33, f34, f35]
          clear f0 f1 f2 f3 f4 f5 f6 f7 f8 f9 f10 f11 f12 f13 f14 f15 f16 f17 f18 f19 f20 f21 f22 f23 f24 f25 f26 f27 f28 f29 f30 f31 f32 f33 f34 f35
          clear eB0 lB eE0 eE1 eE2 lE
          go_wp2_with fail
          go_roundw
          case rel => exact ⟨k + 1, by omega, by go_num, HZ, hb.trans ((hA0.trans (hbR.mono hA0.size)).mono hz)⟩
          case measure => simp [intOf]; omega
    · obtain rfl : k = ts.length := by omega
      have HZ : Hid (Cl.taut ⟨ts⟩ = false) := Cl.taut_not HX.out
      clear hr
      go_wp2_with fail
      go_ret
      exact Gives.mk (by rw [HZ.out]; rfl) hbw
end Go.Proofs.Ytiifibmahomdhaa
