/- Several texts in one file. -/
import Derived.Test.YtglhbaigigdeeaaGreatQ04
/- Is a substitution valid? -/
namespace Go.Proofs.YtglhbaigigdeeaaGreat
set_option maxRecDepth 100000
open Go.RowKit

/-- a binding in itself -/
def Bnd.fits (b : Bnd) : Bool := varName b.var && b.term.valid && !decide (b.term.name = b.var)
/-- the binding at k, and that the name ahead of it is less -/
def Bnd.okAt (ts : List Bnd) (k : Nat) : Bool :=
  match ts[k]?, k with
  | none, _ => true
  | some b, 0 => b.fits
  | some b, j + 1 => b.fits && ((ts[j]?).map fun p => Op.bytesLess p.var.toList b.var.toList).getD true
def Bnd.allOk (ts : List Bnd) : Bool := (List.range ts.length).all (Bnd.okAt ts)
def Sb.valid (x : Sb) : Bool := Bnd.allOk x.bs && decide (x.bs.length ≤ 12)

theorem Bnd.okAt_zero {ts : List Bnd} (h : 0 < ts.length) : Bnd.okAt ts 0 = ts[0].fits := by
  unfold Bnd.okAt; rw [List.getElem?_eq_getElem h]
theorem Bnd.okAt_succ {ts : List Bnd} {j : Nat} (h : j + 1 < ts.length) : Bnd.okAt ts (j + 1) = (ts[j + 1].fits && Op.bytesLess ts[j].var.toList ts[j + 1].var.toList) := by
  unfold Bnd.okAt
  rw [List.getElem?_eq_getElem h]
  show (ts[j + 1].fits && (Option.map (fun p : Bnd => Op.bytesLess p.var.toList ts[j + 1].var.toList) ts[j]?).getD true) = _
  rw [List.getElem?_eq_getElem (show j < ts.length by omega)]; rfl
theorem Bnd.okAt_fits {ts : List Bnd} {k : Nat} (h : k < ts.length) (hf : ts[k].fits = false) : Bnd.okAt ts k = false := by
  cases k with
  | zero => rw [Bnd.okAt_zero h, hf]
  | succ j => rw [Bnd.okAt_succ h, hf]; rfl
theorem Bnd.allOk_bad {ts : List Bnd} {k : Nat} (h : k < ts.length) (hf : Bnd.okAt ts k = false) : Bnd.allOk ts = false := by
  rw [Bool.eq_false_iff]; intro e
  rw [Bnd.allOk, List.all_eq_true] at e
  rw [e k (List.mem_range.2 h)] at hf
  exact absurd hf (by simp)
theorem Bnd.allOk_good {ts : List Bnd} (h : ∀ i, i < ts.length → Bnd.okAt ts i = true) : Bnd.allOk ts = true := by
  rw [Bnd.allOk, List.all_eq_true]; exact fun i hi => h i (List.mem_range.1 hi)

set_option maxHeartbeats 4000000 in
theorem impl_IsValidSubstitution {x : Sb} {S : Nat → Prop} {c0 : Value} {w : World} (hr : Sb.at S w c0 x) (hbk : x.bulk ≤ 1048576) : Calls Tryz.prog 93 #[.agg #[c0]] w (Gives w (.bool x.valid)) := by
  obtain ⟨ts⟩ := x
  rw [Sb.bulk] at hbk
  unfold Sb.at at hr
  simp only at hr hbk
  obtain ⟨a, cap, rfl, hlen, hcap⟩ := Bnd.sd_form hr
  unfold big at hlen
  go_enter Tryz.func93, Tryz.ntmps93
  go_wp2_with fail
  go_loopw [8] (fun i wr => ∃ (k : Nat), k ≤ ts.length ∧ i = .int .i64 k ∧ Hid (∀ i, i < k → Bnd.okAt ts i = true) ∧ Below (w.heap.size + 1) (w.alloc (.cells #[.slice a ts.length cap] 40)) wr) (fun i _ => ts.length - (intOf i).toNat)
  case atStart => exact ⟨0, Nat.zero_le _, rfl, fun i h => absurd h (by omega), Below.refl _ _⟩
  case round =>
    obtain ⟨k, hk, rfl, HX, hb⟩ := hrel
    have hbw : Below w.heap.size w wr := ((Below.refl _ _).alloc (Nat.le_refl _) _).trans (hb.mono (by omega))
    have hz := hb.size
    simp only [World.size_alloc] at hz
    have hz0 : w.heap.size < wr.heap.size := by omega
    have bT : Box wr w.heap.size [.slice a ts.length cap] := by
      have q := (Box.new w [Value.slice a ts.length cap] 40)
      exact ⟨by omega, fun i hi => (hb.cell (by simp)).trans (q.cell i hi)⟩
    have e10 := bT.c0
    by_cases hlt : k < ts.length
    · have hne : ts ≠ [] := by intro e; subst e; simp at hlt
      obtain ⟨b, off, rfl, hS, hbl, hrr⟩ := Bnd.sd_get hr hne
      obtain ⟨c0, c1, c2, q0, q1, q2, qx⟩ := hrr k hlt
      have hvl := Bnd.var_le qx
      have hbm : ts[k].term.bulk ≤ 1048576 := by have := Bnd.bulk_mem (List.getElem_mem hlt); rw [Bnd.bulk] at this; omega
      obtain ⟨rfl, rfl, x, xc, rfl⟩ := Bnd.at_form qx
      replace q0 := (hbw.cell (p := ⟨b, off + k * 3, none⟩) hbl).trans q0
      replace q1 := (hbw.cell (p := ⟨b, off + k * 3 + 1, none⟩) hbl).trans q1
      replace q2 := (hbw.cell (p := ⟨b, off + k * 3 + 2, none⟩) hbl).trans q2
      have hE := Tm.at_keep (Keeps.all hbw) (Bnd.at_term qx)
      have hprev : ∀ j (hj : j < ts.length), wr.cell? ⟨b, off + j * 3, none⟩ = some (.string ts[j].var) := fun j hj => by
        obtain ⟨d0, d1, d2, p0, _, _, px⟩ := hrr j hj
        obtain ⟨rfl, _⟩ := Bnd.at_form px
        exact (hbw.cell (p := ⟨b, off + j * 3, none⟩) hbl).trans p0
      have HP := hid hprev
      clear hprev hrr hr qx
      go_wp2_with fail
      clear q0 q1 q2
      have hA0 : Below wr.heap.size wr (wr.alloc (.cells #[.string ts[k].var, .string ts[k].term.name, .slice x ts[k].term.args.length xc] 91)) := (Below.refl _ _).alloc (Nat.le_refl _) _
      have bE : Box (wr.alloc (.cells #[.string ts[k].var, .string ts[k].term.name, .slice x ts[k].term.args.length xc] 91)) wr.heap.size [.string ts[k].var, .string ts[k].term.name, .slice x ts[k].term.args.length xc] := Box.new _ _ _
      replace bT := bT.keep hA0
      replace hE := Tm.at_keep (Keeps.all hA0) hE
      have HP' : Hid (∀ j (hj : j < ts.length), (wr.alloc (.cells #[.string ts[k].var, .string ts[k].term.name, .slice x ts[k].term.args.length xc] 91)).cell? ⟨b, off + j * 3, none⟩ = some (.string ts[j].var)) := fun j hj => cell_alloc (HP.out j hj) _
      have lb : b < (wr.alloc (.cells #[.string ts[k].var, .string ts[k].term.name, .slice x ts[k].term.args.length xc] 91)).heap.size := Nat.lt_of_lt_of_le hbl (hbw.trans (hA0.mono hbw.size)).size
      have hz1 := hA0.size
      clear HP e10
      generalize wr.alloc (.cells #[.string ts[k].var, .string ts[k].term.name, .slice x ts[k].term.args.length xc] 91) = w2 at *
      have hW := hbw.trans (hA0.mono hbw.size)
      have eB0 := bT.c0
      have lB := bT.lt
      have eE0 := bE.c0
      have eE1 := bE.c1
      have eE2 := bE.c2
      have lE := bE.lt
      by_cases hA : varName ts[k].var = true
      · skip
        rcases k with _ | j
        · skip
          by_cases hG : ts[0].term.valid = true
          · skip
            by_cases hN : ts[0].term.name = ts[0].var
            · have hN1 : (ts[0].term.name.toList == ts[0].var.toList) = true := by rw [hN]; simp
              have HZ : Hid (Bnd.allOk ts = false) := Bnd.allOk_bad hlt (by rw [Bnd.okAt_zero hlt]; simp [Bnd.fits, hA, hG, hN])
              clear hN
              refine wp_region_B [fun v _ => v = .pointer (some ⟨wr.heap.size, 0, none⟩), fun v _ => v = .string ts[0].var, fun v _ => v = .bool true, fun v _ => v = .bool false, fun v _ => v = .bool false, fun v _ => v = .int .i64 ((0 : Nat) : Int), fun v _ => v = .bool false, fun v _ => v = .bool false, fun v _ => v = undef, fun v _ => v = undef, fun v _ => v = undef, fun v _ => v = undef, fun v _ => v = undef, fun v _ => v = undef, fun v _ => v = undef, fun v _ => v = undef, fun v _ => v = undef, fun v _ => v = undef, fun v _ => v = .bool false, fun v _ => v = .bool false, fun v _ => v = .bool false, fun v _ => v = .pointer (some ⟨wr.heap.size, 1, none⟩), fun v _ => v = .agg #[.string ts[0].term.name, .slice x ts[0].term.args.length xc], fun v _ => v = .bool true, fun v _ => v = .bool false, fun v _ => v = .bool false, fun v _ => v = .bool false, fun v _ => v = .pointer (some ⟨wr.heap.size, 1, none⟩), fun v _ => v = .pointer (some ⟨wr.heap.size, 1, none⟩), fun v _ => v = .string ts[0].term.name, fun v _ => v = .pointer (some ⟨wr.heap.size, 0, none⟩), fun v _ => v = .string ts[0].var, fun v _ => v = .bool true, fun v _ => v = .bool true] _ (fun V => by simp [putAll, Act.put]; rfl) (by kernel_rfl) (by decide) (by simp) (by kernel_rfl) ?_ ?_ ?_
              · intro F hF
                simp only [List.mem_cons, List.not_mem_nil, or_false] at hF
                rcases hF with rfl | rfl | rfl | rfl | rfl | rfl | rfl | rfl | rfl | rfl | rfl | rfl | rfl | rfl | rfl | rfl | rfl | rfl | rfl | rfl | rfl | rfl | rfl | rfl | rfl | rfl | rfl | rfl | rfl | rfl | rfl | rfl | rfl | rfl
                · exact stable_eq
                · exact stable_eq
                · exact stable_eq
                · exact stable_eq
                · exact stable_eq
                · exact stable_eq
                · exact stable_eq
                · exact stable_eq
                · exact stable_eq
                · exact stable_eq
                · exact stable_eq
                · exact stable_eq
                · exact stable_eq
                · exact stable_eq
                · exact stable_eq
                · exact stable_eq
                · exact stable_eq
                · exact stable_eq
                · exact stable_eq
                · exact stable_eq
                · exact stable_eq
                · exact stable_eq
                · exact stable_eq
                · exact stable_eq
                · exact stable_eq
                · exact stable_eq
                · exact stable_eq
                · exact stable_eq
                · exact stable_eq
                · exact stable_eq
                · exact stable_eq
                · exact stable_eq
                · exact stable_eq
                · exact stable_eq
              · refine ⟨?_, ?_, ?_, ?_, ?_, ?_, ?_, ?_, ?_, ?_, ?_, ?_, ?_, ?_, ?_, ?_, ?_, ?_, ?_, ?_, ?_, ?_, ?_, ?_, ?_, ?_, ?_, ?_, ?_, ?_, ?_, ?_, ?_, ?_, trivial⟩
                · intro V w1 hbR _
                  unfold Does
                  go_simp
                  exact ⟨Below.refl _ _, rfl⟩
                · intro V w1 hbR ⟨f0, _⟩
                  replace f0 : V 0 = .pointer (some ⟨wr.heap.size, 0, none⟩) := f0
                  obtain ⟨hc, hf⟩ := bcell hbR
                  try simp only [World.size_alloc, World.size_setCell] at hc hf
                  unfold Does
                  go_simp
                  exact ⟨Below.refl _ _, rfl⟩
                · intro V w1 hbR ⟨f1, _⟩
                  replace f1 : V 1 = .string ts[0].var := f1
                  obtain ⟨hc, hf⟩ := bcell hbR
                  try simp only [World.size_alloc, World.size_setCell] at hc hf
                  unfold Does
                  go_simp
                  refine (isVariable_any _ hvl w1).mono ?_; rintro e w4 ⟨rfl, rfl⟩; exact ⟨_, rfl, Below.refl _ _, by rw [hA]⟩
                · intro V w1 hbR ⟨f2, _⟩
                  replace f2 : V 2 = .bool true := f2
                  unfold Does
                  go_simp
                  exact ⟨Below.refl _ _, rfl⟩
                · intro V w1 hbR ⟨f3, f2, _⟩
                  replace f2 : V 2 = .bool true := f2
                  replace f3 : V 3 = .bool false := f3
                  unfold Does
                  go_simp
                  exact ⟨Below.refl _ _, rfl⟩
                · intro V w1 hbR ⟨f4, _⟩
                  replace f4 : V 4 = .bool false := f4
                  refine .inl ⟨_, f4, fun hg => ?_, fun hg => ?_⟩
                  · unfold Does
                    go_simp
                    exact ⟨Below.refl _ _, rfl⟩
                  · exact absurd rfl hg
                · intro V w1 hbR ⟨f5, f4, _⟩
                  replace f4 : V 4 = .bool false := f4
                  replace f5 : V 5 = .int .i64 ((0 : Nat) : Int) := f5
                  refine .inl ⟨_, f4, fun hg => ?_, fun hg => ?_⟩
                  · unfold Does
                    go_simp
                    exact ⟨Below.refl _ _, rfl⟩
                  · exact absurd rfl hg
                · intro V w1 hbR ⟨f6, f4, _, _⟩
                  replace f4 : V 4 = .bool false := f4
                  replace f6 : V 6 = .bool false := f6
                  refine .inl ⟨_, f4, fun hg => ?_, fun hg => ?_⟩
                  · unfold Does
                    go_simp
                    exact ⟨Below.refl _ _, rfl⟩
                  · exact absurd rfl hg
                · intro V w1 hbR ⟨f7, _⟩
                  replace f7 : V 7 = .bool false := f7
                  refine .inl ⟨_, f7, fun hg => ?_, fun hg => ?_⟩
                  · exact absurd hg (by decide)
                  · rfl
                · intro V w1 hbR ⟨f8, f7, _⟩
                  replace f7 : V 7 = .bool false := f7
                  replace f8 : V 8 = undef := f8
                  refine .inl ⟨_, f7, fun hg => ?_, fun hg => ?_⟩
                  · exact absurd hg (by decide)
                  · rfl
                · intro V w1 hbR ⟨f7, _⟩
                  replace f7 : V 7 = .bool false := f7
                  refine .inl ⟨_, f7, fun hg => ?_, fun hg => ?_⟩
                  · exact absurd hg (by decide)
                  · rfl
                · intro V w1 hbR ⟨f10, f7, _⟩
                  replace f7 : V 7 = .bool false := f7
                  replace f10 : V 10 = undef := f10
                  refine .inl ⟨_, f7, fun hg => ?_, fun hg => ?_⟩
                  · exact absurd hg (by decide)
                  · rfl
                · intro V w1 hbR ⟨f7, _⟩
                  replace f7 : V 7 = .bool false := f7
                  refine .inl ⟨_, f7, fun hg => ?_, fun hg => ?_⟩
                  · exact absurd hg (by decide)
                  · rfl
                · intro V w1 hbR ⟨f12, f7, _⟩
                  replace f7 : V 7 = .bool false := f7
                  replace f12 : V 12 = undef := f12
                  refine .inl ⟨_, f7, fun hg => ?_, fun hg => ?_⟩
                  · exact absurd hg (by decide)
                  · rfl
                · intro V w1 hbR ⟨f11, f13, f7, _⟩
                  replace f7 : V 7 = .bool false := f7
                  replace f11 : V 11 = undef := f11
                  replace f13 : V 13 = undef := f13
                  refine .inl ⟨_, f7, fun hg => ?_, fun hg => ?_⟩
                  · exact absurd hg (by decide)
                  · rfl
                · intro V w1 hbR ⟨f14, f7, _⟩
                  replace f7 : V 7 = .bool false := f7
                  replace f14 : V 14 = undef := f14
                  refine .inl ⟨_, f7, fun hg => ?_, fun hg => ?_⟩
                  · exact absurd hg (by decide)
                  · rfl
                · intro V w1 hbR ⟨f15, f7, _⟩
                  replace f7 : V 7 = .bool false := f7
                  replace f15 : V 15 = undef := f15
                  refine .inl ⟨_, f7, fun hg => ?_, fun hg => ?_⟩
                  · exact absurd hg (by decide)
                  · rfl
                · intro V w1 hbR ⟨f9, f16, f7, _⟩
                  replace f7 : V 7 = .bool false := f7
                  replace f9 : V 9 = undef := f9
                  replace f16 : V 16 = undef := f16
                  refine .inl ⟨_, f7, fun hg => ?_, fun hg => ?_⟩
                  · exact absurd hg (by decide)
                  · rfl
                · intro V w1 hbR ⟨f7, f17, f4, _⟩
                  replace f4 : V 4 = .bool false := f4
                  replace f7 : V 7 = .bool false := f7
                  replace f17 : V 17 = undef := f17
                  refine .inl ⟨_, f4, fun hg => ?_, fun hg => ?_⟩
                  · unfold Does
                    go_simp
                    exact ⟨Below.refl _ _, rfl⟩
                  · exact absurd rfl hg
                · intro V w1 hbR ⟨f4, f18, _⟩
                  replace f4 : V 4 = .bool false := f4
                  replace f18 : V 18 = .bool false := f18
                  unfold Does
                  go_simp
                  exact ⟨Below.refl _ _, rfl⟩
                · intro V w1 hbR ⟨f19, f7, _⟩
                  replace f7 : V 7 = .bool false := f7
                  replace f19 : V 19 = .bool false := f19
                  unfold Does
                  go_simp
                  exact ⟨Below.refl _ _, rfl⟩
                · intro V w1 hbR ⟨f20, _⟩
                  replace f20 : V 20 = .bool false := f20
                  refine .inl ⟨_, f20, fun hg => ?_, fun hg => ?_⟩
                  · unfold Does
                    go_simp
                    exact ⟨Below.refl _ _, rfl⟩
                  · exact absurd rfl hg
                · intro V w1 hbR ⟨f21, f20, _⟩
                  replace f20 : V 20 = .bool false := f20
                  replace f21 : V 21 = .pointer (some ⟨wr.heap.size, 1, none⟩) := f21
                  refine .inl ⟨_, f20, fun hg => ?_, fun hg => ?_⟩
                  · obtain ⟨hc, hf⟩ := bcell hbR
                    try simp only [World.size_alloc, World.size_setCell] at hc hf
                    unfold Does
                    go_simp
                    exact ⟨Below.refl _ _, rfl⟩
                  · exact absurd rfl hg
                · intro V w1 hbR ⟨f22, f20, _, _⟩
                  replace f20 : V 20 = .bool false := f20
                  replace f22 : V 22 = .agg #[.string ts[0].term.name, .slice x ts[0].term.args.length xc] := f22
                  refine .inl ⟨_, f20, fun hg => ?_, fun hg => ?_⟩
                  · obtain ⟨hc, hf⟩ := bcell hbR
                    try simp only [World.size_alloc, World.size_setCell] at hc hf
                    unfold Does
                    go_simp
                    have hq := isValidTerm_any ts[0].term (Tm.at_keep (Keeps.all hbR) hE) hbm; rw [hG] at hq; exact hq
                  · exact absurd rfl hg
                · intro V w1 hbR ⟨f23, f20, _⟩
                  replace f20 : V 20 = .bool false := f20
                  replace f23 : V 23 = .bool true := f23
                  refine .inl ⟨_, f20, fun hg => ?_, fun hg => ?_⟩
                  · unfold Does
                    go_simp
                    exact ⟨Below.refl _ _, rfl⟩
                  · exact absurd rfl hg
                · intro V w1 hbR ⟨f20, f24, _⟩
                  replace f20 : V 20 = .bool false := f20
                  replace f24 : V 24 = .bool false := f24
                  unfold Does
                  go_simp
                  exact ⟨Below.refl _ _, rfl⟩
                · intro V w1 hbR ⟨f25, f23, _⟩
                  replace f23 : V 23 = .bool true := f23
                  replace f25 : V 25 = .bool false := f25
                  unfold Does
                  go_simp
                  exact ⟨Below.refl _ _, rfl⟩
                · intro V w1 hbR ⟨f26, _⟩
                  replace f26 : V 26 = .bool false := f26
                  refine .inl ⟨_, f26, fun hg => ?_, fun hg => ?_⟩
                  · unfold Does
                    go_simp
                    exact ⟨Below.refl _ _, rfl⟩
                  · exact absurd rfl hg
                · intro V w1 hbR ⟨f27, f26, _⟩
                  replace f26 : V 26 = .bool false := f26
                  replace f27 : V 27 = .pointer (some ⟨wr.heap.size, 1, none⟩) := f27
                  refine .inl ⟨_, f26, fun hg => ?_, fun hg => ?_⟩
                  · unfold Does
                    go_simp
                    exact ⟨Below.refl _ _, rfl⟩
                  · exact absurd rfl hg
                · intro V w1 hbR ⟨f28, f26, _⟩
                  replace f26 : V 26 = .bool false := f26
                  replace f28 : V 28 = .pointer (some ⟨wr.heap.size, 1, none⟩) := f28
                  refine .inl ⟨_, f26, fun hg => ?_, fun hg => ?_⟩
                  · obtain ⟨hc, hf⟩ := bcell hbR
                    try simp only [World.size_alloc, World.size_setCell] at hc hf
                    unfold Does
                    go_simp
                    exact ⟨Below.refl _ _, rfl⟩
                  · exact absurd rfl hg
                · intro V w1 hbR ⟨f26, _⟩
                  replace f26 : V 26 = .bool false := f26
                  refine .inl ⟨_, f26, fun hg => ?_, fun hg => ?_⟩
                  · unfold Does
                    go_simp
                    exact ⟨Below.refl _ _, rfl⟩
                  · exact absurd rfl hg
                · intro V w1 hbR ⟨f30, f26, _⟩
                  replace f26 : V 26 = .bool false := f26
                  replace f30 : V 30 = .pointer (some ⟨wr.heap.size, 0, none⟩) := f30
                  refine .inl ⟨_, f26, fun hg => ?_, fun hg => ?_⟩
                  · obtain ⟨hc, hf⟩ := bcell hbR
                    try simp only [World.size_alloc, World.size_setCell] at hc hf
                    unfold Does
                    go_simp
                    exact ⟨Below.refl _ _, rfl⟩
                  · exact absurd rfl hg
                · intro V w1 hbR ⟨f29, f31, f26, _⟩
                  replace f26 : V 26 = .bool false := f26
                  replace f29 : V 29 = .string ts[0].term.name := f29
                  replace f31 : V 31 = .string ts[0].var := f31
                  refine .inl ⟨_, f26, fun hg => ?_, fun hg => ?_⟩
                  · unfold Does
                    go_simp
                    exact ⟨Below.refl _ _, rfl⟩
                  · exact absurd rfl hg
                · intro V w1 hbR ⟨f26, f32, _⟩
                  replace f26 : V 26 = .bool false := f26
                  replace f32 : V 32 = .bool true := f32
                  unfold Does
                  go_simp
                  exact ⟨Below.refl _ _, rfl⟩
              intro V w3 hbR hfR
              obtain ⟨f0, f1, f2, f3, f4, f5, f6, f7, f8, f9, f10, f11, f12, f13, f14, f15, f16, f17, f18, f19, f20, f21, f22, f23, f24, f25, f26, f27, f28, f29, f30, f31, f32, f33, _⟩ := hfR
              replace f0 : V 0 = .pointer (some ⟨wr.heap.size, 0, none⟩) := f0
              replace f1 : V 1 = .string ts[0].var := f1
              replace f2 : V 2 = .bool true := f2
              replace f3 : V 3 = .bool false := f3
              replace f4 : V 4 = .bool false := f4
              replace f5 : V 5 = .int .i64 ((0 : Nat) : Int) := f5
              replace f6 : V 6 = .bool false := f6
              replace f7 : V 7 = .bool false := f7
              replace f8 : V 8 = undef := f8
              replace f9 : V 9 = undef := f9
              replace f10 : V 10 = undef := f10
              replace f11 : V 11 = undef := f11
              replace f12 : V 12 = undef := f12
              replace f13 : V 13 = undef := f13
              replace f14 : V 14 = undef := f14
              replace f15 : V 15 = undef := f15
              replace f16 : V 16 = undef := f16
              replace f17 : V 17 = undef := f17
              replace f18 : V 18 = .bool false := f18
              replace f19 : V 19 = .bool false := f19
              replace f20 : V 20 = .bool false := f20
              replace f21 : V 21 = .pointer (some ⟨wr.heap.size, 1, none⟩) := f21
              replace f22 : V 22 = .agg #[.string ts[0].term.name, .slice x ts[0].term.args.length xc] := f22
              replace f23 : V 23 = .bool true := f23
              replace f24 : V 24 = .bool false := f24
              replace f25 : V 25 = .bool false := f25
              replace f26 : V 26 = .bool false := f26
              replace f27 : V 27 = .pointer (some ⟨wr.heap.size, 1, none⟩) := f27
              replace f28 : V 28 = .pointer (some ⟨wr.heap.size, 1, none⟩) := f28
              replace f29 : V 29 = .string ts[0].term.name := f29
              replace f30 : V 30 = .pointer (some ⟨wr.heap.size, 0, none⟩) := f30
              replace f31 : V 31 = .string ts[0].var := f31
              replace f32 : V 32 = .bool true := f32
              replace f33 : V 33 = .bool true := f33
              simp only [f0, f1, f2, f3, f4, f5, f6, f7, f8, f9, f10, f11, f12, f13, f14, f15, f16, f17, f18, f19, f20, f21, f22, f23, f24, f25, f26, f27, f28, f29, f30, f31, f32, f33]
              clear f0 f1 f2 f3 f4 f5 f6 f7 f8 f9 f10 f11 f12 f13 f14 f15 f16 f17 f18 f19 f20 f21 f22 f23 f24 f25 f26 f27 f28 f29 f30 f31 f32 f33
              clear eB0 eE0 eE1 eE2 lB lE
              go_wp2_with fail
              go_ret
              exact Gives.mk (by rw [Sb.valid, HZ.out]; rfl) (hW.trans (hbR.mono hW.size))
            · have hN1 := toList_ne hN
              have HZ : Hid (∀ i, i < 0 + 1 → Bnd.okAt ts i = true) := fun i hi => if h : i < 0 then HX.out i h else by
                obtain rfl : i = 0 := by omega
                exact (by rw [Bnd.okAt_zero hlt]; simp [Bnd.fits, hA, hG, hN])
              clear hN
              refine wp_region_B [fun v _ => v = .pointer (some ⟨wr.heap.size, 0, none⟩), fun v _ => v = .string ts[0].var, fun v _ => v = .bool true, fun v _ => v = .bool false, fun v _ => v = .bool false, fun v _ => v = .int .i64 ((0 : Nat) : Int), fun v _ => v = .bool false, fun v _ => v = .bool false, fun v _ => v = undef, fun v _ => v = undef, fun v _ => v = undef, fun v _ => v = undef, fun v _ => v = undef, fun v _ => v = undef, fun v _ => v = undef, fun v _ => v = undef, fun v _ => v = undef, fun v _ => v = undef, fun v _ => v = .bool false, fun v _ => v = .bool false, fun v _ => v = .bool false, fun v _ => v = .pointer (some ⟨wr.heap.size, 1, none⟩), fun v _ => v = .agg #[.string ts[0].term.name, .slice x ts[0].term.args.length xc], fun v _ => v = .bool true, fun v _ => v = .bool false, fun v _ => v = .bool false, fun v _ => v = .bool false, fun v _ => v = .pointer (some ⟨wr.heap.size, 1, none⟩), fun v _ => v = .pointer (some ⟨wr.heap.size, 1, none⟩), fun v _ => v = .string ts[0].term.name, fun v _ => v = .pointer (some ⟨wr.heap.size, 0, none⟩), fun v _ => v = .string ts[0].var, fun v _ => v = .bool false, fun v _ => v = .bool false] _ (fun V => by simp [putAll, Act.put]; rfl) (by kernel_rfl) (by decide) (by simp) (by kernel_rfl) ?_ ?_ ?_
              · intro F hF
                simp only [List.mem_cons, List.not_mem_nil, or_false] at hF
                rcases hF with rfl | rfl | rfl | rfl | rfl | rfl | rfl | rfl | rfl | rfl | rfl | rfl | rfl | rfl | rfl | rfl | rfl | rfl | rfl | rfl | rfl | rfl | rfl | rfl | rfl | rfl | rfl | rfl | rfl | rfl | rfl | rfl | rfl | rfl
                · exact stable_eq
                · exact stable_eq
                · exact stable_eq
                · exact stable_eq
                · exact stable_eq
                · exact stable_eq
                · exact stable_eq
                · exact stable_eq
                · exact stable_eq
                · exact stable_eq
                · exact stable_eq
                · exact stable_eq
                · exact stable_eq
                · exact stable_eq
                · exact stable_eq
                · exact stable_eq
                · exact stable_eq
                · exact stable_eq
                · exact stable_eq
                · exact stable_eq
                · exact stable_eq
                · exact stable_eq
                · exact stable_eq
                · exact stable_eq
                · exact stable_eq
                · exact stable_eq
                · exact stable_eq
                · exact stable_eq
                · exact stable_eq
                · exact stable_eq
                · exact stable_eq
                · exact stable_eq
                · exact stable_eq
                · exact stable_eq
              · refine ⟨?_, ?_, ?_, ?_, ?_, ?_, ?_, ?_, ?_, ?_, ?_, ?_, ?_, ?_, ?_, ?_, ?_, ?_, ?_, ?_, ?_, ?_, ?_, ?_, ?_, ?_, ?_, ?_, ?_, ?_, ?_, ?_, ?_, ?_, trivial⟩
                · intro V w1 hbR _
                  unfold Does
                  go_simp
                  exact ⟨Below.refl _ _, rfl⟩
                · intro V w1 hbR ⟨f0, _⟩
                  replace f0 : V 0 = .pointer (some ⟨wr.heap.size, 0, none⟩) := f0
                  obtain ⟨hc, hf⟩ := bcell hbR
                  try simp only [World.size_alloc, World.size_setCell] at hc hf
                  unfold Does
                  go_simp
                  exact ⟨Below.refl _ _, rfl⟩
                · intro V w1 hbR ⟨f1, _⟩
                  replace f1 : V 1 = .string ts[0].var := f1
                  obtain ⟨hc, hf⟩ := bcell hbR
                  try simp only [World.size_alloc, World.size_setCell] at hc hf
                  unfold Does
                  go_simp
                  refine (isVariable_any _ hvl w1).mono ?_; rintro e w4 ⟨rfl, rfl⟩; exact ⟨_, rfl, Below.refl _ _, by rw [hA]⟩
                · intro V w1 hbR ⟨f2, _⟩
                  replace f2 : V 2 = .bool true := f2
                  unfold Does
                  go_simp
                  exact ⟨Below.refl _ _, rfl⟩
                · intro V w1 hbR ⟨f3, f2, _⟩
                  replace f2 : V 2 = .bool true := f2
                  replace f3 : V 3 = .bool false := f3
                  unfold Does
                  go_simp
                  exact ⟨Below.refl _ _, rfl⟩
                · intro V w1 hbR ⟨f4, _⟩
                  replace f4 : V 4 = .bool false := f4
                  refine .inl ⟨_, f4, fun hg => ?_, fun hg => ?_⟩
                  · unfold Does
                    go_simp
                    exact ⟨Below.refl _ _, rfl⟩
                  · exact absurd rfl hg
                · intro V w1 hbR ⟨f5, f4, _⟩
                  replace f4 : V 4 = .bool false := f4
                  replace f5 : V 5 = .int .i64 ((0 : Nat) : Int) := f5
                  refine .inl ⟨_, f4, fun hg => ?_, fun hg => ?_⟩
                  · unfold Does
                    go_simp
                    exact ⟨Below.refl _ _, rfl⟩
                  · exact absurd rfl hg
                · intro V w1 hbR ⟨f6, f4, _, _⟩
                  replace f4 : V 4 = .bool false := f4
                  replace f6 : V 6 = .bool false := f6
                  refine .inl ⟨_, f4, fun hg => ?_, fun hg => ?_⟩
                  · unfold Does
                    go_simp
                    exact ⟨Below.refl _ _, rfl⟩
                  · exact absurd rfl hg
                · intro V w1 hbR ⟨f7, _⟩
                  replace f7 : V 7 = .bool false := f7
                  refine .inl ⟨_, f7, fun hg => ?_, fun hg => ?_⟩
                  · exact absurd hg (by decide)
                  · rfl
                · intro V w1 hbR ⟨f8, f7, _⟩
                  replace f7 : V 7 = .bool false := f7
                  replace f8 : V 8 = undef := f8
                  refine .inl ⟨_, f7, fun hg => ?_, fun hg => ?_⟩
                  · exact absurd hg (by decide)
                  · rfl
                · intro V w1 hbR ⟨f7, _⟩
                  replace f7 : V 7 = .bool false := f7
                  refine .inl ⟨_, f7, fun hg => ?_, fun hg => ?_⟩
                  · exact absurd hg (by decide)
                  · rfl
                · intro V w1 hbR ⟨f10, f7, _⟩
                  replace f7 : V 7 = .bool false := f7
                  replace f10 : V 10 = undef := f10
                  refine .inl ⟨_, f7, fun hg => ?_, fun hg => ?_⟩
                  · exact absurd hg (by decide)
                  · rfl
                · intro V w1 hbR ⟨f7, _⟩
                  replace f7 : V 7 = .bool false := f7
                  refine .inl ⟨_, f7, fun hg => ?_, fun hg => ?_⟩
                  · exact absurd hg (by decide)
                  · rfl
                · intro V w1 hbR ⟨f12, f7, _⟩
                  replace f7 : V 7 = .bool false := f7
                  replace f12 : V 12 = undef := f12
                  refine .inl ⟨_, f7, fun hg => ?_, fun hg => ?_⟩
                  · exact absurd hg (by decide)
                  · rfl
                · intro V w1 hbR ⟨f11, f13, f7, _⟩
                  replace f7 : V 7 = .bool false := f7
                  replace f11 : V 11 = undef := f11
                  replace f13 : V 13 = undef := f13
                  refine .inl ⟨_, f7, fun hg => ?_, fun hg => ?_⟩
                  · exact absurd hg (by decide)
                  · rfl
                · intro V w1 hbR ⟨f14, f7, _⟩
                  replace f7 : V 7 = .bool false := f7
                  replace f14 : V 14 = undef := f14
                  refine .inl ⟨_, f7, fun hg => ?_, fun hg => ?_⟩
                  · exact absurd hg (by decide)
                  · rfl
                · intro V w1 hbR ⟨f15, f7, _⟩
                  replace f7 : V 7 = .bool false := f7
                  replace f15 : V 15 = undef := f15
                  refine .inl ⟨_, f7, fun hg => ?_, fun hg => ?_⟩
                  · exact absurd hg (by decide)
                  · rfl
                · intro V w1 hbR ⟨f9, f16, f7, _⟩
                  replace f7 : V 7 = .bool false := f7
                  replace f9 : V 9 = undef := f9
                  replace f16 : V 16 = undef := f16
                  refine .inl ⟨_, f7, fun hg => ?_, fun hg => ?_⟩
                  · exact absurd hg (by decide)
                  · rfl
                · intro V w1 hbR ⟨f7, f17, f4, _⟩
                  replace f4 : V 4 = .bool false := f4
                  replace f7 : V 7 = .bool false := f7
                  replace f17 : V 17 = undef := f17
                  refine .inl ⟨_, f4, fun hg => ?_, fun hg => ?_⟩
                  · unfold Does
                    go_simp
                    exact ⟨Below.refl _ _, rfl⟩
                  · exact absurd rfl hg
                · intro V w1 hbR ⟨f4, f18, _⟩
                  replace f4 : V 4 = .bool false := f4
                  replace f18 : V 18 = .bool false := f18
                  unfold Does
                  go_simp
                  exact ⟨Below.refl _ _, rfl⟩
                · intro V w1 hbR ⟨f19, f7, _⟩
                  replace f7 : V 7 = .bool false := f7
                  replace f19 : V 19 = .bool false := f19
                  unfold Does
                  go_simp
                  exact ⟨Below.refl _ _, rfl⟩
                · intro V w1 hbR ⟨f20, _⟩
                  replace f20 : V 20 = .bool false := f20
                  refine .inl ⟨_, f20, fun hg => ?_, fun hg => ?_⟩
                  · unfold Does
                    go_simp
                    exact ⟨Below.refl _ _, rfl⟩
                  · exact absurd rfl hg
                · intro V w1 hbR ⟨f21, f20, _⟩
                  replace f20 : V 20 = .bool false := f20
                  replace f21 : V 21 = .pointer (some ⟨wr.heap.size, 1, none⟩) := f21
                  refine .inl ⟨_, f20, fun hg => ?_, fun hg => ?_⟩
                  · obtain ⟨hc, hf⟩ := bcell hbR
                    try simp only [World.size_alloc, World.size_setCell] at hc hf
                    unfold Does
                    go_simp
                    exact ⟨Below.refl _ _, rfl⟩
                  · exact absurd rfl hg
                · intro V w1 hbR ⟨f22, f20, _, _⟩
                  replace f20 : V 20 = .bool false := f20
                  replace f22 : V 22 = .agg #[.string ts[0].term.name, .slice x ts[0].term.args.length xc] := f22
                  refine .inl ⟨_, f20, fun hg => ?_, fun hg => ?_⟩
                  · obtain ⟨hc, hf⟩ := bcell hbR
                    try simp only [World.size_alloc, World.size_setCell] at hc hf
                    unfold Does
                    go_simp
                    have hq := isValidTerm_any ts[0].term (Tm.at_keep (Keeps.all hbR) hE) hbm; rw [hG] at hq; exact hq
                  · exact absurd rfl hg
                · intro V w1 hbR ⟨f23, f20, _⟩
                  replace f20 : V 20 = .bool false := f20
                  replace f23 : V 23 = .bool true := f23
                  refine .inl ⟨_, f20, fun hg => ?_, fun hg => ?_⟩
                  · unfold Does
                    go_simp
                    exact ⟨Below.refl _ _, rfl⟩
                  · exact absurd rfl hg
                · intro V w1 hbR ⟨f20, f24, _⟩
                  replace f20 : V 20 = .bool false := f20
                  replace f24 : V 24 = .bool false := f24
                  unfold Does
                  go_simp
                  exact ⟨Below.refl _ _, rfl⟩
                · intro V w1 hbR ⟨f25, f23, _⟩
                  replace f23 : V 23 = .bool true := f23
                  replace f25 : V 25 = .bool false := f25
                  unfold Does
                  go_simp
                  exact ⟨Below.refl _ _, rfl⟩
                · intro V w1 hbR ⟨f26, _⟩
                  replace f26 : V 26 = .bool false := f26
                  refine .inl ⟨_, f26, fun hg => ?_, fun hg => ?_⟩
                  · unfold Does
                    go_simp
                    exact ⟨Below.refl _ _, rfl⟩
                  · exact absurd rfl hg
                · intro V w1 hbR ⟨f27, f26, _⟩
                  replace f26 : V 26 = .bool false := f26
                  replace f27 : V 27 = .pointer (some ⟨wr.heap.size, 1, none⟩) := f27
                  refine .inl ⟨_, f26, fun hg => ?_, fun hg => ?_⟩
                  · unfold Does
                    go_simp
                    exact ⟨Below.refl _ _, rfl⟩
                  · exact absurd rfl hg
                · intro V w1 hbR ⟨f28, f26, _⟩
                  replace f26 : V 26 = .bool false := f26
                  replace f28 : V 28 = .pointer (some ⟨wr.heap.size, 1, none⟩) := f28
                  refine .inl ⟨_, f26, fun hg => ?_, fun hg => ?_⟩
                  · obtain ⟨hc, hf⟩ := bcell hbR
                    try simp only [World.size_alloc, World.size_setCell] at hc hf
                    unfold Does
                    go_simp
                    exact ⟨Below.refl _ _, rfl⟩
                  · exact absurd rfl hg
                · intro V w1 hbR ⟨f26, _⟩
                  replace f26 : V 26 = .bool false := f26
                  refine .inl ⟨_, f26, fun hg => ?_, fun hg => ?_⟩
                  · unfold Does
                    go_simp
                    exact ⟨Below.refl _ _, rfl⟩
                  · exact absurd rfl hg
                · intro V w1 hbR ⟨f30, f26, _⟩
                  replace f26 : V 26 = .bool false := f26
                  replace f30 : V 30 = .pointer (some ⟨wr.heap.size, 0, none⟩) := f30
                  refine .inl ⟨_, f26, fun hg => ?_, fun hg => ?_⟩
                  · obtain ⟨hc, hf⟩ := bcell hbR
                    try simp only [World.size_alloc, World.size_setCell] at hc hf
                    unfold Does
                    go_simp
                    exact ⟨Below.refl _ _, rfl⟩
                  · exact absurd rfl hg
                · intro V w1 hbR ⟨f29, f31, f26, _⟩
                  replace f26 : V 26 = .bool false := f26
                  replace f29 : V 29 = .string ts[0].term.name := f29
                  replace f31 : V 31 = .string ts[0].var := f31
                  refine .inl ⟨_, f26, fun hg => ?_, fun hg => ?_⟩
                  · unfold Does
                    go_simp
                    exact ⟨Below.refl _ _, rfl⟩
                  · exact absurd rfl hg
                · intro V w1 hbR ⟨f26, f32, _⟩
                  replace f26 : V 26 = .bool false := f26
                  replace f32 : V 32 = .bool false := f32
                  unfold Does
                  go_simp
                  exact ⟨Below.refl _ _, rfl⟩
              intro V w3 hbR hfR
              obtain ⟨f0, f1, f2, f3, f4, f5, f6, f7, f8, f9, f10, f11, f12, f13, f14, f15, f16, f17, f18, f19, f20, f21, f22, f23, f24, f25, f26, f27, f28, f29, f30, f31, f32, f33, _⟩ := hfR
              replace f0 : V 0 = .pointer (some ⟨wr.heap.size, 0, none⟩) := f0
              replace f1 : V 1 = .string ts[0].var := f1
              replace f2 : V 2 = .bool true := f2
              replace f3 : V 3 = .bool false := f3
              replace f4 : V 4 = .bool false := f4
              replace f5 : V 5 = .int .i64 ((0 : Nat) : Int) := f5
              replace f6 : V 6 = .bool false := f6
              replace f7 : V 7 = .bool false := f7
              replace f8 : V 8 = undef := f8
              replace f9 : V 9 = undef := f9
              replace f10 : V 10 = undef := f10
              replace f11 : V 11 = undef := f11
              replace f12 : V 12 = undef := f12
              replace f13 : V 13 = undef := f13
              replace f14 : V 14 = undef := f14
              replace f15 : V 15 = undef := f15
              replace f16 : V 16 = undef := f16
              replace f17 : V 17 = undef := f17
              replace f18 : V 18 = .bool false := f18
              replace f19 : V 19 = .bool false := f19
              replace f20 : V 20 = .bool false := f20
              replace f21 : V 21 = .pointer (some ⟨wr.heap.size, 1, none⟩) := f21
              replace f22 : V 22 = .agg #[.string ts[0].term.name, .slice x ts[0].term.args.length xc] := f22
              replace f23 : V 23 = .bool true := f23
              replace f24 : V 24 = .bool false := f24
              replace f25 : V 25 = .bool false := f25
              replace f26 : V 26 = .bool false := f26
              replace f27 : V 27 = .pointer (some ⟨wr.heap.size, 1, none⟩) := f27
              replace f28 : V 28 = .pointer (some ⟨wr.heap.size, 1, none⟩) := f28
              replace f29 : V 29 = .string ts[0].term.name := f29
              replace f30 : V 30 = .pointer (some ⟨wr.heap.size, 0, none⟩) := f30
              replace f31 : V 31 = .string ts[0].var := f31
              replace f32 : V 32 = .bool false := f32
              replace f33 : V 33 = .bool false := f33
              simp only [f0, f1, f2, f3, f4, f5, f6, f7, f8, f9, f10, f11, f12, f13, f14, f15, f16, f17, f18, f19, f20, f21, f22, f23, f24, f25, f26, f27, f28, f29, f30, f31, f32, f33]
              clear f0 f1 f2 f3 f4 f5 f6 f7 f8 f9 f10 f11 f12 f13 f14 f15 f16 f17 f18 f19 f20 f21 f22 f23 f24 f25 f26 f27 f28 f29 f30 f31 f32 f33
              clear eB0 eE0 eE1 eE2 lB lE
              go_wp2_with fail
              go_roundw
              case rel => exact ⟨0 + 1, by omega, by go_num, HZ, hb.trans ((hA0.trans (hbR.mono hA0.size)).mono hz)⟩
              case measure => simp [intOf]; omega
          · replace hG : ts[0].term.valid = false := by simpa using hG
            have HZ : Hid (Bnd.allOk ts = false) := Bnd.allOk_bad hlt (by rw [Bnd.okAt_zero hlt]; simp [Bnd.fits, hA, hG])
            refine wp_region_B [fun v _ => v = .pointer (some ⟨wr.heap.size, 0, none⟩), fun v _ => v = .string ts[0].var, fun v _ => v = .bool true, fun v _ => v = .bool false, fun v _ => v = .bool false, fun v _ => v = .int .i64 ((0 : Nat) : Int), fun v _ => v = .bool false, fun v _ => v = .bool false, fun v _ => v = undef, fun v _ => v = undef, fun v _ => v = undef, fun v _ => v = undef, fun v _ => v = undef, fun v _ => v = undef, fun v _ => v = undef, fun v _ => v = undef, fun v _ => v = undef, fun v _ => v = undef, fun v _ => v = .bool false, fun v _ => v = .bool false, fun v _ => v = .bool false, fun v _ => v = .pointer (some ⟨wr.heap.size, 1, none⟩), fun v _ => v = .agg #[.string ts[0].term.name, .slice x ts[0].term.args.length xc], fun v _ => v = .bool false, fun v _ => v = .bool true, fun v _ => v = .bool true, fun v _ => v = .bool true, fun v _ => v = undef, fun v _ => v = undef, fun v _ => v = undef, fun v _ => v = undef, fun v _ => v = undef, fun v _ => v = undef, fun v _ => v = .bool true] _ (fun V => by simp [putAll, Act.put]; rfl) (by kernel_rfl) (by decide) (by simp) (by kernel_rfl) ?_ ?_ ?_
            · intro F hF
              simp only [List.mem_cons, List.not_mem_nil, or_false] at hF
              rcases hF with rfl | rfl | rfl | rfl | rfl | rfl | rfl | rfl | rfl | rfl | rfl | rfl | rfl | rfl | rfl | rfl | rfl | rfl | rfl | rfl | rfl | rfl | rfl | rfl | rfl | rfl | rfl | rfl | rfl | rfl | rfl | rfl | rfl | rfl
              · exact stable_eq
              · exact stable_eq
              · exact stable_eq
              · exact stable_eq
              · exact stable_eq
              · exact stable_eq
              · exact stable_eq
              · exact stable_eq
              · exact stable_eq
              · exact stable_eq
              · exact stable_eq
              · exact stable_eq
              · exact stable_eq
              · exact stable_eq
              · exact stable_eq
              · exact stable_eq
              · exact stable_eq
              · exact stable_eq
              · exact stable_eq
              · exact stable_eq
              · exact stable_eq
              · exact stable_eq
              · exact stable_eq
              · exact stable_eq
              · exact stable_eq
              · exact stable_eq
              · exact stable_eq
              · exact stable_eq
              · exact stable_eq
              · exact stable_eq
              · exact stable_eq
              · exact stable_eq
              · exact stable_eq
              · exact stable_eq
            · refine ⟨?_, ?_, ?_, ?_, ?_, ?_, ?_, ?_, ?_, ?_, ?_, ?_, ?_, ?_, ?_, ?_, ?_, ?_, ?_, ?_, ?_, ?_, ?_, ?_, ?_, ?_, ?_, ?_, ?_, ?_, ?_, ?_, ?_, ?_, trivial⟩
              · intro V w1 hbR _
                unfold Does
                go_simp
                exact ⟨Below.refl _ _, rfl⟩
              · intro V w1 hbR ⟨f0, _⟩
                replace f0 : V 0 = .pointer (some ⟨wr.heap.size, 0, none⟩) := f0
                obtain ⟨hc, hf⟩ := bcell hbR
                try simp only [World.size_alloc, World.size_setCell] at hc hf
                unfold Does
                go_simp
                exact ⟨Below.refl _ _, rfl⟩
              · intro V w1 hbR ⟨f1, _⟩
                replace f1 : V 1 = .string ts[0].var := f1
                obtain ⟨hc, hf⟩ := bcell hbR
                try simp only [World.size_alloc, World.size_setCell] at hc hf
                unfold Does
                go_simp
                refine (isVariable_any _ hvl w1).mono ?_; rintro e w4 ⟨rfl, rfl⟩; exact ⟨_, rfl, Below.refl _ _, by rw [hA]⟩
              · intro V w1 hbR ⟨f2, _⟩
                replace f2 : V 2 = .bool true := f2
                unfold Does
                go_simp
                exact ⟨Below.refl _ _, rfl⟩
              · intro V w1 hbR ⟨f3, f2, _⟩
                replace f2 : V 2 = .bool true := f2
                replace f3 : V 3 = .bool false := f3
                unfold Does
                go_simp
                exact ⟨Below.refl _ _, rfl⟩
              · intro V w1 hbR ⟨f4, _⟩
                replace f4 : V 4 = .bool false := f4
                refine .inl ⟨_, f4, fun hg => ?_, fun hg => ?_⟩
                · unfold Does
                  go_simp
                  exact ⟨Below.refl _ _, rfl⟩
                · exact absurd rfl hg
              · intro V w1 hbR ⟨f5, f4, _⟩
                replace f4 : V 4 = .bool false := f4
                replace f5 : V 5 = .int .i64 ((0 : Nat) : Int) := f5
                refine .inl ⟨_, f4, fun hg => ?_, fun hg => ?_⟩
                · unfold Does
                  go_simp
                  exact ⟨Below.refl _ _, rfl⟩
                · exact absurd rfl hg
              · intro V w1 hbR ⟨f6, f4, _, _⟩
                replace f4 : V 4 = .bool false := f4
                replace f6 : V 6 = .bool false := f6
                refine .inl ⟨_, f4, fun hg => ?_, fun hg => ?_⟩
                · unfold Does
                  go_simp
                  exact ⟨Below.refl _ _, rfl⟩
                · exact absurd rfl hg
              · intro V w1 hbR ⟨f7, _⟩
                replace f7 : V 7 = .bool false := f7
                refine .inl ⟨_, f7, fun hg => ?_, fun hg => ?_⟩
                · exact absurd hg (by decide)
                · rfl
              · intro V w1 hbR ⟨f8, f7, _⟩
                replace f7 : V 7 = .bool false := f7
                replace f8 : V 8 = undef := f8
                refine .inl ⟨_, f7, fun hg => ?_, fun hg => ?_⟩
                · exact absurd hg (by decide)
                · rfl
              · intro V w1 hbR ⟨f7, _⟩
                replace f7 : V 7 = .bool false := f7
                refine .inl ⟨_, f7, fun hg => ?_, fun hg => ?_⟩
                · exact absurd hg (by decide)
                · rfl
              · intro V w1 hbR ⟨f10, f7, _⟩
                replace f7 : V 7 = .bool false := f7
                replace f10 : V 10 = undef := f10
                refine .inl ⟨_, f7, fun hg => ?_, fun hg => ?_⟩
                · exact absurd hg (by decide)
                · rfl
              · intro V w1 hbR ⟨f7, _⟩
                replace f7 : V 7 = .bool false := f7
                refine .inl ⟨_, f7, fun hg => ?_, fun hg => ?_⟩
                · exact absurd hg (by decide)
                · rfl
              · intro V w1 hbR ⟨f12, f7, _⟩
                replace f7 : V 7 = .bool false := f7
                replace f12 : V 12 = undef := f12
                refine .inl ⟨_, f7, fun hg => ?_, fun hg => ?_⟩
                · exact absurd hg (by decide)
                · rfl
              · intro V w1 hbR ⟨f11, f13, f7, _⟩
                replace f7 : V 7 = .bool false := f7
                replace f11 : V 11 = undef := f11
                replace f13 : V 13 = undef := f13
                refine .inl ⟨_, f7, fun hg => ?_, fun hg => ?_⟩
                · exact absurd hg (by decide)
                · rfl
              · intro V w1 hbR ⟨f14, f7, _⟩
                replace f7 : V 7 = .bool false := f7
                replace f14 : V 14 = undef := f14
                refine .inl ⟨_, f7, fun hg => ?_, fun hg => ?_⟩
                · exact absurd hg (by decide)
                · rfl
              · intro V w1 hbR ⟨f15, f7, _⟩
                replace f7 : V 7 = .bool false := f7
                replace f15 : V 15 = undef := f15
                refine .inl ⟨_, f7, fun hg => ?_, fun hg => ?_⟩
                · exact absurd hg (by decide)
                · rfl
              · intro V w1 hbR ⟨f9, f16, f7, _⟩
                replace f7 : V 7 = .bool false := f7
                replace f9 : V 9 = undef := f9
                replace f16 : V 16 = undef := f16
                refine .inl ⟨_, f7, fun hg => ?_, fun hg => ?_⟩
                · exact absurd hg (by decide)
                · rfl
              · intro V w1 hbR ⟨f7, f17, f4, _⟩
                replace f4 : V 4 = .bool false := f4
                replace f7 : V 7 = .bool false := f7
                replace f17 : V 17 = undef := f17
                refine .inl ⟨_, f4, fun hg => ?_, fun hg => ?_⟩
                · unfold Does
                  go_simp
                  exact ⟨Below.refl _ _, rfl⟩
                · exact absurd rfl hg
              · intro V w1 hbR ⟨f4, f18, _⟩
                replace f4 : V 4 = .bool false := f4
                replace f18 : V 18 = .bool false := f18
                unfold Does
                go_simp
                exact ⟨Below.refl _ _, rfl⟩
              · intro V w1 hbR ⟨f19, f7, _⟩
                replace f7 : V 7 = .bool false := f7
                replace f19 : V 19 = .bool false := f19
                unfold Does
                go_simp
                exact ⟨Below.refl _ _, rfl⟩
              · intro V w1 hbR ⟨f20, _⟩
                replace f20 : V 20 = .bool false := f20
                refine .inl ⟨_, f20, fun hg => ?_, fun hg => ?_⟩
                · unfold Does
                  go_simp
                  exact ⟨Below.refl _ _, rfl⟩
                · exact absurd rfl hg
              · intro V w1 hbR ⟨f21, f20, _⟩
                replace f20 : V 20 = .bool false := f20
                replace f21 : V 21 = .pointer (some ⟨wr.heap.size, 1, none⟩) := f21
                refine .inl ⟨_, f20, fun hg => ?_, fun hg => ?_⟩
                · obtain ⟨hc, hf⟩ := bcell hbR
                  try simp only [World.size_alloc, World.size_setCell] at hc hf
                  unfold Does
                  go_simp
                  exact ⟨Below.refl _ _, rfl⟩
                · exact absurd rfl hg
              · intro V w1 hbR ⟨f22, f20, _, _⟩
                replace f20 : V 20 = .bool false := f20
                replace f22 : V 22 = .agg #[.string ts[0].term.name, .slice x ts[0].term.args.length xc] := f22
                refine .inl ⟨_, f20, fun hg => ?_, fun hg => ?_⟩
                · obtain ⟨hc, hf⟩ := bcell hbR
                  try simp only [World.size_alloc, World.size_setCell] at hc hf
                  unfold Does
                  go_simp
                  have hq := isValidTerm_any ts[0].term (Tm.at_keep (Keeps.all hbR) hE) hbm; rw [hG] at hq; exact hq
                · exact absurd rfl hg
              · intro V w1 hbR ⟨f23, f20, _⟩
                replace f20 : V 20 = .bool false := f20
                replace f23 : V 23 = .bool false := f23
                refine .inl ⟨_, f20, fun hg => ?_, fun hg => ?_⟩
                · unfold Does
                  go_simp
                  exact ⟨Below.refl _ _, rfl⟩
                · exact absurd rfl hg
              · intro V w1 hbR ⟨f20, f24, _⟩
                replace f20 : V 20 = .bool false := f20
                replace f24 : V 24 = .bool true := f24
                unfold Does
                go_simp
                exact ⟨Below.refl _ _, rfl⟩
              · intro V w1 hbR ⟨f25, f23, _⟩
                replace f23 : V 23 = .bool false := f23
                replace f25 : V 25 = .bool true := f25
                unfold Does
                go_simp
                exact ⟨Below.refl _ _, rfl⟩
              · intro V w1 hbR ⟨f26, _⟩
                replace f26 : V 26 = .bool true := f26
                refine .inl ⟨_, f26, fun hg => ?_, fun hg => ?_⟩
                · exact absurd hg (by decide)
                · rfl
              · intro V w1 hbR ⟨f27, f26, _⟩
                replace f26 : V 26 = .bool true := f26
                replace f27 : V 27 = undef := f27
                refine .inl ⟨_, f26, fun hg => ?_, fun hg => ?_⟩
                · exact absurd hg (by decide)
                · rfl
              · intro V w1 hbR ⟨f28, f26, _⟩
                replace f26 : V 26 = .bool true := f26
                replace f28 : V 28 = undef := f28
                refine .inl ⟨_, f26, fun hg => ?_, fun hg => ?_⟩
                · exact absurd hg (by decide)
                · rfl
              · intro V w1 hbR ⟨f26, _⟩
                replace f26 : V 26 = .bool true := f26
                refine .inl ⟨_, f26, fun hg => ?_, fun hg => ?_⟩
                · exact absurd hg (by decide)
                · rfl
              · intro V w1 hbR ⟨f30, f26, _⟩
                replace f26 : V 26 = .bool true := f26
                replace f30 : V 30 = undef := f30
                refine .inl ⟨_, f26, fun hg => ?_, fun hg => ?_⟩
                · exact absurd hg (by decide)
                · rfl
              · intro V w1 hbR ⟨f29, f31, f26, _⟩
                replace f26 : V 26 = .bool true := f26
                replace f29 : V 29 = undef := f29
                replace f31 : V 31 = undef := f31
                refine .inl ⟨_, f26, fun hg => ?_, fun hg => ?_⟩
                · exact absurd hg (by decide)
                · rfl
              · intro V w1 hbR ⟨f26, f32, _⟩
                replace f26 : V 26 = .bool true := f26
                replace f32 : V 32 = undef := f32
                unfold Does
                go_simp
                exact ⟨Below.refl _ _, rfl⟩
            intro V w3 hbR hfR
            obtain ⟨f0, f1, f2, f3, f4, f5, f6, f7, f8, f9, f10, f11, f12, f13, f14, f15, f16, f17, f18, f19, f20, f21, f22, f23, f24, f25, f26, f27, f28, f29, f30, f31, f32, f33, _⟩ := hfR
            replace f0 : V 0 = .pointer (some ⟨wr.heap.size, 0, none⟩) := f0
            replace f1 : V 1 = .string ts[0].var := f1
            replace f2 : V 2 = .bool true := f2
            replace f3 : V 3 = .bool false := f3
            replace f4 : V 4 = .bool false := f4
            replace f5 : V 5 = .int .i64 ((0 : Nat) : Int) := f5
            replace f6 : V 6 = .bool false := f6
            replace f7 : V 7 = .bool false := f7
            replace f8 : V 8 = undef := f8
            replace f9 : V 9 = undef := f9
            replace f10 : V 10 = undef := f10
            replace f11 : V 11 = undef := f11
            replace f12 : V 12 = undef := f12
            replace f13 : V 13 = undef := f13
            replace f14 : V 14 = undef := f14
            replace f15 : V 15 = undef := f15
            replace f16 : V 16 = undef := f16
            replace f17 : V 17 = undef := f17
            replace f18 : V 18 = .bool false := f18
            replace f19 : V 19 = .bool false := f19
            replace f20 : V 20 = .bool false := f20
            replace f21 : V 21 = .pointer (some ⟨wr.heap.size, 1, none⟩) := f21
            replace f22 : V 22 = .agg #[.string ts[0].term.name, .slice x ts[0].term.args.length xc] := f22
            replace f23 : V 23 = .bool false := f23
            replace f24 : V 24 = .bool true := f24
            replace f25 : V 25 = .bool true := f25
            replace f26 : V 26 = .bool true := f26
            replace f27 : V 27 = undef := f27
            replace f28 : V 28 = undef := f28
            replace f29 : V 29 = undef := f29
            replace f30 : V 30 = undef := f30
            replace f31 : V 31 = undef := f31
            replace f32 : V 32 = undef := f32
            replace f33 : V 33 = .bool true := f33
            simp only [f0, f1, f2, f3, f4, f5, f6, f7, f8, f9, f10, f11, f12, f13, f14, f15, f16, f17, f18, f19, f20, f21, f22, f23, f24, f25, f26, f27, f28, f29, f30, f31, f32, f33]
            clear f0 f1 f2 f3 f4 f5 f6 f7 f8 f9 f10 f11 f12 f13 f14 f15 f16 f17 f18 f19 f20 f21 f22 f23 f24 f25 f26 f27 f28 f29 f30 f31 f32 f33
            clear eB0 eE0 eE1 eE2 lB lE
            go_wp2_with fail
            go_ret
            exact Gives.mk (by rw [Sb.valid, HZ.out]; rfl) (hW.trans (hbR.mono hW.size))
        · have hj : j < ts.length := by omega
          have p0 := HP'.out j hj
          by_cases hL : Op.bytesLess ts[j].var.toList ts[j + 1].var.toList = true
          · have hC := hL
            obtain ⟨hC1, hC2⟩ := bl_lt hL
            by_cases hG : ts[j + 1].term.valid = true
            · skip
              by_cases hN : ts[j + 1].term.name = ts[j + 1].var
              · have hN1 : (ts[j + 1].term.name.toList == ts[j + 1].var.toList) = true := by rw [hN]; simp
                have HZ : Hid (Bnd.allOk ts = false) := Bnd.allOk_bad hlt (by rw [Bnd.okAt_succ hlt]; simp [Bnd.fits, hA, hC, hG, hN])
                clear hN
                refine wp_region_B [fun v _ => v = .pointer (some ⟨wr.heap.size, 0, none⟩), fun v _ => v = .string ts[j + 1].var, fun v _ => v = .bool true, fun v _ => v = .bool false, fun v _ => v = .bool false, fun v _ => v = .int .i64 ((j + 1 : Nat) : Int), fun v _ => v = .bool true, fun v _ => v = .bool true, fun v _ => v = .pointer (some ⟨wr.heap.size, 0, none⟩), fun v _ => v = .string ts[j + 1].var, fun v _ => v = .pointer (some ⟨w.heap.size, 0, none⟩), fun v _ => v = .slice (some ⟨b, off, none⟩) ts.length cap, fun v _ => v = .int .i64 ((j + 1 : Nat) : Int), fun v _ => v = .int .i64 j, fun v _ => v = .pointer (some ⟨b, off + j * 3, none⟩), fun v _ => v = .pointer (some ⟨b, off + j * 3, none⟩), fun v _ => v = .string ts[j].var, fun v _ => v = .bool false, fun v _ => v = .bool false, fun v _ => v = .bool false, fun v _ => v = .bool false, fun v _ => v = .pointer (some ⟨wr.heap.size, 1, none⟩), fun v _ => v = .agg #[.string ts[j + 1].term.name, .slice x ts[j + 1].term.args.length xc], fun v _ => v = .bool true, fun v _ => v = .bool false, fun v _ => v = .bool false, fun v _ => v = .bool false, fun v _ => v = .pointer (some ⟨wr.heap.size, 1, none⟩), fun v _ => v = .pointer (some ⟨wr.heap.size, 1, none⟩), fun v _ => v = .string ts[j + 1].term.name, fun v _ => v = .pointer (some ⟨wr.heap.size, 0, none⟩), fun v _ => v = .string ts[j + 1].var, fun v _ => v = .bool true, fun v _ => v = .bool true] _ (fun V => by simp [putAll, Act.put]; rfl) (by kernel_rfl) (by decide) (by simp) (by kernel_rfl) ?_ ?_ ?_
                · intro F hF
                  simp only [List.mem_cons, List.not_mem_nil, or_false] at hF
                  rcases hF with rfl | rfl | rfl | rfl | rfl | rfl | rfl | rfl | rfl | rfl | rfl | rfl | rfl | rfl | rfl | rfl | rfl | rfl | rfl | rfl | rfl | rfl | rfl | rfl | rfl | rfl | rfl | rfl | rfl | rfl | rfl | rfl | rfl | rfl
                  · exact stable_eq
                  · exact stable_eq
                  · exact stable_eq
                  · exact stable_eq
                  · exact stable_eq
                  · exact stable_eq
                  · exact stable_eq
                  · exact stable_eq
                  · exact stable_eq
                  · exact stable_eq
                  · exact stable_eq
                  · exact stable_eq
                  · exact stable_eq
                  · exact stable_eq
                  · exact stable_eq
                  · exact stable_eq
                  · exact stable_eq
                  · exact stable_eq
                  · exact stable_eq
                  · exact stable_eq
                  · exact stable_eq
                  · exact stable_eq
                  · exact stable_eq
                  · exact stable_eq
                  · exact stable_eq
                  · exact stable_eq
                  · exact stable_eq
                  · exact stable_eq
                  · exact stable_eq
                  · exact stable_eq
                  · exact stable_eq
                  · exact stable_eq
                  · exact stable_eq
                  · exact stable_eq
                · refine ⟨?_, ?_, ?_, ?_, ?_, ?_, ?_, ?_, ?_, ?_, ?_, ?_, ?_, ?_, ?_, ?_, ?_, ?_, ?_, ?_, ?_, ?_, ?_, ?_, ?_, ?_, ?_, ?_, ?_, ?_, ?_, ?_, ?_, ?_, trivial⟩
                  · intro V w1 hbR _
                    unfold Does
                    go_simp
                    exact ⟨Below.refl _ _, rfl⟩
                  · intro V w1 hbR ⟨f0, _⟩
                    replace f0 : V 0 = .pointer (some ⟨wr.heap.size, 0, none⟩) := f0
                    obtain ⟨hc, hf⟩ := bcell hbR
                    try simp only [World.size_alloc, World.size_setCell] at hc hf
                    unfold Does
                    go_simp
                    exact ⟨Below.refl _ _, rfl⟩
                  · intro V w1 hbR ⟨f1, _⟩
                    replace f1 : V 1 = .string ts[j + 1].var := f1
                    obtain ⟨hc, hf⟩ := bcell hbR
                    try simp only [World.size_alloc, World.size_setCell] at hc hf
                    unfold Does
                    go_simp
                    refine (isVariable_any _ hvl w1).mono ?_; rintro e w4 ⟨rfl, rfl⟩; exact ⟨_, rfl, Below.refl _ _, by rw [hA]⟩
                  · intro V w1 hbR ⟨f2, _⟩
                    replace f2 : V 2 = .bool true := f2
                    unfold Does
                    go_simp
                    exact ⟨Below.refl _ _, rfl⟩
                  · intro V w1 hbR ⟨f3, f2, _⟩
                    replace f2 : V 2 = .bool true := f2
                    replace f3 : V 3 = .bool false := f3
                    unfold Does
                    go_simp
                    exact ⟨Below.refl _ _, rfl⟩
                  · intro V w1 hbR ⟨f4, _⟩
                    replace f4 : V 4 = .bool false := f4
                    refine .inl ⟨_, f4, fun hg => ?_, fun hg => ?_⟩
                    · unfold Does
                      go_simp
                      exact ⟨Below.refl _ _, rfl⟩
                    · exact absurd rfl hg
                  · intro V w1 hbR ⟨f5, f4, _⟩
                    replace f4 : V 4 = .bool false := f4
                    replace f5 : V 5 = .int .i64 ((j + 1 : Nat) : Int) := f5
                    refine .inl ⟨_, f4, fun hg => ?_, fun hg => ?_⟩
                    · unfold Does
                      go_simp
                      exact ⟨Below.refl _ _, rfl⟩
                    · exact absurd rfl hg
                  · intro V w1 hbR ⟨f6, f4, _, _⟩
                    replace f4 : V 4 = .bool false := f4
                    replace f6 : V 6 = .bool true := f6
                    refine .inl ⟨_, f4, fun hg => ?_, fun hg => ?_⟩
                    · unfold Does
                      go_simp
                      exact ⟨Below.refl _ _, rfl⟩
                    · exact absurd rfl hg
                  · intro V w1 hbR ⟨f7, _⟩
                    replace f7 : V 7 = .bool true := f7
                    refine .inl ⟨_, f7, fun hg => ?_, fun hg => ?_⟩
                    · unfold Does
                      go_simp
                      exact ⟨Below.refl _ _, rfl⟩
                    · exact absurd rfl hg
                  · intro V w1 hbR ⟨f8, f7, _⟩
                    replace f7 : V 7 = .bool true := f7
                    replace f8 : V 8 = .pointer (some ⟨wr.heap.size, 0, none⟩) := f8
                    refine .inl ⟨_, f7, fun hg => ?_, fun hg => ?_⟩
                    · obtain ⟨hc, hf⟩ := bcell hbR
                      try simp only [World.size_alloc, World.size_setCell] at hc hf
                      unfold Does
                      go_simp
                      exact ⟨Below.refl _ _, rfl⟩
                    · exact absurd rfl hg
                  · intro V w1 hbR ⟨f7, _⟩
                    replace f7 : V 7 = .bool true := f7
                    refine .inl ⟨_, f7, fun hg => ?_, fun hg => ?_⟩
                    · unfold Does
                      go_simp
                      exact ⟨Below.refl _ _, rfl⟩
                    · exact absurd rfl hg
                  · intro V w1 hbR ⟨f10, f7, _⟩
                    replace f7 : V 7 = .bool true := f7
                    replace f10 : V 10 = .pointer (some ⟨w.heap.size, 0, none⟩) := f10
                    refine .inl ⟨_, f7, fun hg => ?_, fun hg => ?_⟩
                    · obtain ⟨hc, hf⟩ := bcell hbR
                      try simp only [World.size_alloc, World.size_setCell] at hc hf
                      unfold Does
                      go_simp
                      exact ⟨Below.refl _ _, rfl⟩
                    · exact absurd rfl hg
                  · intro V w1 hbR ⟨f7, _⟩
                    replace f7 : V 7 = .bool true := f7
                    refine .inl ⟨_, f7, fun hg => ?_, fun hg => ?_⟩
                    · unfold Does
                      go_simp
                      exact ⟨Below.refl _ _, rfl⟩
                    · exact absurd rfl hg
                  · intro V w1 hbR ⟨f12, f7, _⟩
                    replace f7 : V 7 = .bool true := f7
                    replace f12 : V 12 = .int .i64 ((j + 1 : Nat) : Int) := f12
                    refine .inl ⟨_, f7, fun hg => ?_, fun hg => ?_⟩
                    · unfold Does
                      go_simp
                      exact ⟨Below.refl _ _, by congr 1; rw [IntKind.wrap_i64]; omega⟩
                    · exact absurd rfl hg
                  · intro V w1 hbR ⟨f11, f13, f7, _⟩
                    replace f7 : V 7 = .bool true := f7
                    replace f11 : V 11 = .slice (some ⟨b, off, none⟩) ts.length cap := f11
                    replace f13 : V 13 = .int .i64 j := f13
                    refine .inl ⟨_, f7, fun hg => ?_, fun hg => ?_⟩
                    · unfold Does
                      go_simp
                      exact ⟨Below.refl _ _, rfl⟩
                    · exact absurd rfl hg
                  · intro V w1 hbR ⟨f14, f7, _⟩
                    replace f7 : V 7 = .bool true := f7
                    replace f14 : V 14 = .pointer (some ⟨b, off + j * 3, none⟩) := f14
                    refine .inl ⟨_, f7, fun hg => ?_, fun hg => ?_⟩
                    · unfold Does
                      go_simp
                      exact ⟨Below.refl _ _, rfl⟩
                    · exact absurd rfl hg
                  · intro V w1 hbR ⟨f15, f7, _⟩
                    replace f7 : V 7 = .bool true := f7
                    replace f15 : V 15 = .pointer (some ⟨b, off + j * 3, none⟩) := f15
                    refine .inl ⟨_, f7, fun hg => ?_, fun hg => ?_⟩
                    · obtain ⟨hc, hf⟩ := bcell hbR
                      try simp only [World.size_alloc, World.size_setCell] at hc hf
                      unfold Does
                      go_simp
                      exact ⟨Below.refl _ _, rfl⟩
                    · exact absurd rfl hg
                  · intro V w1 hbR ⟨f9, f16, f7, _⟩
                    replace f7 : V 7 = .bool true := f7
                    replace f9 : V 9 = .string ts[j + 1].var := f9
                    replace f16 : V 16 = .string ts[j].var := f16
                    refine .inl ⟨_, f7, fun hg => ?_, fun hg => ?_⟩
                    · unfold Does
                      go_simp
                      exact ⟨Below.refl _ _, rfl⟩
                    · exact absurd rfl hg
                  · intro V w1 hbR ⟨f7, f17, f4, _⟩
                    replace f4 : V 4 = .bool false := f4
                    replace f7 : V 7 = .bool true := f7
                    replace f17 : V 17 = .bool false := f17
                    refine .inl ⟨_, f4, fun hg => ?_, fun hg => ?_⟩
                    · unfold Does
                      go_simp
                      exact ⟨Below.refl _ _, rfl⟩
                    · exact absurd rfl hg
                  · intro V w1 hbR ⟨f4, f18, _⟩
                    replace f4 : V 4 = .bool false := f4
                    replace f18 : V 18 = .bool false := f18
                    unfold Does
                    go_simp
                    exact ⟨Below.refl _ _, rfl⟩
                  · intro V w1 hbR ⟨f19, f7, _⟩
                    replace f7 : V 7 = .bool true := f7
                    replace f19 : V 19 = .bool false := f19
                    unfold Does
                    go_simp
                    exact ⟨Below.refl _ _, rfl⟩
                  · intro V w1 hbR ⟨f20, _⟩
                    replace f20 : V 20 = .bool false := f20
                    refine .inl ⟨_, f20, fun hg => ?_, fun hg => ?_⟩
                    · unfold Does
                      go_simp
                      exact ⟨Below.refl _ _, rfl⟩
                    · exact absurd rfl hg
                  · intro V w1 hbR ⟨f21, f20, _⟩
                    replace f20 : V 20 = .bool false := f20
                    replace f21 : V 21 = .pointer (some ⟨wr.heap.size, 1, none⟩) := f21
                    refine .inl ⟨_, f20, fun hg => ?_, fun hg => ?_⟩
                    · obtain ⟨hc, hf⟩ := bcell hbR
                      try simp only [World.size_alloc, World.size_setCell] at hc hf
                      unfold Does
                      go_simp
                      exact ⟨Below.refl _ _, rfl⟩
                    · exact absurd rfl hg
                  · intro V w1 hbR ⟨f22, f20, _, _⟩
                    replace f20 : V 20 = .bool false := f20
                    replace f22 : V 22 = .agg #[.string ts[j + 1].term.name, .slice x ts[j + 1].term.args.length xc] := f22
                    refine .inl ⟨_, f20, fun hg => ?_, fun hg => ?_⟩
                    · obtain ⟨hc, hf⟩ := bcell hbR
                      try simp only [World.size_alloc, World.size_setCell] at hc hf
                      unfold Does
                      go_simp
                      have hq := isValidTerm_any ts[j + 1].term (Tm.at_keep (Keeps.all hbR) hE) hbm; rw [hG] at hq; exact hq
                    · exact absurd rfl hg
                  · intro V w1 hbR ⟨f23, f20, _⟩
                    replace f20 : V 20 = .bool false := f20
                    replace f23 : V 23 = .bool true := f23
                    refine .inl ⟨_, f20, fun hg => ?_, fun hg => ?_⟩
                    · unfold Does
                      go_simp
                      exact ⟨Below.refl _ _, rfl⟩
                    · exact absurd rfl hg
                  · intro V w1 hbR ⟨f20, f24, _⟩
                    replace f20 : V 20 = .bool false := f20
                    replace f24 : V 24 = .bool false := f24
                    unfold Does
                    go_simp
                    exact ⟨Below.refl _ _, rfl⟩
                  · intro V w1 hbR ⟨f25, f23, _⟩
                    replace f23 : V 23 = .bool true := f23
                    replace f25 : V 25 = .bool false := f25
                    unfold Does
                    go_simp
                    exact ⟨Below.refl _ _, rfl⟩
                  · intro V w1 hbR ⟨f26, _⟩
                    replace f26 : V 26 = .bool false := f26
                    refine .inl ⟨_, f26, fun hg => ?_, fun hg => ?_⟩
                    · unfold Does
                      go_simp
                      exact ⟨Below.refl _ _, rfl⟩
                    · exact absurd rfl hg
                  · intro V w1 hbR ⟨f27, f26, _⟩
                    replace f26 : V 26 = .bool false := f26
                    replace f27 : V 27 = .pointer (some ⟨wr.heap.size, 1, none⟩) := f27
                    refine .inl ⟨_, f26, fun hg => ?_, fun hg => ?_⟩
                    · unfold Does
                      go_simp
                      exact ⟨Below.refl _ _, rfl⟩
                    · exact absurd rfl hg
                  · intro V w1 hbR ⟨f28, f26, _⟩
                    replace f26 : V 26 = .bool false := f26
                    replace f28 : V 28 = .pointer (some ⟨wr.heap.size, 1, none⟩) := f28
                    refine .inl ⟨_, f26, fun hg => ?_, fun hg => ?_⟩
                    · obtain ⟨hc, hf⟩ := bcell hbR
                      try simp only [World.size_alloc, World.size_setCell] at hc hf
                      unfold Does
                      go_simp
                      exact ⟨Below.refl _ _, rfl⟩
                    · exact absurd rfl hg
                  · intro V w1 hbR ⟨f26, _⟩
                    replace f26 : V 26 = .bool false := f26
                    refine .inl ⟨_, f26, fun hg => ?_, fun hg => ?_⟩
                    · unfold Does
                      go_simp
                      exact ⟨Below.refl _ _, rfl⟩
                    · exact absurd rfl hg
                  · intro V w1 hbR ⟨f30, f26, _⟩
                    replace f26 : V 26 = .bool false := f26
                    replace f30 : V 30 = .pointer (some ⟨wr.heap.size, 0, none⟩) := f30
                    refine .inl ⟨_, f26, fun hg => ?_, fun hg => ?_⟩
                    · obtain ⟨hc, hf⟩ := bcell hbR
                      try simp only [World.size_alloc, World.size_setCell] at hc hf
                      unfold Does
                      go_simp
                      exact ⟨Below.refl _ _, rfl⟩
                    · exact absurd rfl hg
                  · intro V w1 hbR ⟨f29, f31, f26, _⟩
                    replace f26 : V 26 = .bool false := f26
                    replace f29 : V 29 = .string ts[j + 1].term.name := f29
                    replace f31 : V 31 = .string ts[j + 1].var := f31
                    refine .inl ⟨_, f26, fun hg => ?_, fun hg => ?_⟩
                    · unfold Does
                      go_simp
                      exact ⟨Below.refl _ _, rfl⟩
                    · exact absurd rfl hg
                  · intro V w1 hbR ⟨f26, f32, _⟩
                    replace f26 : V 26 = .bool false := f26
                    replace f32 : V 32 = .bool true := f32
                    unfold Does
                    go_simp
                    exact ⟨Below.refl _ _, rfl⟩
                intro V w3 hbR hfR
                obtain ⟨f0, f1, f2, f3, f4, f5, f6, f7, f8, f9, f10, f11, f12, f13, f14, f15, f16, f17, f18, f19, f20, f21, f22, f23, f24, f25, f26, f27, f28, f29, f30, f31, f32, f33, _⟩ := hfR
                replace f0 : V 0 = .pointer (some ⟨wr.heap.size, 0, none⟩) := f0
                replace f1 : V 1 = .string ts[j + 1].var := f1
                replace f2 : V 2 = .bool true := f2
                replace f3 : V 3 = .bool false := f3
                replace f4 : V 4 = .bool false := f4
                replace f5 : V 5 = .int .i64 ((j + 1 : Nat) : Int) := f5
                replace f6 : V 6 = .bool true := f6
                replace f7 : V 7 = .bool true := f7
                replace f8 : V 8 = .pointer (some ⟨wr.heap.size, 0, none⟩) := f8
                replace f9 : V 9 = .string ts[j + 1].var := f9
                replace f10 : V 10 = .pointer (some ⟨w.heap.size, 0, none⟩) := f10
                replace f11 : V 11 = .slice (some ⟨b, off, none⟩) ts.length cap := f11
                replace f12 : V 12 = .int .i64 ((j + 1 : Nat) : Int) := f12
                replace f13 : V 13 = .int .i64 j := f13
                replace f14 : V 14 = .pointer (some ⟨b, off + j * 3, none⟩) := f14
                replace f15 : V 15 = .pointer (some ⟨b, off + j * 3, none⟩) := f15
                replace f16 : V 16 = .string ts[j].var := f16
                replace f17 : V 17 = .bool false := f17
                replace f18 : V 18 = .bool false := f18
                replace f19 : V 19 = .bool false := f19
                replace f20 : V 20 = .bool false := f20
                replace f21 : V 21 = .pointer (some ⟨wr.heap.size, 1, none⟩) := f21
                replace f22 : V 22 = .agg #[.string ts[j + 1].term.name, .slice x ts[j + 1].term.args.length xc] := f22
                replace f23 : V 23 = .bool true := f23
                replace f24 : V 24 = .bool false := f24
                replace f25 : V 25 = .bool false := f25
                replace f26 : V 26 = .bool false := f26
                replace f27 : V 27 = .pointer (some ⟨wr.heap.size, 1, none⟩) := f27
                replace f28 : V 28 = .pointer (some ⟨wr.heap.size, 1, none⟩) := f28
                replace f29 : V 29 = .string ts[j + 1].term.name := f29
                replace f30 : V 30 = .pointer (some ⟨wr.heap.size, 0, none⟩) := f30
                replace f31 : V 31 = .string ts[j + 1].var := f31
                replace f32 : V 32 = .bool true := f32
                replace f33 : V 33 = .bool true := f33
                simp only [f0, f1, f2, f3, f4, f5, f6, f7, f8, f9, f10, f11, f12, f13, f14, f15, f16, f17, f18, f19, f20, f21, f22, f23, f24, f25, f26, f27, f28, f29, f30, f31, f32, f33]
                clear f0 f1 f2 f3 f4 f5 f6 f7 f8 f9 f10 f11 f12 f13 f14 f15 f16 f17 f18 f19 f20 f21 f22 f23 f24 f25 f26 f27 f28 f29 f30 f31 f32 f33
                clear eB0 eE0 eE1 eE2 lB lE
                go_wp2_with fail
                go_ret
                exact Gives.mk (by rw [Sb.valid, HZ.out]; rfl) (hW.trans (hbR.mono hW.size))
              · have hN1 := toList_ne hN
                have HZ : Hid (∀ i, i < (j + 1) + 1 → Bnd.okAt ts i = true) := fun i hi => if h : i < (j + 1) then HX.out i h else by
                  obtain rfl : i = (j + 1) := by omega
                  exact (by rw [Bnd.okAt_succ hlt]; simp [Bnd.fits, hA, hC, hG, hN])
                clear hN
                refine wp_region_B [fun v _ => v = .pointer (some ⟨wr.heap.size, 0, none⟩), fun v _ => v = .string ts[j + 1].var, fun v _ => v = .bool true, fun v _ => v = .bool false, fun v _ => v = .bool false, fun v _ => v = .int .i64 ((j + 1 : Nat) : Int), fun v _ => v = .bool true, fun v _ => v = .bool true, fun v _ => v = .pointer (some ⟨wr.heap.size, 0, none⟩), fun v _ => v = .string ts[j + 1].var, fun v _ => v = .pointer (some ⟨w.heap.size, 0, none⟩), fun v _ => v = .slice (some ⟨b, off, none⟩) ts.length cap, fun v _ => v = .int .i64 ((j + 1 : Nat) : Int), fun v _ => v = .int .i64 j, fun v _ => v = .pointer (some ⟨b, off + j * 3, none⟩), fun v _ => v = .pointer (some ⟨b, off + j * 3, none⟩), fun v _ => v = .string ts[j].var, fun v _ => v = .bool false, fun v _ => v = .bool false, fun v _ => v = .bool false, fun v _ => v = .bool false, fun v _ => v = .pointer (some ⟨wr.heap.size, 1, none⟩), fun v _ => v = .agg #[.string ts[j + 1].term.name, .slice x ts[j + 1].term.args.length xc], fun v _ => v = .bool true, fun v _ => v = .bool false, fun v _ => v = .bool false, fun v _ => v = .bool false, fun v _ => v = .pointer (some ⟨wr.heap.size, 1, none⟩), fun v _ => v = .pointer (some ⟨wr.heap.size, 1, none⟩), fun v _ => v = .string ts[j + 1].term.name, fun v _ => v = .pointer (some ⟨wr.heap.size, 0, none⟩), fun v _ => v = .string ts[j + 1].var, fun v _ => v = .bool false, fun v _ => v = .bool false] _ (fun V => by simp [putAll, Act.put]; rfl) (by kernel_rfl) (by decide) (by simp) (by kernel_rfl) ?_ ?_ ?_
                · intro F hF
                  simp only [List.mem_cons, List.not_mem_nil, or_false] at hF
                  rcases hF with rfl | rfl | rfl | rfl | rfl | rfl | rfl | rfl | rfl | rfl | rfl | rfl | rfl | rfl | rfl | rfl | rfl | rfl | rfl | rfl | rfl | rfl | rfl | rfl | rfl | rfl | rfl | rfl | rfl | rfl | rfl | rfl | rfl | rfl
                  · exact stable_eq
                  · exact stable_eq
                  · exact stable_eq
                  · exact stable_eq
                  · exact stable_eq
                  · exact stable_eq
                  · exact stable_eq
                  · exact stable_eq
                  · exact stable_eq
                  · exact stable_eq
                  · exact stable_eq
                  · exact stable_eq
                  · exact stable_eq
                  · exact stable_eq
                  · exact stable_eq
                  · exact stable_eq
                  · exact stable_eq
                  · exact stable_eq
                  · exact stable_eq
                  · exact stable_eq
                  · exact stable_eq
                  · exact stable_eq
                  · exact stable_eq
                  · exact stable_eq
                  · exact stable_eq
                  · exact stable_eq
                  · exact stable_eq
                  · exact stable_eq
                  · exact stable_eq
                  · exact stable_eq
                  · exact stable_eq
                  · exact stable_eq
                  · exact stable_eq
                  · exact stable_eq
                · refine ⟨?_, ?_, ?_, ?_, ?_, ?_, ?_, ?_, ?_, ?_, ?_, ?_, ?_, ?_, ?_, ?_, ?_, ?_, ?_, ?_, ?_, ?_, ?_, ?_, ?_, ?_, ?_, ?_, ?_, ?_, ?_, ?_, ?_, ?_, trivial⟩
                  · intro V w1 hbR _
                    unfold Does
                    go_simp
                    exact ⟨Below.refl _ _, rfl⟩
                  · intro V w1 hbR ⟨f0, _⟩
                    replace f0 : V 0 = .pointer (some ⟨wr.heap.size, 0, none⟩) := f0
                    obtain ⟨hc, hf⟩ := bcell hbR
                    try simp only [World.size_alloc, World.size_setCell] at hc hf
                    unfold Does
                    go_simp
                    exact ⟨Below.refl _ _, rfl⟩
                  · intro V w1 hbR ⟨f1, _⟩
                    replace f1 : V 1 = .string ts[j + 1].var := f1
                    obtain ⟨hc, hf⟩ := bcell hbR
                    try simp only [World.size_alloc, World.size_setCell] at hc hf
                    unfold Does
                    go_simp
                    refine (isVariable_any _ hvl w1).mono ?_; rintro e w4 ⟨rfl, rfl⟩; exact ⟨_, rfl, Below.refl _ _, by rw [hA]⟩
                  · intro V w1 hbR ⟨f2, _⟩
                    replace f2 : V 2 = .bool true := f2
                    unfold Does
                    go_simp
                    exact ⟨Below.refl _ _, rfl⟩
                  · intro V w1 hbR ⟨f3, f2, _⟩
                    replace f2 : V 2 = .bool true := f2
                    replace f3 : V 3 = .bool false := f3
                    unfold Does
                    go_simp
                    exact ⟨Below.refl _ _, rfl⟩
                  · intro V w1 hbR ⟨f4, _⟩
                    replace f4 : V 4 = .bool false := f4
                    refine .inl ⟨_, f4, fun hg => ?_, fun hg => ?_⟩
                    · unfold Does
                      go_simp
                      exact ⟨Below.refl _ _, rfl⟩
                    · exact absurd rfl hg
                  · intro V w1 hbR ⟨f5, f4, _⟩
                    replace f4 : V 4 = .bool false := f4
                    replace f5 : V 5 = .int .i64 ((j + 1 : Nat) : Int) := f5
                    refine .inl ⟨_, f4, fun hg => ?_, fun hg => ?_⟩
                    · unfold Does
                      go_simp
                      exact ⟨Below.refl _ _, rfl⟩
                    · exact absurd rfl hg
                  · intro V w1 hbR ⟨f6, f4, _, _⟩
                    replace f4 : V 4 = .bool false := f4
                    replace f6 : V 6 = .bool true := f6
                    refine .inl ⟨_, f4, fun hg => ?_, fun hg => ?_⟩
                    · unfold Does
                      go_simp
                      exact ⟨Below.refl _ _, rfl⟩
                    · exact absurd rfl hg
                  · intro V w1 hbR ⟨f7, _⟩
                    replace f7 : V 7 = .bool true := f7
                    refine .inl ⟨_, f7, fun hg => ?_, fun hg => ?_⟩
                    · unfold Does
                      go_simp
                      exact ⟨Below.refl _ _, rfl⟩
                    · exact absurd rfl hg
                  · intro V w1 hbR ⟨f8, f7, _⟩
                    replace f7 : V 7 = .bool true := f7
                    replace f8 : V 8 = .pointer (some ⟨wr.heap.size, 0, none⟩) := f8
                    refine .inl ⟨_, f7, fun hg => ?_, fun hg => ?_⟩
                    · obtain ⟨hc, hf⟩ := bcell hbR
                      try simp only [World.size_alloc, World.size_setCell] at hc hf
                      unfold Does
                      go_simp
                      exact ⟨Below.refl _ _, rfl⟩
                    · exact absurd rfl hg
                  · intro V w1 hbR ⟨f7, _⟩
                    replace f7 : V 7 = .bool true := f7
                    refine .inl ⟨_, f7, fun hg => ?_, fun hg => ?_⟩
                    · unfold Does
                      go_simp
                      exact ⟨Below.refl _ _, rfl⟩
                    · exact absurd rfl hg
                  · intro V w1 hbR ⟨f10, f7, _⟩
                    replace f7 : V 7 = .bool true := f7
                    replace f10 : V 10 = .pointer (some ⟨w.heap.size, 0, none⟩) := f10
                    refine .inl ⟨_, f7, fun hg => ?_, fun hg => ?_⟩
                    · obtain ⟨hc, hf⟩ := bcell hbR
                      try simp only [World.size_alloc, World.size_setCell] at hc hf
                      unfold Does
                      go_simp
                      exact ⟨Below.refl _ _, rfl⟩
                    · exact absurd rfl hg
                  · intro V w1 hbR ⟨f7, _⟩
                    replace f7 : V 7 = .bool true := f7
                    refine .inl ⟨_, f7, fun hg => ?_, fun hg => ?_⟩
                    · unfold Does
                      go_simp
                      exact ⟨Below.refl _ _, rfl⟩
                    · exact absurd rfl hg
                  · intro V w1 hbR ⟨f12, f7, _⟩
                    replace f7 : V 7 = .bool true := f7
                    replace f12 : V 12 = .int .i64 ((j + 1 : Nat) : Int) := f12
                    refine .inl ⟨_, f7, fun hg => ?_, fun hg => ?_⟩
                    · unfold Does
                      go_simp
                      exact ⟨Below.refl _ _, by congr 1; rw [IntKind.wrap_i64]; omega⟩
                    · exact absurd rfl hg
                  · intro V w1 hbR ⟨f11, f13, f7, _⟩
                    replace f7 : V 7 = .bool true := f7
                    replace f11 : V 11 = .slice (some ⟨b, off, none⟩) ts.length cap := f11
                    replace f13 : V 13 = .int .i64 j := f13
                    refine .inl ⟨_, f7, fun hg => ?_, fun hg => ?_⟩
                    · unfold Does
                      go_simp
                      exact ⟨Below.refl _ _, rfl⟩
                    · exact absurd rfl hg
                  · intro V w1 hbR ⟨f14, f7, _⟩
                    replace f7 : V 7 = .bool true := f7
                    replace f14 : V 14 = .pointer (some ⟨b, off + j * 3, none⟩) := f14
                    refine .inl ⟨_, f7, fun hg => ?_, fun hg => ?_⟩
                    · unfold Does
                      go_simp
                      exact ⟨Below.refl _ _, rfl⟩
                    · exact absurd rfl hg
                  · intro V w1 hbR ⟨f15, f7, _⟩
                    replace f7 : V 7 = .bool true := f7
                    replace f15 : V 15 = .pointer (some ⟨b, off + j * 3, none⟩) := f15
                    refine .inl ⟨_, f7, fun hg => ?_, fun hg => ?_⟩
                    · obtain ⟨hc, hf⟩ := bcell hbR
                      try simp only [World.size_alloc, World.size_setCell] at hc hf
                      unfold Does
                      go_simp
                      exact ⟨Below.refl _ _, rfl⟩
                    · exact absurd rfl hg
                  · intro V w1 hbR ⟨f9, f16, f7, _⟩
                    replace f7 : V 7 = .bool true := f7
                    replace f9 : V 9 = .string ts[j + 1].var := f9
                    replace f16 : V 16 = .string ts[j].var := f16
                    refine .inl ⟨_, f7, fun hg => ?_, fun hg => ?_⟩
                    · unfold Does
                      go_simp
                      exact ⟨Below.refl _ _, rfl⟩
                    · exact absurd rfl hg
                  · intro V w1 hbR ⟨f7, f17, f4, _⟩
                    replace f4 : V 4 = .bool false := f4
                    replace f7 : V 7 = .bool true := f7
                    replace f17 : V 17 = .bool false := f17
                    refine .inl ⟨_, f4, fun hg => ?_, fun hg => ?_⟩
                    · unfold Does
                      go_simp
                      exact ⟨Below.refl _ _, rfl⟩
                    · exact absurd rfl hg
                  · intro V w1 hbR ⟨f4, f18, _⟩
                    replace f4 : V 4 = .bool false := f4
                    replace f18 : V 18 = .bool false := f18
                    unfold Does
                    go_simp
                    exact ⟨Below.refl _ _, rfl⟩
                  · intro V w1 hbR ⟨f19, f7, _⟩
                    replace f7 : V 7 = .bool true := f7
                    replace f19 : V 19 = .bool false := f19
                    unfold Does
                    go_simp
                    exact ⟨Below.refl _ _, rfl⟩
                  · intro V w1 hbR ⟨f20, _⟩
                    replace f20 : V 20 = .bool false := f20
                    refine .inl ⟨_, f20, fun hg => ?_, fun hg => ?_⟩
                    · unfold Does
                      go_simp
                      exact ⟨Below.refl _ _, rfl⟩
                    · exact absurd rfl hg
                  · intro V w1 hbR ⟨f21, f20, _⟩
                    replace f20 : V 20 = .bool false := f20
                    replace f21 : V 21 = .pointer (some ⟨wr.heap.size, 1, none⟩) := f21
                    refine .inl ⟨_, f20, fun hg => ?_, fun hg => ?_⟩
                    · obtain ⟨hc, hf⟩ := bcell hbR
                      try simp only [World.size_alloc, World.size_setCell] at hc hf
                      unfold Does
                      go_simp
                      exact ⟨Below.refl _ _, rfl⟩
                    · exact absurd rfl hg
                  · intro V w1 hbR ⟨f22, f20, _, _⟩
                    replace f20 : V 20 = .bool false := f20
                    replace f22 : V 22 = .agg #[.string ts[j + 1].term.name, .slice x ts[j + 1].term.args.length xc] := f22
                    refine .inl ⟨_, f20, fun hg => ?_, fun hg => ?_⟩
                    · obtain ⟨hc, hf⟩ := bcell hbR
                      try simp only [World.size_alloc, World.size_setCell] at hc hf
                      unfold Does
                      go_simp
                      have hq := isValidTerm_any ts[j + 1].term (Tm.at_keep (Keeps.all hbR) hE) hbm; rw [hG] at hq; exact hq
                    · exact absurd rfl hg
                  · intro V w1 hbR ⟨f23, f20, _⟩
                    replace f20 : V 20 = .bool false := f20
                    replace f23 : V 23 = .bool true := f23
                    refine .inl ⟨_, f20, fun hg => ?_, fun hg => ?_⟩
                    · unfold Does
                      go_simp
                      exact ⟨Below.refl _ _, rfl⟩
                    · exact absurd rfl hg
                  · intro V w1 hbR ⟨f20, f24, _⟩
                    replace f20 : V 20 = .bool false := f20
                    replace f24 : V 24 = .bool false := f24
                    unfold Does
                    go_simp
                    exact ⟨Below.refl _ _, rfl⟩
                  · intro V w1 hbR ⟨f25, f23, _⟩
                    replace f23 : V 23 = .bool true := f23
                    replace f25 : V 25 = .bool false := f25
                    unfold Does
                    go_simp
                    exact ⟨Below.refl _ _, rfl⟩
                  · intro V w1 hbR ⟨f26, _⟩
                    replace f26 : V 26 = .bool false := f26
                    refine .inl ⟨_, f26, fun hg => ?_, fun hg => ?_⟩
                    · unfold Does
                      go_simp
                      exact ⟨Below.refl _ _, rfl⟩
                    · exact absurd rfl hg
                  · intro V w1 hbR ⟨f27, f26, _⟩
                    replace f26 : V 26 = .bool false := f26
                    replace f27 : V 27 = .pointer (some ⟨wr.heap.size, 1, none⟩) := f27
                    refine .inl ⟨_, f26, fun hg => ?_, fun hg => ?_⟩
                    · unfold Does
                      go_simp
                      exact ⟨Below.refl _ _, rfl⟩
                    · exact absurd rfl hg
                  · intro V w1 hbR ⟨f28, f26, _⟩
                    replace f26 : V 26 = .bool false := f26
                    replace f28 : V 28 = .pointer (some ⟨wr.heap.size, 1, none⟩) := f28
                    refine .inl ⟨_, f26, fun hg => ?_, fun hg => ?_⟩
                    · obtain ⟨hc, hf⟩ := bcell hbR
                      try simp only [World.size_alloc, World.size_setCell] at hc hf
                      unfold Does
                      go_simp
                      exact ⟨Below.refl _ _, rfl⟩
                    · exact absurd rfl hg
                  · intro V w1 hbR ⟨f26, _⟩
                    replace f26 : V 26 = .bool false := f26
                    refine .inl ⟨_, f26, fun hg => ?_, fun hg => ?_⟩
                    · unfold Does
                      go_simp
                      exact ⟨Below.refl _ _, rfl⟩
                    · exact absurd rfl hg
                  · intro V w1 hbR ⟨f30, f26, _⟩
                    replace f26 : V 26 = .bool false := f26
                    replace f30 : V 30 = .pointer (some ⟨wr.heap.size, 0, none⟩) := f30
                    refine .inl ⟨_, f26, fun hg => ?_, fun hg => ?_⟩
                    · obtain ⟨hc, hf⟩ := bcell hbR
                      try simp only [World.size_alloc, World.size_setCell] at hc hf
                      unfold Does
                      go_simp
                      exact ⟨Below.refl _ _, rfl⟩
                    · exact absurd rfl hg
                  · intro V w1 hbR ⟨f29, f31, f26, _⟩
                    replace f26 : V 26 = .bool false := f26
                    replace f29 : V 29 = .string ts[j + 1].term.name := f29
                    replace f31 : V 31 = .string ts[j + 1].var := f31
                    refine .inl ⟨_, f26, fun hg => ?_, fun hg => ?_⟩
                    · unfold Does
                      go_simp
                      exact ⟨Below.refl _ _, rfl⟩
                    · exact absurd rfl hg
                  · intro V w1 hbR ⟨f26, f32, _⟩
                    replace f26 : V 26 = .bool false := f26
                    replace f32 : V 32 = .bool false := f32
                    unfold Does
                    go_simp
                    exact ⟨Below.refl _ _, rfl⟩
                intro V w3 hbR hfR
                obtain ⟨f0, f1, f2, f3, f4, f5, f6, f7, f8, f9, f10, f11, f12, f13, f14, f15, f16, f17, f18, f19, f20, f21, f22, f23, f24, f25, f26, f27, f28, f29, f30, f31, f32, f33, _⟩ := hfR
                replace f0 : V 0 = .pointer (some ⟨wr.heap.size, 0, none⟩) := f0
                replace f1 : V 1 = .string ts[j + 1].var := f1
                replace f2 : V 2 = .bool true := f2
                replace f3 : V 3 = .bool false := f3
                replace f4 : V 4 = .bool false := f4
                replace f5 : V 5 = .int .i64 ((j + 1 : Nat) : Int) := f5
                replace f6 : V 6 = .bool true := f6
                replace f7 : V 7 = .bool true := f7
                replace f8 : V 8 = .pointer (some ⟨wr.heap.size, 0, none⟩) := f8
                replace f9 : V 9 = .string ts[j + 1].var := f9
                replace f10 : V 10 = .pointer (some ⟨w.heap.size, 0, none⟩) := f10
                replace f11 : V 11 = .slice (some ⟨b, off, none⟩) ts.length cap := f11
                replace f12 : V 12 = .int .i64 ((j + 1 : Nat) : Int) := f12
                replace f13 : V 13 = .int .i64 j := f13
                replace f14 : V 14 = .pointer (some ⟨b, off + j * 3, none⟩) := f14
                replace f15 : V 15 = .pointer (some ⟨b, off + j * 3, none⟩) := f15
                replace f16 : V 16 = .string ts[j].var := f16
                replace f17 : V 17 = .bool false := f17
                replace f18 : V 18 = .bool false := f18
                replace f19 : V 19 = .bool false := f19
                replace f20 : V 20 = .bool false := f20
                replace f21 : V 21 = .pointer (some ⟨wr.heap.size, 1, none⟩) := f21
                replace f22 : V 22 = .agg #[.string ts[j + 1].term.name, .slice x ts[j + 1].term.args.length xc] := f22
                replace f23 : V 23 = .bool true := f23
                replace f24 : V 24 = .bool false := f24
                replace f25 : V 25 = .bool false := f25
                replace f26 : V 26 = .bool false := f26
                replace f27 : V 27 = .pointer (some ⟨wr.heap.size, 1, none⟩) := f27
                replace f28 : V 28 = .pointer (some ⟨wr.heap.size, 1, none⟩) := f28
                replace f29 : V 29 = .string ts[j + 1].term.name := f29
                replace f30 : V 30 = .pointer (some ⟨wr.heap.size, 0, none⟩) := f30
                replace f31 : V 31 = .string ts[j + 1].var := f31
                replace f32 : V 32 = .bool false := f32
                replace f33 : V 33 = .bool false := f33
                simp only [f0, f1, f2, f3, f4, f5, f6, f7, f8, f9, f10, f11, f12, f13, f14, f15, f16, f17, f18, f19, f20, f21, f22, f23, f24, f25, f26, f27, f28, f29, f30, f31, f32, f33]
                clear f0 f1 f2 f3 f4 f5 f6 f7 f8 f9 f10 f11 f12 f13 f14 f15 f16 f17 f18 f19 f20 f21 f22 f23 f24 f25 f26 f27 f28 f29 f30 f31 f32 f33
                clear eB0 eE0 eE1 eE2 lB lE
                go_wp2_with fail
                go_roundw
                case rel => exact ⟨(j + 1) + 1, by omega, by go_num, HZ, hb.trans ((hA0.trans (hbR.mono hA0.size)).mono hz)⟩
                case measure => simp [intOf]; omega
            · replace hG : ts[j + 1].term.valid = false := by simpa using hG
              have HZ : Hid (Bnd.allOk ts = false) := Bnd.allOk_bad hlt (by rw [Bnd.okAt_succ hlt]; simp [Bnd.fits, hA, hC, hG])
              refine wp_region_B [fun v _ => v = .pointer (some ⟨wr.heap.size, 0, none⟩), fun v _ => v = .string ts[j + 1].var, fun v _ => v = .bool true, fun v _ => v = .bool false, fun v _ => v = .bool false, fun v _ => v = .int .i64 ((j + 1 : Nat) : Int), fun v _ => v = .bool true, fun v _ => v = .bool true, fun v _ => v = .pointer (some ⟨wr.heap.size, 0, none⟩), fun v _ => v = .string ts[j + 1].var, fun v _ => v = .pointer (some ⟨w.heap.size, 0, none⟩), fun v _ => v = .slice (some ⟨b, off, none⟩) ts.length cap, fun v _ => v = .int .i64 ((j + 1 : Nat) : Int), fun v _ => v = .int .i64 j, fun v _ => v = .pointer (some ⟨b, off + j * 3, none⟩), fun v _ => v = .pointer (some ⟨b, off + j * 3, none⟩), fun v _ => v = .string ts[j].var, fun v _ => v = .bool false, fun v _ => v = .bool false, fun v _ => v = .bool false, fun v _ => v = .bool false, fun v _ => v = .pointer (some ⟨wr.heap.size, 1, none⟩), fun v _ => v = .agg #[.string ts[j + 1].term.name, .slice x ts[j + 1].term.args.length xc], fun v _ => v = .bool false, fun v _ => v = .bool true, fun v _ => v = .bool true, fun v _ => v = .bool true, fun v _ => v = undef, fun v _ => v = undef, fun v _ => v = undef, fun v _ => v = undef, fun v _ => v = undef, fun v _ => v = undef, fun v _ => v = .bool true] _ (fun V => by simp [putAll, Act.put]; rfl) (by kernel_rfl) (by decide) (by simp) (by kernel_rfl) ?_ ?_ ?_
              · intro F hF
                simp only [List.mem_cons, List.not_mem_nil, or_false] at hF
                rcases hF with rfl | rfl | rfl | rfl | rfl | rfl | rfl | rfl | rfl | rfl | rfl | rfl | rfl | rfl | rfl | rfl | rfl | rfl | rfl | rfl | rfl | rfl | rfl | rfl | rfl | rfl | rfl | rfl | rfl | rfl | rfl | rfl | rfl | rfl
                · exact stable_eq
                · exact stable_eq
                · exact stable_eq
                · exact stable_eq
                · exact stable_eq
                · exact stable_eq
                · exact stable_eq
                · exact stable_eq
                · exact stable_eq
                · exact stable_eq
                · exact stable_eq
                · exact stable_eq
                · exact stable_eq
                · exact stable_eq
                · exact stable_eq
                · exact stable_eq
                · exact stable_eq
                · exact stable_eq
                · exact stable_eq
                · exact stable_eq
                · exact stable_eq
                · exact stable_eq
                · exact stable_eq
                · exact stable_eq
                · exact stable_eq
                · exact stable_eq
                · exact stable_eq
                · exact stable_eq
                · exact stable_eq
                · exact stable_eq
                · exact stable_eq
                · exact stable_eq
                · exact stable_eq
                · exact stable_eq
              · refine ⟨?_, ?_, ?_, ?_, ?_, ?_, ?_, ?_, ?_, ?_, ?_, ?_, ?_, ?_, ?_, ?_, ?_, ?_, ?_, ?_, ?_, ?_, ?_, ?_, ?_, ?_, ?_, ?_, ?_, ?_, ?_, ?_, ?_, ?_, trivial⟩
                · intro V w1 hbR _
                  unfold Does
                  go_simp
                  exact ⟨Below.refl _ _, rfl⟩
                · intro V w1 hbR ⟨f0, _⟩
                  replace f0 : V 0 = .pointer (some ⟨wr.heap.size, 0, none⟩) := f0
                  obtain ⟨hc, hf⟩ := bcell hbR
                  try simp only [World.size_alloc, World.size_setCell] at hc hf
                  unfold Does
                  go_simp
                  exact ⟨Below.refl _ _, rfl⟩
                · intro V w1 hbR ⟨f1, _⟩
                  replace f1 : V 1 = .string ts[j + 1].var := f1
                  obtain ⟨hc, hf⟩ := bcell hbR
                  try simp only [World.size_alloc, World.size_setCell] at hc hf
                  unfold Does
                  go_simp
                  refine (isVariable_any _ hvl w1).mono ?_; rintro e w4 ⟨rfl, rfl⟩; exact ⟨_, rfl, Below.refl _ _, by rw [hA]⟩
                · intro V w1 hbR ⟨f2, _⟩
                  replace f2 : V 2 = .bool true := f2
                  unfold Does
                  go_simp
                  exact ⟨Below.refl _ _, rfl⟩
                · intro V w1 hbR ⟨f3, f2, _⟩
                  replace f2 : V 2 = .bool true := f2
                  replace f3 : V 3 = .bool false := f3
                  unfold Does
                  go_simp
                  exact ⟨Below.refl _ _, rfl⟩
                · intro V w1 hbR ⟨f4, _⟩
                  replace f4 : V 4 = .bool false := f4
                  refine .inl ⟨_, f4, fun hg => ?_, fun hg => ?_⟩
                  · unfold Does
                    go_simp
                    exact ⟨Below.refl _ _, rfl⟩
                  · exact absurd rfl hg
                · intro V w1 hbR ⟨f5, f4, _⟩
                  replace f4 : V 4 = .bool false := f4
                  replace f5 : V 5 = .int .i64 ((j + 1 : Nat) : Int) := f5
                  refine .inl ⟨_, f4, fun hg => ?_, fun hg => ?_⟩
                  · unfold Does
                    go_simp
                    exact ⟨Below.refl _ _, rfl⟩
                  · exact absurd rfl hg
                · intro V w1 hbR ⟨f6, f4, _, _⟩
                  replace f4 : V 4 = .bool false := f4
                  replace f6 : V 6 = .bool true := f6
                  refine .inl ⟨_, f4, fun hg => ?_, fun hg => ?_⟩
                  · unfold Does
                    go_simp
                    exact ⟨Below.refl _ _, rfl⟩
                  · exact absurd rfl hg
                · intro V w1 hbR ⟨f7, _⟩
                  replace f7 : V 7 = .bool true := f7
                  refine .inl ⟨_, f7, fun hg => ?_, fun hg => ?_⟩
                  · unfold Does
                    go_simp
                    exact ⟨Below.refl _ _, rfl⟩
                  · exact absurd rfl hg
                · intro V w1 hbR ⟨f8, f7, _⟩
                  replace f7 : V 7 = .bool true := f7
                  replace f8 : V 8 = .pointer (some ⟨wr.heap.size, 0, none⟩) := f8
                  refine .inl ⟨_, f7, fun hg => ?_, fun hg => ?_⟩
                  · obtain ⟨hc, hf⟩ := bcell hbR
                    try simp only [World.size_alloc, World.size_setCell] at hc hf
                    unfold Does
                    go_simp
                    exact ⟨Below.refl _ _, rfl⟩
                  · exact absurd rfl hg
                · intro V w1 hbR ⟨f7, _⟩
                  replace f7 : V 7 = .bool true := f7
                  refine .inl ⟨_, f7, fun hg => ?_, fun hg => ?_⟩
                  · unfold Does
                    go_simp
                    exact ⟨Below.refl _ _, rfl⟩
                  · exact absurd rfl hg
                · intro V w1 hbR ⟨f10, f7, _⟩
                  replace f7 : V 7 = .bool true := f7
                  replace f10 : V 10 = .pointer (some ⟨w.heap.size, 0, none⟩) := f10
                  refine .inl ⟨_, f7, fun hg => ?_, fun hg => ?_⟩
                  · obtain ⟨hc, hf⟩ := bcell hbR
                    try simp only [World.size_alloc, World.size_setCell] at hc hf
                    unfold Does
                    go_simp
                    exact ⟨Below.refl _ _, rfl⟩
                  · exact absurd rfl hg
                · intro V w1 hbR ⟨f7, _⟩
                  replace f7 : V 7 = .bool true := f7
                  refine .inl ⟨_, f7, fun hg => ?_, fun hg => ?_⟩
                  · unfold Does
                    go_simp
                    exact ⟨Below.refl _ _, rfl⟩
                  · exact absurd rfl hg
                · intro V w1 hbR ⟨f12, f7, _⟩
                  replace f7 : V 7 = .bool true := f7
                  replace f12 : V 12 = .int .i64 ((j + 1 : Nat) : Int) := f12
                  refine .inl ⟨_, f7, fun hg => ?_, fun hg => ?_⟩
                  · unfold Does
                    go_simp
                    exact ⟨Below.refl _ _, by congr 1; rw [IntKind.wrap_i64]; omega⟩
                  · exact absurd rfl hg
                · intro V w1 hbR ⟨f11, f13, f7, _⟩
                  replace f7 : V 7 = .bool true := f7
                  replace f11 : V 11 = .slice (some ⟨b, off, none⟩) ts.length cap := f11
                  replace f13 : V 13 = .int .i64 j := f13
                  refine .inl ⟨_, f7, fun hg => ?_, fun hg => ?_⟩
                  · unfold Does
                    go_simp
                    exact ⟨Below.refl _ _, rfl⟩
                  · exact absurd rfl hg
                · intro V w1 hbR ⟨f14, f7, _⟩
                  replace f7 : V 7 = .bool true := f7
                  replace f14 : V 14 = .pointer (some ⟨b, off + j * 3, none⟩) := f14
                  refine .inl ⟨_, f7, fun hg => ?_, fun hg => ?_⟩
                  · unfold Does
                    go_simp
                    exact ⟨Below.refl _ _, rfl⟩
                  · exact absurd rfl hg
                · intro V w1 hbR ⟨f15, f7, _⟩
                  replace f7 : V 7 = .bool true := f7
                  replace f15 : V 15 = .pointer (some ⟨b, off + j * 3, none⟩) := f15
                  refine .inl ⟨_, f7, fun hg => ?_, fun hg => ?_⟩
                  · obtain ⟨hc, hf⟩ := bcell hbR
                    try simp only [World.size_alloc, World.size_setCell] at hc hf
                    unfold Does
                    go_simp
                    exact ⟨Below.refl _ _, rfl⟩
                  · exact absurd rfl hg
                · intro V w1 hbR ⟨f9, f16, f7, _⟩
                  replace f7 : V 7 = .bool true := f7
                  replace f9 : V 9 = .string ts[j + 1].var := f9
                  replace f16 : V 16 = .string ts[j].var := f16
                  refine .inl ⟨_, f7, fun hg => ?_, fun hg => ?_⟩
                  · unfold Does
                    go_simp
                    exact ⟨Below.refl _ _, rfl⟩
                  · exact absurd rfl hg
                · intro V w1 hbR ⟨f7, f17, f4, _⟩
                  replace f4 : V 4 = .bool false := f4
                  replace f7 : V 7 = .bool true := f7
                  replace f17 : V 17 = .bool false := f17
                  refine .inl ⟨_, f4, fun hg => ?_, fun hg => ?_⟩
                  · unfold Does
                    go_simp
                    exact ⟨Below.refl _ _, rfl⟩
                  · exact absurd rfl hg
                · intro V w1 hbR ⟨f4, f18, _⟩
                  replace f4 : V 4 = .bool false := f4
                  replace f18 : V 18 = .bool false := f18
                  unfold Does
                  go_simp
                  exact ⟨Below.refl _ _, rfl⟩
                · intro V w1 hbR ⟨f19, f7, _⟩
                  replace f7 : V 7 = .bool true := f7
                  replace f19 : V 19 = .bool false := f19
                  unfold Does
                  go_simp
                  exact ⟨Below.refl _ _, rfl⟩
                · intro V w1 hbR ⟨f20, _⟩
                  replace f20 : V 20 = .bool false := f20
                  refine .inl ⟨_, f20, fun hg => ?_, fun hg => ?_⟩
                  · unfold Does
                    go_simp
                    exact ⟨Below.refl _ _, rfl⟩
                  · exact absurd rfl hg
                · intro V w1 hbR ⟨f21, f20, _⟩
                  replace f20 : V 20 = .bool false := f20
                  replace f21 : V 21 = .pointer (some ⟨wr.heap.size, 1, none⟩) := f21
                  refine .inl ⟨_, f20, fun hg => ?_, fun hg => ?_⟩
                  · obtain ⟨hc, hf⟩ := bcell hbR
                    try simp only [World.size_alloc, World.size_setCell] at hc hf
                    unfold Does
                    go_simp
                    exact ⟨Below.refl _ _, rfl⟩
                  · exact absurd rfl hg
                · intro V w1 hbR ⟨f22, f20, _, _⟩
                  replace f20 : V 20 = .bool false := f20
                  replace f22 : V 22 = .agg #[.string ts[j + 1].term.name, .slice x ts[j + 1].term.args.length xc] := f22
                  refine .inl ⟨_, f20, fun hg => ?_, fun hg => ?_⟩
                  · obtain ⟨hc, hf⟩ := bcell hbR
                    try simp only [World.size_alloc, World.size_setCell] at hc hf
                    unfold Does
                    go_simp
                    have hq := isValidTerm_any ts[j + 1].term (Tm.at_keep (Keeps.all hbR) hE) hbm; rw [hG] at hq; exact hq
                  · exact absurd rfl hg
                · intro V w1 hbR ⟨f23, f20, _⟩
                  replace f20 : V 20 = .bool false := f20
                  replace f23 : V 23 = .bool false := f23
                  refine .inl ⟨_, f20, fun hg => ?_, fun hg => ?_⟩
                  · unfold Does
                    go_simp
                    exact ⟨Below.refl _ _, rfl⟩
                  · exact absurd rfl hg
                · intro V w1 hbR ⟨f20, f24, _⟩
                  replace f20 : V 20 = .bool false := f20
                  replace f24 : V 24 = .bool true := f24
                  unfold Does
                  go_simp
                  exact ⟨Below.refl _ _, rfl⟩
                · intro V w1 hbR ⟨f25, f23, _⟩
                  replace f23 : V 23 = .bool false := f23
                  replace f25 : V 25 = .bool true := f25
                  unfold Does
                  go_simp
                  exact ⟨Below.refl _ _, rfl⟩
                · intro V w1 hbR ⟨f26, _⟩
                  replace f26 : V 26 = .bool true := f26
                  refine .inl ⟨_, f26, fun hg => ?_, fun hg => ?_⟩
                  · exact absurd hg (by decide)
                  · rfl
                · intro V w1 hbR ⟨f27, f26, _⟩
                  replace f26 : V 26 = .bool true := f26
                  replace f27 : V 27 = undef := f27
                  refine .inl ⟨_, f26, fun hg => ?_, fun hg => ?_⟩
                  · exact absurd hg (by decide)
                  · rfl
                · intro V w1 hbR ⟨f28, f26, _⟩
                  replace f26 : V 26 = .bool true := f26
                  replace f28 : V 28 = undef := f28
                  refine .inl ⟨_, f26, fun hg => ?_, fun hg => ?_⟩
                  · exact absurd hg (by decide)
                  · rfl
                · intro V w1 hbR ⟨f26, _⟩
                  replace f26 : V 26 = .bool true := f26
                  refine .inl ⟨_, f26, fun hg => ?_, fun hg => ?_⟩
                  · exact absurd hg (by decide)
                  · rfl
                · intro V w1 hbR ⟨f30, f26, _⟩
                  replace f26 : V 26 = .bool true := f26
                  replace f30 : V 30 = undef := f30
                  refine .inl ⟨_, f26, fun hg => ?_, fun hg => ?_⟩
                  · exact absurd hg (by decide)
                  · rfl
                · intro V w1 hbR ⟨f29, f31, f26, _⟩
                  replace f26 : V 26 = .bool true := f26
                  replace f29 : V 29 = undef := f29
                  replace f31 : V 31 = undef := f31
                  refine .inl ⟨_, f26, fun hg => ?_, fun hg => ?_⟩
                  · exact absurd hg (by decide)
                  · rfl
                · intro V w1 hbR ⟨f26, f32, _⟩
                  replace f26 : V 26 = .bool true := f26
                  replace f32 : V 32 = undef := f32
                  unfold Does
                  go_simp
                  exact ⟨Below.refl _ _, rfl⟩
              intro V w3 hbR hfR
              obtain ⟨f0, f1, f2, f3, f4, f5, f6, f7, f8, f9, f10, f11, f12, f13, f14, f15, f16, f17, f18, f19, f20, f21, f22, f23, f24, f25, f26, f27, f28, f29, f30, f31, f32, f33, _⟩ := hfR
              replace f0 : V 0 = .pointer (some ⟨wr.heap.size, 0, none⟩) := f0
              replace f1 : V 1 = .string ts[j + 1].var := f1
              replace f2 : V 2 = .bool true := f2
              replace f3 : V 3 = .bool false := f3
              replace f4 : V 4 = .bool false := f4
              replace f5 : V 5 = .int .i64 ((j + 1 : Nat) : Int) := f5
              replace f6 : V 6 = .bool true := f6
              replace f7 : V 7 = .bool true := f7
              replace f8 : V 8 = .pointer (some ⟨wr.heap.size, 0, none⟩) := f8
              replace f9 : V 9 = .string ts[j + 1].var := f9
              replace f10 : V 10 = .pointer (some ⟨w.heap.size, 0, none⟩) := f10
              replace f11 : V 11 = .slice (some ⟨b, off, none⟩) ts.length cap := f11
              replace f12 : V 12 = .int .i64 ((j + 1 : Nat) : Int) := f12
              replace f13 : V 13 = .int .i64 j := f13
              replace f14 : V 14 = .pointer (some ⟨b, off + j * 3, none⟩) := f14
              replace f15 : V 15 = .pointer (some ⟨b, off + j * 3, none⟩) := f15
              replace f16 : V 16 = .string ts[j].var := f16
              replace f17 : V 17 = .bool false := f17
              replace f18 : V 18 = .bool false := f18
              replace f19 : V 19 = .bool false := f19
              replace f20 : V 20 = .bool false := f20
              replace f21 : V 21 = .pointer (some ⟨wr.heap.size, 1, none⟩) := f21
              replace f22 : V 22 = .agg #[.string ts[j + 1].term.name, .slice x ts[j + 1].term.args.length xc] := f22
              replace f23 : V 23 = .bool false := f23
              replace f24 : V 24 = .bool true := f24
              replace f25 : V 25 = .bool true := f25
              replace f26 : V 26 = .bool true := f26
              replace f27 : V 27 = undef := f27
              replace f28 : V 28 = undef := f28
              replace f29 : V 29 = undef := f29
              replace f30 : V 30 = undef := f30
              replace f31 : V 31 = undef := f31
              replace f32 : V 32 = undef := f32
              replace f33 : V 33 = .bool true := f33
              simp only [f0, f1, f2, f3, f4, f5, f6, f7, f8, f9, f10, f11, f12, f13, f14, f15, f16, f17, f18, f19, f20, f21, f22, f23, f24, f25, f26, f27, f28, f29, f30, f31, f32, f33]
              clear f0 f1 f2 f3 f4 f5 f6 f7 f8 f9 f10 f11 f12 f13 f14 f15 f16 f17 f18 f19 f20 f21 f22 f23 f24 f25 f26 f27 f28 f29 f30 f31 f32 f33
              clear eB0 eE0 eE1 eE2 lB lE
              go_wp2_with fail
              go_ret
              exact Gives.mk (by rw [Sb.valid, HZ.out]; rfl) (hW.trans (hbR.mono hW.size))
          · have hC : Op.bytesLess ts[j].var.toList ts[j + 1].var.toList = false := by simpa using hL
            have hC1 := bl_ge hC
            have HZ : Hid (Bnd.allOk ts = false) := Bnd.allOk_bad hlt (by rw [Bnd.okAt_succ hlt]; simp [Bnd.fits, hA, hC])
            refine wp_region_B [fun v _ => v = .pointer (some ⟨wr.heap.size, 0, none⟩), fun v _ => v = .string ts[j + 1].var, fun v _ => v = .bool true, fun v _ => v = .bool false, fun v _ => v = .bool false, fun v _ => v = .int .i64 ((j + 1 : Nat) : Int), fun v _ => v = .bool true, fun v _ => v = .bool true, fun v _ => v = .pointer (some ⟨wr.heap.size, 0, none⟩), fun v _ => v = .string ts[j + 1].var, fun v _ => v = .pointer (some ⟨w.heap.size, 0, none⟩), fun v _ => v = .slice (some ⟨b, off, none⟩) ts.length cap, fun v _ => v = .int .i64 ((j + 1 : Nat) : Int), fun v _ => v = .int .i64 j, fun v _ => v = .pointer (some ⟨b, off + j * 3, none⟩), fun v _ => v = .pointer (some ⟨b, off + j * 3, none⟩), fun v _ => v = .string ts[j].var, fun v _ => v = .bool true, fun v _ => v = .bool true, fun v _ => v = .bool true, fun v _ => v = .bool true, fun v _ => v = undef, fun v _ => v = undef, fun v _ => v = undef, fun v _ => v = undef, fun v _ => v = .bool true, fun v _ => v = .bool true, fun v _ => v = undef, fun v _ => v = undef, fun v _ => v = undef, fun v _ => v = undef, fun v _ => v = undef, fun v _ => v = undef, fun v _ => v = .bool true] _ (fun V => by simp [putAll, Act.put]; rfl) (by kernel_rfl) (by decide) (by simp) (by kernel_rfl) ?_ ?_ ?_
            · intro F hF
              simp only [List.mem_cons, List.not_mem_nil, or_false] at hF
              rcases hF with rfl | rfl | rfl | rfl | rfl | rfl | rfl | rfl | rfl | rfl | rfl | rfl | rfl | rfl | rfl | rfl | rfl | rfl | rfl | rfl | rfl | rfl | rfl | rfl | rfl | rfl | rfl | rfl | rfl | rfl | rfl | rfl | rfl | rfl
              · exact stable_eq
              · exact stable_eq
              · exact stable_eq
              · exact stable_eq
              · exact stable_eq
              · exact stable_eq
              · exact stable_eq
              · exact stable_eq
              · exact stable_eq
              · exact stable_eq
              · exact stable_eq
              · exact stable_eq
              · exact stable_eq
              · exact stable_eq
              · exact stable_eq
              · exact stable_eq
              · exact stable_eq
              · exact stable_eq
              · exact stable_eq
              · exact stable_eq
              · exact stable_eq
              · exact stable_eq
              · exact stable_eq
              · exact stable_eq
              · exact stable_eq
              · exact stable_eq
              · exact stable_eq
              · exact stable_eq
              · exact stable_eq
              · exact stable_eq
              · exact stable_eq
              · exact stable_eq
              · exact stable_eq
              · exact stable_eq
            · refine ⟨?_, ?_, ?_, ?_, ?_, ?_, ?_, ?_, ?_, ?_, ?_, ?_, ?_, ?_, ?_, ?_, ?_, ?_, ?_, ?_, ?_, ?_, ?_, ?_, ?_, ?_, ?_, ?_, ?_, ?_, ?_, ?_, ?_, ?_, trivial⟩
              · intro V w1 hbR _
                unfold Does
                go_simp
                exact ⟨Below.refl _ _, rfl⟩
              · intro V w1 hbR ⟨f0, _⟩
                replace f0 : V 0 = .pointer (some ⟨wr.heap.size, 0, none⟩) := f0
                obtain ⟨hc, hf⟩ := bcell hbR
                try simp only [World.size_alloc, World.size_setCell] at hc hf
                unfold Does
                go_simp
                exact ⟨Below.refl _ _, rfl⟩
              · intro V w1 hbR ⟨f1, _⟩
                replace f1 : V 1 = .string ts[j + 1].var := f1
                obtain ⟨hc, hf⟩ := bcell hbR
                try simp only [World.size_alloc, World.size_setCell] at hc hf
                unfold Does
                go_simp
                refine (isVariable_any _ hvl w1).mono ?_; rintro e w4 ⟨rfl, rfl⟩; exact ⟨_, rfl, Below.refl _ _, by rw [hA]⟩
              · intro V w1 hbR ⟨f2, _⟩
                replace f2 : V 2 = .bool true := f2
                unfold Does
                go_simp
                exact ⟨Below.refl _ _, rfl⟩
              · intro V w1 hbR ⟨f3, f2, _⟩
                replace f2 : V 2 = .bool true := f2
                replace f3 : V 3 = .bool false := f3
                unfold Does
                go_simp
                exact ⟨Below.refl _ _, rfl⟩
              · intro V w1 hbR ⟨f4, _⟩
                replace f4 : V 4 = .bool false := f4
                refine .inl ⟨_, f4, fun hg => ?_, fun hg => ?_⟩
                · unfold Does
                  go_simp
                  exact ⟨Below.refl _ _, rfl⟩
                · exact absurd rfl hg
              · intro V w1 hbR ⟨f5, f4, _⟩
                replace f4 : V 4 = .bool false := f4
                replace f5 : V 5 = .int .i64 ((j + 1 : Nat) : Int) := f5
                refine .inl ⟨_, f4, fun hg => ?_, fun hg => ?_⟩
                · unfold Does
                  go_simp
                  exact ⟨Below.refl _ _, rfl⟩
                · exact absurd rfl hg
              · intro V w1 hbR ⟨f6, f4, _, _⟩
                replace f4 : V 4 = .bool false := f4
                replace f6 : V 6 = .bool true := f6
                refine .inl ⟨_, f4, fun hg => ?_, fun hg => ?_⟩
                · unfold Does
                  go_simp
                  exact ⟨Below.refl _ _, rfl⟩
                · exact absurd rfl hg
              · intro V w1 hbR ⟨f7, _⟩
                replace f7 : V 7 = .bool true := f7
                refine .inl ⟨_, f7, fun hg => ?_, fun hg => ?_⟩
                · unfold Does
                  go_simp
                  exact ⟨Below.refl _ _, rfl⟩
                · exact absurd rfl hg
              · intro V w1 hbR ⟨f8, f7, _⟩
                replace f7 : V 7 = .bool true := f7
                replace f8 : V 8 = .pointer (some ⟨wr.heap.size, 0, none⟩) := f8
                refine .inl ⟨_, f7, fun hg => ?_, fun hg => ?_⟩
                · obtain ⟨hc, hf⟩ := bcell hbR
                  try simp only [World.size_alloc, World.size_setCell] at hc hf
                  unfold Does
                  go_simp
                  exact ⟨Below.refl _ _, rfl⟩
                · exact absurd rfl hg
              · intro V w1 hbR ⟨f7, _⟩
                replace f7 : V 7 = .bool true := f7
                refine .inl ⟨_, f7, fun hg => ?_, fun hg => ?_⟩
                · unfold Does
                  go_simp
                  exact ⟨Below.refl _ _, rfl⟩
                · exact absurd rfl hg
              · intro V w1 hbR ⟨f10, f7, _⟩
                replace f7 : V 7 = .bool true := f7
                replace f10 : V 10 = .pointer (some ⟨w.heap.size, 0, none⟩) := f10
                refine .inl ⟨_, f7, fun hg => ?_, fun hg => ?_⟩
                · obtain ⟨hc, hf⟩ := bcell hbR
                  try simp only [World.size_alloc, World.size_setCell] at hc hf
                  unfold Does
                  go_simp
                  exact ⟨Below.refl _ _, rfl⟩
                · exact absurd rfl hg
              · intro V w1 hbR ⟨f7, _⟩
                replace f7 : V 7 = .bool true := f7
                refine .inl ⟨_, f7, fun hg => ?_, fun hg => ?_⟩
                · unfold Does
                  go_simp
                  exact ⟨Below.refl _ _, rfl⟩
                · exact absurd rfl hg
              · intro V w1 hbR ⟨f12, f7, _⟩
                replace f7 : V 7 = .bool true := f7
                replace f12 : V 12 = .int .i64 ((j + 1 : Nat) : Int) := f12
                refine .inl ⟨_, f7, fun hg => ?_, fun hg => ?_⟩
                · unfold Does
                  go_simp
                  exact ⟨Below.refl _ _, by congr 1; rw [IntKind.wrap_i64]; omega⟩
                · exact absurd rfl hg
              · intro V w1 hbR ⟨f11, f13, f7, _⟩
                replace f7 : V 7 = .bool true := f7
                replace f11 : V 11 = .slice (some ⟨b, off, none⟩) ts.length cap := f11
                replace f13 : V 13 = .int .i64 j := f13
                refine .inl ⟨_, f7, fun hg => ?_, fun hg => ?_⟩
                · unfold Does
                  go_simp
                  exact ⟨Below.refl _ _, rfl⟩
                · exact absurd rfl hg
              · intro V w1 hbR ⟨f14, f7, _⟩
                replace f7 : V 7 = .bool true := f7
                replace f14 : V 14 = .pointer (some ⟨b, off + j * 3, none⟩) := f14
                refine .inl ⟨_, f7, fun hg => ?_, fun hg => ?_⟩
                · unfold Does
                  go_simp
                  exact ⟨Below.refl _ _, rfl⟩
                · exact absurd rfl hg
              · intro V w1 hbR ⟨f15, f7, _⟩
                replace f7 : V 7 = .bool true := f7
                replace f15 : V 15 = .pointer (some ⟨b, off + j * 3, none⟩) := f15
                refine .inl ⟨_, f7, fun hg => ?_, fun hg => ?_⟩
                · obtain ⟨hc, hf⟩ := bcell hbR
                  try simp only [World.size_alloc, World.size_setCell] at hc hf
                  unfold Does
                  go_simp
                  exact ⟨Below.refl _ _, rfl⟩
                · exact absurd rfl hg
              · intro V w1 hbR ⟨f9, f16, f7, _⟩
                replace f7 : V 7 = .bool true := f7
                replace f9 : V 9 = .string ts[j + 1].var := f9
                replace f16 : V 16 = .string ts[j].var := f16
                refine .inl ⟨_, f7, fun hg => ?_, fun hg => ?_⟩
                · unfold Does
                  go_simp
                  exact ⟨Below.refl _ _, rfl⟩
                · exact absurd rfl hg
              · intro V w1 hbR ⟨f7, f17, f4, _⟩
                replace f4 : V 4 = .bool false := f4
                replace f7 : V 7 = .bool true := f7
                replace f17 : V 17 = .bool true := f17
                refine .inl ⟨_, f4, fun hg => ?_, fun hg => ?_⟩
                · unfold Does
                  go_simp
                  exact ⟨Below.refl _ _, rfl⟩
                · exact absurd rfl hg
              · intro V w1 hbR ⟨f4, f18, _⟩
                replace f4 : V 4 = .bool false := f4
                replace f18 : V 18 = .bool true := f18
                unfold Does
                go_simp
                exact ⟨Below.refl _ _, rfl⟩
              · intro V w1 hbR ⟨f19, f7, _⟩
                replace f7 : V 7 = .bool true := f7
                replace f19 : V 19 = .bool true := f19
                unfold Does
                go_simp
                exact ⟨Below.refl _ _, rfl⟩
              · intro V w1 hbR ⟨f20, _⟩
                replace f20 : V 20 = .bool true := f20
                refine .inl ⟨_, f20, fun hg => ?_, fun hg => ?_⟩
                · exact absurd hg (by decide)
                · rfl
              · intro V w1 hbR ⟨f21, f20, _⟩
                replace f20 : V 20 = .bool true := f20
                replace f21 : V 21 = undef := f21
                refine .inl ⟨_, f20, fun hg => ?_, fun hg => ?_⟩
                · exact absurd hg (by decide)
                · rfl
              · intro V w1 hbR ⟨f22, f20, _, _⟩
                replace f20 : V 20 = .bool true := f20
                replace f22 : V 22 = undef := f22
                refine .inl ⟨_, f20, fun hg => ?_, fun hg => ?_⟩
                · exact absurd hg (by decide)
                · rfl
              · intro V w1 hbR ⟨f23, f20, _⟩
                replace f20 : V 20 = .bool true := f20
                replace f23 : V 23 = undef := f23
                refine .inl ⟨_, f20, fun hg => ?_, fun hg => ?_⟩
                · exact absurd hg (by decide)
                · rfl
              · intro V w1 hbR ⟨f20, f24, _⟩
                replace f20 : V 20 = .bool true := f20
                replace f24 : V 24 = undef := f24
                unfold Does
                go_simp
                exact ⟨Below.refl _ _, rfl⟩
              · intro V w1 hbR ⟨f25, f23, _⟩
                replace f23 : V 23 = undef := f23
                replace f25 : V 25 = .bool true := f25
                unfold Does
                go_simp
                exact ⟨Below.refl _ _, rfl⟩
              · intro V w1 hbR ⟨f26, _⟩
                replace f26 : V 26 = .bool true := f26
                refine .inl ⟨_, f26, fun hg => ?_, fun hg => ?_⟩
                · exact absurd hg (by decide)
                · rfl
              · intro V w1 hbR ⟨f27, f26, _⟩
                replace f26 : V 26 = .bool true := f26
                replace f27 : V 27 = undef := f27
                refine .inl ⟨_, f26, fun hg => ?_, fun hg => ?_⟩
                · exact absurd hg (by decide)
                · rfl
              · intro V w1 hbR ⟨f28, f26, _⟩
                replace f26 : V 26 = .bool true := f26
                replace f28 : V 28 = undef := f28
                refine .inl ⟨_, f26, fun hg => ?_, fun hg => ?_⟩
                · exact absurd hg (by decide)
                · rfl
              · intro V w1 hbR ⟨f26, _⟩
                replace f26 : V 26 = .bool true := f26
                refine .inl ⟨_, f26, fun hg => ?_, fun hg => ?_⟩
                · exact absurd hg (by decide)
                · rfl
              · intro V w1 hbR ⟨f30, f26, _⟩
                replace f26 : V 26 = .bool true := f26
                replace f30 : V 30 = undef := f30
                refine .inl ⟨_, f26, fun hg => ?_, fun hg => ?_⟩
                · exact absurd hg (by decide)
                · rfl
              · intro V w1 hbR ⟨f29, f31, f26, _⟩
                replace f26 : V 26 = .bool true := f26
                replace f29 : V 29 = undef := f29
                replace f31 : V 31 = undef := f31
                refine .inl ⟨_, f26, fun hg => ?_, fun hg => ?_⟩
                · exact absurd hg (by decide)
                · rfl
              · intro V w1 hbR ⟨f26, f32, _⟩
                replace f26 : V 26 = .bool true := f26
                replace f32 : V 32 = undef := f32
                unfold Does
                go_simp
                exact ⟨Below.refl _ _, rfl⟩
            intro V w3 hbR hfR
            obtain ⟨f0, f1, f2, f3, f4, f5, f6, f7, f8, f9, f10, f11, f12, f13, f14, f15, f16, f17, f18, f19, f20, f21, f22, f23, f24, f25, f26, f27, f28, f29, f30, f31, f32, f33, _⟩ := hfR
            replace f0 : V 0 = .pointer (some ⟨wr.heap.size, 0, none⟩) := f0
            replace f1 : V 1 = .string ts[j + 1].var := f1
            replace f2 : V 2 = .bool true := f2
            replace f3 : V 3 = .bool false := f3
            replace f4 : V 4 = .bool false := f4
            replace f5 : V 5 = .int .i64 ((j + 1 : Nat) : Int) := f5
            replace f6 : V 6 = .bool true := f6
            replace f7 : V 7 = .bool true := f7
            replace f8 : V 8 = .pointer (some ⟨wr.heap.size, 0, none⟩) := f8
            replace f9 : V 9 = .string ts[j + 1].var := f9
            replace f10 : V 10 = .pointer (some ⟨w.heap.size, 0, none⟩) := f10
            replace f11 : V 11 = .slice (some ⟨b, off, none⟩) ts.length cap := f11
            replace f12 : V 12 = .int .i64 ((j + 1 : Nat) : Int) := f12
            replace f13 : V 13 = .int .i64 j := f13
            replace f14 : V 14 = .pointer (some ⟨b, off + j * 3, none⟩) := f14
            replace f15 : V 15 = .pointer (some ⟨b, off + j * 3, none⟩) := f15
            replace f16 : V 16 = .string ts[j].var := f16
            replace f17 : V 17 = .bool true := f17
            replace f18 : V 18 = .bool true := f18
            replace f19 : V 19 = .bool true := f19
            replace f20 : V 20 = .bool true := f20
            replace f21 : V 21 = undef := f21
            replace f22 : V 22 = undef := f22
            replace f23 : V 23 = undef := f23
            replace f24 : V 24 = undef := f24
            replace f25 : V 25 = .bool true := f25
            replace f26 : V 26 = .bool true := f26
            replace f27 : V 27 = undef := f27
            replace f28 : V 28 = undef := f28
            replace f29 : V 29 = undef := f29
            replace f30 : V 30 = undef := f30
            replace f31 : V 31 = undef := f31
            replace f32 : V 32 = undef := f32
            replace f33 : V 33 = .bool true := f33
            simp only [f0, f1, f2, f3, f4, f5, f6, f7, f8, f9, f10, f11, f12, f13, f14, f15, f16, f17, f18, f19, f20, f21, f22, f23, f24, f25, f26, f27, f28, f29, f30, f31, f32, f33]
            clear f0 f1 f2 f3 f4 f5 f6 f7 f8 f9 f10 f11 f12 f13 f14 f15 f16 f17 f18 f19 f20 f21 f22 f23 f24 f25 f26 f27 f28 f29 f30 f31 f32 f33
            clear eB0 eE0 eE1 eE2 lB lE
            go_wp2_with fail
            go_ret
            exact Gives.mk (by rw [Sb.valid, HZ.out]; rfl) (hW.trans (hbR.mono hW.size))
      · replace hA : varName ts[k].var = false := by simpa using hA
        have HZ : Hid (Bnd.allOk ts = false) := Bnd.allOk_bad hlt (Bnd.okAt_fits hlt (by simp [Bnd.fits, hA]))
        refine wp_region_B [fun v _ => v = .pointer (some ⟨wr.heap.size, 0, none⟩), fun v _ => v = .string ts[k].var, fun v _ => v = .bool false, fun v _ => v = .bool true, fun v _ => v = .bool true, fun v _ => v = undef, fun v _ => v = undef, fun v _ => v = undef, fun v _ => v = undef, fun v _ => v = undef, fun v _ => v = undef, fun v _ => v = undef, fun v _ => v = undef, fun v _ => v = undef, fun v _ => v = undef, fun v _ => v = undef, fun v _ => v = undef, fun v _ => v = undef, fun v _ => v = undef, fun v _ => v = .bool true, fun v _ => v = .bool true, fun v _ => v = undef, fun v _ => v = undef, fun v _ => v = undef, fun v _ => v = undef, fun v _ => v = .bool true, fun v _ => v = .bool true, fun v _ => v = undef, fun v _ => v = undef, fun v _ => v = undef, fun v _ => v = undef, fun v _ => v = undef, fun v _ => v = undef, fun v _ => v = .bool true] _ (fun V => by simp [putAll, Act.put]; rfl) (by kernel_rfl) (by decide) (by simp) (by kernel_rfl) ?_ ?_ ?_
        · intro F hF
          simp only [List.mem_cons, List.not_mem_nil, or_false] at hF
          rcases hF with rfl | rfl | rfl | rfl | rfl | rfl | rfl | rfl | rfl | rfl | rfl | rfl | rfl | rfl | rfl | rfl | rfl | rfl | rfl | rfl | rfl | rfl | rfl | rfl | rfl | rfl | rfl | rfl | rfl | rfl | rfl | rfl | rfl | rfl
          · exact stable_eq
          · exact stable_eq
          · exact stable_eq
          · exact stable_eq
          · exact stable_eq
          · exact stable_eq
          · exact stable_eq
          · exact stable_eq
          · exact stable_eq
          · exact stable_eq
          · exact stable_eq
          · exact stable_eq
          · exact stable_eq
          · exact stable_eq
          · exact stable_eq
          · exact stable_eq
          · exact stable_eq
          · exact stable_eq
          · exact stable_eq
          · exact stable_eq
          · exact stable_eq
          · exact stable_eq
          · exact stable_eq
          · exact stable_eq
          · exact stable_eq
          · exact stable_eq
          · exact stable_eq
          · exact stable_eq
          · exact stable_eq
          · exact stable_eq
          · exact stable_eq
          · exact stable_eq
          · exact stable_eq
          · exact stable_eq
        · refine ⟨?_, ?_, ?_, ?_, ?_, ?_, ?_, ?_, ?_, ?_, ?_, ?_, ?_, ?_, ?_, ?_, ?_, ?_, ?_, ?_, ?_, ?_, ?_, ?_, ?_, ?_, ?_, ?_, ?_, ?_, ?_, ?_, ?_, ?_, trivial⟩
          · intro V w1 hbR _
            unfold Does
            go_simp
            exact ⟨Below.refl _ _, rfl⟩
          · intro V w1 hbR ⟨f0, _⟩
            replace f0 : V 0 = .pointer (some ⟨wr.heap.size, 0, none⟩) := f0
            obtain ⟨hc, hf⟩ := bcell hbR
            try simp only [World.size_alloc, World.size_setCell] at hc hf
            unfold Does
            go_simp
            exact ⟨Below.refl _ _, rfl⟩
          · intro V w1 hbR ⟨f1, _⟩
            replace f1 : V 1 = .string ts[k].var := f1
            obtain ⟨hc, hf⟩ := bcell hbR
            try simp only [World.size_alloc, World.size_setCell] at hc hf
            unfold Does
            go_simp
            refine (isVariable_any _ hvl w1).mono ?_; rintro e w4 ⟨rfl, rfl⟩; exact ⟨_, rfl, Below.refl _ _, by rw [hA]⟩
          · intro V w1 hbR ⟨f2, _⟩
            replace f2 : V 2 = .bool false := f2
            unfold Does
            go_simp
            exact ⟨Below.refl _ _, rfl⟩
          · intro V w1 hbR ⟨f3, f2, _⟩
            replace f2 : V 2 = .bool false := f2
            replace f3 : V 3 = .bool true := f3
            unfold Does
            go_simp
            exact ⟨Below.refl _ _, rfl⟩
          · intro V w1 hbR ⟨f4, _⟩
            replace f4 : V 4 = .bool true := f4
            refine .inl ⟨_, f4, fun hg => ?_, fun hg => ?_⟩
            · exact absurd hg (by decide)
            · rfl
          · intro V w1 hbR ⟨f5, f4, _⟩
            replace f4 : V 4 = .bool true := f4
            replace f5 : V 5 = undef := f5
            refine .inl ⟨_, f4, fun hg => ?_, fun hg => ?_⟩
            · exact absurd hg (by decide)
            · rfl
          · intro V w1 hbR ⟨f6, f4, _, _⟩
            replace f4 : V 4 = .bool true := f4
            replace f6 : V 6 = undef := f6
            refine .inl ⟨_, f4, fun hg => ?_, fun hg => ?_⟩
            · exact absurd hg (by decide)
            · rfl
          · intro V w1 hbR ⟨f7, _⟩
            replace f7 : V 7 = undef := f7
            exact .inr ⟨f7, rfl⟩
          · intro V w1 hbR ⟨f8, f7, _⟩
            replace f7 : V 7 = undef := f7
            replace f8 : V 8 = undef := f8
            exact .inr ⟨f7, rfl⟩
          · intro V w1 hbR ⟨f7, _⟩
            replace f7 : V 7 = undef := f7
            exact .inr ⟨f7, rfl⟩
          · intro V w1 hbR ⟨f10, f7, _⟩
            replace f7 : V 7 = undef := f7
            replace f10 : V 10 = undef := f10
            exact .inr ⟨f7, rfl⟩
          · intro V w1 hbR ⟨f7, _⟩
            replace f7 : V 7 = undef := f7
            exact .inr ⟨f7, rfl⟩
          · intro V w1 hbR ⟨f12, f7, _⟩
            replace f7 : V 7 = undef := f7
            replace f12 : V 12 = undef := f12
            exact .inr ⟨f7, rfl⟩
          · intro V w1 hbR ⟨f11, f13, f7, _⟩
            replace f7 : V 7 = undef := f7
            replace f11 : V 11 = undef := f11
            replace f13 : V 13 = undef := f13
            exact .inr ⟨f7, rfl⟩
          · intro V w1 hbR ⟨f14, f7, _⟩
            replace f7 : V 7 = undef := f7
            replace f14 : V 14 = undef := f14
            exact .inr ⟨f7, rfl⟩
          · intro V w1 hbR ⟨f15, f7, _⟩
            replace f7 : V 7 = undef := f7
            replace f15 : V 15 = undef := f15
            exact .inr ⟨f7, rfl⟩
          · intro V w1 hbR ⟨f9, f16, f7, _⟩
            replace f7 : V 7 = undef := f7
            replace f9 : V 9 = undef := f9
            replace f16 : V 16 = undef := f16
            exact .inr ⟨f7, rfl⟩
          · intro V w1 hbR ⟨f7, f17, f4, _⟩
            replace f4 : V 4 = .bool true := f4
            replace f7 : V 7 = undef := f7
            replace f17 : V 17 = undef := f17
            refine .inl ⟨_, f4, fun hg => ?_, fun hg => ?_⟩
            · exact absurd hg (by decide)
            · rfl
          · intro V w1 hbR ⟨f4, f18, _⟩
            replace f4 : V 4 = .bool true := f4
            replace f18 : V 18 = undef := f18
            unfold Does
            go_simp
            exact ⟨Below.refl _ _, rfl⟩
          · intro V w1 hbR ⟨f19, f7, _⟩
            replace f7 : V 7 = undef := f7
            replace f19 : V 19 = .bool true := f19
            unfold Does
            go_simp
            exact ⟨Below.refl _ _, rfl⟩
          · intro V w1 hbR ⟨f20, _⟩
            replace f20 : V 20 = .bool true := f20
            refine .inl ⟨_, f20, fun hg => ?_, fun hg => ?_⟩
            · exact absurd hg (by decide)
            · rfl
          · intro V w1 hbR ⟨f21, f20, _⟩
            replace f20 : V 20 = .bool true := f20
            replace f21 : V 21 = undef := f21
            refine .inl ⟨_, f20, fun hg => ?_, fun hg => ?_⟩
            · exact absurd hg (by decide)
            · rfl
          · intro V w1 hbR ⟨f22, f20, _, _⟩
            replace f20 : V 20 = .bool true := f20
            replace f22 : V 22 = undef := f22
            refine .inl ⟨_, f20, fun hg => ?_, fun hg => ?_⟩
            · exact absurd hg (by decide)
            · rfl
          · intro V w1 hbR ⟨f23, f20, _⟩
            replace f20 : V 20 = .bool true := f20
            replace f23 : V 23 = undef := f23
            refine .inl ⟨_, f20, fun hg => ?_, fun hg => ?_⟩
            · exact absurd hg (by decide)
            · rfl
          · intro V w1 hbR ⟨f20, f24, _⟩
            replace f20 : V 20 = .bool true := f20
            replace f24 : V 24 = undef := f24
            unfold Does
            go_simp
            exact ⟨Below.refl _ _, rfl⟩
          · intro V w1 hbR ⟨f25, f23, _⟩
            replace f23 : V 23 = undef := f23
            replace f25 : V 25 = .bool true := f25
            unfold Does
            go_simp
            exact ⟨Below.refl _ _, rfl⟩
          · intro V w1 hbR ⟨f26, _⟩
            replace f26 : V 26 = .bool true := f26
            refine .inl ⟨_, f26, fun hg => ?_, fun hg => ?_⟩
            · exact absurd hg (by decide)
            · rfl
          · intro V w1 hbR ⟨f27, f26, _⟩
            replace f26 : V 26 = .bool true := f26
            replace f27 : V 27 = undef := f27
            refine .inl ⟨_, f26, fun hg => ?_, fun hg => ?_⟩
            · exact absurd hg (by decide)
            · rfl
          · intro V w1 hbR ⟨f28, f26, _⟩
            replace f26 : V 26 = .bool true := f26
            replace f28 : V 28 = undef := f28
            refine .inl ⟨_, f26, fun hg => ?_, fun hg => ?_⟩
            · exact absurd hg (by decide)
            · rfl
          · intro V w1 hbR ⟨f26, _⟩
            replace f26 : V 26 = .bool true := f26
            refine .inl ⟨_, f26, fun hg => ?_, fun hg => ?_⟩
            · exact absurd hg (by decide)
            · rfl
          · intro V w1 hbR ⟨f30, f26, _⟩
            replace f26 : V 26 = .bool true := f26
            replace f30 : V 30 = undef := f30
            refine .inl ⟨_, f26, fun hg => ?_, fun hg => ?_⟩
            · exact absurd hg (by decide)
            · rfl
          · intro V w1 hbR ⟨f29, f31, f26, _⟩
            replace f26 : V 26 = .bool true := f26
            replace f29 : V 29 = undef := f29
            replace f31 : V 31 = undef := f31
            refine .inl ⟨_, f26, fun hg => ?_, fun hg => ?_⟩
            · exact absurd hg (by decide)
            · rfl
          · intro V w1 hbR ⟨f26, f32, _⟩
            replace f26 : V 26 = .bool true := f26
            replace f32 : V 32 = undef := f32
            unfold Does
            go_simp
            exact ⟨Below.refl _ _, rfl⟩
        intro V w3 hbR hfR
        obtain ⟨f0, f1, f2, f3, f4, f5, f6, f7, f8, f9, f10, f11, f12, f13, f14, f15, f16, f17, f18, f19, f20, f21, f22, f23, f24, f25, f26, f27, f28, f29, f30, f31, f32, f33, _⟩ := hfR
        replace f0 : V 0 = .pointer (some ⟨wr.heap.size, 0, none⟩) := f0
        replace f1 : V 1 = .string ts[k].var := f1
        replace f2 : V 2 = .bool false := f2
        replace f3 : V 3 = .bool true := f3
        replace f4 : V 4 = .bool true := f4
        replace f5 : V 5 = undef := f5
        replace f6 : V 6 = undef := f6
        replace f7 : V 7 = undef := f7
        replace f8 : V 8 = undef := f8
        replace f9 : V 9 = undef := f9
        replace f10 : V 10 = undef := f10
        replace f11 : V 11 = undef := f11
        replace f12 : V 12 = undef := f12
        replace f13 : V 13 = undef := f13
        replace f14 : V 14 = undef := f14
        replace f15 : V 15 = undef := f15
        replace f16 : V 16 = undef := f16
        replace f17 : V 17 = undef := f17
        replace f18 : V 18 = undef := f18
        replace f19 : V 19 = .bool true := f19
        replace f20 : V 20 = .bool true := f20
        replace f21 : V 21 = undef := f21
        replace f22 : V 22 = undef := f22
        replace f23 : V 23 = undef := f23
        replace f24 : V 24 = undef := f24
        replace f25 : V 25 = .bool true := f25
        replace f26 : V 26 = .bool true := f26
        replace f27 : V 27 = undef := f27
        replace f28 : V 28 = undef := f28
        replace f29 : V 29 = undef := f29
        replace f30 : V 30 = undef := f30
        replace f31 : V 31 = undef := f31
        replace f32 : V 32 = undef := f32
        replace f33 : V 33 = .bool true := f33
        simp only [f0, f1, f2, f3, f4, f5, f6, f7, f8, f9, f10, f11, f12, f13, f14, f15, f16, f17, f18, f19, f20, f21, f22, f23, f24, f25, f26, f27, f28, f29, f30, f31, f32, f33]
        clear f0 f1 f2 f3 f4 f5 f6 f7 f8 f9 f10 f11 f12 f13 f14 f15 f16 f17 f18 f19 f20 f21 f22 f23 f24 f25 f26 f27 f28 f29 f30 f31 f32 f33
        clear eB0 eE0 eE1 eE2 lB lE
        go_wp2_with fail
        go_ret
        exact Gives.mk (by rw [Sb.valid, HZ.out]; rfl) (hW.trans (hbR.mono hW.size))
    · obtain rfl : k = ts.length := by omega
      have HZ : Hid (Bnd.allOk ts = true) := Bnd.allOk_good HX.out
      clear hr
      go_wp2_with fail
      go_ret
      exact Gives.mk (by rw [Sb.valid, HZ.out]; simp; omega) hbw
end Go.Proofs.YtglhbaigigdeeaaGreat
