/- Several texts in one file. -/
import Derived.Test.YtooocakkjdhfiaaGreatDoorQ10
import Derived.Test.YtooocakkjdhfiaaGreatDoorQ04
/- Is a clause valid? -/
namespace Go.Proofs.YtooocakkjdhfiaaGreatDoor
set_option maxRecDepth 100000
open Go.RowKit

/-- the literal at k, and that the one ahead of it is less -/
def Lit.okAt (ts : List Lit) (k : Nat) : Bool :=
  match ts[k]?, k with
  | none, _ => true
  | some b, 0 => b.atom.atom
  | some b, j + 1 => b.atom.atom && ((ts[j]?).map fun p => decide (Lit.cmp p b < 0)).getD true
def Lit.allOk (ts : List Lit) : Bool := (List.range ts.length).all (Lit.okAt ts)
def Cl.valid (x : Cl) : Bool := Lit.allOk x.ls && decide (x.ls.length ≤ 8)
theorem Lit.okAt_zero {ts : List Lit} (h : 0 < ts.length) : Lit.okAt ts 0 = ts[0].atom.atom := by
  unfold Lit.okAt; rw [List.getElem?_eq_getElem h]
theorem Lit.okAt_succ {ts : List Lit} {j : Nat} (h : j + 1 < ts.length) : Lit.okAt ts (j + 1) = (ts[j + 1].atom.atom && decide (Lit.cmp ts[j] ts[j + 1] < 0)) := by
  unfold Lit.okAt
  rw [List.getElem?_eq_getElem h]
  show (ts[j + 1].atom.atom && (Option.map (fun p : Lit => decide (Lit.cmp p ts[j + 1] < 0)) ts[j]?).getD true) = _
  rw [List.getElem?_eq_getElem (show j < ts.length by omega)]; rfl
theorem Lit.okAt_atom {ts : List Lit} {k : Nat} (h : k < ts.length) (hf : ts[k].atom.atom = false) : Lit.okAt ts k = false := by
  cases k with
  | zero => rw [Lit.okAt_zero h, hf]
  | succ j => rw [Lit.okAt_succ h, hf]; rfl
theorem Lit.okAt_valid {ts : List Lit} {k : Nat} (h : k < ts.length) (hf : Lit.okAt ts k = true) : ts[k].atom.atom = true := by
  by_cases ha : ts[k].atom.atom = true
  · exact ha
  · rw [Lit.okAt_atom h (by simpa using ha)] at hf; exact absurd hf (by simp)
theorem Lit.allOk_bad {ts : List Lit} {k : Nat} (h : k < ts.length) (hf : Lit.okAt ts k = false) : Lit.allOk ts = false := by
  rw [Bool.eq_false_iff]; intro e
  rw [Lit.allOk, List.all_eq_true] at e
  rw [e k (List.mem_range.2 h)] at hf
  exact absurd hf (by simp)
theorem Lit.allOk_good {ts : List Lit} (h : ∀ i, i < ts.length → Lit.okAt ts i = true) : Lit.allOk ts = true := by
  rw [Lit.allOk, List.all_eq_true]; exact fun i hi => h i (List.mem_range.1 hi)

set_option maxHeartbeats 4000000 in
theorem impl_IsValidClause {x : Cl} {S : Nat → Prop} {c0 : Value} {w : World} (hr : Cl.at S w c0 x) (hbk : x.bulk ≤ 1048576) : Calls Tryz.prog 25 #[.agg #[c0]] w (Gives w (.bool x.valid)) := by
  obtain ⟨ts⟩ := x
  rw [Cl.bulk] at hbk
  unfold Cl.at at hr
  simp only at hr hbk
  obtain ⟨a, cap, rfl, hlen, hcap⟩ := Lit.sd_form hr
  unfold big at hlen
  go_enter Tryz.func25, Tryz.ntmps25
  go_wp2_with fail
  go_loopw [8] (fun i wr => ∃ (k : Nat), k ≤ ts.length ∧ i = .int .i64 k ∧ Hid (∀ i, i < k → Lit.okAt ts i = true) ∧ Below (w.heap.size + 1) (w.alloc (.cells #[.slice a ts.length cap] 28)) wr) (fun i _ => ts.length - (intOf i).toNat)
  case atStart => exact ⟨0, Nat.zero_le _, rfl, fun i h => absurd h (by omega), Below.refl _ _⟩
  case round =>
    obtain ⟨k, hk, rfl, HX, hb⟩ := hrel
    have hbw : Below w.heap.size w wr := ((Below.refl _ _).alloc (Nat.le_refl _) _).trans (hb.mono (by omega))
    have hz := hb.size
    simp only [World.size_alloc] at hz
    have hz0 : w.heap.size < wr.heap.size := by omega
    have bT : Box wr w.heap.size [.slice a ts.length cap] := by
      have q := (Box.new w [Value.slice a ts.length cap] 28)
      exact ⟨by omega, fun i hi => (hb.cell (by simp)).trans (q.cell i hi)⟩
    have e10 := bT.c0
    by_cases hlt : k < ts.length
    · have hne : ts ≠ [] := by intro e; subst e; simp at hlt
      obtain ⟨b, off, rfl, hS, hbl, hrr⟩ := Lit.sd_get hr hne
      obtain ⟨c0, c1, c2, q0, q1, q2, qx⟩ := hrr k hlt
      have hbm : ts[k].bulk ≤ 1048576 := by have := Lit.bulk_mem (List.getElem_mem hlt); omega
      have hbm' : ts[k].atom.bulk ≤ 1048576 := hbm
      obtain ⟨rfl, rfl, x, xc, rfl⟩ := Lit.at_form qx
      replace q0 := (hbw.cell (p := ⟨b, off + k * 3, none⟩) hbl).trans q0
      replace q1 := (hbw.cell (p := ⟨b, off + k * 3 + 1, none⟩) hbl).trans q1
      replace q2 := (hbw.cell (p := ⟨b, off + k * 3 + 2, none⟩) hbl).trans q2
      have hE := Lit.at_keep (Keeps.all hbw) qx
      have HP : Hid (∀ j (hj : j < ts.length), ∃ y yc, wr.cell? ⟨b, off + j * 3, none⟩ = some (.bool ts[j].pos) ∧ wr.cell? ⟨b, off + j * 3 + 1, none⟩ = some (.string ts[j].atom.name) ∧ wr.cell? ⟨b, off + j * 3 + 2, none⟩ = some (.slice y ts[j].atom.args.length yc) ∧ Lit.at S wr (.bool ts[j].pos) (.string ts[j].atom.name) (.slice y ts[j].atom.args.length yc) ts[j]) := fun j hj => by
        obtain ⟨d0, d1, d2, p0, p1, p2, px⟩ := hrr j hj
        obtain ⟨rfl, rfl, y, yc, rfl⟩ := Lit.at_form px
        exact ⟨y, yc, (hbw.cell (p := ⟨b, off + j * 3, none⟩) hbl).trans p0, (hbw.cell (p := ⟨b, off + j * 3 + 1, none⟩) hbl).trans p1, (hbw.cell (p := ⟨b, off + j * 3 + 2, none⟩) hbl).trans p2, Lit.at_keep (Keeps.all hbw) px⟩
      clear hrr hr qx
      go_wp2_with fail
      clear q0 q1 q2
      have hA0 : Below wr.heap.size wr (wr.alloc (.cells #[.bool ts[k].pos, .string ts[k].atom.name, .slice x ts[k].atom.args.length xc] 52)) := (Below.refl _ _).alloc (Nat.le_refl _) _
      have bE : Box (wr.alloc (.cells #[.bool ts[k].pos, .string ts[k].atom.name, .slice x ts[k].atom.args.length xc] 52)) wr.heap.size [.bool ts[k].pos, .string ts[k].atom.name, .slice x ts[k].atom.args.length xc] := Box.new _ _ _
      replace bT := bT.keep hA0
      replace hE := Lit.at_keep (Keeps.all hA0) hE
      have HP' : Hid (∀ j (hj : j < ts.length), ∃ y yc, (wr.alloc (.cells #[.bool ts[k].pos, .string ts[k].atom.name, .slice x ts[k].atom.args.length xc] 52)).cell? ⟨b, off + j * 3, none⟩ = some (.bool ts[j].pos) ∧ (wr.alloc (.cells #[.bool ts[k].pos, .string ts[k].atom.name, .slice x ts[k].atom.args.length xc] 52)).cell? ⟨b, off + j * 3 + 1, none⟩ = some (.string ts[j].atom.name) ∧ (wr.alloc (.cells #[.bool ts[k].pos, .string ts[k].atom.name, .slice x ts[k].atom.args.length xc] 52)).cell? ⟨b, off + j * 3 + 2, none⟩ = some (.slice y ts[j].atom.args.length yc) ∧ Lit.at S (wr.alloc (.cells #[.bool ts[k].pos, .string ts[k].atom.name, .slice x ts[k].atom.args.length xc] 52)) (.bool ts[j].pos) (.string ts[j].atom.name) (.slice y ts[j].atom.args.length yc) ts[j]) := fun j hj => by
        obtain ⟨y, yc, p0, p1, p2, px⟩ := HP.out j hj
        exact ⟨y, yc, cell_alloc p0 _, cell_alloc p1 _, cell_alloc p2 _, Lit.at_keep (Keeps.all hA0) px⟩
      have lb : b < (wr.alloc (.cells #[.bool ts[k].pos, .string ts[k].atom.name, .slice x ts[k].atom.args.length xc] 52)).heap.size := Nat.lt_of_lt_of_le hbl (hbw.trans (hA0.mono hbw.size)).size
      clear HP e10
      generalize wr.alloc (.cells #[.bool ts[k].pos, .string ts[k].atom.name, .slice x ts[k].atom.args.length xc] 52) = w2 at *
      have hW := hbw.trans (hA0.mono hbw.size)
      have eB0 := bT.c0
      have lB := bT.lt
      have eE0 := bE.c0
      have eE1 := bE.c1
      have eE2 := bE.c2
      have lE := bE.lt
      by_cases hA : ts[k].atom.atom = true
      · by_cases hk1 : 0 < k
        · have hk0 : (0 : Int) < k := by omega
          obtain ⟨j, HJ⟩ : ∃ j, Hid (k = j + 1) := ⟨k - 1, by show k = k - 1 + 1; omega⟩
          have hj : j < ts.length := by have := HJ.out; omega
          have hjc : (j : Int) < ts.length := by omega
          obtain ⟨y, yc, p0, p1, p2, hJ⟩ := HP'.out j hj
          have HJA : Hid (ts[j].atom.atom = true) := Lit.okAt_valid hj (HX.out j (by have := HJ.out; omega))
          by_cases hC : 0 ≤ Lit.cmp ts[j] ts[k]
          · skip
            have HZ : Hid (Lit.allOk ts = false) := Lit.allOk_bad hlt (by have hjk := HJ.out; subst hjk; rw [Lit.okAt_succ hlt, hA]; simp; omega)
            refine wp_region_B [fun v _ => v = .agg #[.bool ts[k].pos, .string ts[k].atom.name, .slice x ts[k].atom.args.length xc], fun v _ => v = .bool true, fun v _ => v = .bool false, fun v _ => v = .bool false, fun v _ => v = .int .i64 k, fun v _ => v = .bool true, fun v _ => v = .bool true, fun v _ => v = .pointer (some ⟨w.heap.size, 0, none⟩), fun v _ => v = .slice (some ⟨b, off, none⟩) ts.length cap, fun v _ => v = .int .i64 k, fun v _ => v = .int .i64 j, fun v _ => v = .pointer (some ⟨b, off + j * 3, none⟩), fun v _ => v = .agg #[.bool ts[j].pos, .string ts[j].atom.name, .slice y ts[j].atom.args.length yc], fun v _ => v = .agg #[.bool ts[k].pos, .string ts[k].atom.name, .slice x ts[k].atom.args.length xc], fun v _ => v = .int .i64 (Lit.cmp ts[j] ts[k]), fun v _ => v = .bool true, fun v _ => v = .bool true, fun v _ => v = .bool true] _ (fun V => by simp [putAll, Act.put]; rfl) (by kernel_rfl) (by decide) (by simp) (by kernel_rfl) ?_ ?_ ?_
            · intro F hF
              simp only [List.mem_cons, List.not_mem_nil, or_false] at hF
              rcases hF with rfl | rfl | rfl | rfl | rfl | rfl | rfl | rfl | rfl | rfl | rfl | rfl | rfl | rfl | rfl | rfl | rfl | rfl
              · exact stable_eq
              · exact stable_eq
              · exact stable_eq
              · exact stable_eq
              · exact stable_eq
              · exact stable_eq
              · exact stable_eq
              · exact stable_eq
              · exact stable_eq
              · exact stable_eq
              · exact stable_eq
              · exact stable_eq
              · exact stable_eq
              · exact stable_eq
              · exact stable_eq
              · exact stable_eq
              · exact stable_eq
              · exact stable_eq
            · refine ⟨?_, ?_, ?_, ?_, ?_, ?_, ?_, ?_, ?_, ?_, ?_, ?_, ?_, ?_, ?_, ?_, ?_, ?_, trivial⟩
              · intro V w1 hbR _
                obtain ⟨hc, hf⟩ := bcell hbR
                try simp only [World.size_alloc, World.size_setCell] at hc hf
                unfold Does
                go_simp
                exact ⟨Below.refl _ _, rfl⟩
              · intro V w1 hbR ⟨f0, _⟩
                replace f0 : V 0 = .agg #[.bool ts[k].pos, .string ts[k].atom.name, .slice x ts[k].atom.args.length xc] := f0
                obtain ⟨hc, hf⟩ := bcell hbR
                try simp only [World.size_alloc, World.size_setCell] at hc hf
                unfold Does
                go_simp
                have hEk := Lit.at_keep (Keeps.all hbR) hE; have hq := impl_IsValidLiteral hEk hbm; rw [hA] at hq; exact hq
              · intro V w1 hbR ⟨f1, _⟩
                replace f1 : V 1 = .bool true := f1
                unfold Does
                go_simp
                exact ⟨Below.refl _ _, rfl⟩
              · intro V w1 hbR ⟨f2, f1, _⟩
                replace f1 : V 1 = .bool true := f1
                replace f2 : V 2 = .bool false := f2
                unfold Does
                go_simp
                exact ⟨Below.refl _ _, rfl⟩
              · intro V w1 hbR ⟨f3, _⟩
                replace f3 : V 3 = .bool false := f3
                refine .inl ⟨_, f3, fun hg => ?_, fun hg => ?_⟩
                · unfold Does
                  go_simp
                  exact ⟨Below.refl _ _, rfl⟩
                · exact absurd rfl hg
              · intro V w1 hbR ⟨f4, f3, _⟩
                replace f3 : V 3 = .bool false := f3
                replace f4 : V 4 = .int .i64 k := f4
                refine .inl ⟨_, f3, fun hg => ?_, fun hg => ?_⟩
                · unfold Does
                  go_simp
                  exact ⟨Below.refl _ _, rfl⟩
                · exact absurd rfl hg
              · intro V w1 hbR ⟨f5, f3, _, _⟩
                replace f3 : V 3 = .bool false := f3
                replace f5 : V 5 = .bool true := f5
                refine .inl ⟨_, f3, fun hg => ?_, fun hg => ?_⟩
                · unfold Does
                  go_simp
                  exact ⟨Below.refl _ _, rfl⟩
                · exact absurd rfl hg
              · intro V w1 hbR ⟨f6, _⟩
                replace f6 : V 6 = .bool true := f6
                refine .inl ⟨_, f6, fun hg => ?_, fun hg => ?_⟩
                · unfold Does
                  go_simp
                  exact ⟨Below.refl _ _, rfl⟩
                · exact absurd rfl hg
              · intro V w1 hbR ⟨f7, f6, _⟩
                replace f6 : V 6 = .bool true := f6
                replace f7 : V 7 = .pointer (some ⟨w.heap.size, 0, none⟩) := f7
                refine .inl ⟨_, f6, fun hg => ?_, fun hg => ?_⟩
                · obtain ⟨hc, hf⟩ := bcell hbR
                  try simp only [World.size_alloc, World.size_setCell] at hc hf
                  unfold Does
                  go_simp
                  exact ⟨Below.refl _ _, rfl⟩
                · exact absurd rfl hg
              · intro V w1 hbR ⟨f6, _⟩
                replace f6 : V 6 = .bool true := f6
                refine .inl ⟨_, f6, fun hg => ?_, fun hg => ?_⟩
                · unfold Does
                  go_simp
                  exact ⟨Below.refl _ _, rfl⟩
                · exact absurd rfl hg
              · intro V w1 hbR ⟨f9, f6, _⟩
                replace f6 : V 6 = .bool true := f6
                replace f9 : V 9 = .int .i64 k := f9
                refine .inl ⟨_, f6, fun hg => ?_, fun hg => ?_⟩
                · unfold Does
                  go_simp
                  exact ⟨Below.refl _ _, by congr 1; rw [IntKind.wrap_i64]; have := HJ.out; omega⟩
                · exact absurd rfl hg
              · intro V w1 hbR ⟨f8, f10, f6, _⟩
                replace f6 : V 6 = .bool true := f6
                replace f8 : V 8 = .slice (some ⟨b, off, none⟩) ts.length cap := f8
                replace f10 : V 10 = .int .i64 j := f10
                refine .inl ⟨_, f6, fun hg => ?_, fun hg => ?_⟩
                · unfold Does
                  go_simp
                  exact ⟨Below.refl _ _, rfl⟩
                · exact absurd rfl hg
              · intro V w1 hbR ⟨f11, f6, _⟩
                replace f6 : V 6 = .bool true := f6
                replace f11 : V 11 = .pointer (some ⟨b, off + j * 3, none⟩) := f11
                refine .inl ⟨_, f6, fun hg => ?_, fun hg => ?_⟩
                · obtain ⟨hc, hf⟩ := bcell hbR
                  try simp only [World.size_alloc, World.size_setCell] at hc hf
                  unfold Does
                  go_simp
                  exact ⟨Below.refl _ _, rfl⟩
                · exact absurd rfl hg
              · intro V w1 hbR ⟨f6, _⟩
                replace f6 : V 6 = .bool true := f6
                refine .inl ⟨_, f6, fun hg => ?_, fun hg => ?_⟩
                · obtain ⟨hc, hf⟩ := bcell hbR
                  try simp only [World.size_alloc, World.size_setCell] at hc hf
                  unfold Does
                  go_simp
                  exact ⟨Below.refl _ _, rfl⟩
                · exact absurd rfl hg
              · intro V w1 hbR ⟨f12, f13, f6, _, _⟩
                replace f6 : V 6 = .bool true := f6
                replace f12 : V 12 = .agg #[.bool ts[j].pos, .string ts[j].atom.name, .slice y ts[j].atom.args.length yc] := f12
                replace f13 : V 13 = .agg #[.bool ts[k].pos, .string ts[k].atom.name, .slice x ts[k].atom.args.length xc] := f13
                refine .inl ⟨_, f6, fun hg => ?_, fun hg => ?_⟩
                · obtain ⟨hc, hf⟩ := bcell hbR
                  try simp only [World.size_alloc, World.size_setCell] at hc hf
                  unfold Does
                  go_simp
                  exact compareLiterals_any HJA.out hA (Lit.at_keep (Keeps.all hbR) hJ) (Lit.at_keep (Keeps.all hbR) hE)
                · exact absurd rfl hg
              · intro V w1 hbR ⟨f14, f6, _⟩
                replace f6 : V 6 = .bool true := f6
                replace f14 : V 14 = .int .i64 (Lit.cmp ts[j] ts[k]) := f14
                refine .inl ⟨_, f6, fun hg => ?_, fun hg => ?_⟩
                · unfold Does
                  go_simp
                  exact ⟨Below.refl _ _, rfl⟩
                · exact absurd rfl hg
              · intro V w1 hbR ⟨f6, f15, f3, _⟩
                replace f3 : V 3 = .bool false := f3
                replace f6 : V 6 = .bool true := f6
                replace f15 : V 15 = .bool true := f15
                refine .inl ⟨_, f3, fun hg => ?_, fun hg => ?_⟩
                · unfold Does
                  go_simp
                  exact ⟨Below.refl _ _, rfl⟩
                · exact absurd rfl hg
              · intro V w1 hbR ⟨f3, f16, _⟩
                replace f3 : V 3 = .bool false := f3
                replace f16 : V 16 = .bool true := f16
                unfold Does
                go_simp
                exact ⟨Below.refl _ _, rfl⟩
            intro V w3 hbR hfR
            obtain ⟨f0, f1, f2, f3, f4, f5, f6, f7, f8, f9, f10, f11, f12, f13, f14, f15, f16, f17, _⟩ := hfR
            replace f0 : V 0 = .agg #[.bool ts[k].pos, .string ts[k].atom.name, .slice x ts[k].atom.args.length xc] := f0
            replace f1 : V 1 = .bool true := f1
            replace f2 : V 2 = .bool false := f2
            replace f3 : V 3 = .bool false := f3
            replace f4 : V 4 = .int .i64 k := f4
            replace f5 : V 5 = .bool true := f5
            replace f6 : V 6 = .bool true := f6
            replace f7 : V 7 = .pointer (some ⟨w.heap.size, 0, none⟩) := f7
            replace f8 : V 8 = .slice (some ⟨b, off, none⟩) ts.length cap := f8
            replace f9 : V 9 = .int .i64 k := f9
            replace f10 : V 10 = .int .i64 j := f10
            replace f11 : V 11 = .pointer (some ⟨b, off + j * 3, none⟩) := f11
            replace f12 : V 12 = .agg #[.bool ts[j].pos, .string ts[j].atom.name, .slice y ts[j].atom.args.length yc] := f12
            replace f13 : V 13 = .agg #[.bool ts[k].pos, .string ts[k].atom.name, .slice x ts[k].atom.args.length xc] := f13
            replace f14 : V 14 = .int .i64 (Lit.cmp ts[j] ts[k]) := f14
            replace f15 : V 15 = .bool true := f15
            replace f16 : V 16 = .bool true := f16
            replace f17 : V 17 = .bool true := f17
            simp only [f0, f1, f2, f3, f4, f5, f6, f7, f8, f9, f10, f11, f12, f13, f14, f15, f16, f17]
            clear f0 f1 f2 f3 f4 f5 f6 f7 f8 f9 f10 f11 f12 f13 f14 f15 f16 f17
            clear eB0 eE0 eE1 eE2 lB lE
            go_wp2_with fail
            go_ret
            exact Gives.mk (by rw [Cl.valid, HZ.out]; rfl) (hW.trans (hbR.mono hW.size))
          · skip
            have HZ : Hid (∀ i, i < k + 1 → Lit.okAt ts i = true) := fun i hi => if h : i < k then HX.out i h else by
              obtain rfl : i = k := by omega
              exact (by have hjk := HJ.out; subst hjk; rw [Lit.okAt_succ hlt, hA]; simp; omega)
            refine wp_region_B [fun v _ => v = .agg #[.bool ts[k].pos, .string ts[k].atom.name, .slice x ts[k].atom.args.length xc], fun v _ => v = .bool true, fun v _ => v = .bool false, fun v _ => v = .bool false, fun v _ => v = .int .i64 k, fun v _ => v = .bool true, fun v _ => v = .bool true, fun v _ => v = .pointer (some ⟨w.heap.size, 0, none⟩), fun v _ => v = .slice (some ⟨b, off, none⟩) ts.length cap, fun v _ => v = .int .i64 k, fun v _ => v = .int .i64 j, fun v _ => v = .pointer (some ⟨b, off + j * 3, none⟩), fun v _ => v = .agg #[.bool ts[j].pos, .string ts[j].atom.name, .slice y ts[j].atom.args.length yc], fun v _ => v = .agg #[.bool ts[k].pos, .string ts[k].atom.name, .slice x ts[k].atom.args.length xc], fun v _ => v = .int .i64 (Lit.cmp ts[j] ts[k]), fun v _ => v = .bool false, fun v _ => v = .bool false, fun v _ => v = .bool false] _ (fun V => by simp [putAll, Act.put]; rfl) (by kernel_rfl) (by decide) (by simp) (by kernel_rfl) ?_ ?_ ?_
            · intro F hF
              simp only [List.mem_cons, List.not_mem_nil, or_false] at hF
              rcases hF with rfl | rfl | rfl | rfl | rfl | rfl | rfl | rfl | rfl | rfl | rfl | rfl | rfl | rfl | rfl | rfl | rfl | rfl
              · exact stable_eq
              · exact stable_eq
              · exact stable_eq
              · exact stable_eq
              · exact stable_eq
              · exact stable_eq
              · exact stable_eq
              · exact stable_eq
              · exact stable_eq
              · exact stable_eq
              · exact stable_eq
              · exact stable_eq
              · exact stable_eq
              · exact stable_eq
              · exact stable_eq
              · exact stable_eq
              · exact stable_eq
              · exact stable_eq
            · refine ⟨?_, ?_, ?_, ?_, ?_, ?_, ?_, ?_, ?_, ?_, ?_, ?_, ?_, ?_, ?_, ?_, ?_, ?_, trivial⟩
              · intro V w1 hbR _
                obtain ⟨hc, hf⟩ := bcell hbR
                try simp only [World.size_alloc, World.size_setCell] at hc hf
                unfold Does
                go_simp
                exact ⟨Below.refl _ _, rfl⟩
              · intro V w1 hbR ⟨f0, _⟩
                replace f0 : V 0 = .agg #[.bool ts[k].pos, .string ts[k].atom.name, .slice x ts[k].atom.args.length xc] := f0
                obtain ⟨hc, hf⟩ := bcell hbR
                try simp only [World.size_alloc, World.size_setCell] at hc hf
                unfold Does
                go_simp
                have hEk := Lit.at_keep (Keeps.all hbR) hE; have hq := impl_IsValidLiteral hEk hbm; rw [hA] at hq; exact hq
              · intro V w1 hbR ⟨f1, _⟩
                replace f1 : V 1 = .bool true := f1
                unfold Does
                go_simp
                exact ⟨Below.refl _ _, rfl⟩
              · intro V w1 hbR ⟨f2, f1, _⟩
                replace f1 : V 1 = .bool true := f1
                replace f2 : V 2 = .bool false := f2
                unfold Does
                go_simp
                exact ⟨Below.refl _ _, rfl⟩
              · intro V w1 hbR ⟨f3, _⟩
                replace f3 : V 3 = .bool false := f3
                refine .inl ⟨_, f3, fun hg => ?_, fun hg => ?_⟩
                · unfold Does
                  go_simp
                  exact ⟨Below.refl _ _, rfl⟩
                · exact absurd rfl hg
              · intro V w1 hbR ⟨f4, f3, _⟩
                replace f3 : V 3 = .bool false := f3
                replace f4 : V 4 = .int .i64 k := f4
                refine .inl ⟨_, f3, fun hg => ?_, fun hg => ?_⟩
                · unfold Does
                  go_simp
                  exact ⟨Below.refl _ _, rfl⟩
                · exact absurd rfl hg
              · intro V w1 hbR ⟨f5, f3, _, _⟩
                replace f3 : V 3 = .bool false := f3
                replace f5 : V 5 = .bool true := f5
                refine .inl ⟨_, f3, fun hg => ?_, fun hg => ?_⟩
                · unfold Does
                  go_simp
                  exact ⟨Below.refl _ _, rfl⟩
                · exact absurd rfl hg
              · intro V w1 hbR ⟨f6, _⟩
                replace f6 : V 6 = .bool true := f6
                refine .inl ⟨_, f6, fun hg => ?_, fun hg => ?_⟩
                · unfold Does
                  go_simp
                  exact ⟨Below.refl _ _, rfl⟩
                · exact absurd rfl hg
              · intro V w1 hbR ⟨f7, f6, _⟩
                replace f6 : V 6 = .bool true := f6
                replace f7 : V 7 = .pointer (some ⟨w.heap.size, 0, none⟩) := f7
                refine .inl ⟨_, f6, fun hg => ?_, fun hg => ?_⟩
                · obtain ⟨hc, hf⟩ := bcell hbR
                  try simp only [World.size_alloc, World.size_setCell] at hc hf
                  unfold Does
                  go_simp
                  exact ⟨Below.refl _ _, rfl⟩
                · exact absurd rfl hg
              · intro V w1 hbR ⟨f6, _⟩
                replace f6 : V 6 = .bool true := f6
                refine .inl ⟨_, f6, fun hg => ?_, fun hg => ?_⟩
                · unfold Does
                  go_simp
                  exact ⟨Below.refl _ _, rfl⟩
                · exact absurd rfl hg
              · intro V w1 hbR ⟨f9, f6, _⟩
                replace f6 : V 6 = .bool true := f6
                replace f9 : V 9 = .int .i64 k := f9
                refine .inl ⟨_, f6, fun hg => ?_, fun hg => ?_⟩
                · unfold Does
                  go_simp
                  exact ⟨Below.refl _ _, by congr 1; rw [IntKind.wrap_i64]; have := HJ.out; omega⟩
                · exact absurd rfl hg
              · intro V w1 hbR ⟨f8, f10, f6, _⟩
                replace f6 : V 6 = .bool true := f6
                replace f8 : V 8 = .slice (some ⟨b, off, none⟩) ts.length cap := f8
                replace f10 : V 10 = .int .i64 j := f10
                refine .inl ⟨_, f6, fun hg => ?_, fun hg => ?_⟩
                · unfold Does
                  go_simp
                  exact ⟨Below.refl _ _, rfl⟩
                · exact absurd rfl hg
              · intro V w1 hbR ⟨f11, f6, _⟩
                replace f6 : V 6 = .bool true := f6
                replace f11 : V 11 = .pointer (some ⟨b, off + j * 3, none⟩) := f11
                refine .inl ⟨_, f6, fun hg => ?_, fun hg => ?_⟩
                · obtain ⟨hc, hf⟩ := bcell hbR
                  try simp only [World.size_alloc, World.size_setCell] at hc hf
                  unfold Does
                  go_simp
                  exact ⟨Below.refl _ _, rfl⟩
                · exact absurd rfl hg
              · intro V w1 hbR ⟨f6, _⟩
                replace f6 : V 6 = .bool true := f6
                refine .inl ⟨_, f6, fun hg => ?_, fun hg => ?_⟩
                · obtain ⟨hc, hf⟩ := bcell hbR
                  try simp only [World.size_alloc, World.size_setCell] at hc hf
                  unfold Does
                  go_simp
                  exact ⟨Below.refl _ _, rfl⟩
                · exact absurd rfl hg
              · intro V w1 hbR ⟨f12, f13, f6, _, _⟩
                replace f6 : V 6 = .bool true := f6
                replace f12 : V 12 = .agg #[.bool ts[j].pos, .string ts[j].atom.name, .slice y ts[j].atom.args.length yc] := f12
                replace f13 : V 13 = .agg #[.bool ts[k].pos, .string ts[k].atom.name, .slice x ts[k].atom.args.length xc] := f13
                refine .inl ⟨_, f6, fun hg => ?_, fun hg => ?_⟩
                · obtain ⟨hc, hf⟩ := bcell hbR
                  try simp only [World.size_alloc, World.size_setCell] at hc hf
                  unfold Does
                  go_simp
                  exact compareLiterals_any HJA.out hA (Lit.at_keep (Keeps.all hbR) hJ) (Lit.at_keep (Keeps.all hbR) hE)
                · exact absurd rfl hg
              · intro V w1 hbR ⟨f14, f6, _⟩
                replace f6 : V 6 = .bool true := f6
                replace f14 : V 14 = .int .i64 (Lit.cmp ts[j] ts[k]) := f14
                refine .inl ⟨_, f6, fun hg => ?_, fun hg => ?_⟩
                · unfold Does
                  go_simp
                  exact ⟨Below.refl _ _, rfl⟩
                · exact absurd rfl hg
              · intro V w1 hbR ⟨f6, f15, f3, _⟩
                replace f3 : V 3 = .bool false := f3
                replace f6 : V 6 = .bool true := f6
                replace f15 : V 15 = .bool false := f15
                refine .inl ⟨_, f3, fun hg => ?_, fun hg => ?_⟩
                · unfold Does
                  go_simp
                  exact ⟨Below.refl _ _, rfl⟩
                · exact absurd rfl hg
              · intro V w1 hbR ⟨f3, f16, _⟩
                replace f3 : V 3 = .bool false := f3
                replace f16 : V 16 = .bool false := f16
                unfold Does
                go_simp
                exact ⟨Below.refl _ _, rfl⟩
            intro V w3 hbR hfR
            obtain ⟨f0, f1, f2, f3, f4, f5, f6, f7, f8, f9, f10, f11, f12, f13, f14, f15, f16, f17, _⟩ := hfR
            replace f0 : V 0 = .agg #[.bool ts[k].pos, .string ts[k].atom.name, .slice x ts[k].atom.args.length xc] := f0
            replace f1 : V 1 = .bool true := f1
            replace f2 : V 2 = .bool false := f2
            replace f3 : V 3 = .bool false := f3
            replace f4 : V 4 = .int .i64 k := f4
            replace f5 : V 5 = .bool true := f5
            replace f6 : V 6 = .bool true := f6
            replace f7 : V 7 = .pointer (some ⟨w.heap.size, 0, none⟩) := f7
            replace f8 : V 8 = .slice (some ⟨b, off, none⟩) ts.length cap := f8
            replace f9 : V 9 = .int .i64 k := f9
            replace f10 : V 10 = .int .i64 j := f10
            replace f11 : V 11 = .pointer (some ⟨b, off + j * 3, none⟩) := f11
            replace f12 : V 12 = .agg #[.bool ts[j].pos, .string ts[j].atom.name, .slice y ts[j].atom.args.length yc] := f12
            replace f13 : V 13 = .agg #[.bool ts[k].pos, .string ts[k].atom.name, .slice x ts[k].atom.args.length xc] := f13
            replace f14 : V 14 = .int .i64 (Lit.cmp ts[j] ts[k]) := f14
            replace f15 : V 15 = .bool false := f15
            replace f16 : V 16 = .bool false := f16
            replace f17 : V 17 = .bool false := f17
            simp only [f0, f1, f2, f3, f4, f5, f6, f7, f8, f9, f10, f11, f12, f13, f14, f15, f16, f17]
            clear f0 f1 f2 f3 f4 f5 f6 f7 f8 f9 f10 f11 f12 f13 f14 f15 f16 f17
            clear eB0 eE0 eE1 eE2 lB lE
            go_wp2_with fail
            go_roundw
            case rel => exact ⟨k + 1, by omega, by go_num, HZ, hb.trans ((hA0.trans (hbR.mono hA0.size)).mono hz)⟩
            case measure => simp [intOf]; omega
        · have hk0 : ¬ (0 : Int) < k := by omega
          have HJ : Hid (k = 0) := by show k = 0; omega
          have HZ : Hid (∀ i, i < k + 1 → Lit.okAt ts i = true) := fun i hi => if h : i < k then HX.out i h else by
            obtain rfl : i = k := by omega
            exact (by have hjk := HJ.out; subst hjk; rw [Lit.okAt_zero hlt, hA])
          refine wp_region_B [fun v _ => v = .agg #[.bool ts[k].pos, .string ts[k].atom.name, .slice x ts[k].atom.args.length xc], fun v _ => v = .bool true, fun v _ => v = .bool false, fun v _ => v = .bool false, fun v _ => v = .int .i64 k, fun v _ => v = .bool false, fun v _ => v = .bool false, fun v _ => v = undef, fun v _ => v = undef, fun v _ => v = undef, fun v _ => v = undef, fun v _ => v = undef, fun v _ => v = undef, fun v _ => v = undef, fun v _ => v = undef, fun v _ => v = undef, fun v _ => v = .bool false, fun v _ => v = .bool false] _ (fun V => by simp [putAll, Act.put]; rfl) (by kernel_rfl) (by decide) (by simp) (by kernel_rfl) ?_ ?_ ?_
          · intro F hF
            simp only [List.mem_cons, List.not_mem_nil, or_false] at hF
            rcases hF with rfl | rfl | rfl | rfl | rfl | rfl | rfl | rfl | rfl | rfl | rfl | rfl | rfl | rfl | rfl | rfl | rfl | rfl
            · exact stable_eq
            · exact stable_eq
            · exact stable_eq
            · exact stable_eq
            · exact stable_eq
            · exact stable_eq
            · exact stable_eq
            · exact stable_eq
            · exact stable_eq
            · exact stable_eq
            · exact stable_eq
            · exact stable_eq
            · exact stable_eq
            · exact stable_eq
            · exact stable_eq
            · exact stable_eq
            · exact stable_eq
            · exact stable_eq
          · refine ⟨?_, ?_, ?_, ?_, ?_, ?_, ?_, ?_, ?_, ?_, ?_, ?_, ?_, ?_, ?_, ?_, ?_, ?_, trivial⟩
            · intro V w1 hbR _
              obtain ⟨hc, hf⟩ := bcell hbR
              try simp only [World.size_alloc, World.size_setCell] at hc hf
              unfold Does
              go_simp
              exact ⟨Below.refl _ _, rfl⟩
            · intro V w1 hbR ⟨f0, _⟩
              replace f0 : V 0 = .agg #[.bool ts[k].pos, .string ts[k].atom.name, .slice x ts[k].atom.args.length xc] := f0
              obtain ⟨hc, hf⟩ := bcell hbR
              try simp only [World.size_alloc, World.size_setCell] at hc hf
              unfold Does
              go_simp
              have hEk := Lit.at_keep (Keeps.all hbR) hE; have hq := impl_IsValidLiteral hEk hbm; rw [hA] at hq; exact hq
            · intro V w1 hbR ⟨f1, _⟩
              replace f1 : V 1 = .bool true := f1
              unfold Does
              go_simp
              exact ⟨Below.refl _ _, rfl⟩
            · intro V w1 hbR ⟨f2, f1, _⟩
              replace f1 : V 1 = .bool true := f1
              replace f2 : V 2 = .bool false := f2
              unfold Does
              go_simp
              exact ⟨Below.refl _ _, rfl⟩
            · intro V w1 hbR ⟨f3, _⟩
              replace f3 : V 3 = .bool false := f3
              refine .inl ⟨_, f3, fun hg => ?_, fun hg => ?_⟩
              · unfold Does
                go_simp
                exact ⟨Below.refl _ _, rfl⟩
              · exact absurd rfl hg
            · intro V w1 hbR ⟨f4, f3, _⟩
              replace f3 : V 3 = .bool false := f3
              replace f4 : V 4 = .int .i64 k := f4
              refine .inl ⟨_, f3, fun hg => ?_, fun hg => ?_⟩
              · unfold Does
                go_simp
                exact ⟨Below.refl _ _, rfl⟩
              · exact absurd rfl hg
            · intro V w1 hbR ⟨f5, f3, _, _⟩
              replace f3 : V 3 = .bool false := f3
              replace f5 : V 5 = .bool false := f5
              refine .inl ⟨_, f3, fun hg => ?_, fun hg => ?_⟩
              · unfold Does
                go_simp
                exact ⟨Below.refl _ _, rfl⟩
              · exact absurd rfl hg
            · intro V w1 hbR ⟨f6, _⟩
              replace f6 : V 6 = .bool false := f6
              refine .inl ⟨_, f6, fun hg => ?_, fun hg => ?_⟩
              · exact absurd hg (by decide)
              · rfl
            · intro V w1 hbR ⟨f7, f6, _⟩
              replace f6 : V 6 = .bool false := f6
              replace f7 : V 7 = undef := f7
              refine .inl ⟨_, f6, fun hg => ?_, fun hg => ?_⟩
              · exact absurd hg (by decide)
              · rfl
            · intro V w1 hbR ⟨f6, _⟩
              replace f6 : V 6 = .bool false := f6
              refine .inl ⟨_, f6, fun hg => ?_, fun hg => ?_⟩
              · exact absurd hg (by decide)
              · rfl
            · intro V w1 hbR ⟨f9, f6, _⟩
              replace f6 : V 6 = .bool false := f6
              replace f9 : V 9 = undef := f9
              refine .inl ⟨_, f6, fun hg => ?_, fun hg => ?_⟩
              · exact absurd hg (by decide)
              · rfl
            · intro V w1 hbR ⟨f8, f10, f6, _⟩
              replace f6 : V 6 = .bool false := f6
              replace f8 : V 8 = undef := f8
              replace f10 : V 10 = undef := f10
              refine .inl ⟨_, f6, fun hg => ?_, fun hg => ?_⟩
              · exact absurd hg (by decide)
              · rfl
            · intro V w1 hbR ⟨f11, f6, _⟩
              replace f6 : V 6 = .bool false := f6
              replace f11 : V 11 = undef := f11
              refine .inl ⟨_, f6, fun hg => ?_, fun hg => ?_⟩
              · exact absurd hg (by decide)
              · rfl
            · intro V w1 hbR ⟨f6, _⟩
              replace f6 : V 6 = .bool false := f6
              refine .inl ⟨_, f6, fun hg => ?_, fun hg => ?_⟩
              · exact absurd hg (by decide)
              · rfl
            · intro V w1 hbR ⟨f12, f13, f6, _, _⟩
              replace f6 : V 6 = .bool false := f6
              replace f12 : V 12 = undef := f12
              replace f13 : V 13 = undef := f13
              refine .inl ⟨_, f6, fun hg => ?_, fun hg => ?_⟩
              · exact absurd hg (by decide)
              · rfl
            · intro V w1 hbR ⟨f14, f6, _⟩
              replace f6 : V 6 = .bool false := f6
              replace f14 : V 14 = undef := f14
              refine .inl ⟨_, f6, fun hg => ?_, fun hg => ?_⟩
              · exact absurd hg (by decide)
              · rfl
            · intro V w1 hbR ⟨f6, f15, f3, _⟩
              replace f3 : V 3 = .bool false := f3
              replace f6 : V 6 = .bool false := f6
              replace f15 : V 15 = undef := f15
              refine .inl ⟨_, f3, fun hg => ?_, fun hg => ?_⟩
              · unfold Does
                go_simp
                exact ⟨Below.refl _ _, rfl⟩
              · exact absurd rfl hg
            · intro V w1 hbR ⟨f3, f16, _⟩
              replace f3 : V 3 = .bool false := f3
              replace f16 : V 16 = .bool false := f16
              unfold Does
              go_simp
              exact ⟨Below.refl _ _, rfl⟩
          intro V w3 hbR hfR
          obtain ⟨f0, f1, f2, f3, f4, f5, f6, f7, f8, f9, f10, f11, f12, f13, f14, f15, f16, f17, _⟩ := hfR
          replace f0 : V 0 = .agg #[.bool ts[k].pos, .string ts[k].atom.name, .slice x ts[k].atom.args.length xc] := f0
          replace f1 : V 1 = .bool true := f1
          replace f2 : V 2 = .bool false := f2
          replace f3 : V 3 = .bool false := f3
          replace f4 : V 4 = .int .i64 k := f4
          replace f5 : V 5 = .bool false := f5
          replace f6 : V 6 = .bool false := f6
          replace f7 : V 7 = undef := f7
          replace f8 : V 8 = undef := f8
          replace f9 : V 9 = undef := f9
          replace f10 : V 10 = undef := f10
          replace f11 : V 11 = undef := f11
          replace f12 : V 12 = undef := f12
          replace f13 : V 13 = undef := f13
          replace f14 : V 14 = undef := f14
          replace f15 : V 15 = undef := f15
          replace f16 : V 16 = .bool false := f16
          replace f17 : V 17 = .bool false := f17
          simp only [f0, f1, f2, f3, f4, f5, f6, f7, f8, f9, f10, f11, f12, f13, f14, f15, f16, f17]
          clear f0 f1 f2 f3 f4 f5 f6 f7 f8 f9 f10 f11 f12 f13 f14 f15 f16 f17
          clear eB0 eE0 eE1 eE2 lB lE
          go_wp2_with fail
          go_roundw
          case rel => exact ⟨k + 1, by omega, by go_num, HZ, hb.trans ((hA0.trans (hbR.mono hA0.size)).mono hz)⟩
          case measure => simp [intOf]; omega
      · replace hA : ts[k].atom.atom = false := by simpa using hA
        have HZ : Hid (Lit.allOk ts = false) := Lit.allOk_bad hlt (Lit.okAt_atom hlt hA)
        refine wp_region_B [fun v _ => v = .agg #[.bool ts[k].pos, .string ts[k].atom.name, .slice x ts[k].atom.args.length xc], fun v _ => v = .bool false, fun v _ => v = .bool true, fun v _ => v = .bool true, fun v _ => v = undef, fun v _ => v = undef, fun v _ => v = undef, fun v _ => v = undef, fun v _ => v = undef, fun v _ => v = undef, fun v _ => v = undef, fun v _ => v = undef, fun v _ => v = undef, fun v _ => v = undef, fun v _ => v = undef, fun v _ => v = undef, fun v _ => v = undef, fun v _ => v = .bool true] _ (fun V => by simp [putAll, Act.put]; rfl) (by kernel_rfl) (by decide) (by simp) (by kernel_rfl) ?_ ?_ ?_
        · intro F hF
          simp only [List.mem_cons, List.not_mem_nil, or_false] at hF
          rcases hF with rfl | rfl | rfl | rfl | rfl | rfl | rfl | rfl | rfl | rfl | rfl | rfl | rfl | rfl | rfl | rfl | rfl | rfl
          · exact stable_eq
          · exact stable_eq
          · exact stable_eq
          · exact stable_eq
          · exact stable_eq
          · exact stable_eq
          · exact stable_eq
          · exact stable_eq
          · exact stable_eq
          · exact stable_eq
          · exact stable_eq
          · exact stable_eq
          · exact stable_eq
          · exact stable_eq
          · exact stable_eq
          · exact stable_eq
          · exact stable_eq
          · exact stable_eq
        · refine ⟨?_, ?_, ?_, ?_, ?_, ?_, ?_, ?_, ?_, ?_, ?_, ?_, ?_, ?_, ?_, ?_, ?_, ?_, trivial⟩
          · intro V w1 hbR _
            obtain ⟨hc, hf⟩ := bcell hbR
            try simp only [World.size_alloc, World.size_setCell] at hc hf
            unfold Does
            go_simp
            exact ⟨Below.refl _ _, rfl⟩
          · intro V w1 hbR ⟨f0, _⟩
            replace f0 : V 0 = .agg #[.bool ts[k].pos, .string ts[k].atom.name, .slice x ts[k].atom.args.length xc] := f0
            obtain ⟨hc, hf⟩ := bcell hbR
            try simp only [World.size_alloc, World.size_setCell] at hc hf
            unfold Does
            go_simp
            have hEk := Lit.at_keep (Keeps.all hbR) hE; have hq := impl_IsValidLiteral hEk hbm; rw [hA] at hq; exact hq
          · intro V w1 hbR ⟨f1, _⟩
            replace f1 : V 1 = .bool false := f1
            unfold Does
            go_simp
            exact ⟨Below.refl _ _, rfl⟩
          · intro V w1 hbR ⟨f2, f1, _⟩
            replace f1 : V 1 = .bool false := f1
            replace f2 : V 2 = .bool true := f2
            unfold Does
            go_simp
            exact ⟨Below.refl _ _, rfl⟩
          · intro V w1 hbR ⟨f3, _⟩
            replace f3 : V 3 = .bool true := f3
            refine .inl ⟨_, f3, fun hg => ?_, fun hg => ?_⟩
            · exact absurd hg (by decide)
            · rfl
          · intro V w1 hbR ⟨f4, f3, _⟩
            replace f3 : V 3 = .bool true := f3
            replace f4 : V 4 = undef := f4
            refine .inl ⟨_, f3, fun hg => ?_, fun hg => ?_⟩
            · exact absurd hg (by decide)
            · rfl
          · intro V w1 hbR ⟨f5, f3, _, _⟩
            replace f3 : V 3 = .bool true := f3
            replace f5 : V 5 = undef := f5
            refine .inl ⟨_, f3, fun hg => ?_, fun hg => ?_⟩
            · exact absurd hg (by decide)
            · rfl
          · intro V w1 hbR ⟨f6, _⟩
            replace f6 : V 6 = undef := f6
            exact .inr ⟨f6, rfl⟩
          · intro V w1 hbR ⟨f7, f6, _⟩
            replace f6 : V 6 = undef := f6
            replace f7 : V 7 = undef := f7
            exact .inr ⟨f6, rfl⟩
          · intro V w1 hbR ⟨f6, _⟩
            replace f6 : V 6 = undef := f6
            exact .inr ⟨f6, rfl⟩
          · intro V w1 hbR ⟨f9, f6, _⟩
            replace f6 : V 6 = undef := f6
            replace f9 : V 9 = undef := f9
            exact .inr ⟨f6, rfl⟩
          · intro V w1 hbR ⟨f8, f10, f6, _⟩
            replace f6 : V 6 = undef := f6
            replace f8 : V 8 = undef := f8
            replace f10 : V 10 = undef := f10
            exact .inr ⟨f6, rfl⟩
          · intro V w1 hbR ⟨f11, f6, _⟩
            replace f6 : V 6 = undef := f6
            replace f11 : V 11 = undef := f11
            exact .inr ⟨f6, rfl⟩
          · intro V w1 hbR ⟨f6, _⟩
            replace f6 : V 6 = undef := f6
            exact .inr ⟨f6, rfl⟩
          · intro V w1 hbR ⟨f12, f13, f6, _, _⟩
            replace f6 : V 6 = undef := f6
            replace f12 : V 12 = undef := f12
            replace f13 : V 13 = undef := f13
            exact .inr ⟨f6, rfl⟩
          · intro V w1 hbR ⟨f14, f6, _⟩
            replace f6 : V 6 = undef := f6
            replace f14 : V 14 = undef := f14
            exact .inr ⟨f6, rfl⟩
          · intro V w1 hbR ⟨f6, f15, f3, _⟩
            replace f3 : V 3 = .bool true := f3
            replace f6 : V 6 = undef := f6
            replace f15 : V 15 = undef := f15
            refine .inl ⟨_, f3, fun hg => ?_, fun hg => ?_⟩
            · exact absurd hg (by decide)
            · rfl
          · intro V w1 hbR ⟨f3, f16, _⟩
            replace f3 : V 3 = .bool true := f3
            replace f16 : V 16 = undef := f16
            unfold Does
            go_simp
            exact ⟨Below.refl _ _, rfl⟩
        intro V w3 hbR hfR
        obtain ⟨f0, f1, f2, f3, f4, f5, f6, f7, f8, f9, f10, f11, f12, f13, f14, f15, f16, f17, _⟩ := hfR
        replace f0 : V 0 = .agg #[.bool ts[k].pos, .string ts[k].atom.name, .slice x ts[k].atom.args.length xc] := f0
        replace f1 : V 1 = .bool false := f1
        replace f2 : V 2 = .bool true := f2
        replace f3 : V 3 = .bool true := f3
        replace f4 : V 4 = undef := f4
        replace f5 : V 5 = undef := f5
        replace f6 : V 6 = undef := f6
        replace f7 : V 7 = undef := f7
        replace f8 : V 8 = undef := f8
        replace f9 : V 9 = undef := f9
        replace f10 : V 10 = undef := f10
        replace f11 : V 11 = undef := f11
        replace f12 : V 12 = undef := f12
        replace f13 : V 13 = undef := f13
        replace f14 : V 14 = undef := f14
        replace f15 : V 15 = undef := f15
        replace f16 : V 16 = undef := f16
        replace f17 : V 17 = .bool true := f17
        simp only [f0, f1, f2, f3, f4, f5, f6, f7, f8, f9, f10, f11, f12, f13, f14, f15, f16, f17]
        clear f0 f1 f2 f3 f4 f5 f6 f7 f8 f9 f10 f11 f12 f13 f14 f15 f16 f17
        clear eB0 eE0 eE1 eE2 lB lE
        go_wp2_with fail
        go_ret
        exact Gives.mk (by rw [Cl.valid, HZ.out]; rfl) (hW.trans (hbR.mono hW.size))
    · obtain rfl : k = ts.length := by omega
      have HZ : Hid (Lit.allOk ts = true) := Lit.allOk_good HX.out
      clear hr
      go_wp2_with fail
      go_ret
      exact Gives.mk (by rw [Cl.valid, HZ.out]; simp; omega) hbw
set_option maxHeartbeats 4000000 in
theorem l7Good_any {x : Cl} {S : Nat → Prop} {c0 : Value} {w : World} (hr : Cl.at S w c0 x) (hbk : x.bulk ≤ 1048576) : Calls Tryz.prog 15 #[.agg #[c0]] w (Gives w (.bool x.valid)) := by
  obtain ⟨ts⟩ := x
  rw [Cl.bulk] at hbk
  unfold Cl.at at hr
  simp only at hr hbk
  obtain ⟨a, cap, rfl, hlen, hcap⟩ := Lit.sd_form hr
  unfold big at hlen
  by_cases h8 : 8 < ts.length
  · have h8' : (8 : Int) < ts.length := by omega
    have HZ : Hid (Cl.valid ⟨ts⟩ = false) := by simp [Hid, Cl.valid]; intro _; omega
    go_enter Tryz.func15, Tryz.ntmps15
    go_wp2_with fail
    go_ret
    exact Gives.mk (ret_bool HZ.out.symm) ((Below.refl _ _).alloc (Nat.le_refl _) _)
  have h8' : ¬ (8 : Int) < ts.length := by omega
  have HV : Hid (Cl.valid ⟨ts⟩ = Lit.allOk ts) := by
    have : decide (ts.length ≤ 8) = true := by simp; omega
    rw [Hid, Cl.valid, this]; simp
  go_enter Tryz.func15, Tryz.ntmps15
  go_wp2_with fail
  go_loopw [3] (fun i wr => ∃ (k : Nat), k ≤ ts.length ∧ i = .int .i64 k ∧ Hid (∀ i, i < k → Lit.okAt ts i = true) ∧ Below (w.heap.size + 1) (w.alloc (.cells #[.slice a ts.length cap] 28)) wr) (fun i _ => ts.length - (intOf i).toNat)
  case atStart => exact ⟨0, Nat.zero_le _, rfl, fun i h => absurd h (by omega), Below.refl _ _⟩
  case round =>
    obtain ⟨k, hk, rfl, HX, hb⟩ := hrel
    have hbw : Below w.heap.size w wr := ((Below.refl _ _).alloc (Nat.le_refl _) _).trans (hb.mono (by omega))
    have hz := hb.size
    simp only [World.size_alloc] at hz
    have hz0 : w.heap.size < wr.heap.size := by omega
    have bT : Box wr w.heap.size [.slice a ts.length cap] := by
      have q := (Box.new w [Value.slice a ts.length cap] 28)
      exact ⟨by omega, fun i hi => (hb.cell (by simp)).trans (q.cell i hi)⟩
    have e10 := bT.c0
    by_cases hlt : k < ts.length
    · have hne : ts ≠ [] := by intro e; subst e; simp at hlt
      obtain ⟨b, off, rfl, hS, hbl, hrr⟩ := Lit.sd_get hr hne
      obtain ⟨c0, c1, c2, q0, q1, q2, qx⟩ := hrr k hlt
      have hbm : ts[k].bulk ≤ 1048576 := by have := Lit.bulk_mem (List.getElem_mem hlt); omega
      have hbm' : ts[k].atom.bulk ≤ 1048576 := hbm
      obtain ⟨rfl, rfl, x, xc, rfl⟩ := Lit.at_form qx
      replace q0 := (hbw.cell (p := ⟨b, off + k * 3, none⟩) hbl).trans q0
      replace q1 := (hbw.cell (p := ⟨b, off + k * 3 + 1, none⟩) hbl).trans q1
      replace q2 := (hbw.cell (p := ⟨b, off + k * 3 + 2, none⟩) hbl).trans q2
      have hE := Lit.at_keep (Keeps.all hbw) qx
      have HP : Hid (∀ j (hj : j < ts.length), ∃ y yc, wr.cell? ⟨b, off + j * 3, none⟩ = some (.bool ts[j].pos) ∧ wr.cell? ⟨b, off + j * 3 + 1, none⟩ = some (.string ts[j].atom.name) ∧ wr.cell? ⟨b, off + j * 3 + 2, none⟩ = some (.slice y ts[j].atom.args.length yc) ∧ Lit.at S wr (.bool ts[j].pos) (.string ts[j].atom.name) (.slice y ts[j].atom.args.length yc) ts[j]) := fun j hj => by
        obtain ⟨d0, d1, d2, p0, p1, p2, px⟩ := hrr j hj
        obtain ⟨rfl, rfl, y, yc, rfl⟩ := Lit.at_form px
        exact ⟨y, yc, (hbw.cell (p := ⟨b, off + j * 3, none⟩) hbl).trans p0, (hbw.cell (p := ⟨b, off + j * 3 + 1, none⟩) hbl).trans p1, (hbw.cell (p := ⟨b, off + j * 3 + 2, none⟩) hbl).trans p2, Lit.at_keep (Keeps.all hbw) px⟩
      clear hrr hr qx
      go_wp2_with fail
      have HP' := HP
      have lb : b < wr.heap.size := Nat.lt_of_lt_of_le hbl hbw.size
      have hW := hbw
      have eB0 := e10
      have lB := bT.lt
      have q3 : wr.cell? ⟨b, off + k * 3 + 1 + 1, none⟩ = some (.slice x ts[k].atom.args.length xc) := q2
      by_cases hA : ts[k].atom.atom = true
      · by_cases hk1 : 0 < k
        · have hk0 : (0 : Int) < k := by omega
          obtain ⟨j, HJ⟩ : ∃ j, Hid (k = j + 1) := ⟨k - 1, by show k = k - 1 + 1; omega⟩
          have hj : j < ts.length := by have := HJ.out; omega
          have hjc : (j : Int) < ts.length := by omega
          obtain ⟨y, yc, p0, p1, p2, hJ⟩ := HP'.out j hj
          have HJA : Hid (ts[j].atom.atom = true) := Lit.okAt_valid hj (HX.out j (by have := HJ.out; omega))
          by_cases hC : 0 ≤ Lit.cmp ts[j] ts[k]
          · skip
            have HZ : Hid (Lit.allOk ts = false) := Lit.allOk_bad hlt (by have hjk := HJ.out; subst hjk; rw [Lit.okAt_succ hlt, hA]; simp; omega)
            refine wp_region_B [fun v _ => v = .pointer (some ⟨w.heap.size, 0, none⟩), fun v _ => v = .slice (some ⟨b, off, none⟩) ts.length cap, fun v _ => v = .int .i64 k, fun v _ => v = .pointer (some ⟨b, off + k * 3, none⟩), fun v _ => v = .pointer (some ⟨b, off + k * 3 + 1, none⟩), fun v _ => v = .agg #[.string ts[k].atom.name, .slice x ts[k].atom.args.length xc], fun v _ => v = .bool true, fun v _ => v = .bool false, fun v _ => v = .bool false, fun v _ => v = .int .i64 k, fun v _ => v = .bool true, fun v _ => v = .bool true, fun v _ => v = .pointer (some ⟨w.heap.size, 0, none⟩), fun v _ => v = .slice (some ⟨b, off, none⟩) ts.length cap, fun v _ => v = .int .i64 k, fun v _ => v = .int .i64 j, fun v _ => v = .pointer (some ⟨b, off + j * 3, none⟩), fun v _ => v = .agg #[.bool ts[j].pos, .string ts[j].atom.name, .slice y ts[j].atom.args.length yc], fun v _ => v = .pointer (some ⟨w.heap.size, 0, none⟩), fun v _ => v = .slice (some ⟨b, off, none⟩) ts.length cap, fun v _ => v = .int .i64 k, fun v _ => v = .pointer (some ⟨b, off + k * 3, none⟩), fun v _ => v = .agg #[.bool ts[k].pos, .string ts[k].atom.name, .slice x ts[k].atom.args.length xc], fun v _ => v = .int .i64 (Lit.cmp ts[j] ts[k]), fun v _ => v = .bool true, fun v _ => v = .bool true, fun v _ => v = .bool true] _ (fun V => by simp [putAll, Act.put]; rfl) (by kernel_rfl) (by decide) (by simp) (by kernel_rfl) ?_ ?_ ?_
            · intro F hF
              simp only [List.mem_cons, List.not_mem_nil, or_false] at hF
              rcases hF with rfl | rfl | rfl | rfl | rfl | rfl | rfl | rfl | rfl | rfl | rfl | rfl | rfl | rfl | rfl | rfl | rfl | rfl | rfl | rfl | rfl | rfl | rfl | rfl | rfl | rfl | rfl
              · exact stable_eq
              · exact stable_eq
              · exact stable_eq
              · exact stable_eq
              · exact stable_eq
              · exact stable_eq
              · exact stable_eq
              · exact stable_eq
              · exact stable_eq
              · exact stable_eq
              · exact stable_eq
              · exact stable_eq
              · exact stable_eq
              · exact stable_eq
              · exact stable_eq
              · exact stable_eq
              · exact stable_eq
              · exact stable_eq
              · exact stable_eq
              · exact stable_eq
              · exact stable_eq
              · exact stable_eq
              · exact stable_eq
              · exact stable_eq
              · exact stable_eq
              · exact stable_eq
              · exact stable_eq
            · refine ⟨?_, ?_, ?_, ?_, ?_, ?_, ?_, ?_, ?_, ?_, ?_, ?_, ?_, ?_, ?_, ?_, ?_, ?_, ?_, ?_, ?_, ?_, ?_, ?_, ?_, ?_, ?_, trivial⟩
              · intro V w1 hbR _
                unfold Does
                go_simp
                exact ⟨Below.refl _ _, rfl⟩
              · intro V w1 hbR ⟨f0, _⟩
                replace f0 : V 0 = .pointer (some ⟨w.heap.size, 0, none⟩) := f0
                obtain ⟨hc, hf⟩ := bcell hbR
                try simp only [World.size_alloc, World.size_setCell] at hc hf
                unfold Does
                go_simp
                exact ⟨Below.refl _ _, rfl⟩
              · intro V w1 hbR _
                unfold Does
                go_simp
                exact ⟨Below.refl _ _, rfl⟩
              · intro V w1 hbR ⟨f1, f2, _⟩
                replace f1 : V 1 = .slice (some ⟨b, off, none⟩) ts.length cap := f1
                replace f2 : V 2 = .int .i64 k := f2
                unfold Does
                go_simp
                exact ⟨Below.refl _ _, rfl⟩
              · intro V w1 hbR ⟨f3, _⟩
                replace f3 : V 3 = .pointer (some ⟨b, off + k * 3, none⟩) := f3
                unfold Does
                go_simp
                exact ⟨Below.refl _ _, rfl⟩
              · intro V w1 hbR ⟨f4, _⟩
                replace f4 : V 4 = .pointer (some ⟨b, off + k * 3 + 1, none⟩) := f4
                obtain ⟨hc, hf⟩ := bcell hbR
                try simp only [World.size_alloc, World.size_setCell] at hc hf
                unfold Does
                go_simp
                exact ⟨Below.refl _ _, rfl⟩
              · intro V w1 hbR ⟨f5, _⟩
                replace f5 : V 5 = .agg #[.string ts[k].atom.name, .slice x ts[k].atom.args.length xc] := f5
                obtain ⟨hc, hf⟩ := bcell hbR
                try simp only [World.size_alloc, World.size_setCell] at hc hf
                unfold Does
                go_simp
                have hEk := Lit.at_keep (Keeps.all hbR) hE; have hq := l2Atom_any ts[k].atom (Lit.at_atom hEk) hbm'; rw [hA] at hq; exact hq
              · intro V w1 hbR ⟨f6, _⟩
                replace f6 : V 6 = .bool true := f6
                unfold Does
                go_simp
                exact ⟨Below.refl _ _, rfl⟩
              · intro V w1 hbR ⟨f7, f6, _⟩
                replace f6 : V 6 = .bool true := f6
                replace f7 : V 7 = .bool false := f7
                unfold Does
                go_simp
                exact ⟨Below.refl _ _, rfl⟩
              · intro V w1 hbR ⟨f8, _⟩
                replace f8 : V 8 = .bool false := f8
                refine .inl ⟨_, f8, fun hg => ?_, fun hg => ?_⟩
                · unfold Does
                  go_simp
                  exact ⟨Below.refl _ _, rfl⟩
                · exact absurd rfl hg
              · intro V w1 hbR ⟨f9, f8, _⟩
                replace f8 : V 8 = .bool false := f8
                replace f9 : V 9 = .int .i64 k := f9
                refine .inl ⟨_, f8, fun hg => ?_, fun hg => ?_⟩
                · unfold Does
                  go_simp
                  exact ⟨Below.refl _ _, rfl⟩
                · exact absurd rfl hg
              · intro V w1 hbR ⟨f10, f8, _, _⟩
                replace f8 : V 8 = .bool false := f8
                replace f10 : V 10 = .bool true := f10
                refine .inl ⟨_, f8, fun hg => ?_, fun hg => ?_⟩
                · unfold Does
                  go_simp
                  exact ⟨Below.refl _ _, rfl⟩
                · exact absurd rfl hg
              · intro V w1 hbR ⟨f11, _⟩
                replace f11 : V 11 = .bool true := f11
                refine .inl ⟨_, f11, fun hg => ?_, fun hg => ?_⟩
                · unfold Does
                  go_simp
                  exact ⟨Below.refl _ _, rfl⟩
                · exact absurd rfl hg
              · intro V w1 hbR ⟨f12, f11, _⟩
                replace f11 : V 11 = .bool true := f11
                replace f12 : V 12 = .pointer (some ⟨w.heap.size, 0, none⟩) := f12
                refine .inl ⟨_, f11, fun hg => ?_, fun hg => ?_⟩
                · obtain ⟨hc, hf⟩ := bcell hbR
                  try simp only [World.size_alloc, World.size_setCell] at hc hf
                  unfold Does
                  go_simp
                  exact ⟨Below.refl _ _, rfl⟩
                · exact absurd rfl hg
              · intro V w1 hbR ⟨f11, _⟩
                replace f11 : V 11 = .bool true := f11
                refine .inl ⟨_, f11, fun hg => ?_, fun hg => ?_⟩
                · unfold Does
                  go_simp
                  exact ⟨Below.refl _ _, rfl⟩
                · exact absurd rfl hg
              · intro V w1 hbR ⟨f14, f11, _⟩
                replace f11 : V 11 = .bool true := f11
                replace f14 : V 14 = .int .i64 k := f14
                refine .inl ⟨_, f11, fun hg => ?_, fun hg => ?_⟩
                · unfold Does
                  go_simp
                  exact ⟨Below.refl _ _, by congr 1; rw [IntKind.wrap_i64]; have := HJ.out; omega⟩
                · exact absurd rfl hg
              · intro V w1 hbR ⟨f13, f15, f11, _⟩
                replace f11 : V 11 = .bool true := f11
                replace f13 : V 13 = .slice (some ⟨b, off, none⟩) ts.length cap := f13
                replace f15 : V 15 = .int .i64 j := f15
                refine .inl ⟨_, f11, fun hg => ?_, fun hg => ?_⟩
                · unfold Does
                  go_simp
                  exact ⟨Below.refl _ _, rfl⟩
                · exact absurd rfl hg
              · intro V w1 hbR ⟨f16, f11, _⟩
                replace f11 : V 11 = .bool true := f11
                replace f16 : V 16 = .pointer (some ⟨b, off + j * 3, none⟩) := f16
                refine .inl ⟨_, f11, fun hg => ?_, fun hg => ?_⟩
                · obtain ⟨hc, hf⟩ := bcell hbR
                  try simp only [World.size_alloc, World.size_setCell] at hc hf
                  unfold Does
                  go_simp
                  exact ⟨Below.refl _ _, rfl⟩
                · exact absurd rfl hg
              · intro V w1 hbR ⟨f11, _⟩
                replace f11 : V 11 = .bool true := f11
                refine .inl ⟨_, f11, fun hg => ?_, fun hg => ?_⟩
                · unfold Does
                  go_simp
                  exact ⟨Below.refl _ _, rfl⟩
                · exact absurd rfl hg
              · intro V w1 hbR ⟨f18, f11, _⟩
                replace f11 : V 11 = .bool true := f11
                replace f18 : V 18 = .pointer (some ⟨w.heap.size, 0, none⟩) := f18
                refine .inl ⟨_, f11, fun hg => ?_, fun hg => ?_⟩
                · obtain ⟨hc, hf⟩ := bcell hbR
                  try simp only [World.size_alloc, World.size_setCell] at hc hf
                  unfold Does
                  go_simp
                  exact ⟨Below.refl _ _, rfl⟩
                · exact absurd rfl hg
              · intro V w1 hbR ⟨f11, _⟩
                replace f11 : V 11 = .bool true := f11
                refine .inl ⟨_, f11, fun hg => ?_, fun hg => ?_⟩
                · unfold Does
                  go_simp
                  exact ⟨Below.refl _ _, rfl⟩
                · exact absurd rfl hg
              · intro V w1 hbR ⟨f19, f20, f11, _⟩
                replace f11 : V 11 = .bool true := f11
                replace f19 : V 19 = .slice (some ⟨b, off, none⟩) ts.length cap := f19
                replace f20 : V 20 = .int .i64 k := f20
                refine .inl ⟨_, f11, fun hg => ?_, fun hg => ?_⟩
                · unfold Does
                  go_simp
                  exact ⟨Below.refl _ _, rfl⟩
                · exact absurd rfl hg
              · intro V w1 hbR ⟨f21, f11, _⟩
                replace f11 : V 11 = .bool true := f11
                replace f21 : V 21 = .pointer (some ⟨b, off + k * 3, none⟩) := f21
                refine .inl ⟨_, f11, fun hg => ?_, fun hg => ?_⟩
                · obtain ⟨hc, hf⟩ := bcell hbR
                  try simp only [World.size_alloc, World.size_setCell] at hc hf
                  unfold Does
                  go_simp
                  exact ⟨Below.refl _ _, rfl⟩
                · exact absurd rfl hg
              · intro V w1 hbR ⟨f17, f22, f11, _, _⟩
                replace f11 : V 11 = .bool true := f11
                replace f17 : V 17 = .agg #[.bool ts[j].pos, .string ts[j].atom.name, .slice y ts[j].atom.args.length yc] := f17
                replace f22 : V 22 = .agg #[.bool ts[k].pos, .string ts[k].atom.name, .slice x ts[k].atom.args.length xc] := f22
                refine .inl ⟨_, f11, fun hg => ?_, fun hg => ?_⟩
                · obtain ⟨hc, hf⟩ := bcell hbR
                  try simp only [World.size_alloc, World.size_setCell] at hc hf
                  unfold Does
                  go_simp
                  exact l7Literals_any (Lit.at_keep (Keeps.all hbR) hJ) (Lit.at_keep (Keeps.all hbR) hE)
                · exact absurd rfl hg
              · intro V w1 hbR ⟨f23, f11, _⟩
                replace f11 : V 11 = .bool true := f11
                replace f23 : V 23 = .int .i64 (Lit.cmp ts[j] ts[k]) := f23
                refine .inl ⟨_, f11, fun hg => ?_, fun hg => ?_⟩
                · unfold Does
                  go_simp
                  exact ⟨Below.refl _ _, rfl⟩
                · exact absurd rfl hg
              · intro V w1 hbR ⟨f11, f24, f8, _⟩
                replace f8 : V 8 = .bool false := f8
                replace f11 : V 11 = .bool true := f11
                replace f24 : V 24 = .bool true := f24
                refine .inl ⟨_, f8, fun hg => ?_, fun hg => ?_⟩
                · unfold Does
                  go_simp
                  exact ⟨Below.refl _ _, rfl⟩
                · exact absurd rfl hg
              · intro V w1 hbR ⟨f8, f25, _⟩
                replace f8 : V 8 = .bool false := f8
                replace f25 : V 25 = .bool true := f25
                unfold Does
                go_simp
                exact ⟨Below.refl _ _, rfl⟩
            intro V w3 hbR hfR
            obtain ⟨f0, f1, f2, f3, f4, f5, f6, f7, f8, f9, f10, f11, f12, f13, f14, f15, f16, f17, f18, f19, f20, f21, f22, f23, f24, f25, f26, _⟩ := hfR
            replace f0 : V 0 = .pointer (some ⟨w.heap.size, 0, none⟩) := f0
            replace f1 : V 1 = .slice (some ⟨b, off, none⟩) ts.length cap := f1
            replace f2 : V 2 = .int .i64 k := f2
            replace f3 : V 3 = .pointer (some ⟨b, off + k * 3, none⟩) := f3
            replace f4 : V 4 = .pointer (some ⟨b, off + k * 3 + 1, none⟩) := f4
            replace f5 : V 5 = .agg #[.string ts[k].atom.name, .slice x ts[k].atom.args.length xc] := f5
            replace f6 : V 6 = .bool true := f6
            replace f7 : V 7 = .bool false := f7
            replace f8 : V 8 = .bool false := f8
            replace f9 : V 9 = .int .i64 k := f9
            replace f10 : V 10 = .bool true := f10
            replace f11 : V 11 = .bool true := f11
            replace f12 : V 12 = .pointer (some ⟨w.heap.size, 0, none⟩) := f12
            replace f13 : V 13 = .slice (some ⟨b, off, none⟩) ts.length cap := f13
            replace f14 : V 14 = .int .i64 k := f14
            replace f15 : V 15 = .int .i64 j := f15
            replace f16 : V 16 = .pointer (some ⟨b, off + j * 3, none⟩) := f16
            replace f17 : V 17 = .agg #[.bool ts[j].pos, .string ts[j].atom.name, .slice y ts[j].atom.args.length yc] := f17
            replace f18 : V 18 = .pointer (some ⟨w.heap.size, 0, none⟩) := f18
            replace f19 : V 19 = .slice (some ⟨b, off, none⟩) ts.length cap := f19
            replace f20 : V 20 = .int .i64 k := f20
            replace f21 : V 21 = .pointer (some ⟨b, off + k * 3, none⟩) := f21
            replace f22 : V 22 = .agg #[.bool ts[k].pos, .string ts[k].atom.name, .slice x ts[k].atom.args.length xc] := f22
            replace f23 : V 23 = .int .i64 (Lit.cmp ts[j] ts[k]) := f23
            replace f24 : V 24 = .bool true := f24
            replace f25 : V 25 = .bool true := f25
            replace f26 : V 26 = .bool true := f26
            simp only [f0, f1, f2, f3, f4, f5, f6, f7, f8, f9, f10, f11, f12, f13, f14, f15, f16, f17, f18, f19, f20, f21, f22, f23, f24, f25, f26]
            clear f0 f1 f2 f3 f4 f5 f6 f7 f8 f9 f10 f11 f12 f13 f14 f15 f16 f17 f18 f19 f20 f21 f22 f23 f24 f25 f26
            clear eB0 e10 lB q0 q1 q2 q3
            go_wp2_with fail
            go_ret
            exact Gives.mk (by rw [HV.out, HZ.out]; rfl) (hW.trans (hbR.mono hW.size))
          · skip
            have HZ : Hid (∀ i, i < k + 1 → Lit.okAt ts i = true) := fun i hi => if h : i < k then HX.out i h else by
              obtain rfl : i = k := by omega
              exact (by have hjk := HJ.out; subst hjk; rw [Lit.okAt_succ hlt, hA]; simp; omega)
            refine wp_region_B [fun v _ => v = .pointer (some ⟨w.heap.size, 0, none⟩), fun v _ => v = .slice (some ⟨b, off, none⟩) ts.length cap, fun v _ => v = .int .i64 k, fun v _ => v = .pointer (some ⟨b, off + k * 3, none⟩), fun v _ => v = .pointer (some ⟨b, off + k * 3 + 1, none⟩), fun v _ => v = .agg #[.string ts[k].atom.name, .slice x ts[k].atom.args.length xc], fun v _ => v = .bool true, fun v _ => v = .bool false, fun v _ => v = .bool false, fun v _ => v = .int .i64 k, fun v _ => v = .bool true, fun v _ => v = .bool true, fun v _ => v = .pointer (some ⟨w.heap.size, 0, none⟩), fun v _ => v = .slice (some ⟨b, off, none⟩) ts.length cap, fun v _ => v = .int .i64 k, fun v _ => v = .int .i64 j, fun v _ => v = .pointer (some ⟨b, off + j * 3, none⟩), fun v _ => v = .agg #[.bool ts[j].pos, .string ts[j].atom.name, .slice y ts[j].atom.args.length yc], fun v _ => v = .pointer (some ⟨w.heap.size, 0, none⟩), fun v _ => v = .slice (some ⟨b, off, none⟩) ts.length cap, fun v _ => v = .int .i64 k, fun v _ => v = .pointer (some ⟨b, off + k * 3, none⟩), fun v _ => v = .agg #[.bool ts[k].pos, .string ts[k].atom.name, .slice x ts[k].atom.args.length xc], fun v _ => v = .int .i64 (Lit.cmp ts[j] ts[k]), fun v _ => v = .bool false, fun v _ => v = .bool false, fun v _ => v = .bool false] _ (fun V => by simp [putAll, Act.put]; rfl) (by kernel_rfl) (by decide) (by simp) (by kernel_rfl) ?_ ?_ ?_
            · intro F hF
              simp only [List.mem_cons, List.not_mem_nil, or_false] at hF
              rcases hF with rfl | rfl | rfl | rfl | rfl | rfl | rfl | rfl | rfl | rfl | rfl | rfl | rfl | rfl | rfl | rfl | rfl | rfl | rfl | rfl | rfl | rfl | rfl | rfl | rfl | rfl | rfl
              · exact stable_eq
              · exact stable_eq
              · exact stable_eq
              · exact stable_eq
              · exact stable_eq
              · exact stable_eq
              · exact stable_eq
              · exact stable_eq
              · exact stable_eq
              · exact stable_eq
              · exact stable_eq
              · exact stable_eq
              · exact stable_eq
              · exact stable_eq
              · exact stable_eq
              · exact stable_eq
              · exact stable_eq
              · exact stable_eq
              · exact stable_eq
              · exact stable_eq
              · exact stable_eq
              · exact stable_eq
              · exact stable_eq
              · exact stable_eq
              · exact stable_eq
              · exact stable_eq
              · exact stable_eq
            · refine ⟨?_, ?_, ?_, ?_, ?_, ?_, ?_, ?_, ?_, ?_, ?_, ?_, ?_, ?_, ?_, ?_, ?_, ?_, ?_, ?_, ?_, ?_, ?_, ?_, ?_, ?_, ?_, trivial⟩
              · intro V w1 hbR _
                unfold Does
                go_simp
                exact ⟨Below.refl _ _, rfl⟩
              · intro V w1 hbR ⟨f0, _⟩
                replace f0 : V 0 = .pointer (some ⟨w.heap.size, 0, none⟩) := f0
                obtain ⟨hc, hf⟩ := bcell hbR
                try simp only [World.size_alloc, World.size_setCell] at hc hf
                unfold Does
                go_simp
                exact ⟨Below.refl _ _, rfl⟩
              · intro V w1 hbR _
                unfold Does
                go_simp
                exact ⟨Below.refl _ _, rfl⟩
              · intro V w1 hbR ⟨f1, f2, _⟩
                replace f1 : V 1 = .slice (some ⟨b, off, none⟩) ts.length cap := f1
                replace f2 : V 2 = .int .i64 k := f2
                unfold Does
                go_simp
                exact ⟨Below.refl _ _, rfl⟩
              · intro V w1 hbR ⟨f3, _⟩
                replace f3 : V 3 = .pointer (some ⟨b, off + k * 3, none⟩) := f3
                unfold Does
                go_simp
                exact ⟨Below.refl _ _, rfl⟩
              · intro V w1 hbR ⟨f4, _⟩
                replace f4 : V 4 = .pointer (some ⟨b, off + k * 3 + 1, none⟩) := f4
                obtain ⟨hc, hf⟩ := bcell hbR
                try simp only [World.size_alloc, World.size_setCell] at hc hf
                unfold Does
                go_simp
                exact ⟨Below.refl _ _, rfl⟩
              · intro V w1 hbR ⟨f5, _⟩
                replace f5 : V 5 = .agg #[.string ts[k].atom.name, .slice x ts[k].atom.args.length xc] := f5
                obtain ⟨hc, hf⟩ := bcell hbR
                try simp only [World.size_alloc, World.size_setCell] at hc hf
                unfold Does
                go_simp
                have hEk := Lit.at_keep (Keeps.all hbR) hE; have hq := l2Atom_any ts[k].atom (Lit.at_atom hEk) hbm'; rw [hA] at hq; exact hq
              · intro V w1 hbR ⟨f6, _⟩
                replace f6 : V 6 = .bool true := f6
                unfold Does
                go_simp
                exact ⟨Below.refl _ _, rfl⟩
              · intro V w1 hbR ⟨f7, f6, _⟩
                replace f6 : V 6 = .bool true := f6
                replace f7 : V 7 = .bool false := f7
                unfold Does
                go_simp
                exact ⟨Below.refl _ _, rfl⟩
              · intro V w1 hbR ⟨f8, _⟩
                replace f8 : V 8 = .bool false := f8
                refine .inl ⟨_, f8, fun hg => ?_, fun hg => ?_⟩
                · unfold Does
                  go_simp
                  exact ⟨Below.refl _ _, rfl⟩
                · exact absurd rfl hg
              · intro V w1 hbR ⟨f9, f8, _⟩
                replace f8 : V 8 = .bool false := f8
                replace f9 : V 9 = .int .i64 k := f9
                refine .inl ⟨_, f8, fun hg => ?_, fun hg => ?_⟩
                · unfold Does
                  go_simp
                  exact ⟨Below.refl _ _, rfl⟩
                · exact absurd rfl hg
              · intro V w1 hbR ⟨f10, f8, _, _⟩
                replace f8 : V 8 = .bool false := f8
                replace f10 : V 10 = .bool true := f10
                refine .inl ⟨_, f8, fun hg => ?_, fun hg => ?_⟩
                · unfold Does
                  go_simp
                  exact ⟨Below.refl _ _, rfl⟩
                · exact absurd rfl hg
              · intro V w1 hbR ⟨f11, _⟩
                replace f11 : V 11 = .bool true := f11
                refine .inl ⟨_, f11, fun hg => ?_, fun hg => ?_⟩
                · unfold Does
                  go_simp
                  exact ⟨Below.refl _ _, rfl⟩
                · exact absurd rfl hg
              · intro V w1 hbR ⟨f12, f11, _⟩
                replace f11 : V 11 = .bool true := f11
                replace f12 : V 12 = .pointer (some ⟨w.heap.size, 0, none⟩) := f12
                refine .inl ⟨_, f11, fun hg => ?_, fun hg => ?_⟩
                · obtain ⟨hc, hf⟩ := bcell hbR
                  try simp only [World.size_alloc, World.size_setCell] at hc hf
                  unfold Does
                  go_simp
                  exact ⟨Below.refl _ _, rfl⟩
                · exact absurd rfl hg
              · intro V w1 hbR ⟨f11, _⟩
                replace f11 : V 11 = .bool true := f11
                refine .inl ⟨_, f11, fun hg => ?_, fun hg => ?_⟩
                · unfold Does
                  go_simp
                  exact ⟨Below.refl _ _, rfl⟩
                · exact absurd rfl hg
              · intro V w1 hbR ⟨f14, f11, _⟩
                replace f11 : V 11 = .bool true := f11
                replace f14 : V 14 = .int .i64 k := f14
                refine .inl ⟨_, f11, fun hg => ?_, fun hg => ?_⟩
                · unfold Does
                  go_simp
                  exact ⟨Below.refl _ _, by congr 1; rw [IntKind.wrap_i64]; have := HJ.out; omega⟩
                · exact absurd rfl hg
              · intro V w1 hbR ⟨f13, f15, f11, _⟩
                replace f11 : V 11 = .bool true := f11
                replace f13 : V 13 = .slice (some ⟨b, off, none⟩) ts.length cap := f13
                replace f15 : V 15 = .int .i64 j := f15
                refine .inl ⟨_, f11, fun hg => ?_, fun hg => ?_⟩
                · unfold Does
                  go_simp
                  exact ⟨Below.refl _ _, rfl⟩
                · exact absurd rfl hg
              · intro V w1 hbR ⟨f16, f11, _⟩
                replace f11 : V 11 = .bool true := f11
                replace f16 : V 16 = .pointer (some ⟨b, off + j * 3, none⟩) := f16
                refine .inl ⟨_, f11, fun hg => ?_, fun hg => ?_⟩
                · obtain ⟨hc, hf⟩ := bcell hbR
                  try simp only [World.size_alloc, World.size_setCell] at hc hf
                  unfold Does
                  go_simp
                  exact ⟨Below.refl _ _, rfl⟩
                · exact absurd rfl hg
              · intro V w1 hbR ⟨f11, _⟩
                replace f11 : V 11 = .bool true := f11
                refine .inl ⟨_, f11, fun hg => ?_, fun hg => ?_⟩
                · unfold Does
                  go_simp
                  exact ⟨Below.refl _ _, rfl⟩
                · exact absurd rfl hg
              · intro V w1 hbR ⟨f18, f11, _⟩
                replace f11 : V 11 = .bool true := f11
                replace f18 : V 18 = .pointer (some ⟨w.heap.size, 0, none⟩) := f18
                refine .inl ⟨_, f11, fun hg => ?_, fun hg => ?_⟩
                · obtain ⟨hc, hf⟩ := bcell hbR
                  try simp only [World.size_alloc, World.size_setCell] at hc hf
                  unfold Does
                  go_simp
                  exact ⟨Below.refl _ _, rfl⟩
                · exact absurd rfl hg
              · intro V w1 hbR ⟨f11, _⟩
                replace f11 : V 11 = .bool true := f11
                refine .inl ⟨_, f11, fun hg => ?_, fun hg => ?_⟩
                · unfold Does
                  go_simp
                  exact ⟨Below.refl _ _, rfl⟩
                · exact absurd rfl hg
              · intro V w1 hbR ⟨f19, f20, f11, _⟩
                replace f11 : V 11 = .bool true := f11
                replace f19 : V 19 = .slice (some ⟨b, off, none⟩) ts.length cap := f19
                replace f20 : V 20 = .int .i64 k := f20
                refine .inl ⟨_, f11, fun hg => ?_, fun hg => ?_⟩
                · unfold Does
                  go_simp
                  exact ⟨Below.refl _ _, rfl⟩
                · exact absurd rfl hg
              · intro V w1 hbR ⟨f21, f11, _⟩
                replace f11 : V 11 = .bool true := f11
                replace f21 : V 21 = .pointer (some ⟨b, off + k * 3, none⟩) := f21
                refine .inl ⟨_, f11, fun hg => ?_, fun hg => ?_⟩
                · obtain ⟨hc, hf⟩ := bcell hbR
                  try simp only [World.size_alloc, World.size_setCell] at hc hf
                  unfold Does
                  go_simp
                  exact ⟨Below.refl _ _, rfl⟩
                · exact absurd rfl hg
              · intro V w1 hbR ⟨f17, f22, f11, _, _⟩
                replace f11 : V 11 = .bool true := f11
                replace f17 : V 17 = .agg #[.bool ts[j].pos, .string ts[j].atom.name, .slice y ts[j].atom.args.length yc] := f17
                replace f22 : V 22 = .agg #[.bool ts[k].pos, .string ts[k].atom.name, .slice x ts[k].atom.args.length xc] := f22
                refine .inl ⟨_, f11, fun hg => ?_, fun hg => ?_⟩
                · obtain ⟨hc, hf⟩ := bcell hbR
                  try simp only [World.size_alloc, World.size_setCell] at hc hf
                  unfold Does
                  go_simp
                  exact l7Literals_any (Lit.at_keep (Keeps.all hbR) hJ) (Lit.at_keep (Keeps.all hbR) hE)
                · exact absurd rfl hg
              · intro V w1 hbR ⟨f23, f11, _⟩
                replace f11 : V 11 = .bool true := f11
                replace f23 : V 23 = .int .i64 (Lit.cmp ts[j] ts[k]) := f23
                refine .inl ⟨_, f11, fun hg => ?_, fun hg => ?_⟩
                · unfold Does
                  go_simp
                  exact ⟨Below.refl _ _, rfl⟩
                · exact absurd rfl hg
              · intro V w1 hbR ⟨f11, f24, f8, _⟩
                replace f8 : V 8 = .bool false := f8
                replace f11 : V 11 = .bool true := f11
                replace f24 : V 24 = .bool false := f24
                refine .inl ⟨_, f8, fun hg => ?_, fun hg => ?_⟩
                · unfold Does
                  go_simp
                  exact ⟨Below.refl _ _, rfl⟩
                · exact absurd rfl hg
              · intro V w1 hbR ⟨f8, f25, _⟩
                replace f8 : V 8 = .bool false := f8
                replace f25 : V 25 = .bool false := f25
                unfold Does
                go_simp
                exact ⟨Below.refl _ _, rfl⟩
            intro V w3 hbR hfR
            obtain ⟨f0, f1, f2, f3, f4, f5, f6, f7, f8, f9, f10, f11, f12, f13, f14, f15, f16, f17, f18, f19, f20, f21, f22, f23, f24, f25, f26, _⟩ := hfR
            replace f0 : V 0 = .pointer (some ⟨w.heap.size, 0, none⟩) := f0
            replace f1 : V 1 = .slice (some ⟨b, off, none⟩) ts.length cap := f1
            replace f2 : V 2 = .int .i64 k := f2
            replace f3 : V 3 = .pointer (some ⟨b, off + k * 3, none⟩) := f3
            replace f4 : V 4 = .pointer (some ⟨b, off + k * 3 + 1, none⟩) := f4
            replace f5 : V 5 = .agg #[.string ts[k].atom.name, .slice x ts[k].atom.args.length xc] := f5
            replace f6 : V 6 = .bool true := f6
            replace f7 : V 7 = .bool false := f7
            replace f8 : V 8 = .bool false := f8
            replace f9 : V 9 = .int .i64 k := f9
            replace f10 : V 10 = .bool true := f10
            replace f11 : V 11 = .bool true := f11
            replace f12 : V 12 = .pointer (some ⟨w.heap.size, 0, none⟩) := f12
            replace f13 : V 13 = .slice (some ⟨b, off, none⟩) ts.length cap := f13
            replace f14 : V 14 = .int .i64 k := f14
            replace f15 : V 15 = .int .i64 j := f15
            replace f16 : V 16 = .pointer (some ⟨b, off + j * 3, none⟩) := f16
            replace f17 : V 17 = .agg #[.bool ts[j].pos, .string ts[j].atom.name, .slice y ts[j].atom.args.length yc] := f17
            replace f18 : V 18 = .pointer (some ⟨w.heap.size, 0, none⟩) := f18
            replace f19 : V 19 = .slice (some ⟨b, off, none⟩) ts.length cap := f19
            replace f20 : V 20 = .int .i64 k := f20
            replace f21 : V 21 = .pointer (some ⟨b, off + k * 3, none⟩) := f21
            replace f22 : V 22 = .agg #[.bool ts[k].pos, .string ts[k].atom.name, .slice x ts[k].atom.args.length xc] := f22
            replace f23 : V 23 = .int .i64 (Lit.cmp ts[j] ts[k]) := f23
            replace f24 : V 24 = .bool false := f24
            replace f25 : V 25 = .bool false := f25
            replace f26 : V 26 = .bool false := f26
            simp only [f0, f1, f2, f3, f4, f5, f6, f7, f8, f9, f10, f11, f12, f13, f14, f15, f16, f17, f18, f19, f20, f21, f22, f23, f24, f25, f26]
            clear f0 f1 f2 f3 f4 f5 f6 f7 f8 f9 f10 f11 f12 f13 f14 f15 f16 f17 f18 f19 f20 f21 f22 f23 f24 f25 f26
            clear eB0 e10 lB q0 q1 q2 q3
            go_wp2_with fail
            go_roundw
            case rel => exact ⟨k + 1, by omega, by go_num, HZ, hb.trans (hbR.mono hz)⟩
            case measure => simp [intOf]; omega
        · have hk0 : ¬ (0 : Int) < k := by omega
          have HJ : Hid (k = 0) := by show k = 0; omega
          have HZ : Hid (∀ i, i < k + 1 → Lit.okAt ts i = true) := fun i hi => if h : i < k then HX.out i h else by
            obtain rfl : i = k := by omega
            exact (by have hjk := HJ.out; subst hjk; rw [Lit.okAt_zero hlt, hA])
          refine wp_region_B [fun v _ => v = .pointer (some ⟨w.heap.size, 0, none⟩), fun v _ => v = .slice (some ⟨b, off, none⟩) ts.length cap, fun v _ => v = .int .i64 k, fun v _ => v = .pointer (some ⟨b, off + k * 3, none⟩), fun v _ => v = .pointer (some ⟨b, off + k * 3 + 1, none⟩), fun v _ => v = .agg #[.string ts[k].atom.name, .slice x ts[k].atom.args.length xc], fun v _ => v = .bool true, fun v _ => v = .bool false, fun v _ => v = .bool false, fun v _ => v = .int .i64 k, fun v _ => v = .bool false, fun v _ => v = .bool false, fun v _ => v = undef, fun v _ => v = undef, fun v _ => v = undef, fun v _ => v = undef, fun v _ => v = undef, fun v _ => v = undef, fun v _ => v = undef, fun v _ => v = undef, fun v _ => v = undef, fun v _ => v = undef, fun v _ => v = undef, fun v _ => v = undef, fun v _ => v = undef, fun v _ => v = .bool false, fun v _ => v = .bool false] _ (fun V => by simp [putAll, Act.put]; rfl) (by kernel_rfl) (by decide) (by simp) (by kernel_rfl) ?_ ?_ ?_
          · intro F hF
            simp only [List.mem_cons, List.not_mem_nil, or_false] at hF
            rcases hF with rfl | rfl | rfl | rfl | rfl | rfl | rfl | rfl | rfl | rfl | rfl | rfl | rfl | rfl | rfl | rfl | rfl | rfl | rfl | rfl | rfl | rfl | rfl | rfl | rfl | rfl | rfl
            · exact stable_eq
            · exact stable_eq
            · exact stable_eq
            · exact stable_eq
            · exact stable_eq
            · exact stable_eq
            · exact stable_eq
            · exact stable_eq
            · exact stable_eq
            · exact stable_eq
            · exact stable_eq
            · exact stable_eq
            · exact stable_eq
            · exact stable_eq
            · exact stable_eq
            · exact stable_eq
            · exact stable_eq
            · exact stable_eq
            · exact stable_eq
            · exact stable_eq
            · exact stable_eq
            · exact stable_eq
            · exact stable_eq
            · exact stable_eq
            · exact stable_eq
            · exact stable_eq
            · exact stable_eq
          · refine ⟨?_, ?_, ?_, ?_, ?_, ?_, ?_, ?_, ?_, ?_, ?_, ?_, ?_, ?_, ?_, ?_, ?_, ?_, ?_, ?_, ?_, ?_, ?_, ?_, ?_, ?_, ?_, trivial⟩
            · intro V w1 hbR _
              unfold Does
              go_simp
              exact ⟨Below.refl _ _, rfl⟩
            · intro V w1 hbR ⟨f0, _⟩
              replace f0 : V 0 = .pointer (some ⟨w.heap.size, 0, none⟩) := f0
              obtain ⟨hc, hf⟩ := bcell hbR
              try simp only [World.size_alloc, World.size_setCell] at hc hf
              unfold Does
              go_simp
              exact ⟨Below.refl _ _, rfl⟩
            · intro V w1 hbR _
              unfold Does
              go_simp
              exact ⟨Below.refl _ _, rfl⟩
            · intro V w1 hbR ⟨f1, f2, _⟩
              replace f1 : V 1 = .slice (some ⟨b, off, none⟩) ts.length cap := f1
              replace f2 : V 2 = .int .i64 k := f2
              unfold Does
              go_simp
              exact ⟨Below.refl _ _, rfl⟩
            · intro V w1 hbR ⟨f3, _⟩
              replace f3 : V 3 = .pointer (some ⟨b, off + k * 3, none⟩) := f3
              unfold Does
              go_simp
              exact ⟨Below.refl _ _, rfl⟩
            · intro V w1 hbR ⟨f4, _⟩
              replace f4 : V 4 = .pointer (some ⟨b, off + k * 3 + 1, none⟩) := f4
              obtain ⟨hc, hf⟩ := bcell hbR
              try simp only [World.size_alloc, World.size_setCell] at hc hf
              unfold Does
              go_simp
              exact ⟨Below.refl _ _, rfl⟩
            · intro V w1 hbR ⟨f5, _⟩
              replace f5 : V 5 = .agg #[.string ts[k].atom.name, .slice x ts[k].atom.args.length xc] := f5
              obtain ⟨hc, hf⟩ := bcell hbR
              try simp only [World.size_alloc, World.size_setCell] at hc hf
              unfold Does
              go_simp
              have hEk := Lit.at_keep (Keeps.all hbR) hE; have hq := l2Atom_any ts[k].atom (Lit.at_atom hEk) hbm'; rw [hA] at hq; exact hq
            · intro V w1 hbR ⟨f6, _⟩
              replace f6 : V 6 = .bool true := f6
              unfold Does
              go_simp
              exact ⟨Below.refl _ _, rfl⟩
            · intro V w1 hbR ⟨f7, f6, _⟩
              replace f6 : V 6 = .bool true := f6
              replace f7 : V 7 = .bool false := f7
              unfold Does
              go_simp
              exact ⟨Below.refl _ _, rfl⟩
            · intro V w1 hbR ⟨f8, _⟩
              replace f8 : V 8 = .bool false := f8
              refine .inl ⟨_, f8, fun hg => ?_, fun hg => ?_⟩
              · unfold Does
                go_simp
                exact ⟨Below.refl _ _, rfl⟩
              · exact absurd rfl hg
            · intro V w1 hbR ⟨f9, f8, _⟩
              replace f8 : V 8 = .bool false := f8
              replace f9 : V 9 = .int .i64 k := f9
              refine .inl ⟨_, f8, fun hg => ?_, fun hg => ?_⟩
              · unfold Does
                go_simp
                exact ⟨Below.refl _ _, rfl⟩
              · exact absurd rfl hg
            · intro V w1 hbR ⟨f10, f8, _, _⟩
              replace f8 : V 8 = .bool false := f8
              replace f10 : V 10 = .bool false := f10
              refine .inl ⟨_, f8, fun hg => ?_, fun hg => ?_⟩
              · unfold Does
                go_simp
                exact ⟨Below.refl _ _, rfl⟩
              · exact absurd rfl hg
            · intro V w1 hbR ⟨f11, _⟩
              replace f11 : V 11 = .bool false := f11
              refine .inl ⟨_, f11, fun hg => ?_, fun hg => ?_⟩
              · exact absurd hg (by decide)
              · rfl
            · intro V w1 hbR ⟨f12, f11, _⟩
              replace f11 : V 11 = .bool false := f11
              replace f12 : V 12 = undef := f12
              refine .inl ⟨_, f11, fun hg => ?_, fun hg => ?_⟩
              · exact absurd hg (by decide)
              · rfl
            · intro V w1 hbR ⟨f11, _⟩
              replace f11 : V 11 = .bool false := f11
              refine .inl ⟨_, f11, fun hg => ?_, fun hg => ?_⟩
              · exact absurd hg (by decide)
              · rfl
            · intro V w1 hbR ⟨f14, f11, _⟩
              replace f11 : V 11 = .bool false := f11
              replace f14 : V 14 = undef := f14
              refine .inl ⟨_, f11, fun hg => ?_, fun hg => ?_⟩
              · exact absurd hg (by decide)
              · rfl
            · intro V w1 hbR ⟨f13, f15, f11, _⟩
              replace f11 : V 11 = .bool false := f11
              replace f13 : V 13 = undef := f13
              replace f15 : V 15 = undef := f15
              refine .inl ⟨_, f11, fun hg => ?_, fun hg => ?_⟩
              · exact absurd hg (by decide)
              · rfl
            · intro V w1 hbR ⟨f16, f11, _⟩
              replace f11 : V 11 = .bool false := f11
              replace f16 : V 16 = undef := f16
              refine .inl ⟨_, f11, fun hg => ?_, fun hg => ?_⟩
              · exact absurd hg (by decide)
              · rfl
            · intro V w1 hbR ⟨f11, _⟩
              replace f11 : V 11 = .bool false := f11
              refine .inl ⟨_, f11, fun hg => ?_, fun hg => ?_⟩
              · exact absurd hg (by decide)
              · rfl
            · intro V w1 hbR ⟨f18, f11, _⟩
              replace f11 : V 11 = .bool false := f11
              replace f18 : V 18 = undef := f18
              refine .inl ⟨_, f11, fun hg => ?_, fun hg => ?_⟩
              · exact absurd hg (by decide)
              · rfl
            · intro V w1 hbR ⟨f11, _⟩
              replace f11 : V 11 = .bool false := f11
              refine .inl ⟨_, f11, fun hg => ?_, fun hg => ?_⟩
              · exact absurd hg (by decide)
              · rfl
            · intro V w1 hbR ⟨f19, f20, f11, _⟩
              replace f11 : V 11 = .bool false := f11
              replace f19 : V 19 = undef := f19
              replace f20 : V 20 = undef := f20
              refine .inl ⟨_, f11, fun hg => ?_, fun hg => ?_⟩
              · exact absurd hg (by decide)
              · rfl
            · intro V w1 hbR ⟨f21, f11, _⟩
              replace f11 : V 11 = .bool false := f11
              replace f21 : V 21 = undef := f21
              refine .inl ⟨_, f11, fun hg => ?_, fun hg => ?_⟩
              · exact absurd hg (by decide)
              · rfl
            · intro V w1 hbR ⟨f17, f22, f11, _, _⟩
              replace f11 : V 11 = .bool false := f11
              replace f17 : V 17 = undef := f17
              replace f22 : V 22 = undef := f22
              refine .inl ⟨_, f11, fun hg => ?_, fun hg => ?_⟩
              · exact absurd hg (by decide)
              · rfl
            · intro V w1 hbR ⟨f23, f11, _⟩
              replace f11 : V 11 = .bool false := f11
              replace f23 : V 23 = undef := f23
              refine .inl ⟨_, f11, fun hg => ?_, fun hg => ?_⟩
              · exact absurd hg (by decide)
              · rfl
            · intro V w1 hbR ⟨f11, f24, f8, _⟩
              replace f8 : V 8 = .bool false := f8
              replace f11 : V 11 = .bool false := f11
              replace f24 : V 24 = undef := f24
              refine .inl ⟨_, f8, fun hg => ?_, fun hg => ?_⟩
              · unfold Does
                go_simp
                exact ⟨Below.refl _ _, rfl⟩
              · exact absurd rfl hg
            · intro V w1 hbR ⟨f8, f25, _⟩
              replace f8 : V 8 = .bool false := f8
              replace f25 : V 25 = .bool false := f25
              unfold Does
              go_simp
              exact ⟨Below.refl _ _, rfl⟩
          intro V w3 hbR hfR
          obtain ⟨f0, f1, f2, f3, f4, f5, f6, f7, f8, f9, f10, f11, f12, f13, f14, f15, f16, f17, f18, f19, f20, f21, f22, f23, f24, f25, f26, _⟩ := hfR
          replace f0 : V 0 = .pointer (some ⟨w.heap.size, 0, none⟩) := f0
          replace f1 : V 1 = .slice (some ⟨b, off, none⟩) ts.length cap := f1
          replace f2 : V 2 = .int .i64 k := f2
          replace f3 : V 3 = .pointer (some ⟨b, off + k * 3, none⟩) := f3
          replace f4 : V 4 = .pointer (some ⟨b, off + k * 3 + 1, none⟩) := f4
          replace f5 : V 5 = .agg #[.string ts[k].atom.name, .slice x ts[k].atom.args.length xc] := f5
          replace f6 : V 6 = .bool true := f6
          replace f7 : V 7 = .bool false := f7
          replace f8 : V 8 = .bool false := f8
          replace f9 : V 9 = .int .i64 k := f9
          replace f10 : V 10 = .bool false := f10
          replace f11 : V 11 = .bool false := f11
          replace f12 : V 12 = undef := f12
          replace f13 : V 13 = undef := f13
          replace f14 : V 14 = undef := f14
          replace f15 : V 15 = undef := f15
          replace f16 : V 16 = undef := f16
          replace f17 : V 17 = undef := f17
          replace f18 : V 18 = undef := f18
          replace f19 : V 19 = undef := f19
          replace f20 : V 20 = undef := f20
          replace f21 : V 21 = undef := f21
          replace f22 : V 22 = undef := f22
          replace f23 : V 23 = undef := f23
          replace f24 : V 24 = undef := f24
          replace f25 : V 25 = .bool false := f25
          replace f26 : V 26 = .bool false := f26
          simp only [f0, f1, f2, f3, f4, f5, f6, f7, f8, f9, f10, f11, f12, f13, f14, f15, f16, f17, f18, f19, f20, f21, f22, f23, f24, f25, f26]
          clear f0 f1 f2 f3 f4 f5 f6 f7 f8 f9 f10 f11 f12 f13 f14 f15 f16 f17 f18 f19 f20 f21 f22 f23 f24 f25 f26
          clear eB0 e10 lB q0 q1 q2 q3
          go_wp2_with fail
          go_roundw
          case rel => exact ⟨k + 1, by omega, by go_num, HZ, hb.trans (hbR.mono hz)⟩
          case measure => simp [intOf]; omega
      · replace hA : ts[k].atom.atom = false := by simpa using hA
        have HZ : Hid (Lit.allOk ts = false) := Lit.allOk_bad hlt (Lit.okAt_atom hlt hA)
        refine wp_region_B [fun v _ => v = .pointer (some ⟨w.heap.size, 0, none⟩), fun v _ => v = .slice (some ⟨b, off, none⟩) ts.length cap, fun v _ => v = .int .i64 k, fun v _ => v = .pointer (some ⟨b, off + k * 3, none⟩), fun v _ => v = .pointer (some ⟨b, off + k * 3 + 1, none⟩), fun v _ => v = .agg #[.string ts[k].atom.name, .slice x ts[k].atom.args.length xc], fun v _ => v = .bool false, fun v _ => v = .bool true, fun v _ => v = .bool true, fun v _ => v = undef, fun v _ => v = undef, fun v _ => v = undef, fun v _ => v = undef, fun v _ => v = undef, fun v _ => v = undef, fun v _ => v = undef, fun v _ => v = undef, fun v _ => v = undef, fun v _ => v = undef, fun v _ => v = undef, fun v _ => v = undef, fun v _ => v = undef, fun v _ => v = undef, fun v _ => v = undef, fun v _ => v = undef, fun v _ => v = undef, fun v _ => v = .bool true] _ (fun V => by simp [putAll, Act.put]; rfl) (by kernel_rfl) (by decide) (by simp) (by kernel_rfl) ?_ ?_ ?_
        · intro F hF
          simp only [List.mem_cons, List.not_mem_nil, or_false] at hF
          rcases hF with rfl | rfl | rfl | rfl | rfl | rfl | rfl | rfl | rfl | rfl | rfl | rfl | rfl | rfl | rfl | rfl | rfl | rfl | rfl | rfl | rfl | rfl | rfl | rfl | rfl | rfl | rfl
          · exact stable_eq
          · exact stable_eq
          · exact stable_eq
          · exact stable_eq
          · exact stable_eq
          · exact stable_eq
          · exact stable_eq
          · exact stable_eq
          · exact stable_eq
          · exact stable_eq
          · exact stable_eq
          · exact stable_eq
          · exact stable_eq
          · exact stable_eq
          · exact stable_eq
          · exact stable_eq
          · exact stable_eq
          · exact stable_eq
          · exact stable_eq
          · exact stable_eq
          · exact stable_eq
          · exact stable_eq
          · exact stable_eq
          · exact stable_eq
          · exact stable_eq
          · exact stable_eq
          · exact stable_eq
        · refine ⟨?_, ?_, ?_, ?_, ?_, ?_, ?_, ?_, ?_, ?_, ?_, ?_, ?_, ?_, ?_, ?_, ?_, ?_, ?_, ?_, ?_, ?_, ?_, ?_, ?_, ?_, ?_, trivial⟩
          · intro V w1 hbR _
            unfold Does
            go_simp
            exact ⟨Below.refl _ _, rfl⟩
          · intro V w1 hbR ⟨f0, _⟩
            replace f0 : V 0 = .pointer (some ⟨w.heap.size, 0, none⟩) := f0
            obtain ⟨hc, hf⟩ := bcell hbR
            try simp only [World.size_alloc, World.size_setCell] at hc hf
            unfold Does
            go_simp
            exact ⟨Below.refl _ _, rfl⟩
          · intro V w1 hbR _
            unfold Does
            go_simp
            exact ⟨Below.refl _ _, rfl⟩
          · intro V w1 hbR ⟨f1, f2, _⟩
            replace f1 : V 1 = .slice (some ⟨b, off, none⟩) ts.length cap := f1
            replace f2 : V 2 = .int .i64 k := f2
            unfold Does
            go_simp
            exact ⟨Below.refl _ _, rfl⟩
          · intro V w1 hbR ⟨f3, _⟩
            replace f3 : V 3 = .pointer (some ⟨b, off + k * 3, none⟩) := f3
            unfold Does
            go_simp
            exact ⟨Below.refl _ _, rfl⟩
          · intro V w1 hbR ⟨f4, _⟩
            replace f4 : V 4 = .pointer (some ⟨b, off + k * 3 + 1, none⟩) := f4
            obtain ⟨hc, hf⟩ := bcell hbR
            try simp only [World.size_alloc, World.size_setCell] at hc hf
            unfold Does
            go_simp
            exact ⟨Below.refl _ _, rfl⟩
          · intro V w1 hbR ⟨f5, _⟩
            replace f5 : V 5 = .agg #[.string ts[k].atom.name, .slice x ts[k].atom.args.length xc] := f5
            obtain ⟨hc, hf⟩ := bcell hbR
            try simp only [World.size_alloc, World.size_setCell] at hc hf
            unfold Does
            go_simp
            have hEk := Lit.at_keep (Keeps.all hbR) hE; have hq := l2Atom_any ts[k].atom (Lit.at_atom hEk) hbm'; rw [hA] at hq; exact hq
          · intro V w1 hbR ⟨f6, _⟩
            replace f6 : V 6 = .bool false := f6
            unfold Does
            go_simp
            exact ⟨Below.refl _ _, rfl⟩
          · intro V w1 hbR ⟨f7, f6, _⟩
            replace f6 : V 6 = .bool false := f6
            replace f7 : V 7 = .bool true := f7
            unfold Does
            go_simp
            exact ⟨Below.refl _ _, rfl⟩
          · intro V w1 hbR ⟨f8, _⟩
            replace f8 : V 8 = .bool true := f8
            refine .inl ⟨_, f8, fun hg => ?_, fun hg => ?_⟩
            · exact absurd hg (by decide)
            · rfl
          · intro V w1 hbR ⟨f9, f8, _⟩
            replace f8 : V 8 = .bool true := f8
            replace f9 : V 9 = undef := f9
            refine .inl ⟨_, f8, fun hg => ?_, fun hg => ?_⟩
            · exact absurd hg (by decide)
            · rfl
          · intro V w1 hbR ⟨f10, f8, _, _⟩
            replace f8 : V 8 = .bool true := f8
            replace f10 : V 10 = undef := f10
            refine .inl ⟨_, f8, fun hg => ?_, fun hg => ?_⟩
            · exact absurd hg (by decide)
            · rfl
          · intro V w1 hbR ⟨f11, _⟩
            replace f11 : V 11 = undef := f11
            exact .inr ⟨f11, rfl⟩
          · intro V w1 hbR ⟨f12, f11, _⟩
            replace f11 : V 11 = undef := f11
            replace f12 : V 12 = undef := f12
            exact .inr ⟨f11, rfl⟩
          · intro V w1 hbR ⟨f11, _⟩
            replace f11 : V 11 = undef := f11
            exact .inr ⟨f11, rfl⟩
          · intro V w1 hbR ⟨f14, f11, _⟩
            replace f11 : V 11 = undef := f11
            replace f14 : V 14 = undef := f14
            exact .inr ⟨f11, rfl⟩
          · intro V w1 hbR ⟨f13, f15, f11, _⟩
            replace f11 : V 11 = undef := f11
            replace f13 : V 13 = undef := f13
            replace f15 : V 15 = undef := f15
            exact .inr ⟨f11, rfl⟩
          · intro V w1 hbR ⟨f16, f11, _⟩
            replace f11 : V 11 = undef := f11
            replace f16 : V 16 = undef := f16
            exact .inr ⟨f11, rfl⟩
          · intro V w1 hbR ⟨f11, _⟩
            replace f11 : V 11 = undef := f11
            exact .inr ⟨f11, rfl⟩
          · intro V w1 hbR ⟨f18, f11, _⟩
            replace f11 : V 11 = undef := f11
            replace f18 : V 18 = undef := f18
            exact .inr ⟨f11, rfl⟩
          · intro V w1 hbR ⟨f11, _⟩
            replace f11 : V 11 = undef := f11
            exact .inr ⟨f11, rfl⟩
          · intro V w1 hbR ⟨f19, f20, f11, _⟩
            replace f11 : V 11 = undef := f11
            replace f19 : V 19 = undef := f19
            replace f20 : V 20 = undef := f20
            exact .inr ⟨f11, rfl⟩
          · intro V w1 hbR ⟨f21, f11, _⟩
            replace f11 : V 11 = undef := f11
            replace f21 : V 21 = undef := f21
            exact .inr ⟨f11, rfl⟩
          · intro V w1 hbR ⟨f17, f22, f11, _, _⟩
            replace f11 : V 11 = undef := f11
            replace f17 : V 17 = undef := f17
            replace f22 : V 22 = undef := f22
            exact .inr ⟨f11, rfl⟩
          · intro V w1 hbR ⟨f23, f11, _⟩
            replace f11 : V 11 = undef := f11
            replace f23 : V 23 = undef := f23
            exact .inr ⟨f11, rfl⟩
          · intro V w1 hbR ⟨f11, f24, f8, _⟩
            replace f8 : V 8 = .bool true := f8
            replace f11 : V 11 = undef := f11
            replace f24 : V 24 = undef := f24
            refine .inl ⟨_, f8, fun hg => ?_, fun hg => ?_⟩
            · exact absurd hg (by decide)
            · rfl
          · intro V w1 hbR ⟨f8, f25, _⟩
            replace f8 : V 8 = .bool true := f8
            replace f25 : V 25 = undef := f25
            unfold Does
            go_simp
            exact ⟨Below.refl _ _, rfl⟩
        intro V w3 hbR hfR
        obtain ⟨f0, f1, f2, f3, f4, f5, f6, f7, f8, f9, f10, f11, f12, f13, f14, f15, f16, f17, f18, f19, f20, f21, f22, f23, f24, f25, f26, _⟩ := hfR
        replace f0 : V 0 = .pointer (some ⟨w.heap.size, 0, none⟩) := f0
        replace f1 : V 1 = .slice (some ⟨b, off, none⟩) ts.length cap := f1
        replace f2 : V 2 = .int .i64 k := f2
        replace f3 : V 3 = .pointer (some ⟨b, off + k * 3, none⟩) := f3
        replace f4 : V 4 = .pointer (some ⟨b, off + k * 3 + 1, none⟩) := f4
        replace f5 : V 5 = .agg #[.string ts[k].atom.name, .slice x ts[k].atom.args.length xc] := f5
        replace f6 : V 6 = .bool false := f6
        replace f7 : V 7 = .bool true := f7
        replace f8 : V 8 = .bool true := f8
        replace f9 : V 9 = undef := f9
        replace f10 : V 10 = undef := f10
        replace f11 : V 11 = undef := f11
        replace f12 : V 12 = undef := f12
        replace f13 : V 13 = undef := f13
        replace f14 : V 14 = undef := f14
        replace f15 : V 15 = undef := f15
        replace f16 : V 16 = undef := f16
        replace f17 : V 17 = undef := f17
        replace f18 : V 18 = undef := f18
        replace f19 : V 19 = undef := f19
        replace f20 : V 20 = undef := f20
        replace f21 : V 21 = undef := f21
        replace f22 : V 22 = undef := f22
        replace f23 : V 23 = undef := f23
        replace f24 : V 24 = undef := f24
        replace f25 : V 25 = undef := f25
        replace f26 : V 26 = .bool true := f26
        simp only [f0, f1, f2, f3, f4, f5, f6, f7, f8, f9, f10, f11, f12, f13, f14, f15, f16, f17, f18, f19, f20, f21, f22, f23, f24, f25, f26]
        clear f0 f1 f2 f3 f4 f5 f6 f7 f8 f9 f10 f11 f12 f13 f14 f15 f16 f17 f18 f19 f20 f21 f22 f23 f24 f25 f26
        clear eB0 e10 lB q0 q1 q2 q3
        go_wp2_with fail
        go_ret
        exact Gives.mk (by rw [HV.out, HZ.out]; rfl) (hW.trans (hbR.mono hW.size))
    · obtain rfl : k = ts.length := by omega
      have HZ : Hid (Lit.allOk ts = true) := Lit.allOk_good HX.out
      clear hr
      go_wp2_with fail
      go_ret
      exact Gives.mk (by rw [HV.out, HZ.out]; rfl) hbw
end Go.Proofs.YtooocakkjdhfiaaGreatDoor
