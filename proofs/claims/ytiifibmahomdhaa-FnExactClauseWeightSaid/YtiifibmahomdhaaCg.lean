/- The weight of a clause. -/
import Derived.Test.YtiifibmahomdhaaCv
import Derived.Test.YtiifibmahomdhaaTe
namespace Go.Proofs.Ytiifibmahomdhaa
set_option maxRecDepth 100000
open Go.RowKit

def Lit.sizes : List Lit → Nat
  | [] => 0
  | t :: ts => t.atom.size + Lit.sizes ts
theorem Lit.sizes_take : ∀ (ts : List Lit) (k : Nat) (hk : k < ts.length), Lit.sizes (ts.take (k + 1)) = Lit.sizes (ts.take k) + ts[k].atom.size
  | [], k, hk => absurd hk (by simp)
  | t :: ts, 0, _ => by simp [Lit.sizes]
  | t :: ts, k + 1, hk => by
    have := Lit.sizes_take ts k (by simpa using hk)
    simp only [List.take_succ_cons, Lit.sizes, this, List.getElem_cons_succ]; omega
theorem Lit.sizes_le : ∀ (ts : List Lit) (k : Nat), Lit.sizes (ts.take k) ≤ Lit.sizes ts
  | [], k => by simp
  | t :: ts, 0 => by simp [Lit.sizes]
  | t :: ts, k + 1 => by
    have := Lit.sizes_le ts k
    simp only [List.take_succ_cons, Lit.sizes]; omega
theorem Lit.sizes_bulk : ∀ ts : List Lit, Lit.sizes ts ≤ ts.length + Lit.bulks ts
  | [] => by simp [Lit.sizes]
  | t :: ts => by
    have h0 := Tm.size_bulk t.atom
    have h1 := Lit.sizes_bulk ts
    simp only [Lit.sizes, Lit.bulks, Lit.bulk, List.length_cons]; omega
theorem Tm.atom_small {t : Tm} (h : t.atom = true) : t.size ≤ 30 := by
  have := Tm.expr_small (Tm.atom_expr h)
  rw [Tm.small, Bool.and_eq_true] at this
  exact of_decide_eq_true this.1
theorem Cl.valid_at {ts : List Lit} (h : Cl.valid ⟨ts⟩ = true) {k : Nat} (hk : k < ts.length) : ts[k].atom.atom = true := by
  rw [Cl.valid, Bool.and_eq_true, Lit.allOk, List.all_eq_true] at h
  exact Lit.okAt_valid hk (h.1 k (List.mem_range.2 hk))

set_option maxHeartbeats 1000000 in
theorem l7Weight_any {t : Cl} {S : Nat → Prop} {c0 : Value} {w : World} (hT : Cl.at S w c0 t) (hbk : t.bulk ≤ 1048576) : Calls Try.prog 88 #[.agg #[c0]] w (Gives w (.int .i64 (Lit.sizes t.ls))) := by
  have hlen : t.ls.length ≤ 1048576 := by rw [Cl.bulk] at hbk; omega
  have hsb := Lit.sizes_bulk t.ls
  rw [Cl.bulk] at hbk
  obtain ⟨a, cap, rfl⟩ := Cl.at_form hT
  have hW : Below w.heap.size w (w.alloc (.cells #[.slice a t.ls.length cap] 72)) := (Below.refl _ _).alloc (Nat.le_refl _) _
  have bT : Box (w.alloc (.cells #[.slice a t.ls.length cap] 72)) w.heap.size [.slice a t.ls.length cap] := Box.new w _ _
  replace hT := Cl.at_keep (Keeps.all hW) hT
  go_enter Try.func88, Try.ntmps88
  go_wp2_with fail
  generalize (w.alloc (.cells #[.slice a t.ls.length cap] 72)) = w0 at *
  go_loopw [3, 4] (fun x i wr => ∃ (k r : Nat), k ≤ t.ls.length ∧ i = .int .i64 k ∧ x = .int .i64 r ∧ r ≤ 1048577 ∧ Hid (r = Lit.sizes (t.ls.take k)) ∧ Below w0.heap.size w0 wr) (fun _ i _ => t.ls.length - (intOf i).toNat)
  case atStart => exact ⟨0, 0, Nat.zero_le _, rfl, rfl, by omega, by simp [Hid, Lit.sizes], Below.refl _ _⟩
  case round =>
    obtain ⟨k, r, hk, rfl, rfl, hr1, HX, hb⟩ := hrel
    have hWr := hW.trans (hb.mono hW.size)
    have bR := bT.keep hb
    have eT0 := bR.c0
    have lT := bR.lt
    by_cases hlt : k < t.ls.length
    · have hne : t.ls ≠ [] := by intro e; rw [e] at hlt; simp at hlt
      obtain ⟨b, off, rfl, hS, hbl, hrr⟩ := Lit.sd_get hT hne
      obtain ⟨c0, c1, c2, q0, q1, q2, qx⟩ := hrr k hlt
      obtain ⟨rfl, rfl, p, pc, rfl⟩ := Lit.at_form qx
      replace q0 := (hb.cell (p := ⟨b, off + k * 3, none⟩) hbl).trans q0
      replace q1 := (hb.cell (p := ⟨b, off + k * 3 + 1, none⟩) hbl).trans q1
      replace q2 := (hb.cell (p := ⟨b, off + k * 3 + 2, none⟩) hbl).trans q2
      replace qx := Lit.at_keep (Keeps.all hb) qx
      have hbm : t.ls[k].atom.bulk ≤ 1048576 := by have := Lit.bulk_mem (List.getElem_mem hlt); rw [Lit.bulk] at this; omega
      clear hrr
      have hst := hid (Lit.sizes_take t.ls k hlt)
      have hsl := hid (Lit.sizes_le t.ls (k + 1))
      have hsm : t.ls[k].atom.size ≤ 1048577 := by have := Tm.size_bulk t.ls[k].atom; omega
      have q3 : wr.cell? ⟨b, off + k * 3 + 1 + 1, none⟩ = some (.slice p t.ls[k].atom.args.length pc) := q2
      go_wp2_with fail
      refine (l2Size_any t.ls[k].atom _ _ _ _ (Lit.at_atom qx) hbm).mono ?_
      rintro e w2 ⟨_, rfl, hb3, rfl⟩
      obtain ⟨r2, HR⟩ : ∃ r2, Hid (t.ls[k].atom.size = r2) := ⟨_, hid rfl⟩
      rw [HR.out] at hsm ⊢
      have HS : Hid (r + r2 = Lit.sizes (t.ls.take (k + 1))) := by have := HX.out; have := HR.out; have := hst.out; show _ = _; omega
      have hr3 : r + r2 ≤ 1048577 := by have := HS.out; have := hsl.out; omega
      go_wp2_with fail
      go_roundw
      case rel => exact ⟨k + 1, r + r2, by omega, by go_num, by go_num, hr3, HS, hb.trans (hb3.mono hb.size)⟩
      case measure => simp [intOf]; omega
    · obtain rfl : k = t.ls.length := by omega
      have HS : Hid (r = Lit.sizes t.ls) := by have := HX.out; rwa [List.take_length] at this
      go_wp2_with fail
      go_ret
      exact Gives.mk (ret_i64 (by rw [← HS.out])) hWr
set_option maxHeartbeats 1000000 in
theorem clauseWeight_any {t : Cl} (hv : t.valid = true) {S : Nat → Prop} {c0 : Value} {w : World} (hT : Cl.at S w c0 t) (hbk : t.bulk ≤ 1048576) : Calls Try.prog 89 #[.agg #[c0]] w (Gives w (.int .i64 (Lit.sizes t.ls))) := by
  have hlen : t.ls.length ≤ 1048576 := by rw [Cl.bulk] at hbk; omega
  have hsb := Lit.sizes_bulk t.ls
  have HV := hid hv
  clear hv
  rw [Cl.bulk] at hbk
  obtain ⟨a, cap, rfl⟩ := Cl.at_form hT
  have hW : Below w.heap.size w (w.alloc (.cells #[.slice a t.ls.length cap] 72)) := (Below.refl _ _).alloc (Nat.le_refl _) _
  have bT : Box (w.alloc (.cells #[.slice a t.ls.length cap] 72)) w.heap.size [.slice a t.ls.length cap] := Box.new w _ _
  replace hT := Cl.at_keep (Keeps.all hW) hT
  go_enter Try.func89, Try.ntmps89
  go_wp2_with fail
  generalize (w.alloc (.cells #[.slice a t.ls.length cap] 72)) = w0 at *
  go_loopw [3, 9] (fun x i wr => ∃ (k r : Nat), k ≤ t.ls.length ∧ i = .int .i64 k ∧ x = .int .i64 r ∧ r ≤ 1048577 ∧ Hid (r = Lit.sizes (t.ls.take k)) ∧ Below w0.heap.size w0 wr) (fun _ i _ => t.ls.length - (intOf i).toNat)
  case atStart => exact ⟨0, 0, Nat.zero_le _, rfl, rfl, by omega, by simp [Hid, Lit.sizes], Below.refl _ _⟩
  case round =>
    obtain ⟨k, r, hk, rfl, rfl, hr1, HX, hb⟩ := hrel
    have hWr := hW.trans (hb.mono hW.size)
    have bR := bT.keep hb
    have eT0 := bR.c0
    have lT := bR.lt
    by_cases hlt : k < t.ls.length
    · have hne : t.ls ≠ [] := by intro e; rw [e] at hlt; simp at hlt
      obtain ⟨b, off, rfl, hS, hbl, hrr⟩ := Lit.sd_get hT hne
      obtain ⟨c0, c1, c2, q0, q1, q2, qx⟩ := hrr k hlt
      obtain ⟨rfl, rfl, p, pc, rfl⟩ := Lit.at_form qx
      replace q0 := (hb.cell (p := ⟨b, off + k * 3, none⟩) hbl).trans q0
      replace q1 := (hb.cell (p := ⟨b, off + k * 3 + 1, none⟩) hbl).trans q1
      replace q2 := (hb.cell (p := ⟨b, off + k * 3 + 2, none⟩) hbl).trans q2
      replace qx := Lit.at_keep (Keeps.all hb) qx
      have hbm : t.ls[k].atom.bulk ≤ 1048576 := by have := Lit.bulk_mem (List.getElem_mem hlt); rw [Lit.bulk] at this; omega
      clear hrr
      have hst := hid (Lit.sizes_take t.ls k hlt)
      have hsl := hid (Lit.sizes_le t.ls (k + 1))
      have h30 := Tm.atom_small (Cl.valid_at HV.out hlt)
      go_wp2_with fail
      have hbx : Below wr.heap.size wr (wr.alloc (.cells #[.bool t.ls[k].pos, .string t.ls[k].atom.name, .slice p t.ls[k].atom.args.length pc] 39)) := (Below.refl _ _).alloc (Nat.le_refl _) _
      refine (implSize_any t.ls[k].atom S _ _ _ (Tm.at_keep (Keeps.all hbx) (Lit.at_atom qx)) hbm).mono ?_
      rintro e w2 ⟨r2, rfl, hu, hb2⟩
      have hb3 := hbx.trans (hb2.mono hbx.size)
      clear hbx hb2
      have HR : Hid (r2 = t.ls[k].atom.size) := hu.1 h30
      have hr2 : r2 ≤ 30 := by have := HR.out; omega
      clear hu h30
      have HS : Hid (r + r2 = Lit.sizes (t.ls.take (k + 1))) := by have := HX.out; have := HR.out; have := hst.out; show _ = _; omega
      have hr3 : r + r2 ≤ 1048577 := by have := HS.out; have := hsl.out; omega
      go_wp2_with fail
      go_roundw
      case rel => exact ⟨k + 1, r + r2, by omega, by go_num, by go_num, hr3, HS, hb.trans (hb3.mono hb.size)⟩
      case measure => simp [intOf]; omega
    · obtain rfl : k = t.ls.length := by omega
      have HS : Hid (r = Lit.sizes t.ls) := by have := HX.out; rwa [List.take_length] at this
      go_wp2_with fail
      go_ret
      exact Gives.mk (ret_i64 (by rw [← HS.out])) hWr

def Cl.weightR (t : Cl) : Nat := if t.valid then Lit.sizes t.ls else 0
set_option maxHeartbeats 1000000 in
theorem spec_ClauseWeight {t : Cl} {S : Nat → Prop} {c0 : Value} {w : World} (hT : Cl.at S w c0 t) (hbk : t.bulk ≤ 1048576) : Calls Try.prog 44 #[.agg #[c0]] w (Gives w (.tuple #[.int .i64 t.weightR, .bool t.valid])) := by
  by_cases h : t.valid = true
  · have HS : Hid (Lit.sizes t.ls = t.weightR) := by rw [Hid, Cl.weightR, if_pos h]
    have HE := hid h
    obtain ⟨a, cap, rfl⟩ := Cl.at_form hT
    have hW : Below w.heap.size w (w.alloc (.cells #[.slice a t.ls.length cap] 72)) := (Below.refl _ _).alloc (Nat.le_refl _) _
    have bT : Box (w.alloc (.cells #[.slice a t.ls.length cap] 72)) w.heap.size [.slice a t.ls.length cap] := Box.new w _ _
    replace hT := Cl.at_keep (Keeps.all hW) hT
    go_enter Try.func44, Try.ntmps44
    go_wp2_with fail
    generalize (w.alloc (.cells #[.slice a t.ls.length cap] 72)) = w0 at *
    refine (l7Good_any hT hbk).mono ?_
    rintro e w1 ⟨_, rfl, hb, rfl⟩
    replace hW := hW.trans (hb.mono hW.size)
    replace bT := bT.keep hb
    replace hT := Cl.at_keep (Keeps.all hb) hT
    clear hb
    rw [h]
    have eT0 := bT.c0
    have lT := bT.lt
    go_wp2_with fail
    clear eT0 lT
    clear h
    refine (l7Weight_any hT hbk).mono ?_
    rintro e w1 ⟨_, rfl, hb, rfl⟩
    replace hW := hW.trans (hb.mono hW.size)
    replace bT := bT.keep hb
    replace hT := Cl.at_keep (Keeps.all hb) hT
    clear hb
    have eT0 := bT.c0
    have lT := bT.lt
    go_wp2_with fail
    clear eT0 lT
    go_ret2
    exact Gives.mk (by rw [HE.out, ← HS.out]; rfl) hW
  · replace h : t.valid = false := by simpa using h
    have HS : Hid (t.weightR = 0) := by simp [Hid, Cl.weightR, h]
    have HE := hid h
    obtain ⟨a, cap, rfl⟩ := Cl.at_form hT
    have hW : Below w.heap.size w (w.alloc (.cells #[.slice a t.ls.length cap] 72)) := (Below.refl _ _).alloc (Nat.le_refl _) _
    have bT : Box (w.alloc (.cells #[.slice a t.ls.length cap] 72)) w.heap.size [.slice a t.ls.length cap] := Box.new w _ _
    replace hT := Cl.at_keep (Keeps.all hW) hT
    go_enter Try.func44, Try.ntmps44
    go_wp2_with fail
    generalize (w.alloc (.cells #[.slice a t.ls.length cap] 72)) = w0 at *
    refine (l7Good_any hT hbk).mono ?_
    rintro e w1 ⟨_, rfl, hb, rfl⟩
    replace hW := hW.trans (hb.mono hW.size)
    replace bT := bT.keep hb
    replace hT := Cl.at_keep (Keeps.all hb) hT
    clear hb
    rw [h]
    have eT0 := bT.c0
    have lT := bT.lt
    go_wp2_with fail
    clear eT0 lT
    go_ret2
    exact Gives.mk (by rw [HE.out, HS.out]; rfl) hW
set_option maxHeartbeats 1000000 in
theorem impl_ClauseWeight {t : Cl} {S : Nat → Prop} {c0 : Value} {w : World} (hT : Cl.at S w c0 t) (hbk : t.bulk ≤ 1048576) : Calls Try.prog 45 #[.agg #[c0]] w (Gives w (.tuple #[.int .i64 t.weightR, .bool t.valid])) := by
  by_cases h : t.valid = true
  · have HS : Hid (Lit.sizes t.ls = t.weightR) := by rw [Hid, Cl.weightR, if_pos h]
    have HE := hid h
    obtain ⟨a, cap, rfl⟩ := Cl.at_form hT
    have hW : Below w.heap.size w (w.alloc (.cells #[.slice a t.ls.length cap] 72)) := (Below.refl _ _).alloc (Nat.le_refl _) _
    have bT : Box (w.alloc (.cells #[.slice a t.ls.length cap] 72)) w.heap.size [.slice a t.ls.length cap] := Box.new w _ _
    replace hT := Cl.at_keep (Keeps.all hW) hT
    go_enter Try.func45, Try.ntmps45
    go_wp2_with fail
    generalize (w.alloc (.cells #[.slice a t.ls.length cap] 72)) = w0 at *
    refine (impl_IsValidClause hT hbk).mono ?_
    rintro e w1 ⟨_, rfl, hb, rfl⟩
    replace hW := hW.trans (hb.mono hW.size)
    replace bT := bT.keep hb
    replace hT := Cl.at_keep (Keeps.all hb) hT
    clear hb
    rw [h]
    have eT0 := bT.c0
    have lT := bT.lt
    go_wp2_with fail
    clear eT0 lT
    clear h
    refine (clauseWeight_any HE.out hT hbk).mono ?_
    rintro e w1 ⟨_, rfl, hb, rfl⟩
    replace hW := hW.trans (hb.mono hW.size)
    replace bT := bT.keep hb
    replace hT := Cl.at_keep (Keeps.all hb) hT
    clear hb
    have eT0 := bT.c0
    have lT := bT.lt
    go_wp2_with fail
    clear eT0 lT
    go_ret2
    exact Gives.mk (by rw [HE.out, ← HS.out]; rfl) hW
  · replace h : t.valid = false := by simpa using h
    have HS : Hid (t.weightR = 0) := by simp [Hid, Cl.weightR, h]
    have HE := hid h
    obtain ⟨a, cap, rfl⟩ := Cl.at_form hT
    have hW : Below w.heap.size w (w.alloc (.cells #[.slice a t.ls.length cap] 72)) := (Below.refl _ _).alloc (Nat.le_refl _) _
    have bT : Box (w.alloc (.cells #[.slice a t.ls.length cap] 72)) w.heap.size [.slice a t.ls.length cap] := Box.new w _ _
    replace hT := Cl.at_keep (Keeps.all hW) hT
    go_enter Try.func45, Try.ntmps45
    go_wp2_with fail
    generalize (w.alloc (.cells #[.slice a t.ls.length cap] 72)) = w0 at *
    refine (impl_IsValidClause hT hbk).mono ?_
    rintro e w1 ⟨_, rfl, hb, rfl⟩
    replace hW := hW.trans (hb.mono hW.size)
    replace bT := bT.keep hb
    replace hT := Cl.at_keep (Keeps.all hb) hT
    clear hb
    rw [h]
    have eT0 := bT.c0
    have lT := bT.lt
    go_wp2_with fail
    clear eT0 lT
    go_ret2
    exact Gives.mk (by rw [HE.out, HS.out]; rfl) hW
end Go.Proofs.Ytiifibmahomdhaa
