/- Size, depth, number of nodes with a name, of expressions. -/
import Derived.Test.YtbbagaiolmbcnaaTv
namespace Go.Proofs.Ytbbagaiolmbcnaa
set_option maxRecDepth 100000
open Go.RowKit

set_option maxHeartbeats 1000000 in
theorem spec_IsValidTerm {t : Tm} {S : Nat → Prop} {c0 c1 : Value} {w : World} (hT : Tm.at S w c0 c1 t) (hbk : t.bulk ≤ 1048576) : Calls Try.prog 20 #[.agg #[c0, c1]] w (Gives w (.bool t.valid)) := by
  obtain ⟨rfl, hn, a, cap, rfl⟩ := Tm.at_form hT
  have hW : Below w.heap.size w (w.alloc (.cells #[.string t.name, .slice a t.args.length cap] 29)) := (Below.refl _ _).alloc (Nat.le_refl _) _
  have bT : Box (w.alloc (.cells #[.string t.name, .slice a t.args.length cap] 29)) w.heap.size [.string t.name, .slice a t.args.length cap] := Box.new w _ _
  replace hT := Tm.at_keep (Keeps.all hW) hT
  go_enter Try.func20, Try.ntmps20
  go_wp2_with fail
  generalize (w.alloc (.cells #[.string t.name, .slice a t.args.length cap] 29)) = w0 at *
  refine (l2Good_any t hT hbk).mono ?_
  rintro e w1 ⟨_, rfl, hb, rfl⟩
  replace hW := hW.trans (hb.mono hW.size)
  replace bT := bT.keep hb
  replace hT := Tm.at_keep (Keeps.all hb) hT
  clear hb
  have eT0 := bT.c0
  have eT1 := bT.c1
  have lT := bT.lt
  go_wp2_with fail
  clear eT0 eT1 lT
  go_ret
  exact Gives.mk rfl hW
theorem impl_IsValidTerm {t : Tm} {S : Nat → Prop} {c0 c1 : Value} {w : World} (hT : Tm.at S w c0 c1 t) (hbk : t.bulk ≤ 1048576) : Calls Try.prog 21 #[.agg #[c0, c1]] w (Gives w (.bool t.valid)) := isValidTerm_any t hT hbk
set_option maxHeartbeats 1000000 in
theorem spec_IsValidAtom {t : Tm} {S : Nat → Prop} {c0 c1 : Value} {w : World} (hT : Tm.at S w c0 c1 t) (hbk : t.bulk ≤ 1048576) : Calls Try.prog 22 #[.agg #[c0, c1]] w (Gives w (.bool t.atom)) := by
  obtain ⟨rfl, hn, a, cap, rfl⟩ := Tm.at_form hT
  have hW : Below w.heap.size w (w.alloc (.cells #[.string t.name, .slice a t.args.length cap] 29)) := (Below.refl _ _).alloc (Nat.le_refl _) _
  have bT : Box (w.alloc (.cells #[.string t.name, .slice a t.args.length cap] 29)) w.heap.size [.string t.name, .slice a t.args.length cap] := Box.new w _ _
  replace hT := Tm.at_keep (Keeps.all hW) hT
  go_enter Try.func22, Try.ntmps22
  go_wp2_with fail
  generalize (w.alloc (.cells #[.string t.name, .slice a t.args.length cap] 29)) = w0 at *
  refine (l2Atom_any t hT hbk).mono ?_
  rintro e w1 ⟨_, rfl, hb, rfl⟩
  replace hW := hW.trans (hb.mono hW.size)
  replace bT := bT.keep hb
  replace hT := Tm.at_keep (Keeps.all hb) hT
  clear hb
  have eT0 := bT.c0
  have eT1 := bT.c1
  have lT := bT.lt
  go_wp2_with fail
  clear eT0 eT1 lT
  go_ret
  exact Gives.mk rfl hW
theorem impl_IsValidAtom {t : Tm} {S : Nat → Prop} {c0 c1 : Value} {w : World} (hT : Tm.at S w c0 c1 t) (hbk : t.bulk ≤ 1048576) : Calls Try.prog 23 #[.agg #[c0, c1]] w (Gives w (.bool t.atom)) := isValidAtom_any t hT hbk

/-- the exact size -/
def SizeIs (t : Tm) : Prop := ∀ (S : Nat → Prop) (c0 c1 : Value) (w : World), Tm.at S w c0 c1 t → t.bulk ≤ 1048576 → Calls Try.prog 66 #[.agg #[c0, c1]] w (Gives w (.int .i64 t.size))
set_option maxHeartbeats 400000 in
theorem l2Size_of (n : ByteArray) (ts : List Tm) (h : ∀ t ∈ ts, SizeIs t) : SizeIs (.node n ts) := by
  intro S c0 c1 w hr hbk
  obtain ⟨rfl, hn, a, cap, rfl⟩ := Tm.at_form hr
  have hs := hr.2
  simp only [Tm.name, Tm.args] at hs hn ⊢
  clear hr
  obtain ⟨a', cap', he, hlen, hcap⟩ := Tm.sd_form hs
  injection he with e0 e1 e2
  subst e0 e2
  clear e1
  unfold big at hlen
  have hbs := Tm.size_bulk (.node n ts)
  have hsd : Hid ((Tm.node n ts).size = 1 + Tm.sizes ts) := by rw [Hid, Tm.size]
  go_enter Try.func66, Try.ntmps66
  go_wp2_with fail
  go_loopw [3, 4] (fun x i wr => ∃ (k r : Nat), k ≤ ts.length ∧ i = .int .i64 k ∧ x = .int .i64 r ∧ r ≤ 1048577 ∧ Hid (r = 1 + Tm.sizes (ts.take k)) ∧ Below (w.heap.size + 1) (w.alloc (.cells #[.string n, .slice a ts.length cap] 29)) wr) (fun _ i _ => ts.length - (intOf i).toNat)
  case atStart => exact ⟨0, 1, Nat.zero_le _, rfl, rfl, by omega, by simp [Hid, Tm.sizes], Below.refl _ _⟩
  case round =>
    obtain ⟨k, r, hk, rfl, rfl, hr1, HX, hb⟩ := hrel
    have hbw : Below w.heap.size w wr := ((Below.refl _ _).alloc (Nat.le_refl _) _).trans (hb.mono (by omega))
    have hz := hb.size
    simp only [World.size_alloc] at hz
    have hz0 : w.heap.size < wr.heap.size := by omega
    have e10 : wr.cell? ⟨w.heap.size, 0, none⟩ = some (.string n) := (hb.cell (by simp)).trans (box1 _ _ _ _)
    have e11 : wr.cell? ⟨w.heap.size, 1, none⟩ = some (.slice a ts.length cap) := (hb.cell (by simp)).trans (box1 _ _ _ _)
    by_cases hlt : k < ts.length
    · have hne : ts ≠ [] := by intro e; subst e; simp at hlt
      obtain ⟨b, off, rfl, hS, hbl, hrr⟩ := Tm.sd_get hs hne
      obtain ⟨c0, c1, q0, q1, q2⟩ := hrr k hlt
      obtain ⟨rfl, -, x, xc, rfl⟩ := Tm.at_form q2
      replace q0 := (hbw.cell (p := ⟨b, off + k * 2, none⟩) hbl).trans q0
      replace q1 := (hbw.cell (p := ⟨b, off + k * 2 + 1, none⟩) hbl).trans q1
      replace q2 := Tm.at_keep (Keeps.all hbw) q2
      have hmem := h ts[k] (List.getElem_mem hlt)
      clear hs hrr
      have hst := hid (Tm.sizes_take ts k hlt)
      have hsl := hid (Tm.sizes_le ts (k + 1))
      have hbm : ts[k].bulk ≤ 1048576 := by have := Tm.bulk_mem (List.getElem_mem hlt); rw [Tm.bulk] at hbk; omega
      have hsm : ts[k].size ≤ 1048577 := by have := Tm.size_bulk ts[k]; omega
      go_wp2_with fail
      refine (hmem _ _ _ _ q2 hbm).mono ?_
      rintro e w2 ⟨_, rfl, hb3, rfl⟩
      obtain ⟨r2, HR⟩ : ∃ r2, Hid (ts[k].size = r2) := ⟨_, hid rfl⟩
      rw [HR.out] at hsm ⊢
      have HS : Hid (r + r2 = 1 + Tm.sizes (ts.take (k + 1))) := by have := HX.out; have := HR.out; have := hst.out; show _ = _; omega
      have hr3 : r + r2 ≤ 1048577 := by have := HS.out; have := hsl.out; have := hsd.out; omega
      go_wp2_with fail
      go_roundw
      case rel => exact ⟨k + 1, r + r2, by omega, by go_num, by go_num, hr3, HS, hb.trans (hb3.mono hz)⟩
      case measure => simp [intOf]; omega
    · obtain rfl : k = ts.length := by omega
      have HS : Hid (r = (Tm.node n ts).size) := by rw [Hid, hsd.out]; have := HX.out; rwa [List.take_length] at this
      go_wp2_with fail
      go_ret
      exact Gives.mk (ret_i64 (by rw [← HS.out])) hbw
theorem l2Size_any (t : Tm) : SizeIs t := Tm.ind (fun n ts h => l2Size_of n ts h) t

/-- TermSize -/
def Tm.sizeR (t : Tm) : Nat := if t.expr then t.size else 0
def Tm.depthR (t : Tm) : Nat := if t.expr then t.depth else 0
theorem Tm.expr_small {t : Tm} (h : t.expr = true) : t.small = true := by
  rw [Tm.expr, Tm.atom_eq, Tm.valid] at h
  split at h <;> simp at h <;> rcases h with h | h <;> simp_all

set_option maxHeartbeats 1000000 in
theorem spec_TermSize {t : Tm} {S : Nat → Prop} {c0 c1 : Value} {w : World} (hT : Tm.at S w c0 c1 t) (hbk : t.bulk ≤ 1048576) : Calls Try.prog 26 #[.agg #[c0, c1]] w (Gives w (.tuple #[.int .i64 t.sizeR, .bool t.expr])) := by
  obtain ⟨rfl, hn, a, cap, rfl⟩ := Tm.at_form hT
  have hW : Below w.heap.size w (w.alloc (.cells #[.string t.name, .slice a t.args.length cap] 29)) := (Below.refl _ _).alloc (Nat.le_refl _) _
  have bT : Box (w.alloc (.cells #[.string t.name, .slice a t.args.length cap] 29)) w.heap.size [.string t.name, .slice a t.args.length cap] := Box.new w _ _
  replace hT := Tm.at_keep (Keeps.all hW) hT
  go_enter Try.func26, Try.ntmps26
  go_wp2_with fail
  generalize (w.alloc (.cells #[.string t.name, .slice a t.args.length cap] 29)) = w0 at *
  by_cases h : t.expr = true
  · have HS : Hid (t.size = t.sizeR) := by rw [Hid, Tm.sizeR, if_pos h]
    have HE := hid h
    refine (l2Any_any t hT hbk).mono ?_
    rintro e w1 ⟨_, rfl, hb, rfl⟩
    replace hW := hW.trans (hb.mono hW.size)
    replace bT := bT.keep hb
    replace hT := Tm.at_keep (Keeps.all hb) hT
    clear hb
    rw [h]
    have eT0 := bT.c0
    have eT1 := bT.c1
    have lT := bT.lt
    go_wp2_with fail
    clear eT0 eT1 lT
    clear h
    refine (l2Size_any t _ _ _ _ hT hbk).mono ?_
    rintro e w1 ⟨_, rfl, hb, rfl⟩
    replace hW := hW.trans (hb.mono hW.size)
    replace bT := bT.keep hb
    replace hT := Tm.at_keep (Keeps.all hb) hT
    clear hb
    have eT0 := bT.c0
    have eT1 := bT.c1
    have lT := bT.lt
    go_wp2_with fail
    clear eT0 eT1 lT
    go_ret2
    exact Gives.mk (by rw [HE.out, ← HS.out]; rfl) hW
  · replace h : t.expr = false := by simpa using h
    have HS : Hid (t.sizeR = 0) := by simp [Hid, Tm.sizeR, h]
    have HE := hid h
    refine (l2Any_any t hT hbk).mono ?_
    rintro e w1 ⟨_, rfl, hb, rfl⟩
    replace hW := hW.trans (hb.mono hW.size)
    replace bT := bT.keep hb
    replace hT := Tm.at_keep (Keeps.all hb) hT
    clear hb
    rw [h]
    have eT0 := bT.c0
    have eT1 := bT.c1
    have lT := bT.lt
    go_wp2_with fail
    clear eT0 eT1 lT
    go_ret2
    exact Gives.mk (by rw [HE.out, HS.out]; rfl) hW
set_option maxHeartbeats 1000000 in
theorem impl_TermSize {t : Tm} {S : Nat → Prop} {c0 c1 : Value} {w : World} (hT : Tm.at S w c0 c1 t) (hbk : t.bulk ≤ 1048576) : Calls Try.prog 27 #[.agg #[c0, c1]] w (Gives w (.tuple #[.int .i64 t.sizeR, .bool t.expr])) := by
  obtain ⟨rfl, hn, a, cap, rfl⟩ := Tm.at_form hT
  have hW : Below w.heap.size w (w.alloc (.cells #[.string t.name, .slice a t.args.length cap] 29)) := (Below.refl _ _).alloc (Nat.le_refl _) _
  have bT : Box (w.alloc (.cells #[.string t.name, .slice a t.args.length cap] 29)) w.heap.size [.string t.name, .slice a t.args.length cap] := Box.new w _ _
  replace hT := Tm.at_keep (Keeps.all hW) hT
  go_enter Try.func27, Try.ntmps27
  go_wp2_with fail
  generalize (w.alloc (.cells #[.string t.name, .slice a t.args.length cap] 29)) = w0 at *
  by_cases h : t.expr = true
  · have HS : Hid (t.size = t.sizeR) := by rw [Hid, Tm.sizeR, if_pos h]
    have hsm := hid (Tm.expr_small h)
    have HE := hid h
    refine (isExpression_any t hT hbk).mono ?_
    rintro e w1 ⟨_, rfl, hb, rfl⟩
    replace hW := hW.trans (hb.mono hW.size)
    replace bT := bT.keep hb
    replace hT := Tm.at_keep (Keeps.all hb) hT
    clear hb
    rw [h]
    have eT0 := bT.c0
    have eT1 := bT.c1
    have lT := bT.lt
    go_wp2_with fail
    clear eT0 eT1 lT
    clear h
    refine (implSize_any t _ _ _ _ hT hbk).mono ?_
    rintro e w1 ⟨r, rfl, hu, hb⟩
    replace hW := hW.trans (hb.mono hW.size)
    have HR : Hid (r = t.size) := by
      have h := hsm.out
      rw [Tm.small, Bool.and_eq_true, decide_eq_true_eq] at h
      exact hu.1 h.1
    clear hu hb
    go_wp2_with fail
    go_ret2
    exact Gives.mk (by rw [HE.out, ← HS.out, ← HR.out]; rfl) hW
  · replace h : t.expr = false := by simpa using h
    have HS : Hid (t.sizeR = 0) := by simp [Hid, Tm.sizeR, h]
    have HE := hid h
    refine (isExpression_any t hT hbk).mono ?_
    rintro e w1 ⟨_, rfl, hb, rfl⟩
    replace hW := hW.trans (hb.mono hW.size)
    replace bT := bT.keep hb
    replace hT := Tm.at_keep (Keeps.all hb) hT
    clear hb
    rw [h]
    have eT0 := bT.c0
    have eT1 := bT.c1
    have lT := bT.lt
    go_wp2_with fail
    clear eT0 eT1 lT
    go_ret2
    exact Gives.mk (by rw [HE.out, HS.out]; rfl) hW

set_option maxHeartbeats 1000000 in
theorem spec_TermDepth {t : Tm} {S : Nat → Prop} {c0 c1 : Value} {w : World} (hT : Tm.at S w c0 c1 t) (hbk : t.bulk ≤ 1048576) : Calls Try.prog 24 #[.agg #[c0, c1]] w (Gives w (.tuple #[.int .i64 t.depthR, .bool t.expr])) := by
  obtain ⟨rfl, hn, a, cap, rfl⟩ := Tm.at_form hT
  have hW : Below w.heap.size w (w.alloc (.cells #[.string t.name, .slice a t.args.length cap] 29)) := (Below.refl _ _).alloc (Nat.le_refl _) _
  have bT : Box (w.alloc (.cells #[.string t.name, .slice a t.args.length cap] 29)) w.heap.size [.string t.name, .slice a t.args.length cap] := Box.new w _ _
  replace hT := Tm.at_keep (Keeps.all hW) hT
  go_enter Try.func24, Try.ntmps24
  go_wp2_with fail
  generalize (w.alloc (.cells #[.string t.name, .slice a t.args.length cap] 29)) = w0 at *
  by_cases h : t.expr = true
  · have HS : Hid (t.depth = t.depthR) := by rw [Hid, Tm.depthR, if_pos h]
    have HE := hid h
    refine (l2Any_any t hT hbk).mono ?_
    rintro e w1 ⟨_, rfl, hb, rfl⟩
    replace hW := hW.trans (hb.mono hW.size)
    replace bT := bT.keep hb
    replace hT := Tm.at_keep (Keeps.all hb) hT
    clear hb
    rw [h]
    have eT0 := bT.c0
    have eT1 := bT.c1
    have lT := bT.lt
    go_wp2_with fail
    clear eT0 eT1 lT
    clear h
    refine (l2Depth_any t _ _ _ _ hT hbk).mono ?_
    rintro e w1 ⟨_, rfl, hb, rfl⟩
    replace hW := hW.trans (hb.mono hW.size)
    replace bT := bT.keep hb
    replace hT := Tm.at_keep (Keeps.all hb) hT
    clear hb
    have eT0 := bT.c0
    have eT1 := bT.c1
    have lT := bT.lt
    go_wp2_with fail
    clear eT0 eT1 lT
    go_ret2
    exact Gives.mk (by rw [HE.out, ← HS.out]; rfl) hW
  · replace h : t.expr = false := by simpa using h
    have HS : Hid (t.depthR = 0) := by simp [Hid, Tm.depthR, h]
    have HE := hid h
    refine (l2Any_any t hT hbk).mono ?_
    rintro e w1 ⟨_, rfl, hb, rfl⟩
    replace hW := hW.trans (hb.mono hW.size)
    replace bT := bT.keep hb
    replace hT := Tm.at_keep (Keeps.all hb) hT
    clear hb
    rw [h]
    have eT0 := bT.c0
    have eT1 := bT.c1
    have lT := bT.lt
    go_wp2_with fail
    clear eT0 eT1 lT
    go_ret2
    exact Gives.mk (by rw [HE.out, HS.out]; rfl) hW
set_option maxHeartbeats 1000000 in
theorem impl_TermDepth {t : Tm} {S : Nat → Prop} {c0 c1 : Value} {w : World} (hT : Tm.at S w c0 c1 t) (hbk : t.bulk ≤ 1048576) : Calls Try.prog 25 #[.agg #[c0, c1]] w (Gives w (.tuple #[.int .i64 t.depthR, .bool t.expr])) := by
  obtain ⟨rfl, hn, a, cap, rfl⟩ := Tm.at_form hT
  have hW : Below w.heap.size w (w.alloc (.cells #[.string t.name, .slice a t.args.length cap] 29)) := (Below.refl _ _).alloc (Nat.le_refl _) _
  have bT : Box (w.alloc (.cells #[.string t.name, .slice a t.args.length cap] 29)) w.heap.size [.string t.name, .slice a t.args.length cap] := Box.new w _ _
  replace hT := Tm.at_keep (Keeps.all hW) hT
  go_enter Try.func25, Try.ntmps25
  go_wp2_with fail
  generalize (w.alloc (.cells #[.string t.name, .slice a t.args.length cap] 29)) = w0 at *
  by_cases h : t.expr = true
  · have HS : Hid (t.depth = t.depthR) := by rw [Hid, Tm.depthR, if_pos h]
    have HE := hid h
    refine (isExpression_any t hT hbk).mono ?_
    rintro e w1 ⟨_, rfl, hb, rfl⟩
    replace hW := hW.trans (hb.mono hW.size)
    replace bT := bT.keep hb
    replace hT := Tm.at_keep (Keeps.all hb) hT
    clear hb
    rw [h]
    have eT0 := bT.c0
    have eT1 := bT.c1
    have lT := bT.lt
    go_wp2_with fail
    clear eT0 eT1 lT
    clear h
    refine (implDepth_any t _ _ _ _ hT hbk).mono ?_
    rintro e w1 ⟨_, rfl, hb, rfl⟩
    replace hW := hW.trans (hb.mono hW.size)
    replace bT := bT.keep hb
    replace hT := Tm.at_keep (Keeps.all hb) hT
    clear hb
    have eT0 := bT.c0
    have eT1 := bT.c1
    have lT := bT.lt
    go_wp2_with fail
    clear eT0 eT1 lT
    go_ret2
    exact Gives.mk (by rw [HE.out, ← HS.out]; rfl) hW
  · replace h : t.expr = false := by simpa using h
    have HS : Hid (t.depthR = 0) := by simp [Hid, Tm.depthR, h]
    have HE := hid h
    refine (isExpression_any t hT hbk).mono ?_
    rintro e w1 ⟨_, rfl, hb, rfl⟩
    replace hW := hW.trans (hb.mono hW.size)
    replace bT := bT.keep hb
    replace hT := Tm.at_keep (Keeps.all hb) hT
    clear hb
    rw [h]
    have eT0 := bT.c0
    have eT1 := bT.c1
    have lT := bT.lt
    go_wp2_with fail
    clear eT0 eT1 lT
    go_ret2
    exact Gives.mk (by rw [HE.out, HS.out]; rfl) hW
end Go.Proofs.Ytbbagaiolmbcnaa
