/- Several texts in one file. -/
import Derived.Test.YtglhbaigigdeeaaQ13
import Derived.Test.YtglhbaigigdeeaaQ14
import Derived.Test.YtglhbaigigdeeaaQ15
import Derived.Test.YtglhbaigigdeeaaQ06
import Derived.Test.YtglhbaigigdeeaaQ03
import Derived.Test.YtglhbaigigdeeaaQ01
/- The reference makes a substitution of what is known; MatchTerms of the reference. -/
namespace Go.Proofs.Ytglhbaigigdeeaa
set_option maxRecDepth 100000
open Go.RowKit

theorem D.rd_both {S : Nat → Prop} {w : World} : ∀ (d : D) (v : Value), D.rd S w v d → D.rd (fun x => S x ∧ x < w.heap.size) w v d := by
  refine D.ind (fun s v h => by rw [D.rd] at h ⊢; exact h) (fun n v h => by rw [D.rd] at h ⊢; exact h) (fun b v h => by rw [D.rd] at h ⊢; exact h) (fun n cs ih v h => ?_)
  rw [D.rd] at h ⊢
  obtain ⟨a, cap, h0, h1, h2, h3, h4⟩ := h
  refine ⟨a, cap, h0, h1, h2, h3, fun hne => ?_⟩
  obtain ⟨b, off, q0, q1, q2, q3⟩ := h4 hne
  refine ⟨b, off, q0, ⟨q1, q2⟩, q2, (D.rds_iff _ _).2 fun i hi => ?_⟩
  obtain ⟨v, r0, r1⟩ := (D.rds_iff _ _).1 q3 i hi
  exact ⟨v, r0, ih _ (List.getElem_mem hi) _ r1⟩
theorem pairsB_length (l : List Bnd) : (pairsB l).length ≤ l.length := by
  rw [(pairsB_perm l).length_eq]; exact List.length_filter_le _ _
theorem rd_nilB {S : Nat → Prop} {w : World} {a : Option Addr} {c : Nat} : D.rd S w (.slice a 0 c) (Bnd.sd []) := by
  rw [Bnd.sd_css, D.rd]
  exact ⟨_, _, rfl, by simp, by simp, by simp, by simp [Bnd.css]⟩

theorem Tm.names_bulk (t : Tm) : t.names = true → t.bulk ≤ 10 * t.size := by
  refine Tm.ind (P := fun t => t.names = true → t.bulk ≤ 10 * t.size) (fun n ts ih h => ?_) t
  have key : ∀ ts : List Tm, (∀ a ∈ ts, a.names = true → a.bulk ≤ 10 * a.size) → Tm.namesAll ts = true → Tm.bulks ts ≤ 10 * Tm.sizes ts := by
    intro ts
    induction ts with
    | nil => intro _ _; simp [Tm.bulks, Tm.sizes]
    | cons a ts iht =>
      intro h hn
      rw [Tm.namesAll, Bool.and_eq_true] at hn
      have h0 := h a (by simp) hn.1
      have h1 := iht (fun b hb => h b (by simp [hb])) hn.2
      rw [Tm.bulks, Tm.sizes]; omega
  rw [Tm.names] at h
  rw [Tm.bulk, Tm.size]
  split at h
  · rename_i hv
    simp only [varName, Bool.and_eq_true, decide_eq_true_eq] at hv
    cases ts with
    | nil => simp [Tm.bulks, Tm.sizes]; omega
    | cons a ts => simp at h
  · simp only [Bool.and_eq_true, decide_eq_true_eq, symName] at h
    have := key ts ih h.2
    omega
theorem Tm.expr_bulk {t : Tm} (h : t.expr = true) : t.bulk ≤ 300 ∧ t.size ≤ 30 := by
  have hs : t.size ≤ 30 := by
    rw [Tm.expr, Tm.atom_eq, Tm.valid] at h
    simp only [Tm.small] at h
    split at h <;> simp at h <;> omega
  refine ⟨?_, hs⟩
  rw [Tm.expr] at h
  rcases Bool.or_eq_true_iff.1 h with h | h
  · rw [Tm.valid, Bool.and_eq_true] at h
    have := Tm.names_bulk t h.2; omega
  · rw [Tm.atom_eq] at h
    split at h
    · rename_i he
      simp only [Bool.and_eq_true, decide_eq_true_eq] at h
      have key : ∀ ts : List Tm, Tm.namesAll ts = true → Tm.bulks ts ≤ 10 * Tm.sizes ts := by
        intro ts
        induction ts with
        | nil => intro _; simp [Tm.bulks, Tm.sizes]
        | cons a ts iht =>
          intro hn
          rw [Tm.namesAll, Bool.and_eq_true] at hn
          have h0 := Tm.names_bulk a hn.1
          have h1 := iht hn.2
          rw [Tm.bulks, Tm.sizes]; omega
      have h1 := key t.args h.2
      have h2 : t.size = 1 + Tm.sizes t.args := by cases t; rw [Tm.size]; rfl
      have h3 : t.bulk = t.name.size + t.args.length + Tm.bulks t.args := by cases t; rw [Tm.bulk]; rfl
      have h4 : t.name.size = 1 := by rw [he]; rfl
      omega
    · rw [Bool.and_eq_true, Tm.valid, Bool.and_eq_true] at h
      have := Tm.names_bulk t h.2.2; omega
theorem Bnd.bulks_le_each {xs : List Bnd} {m : Nat} (h : ∀ b ∈ xs, b.bulk ≤ m) : Bnd.bulks xs ≤ xs.length * m := by
  induction xs with
  | nil => simp [Bnd.bulks]
  | cons a xs ih =>
    have h0 := h a (by simp)
    have h1 := ih fun b hb => h b (by simp [hb])
    rw [Bnd.bulks, List.length_cons, Nat.add_mul, Nat.one_mul]; omega
/-- what is known of a match is small -/
theorem known_small {t u : Tm} (ht : t.expr = true) (hu : u.expr = true) {l : List Bnd} (h : Tm.mat t u [] = some l) : (⟨pairsB l⟩ : Sb).bulk ≤ 20000 := by
  obtain ⟨h1, h2⟩ := Tm.expr_bulk ht
  obtain ⟨h3, h4⟩ := Tm.expr_bulk hu
  have hl := Tm.mat_length t u [] l h
  have hp := pairsB_length l
  have hb : ∀ b ∈ pairsB l, b.bulk ≤ 600 := fun b hb => by
    have hm := (List.mem_filter.1 ((pairsB_perm l).mem_iff.1 hb)).1
    exact Tm.mat_all (P := fun b => b.bulk ≤ 600) t u [] l (fun n _ hs v hv => by simp only [Bnd.bulk]; omega) (by simp) h b hm
  have := Bnd.bulks_le_each hb
  rw [Sb.bulk]
  simp only [List.length_nil, Nat.zero_add] at hl
  have : (pairsB l).length * 600 ≤ 30 * 600 := Nat.mul_le_mul_right _ (by omega)
  simp only
  omega

/-- what MatchTerms returns -/
def matchS (t u : Tm) : Option (List Bnd) := if (t.expr && u.expr) = true then match Tm.mat t u [] with
  | some l => if (⟨pairsB l⟩ : Sb).valid = true then some (pairsB l) else none
  | none => none
  else none
def matchR (t u : Tm) : Sb := ⟨(matchS t u).getD []⟩
def matchOk (t u : Tm) : Bool := (matchS t u).isSome
theorem matchS_no {t u : Tm} (h : (t.expr && u.expr) = false) : matchS t u = none := by rw [matchS, h, if_neg (by decide)]
theorem matchS_none {t u : Tm} (h : Tm.mat t u [] = none) : matchS t u = none := by rw [matchS, h]; split <;> rfl
theorem matchS_bad {t u : Tm} {l : List Bnd} (h : Tm.mat t u [] = some l) (hv : (⟨pairsB l⟩ : Sb).valid = false) : matchS t u = none := by
  rw [matchS, h]; simp only [hv, Bool.false_eq_true, if_false, ite_self]
theorem matchS_some {t u : Tm} {l : List Bnd} (he : (t.expr && u.expr) = true) (h : Tm.mat t u [] = some l) (hv : (⟨pairsB l⟩ : Sb).valid = true) : matchS t u = some (pairsB l) := by
  rw [matchS, h, if_pos he]; simp only [hv, if_true]
theorem matchR_bulk (t u : Tm) : (matchR t u).bulk ≤ 20000 := by
  rw [matchR, matchS]
  split
  · rename_i he
    rw [Bool.and_eq_true] at he
    split
    · rename_i l hl
      split
      · exact known_small he.1 he.2 hl
      · simp [Sb.bulk, Bnd.bulks]
    · simp [Sb.bulk, Bnd.bulks]
  · simp [Sb.bulk, Bnd.bulks]

/-- a result of which the call owns the memory, as far as reading tells, and a bool -/
def RdN (mk : Value → Value) (d : D) (ok : Bool) (w : World) (e : Ending) (w' : World) : Prop := ∃ v, e = .returned (.tuple #[mk v, .bool ok]) ∧ D.rd (fun x => w.heap.size ≤ x) w' v d ∧ Below w.heap.size w w'

set_option maxHeartbeats 4000000 in
theorem l4Pairs_any {l : List Bnd} {v : Value} {w : World} (hv : D.rd (fun _ => True) w v (Bnd.sd l)) (hl : l.length ≤ 1073741824) (hsm : Smalls l) :
    Calls Try.prog 22 #[v] w (Yields w (IsBs (fun x => w.heap.size ≤ x) (pairsB l))) := by
  have HV := hid hv
  have HSM := hid hsm
  obtain ⟨a, c, rfl, hlb, hlc⟩ := Bnd.sd_form hv
  unfold big at hlb
  clear hv hsm
  have hW : Below w.heap.size w ((w.alloc (.cells #[.slice none 0 0] 28)).alloc (.cells #[.slice none 0 0] 28)) := ((Below.refl _ _).alloc (Nat.le_refl _) _).alloc (by simp) _
  have rb : Box ((w.alloc (.cells #[.slice none 0 0] 28)).alloc (.cells #[.slice none 0 0] 28)) w.heap.size [.slice none 0 0] := (Box.new w [Value.slice none 0 0] 28).alloc _
  have ob : Box ((w.alloc (.cells #[.slice none 0 0] 28)).alloc (.cells #[.slice none 0 0] 28)) (w.heap.size + 1) [.slice none 0 0] := by
    have := Box.new (w.alloc (.cells #[.slice none 0 0] 28)) [Value.slice none 0 0] 28
    simpa only [World.size_alloc] using this
  have rf : ((w.alloc (.cells #[.slice none 0 0] 28)).alloc (.cells #[.slice none 0 0] 28)).frozen? ⟨w.heap.size, 0, none⟩ = false := (World.frozen?_alloc_past _ _ 0 (by simp)).trans (World.frozen?_alloc_at _ _ _ 0 (by simp))
  have of : ((w.alloc (.cells #[.slice none 0 0] 28)).alloc (.cells #[.slice none 0 0] 28)).frozen? ⟨w.heap.size + 1, 0, none⟩ = false := World.frozen?_alloc_at _ _ _ 0 (by simp)
  have HW0 : Hid (((w.alloc (.cells #[.slice none 0 0] 28)).alloc (.cells #[.slice none 0 0] 28)).heap.size = w.heap.size + 1 + 1) := by simp [Hid]
  go_enter Try.func22, Try.ntmps22
  go_wp2_with fail
  generalize ((w.alloc (.cells #[.slice none 0 0] 28)).alloc (.cells #[.slice none 0 0] 28)) = w0 at *
  go_loopw [4] (fun i wr => ∃ (k : Nat) (v' : Value), k ≤ l.length ∧ i = .int .i64 k ∧ wr.cell? ⟨w.heap.size + 1, 0, none⟩ = some v' ∧ wr.frozen? ⟨w.heap.size + 1, 0, none⟩ = false ∧ Hid (D.rd (fun x => w.heap.size + 1 + 1 ≤ x) wr v' (Bnd.sd (pairsB (l.take k)))) ∧ Hid (ShpB v') ∧ Hid (Below (w.heap.size + 1) w0 wr) ∧ w.heap.size + 1 + 1 ≤ wr.heap.size) (fun i _ => l.length - (intOf i).toNat)
  case atStart => exact ⟨0, .slice none 0 0, Nat.zero_le _, rfl, ob.c0, of, rd_nilB, .inl rfl, Below.refl _ _, by rw [HW0.out]; exact Nat.le_refl _⟩
  case round =>
    obtain ⟨k, v', hk, rfl, x0, x1, HR, HSH, HB, hz⟩ := hrel
    have hw0 := hW.size
    have HWB : Hid (Below w.heap.size w wr) := hW.trans (HB.out.mono (Nat.le_succ _))
    by_cases hlt : k < l.length
    · have hne : l ≠ [] := by intro e; subst e; simp at hlt
      obtain ⟨b, off, rfl, hSb, hbl, hrr⟩ := Bnd.sd_get HV.out hne
      obtain ⟨c0, c1, c2, q0, q1, q2, qx⟩ := hrr k hlt
      have hvl := Bnd.var_le qx
      have hqx := hid (Tm.at_keep (Keeps.all HWB.out) (Bnd.at_term qx))
      obtain ⟨rfl, rfl, xa, xc, rfl⟩ := Bnd.at_form qx
      have p0 := (HWB.out.cell (p := ⟨b, off + k * 3, none⟩) hbl).trans q0
      have p1 := (HWB.out.cell (p := ⟨b, off + k * 3 + 1, none⟩) hbl).trans q1
      have p2 := (HWB.out.cell (p := ⟨b, off + k * 3 + 1 + 1, none⟩) hbl).trans q2
      have hblr : b < wr.heap.size := Nat.lt_of_lt_of_le hbl HWB.out.size
      have hT0 : (0 : Int) ≤ (k : Int) := by omega
      have hol : w.heap.size + 1 < wr.heap.size := hz
      have hpl := pairsB_length (l.take k)
      rw [List.length_take] at hpl
      have hput := l4Put_any (bs := pairsB (l.take k)) (n := l[k].var) (t := l[k].term) (v := v') (w := wr.drew) (D.rd_keep (Keeps.all ((Below.refl _ _).drew)) _ _ (D.rd_both _ _ HR.out)) HSH.out (fun x hx => hx.2) hvl (Tm.at_keep (Keeps.all ((Below.refl _ _).drew)) hqx.out) (HSM.out _ (List.getElem_mem hlt)) (by omega)
      rw [← pairsB_snoc l k hlt] at hput
      have HPUT := hid hput
      have nn : ¬ (none : Option Nat) = some (w.heap.size + 1) := fun e => by cases e
      have nb : ¬ (none : Option Nat) = some b := fun e => by cases e
      have HNB : Hid (b < w.heap.size) := hbl
      clear hrr qx q0 q1 q2 hput hpl hbl
      go_wp2_with fail
      refine region_late (l := [_, _, _, _, _, _, _, _, _, _, _, _]) (tl := [_]) (S := fun w1 => (wr).grownBy w1 (none)) (n := 12) rfl rfl (by kernel_rfl) (by kernel_rfl) (grown_of_below ((Below.refl _ _).drew) _) (fun hQL hS => ?_)
      refine late_take (i := 0) (d := some 12) (v := .agg #[v']) rfl rfl (by kernel_rfl) (by kernel_rfl) (by kernel_rfl) hQL (by rfl) (fun w1 hS1 => (by obtain ⟨hc, hf⟩ := bcellG hS1; go_simp)) hS ?_
      try simp only [Act.put, List.setIfInBounds_toArray, List.set_cons_zero, List.set_cons_succ]
      refine late_take (i := 1) (d := some 13) (v := .slice (some ⟨b, off, none⟩) l.length c) rfl rfl (by kernel_rfl) (by kernel_rfl) (by kernel_rfl) hQL (by rfl) (fun w1 _ => (by go_simp)) hS ?_
      try simp only [Act.put, List.setIfInBounds_toArray, List.set_cons_zero, List.set_cons_succ]
      refine late_take (i := 2) (d := some 14) (v := .int .i64 k) rfl rfl (by kernel_rfl) (by kernel_rfl) (by kernel_rfl) hQL (by rfl) (fun w1 _ => (by go_simp)) hS ?_
      try simp only [Act.put, List.setIfInBounds_toArray, List.set_cons_zero, List.set_cons_succ]
      refine late_take (i := 3) (d := some 15) (v := .pointer (some ⟨b, off + k * 3, none⟩)) rfl rfl (by kernel_rfl) (by kernel_rfl) (by kernel_rfl) hQL (by rfl) (fun w1 _ => (by go_simp)) hS ?_
      try simp only [Act.put, List.setIfInBounds_toArray, List.set_cons_zero, List.set_cons_succ]
      refine late_take (i := 4) (d := some 16) (v := .pointer (some ⟨b, off + k * 3, none⟩)) rfl rfl (by kernel_rfl) (by kernel_rfl) (by kernel_rfl) hQL (by rfl) (fun w1 _ => (by go_simp)) hS ?_
      try simp only [Act.put, List.setIfInBounds_toArray, List.set_cons_zero, List.set_cons_succ]
      refine late_take (i := 5) (d := some 17) (v := .string l[k].var) rfl rfl (by kernel_rfl) (by kernel_rfl) (by kernel_rfl) hQL (by rfl) (fun w1 hS1 => (by obtain ⟨hc, hf⟩ := bcellG hS1; go_simp)) hS ?_
      try simp only [Act.put, List.setIfInBounds_toArray, List.set_cons_zero, List.set_cons_succ]
      refine late_take (i := 6) (d := some 18) (v := .slice (some ⟨b, off, none⟩) l.length c) rfl rfl (by kernel_rfl) (by kernel_rfl) (by kernel_rfl) hQL (by rfl) (fun w1 _ => (by go_simp)) hS ?_
      try simp only [Act.put, List.setIfInBounds_toArray, List.set_cons_zero, List.set_cons_succ]
      refine late_take (i := 7) (d := some 19) (v := .int .i64 k) rfl rfl (by kernel_rfl) (by kernel_rfl) (by kernel_rfl) hQL (by rfl) (fun w1 _ => (by go_simp)) hS ?_
      try simp only [Act.put, List.setIfInBounds_toArray, List.set_cons_zero, List.set_cons_succ]
      refine late_take (i := 8) (d := some 20) (v := .pointer (some ⟨b, off + k * 3, none⟩)) rfl rfl (by kernel_rfl) (by kernel_rfl) (by kernel_rfl) hQL (by rfl) (fun w1 _ => (by go_simp)) hS ?_
      try simp only [Act.put, List.setIfInBounds_toArray, List.set_cons_zero, List.set_cons_succ]
      refine late_take (i := 9) (d := some 21) (v := .pointer (some ⟨b, off + k * 3 + 1, none⟩)) rfl rfl (by kernel_rfl) (by kernel_rfl) (by kernel_rfl) hQL (by rfl) (fun w1 _ => (by go_simp)) hS ?_
      try simp only [Act.put, List.setIfInBounds_toArray, List.set_cons_zero, List.set_cons_succ]
      refine late_take (i := 10) (d := some 22) (v := .agg #[.string l[k].term.name, .slice xa l[k].term.args.length xc]) rfl rfl (by kernel_rfl) (by kernel_rfl) (by kernel_rfl) hQL (by rfl) (fun w1 hS1 => (by obtain ⟨hc, hf⟩ := bcellG hS1; go_simp)) hS ?_
      try simp only [Act.put, List.setIfInBounds_toArray, List.set_cons_zero, List.set_cons_succ]
      refine wpAnyH_ready (rs := [11]) (by kernel_rfl) (by simp) ?_
      refine AllReadyH.cons rfl (fun K hK => ?_) AllReadyH.nil
      refine step_does rfl ?_
      unfold Does
      go_simp
      go_at_call 36
      refine HPUT.out.mono ?_
      rintro e w1 ⟨u, rfl, hb1, v2, rfl, hr2, hs2⟩
      obtain ⟨a2, c2, rfl, -, -⟩ := Bnd.sd_form hr2
      refine ⟨_, rfl, ?_⟩
      refine hK.out _ _ (World.grownBy.trans hS (grown_of_below hb1 _)) (fun hS => ?_)
      try show wpAnyH _ _ _ _ _ _ _ (Act.put _ (some 23) _) _
      try simp only [Act.put, List.setIfInBounds_toArray, List.set_cons_zero, List.set_cons_succ]
      refine wpAnyH_done (by kernel_rfl) ?_ _
      show wpTail _ _ _ _ _
      refine wpTail_step rfl (fun K hK => ?_)
      obtain ⟨hc, hf⟩ := bcellG hS
      go_simp
      refine hK.out _ _ ?_
      try clear hc hf
      refine wpTail_nil ?_
      have hz1 := hb1.size
      have HB1 : Hid (Below w0.heap.size w0 w0) := Below.refl _ _
      have HBR : Hid (Below (w.heap.size + 1) w0 w1) := HB.out.trans (((Below.refl _ _).drew.trans hb1).mono (Nat.le_of_lt hz))
      have y0 := ((bcellG hS).1 (w.heap.size + 1) 0 hol nn).trans x0
      have y1 := ((bcellG hS).2 (w.heap.size + 1) 0 hol nn).trans x1
      have HR2 := hid hr2
      have HS2 := hid hs2
      have hz2 : w.heap.size + 1 + 1 ≤ w1.heap.size := Nat.le_trans hz hz1
      clear hb1 hr2 hs2 hS x0 x1
      go_wp2_with fail
      go_roundw
      case rel =>
        refine ⟨k + 1, _, by omega, by go_num, World.cell?_setCell_same _ _ _ y0, by rw [World.frozen?_setCell]; exact y1, hid (D.rd_keep ((Keeps.refl _ _).setCell (fun q _ => ?_) _) _ _ (D.rd_mono (fun x hx => ?_) _ _ HR2.out)), HS2, hid (HBR.out.setCell (Nat.le_refl _) _), by rw [World.size_setCell]; exact hz2⟩
        · have q' : w.heap.size + 1 + 1 ≤ w.heap.size + 1 := q
          omega
        · rcases hx with hx | hx
          · exact hx.1
          · exact Nat.le_trans hz hx
      case measure => simp [intOf]; omega
    · obtain rfl : k = l.length := by omega
      have HR' := HR.out
      rw [List.take_length] at HR'
      have HRF := hid HR'
      obtain ⟨a2, c2, rfl, -, -⟩ := Bnd.sd_form HR'
      have r0 : wr.cell? ⟨w.heap.size, 0, none⟩ = some (.slice none 0 0) := (HB.out.cell (p := ⟨w.heap.size, 0, none⟩) (Nat.lt_succ_self _)).trans rb.c0
      have r1 : wr.frozen? ⟨w.heap.size, 0, none⟩ = false := (HB.out.frozen (p := ⟨w.heap.size, 0, none⟩) (Nat.lt_succ_self _)).trans rf
      clear HR'
      go_wp2_with fail
      refine bodyPost_ret (v := .agg #[.slice a2 (pairsB l).length c2]) (by simp [results, Try.results22, go_sem, r0]) rfl ?_
      refine ⟨_, rfl, HWB.out.setCell (Nat.le_refl _) _, _, rfl, D.rd_mono (fun x (hx : w.heap.size + 1 + 1 ≤ x) => (by omega : w.heap.size ≤ x)) _ _ (D.rd_keep ((Keeps.refl _ _).setCell (fun q _ => ?_) _) _ _ HRF.out), HSH.out⟩
      have q' : w.heap.size + 1 + 1 ≤ w.heap.size := q
      omega

theorem RdN.no {t u : Tm} {w w0 : World} (hb : Below w.heap.size w w0) (h : matchS t u = none) : RdN (fun v => .agg #[v]) (Bnd.sd (matchR t u).bs) (matchOk t u) w (.returned (.tuple #[.agg #[.slice none 0 0], .bool false])) w0 :=
  ⟨.slice none 0 0, by rw [matchOk, h]; rfl, by rw [matchR, h]; exact rd_nilB, hb⟩
set_option maxHeartbeats 4000000 in
theorem spec_MatchTerms {t u : Tm} {S S' : Nat → Prop} {c0 c1 d0 d1 : Value} {w : World} (ht : Tm.at S w c0 c1 t) (hbt : t.bulk ≤ 1048576) (hu : Tm.at S' w d0 d1 u) (hbu : u.bulk ≤ 1048576) :
    Calls Try.prog 7 #[.agg #[c0, c1], .agg #[d0, d1]] w (RdN (fun v => .agg #[v]) (Bnd.sd (matchR t u).bs) (matchOk t u) w) := by
  by_cases h1 : t.expr = true
  · have HE := hid h1
    by_cases h2 : u.expr = true
    · have HE2 := hid h2
      have HEE : Hid ((t.expr && u.expr) = true) := by rw [Hid, h1, h2]; rfl
      have hb1 := Tm.expr_bulk h1
      have hb2 := Tm.expr_bulk h2
      clear h1 h2
      replace ht := Tm.at_lt ht
      replace hu := Tm.at_lt hu
      obtain ⟨rfl, tn, ta, tc, rfl⟩ := Tm.at_form ht
      obtain ⟨rfl, un, ua, uc, rfl⟩ := Tm.at_form hu
      have hW : Below w.heap.size w (((w.alloc (.cells #[.string t.name, .slice ta t.args.length tc] 33)).alloc (.cells #[.string u.name, .slice ua u.args.length uc] 33)).alloc (.cells #[.slice none 0 0] 28)) := (((Below.refl _ _).alloc (Nat.le_refl _) _).alloc (by simp) _).alloc (by simp; omega) _
      have bt : Box (((w.alloc (.cells #[.string t.name, .slice ta t.args.length tc] 33)).alloc (.cells #[.string u.name, .slice ua u.args.length uc] 33)).alloc (.cells #[.slice none 0 0] 28)) (w.heap.size) [.string t.name, .slice ta t.args.length tc] := by
        have := (((Box.new w [.string t.name, .slice ta t.args.length tc] 33).alloc (.cells #[.string u.name, .slice ua u.args.length uc] 33)).alloc (.cells #[.slice none 0 0] 28))
        simpa only [World.size_alloc] using this
      have bu : Box (((w.alloc (.cells #[.string t.name, .slice ta t.args.length tc] 33)).alloc (.cells #[.string u.name, .slice ua u.args.length uc] 33)).alloc (.cells #[.slice none 0 0] 28)) (w.heap.size + 1) [.string u.name, .slice ua u.args.length uc] := by
        have := ((Box.new (w.alloc (.cells #[.string t.name, .slice ta t.args.length tc] 33)) [.string u.name, .slice ua u.args.length uc] 33).alloc (.cells #[.slice none 0 0] 28))
        simpa only [World.size_alloc] using this
      have rb : Box (((w.alloc (.cells #[.string t.name, .slice ta t.args.length tc] 33)).alloc (.cells #[.string u.name, .slice ua u.args.length uc] 33)).alloc (.cells #[.slice none 0 0] 28)) (w.heap.size + 1 + 1) [.slice none 0 0] := by
        have := (Box.new ((w.alloc (.cells #[.string t.name, .slice ta t.args.length tc] 33)).alloc (.cells #[.string u.name, .slice ua u.args.length uc] 33)) [.slice none 0 0] 28)
        simpa only [World.size_alloc] using this
      have rf : ∀ p, (((w.alloc (.cells #[.string t.name, .slice ta t.args.length tc] 33)).alloc (.cells #[.string u.name, .slice ua u.args.length uc] 33)).alloc (.cells #[.slice none 0 0] 28)).frozen? ⟨w.heap.size + 1 + 1, p, none⟩ = false := fun p => World.frozen?_alloc_at _ _ _ p (by simp)
      replace ht := Tm.at_keep (Keeps.all hW) ht
      replace hu := Tm.at_keep (Keeps.all hW) hu
      have et0 := bt.c0
      have et1 := bt.c1
      have lt := bt.lt
      have eu0 := bu.c0
      have eu1 := bu.c1
      have lu := bu.lt
      have re0 := rb.c0
      have rf0 := rf 0
      have rl := rb.lt
      go_enter Try.func7, Try.ntmps7
      go_wp2_with fail
      clear et0 et1 lt eu0 eu1 lu re0 rf0 rl
      have Hw0 : Hid ((((w.alloc (.cells #[.string t.name, .slice ta t.args.length tc] 33)).alloc (.cells #[.string u.name, .slice ua u.args.length uc] 33)).alloc (.cells #[.slice none 0 0] 28)).heap.size = w.heap.size + 1 + 1 + 1) := by simp [Hid]
      generalize (((w.alloc (.cells #[.string t.name, .slice ta t.args.length tc] 33)).alloc (.cells #[.string u.name, .slice ua u.args.length uc] 33)).alloc (.cells #[.slice none 0 0] 28)) = w0 at *
      refine (l2Any_any t ht hbt).mono ?_
      rintro e w1 ⟨_, rfl, hb, rfl⟩
      replace hW := hW.trans (hb.mono hW.size)
      replace bt := bt.keep hb
      replace ht := Tm.at_keep (Keeps.all hb) ht
      replace bu := bu.keep hb
      replace hu := Tm.at_keep (Keeps.all hb) hu
      replace rf := fun p => (hb.frozen (p := ⟨_, p, none⟩) rb.lt).trans (rf p)
      replace rb := rb.keep hb
      clear hb
      rw [HE.out]
      have et0 := bt.c0
      have et1 := bt.c1
      have lt := bt.lt
      have eu0 := bu.c0
      have eu1 := bu.c1
      have lu := bu.lt
      have re0 := rb.c0
      have rf0 := rf 0
      have rl := rb.lt
      go_wp2_with fail
      clear et0 et1 lt eu0 eu1 lu re0 rf0 rl
      refine (l2Any_any u hu hbu).mono ?_
      rintro e w1 ⟨_, rfl, hb, rfl⟩
      replace hW := hW.trans (hb.mono hW.size)
      replace bt := bt.keep hb
      replace ht := Tm.at_keep (Keeps.all hb) ht
      replace bu := bu.keep hb
      replace hu := Tm.at_keep (Keeps.all hb) hu
      replace rf := fun p => (hb.frozen (p := ⟨_, p, none⟩) rb.lt).trans (rf p)
      replace rb := rb.keep hb
      clear hb
      rw [HE2.out]
      have et0 := bt.c0
      have et1 := bt.c1
      have lt := bt.lt
      have eu0 := bu.c0
      have eu1 := bu.c1
      have lu := bu.lt
      have re0 := rb.c0
      have rf0 := rf 0
      have rl := rb.lt
      go_wp2_with fail
      clear et0 et1 lt eu0 eu1 lu re0 rf0 rl
      have hA : Below w1.heap.size w1 (w1.alloc (.cells #[] 56)) := (Below.refl _ _).alloc (Nat.le_refl _) _
      have hq := matS_any t u [] (.slice (some ⟨w1.heap.size, 0, none⟩) 0 0) w1.heap.size (· < w.heap.size) _ _ _ _ (w1.alloc (.cells #[] 56)) (Rv.made 56 3 rfl (Nat.le_refl _)) (by rw [World.size_alloc]; omega) (fun x hx => Nat.lt_of_lt_of_le hx hW.size) (Tm.at_keep (Keeps.all hA) ht) (Tm.at_keep (Keeps.all hA) hu) (by simp; omega) (by intro b hb; simp at hb) hbu
      obtain ⟨o, Ho⟩ : ∃ o, Hid (Tm.mat t u [] = o) := ⟨_, hid rfl⟩
      rw [Ho.out] at hq
      refine hq.mono ?_
      rintro e w2 ⟨hg, -, v2, rfl, -, hsome, hnone⟩
      have hb : Below w1.heap.size w1 w2 := below_grown hA hg (by rw [World.size_alloc]; omega) (fun k hk => Nat.le_of_eq (Option.some.inj hk))
      replace hW := hW.trans (hb.mono hW.size)
      replace bt := bt.keep hb
      replace ht := Tm.at_keep (Keeps.all hb) ht
      replace bu := bu.keep hb
      replace hu := Tm.at_keep (Keeps.all hb) hu
      replace rf := fun p => (hb.frozen (p := ⟨_, p, none⟩) rb.lt).trans (rf p)
      replace rb := rb.keep hb
      clear hq hg hb hA
      cases o with
      | none =>
        have HM : Hid (matchS t u = none) := matchS_none Ho.out
        obtain ⟨l, hrd, hll, hsm⟩ := hnone rfl
        have hpq := l4Pairs_any hrd hll hsm
        obtain ⟨a2, c2, rfl, -, -⟩ := Bnd.sd_form hrd
        clear hsome hnone hrd
        have et0 := bt.c0
        have et1 := bt.c1
        have lt := bt.lt
        have eu0 := bu.c0
        have eu1 := bu.c1
        have lu := bu.lt
        have re0 := rb.c0
        have rf0 := rf 0
        have rl := rb.lt
        go_wp2_with fail
        clear et0 et1 lt eu0 eu1 lu re0 rf0 rl
        refine hpq.mono ?_
        rintro e w3 ⟨_, rfl, hb, v3, rfl, hr3, hs3⟩
        obtain ⟨a3, c3, rfl, -, -⟩ := Bnd.sd_form hr3
        replace hW := hW.trans (hb.mono hW.size)
        replace bt := bt.keep hb
        replace ht := Tm.at_keep (Keeps.all hb) ht
        replace bu := bu.keep hb
        replace hu := Tm.at_keep (Keeps.all hb) hu
        replace rf := fun p => (hb.frozen (p := ⟨_, p, none⟩) rb.lt).trans (rf p)
        replace rb := rb.keep hb
        clear hb hpq
        have et0 := bt.c0
        have et1 := bt.c1
        have lt := bt.lt
        have eu0 := bu.c0
        have eu1 := bu.c1
        have lu := bu.lt
        have re0 := rb.c0
        have rf0 := rf 0
        have rl := rb.lt
        go_wp2_with fail
        refine bodyPost_ret (v := .tuple #[.agg #[.slice none 0 0], .bool false]) (by simp [results, Try.results7, go_sem, re0, rl]; try rfl) rfl ?_
        exact RdN.no ((hW.setCell (by show w.heap.size ≤ w.heap.size + 1 + 1; omega) _).alloc (by rw [World.size_setCell]; exact hW.size) _) HM.out
      | some l =>
        have hll := Tm.mat_length t u [] l Ho.out
        have hsm : Smalls l := Tm.mat_all (P := fun b => b.term.bulk ≤ 1048576) t u [] l (fun n _ _ v hv => by simp only; omega) (by simp) Ho.out
        have hrd := D.rd_all (Bnd.rd_of (hsome l rfl))
        have hpq := l4Pairs_any hrd (by simp at hll; omega) hsm
        obtain ⟨a2, c2, rfl, -, -⟩ := Bnd.sd_form hrd
        clear hsome hnone hrd
        have et0 := bt.c0
        have et1 := bt.c1
        have lt := bt.lt
        have eu0 := bu.c0
        have eu1 := bu.c1
        have lu := bu.lt
        have re0 := rb.c0
        have rf0 := rf 0
        have rl := rb.lt
        go_wp2_with fail
        clear et0 et1 lt eu0 eu1 lu re0 rf0 rl
        refine hpq.mono ?_
        rintro e w3 ⟨_, rfl, hb, v3, rfl, hr3, hs3⟩
        obtain ⟨a3, c3, rfl, -, -⟩ := Bnd.sd_form hr3
        have hzz := hW.size
        have hrr := rb.lt
        replace hW := hW.trans (hb.mono hW.size)
        replace bt := bt.keep hb
        replace ht := Tm.at_keep (Keeps.all hb) ht
        replace bu := bu.keep hb
        replace hu := Tm.at_keep (Keeps.all hb) hu
        replace rf := fun p => (hb.frozen (p := ⟨_, p, none⟩) rb.lt).trans (rf p)
        replace rb := rb.keep hb
        clear hb hpq
        have hb : Below w3.heap.size w3 (w3.alloc (.cells #[.slice a3 (pairsB l).length c3] 28)) := (Below.refl _ _).alloc (Nat.le_refl _) _
        have hbs : Box (w3.alloc (.cells #[.slice a3 (pairsB l).length c3] 28)) w3.heap.size [.slice a3 (pairsB l).length c3] := Box.new _ _ _
        have HR3 := hid (D.rd_keep (Keeps.all hb) _ _ hr3)
        have et0 := bt.c0
        have et1 := bt.c1
        have lt := bt.lt
        have eu0 := bu.c0
        have eu1 := bu.c1
        have lu := bu.lt
        have re0 := rb.c0
        have rf0 := rf 0
        have rl := rb.lt
        go_wp2_with fail
        clear et0 et1 lt eu0 eu1 lu re0 rf0 rl
        replace hW := hW.trans (hb.mono hW.size)
        replace bt := bt.keep hb
        replace ht := Tm.at_keep (Keeps.all hb) ht
        replace bu := bu.keep hb
        replace hu := Tm.at_keep (Keeps.all hb) hu
        replace rf := fun p => (hb.frozen (p := ⟨_, p, none⟩) rb.lt).trans (rf p)
        replace rb := rb.keep hb
        clear hb hr3
        generalize (w3.alloc (.cells #[.slice a3 (pairsB l).length c3] 28)) = w4 at *
        refine (l4Good_any (x := ⟨pairsB l⟩) (S := fun x => w2.heap.size ≤ x) HR3.out (Nat.le_trans (known_small HE.out HE2.out Ho.out) (by decide))).mono ?_
        rintro e w5 ⟨_, rfl, hb, rfl⟩
        have hbs0 := (hbs.keep hb).c0
        have HR5 := hid (D.rd_keep (Keeps.all hb) _ _ HR3.out)
        replace hW := hW.trans (hb.mono hW.size)
        replace bt := bt.keep hb
        replace ht := Tm.at_keep (Keeps.all hb) ht
        replace bu := bu.keep hb
        replace hu := Tm.at_keep (Keeps.all hb) hu
        replace rf := fun p => (hb.frozen (p := ⟨_, p, none⟩) rb.lt).trans (rf p)
        replace rb := rb.keep hb
        clear hb
        by_cases hv : (⟨pairsB l⟩ : Sb).valid = true
        · have HS : Hid (matchS t u = some (pairsB l)) := matchS_some HEE.out Ho.out hv
          rw [hv]
          clear hv
          have et0 := bt.c0
          have et1 := bt.c1
          have lt := bt.lt
          have eu0 := bu.c0
          have eu1 := bu.c1
          have lu := bu.lt
          have re0 := rb.c0
          have rf0 := rf 0
          have rl := rb.lt
          go_wp2_with fail
          refine bodyPost_ret (v := .tuple #[.agg #[.slice a3 (pairsB l).length c3], .bool true]) (by simp [results, Try.results7, go_sem, rb.c0]; try rfl) rfl ?_
          refine ⟨_, by rw [matchOk, HS.out]; rfl, ?_, hW.setCell (by show w.heap.size ≤ w.heap.size + 1 + 1; omega) _⟩
          rw [matchR, HS.out]
          refine D.rd_mono (fun x (hx : w2.heap.size ≤ x) => Nat.le_trans hzz hx) _ _ (D.rd_keep ((Keeps.refl _ _).setCell (fun (q : w2.heap.size ≤ w.heap.size + 1 + 1) _ => by omega) _) _ _ HR5.out)
        · have HS : Hid (matchS t u = none) := matchS_bad Ho.out (Bool.eq_false_iff.2 hv)
          rw [Bool.eq_false_iff.2 hv]
          clear hv
          have et0 := bt.c0
          have et1 := bt.c1
          have lt := bt.lt
          have eu0 := bu.c0
          have eu1 := bu.c1
          have lu := bu.lt
          have re0 := rb.c0
          have rf0 := rf 0
          have rl := rb.lt
          go_wp2_with fail
          refine bodyPost_ret (v := .tuple #[.agg #[.slice none 0 0], .bool false]) (by simp [results, Try.results7, go_sem, rb.c0]; try rfl) rfl ?_
          exact RdN.no (hW.setCell (by show w.heap.size ≤ w.heap.size + 1 + 1; omega) _) HS.out
    · have HE2 := hid (Bool.eq_false_iff.2 h2)
      have HM : Hid (matchS t u = none) := matchS_no (by rw [HE.out, HE2.out]; rfl)
      clear h1 h2
      obtain ⟨rfl, tn, ta, tc, rfl⟩ := Tm.at_form ht
      obtain ⟨rfl, un, ua, uc, rfl⟩ := Tm.at_form hu
      have hW : Below w.heap.size w (((w.alloc (.cells #[.string t.name, .slice ta t.args.length tc] 33)).alloc (.cells #[.string u.name, .slice ua u.args.length uc] 33)).alloc (.cells #[.slice none 0 0] 28)) := (((Below.refl _ _).alloc (Nat.le_refl _) _).alloc (by simp) _).alloc (by simp; omega) _
      have bt : Box (((w.alloc (.cells #[.string t.name, .slice ta t.args.length tc] 33)).alloc (.cells #[.string u.name, .slice ua u.args.length uc] 33)).alloc (.cells #[.slice none 0 0] 28)) (w.heap.size) [.string t.name, .slice ta t.args.length tc] := by
        have := (((Box.new w [.string t.name, .slice ta t.args.length tc] 33).alloc (.cells #[.string u.name, .slice ua u.args.length uc] 33)).alloc (.cells #[.slice none 0 0] 28))
        simpa only [World.size_alloc] using this
      have bu : Box (((w.alloc (.cells #[.string t.name, .slice ta t.args.length tc] 33)).alloc (.cells #[.string u.name, .slice ua u.args.length uc] 33)).alloc (.cells #[.slice none 0 0] 28)) (w.heap.size + 1) [.string u.name, .slice ua u.args.length uc] := by
        have := ((Box.new (w.alloc (.cells #[.string t.name, .slice ta t.args.length tc] 33)) [.string u.name, .slice ua u.args.length uc] 33).alloc (.cells #[.slice none 0 0] 28))
        simpa only [World.size_alloc] using this
      have rb : Box (((w.alloc (.cells #[.string t.name, .slice ta t.args.length tc] 33)).alloc (.cells #[.string u.name, .slice ua u.args.length uc] 33)).alloc (.cells #[.slice none 0 0] 28)) (w.heap.size + 1 + 1) [.slice none 0 0] := by
        have := (Box.new ((w.alloc (.cells #[.string t.name, .slice ta t.args.length tc] 33)).alloc (.cells #[.string u.name, .slice ua u.args.length uc] 33)) [.slice none 0 0] 28)
        simpa only [World.size_alloc] using this
      have rf : ∀ p, (((w.alloc (.cells #[.string t.name, .slice ta t.args.length tc] 33)).alloc (.cells #[.string u.name, .slice ua u.args.length uc] 33)).alloc (.cells #[.slice none 0 0] 28)).frozen? ⟨w.heap.size + 1 + 1, p, none⟩ = false := fun p => World.frozen?_alloc_at _ _ _ p (by simp)
      replace ht := Tm.at_keep (Keeps.all hW) ht
      replace hu := Tm.at_keep (Keeps.all hW) hu
      have et0 := bt.c0
      have et1 := bt.c1
      have lt := bt.lt
      have eu0 := bu.c0
      have eu1 := bu.c1
      have lu := bu.lt
      have re0 := rb.c0
      have rf0 := rf 0
      have rl := rb.lt
      go_enter Try.func7, Try.ntmps7
      go_wp2_with fail
      clear et0 et1 lt eu0 eu1 lu re0 rf0 rl
      have Hw0 : Hid ((((w.alloc (.cells #[.string t.name, .slice ta t.args.length tc] 33)).alloc (.cells #[.string u.name, .slice ua u.args.length uc] 33)).alloc (.cells #[.slice none 0 0] 28)).heap.size = w.heap.size + 1 + 1 + 1) := by simp [Hid]
      generalize (((w.alloc (.cells #[.string t.name, .slice ta t.args.length tc] 33)).alloc (.cells #[.string u.name, .slice ua u.args.length uc] 33)).alloc (.cells #[.slice none 0 0] 28)) = w0 at *
      refine (l2Any_any t ht hbt).mono ?_
      rintro e w1 ⟨_, rfl, hb, rfl⟩
      replace hW := hW.trans (hb.mono hW.size)
      replace bt := bt.keep hb
      replace ht := Tm.at_keep (Keeps.all hb) ht
      replace bu := bu.keep hb
      replace hu := Tm.at_keep (Keeps.all hb) hu
      replace rf := fun p => (hb.frozen (p := ⟨_, p, none⟩) rb.lt).trans (rf p)
      replace rb := rb.keep hb
      clear hb
      rw [HE.out]
      have et0 := bt.c0
      have et1 := bt.c1
      have lt := bt.lt
      have eu0 := bu.c0
      have eu1 := bu.c1
      have lu := bu.lt
      have re0 := rb.c0
      have rf0 := rf 0
      have rl := rb.lt
      go_wp2_with fail
      clear et0 et1 lt eu0 eu1 lu re0 rf0 rl
      refine (l2Any_any u hu hbu).mono ?_
      rintro e w1 ⟨_, rfl, hb, rfl⟩
      replace hW := hW.trans (hb.mono hW.size)
      replace bt := bt.keep hb
      replace ht := Tm.at_keep (Keeps.all hb) ht
      replace bu := bu.keep hb
      replace hu := Tm.at_keep (Keeps.all hb) hu
      replace rf := fun p => (hb.frozen (p := ⟨_, p, none⟩) rb.lt).trans (rf p)
      replace rb := rb.keep hb
      clear hb
      rw [HE2.out]
      have et0 := bt.c0
      have et1 := bt.c1
      have lt := bt.lt
      have eu0 := bu.c0
      have eu1 := bu.c1
      have lu := bu.lt
      have re0 := rb.c0
      have rf0 := rf 0
      have rl := rb.lt
      go_wp2_with fail
      clear et0 et1 lt eu0 eu1 lu re0 rf0 rl
      refine bodyPost_ret (v := .tuple #[.agg #[.slice none 0 0], .bool false]) (by simp [results, Try.results7, go_sem, rb.c0]; try rfl) rfl ?_
      exact RdN.no (hW.setCell (by show w.heap.size ≤ w.heap.size + 1 + 1; omega) _) HM.out
  · have HE := hid (Bool.eq_false_iff.2 h1)
    have HM : Hid (matchS t u = none) := matchS_no (by rw [HE.out]; rfl)
    clear h1
    obtain ⟨rfl, tn, ta, tc, rfl⟩ := Tm.at_form ht
    obtain ⟨rfl, un, ua, uc, rfl⟩ := Tm.at_form hu
    have hW : Below w.heap.size w (((w.alloc (.cells #[.string t.name, .slice ta t.args.length tc] 33)).alloc (.cells #[.string u.name, .slice ua u.args.length uc] 33)).alloc (.cells #[.slice none 0 0] 28)) := (((Below.refl _ _).alloc (Nat.le_refl _) _).alloc (by simp) _).alloc (by simp; omega) _
    have bt : Box (((w.alloc (.cells #[.string t.name, .slice ta t.args.length tc] 33)).alloc (.cells #[.string u.name, .slice ua u.args.length uc] 33)).alloc (.cells #[.slice none 0 0] 28)) (w.heap.size) [.string t.name, .slice ta t.args.length tc] := by
      have := (((Box.new w [.string t.name, .slice ta t.args.length tc] 33).alloc (.cells #[.string u.name, .slice ua u.args.length uc] 33)).alloc (.cells #[.slice none 0 0] 28))
      simpa only [World.size_alloc] using this
    have bu : Box (((w.alloc (.cells #[.string t.name, .slice ta t.args.length tc] 33)).alloc (.cells #[.string u.name, .slice ua u.args.length uc] 33)).alloc (.cells #[.slice none 0 0] 28)) (w.heap.size + 1) [.string u.name, .slice ua u.args.length uc] := by
      have := ((Box.new (w.alloc (.cells #[.string t.name, .slice ta t.args.length tc] 33)) [.string u.name, .slice ua u.args.length uc] 33).alloc (.cells #[.slice none 0 0] 28))
      simpa only [World.size_alloc] using this
    have rb : Box (((w.alloc (.cells #[.string t.name, .slice ta t.args.length tc] 33)).alloc (.cells #[.string u.name, .slice ua u.args.length uc] 33)).alloc (.cells #[.slice none 0 0] 28)) (w.heap.size + 1 + 1) [.slice none 0 0] := by
      have := (Box.new ((w.alloc (.cells #[.string t.name, .slice ta t.args.length tc] 33)).alloc (.cells #[.string u.name, .slice ua u.args.length uc] 33)) [.slice none 0 0] 28)
      simpa only [World.size_alloc] using this
    have rf : ∀ p, (((w.alloc (.cells #[.string t.name, .slice ta t.args.length tc] 33)).alloc (.cells #[.string u.name, .slice ua u.args.length uc] 33)).alloc (.cells #[.slice none 0 0] 28)).frozen? ⟨w.heap.size + 1 + 1, p, none⟩ = false := fun p => World.frozen?_alloc_at _ _ _ p (by simp)
    replace ht := Tm.at_keep (Keeps.all hW) ht
    replace hu := Tm.at_keep (Keeps.all hW) hu
    have et0 := bt.c0
    have et1 := bt.c1
    have lt := bt.lt
    have eu0 := bu.c0
    have eu1 := bu.c1
    have lu := bu.lt
    have re0 := rb.c0
    have rf0 := rf 0
    have rl := rb.lt
    go_enter Try.func7, Try.ntmps7
    go_wp2_with fail
    clear et0 et1 lt eu0 eu1 lu re0 rf0 rl
    have Hw0 : Hid ((((w.alloc (.cells #[.string t.name, .slice ta t.args.length tc] 33)).alloc (.cells #[.string u.name, .slice ua u.args.length uc] 33)).alloc (.cells #[.slice none 0 0] 28)).heap.size = w.heap.size + 1 + 1 + 1) := by simp [Hid]
    generalize (((w.alloc (.cells #[.string t.name, .slice ta t.args.length tc] 33)).alloc (.cells #[.string u.name, .slice ua u.args.length uc] 33)).alloc (.cells #[.slice none 0 0] 28)) = w0 at *
    refine (l2Any_any t ht hbt).mono ?_
    rintro e w1 ⟨_, rfl, hb, rfl⟩
    replace hW := hW.trans (hb.mono hW.size)
    replace bt := bt.keep hb
    replace ht := Tm.at_keep (Keeps.all hb) ht
    replace bu := bu.keep hb
    replace hu := Tm.at_keep (Keeps.all hb) hu
    replace rf := fun p => (hb.frozen (p := ⟨_, p, none⟩) rb.lt).trans (rf p)
    replace rb := rb.keep hb
    clear hb
    rw [HE.out]
    have et0 := bt.c0
    have et1 := bt.c1
    have lt := bt.lt
    have eu0 := bu.c0
    have eu1 := bu.c1
    have lu := bu.lt
    have re0 := rb.c0
    have rf0 := rf 0
    have rl := rb.lt
    go_wp2_with fail
    clear et0 et1 lt eu0 eu1 lu re0 rf0 rl
    refine bodyPost_ret (v := .tuple #[.agg #[.slice none 0 0], .bool false]) (by simp [results, Try.results7, go_sem, rb.c0]; try rfl) rfl ?_
    exact RdN.no (hW.setCell (by show w.heap.size ≤ w.heap.size + 1 + 1; omega) _) HM.out
end Go.Proofs.Ytglhbaigigdeeaa
/- Terms that a call owns are marked. -/
namespace Go.Proofs.Ytglhbaigigdeeaa
set_option maxRecDepth 100000
open Go.RowKit

mutual
/-- an element of a list of terms with its marks from k on -/
def Tm.mke : Tm → Nat → Tm
  | .node _ ts, k => .node (bs (mtext k)) (Tm.mks ts (k + 1))
def Tm.mks : List Tm → Nat → List Tm
  | [], _ => []
  | t :: ts, k => Tm.mke t k :: Tm.mks ts (k + t.size)
end
theorem Tm.mks_length : ∀ (ts : List Tm) (k : Nat), (Tm.mks ts k).length = ts.length
  | [], k => by simp [Tm.mks]
  | t :: ts, k => by rw [Tm.mks, List.length_cons, List.length_cons, Tm.mks_length ts]
theorem Tm.mks_snoc : ∀ (ts : List Tm) (t : Tm) (k : Nat), Tm.mks (ts ++ [t]) k = Tm.mks ts k ++ [Tm.mke t (k + Tm.sizes ts)]
  | [], t, k => by simp [Tm.mks, Tm.sizes]
  | s :: ts, t, k => by rw [List.cons_append, Tm.mks, Tm.mks_snoc ts t, Tm.mks, Tm.sizes, Nat.add_assoc]; rfl
theorem Tm.mke_eq (t : Tm) (k : Nat) : Tm.mke t k = .node (bs (mtext k)) (Tm.mks t.args (k + 1)) := by cases t; rw [Tm.mke]; rfl
theorem Tm.css_set0 (m : ByteArray) : ∀ (L : List Tm) (j : Nat) (h : j < L.length), (Tm.css L).set (j * 2) (.str m) = Tm.css (L.set j (.node m L[j].args))
  | [], j, h => absurd h (by simp)
  | t :: L, 0, _ => by cases t; simp [Tm.css, Tm.cs, Tm.args]
  | t :: L, j + 1, h => by
    have ih := Tm.css_set0 m L j (by simpa using h)
    cases t
    rw [List.set_cons_succ, Tm.css, Tm.css, List.getElem_cons_succ, ← ih, Tm.cs, show (j + 1) * 2 = j * 2 + 2 by omega]
    rfl
theorem Tm.css_set1 (us : List Tm) : ∀ (L : List Tm) (j : Nat) (h : j < L.length), (Tm.css L).set (j * 2 + 1) (Tm.sd us) = Tm.css (L.set j (.node L[j].name us))
  | [], j, h => absurd h (by simp)
  | t :: L, 0, _ => by cases t; simp [Tm.css, Tm.cs, Tm.name, Tm.sd]
  | t :: L, j + 1, h => by
    have ih := Tm.css_set1 us L j (by simpa using h)
    cases t
    rw [List.set_cons_succ, Tm.css, Tm.css, List.getElem_cons_succ, ← ih, Tm.cs, show (j + 1) * 2 + 1 = j * 2 + 1 + 2 by omega]
    rfl
theorem Tm.css_len (L : List Tm) : (Tm.css L).length = L.length * 2 := by rw [Tm.css_flat, flat_length Tm.cs_wide]
theorem Tm.css_get0 : ∀ (L : List Tm) (j : Nat) (h : j < L.length) (h' : j * 2 < (Tm.css L).length), (Tm.css L)[j * 2] = .str L[j].name
  | [], j, h, _ => absurd h (by simp)
  | t :: L, 0, _, _ => by cases t; simp [Tm.css, Tm.cs, Tm.name]
  | t :: L, j + 1, h, h' => by
    have ih := Tm.css_get0 L j (by simpa using h) (by rw [Tm.css_len]; simp at h; omega)
    cases t
    simp only [Tm.css, Tm.cs, show (j + 1) * 2 = j * 2 + 1 + 1 by omega, List.cons_append, List.getElem_cons_succ, List.nil_append]
    exact ih
theorem Tm.css_get1 : ∀ (L : List Tm) (j : Nat) (h : j < L.length) (h' : j * 2 + 1 < (Tm.css L).length), (Tm.css L)[j * 2 + 1] = Tm.sd L[j].args
  | [], j, h, _ => absurd h (by simp)
  | t :: L, 0, _, _ => by cases t; simp [Tm.css, Tm.cs, Tm.args, Tm.sd]
  | t :: L, j + 1, h, h' => by
    have ih := Tm.css_get1 L j (by simpa using h) (by rw [Tm.css_len]; simp at h; omega)
    cases t
    simp only [Tm.css, Tm.cs, show (j + 1) * 2 + 1 = j * 2 + 1 + 1 + 1 by omega, List.cons_append, List.getElem_cons_succ, List.nil_append]
    exact ih

/-- the list of which j terms are marked -/
def Tm.mix (ts : List Tm) (k j : Nat) : List Tm := Tm.mks (ts.take j) k ++ ts.drop j
theorem Tm.mix_length (ts : List Tm) (k j : Nat) : (Tm.mix ts k j).length = ts.length := by
  rw [Tm.mix, List.length_append, Tm.mks_length, List.length_take, List.length_drop]; omega
theorem Tm.mix_get (ts : List Tm) (k j : Nat) (h : j < ts.length) (h' : j < (Tm.mix ts k j).length) : (Tm.mix ts k j)[j] = ts[j] := by
  simp only [Tm.mix]
  rw [List.getElem_append_right (by rw [Tm.mks_length, List.length_take]; omega)]
  simp only [Tm.mks_length, List.length_take, List.getElem_drop, show min j ts.length = j by omega, Nat.sub_self, Nat.add_zero]
theorem Tm.mix_set (ts : List Tm) (k j : Nat) (h : j < ts.length) : (Tm.mix ts k j).set j (Tm.mke ts[j] (k + Tm.sizes (ts.take j))) = Tm.mix ts k (j + 1) := by
  have hl : (Tm.mks (ts.take j) k).length = j := by rw [Tm.mks_length, List.length_take]; omega
  rw [Tm.mix, List.set_append_right _ _ (by omega), hl, Nat.sub_self, Tm.mix, List.take_succ_eq_append_getElem h, Tm.mks_snoc, List.append_assoc, List.drop_eq_getElem_cons h]
  rfl

def MarkS (ts : List Tm) : Prop := ∀ (k : Nat) (v : Value) (F : List Nat) (w : World), k + Tm.sizes ts ≤ 1099511627776 → D.own w v (Tm.sd ts) F →
  Calls Try.prog 29 #[v, .int .i64 k] w fun e w' => e = .returned (.int .i64 (k + Tm.sizes ts : Nat)) ∧ Mk F w w' ∧ D.own w' v (Tm.sd (Tm.mks ts k)) F
theorem own_same {w : World} {b off n cap m : Nat} {cs : List D} {F : List Nat} (h : D.own w (.slice (some ⟨b, off, none⟩) n cap) (.sl m cs) F) : n = m := by
  rw [D.own] at h; obtain ⟨_, _, e, _⟩ := h; injection e
set_option maxHeartbeats 2000000 in
theorem markTermS_of (ts : List Tm) (h : ∀ t ∈ ts, MarkS t.args) : MarkS ts := by
  intro k v F w hk ho
  obtain ⟨a, cap, rfl⟩ := Tm.sd_own_form ho
  obtain ⟨_, _, ef, hlen, _⟩ := Tm.sd_form (D.own_rd _ _ _ ho)
  unfold big at hlen
  clear ef
  go_enter Try.func29, Try.ntmps29
  go_wp2_with fail
  go_loopw [1, 5] (fun x i wr => ∃ j : Nat, j ≤ ts.length ∧ i = .int .i64 j ∧ x = .int .i64 (k + Tm.sizes (ts.take j) : Nat) ∧ Hid (D.own wr (.slice a ts.length cap) (Tm.sd (Tm.mix ts k j)) F) ∧ Mk F w wr) (fun _ i _ => ts.length - (intOf i).toNat)
  case atStart => exact ⟨0, Nat.zero_le _, rfl, by simp [Tm.sizes], by rw [Tm.mix, List.take_zero, Tm.mks, List.nil_append, List.drop_zero]; exact ho, Mk.refl _ _⟩
  case round =>
    obtain ⟨j, hj, rfl, rfl, HO, hm⟩ := hrel
    by_cases hlt : j < ts.length
    · have hl := Tm.mix_length ts k j
      have hst := Tm.sizes_take ts j hlt
      have hsl := Tm.sizes_le ts (j + 1)
      obtain ⟨q, HQ⟩ : ∃ q, Hid (k + Tm.sizes (ts.take j) = q) := ⟨_, hid rfl⟩
      rw [HQ.out]
      have hsz : ts[j].size = 1 + Tm.sizes ts[j].args := by cases ts[j]; rw [Tm.size]; rfl
      have hq : q + 1 + Tm.sizes ts[j].args ≤ 1099511627776 := by have := HQ.out; omega
      have HE : Hid (q + 1 + Tm.sizes ts[j].args = k + Tm.sizes (ts.take (j + 1))) := by have := HQ.out; show _ = _; omega
      have hne : Tm.mix ts k j ≠ [] := by intro e; rw [e] at hl; simp at hl; omega
      have hcl := Tm.css_len (Tm.mix ts k j)
      have hcne : Tm.css (Tm.mix ts k j) ≠ [] := by intro e; rw [e] at hcl; simp at hcl; omega
      obtain ⟨-, b, off, F', rfl, rfl, hbF, hbl, hfr, -⟩ := D.own_slice HO.out hcne
      have HMT := markText_any q (by omega) wr
      clear hst hsl hsz
      go_wp2_with fail
      refine HMT.mono ?_
      rintro e w1 ⟨_, rfl, hb1, rfl⟩
      have HO1 := hid (D.own_keep _ _ _ (Keeps.all hb1) HO.out)
      obtain ⟨b', off', e, -, -, hrr⟩ := Tm.sd_get (D.own_rd _ _ _ HO1.out) hne
      obtain ⟨rfl, rfl⟩ : b = b' ∧ off = off' := by injection e with e; injection e with e1 e2; exact ⟨e1, e2⟩
      obtain ⟨c0, c1, x0, x1, -⟩ := hrr j (by omega)
      obtain ⟨-, _, _, _, e2, e3, -, -, hfr1, -⟩ := D.own_slice HO1.out hcne
      obtain ⟨rfl, rfl⟩ : _ = _ ∧ _ = _ := by injection e2 with e2; injection e2 with e1 e2; exact ⟨e1, e2⟩
      have hf0 := hfr1 (off + j * 2)
      have HN : Hid (D.own (w1.setCell ⟨b, off + j * 2, none⟩ (.string (bs (mtext q)))) (.slice (some ⟨b, off, none⟩) ts.length cap) (.sl ts.length (Tm.css ((Tm.mix ts k j).set j (.node (bs (mtext q)) ts[j].args)))) (b :: F')) := by
        have h0 := HO1.out
        rw [Tm.sd, hl] at h0
        have h1 := D.own_store h0 (j := j * 2) (u := .string (bs (mtext q))) (d' := .str (bs (mtext q))) (by omega) (fun v G hv => ?_) (fun w' => D.own_str (by rw [bs_size]; have := mtext_length q; unfold maxLen; omega))
        · rw [Tm.css_set0 _ _ _ (by omega), Tm.mix_get _ _ _ hlt] at h1; exact h1
        · rw [Tm.css_get0 _ _ (by omega), D.own] at hv
          exact hv.2.2
      obtain ⟨Fj, vj, y0, y1, hsub, hbj, hup⟩ := D.own_sub HN.out (j := j * 2 + 1) (by rw [Tm.css_len, List.length_set]; omega)
      rw [Tm.css_get1 _ _ (by rw [List.length_set]; omega), List.getElem_set_self] at y1
      have y2 : w1.cell? ⟨b, off + j * 2 + 1, none⟩ = some vj := by
        have y3 := y0
        rw [World.cell?_setCell_other _ _ _ _ (by intro e; injection e with _ e; omega)] at y3
        exact y3
      obtain rfl : c1 = vj := by rw [x1] at y2; injection y2
      have HU := hid hup
      have hsw := World.size_setCell w1 ⟨b, off + j * 2, none⟩ (.string (bs (mtext q)))
      have HM1 := hid ((hm.trans (Mk.of_below hb1)).trans (Mk.set (p := off + j * 2) (List.mem_cons_self ..) (.string (bs (mtext q)))))
      have HR := h ts[j] (List.getElem_mem hlt) (q + 1) _ _ _ (by omega) y1
      rw [show ((q + 1 : Nat) : Int) = (q : Int) + 1 from by omega] at HR
      clear hrr hfr hfr1 e e2 e3 hb1 HMT hup hsw y0 y1 y2
      go_wp2_with fail
      refine HR.mono ?_
      rintro e w2 ⟨rfl, hm2, ho2⟩
      have HX := hid (HU.out w2 _ ho2 hm2.1)
      have HM2 := hid (HM1.out.trans (hm2.mono hsub))
      have HN2 : Hid (D.own w2 (.slice (some ⟨b, off, none⟩) ts.length cap) (Tm.sd (Tm.mix ts k (j + 1))) (b :: F')) := by
        have h1 := HX.out
        rw [Tm.css_set1 _ _ _ (by rw [List.length_set]; omega), List.getElem_set_self, List.set_set] at h1
        rw [Hid, Tm.sd, Tm.mix_length, ← Tm.mix_set _ _ _ hlt, HQ.out, Tm.mke_eq]
        exact h1
      rw [HE.out]
      clear HR hm2 ho2
      go_wp2_with fail
      go_roundw
      case rel => exact ⟨j + 1, by omega, by go_num, rfl, HN2, HM2.out⟩
      case measure => simp [intOf]; omega
    · obtain rfl : j = ts.length := by omega
      go_wp2_with fail
      go_ret
      refine ⟨by rw [List.take_length]; rfl, hm, ?_⟩
      have := HO.out
      rwa [Tm.mix, List.take_length, List.drop_length, List.append_nil] at this
theorem markTermS_any (ts : List Tm) : MarkS ts := by
  have key : ∀ t : Tm, MarkS t.args := fun t => Tm.ind (P := fun t => MarkS t.args) (fun n ts h => markTermS_of ts h) t
  exact key (.node ByteArray.empty ts)
end Go.Proofs.Ytglhbaigigdeeaa
/- Marked terms are found marked.. -/
namespace Go.Proofs.Ytglhbaigigdeeaa
set_option maxRecDepth 100000
open Go.RowKit

theorem Tm.mks_get : ∀ (ts : List Tm) (k j : Nat) (h : j < ts.length) (h' : j < (Tm.mks ts k).length), (Tm.mks ts k)[j] = Tm.mke ts[j] (k + Tm.sizes (ts.take j))
  | [], k, j, h, _ => absurd h (by simp)
  | t :: ts, k, 0, _, _ => by simp [Tm.mks, Tm.sizes]
  | t :: ts, k, j + 1, h, h' => by
    have ih := Tm.mks_get ts (k + t.size) j (by simpa using h) (by rw [Tm.mks_length]; simpa using h)
    simp only [Tm.mks, List.getElem_cons_succ, List.take_succ_cons, Tm.sizes]
    rw [ih, Nat.add_assoc]

def HeldS (ts : List Tm) : Prop := ∀ (k : Nat) (S : Nat → Prop) (v : Value) (w : World), k + Tm.sizes ts ≤ 1099511627776 → D.rd S w v (Tm.sd (Tm.mks ts k)) →
  Calls Try.prog 44 #[v, .int .i64 k] w (Gives w (.int .i64 (k + Tm.sizes ts : Nat)))
set_option maxHeartbeats 2000000 in
theorem heldTermS_of (ts : List Tm) (h : ∀ t ∈ ts, HeldS t.args) : HeldS ts := by
  intro k S v w hk hr
  have hl := Tm.mks_length ts k
  obtain ⟨a, cap, rfl, hlen, hcap⟩ := Tm.sd_form hr
  rw [hl] at hlen hcap ⊢
  rw [hl] at hr
  unfold big at hlen
  go_enter Try.func44, Try.ntmps44
  go_wp2_with fail
  go_loopw [1, 5] (fun x i wr => ∃ j : Nat, j ≤ ts.length ∧ i = .int .i64 j ∧ x = .int .i64 (k + Tm.sizes (ts.take j) : Nat) ∧ Below w.heap.size w wr) (fun _ i _ => ts.length - (intOf i).toNat)
  case atStart => exact ⟨0, Nat.zero_le _, rfl, by simp [Tm.sizes], Below.refl _ _⟩
  case round =>
    obtain ⟨j, hj, rfl, rfl, hb⟩ := hrel
    by_cases hlt : j < ts.length
    · have hst := Tm.sizes_take ts j hlt
      have hsl := Tm.sizes_le ts (j + 1)
      have hg := Tm.mks_get ts k j hlt (by omega)
      obtain ⟨q, HQ⟩ : ∃ q, Hid (k + Tm.sizes (ts.take j) = q) := ⟨_, hid rfl⟩
      rw [HQ.out] at hg ⊢
      have hsz : ts[j].size = 1 + Tm.sizes ts[j].args := by cases ts[j]; rw [Tm.size]; rfl
      have hq : q + 1 + Tm.sizes ts[j].args ≤ 1099511627776 := by have := HQ.out; omega
      have HE : Hid (q + 1 + Tm.sizes ts[j].args = k + Tm.sizes (ts.take (j + 1))) := by have := HQ.out; show _ = _; omega
      have hne : Tm.mks ts k ≠ [] := by intro e; rw [e] at hl; simp at hl; omega
      obtain ⟨b, off, rfl, hS, hbl, hrr⟩ := Tm.sd_get hr hne
      obtain ⟨c0, c1, q0, q1, q2⟩ := hrr j (by omega)
      obtain ⟨us, HUS⟩ : ∃ us, Hid (Tm.mks ts[j].args (q + 1) = us) := ⟨_, hid rfl⟩
      rw [hg, Tm.mke_eq, HUS.out] at q2
      obtain ⟨rfl, -, x, xc, rfl⟩ := Tm.at_form q2
      replace q0 := (hb.cell (p := ⟨b, off + j * 2, none⟩) hbl).trans q0
      replace q1 := (hb.cell (p := ⟨b, off + j * 2 + 1, none⟩) hbl).trans q1
      have q3 := D.rd_keep (Keeps.all hb) _ _ q2.2
      simp only [Tm.name, Tm.args] at q0 q1 q3
      have hbr : b < wr.heap.size := Nat.lt_of_lt_of_le hbl hb.size
      have Hr := hid hr
      clear hst hsl hsz hg hrr q2 hne hr
      go_wp2_with fail
      refine wp_region_B [fun v _ => v = .slice (some ⟨b, off, none⟩) ts.length cap, fun v _ => v = .int .i64 j, fun v _ => v = .pointer (some ⟨b, off + j * 2, none⟩), fun v _ => v = .pointer (some ⟨b, off + j * 2, none⟩), fun v _ => v = .string (bs (mtext q)), fun v _ => v = .int .i64 q, fun v _ => v = .string (bs (mtext q)), fun v _ => v = .bool false] _ (fun V => by simp [putAll, Act.put]; rfl) (by kernel_rfl) (by decide) (by simp) (by kernel_rfl) ?_ ?_ ?_
      · intro F hF
        simp only [List.mem_cons, List.not_mem_nil, or_false] at hF
        rcases hF with rfl | rfl | rfl | rfl | rfl | rfl | rfl | rfl
        · exact stable_eq
        · exact stable_eq
        · exact stable_eq
        · exact stable_eq
        · exact stable_eq
        · exact stable_eq
        · exact stable_eq
        · exact stable_eq
      · refine ⟨?_, ?_, ?_, ?_, ?_, ?_, ?_, ?_, trivial⟩
        · intro V w1 hbR _
          unfold Does
          go_simp
          exact ⟨Below.refl _ _, rfl⟩
        · intro V w1 hbR _
          unfold Does
          go_simp
          exact ⟨Below.refl _ _, rfl⟩
        · intro V w1 hbR ⟨f0, f1, _⟩
          replace f0 : V 0 = .slice (some ⟨b, off, none⟩) ts.length cap := f0
          replace f1 : V 1 = .int .i64 j := f1
          unfold Does
          go_simp
          exact ⟨Below.refl _ _, rfl⟩
        · intro V w1 hbR ⟨f2, _⟩
          replace f2 : V 2 = .pointer (some ⟨b, off + j * 2, none⟩) := f2
          unfold Does
          go_simp
          exact ⟨Below.refl _ _, rfl⟩
        · intro V w1 hbR ⟨f3, _⟩
          replace f3 : V 3 = .pointer (some ⟨b, off + j * 2, none⟩) := f3
          obtain ⟨hc, hf⟩ := bcell hbR
          try simp only [World.size_alloc, World.size_setCell] at hc hf
          unfold Does
          go_simp
          exact ⟨Below.refl _ _, rfl⟩
        · intro V w1 hbR _
          unfold Does
          go_simp
          exact ⟨Below.refl _ _, rfl⟩
        · intro V w1 hbR ⟨f5, _⟩
          replace f5 : V 5 = .int .i64 q := f5
          obtain ⟨hc, hf⟩ := bcell hbR
          try simp only [World.size_alloc, World.size_setCell] at hc hf
          unfold Does
          go_simp
          exact markText_any q (by omega) w1
        · intro V w1 hbR ⟨f4, f6, _⟩
          replace f4 : V 4 = .string (bs (mtext q)) := f4
          replace f6 : V 6 = .string (bs (mtext q)) := f6
          unfold Does
          go_simp
          exact ⟨Below.refl _ _, rfl⟩
      intro V w3 hbR hfR
      obtain ⟨f0, f1, f2, f3, f4, f5, f6, f7, _⟩ := hfR
      replace f0 : V 0 = .slice (some ⟨b, off, none⟩) ts.length cap := f0
      replace f1 : V 1 = .int .i64 j := f1
      replace f2 : V 2 = .pointer (some ⟨b, off + j * 2, none⟩) := f2
      replace f3 : V 3 = .pointer (some ⟨b, off + j * 2, none⟩) := f3
      replace f4 : V 4 = .string (bs (mtext q)) := f4
      replace f5 : V 5 = .int .i64 q := f5
      replace f6 : V 6 = .string (bs (mtext q)) := f6
      replace f7 : V 7 = .bool false := f7
      simp only [f0, f1, f2, f3, f4, f5, f6, f7]
      clear f0 f1 f2 f3 f4 f5 f6 f7
      replace q1 := (hbR.cell (p := ⟨b, off + j * 2 + 1, none⟩) hbr).trans q1
      replace q3 := D.rd_keep (Keeps.all hbR) _ _ q3
      have HR := h ts[j] (List.getElem_mem hlt) (q + 1) _ (.slice x us.length xc) w3 (by omega) (by rw [HUS.out]; exact q3)
      rw [show ((q + 1 : Nat) : Int) = (q : Int) + 1 from by omega] at HR
      go_wp2_with fail
      refine HR.mono ?_
      rintro e w2 ⟨_, rfl, hb2, rfl⟩
      rw [HE.out]
      clear HR q3 q1 q0
      go_wp2_with fail
      go_roundw
      case rel => exact ⟨j + 1, by omega, by go_num, rfl, (hb.trans (hbR.mono hb.size)).trans (hb2.mono (Nat.le_trans hb.size hbR.size))⟩
      case measure => simp [intOf]; omega
    · obtain rfl : j = ts.length := by omega
      go_wp2_with fail
      go_ret
      exact Gives.mk (by rw [List.take_length]; rfl) hb
theorem heldTermS_any (ts : List Tm) : HeldS ts := by
  have key : ∀ t : Tm, HeldS t.args := fun t => Tm.ind (P := fun t => HeldS t.args) (fun n ts h => heldTermS_of ts h) t
  exact key (.node ByteArray.empty ts)
end Go.Proofs.Ytglhbaigigdeeaa
/- A term (by value) is marked, and is found marked. -/
namespace Go.Proofs.Ytglhbaigigdeeaa
set_option maxRecDepth 100000
open Go.RowKit

set_option maxHeartbeats 1000000 in
theorem markTerm_any (ts : List Tm) (k : Nat) {n : ByteArray} {v : Value} {F : List Nat} {w : World} (hk : k + Tm.sizes ts ≤ 1099511627776) (ho : D.own w v (Tm.sd ts) F) :
    Calls Try.prog 12 #[.agg #[.string n, v], .int .i64 k] w fun e w' => e = .returned (.int .i64 (k + Tm.sizes ts : Nat)) ∧ Mk F w w' ∧ D.own w' v (Tm.sd (Tm.mks ts k)) F := by
  obtain ⟨a, cap, rfl⟩ := Tm.sd_own_form ho
  have hW : Below w.heap.size w (w.alloc (.cells #[.string n, .slice a ts.length cap] 33)) := (Below.refl _ _).alloc (Nat.le_refl _) _
  have hq := markTermS_any ts k _ F _ hk (D.own_keep _ _ _ (Keeps.all hW) ho)
  go_enter Try.func12, Try.ntmps12
  go_wp2_with fail
  refine hq.mono ?_
  rintro e w1 ⟨rfl, hm, ho1⟩
  go_wp2_with fail
  go_ret
  exact ⟨rfl, (Mk.of_below hW).trans hm, ho1⟩
end Go.Proofs.Ytglhbaigigdeeaa
