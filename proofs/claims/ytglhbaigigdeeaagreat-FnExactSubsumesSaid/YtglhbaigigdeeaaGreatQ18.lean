/- Several texts in one file. -/
import Derived.Test.YtglhbaigigdeeaaGreatQ14
import Derived.Test.YtglhbaigigdeeaaGreatQ15
import Derived.Test.YtglhbaigigdeeaaGreatQ17
import Derived.Test.YtglhbaigigdeeaaGreatQ04
import Derived.Test.YtglhbaigigdeeaaGreatQ10
import Derived.Test.YtglhbaigigdeeaaGreatQ12
import Derived.Test.YtglhbaigigdeeaaGreatQ09
import Derived.Deep.RegionHeld3
import Derived.BigQuiet
/- The reference makes a substitution of what is known; MatchTerms of the reference. -/
namespace Go.Proofs.YtglhbaigigdeeaaGreat
set_option maxRecDepth 100000
open Go.RowKit

theorem D.rd_both {S : Nat → Prop} {w : World} : ∀ (d : D) (v : Value), D.rd S w v d → D.rd (fun x => S x ∧ x < w.heap.size) w v d := by
  refine D.ind (fun s v h => by rw [D.rd] at h ⊢; exact h) (fun n v h => by rw [D.rd] at h ⊢; exact h) (fun b v h => by rw [D.rd] at h ⊢; exact h) (fun n cs ih v h => ?_)
  rw [D.rd] at h ⊢
  obtain ⟨a, cap, h0, h1, h2, h3, h4⟩ := h
  refine ⟨a, cap, h0, h1, h2, h3, fun hne => ?_⟩
  obtain ⟨b, off, q0, q1, q2, q3⟩ := h4 hne
  refine ⟨b, off, q0, ⟨q1, q2⟩, q2, (D.rds_iff _ _).2 fun i hi => ?_⟩
  obtain ⟨v, r0, r1⟩ := (D.rds_iff _ _).1 q3 i hi
  exact ⟨v, r0, ih _ (List.getElem_mem hi) _ r1⟩
theorem pairsB_length (l : List Bnd) : (pairsB l).length ≤ l.length := by
  rw [(pairsB_perm l).length_eq]; exact List.length_filter_le _ _
theorem rd_nilB {S : Nat → Prop} {w : World} {a : Option Addr} {c : Nat} : D.rd S w (.slice a 0 c) (Bnd.sd []) := by
  rw [Bnd.sd_css, D.rd]
  exact ⟨_, _, rfl, by simp, by simp, by simp, by simp [Bnd.css]⟩

theorem Tm.names_bulk (t : Tm) : t.names = true → t.bulk ≤ 10 * t.size := by
  refine Tm.ind (P := fun t => t.names = true → t.bulk ≤ 10 * t.size) (fun n ts ih h => ?_) t
  have key : ∀ ts : List Tm, (∀ a ∈ ts, a.names = true → a.bulk ≤ 10 * a.size) → Tm.namesAll ts = true → Tm.bulks ts ≤ 10 * Tm.sizes ts := by
    intro ts
    induction ts with
    | nil => intro _ _; simp [Tm.bulks, Tm.sizes]
    | cons a ts iht =>
      intro h hn
      rw [Tm.namesAll, Bool.and_eq_true] at hn
      have h0 := h a (by simp) hn.1
      have h1 := iht (fun b hb => h b (by simp [hb])) hn.2
      rw [Tm.bulks, Tm.sizes]; omega
  rw [Tm.names] at h
  rw [Tm.bulk, Tm.size]
  split at h
  · rename_i hv
    simp only [varName, Bool.and_eq_true, decide_eq_true_eq] at hv
    cases ts with
    | nil => simp [Tm.bulks, Tm.sizes]; omega
    | cons a ts => simp at h
  · simp only [Bool.and_eq_true, decide_eq_true_eq, symName] at h
    have := key ts ih h.2
    omega
theorem Tm.expr_bulk {t : Tm} (h : t.expr = true) : t.bulk ≤ 300 ∧ t.size ≤ 30 := by
  have hs : t.size ≤ 30 := by
    rw [Tm.expr, Tm.atom_eq, Tm.valid] at h
    simp only [Tm.small] at h
    split at h <;> simp at h <;> omega
  refine ⟨?_, hs⟩
  rw [Tm.expr] at h
  rcases Bool.or_eq_true_iff.1 h with h | h
  · rw [Tm.valid, Bool.and_eq_true] at h
    have := Tm.names_bulk t h.2; omega
  · rw [Tm.atom_eq] at h
    split at h
    · rename_i he
      simp only [Bool.and_eq_true, decide_eq_true_eq] at h
      have key : ∀ ts : List Tm, Tm.namesAll ts = true → Tm.bulks ts ≤ 10 * Tm.sizes ts := by
        intro ts
        induction ts with
        | nil => intro _; simp [Tm.bulks, Tm.sizes]
        | cons a ts iht =>
          intro hn
          rw [Tm.namesAll, Bool.and_eq_true] at hn
          have h0 := Tm.names_bulk a hn.1
          have h1 := iht hn.2
          rw [Tm.bulks, Tm.sizes]; omega
      have h1 := key t.args h.2
      have h2 : t.size = 1 + Tm.sizes t.args := by cases t; rw [Tm.size]; rfl
      have h3 : t.bulk = t.name.size + t.args.length + Tm.bulks t.args := by cases t; rw [Tm.bulk]; rfl
      have h4 : t.name.size = 1 := by rw [he]; rfl
      omega
    · rw [Bool.and_eq_true, Tm.valid, Bool.and_eq_true] at h
      have := Tm.names_bulk t h.2.2; omega
theorem Bnd.bulks_le_each {xs : List Bnd} {m : Nat} (h : ∀ b ∈ xs, b.bulk ≤ m) : Bnd.bulks xs ≤ xs.length * m := by
  induction xs with
  | nil => simp [Bnd.bulks]
  | cons a xs ih =>
    have h0 := h a (by simp)
    have h1 := ih fun b hb => h b (by simp [hb])
    rw [Bnd.bulks, List.length_cons, Nat.add_mul, Nat.one_mul]; omega
/-- what is known of a match is small -/
theorem known_small {t u : Tm} (ht : t.expr = true) (hu : u.expr = true) {l : List Bnd} (h : Tm.mat t u [] = some l) : (⟨pairsB l⟩ : Sb).bulk ≤ 20000 := by
  obtain ⟨h1, h2⟩ := Tm.expr_bulk ht
  obtain ⟨h3, h4⟩ := Tm.expr_bulk hu
  have hl := Tm.mat_length t u [] l h
  have hp := pairsB_length l
  have hb : ∀ b ∈ pairsB l, b.bulk ≤ 600 := fun b hb => by
    have hm := (List.mem_filter.1 ((pairsB_perm l).mem_iff.1 hb)).1
    exact Tm.mat_all (P := fun b => b.bulk ≤ 600) t u [] l (fun n _ hs v hv => by simp only [Bnd.bulk]; omega) (by simp) h b hm
  have := Bnd.bulks_le_each hb
  rw [Sb.bulk]
  simp only [List.length_nil, Nat.zero_add] at hl
  have : (pairsB l).length * 600 ≤ 30 * 600 := Nat.mul_le_mul_right _ (by omega)
  simp only
  omega

/-- what MatchTerms returns -/
def matchS (t u : Tm) : Option (List Bnd) := if (t.expr && u.expr) = true then match Tm.mat t u [] with
  | some l => if (⟨pairsB l⟩ : Sb).valid = true then some (pairsB l) else none
  | none => none
  else none
def matchR (t u : Tm) : Sb := ⟨(matchS t u).getD []⟩
def matchOk (t u : Tm) : Bool := (matchS t u).isSome
theorem matchS_no {t u : Tm} (h : (t.expr && u.expr) = false) : matchS t u = none := by rw [matchS, h, if_neg (by decide)]
theorem matchS_none {t u : Tm} (h : Tm.mat t u [] = none) : matchS t u = none := by rw [matchS, h]; split <;> rfl
theorem matchS_bad {t u : Tm} {l : List Bnd} (h : Tm.mat t u [] = some l) (hv : (⟨pairsB l⟩ : Sb).valid = false) : matchS t u = none := by
  rw [matchS, h]; simp only [hv, Bool.false_eq_true, if_false, ite_self]
theorem matchS_some {t u : Tm} {l : List Bnd} (he : (t.expr && u.expr) = true) (h : Tm.mat t u [] = some l) (hv : (⟨pairsB l⟩ : Sb).valid = true) : matchS t u = some (pairsB l) := by
  rw [matchS, h, if_pos he]; simp only [hv, if_true]
theorem matchR_bulk (t u : Tm) : (matchR t u).bulk ≤ 20000 := by
  rw [matchR, matchS]
  split
  · rename_i he
    rw [Bool.and_eq_true] at he
    split
    · rename_i l hl
      split
      · exact known_small he.1 he.2 hl
      · simp [Sb.bulk, Bnd.bulks]
    · simp [Sb.bulk, Bnd.bulks]
  · simp [Sb.bulk, Bnd.bulks]

/-- a result of which the call owns the memory, as far as reading tells, and a bool -/
def RdN (mk : Value → Value) (d : D) (ok : Bool) (w : World) (e : Ending) (w' : World) : Prop := ∃ v, e = .returned (.tuple #[mk v, .bool ok]) ∧ D.rd (fun x => w.heap.size ≤ x) w' v d ∧ Below w.heap.size w w'

set_option maxHeartbeats 4000000 in
theorem l4Pairs_any {l : List Bnd} {v : Value} {w : World} (hv : D.rd (fun _ => True) w v (Bnd.sd l)) (hl : l.length ≤ 1073741824) (hsm : Smalls l) :
    Calls Tryz.prog 36 #[v] w (Yields w (IsBs (fun x => w.heap.size ≤ x) (pairsB l))) := by
  have HV := hid hv
  have HSM := hid hsm
  obtain ⟨a, c, rfl, hlb, hlc⟩ := Bnd.sd_form hv
  unfold big at hlb
  clear hv hsm
  have hW : Below w.heap.size w ((w.alloc (.cells #[.slice none 0 0] 40)).alloc (.cells #[.slice none 0 0] 40)) := ((Below.refl _ _).alloc (Nat.le_refl _) _).alloc (by simp) _
  have rb : Box ((w.alloc (.cells #[.slice none 0 0] 40)).alloc (.cells #[.slice none 0 0] 40)) w.heap.size [.slice none 0 0] := (Box.new w [Value.slice none 0 0] 40).alloc _
  have ob : Box ((w.alloc (.cells #[.slice none 0 0] 40)).alloc (.cells #[.slice none 0 0] 40)) (w.heap.size + 1) [.slice none 0 0] := by
    have := Box.new (w.alloc (.cells #[.slice none 0 0] 40)) [Value.slice none 0 0] 40
    simpa only [World.size_alloc] using this
  have rf : ((w.alloc (.cells #[.slice none 0 0] 40)).alloc (.cells #[.slice none 0 0] 40)).frozen? ⟨w.heap.size, 0, none⟩ = false := (World.frozen?_alloc_past _ _ 0 (by simp)).trans (World.frozen?_alloc_at _ _ _ 0 (by simp))
  have of : ((w.alloc (.cells #[.slice none 0 0] 40)).alloc (.cells #[.slice none 0 0] 40)).frozen? ⟨w.heap.size + 1, 0, none⟩ = false := World.frozen?_alloc_at _ _ _ 0 (by simp)
  have HW0 : Hid (((w.alloc (.cells #[.slice none 0 0] 40)).alloc (.cells #[.slice none 0 0] 40)).heap.size = w.heap.size + 1 + 1) := by simp [Hid]
  go_enter Tryz.func36, Tryz.ntmps36
  go_wp2_with fail
  generalize ((w.alloc (.cells #[.slice none 0 0] 40)).alloc (.cells #[.slice none 0 0] 40)) = w0 at *
  go_loopw [4] (fun i wr => ∃ (k : Nat) (v' : Value), k ≤ l.length ∧ i = .int .i64 k ∧ wr.cell? ⟨w.heap.size + 1, 0, none⟩ = some v' ∧ wr.frozen? ⟨w.heap.size + 1, 0, none⟩ = false ∧ Hid (D.rd (fun x => w.heap.size + 1 + 1 ≤ x) wr v' (Bnd.sd (pairsB (l.take k)))) ∧ Hid (ShpB v') ∧ Hid (Below (w.heap.size + 1) w0 wr) ∧ w.heap.size + 1 + 1 ≤ wr.heap.size) (fun i _ => l.length - (intOf i).toNat)
  case atStart => exact ⟨0, .slice none 0 0, Nat.zero_le _, rfl, ob.c0, of, rd_nilB, .inl rfl, Below.refl _ _, by rw [HW0.out]; exact Nat.le_refl _⟩
  case round =>
    obtain ⟨k, v', hk, rfl, x0, x1, HR, HSH, HB, hz⟩ := hrel
    have hw0 := hW.size
    have HWB : Hid (Below w.heap.size w wr) := hW.trans (HB.out.mono (Nat.le_succ _))
    by_cases hlt : k < l.length
    · have hne : l ≠ [] := by intro e; subst e; simp at hlt
      obtain ⟨b, off, rfl, hSb, hbl, hrr⟩ := Bnd.sd_get HV.out hne
      obtain ⟨c0, c1, c2, q0, q1, q2, qx⟩ := hrr k hlt
      have hvl := Bnd.var_le qx
      have hqx := hid (Tm.at_keep (Keeps.all HWB.out) (Bnd.at_term qx))
      obtain ⟨rfl, rfl, xa, xc, rfl⟩ := Bnd.at_form qx
      have p0 := (HWB.out.cell (p := ⟨b, off + k * 3, none⟩) hbl).trans q0
      have p1 := (HWB.out.cell (p := ⟨b, off + k * 3 + 1, none⟩) hbl).trans q1
      have p2 := (HWB.out.cell (p := ⟨b, off + k * 3 + 1 + 1, none⟩) hbl).trans q2
      have hblr : b < wr.heap.size := Nat.lt_of_lt_of_le hbl HWB.out.size
      have hT0 : (0 : Int) ≤ (k : Int) := by omega
      have hol : w.heap.size + 1 < wr.heap.size := hz
      have hpl := pairsB_length (l.take k)
      rw [List.length_take] at hpl
      have hput := l4Put_any (bs := pairsB (l.take k)) (n := l[k].var) (t := l[k].term) (v := v') (w := wr.drew) (D.rd_keep (Keeps.all ((Below.refl _ _).drew)) _ _ (D.rd_both _ _ HR.out)) HSH.out (fun x hx => hx.2) hvl (Tm.at_keep (Keeps.all ((Below.refl _ _).drew)) hqx.out) (HSM.out _ (List.getElem_mem hlt)) (by omega)
      rw [← pairsB_snoc l k hlt] at hput
      have HPUT := hid hput
      have nn : ¬ (none : Option Nat) = some (w.heap.size + 1) := fun e => by cases e
      have nb : ¬ (none : Option Nat) = some b := fun e => by cases e
      have HNB : Hid (b < w.heap.size) := hbl
      clear hrr qx q0 q1 q2 hput hpl hbl
      go_wp2_with fail
      refine region_late (l := [_, _, _, _, _, _, _, _, _, _, _, _]) (tl := [_]) (S := fun w1 => (wr).grownBy w1 (none)) (n := 12) rfl rfl (by kernel_rfl) (by kernel_rfl) (grown_of_below ((Below.refl _ _).drew) _) (fun hQL hS => ?_)
      refine late_take (i := 0) (d := some 12) (v := .agg #[v']) rfl rfl (by kernel_rfl) (by kernel_rfl) (by kernel_rfl) hQL (by rfl) (fun w1 hS1 => (by obtain ⟨hc, hf⟩ := bcellG hS1; go_simp)) hS ?_
      try simp only [Act.put, List.setIfInBounds_toArray, List.set_cons_zero, List.set_cons_succ]
      refine late_take (i := 1) (d := some 13) (v := .slice (some ⟨b, off, none⟩) l.length c) rfl rfl (by kernel_rfl) (by kernel_rfl) (by kernel_rfl) hQL (by rfl) (fun w1 _ => (by go_simp)) hS ?_
      try simp only [Act.put, List.setIfInBounds_toArray, List.set_cons_zero, List.set_cons_succ]
      refine late_take (i := 2) (d := some 14) (v := .int .i64 k) rfl rfl (by kernel_rfl) (by kernel_rfl) (by kernel_rfl) hQL (by rfl) (fun w1 _ => (by go_simp)) hS ?_
      try simp only [Act.put, List.setIfInBounds_toArray, List.set_cons_zero, List.set_cons_succ]
      refine late_take (i := 3) (d := some 15) (v := .pointer (some ⟨b, off + k * 3, none⟩)) rfl rfl (by kernel_rfl) (by kernel_rfl) (by kernel_rfl) hQL (by rfl) (fun w1 _ => (by go_simp)) hS ?_
      try simp only [Act.put, List.setIfInBounds_toArray, List.set_cons_zero, List.set_cons_succ]
      refine late_take (i := 4) (d := some 16) (v := .pointer (some ⟨b, off + k * 3, none⟩)) rfl rfl (by kernel_rfl) (by kernel_rfl) (by kernel_rfl) hQL (by rfl) (fun w1 _ => (by go_simp)) hS ?_
      try simp only [Act.put, List.setIfInBounds_toArray, List.set_cons_zero, List.set_cons_succ]
      refine late_take (i := 5) (d := some 17) (v := .string l[k].var) rfl rfl (by kernel_rfl) (by kernel_rfl) (by kernel_rfl) hQL (by rfl) (fun w1 hS1 => (by obtain ⟨hc, hf⟩ := bcellG hS1; go_simp)) hS ?_
      try simp only [Act.put, List.setIfInBounds_toArray, List.set_cons_zero, List.set_cons_succ]
      refine late_take (i := 6) (d := some 18) (v := .slice (some ⟨b, off, none⟩) l.length c) rfl rfl (by kernel_rfl) (by kernel_rfl) (by kernel_rfl) hQL (by rfl) (fun w1 _ => (by go_simp)) hS ?_
      try simp only [Act.put, List.setIfInBounds_toArray, List.set_cons_zero, List.set_cons_succ]
      refine late_take (i := 7) (d := some 19) (v := .int .i64 k) rfl rfl (by kernel_rfl) (by kernel_rfl) (by kernel_rfl) hQL (by rfl) (fun w1 _ => (by go_simp)) hS ?_
      try simp only [Act.put, List.setIfInBounds_toArray, List.set_cons_zero, List.set_cons_succ]
      refine late_take (i := 8) (d := some 20) (v := .pointer (some ⟨b, off + k * 3, none⟩)) rfl rfl (by kernel_rfl) (by kernel_rfl) (by kernel_rfl) hQL (by rfl) (fun w1 _ => (by go_simp)) hS ?_
      try simp only [Act.put, List.setIfInBounds_toArray, List.set_cons_zero, List.set_cons_succ]
      refine late_take (i := 9) (d := some 21) (v := .pointer (some ⟨b, off + k * 3 + 1, none⟩)) rfl rfl (by kernel_rfl) (by kernel_rfl) (by kernel_rfl) hQL (by rfl) (fun w1 _ => (by go_simp)) hS ?_
      try simp only [Act.put, List.setIfInBounds_toArray, List.set_cons_zero, List.set_cons_succ]
      refine late_take (i := 10) (d := some 22) (v := .agg #[.string l[k].term.name, .slice xa l[k].term.args.length xc]) rfl rfl (by kernel_rfl) (by kernel_rfl) (by kernel_rfl) hQL (by rfl) (fun w1 hS1 => (by obtain ⟨hc, hf⟩ := bcellG hS1; go_simp)) hS ?_
      try simp only [Act.put, List.setIfInBounds_toArray, List.set_cons_zero, List.set_cons_succ]
      refine wpAnyH_ready (rs := [11]) (by kernel_rfl) (by simp) ?_
      refine AllReadyH.cons rfl (fun K hK => ?_) AllReadyH.nil
      refine step_does rfl ?_
      unfold Does
      go_simp
      go_at_call 61
      refine HPUT.out.mono ?_
      rintro e w1 ⟨u, rfl, hb1, v2, rfl, hr2, hs2⟩
      obtain ⟨a2, c2, rfl, -, -⟩ := Bnd.sd_form hr2
      refine ⟨_, rfl, ?_⟩
      refine hK.out _ _ (World.grownBy.trans hS (grown_of_below hb1 _)) (fun hS => ?_)
      try show wpAnyH _ _ _ _ _ _ _ (Act.put _ (some 23) _) _
      try simp only [Act.put, List.setIfInBounds_toArray, List.set_cons_zero, List.set_cons_succ]
      refine wpAnyH_done (by kernel_rfl) ?_ _
      show wpTail _ _ _ _ _
      refine wpTail_step rfl (fun K hK => ?_)
      obtain ⟨hc, hf⟩ := bcellG hS
      go_simp
      refine hK.out _ _ ?_
      try clear hc hf
      refine wpTail_nil ?_
      have hz1 := hb1.size
      have HB1 : Hid (Below w0.heap.size w0 w0) := Below.refl _ _
      have HBR : Hid (Below (w.heap.size + 1) w0 w1) := HB.out.trans (((Below.refl _ _).drew.trans hb1).mono (Nat.le_of_lt hz))
      have y0 := ((bcellG hS).1 (w.heap.size + 1) 0 hol nn).trans x0
      have y1 := ((bcellG hS).2 (w.heap.size + 1) 0 hol nn).trans x1
      have HR2 := hid hr2
      have HS2 := hid hs2
      have hz2 : w.heap.size + 1 + 1 ≤ w1.heap.size := Nat.le_trans hz hz1
      clear hb1 hr2 hs2 hS x0 x1
      go_wp2_with fail
      go_roundw
      case rel =>
        refine ⟨k + 1, _, by omega, by go_num, World.cell?_setCell_same _ _ _ y0, by rw [World.frozen?_setCell]; exact y1, hid (D.rd_keep ((Keeps.refl _ _).setCell (fun q _ => ?_) _) _ _ (D.rd_mono (fun x hx => ?_) _ _ HR2.out)), HS2, hid (HBR.out.setCell (Nat.le_refl _) _), by rw [World.size_setCell]; exact hz2⟩
        · have q' : w.heap.size + 1 + 1 ≤ w.heap.size + 1 := q
          omega
        · rcases hx with hx | hx
          · exact hx.1
          · exact Nat.le_trans hz hx
      case measure => simp [intOf]; omega
    · obtain rfl : k = l.length := by omega
      have HR' := HR.out
      rw [List.take_length] at HR'
      have HRF := hid HR'
      obtain ⟨a2, c2, rfl, -, -⟩ := Bnd.sd_form HR'
      have r0 : wr.cell? ⟨w.heap.size, 0, none⟩ = some (.slice none 0 0) := (HB.out.cell (p := ⟨w.heap.size, 0, none⟩) (Nat.lt_succ_self _)).trans rb.c0
      have r1 : wr.frozen? ⟨w.heap.size, 0, none⟩ = false := (HB.out.frozen (p := ⟨w.heap.size, 0, none⟩) (Nat.lt_succ_self _)).trans rf
      clear HR'
      go_wp2_with fail
      refine bodyPost_ret (v := .agg #[.slice a2 (pairsB l).length c2]) (by simp [results, Tryz.results36, go_sem, r0]) rfl ?_
      refine ⟨_, rfl, HWB.out.setCell (Nat.le_refl _) _, _, rfl, D.rd_mono (fun x (hx : w.heap.size + 1 + 1 ≤ x) => (by omega : w.heap.size ≤ x)) _ _ (D.rd_keep ((Keeps.refl _ _).setCell (fun q _ => ?_) _) _ _ HRF.out), HSH.out⟩
      have q' : w.heap.size + 1 + 1 ≤ w.heap.size := q
      omega

theorem RdN.no {t u : Tm} {w w0 : World} (hb : Below w.heap.size w w0) (h : matchS t u = none) : RdN (fun v => .agg #[v]) (Bnd.sd (matchR t u).bs) (matchOk t u) w (.returned (.tuple #[.agg #[.slice none 0 0], .bool false])) w0 :=
  ⟨.slice none 0 0, by rw [matchOk, h]; rfl, by rw [matchR, h]; exact rd_nilB, hb⟩
end Go.Proofs.YtglhbaigigdeeaaGreat
/- A clause subsumes another one: plain. -/
namespace Go.Proofs.YtglhbaigigdeeaaGreat
set_option maxRecDepth 100000
open Go.RowKit

theorem Cl.lit_atom {c : Cl} (h : c.valid = true) : c.ls.length ≤ 8 ∧ ∀ x ∈ c.ls, x.atom.atom = true := by
  rw [Cl.valid, Bool.and_eq_true, decide_eq_true_eq, Lit.allOk, List.all_eq_true] at h
  refine ⟨h.2, fun x hx => ?_⟩
  obtain ⟨k, hk, rfl⟩ := List.mem_iff_getElem.1 hx
  exact Lit.okAt_valid hk (h.1 k (List.mem_range.2 hk))
theorem Cl.lit_small {c : Cl} (h : c.valid = true) {x : Lit} (hx : x ∈ c.ls) : x.atom.bulk ≤ 300 ∧ x.atom.size ≤ 30 := Tm.expr_bulk (Tm.atom_expr ((Cl.lit_atom h).2 x hx))
theorem sizesL_le : ∀ (xs : List Lit), (∀ x ∈ xs, x.atom.size ≤ 30) → sizesL xs ≤ xs.length * 30
  | [], _ => by simp [sizesL]
  | x :: xs, h => by
    have h0 := h x (by simp)
    have h1 := sizesL_le xs fun y hy => h y (by simp [hy])
    rw [sizesL, List.length_cons, Nat.add_mul]; omega
/-- what is known of a subsumption is small -/
theorem sub_small {c d : Cl} (hc : c.valid = true) (hd : d.valid = true) {l : List Bnd} (h : subM d.ls c.ls [] = some l) : (⟨pairsB l⟩ : Sb).bulk ≤ 200000 ∧ l.length ≤ 240 ∧ (∀ b ∈ l, b.term.bulk ≤ 300 ∧ b.var.size ≤ 300) ∧ Once l := by
  have hb : ∀ b ∈ l, b.term.bulk ≤ 300 ∧ b.var.size ≤ 300 := subM_all (P := fun b => b.term.bulk ≤ 300 ∧ b.var.size ≤ 300) d.ls c.ls [] l (fun x hx y hy n _ hs v hv => by
    have h1 := Cl.lit_small hc hx
    have h2 := Cl.lit_small hd hy
    simp only; omega) (by simp) h
  have hl := subM_length d.ls c.ls [] l h
  have hs := sizesL_le c.ls fun x hx => (Cl.lit_small hc hx).2
  have h8 := (Cl.lit_atom hc).1
  simp only [List.length_nil, Nat.zero_add] at hl
  have hl2 : l.length ≤ 240 := by omega
  refine ⟨?_, hl2, hb, subM_once d.ls c.ls [] l List.nodup_nil h⟩
  have hp := pairsB_length l
  have hbb : ∀ b ∈ pairsB l, b.bulk ≤ 600 := fun b hbm => by
    have hm := (List.mem_filter.1 ((pairsB_perm l).mem_iff.1 hbm)).1
    have := hb b hm
    rw [Bnd.bulk]; omega
  have := Bnd.bulks_le_each hbb
  rw [Sb.bulk]
  have : (pairsB l).length * 600 ≤ 240 * 600 := Nat.mul_le_mul_right _ (by omega)
  simp only
  omega
/-- what Subsumes returns -/
def subS (c d : Cl) : Option (List Bnd) := if (c.valid && d.valid) = true then match subM d.ls c.ls [] with
  | some l => if (⟨pairsB l⟩ : Sb).valid = true then some (pairsB l) else none
  | none => none
  else none
def subR (c d : Cl) : Sb := ⟨(subS c d).getD []⟩
def subOk (c d : Cl) : Bool := (subS c d).isSome
theorem subS_no {c d : Cl} (h : (c.valid && d.valid) = false) : subS c d = none := by rw [subS, h, if_neg (by decide)]
theorem subS_none {c d : Cl} (h : subM d.ls c.ls [] = none) : subS c d = none := by rw [subS, h]; split <;> rfl
theorem subS_bad {c d : Cl} {l : List Bnd} (h : subM d.ls c.ls [] = some l) (hv : (⟨pairsB l⟩ : Sb).valid = false) : subS c d = none := by
  rw [subS, h]; simp only [hv, Bool.false_eq_true, if_false, ite_self]
theorem subS_some {c d : Cl} {l : List Bnd} (he : (c.valid && d.valid) = true) (h : subM d.ls c.ls [] = some l) (hv : (⟨pairsB l⟩ : Sb).valid = true) : subS c d = some (pairsB l) := by
  rw [subS, h, if_pos he]; simp only [hv, if_true]
theorem subR_bulk (c d : Cl) : (subR c d).bulk ≤ 200000 := by
  rw [subR, subS]
  split
  · rename_i he
    rw [Bool.and_eq_true] at he
    split
    · rename_i l hl
      split
      · exact (sub_small he.1 he.2 hl).1
      · simp [Sb.bulk, Bnd.bulks]
    · simp [Sb.bulk, Bnd.bulks]
  · simp [Sb.bulk, Bnd.bulks]
/-- the order of what is known does not matter -/
theorem pairsB_one {l k : List Bnd} (ho : Once l) (hp : l.Perm k) : pairsB l = pairsB k :=
  asc_unique (pairsB_asc (fun h k => blt_trans h k) ho) (pairsB_asc (fun h k => blt_trans h k) (ho.perm hp)) ((pairsB_perm l).trans ((hp.filter moved).trans (pairsB_perm k).symm))
end Go.Proofs.YtglhbaigigdeeaaGreat
/- The program matches literals one after the other. -/
namespace Go.Proofs.YtglhbaigigdeeaaGreat
set_option maxRecDepth 100000
open Go.RowKit

theorem Lit.tail_rd {S : Nat → Prop} {w : World} {b off n cap : Nat} {x : Lit} {xs : List Lit} (h : D.rd S w (.slice (some ⟨b, off, none⟩) n cap) (Lit.sd (x :: xs))) : D.rd S w (.slice (some ⟨b, off + 3, none⟩) xs.length (cap - 1)) (Lit.sd xs) := by
  rw [Lit.sd_css, D.rd] at h ⊢
  obtain ⟨a', cap', e, h1, h2, h3, h4⟩ := h
  injection e with e0 e1 e2
  subst e0 e1 e2
  obtain ⟨b', off', q0, q1, q2, q3⟩ := h4 (Lit.css_ne (by simp))
  injection q0 with q0; injection q0 with r0 r1
  subst r0 r1
  rw [Lit.css_flat, List.flatMap_cons, Lit.cs_eq] at q3
  simp only [List.cons_append, List.nil_append, D.rds] at q3
  simp only [List.length_cons] at h1 h2
  exact ⟨_, _, rfl, by omega, by omega, fun h0 => Lit.css_ne fun e => h0 (by rw [e]; rfl), fun _ => ⟨b, off + 3, rfl, q1, q2, by rw [Lit.css_flat]; exact q3.2.2.2⟩⟩

theorem drewN_below {w : World} {B n : Nat} : Below B w (w.drewN n) := ⟨rfl, rfl, rfl, Nat.le_refl _, fun _ _ => rfl⟩
/-- what subsume comes to -/
def SubEnd (o : Option (List Bnd)) (S : Nat → Prop) (w : World) (e : Ending) (w' : World) : Prop := ∃ (mv : Value) (o' : Option (List Bnd)), e = .returned (.tuple #[mv, .bool o'.isSome]) ∧ PermO o o' ∧ Below w.heap.size w w' ∧ (o' = none → mv = .map none) ∧ ∀ l', o' = some l' → ∃ mb' kv', mv = .map (some mb') ∧ MapIs w' mb' kv' ∧ KvRd S w' kv' l'
def SubI (ds xs : List Lit) : Prop := ∀ (l : List Bnd) (kv : List (ByteArray × Value)) (mb : Nat) (S : Nat → Prop) (v c : Value) (w : World), MapIs w mb kv → KvRd S w kv l → Once l → (∀ x, S x → x < w.heap.size) → D.rd S w v (Lit.sd xs) → D.rd S w c (Lit.sd ds) → (∀ x ∈ xs, x.atom.nice = true ∧ x.atom.leafy) → l.length + sizesL xs ≤ 1048576 →
  Calls Tryz.prog 63 #[.map (some mb), v, .agg #[c]] w (SubEnd (subM ds xs l) S w)

theorem subI_nil (ds : List Lit) : SubI ds [] := by
  intro l kv mb S v c w hmap hkv ho hS hv hc hni hlen
  obtain ⟨a, cap, rfl, -, -⟩ := Lit.sd_form hv
  obtain ⟨ca, cc, rfl, -, -⟩ := Lit.sd_form hc
  have HA : Hid (Below w.heap.size w (w.alloc (.cells #[.slice ca ds.length cc] 26))) := (Below.refl _ _).alloc (Nat.le_refl _) _
  have HM := hid hmap
  have HK := hid hkv
  clear hmap hkv ho hS hv hc hni hlen
  show Calls _ _ #[_, .slice a 0 cap, _] _ _
  go_enter Tryz.func63, Tryz.ntmps63
  go_wp2_with fail
  go_ret2
  refine ⟨.map (some mb), some l, rfl, List.Perm.refl _, HA.out, ?_, ?_⟩
  · intro h; cases h
  · intro l' h
    injection h with h
    subst h
    exact ⟨mb, kv, rfl, HM.out.keep (Keeps.all HA.out), HK.out.keep (Keeps.all HA.out)⟩

set_option maxHeartbeats 4000000 in
theorem subI_cons (ds : List Lit) (x : Lit) (xs : List Lit) (ih : SubI ds xs) : SubI ds (x :: xs) := by
  intro l kv mb S v c w hmap hkv ho hS hv hc hni hlen
  obtain ⟨a, cap, rfl, hlb, hlc⟩ := Lit.sd_form hv
  obtain ⟨ca, cc, rfl, hdb, hdc⟩ := Lit.sd_form hc
  unfold big at hlb hdb
  obtain ⟨bx, ox, rfl, hSx, hbx, hrx⟩ := Lit.sd_get hv (by simp)
  obtain ⟨u0, u1, u2, x0, x1, x2, xx⟩ := hrx 0 (by simp)
  obtain ⟨rfl, rfl, xa, xc, rfl⟩ := Lit.at_form xx
  simp only [List.getElem_cons_zero, Nat.zero_mul, Nat.add_zero] at x0 x1 x2 xx
  replace x2 : w.cell? ⟨bx, ox + 1 + 1, none⟩ = some (.slice xa x.atom.args.length xc) := x2
  have HTL := hid (Lit.tail_rd hv)
  obtain ⟨n, Hn⟩ : ∃ n, Hid ((x :: xs).length = n) := ⟨_, hid rfl⟩
  rw [Hn.out] at hlb hlc ⊢
  have hn1 : n = xs.length + 1 := Hn.out.symm
  have hxl : xs.length = n - 1 := by omega
  have hnc : (n : Int) ≤ (cap : Int) := by omega
  have hnz : ((n : Int) == 0) = false := by simp; omega
  have hnl : (1 : Int) ≤ (n : Int) := by omega
  have hnp : (0 : Int) < (n : Int) := by omega
  have hnq : 0 < n := by omega
  have hnr : ¬ n = 0 := by omega
  have HA : Hid (Below w.heap.size w (w.alloc (.cells #[.slice ca ds.length cc] 26))) := (Below.refl _ _).alloc (Nat.le_refl _) _
  have bC : Box (w.alloc (.cells #[.slice ca ds.length cc] 26)) w.heap.size [.slice ca ds.length cc] := Box.new _ _ _
  have HW0 : Hid ((w.alloc (.cells #[.slice ca ds.length cc] 26)).heap.size = w.heap.size + 1) := by simp [Hid]
  have HM := hid hmap
  have HK := hid hkv
  have HO := hid ho
  have HS := hid hS
  have HC := hid hc
  have HX := hid (Lit.at_atom xx)
  have HNI := hid hni
  have HIH := hid ih
  have hml := hmap.lt
  have hsz : sizesL (x :: xs) = x.atom.size + sizesL xs := rfl
  rw [hsz] at hlen
  have hln := hid hlen
  have hll : l.length ≤ 1048576 := by omega
  have HXL := hid hxl
  have HTI : Hid (D.rd S w (.slice (if cap = 1 then some ⟨bx, ox, none⟩ else some ⟨bx, ox + 3, none⟩) (n - 1) (cap - 1)) (Lit.sd xs)) := by
    rw [Hid, ← hxl]
    split
    · have hx0 : xs = [] := List.length_eq_zero_iff.1 (by omega)
      subst hx0
      rw [Lit.sd_css, D.rd]
      exact ⟨_, _, rfl, by simp, by simp, by simp, by simp [Lit.css]⟩
    · exact HTL.out
  clear hmap hkv ho hS hv hc hni hrx xx ih hsz hlen hn1 hxl
  have eC0 := bC.c0
  go_enter Tryz.func63, Tryz.ntmps63
  go_wp2_with fail
  generalize (w.alloc (.cells #[.slice ca ds.length cc] 26)) = w0 at *
  clear eC0
  have hw0 := HW0.out
  go_loopw [20] (fun i wr => ∃ k : Nat, k ≤ ds.length ∧ i = .int .i64 k ∧ Hid (subM ds (x :: xs) l = tryM (subM ds xs) x (ds.drop k) l) ∧ Hid (Below w0.heap.size w0 wr)) (fun i _ => ds.length - (intOf i).toNat)
  case atStart => exact ⟨0, Nat.zero_le _, rfl, rfl, Below.refl _ _⟩
  case round =>
    obtain ⟨k, hk, rfl, HT, HB⟩ := hrel
    have HWR := hid (HA.out.trans (HB.out.mono (by omega)))
    have hzr := HB.out.size
    by_cases hlt : k < ds.length
    · have hne : ds ≠ [] := by intro e; subst e; simp at hlt
      obtain ⟨bd, od, rfl, hSd, hbd, hrd⟩ := Lit.sd_get HC.out hne
      obtain ⟨v0, v1, v2, q0, q1, q2, qx⟩ := hrd k hlt
      have HY := hid (Lit.at_atom qx)
      obtain ⟨rfl, rfl, ya, yc, rfl⟩ := Lit.at_form qx
      replace q0 := (HWR.out.cell (p := ⟨bd, od + k * 3, none⟩) hbd).trans q0
      replace q1 := (HWR.out.cell (p := ⟨bd, od + k * 3 + 1, none⟩) hbd).trans q1
      replace q2 : wr.cell? ⟨bd, od + k * 3 + 1 + 1, none⟩ = some (.slice ya ds[k].atom.args.length yc) := (HWR.out.cell (p := ⟨bd, od + k * 3 + 2, none⟩) hbd).trans q2
      have hT0 : (0 : Int) ≤ (k : Int) := by omega
      clear hrd qx
      go_wp2_with fail
      have HB1 : Hid (Below wr.heap.size wr (wr.alloc (.cells #[.bool ds[k].pos, .string ds[k].atom.name, .slice ya ds[k].atom.args.length yc] 58))) := (Below.refl _ _).alloc (Nat.le_refl _) _
      have bL : Box (wr.alloc (.cells #[.bool ds[k].pos, .string ds[k].atom.name, .slice ya ds[k].atom.args.length yc] 58)) wr.heap.size [.bool ds[k].pos, .string ds[k].atom.name, .slice ya ds[k].atom.args.length yc] := Box.new _ _ _
      generalize (wr.alloc (.cells #[.bool ds[k].pos, .string ds[k].atom.name, .slice ya ds[k].atom.args.length yc] 58)) = wa at *
      have hla := bL.lt
      have HWA := hid (HWR.out.trans (HB1.out.mono HWR.out.size))
      have hzw := HWA.out.size
      refine (copyMatching_any (HM.out.keep (Keeps.all HWA.out)) (HK.out.keep (Keeps.all HWA.out)) HO.out (fun y hy => Nat.lt_of_lt_of_le (HS.out y hy) HWA.out.size) hll).mono ?_
      rintro e w1 ⟨rfl, ⟨kv1, l1, hp1, hm1, hk1⟩, hb1⟩
      obtain ⟨nb, Hnb⟩ : ∃ nb, Hid (wa.heap.size = nb) := ⟨_, hid rfl⟩
      rw [Hnb.out] at hm1 ⊢
      have HM1 := hid hm1
      have HK1 := hid hk1
      have HP1 := hid hp1
      have HW1 := hid (HWA.out.trans (hb1.mono HWA.out.size))
      have HB2 := hid (HB.out.trans ((HB1.out.trans (hb1.mono HB1.out.size)).mono HB.out.size))
      replace bL := bL.keep hb1
      have hz1 := hb1.size
      clear hm1 hk1 hp1 q0 q1 q2 hb1
      have e0 := bL.c0
      have e1 := bL.c1
      have e2 : w1.cell? ⟨wr.heap.size, 1 + 1, none⟩ = _ := bL.c2
      have y0 := (HW1.out.cell (p := ⟨bx, ox, none⟩) hbx).trans x0
      have y1 := (HW1.out.cell (p := ⟨bx, ox + 1, none⟩) hbx).trans x1
      have y2 := (HW1.out.cell (p := ⟨bx, ox + 1 + 1, none⟩) hbx).trans x2
      have lL := bL.lt
      have hbx1 := Nat.lt_of_lt_of_le hbx HW1.out.size
      have HO1 := hid (HO.out.perm HP1.out)
      have hmm := matI_any x.atom ds[k].atom l1 kv1 nb S _ _ _ _ w1.drew (HM1.out.keep (Keeps.all ((Below.refl _ _).drew))) (HK1.out.keep (Keeps.all ((Below.refl _ _).drew))) HO1.out (fun y hy e => by have h1 := HS.out y hy; have h2 := Hnb.out; omega) (Tm.at_keep (Keeps.all (HW1.out.drew)) HX.out) (Tm.at_keep (Keeps.all (HW1.out.drew)) HY.out) (HNI.out x (by simp)).1 (HNI.out x (by simp)).2
      by_cases hsg : x.pos = ds[k].pos
      · have HSG := hid hsg
        have hs1 : (ds[k].pos != x.pos) = false := by rw [hsg]; simp
        have hs2 : (ds[k].pos == x.pos) = true := by rw [hsg]; simp
        clear hsg
        obtain ⟨o, Ho⟩ : ∃ o, Hid (Tm.mat x.atom ds[k].atom l1 = o) := ⟨_, hid rfl⟩
        have hml := Tm.mat_length x.atom ds[k].atom l1
        have hmo := Tm.mat_once x.atom ds[k].atom l1
        rw [Ho.out] at hmm hml hmo
        have HMM := hid hmm
        have HML := hid hml
        have HMO := hid (hmo · HO1.out)
        have HPO : Hid (PermO (Tm.mat x.atom ds[k].atom l) o) := by rw [← Ho.out]; exact Tm.mat_perm _ _ _ _ HP1.out HO.out
        clear hmm hml hmo
        have hS0 : w1.cell? ⟨wr.heap.size, 0, none⟩ = some (.bool ds[k].pos) ∧ w1.cell? ⟨wr.heap.size, 1, none⟩ = some (.string ds[k].atom.name) ∧ w1.cell? ⟨wr.heap.size, 1 + 1, none⟩ = some (.slice ya ds[k].atom.args.length yc) ∧ w1.cell? ⟨bx, ox, none⟩ = some (.bool x.pos) ∧ w1.cell? ⟨bx, ox + 1, none⟩ = some (.string x.atom.name) ∧ w1.cell? ⟨bx, ox + 1 + 1, none⟩ = some (.slice xa x.atom.args.length xc) := ⟨e0, e1, e2, y0, y1, y2⟩
        have HK4 : Hid (∀ w4, w1.drew.grownBy w4 (some nb) → (w4.cell? ⟨wr.heap.size, 0, none⟩ = some (.bool ds[k].pos) ∧ w4.cell? ⟨wr.heap.size, 1, none⟩ = some (.string ds[k].atom.name) ∧ w4.cell? ⟨wr.heap.size, 1 + 1, none⟩ = some (.slice ya ds[k].atom.args.length yc) ∧ w4.cell? ⟨bx, ox, none⟩ = some (.bool x.pos) ∧ w4.cell? ⟨bx, ox + 1, none⟩ = some (.string x.atom.name) ∧ w4.cell? ⟨bx, ox + 1 + 1, none⟩ = some (.slice xa x.atom.args.length xc))) := fun w4 hg4 => by
          have n1 : ¬ (some nb : Option Nat) = some wr.heap.size := fun e => by injection e with e; have h2 := Hnb.out; omega
          have n2 : ¬ (some nb : Option Nat) = some bx := fun e => by injection e with e; have h2 := Hnb.out; omega
          exact ⟨((bcellG hg4).1 _ 0 lL n1).trans e0, ((bcellG hg4).1 _ 1 lL n1).trans e1, ((bcellG hg4).1 _ (1 + 1) lL n1).trans e2, ((bcellG hg4).1 _ _ hbx1 n2).trans y0, ((bcellG hg4).1 _ _ hbx1 n2).trans y1, ((bcellG hg4).1 _ _ hbx1 n2).trans y2⟩
        go_wp2_with fail
        go_region_held3 (fun w' => w'.cell? ⟨wr.heap.size, 0, none⟩ = some (.bool ds[k].pos) ∧ w'.cell? ⟨wr.heap.size, 1, none⟩ = some (.string ds[k].atom.name) ∧ w'.cell? ⟨wr.heap.size, 1 + 1, none⟩ = some (.slice ya ds[k].atom.args.length yc) ∧ w'.cell? ⟨bx, ox, none⟩ = some (.bool x.pos) ∧ w'.cell? ⟨bx, ox + 1, none⟩ = some (.string x.atom.name) ∧ w'.cell? ⟨bx, ox + 1 + 1, none⟩ = some (.slice xa x.atom.args.length xc))
          (first | exact hS0 | exact hS1 | assumption)
          (first | (go_at_call 89; refine HMM.out.mono ?_; rintro e w4 ⟨rfl, hg4, hsome⟩; have hS1 := HK4.out _ hg4))
        have HW4 : Hid (Below w.heap.size w w4) := (HW1.out.drew).grown hg4 (by show w.heap.size ≤ w1.heap.size; exact HW1.out.size) (fun j hj => by injection hj with hj; have h2 := Hnb.out; omega)
        have HB4 : Hid (Below w0.heap.size w0 w4) := (HB2.out.drew).grown hg4 (by show w0.heap.size ≤ w1.heap.size; exact HB2.out.size) (fun j hj => by injection hj with hj; have h2 := Hnb.out; omega)
        cases o with
        | none =>
          have HTN : Hid (subM ds (x :: xs) l = tryM (subM ds xs) x (ds.drop (k + 1)) l) := HT.out.trans (tryM_no hlt HPO.out.none_r)
          clear hsome hS1 hg4 hS0 e0 e1 e2 y0 y1 y2
          go_wp2_with fail
          go_roundw
          case rel => exact ⟨k + 1, by omega, by go_num, HTN, HB4⟩
          case measure => simp [intOf]; omega
        | some l2 =>
          obtain ⟨kv2, hm2, hk2⟩ := hsome l2 rfl
          obtain ⟨l3, hl3, hp3⟩ := HPO.out.some_r
          have HL3 := hid hl3
          have HP3 := hid hp3
          have HO2 : Hid (Once l2) := HMO.out l2 rfl
          have hq := HIH.out l2 kv2 nb S (.slice (if cap = 1 then some ⟨bx, ox, none⟩ else some ⟨bx, ox + 3, none⟩) (n - 1) (cap - 1)) (.slice (some ⟨bd, od, none⟩) ds.length cc) w4.drew (hm2.keep (Keeps.all ((Below.refl _ _).drew))) (hk2.keep (Keeps.all ((Below.refl _ _).drew))) HO2.out (fun y hy => Nat.lt_of_lt_of_le (HS.out y hy) HW4.out.size) (D.rd_keep (Keeps.all HW4.out.drew) _ _ HTI.out) (D.rd_keep (Keeps.all HW4.out.drew) _ _ HC.out) (fun z hz => HNI.out z (by simp [hz])) (by have h1 := HML.out l2 rfl; have h2 := HP1.out.length_eq; have h3 := hln.out; omega)
          obtain ⟨pa, hpa⟩ : ∃ pa, (if cap = 1 then some (⟨bx, ox, none⟩ : Addr) else some ⟨bx, ox + 3, none⟩) = pa := ⟨_, rfl⟩
          rw [hpa] at hq
          have HQ := hid hq
          have bC4 := bC.keep HB4.out
          have eC0 := bC4.c0
          have lC := bC4.lt
          clear hsome hS1 hg4 hS0 e0 e1 e2 y0 y1 y2 hm2 hk2 hl3 hp3 hq
          go_wp2_with fail
          go_region_held3 (fun w' => w'.cell? ⟨w.heap.size, 0, none⟩ = some (.slice (some ⟨bd, od, none⟩) ds.length cc))
            (first | exact eC0 | exact hC1 | assumption)
            (first | (go_at_call 63; refine HQ.out.mono ?_; rintro e w5 ⟨mv, o', rfl, hpo, hb5, hno, hso⟩; have HNO := hid hno; have HSO := hid hso; have HPO5 := hid hpo; clear hno hso hpo; obtain ⟨ob, Hob⟩ : ∃ ob, Hid (o'.isSome = ob) := ⟨_, hid rfl⟩; rw [Hob.out]; have hC1 := (hb5.cell (p := ⟨w.heap.size, 0, none⟩) lC).trans eC0))
          have HW5 : Hid (Below w.heap.size w w5) := HW4.out.trans ((Below.refl _ _).drew.trans hb5 |>.mono HW4.out.size)
          have HB5 : Hid (Below w0.heap.size w0 w5) := HB4.out.trans ((Below.refl _ _).drew.trans hb5 |>.mono HB4.out.size)
          have HSP : Hid (PermO (subM ds xs l3) o') := (subM_perm ds xs l3 l2 HP3.out (Tm.mat_once _ _ _ _ HO.out HL3.out)).trans HPO5.out
          cases o' with
          | none =>
            obtain rfl := HNO.out rfl
            obtain rfl : false = ob := Hob.out
            have HTN : Hid (subM ds (x :: xs) l = tryM (subM ds xs) x (ds.drop (k + 1)) l) := HT.out.trans (tryM_off hlt HL3.out HSP.out.none_r)
            clear HNO HSO hC1 HPO5 hb5 eC0
            go_wp2_with fail
            go_roundw
            case rel => exact ⟨k + 1, by omega, by go_num, HTN, HB5⟩
            case measure => simp [intOf]; omega
          | some l' =>
            obtain ⟨mb', kv', rfl, hm', hk'⟩ := HSO.out l' rfl
            obtain rfl : true = ob := Hob.out
            obtain ⟨l4, hl4, hp4⟩ := HSP.out.some_r
            have HTY : Hid (subM ds (x :: xs) l = some l4) := HT.out.trans (tryM_yes hlt HSG.out HL3.out hl4)
            have HP4 := hid hp4
            have HM5 := hid hm'
            have HK5 := hid hk'
            clear HNO HSO hC1 HPO5 hb5 eC0 hm' hk' hl4 hp4
            go_wp2_with fail
            go_ret2
            refine ⟨_, some l', rfl, by rw [HTY.out]; exact HP4.out, HW5.out, ?_, ?_⟩
            · intro h; cases h
            · intro l5 h
              injection h with h
              subst h
              exact ⟨mb', kv', rfl, HM5.out, HK5.out⟩
      · have HTN : Hid (subM ds (x :: xs) l = tryM (subM ds xs) x (ds.drop (k + 1)) l) := HT.out.trans (tryM_sign hlt hsg)
        have hs1 : (ds[k].pos != x.pos) = true := by rw [bne_iff_ne]; exact fun e => hsg e.symm
        have hs2 : (ds[k].pos == x.pos) = false := by rw [beq_eq_false_iff_ne]; exact fun e => hsg e.symm
        clear hmm hsg
        go_wp2_with fail
        go_quiet (fail)
        clear e0 e1 e2 y0 y1 y2
        go_wp2_with fail
        go_roundw
        case rel => exact ⟨k + 1, by omega, by go_num, HTN, hid (HB2.out.trans drewN_below)⟩
        case measure => simp [intOf]; omega
    · obtain rfl : k = ds.length := by omega
      have HF : Hid (subM ds (x :: xs) l = none) := HT.out.trans (tryM_end (Nat.lt_irrefl _))
      go_wp2_with fail
      go_ret2
      exact ⟨_, none, rfl, by rw [HF.out]; trivial, HWR.out, fun _ => rfl, fun l' h => by cases h⟩
theorem subI_any (ds : List Lit) : ∀ xs, SubI ds xs
  | [] => subI_nil ds
  | x :: xs => subI_cons ds x xs (subI_any ds xs)
end Go.Proofs.YtglhbaigigdeeaaGreat
