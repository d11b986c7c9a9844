/- The variables of a clause. -/
import Derived.Test.YtoekonkpephocaaVr
import Derived.Test.YtoekonkpephocaaCv
import Derived.Test.YtoekonkpephocaaMl
namespace Go.Proofs.Ytoekonkpephocaa
set_option maxRecDepth 100000
open Go.RowKit

theorem colls_mem (m : ByteArray) : ∀ (ts : List Tm), (∀ t ∈ ts, t.leafy) → ∀ l, m ∈ Tm.colls ts l ↔ m ∈ l ∨ Tm.haveVar m ts
  | [], _, l => by simp [Tm.colls, Tm.haveVar]
  | t :: ts, h, l => by rw [Tm.colls, Tm.haveVar, colls_mem m ts (fun a ha => h a (by simp [ha])), coll_mem m t l (h t (by simp)), or_assoc]
theorem intos_mem (m : ByteArray) : ∀ (ts : List Tm) l, m ∈ Tm.intos ts l ↔ m ∈ l ∨ Tm.haveVar m ts
  | [], l => by simp [Tm.intos, Tm.haveVar]
  | t :: ts, l => by rw [Tm.intos, Tm.haveVar, intos_mem m ts, Tm.into_mem, or_assoc]
theorem colls_nodup : ∀ (ts : List Tm) (l : List ByteArray), l.Nodup → (Tm.colls ts l).Nodup
  | [], l, h => by simpa [Tm.colls] using h
  | t :: ts, l, h => by rw [Tm.colls]; exact colls_nodup ts _ (coll_nodup t l h)
theorem asc_intos : ∀ (ts : List Tm) (l : List ByteArray), Asc l → Asc (Tm.intos ts l)
  | [], l, h => by simpa [Tm.intos] using h
  | t :: ts, l, h => by rw [Tm.intos]; exact asc_intos ts _ (asc_into t l h)
theorem vars_sorteds {ts : List Tm} (h : ∀ t ∈ ts, t.leafy) : ((Tm.colls ts []).map tl).mergeSort (fun x y => decide (x ≤ y)) = (Tm.intos ts []).map tl :=
  sort_eq (colls_nodup ts [] (by simp)) (asc_intos ts [] List.Pairwise.nil) fun m => by rw [colls_mem m ts h [], intos_mem]

def Cl.atoms (c : Cl) : List Tm := c.ls.map (·.atom)
theorem Cl.atoms_length (c : Cl) : c.atoms.length = c.ls.length := by simp [Cl.atoms]
theorem Cl.atoms_get (c : Cl) (k : Nat) (h : k < c.ls.length) (h' : k < c.atoms.length) : c.atoms[k] = c.ls[k].atom := by simp [Cl.atoms]
theorem Cl.atoms_sizes (c : Cl) : Tm.sizes c.atoms ≤ c.bulk := by
  have : ∀ ls : List Lit, Tm.sizes (ls.map (·.atom)) ≤ ls.length + Lit.bulks ls := by
    intro ls
    induction ls with
    | nil => simp [Tm.sizes]
    | cons l ls ih =>
      have := Tm.size_bulk l.atom
      simp only [List.map_cons, Tm.sizes, List.length_cons, Lit.bulks, Lit.bulk]; omega
  exact this c.ls
theorem Cl.atoms_ok {c : Cl} (h : c.valid = true) : ∀ t ∈ c.atoms, t.atom = true := by
  intro t ht
  obtain ⟨l, hl, rfl⟩ := List.mem_map.1 ht
  obtain ⟨k, hk, rfl⟩ := List.mem_iff_getElem.1 hl
  rw [Cl.valid, Bool.and_eq_true, Lit.allOk, List.all_eq_true] at h
  exact Lit.okAt_valid hk (h.1 k (List.mem_range.2 hk))
theorem Tm.atom_nice {t : Tm} (h : t.atom = true) : t.nice = true := by
  refine Tm.expr_nice ?_
  rw [Tm.expr_eq, Bool.or_eq_true, Bool.and_eq_true]
  by_cases he : t.isEq = true
  · exact .inr ⟨he, h⟩
  · left
    rw [Tm.atom_eq, if_neg (by simpa [Tm.isEq] using he), Bool.and_eq_true] at h
    exact h.2

set_option maxHeartbeats 2000000 in
theorem namesIn_any (t : Cl) {S : Nat → Prop} {c0 : Value} {w : World} (hT : Cl.at S w c0 t) (hbk : t.bulk ≤ 1048576) (hni : ∀ a ∈ t.atoms, a.nice = true) :
    Calls Try.prog 140 #[.agg #[c0]] w fun e w' => ∃ g cap, e = .returned (.slice (some ⟨g, 0, none⟩) (Tm.colls t.atoms []).length cap) ∧ GS w' w.heap.size (.slice (some ⟨g, 0, none⟩) (Tm.colls t.atoms []).length cap) (Tm.colls t.atoms []) ∧ Below w.heap.size w w' := by
  have hal := t.atoms_length
  have has := t.atoms_sizes
  have hlen : t.ls.length ≤ 1048576 := by rw [Cl.bulk] at hbk; omega
  have HT := hid (D.rd_lt _ _ hT)
  obtain ⟨a, cap, rfl⟩ := Cl.at_form hT
  have hW : Below w.heap.size w (w.alloc (.cells #[.slice a t.ls.length cap] 88)) := (Below.refl _ _).alloc (Nat.le_refl _) _
  have bT : Box (w.alloc (.cells #[.slice a t.ls.length cap] 88)) w.heap.size [.slice a t.ls.length cap] := Box.new w _ _
  have x0 := bT.c0
  go_enter Try.func140, Try.ntmps140
  go_wp2_with fail
  clear x0
  go_loopw [3, 10] (fun x i wr => ∃ k : Nat, k ≤ t.ls.length ∧ i = .int .i64 k ∧ Hid (GS wr w.heap.size x (Tm.colls (t.atoms.take k) [])) ∧ Hid (x ≠ .slice none 0 0) ∧ Below w.heap.size w wr) (fun _ i _ => t.ls.length - (intOf i).toNat)
  case atStart => exact ⟨0, Nat.zero_le _, rfl, by rw [List.take_zero, Tm.colls]; exact GS.made (by simp) (by simp), hid (by intro e; cases e), hW.alloc (by simp) _⟩
  case round =>
    obtain ⟨k, hk, rfl, HG, HN, hb⟩ := hrel
    by_cases hlt : k < t.ls.length
    · have hne : t.ls ≠ [] := by intro e; rw [e] at hlt; simp at hlt
      obtain ⟨b, off, rfl, hSb, hbl, hrr⟩ := Lit.sd_get (D.rd_keep (Keeps.all hb) _ _ HT.out) hne
      obtain ⟨c0, c1, c2, q0, q1, q2, qx⟩ := hrr k hlt
      obtain ⟨rfl, rfl, qa, qc, rfl⟩ := Lit.at_form qx
      have hA : Below wr.heap.size wr (wr.alloc (.cells #[.bool t.ls[k].pos, .string t.ls[k].atom.name, .slice qa t.ls[k].atom.args.length qc] 126)) := (Below.refl _ _).alloc (Nat.le_refl _) _
      have hga := Cl.atoms_get t k hlt (by omega)
      have hmem : t.ls[k].atom ∈ t.atoms := by rw [← hga]; exact List.getElem_mem _
      have hst := Tm.sizes_take t.atoms k (by omega)
      have hsl := Tm.sizes_le t.atoms (k + 1)
      have hcl := Tm.colls_length (t.atoms.take k) []
      have hbm : t.ls[k].atom.bulk ≤ 1048576 := by have := Lit.bulk_mem (List.getElem_mem hlt); rw [Cl.bulk] at hbk; have h3 : t.ls[k].bulk = t.ls[k].atom.bulk := rfl; omega
      rw [hga] at hst
      simp only [List.length_nil, Nat.zero_add] at hcl
      have hq := collIs_any t.ls[k].atom _ _ w.heap.size _ _ _ _ (HG.out.keep hA) (by rw [World.size_alloc]; have := hb.size; omega) (Tm.at_keep (Keeps.all hA) (Lit.at_atom qx)) (fun x hx => hx) (hni _ hmem) hbm (by omega)
      rw [← hga, ← Tm.colls_take _ _ _ (by omega)] at hq
      have q3 : wr.cell? ⟨b, off + k * 3 + 1 + 1, none⟩ = some (.slice qa t.ls[k].atom.args.length qc) := q2
      clear hrr hst hsl hcl
      rw [hga] at hq
      have hvl := HG.out.lt
      go_wp2_with fail
      refine hq.mono ?_
      rintro e w2 ⟨v2, rfl, hg2, hgr2, hgo2, hnn2⟩
      have HG2 := hid hg2
      have HN2 := hid (hnn2 HN.out)
      have hb2 : Below w.heap.size w w2 := Below.grown (hb.trans (hA.mono hb.size)) hgr2 (by rw [World.size_alloc]; have := hb.size; omega) (fun x hx => (hvl x hx).1)
      clear hq hg2 hgr2 hgo2 hnn2
      go_wp2_with fail
      go_roundw
      case rel => exact ⟨k + 1, by omega, by go_num, HG2, HN2, hb2⟩
      case measure => simp [intOf]; omega
    · obtain rfl : k = t.ls.length := by omega
      have hg := HG.out
      rw [← hal, List.take_length] at hg
      obtain ⟨g, c, rfl⟩ := hg.addr HN.out
      go_wp2_with fail
      go_ret
      exact ⟨g, c, rfl, hg, hb⟩

/-- the variables of a clause -/
def Cl.vars (c : Cl) : List ByteArray := Tm.intos c.atoms []
theorem Cl.vars_length (c : Cl) : c.vars.length ≤ c.bulk := by
  have := Tm.intos_length c.atoms []
  have := c.atoms_sizes
  unfold Cl.vars
  simp at *; omega
set_option maxHeartbeats 2000000 in
theorem clauseVariables_any (t : Cl) {S : Nat → Prop} {c0 : Value} {w : World} (ht : Cl.at S w c0 t) (hbk : t.bulk ≤ 1048576) (hni : ∀ a ∈ t.atoms, a.nice = true) (hlf : ∀ a ∈ t.atoms, a.leafy) : Calls Try.prog 104 #[.agg #[c0]] w (MadeSS t.vars w) := by
  have has := t.atoms_sizes
  obtain ⟨cs, Hcs⟩ : ∃ cs, Hid (Tm.colls t.atoms [] = cs) := ⟨_, hid rfl⟩
  obtain ⟨vs, Hvs⟩ : ∃ vs, Hid (t.vars = vs) := ⟨_, hid rfl⟩
  have HL : Hid ((cs.map tl).mergeSort (fun x y => decide (x ≤ y)) = vs.map tl) := by rw [← Hcs.out, ← Hvs.out]; exact vars_sorteds hlf
  have HC : Hid (cs.length = vs.length) := by
    have := congrArg List.length HL.out
    rw [Hid]
    simpa using this
  have hcl := Tm.colls_length t.atoms []
  simp only [List.length_nil, Nat.zero_add] at hcl
  rw [Hcs.out] at hcl
  rw [Hvs.out]
  obtain ⟨ta, tc, rfl⟩ := Cl.at_form ht
  have hW : Below w.heap.size w (w.alloc (.cells #[.slice ta t.ls.length tc] 88)) := (Below.refl _ _).alloc (Nat.le_refl _) _
  have bt : Box (w.alloc (.cells #[.slice ta t.ls.length tc] 88)) (w.heap.size) [.slice ta t.ls.length tc] := by
    have := (Box.new w [.slice ta t.ls.length tc] 88)
    simpa only [World.size_alloc] using this
  replace ht := Cl.at_keep (Keeps.all hW) ht
  have et0 := bt.c0
  have lt := bt.lt
  go_enter Try.func104, Try.ntmps104
  go_wp2_with fail
  clear et0 lt
  have Hw0 : Hid ((w.alloc (.cells #[.slice ta t.ls.length tc] 88)).heap.size = w.heap.size + 1) := by simp [Hid]
  generalize (w.alloc (.cells #[.slice ta t.ls.length tc] 88)) = w0 at *
  have hq := namesIn_any t ht hbk hni
  rw [Hcs.out] at hq
  refine hq.mono ?_
  rintro e w1 ⟨g, cap, rfl, hg1, hb⟩
  have hb1 := hW.trans (hb.mono hW.size)
  have hgl := hg1.lt g rfl
  have hg0 := hg1.mono hW.size
  have hs := sort_strs (ts := vs) hg0 (by omega) HL.out
  rw [HC.out] at hs hg1 ⊢
  have hwz := hW.size
  clear hq
  go_wp2_with fail
  refine hs.mono ?_
  rintro e w2 ⟨rfl, hg2, hgr2⟩
  have hb2 : Below w.heap.size w w2 := Below.grown hb1 hgr2 hb1.size (fun k hk => by injection hk with hk; omega)
  clear hs
  go_wp2_with fail
  go_ret
  obtain ⟨F, ho, hF⟩ := hg2.own
  exact ⟨_, F, rfl, ho, hF, hb2⟩

def cvR (t : Cl) : List ByteArray := if t.valid = true then t.vars else []
theorem cvR_length (t : Cl) (h : t.bulk ≤ 1048576) : (cvR t).length ≤ 2097152 := by
  unfold cvR
  split
  · have := t.vars_length; omega
  · simp
set_option maxHeartbeats 2000000 in
theorem impl_ClauseVariables {t : Cl} {S : Nat → Prop} {c0 : Value} {w : World} (ht : Cl.at S w c0 t) (hbt : t.bulk ≤ 1048576) : Calls Try.prog 54 #[.agg #[c0]] w (OutD id (slOf strE (cvR t)) t.valid w) := by
  by_cases h1 : t.valid = true
  · have HR : Hid (cvR t = t.vars) := by rw [Hid, cvR, if_pos h1]
    have HE := hid h1
    have hni := hid (fun a ha => Tm.atom_nice (Cl.atoms_ok h1 a ha))
    have hlf := hid (fun a ha => Tm.atom_leafy (Cl.atoms_ok h1 a ha))
    clear h1
    rw [HR.out, HE.out]
    obtain ⟨ta, tc, rfl⟩ := Cl.at_form ht
    have hW : Below w.heap.size w (w.alloc (.cells #[.slice ta t.ls.length tc] 88)) := (Below.refl _ _).alloc (Nat.le_refl _) _
    have bt : Box (w.alloc (.cells #[.slice ta t.ls.length tc] 88)) (w.heap.size) [.slice ta t.ls.length tc] := by
      have := (Box.new w [.slice ta t.ls.length tc] 88)
      simpa only [World.size_alloc] using this
    replace ht := Cl.at_keep (Keeps.all hW) ht
    have et0 := bt.c0
    have lt := bt.lt
    go_enter Try.func54, Try.ntmps54
    go_wp2_with fail
    clear et0 lt
    have Hw0 : Hid ((w.alloc (.cells #[.slice ta t.ls.length tc] 88)).heap.size = w.heap.size + 1) := by simp [Hid]
    generalize (w.alloc (.cells #[.slice ta t.ls.length tc] 88)) = w0 at *
    refine (impl_IsValidClause ht hbt).mono ?_
    rintro e w1 ⟨_, rfl, hb, rfl⟩
    replace hW := hW.trans (hb.mono hW.size)
    replace bt := bt.keep hb
    replace ht := Cl.at_keep (Keeps.all hb) ht
    clear hb
    rw [HE.out]
    have et0 := bt.c0
    have lt := bt.lt
    go_wp2_with fail
    clear et0 lt
    refine (clauseVariables_any t ht hbt hni.out hlf.out).mono ?_
    rintro e w2 ⟨v, F, rfl, ho, hF, hb⟩
    have hzW := hW.size
    have hbe := hW.trans (hb.mono hW.size)
    go_wp2_with fail
    go_ret2
    exact ⟨v, F, rfl, ho, fun x hx => Nat.le_trans hzW (hF x hx), hbe⟩
  · have HE := hid (Bool.eq_false_iff.2 h1)
    have HR : Hid (cvR t = []) := by rw [Hid, cvR, if_neg h1]
    clear h1
    rw [HR.out, HE.out]
    obtain ⟨ta, tc, rfl⟩ := Cl.at_form ht
    have hW : Below w.heap.size w (w.alloc (.cells #[.slice ta t.ls.length tc] 88)) := (Below.refl _ _).alloc (Nat.le_refl _) _
    have bt : Box (w.alloc (.cells #[.slice ta t.ls.length tc] 88)) (w.heap.size) [.slice ta t.ls.length tc] := by
      have := (Box.new w [.slice ta t.ls.length tc] 88)
      simpa only [World.size_alloc] using this
    replace ht := Cl.at_keep (Keeps.all hW) ht
    have et0 := bt.c0
    have lt := bt.lt
    go_enter Try.func54, Try.ntmps54
    go_wp2_with fail
    clear et0 lt
    have Hw0 : Hid ((w.alloc (.cells #[.slice ta t.ls.length tc] 88)).heap.size = w.heap.size + 1) := by simp [Hid]
    generalize (w.alloc (.cells #[.slice ta t.ls.length tc] 88)) = w0 at *
    refine (impl_IsValidClause ht hbt).mono ?_
    rintro e w1 ⟨_, rfl, hb, rfl⟩
    replace hW := hW.trans (hb.mono hW.size)
    replace bt := bt.keep hb
    replace ht := Cl.at_keep (Keeps.all hb) ht
    clear hb
    rw [HE.out]
    have et0 := bt.c0
    have lt := bt.lt
    go_wp2_with fail
    clear et0 lt
    go_ret2
    exact ⟨_, [], rfl, D.own_nil _ _, by simp, hW⟩
set_option maxHeartbeats 2000000 in
theorem spec_ClauseVariables {t : Cl} {S : Nat → Prop} {c0 : Value} {w : World} (ht : Cl.at S w c0 t) (hbt : t.bulk ≤ 1048576) : Calls Try.prog 52 #[.agg #[c0]] w (RdD id (slOf strE (cvR t)) t.valid w) := by
  have hal := t.atoms_length
  have has := t.atoms_sizes
  have hlen : t.ls.length ≤ 1048576 := by rw [Cl.bulk] at hbt; omega
  obtain ⟨ta, tc, rfl⟩ := Cl.at_form ht
  have hW : Below w.heap.size w ((w.alloc (.cells #[.slice ta t.ls.length tc] 88)).alloc (.cells #[] 9)) := ((Below.refl _ _).alloc (Nat.le_refl _) _).alloc (by simp) _
  have bt : Box ((w.alloc (.cells #[.slice ta t.ls.length tc] 88)).alloc (.cells #[] 9)) w.heap.size [.slice ta t.ls.length tc] := (Box.new w _ _).alloc _
  have hL : Lst ((w.alloc (.cells #[.slice ta t.ls.length tc] 88)).alloc (.cells #[] 9)) (.slice (some ⟨w.heap.size + 1, 0, none⟩) 0 0) [] := by
    have := Lst.made (w.alloc (.cells #[.slice ta t.ls.length tc] 88))
    simpa only [World.size_alloc] using this
  replace ht := Cl.at_keep (Keeps.all hW) ht
  have x0 := bt.c0
  go_enter Try.func52, Try.ntmps52
  go_wp2_with fail
  clear x0
  generalize (w.alloc (.cells #[.slice ta t.ls.length tc] 88)).alloc (.cells #[] 9) = w0 at *
  refine (l7Good_any ht hbt).mono ?_
  rintro e w1 ⟨_, rfl, hb, rfl⟩
  replace hW := hW.trans (hb.mono hW.size)
  replace ht := Cl.at_keep (Keeps.all hb) ht
  replace bt := bt.keep hb
  replace hL := hL.keep hb
  clear hb
  by_cases h1 : t.valid = true
  · have HR : Hid (cvR t = t.vars) := by rw [Hid, cvR, if_pos h1]
    have HE := hid h1
    rw [h1]
    clear h1
    go_wp2_with fail
    go_loopw [4, 5] (fun x i wr => ∃ k : Nat, k ≤ t.ls.length ∧ i = .int .i64 k ∧ Hid (Lst wr x (Tm.intos (t.atoms.take k) [])) ∧ Below w1.heap.size w1 wr) (fun _ i _ => t.ls.length - (intOf i).toNat)
    case atStart => exact ⟨0, Nat.zero_le _, rfl, by rw [List.take_zero, Tm.intos]; exact hL, Below.refl _ _⟩
    case round =>
      obtain ⟨k, hk, rfl, HX, hb⟩ := hrel
      have x0 := (bt.keep hb).c0
      have lt := (bt.keep hb).lt
      by_cases hlt : k < t.ls.length
      · have hne : t.ls ≠ [] := by intro e; rw [e] at hlt; simp at hlt
        obtain ⟨b, off, rfl, hSb, hbl, hrr⟩ := Lit.sd_get (D.rd_keep (Keeps.all hb) _ _ ht) hne
        obtain ⟨c0, c1, c2, q0, q1, q2, qx⟩ := hrr k hlt
        obtain ⟨rfl, rfl, qa, qc, rfl⟩ := Lit.at_form qx
        have hga := Cl.atoms_get t k hlt (by omega)
        have hst := Tm.sizes_take t.atoms k (by omega)
        have hsl := Tm.sizes_le t.atoms (k + 1)
        have hcl := Tm.intos_length (t.atoms.take k) []
        have hbm : t.ls[k].atom.bulk ≤ 1048576 := by have := Lit.bulk_mem (List.getElem_mem hlt); rw [Cl.bulk] at hbt; have h3 : t.ls[k].bulk = t.ls[k].atom.bulk := rfl; omega
        rw [hga] at hst
        simp only [List.length_nil, Nat.zero_add] at hcl
        have hql : (Tm.intos (t.atoms.take k) []).length + t.ls[k].atom.size ≤ 1073741824 := by omega
        have q3 : wr.cell? ⟨b, off + k * 3 + 1 + 1, none⟩ = some (.slice qa t.ls[k].atom.args.length qc) := q2
        have HS := hid (Tm.intos_take t.atoms [] k (by omega))
        rw [hga] at HS
        clear hrr hst hsl hcl
        go_wp2_with fail
        refine (SpecInto_any t.ls[k].atom _ _ S _ _ _ HX.out hql (Lit.at_atom qx) hbm).mono ?_
        rintro e w2 ⟨u2, rfl, hb2, hL2⟩
        have HX2 : Hid (Lst w2 u2 (Tm.intos (t.atoms.take (k + 1)) [])) := by rw [Hid, HS.out]; exact hL2
        go_wp2_with fail
        go_roundw
        case rel => exact ⟨k + 1, by omega, by go_num, HX2, hb.trans (hb2.mono hb.size)⟩
        case measure => simp [intOf]; omega
      · obtain rfl : k = t.ls.length := by omega
        have hl := HX.out
        rw [← hal, List.take_length] at hl
        have hbe := hW.trans (hb.mono hW.size)
        go_wp2_with fail
        go_ret2
        exact ⟨_, by rw [HE.out]; rfl, by rw [HR.out]; exact hl.rd, hbe⟩
  · have HR : Hid (cvR t = []) := by rw [Hid, cvR, if_neg h1]
    have HE := hid (Bool.eq_false_iff.2 h1)
    rw [HE.out]
    clear h1
    go_wp2_with fail
    go_ret2
    exact ⟨_, by rw [HE.out]; rfl, by rw [HR.out]; exact hL.rd, hW⟩
end Go.Proofs.Ytoekonkpephocaa
