/- Several texts in one file. -/
import Derived.Test.YtglhbaigigdeeaaGreatQ18
import Derived.Test.YtglhbaigigdeeaaGreatQ19
import Derived.Test.YtglhbaigigdeeaaGreatQ22
import Derived.Test.YtglhbaigigdeeaaGreatQ21
/- Subsumes: the program's and the reference's. -/
namespace Go.Proofs.YtglhbaigigdeeaaGreat
set_option maxRecDepth 100000
open Go.RowKit

theorem Cl.bulk_valid {c : Cl} (h : c.valid = true) : ∀ y ∈ c.ls, y.atom.bulk ≤ 1048576 := fun y hy => by have := Cl.lit_small h hy; omega
theorem Cl.sizes_valid {c : Cl} (h : c.valid = true) : sizesL c.ls ≤ 240 := by
  have h1 := sizesL_le c.ls fun x hx => (Cl.lit_small h hx).2
  have h2 := (Cl.lit_atom h).1
  omega
theorem Cl.nice_valid {c : Cl} (h : c.valid = true) : ∀ x ∈ c.ls, x.atom.nice = true ∧ x.atom.leafy := fun x hx => by
  have := (Cl.lit_atom h).2 x hx
  exact ⟨Tm.expr_nice (Tm.atom_expr this), Tm.expr_leafy (Tm.atom_expr this)⟩
theorem OutD.noS {t u : Cl} {w w0 : World} (hb : Below w.heap.size w w0) (h : subS t u = none) : OutD (fun v => .agg #[v]) (Bnd.sd (subR t u).bs) (subOk t u) w (.returned (.tuple #[.agg #[.slice none 0 0], .bool false])) w0 :=
  ⟨.slice none 0 0, [], by rw [subOk, h]; rfl, by rw [subR, h]; show D.own w0 _ (Bnd.sd []) []; rw [Bnd.sd_css]; exact D.own_nil _ _, by simp, hb⟩
theorem RdN.noS {t u : Cl} {w w0 : World} (hb : Below w.heap.size w w0) (h : subS t u = none) : RdN (fun v => .agg #[v]) (Bnd.sd (subR t u).bs) (subOk t u) w (.returned (.tuple #[.agg #[.slice none 0 0], .bool false])) w0 :=
  ⟨.slice none 0 0, by rw [subOk, h]; rfl, by rw [subR, h]; exact rd_nilB, hb⟩
set_option maxHeartbeats 1000000 in
theorem impl_subsumes {t u : Cl} {S S' : Nat → Prop} {c0 d0 : Value} {w : World} (ht : Cl.at S w c0 t) (hu : Cl.at S' w d0 u) (he : t.valid = true) (he2 : u.valid = true) :
    Calls Tryz.prog 39 #[.agg #[c0], .agg #[d0]] w (OutD (fun v => .agg #[v]) (Bnd.sd (subR t u).bs) (subOk t u) w) := by
  have HE := hid he
  have HE2 := hid he2
  have HEE : Hid ((t.valid && u.valid) = true) := by rw [Hid, he, he2]; rfl
  clear he he2
  replace ht := Cl.at_lt ht
  replace hu := Cl.at_lt hu
  have hmm := @run_makeMap Tryz.prog
  obtain ⟨ta, tc, rfl⟩ := Cl.at_form ht
  obtain ⟨ua, uc, rfl⟩ := Cl.at_form hu
  have hW : Below w.heap.size w (((w.alloc (.cells #[.slice ta t.ls.length tc] 26)).alloc (.cells #[.slice ua u.ls.length uc] 26)).alloc (.cells #[.slice none 0 0] 40)) := (((Below.refl _ _).alloc (Nat.le_refl _) _).alloc (by simp) _).alloc (by simp; omega) _
  have bt : Box (((w.alloc (.cells #[.slice ta t.ls.length tc] 26)).alloc (.cells #[.slice ua u.ls.length uc] 26)).alloc (.cells #[.slice none 0 0] 40)) (w.heap.size) [.slice ta t.ls.length tc] := by
    have := (((Box.new w [.slice ta t.ls.length tc] 26).alloc (.cells #[.slice ua u.ls.length uc] 26)).alloc (.cells #[.slice none 0 0] 40))
    simpa only [World.size_alloc] using this
  have bu : Box (((w.alloc (.cells #[.slice ta t.ls.length tc] 26)).alloc (.cells #[.slice ua u.ls.length uc] 26)).alloc (.cells #[.slice none 0 0] 40)) (w.heap.size + 1) [.slice ua u.ls.length uc] := by
    have := ((Box.new (w.alloc (.cells #[.slice ta t.ls.length tc] 26)) [.slice ua u.ls.length uc] 26).alloc (.cells #[.slice none 0 0] 40))
    simpa only [World.size_alloc] using this
  have rb : Box (((w.alloc (.cells #[.slice ta t.ls.length tc] 26)).alloc (.cells #[.slice ua u.ls.length uc] 26)).alloc (.cells #[.slice none 0 0] 40)) (w.heap.size + 1 + 1) [.slice none 0 0] := by
    have := (Box.new ((w.alloc (.cells #[.slice ta t.ls.length tc] 26)).alloc (.cells #[.slice ua u.ls.length uc] 26)) [.slice none 0 0] 40)
    simpa only [World.size_alloc] using this
  have rf : ∀ p, (((w.alloc (.cells #[.slice ta t.ls.length tc] 26)).alloc (.cells #[.slice ua u.ls.length uc] 26)).alloc (.cells #[.slice none 0 0] 40)).frozen? ⟨w.heap.size + 1 + 1, p, none⟩ = false := fun p => World.frozen?_alloc_at _ _ _ p (by simp)
  replace ht := Cl.at_keep (Keeps.all hW) ht
  replace hu := Cl.at_keep (Keeps.all hW) hu
  have et0 := bt.c0
  have lt := bt.lt
  have eu0 := bu.c0
  have lu := bu.lt
  have re0 := rb.c0
  have rf0 := rf 0
  have rl := rb.lt
  go_enter Tryz.func39, Tryz.ntmps39
  go_wp2_with fail
  clear et0 lt eu0 lu re0 rf0 rl
  have Hw0 : Hid ((((w.alloc (.cells #[.slice ta t.ls.length tc] 26)).alloc (.cells #[.slice ua u.ls.length uc] 26)).alloc (.cells #[.slice none 0 0] 40)).heap.size = w.heap.size + 1 + 1 + 1) := by simp [Hid]
  generalize (((w.alloc (.cells #[.slice ta t.ls.length tc] 26)).alloc (.cells #[.slice ua u.ls.length uc] 26)).alloc (.cells #[.slice none 0 0] 40)) = w0 at *
  clear hmm
  have hA : Below w0.heap.size w0 (w0.alloc (.map #[] 0)) := (Below.refl _ _).alloc (Nat.le_refl _) _
  have hmp : MapIs (w0.alloc (.map #[] 0)) (w.heap.size + 1 + 1 + 1) [] := by have := MapIs.made w0; rwa [Hw0.out] at this
  have hz0 := Hw0.out
  have hq := subI_any u.ls t.ls [] [] (w.heap.size + 1 + 1 + 1) (· < w.heap.size) _ _ (w0.alloc (.map #[] 0)) hmp ⟨rfl, fun i h => absurd h (by simp)⟩ List.nodup_nil (fun x (hx : x < w.heap.size) => by rw [World.size_alloc]; omega) (D.rd_keep (Keeps.all hA) _ _ ht) (D.rd_keep (Keeps.all hA) _ _ hu) (Cl.nice_valid HE.out) (by have := Cl.sizes_valid HE.out; simp; omega)
  clear hz0
  refine hq.mono ?_
  rintro e w2 ⟨mv, o, rfl, hpo, hb2, hno, hso⟩
  have hb : Below w0.heap.size w0 w2 := hA.trans (hb2.mono (by rw [World.size_alloc]; omega))
  replace hW := hW.trans (hb.mono hW.size)
  replace bt := bt.keep hb
  replace ht := Cl.at_keep (Keeps.all hb) ht
  replace bu := bu.keep hb
  replace hu := Cl.at_keep (Keeps.all hb) hu
  replace rf := fun p => (hb.frozen (p := ⟨_, p, none⟩) rb.lt).trans (rf p)
  replace rb := rb.keep hb
  have HPO := hid hpo
  clear hq hb hb2 hA hmp hpo
  cases o with
  | none =>
    obtain rfl := hno rfl
    have HM : Hid (subS t u = none) := subS_none HPO.out.none_r
    clear hno hso
    have et0 := bt.c0
    have lt := bt.lt
    have eu0 := bu.c0
    have lu := bu.lt
    have re0 := rb.c0
    have rf0 := rf 0
    have rl := rb.lt
    go_wp2_with fail
    refine bodyPost_ret (v := .tuple #[.agg #[.slice none 0 0], .bool false]) (by simp [results, Tryz.results39, go_sem, rb.c0]; try rfl) rfl ?_
    exact OutD.noS (hW.setCell (by show w.heap.size ≤ w.heap.size + 1 + 1; omega) _) HM.out
  | some l =>
    obtain ⟨l0, hl0, hp0⟩ := HPO.out.some_r
    obtain ⟨hs1, hs2, hs3, hs4⟩ := sub_small HE.out HE2.out hl0
    have HPB : Hid (pairsB l = pairsB l0) := (pairsB_one hs4 hp0).symm
    have HL0 := hid hl0
    obtain ⟨mb', kv', rfl, hmp2, hkv⟩ := hso l rfl
    have hzW := hW.size
    have hpq := subst_any hmp2 hkv (hs4.perm hp0) (fun x hx => Nat.lt_of_lt_of_le hx hW.size) (fun b hb => by have := (hs3 b (hp0.mem_iff.2 hb)).2; unfold maxLen; omega) (fun b hb => by have := (hs3 b (hp0.mem_iff.2 hb)).1; omega) (by have := hp0.length_eq; omega) (by rw [HPB.out]; omega)
    rw [HPB.out] at hpq
    clear hno hso hs1 hs2 hs3 hs4 hp0 hl0 hzW
    have et0 := bt.c0
    have lt := bt.lt
    have eu0 := bu.c0
    have lu := bu.lt
    have re0 := rb.c0
    have rf0 := rf 0
    have rl := rb.lt
    go_wp2_with fail
    clear et0 lt eu0 lu re0 rf0 rl
    refine hpq.mono ?_
    rintro e w3 ⟨v3, F, rfl, ho, hF, hb⟩
    obtain ⟨a3, c3, rfl⟩ := Bnd.sd_own_form ho
    have hzz := hW.size
    have hrr := rb.lt
    replace hW := hW.trans (hb.mono hW.size)
    replace bt := bt.keep hb
    replace ht := Cl.at_keep (Keeps.all hb) ht
    replace bu := bu.keep hb
    replace hu := Cl.at_keep (Keeps.all hb) hu
    replace rf := fun p => (hb.frozen (p := ⟨_, p, none⟩) rb.lt).trans (rf p)
    replace rb := rb.keep hb
    have HO := hid ho
    have nF : w.heap.size + 1 + 1 ∉ F := fun q => by have := hF _ q; omega
    have HF : Hid (∀ x ∈ F, w2.heap.size ≤ x) := hF
    clear hb hpq ho hF
    have HL : Hid ((if (⟨pairsB l0⟩ : Sb).valid = true then pairsB l0 else []) = (subR t u).bs ∧ (⟨pairsB l0⟩ : Sb).valid = subOk t u) := by
      by_cases hv : (⟨pairsB l0⟩ : Sb).valid = true
      · have hS := subS_some HEE.out HL0.out hv
        rw [Hid, if_pos hv, subR, subOk, hS]; exact ⟨rfl, hv⟩
      · have hS := subS_bad HL0.out (Bool.eq_false_iff.2 hv)
        rw [Hid, if_neg hv, subR, subOk, hS]; exact ⟨rfl, Bool.eq_false_iff.2 hv⟩
    rw [HL.out.1] at HO
    rw [HL.out.1, HL.out.2]
    have et0 := bt.c0
    have lt := bt.lt
    have eu0 := bu.c0
    have lu := bu.lt
    have re0 := rb.c0
    have rf0 := rf 0
    have rl := rb.lt
    go_wp2_with fail
    refine bodyPost_ret (v := .tuple #[.agg #[.slice a3 (subR t u).bs.length c3], .bool (subOk t u)]) (by simp [results, Tryz.results39, go_sem, rb.c0]; try rfl) rfl ?_
    exact ⟨_, F, rfl, D.own_keep _ _ _ ((Keeps.refl _ _).setCell (fun q _ => nF q) _) HO.out, fun x hx => by have := HF.out x hx; omega, hW.setCell (by show w.heap.size ≤ w.heap.size + 1 + 1; omega) _⟩
set_option maxHeartbeats 1000000 in
theorem impl_Subsumes {t u : Cl} {S S' : Nat → Prop} {c0 d0 : Value} {w : World} (ht : Cl.at S w c0 t) (hbt : t.bulk ≤ 1048576) (hu : Cl.at S' w d0 u) (hbu : u.bulk ≤ 1048576) :
    Calls Tryz.prog 17 #[.agg #[c0], .agg #[d0]] w (OutD (fun v => .agg #[v]) (Bnd.sd (subR t u).bs) (subOk t u) w) := by
  by_cases h1 : t.valid = true
  · have HE := hid h1
    by_cases h2 : u.valid = true
    · have HE2 := hid h2
      clear h1 h2
      obtain ⟨ta, tc, rfl⟩ := Cl.at_form ht
      obtain ⟨ua, uc, rfl⟩ := Cl.at_form hu
      have hW : Below w.heap.size w (((w.alloc (.cells #[.slice ta t.ls.length tc] 26)).alloc (.cells #[.slice ua u.ls.length uc] 26)).alloc (.cells #[.slice none 0 0] 40)) := (((Below.refl _ _).alloc (Nat.le_refl _) _).alloc (by simp) _).alloc (by simp; omega) _
      have bt : Box (((w.alloc (.cells #[.slice ta t.ls.length tc] 26)).alloc (.cells #[.slice ua u.ls.length uc] 26)).alloc (.cells #[.slice none 0 0] 40)) (w.heap.size) [.slice ta t.ls.length tc] := by
        have := (((Box.new w [.slice ta t.ls.length tc] 26).alloc (.cells #[.slice ua u.ls.length uc] 26)).alloc (.cells #[.slice none 0 0] 40))
        simpa only [World.size_alloc] using this
      have bu : Box (((w.alloc (.cells #[.slice ta t.ls.length tc] 26)).alloc (.cells #[.slice ua u.ls.length uc] 26)).alloc (.cells #[.slice none 0 0] 40)) (w.heap.size + 1) [.slice ua u.ls.length uc] := by
        have := ((Box.new (w.alloc (.cells #[.slice ta t.ls.length tc] 26)) [.slice ua u.ls.length uc] 26).alloc (.cells #[.slice none 0 0] 40))
        simpa only [World.size_alloc] using this
      have rb : Box (((w.alloc (.cells #[.slice ta t.ls.length tc] 26)).alloc (.cells #[.slice ua u.ls.length uc] 26)).alloc (.cells #[.slice none 0 0] 40)) (w.heap.size + 1 + 1) [.slice none 0 0] := by
        have := (Box.new ((w.alloc (.cells #[.slice ta t.ls.length tc] 26)).alloc (.cells #[.slice ua u.ls.length uc] 26)) [.slice none 0 0] 40)
        simpa only [World.size_alloc] using this
      have rf : ∀ p, (((w.alloc (.cells #[.slice ta t.ls.length tc] 26)).alloc (.cells #[.slice ua u.ls.length uc] 26)).alloc (.cells #[.slice none 0 0] 40)).frozen? ⟨w.heap.size + 1 + 1, p, none⟩ = false := fun p => World.frozen?_alloc_at _ _ _ p (by simp)
      replace ht := Cl.at_keep (Keeps.all hW) ht
      replace hu := Cl.at_keep (Keeps.all hW) hu
      have et0 := bt.c0
      have lt := bt.lt
      have eu0 := bu.c0
      have lu := bu.lt
      have re0 := rb.c0
      have rf0 := rf 0
      have rl := rb.lt
      go_enter Tryz.func17, Tryz.ntmps17
      go_wp2_with fail
      clear et0 lt eu0 lu re0 rf0 rl
      have Hw0 : Hid ((((w.alloc (.cells #[.slice ta t.ls.length tc] 26)).alloc (.cells #[.slice ua u.ls.length uc] 26)).alloc (.cells #[.slice none 0 0] 40)).heap.size = w.heap.size + 1 + 1 + 1) := by simp [Hid]
      generalize (((w.alloc (.cells #[.slice ta t.ls.length tc] 26)).alloc (.cells #[.slice ua u.ls.length uc] 26)).alloc (.cells #[.slice none 0 0] 40)) = w0 at *
      refine (impl_IsValidClause ht hbt).mono ?_
      rintro e w1 ⟨_, rfl, hb, rfl⟩
      replace hW := hW.trans (hb.mono hW.size)
      replace bt := bt.keep hb
      replace ht := Cl.at_keep (Keeps.all hb) ht
      replace bu := bu.keep hb
      replace hu := Cl.at_keep (Keeps.all hb) hu
      replace rf := fun p => (hb.frozen (p := ⟨_, p, none⟩) rb.lt).trans (rf p)
      replace rb := rb.keep hb
      clear hb
      rw [HE.out]
      have et0 := bt.c0
      have lt := bt.lt
      have eu0 := bu.c0
      have lu := bu.lt
      have re0 := rb.c0
      have rf0 := rf 0
      have rl := rb.lt
      go_wp2_with fail
      clear et0 lt eu0 lu re0 rf0 rl
      refine (impl_IsValidClause hu hbu).mono ?_
      rintro e w1 ⟨_, rfl, hb, rfl⟩
      replace hW := hW.trans (hb.mono hW.size)
      replace bt := bt.keep hb
      replace ht := Cl.at_keep (Keeps.all hb) ht
      replace bu := bu.keep hb
      replace hu := Cl.at_keep (Keeps.all hb) hu
      replace rf := fun p => (hb.frozen (p := ⟨_, p, none⟩) rb.lt).trans (rf p)
      replace rb := rb.keep hb
      clear hb
      rw [HE2.out]
      have et0 := bt.c0
      have lt := bt.lt
      have eu0 := bu.c0
      have lu := bu.lt
      have re0 := rb.c0
      have rf0 := rf 0
      have rl := rb.lt
      go_wp2_with fail
      clear et0 lt eu0 lu re0 rf0 rl
      refine (impl_subsumes ht hu HE.out HE2.out).mono ?_
      rintro e w3 ⟨v3, F, rfl, ho, hF, hb⟩
      obtain ⟨a3, c3, rfl⟩ := Bnd.sd_own_form ho
      have hzz := hW.size
      have hrr := rb.lt
      replace hW := hW.trans (hb.mono hW.size)
      replace bt := bt.keep hb
      replace ht := Cl.at_keep (Keeps.all hb) ht
      replace bu := bu.keep hb
      replace hu := Cl.at_keep (Keeps.all hb) hu
      replace rf := fun p => (hb.frozen (p := ⟨_, p, none⟩) rb.lt).trans (rf p)
      replace rb := rb.keep hb
      have HO := hid ho
      have nF : w.heap.size + 1 + 1 ∉ F := fun q => by have := hF _ q; omega
      have HF : Hid (∀ x ∈ F, w.heap.size ≤ x) := fun x hx => by have := hF x hx; omega
      clear hb ho hF
      have et0 := bt.c0
      have lt := bt.lt
      have eu0 := bu.c0
      have lu := bu.lt
      have re0 := rb.c0
      have rf0 := rf 0
      have rl := rb.lt
      go_wp2_with fail
      refine bodyPost_ret (v := .tuple #[.agg #[.slice a3 (subR t u).bs.length c3], .bool (subOk t u)]) (by simp [results, Tryz.results17, go_sem, rb.c0]; try rfl) rfl ?_
      exact ⟨_, F, rfl, D.own_keep _ _ _ ((Keeps.refl _ _).setCell (fun q _ => nF q) _) HO.out, HF.out, hW.setCell (by show w.heap.size ≤ w.heap.size + 1 + 1; omega) _⟩
    · have HE2 := hid (Bool.eq_false_iff.2 h2)
      have HM : Hid (subS t u = none) := subS_no (by rw [HE.out, HE2.out]; rfl)
      clear h1 h2
      obtain ⟨ta, tc, rfl⟩ := Cl.at_form ht
      obtain ⟨ua, uc, rfl⟩ := Cl.at_form hu
      have hW : Below w.heap.size w (((w.alloc (.cells #[.slice ta t.ls.length tc] 26)).alloc (.cells #[.slice ua u.ls.length uc] 26)).alloc (.cells #[.slice none 0 0] 40)) := (((Below.refl _ _).alloc (Nat.le_refl _) _).alloc (by simp) _).alloc (by simp; omega) _
      have bt : Box (((w.alloc (.cells #[.slice ta t.ls.length tc] 26)).alloc (.cells #[.slice ua u.ls.length uc] 26)).alloc (.cells #[.slice none 0 0] 40)) (w.heap.size) [.slice ta t.ls.length tc] := by
        have := (((Box.new w [.slice ta t.ls.length tc] 26).alloc (.cells #[.slice ua u.ls.length uc] 26)).alloc (.cells #[.slice none 0 0] 40))
        simpa only [World.size_alloc] using this
      have bu : Box (((w.alloc (.cells #[.slice ta t.ls.length tc] 26)).alloc (.cells #[.slice ua u.ls.length uc] 26)).alloc (.cells #[.slice none 0 0] 40)) (w.heap.size + 1) [.slice ua u.ls.length uc] := by
        have := ((Box.new (w.alloc (.cells #[.slice ta t.ls.length tc] 26)) [.slice ua u.ls.length uc] 26).alloc (.cells #[.slice none 0 0] 40))
        simpa only [World.size_alloc] using this
      have rb : Box (((w.alloc (.cells #[.slice ta t.ls.length tc] 26)).alloc (.cells #[.slice ua u.ls.length uc] 26)).alloc (.cells #[.slice none 0 0] 40)) (w.heap.size + 1 + 1) [.slice none 0 0] := by
        have := (Box.new ((w.alloc (.cells #[.slice ta t.ls.length tc] 26)).alloc (.cells #[.slice ua u.ls.length uc] 26)) [.slice none 0 0] 40)
        simpa only [World.size_alloc] using this
      have rf : ∀ p, (((w.alloc (.cells #[.slice ta t.ls.length tc] 26)).alloc (.cells #[.slice ua u.ls.length uc] 26)).alloc (.cells #[.slice none 0 0] 40)).frozen? ⟨w.heap.size + 1 + 1, p, none⟩ = false := fun p => World.frozen?_alloc_at _ _ _ p (by simp)
      replace ht := Cl.at_keep (Keeps.all hW) ht
      replace hu := Cl.at_keep (Keeps.all hW) hu
      have et0 := bt.c0
      have lt := bt.lt
      have eu0 := bu.c0
      have lu := bu.lt
      have re0 := rb.c0
      have rf0 := rf 0
      have rl := rb.lt
      go_enter Tryz.func17, Tryz.ntmps17
      go_wp2_with fail
      clear et0 lt eu0 lu re0 rf0 rl
      have Hw0 : Hid ((((w.alloc (.cells #[.slice ta t.ls.length tc] 26)).alloc (.cells #[.slice ua u.ls.length uc] 26)).alloc (.cells #[.slice none 0 0] 40)).heap.size = w.heap.size + 1 + 1 + 1) := by simp [Hid]
      generalize (((w.alloc (.cells #[.slice ta t.ls.length tc] 26)).alloc (.cells #[.slice ua u.ls.length uc] 26)).alloc (.cells #[.slice none 0 0] 40)) = w0 at *
      refine (impl_IsValidClause ht hbt).mono ?_
      rintro e w1 ⟨_, rfl, hb, rfl⟩
      replace hW := hW.trans (hb.mono hW.size)
      replace bt := bt.keep hb
      replace ht := Cl.at_keep (Keeps.all hb) ht
      replace bu := bu.keep hb
      replace hu := Cl.at_keep (Keeps.all hb) hu
      replace rf := fun p => (hb.frozen (p := ⟨_, p, none⟩) rb.lt).trans (rf p)
      replace rb := rb.keep hb
      clear hb
      rw [HE.out]
      have et0 := bt.c0
      have lt := bt.lt
      have eu0 := bu.c0
      have lu := bu.lt
      have re0 := rb.c0
      have rf0 := rf 0
      have rl := rb.lt
      go_wp2_with fail
      clear et0 lt eu0 lu re0 rf0 rl
      refine (impl_IsValidClause hu hbu).mono ?_
      rintro e w1 ⟨_, rfl, hb, rfl⟩
      replace hW := hW.trans (hb.mono hW.size)
      replace bt := bt.keep hb
      replace ht := Cl.at_keep (Keeps.all hb) ht
      replace bu := bu.keep hb
      replace hu := Cl.at_keep (Keeps.all hb) hu
      replace rf := fun p => (hb.frozen (p := ⟨_, p, none⟩) rb.lt).trans (rf p)
      replace rb := rb.keep hb
      clear hb
      rw [HE2.out]
      have et0 := bt.c0
      have lt := bt.lt
      have eu0 := bu.c0
      have lu := bu.lt
      have re0 := rb.c0
      have rf0 := rf 0
      have rl := rb.lt
      go_wp2_with fail
      clear et0 lt eu0 lu re0 rf0 rl
      refine bodyPost_ret (v := .tuple #[.agg #[.slice none 0 0], .bool false]) (by simp [results, Tryz.results17, go_sem, rb.c0]; try rfl) rfl ?_
      exact OutD.noS (hW.setCell (by show w.heap.size ≤ w.heap.size + 1 + 1; omega) _) HM.out
  · have HE := hid (Bool.eq_false_iff.2 h1)
    have HM : Hid (subS t u = none) := subS_no (by rw [HE.out]; rfl)
    clear h1
    obtain ⟨ta, tc, rfl⟩ := Cl.at_form ht
    obtain ⟨ua, uc, rfl⟩ := Cl.at_form hu
    have hW : Below w.heap.size w (((w.alloc (.cells #[.slice ta t.ls.length tc] 26)).alloc (.cells #[.slice ua u.ls.length uc] 26)).alloc (.cells #[.slice none 0 0] 40)) := (((Below.refl _ _).alloc (Nat.le_refl _) _).alloc (by simp) _).alloc (by simp; omega) _
    have bt : Box (((w.alloc (.cells #[.slice ta t.ls.length tc] 26)).alloc (.cells #[.slice ua u.ls.length uc] 26)).alloc (.cells #[.slice none 0 0] 40)) (w.heap.size) [.slice ta t.ls.length tc] := by
      have := (((Box.new w [.slice ta t.ls.length tc] 26).alloc (.cells #[.slice ua u.ls.length uc] 26)).alloc (.cells #[.slice none 0 0] 40))
      simpa only [World.size_alloc] using this
    have bu : Box (((w.alloc (.cells #[.slice ta t.ls.length tc] 26)).alloc (.cells #[.slice ua u.ls.length uc] 26)).alloc (.cells #[.slice none 0 0] 40)) (w.heap.size + 1) [.slice ua u.ls.length uc] := by
      have := ((Box.new (w.alloc (.cells #[.slice ta t.ls.length tc] 26)) [.slice ua u.ls.length uc] 26).alloc (.cells #[.slice none 0 0] 40))
      simpa only [World.size_alloc] using this
    have rb : Box (((w.alloc (.cells #[.slice ta t.ls.length tc] 26)).alloc (.cells #[.slice ua u.ls.length uc] 26)).alloc (.cells #[.slice none 0 0] 40)) (w.heap.size + 1 + 1) [.slice none 0 0] := by
      have := (Box.new ((w.alloc (.cells #[.slice ta t.ls.length tc] 26)).alloc (.cells #[.slice ua u.ls.length uc] 26)) [.slice none 0 0] 40)
      simpa only [World.size_alloc] using this
    have rf : ∀ p, (((w.alloc (.cells #[.slice ta t.ls.length tc] 26)).alloc (.cells #[.slice ua u.ls.length uc] 26)).alloc (.cells #[.slice none 0 0] 40)).frozen? ⟨w.heap.size + 1 + 1, p, none⟩ = false := fun p => World.frozen?_alloc_at _ _ _ p (by simp)
    replace ht := Cl.at_keep (Keeps.all hW) ht
    replace hu := Cl.at_keep (Keeps.all hW) hu
    have et0 := bt.c0
    have lt := bt.lt
    have eu0 := bu.c0
    have lu := bu.lt
    have re0 := rb.c0
    have rf0 := rf 0
    have rl := rb.lt
    go_enter Tryz.func17, Tryz.ntmps17
    go_wp2_with fail
    clear et0 lt eu0 lu re0 rf0 rl
    have Hw0 : Hid ((((w.alloc (.cells #[.slice ta t.ls.length tc] 26)).alloc (.cells #[.slice ua u.ls.length uc] 26)).alloc (.cells #[.slice none 0 0] 40)).heap.size = w.heap.size + 1 + 1 + 1) := by simp [Hid]
    generalize (((w.alloc (.cells #[.slice ta t.ls.length tc] 26)).alloc (.cells #[.slice ua u.ls.length uc] 26)).alloc (.cells #[.slice none 0 0] 40)) = w0 at *
    refine (impl_IsValidClause ht hbt).mono ?_
    rintro e w1 ⟨_, rfl, hb, rfl⟩
    replace hW := hW.trans (hb.mono hW.size)
    replace bt := bt.keep hb
    replace ht := Cl.at_keep (Keeps.all hb) ht
    replace bu := bu.keep hb
    replace hu := Cl.at_keep (Keeps.all hb) hu
    replace rf := fun p => (hb.frozen (p := ⟨_, p, none⟩) rb.lt).trans (rf p)
    replace rb := rb.keep hb
    clear hb
    rw [HE.out]
    have et0 := bt.c0
    have lt := bt.lt
    have eu0 := bu.c0
    have lu := bu.lt
    have re0 := rb.c0
    have rf0 := rf 0
    have rl := rb.lt
    go_wp2_with fail
    clear et0 lt eu0 lu re0 rf0 rl
    refine bodyPost_ret (v := .tuple #[.agg #[.slice none 0 0], .bool false]) (by simp [results, Tryz.results17, go_sem, rb.c0]; try rfl) rfl ?_
    exact OutD.noS (hW.setCell (by show w.heap.size ≤ w.heap.size + 1 + 1; omega) _) HM.out
set_option maxHeartbeats 1000000 in
theorem l7Subsumes_any {t u : Cl} {S S' : Nat → Prop} {c0 d0 : Value} {w : World} (ht : Cl.at S w c0 t) (hu : Cl.at S' w d0 u) (he : t.valid = true) (he2 : u.valid = true) :
    Calls Tryz.prog 35 #[.agg #[c0], .agg #[d0]] w (SubbedS (subM u.ls t.ls []) w) := by
  have HE := hid he
  have HE2 := hid he2
  clear he he2
  replace ht := Cl.at_lt ht
  replace hu := Cl.at_lt hu
  obtain ⟨ta, tc, rfl⟩ := Cl.at_form ht
  obtain ⟨ua, uc, rfl⟩ := Cl.at_form hu
  have hW : Below w.heap.size w ((w.alloc (.cells #[.slice ta t.ls.length tc] 26)).alloc (.cells #[.slice ua u.ls.length uc] 26)) := ((Below.refl _ _).alloc (Nat.le_refl _) _).alloc (by simp) _
  have bt : Box ((w.alloc (.cells #[.slice ta t.ls.length tc] 26)).alloc (.cells #[.slice ua u.ls.length uc] 26)) (w.heap.size) [.slice ta t.ls.length tc] := by
    have := ((Box.new w [.slice ta t.ls.length tc] 26).alloc (.cells #[.slice ua u.ls.length uc] 26))
    simpa only [World.size_alloc] using this
  have bu : Box ((w.alloc (.cells #[.slice ta t.ls.length tc] 26)).alloc (.cells #[.slice ua u.ls.length uc] 26)) (w.heap.size + 1) [.slice ua u.ls.length uc] := by
    have := (Box.new (w.alloc (.cells #[.slice ta t.ls.length tc] 26)) [.slice ua u.ls.length uc] 26)
    simpa only [World.size_alloc] using this
  replace ht := Cl.at_keep (Keeps.all hW) ht
  replace hu := Cl.at_keep (Keeps.all hW) hu
  have et0 := bt.c0
  have lt := bt.lt
  have eu0 := bu.c0
  have lu := bu.lt
  go_enter Tryz.func35, Tryz.ntmps35
  go_wp2_with fail
  clear et0 lt eu0 lu
  have Hw0 : Hid (((w.alloc (.cells #[.slice ta t.ls.length tc] 26)).alloc (.cells #[.slice ua u.ls.length uc] 26)).heap.size = w.heap.size + 1 + 1) := by simp [Hid]
  generalize ((w.alloc (.cells #[.slice ta t.ls.length tc] 26)).alloc (.cells #[.slice ua u.ls.length uc] 26)) = w0 at *
  have hA : Below w0.heap.size w0 (w0.alloc (.cells #[] 89)) := (Below.refl _ _).alloc (Nat.le_refl _) _
  have hz0 := Hw0.out
  have hq := subSp_any u.ls t.ls t.ls.length 0 (by omega) [] (.slice (some ⟨w.heap.size + 1 + 1, 0, none⟩) 0 0) w0.heap.size (· < w.heap.size) _ _ (w0.alloc (.cells #[] 89)) (Rv.made 89 3 hz0.symm (Nat.le_refl _)) (by rw [World.size_alloc]; omega) (fun x (hx : x < w.heap.size) => by omega) (D.rd_keep (Keeps.all hA) _ _ ht) (D.rd_keep (Keeps.all hA) _ _ hu) (by have := Cl.sizes_valid HE.out; simp; omega) (by intro b hb; simp at hb) (Cl.bulk_valid HE2.out)
  rw [List.drop_zero, show ((0 : Nat) : Int) = 0 from rfl] at hq
  clear hz0
  refine hq.mono ?_
  rintro e w2 ⟨v2, rfl, hb2, hs2, hn2⟩
  have hb : Below w0.heap.size w0 w2 := hA.trans (hb2.mono (by rw [World.size_alloc]; omega))
  replace hW := hW.trans (hb.mono hW.size)
  replace bt := bt.keep hb
  replace ht := Cl.at_keep (Keeps.all hb) ht
  replace bu := bu.keep hb
  replace hu := Cl.at_keep (Keeps.all hb) hu
  obtain ⟨o, Ho⟩ : ∃ o, Hid (subM u.ls t.ls [] = o) := ⟨_, hid rfl⟩
  rw [Ho.out] at hs2 hn2 ⊢
  have HS2 := hid hs2
  have HN2 := hid hn2
  clear hq hb hb2 hA hs2 hn2
  go_wp2_with fail
  go_ret2
  refine ⟨v2, ?_, hW, by rw [Ho.out]; exact HS2.out, by rw [Ho.out]; exact HN2.out⟩
  (rw [Ho.out]) <;> rfl
set_option maxHeartbeats 1000000 in
theorem spec_Subsumes {t u : Cl} {S S' : Nat → Prop} {c0 d0 : Value} {w : World} (ht : Cl.at S w c0 t) (hbt : t.bulk ≤ 1048576) (hu : Cl.at S' w d0 u) (hbu : u.bulk ≤ 1048576) :
    Calls Tryz.prog 15 #[.agg #[c0], .agg #[d0]] w (RdN (fun v => .agg #[v]) (Bnd.sd (subR t u).bs) (subOk t u) w) := by
  by_cases h1 : t.valid = true
  · have HE := hid h1
    by_cases h2 : u.valid = true
    · have HE2 := hid h2
      have HEE : Hid ((t.valid && u.valid) = true) := by rw [Hid, h1, h2]; rfl
      clear h1 h2
      obtain ⟨ta, tc, rfl⟩ := Cl.at_form ht
      obtain ⟨ua, uc, rfl⟩ := Cl.at_form hu
      have hW : Below w.heap.size w (((w.alloc (.cells #[.slice ta t.ls.length tc] 26)).alloc (.cells #[.slice ua u.ls.length uc] 26)).alloc (.cells #[.slice none 0 0] 40)) := (((Below.refl _ _).alloc (Nat.le_refl _) _).alloc (by simp) _).alloc (by simp; omega) _
      have bt : Box (((w.alloc (.cells #[.slice ta t.ls.length tc] 26)).alloc (.cells #[.slice ua u.ls.length uc] 26)).alloc (.cells #[.slice none 0 0] 40)) (w.heap.size) [.slice ta t.ls.length tc] := by
        have := (((Box.new w [.slice ta t.ls.length tc] 26).alloc (.cells #[.slice ua u.ls.length uc] 26)).alloc (.cells #[.slice none 0 0] 40))
        simpa only [World.size_alloc] using this
      have bu : Box (((w.alloc (.cells #[.slice ta t.ls.length tc] 26)).alloc (.cells #[.slice ua u.ls.length uc] 26)).alloc (.cells #[.slice none 0 0] 40)) (w.heap.size + 1) [.slice ua u.ls.length uc] := by
        have := ((Box.new (w.alloc (.cells #[.slice ta t.ls.length tc] 26)) [.slice ua u.ls.length uc] 26).alloc (.cells #[.slice none 0 0] 40))
        simpa only [World.size_alloc] using this
      have rb : Box (((w.alloc (.cells #[.slice ta t.ls.length tc] 26)).alloc (.cells #[.slice ua u.ls.length uc] 26)).alloc (.cells #[.slice none 0 0] 40)) (w.heap.size + 1 + 1) [.slice none 0 0] := by
        have := (Box.new ((w.alloc (.cells #[.slice ta t.ls.length tc] 26)).alloc (.cells #[.slice ua u.ls.length uc] 26)) [.slice none 0 0] 40)
        simpa only [World.size_alloc] using this
      have rf : ∀ p, (((w.alloc (.cells #[.slice ta t.ls.length tc] 26)).alloc (.cells #[.slice ua u.ls.length uc] 26)).alloc (.cells #[.slice none 0 0] 40)).frozen? ⟨w.heap.size + 1 + 1, p, none⟩ = false := fun p => World.frozen?_alloc_at _ _ _ p (by simp)
      replace ht := Cl.at_keep (Keeps.all hW) ht
      replace hu := Cl.at_keep (Keeps.all hW) hu
      have et0 := bt.c0
      have lt := bt.lt
      have eu0 := bu.c0
      have lu := bu.lt
      have re0 := rb.c0
      have rf0 := rf 0
      have rl := rb.lt
      go_enter Tryz.func15, Tryz.ntmps15
      go_wp2_with fail
      clear et0 lt eu0 lu re0 rf0 rl
      have Hw0 : Hid ((((w.alloc (.cells #[.slice ta t.ls.length tc] 26)).alloc (.cells #[.slice ua u.ls.length uc] 26)).alloc (.cells #[.slice none 0 0] 40)).heap.size = w.heap.size + 1 + 1 + 1) := by simp [Hid]
      generalize (((w.alloc (.cells #[.slice ta t.ls.length tc] 26)).alloc (.cells #[.slice ua u.ls.length uc] 26)).alloc (.cells #[.slice none 0 0] 40)) = w0 at *
      refine (l7Good_any ht hbt).mono ?_
      rintro e w1 ⟨_, rfl, hb, rfl⟩
      replace hW := hW.trans (hb.mono hW.size)
      replace bt := bt.keep hb
      replace ht := Cl.at_keep (Keeps.all hb) ht
      replace bu := bu.keep hb
      replace hu := Cl.at_keep (Keeps.all hb) hu
      replace rf := fun p => (hb.frozen (p := ⟨_, p, none⟩) rb.lt).trans (rf p)
      replace rb := rb.keep hb
      clear hb
      rw [HE.out]
      have et0 := bt.c0
      have lt := bt.lt
      have eu0 := bu.c0
      have lu := bu.lt
      have re0 := rb.c0
      have rf0 := rf 0
      have rl := rb.lt
      go_wp2_with fail
      clear et0 lt eu0 lu re0 rf0 rl
      refine (l7Good_any hu hbu).mono ?_
      rintro e w1 ⟨_, rfl, hb, rfl⟩
      replace hW := hW.trans (hb.mono hW.size)
      replace bt := bt.keep hb
      replace ht := Cl.at_keep (Keeps.all hb) ht
      replace bu := bu.keep hb
      replace hu := Cl.at_keep (Keeps.all hb) hu
      replace rf := fun p => (hb.frozen (p := ⟨_, p, none⟩) rb.lt).trans (rf p)
      replace rb := rb.keep hb
      clear hb
      rw [HE2.out]
      have et0 := bt.c0
      have lt := bt.lt
      have eu0 := bu.c0
      have lu := bu.lt
      have re0 := rb.c0
      have rf0 := rf 0
      have rl := rb.lt
      go_wp2_with fail
      clear et0 lt eu0 lu re0 rf0 rl
      obtain ⟨o, Ho⟩ : ∃ o, Hid (subM u.ls t.ls [] = o) := ⟨_, hid rfl⟩
      have hq := l7Subsumes_any ht hu HE.out HE2.out
      rw [Ho.out] at hq
      refine hq.mono ?_
      rintro e w2 ⟨v2, rfl, hb, hsome, hnone⟩
      replace hW := hW.trans (hb.mono hW.size)
      replace bt := bt.keep hb
      replace ht := Cl.at_keep (Keeps.all hb) ht
      replace bu := bu.keep hb
      replace hu := Cl.at_keep (Keeps.all hb) hu
      replace rf := fun p => (hb.frozen (p := ⟨_, p, none⟩) rb.lt).trans (rf p)
      replace rb := rb.keep hb
      clear hq hb
      cases o with
      | none =>
        have HM : Hid (subS t u = none) := subS_none Ho.out
        obtain ⟨l, hrd, hll, hsm⟩ := hnone rfl
        have hpq := l4Pairs_any hrd hll hsm
        obtain ⟨a2, c2, rfl, -, -⟩ := Bnd.sd_form hrd
        clear hsome hnone hrd
        have et0 := bt.c0
        have lt := bt.lt
        have eu0 := bu.c0
        have lu := bu.lt
        have re0 := rb.c0
        have rf0 := rf 0
        have rl := rb.lt
        go_wp2_with fail
        clear et0 lt eu0 lu re0 rf0 rl
        refine hpq.mono ?_
        rintro e w3 ⟨_, rfl, hb, v3, rfl, hr3, hs3⟩
        obtain ⟨a3, c3, rfl, -, -⟩ := Bnd.sd_form hr3
        replace hW := hW.trans (hb.mono hW.size)
        replace bt := bt.keep hb
        replace ht := Cl.at_keep (Keeps.all hb) ht
        replace bu := bu.keep hb
        replace hu := Cl.at_keep (Keeps.all hb) hu
        replace rf := fun p => (hb.frozen (p := ⟨_, p, none⟩) rb.lt).trans (rf p)
        replace rb := rb.keep hb
        clear hb hpq
        have et0 := bt.c0
        have lt := bt.lt
        have eu0 := bu.c0
        have lu := bu.lt
        have re0 := rb.c0
        have rf0 := rf 0
        have rl := rb.lt
        go_wp2_with fail
        refine bodyPost_ret (v := .tuple #[.agg #[.slice none 0 0], .bool false]) (by simp [results, Tryz.results15, go_sem, re0, rl]; try rfl) rfl ?_
        exact RdN.noS ((hW.setCell (by show w.heap.size ≤ w.heap.size + 1 + 1; omega) _).alloc (by rw [World.size_setCell]; exact hW.size) _) HM.out
      | some l =>
        obtain ⟨hs1, hs2, hs3, hs4⟩ := sub_small HE.out HE2.out Ho.out
        have hsm : Smalls l := fun b hb => by have := (hs3 b hb).1; omega
        have hrd := hsome l rfl
        have hpq := l4Pairs_any hrd (by omega) hsm
        have HS1 := hid hs1
        obtain ⟨a2, c2, rfl, -, -⟩ := Bnd.sd_form hrd
        clear hsome hnone hrd hs1 hs2 hs3 hs4 hsm
        have et0 := bt.c0
        have lt := bt.lt
        have eu0 := bu.c0
        have lu := bu.lt
        have re0 := rb.c0
        have rf0 := rf 0
        have rl := rb.lt
        go_wp2_with fail
        clear et0 lt eu0 lu re0 rf0 rl
        refine hpq.mono ?_
        rintro e w3 ⟨_, rfl, hb, v3, rfl, hr3, hs3⟩
        obtain ⟨a3, c3, rfl, -, -⟩ := Bnd.sd_form hr3
        have hzz := hW.size
        have hrr := rb.lt
        replace hW := hW.trans (hb.mono hW.size)
        replace bt := bt.keep hb
        replace ht := Cl.at_keep (Keeps.all hb) ht
        replace bu := bu.keep hb
        replace hu := Cl.at_keep (Keeps.all hb) hu
        replace rf := fun p => (hb.frozen (p := ⟨_, p, none⟩) rb.lt).trans (rf p)
        replace rb := rb.keep hb
        clear hb hpq
        have hb : Below w3.heap.size w3 (w3.alloc (.cells #[.slice a3 (pairsB l).length c3] 40)) := (Below.refl _ _).alloc (Nat.le_refl _) _
        have hbs : Box (w3.alloc (.cells #[.slice a3 (pairsB l).length c3] 40)) w3.heap.size [.slice a3 (pairsB l).length c3] := Box.new _ _ _
        have HR3 := hid (D.rd_keep (Keeps.all hb) _ _ hr3)
        have et0 := bt.c0
        have lt := bt.lt
        have eu0 := bu.c0
        have lu := bu.lt
        have re0 := rb.c0
        have rf0 := rf 0
        have rl := rb.lt
        go_wp2_with fail
        clear et0 lt eu0 lu re0 rf0 rl
        replace hW := hW.trans (hb.mono hW.size)
        replace bt := bt.keep hb
        replace ht := Cl.at_keep (Keeps.all hb) ht
        replace bu := bu.keep hb
        replace hu := Cl.at_keep (Keeps.all hb) hu
        replace rf := fun p => (hb.frozen (p := ⟨_, p, none⟩) rb.lt).trans (rf p)
        replace rb := rb.keep hb
        clear hb hr3
        generalize (w3.alloc (.cells #[.slice a3 (pairsB l).length c3] 40)) = w4 at *
        refine (l4Good_any (x := ⟨pairsB l⟩) (S := fun x => w2.heap.size ≤ x) HR3.out (Nat.le_trans HS1.out (by decide))).mono ?_
        rintro e w5 ⟨_, rfl, hb, rfl⟩
        have hbs0 := (hbs.keep hb).c0
        have HR5 := hid (D.rd_keep (Keeps.all hb) _ _ HR3.out)
        replace hW := hW.trans (hb.mono hW.size)
        replace bt := bt.keep hb
        replace ht := Cl.at_keep (Keeps.all hb) ht
        replace bu := bu.keep hb
        replace hu := Cl.at_keep (Keeps.all hb) hu
        replace rf := fun p => (hb.frozen (p := ⟨_, p, none⟩) rb.lt).trans (rf p)
        replace rb := rb.keep hb
        clear hb
        by_cases hv : (⟨pairsB l⟩ : Sb).valid = true
        · have HS : Hid (subS t u = some (pairsB l)) := subS_some HEE.out Ho.out hv
          rw [hv]
          clear hv
          have et0 := bt.c0
          have lt := bt.lt
          have eu0 := bu.c0
          have lu := bu.lt
          have re0 := rb.c0
          have rf0 := rf 0
          have rl := rb.lt
          go_wp2_with fail
          refine bodyPost_ret (v := .tuple #[.agg #[.slice a3 (pairsB l).length c3], .bool true]) (by simp [results, Tryz.results15, go_sem, rb.c0]; try rfl) rfl ?_
          refine ⟨_, by rw [subOk, HS.out]; rfl, ?_, hW.setCell (by show w.heap.size ≤ w.heap.size + 1 + 1; omega) _⟩
          rw [subR, HS.out]
          refine D.rd_mono (fun x (hx : w2.heap.size ≤ x) => Nat.le_trans hzz hx) _ _ (D.rd_keep ((Keeps.refl _ _).setCell (fun (q : w2.heap.size ≤ w.heap.size + 1 + 1) _ => by omega) _) _ _ HR5.out)
        · have HS : Hid (subS t u = none) := subS_bad Ho.out (Bool.eq_false_iff.2 hv)
          rw [Bool.eq_false_iff.2 hv]
          clear hv
          have et0 := bt.c0
          have lt := bt.lt
          have eu0 := bu.c0
          have lu := bu.lt
          have re0 := rb.c0
          have rf0 := rf 0
          have rl := rb.lt
          go_wp2_with fail
          refine bodyPost_ret (v := .tuple #[.agg #[.slice none 0 0], .bool false]) (by simp [results, Tryz.results15, go_sem, rb.c0]; try rfl) rfl ?_
          exact RdN.noS (hW.setCell (by show w.heap.size ≤ w.heap.size + 1 + 1; omega) _) HS.out
    · have HE2 := hid (Bool.eq_false_iff.2 h2)
      have HM : Hid (subS t u = none) := subS_no (by rw [HE.out, HE2.out]; rfl)
      clear h1 h2
      obtain ⟨ta, tc, rfl⟩ := Cl.at_form ht
      obtain ⟨ua, uc, rfl⟩ := Cl.at_form hu
      have hW : Below w.heap.size w (((w.alloc (.cells #[.slice ta t.ls.length tc] 26)).alloc (.cells #[.slice ua u.ls.length uc] 26)).alloc (.cells #[.slice none 0 0] 40)) := (((Below.refl _ _).alloc (Nat.le_refl _) _).alloc (by simp) _).alloc (by simp; omega) _
      have bt : Box (((w.alloc (.cells #[.slice ta t.ls.length tc] 26)).alloc (.cells #[.slice ua u.ls.length uc] 26)).alloc (.cells #[.slice none 0 0] 40)) (w.heap.size) [.slice ta t.ls.length tc] := by
        have := (((Box.new w [.slice ta t.ls.length tc] 26).alloc (.cells #[.slice ua u.ls.length uc] 26)).alloc (.cells #[.slice none 0 0] 40))
        simpa only [World.size_alloc] using this
      have bu : Box (((w.alloc (.cells #[.slice ta t.ls.length tc] 26)).alloc (.cells #[.slice ua u.ls.length uc] 26)).alloc (.cells #[.slice none 0 0] 40)) (w.heap.size + 1) [.slice ua u.ls.length uc] := by
        have := ((Box.new (w.alloc (.cells #[.slice ta t.ls.length tc] 26)) [.slice ua u.ls.length uc] 26).alloc (.cells #[.slice none 0 0] 40))
        simpa only [World.size_alloc] using this
      have rb : Box (((w.alloc (.cells #[.slice ta t.ls.length tc] 26)).alloc (.cells #[.slice ua u.ls.length uc] 26)).alloc (.cells #[.slice none 0 0] 40)) (w.heap.size + 1 + 1) [.slice none 0 0] := by
        have := (Box.new ((w.alloc (.cells #[.slice ta t.ls.length tc] 26)).alloc (.cells #[.slice ua u.ls.length uc] 26)) [.slice none 0 0] 40)
        simpa only [World.size_alloc] using this
      have rf : ∀ p, (((w.alloc (.cells #[.slice ta t.ls.length tc] 26)).alloc (.cells #[.slice ua u.ls.length uc] 26)).alloc (.cells #[.slice none 0 0] 40)).frozen? ⟨w.heap.size + 1 + 1, p, none⟩ = false := fun p => World.frozen?_alloc_at _ _ _ p (by simp)
      replace ht := Cl.at_keep (Keeps.all hW) ht
      replace hu := Cl.at_keep (Keeps.all hW) hu
      have et0 := bt.c0
      have lt := bt.lt
      have eu0 := bu.c0
      have lu := bu.lt
      have re0 := rb.c0
      have rf0 := rf 0
      have rl := rb.lt
      go_enter Tryz.func15, Tryz.ntmps15
      go_wp2_with fail
      clear et0 lt eu0 lu re0 rf0 rl
      have Hw0 : Hid ((((w.alloc (.cells #[.slice ta t.ls.length tc] 26)).alloc (.cells #[.slice ua u.ls.length uc] 26)).alloc (.cells #[.slice none 0 0] 40)).heap.size = w.heap.size + 1 + 1 + 1) := by simp [Hid]
      generalize (((w.alloc (.cells #[.slice ta t.ls.length tc] 26)).alloc (.cells #[.slice ua u.ls.length uc] 26)).alloc (.cells #[.slice none 0 0] 40)) = w0 at *
      refine (l7Good_any ht hbt).mono ?_
      rintro e w1 ⟨_, rfl, hb, rfl⟩
      replace hW := hW.trans (hb.mono hW.size)
      replace bt := bt.keep hb
      replace ht := Cl.at_keep (Keeps.all hb) ht
      replace bu := bu.keep hb
      replace hu := Cl.at_keep (Keeps.all hb) hu
      replace rf := fun p => (hb.frozen (p := ⟨_, p, none⟩) rb.lt).trans (rf p)
      replace rb := rb.keep hb
      clear hb
      rw [HE.out]
      have et0 := bt.c0
      have lt := bt.lt
      have eu0 := bu.c0
      have lu := bu.lt
      have re0 := rb.c0
      have rf0 := rf 0
      have rl := rb.lt
      go_wp2_with fail
      clear et0 lt eu0 lu re0 rf0 rl
      refine (l7Good_any hu hbu).mono ?_
      rintro e w1 ⟨_, rfl, hb, rfl⟩
      replace hW := hW.trans (hb.mono hW.size)
      replace bt := bt.keep hb
      replace ht := Cl.at_keep (Keeps.all hb) ht
      replace bu := bu.keep hb
      replace hu := Cl.at_keep (Keeps.all hb) hu
      replace rf := fun p => (hb.frozen (p := ⟨_, p, none⟩) rb.lt).trans (rf p)
      replace rb := rb.keep hb
      clear hb
      rw [HE2.out]
      have et0 := bt.c0
      have lt := bt.lt
      have eu0 := bu.c0
      have lu := bu.lt
      have re0 := rb.c0
      have rf0 := rf 0
      have rl := rb.lt
      go_wp2_with fail
      clear et0 lt eu0 lu re0 rf0 rl
      refine bodyPost_ret (v := .tuple #[.agg #[.slice none 0 0], .bool false]) (by simp [results, Tryz.results15, go_sem, rb.c0]; try rfl) rfl ?_
      exact RdN.noS (hW.setCell (by show w.heap.size ≤ w.heap.size + 1 + 1; omega) _) HM.out
  · have HE := hid (Bool.eq_false_iff.2 h1)
    have HM : Hid (subS t u = none) := subS_no (by rw [HE.out]; rfl)
    clear h1
    obtain ⟨ta, tc, rfl⟩ := Cl.at_form ht
    obtain ⟨ua, uc, rfl⟩ := Cl.at_form hu
    have hW : Below w.heap.size w (((w.alloc (.cells #[.slice ta t.ls.length tc] 26)).alloc (.cells #[.slice ua u.ls.length uc] 26)).alloc (.cells #[.slice none 0 0] 40)) := (((Below.refl _ _).alloc (Nat.le_refl _) _).alloc (by simp) _).alloc (by simp; omega) _
    have bt : Box (((w.alloc (.cells #[.slice ta t.ls.length tc] 26)).alloc (.cells #[.slice ua u.ls.length uc] 26)).alloc (.cells #[.slice none 0 0] 40)) (w.heap.size) [.slice ta t.ls.length tc] := by
      have := (((Box.new w [.slice ta t.ls.length tc] 26).alloc (.cells #[.slice ua u.ls.length uc] 26)).alloc (.cells #[.slice none 0 0] 40))
      simpa only [World.size_alloc] using this
    have bu : Box (((w.alloc (.cells #[.slice ta t.ls.length tc] 26)).alloc (.cells #[.slice ua u.ls.length uc] 26)).alloc (.cells #[.slice none 0 0] 40)) (w.heap.size + 1) [.slice ua u.ls.length uc] := by
      have := ((Box.new (w.alloc (.cells #[.slice ta t.ls.length tc] 26)) [.slice ua u.ls.length uc] 26).alloc (.cells #[.slice none 0 0] 40))
      simpa only [World.size_alloc] using this
    have rb : Box (((w.alloc (.cells #[.slice ta t.ls.length tc] 26)).alloc (.cells #[.slice ua u.ls.length uc] 26)).alloc (.cells #[.slice none 0 0] 40)) (w.heap.size + 1 + 1) [.slice none 0 0] := by
      have := (Box.new ((w.alloc (.cells #[.slice ta t.ls.length tc] 26)).alloc (.cells #[.slice ua u.ls.length uc] 26)) [.slice none 0 0] 40)
      simpa only [World.size_alloc] using this
    have rf : ∀ p, (((w.alloc (.cells #[.slice ta t.ls.length tc] 26)).alloc (.cells #[.slice ua u.ls.length uc] 26)).alloc (.cells #[.slice none 0 0] 40)).frozen? ⟨w.heap.size + 1 + 1, p, none⟩ = false := fun p => World.frozen?_alloc_at _ _ _ p (by simp)
    replace ht := Cl.at_keep (Keeps.all hW) ht
    replace hu := Cl.at_keep (Keeps.all hW) hu
    have et0 := bt.c0
    have lt := bt.lt
    have eu0 := bu.c0
    have lu := bu.lt
    have re0 := rb.c0
    have rf0 := rf 0
    have rl := rb.lt
    go_enter Tryz.func15, Tryz.ntmps15
    go_wp2_with fail
    clear et0 lt eu0 lu re0 rf0 rl
    have Hw0 : Hid ((((w.alloc (.cells #[.slice ta t.ls.length tc] 26)).alloc (.cells #[.slice ua u.ls.length uc] 26)).alloc (.cells #[.slice none 0 0] 40)).heap.size = w.heap.size + 1 + 1 + 1) := by simp [Hid]
    generalize (((w.alloc (.cells #[.slice ta t.ls.length tc] 26)).alloc (.cells #[.slice ua u.ls.length uc] 26)).alloc (.cells #[.slice none 0 0] 40)) = w0 at *
    refine (l7Good_any ht hbt).mono ?_
    rintro e w1 ⟨_, rfl, hb, rfl⟩
    replace hW := hW.trans (hb.mono hW.size)
    replace bt := bt.keep hb
    replace ht := Cl.at_keep (Keeps.all hb) ht
    replace bu := bu.keep hb
    replace hu := Cl.at_keep (Keeps.all hb) hu
    replace rf := fun p => (hb.frozen (p := ⟨_, p, none⟩) rb.lt).trans (rf p)
    replace rb := rb.keep hb
    clear hb
    rw [HE.out]
    have et0 := bt.c0
    have lt := bt.lt
    have eu0 := bu.c0
    have lu := bu.lt
    have re0 := rb.c0
    have rf0 := rf 0
    have rl := rb.lt
    go_wp2_with fail
    clear et0 lt eu0 lu re0 rf0 rl
    refine bodyPost_ret (v := .tuple #[.agg #[.slice none 0 0], .bool false]) (by simp [results, Tryz.results15, go_sem, rb.c0]; try rfl) rfl ?_
    exact RdN.noS (hW.setCell (by show w.heap.size ≤ w.heap.size + 1 + 1; omega) _) HM.out
end Go.Proofs.YtglhbaigigdeeaaGreat
