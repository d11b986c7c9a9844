/- Several texts in one file. -/
import Derived.Test.YtglhbaigigdeeaaQ18
import Derived.Test.YtglhbaigigdeeaaQ16
/- MatchTerms, IsInstance, AreVariants. -/
namespace Go.Proofs.Ytglhbaigigdeeaa
set_option maxRecDepth 100000
open Go.RowKit

theorem matchOk_no {t u : Tm} (h : (t.expr && u.expr) = false) : matchOk t u = false := by rw [matchOk, matchS_no h]; rfl
theorem OutD.no {t u : Tm} {w w0 : World} (hb : Below w.heap.size w w0) (h : matchS t u = none) : OutD (fun v => .agg #[v]) (Bnd.sd (matchR t u).bs) (matchOk t u) w (.returned (.tuple #[.agg #[.slice none 0 0], .bool false])) w0 :=
  ⟨.slice none 0 0, [], by rw [matchOk, h]; rfl, by rw [matchR, h]; show D.own w0 _ (Bnd.sd []) []; rw [Bnd.sd_css]; exact D.own_nil _ _, by simp, hb⟩
set_option maxHeartbeats 4000000 in
theorem impl_matched {t u : Tm} {S S' : Nat → Prop} {c0 c1 d0 d1 : Value} {w : World} (ht : Tm.at S w c0 c1 t) (hu : Tm.at S' w d0 d1 u) (he : t.expr = true) (he2 : u.expr = true) :
    Calls Try.prog 26 #[.agg #[c0, c1], .agg #[d0, d1]] w (OutD (fun v => .agg #[v]) (Bnd.sd (matchR t u).bs) (matchOk t u) w) := by
  have HE := hid he
  have HE2 := hid he2
  have HEE : Hid ((t.expr && u.expr) = true) := by rw [Hid, he, he2]; rfl
  have hb1 := Tm.expr_bulk he
  have hb2 := Tm.expr_bulk he2
  clear he he2
  replace ht := Tm.at_lt ht
  replace hu := Tm.at_lt hu
  have hmm := @run_makeMap Try.prog
  obtain ⟨rfl, tn, ta, tc, rfl⟩ := Tm.at_form ht
  obtain ⟨rfl, un, ua, uc, rfl⟩ := Tm.at_form hu
  have hW : Below w.heap.size w (((w.alloc (.cells #[.string t.name, .slice ta t.args.length tc] 33)).alloc (.cells #[.string u.name, .slice ua u.args.length uc] 33)).alloc (.cells #[.slice none 0 0] 28)) := (((Below.refl _ _).alloc (Nat.le_refl _) _).alloc (by simp) _).alloc (by simp; omega) _
  have bt : Box (((w.alloc (.cells #[.string t.name, .slice ta t.args.length tc] 33)).alloc (.cells #[.string u.name, .slice ua u.args.length uc] 33)).alloc (.cells #[.slice none 0 0] 28)) (w.heap.size) [.string t.name, .slice ta t.args.length tc] := by
    have := (((Box.new w [.string t.name, .slice ta t.args.length tc] 33).alloc (.cells #[.string u.name, .slice ua u.args.length uc] 33)).alloc (.cells #[.slice none 0 0] 28))
    simpa only [World.size_alloc] using this
  have bu : Box (((w.alloc (.cells #[.string t.name, .slice ta t.args.length tc] 33)).alloc (.cells #[.string u.name, .slice ua u.args.length uc] 33)).alloc (.cells #[.slice none 0 0] 28)) (w.heap.size + 1) [.string u.name, .slice ua u.args.length uc] := by
    have := ((Box.new (w.alloc (.cells #[.string t.name, .slice ta t.args.length tc] 33)) [.string u.name, .slice ua u.args.length uc] 33).alloc (.cells #[.slice none 0 0] 28))
    simpa only [World.size_alloc] using this
  have rb : Box (((w.alloc (.cells #[.string t.name, .slice ta t.args.length tc] 33)).alloc (.cells #[.string u.name, .slice ua u.args.length uc] 33)).alloc (.cells #[.slice none 0 0] 28)) (w.heap.size + 1 + 1) [.slice none 0 0] := by
    have := (Box.new ((w.alloc (.cells #[.string t.name, .slice ta t.args.length tc] 33)).alloc (.cells #[.string u.name, .slice ua u.args.length uc] 33)) [.slice none 0 0] 28)
    simpa only [World.size_alloc] using this
  have rf : ∀ p, (((w.alloc (.cells #[.string t.name, .slice ta t.args.length tc] 33)).alloc (.cells #[.string u.name, .slice ua u.args.length uc] 33)).alloc (.cells #[.slice none 0 0] 28)).frozen? ⟨w.heap.size + 1 + 1, p, none⟩ = false := fun p => World.frozen?_alloc_at _ _ _ p (by simp)
  replace ht := Tm.at_keep (Keeps.all hW) ht
  replace hu := Tm.at_keep (Keeps.all hW) hu
  have et0 := bt.c0
  have et1 := bt.c1
  have lt := bt.lt
  have eu0 := bu.c0
  have eu1 := bu.c1
  have lu := bu.lt
  have re0 := rb.c0
  have rf0 := rf 0
  have rl := rb.lt
  go_enter Try.func26, Try.ntmps26
  go_wp2_with fail
  clear et0 et1 lt eu0 eu1 lu re0 rf0 rl
  have Hw0 : Hid ((((w.alloc (.cells #[.string t.name, .slice ta t.args.length tc] 33)).alloc (.cells #[.string u.name, .slice ua u.args.length uc] 33)).alloc (.cells #[.slice none 0 0] 28)).heap.size = w.heap.size + 1 + 1 + 1) := by simp [Hid]
  generalize (((w.alloc (.cells #[.string t.name, .slice ta t.args.length tc] 33)).alloc (.cells #[.string u.name, .slice ua u.args.length uc] 33)).alloc (.cells #[.slice none 0 0] 28)) = w0 at *
  clear hmm
  have hA : Below w0.heap.size w0 (w0.alloc (.map #[] 0)) := (Below.refl _ _).alloc (Nat.le_refl _) _
  have hmp : MapIs (w0.alloc (.map #[] 0)) (w.heap.size + 1 + 1 + 1) [] := by have := MapIs.made w0; rwa [Hw0.out] at this
  have hq := matI_any t u [] [] (w.heap.size + 1 + 1 + 1) (· < w.heap.size) _ _ _ _ (w0.alloc (.map #[] 0)) hmp ⟨rfl, fun i h => absurd h (by simp)⟩ List.nodup_nil (fun x hx e => by have hx' : x < w.heap.size := hx; omega) (Tm.at_keep (Keeps.all hA) ht) (Tm.at_keep (Keeps.all hA) hu) (Tm.expr_nice HE.out) (Tm.expr_leafy HE.out)
  obtain ⟨o, Ho⟩ : ∃ o, Hid (Tm.mat t u [] = o) := ⟨_, hid rfl⟩
  rw [Ho.out] at hq
  refine hq.mono ?_
  rintro e w2 ⟨rfl, hg, hsome⟩
  have hb : Below w0.heap.size w0 w2 := hA.grown hg (by rw [World.size_alloc]; omega) (fun k hk => by injection hk with hk; have := Hw0.out; omega)
  have hz3 : w.heap.size + 1 + 1 + 1 ≤ w2.heap.size := by have := hg.size; rw [World.size_alloc] at this; have := Hw0.out; omega
  replace hW := hW.trans (hb.mono hW.size)
  replace bt := bt.keep hb
  replace ht := Tm.at_keep (Keeps.all hb) ht
  replace bu := bu.keep hb
  replace hu := Tm.at_keep (Keeps.all hb) hu
  replace rf := fun p => (hb.frozen (p := ⟨_, p, none⟩) rb.lt).trans (rf p)
  replace rb := rb.keep hb
  clear hq hg hb hA hmp
  cases o with
  | none =>
    have HM : Hid (matchS t u = none) := matchS_none Ho.out
    clear hsome
    have et0 := bt.c0
    have et1 := bt.c1
    have lt := bt.lt
    have eu0 := bu.c0
    have eu1 := bu.c1
    have lu := bu.lt
    have re0 := rb.c0
    have rf0 := rf 0
    have rl := rb.lt
    go_wp2_with fail
    refine bodyPost_ret (v := .tuple #[.agg #[.slice none 0 0], .bool false]) (by simp [results, Try.results26, go_sem, rb.c0]; try rfl) rfl ?_
    exact OutD.no (hW.setCell (by show w.heap.size ≤ w.heap.size + 1 + 1; omega) _) HM.out
  | some l =>
    have hll := Tm.mat_length t u [] l Ho.out
    have hsm : Smalls l := Tm.mat_all (P := fun b => b.term.bulk ≤ 1048576) t u [] l (fun n _ _ v hv => by simp only; omega) (by simp) Ho.out
    have hvs : ∀ b ∈ l, b.var.size ≤ maxLen := Tm.mat_all (P := fun b => b.var.size ≤ maxLen) t u [] l (fun n _ hn v _ => by show n.size ≤ maxLen; unfold maxLen; omega) (by simp) Ho.out
    have hon : Once l := Tm.mat_once t u [] l List.nodup_nil Ho.out
    obtain ⟨kv, hmp2, hkv⟩ := hsome l rfl
    have hpq := subst_any hmp2 hkv hon (fun x hx => Nat.lt_of_lt_of_le hx hW.size) hvs hsm (by simp at hll; omega) (Nat.le_trans (known_small HE.out HE2.out Ho.out) (by decide))
    clear hsome
    have et0 := bt.c0
    have et1 := bt.c1
    have lt := bt.lt
    have eu0 := bu.c0
    have eu1 := bu.c1
    have lu := bu.lt
    have re0 := rb.c0
    have rf0 := rf 0
    have rl := rb.lt
    go_wp2_with fail
    clear et0 et1 lt eu0 eu1 lu re0 rf0 rl
    refine hpq.mono ?_
    rintro e w3 ⟨v3, F, rfl, ho, hF, hb⟩
    obtain ⟨a3, c3, rfl⟩ := Bnd.sd_own_form ho
    have hzz := hW.size
    have hrr := rb.lt
    replace hW := hW.trans (hb.mono hW.size)
    replace bt := bt.keep hb
    replace ht := Tm.at_keep (Keeps.all hb) ht
    replace bu := bu.keep hb
    replace hu := Tm.at_keep (Keeps.all hb) hu
    replace rf := fun p => (hb.frozen (p := ⟨_, p, none⟩) rb.lt).trans (rf p)
    replace rb := rb.keep hb
    have HO := hid ho
    have nF : w.heap.size + 1 + 1 ∉ F := fun q => by have := hF _ q; omega
    have HF : Hid (∀ x ∈ F, w2.heap.size ≤ x) := hF
    clear hb hpq ho hF
    have HL : Hid ((if (⟨pairsB l⟩ : Sb).valid = true then pairsB l else []) = (matchR t u).bs ∧ (⟨pairsB l⟩ : Sb).valid = matchOk t u) := by
      by_cases hv : (⟨pairsB l⟩ : Sb).valid = true
      · have hS := matchS_some HEE.out Ho.out hv
        rw [Hid, if_pos hv, matchR, matchOk, hS]; exact ⟨rfl, hv⟩
      · have hS := matchS_bad (t := t) (u := u) Ho.out (Bool.eq_false_iff.2 hv)
        rw [Hid, if_neg hv, matchR, matchOk, hS]; exact ⟨rfl, Bool.eq_false_iff.2 hv⟩
    rw [HL.out.1] at HO
    rw [HL.out.1, HL.out.2]
    have et0 := bt.c0
    have et1 := bt.c1
    have lt := bt.lt
    have eu0 := bu.c0
    have eu1 := bu.c1
    have lu := bu.lt
    have re0 := rb.c0
    have rf0 := rf 0
    have rl := rb.lt
    go_wp2_with fail
    refine bodyPost_ret (v := .tuple #[.agg #[.slice a3 (matchR t u).bs.length c3], .bool (matchOk t u)]) (by simp [results, Try.results26, go_sem, rb.c0]; try rfl) rfl ?_
    exact ⟨_, F, rfl, D.own_keep _ _ _ ((Keeps.refl _ _).setCell (fun q _ => nF q) _) HO.out, fun x hx => by have := HF.out x hx; omega, hW.setCell (by show w.heap.size ≤ w.heap.size + 1 + 1; omega) _⟩
set_option maxHeartbeats 4000000 in
theorem impl_MatchTerms {t u : Tm} {S S' : Nat → Prop} {c0 c1 d0 d1 : Value} {w : World} (ht : Tm.at S w c0 c1 t) (hbt : t.bulk ≤ 1048576) (hu : Tm.at S' w d0 d1 u) (hbu : u.bulk ≤ 1048576) :
    Calls Try.prog 9 #[.agg #[c0, c1], .agg #[d0, d1]] w (OutD (fun v => .agg #[v]) (Bnd.sd (matchR t u).bs) (matchOk t u) w) := by
  by_cases h1 : t.expr = true
  · have HE := hid h1
    by_cases h2 : u.expr = true
    · have HE2 := hid h2
      clear h1 h2
      obtain ⟨rfl, tn, ta, tc, rfl⟩ := Tm.at_form ht
      obtain ⟨rfl, un, ua, uc, rfl⟩ := Tm.at_form hu
      have hW : Below w.heap.size w (((w.alloc (.cells #[.string t.name, .slice ta t.args.length tc] 33)).alloc (.cells #[.string u.name, .slice ua u.args.length uc] 33)).alloc (.cells #[.slice none 0 0] 28)) := (((Below.refl _ _).alloc (Nat.le_refl _) _).alloc (by simp) _).alloc (by simp; omega) _
      have bt : Box (((w.alloc (.cells #[.string t.name, .slice ta t.args.length tc] 33)).alloc (.cells #[.string u.name, .slice ua u.args.length uc] 33)).alloc (.cells #[.slice none 0 0] 28)) (w.heap.size) [.string t.name, .slice ta t.args.length tc] := by
        have := (((Box.new w [.string t.name, .slice ta t.args.length tc] 33).alloc (.cells #[.string u.name, .slice ua u.args.length uc] 33)).alloc (.cells #[.slice none 0 0] 28))
        simpa only [World.size_alloc] using this
      have bu : Box (((w.alloc (.cells #[.string t.name, .slice ta t.args.length tc] 33)).alloc (.cells #[.string u.name, .slice ua u.args.length uc] 33)).alloc (.cells #[.slice none 0 0] 28)) (w.heap.size + 1) [.string u.name, .slice ua u.args.length uc] := by
        have := ((Box.new (w.alloc (.cells #[.string t.name, .slice ta t.args.length tc] 33)) [.string u.name, .slice ua u.args.length uc] 33).alloc (.cells #[.slice none 0 0] 28))
        simpa only [World.size_alloc] using this
      have rb : Box (((w.alloc (.cells #[.string t.name, .slice ta t.args.length tc] 33)).alloc (.cells #[.string u.name, .slice ua u.args.length uc] 33)).alloc (.cells #[.slice none 0 0] 28)) (w.heap.size + 1 + 1) [.slice none 0 0] := by
        have := (Box.new ((w.alloc (.cells #[.string t.name, .slice ta t.args.length tc] 33)).alloc (.cells #[.string u.name, .slice ua u.args.length uc] 33)) [.slice none 0 0] 28)
        simpa only [World.size_alloc] using this
      have rf : ∀ p, (((w.alloc (.cells #[.string t.name, .slice ta t.args.length tc] 33)).alloc (.cells #[.string u.name, .slice ua u.args.length uc] 33)).alloc (.cells #[.slice none 0 0] 28)).frozen? ⟨w.heap.size + 1 + 1, p, none⟩ = false := fun p => World.frozen?_alloc_at _ _ _ p (by simp)
      replace ht := Tm.at_keep (Keeps.all hW) ht
      replace hu := Tm.at_keep (Keeps.all hW) hu
      have et0 := bt.c0
      have et1 := bt.c1
      have lt := bt.lt
      have eu0 := bu.c0
      have eu1 := bu.c1
      have lu := bu.lt
      have re0 := rb.c0
      have rf0 := rf 0
      have rl := rb.lt
      go_enter Try.func9, Try.ntmps9
      go_wp2_with fail
      clear et0 et1 lt eu0 eu1 lu re0 rf0 rl
      have Hw0 : Hid ((((w.alloc (.cells #[.string t.name, .slice ta t.args.length tc] 33)).alloc (.cells #[.string u.name, .slice ua u.args.length uc] 33)).alloc (.cells #[.slice none 0 0] 28)).heap.size = w.heap.size + 1 + 1 + 1) := by simp [Hid]
      generalize (((w.alloc (.cells #[.string t.name, .slice ta t.args.length tc] 33)).alloc (.cells #[.string u.name, .slice ua u.args.length uc] 33)).alloc (.cells #[.slice none 0 0] 28)) = w0 at *
      refine (isExpression_any t ht hbt).mono ?_
      rintro e w1 ⟨_, rfl, hb, rfl⟩
      replace hW := hW.trans (hb.mono hW.size)
      replace bt := bt.keep hb
      replace ht := Tm.at_keep (Keeps.all hb) ht
      replace bu := bu.keep hb
      replace hu := Tm.at_keep (Keeps.all hb) hu
      replace rf := fun p => (hb.frozen (p := ⟨_, p, none⟩) rb.lt).trans (rf p)
      replace rb := rb.keep hb
      clear hb
      rw [HE.out]
      have et0 := bt.c0
      have et1 := bt.c1
      have lt := bt.lt
      have eu0 := bu.c0
      have eu1 := bu.c1
      have lu := bu.lt
      have re0 := rb.c0
      have rf0 := rf 0
      have rl := rb.lt
      go_wp2_with fail
      clear et0 et1 lt eu0 eu1 lu re0 rf0 rl
      refine (isExpression_any u hu hbu).mono ?_
      rintro e w1 ⟨_, rfl, hb, rfl⟩
      replace hW := hW.trans (hb.mono hW.size)
      replace bt := bt.keep hb
      replace ht := Tm.at_keep (Keeps.all hb) ht
      replace bu := bu.keep hb
      replace hu := Tm.at_keep (Keeps.all hb) hu
      replace rf := fun p => (hb.frozen (p := ⟨_, p, none⟩) rb.lt).trans (rf p)
      replace rb := rb.keep hb
      clear hb
      rw [HE2.out]
      have et0 := bt.c0
      have et1 := bt.c1
      have lt := bt.lt
      have eu0 := bu.c0
      have eu1 := bu.c1
      have lu := bu.lt
      have re0 := rb.c0
      have rf0 := rf 0
      have rl := rb.lt
      go_wp2_with fail
      clear et0 et1 lt eu0 eu1 lu re0 rf0 rl
      refine (impl_matched ht hu HE.out HE2.out).mono ?_
      rintro e w3 ⟨v3, F, rfl, ho, hF, hb⟩
      obtain ⟨a3, c3, rfl⟩ := Bnd.sd_own_form ho
      have hzz := hW.size
      have hrr := rb.lt
      replace hW := hW.trans (hb.mono hW.size)
      replace bt := bt.keep hb
      replace ht := Tm.at_keep (Keeps.all hb) ht
      replace bu := bu.keep hb
      replace hu := Tm.at_keep (Keeps.all hb) hu
      replace rf := fun p => (hb.frozen (p := ⟨_, p, none⟩) rb.lt).trans (rf p)
      replace rb := rb.keep hb
      have HO := hid ho
      have nF : w.heap.size + 1 + 1 ∉ F := fun q => by have := hF _ q; omega
      have HF : Hid (∀ x ∈ F, w.heap.size ≤ x) := fun x hx => by have := hF x hx; omega
      clear hb ho hF
      have et0 := bt.c0
      have et1 := bt.c1
      have lt := bt.lt
      have eu0 := bu.c0
      have eu1 := bu.c1
      have lu := bu.lt
      have re0 := rb.c0
      have rf0 := rf 0
      have rl := rb.lt
      go_wp2_with fail
      refine bodyPost_ret (v := .tuple #[.agg #[.slice a3 (matchR t u).bs.length c3], .bool (matchOk t u)]) (by simp [results, Try.results9, go_sem, rb.c0]; try rfl) rfl ?_
      exact ⟨_, F, rfl, D.own_keep _ _ _ ((Keeps.refl _ _).setCell (fun q _ => nF q) _) HO.out, HF.out, hW.setCell (by show w.heap.size ≤ w.heap.size + 1 + 1; omega) _⟩
    · have HE2 := hid (Bool.eq_false_iff.2 h2)
      have HM : Hid (matchS t u = none) := matchS_no (by rw [HE.out, HE2.out]; rfl)
      clear h1 h2
      obtain ⟨rfl, tn, ta, tc, rfl⟩ := Tm.at_form ht
      obtain ⟨rfl, un, ua, uc, rfl⟩ := Tm.at_form hu
      have hW : Below w.heap.size w (((w.alloc (.cells #[.string t.name, .slice ta t.args.length tc] 33)).alloc (.cells #[.string u.name, .slice ua u.args.length uc] 33)).alloc (.cells #[.slice none 0 0] 28)) := (((Below.refl _ _).alloc (Nat.le_refl _) _).alloc (by simp) _).alloc (by simp; omega) _
      have bt : Box (((w.alloc (.cells #[.string t.name, .slice ta t.args.length tc] 33)).alloc (.cells #[.string u.name, .slice ua u.args.length uc] 33)).alloc (.cells #[.slice none 0 0] 28)) (w.heap.size) [.string t.name, .slice ta t.args.length tc] := by
        have := (((Box.new w [.string t.name, .slice ta t.args.length tc] 33).alloc (.cells #[.string u.name, .slice ua u.args.length uc] 33)).alloc (.cells #[.slice none 0 0] 28))
        simpa only [World.size_alloc] using this
      have bu : Box (((w.alloc (.cells #[.string t.name, .slice ta t.args.length tc] 33)).alloc (.cells #[.string u.name, .slice ua u.args.length uc] 33)).alloc (.cells #[.slice none 0 0] 28)) (w.heap.size + 1) [.string u.name, .slice ua u.args.length uc] := by
        have := ((Box.new (w.alloc (.cells #[.string t.name, .slice ta t.args.length tc] 33)) [.string u.name, .slice ua u.args.length uc] 33).alloc (.cells #[.slice none 0 0] 28))
        simpa only [World.size_alloc] using this
      have rb : Box (((w.alloc (.cells #[.string t.name, .slice ta t.args.length tc] 33)).alloc (.cells #[.string u.name, .slice ua u.args.length uc] 33)).alloc (.cells #[.slice none 0 0] 28)) (w.heap.size + 1 + 1) [.slice none 0 0] := by
        have := (Box.new ((w.alloc (.cells #[.string t.name, .slice ta t.args.length tc] 33)).alloc (.cells #[.string u.name, .slice ua u.args.length uc] 33)) [.slice none 0 0] 28)
        simpa only [World.size_alloc] using this
      have rf : ∀ p, (((w.alloc (.cells #[.string t.name, .slice ta t.args.length tc] 33)).alloc (.cells #[.string u.name, .slice ua u.args.length uc] 33)).alloc (.cells #[.slice none 0 0] 28)).frozen? ⟨w.heap.size + 1 + 1, p, none⟩ = false := fun p => World.frozen?_alloc_at _ _ _ p (by simp)
      replace ht := Tm.at_keep (Keeps.all hW) ht
      replace hu := Tm.at_keep (Keeps.all hW) hu
      have et0 := bt.c0
      have et1 := bt.c1
      have lt := bt.lt
      have eu0 := bu.c0
      have eu1 := bu.c1
      have lu := bu.lt
      have re0 := rb.c0
      have rf0 := rf 0
      have rl := rb.lt
      go_enter Try.func9, Try.ntmps9
      go_wp2_with fail
      clear et0 et1 lt eu0 eu1 lu re0 rf0 rl
      have Hw0 : Hid ((((w.alloc (.cells #[.string t.name, .slice ta t.args.length tc] 33)).alloc (.cells #[.string u.name, .slice ua u.args.length uc] 33)).alloc (.cells #[.slice none 0 0] 28)).heap.size = w.heap.size + 1 + 1 + 1) := by simp [Hid]
      generalize (((w.alloc (.cells #[.string t.name, .slice ta t.args.length tc] 33)).alloc (.cells #[.string u.name, .slice ua u.args.length uc] 33)).alloc (.cells #[.slice none 0 0] 28)) = w0 at *
      refine (isExpression_any t ht hbt).mono ?_
      rintro e w1 ⟨_, rfl, hb, rfl⟩
      replace hW := hW.trans (hb.mono hW.size)
      replace bt := bt.keep hb
      replace ht := Tm.at_keep (Keeps.all hb) ht
      replace bu := bu.keep hb
      replace hu := Tm.at_keep (Keeps.all hb) hu
      replace rf := fun p => (hb.frozen (p := ⟨_, p, none⟩) rb.lt).trans (rf p)
      replace rb := rb.keep hb
      clear hb
      rw [HE.out]
      have et0 := bt.c0
      have et1 := bt.c1
      have lt := bt.lt
      have eu0 := bu.c0
      have eu1 := bu.c1
      have lu := bu.lt
      have re0 := rb.c0
      have rf0 := rf 0
      have rl := rb.lt
      go_wp2_with fail
      clear et0 et1 lt eu0 eu1 lu re0 rf0 rl
      refine (isExpression_any u hu hbu).mono ?_
      rintro e w1 ⟨_, rfl, hb, rfl⟩
      replace hW := hW.trans (hb.mono hW.size)
      replace bt := bt.keep hb
      replace ht := Tm.at_keep (Keeps.all hb) ht
      replace bu := bu.keep hb
      replace hu := Tm.at_keep (Keeps.all hb) hu
      replace rf := fun p => (hb.frozen (p := ⟨_, p, none⟩) rb.lt).trans (rf p)
      replace rb := rb.keep hb
      clear hb
      rw [HE2.out]
      have et0 := bt.c0
      have et1 := bt.c1
      have lt := bt.lt
      have eu0 := bu.c0
      have eu1 := bu.c1
      have lu := bu.lt
      have re0 := rb.c0
      have rf0 := rf 0
      have rl := rb.lt
      go_wp2_with fail
      clear et0 et1 lt eu0 eu1 lu re0 rf0 rl
      refine bodyPost_ret (v := .tuple #[.agg #[.slice none 0 0], .bool false]) (by simp [results, Try.results9, go_sem, rb.c0]; try rfl) rfl ?_
      exact OutD.no (hW.setCell (by show w.heap.size ≤ w.heap.size + 1 + 1; omega) _) HM.out
  · have HE := hid (Bool.eq_false_iff.2 h1)
    have HM : Hid (matchS t u = none) := matchS_no (by rw [HE.out]; rfl)
    clear h1
    obtain ⟨rfl, tn, ta, tc, rfl⟩ := Tm.at_form ht
    obtain ⟨rfl, un, ua, uc, rfl⟩ := Tm.at_form hu
    have hW : Below w.heap.size w (((w.alloc (.cells #[.string t.name, .slice ta t.args.length tc] 33)).alloc (.cells #[.string u.name, .slice ua u.args.length uc] 33)).alloc (.cells #[.slice none 0 0] 28)) := (((Below.refl _ _).alloc (Nat.le_refl _) _).alloc (by simp) _).alloc (by simp; omega) _
    have bt : Box (((w.alloc (.cells #[.string t.name, .slice ta t.args.length tc] 33)).alloc (.cells #[.string u.name, .slice ua u.args.length uc] 33)).alloc (.cells #[.slice none 0 0] 28)) (w.heap.size) [.string t.name, .slice ta t.args.length tc] := by
      have := (((Box.new w [.string t.name, .slice ta t.args.length tc] 33).alloc (.cells #[.string u.name, .slice ua u.args.length uc] 33)).alloc (.cells #[.slice none 0 0] 28))
      simpa only [World.size_alloc] using this
    have bu : Box (((w.alloc (.cells #[.string t.name, .slice ta t.args.length tc] 33)).alloc (.cells #[.string u.name, .slice ua u.args.length uc] 33)).alloc (.cells #[.slice none 0 0] 28)) (w.heap.size + 1) [.string u.name, .slice ua u.args.length uc] := by
      have := ((Box.new (w.alloc (.cells #[.string t.name, .slice ta t.args.length tc] 33)) [.string u.name, .slice ua u.args.length uc] 33).alloc (.cells #[.slice none 0 0] 28))
      simpa only [World.size_alloc] using this
    have rb : Box (((w.alloc (.cells #[.string t.name, .slice ta t.args.length tc] 33)).alloc (.cells #[.string u.name, .slice ua u.args.length uc] 33)).alloc (.cells #[.slice none 0 0] 28)) (w.heap.size + 1 + 1) [.slice none 0 0] := by
      have := (Box.new ((w.alloc (.cells #[.string t.name, .slice ta t.args.length tc] 33)).alloc (.cells #[.string u.name, .slice ua u.args.length uc] 33)) [.slice none 0 0] 28)
      simpa only [World.size_alloc] using this
    have rf : ∀ p, (((w.alloc (.cells #[.string t.name, .slice ta t.args.length tc] 33)).alloc (.cells #[.string u.name, .slice ua u.args.length uc] 33)).alloc (.cells #[.slice none 0 0] 28)).frozen? ⟨w.heap.size + 1 + 1, p, none⟩ = false := fun p => World.frozen?_alloc_at _ _ _ p (by simp)
    replace ht := Tm.at_keep (Keeps.all hW) ht
    replace hu := Tm.at_keep (Keeps.all hW) hu
    have et0 := bt.c0
    have et1 := bt.c1
    have lt := bt.lt
    have eu0 := bu.c0
    have eu1 := bu.c1
    have lu := bu.lt
    have re0 := rb.c0
    have rf0 := rf 0
    have rl := rb.lt
    go_enter Try.func9, Try.ntmps9
    go_wp2_with fail
    clear et0 et1 lt eu0 eu1 lu re0 rf0 rl
    have Hw0 : Hid ((((w.alloc (.cells #[.string t.name, .slice ta t.args.length tc] 33)).alloc (.cells #[.string u.name, .slice ua u.args.length uc] 33)).alloc (.cells #[.slice none 0 0] 28)).heap.size = w.heap.size + 1 + 1 + 1) := by simp [Hid]
    generalize (((w.alloc (.cells #[.string t.name, .slice ta t.args.length tc] 33)).alloc (.cells #[.string u.name, .slice ua u.args.length uc] 33)).alloc (.cells #[.slice none 0 0] 28)) = w0 at *
    refine (isExpression_any t ht hbt).mono ?_
    rintro e w1 ⟨_, rfl, hb, rfl⟩
    replace hW := hW.trans (hb.mono hW.size)
    replace bt := bt.keep hb
    replace ht := Tm.at_keep (Keeps.all hb) ht
    replace bu := bu.keep hb
    replace hu := Tm.at_keep (Keeps.all hb) hu
    replace rf := fun p => (hb.frozen (p := ⟨_, p, none⟩) rb.lt).trans (rf p)
    replace rb := rb.keep hb
    clear hb
    rw [HE.out]
    have et0 := bt.c0
    have et1 := bt.c1
    have lt := bt.lt
    have eu0 := bu.c0
    have eu1 := bu.c1
    have lu := bu.lt
    have re0 := rb.c0
    have rf0 := rf 0
    have rl := rb.lt
    go_wp2_with fail
    clear et0 et1 lt eu0 eu1 lu re0 rf0 rl
    refine bodyPost_ret (v := .tuple #[.agg #[.slice none 0 0], .bool false]) (by simp [results, Try.results9, go_sem, rb.c0]; try rfl) rfl ?_
    exact OutD.no (hW.setCell (by show w.heap.size ≤ w.heap.size + 1 + 1; omega) _) HM.out
set_option maxHeartbeats 4000000 in
theorem impl_IsInstance {t u : Tm} {S S' : Nat → Prop} {c0 c1 d0 d1 : Value} {w : World} (ht : Tm.at S w c0 c1 t) (hbt : t.bulk ≤ 1048576) (hu : Tm.at S' w d0 d1 u) (hbu : u.bulk ≤ 1048576) :
    Calls Try.prog 16 #[.agg #[c0, c1], .agg #[d0, d1]] w (Gives w (.tuple #[.bool (matchOk u t), .bool (t.expr && u.expr)])) := by
  by_cases h2 : u.expr = true
  · have HE2 := hid h2
    by_cases h1 : t.expr = true
    · have HE := hid h1
      clear h1 h2
      obtain ⟨rfl, tn, ta, tc, rfl⟩ := Tm.at_form ht
      obtain ⟨rfl, un, ua, uc, rfl⟩ := Tm.at_form hu
      have hW : Below w.heap.size w ((w.alloc (.cells #[.string t.name, .slice ta t.args.length tc] 33)).alloc (.cells #[.string u.name, .slice ua u.args.length uc] 33)) := ((Below.refl _ _).alloc (Nat.le_refl _) _).alloc (by simp) _
      have bt : Box ((w.alloc (.cells #[.string t.name, .slice ta t.args.length tc] 33)).alloc (.cells #[.string u.name, .slice ua u.args.length uc] 33)) (w.heap.size) [.string t.name, .slice ta t.args.length tc] := by
        have := ((Box.new w [.string t.name, .slice ta t.args.length tc] 33).alloc (.cells #[.string u.name, .slice ua u.args.length uc] 33))
        simpa only [World.size_alloc] using this
      have bu : Box ((w.alloc (.cells #[.string t.name, .slice ta t.args.length tc] 33)).alloc (.cells #[.string u.name, .slice ua u.args.length uc] 33)) (w.heap.size + 1) [.string u.name, .slice ua u.args.length uc] := by
        have := (Box.new (w.alloc (.cells #[.string t.name, .slice ta t.args.length tc] 33)) [.string u.name, .slice ua u.args.length uc] 33)
        simpa only [World.size_alloc] using this
      replace ht := Tm.at_keep (Keeps.all hW) ht
      replace hu := Tm.at_keep (Keeps.all hW) hu
      have et0 := bt.c0
      have et1 := bt.c1
      have lt := bt.lt
      have eu0 := bu.c0
      have eu1 := bu.c1
      have lu := bu.lt
      go_enter Try.func16, Try.ntmps16
      go_wp2_with fail
      clear et0 et1 lt eu0 eu1 lu
      have Hw0 : Hid (((w.alloc (.cells #[.string t.name, .slice ta t.args.length tc] 33)).alloc (.cells #[.string u.name, .slice ua u.args.length uc] 33)).heap.size = w.heap.size + 1 + 1) := by simp [Hid]
      generalize ((w.alloc (.cells #[.string t.name, .slice ta t.args.length tc] 33)).alloc (.cells #[.string u.name, .slice ua u.args.length uc] 33)) = w0 at *
      refine (isExpression_any u hu hbu).mono ?_
      rintro e w1 ⟨_, rfl, hb, rfl⟩
      replace hW := hW.trans (hb.mono hW.size)
      replace bt := bt.keep hb
      replace ht := Tm.at_keep (Keeps.all hb) ht
      replace bu := bu.keep hb
      replace hu := Tm.at_keep (Keeps.all hb) hu
      clear hb
      rw [HE2.out]
      have et0 := bt.c0
      have et1 := bt.c1
      have lt := bt.lt
      have eu0 := bu.c0
      have eu1 := bu.c1
      have lu := bu.lt
      go_wp2_with fail
      clear et0 et1 lt eu0 eu1 lu
      refine (isExpression_any t ht hbt).mono ?_
      rintro e w1 ⟨_, rfl, hb, rfl⟩
      replace hW := hW.trans (hb.mono hW.size)
      replace bt := bt.keep hb
      replace ht := Tm.at_keep (Keeps.all hb) ht
      replace bu := bu.keep hb
      replace hu := Tm.at_keep (Keeps.all hb) hu
      clear hb
      rw [HE.out]
      have et0 := bt.c0
      have et1 := bt.c1
      have lt := bt.lt
      have eu0 := bu.c0
      have eu1 := bu.c1
      have lu := bu.lt
      go_wp2_with fail
      clear et0 et1 lt eu0 eu1 lu
      refine (impl_matched hu ht HE2.out HE.out).mono ?_
      rintro e w3 ⟨v3, F, rfl, ho, -, hb⟩
      obtain ⟨a3, c3, rfl⟩ := Bnd.sd_own_form ho
      replace hW := hW.trans (hb.mono hW.size)
      replace bt := bt.keep hb
      replace ht := Tm.at_keep (Keeps.all hb) ht
      replace bu := bu.keep hb
      replace hu := Tm.at_keep (Keeps.all hb) hu
      clear hb ho
      obtain ⟨m1, HM1⟩ : ∃ m, Hid (matchOk u t = m) := ⟨_, hid rfl⟩
      rw [HM1.out]
      have hb : Below w3.heap.size w3 (w3.alloc (.cells #[.slice a3 (matchR u t).bs.length c3] 28)) := (Below.refl _ _).alloc (Nat.le_refl _) _
      have et0 := bt.c0
      have et1 := bt.c1
      have lt := bt.lt
      have eu0 := bu.c0
      have eu1 := bu.c1
      have lu := bu.lt
      go_wp2_with fail
      clear et0 et1 lt eu0 eu1 lu
      go_ret2
      exact ⟨_, rfl, hW.trans (hb.mono hW.size), by rw [HM1.out, HE.out, HE2.out]; rfl⟩
    · have HE := hid (Bool.eq_false_iff.2 h1)
      have HM : Hid (matchOk u t = false) := matchOk_no (by rw [HE.out, HE2.out]; rfl)
      clear h1 h2
      obtain ⟨rfl, tn, ta, tc, rfl⟩ := Tm.at_form ht
      obtain ⟨rfl, un, ua, uc, rfl⟩ := Tm.at_form hu
      have hW : Below w.heap.size w ((w.alloc (.cells #[.string t.name, .slice ta t.args.length tc] 33)).alloc (.cells #[.string u.name, .slice ua u.args.length uc] 33)) := ((Below.refl _ _).alloc (Nat.le_refl _) _).alloc (by simp) _
      have bt : Box ((w.alloc (.cells #[.string t.name, .slice ta t.args.length tc] 33)).alloc (.cells #[.string u.name, .slice ua u.args.length uc] 33)) (w.heap.size) [.string t.name, .slice ta t.args.length tc] := by
        have := ((Box.new w [.string t.name, .slice ta t.args.length tc] 33).alloc (.cells #[.string u.name, .slice ua u.args.length uc] 33))
        simpa only [World.size_alloc] using this
      have bu : Box ((w.alloc (.cells #[.string t.name, .slice ta t.args.length tc] 33)).alloc (.cells #[.string u.name, .slice ua u.args.length uc] 33)) (w.heap.size + 1) [.string u.name, .slice ua u.args.length uc] := by
        have := (Box.new (w.alloc (.cells #[.string t.name, .slice ta t.args.length tc] 33)) [.string u.name, .slice ua u.args.length uc] 33)
        simpa only [World.size_alloc] using this
      replace ht := Tm.at_keep (Keeps.all hW) ht
      replace hu := Tm.at_keep (Keeps.all hW) hu
      have et0 := bt.c0
      have et1 := bt.c1
      have lt := bt.lt
      have eu0 := bu.c0
      have eu1 := bu.c1
      have lu := bu.lt
      go_enter Try.func16, Try.ntmps16
      go_wp2_with fail
      clear et0 et1 lt eu0 eu1 lu
      have Hw0 : Hid (((w.alloc (.cells #[.string t.name, .slice ta t.args.length tc] 33)).alloc (.cells #[.string u.name, .slice ua u.args.length uc] 33)).heap.size = w.heap.size + 1 + 1) := by simp [Hid]
      generalize ((w.alloc (.cells #[.string t.name, .slice ta t.args.length tc] 33)).alloc (.cells #[.string u.name, .slice ua u.args.length uc] 33)) = w0 at *
      refine (isExpression_any u hu hbu).mono ?_
      rintro e w1 ⟨_, rfl, hb, rfl⟩
      replace hW := hW.trans (hb.mono hW.size)
      replace bt := bt.keep hb
      replace ht := Tm.at_keep (Keeps.all hb) ht
      replace bu := bu.keep hb
      replace hu := Tm.at_keep (Keeps.all hb) hu
      clear hb
      rw [HE2.out]
      have et0 := bt.c0
      have et1 := bt.c1
      have lt := bt.lt
      have eu0 := bu.c0
      have eu1 := bu.c1
      have lu := bu.lt
      go_wp2_with fail
      clear et0 et1 lt eu0 eu1 lu
      refine (isExpression_any t ht hbt).mono ?_
      rintro e w1 ⟨_, rfl, hb, rfl⟩
      replace hW := hW.trans (hb.mono hW.size)
      replace bt := bt.keep hb
      replace ht := Tm.at_keep (Keeps.all hb) ht
      replace bu := bu.keep hb
      replace hu := Tm.at_keep (Keeps.all hb) hu
      clear hb
      rw [HE.out]
      have et0 := bt.c0
      have et1 := bt.c1
      have lt := bt.lt
      have eu0 := bu.c0
      have eu1 := bu.c1
      have lu := bu.lt
      go_wp2_with fail
      clear et0 et1 lt eu0 eu1 lu
      go_ret2
      exact ⟨_, rfl, hW, by rw [HM.out, HE.out, HE2.out]; rfl⟩
  · have HE2 := hid (Bool.eq_false_iff.2 h2)
    have HM : Hid (matchOk u t = false) := matchOk_no (by rw [HE2.out]; rfl)
    clear h2
    obtain ⟨rfl, tn, ta, tc, rfl⟩ := Tm.at_form ht
    obtain ⟨rfl, un, ua, uc, rfl⟩ := Tm.at_form hu
    have hW : Below w.heap.size w ((w.alloc (.cells #[.string t.name, .slice ta t.args.length tc] 33)).alloc (.cells #[.string u.name, .slice ua u.args.length uc] 33)) := ((Below.refl _ _).alloc (Nat.le_refl _) _).alloc (by simp) _
    have bt : Box ((w.alloc (.cells #[.string t.name, .slice ta t.args.length tc] 33)).alloc (.cells #[.string u.name, .slice ua u.args.length uc] 33)) (w.heap.size) [.string t.name, .slice ta t.args.length tc] := by
      have := ((Box.new w [.string t.name, .slice ta t.args.length tc] 33).alloc (.cells #[.string u.name, .slice ua u.args.length uc] 33))
      simpa only [World.size_alloc] using this
    have bu : Box ((w.alloc (.cells #[.string t.name, .slice ta t.args.length tc] 33)).alloc (.cells #[.string u.name, .slice ua u.args.length uc] 33)) (w.heap.size + 1) [.string u.name, .slice ua u.args.length uc] := by
      have := (Box.new (w.alloc (.cells #[.string t.name, .slice ta t.args.length tc] 33)) [.string u.name, .slice ua u.args.length uc] 33)
      simpa only [World.size_alloc] using this
    replace ht := Tm.at_keep (Keeps.all hW) ht
    replace hu := Tm.at_keep (Keeps.all hW) hu
    have et0 := bt.c0
    have et1 := bt.c1
    have lt := bt.lt
    have eu0 := bu.c0
    have eu1 := bu.c1
    have lu := bu.lt
    go_enter Try.func16, Try.ntmps16
    go_wp2_with fail
    clear et0 et1 lt eu0 eu1 lu
    have Hw0 : Hid (((w.alloc (.cells #[.string t.name, .slice ta t.args.length tc] 33)).alloc (.cells #[.string u.name, .slice ua u.args.length uc] 33)).heap.size = w.heap.size + 1 + 1) := by simp [Hid]
    generalize ((w.alloc (.cells #[.string t.name, .slice ta t.args.length tc] 33)).alloc (.cells #[.string u.name, .slice ua u.args.length uc] 33)) = w0 at *
    refine (isExpression_any u hu hbu).mono ?_
    rintro e w1 ⟨_, rfl, hb, rfl⟩
    replace hW := hW.trans (hb.mono hW.size)
    replace bt := bt.keep hb
    replace ht := Tm.at_keep (Keeps.all hb) ht
    replace bu := bu.keep hb
    replace hu := Tm.at_keep (Keeps.all hb) hu
    clear hb
    rw [HE2.out]
    have et0 := bt.c0
    have et1 := bt.c1
    have lt := bt.lt
    have eu0 := bu.c0
    have eu1 := bu.c1
    have lu := bu.lt
    go_wp2_with fail
    clear et0 et1 lt eu0 eu1 lu
    go_ret2
    exact ⟨_, rfl, hW, by rw [HM.out, HE2.out, Bool.and_false]; rfl⟩
set_option maxHeartbeats 4000000 in
theorem spec_IsInstance {t u : Tm} {S S' : Nat → Prop} {c0 c1 d0 d1 : Value} {w : World} (ht : Tm.at S w c0 c1 t) (hbt : t.bulk ≤ 1048576) (hu : Tm.at S' w d0 d1 u) (hbu : u.bulk ≤ 1048576) :
    Calls Try.prog 15 #[.agg #[c0, c1], .agg #[d0, d1]] w (Gives w (.tuple #[.bool (matchOk u t), .bool (t.expr && u.expr)])) := by
  by_cases h2 : u.expr = true
  · have HE2 := hid h2
    by_cases h1 : t.expr = true
    · have HE := hid h1
      clear h1 h2
      obtain ⟨rfl, tn, ta, tc, rfl⟩ := Tm.at_form ht
      obtain ⟨rfl, un, ua, uc, rfl⟩ := Tm.at_form hu
      have hW : Below w.heap.size w ((w.alloc (.cells #[.string t.name, .slice ta t.args.length tc] 33)).alloc (.cells #[.string u.name, .slice ua u.args.length uc] 33)) := ((Below.refl _ _).alloc (Nat.le_refl _) _).alloc (by simp) _
      have bt : Box ((w.alloc (.cells #[.string t.name, .slice ta t.args.length tc] 33)).alloc (.cells #[.string u.name, .slice ua u.args.length uc] 33)) (w.heap.size) [.string t.name, .slice ta t.args.length tc] := by
        have := ((Box.new w [.string t.name, .slice ta t.args.length tc] 33).alloc (.cells #[.string u.name, .slice ua u.args.length uc] 33))
        simpa only [World.size_alloc] using this
      have bu : Box ((w.alloc (.cells #[.string t.name, .slice ta t.args.length tc] 33)).alloc (.cells #[.string u.name, .slice ua u.args.length uc] 33)) (w.heap.size + 1) [.string u.name, .slice ua u.args.length uc] := by
        have := (Box.new (w.alloc (.cells #[.string t.name, .slice ta t.args.length tc] 33)) [.string u.name, .slice ua u.args.length uc] 33)
        simpa only [World.size_alloc] using this
      replace ht := Tm.at_keep (Keeps.all hW) ht
      replace hu := Tm.at_keep (Keeps.all hW) hu
      have et0 := bt.c0
      have et1 := bt.c1
      have lt := bt.lt
      have eu0 := bu.c0
      have eu1 := bu.c1
      have lu := bu.lt
      go_enter Try.func15, Try.ntmps15
      go_wp2_with fail
      clear et0 et1 lt eu0 eu1 lu
      have Hw0 : Hid (((w.alloc (.cells #[.string t.name, .slice ta t.args.length tc] 33)).alloc (.cells #[.string u.name, .slice ua u.args.length uc] 33)).heap.size = w.heap.size + 1 + 1) := by simp [Hid]
      generalize ((w.alloc (.cells #[.string t.name, .slice ta t.args.length tc] 33)).alloc (.cells #[.string u.name, .slice ua u.args.length uc] 33)) = w0 at *
      refine (l2Any_any u hu hbu).mono ?_
      rintro e w1 ⟨_, rfl, hb, rfl⟩
      replace hW := hW.trans (hb.mono hW.size)
      replace bt := bt.keep hb
      replace ht := Tm.at_keep (Keeps.all hb) ht
      replace bu := bu.keep hb
      replace hu := Tm.at_keep (Keeps.all hb) hu
      clear hb
      rw [HE2.out]
      have et0 := bt.c0
      have et1 := bt.c1
      have lt := bt.lt
      have eu0 := bu.c0
      have eu1 := bu.c1
      have lu := bu.lt
      go_wp2_with fail
      clear et0 et1 lt eu0 eu1 lu
      refine (l2Any_any t ht hbt).mono ?_
      rintro e w1 ⟨_, rfl, hb, rfl⟩
      replace hW := hW.trans (hb.mono hW.size)
      replace bt := bt.keep hb
      replace ht := Tm.at_keep (Keeps.all hb) ht
      replace bu := bu.keep hb
      replace hu := Tm.at_keep (Keeps.all hb) hu
      clear hb
      rw [HE.out]
      have et0 := bt.c0
      have et1 := bt.c1
      have lt := bt.lt
      have eu0 := bu.c0
      have eu1 := bu.c1
      have lu := bu.lt
      go_wp2_with fail
      clear et0 et1 lt eu0 eu1 lu
      refine (spec_MatchTerms hu hbu ht hbt).mono ?_
      rintro e w3 ⟨v3, rfl, ho, hb⟩
      obtain ⟨a3, c3, rfl, -, -⟩ := Bnd.sd_form ho
      replace hW := hW.trans (hb.mono hW.size)
      replace bt := bt.keep hb
      replace ht := Tm.at_keep (Keeps.all hb) ht
      replace bu := bu.keep hb
      replace hu := Tm.at_keep (Keeps.all hb) hu
      clear hb ho
      obtain ⟨m1, HM1⟩ : ∃ m, Hid (matchOk u t = m) := ⟨_, hid rfl⟩
      rw [HM1.out]
      have hb : Below w3.heap.size w3 (w3.alloc (.cells #[.slice a3 (matchR u t).bs.length c3] 28)) := (Below.refl _ _).alloc (Nat.le_refl _) _
      have et0 := bt.c0
      have et1 := bt.c1
      have lt := bt.lt
      have eu0 := bu.c0
      have eu1 := bu.c1
      have lu := bu.lt
      go_wp2_with fail
      clear et0 et1 lt eu0 eu1 lu
      go_ret2
      exact ⟨_, rfl, hW.trans (hb.mono hW.size), by rw [HM1.out, HE.out, HE2.out]; rfl⟩
    · have HE := hid (Bool.eq_false_iff.2 h1)
      have HM : Hid (matchOk u t = false) := matchOk_no (by rw [HE.out, HE2.out]; rfl)
      clear h1 h2
      obtain ⟨rfl, tn, ta, tc, rfl⟩ := Tm.at_form ht
      obtain ⟨rfl, un, ua, uc, rfl⟩ := Tm.at_form hu
      have hW : Below w.heap.size w ((w.alloc (.cells #[.string t.name, .slice ta t.args.length tc] 33)).alloc (.cells #[.string u.name, .slice ua u.args.length uc] 33)) := ((Below.refl _ _).alloc (Nat.le_refl _) _).alloc (by simp) _
      have bt : Box ((w.alloc (.cells #[.string t.name, .slice ta t.args.length tc] 33)).alloc (.cells #[.string u.name, .slice ua u.args.length uc] 33)) (w.heap.size) [.string t.name, .slice ta t.args.length tc] := by
        have := ((Box.new w [.string t.name, .slice ta t.args.length tc] 33).alloc (.cells #[.string u.name, .slice ua u.args.length uc] 33))
        simpa only [World.size_alloc] using this
      have bu : Box ((w.alloc (.cells #[.string t.name, .slice ta t.args.length tc] 33)).alloc (.cells #[.string u.name, .slice ua u.args.length uc] 33)) (w.heap.size + 1) [.string u.name, .slice ua u.args.length uc] := by
        have := (Box.new (w.alloc (.cells #[.string t.name, .slice ta t.args.length tc] 33)) [.string u.name, .slice ua u.args.length uc] 33)
        simpa only [World.size_alloc] using this
      replace ht := Tm.at_keep (Keeps.all hW) ht
      replace hu := Tm.at_keep (Keeps.all hW) hu
      have et0 := bt.c0
      have et1 := bt.c1
      have lt := bt.lt
      have eu0 := bu.c0
      have eu1 := bu.c1
      have lu := bu.lt
      go_enter Try.func15, Try.ntmps15
      go_wp2_with fail
      clear et0 et1 lt eu0 eu1 lu
      have Hw0 : Hid (((w.alloc (.cells #[.string t.name, .slice ta t.args.length tc] 33)).alloc (.cells #[.string u.name, .slice ua u.args.length uc] 33)).heap.size = w.heap.size + 1 + 1) := by simp [Hid]
      generalize ((w.alloc (.cells #[.string t.name, .slice ta t.args.length tc] 33)).alloc (.cells #[.string u.name, .slice ua u.args.length uc] 33)) = w0 at *
      refine (l2Any_any u hu hbu).mono ?_
      rintro e w1 ⟨_, rfl, hb, rfl⟩
      replace hW := hW.trans (hb.mono hW.size)
      replace bt := bt.keep hb
      replace ht := Tm.at_keep (Keeps.all hb) ht
      replace bu := bu.keep hb
      replace hu := Tm.at_keep (Keeps.all hb) hu
      clear hb
      rw [HE2.out]
      have et0 := bt.c0
      have et1 := bt.c1
      have lt := bt.lt
      have eu0 := bu.c0
      have eu1 := bu.c1
      have lu := bu.lt
      go_wp2_with fail
      clear et0 et1 lt eu0 eu1 lu
      refine (l2Any_any t ht hbt).mono ?_
      rintro e w1 ⟨_, rfl, hb, rfl⟩
      replace hW := hW.trans (hb.mono hW.size)
      replace bt := bt.keep hb
      replace ht := Tm.at_keep (Keeps.all hb) ht
      replace bu := bu.keep hb
      replace hu := Tm.at_keep (Keeps.all hb) hu
      clear hb
      rw [HE.out]
      have et0 := bt.c0
      have et1 := bt.c1
      have lt := bt.lt
      have eu0 := bu.c0
      have eu1 := bu.c1
      have lu := bu.lt
      go_wp2_with fail
      clear et0 et1 lt eu0 eu1 lu
      go_ret2
      exact ⟨_, rfl, hW, by rw [HM.out, HE.out, HE2.out]; rfl⟩
  · have HE2 := hid (Bool.eq_false_iff.2 h2)
    have HM : Hid (matchOk u t = false) := matchOk_no (by rw [HE2.out]; rfl)
    clear h2
    obtain ⟨rfl, tn, ta, tc, rfl⟩ := Tm.at_form ht
    obtain ⟨rfl, un, ua, uc, rfl⟩ := Tm.at_form hu
    have hW : Below w.heap.size w ((w.alloc (.cells #[.string t.name, .slice ta t.args.length tc] 33)).alloc (.cells #[.string u.name, .slice ua u.args.length uc] 33)) := ((Below.refl _ _).alloc (Nat.le_refl _) _).alloc (by simp) _
    have bt : Box ((w.alloc (.cells #[.string t.name, .slice ta t.args.length tc] 33)).alloc (.cells #[.string u.name, .slice ua u.args.length uc] 33)) (w.heap.size) [.string t.name, .slice ta t.args.length tc] := by
      have := ((Box.new w [.string t.name, .slice ta t.args.length tc] 33).alloc (.cells #[.string u.name, .slice ua u.args.length uc] 33))
      simpa only [World.size_alloc] using this
    have bu : Box ((w.alloc (.cells #[.string t.name, .slice ta t.args.length tc] 33)).alloc (.cells #[.string u.name, .slice ua u.args.length uc] 33)) (w.heap.size + 1) [.string u.name, .slice ua u.args.length uc] := by
      have := (Box.new (w.alloc (.cells #[.string t.name, .slice ta t.args.length tc] 33)) [.string u.name, .slice ua u.args.length uc] 33)
      simpa only [World.size_alloc] using this
    replace ht := Tm.at_keep (Keeps.all hW) ht
    replace hu := Tm.at_keep (Keeps.all hW) hu
    have et0 := bt.c0
    have et1 := bt.c1
    have lt := bt.lt
    have eu0 := bu.c0
    have eu1 := bu.c1
    have lu := bu.lt
    go_enter Try.func15, Try.ntmps15
    go_wp2_with fail
    clear et0 et1 lt eu0 eu1 lu
    have Hw0 : Hid (((w.alloc (.cells #[.string t.name, .slice ta t.args.length tc] 33)).alloc (.cells #[.string u.name, .slice ua u.args.length uc] 33)).heap.size = w.heap.size + 1 + 1) := by simp [Hid]
    generalize ((w.alloc (.cells #[.string t.name, .slice ta t.args.length tc] 33)).alloc (.cells #[.string u.name, .slice ua u.args.length uc] 33)) = w0 at *
    refine (l2Any_any u hu hbu).mono ?_
    rintro e w1 ⟨_, rfl, hb, rfl⟩
    replace hW := hW.trans (hb.mono hW.size)
    replace bt := bt.keep hb
    replace ht := Tm.at_keep (Keeps.all hb) ht
    replace bu := bu.keep hb
    replace hu := Tm.at_keep (Keeps.all hb) hu
    clear hb
    rw [HE2.out]
    have et0 := bt.c0
    have et1 := bt.c1
    have lt := bt.lt
    have eu0 := bu.c0
    have eu1 := bu.c1
    have lu := bu.lt
    go_wp2_with fail
    clear et0 et1 lt eu0 eu1 lu
    go_ret2
    exact ⟨_, rfl, hW, by rw [HM.out, HE2.out, Bool.and_false]; rfl⟩
set_option maxHeartbeats 4000000 in
theorem impl_AreVariants {t u : Tm} {S S' : Nat → Prop} {c0 c1 d0 d1 : Value} {w : World} (ht : Tm.at S w c0 c1 t) (hbt : t.bulk ≤ 1048576) (hu : Tm.at S' w d0 d1 u) (hbu : u.bulk ≤ 1048576) :
    Calls Try.prog 18 #[.agg #[c0, c1], .agg #[d0, d1]] w (Gives w (.tuple #[.bool (matchOk t u && matchOk u t), .bool (t.expr && u.expr)])) := by
  obtain ⟨m1, HM1⟩ : ∃ m, Hid (matchOk u t = m) := ⟨_, hid rfl⟩
  obtain ⟨m2, HM2⟩ : ∃ m, Hid (matchOk t u = m) := ⟨_, hid rfl⟩
  obtain ⟨m3, HM3⟩ : ∃ m, Hid ((t.expr && u.expr) = m) := ⟨_, hid rfl⟩
  obtain ⟨m4, HM4⟩ : ∃ m, Hid ((u.expr && t.expr) = m) := ⟨_, hid rfl⟩
  rw [HM1.out, HM2.out, HM3.out]
  have hq1 := fun w' x0 x1 y0 y1 (h1 : Tm.at S w' x0 x1 t) (h2 : Tm.at S' w' y0 y1 u) => impl_IsInstance h1 hbt h2 hbu
  have hq2 := fun w' x0 x1 y0 y1 (h1 : Tm.at S w' x0 x1 t) (h2 : Tm.at S' w' y0 y1 u) => impl_IsInstance h2 hbu h1 hbt
  simp only [HM1.out, HM2.out, HM3.out, HM4.out] at hq1 hq2
  cases m1 <;> cases m2
  all_goals
    obtain ⟨rfl, tn, ta, tc, rfl⟩ := Tm.at_form ht
    obtain ⟨rfl, un, ua, uc, rfl⟩ := Tm.at_form hu
    have hW : Below w.heap.size w ((w.alloc (.cells #[.string t.name, .slice ta t.args.length tc] 33)).alloc (.cells #[.string u.name, .slice ua u.args.length uc] 33)) := ((Below.refl _ _).alloc (Nat.le_refl _) _).alloc (by simp) _
    have bt : Box ((w.alloc (.cells #[.string t.name, .slice ta t.args.length tc] 33)).alloc (.cells #[.string u.name, .slice ua u.args.length uc] 33)) (w.heap.size) [.string t.name, .slice ta t.args.length tc] := by
      have := ((Box.new w [.string t.name, .slice ta t.args.length tc] 33).alloc (.cells #[.string u.name, .slice ua u.args.length uc] 33))
      simpa only [World.size_alloc] using this
    have bu : Box ((w.alloc (.cells #[.string t.name, .slice ta t.args.length tc] 33)).alloc (.cells #[.string u.name, .slice ua u.args.length uc] 33)) (w.heap.size + 1) [.string u.name, .slice ua u.args.length uc] := by
      have := (Box.new (w.alloc (.cells #[.string t.name, .slice ta t.args.length tc] 33)) [.string u.name, .slice ua u.args.length uc] 33)
      simpa only [World.size_alloc] using this
    replace ht := Tm.at_keep (Keeps.all hW) ht
    replace hu := Tm.at_keep (Keeps.all hW) hu
    have et0 := bt.c0
    have et1 := bt.c1
    have lt := bt.lt
    have eu0 := bu.c0
    have eu1 := bu.c1
    have lu := bu.lt
    go_enter Try.func18, Try.ntmps18
    go_wp2_with fail
    clear et0 et1 lt eu0 eu1 lu
    have Hw0 : Hid (((w.alloc (.cells #[.string t.name, .slice ta t.args.length tc] 33)).alloc (.cells #[.string u.name, .slice ua u.args.length uc] 33)).heap.size = w.heap.size + 1 + 1) := by simp [Hid]
    generalize ((w.alloc (.cells #[.string t.name, .slice ta t.args.length tc] 33)).alloc (.cells #[.string u.name, .slice ua u.args.length uc] 33)) = w0 at *
    refine (hq1 _ _ _ _ _ ht hu).mono ?_
    rintro e w1 ⟨_, rfl, hb, rfl⟩
    replace hW := hW.trans (hb.mono hW.size)
    replace bt := bt.keep hb
    replace ht := Tm.at_keep (Keeps.all hb) ht
    replace bu := bu.keep hb
    replace hu := Tm.at_keep (Keeps.all hb) hu
    clear hb
    have et0 := bt.c0
    have et1 := bt.c1
    have lt := bt.lt
    have eu0 := bu.c0
    have eu1 := bu.c1
    have lu := bu.lt
    go_wp2_with fail
    clear et0 et1 lt eu0 eu1 lu
    refine (hq2 _ _ _ _ _ ht hu).mono ?_
    rintro e w1 ⟨_, rfl, hb, rfl⟩
    replace hW := hW.trans (hb.mono hW.size)
    replace bt := bt.keep hb
    replace ht := Tm.at_keep (Keeps.all hb) ht
    replace bu := bu.keep hb
    replace hu := Tm.at_keep (Keeps.all hb) hu
    clear hb
    have et0 := bt.c0
    have et1 := bt.c1
    have lt := bt.lt
    have eu0 := bu.c0
    have eu1 := bu.c1
    have lu := bu.lt
    go_wp2_with fail
    clear et0 et1 lt eu0 eu1 lu
    go_ret2
    exact ⟨_, rfl, hW, rfl⟩
set_option maxHeartbeats 4000000 in
theorem spec_AreVariants {t u : Tm} {S S' : Nat → Prop} {c0 c1 d0 d1 : Value} {w : World} (ht : Tm.at S w c0 c1 t) (hbt : t.bulk ≤ 1048576) (hu : Tm.at S' w d0 d1 u) (hbu : u.bulk ≤ 1048576) :
    Calls Try.prog 17 #[.agg #[c0, c1], .agg #[d0, d1]] w (Gives w (.tuple #[.bool (matchOk t u && matchOk u t), .bool (t.expr && u.expr)])) := by
  by_cases h1 : t.expr = true
  · have HE := hid h1
    by_cases h2 : u.expr = true
    · have HE2 := hid h2
      clear h1 h2
      obtain ⟨m1, HM1⟩ : ∃ m, Hid (matchOk t u = m) := ⟨_, hid rfl⟩
      obtain ⟨m2, HM2⟩ : ∃ m, Hid (matchOk u t = m) := ⟨_, hid rfl⟩
      cases m1 <;> cases m2
      all_goals
        obtain ⟨rfl, tn, ta, tc, rfl⟩ := Tm.at_form ht
        obtain ⟨rfl, un, ua, uc, rfl⟩ := Tm.at_form hu
        have hW : Below w.heap.size w ((w.alloc (.cells #[.string t.name, .slice ta t.args.length tc] 33)).alloc (.cells #[.string u.name, .slice ua u.args.length uc] 33)) := ((Below.refl _ _).alloc (Nat.le_refl _) _).alloc (by simp) _
        have bt : Box ((w.alloc (.cells #[.string t.name, .slice ta t.args.length tc] 33)).alloc (.cells #[.string u.name, .slice ua u.args.length uc] 33)) (w.heap.size) [.string t.name, .slice ta t.args.length tc] := by
          have := ((Box.new w [.string t.name, .slice ta t.args.length tc] 33).alloc (.cells #[.string u.name, .slice ua u.args.length uc] 33))
          simpa only [World.size_alloc] using this
        have bu : Box ((w.alloc (.cells #[.string t.name, .slice ta t.args.length tc] 33)).alloc (.cells #[.string u.name, .slice ua u.args.length uc] 33)) (w.heap.size + 1) [.string u.name, .slice ua u.args.length uc] := by
          have := (Box.new (w.alloc (.cells #[.string t.name, .slice ta t.args.length tc] 33)) [.string u.name, .slice ua u.args.length uc] 33)
          simpa only [World.size_alloc] using this
        replace ht := Tm.at_keep (Keeps.all hW) ht
        replace hu := Tm.at_keep (Keeps.all hW) hu
        have et0 := bt.c0
        have et1 := bt.c1
        have lt := bt.lt
        have eu0 := bu.c0
        have eu1 := bu.c1
        have lu := bu.lt
        go_enter Try.func17, Try.ntmps17
        go_wp2_with fail
        clear et0 et1 lt eu0 eu1 lu
        have Hw0 : Hid (((w.alloc (.cells #[.string t.name, .slice ta t.args.length tc] 33)).alloc (.cells #[.string u.name, .slice ua u.args.length uc] 33)).heap.size = w.heap.size + 1 + 1) := by simp [Hid]
        generalize ((w.alloc (.cells #[.string t.name, .slice ta t.args.length tc] 33)).alloc (.cells #[.string u.name, .slice ua u.args.length uc] 33)) = w0 at *
        refine (l2Any_any t ht hbt).mono ?_
        rintro e w1 ⟨_, rfl, hb, rfl⟩
        replace hW := hW.trans (hb.mono hW.size)
        replace bt := bt.keep hb
        replace ht := Tm.at_keep (Keeps.all hb) ht
        replace bu := bu.keep hb
        replace hu := Tm.at_keep (Keeps.all hb) hu
        clear hb
        rw [HE.out]
        have et0 := bt.c0
        have et1 := bt.c1
        have lt := bt.lt
        have eu0 := bu.c0
        have eu1 := bu.c1
        have lu := bu.lt
        go_wp2_with fail
        clear et0 et1 lt eu0 eu1 lu
        refine (l2Any_any u hu hbu).mono ?_
        rintro e w1 ⟨_, rfl, hb, rfl⟩
        replace hW := hW.trans (hb.mono hW.size)
        replace bt := bt.keep hb
        replace ht := Tm.at_keep (Keeps.all hb) ht
        replace bu := bu.keep hb
        replace hu := Tm.at_keep (Keeps.all hb) hu
        clear hb
        rw [HE2.out]
        have et0 := bt.c0
        have et1 := bt.c1
        have lt := bt.lt
        have eu0 := bu.c0
        have eu1 := bu.c1
        have lu := bu.lt
        go_wp2_with fail
        clear et0 et1 lt eu0 eu1 lu
        refine (spec_MatchTerms ht hbt hu hbu).mono ?_
        rintro e w11 ⟨v1, rfl, ho, hb⟩
        obtain ⟨a1, c11, rfl, -, -⟩ := Bnd.sd_form ho
        replace hW := hW.trans (hb.mono hW.size)
        replace bt := bt.keep hb
        replace ht := Tm.at_keep (Keeps.all hb) ht
        replace bu := bu.keep hb
        replace hu := Tm.at_keep (Keeps.all hb) hu
        clear hb ho
        rw [HM1.out]
        have hb : Below w11.heap.size w11 (w11.alloc (.cells #[.slice a1 (matchR t u).bs.length c11] 28)) := (Below.refl _ _).alloc (Nat.le_refl _) _
        have et0 := bt.c0
        have et1 := bt.c1
        have lt := bt.lt
        have eu0 := bu.c0
        have eu1 := bu.c1
        have lu := bu.lt
        go_wp2_with fail
        clear et0 et1 lt eu0 eu1 lu
        replace hW := hW.trans (hb.mono hW.size)
        replace bt := bt.keep hb
        replace ht := Tm.at_keep (Keeps.all hb) ht
        replace bu := bu.keep hb
        replace hu := Tm.at_keep (Keeps.all hb) hu
        clear hb
        generalize (w11.alloc (.cells #[.slice a1 (matchR t u).bs.length c11] 28)) = wb1 at *
        refine (spec_MatchTerms hu hbu ht hbt).mono ?_
        rintro e w12 ⟨v2, rfl, ho, hb⟩
        obtain ⟨a2, c12, rfl, -, -⟩ := Bnd.sd_form ho
        replace hW := hW.trans (hb.mono hW.size)
        replace bt := bt.keep hb
        replace ht := Tm.at_keep (Keeps.all hb) ht
        replace bu := bu.keep hb
        replace hu := Tm.at_keep (Keeps.all hb) hu
        clear hb ho
        rw [HM2.out]
        have hb : Below w12.heap.size w12 (w12.alloc (.cells #[.slice a2 (matchR u t).bs.length c12] 28)) := (Below.refl _ _).alloc (Nat.le_refl _) _
        have et0 := bt.c0
        have et1 := bt.c1
        have lt := bt.lt
        have eu0 := bu.c0
        have eu1 := bu.c1
        have lu := bu.lt
        go_wp2_with fail
        clear et0 et1 lt eu0 eu1 lu
        replace hW := hW.trans (hb.mono hW.size)
        replace bt := bt.keep hb
        replace ht := Tm.at_keep (Keeps.all hb) ht
        replace bu := bu.keep hb
        replace hu := Tm.at_keep (Keeps.all hb) hu
        clear hb
        generalize (w12.alloc (.cells #[.slice a2 (matchR u t).bs.length c12] 28)) = wb2 at *
        go_ret2
        exact ⟨_, rfl, hW, by rw [HM1.out, HM2.out, HE.out, HE2.out]; rfl⟩
    · have HE2 := hid (Bool.eq_false_iff.2 h2)
      have HM : Hid (matchOk t u = false) := matchOk_no (by rw [HE.out, HE2.out]; rfl)
      clear h1 h2
      obtain ⟨rfl, tn, ta, tc, rfl⟩ := Tm.at_form ht
      obtain ⟨rfl, un, ua, uc, rfl⟩ := Tm.at_form hu
      have hW : Below w.heap.size w ((w.alloc (.cells #[.string t.name, .slice ta t.args.length tc] 33)).alloc (.cells #[.string u.name, .slice ua u.args.length uc] 33)) := ((Below.refl _ _).alloc (Nat.le_refl _) _).alloc (by simp) _
      have bt : Box ((w.alloc (.cells #[.string t.name, .slice ta t.args.length tc] 33)).alloc (.cells #[.string u.name, .slice ua u.args.length uc] 33)) (w.heap.size) [.string t.name, .slice ta t.args.length tc] := by
        have := ((Box.new w [.string t.name, .slice ta t.args.length tc] 33).alloc (.cells #[.string u.name, .slice ua u.args.length uc] 33))
        simpa only [World.size_alloc] using this
      have bu : Box ((w.alloc (.cells #[.string t.name, .slice ta t.args.length tc] 33)).alloc (.cells #[.string u.name, .slice ua u.args.length uc] 33)) (w.heap.size + 1) [.string u.name, .slice ua u.args.length uc] := by
        have := (Box.new (w.alloc (.cells #[.string t.name, .slice ta t.args.length tc] 33)) [.string u.name, .slice ua u.args.length uc] 33)
        simpa only [World.size_alloc] using this
      replace ht := Tm.at_keep (Keeps.all hW) ht
      replace hu := Tm.at_keep (Keeps.all hW) hu
      have et0 := bt.c0
      have et1 := bt.c1
      have lt := bt.lt
      have eu0 := bu.c0
      have eu1 := bu.c1
      have lu := bu.lt
      go_enter Try.func17, Try.ntmps17
      go_wp2_with fail
      clear et0 et1 lt eu0 eu1 lu
      have Hw0 : Hid (((w.alloc (.cells #[.string t.name, .slice ta t.args.length tc] 33)).alloc (.cells #[.string u.name, .slice ua u.args.length uc] 33)).heap.size = w.heap.size + 1 + 1) := by simp [Hid]
      generalize ((w.alloc (.cells #[.string t.name, .slice ta t.args.length tc] 33)).alloc (.cells #[.string u.name, .slice ua u.args.length uc] 33)) = w0 at *
      refine (l2Any_any t ht hbt).mono ?_
      rintro e w1 ⟨_, rfl, hb, rfl⟩
      replace hW := hW.trans (hb.mono hW.size)
      replace bt := bt.keep hb
      replace ht := Tm.at_keep (Keeps.all hb) ht
      replace bu := bu.keep hb
      replace hu := Tm.at_keep (Keeps.all hb) hu
      clear hb
      rw [HE.out]
      have et0 := bt.c0
      have et1 := bt.c1
      have lt := bt.lt
      have eu0 := bu.c0
      have eu1 := bu.c1
      have lu := bu.lt
      go_wp2_with fail
      clear et0 et1 lt eu0 eu1 lu
      refine (l2Any_any u hu hbu).mono ?_
      rintro e w1 ⟨_, rfl, hb, rfl⟩
      replace hW := hW.trans (hb.mono hW.size)
      replace bt := bt.keep hb
      replace ht := Tm.at_keep (Keeps.all hb) ht
      replace bu := bu.keep hb
      replace hu := Tm.at_keep (Keeps.all hb) hu
      clear hb
      rw [HE2.out]
      have et0 := bt.c0
      have et1 := bt.c1
      have lt := bt.lt
      have eu0 := bu.c0
      have eu1 := bu.c1
      have lu := bu.lt
      go_wp2_with fail
      clear et0 et1 lt eu0 eu1 lu
      go_ret2
      exact ⟨_, rfl, hW, by rw [HM.out, HE.out, HE2.out]; rfl⟩
  · have HE := hid (Bool.eq_false_iff.2 h1)
    have HM : Hid (matchOk t u = false) := matchOk_no (by rw [HE.out]; rfl)
    clear h1
    obtain ⟨rfl, tn, ta, tc, rfl⟩ := Tm.at_form ht
    obtain ⟨rfl, un, ua, uc, rfl⟩ := Tm.at_form hu
    have hW : Below w.heap.size w ((w.alloc (.cells #[.string t.name, .slice ta t.args.length tc] 33)).alloc (.cells #[.string u.name, .slice ua u.args.length uc] 33)) := ((Below.refl _ _).alloc (Nat.le_refl _) _).alloc (by simp) _
    have bt : Box ((w.alloc (.cells #[.string t.name, .slice ta t.args.length tc] 33)).alloc (.cells #[.string u.name, .slice ua u.args.length uc] 33)) (w.heap.size) [.string t.name, .slice ta t.args.length tc] := by
      have := ((Box.new w [.string t.name, .slice ta t.args.length tc] 33).alloc (.cells #[.string u.name, .slice ua u.args.length uc] 33))
      simpa only [World.size_alloc] using this
    have bu : Box ((w.alloc (.cells #[.string t.name, .slice ta t.args.length tc] 33)).alloc (.cells #[.string u.name, .slice ua u.args.length uc] 33)) (w.heap.size + 1) [.string u.name, .slice ua u.args.length uc] := by
      have := (Box.new (w.alloc (.cells #[.string t.name, .slice ta t.args.length tc] 33)) [.string u.name, .slice ua u.args.length uc] 33)
      simpa only [World.size_alloc] using this
    replace ht := Tm.at_keep (Keeps.all hW) ht
    replace hu := Tm.at_keep (Keeps.all hW) hu
    have et0 := bt.c0
    have et1 := bt.c1
    have lt := bt.lt
    have eu0 := bu.c0
    have eu1 := bu.c1
    have lu := bu.lt
    go_enter Try.func17, Try.ntmps17
    go_wp2_with fail
    clear et0 et1 lt eu0 eu1 lu
    have Hw0 : Hid (((w.alloc (.cells #[.string t.name, .slice ta t.args.length tc] 33)).alloc (.cells #[.string u.name, .slice ua u.args.length uc] 33)).heap.size = w.heap.size + 1 + 1) := by simp [Hid]
    generalize ((w.alloc (.cells #[.string t.name, .slice ta t.args.length tc] 33)).alloc (.cells #[.string u.name, .slice ua u.args.length uc] 33)) = w0 at *
    refine (l2Any_any t ht hbt).mono ?_
    rintro e w1 ⟨_, rfl, hb, rfl⟩
    replace hW := hW.trans (hb.mono hW.size)
    replace bt := bt.keep hb
    replace ht := Tm.at_keep (Keeps.all hb) ht
    replace bu := bu.keep hb
    replace hu := Tm.at_keep (Keeps.all hb) hu
    clear hb
    rw [HE.out]
    have et0 := bt.c0
    have et1 := bt.c1
    have lt := bt.lt
    have eu0 := bu.c0
    have eu1 := bu.c1
    have lu := bu.lt
    go_wp2_with fail
    clear et0 et1 lt eu0 eu1 lu
    go_ret2
    exact ⟨_, rfl, hW, by rw [HM.out, HE.out]; rfl⟩
end Go.Proofs.Ytglhbaigigdeeaa
