/- RenameVariables: the program's and the reference's. -/
import Derived.Test.YtglhbaigigdeeaaDoorRd
import Derived.Test.YtglhbaigigdeeaaDoorVo
import Derived.Test.YtglhbaigigdeeaaDoorCp
import Derived.Test.YtglhbaigigdeeaaDoorHw
namespace Go.Proofs.YtglhbaigigdeeaaDoor
set_option maxRecDepth 100000
open Go.RowKit

theorem Tm.names_bulk' (t : Tm) : t.names = true → t.bulk ≤ 10 * t.size := by
  refine Tm.ind (P := fun t => t.names = true → t.bulk ≤ 10 * t.size) (fun n ts ih h => ?_) t
  have key : ∀ ts : List Tm, (∀ a ∈ ts, a.names = true → a.bulk ≤ 10 * a.size) → Tm.namesAll ts = true → Tm.bulks ts ≤ 10 * Tm.sizes ts := by
    intro ts
    induction ts with
    | nil => intro _ _; simp [Tm.bulks, Tm.sizes]
    | cons a ts iht =>
      intro h hn
      rw [Tm.namesAll, Bool.and_eq_true] at hn
      have h0 := h a (by simp) hn.1
      have h1 := iht (fun b hb => h b (by simp [hb])) hn.2
      rw [Tm.bulks, Tm.sizes]; omega
  rw [Tm.names] at h
  rw [Tm.bulk, Tm.size]
  split at h
  · rename_i hv
    simp only [varName, Bool.and_eq_true, decide_eq_true_eq] at hv
    cases ts with
    | nil => simp [Tm.bulks, Tm.sizes]; omega
    | cons a ts => simp at h
  · simp only [Bool.and_eq_true, decide_eq_true_eq, symName] at h
    have := key ts ih h.2
    omega
theorem Tm.expr_bulk' {t : Tm} (h : t.expr = true) : t.bulk ≤ 300 ∧ t.size ≤ 30 := by
  have hs : t.size ≤ 30 := by
    rw [Tm.expr, Tm.atom_eq, Tm.valid] at h
    simp only [Tm.small] at h
    split at h <;> simp at h <;> omega
  refine ⟨?_, hs⟩
  rw [Tm.expr] at h
  rcases Bool.or_eq_true_iff.1 h with h | h
  · rw [Tm.valid, Bool.and_eq_true] at h
    have := Tm.names_bulk' t h.2; omega
  · rw [Tm.atom_eq] at h
    split at h
    · rename_i he
      simp only [Bool.and_eq_true, decide_eq_true_eq] at h
      have key : ∀ ts : List Tm, Tm.namesAll ts = true → Tm.bulks ts ≤ 10 * Tm.sizes ts := by
        intro ts
        induction ts with
        | nil => intro _; simp [Tm.bulks, Tm.sizes]
        | cons a ts iht =>
          intro hn
          rw [Tm.namesAll, Bool.and_eq_true] at hn
          have h0 := Tm.names_bulk' a hn.1
          have h1 := iht hn.2
          rw [Tm.bulks, Tm.sizes]; omega
      have h1 := key t.args h.2
      have h2 : t.size = 1 + Tm.sizes t.args := by cases t; rw [Tm.size]; rfl
      have h3 : t.bulk = t.name.size + t.args.length + Tm.bulks t.args := by cases t; rw [Tm.bulk]; rfl
      have h4 : t.name.size = 1 := by rw [he]; rfl
      omega
    · rw [Bool.and_eq_true, Tm.valid, Bool.and_eq_true] at h
      have := Tm.names_bulk' t h.2.2; omega
theorem Tm.expr_size {t : Tm} (h : t.expr = true) : t.size ≤ 30 := (Tm.expr_bulk' h).2
theorem coll_var (t : Tm) : ∀ l : List ByteArray, (∀ k ∈ l, varName k = true) → ∀ k ∈ t.coll l, varName k = true := by
  refine Tm.ind (P := fun t => ∀ l : List ByteArray, (∀ k ∈ l, varName k = true) → ∀ k ∈ t.coll l, varName k = true) (fun n ts ih l h => ?_) t
  rw [Tm.coll]
  split
  · rename_i hv
    intro k hk
    rcases (addStr_mem l n k).1 hk with q | q
    · exact h k q
    · rw [q]; exact hv.2
  · have key : ∀ ts : List Tm, (∀ a ∈ ts, ∀ l : List ByteArray, (∀ k ∈ l, varName k = true) → ∀ k ∈ Tm.coll a l, varName k = true) → ∀ l : List ByteArray, (∀ k ∈ l, varName k = true) → ∀ k ∈ Tm.colls ts l, varName k = true := by
      intro ts
      induction ts with
      | nil => intro _ l h; simpa [Tm.colls] using h
      | cons t ts iht => intro hh l h; rw [Tm.colls]; exact iht (fun a ha => hh a (by simp [ha])) _ (hh t (by simp) l h)
    exact key ts ih l h
theorem varName_one {p : ByteArray} (h : p.size = 1) : varName p = upB (byteAt p 0) := by
  rw [varName, allCh, h]
  simp [varCh, List.range_succ]
theorem byteAt_zero {p : ByteArray} (h : 0 < p.size) : byteAt p 0 = (p[0]'h).toNat := by rw [byteAt, dif_pos h]
def renOk (t : Tm) (p : ByteArray) : Bool := t.expr && (decide (p.size = 1) && varName p)
def renR (t : Tm) (p : ByteArray) : Tm := if renOk t p = true then Tm.ren p (t.coll []) t else noTm
theorem ren_yes {t : Tm} {p : ByteArray} (h1 : t.expr = true) (h2 : p.size = 1) (h3 : varName p = true) : renOk t p = true ∧ renR t p = Tm.ren p (t.coll []) t := by
  have : renOk t p = true := by simp [renOk, h1, h2, h3]
  exact ⟨this, by rw [renR, if_pos this]⟩
theorem ren_not {t : Tm} {p : ByteArray} (h : ¬ (t.expr = true ∧ p.size = 1 ∧ varName p = true)) : renOk t p = false ∧ renR t p = noTm := by
  have : renOk t p = false := by
    rw [Bool.eq_false_iff]; intro q
    simp only [renOk, Bool.and_eq_true, decide_eq_true_eq] at q
    exact h q
  exact ⟨this, by rw [renR, this]; rfl⟩
theorem coll_short {t : Tm} (h : t.expr = true) : (t.coll []).length ≤ 30 := by
  have h1 := Tm.coll_length t []
  have h2 := Tm.expr_size h
  simp at h1
  omega
theorem renR_bulk (t : Tm) (p : ByteArray) (hb : t.bulk ≤ 1048576) : (renR t p).bulk ≤ 1048576 := by
  by_cases h : t.expr = true ∧ p.size = 1 ∧ varName p = true
  · rw [(ren_yes h.1 h.2.1 h.2.2).2]
    have h1 := Tm.ren_bulk p (ks := t.coll []) (by have := coll_short h.1; omega) t
    have h2 := Tm.expr_size h.1
    have h3 := Tm.expr_bulk' h.1
    rw [h.2.1] at h1
    omega
  · rw [(ren_not h).2]; decide

set_option maxHeartbeats 2000000 in
theorem spec_RenameVariables {t : Tm} {p : ByteArray} {S : Nat → Prop} {c0 c1 : Value} {w : World} (ht : Tm.at S w c0 c1 t) (hbk : t.bulk ≤ 1048576) (hp : p.size ≤ 1048576) :
    Calls Tryd.prog 12 #[.agg #[c0, c1], .string p] w (OutT (renR t p) (renOk t p) w) := by
  replace ht := Tm.at_lt ht
  have HBK := hid hbk
  have hpm : p.size ≤ maxLen := by unfold maxLen; omega
  by_cases h1 : t.expr = true
  · have HE := hid h1
    by_cases h2 : p.size = 1
    · have hz1 : ((p.size : Int) == 1) = true := by rw [h2]; rfl
      have hz2 : ((p.size : Int) != 1) = false := by rw [h2]; rfl
      have H2 := hid h2
      by_cases h3 : varName p = true
      · obtain ⟨g1, g2⟩ := ren_yes h1 h2 h3
        have HV := hid h3
        rw [g1, g2]
        have hks := coll_short h1
        have HLF := hid (Tm.expr_leafy h1)
        obtain ⟨ks, Hks⟩ : ∃ ks, Hid (t.coll [] = ks) := ⟨_, hid rfl⟩
        rw [Hks.out] at hks ⊢
        obtain ⟨R, HR⟩ : ∃ R, Hid (Tm.ren p ks t = R) := ⟨_, hid rfl⟩
        rw [HR.out]
        clear h1 h2 h3 g1 g2
        obtain ⟨rfl, tn, ta, tc, rfl⟩ := Tm.at_form ht
        have hW : Below w.heap.size w ((w.alloc (.cells #[.string t.name, .slice ta t.args.length tc] 28)).alloc (.cells #[.string ⟨#[]⟩, .slice none 0 0] 28)) := ((Below.refl _ _).alloc (Nat.le_refl _) _).alloc (by simp) _
        have bt : Box ((w.alloc (.cells #[.string t.name, .slice ta t.args.length tc] 28)).alloc (.cells #[.string ⟨#[]⟩, .slice none 0 0] 28)) (w.heap.size) [.string t.name, .slice ta t.args.length tc] := by
          have := ((Box.new w [.string t.name, .slice ta t.args.length tc] 28).alloc (.cells #[.string ⟨#[]⟩, .slice none 0 0] 28))
          simpa only [World.size_alloc] using this
        have rb : Box ((w.alloc (.cells #[.string t.name, .slice ta t.args.length tc] 28)).alloc (.cells #[.string ⟨#[]⟩, .slice none 0 0] 28)) (w.heap.size + 1) [.string ⟨#[]⟩, .slice none 0 0] := by
          have := (Box.new (w.alloc (.cells #[.string t.name, .slice ta t.args.length tc] 28)) [.string ⟨#[]⟩, .slice none 0 0] 28)
          simpa only [World.size_alloc] using this
        have rf : ∀ p, ((w.alloc (.cells #[.string t.name, .slice ta t.args.length tc] 28)).alloc (.cells #[.string ⟨#[]⟩, .slice none 0 0] 28)).frozen? ⟨w.heap.size + 1, p, none⟩ = false := fun p => World.frozen?_alloc_at _ _ _ p (by simp)
        replace ht := Tm.at_keep (Keeps.all hW) ht
        have et0 := bt.c0
        have et1 := bt.c1
        have lt := bt.lt
        have re0 := rb.c0
        have rf0 := rf 0
        have re1 := rb.c1
        have rf1 := rf 1
        have rl := rb.lt
        go_enter Tryd.func12, Tryd.ntmps12
        go_wp2_with fail
        clear et0 et1 lt re0 rf0 re1 rf1 rl
        have Hw0 : Hid (((w.alloc (.cells #[.string t.name, .slice ta t.args.length tc] 28)).alloc (.cells #[.string ⟨#[]⟩, .slice none 0 0] 28)).heap.size = w.heap.size + 1 + 1) := by simp [Hid]
        generalize ((w.alloc (.cells #[.string t.name, .slice ta t.args.length tc] 28)).alloc (.cells #[.string ⟨#[]⟩, .slice none 0 0] 28)) = w0 at *
        refine (l2Any_any t ht hbk).mono ?_
        rintro e wy ⟨_, rfl, hb, rfl⟩
        replace hW := hW.trans (hb.mono hW.size)
        replace bt := bt.keep hb
        replace ht := Tm.at_keep (Keeps.all hb) ht
        replace rf := fun p => (hb.frozen (p := ⟨_, p, none⟩) rb.lt).trans (rf p)
        replace rb := rb.keep hb
        clear hb
        rw [HE.out]
        have et0 := bt.c0
        have et1 := bt.c1
        have lt := bt.lt
        have re0 := rb.c0
        have rf0 := rf 0
        have re1 := rb.c1
        have rf1 := rf 1
        have rl := rb.lt
        go_wp2_with fail
        clear et0 et1 lt re0 rf0 re1 rf1 rl
        refine (l2Var_any p hpm _).mono ?_
        rintro e w2 ⟨rfl, rfl⟩
        rw [HV.out]
        have et0 := bt.c0
        have et1 := bt.c1
        have lt := bt.lt
        have re0 := rb.c0
        have rf0 := rf 0
        have re1 := rb.c1
        have rf1 := rf 1
        have rl := rb.lt
        go_wp2_with fail
        have HW := hid hW
        have HT := hid ht
        have hwl := hW.size
        have hrl := rb.lt
        refine region_late (l := [_, _, _, _, _, _]) (tl := [_, _]) (S := fun w1 => (wy).grownBy w1 (none)) (n := 6) rfl rfl (by kernel_rfl) (by kernel_rfl) (grown_of_below ((Below.refl _ _).drew) _) (fun hQL hS => ?_)
        refine late_take (i := 0) (d := some 20) (v := .agg #[.string t.name, .slice ta t.args.length tc]) rfl rfl (by kernel_rfl) (by kernel_rfl) (by kernel_rfl) hQL (by rfl) (fun w1 hS1 => (by obtain ⟨hc, hf⟩ := bcellG hS1; go_simp)) hS ?_
        try simp only [Act.put, List.setIfInBounds_toArray, List.set_cons_zero, List.set_cons_succ]
        refine late_take (i := 1) (d := some 21) (v := .agg #[.string t.name, .slice ta t.args.length tc]) rfl rfl (by kernel_rfl) (by kernel_rfl) (by kernel_rfl) hQL (by rfl) (fun w1 hS1 => (by obtain ⟨hc, hf⟩ := bcellG hS1; go_simp)) hS ?_
        try simp only [Act.put, List.setIfInBounds_toArray, List.set_cons_zero, List.set_cons_succ]
        refine late_take (i := 4) (d := some 24) (v := .string p) rfl rfl (by kernel_rfl) (by kernel_rfl) (by kernel_rfl) hQL (by rfl) (fun w1 _ => (by go_simp)) hS ?_
        try simp only [Act.put, List.setIfInBounds_toArray, List.set_cons_zero, List.set_cons_succ]
        refine wpAnyH_ready (rs := [2]) (by kernel_rfl) (by simp) ?_
        refine AllReadyH.cons rfl (fun K hK => ?_) AllReadyH.nil
        go_simp
        refine hK.out _ _ (World.grownBy.trans hS (World.grownBy_alloc _ _ _)) (fun hS => ?_)
        try show wpAnyH _ _ _ _ _ _ _ (Act.put _ (some 22) _) _
        try simp only [Act.put, List.setIfInBounds_toArray, List.set_cons_zero, List.set_cons_succ]
        refine wpAnyH_ready (rs := [3]) (by kernel_rfl) (by simp) ?_
        refine AllReadyH.cons rfl (fun K hK => ?_) AllReadyH.nil
        refine step_does rfl ?_
        unfold Does
        go_simp
        go_at_call 26
        have hA : Below wy.heap.size wy (wy.drew.alloc (.cells #[] 9)) := ((Below.refl _ _).drew).alloc (Nat.le_refl _) _
        have hq := ordIs_any t [] _ wy.heap.size _ _ _ (wy.drew.alloc (.cells #[] 9)) (GS.made (w := wy.drew) (n := wy.heap.size) rfl (Nat.le_refl _)) (by rw [World.size_alloc]; exact Nat.le_succ _) (Tm.at_keep (Keeps.all hA) HT.out) (fun x (hx : x < w.heap.size) => Nat.lt_of_lt_of_le hx hwl) HLF.out HBK.out (by have := Tm.size_bulk t; have := HBK.out; simp only [List.length_nil]; omega)
        rw [Hks.out] at hq
        refine hq.mono ?_
        clear hq
        rintro e wo ⟨vo, rfl, hg1, hgr1, -, -⟩
        have HG1 := hid hg1
        have HBO : Hid (Below wy.heap.size wy wo) := below_grown hA hgr1 (by rw [World.size_alloc]; exact Nat.le_succ _) (fun x hx => by have hx' : wy.heap.size = x := Option.some.inj hx; omega)
        clear hg1
        refine ⟨_, rfl, ?_⟩
        refine hK.out _ _ (grown_of_below HBO.out _) (fun hS => ?_)
        try show wpAnyH _ _ _ _ _ _ _ (Act.put _ (some 23) _) _
        try simp only [Act.put, List.setIfInBounds_toArray, List.set_cons_zero, List.set_cons_succ]
        refine wpAnyH_ready (rs := [5]) (by kernel_rfl) (by simp) ?_
        refine AllReadyH.cons rfl (fun K hK => ?_) AllReadyH.nil
        refine step_does rfl ?_
        unfold Does
        go_simp
        go_at_call 25
        have hq := renS_any p ks (by rw [H2.out]; decide) (by omega) t _ _ _ _ _ wo (Tm.at_keep (Keeps.all HBO.out) HT.out) HG1.out.rd HBK.out
        rw [HR.out] at hq
        refine hq.mono ?_
        clear hq
        rintro e wq ⟨v2, F, rfl, ho, hF, hb⟩
        obtain ⟨a1, c1, rfl⟩ := Tm.sd_own_form ho
        have HO := hid ho
        have HF : Hid (∀ y ∈ F, wy.heap.size ≤ y) := fun y hy => Nat.le_trans HBO.out.size (hF y hy)
        have HBQ := hid (HBO.out.trans (hb.mono HBO.out.size))
        clear ho hF
        refine ⟨_, rfl, ?_⟩
        refine hK.out _ _ (grown_of_below HBQ.out _) (fun hS => ?_)
        try show wpAnyH _ _ _ _ _ _ _ (Act.put _ (some 25) _) _
        try simp only [Act.put, List.setIfInBounds_toArray, List.set_cons_zero, List.set_cons_succ]
        refine wpAnyH_done (by kernel_rfl) ?_ _
        show wpTail _ _ _ _ _
        refine wpTail_step rfl (fun K hK => ?_)
        obtain ⟨hc, hf⟩ := bcellG hS
        go_simp
        refine hK.out _ _ ?_
        try clear hc hf
        refine wpTail_step rfl (fun K hK => ?_)
        obtain ⟨hc, hf⟩ := bcellG hS
        go_simp
        refine hK.out _ _ ?_
        try clear hc hf
        refine wpTail_nil ?_
        clear et0 et1 lt re0 rf0 re1 rf1 rl
        have hb := HBQ.out
        replace hW := hW.trans (hb.mono hW.size)
        replace bt := bt.keep hb
        replace ht := Tm.at_keep (Keeps.all hb) ht
        replace rf := fun p => (hb.frozen (p := ⟨_, p, none⟩) rb.lt).trans (rf p)
        replace rb := rb.keep hb
        clear hb hS
        have et0 := bt.c0
        have et1 := bt.c1
        have lt := bt.lt
        have re0 := rb.c0
        have rf0 := rf 0
        have re1 := rb.c1
        have rf1 := rf 1
        have rl := rb.lt
        go_wp2_with fail
        refine bodyPost_ret (v := .tuple #[.agg #[.string R.name, .slice a1 R.args.length c1], .bool true]) (by simp [results, Tryd.results12, go_sem, rb.c0, rb.c1]; try rfl) rfl ?_
        exact ⟨_, F, rfl, D.own_keep _ _ _ (((Keeps.refl _ _).setCell (fun q _ => by have q2 : wy.heap.size ≤ w.heap.size + 1 := HF.out _ q; omega) _).setCell (fun q _ => by have q2 : wy.heap.size ≤ w.heap.size + 1 := HF.out _ q; omega) _) HO.out, fun y hy => by have := HF.out y hy; omega, (hW.setCell (by simp) _).setCell (by simp) _⟩
      · obtain ⟨g1, g2⟩ := ren_not (t := t) (p := p) (fun q => h3 q.2.2)
        have HV := hid (Bool.eq_false_iff.2 h3)
        rw [g1, g2]
        clear h1 h2 h3 g1 g2
        obtain ⟨rfl, tn, ta, tc, rfl⟩ := Tm.at_form ht
        have hW : Below w.heap.size w ((w.alloc (.cells #[.string t.name, .slice ta t.args.length tc] 28)).alloc (.cells #[.string ⟨#[]⟩, .slice none 0 0] 28)) := ((Below.refl _ _).alloc (Nat.le_refl _) _).alloc (by simp) _
        have bt : Box ((w.alloc (.cells #[.string t.name, .slice ta t.args.length tc] 28)).alloc (.cells #[.string ⟨#[]⟩, .slice none 0 0] 28)) (w.heap.size) [.string t.name, .slice ta t.args.length tc] := by
          have := ((Box.new w [.string t.name, .slice ta t.args.length tc] 28).alloc (.cells #[.string ⟨#[]⟩, .slice none 0 0] 28))
          simpa only [World.size_alloc] using this
        have rb : Box ((w.alloc (.cells #[.string t.name, .slice ta t.args.length tc] 28)).alloc (.cells #[.string ⟨#[]⟩, .slice none 0 0] 28)) (w.heap.size + 1) [.string ⟨#[]⟩, .slice none 0 0] := by
          have := (Box.new (w.alloc (.cells #[.string t.name, .slice ta t.args.length tc] 28)) [.string ⟨#[]⟩, .slice none 0 0] 28)
          simpa only [World.size_alloc] using this
        have rf : ∀ p, ((w.alloc (.cells #[.string t.name, .slice ta t.args.length tc] 28)).alloc (.cells #[.string ⟨#[]⟩, .slice none 0 0] 28)).frozen? ⟨w.heap.size + 1, p, none⟩ = false := fun p => World.frozen?_alloc_at _ _ _ p (by simp)
        replace ht := Tm.at_keep (Keeps.all hW) ht
        have et0 := bt.c0
        have et1 := bt.c1
        have lt := bt.lt
        have re0 := rb.c0
        have rf0 := rf 0
        have re1 := rb.c1
        have rf1 := rf 1
        have rl := rb.lt
        go_enter Tryd.func12, Tryd.ntmps12
        go_wp2_with fail
        clear et0 et1 lt re0 rf0 re1 rf1 rl
        have Hw0 : Hid (((w.alloc (.cells #[.string t.name, .slice ta t.args.length tc] 28)).alloc (.cells #[.string ⟨#[]⟩, .slice none 0 0] 28)).heap.size = w.heap.size + 1 + 1) := by simp [Hid]
        generalize ((w.alloc (.cells #[.string t.name, .slice ta t.args.length tc] 28)).alloc (.cells #[.string ⟨#[]⟩, .slice none 0 0] 28)) = w0 at *
        refine (l2Any_any t ht hbk).mono ?_
        rintro e w1 ⟨_, rfl, hb, rfl⟩
        replace hW := hW.trans (hb.mono hW.size)
        replace bt := bt.keep hb
        replace ht := Tm.at_keep (Keeps.all hb) ht
        replace rf := fun p => (hb.frozen (p := ⟨_, p, none⟩) rb.lt).trans (rf p)
        replace rb := rb.keep hb
        clear hb
        rw [HE.out]
        have et0 := bt.c0
        have et1 := bt.c1
        have lt := bt.lt
        have re0 := rb.c0
        have rf0 := rf 0
        have re1 := rb.c1
        have rf1 := rf 1
        have rl := rb.lt
        go_wp2_with fail
        clear et0 et1 lt re0 rf0 re1 rf1 rl
        refine (l2Var_any p hpm _).mono ?_
        rintro e w2 ⟨rfl, rfl⟩
        rw [HV.out]
        have et0 := bt.c0
        have et1 := bt.c1
        have lt := bt.lt
        have re0 := rb.c0
        have rf0 := rf 0
        have re1 := rb.c1
        have rf1 := rf 1
        have rl := rb.lt
        go_wp2_with fail
        refine bodyPost_ret (v := .tuple #[.agg #[.string ⟨#[]⟩, .slice none 0 0], .bool false]) (by simp [results, Tryd.results12, go_sem, rb.c0, rb.c1]; try rfl) rfl ?_
        exact ⟨_, [], rfl, noTm_own, by simp, (hW.setCell (by simp) _).setCell (by simp) _⟩
    · obtain ⟨g1, g2⟩ := ren_not (t := t) (p := p) (fun q => h2 q.2.1)
      have hz1 : ((p.size : Int) == 1) = false := by rw [beq_eq_false_iff_ne]; omega
      have hz2 : ((p.size : Int) != 1) = true := by rw [bne_iff_ne]; omega
      have hz3 : ¬ (p.size : Int) = 1 := by omega
      rw [g1, g2]
      clear h1 g1 g2
      obtain ⟨rfl, tn, ta, tc, rfl⟩ := Tm.at_form ht
      have hW : Below w.heap.size w ((w.alloc (.cells #[.string t.name, .slice ta t.args.length tc] 28)).alloc (.cells #[.string ⟨#[]⟩, .slice none 0 0] 28)) := ((Below.refl _ _).alloc (Nat.le_refl _) _).alloc (by simp) _
      have bt : Box ((w.alloc (.cells #[.string t.name, .slice ta t.args.length tc] 28)).alloc (.cells #[.string ⟨#[]⟩, .slice none 0 0] 28)) (w.heap.size) [.string t.name, .slice ta t.args.length tc] := by
        have := ((Box.new w [.string t.name, .slice ta t.args.length tc] 28).alloc (.cells #[.string ⟨#[]⟩, .slice none 0 0] 28))
        simpa only [World.size_alloc] using this
      have rb : Box ((w.alloc (.cells #[.string t.name, .slice ta t.args.length tc] 28)).alloc (.cells #[.string ⟨#[]⟩, .slice none 0 0] 28)) (w.heap.size + 1) [.string ⟨#[]⟩, .slice none 0 0] := by
        have := (Box.new (w.alloc (.cells #[.string t.name, .slice ta t.args.length tc] 28)) [.string ⟨#[]⟩, .slice none 0 0] 28)
        simpa only [World.size_alloc] using this
      have rf : ∀ p, ((w.alloc (.cells #[.string t.name, .slice ta t.args.length tc] 28)).alloc (.cells #[.string ⟨#[]⟩, .slice none 0 0] 28)).frozen? ⟨w.heap.size + 1, p, none⟩ = false := fun p => World.frozen?_alloc_at _ _ _ p (by simp)
      replace ht := Tm.at_keep (Keeps.all hW) ht
      have et0 := bt.c0
      have et1 := bt.c1
      have lt := bt.lt
      have re0 := rb.c0
      have rf0 := rf 0
      have re1 := rb.c1
      have rf1 := rf 1
      have rl := rb.lt
      go_enter Tryd.func12, Tryd.ntmps12
      go_wp2_with fail
      clear et0 et1 lt re0 rf0 re1 rf1 rl
      have Hw0 : Hid (((w.alloc (.cells #[.string t.name, .slice ta t.args.length tc] 28)).alloc (.cells #[.string ⟨#[]⟩, .slice none 0 0] 28)).heap.size = w.heap.size + 1 + 1) := by simp [Hid]
      generalize ((w.alloc (.cells #[.string t.name, .slice ta t.args.length tc] 28)).alloc (.cells #[.string ⟨#[]⟩, .slice none 0 0] 28)) = w0 at *
      refine (l2Any_any t ht hbk).mono ?_
      rintro e w1 ⟨_, rfl, hb, rfl⟩
      replace hW := hW.trans (hb.mono hW.size)
      replace bt := bt.keep hb
      replace ht := Tm.at_keep (Keeps.all hb) ht
      replace rf := fun p => (hb.frozen (p := ⟨_, p, none⟩) rb.lt).trans (rf p)
      replace rb := rb.keep hb
      clear hb
      rw [HE.out]
      have et0 := bt.c0
      have et1 := bt.c1
      have lt := bt.lt
      have re0 := rb.c0
      have rf0 := rf 0
      have re1 := rb.c1
      have rf1 := rf 1
      have rl := rb.lt
      go_wp2_with fail
      refine bodyPost_ret (v := .tuple #[.agg #[.string ⟨#[]⟩, .slice none 0 0], .bool false]) (by simp [results, Tryd.results12, go_sem, rb.c0, rb.c1]; try rfl) rfl ?_
      exact ⟨_, [], rfl, noTm_own, by simp, (hW.setCell (by simp) _).setCell (by simp) _⟩
  · obtain ⟨g1, g2⟩ := ren_not (t := t) (p := p) (fun q => h1 q.1)
    have HE := hid (Bool.eq_false_iff.2 h1)
    rw [g1, g2]
    clear h1 g1 g2
    obtain ⟨rfl, tn, ta, tc, rfl⟩ := Tm.at_form ht
    have hW : Below w.heap.size w ((w.alloc (.cells #[.string t.name, .slice ta t.args.length tc] 28)).alloc (.cells #[.string ⟨#[]⟩, .slice none 0 0] 28)) := ((Below.refl _ _).alloc (Nat.le_refl _) _).alloc (by simp) _
    have bt : Box ((w.alloc (.cells #[.string t.name, .slice ta t.args.length tc] 28)).alloc (.cells #[.string ⟨#[]⟩, .slice none 0 0] 28)) (w.heap.size) [.string t.name, .slice ta t.args.length tc] := by
      have := ((Box.new w [.string t.name, .slice ta t.args.length tc] 28).alloc (.cells #[.string ⟨#[]⟩, .slice none 0 0] 28))
      simpa only [World.size_alloc] using this
    have rb : Box ((w.alloc (.cells #[.string t.name, .slice ta t.args.length tc] 28)).alloc (.cells #[.string ⟨#[]⟩, .slice none 0 0] 28)) (w.heap.size + 1) [.string ⟨#[]⟩, .slice none 0 0] := by
      have := (Box.new (w.alloc (.cells #[.string t.name, .slice ta t.args.length tc] 28)) [.string ⟨#[]⟩, .slice none 0 0] 28)
      simpa only [World.size_alloc] using this
    have rf : ∀ p, ((w.alloc (.cells #[.string t.name, .slice ta t.args.length tc] 28)).alloc (.cells #[.string ⟨#[]⟩, .slice none 0 0] 28)).frozen? ⟨w.heap.size + 1, p, none⟩ = false := fun p => World.frozen?_alloc_at _ _ _ p (by simp)
    replace ht := Tm.at_keep (Keeps.all hW) ht
    have et0 := bt.c0
    have et1 := bt.c1
    have lt := bt.lt
    have re0 := rb.c0
    have rf0 := rf 0
    have re1 := rb.c1
    have rf1 := rf 1
    have rl := rb.lt
    go_enter Tryd.func12, Tryd.ntmps12
    go_wp2_with fail
    clear et0 et1 lt re0 rf0 re1 rf1 rl
    have Hw0 : Hid (((w.alloc (.cells #[.string t.name, .slice ta t.args.length tc] 28)).alloc (.cells #[.string ⟨#[]⟩, .slice none 0 0] 28)).heap.size = w.heap.size + 1 + 1) := by simp [Hid]
    generalize ((w.alloc (.cells #[.string t.name, .slice ta t.args.length tc] 28)).alloc (.cells #[.string ⟨#[]⟩, .slice none 0 0] 28)) = w0 at *
    refine (l2Any_any t ht hbk).mono ?_
    rintro e w1 ⟨_, rfl, hb, rfl⟩
    replace hW := hW.trans (hb.mono hW.size)
    replace bt := bt.keep hb
    replace ht := Tm.at_keep (Keeps.all hb) ht
    replace rf := fun p => (hb.frozen (p := ⟨_, p, none⟩) rb.lt).trans (rf p)
    replace rb := rb.keep hb
    clear hb
    rw [HE.out]
    have et0 := bt.c0
    have et1 := bt.c1
    have lt := bt.lt
    have re0 := rb.c0
    have rf0 := rf 0
    have re1 := rb.c1
    have rf1 := rf 1
    have rl := rb.lt
    go_wp2_with fail
    refine bodyPost_ret (v := .tuple #[.agg #[.string ⟨#[]⟩, .slice none 0 0], .bool false]) (by simp [results, Tryd.results12, go_sem, rb.c0, rb.c1]; try rfl) rfl ?_
    exact ⟨_, [], rfl, noTm_own, by simp, (hW.setCell (by simp) _).setCell (by simp) _⟩
set_option maxHeartbeats 2000000 in
theorem impl_RenameVariables {t : Tm} {p : ByteArray} {S : Nat → Prop} {c0 c1 : Value} {w : World} (ht : Tm.at S w c0 c1 t) (hbk : t.bulk ≤ 1048576) (hp : p.size ≤ 1048576) (hT : TabF w) :
    Calls Tryd.prog 13 #[.agg #[c0, c1], .string p] w (OutT (renR t p) (renOk t p) w) := by
  replace ht := Tm.at_lt ht
  have HBK := hid hbk
  have hpm : p.size ≤ maxLen := by unfold maxLen; omega
  by_cases h1 : t.expr = true
  · have HE := hid h1
    by_cases h2 : p.size = 1
    · have hz1 : ((p.size : Int) == 1) = true := by rw [h2]; rfl
      have hz2 : ((p.size : Int) != 1) = false := by rw [h2]; rfl
      have H2 := hid h2
      by_cases h3 : varName p = true
      · obtain ⟨g1, g2⟩ := ren_yes h1 h2 h3
        have hp0 : 0 < p.size := by omega
        have HV : Hid (upB (p[0]'hp0).toNat = true) := by rw [Hid, ← byteAt_zero hp0, ← varName_one h2]; exact h3
        rw [g1, g2]
        have hks := coll_short h1
        have HLF := hid (Tm.expr_leafy h1)
        have HNI := hid (Tm.expr_nice h1)
        have HTF := hid hT
        have HND : Hid (t.coll []).Nodup := coll_nodup t [] (by simp)
        have HKV : Hid (∀ k ∈ t.coll [], varName k = true) := coll_var t [] (by simp)
        obtain ⟨ks, Hks⟩ : ∃ ks, Hid (t.coll [] = ks) := ⟨_, hid rfl⟩
        rw [Hks.out] at hks HND HKV ⊢
        obtain ⟨R, HR⟩ : ∃ R, Hid (Tm.ren p ks t = R) := ⟨_, hid rfl⟩
        rw [HR.out]
        clear h1 h2 h3 g1 g2
        obtain ⟨rfl, tn, ta, tc, rfl⟩ := Tm.at_form ht
        have hW : Below w.heap.size w ((w.alloc (.cells #[.string t.name, .slice ta t.args.length tc] 28)).alloc (.cells #[.string ⟨#[]⟩, .slice none 0 0] 28)) := ((Below.refl _ _).alloc (Nat.le_refl _) _).alloc (by simp) _
        have bt : Box ((w.alloc (.cells #[.string t.name, .slice ta t.args.length tc] 28)).alloc (.cells #[.string ⟨#[]⟩, .slice none 0 0] 28)) (w.heap.size) [.string t.name, .slice ta t.args.length tc] := by
          have := ((Box.new w [.string t.name, .slice ta t.args.length tc] 28).alloc (.cells #[.string ⟨#[]⟩, .slice none 0 0] 28))
          simpa only [World.size_alloc] using this
        have rb : Box ((w.alloc (.cells #[.string t.name, .slice ta t.args.length tc] 28)).alloc (.cells #[.string ⟨#[]⟩, .slice none 0 0] 28)) (w.heap.size + 1) [.string ⟨#[]⟩, .slice none 0 0] := by
          have := (Box.new (w.alloc (.cells #[.string t.name, .slice ta t.args.length tc] 28)) [.string ⟨#[]⟩, .slice none 0 0] 28)
          simpa only [World.size_alloc] using this
        have rf : ∀ p, ((w.alloc (.cells #[.string t.name, .slice ta t.args.length tc] 28)).alloc (.cells #[.string ⟨#[]⟩, .slice none 0 0] 28)).frozen? ⟨w.heap.size + 1, p, none⟩ = false := fun p => World.frozen?_alloc_at _ _ _ p (by simp)
        replace ht := Tm.at_keep (Keeps.all hW) ht
        have et0 := bt.c0
        have et1 := bt.c1
        have lt := bt.lt
        have re0 := rb.c0
        have rf0 := rf 0
        have re1 := rb.c1
        have rf1 := rf 1
        have rl := rb.lt
        go_enter Tryd.func13, Tryd.ntmps13
        go_wp2_with fail
        clear et0 et1 lt re0 rf0 re1 rf1 rl
        have Hw0 : Hid (((w.alloc (.cells #[.string t.name, .slice ta t.args.length tc] 28)).alloc (.cells #[.string ⟨#[]⟩, .slice none 0 0] 28)).heap.size = w.heap.size + 1 + 1) := by simp [Hid]
        generalize ((w.alloc (.cells #[.string t.name, .slice ta t.args.length tc] 28)).alloc (.cells #[.string ⟨#[]⟩, .slice none 0 0] 28)) = w0 at *
        refine (isExpression_any t ht hbk).mono ?_
        rintro e wy ⟨_, rfl, hb, rfl⟩
        replace hW := hW.trans (hb.mono hW.size)
        replace bt := bt.keep hb
        replace ht := Tm.at_keep (Keeps.all hb) ht
        replace rf := fun p => (hb.frozen (p := ⟨_, p, none⟩) rb.lt).trans (rf p)
        replace rb := rb.keep hb
        clear hb
        rw [HE.out]
        have et0 := bt.c0
        have et1 := bt.c1
        have lt := bt.lt
        have re0 := rb.c0
        have rf0 := rf 0
        have re1 := rb.c1
        have rf1 := rf 1
        have rl := rb.lt
        go_wp2_with fail
        clear et0 et1 lt re0 rf0 re1 rf1 rl
        refine (isUpper_any (p[0]'hp0).toNat _).mono ?_
        rintro e w2 ⟨rfl, rfl⟩
        rw [HV.out]
        have et0 := bt.c0
        have et1 := bt.c1
        have lt := bt.lt
        have re0 := rb.c0
        have rf0 := rf 0
        have re1 := rb.c1
        have rf1 := rf 1
        have rl := rb.lt
        go_wp2_with fail
        have HW := hid hW
        have HT := hid ht
        have hwl := hW.size
        have hrl := rb.lt
        refine region_late (l := [_, _, _, _, _, _]) (tl := [_, _]) (S := fun w1 => (wy).grownBy w1 (none)) (n := 6) rfl rfl (by kernel_rfl) (by kernel_rfl) (grown_of_below ((Below.refl _ _).drew) _) (fun hQL hS => ?_)
        refine late_take (i := 0) (d := some 21) (v := .agg #[.string t.name, .slice ta t.args.length tc]) rfl rfl (by kernel_rfl) (by kernel_rfl) (by kernel_rfl) hQL (by rfl) (fun w1 hS1 => (by obtain ⟨hc, hf⟩ := bcellG hS1; go_simp)) hS ?_
        try simp only [Act.put, List.setIfInBounds_toArray, List.set_cons_zero, List.set_cons_succ]
        refine late_take (i := 1) (d := some 22) (v := .agg #[.string t.name, .slice ta t.args.length tc]) rfl rfl (by kernel_rfl) (by kernel_rfl) (by kernel_rfl) hQL (by rfl) (fun w1 hS1 => (by obtain ⟨hc, hf⟩ := bcellG hS1; go_simp)) hS ?_
        try simp only [Act.put, List.setIfInBounds_toArray, List.set_cons_zero, List.set_cons_succ]
        refine late_take (i := 3) (d := some 24) (v := .string p) rfl rfl (by kernel_rfl) (by kernel_rfl) (by kernel_rfl) hQL (by rfl) (fun w1 _ => (by go_simp)) hS ?_
        try simp only [Act.put, List.setIfInBounds_toArray, List.set_cons_zero, List.set_cons_succ]
        refine wpAnyH_ready (rs := [2]) (by kernel_rfl) (by simp) ?_
        refine AllReadyH.cons rfl (fun K hK => ?_) AllReadyH.nil
        refine step_does rfl ?_
        unfold Does
        go_simp
        go_at_call 31
        have hA : Below wy.heap.size wy wy.drew := (Below.refl _ _).drew
        have hq := collIs_any t [] _ wy.heap.size _ _ _ wy.drew (GS.nil _ _) (Nat.le_refl _) (Tm.at_keep (Keeps.all hA) HT.out) (fun x (hx : x < w.heap.size) => Nat.lt_of_lt_of_le hx hwl) HNI.out HBK.out (by have := Tm.size_bulk t; have := HBK.out; simp only [List.length_nil]; omega)
        rw [Hks.out] at hq
        refine hq.mono ?_
        clear hq
        rintro e wo ⟨vo, rfl, hg1, hgr1, -, -⟩
        have HG1 := hid hg1
        have HBO : Hid (Below wy.heap.size wy wo) := below_grown hA hgr1 (Nat.le_refl _) (fun x hx => by cases hx)
        clear hg1
        refine ⟨_, rfl, ?_⟩
        refine hK.out _ _ (grown_of_below HBO.out _) (fun hS => ?_)
        try show wpAnyH _ _ _ _ _ _ _ (Act.put _ (some 23) _) _
        try simp only [Act.put, List.setIfInBounds_toArray, List.set_cons_zero, List.set_cons_succ]
        refine wpAnyH_ready (rs := [4]) (by kernel_rfl) (by simp) ?_
        refine AllReadyH.cons rfl (fun K hK => ?_) AllReadyH.nil
        refine step_does rfl ?_
        unfold Does
        go_simp
        go_at_call 30
        have hq := renaming_any p (w := wo) (by rw [H2.out]; decide) (by omega) HND.out (TabF.keep HTF.out (HW.out.trans (HBO.out.mono HW.out.size))) HG1.out.rd
        refine hq.mono ?_
        clear hq
        rintro e wm ⟨rfl, hm, hb⟩
        have HM := hid hm
        have HBM := hid (HBO.out.trans (hb.mono HBO.out.size))
        clear hm
        refine ⟨_, rfl, ?_⟩
        refine hK.out _ _ (grown_of_below HBM.out _) (fun hS => ?_)
        try show wpAnyH _ _ _ _ _ _ _ (Act.put _ (some 25) _) _
        try simp only [Act.put, List.setIfInBounds_toArray, List.set_cons_zero, List.set_cons_succ]
        refine wpAnyH_ready (rs := [5]) (by kernel_rfl) (by simp) ?_
        refine AllReadyH.cons rfl (fun K hK => ?_) AllReadyH.nil
        refine step_does rfl ?_
        unfold Does
        go_simp
        go_at_call 29
        have hq := renI_any p ks (by rw [H2.out]; decide) (by omega) HND.out HKV.out t _ _ _ _ wm (Tm.at_keep (Keeps.all HBM.out) HT.out) HM.out HLF.out HBK.out
        rw [HR.out] at hq
        refine hq.mono ?_
        clear hq
        rintro e wq ⟨v2, F, rfl, ho, hF, hb⟩
        obtain ⟨a1, c1, rfl⟩ := Tm.sd_own_form ho
        have HO := hid ho
        have HF : Hid (∀ y ∈ F, wy.heap.size ≤ y) := fun y hy => Nat.le_trans HBM.out.size (hF y hy)
        have HBQ := hid (HBM.out.trans (hb.mono HBM.out.size))
        clear ho hF
        refine ⟨_, rfl, ?_⟩
        refine hK.out _ _ (grown_of_below HBQ.out _) (fun hS => ?_)
        try show wpAnyH _ _ _ _ _ _ _ (Act.put _ (some 26) _) _
        try simp only [Act.put, List.setIfInBounds_toArray, List.set_cons_zero, List.set_cons_succ]
        refine wpAnyH_done (by kernel_rfl) ?_ _
        show wpTail _ _ _ _ _
        refine wpTail_step rfl (fun K hK => ?_)
        obtain ⟨hc, hf⟩ := bcellG hS
        go_simp
        refine hK.out _ _ ?_
        try clear hc hf
        refine wpTail_step rfl (fun K hK => ?_)
        obtain ⟨hc, hf⟩ := bcellG hS
        go_simp
        refine hK.out _ _ ?_
        try clear hc hf
        refine wpTail_nil ?_
        clear et0 et1 lt re0 rf0 re1 rf1 rl
        have hb := HBQ.out
        replace hW := hW.trans (hb.mono hW.size)
        replace bt := bt.keep hb
        replace ht := Tm.at_keep (Keeps.all hb) ht
        replace rf := fun p => (hb.frozen (p := ⟨_, p, none⟩) rb.lt).trans (rf p)
        replace rb := rb.keep hb
        clear hb hS
        have et0 := bt.c0
        have et1 := bt.c1
        have lt := bt.lt
        have re0 := rb.c0
        have rf0 := rf 0
        have re1 := rb.c1
        have rf1 := rf 1
        have rl := rb.lt
        go_wp2_with fail
        refine bodyPost_ret (v := .tuple #[.agg #[.string R.name, .slice a1 R.args.length c1], .bool true]) (by simp [results, Tryd.results13, go_sem, rb.c0, rb.c1]; try rfl) rfl ?_
        exact ⟨_, F, rfl, D.own_keep _ _ _ (((Keeps.refl _ _).setCell (fun q _ => by have q2 : wy.heap.size ≤ w.heap.size + 1 := HF.out _ q; omega) _).setCell (fun q _ => by have q2 : wy.heap.size ≤ w.heap.size + 1 := HF.out _ q; omega) _) HO.out, fun y hy => by have := HF.out y hy; omega, (hW.setCell (by simp) _).setCell (by simp) _⟩
      · obtain ⟨g1, g2⟩ := ren_not (t := t) (p := p) (fun q => h3 q.2.2)
        have hp0 : 0 < p.size := by omega
        have HV : Hid (upB (p[0]'hp0).toNat = false) := by rw [Hid, ← byteAt_zero hp0, ← varName_one h2]; exact Bool.eq_false_iff.2 h3
        rw [g1, g2]
        clear h1 h2 h3 g1 g2
        obtain ⟨rfl, tn, ta, tc, rfl⟩ := Tm.at_form ht
        have hW : Below w.heap.size w ((w.alloc (.cells #[.string t.name, .slice ta t.args.length tc] 28)).alloc (.cells #[.string ⟨#[]⟩, .slice none 0 0] 28)) := ((Below.refl _ _).alloc (Nat.le_refl _) _).alloc (by simp) _
        have bt : Box ((w.alloc (.cells #[.string t.name, .slice ta t.args.length tc] 28)).alloc (.cells #[.string ⟨#[]⟩, .slice none 0 0] 28)) (w.heap.size) [.string t.name, .slice ta t.args.length tc] := by
          have := ((Box.new w [.string t.name, .slice ta t.args.length tc] 28).alloc (.cells #[.string ⟨#[]⟩, .slice none 0 0] 28))
          simpa only [World.size_alloc] using this
        have rb : Box ((w.alloc (.cells #[.string t.name, .slice ta t.args.length tc] 28)).alloc (.cells #[.string ⟨#[]⟩, .slice none 0 0] 28)) (w.heap.size + 1) [.string ⟨#[]⟩, .slice none 0 0] := by
          have := (Box.new (w.alloc (.cells #[.string t.name, .slice ta t.args.length tc] 28)) [.string ⟨#[]⟩, .slice none 0 0] 28)
          simpa only [World.size_alloc] using this
        have rf : ∀ p, ((w.alloc (.cells #[.string t.name, .slice ta t.args.length tc] 28)).alloc (.cells #[.string ⟨#[]⟩, .slice none 0 0] 28)).frozen? ⟨w.heap.size + 1, p, none⟩ = false := fun p => World.frozen?_alloc_at _ _ _ p (by simp)
        replace ht := Tm.at_keep (Keeps.all hW) ht
        have et0 := bt.c0
        have et1 := bt.c1
        have lt := bt.lt
        have re0 := rb.c0
        have rf0 := rf 0
        have re1 := rb.c1
        have rf1 := rf 1
        have rl := rb.lt
        go_enter Tryd.func13, Tryd.ntmps13
        go_wp2_with fail
        clear et0 et1 lt re0 rf0 re1 rf1 rl
        have Hw0 : Hid (((w.alloc (.cells #[.string t.name, .slice ta t.args.length tc] 28)).alloc (.cells #[.string ⟨#[]⟩, .slice none 0 0] 28)).heap.size = w.heap.size + 1 + 1) := by simp [Hid]
        generalize ((w.alloc (.cells #[.string t.name, .slice ta t.args.length tc] 28)).alloc (.cells #[.string ⟨#[]⟩, .slice none 0 0] 28)) = w0 at *
        refine (isExpression_any t ht hbk).mono ?_
        rintro e w1 ⟨_, rfl, hb, rfl⟩
        replace hW := hW.trans (hb.mono hW.size)
        replace bt := bt.keep hb
        replace ht := Tm.at_keep (Keeps.all hb) ht
        replace rf := fun p => (hb.frozen (p := ⟨_, p, none⟩) rb.lt).trans (rf p)
        replace rb := rb.keep hb
        clear hb
        rw [HE.out]
        have et0 := bt.c0
        have et1 := bt.c1
        have lt := bt.lt
        have re0 := rb.c0
        have rf0 := rf 0
        have re1 := rb.c1
        have rf1 := rf 1
        have rl := rb.lt
        go_wp2_with fail
        clear et0 et1 lt re0 rf0 re1 rf1 rl
        refine (isUpper_any (p[0]'hp0).toNat _).mono ?_
        rintro e w2 ⟨rfl, rfl⟩
        rw [HV.out]
        have et0 := bt.c0
        have et1 := bt.c1
        have lt := bt.lt
        have re0 := rb.c0
        have rf0 := rf 0
        have re1 := rb.c1
        have rf1 := rf 1
        have rl := rb.lt
        go_wp2_with fail
        refine bodyPost_ret (v := .tuple #[.agg #[.string ⟨#[]⟩, .slice none 0 0], .bool false]) (by simp [results, Tryd.results13, go_sem, rb.c0, rb.c1]; try rfl) rfl ?_
        exact ⟨_, [], rfl, noTm_own, by simp, (hW.setCell (by simp) _).setCell (by simp) _⟩
    · obtain ⟨g1, g2⟩ := ren_not (t := t) (p := p) (fun q => h2 q.2.1)
      have hz1 : ((p.size : Int) == 1) = false := by rw [beq_eq_false_iff_ne]; omega
      have hz2 : ((p.size : Int) != 1) = true := by rw [bne_iff_ne]; omega
      have hz3 : ¬ (p.size : Int) = 1 := by omega
      rw [g1, g2]
      clear h1 g1 g2
      obtain ⟨rfl, tn, ta, tc, rfl⟩ := Tm.at_form ht
      have hW : Below w.heap.size w ((w.alloc (.cells #[.string t.name, .slice ta t.args.length tc] 28)).alloc (.cells #[.string ⟨#[]⟩, .slice none 0 0] 28)) := ((Below.refl _ _).alloc (Nat.le_refl _) _).alloc (by simp) _
      have bt : Box ((w.alloc (.cells #[.string t.name, .slice ta t.args.length tc] 28)).alloc (.cells #[.string ⟨#[]⟩, .slice none 0 0] 28)) (w.heap.size) [.string t.name, .slice ta t.args.length tc] := by
        have := ((Box.new w [.string t.name, .slice ta t.args.length tc] 28).alloc (.cells #[.string ⟨#[]⟩, .slice none 0 0] 28))
        simpa only [World.size_alloc] using this
      have rb : Box ((w.alloc (.cells #[.string t.name, .slice ta t.args.length tc] 28)).alloc (.cells #[.string ⟨#[]⟩, .slice none 0 0] 28)) (w.heap.size + 1) [.string ⟨#[]⟩, .slice none 0 0] := by
        have := (Box.new (w.alloc (.cells #[.string t.name, .slice ta t.args.length tc] 28)) [.string ⟨#[]⟩, .slice none 0 0] 28)
        simpa only [World.size_alloc] using this
      have rf : ∀ p, ((w.alloc (.cells #[.string t.name, .slice ta t.args.length tc] 28)).alloc (.cells #[.string ⟨#[]⟩, .slice none 0 0] 28)).frozen? ⟨w.heap.size + 1, p, none⟩ = false := fun p => World.frozen?_alloc_at _ _ _ p (by simp)
      replace ht := Tm.at_keep (Keeps.all hW) ht
      have et0 := bt.c0
      have et1 := bt.c1
      have lt := bt.lt
      have re0 := rb.c0
      have rf0 := rf 0
      have re1 := rb.c1
      have rf1 := rf 1
      have rl := rb.lt
      go_enter Tryd.func13, Tryd.ntmps13
      go_wp2_with fail
      clear et0 et1 lt re0 rf0 re1 rf1 rl
      have Hw0 : Hid (((w.alloc (.cells #[.string t.name, .slice ta t.args.length tc] 28)).alloc (.cells #[.string ⟨#[]⟩, .slice none 0 0] 28)).heap.size = w.heap.size + 1 + 1) := by simp [Hid]
      generalize ((w.alloc (.cells #[.string t.name, .slice ta t.args.length tc] 28)).alloc (.cells #[.string ⟨#[]⟩, .slice none 0 0] 28)) = w0 at *
      refine (isExpression_any t ht hbk).mono ?_
      rintro e w1 ⟨_, rfl, hb, rfl⟩
      replace hW := hW.trans (hb.mono hW.size)
      replace bt := bt.keep hb
      replace ht := Tm.at_keep (Keeps.all hb) ht
      replace rf := fun p => (hb.frozen (p := ⟨_, p, none⟩) rb.lt).trans (rf p)
      replace rb := rb.keep hb
      clear hb
      rw [HE.out]
      have et0 := bt.c0
      have et1 := bt.c1
      have lt := bt.lt
      have re0 := rb.c0
      have rf0 := rf 0
      have re1 := rb.c1
      have rf1 := rf 1
      have rl := rb.lt
      go_wp2_with fail
      refine bodyPost_ret (v := .tuple #[.agg #[.string ⟨#[]⟩, .slice none 0 0], .bool false]) (by simp [results, Tryd.results13, go_sem, rb.c0, rb.c1]; try rfl) rfl ?_
      exact ⟨_, [], rfl, noTm_own, by simp, (hW.setCell (by simp) _).setCell (by simp) _⟩
  · obtain ⟨g1, g2⟩ := ren_not (t := t) (p := p) (fun q => h1 q.1)
    have HE := hid (Bool.eq_false_iff.2 h1)
    rw [g1, g2]
    clear h1 g1 g2
    obtain ⟨rfl, tn, ta, tc, rfl⟩ := Tm.at_form ht
    have hW : Below w.heap.size w ((w.alloc (.cells #[.string t.name, .slice ta t.args.length tc] 28)).alloc (.cells #[.string ⟨#[]⟩, .slice none 0 0] 28)) := ((Below.refl _ _).alloc (Nat.le_refl _) _).alloc (by simp) _
    have bt : Box ((w.alloc (.cells #[.string t.name, .slice ta t.args.length tc] 28)).alloc (.cells #[.string ⟨#[]⟩, .slice none 0 0] 28)) (w.heap.size) [.string t.name, .slice ta t.args.length tc] := by
      have := ((Box.new w [.string t.name, .slice ta t.args.length tc] 28).alloc (.cells #[.string ⟨#[]⟩, .slice none 0 0] 28))
      simpa only [World.size_alloc] using this
    have rb : Box ((w.alloc (.cells #[.string t.name, .slice ta t.args.length tc] 28)).alloc (.cells #[.string ⟨#[]⟩, .slice none 0 0] 28)) (w.heap.size + 1) [.string ⟨#[]⟩, .slice none 0 0] := by
      have := (Box.new (w.alloc (.cells #[.string t.name, .slice ta t.args.length tc] 28)) [.string ⟨#[]⟩, .slice none 0 0] 28)
      simpa only [World.size_alloc] using this
    have rf : ∀ p, ((w.alloc (.cells #[.string t.name, .slice ta t.args.length tc] 28)).alloc (.cells #[.string ⟨#[]⟩, .slice none 0 0] 28)).frozen? ⟨w.heap.size + 1, p, none⟩ = false := fun p => World.frozen?_alloc_at _ _ _ p (by simp)
    replace ht := Tm.at_keep (Keeps.all hW) ht
    have et0 := bt.c0
    have et1 := bt.c1
    have lt := bt.lt
    have re0 := rb.c0
    have rf0 := rf 0
    have re1 := rb.c1
    have rf1 := rf 1
    have rl := rb.lt
    go_enter Tryd.func13, Tryd.ntmps13
    go_wp2_with fail
    clear et0 et1 lt re0 rf0 re1 rf1 rl
    have Hw0 : Hid (((w.alloc (.cells #[.string t.name, .slice ta t.args.length tc] 28)).alloc (.cells #[.string ⟨#[]⟩, .slice none 0 0] 28)).heap.size = w.heap.size + 1 + 1) := by simp [Hid]
    generalize ((w.alloc (.cells #[.string t.name, .slice ta t.args.length tc] 28)).alloc (.cells #[.string ⟨#[]⟩, .slice none 0 0] 28)) = w0 at *
    refine (isExpression_any t ht hbk).mono ?_
    rintro e w1 ⟨_, rfl, hb, rfl⟩
    replace hW := hW.trans (hb.mono hW.size)
    replace bt := bt.keep hb
    replace ht := Tm.at_keep (Keeps.all hb) ht
    replace rf := fun p => (hb.frozen (p := ⟨_, p, none⟩) rb.lt).trans (rf p)
    replace rb := rb.keep hb
    clear hb
    rw [HE.out]
    have et0 := bt.c0
    have et1 := bt.c1
    have lt := bt.lt
    have re0 := rb.c0
    have rf0 := rf 0
    have re1 := rb.c1
    have rf1 := rf 1
    have rl := rb.lt
    go_wp2_with fail
    refine bodyPost_ret (v := .tuple #[.agg #[.string ⟨#[]⟩, .slice none 0 0], .bool false]) (by simp [results, Tryd.results13, go_sem, rb.c0, rb.c1]; try rfl) rfl ?_
    exact ⟨_, [], rfl, noTm_own, by simp, (hW.setCell (by simp) _).setCell (by simp) _⟩
end Go.Proofs.YtglhbaigigdeeaaDoor
