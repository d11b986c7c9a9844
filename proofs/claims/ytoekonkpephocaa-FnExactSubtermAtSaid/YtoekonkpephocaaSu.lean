/- SubtermAt: the reference's and the program's. -/
import Derived.Test.YtoekonkpephocaaSa
namespace Go.Proofs.Ytoekonkpephocaa
set_option maxRecDepth 100000
open Go.RowKit

theorem sub_bulkD (t : Tm) (p : List Int) : ((t.sub p).getD noTm).bulk ≤ t.bulk := by
  cases h : t.sub p with
  | none => simp [noTm, Tm.bulk, Tm.bulks]
  | some u => exact Tm.sub_bulk _ _ _ h

theorem subR_bulk (t : Tm) (p : List Int) (h : t.bulk ≤ 1048576) : (subR t p).bulk ≤ 1048576 := by
  rw [subR]
  split
  · exact Nat.le_trans (sub_bulkD t p) h
  · simp [noTm, Tm.bulk, Tm.bulks]

set_option maxHeartbeats 2000000 in
theorem impl_SubtermAt {t : Tm} {p : List Int} {S S' : Nat → Prop} {c0 c1 v : Value} {w : World} (ht : Tm.at S w c0 c1 t) (hbk : t.bulk ≤ 1048576) (hp : D.rd S' w v (slOf intE p)) (hl : p.length ≤ 1048576) :
    Calls Try.prog 27 #[.agg #[c0, c1], v] w (OutT (subR t p) (subOk t p) w) := by
  obtain ⟨pa, pc, rfl, hlen, hcap⟩ := slOf_form hp
  by_cases h : t.expr = true
  · have HR : Hid (subR t p = (t.sub p).getD noTm) := by rw [Hid, subR, if_pos h]
    have HO : Hid (subOk t p = (t.sub p).isSome) := by rw [Hid, subOk, h]; rfl
    have HE := hid h
    clear h
    obtain ⟨r, Hr⟩ : ∃ r, Hid ((t.sub p).getD noTm = r) := ⟨_, hid rfl⟩
    obtain ⟨ok, Ho⟩ : ∃ ok, Hid ((t.sub p).isSome = ok) := ⟨_, hid rfl⟩
    have hrb : r.bulk ≤ 1048576 := by rw [← Hr.out]; exact Nat.le_trans (sub_bulkD t p) hbk
    rw [HR.out, HO.out, Hr.out, Ho.out]
    obtain ⟨rfl, tn, ta, tc, rfl⟩ := Tm.at_form ht
    have hW : Below w.heap.size w ((w.alloc (.cells #[.string t.name, .slice ta t.args.length tc] 31)).alloc (.cells #[.string ⟨#[]⟩, .slice none 0 0] 31)) := ((Below.refl _ _).alloc (Nat.le_refl _) _).alloc (by simp) _
    have bt : Box ((w.alloc (.cells #[.string t.name, .slice ta t.args.length tc] 31)).alloc (.cells #[.string ⟨#[]⟩, .slice none 0 0] 31)) (w.heap.size) [.string t.name, .slice ta t.args.length tc] := by
      have := (Box.new w [.string t.name, .slice ta t.args.length tc] 31).alloc (.cells #[.string ⟨#[]⟩, .slice none 0 0] 31)
      simpa only [World.size_alloc] using this
    have rb : Box ((w.alloc (.cells #[.string t.name, .slice ta t.args.length tc] 31)).alloc (.cells #[.string ⟨#[]⟩, .slice none 0 0] 31)) (w.heap.size + 1) [.string ⟨#[]⟩, .slice none 0 0] := by
      have := (Box.new (w.alloc (.cells #[.string t.name, .slice ta t.args.length tc] 31)) [.string ⟨#[]⟩, .slice none 0 0] 31)
      simpa only [World.size_alloc] using this
    have rf : ∀ p, ((w.alloc (.cells #[.string t.name, .slice ta t.args.length tc] 31)).alloc (.cells #[.string ⟨#[]⟩, .slice none 0 0] 31)).frozen? ⟨w.heap.size + 1, p, none⟩ = false := fun p => World.frozen?_alloc_at _ _ _ p (by simp)
    replace ht := Tm.at_keep (Keeps.all hW) ht
    replace hp := D.rd_keep (Keeps.all hW) _ _ hp
    have et0 := bt.c0
    have et1 := bt.c1
    have lt := bt.lt
    have re0 := rb.c0
    have rf0 := rf 0
    have re1 := rb.c1
    have rf1 := rf 1
    have rl := rb.lt
    go_enter Try.func27, Try.ntmps27
    go_wp2_with fail
    clear et0 et1 lt re0 rf0 re1 rf1 rl
    generalize ((w.alloc (.cells #[.string t.name, .slice ta t.args.length tc] 31)).alloc (.cells #[.string ⟨#[]⟩, .slice none 0 0] 31)) = w0 at *
    refine (isExpression_any t ht hbk).mono ?_
    rintro e w1 ⟨_, rfl, hb, rfl⟩
    replace hW := hW.trans (hb.mono hW.size)
    replace bt := bt.keep hb
    replace ht := Tm.at_keep (Keeps.all hb) ht
    replace rf := fun p => (hb.frozen (p := ⟨_, p, none⟩) rb.lt).trans (rf p)
    replace rb := rb.keep hb
    replace hp := D.rd_keep (Keeps.all hb) _ _ hp
    clear hb
    rw [HE.out]
    have et0 := bt.c0
    have et1 := bt.c1
    have lt := bt.lt
    have re0 := rb.c0
    have rf0 := rf 0
    have re1 := rb.c1
    have rf1 := rf 1
    have rl := rb.lt
    go_wp2_with fail
    clear et0 et1 lt re0 rf0 re1 rf1 rl
    have hq := at_any t p ht hp hl
    unfold AtR at hq
    rw [Hr.out, Ho.out] at hq
    refine hq.mono ?_
    rintro e w2 ⟨d1, rfl, hb, hr⟩
    clear hq
    replace hW := hW.trans (hb.mono hW.size)
    replace bt := bt.keep hb
    replace ht := Tm.at_keep (Keeps.all hb) ht
    replace rf := fun p => (hb.frozen (p := ⟨_, p, none⟩) rb.lt).trans (rf p)
    replace rb := rb.keep hb
    replace hp := D.rd_keep (Keeps.all hb) _ _ hp
    clear hb
    obtain ⟨-, hrn, ra, rc, rfl⟩ := Tm.at_form hr
    have hb : Below w2.heap.size w2 (w2.alloc (.cells #[.string r.name, .slice ra r.args.length rc] 31)) := (Below.refl _ _).alloc (Nat.le_refl _) _
    have hq := copyTerm_any r _ _ _ _ (Tm.at_keep (Keeps.all hb) hr) hrb
    have et0 := bt.c0
    have et1 := bt.c1
    have lt := bt.lt
    have re0 := rb.c0
    have rf0 := rf 0
    have re1 := rb.c1
    have rf1 := rf 1
    have rl := rb.lt
    go_wp2_with fail
    clear et0 et1 lt re0 rf0 re1 rf1 rl
    replace hW := hW.trans (hb.mono hW.size)
    replace bt := bt.keep hb
    replace ht := Tm.at_keep (Keeps.all hb) ht
    replace rf := fun p => (hb.frozen (p := ⟨_, p, none⟩) rb.lt).trans (rf p)
    replace rb := rb.keep hb
    replace hp := D.rd_keep (Keeps.all hb) _ _ hp
    clear hb
    refine hq.mono ?_
    rintro e w3 ⟨v, F, rfl, ho, hF, hb⟩
    obtain ⟨va, vc, rfl⟩ := Tm.sd_own_form ho
    have hzW := hW.size
    have hrl := rb.lt
    simp only [World.size_alloc] at hF hrl hzW
    replace hW := hW.trans (hb.mono hW.size)
    replace bt := bt.keep hb
    replace ht := Tm.at_keep (Keeps.all hb) ht
    replace rf := fun p => (hb.frozen (p := ⟨_, p, none⟩) rb.lt).trans (rf p)
    replace rb := rb.keep hb
    replace hp := D.rd_keep (Keeps.all hb) _ _ hp
    clear hb hq
    have et0 := bt.c0
    have et1 := bt.c1
    have lt := bt.lt
    have re0 := rb.c0
    have rf0 := rf 0
    have re1 := rb.c1
    have rf1 := rf 1
    have rl := rb.lt
    go_wp2_with fail
    refine bodyPost_ret (v := .tuple #[.agg #[.string r.name, .slice va r.args.length vc], .bool ok]) (by simp [results, Try.results27, go_sem, rb.c0, rb.c1]; try rfl) rfl ?_
    refine ⟨_, F, rfl, D.own_keep _ _ _ (((Keeps.refl _ _).set_lt hF (by simp; omega) _).set_lt hF (by simp; omega) _) ho, fun x hx => by have := hF x hx; omega, ?_⟩
    exact (hW.setCell (by simp) _).setCell (by simp) _
  · have HE := hid (Bool.eq_false_iff.2 h)
    have HR : Hid (subR t p = noTm) := by rw [Hid, subR, if_neg h]
    have HO : Hid (subOk t p = false) := by rw [Hid, subOk, HE.out]; rfl
    clear h
    rw [HR.out, HO.out]
    obtain ⟨rfl, tn, ta, tc, rfl⟩ := Tm.at_form ht
    have hW : Below w.heap.size w ((w.alloc (.cells #[.string t.name, .slice ta t.args.length tc] 31)).alloc (.cells #[.string ⟨#[]⟩, .slice none 0 0] 31)) := ((Below.refl _ _).alloc (Nat.le_refl _) _).alloc (by simp) _
    have bt : Box ((w.alloc (.cells #[.string t.name, .slice ta t.args.length tc] 31)).alloc (.cells #[.string ⟨#[]⟩, .slice none 0 0] 31)) (w.heap.size) [.string t.name, .slice ta t.args.length tc] := by
      have := (Box.new w [.string t.name, .slice ta t.args.length tc] 31).alloc (.cells #[.string ⟨#[]⟩, .slice none 0 0] 31)
      simpa only [World.size_alloc] using this
    have rb : Box ((w.alloc (.cells #[.string t.name, .slice ta t.args.length tc] 31)).alloc (.cells #[.string ⟨#[]⟩, .slice none 0 0] 31)) (w.heap.size + 1) [.string ⟨#[]⟩, .slice none 0 0] := by
      have := (Box.new (w.alloc (.cells #[.string t.name, .slice ta t.args.length tc] 31)) [.string ⟨#[]⟩, .slice none 0 0] 31)
      simpa only [World.size_alloc] using this
    have rf : ∀ p, ((w.alloc (.cells #[.string t.name, .slice ta t.args.length tc] 31)).alloc (.cells #[.string ⟨#[]⟩, .slice none 0 0] 31)).frozen? ⟨w.heap.size + 1, p, none⟩ = false := fun p => World.frozen?_alloc_at _ _ _ p (by simp)
    replace ht := Tm.at_keep (Keeps.all hW) ht
    replace hp := D.rd_keep (Keeps.all hW) _ _ hp
    have et0 := bt.c0
    have et1 := bt.c1
    have lt := bt.lt
    have re0 := rb.c0
    have rf0 := rf 0
    have re1 := rb.c1
    have rf1 := rf 1
    have rl := rb.lt
    go_enter Try.func27, Try.ntmps27
    go_wp2_with fail
    clear et0 et1 lt re0 rf0 re1 rf1 rl
    generalize ((w.alloc (.cells #[.string t.name, .slice ta t.args.length tc] 31)).alloc (.cells #[.string ⟨#[]⟩, .slice none 0 0] 31)) = w0 at *
    refine (isExpression_any t ht hbk).mono ?_
    rintro e w1 ⟨_, rfl, hb, rfl⟩
    replace hW := hW.trans (hb.mono hW.size)
    replace bt := bt.keep hb
    replace ht := Tm.at_keep (Keeps.all hb) ht
    replace rf := fun p => (hb.frozen (p := ⟨_, p, none⟩) rb.lt).trans (rf p)
    replace rb := rb.keep hb
    replace hp := D.rd_keep (Keeps.all hb) _ _ hp
    clear hb
    rw [HE.out]
    have et0 := bt.c0
    have et1 := bt.c1
    have lt := bt.lt
    have re0 := rb.c0
    have rf0 := rf 0
    have re1 := rb.c1
    have rf1 := rf 1
    have rl := rb.lt
    go_wp2_with fail
    clear et0 et1 lt re0 rf0 re1 rf1 rl
    refine bodyPost_ret (v := .tuple #[.agg #[.string ByteArray.empty, .slice none 0 0], .bool false]) (by simp [results, Try.results27, go_sem, rb.c0, rb.c1]; try rfl) rfl ?_
    exact ⟨_, [], rfl, noTm_own, by simp, (hW.setCell (by simp) _).setCell (by simp) _⟩
set_option maxHeartbeats 2000000 in
theorem spec_SubtermAt {t : Tm} {p : List Int} {S S' : Nat → Prop} {c0 c1 v : Value} {w : World} (ht : Tm.at S w c0 c1 t) (hbk : t.bulk ≤ 1048576) (hp : D.rd S' w v (slOf intE p)) (hl : p.length ≤ 1048576) :
    Calls Try.prog 25 #[.agg #[c0, c1], v] w (OutT (subR t p) (subOk t p) w) := by
  obtain ⟨pa, pc, rfl, hlen, hcap⟩ := slOf_form hp
  by_cases h : t.expr = true
  · have HR : Hid (subR t p = (t.sub p).getD noTm) := by rw [Hid, subR, if_pos h]
    have HO : Hid (subOk t p = (t.sub p).isSome) := by rw [Hid, subOk, h]; rfl
    have HE := hid h
    clear h
    obtain ⟨r, Hr⟩ : ∃ r, Hid ((t.sub p).getD noTm = r) := ⟨_, hid rfl⟩
    obtain ⟨ok, Ho⟩ : ∃ ok, Hid ((t.sub p).isSome = ok) := ⟨_, hid rfl⟩
    have hrb : r.bulk ≤ 1048576 := by rw [← Hr.out]; exact Nat.le_trans (sub_bulkD t p) hbk
    rw [HR.out, HO.out, Hr.out, Ho.out]
    obtain ⟨rfl, tn, ta, tc, rfl⟩ := Tm.at_form ht
    have hW : Below w.heap.size w ((w.alloc (.cells #[.string t.name, .slice ta t.args.length tc] 31)).alloc (.cells #[.string ⟨#[]⟩, .slice none 0 0] 31)) := ((Below.refl _ _).alloc (Nat.le_refl _) _).alloc (by simp) _
    have bt : Box ((w.alloc (.cells #[.string t.name, .slice ta t.args.length tc] 31)).alloc (.cells #[.string ⟨#[]⟩, .slice none 0 0] 31)) (w.heap.size) [.string t.name, .slice ta t.args.length tc] := by
      have := (Box.new w [.string t.name, .slice ta t.args.length tc] 31).alloc (.cells #[.string ⟨#[]⟩, .slice none 0 0] 31)
      simpa only [World.size_alloc] using this
    have rb : Box ((w.alloc (.cells #[.string t.name, .slice ta t.args.length tc] 31)).alloc (.cells #[.string ⟨#[]⟩, .slice none 0 0] 31)) (w.heap.size + 1) [.string ⟨#[]⟩, .slice none 0 0] := by
      have := (Box.new (w.alloc (.cells #[.string t.name, .slice ta t.args.length tc] 31)) [.string ⟨#[]⟩, .slice none 0 0] 31)
      simpa only [World.size_alloc] using this
    have rf : ∀ p, ((w.alloc (.cells #[.string t.name, .slice ta t.args.length tc] 31)).alloc (.cells #[.string ⟨#[]⟩, .slice none 0 0] 31)).frozen? ⟨w.heap.size + 1, p, none⟩ = false := fun p => World.frozen?_alloc_at _ _ _ p (by simp)
    replace ht := Tm.at_keep (Keeps.all hW) ht
    replace hp := D.rd_keep (Keeps.all hW) _ _ hp
    have et0 := bt.c0
    have et1 := bt.c1
    have lt := bt.lt
    have re0 := rb.c0
    have rf0 := rf 0
    have re1 := rb.c1
    have rf1 := rf 1
    have rl := rb.lt
    go_enter Try.func25, Try.ntmps25
    go_wp2_with fail
    clear et0 et1 lt re0 rf0 re1 rf1 rl
    generalize ((w.alloc (.cells #[.string t.name, .slice ta t.args.length tc] 31)).alloc (.cells #[.string ⟨#[]⟩, .slice none 0 0] 31)) = w0 at *
    refine (l2Any_any t ht hbk).mono ?_
    rintro e w1 ⟨_, rfl, hb, rfl⟩
    replace hW := hW.trans (hb.mono hW.size)
    replace bt := bt.keep hb
    replace ht := Tm.at_keep (Keeps.all hb) ht
    replace rf := fun p => (hb.frozen (p := ⟨_, p, none⟩) rb.lt).trans (rf p)
    replace rb := rb.keep hb
    replace hp := D.rd_keep (Keeps.all hb) _ _ hp
    clear hb
    rw [HE.out]
    have et0 := bt.c0
    have et1 := bt.c1
    have lt := bt.lt
    have re0 := rb.c0
    have rf0 := rf 0
    have re1 := rb.c1
    have rf1 := rf 1
    have rl := rb.lt
    go_wp2_with fail
    clear et0 et1 lt re0 rf0 re1 rf1 rl
    have hq := l2At_any t p hbk ht hp hl
    rw [Hr.out, Ho.out] at hq
    refine hq.mono ?_
    rintro e w3 ⟨v, F, rfl, ho, hF, hb⟩
    obtain ⟨va, vc, rfl⟩ := Tm.sd_own_form ho
    have hzW := hW.size
    have hrl := rb.lt
    replace hW := hW.trans (hb.mono hW.size)
    replace bt := bt.keep hb
    replace ht := Tm.at_keep (Keeps.all hb) ht
    replace rf := fun p => (hb.frozen (p := ⟨_, p, none⟩) rb.lt).trans (rf p)
    replace rb := rb.keep hb
    replace hp := D.rd_keep (Keeps.all hb) _ _ hp
    clear hb hq
    have et0 := bt.c0
    have et1 := bt.c1
    have lt := bt.lt
    have re0 := rb.c0
    have rf0 := rf 0
    have re1 := rb.c1
    have rf1 := rf 1
    have rl := rb.lt
    go_wp2_with fail
    refine bodyPost_ret (v := .tuple #[.agg #[.string r.name, .slice va r.args.length vc], .bool ok]) (by simp [results, Try.results25, go_sem, rb.c0, rb.c1]; try rfl) rfl ?_
    refine ⟨_, F, rfl, D.own_keep _ _ _ (((Keeps.refl _ _).set_lt hF (by simp; omega) _).set_lt hF (by simp; omega) _) ho, fun x hx => by have := hF x hx; omega, ?_⟩
    exact (hW.setCell (by simp) _).setCell (by simp) _
  · have HE := hid (Bool.eq_false_iff.2 h)
    have HR : Hid (subR t p = noTm) := by rw [Hid, subR, if_neg h]
    have HO : Hid (subOk t p = false) := by rw [Hid, subOk, HE.out]; rfl
    clear h
    rw [HR.out, HO.out]
    obtain ⟨rfl, tn, ta, tc, rfl⟩ := Tm.at_form ht
    have hW : Below w.heap.size w ((w.alloc (.cells #[.string t.name, .slice ta t.args.length tc] 31)).alloc (.cells #[.string ⟨#[]⟩, .slice none 0 0] 31)) := ((Below.refl _ _).alloc (Nat.le_refl _) _).alloc (by simp) _
    have bt : Box ((w.alloc (.cells #[.string t.name, .slice ta t.args.length tc] 31)).alloc (.cells #[.string ⟨#[]⟩, .slice none 0 0] 31)) (w.heap.size) [.string t.name, .slice ta t.args.length tc] := by
      have := (Box.new w [.string t.name, .slice ta t.args.length tc] 31).alloc (.cells #[.string ⟨#[]⟩, .slice none 0 0] 31)
      simpa only [World.size_alloc] using this
    have rb : Box ((w.alloc (.cells #[.string t.name, .slice ta t.args.length tc] 31)).alloc (.cells #[.string ⟨#[]⟩, .slice none 0 0] 31)) (w.heap.size + 1) [.string ⟨#[]⟩, .slice none 0 0] := by
      have := (Box.new (w.alloc (.cells #[.string t.name, .slice ta t.args.length tc] 31)) [.string ⟨#[]⟩, .slice none 0 0] 31)
      simpa only [World.size_alloc] using this
    have rf : ∀ p, ((w.alloc (.cells #[.string t.name, .slice ta t.args.length tc] 31)).alloc (.cells #[.string ⟨#[]⟩, .slice none 0 0] 31)).frozen? ⟨w.heap.size + 1, p, none⟩ = false := fun p => World.frozen?_alloc_at _ _ _ p (by simp)
    replace ht := Tm.at_keep (Keeps.all hW) ht
    replace hp := D.rd_keep (Keeps.all hW) _ _ hp
    have et0 := bt.c0
    have et1 := bt.c1
    have lt := bt.lt
    have re0 := rb.c0
    have rf0 := rf 0
    have re1 := rb.c1
    have rf1 := rf 1
    have rl := rb.lt
    go_enter Try.func25, Try.ntmps25
    go_wp2_with fail
    clear et0 et1 lt re0 rf0 re1 rf1 rl
    generalize ((w.alloc (.cells #[.string t.name, .slice ta t.args.length tc] 31)).alloc (.cells #[.string ⟨#[]⟩, .slice none 0 0] 31)) = w0 at *
    refine (l2Any_any t ht hbk).mono ?_
    rintro e w1 ⟨_, rfl, hb, rfl⟩
    replace hW := hW.trans (hb.mono hW.size)
    replace bt := bt.keep hb
    replace ht := Tm.at_keep (Keeps.all hb) ht
    replace rf := fun p => (hb.frozen (p := ⟨_, p, none⟩) rb.lt).trans (rf p)
    replace rb := rb.keep hb
    replace hp := D.rd_keep (Keeps.all hb) _ _ hp
    clear hb
    rw [HE.out]
    have et0 := bt.c0
    have et1 := bt.c1
    have lt := bt.lt
    have re0 := rb.c0
    have rf0 := rf 0
    have re1 := rb.c1
    have rf1 := rf 1
    have rl := rb.lt
    go_wp2_with fail
    clear et0 et1 lt re0 rf0 re1 rf1 rl
    refine bodyPost_ret (v := .tuple #[.agg #[.string ByteArray.empty, .slice none 0 0], .bool false]) (by simp [results, Try.results25, go_sem, rb.c0, rb.c1]; try rfl) rfl ?_
    exact ⟨_, [], rfl, noTm_own, by simp, (hW.setCell (by simp) _).setCell (by simp) _⟩
end Go.Proofs.Ytoekonkpephocaa
