/- Generalize: the program's and the reference's. -/
import Derived.Test.YtooocakkjdhfiaaDoorGn
import Derived.Test.YtooocakkjdhfiaaDoorGm
import Derived.Test.YtooocakkjdhfiaaDoorTv
import Derived.Test.YtooocakkjdhfiaaDoorZb
import Derived.Test.YtooocakkjdhfiaaDoorHw
namespace Go.Proofs.YtooocakkjdhfiaaDoor
set_option maxRecDepth 100000
open Go.RowKit

theorem genNames_bulk (t : Tm) : t.names = true → t.bulk ≤ 10 * t.size := by
  refine Tm.ind (P := fun t => t.names = true → t.bulk ≤ 10 * t.size) (fun n ts ih h => ?_) t
  have key : ∀ ts : List Tm, (∀ a ∈ ts, a.names = true → a.bulk ≤ 10 * a.size) → Tm.namesAll ts = true → Tm.bulks ts ≤ 10 * Tm.sizes ts := by
    intro ts
    induction ts with
    | nil => intro _ _; simp [Tm.bulks, Tm.sizes]
    | cons a ts iht =>
      intro h hn
      rw [Tm.namesAll, Bool.and_eq_true] at hn
      have h0 := h a (by simp) hn.1
      have h1 := iht (fun b hb => h b (by simp [hb])) hn.2
      rw [Tm.bulks, Tm.sizes]; omega
  rw [Tm.names] at h
  rw [Tm.bulk, Tm.size]
  split at h
  · rename_i hv
    simp only [varName, Bool.and_eq_true, decide_eq_true_eq] at hv
    cases ts with
    | nil => simp [Tm.bulks, Tm.sizes]; omega
    | cons a ts => simp at h
  · simp only [Bool.and_eq_true, decide_eq_true_eq, symName] at h
    have := key ts ih h.2
    omega
theorem valid_small {t : Tm} (h : t.valid = true) : t.size ≤ 30 ∧ t.bulk ≤ 300 := by
  rw [Tm.valid, Bool.and_eq_true, Tm.small] at h
  have hs : t.size ≤ 30 := by
    have := h.1
    simp at this
    omega
  have := genNames_bulk t h.2
  omega
def genOk (t u : Tm) : Bool := t.valid && u.valid
def genR (t u : Tm) : Tm := if genOk t u = true then (Tm.gen t u []).1 else noTm
theorem gen_yes {t u : Tm} (h1 : t.valid = true) (h2 : u.valid = true) : genOk t u = true ∧ genR t u = (Tm.gen t u []).1 := by
  have : genOk t u = true := by rw [genOk, h1, h2]; rfl
  exact ⟨this, by rw [genR, if_pos this]⟩
theorem gen_not {t u : Tm} (h : ¬ (t.valid = true ∧ u.valid = true)) : genOk t u = false ∧ genR t u = noTm := by
  have : genOk t u = false := by
    rw [Bool.eq_false_iff]; intro q
    rw [genOk, Bool.and_eq_true] at q
    exact h q
  exact ⟨this, by rw [genR, this]; rfl⟩
theorem genR_bulk (t u : Tm) : (genR t u).bulk ≤ 1048576 := by
  by_cases h : t.valid = true ∧ u.valid = true
  · rw [(gen_yes h.1 h.2).2]
    have h1 := valid_small h.1
    have h2 := Tm.gen_bulk t u [] (by simp only [List.length_nil]; omega)
    omega
  · rw [(gen_not h).2]; decide

set_option maxHeartbeats 2000000 in
theorem spec_Generalize {t u : Tm} {S S' : Nat → Prop} {c0 c1 d0 d1 : Value} {w : World} (ht : Tm.at S w c0 c1 t) (hbt : t.bulk ≤ 1048576) (hu : Tm.at S' w d0 d1 u) (hbu : u.bulk ≤ 1048576) :
    Calls Tryd.prog 5 #[.agg #[c0, c1], .agg #[d0, d1]] w (OutT (genR t u) (genOk t u) w) := by
  replace ht := Tm.at_lt ht
  replace hu := Tm.at_lt hu
  by_cases h1 : t.valid = true
  · have HT := hid h1
    by_cases h2 : u.valid = true
    · have HU := hid h2
      obtain ⟨g1, g2⟩ := gen_yes h1 h2
      have HSM := hid (valid_small h1)
      obtain ⟨R, HR⟩ : ∃ R, Hid (Tm.gen t u [] = R) := ⟨_, hid rfl⟩
      rw [g1, g2, HR.out]
      clear h1 h2 g1 g2
      obtain ⟨rfl, tn, ta, tc, rfl⟩ := Tm.at_form ht
      obtain ⟨rfl, un, ua, uc, rfl⟩ := Tm.at_form hu
      have hW : Below w.heap.size w (((w.alloc (.cells #[.string t.name, .slice ta t.args.length tc] 28)).alloc (.cells #[.string u.name, .slice ua u.args.length uc] 28)).alloc (.cells #[.string ⟨#[]⟩, .slice none 0 0] 28)) := (((Below.refl _ _).alloc (Nat.le_refl _) _).alloc (by simp) _).alloc (by simp; omega) _
      have bt : Box (((w.alloc (.cells #[.string t.name, .slice ta t.args.length tc] 28)).alloc (.cells #[.string u.name, .slice ua u.args.length uc] 28)).alloc (.cells #[.string ⟨#[]⟩, .slice none 0 0] 28)) (w.heap.size) [.string t.name, .slice ta t.args.length tc] := by
        have := (((Box.new w [.string t.name, .slice ta t.args.length tc] 28).alloc (.cells #[.string u.name, .slice ua u.args.length uc] 28)).alloc (.cells #[.string ⟨#[]⟩, .slice none 0 0] 28))
        simpa only [World.size_alloc] using this
      have bu : Box (((w.alloc (.cells #[.string t.name, .slice ta t.args.length tc] 28)).alloc (.cells #[.string u.name, .slice ua u.args.length uc] 28)).alloc (.cells #[.string ⟨#[]⟩, .slice none 0 0] 28)) (w.heap.size + 1) [.string u.name, .slice ua u.args.length uc] := by
        have := ((Box.new (w.alloc (.cells #[.string t.name, .slice ta t.args.length tc] 28)) [.string u.name, .slice ua u.args.length uc] 28).alloc (.cells #[.string ⟨#[]⟩, .slice none 0 0] 28))
        simpa only [World.size_alloc] using this
      have rb : Box (((w.alloc (.cells #[.string t.name, .slice ta t.args.length tc] 28)).alloc (.cells #[.string u.name, .slice ua u.args.length uc] 28)).alloc (.cells #[.string ⟨#[]⟩, .slice none 0 0] 28)) (w.heap.size + 1 + 1) [.string ⟨#[]⟩, .slice none 0 0] := by
        have := (Box.new ((w.alloc (.cells #[.string t.name, .slice ta t.args.length tc] 28)).alloc (.cells #[.string u.name, .slice ua u.args.length uc] 28)) [.string ⟨#[]⟩, .slice none 0 0] 28)
        simpa only [World.size_alloc] using this
      have rf : ∀ p, (((w.alloc (.cells #[.string t.name, .slice ta t.args.length tc] 28)).alloc (.cells #[.string u.name, .slice ua u.args.length uc] 28)).alloc (.cells #[.string ⟨#[]⟩, .slice none 0 0] 28)).frozen? ⟨w.heap.size + 1 + 1, p, none⟩ = false := fun p => World.frozen?_alloc_at _ _ _ p (by simp)
      replace ht := Tm.at_keep (Keeps.all hW) ht
      replace hu := Tm.at_keep (Keeps.all hW) hu
      have et0 := bt.c0
      have et1 := bt.c1
      have lt := bt.lt
      have eu0 := bu.c0
      have eu1 := bu.c1
      have lu := bu.lt
      have re0 := rb.c0
      have rf0 := rf 0
      have re1 := rb.c1
      have rf1 := rf 1
      have rl := rb.lt
      go_enter Tryd.func5, Tryd.ntmps5
      go_wp2_with fail
      clear et0 et1 lt eu0 eu1 lu re0 rf0 re1 rf1 rl
      have Hw0 : Hid ((((w.alloc (.cells #[.string t.name, .slice ta t.args.length tc] 28)).alloc (.cells #[.string u.name, .slice ua u.args.length uc] 28)).alloc (.cells #[.string ⟨#[]⟩, .slice none 0 0] 28)).heap.size = w.heap.size + 1 + 1 + 1) := by simp [Hid]
      generalize (((w.alloc (.cells #[.string t.name, .slice ta t.args.length tc] 28)).alloc (.cells #[.string u.name, .slice ua u.args.length uc] 28)).alloc (.cells #[.string ⟨#[]⟩, .slice none 0 0] 28)) = w0 at *
      refine (l2Good_any t ht hbt).mono ?_
      rintro e wa ⟨_, rfl, hb, rfl⟩
      replace hW := hW.trans (hb.mono hW.size)
      replace bt := bt.keep hb
      replace ht := Tm.at_keep (Keeps.all hb) ht
      replace bu := bu.keep hb
      replace hu := Tm.at_keep (Keeps.all hb) hu
      replace rf := fun p => (hb.frozen (p := ⟨_, p, none⟩) rb.lt).trans (rf p)
      replace rb := rb.keep hb
      clear hb
      rw [HT.out]
      have et0 := bt.c0
      have et1 := bt.c1
      have lt := bt.lt
      have eu0 := bu.c0
      have eu1 := bu.c1
      have lu := bu.lt
      have re0 := rb.c0
      have rf0 := rf 0
      have re1 := rb.c1
      have rf1 := rf 1
      have rl := rb.lt
      go_wp2_with fail
      clear et0 et1 lt eu0 eu1 lu re0 rf0 re1 rf1 rl
      refine (l2Good_any u hu hbu).mono ?_
      rintro e wy ⟨_, rfl, hb, rfl⟩
      replace hW := hW.trans (hb.mono hW.size)
      replace bt := bt.keep hb
      replace ht := Tm.at_keep (Keeps.all hb) ht
      replace bu := bu.keep hb
      replace hu := Tm.at_keep (Keeps.all hb) hu
      replace rf := fun p => (hb.frozen (p := ⟨_, p, none⟩) rb.lt).trans (rf p)
      replace rb := rb.keep hb
      clear hb
      rw [HU.out]
      have hA : Below wy.heap.size wy (wy.alloc (.cells #[] 48)) := (Below.refl _ _).alloc (Nat.le_refl _) _
      have hrv : Rv (· < w.heap.size) (wy.alloc (.cells #[] 48)) wy.heap.size 48 4 (.slice (some ⟨wy.heap.size, 0, none⟩) 0 0) ([] : List Pr).length (prCss []) := Rv.made _ _ rfl (Nat.le_refl _)
      have hwy := hW.size
      have HW2 := hid rb.lt
      have HQ := hid (genS_any t u [] _ wy.heap.size (· < w.heap.size) _ _ _ _ _ hrv (by rw [World.size_alloc]; exact Nat.le_succ _) (fun x (hx : x < w.heap.size) => Nat.lt_of_lt_of_le hx hwy) (Tm.at_keep (Keeps.all hA) ht) (Tm.at_keep (Keeps.all hA) hu) (by have := HSM.out.1; simp only [List.length_nil]; omega) hbt)
      have HA := hid hA
      clear hrv hA
      have et0 := bt.c0
      have et1 := bt.c1
      have lt := bt.lt
      have eu0 := bu.c0
      have eu1 := bu.c1
      have lu := bu.lt
      have re0 := rb.c0
      have rf0 := rf 0
      have re1 := rb.c1
      have rf1 := rf 1
      have rl := rb.lt
      go_wp2_with fail
      clear et0 et1 lt eu0 eu1 lu re0 rf0 re1 rf1 rl
      have hq := HQ.out
      rw [HR.out] at hq
      refine hq.mono ?_
      clear hq HQ
      rintro e wz ⟨v1, F, v2, rfl, ho, hF, -, hrv2, hgr, -⟩
      obtain ⟨a1, cp1, rfl⟩ := Tm.sd_own_form ho
      obtain ⟨v2a, v2c, rfl, -, -⟩ := hrv2.form
      have hb : Below wy.heap.size wy wz := below_grown HA.out hgr (by rw [World.size_alloc]; exact Nat.le_succ _) (fun x hx => by have hx' : wy.heap.size = x := Option.some.inj hx; omega)
      have HO := hid ho
      have HF : Hid (∀ y ∈ F, wy.heap.size + 1 ≤ y) := fun y hy => by have := hF y hy; rw [World.size_alloc] at this; exact this
      replace hW := hW.trans (hb.mono hW.size)
      replace bt := bt.keep hb
      replace ht := Tm.at_keep (Keeps.all hb) ht
      replace bu := bu.keep hb
      replace hu := Tm.at_keep (Keeps.all hb) hu
      replace rf := fun p => (hb.frozen (p := ⟨_, p, none⟩) rb.lt).trans (rf p)
      replace rb := rb.keep hb
      clear hb hgr ho hF hrv2
      have hrl := rb.lt
      have zx : ZBox wz (w.heap.size + 1 + 1) := ⟨rb.lt, rb.c0, rb.c1, rf 0, rf 1⟩
      have bz := (zx.fill (.string R.1.name) (.slice a1 R.1.args.length cp1)).2
      have hz0 := cell_alloc bz.c0 (.cells #[.string R.1.name, .slice a1 R.1.args.length cp1] 28)
      have hz1 := cell_alloc bz.c1 (.cells #[.string R.1.name, .slice a1 R.1.args.length cp1] 28)
      have HZ0 := hid hz0
      have HZ1 := hid hz1
      clear hz0 hz1 bz zx
      have et0 := bt.c0
      have et1 := bt.c1
      have lt := bt.lt
      have eu0 := bu.c0
      have eu1 := bu.c1
      have lu := bu.lt
      have re0 := rb.c0
      have rf0 := rf 0
      have re1 := rb.c1
      have rf1 := rf 1
      have rl := rb.lt
      go_wp2_with fail
      refine bodyPost_ret (v := .tuple #[.agg #[.string R.1.name, .slice a1 R.1.args.length cp1], .bool true]) (by simp [results, Tryd.results5, go_sem, HZ0.out, HZ1.out]) rfl ?_
      have hw2 := HW2.out
      have nF : w.heap.size + 1 + 1 ∉ F := fun q => by have := HF.out _ q; omega
      refine ⟨_, F, rfl, D.own_keep _ _ _ ((((Keeps.refl (· ∈ F) wz).setCell (p := ⟨w.heap.size + 1 + 1, 0, none⟩) (fun q _ => nF q) _).setCell (p := ⟨w.heap.size + 1 + 1, 1, none⟩) (fun q _ => nF q) _).alloc _) HO.out, fun y hy => by have := HF.out y hy; omega, ((hW.setCell (p := ⟨w.heap.size + 1 + 1, 0, none⟩) (by show w.heap.size ≤ w.heap.size + 1 + 1; omega) _).setCell (p := ⟨w.heap.size + 1 + 1, 1, none⟩) (by show w.heap.size ≤ w.heap.size + 1 + 1; omega) _).alloc (by rw [World.size_setCell, World.size_setCell]; exact hW.size) _⟩
    · obtain ⟨g1, g2⟩ := gen_not (t := t) (u := u) (fun q => h2 q.2)
      have HU := hid (Bool.eq_false_iff.2 h2)
      rw [g1, g2]
      clear h1 h2 g1 g2
      obtain ⟨rfl, tn, ta, tc, rfl⟩ := Tm.at_form ht
      obtain ⟨rfl, un, ua, uc, rfl⟩ := Tm.at_form hu
      have hW : Below w.heap.size w (((w.alloc (.cells #[.string t.name, .slice ta t.args.length tc] 28)).alloc (.cells #[.string u.name, .slice ua u.args.length uc] 28)).alloc (.cells #[.string ⟨#[]⟩, .slice none 0 0] 28)) := (((Below.refl _ _).alloc (Nat.le_refl _) _).alloc (by simp) _).alloc (by simp; omega) _
      have bt : Box (((w.alloc (.cells #[.string t.name, .slice ta t.args.length tc] 28)).alloc (.cells #[.string u.name, .slice ua u.args.length uc] 28)).alloc (.cells #[.string ⟨#[]⟩, .slice none 0 0] 28)) (w.heap.size) [.string t.name, .slice ta t.args.length tc] := by
        have := (((Box.new w [.string t.name, .slice ta t.args.length tc] 28).alloc (.cells #[.string u.name, .slice ua u.args.length uc] 28)).alloc (.cells #[.string ⟨#[]⟩, .slice none 0 0] 28))
        simpa only [World.size_alloc] using this
      have bu : Box (((w.alloc (.cells #[.string t.name, .slice ta t.args.length tc] 28)).alloc (.cells #[.string u.name, .slice ua u.args.length uc] 28)).alloc (.cells #[.string ⟨#[]⟩, .slice none 0 0] 28)) (w.heap.size + 1) [.string u.name, .slice ua u.args.length uc] := by
        have := ((Box.new (w.alloc (.cells #[.string t.name, .slice ta t.args.length tc] 28)) [.string u.name, .slice ua u.args.length uc] 28).alloc (.cells #[.string ⟨#[]⟩, .slice none 0 0] 28))
        simpa only [World.size_alloc] using this
      have rb : Box (((w.alloc (.cells #[.string t.name, .slice ta t.args.length tc] 28)).alloc (.cells #[.string u.name, .slice ua u.args.length uc] 28)).alloc (.cells #[.string ⟨#[]⟩, .slice none 0 0] 28)) (w.heap.size + 1 + 1) [.string ⟨#[]⟩, .slice none 0 0] := by
        have := (Box.new ((w.alloc (.cells #[.string t.name, .slice ta t.args.length tc] 28)).alloc (.cells #[.string u.name, .slice ua u.args.length uc] 28)) [.string ⟨#[]⟩, .slice none 0 0] 28)
        simpa only [World.size_alloc] using this
      have rf : ∀ p, (((w.alloc (.cells #[.string t.name, .slice ta t.args.length tc] 28)).alloc (.cells #[.string u.name, .slice ua u.args.length uc] 28)).alloc (.cells #[.string ⟨#[]⟩, .slice none 0 0] 28)).frozen? ⟨w.heap.size + 1 + 1, p, none⟩ = false := fun p => World.frozen?_alloc_at _ _ _ p (by simp)
      replace ht := Tm.at_keep (Keeps.all hW) ht
      replace hu := Tm.at_keep (Keeps.all hW) hu
      have et0 := bt.c0
      have et1 := bt.c1
      have lt := bt.lt
      have eu0 := bu.c0
      have eu1 := bu.c1
      have lu := bu.lt
      have re0 := rb.c0
      have rf0 := rf 0
      have re1 := rb.c1
      have rf1 := rf 1
      have rl := rb.lt
      go_enter Tryd.func5, Tryd.ntmps5
      go_wp2_with fail
      clear et0 et1 lt eu0 eu1 lu re0 rf0 re1 rf1 rl
      have Hw0 : Hid ((((w.alloc (.cells #[.string t.name, .slice ta t.args.length tc] 28)).alloc (.cells #[.string u.name, .slice ua u.args.length uc] 28)).alloc (.cells #[.string ⟨#[]⟩, .slice none 0 0] 28)).heap.size = w.heap.size + 1 + 1 + 1) := by simp [Hid]
      generalize (((w.alloc (.cells #[.string t.name, .slice ta t.args.length tc] 28)).alloc (.cells #[.string u.name, .slice ua u.args.length uc] 28)).alloc (.cells #[.string ⟨#[]⟩, .slice none 0 0] 28)) = w0 at *
      refine (l2Good_any t ht hbt).mono ?_
      rintro e wa ⟨_, rfl, hb, rfl⟩
      replace hW := hW.trans (hb.mono hW.size)
      replace bt := bt.keep hb
      replace ht := Tm.at_keep (Keeps.all hb) ht
      replace bu := bu.keep hb
      replace hu := Tm.at_keep (Keeps.all hb) hu
      replace rf := fun p => (hb.frozen (p := ⟨_, p, none⟩) rb.lt).trans (rf p)
      replace rb := rb.keep hb
      clear hb
      rw [HT.out]
      have et0 := bt.c0
      have et1 := bt.c1
      have lt := bt.lt
      have eu0 := bu.c0
      have eu1 := bu.c1
      have lu := bu.lt
      have re0 := rb.c0
      have rf0 := rf 0
      have re1 := rb.c1
      have rf1 := rf 1
      have rl := rb.lt
      go_wp2_with fail
      clear et0 et1 lt eu0 eu1 lu re0 rf0 re1 rf1 rl
      refine (l2Good_any u hu hbu).mono ?_
      rintro e wy ⟨_, rfl, hb, rfl⟩
      replace hW := hW.trans (hb.mono hW.size)
      replace bt := bt.keep hb
      replace ht := Tm.at_keep (Keeps.all hb) ht
      replace bu := bu.keep hb
      replace hu := Tm.at_keep (Keeps.all hb) hu
      replace rf := fun p => (hb.frozen (p := ⟨_, p, none⟩) rb.lt).trans (rf p)
      replace rb := rb.keep hb
      clear hb
      rw [HU.out]
      have et0 := bt.c0
      have et1 := bt.c1
      have lt := bt.lt
      have eu0 := bu.c0
      have eu1 := bu.c1
      have lu := bu.lt
      have re0 := rb.c0
      have rf0 := rf 0
      have re1 := rb.c1
      have rf1 := rf 1
      have rl := rb.lt
      go_wp2_with fail
      refine bodyPost_ret (v := .tuple #[.agg #[.string ⟨#[]⟩, .slice none 0 0], .bool false]) (by simp [results, Tryd.results5, go_sem, rb.c0, rb.c1]; try rfl) rfl ?_
      exact ⟨_, [], rfl, noTm_own, by simp, (hW.setCell (p := ⟨w.heap.size + 1 + 1, 0, none⟩) (by show w.heap.size ≤ w.heap.size + 1 + 1; omega) _).setCell (p := ⟨w.heap.size + 1 + 1, 1, none⟩) (by show w.heap.size ≤ w.heap.size + 1 + 1; omega) _⟩
  · obtain ⟨g1, g2⟩ := gen_not (t := t) (u := u) (fun q => h1 q.1)
    have HT := hid (Bool.eq_false_iff.2 h1)
    rw [g1, g2]
    clear h1 g1 g2
    obtain ⟨rfl, tn, ta, tc, rfl⟩ := Tm.at_form ht
    obtain ⟨rfl, un, ua, uc, rfl⟩ := Tm.at_form hu
    have hW : Below w.heap.size w (((w.alloc (.cells #[.string t.name, .slice ta t.args.length tc] 28)).alloc (.cells #[.string u.name, .slice ua u.args.length uc] 28)).alloc (.cells #[.string ⟨#[]⟩, .slice none 0 0] 28)) := (((Below.refl _ _).alloc (Nat.le_refl _) _).alloc (by simp) _).alloc (by simp; omega) _
    have bt : Box (((w.alloc (.cells #[.string t.name, .slice ta t.args.length tc] 28)).alloc (.cells #[.string u.name, .slice ua u.args.length uc] 28)).alloc (.cells #[.string ⟨#[]⟩, .slice none 0 0] 28)) (w.heap.size) [.string t.name, .slice ta t.args.length tc] := by
      have := (((Box.new w [.string t.name, .slice ta t.args.length tc] 28).alloc (.cells #[.string u.name, .slice ua u.args.length uc] 28)).alloc (.cells #[.string ⟨#[]⟩, .slice none 0 0] 28))
      simpa only [World.size_alloc] using this
    have bu : Box (((w.alloc (.cells #[.string t.name, .slice ta t.args.length tc] 28)).alloc (.cells #[.string u.name, .slice ua u.args.length uc] 28)).alloc (.cells #[.string ⟨#[]⟩, .slice none 0 0] 28)) (w.heap.size + 1) [.string u.name, .slice ua u.args.length uc] := by
      have := ((Box.new (w.alloc (.cells #[.string t.name, .slice ta t.args.length tc] 28)) [.string u.name, .slice ua u.args.length uc] 28).alloc (.cells #[.string ⟨#[]⟩, .slice none 0 0] 28))
      simpa only [World.size_alloc] using this
    have rb : Box (((w.alloc (.cells #[.string t.name, .slice ta t.args.length tc] 28)).alloc (.cells #[.string u.name, .slice ua u.args.length uc] 28)).alloc (.cells #[.string ⟨#[]⟩, .slice none 0 0] 28)) (w.heap.size + 1 + 1) [.string ⟨#[]⟩, .slice none 0 0] := by
      have := (Box.new ((w.alloc (.cells #[.string t.name, .slice ta t.args.length tc] 28)).alloc (.cells #[.string u.name, .slice ua u.args.length uc] 28)) [.string ⟨#[]⟩, .slice none 0 0] 28)
      simpa only [World.size_alloc] using this
    have rf : ∀ p, (((w.alloc (.cells #[.string t.name, .slice ta t.args.length tc] 28)).alloc (.cells #[.string u.name, .slice ua u.args.length uc] 28)).alloc (.cells #[.string ⟨#[]⟩, .slice none 0 0] 28)).frozen? ⟨w.heap.size + 1 + 1, p, none⟩ = false := fun p => World.frozen?_alloc_at _ _ _ p (by simp)
    replace ht := Tm.at_keep (Keeps.all hW) ht
    replace hu := Tm.at_keep (Keeps.all hW) hu
    have et0 := bt.c0
    have et1 := bt.c1
    have lt := bt.lt
    have eu0 := bu.c0
    have eu1 := bu.c1
    have lu := bu.lt
    have re0 := rb.c0
    have rf0 := rf 0
    have re1 := rb.c1
    have rf1 := rf 1
    have rl := rb.lt
    go_enter Tryd.func5, Tryd.ntmps5
    go_wp2_with fail
    clear et0 et1 lt eu0 eu1 lu re0 rf0 re1 rf1 rl
    have Hw0 : Hid ((((w.alloc (.cells #[.string t.name, .slice ta t.args.length tc] 28)).alloc (.cells #[.string u.name, .slice ua u.args.length uc] 28)).alloc (.cells #[.string ⟨#[]⟩, .slice none 0 0] 28)).heap.size = w.heap.size + 1 + 1 + 1) := by simp [Hid]
    generalize (((w.alloc (.cells #[.string t.name, .slice ta t.args.length tc] 28)).alloc (.cells #[.string u.name, .slice ua u.args.length uc] 28)).alloc (.cells #[.string ⟨#[]⟩, .slice none 0 0] 28)) = w0 at *
    refine (l2Good_any t ht hbt).mono ?_
    rintro e wa ⟨_, rfl, hb, rfl⟩
    replace hW := hW.trans (hb.mono hW.size)
    replace bt := bt.keep hb
    replace ht := Tm.at_keep (Keeps.all hb) ht
    replace bu := bu.keep hb
    replace hu := Tm.at_keep (Keeps.all hb) hu
    replace rf := fun p => (hb.frozen (p := ⟨_, p, none⟩) rb.lt).trans (rf p)
    replace rb := rb.keep hb
    clear hb
    rw [HT.out]
    have et0 := bt.c0
    have et1 := bt.c1
    have lt := bt.lt
    have eu0 := bu.c0
    have eu1 := bu.c1
    have lu := bu.lt
    have re0 := rb.c0
    have rf0 := rf 0
    have re1 := rb.c1
    have rf1 := rf 1
    have rl := rb.lt
    go_wp2_with fail
    refine bodyPost_ret (v := .tuple #[.agg #[.string ⟨#[]⟩, .slice none 0 0], .bool false]) (by simp [results, Tryd.results5, go_sem, rb.c0, rb.c1]; try rfl) rfl ?_
    exact ⟨_, [], rfl, noTm_own, by simp, (hW.setCell (p := ⟨w.heap.size + 1 + 1, 0, none⟩) (by show w.heap.size ≤ w.heap.size + 1 + 1; omega) _).setCell (p := ⟨w.heap.size + 1 + 1, 1, none⟩) (by show w.heap.size ≤ w.heap.size + 1 + 1; omega) _⟩
set_option maxHeartbeats 2000000 in
theorem impl_Generalize {t u : Tm} {S S' : Nat → Prop} {c0 c1 d0 d1 : Value} {w : World} (ht : Tm.at S w c0 c1 t) (hbt : t.bulk ≤ 1048576) (hu : Tm.at S' w d0 d1 u) (hbu : u.bulk ≤ 1048576) (hT : TabF w) :
    Calls Tryd.prog 7 #[.agg #[c0, c1], .agg #[d0, d1]] w (OutT (genR t u) (genOk t u) w) := by
  replace ht := Tm.at_lt ht
  replace hu := Tm.at_lt hu
  have HTF := hid hT
  by_cases h1 : t.valid = true
  · have HT := hid h1
    by_cases h2 : u.valid = true
    · have HU := hid h2
      obtain ⟨g1, g2⟩ := gen_yes h1 h2
      have HSM := hid (valid_small h1)
      have HNT : Hid (t.nice = true) := by rw [Tm.valid, Bool.and_eq_true] at h1; exact Tm.names_nice t h1.2
      have HNU : Hid (u.nice = true) := by rw [Tm.valid, Bool.and_eq_true] at h2; exact Tm.names_nice u h2.2
      obtain ⟨R, HR⟩ : ∃ R, Hid (Tm.gen t u [] = R) := ⟨_, hid rfl⟩
      rw [g1, g2, HR.out]
      clear h1 h2 g1 g2 hT
      obtain ⟨rfl, tn, ta, tc, rfl⟩ := Tm.at_form ht
      obtain ⟨rfl, un, ua, uc, rfl⟩ := Tm.at_form hu
      have hW : Below w.heap.size w (((w.alloc (.cells #[.string t.name, .slice ta t.args.length tc] 28)).alloc (.cells #[.string u.name, .slice ua u.args.length uc] 28)).alloc (.cells #[.string ⟨#[]⟩, .slice none 0 0] 28)) := (((Below.refl _ _).alloc (Nat.le_refl _) _).alloc (by simp) _).alloc (by simp; omega) _
      have bt : Box (((w.alloc (.cells #[.string t.name, .slice ta t.args.length tc] 28)).alloc (.cells #[.string u.name, .slice ua u.args.length uc] 28)).alloc (.cells #[.string ⟨#[]⟩, .slice none 0 0] 28)) (w.heap.size) [.string t.name, .slice ta t.args.length tc] := by
        have := (((Box.new w [.string t.name, .slice ta t.args.length tc] 28).alloc (.cells #[.string u.name, .slice ua u.args.length uc] 28)).alloc (.cells #[.string ⟨#[]⟩, .slice none 0 0] 28))
        simpa only [World.size_alloc] using this
      have bu : Box (((w.alloc (.cells #[.string t.name, .slice ta t.args.length tc] 28)).alloc (.cells #[.string u.name, .slice ua u.args.length uc] 28)).alloc (.cells #[.string ⟨#[]⟩, .slice none 0 0] 28)) (w.heap.size + 1) [.string u.name, .slice ua u.args.length uc] := by
        have := ((Box.new (w.alloc (.cells #[.string t.name, .slice ta t.args.length tc] 28)) [.string u.name, .slice ua u.args.length uc] 28).alloc (.cells #[.string ⟨#[]⟩, .slice none 0 0] 28))
        simpa only [World.size_alloc] using this
      have rb : Box (((w.alloc (.cells #[.string t.name, .slice ta t.args.length tc] 28)).alloc (.cells #[.string u.name, .slice ua u.args.length uc] 28)).alloc (.cells #[.string ⟨#[]⟩, .slice none 0 0] 28)) (w.heap.size + 1 + 1) [.string ⟨#[]⟩, .slice none 0 0] := by
        have := (Box.new ((w.alloc (.cells #[.string t.name, .slice ta t.args.length tc] 28)).alloc (.cells #[.string u.name, .slice ua u.args.length uc] 28)) [.string ⟨#[]⟩, .slice none 0 0] 28)
        simpa only [World.size_alloc] using this
      have rf : ∀ p, (((w.alloc (.cells #[.string t.name, .slice ta t.args.length tc] 28)).alloc (.cells #[.string u.name, .slice ua u.args.length uc] 28)).alloc (.cells #[.string ⟨#[]⟩, .slice none 0 0] 28)).frozen? ⟨w.heap.size + 1 + 1, p, none⟩ = false := fun p => World.frozen?_alloc_at _ _ _ p (by simp)
      replace ht := Tm.at_keep (Keeps.all hW) ht
      replace hu := Tm.at_keep (Keeps.all hW) hu
      have et0 := bt.c0
      have et1 := bt.c1
      have lt := bt.lt
      have eu0 := bu.c0
      have eu1 := bu.c1
      have lu := bu.lt
      have re0 := rb.c0
      have rf0 := rf 0
      have re1 := rb.c1
      have rf1 := rf 1
      have rl := rb.lt
      go_enter Tryd.func7, Tryd.ntmps7
      go_wp2_with fail
      clear et0 et1 lt eu0 eu1 lu re0 rf0 re1 rf1 rl
      have Hw0 : Hid ((((w.alloc (.cells #[.string t.name, .slice ta t.args.length tc] 28)).alloc (.cells #[.string u.name, .slice ua u.args.length uc] 28)).alloc (.cells #[.string ⟨#[]⟩, .slice none 0 0] 28)).heap.size = w.heap.size + 1 + 1 + 1) := by simp [Hid]
      generalize (((w.alloc (.cells #[.string t.name, .slice ta t.args.length tc] 28)).alloc (.cells #[.string u.name, .slice ua u.args.length uc] 28)).alloc (.cells #[.string ⟨#[]⟩, .slice none 0 0] 28)) = w0 at *
      refine (isValidTerm_any t ht hbt).mono ?_
      rintro e wa ⟨_, rfl, hb, rfl⟩
      replace hW := hW.trans (hb.mono hW.size)
      replace bt := bt.keep hb
      replace ht := Tm.at_keep (Keeps.all hb) ht
      replace bu := bu.keep hb
      replace hu := Tm.at_keep (Keeps.all hb) hu
      replace rf := fun p => (hb.frozen (p := ⟨_, p, none⟩) rb.lt).trans (rf p)
      replace rb := rb.keep hb
      clear hb
      rw [HT.out]
      have et0 := bt.c0
      have et1 := bt.c1
      have lt := bt.lt
      have eu0 := bu.c0
      have eu1 := bu.c1
      have lu := bu.lt
      have re0 := rb.c0
      have rf0 := rf 0
      have re1 := rb.c1
      have rf1 := rf 1
      have rl := rb.lt
      go_wp2_with fail
      clear et0 et1 lt eu0 eu1 lu re0 rf0 re1 rf1 rl
      refine (isValidTerm_any u hu hbu).mono ?_
      rintro e wy ⟨_, rfl, hb, rfl⟩
      replace hW := hW.trans (hb.mono hW.size)
      replace bt := bt.keep hb
      replace ht := Tm.at_keep (Keeps.all hb) ht
      replace bu := bu.keep hb
      replace hu := Tm.at_keep (Keeps.all hb) hu
      replace rf := fun p => (hb.frozen (p := ⟨_, p, none⟩) rb.lt).trans (rf p)
      replace rb := rb.keep hb
      clear hb
      rw [HU.out]
      have hA1 : Below wy.heap.size wy (wy.alloc (.cells #[] 52)) := (Below.refl _ _).alloc (Nat.le_refl _) _
      have hA : Below wy.heap.size wy ((wy.alloc (.cells #[] 52)).alloc (.cells #[.slice (some ⟨wy.heap.size, 0, none⟩) 0 0] 43)) := hA1.alloc hA1.size _
      have hrv : Rv (· < w.heap.size) ((wy.alloc (.cells #[] 52)).alloc (.cells #[.slice (some ⟨wy.heap.size, 0, none⟩) 0 0] 43)) wy.heap.size 52 4 (.slice (some ⟨wy.heap.size, 0, none⟩) 0 0) ([] : List Pr).length (prCss []) := (Rv.made _ _ rfl (Nat.le_refl _)).keep ((Below.refl _ _).alloc (Nat.le_refl _) _)
      have bP : Box ((wy.alloc (.cells #[] 52)).alloc (.cells #[.slice (some ⟨wy.heap.size, 0, none⟩) 0 0] 43)) (wy.heap.size + 1) [.slice (some ⟨wy.heap.size, 0, none⟩) 0 0] := by
        have := Box.new (wy.alloc (.cells #[] 52)) [Value.slice (some ⟨wy.heap.size, 0, none⟩) 0 0] 43
        simpa only [World.size_alloc] using this
      have fP : ((wy.alloc (.cells #[] 52)).alloc (.cells #[.slice (some ⟨wy.heap.size, 0, none⟩) 0 0] 43)).frozen? ⟨wy.heap.size + 1, 0, none⟩ = false := World.frozen?_alloc_at _ _ _ 0 (by simp)
      have hwy := hW.size
      have HW2 := hid rb.lt
      have HTY := hid (fun w' (hb : Below wy.heap.size wy w') => TabF.keep HTF.out (hW.trans (hb.mono hW.size)))
      have HQ := hid (genI_any t u [] _ (wy.heap.size + 1) wy.heap.size (· < w.heap.size) _ _ _ _ _ hrv bP.c0 fP bP.lt (Nat.le_succ _) (fun x hx => by have hx' : wy.heap.size = x := Option.some.inj hx; omega) (fun x (hx : x < w.heap.size) => Nat.lt_of_lt_of_le hx hwy) (Tm.at_keep (Keeps.all hA) ht) (Tm.at_keep (Keeps.all hA) hu) HNT.out HNU.out (by have := HSM.out.1; simp only [List.length_nil]; omega) hbt (fun w' hb => HTY.out w' (hA.trans hb)))
      have HA := hid hA
      clear hrv hA hA1 bP fP
      have et0 := bt.c0
      have et1 := bt.c1
      have lt := bt.lt
      have eu0 := bu.c0
      have eu1 := bu.c1
      have lu := bu.lt
      have re0 := rb.c0
      have rf0 := rf 0
      have re1 := rb.c1
      have rf1 := rf 1
      have rl := rb.lt
      go_wp2_with fail
      clear et0 et1 lt eu0 eu1 lu re0 rf0 re1 rf1 rl
      have hq := HQ.out
      rw [HR.out] at hq
      refine hq.mono ?_
      clear hq HQ
      rintro e wz ⟨v1, F, v2, rfl, ho, hF, -, -, -, -, hbz, -, -⟩
      obtain ⟨a1, cp1, rfl⟩ := Tm.sd_own_form ho
      have hb : Below wy.heap.size wy wz := HA.out.trans hbz
      have HO := hid ho
      have HF : Hid (∀ y ∈ F, wy.heap.size + 1 ≤ y) := fun y hy => by have := hF y hy; rw [World.size_alloc, World.size_alloc] at this; omega
      replace hW := hW.trans (hb.mono hW.size)
      replace bt := bt.keep hb
      replace ht := Tm.at_keep (Keeps.all hb) ht
      replace bu := bu.keep hb
      replace hu := Tm.at_keep (Keeps.all hb) hu
      replace rf := fun p => (hb.frozen (p := ⟨_, p, none⟩) rb.lt).trans (rf p)
      replace rb := rb.keep hb
      clear hb hbz ho hF
      have et0 := bt.c0
      have et1 := bt.c1
      have lt := bt.lt
      have eu0 := bu.c0
      have eu1 := bu.c1
      have lu := bu.lt
      have re0 := rb.c0
      have rf0 := rf 0
      have re1 := rb.c1
      have rf1 := rf 1
      have rl := rb.lt
      go_wp2_with fail
      refine bodyPost_ret (v := .tuple #[.agg #[.string R.1.name, .slice a1 R.1.args.length cp1], .bool true]) (by simp [results, Tryd.results7, go_sem, rb.c0, rb.c1]; try rfl) rfl ?_
      have hw2 := HW2.out
      have nF : w.heap.size + 1 + 1 ∉ F := fun q => by have := HF.out _ q; omega
      exact ⟨_, F, rfl, D.own_keep _ _ _ (((Keeps.refl (· ∈ F) wz).setCell (p := ⟨w.heap.size + 1 + 1, 0, none⟩) (fun q _ => nF q) _).setCell (p := ⟨w.heap.size + 1 + 1, 1, none⟩) (fun q _ => nF q) _) HO.out, fun y hy => by have := HF.out y hy; omega, (hW.setCell (p := ⟨w.heap.size + 1 + 1, 0, none⟩) (by show w.heap.size ≤ w.heap.size + 1 + 1; omega) _).setCell (p := ⟨w.heap.size + 1 + 1, 1, none⟩) (by show w.heap.size ≤ w.heap.size + 1 + 1; omega) _⟩
    · obtain ⟨g1, g2⟩ := gen_not (t := t) (u := u) (fun q => h2 q.2)
      have HU := hid (Bool.eq_false_iff.2 h2)
      rw [g1, g2]
      clear h1 h2 g1 g2 hT
      obtain ⟨rfl, tn, ta, tc, rfl⟩ := Tm.at_form ht
      obtain ⟨rfl, un, ua, uc, rfl⟩ := Tm.at_form hu
      have hW : Below w.heap.size w (((w.alloc (.cells #[.string t.name, .slice ta t.args.length tc] 28)).alloc (.cells #[.string u.name, .slice ua u.args.length uc] 28)).alloc (.cells #[.string ⟨#[]⟩, .slice none 0 0] 28)) := (((Below.refl _ _).alloc (Nat.le_refl _) _).alloc (by simp) _).alloc (by simp; omega) _
      have bt : Box (((w.alloc (.cells #[.string t.name, .slice ta t.args.length tc] 28)).alloc (.cells #[.string u.name, .slice ua u.args.length uc] 28)).alloc (.cells #[.string ⟨#[]⟩, .slice none 0 0] 28)) (w.heap.size) [.string t.name, .slice ta t.args.length tc] := by
        have := (((Box.new w [.string t.name, .slice ta t.args.length tc] 28).alloc (.cells #[.string u.name, .slice ua u.args.length uc] 28)).alloc (.cells #[.string ⟨#[]⟩, .slice none 0 0] 28))
        simpa only [World.size_alloc] using this
      have bu : Box (((w.alloc (.cells #[.string t.name, .slice ta t.args.length tc] 28)).alloc (.cells #[.string u.name, .slice ua u.args.length uc] 28)).alloc (.cells #[.string ⟨#[]⟩, .slice none 0 0] 28)) (w.heap.size + 1) [.string u.name, .slice ua u.args.length uc] := by
        have := ((Box.new (w.alloc (.cells #[.string t.name, .slice ta t.args.length tc] 28)) [.string u.name, .slice ua u.args.length uc] 28).alloc (.cells #[.string ⟨#[]⟩, .slice none 0 0] 28))
        simpa only [World.size_alloc] using this
      have rb : Box (((w.alloc (.cells #[.string t.name, .slice ta t.args.length tc] 28)).alloc (.cells #[.string u.name, .slice ua u.args.length uc] 28)).alloc (.cells #[.string ⟨#[]⟩, .slice none 0 0] 28)) (w.heap.size + 1 + 1) [.string ⟨#[]⟩, .slice none 0 0] := by
        have := (Box.new ((w.alloc (.cells #[.string t.name, .slice ta t.args.length tc] 28)).alloc (.cells #[.string u.name, .slice ua u.args.length uc] 28)) [.string ⟨#[]⟩, .slice none 0 0] 28)
        simpa only [World.size_alloc] using this
      have rf : ∀ p, (((w.alloc (.cells #[.string t.name, .slice ta t.args.length tc] 28)).alloc (.cells #[.string u.name, .slice ua u.args.length uc] 28)).alloc (.cells #[.string ⟨#[]⟩, .slice none 0 0] 28)).frozen? ⟨w.heap.size + 1 + 1, p, none⟩ = false := fun p => World.frozen?_alloc_at _ _ _ p (by simp)
      replace ht := Tm.at_keep (Keeps.all hW) ht
      replace hu := Tm.at_keep (Keeps.all hW) hu
      have et0 := bt.c0
      have et1 := bt.c1
      have lt := bt.lt
      have eu0 := bu.c0
      have eu1 := bu.c1
      have lu := bu.lt
      have re0 := rb.c0
      have rf0 := rf 0
      have re1 := rb.c1
      have rf1 := rf 1
      have rl := rb.lt
      go_enter Tryd.func7, Tryd.ntmps7
      go_wp2_with fail
      clear et0 et1 lt eu0 eu1 lu re0 rf0 re1 rf1 rl
      have Hw0 : Hid ((((w.alloc (.cells #[.string t.name, .slice ta t.args.length tc] 28)).alloc (.cells #[.string u.name, .slice ua u.args.length uc] 28)).alloc (.cells #[.string ⟨#[]⟩, .slice none 0 0] 28)).heap.size = w.heap.size + 1 + 1 + 1) := by simp [Hid]
      generalize (((w.alloc (.cells #[.string t.name, .slice ta t.args.length tc] 28)).alloc (.cells #[.string u.name, .slice ua u.args.length uc] 28)).alloc (.cells #[.string ⟨#[]⟩, .slice none 0 0] 28)) = w0 at *
      refine (isValidTerm_any t ht hbt).mono ?_
      rintro e wa ⟨_, rfl, hb, rfl⟩
      replace hW := hW.trans (hb.mono hW.size)
      replace bt := bt.keep hb
      replace ht := Tm.at_keep (Keeps.all hb) ht
      replace bu := bu.keep hb
      replace hu := Tm.at_keep (Keeps.all hb) hu
      replace rf := fun p => (hb.frozen (p := ⟨_, p, none⟩) rb.lt).trans (rf p)
      replace rb := rb.keep hb
      clear hb
      rw [HT.out]
      have et0 := bt.c0
      have et1 := bt.c1
      have lt := bt.lt
      have eu0 := bu.c0
      have eu1 := bu.c1
      have lu := bu.lt
      have re0 := rb.c0
      have rf0 := rf 0
      have re1 := rb.c1
      have rf1 := rf 1
      have rl := rb.lt
      go_wp2_with fail
      clear et0 et1 lt eu0 eu1 lu re0 rf0 re1 rf1 rl
      refine (isValidTerm_any u hu hbu).mono ?_
      rintro e wy ⟨_, rfl, hb, rfl⟩
      replace hW := hW.trans (hb.mono hW.size)
      replace bt := bt.keep hb
      replace ht := Tm.at_keep (Keeps.all hb) ht
      replace bu := bu.keep hb
      replace hu := Tm.at_keep (Keeps.all hb) hu
      replace rf := fun p => (hb.frozen (p := ⟨_, p, none⟩) rb.lt).trans (rf p)
      replace rb := rb.keep hb
      clear hb
      rw [HU.out]
      have et0 := bt.c0
      have et1 := bt.c1
      have lt := bt.lt
      have eu0 := bu.c0
      have eu1 := bu.c1
      have lu := bu.lt
      have re0 := rb.c0
      have rf0 := rf 0
      have re1 := rb.c1
      have rf1 := rf 1
      have rl := rb.lt
      go_wp2_with fail
      refine bodyPost_ret (v := .tuple #[.agg #[.string ⟨#[]⟩, .slice none 0 0], .bool false]) (by simp [results, Tryd.results7, go_sem, rb.c0, rb.c1]; try rfl) rfl ?_
      exact ⟨_, [], rfl, noTm_own, by simp, (hW.setCell (p := ⟨w.heap.size + 1 + 1, 0, none⟩) (by show w.heap.size ≤ w.heap.size + 1 + 1; omega) _).setCell (p := ⟨w.heap.size + 1 + 1, 1, none⟩) (by show w.heap.size ≤ w.heap.size + 1 + 1; omega) _⟩
  · obtain ⟨g1, g2⟩ := gen_not (t := t) (u := u) (fun q => h1 q.1)
    have HT := hid (Bool.eq_false_iff.2 h1)
    rw [g1, g2]
    clear h1 g1 g2 hT
    obtain ⟨rfl, tn, ta, tc, rfl⟩ := Tm.at_form ht
    obtain ⟨rfl, un, ua, uc, rfl⟩ := Tm.at_form hu
    have hW : Below w.heap.size w (((w.alloc (.cells #[.string t.name, .slice ta t.args.length tc] 28)).alloc (.cells #[.string u.name, .slice ua u.args.length uc] 28)).alloc (.cells #[.string ⟨#[]⟩, .slice none 0 0] 28)) := (((Below.refl _ _).alloc (Nat.le_refl _) _).alloc (by simp) _).alloc (by simp; omega) _
    have bt : Box (((w.alloc (.cells #[.string t.name, .slice ta t.args.length tc] 28)).alloc (.cells #[.string u.name, .slice ua u.args.length uc] 28)).alloc (.cells #[.string ⟨#[]⟩, .slice none 0 0] 28)) (w.heap.size) [.string t.name, .slice ta t.args.length tc] := by
      have := (((Box.new w [.string t.name, .slice ta t.args.length tc] 28).alloc (.cells #[.string u.name, .slice ua u.args.length uc] 28)).alloc (.cells #[.string ⟨#[]⟩, .slice none 0 0] 28))
      simpa only [World.size_alloc] using this
    have bu : Box (((w.alloc (.cells #[.string t.name, .slice ta t.args.length tc] 28)).alloc (.cells #[.string u.name, .slice ua u.args.length uc] 28)).alloc (.cells #[.string ⟨#[]⟩, .slice none 0 0] 28)) (w.heap.size + 1) [.string u.name, .slice ua u.args.length uc] := by
      have := ((Box.new (w.alloc (.cells #[.string t.name, .slice ta t.args.length tc] 28)) [.string u.name, .slice ua u.args.length uc] 28).alloc (.cells #[.string ⟨#[]⟩, .slice none 0 0] 28))
      simpa only [World.size_alloc] using this
    have rb : Box (((w.alloc (.cells #[.string t.name, .slice ta t.args.length tc] 28)).alloc (.cells #[.string u.name, .slice ua u.args.length uc] 28)).alloc (.cells #[.string ⟨#[]⟩, .slice none 0 0] 28)) (w.heap.size + 1 + 1) [.string ⟨#[]⟩, .slice none 0 0] := by
      have := (Box.new ((w.alloc (.cells #[.string t.name, .slice ta t.args.length tc] 28)).alloc (.cells #[.string u.name, .slice ua u.args.length uc] 28)) [.string ⟨#[]⟩, .slice none 0 0] 28)
      simpa only [World.size_alloc] using this
    have rf : ∀ p, (((w.alloc (.cells #[.string t.name, .slice ta t.args.length tc] 28)).alloc (.cells #[.string u.name, .slice ua u.args.length uc] 28)).alloc (.cells #[.string ⟨#[]⟩, .slice none 0 0] 28)).frozen? ⟨w.heap.size + 1 + 1, p, none⟩ = false := fun p => World.frozen?_alloc_at _ _ _ p (by simp)
    replace ht := Tm.at_keep (Keeps.all hW) ht
    replace hu := Tm.at_keep (Keeps.all hW) hu
    have et0 := bt.c0
    have et1 := bt.c1
    have lt := bt.lt
    have eu0 := bu.c0
    have eu1 := bu.c1
    have lu := bu.lt
    have re0 := rb.c0
    have rf0 := rf 0
    have re1 := rb.c1
    have rf1 := rf 1
    have rl := rb.lt
    go_enter Tryd.func7, Tryd.ntmps7
    go_wp2_with fail
    clear et0 et1 lt eu0 eu1 lu re0 rf0 re1 rf1 rl
    have Hw0 : Hid ((((w.alloc (.cells #[.string t.name, .slice ta t.args.length tc] 28)).alloc (.cells #[.string u.name, .slice ua u.args.length uc] 28)).alloc (.cells #[.string ⟨#[]⟩, .slice none 0 0] 28)).heap.size = w.heap.size + 1 + 1 + 1) := by simp [Hid]
    generalize (((w.alloc (.cells #[.string t.name, .slice ta t.args.length tc] 28)).alloc (.cells #[.string u.name, .slice ua u.args.length uc] 28)).alloc (.cells #[.string ⟨#[]⟩, .slice none 0 0] 28)) = w0 at *
    refine (isValidTerm_any t ht hbt).mono ?_
    rintro e wa ⟨_, rfl, hb, rfl⟩
    replace hW := hW.trans (hb.mono hW.size)
    replace bt := bt.keep hb
    replace ht := Tm.at_keep (Keeps.all hb) ht
    replace bu := bu.keep hb
    replace hu := Tm.at_keep (Keeps.all hb) hu
    replace rf := fun p => (hb.frozen (p := ⟨_, p, none⟩) rb.lt).trans (rf p)
    replace rb := rb.keep hb
    clear hb
    rw [HT.out]
    have et0 := bt.c0
    have et1 := bt.c1
    have lt := bt.lt
    have eu0 := bu.c0
    have eu1 := bu.c1
    have lu := bu.lt
    have re0 := rb.c0
    have rf0 := rf 0
    have re1 := rb.c1
    have rf1 := rf 1
    have rl := rb.lt
    go_wp2_with fail
    refine bodyPost_ret (v := .tuple #[.agg #[.string ⟨#[]⟩, .slice none 0 0], .bool false]) (by simp [results, Tryd.results7, go_sem, rb.c0, rb.c1]; try rfl) rfl ?_
    exact ⟨_, [], rfl, noTm_own, by simp, (hW.setCell (p := ⟨w.heap.size + 1 + 1, 0, none⟩) (by show w.heap.size ≤ w.heap.size + 1 + 1; omega) _).setCell (p := ⟨w.heap.size + 1 + 1, 1, none⟩) (by show w.heap.size ≤ w.heap.size + 1 + 1; omega) _⟩
end Go.Proofs.YtooocakkjdhfiaaDoor
