/- Several texts in one file. -/
import Derived.Test.YtglhbaigigdeeaaGreatQ05
import Derived.Test.YtglhbaigigdeeaaGreatQ06
import Derived.Test.YtglhbaigigdeeaaGreatQ07
import Derived.Test.YtglhbaigigdeeaaGreatQ08
import Derived.Test.YtglhbaigigdeeaaGreatQ04
/- The program matches a pattern with a term. -/
namespace Go.Proofs.YtglhbaigigdeeaaGreat
set_option maxRecDepth 100000
open Go.RowKit

/-- the map's entries read as what is known -/
def KvRd (S : Nat → Prop) (w : World) (kv : List (ByteArray × Value)) (l : List Bnd) : Prop :=
  kv.length = l.length ∧ ∀ i (h : i < kv.length) (h' : i < l.length), kv[i].1 = l[i].var ∧ ∃ c0 c1, kv[i].2 = .agg #[c0, c1] ∧ Tm.at S w c0 c1 l[i].term
theorem KvRd.keep {S : Nat → Prop} {w w' : World} {kv : List (ByteArray × Value)} {l : List Bnd} (h : KvRd S w kv l) (hk : Keeps S w w') : KvRd S w' kv l :=
  ⟨h.1, fun i q q' => by obtain ⟨h0, c0, c1, h1, h2⟩ := h.2 i q q'; exact ⟨h0, c0, c1, h1, Tm.at_keep hk h2⟩⟩
theorem KvRd.keys {S : Nat → Prop} {w : World} {kv : List (ByteArray × Value)} {l : List Bnd} (h : KvRd S w kv l) : kv.map (·.1) = l.map (·.var) := by
  apply List.ext_getElem (by simp [h.1])
  intro i h1 h2
  simp only [List.getElem_map]
  exact (h.2 i (by simpa using h1) (by simpa using h2)).1
theorem KvRd.once {S : Nat → Prop} {w : World} {kv : List (ByteArray × Value)} {l : List Bnd} (h : KvRd S w kv l) (ho : Once l) : (kv.map (·.1)).Nodup := by rw [h.keys]; exact ho
theorem lookB_mem {l : List Bnd} {n : ByteArray} {t : Tm} (h : lookB l n = some t) : ∃ j, ∃ hj : j < l.length, l[j].var = n ∧ l[j].term = t := by
  induction l with
  | nil => simp [lookB] at h
  | cons b l ih =>
    rw [lookB] at h
    split at h
    · rename_i hb
      injection h with h
      exact ⟨0, by simp, hb, h⟩
    · obtain ⟨j, hj, h1, h2⟩ := ih h
      exact ⟨j + 1, by simpa using hj, h1, h2⟩
theorem KvRd.look_none {S : Nat → Prop} {w : World} {kv : List (ByteArray × Value)} {l : List Bnd} (h : KvRd S w kv l) {n : ByteArray} (hn : lookB l n = none) : (∀ p ∈ kv, p.1 ≠ n) ∧ kvLook kv n = none := by
  have h0 : ∀ p ∈ kv, p.1 ≠ n := fun p hp e => by
    obtain ⟨i, hi, rfl⟩ := List.mem_iff_getElem.1 hp
    have hi' : i < l.length := by rw [← h.1]; exact hi
    exact lookB_none.1 hn l[i] (List.getElem_mem hi') (by rw [← (h.2 i hi hi').1]; exact e)
  exact ⟨h0, kvLook_none h0⟩
theorem KvRd.look_some {S : Nat → Prop} {w : World} {kv : List (ByteArray × Value)} {l : List Bnd} (h : KvRd S w kv l) (ho : Once l) {n : ByteArray} {t : Tm} (hn : lookB l n = some t) :
    ∃ j, ∃ hj : j < kv.length, ∃ hj' : j < l.length, ∃ c0 c1, kv[j].1 = n ∧ l[j].term = t ∧ l[j].var = n ∧ kvLook kv n = some (.agg #[c0, c1]) ∧ Tm.at S w c0 c1 t := by
  obtain ⟨j, hj, h1, h2⟩ := lookB_mem hn
  have hjk : j < kv.length := by rw [h.1]; exact hj
  obtain ⟨h3, c0, c1, h4, h5⟩ := h.2 j hjk hj
  refine ⟨j, hjk, hj, c0, c1, h3.trans h1, h2, h1, ?_, by rw [← h2]; exact h5⟩
  rw [kvLook_at (h.once ho) hjk (h3.trans h1), h4]
theorem KvRd.put_new {S : Nat → Prop} {w : World} {kv : List (ByteArray × Value)} {l : List Bnd} (h : KvRd S w kv l) {n : ByteArray} {t : Tm} {c0 c1 : Value} (ht : Tm.at S w c0 c1 t) : KvRd S w (kv ++ [(n, .agg #[c0, c1])]) (l ++ [⟨n, t⟩]) := by
  refine ⟨by simp [h.1], fun i hi hi' => ?_⟩
  by_cases hlt : i < kv.length
  · have hlt' : i < l.length := by rw [← h.1]; exact hlt
    rw [List.getElem_append_left hlt, List.getElem_append_left hlt']
    exact h.2 i hlt hlt'
  · have e1 : i = kv.length := by simp at hi; omega
    have e2 : i = l.length := by rw [← h.1]; exact e1
    rw [List.getElem_append_right (by omega), List.getElem_append_right (by omega)]
    simp only [← e1, ← e2, Nat.sub_self, List.getElem_singleton]
    exact ⟨trivial, c0, c1, rfl, ht⟩
theorem KvRd.put_old {S : Nat → Prop} {w : World} {kv : List (ByteArray × Value)} {l : List Bnd} (h : KvRd S w kv l) {n : ByteArray} {t : Tm} {c0 c1 : Value} {j : Nat} (_ : j < kv.length) (hj' : j < l.length) (hn : l[j].var = n) (he : l[j].term = t) (ht : Tm.at S w c0 c1 t) : KvRd S w (kv.set j (n, .agg #[c0, c1])) l := by
  refine ⟨by simp [h.1], fun i hi hi' => ?_⟩
  rw [List.getElem_set]
  split
  · rename_i e
    subst e
    exact ⟨hn.symm, c0, c1, rfl, by rw [he]; exact ht⟩
  · exact h.2 i (by simpa using hi) hi'

theorem Tm.lf_args {t : Tm} (h : t.leafy) : ∀ a ∈ t.args, a.leafy := by cases t; rw [Tm.leafy] at h; exact (Tm.leafies_iff _).1 h.2
theorem Tm.lf_var {t : Tm} (h : t.leafy) (hv : varName t.name = true) : t.args = [] := by cases t; rw [Tm.leafy] at h; exact h.1 hv
theorem zeroTermM (w : World) : (zeroValue 56).run Tryz.prog w = .ok (.agg #[.string ByteArray.empty, .slice none 0 0]) w := by kernel_rfl

/-- the program's match -/
def MatI (t : Tm) : Prop := ∀ (u : Tm) (l : List Bnd) (kv : List (ByteArray × Value)) (mb : Nat) (S : Nat → Prop) (c0 c1 d0 d1 : Value) (w : World), MapIs w mb kv → KvRd S w kv l → Once l → (∀ x, S x → x ≠ mb) → Tm.at S w c0 c1 t → Tm.at S w d0 d1 u → t.nice = true → t.leafy →
  Calls Tryz.prog 89 #[.map (some mb), .agg #[c0, c1], .agg #[d0, d1]] w fun e w' => e = .returned (.bool (Tm.mat t u l).isSome) ∧ w.grownBy w' (some mb) ∧ ∀ l', Tm.mat t u l = some l' → ∃ kv', MapIs w' mb kv' ∧ KvRd S w' kv' l'

set_option maxHeartbeats 4000000 in
theorem matI_of (t : Tm) (ih : ∀ a ∈ t.args, MatI a) : MatI t := by
  intro u l kv mb S c0 c1 d0 d1 w hmap hkv honce hS ht hu hni hlf
  have HM := hid hmap
  have HKV := hid hkv
  have HON := hid honce
  have HS := hid hS
  have hml := hmap.lt
  have hnr := hid ((Tm.nice_iff t).1 hni).2.2
  have htl : t.args.length ≤ 9223372036854775807 := by obtain ⟨_, _, _, q, _⟩ := Tm.sd_form ht.2; exact q
  clear hmap hkv honce hS
  by_cases h1 : varName t.name = true
  · have HN := hid h1
    have hta : t.args = [] := Tm.lf_var hlf h1
    have hl0 : t.args.length = 0 := by rw [hta]; rfl
    have hz0 : ((t.args.length : Int) == 0) = true := by simp [hl0]
    clear h1 hta hl0
    cases hlk : lookB l t.name with
    | none =>
      have HMT : Hid (Tm.mat t u l = some (l ++ [⟨t.name, u⟩])) := Tm.mat_new HN.out hlk
      obtain ⟨hk1, hk2⟩ := HKV.out.look_none hlk
      have HK1 := hid hk1
      have HK2 := hid hk2
      clear hlk hk1 hk2
      obtain ⟨rfl, tn, ta, tc, rfl⟩ := Tm.at_form ht
      obtain ⟨rfl, un, ua, uc, rfl⟩ := Tm.at_form hu
      have hW : Below w.heap.size w ((w.alloc (.cells #[.string t.name, .slice ta t.args.length tc] 56)).alloc (.cells #[.string u.name, .slice ua u.args.length uc] 56)) := ((Below.refl _ _).alloc (Nat.le_refl _) _).alloc (by simp) _
      have bt : Box ((w.alloc (.cells #[.string t.name, .slice ta t.args.length tc] 56)).alloc (.cells #[.string u.name, .slice ua u.args.length uc] 56)) (w.heap.size) [.string t.name, .slice ta t.args.length tc] := by
        have := ((Box.new w [.string t.name, .slice ta t.args.length tc] 56).alloc (.cells #[.string u.name, .slice ua u.args.length uc] 56))
        simpa only [World.size_alloc] using this
      have bu : Box ((w.alloc (.cells #[.string t.name, .slice ta t.args.length tc] 56)).alloc (.cells #[.string u.name, .slice ua u.args.length uc] 56)) (w.heap.size + 1) [.string u.name, .slice ua u.args.length uc] := by
        have := (Box.new (w.alloc (.cells #[.string t.name, .slice ta t.args.length tc] 56)) [.string u.name, .slice ua u.args.length uc] 56)
        simpa only [World.size_alloc] using this
      replace ht := Tm.at_keep (Keeps.all hW) ht
      replace hu := Tm.at_keep (Keeps.all hW) hu
      have et0 := bt.c0
      have et1 := bt.c1
      have lt := bt.lt
      have eu0 := bu.c0
      have eu1 := bu.c1
      have lu := bu.lt
      go_enter Tryz.func89, Tryz.ntmps89
      go_wp2_with fail
      clear et0 et1 lt eu0 eu1 lu
      have Hw0 : Hid (((w.alloc (.cells #[.string t.name, .slice ta t.args.length tc] 56)).alloc (.cells #[.string u.name, .slice ua u.args.length uc] 56)).heap.size = w.heap.size + 1 + 1) := by simp [Hid]
      generalize ((w.alloc (.cells #[.string t.name, .slice ta t.args.length tc] 56)).alloc (.cells #[.string u.name, .slice ua u.args.length uc] 56)) = w0 at *
      refine (isVar_any hni ht).mono ?_
      rintro e w1 ⟨_, rfl, hb, rfl⟩
      replace hW := hW.trans (hb.mono hW.size)
      replace bt := bt.keep hb
      replace ht := Tm.at_keep (Keeps.all hb) ht
      replace bu := bu.keep hb
      replace hu := Tm.at_keep (Keeps.all hb) hu
      rw [HN.out]
      clear hb
      have HMW := hid (HM.out.keep (Keeps.all hW))
      have HKW := hid (HKV.out.keep (Keeps.all hW))
      have HW := hid hW
      have hml1 := HMW.out.lt
      have hmne : ¬ (some mb : Option Nat) = some w.heap.size := fun e => by injection e; omega
      have hmne1 : ¬ (some mb : Option Nat) = some (w.heap.size + 1) := fun e => by injection e; omega
      have HA : Hid (Below w1.heap.size w1 (w1.alloc (.cells #[.string ByteArray.empty, .slice none 0 0] 56))) := (Below.refl _ _).alloc (Nat.le_refl _) _
      have et0 := bt.c0
      have et1 := bt.c1
      have lt := bt.lt
      have eu0 := bu.c0
      have eu1 := bu.c1
      have lu := bu.lt
      go_wp2_with (first
        | (at_lookup; go_must (refine wpList_look rfl _ _ (by rfl) HMW.out (HKW.out.once HON.out) Tryz.underlying93 Tryz.underlying9 (zeroTermM _) (by rfl) (by rfl) ?_; rw [HK2.out]; simp only [Option.getD_none, Option.isSome_none]))
        | (at_mapUpdate; go_must (refine wpList_put rfl _ _ _ (by rfl) (HMW.out.keep (Keeps.all HA.out)) (HKW.out.once HON.out) Tryz.underlying93 Tryz.underlying9 (by rfl) (by rfl) (by rfl) ?_; intro w2 hm2 hg2 hz2)))
      go_ret
      refine ⟨by rw [HMT.out]; rfl, grown_trans (grown_of_below (HW.out.trans (HA.out.mono HW.out.size)) _) hg2 (fun _ h => .inl h), fun l' h => ?_⟩
      rw [HMT.out] at h
      injection h with h
      subst h
      have hkS : Keeps S w1 w2 := ⟨Nat.le_trans HA.out.size hg2.size, fun y hy hl => (hg2.block y (Nat.lt_of_lt_of_le hl HA.out.size) (fun e => HS.out y hy (by injection e))).trans (HA.out.block y hl)⟩
      refine ⟨_, hm2, ?_⟩
      rw [kvPut_none HK1.out]
      exact (HKW.out.keep hkS).put_new (Tm.at_keep hkS hu)
    | some v =>
      have HMT : Hid (Tm.mat t u l = if Tm.eqb v u = true then some l else none) := Tm.mat_old HN.out hlk
      obtain ⟨j, hj, hj', y0, y1, e1, e2, e3, hkl, hx⟩ := HKV.out.look_some HON.out hlk
      have HJ := hid hj
      have HJ' := hid hj'
      have HE1 := hid e1
      have HE2 := hid e2
      have HE3 := hid e3
      have HKL := hid hkl
      clear hlk e1 e2 e3 hkl
      obtain ⟨rfl, tn, ta, tc, rfl⟩ := Tm.at_form ht
      obtain ⟨rfl, un, ua, uc, rfl⟩ := Tm.at_form hu
      have hW : Below w.heap.size w ((w.alloc (.cells #[.string t.name, .slice ta t.args.length tc] 56)).alloc (.cells #[.string u.name, .slice ua u.args.length uc] 56)) := ((Below.refl _ _).alloc (Nat.le_refl _) _).alloc (by simp) _
      have bt : Box ((w.alloc (.cells #[.string t.name, .slice ta t.args.length tc] 56)).alloc (.cells #[.string u.name, .slice ua u.args.length uc] 56)) (w.heap.size) [.string t.name, .slice ta t.args.length tc] := by
        have := ((Box.new w [.string t.name, .slice ta t.args.length tc] 56).alloc (.cells #[.string u.name, .slice ua u.args.length uc] 56))
        simpa only [World.size_alloc] using this
      have bu : Box ((w.alloc (.cells #[.string t.name, .slice ta t.args.length tc] 56)).alloc (.cells #[.string u.name, .slice ua u.args.length uc] 56)) (w.heap.size + 1) [.string u.name, .slice ua u.args.length uc] := by
        have := (Box.new (w.alloc (.cells #[.string t.name, .slice ta t.args.length tc] 56)) [.string u.name, .slice ua u.args.length uc] 56)
        simpa only [World.size_alloc] using this
      replace ht := Tm.at_keep (Keeps.all hW) ht
      replace hu := Tm.at_keep (Keeps.all hW) hu
      have et0 := bt.c0
      have et1 := bt.c1
      have lt := bt.lt
      have eu0 := bu.c0
      have eu1 := bu.c1
      have lu := bu.lt
      go_enter Tryz.func89, Tryz.ntmps89
      go_wp2_with fail
      clear et0 et1 lt eu0 eu1 lu
      have Hw0 : Hid (((w.alloc (.cells #[.string t.name, .slice ta t.args.length tc] 56)).alloc (.cells #[.string u.name, .slice ua u.args.length uc] 56)).heap.size = w.heap.size + 1 + 1) := by simp [Hid]
      generalize ((w.alloc (.cells #[.string t.name, .slice ta t.args.length tc] 56)).alloc (.cells #[.string u.name, .slice ua u.args.length uc] 56)) = w0 at *
      refine (isVar_any hni ht).mono ?_
      rintro e w1 ⟨_, rfl, hb, rfl⟩
      replace hW := hW.trans (hb.mono hW.size)
      replace bt := bt.keep hb
      replace ht := Tm.at_keep (Keeps.all hb) ht
      replace bu := bu.keep hb
      replace hu := Tm.at_keep (Keeps.all hb) hu
      rw [HN.out]
      clear hb
      have HMW := hid (HM.out.keep (Keeps.all hW))
      have HKW := hid (HKV.out.keep (Keeps.all hW))
      have HX := hid (Tm.at_keep (Keeps.all hW) hx)
      obtain ⟨rfl, -, ya, yc, rfl⟩ := Tm.at_form hx
      have HW := hid hW
      have hml1 := HMW.out.lt
      have hWz := hW.size
      have n1 : ¬ (some mb : Option Nat) = some (w.heap.size + 1) := fun e => by injection e; omega
      have nE : ¬ (some mb : Option Nat) = some w1.heap.size := fun e => by injection e; omega
      have HA : Hid (Below w1.heap.size w1 (w1.alloc (.cells #[.string v.name, .slice ya v.args.length yc] 56))) := (Below.refl _ _).alloc (Nat.le_refl _) _
      have et0 := bt.c0
      have et1 := bt.c1
      have lt := bt.lt
      have eu0 := bu.c0
      have eu1 := bu.c1
      have lu := bu.lt
      go_wp2_with (first
        | (at_lookup; go_must (refine wpList_look rfl _ _ (by rfl) HMW.out (HKW.out.once HON.out) Tryz.underlying93 Tryz.underlying9 (zeroTermM _) (by rfl) (by rfl) ?_; rw [HKL.out]; simp only [Option.getD_some, Option.isSome_some]))
        | (at_mapUpdate; go_must (refine wpList_put rfl _ _ _ (by rfl) (HMW.out.keep (Keeps.all HA.out)) (HKW.out.once HON.out) Tryz.underlying93 Tryz.underlying9 (by rfl) (by rfl) (by rfl) ?_; intro w2 hm2 hg2 hz2; (have eu0 := ((bcellG hg2).1 (w.heap.size + 1) 0 (by rw [World.size_alloc]; omega) n1).trans (cell_alloc bu.c0 _)); (have eu1 := ((bcellG hg2).1 (w.heap.size + 1) 1 (by rw [World.size_alloc]; omega) n1).trans (cell_alloc bu.c1 _)); (have eo0 := ((bcellG hg2).1 w1.heap.size 0 (by rw [World.size_alloc]; omega) nE).trans (box1 _ _ _ 0)); (have eo1 := ((bcellG hg2).1 w1.heap.size 1 (by rw [World.size_alloc]; omega) nE).trans (box1 _ _ _ 1)))))
      have hkS : Keeps S w1 w2 := ⟨Nat.le_trans HA.out.size hg2.size, fun y hy hl => (hg2.block y (Nat.lt_of_lt_of_le hl HA.out.size) (fun e => HS.out y hy (by injection e))).trans (HA.out.block y hl)⟩
      refine (equalTerms_any v u S _ _ _ _ w2 (Tm.at_keep hkS HX.out) (Tm.at_keep hkS hu)).mono ?_
      rintro e w3 ⟨rfl, hb3⟩
      have HG := hid (grown_trans (grown_trans (grown_of_below (HW.out.trans (HA.out.mono HW.out.size)) (some mb)) hg2 (fun _ h => .inl h)) (grown_of_below hb3 (some mb)) (fun _ h => .inl h))
      have HM3 := hid (hm2.keep (Keeps.all hb3))
      have HK3 : Hid (Tm.eqb v u = true → KvRd S w3 (kvPut kv t.name (.agg #[.string u.name, .slice ua u.args.length uc])) l) := fun he => by
        rw [kvPut_at (HKW.out.once HON.out) HJ.out HE1.out]
        exact ((HKW.out.keep hkS).put_old HJ.out HJ'.out HE3.out (HE2.out.trans ((Tm.eqb_iff _ _).1 he)) (Tm.at_keep hkS hu)).keep (Keeps.all hb3)
      obtain ⟨eb, Heb⟩ : ∃ eb, Hid (Tm.eqb v u = eb) := ⟨_, hid rfl⟩
      rw [Heb.out] at HMT HK3 ⊢
      clear hb3 hm2 hg2 hkS
      go_wp2_with fail
      go_ret
      refine ⟨by rw [HMT.out]; cases eb <;> rfl, HG.out, fun l' h => ?_⟩
      rw [HMT.out] at h
      cases eb with
      | false => cases h
      | true => injection h with h; subst h; exact ⟨_, HM3.out, HK3.out rfl⟩
  · have HN := hid (Bool.eq_false_iff.2 h1)
    clear h1
    by_cases hz : t.args.length = 0
    all_goals
      first
      | have hz0 : ((t.args.length : Int) == 0) = true := by simp [hz]
      | have hz0 : ((t.args.length : Int) == 0) = false := by simpa using hz
    · by_cases hnn : t.name = u.name
      · have hq := show (t.name.toList == u.name.toList) = true by rw [hnn]; simp
        have hqn : (t.name.toList != u.name.toList) = false := by rw [hnn]; simp
        by_cases hll : t.args.length = u.args.length
        · have HMT : Hid (Tm.mat t u l = Tm.mats t.args u.args l) := Tm.mat_node l HN.out hnn hll
          have HLL := hid hll
          have hqi : ((t.args.length : Int) != (u.args.length : Int)) = false := by simp [hll]
          have hqj : ((t.args.length : Int) == (u.args.length : Int)) = true := by simp [hll]
          clear hnn hll hz
          obtain ⟨rfl, tn, ta, tc, rfl⟩ := Tm.at_form ht
          obtain ⟨rfl, un, ua, uc, rfl⟩ := Tm.at_form hu
          have hW : Below w.heap.size w ((w.alloc (.cells #[.string t.name, .slice ta t.args.length tc] 56)).alloc (.cells #[.string u.name, .slice ua u.args.length uc] 56)) := ((Below.refl _ _).alloc (Nat.le_refl _) _).alloc (by simp) _
          have bt : Box ((w.alloc (.cells #[.string t.name, .slice ta t.args.length tc] 56)).alloc (.cells #[.string u.name, .slice ua u.args.length uc] 56)) (w.heap.size) [.string t.name, .slice ta t.args.length tc] := by
            have := ((Box.new w [.string t.name, .slice ta t.args.length tc] 56).alloc (.cells #[.string u.name, .slice ua u.args.length uc] 56))
            simpa only [World.size_alloc] using this
          have bu : Box ((w.alloc (.cells #[.string t.name, .slice ta t.args.length tc] 56)).alloc (.cells #[.string u.name, .slice ua u.args.length uc] 56)) (w.heap.size + 1) [.string u.name, .slice ua u.args.length uc] := by
            have := (Box.new (w.alloc (.cells #[.string t.name, .slice ta t.args.length tc] 56)) [.string u.name, .slice ua u.args.length uc] 56)
            simpa only [World.size_alloc] using this
          replace ht := Tm.at_keep (Keeps.all hW) ht
          replace hu := Tm.at_keep (Keeps.all hW) hu
          have et0 := bt.c0
          have et1 := bt.c1
          have lt := bt.lt
          have eu0 := bu.c0
          have eu1 := bu.c1
          have lu := bu.lt
          go_enter Tryz.func89, Tryz.ntmps89
          go_wp2_with fail
          clear et0 et1 lt eu0 eu1 lu
          have Hw0 : Hid (((w.alloc (.cells #[.string t.name, .slice ta t.args.length tc] 56)).alloc (.cells #[.string u.name, .slice ua u.args.length uc] 56)).heap.size = w.heap.size + 1 + 1) := by simp [Hid]
          generalize ((w.alloc (.cells #[.string t.name, .slice ta t.args.length tc] 56)).alloc (.cells #[.string u.name, .slice ua u.args.length uc] 56)) = w0 at *
          refine (isVar_any hni ht).mono ?_
          rintro e w1 ⟨_, rfl, hb, rfl⟩
          replace hW := hW.trans (hb.mono hW.size)
          replace bt := bt.keep hb
          replace ht := Tm.at_keep (Keeps.all hb) ht
          replace bu := bu.keep hb
          replace hu := Tm.at_keep (Keeps.all hb) hu
          rw [HN.out]
          clear hb
          have et0 := bt.c0
          have et1 := bt.c1
          have lt := bt.lt
          have eu0 := bu.c0
          have eu1 := bu.c1
          have lu := bu.lt
          go_wp2_with fail
          clear et0 et1 lt eu0 eu1 lu
          have HMW := hid (HM.out.keep (Keeps.all hW))
          have HKW := hid (HKV.out.keep (Keeps.all hW))
          have HW := hid hW
          have hWz := hW.size
          have h0 := Hw0.out
          have hmb := HM.out.lt
          have n0 : ¬ (some mb : Option Nat) = some w.heap.size := fun e => by injection e; omega
          have n1 : ¬ (some mb : Option Nat) = some (w.heap.size + 1) := fun e => by injection e; omega
          clear h0
          go_loopw [54] (fun i wr => ∃ (k : Nat) (l1 : List Bnd) (kv1 : List (ByteArray × Value)), k ≤ t.args.length ∧ i = .int .i64 k ∧ Hid (Tm.mats (t.args.take k) u.args l = some l1) ∧ Hid (MapIs wr mb kv1) ∧ Hid (KvRd S wr kv1 l1) ∧ Hid (Once l1) ∧ Hid (w1.grownBy wr (some mb))) (fun i _ => t.args.length - (intOf i).toNat)
          case atStart => exact ⟨0, l, kv, Nat.zero_le _, rfl, by rw [List.take_zero, Tm.mats]; exact hid rfl, HMW, HKW, HON, grown_refl _ _⟩
          case round =>
            obtain ⟨k, l1, kv1, hk, rfl, HMK, HMP, HKR, HO1, HGR⟩ := hrel
            have hgz := HGR.out.size
            have et0 := ((bcellG HGR.out).1 _ 0 bt.lt n0).trans bt.c0
            have et1 := ((bcellG HGR.out).1 _ 1 bt.lt n0).trans bt.c1
            have eu0 := ((bcellG HGR.out).1 _ 0 bu.lt n1).trans bu.c0
            have eu1 := ((bcellG HGR.out).1 _ 1 bu.lt n1).trans bu.c1
            have lt := Nat.lt_of_lt_of_le bt.lt hgz
            have lu := Nat.lt_of_lt_of_le bu.lt hgz
            have hkS : Keeps S w1 wr := ⟨hgz, fun y hy hl => HGR.out.block y hl fun e => HS.out y hy (by injection e)⟩
            have htr := Tm.at_keep hkS ht
            have hur := Tm.at_keep hkS hu
            by_cases hlt : k < t.args.length
            · have hlu : k < u.args.length := by have := HLL.out; omega
              have hne : t.args ≠ [] := by intro e; rw [e] at hlt; simp at hlt
              have hneu : u.args ≠ [] := by intro e; rw [e] at hlu; simp at hlu
              obtain ⟨b, off, rfl, hSb, hbl, hrr⟩ := Tm.sd_get htr.2 hne
              obtain ⟨x0, x1, q0, q1, qx⟩ := hrr k hlt
              obtain ⟨b', off', rfl, hSb', hbl', hrr'⟩ := Tm.sd_get hur.2 hneu
              obtain ⟨y0, y1, r0, r1, rx⟩ := hrr' k hlu
              have hqx := hid qx
              have hrx := hid rx
              obtain ⟨rfl, -, xa, xc, rfl⟩ := Tm.at_form qx
              obtain ⟨rfl, -, ya, yc, rfl⟩ := Tm.at_form rx
              have hT0 : (0 : Int) ≤ (k : Int) := by omega
              clear hrr hrr' qx rx
              go_wp2_with fail
              have HA : Hid (Below wr.heap.size wr (wr.alloc (.cells #[.string t.args[k].name, .slice xa t.args[k].args.length xc] 56))) := (Below.refl _ _).alloc (Nat.le_refl _) _
              have bE : Box (wr.alloc (.cells #[.string t.args[k].name, .slice xa t.args[k].args.length xc] 56)) wr.heap.size [.string t.args[k].name, .slice xa t.args[k].args.length xc] := Box.new _ _ _
              have hml2 := HMP.out.lt
              have nE : ¬ (some mb : Option Nat) = some wr.heap.size := fun e => by injection e; omega
              have nb : ¬ (some mb : Option Nat) = some b := fun e => HS.out _ hSb (by injection e with e; exact e.symm)
              have nb' : ¬ (some mb : Option Nat) = some b' := fun e => HS.out _ hSb' (by injection e with e; exact e.symm)
              replace et0 := (HA.out.cell (p := ⟨w.heap.size, 0, none⟩) lt).trans et0
              replace et1 := (HA.out.cell (p := ⟨w.heap.size, 1, none⟩) lt).trans et1
              replace eu0 := (HA.out.cell (p := ⟨w.heap.size + 1, 0, none⟩) lu).trans eu0
              replace eu1 := (HA.out.cell (p := ⟨w.heap.size + 1, 1, none⟩) lu).trans eu1
              replace q0 := (HA.out.cell (p := ⟨b, off + k * 2, none⟩) hbl).trans q0
              replace q1 := (HA.out.cell (p := ⟨b, off + k * 2 + 1, none⟩) hbl).trans q1
              replace r0 := (HA.out.cell (p := ⟨b', off' + k * 2, none⟩) hbl').trans r0
              replace r1 := (HA.out.cell (p := ⟨b', off' + k * 2 + 1, none⟩) hbl').trans r1
              replace hqx := hid (Tm.at_keep (Keeps.all HA.out) hqx.out)
              replace hrx := hid (Tm.at_keep (Keeps.all HA.out) hrx.out)
              have HMA := hid (HMP.out.keep (Keeps.all HA.out))
              have HKA := hid (HKR.out.keep (Keeps.all HA.out))
              have HGA := hid (grown_trans HGR.out (grown_of_below HA.out (some mb)) (fun _ h => .inl h))
              have hAz := HA.out.size
              have ltA := Nat.lt_of_lt_of_le lt hAz
              have luA := Nat.lt_of_lt_of_le lu hAz
              have hblA := Nat.lt_of_lt_of_le hbl hAz
              have hblA' := Nat.lt_of_lt_of_le hbl' hAz
              have lE := bE.lt
              have eE0 := bE.c0
              have eE1 := bE.c1
              clear HA htr hur hkS hgz
              obtain ⟨eb, HEB⟩ : ∃ eb, Hid (wr.heap.size = eb) := ⟨_, hid rfl⟩
              rw [HEB.out] at bE nE lE eE0 eE1 ⊢
              generalize (wr.alloc (.cells #[.string t.args[k].name, .slice xa t.args[k].args.length xc] 56)) = wa at *
              have hih := ih t.args[k] (List.getElem_mem hlt) u.args[k] l1 kv1 mb S (.string t.args[k].name) (.slice xa t.args[k].args.length xc) (.string u.args[k].name) (.slice ya u.args[k].args.length yc) wa.drew (HMA.out.keep (Keeps.all ((Below.refl _ _).drew))) (HKA.out.keep (Keeps.all ((Below.refl _ _).drew))) HO1.out HS.out (Tm.at_keep (Keeps.all ((Below.refl _ _).drew)) hqx.out) (Tm.at_keep (Keeps.all ((Below.refl _ _).drew)) hrx.out) (hnr.out _ (List.getElem_mem hlt)) (Tm.lf_args hlf _ (List.getElem_mem hlt))
              have HST := hid (Tm.mats_take t.args u.args l k hlt hlu)
              rw [HMK.out] at HST
              obtain ⟨ob, Hob⟩ : ∃ ob, Hid (Tm.mat t.args[k] u.args[k] l1 = ob) := ⟨_, hid rfl⟩
              rw [Hob.out] at hih
              have HST2 : Hid (Tm.mats (t.args.take (k + 1)) u.args l = ob) := HST.out.trans Hob.out
              have HIH := hid hih
              have HOA := hid (fun l2 => Tm.mat_once t.args[k] u.args[k] l1 l2 HO1.out)
              rw [Hob.out] at HOA
              clear hih HST
              refine region_late (l := [_, _, _, _, _, _, _, _, _]) (tl := []) (S := fun w1 => (wa).grownBy w1 ((some mb))) (n := 9) rfl rfl (by kernel_rfl) (by kernel_rfl) (grown_of_below ((Below.refl _ _).drew) _) (fun hQL hS => ?_)
              refine late_take (i := 0) (d := some 59) (v := .map (some mb)) rfl rfl (by kernel_rfl) (by kernel_rfl) (by kernel_rfl) hQL (by rfl) (fun w1 _ => (by go_simp)) hS ?_
              try simp only [Act.put, List.setIfInBounds_toArray, List.set_cons_zero, List.set_cons_succ]
              refine late_take (i := 1) (d := some 60) (v := .agg #[.string t.args[k].name, .slice xa t.args[k].args.length xc]) rfl rfl (by kernel_rfl) (by kernel_rfl) (by kernel_rfl) hQL (by rfl) (fun w1 hS1 => (by obtain ⟨hc, hf⟩ := bcellG hS1; go_simp)) hS ?_
              try simp only [Act.put, List.setIfInBounds_toArray, List.set_cons_zero, List.set_cons_succ]
              refine late_take (i := 2) (d := some 61) (v := .pointer (some ⟨(w.heap.size + 1), 1, none⟩)) rfl rfl (by kernel_rfl) (by kernel_rfl) (by kernel_rfl) hQL (by rfl) (fun w1 _ => (by go_simp)) hS ?_
              try simp only [Act.put, List.setIfInBounds_toArray, List.set_cons_zero, List.set_cons_succ]
              refine late_take (i := 3) (d := some 62) (v := .slice (some ⟨b', off', none⟩) u.args.length uc) rfl rfl (by kernel_rfl) (by kernel_rfl) (by kernel_rfl) hQL (by rfl) (fun w1 hS1 => (by obtain ⟨hc, hf⟩ := bcellG hS1; go_simp)) hS ?_
              try simp only [Act.put, List.setIfInBounds_toArray, List.set_cons_zero, List.set_cons_succ]
              refine late_take (i := 4) (d := some 63) (v := .int .i64 k) rfl rfl (by kernel_rfl) (by kernel_rfl) (by kernel_rfl) hQL (by rfl) (fun w1 _ => (by go_simp)) hS ?_
              try simp only [Act.put, List.setIfInBounds_toArray, List.set_cons_zero, List.set_cons_succ]
              refine late_take (i := 5) (d := some 64) (v := .pointer (some ⟨b', off' + k * 2, none⟩)) rfl rfl (by kernel_rfl) (by kernel_rfl) (by kernel_rfl) hQL (by rfl) (fun w1 _ => (by go_simp)) hS ?_
              try simp only [Act.put, List.setIfInBounds_toArray, List.set_cons_zero, List.set_cons_succ]
              refine late_take (i := 6) (d := some 65) (v := .agg #[.string u.args[k].name, .slice ya u.args[k].args.length yc]) rfl rfl (by kernel_rfl) (by kernel_rfl) (by kernel_rfl) hQL (by rfl) (fun w1 hS1 => (by obtain ⟨hc, hf⟩ := bcellG hS1; go_simp)) hS ?_
              try simp only [Act.put, List.setIfInBounds_toArray, List.set_cons_zero, List.set_cons_succ]
              refine wpAnyH_ready (rs := [7]) (by kernel_rfl) (by simp) ?_
              refine AllReadyH.cons rfl (fun K hK => ?_) AllReadyH.nil
              refine step_does rfl ?_
              unfold Does
              go_simp
              go_at_call 89
              refine HIH.out.mono ?_
              rintro e w1 ⟨rfl, hg1, hs1⟩
              refine ⟨_, rfl, ?_⟩
              refine hK.out _ _ (World.grownBy.trans hS hg1) (fun hS => ?_)
              try show wpAnyH _ _ _ _ _ _ _ (Act.put _ (some 66) _) _
              try simp only [Act.put, List.setIfInBounds_toArray, List.set_cons_zero, List.set_cons_succ]
              refine late_take (i := 8) (d := some 67) (v := .bool (!ob.isSome)) rfl rfl (by kernel_rfl) (by kernel_rfl) (by kernel_rfl) hQL (by rfl) (fun w1 _ => (by go_simp)) hS ?_
              try simp only [Act.put, List.setIfInBounds_toArray, List.set_cons_zero, List.set_cons_succ]
              refine wpAnyH_done (by kernel_rfl) ?_ _
              show wpTail _ _ _ _ _
              refine wpTail_nil ?_
              have HG2 := hid (grown_trans HGA.out hS (fun _ h => .inl h))
              have HS1 := hid hs1
              clear hg1 hs1 hS
              cases ob with
              | none =>
                have HNO : Hid (Tm.mat t u l = none) := HMT.out.trans (Tm.mats_none (k + 1) HST2.out)
                go_wp2_with fail
                go_ret
                exact ⟨by rw [HNO.out]; rfl, grown_trans (grown_of_below HW.out _) HG2.out (fun _ h => .inl h), fun l' h => by rw [HNO.out] at h; cases h⟩
              | some l2 =>
                obtain ⟨kv2, hm2, hk2⟩ := HS1.out l2 rfl
                have HM2 := hid hm2
                have HK2 := hid hk2
                have HO2 : Hid (Once l2) := HOA.out l2 rfl
                clear hm2 hk2
                go_wp2_with fail
                go_roundw
                case rel => exact ⟨k + 1, l2, kv2, by omega, by go_num, HST2, HM2, HK2, HO2, HG2⟩
                case measure => simp [intOf]; omega
            · obtain rfl : k = t.args.length := by omega
              have HY : Hid (Tm.mat t u l = some l1) := by have := HMK.out; rw [List.take_length] at this; exact HMT.out.trans this
              go_wp2_with fail
              go_ret
              refine ⟨by rw [HY.out]; rfl, grown_trans (grown_of_below HW.out _) HGR.out (fun _ h => .inl h), fun l' h => ?_⟩
              rw [HY.out] at h
              injection h with h
              subst h
              exact ⟨kv1, HMP.out, HKR.out⟩
        · have HMT : Hid (Tm.mat t u l = none) := Tm.mat_no l HN.out (fun h => hll h.2)
          have hqi : ((t.args.length : Int) != (u.args.length : Int)) = true := by simp; omega
          have hqj : ((t.args.length : Int) == (u.args.length : Int)) = false := by simp; omega
          clear hnn hll hz
          obtain ⟨rfl, tn, ta, tc, rfl⟩ := Tm.at_form ht
          obtain ⟨rfl, un, ua, uc, rfl⟩ := Tm.at_form hu
          have hW : Below w.heap.size w ((w.alloc (.cells #[.string t.name, .slice ta t.args.length tc] 56)).alloc (.cells #[.string u.name, .slice ua u.args.length uc] 56)) := ((Below.refl _ _).alloc (Nat.le_refl _) _).alloc (by simp) _
          have bt : Box ((w.alloc (.cells #[.string t.name, .slice ta t.args.length tc] 56)).alloc (.cells #[.string u.name, .slice ua u.args.length uc] 56)) (w.heap.size) [.string t.name, .slice ta t.args.length tc] := by
            have := ((Box.new w [.string t.name, .slice ta t.args.length tc] 56).alloc (.cells #[.string u.name, .slice ua u.args.length uc] 56))
            simpa only [World.size_alloc] using this
          have bu : Box ((w.alloc (.cells #[.string t.name, .slice ta t.args.length tc] 56)).alloc (.cells #[.string u.name, .slice ua u.args.length uc] 56)) (w.heap.size + 1) [.string u.name, .slice ua u.args.length uc] := by
            have := (Box.new (w.alloc (.cells #[.string t.name, .slice ta t.args.length tc] 56)) [.string u.name, .slice ua u.args.length uc] 56)
            simpa only [World.size_alloc] using this
          replace ht := Tm.at_keep (Keeps.all hW) ht
          replace hu := Tm.at_keep (Keeps.all hW) hu
          have et0 := bt.c0
          have et1 := bt.c1
          have lt := bt.lt
          have eu0 := bu.c0
          have eu1 := bu.c1
          have lu := bu.lt
          go_enter Tryz.func89, Tryz.ntmps89
          go_wp2_with fail
          clear et0 et1 lt eu0 eu1 lu
          have Hw0 : Hid (((w.alloc (.cells #[.string t.name, .slice ta t.args.length tc] 56)).alloc (.cells #[.string u.name, .slice ua u.args.length uc] 56)).heap.size = w.heap.size + 1 + 1) := by simp [Hid]
          generalize ((w.alloc (.cells #[.string t.name, .slice ta t.args.length tc] 56)).alloc (.cells #[.string u.name, .slice ua u.args.length uc] 56)) = w0 at *
          refine (isVar_any hni ht).mono ?_
          rintro e w1 ⟨_, rfl, hb, rfl⟩
          replace hW := hW.trans (hb.mono hW.size)
          replace bt := bt.keep hb
          replace ht := Tm.at_keep (Keeps.all hb) ht
          replace bu := bu.keep hb
          replace hu := Tm.at_keep (Keeps.all hb) hu
          rw [HN.out]
          clear hb
          have et0 := bt.c0
          have et1 := bt.c1
          have lt := bt.lt
          have eu0 := bu.c0
          have eu1 := bu.c1
          have lu := bu.lt
          go_wp2_with fail
          clear et0 et1 lt eu0 eu1 lu
          go_ret
          exact ⟨by rw [HMT.out]; rfl, grown_of_below hW _, fun l' h => by rw [HMT.out] at h; cases h⟩
      · have HMT : Hid (Tm.mat t u l = none) := Tm.mat_no l HN.out (fun h => hnn h.1)
        have hqn : (t.name.toList != u.name.toList) = true := by rw [bne, toList_ne hnn]; rfl
        have hq := toList_ne hnn
        clear hnn hz
        obtain ⟨rfl, tn, ta, tc, rfl⟩ := Tm.at_form ht
        obtain ⟨rfl, un, ua, uc, rfl⟩ := Tm.at_form hu
        have hW : Below w.heap.size w ((w.alloc (.cells #[.string t.name, .slice ta t.args.length tc] 56)).alloc (.cells #[.string u.name, .slice ua u.args.length uc] 56)) := ((Below.refl _ _).alloc (Nat.le_refl _) _).alloc (by simp) _
        have bt : Box ((w.alloc (.cells #[.string t.name, .slice ta t.args.length tc] 56)).alloc (.cells #[.string u.name, .slice ua u.args.length uc] 56)) (w.heap.size) [.string t.name, .slice ta t.args.length tc] := by
          have := ((Box.new w [.string t.name, .slice ta t.args.length tc] 56).alloc (.cells #[.string u.name, .slice ua u.args.length uc] 56))
          simpa only [World.size_alloc] using this
        have bu : Box ((w.alloc (.cells #[.string t.name, .slice ta t.args.length tc] 56)).alloc (.cells #[.string u.name, .slice ua u.args.length uc] 56)) (w.heap.size + 1) [.string u.name, .slice ua u.args.length uc] := by
          have := (Box.new (w.alloc (.cells #[.string t.name, .slice ta t.args.length tc] 56)) [.string u.name, .slice ua u.args.length uc] 56)
          simpa only [World.size_alloc] using this
        replace ht := Tm.at_keep (Keeps.all hW) ht
        replace hu := Tm.at_keep (Keeps.all hW) hu
        have et0 := bt.c0
        have et1 := bt.c1
        have lt := bt.lt
        have eu0 := bu.c0
        have eu1 := bu.c1
        have lu := bu.lt
        go_enter Tryz.func89, Tryz.ntmps89
        go_wp2_with fail
        clear et0 et1 lt eu0 eu1 lu
        have Hw0 : Hid (((w.alloc (.cells #[.string t.name, .slice ta t.args.length tc] 56)).alloc (.cells #[.string u.name, .slice ua u.args.length uc] 56)).heap.size = w.heap.size + 1 + 1) := by simp [Hid]
        generalize ((w.alloc (.cells #[.string t.name, .slice ta t.args.length tc] 56)).alloc (.cells #[.string u.name, .slice ua u.args.length uc] 56)) = w0 at *
        refine (isVar_any hni ht).mono ?_
        rintro e w1 ⟨_, rfl, hb, rfl⟩
        replace hW := hW.trans (hb.mono hW.size)
        replace bt := bt.keep hb
        replace ht := Tm.at_keep (Keeps.all hb) ht
        replace bu := bu.keep hb
        replace hu := Tm.at_keep (Keeps.all hb) hu
        rw [HN.out]
        clear hb
        have et0 := bt.c0
        have et1 := bt.c1
        have lt := bt.lt
        have eu0 := bu.c0
        have eu1 := bu.c1
        have lu := bu.lt
        go_wp2_with fail
        clear et0 et1 lt eu0 eu1 lu
        go_ret
        exact ⟨by rw [HMT.out]; rfl, grown_of_below hW _, fun l' h => by rw [HMT.out] at h; cases h⟩
    · by_cases hnn : t.name = u.name
      · have hq := show (t.name.toList == u.name.toList) = true by rw [hnn]; simp
        have hqn : (t.name.toList != u.name.toList) = false := by rw [hnn]; simp
        by_cases hll : t.args.length = u.args.length
        · have HMT : Hid (Tm.mat t u l = Tm.mats t.args u.args l) := Tm.mat_node l HN.out hnn hll
          have HLL := hid hll
          have hqi : ((t.args.length : Int) != (u.args.length : Int)) = false := by simp [hll]
          have hqj : ((t.args.length : Int) == (u.args.length : Int)) = true := by simp [hll]
          clear hnn hll hz
          obtain ⟨rfl, tn, ta, tc, rfl⟩ := Tm.at_form ht
          obtain ⟨rfl, un, ua, uc, rfl⟩ := Tm.at_form hu
          have hW : Below w.heap.size w ((w.alloc (.cells #[.string t.name, .slice ta t.args.length tc] 56)).alloc (.cells #[.string u.name, .slice ua u.args.length uc] 56)) := ((Below.refl _ _).alloc (Nat.le_refl _) _).alloc (by simp) _
          have bt : Box ((w.alloc (.cells #[.string t.name, .slice ta t.args.length tc] 56)).alloc (.cells #[.string u.name, .slice ua u.args.length uc] 56)) (w.heap.size) [.string t.name, .slice ta t.args.length tc] := by
            have := ((Box.new w [.string t.name, .slice ta t.args.length tc] 56).alloc (.cells #[.string u.name, .slice ua u.args.length uc] 56))
            simpa only [World.size_alloc] using this
          have bu : Box ((w.alloc (.cells #[.string t.name, .slice ta t.args.length tc] 56)).alloc (.cells #[.string u.name, .slice ua u.args.length uc] 56)) (w.heap.size + 1) [.string u.name, .slice ua u.args.length uc] := by
            have := (Box.new (w.alloc (.cells #[.string t.name, .slice ta t.args.length tc] 56)) [.string u.name, .slice ua u.args.length uc] 56)
            simpa only [World.size_alloc] using this
          replace ht := Tm.at_keep (Keeps.all hW) ht
          replace hu := Tm.at_keep (Keeps.all hW) hu
          have et0 := bt.c0
          have et1 := bt.c1
          have lt := bt.lt
          have eu0 := bu.c0
          have eu1 := bu.c1
          have lu := bu.lt
          go_enter Tryz.func89, Tryz.ntmps89
          go_wp2_with fail
          clear et0 et1 lt eu0 eu1 lu
          have Hw0 : Hid (((w.alloc (.cells #[.string t.name, .slice ta t.args.length tc] 56)).alloc (.cells #[.string u.name, .slice ua u.args.length uc] 56)).heap.size = w.heap.size + 1 + 1) := by simp [Hid]
          generalize ((w.alloc (.cells #[.string t.name, .slice ta t.args.length tc] 56)).alloc (.cells #[.string u.name, .slice ua u.args.length uc] 56)) = w0 at *
          have HMW := hid (HM.out.keep (Keeps.all hW))
          have HKW := hid (HKV.out.keep (Keeps.all hW))
          have HW := hid hW
          have hWz := hW.size
          have h0 := Hw0.out
          have hmb := HM.out.lt
          have n0 : ¬ (some mb : Option Nat) = some w.heap.size := fun e => by injection e; omega
          have n1 : ¬ (some mb : Option Nat) = some (w.heap.size + 1) := fun e => by injection e; omega
          clear h0
          go_loopw [54] (fun i wr => ∃ (k : Nat) (l1 : List Bnd) (kv1 : List (ByteArray × Value)), k ≤ t.args.length ∧ i = .int .i64 k ∧ Hid (Tm.mats (t.args.take k) u.args l = some l1) ∧ Hid (MapIs wr mb kv1) ∧ Hid (KvRd S wr kv1 l1) ∧ Hid (Once l1) ∧ Hid (w0.grownBy wr (some mb))) (fun i _ => t.args.length - (intOf i).toNat)
          case atStart => exact ⟨0, l, kv, Nat.zero_le _, rfl, by rw [List.take_zero, Tm.mats]; exact hid rfl, HMW, HKW, HON, grown_refl _ _⟩
          case round =>
            obtain ⟨k, l1, kv1, hk, rfl, HMK, HMP, HKR, HO1, HGR⟩ := hrel
            have hgz := HGR.out.size
            have et0 := ((bcellG HGR.out).1 _ 0 bt.lt n0).trans bt.c0
            have et1 := ((bcellG HGR.out).1 _ 1 bt.lt n0).trans bt.c1
            have eu0 := ((bcellG HGR.out).1 _ 0 bu.lt n1).trans bu.c0
            have eu1 := ((bcellG HGR.out).1 _ 1 bu.lt n1).trans bu.c1
            have lt := Nat.lt_of_lt_of_le bt.lt hgz
            have lu := Nat.lt_of_lt_of_le bu.lt hgz
            have hkS : Keeps S w0 wr := ⟨hgz, fun y hy hl => HGR.out.block y hl fun e => HS.out y hy (by injection e)⟩
            have htr := Tm.at_keep hkS ht
            have hur := Tm.at_keep hkS hu
            by_cases hlt : k < t.args.length
            · have hlu : k < u.args.length := by have := HLL.out; omega
              have hne : t.args ≠ [] := by intro e; rw [e] at hlt; simp at hlt
              have hneu : u.args ≠ [] := by intro e; rw [e] at hlu; simp at hlu
              obtain ⟨b, off, rfl, hSb, hbl, hrr⟩ := Tm.sd_get htr.2 hne
              obtain ⟨x0, x1, q0, q1, qx⟩ := hrr k hlt
              obtain ⟨b', off', rfl, hSb', hbl', hrr'⟩ := Tm.sd_get hur.2 hneu
              obtain ⟨y0, y1, r0, r1, rx⟩ := hrr' k hlu
              have hqx := hid qx
              have hrx := hid rx
              obtain ⟨rfl, -, xa, xc, rfl⟩ := Tm.at_form qx
              obtain ⟨rfl, -, ya, yc, rfl⟩ := Tm.at_form rx
              have hT0 : (0 : Int) ≤ (k : Int) := by omega
              clear hrr hrr' qx rx
              go_wp2_with fail
              have HA : Hid (Below wr.heap.size wr (wr.alloc (.cells #[.string t.args[k].name, .slice xa t.args[k].args.length xc] 56))) := (Below.refl _ _).alloc (Nat.le_refl _) _
              have bE : Box (wr.alloc (.cells #[.string t.args[k].name, .slice xa t.args[k].args.length xc] 56)) wr.heap.size [.string t.args[k].name, .slice xa t.args[k].args.length xc] := Box.new _ _ _
              have hml2 := HMP.out.lt
              have nE : ¬ (some mb : Option Nat) = some wr.heap.size := fun e => by injection e; omega
              have nb : ¬ (some mb : Option Nat) = some b := fun e => HS.out _ hSb (by injection e with e; exact e.symm)
              have nb' : ¬ (some mb : Option Nat) = some b' := fun e => HS.out _ hSb' (by injection e with e; exact e.symm)
              replace et0 := (HA.out.cell (p := ⟨w.heap.size, 0, none⟩) lt).trans et0
              replace et1 := (HA.out.cell (p := ⟨w.heap.size, 1, none⟩) lt).trans et1
              replace eu0 := (HA.out.cell (p := ⟨w.heap.size + 1, 0, none⟩) lu).trans eu0
              replace eu1 := (HA.out.cell (p := ⟨w.heap.size + 1, 1, none⟩) lu).trans eu1
              replace q0 := (HA.out.cell (p := ⟨b, off + k * 2, none⟩) hbl).trans q0
              replace q1 := (HA.out.cell (p := ⟨b, off + k * 2 + 1, none⟩) hbl).trans q1
              replace r0 := (HA.out.cell (p := ⟨b', off' + k * 2, none⟩) hbl').trans r0
              replace r1 := (HA.out.cell (p := ⟨b', off' + k * 2 + 1, none⟩) hbl').trans r1
              replace hqx := hid (Tm.at_keep (Keeps.all HA.out) hqx.out)
              replace hrx := hid (Tm.at_keep (Keeps.all HA.out) hrx.out)
              have HMA := hid (HMP.out.keep (Keeps.all HA.out))
              have HKA := hid (HKR.out.keep (Keeps.all HA.out))
              have HGA := hid (grown_trans HGR.out (grown_of_below HA.out (some mb)) (fun _ h => .inl h))
              have hAz := HA.out.size
              have ltA := Nat.lt_of_lt_of_le lt hAz
              have luA := Nat.lt_of_lt_of_le lu hAz
              have hblA := Nat.lt_of_lt_of_le hbl hAz
              have hblA' := Nat.lt_of_lt_of_le hbl' hAz
              have lE := bE.lt
              have eE0 := bE.c0
              have eE1 := bE.c1
              clear HA htr hur hkS hgz
              obtain ⟨eb, HEB⟩ : ∃ eb, Hid (wr.heap.size = eb) := ⟨_, hid rfl⟩
              rw [HEB.out] at bE nE lE eE0 eE1 ⊢
              generalize (wr.alloc (.cells #[.string t.args[k].name, .slice xa t.args[k].args.length xc] 56)) = wa at *
              have hih := ih t.args[k] (List.getElem_mem hlt) u.args[k] l1 kv1 mb S (.string t.args[k].name) (.slice xa t.args[k].args.length xc) (.string u.args[k].name) (.slice ya u.args[k].args.length yc) wa.drew (HMA.out.keep (Keeps.all ((Below.refl _ _).drew))) (HKA.out.keep (Keeps.all ((Below.refl _ _).drew))) HO1.out HS.out (Tm.at_keep (Keeps.all ((Below.refl _ _).drew)) hqx.out) (Tm.at_keep (Keeps.all ((Below.refl _ _).drew)) hrx.out) (hnr.out _ (List.getElem_mem hlt)) (Tm.lf_args hlf _ (List.getElem_mem hlt))
              have HST := hid (Tm.mats_take t.args u.args l k hlt hlu)
              rw [HMK.out] at HST
              obtain ⟨ob, Hob⟩ : ∃ ob, Hid (Tm.mat t.args[k] u.args[k] l1 = ob) := ⟨_, hid rfl⟩
              rw [Hob.out] at hih
              have HST2 : Hid (Tm.mats (t.args.take (k + 1)) u.args l = ob) := HST.out.trans Hob.out
              have HIH := hid hih
              have HOA := hid (fun l2 => Tm.mat_once t.args[k] u.args[k] l1 l2 HO1.out)
              rw [Hob.out] at HOA
              clear hih HST
              refine region_late (l := [_, _, _, _, _, _, _, _, _]) (tl := []) (S := fun w1 => (wa).grownBy w1 ((some mb))) (n := 9) rfl rfl (by kernel_rfl) (by kernel_rfl) (grown_of_below ((Below.refl _ _).drew) _) (fun hQL hS => ?_)
              refine late_take (i := 0) (d := some 59) (v := .map (some mb)) rfl rfl (by kernel_rfl) (by kernel_rfl) (by kernel_rfl) hQL (by rfl) (fun w1 _ => (by go_simp)) hS ?_
              try simp only [Act.put, List.setIfInBounds_toArray, List.set_cons_zero, List.set_cons_succ]
              refine late_take (i := 1) (d := some 60) (v := .agg #[.string t.args[k].name, .slice xa t.args[k].args.length xc]) rfl rfl (by kernel_rfl) (by kernel_rfl) (by kernel_rfl) hQL (by rfl) (fun w1 hS1 => (by obtain ⟨hc, hf⟩ := bcellG hS1; go_simp)) hS ?_
              try simp only [Act.put, List.setIfInBounds_toArray, List.set_cons_zero, List.set_cons_succ]
              refine late_take (i := 2) (d := some 61) (v := .pointer (some ⟨(w.heap.size + 1), 1, none⟩)) rfl rfl (by kernel_rfl) (by kernel_rfl) (by kernel_rfl) hQL (by rfl) (fun w1 _ => (by go_simp)) hS ?_
              try simp only [Act.put, List.setIfInBounds_toArray, List.set_cons_zero, List.set_cons_succ]
              refine late_take (i := 3) (d := some 62) (v := .slice (some ⟨b', off', none⟩) u.args.length uc) rfl rfl (by kernel_rfl) (by kernel_rfl) (by kernel_rfl) hQL (by rfl) (fun w1 hS1 => (by obtain ⟨hc, hf⟩ := bcellG hS1; go_simp)) hS ?_
              try simp only [Act.put, List.setIfInBounds_toArray, List.set_cons_zero, List.set_cons_succ]
              refine late_take (i := 4) (d := some 63) (v := .int .i64 k) rfl rfl (by kernel_rfl) (by kernel_rfl) (by kernel_rfl) hQL (by rfl) (fun w1 _ => (by go_simp)) hS ?_
              try simp only [Act.put, List.setIfInBounds_toArray, List.set_cons_zero, List.set_cons_succ]
              refine late_take (i := 5) (d := some 64) (v := .pointer (some ⟨b', off' + k * 2, none⟩)) rfl rfl (by kernel_rfl) (by kernel_rfl) (by kernel_rfl) hQL (by rfl) (fun w1 _ => (by go_simp)) hS ?_
              try simp only [Act.put, List.setIfInBounds_toArray, List.set_cons_zero, List.set_cons_succ]
              refine late_take (i := 6) (d := some 65) (v := .agg #[.string u.args[k].name, .slice ya u.args[k].args.length yc]) rfl rfl (by kernel_rfl) (by kernel_rfl) (by kernel_rfl) hQL (by rfl) (fun w1 hS1 => (by obtain ⟨hc, hf⟩ := bcellG hS1; go_simp)) hS ?_
              try simp only [Act.put, List.setIfInBounds_toArray, List.set_cons_zero, List.set_cons_succ]
              refine wpAnyH_ready (rs := [7]) (by kernel_rfl) (by simp) ?_
              refine AllReadyH.cons rfl (fun K hK => ?_) AllReadyH.nil
              refine step_does rfl ?_
              unfold Does
              go_simp
              go_at_call 89
              refine HIH.out.mono ?_
              rintro e w1 ⟨rfl, hg1, hs1⟩
              refine ⟨_, rfl, ?_⟩
              refine hK.out _ _ (World.grownBy.trans hS hg1) (fun hS => ?_)
              try show wpAnyH _ _ _ _ _ _ _ (Act.put _ (some 66) _) _
              try simp only [Act.put, List.setIfInBounds_toArray, List.set_cons_zero, List.set_cons_succ]
              refine late_take (i := 8) (d := some 67) (v := .bool (!ob.isSome)) rfl rfl (by kernel_rfl) (by kernel_rfl) (by kernel_rfl) hQL (by rfl) (fun w1 _ => (by go_simp)) hS ?_
              try simp only [Act.put, List.setIfInBounds_toArray, List.set_cons_zero, List.set_cons_succ]
              refine wpAnyH_done (by kernel_rfl) ?_ _
              show wpTail _ _ _ _ _
              refine wpTail_nil ?_
              have HG2 := hid (grown_trans HGA.out hS (fun _ h => .inl h))
              have HS1 := hid hs1
              clear hg1 hs1 hS
              cases ob with
              | none =>
                have HNO : Hid (Tm.mat t u l = none) := HMT.out.trans (Tm.mats_none (k + 1) HST2.out)
                go_wp2_with fail
                go_ret
                exact ⟨by rw [HNO.out]; rfl, grown_trans (grown_of_below HW.out _) HG2.out (fun _ h => .inl h), fun l' h => by rw [HNO.out] at h; cases h⟩
              | some l2 =>
                obtain ⟨kv2, hm2, hk2⟩ := HS1.out l2 rfl
                have HM2 := hid hm2
                have HK2 := hid hk2
                have HO2 : Hid (Once l2) := HOA.out l2 rfl
                clear hm2 hk2
                go_wp2_with fail
                go_roundw
                case rel => exact ⟨k + 1, l2, kv2, by omega, by go_num, HST2, HM2, HK2, HO2, HG2⟩
                case measure => simp [intOf]; omega
            · obtain rfl : k = t.args.length := by omega
              have HY : Hid (Tm.mat t u l = some l1) := by have := HMK.out; rw [List.take_length] at this; exact HMT.out.trans this
              go_wp2_with fail
              go_ret
              refine ⟨by rw [HY.out]; rfl, grown_trans (grown_of_below HW.out _) HGR.out (fun _ h => .inl h), fun l' h => ?_⟩
              rw [HY.out] at h
              injection h with h
              subst h
              exact ⟨kv1, HMP.out, HKR.out⟩
        · have HMT : Hid (Tm.mat t u l = none) := Tm.mat_no l HN.out (fun h => hll h.2)
          have hqi : ((t.args.length : Int) != (u.args.length : Int)) = true := by simp; omega
          have hqj : ((t.args.length : Int) == (u.args.length : Int)) = false := by simp; omega
          clear hnn hll hz
          obtain ⟨rfl, tn, ta, tc, rfl⟩ := Tm.at_form ht
          obtain ⟨rfl, un, ua, uc, rfl⟩ := Tm.at_form hu
          have hW : Below w.heap.size w ((w.alloc (.cells #[.string t.name, .slice ta t.args.length tc] 56)).alloc (.cells #[.string u.name, .slice ua u.args.length uc] 56)) := ((Below.refl _ _).alloc (Nat.le_refl _) _).alloc (by simp) _
          have bt : Box ((w.alloc (.cells #[.string t.name, .slice ta t.args.length tc] 56)).alloc (.cells #[.string u.name, .slice ua u.args.length uc] 56)) (w.heap.size) [.string t.name, .slice ta t.args.length tc] := by
            have := ((Box.new w [.string t.name, .slice ta t.args.length tc] 56).alloc (.cells #[.string u.name, .slice ua u.args.length uc] 56))
            simpa only [World.size_alloc] using this
          have bu : Box ((w.alloc (.cells #[.string t.name, .slice ta t.args.length tc] 56)).alloc (.cells #[.string u.name, .slice ua u.args.length uc] 56)) (w.heap.size + 1) [.string u.name, .slice ua u.args.length uc] := by
            have := (Box.new (w.alloc (.cells #[.string t.name, .slice ta t.args.length tc] 56)) [.string u.name, .slice ua u.args.length uc] 56)
            simpa only [World.size_alloc] using this
          replace ht := Tm.at_keep (Keeps.all hW) ht
          replace hu := Tm.at_keep (Keeps.all hW) hu
          have et0 := bt.c0
          have et1 := bt.c1
          have lt := bt.lt
          have eu0 := bu.c0
          have eu1 := bu.c1
          have lu := bu.lt
          go_enter Tryz.func89, Tryz.ntmps89
          go_wp2_with fail
          clear et0 et1 lt eu0 eu1 lu
          have Hw0 : Hid (((w.alloc (.cells #[.string t.name, .slice ta t.args.length tc] 56)).alloc (.cells #[.string u.name, .slice ua u.args.length uc] 56)).heap.size = w.heap.size + 1 + 1) := by simp [Hid]
          generalize ((w.alloc (.cells #[.string t.name, .slice ta t.args.length tc] 56)).alloc (.cells #[.string u.name, .slice ua u.args.length uc] 56)) = w0 at *
          go_ret
          exact ⟨by rw [HMT.out]; rfl, grown_of_below hW _, fun l' h => by rw [HMT.out] at h; cases h⟩
      · have HMT : Hid (Tm.mat t u l = none) := Tm.mat_no l HN.out (fun h => hnn h.1)
        have hqn : (t.name.toList != u.name.toList) = true := by rw [bne, toList_ne hnn]; rfl
        have hq := toList_ne hnn
        clear hnn hz
        obtain ⟨rfl, tn, ta, tc, rfl⟩ := Tm.at_form ht
        obtain ⟨rfl, un, ua, uc, rfl⟩ := Tm.at_form hu
        have hW : Below w.heap.size w ((w.alloc (.cells #[.string t.name, .slice ta t.args.length tc] 56)).alloc (.cells #[.string u.name, .slice ua u.args.length uc] 56)) := ((Below.refl _ _).alloc (Nat.le_refl _) _).alloc (by simp) _
        have bt : Box ((w.alloc (.cells #[.string t.name, .slice ta t.args.length tc] 56)).alloc (.cells #[.string u.name, .slice ua u.args.length uc] 56)) (w.heap.size) [.string t.name, .slice ta t.args.length tc] := by
          have := ((Box.new w [.string t.name, .slice ta t.args.length tc] 56).alloc (.cells #[.string u.name, .slice ua u.args.length uc] 56))
          simpa only [World.size_alloc] using this
        have bu : Box ((w.alloc (.cells #[.string t.name, .slice ta t.args.length tc] 56)).alloc (.cells #[.string u.name, .slice ua u.args.length uc] 56)) (w.heap.size + 1) [.string u.name, .slice ua u.args.length uc] := by
          have := (Box.new (w.alloc (.cells #[.string t.name, .slice ta t.args.length tc] 56)) [.string u.name, .slice ua u.args.length uc] 56)
          simpa only [World.size_alloc] using this
        replace ht := Tm.at_keep (Keeps.all hW) ht
        replace hu := Tm.at_keep (Keeps.all hW) hu
        have et0 := bt.c0
        have et1 := bt.c1
        have lt := bt.lt
        have eu0 := bu.c0
        have eu1 := bu.c1
        have lu := bu.lt
        go_enter Tryz.func89, Tryz.ntmps89
        go_wp2_with fail
        clear et0 et1 lt eu0 eu1 lu
        have Hw0 : Hid (((w.alloc (.cells #[.string t.name, .slice ta t.args.length tc] 56)).alloc (.cells #[.string u.name, .slice ua u.args.length uc] 56)).heap.size = w.heap.size + 1 + 1) := by simp [Hid]
        generalize ((w.alloc (.cells #[.string t.name, .slice ta t.args.length tc] 56)).alloc (.cells #[.string u.name, .slice ua u.args.length uc] 56)) = w0 at *
        go_ret
        exact ⟨by rw [HMT.out]; rfl, grown_of_below hW _, fun l' h => by rw [HMT.out] at h; cases h⟩
theorem matI_any (t : Tm) : MatI t := Tm.ind (fun n ts h => matI_of (.node n ts) h) t
end Go.Proofs.YtglhbaigigdeeaaGreat
/- The order of strings: plain. -/
namespace Go.Proofs.YtglhbaigigdeeaaGreat
set_option maxRecDepth 100000
open Go.RowKit

theorem blt_eq : ∀ (x y : List UInt8), Op.bytesLess x y = decide (x < y)
  | [], [] => by simp [Op.bytesLess]
  | _ :: _, [] => by simp [Op.bytesLess]
  | [], _ :: _ => by simp [Op.bytesLess]
  | a :: x, b :: y => by
    rw [Op.bytesLess, blt_eq x y]
    simp only [List.cons_lt_cons_iff]
    by_cases h1 : a < b <;> by_cases h2 : a = b <;> by_cases h3 : x < y <;> simp [h1, h2, h3]
theorem blt_trans {x y z : List UInt8} (h : Op.bytesLess x y = true) (k : Op.bytesLess y z = true) : Op.bytesLess x z = true := by
  rw [blt_eq, decide_eq_true_iff] at *
  exact List.lt_trans h k
theorem strCmp_lt (a b : ByteArray) : strCmp a b < 0 ↔ Op.bytesLess a.toList b.toList = true := by
  unfold strCmp
  split
  · rename_i h; simp [h]
  · rename_i h
    split <;> simp [h]
theorem bl_ntrans {x y z : List UInt8} (h : Op.bytesLess x y = false) (k : Op.bytesLess y z = false) : Op.bytesLess x z = false := by
  rw [Bool.eq_false_iff]
  intro e
  have h1 := bl_ge h
  rw [Bool.or_eq_true] at h1
  rcases h1 with h1 | h1
  · rw [blt_trans h1 e] at k; cases k
  · rw [beq_iff_eq.1 h1, e] at k; cases k
end Go.Proofs.YtglhbaigigdeeaaGreat
