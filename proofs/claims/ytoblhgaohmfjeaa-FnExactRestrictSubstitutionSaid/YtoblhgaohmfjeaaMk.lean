/- Data that a call owns are marked: lists of ints, lists of strings. -/
import Derived.Test.YtoblhgaohmfjeaaOw
import Derived.Test.YtoblhgaohmfjeaaMt
import Derived.Test.YtoblhgaohmfjeaaIl
namespace Go.Proofs.Ytoblhgaohmfjeaa
set_option maxRecDepth 100000
open Go.RowKit

/-- only blocks of F are changed, and new ones laid -/
def Mk (F : List Nat) (w w' : World) : Prop := Keeps (· ∉ F) w w' ∧ ∀ B, B ≤ w.heap.size → (∀ x ∈ F, B ≤ x) → Below B w w'
theorem Mk.refl (F : List Nat) (w : World) : Mk F w w := ⟨Keeps.refl _ _, fun _ _ _ => Below.refl _ _⟩
theorem Mk.size {F : List Nat} {w w' : World} (h : Mk F w w') : w.heap.size ≤ w'.heap.size := h.1.size
theorem Mk.trans {F : List Nat} {a b c : World} (h : Mk F a b) (k : Mk F b c) : Mk F a c :=
  ⟨h.1.trans k.1, fun B hB hF => (h.2 B hB hF).trans (k.2 B (Nat.le_trans hB h.size) hF)⟩
theorem Mk.of_below {F : List Nat} {w w' : World} (h : Below w.heap.size w w') : Mk F w w' := ⟨Keeps.all h, fun _ hB _ => h.mono hB⟩
theorem Mk.mono {F G : List Nat} {w w' : World} (h : Mk F w w') (hs : ∀ x ∈ F, x ∈ G) : Mk G w w' := ⟨h.1.mono fun b hb q => hb (hs b q), fun B hB hG => h.2 B hB fun x hx => hG x (hs x hx)⟩
theorem Mk.set {F : List Nat} {w : World} {b p : Nat} (hb : b ∈ F) (u : Value) : Mk F w (w.setCell ⟨b, p, none⟩ u) :=
  ⟨(Keeps.refl _ _).setCell (fun q _ => q hb) _, fun _ _ hF => (Below.refl _ _).setCell (p := ⟨b, p, none⟩) (hF b hb) u⟩

def mixI (zs : List Int) (k : Nat) : Nat → List Int
  | 0 => zs
  | j + 1 => (mixI zs k j).set j ((k + j : Nat) : Int)
theorem mixI_length (zs : List Int) (k : Nat) : ∀ j, (mixI zs k j).length = zs.length
  | 0 => rfl
  | j + 1 => by rw [mixI, List.length_set, mixI_length zs k j]
theorem mixI_get (zs : List Int) (k : Nat) : ∀ j i (h : i < (mixI zs k j).length), i < j → (mixI zs k j)[i] = ((k + i : Nat) : Int)
  | 0, i, h, hi => absurd hi (by omega)
  | j + 1, i, h, hi => by
    simp only [mixI, List.getElem_set]
    split
    · rename_i e; subst e; rfl
    · exact mixI_get zs k j i (by simpa [mixI] using h) (by omega)
theorem flat_set_int (l : List Int) (j : Nat) (z : Int) : (l.flatMap intE).set j (.num z) = (l.set j z).flatMap intE := by
  have e : ∀ l : List Int, l.flatMap intE = l.map D.num := by intro l; induction l with
    | nil => rfl
    | cons x l ih => rw [List.flatMap_cons, ih]; rfl
  rw [e, e, List.map_set]

set_option maxHeartbeats 1000000 in
theorem markIntS_any (zs : List Int) (k : Nat) {v : Value} {F : List Nat} {w : World} (hk : k + zs.length ≤ 1099511627776) (h : D.own w v (slOf intE zs) F) :
    Calls Try.prog 13 #[v, .int .i64 k] w fun e w' => e = .returned (.int .i64 (k + zs.length : Nat)) ∧ Mk F w w' ∧ D.own w' v (slOf intE (mixI zs k zs.length)) F := by
  obtain ⟨a, cap, rfl, hlen, hcap⟩ := slOf_form (D.own_rd _ _ _ h)
  unfold big at hlen
  go_enter Try.func13, Try.ntmps13
  go_wp2_with fail
  go_loopw [1, 5] (fun x i wr => ∃ j : Nat, j ≤ zs.length ∧ i = .int .i64 j ∧ x = .int .i64 (k + j : Nat) ∧ Hid (D.own wr (.slice a zs.length cap) (slOf intE (mixI zs k j)) F) ∧ Mk F w wr) (fun _ i _ => zs.length - (intOf i).toNat)
  case atStart => exact ⟨0, Nat.zero_le _, rfl, rfl, h, Mk.refl _ _⟩
  case round =>
    obtain ⟨j, hj, rfl, rfl, HO, hm⟩ := hrel
    by_cases hlt : j < zs.length
    · have hl := mixI_length zs k j
      have hne : mixI zs k j ≠ [] := by intro e; rw [e] at hl; simp at hl; omega
      obtain ⟨-, b, off, F', rfl, rfl, hbF, hbl, hfr, -⟩ := D.own_slice (n := (mixI zs k j).length) HO.out (flat_ne intE_wide (by decide) hne)
      obtain ⟨b', off', e, -, -, hrr⟩ := ints_get (D.own_rd _ _ _ HO.out) hne
      obtain ⟨rfl, rfl⟩ : b = b' ∧ off = off' := by injection e with e; injection e with e1 e2; exact ⟨e1, e2⟩
      obtain ⟨x0, -⟩ := hrr j (by omega)
      have hf0 := hfr (off + j)
      have HN : Hid (D.own (wr.setCell ⟨b, off + j, none⟩ (.int .i64 (k + j : Nat))) (.slice (some ⟨b, off, none⟩) zs.length cap) (slOf intE (mixI zs k (j + 1))) (b :: F')) := by
        have h0 := HO.out
        rw [slOf, hl] at h0
        have h1 := D.own_store h0 (j := j) (u := .int .i64 (k + j : Nat)) (d' := .num ((k + j : Nat) : Int)) (by rw [flat_length intE_wide]; omega) (fun v G hv => ?_) (fun w' => D.own_num ⟨by omega, by omega⟩)
        · rw [Hid, slOf, mixI_length, mixI, ← flat_set_int]; exact h1
        · have hg : ((mixI zs k j).flatMap intE)[j]'(by rw [flat_length intE_wide]; omega) = .num (mixI zs k j)[j] := by
            have hg := flat_get intE_wide (mixI zs k j) j 0 (by omega) (by decide)
            rw [Nat.mul_one, Nat.add_zero, List.getElem?_eq_getElem (by rw [flat_length intE_wide]; omega)] at hg
            simpa [intE] using hg
          rw [hg, D.own] at hv
          exact hv.2.2.2
      have HM := hid (hm.trans (Mk.set (p := off + j) (List.mem_cons_self ..) (.int .i64 (k + j : Nat))))
      clear hrr hfr e
      go_wp2_with fail
      go_roundw
      case rel => exact ⟨j + 1, by omega, by go_num, by go_num, HN, HM.out⟩
      case measure => simp [intOf]; omega
    · obtain rfl : j = zs.length := by omega
      go_wp2_with fail
      go_ret
      exact ⟨rfl, hm, HO.out⟩


def mixS (zs : List ByteArray) (k : Nat) : Nat → List ByteArray
  | 0 => zs
  | j + 1 => (mixS zs k j).set j (bs (mtext (k + j)))
theorem mixS_length (zs : List ByteArray) (k : Nat) : ∀ j, (mixS zs k j).length = zs.length
  | 0 => rfl
  | j + 1 => by rw [mixS, List.length_set, mixS_length zs k j]
theorem mixS_get (zs : List ByteArray) (k : Nat) : ∀ j i (h : i < (mixS zs k j).length), i < j → (mixS zs k j)[i] = bs (mtext (k + i))
  | 0, i, h, hi => absurd hi (by omega)
  | j + 1, i, h, hi => by
    simp only [mixS, List.getElem_set]
    split
    · rename_i e; subst e; rfl
    · exact mixS_get zs k j i (by simpa [mixS] using h) (by omega)
theorem flat_set_str (l : List ByteArray) (j : Nat) (z : ByteArray) : (l.flatMap strE).set j (.str z) = (l.set j z).flatMap strE := by
  have e : ∀ l : List ByteArray, l.flatMap strE = l.map D.str := by intro l; induction l with
    | nil => rfl
    | cons x l ih => rw [List.flatMap_cons, ih]; rfl
  rw [e, e, List.map_set]

set_option maxHeartbeats 1000000 in
theorem markStrS_any (zs : List ByteArray) (k : Nat) {v : Value} {F : List Nat} {w : World} (hk : k + zs.length ≤ 1099511627776) (h : D.own w v (slOf strE zs) F) :
    Calls Try.prog 24 #[v, .int .i64 k] w fun e w' => e = .returned (.int .i64 (k + zs.length : Nat)) ∧ Mk F w w' ∧ D.own w' v (slOf strE (mixS zs k zs.length)) F := by
  obtain ⟨a, cap, rfl, hlen, hcap⟩ := slOf_form (D.own_rd _ _ _ h)
  unfold big at hlen
  go_enter Try.func24, Try.ntmps24
  go_wp2_with fail
  go_loopw [1, 5] (fun x i wr => ∃ j : Nat, j ≤ zs.length ∧ i = .int .i64 j ∧ x = .int .i64 (k + j : Nat) ∧ Hid (D.own wr (.slice a zs.length cap) (slOf strE (mixS zs k j)) F) ∧ Mk F w wr) (fun _ i _ => zs.length - (intOf i).toNat)
  case atStart => exact ⟨0, Nat.zero_le _, rfl, rfl, h, Mk.refl _ _⟩
  case round =>
    obtain ⟨j, hj, rfl, rfl, HO, hm⟩ := hrel
    by_cases hlt : j < zs.length
    · have hl := mixS_length zs k j
      have hne : mixS zs k j ≠ [] := by intro e; rw [e] at hl; simp at hl; omega
      obtain ⟨-, b, off, F', rfl, rfl, hbF, hbl, hfr, -⟩ := D.own_slice (n := (mixS zs k j).length) HO.out (flat_ne strE_wide (by decide) hne)
      have HMT := markText_any (k + j) (by omega) wr
      go_wp2_with fail
      refine HMT.mono ?_
      rintro e w1 ⟨_, rfl, hb1, rfl⟩
      have HO1 := hid (D.own_keep _ _ _ (Keeps.all hb1) HO.out)
      obtain ⟨b', off', e, -, -, hrr⟩ := strs_get (D.own_rd _ _ _ HO1.out) hne
      obtain ⟨rfl, rfl⟩ : b = b' ∧ off = off' := by injection e with e; injection e with e1 e2; exact ⟨e1, e2⟩
      obtain ⟨x0, -⟩ := hrr j (by omega)
      obtain ⟨-, _, _, _, e2, e3, -, -, hfr1, -⟩ := D.own_slice (n := (mixS zs k j).length) HO1.out (flat_ne strE_wide (by decide) hne)
      obtain ⟨rfl, rfl⟩ : _ = _ ∧ _ = _ := by injection e2 with e2; injection e2 with e1 e2; exact ⟨e1, e2⟩
      have hf0 := hfr1 (off + j)
      have HN : Hid (D.own (w1.setCell ⟨b, off + j, none⟩ (.string (bs (mtext (k + j))))) (.slice (some ⟨b, off, none⟩) zs.length cap) (slOf strE (mixS zs k (j + 1))) (b :: F')) := by
        have h0 := HO1.out
        rw [slOf, hl] at h0
        have h1 := D.own_store h0 (j := j) (u := .string (bs (mtext (k + j)))) (d' := .str (bs (mtext (k + j)))) (by rw [flat_length strE_wide]; omega) (fun v G hv => ?_) (fun w' => D.own_str (by rw [bs_size]; have := mtext_length (k + j); unfold maxLen; omega))
        · rw [Hid, slOf, mixS_length, mixS, ← flat_set_str]; exact h1
        · have hg : ((mixS zs k j).flatMap strE)[j]'(by rw [flat_length strE_wide]; omega) = .str (mixS zs k j)[j] := by
            have hg := flat_get strE_wide (mixS zs k j) j 0 (by omega) (by decide)
            rw [Nat.mul_one, Nat.add_zero, List.getElem?_eq_getElem (by rw [flat_length strE_wide]; omega)] at hg
            simpa [strE] using hg
          rw [hg, D.own] at hv
          exact hv.2.2
      have HM := hid ((hm.trans (Mk.of_below hb1)).trans (Mk.set (p := off + j) (List.mem_cons_self ..) (.string (bs (mtext (k + j))))))
      clear hrr hfr hfr1 e e2 e3 hb1 HMT
      go_wp2_with fail
      go_roundw
      case rel => exact ⟨j + 1, by omega, by go_num, by go_num, HN, HM.out⟩
      case measure => simp [intOf]; omega
    · obtain rfl : j = zs.length := by omega
      go_wp2_with fail
      go_ret
      exact ⟨rfl, hm, HO.out⟩

end Go.Proofs.Ytoblhgaohmfjeaa
