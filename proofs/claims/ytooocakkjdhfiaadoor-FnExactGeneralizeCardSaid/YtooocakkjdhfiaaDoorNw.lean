/- Numbers and their texts: the reference's and the program's. -/
import Derived.Test.YtooocakkjdhfiaaDoorLd
import Derived.Test.YtooocakkjdhfiaaDoorNu
import Derived.Test.YtooocakkjdhfiaaDoorWi
import Derived.Test.YtooocakkjdhfiaaDoorReg
import Derived.Test.YtooocakkjdhfiaaDoorShelf
import Derived.WalkSpells
import Derived.WalkLawsBesides
import Derived.Laws.Concat
namespace Go.Proofs.YtooocakkjdhfiaaDoor
set_option maxRecDepth 100000
open Go Go.RowKit

def itoaB (n : Int) : ByteArray := ⟨(Lib.itoa n).toArray⟩
def decB (u : Nat) : ByteArray := ⟨(Lib.decDigits u).toArray⟩
theorem decB_small {u : Nat} (h : u < 10) : decB u = ⟨#[UInt8.ofNat (48 + u)]⟩ := by rw [decB, Lib.decDigits, dif_pos h]
theorem decB_big {u : Nat} (h : ¬ u < 10) : decB u = decB (u / 10) ++ ⟨#[UInt8.ofNat (48 + u % 10)]⟩ := by
  rw [decB, Lib.decDigits, dif_neg h, decB, ByteArray.mk_append_mk]
theorem decB_size {u k : Nat} (h : u < 10 ^ (k + 1)) : (decB u).size ≤ k + 1 := by
  show (Lib.decDigits u).toArray.size ≤ _
  rw [List.size_toArray, Lib.decDigits_length]; exact nDigits_le k u h
theorem digit_piece : ∀ d : Nat, d < 10 → (⟨#[48, 49, 50, 51, 52, 53, 54, 55, 56, 57]⟩ : ByteArray).extract d (d + 1) = ⟨#[UInt8.ofNat (48 + d)]⟩ := by decide +kernel
def NumIs (u : Nat) : Prop := ∀ w : World, Calls Tryd.prog 24 #[.int .i64 (u : Int)] w (Gives w (.string (decB u)))
set_option maxHeartbeats 1000000 in
theorem l1Num_nat (u : Nat) (hu : u ≤ 999999) : NumIs u := by
  induction u using Nat.strongRecOn with
  | _ u ih =>
    intro w
    have h0 : ¬ (u : Int) < 0 := by omega
    by_cases h : u < 10
    · have HE : Hid ((⟨#[48, 49, 50, 51, 52, 53, 54, 55, 56, 57]⟩ : ByteArray).extract u (u + 1) = decB u) := by rw [Hid, digit_piece u h, decB_small h]
      have h1 : (u : Int) < 10 := by omega
      go_enter Tryd.func24, Tryd.ntmps24
      go_wp2_with fail
      go_ret
      exact Gives.mk (by rw [← HE.out]; rfl) (Below.refl _ _)
    · obtain ⟨d, Hd⟩ : ∃ d, Hid (u % 10 = d) := ⟨_, hid rfl⟩
      obtain ⟨q, Hq⟩ : ∃ q, Hid (u / 10 = q) := ⟨_, hid rfl⟩
      have hd10 : d < 10 := by have := Hd.out; omega
      have HE : Hid (decB u = decB q ++ (⟨#[48, 49, 50, 51, 52, 53, 54, 55, 56, 57]⟩ : ByteArray).extract d (d + 1)) := by rw [Hid, digit_piece _ hd10, ← Hd.out, ← Hq.out]; exact decB_big h
      have h1 : ¬ (u : Int) < 10 := by omega
      have hz := decB_size (u := q) (k := 5) (by have := Hq.out; omega)
      have hq := ih q (by have := Hq.out; omega) (by have := Hq.out; omega)
      have hr : ((u : Int)).tmod 10 = (d : Int) := by rw [Int.tmod_eq_emod_of_nonneg (by omega)]; have := Hd.out; omega
      have g1 : (d : Int) + 1 ≤ 10 := by omega
      have g0 : (0 : Int) ≤ (d : Int) + 1 := by omega
      have g2 : (d : Int) ≤ (d : Int) + 1 := by omega
      have g3 : ((d : Int) + 1).toNat = d + 1 := by omega
      have g4 : ¬ 9223372036854775807 < (decB q).size + (min (d + 1) 10 - d) := by omega
      go_enter Tryd.func24, Tryd.ntmps24
      go_wp2_with fail
      refine wp_region_B [fun v _ => v = .int .i64 u, fun v _ => v = .int .i64 q, fun v _ => v = .string (decB q), fun v _ => v = .int .i64 u, fun v _ => v = .int .i64 d, fun v _ => v = .int .i64 u, fun v _ => v = .int .i64 d, fun v _ => v = .int .i64 (d + 1), fun v _ => v = .string ((⟨#[48, 49, 50, 51, 52, 53, 54, 55, 56, 57]⟩ : ByteArray).extract d (d + 1)), fun v _ => v = .string (decB u), fun v _ => v = .string (decB u)] _ (fun V => by simp [putAll, Act.put]; rfl) (by kernel_rfl) (by decide) (by simp) (by kernel_rfl) ?_ ?_ ?_
      · intro F hF
        simp only [List.mem_cons, List.not_mem_nil, or_false] at hF
        rcases hF with rfl | rfl | rfl | rfl | rfl | rfl | rfl | rfl | rfl | rfl | rfl
        · exact stable_eq
        · exact stable_eq
        · exact stable_eq
        · exact stable_eq
        · exact stable_eq
        · exact stable_eq
        · exact stable_eq
        · exact stable_eq
        · exact stable_eq
        · exact stable_eq
        · exact stable_eq
      · refine ⟨?_, ?_, ?_, ?_, ?_, ?_, ?_, ?_, ?_, ?_, ?_, trivial⟩
        · intro V w1 hbR _
          unfold Does
          go_simp
          exact ⟨Below.refl _ _, rfl⟩
        · intro V w1 hbR ⟨f0, _⟩
          replace f0 : V 0 = .int .i64 u := f0
          unfold Does
          go_simp
          exact ⟨Below.refl _ _, by have := Hq.out; congr 1; rw [IntKind.wrap_i64]; omega⟩
        · intro V w1 hbR ⟨f1, _⟩
          replace f1 : V 1 = .int .i64 q := f1
          obtain ⟨hc, hf⟩ := bcell hbR
          try simp only [World.size_alloc, World.size_setCell] at hc hf
          unfold Does
          go_simp
          exact hq _
        · intro V w1 hbR _
          unfold Does
          go_simp
          exact ⟨Below.refl _ _, rfl⟩
        · intro V w1 hbR ⟨f3, _⟩
          replace f3 : V 3 = .int .i64 u := f3
          unfold Does
          go_simp
          exact ⟨Below.refl _ _, by first | rfl | rw [hr]⟩
        · intro V w1 hbR _
          unfold Does
          go_simp
          exact ⟨Below.refl _ _, rfl⟩
        · intro V w1 hbR ⟨f5, _⟩
          replace f5 : V 5 = .int .i64 u := f5
          unfold Does
          go_simp
          exact ⟨Below.refl _ _, by first | rfl | rw [hr]⟩
        · intro V w1 hbR ⟨f6, _⟩
          replace f6 : V 6 = .int .i64 d := f6
          unfold Does
          go_simp
          exact ⟨Below.refl _ _, by congr 1; rw [IntKind.wrap_i64]; omega⟩
        · intro V w1 hbR ⟨f4, f7, _⟩
          replace f4 : V 4 = .int .i64 d := f4
          replace f7 : V 7 = .int .i64 (d + 1) := f7
          unfold Does
          go_simp
          exact ⟨Below.refl _ _, rfl⟩
        · intro V w1 hbR ⟨f2, f8, _⟩
          replace f2 : V 2 = .string (decB q) := f2
          replace f8 : V 8 = .string ((⟨#[48, 49, 50, 51, 52, 53, 54, 55, 56, 57]⟩ : ByteArray).extract d (d + 1)) := f8
          unfold Does
          go_simp
          exact ⟨Below.refl _ _, by rw [HE.out]⟩
        · intro V w1 hbR ⟨f9, f2, f0, f1, _, f3, f4, f5, f6, f7, f8, _, _⟩
          replace f0 : V 0 = .int .i64 u := f0
          replace f1 : V 1 = .int .i64 q := f1
          replace f2 : V 2 = .string (decB q) := f2
          replace f3 : V 3 = .int .i64 u := f3
          replace f4 : V 4 = .int .i64 d := f4
          replace f5 : V 5 = .int .i64 u := f5
          replace f6 : V 6 = .int .i64 d := f6
          replace f7 : V 7 = .int .i64 (d + 1) := f7
          replace f8 : V 8 = .string ((⟨#[48, 49, 50, 51, 52, 53, 54, 55, 56, 57]⟩ : ByteArray).extract d (d + 1)) := f8
          replace f9 : V 9 = .string (decB u) := f9
          unfold Does
          go_simp
          exact ⟨Below.refl _ _, rfl⟩
      intro V w1 hbR hfR
      obtain ⟨f0, f1, f2, f3, f4, f5, f6, f7, f8, f9, f10, _⟩ := hfR
      replace f0 : V 0 = .int .i64 u := f0
      replace f1 : V 1 = .int .i64 q := f1
      replace f2 : V 2 = .string (decB q) := f2
      replace f3 : V 3 = .int .i64 u := f3
      replace f4 : V 4 = .int .i64 d := f4
      replace f5 : V 5 = .int .i64 u := f5
      replace f6 : V 6 = .int .i64 d := f6
      replace f7 : V 7 = .int .i64 (d + 1) := f7
      replace f8 : V 8 = .string ((⟨#[48, 49, 50, 51, 52, 53, 54, 55, 56, 57]⟩ : ByteArray).extract d (d + 1)) := f8
      replace f9 : V 9 = .string (decB u) := f9
      replace f10 : V 10 = .string (decB u) := f10
      simp only [f0, f1, f2, f3, f4, f5, f6, f7, f8, f9, f10]
      clear f0 f1 f2 f3 f4 f5 f6 f7 f8 f9 f10
      go_wp2_with fail
      go_ret
      exact Gives.mk rfl hbR
theorem itoaB_nat (u : Nat) : itoaB (u : Int) = decB u := by unfold itoaB decB; rw [Lib.itoa_nonneg]
theorem itoaB_neg {n : Int} (h : n < 0) : itoaB n = ⟨#[45]⟩ ++ decB n.natAbs := by
  unfold itoaB decB
  rw [ByteArray.mk_append_mk, Lib.itoa, if_pos h]
  simp
theorem itoaB_size {n : Int} (h0 : -999999 ≤ n) (h1 : n ≤ 999999) : 1 ≤ (itoaB n).size ∧ (itoaB n).size ≤ 7 := by
  have := itoa_len h0 h1
  show 1 ≤ (Lib.itoa n).toArray.size ∧ (Lib.itoa n).toArray.size ≤ 7
  rw [List.size_toArray]; exact this
set_option maxHeartbeats 1000000 in
theorem l1Num_any (n : Int) (h0 : -999999 ≤ n) (h1 : n ≤ 999999) (w : World) : Calls Tryd.prog 24 #[.int .i64 n] w (Gives w (.string (itoaB n))) := by
  by_cases h : n < 0
  · have HE := hid (itoaB_neg h)
    have hz := decB_size (u := n.natAbs) (k := 5) (by omega)
    have hq := l1Num_nat n.natAbs (by omega)
    have g4 : ¬ 9223372036854775807 < 1 + (decB n.natAbs).size := by omega
    have hw : IntKind.i64.wrap (-n) = (n.natAbs : Int) := by rw [IntKind.wrap_i64]; omega
    go_enter Tryd.func24, Tryd.ntmps24
    go_wp2_with fail
    refine (hq _).mono ?_
    rintro e w1 ⟨_, rfl, hb, rfl⟩
    go_wp2_with fail
    go_ret
    exact Gives.mk (by rw [HE.out]; rfl) hb
  · obtain ⟨u, rfl⟩ : ∃ u : Nat, n = u := ⟨n.toNat, by omega⟩
    rw [itoaB_nat]
    exact l1Num_nat u (by omega) w

/-- FormatInt -/
def fmtOk (n : Int) : Bool := inB n (-999999) 999999
def fmtR (n : Int) : ByteArray := if fmtOk n = true then itoaB n else ByteArray.empty
theorem fmtOk_in {n : Int} (h : fmtOk n = true) : -999999 ≤ n ∧ n ≤ 999999 := by simpa [fmtOk, inB] using h
theorem grow_below {w : World} {k : Nat} {os : Array Obj} : Below w.heap.size w (Sort.grow (w.drewN k) os) :=
  ⟨rfl, rfl, rfl, by show w.heap.size ≤ (w.heap ++ os).size; simp, fun i hi => by show (w.heap ++ os)[i]? = _; exact Array.getElem?_append_left hi⟩
theorem itoa_any {n : Int} (h0 : -999999 ≤ n) (h1 : n ≤ 999999) {w : World} (hT : TabF w) : Calls Tryd.prog 31 #[.int .i64 n] w (Gives w (.string (itoaB n))) :=
  (Tryd.strconv_Itoa n (by omega) (by omega) w hT).mono fun _ _ ⟨he, _, _, hw⟩ => by
    subst hw
    exact Gives.mk he grow_below
end Go.Proofs.YtooocakkjdhfiaaDoor
