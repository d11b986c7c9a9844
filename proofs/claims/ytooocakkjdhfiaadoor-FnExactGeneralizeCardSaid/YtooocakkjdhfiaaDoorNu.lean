/- Numbers and their texts. Plain. -/
import Derived.Test.YtooocakkjdhfiaaDoorD
import Derived.Lib.ItoaMem
import Derived.Lib.AtoiTie
import Derived.Lib.AtoiAllCases
namespace Go.Proofs.YtooocakkjdhfiaaDoor
set_option maxRecDepth 100000
open Go

/-- all bytes of a numeral are digits -/
theorem decDigits_mem (u : Nat) : ∀ b ∈ Lib.decDigits u, 48 ≤ b.toNat ∧ b.toNat ≤ 57 := by
  induction u using Nat.strongRecOn with
  | _ u ih =>
    intro b hb
    rw [Lib.decDigits] at hb
    split at hb
    · rename_i h
      rw [List.mem_singleton] at hb
      subst hb
      rw [UInt8.toNat_ofNat']
      omega
    · rename_i h
      rcases List.mem_append.1 hb with q | q
      · exact ih (u / 10) (by omega) b q
      · rw [List.mem_singleton] at q
        subst q
        rw [UInt8.toNat_ofNat']
        omega
theorem decDigits_ne (u : Nat) : Lib.decDigits u ≠ [] := by
  rw [Lib.decDigits]
  split <;> simp
theorem digitVal_of {b : UInt8} (h : 48 ≤ b.toNat ∧ b.toNat ≤ 57) : Lib.digitVal b = some (b.toNat - 48) := by rw [Lib.digitVal, if_pos h]
theorem decFrom_snoc : ∀ (l : List UInt8) (a n : Nat) (b : UInt8), Lib.decFrom a l = some n → (48 ≤ b.toNat ∧ b.toNat ≤ 57) → Lib.decFrom a (l ++ [b]) = some (n * 10 + (b.toNat - 48))
  | [], a, n, b, h, hb => by
    rw [Lib.decFrom] at h; injection h with h; subst h
    rw [List.nil_append, Lib.decFrom, digitVal_of hb]
    simp [Lib.decFrom]
  | c :: l, a, n, b, h, hb => by
    rw [Lib.decFrom] at h
    rw [List.cons_append, Lib.decFrom]
    split at h
    · exact decFrom_snoc l _ n b h hb
    · cases h
theorem decFrom_bad : ∀ (l : List UInt8) (a : Nat), (∃ b ∈ l, ¬ (48 ≤ b.toNat ∧ b.toNat ≤ 57)) → Lib.decFrom a l = none
  | [], a, h => by obtain ⟨b, hb, _⟩ := h; cases hb
  | c :: l, a, h => by
    rw [Lib.decFrom]
    by_cases hc : 48 ≤ c.toNat ∧ c.toNat ≤ 57
    · rw [digitVal_of hc]
      obtain ⟨b, hb, hn⟩ := h
      rcases List.mem_cons.1 hb with rfl | q
      · exact absurd hc hn
      · exact decFrom_bad l _ ⟨b, q, hn⟩
    · rw [Lib.digitVal, if_neg hc]
theorem decFrom_digits : ∀ (l : List UInt8) (a n : Nat), Lib.decFrom a l = some n → ∀ b ∈ l, 48 ≤ b.toNat ∧ b.toNat ≤ 57 := by
  intro l a n h b hb
  refine Classical.byContradiction fun hn => ?_
  rw [decFrom_bad l a ⟨b, hb, hn⟩] at h
  cases h
theorem decFrom_decDigits (u : Nat) : Lib.decFrom 0 (Lib.decDigits u) = some u := by
  induction u using Nat.strongRecOn with
  | _ u ih =>
    rw [Lib.decDigits]
    split
    · rename_i h
      have hb : 48 ≤ (UInt8.ofNat (48 + u)).toNat ∧ (UInt8.ofNat (48 + u)).toNat ≤ 57 := by rw [UInt8.toNat_ofNat']; omega
      rw [Lib.decFrom, digitVal_of hb, UInt8.toNat_ofNat']
      simp only [Lib.decFrom]
      congr 1; omega
    · rename_i h
      have hb : 48 ≤ (UInt8.ofNat (48 + u % 10)).toNat ∧ (UInt8.ofNat (48 + u % 10)).toNat ≤ 57 := by rw [UInt8.toNat_ofNat']; omega
      rw [decFrom_snoc _ _ _ _ (ih (u / 10) (by omega)) hb, UInt8.toNat_ofNat']
      congr 1; omega
theorem decFrom_lt : ∀ (l : List UInt8) (a n : Nat), Lib.decFrom a l = some n → n < (a + 1) * 10 ^ l.length
  | [], a, n, h => by rw [Lib.decFrom] at h; injection h with h; subst h; simp
  | c :: l, a, n, h => by
    rw [Lib.decFrom] at h
    split at h
    · rename_i d hd
      have h1 := decFrom_lt l _ n h
      rw [Lib.digitVal] at hd
      split at hd
      · injection hd with hd
        have h2 : a * 10 + d + 1 ≤ (a + 1) * 10 := by omega
        have h3 : (a * 10 + d + 1) * 10 ^ l.length ≤ (a + 1) * 10 * 10 ^ l.length := Nat.mul_le_mul_right _ h2
        rw [List.length_cons, Nat.pow_succ, Nat.mul_comm (10 ^ l.length) 10, ← Nat.mul_assoc]
        omega
      · cases hd
    · cases h
theorem nDigits_le : ∀ (k u : Nat), u < 10 ^ (k + 1) → Lib.nDigits u ≤ k + 1
  | 0, u, h => by rw [Lib.nDigits_small (by simpa using h)]; omega
  | k + 1, u, h => by
    by_cases hu : u < 10
    · rw [Lib.nDigits_small hu]; omega
    · rw [Lib.nDigits_big hu]
      have := nDigits_le k (u / 10) (by rw [Nat.div_lt_iff_lt_mul (by decide)]; rw [Nat.pow_succ] at h; exact h)
      omega
theorem decDigits_len {u : Nat} (h : u ≤ 999999) : 1 ≤ (Lib.decDigits u).length ∧ (Lib.decDigits u).length ≤ 6 := by
  refine ⟨List.length_pos_iff.2 (decDigits_ne u), ?_⟩
  rw [Lib.decDigits_length]
  exact nDigits_le 5 u (by omega)
theorem itoa_len {n : Int} (h0 : -999999 ≤ n) (h1 : n ≤ 999999) : 1 ≤ (Lib.itoa n).length ∧ (Lib.itoa n).length ≤ 7 := by
  unfold Lib.itoa
  split
  · have := decDigits_len (u := n.natAbs) (by omega)
    simp only [List.length_cons]; omega
  · have := decDigits_len (u := n.toNat) (by omega)
    omega
theorem byte_ne {b c : UInt8} (h : b.toNat ≠ c.toNat) : (b == c) = false := by
  rw [beq_eq_false_iff_ne]; intro e; subst e; exact h rfl
theorem atoi_itoa (n : Int) : Lib.atoi (Lib.itoa n) = some n := by
  unfold Lib.itoa
  split
  · rename_i h
    rw [Lib.atoi, if_pos (by rfl), Lib.decNat, if_neg (by simp [decDigits_ne]), decFrom_decDigits]
    simp; omega
  · rename_i h
    have hd := decDigits_mem n.toNat
    have hv := decFrom_decDigits n.toNat
    cases e : Lib.decDigits n.toNat with
    | nil => exact absurd e (decDigits_ne _)
    | cons b r =>
      rw [e] at hd hv
      have hb := hd b (by simp)
      rw [Lib.atoi, if_neg (by rw [byte_ne (by show b.toNat ≠ 45; omega)]; simp), if_neg (by rw [byte_ne (by show b.toNat ≠ 43; omega)]; simp), Lib.decNat, if_neg (by simp), hv]
      simp; omega
theorem atoiAll_itoa {n : Int} (h0 : -999999 ≤ n) (h1 : n ≤ 999999) : Lib.atoiAll (Lib.itoa n) = .ok n := by
  have := (itoa_len h0 h1).2
  rw [Lib.atoiAll_short _ (by omega), atoi_itoa]
  rfl

/-- what stands behind the sign -/
def unsigned : List UInt8 → List UInt8
  | 45 :: b :: r => b :: r
  | l => l
theorem unsigned_cases (l : List UInt8) : (∃ b r, l = 45 :: b :: r ∧ unsigned l = b :: r) ∨ (unsigned l = l ∧ ¬ (1 < l.length ∧ l.head? = some 45)) := by
  unfold unsigned
  split
  · exact .inl ⟨_, _, rfl, rfl⟩
  · rename_i hl
    refine .inr ⟨rfl, fun ⟨h1, h2⟩ => ?_⟩
    cases l with
    | nil => simp at h1
    | cons a r =>
      cases r with
      | nil => simp at h1
      | cons b r =>
        have : a = 45 := by simpa using h2
        subst this
        exact hl b r rfl
/-- the number, with its text's sign -/
def signedBy (l : List UInt8) (u : Nat) : Int := if (unsigned l).length < l.length then -(u : Int) else u
/-- the number of a text -/
def numOf (l : List UInt8) : Option Int :=
  if 1 ≤ (unsigned l).length ∧ (unsigned l).length ≤ 6 then
    match Lib.decFrom 0 (unsigned l) with
    | some u => if Lib.itoa (signedBy l u) = l then some (signedBy l u) else none
    | none => none
  else none
theorem numOf_iff (l : List UInt8) (n : Int) : numOf l = some n ↔ Lib.itoa n = l ∧ -999999 ≤ n ∧ n ≤ 999999 := by
  constructor
  · intro h
    unfold numOf at h
    split at h
    · rename_i hl
      split at h
      · rename_i u hu
        split at h
        · rename_i hi
          injection h with h
          rw [h] at hi
          have hlt := decFrom_lt _ _ _ hu
          have h10 : 10 ^ (unsigned l).length ≤ 10 ^ 6 := Nat.pow_le_pow_right (by decide) hl.2
          rw [signedBy] at h
          refine ⟨hi, ?_, ?_⟩ <;> (split at h <;> omega)
        · cases h
      · cases h
    · cases h
  · rintro ⟨rfl, h0, h1⟩
    by_cases hn : n < 0
    · have e : Lib.itoa n = 45 :: Lib.decDigits n.natAbs := by unfold Lib.itoa; rw [if_pos hn]
      have hu : unsigned (Lib.itoa n) = Lib.decDigits n.natAbs := by
        rw [e]
        cases e2 : Lib.decDigits n.natAbs with
        | nil => exact absurd e2 (decDigits_ne _)
        | cons b r => rfl
      have hl := decDigits_len (u := n.natAbs) (by omega)
      unfold numOf
      rw [hu, if_pos hl, decFrom_decDigits]
      have hlt : (Lib.decDigits n.natAbs).length < (Lib.itoa n).length := by rw [e]; simp
      simp only [signedBy, hu, if_pos hlt]
      rw [show -((n.natAbs : Nat) : Int) = n by omega, if_pos rfl]
    · have e : Lib.itoa n = Lib.decDigits n.toNat := by unfold Lib.itoa; rw [if_neg hn]
      have hl := decDigits_len (u := n.toNat) (by omega)
      have hu : unsigned (Lib.itoa n) = Lib.decDigits n.toNat := by
        rcases unsigned_cases (Lib.itoa n) with ⟨b, r, h, _⟩ | ⟨h, _⟩
        · have := decDigits_mem n.toNat 45 (by rw [← e, h]; simp)
          exact absurd this.1 (by decide)
        · rw [h, e]
      unfold numOf
      rw [hu, if_pos hl, decFrom_decDigits]
      have hlt : ¬ (Lib.decDigits n.toNat).length < (Lib.itoa n).length := by rw [e]; omega
      simp only [signedBy, hu, if_neg hlt]
      rw [show ((n.toNat : Nat) : Int) = n by omega, if_pos rfl]
theorem numOf_none {l : List UInt8} (h : ∀ n, -999999 ≤ n → n ≤ 999999 → Lib.itoa n ≠ l) : numOf l = none := by
  cases e : numOf l with
  | none => rfl
  | some n =>
    obtain ⟨h1, h2, h3⟩ := (numOf_iff l n).1 e
    exact absurd h1 (h n h2 h3)
end Go.Proofs.YtooocakkjdhfiaaDoor
