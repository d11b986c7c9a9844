/- The order of strings, plain. -/
import GoSem.Op.String
namespace Go.Proofs.YtooocakkjdhfiaaDoor
set_option maxRecDepth 100000

theorem u8_lt_irrefl (a : UInt8) : ¬ a < a := by rw [UInt8.lt_iff_toNat_lt]; omega
theorem u8_tri {a b : UInt8} (h : ¬ a < b) (h' : ¬ b < a) : a = b := by rw [UInt8.lt_iff_toNat_lt] at h h'; exact UInt8.toNat_inj.1 (by omega)
theorem u8_asymm {a b : UInt8} (h : a < b) : ¬ b < a := by rw [UInt8.lt_iff_toNat_lt] at h ⊢; omega

/-- one of two strings is less, or they are one -/
theorem bl_tri : ∀ x y : List UInt8, Op.bytesLess x y = !(Op.bytesLess y x || y == x)
  | [], [] => by simp [Op.bytesLess]
  | [], b :: y => by simp [Op.bytesLess]
  | a :: x, [] => by simp [Op.bytesLess]
  | a :: x, b :: y => by
    have ih := bl_tri x y
    by_cases h : a < b
    · have h2 := u8_asymm h
      have h3 : a ≠ b := fun e => u8_lt_irrefl b (e ▸ h)
      simp [Op.bytesLess, h, h2, h3.symm]
    · by_cases h2 : b < a
      · have h3 : a ≠ b := fun e => u8_lt_irrefl b (e ▸ h2)
        simp [Op.bytesLess, h, h2, h3]
      · have h3 := u8_tri h h2
        subst h3
        simp [Op.bytesLess, h, ih]
theorem bl_irrefl (x : List UInt8) : Op.bytesLess x x = false := by
  have := bl_tri x x
  simpa using this
/-- less in one sense: not less, nor the same, in the other -/
theorem bl_lt {x y : List UInt8} (h : Op.bytesLess x y = true) : Op.bytesLess y x = false ∧ (y == x) = false := by
  have := bl_tri x y
  rw [h] at this
  simpa using this.symm
theorem bl_ge {x y : List UInt8} (h : Op.bytesLess x y = false) : (Op.bytesLess y x || y == x) = true := by
  have := bl_tri x y
  rw [h] at this
  cases h1 : Op.bytesLess y x || y == x
  · rw [h1] at this; exact absurd this (by simp)
  · rfl
end Go.Proofs.YtooocakkjdhfiaaDoor
