/- SplitString and JoinStrings are inverse. Plain. -/
import Derived.Test.YtgbfcaehijpgcaaDoorPp
import Derived.Test.YtgbfcaehijpgcaaDoorJt
import Derived.Test.YtgbfcaehijpgcaaDoorHb
namespace Go.Proofs.YtgbfcaehijpgcaaDoor
set_option maxRecDepth 100000
open Go Go.RowKit

theorem splitL_mem_no (c : UInt8) : ∀ (l : List UInt8), ∀ p ∈ splitL c l, ∀ b ∈ p, b ≠ c
  | [], p, hp, b, hb => by
    have : p = [] := by simpa [splitL] using hp
    subst this; cases hb
  | a :: l, p, hp, b, hb => by
    rw [splitL] at hp
    split at hp
    · rcases List.mem_cons.1 hp with rfl | q
      · cases hb
      · exact splitL_mem_no c l p q b hb
    · rename_i h
      have hne := splitL_ne c l
      cases e : splitL c l with
      | nil => exact absurd e hne
      | cons x xs =>
        rw [e] at hp
        simp only [List.headD_cons, List.tail_cons] at hp
        rcases List.mem_cons.1 hp with rfl | q
        · rcases List.mem_cons.1 hb with rfl | r
          · exact h
          · exact splitL_mem_no c l x (by rw [e]; simp) b r
        · exact splitL_mem_no c l p (by rw [e]; simp [q]) b hb
theorem joined_split (c : UInt8) (s : ByteArray) : joined (splitS c s) ⟨#[c]⟩ = s := by
  have he : lists (splitS c s) = splitL c s.data.toList := by
    rw [lists, splitS, List.map_map]
    exact List.map_id'' (fun l => by simp) _
  rw [joined, he]
  show (⟨(Lib.join (splitL c s.data.toList) [c]).toArray⟩ : ByteArray) = s
  rw [join_splitL]
theorem split_join {s q : ByteArray} (h : splOk s q = true) : joinOk (splR s q) q = true ∧ joinR (splR s q) q = s := by
  have h0 := h
  rw [splOk, Bool.and_eq_true, decide_eq_true_iff, decide_eq_true_iff] at h0
  have hq := one_head h0.2
  rw [splR, if_pos h]
  generalize q.data.toList.headD 0 = c at *
  subst hq
  have hj := joined_split c s
  have hne := splitS_ne c s
  have ho : joinOk (splitS c s) ⟨#[c]⟩ = true := by
    rw [joinOk, hj]
    have h1 : ((splitS c s).any (hasByte ((⟨#[c]⟩ : ByteArray).data.toList.headD 0))) = false := by
      rw [Bool.eq_false_iff]
      intro q
      rw [List.any_eq_true] at q
      obtain ⟨p, hp, hb⟩ := q
      obtain ⟨l, hl, rfl⟩ := List.mem_map.1 hp
      have hb' : (l.any (· == c)) = true := by
        have : hasByte c ⟨l.toArray⟩ = true := hb
        unfold hasByte at this
        simpa using this
      rw [List.any_eq_true] at hb'
      obtain ⟨x, hx, he⟩ := hb'
      exact splitL_mem_no c _ l hl x hx (beq_iff_eq.1 he)
    rw [h1]
    have h2 : (splitS c s).length ≠ 0 := fun e => hne (List.length_eq_zero_iff.1 e)
    simp [h0.1, h2]
    exact h0.2
  exact ⟨ho, by rw [joinR, if_pos ho, hj]⟩
theorem blt_asymm : ∀ (x y : List UInt8), Op.bytesLess x y = true → Op.bytesLess y x = false
  | [], [], h => by simp [Op.bytesLess] at h
  | [], _ :: _, _ => by simp [Op.bytesLess]
  | _ :: _, [], h => by simp [Op.bytesLess] at h
  | a :: x, b :: y, h => by
    rw [Op.bytesLess] at h ⊢
    have ih := blt_asymm x y
    by_cases h1 : a < b
    · have h2 : ¬ b < a := fun h2 => by rw [UInt8.lt_iff_toNat_lt] at h1 h2; omega
      have h3 : ¬ b = a := fun e => by rw [e, UInt8.lt_iff_toNat_lt] at h1; omega
      simp [h2, h3]
    · by_cases h3 : a = b
      · subst h3
        simp [h1] at h ⊢
        exact ih h
      · simp [h1, h3] at h
end Go.Proofs.YtgbfcaehijpgcaaDoor
