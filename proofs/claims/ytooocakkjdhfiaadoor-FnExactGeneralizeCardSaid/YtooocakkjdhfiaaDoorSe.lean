/- Lists of strings as data. -/
import Derived.Test.YtooocakkjdhfiaaDoorBr
import Derived.Test.YtooocakkjdhfiaaDoorD
namespace Go.Proofs.YtooocakkjdhfiaaDoor
set_option maxRecDepth 100000
open Go.RowKit

/-- a string's cell -/
def strE (s : ByteArray) : List D := [.str s]
theorem strE_wide : Wide strE 1 := fun _ => rfl
theorem strs_get {S : Nat → Prop} {w : World} {a : Option Addr} {n cap : Nat} {ss : List ByteArray} (h : D.rd S w (.slice a n cap) (slOf strE ss)) (hne : ss ≠ []) : ∃ b off, a = some ⟨b, off, none⟩ ∧ S b ∧ b < w.heap.size ∧
    ∀ k (hk : k < ss.length), w.cell? ⟨b, off + k, none⟩ = some (.string ss[k]) ∧ ss[k].size ≤ maxLen := by
  obtain ⟨b, off, h0, h1, h2, h3⟩ := slOf_get strE_wide (by decide) h hne
  refine ⟨b, off, h0, h1, h2, fun k hk => ?_⟩
  obtain ⟨v, q0, q1⟩ := h3 k hk 0 (.str ss[k]) rfl
  rw [D.rd] at q1
  obtain ⟨rfl, q2⟩ := q1
  rw [Nat.mul_one, Nat.add_zero] at q0
  exact ⟨q0, q2⟩
theorem slOf_strs {S : Nat → Prop} {w : World} {b : Nat} {ss : List ByteArray} (hS : S b) (hb : b < w.heap.size) (hl : ss.length ≤ big) (h : ∀ i (hi : i < ss.length), w.cell? ⟨b, i, none⟩ = some (.string ss[i]) ∧ ss[i].size ≤ maxLen) {cap : Nat} (hc : ss.length ≤ cap) :
    D.rd S w (.slice (some ⟨b, 0, none⟩) ss.length cap) (slOf strE ss) := by
  rw [slOf, D.rd]
  refine ⟨_, _, rfl, hl, hc, fun hn => flat_ne strE_wide (by decide) (by intro e; subst e; simp at hn), fun hne => ⟨b, 0, rfl, hS, hb, (D.rds_iff _ _).2 fun i hi => ?_⟩⟩
  have hil : i < ss.length := by rw [flat_length strE_wide] at hi; omega
  obtain ⟨q0, q1⟩ := h i hil
  have hg := flat_get strE_wide ss i 0 hil (by decide)
  rw [Nat.mul_one, Nat.add_zero, List.getElem?_eq_getElem hi] at hg
  have : (ss.flatMap strE)[i] = .str ss[i] := by simpa [strE] using hg
  rw [this, Nat.zero_add]
  exact ⟨_, q0, D.rd_str q1⟩
end Go.Proofs.YtooocakkjdhfiaaDoor
