/- Variables have no arguments. -/
import Derived.Test.YtglhbaigigdeeaaDoorTv
namespace Go.Proofs.YtglhbaigigdeeaaDoor
set_option maxRecDepth 100000

mutual
/-- variables have no arguments -/
def Tm.leafy : Tm → Prop
  | .node n ts => (varName n = true → ts = []) ∧ Tm.leafies ts
def Tm.leafies : List Tm → Prop
  | [] => True
  | t :: ts => Tm.leafy t ∧ Tm.leafies ts
end
theorem Tm.leafies_iff (ts : List Tm) : Tm.leafies ts ↔ ∀ t ∈ ts, t.leafy := by
  induction ts with
  | nil => simp [Tm.leafies]
  | cons t ts ih => simp [Tm.leafies, ih]
theorem Tm.names_leafy (t : Tm) : t.names = true → t.leafy := by
  refine Tm.ind (P := fun t => t.names = true → t.leafy) (fun n ts ih h => ?_) t
  rw [Tm.names] at h
  rw [Tm.leafy, Tm.leafies_iff]
  split at h
  · have : ts = [] := by simpa using h
    subst this
    exact ⟨fun _ => rfl, by simp⟩
  · rename_i hv
    simp only [Bool.and_eq_true] at h
    exact ⟨fun h => absurd h hv, fun a ha => ih a ha ((Tm.namesAll_iff ts).1 h.2 a ha)⟩
theorem Tm.atom_leafy {t : Tm} (h : t.atom = true) : t.leafy := by
  cases t with
  | node n ts =>
    rw [Tm.atom] at h
    by_cases he : n = eqSign
    · subst he
      rw [if_pos rfl] at h
      simp only [Bool.and_eq_true] at h
      rw [Tm.leafy, Tm.leafies_iff]
      exact ⟨fun q => (by rw [show varName eqSign = false by decide +kernel] at q; cases q), fun a ha => Tm.names_leafy a ((Tm.namesAll_iff ts).1 h.2 a ha)⟩
    · rw [if_neg he, Bool.and_eq_true, Tm.valid, Bool.and_eq_true] at h
      exact Tm.names_leafy _ h.2.2
theorem Tm.expr_leafy {t : Tm} (h : t.expr = true) : t.leafy := by
  rw [Tm.expr, Bool.or_eq_true] at h
  rcases h with h | h
  · rw [Tm.valid, Bool.and_eq_true] at h
    exact Tm.names_leafy t h.2
  · exact Tm.atom_leafy h
end Go.Proofs.YtglhbaigigdeeaaDoor
