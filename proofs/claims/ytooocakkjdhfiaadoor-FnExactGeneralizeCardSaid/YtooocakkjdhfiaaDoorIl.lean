/- Lists of ints: how a law measures, copies and compares them. -/
import Derived.Test.YtooocakkjdhfiaaDoorSs
import Derived.OpenShut
namespace Go.Proofs.YtooocakkjdhfiaaDoor
set_option maxRecDepth 100000
open Go.RowKit Go.ChangeShapes Go.WideShapes

def intE (z : Int) : List D := [.num z]
theorem intE_wide : Wide intE 1 := fun _ => rfl
def IsI64 (z : Int) : Prop := -9223372036854775808 ≤ z ∧ z ≤ 9223372036854775807
theorem D.own_num {w : World} {z : Int} (h : IsI64 z) : D.own w (.int .i64 z) (.num z) [] := by rw [D.own]; exact ⟨rfl, h.1, h.2, rfl⟩
theorem D.rd_num {S : Nat → Prop} {w : World} {z : Int} (h : IsI64 z) : D.rd S w (.int .i64 z) (.num z) := by rw [D.rd]; exact ⟨rfl, h.1, h.2⟩
theorem ints_get {S : Nat → Prop} {w : World} {a : Option Addr} {n cap : Nat} {ss : List Int} (h : D.rd S w (.slice a n cap) (slOf intE ss)) (hne : ss ≠ []) : ∃ b off, a = some ⟨b, off, none⟩ ∧ S b ∧ b < w.heap.size ∧
    ∀ k (hk : k < ss.length), w.cell? ⟨b, off + k, none⟩ = some (.int .i64 ss[k]) ∧ IsI64 ss[k] := by
  obtain ⟨b, off, h0, h1, h2, h3⟩ := slOf_get intE_wide (by decide) h hne
  refine ⟨b, off, h0, h1, h2, fun k hk => ?_⟩
  obtain ⟨v, q0, q1⟩ := h3 k hk 0 (.num ss[k]) rfl
  rw [D.rd] at q1
  obtain ⟨rfl, q2⟩ := q1
  rw [Nat.mul_one, Nat.add_zero] at q0
  exact ⟨q0, q2⟩


def MadeInt (ss : List Int) (w : World) (e : Ending) (w' : World) : Prop := ∃ v F, e = .returned v ∧ D.own w' v (slOf intE ss) F ∧ (∀ x ∈ F, w.heap.size ≤ x) ∧ Below w.heap.size w w'
theorem infoIntS : (Tryd.prog.info? 3).map (fun i => (i.zero, i.size, i.bytes)) = some (some (.int .i64 0), 1, 8) := by kernel_rfl
theorem intE_take (ss : List Int) (k : Nat) (hk : k < ss.length) : (ss.take (k + 1)).flatMap intE = (ss.take k).flatMap intE ++ [.num ss[k]] := flat_take_succ ss k hk


/-- the value reads as the list -/
def IsIS (ss : List Int) (v : Value) (w : World) : Prop := D.rd (fun _ => True) w v (slOf intE ss)
theorem IsIS.form {ss : List Int} {v : Value} {w : World} (h : IsIS ss v w) : ∃ a cap, v = .slice a ss.length cap ∧ D.rd (fun _ => True) w (.slice a ss.length cap) (slOf intE ss) := by
  obtain ⟨a, cap, rfl, _, _⟩ := slOf_form h
  exact ⟨a, cap, rfl, h⟩
theorem IsIS.stable {ss : List Int} {w : World} : ∀ v w1 w2, Below w.heap.size w w1 → Below w1.heap.size w1 w2 → IsIS ss v w1 → IsIS ss v w2 :=
  fun _ _ _ _ hb h => D.rd_keep (Keeps.all hb) _ _ h

theorem cellsInt1 : Tryd.prog.cellsOf 3 = 1 := by kernel_rfl
section
variable {H : Type} {enc' : TypeId × Value → H} {w : World}
theorem read_int : ∀ (fuel : Nat) (cs : List Value) (x : DataW H × List MemPlace), DataW.trod enc' Tryd.prog w 0 (fun _ => true) true fuel 3 cs = some x → ∃ z : Int, CellsRd (fun _ => True) w cs (intE z) := by
  intro fuel cs x h
  obtain ⟨z, hz, -, hw⟩ := DataW.trod_int Tryd.underlying3 h
  subst hz
  exact ⟨z, D.rd_num (bounds_i64 hw), trivial⟩
end
end Go.Proofs.YtooocakkjdhfiaaDoor
