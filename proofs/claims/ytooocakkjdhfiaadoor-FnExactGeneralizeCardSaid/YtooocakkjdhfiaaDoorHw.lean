/- What a law that marks its arguments and its results carries along. -/
import Derived.Test.YtooocakkjdhfiaaDoorMk
import Derived.Test.YtooocakkjdhfiaaDoorTp
namespace Go.Proofs.YtooocakkjdhfiaaDoor
set_option maxRecDepth 100000
open Go.RowKit

theorem D.rd_lt {S : Nat → Prop} {w : World} : ∀ (d : D) (v : Value), D.rd S w v d → D.rd (· < w.heap.size) w v d := by
  refine D.ind (fun s v h => by rw [D.rd] at h ⊢; exact h) (fun n v h => by rw [D.rd] at h ⊢; exact h) (fun b v h => by rw [D.rd] at h ⊢; exact h) (fun n cs ih v h => ?_)
  rw [D.rd] at h ⊢
  obtain ⟨a, cap, h0, h1, h2, h3, h4⟩ := h
  refine ⟨a, cap, h0, h1, h2, h3, fun hne => ?_⟩
  obtain ⟨b, off, q0, q1, q2, q3⟩ := h4 hne
  refine ⟨b, off, q0, q2, q2, (D.rds_iff _ _).2 fun i hi => ?_⟩
  obtain ⟨v, r0, r1⟩ := (D.rds_iff _ _).1 q3 i hi
  exact ⟨v, r0, ih _ (List.getElem_mem hi) _ r1⟩
theorem D.rd_all {S : Nat → Prop} {w : World} {d : D} {v : Value} (h : D.rd S w v d) : D.rd (fun _ => True) w v d := D.rd_mono (fun _ _ => trivial) _ _ h
theorem Mk.lt {F : List Nat} {w w' : World} {U : Nat} (h : Mk F w w') (hF : ∀ x ∈ F, U ≤ x) : Keeps (· < U) w w' := h.1.mono fun b hb q => by have := hF b q; omega
theorem Mk.apart {F G : List Nat} {w w' : World} (h : Mk F w w') (hd : ∀ x ∈ G, x ∉ F) : Keeps (· ∈ G) w w' := h.1.mono hd
theorem Box.marked {w w' : World} {b : Nat} {cs : List Value} {F : List Nat} (h : Box w b cs) (hm : Mk F w w') (hb : b ∉ F) : Box w' b cs :=
  ⟨Nat.lt_of_lt_of_le h.lt hm.size, fun i hi => (hm.1.cell hb h.lt).trans (h.cell i hi)⟩

/-- a result that the call owns, and a bool -/
def OutD (mk : Value → Value) (d : D) (ok : Bool) (w : World) (e : Ending) (w' : World) : Prop := ∃ v F, e = .returned (.tuple #[mk v, .bool ok]) ∧ D.own w' v d F ∧ (∀ x ∈ F, w.heap.size ≤ x) ∧ Below w.heap.size w w'
/-- a result that reads, and a bool -/
def RdD (mk : Value → Value) (d : D) (ok : Bool) (w : World) (e : Ending) (w' : World) : Prop := ∃ v, e = .returned (.tuple #[mk v, .bool ok]) ∧ D.rd (fun _ => True) w' v d ∧ Below w.heap.size w w'
theorem OutD.rd {mk : Value → Value} {d : D} {ok : Bool} {w : World} {e : Ending} {w' : World} (h : OutD mk d ok w e w') : RdD mk d ok w e w' := by
  obtain ⟨v, F, he, ho, _, hb⟩ := h
  exact ⟨v, he, D.rd_all (D.own_rd _ _ _ ho), hb⟩
theorem Tm.at_lt {S : Nat → Prop} {w : World} {c0 c1 : Value} {t : Tm} (h : Tm.at S w c0 c1 t) : Tm.at (· < w.heap.size) w c0 c1 t := ⟨D.rd_lt _ _ h.1, D.rd_lt _ _ h.2⟩
theorem Tm.at_all {S : Nat → Prop} {w : World} {c0 c1 : Value} {t : Tm} (h : Tm.at S w c0 c1 t) : Tm.at (fun _ => True) w c0 c1 t := ⟨D.rd_all h.1, D.rd_all h.2⟩
theorem Tm.at_of {w : World} {t : Tm} {v : Value} {F : List Nat} (hn : t.name.size ≤ maxLen) (h : D.own w v (Tm.sd t.args) F) : Tm.at (fun _ => True) w (.string t.name) v t := ⟨D.rd_str hn, D.rd_all (D.own_rd _ _ _ h)⟩
theorem Tm.sizes_le_bulk (t : Tm) : Tm.sizes t.args ≤ t.bulk := by
  have h := Tm.size_bulk t
  have : t.size = 1 + Tm.sizes t.args := by cases t; rw [Tm.size]; rfl
  omega
theorem Tm.name_le {t : Tm} (h : t.bulk ≤ 1048576) : t.name.size ≤ maxLen := by
  cases t
  rw [Tm.bulk] at h
  unfold maxLen
  show _ ≤ 9223372036854775807
  simp only [Tm.name]
  omega
/-- the value reads as the datum -/
def RdV (d : D) (v : Value) (w : World) : Prop := D.rd (fun _ => True) w v d
def IsTup (P : Value → World → Prop) (ok : Bool) (v : Value) (w : World) : Prop := ∃ v', v = .tuple #[v', .bool ok] ∧ P v' w
theorem RdV.stable {d : D} {w : World} : ∀ v w1 w2, Below w.heap.size w w1 → Below w1.heap.size w1 w2 → RdV d v w1 → RdV d v w2 := fun _ _ _ _ hb h => D.rd_keep (Keeps.all hb) _ _ h
theorem IsTup.stable {d : D} {ok : Bool} {w : World} : ∀ v w1 w2, Below w.heap.size w w1 → Below w1.heap.size w1 w2 → IsTup (RdV d) ok v w1 → IsTup (RdV d) ok v w2 :=
  fun _ _ _ h hb ⟨v', e, g⟩ => ⟨v', e, RdV.stable _ _ _ h hb g⟩
theorem RdD.yields {d : D} {ok : Bool} {w : World} {e : Ending} {w' : World} (h : RdD id d ok w e w') : After (Both (fun a b => Below a.heap.size a b) (IsTup (RdV d) ok) w) e w' := by
  obtain ⟨v, rfl, hr, hb⟩ := h
  exact ⟨_, rfl, hb, v, rfl, hr⟩
/-- a result of which the call owns the memory, as far as reading tells, and a bool -/
def RdN (mk : Value → Value) (d : D) (ok : Bool) (w : World) (e : Ending) (w' : World) : Prop := ∃ v, e = .returned (.tuple #[mk v, .bool ok]) ∧ D.rd (fun x => w.heap.size ≤ x) w' v d ∧ Below w.heap.size w w'
def noTm : Tm := .node ByteArray.empty []
theorem noTm_at {S : Nat → Prop} {w : World} : Tm.at S w (.string ByteArray.empty) (.slice .none 0 0) noTm := by
  refine ⟨D.rd_str (by decide), ?_⟩
  rw [noTm, Tm.args, Tm.sd, D.rd]
  exact ⟨_, _, rfl, by simp, by simp, by simp, by simp [Tm.css]⟩
/-- a term that the call owns, and a bool -/
def OutT (t : Tm) (ok : Bool) (w : World) (e : Ending) (w' : World) : Prop := ∃ v F, e = .returned (.tuple #[.agg #[.string t.name, v], .bool ok]) ∧ D.own w' v (Tm.sd t.args) F ∧ (∀ x ∈ F, w.heap.size ≤ x) ∧ Below w.heap.size w w'
/-- a term that reads, and a bool -/
def RdT (t : Tm) (ok : Bool) (w : World) (e : Ending) (w' : World) : Prop := ∃ v, e = .returned (.tuple #[.agg #[.string t.name, v], .bool ok]) ∧ Tm.at (fun _ => True) w' (.string t.name) v t ∧ Below w.heap.size w w'
theorem noTm_own {w : World} : D.own w (.slice none 0 0) (Tm.sd noTm.args) [] := D.own_nil _ _
end Go.Proofs.YtooocakkjdhfiaaDoor
