/- A part of data that is owned is put anew. -/
import Derived.Test.YtooocakkjdhfiaaDoorD
namespace Go.Proofs.YtooocakkjdhfiaaDoor
set_option maxRecDepth 100000
open Go.RowKit

theorem D.owns_upd {w : World} {b : Nat} : ∀ (cs : List D) (off : Nat) (F : List Nat), D.owns w b off cs F → ∀ j (hj : j < cs.length), ∃ Fj A B, F = A ++ Fj ++ B ∧
    (∃ v, w.cell? ⟨b, off + j, none⟩ = some v ∧ D.own w v cs[j] Fj) ∧ (∀ x ∈ Fj, x ∉ A ∧ x ∉ B) ∧
    ∀ (w' : World) (d' : D), (∃ v', w'.cell? ⟨b, off + j, none⟩ = some v' ∧ D.own w' v' d' Fj) → (∀ i, i < cs.length → i ≠ j → w'.cell? ⟨b, off + i, none⟩ = w.cell? ⟨b, off + i, none⟩) →
      Keeps (fun x => x ∈ A ∨ x ∈ B) w w' → D.owns w' b off (cs.set j d') F
  | [], _, _, _, j, hj => absurd hj (by simp)
  | c :: cs, off, F, h, 0, _ => by
    rw [D.owns] at h
    obtain ⟨F1, F2, rfl, hd, hv, hr⟩ := h
    refine ⟨F1, [], F2, by simp, by simpa using hv, fun x hx => ⟨by simp, hd x hx⟩, fun w' d' hv' hc hk => ?_⟩
    rw [List.set_cons_zero, D.owns]
    refine ⟨F1, F2, rfl, hd, by simpa using hv', D.owns_keep cs (off + 1) F2 (fun i hi => ?_) (hk.mono fun x hx => .inr hx) hr⟩
    have := hc (i + 1) (by simpa using hi) (by omega)
    rw [show off + (i + 1) = off + 1 + i by omega] at this
    exact this
  | c :: cs, off, F, h, j + 1, hj => by
    rw [D.owns] at h
    obtain ⟨F1, F2, rfl, hd, hv, hr⟩ := h
    obtain ⟨Fj, A, B, rfl, hvj, hdj, hup⟩ := D.owns_upd cs (off + 1) F2 hr j (by simpa using hj)
    refine ⟨Fj, F1 ++ A, B, by simp [List.append_assoc], ?_, fun x hx => ⟨?_, (hdj x hx).2⟩, fun w' d' hv' hc hk => ?_⟩
    · rw [show off + (j + 1) = off + 1 + j by omega]; simpa using hvj
    · simp only [List.mem_append, not_or]
      exact ⟨fun q => hd x q (by simp [hx]), (hdj x hx).1⟩
    · rw [List.set_cons_succ, D.owns]
      obtain ⟨v, q0, q1⟩ := hv
      refine ⟨F1, A ++ Fj ++ B, rfl, hd, ⟨v, ?_, D.own_keep _ _ _ (hk.mono fun x hx => .inl (by simp [show x ∈ F1 from hx])) q1⟩, hup w' d' ?_ (fun i hi hij => ?_) (hk.mono fun x hx => ?_)⟩
      · exact (hc 0 (by simp) (by omega)).trans q0
      · rw [show off + (j + 1) = off + 1 + j by omega] at hv'; exact hv'
      · have := hc (i + 1) (by simpa using hi) (by omega)
        rw [show off + (i + 1) = off + 1 + i by omega] at this
        exact this
      · rcases hx with q | q
        · exact .inl (by simp [q])
        · exact .inr q

theorem D.own_slice {w : World} {a : Option Addr} {n m cap : Nat} {cs : List D} {F : List Nat} (h : D.own w (.slice a m cap) (.sl n cs) F) (hne : cs ≠ []) : m = n ∧ ∃ b off F', a = some ⟨b, off, none⟩ ∧ F = b :: F' ∧ b ∉ F' ∧ b < w.heap.size ∧ (∀ p, w.frozen? ⟨b, p, none⟩ = false) ∧ D.owns w b off cs F' := by
  rw [D.own] at h
  obtain ⟨a', cap', e, h1, h2, h3, h4⟩ := h
  injection e with e0 e1 e2
  subst e0 e1 e2
  rcases h4 with ⟨h4, _⟩ | ⟨_, b, off, F', cur, e, q0, q1, rfl, q3, q4⟩
  · exact absurd h4 hne
  · exact ⟨rfl, b, off, F', q0, rfl, q3, lt_of_heap q1, fun p => by simp [World.frozen?, q1], q4⟩

/-- a leaf is stored -/
theorem D.own_store {w : World} {b off n cap : Nat} {cs : List D} {F : List Nat} (h : D.own w (.slice (some ⟨b, off, none⟩) n cap) (.sl n cs) F) {j : Nat} (hj : j < cs.length) {u : Value} {d' : D}
    (hl : ∀ v G, D.own w v cs[j] G → G = []) (hu : ∀ w', D.own w' u d' []) : D.own (w.setCell ⟨b, off + j, none⟩ u) (.slice (some ⟨b, off, none⟩) n cap) (.sl n (cs.set j d')) F := by
  rw [D.own] at h ⊢
  obtain ⟨a', cap', e, h1, h2, h3, h4⟩ := h
  injection e with e0 e1 e2
  subst e2
  have hne : cs ≠ [] := by intro e; subst e; simp at hj
  refine ⟨_, _, rfl, h1, h2, fun _ => by intro e; exact hne (by simpa using e), ?_⟩
  rcases h4 with ⟨h4, _⟩ | ⟨_, b', off', F', cur, e, q0, q1, rfl, q3, q4⟩
  · exact absurd h4 hne
  rw [← e0] at q0
  injection q0 with q0
  injection q0 with q5 q6
  subst q5 q6
  refine .inr ⟨by intro e; exact hne (by simpa using e), b, off, F', _, _, rfl, heap_setCell q1 u, rfl, q3, ?_⟩
  obtain ⟨Fj, A, B, rfl, ⟨v, r0, r1⟩, hdj, hup⟩ := D.owns_upd cs off F' q4 j hj
  have hF := hl v Fj r1
  subst hF
  refine hup _ d' ⟨u, ?_, hu _⟩ (fun i hi hij => ?_) ?_
  · exact World.cell?_setCell_same (u := v) _ _ _ r0
  · exact World.cell?_setCell_other _ _ _ _ (by intro e; injection e with _ e; omega)
  · refine (Keeps.refl _ _).setCell (fun q _ => q3 ?_) _
    have q : b ∈ A ∨ b ∈ B := q
    simpa using q

/-- a part of its own is put anew -/
theorem D.own_sub {w : World} {b off n cap : Nat} {cs : List D} {F : List Nat} (h : D.own w (.slice (some ⟨b, off, none⟩) n cap) (.sl n cs) F) {j : Nat} (hj : j < cs.length) :
    ∃ Fj v, w.cell? ⟨b, off + j, none⟩ = some v ∧ D.own w v cs[j] Fj ∧ (∀ x ∈ Fj, x ∈ F) ∧ b ∉ Fj ∧
      ∀ (w' : World) (d' : D), D.own w' v d' Fj → Keeps (· ∉ Fj) w w' → D.own w' (.slice (some ⟨b, off, none⟩) n cap) (.sl n (cs.set j d')) F := by
  rw [D.own] at h
  obtain ⟨a', cap', e, h1, h2, h3, h4⟩ := h
  injection e with e0 e1 e2
  subst e2
  have hne : cs ≠ [] := by intro e; subst e; simp at hj
  rcases h4 with ⟨h4, _⟩ | ⟨_, b', off', F', cur, e, q0, q1, rfl, q3, q4⟩
  · exact absurd h4 hne
  rw [← e0] at q0
  injection q0 with q0
  injection q0 with q5 q6
  subst q5 q6
  obtain ⟨Fj, A, B, rfl, ⟨v, r0, r1⟩, hdj, hup⟩ := D.owns_upd cs off F' q4 j hj
  have hbj : b ∉ Fj := fun q => q3 (by simp [q])
  refine ⟨Fj, v, r0, r1, fun x hx => by simp [hx], hbj, fun w' d' hv' hk => ?_⟩
  have hb := lt_of_heap q1
  rw [D.own]
  refine ⟨_, _, rfl, h1, h2, fun _ => by intro e; exact hne (by simpa using e), .inr ⟨by intro e; exact hne (by simpa using e), b, off, _, cur, _, rfl, (hk.block b hbj hb).trans q1, rfl, q3, hup w' d' ⟨v, (hk.cell hbj hb).trans r0, hv'⟩ (fun i _ _ => hk.cell hbj hb) (hk.mono fun x hx => ?_)⟩⟩
  intro hxj
  have := hdj x hxj
  rcases hx with q | q
  · exact this.1 q
  · exact this.2 q
end Go.Proofs.YtooocakkjdhfiaaDoor
