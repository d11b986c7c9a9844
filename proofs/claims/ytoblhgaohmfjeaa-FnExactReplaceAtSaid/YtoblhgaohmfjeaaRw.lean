/- A part of owned data is replaced by other owned data. -/
import Derived.Test.YtoblhgaohmfjeaaM3
import Derived.Test.YtoblhgaohmfjeaaCo
import Derived.Test.YtoblhgaohmfjeaaSo
import Derived.Test.YtoblhgaohmfjeaaSa
namespace Go.Proofs.Ytoblhgaohmfjeaa
set_option maxRecDepth 100000
open Go.RowKit

theorem D.owns_swap {w : World} {b : Nat} : ∀ (cs : List D) (off : Nat) (F : List Nat), D.owns w b off cs F → ∀ j (_ : j < cs.length), ∃ Fj A B, F = A ++ Fj ++ B ∧ (∀ x ∈ A, x ∉ B) ∧
    ∀ (w' : World) (d' : D) (G : List Nat), (∃ v', w'.cell? ⟨b, off + j, none⟩ = some v' ∧ D.own w' v' d' G) → (∀ i, i < cs.length → i ≠ j → w'.cell? ⟨b, off + i, none⟩ = w.cell? ⟨b, off + i, none⟩) →
      Keeps (fun x => x ∈ A ∨ x ∈ B) w w' → (∀ x ∈ G, x ∉ A ∧ x ∉ B) → D.owns w' b off (cs.set j d') (A ++ G ++ B)
  | [], _, _, _, j, hj => absurd hj (by simp)
  | c :: cs, off, F, h, 0, _ => by
    rw [D.owns] at h
    obtain ⟨F1, F2, rfl, hd, hv, hr⟩ := h
    refine ⟨F1, [], F2, by simp, by simp, fun w' d' G hv' hc hk hG => ?_⟩
    rw [List.set_cons_zero, D.owns]
    refine ⟨G, F2, by simp, fun x hx => (hG x hx).2, by simpa using hv', D.owns_keep cs (off + 1) F2 (fun i hi => ?_) (hk.mono fun x hx => .inr hx) hr⟩
    have := hc (i + 1) (by simpa using hi) (by omega)
    rw [show off + (i + 1) = off + 1 + i by omega] at this
    exact this
  | c :: cs, off, F, h, j + 1, hj => by
    rw [D.owns] at h
    obtain ⟨F1, F2, rfl, hd, hv, hr⟩ := h
    obtain ⟨Fj, A, B, rfl, hAB, hup⟩ := D.owns_swap cs (off + 1) F2 hr j (by simpa using hj)
    refine ⟨Fj, F1 ++ A, B, by simp [List.append_assoc], fun x hx => ?_, fun w' d' G hv' hc hk hG => ?_⟩
    · rcases List.mem_append.1 hx with q | q
      · exact fun r => hd x q (by simp [r])
      · exact hAB x q
    · rw [List.set_cons_succ, D.owns]
      obtain ⟨v, q0, q1⟩ := hv
      refine ⟨F1, A ++ G ++ B, by simp [List.append_assoc], fun x hx r => ?_, ⟨v, ?_, D.own_keep _ _ _ (hk.mono fun x hx => .inl (by simp [show x ∈ F1 from hx])) q1⟩, hup w' d' G ?_ (fun i hi hij => ?_) (hk.mono fun x hx => ?_) (fun x hx => ?_)⟩
      · simp only [List.mem_append] at r
        rcases r with (r | r) | r
        · exact hd x hx (by simp [r])
        · exact (hG x r).1 (by simp [hx])
        · exact hd x hx (by simp [r])
      · exact (hc 0 (by simp) (by omega)).trans q0
      · rw [show off + (j + 1) = off + 1 + j by omega] at hv'; exact hv'
      · have := hc (i + 1) (by simpa using hi) (by omega)
        rw [show off + (i + 1) = off + 1 + i by omega] at this
        exact this
      · rcases hx with q | q
        · exact .inl (by simp [q])
        · exact .inr q
      · exact ⟨fun q => (hG x hx).1 (by simp [q]), (hG x hx).2⟩
/-- an item of a list of terms is replaced by an owned one -/
theorem own_term_set {w : World} {b off n cap j : Nat} {ts : List Tm} {F G : List Nat} {u : Tm} {v : Value} (h : D.own w (.slice (some ⟨b, off, none⟩) n cap) (.sl n (Tm.css ts)) F) (hj : j < ts.length) (hu : D.own w v (Tm.sd u.args) G) (hn : u.name.size ≤ maxLen) (hG : ∀ x ∈ G, x ∉ F) :
    ∃ F', D.own ((w.setCell ⟨b, off + j * 2, none⟩ (.string u.name)).setCell ⟨b, off + j * 2 + 1, none⟩ v) (.slice (some ⟨b, off, none⟩) n cap) (.sl n (Tm.css (ts.set j u))) F' ∧ ∀ x ∈ F', x ∈ F ∨ x ∈ G := by
  have hl := Tm.css_len ts
  have hp := D.own_store h (j := j * 2) (u := .string u.name) (d' := .str u.name) (by omega) (fun v G hv => by rw [Tm.css_get0 _ _ hj, D.own] at hv; exact hv.2.2) (fun w' => D.own_str hn)
  rw [Tm.css_set0 _ _ _ hj] at hp
  have hl2 := Tm.css_len (ts.set j (.node u.name ts[j].args))
  rw [List.length_set] at hl2
  obtain ⟨-, b', off', F', e, rfl, hbF, hbl, -, hos⟩ := D.own_slice hp (by intro e; rw [e] at hl2; simp at hl2; omega)
  injection e with e; injection e with e1 e2; subst e1 e2
  obtain ⟨Fj, A, B, rfl, hAB, hup⟩ := D.owns_swap _ _ _ hos (j * 2 + 1) (by omega)
  have hbG : b ∉ G := fun q => hG b q (by simp)
  obtain ⟨⟨u1, x1⟩, f1⟩ := own_cell hp (i := j * 2 + 1) (by omega)
  rw [← Nat.add_assoc] at x1
  have hcell : ((w.setCell ⟨b, off + j * 2, none⟩ (.string u.name)).setCell ⟨b, off + j * 2 + 1, none⟩ v).cell? ⟨b, off + (j * 2 + 1), none⟩ = some v := by rw [← Nat.add_assoc]; exact World.cell?_setCell_same _ _ _ x1
  have hk : ∀ L : List Nat, b ∉ L → Keeps (· ∈ L) w ((w.setCell ⟨b, off + j * 2, none⟩ (.string u.name)).setCell ⟨b, off + j * 2 + 1, none⟩ v) := fun L hL => ((Keeps.refl _ _).setCell (fun q _ => hL q) _).setCell (fun q _ => hL q) _
  have hw := hup _ (Tm.sd u.args) G ⟨v, hcell, D.own_keep _ _ _ (hk G hbG) hu⟩ (fun i hi hij => World.cell?_setCell_other _ _ _ _ (by intro e; injection e with _ e; omega)) ((Keeps.refl _ _).setCell (fun q _ => hbF (by rcases q with q | q <;> simp [show b ∈ _ from q])) _) (fun x hx => ⟨fun q => hG x hx (by simp [q]), fun q => hG x hx (by simp [q])⟩)
  rw [Tm.css_set1 _ _ _ (by rw [List.length_set]; exact hj), List.getElem_set_self, List.set_set] at hw
  rw [show Tm.node (Tm.node u.name ts[j].args).name u.args = u from by cases u; rfl] at hw
  rw [D.own] at hp
  obtain ⟨a0, c0, e0, h1, h2, h3, h4⟩ := hp
  injection e0 with e01 _ e02
  subst e02
  have hne : Tm.css (ts.set j u) ≠ [] := by intro e; have := Tm.css_len (ts.set j u); rw [e, List.length_set] at this; simp at this; omega
  rcases h4 with ⟨h4, _⟩ | ⟨_, b2, off2, F2, cur, ty, q0, q1, q2, q3, q4⟩
  · rw [h4] at hl2; simp at hl2; omega
  · rw [← e01] at q0
    injection q0 with q0; injection q0 with q5 q6
    subst q5 q6
    refine ⟨b :: (A ++ G ++ B), ?_, fun x hx => ?_⟩
    · rw [D.own]
      refine ⟨_, _, rfl, h1, h2, fun _ => hne, .inr ⟨hne, b, off, _, _, ty, rfl, heap_setCell q1 v, rfl, ?_, hw⟩⟩
      intro q
      simp only [List.mem_append] at q
      rcases q with (q | q) | q
      · exact hbF (by simp [q])
      · exact hbG q
      · exact hbF (by simp [q])
    · rcases List.mem_cons.1 hx with rfl | hx
      · exact .inl (by simp)
      · simp only [List.mem_append] at hx
        rcases hx with (q | q) | q
        · exact .inl (by simp [q])
        · exact .inr q
        · exact .inl (by simp [q])
/-- two cells of one block are stored: all else stays -/
theorem set2_keep {w : World} {b o o' : Nat} {u u' : Value} : (∀ (b' p : Nat), b' ≠ b → ((w.setCell ⟨b, o, none⟩ u).setCell ⟨b, o', none⟩ u').cell? ⟨b', p, none⟩ = w.cell? ⟨b', p, none⟩) ∧ (∀ q, ((w.setCell ⟨b, o, none⟩ u).setCell ⟨b, o', none⟩ u').frozen? q = w.frozen? q) ∧ ∀ B, B ≤ b → Below B w ((w.setCell ⟨b, o, none⟩ u).setCell ⟨b, o', none⟩ u') := by
  refine ⟨fun b' p hne => ?_, fun q => ?_, fun B hB => ?_⟩
  · rw [World.cell?_setCell_other _ _ _ _ (by intro e; injection e with e; exact hne e.symm), World.cell?_setCell_other _ _ _ _ (by intro e; injection e with e; exact hne e.symm)]
  · rw [World.frozen?_setCell, World.frozen?_setCell]
  · exact ((Below.refl _ _).setCell (p := ⟨b, o, none⟩) hB _).setCell (p := ⟨b, o', none⟩) hB _
end Go.Proofs.Ytoblhgaohmfjeaa
