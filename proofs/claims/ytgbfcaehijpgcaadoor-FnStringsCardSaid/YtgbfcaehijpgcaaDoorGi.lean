/- Lists of ints that grow. -/
import Derived.Test.YtgbfcaehijpgcaaDoorGr
import Derived.Test.YtgbfcaehijpgcaaDoorIl
namespace Go.Proofs.YtgbfcaehijpgcaaDoor
set_option maxRecDepth 100000
open Go.RowKit

/-- a list of ints that grows and that the call owns -/
def GI (w : World) (B : Nat) (v : Value) (zs : List Int) : Prop := Gr w B 3 1 v zs.length (zs.flatMap intE) []
theorem intE_flat (zs : List Int) : zs.flatMap intE = zs.map D.num := by
  induction zs with
  | nil => rfl
  | cons z zs ih => rw [List.flatMap_cons, ih]; rfl
theorem ownsL_ints {w : World} : ∀ (zs : List Int), (∀ z ∈ zs, IsI64 z) → OwnsL w (zs.map (Value.int .i64)) (zs.flatMap intE) []
  | [], _ => OwnsL.nil w
  | z :: zs, h => by
    have := OwnsL.cons (F := []) (D.own_num (w := w) (h z (by simp))) (ownsL_ints zs fun y hy => h y (by simp [hy])) (by simp)
    simpa [List.flatMap_cons, intE] using this
theorem GI.nil (w : World) (B : Nat) : GI w B (.slice none 0 0) [] := Gr.nil w B _ _
theorem GI.made {w : World} {B n : Nat} (hn : n = w.heap.size) (hB : B ≤ w.heap.size) : GI (w.alloc (.cells #[] 3)) B (.slice (some ⟨n, 0, none⟩) 0 0) [] := Gr.made _ _ hn hB
theorem GI.one {w : World} {B n : Nat} {z : Int} (hz : IsI64 z) (hn : n = w.heap.size) (hB : B ≤ w.heap.size) : GI (w.alloc (.cells #[.int .i64 z] 3)) B (.slice (some ⟨n, 0, none⟩) 1 1) [z] :=
  Gr.lit _ hn hB rfl (by decide) (ownsL_ints [z] (by simpa using hz)) (by simp)
theorem GI.keep {w w' : World} {B : Nat} {v : Value} {zs : List Int} (h : GI w B v zs) (hb : Below w.heap.size w w') : GI w' B v zs := Gr.keep h hb
theorem GI.own {w : World} {B : Nat} {v : Value} {zs : List Int} (h : GI w B v zs) : ∃ G, D.own w v (slOf intE zs) G ∧ ∀ x ∈ G, B ≤ x := Gr.own h (by decide)
theorem GI.rd {w : World} {B : Nat} {v : Value} {zs : List Int} (h : GI w B v zs) : D.rd (fun _ => True) w v (slOf intE zs) := by
  obtain ⟨G, h, _⟩ := h.own
  exact D.rd_mono (fun _ _ => trivial) _ _ (D.own_rd _ _ _ h)
theorem GI.form {w : World} {B : Nat} {v : Value} {zs : List Int} (h : GI w B v zs) : ∃ a cap, v = .slice a zs.length cap ∧ zs.length ≤ big ∧ zs.length ≤ cap := Gr.form h
theorem GI.i64 {w : World} {B : Nat} {v : Value} {zs : List Int} (h : GI w B v zs) : ∀ z ∈ zs, IsI64 z := by
  intro z hz
  obtain ⟨a, cap, rfl, _, _⟩ := h.form
  have hne : zs ≠ [] := by intro e; subst e; cases hz
  obtain ⟨b, off, rfl, _, _, hrr⟩ := ints_get h.rd hne
  obtain ⟨i, hi, rfl⟩ := List.mem_iff_getElem.1 hz
  exact (hrr i hi).2
theorem GI.mono {w : World} {B B' : Nat} {v : Value} {zs : List Int} (h : GI w B v zs) (hB : B' ≤ B) : GI w B' v zs := by
  obtain ⟨vs, h0, h1, h2, h3⟩ := h
  refine ⟨vs, ⟨h0.1, ?_⟩, h1, by simp, h3⟩
  rcases h0.2 with h4 | ⟨g, cap, cur, q0, q1, q⟩
  · exact .inl h4
  · exact .inr ⟨g, cap, cur, q0, Nat.le_trans hB q1, q⟩
theorem GI.addr {w : World} {B : Nat} {v : Value} {zs : List Int} (h : GI w B v zs) (hne : v ≠ .slice none 0 0) : ∃ b c, v = .slice (some ⟨b, 0, none⟩) zs.length c := by
  obtain ⟨vs, h0, _⟩ := h
  rcases h0.2 with ⟨h1, _⟩ | ⟨g, cap, cur, h1, _⟩
  · exact absurd h1 hne
  · exact ⟨g, cap, h1⟩
/-- cells of ints -/
theorem ints_cells {S : Nat → Prop} {w : World} {b off c : Nat} {zs : List Int} (h : D.rd S w (.slice (some ⟨b, off, none⟩) zs.length c) (slOf intE zs)) : (∀ j u, (zs.map (Value.int .i64))[j]? = some u → w.cell? ⟨b, off + j, none⟩ = some u) ∧ ∀ z ∈ zs, IsI64 z := by
  by_cases hne : zs = []
  · subst hne; exact ⟨fun j u hj => by simp at hj, fun z hz => by cases hz⟩
  · obtain ⟨b', off', e, _, _, hrr⟩ := ints_get h hne
    injection e with e; injection e with e1 e2; subst e1 e2
    refine ⟨fun j u hj => ?_, fun z hz => ?_⟩
    · rw [List.getElem?_map] at hj
      cases hz : zs[j]? with
      | none => rw [hz] at hj; cases hj
      | some z =>
        rw [hz] at hj
        obtain ⟨hjl, e⟩ := List.getElem?_eq_some_iff.1 hz
        have hu : u = .int .i64 z := by simpa using hj.symm
        rw [hu, ← e]
        exact (hrr j hjl).1
    · obtain ⟨i, hi, rfl⟩ := List.mem_iff_getElem.1 hz
      exact (hrr i hi).2
theorem ints_one (zs : List Int) : ∀ u ∈ zs.map (Value.int .i64), u.oneCell' = true := by
  intro u hu
  obtain ⟨z, _, rfl⟩ := List.mem_map.1 hu
  simp [Value.oneCell']
theorem GI.appended {w : World} {B : Nat} {v : Value} {xs ys : List Int} (h : Gr w B 3 1 v (xs.length + ys.length) (xs.flatMap intE ++ ys.flatMap intE) ([] ++ [])) : GI w B v (xs ++ ys) := by
  unfold GI
  rw [List.length_append, List.flatMap_append]
  exact h
/-- append(list, src...) of ints -/
theorem wpList_append_ints {ops : Array Oper} {rest : List Oper} {o : Oper} {a : Act} {w : World} {Q : Exit → Act → World → Prop} {B : Nat} (hgd : o.guard = none) (s x : Operand) (ho : o.op = .call { callee := .builtin .append, args := #[s, x], argTypes := #[35, 35] })
    {v : Value} {xs ys : List Int} {b off c k : Nat} {S : Nat → Prop} (hk : k = ys.length) (hs : a.eval s = v) (hx : a.eval x = .slice (some ⟨b, off, none⟩) k c) (hrow : GI w B v xs) (hsrc : D.rd S w (.slice (some ⟨b, off, none⟩) k c) (slOf intE ys)) (hn : xs.length + ys.length ≤ 4294967296) (hB : B ≤ w.heap.size)
    (h : ∀ v' w', GI w' B v' (xs ++ ys) → w.grownBy w' v.ownBlock → (v'.ownBlock = v.ownBlock ∨ v'.ownBlock = some w.heap.size) → (v ≠ .slice none 0 0 → v' ≠ .slice none 0 0) → wpList Tryd.prog ops Q rest (a.put o.dst v') w') : wpList Tryd.prog ops Q (o :: rest) a w := by
  subst hk
  obtain ⟨hc, hi⟩ := ints_cells hsrc
  exact wpList_append_grs (c := c) (news := ys.map (Value.int .i64)) (G := []) Tryd.underlying35 infoIntS rfl (by decide) (by decide) hgd s x ho hs hx hrow (by simp) hc (ints_one ys) (ownsL_ints ys hi) (by simp) (by simp) (by simp) hn hB fun v' w' h1 h2 h3 h4 => h v' w' (GI.appended h1) h2 h3 h4
theorem step_append_ints {ops : Array Oper} {o : Oper} {a : Act} {w : World} {K : Act → World → Prop} {Q : Exit → Act → World → Prop} {E : Prop} {B : Nat} (hgd : o.guard = none) (s x : Operand) (ho : o.op = .call { callee := .builtin .append, args := #[s, x], argTypes := #[35, 35] })
    {v : Value} {xs ys : List Int} {b off c k : Nat} {S : Nat → Prop} (hk : k = ys.length) (hs : a.eval s = v) (hx : a.eval x = .slice (some ⟨b, off, none⟩) k c) (hrow : GI w B v xs) (hsrc : D.rd S w (.slice (some ⟨b, off, none⟩) k c) (slOf intE ys)) (hn : xs.length + ys.length ≤ 4294967296) (hB : B ≤ w.heap.size)
    (h : ∀ v' w', GI w' B v' (xs ++ ys) → w.grownBy w' v.ownBlock → (v'.ownBlock = v.ownBlock ∨ v'.ownBlock = some w.heap.size) → (v ≠ .slice none 0 0 → v' ≠ .slice none 0 0) → K (a.put o.dst v') w') :
    if Region.wanted o (yielded ops a.tmps) = true then Oper.wp Tryd.prog o a w K Q else E := by
  subst hk
  obtain ⟨hc, hi⟩ := ints_cells hsrc
  exact step_append_grs (c := c) (news := ys.map (Value.int .i64)) (G := []) Tryd.underlying35 infoIntS rfl (by decide) (by decide) hgd s x ho hs hx hrow (by simp) hc (ints_one ys) (ownsL_ints ys hi) (by simp) (by simp) (by simp) hn hB fun v' w' h1 h2 h3 h4 => h v' w' (GI.appended h1) h2 h3 h4
end Go.Proofs.YtgbfcaehijpgcaaDoor
