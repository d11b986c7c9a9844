/- Lists of items that grow at their end, of which the call owns all memory. -/
import Derived.Test.YtooocakkjdhfiaaDoorD
import Derived.Test.YtooocakkjdhfiaaDoorReg
import Derived.Deep.AppendLies
import Derived.Laws.NewBlocks
namespace Go.Proofs.YtooocakkjdhfiaaDoor
set_option maxRecDepth 100000
open Go.RowKit

/-- cells own their data, the blocks F among them -/
def OwnsL (w : World) : List Value → List D → List Nat → Prop
  | [], [], F => F = []
  | v :: vs, d :: ds, F => ∃ F1 F2, F = F1 ++ F2 ∧ (∀ x ∈ F1, x ∉ F2) ∧ D.own w v d F1 ∧ OwnsL w vs ds F2
  | _, _, _ => False

theorem OwnsL.length {w : World} : ∀ {vs : List Value} {ds : List D} {F : List Nat}, OwnsL w vs ds F → vs.length = ds.length
  | [], [], _, _ => rfl
  | [], _ :: _, _, h => by rw [OwnsL] at h; exact h.elim; all_goals simp
  | _ :: _, [], _, h => by rw [OwnsL] at h; exact h.elim; all_goals simp
  | v :: vs, d :: ds, F, h => by
    rw [OwnsL] at h
    obtain ⟨F1, F2, _, _, _, h⟩ := h
    simp [OwnsL.length h]
theorem OwnsL.keep {w w' : World} : ∀ {vs : List Value} {ds : List D} {F : List Nat}, OwnsL w vs ds F → Keeps (· ∈ F) w w' → OwnsL w' vs ds F
  | [], [], _, h, _ => by rw [OwnsL] at h ⊢; exact h
  | [], _ :: _, _, h, _ => by rw [OwnsL] at h; exact h.elim; all_goals simp
  | _ :: _, [], _, h, _ => by rw [OwnsL] at h; exact h.elim; all_goals simp
  | v :: vs, d :: ds, F, h, hk => by
    rw [OwnsL] at h ⊢
    obtain ⟨F1, F2, rfl, h1, h2, h3⟩ := h
    exact ⟨F1, F2, rfl, h1, D.own_keep _ _ _ (hk.mono fun x hx => by simp [show x ∈ F1 from hx]) h2, h3.keep (hk.mono fun x hx => by simp [show x ∈ F2 from hx])⟩
theorem OwnsL.lt {w : World} : ∀ {vs : List Value} {ds : List D} {F : List Nat}, OwnsL w vs ds F → ∀ x ∈ F, x < w.heap.size
  | [], [], _, h => by rw [OwnsL] at h; subst h; simp
  | [], _ :: _, _, h => by rw [OwnsL] at h; exact h.elim; all_goals simp
  | _ :: _, [], _, h => by rw [OwnsL] at h; exact h.elim; all_goals simp
  | v :: vs, d :: ds, F, h => by
    rw [OwnsL] at h
    obtain ⟨F1, F2, rfl, h1, h2, h3⟩ := h
    intro x hx
    rcases List.mem_append.1 hx with q | q
    · exact D.own_lt _ _ _ h2 x q
    · exact h3.lt x q
theorem OwnsL.append {w : World} : ∀ {vs : List Value} {ds : List D} {F : List Nat} {us : List Value} {es : List D} {G : List Nat}, OwnsL w vs ds F → OwnsL w us es G → (∀ x ∈ F, x ∉ G) → OwnsL w (vs ++ us) (ds ++ es) (F ++ G)
  | [], [], _, _, _, _, h, k, _ => by rw [OwnsL] at h; subst h; exact k
  | [], _ :: _, _, _, _, _, h, _, _ => by rw [OwnsL] at h; exact h.elim; all_goals simp
  | _ :: _, [], _, _, _, _, h, _, _ => by rw [OwnsL] at h; exact h.elim; all_goals simp
  | v :: vs, d :: ds, F, us, es, G, h, k, hd => by
    rw [OwnsL] at h
    obtain ⟨F1, F2, rfl, h1, h2, h3⟩ := h
    rw [List.cons_append, List.cons_append, OwnsL]
    refine ⟨F1, F2 ++ G, by simp, fun x hx => ?_, h2, h3.append k fun x hx => hd x (by simp [hx])⟩
    rw [List.mem_append]; rintro (q | q)
    · exact h1 x hx q
    · exact hd x (by simp [hx]) q
theorem OwnsL.owns {w : World} {b : Nat} : ∀ {vs : List Value} {ds : List D} {F : List Nat} (off : Nat), OwnsL w vs ds F → (∀ i (h : i < vs.length), w.cell? ⟨b, off + i, none⟩ = some vs[i]) → D.owns w b off ds F
  | [], [], _, _, h, _ => by rw [OwnsL] at h; rw [D.owns]; exact h
  | [], _ :: _, _, _, h, _ => by rw [OwnsL] at h; exact h.elim; all_goals simp
  | _ :: _, [], _, _, h, _ => by rw [OwnsL] at h; exact h.elim; all_goals simp
  | v :: vs, d :: ds, F, off, h, hc => by
    rw [OwnsL] at h
    obtain ⟨F1, F2, rfl, h1, h2, h3⟩ := h
    rw [D.owns]
    refine ⟨F1, F2, rfl, h1, ⟨v, hc 0 (by simp), h2⟩, h3.owns (off + 1) fun i hi => ?_⟩
    have := hc (i + 1) (by simpa using hi)
    rw [show off + (i + 1) = off + 1 + i by omega] at this
    simpa using this
theorem OwnsL.nil (w : World) : OwnsL w [] [] [] := by rw [OwnsL]
theorem OwnsL.cons {w : World} {v : Value} {d : D} {F G : List Nat} {vs : List Value} {ds : List D} (h : D.own w v d F) (k : OwnsL w vs ds G) (hd : ∀ x ∈ F, x ∉ G) : OwnsL w (v :: vs) (d :: ds) (F ++ G) := by
  rw [OwnsL]; exact ⟨F, G, rfl, hd, h, k⟩

/-- a list that grows and that the call owns: items of m cells of type e, its row in a block from B on -/
def Gr (w : World) (B : Nat) (e : TypeId) (m : Nat) (v : Value) (n : Nat) (cs : List D) (F : List Nat) : Prop :=
  ∃ vs, w.ownsRow B e m v n vs ∧ OwnsL w vs cs F ∧ (∀ x ∈ F, B ≤ x) ∧ ∀ x, v.ownBlock = some x → x ∉ F

theorem Gr.nil (w : World) (B : Nat) (e : TypeId) (m : Nat) : Gr w B e m (.slice none 0 0) 0 [] [] := ⟨[], World.ownsRow_nil w B e m, OwnsL.nil w, by simp, by simp⟩
theorem Gr.made {w : World} {B n : Nat} (e : TypeId) (m : Nat) (hn : n = w.heap.size) (hB : B ≤ w.heap.size) : Gr (w.alloc (.cells #[] e)) B e m (.slice (some ⟨n, 0, none⟩) 0 0) 0 [] [] := by
  subst hn
  exact ⟨[], World.ownsRow_made w #[] 0 hB (by decide) (by simp), OwnsL.nil _, by simp, by simp⟩
theorem Gr.keep {w w' : World} {B : Nat} {e : TypeId} {m : Nat} {v : Value} {n : Nat} {cs : List D} {F : List Nat} (h : Gr w B e m v n cs F) (hb : Below w.heap.size w w') : Gr w' B e m v n cs F := by
  obtain ⟨vs, h0, h1, h2, h3⟩ := h
  refine ⟨vs, h0.kept ⟨hb.os, hb.tape, hb.output, hb.size, fun k hk _ => hb.block k hk⟩ (row := none) (by cases v.ownBlock <;> simp), h1.keep (Keeps.all hb), h2, h3⟩
theorem Gr.form {w : World} {B : Nat} {e : TypeId} {m : Nat} {v : Value} {n : Nat} {cs : List D} {F : List Nat} (h : Gr w B e m v n cs F) : ∃ a cap, v = .slice a n cap ∧ n ≤ big ∧ n ≤ cap := by
  obtain ⟨vs, h0, _⟩ := h
  rcases h0.2 with ⟨rfl, h1⟩ | ⟨g, cap, cur, rfl, hb, hg, hc, hm, _⟩
  · exact ⟨none, 0, by rw [h1], by omega, by omega⟩
  · exact ⟨_, cap, rfl, Nat.le_trans hc hm, hc⟩
theorem Gr.lt {w : World} {B : Nat} {e : TypeId} {m : Nat} {v : Value} {n : Nat} {cs : List D} {F : List Nat} (h : Gr w B e m v n cs F) : ∀ k, v.ownBlock = some k → B ≤ k ∧ k < w.heap.size := by
  obtain ⟨vs, h0, _⟩ := h; exact h0.lt
theorem Gr.ltF {w : World} {B : Nat} {e : TypeId} {m : Nat} {v : Value} {n : Nat} {cs : List D} {F : List Nat} (h : Gr w B e m v n cs F) : ∀ x ∈ F, x < w.heap.size := by
  obtain ⟨vs, h0, h1, _⟩ := h; exact h1.lt
theorem Gr.leF {w : World} {B : Nat} {e : TypeId} {m : Nat} {v : Value} {n : Nat} {cs : List D} {F : List Nat} (h : Gr w B e m v n cs F) : ∀ x ∈ F, B ≤ x := by
  obtain ⟨vs, h0, h1, h2, _⟩ := h; exact h2
theorem Gr.cell {w : World} {B : Nat} {e : TypeId} {m : Nat} {g n cap : Nat} {vs : List Value} (h : w.ownsRow B e m (.slice (some ⟨g, 0, none⟩) n cap) n vs) : ∀ i (hi : i < vs.length), w.cell? ⟨g, 0 + i, none⟩ = some vs[i] := by
  rcases h.2 with ⟨h1, _⟩ | ⟨g', cap', cur, e1, hb, hg, hc, hm, hs, htk⟩
  · cases h1
  · injection e1 with e1 _ e2
    injection e1 with e1
    injection e1 with e1
    subst e1
    intro i hi
    rw [World.cell?, Nat.zero_add, hg]
    have : (cur.toList.take (n * m))[i]? = some vs[i] := by rw [htk]; simp
    rw [List.getElem?_take] at this
    split at this
    · simpa using this
    · exact absurd this (by simp)
/-- a grown list is owned as a slice -/
theorem Gr.own {w : World} {B : Nat} {e : TypeId} {m : Nat} {v : Value} {n : Nat} {cs : List D} {F : List Nat} (h : Gr w B e m v n cs F) (hm : 0 < m) : ∃ G, D.own w v (.sl n cs) G ∧ ∀ x ∈ G, B ≤ x := by
  obtain ⟨vs, h0, h1, h2, h3⟩ := h
  have hl := h1.length
  have hn := h0.1
  by_cases hc : cs = []
  · subst hc
    have hv : vs = [] := List.length_eq_zero_iff.1 (by simpa using hl)
    subst hv
    have hn0 : n = 0 := by
      have : n * m = 0 := by simpa using hn.symm
      rcases Nat.mul_eq_zero.1 this with q | q <;> omega
    subst hn0
    rcases h0.2 with ⟨rfl, _⟩ | ⟨g, cap, cur, rfl, _⟩
    · exact ⟨[], D.own_nil _ _, by simp⟩
    · exact ⟨[], D.own_nil _ _, by simp⟩
  · rcases h0.2 with ⟨rfl, h4⟩ | ⟨g, cap, cur, rfl, hb, hg, hcp, hmx, hs, htk⟩
    · subst h4
      have : vs = [] := List.length_eq_zero_iff.1 (by simpa using hn)
      subst this
      exact absurd (List.length_eq_zero_iff.1 (by simpa using hl.symm)) hc
    · refine ⟨g :: F, ?_, fun x hx => ?_⟩
      · rw [D.own]
        exact ⟨_, _, rfl, Nat.le_trans hcp hmx, hcp, fun _ => hc, .inr ⟨hc, g, 0, F, cur, e, rfl, hg, rfl, h3 g rfl, h1.owns 0 (Gr.cell h0)⟩⟩
      · rcases List.mem_cons.1 hx with rfl | hx
        · exact hb
        · exact h2 x hx
theorem keeps_grown {w w' : World} {v : Value} {F : List Nat} (hg : w.grownBy w' v.ownBlock) (h : ∀ x, v.ownBlock = some x → x ∉ F) : Keeps (· ∈ F) w w' :=
  ⟨hg.size, fun b hb hl => hg.block b hl fun e => h b e.symm hb⟩

theorem info_split {P : Program} {e : TypeId} {z : Value} {size bytes : Nat} (hinfo : (P.info? e).map (fun i => (i.zero, i.size, i.bytes)) = some (some z, size, bytes)) : ∃ i, P.info? e = some i ∧ i.zero = some z ∧ i.size = size ∧ i.bytes = bytes := by
  cases h : P.info? e with
  | none => rw [h] at hinfo; cases hinfo
  | some i =>
    rw [h] at hinfo
    injection hinfo with hz
    injection hz with h0 h1; injection h1 with h1 h2
    exact ⟨i, rfl, h0, h1, h2⟩
/-- append(list, item): the item lies in a block of its own -/
theorem run_append_gr {P : Program} {w : World} {B : Nat} {t e ty : TypeId} {m bytes : Nat} {z : Value} (ht : P.underlying t = some (.slice e)) (hinfo : (P.info? e).map (fun i => (i.zero, i.size, i.bytes)) = some (some z, m, bytes)) (hzs : z.cells.size = m) (hm : 0 < m) (hbytes : bytes ≤ 1000)
    {v : Value} {n : Nat} {cs : List D} {F : List Nat} (hrow : Gr w B e m v n cs F) {b : Nat} {news : List Value} {ds : List D} {G : List Nat} (hl : news.length = m) (hcell : ∀ j u, news[j]? = some u → w.cell? ⟨b, j, none⟩ = some u) (h1 : ∀ u ∈ news, u.oneCell' = true)
    (hO : OwnsL w news ds G) (hG : ∀ x ∈ G, B ≤ x) (hd : ∀ x ∈ F, x ∉ G) (hv : ∀ x, v.ownBlock = some x → x ∉ G) (hn : n ≤ 4294967296) (hB : B ≤ w.heap.size) :
    ∃ g cap w', (Builtin.append_ #[t, t] ty #[v, .slice (some ⟨b, 0, none⟩) 1 1]).run P w = .ok (.slice (some ⟨g, 0, none⟩) (n + 1) cap) w' ∧
      Gr w' B e m (.slice (some ⟨g, 0, none⟩) (n + 1) cap) (n + 1) (cs ++ ds) (F ++ G) ∧ w.grownBy w' v.ownBlock ∧ (v.ownBlock = some g ∨ g = w.heap.size) ∧ g < w'.heap.size := by
  obtain ⟨i, hi, hz0, hz1, hz2⟩ := info_split hinfo
  obtain ⟨vs, r0, r1, r2, r3⟩ := hrow
  obtain ⟨g, cap, w', q1, q2, q3, q4, q5⟩ := run_append_lies (P := P) w t ty B e i z m bytes ht hi hz0 hz1 hz2 hzs hm v n vs r0 ⟨b, 0, none⟩ 1 1 news (by rw [hl, Nat.one_mul])
    (fun j u hj => by
      have := hcell j u hj
      unfold Addr.add
      split
      · rename_i h0; subst h0; exact this
      · simpa using this) h1 (by decide) (by unfold maxLen; omega) (Nat.le_trans (Nat.mul_le_mul_left _ hbytes) (by omega)) hB _ rfl
  have hkF := keeps_grown (F := F) q3 r3
  have hkG := keeps_grown (F := G) q3 hv
  refine ⟨g, cap, w', q1, ⟨_, q2, (r1.keep hkF).append (hO.keep hkG) hd, fun x hx => ?_, fun x hx => ?_⟩, q3, q4, q5⟩
  · rcases List.mem_append.1 hx with q | q
    · exact r2 x q
    · exact hG x q
  · simp only [Value.ownBlock, Option.some.injEq] at hx
    subst hx
    rw [List.mem_append]
    rcases q4 with q | q
    · rintro (p | p)
      · exact r3 _ q p
      · exact hv _ q p
    · rintro (p | p)
      · have := r1.lt _ p; omega
      · have := hO.lt _ p; omega
/-- .. at the list of a plain region's operations -/
theorem wpList_append_gr {P : Program} {ops : Array Oper} {rest : List Oper} {o : Oper} {a : Act} {w : World} {Q : Exit → Act → World → Prop} {B : Nat} {t e : TypeId} {m bytes : Nat} {z : Value} (ht : P.underlying t = some (.slice e)) (hinfo : (P.info? e).map (fun i => (i.zero, i.size, i.bytes)) = some (some z, m, bytes)) (hzs : z.cells.size = m) (hm : 0 < m) (hbytes : bytes ≤ 1000)
    (hgd : o.guard = none) (s x : Operand) (ho : o.op = .call { callee := .builtin .append, args := #[s, x], argTypes := #[t, t] })
    {v : Value} {n : Nat} {cs : List D} {F : List Nat} {b : Nat} {news : List Value} {ds : List D} {G : List Nat} (hs : a.eval s = v) (hx : a.eval x = .slice (some ⟨b, 0, none⟩) 1 1) (hrow : Gr w B e m v n cs F) (hl : news.length = m) (hcell : ∀ j u, news[j]? = some u → w.cell? ⟨b, j, none⟩ = some u) (h1 : ∀ u ∈ news, u.oneCell' = true)
    (hO : OwnsL w news ds G) (hG : ∀ x ∈ G, B ≤ x) (hd : ∀ x ∈ F, x ∉ G) (hv : ∀ x, v.ownBlock = some x → x ∉ G) (hn : n ≤ 4294967296) (hB : B ≤ w.heap.size)
    (h : ∀ g cap w', Gr w' B e m (.slice (some ⟨g, 0, none⟩) (n + 1) cap) (n + 1) (cs ++ ds) (F ++ G) → w.grownBy w' v.ownBlock → (v.ownBlock = some g ∨ g = w.heap.size) → g < w'.heap.size → wpList P ops Q rest (a.put o.dst (.slice (some ⟨g, 0, none⟩) (n + 1) cap)) w') : wpList P ops Q (o :: rest) a w := by
  obtain ⟨g, cap, w', hr, h2, h3, h4, h5⟩ := run_append_gr (ty := o.type) ht hinfo hzs hm hbytes hrow hl hcell h1 hO hG hd hv hn hB
  refine wpList_plain hgd fun _ hK => ?_
  unfold Oper.wp execOp
  simp only [ho, resolve, invoke, builtin, Sem.run_bind, Sem.run_pure, Result.andThen_ok, List.map_toArray, List.map_cons, List.map_nil, hs, hx, hr]
  exact hK _ _ (h g cap w' h2 h3 h4 h5)
/-- .. at a step of a region that draws its order -/
theorem step_append_gr {P : Program} {ops : Array Oper} {o : Oper} {a : Act} {w : World} {K : Act → World → Prop} {Q : Exit → Act → World → Prop} {E : Prop} {B : Nat} {t e : TypeId} {m bytes : Nat} {z : Value} (ht : P.underlying t = some (.slice e)) (hinfo : (P.info? e).map (fun i => (i.zero, i.size, i.bytes)) = some (some z, m, bytes)) (hzs : z.cells.size = m) (hm : 0 < m) (hbytes : bytes ≤ 1000)
    (hgd : o.guard = none) (s x : Operand) (ho : o.op = .call { callee := .builtin .append, args := #[s, x], argTypes := #[t, t] })
    {v : Value} {n : Nat} {cs : List D} {F : List Nat} {b : Nat} {news : List Value} {ds : List D} {G : List Nat} (hs : a.eval s = v) (hx : a.eval x = .slice (some ⟨b, 0, none⟩) 1 1) (hrow : Gr w B e m v n cs F) (hl : news.length = m) (hcell : ∀ j u, news[j]? = some u → w.cell? ⟨b, j, none⟩ = some u) (h1 : ∀ u ∈ news, u.oneCell' = true)
    (hO : OwnsL w news ds G) (hG : ∀ x ∈ G, B ≤ x) (hd : ∀ x ∈ F, x ∉ G) (hv : ∀ x, v.ownBlock = some x → x ∉ G) (hn : n ≤ 4294967296) (hB : B ≤ w.heap.size)
    (h : ∀ g cap w', Gr w' B e m (.slice (some ⟨g, 0, none⟩) (n + 1) cap) (n + 1) (cs ++ ds) (F ++ G) → w.grownBy w' v.ownBlock → (v.ownBlock = some g ∨ g = w.heap.size) → g < w'.heap.size → K (a.put o.dst (.slice (some ⟨g, 0, none⟩) (n + 1) cap)) w') :
    if Region.wanted o (yielded ops a.tmps) = true then Oper.wp P o a w K Q else E := by
  have hw : Region.wanted o (yielded ops a.tmps) = true := by simp [Region.wanted, hgd]
  rw [if_pos hw]
  obtain ⟨g, cap, w', hr, h2, h3, h4, h5⟩ := run_append_gr (ty := o.type) ht hinfo hzs hm hbytes hrow hl hcell h1 hO hG hd hv hn hB
  unfold Oper.wp execOp
  simp only [ho, resolve, invoke, builtin, Sem.run_bind, Sem.run_pure, Result.andThen_ok, List.map_toArray, List.map_cons, List.map_nil, hs, hx, hr]
  exact h g cap w' h2 h3 h4 h5
theorem Gr.setCell {w : World} {B : Nat} {e : TypeId} {m : Nat} {v : Value} {n : Nat} {cs : List D} {F : List Nat} (h : Gr w B e m v n cs F) {p : Addr} (hp : p.block < B) (u : Value) : Gr (w.setCell p u) B e m v n cs F := by
  obtain ⟨vs, h0, h1, h2, h3⟩ := h
  refine ⟨vs, h0.kept (row := some p.block) ⟨rfl, rfl, rfl, by simp [World.setCell], fun k hk hne => Below.heap_setCell _ _ _ _ (fun e => hne (by rw [e]))⟩ ?_, h1.keep ((Keeps.refl _ _).setCell (fun q _ => by have := h2 _ q; omega) _), h2, h3⟩
  rcases hv : v.ownBlock with _ | x
  · exact .inl rfl
  · right; intro e; injection e with e; have := (h0.lt x hv).1; omega
/-- behind an append: what the region's world keeps of an elder one -/
theorem below_grown {B : Nat} {W w w' : World} {v : Value} (h : Below B W w) (hg : w.grownBy w' v.ownBlock) (hB : B ≤ w.heap.size) (hv : ∀ k, v.ownBlock = some k → B ≤ k) : Below B W w' := Below.grown h hg hB hv
theorem frz1 (w : World) (c0 : Array Value) (t0 : TypeId) (i n : Nat) (hn : n = w.heap.size) : (w.alloc (.cells c0 t0)).frozen? ⟨n, i, none⟩ = false := World.frozen?_alloc_at c0 t0 n i hn
/-- behind growth: other blocks' cells and marks -/
theorem grown_cell {w w' : World} {v : Value} (hg : w.grownBy w' v.ownBlock) {b : Nat} (hb : b < w.heap.size) (hne : ∀ x, v.ownBlock = some x → x ≠ b) : (∀ o, w'.cell? ⟨b, o, none⟩ = w.cell? ⟨b, o, none⟩) ∧ (∀ o, w'.frozen? ⟨b, o, none⟩ = w.frozen? ⟨b, o, none⟩) := by
  have := hg.block b hb fun e => hne b e.symm rfl
  exact ⟨fun o => World.cell?_of_block (a := ⟨b, o, none⟩) this, fun o => World.frozen?_of_block (a := ⟨b, o, none⟩) this⟩
/-- a step of a region that draws its order, by what it does -/
theorem step_does {P : Program} {ops : Array Oper} {o : Oper} {a : Act} {w : World} {K : Act → World → Prop} {Q : Exit → Act → World → Prop} {E : Prop} (hgd : o.guard = none) (h : Does P o a.eval w fun v w' => K (a.put o.dst v) w') :
    if Region.wanted o (yielded ops a.tmps) = true then Oper.wp P o a w K Q else E := by
  have hw : Region.wanted o (yielded ops a.tmps) = true := by simp [Region.wanted, hgd]
  rw [if_pos hw]
  exact Does.wp h fun _ _ h => h
/-- append(list, src...): the source's cells lie in a row -/
theorem run_append_grs {P : Program} {w : World} {B : Nat} {t e ty : TypeId} {m bytes : Nat} {z : Value} (ht : P.underlying t = some (.slice e)) (hinfo : (P.info? e).map (fun i => (i.zero, i.size, i.bytes)) = some (some z, m, bytes)) (hzs : z.cells.size = m) (hm : 0 < m) (hbytes : bytes ≤ 1000)
    {v : Value} {n : Nat} {cs : List D} {F : List Nat} (hrow : Gr w B e m v n cs F) {b off k c : Nat} {news : List Value} {ds : List D} {G : List Nat} (hl : news.length = k * m) (hcell : ∀ j u, news[j]? = some u → w.cell? ⟨b, off + j, none⟩ = some u) (h1 : ∀ u ∈ news, u.oneCell' = true)
    (hO : OwnsL w news ds G) (hG : ∀ x ∈ G, B ≤ x) (hd : ∀ x ∈ F, x ∉ G) (hv : ∀ x, v.ownBlock = some x → x ∉ G) (hn : n + k ≤ 4294967296) (hB : B ≤ w.heap.size) :
    ∃ v' w', (Builtin.append_ #[t, t] ty #[v, .slice (some ⟨b, off, none⟩) k c]).run P w = .ok v' w' ∧
      Gr w' B e m v' (n + k) (cs ++ ds) (F ++ G) ∧ w.grownBy w' v.ownBlock ∧ (v'.ownBlock = v.ownBlock ∨ v'.ownBlock = some w.heap.size) ∧ (v ≠ .slice none 0 0 → v' ≠ .slice none 0 0) := by
  obtain ⟨i, hi, hz0, hz1, hz2⟩ := info_split hinfo
  obtain ⟨vs, r0, r1, r2, r3⟩ := hrow
  obtain ⟨v', w', q1, q2, q3, q4, q5⟩ := run_append_own_at (P := P) w B t ty e i z m bytes ht hi hz0 hz1 hz2 hzs hm v n vs r0 ⟨b, off, none⟩ k c news hl
    (fun j u hj => by
      have := hcell j u hj
      unfold Addr.add
      split
      · rename_i h0; subst h0; exact this
      · simpa using this) h1 (by unfold maxLen; omega) (Nat.le_trans (Nat.mul_le_mul_left _ hbytes) (by omega)) hB
  have hkF := keeps_grown (F := F) q3 r3
  have hkG := keeps_grown (F := G) q3 hv
  refine ⟨v', w', q1, ⟨_, q2, (r1.keep hkF).append (hO.keep hkG) hd, fun x hx => ?_, fun x hx => ?_⟩, q3, q5, fun hne hn => hne (q4.1 hn).1⟩
  · rcases List.mem_append.1 hx with q | q
    · exact r2 x q
    · exact hG x q
  · rw [List.mem_append]
    rcases q5 with q | q
    · rw [q] at hx
      rintro (p | p)
      · exact r3 _ hx p
      · exact hv _ hx p
    · rw [q] at hx
      injection hx with hx
      rintro (p | p)
      · have := r1.lt _ p; omega
      · have := hO.lt _ p; omega
/-- .. at the list of a plain region's operations -/
theorem wpList_append_grs {P : Program} {ops : Array Oper} {rest : List Oper} {o : Oper} {a : Act} {w : World} {Q : Exit → Act → World → Prop} {B : Nat} {t e : TypeId} {m bytes : Nat} {z : Value} (ht : P.underlying t = some (.slice e)) (hinfo : (P.info? e).map (fun i => (i.zero, i.size, i.bytes)) = some (some z, m, bytes)) (hzs : z.cells.size = m) (hm : 0 < m) (hbytes : bytes ≤ 1000)
    (hgd : o.guard = none) (s x : Operand) (ho : o.op = .call { callee := .builtin .append, args := #[s, x], argTypes := #[t, t] })
    {v : Value} {n : Nat} {cs : List D} {F : List Nat} {b off k c : Nat} {news : List Value} {ds : List D} {G : List Nat} (hs : a.eval s = v) (hx : a.eval x = .slice (some ⟨b, off, none⟩) k c) (hrow : Gr w B e m v n cs F) (hl : news.length = k * m) (hcell : ∀ j u, news[j]? = some u → w.cell? ⟨b, off + j, none⟩ = some u) (h1 : ∀ u ∈ news, u.oneCell' = true)
    (hO : OwnsL w news ds G) (hG : ∀ x ∈ G, B ≤ x) (hd : ∀ x ∈ F, x ∉ G) (hv : ∀ x, v.ownBlock = some x → x ∉ G) (hn : n + k ≤ 4294967296) (hB : B ≤ w.heap.size)
    (h : ∀ v' w', Gr w' B e m v' (n + k) (cs ++ ds) (F ++ G) → w.grownBy w' v.ownBlock → (v'.ownBlock = v.ownBlock ∨ v'.ownBlock = some w.heap.size) → (v ≠ .slice none 0 0 → v' ≠ .slice none 0 0) → wpList P ops Q rest (a.put o.dst v') w') : wpList P ops Q (o :: rest) a w := by
  obtain ⟨v', w', hr, h2, h3, h4, h5⟩ := run_append_grs (ty := o.type) (c := c) ht hinfo hzs hm hbytes hrow hl hcell h1 hO hG hd hv hn hB
  refine wpList_plain hgd fun _ hK => ?_
  unfold Oper.wp execOp
  simp only [ho, resolve, invoke, builtin, Sem.run_bind, Sem.run_pure, Result.andThen_ok, List.map_toArray, List.map_cons, List.map_nil, hs, hx, hr]
  exact hK _ _ (h v' w' h2 h3 h4 h5)
/-- .. at a step of a region that draws its order -/
theorem step_append_grs {P : Program} {ops : Array Oper} {o : Oper} {a : Act} {w : World} {K : Act → World → Prop} {Q : Exit → Act → World → Prop} {E : Prop} {B : Nat} {t e : TypeId} {m bytes : Nat} {z : Value} (ht : P.underlying t = some (.slice e)) (hinfo : (P.info? e).map (fun i => (i.zero, i.size, i.bytes)) = some (some z, m, bytes)) (hzs : z.cells.size = m) (hm : 0 < m) (hbytes : bytes ≤ 1000)
    (hgd : o.guard = none) (s x : Operand) (ho : o.op = .call { callee := .builtin .append, args := #[s, x], argTypes := #[t, t] })
    {v : Value} {n : Nat} {cs : List D} {F : List Nat} {b off k c : Nat} {news : List Value} {ds : List D} {G : List Nat} (hs : a.eval s = v) (hx : a.eval x = .slice (some ⟨b, off, none⟩) k c) (hrow : Gr w B e m v n cs F) (hl : news.length = k * m) (hcell : ∀ j u, news[j]? = some u → w.cell? ⟨b, off + j, none⟩ = some u) (h1 : ∀ u ∈ news, u.oneCell' = true)
    (hO : OwnsL w news ds G) (hG : ∀ x ∈ G, B ≤ x) (hd : ∀ x ∈ F, x ∉ G) (hv : ∀ x, v.ownBlock = some x → x ∉ G) (hn : n + k ≤ 4294967296) (hB : B ≤ w.heap.size)
    (h : ∀ v' w', Gr w' B e m v' (n + k) (cs ++ ds) (F ++ G) → w.grownBy w' v.ownBlock → (v'.ownBlock = v.ownBlock ∨ v'.ownBlock = some w.heap.size) → (v ≠ .slice none 0 0 → v' ≠ .slice none 0 0) → K (a.put o.dst v') w') :
    if Region.wanted o (yielded ops a.tmps) = true then Oper.wp P o a w K Q else E := by
  have hw : Region.wanted o (yielded ops a.tmps) = true := by simp [Region.wanted, hgd]
  rw [if_pos hw]
  obtain ⟨v', w', hr, h2, h3, h4, h5⟩ := run_append_grs (ty := o.type) (c := c) ht hinfo hzs hm hbytes hrow hl hcell h1 hO hG hd hv hn hB
  unfold Oper.wp execOp
  simp only [ho, resolve, invoke, builtin, Sem.run_bind, Sem.run_pure, Result.andThen_ok, List.map_toArray, List.map_cons, List.map_nil, hs, hx, hr]
  exact h v' w' h2 h3 h4 h5
/-- a made row of known cells -/
theorem Gr.lit {w : World} {B N : Nat} (e : TypeId) {m n : Nat} {vs : List Value} {cs : List D} {F : List Nat} (hN : N = w.heap.size) (hB : B ≤ w.heap.size) (hl : vs.length = n * m) (hn : n ≤ maxLen) (h : OwnsL w vs cs F) (hF : ∀ x ∈ F, B ≤ x) :
    Gr (w.alloc (.cells vs.toArray e)) B e m (.slice (some ⟨N, 0, none⟩) n n) n cs F := by
  subst hN
  refine ⟨vs, ⟨hl, .inr ⟨w.heap.size, n, vs.toArray, rfl, hB, heap_alloc_new w _, Nat.le_refl _, hn, by simp [hl], ?_⟩⟩, h.keep ((Keeps.refl _ _).alloc _), hF, fun x hx => ?_⟩
  · simp [← hl]
  · injection hx with hx; subst hx; exact fun q => Nat.lt_irrefl _ (h.lt _ q)
/-- a list that is owned as a slice is a grown one -/
theorem Gr.item {w : World} {B : Nat} {e : TypeId} {m : Nat} {g n cap : Nat} {cs : List D} {F : List Nat} (h : Gr w B e m (.slice (some ⟨g, 0, none⟩) n cap) n cs F) : ∃ vs, vs.length = n * m ∧ (∀ i (hi : i < vs.length), w.cell? ⟨g, 0 + i, none⟩ = some vs[i]) ∧ OwnsL w vs cs F := by
  obtain ⟨vs, h0, h1, _⟩ := h
  exact ⟨vs, h0.1, Gr.cell h0, h1⟩
end Go.Proofs.YtooocakkjdhfiaaDoor
