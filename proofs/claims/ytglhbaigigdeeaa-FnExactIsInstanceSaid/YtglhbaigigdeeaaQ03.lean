/- Several texts in one file. -/
import Derived.Test.YtglhbaigigdeeaaQ01
import Derived.Test.YtglhbaigigdeeaaQ02
import Derived.Deep.AppendLies
import Derived.Laws.NewBlocks
import Derived.Lib.Join
import Derived.Laws.Concat
import Derived.Test.YtglhbaigigdeeaaRows
import Derived.WalkSpells
import Derived.WalkLawsBesides
import Derived.Laws.BytesString
import Derived.Laws.IdiomStrings
import Derived.OpenShut
/- Lists of items that grow at their end, of which the call owns all memory. -/
namespace Go.Proofs.Ytglhbaigigdeeaa
set_option maxRecDepth 100000
open Go.RowKit

/-- cells own their data, the blocks F among them -/
def OwnsL (w : World) : List Value → List D → List Nat → Prop
  | [], [], F => F = []
  | v :: vs, d :: ds, F => ∃ F1 F2, F = F1 ++ F2 ∧ (∀ x ∈ F1, x ∉ F2) ∧ D.own w v d F1 ∧ OwnsL w vs ds F2
  | _, _, _ => False

theorem OwnsL.length {w : World} : ∀ {vs : List Value} {ds : List D} {F : List Nat}, OwnsL w vs ds F → vs.length = ds.length
  | [], [], _, _ => rfl
  | [], _ :: _, _, h => by rw [OwnsL] at h; exact h.elim; all_goals simp
  | _ :: _, [], _, h => by rw [OwnsL] at h; exact h.elim; all_goals simp
  | v :: vs, d :: ds, F, h => by
    rw [OwnsL] at h
    obtain ⟨F1, F2, _, _, _, h⟩ := h
    simp [OwnsL.length h]
theorem OwnsL.keep {w w' : World} : ∀ {vs : List Value} {ds : List D} {F : List Nat}, OwnsL w vs ds F → Keeps (· ∈ F) w w' → OwnsL w' vs ds F
  | [], [], _, h, _ => by rw [OwnsL] at h ⊢; exact h
  | [], _ :: _, _, h, _ => by rw [OwnsL] at h; exact h.elim; all_goals simp
  | _ :: _, [], _, h, _ => by rw [OwnsL] at h; exact h.elim; all_goals simp
  | v :: vs, d :: ds, F, h, hk => by
    rw [OwnsL] at h ⊢
    obtain ⟨F1, F2, rfl, h1, h2, h3⟩ := h
    exact ⟨F1, F2, rfl, h1, D.own_keep _ _ _ (hk.mono fun x hx => by simp [show x ∈ F1 from hx]) h2, h3.keep (hk.mono fun x hx => by simp [show x ∈ F2 from hx])⟩
theorem OwnsL.lt {w : World} : ∀ {vs : List Value} {ds : List D} {F : List Nat}, OwnsL w vs ds F → ∀ x ∈ F, x < w.heap.size
  | [], [], _, h => by rw [OwnsL] at h; subst h; simp
  | [], _ :: _, _, h => by rw [OwnsL] at h; exact h.elim; all_goals simp
  | _ :: _, [], _, h => by rw [OwnsL] at h; exact h.elim; all_goals simp
  | v :: vs, d :: ds, F, h => by
    rw [OwnsL] at h
    obtain ⟨F1, F2, rfl, h1, h2, h3⟩ := h
    intro x hx
    rcases List.mem_append.1 hx with q | q
    · exact D.own_lt _ _ _ h2 x q
    · exact h3.lt x q
theorem OwnsL.append {w : World} : ∀ {vs : List Value} {ds : List D} {F : List Nat} {us : List Value} {es : List D} {G : List Nat}, OwnsL w vs ds F → OwnsL w us es G → (∀ x ∈ F, x ∉ G) → OwnsL w (vs ++ us) (ds ++ es) (F ++ G)
  | [], [], _, _, _, _, h, k, _ => by rw [OwnsL] at h; subst h; exact k
  | [], _ :: _, _, _, _, _, h, _, _ => by rw [OwnsL] at h; exact h.elim; all_goals simp
  | _ :: _, [], _, _, _, _, h, _, _ => by rw [OwnsL] at h; exact h.elim; all_goals simp
  | v :: vs, d :: ds, F, us, es, G, h, k, hd => by
    rw [OwnsL] at h
    obtain ⟨F1, F2, rfl, h1, h2, h3⟩ := h
    rw [List.cons_append, List.cons_append, OwnsL]
    refine ⟨F1, F2 ++ G, by simp, fun x hx => ?_, h2, h3.append k fun x hx => hd x (by simp [hx])⟩
    rw [List.mem_append]; rintro (q | q)
    · exact h1 x hx q
    · exact hd x (by simp [hx]) q
theorem OwnsL.owns {w : World} {b : Nat} : ∀ {vs : List Value} {ds : List D} {F : List Nat} (off : Nat), OwnsL w vs ds F → (∀ i (h : i < vs.length), w.cell? ⟨b, off + i, none⟩ = some vs[i]) → D.owns w b off ds F
  | [], [], _, _, h, _ => by rw [OwnsL] at h; rw [D.owns]; exact h
  | [], _ :: _, _, _, h, _ => by rw [OwnsL] at h; exact h.elim; all_goals simp
  | _ :: _, [], _, _, h, _ => by rw [OwnsL] at h; exact h.elim; all_goals simp
  | v :: vs, d :: ds, F, off, h, hc => by
    rw [OwnsL] at h
    obtain ⟨F1, F2, rfl, h1, h2, h3⟩ := h
    rw [D.owns]
    refine ⟨F1, F2, rfl, h1, ⟨v, hc 0 (by simp), h2⟩, h3.owns (off + 1) fun i hi => ?_⟩
    have := hc (i + 1) (by simpa using hi)
    rw [show off + (i + 1) = off + 1 + i by omega] at this
    simpa using this
theorem OwnsL.nil (w : World) : OwnsL w [] [] [] := by rw [OwnsL]
theorem OwnsL.cons {w : World} {v : Value} {d : D} {F G : List Nat} {vs : List Value} {ds : List D} (h : D.own w v d F) (k : OwnsL w vs ds G) (hd : ∀ x ∈ F, x ∉ G) : OwnsL w (v :: vs) (d :: ds) (F ++ G) := by
  rw [OwnsL]; exact ⟨F, G, rfl, hd, h, k⟩

/-- a list that grows and that the call owns: items of m cells of type e, its row in a block from B on -/
def Gr (w : World) (B : Nat) (e : TypeId) (m : Nat) (v : Value) (n : Nat) (cs : List D) (F : List Nat) : Prop :=
  ∃ vs, w.ownsRow B e m v n vs ∧ OwnsL w vs cs F ∧ (∀ x ∈ F, B ≤ x) ∧ ∀ x, v.ownBlock = some x → x ∉ F

theorem Gr.nil (w : World) (B : Nat) (e : TypeId) (m : Nat) : Gr w B e m (.slice none 0 0) 0 [] [] := ⟨[], World.ownsRow_nil w B e m, OwnsL.nil w, by simp, by simp⟩
theorem Gr.made {w : World} {B n : Nat} (e : TypeId) (m : Nat) (hn : n = w.heap.size) (hB : B ≤ w.heap.size) : Gr (w.alloc (.cells #[] e)) B e m (.slice (some ⟨n, 0, none⟩) 0 0) 0 [] [] := by
  subst hn
  exact ⟨[], World.ownsRow_made w #[] 0 hB (by decide) (by simp), OwnsL.nil _, by simp, by simp⟩
theorem Gr.keep {w w' : World} {B : Nat} {e : TypeId} {m : Nat} {v : Value} {n : Nat} {cs : List D} {F : List Nat} (h : Gr w B e m v n cs F) (hb : Below w.heap.size w w') : Gr w' B e m v n cs F := by
  obtain ⟨vs, h0, h1, h2, h3⟩ := h
  refine ⟨vs, h0.kept ⟨hb.os, hb.tape, hb.output, hb.size, fun k hk _ => hb.block k hk⟩ (row := none) (by cases v.ownBlock <;> simp), h1.keep (Keeps.all hb), h2, h3⟩
theorem Gr.form {w : World} {B : Nat} {e : TypeId} {m : Nat} {v : Value} {n : Nat} {cs : List D} {F : List Nat} (h : Gr w B e m v n cs F) : ∃ a cap, v = .slice a n cap ∧ n ≤ big ∧ n ≤ cap := by
  obtain ⟨vs, h0, _⟩ := h
  rcases h0.2 with ⟨rfl, h1⟩ | ⟨g, cap, cur, rfl, hb, hg, hc, hm, _⟩
  · exact ⟨none, 0, by rw [h1], by omega, by omega⟩
  · exact ⟨_, cap, rfl, Nat.le_trans hc hm, hc⟩
theorem Gr.lt {w : World} {B : Nat} {e : TypeId} {m : Nat} {v : Value} {n : Nat} {cs : List D} {F : List Nat} (h : Gr w B e m v n cs F) : ∀ k, v.ownBlock = some k → B ≤ k ∧ k < w.heap.size := by
  obtain ⟨vs, h0, _⟩ := h; exact h0.lt
theorem Gr.ltF {w : World} {B : Nat} {e : TypeId} {m : Nat} {v : Value} {n : Nat} {cs : List D} {F : List Nat} (h : Gr w B e m v n cs F) : ∀ x ∈ F, x < w.heap.size := by
  obtain ⟨vs, h0, h1, _⟩ := h; exact h1.lt
theorem Gr.leF {w : World} {B : Nat} {e : TypeId} {m : Nat} {v : Value} {n : Nat} {cs : List D} {F : List Nat} (h : Gr w B e m v n cs F) : ∀ x ∈ F, B ≤ x := by
  obtain ⟨vs, h0, h1, h2, _⟩ := h; exact h2
theorem Gr.cell {w : World} {B : Nat} {e : TypeId} {m : Nat} {g n cap : Nat} {vs : List Value} (h : w.ownsRow B e m (.slice (some ⟨g, 0, none⟩) n cap) n vs) : ∀ i (hi : i < vs.length), w.cell? ⟨g, 0 + i, none⟩ = some vs[i] := by
  rcases h.2 with ⟨h1, _⟩ | ⟨g', cap', cur, e1, hb, hg, hc, hm, hs, htk⟩
  · cases h1
  · injection e1 with e1 _ e2
    injection e1 with e1
    injection e1 with e1
    subst e1
    intro i hi
    rw [World.cell?, Nat.zero_add, hg]
    have : (cur.toList.take (n * m))[i]? = some vs[i] := by rw [htk]; simp
    rw [List.getElem?_take] at this
    split at this
    · simpa using this
    · exact absurd this (by simp)
/-- a grown list is owned as a slice -/
theorem Gr.own {w : World} {B : Nat} {e : TypeId} {m : Nat} {v : Value} {n : Nat} {cs : List D} {F : List Nat} (h : Gr w B e m v n cs F) (hm : 0 < m) : ∃ G, D.own w v (.sl n cs) G ∧ ∀ x ∈ G, B ≤ x := by
  obtain ⟨vs, h0, h1, h2, h3⟩ := h
  have hl := h1.length
  have hn := h0.1
  by_cases hc : cs = []
  · subst hc
    have hv : vs = [] := List.length_eq_zero_iff.1 (by simpa using hl)
    subst hv
    have hn0 : n = 0 := by
      have : n * m = 0 := by simpa using hn.symm
      rcases Nat.mul_eq_zero.1 this with q | q <;> omega
    subst hn0
    rcases h0.2 with ⟨rfl, _⟩ | ⟨g, cap, cur, rfl, _⟩
    · exact ⟨[], D.own_nil _ _, by simp⟩
    · exact ⟨[], D.own_nil _ _, by simp⟩
  · rcases h0.2 with ⟨rfl, h4⟩ | ⟨g, cap, cur, rfl, hb, hg, hcp, hmx, hs, htk⟩
    · subst h4
      have : vs = [] := List.length_eq_zero_iff.1 (by simpa using hn)
      subst this
      exact absurd (List.length_eq_zero_iff.1 (by simpa using hl.symm)) hc
    · refine ⟨g :: F, ?_, fun x hx => ?_⟩
      · rw [D.own]
        exact ⟨_, _, rfl, Nat.le_trans hcp hmx, hcp, fun _ => hc, .inr ⟨hc, g, 0, F, cur, e, rfl, hg, rfl, h3 g rfl, h1.owns 0 (Gr.cell h0)⟩⟩
      · rcases List.mem_cons.1 hx with rfl | hx
        · exact hb
        · exact h2 x hx
theorem keeps_grown {w w' : World} {v : Value} {F : List Nat} (hg : w.grownBy w' v.ownBlock) (h : ∀ x, v.ownBlock = some x → x ∉ F) : Keeps (· ∈ F) w w' :=
  ⟨hg.size, fun b hb hl => hg.block b hl fun e => h b e.symm hb⟩

theorem info_split {P : Program} {e : TypeId} {z : Value} {size bytes : Nat} (hinfo : (P.info? e).map (fun i => (i.zero, i.size, i.bytes)) = some (some z, size, bytes)) : ∃ i, P.info? e = some i ∧ i.zero = some z ∧ i.size = size ∧ i.bytes = bytes := by
  cases h : P.info? e with
  | none => rw [h] at hinfo; cases hinfo
  | some i =>
    rw [h] at hinfo
    injection hinfo with hz
    injection hz with h0 h1; injection h1 with h1 h2
    exact ⟨i, rfl, h0, h1, h2⟩
/-- append(list, item): the item lies in a block of its own -/
theorem run_append_gr {P : Program} {w : World} {B : Nat} {t e ty : TypeId} {m bytes : Nat} {z : Value} (ht : P.underlying t = some (.slice e)) (hinfo : (P.info? e).map (fun i => (i.zero, i.size, i.bytes)) = some (some z, m, bytes)) (hzs : z.cells.size = m) (hm : 0 < m) (hbytes : bytes ≤ 1000)
    {v : Value} {n : Nat} {cs : List D} {F : List Nat} (hrow : Gr w B e m v n cs F) {b : Nat} {news : List Value} {ds : List D} {G : List Nat} (hl : news.length = m) (hcell : ∀ j u, news[j]? = some u → w.cell? ⟨b, j, none⟩ = some u) (h1 : ∀ u ∈ news, u.oneCell' = true)
    (hO : OwnsL w news ds G) (hG : ∀ x ∈ G, B ≤ x) (hd : ∀ x ∈ F, x ∉ G) (hv : ∀ x, v.ownBlock = some x → x ∉ G) (hn : n ≤ 4294967296) (hB : B ≤ w.heap.size) :
    ∃ g cap w', (Builtin.append_ #[t, t] ty #[v, .slice (some ⟨b, 0, none⟩) 1 1]).run P w = .ok (.slice (some ⟨g, 0, none⟩) (n + 1) cap) w' ∧
      Gr w' B e m (.slice (some ⟨g, 0, none⟩) (n + 1) cap) (n + 1) (cs ++ ds) (F ++ G) ∧ w.grownBy w' v.ownBlock ∧ (v.ownBlock = some g ∨ g = w.heap.size) ∧ g < w'.heap.size := by
  obtain ⟨i, hi, hz0, hz1, hz2⟩ := info_split hinfo
  obtain ⟨vs, r0, r1, r2, r3⟩ := hrow
  obtain ⟨g, cap, w', q1, q2, q3, q4, q5⟩ := run_append_lies (P := P) w t ty B e i z m bytes ht hi hz0 hz1 hz2 hzs hm v n vs r0 ⟨b, 0, none⟩ 1 1 news (by rw [hl, Nat.one_mul])
    (fun j u hj => by
      have := hcell j u hj
      unfold Addr.add
      split
      · rename_i h0; subst h0; exact this
      · simpa using this) h1 (by decide) (by unfold maxLen; omega) (Nat.le_trans (Nat.mul_le_mul_left _ hbytes) (by omega)) hB _ rfl
  have hkF := keeps_grown (F := F) q3 r3
  have hkG := keeps_grown (F := G) q3 hv
  refine ⟨g, cap, w', q1, ⟨_, q2, (r1.keep hkF).append (hO.keep hkG) hd, fun x hx => ?_, fun x hx => ?_⟩, q3, q4, q5⟩
  · rcases List.mem_append.1 hx with q | q
    · exact r2 x q
    · exact hG x q
  · simp only [Value.ownBlock, Option.some.injEq] at hx
    subst hx
    rw [List.mem_append]
    rcases q4 with q | q
    · rintro (p | p)
      · exact r3 _ q p
      · exact hv _ q p
    · rintro (p | p)
      · have := r1.lt _ p; omega
      · have := hO.lt _ p; omega
/-- .. at the list of a plain region's operations -/
theorem wpList_append_gr {P : Program} {ops : Array Oper} {rest : List Oper} {o : Oper} {a : Act} {w : World} {Q : Exit → Act → World → Prop} {B : Nat} {t e : TypeId} {m bytes : Nat} {z : Value} (ht : P.underlying t = some (.slice e)) (hinfo : (P.info? e).map (fun i => (i.zero, i.size, i.bytes)) = some (some z, m, bytes)) (hzs : z.cells.size = m) (hm : 0 < m) (hbytes : bytes ≤ 1000)
    (hgd : o.guard = none) (s x : Operand) (ho : o.op = .call { callee := .builtin .append, args := #[s, x], argTypes := #[t, t] })
    {v : Value} {n : Nat} {cs : List D} {F : List Nat} {b : Nat} {news : List Value} {ds : List D} {G : List Nat} (hs : a.eval s = v) (hx : a.eval x = .slice (some ⟨b, 0, none⟩) 1 1) (hrow : Gr w B e m v n cs F) (hl : news.length = m) (hcell : ∀ j u, news[j]? = some u → w.cell? ⟨b, j, none⟩ = some u) (h1 : ∀ u ∈ news, u.oneCell' = true)
    (hO : OwnsL w news ds G) (hG : ∀ x ∈ G, B ≤ x) (hd : ∀ x ∈ F, x ∉ G) (hv : ∀ x, v.ownBlock = some x → x ∉ G) (hn : n ≤ 4294967296) (hB : B ≤ w.heap.size)
    (h : ∀ g cap w', Gr w' B e m (.slice (some ⟨g, 0, none⟩) (n + 1) cap) (n + 1) (cs ++ ds) (F ++ G) → w.grownBy w' v.ownBlock → (v.ownBlock = some g ∨ g = w.heap.size) → g < w'.heap.size → wpList P ops Q rest (a.put o.dst (.slice (some ⟨g, 0, none⟩) (n + 1) cap)) w') : wpList P ops Q (o :: rest) a w := by
  obtain ⟨g, cap, w', hr, h2, h3, h4, h5⟩ := run_append_gr (ty := o.type) ht hinfo hzs hm hbytes hrow hl hcell h1 hO hG hd hv hn hB
  refine wpList_plain hgd fun _ hK => ?_
  unfold Oper.wp execOp
  simp only [ho, resolve, invoke, builtin, Sem.run_bind, Sem.run_pure, Result.andThen_ok, List.map_toArray, List.map_cons, List.map_nil, hs, hx, hr]
  exact hK _ _ (h g cap w' h2 h3 h4 h5)
/-- .. at a step of a region that draws its order -/
theorem step_append_gr {P : Program} {ops : Array Oper} {o : Oper} {a : Act} {w : World} {K : Act → World → Prop} {Q : Exit → Act → World → Prop} {E : Prop} {B : Nat} {t e : TypeId} {m bytes : Nat} {z : Value} (ht : P.underlying t = some (.slice e)) (hinfo : (P.info? e).map (fun i => (i.zero, i.size, i.bytes)) = some (some z, m, bytes)) (hzs : z.cells.size = m) (hm : 0 < m) (hbytes : bytes ≤ 1000)
    (hgd : o.guard = none) (s x : Operand) (ho : o.op = .call { callee := .builtin .append, args := #[s, x], argTypes := #[t, t] })
    {v : Value} {n : Nat} {cs : List D} {F : List Nat} {b : Nat} {news : List Value} {ds : List D} {G : List Nat} (hs : a.eval s = v) (hx : a.eval x = .slice (some ⟨b, 0, none⟩) 1 1) (hrow : Gr w B e m v n cs F) (hl : news.length = m) (hcell : ∀ j u, news[j]? = some u → w.cell? ⟨b, j, none⟩ = some u) (h1 : ∀ u ∈ news, u.oneCell' = true)
    (hO : OwnsL w news ds G) (hG : ∀ x ∈ G, B ≤ x) (hd : ∀ x ∈ F, x ∉ G) (hv : ∀ x, v.ownBlock = some x → x ∉ G) (hn : n ≤ 4294967296) (hB : B ≤ w.heap.size)
    (h : ∀ g cap w', Gr w' B e m (.slice (some ⟨g, 0, none⟩) (n + 1) cap) (n + 1) (cs ++ ds) (F ++ G) → w.grownBy w' v.ownBlock → (v.ownBlock = some g ∨ g = w.heap.size) → g < w'.heap.size → K (a.put o.dst (.slice (some ⟨g, 0, none⟩) (n + 1) cap)) w') :
    if Region.wanted o (yielded ops a.tmps) = true then Oper.wp P o a w K Q else E := by
  have hw : Region.wanted o (yielded ops a.tmps) = true := by simp [Region.wanted, hgd]
  rw [if_pos hw]
  obtain ⟨g, cap, w', hr, h2, h3, h4, h5⟩ := run_append_gr (ty := o.type) ht hinfo hzs hm hbytes hrow hl hcell h1 hO hG hd hv hn hB
  unfold Oper.wp execOp
  simp only [ho, resolve, invoke, builtin, Sem.run_bind, Sem.run_pure, Result.andThen_ok, List.map_toArray, List.map_cons, List.map_nil, hs, hx, hr]
  exact h g cap w' h2 h3 h4 h5
theorem Gr.setCell {w : World} {B : Nat} {e : TypeId} {m : Nat} {v : Value} {n : Nat} {cs : List D} {F : List Nat} (h : Gr w B e m v n cs F) {p : Addr} (hp : p.block < B) (u : Value) : Gr (w.setCell p u) B e m v n cs F := by
  obtain ⟨vs, h0, h1, h2, h3⟩ := h
  refine ⟨vs, h0.kept (row := some p.block) ⟨rfl, rfl, rfl, by simp [World.setCell], fun k hk hne => Below.heap_setCell _ _ _ _ (fun e => hne (by rw [e]))⟩ ?_, h1.keep ((Keeps.refl _ _).setCell (fun q _ => by have := h2 _ q; omega) _), h2, h3⟩
  rcases hv : v.ownBlock with _ | x
  · exact .inl rfl
  · right; intro e; injection e with e; have := (h0.lt x hv).1; omega
/-- behind an append: what the region's world keeps of an elder one -/
theorem below_grown {B : Nat} {W w w' : World} {v : Value} (h : Below B W w) (hg : w.grownBy w' v.ownBlock) (hB : B ≤ w.heap.size) (hv : ∀ k, v.ownBlock = some k → B ≤ k) : Below B W w' := Below.grown h hg hB hv
theorem frz1 (w : World) (c0 : Array Value) (t0 : TypeId) (i n : Nat) (hn : n = w.heap.size) : (w.alloc (.cells c0 t0)).frozen? ⟨n, i, none⟩ = false := World.frozen?_alloc_at c0 t0 n i hn
/-- behind growth: other blocks' cells and marks -/
theorem grown_cell {w w' : World} {v : Value} (hg : w.grownBy w' v.ownBlock) {b : Nat} (hb : b < w.heap.size) (hne : ∀ x, v.ownBlock = some x → x ≠ b) : (∀ o, w'.cell? ⟨b, o, none⟩ = w.cell? ⟨b, o, none⟩) ∧ (∀ o, w'.frozen? ⟨b, o, none⟩ = w.frozen? ⟨b, o, none⟩) := by
  have := hg.block b hb fun e => hne b e.symm rfl
  exact ⟨fun o => World.cell?_of_block (a := ⟨b, o, none⟩) this, fun o => World.frozen?_of_block (a := ⟨b, o, none⟩) this⟩
/-- a step of a region that draws its order, by what it does -/
theorem step_does {P : Program} {ops : Array Oper} {o : Oper} {a : Act} {w : World} {K : Act → World → Prop} {Q : Exit → Act → World → Prop} {E : Prop} (hgd : o.guard = none) (h : Does P o a.eval w fun v w' => K (a.put o.dst v) w') :
    if Region.wanted o (yielded ops a.tmps) = true then Oper.wp P o a w K Q else E := by
  have hw : Region.wanted o (yielded ops a.tmps) = true := by simp [Region.wanted, hgd]
  rw [if_pos hw]
  exact Does.wp h fun _ _ h => h
/-- append(list, src...): the source's cells lie in a row -/
theorem run_append_grs {P : Program} {w : World} {B : Nat} {t e ty : TypeId} {m bytes : Nat} {z : Value} (ht : P.underlying t = some (.slice e)) (hinfo : (P.info? e).map (fun i => (i.zero, i.size, i.bytes)) = some (some z, m, bytes)) (hzs : z.cells.size = m) (hm : 0 < m) (hbytes : bytes ≤ 1000)
    {v : Value} {n : Nat} {cs : List D} {F : List Nat} (hrow : Gr w B e m v n cs F) {b off k c : Nat} {news : List Value} {ds : List D} {G : List Nat} (hl : news.length = k * m) (hcell : ∀ j u, news[j]? = some u → w.cell? ⟨b, off + j, none⟩ = some u) (h1 : ∀ u ∈ news, u.oneCell' = true)
    (hO : OwnsL w news ds G) (hG : ∀ x ∈ G, B ≤ x) (hd : ∀ x ∈ F, x ∉ G) (hv : ∀ x, v.ownBlock = some x → x ∉ G) (hn : n + k ≤ 4294967296) (hB : B ≤ w.heap.size) :
    ∃ v' w', (Builtin.append_ #[t, t] ty #[v, .slice (some ⟨b, off, none⟩) k c]).run P w = .ok v' w' ∧
      Gr w' B e m v' (n + k) (cs ++ ds) (F ++ G) ∧ w.grownBy w' v.ownBlock ∧ (v'.ownBlock = v.ownBlock ∨ v'.ownBlock = some w.heap.size) ∧ (v ≠ .slice none 0 0 → v' ≠ .slice none 0 0) := by
  obtain ⟨i, hi, hz0, hz1, hz2⟩ := info_split hinfo
  obtain ⟨vs, r0, r1, r2, r3⟩ := hrow
  obtain ⟨v', w', q1, q2, q3, q4, q5⟩ := run_append_own_at (P := P) w B t ty e i z m bytes ht hi hz0 hz1 hz2 hzs hm v n vs r0 ⟨b, off, none⟩ k c news hl
    (fun j u hj => by
      have := hcell j u hj
      unfold Addr.add
      split
      · rename_i h0; subst h0; exact this
      · simpa using this) h1 (by unfold maxLen; omega) (Nat.le_trans (Nat.mul_le_mul_left _ hbytes) (by omega)) hB
  have hkF := keeps_grown (F := F) q3 r3
  have hkG := keeps_grown (F := G) q3 hv
  refine ⟨v', w', q1, ⟨_, q2, (r1.keep hkF).append (hO.keep hkG) hd, fun x hx => ?_, fun x hx => ?_⟩, q3, q5, fun hne hn => hne (q4.1 hn).1⟩
  · rcases List.mem_append.1 hx with q | q
    · exact r2 x q
    · exact hG x q
  · rw [List.mem_append]
    rcases q5 with q | q
    · rw [q] at hx
      rintro (p | p)
      · exact r3 _ hx p
      · exact hv _ hx p
    · rw [q] at hx
      injection hx with hx
      rintro (p | p)
      · have := r1.lt _ p; omega
      · have := hO.lt _ p; omega
/-- .. at the list of a plain region's operations -/
theorem wpList_append_grs {P : Program} {ops : Array Oper} {rest : List Oper} {o : Oper} {a : Act} {w : World} {Q : Exit → Act → World → Prop} {B : Nat} {t e : TypeId} {m bytes : Nat} {z : Value} (ht : P.underlying t = some (.slice e)) (hinfo : (P.info? e).map (fun i => (i.zero, i.size, i.bytes)) = some (some z, m, bytes)) (hzs : z.cells.size = m) (hm : 0 < m) (hbytes : bytes ≤ 1000)
    (hgd : o.guard = none) (s x : Operand) (ho : o.op = .call { callee := .builtin .append, args := #[s, x], argTypes := #[t, t] })
    {v : Value} {n : Nat} {cs : List D} {F : List Nat} {b off k c : Nat} {news : List Value} {ds : List D} {G : List Nat} (hs : a.eval s = v) (hx : a.eval x = .slice (some ⟨b, off, none⟩) k c) (hrow : Gr w B e m v n cs F) (hl : news.length = k * m) (hcell : ∀ j u, news[j]? = some u → w.cell? ⟨b, off + j, none⟩ = some u) (h1 : ∀ u ∈ news, u.oneCell' = true)
    (hO : OwnsL w news ds G) (hG : ∀ x ∈ G, B ≤ x) (hd : ∀ x ∈ F, x ∉ G) (hv : ∀ x, v.ownBlock = some x → x ∉ G) (hn : n + k ≤ 4294967296) (hB : B ≤ w.heap.size)
    (h : ∀ v' w', Gr w' B e m v' (n + k) (cs ++ ds) (F ++ G) → w.grownBy w' v.ownBlock → (v'.ownBlock = v.ownBlock ∨ v'.ownBlock = some w.heap.size) → (v ≠ .slice none 0 0 → v' ≠ .slice none 0 0) → wpList P ops Q rest (a.put o.dst v') w') : wpList P ops Q (o :: rest) a w := by
  obtain ⟨v', w', hr, h2, h3, h4, h5⟩ := run_append_grs (ty := o.type) (c := c) ht hinfo hzs hm hbytes hrow hl hcell h1 hO hG hd hv hn hB
  refine wpList_plain hgd fun _ hK => ?_
  unfold Oper.wp execOp
  simp only [ho, resolve, invoke, builtin, Sem.run_bind, Sem.run_pure, Result.andThen_ok, List.map_toArray, List.map_cons, List.map_nil, hs, hx, hr]
  exact hK _ _ (h v' w' h2 h3 h4 h5)
/-- .. at a step of a region that draws its order -/
theorem step_append_grs {P : Program} {ops : Array Oper} {o : Oper} {a : Act} {w : World} {K : Act → World → Prop} {Q : Exit → Act → World → Prop} {E : Prop} {B : Nat} {t e : TypeId} {m bytes : Nat} {z : Value} (ht : P.underlying t = some (.slice e)) (hinfo : (P.info? e).map (fun i => (i.zero, i.size, i.bytes)) = some (some z, m, bytes)) (hzs : z.cells.size = m) (hm : 0 < m) (hbytes : bytes ≤ 1000)
    (hgd : o.guard = none) (s x : Operand) (ho : o.op = .call { callee := .builtin .append, args := #[s, x], argTypes := #[t, t] })
    {v : Value} {n : Nat} {cs : List D} {F : List Nat} {b off k c : Nat} {news : List Value} {ds : List D} {G : List Nat} (hs : a.eval s = v) (hx : a.eval x = .slice (some ⟨b, off, none⟩) k c) (hrow : Gr w B e m v n cs F) (hl : news.length = k * m) (hcell : ∀ j u, news[j]? = some u → w.cell? ⟨b, off + j, none⟩ = some u) (h1 : ∀ u ∈ news, u.oneCell' = true)
    (hO : OwnsL w news ds G) (hG : ∀ x ∈ G, B ≤ x) (hd : ∀ x ∈ F, x ∉ G) (hv : ∀ x, v.ownBlock = some x → x ∉ G) (hn : n + k ≤ 4294967296) (hB : B ≤ w.heap.size)
    (h : ∀ v' w', Gr w' B e m v' (n + k) (cs ++ ds) (F ++ G) → w.grownBy w' v.ownBlock → (v'.ownBlock = v.ownBlock ∨ v'.ownBlock = some w.heap.size) → (v ≠ .slice none 0 0 → v' ≠ .slice none 0 0) → K (a.put o.dst v') w') :
    if Region.wanted o (yielded ops a.tmps) = true then Oper.wp P o a w K Q else E := by
  have hw : Region.wanted o (yielded ops a.tmps) = true := by simp [Region.wanted, hgd]
  rw [if_pos hw]
  obtain ⟨v', w', hr, h2, h3, h4, h5⟩ := run_append_grs (ty := o.type) (c := c) ht hinfo hzs hm hbytes hrow hl hcell h1 hO hG hd hv hn hB
  unfold Oper.wp execOp
  simp only [ho, resolve, invoke, builtin, Sem.run_bind, Sem.run_pure, Result.andThen_ok, List.map_toArray, List.map_cons, List.map_nil, hs, hx, hr]
  exact h v' w' h2 h3 h4 h5
/-- a made row of known cells -/
theorem Gr.lit {w : World} {B N : Nat} (e : TypeId) {m n : Nat} {vs : List Value} {cs : List D} {F : List Nat} (hN : N = w.heap.size) (hB : B ≤ w.heap.size) (hl : vs.length = n * m) (hn : n ≤ maxLen) (h : OwnsL w vs cs F) (hF : ∀ x ∈ F, B ≤ x) :
    Gr (w.alloc (.cells vs.toArray e)) B e m (.slice (some ⟨N, 0, none⟩) n n) n cs F := by
  subst hN
  refine ⟨vs, ⟨hl, .inr ⟨w.heap.size, n, vs.toArray, rfl, hB, heap_alloc_new w _, Nat.le_refl _, hn, by simp [hl], ?_⟩⟩, h.keep ((Keeps.refl _ _).alloc _), hF, fun x hx => ?_⟩
  · simp [← hl]
  · injection hx with hx; subst hx; exact fun q => Nat.lt_irrefl _ (h.lt _ q)
/-- a list that is owned as a slice is a grown one -/
theorem Gr.item {w : World} {B : Nat} {e : TypeId} {m : Nat} {g n cap : Nat} {cs : List D} {F : List Nat} (h : Gr w B e m (.slice (some ⟨g, 0, none⟩) n cap) n cs F) : ∃ vs, vs.length = n * m ∧ (∀ i (hi : i < vs.length), w.cell? ⟨g, 0 + i, none⟩ = some vs[i]) ∧ OwnsL w vs cs F := by
  obtain ⟨vs, h0, h1, _⟩ := h
  exact ⟨vs, h0.1, Gr.cell h0, h1⟩
end Go.Proofs.Ytglhbaigigdeeaa
/- A part of data that is owned is put anew. -/
namespace Go.Proofs.Ytglhbaigigdeeaa
set_option maxRecDepth 100000
open Go.RowKit

theorem D.owns_upd {w : World} {b : Nat} : ∀ (cs : List D) (off : Nat) (F : List Nat), D.owns w b off cs F → ∀ j (hj : j < cs.length), ∃ Fj A B, F = A ++ Fj ++ B ∧
    (∃ v, w.cell? ⟨b, off + j, none⟩ = some v ∧ D.own w v cs[j] Fj) ∧ (∀ x ∈ Fj, x ∉ A ∧ x ∉ B) ∧
    ∀ (w' : World) (d' : D), (∃ v', w'.cell? ⟨b, off + j, none⟩ = some v' ∧ D.own w' v' d' Fj) → (∀ i, i < cs.length → i ≠ j → w'.cell? ⟨b, off + i, none⟩ = w.cell? ⟨b, off + i, none⟩) →
      Keeps (fun x => x ∈ A ∨ x ∈ B) w w' → D.owns w' b off (cs.set j d') F
  | [], _, _, _, j, hj => absurd hj (by simp)
  | c :: cs, off, F, h, 0, _ => by
    rw [D.owns] at h
    obtain ⟨F1, F2, rfl, hd, hv, hr⟩ := h
    refine ⟨F1, [], F2, by simp, by simpa using hv, fun x hx => ⟨by simp, hd x hx⟩, fun w' d' hv' hc hk => ?_⟩
    rw [List.set_cons_zero, D.owns]
    refine ⟨F1, F2, rfl, hd, by simpa using hv', D.owns_keep cs (off + 1) F2 (fun i hi => ?_) (hk.mono fun x hx => .inr hx) hr⟩
    have := hc (i + 1) (by simpa using hi) (by omega)
    rw [show off + (i + 1) = off + 1 + i by omega] at this
    exact this
  | c :: cs, off, F, h, j + 1, hj => by
    rw [D.owns] at h
    obtain ⟨F1, F2, rfl, hd, hv, hr⟩ := h
    obtain ⟨Fj, A, B, rfl, hvj, hdj, hup⟩ := D.owns_upd cs (off + 1) F2 hr j (by simpa using hj)
    refine ⟨Fj, F1 ++ A, B, by simp [List.append_assoc], ?_, fun x hx => ⟨?_, (hdj x hx).2⟩, fun w' d' hv' hc hk => ?_⟩
    · rw [show off + (j + 1) = off + 1 + j by omega]; simpa using hvj
    · simp only [List.mem_append, not_or]
      exact ⟨fun q => hd x q (by simp [hx]), (hdj x hx).1⟩
    · rw [List.set_cons_succ, D.owns]
      obtain ⟨v, q0, q1⟩ := hv
      refine ⟨F1, A ++ Fj ++ B, rfl, hd, ⟨v, ?_, D.own_keep _ _ _ (hk.mono fun x hx => .inl (by simp [show x ∈ F1 from hx])) q1⟩, hup w' d' ?_ (fun i hi hij => ?_) (hk.mono fun x hx => ?_)⟩
      · exact (hc 0 (by simp) (by omega)).trans q0
      · rw [show off + (j + 1) = off + 1 + j by omega] at hv'; exact hv'
      · have := hc (i + 1) (by simpa using hi) (by omega)
        rw [show off + (i + 1) = off + 1 + i by omega] at this
        exact this
      · rcases hx with q | q
        · exact .inl (by simp [q])
        · exact .inr q

theorem D.own_slice {w : World} {a : Option Addr} {n m cap : Nat} {cs : List D} {F : List Nat} (h : D.own w (.slice a m cap) (.sl n cs) F) (hne : cs ≠ []) : m = n ∧ ∃ b off F', a = some ⟨b, off, none⟩ ∧ F = b :: F' ∧ b ∉ F' ∧ b < w.heap.size ∧ (∀ p, w.frozen? ⟨b, p, none⟩ = false) ∧ D.owns w b off cs F' := by
  rw [D.own] at h
  obtain ⟨a', cap', e, h1, h2, h3, h4⟩ := h
  injection e with e0 e1 e2
  subst e0 e1 e2
  rcases h4 with ⟨h4, _⟩ | ⟨_, b, off, F', cur, e, q0, q1, rfl, q3, q4⟩
  · exact absurd h4 hne
  · exact ⟨rfl, b, off, F', q0, rfl, q3, lt_of_heap q1, fun p => by simp [World.frozen?, q1], q4⟩

/-- a leaf is stored -/
theorem D.own_store {w : World} {b off n cap : Nat} {cs : List D} {F : List Nat} (h : D.own w (.slice (some ⟨b, off, none⟩) n cap) (.sl n cs) F) {j : Nat} (hj : j < cs.length) {u : Value} {d' : D}
    (hl : ∀ v G, D.own w v cs[j] G → G = []) (hu : ∀ w', D.own w' u d' []) : D.own (w.setCell ⟨b, off + j, none⟩ u) (.slice (some ⟨b, off, none⟩) n cap) (.sl n (cs.set j d')) F := by
  rw [D.own] at h ⊢
  obtain ⟨a', cap', e, h1, h2, h3, h4⟩ := h
  injection e with e0 e1 e2
  subst e2
  have hne : cs ≠ [] := by intro e; subst e; simp at hj
  refine ⟨_, _, rfl, h1, h2, fun _ => by intro e; exact hne (by simpa using e), ?_⟩
  rcases h4 with ⟨h4, _⟩ | ⟨_, b', off', F', cur, e, q0, q1, rfl, q3, q4⟩
  · exact absurd h4 hne
  rw [← e0] at q0
  injection q0 with q0
  injection q0 with q5 q6
  subst q5 q6
  refine .inr ⟨by intro e; exact hne (by simpa using e), b, off, F', _, _, rfl, heap_setCell q1 u, rfl, q3, ?_⟩
  obtain ⟨Fj, A, B, rfl, ⟨v, r0, r1⟩, hdj, hup⟩ := D.owns_upd cs off F' q4 j hj
  have hF := hl v Fj r1
  subst hF
  refine hup _ d' ⟨u, ?_, hu _⟩ (fun i hi hij => ?_) ?_
  · exact World.cell?_setCell_same (u := v) _ _ _ r0
  · exact World.cell?_setCell_other _ _ _ _ (by intro e; injection e with _ e; omega)
  · refine (Keeps.refl _ _).setCell (fun q _ => q3 ?_) _
    have q : b ∈ A ∨ b ∈ B := q
    simpa using q

/-- a part of its own is put anew -/
theorem D.own_sub {w : World} {b off n cap : Nat} {cs : List D} {F : List Nat} (h : D.own w (.slice (some ⟨b, off, none⟩) n cap) (.sl n cs) F) {j : Nat} (hj : j < cs.length) :
    ∃ Fj v, w.cell? ⟨b, off + j, none⟩ = some v ∧ D.own w v cs[j] Fj ∧ (∀ x ∈ Fj, x ∈ F) ∧ b ∉ Fj ∧
      ∀ (w' : World) (d' : D), D.own w' v d' Fj → Keeps (· ∉ Fj) w w' → D.own w' (.slice (some ⟨b, off, none⟩) n cap) (.sl n (cs.set j d')) F := by
  rw [D.own] at h
  obtain ⟨a', cap', e, h1, h2, h3, h4⟩ := h
  injection e with e0 e1 e2
  subst e2
  have hne : cs ≠ [] := by intro e; subst e; simp at hj
  rcases h4 with ⟨h4, _⟩ | ⟨_, b', off', F', cur, e, q0, q1, rfl, q3, q4⟩
  · exact absurd h4 hne
  rw [← e0] at q0
  injection q0 with q0
  injection q0 with q5 q6
  subst q5 q6
  obtain ⟨Fj, A, B, rfl, ⟨v, r0, r1⟩, hdj, hup⟩ := D.owns_upd cs off F' q4 j hj
  have hbj : b ∉ Fj := fun q => q3 (by simp [q])
  refine ⟨Fj, v, r0, r1, fun x hx => by simp [hx], hbj, fun w' d' hv' hk => ?_⟩
  have hb := lt_of_heap q1
  rw [D.own]
  refine ⟨_, _, rfl, h1, h2, fun _ => by intro e; exact hne (by simpa using e), .inr ⟨by intro e; exact hne (by simpa using e), b, off, _, cur, _, rfl, (hk.block b hbj hb).trans q1, rfl, q3, hup w' d' ⟨v, (hk.cell hbj hb).trans r0, hv'⟩ (fun i _ _ => hk.cell hbj hb) (hk.mono fun x hx => ?_)⟩⟩
  intro hxj
  have := hdj x hxj
  rcases hx with q | q
  · exact this.1 q
  · exact this.2 q
end Go.Proofs.Ytglhbaigigdeeaa
/- Letters, digits, and the names of variables and symbols: plain. -/
namespace Go.Proofs.Ytglhbaigigdeeaa
set_option maxRecDepth 100000
open Go.RowKit

/-- byte i of a string; 0 behind its end -/
def byteAt (s : ByteArray) (i : Nat) : Nat := if h : i < s.size then s[i].toNat else 0
theorem byteAt_eq {s : ByteArray} {i : Nat} (h : i < s.size) : s[i].toNat = byteAt s i := by unfold byteAt; rw [dif_pos h]
theorem byteAt_lt (s : ByteArray) (i : Nat) : byteAt s i < 256 := by
  unfold byteAt
  split
  · exact UInt8.toNat_lt _
  · decide

def lowB (n : Nat) : Bool := decide (97 ≤ n) && decide (n ≤ 122)
def digB (n : Nat) : Bool := decide (48 ≤ n) && decide (n ≤ 57)
def upB (n : Nat) : Bool := decide (65 ≤ n) && decide (n ≤ 90)
theorem lowB_iff (n : Nat) : lowB n = true ↔ 97 ≤ n ∧ n ≤ 122 := by simp [lowB]
theorem digB_iff (n : Nat) : digB n = true ↔ 48 ≤ n ∧ n ≤ 57 := by simp [digB]
theorem upB_iff (n : Nat) : upB n = true ↔ 65 ≤ n ∧ n ≤ 90 := by simp [upB]

/-- may byte b stand at place i of a variable's name, of a symbol's name? -/
def varCh (i b : Nat) : Bool := if i = 0 then upB b else lowB b || digB b
def symCh (i b : Nat) : Bool := if i = 0 then lowB b else lowB b || digB b || b == 95
/-- the first k bytes pass -/
def allCh (p : Nat → Nat → Bool) (s : ByteArray) (k : Nat) : Bool := (List.range k).all fun i => p i (byteAt s i)
theorem allCh_zero (p : Nat → Nat → Bool) (s : ByteArray) : allCh p s 0 = true := by simp [allCh]
theorem allCh_succ (p : Nat → Nat → Bool) (s : ByteArray) (k : Nat) : allCh p s (k + 1) = (allCh p s k && p k (byteAt s k)) := by
  simp [allCh, List.range_succ]
theorem allCh_no {p : Nat → Nat → Bool} {s : ByteArray} {i k : Nat} (h : i < k) (hp : p i (byteAt s i) = false) : allCh p s k = false := by
  rw [Bool.eq_false_iff]
  intro e
  unfold allCh at e
  rw [List.all_eq_true] at e
  have := e i (List.mem_range.2 h)
  rw [hp] at this
  exact absurd this (by simp)

/-- does the list hold the string? -/
def hasStr (l : List ByteArray) (s : ByteArray) : Bool := l.any fun r => decide (s = r)
theorem hasStr_iff (l : List ByteArray) (s : ByteArray) : hasStr l s = true ↔ s ∈ l := by simp [hasStr]

def reservedL : List ByteArray := [⟨#[116, 114, 117, 101]⟩, ⟨#[102, 97, 108, 115, 101]⟩, ⟨#[116, 114, 117, 116, 104]⟩, ⟨#[98, 111, 116, 104]⟩, ⟨#[101, 105, 116, 104, 101, 114]⟩, ⟨#[105, 102]⟩, ⟨#[97, 108, 108]⟩, ⟨#[115, 111, 109, 101]⟩]
def varName (s : ByteArray) : Bool := allCh varCh s s.size && decide (1 ≤ s.size) && decide (s.size ≤ 4)
def symName (s : ByteArray) : Bool := allCh symCh s s.size && decide (1 ≤ s.size) && decide (s.size ≤ 6) && !hasStr reservedL s
end Go.Proofs.Ytglhbaigigdeeaa
/- Terms, plain: size, depth, names. -/
namespace Go.Proofs.Ytglhbaigigdeeaa
set_option maxRecDepth 100000
open Go.RowKit
mutual
def Tm.size : Tm → Nat
  | .node _ ts => 1 + Tm.sizes ts
def Tm.sizes : List Tm → Nat
  | [] => 0
  | t :: ts => Tm.size t + Tm.sizes ts
end
mutual
def Tm.depth : Tm → Nat
  | .node _ ts => Tm.depths ts + 1
def Tm.depths : List Tm → Nat
  | [] => 0
  | t :: ts => max (Tm.depth t) (Tm.depths ts)
end
mutual
/-- all nodes have valid names and as many arguments as they may have -/
def Tm.names : Tm → Bool
  | .node n ts => if varName n then ts.isEmpty else symName n && decide (ts.length ≤ 4) && Tm.namesAll ts
def Tm.namesAll : List Tm → Bool
  | [] => true
  | t :: ts => Tm.names t && Tm.namesAll ts
end

theorem Tm.sizes_take : ∀ (ts : List Tm) (k : Nat) (hk : k < ts.length), Tm.sizes (ts.take (k + 1)) = Tm.sizes (ts.take k) + ts[k].size
  | [], k, hk => absurd hk (by simp)
  | t :: ts, 0, _ => by simp [Tm.sizes]
  | t :: ts, k + 1, hk => by
    have := Tm.sizes_take ts k (by simpa using hk)
    simp only [List.take_succ_cons, Tm.sizes, this, List.getElem_cons_succ]; omega
theorem Tm.sizes_le : ∀ (ts : List Tm) (k : Nat), Tm.sizes (ts.take k) ≤ Tm.sizes ts
  | [], k => by simp
  | t :: ts, 0 => by simp [Tm.sizes]
  | t :: ts, k + 1 => by
    have := Tm.sizes_le ts k
    simp only [List.take_succ_cons, Tm.sizes]; omega
theorem Tm.depths_take : ∀ (ts : List Tm) (k : Nat) (hk : k < ts.length), Tm.depths (ts.take (k + 1)) = max (Tm.depths (ts.take k)) ts[k].depth
  | [], k, hk => absurd hk (by simp)
  | t :: ts, 0, _ => by simp [Tm.depths]
  | t :: ts, k + 1, hk => by
    have := Tm.depths_take ts k (by simpa using hk)
    simp only [List.take_succ_cons, Tm.depths, this, List.getElem_cons_succ]; omega
theorem Tm.namesAll_iff : ∀ ts : List Tm, Tm.namesAll ts = true ↔ ∀ t ∈ ts, Tm.names t = true
  | [] => by simp [Tm.namesAll]
  | t :: ts => by simp [Tm.namesAll, Tm.namesAll_iff ts]
theorem Tm.namesAll_no {ts : List Tm} {t : Tm} (h : t ∈ ts) (hn : Tm.names t = false) : Tm.namesAll ts = false := by
  rw [Bool.eq_false_iff]; intro e
  rw [(Tm.namesAll_iff ts).1 e t h] at hn
  exact absurd hn (by simp)
theorem Tm.namesAll_take : ∀ (ts : List Tm) (k : Nat) (hk : k < ts.length), Tm.namesAll (ts.take (k + 1)) = (Tm.namesAll (ts.take k) && Tm.names ts[k])
  | [], k, hk => absurd hk (by simp)
  | t :: ts, 0, _ => by simp [Tm.namesAll]
  | t :: ts, k + 1, hk => by
    have := Tm.namesAll_take ts k (by simpa using hk)
    simp only [List.take_succ_cons, Tm.namesAll, this, List.getElem_cons_succ, Bool.and_assoc]

/-- the size and the depth are no more than the bulk and one -/
theorem Tm.size_bulk (t : Tm) : t.size ≤ t.bulk + 1 := by
  refine Tm.ind (P := fun t => t.size ≤ t.bulk + 1) (fun n ts ih => ?_) t
  rw [Tm.size, Tm.bulk]
  have key : ∀ ts : List Tm, (∀ a ∈ ts, a.size ≤ a.bulk + 1) → Tm.sizes ts ≤ Tm.bulks ts + ts.length := by
    intro ts
    induction ts with
    | nil => intro _; simp [Tm.sizes]
    | cons t ts iht =>
      intro h
      have h0 := h t (by simp)
      have h1 := iht fun a ha => h a (by simp [ha])
      simp only [Tm.sizes, Tm.bulks, List.length_cons]; omega
  have := key ts ih
  omega
theorem Tm.depth_size (t : Tm) : t.depth ≤ t.size := by
  refine Tm.ind (P := fun t => t.depth ≤ t.size) (fun n ts ih => ?_) t
  rw [Tm.size, Tm.depth]
  have key : ∀ ts : List Tm, (∀ a ∈ ts, a.depth ≤ a.size) → Tm.depths ts ≤ Tm.sizes ts := by
    intro ts
    induction ts with
    | nil => intro _; simp [Tm.depths]
    | cons t ts iht =>
      intro h
      have h0 := h t (by simp)
      have h1 := iht fun a ha => h a (by simp [ha])
      simp only [Tm.depths, Tm.sizes]; omega
  have := key ts ih
  omega
theorem Tm.size_pos (t : Tm) : 0 < t.size := by cases t; rw [Tm.size]; omega

/-- r stands for s up to m: it is s, or both are greater -/
def Upto (m s r : Nat) : Prop := (s ≤ m → r = s) ∧ (m < s → m < r) ∧ r ≤ s
theorem Upto.add {m a b x y : Nat} (h : Upto m a x) (k : Upto m b y) : Upto m (a + b) (x + y) := by
  unfold Upto at *; omega
theorem Upto.le {m s r : Nat} (h : Upto m s r) : decide (r ≤ m) = decide (s ≤ m) := by
  unfold Upto at h
  rw [decide_eq_decide]; omega

/-- small: at most 30 nodes, at most 8 deep -/
def Tm.small (t : Tm) : Bool := decide (t.size ≤ 30) && decide (t.depth ≤ 8)
def Tm.valid (t : Tm) : Bool := t.small && t.names
def eqSign : ByteArray := ⟨#[61]⟩
/-- a valid atom -/
def Tm.atom : Tm → Bool
  | .node n ts => if n = eqSign then decide (ts.length = 2) && Tm.small (.node n ts) && Tm.namesAll ts else symName n && Tm.valid (.node n ts)
/-- a valid term or atom -/
def Tm.expr (t : Tm) : Bool := t.valid || t.atom
end Go.Proofs.Ytglhbaigigdeeaa
/- The texts of expressions. Plain. -/
namespace Go.Proofs.Ytglhbaigigdeeaa
set_option maxRecDepth 100000
open Go.RowKit

/-- bytes as a string -/
def bs (l : List UInt8) : ByteArray := ⟨l.toArray⟩
theorem bs_append (a b : List UInt8) : bs a ++ bs b = bs (a ++ b) := ByteArray.mk_append_mk a b
theorem bs_of (s : ByteArray) : bs s.data.toList = s := by cases s; simp [bs]
theorem bs_size (l : List UInt8) : (bs l).size = l.length := by simp [bs, ByteArray.size]
theorem bs_left (s : ByteArray) (l : List UInt8) : s ++ bs l = bs (s.data.toList ++ l) := by rw [← bs_append, bs_of]
theorem bs_mk (a : Array UInt8) : (⟨a⟩ : ByteArray) = bs a.toList := by simp [bs]
theorem bs_list (l : List UInt8) : (bs l).data.toList = l := by simp [bs]

theorem join_snoc (xs : List (List UInt8)) (y sep : List UInt8) : Lib.join (xs ++ [y]) sep = if xs = [] then y else Lib.join xs sep ++ sep ++ y := by
  cases xs with
  | nil => simp [Lib.join_one]
  | cons x r => rw [if_neg (by simp), List.cons_append, Lib.join_cons, Lib.join_cons]; simp [Lib.joinTail, List.append_assoc]
theorem join_length (xs : List (List UInt8)) (sep : List UInt8) : (Lib.join xs sep).length ≤ Lib.lens xs + xs.length * sep.length := by
  cases xs with
  | nil => simp [Lib.join_nil]
  | cons x r =>
    rw [Lib.join_cons]
    have : (Lib.joinTail sep r).length = Lib.lens r + r.length * sep.length := by
      induction r with
      | nil => simp [Lib.joinTail, Lib.lens]
      | cons y r ih => simp only [Lib.joinTail, List.map_cons, List.flatten_cons, List.length_append, Lib.lens, List.sum_cons, List.length_cons] at ih ⊢; rw [ih, Nat.add_mul]; omega
    simp only [List.length_append, this, Lib.lens, List.map_cons, List.sum_cons, List.length_cons, Nat.add_mul]; omega

/-- a node's text out of its arguments' -/
def textOf (n : ByteArray) (xs : List (List UInt8)) : List UInt8 :=
  if n = eqSign then xs.getD 0 [] ++ [32, 61, 32] ++ xs.getD 1 [] else if xs = [] then n.data.toList else n.data.toList ++ [40] ++ Lib.join xs [44] ++ [41]
mutual
def Tm.text : Tm → List UInt8
  | .node n ts => textOf n (Tm.texts ts)
def Tm.texts : List Tm → List (List UInt8)
  | [] => []
  | t :: ts => Tm.text t :: Tm.texts ts
end
theorem Tm.texts_map (ts : List Tm) : Tm.texts ts = ts.map Tm.text := by
  induction ts with
  | nil => rfl
  | cons t ts ih => rw [Tm.texts, ih]; rfl
theorem Tm.texts_length (ts : List Tm) : (Tm.texts ts).length = ts.length := by rw [Tm.texts_map, List.length_map]
theorem Tm.texts_take_succ (ts : List Tm) (k : Nat) (hk : k < ts.length) : Tm.texts (ts.take (k + 1)) = Tm.texts (ts.take k) ++ [ts[k].text] := by
  rw [Tm.texts_map, Tm.texts_map, List.take_succ_eq_append_getElem hk, List.map_append]; rfl

theorem Tm.text_lens (t : Tm) : t.text.length ≤ t.bulk + 3 * t.size := by
  refine Tm.ind (P := fun t => t.text.length ≤ t.bulk + 3 * t.size) (fun n ts ih => ?_) t
  have key : ∀ ts : List Tm, (∀ a ∈ ts, a.text.length ≤ a.bulk + 3 * a.size) → Lib.lens (Tm.texts ts) ≤ Tm.bulks ts + 3 * Tm.sizes ts := by
    intro ts
    induction ts with
    | nil => intro _; simp [Tm.texts, Lib.lens]
    | cons t ts iht =>
      intro h
      have h0 := h t (by simp)
      have h1 := iht fun a ha => h a (by simp [ha])
      simp only [Lib.lens, Tm.texts, List.map_cons, List.sum_cons, Tm.bulks, Tm.sizes] at h1 ⊢; omega
  have hk := key ts ih
  have hl := Tm.texts_length ts
  rw [Tm.text, Tm.bulk, Tm.size, textOf]
  have hj := join_length (Tm.texts ts) [44]
  have hg : ∀ xs : List (List UInt8), (xs.getD 0 []).length + (xs.getD 1 []).length ≤ Lib.lens xs := by
    intro xs
    match xs with
    | [] => simp
    | [x] => simp [Lib.lens]
    | x :: y :: r => simp [Lib.lens]
  have hg' := hg (Tm.texts ts)
  have hns : n.data.toList.length = n.size := rfl
  split
  · simp only [List.length_append, List.length_cons, List.length_nil]; omega
  · split
    · omega
    · simp only [List.length_append, List.length_cons, List.length_nil] at hj ⊢; omega
/-- the text of an expression is short -/
theorem Tm.text_le (t : Tm) (h : t.bulk ≤ 1048576) : t.text.length ≤ 4194307 := by
  have := Tm.text_lens t; have := Tm.size_bulk t; omega

/-- behind k arguments -/
def opened (xs : List (List UInt8)) : List UInt8 := if xs = [] then [] else [40] ++ Lib.join xs [44]
theorem opened_nil : opened [] = [] := rfl
theorem opened_snoc (xs : List (List UInt8)) (y : List UInt8) : opened (xs ++ [y]) = opened xs ++ (if xs = [] then [40] else [44]) ++ y := by
  rw [opened, if_neg (by simp), join_snoc, opened]
  split
  · simp
  · simp [List.append_assoc]
theorem textOf_eq {n : ByteArray} (h : n = eqSign) {xs : List (List UInt8)} {a b : List UInt8} (hx : xs = [a, b]) : textOf n xs = a ++ [32, 61, 32] ++ b := by
  subst hx; rw [textOf, if_pos h]; rfl
theorem textOf_none {n : ByteArray} (h : n ≠ eqSign) : textOf n [] = n.data.toList := by rw [textOf, if_neg h, if_pos rfl]
theorem textOf_some {n : ByteArray} (h : n ≠ eqSign) {xs : List (List UInt8)} (hx : xs ≠ []) : textOf n xs = n.data.toList ++ opened xs ++ [41] := by
  rw [textOf, if_neg h, if_neg hx, opened, if_neg hx]; simp [List.append_assoc]
theorem textOf_join {n : ByteArray} (h : n ≠ eqSign) {xs : List (List UInt8)} (hx : xs ≠ []) : textOf n xs = n.data.toList ++ [40] ++ Lib.join xs [44] ++ [41] := by
  rw [textOf, if_neg h, if_neg hx]

mutual
/-- an equality has two sides -/
def Tm.sides : Tm → Prop
  | .node n ts => (n = eqSign → ts.length = 2) ∧ Tm.sidesAll ts
def Tm.sidesAll : List Tm → Prop
  | [] => True
  | t :: ts => Tm.sides t ∧ Tm.sidesAll ts
end
theorem Tm.sidesAll_iff (ts : List Tm) : Tm.sidesAll ts ↔ ∀ t ∈ ts, Tm.sides t := by
  induction ts with
  | nil => simp [Tm.sidesAll]
  | cons t ts ih => simp [Tm.sidesAll, ih]
theorem varName_eq : varName eqSign = false := by decide
theorem symName_eq : symName eqSign = false := by decide
theorem Tm.names_sides (t : Tm) : t.names = true → t.sides := by
  refine Tm.ind (P := fun t => t.names = true → t.sides) (fun n ts ih h => ?_) t
  rw [Tm.names] at h
  rw [Tm.sides, Tm.sidesAll_iff]
  by_cases hv : varName n = true
  · rw [if_pos hv] at h
    have : ts = [] := by simpa using h
    subst this
    exact ⟨fun e => by rw [e, varName_eq] at hv; exact absurd hv (by simp), by simp⟩
  · rw [if_neg hv] at h
    simp only [Bool.and_eq_true] at h
    refine ⟨fun e => ?_, fun t ht => ih t ht ((Tm.namesAll_iff ts).1 h.2 t ht)⟩
    rw [e, symName_eq] at h
    exact absurd h.1.1 (by simp)
end Go.Proofs.Ytglhbaigigdeeaa
/- The text of a mark. -/
namespace Go.Proofs.Ytglhbaigigdeeaa
set_option maxRecDepth 100000
open Go.RowKit

def digs (k : Nat) : List UInt8 := if _h : k = 0 then [] else digs (k / 10) ++ [UInt8.ofNat (48 + k % 10)]
termination_by k
decreasing_by omega
theorem digs_zero : digs 0 = [] := by rw [digs]; rfl
theorem digs_step {k : Nat} (h : 0 < k) : digs k = digs (k / 10) ++ [UInt8.ofNat (48 + k % 10)] := by rw [digs, dif_neg (by omega)]
theorem digs_length (k : Nat) : (digs k).length ≤ k := by
  induction k using Nat.strongRecOn with
  | ind k ih =>
    by_cases h : 0 < k
    · rw [digs_step h, List.length_append]
      have := ih (k / 10) (by omega)
      simp only [List.length_cons, List.length_nil]; omega
    · obtain rfl : k = 0 := by omega
      rw [digs_zero]; simp
theorem ret_txt {a b : ByteArray} (h : a = b) : Ending.returned (.string a) = .returned (.string b) := by rw [h]
/-- the text of mark k -/
def mtext (k : Nat) : List UInt8 := if k = 0 then [109, 48] else [109] ++ digs k
theorem mtext_length (k : Nat) : (mtext k).length ≤ k + 2 := by
  have := digs_length k
  unfold mtext
  split
  · simp
  · simp only [List.length_append, List.length_cons, List.length_nil]; omega

set_option maxHeartbeats 1000000 in
theorem markText_any (k : Nat) (hk : k ≤ 1099511627776) (w : World) : Calls Try.prog 43 #[.int .i64 k] w (Gives w (.string (bs (mtext k)))) := by
  by_cases h0 : k = 0
  · have HM : Hid (mtext k = [109, 48]) := by rw [Hid, mtext, if_pos h0]
    have hz : (k : Int) ≤ 0 := by omega
    clear h0
    go_enter Try.func43, Try.ntmps43
    go_wp2_with fail
    go_ret
    exact Gives.mk (ret_txt (by rw [HM.out]; rfl)) (Below.refl _ _)
  · have HM : Hid (mtext k = [109] ++ digs k) := by rw [Hid, mtext, if_neg h0]
    have hz : ¬ (k : Int) ≤ 0 := by omega
    clear h0
    have hdk := digs_length k
    go_enter Try.func43, Try.ntmps43
    go_wp2_with fail
    go_loopw [0, 3] (fun n o wr => ∃ (j : Nat) (l : List UInt8), n = .int .i64 j ∧ o = .string (bs l) ∧ l.length + j ≤ k ∧ Hid (digs k = digs j ++ l) ∧ Below w.heap.size w wr) (fun n _ _ => (intOf n).toNat)
    case atStart => exact ⟨k, [], rfl, rfl, by simp, by simp [Hid], Below.refl _ _⟩
    case round =>
      obtain ⟨j, l, rfl, rfl, hl, HX, hb⟩ := hrel
      by_cases hj : 0 < j
      · have hj' : (0 : Int) < j := by omega
        have HS := hid (digs_step hj)
        have hls := bs_size l
        obtain ⟨x, Hx⟩ : ∃ x, Hid (UInt8.ofNat (48 + j % 10) = x) := ⟨_, hid rfl⟩
        have hx : (x.toNat : Int) = 48 + (j : Int) % 10 := by rw [← Hx.out, UInt8.toNat_ofNat']; omega
        have hcv : (convert 72 9 (.slice (some ⟨wr.heap.size, 0, none⟩) 1 1)).run Try.prog (wr.alloc (.cells #[.int .u8 (48 + (j : Int) % 10)] 5)) = .ok (.string (bs [x])) (wr.alloc (.cells #[.int .u8 (48 + (j : Int) % 10)] 5)) :=
          run_convert_bytes_back (P := Try.prog) _ 72 9 5 ⟨wr.heap.size, 0, none⟩ 1 [x] Try.underlying72 Try.underlying5 Try.underlying9 (fun i hi => by
            obtain rfl : i = 0 := by simpa using hi
            rw [← hx]
            exact box1 _ _ _ 0)
        have hcs : (bs [x]).size = 1 := bs_size [x]
        have hov : ¬ 9223372036854775807 < (bs [x]).size + (bs l).size := by omega
        have hov2 : ¬ 9223372036854775807 < 1 + l.length := by omega
        have HS2 : Hid (digs k = digs (j / 10) ++ ([x] ++ l)) := by rw [Hid, HX.out, HS.out, Hx.out, List.append_assoc]
        have hdl : ([x] ++ l).length + j / 10 ≤ k := by simp only [List.length_append, List.length_cons, List.length_nil]; omega
        clear hx
        go_wp2_with fail
        go_roundw
        case rel => exact ⟨j / 10, [x] ++ l, by go_num, by rw [bs_append], hdl, HS2, hb.trans (((Below.refl _ _).alloc (Nat.le_refl _) _).mono hb.size)⟩
        case measure => simp [intOf]; omega
      · obtain rfl : j = 0 := by omega
        have hls := bs_size l
        have hov : ¬ 9223372036854775807 < (⟨#[109]⟩ : ByteArray).size + (bs l).size := by rw [show (⟨#[109]⟩ : ByteArray).size = 1 from rfl]; omega
        have HY : Hid (mtext k = [109] ++ l) := by rw [Hid, HM.out, HX.out, digs_zero]; rfl
        go_wp2_with fail
        go_ret
        exact Gives.mk (ret_txt (by rw [HY.out, ← bs_append]; rfl)) hb
end Go.Proofs.Ytglhbaigigdeeaa
/- Lists of strings as data. -/
namespace Go.Proofs.Ytglhbaigigdeeaa
set_option maxRecDepth 100000
open Go.RowKit

/-- a string's cell -/
def strE (s : ByteArray) : List D := [.str s]
theorem strE_wide : Wide strE 1 := fun _ => rfl
theorem strs_get {S : Nat → Prop} {w : World} {a : Option Addr} {n cap : Nat} {ss : List ByteArray} (h : D.rd S w (.slice a n cap) (slOf strE ss)) (hne : ss ≠ []) : ∃ b off, a = some ⟨b, off, none⟩ ∧ S b ∧ b < w.heap.size ∧
    ∀ k (hk : k < ss.length), w.cell? ⟨b, off + k, none⟩ = some (.string ss[k]) ∧ ss[k].size ≤ maxLen := by
  obtain ⟨b, off, h0, h1, h2, h3⟩ := slOf_get strE_wide (by decide) h hne
  refine ⟨b, off, h0, h1, h2, fun k hk => ?_⟩
  obtain ⟨v, q0, q1⟩ := h3 k hk 0 (.str ss[k]) rfl
  rw [D.rd] at q1
  obtain ⟨rfl, q2⟩ := q1
  rw [Nat.mul_one, Nat.add_zero] at q0
  exact ⟨q0, q2⟩
theorem slOf_strs {S : Nat → Prop} {w : World} {b : Nat} {ss : List ByteArray} (hS : S b) (hb : b < w.heap.size) (hl : ss.length ≤ big) (h : ∀ i (hi : i < ss.length), w.cell? ⟨b, i, none⟩ = some (.string ss[i]) ∧ ss[i].size ≤ maxLen) {cap : Nat} (hc : ss.length ≤ cap) :
    D.rd S w (.slice (some ⟨b, 0, none⟩) ss.length cap) (slOf strE ss) := by
  rw [slOf, D.rd]
  refine ⟨_, _, rfl, hl, hc, fun hn => flat_ne strE_wide (by decide) (by intro e; subst e; simp at hn), fun hne => ⟨b, 0, rfl, hS, hb, (D.rds_iff _ _).2 fun i hi => ?_⟩⟩
  have hil : i < ss.length := by rw [flat_length strE_wide] at hi; omega
  obtain ⟨q0, q1⟩ := h i hil
  have hg := flat_get strE_wide ss i 0 hil (by decide)
  rw [Nat.mul_one, Nat.add_zero, List.getElem?_eq_getElem hi] at hg
  have : (ss.flatMap strE)[i] = .str ss[i] := by simpa [strE] using hg
  rw [this, Nat.zero_add]
  exact ⟨_, q0, D.rd_str q1⟩
end Go.Proofs.Ytglhbaigigdeeaa
/- Lists of strings: how a law measures, copies and compares them. -/
namespace Go.Proofs.Ytglhbaigigdeeaa
set_option maxRecDepth 100000
open Go.RowKit Go.ChangeShapes Go.WideShapes

def strSum : List ByteArray → Nat
  | [] => 0
  | s :: ss => s.size + strSum ss
def strBulk (ss : List ByteArray) : Nat := ss.length + strSum ss
theorem strSum_take : ∀ (ss : List ByteArray) (k : Nat) (hk : k < ss.length), strSum (ss.take (k + 1)) = strSum (ss.take k) + ss[k].size
  | [], k, hk => absurd hk (by simp)
  | t :: ts, 0, _ => by simp [strSum]
  | t :: ts, k + 1, hk => by
    have := strSum_take ts k (by simpa using hk)
    simp only [List.take_succ_cons, strSum, this, List.getElem_cons_succ]; omega
theorem strSum_le : ∀ (ss : List ByteArray) (k : Nat), strSum (ss.take k) ≤ strSum ss
  | [], k => by simp
  | t :: ts, 0 => by simp [strSum]
  | t :: ts, k + 1 => by
    have := strSum_le ts k
    simp only [List.take_succ_cons, strSum]; omega
theorem strSum_mem {ss : List ByteArray} {s : ByteArray} (h : s ∈ ss) : s.size ≤ strSum ss := by
  induction ss with
  | nil => cases h
  | cons a ss ih =>
    rw [strSum]
    rcases List.mem_cons.1 h with rfl | h
    · omega
    · have := ih h; omega

def MadeStr (ss : List ByteArray) (w : World) (e : Ending) (w' : World) : Prop := ∃ v F, e = .returned v ∧ D.own w' v (slOf strE ss) F ∧ (∀ x ∈ F, w.heap.size ≤ x) ∧ Below w.heap.size w w'
theorem infoStrS : (Try.prog.info? 9).map (fun i => (i.zero, i.size, i.bytes)) = some (some (.string ByteArray.empty), 1, 16) := by kernel_rfl
theorem strE_take (ss : List ByteArray) (k : Nat) (hk : k < ss.length) : (ss.take (k + 1)).flatMap strE = (ss.take k).flatMap strE ++ [.str ss[k]] := flat_take_succ ss k hk

/-- the value reads as the list -/
def IsSS (ss : List ByteArray) (v : Value) (w : World) : Prop := D.rd (fun _ => True) w v (slOf strE ss)
theorem IsSS.form {ss : List ByteArray} {v : Value} {w : World} (h : IsSS ss v w) : ∃ a cap, v = .slice a ss.length cap ∧ D.rd (fun _ => True) w (.slice a ss.length cap) (slOf strE ss) := by
  obtain ⟨a, cap, rfl, _, _⟩ := slOf_form h
  exact ⟨a, cap, rfl, h⟩
theorem IsSS.stable {ss : List ByteArray} {w : World} : ∀ v w1 w2, Below w.heap.size w w1 → Below w1.heap.size w1 w2 → IsSS ss v w1 → IsSS ss v w2 :=
  fun _ _ _ _ hb h => D.rd_keep (Keeps.all hb) _ _ h
theorem toList_yes {a b : ByteArray} (h : a = b) : (a.toList == b.toList) = true := by rw [h]; simp

theorem cellsStr1 : Try.prog.cellsOf 9 = 1 := by kernel_rfl
section
variable {H : Type} {enc' : TypeId × Value → H} {w : World}
theorem read_str : ∀ (fuel : Nat) (cs : List Value) (x : DataW H × List MemPlace), DataW.trod enc' Try.prog w 0 (fun _ => true) true fuel 9 cs = some x → ∃ s : ByteArray, CellsRd (fun _ => True) w cs (strE s) := by
  intro fuel cs x h
  obtain ⟨s, hs, -, hsz⟩ := DataW.trod_string Try.underlying9 h
  subst hs
  exact ⟨s, D.rd_str hsz, trivial⟩
theorem open_StringS {r : Reach} {b0 : Nat} {v : Value} {d : DataW H} {p : List MemPlace} (hv : Value.okWide Try.prog w r b0 76 v) (h : DataW.Trod enc' Try.prog w 0 (fun _ => true) true 76 v d p) :
    ∃ ss, D.rd (fun _ => True) w v (slOf strE ss) := by
  obtain ⟨a, len, cap, rfl⟩ := okWide_slice Try.underlying76 hv
  obtain ⟨fuel, hf⟩ := h
  obtain ⟨u, ss, hu, hr⟩ := open_slOf strE_wide (by decide) Try.underlying76 cellsStr1 (fun m cs' x' _ hx => read_str m cs' x' hx) hf
  obtain rfl : Value.slice a len cap = u := by simpa [Value.cells] using hu
  exact ⟨ss, hr⟩
end
end Go.Proofs.Ytglhbaigigdeeaa
/- Lists of ints: how a law measures, copies and compares them. -/
namespace Go.Proofs.Ytglhbaigigdeeaa
set_option maxRecDepth 100000
open Go.RowKit Go.ChangeShapes Go.WideShapes

def intE (z : Int) : List D := [.num z]
theorem intE_wide : Wide intE 1 := fun _ => rfl
def IsI64 (z : Int) : Prop := -9223372036854775808 ≤ z ∧ z ≤ 9223372036854775807
theorem D.own_num {w : World} {z : Int} (h : IsI64 z) : D.own w (.int .i64 z) (.num z) [] := by rw [D.own]; exact ⟨rfl, h.1, h.2, rfl⟩
theorem D.rd_num {S : Nat → Prop} {w : World} {z : Int} (h : IsI64 z) : D.rd S w (.int .i64 z) (.num z) := by rw [D.rd]; exact ⟨rfl, h.1, h.2⟩
theorem ints_get {S : Nat → Prop} {w : World} {a : Option Addr} {n cap : Nat} {ss : List Int} (h : D.rd S w (.slice a n cap) (slOf intE ss)) (hne : ss ≠ []) : ∃ b off, a = some ⟨b, off, none⟩ ∧ S b ∧ b < w.heap.size ∧
    ∀ k (hk : k < ss.length), w.cell? ⟨b, off + k, none⟩ = some (.int .i64 ss[k]) ∧ IsI64 ss[k] := by
  obtain ⟨b, off, h0, h1, h2, h3⟩ := slOf_get intE_wide (by decide) h hne
  refine ⟨b, off, h0, h1, h2, fun k hk => ?_⟩
  obtain ⟨v, q0, q1⟩ := h3 k hk 0 (.num ss[k]) rfl
  rw [D.rd] at q1
  obtain ⟨rfl, q2⟩ := q1
  rw [Nat.mul_one, Nat.add_zero] at q0
  exact ⟨q0, q2⟩


def MadeInt (ss : List Int) (w : World) (e : Ending) (w' : World) : Prop := ∃ v F, e = .returned v ∧ D.own w' v (slOf intE ss) F ∧ (∀ x ∈ F, w.heap.size ≤ x) ∧ Below w.heap.size w w'
theorem infoIntS : (Try.prog.info? 3).map (fun i => (i.zero, i.size, i.bytes)) = some (some (.int .i64 0), 1, 8) := by kernel_rfl
theorem intE_take (ss : List Int) (k : Nat) (hk : k < ss.length) : (ss.take (k + 1)).flatMap intE = (ss.take k).flatMap intE ++ [.num ss[k]] := flat_take_succ ss k hk


/-- the value reads as the list -/
def IsIS (ss : List Int) (v : Value) (w : World) : Prop := D.rd (fun _ => True) w v (slOf intE ss)
theorem IsIS.form {ss : List Int} {v : Value} {w : World} (h : IsIS ss v w) : ∃ a cap, v = .slice a ss.length cap ∧ D.rd (fun _ => True) w (.slice a ss.length cap) (slOf intE ss) := by
  obtain ⟨a, cap, rfl, _, _⟩ := slOf_form h
  exact ⟨a, cap, rfl, h⟩
theorem IsIS.stable {ss : List Int} {w : World} : ∀ v w1 w2, Below w.heap.size w w1 → Below w1.heap.size w1 w2 → IsIS ss v w1 → IsIS ss v w2 :=
  fun _ _ _ _ hb h => D.rd_keep (Keeps.all hb) _ _ h

theorem cellsInt1 : Try.prog.cellsOf 3 = 1 := by kernel_rfl
section
variable {H : Type} {enc' : TypeId × Value → H} {w : World}
theorem read_int : ∀ (fuel : Nat) (cs : List Value) (x : DataW H × List MemPlace), DataW.trod enc' Try.prog w 0 (fun _ => true) true fuel 3 cs = some x → ∃ z : Int, CellsRd (fun _ => True) w cs (intE z) := by
  intro fuel cs x h
  obtain ⟨z, hz, -, hw⟩ := DataW.trod_int Try.underlying3 h
  subst hz
  exact ⟨z, D.rd_num (bounds_i64 hw), trivial⟩
end
end Go.Proofs.Ytglhbaigigdeeaa
/- Data that a call owns are marked: lists of ints, lists of strings. -/
namespace Go.Proofs.Ytglhbaigigdeeaa
set_option maxRecDepth 100000
open Go.RowKit

/-- only blocks of F are changed, and new ones laid -/
def Mk (F : List Nat) (w w' : World) : Prop := Keeps (· ∉ F) w w' ∧ ∀ B, B ≤ w.heap.size → (∀ x ∈ F, B ≤ x) → Below B w w'
theorem Mk.refl (F : List Nat) (w : World) : Mk F w w := ⟨Keeps.refl _ _, fun _ _ _ => Below.refl _ _⟩
theorem Mk.size {F : List Nat} {w w' : World} (h : Mk F w w') : w.heap.size ≤ w'.heap.size := h.1.size
theorem Mk.trans {F : List Nat} {a b c : World} (h : Mk F a b) (k : Mk F b c) : Mk F a c :=
  ⟨h.1.trans k.1, fun B hB hF => (h.2 B hB hF).trans (k.2 B (Nat.le_trans hB h.size) hF)⟩
theorem Mk.of_below {F : List Nat} {w w' : World} (h : Below w.heap.size w w') : Mk F w w' := ⟨Keeps.all h, fun _ hB _ => h.mono hB⟩
theorem Mk.mono {F G : List Nat} {w w' : World} (h : Mk F w w') (hs : ∀ x ∈ F, x ∈ G) : Mk G w w' := ⟨h.1.mono fun b hb q => hb (hs b q), fun B hB hG => h.2 B hB fun x hx => hG x (hs x hx)⟩
theorem Mk.set {F : List Nat} {w : World} {b p : Nat} (hb : b ∈ F) (u : Value) : Mk F w (w.setCell ⟨b, p, none⟩ u) :=
  ⟨(Keeps.refl _ _).setCell (fun q _ => q hb) _, fun _ _ hF => (Below.refl _ _).setCell (p := ⟨b, p, none⟩) (hF b hb) u⟩

def mixI (zs : List Int) (k : Nat) : Nat → List Int
  | 0 => zs
  | j + 1 => (mixI zs k j).set j ((k + j : Nat) : Int)
theorem mixI_length (zs : List Int) (k : Nat) : ∀ j, (mixI zs k j).length = zs.length
  | 0 => rfl
  | j + 1 => by rw [mixI, List.length_set, mixI_length zs k j]
theorem mixI_get (zs : List Int) (k : Nat) : ∀ j i (h : i < (mixI zs k j).length), i < j → (mixI zs k j)[i] = ((k + i : Nat) : Int)
  | 0, i, h, hi => absurd hi (by omega)
  | j + 1, i, h, hi => by
    simp only [mixI, List.getElem_set]
    split
    · rename_i e; subst e; rfl
    · exact mixI_get zs k j i (by simpa [mixI] using h) (by omega)
theorem flat_set_int (l : List Int) (j : Nat) (z : Int) : (l.flatMap intE).set j (.num z) = (l.set j z).flatMap intE := by
  have e : ∀ l : List Int, l.flatMap intE = l.map D.num := by intro l; induction l with
    | nil => rfl
    | cons x l ih => rw [List.flatMap_cons, ih]; rfl
  rw [e, e, List.map_set]



def mixS (zs : List ByteArray) (k : Nat) : Nat → List ByteArray
  | 0 => zs
  | j + 1 => (mixS zs k j).set j (bs (mtext (k + j)))
theorem mixS_length (zs : List ByteArray) (k : Nat) : ∀ j, (mixS zs k j).length = zs.length
  | 0 => rfl
  | j + 1 => by rw [mixS, List.length_set, mixS_length zs k j]
theorem mixS_get (zs : List ByteArray) (k : Nat) : ∀ j i (h : i < (mixS zs k j).length), i < j → (mixS zs k j)[i] = bs (mtext (k + i))
  | 0, i, h, hi => absurd hi (by omega)
  | j + 1, i, h, hi => by
    simp only [mixS, List.getElem_set]
    split
    · rename_i e; subst e; rfl
    · exact mixS_get zs k j i (by simpa [mixS] using h) (by omega)
theorem flat_set_str (l : List ByteArray) (j : Nat) (z : ByteArray) : (l.flatMap strE).set j (.str z) = (l.set j z).flatMap strE := by
  have e : ∀ l : List ByteArray, l.flatMap strE = l.map D.str := by intro l; induction l with
    | nil => rfl
    | cons x l ih => rw [List.flatMap_cons, ih]; rfl
  rw [e, e, List.map_set]


end Go.Proofs.Ytglhbaigigdeeaa
