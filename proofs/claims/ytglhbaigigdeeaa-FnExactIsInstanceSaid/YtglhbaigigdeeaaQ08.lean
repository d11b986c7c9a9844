/- Several texts in one file. -/
import Derived.Test.YtglhbaigigdeeaaRows
import Derived.Test.YtglhbaigigdeeaaQ03
import Derived.Test.YtglhbaigigdeeaaQ01
import Derived.Test.YtglhbaigigdeeaaQ02
import Derived.WalkSpells
import Derived.WalkLawsBesides
import Derived.Deep.AppendLies
import Derived.Test.YtglhbaigigdeeaaQ06
/- Lists of strings that grow at their end. -/
namespace Go.Proofs.Ytglhbaigigdeeaa
set_option maxRecDepth 100000
open Go.RowKit

theorem infoStr : (Try.prog.info? 9).map (fun i => (i.zero, i.size, i.bytes)) = some (some (.string ByteArray.empty), 1, 16) := by kernel_rfl

/-- the value owns a row of these strings, in a block from B on -/
def Row (w : World) (B : Nat) (v : Value) (ss : List ByteArray) : Prop := w.ownsRow B 9 1 v ss.length (ss.map Value.string) ∧ ∀ s ∈ ss, s.size ≤ maxLen

theorem Row.nil (w : World) (B : Nat) : Row w B (.slice none 0 0) [] := ⟨World.ownsRow_nil w B _ 1, by simp⟩
theorem Row.made (w : World) {B : Nat} (hB : B ≤ w.heap.size) : Row (w.alloc (.cells #[] 9)) B (.slice (some ⟨w.heap.size, 0, none⟩) 0 0) [] :=
  ⟨World.ownsRow_made w #[] 0 hB (by decide) rfl, by simp⟩
theorem Row.made' {w : World} {B n : Nat} (hn : n = w.heap.size) (hB : B ≤ w.heap.size) : Row (w.alloc (.cells #[] 9)) B (.slice (some ⟨n, 0, none⟩) 0 0) [] := by subst hn; exact Row.made w hB
theorem Row.form {w : World} {B : Nat} {v : Value} {ss : List ByteArray} (h : Row w B v ss) : ∃ a cap, v = .slice a ss.length cap ∧ ss.length ≤ big ∧ ss.length ≤ cap := by
  rcases h.1.2 with ⟨rfl, h0⟩ | ⟨g, cap, cur, rfl, hb, hg, hc, hm, _⟩
  · exact ⟨none, 0, by rw [h0], by omega, by omega⟩
  · exact ⟨_, cap, rfl, Nat.le_trans hc hm, hc⟩
theorem Row.lt {w : World} {B : Nat} {v : Value} {ss : List ByteArray} (h : Row w B v ss) : ∀ k, v.ownBlock = some k → B ≤ k ∧ k < w.heap.size := h.1.lt
theorem Row.rd {w : World} {B : Nat} {v : Value} {ss : List ByteArray} (h : Row w B v ss) : D.rd (fun _ => True) w v (slOf strE ss) := by
  obtain ⟨⟨h0, h1⟩, hs⟩ := h
  rcases h1 with ⟨rfl, h2⟩ | ⟨g, cap, cur, rfl, hb, hg, hc, hm, hsz, htk⟩
  · have : ss = [] := List.length_eq_zero_iff.1 h2
    subst this
    rw [slOf, D.rd]
    exact ⟨none, 0, rfl, Nat.zero_le _, Nat.zero_le _, fun h => absurd rfl h, fun h => absurd rfl h⟩
  · refine slOf_strs (ss := ss) trivial (lt_of_heap hg) (Nat.le_trans hc hm) (fun i hi => ?_) hc
    refine ⟨?_, hs _ (List.getElem_mem hi)⟩
    rw [World.cell?, hg]
    have : (cur.toList.take (ss.length * 1))[i]? = some (Value.string ss[i]) := by rw [htk]; simp [hi]
    rw [List.getElem?_take] at this
    split at this
    · simpa using this
    · exact absurd this (by simp)
theorem Row.kept {w w' : World} {B : Nat} {v : Value} {ss : List ByteArray} {row : Option Nat} (h : Row w B v ss) (hg : w.grownBy w' row) (hne : v.ownBlock = none ∨ v.ownBlock ≠ row) : Row w' B v ss := ⟨h.1.kept hg hne, h.2⟩
theorem grown_of_below {w w' : World} (h : Below w.heap.size w w') (row : Option Nat) : w.grownBy w' row := ⟨h.os, h.tape, h.output, h.size, fun k hk _ => h.block k hk⟩
theorem Row.keep {w w' : World} {B : Nat} {v : Value} {ss : List ByteArray} (h : Row w B v ss) (hb : Below w.heap.size w w') : Row w' B v ss :=
  h.kept (grown_of_below hb none) (by cases v.ownBlock <;> simp)
theorem Row.drew {w : World} {B : Nat} {v : Value} {ss : List ByteArray} (h : Row w B v ss) : Row w.drew B v ss := h.keep (Below.refl _ _).drew
theorem Row.mono {w : World} {B B' : Nat} {v : Value} {ss : List ByteArray} (h : Row w B v ss) (hB : B' ≤ B) : Row w B' v ss := by
  refine ⟨⟨h.1.1, ?_⟩, h.2⟩
  rcases h.1.2 with h1 | ⟨g, cap, cur, h1, hb, hr⟩
  · exact .inl h1
  · exact .inr ⟨g, cap, cur, h1, Nat.le_trans hB hb, hr⟩
theorem Row.cells {w : World} {B : Nat} {v : Value} {ss : List ByteArray} (h : Row w B v ss) {g n cap : Nat} (hv : v = .slice (some ⟨g, 0, none⟩) n cap) : ∀ (j : Nat) x, ss[j]? = some x → w.cell? ⟨g, 0 + j, none⟩ = some (.string x) := by
  intro j x hj
  have := h.1.cells (g := g) (by rw [hv]; rfl) j (.string x) (by simp [hj])
  rw [Nat.zero_add]
  unfold Addr.add at this
  split at this
  · rename_i h0; subst h0; exact this
  · simpa using this

/-- a list of strings that is not nil -/
def Lst (w : World) (v : Value) (ss : List ByteArray) : Prop := ∃ b off cap, v = .slice (some ⟨b, off, none⟩) ss.length cap ∧ b < w.heap.size ∧ ss.length ≤ cap ∧ cap ≤ maxLen ∧ ∀ i (h : i < ss.length), w.cell? ⟨b, off + i, none⟩ = some (.string ss[i]) ∧ ss[i].size ≤ maxLen
theorem Lst.keep {w w' : World} {v : Value} {ss : List ByteArray} (h : Lst w v ss) (hb : Below w.heap.size w w') : Lst w' v ss := by
  obtain ⟨b, off, cap, e, h0, h1, h2, h3⟩ := h
  exact ⟨b, off, cap, e, Nat.lt_of_lt_of_le h0 hb.size, h1, h2, fun i hi => ⟨(hb.cell (p := ⟨b, off + i, none⟩) h0).trans (h3 i hi).1, (h3 i hi).2⟩⟩
theorem Lst.rd {w : World} {v : Value} {ss : List ByteArray} (h : Lst w v ss) : D.rd (fun _ => True) w v (slOf strE ss) := by
  obtain ⟨b, off, cap, rfl, h0, h1, h2, h3⟩ := h
  rw [slOf, D.rd]
  refine ⟨_, _, rfl, Nat.le_trans h1 h2, h1, fun hn => flat_ne strE_wide (by decide) (by intro e; subst e; simp at hn), fun hne => ⟨b, off, rfl, trivial, h0, (D.rds_iff _ _).2 fun i hi => ?_⟩⟩
  have hil : i < ss.length := by rw [flat_length strE_wide] at hi; omega
  obtain ⟨q0, q1⟩ := h3 i hil
  have hg := flat_get strE_wide ss i 0 hil (by decide)
  rw [Nat.mul_one, Nat.add_zero, List.getElem?_eq_getElem hi] at hg
  have : (ss.flatMap strE)[i] = .str ss[i] := by simpa [strE] using hg
  rw [this]
  exact ⟨_, q0, D.rd_str q1⟩
theorem Row.lst {w : World} {B : Nat} {v : Value} {ss : List ByteArray} (h : Row w B v ss) (hne : v ≠ .slice none 0 0) : Lst w v ss := by
  have hc := fun g n cap (hv : v = .slice (some ⟨g, 0, none⟩) n cap) => h.cells hv
  rcases h.1.2 with ⟨h0, _⟩ | ⟨g, cap, cur, rfl, hb, hg, hcc, hm, _⟩
  · exact absurd h0 hne
  · exact ⟨g, 0, cap, rfl, lt_of_heap hg, hcc, hm, fun i hi => ⟨hc g _ cap rfl i _ (List.getElem?_eq_getElem hi), h.2 _ (List.getElem_mem hi)⟩⟩
theorem Lst.made (w : World) : Lst (w.alloc (.cells #[] 9)) (.slice (some ⟨w.heap.size, 0, none⟩) 0 0) [] := ⟨_, _, _, rfl, by simp, Nat.le_refl _, by decide, fun i h => absurd h (by simp)⟩

theorem grown_refl (w : World) (row : Option Nat) : w.grownBy w row := ⟨rfl, rfl, rfl, Nat.le_refl _, fun _ _ _ => rfl⟩
theorem grown_trans {a b c : World} {row row' : Option Nat} (h : a.grownBy b row) (k : b.grownBy c row') (hr : ∀ x, row' = some x → row = some x ∨ a.heap.size ≤ x) : a.grownBy c row := by
  refine ⟨k.os.trans h.os, k.tape.trans h.tape, k.output.trans h.output, Nat.le_trans h.size k.size, fun x hx hne => ?_⟩
  rw [k.block x (Nat.lt_of_lt_of_le hx h.size) (fun e => ?_), h.block x hx hne]
  rcases hr x e.symm with q | q
  · exact hne q.symm
  · omega
/-- a value goes on as another one: in its own block, or in a new one -/
def Goes (w : World) (v v' : Value) : Prop := ∀ x, v'.ownBlock = some x → v.ownBlock = some x ∨ w.heap.size ≤ x
theorem Goes.refl (w : World) (v : Value) : Goes w v v := fun _ h => .inl h
theorem Goes.trans {w w1 : World} {v v1 v2 : Value} (h : Goes w v v1) (hz : w.heap.size ≤ w1.heap.size) (k : Goes w1 v1 v2) : Goes w v v2 := fun x hx => by
  rcases k x hx with q | q
  · exact h x q
  · exact .inr (Nat.le_trans hz q)

/-- append(list, y), y lying in a row of its own -/
theorem run_append_str {w : World} {B : Nat} {v : Value} {ss : List ByteArray} (hrow : Row w B v ss) {b : Nat} {y : ByteArray} (ty : TypeId) (hy : y.size ≤ maxLen) (hcell : w.cell? ⟨b, 0, none⟩ = some (.string y)) (hl : ss.length ≤ 4294967296) (hB : B ≤ w.heap.size) :
    ∃ g cap w', (Builtin.append_ #[76, 76] ty #[v, .slice (some ⟨b, 0, none⟩) 1 1]).run Try.prog w = .ok (.slice (some ⟨g, 0, none⟩) (ss.length + 1) cap) w' ∧
      Row w' B (.slice (some ⟨g, 0, none⟩) (ss.length + 1) cap) (ss ++ [y]) ∧ w.grownBy w' v.ownBlock ∧ Goes w v (.slice (some ⟨g, 0, none⟩) (ss.length + 1) cap) ∧ g < w'.heap.size := by
  obtain ⟨i0, hi, hz0, hz1, hz2⟩ := info_parts infoStr
  obtain ⟨g, cap, w', h1, h2, h3, h4, h5⟩ := run_append_lies (P := Try.prog) w 76 ty B 9 i0 _ 1 16 Try.underlying76 hi hz0 hz1 hz2 rfl (by decide) v ss.length _ hrow.1 ⟨b, 0, none⟩ 1 1 [.string y] rfl
    (fun j u hj => by
      cases j with
      | zero => simp at hj; subst hj; exact hcell
      | succ j => simp at hj) (by simp [Value.oneCell']) (by decide) (by unfold maxLen; omega) (by omega) hB _ rfl
  refine ⟨g, cap, w', h1, ⟨by simpa using h2, fun s hs => ?_⟩, h3, fun x hx => ?_, h5⟩
  · rcases List.mem_append.1 hs with q | q
    · exact hrow.2 s q
    · simp at q; subst q; exact hy
  · simp [Value.ownBlock] at hx
    subst hx
    rcases h4 with q | q
    · exact .inl q
    · exact .inr (by omega)

/-- append(list, ys...), ys lying in a row -/
theorem run_append_strs {w : World} {B : Nat} {v : Value} {ss ys : List ByteArray} (hrow : Row w B v ss) {b off m c : Nat} (ty : TypeId) (hm : m = ys.length) (hcell : ∀ j (hj : j < ys.length), w.cell? ⟨b, off + j, none⟩ = some (.string ys[j])) (hy : ∀ y ∈ ys, y.size ≤ maxLen) (hl : ss.length + ys.length ≤ 4294967296) (hB : B ≤ w.heap.size) :
    ∃ v' w', (Builtin.append_ #[76, 76] ty #[v, .slice (some ⟨b, off, none⟩) m c]).run Try.prog w = .ok v' w' ∧ Row w' B v' (ss ++ ys) ∧ w.grownBy w' v.ownBlock ∧ Goes w v v' ∧ (v ≠ .slice none 0 0 → v' ≠ .slice none 0 0) := by
  obtain ⟨i0, hi, hz0, hz1, hz2⟩ := info_parts infoStr
  subst hm
  obtain ⟨v', w', h1, h2, h3, h4, h5⟩ := run_append_own_at (P := Try.prog) w B 76 ty 9 i0 _ 1 16 Try.underlying76 hi hz0 hz1 hz2 rfl (by decide) v ss.length _ hrow.1 ⟨b, off, none⟩ ys.length c (ys.map Value.string) (by simp)
    (fun j u hj => by
      rw [List.getElem?_map] at hj
      cases hyj : ys[j]? with
      | none => rw [hyj] at hj; cases hj
      | some y =>
        rw [hyj] at hj
        obtain ⟨hjl, e⟩ := List.getElem?_eq_some_iff.1 hyj
        have := hcell j hjl
        rw [e] at this
        have hu : u = .string y := by simpa using hj.symm
        rw [hu, ← this]
        unfold Addr.add
        split
        · rename_i h0; subst h0; rfl
        · rfl) (fun u hu => by
      obtain ⟨y, _, rfl⟩ := List.mem_map.1 hu
      simp [Value.oneCell']) (by unfold maxLen; omega) (by omega) hB
  refine ⟨v', w', h1, ⟨by simpa using h2, fun s hs => ?_⟩, h3, fun x hx => ?_, fun hne hn => hne (h4.1 hn).1⟩
  · rcases List.mem_append.1 hs with q | q
    · exact hrow.2 s q
    · exact hy s q
  · rcases h5 with q | q
    · exact .inl (by rw [← q]; exact hx)
    · rw [q] at hx; injection hx with hx; exact .inr (by omega)
/-- .. at a step of a region that draws its order -/
theorem step_append_strs {ops : Array Oper} {o : Oper} {a : Act} {w : World} {K : Act → World → Prop} {Q : Exit → Act → World → Prop} {E : Prop} (hgd : o.guard = none) (s x : Operand)
    (ho : o.op = .call { callee := .builtin .append, args := #[s, x], argTypes := #[76, 76] }) {B : Nat} {v : Value} {ss ys : List ByteArray} {b off m c : Nat}
    (hs : a.eval s = v) (hx : a.eval x = .slice (some ⟨b, off, none⟩) m c) (hrow : Row w B v ss) (hm : m = ys.length) (hcell : ∀ j (hj : j < ys.length), w.cell? ⟨b, off + j, none⟩ = some (.string ys[j])) (hy : ∀ y ∈ ys, y.size ≤ maxLen) (hl : ss.length + ys.length ≤ 4294967296) (hB : B ≤ w.heap.size)
    (h : ∀ v' w', Row w' B v' (ss ++ ys) → w.grownBy w' v.ownBlock → Goes w v v' → (v ≠ .slice none 0 0 → v' ≠ .slice none 0 0) → K (a.put o.dst v') w') :
    if Region.wanted o (yielded ops a.tmps) = true then Oper.wp Try.prog o a w K Q else E := by
  have hw : Region.wanted o (yielded ops a.tmps) = true := by simp [Region.wanted, hgd]
  rw [if_pos hw]
  obtain ⟨v', w', hr, h2, h3, h4, h5⟩ := run_append_strs (c := c) hrow o.type hm hcell hy hl hB
  unfold Oper.wp execOp
  simp only [ho, resolve, invoke, builtin, Sem.run_bind, Sem.run_pure, Result.andThen_ok, List.map_toArray, List.map_cons, List.map_nil, hs, hx, hr]
  exact h v' w' h2 h3 h4 h5
/-- .. at the list of a plain region's operations -/
theorem wpList_append_str {ops : Array Oper} {rest : List Oper} {o : Oper} {a : Act} {w : World} {Q : Exit → Act → World → Prop} (hgd : o.guard = none) (s x : Operand)
    (ho : o.op = .call { callee := .builtin .append, args := #[s, x], argTypes := #[76, 76] }) {B : Nat} {v : Value} {ss : List ByteArray} {b : Nat} {y : ByteArray}
    (hs : a.eval s = v) (hx : a.eval x = .slice (some ⟨b, 0, none⟩) 1 1) (hrow : Row w B v ss) (hy : y.size ≤ maxLen) (hcell : w.cell? ⟨b, 0, none⟩ = some (.string y)) (hl : ss.length ≤ 4294967296) (hB : B ≤ w.heap.size)
    (h : ∀ g cap w', Row w' B (.slice (some ⟨g, 0, none⟩) (ss.length + 1) cap) (ss ++ [y]) → w.grownBy w' v.ownBlock → Goes w v (.slice (some ⟨g, 0, none⟩) (ss.length + 1) cap) → g < w'.heap.size → wpList Try.prog ops Q rest (a.put o.dst (.slice (some ⟨g, 0, none⟩) (ss.length + 1) cap)) w') : wpList Try.prog ops Q (o :: rest) a w := by
  obtain ⟨g, cap, w', hr, h2, h3, h4, h5⟩ := run_append_str hrow o.type hy hcell hl hB
  refine wpList_plain hgd fun _ hK => ?_
  unfold Oper.wp execOp
  simp only [ho, resolve, invoke, builtin, Sem.run_bind, Sem.run_pure, Result.andThen_ok, List.map_toArray, List.map_cons, List.map_nil, hs, hx, hr]
  exact hK _ _ (h g cap w' h2 h3 h4 h5)
/-- .. at a step of a region that draws its order -/
theorem step_append_str {ops : Array Oper} {o : Oper} {a : Act} {w : World} {K : Act → World → Prop} {Q : Exit → Act → World → Prop} {E : Prop} (hgd : o.guard = none) (s x : Operand)
    (ho : o.op = .call { callee := .builtin .append, args := #[s, x], argTypes := #[76, 76] }) {B : Nat} {v : Value} {ss : List ByteArray} {b : Nat} {y : ByteArray}
    (hs : a.eval s = v) (hx : a.eval x = .slice (some ⟨b, 0, none⟩) 1 1) (hrow : Row w B v ss) (hy : y.size ≤ maxLen) (hcell : w.cell? ⟨b, 0, none⟩ = some (.string y)) (hl : ss.length ≤ 4294967296) (hB : B ≤ w.heap.size)
    (h : ∀ g cap w', Row w' B (.slice (some ⟨g, 0, none⟩) (ss.length + 1) cap) (ss ++ [y]) → w.grownBy w' v.ownBlock → Goes w v (.slice (some ⟨g, 0, none⟩) (ss.length + 1) cap) → g < w'.heap.size → K (a.put o.dst (.slice (some ⟨g, 0, none⟩) (ss.length + 1) cap)) w') :
    if Region.wanted o (yielded ops a.tmps) = true then Oper.wp Try.prog o a w K Q else E := by
  have hw : Region.wanted o (yielded ops a.tmps) = true := by simp [Region.wanted, hgd]
  rw [if_pos hw]
  obtain ⟨g, cap, w', hr, h2, h3, h4, h5⟩ := run_append_str hrow o.type hy hcell hl hB
  unfold Oper.wp execOp
  simp only [ho, resolve, invoke, builtin, Sem.run_bind, Sem.run_pure, Result.andThen_ok, List.map_toArray, List.map_cons, List.map_nil, hs, hx, hr]
  exact h g cap w' h2 h3 h4 h5
/-- .. told from a world that the region began in -/
theorem step_apps {ops : Array Oper} {o : Oper} {a : Act} {w W : World} {K : Act → World → Prop} {Q : Exit → Act → World → Prop} {E : Prop} (hgd : o.guard = none) (s x : Operand)
    (ho : o.op = .call { callee := .builtin .append, args := #[s, x], argTypes := #[76, 76] }) {B : Nat} (hBW : Below B W w) (hB : B ≤ w.heap.size) {v : Value} {ss ys : List ByteArray} {b off m c : Nat}
    (hs : a.eval s = v) (hx : a.eval x = .slice (some ⟨b, off, none⟩) m c) (hrow : Row w B v ss) (hm : m = ys.length) (hb : ys.length ≠ 0 → b < B) (hcell : ∀ j (hj : j < ys.length), W.cell? ⟨b, off + j, none⟩ = some (.string ys[j])) (hy : ∀ y ∈ ys, y.size ≤ maxLen) (hl : ss.length + ys.length ≤ 4294967296)
    (h : ∀ v' w', Row w' B v' (ss ++ ys) → Below B W w' → B ≤ w'.heap.size → (v ≠ .slice none 0 0 → v' ≠ .slice none 0 0) → w.grownBy w' v.ownBlock → K (a.put o.dst v') w') :
    if Region.wanted o (yielded ops a.tmps) = true then Oper.wp Try.prog o a w K Q else E := by
  refine step_append_strs hgd s x ho hs hx hrow hm (fun j hj => (hBW.cell (p := ⟨b, off + j, none⟩) (hb (by omega))).trans (hcell j hj)) hy hl hB fun v' w' h1 h2 h3 h4 => ?_
  have q := Below.grown hBW h2 hB (fun k hk => (hrow.lt k hk).1)
  exact h v' w' h1 q (Nat.le_trans hB h2.size) h4 h2
theorem step_app {ops : Array Oper} {o : Oper} {a : Act} {w W : World} {K : Act → World → Prop} {Q : Exit → Act → World → Prop} {E : Prop} (hgd : o.guard = none) (s x : Operand)
    (ho : o.op = .call { callee := .builtin .append, args := #[s, x], argTypes := #[76, 76] }) {B : Nat} (hBW : Below B W w) (hB : B ≤ w.heap.size) {v : Value} {ss : List ByteArray} {b : Nat} {y : ByteArray}
    (hs : a.eval s = v) (hx : a.eval x = .slice (some ⟨b, 0, none⟩) 1 1) (hrow : Row w B v ss) (hy : y.size ≤ maxLen) (hcell : w.cell? ⟨b, 0, none⟩ = some (.string y)) (hl : ss.length ≤ 4294967296)
    (h : ∀ g cap w', Row w' B (.slice (some ⟨g, 0, none⟩) (ss.length + 1) cap) (ss ++ [y]) → Below B W w' → B ≤ w'.heap.size → g < w'.heap.size → w.grownBy w' v.ownBlock → K (a.put o.dst (.slice (some ⟨g, 0, none⟩) (ss.length + 1) cap)) w') :
    if Region.wanted o (yielded ops a.tmps) = true then Oper.wp Try.prog o a w K Q else E := by
  refine step_append_str hgd s x ho hs hx hrow hy hcell hl hB fun g cap w' h1 h2 h3 h4 => ?_
  have q := Below.grown hBW h2 hB (fun k hk => (hrow.lt k hk).1)
  exact h g cap w' h1 q (Nat.le_trans hB h2.size) h4 h2
end Go.Proofs.Ytglhbaigigdeeaa
/- The reference and the program compare terms: both tell whether the two trees are one. -/
namespace Go.Proofs.Ytglhbaigigdeeaa
set_option maxRecDepth 100000
open Go.RowKit

/-- f tells whether two terms are one -/
def Tells (f : FuncId) (t : Tm) : Prop := ∀ (u : Tm) (S : Nat → Prop) (c0 c1 d0 d1 : Value) (w : World), Tm.at S w c0 c1 t → Tm.at S w d0 d1 u → Calls Try.prog f #[.agg #[c0, c1], .agg #[d0, d1]] w fun e w' => e = .returned (.bool (Tm.eqb t u)) ∧ Below w.heap.size w w'

theorem Tm.eqb_name {n m : ByteArray} {ts us : List Tm} (h : n ≠ m) : Tm.eqb (.node n ts) (.node m us) = false := by simp [Tm.eqb, h]
theorem Tm.eqb_args (n : ByteArray) (ts us : List Tm) : Tm.eqb (.node n ts) (.node n us) = Tm.eqbs ts us := by simp [Tm.eqb]

set_option maxHeartbeats 400000 in
theorem l2Same_of (n : ByteArray) (ts : List Tm) (h : ∀ t ∈ ts, Tells 35 t) : Tells 35 (.node n ts) := by
  intro u S c0 c1 d0 d1 w hr hr'
  obtain ⟨m, us⟩ := u
  obtain ⟨rfl, hn, -⟩ := Tm.at_form hr
  obtain ⟨rfl, hm, -⟩ := Tm.at_form hr'
  have hs := hr.2
  have hs' := hr'.2
  simp only [Tm.name, Tm.args] at hs hs' hn hm ⊢
  clear hr hr'
  obtain ⟨a, cap, rfl, hlen, hcap⟩ := Tm.sd_form hs
  obtain ⟨a', cap', rfl, hlen', hcap'⟩ := Tm.sd_form hs'
  unfold big at hlen hlen'
  by_cases hnm : n = m
  · subst hnm
    have HN := hid (Tm.eqb_args n ts us)
    by_cases hll : ts.length = us.length
    · rw [← hll] at hs' hlen' hcap' ⊢
      have HL := hid hll
      clear hll
      go_enter Try.func35, Try.ntmps35
      go_wp2_with fail
      go_loopw [5] (fun i wr => ∃ (k : Nat), k ≤ ts.length ∧ i = .int .i64 k ∧ Hid (ts.take k = us.take k) ∧ Below (w.heap.size + 1 + 1) ((w.alloc (.cells #[.string n, .slice a ts.length cap] 33)).alloc (.cells #[.string n, .slice a' ts.length cap'] 33)) wr) (fun i _ => ts.length - (intOf i).toNat)
      case atStart => exact ⟨0, Nat.zero_le _, rfl, by simp [Hid], Below.refl _ _⟩
      case round =>
        obtain ⟨k, hk, rfl, HX, hb⟩ := hrel
        have hbw : Below w.heap.size w wr := (((Below.refl _ _).alloc (Nat.le_refl _) _).alloc (by simp) _).trans (hb.mono (by omega))
        have hz := hb.size
        simp only [World.size_alloc] at hz
        have e20 : wr.cell? ⟨w.heap.size, 0, none⟩ = some (.string n) := (hb.cell (by simp; omega)).trans (box2 _ _ _ _ _ _).1
        have e21 : wr.cell? ⟨w.heap.size, 1, none⟩ = some (.slice a ts.length cap) := (hb.cell (by simp; omega)).trans (box2 _ _ _ _ _ _).1
        have e31 : wr.cell? ⟨w.heap.size + 1, 1, none⟩ = some (.slice a' ts.length cap') := (hb.cell (by simp)).trans (box2 _ _ _ _ _ _).2
        by_cases hlt : k < ts.length
        · have hne : ts ≠ [] := by intro e; subst e; simp at hlt
          have hlt' : k < us.length := by rw [← HL.out]; exact hlt
          have hne' : us ≠ [] := by intro e; subst e; simp at hlt'
          obtain ⟨b, off, rfl, hS, hbl, hrr⟩ := Tm.sd_get hs hne
          obtain ⟨b', off', rfl, hS', hbl', hrr'⟩ := Tm.sd_get hs' hne'
          obtain ⟨c0, c1, q0, q1, q2⟩ := hrr k hlt
          obtain ⟨d0, d1, r0, r1, r2⟩ := hrr' k hlt'
          replace q0 := (hbw.cell (p := ⟨b, off + k * 2, none⟩) hbl).trans q0
          replace q1 := (hbw.cell (p := ⟨b, off + k * 2 + 1, none⟩) hbl).trans q1
          replace q2 := Tm.at_keep (Keeps.all hbw) q2
          replace r0 := (hbw.cell (p := ⟨b', off' + k * 2, none⟩) hbl').trans r0
          replace r1 := (hbw.cell (p := ⟨b', off' + k * 2 + 1, none⟩) hbl').trans r1
          replace r2 := Tm.at_keep (Keeps.all hbw) r2
          have hmem := h ts[k] (List.getElem_mem hlt)
          clear hs hrr hs' hrr'
          have hb0 : b < wr.heap.size := by omega
          have hb0' : b' < wr.heap.size := by omega
          have hz0 : w.heap.size < wr.heap.size := by omega
          have hz1 : w.heap.size + 1 < wr.heap.size := by omega
          go_wp2_with fail
          refine wp_region_B [fun v _ => v = .pointer (some ⟨w.heap.size, 1, none⟩), fun v _ => v = .slice (some ⟨b, off, none⟩) ts.length cap, fun v _ => v = .int .i64 k, fun v _ => v = .pointer (some ⟨b, off + k * 2, none⟩), fun v _ => v = .agg #[c0, c1], fun v _ => v = .pointer (some ⟨w.heap.size + 1, 1, none⟩), fun v _ => v = .slice (some ⟨b', off', none⟩) ts.length cap', fun v _ => v = .int .i64 k, fun v _ => v = .pointer (some ⟨b', off' + k * 2, none⟩), fun v _ => v = .agg #[d0, d1], fun v _ => v = .bool (Tm.eqb ts[k] us[k]), fun v _ => v = .bool (!Tm.eqb ts[k] us[k])] _ (fun V => by simp [putAll, Act.put]; rfl) (by kernel_rfl) (by decide) (by simp) (by kernel_rfl) ?_ ?_ ?_
          · intro F hF
            simp only [List.mem_cons, List.not_mem_nil, or_false] at hF
            rcases hF with rfl | rfl | rfl | rfl | rfl | rfl | rfl | rfl | rfl | rfl | rfl | rfl
            · exact stable_eq
            · exact stable_eq
            · exact stable_eq
            · exact stable_eq
            · exact stable_eq
            · exact stable_eq
            · exact stable_eq
            · exact stable_eq
            · exact stable_eq
            · exact stable_eq
            · exact stable_eq
            · exact stable_eq
          · refine ⟨?_, ?_, ?_, ?_, ?_, ?_, ?_, ?_, ?_, ?_, ?_, ?_, trivial⟩
            · intro V w1 hbR _
              unfold Does
              go_simp
              exact ⟨Below.refl _ _, rfl⟩
            · intro V w1 hbR ⟨f0, _⟩
              replace f0 : V 0 = .pointer (some ⟨w.heap.size, 1, none⟩) := f0
              obtain ⟨hc, hf⟩ := bcell hbR
              try simp only [World.size_alloc, World.size_setCell] at hc hf
              unfold Does
              go_simp
              exact ⟨Below.refl _ _, rfl⟩
            · intro V w1 hbR _
              unfold Does
              go_simp
              exact ⟨Below.refl _ _, rfl⟩
            · intro V w1 hbR ⟨f1, f2, _⟩
              replace f1 : V 1 = .slice (some ⟨b, off, none⟩) ts.length cap := f1
              replace f2 : V 2 = .int .i64 k := f2
              unfold Does
              go_simp
              exact ⟨Below.refl _ _, rfl⟩
            · intro V w1 hbR ⟨f3, _⟩
              replace f3 : V 3 = .pointer (some ⟨b, off + k * 2, none⟩) := f3
              obtain ⟨hc, hf⟩ := bcell hbR
              try simp only [World.size_alloc, World.size_setCell] at hc hf
              unfold Does
              go_simp
              exact ⟨Below.refl _ _, rfl⟩
            · intro V w1 hbR _
              unfold Does
              go_simp
              exact ⟨Below.refl _ _, rfl⟩
            · intro V w1 hbR ⟨f5, _⟩
              replace f5 : V 5 = .pointer (some ⟨w.heap.size + 1, 1, none⟩) := f5
              obtain ⟨hc, hf⟩ := bcell hbR
              try simp only [World.size_alloc, World.size_setCell] at hc hf
              unfold Does
              go_simp
              exact ⟨Below.refl _ _, rfl⟩
            · intro V w1 hbR _
              unfold Does
              go_simp
              exact ⟨Below.refl _ _, rfl⟩
            · intro V w1 hbR ⟨f6, f7, _⟩
              replace f6 : V 6 = .slice (some ⟨b', off', none⟩) ts.length cap' := f6
              replace f7 : V 7 = .int .i64 k := f7
              unfold Does
              go_simp
              exact ⟨Below.refl _ _, rfl⟩
            · intro V w1 hbR ⟨f8, _⟩
              replace f8 : V 8 = .pointer (some ⟨b', off' + k * 2, none⟩) := f8
              obtain ⟨hc, hf⟩ := bcell hbR
              try simp only [World.size_alloc, World.size_setCell] at hc hf
              unfold Does
              go_simp
              exact ⟨Below.refl _ _, rfl⟩
            · intro V w1 hbR ⟨f4, f9, _⟩
              replace f4 : V 4 = .agg #[c0, c1] := f4
              replace f9 : V 9 = .agg #[d0, d1] := f9
              obtain ⟨hc, hf⟩ := bcell hbR
              try simp only [World.size_alloc, World.size_setCell] at hc hf
              unfold Does
              go_simp
              refine (hmem _ _ _ _ _ _ _ (Tm.at_keep (Keeps.all hbR) q2) (Tm.at_keep (Keeps.all hbR) r2)).mono ?_; rintro e w2 ⟨rfl, hb2⟩; exact ⟨_, rfl, hb2, rfl⟩
            · intro V w1 hbR ⟨f10, _⟩
              replace f10 : V 10 = .bool (Tm.eqb ts[k] us[k]) := f10
              unfold Does
              go_simp
              exact ⟨Below.refl _ _, rfl⟩
          intro V w1 hbR hfR
          obtain ⟨f0, f1, f2, f3, f4, f5, f6, f7, f8, f9, f10, f11, _⟩ := hfR
          replace f0 : V 0 = .pointer (some ⟨w.heap.size, 1, none⟩) := f0
          replace f1 : V 1 = .slice (some ⟨b, off, none⟩) ts.length cap := f1
          replace f2 : V 2 = .int .i64 k := f2
          replace f3 : V 3 = .pointer (some ⟨b, off + k * 2, none⟩) := f3
          replace f4 : V 4 = .agg #[c0, c1] := f4
          replace f5 : V 5 = .pointer (some ⟨w.heap.size + 1, 1, none⟩) := f5
          replace f6 : V 6 = .slice (some ⟨b', off', none⟩) ts.length cap' := f6
          replace f7 : V 7 = .int .i64 k := f7
          replace f8 : V 8 = .pointer (some ⟨b', off' + k * 2, none⟩) := f8
          replace f9 : V 9 = .agg #[d0, d1] := f9
          replace f10 : V 10 = .bool (Tm.eqb ts[k] us[k]) := f10
          replace f11 : V 11 = .bool (!Tm.eqb ts[k] us[k]) := f11
          simp only [f0, f1, f2, f3, f4, f5, f6, f7, f8, f9, f10, f11]
          clear f0 f1 f2 f3 f4 f5 f6 f7 f8 f9 f10 f11
          by_cases he : Tm.eqb ts[k] us[k] = true
          · have HZ := hid (Tm.eqbs_take hlt hlt' HX.out he)
            rw [he]
            go_wp2_with fail
            go_roundw
            case rel => exact ⟨k + 1, by omega, by go_num, HZ, hb.trans (hbR.mono hz)⟩
            case measure => simp [intOf]; omega
          · have he' : Tm.eqb ts[k] us[k] = false := by simpa using he
            have HZ := hid (Tm.eqbs_at hlt hlt' he')
            rw [he']
            clear he he'
            go_wp2_with fail
            go_ret
            exact ⟨ret_bool (by rw [HN.out, HZ.out]), hbw.trans (hbR.mono hbw.size)⟩
        · obtain rfl : k = ts.length := by omega
          have HY : Hid (Tm.eqbs ts us = true) := by
            have := HX.out
            rw [List.take_length, HL.out, List.take_length] at this
            rw [Hid, Tm.eqbs_iff]; exact this
          go_wp2_with fail
          go_ret
          exact ⟨ret_bool (by rw [HN.out, HY.out]), hbw⟩
    · have HY := hid (Tm.eqbs_length hll)
      go_enter Try.func35, Try.ntmps35
      go_wp2_with fail
      go_ret
      exact ⟨ret_bool (by rw [HN.out, HY.out]), ((Below.refl _ _).alloc (Nat.le_refl _) _).alloc (by simp) _⟩
  · have HX := hid (Tm.eqb_name (ts := ts) (us := us) hnm)
    have hne := toList_ne hnm
    go_enter Try.func35, Try.ntmps35
    go_wp2_with fail
    go_ret
    exact ⟨ret_bool HX.out.symm, ((Below.refl _ _).alloc (Nat.le_refl _) _).alloc (by simp) _⟩

theorem l2Same_any (t : Tm) : Tells 35 t := Tm.ind (fun n ts h => l2Same_of n ts h) t

set_option maxHeartbeats 400000 in
theorem equalFunc_of (ts : List Tm) (h : ∀ t ∈ ts, Tells 55 t) (us : List Tm) (S : Nat → Prop) (v u : Value) (w : World) (hr : D.rd S w v (Tm.sd ts)) (hr' : D.rd S w u (Tm.sd us)) :
    Calls Try.prog 74 #[v, u, .func (.func 55) #[] #[]] w fun e w' => e = .returned (.bool (Tm.eqbs ts us)) ∧ Below w.heap.size w w' := by
  obtain ⟨a, cap, rfl, hlen, hcap⟩ := Tm.sd_form hr
  obtain ⟨a', cap', rfl, hlen', hcap'⟩ := Tm.sd_form hr'
  unfold big at hlen hlen'
  by_cases hll : ts.length = us.length
  · rw [← hll] at hr' hlen' hcap' ⊢
    have HL := hid hll
    clear hll
    go_enter Try.func74, Try.ntmps74
    go_wp2_with fail
    go_loopw [17] (fun i wr => ∃ (k : Nat), k ≤ ts.length ∧ i = .int .i64 k ∧ Hid (ts.take k = us.take k) ∧ Below w.heap.size w wr) (fun i _ => ts.length - (intOf i).toNat)
    case atStart => exact ⟨0, Nat.zero_le _, rfl, by simp [Hid], Below.refl _ _⟩
    case round =>
      obtain ⟨k, hk, rfl, HX, hb⟩ := hrel
      by_cases hlt : k < ts.length
      · have hne : ts ≠ [] := by intro e; subst e; simp at hlt
        have hlt' : k < us.length := by rw [← HL.out]; exact hlt
        have hne' : us ≠ [] := by intro e; subst e; simp at hlt'
        obtain ⟨b, off, rfl, hS, hbl, hrr⟩ := Tm.sd_get hr hne
        obtain ⟨b', off', rfl, hS', hbl', hrr'⟩ := Tm.sd_get hr' hne'
        obtain ⟨c0, c1, q0, q1, q2⟩ := hrr k hlt
        obtain ⟨d0, d1, r0, r1, r2⟩ := hrr' k hlt'
        obtain ⟨rfl, -, x, xc, rfl⟩ := Tm.at_form q2
        obtain ⟨rfl, -, y, yc, rfl⟩ := Tm.at_form r2
        replace q0 := (hb.cell (p := ⟨b, off + k * 2, none⟩) hbl).trans q0
        replace q1 := (hb.cell (p := ⟨b, off + k * 2 + 1, none⟩) hbl).trans q1
        replace q2 := Tm.at_keep (Keeps.all hb) q2
        replace r0 := (hb.cell (p := ⟨b', off' + k * 2, none⟩) hbl').trans r0
        replace r1 := (hb.cell (p := ⟨b', off' + k * 2 + 1, none⟩) hbl').trans r1
        replace r2 := Tm.at_keep (Keeps.all hb) r2
        have r0' := cell_alloc r0
        have r1' := cell_alloc r1
        have hmem := h ts[k] (List.getElem_mem hlt)
        clear hr hrr hr' hrr'
        go_wp2_with fail
        have hbx : Below wr.heap.size wr ((wr.alloc (.cells #[.string ts[k].name, .slice x ts[k].args.length xc] 33)).alloc (.cells #[.string us[k].name, .slice y us[k].args.length yc] 33)) := ((Below.refl _ _).alloc (Nat.le_refl _) _).alloc (by simp) _
        refine (hmem _ _ _ _ _ _ _ (Tm.at_keep (Keeps.all hbx) q2) (Tm.at_keep (Keeps.all hbx) r2)).mono ?_
        rintro e w2 ⟨rfl, hb2⟩
        have hb3 : Below w.heap.size w w2 := hb.trans ((hbx.trans (hb2.mono hbx.size)).mono hb.size)
        clear hbx hb2
        by_cases he : Tm.eqb ts[k] us[k] = true
        · have HZ := hid (Tm.eqbs_take hlt hlt' HX.out he)
          rw [he]
          go_wp2_with fail
          go_roundw
          case rel => exact ⟨k + 1, by omega, by go_num, HZ, hb3⟩
          case measure => simp [intOf]; omega
        · have he' : Tm.eqb ts[k] us[k] = false := by simpa using he
          have HZ := hid (Tm.eqbs_at hlt hlt' he')
          rw [he']
          clear he he'
          go_wp2_with fail
          go_ret
          exact ⟨ret_bool HZ.out.symm, hb3⟩
      · obtain rfl : k = ts.length := by omega
        have HY : Hid (Tm.eqbs ts us = true) := by
          have := HX.out
          rw [List.take_length, HL.out, List.take_length] at this
          rw [Hid, Tm.eqbs_iff]; exact this
        go_wp2_with fail
        go_ret
        exact ⟨ret_bool HY.out.symm, hb⟩
  · have HY := hid (Tm.eqbs_length hll)
    go_enter Try.func74, Try.ntmps74
    go_wp2_with fail
    go_ret
    exact ⟨ret_bool HY.out.symm, Below.refl _ _⟩

set_option maxHeartbeats 400000 in
theorem equalTerms_of (n : ByteArray) (ts : List Tm) (h : ∀ t ∈ ts, Tells 55 t) : Tells 55 (.node n ts) := by
  intro u S c0 c1 d0 d1 w hr hr'
  obtain ⟨m, us⟩ := u
  obtain ⟨rfl, hn, -⟩ := Tm.at_form hr
  obtain ⟨rfl, hm, -⟩ := Tm.at_form hr'
  have hs := hr.2
  have hs' := hr'.2
  simp only [Tm.name, Tm.args] at hs hs' hn hm ⊢
  clear hr hr'
  have hbx : Below w.heap.size w ((w.alloc (.cells #[.string n, c1] 33)).alloc (.cells #[.string m, d1] 33)) := ((Below.refl _ _).alloc (Nat.le_refl _) _).alloc (by simp) _
  by_cases hnm : n = m
  · subst hnm
    have HN := hid (Tm.eqb_args n ts us)
    have hbq := (beq_self_eq_true n.toList)
    go_enter Try.func55, Try.ntmps55
    go_wp2_with fail
    refine (equalFunc_of ts h us S _ _ _ (D.rd_below hbx hs) (D.rd_below hbx hs')).mono ?_
    rintro e w2 ⟨rfl, hb2⟩
    have hb3 : Below w.heap.size w w2 := hbx.trans (hb2.mono hbx.size)
    clear hbx hb2
    go_wp2_with fail
    go_ret
    exact ⟨ret_bool (by rw [HN.out]), hb3⟩
  · have HX := hid (Tm.eqb_name (ts := ts) (us := us) hnm)
    have hne := toList_ne hnm
    go_enter Try.func55, Try.ntmps55
    go_wp2_with fail
    go_ret
    exact ⟨ret_bool HX.out.symm, hbx⟩
theorem equalTerms_any (t : Tm) : Tells 55 t := Tm.ind (fun n ts h => equalTerms_of n ts h) t

theorem impl_EqualTerms {t u : Tm} {S : Nat → Prop} {c0 c1 d0 d1 : Value} {w : World} (h : Tm.at S w c0 c1 t) (_ : t.bulk ≤ 1048576) (k : Tm.at S w d0 d1 u) (_ : u.bulk ≤ 1048576) :
    Calls Try.prog 55 #[.agg #[c0, c1], .agg #[d0, d1]] w (Gives w (.bool (Tm.eqb t u))) :=
  (equalTerms_any t u S c0 c1 d0 d1 w h k).mono fun _ _ ⟨he, hb⟩ => Gives.mk he hb
end Go.Proofs.Ytglhbaigigdeeaa
/- Terms are compared: the walk of the reference. -/
namespace Go.Proofs.Ytglhbaigigdeeaa
set_option maxRecDepth 100000
open Go.RowKit

/-- f compares two terms -/
def Cmps (f : FuncId) (t : Tm) : Prop := ∀ ⦃u : Tm⦄ ⦃S : Nat → Prop⦄ ⦃c0 c1 d0 d1 : Value⦄ ⦃w : World⦄, Tm.at S w c0 c1 t → Tm.at S w d0 d1 u → Calls Try.prog f #[.agg #[c0, c1], .agg #[d0, d1]] w (Gives w (.int .i64 (Tm.cmp t u)))
end Go.Proofs.Ytglhbaigigdeeaa
/- Terms are compared: the walk of the program. -/
namespace Go.Proofs.Ytglhbaigigdeeaa
set_option maxRecDepth 100000
open Go.RowKit

theorem compareString_any (a b : ByteArray) (w : World) : Calls Try.prog 59 #[.string a, .string b] w fun e w' => e = .returned (.int .i64 (strCmp a b)) ∧ w = w' := by
  have isNaN : ∀ (s : ByteArray) (w : World), Calls Try.prog 78 #[.string s] w fun e w' => e = .returned (.bool false) ∧ w = w' := by
    intro s w
    go_enter Try.func78, Try.ntmps78
    go_wp2
    go_ret
    exact ⟨ret_bool (by simp), rfl⟩
  by_cases h1 : Op.bytesLess a.toList b.toList = true
  · have HX : Hid (strCmp a b = -1) := by rw [Hid, strCmp, if_pos h1]
    go_enter Try.func59, Try.ntmps59
    go_wp2_with (first | (go_at_call 78; refine (isNaN _ _).mono ?_; rintro e w' ⟨rfl, rfl⟩))
    go_ret
    exact ⟨ret_i64 HX.out.symm, rfl⟩
  · replace h1 : Op.bytesLess a.toList b.toList = false := by simpa using h1
    by_cases h2 : a = b
    · have HX : Hid (strCmp a b = 0) := by rw [Hid, strCmp, h1]; simp [h2]
      have h3 : (a.toList == b.toList) = true := by rw [h2]; simp
      clear h2
      go_enter Try.func59, Try.ntmps59
      go_wp2_with (first | (go_at_call 78; refine (isNaN _ _).mono ?_; rintro e w' ⟨rfl, rfl⟩))
      go_ret
      exact ⟨ret_i64 HX.out.symm, rfl⟩
    · have HX : Hid (strCmp a b = 1) := by rw [Hid, strCmp, h1]; simp [h2]
      have h3 := toList_ne h2
      clear h2
      go_enter Try.func59, Try.ntmps59
      go_wp2_with (first | (go_at_call 78; refine (isNaN _ _).mono ?_; rintro e w' ⟨rfl, rfl⟩))
      go_ret
      exact ⟨ret_i64 HX.out.symm, rfl⟩

/-- the value is a slice of the two numbers -/
def TwoInts (x y : Int) (v : Value) (w : World) : Prop := ∃ b, v = .slice (some ⟨b, 0, none⟩) 2 2 ∧ b < w.heap.size ∧ w.cell? ⟨b, 0, none⟩ = some (.int .i64 x) ∧ w.cell? ⟨b, 1, none⟩ = some (.int .i64 y)
theorem TwoInts.stable {x y : Int} {w : World} : ∀ v w1 w2, Below w.heap.size w w1 → Below w1.heap.size w1 w2 → TwoInts x y v w1 → TwoInts x y v w2 :=
  fun _ _ _ _ hb ⟨b, e, hl, h0, h1⟩ => ⟨b, e, Nat.lt_of_lt_of_le hl hb.size, (hb.cell (p := ⟨b, 0, none⟩) hl).trans h0, (hb.cell (p := ⟨b, 1, none⟩) hl).trans h1⟩


theorem isVar_any {t : Tm} (hni : t.nice = true) {S : Nat → Prop} {c0 c1 : Value} {w : World} (hT : Tm.at S w c0 c1 t) : Calls Try.prog 54 #[.agg #[c0, c1]] w (Gives w (.bool (varName t.name))) := by
  obtain ⟨h1, h2, _⟩ := (Tm.nice_iff t).1 hni
  have hlt : 0 < t.name.size := h1
  have hbe := byteAt_eq hlt
  have H2 := hid h2
  have hlt0 : (0 : Int) < t.name.size := by omega
  clear h2
  obtain ⟨rfl, hn, a, cap, rfl⟩ := Tm.at_form hT
  have hW : Below w.heap.size w (w.alloc (.cells #[.string t.name, .slice a t.args.length cap] 33)) := (Below.refl _ _).alloc (Nat.le_refl _) _
  have bT : Box (w.alloc (.cells #[.string t.name, .slice a t.args.length cap] 33)) w.heap.size [.string t.name, .slice a t.args.length cap] := Box.new w _ _
  replace hT := Tm.at_keep (Keeps.all hW) hT
  go_enter Try.func54, Try.ntmps54
  go_wp2_with fail
  generalize (w.alloc (.cells #[.string t.name, .slice a t.args.length cap] 33)) = w0 at *
  refine (isUpper_any (byteAt t.name 0) _).mono ?_
  rintro e w1 ⟨rfl, rfl⟩
  go_wp2_with fail
  go_ret
  exact Gives.mk (ret_bool H2.out) hW

/-- f compares two terms whose names tell by their first bytes -/
def CmpsN (f : FuncId) (t : Tm) : Prop := ∀ ⦃u : Tm⦄ ⦃S : Nat → Prop⦄ ⦃c0 c1 d0 d1 : Value⦄ ⦃w : World⦄, t.nice = true → u.nice = true → Tm.at S w c0 c1 t → Tm.at S w d0 d1 u → Calls Try.prog f #[.agg #[c0, c1], .agg #[d0, d1]] w (Gives w (.int .i64 (Tm.cmp t u)))

end Go.Proofs.Ytglhbaigigdeeaa
/- What a law that marks its arguments and its results carries along. -/
namespace Go.Proofs.Ytglhbaigigdeeaa
set_option maxRecDepth 100000
open Go.RowKit

theorem D.rd_lt {S : Nat → Prop} {w : World} : ∀ (d : D) (v : Value), D.rd S w v d → D.rd (· < w.heap.size) w v d := by
  refine D.ind (fun s v h => by rw [D.rd] at h ⊢; exact h) (fun n v h => by rw [D.rd] at h ⊢; exact h) (fun b v h => by rw [D.rd] at h ⊢; exact h) (fun n cs ih v h => ?_)
  rw [D.rd] at h ⊢
  obtain ⟨a, cap, h0, h1, h2, h3, h4⟩ := h
  refine ⟨a, cap, h0, h1, h2, h3, fun hne => ?_⟩
  obtain ⟨b, off, q0, q1, q2, q3⟩ := h4 hne
  refine ⟨b, off, q0, q2, q2, (D.rds_iff _ _).2 fun i hi => ?_⟩
  obtain ⟨v, r0, r1⟩ := (D.rds_iff _ _).1 q3 i hi
  exact ⟨v, r0, ih _ (List.getElem_mem hi) _ r1⟩
theorem D.rd_all {S : Nat → Prop} {w : World} {d : D} {v : Value} (h : D.rd S w v d) : D.rd (fun _ => True) w v d := D.rd_mono (fun _ _ => trivial) _ _ h
theorem Mk.lt {F : List Nat} {w w' : World} {U : Nat} (h : Mk F w w') (hF : ∀ x ∈ F, U ≤ x) : Keeps (· < U) w w' := h.1.mono fun b hb q => by have := hF b q; omega
theorem Mk.apart {F G : List Nat} {w w' : World} (h : Mk F w w') (hd : ∀ x ∈ G, x ∉ F) : Keeps (· ∈ G) w w' := h.1.mono hd
theorem Box.marked {w w' : World} {b : Nat} {cs : List Value} {F : List Nat} (h : Box w b cs) (hm : Mk F w w') (hb : b ∉ F) : Box w' b cs :=
  ⟨Nat.lt_of_lt_of_le h.lt hm.size, fun i hi => (hm.1.cell hb h.lt).trans (h.cell i hi)⟩

/-- a result that the call owns, and a bool -/
def OutD (mk : Value → Value) (d : D) (ok : Bool) (w : World) (e : Ending) (w' : World) : Prop := ∃ v F, e = .returned (.tuple #[mk v, .bool ok]) ∧ D.own w' v d F ∧ (∀ x ∈ F, w.heap.size ≤ x) ∧ Below w.heap.size w w'
/-- a result that reads, and a bool -/
def RdD (mk : Value → Value) (d : D) (ok : Bool) (w : World) (e : Ending) (w' : World) : Prop := ∃ v, e = .returned (.tuple #[mk v, .bool ok]) ∧ D.rd (fun _ => True) w' v d ∧ Below w.heap.size w w'
theorem OutD.rd {mk : Value → Value} {d : D} {ok : Bool} {w : World} {e : Ending} {w' : World} (h : OutD mk d ok w e w') : RdD mk d ok w e w' := by
  obtain ⟨v, F, he, ho, _, hb⟩ := h
  exact ⟨v, he, D.rd_all (D.own_rd _ _ _ ho), hb⟩
theorem Tm.at_lt {S : Nat → Prop} {w : World} {c0 c1 : Value} {t : Tm} (h : Tm.at S w c0 c1 t) : Tm.at (· < w.heap.size) w c0 c1 t := ⟨D.rd_lt _ _ h.1, D.rd_lt _ _ h.2⟩
theorem Tm.at_all {S : Nat → Prop} {w : World} {c0 c1 : Value} {t : Tm} (h : Tm.at S w c0 c1 t) : Tm.at (fun _ => True) w c0 c1 t := ⟨D.rd_all h.1, D.rd_all h.2⟩
theorem Tm.at_of {w : World} {t : Tm} {v : Value} {F : List Nat} (hn : t.name.size ≤ maxLen) (h : D.own w v (Tm.sd t.args) F) : Tm.at (fun _ => True) w (.string t.name) v t := ⟨D.rd_str hn, D.rd_all (D.own_rd _ _ _ h)⟩
theorem Tm.sizes_le_bulk (t : Tm) : Tm.sizes t.args ≤ t.bulk := by
  have h := Tm.size_bulk t
  have : t.size = 1 + Tm.sizes t.args := by cases t; rw [Tm.size]; rfl
  omega
theorem Tm.name_le {t : Tm} (h : t.bulk ≤ 1048576) : t.name.size ≤ maxLen := by
  cases t
  rw [Tm.bulk] at h
  unfold maxLen
  show _ ≤ 9223372036854775807
  simp only [Tm.name]
  omega
/-- the value reads as the datum -/
def RdV (d : D) (v : Value) (w : World) : Prop := D.rd (fun _ => True) w v d
def IsTup (P : Value → World → Prop) (ok : Bool) (v : Value) (w : World) : Prop := ∃ v', v = .tuple #[v', .bool ok] ∧ P v' w
theorem RdV.stable {d : D} {w : World} : ∀ v w1 w2, Below w.heap.size w w1 → Below w1.heap.size w1 w2 → RdV d v w1 → RdV d v w2 := fun _ _ _ _ hb h => D.rd_keep (Keeps.all hb) _ _ h
theorem IsTup.stable {d : D} {ok : Bool} {w : World} : ∀ v w1 w2, Below w.heap.size w w1 → Below w1.heap.size w1 w2 → IsTup (RdV d) ok v w1 → IsTup (RdV d) ok v w2 :=
  fun _ _ _ h hb ⟨v', e, g⟩ => ⟨v', e, RdV.stable _ _ _ h hb g⟩
theorem RdD.yields {d : D} {ok : Bool} {w : World} {e : Ending} {w' : World} (h : RdD id d ok w e w') : After (Both (fun a b => Below a.heap.size a b) (IsTup (RdV d) ok) w) e w' := by
  obtain ⟨v, rfl, hr, hb⟩ := h
  exact ⟨_, rfl, hb, v, rfl, hr⟩
end Go.Proofs.Ytglhbaigigdeeaa
/- Lists of names: a name is put into its place; the names of variables of a term. Plain. -/
namespace Go.Proofs.Ytglhbaigigdeeaa
set_option maxRecDepth 100000
open Go.RowKit

/-- a name is put into an ascending list, unless it is there -/
def putStr : List ByteArray → ByteArray → List ByteArray
  | [], s => [s]
  | x :: l, s => if Op.bytesLess x.toList s.toList = true then x :: putStr l s else if x = s then x :: l else s :: x :: l

theorem putStr_mem (l : List ByteArray) (s m : ByteArray) : m ∈ putStr l s ↔ m = s ∨ m ∈ l := by
  induction l with
  | nil => simp [putStr]
  | cons x l ih =>
    rw [putStr]
    split
    · simp only [List.mem_cons, ih]
      constructor
      · rintro (h | h | h)
        · exact .inr (.inl h)
        · exact .inl h
        · exact .inr (.inr h)
      · rintro (h | h | h)
        · exact .inr (.inl h)
        · exact .inl h
        · exact .inr (.inr h)
    · split
      · rename_i h; subst h; simp
      · simp
theorem putStr_length (l : List ByteArray) (s : ByteArray) : (putStr l s).length ≤ l.length + 1 := by
  induction l with
  | nil => simp [putStr]
  | cons x l ih =>
    rw [putStr]
    split
    · simp; omega
    · split <;> simp
theorem putStr_there {l : List ByteArray} {s : ByteArray} {i : Nat} (hi : i < l.length) (hlt : ∀ j (h : j < i), Op.bytesLess (l[j]'(by omega)).toList s.toList = true) (hge : Op.bytesLess l[i].toList s.toList = false) (he : l[i] = s) : putStr l s = l := by
  induction l generalizing i with
  | nil => exact absurd hi (by simp)
  | cons x l ih =>
    cases i with
    | zero =>
      have hge' : Op.bytesLess x.toList s.toList = false := hge
      have he' : x = s := he
      rw [putStr, if_neg (by rw [hge']; simp), if_pos he']
    | succ i =>
      have h0 : Op.bytesLess x.toList s.toList = true := hlt 0 (by omega)
      rw [putStr, if_pos h0, ih (by simpa using hi) (fun j h => hlt (j + 1) (by omega)) hge he]
theorem putStr_new {l : List ByteArray} {s : ByteArray} {i : Nat} (hi : i ≤ l.length) (hlt : ∀ j (h : j < i), Op.bytesLess (l[j]'(by omega)).toList s.toList = true) (hge : ∀ h : i < l.length, Op.bytesLess l[i].toList s.toList = false ∧ l[i] ≠ s) : putStr l s = l.take i ++ [s] ++ l.drop i := by
  induction l generalizing i with
  | nil => simp [putStr]
  | cons x l ih =>
    cases i with
    | zero =>
      obtain ⟨h1, h2⟩ := hge (by simp)
      have h1' : Op.bytesLess x.toList s.toList = false := h1
      have h2' : x ≠ s := h2
      rw [putStr, if_neg (by rw [h1']; simp), if_neg h2']; simp
    | succ i =>
      have h0 : Op.bytesLess x.toList s.toList = true := hlt 0 (by omega)
      rw [putStr, if_pos h0, ih (by simpa using hi) (fun j h => hlt (j + 1) (by omega)) (fun h => hge (by simpa using h))]
      simp

mutual
/-- the names of a term's variables are put into a list -/
def Tm.into : Tm → List ByteArray → List ByteArray
  | .node n ts, l => if varName n = true then putStr l n else Tm.intos ts l
def Tm.intos : List Tm → List ByteArray → List ByteArray
  | [], l => l
  | t :: ts, l => Tm.intos ts (Tm.into t l)
end
mutual
/-- does the variable occur? -/
def Tm.hasVar (m : ByteArray) : Tm → Prop
  | .node n ts => if varName n = true then n = m else Tm.haveVar m ts
def Tm.haveVar (m : ByteArray) : List Tm → Prop
  | [] => False
  | t :: ts => Tm.hasVar m t ∨ Tm.haveVar m ts
end
theorem Tm.intos_take (ts : List Tm) (l : List ByteArray) (k : Nat) (hk : k < ts.length) : Tm.intos (ts.take (k + 1)) l = Tm.into ts[k] (Tm.intos (ts.take k) l) := by
  induction ts generalizing l k with
  | nil => exact absurd hk (by simp)
  | cons t ts ih =>
    cases k with
    | zero => simp [Tm.intos]
    | succ k => simpa [Tm.intos] using ih (Tm.into t l) k (by simpa using hk)
theorem Tm.into_mem (m : ByteArray) (t : Tm) : ∀ l, m ∈ Tm.into t l ↔ m ∈ l ∨ Tm.hasVar m t := by
  refine Tm.ind (P := fun t => ∀ l, m ∈ Tm.into t l ↔ m ∈ l ∨ Tm.hasVar m t) (fun n ts ih l => ?_) t
  rw [Tm.into, Tm.hasVar]
  split
  · rw [putStr_mem, or_comm, @eq_comm _ m n]
  · have key : ∀ ts : List Tm, (∀ a ∈ ts, ∀ l, m ∈ Tm.into a l ↔ m ∈ l ∨ Tm.hasVar m a) → ∀ l, m ∈ Tm.intos ts l ↔ m ∈ l ∨ Tm.haveVar m ts := by
      intro ts
      induction ts with
      | nil => intro _ l; simp [Tm.intos, Tm.haveVar]
      | cons t ts iht =>
        intro h l
        rw [Tm.intos, Tm.haveVar, iht (fun a ha => h a (by simp [ha])), h t (by simp), or_assoc]
    exact key ts ih l
theorem Tm.into_length (t : Tm) : ∀ l, (Tm.into t l).length ≤ l.length + t.size := by
  refine Tm.ind (P := fun t => ∀ l, (Tm.into t l).length ≤ l.length + t.size) (fun n ts ih l => ?_) t
  rw [Tm.into, Tm.size]
  split
  · have := putStr_length l n; omega
  · have key : ∀ ts : List Tm, (∀ a ∈ ts, ∀ l, (Tm.into a l).length ≤ l.length + a.size) → ∀ l, (Tm.intos ts l).length ≤ l.length + Tm.sizes ts := by
      intro ts
      induction ts with
      | nil => intro _ l; simp [Tm.intos]
      | cons t ts iht =>
        intro h l
        have h0 := h t (by simp) l
        have h1 := iht (fun a ha => h a (by simp [ha])) (Tm.into t l)
        rw [Tm.intos, Tm.sizes]; omega
    have := key ts ih l
    omega
theorem Tm.intos_length (ts : List Tm) : ∀ l, (Tm.intos ts l).length ≤ l.length + Tm.sizes ts := by
  induction ts with
  | nil => intro l; simp [Tm.intos]
  | cons t ts iht =>
    intro l
    have h0 := Tm.into_length t l
    have h1 := iht (Tm.into t l)
    rw [Tm.intos, Tm.sizes]; omega
end Go.Proofs.Ytglhbaigigdeeaa
/- Variables have no arguments. -/
namespace Go.Proofs.Ytglhbaigigdeeaa
set_option maxRecDepth 100000

mutual
/-- variables have no arguments -/
def Tm.leafy : Tm → Prop
  | .node n ts => (varName n = true → ts = []) ∧ Tm.leafies ts
def Tm.leafies : List Tm → Prop
  | [] => True
  | t :: ts => Tm.leafy t ∧ Tm.leafies ts
end
theorem Tm.leafies_iff (ts : List Tm) : Tm.leafies ts ↔ ∀ t ∈ ts, t.leafy := by
  induction ts with
  | nil => simp [Tm.leafies]
  | cons t ts ih => simp [Tm.leafies, ih]
theorem Tm.names_leafy (t : Tm) : t.names = true → t.leafy := by
  refine Tm.ind (P := fun t => t.names = true → t.leafy) (fun n ts ih h => ?_) t
  rw [Tm.names] at h
  rw [Tm.leafy, Tm.leafies_iff]
  split at h
  · have : ts = [] := by simpa using h
    subst this
    exact ⟨fun _ => rfl, by simp⟩
  · rename_i hv
    simp only [Bool.and_eq_true] at h
    exact ⟨fun h => absurd h hv, fun a ha => ih a ha ((Tm.namesAll_iff ts).1 h.2 a ha)⟩
theorem Tm.atom_leafy {t : Tm} (h : t.atom = true) : t.leafy := by
  cases t with
  | node n ts =>
    rw [Tm.atom] at h
    by_cases he : n = eqSign
    · subst he
      rw [if_pos rfl] at h
      simp only [Bool.and_eq_true] at h
      rw [Tm.leafy, Tm.leafies_iff]
      exact ⟨fun q => (by rw [show varName eqSign = false by decide +kernel] at q; cases q), fun a ha => Tm.names_leafy a ((Tm.namesAll_iff ts).1 h.2 a ha)⟩
    · rw [if_neg he, Bool.and_eq_true, Tm.valid, Bool.and_eq_true] at h
      exact Tm.names_leafy _ h.2.2
theorem Tm.expr_leafy {t : Tm} (h : t.expr = true) : t.leafy := by
  rw [Tm.expr, Bool.or_eq_true] at h
  rcases h with h | h
  · rw [Tm.valid, Bool.and_eq_true] at h
    exact Tm.names_leafy t h.2
  · exact Tm.atom_leafy h
end Go.Proofs.Ytglhbaigigdeeaa
