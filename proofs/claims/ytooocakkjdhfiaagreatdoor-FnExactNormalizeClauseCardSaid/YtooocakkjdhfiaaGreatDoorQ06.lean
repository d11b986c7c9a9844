/- Several texts in one file. -/
import Derived.Test.YtooocakkjdhfiaaGreatDoorRows
import Derived.Test.YtooocakkjdhfiaaGreatDoorQ02
import Derived.Test.YtooocakkjdhfiaaGreatDoorQ01
import Derived.Test.YtooocakkjdhfiaaGreatDoorQ03
import Derived.WalkSpells
import Derived.WalkLawsBesides
import Derived.Deep.AppendLies
import Derived.Test.YtooocakkjdhfiaaGreatDoorQ05
/- Lists of strings that grow at their end. -/
namespace Go.Proofs.YtooocakkjdhfiaaGreatDoor
set_option maxRecDepth 100000
open Go.RowKit

theorem infoStr : (Tryz.prog.info? 9).map (fun i => (i.zero, i.size, i.bytes)) = some (some (.string ByteArray.empty), 1, 16) := by kernel_rfl

/-- the value owns a row of these strings, in a block from B on -/
def Row (w : World) (B : Nat) (v : Value) (ss : List ByteArray) : Prop := w.ownsRow B 9 1 v ss.length (ss.map Value.string) ∧ ∀ s ∈ ss, s.size ≤ maxLen

theorem Row.nil (w : World) (B : Nat) : Row w B (.slice none 0 0) [] := ⟨World.ownsRow_nil w B _ 1, by simp⟩
theorem Row.made (w : World) {B : Nat} (hB : B ≤ w.heap.size) : Row (w.alloc (.cells #[] 9)) B (.slice (some ⟨w.heap.size, 0, none⟩) 0 0) [] :=
  ⟨World.ownsRow_made w #[] 0 hB (by decide) rfl, by simp⟩
theorem Row.made' {w : World} {B n : Nat} (hn : n = w.heap.size) (hB : B ≤ w.heap.size) : Row (w.alloc (.cells #[] 9)) B (.slice (some ⟨n, 0, none⟩) 0 0) [] := by subst hn; exact Row.made w hB
theorem Row.form {w : World} {B : Nat} {v : Value} {ss : List ByteArray} (h : Row w B v ss) : ∃ a cap, v = .slice a ss.length cap ∧ ss.length ≤ big ∧ ss.length ≤ cap := by
  rcases h.1.2 with ⟨rfl, h0⟩ | ⟨g, cap, cur, rfl, hb, hg, hc, hm, _⟩
  · exact ⟨none, 0, by rw [h0], by omega, by omega⟩
  · exact ⟨_, cap, rfl, Nat.le_trans hc hm, hc⟩
theorem Row.lt {w : World} {B : Nat} {v : Value} {ss : List ByteArray} (h : Row w B v ss) : ∀ k, v.ownBlock = some k → B ≤ k ∧ k < w.heap.size := h.1.lt
theorem Row.rd {w : World} {B : Nat} {v : Value} {ss : List ByteArray} (h : Row w B v ss) : D.rd (fun _ => True) w v (slOf strE ss) := by
  obtain ⟨⟨h0, h1⟩, hs⟩ := h
  rcases h1 with ⟨rfl, h2⟩ | ⟨g, cap, cur, rfl, hb, hg, hc, hm, hsz, htk⟩
  · have : ss = [] := List.length_eq_zero_iff.1 h2
    subst this
    rw [slOf, D.rd]
    exact ⟨none, 0, rfl, Nat.zero_le _, Nat.zero_le _, fun h => absurd rfl h, fun h => absurd rfl h⟩
  · refine slOf_strs (ss := ss) trivial (lt_of_heap hg) (Nat.le_trans hc hm) (fun i hi => ?_) hc
    refine ⟨?_, hs _ (List.getElem_mem hi)⟩
    rw [World.cell?, hg]
    have : (cur.toList.take (ss.length * 1))[i]? = some (Value.string ss[i]) := by rw [htk]; simp [hi]
    rw [List.getElem?_take] at this
    split at this
    · simpa using this
    · exact absurd this (by simp)
theorem Row.kept {w w' : World} {B : Nat} {v : Value} {ss : List ByteArray} {row : Option Nat} (h : Row w B v ss) (hg : w.grownBy w' row) (hne : v.ownBlock = none ∨ v.ownBlock ≠ row) : Row w' B v ss := ⟨h.1.kept hg hne, h.2⟩
theorem grown_of_below {w w' : World} (h : Below w.heap.size w w') (row : Option Nat) : w.grownBy w' row := ⟨h.os, h.tape, h.output, h.size, fun k hk _ => h.block k hk⟩
theorem Row.keep {w w' : World} {B : Nat} {v : Value} {ss : List ByteArray} (h : Row w B v ss) (hb : Below w.heap.size w w') : Row w' B v ss :=
  h.kept (grown_of_below hb none) (by cases v.ownBlock <;> simp)
theorem Row.drew {w : World} {B : Nat} {v : Value} {ss : List ByteArray} (h : Row w B v ss) : Row w.drew B v ss := h.keep (Below.refl _ _).drew
theorem Row.mono {w : World} {B B' : Nat} {v : Value} {ss : List ByteArray} (h : Row w B v ss) (hB : B' ≤ B) : Row w B' v ss := by
  refine ⟨⟨h.1.1, ?_⟩, h.2⟩
  rcases h.1.2 with h1 | ⟨g, cap, cur, h1, hb, hr⟩
  · exact .inl h1
  · exact .inr ⟨g, cap, cur, h1, Nat.le_trans hB hb, hr⟩
theorem Row.cells {w : World} {B : Nat} {v : Value} {ss : List ByteArray} (h : Row w B v ss) {g n cap : Nat} (hv : v = .slice (some ⟨g, 0, none⟩) n cap) : ∀ (j : Nat) x, ss[j]? = some x → w.cell? ⟨g, 0 + j, none⟩ = some (.string x) := by
  intro j x hj
  have := h.1.cells (g := g) (by rw [hv]; rfl) j (.string x) (by simp [hj])
  rw [Nat.zero_add]
  unfold Addr.add at this
  split at this
  · rename_i h0; subst h0; exact this
  · simpa using this

/-- a list of strings that is not nil -/
def Lst (w : World) (v : Value) (ss : List ByteArray) : Prop := ∃ b off cap, v = .slice (some ⟨b, off, none⟩) ss.length cap ∧ b < w.heap.size ∧ ss.length ≤ cap ∧ cap ≤ maxLen ∧ ∀ i (h : i < ss.length), w.cell? ⟨b, off + i, none⟩ = some (.string ss[i]) ∧ ss[i].size ≤ maxLen
theorem Lst.keep {w w' : World} {v : Value} {ss : List ByteArray} (h : Lst w v ss) (hb : Below w.heap.size w w') : Lst w' v ss := by
  obtain ⟨b, off, cap, e, h0, h1, h2, h3⟩ := h
  exact ⟨b, off, cap, e, Nat.lt_of_lt_of_le h0 hb.size, h1, h2, fun i hi => ⟨(hb.cell (p := ⟨b, off + i, none⟩) h0).trans (h3 i hi).1, (h3 i hi).2⟩⟩
theorem Lst.rd {w : World} {v : Value} {ss : List ByteArray} (h : Lst w v ss) : D.rd (fun _ => True) w v (slOf strE ss) := by
  obtain ⟨b, off, cap, rfl, h0, h1, h2, h3⟩ := h
  rw [slOf, D.rd]
  refine ⟨_, _, rfl, Nat.le_trans h1 h2, h1, fun hn => flat_ne strE_wide (by decide) (by intro e; subst e; simp at hn), fun hne => ⟨b, off, rfl, trivial, h0, (D.rds_iff _ _).2 fun i hi => ?_⟩⟩
  have hil : i < ss.length := by rw [flat_length strE_wide] at hi; omega
  obtain ⟨q0, q1⟩ := h3 i hil
  have hg := flat_get strE_wide ss i 0 hil (by decide)
  rw [Nat.mul_one, Nat.add_zero, List.getElem?_eq_getElem hi] at hg
  have : (ss.flatMap strE)[i] = .str ss[i] := by simpa [strE] using hg
  rw [this]
  exact ⟨_, q0, D.rd_str q1⟩
theorem Row.lst {w : World} {B : Nat} {v : Value} {ss : List ByteArray} (h : Row w B v ss) (hne : v ≠ .slice none 0 0) : Lst w v ss := by
  have hc := fun g n cap (hv : v = .slice (some ⟨g, 0, none⟩) n cap) => h.cells hv
  rcases h.1.2 with ⟨h0, _⟩ | ⟨g, cap, cur, rfl, hb, hg, hcc, hm, _⟩
  · exact absurd h0 hne
  · exact ⟨g, 0, cap, rfl, lt_of_heap hg, hcc, hm, fun i hi => ⟨hc g _ cap rfl i _ (List.getElem?_eq_getElem hi), h.2 _ (List.getElem_mem hi)⟩⟩
theorem Lst.made (w : World) : Lst (w.alloc (.cells #[] 9)) (.slice (some ⟨w.heap.size, 0, none⟩) 0 0) [] := ⟨_, _, _, rfl, by simp, Nat.le_refl _, by decide, fun i h => absurd h (by simp)⟩

theorem grown_refl (w : World) (row : Option Nat) : w.grownBy w row := ⟨rfl, rfl, rfl, Nat.le_refl _, fun _ _ _ => rfl⟩
theorem grown_trans {a b c : World} {row row' : Option Nat} (h : a.grownBy b row) (k : b.grownBy c row') (hr : ∀ x, row' = some x → row = some x ∨ a.heap.size ≤ x) : a.grownBy c row := by
  refine ⟨k.os.trans h.os, k.tape.trans h.tape, k.output.trans h.output, Nat.le_trans h.size k.size, fun x hx hne => ?_⟩
  rw [k.block x (Nat.lt_of_lt_of_le hx h.size) (fun e => ?_), h.block x hx hne]
  rcases hr x e.symm with q | q
  · exact hne q.symm
  · omega
/-- a value goes on as another one: in its own block, or in a new one -/
def Goes (w : World) (v v' : Value) : Prop := ∀ x, v'.ownBlock = some x → v.ownBlock = some x ∨ w.heap.size ≤ x
theorem Goes.refl (w : World) (v : Value) : Goes w v v := fun _ h => .inl h
theorem Goes.trans {w w1 : World} {v v1 v2 : Value} (h : Goes w v v1) (hz : w.heap.size ≤ w1.heap.size) (k : Goes w1 v1 v2) : Goes w v v2 := fun x hx => by
  rcases k x hx with q | q
  · exact h x q
  · exact .inr (Nat.le_trans hz q)

/-- append(list, y), y lying in a row of its own -/
theorem run_append_str {w : World} {B : Nat} {v : Value} {ss : List ByteArray} (hrow : Row w B v ss) {b : Nat} {y : ByteArray} (ty : TypeId) (hy : y.size ≤ maxLen) (hcell : w.cell? ⟨b, 0, none⟩ = some (.string y)) (hl : ss.length ≤ 4294967296) (hB : B ≤ w.heap.size) :
    ∃ g cap w', (Builtin.append_ #[54, 54] ty #[v, .slice (some ⟨b, 0, none⟩) 1 1]).run Tryz.prog w = .ok (.slice (some ⟨g, 0, none⟩) (ss.length + 1) cap) w' ∧
      Row w' B (.slice (some ⟨g, 0, none⟩) (ss.length + 1) cap) (ss ++ [y]) ∧ w.grownBy w' v.ownBlock ∧ Goes w v (.slice (some ⟨g, 0, none⟩) (ss.length + 1) cap) ∧ g < w'.heap.size := by
  obtain ⟨i0, hi, hz0, hz1, hz2⟩ := info_parts infoStr
  obtain ⟨g, cap, w', h1, h2, h3, h4, h5⟩ := run_append_lies (P := Tryz.prog) w 54 ty B 9 i0 _ 1 16 Tryz.underlying54 hi hz0 hz1 hz2 rfl (by decide) v ss.length _ hrow.1 ⟨b, 0, none⟩ 1 1 [.string y] rfl
    (fun j u hj => by
      cases j with
      | zero => simp at hj; subst hj; exact hcell
      | succ j => simp at hj) (by simp [Value.oneCell']) (by decide) (by unfold maxLen; omega) (by omega) hB _ rfl
  refine ⟨g, cap, w', h1, ⟨by simpa using h2, fun s hs => ?_⟩, h3, fun x hx => ?_, h5⟩
  · rcases List.mem_append.1 hs with q | q
    · exact hrow.2 s q
    · simp at q; subst q; exact hy
  · simp [Value.ownBlock] at hx
    subst hx
    rcases h4 with q | q
    · exact .inl q
    · exact .inr (by omega)

/-- append(list, ys...), ys lying in a row -/
theorem run_append_strs {w : World} {B : Nat} {v : Value} {ss ys : List ByteArray} (hrow : Row w B v ss) {b off m c : Nat} (ty : TypeId) (hm : m = ys.length) (hcell : ∀ j (hj : j < ys.length), w.cell? ⟨b, off + j, none⟩ = some (.string ys[j])) (hy : ∀ y ∈ ys, y.size ≤ maxLen) (hl : ss.length + ys.length ≤ 4294967296) (hB : B ≤ w.heap.size) :
    ∃ v' w', (Builtin.append_ #[54, 54] ty #[v, .slice (some ⟨b, off, none⟩) m c]).run Tryz.prog w = .ok v' w' ∧ Row w' B v' (ss ++ ys) ∧ w.grownBy w' v.ownBlock ∧ Goes w v v' ∧ (v ≠ .slice none 0 0 → v' ≠ .slice none 0 0) := by
  obtain ⟨i0, hi, hz0, hz1, hz2⟩ := info_parts infoStr
  subst hm
  obtain ⟨v', w', h1, h2, h3, h4, h5⟩ := run_append_own_at (P := Tryz.prog) w B 54 ty 9 i0 _ 1 16 Tryz.underlying54 hi hz0 hz1 hz2 rfl (by decide) v ss.length _ hrow.1 ⟨b, off, none⟩ ys.length c (ys.map Value.string) (by simp)
    (fun j u hj => by
      rw [List.getElem?_map] at hj
      cases hyj : ys[j]? with
      | none => rw [hyj] at hj; cases hj
      | some y =>
        rw [hyj] at hj
        obtain ⟨hjl, e⟩ := List.getElem?_eq_some_iff.1 hyj
        have := hcell j hjl
        rw [e] at this
        have hu : u = .string y := by simpa using hj.symm
        rw [hu, ← this]
        unfold Addr.add
        split
        · rename_i h0; subst h0; rfl
        · rfl) (fun u hu => by
      obtain ⟨y, _, rfl⟩ := List.mem_map.1 hu
      simp [Value.oneCell']) (by unfold maxLen; omega) (by omega) hB
  refine ⟨v', w', h1, ⟨by simpa using h2, fun s hs => ?_⟩, h3, fun x hx => ?_, fun hne hn => hne (h4.1 hn).1⟩
  · rcases List.mem_append.1 hs with q | q
    · exact hrow.2 s q
    · exact hy s q
  · rcases h5 with q | q
    · exact .inl (by rw [← q]; exact hx)
    · rw [q] at hx; injection hx with hx; exact .inr (by omega)
/-- .. at a step of a region that draws its order -/
theorem step_append_strs {ops : Array Oper} {o : Oper} {a : Act} {w : World} {K : Act → World → Prop} {Q : Exit → Act → World → Prop} {E : Prop} (hgd : o.guard = none) (s x : Operand)
    (ho : o.op = .call { callee := .builtin .append, args := #[s, x], argTypes := #[54, 54] }) {B : Nat} {v : Value} {ss ys : List ByteArray} {b off m c : Nat}
    (hs : a.eval s = v) (hx : a.eval x = .slice (some ⟨b, off, none⟩) m c) (hrow : Row w B v ss) (hm : m = ys.length) (hcell : ∀ j (hj : j < ys.length), w.cell? ⟨b, off + j, none⟩ = some (.string ys[j])) (hy : ∀ y ∈ ys, y.size ≤ maxLen) (hl : ss.length + ys.length ≤ 4294967296) (hB : B ≤ w.heap.size)
    (h : ∀ v' w', Row w' B v' (ss ++ ys) → w.grownBy w' v.ownBlock → Goes w v v' → (v ≠ .slice none 0 0 → v' ≠ .slice none 0 0) → K (a.put o.dst v') w') :
    if Region.wanted o (yielded ops a.tmps) = true then Oper.wp Tryz.prog o a w K Q else E := by
  have hw : Region.wanted o (yielded ops a.tmps) = true := by simp [Region.wanted, hgd]
  rw [if_pos hw]
  obtain ⟨v', w', hr, h2, h3, h4, h5⟩ := run_append_strs (c := c) hrow o.type hm hcell hy hl hB
  unfold Oper.wp execOp
  simp only [ho, resolve, invoke, builtin, Sem.run_bind, Sem.run_pure, Result.andThen_ok, List.map_toArray, List.map_cons, List.map_nil, hs, hx, hr]
  exact h v' w' h2 h3 h4 h5
/-- .. at the list of a plain region's operations -/
theorem wpList_append_str {ops : Array Oper} {rest : List Oper} {o : Oper} {a : Act} {w : World} {Q : Exit → Act → World → Prop} (hgd : o.guard = none) (s x : Operand)
    (ho : o.op = .call { callee := .builtin .append, args := #[s, x], argTypes := #[54, 54] }) {B : Nat} {v : Value} {ss : List ByteArray} {b : Nat} {y : ByteArray}
    (hs : a.eval s = v) (hx : a.eval x = .slice (some ⟨b, 0, none⟩) 1 1) (hrow : Row w B v ss) (hy : y.size ≤ maxLen) (hcell : w.cell? ⟨b, 0, none⟩ = some (.string y)) (hl : ss.length ≤ 4294967296) (hB : B ≤ w.heap.size)
    (h : ∀ g cap w', Row w' B (.slice (some ⟨g, 0, none⟩) (ss.length + 1) cap) (ss ++ [y]) → w.grownBy w' v.ownBlock → Goes w v (.slice (some ⟨g, 0, none⟩) (ss.length + 1) cap) → g < w'.heap.size → wpList Tryz.prog ops Q rest (a.put o.dst (.slice (some ⟨g, 0, none⟩) (ss.length + 1) cap)) w') : wpList Tryz.prog ops Q (o :: rest) a w := by
  obtain ⟨g, cap, w', hr, h2, h3, h4, h5⟩ := run_append_str hrow o.type hy hcell hl hB
  refine wpList_plain hgd fun _ hK => ?_
  unfold Oper.wp execOp
  simp only [ho, resolve, invoke, builtin, Sem.run_bind, Sem.run_pure, Result.andThen_ok, List.map_toArray, List.map_cons, List.map_nil, hs, hx, hr]
  exact hK _ _ (h g cap w' h2 h3 h4 h5)
/-- .. at a step of a region that draws its order -/
theorem step_append_str {ops : Array Oper} {o : Oper} {a : Act} {w : World} {K : Act → World → Prop} {Q : Exit → Act → World → Prop} {E : Prop} (hgd : o.guard = none) (s x : Operand)
    (ho : o.op = .call { callee := .builtin .append, args := #[s, x], argTypes := #[54, 54] }) {B : Nat} {v : Value} {ss : List ByteArray} {b : Nat} {y : ByteArray}
    (hs : a.eval s = v) (hx : a.eval x = .slice (some ⟨b, 0, none⟩) 1 1) (hrow : Row w B v ss) (hy : y.size ≤ maxLen) (hcell : w.cell? ⟨b, 0, none⟩ = some (.string y)) (hl : ss.length ≤ 4294967296) (hB : B ≤ w.heap.size)
    (h : ∀ g cap w', Row w' B (.slice (some ⟨g, 0, none⟩) (ss.length + 1) cap) (ss ++ [y]) → w.grownBy w' v.ownBlock → Goes w v (.slice (some ⟨g, 0, none⟩) (ss.length + 1) cap) → g < w'.heap.size → K (a.put o.dst (.slice (some ⟨g, 0, none⟩) (ss.length + 1) cap)) w') :
    if Region.wanted o (yielded ops a.tmps) = true then Oper.wp Tryz.prog o a w K Q else E := by
  have hw : Region.wanted o (yielded ops a.tmps) = true := by simp [Region.wanted, hgd]
  rw [if_pos hw]
  obtain ⟨g, cap, w', hr, h2, h3, h4, h5⟩ := run_append_str hrow o.type hy hcell hl hB
  unfold Oper.wp execOp
  simp only [ho, resolve, invoke, builtin, Sem.run_bind, Sem.run_pure, Result.andThen_ok, List.map_toArray, List.map_cons, List.map_nil, hs, hx, hr]
  exact h g cap w' h2 h3 h4 h5
/-- .. told from a world that the region began in -/
theorem step_apps {ops : Array Oper} {o : Oper} {a : Act} {w W : World} {K : Act → World → Prop} {Q : Exit → Act → World → Prop} {E : Prop} (hgd : o.guard = none) (s x : Operand)
    (ho : o.op = .call { callee := .builtin .append, args := #[s, x], argTypes := #[54, 54] }) {B : Nat} (hBW : Below B W w) (hB : B ≤ w.heap.size) {v : Value} {ss ys : List ByteArray} {b off m c : Nat}
    (hs : a.eval s = v) (hx : a.eval x = .slice (some ⟨b, off, none⟩) m c) (hrow : Row w B v ss) (hm : m = ys.length) (hb : ys.length ≠ 0 → b < B) (hcell : ∀ j (hj : j < ys.length), W.cell? ⟨b, off + j, none⟩ = some (.string ys[j])) (hy : ∀ y ∈ ys, y.size ≤ maxLen) (hl : ss.length + ys.length ≤ 4294967296)
    (h : ∀ v' w', Row w' B v' (ss ++ ys) → Below B W w' → B ≤ w'.heap.size → (v ≠ .slice none 0 0 → v' ≠ .slice none 0 0) → w.grownBy w' v.ownBlock → K (a.put o.dst v') w') :
    if Region.wanted o (yielded ops a.tmps) = true then Oper.wp Tryz.prog o a w K Q else E := by
  refine step_append_strs hgd s x ho hs hx hrow hm (fun j hj => (hBW.cell (p := ⟨b, off + j, none⟩) (hb (by omega))).trans (hcell j hj)) hy hl hB fun v' w' h1 h2 h3 h4 => ?_
  have q := Below.grown hBW h2 hB (fun k hk => (hrow.lt k hk).1)
  exact h v' w' h1 q (Nat.le_trans hB h2.size) h4 h2
theorem step_app {ops : Array Oper} {o : Oper} {a : Act} {w W : World} {K : Act → World → Prop} {Q : Exit → Act → World → Prop} {E : Prop} (hgd : o.guard = none) (s x : Operand)
    (ho : o.op = .call { callee := .builtin .append, args := #[s, x], argTypes := #[54, 54] }) {B : Nat} (hBW : Below B W w) (hB : B ≤ w.heap.size) {v : Value} {ss : List ByteArray} {b : Nat} {y : ByteArray}
    (hs : a.eval s = v) (hx : a.eval x = .slice (some ⟨b, 0, none⟩) 1 1) (hrow : Row w B v ss) (hy : y.size ≤ maxLen) (hcell : w.cell? ⟨b, 0, none⟩ = some (.string y)) (hl : ss.length ≤ 4294967296)
    (h : ∀ g cap w', Row w' B (.slice (some ⟨g, 0, none⟩) (ss.length + 1) cap) (ss ++ [y]) → Below B W w' → B ≤ w'.heap.size → g < w'.heap.size → w.grownBy w' v.ownBlock → K (a.put o.dst (.slice (some ⟨g, 0, none⟩) (ss.length + 1) cap)) w') :
    if Region.wanted o (yielded ops a.tmps) = true then Oper.wp Tryz.prog o a w K Q else E := by
  refine step_append_str hgd s x ho hs hx hrow hy hcell hl hB fun g cap w' h1 h2 h3 h4 => ?_
  have q := Below.grown hBW h2 hB (fun k hk => (hrow.lt k hk).1)
  exact h g cap w' h1 q (Nat.le_trans hB h2.size) h4 h2
end Go.Proofs.YtooocakkjdhfiaaGreatDoor
/- Lists of strings that grow and that the call owns. -/
namespace Go.Proofs.YtooocakkjdhfiaaGreatDoor
set_option maxRecDepth 100000
open Go.RowKit

/-- a list of strings that grows and that the call owns -/
def GS (w : World) (B : Nat) (v : Value) (ss : List ByteArray) : Prop := Gr w B 9 1 v ss.length (ss.flatMap strE) []
theorem strE_flat (ss : List ByteArray) : ss.flatMap strE = ss.map D.str := by
  induction ss with
  | nil => rfl
  | cons z ss ih => rw [List.flatMap_cons, ih]; rfl
theorem ownsL_strs {w : World} : ∀ (ss : List ByteArray), (∀ s ∈ ss, s.size ≤ maxLen) → OwnsL w (ss.map Value.string) (ss.flatMap strE) []
  | [], _ => OwnsL.nil w
  | s :: ss, h => by
    have := OwnsL.cons (F := []) (D.own_str (w := w) (h s (by simp))) (ownsL_strs ss fun y hy => h y (by simp [hy])) (by simp)
    simpa [List.flatMap_cons, strE] using this
theorem GS.nil (w : World) (B : Nat) : GS w B (.slice none 0 0) [] := Gr.nil w B _ _
theorem GS.made {w : World} {B n : Nat} (hn : n = w.heap.size) (hB : B ≤ w.heap.size) : GS (w.alloc (.cells #[] 9)) B (.slice (some ⟨n, 0, none⟩) 0 0) [] := Gr.made _ _ hn hB
theorem GS.keep {w w' : World} {B : Nat} {v : Value} {ss : List ByteArray} (h : GS w B v ss) (hb : Below w.heap.size w w') : GS w' B v ss := Gr.keep h hb
theorem GS.own {w : World} {B : Nat} {v : Value} {ss : List ByteArray} (h : GS w B v ss) : ∃ G, D.own w v (slOf strE ss) G ∧ ∀ x ∈ G, B ≤ x := Gr.own h (by decide)
theorem GS.rd {w : World} {B : Nat} {v : Value} {ss : List ByteArray} (h : GS w B v ss) : D.rd (fun _ => True) w v (slOf strE ss) := by
  obtain ⟨G, h, _⟩ := h.own
  exact D.rd_mono (fun _ _ => trivial) _ _ (D.own_rd _ _ _ h)
theorem GS.form {w : World} {B : Nat} {v : Value} {ss : List ByteArray} (h : GS w B v ss) : ∃ a cap, v = .slice a ss.length cap ∧ ss.length ≤ big ∧ ss.length ≤ cap := Gr.form h
theorem GS.lt {w : World} {B : Nat} {v : Value} {ss : List ByteArray} (h : GS w B v ss) : ∀ k, v.ownBlock = some k → B ≤ k ∧ k < w.heap.size := Gr.lt h
theorem GS.strs {w : World} {B : Nat} {v : Value} {ss : List ByteArray} (h : GS w B v ss) : ∀ s ∈ ss, s.size ≤ maxLen := by
  intro s hs
  obtain ⟨a, cap, rfl, _, _⟩ := h.form
  have hne : ss ≠ [] := by intro e; subst e; cases hs
  obtain ⟨b, off, rfl, _, _, hrr⟩ := strs_get h.rd hne
  obtain ⟨i, hi, rfl⟩ := List.mem_iff_getElem.1 hs
  exact (hrr i hi).2
theorem GS.mono {w : World} {B B' : Nat} {v : Value} {ss : List ByteArray} (h : GS w B v ss) (hB : B' ≤ B) : GS w B' v ss := by
  obtain ⟨vs, h0, h1, h2, h3⟩ := h
  refine ⟨vs, ⟨h0.1, ?_⟩, h1, by simp, h3⟩
  rcases h0.2 with h4 | ⟨g, cap, cur, q0, q1, q⟩
  · exact .inl h4
  · exact .inr ⟨g, cap, cur, q0, Nat.le_trans hB q1, q⟩
theorem OwnsL.vals {w : World} : ∀ {vs : List Value} {ss : List ByteArray} {F : List Nat}, OwnsL w vs (ss.flatMap strE) F → vs = ss.map Value.string
  | vs, [], F, h => by
    have := h.length
    simp at this
    simpa using this
  | vs, s :: ss, F, h => by
    rw [List.flatMap_cons] at h
    cases vs with
    | nil => have := h.length; simp [strE] at this
    | cons v vs =>
      rw [show strE s ++ ss.flatMap strE = .str s :: ss.flatMap strE from rfl, OwnsL] at h
      obtain ⟨F1, F2, _, _, h1, h2⟩ := h
      rw [D.own] at h1
      rw [h2.vals, h1.1]
      rfl
/-- the same row in the kit's words -/
theorem GS.row {w : World} {B : Nat} {v : Value} {ss : List ByteArray} (h : GS w B v ss) : Row w B v ss := by
  have hs := h.strs
  obtain ⟨vs, h0, h1, _⟩ := h
  rw [h1.vals] at h0
  exact ⟨h0, hs⟩
theorem GS.of_row {w : World} {B : Nat} {v : Value} {ss : List ByteArray} (h : Row w B v ss) : GS w B v ss :=
  ⟨_, h.1, ownsL_strs ss h.2, by simp, by simp⟩
theorem GS.addr {w : World} {B : Nat} {v : Value} {zs : List ByteArray} (h : GS w B v zs) (hne : v ≠ .slice none 0 0) : ∃ b c, v = .slice (some ⟨b, 0, none⟩) zs.length c := by
  obtain ⟨vs, h0, _⟩ := h
  rcases h0.2 with ⟨h1, _⟩ | ⟨g, cap, cur, h1, _⟩
  · exact absurd h1 hne
  · exact ⟨g, cap, h1⟩
end Go.Proofs.YtooocakkjdhfiaaGreatDoor
/- The program and the reference measure terms: nodes and depth. -/
namespace Go.Proofs.YtooocakkjdhfiaaGreatDoor
set_option maxRecDepth 100000
open Go.RowKit

/-- the call returns a number that stands for the size of t, up to m -/
def SizeRet (m : Nat) (t : Tm) (w : World) (e : Ending) (w' : World) : Prop := ∃ r : Nat, e = .returned (.int .i64 r) ∧ Upto m t.size r ∧ Below w.heap.size w w'
def ImplSize (t : Tm) : Prop := ∀ (S : Nat → Prop) (c0 c1 : Value) (w : World), Tm.at S w c0 c1 t → t.bulk ≤ 1048576 → Calls Tryz.prog 100 #[.agg #[c0, c1]] w (SizeRet 30 t w)

set_option maxHeartbeats 400000 in
theorem implSize_of (n : ByteArray) (ts : List Tm) (h : ∀ t ∈ ts, ImplSize t) : ImplSize (.node n ts) := by
  intro S c0 c1 w hr hbk
  obtain ⟨rfl, hn, a, cap, rfl⟩ := Tm.at_form hr
  have hs := hr.2
  simp only [Tm.name, Tm.args] at hs hn ⊢
  clear hr
  obtain ⟨a', cap', he, hlen, hcap⟩ := Tm.sd_form hs
  injection he with e0 e1 e2
  subst e0 e2
  clear e1
  unfold big at hlen
  have hbs := Tm.size_bulk (.node n ts)
  have hsd : Hid ((Tm.node n ts).size = 1 + Tm.sizes ts) := by rw [Hid, Tm.size]
  go_enter Tryz.func100, Tryz.ntmps100
  go_wp2_with fail
  go_loopw [3, 9] (fun x i wr => ∃ (k r : Nat), k ≤ ts.length ∧ i = .int .i64 k ∧ x = .int .i64 r ∧ r ≤ 1048577 ∧ Hid (Upto 30 (1 + Tm.sizes (ts.take k)) r) ∧ Below (w.heap.size + 1) (w.alloc (.cells #[.string n, .slice a ts.length cap] 50)) wr) (fun _ i _ => ts.length - (intOf i).toNat)
  case atStart => exact ⟨0, 1, Nat.zero_le _, rfl, rfl, by omega, by simp [Hid, Upto, Tm.sizes], Below.refl _ _⟩
  case round =>
    obtain ⟨k, r, hk, rfl, rfl, hr1, HX, hb⟩ := hrel
    have hbw : Below w.heap.size w wr := ((Below.refl _ _).alloc (Nat.le_refl _) _).trans (hb.mono (by omega))
    have hz := hb.size
    simp only [World.size_alloc] at hz
    have hz0 : w.heap.size < wr.heap.size := by omega
    have e10 : wr.cell? ⟨w.heap.size, 0, none⟩ = some (.string n) := (hb.cell (by simp)).trans (box1 _ _ _ _)
    have e11 : wr.cell? ⟨w.heap.size, 1, none⟩ = some (.slice a ts.length cap) := (hb.cell (by simp)).trans (box1 _ _ _ _)
    by_cases hlt : k < ts.length
    · have hne : ts ≠ [] := by intro e; subst e; simp at hlt
      obtain ⟨b, off, rfl, hS, hbl, hrr⟩ := Tm.sd_get hs hne
      obtain ⟨c0, c1, q0, q1, q2⟩ := hrr k hlt
      obtain ⟨rfl, -, x, xc, rfl⟩ := Tm.at_form q2
      replace q0 := (hbw.cell (p := ⟨b, off + k * 2, none⟩) hbl).trans q0
      replace q1 := (hbw.cell (p := ⟨b, off + k * 2 + 1, none⟩) hbl).trans q1
      replace q2 := Tm.at_keep (Keeps.all hbw) q2
      have hmem := h ts[k] (List.getElem_mem hlt)
      clear hs hrr
      have hst := hid (Tm.sizes_take ts k hlt)
      have hsl := hid (Tm.sizes_le ts (k + 1))
      have hbm : ts[k].bulk ≤ 1048576 := by have := Tm.bulk_mem (List.getElem_mem hlt); rw [Tm.bulk] at hbk; omega
      by_cases h30 : 30 < r
      · have HS : Hid (Upto 30 (Tm.node n ts).size r) := by
          have := HX.out; have := hst.out; have := hsl.out; have := hsd.out
          unfold Hid Upto at *; omega
        have h30' : (30 : Int) < (r : Int) := by omega
        go_wp2_with fail
        go_ret
        exact ⟨r, rfl, HS.out, hbw.trans ((Below.refl _ _).alloc hbw.size _)⟩
      · have h30' : ¬ (30 : Int) < (r : Int) := by omega
        have hq0 := cell_alloc q0
        go_wp2_with fail
        have hbx : Below wr.heap.size wr (wr.alloc (.cells #[.string ts[k].name, .slice x ts[k].args.length xc] 50)) := (Below.refl _ _).alloc (Nat.le_refl _) _
        refine (hmem _ _ _ _ (Tm.at_keep (Keeps.all hbx) q2) hbm).mono ?_
        rintro e w2 ⟨r2, rfl, hu, hb2⟩
        have hb3 := hbx.trans (hb2.mono hbx.size)
        clear hbx hb2
        have HS : Hid (Upto 30 (1 + Tm.sizes (ts.take (k + 1))) (r + r2)) := by
          have := HX.out.add hu; have := hst.out; rw [Hid, this, ← Nat.add_assoc]; assumption
        have hr2 : r2 ≤ 1048577 := by have := hu.2.2; have := Tm.size_bulk ts[k]; omega
        have hr3 : r + r2 ≤ 1048577 := by have := HS.out.2.2; have := hsl.out; have := hsd.out; omega
        clear hu
        go_wp2_with fail
        go_roundw
        case rel => exact ⟨k + 1, r + r2, by omega, by go_num, by go_num, hr3, HS, hb.trans (hb3.mono hz)⟩
        case measure => simp [intOf]; omega
    · obtain rfl : k = ts.length := by omega
      have HS : Hid (Upto 30 (Tm.node n ts).size r) := by rw [Hid, hsd.out]; have := HX.out; rwa [List.take_length] at this
      go_wp2_with fail
      go_ret
      exact ⟨r, rfl, HS.out, hbw⟩
theorem implSize_any (t : Tm) : ImplSize t := Tm.ind (fun n ts h => implSize_of n ts h) t

def DepthIs (f : FuncId) (t : Tm) : Prop := ∀ (S : Nat → Prop) (c0 c1 : Value) (w : World), Tm.at S w c0 c1 t → t.bulk ≤ 1048576 → Calls Tryz.prog f #[.agg #[c0, c1]] w (Gives w (.int .i64 t.depth))

set_option maxHeartbeats 400000 in
theorem implDepth_of (n : ByteArray) (ts : List Tm) (h : ∀ t ∈ ts, DepthIs 101 t) : DepthIs 101 (.node n ts) := by
  intro S c0 c1 w hr hbk
  obtain ⟨rfl, hn, a, cap, rfl⟩ := Tm.at_form hr
  have hs := hr.2
  simp only [Tm.name, Tm.args] at hs hn ⊢
  clear hr
  obtain ⟨a', cap', he, hlen, hcap⟩ := Tm.sd_form hs
  injection he with e0 e1 e2
  subst e0 e2
  clear e1
  unfold big at hlen
  have hsd : Hid ((Tm.node n ts).depth = Tm.depths ts + 1) := by rw [Hid, Tm.depth]
  go_enter Tryz.func101, Tryz.ntmps101
  go_wp2_with fail
  go_loopw [3, 9] (fun x i wr => ∃ (k r : Nat), k ≤ ts.length ∧ i = .int .i64 k ∧ x = .int .i64 r ∧ r ≤ 1048577 ∧ Hid (r = Tm.depths (ts.take k)) ∧ Below (w.heap.size + 1) (w.alloc (.cells #[.string n, .slice a ts.length cap] 50)) wr) (fun _ i _ => ts.length - (intOf i).toNat)
  case atStart => exact ⟨0, 0, Nat.zero_le _, rfl, rfl, by omega, by simp [Hid, Tm.depths], Below.refl _ _⟩
  case round =>
    obtain ⟨k, r, hk, rfl, rfl, hr1, HX, hb⟩ := hrel
    have hbw : Below w.heap.size w wr := ((Below.refl _ _).alloc (Nat.le_refl _) _).trans (hb.mono (by omega))
    have hz := hb.size
    simp only [World.size_alloc] at hz
    have hz0 : w.heap.size < wr.heap.size := by omega
    have e10 : wr.cell? ⟨w.heap.size, 0, none⟩ = some (.string n) := (hb.cell (by simp)).trans (box1 _ _ _ _)
    have e11 : wr.cell? ⟨w.heap.size, 1, none⟩ = some (.slice a ts.length cap) := (hb.cell (by simp)).trans (box1 _ _ _ _)
    by_cases hlt : k < ts.length
    · have hne : ts ≠ [] := by intro e; subst e; simp at hlt
      obtain ⟨b, off, rfl, hS, hbl, hrr⟩ := Tm.sd_get hs hne
      obtain ⟨c0, c1, q0, q1, q2⟩ := hrr k hlt
      obtain ⟨rfl, -, x, xc, rfl⟩ := Tm.at_form q2
      replace q0 := (hbw.cell (p := ⟨b, off + k * 2, none⟩) hbl).trans q0
      replace q1 := (hbw.cell (p := ⟨b, off + k * 2 + 1, none⟩) hbl).trans q1
      replace q2 := Tm.at_keep (Keeps.all hbw) q2
      have hmem := h ts[k] (List.getElem_mem hlt)
      clear hs hrr
      have hst := hid (Tm.depths_take ts k hlt)
      have hbm : ts[k].bulk ≤ 1048576 := by have := Tm.bulk_mem (List.getElem_mem hlt); rw [Tm.bulk] at hbk; omega
      have hdm : ts[k].depth ≤ 1048577 := by have := Tm.size_bulk ts[k]; have := Tm.depth_size ts[k]; omega
      have hq0 := cell_alloc q0
      go_wp2_with fail
      have hbx : Below wr.heap.size wr (wr.alloc (.cells #[.string ts[k].name, .slice x ts[k].args.length xc] 50)) := (Below.refl _ _).alloc (Nat.le_refl _) _
      refine (hmem _ _ _ _ (Tm.at_keep (Keeps.all hbx) q2) hbm).mono ?_
      rintro e w2 ⟨_, rfl, hb2, rfl⟩
      have hb3 := hbx.trans (hb2.mono hbx.size)
      clear hbx hb2
      obtain ⟨r2, HR⟩ : ∃ r2, Hid (ts[k].depth = r2) := ⟨_, hid rfl⟩
      rw [HR.out] at hdm ⊢
      have HS : Hid (max r r2 = Tm.depths (ts.take (k + 1))) := by rw [Hid, hst.out, HR.out, HX.out]
      go_wp2_with fail
      go_roundw
      case rel => exact ⟨k + 1, max r r2, by omega, by go_num, by congr 1; split <;> omega, by omega, HS, hb.trans (hb3.mono hz)⟩
      case measure => simp [intOf]; omega
    · obtain rfl : k = ts.length := by omega
      have HS : Hid (r + 1 = (Tm.node n ts).depth) := by rw [Hid, hsd.out]; have := HX.out; rw [List.take_length] at this; omega
      go_wp2_with fail
      go_ret
      exact Gives.mk (ret_i64 (by rw [← HS.out]; rfl)) hbw
theorem implDepth_any (t : Tm) : DepthIs 101 t := Tm.ind (fun n ts h => implDepth_of n ts h) t

theorem l1Most_any (a b : Nat) (w : World) : Calls Tryz.prog 93 #[.int .i64 a, .int .i64 b] w fun e w' => e = .returned (.int .i64 (max a b : Nat)) ∧ w = w' := by
  by_cases h : (b : Int) < a
  · have H : Hid ((a : Int) = (max a b : Nat)) := by show (_ : Int) = _; omega
    go_enter Tryz.func93, Tryz.ntmps93
    go_wp2
    go_ret
    exact ⟨ret_i64 H.out, rfl⟩
  · have H : Hid ((b : Int) = (max a b : Nat)) := by show (_ : Int) = _; omega
    go_enter Tryz.func93, Tryz.ntmps93
    go_wp2
    go_ret
    exact ⟨ret_i64 H.out, rfl⟩

set_option maxHeartbeats 400000 in
theorem l2Depth_of (n : ByteArray) (ts : List Tm) (h : ∀ t ∈ ts, DepthIs 70 t) : DepthIs 70 (.node n ts) := by
  intro S c0 c1 w hr hbk
  obtain ⟨rfl, hn, a, cap, rfl⟩ := Tm.at_form hr
  have hs := hr.2
  simp only [Tm.name, Tm.args] at hs hn ⊢
  clear hr
  obtain ⟨a', cap', he, hlen, hcap⟩ := Tm.sd_form hs
  injection he with e0 e1 e2
  subst e0 e2
  clear e1
  unfold big at hlen
  have hsd : Hid ((Tm.node n ts).depth = Tm.depths ts + 1) := by rw [Hid, Tm.depth]
  go_enter Tryz.func70, Tryz.ntmps70
  go_wp2_with fail
  go_loopw [3, 4] (fun x i wr => ∃ (k r : Nat), k ≤ ts.length ∧ i = .int .i64 k ∧ x = .int .i64 r ∧ r ≤ 1048577 ∧ Hid (r = Tm.depths (ts.take k)) ∧ Below (w.heap.size + 1) (w.alloc (.cells #[.string n, .slice a ts.length cap] 50)) wr) (fun _ i _ => ts.length - (intOf i).toNat)
  case atStart => exact ⟨0, 0, Nat.zero_le _, rfl, rfl, by omega, by simp [Hid, Tm.depths], Below.refl _ _⟩
  case round =>
    obtain ⟨k, r, hk, rfl, rfl, hr1, HX, hb⟩ := hrel
    have hbw : Below w.heap.size w wr := ((Below.refl _ _).alloc (Nat.le_refl _) _).trans (hb.mono (by omega))
    have hz := hb.size
    simp only [World.size_alloc] at hz
    have hz0 : w.heap.size < wr.heap.size := by omega
    have e10 : wr.cell? ⟨w.heap.size, 0, none⟩ = some (.string n) := (hb.cell (by simp)).trans (box1 _ _ _ _)
    have e11 : wr.cell? ⟨w.heap.size, 1, none⟩ = some (.slice a ts.length cap) := (hb.cell (by simp)).trans (box1 _ _ _ _)
    by_cases hlt : k < ts.length
    · have hne : ts ≠ [] := by intro e; subst e; simp at hlt
      obtain ⟨b, off, rfl, hS, hbl, hrr⟩ := Tm.sd_get hs hne
      obtain ⟨c0, c1, q0, q1, q2⟩ := hrr k hlt
      obtain ⟨rfl, -, x, xc, rfl⟩ := Tm.at_form q2
      replace q0 := (hbw.cell (p := ⟨b, off + k * 2, none⟩) hbl).trans q0
      replace q1 := (hbw.cell (p := ⟨b, off + k * 2 + 1, none⟩) hbl).trans q1
      replace q2 := Tm.at_keep (Keeps.all hbw) q2
      have hmem := h ts[k] (List.getElem_mem hlt)
      clear hs hrr
      have hst := hid (Tm.depths_take ts k hlt)
      have hbm : ts[k].bulk ≤ 1048576 := by have := Tm.bulk_mem (List.getElem_mem hlt); rw [Tm.bulk] at hbk; omega
      have hdm : ts[k].depth ≤ 1048577 := by have := Tm.size_bulk ts[k]; have := Tm.depth_size ts[k]; omega
      go_wp2_with fail
      refine (hmem _ _ _ _ q2 hbm).mono ?_
      rintro e w2 ⟨_, rfl, hb3, rfl⟩
      obtain ⟨r2, HR⟩ : ∃ r2, Hid (ts[k].depth = r2) := ⟨_, hid rfl⟩
      rw [HR.out] at hdm ⊢
      have HS : Hid (max r r2 = Tm.depths (ts.take (k + 1))) := by rw [Hid, hst.out, HR.out, HX.out]
      go_wp2_with fail
      refine (l1Most_any r r2 _).mono ?_
      rintro e w' ⟨rfl, rfl⟩
      obtain ⟨r3, HM⟩ : ∃ r3, Hid (max r r2 = r3) := ⟨_, hid rfl⟩
      have hr3 : r3 ≤ 1048577 := by have := HM.out; omega
      rw [HM.out]
      go_wp2_with fail
      go_roundw
      case rel => exact ⟨k + 1, r3, by omega, by go_num, rfl, hr3, by rw [Hid, ← HM.out]; exact HS.out, hb.trans (hb3.mono hz)⟩
      case measure => simp [intOf]; omega
    · obtain rfl : k = ts.length := by omega
      have HS : Hid (r + 1 = (Tm.node n ts).depth) := by rw [Hid, hsd.out]; have := HX.out; rw [List.take_length] at this; omega
      go_wp2_with fail
      go_ret
      exact Gives.mk (ret_i64 (by rw [← HS.out]; rfl)) hbw
theorem l2Depth_any (t : Tm) : DepthIs 70 t := Tm.ind (fun n ts h => l2Depth_of n ts h) t

def Many (t : Tm) : Prop := ∀ (m : Nat) (S : Nat → Prop) (c0 c1 : Value) (w : World), m ≤ 1048576 → Tm.at S w c0 c1 t → t.bulk ≤ 1048576 → Calls Tryz.prog 69 #[.agg #[c0, c1], .int .i64 m] w (SizeRet m t w)
set_option maxHeartbeats 1000000 in
theorem l2Many_of (n : ByteArray) (ts : List Tm) (h : ∀ t ∈ ts, Many t) : Many (.node n ts) := by
  intro m S c0 c1 w hm hr hbk
  obtain ⟨rfl, hn, a, cap, rfl⟩ := Tm.at_form hr
  have hs := hr.2
  simp only [Tm.name, Tm.args] at hs hn ⊢
  clear hr
  obtain ⟨a', cap', he, hlen, hcap⟩ := Tm.sd_form hs
  injection he with e0 e1 e2
  subst e0 e2
  clear e1
  unfold big at hlen
  have hbs := Tm.size_bulk (.node n ts)
  have hsd : Hid ((Tm.node n ts).size = 1 + Tm.sizes ts) := by rw [Hid, Tm.size]
  go_enter Tryz.func69, Tryz.ntmps69
  go_wp2_with fail
  go_loopw [5, 6] (fun x i wr => ∃ (k r : Nat), k ≤ ts.length ∧ i = .int .i64 k ∧ x = .int .i64 r ∧ r ≤ 1048577 ∧ Hid (Upto m (1 + Tm.sizes (ts.take k)) r) ∧ Below (w.heap.size + 1) (w.alloc (.cells #[.string n, .slice a ts.length cap] 50)) wr) (fun _ i _ => ts.length - (intOf i).toNat)
  case atStart => exact ⟨0, 1, Nat.zero_le _, rfl, rfl, by omega, by simp [Hid, Upto, Tm.sizes], Below.refl _ _⟩
  case round =>
    obtain ⟨k, r, hk, rfl, rfl, hr1, HX, hb⟩ := hrel
    have hbw : Below w.heap.size w wr := ((Below.refl _ _).alloc (Nat.le_refl _) _).trans (hb.mono (by omega))
    have hz := hb.size
    simp only [World.size_alloc] at hz
    have hz0 : w.heap.size < wr.heap.size := by omega
    have e10 : wr.cell? ⟨w.heap.size, 0, none⟩ = some (.string n) := (hb.cell (by simp)).trans (box1 _ _ _ _)
    have e11 : wr.cell? ⟨w.heap.size, 1, none⟩ = some (.slice a ts.length cap) := (hb.cell (by simp)).trans (box1 _ _ _ _)
    by_cases hlt : k < ts.length
    · by_cases hrm : r ≤ m
      · have hne : ts ≠ [] := by intro e; subst e; simp at hlt
        obtain ⟨b, off, rfl, hS, hbl, hrr⟩ := Tm.sd_get hs hne
        obtain ⟨c0, c1, q0, q1, q2⟩ := hrr k hlt
        obtain ⟨rfl, -, x, xc, rfl⟩ := Tm.at_form q2
        replace q0 := (hbw.cell (p := ⟨b, off + k * 2, none⟩) hbl).trans q0
        replace q1 := (hbw.cell (p := ⟨b, off + k * 2 + 1, none⟩) hbl).trans q1
        replace q2 := Tm.at_keep (Keeps.all hbw) q2
        have hmem := h ts[k] (List.getElem_mem hlt)
        clear hs hrr
        have hst := hid (Tm.sizes_take ts k hlt)
        have hsl := hid (Tm.sizes_le ts (k + 1))
        have hbm : ts[k].bulk ≤ 1048576 := by have := Tm.bulk_mem (List.getElem_mem hlt); rw [Tm.bulk] at hbk; omega
        have hrm' : (r : Int) ≤ m := by omega
        go_wp2_with fail
        rw [show ((m : Int) - (r : Int)) = ((m - r : Nat) : Int) by omega]
        refine (hmem (m - r) _ _ _ _ (by omega) q2 hbm).mono ?_
        rintro e w2 ⟨r2, rfl, hu, hb3⟩
        have HS : Hid (Upto m (1 + Tm.sizes (ts.take (k + 1))) (r + r2)) := by
          have := HX.out; have := hst.out; unfold Hid Upto at *; omega
        have hr2 : r2 ≤ 1048577 := by have := hu.2.2; have := Tm.size_bulk ts[k]; omega
        have hr3 : r + r2 ≤ 1048577 := by have := HS.out.2.2; have := hsl.out; have := hsd.out; omega
        clear hu
        go_wp2_with fail
        go_roundw
        case rel => exact ⟨k + 1, r + r2, by omega, by go_num, by go_num, hr3, HS, hb.trans (hb3.mono hz)⟩
        case measure => simp [intOf]; omega
      · have hsl := hid (Tm.sizes_le ts k)
        have HS : Hid (Upto m (Tm.node n ts).size r) := by
          have := HX.out; have := hsl.out; have := hsd.out
          unfold Hid Upto at *; omega
        have hrm' : (m : Int) < r := by omega
        go_wp2_with fail
        go_ret
        exact ⟨r, rfl, HS.out, hbw⟩
    · obtain rfl : k = ts.length := by omega
      have HS : Hid (Upto m (Tm.node n ts).size r) := by rw [Hid, hsd.out]; have := HX.out; rwa [List.take_length] at this
      go_wp2_with fail
      go_ret
      exact ⟨r, rfl, HS.out, hbw⟩
theorem l2Many_any (t : Tm) : Many t := Tm.ind (fun n ts h => l2Many_of n ts h) t
end Go.Proofs.YtooocakkjdhfiaaGreatDoor
/- A number lies between two: the program's and the reference's. -/
namespace Go.Proofs.YtooocakkjdhfiaaGreatDoor
set_option maxRecDepth 100000
open Go.RowKit

/-- lo ≤ n ≤ hi -/
def inB (n lo hi : Int) : Bool := decide (lo ≤ n) && decide (n ≤ hi)
theorem inB_yes {n lo hi : Int} (h : lo ≤ n) (k : n ≤ hi) : inB n lo hi = true := by simp [inB, h, k]
theorem inB_no {n lo hi : Int} (h : n < lo ∨ hi < n) : inB n lo hi = false := by
  rw [Bool.eq_false_iff]; intro e; simp [inB] at e; omega
theorem within_any (n lo hi : Int) (w : World) : Calls Tryz.prog 107 #[.int .i64 n, .int .i64 lo, .int .i64 hi] w fun e w' => e = .returned (.bool (inB n lo hi)) ∧ w = w' := by
  have H : Hid (inB n lo hi = (decide (lo ≤ n) && decide (n ≤ hi))) := rfl
  by_cases h1 : lo ≤ n
  all_goals
    go_enter Tryz.func107, Tryz.ntmps107
    go_wp2
    go_ret
    exact ⟨ret_bool (by rw [H.out, Bool.eq_iff_iff]; simp; omega), rfl⟩
theorem l1In_any (n lo hi : Int) (w : World) : Calls Tryz.prog 72 #[.int .i64 n, .int .i64 lo, .int .i64 hi] w fun e w' => e = .returned (.bool (inB n lo hi)) ∧ w = w' := by
  have H : Hid (inB n lo hi = (decide (lo ≤ n) && decide (n ≤ hi))) := rfl
  by_cases h1 : lo ≤ n
  all_goals
    go_enter Tryz.func72, Tryz.ntmps72
    go_wp2
    go_ret
    exact ⟨ret_bool (by rw [H.out, Bool.eq_iff_iff]; simp; omega), rfl⟩
end Go.Proofs.YtooocakkjdhfiaaGreatDoor
/- The program and the reference tell names of variables and of symbols. -/
namespace Go.Proofs.YtooocakkjdhfiaaGreatDoor
set_option maxRecDepth 100000
open Go.RowKit

theorem isLower_any (n : Nat) (w : World) : Calls Tryz.prog 105 #[.int .u8 n] w fun e w' => e = .returned (.bool (lowB n)) ∧ w = w' := by
  have H : Hid (lowB n = (decide (97 ≤ n) && decide (n ≤ 122))) := rfl
  by_cases h1 : 97 ≤ n
  all_goals
    go_enter Tryz.func105, Tryz.ntmps105
    go_wp2
    go_ret
    exact ⟨ret_bool (by rw [H.out, Bool.eq_iff_iff]; simp; omega), rfl⟩
theorem isDigit_any (n : Nat) (w : World) : Calls Tryz.prog 106 #[.int .u8 n] w fun e w' => e = .returned (.bool (digB n)) ∧ w = w' := by
  have H : Hid (digB n = (decide (48 ≤ n) && decide (n ≤ 57))) := rfl
  by_cases h1 : 48 ≤ n
  all_goals
    go_enter Tryz.func106, Tryz.ntmps106
    go_wp2
    go_ret
    exact ⟨ret_bool (by rw [H.out, Bool.eq_iff_iff]; simp; omega), rfl⟩
theorem isUpper_any (n : Nat) (w : World) : Calls Tryz.prog 95 #[.int .u8 n] w fun e w' => e = .returned (.bool (upB n)) ∧ w = w' := by
  have H : Hid (upB n = (decide (65 ≤ n) && decide (n ≤ 90))) := rfl
  by_cases h1 : 65 ≤ n
  all_goals
    go_enter Tryz.func95, Tryz.ntmps95
    go_wp2
    go_ret
    exact ⟨ret_bool (by rw [H.out, Bool.eq_iff_iff]; simp; omega), rfl⟩
theorem l2Small_any (n : Nat) (w : World) : Calls Tryz.prog 73 #[.int .u8 n] w fun e w' => e = .returned (.bool (lowB n || digB n)) ∧ w = w' := by
  have H : Hid ((lowB n || digB n) = ((decide (97 ≤ n) && decide (n ≤ 122)) || (decide (48 ≤ n) && decide (n ≤ 57)))) := rfl
  by_cases h1 : 97 ≤ n
  · by_cases h2 : n ≤ 122
    all_goals
      by_cases h3 : 48 ≤ n
      all_goals
        go_enter Tryz.func73, Tryz.ntmps73
        go_wp2
        all_goals
          go_ret
          exact ⟨ret_bool (by rw [H.out, Bool.eq_iff_iff]; simp; omega), rfl⟩
  · by_cases h3 : 48 ≤ n
    all_goals
      go_enter Tryz.func73, Tryz.ntmps73
      go_wp2
      go_ret
      exact ⟨ret_bool (by rw [H.out, Bool.eq_iff_iff]; simp; omega), rfl⟩
set_option maxHeartbeats 1000000 in
theorem isVariable_any (s : ByteArray) (hs : s.size ≤ maxLen) (w : World) : Calls Tryz.prog 102 #[.string s] w fun e w' => e = .returned (.bool (varName s)) ∧ w = w' := by
  unfold maxLen at hs
  have HV : Hid (varName s = (allCh varCh s s.size && decide (1 ≤ s.size) && decide (s.size ≤ 4))) := rfl
  go_enter Tryz.func102, Tryz.ntmps102
  go_wp2_with fail
  go_loop [6] (fun i => ∃ k : Nat, k ≤ s.size ∧ i = .int .i64 k ∧ Hid (allCh varCh s k = true)) (fun i => s.size - (intOf i).toNat)
  case atStart => exact ⟨0, Nat.zero_le _, rfl, allCh_zero _ _⟩
  case round =>
    obtain ⟨k, hk, rfl, HX⟩ := hrel
    by_cases hlt : k < s.size
    · have hbe := byteAt_eq hlt
      have hstep := hid (allCh_succ varCh s k)
      have hlt0 : (k : Int) < s.size := by omega
      by_cases h0 : k = 0
      · subst h0
        by_cases HU : upB (byteAt s 0) = true
        · have HS : Hid (allCh varCh s (0 + 1) = true) := by rw [Hid, hstep.out, HX.out]; simp [varCh, HU]
          go_wp2_with (first | (go_at_call 95; refine (isUpper_any _ _).mono ?_; rintro e w' ⟨rfl, rfl⟩; rw [HU]))
          go_round
          case rel => exact ⟨0 + 1, by omega, by go_num, HS⟩
          case measure => simp [intOf]; omega
        · replace HU : upB (byteAt s 0) = false := by simpa using HU
          have HS : Hid (varName s = false) := by rw [Hid, HV.out, allCh_no hlt (by simp [varCh, HU])]; rfl
          go_wp2_with (first | (go_at_call 95; refine (isUpper_any _ _).mono ?_; rintro e w' ⟨rfl, rfl⟩; rw [HU]))
          go_ret
          exact ⟨ret_bool HS.out.symm, rfl⟩
      · have hk0 : ((k : Int) == 0) = false := by rw [beq_eq_false_iff_ne]; omega
        have hk1 : 0 < (k : Int) := by omega
        by_cases HL : lowB (byteAt s k) = true
        · have HS : Hid (allCh varCh s (k + 1) = true) := by rw [Hid, hstep.out, HX.out]; simp [varCh, HL, h0]
          go_wp2_with (first | (go_at_call 105; refine (isLower_any _ _).mono ?_; rintro e w' ⟨rfl, rfl⟩; rw [HL]))
          go_round
          case rel => exact ⟨k + 1, by omega, by go_num, HS⟩
          case measure => simp [intOf]; omega
        · replace HL : lowB (byteAt s k) = false := by simpa using HL
          by_cases HD : digB (byteAt s k) = true
          · have HS : Hid (allCh varCh s (k + 1) = true) := by rw [Hid, hstep.out, HX.out]; simp [varCh, HD, h0]
            go_wp2_with (first | (go_at_call 105; refine (isLower_any _ _).mono ?_; rintro e w' ⟨rfl, rfl⟩; rw [HL]) | (go_at_call 106; refine (isDigit_any _ _).mono ?_; rintro e w' ⟨rfl, rfl⟩; rw [HD]))
            go_round
            case rel => exact ⟨k + 1, by omega, by go_num, HS⟩
            case measure => simp [intOf]; omega
          · replace HD : digB (byteAt s k) = false := by simpa using HD
            have HS : Hid (varName s = false) := by rw [Hid, HV.out, allCh_no hlt (by simp [varCh, h0, HL, HD])]; rfl
            go_wp2_with (first | (go_at_call 105; refine (isLower_any _ _).mono ?_; rintro e w' ⟨rfl, rfl⟩; rw [HL]) | (go_at_call 106; refine (isDigit_any _ _).mono ?_; rintro e w' ⟨rfl, rfl⟩; rw [HD]))
            go_ret
            exact ⟨ret_bool HS.out.symm, rfl⟩
    · obtain rfl : k = s.size := by omega
      have HS : Hid (varName s = inB s.size 1 4) := by rw [Hid, HV.out, HX.out, Bool.eq_iff_iff]; simp [inB]; omega
      go_wp2_with (first | (go_at_call 107; refine (within_any _ _ _ _).mono ?_; rintro e w' ⟨rfl, rfl⟩))
      go_ret
      exact ⟨ret_bool HS.out.symm, rfl⟩

/-- r tells whether s is in the list -/
def Found (ss : List ByteArray) (s : ByteArray) (w : World) (e : Ending) (w' : World) : Prop := ∃ r : Int, e = .returned (.int .i64 r) ∧ ((0 ≤ r ∧ hasStr ss s = true) ∨ (r < 0 ∧ hasStr ss s = false)) ∧ w = w'

set_option maxHeartbeats 400000 in
theorem indexStr_any {S : Nat → Prop} {v : Value} {ss : List ByteArray} (s : ByteArray) {w : World} (h : D.rd S w v (slOf strE ss)) : Calls Tryz.prog 96 #[v, .string s] w (Found ss s w) := by
  obtain ⟨a, cap, rfl, hlen, hcap⟩ := slOf_form h
  unfold big at hlen
  go_enter Tryz.func96, Tryz.ntmps96
  go_wp2_with fail
  go_loop [8] (fun i => ∃ k : Nat, k ≤ ss.length ∧ i = .int .i64 k ∧ Hid (s ∉ ss.take k)) (fun i => ss.length - (intOf i).toNat)
  case atStart => exact ⟨0, Nat.zero_le _, rfl, by simp [Hid]⟩
  case round =>
    obtain ⟨k, hk, rfl, HX⟩ := hrel
    by_cases hlt : k < ss.length
    · have hne : ss ≠ [] := by intro e; subst e; simp at hlt
      obtain ⟨b, off, rfl, hS, hbl, hrr⟩ := strs_get h hne
      obtain ⟨q0, q1⟩ := hrr k hlt
      clear h hrr
      by_cases he : s = ss[k]
      · have hq : (s.toList == ss[k].toList) = true := by rw [toList_beq]; simpa using he
        have HF : Hid (hasStr ss s = true) := (hasStr_iff _ _).2 (he ▸ List.getElem_mem hlt)
        clear he
        go_wp2_with fail
        go_ret
        exact ⟨k, rfl, .inl ⟨by omega, HF.out⟩, rfl⟩
      · have hq : (s.toList == ss[k].toList) = false := toList_ne he
        have HF : Hid (s ∉ ss.take (k + 1)) := by
          rw [Hid, List.take_succ_eq_append_getElem hlt, List.mem_append]
          rintro (q | q)
          · exact HX.out q
          · exact he (by simpa using q)
        clear he
        go_wp2_with fail
        go_round
        case rel => exact ⟨k + 1, by omega, by go_num, HF⟩
        case measure => simp [intOf]; omega
    · obtain rfl : k = ss.length := by omega
      have HF : Hid (hasStr ss s = false) := by
        rw [Hid, Bool.eq_false_iff, Ne, hasStr_iff]
        have := HX.out
        rwa [List.take_length] at this
      go_wp2_with fail
      go_ret
      exact ⟨-1, rfl, .inr ⟨by omega, HF.out⟩, rfl⟩

set_option maxHeartbeats 400000 in
theorem containsStr_any {S : Nat → Prop} {v : Value} {ss : List ByteArray} (s : ByteArray) {w : World} (h : D.rd S w v (slOf strE ss)) : Calls Tryz.prog 79 #[v, .string s] w fun e w' => e = .returned (.bool (hasStr ss s)) ∧ w = w' := by
  go_enter Tryz.func79, Tryz.ntmps79
  go_wp2_with fail
  refine (indexStr_any s h).mono ?_
  rintro e w' ⟨r, rfl, hr, rfl⟩
  rcases hr with ⟨h0, h1⟩ | ⟨h0, h1⟩
  · have H := hid h1
    clear h1
    go_wp2_with fail
    go_ret
    exact ⟨ret_bool H.out.symm, rfl⟩
  · have H := hid h1
    clear h1
    go_wp2_with fail
    go_ret
    exact ⟨ret_bool (by rw [H.out]; simp; omega), rfl⟩

theorem reserved_any (w : World) : Calls Tryz.prog 108 #[] w (Yields w fun v w' => D.rd (fun _ => True) w' v (slOf strE reservedL)) := by
  go_enter Tryz.func108, Tryz.ntmps108
  go_wp2_with fail
  go_ret
  refine ⟨_, rfl, (Below.refl _ _).alloc (Nat.le_refl _) _, ?_⟩
  refine slOf_strs (ss := reservedL) trivial (by simp) (by decide) (fun i hi => ?_) (by decide)
  rw [box1]
  match i, hi with
  | 0, _ => exact ⟨rfl, by simp [reservedL, ByteArray.size, maxLen]⟩
  | 1, _ => exact ⟨rfl, by simp [reservedL, ByteArray.size, maxLen]⟩
  | 2, _ => exact ⟨rfl, by simp [reservedL, ByteArray.size, maxLen]⟩
  | 3, _ => exact ⟨rfl, by simp [reservedL, ByteArray.size, maxLen]⟩
  | 4, _ => exact ⟨rfl, by simp [reservedL, ByteArray.size, maxLen]⟩
  | 5, _ => exact ⟨rfl, by simp [reservedL, ByteArray.size, maxLen]⟩
  | 6, _ => exact ⟨rfl, by simp [reservedL, ByteArray.size, maxLen]⟩
  | 7, _ => exact ⟨rfl, by simp [reservedL, ByteArray.size, maxLen]⟩

set_option maxHeartbeats 2000000 in
theorem isSymbol_any (s : ByteArray) (hs : s.size ≤ maxLen) (w : World) : Calls Tryz.prog 87 #[.string s] w (Gives w (.bool (symName s))) := by
  unfold maxLen at hs
  have HV : Hid (symName s = (allCh symCh s s.size && decide (1 ≤ s.size) && decide (s.size ≤ 6) && !hasStr reservedL s)) := rfl
  go_enter Tryz.func87, Tryz.ntmps87
  go_wp2_with fail
  go_loop [6] (fun i => ∃ k : Nat, k ≤ s.size ∧ i = .int .i64 k ∧ Hid (allCh symCh s k = true)) (fun i => s.size - (intOf i).toNat)
  case atStart => exact ⟨0, Nat.zero_le _, rfl, allCh_zero _ _⟩
  case round =>
    obtain ⟨k, hk, rfl, HX⟩ := hrel
    by_cases hlt : k < s.size
    · have hbe := byteAt_eq hlt
      have hstep := hid (allCh_succ symCh s k)
      have hlt0 : (k : Int) < s.size := by omega
      by_cases h0 : k = 0
      · subst h0
        by_cases HL : lowB (byteAt s 0) = true
        · have HS : Hid (allCh symCh s (0 + 1) = true) := by rw [Hid, hstep.out, HX.out]; simp [symCh, HL]
          go_wp2_with (first | (go_at_call 105; refine (isLower_any _ _).mono ?_; rintro e w' ⟨rfl, rfl⟩; rw [HL]))
          go_round
          case rel => exact ⟨0 + 1, by omega, by go_num, HS⟩
          case measure => simp [intOf]; omega
        · replace HL : lowB (byteAt s 0) = false := by simpa using HL
          have HS : Hid (symName s = false) := by rw [Hid, HV.out, allCh_no hlt (by simp [symCh, HL])]; rfl
          go_wp2_with (first | (go_at_call 105; refine (isLower_any _ _).mono ?_; rintro e w' ⟨rfl, rfl⟩; rw [HL]))
          go_ret
          exact Gives.mk (ret_bool HS.out.symm) (Below.refl _ _)
      · have hk0 : ((k : Int) == 0) = false := by rw [beq_eq_false_iff_ne]; omega
        by_cases HL : lowB (byteAt s k) = true
        · have HS : Hid (allCh symCh s (k + 1) = true) := by rw [Hid, hstep.out, HX.out]; simp [symCh, HL, h0]
          go_wp2_with (first | (go_at_call 105; refine (isLower_any _ _).mono ?_; rintro e w' ⟨rfl, rfl⟩; rw [HL]))
          go_round
          case rel => exact ⟨k + 1, by omega, by go_num, HS⟩
          case measure => simp [intOf]; omega
        · replace HL : lowB (byteAt s k) = false := by simpa using HL
          by_cases HD : digB (byteAt s k) = true
          · have HS : Hid (allCh symCh s (k + 1) = true) := by rw [Hid, hstep.out, HX.out]; simp [symCh, HD, h0]
            go_wp2_with (first | (go_at_call 105; refine (isLower_any _ _).mono ?_; rintro e w' ⟨rfl, rfl⟩; rw [HL]) | (go_at_call 106; refine (isDigit_any _ _).mono ?_; rintro e w' ⟨rfl, rfl⟩; rw [HD]))
            go_round
            case rel => exact ⟨k + 1, by omega, by go_num, HS⟩
            case measure => simp [intOf]; omega
          · replace HD : digB (byteAt s k) = false := by simpa using HD
            by_cases hu : byteAt s k = 95
            · have HS : Hid (allCh symCh s (k + 1) = true) := by rw [Hid, hstep.out, HX.out]; simp [symCh, hu, h0]
              have hq : ((byteAt s k : Int) != 95) = false := by rw [hu]; rfl
              have hq' : ((byteAt s k : Int) == 95) = true := by rw [hu]; rfl
              clear hu
              go_wp2_with (first | (go_at_call 105; refine (isLower_any _ _).mono ?_; rintro e w' ⟨rfl, rfl⟩; rw [HL]) | (go_at_call 106; refine (isDigit_any _ _).mono ?_; rintro e w' ⟨rfl, rfl⟩; rw [HD]))
              go_round
              case rel => exact ⟨k + 1, by omega, by go_num, HS⟩
              case measure => simp [intOf]; omega
            · have HS : Hid (symName s = false) := by rw [Hid, HV.out, allCh_no hlt (by simp [symCh, h0, HL, HD, hu])]; rfl
              have hq : ((byteAt s k : Int) != 95) = true := by rw [bne_iff_ne]; omega
              have hq' : ((byteAt s k : Int) == 95) = false := by rw [beq_eq_false_iff_ne]; omega
              clear hu
              go_wp2_with (first | (go_at_call 105; refine (isLower_any _ _).mono ?_; rintro e w' ⟨rfl, rfl⟩; rw [HL]) | (go_at_call 106; refine (isDigit_any _ _).mono ?_; rintro e w' ⟨rfl, rfl⟩; rw [HD]))
              go_ret
              exact Gives.mk (ret_bool HS.out.symm) (Below.refl _ _)
    · obtain rfl : k = s.size := by omega
      by_cases hin : 1 ≤ s.size ∧ s.size ≤ 6
      · have HI := inB_yes (n := s.size) (lo := 1) (hi := 6) (by omega) (by omega)
        have HS : Hid (symName s = !hasStr reservedL s) := by rw [Hid, HV.out, HX.out]; simp [hin]
        go_wp2_with (first | (go_at_call 107; refine (within_any _ _ _ _).mono ?_; rintro e w' ⟨rfl, rfl⟩; rw [HI]))
        refine (reserved_any _).mono ?_
        rintro e w1 ⟨v, rfl, hb, hr⟩
        go_wp2_with fail
        refine (containsStr_any s hr).mono ?_
        rintro e w' ⟨rfl, rfl⟩
        go_wp2_with fail
        go_ret
        exact Gives.mk (ret_bool HS.out.symm) hb
      · have HI := inB_no (n := s.size) (lo := 1) (hi := 6) (by omega)
        have HS : Hid (symName s = false) := by rw [Hid, HV.out, Bool.eq_false_iff]; intro e; simp at e; omega
        go_wp2_with (first | (go_at_call 107; refine (within_any _ _ _ _).mono ?_; rintro e w' ⟨rfl, rfl⟩; rw [HI]))
        go_ret
        exact Gives.mk (ret_bool HS.out.symm) (Below.refl _ _)
end Go.Proofs.YtooocakkjdhfiaaGreatDoor
