/- Lists of strings that grow at their end. -/
import Derived.Test.YtooocakkjdhfiaaDoorRows
import Derived.Test.YtooocakkjdhfiaaDoorCh
import Derived.Test.YtooocakkjdhfiaaDoorBr
import Derived.Test.YtooocakkjdhfiaaDoorD
import Derived.Test.YtooocakkjdhfiaaDoorSe
import Derived.Test.YtooocakkjdhfiaaDoorReg
import Derived.WalkSpells
import Derived.WalkLawsBesides
import Derived.Deep.AppendLies
namespace Go.Proofs.YtooocakkjdhfiaaDoor
set_option maxRecDepth 100000
open Go.RowKit

theorem infoStr : (Tryd.prog.info? 9).map (fun i => (i.zero, i.size, i.bytes)) = some (some (.string ByteArray.empty), 1, 16) := by kernel_rfl

/-- the value owns a row of these strings, in a block from B on -/
def Row (w : World) (B : Nat) (v : Value) (ss : List ByteArray) : Prop := w.ownsRow B 9 1 v ss.length (ss.map Value.string) ∧ ∀ s ∈ ss, s.size ≤ maxLen

theorem Row.nil (w : World) (B : Nat) : Row w B (.slice none 0 0) [] := ⟨World.ownsRow_nil w B _ 1, by simp⟩
theorem Row.made (w : World) {B : Nat} (hB : B ≤ w.heap.size) : Row (w.alloc (.cells #[] 9)) B (.slice (some ⟨w.heap.size, 0, none⟩) 0 0) [] :=
  ⟨World.ownsRow_made w #[] 0 hB (by decide) rfl, by simp⟩
theorem Row.made' {w : World} {B n : Nat} (hn : n = w.heap.size) (hB : B ≤ w.heap.size) : Row (w.alloc (.cells #[] 9)) B (.slice (some ⟨n, 0, none⟩) 0 0) [] := by subst hn; exact Row.made w hB
theorem Row.form {w : World} {B : Nat} {v : Value} {ss : List ByteArray} (h : Row w B v ss) : ∃ a cap, v = .slice a ss.length cap ∧ ss.length ≤ big ∧ ss.length ≤ cap := by
  rcases h.1.2 with ⟨rfl, h0⟩ | ⟨g, cap, cur, rfl, hb, hg, hc, hm, _⟩
  · exact ⟨none, 0, by rw [h0], by omega, by omega⟩
  · exact ⟨_, cap, rfl, Nat.le_trans hc hm, hc⟩
theorem Row.lt {w : World} {B : Nat} {v : Value} {ss : List ByteArray} (h : Row w B v ss) : ∀ k, v.ownBlock = some k → B ≤ k ∧ k < w.heap.size := h.1.lt
theorem Row.rd {w : World} {B : Nat} {v : Value} {ss : List ByteArray} (h : Row w B v ss) : D.rd (fun _ => True) w v (slOf strE ss) := by
  obtain ⟨⟨h0, h1⟩, hs⟩ := h
  rcases h1 with ⟨rfl, h2⟩ | ⟨g, cap, cur, rfl, hb, hg, hc, hm, hsz, htk⟩
  · have : ss = [] := List.length_eq_zero_iff.1 h2
    subst this
    rw [slOf, D.rd]
    exact ⟨none, 0, rfl, Nat.zero_le _, Nat.zero_le _, fun h => absurd rfl h, fun h => absurd rfl h⟩
  · refine slOf_strs (ss := ss) trivial (lt_of_heap hg) (Nat.le_trans hc hm) (fun i hi => ?_) hc
    refine ⟨?_, hs _ (List.getElem_mem hi)⟩
    rw [World.cell?, hg]
    have : (cur.toList.take (ss.length * 1))[i]? = some (Value.string ss[i]) := by rw [htk]; simp [hi]
    rw [List.getElem?_take] at this
    split at this
    · simpa using this
    · exact absurd this (by simp)
theorem Row.kept {w w' : World} {B : Nat} {v : Value} {ss : List ByteArray} {row : Option Nat} (h : Row w B v ss) (hg : w.grownBy w' row) (hne : v.ownBlock = none ∨ v.ownBlock ≠ row) : Row w' B v ss := ⟨h.1.kept hg hne, h.2⟩
theorem grown_of_below {w w' : World} (h : Below w.heap.size w w') (row : Option Nat) : w.grownBy w' row := ⟨h.os, h.tape, h.output, h.size, fun k hk _ => h.block k hk⟩
theorem Row.keep {w w' : World} {B : Nat} {v : Value} {ss : List ByteArray} (h : Row w B v ss) (hb : Below w.heap.size w w') : Row w' B v ss :=
  h.kept (grown_of_below hb none) (by cases v.ownBlock <;> simp)
theorem Row.drew {w : World} {B : Nat} {v : Value} {ss : List ByteArray} (h : Row w B v ss) : Row w.drew B v ss := h.keep (Below.refl _ _).drew
theorem Row.mono {w : World} {B B' : Nat} {v : Value} {ss : List ByteArray} (h : Row w B v ss) (hB : B' ≤ B) : Row w B' v ss := by
  refine ⟨⟨h.1.1, ?_⟩, h.2⟩
  rcases h.1.2 with h1 | ⟨g, cap, cur, h1, hb, hr⟩
  · exact .inl h1
  · exact .inr ⟨g, cap, cur, h1, Nat.le_trans hB hb, hr⟩
theorem Row.cells {w : World} {B : Nat} {v : Value} {ss : List ByteArray} (h : Row w B v ss) {g n cap : Nat} (hv : v = .slice (some ⟨g, 0, none⟩) n cap) : ∀ (j : Nat) x, ss[j]? = some x → w.cell? ⟨g, 0 + j, none⟩ = some (.string x) := by
  intro j x hj
  have := h.1.cells (g := g) (by rw [hv]; rfl) j (.string x) (by simp [hj])
  rw [Nat.zero_add]
  unfold Addr.add at this
  split at this
  · rename_i h0; subst h0; exact this
  · simpa using this

/-- a list of strings that is not nil -/
def Lst (w : World) (v : Value) (ss : List ByteArray) : Prop := ∃ b off cap, v = .slice (some ⟨b, off, none⟩) ss.length cap ∧ b < w.heap.size ∧ ss.length ≤ cap ∧ cap ≤ maxLen ∧ ∀ i (h : i < ss.length), w.cell? ⟨b, off + i, none⟩ = some (.string ss[i]) ∧ ss[i].size ≤ maxLen
theorem Lst.keep {w w' : World} {v : Value} {ss : List ByteArray} (h : Lst w v ss) (hb : Below w.heap.size w w') : Lst w' v ss := by
  obtain ⟨b, off, cap, e, h0, h1, h2, h3⟩ := h
  exact ⟨b, off, cap, e, Nat.lt_of_lt_of_le h0 hb.size, h1, h2, fun i hi => ⟨(hb.cell (p := ⟨b, off + i, none⟩) h0).trans (h3 i hi).1, (h3 i hi).2⟩⟩
theorem Lst.rd {w : World} {v : Value} {ss : List ByteArray} (h : Lst w v ss) : D.rd (fun _ => True) w v (slOf strE ss) := by
  obtain ⟨b, off, cap, rfl, h0, h1, h2, h3⟩ := h
  rw [slOf, D.rd]
  refine ⟨_, _, rfl, Nat.le_trans h1 h2, h1, fun hn => flat_ne strE_wide (by decide) (by intro e; subst e; simp at hn), fun hne => ⟨b, off, rfl, trivial, h0, (D.rds_iff _ _).2 fun i hi => ?_⟩⟩
  have hil : i < ss.length := by rw [flat_length strE_wide] at hi; omega
  obtain ⟨q0, q1⟩ := h3 i hil
  have hg := flat_get strE_wide ss i 0 hil (by decide)
  rw [Nat.mul_one, Nat.add_zero, List.getElem?_eq_getElem hi] at hg
  have : (ss.flatMap strE)[i] = .str ss[i] := by simpa [strE] using hg
  rw [this]
  exact ⟨_, q0, D.rd_str q1⟩
theorem Row.lst {w : World} {B : Nat} {v : Value} {ss : List ByteArray} (h : Row w B v ss) (hne : v ≠ .slice none 0 0) : Lst w v ss := by
  have hc := fun g n cap (hv : v = .slice (some ⟨g, 0, none⟩) n cap) => h.cells hv
  rcases h.1.2 with ⟨h0, _⟩ | ⟨g, cap, cur, rfl, hb, hg, hcc, hm, _⟩
  · exact absurd h0 hne
  · exact ⟨g, 0, cap, rfl, lt_of_heap hg, hcc, hm, fun i hi => ⟨hc g _ cap rfl i _ (List.getElem?_eq_getElem hi), h.2 _ (List.getElem_mem hi)⟩⟩
theorem Lst.made (w : World) : Lst (w.alloc (.cells #[] 9)) (.slice (some ⟨w.heap.size, 0, none⟩) 0 0) [] := ⟨_, _, _, rfl, by simp, Nat.le_refl _, by decide, fun i h => absurd h (by simp)⟩

theorem grown_refl (w : World) (row : Option Nat) : w.grownBy w row := ⟨rfl, rfl, rfl, Nat.le_refl _, fun _ _ _ => rfl⟩
theorem grown_trans {a b c : World} {row row' : Option Nat} (h : a.grownBy b row) (k : b.grownBy c row') (hr : ∀ x, row' = some x → row = some x ∨ a.heap.size ≤ x) : a.grownBy c row := by
  refine ⟨k.os.trans h.os, k.tape.trans h.tape, k.output.trans h.output, Nat.le_trans h.size k.size, fun x hx hne => ?_⟩
  rw [k.block x (Nat.lt_of_lt_of_le hx h.size) (fun e => ?_), h.block x hx hne]
  rcases hr x e.symm with q | q
  · exact hne q.symm
  · omega
/-- a value goes on as another one: in its own block, or in a new one -/
def Goes (w : World) (v v' : Value) : Prop := ∀ x, v'.ownBlock = some x → v.ownBlock = some x ∨ w.heap.size ≤ x
theorem Goes.refl (w : World) (v : Value) : Goes w v v := fun _ h => .inl h
theorem Goes.trans {w w1 : World} {v v1 v2 : Value} (h : Goes w v v1) (hz : w.heap.size ≤ w1.heap.size) (k : Goes w1 v1 v2) : Goes w v v2 := fun x hx => by
  rcases k x hx with q | q
  · exact h x q
  · exact .inr (Nat.le_trans hz q)

/-- append(list, y), y lying in a row of its own -/
theorem run_append_str {w : World} {B : Nat} {v : Value} {ss : List ByteArray} (hrow : Row w B v ss) {b : Nat} {y : ByteArray} (ty : TypeId) (hy : y.size ≤ maxLen) (hcell : w.cell? ⟨b, 0, none⟩ = some (.string y)) (hl : ss.length ≤ 4294967296) (hB : B ≤ w.heap.size) :
    ∃ g cap w', (Builtin.append_ #[62, 62] ty #[v, .slice (some ⟨b, 0, none⟩) 1 1]).run Tryd.prog w = .ok (.slice (some ⟨g, 0, none⟩) (ss.length + 1) cap) w' ∧
      Row w' B (.slice (some ⟨g, 0, none⟩) (ss.length + 1) cap) (ss ++ [y]) ∧ w.grownBy w' v.ownBlock ∧ Goes w v (.slice (some ⟨g, 0, none⟩) (ss.length + 1) cap) ∧ g < w'.heap.size := by
  obtain ⟨i0, hi, hz0, hz1, hz2⟩ := info_parts infoStr
  obtain ⟨g, cap, w', h1, h2, h3, h4, h5⟩ := run_append_lies (P := Tryd.prog) w 62 ty B 9 i0 _ 1 16 Tryd.underlying62 hi hz0 hz1 hz2 rfl (by decide) v ss.length _ hrow.1 ⟨b, 0, none⟩ 1 1 [.string y] rfl
    (fun j u hj => by
      cases j with
      | zero => simp at hj; subst hj; exact hcell
      | succ j => simp at hj) (by simp [Value.oneCell']) (by decide) (by unfold maxLen; omega) (by omega) hB _ rfl
  refine ⟨g, cap, w', h1, ⟨by simpa using h2, fun s hs => ?_⟩, h3, fun x hx => ?_, h5⟩
  · rcases List.mem_append.1 hs with q | q
    · exact hrow.2 s q
    · simp at q; subst q; exact hy
  · simp [Value.ownBlock] at hx
    subst hx
    rcases h4 with q | q
    · exact .inl q
    · exact .inr (by omega)

/-- append(list, ys...), ys lying in a row -/
theorem run_append_strs {w : World} {B : Nat} {v : Value} {ss ys : List ByteArray} (hrow : Row w B v ss) {b off m c : Nat} (ty : TypeId) (hm : m = ys.length) (hcell : ∀ j (hj : j < ys.length), w.cell? ⟨b, off + j, none⟩ = some (.string ys[j])) (hy : ∀ y ∈ ys, y.size ≤ maxLen) (hl : ss.length + ys.length ≤ 4294967296) (hB : B ≤ w.heap.size) :
    ∃ v' w', (Builtin.append_ #[62, 62] ty #[v, .slice (some ⟨b, off, none⟩) m c]).run Tryd.prog w = .ok v' w' ∧ Row w' B v' (ss ++ ys) ∧ w.grownBy w' v.ownBlock ∧ Goes w v v' ∧ (v ≠ .slice none 0 0 → v' ≠ .slice none 0 0) := by
  obtain ⟨i0, hi, hz0, hz1, hz2⟩ := info_parts infoStr
  subst hm
  obtain ⟨v', w', h1, h2, h3, h4, h5⟩ := run_append_own_at (P := Tryd.prog) w B 62 ty 9 i0 _ 1 16 Tryd.underlying62 hi hz0 hz1 hz2 rfl (by decide) v ss.length _ hrow.1 ⟨b, off, none⟩ ys.length c (ys.map Value.string) (by simp)
    (fun j u hj => by
      rw [List.getElem?_map] at hj
      cases hyj : ys[j]? with
      | none => rw [hyj] at hj; cases hj
      | some y =>
        rw [hyj] at hj
        obtain ⟨hjl, e⟩ := List.getElem?_eq_some_iff.1 hyj
        have := hcell j hjl
        rw [e] at this
        have hu : u = .string y := by simpa using hj.symm
        rw [hu, ← this]
        unfold Addr.add
        split
        · rename_i h0; subst h0; rfl
        · rfl) (fun u hu => by
      obtain ⟨y, _, rfl⟩ := List.mem_map.1 hu
      simp [Value.oneCell']) (by unfold maxLen; omega) (by omega) hB
  refine ⟨v', w', h1, ⟨by simpa using h2, fun s hs => ?_⟩, h3, fun x hx => ?_, fun hne hn => hne (h4.1 hn).1⟩
  · rcases List.mem_append.1 hs with q | q
    · exact hrow.2 s q
    · exact hy s q
  · rcases h5 with q | q
    · exact .inl (by rw [← q]; exact hx)
    · rw [q] at hx; injection hx with hx; exact .inr (by omega)
/-- .. at a step of a region that draws its order -/
theorem step_append_strs {ops : Array Oper} {o : Oper} {a : Act} {w : World} {K : Act → World → Prop} {Q : Exit → Act → World → Prop} {E : Prop} (hgd : o.guard = none) (s x : Operand)
    (ho : o.op = .call { callee := .builtin .append, args := #[s, x], argTypes := #[62, 62] }) {B : Nat} {v : Value} {ss ys : List ByteArray} {b off m c : Nat}
    (hs : a.eval s = v) (hx : a.eval x = .slice (some ⟨b, off, none⟩) m c) (hrow : Row w B v ss) (hm : m = ys.length) (hcell : ∀ j (hj : j < ys.length), w.cell? ⟨b, off + j, none⟩ = some (.string ys[j])) (hy : ∀ y ∈ ys, y.size ≤ maxLen) (hl : ss.length + ys.length ≤ 4294967296) (hB : B ≤ w.heap.size)
    (h : ∀ v' w', Row w' B v' (ss ++ ys) → w.grownBy w' v.ownBlock → Goes w v v' → (v ≠ .slice none 0 0 → v' ≠ .slice none 0 0) → K (a.put o.dst v') w') :
    if Region.wanted o (yielded ops a.tmps) = true then Oper.wp Tryd.prog o a w K Q else E := by
  have hw : Region.wanted o (yielded ops a.tmps) = true := by simp [Region.wanted, hgd]
  rw [if_pos hw]
  obtain ⟨v', w', hr, h2, h3, h4, h5⟩ := run_append_strs (c := c) hrow o.type hm hcell hy hl hB
  unfold Oper.wp execOp
  simp only [ho, resolve, invoke, builtin, Sem.run_bind, Sem.run_pure, Result.andThen_ok, List.map_toArray, List.map_cons, List.map_nil, hs, hx, hr]
  exact h v' w' h2 h3 h4 h5
/-- .. at the list of a plain region's operations -/
theorem wpList_append_str {ops : Array Oper} {rest : List Oper} {o : Oper} {a : Act} {w : World} {Q : Exit → Act → World → Prop} (hgd : o.guard = none) (s x : Operand)
    (ho : o.op = .call { callee := .builtin .append, args := #[s, x], argTypes := #[62, 62] }) {B : Nat} {v : Value} {ss : List ByteArray} {b : Nat} {y : ByteArray}
    (hs : a.eval s = v) (hx : a.eval x = .slice (some ⟨b, 0, none⟩) 1 1) (hrow : Row w B v ss) (hy : y.size ≤ maxLen) (hcell : w.cell? ⟨b, 0, none⟩ = some (.string y)) (hl : ss.length ≤ 4294967296) (hB : B ≤ w.heap.size)
    (h : ∀ g cap w', Row w' B (.slice (some ⟨g, 0, none⟩) (ss.length + 1) cap) (ss ++ [y]) → w.grownBy w' v.ownBlock → Goes w v (.slice (some ⟨g, 0, none⟩) (ss.length + 1) cap) → g < w'.heap.size → wpList Tryd.prog ops Q rest (a.put o.dst (.slice (some ⟨g, 0, none⟩) (ss.length + 1) cap)) w') : wpList Tryd.prog ops Q (o :: rest) a w := by
  obtain ⟨g, cap, w', hr, h2, h3, h4, h5⟩ := run_append_str hrow o.type hy hcell hl hB
  refine wpList_plain hgd fun _ hK => ?_
  unfold Oper.wp execOp
  simp only [ho, resolve, invoke, builtin, Sem.run_bind, Sem.run_pure, Result.andThen_ok, List.map_toArray, List.map_cons, List.map_nil, hs, hx, hr]
  exact hK _ _ (h g cap w' h2 h3 h4 h5)
/-- .. at a step of a region that draws its order -/
theorem step_append_str {ops : Array Oper} {o : Oper} {a : Act} {w : World} {K : Act → World → Prop} {Q : Exit → Act → World → Prop} {E : Prop} (hgd : o.guard = none) (s x : Operand)
    (ho : o.op = .call { callee := .builtin .append, args := #[s, x], argTypes := #[62, 62] }) {B : Nat} {v : Value} {ss : List ByteArray} {b : Nat} {y : ByteArray}
    (hs : a.eval s = v) (hx : a.eval x = .slice (some ⟨b, 0, none⟩) 1 1) (hrow : Row w B v ss) (hy : y.size ≤ maxLen) (hcell : w.cell? ⟨b, 0, none⟩ = some (.string y)) (hl : ss.length ≤ 4294967296) (hB : B ≤ w.heap.size)
    (h : ∀ g cap w', Row w' B (.slice (some ⟨g, 0, none⟩) (ss.length + 1) cap) (ss ++ [y]) → w.grownBy w' v.ownBlock → Goes w v (.slice (some ⟨g, 0, none⟩) (ss.length + 1) cap) → g < w'.heap.size → K (a.put o.dst (.slice (some ⟨g, 0, none⟩) (ss.length + 1) cap)) w') :
    if Region.wanted o (yielded ops a.tmps) = true then Oper.wp Tryd.prog o a w K Q else E := by
  have hw : Region.wanted o (yielded ops a.tmps) = true := by simp [Region.wanted, hgd]
  rw [if_pos hw]
  obtain ⟨g, cap, w', hr, h2, h3, h4, h5⟩ := run_append_str hrow o.type hy hcell hl hB
  unfold Oper.wp execOp
  simp only [ho, resolve, invoke, builtin, Sem.run_bind, Sem.run_pure, Result.andThen_ok, List.map_toArray, List.map_cons, List.map_nil, hs, hx, hr]
  exact h g cap w' h2 h3 h4 h5
/-- .. told from a world that the region began in -/
theorem step_apps {ops : Array Oper} {o : Oper} {a : Act} {w W : World} {K : Act → World → Prop} {Q : Exit → Act → World → Prop} {E : Prop} (hgd : o.guard = none) (s x : Operand)
    (ho : o.op = .call { callee := .builtin .append, args := #[s, x], argTypes := #[62, 62] }) {B : Nat} (hBW : Below B W w) (hB : B ≤ w.heap.size) {v : Value} {ss ys : List ByteArray} {b off m c : Nat}
    (hs : a.eval s = v) (hx : a.eval x = .slice (some ⟨b, off, none⟩) m c) (hrow : Row w B v ss) (hm : m = ys.length) (hb : ys.length ≠ 0 → b < B) (hcell : ∀ j (hj : j < ys.length), W.cell? ⟨b, off + j, none⟩ = some (.string ys[j])) (hy : ∀ y ∈ ys, y.size ≤ maxLen) (hl : ss.length + ys.length ≤ 4294967296)
    (h : ∀ v' w', Row w' B v' (ss ++ ys) → Below B W w' → B ≤ w'.heap.size → (v ≠ .slice none 0 0 → v' ≠ .slice none 0 0) → w.grownBy w' v.ownBlock → K (a.put o.dst v') w') :
    if Region.wanted o (yielded ops a.tmps) = true then Oper.wp Tryd.prog o a w K Q else E := by
  refine step_append_strs hgd s x ho hs hx hrow hm (fun j hj => (hBW.cell (p := ⟨b, off + j, none⟩) (hb (by omega))).trans (hcell j hj)) hy hl hB fun v' w' h1 h2 h3 h4 => ?_
  have q := Below.grown hBW h2 hB (fun k hk => (hrow.lt k hk).1)
  exact h v' w' h1 q (Nat.le_trans hB h2.size) h4 h2
theorem step_app {ops : Array Oper} {o : Oper} {a : Act} {w W : World} {K : Act → World → Prop} {Q : Exit → Act → World → Prop} {E : Prop} (hgd : o.guard = none) (s x : Operand)
    (ho : o.op = .call { callee := .builtin .append, args := #[s, x], argTypes := #[62, 62] }) {B : Nat} (hBW : Below B W w) (hB : B ≤ w.heap.size) {v : Value} {ss : List ByteArray} {b : Nat} {y : ByteArray}
    (hs : a.eval s = v) (hx : a.eval x = .slice (some ⟨b, 0, none⟩) 1 1) (hrow : Row w B v ss) (hy : y.size ≤ maxLen) (hcell : w.cell? ⟨b, 0, none⟩ = some (.string y)) (hl : ss.length ≤ 4294967296)
    (h : ∀ g cap w', Row w' B (.slice (some ⟨g, 0, none⟩) (ss.length + 1) cap) (ss ++ [y]) → Below B W w' → B ≤ w'.heap.size → g < w'.heap.size → w.grownBy w' v.ownBlock → K (a.put o.dst (.slice (some ⟨g, 0, none⟩) (ss.length + 1) cap)) w') :
    if Region.wanted o (yielded ops a.tmps) = true then Oper.wp Tryd.prog o a w K Q else E := by
  refine step_append_str hgd s x ho hs hx hrow hy hcell hl hB fun g cap w' h1 h2 h3 h4 => ?_
  have q := Below.grown hBW h2 hB (fun k hk => (hrow.lt k hk).1)
  exact h g cap w' h1 q (Nat.le_trans hB h2.size) h4 h2
end Go.Proofs.YtooocakkjdhfiaaDoor
