/- Several texts in one file. -/
import Derived.Test.YtglhbaigigdeeaaGreatRows
import Derived.Test.YtglhbaigigdeeaaGreatQ02
import Derived.Test.YtglhbaigigdeeaaGreatQ01
import Derived.Test.YtglhbaigigdeeaaGreatQ03
import Derived.WalkSpells
import Derived.WalkLawsBesides
import Derived.Deep.AppendLies
import Derived.Deep.RegionHeld3
import Derived.Test.YtglhbaigigdeeaaGreatQ05
import Derived.Deep.RegionLaw
/- Lists of strings that grow at their end. -/
namespace Go.Proofs.YtglhbaigigdeeaaGreat
set_option maxRecDepth 100000
open Go.RowKit

theorem infoStr : (Tryz.prog.info? 9).map (fun i => (i.zero, i.size, i.bytes)) = some (some (.string ByteArray.empty), 1, 16) := by kernel_rfl

/-- the value owns a row of these strings, in a block from B on -/
def Row (w : World) (B : Nat) (v : Value) (ss : List ByteArray) : Prop := w.ownsRow B 9 1 v ss.length (ss.map Value.string) ∧ ∀ s ∈ ss, s.size ≤ maxLen

theorem Row.nil (w : World) (B : Nat) : Row w B (.slice none 0 0) [] := ⟨World.ownsRow_nil w B _ 1, by simp⟩
theorem Row.made (w : World) {B : Nat} (hB : B ≤ w.heap.size) : Row (w.alloc (.cells #[] 9)) B (.slice (some ⟨w.heap.size, 0, none⟩) 0 0) [] :=
  ⟨World.ownsRow_made w #[] 0 hB (by decide) rfl, by simp⟩
theorem Row.made' {w : World} {B n : Nat} (hn : n = w.heap.size) (hB : B ≤ w.heap.size) : Row (w.alloc (.cells #[] 9)) B (.slice (some ⟨n, 0, none⟩) 0 0) [] := by subst hn; exact Row.made w hB
theorem Row.form {w : World} {B : Nat} {v : Value} {ss : List ByteArray} (h : Row w B v ss) : ∃ a cap, v = .slice a ss.length cap ∧ ss.length ≤ big ∧ ss.length ≤ cap := by
  rcases h.1.2 with ⟨rfl, h0⟩ | ⟨g, cap, cur, rfl, hb, hg, hc, hm, _⟩
  · exact ⟨none, 0, by rw [h0], by omega, by omega⟩
  · exact ⟨_, cap, rfl, Nat.le_trans hc hm, hc⟩
theorem Row.lt {w : World} {B : Nat} {v : Value} {ss : List ByteArray} (h : Row w B v ss) : ∀ k, v.ownBlock = some k → B ≤ k ∧ k < w.heap.size := h.1.lt
theorem Row.rd {w : World} {B : Nat} {v : Value} {ss : List ByteArray} (h : Row w B v ss) : D.rd (fun _ => True) w v (slOf strE ss) := by
  obtain ⟨⟨h0, h1⟩, hs⟩ := h
  rcases h1 with ⟨rfl, h2⟩ | ⟨g, cap, cur, rfl, hb, hg, hc, hm, hsz, htk⟩
  · have : ss = [] := List.length_eq_zero_iff.1 h2
    subst this
    rw [slOf, D.rd]
    exact ⟨none, 0, rfl, Nat.zero_le _, Nat.zero_le _, fun h => absurd rfl h, fun h => absurd rfl h⟩
  · refine slOf_strs (ss := ss) trivial (lt_of_heap hg) (Nat.le_trans hc hm) (fun i hi => ?_) hc
    refine ⟨?_, hs _ (List.getElem_mem hi)⟩
    rw [World.cell?, hg]
    have : (cur.toList.take (ss.length * 1))[i]? = some (Value.string ss[i]) := by rw [htk]; simp [hi]
    rw [List.getElem?_take] at this
    split at this
    · simpa using this
    · exact absurd this (by simp)
theorem Row.kept {w w' : World} {B : Nat} {v : Value} {ss : List ByteArray} {row : Option Nat} (h : Row w B v ss) (hg : w.grownBy w' row) (hne : v.ownBlock = none ∨ v.ownBlock ≠ row) : Row w' B v ss := ⟨h.1.kept hg hne, h.2⟩
theorem grown_of_below {w w' : World} (h : Below w.heap.size w w') (row : Option Nat) : w.grownBy w' row := ⟨h.os, h.tape, h.output, h.size, fun k hk _ => h.block k hk⟩
theorem Row.keep {w w' : World} {B : Nat} {v : Value} {ss : List ByteArray} (h : Row w B v ss) (hb : Below w.heap.size w w') : Row w' B v ss :=
  h.kept (grown_of_below hb none) (by cases v.ownBlock <;> simp)
theorem Row.drew {w : World} {B : Nat} {v : Value} {ss : List ByteArray} (h : Row w B v ss) : Row w.drew B v ss := h.keep (Below.refl _ _).drew
theorem Row.mono {w : World} {B B' : Nat} {v : Value} {ss : List ByteArray} (h : Row w B v ss) (hB : B' ≤ B) : Row w B' v ss := by
  refine ⟨⟨h.1.1, ?_⟩, h.2⟩
  rcases h.1.2 with h1 | ⟨g, cap, cur, h1, hb, hr⟩
  · exact .inl h1
  · exact .inr ⟨g, cap, cur, h1, Nat.le_trans hB hb, hr⟩
theorem Row.cells {w : World} {B : Nat} {v : Value} {ss : List ByteArray} (h : Row w B v ss) {g n cap : Nat} (hv : v = .slice (some ⟨g, 0, none⟩) n cap) : ∀ (j : Nat) x, ss[j]? = some x → w.cell? ⟨g, 0 + j, none⟩ = some (.string x) := by
  intro j x hj
  have := h.1.cells (g := g) (by rw [hv]; rfl) j (.string x) (by simp [hj])
  rw [Nat.zero_add]
  unfold Addr.add at this
  split at this
  · rename_i h0; subst h0; exact this
  · simpa using this

/-- a list of strings that is not nil -/
def Lst (w : World) (v : Value) (ss : List ByteArray) : Prop := ∃ b off cap, v = .slice (some ⟨b, off, none⟩) ss.length cap ∧ b < w.heap.size ∧ ss.length ≤ cap ∧ cap ≤ maxLen ∧ ∀ i (h : i < ss.length), w.cell? ⟨b, off + i, none⟩ = some (.string ss[i]) ∧ ss[i].size ≤ maxLen
theorem Lst.keep {w w' : World} {v : Value} {ss : List ByteArray} (h : Lst w v ss) (hb : Below w.heap.size w w') : Lst w' v ss := by
  obtain ⟨b, off, cap, e, h0, h1, h2, h3⟩ := h
  exact ⟨b, off, cap, e, Nat.lt_of_lt_of_le h0 hb.size, h1, h2, fun i hi => ⟨(hb.cell (p := ⟨b, off + i, none⟩) h0).trans (h3 i hi).1, (h3 i hi).2⟩⟩
theorem Lst.rd {w : World} {v : Value} {ss : List ByteArray} (h : Lst w v ss) : D.rd (fun _ => True) w v (slOf strE ss) := by
  obtain ⟨b, off, cap, rfl, h0, h1, h2, h3⟩ := h
  rw [slOf, D.rd]
  refine ⟨_, _, rfl, Nat.le_trans h1 h2, h1, fun hn => flat_ne strE_wide (by decide) (by intro e; subst e; simp at hn), fun hne => ⟨b, off, rfl, trivial, h0, (D.rds_iff _ _).2 fun i hi => ?_⟩⟩
  have hil : i < ss.length := by rw [flat_length strE_wide] at hi; omega
  obtain ⟨q0, q1⟩ := h3 i hil
  have hg := flat_get strE_wide ss i 0 hil (by decide)
  rw [Nat.mul_one, Nat.add_zero, List.getElem?_eq_getElem hi] at hg
  have : (ss.flatMap strE)[i] = .str ss[i] := by simpa [strE] using hg
  rw [this]
  exact ⟨_, q0, D.rd_str q1⟩
theorem Row.lst {w : World} {B : Nat} {v : Value} {ss : List ByteArray} (h : Row w B v ss) (hne : v ≠ .slice none 0 0) : Lst w v ss := by
  have hc := fun g n cap (hv : v = .slice (some ⟨g, 0, none⟩) n cap) => h.cells hv
  rcases h.1.2 with ⟨h0, _⟩ | ⟨g, cap, cur, rfl, hb, hg, hcc, hm, _⟩
  · exact absurd h0 hne
  · exact ⟨g, 0, cap, rfl, lt_of_heap hg, hcc, hm, fun i hi => ⟨hc g _ cap rfl i _ (List.getElem?_eq_getElem hi), h.2 _ (List.getElem_mem hi)⟩⟩
theorem Lst.made (w : World) : Lst (w.alloc (.cells #[] 9)) (.slice (some ⟨w.heap.size, 0, none⟩) 0 0) [] := ⟨_, _, _, rfl, by simp, Nat.le_refl _, by decide, fun i h => absurd h (by simp)⟩

theorem grown_refl (w : World) (row : Option Nat) : w.grownBy w row := ⟨rfl, rfl, rfl, Nat.le_refl _, fun _ _ _ => rfl⟩
theorem grown_trans {a b c : World} {row row' : Option Nat} (h : a.grownBy b row) (k : b.grownBy c row') (hr : ∀ x, row' = some x → row = some x ∨ a.heap.size ≤ x) : a.grownBy c row := by
  refine ⟨k.os.trans h.os, k.tape.trans h.tape, k.output.trans h.output, Nat.le_trans h.size k.size, fun x hx hne => ?_⟩
  rw [k.block x (Nat.lt_of_lt_of_le hx h.size) (fun e => ?_), h.block x hx hne]
  rcases hr x e.symm with q | q
  · exact hne q.symm
  · omega
/-- a value goes on as another one: in its own block, or in a new one -/
def Goes (w : World) (v v' : Value) : Prop := ∀ x, v'.ownBlock = some x → v.ownBlock = some x ∨ w.heap.size ≤ x
theorem Goes.refl (w : World) (v : Value) : Goes w v v := fun _ h => .inl h
theorem Goes.trans {w w1 : World} {v v1 v2 : Value} (h : Goes w v v1) (hz : w.heap.size ≤ w1.heap.size) (k : Goes w1 v1 v2) : Goes w v v2 := fun x hx => by
  rcases k x hx with q | q
  · exact h x q
  · exact .inr (Nat.le_trans hz q)

/-- append(list, y), y lying in a row of its own -/
theorem run_append_str {w : World} {B : Nat} {v : Value} {ss : List ByteArray} (hrow : Row w B v ss) {b : Nat} {y : ByteArray} (ty : TypeId) (hy : y.size ≤ maxLen) (hcell : w.cell? ⟨b, 0, none⟩ = some (.string y)) (hl : ss.length ≤ 4294967296) (hB : B ≤ w.heap.size) :
    ∃ g cap w', (Builtin.append_ #[119, 119] ty #[v, .slice (some ⟨b, 0, none⟩) 1 1]).run Tryz.prog w = .ok (.slice (some ⟨g, 0, none⟩) (ss.length + 1) cap) w' ∧
      Row w' B (.slice (some ⟨g, 0, none⟩) (ss.length + 1) cap) (ss ++ [y]) ∧ w.grownBy w' v.ownBlock ∧ Goes w v (.slice (some ⟨g, 0, none⟩) (ss.length + 1) cap) ∧ g < w'.heap.size := by
  obtain ⟨i0, hi, hz0, hz1, hz2⟩ := info_parts infoStr
  obtain ⟨g, cap, w', h1, h2, h3, h4, h5⟩ := run_append_lies (P := Tryz.prog) w 119 ty B 9 i0 _ 1 16 Tryz.underlying119 hi hz0 hz1 hz2 rfl (by decide) v ss.length _ hrow.1 ⟨b, 0, none⟩ 1 1 [.string y] rfl
    (fun j u hj => by
      cases j with
      | zero => simp at hj; subst hj; exact hcell
      | succ j => simp at hj) (by simp [Value.oneCell']) (by decide) (by unfold maxLen; omega) (by omega) hB _ rfl
  refine ⟨g, cap, w', h1, ⟨by simpa using h2, fun s hs => ?_⟩, h3, fun x hx => ?_, h5⟩
  · rcases List.mem_append.1 hs with q | q
    · exact hrow.2 s q
    · simp at q; subst q; exact hy
  · simp [Value.ownBlock] at hx
    subst hx
    rcases h4 with q | q
    · exact .inl q
    · exact .inr (by omega)

/-- append(list, ys...), ys lying in a row -/
theorem run_append_strs {w : World} {B : Nat} {v : Value} {ss ys : List ByteArray} (hrow : Row w B v ss) {b off m c : Nat} (ty : TypeId) (hm : m = ys.length) (hcell : ∀ j (hj : j < ys.length), w.cell? ⟨b, off + j, none⟩ = some (.string ys[j])) (hy : ∀ y ∈ ys, y.size ≤ maxLen) (hl : ss.length + ys.length ≤ 4294967296) (hB : B ≤ w.heap.size) :
    ∃ v' w', (Builtin.append_ #[119, 119] ty #[v, .slice (some ⟨b, off, none⟩) m c]).run Tryz.prog w = .ok v' w' ∧ Row w' B v' (ss ++ ys) ∧ w.grownBy w' v.ownBlock ∧ Goes w v v' ∧ (v ≠ .slice none 0 0 → v' ≠ .slice none 0 0) := by
  obtain ⟨i0, hi, hz0, hz1, hz2⟩ := info_parts infoStr
  subst hm
  obtain ⟨v', w', h1, h2, h3, h4, h5⟩ := run_append_own_at (P := Tryz.prog) w B 119 ty 9 i0 _ 1 16 Tryz.underlying119 hi hz0 hz1 hz2 rfl (by decide) v ss.length _ hrow.1 ⟨b, off, none⟩ ys.length c (ys.map Value.string) (by simp)
    (fun j u hj => by
      rw [List.getElem?_map] at hj
      cases hyj : ys[j]? with
      | none => rw [hyj] at hj; cases hj
      | some y =>
        rw [hyj] at hj
        obtain ⟨hjl, e⟩ := List.getElem?_eq_some_iff.1 hyj
        have := hcell j hjl
        rw [e] at this
        have hu : u = .string y := by simpa using hj.symm
        rw [hu, ← this]
        unfold Addr.add
        split
        · rename_i h0; subst h0; rfl
        · rfl) (fun u hu => by
      obtain ⟨y, _, rfl⟩ := List.mem_map.1 hu
      simp [Value.oneCell']) (by unfold maxLen; omega) (by omega) hB
  refine ⟨v', w', h1, ⟨by simpa using h2, fun s hs => ?_⟩, h3, fun x hx => ?_, fun hne hn => hne (h4.1 hn).1⟩
  · rcases List.mem_append.1 hs with q | q
    · exact hrow.2 s q
    · exact hy s q
  · rcases h5 with q | q
    · exact .inl (by rw [← q]; exact hx)
    · rw [q] at hx; injection hx with hx; exact .inr (by omega)
/-- .. at a step of a region that draws its order -/
theorem step_append_strs {ops : Array Oper} {o : Oper} {a : Act} {w : World} {K : Act → World → Prop} {Q : Exit → Act → World → Prop} {E : Prop} (hgd : o.guard = none) (s x : Operand)
    (ho : o.op = .call { callee := .builtin .append, args := #[s, x], argTypes := #[119, 119] }) {B : Nat} {v : Value} {ss ys : List ByteArray} {b off m c : Nat}
    (hs : a.eval s = v) (hx : a.eval x = .slice (some ⟨b, off, none⟩) m c) (hrow : Row w B v ss) (hm : m = ys.length) (hcell : ∀ j (hj : j < ys.length), w.cell? ⟨b, off + j, none⟩ = some (.string ys[j])) (hy : ∀ y ∈ ys, y.size ≤ maxLen) (hl : ss.length + ys.length ≤ 4294967296) (hB : B ≤ w.heap.size)
    (h : ∀ v' w', Row w' B v' (ss ++ ys) → w.grownBy w' v.ownBlock → Goes w v v' → (v ≠ .slice none 0 0 → v' ≠ .slice none 0 0) → K (a.put o.dst v') w') :
    if Region.wanted o (yielded ops a.tmps) = true then Oper.wp Tryz.prog o a w K Q else E := by
  have hw : Region.wanted o (yielded ops a.tmps) = true := by simp [Region.wanted, hgd]
  rw [if_pos hw]
  obtain ⟨v', w', hr, h2, h3, h4, h5⟩ := run_append_strs (c := c) hrow o.type hm hcell hy hl hB
  unfold Oper.wp execOp
  simp only [ho, resolve, invoke, builtin, Sem.run_bind, Sem.run_pure, Result.andThen_ok, List.map_toArray, List.map_cons, List.map_nil, hs, hx, hr]
  exact h v' w' h2 h3 h4 h5
/-- .. at the list of a plain region's operations -/
theorem wpList_append_str {ops : Array Oper} {rest : List Oper} {o : Oper} {a : Act} {w : World} {Q : Exit → Act → World → Prop} (hgd : o.guard = none) (s x : Operand)
    (ho : o.op = .call { callee := .builtin .append, args := #[s, x], argTypes := #[119, 119] }) {B : Nat} {v : Value} {ss : List ByteArray} {b : Nat} {y : ByteArray}
    (hs : a.eval s = v) (hx : a.eval x = .slice (some ⟨b, 0, none⟩) 1 1) (hrow : Row w B v ss) (hy : y.size ≤ maxLen) (hcell : w.cell? ⟨b, 0, none⟩ = some (.string y)) (hl : ss.length ≤ 4294967296) (hB : B ≤ w.heap.size)
    (h : ∀ g cap w', Row w' B (.slice (some ⟨g, 0, none⟩) (ss.length + 1) cap) (ss ++ [y]) → w.grownBy w' v.ownBlock → Goes w v (.slice (some ⟨g, 0, none⟩) (ss.length + 1) cap) → g < w'.heap.size → wpList Tryz.prog ops Q rest (a.put o.dst (.slice (some ⟨g, 0, none⟩) (ss.length + 1) cap)) w') : wpList Tryz.prog ops Q (o :: rest) a w := by
  obtain ⟨g, cap, w', hr, h2, h3, h4, h5⟩ := run_append_str hrow o.type hy hcell hl hB
  refine wpList_plain hgd fun _ hK => ?_
  unfold Oper.wp execOp
  simp only [ho, resolve, invoke, builtin, Sem.run_bind, Sem.run_pure, Result.andThen_ok, List.map_toArray, List.map_cons, List.map_nil, hs, hx, hr]
  exact hK _ _ (h g cap w' h2 h3 h4 h5)
/-- .. at a step of a region that draws its order -/
theorem step_append_str {ops : Array Oper} {o : Oper} {a : Act} {w : World} {K : Act → World → Prop} {Q : Exit → Act → World → Prop} {E : Prop} (hgd : o.guard = none) (s x : Operand)
    (ho : o.op = .call { callee := .builtin .append, args := #[s, x], argTypes := #[119, 119] }) {B : Nat} {v : Value} {ss : List ByteArray} {b : Nat} {y : ByteArray}
    (hs : a.eval s = v) (hx : a.eval x = .slice (some ⟨b, 0, none⟩) 1 1) (hrow : Row w B v ss) (hy : y.size ≤ maxLen) (hcell : w.cell? ⟨b, 0, none⟩ = some (.string y)) (hl : ss.length ≤ 4294967296) (hB : B ≤ w.heap.size)
    (h : ∀ g cap w', Row w' B (.slice (some ⟨g, 0, none⟩) (ss.length + 1) cap) (ss ++ [y]) → w.grownBy w' v.ownBlock → Goes w v (.slice (some ⟨g, 0, none⟩) (ss.length + 1) cap) → g < w'.heap.size → K (a.put o.dst (.slice (some ⟨g, 0, none⟩) (ss.length + 1) cap)) w') :
    if Region.wanted o (yielded ops a.tmps) = true then Oper.wp Tryz.prog o a w K Q else E := by
  have hw : Region.wanted o (yielded ops a.tmps) = true := by simp [Region.wanted, hgd]
  rw [if_pos hw]
  obtain ⟨g, cap, w', hr, h2, h3, h4, h5⟩ := run_append_str hrow o.type hy hcell hl hB
  unfold Oper.wp execOp
  simp only [ho, resolve, invoke, builtin, Sem.run_bind, Sem.run_pure, Result.andThen_ok, List.map_toArray, List.map_cons, List.map_nil, hs, hx, hr]
  exact h g cap w' h2 h3 h4 h5
/-- .. told from a world that the region began in -/
theorem step_apps {ops : Array Oper} {o : Oper} {a : Act} {w W : World} {K : Act → World → Prop} {Q : Exit → Act → World → Prop} {E : Prop} (hgd : o.guard = none) (s x : Operand)
    (ho : o.op = .call { callee := .builtin .append, args := #[s, x], argTypes := #[119, 119] }) {B : Nat} (hBW : Below B W w) (hB : B ≤ w.heap.size) {v : Value} {ss ys : List ByteArray} {b off m c : Nat}
    (hs : a.eval s = v) (hx : a.eval x = .slice (some ⟨b, off, none⟩) m c) (hrow : Row w B v ss) (hm : m = ys.length) (hb : ys.length ≠ 0 → b < B) (hcell : ∀ j (hj : j < ys.length), W.cell? ⟨b, off + j, none⟩ = some (.string ys[j])) (hy : ∀ y ∈ ys, y.size ≤ maxLen) (hl : ss.length + ys.length ≤ 4294967296)
    (h : ∀ v' w', Row w' B v' (ss ++ ys) → Below B W w' → B ≤ w'.heap.size → (v ≠ .slice none 0 0 → v' ≠ .slice none 0 0) → w.grownBy w' v.ownBlock → K (a.put o.dst v') w') :
    if Region.wanted o (yielded ops a.tmps) = true then Oper.wp Tryz.prog o a w K Q else E := by
  refine step_append_strs hgd s x ho hs hx hrow hm (fun j hj => (hBW.cell (p := ⟨b, off + j, none⟩) (hb (by omega))).trans (hcell j hj)) hy hl hB fun v' w' h1 h2 h3 h4 => ?_
  have q := Below.grown hBW h2 hB (fun k hk => (hrow.lt k hk).1)
  exact h v' w' h1 q (Nat.le_trans hB h2.size) h4 h2
theorem step_app {ops : Array Oper} {o : Oper} {a : Act} {w W : World} {K : Act → World → Prop} {Q : Exit → Act → World → Prop} {E : Prop} (hgd : o.guard = none) (s x : Operand)
    (ho : o.op = .call { callee := .builtin .append, args := #[s, x], argTypes := #[119, 119] }) {B : Nat} (hBW : Below B W w) (hB : B ≤ w.heap.size) {v : Value} {ss : List ByteArray} {b : Nat} {y : ByteArray}
    (hs : a.eval s = v) (hx : a.eval x = .slice (some ⟨b, 0, none⟩) 1 1) (hrow : Row w B v ss) (hy : y.size ≤ maxLen) (hcell : w.cell? ⟨b, 0, none⟩ = some (.string y)) (hl : ss.length ≤ 4294967296)
    (h : ∀ g cap w', Row w' B (.slice (some ⟨g, 0, none⟩) (ss.length + 1) cap) (ss ++ [y]) → Below B W w' → B ≤ w'.heap.size → g < w'.heap.size → w.grownBy w' v.ownBlock → K (a.put o.dst (.slice (some ⟨g, 0, none⟩) (ss.length + 1) cap)) w') :
    if Region.wanted o (yielded ops a.tmps) = true then Oper.wp Tryz.prog o a w K Q else E := by
  refine step_append_str hgd s x ho hs hx hrow hy hcell hl hB fun g cap w' h1 h2 h3 h4 => ?_
  have q := Below.grown hBW h2 hB (fun k hk => (hrow.lt k hk).1)
  exact h g cap w' h1 q (Nat.le_trans hB h2.size) h4 h2
end Go.Proofs.YtglhbaigigdeeaaGreat
/- The implementation's copies of terms. NOT BUILT YET. -/
namespace Go.Proofs.YtglhbaigigdeeaaGreat
set_option maxRecDepth 100000
open Go.RowKit

def CopyT (t : Tm) : Prop := ∀ (S : Nat → Prop) (c0 c1 : Value) (w : World), Tm.at S w c0 c1 t → t.bulk ≤ 1048576 → Calls Tryz.prog 78 #[.agg #[c0, c1]] w (MadeT t w)
def CopyS (ts : List Tm) : Prop := ∀ (S : Nat → Prop) (v : Value) (w : World), D.rd S w v (Tm.sd ts) → ts.length + Tm.bulks ts ≤ 1048576 → Calls Tryz.prog 106 #[v] w (MadeS ts w)

set_option maxHeartbeats 400000 in
theorem copyTermS_of (ts : List Tm) (h : ∀ t ∈ ts, CopyT t) : CopyS ts := by
  intro S v w hr hbk
  obtain ⟨a, cap, rfl, hlen, hcap⟩ := Tm.sd_form hr
  have hmk := run_mk (P := Tryz.prog) Tryz.underlying54 infoTerm ts.length (by omega) hlen
  unfold big at hlen
  by_cases h0 : ts.length = 0
  · have h0' : ((ts.length : Int) == 0) = true := by simp [h0]
    have H0 := hid h0
    clear h0 hmk
    go_enter Tryz.func106, Tryz.ntmps106
    go_wp2_with fail
    go_ret
    obtain rfl : ts = [] := List.length_eq_zero_iff.1 H0.out
    exact ⟨_, [], rfl, by rw [Tm.sd, D.own]; exact ⟨none, 0, rfl, by simp, by simp, by simp, .inl ⟨by simp [Tm.css], rfl⟩⟩, by simp, Below.refl _ _⟩
  have h0' : ((ts.length : Int) == 0) = false := by simpa using h0
  clear h0
  go_enter Tryz.func106, Tryz.ntmps106
  go_wp2_with fail
  go_loopw [14] (fun i wr => ∃ (k : Nat) (F : List Nat), k ≤ ts.length ∧ i = .int .i64 k ∧ Filled wr w.heap.size 56 (ts.length * 2) (Tm.css (ts.take k)) F ∧ (∀ x ∈ F, w.heap.size < x) ∧ Below w.heap.size w wr) (fun i _ => ts.length - (intOf i).toNat)
  case atStart =>
    refine ⟨0, [], Nat.zero_le _, rfl, ?_, by simp, (Below.refl _ _).alloc (Nat.le_refl _) _⟩
    have := Filled.made w (madeCells #[Value.string ByteArray.empty, Value.slice none 0 0] (ts.length * 2)) 56
    rw [size_madeCells] at this
    simpa [Tm.css] using this
  case round =>
    obtain ⟨k, F, hk, rfl, hfl, hF, hb⟩ := hrel
    by_cases hlt : k < ts.length
    · have hne : ts ≠ [] := by intro e; subst e; simp at hlt
      obtain ⟨b, off, rfl, hS, hbl, hrr⟩ := Tm.sd_get hr hne
      obtain ⟨c0, c1, q0, q1, q2⟩ := hrr k hlt
      have q0' := (hb.cell (p := ⟨b, off + k * 2, none⟩) hbl).trans q0
      have q1' := (hb.cell (p := ⟨b, off + k * 2 + 1, none⟩) hbl).trans q1
      have q2' := Tm.at_keep (Keeps.all hb) q2
      have hmem := h ts[k] (List.getElem_mem hlt)
      have hbk' := Tm.bulk_mem (List.getElem_mem hlt)
      clear q0 q1 q2 hr hrr
      obtain ⟨rfl, -, x, xc, rfl⟩ := Tm.at_form q2'
      have hbx : Below wr.heap.size wr (wr.alloc (.cells #[.string ts[k].name, .slice x ts[k].args.length xc] 56)) := (Below.refl _ _).alloc (Nat.le_refl _) _
      have hq0 := cell_alloc q0'
      go_wp2_with fail
      refine (hmem _ _ _ _ (Tm.at_keep (Keeps.all hbx) q2') (by omega)).mono ?_
      rintro e w1 ⟨v, G, rfl, ho, hG, hb2⟩
      have hb1 : Below wr.heap.size wr w1 := hbx.trans (hb2.mono hbx.size)
      replace hG : ∀ x ∈ G, wr.heap.size ≤ x := fun x hx => Nat.le_trans hbx.size (hG x hx)
      clear hb2 hbx
      obtain ⟨a', cap', rfl⟩ := Tm.sd_own_form ho
      have hfl1 := hfl.keep (Keeps.all hb1)
      obtain ⟨x0, hx0⟩ := hfl1.cell (p := k * 2) (by omega)
      obtain ⟨x1, hx1⟩ := hfl1.cell (p := k * 2 + 1) (by omega)
      have hf0 := hfl1.free (k * 2)
      have hf1 := hfl1.free (k * 2 + 1)
      go_wp2_with fail
      go_roundw
      case rel =>
        have hB := hb.size
        have hBl := hfl.lt
        have hG' : w.heap.size ∉ G := fun q => by have := hG _ q; omega
        refine ⟨k + 1, F ++ G, by omega, by go_num, ?_, fun x hx => ?_, ((hb.trans (hb1.mono hB)).setCell (Nat.le_refl _) _).setCell (Nat.le_refl _) _⟩
        · rw [Tm.css_take_succ ts k hlt]
          have hl : (Tm.css (ts.take k)).length = k * 2 := by rw [Tm.css_length, List.length_take, Nat.min_eq_left hk]
          have hsz : ts[k].name.size ≤ maxLen := (Tm.at_form q2').2.1
          have hd : ∀ x ∈ F, x ∉ G := fun x hx hx' => by have := hG x hx'; have := hfl.ltF x hx; omega
          have s1 := hfl1.set (v := .string ts[k].name) (G := []) hl.symm (by omega) (D.own_str hsz) (by simp) (by simp)
          have s2 := s1.set (p := k * 2 + 1) (v := .slice a' ts[k].args.length cap') (G := G) (d := Tm.sd ts[k].args) (by simp [hl]) (by omega) (D.own_keep _ _ _ ((Keeps.refl _ _).setCell (fun q _ => hG' q) _) ho) hG' (by simpa using hd)
          simpa using s2
        · rcases List.mem_append.1 hx with hx | hx
          · exact hF x hx
          · have := hG x hx; omega
      case measure => simp [intOf]; omega
    · obtain rfl : k = ts.length := by omega
      go_wp2_with fail
      go_ret
      rw [List.take_length] at hfl
      by_cases hne : ts = []
      · subst hne
        exact ⟨_, [], rfl, D.own_nil _ _, by simp, hb⟩
      · exact ⟨_, _ :: F, rfl, hfl.own (Tm.css_ne hne) (by unfold big; omega) (Nat.le_refl _), fun x hx => by rcases List.mem_cons.1 hx with rfl | hx; exact Nat.le_refl _; exact Nat.le_of_lt (hF x hx), hb⟩


set_option maxHeartbeats 1000000 in
theorem copyTerm_of (n : ByteArray) (ts : List Tm) (h : CopyS ts) : CopyT (.node n ts) := by
  intro S c0 c1 w hr hbk
  obtain ⟨rfl, hn, a, cap, rfl⟩ := Tm.at_form hr
  have hs := hr.2
  rw [Tm.bulk] at hbk
  simp only [Tm.name, Tm.args] at hn hs ⊢
  clear hr
  have hW : Below w.heap.size w ((w.alloc (.cells #[.string n, .slice a ts.length cap] 56)).alloc (.cells #[.string ByteArray.empty, .slice none 0 0] 56)) := ((Below.refl _ _).alloc (Nat.le_refl _) _).alloc (by simp) _
  have z0 : ((w.alloc (.cells #[.string n, .slice a ts.length cap] 56)).alloc (.cells #[.string ByteArray.empty, .slice none 0 0] 56)).cell? ⟨w.heap.size, 0, none⟩ = some (.string n) := cell_alloc (box1 _ _ _ 0) _
  have z1 : ((w.alloc (.cells #[.string n, .slice a ts.length cap] 56)).alloc (.cells #[.string ByteArray.empty, .slice none 0 0] 56)).cell? ⟨w.heap.size, 1, none⟩ = some (.slice a ts.length cap) := cell_alloc (box1 _ _ _ 1) _
  have zs : w.heap.size + 1 = (w.alloc (.cells #[.string n, .slice a ts.length cap] 56)).heap.size := by simp
  have z2 : ((w.alloc (.cells #[.string n, .slice a ts.length cap] 56)).alloc (.cells #[.string ByteArray.empty, .slice none 0 0] 56)).cell? ⟨w.heap.size + 1, 0, none⟩ = some (.string ByteArray.empty) := by rw [zs]; exact box1 _ _ _ 0
  have z3 : ((w.alloc (.cells #[.string n, .slice a ts.length cap] 56)).alloc (.cells #[.string ByteArray.empty, .slice none 0 0] 56)).cell? ⟨w.heap.size + 1, 1, none⟩ = some (.slice none 0 0) := by rw [zs]; exact box1 _ _ _ 1
  clear zs
  go_enter Tryz.func78, Tryz.ntmps78
  go_wp2_with fail
  go_region_held3 (fun w' => w'.cell? ⟨w.heap.size, 0, none⟩ = some (.string n) ∧ w'.cell? ⟨w.heap.size, 1, none⟩ = some (.slice a ts.length cap))
    (first | go_keep)
    (first | (go_at_call 106; go_must (refine (h S _ _ (D.rd_keep (by first | exact (((Keeps.refl _ _).alloc _).alloc _).drew | exact ((Keeps.refl _ _).alloc _).alloc _ | exact ((((Keeps.refl _ _).alloc _).alloc _).drew).drew) _ _ hs) (by omega)).mono ?_; rintro e w1 ⟨v, F, rfl, ho, hF, hb⟩; (obtain ⟨a', cap', rfl⟩ := Tm.sd_own_form ho); (have y0 : w1.cell? ⟨w.heap.size, 0, none⟩ = some (.string n) := (hb.cell (p := ⟨w.heap.size, 0, none⟩) (by simp; try omega)).trans z0); (have y1 : w1.cell? ⟨w.heap.size, 1, none⟩ = some (.slice a ts.length cap) := (hb.cell (p := ⟨w.heap.size, 1, none⟩) (by simp; try omega)).trans z1); (have y2 := (hb.cell (p := ⟨w.heap.size + 1, 0, none⟩) (by simp; try omega)).trans z2); (have y3 := (hb.cell (p := ⟨w.heap.size + 1, 1, none⟩) (by simp; try omega)).trans z3); (have y4 := hb.frozen (p := ⟨w.heap.size + 1, 0, none⟩) (by simp; try omega)); (have y5 := hb.frozen (p := ⟨w.heap.size + 1, 1, none⟩) (by simp; try omega)))))
  have hz := hb.size
  simp only [World.size_drew, World.size_alloc] at hF hz
  have g1 : w.heap.size + 1 < w1.heap.size := by omega
  go_wp2_with fail
  refine bodyPost_ret (v := .agg #[.string n, .slice a' ts.length cap']) (by simp [results, Tryz.results78, go_sem, y2, y3]) rfl ?_
  refine ⟨_, F, rfl, D.own_keep _ _ _ (((Keeps.refl _ _).set_lt hF (by simp) _).set_lt hF (by simp) _) ho, fun x hx => by have := hF x hx; omega, ?_⟩
  exact ((hW.drew.trans (hb.mono (by simp; omega))).setCell (by simp) _).setCell (by simp) _
theorem copyTerm_any (t : Tm) : CopyT t := Tm.ind (fun n ts h => copyTerm_of n ts (copyTermS_of ts h)) t
end Go.Proofs.YtglhbaigigdeeaaGreat
/- The reference's copies of terms. -/
namespace Go.Proofs.YtglhbaigigdeeaaGreat
set_option maxRecDepth 100000
open Go.RowKit

def OwnT (t : Tm) : Prop := ∀ (S : Nat → Prop) (c0 c1 : Value) (w : World), Tm.at S w c0 c1 t → t.bulk ≤ 1048576 → Calls Tryz.prog 49 #[.agg #[c0, c1]] w (MadeT t w)

theorem Tm.cs_eq (t : Tm) : t.cs = [.str t.name, Tm.sd t.args] := by cases t; simp [Tm.cs, Tm.name, Tm.args, Tm.sd]
theorem Tm.own_item {w : World} {t : Tm} {v : Value} {F : List Nat} (hn : t.name.size ≤ maxLen) (h : D.own w v (Tm.sd t.args) F) : OwnsL w [.string t.name, v] t.cs F := by
  have e : t.cs = [.str t.name, Tm.sd t.args] := by cases t; simp [Tm.cs, Tm.name, Tm.args, Tm.sd]
  rw [e]
  have := OwnsL.cons (F := []) (D.own_str hn) (OwnsL.cons h (OwnsL.nil w) (by simp)) (by simp)
  simpa using this

set_option maxHeartbeats 2000000 in
theorem ownT_of (n : ByteArray) (ts : List Tm) (h : ∀ t ∈ ts, OwnT t) : OwnT (.node n ts) := by
  intro S c0 c1 w hr hbk
  obtain ⟨rfl, hn, a, cap, rfl⟩ := Tm.at_form hr
  have hs := hr.2
  rw [Tm.bulk] at hbk
  simp only [Tm.name, Tm.args] at hn hs ⊢
  clear hr
  have hlen := (Tm.sd_form hs)
  obtain ⟨_, _, e, hlen, hcap⟩ := hlen
  unfold big at hlen
  clear e
  go_enter Tryz.func49, Tryz.ntmps49
  go_wp2_with fail
  go_loopw [4] (fun i wr => ∃ (k : Nat) (F : List Nat) (v : Value), k ≤ ts.length ∧ i = .int .i64 k ∧ Gr wr (w.heap.size + 1 + 1 + 1) 56 2 v k (Tm.css (ts.take k)) F ∧ wr.cell? ⟨w.heap.size + 1 + 1, 0, none⟩ = some (.string n) ∧ wr.cell? ⟨w.heap.size + 1 + 1, 1, none⟩ = some v ∧ (∀ p, wr.frozen? ⟨w.heap.size + 1 + 1, p, none⟩ = false) ∧ w.heap.size + 1 + 1 + 1 ≤ wr.heap.size ∧ Below (w.heap.size + 1 + 1) (((w.alloc (.cells #[.string n, .slice a ts.length cap] 56)).alloc (.cells #[.string ByteArray.empty, .slice none 0 0] 56)).alloc (.cells #[.string n, .slice none 0 0] 56)) wr) (fun i _ => ts.length - (intOf i).toNat)
  case atStart =>
    refine ⟨0, [], .slice none 0 0, Nat.zero_le _, rfl, by rw [List.take_zero, Tm.css]; exact Gr.nil _ _ _ _, (box3 w _ _ _ _ _ _ 0).2.2, (box3 w _ _ _ _ _ _ 1).2.2, fun p => frz1 _ _ _ _ _ (by simp), by simp, Below.refl _ _⟩
  case round =>
    obtain ⟨k, F, v, hk, rfl, HG, y0, y1, y2, hz, hb⟩ := hrel
    have hbw : Below w.heap.size w wr := (((((Below.refl _ _).alloc (Nat.le_refl _) _).alloc (by simp) _).alloc (by simp; omega) _).trans (hb.mono (by omega)))
    have x0 : wr.cell? ⟨w.heap.size, 0, none⟩ = some (.string n) := (hb.cell (p := ⟨w.heap.size, 0, none⟩) (by simp; omega)).trans (box3 w _ _ _ _ _ _ 0).1
    have x1 : wr.cell? ⟨w.heap.size, 1, none⟩ = some (.slice a ts.length cap) := (hb.cell (p := ⟨w.heap.size, 1, none⟩) (by simp; omega)).trans (box3 w _ _ _ _ _ _ 1).1
    by_cases hlt : k < ts.length
    · have HGl := HG.ltF
      have hne : ts ≠ [] := by intro e; subst e; simp at hlt
      obtain ⟨b, off, rfl, hS, hbl, hrr⟩ := Tm.sd_get hs hne
      obtain ⟨c0, c1, q0, q1, q2⟩ := hrr k hlt
      replace q0 := (hbw.cell (p := ⟨b, off + k * 2, none⟩) hbl).trans q0
      replace q1 := (hbw.cell (p := ⟨b, off + k * 2 + 1, none⟩) hbl).trans q1
      replace q2 := Tm.at_keep (Keeps.all hbw) q2
      have hmem := h ts[k] (List.getElem_mem hlt)
      have hbk' := Tm.bulk_mem (List.getElem_mem hlt)
      obtain ⟨rfl, -, x, xc, rfl⟩ := Tm.at_form q2
      clear hrr
      have hv := HG.lt
      have hlb := hb.size
      simp only [World.size_alloc] at hlb
      have hbw2 : Below wr.heap.size wr wr.drew := (Below.refl _ _).drew
      go_wp2_with fail
      have hbne : b ≠ w.heap.size + 1 + 1 := by omega
      go_region_law (first
          | (refine step_append_gr (news := [.string ts[k].name, .slice a1 ts[k].args.length cap1]) (G := G) Tryz.underlying54 infoTerm rfl (by decide) (by decide) rfl _ _ (by rfl) (by rfl) (by rfl) (HG1.keep ((Below.refl _ _).alloc (Nat.le_refl _) _)) rfl (by intro j u hj; rw [box1]; simpa using hj) (by simp [Value.oneCell']) ((Tm.own_item (Tm.at_form q2).2.1 ho).keep (Keeps.all ((Below.refl _ _).alloc (Nat.le_refl _) _))) (fun x hx => by have := hG x hx; omega) (fun x hx hx' => by have := hG x hx'; have := HGl x hx; omega) (fun x hx hx' => by have := hG x hx'; have := (hv x hx).2; omega) (by omega) (by simp; omega) ?_
             intro g capg wg hg hgr hgo hglt
             have gc := fun (b' : Nat) (h' : b' < w.heap.size + 1 + 1 + 1) => grown_cell hgr (b := b') (by simp; omega) (fun x hx => by have := (hv x hx).1; omega)
             have y0g := ((gc (w.heap.size + 1 + 1) (by omega)).1 0).trans (cell_alloc y0' _)
             have y1g := ((gc (w.heap.size + 1 + 1) (by omega)).1 1).trans (cell_alloc y1' _)
             have y2g := fun p => ((gc (w.heap.size + 1 + 1) (by omega)).2 p).trans ((World.frozen?_alloc_past (w := w1) (.cells #[.string ts[k].name, .slice a1 ts[k].args.length cap1] 56) _ p (by omega)).trans (y2' p))
             have y2h := y2g 1
             clear gc)
          | (refine step_does rfl ?_
             unfold Does
             go_simp
             go_at_call 49
             refine (hmem _ _ _ _ (Tm.at_keep (Keeps.all hbw2) q2) (by omega)).mono ?_
             rintro e w1 ⟨v1, G, rfl, ho, hG, hb1⟩
             obtain ⟨a1, cap1, rfl⟩ := Tm.sd_own_form ho
             have z := bcell hb1
             simp only [World.size_drew, World.cell?_drew, World.frozen?_drew] at z hG
             have hb2 : Below wr.heap.size wr w1 := hbw2.trans (hb1.mono (by simp))
             have hzb := hb2.size
             have HG1 := HG.keep hb2
             have y0' := (z.1 (w.heap.size + 1 + 1) 0 (by omega)).trans y0
             have y1' := (z.1 (w.heap.size + 1 + 1) 1 (by omega)).trans y1
             have y2' := fun p => (z.2 (w.heap.size + 1 + 1) p (by omega)).trans (y2 p)
             have y1b := fun o => cell_alloc y1' o
             clear z
             refine ⟨_, rfl, ?_⟩))
      all_goals
        have hz1 : wg.heap.size ≥ w1.heap.size := by have := hgr.size; simp at this; omega
        have hb5 : Below (w.heap.size + 1 + 1) wr wg := below_grown ((hb2.mono (by omega)).trans (((Below.refl _ _).alloc (by omega) _))) hgr (by simp; omega) (fun x hx => by have := (hv x hx).1; omega)
        go_wp2_with fail
        go_roundw
        case rel =>
          refine ⟨k + 1, F ++ G, .slice (some ⟨g, 0, none⟩) (k + 1) capg, by omega, by go_num, ?_, ?_, ?_, ?_, ?_, ?_⟩
          · rw [Tm.css_take_succ ts k hlt, ← Tm.cs_eq]
            exact hg.setCell (by show w.heap.size + 1 + 1 < _; omega) _
          · rw [World.cell?_setCell_other _ _ _ _ (by intro e; injection e with _ e; omega)]; exact y0g
          · exact World.cell?_setCell_same _ _ _ y1g
          · intro p; rw [World.frozen?_setCell]; exact y2g p
          · rw [World.size_setCell]; omega
          · exact (hb.trans hb5).setCell (Nat.le_refl _) _
        case measure => simp [intOf]; omega
    · obtain rfl : k = ts.length := by omega
      rw [List.take_length] at HG
      obtain ⟨Gf, hO, hGf⟩ := HG.own (by decide)
      obtain ⟨a2, cap2, rfl⟩ := Tm.sd_own_form hO
      have r0 : wr.cell? ⟨w.heap.size + 1, 0, none⟩ = some (.string ByteArray.empty) := (hb.cell (p := ⟨w.heap.size + 1, 0, none⟩) (by simp)).trans (box3 w _ _ _ _ _ _ 0).2.1
      have r1 : wr.cell? ⟨w.heap.size + 1, 1, none⟩ = some (.slice none 0 0) := (hb.cell (p := ⟨w.heap.size + 1, 1, none⟩) (by simp)).trans (box3 w _ _ _ _ _ _ 1).2.1
      have f1 : ∀ p, wr.frozen? ⟨w.heap.size + 1, p, none⟩ = false := fun p => (hb.frozen (p := ⟨w.heap.size + 1, p, none⟩) (by simp)).trans ((World.frozen?_alloc_past _ _ p (by simp)).trans (World.frozen?_alloc_at _ _ _ p (by simp)))
      have f10 := f1 0
      have f11 := f1 1
      have hlb := hb.size
      simp only [World.size_alloc] at hlb
      go_wp2_with fail
      refine bodyPost_ret (v := .agg #[.string n, .slice a2 ts.length cap2]) (by simp [results, Tryz.results49, go_sem, r0, r1]) rfl ?_
      refine ⟨_, Gf, rfl, D.own_keep _ _ _ (((Keeps.refl _ _).set_lt hGf (by simp) _).set_lt hGf (by simp) _) hO, fun x hx => by have := hGf x hx; omega, ?_⟩
      exact (hbw.setCell (by simp) _).setCell (by simp) _
theorem ownT_any (t : Tm) : OwnT t := Tm.ind (fun n ts h => ownT_of n ts h) t
end Go.Proofs.YtglhbaigigdeeaaGreat
