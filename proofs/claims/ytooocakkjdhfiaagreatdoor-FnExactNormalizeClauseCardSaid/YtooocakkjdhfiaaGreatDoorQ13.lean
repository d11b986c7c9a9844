/- Several texts in one file. -/
import Derived.Test.YtooocakkjdhfiaaGreatDoorQ09
import Derived.Test.YtooocakkjdhfiaaGreatDoorQ12
import Derived.Test.YtooocakkjdhfiaaGreatDoorQ04
import Derived.Test.YtooocakkjdhfiaaGreatDoorQ07
import Derived.Test.YtooocakkjdhfiaaGreatDoorQ05
import Derived.Test.YtooocakkjdhfiaaGreatDoorQ02
import Derived.Test.YtooocakkjdhfiaaGreatDoorQ03
import Derived.WalkKit
import Derived.Test.YtooocakkjdhfiaaGreatDoorQ11
/- The names in a clause, in the order of their first occurrence. -/
namespace Go.Proofs.YtooocakkjdhfiaaGreatDoor
set_option maxRecDepth 100000
open Go.RowKit

theorem colls_mem (m : ByteArray) : ∀ (ts : List Tm), (∀ t ∈ ts, t.leafy) → ∀ l, m ∈ Tm.colls ts l ↔ m ∈ l ∨ Tm.haveVar m ts
  | [], _, l => by simp [Tm.colls, Tm.haveVar]
  | t :: ts, h, l => by rw [Tm.colls, Tm.haveVar, colls_mem m ts (fun a ha => h a (by simp [ha])), coll_mem m t l (h t (by simp)), or_assoc]
theorem intos_mem (m : ByteArray) : ∀ (ts : List Tm) l, m ∈ Tm.intos ts l ↔ m ∈ l ∨ Tm.haveVar m ts
  | [], l => by simp [Tm.intos, Tm.haveVar]
  | t :: ts, l => by rw [Tm.intos, Tm.haveVar, intos_mem m ts, Tm.into_mem, or_assoc]
theorem colls_nodup : ∀ (ts : List Tm) (l : List ByteArray), l.Nodup → (Tm.colls ts l).Nodup
  | [], l, h => by simpa [Tm.colls] using h
  | t :: ts, l, h => by rw [Tm.colls]; exact colls_nodup ts _ (coll_nodup t l h)
theorem asc_intos : ∀ (ts : List Tm) (l : List ByteArray), Asc l → Asc (Tm.intos ts l)
  | [], l, h => by simpa [Tm.intos] using h
  | t :: ts, l, h => by rw [Tm.intos]; exact asc_intos ts _ (asc_into t l h)
theorem vars_sorteds {ts : List Tm} (h : ∀ t ∈ ts, t.leafy) : ((Tm.colls ts []).map tl).mergeSort (fun x y => decide (x ≤ y)) = (Tm.intos ts []).map tl :=
  sort_eq (colls_nodup ts [] (by simp)) (asc_intos ts [] List.Pairwise.nil) fun m => by rw [colls_mem m ts h [], intos_mem]

def Cl.atoms (c : Cl) : List Tm := c.ls.map (·.atom)
theorem Cl.atoms_length (c : Cl) : c.atoms.length = c.ls.length := by simp [Cl.atoms]
theorem Cl.atoms_get (c : Cl) (k : Nat) (h : k < c.ls.length) (h' : k < c.atoms.length) : c.atoms[k] = c.ls[k].atom := by simp [Cl.atoms]
theorem Cl.atoms_sizes (c : Cl) : Tm.sizes c.atoms ≤ c.bulk := by
  have : ∀ ls : List Lit, Tm.sizes (ls.map (·.atom)) ≤ ls.length + Lit.bulks ls := by
    intro ls
    induction ls with
    | nil => simp [Tm.sizes]
    | cons l ls ih =>
      have := Tm.size_bulk l.atom
      simp only [List.map_cons, Tm.sizes, List.length_cons, Lit.bulks, Lit.bulk]; omega
  exact this c.ls
theorem Cl.atoms_ok {c : Cl} (h : c.valid = true) : ∀ t ∈ c.atoms, t.atom = true := by
  intro t ht
  obtain ⟨l, hl, rfl⟩ := List.mem_map.1 ht
  obtain ⟨k, hk, rfl⟩ := List.mem_iff_getElem.1 hl
  rw [Cl.valid, Bool.and_eq_true, Lit.allOk, List.all_eq_true] at h
  exact Lit.okAt_valid hk (h.1 k (List.mem_range.2 hk))
theorem Tm.atom_nice {t : Tm} (h : t.atom = true) : t.nice = true := by
  refine Tm.expr_nice ?_
  rw [Tm.expr_eq, Bool.or_eq_true, Bool.and_eq_true]
  by_cases he : t.isEq = true
  · exact .inr ⟨he, h⟩
  · left
    rw [Tm.atom_eq, if_neg (by simpa [Tm.isEq] using he), Bool.and_eq_true] at h
    exact h.2

set_option maxHeartbeats 2000000 in
theorem namesIn_any (t : Cl) {S : Nat → Prop} {c0 : Value} {w : World} (hT : Cl.at S w c0 t) (hbk : t.bulk ≤ 1048576) (hni : ∀ a ∈ t.atoms, a.nice = true) :
    Calls Tryz.prog 36 #[.agg #[c0]] w fun e w' => ∃ g cap, e = .returned (.slice (some ⟨g, 0, none⟩) (Tm.colls t.atoms []).length cap) ∧ GS w' w.heap.size (.slice (some ⟨g, 0, none⟩) (Tm.colls t.atoms []).length cap) (Tm.colls t.atoms []) ∧ Below w.heap.size w w' := by
  have hal := t.atoms_length
  have has := t.atoms_sizes
  have hlen : t.ls.length ≤ 1048576 := by rw [Cl.bulk] at hbk; omega
  have HT := hid (D.rd_lt _ _ hT)
  obtain ⟨a, cap, rfl⟩ := Cl.at_form hT
  have hW : Below w.heap.size w (w.alloc (.cells #[.slice a t.ls.length cap] 28)) := (Below.refl _ _).alloc (Nat.le_refl _) _
  have bT : Box (w.alloc (.cells #[.slice a t.ls.length cap] 28)) w.heap.size [.slice a t.ls.length cap] := Box.new w _ _
  have x0 := bT.c0
  go_enter Tryz.func36, Tryz.ntmps36
  go_wp2_with fail
  clear x0
  go_loopw [3, 10] (fun x i wr => ∃ k : Nat, k ≤ t.ls.length ∧ i = .int .i64 k ∧ Hid (GS wr w.heap.size x (Tm.colls (t.atoms.take k) [])) ∧ Hid (x ≠ .slice none 0 0) ∧ Below w.heap.size w wr) (fun _ i _ => t.ls.length - (intOf i).toNat)
  case atStart => exact ⟨0, Nat.zero_le _, rfl, by rw [List.take_zero, Tm.colls]; exact GS.made (by simp) (by simp), hid (by intro e; cases e), hW.alloc (by simp) _⟩
  case round =>
    obtain ⟨k, hk, rfl, HG, HN, hb⟩ := hrel
    by_cases hlt : k < t.ls.length
    · have hne : t.ls ≠ [] := by intro e; rw [e] at hlt; simp at hlt
      obtain ⟨b, off, rfl, hSb, hbl, hrr⟩ := Lit.sd_get (D.rd_keep (Keeps.all hb) _ _ HT.out) hne
      obtain ⟨c0, c1, c2, q0, q1, q2, qx⟩ := hrr k hlt
      obtain ⟨rfl, rfl, qa, qc, rfl⟩ := Lit.at_form qx
      have hA : Below wr.heap.size wr (wr.alloc (.cells #[.bool t.ls[k].pos, .string t.ls[k].atom.name, .slice qa t.ls[k].atom.args.length qc] 52)) := (Below.refl _ _).alloc (Nat.le_refl _) _
      have hga := Cl.atoms_get t k hlt (by omega)
      have hmem : t.ls[k].atom ∈ t.atoms := by rw [← hga]; exact List.getElem_mem _
      have hst := Tm.sizes_take t.atoms k (by omega)
      have hsl := Tm.sizes_le t.atoms (k + 1)
      have hcl := Tm.colls_length (t.atoms.take k) []
      have hbm : t.ls[k].atom.bulk ≤ 1048576 := by have := Lit.bulk_mem (List.getElem_mem hlt); rw [Cl.bulk] at hbk; have h3 : t.ls[k].bulk = t.ls[k].atom.bulk := rfl; omega
      rw [hga] at hst
      simp only [List.length_nil, Nat.zero_add] at hcl
      have hq := collIs_any t.ls[k].atom _ _ w.heap.size _ _ _ _ (HG.out.keep hA) (by rw [World.size_alloc]; have := hb.size; omega) (Tm.at_keep (Keeps.all hA) (Lit.at_atom qx)) (fun x hx => hx) (hni _ hmem) hbm (by omega)
      rw [← hga, ← Tm.colls_take _ _ _ (by omega)] at hq
      have q3 : wr.cell? ⟨b, off + k * 3 + 1 + 1, none⟩ = some (.slice qa t.ls[k].atom.args.length qc) := q2
      clear hrr hst hsl hcl
      rw [hga] at hq
      have hvl := HG.out.lt
      go_wp2_with fail
      refine hq.mono ?_
      rintro e w2 ⟨v2, rfl, hg2, hgr2, hgo2, hnn2⟩
      have HG2 := hid hg2
      have HN2 := hid (hnn2 HN.out)
      have hb2 : Below w.heap.size w w2 := Below.grown (hb.trans (hA.mono hb.size)) hgr2 (by rw [World.size_alloc]; have := hb.size; omega) (fun x hx => (hvl x hx).1)
      clear hq hg2 hgr2 hgo2 hnn2
      go_wp2_with fail
      go_roundw
      case rel => exact ⟨k + 1, by omega, by go_num, HG2, HN2, hb2⟩
      case measure => simp [intOf]; omega
    · obtain rfl : k = t.ls.length := by omega
      have hg := HG.out
      rw [← hal, List.take_length] at hg
      obtain ⟨g, c, rfl⟩ := hg.addr HN.out
      go_wp2_with fail
      go_ret
      exact ⟨g, c, rfl, hg, hb⟩
end Go.Proofs.YtooocakkjdhfiaaGreatDoor
/- How great an expression is: plain. -/
namespace Go.Proofs.YtooocakkjdhfiaaGreatDoor
set_option maxRecDepth 100000
open Go.RowKit

theorem Tm.names_bulk' (t : Tm) : t.names = true → t.bulk ≤ 10 * t.size := by
  refine Tm.ind (P := fun t => t.names = true → t.bulk ≤ 10 * t.size) (fun n ts ih h => ?_) t
  have key : ∀ ts : List Tm, (∀ a ∈ ts, a.names = true → a.bulk ≤ 10 * a.size) → Tm.namesAll ts = true → Tm.bulks ts ≤ 10 * Tm.sizes ts := by
    intro ts
    induction ts with
    | nil => intro _ _; simp [Tm.bulks, Tm.sizes]
    | cons a ts iht =>
      intro h hn
      rw [Tm.namesAll, Bool.and_eq_true] at hn
      have h0 := h a (by simp) hn.1
      have h1 := iht (fun b hb => h b (by simp [hb])) hn.2
      rw [Tm.bulks, Tm.sizes]; omega
  rw [Tm.names] at h
  rw [Tm.bulk, Tm.size]
  split at h
  · rename_i hv
    simp only [varName, Bool.and_eq_true, decide_eq_true_eq] at hv
    cases ts with
    | nil => simp [Tm.bulks, Tm.sizes]; omega
    | cons a ts => simp at h
  · simp only [Bool.and_eq_true, decide_eq_true_eq, symName] at h
    have := key ts ih h.2
    omega
theorem Tm.expr_bulk' {t : Tm} (h : t.expr = true) : t.bulk ≤ 300 ∧ t.size ≤ 30 := by
  have hs : t.size ≤ 30 := by
    rw [Tm.expr, Tm.atom_eq, Tm.valid] at h
    simp only [Tm.small] at h
    split at h <;> simp at h <;> omega
  refine ⟨?_, hs⟩
  rw [Tm.expr] at h
  rcases Bool.or_eq_true_iff.1 h with h | h
  · rw [Tm.valid, Bool.and_eq_true] at h
    have := Tm.names_bulk' t h.2; omega
  · rw [Tm.atom_eq] at h
    split at h
    · rename_i he
      simp only [Bool.and_eq_true, decide_eq_true_eq] at h
      have key : ∀ ts : List Tm, Tm.namesAll ts = true → Tm.bulks ts ≤ 10 * Tm.sizes ts := by
        intro ts
        induction ts with
        | nil => intro _; simp [Tm.bulks, Tm.sizes]
        | cons a ts iht =>
          intro hn
          rw [Tm.namesAll, Bool.and_eq_true] at hn
          have h0 := Tm.names_bulk' a hn.1
          have h1 := iht hn.2
          rw [Tm.bulks, Tm.sizes]; omega
      have h1 := key t.args h.2
      have h2 : t.size = 1 + Tm.sizes t.args := by cases t; rw [Tm.size]; rfl
      have h3 : t.bulk = t.name.size + t.args.length + Tm.bulks t.args := by cases t; rw [Tm.bulk]; rfl
      have h4 : t.name.size = 1 := by rw [he]; rfl
      omega
    · rw [Bool.and_eq_true, Tm.valid, Bool.and_eq_true] at h
      have := Tm.names_bulk' t h.2.2; omega
theorem Tm.expr_size {t : Tm} (h : t.expr = true) : t.size ≤ 30 := (Tm.expr_bulk' h).2
theorem coll_var (t : Tm) : ∀ l : List ByteArray, (∀ k ∈ l, varName k = true) → ∀ k ∈ t.coll l, varName k = true := by
  refine Tm.ind (P := fun t => ∀ l : List ByteArray, (∀ k ∈ l, varName k = true) → ∀ k ∈ t.coll l, varName k = true) (fun n ts ih l h => ?_) t
  rw [Tm.coll]
  split
  · rename_i hv
    intro k hk
    rcases (addStr_mem l n k).1 hk with q | q
    · exact h k q
    · rw [q]; exact hv.2
  · have key : ∀ ts : List Tm, (∀ a ∈ ts, ∀ l : List ByteArray, (∀ k ∈ l, varName k = true) → ∀ k ∈ Tm.coll a l, varName k = true) → ∀ l : List ByteArray, (∀ k ∈ l, varName k = true) → ∀ k ∈ Tm.colls ts l, varName k = true := by
      intro ts
      induction ts with
      | nil => intro _ l h; simpa [Tm.colls] using h
      | cons t ts iht => intro hh l h; rw [Tm.colls]; exact iht (fun a ha => hh a (by simp [ha])) _ (hh t (by simp) l h)
    exact key ts ih l h
end Go.Proofs.YtooocakkjdhfiaaGreatDoor
/- Items of which a call owns all memory, as pairs: what an item is, and the value of its slice. -/
namespace Go.Proofs.YtooocakkjdhfiaaGreatDoor
set_option maxRecDepth 100000
open Go.RowKit

theorem D.owns_vals {w : World} {b : Nat} : ∀ (ds : List D) (off : Nat) (F : List Nat), D.owns w b off ds F → ∃ vs : List Value, vs.length = ds.length ∧ (∀ i (h : i < vs.length), w.cell? ⟨b, off + i, none⟩ = some vs[i]) ∧ OwnsL w vs ds F
  | [], off, F, h => by rw [D.owns] at h; exact ⟨[], rfl, by intro i h; simp at h, by rw [OwnsL]; exact h⟩
  | d :: ds, off, F, h => by
    rw [D.owns] at h
    obtain ⟨F1, F2, rfl, hd, ⟨v, q0, q1⟩, hr⟩ := h
    obtain ⟨vs, hl, hc, ho⟩ := D.owns_vals ds (off + 1) F2 hr
    refine ⟨v :: vs, by simp [hl], fun i hi => ?_, by rw [OwnsL]; exact ⟨F1, F2, rfl, hd, q1, ho⟩⟩
    cases i with
    | zero => simpa using q0
    | succ i =>
      have := hc i (by simpa using hi)
      rw [show off + 1 + i = off + (i + 1) by omega] at this
      simpa using this
theorem OwnsL.split {w : World} : ∀ (vs : List Value) (ds : List D) {us : List Value} {es : List D} {F : List Nat}, vs.length = ds.length → OwnsL w (vs ++ us) (ds ++ es) F → ∃ F1 F2, F = F1 ++ F2 ∧ (∀ x ∈ F1, x ∉ F2) ∧ OwnsL w vs ds F1 ∧ OwnsL w us es F2
  | [], [], us, es, F, _, h => ⟨[], F, rfl, by simp, OwnsL.nil w, h⟩
  | [], _ :: _, _, _, _, hl, _ => absurd hl (by simp)
  | _ :: _, [], _, _, _, hl, _ => absurd hl (by simp)
  | v :: vs, d :: ds, us, es, F, hl, h => by
    rw [List.cons_append, List.cons_append, OwnsL] at h
    obtain ⟨G1, G2, rfl, hd, h1, h2⟩ := h
    obtain ⟨F1, F2, rfl, hd2, h3, h4⟩ := OwnsL.split vs ds (by simpa using hl) h2
    refine ⟨G1 ++ F1, F2, by simp, fun x hx q => ?_, by rw [OwnsL]; exact ⟨G1, F1, rfl, fun x hx q => hd x hx (by simp [q]), h1, h3⟩, h4⟩
    rcases List.mem_append.1 hx with p | p
    · exact hd x p (by simp [q])
    · exact hd2 x p q
theorem items_sub {β : Type} {ev : β → List Value} {ed : β → List D} {w : World} (hl : ∀ p, (ev p).length = (ed p).length) {d d' : List β} (h : d'.Sublist d) : ∀ {F : List Nat}, OwnsL w (d.flatMap ev) (d.flatMap ed) F → ∃ F', OwnsL w (d'.flatMap ev) (d'.flatMap ed) F' ∧ ∀ x ∈ F', x ∈ F := by
  induction h with
  | slnil => intro F h; exact ⟨F, h, fun _ h => h⟩
  | cons p _ ih =>
    intro F h
    rw [List.flatMap_cons, List.flatMap_cons] at h
    obtain ⟨F1, F2, rfl, _, _, h2⟩ := OwnsL.split _ _ (hl p) h
    obtain ⟨F', h3, h4⟩ := ih h2
    exact ⟨F', h3, fun x hx => by simp [h4 x hx]⟩
  | cons_cons p _ ih =>
    intro F h
    rw [List.flatMap_cons, List.flatMap_cons] at h
    obtain ⟨F1, F2, rfl, hd, h1, h2⟩ := OwnsL.split _ _ (hl p) h
    obtain ⟨F', h3, h4⟩ := ih h2
    refine ⟨F1 ++ F', ?_, fun x hx => ?_⟩
    · rw [List.flatMap_cons, List.flatMap_cons]
      exact h1.append h3 fun x hx q => hd x hx (h4 x q)
    · rcases List.mem_append.1 hx with q | q
      · simp [q]
      · simp [h4 x q]
theorem items_perm {β : Type} {ev : β → List Value} {ed : β → List D} {w : World} (hl : ∀ p, (ev p).length = (ed p).length) {d d' : List β} (h : d.Perm d') : ∀ {F : List Nat}, OwnsL w (d.flatMap ev) (d.flatMap ed) F → ∃ F', OwnsL w (d'.flatMap ev) (d'.flatMap ed) F' ∧ ∀ x ∈ F', x ∈ F := by
  induction h with
  | nil => intro F h; exact ⟨F, h, fun _ h => h⟩
  | cons p _ ih =>
    intro F h
    rw [List.flatMap_cons, List.flatMap_cons] at h
    obtain ⟨F1, F2, rfl, hd, h1, h2⟩ := OwnsL.split _ _ (hl p) h
    obtain ⟨F', h3, h4⟩ := ih h2
    refine ⟨F1 ++ F', ?_, fun x hx => ?_⟩
    · rw [List.flatMap_cons, List.flatMap_cons]
      exact h1.append h3 fun x hx q => hd x hx (h4 x q)
    · rcases List.mem_append.1 hx with q | q
      · simp [q]
      · simp [h4 x q]
  | swap p q l =>
    intro F h
    simp only [List.flatMap_cons] at h ⊢
    obtain ⟨F1, F2, rfl, hd, h1, h2⟩ := OwnsL.split _ _ (hl _) h
    obtain ⟨F3, F4, rfl, hd2, h3, h4⟩ := OwnsL.split _ _ (hl _) h2
    refine ⟨F3 ++ (F1 ++ F4), h3.append (h1.append h4 fun x hx q => hd x hx (by simp [q])) fun x hx q => ?_, fun x hx => by simp only [List.mem_append] at hx ⊢; rcases hx with q | q | q <;> simp [q]⟩
    rcases List.mem_append.1 q with q | q
    · exact hd x q (by simp [hx])
    · exact hd2 x hx q
  | trans _ _ ih1 ih2 =>
    intro F h
    obtain ⟨F', h3, h4⟩ := ih1 h
    obtain ⟨F'', h5, h6⟩ := ih2 h3
    exact ⟨F'', h5, fun x hx => h4 x (h6 x hx)⟩

/-- a row of known cells, all of which may be written -/
def RowAt (w : World) (b off : Nat) (e : TypeId) (vs : List Value) : Prop := ∃ cur, w.heap[b]? = some (.cells cur e (0, 0)) ∧ ∀ i (h : i < vs.length), cur[off + i]? = some vs[i]
theorem RowAt.cell {w : World} {b off : Nat} {e : TypeId} {vs : List Value} (h : RowAt w b off e vs) {i : Nat} (hi : i < vs.length) : w.cell? ⟨b, off + i, none⟩ = some vs[i] := by
  obtain ⟨cur, h0, h1⟩ := h
  simp [World.cell?, h0, h1 i hi]
theorem RowAt.free {w : World} {b off : Nat} {e : TypeId} {vs : List Value} (h : RowAt w b off e vs) (p : Nat) : w.frozen? ⟨b, p, none⟩ = false := by
  obtain ⟨cur, h0, h1⟩ := h
  simp [World.frozen?, h0]
theorem RowAt.lt {w : World} {b off : Nat} {e : TypeId} {vs : List Value} (h : RowAt w b off e vs) : b < w.heap.size := by
  obtain ⟨cur, h0, h1⟩ := h
  exact lt_of_heap h0
theorem RowAt.set {w : World} {b off : Nat} {e : TypeId} {vs : List Value} (h : RowAt w b off e vs) {i : Nat} (hi : i < vs.length) (u : Value) : RowAt (w.setCell ⟨b, off + i, none⟩ u) b off e (vs.set i u) := by
  obtain ⟨cur, h0, h1⟩ := h
  refine ⟨_, heap_setCell h0 u, fun k hk => ?_⟩
  rw [List.length_set] at hk
  have hk' := h1 k hk
  rw [Array.getElem?_setIfInBounds, List.getElem_set]
  have hki := h1 i hi
  have hlt : off + i < cur.size := (Array.getElem?_eq_some_iff.1 hki).1
  by_cases q : i = k
  · subst q; simp [hlt]
  · rw [if_neg (by omega), if_neg q]; exact hk'
theorem RowAt.keep {w w' : World} {b off : Nat} {e : TypeId} {vs : List Value} (h : RowAt w b off e vs) (hk : Keeps (· = b) w w') : RowAt w' b off e vs := by
  have hl := h.lt
  obtain ⟨cur, h0, h1⟩ := h
  exact ⟨cur, (hk.block b rfl hl).trans h0, h1⟩
/-- an owned slice: its row, and what the row's cells own -/
theorem own_row {w : World} {a : Option Addr} {n m cap : Nat} {ds : List D} {F : List Nat} (h : D.own w (.slice a n cap) (.sl m ds) F) (hne : ds ≠ []) : ∃ b off e vs F', a = some ⟨b, off, none⟩ ∧ F = b :: F' ∧ b ∉ F' ∧ RowAt w b off e vs ∧ vs.length = ds.length ∧ OwnsL w vs ds F' := by
  rw [D.own] at h
  obtain ⟨a', cap', e, h1, h2, h3, h4⟩ := h
  injection e with e0 e1 e2
  subst e0 e1 e2
  rcases h4 with ⟨h4, _⟩ | ⟨_, b, off, F', cur, e, q0, q1, rfl, q3, q4⟩
  · exact absurd h4 hne
  obtain ⟨vs, hl, hc, ho⟩ := D.owns_vals _ _ _ q4
  refine ⟨b, off, e, vs, F', q0, rfl, q3, ⟨cur, q1, fun i hi => ?_⟩, hl, ho⟩
  have := hc i hi
  simpa [World.cell?, q1] using this
/-- .. and back, the row being longer perhaps -/
theorem row_own {w : World} {b off n cap : Nat} {e : TypeId} {vs us : List Value} {ds : List D} {F : List Nat} (hr : RowAt w b off e vs) (ho : OwnsL w us ds F) (hb : b ∉ F) (hu : ∀ i (h : i < us.length), vs[i]? = some us[i]) (hn : n ≤ big) (hc : n ≤ cap) (h0 : n ≠ 0 → ds ≠ []) : ∃ G, D.own w (.slice (some ⟨b, off, none⟩) n cap) (.sl n ds) G ∧ ∀ x ∈ G, x = b ∨ x ∈ F := by
  by_cases hd : ds = []
  · subst hd
    exact ⟨[], by rw [D.own]; exact ⟨_, _, rfl, hn, hc, h0, .inl ⟨rfl, rfl⟩⟩, by simp⟩
  · have hrr := hr
    obtain ⟨cur, q0, q1⟩ := hr
    refine ⟨b :: F, ?_, fun x hx => by simpa using hx⟩
    rw [D.own]
    refine ⟨_, _, rfl, hn, hc, h0, .inr ⟨hd, b, off, F, cur, e, rfl, q0, rfl, hb, ho.owns off fun i hi => ?_⟩⟩
    have hui := hu i hi
    obtain ⟨hl, he⟩ := List.getElem?_eq_some_iff.1 hui
    rw [← he]
    exact hrr.cell hl
end Go.Proofs.YtooocakkjdhfiaaGreatDoor
/- No run takes a draw back: the number of draws never falls. -/
namespace Go.Proofs.YtooocakkjdhfiaaGreatDoor.Drw
set_option maxRecDepth 100000
open Go

def ResUp {α : Type} (n : Nat) : Result α → Prop
  | .ok _ w => n ≤ w.drawn
  | .halt _ w => n ≤ w.drawn

theorem ask_up {α : Type} (n : Nat) : ∀ (a : Ask α) (w : World), n ≤ w.drawn → n ≤ (w.ask a).2.drawn
  | .done a, w, h => by simpa [World.ask] using h
  | .ask what range k, w, h => by
    unfold World.ask
    simp only
    split
    · exact ask_up n _ w h
    · exact ask_up n _ _ (by show n ≤ w.drawn + 1; omega)

theorem sys_up (n : Nat) (w : World) (c : Sys) (h : n ≤ w.drawn) : n ≤ (w.sys c).2.drawn := by
  unfold World.sys
  have := ask_up n (Kernel.perform c w.os) w h
  split
  · exact h
  · rename_i e
    rw [e] at this
    exact this

theorem viewStore_drawn {p : Program} {w : World} {a : Addr} {u : TypeId} {k : Addr} {v : Value} {at_ : Bool} {w' : World} {l : List Addr} (h : w.viewStore p a u k v at_ = .ok (w', l)) : w'.drawn = w.drawn := by
  unfold World.viewStore at h
  simp only [bind, Except.bind, pure, Except.pure] at h
  repeat' (split at h <;> try (cases h; done))
  all_goals first | (cases h; rfl) | (simp at h; obtain ⟨rfl, -⟩ := h; rfl) | skip

theorem farStore_drawn {p : Program} {w : World} {a : Addr} {v : Value} {at_ : Bool} {w' : World} {l : List Addr} (h : w.farStore p a v at_ = .ok (w', l)) : w'.drawn = w.drawn := by
  unfold World.farStore at h
  split at h
  · split at h
    · rename_i e; injection h with h; subst h; exact viewStore_drawn e
    · cases h
  · cases h

theorem freeze_drawn (w : World) (a : Addr) (n : Nat) : (w.freeze a n).drawn = w.drawn := by
  unfold World.freeze; split <;> rfl

theorem run_up {α : Type} (p : Program) (n : Nat) (s : Sem α) : ∀ (w : World), n ≤ w.drawn → ResUp n (s.run p w) := by
  induction s with
  | pure a => intro w h; exact h
  | load m a k ih =>
    intro w h
    unfold Sem.run
    split
    · exact ih _ w h
    · split
      · exact ih _ w h
      · exact h
  | store m a v k ih =>
    intro w h
    have key : ResUp n (match w.cell? a with
        | some _ => if w.frozen? a then .halt (.unsupported (.unsafePointer "a write to bytes that a string shares")) w else k.run p (w.setCell a v)
        | none => match w.farStore p a v (m == .atomic) with
          | .ok (w, _) => k.run p w
          | .error h => .halt h w) := by
      split
      · split
        · exact h
        · exact ih _ h
      · split
        · rename_i e; exact ih _ (by rw [farStore_drawn e]; exact h)
        · exact h
    cases v with
    | agg c => exact h
    | tuple c => exact h
    | _ => exact key
  | new o k ih => intro w h; exact ih _ _ h
  | shape r k ih => intro w h; exact ih _ _ h
  | freeze a m k ih => intro w h; exact ih _ (by rw [freeze_drawn]; exact h)
  | frozen a k ih => intro w h; exact ih _ _ h
  | getObj r k ih =>
    intro w h
    unfold Sem.run
    split
    · exact h
    · exact ih _ w h
    · exact h
  | setObj r o k ih =>
    intro w h
    unfold Sem.run
    split
    · exact h
    · exact ih _ h
    · exact h
  | choose q k ih =>
    intro w h
    unfold Sem.run
    split
    · exact ih _ _ h
    · exact ih _ _ (by show n ≤ w.drawn + 1; omega)
  | sys c k ih => intro w h; exact ih _ _ (sys_up n w c h)
  | program k ih => intro w h; exact ih _ _ h
  | mark m k ih => intro w h; exact ih _ h
  | halt h' => intro w h; exact h

theorem runT_up {α : Type} (p : Program) (n : Nat) (s : Sem α) : ∀ (w : World) (es : Array Event), n ≤ w.drawn → ResUp n (s.runT p w es).1 := by
  induction s with
  | pure a => intro w es h; exact h
  | load m a k ih =>
    intro w es h
    unfold Sem.runT
    split
    · exact ih _ w _ h
    · split
      · exact ih _ w _ h
      · exact h
  | store m a v k ih =>
    intro w es h
    have key : ResUp n (match w.cell? a with
        | some _ =>
          if w.frozen? a then ((.halt (.unsupported (.unsafePointer "a write to bytes that a string shares")) w, es) : Result _ × Array Event)
          else k.runT p (w.setCell a v) (es.push ⟨.cell a, true, m == Mode.atomic⟩)
        | none => match w.farStore p a v (m == Mode.atomic) with
          | .ok (w, touched) => k.runT p w (es ++ touched.toArray.map (fun x => (⟨.cell x, true, m == Mode.atomic⟩ : Event)))
          | .error h => (.halt h w, es)).1 := by
      split
      · split
        · exact h
        · exact ih _ _ h
      · split
        · rename_i e; exact ih _ _ (by rw [farStore_drawn e]; exact h)
        · exact h
    cases v with
    | agg c => exact h
    | tuple c => exact h
    | _ => exact key
  | new o k ih => intro w es h; exact ih _ _ _ h
  | shape r k ih => intro w es h; exact ih _ _ _ h
  | freeze a m k ih => intro w es h; exact ih _ _ (by rw [freeze_drawn]; exact h)
  | frozen a k ih => intro w es h; exact ih _ _ _ h
  | getObj r k ih =>
    intro w es h
    unfold Sem.runT
    split
    · exact h
    · exact ih _ w _ h
    · exact h
  | setObj r o k ih =>
    intro w es h
    unfold Sem.runT
    split
    · exact h
    · exact ih _ _ h
    · exact h
  | choose q k ih =>
    intro w es h
    unfold Sem.runT
    split
    · exact ih _ _ _ h
    · exact ih _ _ _ (by show n ≤ w.drawn + 1; omega)
  | sys c k ih => intro w es h; exact ih _ _ _ (sys_up n w c h)
  | program k ih => intro w es h; exact ih _ _ _ h
  | mark m k ih => intro w es h; exact ih _ _ h
  | halt h' => intro w es h; exact h

theorem run_ok {α : Type} {p : Program} {n : Nat} {s : Sem α} {w : World} {a : α} {w' : World} (e : s.run p w = .ok a w') (h : n ≤ w.drawn) : n ≤ w'.drawn := by
  have := run_up p n s w h; rw [e] at this; exact this

theorem runT_ok {α : Type} {p : Program} {n : Nat} {s : Sem α} {w : World} {es es' : Array Event} {a : α} {w' : World} (e : s.runT p w es = (.ok a w', es')) (h : n ≤ w.drawn) : n ≤ w'.drawn := by
  have := runT_up p n s w es h; rw [e] at this; exact this
theorem runT_halt {α : Type} {p : Program} {n : Nat} {s : Sem α} {w : World} {es es' : Array Event} {a : Halt} {w' : World} (e : s.runT p w es = (.halt a w', es')) (h : n ≤ w.drawn) : n ≤ w'.drawn := by
  have := runT_up p n s w es h; rw [e] at this; exact this
def GUp (n : Nat) : GStep → Prop
  | .go _ w _ | .comm _ _ _ _ w _ | .spawn _ _ w _ | .count _ w _ | .timer _ _ w _ | .alone _ _ w _ | .newcoro _ _ _ w _ | .coroswitch _ _ _ w _ | .collect _ w _ | .watch _ w _ => n ≤ w.drawn
  | .ended .. => True

theorem after_up {n : Nat} {es : Array Event} {s : GStep} (h : GUp n s) : GUp n (s.after es) := by
  cases s <;> exact h

def SUp (n : Nat) : Stepped → Prop
  | .next m => n ≤ m.world.drawn
  | .ended .. => True

theorem dieOf_up {n : Nat} {fr : Frame} {l : List ByteArray} {m : String} {b : Bool} {w : World} (h : n ≤ w.drawn) : GUp n (dieOf fr l m b w) := h
theorem endThrow_up {n : Nat} {fr : Frame} {m : String} {w : World} (h : n ≤ w.drawn) : GUp n (endThrow fr m w) := h
theorem endWith_up {n : Nat} {w : World} {fd : Nat} {t : ByteArray} {o : Outcome} : GUp n (endWith w fd t o) := by
  unfold endWith
  simp only
  split
  · split <;> trivial
  · trivial
  · trivial
theorem endPrinting_up {n : Nat} {p : Program} {fr : Frame} {v : Value} {w : World} (h : n ≤ w.drawn) : GUp n (endPrinting p fr v w) := by
  unfold endPrinting
  simp only
  split
  · exact h
  · trivial
theorem endFatal_up {n : Nat} {p : Program} {fr : Frame} {cs : List Frame} {d : Option Dying} {m : String} {w : World} (h : n ≤ w.drawn) : GUp n (endFatal p fr cs d m w) := by
  unfold endFatal
  simp only
  split
  · rename_i e; exact run_ok e h
  · trivial
  · trivial
theorem writeOn_up {n : Nat} {p : Program} {fr : Frame} {d : Dying} {f : Fatal} {w : World} (h : n ≤ w.drawn) : GUp n (writeOn p fr d f w) := by
  unfold writeOn
  split
  · trivial
  · dsimp only
    generalize hs : Sem.runT p _ w #[] = re
    have hr : ResUp n re.1 := hs ▸ runT_up p n _ w #[] h
    clear hs
    obtain ⟨r, es⟩ := re
    split
    · rename_i e; injection e with e1 e2; subst e1; exact hr
    · rename_i e; injection e with e1 e2; subst e1; exact hr
    · trivial
    · trivial
theorem die_up {n : Nat} {p : Program} {fr : Frame} {d : Dying} {w : World} (h : n ≤ w.drawn) : GUp n (die p fr d w) := by
  unfold die
  split
  · exact writeOn_up h
  · split
    · split
      · exact h
      · exact endWith_up
    · simp only
      split
      · exact h
      · split
        · rename_i e; exact run_ok e h
        · trivial
      · refine after_up ?_
        rename_i t recv name _
        have hr := runT_up p n (invoke (.fn (.method name) #[]) #[.iface t recv]) w #[] h
        revert hr
        generalize (Sem.runT p (invoke (.fn (.method name) #[]) #[.iface t recv]) w #[]).1 = r
        intro hr
        split
        · exact hr
        · exact hr
        · trivial
        · exact endPrinting_up hr
        · trivial
      · trivial
theorem doReturn_up {n : Nat} {p : Program} {b : Bool} {fr : Frame} {cs : List Frame} {d : Option Dying} {v : Value} {w : World} (h : n ≤ w.drawn) : GUp n (doReturn p b fr cs d v w) := by
  unfold doReturn
  split
  · split
    · exact h
    · exact h
    · exact h
    · exact h
  · split
    · exact h
    · trivial
    · split
      · exact h
      · split
        · exact h
        · trivial
theorem callDeferred_up {n : Nat} {p : Program} {fr : Frame} {cs : List Frame} {dy : Option Dying} {d : Deferred} {w : World} (h : n ≤ w.drawn) : GUp n (callDeferred p fr cs dy d w) := by
  unfold callDeferred
  have hr := runT_up p n (invoke d.target d.args) w #[] h
  revert hr
  generalize Sem.runT p (invoke d.target d.args) w #[] = re
  obtain ⟨r, es⟩ := re
  intro hr
  generalize ((d.target matches .nil) && (fr.mode matches .panicking _)) = c
  cases c
  · rw [if_neg (by decide)]
    dsimp only at hr ⊢
    refine after_up ?_
    split
    all_goals first | trivial | exact hr | exact endFatal_up hr | exact endThrow_up hr | skip
    · split <;> exact hr
  · exact trivial
theorem unwind_up {n : Nat} {p : Program} {b : Bool} {fr : Frame} {cs : List Frame} {dy : Option Dying} {w : World} (h : n ≤ w.drawn) : GUp n (unwind p b fr cs dy w) := by
  unfold unwind
  split
  · generalize hs : Sem.runT p _ w #[] = re
    have hr : ResUp n re.1 := hs ▸ runT_up p n _ w #[] h
    clear hs
    obtain ⟨r, es⟩ := re
    dsimp only at hr ⊢
    refine after_up ?_
    split
    · exact hr
    · trivial
  · exact callDeferred_up h
  · split
    · trivial
    · split
      · trivial
      · split
        · exact h
        · split
          · split
            · exact h
            · split
              · rename_i e; exact run_ok e h
              · trivial
              · trivial
          · split
            · exact endPrinting_up h
            · trivial
    · split
      · exact doReturn_up h
      · rename_i fn _
        have hr := runT_up p n (results fn fr.tmps) w #[] h
        revert hr
        generalize Sem.runT p (results fn fr.tmps) w #[] = re
        obtain ⟨r, es⟩ := re
        intro hr
        simp only at hr ⊢
        refine after_up ?_
        split
        · exact doReturn_up hr
        · trivial
        · trivial
theorem early_up {n : Nat} {p : Program} {fr : Frame} {cs : List Frame} {dy : Option Dying} {g : Nat} {w : World} (h : n ≤ w.drawn) : GUp n (early p fr cs dy g w) := by
  have hn : ∀ w : World, n ≤ w.drawn → GUp n (match w.heap[g]? with
    | some (.pending c elem) => .go { frame := fr, callers := cs, status := .running, dying := dy } { w with heap := w.heap.setIfInBounds g (.cells c elem) }
    | _ => .ended (.stuck "early: the variable does not wait" (fr.pos p)) w) := by
    intro w h
    split
    · exact h
    · trivial
  unfold early
  simp only
  split
  · exact hn w h
  · split
    · trivial
    · split
      · exact hn w h
      · split
        · exact hn w h
        · split
          · trivial
          · exact h
          · trivial
          · exact hn w h
          · split
            · exact h
            · split
              · exact hn w h
              · split
                · rename_i e; exact hn _ (run_ok e h)
                · rename_i e; exact run_ok e h
                · trivial
theorem apply_up {n : Nat} {p : Program} {l : Bool} {fr : Frame} {cs : List Frame} {dy : Option Dying} {s : Sem Next} {w : World} (h : n ≤ w.drawn) : GUp n (stepG.apply p l fr cs dy s w) := by
  unfold stepG.apply
  have hr : ResUp n (if l = true then s.runT p w #[] else (s.run p w, #[])).1 := by
    split
    · exact runT_up p n s w #[] h
    · exact run_up p n s w h
  revert hr
  generalize (if l = true then s.runT p w #[] else (s.run p w, #[])) = re
  obtain ⟨r, es⟩ := re
  intro hr
  simp only at hr ⊢
  refine after_up ?_
  split
  all_goals first | trivial | exact hr | exact endFatal_up hr | exact endThrow_up hr | exact early_up hr | skip
  all_goals (split <;> first | trivial | exact hr | exact endThrow_up hr | (split <;> first | exact hr | exact endThrow_up hr))
theorem oper_up {n : Nat} {p : Program} {l : Bool} {fr : Frame} {cs : List Frame} {dy : Option Dying} {w : World} (h : n ≤ w.drawn) : GUp n (stepG.oper p l fr cs dy w) := by
  unfold stepG.oper
  split
  · trivial
  · split <;> exact apply_up h
theorem leave_up {n : Nat} {p : Program} {b : Bool} {fr : Frame} {cs : List Frame} {dy : Option Dying} {w : World} {s : Sem Value} (h : n ≤ w.drawn) :
    GUp n (match s.runT p w #[] with
      | (r, es) => GStep.after (seen p fr.fn es) (match r with
        | .ok v w => doReturn p b fr cs dy v w
        | .halt _ w => .ended (.stuck "range over a function: no such loop" (fr.pos p)) w)) := by
  have hr := runT_up p n s w #[] h
  revert hr
  generalize Sem.runT p s w #[] = re
  obtain ⟨r, es⟩ := re
  intro hr
  simp only at hr ⊢
  refine after_up ?_
  split
  · exact doReturn_up hr
  · trivial
theorem exec_up {n : Nat} {p : Program} {b l : Bool} {fr : Frame} {cs : List Frame} {dy : Option Dying} {w : World} (h : n ≤ w.drawn) : GUp n (stepG.exec p b l fr cs dy w) := by
  have hl : ∀ jump : Option Code, GUp n (match fr.roundOf with
      | none => if jump matches none | some .ret then .go { frame := { fr with mode := .returning }, callers := cs, status := .running, dying := dy } w else .ended (.stuck "exit, goto: no such block or label" (fr.pos p)) w
      | some l =>
        let (r, es) := (Instr.endRound l jump).runT p w #[]
        GStep.after (seen p fr.fn es) <| match r with
        | .ok v w => doReturn p b fr cs dy v w
        | .halt _ w => .ended (.stuck "range over a function: no such loop" (fr.pos p)) w) := by
    intro jump
    split
    · generalize (jump matches none | some .ret) = c
      cases c
      · exact trivial
      · exact h
    · exact leave_up h
  unfold stepG.exec
  dsimp only
  split
  · exact hl none
  · exact hl (some .ret)
  · exact h
  · exact h
  · exact h
  · exact h
  · exact h
  · split
    · exact h
    · trivial
  · exact h
  · exact h
  · exact h
  · exact h
  · rename_i id k _
    cases exitTo id k with
    | none => exact hl (some (.exit id))
    | some t => exact h
  · rename_i id k _
    cases gotoIn id k with
    | none => exact hl (some (.goto id))
    | some t => exact h
  · rename_i f params assign body k _
    have hr := runT_up p n (Instr.enterLoop fr.fn fr.tmps params assign body fr.roundOf) w #[] h
    revert hr
    generalize Sem.runT p (Instr.enterLoop fr.fn fr.tmps params assign body fr.roundOf) w #[] = re
    obtain ⟨r, es⟩ := re
    intro hr
    dsimp only at hr ⊢
    refine after_up ?_
    split
    · exact apply_up hr
    · trivial
  · trivial
  · exact apply_up h
  · rename_i l k _
    have hr := runT_up p n (Instr.endLoop l) w #[] h
    revert hr
    generalize Sem.runT p (Instr.endLoop l) w #[] = re
    obtain ⟨r, es⟩ := re
    intro hr
    dsimp only at hr ⊢
    refine after_up ?_
    split
    · exact hr
    · exact hr
    · trivial
  · trivial
  · exact apply_up h
  · rename_i row args k _
    cases Extern.next row with
    | none => trivial
    | some e => exact apply_up h
  · split
    · exact h
    · split
      · rename_i e; exact run_ok e h
      · trivial
  · exact h
  · split
    · exact oper_up h
    · exact h
theorem stepG_up {n : Nat} {p : Program} {b l : Bool} {g : Goroutine} {w : World} (h : n ≤ w.drawn) : GUp n (stepG p b g w l) := by
  unfold stepG
  obtain ⟨fr, cs, st, dy, of⟩ := g
  simp only
  split
  · exact die_up h
  · exact exec_up h
  · exact unwind_up h
theorem site_up {n : Nat} {c : Prop} [Decidable c] {a b : Stepped} (ha : SUp n a) (hb : SUp n b) : SUp n (if c then a else b) := by split <;> assumption
theorem look_up {n : Nat} {p : Program} {gs : Array Goroutine} {r : Rest} {w : World} (h : n ≤ w.drawn) : SUp n (look p gs r w) := by
  unfold look
  split
  · dsimp only
    refine site_up trivial ?_
    generalize Option.bind _ _ = o
    cases o with
    | none => exact trivial
    | some held =>
      dsimp only
      generalize hs : Sem.run p _ w = re
      have hr : ResUp n re := hs ▸ run_up p n _ w h
      clear hs
      split
      · exact hr
      · trivial
      · trivial
  · trivial
theorem pite_up {n : Nat} {c : Prop} [Decidable c] {a b : Stepped × Array MemOp} (ha : SUp n a.1) (hb : SUp n b.1) : SUp n (if c then a else b).1 := by split <;> assumption
theorem waiting_up {n : Nat} {r : Rest} {cs : Array CommCase} {w w' : World} (h : n ≤ w.drawn) (e : waitingAt r cs w = some w') : n ≤ w'.drawn := by
  unfold waitingAt at e
  split at e
  · split at e
    · injection e with e; subst e; exact h
    · cases e
  · injection e with e; subst e; exact h
theorem communicate_up {n : Nat} {p : Program} {r : Rest} {gs : Array Goroutine} {i : Nat} {g : Goroutine} {cs : Array CommCase} {bl : Bool} {sh : CommShape} {w : World} (h : n ≤ w.drawn) : SUp n (communicate p r gs i g cs bl sh w).1 := by
  unfold communicate
  dsimp only
  refine pite_up trivial (pite_up (pite_up ?_ h) ?_)
  · cases hw : waitingAt r cs w with
    | none => exact trivial
    | some w' => exact waiting_up h hw
  · generalize hs : Sem.run p _ w = re
    have hr : ResUp n re := hs ▸ run_up p n _ w h
    clear hs
    cases re with
    | halt x w1 => exact trivial
    | ok a w1 =>
      obtain ⟨k, c, way⟩ := a
      have h1 : n ≤ w1.drawn := hr
      dsimp only
      split
      · generalize hs : Sem.run p _ w1 = re
        have hr : ResUp n re := hs ▸ run_up p n _ w1 h1
        clear hs
        split
        · exact hr
        · trivial
      · exact h1
      · exact h1
      · split
        · exact h1
        · generalize hs : Sem.run p _ w1 = re
          have hr : ResUp n re := hs ▸ run_up p n _ w1 h1
          clear hs
          cases re with
          | halt x w2 => exact trivial
          | ok a w2 => exact hr
      · exact h1
      · exact h1
      · trivial
theorem timerOp_up {n : Nat} {m : Machine} {op : TimerOp} {v : Value} {m' : Machine} (h : n ≤ m.world.drawn) (e : timerOp m op = .ok (v, m')) : n ≤ m'.world.drawn := by
  have hd : ∀ (w : World) (c : Nat), (drain w c).2.drawn = w.drawn := by intro w c; unfold drain; split <;> rfl
  have hre : ∀ (m : Machine) k t wh pe, (retime m k t wh pe).2.world.drawn = m.world.drawn := by
    intro m k t wh pe
    unfold retime
    simp only
    split
    · exact hd _ _
    · rfl
  have hn : ∀ (var : Addr) (f : Nat → Timer → Value × Machine), (∀ k t, n ≤ (f k t).2.world.drawn) → timerOp.named m var f = .ok (v, m') → n ≤ m'.world.drawn := by
    intro var f hf e
    unfold timerOp.named at e
    split at e
    · injection e with e
      rename_i c _
      have := hf c (m.rest.timers.getD c default)
      rw [e] at this
      exact this
    · cases e
  unfold timerOp at e
  split at e
  · split at e
    · injection e with e; injection e with _ e; subst e; exact h
    · split at e
      · split at e
        · cases e
        · injection e with e; injection e with _ e; subst e; exact h
      · cases e
  · exact hn _ _ (fun k t => by rw [hre]; exact h) e
  · split at e
    · rename_i m1 em
      refine hn _ _ (fun k t => ?_) e
      rw [hre]
      unfold timerOp.opened at em
      split at em
      · split at em
        · injection em with em; subst em; exact h
        · cases em
      · injection em with em; subst em; exact h
    · cases e
  · simp only at e
    injection e with e; injection e with _ e; subst e; exact h
theorem mrunT_up {n : Nat} {p : Program} {m : Machine} {i : Nat} {l : Bool} (h : n ≤ m.world.drawn) : SUp n (Go.runT p m i l).1 := by
  unfold Go.runT
  simp only
  have hg := stepG_up (p := p) (b := i == 0) (l := l) (g := (m.gs.swapAt! i { (default : Goroutine) with status := .finished }).1) h
  revert hg
  generalize stepG p (i == 0) (m.gs.swapAt! i { (default : Goroutine) with status := .finished }).1 m.world l = s
  intro hg
  cases s with
  | ended o w es => trivial
  | comm g cs bl sh w es => exact communicate_up hg
  | go g w es => exact hg
  | spawn g c w es => exact hg
  | count g w es => simp only; split <;> first | trivial | exact hg
  | alone g on w es => exact hg
  | collect g w es => exact look_up hg
  | watch g w es => exact hg
  | newcoro g c d w es => exact hg
  | coroswitch g c ex w es =>
    simp only
    split
    · exact hg
    · split
      · rename_i e
        have := endThrow_up (fr := g.frame) (m := "coroswitch on exited coro") (w := w) hg
        rw [e] at this
        exact this
      · trivial
    · trivial
  | timer g op w es =>
    simp only
    split
    · rename_i v m1 e
      have := timerOp_up (m := { world := w, gs := _, rest := m.rest }) (m' := m1) hg e
      exact this
    · rename_i msg _
      split
      · rename_i e
        have := endThrow_up (fr := g.frame) (m := msg) (w := w) hg
        rw [e] at this
        exact this
      · trivial
    · trivial
    · trivial
def MUp (n : Nat) : Move → Prop
  | .goroutine m _ => n ≤ m.world.drawn
  | .machine s _ => SUp n s
theorem advance_up {n : Nat} {m : Machine} {t : Nat} (h : n ≤ m.world.drawn) : n ≤ (m.advanceTo t).world.drawn := h
theorem serve_up {n : Nat} {p : Program} {m : Machine} {k : Nat} (h : n ≤ m.world.drawn) : SUp n (serve p m k) := by
  unfold serve
  split
  · trivial
  · exact h
  · simp only
    split
    · trivial
    · exact h
theorem askOn_up {n : Nat} {p : Program} {m : Machine} (h : n ≤ m.world.drawn) : MUp n (askOn p m) := by
  unfold askOn
  simp only
  split
  · trivial
  · rename_i k w1 e
    have h1 := run_ok e h
    split
    · exact serve_up h1
    · split
      · split
        · exact advance_up h1
        · split
          · exact h1
          · split <;> trivial
      · split
        · split
          · trivial
          · rename_i e2
            have h2 := run_ok e2 h1
            split
            · exact h2
            · split
              · trivial
              · rename_i e3; exact run_ok e3 h2
        · split
          · trivial
          · rename_i e4
            have h2 := run_ok e4 h1
            split
            · trivial
            · rename_i e5
              have h3 := run_ok e5 h2
              split
              · exact h3
              · split
                · trivial
                · rename_i e6; exact run_ok e6 h3
          · rename_i e4
            have h2 := run_ok e4 h1
            exact advance_up h2
          · rename_i e4
            have h2 := run_ok e4 h1
            split
            · trivial
            · rename_i e5
              have h3 := run_ok e5 (advance_up (m := { m with world := _ }) h2)
              split
              · exact h3
              · split
                · trivial
                · rename_i e6; exact run_ok e6 h3
theorem mask_up {n : Nat} {p : Program} {m : Machine} (h : n ≤ m.world.drawn) : MUp n (ask p m) := by
  unfold ask
  split
  · split
    · trivial
    · rename_i e
      have h1 := run_ok e h
      have h2 := look_up (p := p) (gs := m.gs) (r := m.rest) h1
      split
      · rename_i e2; rw [e2] at h2; exact askOn_up h2
      · exact h2
    · rename_i e
      have h1 := run_ok e h
      exact askOn_up h1
  · exact askOn_up h
theorem move_up {n : Nat} {p : Program} {m : Machine} (h : n ≤ m.world.drawn) : MUp n (move p m) := by
  unfold move
  split
  · split
    · exact h
    · trivial
  · split
    · split
      · exact h
      · exact mask_up h
    · exact mask_up h
theorem step_up {n : Nat} {p : Program} {m : Machine} (h : n ≤ m.world.drawn) : SUp n (step p m) := by
  have hm := move_up (p := p) h
  unfold step stepT
  split
  · rename_i e; rw [e] at hm; exact mrunT_up hm
  · rename_i e; rw [e] at hm; exact hm
theorem runN_up {p : Program} {n : Nat} : ∀ (k : Nat) (m m' : Machine), n ≤ m.world.drawn → runN p k m = .next m' → n ≤ m'.world.drawn
  | 0, m, m', h, e => by rw [runN] at e; injection e with e; subst e; exact h
  | k + 1, m, m', h, e => by
    rw [runN] at e
    have := step_up (p := p) h
    split at e
    · rename_i m1 e1; rw [e1] at this; exact runN_up k m1 m' this e
    · rename_i hx; exact absurd e (hx m')
/-- NO CALL TAKES A DRAW BACK. -/
theorem calls_drawn {P : Program} {f : FuncId} {args : Array Value} {w : World} {R : Ending → World → Prop} (h : Calls P f args w R) (hr : ∀ w', ¬ R .outgrown w') : Calls P f args w fun e w' => R e w' ∧ w.drawn ≤ w'.drawn := by
  intro cs
  obtain ⟨e, w', fr, h1, h2, h3⟩ := h cs
  refine ⟨e, w', fr, ⟨h1, ?_⟩, h2, h3⟩
  cases e with
  | outgrown => exact absurd h1 (hr w')
  | returned v => obtain ⟨k, hk⟩ := h2; exact runN_up k _ _ (Nat.le_refl w.drawn) hk
  | panicked c => obtain ⟨k, hk⟩ := h2; exact runN_up k _ _ (Nat.le_refl w.drawn) hk
end Go.Proofs.YtooocakkjdhfiaaGreatDoor.Drw
/- Rows whose cells are stored anew; what is kept of a list. -/
namespace Go.Proofs.YtooocakkjdhfiaaGreatDoor
set_option maxRecDepth 100000
open Go.RowKit

/-! ### rows whose cells are stored -/
theorem RowAt.setCells {b off : Nat} {e : TypeId} : ∀ (us : List Value) {w : World} {vs : List Value} {s : Nat}, RowAt w b off e vs → s + us.length ≤ vs.length → ∃ vs', RowAt (w.setCells b (off + s) us) b off e vs' ∧ vs'.length = vs.length ∧ ∀ i, i < s → vs'[i]? = vs[i]?
  | [], w, vs, s, h, _ => ⟨vs, h, rfl, fun _ _ => rfl⟩
  | u :: us, w, vs, s, h, hl => by
    simp only [List.length_cons] at hl
    have h1 := h.set (i := s) (by omega) u
    obtain ⟨vs', h2, h3, h4⟩ := RowAt.setCells us (s := s + 1) h1 (by rw [List.length_set]; omega)
    refine ⟨vs', ?_, by rw [h3, List.length_set], fun i hi => ?_⟩
    · rw [World.setCells]
      rw [show off + s + 1 = off + (s + 1) by omega]
      exact h2
    · rw [h4 i (by omega), List.getElem?_set_ne (by omega)]
theorem Mk.setCells {F : List Nat} {b : Nat} (hb : b ∈ F) : ∀ (us : List Value) (o : Nat) (w : World), Mk F w (w.setCells b o us)
  | [], _, w => Mk.refl _ _
  | u :: us, o, w => by rw [World.setCells]; exact (Mk.set hb u).trans (Mk.setCells hb us (o + 1) _)
/-- clear(s) of a list of structs -/
theorem run_clear_rows {P : Program} (w : World) (t e : TypeId) (z : Value) (m : Nat) (ht : P.underlying t = some (.slice e)) (hv : ∀ w, (zeroValue e).run P w = .ok z w) (hz : z.cells.size = m) (hm : 0 < m) (h1 : ∀ v ∈ z.cells.toList, v.oneCell' = true) (b o n c : Nat) (hn : 0 < n)
    (hc : ∀ j, j < n * m → (w.cell? ⟨b, o + j, none⟩).isSome = true) (hf : ∀ j, j < n * m → w.frozen? ⟨b, o + j, none⟩ = false) :
    ∃ us : List Value, us.length = n * m ∧ ∀ ty, (Builtin.clear_ #[t] ty #[.slice (some ⟨b, o, none⟩) n c]).run P w = .ok (.tuple #[]) (w.setCells b o us) := by
  have hl : (Builtin.zeroCells z.cells n).toList.length = n * m := by simp [Builtin.zeroCells, hz]
  refine ⟨(Builtin.zeroCells z.cells n).toList, hl, fun ty => ?_⟩
  have hst := run_storeCells_cells (P := P) b o (Builtin.zeroCells z.cells n).toList 0 w (by rw [hl]; simpa using hc) (by rw [hl]; simpa using hf) (by
    intro v hv'
    simp only [Builtin.zeroCells, Array.toList_map, List.mem_map] at hv'
    obtain ⟨i, hi, rfl⟩ := hv'
    have hlt : i % z.cells.size < z.cells.size := Nat.mod_lt _ (by omega)
    rw [getElem!_pos z.cells _ hlt]
    exact h1 _ (by simp))
  simp only [Nat.add_zero] at hst
  obtain ⟨n, rfl⟩ : ∃ k, n = k + 1 := ⟨n - 1, by omega⟩
  simp [Builtin.clear_, run_underlying ht, hv, hst]

/-! ### what is kept -/
theorem filter_take_snoc {α : Type} (p : α → Bool) (d : List α) (j : Nat) (h : j < d.length) : (d.take (j + 1)).filter p = (d.take j).filter p ++ if p d[j] = true then [d[j]] else [] := by
  rw [List.take_succ_eq_append_getElem h, List.filter_append]
  congr 1
  cases hp : p d[j] <;> simp [hp]
/-- the row after j items: the kept ones ahead, those to come as they were -/
def KInv {α : Type} (p : α → Bool) (d : List α) (j i : Nat) (E : List α) : Prop := E.length = d.length ∧ i = ((d.take j).filter p).length ∧ E.take i = (d.take j).filter p ∧ E.drop j = d.drop j ∧ i < j ∧ j ≤ d.length
theorem KInv.keep {α : Type} {p : α → Bool} {d E : List α} {j i : Nat} (h : KInv p d j i E) (hj : j < d.length) (hp : p d[j] = true) : KInv p d (j + 1) (i + 1) (E.set i d[j]) := by
  obtain ⟨h0, h1, h2, h3, h4, h5⟩ := h
  have hs := filter_take_snoc p d j hj
  rw [if_pos hp] at hs
  refine ⟨by rw [List.length_set, h0], by rw [hs, List.length_append, ← h1]; rfl, ?_, ?_, by omega, by omega⟩
  · rw [hs, ← h2]
    rw [List.take_succ_eq_append_getElem (by rw [List.length_set]; omega), List.take_set_of_le (Nat.le_refl _)]
    simp
  · rw [List.drop_set_of_lt (by omega)]
    have := congrArg (List.drop 1) h3
    simpa only [List.drop_drop] using this
theorem KInv.skip {α : Type} {p : α → Bool} {d E : List α} {j i : Nat} (h : KInv p d j i E) (hj : j < d.length) (hp : p d[j] = false) : KInv p d (j + 1) i E := by
  obtain ⟨h0, h1, h2, h3, h4, h5⟩ := h
  have hs := filter_take_snoc p d j hj
  rw [if_neg (by simp [hp]), List.append_nil] at hs
  exact ⟨h0, by rw [hs]; exact h1, by rw [hs]; exact h2, by have := congrArg (List.drop 1) h3; simpa only [List.drop_drop] using this, by omega, by omega⟩
theorem KInv.at {α : Type} {p : α → Bool} {d E : List α} {j i : Nat} (h : KInv p d j i E) (hj : j < d.length) (hE : j < E.length) : E[j] = d[j] := by
  have h3 := h.2.2.2.1
  rw [List.drop_eq_getElem_cons hE, List.drop_eq_getElem_cons hj] at h3
  injection h3
theorem KInv.start {α : Type} {p : α → Bool} {d : List α} {k : Nat} (hk : k < d.length) (hall : ∀ j (h : j < d.length), j < k → p d[j] = true) (hno : p d[k] = false) : KInv p d (k + 1) k d := by
  have hf : (d.take k).filter p = d.take k := by
    rw [List.filter_eq_self]
    intro a ha
    obtain ⟨j, hj, rfl⟩ := List.mem_iff_getElem.1 ha
    rw [List.length_take] at hj
    rw [List.getElem_take]
    exact hall j (by omega) (by omega)
  have hs := filter_take_snoc p d k hk
  rw [if_neg (by simp [hno]), List.append_nil, hf] at hs
  exact ⟨rfl, by rw [hs, List.length_take]; omega, by rw [hs], rfl, by omega, by omega⟩
end Go.Proofs.YtooocakkjdhfiaaGreatDoor
/- Literals as rows; neighbours that are alike are struck: plain. -/
namespace Go.Proofs.YtooocakkjdhfiaaGreatDoor
set_option maxRecDepth 100000
open Go.RowKit

abbrev LV := Lit × Value
abbrev TV := Bool × LV
def Lit.ev (p : LV) : List Value := [.bool p.1.pos, .string p.1.atom.name, p.2]
def Lit.ed (p : LV) : List D := p.1.cs
theorem Lit.ev_ed (p : LV) : (Lit.ev p).length = (Lit.ed p).length := by rw [Lit.ed, Lit.cs_eq]; rfl
theorem Lit.items {w : World} : ∀ (xs : List Lit) (vs : List Value) (F : List Nat), OwnsL w vs (Lit.css xs) F → ∃ d : List LV, d.map Prod.fst = xs ∧ vs = d.flatMap Lit.ev ∧ ∀ p ∈ d, p.1.atom.name.size ≤ maxLen ∧ (∃ a c, p.2 = .slice a p.1.atom.args.length c) ∧ D.rd (· ∈ F) w p.2 (Tm.sd p.1.atom.args)
  | [], vs, F, h => by
    have := h.length
    have hv : vs = [] := List.length_eq_zero_iff.1 (by simpa [Lit.css] using this)
    exact ⟨[], rfl, hv, by simp⟩
  | x :: xs, vs, F, h => by
    have hl := h.length
    rw [Lit.css_flat, List.flatMap_cons, Lit.cs_eq] at h hl
    simp only [List.length_append, List.length_cons, List.length_nil] at hl
    match vs, hl, h with
    | v0 :: v1 :: v2 :: vs, _, h =>
      rw [show ([D.bit x.pos, D.str x.atom.name, Tm.sd x.atom.args] ++ xs.flatMap Lit.cs) = D.bit x.pos :: D.str x.atom.name :: Tm.sd x.atom.args :: xs.flatMap Lit.cs from rfl] at h
      rw [OwnsL] at h
      obtain ⟨G0, R0, e0, _, o0, h⟩ := h
      rw [OwnsL] at h
      obtain ⟨G1, R1, e1, _, o1, h⟩ := h
      rw [OwnsL] at h
      obtain ⟨G2, R2, e2, _, o2, h⟩ := h
      have o0' : v0 = .bool x.pos := by have := o0; unfold D.own at this; exact this.1
      have o1' : v1 = .string x.atom.name ∧ x.atom.name.size ≤ maxLen := by have := o1; unfold D.own at this; exact ⟨this.1, this.2.1⟩
      obtain ⟨d, hd, hv, hs⟩ := Lit.items xs vs R2 (by rw [Lit.css_flat]; exact h)
      refine ⟨(x, v2) :: d, by simp [hd], ?_, fun p hp => ?_⟩
      · rw [o0', o1'.1, hv, List.flatMap_cons]; rfl
      · rcases List.mem_cons.1 hp with rfl | hp
        · exact ⟨o1'.2, Tm.sd_own_form o2, D.rd_mono (fun y hy => by rw [e0, e1, e2]; simp [hy]) _ _ (D.own_rd _ _ _ o2)⟩
        · obtain ⟨q0, q1, q2⟩ := hs p hp
          exact ⟨q0, q1, D.rd_mono (fun y hy => by rw [e0, e1, e2]; simp [hy]) _ _ q2⟩
    | [_, _], hl, _ => simp at hl; omega
    | [_], hl, _ => simp at hl; omega
    | [], hl, _ => simp at hl; omega
theorem Lit.flat_ed (d : List LV) : d.flatMap Lit.ed = Lit.css (d.map Prod.fst) := by
  induction d with
  | nil => rfl
  | cons p d ih => rw [List.flatMap_cons, ih, List.map_cons, Lit.css_flat, Lit.css_flat, List.flatMap_cons]; rfl
/-! items with a tag -/
def TV.ev (p : TV) : List Value := Lit.ev p.2
theorem TV.ev_get : ∀ (d : List TV) (k : Nat) (h : k < d.length), (d.flatMap TV.ev)[k * 3]? = some (.bool d[k].2.1.pos) ∧ (d.flatMap TV.ev)[k * 3 + 1]? = some (.string d[k].2.1.atom.name) ∧ (d.flatMap TV.ev)[k * 3 + 2]? = some d[k].2.2
  | [], k, h => absurd h (by simp)
  | p :: d, 0, _ => by simp [TV.ev, Lit.ev]
  | p :: d, k + 1, h => by
    have ih := TV.ev_get d k (by simpa using h)
    rw [List.flatMap_cons, TV.ev, Lit.ev]
    rw [show (k + 1) * 3 = k * 3 + 1 + 1 + 1 by omega, show k * 3 + 1 + 1 + 1 + 1 = (k * 3 + 1) + 1 + 1 + 1 by omega, show k * 3 + 1 + 1 + 1 + 2 = (k * 3 + 2) + 1 + 1 + 1 by omega]
    simpa using ih
theorem TV.ev_length (d : List TV) : (d.flatMap TV.ev).length = d.length * 3 := by
  induction d with
  | nil => rfl
  | cons p d ih => rw [List.flatMap_cons, List.length_append, ih, List.length_cons]; show 3 + _ = _; omega
theorem TV.ev_set : ∀ (d : List TV) (k : Nat) (p : TV) (_ : k < d.length), (((d.flatMap TV.ev).set (k * 3) (.bool p.2.1.pos)).set (k * 3 + 1) (.string p.2.1.atom.name)).set (k * 3 + 2) p.2.2 = (d.set k p).flatMap TV.ev
  | [], k, _, h => absurd h (by simp)
  | q :: d, 0, p, _ => by simp [TV.ev, Lit.ev]
  | q :: d, k + 1, p, h => by
    have ih := TV.ev_set d k p (by simpa using h)
    rw [List.set_cons_succ, List.flatMap_cons, List.flatMap_cons, TV.ev, Lit.ev]
    rw [show (k + 1) * 3 = k * 3 + 1 + 1 + 1 by omega, show k * 3 + 1 + 1 + 1 + 1 = (k * 3 + 1) + 1 + 1 + 1 by omega, show k * 3 + 1 + 1 + 1 + 2 = (k * 3 + 2) + 1 + 1 + 1 by omega]
    simpa using ih
theorem TV.ev_take (d : List TV) (k : Nat) : ∀ i, i < k * 3 → (d.flatMap TV.ev)[i]? = ((d.take k).flatMap TV.ev)[i]? := by
  intro i hi
  have e : d.flatMap TV.ev = (d.take k).flatMap TV.ev ++ (d.drop k).flatMap TV.ev := by rw [← List.flatMap_append, List.take_append_drop]
  rw [e]
  by_cases hk : k ≤ d.length
  · rw [List.getElem?_append_left (by rw [TV.ev_length, List.length_take, Nat.min_eq_left hk]; exact hi)]
  · rw [List.drop_eq_nil_of_le (by omega)]; simp
/-- the tag tells whether an item differs from the one before it -/
def tagD : Option Lit → List LV → List TV
  | _, [] => []
  | o, p :: d => ((match o with | none => true | some y => !Lit.eqb p.1 y), p) :: tagD (some p.1) d
theorem tagD_snd : ∀ (o : Option Lit) (d : List LV), (tagD o d).map Prod.snd = d
  | o, [] => by cases o <;> rfl
  | o, p :: d => by simp only [tagD, List.map_cons, tagD_snd]
theorem tagD_length (o : Option Lit) (d : List LV) : (tagD o d).length = d.length := by
  have := congrArg List.length (tagD_snd o d); simpa using this
theorem tagD_ev (o : Option Lit) (d : List LV) : (tagD o d).flatMap TV.ev = d.flatMap Lit.ev := by
  conv => rhs; rw [← tagD_snd o d]
  rw [List.flatMap_map]; rfl
theorem tagD_get (o : Option Lit) (d : List LV) (k : Nat) (h : k < (tagD o d).length) (h' : k < d.length) : (tagD o d)[k].2 = d[k] := by
  have : ((tagD o d).map Prod.snd)[k]'(by simpa using h) = d[k] := by simp only [tagD_snd]
  simpa using this
theorem tagD_first (d : List LV) (h : 0 < (tagD none d).length) : (tagD none d)[0].1 = true := by
  cases d with
  | nil => simp [tagD] at h
  | cons p d => rfl
theorem tagD_next : ∀ (o : Option Lit) (d : List LV) (k : Nat) (h : k + 1 < (tagD o d).length) (h1 : k + 1 < d.length), (tagD o d)[k + 1].1 = !Lit.eqb d[k + 1].1 d[k].1
  | o, [], k, h, _ => absurd h (by simp [tagD])
  | o, [p], k, h, _ => absurd h (by simp [tagD])
  | o, p :: q :: d, 0, _, _ => by simp [tagD]
  | o, p :: q :: d, k + 1, h, h1 => by
    have := tagD_next (some p.1) (q :: d) k (by simpa [tagD] using h) (by simpa using h1)
    simpa [tagD] using this
theorem tagD_ded : ∀ (d : List LV) (y : Lit), (((tagD (some y) d).filter Prod.fst).map fun p => p.2.1) = dedL y (d.map Prod.fst)
  | [], y => rfl
  | p :: d, y => by
    rw [tagD, List.map_cons, dedL]
    cases he : Lit.eqb p.1 y with
    | true =>
      rw [List.filter_cons_of_neg (by simp), if_pos rfl, tagD_ded d p.1, (Lit.eqb_iff _ _).1 he]
    | false =>
      rw [List.filter_cons_of_pos (by simp), if_neg (by simp), List.map_cons, tagD_ded d p.1]
theorem tagD_compact (d : List LV) : (((tagD none d).filter Prod.fst).map fun p => p.2.1) = compactL (d.map Prod.fst) := by
  cases d with
  | nil => rfl
  | cons p d =>
    rw [tagD, List.filter_cons_of_pos rfl, List.map_cons, tagD_ded, List.map_cons, compactL]
/-- no two neighbours alike: nothing is struck -/
theorem compact_same {xs : List Lit} (h : ∀ k (h : k + 1 < xs.length), Lit.eqb xs[k + 1] xs[k] = false) : compactL xs = xs := by
  have key : ∀ (r : List Lit) (y : Lit), (∀ k (h : k + 1 < (y :: r).length), Lit.eqb (y :: r)[k + 1] (y :: r)[k] = false) → dedL y r = r := by
    intro r
    induction r with
    | nil => intro _ _; rfl
    | cons x r ih =>
      intro y h
      have h0 : Lit.eqb x y = false := h 0 (by simp)
      rw [dedL, if_neg (by rw [h0]; decide), ih x fun k hk => by have := h (k + 1) (by simpa using hk); simpa using this]
  cases xs with
  | nil => rfl
  | cons y r => rw [compactL, key r y h]
theorem compact_length (xs : List Lit) : (compactL xs).length ≤ xs.length := by
  have key : ∀ (r : List Lit) (y : Lit), (dedL y r).length ≤ r.length := by
    intro r
    induction r with
    | nil => intro _; simp [dedL]
    | cons x r ih =>
      intro y
      rw [dedL]
      split
      · have := ih y; simp; omega
      · have := ih x; simp; omega
  cases xs with
  | nil => simp [compactL]
  | cons y r => have := key r y; simp [compactL]; omega
end Go.Proofs.YtooocakkjdhfiaaGreatDoor
