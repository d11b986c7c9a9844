/- Several texts in one file. -/
import Derived.Test.YtglhbaigigdeeaaGreatQ05
import Derived.Test.YtglhbaigigdeeaaGreatQ06
import Derived.Shelf.SlSortCmp.NoneTotal
import Derived.Test.YtglhbaigigdeeaaGreatSortL
import Derived.Test.YtglhbaigigdeeaaGreatQ10
import Derived.Test.YtglhbaigigdeeaaGreatQ11
import Derived.Test.YtglhbaigigdeeaaGreatQ12
import Derived.Test.YtglhbaigigdeeaaGreatQ04
import Derived.Test.YtglhbaigigdeeaaGreatQ13
import Derived.Test.YtglhbaigigdeeaaGreatQ09
/- Rows of items are sorted: the library's law, at lists. -/
namespace Go.Proofs.YtglhbaigigdeeaaGreat
set_option maxRecDepth 100000
open Go.RowKit

theorem flatV_get {α : Type} {enc : α → List Value} {k : Nat} (hk : ∀ x, (enc x).length = k) (d : List α) (i c : Nat) (hi : i < d.length) (hc : c < k) : (d.flatMap enc)[i * k + c]? = (enc d[i])[c]? := by
  induction d generalizing i with
  | nil => exact absurd hi (by simp)
  | cons y ys ih =>
    rw [List.flatMap_cons]
    cases i with
    | zero => rw [Nat.zero_mul, Nat.zero_add, List.getElem?_append_left (by rw [hk y]; exact hc)]; rfl
    | succ i =>
      rw [List.getElem?_append_right (by rw [hk y, Nat.add_mul, Nat.one_mul]; omega), hk y, show (i + 1) * k + c - k = i * k + c by rw [Nat.add_mul, Nat.one_mul]; omega, ih i (by simpa using hi)]
      rfl
theorem flatV_length {α : Type} {enc : α → List Value} {k : Nat} (hk : ∀ x, (enc x).length = k) (d : List α) : (d.flatMap enc).length = d.length * k := by
  induction d with
  | nil => simp
  | cons y ys ih => rw [List.flatMap_cons, List.length_append, ih, hk y, List.length_cons, Nat.add_mul, Nat.one_mul, Nat.add_comm]
section
variable {α : Type} [Inhabited α] {enc : α → List Value} {k : Nat}
theorem flatK_get (hk : ∀ x, (enc x).length = k) (d : List α) (t : Nat) (ht : t < d.length * k) : (d.flatMap enc)[t]? = some (Go.Sort.flatK enc k d.toArray)[t]! := by
  have hk0 : 0 < k := by
    rcases Nat.eq_zero_or_pos k with h | h
    · subst h; simp at ht
    · exact h
  have hi : t / k < d.length := (Nat.div_lt_iff_lt_mul hk0).2 ht
  have hc : t % k < k := Nat.mod_lt _ hk0
  have he : t / k * k + t % k = t := Nat.div_add_mod' t k
  have h0 := flatV_get hk d (t / k) (t % k) hi hc
  rw [he] at h0
  rw [h0, Go.Sort.get_flatK _ _ _ _ (by simpa using ht), List.getElem?_eq_getElem (by rw [hk]; exact hc), getElem!_pos d.toArray (t / k) (by simpa using hi)]
  rw [getElem!_pos (enc d.toArray[t / k]) (t % k) (by rw [hk]; exact hc)]
  simp
theorem holds_of_row (hk : ∀ x, (enc x).length = k) {w : World} {b off : Nat} {e : TypeId} {d : List α} (h : RowAt w b off e (d.flatMap enc)) : Go.Sort.HoldsK enc k w b off d.toArray := by
  intro j hj
  rw [Go.Sort.size_flatK] at hj
  have hj' : j < d.length * k := by simpa using hj
  have hl : j < (d.flatMap enc).length := by rw [flatV_length hk]; exact hj'
  refine ⟨?_, h.free _⟩
  rw [h.cell hl]
  have := flatK_get hk d j hj'
  rw [List.getElem?_eq_getElem hl] at this
  exact this
theorem row_of_holds (hk : ∀ x, (enc x).length = k) {w : World} {b off : Nat} {e : TypeId} {d : List α} {cur : Array Value} (hb : w.heap[b]? = some (.cells cur e (0, 0))) (h : Go.Sort.HoldsK enc k w b off d.toArray) : RowAt w b off e (d.flatMap enc) := by
  refine ⟨cur, hb, fun i hi => ?_⟩
  have hi' : i < d.length * k := by rw [flatV_length hk] at hi; exact hi
  have h0 := (h i (by rw [Go.Sort.size_flatK]; simpa using hi')).1
  have h1 := flatK_get hk d i hi'
  rw [List.getElem?_eq_getElem hi] at h1
  have h2 := Option.some.inj h1
  simp only [World.cell?, hb] at h0
  simp only [Option.isSome_none, Bool.false_eq_true, if_false] at h0
  rw [h0, h2]
  rfl
theorem sortWorld_row {w : World} {b off n : Nat} {e : TypeId} {cur : Array Value} {d : Array α} {os : Array Obj} (hb : w.heap[b]? = some (.cells cur e (0, 0))) :
    (∃ cur', (Go.Proofs.sortWorldK enc k w b off n d os).heap[b]? = some (.cells cur' e (0, 0))) ∧ w.grownBy (Go.Proofs.sortWorldK enc k w b off n d os) (some b) := by
  have hl := lt_of_heap hb
  have hz : (Go.Sort.putRowK enc k (Go.Sort.ahead w n) b off d).heap.size = w.heap.size := by
    simp [Go.Sort.putRowK, Go.Sort.putRow, Go.Sort.mapBlock, Go.Sort.ahead]
  refine ⟨?_, rfl, rfl, rfl, ?_, fun j hj hne => ?_⟩
  · refine ⟨(Go.Sort.putCells id off (Go.Sort.flatK enc k d)) cur, ?_⟩
    show (Go.Sort.grow _ os).heap[b]? = _
    rw [Go.Sort.heap_grow_old _ _ (by rw [hz]; exact hl)]
    show (w.heap.modify b _)[b]? = _
    rw [Array.getElem?_modify, if_pos rfl, hb]
    rfl
  · show _ ≤ (Go.Sort.grow _ os).heap.size
    rw [Go.Sort.size_grow, hz]; omega
  · show (Go.Sort.grow _ os).heap[j]? = _
    rw [Go.Sort.heap_grow_old _ _ (by rw [hz]; exact hj)]
    show (w.heap.modify b _)[j]? = _
    rw [Array.getElem?_modify, if_neg (fun e => hne (by rw [e]))]

/-- SORTING, AT LISTS -/
theorem sort_rows {P : Program} {ρ : Go.Shelf.Ren} (L : Go.Proofs.SlLaysF0.n6 P ρ) (aE : ∀ w, (isAgg (ρ.t 24)).run P w = .ok true w) (zE : ∀ w, (Go.sizeOf (ρ.t 24)).run P w = .ok k w) (hk : ∀ x, (enc x).length = k) (h1 : ∀ x, ∀ v ∈ enc x, v.oneCell' = true) (cf : α → α → Int) (hO : Go.Sort.SWO (Go.Proofs.ltOf cf)) (g : Nat) (cb : Array Value)
    {b off cap : Nat} {e : TypeId} {d : List α} {w : World} (eg : ∀ args w, (callFunc g args).run P w = .ok (.enter g args) w) (hcmp : Go.Proofs.CmpLays P g cb enc k cf b off d.length w) (hrow : RowAt w b off e (d.flatMap enc)) (hsz : d.length < 4611686018427387904) :
    Calls P (ρ.f 6) #[.slice (some ⟨b, off, none⟩) d.length cap, .func (.func g) #[] cb] w fun r w' => r = .returned (.tuple #[]) ∧ ∃ d' : List α, d'.Perm d ∧ d'.Pairwise (fun x y => ¬ cf y x < 0) ∧ RowAt w' b off e (d'.flatMap enc) ∧ w.grownBy w' (some b) := by
  have hH := holds_of_row hk hrow
  have hbl := hrow.lt
  obtain ⟨cur, hb, -⟩ := hrow
  have hs : d.toArray.size = d.length := by simp
  have hq := Go.Proofs.AnyQ.slices_SortFunc L k aE zE enc hk h1 cf hO g cb b off cap d.toArray w eg (by rw [hs]; exact hcmp) hH hbl (by rw [hs]; exact hsz)
  rw [hs] at hq
  refine hq.mono ?_
  rintro r w' ⟨rfl, d', n, os, hp, hso, rfl⟩
  obtain ⟨hp0, -, hp1⟩ := hp
  have hs' : d'.size = d.length := by rw [hp0, hs]
  obtain ⟨⟨cur', hc'⟩, hg⟩ := sortWorld_row (enc := enc) (k := k) (off := off) (n := n) (d := d') (os := os) hb
  refine ⟨rfl, d'.toList, ?_, ?_, row_of_holds hk hc' ?_, hg⟩
  · have e1 : d'.extract 0 d.length = d' := by rw [← hs']; simp
    have e2 : d.toArray.extract 0 d.length = d.toArray := by rw [← hs]; simp
    rw [e1, e2] at hp1
    simpa using hp1
  · rw [List.pairwise_iff_getElem]
    intro i j hi hj hij
    have := hso i j (Nat.zero_le _) hij (by simpa [← hs'] using hj)
    rw [getElem!_pos d' i (by simpa using hi), getElem!_pos d' j (by simpa using hj)] at this
    simpa [Go.Proofs.ltOf] using this
  · have := Go.Proofs.holdsK_sortWorldK_c enc k w b off d.toArray d' n os hH hbl (by rw [hs', hs])
    simpa using this
end
/-- a call that changes nothing old and gives no draw back has laid blocks and drawn -/
theorem grow_of_below {w w' : World} (h : Below w.heap.size w w') (hd : w.drawn ≤ w'.drawn) : ∃ q os, w' = Go.Sort.grow (w.drewN q) os := by
  refine ⟨w'.drawn - w.drawn, w'.heap.extract w.heap.size w'.heap.size, ?_⟩
  have hh : w'.heap = w.heap ++ w'.heap.extract w.heap.size w'.heap.size := by
    apply Array.ext_getElem?
    intro i
    rw [Array.getElem?_append]
    split
    · rename_i hi; exact h.block i hi
    · rename_i hi
      rw [Array.getElem?_extract]
      split
      · congr 1; omega
      · rw [Array.getElem?_eq_none (by omega)]
  obtain ⟨h0, h1, h2, -, -⟩ := h
  cases w; cases w'
  simp only [Go.Sort.grow, World.drewN] at *
  subst h0 h1 h2
  congr 1
  · omega
end Go.Proofs.YtglhbaigigdeeaaGreat
/- Literals are sorted by the library's law. -/
namespace Go.Proofs.YtglhbaigigdeeaaGreat
set_option maxRecDepth 100000
open Go.RowKit

/-- an item of the row: its atom tells by first bytes, its arguments read in w0 within S -/
def GoodL (S : Nat → Prop) (w0 : World) (p : LV) : Prop := p.1.atom.nice = true ∧ p.1.atom.name.size ≤ maxLen ∧ D.rd S w0 p.2 (Tm.sd p.1.atom.args)
abbrev GV (S : Nat → Prop) (w0 : World) := { p : LV // GoodL S w0 p }
def GV.enc {S : Nat → Prop} {w0 : World} (x : GV S w0) : List Value := Lit.ev x.1
def GV.cmp {S : Nat → Prop} {w0 : World} (x y : GV S w0) : Int := Lit.cmp x.1.1 y.1.1
theorem GV.swo {S : Nat → Prop} {w0 : World} : Go.Sort.SWO (Go.Proofs.ltOf (GV.cmp (S := S) (w0 := w0))) where
  irrefl x := by simp [Go.Proofs.ltOf, GV.cmp, Lit.cmp_self]
  trans x y z h1 h2 := by
    exact decide_eq_true (Lit.lt_trans (of_decide_eq_true h1) (of_decide_eq_true h2))
  ntrans x y z h1 h2 := by
    exact decide_eq_false (Lit.lt_ntrans (of_decide_eq_false h1) (of_decide_eq_false h2))
theorem GV.one {S : Nat → Prop} {w0 : World} (x : GV S w0) : ∀ v ∈ GV.enc x, v.oneCell' = true := by
  intro v hv
  obtain ⟨a, c, e, -⟩ := Tm.sd_form x.2.2.2
  simp only [GV.enc, Lit.ev, List.mem_cons, List.not_mem_nil, or_false] at hv
  rcases hv with rfl | rfl | rfl
  · rfl
  · rfl
  · rw [e]; rfl
theorem GV.lift {S : Nat → Prop} {w0 : World} : ∀ (d : List LV), (∀ p ∈ d, GoodL S w0 p) → ∃ d2 : List (GV S w0), d2.map (fun p => p.1) = d ∧ d2.flatMap GV.enc = d.flatMap Lit.ev
  | [], _ => ⟨[], rfl, rfl⟩
  | p :: d, h => by
    obtain ⟨d2, h1, h2⟩ := GV.lift d fun q hq => h q (by simp [hq])
    exact ⟨⟨p, h p (by simp)⟩ :: d2, by simp [h1], by rw [List.flatMap_cons, List.flatMap_cons, h2]; rfl⟩
theorem cmpLit {S : Nat → Prop} {w0 W : World} (hk : Keeps S w0 W) (x y : GV S w0) : Calls Tryz.prog 55 #[.agg (GV.enc x).toArray, .agg (GV.enc y).toArray] W fun e w' => e = .returned (.int .i64 (GV.cmp x y)) ∧ ∃ q os, w' = Go.Sort.grow (W.drewN q) os := by
  obtain ⟨⟨t, c⟩, h1, h2, h3⟩ := x
  obtain ⟨⟨u, d⟩, k1, k2, k3⟩ := y
  have hq := compareLiterals_nice (t := t) (u := u) h1 k1 (S := S) (w := W) (c0 := .bool t.pos) (c1 := .string t.atom.name) (c2 := c) (d0 := .bool u.pos) (d1 := .string u.atom.name) (d2 := d) ⟨by rw [D.rd], D.rd_str h2, D.rd_keep hk _ _ h3⟩ ⟨by rw [D.rd], D.rd_str k2, D.rd_keep hk _ _ k3⟩
  refine (Drw.calls_drawn hq ?_).mono ?_
  · rintro w' ⟨v, e, -⟩
    cases e
  · rintro e w' ⟨⟨v, rfl, hb, rfl⟩, hd⟩
    exact ⟨rfl, grow_of_below hb hd⟩
theorem isAggLV (w : World) : (isAgg 58).run Tryz.prog w = .ok true w := by kernel_rfl
theorem sizeOfLV (w : World) : (Go.sizeOf 58).run Tryz.prog w = .ok 3 w := by kernel_rfl
theorem mk_of_grownL {F : List Nat} {b : Nat} {w w' : World} (hb : b ∈ F) (hg : w.grownBy w' (some b)) : Mk F w w' :=
  ⟨⟨hg.size, fun x hx hl => hg.block x hl fun e => hx (by injection e with e; rw [e]; exact hb)⟩, fun B hB hF => (Below.refl B w).grown hg hB fun k hk => by injection hk with hk; rw [← hk]; exact hF b hb⟩
def LeL (x y : Lit) : Prop := ¬ Lit.cmp y x < 0
set_option maxHeartbeats 1000000 in
theorem sortLit_any {xs : List Lit} {v : Value} {F : List Nat} {w : World} (ho : D.own w v (Lit.sd xs) F) (hl : xs.length ≤ 1073741824) (hni : ∀ x ∈ xs, x.atom.nice = true) :
    Calls Tryz.prog 54 #[v, .func (.func 55) #[] #[]] w fun e w' => e = .returned (.tuple #[]) ∧ ∃ ys F', ys.Perm xs ∧ ys.Pairwise LeL ∧ D.own w' v (Lit.sd ys) F' ∧ (∀ y ∈ F', y ∈ F) ∧ Mk F w w' := by
  obtain ⟨a, c, rfl⟩ := Lit.sd_own_form ho
  by_cases hne : xs = []
  · subst hne
    have := Go.Proofs.AnyF.slices_SortFunc_none Tryz.SortL a c (.func (.func 55) #[] #[]) w
    refine Calls.mono this ?_
    rintro e w' ⟨rfl, rfl⟩
    exact ⟨rfl, [], F, List.Perm.refl _, List.Pairwise.nil, ho, fun _ h => h, Mk.refl _ _⟩
  · have ho2 := ho
    have hcap : xs.length ≤ big ∧ xs.length ≤ c := by rw [Lit.sd_css, D.own] at ho; obtain ⟨_, _, e, h1, h, _⟩ := ho; injection e with _ _ e; subst e; exact ⟨h1, h⟩
    rw [Lit.sd_css] at ho2
    obtain ⟨b, off, ty, vs, F', rfl, rfl, hbF, hrow, hvl, hol⟩ := own_row ho2 (Lit.css_ne hne)
    obtain ⟨d, hd, hvd, hds⟩ := Lit.items xs vs F' hol
    obtain ⟨d2, hd2, he2⟩ := GV.lift (S := (· ∈ F')) (w0 := w) d fun p hp => ⟨hni _ (by rw [← hd]; exact List.mem_map.2 ⟨p, hp, rfl⟩), (hds p hp).1, (hds p hp).2.2⟩
    have hdl : d2.length = xs.length := by rw [← hd]; have := congrArg List.length hd2; simpa using this
    have hmap : d2.map (fun p => p.1.1) = xs := by rw [← hd, ← hd2, List.map_map]; rfl
    have hed : ∀ e : List (GV (· ∈ F') w), e.flatMap (fun p => p.1.1.cs) = Lit.css (e.map fun p => p.1.1) := fun e => by rw [Lit.css_flat, List.flatMap_map]
    have hol2 : OwnsL w (d2.flatMap GV.enc) (d2.flatMap fun p => p.1.1.cs) F' := by
      rw [he2, ← hvd, hed, hmap]
      exact hol
    rw [hvd, ← he2] at hrow
    obtain ⟨cur, hcur, -⟩ := id hrow
    have hin : ∃ p0 : GV (· ∈ F') w, p0 ∈ d2 := by
      cases d2 with
      | nil => exact absurd (List.length_eq_zero_iff.1 hdl.symm) hne
      | cons p0 r0 => exact ⟨p0, by simp⟩
    obtain ⟨p0, -⟩ := hin
    letI : Inhabited (GV (· ∈ F') w) := ⟨p0⟩
    have hkeep : ∀ (m : Nat) (os : Array Obj) (dk : Array (GV (· ∈ F') w)), Keeps (· ∈ F') w (Go.Proofs.sortWorldK (GV.enc (S := (· ∈ F')) (w0 := w)) 3 w b off m dk os) := fun m os dk => by
      have hg := (sortWorld_row (enc := GV.enc (S := (· ∈ F')) (w0 := w)) (k := 3) (off := off) (n := m) (d := dk) (os := os) hcur).2
      exact ⟨hg.size, fun x hx hlx => hg.block x hlx fun e => hbF (by injection e with e; rw [← e]; exact hx)⟩
    have hs := sort_rows Tryz.SortL (k := 3) isAggLV sizeOfLV (enc := GV.enc (S := (· ∈ F')) (w0 := w)) (fun _ => rfl) GV.one GV.cmp GV.swo 55 #[] (cap := c) (fun _ _ => by kernel_rfl) (fun m os dk _ x y => cmpLit (hkeep m os dk) x y) hrow (by omega)
    rw [hdl] at hs
    refine Calls.mono hs ?_
    rintro e w' ⟨rfl, d', hp, hso, hrow', hg⟩
    obtain ⟨F2, hol3, hF2⟩ := items_perm (ev := GV.enc) (ed := fun p => p.1.1.cs) (fun p => by rw [Lit.cs_eq]; rfl) hp.symm hol2
    have hl' : (d'.map fun p => p.1.1).length = xs.length := by rw [List.length_map, hp.length_eq, hdl]
    have hol4 : OwnsL w' (d'.flatMap GV.enc) (Lit.css (d'.map fun p => p.1.1)) F2 := by
      rw [← hed]
      exact hol3.keep ⟨hg.size, fun x hx hl => hg.block x hl fun e => hbF (by injection e with e; rw [← e]; exact hF2 x hx)⟩
    obtain ⟨G, hG, hGF⟩ := row_own (n := xs.length) (cap := c) hrow' hol4 (fun q => hbF (hF2 b q)) (fun i hi => List.getElem?_eq_getElem hi) hcap.1 hcap.2 (fun h0 => Lit.css_ne (fun e => h0 (by rw [← hl', e]; rfl)))
    refine ⟨rfl, d'.map (fun p => p.1.1), G, ?_, ?_, ?_, fun y hy => ?_, mk_of_grownL (by simp) hg⟩
    · have := hp.map (fun p : GV (· ∈ F') w => p.1.1)
      rw [hmap] at this
      exact this
    · rw [List.pairwise_map]
      exact hso
    · rw [Lit.sd_css, hl']; exact hG
    · rcases hGF y hy with h | h
      · simp [h]
      · simp [hF2 y h]
end Go.Proofs.YtglhbaigigdeeaaGreat
/- The clause of literals: the program's. -/
namespace Go.Proofs.YtglhbaigigdeeaaGreat
set_option maxRecDepth 100000
open Go.RowKit

theorem infoLitI : (Tryz.prog.info? 58).map (fun i => (i.zero, i.size, i.bytes)) = some (some (.agg #[.bool false, .string ByteArray.empty, .slice none 0 0]), 3, 48) := by kernel_rfl
theorem Lit.own_item {w : World} {x : Lit} {v : Value} {F : List Nat} (hn : x.atom.name.size ≤ maxLen) (h : D.own w v (Tm.sd x.atom.args) F) : OwnsL w [.bool x.pos, .string x.atom.name, v] x.cs F := by
  have hb : D.own w (.bool x.pos) (.bit x.pos) [] := by rw [D.own]; exact ⟨rfl, rfl⟩
  have := OwnsL.cons (F := []) hb (OwnsL.cons (F := []) (D.own_str hn) (OwnsL.cons h (OwnsL.nil w) (by simp)) (by simp)) (by simp)
  rw [Lit.cs_eq]
  simpa using this
theorem Lit.name_leA {S : Nat → Prop} {w : World} {c0 c1 c2 : Value} {x : Lit} (h : Lit.at S w c0 c1 c2 x) : x.atom.name.size ≤ maxLen := by have q := h.2.1; rw [D.rd] at q; exact q.2
theorem Lit.bulk_memA {xs : List Lit} {x : Lit} (h : x ∈ xs) : x.atom.bulk ≤ Lit.bulks xs := by
  induction xs with
  | nil => cases h
  | cons a xs ih =>
    rw [Lit.bulks]
    rcases List.mem_cons.1 h with rfl | h
    · rw [Lit.bulk]; omega
    · have := ih h; omega
/-- a copy of a literal -/
def CopiedL (x : Lit) (w : World) (e : Ending) (w' : World) : Prop := ∃ a c F, e = .returned (.agg #[.bool x.pos, .string x.atom.name, .slice a x.atom.args.length c]) ∧ D.own w' (.slice a x.atom.args.length c) (Tm.sd x.atom.args) F ∧ (∀ y ∈ F, w.heap.size ≤ y) ∧ Below w.heap.size w w'
set_option maxHeartbeats 1000000 in
theorem copyLiteral_any {t : Lit} {S : Nat → Prop} {c0 c1 c2 : Value} {w : World} (ht : Lit.at S w c0 c1 c2 t) (hbk : t.atom.bulk ≤ 1048576) : Calls Tryz.prog 53 #[.agg #[c0, c1, c2]] w (CopiedL t w) := by
  obtain ⟨rfl, rfl, ta, tc, rfl⟩ := Lit.at_form ht
  have hW : Below w.heap.size w ((w.alloc (.cells #[.bool t.pos, .string t.atom.name, .slice ta t.atom.args.length tc] 58)).alloc (.cells #[.bool false, .string ⟨#[]⟩, .slice none 0 0] 58)) := ((Below.refl _ _).alloc (Nat.le_refl _) _).alloc (by simp) _
  have bt : Box ((w.alloc (.cells #[.bool t.pos, .string t.atom.name, .slice ta t.atom.args.length tc] 58)).alloc (.cells #[.bool false, .string ⟨#[]⟩, .slice none 0 0] 58)) (w.heap.size) [.bool t.pos, .string t.atom.name, .slice ta t.atom.args.length tc] := by
    have := ((Box.new w [.bool t.pos, .string t.atom.name, .slice ta t.atom.args.length tc] 58).alloc (.cells #[.bool false, .string ⟨#[]⟩, .slice none 0 0] 58))
    simpa only [World.size_alloc] using this
  have rb : Box ((w.alloc (.cells #[.bool t.pos, .string t.atom.name, .slice ta t.atom.args.length tc] 58)).alloc (.cells #[.bool false, .string ⟨#[]⟩, .slice none 0 0] 58)) (w.heap.size + 1) [.bool false, .string ⟨#[]⟩, .slice none 0 0] := by
    have := (Box.new (w.alloc (.cells #[.bool t.pos, .string t.atom.name, .slice ta t.atom.args.length tc] 58)) [.bool false, .string ⟨#[]⟩, .slice none 0 0] 58)
    simpa only [World.size_alloc] using this
  have rf : ∀ p, ((w.alloc (.cells #[.bool t.pos, .string t.atom.name, .slice ta t.atom.args.length tc] 58)).alloc (.cells #[.bool false, .string ⟨#[]⟩, .slice none 0 0] 58)).frozen? ⟨w.heap.size + 1, p, none⟩ = false := fun p => World.frozen?_alloc_at _ _ _ p (by simp)
  replace ht := Lit.at_keep (Keeps.all hW) ht
  have et0 := bt.c0
  have et1 := bt.c1
  have et2 := bt.c2
  have lt := bt.lt
  have re0 := rb.c0
  have rf0 := rf 0
  have re1 := rb.c1
  have rf1 := rf 1
  have re2 := rb.c2
  have rf2 := rf 2
  have rl := rb.lt
  go_enter Tryz.func53, Tryz.ntmps53
  go_wp2_with fail
  clear et0 et1 et2 lt re0 rf0 re1 rf1 re2 rf2 rl
  have Hw0 : Hid (((w.alloc (.cells #[.bool t.pos, .string t.atom.name, .slice ta t.atom.args.length tc] 58)).alloc (.cells #[.bool false, .string ⟨#[]⟩, .slice none 0 0] 58)).heap.size = w.heap.size + 1 + 1) := by simp [Hid]
  generalize ((w.alloc (.cells #[.bool t.pos, .string t.atom.name, .slice ta t.atom.args.length tc] 58)).alloc (.cells #[.bool false, .string ⟨#[]⟩, .slice none 0 0] 58)) = w0 at *
  have hz0 := Hw0.out
  have et0 := bt.c0
  have et1 := bt.c1
  have et2 := bt.c2
  have lt := bt.lt
  have re0 := rb.c0
  have rf0 := rf 0
  have re1 := rb.c1
  have rf1 := rf 1
  have re2 := rb.c2
  have rf2 := rf 2
  have rl := rb.lt
  have HE := hid (Lit.at_atom ht)
  have nn0 : ¬ (none : Option Nat) = some w.heap.size := fun e => by cases e
  have nn1 : ¬ (none : Option Nat) = some (w.heap.size + 1) := fun e => by cases e
  have HWW := hid hW
  refine region_late (l := [_, _, _, _, _, _]) (tl := [_]) (S := fun w1 => (w0).grownBy w1 (none)) (n := 6) rfl rfl (by kernel_rfl) (by kernel_rfl) (grown_of_below ((Below.refl _ _).drew) _) (fun hQL hS => ?_)
  refine late_take (i := 0) (d := some 3) (v := .pointer (some ⟨w.heap.size, 0, none⟩)) rfl rfl (by kernel_rfl) (by kernel_rfl) (by kernel_rfl) hQL (by rfl) (fun w1 _ => (by go_simp)) hS ?_
  try simp only [Act.put, List.setIfInBounds_toArray, List.set_cons_zero, List.set_cons_succ]
  refine late_take (i := 1) (d := some 4) (v := .bool t.pos) rfl rfl (by kernel_rfl) (by kernel_rfl) (by kernel_rfl) hQL (by rfl) (fun w1 hS1 => (by obtain ⟨hc, hf⟩ := bcellG hS1; go_simp)) hS ?_
  try simp only [Act.put, List.setIfInBounds_toArray, List.set_cons_zero, List.set_cons_succ]
  refine late_take (i := 2) (d := some 5) (v := .pointer (some ⟨w.heap.size, 1, none⟩)) rfl rfl (by kernel_rfl) (by kernel_rfl) (by kernel_rfl) hQL (by rfl) (fun w1 _ => (by go_simp)) hS ?_
  try simp only [Act.put, List.setIfInBounds_toArray, List.set_cons_zero, List.set_cons_succ]
  refine late_take (i := 3) (d := some 6) (v := .agg #[.string t.atom.name, .slice ta t.atom.args.length tc]) rfl rfl (by kernel_rfl) (by kernel_rfl) (by kernel_rfl) hQL (by rfl) (fun w1 hS1 => (by obtain ⟨hc, hf⟩ := bcellG hS1; go_simp)) hS ?_
  try simp only [Act.put, List.setIfInBounds_toArray, List.set_cons_zero, List.set_cons_succ]
  refine wpAnyH_ready (rs := [4]) (by kernel_rfl) (by simp) ?_
  refine AllReadyH.cons rfl (fun K hK => ?_) AllReadyH.nil
  refine step_does rfl ?_
  unfold Does
  go_simp
  go_at_call 78
  refine (copyTerm_any t.atom _ _ _ _ (Tm.at_keep (Keeps.all ((Below.refl _ _).drew)) HE.out) hbk).mono ?_
  rintro e w1 ⟨v1, G, rfl, ho, hG, hb1⟩
  obtain ⟨a1, cap1, rfl⟩ := Tm.sd_own_form ho
  have HO := hid ho
  have HGG : Hid (∀ y ∈ G, w0.heap.size ≤ y) := hG
  clear ho hG
  refine ⟨_, rfl, ?_⟩
  refine hK.out _ _ (World.grownBy.trans hS (grown_of_below hb1 _)) (fun hS => ?_)
  try show wpAnyH _ _ _ _ _ _ _ (Act.put _ (some 7) _) _
  try simp only [Act.put, List.setIfInBounds_toArray, List.set_cons_zero, List.set_cons_succ]
  refine late_take (i := 5) (d := some 8) (v := .agg #[.bool t.pos, .string t.atom.name, .slice a1 t.atom.args.length cap1]) rfl rfl (by kernel_rfl) (by kernel_rfl) (by kernel_rfl) hQL (by rfl) (fun w1 _ => (by go_simp)) hS ?_
  try simp only [Act.put, List.setIfInBounds_toArray, List.set_cons_zero, List.set_cons_succ]
  refine wpAnyH_done (by kernel_rfl) ?_ _
  show wpTail _ _ _ _ _
  refine wpTail_step rfl (fun K hK => ?_)
  obtain ⟨hc, hf⟩ := bcellG hS
  go_simp
  refine hK.out _ _ ?_
  try clear hc hf
  refine wpTail_nil ?_
  have z0 := ((bcellG hS).1 (w.heap.size + 1) 0 (by omega) nn1).trans re0
  have z1 := ((bcellG hS).1 (w.heap.size + 1) 1 (by omega) nn1).trans re1
  have z2 := ((bcellG hS).1 (w.heap.size + 1) 2 (by omega) nn1).trans re2
  have HBB := hid (HWW.out.trans (((Below.refl _ _).drew.trans hb1).mono HWW.out.size))
  clear hS hb1
  go_wp2_with fail
  refine bodyPost_ret (v := .agg #[.bool t.pos, .string t.atom.name, .slice a1 t.atom.args.length cap1]) (by simp [results, Tryz.results53, go_sem, z0, z1, z2]) rfl ?_
  refine ⟨a1, cap1, G, rfl, ?_, fun y hy => by have := HGG.out y hy; omega, ?_⟩
  · have hn : w.heap.size + 1 ∉ G := fun q => by have := HGG.out _ q; omega
    exact D.own_keep _ _ _ ((((Keeps.refl (· ∈ G) w1).setCell (fun q _ => hn q) _).setCell (fun q _ => hn q) _).setCell (fun q _ => hn q) _) HO.out
  · exact ((HBB.out.setCell (by simp) _).setCell (by simp) _).setCell (by simp) _

set_option maxHeartbeats 2000000 in
theorem clauseOf_any {ts : List Lit} {S : Nat → Prop} {v : Value} {w : World} (hr : D.rd S w v (Lit.sd ts)) (hbk : ts.length + Lit.bulks ts ≤ 1048576) (hni : ∀ x ∈ ts, x.atom.nice = true) :
    Calls Tryz.prog 30 #[v] w (MadeCl ⟨makeL ts⟩ w) := by
  obtain ⟨a, cap, rfl, hlen, hcap⟩ := Lit.sd_form hr
  unfold big at hlen
  have HNI := hid hni
  clear hni
  have hW : Below w.heap.size w ((w.alloc (.cells #[.slice none 0 0] 26)).alloc (.cells #[.slice none 0 0] 26)) := ((Below.refl _ _).alloc (Nat.le_refl _) _).alloc (by simp) _
  have rb : Box ((w.alloc (.cells #[.slice none 0 0] 26)).alloc (.cells #[.slice none 0 0] 26)) w.heap.size [.slice none 0 0] := (Box.new w [Value.slice none 0 0] 26).alloc _
  have ob : Box ((w.alloc (.cells #[.slice none 0 0] 26)).alloc (.cells #[.slice none 0 0] 26)) (w.heap.size + 1) [.slice none 0 0] := by
    have := Box.new (w.alloc (.cells #[.slice none 0 0] 26)) [Value.slice none 0 0] 26
    simpa only [World.size_alloc] using this
  have rf : ((w.alloc (.cells #[.slice none 0 0] 26)).alloc (.cells #[.slice none 0 0] 26)).frozen? ⟨w.heap.size, 0, none⟩ = false := (World.frozen?_alloc_past _ _ 0 (by simp)).trans (World.frozen?_alloc_at _ _ _ 0 (by simp))
  have of : ((w.alloc (.cells #[.slice none 0 0] 26)).alloc (.cells #[.slice none 0 0] 26)).frozen? ⟨w.heap.size + 1, 0, none⟩ = false := World.frozen?_alloc_at _ _ _ 0 (by simp)
  have HZ : Hid (((w.alloc (.cells #[.slice none 0 0] 26)).alloc (.cells #[.slice none 0 0] 26)).heap.size = w.heap.size + 1 + 1) := by simp [Hid]
  go_enter Tryz.func30, Tryz.ntmps30
  go_wp2_with fail
  generalize ((w.alloc (.cells #[.slice none 0 0] 26)).alloc (.cells #[.slice none 0 0] 26)) = w0 at *
  have hz0 := HZ.out
  have HRD := hid hr
  clear hr
  go_loopw [9] (fun i wr => ∃ (k : Nat) (F : List Nat) (v : Value), k ≤ ts.length ∧ i = .int .i64 k ∧ Hid (Gr wr (w.heap.size + 1 + 1) 58 3 v k (Lit.css (ts.take k)) F) ∧ wr.cell? ⟨w.heap.size + 1, 0, none⟩ = some v ∧ wr.frozen? ⟨w.heap.size + 1, 0, none⟩ = false ∧ w.heap.size + 1 + 1 ≤ wr.heap.size ∧ Hid (Below (w.heap.size + 1) w0 wr)) (fun i _ => ts.length - (intOf i).toNat)
  case atStart => exact ⟨0, [], .slice none 0 0, Nat.zero_le _, rfl, by rw [List.take_zero]; exact hid (Gr.nil _ _ _ _), ob.c0, of, by omega, Below.refl _ _⟩
  case round =>
    obtain ⟨k, F, v, hk, rfl, HG, y0, y2, hz, HB⟩ := hrel
    have HBW := hid (hW.trans (HB.out.mono (by omega)))
    by_cases hlt : k < ts.length
    · have hne : ts ≠ [] := by intro e; subst e; simp at hlt
      obtain ⟨b, off, rfl, hS, hbl, hrr⟩ := Lit.sd_get HRD.out hne
      obtain ⟨c0, c1, c2, q0, q1, q2, qx⟩ := hrr k hlt
      have hnl := Lit.name_leA qx
      have hbm : ts[k].atom.bulk ≤ 1048576 := by have := Lit.bulk_memA (List.getElem_mem hlt); omega
      have hE := hid (Lit.at_keep (Keeps.all HBW.out) qx)
      obtain ⟨rfl, rfl, x, xc, rfl⟩ := Lit.at_form qx
      replace q0 := (HBW.out.cell (p := ⟨b, off + k * 3, none⟩) hbl).trans q0
      replace q1 := (HBW.out.cell (p := ⟨b, off + k * 3 + 1, none⟩) hbl).trans q1
      replace q2 := (HBW.out.cell (p := ⟨b, off + k * 3 + 2, none⟩) hbl).trans q2
      obtain ⟨r, Hr⟩ : ∃ r, Hid (v.ownBlock = r) := ⟨_, hid rfl⟩
      have HL : Hid (∀ y, r = some y → w.heap.size + 1 + 1 ≤ y ∧ y < wr.heap.size) := fun y hy => HG.out.lt y (Hr.out.trans hy)
      have n2 : ¬ r = some (w.heap.size + 1) := fun e => by have := HL.out _ e; omega
      have nb : ¬ r = some b := fun e => by have := HL.out _ e; omega
      have nw : ¬ r = some wr.heap.size := fun e => by have := HL.out _ e; omega
      clear hrr qx
      go_wp2_with fail
      have HA0 : Hid (Below wr.heap.size wr (wr.alloc (.cells #[.bool ts[k].pos, .string ts[k].atom.name, .slice x ts[k].atom.args.length xc] 58))) := (Below.refl _ _).alloc (Nat.le_refl _) _
      have bE : Box (wr.alloc (.cells #[.bool ts[k].pos, .string ts[k].atom.name, .slice x ts[k].atom.args.length xc] 58)) wr.heap.size [.bool ts[k].pos, .string ts[k].atom.name, .slice x ts[k].atom.args.length xc] := Box.new _ _ _
      replace hE := hid (Lit.at_keep (Keeps.all HA0.out) hE.out)
      replace HG := hid (HG.out.keep HA0.out)
      replace y0 := (HA0.out.cell (p := ⟨w.heap.size + 1, 0, none⟩) (by show w.heap.size + 1 < _; omega)).trans y0
      replace y2 := (HA0.out.frozen (p := ⟨w.heap.size + 1, 0, none⟩) (by show w.heap.size + 1 < _; omega)).trans y2
      replace HB := hid (HB.out.trans (HA0.out.mono (by omega)))
      have hzb : wr.heap.size + 1 = (wr.alloc (.cells #[.bool ts[k].pos, .string ts[k].atom.name, .slice x ts[k].atom.args.length xc] 58)).heap.size := by simp
      replace HBW := hid (HBW.out.trans (HA0.out.mono HBW.out.size))
      clear q0 q1 q2 HA0
      generalize wr.alloc (.cells #[.bool ts[k].pos, .string ts[k].atom.name, .slice x ts[k].atom.args.length xc] 58) = wb at *
      have e0 := bE.c0
      have e1 := bE.c1
      have e2 : wb.cell? ⟨wr.heap.size, 1 + 1, none⟩ = _ := bE.c2
      have lE := bE.lt
      have l2 : w.heap.size + 1 < wb.heap.size := by omega
      have hBb : w.heap.size + 1 + 1 ≤ wb.heap.size := by omega
      refine region_late (l := [_, _, _, _, _, _, _]) (tl := [_]) (S := fun w1 => (wb).grownBy w1 (r)) (n := 7) rfl rfl (by kernel_rfl) (by kernel_rfl) (grown_of_below ((Below.refl _ _).drew) _) (fun hQL hS => ?_)
      refine late_take (i := 0) (d := some 13) (v := .pointer (some ⟨(w.heap.size + 1), 0, none⟩)) rfl rfl (by kernel_rfl) (by kernel_rfl) (by kernel_rfl) hQL (by rfl) (fun w1 _ => (by go_simp)) hS ?_
      try simp only [Act.put, List.setIfInBounds_toArray, List.set_cons_zero, List.set_cons_succ]
      refine late_take (i := 1) (d := some 14) (v := v) rfl rfl (by kernel_rfl) (by kernel_rfl) (by kernel_rfl) hQL (by rfl) (fun w1 hS1 => (by obtain ⟨hc, hf⟩ := bcellG hS1; go_simp)) hS ?_
      try simp only [Act.put, List.setIfInBounds_toArray, List.set_cons_zero, List.set_cons_succ]
      refine late_take (i := 2) (d := some 15) (v := .agg #[.bool ts[k].pos, .string ts[k].atom.name, .slice x ts[k].atom.args.length xc]) rfl rfl (by kernel_rfl) (by kernel_rfl) (by kernel_rfl) hQL (by rfl) (fun w1 hS1 => (by obtain ⟨hc, hf⟩ := bcellG hS1; go_simp)) hS ?_
      try simp only [Act.put, List.setIfInBounds_toArray, List.set_cons_zero, List.set_cons_succ]
      refine wpAnyH_ready (rs := [3]) (by kernel_rfl) (by simp) ?_
      refine AllReadyH.cons rfl (fun K hK => ?_) AllReadyH.nil
      refine step_does rfl ?_
      unfold Does
      go_simp
      go_at_call 53
      refine (copyLiteral_any (t := ts[k]) (Lit.at_keep (Keeps.all ((Below.refl _ _).drew)) hE.out) hbm).mono ?_
      rintro e w1 ⟨a1, cap1, G, rfl, ho, hG, hb1⟩
      have HO := hid ho
      have HGG : Hid (∀ y ∈ G, wb.heap.size ≤ y) := hG
      have HG1 := hid (HG.out.keep (Below.trans ((Below.refl _ _).drew) (hb1.mono (Nat.le_refl _))))
      have hz2 : wb.heap.size ≤ w1.heap.size := hb1.size
      clear ho hG
      refine ⟨_, rfl, ?_⟩
      refine hK.out _ _ (World.grownBy.trans hS (grown_of_below hb1 _)) (fun hS => ?_)
      try show wpAnyH _ _ _ _ _ _ _ (Act.put _ (some 16) _) _
      try simp only [Act.put, List.setIfInBounds_toArray, List.set_cons_zero, List.set_cons_succ]
      refine wpAnyH_ready (rs := [4]) (by kernel_rfl) (by simp) ?_
      refine AllReadyH.cons rfl (fun K hK => ?_) AllReadyH.nil
      go_simp
      refine hK.out _ _ (World.grownBy.trans hS (World.grownBy_alloc _ _ _)) (fun hS => ?_)
      try show wpAnyH _ _ _ _ _ _ _ (Act.put _ (some 17) _) _
      try simp only [Act.put, List.setIfInBounds_toArray, List.set_cons_zero, List.set_cons_succ]
      refine wpAnyH_ready (rs := [5]) (by kernel_rfl) (by simp) ?_
      refine AllReadyH.cons rfl (fun K hK => ?_) AllReadyH.nil
      refine step_append_gr (news := [.bool ts[k].pos, .string ts[k].atom.name, .slice a1 ts[k].atom.args.length cap1]) (G := G) Tryz.underlying24 infoLitI rfl (by decide) (by decide) rfl _ _ (by rfl) (by rfl) (by rfl) (HG1.out.keep ((Below.refl _ _).alloc (Nat.le_refl _) _)) rfl (by intro j u hj; rw [box1]; simpa using hj) (by simp [Value.oneCell']) ((Lit.own_item hnl HO.out).keep (Keeps.all ((Below.refl _ _).alloc (Nat.le_refl _) _))) (fun y hy => by have := HGG.out y hy; omega) (fun y hy hy' => by have := HGG.out y hy'; have := HG.out.ltF y hy; omega) (fun y hy hy' => by have := HGG.out y hy'; have := HG.out.lt y hy; omega) (by omega) (by simp; omega) ?_
      intro g capg wg hg hgr hgo hglt
      rw [Hr.out] at hgr
      refine hK.out _ _ (World.grownBy.trans hS hgr) (fun hS => ?_)
      try show wpAnyH _ _ _ _ _ _ _ (Act.put _ (some 18) _) _
      try simp only [Act.put, List.setIfInBounds_toArray, List.set_cons_zero, List.set_cons_succ]
      refine late_take (i := 6) (d := some 19) (v := .pointer (some ⟨(w.heap.size + 1), 0, none⟩)) rfl rfl (by kernel_rfl) (by kernel_rfl) (by kernel_rfl) hQL (by rfl) (fun w1 _ => (by go_simp)) hS ?_
      try simp only [Act.put, List.setIfInBounds_toArray, List.set_cons_zero, List.set_cons_succ]
      refine wpAnyH_done (by kernel_rfl) ?_ _
      show wpTail _ _ _ _ _
      refine wpTail_step rfl (fun K hK => ?_)
      obtain ⟨hc, hf⟩ := bcellG hS
      go_simp
      refine hK.out _ _ ?_
      try clear hc hf
      refine wpTail_nil ?_
      have hgz := hS.size
      have HBg : Hid (Below (w.heap.size + 1) wb wg) := (Below.refl _ _).grown hS (by omega) (fun y hy => by have := HL.out y hy; omega)
      have z0g := (bcellG hS).1 (w.heap.size + 1) 0 l2 n2
      have z2g := (bcellG hS).2 (w.heap.size + 1) 0 l2 n2
      have HG2 := hid hg
      clear hg hgr hgo hglt hS
      go_wp2_with fail
      go_roundw
      case rel =>
        refine ⟨k + 1, F ++ G, .slice (some ⟨g, 0, none⟩) (k + 1) capg, by omega, by go_num, hid ?_, ?_, ?_, ?_, hid ?_⟩
        · rw [Lit.css_take_succ ts k hlt, ← Lit.cs_eq]
          exact HG2.out.setCell (by show w.heap.size + 1 < _; omega) _
        · exact World.cell?_setCell_same _ _ _ (z0g.trans y0)
        · rw [World.frozen?_setCell]; exact z2g.trans y2
        · rw [World.size_setCell]; omega
        · exact (HB.out.trans HBg.out).setCell (Nat.le_refl _) _
      case measure => simp [intOf]; omega
    · obtain rfl : k = ts.length := by omega
      have HG' := HG.out
      rw [List.take_length] at HG'
      obtain ⟨Gf, hO, hGf⟩ := HG'.own (by decide)
      rw [← Lit.sd_css] at hO
      have HGF := hid hGf
      have l1 : w.heap.size + 1 < wr.heap.size := by omega
      have l0 : w.heap.size < wr.heap.size := by omega
      have r0 : wr.cell? ⟨w.heap.size, 0, none⟩ = some (.slice none 0 0) := (HB.out.cell (p := ⟨w.heap.size, 0, none⟩) (by show w.heap.size < w.heap.size + 1; omega)).trans rb.c0
      have r1 : wr.frozen? ⟨w.heap.size, 0, none⟩ = false := (HB.out.frozen (p := ⟨w.heap.size, 0, none⟩) (by show w.heap.size < w.heap.size + 1; omega)).trans rf
      have hq := hid (sortLit_any hO (by omega) HNI.out)
      have nG0 : w.heap.size ∉ Gf := fun q => by have := HGF.out _ q; omega
      have nG1 : w.heap.size + 1 ∉ Gf := fun q => by have := HGF.out _ q; omega
      clear hO hGf HG' HB HG
      go_wp2_with fail
      refine hq.out.mono ?_
      rintro e w1 ⟨rfl, ys, F1, hp, hpw, ho1, hs1, hm1⟩
      have HMK : Hid (compactL ys = makeL ts) := compact_make hp hpw
      replace y0 := (World.cell?_of_block (a := ⟨w.heap.size + 1, 0, none⟩) (hm1.1.block _ nG1 l1)).trans y0
      replace y2 := (World.frozen?_of_block (a := ⟨w.heap.size + 1, 0, none⟩) (hm1.1.block _ nG1 l1)).trans y2
      replace r0 := (World.cell?_of_block (a := ⟨w.heap.size, 0, none⟩) (hm1.1.block _ nG0 l0)).trans r0
      replace r1 := (World.frozen?_of_block (a := ⟨w.heap.size, 0, none⟩) (hm1.1.block _ nG0 l0)).trans r1
      replace HBW := hid (HBW.out.trans (hm1.2 _ HBW.out.size (fun y hy => by have := HGF.out y hy; omega)))
      have HG1 : Hid (∀ y ∈ F1, w.heap.size + 1 + 1 ≤ y) := fun y hy => HGF.out y (hs1 y hy)
      replace l1 := Nat.lt_of_lt_of_le l1 hm1.size
      replace l0 := Nat.lt_of_lt_of_le l0 hm1.size
      have hq2 := compactLit_any ho1
      have nF0 : w.heap.size ∉ F1 := fun q => by have := HG1.out _ q; omega
      have nF1 : w.heap.size + 1 ∉ F1 := fun q => by have := HG1.out _ q; omega
      clear hq hp hpw ho1 hs1 hm1
      go_wp2_with fail
      refine hq2.mono ?_
      rintro e w2 ⟨v2, F2, rfl, ho2, hs2, hm2⟩
      rw [HMK.out] at ho2
      replace y0 := (World.cell?_of_block (a := ⟨w.heap.size + 1, 0, none⟩) (hm2.1.block _ nF1 l1)).trans y0
      replace y2 := (World.frozen?_of_block (a := ⟨w.heap.size + 1, 0, none⟩) (hm2.1.block _ nF1 l1)).trans y2
      replace r0 := (World.cell?_of_block (a := ⟨w.heap.size, 0, none⟩) (hm2.1.block _ nF0 l0)).trans r0
      replace r1 := (World.frozen?_of_block (a := ⟨w.heap.size, 0, none⟩) (hm2.1.block _ nF0 l0)).trans r1
      replace HBW := hid (HBW.out.trans (hm2.2 _ HBW.out.size (fun y hy => by have := HG1.out y hy; omega)))
      have HG2 : Hid (∀ y ∈ F2, w.heap.size + 1 + 1 ≤ y) := fun y hy => HG1.out y (hs2 y hy)
      obtain ⟨a2, cap2, rfl⟩ := Lit.sd_own_form ho2
      have HO2 := hid ho2
      have mF0 : w.heap.size ∉ F2 := fun q => by have := HG2.out _ q; omega
      have mF1 : w.heap.size + 1 ∉ F2 := fun q => by have := HG2.out _ q; omega
      clear hq2 ho2 hs2 hm2
      go_wp2_with fail
      refine bodyPost_ret (v := .agg #[.slice a2 (makeL ts).length cap2]) (by simp [results, Tryz.results30, go_sem, r0]) rfl ?_
      refine ⟨_, F2, rfl, ?_, fun y hy => by have := HG2.out y hy; omega, ?_⟩
      · exact D.own_keep _ _ _ (((Keeps.refl (· ∈ F2) w2).setCell (fun q _ => mF1 q) _).setCell (fun q _ => mF0 q) _) HO2.out
      · exact (HBW.out.setCell (by simp) _).setCell (by simp) _
/-- a clause, if it is valid -/
def ifCl (c : Cl) : Cl := if c.valid = true then c else ⟨[]⟩
set_option maxHeartbeats 1000000 in
theorem ifClause_any {t : Cl} {F : List Nat} {c0 : Value} {w : World} (ho : D.own w c0 (Lit.sd t.ls) F) (hbk : t.bulk ≤ 1048576) : Calls Tryz.prog 29 #[.agg #[c0]] w fun e w' => ∃ v F', e = .returned (.tuple #[.agg #[v], .bool t.valid]) ∧ D.own w' v (Lit.sd (ifCl t).ls) F' ∧ (∀ y ∈ F', y ∈ F) ∧ Below w.heap.size w w' := by
  have HO := hid ho
  have HLT := hid (D.own_lt _ _ _ ho)
  have ht : Cl.at (· ∈ F) w c0 t := D.own_rd _ _ _ ho
  clear ho
  by_cases hv : t.valid = true
  · have HV := hid hv
    have HI : Hid (ifCl t = t) := by rw [Hid, ifCl, if_pos hv]
    clear hv
    obtain ⟨ta, tc, rfl⟩ := Cl.at_form ht
    have hW : Below w.heap.size w ((w.alloc (.cells #[.slice ta t.ls.length tc] 26)).alloc (.cells #[.slice none 0 0] 26)) := ((Below.refl _ _).alloc (Nat.le_refl _) _).alloc (by simp) _
    have bt : Box ((w.alloc (.cells #[.slice ta t.ls.length tc] 26)).alloc (.cells #[.slice none 0 0] 26)) (w.heap.size) [.slice ta t.ls.length tc] := by
      have := ((Box.new w [.slice ta t.ls.length tc] 26).alloc (.cells #[.slice none 0 0] 26))
      simpa only [World.size_alloc] using this
    have rb : Box ((w.alloc (.cells #[.slice ta t.ls.length tc] 26)).alloc (.cells #[.slice none 0 0] 26)) (w.heap.size + 1) [.slice none 0 0] := by
      have := (Box.new (w.alloc (.cells #[.slice ta t.ls.length tc] 26)) [.slice none 0 0] 26)
      simpa only [World.size_alloc] using this
    have rf : ∀ p, ((w.alloc (.cells #[.slice ta t.ls.length tc] 26)).alloc (.cells #[.slice none 0 0] 26)).frozen? ⟨w.heap.size + 1, p, none⟩ = false := fun p => World.frozen?_alloc_at _ _ _ p (by simp)
    replace ht := Cl.at_keep (Keeps.all hW) ht
    have et0 := bt.c0
    have lt := bt.lt
    have re0 := rb.c0
    have rf0 := rf 0
    have rl := rb.lt
    go_enter Tryz.func29, Tryz.ntmps29
    go_wp2_with fail
    clear et0 lt re0 rf0 rl
    have Hw0 : Hid (((w.alloc (.cells #[.slice ta t.ls.length tc] 26)).alloc (.cells #[.slice none 0 0] 26)).heap.size = w.heap.size + 1 + 1) := by simp [Hid]
    generalize ((w.alloc (.cells #[.slice ta t.ls.length tc] 26)).alloc (.cells #[.slice none 0 0] 26)) = w0 at *
    have HO1 := hid (D.own_keep _ _ _ (Keeps.all hW) HO.out)
    refine (impl_IsValidClause ht hbk).mono ?_
    rintro e w1 ⟨_, rfl, hb, rfl⟩
    replace hW := hW.trans (hb.mono hW.size)
    replace bt := bt.keep hb
    replace ht := Cl.at_keep (Keeps.all hb) ht
    replace rf := fun p => (hb.frozen (p := ⟨_, p, none⟩) rb.lt).trans (rf p)
    replace rb := rb.keep hb
    have HO2 := hid (D.own_keep _ _ _ (Keeps.all hb) HO1.out)
    clear hb
    rw [HV.out]
    have et0 := bt.c0
    have lt := bt.lt
    have re0 := rb.c0
    have rf0 := rf 0
    have rl := rb.lt
    go_wp2_with fail
    refine bodyPost_ret (v := .tuple #[.agg #[.slice ta t.ls.length tc], .bool true]) (by simp [results, Tryz.results29, go_sem, rb.c0]; try rfl) rfl ?_
    refine ⟨_, F, by rw [HV.out], ?_, fun y h => h, hW.setCell (by simp) _⟩
    rw [HI.out]
    exact D.own_keep _ _ _ ((Keeps.refl (· ∈ F) _).setCell (fun (q : w.heap.size + 1 ∈ F) _ => by have := HLT.out _ q; omega) _) HO2.out
  · have HV := hid (Bool.eq_false_iff.2 hv)
    have HI : Hid (ifCl t = ⟨[]⟩) := by rw [Hid, ifCl, if_neg hv]
    clear hv
    obtain ⟨ta, tc, rfl⟩ := Cl.at_form ht
    have hW : Below w.heap.size w ((w.alloc (.cells #[.slice ta t.ls.length tc] 26)).alloc (.cells #[.slice none 0 0] 26)) := ((Below.refl _ _).alloc (Nat.le_refl _) _).alloc (by simp) _
    have bt : Box ((w.alloc (.cells #[.slice ta t.ls.length tc] 26)).alloc (.cells #[.slice none 0 0] 26)) (w.heap.size) [.slice ta t.ls.length tc] := by
      have := ((Box.new w [.slice ta t.ls.length tc] 26).alloc (.cells #[.slice none 0 0] 26))
      simpa only [World.size_alloc] using this
    have rb : Box ((w.alloc (.cells #[.slice ta t.ls.length tc] 26)).alloc (.cells #[.slice none 0 0] 26)) (w.heap.size + 1) [.slice none 0 0] := by
      have := (Box.new (w.alloc (.cells #[.slice ta t.ls.length tc] 26)) [.slice none 0 0] 26)
      simpa only [World.size_alloc] using this
    have rf : ∀ p, ((w.alloc (.cells #[.slice ta t.ls.length tc] 26)).alloc (.cells #[.slice none 0 0] 26)).frozen? ⟨w.heap.size + 1, p, none⟩ = false := fun p => World.frozen?_alloc_at _ _ _ p (by simp)
    replace ht := Cl.at_keep (Keeps.all hW) ht
    have et0 := bt.c0
    have lt := bt.lt
    have re0 := rb.c0
    have rf0 := rf 0
    have rl := rb.lt
    go_enter Tryz.func29, Tryz.ntmps29
    go_wp2_with fail
    clear et0 lt re0 rf0 rl
    have Hw0 : Hid (((w.alloc (.cells #[.slice ta t.ls.length tc] 26)).alloc (.cells #[.slice none 0 0] 26)).heap.size = w.heap.size + 1 + 1) := by simp [Hid]
    generalize ((w.alloc (.cells #[.slice ta t.ls.length tc] 26)).alloc (.cells #[.slice none 0 0] 26)) = w0 at *
    refine (impl_IsValidClause ht hbk).mono ?_
    rintro e w1 ⟨_, rfl, hb, rfl⟩
    replace hW := hW.trans (hb.mono hW.size)
    replace bt := bt.keep hb
    replace ht := Cl.at_keep (Keeps.all hb) ht
    replace rf := fun p => (hb.frozen (p := ⟨_, p, none⟩) rb.lt).trans (rf p)
    replace rb := rb.keep hb
    clear hb
    rw [HV.out]
    have et0 := bt.c0
    have lt := bt.lt
    have re0 := rb.c0
    have rf0 := rf 0
    have rl := rb.lt
    go_wp2_with fail
    refine bodyPost_ret (v := .tuple #[.agg #[.slice none 0 0], .bool false]) (by simp [results, Tryz.results29, go_sem, rb.c0]; try rfl) rfl ?_
    refine ⟨_, [], by rw [HV.out], ?_, by simp, hW.setCell (by simp) _⟩
    rw [HI.out, Lit.sd_css]
    exact D.own_nil _ _
end Go.Proofs.YtglhbaigigdeeaaGreat
/- MakeClause: the program's. -/
namespace Go.Proofs.YtglhbaigigdeeaaGreat
set_option maxRecDepth 100000
open Go.RowKit

def allAtom (xs : List Lit) : Bool := xs.all fun x => x.atom.atom
/-- what MakeClause returns -/
def mkOk (xs : List Lit) : Bool := allAtom xs && (⟨makeL xs⟩ : Cl).valid
def mkR (xs : List Lit) : Cl := if mkOk xs = true then ⟨makeL xs⟩ else ⟨[]⟩
theorem insL_bulk (s : List Lit) (x : Lit) : (insL s x).length ≤ s.length + 1 ∧ Lit.bulks (insL s x) ≤ Lit.bulks s + x.bulk := by
  have happ : ∀ a b : List Lit, Lit.bulks (a ++ b) = Lit.bulks a + Lit.bulks b := by
    intro a
    induction a with
    | nil => intro b; simp [Lit.bulks]
    | cons y a ih => intro b; rw [List.cons_append, Lit.bulks, Lit.bulks, ih]; omega
  have hs := List.takeWhile_append_dropWhile (p := fun y => decide (Lit.cmp y x < 0)) (l := s)
  have h1 := happ (s.takeWhile fun y => decide (Lit.cmp y x < 0)) (s.dropWhile fun y => decide (Lit.cmp y x < 0))
  have h2 := congrArg List.length hs
  rw [hs] at h1
  rw [List.length_append] at h2
  rw [insL]
  split
  · rename_i e
    rw [e] at h1 h2
    rw [happ, List.length_append]
    simp only [Lit.bulks, List.length_cons, List.length_nil] at *
    omega
  · rename_i y r e
    split
    · omega
    · rw [e] at h1 h2
      rw [happ, List.length_append]
      simp only [Lit.bulks, List.length_cons] at *
      omega
theorem makeL_bulk (xs : List Lit) : (makeL xs).length ≤ xs.length ∧ Lit.bulks (makeL xs) ≤ Lit.bulks xs := by
  have key : ∀ (xs s : List Lit), (xs.foldl insL s).length ≤ s.length + xs.length ∧ Lit.bulks (xs.foldl insL s) ≤ Lit.bulks s + Lit.bulks xs := by
    intro xs
    induction xs with
    | nil => intro s; simp [Lit.bulks]
    | cons x xs ih =>
      intro s
      have h1 := ih (insL s x)
      have h2 := insL_bulk s x
      rw [List.foldl_cons]
      simp only [Lit.bulks, List.length_cons]
      omega
  have := key xs []
  simp only [Lit.bulks, List.length_nil, Nat.zero_add] at this
  exact this
theorem mkR_bulk (xs : List Lit) (h : xs.length + Lit.bulks xs ≤ 1048576) : (mkR xs).bulk ≤ 1048576 := by
  unfold mkR
  split
  · have := makeL_bulk xs
    rw [Cl.bulk]; simp only; omega
  · simp [Cl.bulk, Lit.bulks]
theorem allAtom_iff (xs : List Lit) : allAtom xs = true ↔ ∀ x ∈ xs, x.atom.atom = true := by simp [allAtom]
theorem allAtom_bad {xs : List Lit} {k : Nat} (h : k < xs.length) (hb : xs[k].atom.atom = false) : allAtom xs = false := by
  rw [Bool.eq_false_iff]; intro e
  rw [allAtom_iff] at e
  rw [e _ (List.getElem_mem h)] at hb; cases hb
theorem mkR_no {xs : List Lit} (h : allAtom xs = false) : mkOk xs = false ∧ mkR xs = ⟨[]⟩ := by
  have : mkOk xs = false := by rw [mkOk, h]; rfl
  exact ⟨this, by rw [mkR, this]; rfl⟩
theorem mkR_yes {xs : List Lit} (h : allAtom xs = true) : mkOk xs = (⟨makeL xs⟩ : Cl).valid ∧ mkR xs = ifCl ⟨makeL xs⟩ := by
  have : mkOk xs = (⟨makeL xs⟩ : Cl).valid := by rw [mkOk, h]; rfl
  exact ⟨this, by rw [mkR, this]; rfl⟩

set_option maxHeartbeats 1000000 in
theorem make1_any {t : Lit} {S : Nat → Prop} {c0 c1 c2 : Value} {w : World} (hT : Lit.at S w c0 c1 c2 t) (hbk : t.bulk ≤ 1048576) : Calls Tryz.prog 27 #[.agg #[c0, c1, c2]] w (Gives w (.bool (!t.atom.atom))) := by
  obtain ⟨rfl, rfl, a, cap, rfl⟩ := Lit.at_form hT
  have hW : Below w.heap.size w (w.alloc (.cells #[.bool t.pos, .string t.atom.name, .slice a t.atom.args.length cap] 58)) := (Below.refl _ _).alloc (Nat.le_refl _) _
  have bT : Box (w.alloc (.cells #[.bool t.pos, .string t.atom.name, .slice a t.atom.args.length cap] 58)) w.heap.size [.bool t.pos, .string t.atom.name, .slice a t.atom.args.length cap] := Box.new w _ _
  replace hT := Lit.at_keep (Keeps.all hW) hT
  go_enter Tryz.func27, Tryz.ntmps27
  go_wp2_with fail
  generalize (w.alloc (.cells #[.bool t.pos, .string t.atom.name, .slice a t.atom.args.length cap] 58)) = w0 at *
  refine (impl_IsValidLiteral hT hbk).mono ?_
  rintro e w1 ⟨_, rfl, hb, rfl⟩
  replace hW := hW.trans (hb.mono hW.size)
  replace bT := bT.keep hb
  replace hT := Lit.at_keep (Keeps.all hb) hT
  clear hb
  have eT0 := bT.c0
  have eT1 := bT.c1
  have eT2 := bT.c2
  have lT := bT.lt
  go_wp2_with fail
  clear eT0 eT1 eT2 lT
  go_ret
  exact Gives.mk rfl hW
/-- the first literal that is not valid, or -1 -/
def FirstL (xs : List Lit) (w : World) (e : Ending) (w' : World) : Prop := ∃ r : Int, e = .returned (.int .i64 r) ∧ Below w.heap.size w w' ∧ ((r = -1 ∧ allAtom xs = true) ∨ ∃ k : Nat, r = k ∧ allAtom xs = false)
set_option maxHeartbeats 1000000 in
theorem indexLit_any {xs : List Lit} {S : Nat → Prop} {v : Value} {w : World} (hs : D.rd S w v (Lit.sd xs)) (hbk : xs.length + Lit.bulks xs ≤ 1048576) :
    Calls Tryz.prog 51 #[v, .func (.func 27) #[] #[]] w (FirstL xs w) := by
  obtain ⟨a, cap, rfl, hlen, hcap⟩ := Lit.sd_form hs
  unfold big at hlen
  go_enter Tryz.func51, Tryz.ntmps51
  go_wp2_with fail
  go_loopw [5, 8] (fun _ i wr => ∃ k : Nat, k ≤ xs.length ∧ i = .int .i64 k ∧ Hid (∀ j (h : j < xs.length), j < k → xs[j].atom.atom = true) ∧ Below w.heap.size w wr) (fun _ i _ => xs.length - (intOf i).toNat)
  case atStart => exact ⟨0, Nat.zero_le _, rfl, fun j h h' => absurd h' (by omega), Below.refl _ _⟩
  case round =>
    obtain ⟨k, hk, rfl, HX, hb⟩ := hrel
    by_cases hlt : k < xs.length
    · have hne : xs ≠ [] := by intro e; subst e; simp at hlt
      obtain ⟨b, off, rfl, hS, hbl, hrr⟩ := Lit.sd_get hs hne
      obtain ⟨c0, c1, c2, q0, q1, q2, qx⟩ := hrr k hlt
      have hq := make1_any (Lit.at_keep (Keeps.all hb) qx) (by have := Lit.bulk_memA (List.getElem_mem hlt); rw [Lit.bulk]; omega)
      obtain ⟨rfl, rfl, x, xc, rfl⟩ := Lit.at_form qx
      replace q0 := (hb.cell (p := ⟨b, off + k * 3, none⟩) hbl).trans q0
      replace q1 := (hb.cell (p := ⟨b, off + k * 3 + 1, none⟩) hbl).trans q1
      replace q2 := (hb.cell (p := ⟨b, off + k * 3 + 2, none⟩) hbl).trans q2
      have HQ := hid hq
      clear hrr qx hs hq
      go_wp2_with fail
      refine HQ.out.mono ?_
      rintro e w2 ⟨_, rfl, hb2, rfl⟩
      have hb3 := hb.trans (hb2.mono hb.size)
      by_cases hp : xs[k].atom.atom = true
      · have HZ : Hid (∀ j (h : j < xs.length), j < k + 1 → xs[j].atom.atom = true) := fun j h h' => by
          by_cases hjk : j < k
          · exact HX.out j h hjk
          · obtain rfl : j = k := by omega
            exact hp
        rw [hp]
        clear hp
        go_wp2_with fail
        go_roundw
        case rel => exact ⟨k + 1, by omega, by go_num, HZ, hb3⟩
        case measure => simp [intOf]; omega
      · replace hp : xs[k].atom.atom = false := by simpa using hp
        have HP := hid (allAtom_bad hlt hp)
        rw [hp]
        clear hp
        go_wp2_with fail
        go_ret
        exact ⟨(k : Int), rfl, hb3, .inr ⟨k, rfl, HP.out⟩⟩
    · obtain rfl : k = xs.length := by omega
      have HP : Hid (allAtom xs = true) := (allAtom_iff xs).2 fun x hx => by
        obtain ⟨j, hj, rfl⟩ := List.mem_iff_getElem.1 hx
        exact HX.out j hj hj
      go_wp2_with fail
      go_ret
      exact ⟨-1, rfl, hb, .inl ⟨rfl, HP.out⟩⟩
set_option maxHeartbeats 1000000 in
theorem containsLit_any {xs : List Lit} {S : Nat → Prop} {v : Value} {w : World} (hs : D.rd S w v (Lit.sd xs)) (hbk : xs.length + Lit.bulks xs ≤ 1048576) :
    Calls Tryz.prog 26 #[v, .func (.func 27) #[] #[]] w (Gives w (.bool (!allAtom xs))) := by
  have HQ := hid (indexLit_any hs hbk)
  go_enter Tryz.func26, Tryz.ntmps26
  go_wp2_with fail
  refine HQ.out.mono ?_
  rintro e w1 ⟨r, rfl, hb, hr⟩
  rcases hr with ⟨rfl, hr⟩ | ⟨k, rfl, hr⟩
  · have HR := hid hr
    clear hr
    go_wp2_with fail
    go_ret
    exact Gives.mk (ret_bool (by rw [HR.out]; rfl)) hb
  · have HR := hid hr
    have hk0 : (0 : Int) ≤ (k : Int) := by omega
    clear hr
    go_wp2_with fail
    go_ret
    exact Gives.mk (ret_bool (by rw [HR.out]; simp)) hb
set_option maxHeartbeats 1000000 in
theorem impl_MakeClause {xs : List Lit} {S : Nat → Prop} {v : Value} {w : World} (hs : D.rd S w v (Lit.sd xs)) (hbk : xs.length + Lit.bulks xs ≤ 1048576) :
    Calls Tryz.prog 8 #[v] w (OutD (fun v => .agg #[v]) (Lit.sd (mkR xs).ls) (mkOk xs) w) := by
  have HS := hid hs
  obtain ⟨a, cap, rfl, -, -⟩ := Lit.sd_form hs
  by_cases hA : allAtom xs = true
  · obtain ⟨h1, h2⟩ := mkR_yes hA
    rw [h1, h2]
    obtain ⟨R, HR⟩ : ∃ R, Hid (ifCl ⟨makeL xs⟩ = R) := ⟨_, hid rfl⟩
    obtain ⟨V, HV⟩ : ∃ V, Hid ((⟨makeL xs⟩ : Cl).valid = V) := ⟨_, hid rfl⟩
    rw [HR.out, HV.out]
    have HN : Hid (∀ x ∈ xs, x.atom.nice = true) := fun x hx => Tm.expr_nice (Tm.atom_expr ((allAtom_iff xs).1 hA x hx))
    have HA := hid hA
    clear hA h1 h2 hs
    have hW : Below w.heap.size w (w.alloc (.cells #[.slice none 0 0] 26)) := (Below.refl _ _).alloc (Nat.le_refl _) _
    have rb : Box (w.alloc (.cells #[.slice none 0 0] 26)) (w.heap.size) [.slice none 0 0] := by
      have := (Box.new w [.slice none 0 0] 26)
      simpa only [World.size_alloc] using this
    have rf : ∀ p, (w.alloc (.cells #[.slice none 0 0] 26)).frozen? ⟨w.heap.size, p, none⟩ = false := fun p => World.frozen?_alloc_at _ _ _ p (by simp)
    have re0 := rb.c0
    have rf0 := rf 0
    have rl := rb.lt
    go_enter Tryz.func8, Tryz.ntmps8
    go_wp2_with fail
    clear re0 rf0 rl
    have Hw0 : Hid ((w.alloc (.cells #[.slice none 0 0] 26)).heap.size = w.heap.size + 1) := by simp [Hid]
    generalize (w.alloc (.cells #[.slice none 0 0] 26)) = w0 at *
    refine (containsLit_any (D.rd_keep (Keeps.all hW) _ _ HS.out) hbk).mono ?_
    rintro e w1 ⟨_, rfl, hb, rfl⟩
    replace hW := hW.trans (hb.mono hW.size)
    replace rf := fun p => (hb.frozen (p := ⟨w.heap.size, p, none⟩) rb.lt).trans (rf p)
    replace rb := rb.keep hb
    clear hb
    rw [HA.out]
    have re0 := rb.c0
    have rf0 := rf 0
    have rl := rb.lt
    go_wp2_with fail
    clear re0 rf0 rl
    refine (clauseOf_any (D.rd_keep (Keeps.all hW) _ _ HS.out) hbk HN.out).mono ?_
    rintro e w2 ⟨v2, F, rfl, ho, hF, hb⟩
    have hzz := hW.size
    have hrr := rb.lt
    replace hW := hW.trans (hb.mono hW.size)
    replace rf := fun p => (hb.frozen (p := ⟨w.heap.size, p, none⟩) rb.lt).trans (rf p)
    replace rb := rb.keep hb
    have HF : Hid (∀ y ∈ F, w1.heap.size ≤ y) := hF
    have hmb := makeL_bulk xs
    have hq := ifClause_any (t := ⟨makeL xs⟩) ho (by rw [Cl.bulk]; simp only; omega)
    obtain ⟨a2, c2, rfl⟩ := Lit.sd_own_form ho
    rw [HR.out, HV.out] at hq
    have HQ := hid hq
    clear hb ho hF hq hmb
    go_wp2_with fail
    refine HQ.out.mono ?_
    rintro e w3 ⟨v3, F3, rfl, ho, hs3, hb⟩
    replace hW := hW.trans (hb.mono hW.size)
    replace rf := fun p => (hb.frozen (p := ⟨w.heap.size, p, none⟩) rb.lt).trans (rf p)
    replace rb := rb.keep hb
    have nF : w.heap.size ∉ F3 := fun q => by have := HF.out _ (hs3 _ q); omega
    have HF3 : Hid (∀ y ∈ F3, w.heap.size ≤ y) := fun y hy => by have := HF.out _ (hs3 _ hy); omega
    obtain ⟨a3, c3, rfl⟩ := Lit.sd_own_form ho
    have HO := hid ho
    clear hb ho hs3
    have re0 := rb.c0
    have rf0 := rf 0
    have rl := rb.lt
    go_wp2_with fail
    refine bodyPost_ret (v := .tuple #[.agg #[.slice a3 R.ls.length c3], .bool V]) (by simp [results, Tryz.results8, go_sem, rb.c0]; try rfl) rfl ?_
    exact ⟨_, F3, rfl, D.own_keep _ _ _ ((Keeps.refl _ _).setCell (fun q _ => nF q) _) HO.out, HF3.out, hW.setCell (by simp) _⟩
  · have HA := hid (Bool.eq_false_iff.2 hA)
    obtain ⟨h1, h2⟩ := mkR_no HA.out
    rw [h1, h2]
    clear hA h1 h2 hs
    have hW : Below w.heap.size w (w.alloc (.cells #[.slice none 0 0] 26)) := (Below.refl _ _).alloc (Nat.le_refl _) _
    have rb : Box (w.alloc (.cells #[.slice none 0 0] 26)) (w.heap.size) [.slice none 0 0] := by
      have := (Box.new w [.slice none 0 0] 26)
      simpa only [World.size_alloc] using this
    have rf : ∀ p, (w.alloc (.cells #[.slice none 0 0] 26)).frozen? ⟨w.heap.size, p, none⟩ = false := fun p => World.frozen?_alloc_at _ _ _ p (by simp)
    have re0 := rb.c0
    have rf0 := rf 0
    have rl := rb.lt
    go_enter Tryz.func8, Tryz.ntmps8
    go_wp2_with fail
    clear re0 rf0 rl
    have Hw0 : Hid ((w.alloc (.cells #[.slice none 0 0] 26)).heap.size = w.heap.size + 1) := by simp [Hid]
    generalize (w.alloc (.cells #[.slice none 0 0] 26)) = w0 at *
    refine (containsLit_any (D.rd_keep (Keeps.all hW) _ _ HS.out) hbk).mono ?_
    rintro e w1 ⟨_, rfl, hb, rfl⟩
    replace hW := hW.trans (hb.mono hW.size)
    replace rf := fun p => (hb.frozen (p := ⟨w.heap.size, p, none⟩) rb.lt).trans (rf p)
    replace rb := rb.keep hb
    clear hb
    rw [HA.out]
    have re0 := rb.c0
    have rf0 := rf 0
    have rl := rb.lt
    go_wp2_with fail
    refine bodyPost_ret (v := .tuple #[.agg #[.slice none 0 0], .bool false]) (by simp [results, Tryz.results8, go_sem, rb.c0]; try rfl) rfl ?_
    exact ⟨_, [], rfl, by rw [Lit.sd_css]; exact D.own_nil _ _, by simp, hW.setCell (by simp) _⟩
end Go.Proofs.YtglhbaigigdeeaaGreat
