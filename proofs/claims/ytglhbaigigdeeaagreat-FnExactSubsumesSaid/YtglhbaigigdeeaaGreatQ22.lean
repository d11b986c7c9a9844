/- Several texts in one file. -/
import Derived.Test.YtglhbaigigdeeaaGreatQ19
import Derived.Test.YtglhbaigigdeeaaGreatQ20
import Derived.Shelf.SlSortCmp.NoneTotal
import Derived.Test.YtglhbaigigdeeaaGreatSortB
import Derived.Test.YtglhbaigigdeeaaGreatQ09
import Derived.Test.YtglhbaigigdeeaaGreatQ16
import Derived.Test.YtglhbaigigdeeaaGreatQ10
import Derived.Test.YtglhbaigigdeeaaGreatQ18
/- Rows of items are sorted: the library's law, at lists. -/
namespace Go.Proofs.YtglhbaigigdeeaaGreat
set_option maxRecDepth 100000
open Go.RowKit

theorem flatV_get {α : Type} {enc : α → List Value} {k : Nat} (hk : ∀ x, (enc x).length = k) (d : List α) (i c : Nat) (hi : i < d.length) (hc : c < k) : (d.flatMap enc)[i * k + c]? = (enc d[i])[c]? := by
  induction d generalizing i with
  | nil => exact absurd hi (by simp)
  | cons y ys ih =>
    rw [List.flatMap_cons]
    cases i with
    | zero => rw [Nat.zero_mul, Nat.zero_add, List.getElem?_append_left (by rw [hk y]; exact hc)]; rfl
    | succ i =>
      rw [List.getElem?_append_right (by rw [hk y, Nat.add_mul, Nat.one_mul]; omega), hk y, show (i + 1) * k + c - k = i * k + c by rw [Nat.add_mul, Nat.one_mul]; omega, ih i (by simpa using hi)]
      rfl
theorem flatV_length {α : Type} {enc : α → List Value} {k : Nat} (hk : ∀ x, (enc x).length = k) (d : List α) : (d.flatMap enc).length = d.length * k := by
  induction d with
  | nil => simp
  | cons y ys ih => rw [List.flatMap_cons, List.length_append, ih, hk y, List.length_cons, Nat.add_mul, Nat.one_mul, Nat.add_comm]
section
variable {α : Type} [Inhabited α] {enc : α → List Value} {k : Nat}
theorem flatK_get (hk : ∀ x, (enc x).length = k) (d : List α) (t : Nat) (ht : t < d.length * k) : (d.flatMap enc)[t]? = some (Go.Sort.flatK enc k d.toArray)[t]! := by
  have hk0 : 0 < k := by
    rcases Nat.eq_zero_or_pos k with h | h
    · subst h; simp at ht
    · exact h
  have hi : t / k < d.length := (Nat.div_lt_iff_lt_mul hk0).2 ht
  have hc : t % k < k := Nat.mod_lt _ hk0
  have he : t / k * k + t % k = t := Nat.div_add_mod' t k
  have h0 := flatV_get hk d (t / k) (t % k) hi hc
  rw [he] at h0
  rw [h0, Go.Sort.get_flatK _ _ _ _ (by simpa using ht), List.getElem?_eq_getElem (by rw [hk]; exact hc), getElem!_pos d.toArray (t / k) (by simpa using hi)]
  rw [getElem!_pos (enc d.toArray[t / k]) (t % k) (by rw [hk]; exact hc)]
  simp
theorem holds_of_row (hk : ∀ x, (enc x).length = k) {w : World} {b off : Nat} {e : TypeId} {d : List α} (h : RowAt w b off e (d.flatMap enc)) : Go.Sort.HoldsK enc k w b off d.toArray := by
  intro j hj
  rw [Go.Sort.size_flatK] at hj
  have hj' : j < d.length * k := by simpa using hj
  have hl : j < (d.flatMap enc).length := by rw [flatV_length hk]; exact hj'
  refine ⟨?_, h.free _⟩
  rw [h.cell hl]
  have := flatK_get hk d j hj'
  rw [List.getElem?_eq_getElem hl] at this
  exact this
theorem row_of_holds (hk : ∀ x, (enc x).length = k) {w : World} {b off : Nat} {e : TypeId} {d : List α} {cur : Array Value} (hb : w.heap[b]? = some (.cells cur e (0, 0))) (h : Go.Sort.HoldsK enc k w b off d.toArray) : RowAt w b off e (d.flatMap enc) := by
  refine ⟨cur, hb, fun i hi => ?_⟩
  have hi' : i < d.length * k := by rw [flatV_length hk] at hi; exact hi
  have h0 := (h i (by rw [Go.Sort.size_flatK]; simpa using hi')).1
  have h1 := flatK_get hk d i hi'
  rw [List.getElem?_eq_getElem hi] at h1
  have h2 := Option.some.inj h1
  simp only [World.cell?, hb] at h0
  simp only [Option.isSome_none, Bool.false_eq_true, if_false] at h0
  rw [h0, h2]
  rfl
theorem sortWorld_row {w : World} {b off n : Nat} {e : TypeId} {cur : Array Value} {d : Array α} {os : Array Obj} (hb : w.heap[b]? = some (.cells cur e (0, 0))) :
    (∃ cur', (Go.Proofs.sortWorldK enc k w b off n d os).heap[b]? = some (.cells cur' e (0, 0))) ∧ w.grownBy (Go.Proofs.sortWorldK enc k w b off n d os) (some b) := by
  have hl := lt_of_heap hb
  have hz : (Go.Sort.putRowK enc k (Go.Sort.ahead w n) b off d).heap.size = w.heap.size := by
    simp [Go.Sort.putRowK, Go.Sort.putRow, Go.Sort.mapBlock, Go.Sort.ahead]
  refine ⟨?_, rfl, rfl, rfl, ?_, fun j hj hne => ?_⟩
  · refine ⟨(Go.Sort.putCells id off (Go.Sort.flatK enc k d)) cur, ?_⟩
    show (Go.Sort.grow _ os).heap[b]? = _
    rw [Go.Sort.heap_grow_old _ _ (by rw [hz]; exact hl)]
    show (w.heap.modify b _)[b]? = _
    rw [Array.getElem?_modify, if_pos rfl, hb]
    rfl
  · show _ ≤ (Go.Sort.grow _ os).heap.size
    rw [Go.Sort.size_grow, hz]; omega
  · show (Go.Sort.grow _ os).heap[j]? = _
    rw [Go.Sort.heap_grow_old _ _ (by rw [hz]; exact hj)]
    show (w.heap.modify b _)[j]? = _
    rw [Array.getElem?_modify, if_neg (fun e => hne (by rw [e]))]

/-- SORTING, AT LISTS -/
theorem sort_rows {P : Program} {ρ : Go.Shelf.Ren} (L : Go.Proofs.SlLaysF0.n6 P ρ) (aE : ∀ w, (isAgg (ρ.t 24)).run P w = .ok true w) (zE : ∀ w, (Go.sizeOf (ρ.t 24)).run P w = .ok k w) (hk : ∀ x, (enc x).length = k) (h1 : ∀ x, ∀ v ∈ enc x, v.oneCell' = true) (cf : α → α → Int) (hO : Go.Sort.SWO (Go.Proofs.ltOf cf)) (g : Nat) (cb : Array Value)
    {b off cap : Nat} {e : TypeId} {d : List α} {w : World} (eg : ∀ args w, (callFunc g args).run P w = .ok (.enter g args) w) (hcmp : Go.Proofs.CmpLays P g cb enc k cf b off d.length w) (hrow : RowAt w b off e (d.flatMap enc)) (hsz : d.length < 4611686018427387904) :
    Calls P (ρ.f 6) #[.slice (some ⟨b, off, none⟩) d.length cap, .func (.func g) #[] cb] w fun r w' => r = .returned (.tuple #[]) ∧ ∃ d' : List α, d'.Perm d ∧ d'.Pairwise (fun x y => ¬ cf y x < 0) ∧ RowAt w' b off e (d'.flatMap enc) ∧ w.grownBy w' (some b) := by
  have hH := holds_of_row hk hrow
  have hbl := hrow.lt
  obtain ⟨cur, hb, -⟩ := hrow
  have hs : d.toArray.size = d.length := by simp
  have hq := Go.Proofs.AnyQ.slices_SortFunc L k aE zE enc hk h1 cf hO g cb b off cap d.toArray w eg (by rw [hs]; exact hcmp) hH hbl (by rw [hs]; exact hsz)
  rw [hs] at hq
  refine hq.mono ?_
  rintro r w' ⟨rfl, d', n, os, hp, hso, rfl⟩
  obtain ⟨hp0, -, hp1⟩ := hp
  have hs' : d'.size = d.length := by rw [hp0, hs]
  obtain ⟨⟨cur', hc'⟩, hg⟩ := sortWorld_row (enc := enc) (k := k) (off := off) (n := n) (d := d') (os := os) hb
  refine ⟨rfl, d'.toList, ?_, ?_, row_of_holds hk hc' ?_, hg⟩
  · have e1 : d'.extract 0 d.length = d' := by rw [← hs']; simp
    have e2 : d.toArray.extract 0 d.length = d.toArray := by rw [← hs]; simp
    rw [e1, e2] at hp1
    simpa using hp1
  · rw [List.pairwise_iff_getElem]
    intro i j hi hj hij
    have := hso i j (Nat.zero_le _) hij (by simpa [← hs'] using hj)
    rw [getElem!_pos d' i (by simpa using hi), getElem!_pos d' j (by simpa using hj)] at this
    simpa [Go.Proofs.ltOf] using this
  · have := Go.Proofs.holdsK_sortWorldK_c enc k w b off d.toArray d' n os hH hbl (by rw [hs', hs])
    simpa using this
end
/-- a call that changes nothing old and gives no draw back has laid blocks and drawn -/
theorem grow_of_below {w w' : World} (h : Below w.heap.size w w') (hd : w.drawn ≤ w'.drawn) : ∃ q os, w' = Go.Sort.grow (w.drewN q) os := by
  refine ⟨w'.drawn - w.drawn, w'.heap.extract w.heap.size w'.heap.size, ?_⟩
  have hh : w'.heap = w.heap ++ w'.heap.extract w.heap.size w'.heap.size := by
    apply Array.ext_getElem?
    intro i
    rw [Array.getElem?_append]
    split
    · rename_i hi; exact h.block i hi
    · rename_i hi
      rw [Array.getElem?_extract]
      split
      · congr 1; omega
      · rw [Array.getElem?_eq_none (by omega)]
  obtain ⟨h0, h1, h2, -, -⟩ := h
  cases w; cases w'
  simp only [Go.Sort.grow, World.drewN] at *
  subst h0 h1 h2
  congr 1
  · omega
end Go.Proofs.YtglhbaigigdeeaaGreat
/- The program makes a substitution of a match. -/
namespace Go.Proofs.YtglhbaigigdeeaaGreat
set_option maxRecDepth 100000
open Go.RowKit

/-- a binding with the slice of its term's arguments -/
abbrev BndV := Bnd × (Option Addr × Nat)
def encBV (p : BndV) : List Value := [.string p.1.var, .string p.1.term.name, .slice p.2.1 p.1.term.args.length p.2.2]
theorem to_bndV : ∀ (d : List (Bnd × Value)), (∀ p ∈ d, ∃ a c, p.2 = .slice a p.1.term.args.length c) → ∃ d2 : List BndV, d2.map (fun p => p.1) = d.map (fun p => p.1) ∧ d2.flatMap encBV = d.flatMap Bnd.ev
  | [], _ => ⟨[], rfl, rfl⟩
  | p :: d, h => by
    obtain ⟨d2, h1, h2⟩ := to_bndV d fun q hq => h q (by simp [hq])
    obtain ⟨a, c, e⟩ := h p (by simp)
    refine ⟨(p.1, a, c) :: d2, by simp [h1], ?_⟩
    rw [List.flatMap_cons, List.flatMap_cons, h2, encBV, Bnd.ev, e]
instance : Inhabited BndV := ⟨(⟨⟨#[]⟩, .node ⟨#[]⟩ []⟩, none, 0)⟩
def cmpBV (x y : BndV) : Int := strCmp x.1.var y.1.var
theorem swoBV : Go.Sort.SWO (Go.Proofs.ltOf cmpBV) where
  irrefl x := by simp [Go.Proofs.ltOf, cmpBV, strCmp_lt, bl_irrefl]
  trans x y z h1 h2 := by
    simp only [Go.Proofs.ltOf, cmpBV, decide_eq_true_eq, strCmp_lt] at *
    exact blt_trans h1 h2
  ntrans x y z h1 h2 := by
    simp only [Go.Proofs.ltOf, cmpBV, decide_eq_false_iff_not, strCmp_lt, Bool.not_eq_true] at *
    exact bl_ntrans h1 h2
set_option maxHeartbeats 1000000 in
theorem cmpClosure (x y : BndV) (W : World) : Calls Tryz.prog 91 #[.agg (encBV x).toArray, .agg (encBV y).toArray] W fun e w' => e = .returned (.int .i64 (cmpBV x y)) ∧ ∃ q os, w' = Go.Sort.grow (W.drewN q) os := by
  obtain ⟨⟨p, t⟩, a, c⟩ := x
  obtain ⟨⟨q, u⟩, b, d⟩ := y
  show Calls Tryz.prog 91 #[.agg #[.string p, .string t.name, .slice a t.args.length c], .agg #[.string q, .string u.name, .slice b u.args.length d]] W fun e w' => e = .returned (.int .i64 (strCmp p q)) ∧ ∃ q os, w' = Go.Sort.grow (W.drewN q) os
  obtain ⟨r, Hr⟩ : ∃ r, Hid (strCmp p q = r) := ⟨_, hid rfl⟩
  have hc := fun W' => compareString_any p q W'
  rw [Hr.out] at hc ⊢
  go_enter Tryz.func91, Tryz.ntmps91
  go_wp2_with fail
  refine (hc _).mono ?_
  rintro e w1 ⟨rfl, rfl⟩
  go_wp2_with fail
  go_ret
  exact ⟨rfl, 0, _, by rw [Go.Sort.alloc_eq_grow, Go.Sort.alloc_eq_grow, Go.Sort.grow_grow]; rfl⟩
theorem isAggBV (w : World) : (isAgg 91).run Tryz.prog w = .ok true w := by kernel_rfl
theorem sizeOfBV (w : World) : (Go.sizeOf 91).run Tryz.prog w = .ok 3 w := by kernel_rfl
theorem encBV_len (x : BndV) : (encBV x).length = 3 := rfl
theorem encBV_one (x : BndV) : ∀ v ∈ encBV x, v.oneCell' = true := by
  intro v hv
  simp [encBV] at hv
  rcases hv with rfl | rfl | rfl <;> rfl
theorem mk_of_grown {F : List Nat} {b : Nat} {w w' : World} (hb : b ∈ F) (hg : w.grownBy w' (some b)) : Mk F w w' :=
  ⟨⟨hg.size, fun x hx hl => hg.block x hl fun e => hx (by injection e with e; rw [e]; exact hb)⟩, fun B hB hF => (Below.refl B w).grown hg hB fun k hk => by injection hk with hk; rw [← hk]; exact hF b hb⟩
set_option maxHeartbeats 1000000 in
theorem sortBnd_any {xs : List Bnd} {v : Value} {F : List Nat} {w : World} (ho : D.own w v (Bnd.sd xs) F) (hl : xs.length ≤ 1073741824) :
    Calls Tryz.prog 90 #[v, .func (.func 91) #[] #[]] w fun e w' => e = .returned (.tuple #[]) ∧ ∃ ys F', ys.Perm xs ∧ ys.Pairwise (fun x y => Op.bytesLess y.var.toList x.var.toList = false) ∧ D.own w' v (Bnd.sd ys) F' ∧ (∀ y ∈ F', y ∈ F) ∧ Mk F w w' := by
  obtain ⟨a, c, rfl⟩ := Bnd.sd_own_form ho
  by_cases hne : xs = []
  · subst hne
    have := Go.Proofs.AnyF.slices_SortFunc_none Tryz.SortB a c (.func (.func 91) #[] #[]) w
    refine Calls.mono this ?_
    rintro e w' ⟨rfl, rfl⟩
    exact ⟨rfl, [], F, List.Perm.refl _, List.Pairwise.nil, ho, fun _ h => h, Mk.refl _ _⟩
  · have ho2 := ho
    have hcap : xs.length ≤ big ∧ xs.length ≤ c := by rw [Bnd.sd_css, D.own] at ho; obtain ⟨_, _, e, h1, h, _⟩ := ho; injection e with _ _ e; subst e; exact ⟨h1, h⟩
    rw [Bnd.sd_css] at ho2
    obtain ⟨b, off, ty, vs, F', rfl, rfl, hbF, hrow, hvl, hol⟩ := own_row ho2 (Bnd.css_ne hne)
    obtain ⟨d, hd, hvd, hds⟩ := Bnd.items xs vs F' hol
    obtain ⟨d2, hd2, he2⟩ := to_bndV d fun p hp => (hds p hp).2.2
    have hdl : d2.length = xs.length := by rw [← hd]; have := congrArg List.length hd2; simpa using this
    have hol2 : OwnsL w (d2.flatMap encBV) (d2.flatMap fun p => p.1.cs) F' := by
      rw [he2, ← hvd]
      have : d2.flatMap (fun p => p.1.cs) = Bnd.css xs := by
        rw [← hd, ← hd2, Bnd.css_flat, List.flatMap_map]
      rw [this]; exact hol
    rw [hvd, ← he2] at hrow
    have hs := sort_rows Tryz.SortB (k := 3) isAggBV sizeOfBV encBV_len encBV_one cmpBV swoBV 91 #[] (cap := c) (fun _ _ => by kernel_rfl) (fun _ _ _ _ x y => cmpClosure x y _) hrow (by omega)
    rw [hdl] at hs
    refine Calls.mono hs ?_
    rintro e w' ⟨rfl, d', hp, hso, hrow', hg⟩
    obtain ⟨F2, hol3, hF2⟩ := items_perm (ev := encBV) (ed := fun p => p.1.cs) (fun p => by rw [Bnd.cs_eq]; rfl) hp.symm hol2
    have hl' : (d'.map fun p => p.1).length = xs.length := by rw [List.length_map, hp.length_eq, hdl]
    have hol4 : OwnsL w' (d'.flatMap encBV) (Bnd.css (d'.map fun p => p.1)) F2 := by
      have e1 : d'.flatMap (fun p => p.1.cs) = Bnd.css (d'.map fun p => p.1) := by rw [Bnd.css_flat, List.flatMap_map]
      rw [← e1]
      exact hol3.keep ⟨hg.size, fun x hx hl => hg.block x hl fun e => hbF (by injection e with e; rw [← e]; exact hF2 x hx)⟩
    obtain ⟨G, hG, hGF⟩ := row_own (n := xs.length) (cap := c) hrow' hol4 (fun q => hbF (hF2 b q)) (fun i hi => List.getElem?_eq_getElem hi) hcap.1 hcap.2 (fun h0 => Bnd.css_ne (fun e => h0 (by rw [← hl', e]; rfl)))
    refine ⟨rfl, d'.map (fun p => p.1), G, ?_, ?_, ?_, fun y hy => ?_, mk_of_grown (by simp) hg⟩
    · have := hp.map (fun p : BndV => p.1)
      rw [hd2, hd] at this
      exact this
    · rw [List.pairwise_map]
      refine hso.imp fun {x y} h => ?_
      rw [cmpBV, strCmp_lt] at h
      simpa using h
    · rw [Bnd.sd_css, hl']; exact hG
    · rcases hGF y hy with h | h
      · simp [h]
      · simp [hF2 y h]
end Go.Proofs.YtglhbaigigdeeaaGreat
/- The substitution of a match: the program's. -/
namespace Go.Proofs.YtglhbaigigdeeaaGreat
set_option maxRecDepth 100000
open Go.RowKit

set_option maxHeartbeats 4000000 in
theorem subst_any {l : List Bnd} {kv : List (ByteArray × Value)} {mb : Nat} {S : Nat → Prop} {w : World} (hmap : MapIs w mb kv) (hkv : KvRd S w kv l) (honce : Once l) (hS : ∀ x, S x → x < w.heap.size) (hvs : ∀ b ∈ l, b.var.size ≤ maxLen) (hsm : Smalls l) (hlen : l.length ≤ 1048576) (hbk : (⟨pairsB l⟩ : Sb).bulk ≤ 1048576) :
    Calls Tryz.prog 64 #[.map (some mb)] w (OutD (fun v => .agg #[v]) (Bnd.sd (if (⟨pairsB l⟩ : Sb).valid = true then pairsB l else [])) ((⟨pairsB l⟩ : Sb).valid) w) := by
  have HM := hid hmap
  have HKV := hid hkv
  have HON := hid honce
  have HSM := hid hsm
  have HVS := hid hvs
  have HS := hid hS
  have hkl := hid hkv.1
  have hml := hmap.lt
  have hkv1 : kv.length ≤ 1048576 := by rw [hkv.1]; exact hlen
  clear hmap hkv honce hsm hS hvs
  obtain ⟨R, HR⟩ : ∃ R, Hid ((if (⟨pairsB l⟩ : Sb).valid = true then pairsB l else []) = R) := ⟨_, hid rfl⟩
  obtain ⟨V, HV⟩ : ∃ V, Hid ((⟨pairsB l⟩ : Sb).valid = V) := ⟨_, hid rfl⟩
  rw [HR.out, HV.out]
  have HW0 : Hid (Below w.heap.size w ((w.alloc (.cells #[.slice none 0 0] 40)).alloc (.cells #[.slice none 0 0] 40))) := ((Below.refl _ _).alloc (Nat.le_refl _) _).alloc (by simp) _
  have HZ0 : Hid (((w.alloc (.cells #[.slice none 0 0] 40)).alloc (.cells #[.slice none 0 0] 40)).heap.size = w.heap.size + 1 + 1) := by simp [Hid]
  go_enter Tryz.func64, Tryz.ntmps64
  go_wp2_with (at_range; go_must (refine wpList_rng rfl _ (by rfl) (HM.out.keep (Keeps.all HW0.out)) Tryz.underlying93 (by rfl) ?_; intro hit hmp; rw [HZ0.out]))
  rw [HZ0.out] at hit
  have rb : Box (((w.alloc (.cells #[.slice none 0 0] 40)).alloc (.cells #[.slice none 0 0] 40)).alloc (.mapIter (some mb) kv.length #[] kv.length)) w.heap.size [.slice none 0 0] := ((Box.new w [Value.slice none 0 0] 40).alloc _).alloc _
  have ob : Box (((w.alloc (.cells #[.slice none 0 0] 40)).alloc (.cells #[.slice none 0 0] 40)).alloc (.mapIter (some mb) kv.length #[] kv.length)) (w.heap.size + 1) [.slice none 0 0] := by
    have := (Box.new (w.alloc (.cells #[.slice none 0 0] 40)) [Value.slice none 0 0] 40).alloc (.mapIter (some mb) kv.length #[] kv.length)
    simpa only [World.size_alloc] using this
  have rf : (((w.alloc (.cells #[.slice none 0 0] 40)).alloc (.cells #[.slice none 0 0] 40)).alloc (.mapIter (some mb) kv.length #[] kv.length)).frozen? ⟨w.heap.size, 0, none⟩ = false := (World.frozen?_alloc_past _ _ 0 (by simp; try omega)).trans ((World.frozen?_alloc_past _ _ 0 (by simp)).trans (World.frozen?_alloc_at _ _ _ 0 (by simp)))
  have of : (((w.alloc (.cells #[.slice none 0 0] 40)).alloc (.cells #[.slice none 0 0] 40)).alloc (.mapIter (some mb) kv.length #[] kv.length)).frozen? ⟨w.heap.size + 1, 0, none⟩ = false := (World.frozen?_alloc_past _ _ 0 (by simp)).trans (World.frozen?_alloc_at _ _ _ 0 (by simp))
  have HW : Hid (Below w.heap.size w (((w.alloc (.cells #[.slice none 0 0] 40)).alloc (.cells #[.slice none 0 0] 40)).alloc (.mapIter (some mb) kv.length #[] kv.length))) := HW0.out.alloc HW0.out.size _
  have HZ : Hid ((((w.alloc (.cells #[.slice none 0 0] 40)).alloc (.cells #[.slice none 0 0] 40)).alloc (.mapIter (some mb) kv.length #[] kv.length)).heap.size = w.heap.size + 1 + 1 + 1) := by simp [Hid]
  clear HW0 HZ0
  generalize (((w.alloc (.cells #[.slice none 0 0] 40)).alloc (.cells #[.slice none 0 0] 40)).alloc (.mapIter (some mb) kv.length #[] kv.length)) = w0 at *
  have HIT := hid hit
  have HMP := hid hmp
  clear hit hmp
  have hz0 := HZ.out
  go_frame
  go_loopw [] (fun wr => ∃ (done F : List Nat) (v : Value), Hid (ItAt wr (w.heap.size + 1 + 1) mb kv.length done) ∧ Hid done.Nodup ∧ Hid (∀ i ∈ done, i < kv.length) ∧ Hid (MapIs wr mb kv) ∧ Hid (Gr wr (w.heap.size + 1 + 1 + 1) 91 3 v (pk l done).length (Bnd.css (pk l done)) F) ∧ wr.cell? ⟨w.heap.size + 1, 0, none⟩ = some v ∧ wr.frozen? ⟨w.heap.size + 1, 0, none⟩ = false ∧ w.heap.size + 1 + 1 + 1 ≤ wr.heap.size ∧ Hid (Below (w.heap.size + 1) w0 wr)) (fun wr => kv.length - (wr.iterSeen (w.heap.size + 1 + 1)).size)
  case atStart => exact ⟨[], [], .slice none 0 0, HIT, List.nodup_nil, fun i h => absurd h (by simp), HMP, Gr.nil _ _ _ _, ob.c0, of, by omega, Below.refl _ _⟩
  case round =>
    obtain ⟨done, F, v, HI, HDN, HDL, HMR, HG, x0, x1, hz, HB⟩ := hrel
    have hrn : w.heap.size + 1 + 1 ≠ mb := by omega
    have HKR := hid (HKV.out.keep (Keeps.of_below (HW.out.trans (HB.out.mono (by omega))) (fun x hx _ => HS.out x hx)))
    go_wp2_with (at_next; go_must (refine wpList_nxtB HKR.out rfl _ (by rfl) HMR.out HI.out hrn HDN.out HDL.out (by rfl) (fun hdone => ?_) (fun i hi xa xc w2 hst HMV hq hqn hen => ?_) (fun i hi xa xc w2 hst HMV hq hqn hen => ?_)))
    · have hdl : done.length = l.length := by have := hkl.out; omega
      have HPM := hid (pk_all HDN.out (fun i hi => by rw [← hkl.out]; exact HDL.out i hi) hdl)
      obtain ⟨G, hO, hG⟩ := HG.out.own (by decide)
      rw [← Bnd.sd_css] at hO
      have hpl : (pk l done).length ≤ 1073741824 := by have := pk_length l done; omega
      have hq := sortBnd_any hO hpl
      have HGG : Hid (∀ y ∈ G, w.heap.size + 1 + 1 + 1 ≤ y) := hG
      have r0 : wr.cell? ⟨w.heap.size, 0, none⟩ = some (.slice none 0 0) := (HB.out.cell (p := ⟨w.heap.size, 0, none⟩) (by show w.heap.size < w.heap.size + 1; omega)).trans rb.c0
      have r1 : wr.frozen? ⟨w.heap.size, 0, none⟩ = false := (HB.out.frozen (p := ⟨w.heap.size, 0, none⟩) (by show w.heap.size < w.heap.size + 1; omega)).trans rf
      have l1 : w.heap.size + 1 < wr.heap.size := by omega
      have l0 : w.heap.size < wr.heap.size := by omega
      have HBW := hid (HW.out.trans (HB.out.mono (by omega)))
      clear hO hG HB HMR HI HKR hdl hrn
      go_wp2_with fail
      refine hq.mono ?_
      rintro e w1 ⟨rfl, ys, F', hp, hpw, ho, hsub, hm⟩
      have hys : ys = pairsB l := sorted_pairs HON.out (hp.trans HPM.out) hpw
      subst hys
      have n0 : w.heap.size ∉ G := fun q => by have := HGG.out _ q; omega
      have n1 : w.heap.size + 1 ∉ G := fun q => by have := HGG.out _ q; omega
      replace x0 := (World.cell?_of_block (a := ⟨w.heap.size + 1, 0, none⟩) (hm.1.block _ n1 l1)).trans x0
      replace r0 := (World.cell?_of_block (a := ⟨w.heap.size, 0, none⟩) (hm.1.block _ n0 l0)).trans r0
      replace r1 := (World.frozen?_of_block (a := ⟨w.heap.size, 0, none⟩) (hm.1.block _ n0 l0)).trans r1
      replace HBW := hid (HBW.out.trans (hm.2 _ HBW.out.size (fun y hy => by have := HGG.out y hy; omega)))
      have hz1 := hm.size
      replace l0 : w.heap.size < w1.heap.size := by omega
      replace l1 : w.heap.size + 1 < w1.heap.size := by omega
      have HF' : Hid (∀ y ∈ F', w.heap.size + 1 + 1 + 1 ≤ y) := fun y hy => HGG.out y (hsub y hy)
      have HO := hid ho
      clear hp hpw ho hsub hm hq x1
      go_wp2_with fail
      have hsb : Sb.at (fun _ => True) w1 v ⟨pairsB l⟩ := D.rd_all (D.own_rd _ _ _ HO.out)
      refine (impl_IsValidSubstitution hsb hbk).mono ?_
      rintro e w2 ⟨_, rfl, hb, rfl⟩
      have hlF := D.own_lt _ _ _ HO.out
      replace x0 := (hb.cell (p := ⟨w.heap.size + 1, 0, none⟩) l1).trans x0
      replace r0 := (hb.cell (p := ⟨w.heap.size, 0, none⟩) l0).trans r0
      replace r1 := (hb.frozen (p := ⟨w.heap.size, 0, none⟩) l0).trans r1
      replace HO := hid (D.own_keep _ _ _ (Keeps.all hb) HO.out)
      replace HBW := hid (HBW.out.trans (hb.mono HBW.out.size))
      replace l0 : w.heap.size < w2.heap.size := Nat.lt_of_lt_of_le l0 hb.size
      replace l1 : w.heap.size + 1 < w2.heap.size := Nat.lt_of_lt_of_le l1 hb.size
      clear hb hsb
      obtain ⟨ra, rc, rfl⟩ := Bnd.sd_own_form HO.out
      have n0' : w.heap.size ∉ F' := fun q => by have := HF'.out _ q; omega
      rw [HV.out]
      cases V with
      | true =>
        have HRR : Hid (R = pairsB l) := by rw [Hid, ← HR.out, if_pos HV.out]
        go_wp2_with fail
        refine bodyPost_ret (v := .tuple #[.agg #[.slice ra (pairsB l).length rc], .bool true]) (by simp [results, Tryz.results64, go_sem, r0]) rfl ?_
        exact ⟨_, F', rfl, by rw [HRR.out]; exact D.own_keep _ _ _ ((Keeps.refl _ _).setCell (fun q _ => n0' q) _) HO.out, fun y hy => by have := HF'.out y hy; omega, HBW.out.setCell (by simp) _⟩
      | false =>
        have HRR : Hid (R = []) := by rw [Hid, ← HR.out, if_neg (by rw [HV.out]; decide)]
        go_wp2_with fail
        refine bodyPost_ret (v := .tuple #[.agg #[.slice none 0 0], .bool false]) (by simp [results, Tryz.results64, go_sem, r0]) rfl ?_
        exact ⟨_, [], rfl, by rw [HRR.out, Bnd.sd_css]; exact D.own_nil _ _, by simp, HBW.out.setCell (by simp) _⟩
    · have HNW : Hid ((done ++ [i]).Nodup ∧ (∀ j ∈ done ++ [i], j < kv.length)) := next_seen HDN.out HDL.out hst.new hst.lt
      have hnl := nodup_le HNW.out.1 HNW.out.2
      have hA : Below w2.heap.size w2 (w2.alloc (.cells #[.string l[i].term.name, .slice xa l[i].term.args.length xc] 56)) := (Below.refl _ _).alloc (Nat.le_refl _) _
      have hsz := hst.size
      have lw1 : w.heap.size + 1 < wr.heap.size := by omega
      have hne : ¬ (some (w.heap.size + 1) : Option Nat) = some (w.heap.size + 1 + 1) := fun e => by injection e; omega
      go_roundw
      case rel =>
        refine ⟨done ++ [i], F, v, hst.it.keep (Keeps.all hA), HNW.out.1, HNW.out.2, hst.map.keep (Keeps.all hA), ?_, ?_, ?_, ?_, ?_⟩
        · rw [pk_snoc hi, HMV.out]
          simp only [Bool.false_eq_true, if_false, List.append_nil]
          exact hid ((HG.out.low hst.grown (Nat.lt_succ_self _)).keep hA)
        · exact (hA.cell (p := ⟨w.heap.size + 1, 0, none⟩) (by show w.heap.size + 1 < w2.heap.size; omega)).trans ((World.cell?_of_block (a := ⟨w.heap.size + 1, 0, none⟩) (hst.grown.block _ lw1 hne)).trans x0)
        · exact (hA.frozen (p := ⟨w.heap.size + 1, 0, none⟩) (by show w.heap.size + 1 < w2.heap.size; omega)).trans ((World.frozen?_of_block (a := ⟨w.heap.size + 1, 0, none⟩) (hst.grown.block _ lw1 hne)).trans x1)
        · rw [World.size_alloc]; omega
        · exact ((HB.out.grown hst.grown (by omega) (fun k hk => by injection hk; omega)).trans (hA.mono (by omega)))
      case measure =>
        rw [HI.out.seen, (hst.it.keep (Keeps.all hA)).seen]
        simp at hnl ⊢
        omega
    · have HNW : Hid ((done ++ [i]).Nodup ∧ (∀ j ∈ done ++ [i], j < kv.length)) := next_seen HDN.out HDL.out hst.new hst.lt
      have hnl := hid (nodup_le HNW.out.1 HNW.out.2)
      have hvl := HVS.out l[i] (List.getElem_mem hi)
      have hnml : l[i].term.name.size ≤ maxLen := (Tm.at_form hst.term).2.1
      have hbm : l[i].term.bulk ≤ 1048576 := HSM.out l[i] (List.getElem_mem hi)
      have hdn2 : done.length ≤ 1048576 := by have := nodup_le HDN.out HDL.out; omega
      have hpl : (pk l done).length ≤ 1048576 := Nat.le_trans (pk_length l done) hdn2
      have hsz := hst.size
      have lw1 : w.heap.size + 1 < wr.heap.size := by omega
      have hne : ¬ (some (w.heap.size + 1) : Option Nat) = some (w.heap.size + 1 + 1) := fun e => by injection e; omega
      have HA : Hid (Below w2.heap.size w2 (w2.alloc (.cells #[.string l[i].term.name, .slice xa l[i].term.args.length xc] 56))) := (Below.refl _ _).alloc (Nat.le_refl _) _
      replace x0 := (HA.out.cell (p := ⟨w.heap.size + 1, 0, none⟩) (by show w.heap.size + 1 < w2.heap.size; omega)).trans ((World.cell?_of_block (a := ⟨w.heap.size + 1, 0, none⟩) (hst.grown.block _ lw1 hne)).trans x0)
      replace x1 := (HA.out.frozen (p := ⟨w.heap.size + 1, 0, none⟩) (by show w.heap.size + 1 < w2.heap.size; omega)).trans ((World.frozen?_of_block (a := ⟨w.heap.size + 1, 0, none⟩) (hst.grown.block _ lw1 hne)).trans x1)
      obtain ⟨r, Hr⟩ : ∃ r, Hid (v.ownBlock = r) := ⟨_, hid rfl⟩
      have HL0 : Hid (∀ y, r = some y → w.heap.size + 1 + 1 + 1 ≤ y ∧ y < w2.heap.size) := fun y hy => (HG.out.low hst.grown (Nat.lt_succ_self _)).lt y (Hr.out.trans hy)
      replace HG := hid ((HG.out.low hst.grown (Nat.lt_succ_self _)).keep HA.out)
      replace HB := hid ((HB.out.grown hst.grown (by omega) (fun k hk => by injection hk; omega)).trans (HA.out.mono (by omega)))
      have HE := hid (Tm.at_keep (Keeps.all HA.out) (Tm.at_keep (S := S) (w' := w2) ⟨hst.grown.size, fun x hx hlx => hst.grown.block x hlx fun e => by injection e with e; have := HS.out x hx; omega⟩ hst.term))
      have HIT2 := hid (hst.it.keep (Keeps.all HA.out))
      have HMP2 := hid (hst.map.keep (Keeps.all HA.out))
      have bE : Box (w2.alloc (.cells #[.string l[i].term.name, .slice xa l[i].term.args.length xc] 56)) w2.heap.size [.string l[i].term.name, .slice xa l[i].term.args.length xc] := Box.new _ _ _
      have HIS := hid HI.out.seen
      have hzb : w2.heap.size + 1 = (w2.alloc (.cells #[.string l[i].term.name, .slice xa l[i].term.args.length xc] 56)).heap.size := by simp
      have hzr : w.heap.size + 1 + 1 + 1 ≤ w2.heap.size := by omega
      clear hst HKR HI HMR HA hsz
      go_wp2_with fail
      generalize w2.alloc (.cells #[.string l[i].term.name, .slice xa l[i].term.args.length xc] 56) = wb at *
      have nE : ¬ r = some w2.heap.size := fun e => by have := (HL0.out _ e).2; omega
      have HL : Hid (∀ y, r = some y → w.heap.size + 1 + 1 + 1 ≤ y ∧ y < wb.heap.size) := fun y hy => by have := HL0.out y hy; omega
      have n2 : ¬ r = some (w.heap.size + 1) := fun e => by have := HL.out _ e; omega
      have n3 : ¬ r = some (w.heap.size + 1 + 1) := fun e => by have := HL.out _ e; omega
      have e0 := bE.c0
      have e1 := bE.c1
      have lE := bE.lt
      have l2 : w.heap.size + 1 < wb.heap.size := by omega
      have l3 : w.heap.size + 1 + 1 < wb.heap.size := by omega
      have lm : mb < wb.heap.size := by omega
      have hBb : w.heap.size + 1 + 1 + 1 ≤ wb.heap.size := by omega
      have hnm : ¬ r = some mb := fun e => by have := HL.out _ e; omega
      refine region_late (l := [_, _, _, _, _, _, _, _, _]) (tl := [_]) (S := fun w1 => (wb).grownBy w1 (r)) (n := 9) rfl rfl (by kernel_rfl) (by kernel_rfl) (grown_of_below ((Below.refl _ _).drew) _) (fun hQL hS => ?_)
      refine late_take (i := 0) (d := some 19) (v := .pointer (some ⟨(w.heap.size + 1), 0, none⟩)) rfl rfl (by kernel_rfl) (by kernel_rfl) (by kernel_rfl) hQL (by rfl) (fun w1 _ => (by go_simp)) hS ?_
      try simp only [Act.put, List.setIfInBounds_toArray, List.set_cons_zero, List.set_cons_succ]
      refine late_take (i := 1) (d := some 20) (v := v) rfl rfl (by kernel_rfl) (by kernel_rfl) (by kernel_rfl) hQL (by rfl) (fun w1 hS1 => (by obtain ⟨hc, hf⟩ := bcellG hS1; go_simp)) hS ?_
      try simp only [Act.put, List.setIfInBounds_toArray, List.set_cons_zero, List.set_cons_succ]
      refine late_take (i := 2) (d := some 21) (v := .string l[i].var) rfl rfl (by kernel_rfl) (by kernel_rfl) (by kernel_rfl) hQL (by rfl) (fun w1 _ => (by go_simp)) hS ?_
      try simp only [Act.put, List.setIfInBounds_toArray, List.set_cons_zero, List.set_cons_succ]
      refine late_take (i := 3) (d := some 22) (v := .agg #[.string l[i].term.name, .slice xa l[i].term.args.length xc]) rfl rfl (by kernel_rfl) (by kernel_rfl) (by kernel_rfl) hQL (by rfl) (fun w1 hS1 => (by obtain ⟨hc, hf⟩ := bcellG hS1; go_simp)) hS ?_
      try simp only [Act.put, List.setIfInBounds_toArray, List.set_cons_zero, List.set_cons_succ]
      refine wpAnyH_ready (rs := [4]) (by kernel_rfl) (by simp) ?_
      refine AllReadyH.cons rfl (fun K hK => ?_) AllReadyH.nil
      refine step_does rfl ?_
      unfold Does
      go_simp
      go_at_call 78
      refine (copyTerm_any l[i].term _ _ _ _ (Tm.at_keep (Keeps.all ((Below.refl _ _).drew)) HE.out) hbm).mono ?_
      rintro e w1 ⟨v1, G, rfl, ho, hG, hb1⟩
      obtain ⟨a1, cap1, rfl⟩ := Tm.sd_own_form ho
      have HO := hid ho
      have HGG : Hid (∀ y ∈ G, wb.heap.size ≤ y) := hG
      have HG1 := hid (HG.out.keep (Below.trans ((Below.refl _ _).drew) (hb1.mono (Nat.le_refl _))))
      have hz2 : wb.heap.size ≤ w1.heap.size := hb1.size
      clear ho hG
      refine ⟨_, rfl, ?_⟩
      refine hK.out _ _ (World.grownBy.trans hS (grown_of_below hb1 _)) (fun hS => ?_)
      try show wpAnyH _ _ _ _ _ _ _ (Act.put _ (some 23) _) _
      try simp only [Act.put, List.setIfInBounds_toArray, List.set_cons_zero, List.set_cons_succ]
      refine late_take (i := 5) (d := some 24) (v := .agg #[.string l[i].var, .string l[i].term.name, .slice a1 l[i].term.args.length cap1]) rfl rfl (by kernel_rfl) (by kernel_rfl) (by kernel_rfl) hQL (by rfl) (fun w1 _ => (by go_simp)) hS ?_
      try simp only [Act.put, List.setIfInBounds_toArray, List.set_cons_zero, List.set_cons_succ]
      refine wpAnyH_ready (rs := [6]) (by kernel_rfl) (by simp) ?_
      refine AllReadyH.cons rfl (fun K hK => ?_) AllReadyH.nil
      go_simp
      refine hK.out _ _ (World.grownBy.trans hS (World.grownBy_alloc _ _ _)) (fun hS => ?_)
      try show wpAnyH _ _ _ _ _ _ _ (Act.put _ (some 25) _) _
      try simp only [Act.put, List.setIfInBounds_toArray, List.set_cons_zero, List.set_cons_succ]
      refine wpAnyH_ready (rs := [7]) (by kernel_rfl) (by simp) ?_
      refine AllReadyH.cons rfl (fun K hK => ?_) AllReadyH.nil
      refine step_append_gr (news := [.string l[i].var, .string l[i].term.name, .slice a1 l[i].term.args.length cap1]) (G := G) Tryz.underlying38 infoBndI rfl (by decide) (by decide) rfl _ _ (by rfl) (by rfl) (by rfl) (HG1.out.keep ((Below.refl _ _).alloc (Nat.le_refl _) _)) rfl (by intro j u hj; rw [box1]; simpa using hj) (by simp [Value.oneCell']) ((Bnd.own_item hvl hnml HO.out).keep (Keeps.all ((Below.refl _ _).alloc (Nat.le_refl _) _))) (fun y hy => by have := HGG.out y hy; omega) (fun y hy hy' => by have := HGG.out y hy'; have := HG.out.ltF y hy; omega) (fun y hy hy' => by have := HGG.out y hy'; have := HG.out.lt y hy; omega) (by omega) (by simp; omega) ?_
      intro g capg wg hg hgr hgo hglt
      rw [Hr.out] at hgr
      refine hK.out _ _ (World.grownBy.trans hS hgr) (fun hS => ?_)
      try show wpAnyH _ _ _ _ _ _ _ (Act.put _ (some 26) _) _
      try simp only [Act.put, List.setIfInBounds_toArray, List.set_cons_zero, List.set_cons_succ]
      refine late_take (i := 8) (d := some 27) (v := .pointer (some ⟨(w.heap.size + 1), 0, none⟩)) rfl rfl (by kernel_rfl) (by kernel_rfl) (by kernel_rfl) hQL (by rfl) (fun w1 _ => (by go_simp)) hS ?_
      try simp only [Act.put, List.setIfInBounds_toArray, List.set_cons_zero, List.set_cons_succ]
      refine wpAnyH_done (by kernel_rfl) ?_ _
      show wpTail _ _ _ _ _
      refine wpTail_step rfl (fun K hK => ?_)
      obtain ⟨hc, hf⟩ := bcellG hS
      go_simp
      refine hK.out _ _ ?_
      try clear hc hf
      refine wpTail_nil ?_
      have hgz := hS.size
      have HBg : Hid (Below (w.heap.size + 1) wb wg) := (Below.refl _ _).grown hS (by omega) (fun y hy => by have := HL.out y hy; omega)
      have z0g := (bcellG hS).1 (w.heap.size + 1) 0 l2 n2
      have z2g := (bcellG hS).2 (w.heap.size + 1) 0 l2 n2
      have HG2 := hid hg
      have HIT3 := hid (hS.block (w.heap.size + 1 + 1) l3 (fun e => n3 e.symm))
      have HIT4 : Hid (ItAt wg (w.heap.size + 1 + 1) mb kv.length (done ++ [i])) := HIT3.out.trans HIT2.out
      have HMP3 := hid (hS.block mb lm (fun e => hnm e.symm))
      clear hg hgr hgo hglt hS
      go_wp2_with fail
      go_roundw
      case rel =>
        refine ⟨done ++ [i], F ++ G, .slice (some ⟨g, 0, none⟩) ((pk l done).length + 1) capg, ?_, HNW.out.1, HNW.out.2, ?_, hid ?_, ?_, ?_, ?_, hid ?_⟩
        · exact HIT4.out.keep ((Keeps.refl _ _).setCell (fun q _ => by simp at q) _)
        · exact (hid (HMP2.out.keep ⟨Nat.le_trans (Nat.le_refl _) hgz, fun x hx _ => by subst hx; exact HMP3.out⟩)).out.keep ((Keeps.refl _ _).setCell (fun q _ => by simp at q; omega) _)
        · rw [pk_snoc hi, HMV.out, if_pos rfl, Bnd.css_flat, List.flatMap_append, ← Bnd.css_flat, List.length_append]
          simpa using HG2.out.setCell (by show w.heap.size + 1 < _; omega) _
        · exact World.cell?_setCell_same _ _ _ (z0g.trans x0)
        · rw [World.frozen?_setCell]; exact z2g.trans x1
        · rw [World.size_setCell]; omega
        · exact (HB.out.trans HBg.out).setCell (Nat.le_refl _) _
      case measure =>
        have hs4 := (HIT4.out.keep ((Keeps.refl _ _).setCell (p := ⟨w.heap.size + 1, 0, none⟩) (fun q _ => by simp at q) (.slice (some ⟨g, 0, none⟩) ((pk l done).length + 1) capg))).seen
        have hn4 := hnl.out
        rw [HIS.out, hs4]
        simp at hn4 ⊢
        omega
end Go.Proofs.YtglhbaigigdeeaaGreat
