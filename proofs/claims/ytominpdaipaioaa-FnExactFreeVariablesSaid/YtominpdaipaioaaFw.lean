/- The free variables of a formula: the program's and the reference's. -/
import Derived.Test.YtominpdaipaioaaFv
import Derived.Test.YtominpdaipaioaaFg
import Derived.Test.YtominpdaipaioaaOi
import Derived.Deep.RegionHeld3
import Derived.Lib.SliceRun
namespace Go.Proofs.Ytominpdaipaioaa
set_option maxRecDepth 100000
open Go.RowKit

/-- nil, or a slice with a place -/
def Shp (v : Value) : Prop := v = .slice none 0 0 ∨ ∃ b off n c, v = .slice (some ⟨b, off, none⟩) n c
theorem Row.shp {w : World} {B : Nat} {v : Value} {ss : List ByteArray} (h : Row w B v ss) : Shp v := by
  rcases h.1.2 with ⟨h1, h0⟩ | ⟨g, cap, cur, rfl, _⟩
  · exact .inl h1
  · exact .inr ⟨g, 0, _, cap, rfl⟩
theorem keeps_v {w w' : World} {v : Value} (hg : w.grownBy w' v.ownBlock) : Keeps (fun x => x < w.heap.size ∧ v.ownBlock ≠ some x) w w' := ⟨hg.size, fun b hb hl => hg.block b hl fun e => hb.2 e.symm⟩
theorem rd_strs_nil0 {S : Nat → Prop} {w : World} {a : Option Addr} {n c : Nat} {ss : List ByteArray} (h : D.rd S w (.slice a n c) (slOf strE ss)) (ha : a = none) : ss = [] := by
  refine Classical.byContradiction fun hne => ?_
  obtain ⟨b, off, e, _⟩ := strs_get h hne
  rw [ha] at e; cases e
/-- append of a list, at the list of a plain region's operations -/
theorem wpList_append_strs {ops : Array Oper} {rest : List Oper} {o : Oper} {a : Act} {w : World} {Q : Exit → Act → World → Prop} (hgd : o.guard = none) (s x : Operand)
    (ho : o.op = .call { callee := .builtin .append, args := #[s, x], argTypes := #[42, 42] }) {B : Nat} {v : Value} {ss ys : List ByteArray} {b off m c : Nat}
    (hs : a.eval s = v) (hx : a.eval x = .slice (some ⟨b, off, none⟩) m c) (hrow : Row w B v ss) (hm : m = ys.length) (hcell : ∀ j (hj : j < ys.length), w.cell? ⟨b, off + j, none⟩ = some (.string ys[j])) (hy : ∀ y ∈ ys, y.size ≤ maxLen) (hl : ss.length + ys.length ≤ 4294967296) (hB : B ≤ w.heap.size)
    (h : ∀ v' w', Row w' B v' (ss ++ ys) → w.grownBy w' v.ownBlock → Goes w v v' → (v ≠ .slice none 0 0 → v' ≠ .slice none 0 0) → wpList Try.prog ops Q rest (a.put o.dst v') w') : wpList Try.prog ops Q (o :: rest) a w := by
  obtain ⟨v', w', hr, h2, h3, h4, h5⟩ := run_append_strs (c := c) hrow o.type hm hcell hy hl hB
  refine wpList_plain hgd fun _ hK => ?_
  unfold Oper.wp execOp
  simp only [ho, resolve, invoke, builtin, Sem.run_bind, Sem.run_pure, Result.andThen_ok, List.map_toArray, List.map_cons, List.map_nil, hs, hx, hr]
  exact hK _ _ (h v' w' h2 h3 h4 h5)
set_option maxHeartbeats 2000000 in
theorem clone_any {ss : List ByteArray} {S : Nat → Prop} {v : Value} {w : World} (hv : D.rd S w v (slOf strE ss)) (hs : Shp v) (hn : ss.length ≤ 1073741824) : Calls Try.prog 116 #[v] w fun e w' => ∃ v', e = .returned v' ∧ Row w' w.heap.size v' ss ∧ Below w.heap.size w w' := by
  have qn : ∀ (w : World) (a : Option Addr) (n c n' c' : Nat), (Go.binOp BinOp.eql 42 (.slice a n c) (.slice none n' c')).run Try.prog w = Result.ok (Value.bool a.isNone) w := fun w a n c n' c' => Lib.run_eql_slice_nil w _ _ a n c n' c' Try.underlying42
  rcases hs with rfl | ⟨b, off, n, c, rfl⟩
  · obtain rfl := rd_strs_nil0 hv rfl
    go_enter Try.func116, Try.ntmps116
    go_wp2_with fail
    go_ret
    exact ⟨_, rfl, Row.nil _ _, Below.refl _ _⟩
  · obtain ⟨_, _, e, hlen, hcap⟩ := slOf_form hv
    obtain rfl : n = ss.length := by injection e
    have hA : Below w.heap.size w (w.alloc (.cells #[] 9)) := (Below.refl _ _).alloc (Nat.le_refl _) _
    have hr := strs_get hv
    have hc : ∀ j (hj : j < ss.length), (w.alloc (.cells #[] 9)).cell? ⟨b, off + j, none⟩ = some (.string ss[j]) := fun j hj => by
      obtain ⟨b', off', e', _, hbl, hrr⟩ := hr (by intro q; subst q; simp at hj)
      injection e' with e'; injection e' with e1 e2; subst e1 e2
      exact cell_alloc (hrr j hj).1 _
    have hy : ∀ y ∈ ss, y.size ≤ maxLen := fun y hy => by
      obtain ⟨j, hj, rfl⟩ := List.mem_iff_getElem.1 hy
      obtain ⟨b', off', e', _, hbl, hrr⟩ := hr (by intro q; subst q; simp at hj)
      exact (hrr j hj).2
    have HC := hid hc
    have HY := hid hy
    clear hc hy hr e
    go_enter Try.func116, Try.ntmps116
    go_wp2_with (at_builtin; refine wpList_append_strs (B := w.heap.size) (ss := []) (ys := ss) rfl _ _ rfl (by rfl) (by rfl) (Row.made w (Nat.le_refl _)) rfl HC.out HY.out (by simp; omega) (by simp) ?_; intro v2 w2 hr2 hg2 hgo2 hn2)
    go_ret
    exact ⟨_, rfl, by simpa using hr2, hA.grown hg2 (by simp) fun k hk => by
      have : w.heap.size = k := by injection hk
      exact Nat.le_of_eq this⟩

theorem Tm.atom_nice2 {t : Tm} (h : t.atom = true) : t.nice = true := by
  refine Tm.expr_nice ?_
  rw [Tm.expr_eq, Bool.or_eq_true, Bool.and_eq_true]
  by_cases he : t.isEq = true
  · exact .inr ⟨he, h⟩
  · left
    rw [Tm.atom_eq, if_neg (by simpa [Tm.isEq] using he), Bool.and_eq_true] at h
    exact h.2
def GathIs (x : Fm) : Prop := ∀ (ss bs : List ByteArray) (v vb : Value) (B : Nat) (S : Nat → Prop) (c0 c1 c2 c3 c4 : Value) (w : World), GS w B v ss → B ≤ w.heap.size → Fm.at S w c0 c1 c2 c3 c4 x → (∀ y, S y → y < B) → D.rd (fun y => y < w.heap.size ∧ v.ownBlock ≠ some y) w vb (slOf strE bs) → Shp vb → x.forms = true → x.bulk ≤ 1048576 → ss.length + x.size + x.bulk ≤ 1073741824 → bs.length + x.size ≤ 1073741824 →
  Calls Try.prog 92 #[v, .agg #[c0, c1, c2, c3, c4], vb] w (Grew v (x.gath bs ss) B w)
set_option maxHeartbeats 4000000 in
theorem gathIs_of (t : Fm) (ih : ∀ p ∈ t.parts, GathIs p) : GathIs t := by
  intro ss bs v vb B S c0 c1 c2 c3 c4 w hv hB hT hS hvb hsb hf hbk hss hbs
  have hvl := hv.lt
  obtain ⟨va, vc, rfl, hvn, hvc⟩ := hv.form
  unfold big at hvn
  have HV := hid hv
  have HVB := hid hvb
  have HSU := hid hsb
  have hts := Fm.size_eq t
  have hbe := Fm.bulk_eq t
  have hbA : t.atom.bulk ≤ 1048576 := by omega
  clear hv hvb hsb
  by_cases ho : t.op = 3
  · have HC : Hid (t.gath bs ss = addNew bs (varsOf t.atom) ss) := by rw [Hid, Fm.gath_eq, if_pos ho]
    have s1 : (t.op == 3) = true := by simp [ho]
    have hat := Fm.atom_ok hf ho
    have HNI := hid (Tm.atom_nice2 hat)
    have HLF := hid (Tm.atom_leafy hat)
    have hvs := varsOf_length t.atom
    obtain ⟨vs, Hvs⟩ : ∃ vs, Hid (varsOf t.atom = vs) := ⟨_, hid rfl⟩
    have HC' : Hid (t.gath bs ss = addNew bs vs ss) := by rw [Hid, HC.out, Hvs.out]
    rw [Hvs.out] at hvs
    clear HC hat ho
    obtain ⟨rfl, rfl, ⟨a, cap, rfl⟩, rfl, a2, cap2, rfl⟩ := Fm.at_form hT
    have hW : Below w.heap.size w (w.alloc (.cells #[.int .i64 t.op, .string t.atom.name, .slice a t.atom.args.length cap, .string t.v, .slice a2 t.parts.length cap2] 64)) := (Below.refl _ _).alloc (Nat.le_refl _) _
    have bT : Box (w.alloc (.cells #[.int .i64 t.op, .string t.atom.name, .slice a t.atom.args.length cap, .string t.v, .slice a2 t.parts.length cap2] 64)) w.heap.size [.int .i64 t.op, .string t.atom.name, .slice a t.atom.args.length cap, .string t.v, .slice a2 t.parts.length cap2] := Box.new w _ _
    replace hT := Fm.at_keep (Keeps.all hW) hT
    go_enter Try.func92, Try.ntmps92
    go_wp2_with fail
    generalize (w.alloc (.cells #[.int .i64 t.op, .string t.atom.name, .slice a t.atom.args.length cap, .string t.v, .slice a2 t.parts.length cap2] 64)) = w0 at *
    refine (variables_any t.atom (Fm.at_atom hT) hbA HNI.out HLF.out).mono ?_
    rintro e w1 ⟨vl, F, rfl, hov, hF, hb⟩
    rw [Hvs.out] at hov
    have hw0 := hW.size
    replace hW := hW.trans (hb.mono hW.size)
    have hz0 := hW.size
    obtain ⟨la, lc, rfl, hln, hlc⟩ := slOf_form (D.own_rd _ _ _ hov)
    have HOV := hid (D.own_rd _ _ _ hov)
    have HF := hid hF
    have HUB := hid (D.rd_keep (Keeps.all hW) _ _ HVB.out)
    unfold big at hln
    clear hov hF hb hT bT
    go_wp2_with fail
    go_loopw [0, 18] (fun x i wr => ∃ k : Nat, k ≤ vs.length ∧ i = .int .i64 k ∧ Hid (GS wr B x (addNew bs (vs.take k) ss)) ∧ Hid (w1.grownBy wr (Value.slice va ss.length vc).ownBlock) ∧ Hid (Goes w1 (.slice va ss.length vc) x) ∧ Hid (Value.slice va ss.length vc ≠ .slice none 0 0 → x ≠ .slice none 0 0)) (fun _ i _ => vs.length - (intOf i).toNat)
    case atStart => exact ⟨0, Nat.zero_le _, rfl, by rw [List.take_zero, addNew]; exact HV.out.keep hW, grown_refl _ _, Goes.refl _ _, fun h => h⟩
    case round =>
      obtain ⟨k, hk, rfl, HG, HGR, HGO, HNN⟩ := hrel
      have hgz := HGR.out.size
      by_cases hlt : k < vs.length
      · have hne : vs ≠ [] := by intro e; rw [e] at hlt; simp at hlt
        have hr := D.rd_keep (w' := wr) ⟨HGR.out.size, fun b hb hl => HGR.out.block b hl fun e => by have h1 := hvl b e.symm; have h2 := HF.out b hb; omega⟩ _ _ HOV.out
        obtain ⟨b, off, rfl, hSb, hbl, hrr⟩ := strs_get hr hne
        obtain ⟨q0, qn⟩ := hrr k hlt
        have hub := D.rd_keep (w' := wr) ⟨HGR.out.size, fun b hb hl => HGR.out.block b hl fun e => hb.2 e.symm⟩ _ _ HUB.out
        have hrx := HG.out.rd
        have hcl := addNew_length bs (vs.take k) ss
        rw [List.length_take] at hcl
        have HST := hid (addNew_snoc bs (vs.take k) vs[k] ss)
        rw [show vs.take k ++ [vs[k]] = vs.take (k + 1) by simp] at HST
        obtain ⟨us, HUS⟩ : ∃ us, Hid (addNew bs (vs.take k) ss = us) := ⟨_, hid rfl⟩
        rw [HUS.out] at HST HG hrx hcl
        have HX : Hid (GS wr B u0 us ∧ u0 = u0) := ⟨HG.out, rfl⟩
        obtain ⟨xa, xc, rfl, hxn, hxc⟩ := HG.out.form
        unfold big at hxn
        clear hrr hr HX
        go_wp2_with fail
        refine (containsStr_any vs[k] hub).mono ?_
        rintro e w2 ⟨rfl, rfl⟩
        by_cases hin : hasStr bs vs[k] = true
        · have HZ : Hid (addNew bs (vs.take (k + 1)) ss = us) := by rw [Hid, HST.out, hin]; simp
          rw [hin]
          clear hin
          go_wp2_with fail
          go_roundw
          case rel => exact ⟨k + 1, by omega, by go_num, by rw [HZ.out]; exact HG, HGR, HGO, HNN⟩
          case measure => simp [intOf]; omega
        · replace hin : hasStr bs vs[k] = false := by simpa using hin
          have HI := hid hin
          rw [hin]
          clear hin
          go_wp2_with fail
          refine (containsStr_any vs[k] hrx).mono ?_
          rintro e w2 ⟨rfl, rfl⟩
          by_cases hin : hasStr us vs[k] = true
          · have HZ : Hid (addNew bs (vs.take (k + 1)) ss = us) := by rw [Hid, HST.out, hin]; simp
            rw [hin]
            clear hin
            go_wp2_with fail
            go_roundw
            case rel => exact ⟨k + 1, by omega, by go_num, by rw [HZ.out]; exact HG, HGR, HGO, HNN⟩
            case measure => simp [intOf]; omega
          · replace hin : hasStr us vs[k] = false := by simpa using hin
            have HZ : Hid (addNew bs (vs.take (k + 1)) ss = us ++ [vs[k]]) := by rw [Hid, HST.out, hin, HI.out]; simp
            rw [hin]
            clear hin
            have hA : Below wr.heap.size wr (wr.alloc (.cells #[.string vs[k]] 9)) := (Below.refl _ _).alloc (Nat.le_refl _) _
            go_wp2_with (refine wpList_append_str (B := B) (ss := us) (y := vs[k]) rfl _ _ (by rfl) (by rfl) (by rfl) (HG.out.row.keep hA) qn (box1 _ _ _ 0) (by omega) (by rw [World.size_alloc]; omega) ?_; intro g cap2 w2 hrow hgr hgo hlt2)
            have HG2 := hid (GS.of_row hrow)
            have HGR2 := hid (grown_trans HGR.out (grown_trans (grown_of_below hA _) hgr (fun x h => .inl h)) (fun x h => HGO.out x h))
            have HGO2 := hid (Goes.trans HGO.out (by rw [World.size_alloc]; omega) hgo)
            clear hrow hgr hgo
            go_roundw
            case rel => exact ⟨k + 1, by omega, by go_num, by rw [HZ.out]; exact HG2, HGR2, HGO2, fun _ e => by cases e⟩
            case measure => simp [intOf]; omega
      · obtain rfl : k = vs.length := by omega
        go_wp2_with fail
        go_ret
        refine ⟨_, rfl, by rw [HC'.out]; have := HG.out; rwa [List.take_length] at this, grown_trans (grown_of_below hW _) HGR.out (fun x h => .inl h), fun x h => ?_, HNN.out⟩
        rcases HGO.out x h with q | q
        · exact .inl q
        · exact .inr (Nat.le_trans hW.size q)
  · have s1 : (t.op == 3) = false := by simp [ho]
    have HC0 : Hid (t.gath bs ss = Fm.gaths t.parts (scope t.op t.v bs) ss) := by rw [Hid, Fm.gath_eq, if_neg ho]
    have hvl3 := Fm.v_le hT
    clear ho
    by_cases hq : quantOp t.op = true
    · have HC : Hid (t.gath bs ss = Fm.gaths t.parts (bs ++ [t.v]) ss) := by rw [Hid, HC0.out, scope, if_pos hq]
      obtain ⟨rfl, rfl, ⟨a, cap, rfl⟩, rfl, a2, cap2, rfl⟩ := Fm.at_form hT
      have hW : Below w.heap.size w (w.alloc (.cells #[.int .i64 t.op, .string t.atom.name, .slice a t.atom.args.length cap, .string t.v, .slice a2 t.parts.length cap2] 64)) := (Below.refl _ _).alloc (Nat.le_refl _) _
      have bT : Box (w.alloc (.cells #[.int .i64 t.op, .string t.atom.name, .slice a t.atom.args.length cap, .string t.v, .slice a2 t.parts.length cap2] 64)) w.heap.size [.int .i64 t.op, .string t.atom.name, .slice a t.atom.args.length cap, .string t.v, .slice a2 t.parts.length cap2] := Box.new w _ _
      replace hT := Fm.at_keep (Keeps.all hW) hT
      go_enter Try.func92, Try.ntmps92
      go_wp2_with fail
      generalize (w.alloc (.cells #[.int .i64 t.op, .string t.atom.name, .slice a t.atom.args.length cap, .string t.v, .slice a2 t.parts.length cap2] 64)) = w0 at *
      refine (isQuantifier_any _ _).mono ?_
      rintro e w4 ⟨rfl, rfl⟩
      rw [hq]
      clear hq
      have eT3 := bT.c3
      have lT := bT.lt
      have HUB0 := hid (D.rd_keep (Keeps.all hW) _ _ HVB.out)
      go_wp2_with fail
      go_region_held3 (fun w' => w'.cell? ⟨w.heap.size, 3, none⟩ = some (.string t.v))
        (first | assumption | exact eT3 | exact cell_alloc (by assumption) _)
        (first
          | (refine (clone_any (ss := bs) (D.rd_keep (Keeps.all (by first | exact (Below.refl _ _).drew | exact (Below.refl w0.heap.size w0).drew.alloc (Nat.le_refl _) _ | exact ((Below.refl w0.heap.size w0).alloc (Nat.le_refl _) _).drew)) _ _ HUB0.out) HSU.out (by omega)).mono ?_; rintro e w1 ⟨u, rfl, hr1, hb1⟩; have hS1 : w1.cell? ⟨w.heap.size, 3, none⟩ = some (.string t.v) := (hb1.cell (by first | exact lT | (simp; omega))).trans (by first | exact eT3 | exact cell_alloc eT3 _))
          | (refine step_app (B := w0.heap.size) (W := w0) (ss := bs) (y := t.v) rfl (.tmp 42) (.tmp 45) rfl (by first | exact ((Below.refl w0.heap.size w0).drew.trans hb1).alloc hb1.size _ | exact ((Below.refl w0.heap.size w0).alloc (Nat.le_refl _) _).drew.trans (hb1.mono (by show w0.heap.size ≤ (w0.alloc _).heap.size; rw [World.size_alloc]; omega))) (by first | (rw [World.size_alloc]; exact Nat.le_succ_of_le hb1.size) | exact Nat.le_trans (by show w0.heap.size ≤ (w0.alloc _).heap.size; rw [World.size_alloc]; omega) hb1.size) (by rfl) (by rfl) (by first | exact hr1.keep ((Below.refl _ _).alloc (Nat.le_refl _) _) | exact hr1.mono (by show w0.heap.size ≤ (w0.alloc _).heap.size; rw [World.size_alloc]; omega)) hvl3 (by first | exact box1 _ _ _ 0 | exact (hb1.cell (p := ⟨w0.heap.size, 0, none⟩) (by show w0.heap.size < (w0.alloc _).heap.size; rw [World.size_alloc]; omega)).trans (box1 _ _ _ 0)) (by omega) ?_; intro g46 cap46 w46 hr46 hB46 hz46 hlt46 hg46; have hS46 : w46.cell? ⟨w.heap.size, 3, none⟩ = some (.string t.v) := (hB46.cell lT).trans eT3))
      all_goals
        clear eT3 lT hS46 hg46 hr1 hb1 hS1
        rename World => w5
        have hw0 := hW.size
        replace hW := hW.trans (hB46.mono hW.size)
        replace bT := bT.keep hB46
        replace hT := Fm.at_keep (Keeps.all hB46) hT
        obtain ⟨G, hG1, hG2⟩ := (GS.of_row hr46).own
        have HUB := hid (D.rd_mono (S' := fun y => y < w5.heap.size ∧ (Value.slice va ss.length vc).ownBlock ≠ some y) (fun y hy => ⟨D.own_lt _ _ _ hG1 y hy, fun e => by have h1 := hvl y e; have h2 := hG2 y hy; omega⟩) _ _ (D.own_rd _ _ _ hG1))
        replace HSU : Hid (Shp (.slice (some ⟨g46, 0, none⟩) (bs.length + 1) cap46)) := .inr ⟨_, _, _, _, rfl⟩
        obtain ⟨cs, HCS⟩ : ∃ cs, Hid (bs ++ [t.v] = cs) := ⟨_, hid rfl⟩
        have hcs : cs.length = bs.length + 1 := by rw [← HCS.out]; simp
        rw [HCS.out] at HC HUB
        have eT4 := bT.c4
        clear hr46 hG1 hG2
        go_wp2_with fail
        clear eT4
        have hz0 := hW.size
        have HTW := hid hT
        go_loopw [0, 50] (fun x i wr => ∃ k : Nat, k ≤ t.parts.length ∧ i = .int .i64 k ∧ Hid (GS wr B x (Fm.gaths (t.parts.take k) cs ss)) ∧ Hid (w5.grownBy wr (Value.slice va ss.length vc).ownBlock) ∧ Hid (Goes w5 (.slice va ss.length vc) x) ∧ Hid (Value.slice va ss.length vc ≠ .slice none 0 0 → x ≠ .slice none 0 0)) (fun _ i _ => t.parts.length - (intOf i).toNat)
        case atStart => exact ⟨0, Nat.zero_le _, rfl, by rw [List.take_zero, Fm.gaths]; exact HV.out.keep hW, grown_refl _ _, Goes.refl _ _, fun h => h⟩
        case round =>
          obtain ⟨k, hk, rfl, HG, HGR, HGO, HNN⟩ := hrel
          have hgz := HGR.out.size
          by_cases hlt : k < t.parts.length
          · have hne : t.parts ≠ [] := by intro e; rw [e] at hlt; simp at hlt
            have hr := D.rd_keep (keeps_low HGR.out (fun k hk => (hvl k hk).1) hS) _ _ (Fm.at_parts HTW.out)
            obtain ⟨b, off, rfl, hSb, hbl, hrr⟩ := Fm.sd_get hr hne
            obtain ⟨c0, c1, c2, c3, c4, q0, q1, q2, q3, q4, qx⟩ := hrr k hlt
            obtain ⟨rfl, rfl, ⟨p, pc, rfl⟩, rfl, y, yc, rfl⟩ := Fm.at_form qx
            have hA : Below wr.heap.size wr (wr.alloc (.cells #[.int .i64 t.parts[k].op, .string t.parts[k].atom.name, .slice p t.parts[k].atom.args.length pc, .string t.parts[k].v, .slice y t.parts[k].parts.length yc] 64)) := (Below.refl _ _).alloc (Nat.le_refl _) _
            have hbm := Fm.bulk_mem (List.getElem_mem hlt)
            have hst := Fm.sizes_take t.parts k hlt
            have hsl := Fm.sizes_le t.parts (k + 1)
            have hcl := Fm.gaths_length (t.parts.take k) cs ss
            have hbt := Fm.bulks_take t.parts k hlt
            have hbl2 := Fm.bulks_le t.parts (k + 1)
            have hub := D.rd_mono (S' := fun z => z < (wr.alloc (.cells #[.int .i64 t.parts[k].op, .string t.parts[k].atom.name, .slice p t.parts[k].atom.args.length pc, .string t.parts[k].v, .slice y t.parts[k].parts.length yc] 64)).heap.size ∧ u0.ownBlock ≠ some z) (fun z hz => ⟨by rw [World.size_alloc]; have := hz.1; omega, fun e => (HGO.out z e).elim (fun q => hz.2 q) (fun q => by have := hz.1; omega)⟩) _ _ (D.rd_keep (Keeps.all hA) _ _ (D.rd_keep (keeps_v HGR.out) _ _ HUB.out))
            have hq := ih t.parts[k] (List.getElem_mem hlt) _ _ _ _ B S _ _ _ _ _ _ (HG.out.keep hA) (by rw [World.size_alloc]; omega) (Fm.at_keep (Keeps.all hA) qx) hS hub HSU.out (Fm.part_forms hf _ (List.getElem_mem hlt)) (by omega) (by omega) (by omega)
            rw [← Fm.gaths_take _ _ _ _ hlt] at hq
            clear hrr hbm hst hsl hcl hr hub hbt hbl2
            go_wp2_with fail
            refine hq.mono ?_
            rintro e w2 ⟨v2, rfl, hg2, hgr2, hgo2, hnn2⟩
            have HG2 := hid hg2
            have HGR2 := hid (grown_trans HGR.out (grown_trans (grown_of_below hA u0.ownBlock) hgr2 (fun x h => .inl h)) (fun x h => HGO.out x h))
            have HGO2 := hid (Goes.trans HGO.out (by rw [World.size_alloc]; omega) hgo2)
            have HNN2 := hid (fun h => hnn2 (HNN.out h))
            clear hq hg2 hgr2 hgo2 hnn2
            go_wp2_with fail
            go_roundw
            case rel => exact ⟨k + 1, by omega, by go_num, HG2, HGR2, HGO2, HNN2.out⟩
            case measure => simp [intOf]; omega
          · obtain rfl : k = t.parts.length := by omega
            go_wp2_with fail
            go_ret
            refine ⟨_, rfl, by rw [HC.out]; have := HG.out; rwa [List.take_length] at this, grown_trans (grown_of_below hW _) HGR.out (fun x h => .inl h), fun x h => ?_, HNN.out⟩
            rcases HGO.out x h with q | q
            · exact .inl q
            · exact .inr (Nat.le_trans hW.size q)
    · replace hq : quantOp t.op = false := by simpa using hq
      have HC : Hid (t.gath bs ss = Fm.gaths t.parts bs ss) := by rw [Hid, HC0.out, scope, if_neg (by rw [hq]; simp)]
      have hbs' : bs.length + Fm.sizes t.parts ≤ 1073741824 := by omega
      obtain ⟨rfl, rfl, ⟨a, cap, rfl⟩, rfl, a2, cap2, rfl⟩ := Fm.at_form hT
      have hW : Below w.heap.size w (w.alloc (.cells #[.int .i64 t.op, .string t.atom.name, .slice a t.atom.args.length cap, .string t.v, .slice a2 t.parts.length cap2] 64)) := (Below.refl _ _).alloc (Nat.le_refl _) _
      have bT : Box (w.alloc (.cells #[.int .i64 t.op, .string t.atom.name, .slice a t.atom.args.length cap, .string t.v, .slice a2 t.parts.length cap2] 64)) w.heap.size [.int .i64 t.op, .string t.atom.name, .slice a t.atom.args.length cap, .string t.v, .slice a2 t.parts.length cap2] := Box.new w _ _
      replace hT := Fm.at_keep (Keeps.all hW) hT
      go_enter Try.func92, Try.ntmps92
      go_wp2_with fail
      generalize (w.alloc (.cells #[.int .i64 t.op, .string t.atom.name, .slice a t.atom.args.length cap, .string t.v, .slice a2 t.parts.length cap2] 64)) = w0 at *
      refine (isQuantifier_any _ _).mono ?_
      rintro e w4 ⟨rfl, rfl⟩
      rw [hq]
      clear hq s1
      have HUB := hid (D.rd_mono (S' := fun y => y < w0.heap.size ∧ (Value.slice va ss.length vc).ownBlock ≠ some y) (fun y hy => ⟨Nat.lt_of_lt_of_le hy.1 hW.size, hy.2⟩) _ _ (D.rd_keep (Keeps.all hW) _ _ HVB.out))
      have eT4 := bT.c4
      go_wp2_with fail
      clear eT4
      have hz0 := hW.size
      have HTW := hid hT
      go_loopw [0, 50] (fun x i wr => ∃ k : Nat, k ≤ t.parts.length ∧ i = .int .i64 k ∧ Hid (GS wr B x (Fm.gaths (t.parts.take k) bs ss)) ∧ Hid (w0.grownBy wr (Value.slice va ss.length vc).ownBlock) ∧ Hid (Goes w0 (.slice va ss.length vc) x) ∧ Hid (Value.slice va ss.length vc ≠ .slice none 0 0 → x ≠ .slice none 0 0)) (fun _ i _ => t.parts.length - (intOf i).toNat)
      case atStart => exact ⟨0, Nat.zero_le _, rfl, by rw [List.take_zero, Fm.gaths]; exact HV.out.keep hW, grown_refl _ _, Goes.refl _ _, fun h => h⟩
      case round =>
        obtain ⟨k, hk, rfl, HG, HGR, HGO, HNN⟩ := hrel
        have hgz := HGR.out.size
        by_cases hlt : k < t.parts.length
        · have hne : t.parts ≠ [] := by intro e; rw [e] at hlt; simp at hlt
          have hr := D.rd_keep (keeps_low HGR.out (fun k hk => (hvl k hk).1) hS) _ _ (Fm.at_parts HTW.out)
          obtain ⟨b, off, rfl, hSb, hbl, hrr⟩ := Fm.sd_get hr hne
          obtain ⟨c0, c1, c2, c3, c4, q0, q1, q2, q3, q4, qx⟩ := hrr k hlt
          obtain ⟨rfl, rfl, ⟨p, pc, rfl⟩, rfl, y, yc, rfl⟩ := Fm.at_form qx
          have hA : Below wr.heap.size wr (wr.alloc (.cells #[.int .i64 t.parts[k].op, .string t.parts[k].atom.name, .slice p t.parts[k].atom.args.length pc, .string t.parts[k].v, .slice y t.parts[k].parts.length yc] 64)) := (Below.refl _ _).alloc (Nat.le_refl _) _
          have hbm := Fm.bulk_mem (List.getElem_mem hlt)
          have hst := Fm.sizes_take t.parts k hlt
          have hsl := Fm.sizes_le t.parts (k + 1)
          have hcl := Fm.gaths_length (t.parts.take k) bs ss
          have hbt := Fm.bulks_take t.parts k hlt
          have hbl2 := Fm.bulks_le t.parts (k + 1)
          have hub := D.rd_mono (S' := fun z => z < (wr.alloc (.cells #[.int .i64 t.parts[k].op, .string t.parts[k].atom.name, .slice p t.parts[k].atom.args.length pc, .string t.parts[k].v, .slice y t.parts[k].parts.length yc] 64)).heap.size ∧ u0.ownBlock ≠ some z) (fun z hz => ⟨by rw [World.size_alloc]; have := hz.1; omega, fun e => (HGO.out z e).elim (fun q => hz.2 q) (fun q => by have := hz.1; omega)⟩) _ _ (D.rd_keep (Keeps.all hA) _ _ (D.rd_keep (keeps_v HGR.out) _ _ HUB.out))
          have hq := ih t.parts[k] (List.getElem_mem hlt) _ _ _ _ B S _ _ _ _ _ _ (HG.out.keep hA) (by rw [World.size_alloc]; omega) (Fm.at_keep (Keeps.all hA) qx) hS hub HSU.out (Fm.part_forms hf _ (List.getElem_mem hlt)) (by omega) (by omega) (by omega)
          rw [← Fm.gaths_take _ _ _ _ hlt] at hq
          clear hrr hbm hst hsl hcl hr hub hbt hbl2
          go_wp2_with fail
          refine hq.mono ?_
          rintro e w2 ⟨v2, rfl, hg2, hgr2, hgo2, hnn2⟩
          have HG2 := hid hg2
          have HGR2 := hid (grown_trans HGR.out (grown_trans (grown_of_below hA u0.ownBlock) hgr2 (fun x h => .inl h)) (fun x h => HGO.out x h))
          have HGO2 := hid (Goes.trans HGO.out (by rw [World.size_alloc]; omega) hgo2)
          have HNN2 := hid (fun h => hnn2 (HNN.out h))
          clear hq hg2 hgr2 hgo2 hnn2
          go_wp2_with fail
          go_roundw
          case rel => exact ⟨k + 1, by omega, by go_num, HG2, HGR2, HGO2, HNN2.out⟩
          case measure => simp [intOf]; omega
        · obtain rfl : k = t.parts.length := by omega
          go_wp2_with fail
          go_ret
          refine ⟨_, rfl, by rw [HC.out]; have := HG.out; rwa [List.take_length] at this, grown_trans (grown_of_below hW _) HGR.out (fun x h => .inl h), fun x h => ?_, HNN.out⟩
          rcases HGO.out x h with q | q
          · exact .inl q
          · exact .inr (Nat.le_trans hW.size q)
theorem gathIs_any (t : Fm) : GathIs t := Fm.ind (P := GathIs) (fun o a v ps h => gathIs_of (.node o a v ps) h) t
theorem rd_nilS {S : Nat → Prop} {w : World} {a : Option Addr} {c : Nat} : D.rd S w (.slice a 0 c) (slOf strE []) := by
  rw [slOf, D.rd]
  exact ⟨_, _, rfl, by simp, by simp, by simp, by simp⟩
theorem Fm.at_lt {S : Nat → Prop} {w : World} {c0 c1 c2 c3 c4 : Value} {x : Fm} (h : Fm.at S w c0 c1 c2 c3 c4 x) : Fm.at (· < w.heap.size) w c0 c1 c2 c3 c4 x := ⟨D.rd_lt _ _ h.1, D.rd_lt _ _ h.2.1, D.rd_lt _ _ h.2.2.1, D.rd_lt _ _ h.2.2.2.1, D.rd_lt _ _ h.2.2.2.2⟩
set_option maxHeartbeats 2000000 in
theorem free_any (t : Fm) {S : Nat → Prop} {c0 c1 c2 c3 c4 : Value} {w : World} (ht : Fm.at S w c0 c1 c2 c3 c4 t) (hbk : t.bulk ≤ 1048576) (hf : t.forms = true) (hs40 : t.size ≤ 40) : Calls Try.prog 66 #[.agg #[c0, c1, c2, c3, c4]] w (MadeSS t.frees w) := by
  obtain ⟨cs, Hcs⟩ : ∃ cs, Hid (t.gath [] [] = cs) := ⟨_, hid rfl⟩
  obtain ⟨vs, Hvs⟩ : ∃ vs, Hid (t.frees = vs) := ⟨_, hid rfl⟩
  have HL : Hid ((cs.map tl).mergeSort (fun x y => decide (x ≤ y)) = vs.map tl) := by rw [← Hcs.out, ← Hvs.out]; exact Fm.frees_sorted hf
  have HC : Hid (cs.length = vs.length) := by rw [← Hcs.out, ← Hvs.out]; exact Fm.frees_len hf
  have hcl := Fm.gath_length t [] []
  simp only [List.length_nil, Nat.zero_add] at hcl
  rw [Hcs.out] at hcl
  rw [Hvs.out]
  have ht0 := Fm.at_lt ht
  obtain ⟨rfl, rfl, ⟨ta, tc, rfl⟩, rfl, tA, tC, rfl⟩ := Fm.at_form ht
  have hW : Below w.heap.size w (w.alloc (.cells #[.int .i64 t.op, .string t.atom.name, .slice ta t.atom.args.length tc, .string t.v, .slice tA t.parts.length tC] 64)) := (Below.refl _ _).alloc (Nat.le_refl _) _
  have bt : Box (w.alloc (.cells #[.int .i64 t.op, .string t.atom.name, .slice ta t.atom.args.length tc, .string t.v, .slice tA t.parts.length tC] 64)) (w.heap.size) [.int .i64 t.op, .string t.atom.name, .slice ta t.atom.args.length tc, .string t.v, .slice tA t.parts.length tC] := by
    have := (Box.new w [.int .i64 t.op, .string t.atom.name, .slice ta t.atom.args.length tc, .string t.v, .slice tA t.parts.length tC] 64)
    simpa only [World.size_alloc] using this
  replace ht := Fm.at_keep (Keeps.all hW) ht
  have et0 := bt.c0
  have et1 := bt.c1
  have et2 := bt.c2
  have et3 := bt.c3
  have et4 := bt.c4
  have lt := bt.lt
  go_enter Try.func66, Try.ntmps66
  go_wp2_with fail
  clear et0 et1 et2 et3 et4 lt
  have Hw0 : Hid ((w.alloc (.cells #[.int .i64 t.op, .string t.atom.name, .slice ta t.atom.args.length tc, .string t.v, .slice tA t.parts.length tC] 64)).heap.size = w.heap.size + 1) := by simp [Hid]
  generalize (w.alloc (.cells #[.int .i64 t.op, .string t.atom.name, .slice ta t.atom.args.length tc, .string t.v, .slice tA t.parts.length tC] 64)) = w0 at *
  have hA : Below w0.heap.size w0 (w0.alloc (.cells #[] 9)) := (Below.refl _ _).alloc (Nat.le_refl _) _
  have hq := gathIs_any t [] [] _ (.slice none 0 0) w.heap.size _ _ _ _ _ _ _ ((GS.made (w := w0) (n := w.heap.size + 1) Hw0.out.symm (Nat.le_refl _)).mono hW.size) (by rw [World.size_alloc]; have := hW.size; omega) (Fm.at_keep (Keeps.all (hW.trans (hA.mono hW.size))) ht0) (fun x hx => hx) rd_nilS (.inl rfl) hf hbk (by simp; omega) (by simp; omega)
  rw [Hcs.out] at hq
  refine hq.mono ?_
  rintro e w1 ⟨v1, rfl, hg1, hgr1, hgo1, hn1⟩
  have hb1 : Below w.heap.size w w1 := below_grown (hW.trans (hA.mono hW.size)) hgr1 (by rw [World.size_alloc]; have := hW.size; omega) (fun x hx => by have hx' : w.heap.size + 1 = x := Option.some.inj hx; omega)
  obtain ⟨g, cap, rfl⟩ := hg1.addr (hn1 (by intro e; cases e))
  have hgl := hg1.lt g rfl
  have hs := sort_strs (ts := vs) hg1 (by omega) HL.out
  rw [HC.out] at hs hg1 ⊢
  clear hq
  go_wp2_with fail
  refine hs.mono ?_
  rintro e w2 ⟨rfl, hg2, hgr2⟩
  have hb2 : Below w.heap.size w w2 := Below.grown hb1 hgr2 hb1.size (fun k hk => by injection hk with hk; omega)
  clear hs
  go_wp2_with fail
  go_ret
  obtain ⟨F, ho, hF⟩ := hg2.own
  exact ⟨_, F, rfl, ho, hF, hb2⟩
theorem Fm.valid_forms {x : Fm} (h : x.valid = true) : x.forms = true := by rw [Fm.valid, Bool.and_eq_true] at h; exact h.2
theorem Fm.valid_size {x : Fm} (h : x.valid = true) : x.size ≤ 40 := by rw [Fm.valid, Bool.and_eq_true, decide_eq_true_iff] at h; exact h.1
set_option maxHeartbeats 2000000 in
theorem impl_FreeVariables {t : Fm} {S : Nat → Prop} {c0 c1 c2 c3 c4 : Value} {w : World} (ht : Fm.at S w c0 c1 c2 c3 c4 t) (hbt : t.bulk ≤ 1048576) : Calls Try.prog 30 #[.agg #[c0, c1, c2, c3, c4]] w (OutD id (slOf strE (fvR t)) t.valid w) := by
  by_cases h1 : t.valid = true
  · have HR : Hid (fvR t = t.frees) := by rw [Hid, fvR, if_pos h1]
    have HE := hid h1
    have hfo := Fm.valid_forms h1
    have hsz := Fm.valid_size h1
    clear h1
    rw [HR.out, HE.out]
    obtain ⟨rfl, rfl, ⟨ta, tc, rfl⟩, rfl, tA, tC, rfl⟩ := Fm.at_form ht
    have hW : Below w.heap.size w (w.alloc (.cells #[.int .i64 t.op, .string t.atom.name, .slice ta t.atom.args.length tc, .string t.v, .slice tA t.parts.length tC] 64)) := (Below.refl _ _).alloc (Nat.le_refl _) _
    have bt : Box (w.alloc (.cells #[.int .i64 t.op, .string t.atom.name, .slice ta t.atom.args.length tc, .string t.v, .slice tA t.parts.length tC] 64)) (w.heap.size) [.int .i64 t.op, .string t.atom.name, .slice ta t.atom.args.length tc, .string t.v, .slice tA t.parts.length tC] := by
      have := (Box.new w [.int .i64 t.op, .string t.atom.name, .slice ta t.atom.args.length tc, .string t.v, .slice tA t.parts.length tC] 64)
      simpa only [World.size_alloc] using this
    replace ht := Fm.at_keep (Keeps.all hW) ht
    have et0 := bt.c0
    have et1 := bt.c1
    have et2 := bt.c2
    have et3 := bt.c3
    have et4 := bt.c4
    have lt := bt.lt
    go_enter Try.func30, Try.ntmps30
    go_wp2_with fail
    clear et0 et1 et2 et3 et4 lt
    have Hw0 : Hid ((w.alloc (.cells #[.int .i64 t.op, .string t.atom.name, .slice ta t.atom.args.length tc, .string t.v, .slice tA t.parts.length tC] 64)).heap.size = w.heap.size + 1) := by simp [Hid]
    generalize (w.alloc (.cells #[.int .i64 t.op, .string t.atom.name, .slice ta t.atom.args.length tc, .string t.v, .slice tA t.parts.length tC] 64)) = w0 at *
    refine (impl_IsValidFormula ht hbt).mono ?_
    rintro e w1 ⟨_, rfl, hb, rfl⟩
    replace hW := hW.trans (hb.mono hW.size)
    replace bt := bt.keep hb
    replace ht := Fm.at_keep (Keeps.all hb) ht
    clear hb
    rw [HE.out]
    have et0 := bt.c0
    have et1 := bt.c1
    have et2 := bt.c2
    have et3 := bt.c3
    have et4 := bt.c4
    have lt := bt.lt
    go_wp2_with fail
    clear et0 et1 et2 et3 et4 lt
    refine (free_any t ht hbt hfo hsz).mono ?_
    rintro e w2 ⟨v, F, rfl, ho, hF, hb⟩
    have hzW := hW.size
    have hbe := hW.trans (hb.mono hW.size)
    go_wp2_with fail
    go_ret2
    exact ⟨v, F, rfl, ho, fun x hx => Nat.le_trans hzW (hF x hx), hbe⟩
  · have HE := hid (Bool.eq_false_iff.2 h1)
    have HR : Hid (fvR t = []) := by rw [Hid, fvR, if_neg h1]
    clear h1
    rw [HR.out, HE.out]
    obtain ⟨rfl, rfl, ⟨ta, tc, rfl⟩, rfl, tA, tC, rfl⟩ := Fm.at_form ht
    have hW : Below w.heap.size w (w.alloc (.cells #[.int .i64 t.op, .string t.atom.name, .slice ta t.atom.args.length tc, .string t.v, .slice tA t.parts.length tC] 64)) := (Below.refl _ _).alloc (Nat.le_refl _) _
    have bt : Box (w.alloc (.cells #[.int .i64 t.op, .string t.atom.name, .slice ta t.atom.args.length tc, .string t.v, .slice tA t.parts.length tC] 64)) (w.heap.size) [.int .i64 t.op, .string t.atom.name, .slice ta t.atom.args.length tc, .string t.v, .slice tA t.parts.length tC] := by
      have := (Box.new w [.int .i64 t.op, .string t.atom.name, .slice ta t.atom.args.length tc, .string t.v, .slice tA t.parts.length tC] 64)
      simpa only [World.size_alloc] using this
    replace ht := Fm.at_keep (Keeps.all hW) ht
    have et0 := bt.c0
    have et1 := bt.c1
    have et2 := bt.c2
    have et3 := bt.c3
    have et4 := bt.c4
    have lt := bt.lt
    go_enter Try.func30, Try.ntmps30
    go_wp2_with fail
    clear et0 et1 et2 et3 et4 lt
    have Hw0 : Hid ((w.alloc (.cells #[.int .i64 t.op, .string t.atom.name, .slice ta t.atom.args.length tc, .string t.v, .slice tA t.parts.length tC] 64)).heap.size = w.heap.size + 1) := by simp [Hid]
    generalize (w.alloc (.cells #[.int .i64 t.op, .string t.atom.name, .slice ta t.atom.args.length tc, .string t.v, .slice tA t.parts.length tC] 64)) = w0 at *
    refine (impl_IsValidFormula ht hbt).mono ?_
    rintro e w1 ⟨_, rfl, hb, rfl⟩
    replace hW := hW.trans (hb.mono hW.size)
    replace bt := bt.keep hb
    replace ht := Fm.at_keep (Keeps.all hb) ht
    clear hb
    rw [HE.out]
    have et0 := bt.c0
    have et1 := bt.c1
    have et2 := bt.c2
    have et3 := bt.c3
    have et4 := bt.c4
    have lt := bt.lt
    go_wp2_with fail
    clear et0 et1 et2 et3 et4 lt
    go_ret2
    exact ⟨_, [], rfl, D.own_nil _ _, by simp, hW⟩
def IntoIs (t : Fm) : Prop := ∀ (ss bs : List ByteArray) (v vb : Value) (S : Nat → Prop) (c0 c1 c2 c3 c4 : Value) (w : World), Lst w v ss → Lst w vb bs → Fm.at S w c0 c1 c2 c3 c4 t → t.bulk ≤ 1048576 → ss.length + t.size + t.bulk ≤ 1073741824 → bs.length + t.size ≤ 1073741824 → Calls Try.prog 89 #[v, .agg #[c0, c1, c2, c3, c4], vb] w (Yields w fun u w' => Lst w' u (t.puts bs ss))
set_option maxHeartbeats 4000000 in
theorem intoIs_of (t : Fm) (h : ∀ p ∈ t.parts, IntoIs p) : IntoIs t := by
  intro ss bs v vb S c0 c1 c2 c3 c4 w hv hvb hT hbk hss hbs
  have hts := Fm.size_eq t
  have hbe := Fm.bulk_eq t
  have hbA : t.atom.bulk ≤ 1048576 := by omega
  have HV := hid hv
  have HVB := hid hvb
  clear hv hvb
  by_cases ho : t.op = 3
  · obtain ⟨vs, Hvs⟩ : ∃ vs, Hid (varsOf t.atom = vs) := ⟨_, hid rfl⟩
    have hvs := varsOf_length t.atom
    obtain ⟨ls, HLl⟩ : ∃ ls, Hid (putNew bs vs ss = ls) := ⟨_, hid rfl⟩
    have HP : Hid (t.puts bs ss = Fm.putss t.parts bs ls) := by rw [Hid, Fm.puts_eq, if_pos ho, scope, if_neg (by rw [ho]; decide), Hvs.out, HLl.out]
    have hll := putNew_length bs vs ss
    rw [HLl.out] at hll
    have s3 : (t.op == 3) = true := by simp [ho]
    have s8 : (t.op == 8) = false := by simp [ho]
    have s9 : (t.op == 9) = false := by simp [ho]
    rw [Hvs.out] at hvs
    clear ho
    obtain ⟨rfl, rfl, ⟨a, cap, rfl⟩, rfl, a2, cap2, rfl⟩ := Fm.at_form hT
    have hW : Below w.heap.size w (w.alloc (.cells #[.int .i64 t.op, .string t.atom.name, .slice a t.atom.args.length cap, .string t.v, .slice a2 t.parts.length cap2] 64)) := (Below.refl _ _).alloc (Nat.le_refl _) _
    have bT : Box (w.alloc (.cells #[.int .i64 t.op, .string t.atom.name, .slice a t.atom.args.length cap, .string t.v, .slice a2 t.parts.length cap2] 64)) w.heap.size [.int .i64 t.op, .string t.atom.name, .slice a t.atom.args.length cap, .string t.v, .slice a2 t.parts.length cap2] := Box.new w _ _
    replace hT := Fm.at_keep (Keeps.all hW) hT
    go_enter Try.func89, Try.ntmps89
    go_wp2_with fail
    generalize (w.alloc (.cells #[.int .i64 t.op, .string t.atom.name, .slice a t.atom.args.length cap, .string t.v, .slice a2 t.parts.length cap2] 64)) = w0 at *
    refine (l2Vars_any t.atom (Fm.at_atom hT) hbA).mono ?_
    rintro e w1 ⟨vl, rfl, hb, hL⟩
    replace hL : Lst w1 vl (varsOf t.atom) := hL
    rw [Hvs.out] at hL
    replace hW := hW.trans (hb.mono hW.size)
    replace bT := bT.keep hb
    replace hT := Fm.at_keep (Keeps.all hb) hT
    have HUB := hid (HVB.out.keep hW)
    obtain ⟨lb, lo, lc, rfl, lbl, hcap, hcm, lrr⟩ := hL
    have HLR := hid lrr
    unfold maxLen at hcm
    clear lrr hb
    go_wp2_with fail
    go_loopw [0, 8] (fun x i wr => ∃ k : Nat, k ≤ vs.length ∧ i = .int .i64 k ∧ Hid (Lst wr x (putNew bs (vs.take k) ss)) ∧ Below w1.heap.size w1 wr) (fun _ i _ => vs.length - (intOf i).toNat)
    case atStart => exact ⟨0, Nat.zero_le _, rfl, by rw [List.take_zero, putNew]; exact HV.out.keep hW, Below.refl _ _⟩
    case round =>
      obtain ⟨k, hk, rfl, HX, hb⟩ := hrel
      by_cases hlt : k < vs.length
      · have q0 := (hb.cell (p := ⟨lb, lo + k, none⟩) lbl).trans (HLR.out k hlt).1
        have qn := (HLR.out k hlt).2
        have hub := HUB.out.keep hb
        have hcl := putNew_length bs (vs.take k) ss
        rw [List.length_take] at hcl
        have HST := hid (putNew_snoc bs (vs.take k) vs[k] ss)
        rw [show vs.take k ++ [vs[k]] = vs.take (k + 1) by simp] at HST
        go_wp2_with fail
        refine (l2In_any hub).mono ?_
        rintro e w2 ⟨rfl, rfl⟩
        by_cases hin : hasStr bs vs[k] = true
        · have HZ : Hid (putNew bs (vs.take (k + 1)) ss = putNew bs (vs.take k) ss) := by rw [Hid, HST.out, if_pos hin]
          rw [hin]
          clear hin
          go_wp2_with fail
          go_roundw
          case rel => exact ⟨k + 1, by omega, by go_num, by rw [HZ.out]; exact HX, hb⟩
          case measure => simp [intOf]; omega
        · have HZ : Hid (putNew bs (vs.take (k + 1)) ss = putStr (putNew bs (vs.take k) ss) vs[k]) := by rw [Hid, HST.out, if_neg hin]
          replace hin : hasStr bs vs[k] = false := by simpa using hin
          have hq := l2Put_any HX.out qn (by omega)
          rw [hin]
          clear hin
          go_wp2_with fail
          refine hq.mono ?_
          rintro e w2 ⟨u, rfl, hb3, hL3⟩
          have HX3 := hid hL3
          clear hL3 hq
          go_wp2_with fail
          go_roundw
          case rel => exact ⟨k + 1, by omega, by go_num, by rw [HZ.out]; exact HX3, hb.trans (hb3.mono hb.size)⟩
          case measure => simp [intOf]; omega
      · obtain rfl : k = vs.length := by omega
        have HLS : Hid (Lst wr u0 ls) := by have := HX.out; rw [List.take_length, HLl.out] at this; exact this
        replace HUB := hid (HUB.out.keep hb)
        replace hW := hW.trans (hb.mono hW.size)
        replace bT := bT.keep hb
        replace hT := Fm.at_keep (Keeps.all hb) hT
        have eT0 := bT.c0
        have lT := bT.lt
        clear hb HX
        rename World => w3
        go_wp2_with fail
        clear eT0 lT
        go_loopw [0, 9] (fun x i wr => ∃ k : Nat, k ≤ t.parts.length ∧ i = .int .i64 k ∧ Hid (Lst wr x (Fm.putss (t.parts.take k) bs ls)) ∧ Below w3.heap.size w3 wr) (fun _ i _ => t.parts.length - (intOf i).toNat)
        case atStart => exact ⟨0, Nat.zero_le _, rfl, by rw [List.take_zero, Fm.putss]; exact HLS.out, Below.refl _ _⟩
        case round =>
          obtain ⟨k, hk, rfl, HX, hb⟩ := hrel
          have hWr := hW.trans (hb.mono hW.size)
          have bR := bT.keep hb
          have eT0 := bR.c0
          have eT1 := bR.c1
          have eT2 := bR.c2
          have eT3 := bR.c3
          have eT4 := bR.c4
          have lT := bR.lt
          by_cases hlt : k < t.parts.length
          · have hne : t.parts ≠ [] := by intro e; rw [e] at hlt; simp at hlt
            obtain ⟨b, off, rfl, hS, hbl, hrr⟩ := Fm.sd_get (Fm.at_parts hT) hne
            obtain ⟨c0, c1, c2, c3, c4, q0, q1, q2, q3, q4, qx⟩ := hrr k hlt
            obtain ⟨rfl, rfl, ⟨p, pc, rfl⟩, rfl, y, yc, rfl⟩ := Fm.at_form qx
            replace q0 := (hb.cell (p := ⟨b, off + k * 5, none⟩) hbl).trans q0
            replace q1 := (hb.cell (p := ⟨b, off + k * 5 + 1, none⟩) hbl).trans q1
            replace q2 := (hb.cell (p := ⟨b, off + k * 5 + 2, none⟩) hbl).trans q2
            replace q3 := (hb.cell (p := ⟨b, off + k * 5 + 3, none⟩) hbl).trans q3
            replace q4 := (hb.cell (p := ⟨b, off + k * 5 + 4, none⟩) hbl).trans q4
            replace qx := Fm.at_keep (Keeps.all hb) qx
            have hmem := h t.parts[k] (List.getElem_mem hlt)
            have hbm : t.parts[k].bulk ≤ 1048576 := by have := Fm.bulk_mem (List.getElem_mem hlt); have := Fm.bulk_eq t; omega
            clear hrr
            have hst := Fm.putss_take t.parts bs ls k hlt
            have hsl := Fm.putss_length (t.parts.take k) bs ls
            have hsb := Fm.sizes_take t.parts k hlt
            have hsc := Fm.sizes_le t.parts (k + 1)
            have hbt := Fm.bulks_take t.parts k hlt
            have hbl2 := Fm.bulks_le t.parts (k + 1)
            have hq := hmem _ _ _ _ _ _ _ _ _ _ _ HX.out (HUB.out.keep hb) qx hbm (by omega) (by omega)
            rw [← hst] at hq
            clear hst hsl hsb hsc hbt hbl2
            go_wp2_with fail
            refine hq.mono ?_
            rintro e w2 ⟨u, rfl, hb3, hL3⟩
            have HX3 := hid hL3
            clear hL3 hq
            go_wp2_with fail
            go_roundw
            case rel => exact ⟨k + 1, by omega, by go_num, HX3, hb.trans (hb3.mono hb.size)⟩
            case measure => simp [intOf]; omega
          · obtain rfl : k = t.parts.length := by omega
            go_wp2_with fail
            go_ret
            exact ⟨_, rfl, hWr, by rw [HP.out]; have := HX.out; rwa [List.take_length] at this⟩
  · have s3 : (t.op == 3) = false := by simp [ho]
    have hvl3 := Fm.v_le hT
    have HP0 : Hid (t.puts bs ss = Fm.putss t.parts (scope t.op t.v bs) ss) := by rw [Hid, Fm.puts_eq, if_neg ho]
    clear ho
    by_cases hq : quantOp t.op = true
    · have HP : Hid (t.puts bs ss = Fm.putss t.parts (bs ++ [t.v]) ss) := by rw [Hid, HP0.out, scope, if_pos hq]
      have key : (t.op == 8) = true ∨ ((t.op == 8) = false ∧ (t.op == 9) = true) := by
        by_cases h8 : t.op = 8
        · left; simp [h8]
        · right
          simp only [quantOp, h8, decide_false, Bool.false_or, decide_eq_true_eq] at hq
          simp [hq]
      clear hq
      obtain ⟨vbb, vbo, vbc, rfl, hvbl, hvbc, hvbm, hvbr⟩ := HVB.out
      have HY : Hid (∀ y ∈ bs, y.size ≤ maxLen) := fun y hy => by
        obtain ⟨i, hi, rfl⟩ := List.mem_iff_getElem.1 hy
        exact (hvbr i hi).2
      have HRR := hid hvbr
      clear hvbr
      rcases key with s8 | ⟨s8, s9⟩
      all_goals
        obtain ⟨rfl, rfl, ⟨a, cap, rfl⟩, rfl, a2, cap2, rfl⟩ := Fm.at_form hT
        have hW : Below w.heap.size w (w.alloc (.cells #[.int .i64 t.op, .string t.atom.name, .slice a t.atom.args.length cap, .string t.v, .slice a2 t.parts.length cap2] 64)) := (Below.refl _ _).alloc (Nat.le_refl _) _
        have bT : Box (w.alloc (.cells #[.int .i64 t.op, .string t.atom.name, .slice a t.atom.args.length cap, .string t.v, .slice a2 t.parts.length cap2] 64)) w.heap.size [.int .i64 t.op, .string t.atom.name, .slice a t.atom.args.length cap, .string t.v, .slice a2 t.parts.length cap2] := Box.new w _ _
        replace hT := Fm.at_keep (Keeps.all hW) hT
        go_enter Try.func89, Try.ntmps89
        go_wp2_with fail
        generalize (w.alloc (.cells #[.int .i64 t.op, .string t.atom.name, .slice a t.atom.args.length cap, .string t.v, .slice a2 t.parts.length cap2] 64)) = w0 at *
        have hwz := hW.size
        have eT0 := bT.c0
        have eT3 := bT.c3
        have lT := bT.lt
        clear s3
        try clear s8
        try clear s9
        go_region_held3 (fun w' => w'.cell? ⟨w.heap.size, 3, none⟩ = some (.string t.v))
          (first | assumption | exact eT3 | exact cell_alloc (by assumption) _ | exact cell_alloc (cell_alloc eT3 _) _)
          (first | (refine step_apps (B := w0.heap.size) (W := w0) (ss := []) (ys := bs) rfl (.tmp 43) (.tmp 44) rfl (by first | exact ((Below.refl w0.heap.size w0).alloc (Nat.le_refl _) _).drew | exact (((Below.refl w0.heap.size w0).alloc (Nat.le_refl _) _).alloc (by simp) _).drew) (by first | (simp; done) | (simp; omega)) (by rfl) (by rfl) (by first | exact (Row.made' (by simp) (by simp)).drew | exact ((Row.made' (by simp) (by simp)).keep ((Below.refl _ _).alloc (Nat.le_refl _) _)).drew) rfl (fun _ => by omega) (by intro j hj; exact (hW.cell (p := ⟨vbb, vbo + j, none⟩) hvbl).trans (HRR.out j hj).1) HY.out (by simp only [List.length_nil]; omega) ?_; intro v45 w45 hr45 hB45 hz45 hn45 hg45; have hS45 : w45.cell? ⟨w.heap.size, 3, none⟩ = some (.string t.v) := (hB45.cell lT).trans eT3) | (refine step_app (B := w0.heap.size) (W := w0) (ss := bs) (y := t.v) rfl (.tmp 45) (.tmp 48) rfl (by first | exact hB45 | exact hB45.alloc hz45 _) (by first | exact hz45 | (simp; omega)) (by rfl) (by rfl) (by first | exact hr45 | exact hr45.keep ((Below.refl _ _).alloc (Nat.le_refl _) _)) hvl3 (by first | exact box1 _ _ _ 0 | exact hg45.cell (v := .string t.v) (box2 _ _ _ _ _ 0).2 (fun (e : some _ = some _) => absurd (Option.some.inj e) (by first | omega | (simp; done) | (simp; omega))) | exact hg45.cell (v := .string t.v) (box2 _ _ _ _ _ 0).1 (fun (e : some _ = some _) => absurd (Option.some.inj e) (by first | omega | (simp; done) | (simp; omega)))) (by omega) ?_; intro g49 cap49 w49 hr49 hB49 hz49 hlt49 hg49; have hS49 : w49.cell? ⟨w.heap.size, 3, none⟩ = some (.string t.v) := (hB49.cell lT).trans eT3))
        all_goals
          rename World => w5
          replace hW := hW.trans (hB49.mono hW.size)
          replace bT := bT.keep hB49
          replace hT := Fm.at_keep (Keeps.all hB49) hT
          have HUB : Hid (Lst w5 (.slice (some ⟨g49, 0, none⟩) (bs.length + 1) cap49) (bs ++ [t.v])) := by
            have hx : Row w5 w0.heap.size (.slice (some ⟨g49, 0, none⟩) (bs.length + 1) cap49) (bs ++ [t.v]) := by simpa using hr49
            exact Row.lst hx (by intro e; cases e)
          have HLS := hid (HV.out.keep hW)
          obtain ⟨cs, HCS⟩ : ∃ cs, Hid (bs ++ [t.v] = cs) := ⟨_, hid rfl⟩
          have hcs : cs.length = bs.length + 1 := by rw [← HCS.out]; simp
          rw [HCS.out] at HP HUB
          clear eT0 eT3 lT hr49 hB49 hg49 hS49 hS45
          go_wp2_with fail
          go_loopw [0, 9] (fun x i wr => ∃ k : Nat, k ≤ t.parts.length ∧ i = .int .i64 k ∧ Hid (Lst wr x (Fm.putss (t.parts.take k) cs ss)) ∧ Below w5.heap.size w5 wr) (fun _ i _ => t.parts.length - (intOf i).toNat)
          case atStart => exact ⟨0, Nat.zero_le _, rfl, by rw [List.take_zero, Fm.putss]; exact HLS.out, Below.refl _ _⟩
          case round =>
            obtain ⟨k, hk, rfl, HX, hb⟩ := hrel
            have hWr := hW.trans (hb.mono hW.size)
            have bR := bT.keep hb
            have eT0 := bR.c0
            have eT1 := bR.c1
            have eT2 := bR.c2
            have eT3 := bR.c3
            have eT4 := bR.c4
            have lT := bR.lt
            by_cases hlt : k < t.parts.length
            · have hne : t.parts ≠ [] := by intro e; rw [e] at hlt; simp at hlt
              obtain ⟨b, off, rfl, hS, hbl, hrr⟩ := Fm.sd_get (Fm.at_parts hT) hne
              obtain ⟨c0, c1, c2, c3, c4, q0, q1, q2, q3, q4, qx⟩ := hrr k hlt
              obtain ⟨rfl, rfl, ⟨p, pc, rfl⟩, rfl, y, yc, rfl⟩ := Fm.at_form qx
              replace q0 := (hb.cell (p := ⟨b, off + k * 5, none⟩) hbl).trans q0
              replace q1 := (hb.cell (p := ⟨b, off + k * 5 + 1, none⟩) hbl).trans q1
              replace q2 := (hb.cell (p := ⟨b, off + k * 5 + 2, none⟩) hbl).trans q2
              replace q3 := (hb.cell (p := ⟨b, off + k * 5 + 3, none⟩) hbl).trans q3
              replace q4 := (hb.cell (p := ⟨b, off + k * 5 + 4, none⟩) hbl).trans q4
              replace qx := Fm.at_keep (Keeps.all hb) qx
              have hmem := h t.parts[k] (List.getElem_mem hlt)
              have hbm : t.parts[k].bulk ≤ 1048576 := by have := Fm.bulk_mem (List.getElem_mem hlt); have := Fm.bulk_eq t; omega
              clear hrr
              have hst := Fm.putss_take t.parts cs ss k hlt
              have hsl := Fm.putss_length (t.parts.take k) cs ss
              have hsb := Fm.sizes_take t.parts k hlt
              have hsc := Fm.sizes_le t.parts (k + 1)
              have hbt := Fm.bulks_take t.parts k hlt
              have hbl2 := Fm.bulks_le t.parts (k + 1)
              have hq := hmem _ _ _ _ _ _ _ _ _ _ _ HX.out (HUB.out.keep hb) qx hbm (by omega) (by omega)
              rw [← hst] at hq
              clear hst hsl hsb hsc hbt hbl2
              go_wp2_with fail
              refine hq.mono ?_
              rintro e w2 ⟨u, rfl, hb3, hL3⟩
              have HX3 := hid hL3
              clear hL3 hq
              go_wp2_with fail
              go_roundw
              case rel => exact ⟨k + 1, by omega, by go_num, HX3, hb.trans (hb3.mono hb.size)⟩
              case measure => simp [intOf]; omega
            · obtain rfl : k = t.parts.length := by omega
              go_wp2_with fail
              go_ret
              exact ⟨_, rfl, hWr, by rw [HP.out]; have := HX.out; rwa [List.take_length] at this⟩
    · have hq8 : ¬ t.op = 8 := by intro e; rw [e] at hq; exact hq rfl
      have hq9 : ¬ t.op = 9 := by intro e; rw [e] at hq; exact hq rfl
      have s8 : (t.op == 8) = false := by simp [hq8]
      have s9 : (t.op == 9) = false := by simp [hq9]
      have HP : Hid (t.puts bs ss = Fm.putss t.parts bs ss) := by rw [Hid, HP0.out, scope, if_neg hq]
      clear hq hq8 hq9
      obtain ⟨rfl, rfl, ⟨a, cap, rfl⟩, rfl, a2, cap2, rfl⟩ := Fm.at_form hT
      have hW : Below w.heap.size w (w.alloc (.cells #[.int .i64 t.op, .string t.atom.name, .slice a t.atom.args.length cap, .string t.v, .slice a2 t.parts.length cap2] 64)) := (Below.refl _ _).alloc (Nat.le_refl _) _
      have bT : Box (w.alloc (.cells #[.int .i64 t.op, .string t.atom.name, .slice a t.atom.args.length cap, .string t.v, .slice a2 t.parts.length cap2] 64)) w.heap.size [.int .i64 t.op, .string t.atom.name, .slice a t.atom.args.length cap, .string t.v, .slice a2 t.parts.length cap2] := Box.new w _ _
      replace hT := Fm.at_keep (Keeps.all hW) hT
      go_enter Try.func89, Try.ntmps89
      go_wp2_with fail
      generalize (w.alloc (.cells #[.int .i64 t.op, .string t.atom.name, .slice a t.atom.args.length cap, .string t.v, .slice a2 t.parts.length cap2] 64)) = w0 at *
      have HUB := hid (HVB.out.keep hW)
      have HLS := hid (HV.out.keep hW)
      go_loopw [0, 9] (fun x i wr => ∃ k : Nat, k ≤ t.parts.length ∧ i = .int .i64 k ∧ Hid (Lst wr x (Fm.putss (t.parts.take k) bs ss)) ∧ Below w0.heap.size w0 wr) (fun _ i _ => t.parts.length - (intOf i).toNat)
      case atStart => exact ⟨0, Nat.zero_le _, rfl, by rw [List.take_zero, Fm.putss]; exact HLS.out, Below.refl _ _⟩
      case round =>
        obtain ⟨k, hk, rfl, HX, hb⟩ := hrel
        have hWr := hW.trans (hb.mono hW.size)
        have bR := bT.keep hb
        have eT0 := bR.c0
        have eT1 := bR.c1
        have eT2 := bR.c2
        have eT3 := bR.c3
        have eT4 := bR.c4
        have lT := bR.lt
        by_cases hlt : k < t.parts.length
        · have hne : t.parts ≠ [] := by intro e; rw [e] at hlt; simp at hlt
          obtain ⟨b, off, rfl, hS, hbl, hrr⟩ := Fm.sd_get (Fm.at_parts hT) hne
          obtain ⟨c0, c1, c2, c3, c4, q0, q1, q2, q3, q4, qx⟩ := hrr k hlt
          obtain ⟨rfl, rfl, ⟨p, pc, rfl⟩, rfl, y, yc, rfl⟩ := Fm.at_form qx
          replace q0 := (hb.cell (p := ⟨b, off + k * 5, none⟩) hbl).trans q0
          replace q1 := (hb.cell (p := ⟨b, off + k * 5 + 1, none⟩) hbl).trans q1
          replace q2 := (hb.cell (p := ⟨b, off + k * 5 + 2, none⟩) hbl).trans q2
          replace q3 := (hb.cell (p := ⟨b, off + k * 5 + 3, none⟩) hbl).trans q3
          replace q4 := (hb.cell (p := ⟨b, off + k * 5 + 4, none⟩) hbl).trans q4
          replace qx := Fm.at_keep (Keeps.all hb) qx
          have hmem := h t.parts[k] (List.getElem_mem hlt)
          have hbm : t.parts[k].bulk ≤ 1048576 := by have := Fm.bulk_mem (List.getElem_mem hlt); have := Fm.bulk_eq t; omega
          clear hrr
          have hst := Fm.putss_take t.parts bs ss k hlt
          have hsl := Fm.putss_length (t.parts.take k) bs ss
          have hsb := Fm.sizes_take t.parts k hlt
          have hsc := Fm.sizes_le t.parts (k + 1)
          have hbt := Fm.bulks_take t.parts k hlt
          have hbl2 := Fm.bulks_le t.parts (k + 1)
          have hq := hmem _ _ _ _ _ _ _ _ _ _ _ HX.out (HUB.out.keep hb) qx hbm (by omega) (by omega)
          rw [← hst] at hq
          clear hst hsl hsb hsc hbt hbl2
          go_wp2_with fail
          refine hq.mono ?_
          rintro e w2 ⟨u, rfl, hb3, hL3⟩
          have HX3 := hid hL3
          clear hL3 hq
          go_wp2_with fail
          go_roundw
          case rel => exact ⟨k + 1, by omega, by go_num, HX3, hb.trans (hb3.mono hb.size)⟩
          case measure => simp [intOf]; omega
        · obtain rfl : k = t.parts.length := by omega
          go_wp2_with fail
          go_ret
          exact ⟨_, rfl, hWr, by rw [HP.out]; have := HX.out; rwa [List.take_length] at this⟩
theorem intoIs_any (t : Fm) : IntoIs t := Fm.ind (P := IntoIs) (fun o a v ps h => intoIs_of (.node o a v ps) h) t
end Go.Proofs.Ytominpdaipaioaa
