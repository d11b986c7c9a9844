/- Formulas that differ in bound names only: the implementation's walk. -/
import Derived.Test.YthpookgpmnbilaaAv
import Derived.Test.YthpookgpmnbilaaLa
import Derived.Test.YthpookgpmnbilaaGr
import Derived.Test.YthpookgpmnbilaaFf
namespace Go.Proofs.Ythpookgpmnbilaa
set_option maxRecDepth 100000
open Go.RowKit

theorem below_grown0 {w w' : World} (h : w.grownBy w' none) : Below w.heap.size w w' := (Below.refl _ _).grown h (Nat.le_refl _) (fun k hk => by cases hk)
/-- a cell of the call's own that holds a name -/
def Cel (w : World) (B p : Nat) (s : ByteArray) : Prop := w.cell? ⟨p, 0, none⟩ = some (.string s) ∧ B ≤ p ∧ p < w.heap.size
theorem Cel.new (w : World) (B : Nat) (s : ByteArray) (T : TypeId) (hB : B ≤ w.heap.size) : Cel (w.alloc (.cells #[.string s] T)) B w.heap.size s := ⟨box1 _ _ _ 0, hB, by simp⟩
theorem Cel.keep {w w' : World} {B p : Nat} {s : ByteArray} (h : Cel w B p s) (hb : Below w.heap.size w w') : Cel w' B p s := ⟨(hb.cell (p := ⟨p, 0, none⟩) h.2.2).trans h.1, h.2.1, Nat.lt_of_lt_of_le h.2.2 hb.size⟩
theorem Cel.grown {w w' : World} {B p : Nat} {s : ByteArray} {r : Option Nat} (h : Cel w B p s) (hg : w.grownBy w' r) (hn : r ≠ some p) : Cel w' B p s := ⟨(World.cell?_of_block (a := ⟨p, 0, none⟩) (hg.block p h.2.2 fun e => hn e.symm)).trans h.1, h.2.1, Nat.lt_of_lt_of_le h.2.2 hg.size⟩
theorem Row.ne_new {w : World} {B : Nat} {v : Value} {ss : List ByteArray} (h : Row w B v ss) : v.ownBlock ≠ some w.heap.size := fun e => by have := (h.lt _ e).2; omega
theorem Row.ne_old {w : World} {B p : Nat} {v : Value} {ss : List ByteArray} (h : Row w B v ss) (hp : p < B) : v.ownBlock ≠ some p := fun e => by have := (h.lt _ e).1; omega
theorem Row.ne_row {w w' : World} {B : Nat} {v u : Value} {ss us : List ByteArray} (h : Row w B v ss) (hu : Row w' w.heap.size u us) : v.ownBlock = none ∨ v.ownBlock ≠ u.ownBlock := by
  cases e : v.ownBlock with
  | none => exact .inl rfl
  | some g => exact .inr fun e2 => by have h1 := (h.lt _ e).2; have h2 := (hu.lt _ e2.symm).1; omega
theorem Box.setOther {w : World} {b : Nat} {cs : List Value} (h : Box w b cs) {p : Addr} (hp : p.block ≠ b) (u : Value) : Box (w.setCell p u) b cs :=
  ⟨by rw [World.size_setCell]; exact h.lt, fun i hi => (World.cell?_setCell_far w p ⟨b, i, none⟩ u hp).trans (h.cell i hi)⟩
theorem Box.setOne {w : World} {b : Nat} {c : Value} (h : Box w b [c]) (u : Value) : Box (w.setCell ⟨b, 0, none⟩ u) b [u] :=
  ⟨by rw [World.size_setCell]; exact h.lt, fun i hi => by
    obtain rfl : i = 0 := by simp at hi; exact hi
    exact World.cell?_setCell_same _ _ _ (h.cell 0 (by simp))⟩
/-- the bound names have grown by one, in their boxes -/
def AlEnd (w : World) (C4 C5 : List Value) (x y : List ByteArray) (wc : World) : Prop := ∃ gx cx gy cy : Nat, Box wc w.heap.size C4 ∧ Box wc (w.heap.size + 1) C5 ∧ Box wc (w.heap.size + 2) [.slice (some ⟨gx, 0, none⟩) x.length cx] ∧ Box wc (w.heap.size + 3) [.slice (some ⟨gy, 0, none⟩) y.length cy] ∧
  Lst wc (.slice (some ⟨gx, 0, none⟩) x.length cx) x ∧ Lst wc (.slice (some ⟨gy, 0, none⟩) y.length cy) y ∧ Below w.heap.size w wc
theorem Lst.set_lt {w : World} {B g n c : Nat} {ss : List ByteArray} (h : Row w B (.slice (some ⟨g, 0, none⟩) n c) ss) (hn : n = ss.length) {p : Addr} (hp : p.block < B) (u : Value) : Lst (w.setCell p u) (.slice (some ⟨g, 0, none⟩) ss.length c) ss := by
  subst hn
  obtain ⟨b, off, cap, e, h0, h1, h2, h3⟩ := h.lst (by intro e; cases e)
  injection e with e1 e2 e3
  injection e1 with e1; injection e1 with e1 e4
  subst e1 e4 e3
  have hge := (h.lt g rfl).1
  exact ⟨g, 0, c, rfl, by rw [World.size_setCell]; exact h0, h1, h2, fun i hi => ⟨(World.cell?_setCell_far w p ⟨g, 0 + i, none⟩ u (by show p.block ≠ g; omega)).trans (h3 i hi).1, (h3 i hi).2⟩⟩
theorem Row.setCell {w : World} {B : Nat} {v : Value} {ss : List ByteArray} (h : Row w B v ss) {p : Addr} (hp : p.block < B) (u : Value) : Row (w.setCell p u) B v ss :=
  h.kept (row := some p.block) ⟨rfl, rfl, rfl, by simp [World.setCell], fun k hk hne => Below.heap_setCell _ _ _ _ (fun e => hne (by rw [e]))⟩ (by
    cases e : v.ownBlock with
    | none => exact .inl rfl
    | some g => exact .inr fun e2 => by injection e2 with e2; have := (h.lt g e).1; omega)
theorem AlEnd.mk {w w0 w1 : World} {C4 C5 : List Value} {c6 c7 : Value} {x y : List ByteArray} {gx nx cx gy ny cy : Nat} (hW : Below w.heap.size w w0) (bT : Box w0 w.heap.size C4) (bU : Box w0 (w.heap.size + 1) C5) (bX : Box w0 (w.heap.size + 2) [c6]) (bY : Box w0 (w.heap.size + 3) [c7])
    (hS : w0.grownBy w1 none) (hX : Row w1 w0.heap.size (.slice (some ⟨gx, 0, none⟩) nx cx) x) (hY : Row w1 w0.heap.size (.slice (some ⟨gy, 0, none⟩) ny cy) y) (hnx : nx = x.length) (hny : ny = y.length) :
    AlEnd w C4 C5 x y ((w1.setCell ⟨w.heap.size + 2, 0, none⟩ (.slice (some ⟨gx, 0, none⟩) nx cx)).setCell ⟨w.heap.size + 3, 0, none⟩ (.slice (some ⟨gy, 0, none⟩) ny cy)) := by
  have hb := below_grown0 hS
  have l2 := bX.lt
  have l3 := bY.lt
  subst hnx hny
  refine ⟨gx, cx, gy, cy, ?_, ?_, ?_, ?_, ?_, ?_, ?_⟩
  · exact ((bT.keep hb).setOther (by show w.heap.size + 2 ≠ _; omega) _).setOther (by show w.heap.size + 3 ≠ _; omega) _
  · exact ((bU.keep hb).setOther (by show w.heap.size + 2 ≠ _; omega) _).setOther (by show w.heap.size + 3 ≠ _; omega) _
  · exact ((bX.keep hb).setOne _).setOther (by show w.heap.size + 3 ≠ _; omega) _
  · exact ((bY.keep hb).setOther (by show w.heap.size + 2 ≠ _; omega) _).setOne _
  · exact Lst.set_lt (hX.setCell (p := ⟨w.heap.size + 2, 0, none⟩) (by exact l2) _) rfl (p := ⟨w.heap.size + 3, 0, none⟩) (by exact l3) _
  · exact Lst.set_lt (hY.setCell (p := ⟨w.heap.size + 2, 0, none⟩) (by exact l2) _) rfl (p := ⟨w.heap.size + 3, 0, none⟩) (by exact l3) _
  · exact ((hW.trans (hb.mono hW.size)).setCell (by show _ ≤ w.heap.size + 2; omega) _).setCell (by show _ ≤ w.heap.size + 3; omega) _
theorem Lst.shp {w : World} {v : Value} {ss : List ByteArray} (h : Lst w v ss) : Shp v := by obtain ⟨b, off, cap, rfl, _⟩ := h; exact .inr ⟨_, _, _, _, rfl⟩
theorem Fm.at_sd {S : Nat → Prop} {w : World} {c0 c1 c2 c3 c4 : Value} {x : Fm} (h : Fm.at S w c0 c1 c2 c3 c4 x) : D.rd S w c4 (Fm.sd x.parts) := Fm.at_parts h
def AlphaI (t : Fm) : Prop := ∀ (u : Fm) (x y : List ByteArray) (S : Nat → Prop) (c0 c1 c2 c3 c4 d0 d1 d2 d3 d4 vx vy : Value) (w : World), Fm.at S w c0 c1 c2 c3 c4 t → Fm.at S w d0 d1 d2 d3 d4 u → D.rd (fun _ => True) w vx (slOf strE x) → D.rd (fun _ => True) w vy (slOf strE y) → Shp vx → Shp vy → t.forms = true → u.forms = true → t.bulk ≤ 1048576 → u.bulk ≤ 1048576 → x.length + t.size ≤ 1073741824 → y.length + t.size ≤ 1073741824 →
  Calls Try.prog 30 #[.agg #[c0, c1, c2, c3, c4], .agg #[d0, d1, d2, d3, d4], vx, vy] w (Gives w (.bool (Fm.alpha t u x y)))
set_option maxHeartbeats 1000000 in
theorem alpha1_of {t : Fm} (h : AlphaI t) {u : Fm} {x y : List ByteArray} {S : Nat → Prop} {c0 c1 c2 c3 c4 d0 d1 d2 d3 d4 vx vy : Value} {b6 b7 : Nat} {w : World} (hT : Fm.at S w c0 c1 c2 c3 c4 t) (hU : Fm.at S w d0 d1 d2 d3 d4 u) (hxy : XY w b6 b7 vx vy x y) (hsx : Shp vx) (hsy : Shp vy) (hft : t.forms = true) (hfu : u.forms = true) (hbt : t.bulk ≤ 1048576) (hbu : u.bulk ≤ 1048576) (hxs : x.length + t.size ≤ 1073741824) (hys : y.length + t.size ≤ 1073741824) :
    Calls Try.prog 54 #[.agg #[c0, c1, c2, c3, c4], .agg #[d0, d1, d2, d3, d4], .pointer (some ⟨b6, 0, none⟩), .pointer (some ⟨b7, 0, none⟩)] w (Gives w (.bool (Fm.alpha t u x y))) := by
  obtain ⟨rfl, rfl, ⟨a, cap, rfl⟩, rfl, a2, cap2, rfl⟩ := Fm.at_form hT
  obtain ⟨rfl, rfl, ⟨a', cap', rfl⟩, rfl, a2', cap2', rfl⟩ := Fm.at_form hU
  have hW : Below w.heap.size w ((w.alloc (.cells #[.int .i64 t.op, .string t.atom.name, .slice a t.atom.args.length cap, .string t.v, .slice a2 t.parts.length cap2] 36)).alloc (.cells #[.int .i64 u.op, .string u.atom.name, .slice a' u.atom.args.length cap', .string u.v, .slice a2' u.parts.length cap2'] 36)) := ((Below.refl _ _).alloc (Nat.le_refl _) _).alloc (by simp) _
  have hxy2 := hxy.keep hW
  have hq := h u x y S _ _ _ _ _ _ _ _ _ _ vx vy _ (Fm.at_keep (Keeps.all hW) hT) (Fm.at_keep (Keeps.all hW) hU) hxy2.2.2.2.2.1 hxy2.2.2.2.2.2 hsx hsy hft hfu hbt hbu hxs hys
  obtain ⟨e6, e7, l6, l7, -, -⟩ := hxy2
  clear hxy hT hU hft hfu hbt hbu hxs hys hsx hsy
  go_enter Try.func54, Try.ntmps54
  go_wp2_with fail
  refine hq.mono ?_
  rintro e w1 ⟨_, rfl, hb, rfl⟩
  go_wp2_with fail
  go_ret
  exact Gives.mk rfl (hW.trans (hb.mono hW.size))
set_option maxHeartbeats 1000000 in
theorem eqFuncF_of (ts : List Fm) (h : ∀ t ∈ ts, AlphaI t) (us : List Fm) (x y : List ByteArray) {S : Nat → Prop} {v u vx vy : Value} {b6 b7 : Nat} {w : World} (hr : D.rd S w v (Fm.sd ts)) (hr' : D.rd S w u (Fm.sd us)) (hxy : XY w b6 b7 vx vy x y) (hsx : Shp vx) (hsy : Shp vy) (hft : ∀ t ∈ ts, t.forms = true) (hfu : ∀ t ∈ us, t.forms = true) (hbt : ∀ t ∈ ts, t.bulk ≤ 1048576) (hbu : ∀ t ∈ us, t.bulk ≤ 1048576) (hxs : x.length + Fm.sizes ts ≤ 1073741824) (hys : y.length + Fm.sizes ts ≤ 1073741824) :
    Calls Try.prog 53 #[v, u, .func (.func 54) #[] #[.pointer (some ⟨b6, 0, none⟩), .pointer (some ⟨b7, 0, none⟩)]] w (Gives w (.bool (Fm.alphas ts us x y))) := by
  obtain ⟨a, cap, rfl, hlen, hcap⟩ := Fm.sd_form hr
  obtain ⟨a', cap', rfl, hlen', hcap'⟩ := Fm.sd_form hr'
  unfold big at hlen hlen'
  have HXY := hid hxy
  have HHH := hid h
  have HF := hid (And.intro hft hfu)
  have HB := hid (And.intro hbt hbu)
  have HSX := hid (And.intro hsx hsy)
  have HXS := hid (And.intro hxs hys)
  clear hxy h hft hfu hbt hbu hxs hys hsx hsy
  by_cases hll : ts.length = us.length
  · have HL := hid hll
    rw [← hll] at hr' hlen' hcap' ⊢
    clear hll
    go_enter Try.func53, Try.ntmps53
    go_wp2_with fail
    go_loopw [17] (fun i wr => ∃ (k : Nat), k ≤ ts.length ∧ i = .int .i64 k ∧ Hid (∀ j (h : j < ts.length) (h' : j < us.length), j < k → Fm.alpha ts[j] us[j] x y = true) ∧ Below w.heap.size w wr) (fun i _ => ts.length - (intOf i).toNat)
    case atStart => exact ⟨0, Nat.zero_le _, rfl, fun j h h' h0 => absurd h0 (by omega), Below.refl _ _⟩
    case round =>
      obtain ⟨k, hk, rfl, HX, hb⟩ := hrel
      by_cases hlt : k < ts.length
      · have hne : ts ≠ [] := by intro e; subst e; simp at hlt
        have hlt' : k < us.length := by rw [← HL.out]; exact hlt
        have hne' : us ≠ [] := by intro e; subst e; simp at hlt'
        obtain ⟨b, off, rfl, hS, hbl, hrr⟩ := Fm.sd_get hr hne
        obtain ⟨b', off', rfl, hS', hbl', hrr'⟩ := Fm.sd_get hr' hne'
        obtain ⟨c0, c1, c2, c3, c4, q0, q1, q2, q3, q4, qx⟩ := hrr k hlt
        obtain ⟨d0, d1, d2, d3, d4, r0, r1, r2, r3, r4, rx⟩ := hrr' k hlt'
        obtain ⟨rfl, rfl, ⟨z2, n2, rfl⟩, rfl, z4, n4, rfl⟩ := Fm.at_form qx
        obtain ⟨rfl, rfl, ⟨y2, m2, rfl⟩, rfl, y4, m4, rfl⟩ := Fm.at_form rx
        replace q0 := (hb.cell (p := ⟨b, off + k * 5, none⟩) hbl).trans q0
        replace r0 := (hb.cell (p := ⟨b', off' + k * 5, none⟩) hbl').trans r0
        have r0' := cell_alloc r0
        replace q1 := (hb.cell (p := ⟨b, off + k * 5 + 1, none⟩) hbl).trans q1
        replace r1 := (hb.cell (p := ⟨b', off' + k * 5 + 1, none⟩) hbl').trans r1
        have r1' := cell_alloc r1
        replace q2 := (hb.cell (p := ⟨b, off + k * 5 + 2, none⟩) hbl).trans q2
        replace r2 := (hb.cell (p := ⟨b', off' + k * 5 + 2, none⟩) hbl').trans r2
        have r2' := cell_alloc r2
        replace q3 := (hb.cell (p := ⟨b, off + k * 5 + 3, none⟩) hbl).trans q3
        replace r3 := (hb.cell (p := ⟨b', off' + k * 5 + 3, none⟩) hbl').trans r3
        have r3' := cell_alloc r3
        replace q4 := (hb.cell (p := ⟨b, off + k * 5 + 4, none⟩) hbl).trans q4
        replace r4 := (hb.cell (p := ⟨b', off' + k * 5 + 4, none⟩) hbl').trans r4
        have r4' := cell_alloc r4
        have hbx : Below wr.heap.size wr ((wr.alloc (.cells #[.int .i64 ts[k].op, .string ts[k].atom.name, .slice z2 ts[k].atom.args.length n2, .string ts[k].v, .slice z4 ts[k].parts.length n4] 36)).alloc (.cells #[.int .i64 us[k].op, .string us[k].atom.name, .slice y2 us[k].atom.args.length m2, .string us[k].v, .slice y4 us[k].parts.length m4] 36)) := ((Below.refl _ _).alloc (Nat.le_refl _) _).alloc (by simp) _
        have hb2 := hb.trans (hbx.mono hb.size)
        have hs1 : ts[k].size ≤ Fm.sizes ts := Fm.size_mem (List.getElem_mem hlt)
        have hq := alpha1_of (HHH.out ts[k] (List.getElem_mem hlt)) (Fm.at_keep (Keeps.all hb2) qx) (Fm.at_keep (Keeps.all hb2) rx) (HXY.out.keep hb2) HSX.out.1 HSX.out.2 (HF.out.1 _ (List.getElem_mem hlt)) (HF.out.2 _ (List.getElem_mem hlt')) (HB.out.1 _ (List.getElem_mem hlt)) (HB.out.2 _ (List.getElem_mem hlt')) (by have := HXS.out.1; omega) (by have := HXS.out.2; omega)
        have HB2 := hid hb2
        clear hr hrr hr' hrr' qx rx hbx hb2 hs1
        go_wp2_with fail
        refine hq.mono ?_
        rintro e w2 ⟨_, rfl, hb3, rfl⟩
        have hb4 := HB2.out.trans (hb3.mono HB2.out.size)
        by_cases he : Fm.alpha ts[k] us[k] x y = true
        · have HZ : Hid (∀ j (h : j < ts.length) (h' : j < us.length), j < k + 1 → Fm.alpha ts[j] us[j] x y = true) := fun j h h' h0 => by
            by_cases hjk : j < k
            · exact HX.out j h h' hjk
            · obtain rfl : j = k := by omega
              exact he
          rw [he]
          clear he
          go_wp2_with fail
          go_roundw
          case rel => exact ⟨k + 1, by omega, by go_num, HZ, hb4⟩
          case measure => simp [intOf]; omega
        · replace he : Fm.alpha ts[k] us[k] x y = false := by simpa using he
          have HZ := hid (Fm.alphas_at hlt hlt' he)
          rw [he]
          clear he
          go_wp2_with fail
          go_ret
          exact Gives.mk (ret_bool HZ.out.symm) hb4
      · obtain rfl : k = ts.length := by omega
        have HY : Hid (Fm.alphas ts us x y = true) := (Fm.alphas_iff _ _ _ _).2 ⟨HL.out, fun j h h' => HX.out j h h' h⟩
        go_wp2_with fail
        go_ret
        exact Gives.mk (ret_bool HY.out.symm) hb
  · have HY : Hid (Fm.alphas ts us x y = false) := by rw [Hid, Bool.eq_false_iff]; intro e; exact hll ((Fm.alphas_iff _ _ _ _).1 e).1
    go_enter Try.func53, Try.ntmps53
    go_wp2_with fail
    go_ret
    exact Gives.mk (ret_bool HY.out.symm) (Below.refl _ _)
set_option maxHeartbeats 4000000 in
theorem alpha_of (t : Fm) (ih : ∀ p ∈ t.parts, AlphaI p) : AlphaI t := by
  intro u x y S c0 c1 c2 c3 c4 d0 d1 d2 d3 d4 vx vy w hT hU hx hy hsx hsy hft hfu hbt hbu hxs hys
  have HC := hid (Fm.alpha_eq t u x y)
  have hvt := Fm.v_le hT
  have hvu := Fm.v_le hU
  obtain ⟨xa, xc, rfl, hxl, -⟩ := slOf_form hx
  obtain ⟨ya, yc, rfl, hyl, -⟩ := slOf_form hy
  have HXR := hid hx
  have HYR := hid hy
  have HSX := hid hsx
  have HSY := hid hsy
  have hts := Fm.size_eq t
  have HT0 := hid hT
  have HU0 := hid hU
  clear hx hy hsx hsy
  unfold big at hxl hyl
  by_cases ho : t.op = u.op
  · have o1 : (t.op == u.op) = true := by simp [ho]
    have o2 : (t.op != u.op) = false := by simp [ho]
    by_cases h3 : t.op = 3
    · have HD : Hid (Fm.alpha t u x y = Tm.alpha x y t.atom u.atom) := by rw [Hid, HC.out, if_pos ho, if_pos h3]
      have t1 : (t.op == 3) = true := by simp [h3]
      have ha1 := Fm.atom_fine hft h3
      have ha2 := Fm.atom_fine hfu (ho ▸ h3)
      have HF := hid (And.intro (And.intro (Tm.atom_leafy ha1) (Tm.atom_leafy ha2)) (And.intro (Tm.atom_nicer ha1) (Tm.atom_nicer ha2)))
      clear ho h3 ha1 ha2
      obtain ⟨rfl, rfl, ⟨a, cap, rfl⟩, rfl, a2, cap2, rfl⟩ := Fm.at_form hT
      obtain ⟨rfl, rfl, ⟨a', cap', rfl⟩, rfl, a2', cap2', rfl⟩ := Fm.at_form hU
      have hW : Below w.heap.size w ((((w.alloc (.cells #[.int .i64 t.op, .string t.atom.name, .slice a t.atom.args.length cap, .string t.v, .slice a2 t.parts.length cap2] 36)).alloc (.cells #[.int .i64 u.op, .string u.atom.name, .slice a' u.atom.args.length cap', .string u.v, .slice a2' u.parts.length cap2'] 36)).alloc (.cells #[.slice xa x.length xc] 56)).alloc (.cells #[.slice ya y.length yc] 56)) := ((((Below.refl _ _).alloc (Nat.le_refl _) _).alloc (by simp) _).alloc (by simp; omega) _).alloc (by simp; omega) _
      have bT : Box ((((w.alloc (.cells #[.int .i64 t.op, .string t.atom.name, .slice a t.atom.args.length cap, .string t.v, .slice a2 t.parts.length cap2] 36)).alloc (.cells #[.int .i64 u.op, .string u.atom.name, .slice a' u.atom.args.length cap', .string u.v, .slice a2' u.parts.length cap2'] 36)).alloc (.cells #[.slice xa x.length xc] 56)).alloc (.cells #[.slice ya y.length yc] 56)) w.heap.size [.int .i64 t.op, .string t.atom.name, .slice a t.atom.args.length cap, .string t.v, .slice a2 t.parts.length cap2] := (((Box.new w _ _).alloc _).alloc _).alloc _
      have bU : Box ((((w.alloc (.cells #[.int .i64 t.op, .string t.atom.name, .slice a t.atom.args.length cap, .string t.v, .slice a2 t.parts.length cap2] 36)).alloc (.cells #[.int .i64 u.op, .string u.atom.name, .slice a' u.atom.args.length cap', .string u.v, .slice a2' u.parts.length cap2'] 36)).alloc (.cells #[.slice xa x.length xc] 56)).alloc (.cells #[.slice ya y.length yc] 56)) (w.heap.size + 1) [.int .i64 u.op, .string u.atom.name, .slice a' u.atom.args.length cap', .string u.v, .slice a2' u.parts.length cap2'] := by
        have := ((Box.new (w.alloc (.cells #[.int .i64 t.op, .string t.atom.name, .slice a t.atom.args.length cap, .string t.v, .slice a2 t.parts.length cap2] 36)) [.int .i64 u.op, .string u.atom.name, .slice a' u.atom.args.length cap', .string u.v, .slice a2' u.parts.length cap2'] 36).alloc (.cells #[.slice xa x.length xc] 56)).alloc (.cells #[.slice ya y.length yc] 56)
        simpa only [World.size_alloc] using this
      have bX : Box ((((w.alloc (.cells #[.int .i64 t.op, .string t.atom.name, .slice a t.atom.args.length cap, .string t.v, .slice a2 t.parts.length cap2] 36)).alloc (.cells #[.int .i64 u.op, .string u.atom.name, .slice a' u.atom.args.length cap', .string u.v, .slice a2' u.parts.length cap2'] 36)).alloc (.cells #[.slice xa x.length xc] 56)).alloc (.cells #[.slice ya y.length yc] 56)) (w.heap.size + 2) [.slice xa x.length xc] := by
        have := (Box.new ((w.alloc (.cells #[.int .i64 t.op, .string t.atom.name, .slice a t.atom.args.length cap, .string t.v, .slice a2 t.parts.length cap2] 36)).alloc (.cells #[.int .i64 u.op, .string u.atom.name, .slice a' u.atom.args.length cap', .string u.v, .slice a2' u.parts.length cap2'] 36)) [.slice xa x.length xc] 56).alloc (.cells #[.slice ya y.length yc] 56)
        simpa only [World.size_alloc] using this
      have bY : Box ((((w.alloc (.cells #[.int .i64 t.op, .string t.atom.name, .slice a t.atom.args.length cap, .string t.v, .slice a2 t.parts.length cap2] 36)).alloc (.cells #[.int .i64 u.op, .string u.atom.name, .slice a' u.atom.args.length cap', .string u.v, .slice a2' u.parts.length cap2'] 36)).alloc (.cells #[.slice xa x.length xc] 56)).alloc (.cells #[.slice ya y.length yc] 56)) (w.heap.size + 3) [.slice ya y.length yc] := by
        have := Box.new (((w.alloc (.cells #[.int .i64 t.op, .string t.atom.name, .slice a t.atom.args.length cap, .string t.v, .slice a2 t.parts.length cap2] 36)).alloc (.cells #[.int .i64 u.op, .string u.atom.name, .slice a' u.atom.args.length cap', .string u.v, .slice a2' u.parts.length cap2'] 36)).alloc (.cells #[.slice xa x.length xc] 56)) [.slice ya y.length yc] 56
        simpa only [World.size_alloc] using this
      have f6 : ((((w.alloc (.cells #[.int .i64 t.op, .string t.atom.name, .slice a t.atom.args.length cap, .string t.v, .slice a2 t.parts.length cap2] 36)).alloc (.cells #[.int .i64 u.op, .string u.atom.name, .slice a' u.atom.args.length cap', .string u.v, .slice a2' u.parts.length cap2'] 36)).alloc (.cells #[.slice xa x.length xc] 56)).alloc (.cells #[.slice ya y.length yc] 56)).frozen? ⟨w.heap.size + 2, 0, none⟩ = false := (World.frozen?_alloc_past _ _ 0 (by simp)).trans (World.frozen?_alloc_at _ _ _ 0 (by simp))
      have f7 : ((((w.alloc (.cells #[.int .i64 t.op, .string t.atom.name, .slice a t.atom.args.length cap, .string t.v, .slice a2 t.parts.length cap2] 36)).alloc (.cells #[.int .i64 u.op, .string u.atom.name, .slice a' u.atom.args.length cap', .string u.v, .slice a2' u.parts.length cap2'] 36)).alloc (.cells #[.slice xa x.length xc] 56)).alloc (.cells #[.slice ya y.length yc] 56)).frozen? ⟨w.heap.size + 3, 0, none⟩ = false := World.frozen?_alloc_at _ _ _ 0 (by simp)
      replace hT := Fm.at_keep (Keeps.all hW) hT
      replace hU := Fm.at_keep (Keeps.all hW) hU
      have HX0 := hid (D.rd_keep (Keeps.all hW) _ _ HXR.out)
      have HY0 := hid (D.rd_keep (Keeps.all hW) _ _ HYR.out)
      go_enter Try.func30, Try.ntmps30
      go_wp2_with fail
      generalize ((((w.alloc (.cells #[.int .i64 t.op, .string t.atom.name, .slice a t.atom.args.length cap, .string t.v, .slice a2 t.parts.length cap2] 36)).alloc (.cells #[.int .i64 u.op, .string u.atom.name, .slice a' u.atom.args.length cap', .string u.v, .slice a2' u.parts.length cap2'] 36)).alloc (.cells #[.slice xa x.length xc] 56)).alloc (.cells #[.slice ya y.length yc] 56)) = w0 at *
      refine (alphaTerms_any t.atom u.atom x y S _ _ _ _ _ _ _ (Fm.at_atom hT) (Fm.at_atom hU) HX0.out HY0.out HF.out.1.1 HF.out.1.2 HF.out.2.1 HF.out.2.2).mono ?_
      rintro e w1 ⟨_, rfl, hb, rfl⟩
      go_wp2_with fail
      go_ret
      exact Gives.mk (ret_bool HD.out.symm) (hW.trans (hb.mono hW.size))
    · have t1 : (t.op == 3) = false := by simp [h3]
      have HFT := hid (Fm.part_fine hft)
      have HFU := hid (Fm.part_fine hfu)
      have HBT : Hid (∀ p ∈ t.parts, p.bulk ≤ 1048576) := fun p hp => by have := Fm.bulk_mem hp; have := Fm.bulk_eq t; omega
      have HBU : Hid (∀ p ∈ u.parts, p.bulk ≤ 1048576) := fun p hp => by have := Fm.bulk_mem hp; have := Fm.bulk_eq u; omega
      by_cases hq : quantOp t.op = true
      · have HD : Hid (Fm.alpha t u x y = Fm.alphas t.parts u.parts (x ++ [t.v]) (y ++ [u.v])) := by rw [Hid, HC.out, if_pos ho, if_neg h3, if_pos hq]
        have HQ := hid hq
        clear ho h3 hq
        obtain ⟨rfl, rfl, ⟨a, cap, rfl⟩, rfl, a2, cap2, rfl⟩ := Fm.at_form hT
        obtain ⟨rfl, rfl, ⟨a', cap', rfl⟩, rfl, a2', cap2', rfl⟩ := Fm.at_form hU
        have hW : Below w.heap.size w ((((w.alloc (.cells #[.int .i64 t.op, .string t.atom.name, .slice a t.atom.args.length cap, .string t.v, .slice a2 t.parts.length cap2] 36)).alloc (.cells #[.int .i64 u.op, .string u.atom.name, .slice a' u.atom.args.length cap', .string u.v, .slice a2' u.parts.length cap2'] 36)).alloc (.cells #[.slice xa x.length xc] 56)).alloc (.cells #[.slice ya y.length yc] 56)) := ((((Below.refl _ _).alloc (Nat.le_refl _) _).alloc (by simp) _).alloc (by simp; omega) _).alloc (by simp; omega) _
        have bT : Box ((((w.alloc (.cells #[.int .i64 t.op, .string t.atom.name, .slice a t.atom.args.length cap, .string t.v, .slice a2 t.parts.length cap2] 36)).alloc (.cells #[.int .i64 u.op, .string u.atom.name, .slice a' u.atom.args.length cap', .string u.v, .slice a2' u.parts.length cap2'] 36)).alloc (.cells #[.slice xa x.length xc] 56)).alloc (.cells #[.slice ya y.length yc] 56)) w.heap.size [.int .i64 t.op, .string t.atom.name, .slice a t.atom.args.length cap, .string t.v, .slice a2 t.parts.length cap2] := (((Box.new w _ _).alloc _).alloc _).alloc _
        have bU : Box ((((w.alloc (.cells #[.int .i64 t.op, .string t.atom.name, .slice a t.atom.args.length cap, .string t.v, .slice a2 t.parts.length cap2] 36)).alloc (.cells #[.int .i64 u.op, .string u.atom.name, .slice a' u.atom.args.length cap', .string u.v, .slice a2' u.parts.length cap2'] 36)).alloc (.cells #[.slice xa x.length xc] 56)).alloc (.cells #[.slice ya y.length yc] 56)) (w.heap.size + 1) [.int .i64 u.op, .string u.atom.name, .slice a' u.atom.args.length cap', .string u.v, .slice a2' u.parts.length cap2'] := by
          have := ((Box.new (w.alloc (.cells #[.int .i64 t.op, .string t.atom.name, .slice a t.atom.args.length cap, .string t.v, .slice a2 t.parts.length cap2] 36)) [.int .i64 u.op, .string u.atom.name, .slice a' u.atom.args.length cap', .string u.v, .slice a2' u.parts.length cap2'] 36).alloc (.cells #[.slice xa x.length xc] 56)).alloc (.cells #[.slice ya y.length yc] 56)
          simpa only [World.size_alloc] using this
        have bX : Box ((((w.alloc (.cells #[.int .i64 t.op, .string t.atom.name, .slice a t.atom.args.length cap, .string t.v, .slice a2 t.parts.length cap2] 36)).alloc (.cells #[.int .i64 u.op, .string u.atom.name, .slice a' u.atom.args.length cap', .string u.v, .slice a2' u.parts.length cap2'] 36)).alloc (.cells #[.slice xa x.length xc] 56)).alloc (.cells #[.slice ya y.length yc] 56)) (w.heap.size + 2) [.slice xa x.length xc] := by
          have := (Box.new ((w.alloc (.cells #[.int .i64 t.op, .string t.atom.name, .slice a t.atom.args.length cap, .string t.v, .slice a2 t.parts.length cap2] 36)).alloc (.cells #[.int .i64 u.op, .string u.atom.name, .slice a' u.atom.args.length cap', .string u.v, .slice a2' u.parts.length cap2'] 36)) [.slice xa x.length xc] 56).alloc (.cells #[.slice ya y.length yc] 56)
          simpa only [World.size_alloc] using this
        have bY : Box ((((w.alloc (.cells #[.int .i64 t.op, .string t.atom.name, .slice a t.atom.args.length cap, .string t.v, .slice a2 t.parts.length cap2] 36)).alloc (.cells #[.int .i64 u.op, .string u.atom.name, .slice a' u.atom.args.length cap', .string u.v, .slice a2' u.parts.length cap2'] 36)).alloc (.cells #[.slice xa x.length xc] 56)).alloc (.cells #[.slice ya y.length yc] 56)) (w.heap.size + 3) [.slice ya y.length yc] := by
          have := Box.new (((w.alloc (.cells #[.int .i64 t.op, .string t.atom.name, .slice a t.atom.args.length cap, .string t.v, .slice a2 t.parts.length cap2] 36)).alloc (.cells #[.int .i64 u.op, .string u.atom.name, .slice a' u.atom.args.length cap', .string u.v, .slice a2' u.parts.length cap2'] 36)).alloc (.cells #[.slice xa x.length xc] 56)) [.slice ya y.length yc] 56
          simpa only [World.size_alloc] using this
        have f6 : ((((w.alloc (.cells #[.int .i64 t.op, .string t.atom.name, .slice a t.atom.args.length cap, .string t.v, .slice a2 t.parts.length cap2] 36)).alloc (.cells #[.int .i64 u.op, .string u.atom.name, .slice a' u.atom.args.length cap', .string u.v, .slice a2' u.parts.length cap2'] 36)).alloc (.cells #[.slice xa x.length xc] 56)).alloc (.cells #[.slice ya y.length yc] 56)).frozen? ⟨w.heap.size + 2, 0, none⟩ = false := (World.frozen?_alloc_past _ _ 0 (by simp)).trans (World.frozen?_alloc_at _ _ _ 0 (by simp))
        have f7 : ((((w.alloc (.cells #[.int .i64 t.op, .string t.atom.name, .slice a t.atom.args.length cap, .string t.v, .slice a2 t.parts.length cap2] 36)).alloc (.cells #[.int .i64 u.op, .string u.atom.name, .slice a' u.atom.args.length cap', .string u.v, .slice a2' u.parts.length cap2'] 36)).alloc (.cells #[.slice xa x.length xc] 56)).alloc (.cells #[.slice ya y.length yc] 56)).frozen? ⟨w.heap.size + 3, 0, none⟩ = false := World.frozen?_alloc_at _ _ _ 0 (by simp)
        replace hT := Fm.at_keep (Keeps.all hW) hT
        replace hU := Fm.at_keep (Keeps.all hW) hU
        have HX0 := hid (D.rd_keep (Keeps.all hW) _ _ HXR.out)
        have HY0 := hid (D.rd_keep (Keeps.all hW) _ _ HYR.out)
        go_enter Try.func30, Try.ntmps30
        go_wp2_with fail
        generalize ((((w.alloc (.cells #[.int .i64 t.op, .string t.atom.name, .slice a t.atom.args.length cap, .string t.v, .slice a2 t.parts.length cap2] 36)).alloc (.cells #[.int .i64 u.op, .string u.atom.name, .slice a' u.atom.args.length cap', .string u.v, .slice a2' u.parts.length cap2'] 36)).alloc (.cells #[.slice xa x.length xc] 56)).alloc (.cells #[.slice ya y.length yc] 56)) = w0 at *
        refine (isQuantifier_any _ _).mono ?_
        rintro e w4 ⟨rfl, rfl⟩
        rw [HQ.out]
        have eT0 := bT.c0
        have eT1 := bT.c1
        have eT2 := bT.c2
        have eT3 := bT.c3
        have eT4 := bT.c4
        have eU0 := bU.c0
        have eU1 := bU.c1
        have eU2 := bU.c2
        have eU3 := bU.c3
        have eU4 := bU.c4
        have lT := bT.lt
        have lU := bU.lt
        have eX0 := bX.c0
        have eY0 := bY.c0
        have lX := bX.lt
        have lY := bY.lt
        go_wp2_with fail
        have HBX := hid (And.intro bT (And.intro bU (And.intro bX bY)))
        go_cut [] from 27 (fun wc => AlEnd w [.int .i64 t.op, .string t.atom.name, .slice a t.atom.args.length cap, .string t.v, .slice a2 t.parts.length cap2] [.int .i64 u.op, .string u.atom.name, .slice a' u.atom.args.length cap', .string u.v, .slice a2' u.parts.length cap2'] (x ++ [t.v]) (y ++ [u.v]) wc)
        case first =>
          have HW := hid hW
          clear hT hU bT bU bX bY hW
          refine region_late (l := [_, _, _, _, _, _, _, _, _, _, _, _]) (tl := [_, _]) (S := fun w1 => w0.grownBy w1 none) (n := 12) rfl rfl (by kernel_rfl) (by kernel_rfl) (grown_of_below ((Below.refl _ _).drew) _) (fun hQL hS => ?_)
          refine late_take (i := 0) (d := some 27) (v := .slice xa x.length xc) rfl rfl (by kernel_rfl) (by kernel_rfl) (by kernel_rfl) hQL (by rfl) (fun w1 hS1 => (by obtain ⟨hc, hf⟩ := bcellG hS1; go_simp)) hS ?_
          try simp only [Act.put, List.setIfInBounds_toArray, List.set_cons_zero, List.set_cons_succ]
          refine late_take (i := 2) (d := some 29) (v := .pointer (some ⟨w.heap.size, 3, none⟩)) rfl rfl (by kernel_rfl) (by kernel_rfl) (by kernel_rfl) hQL (by rfl) (fun w1 _ => (by go_simp)) hS ?_
          try simp only [Act.put, List.setIfInBounds_toArray, List.set_cons_zero, List.set_cons_succ]
          refine late_take (i := 3) (d := some 30) (v := .string t.v) rfl rfl (by kernel_rfl) (by kernel_rfl) (by kernel_rfl) hQL (by rfl) (fun w1 hS1 => (by obtain ⟨hc, hf⟩ := bcellG hS1; go_simp)) hS ?_
          try simp only [Act.put, List.setIfInBounds_toArray, List.set_cons_zero, List.set_cons_succ]
          refine late_take (i := 6) (d := some 33) (v := .slice ya y.length yc) rfl rfl (by kernel_rfl) (by kernel_rfl) (by kernel_rfl) hQL (by rfl) (fun w1 hS1 => (by obtain ⟨hc, hf⟩ := bcellG hS1; go_simp)) hS ?_
          try simp only [Act.put, List.setIfInBounds_toArray, List.set_cons_zero, List.set_cons_succ]
          refine late_take (i := 8) (d := some 35) (v := .pointer (some ⟨w.heap.size + 1, 3, none⟩)) rfl rfl (by kernel_rfl) (by kernel_rfl) (by kernel_rfl) hQL (by rfl) (fun w1 _ => (by go_simp)) hS ?_
          try simp only [Act.put, List.setIfInBounds_toArray, List.set_cons_zero, List.set_cons_succ]
          refine late_take (i := 9) (d := some 36) (v := .string u.v) rfl rfl (by kernel_rfl) (by kernel_rfl) (by kernel_rfl) hQL (by rfl) (fun w1 hS1 => (by obtain ⟨hc, hf⟩ := bcellG hS1; go_simp)) hS ?_
          try simp only [Act.put, List.setIfInBounds_toArray, List.set_cons_zero, List.set_cons_succ]
          generalize w0.drew = wd at *
          refine wpAnyH_ready (rs := [1, 4, 10]) (by kernel_rfl) (by simp) ?_
          refine AllReadyH.cons rfl (fun K hK => ?_) ?_
          · refine step_does rfl ?_
            unfold Does
            go_simp
            go_at_call 52
            refine (clone_any (D.rd_keep (Keeps.all (below_grown0 hS)) _ _ HX0.out) HSX.out (by omega)).mono ?_
            rintro e w28 ⟨v28, rfl, hr, hb⟩
            refine ⟨_, rfl, ?_⟩
            refine hK.out _ _ (World.grownBy.trans hS (grown_of_below hb _)) (fun hS2 => ?_)
            have HA : Hid (Row w28 w0.heap.size v28 x) := hr.mono hS.size
            clear hr hb hS
            have hS := hS2
            clear hS2
            clear hK K
            try show wpAnyH _ _ _ _ _ _ _ (Act.put _ (some 28) _) _
            try simp only [Act.put, List.setIfInBounds_toArray, List.set_cons_zero, List.set_cons_succ]
            refine wpAnyH_ready (rs := [4, 10]) (by kernel_rfl) (by simp) ?_
            refine AllReadyH.cons rfl (fun K hK => ?_) ?_
            · go_simp
              have hb : Below w28.heap.size w28 (w28.alloc (.cells #[.string t.v] 9)) := (Below.refl _ _).alloc (Nat.le_refl _) _
              have hC0 := Cel.new w28 w0.heap.size t.v 9 hS.size
              refine hK.out _ _ (World.grownBy.trans hS (World.grownBy_alloc _ _ _)) (fun hS2 => ?_)
              have hAP := hid HA.out.ne_new
              replace HA := hid (HA.out.keep hb)
              have HP := hid hC0
              clear hb hC0 hS
              have hS := hS2
              clear hS2
              generalize w28.alloc (.cells #[.string t.v] 9) = w31 at *
              generalize w28.heap.size = p31 at *
              clear hK K
              try show wpAnyH _ _ _ _ _ _ _ (Act.put _ (some 31) _) _
              try simp only [Act.put, List.setIfInBounds_toArray, List.set_cons_zero, List.set_cons_succ]
              refine wpAnyH_ready (rs := [5, 10]) (by kernel_rfl) (by simp) ?_
              refine AllReadyH.cons rfl (fun K hK => ?_) ?_
              · refine step_append_str (B := w0.heap.size) (ss := x) (y := t.v) rfl (.tmp 28) (.tmp 31) rfl (by rfl) (by rfl) HA.out hvt HP.out.1 (by omega) hS.size ?_
                intro g32 c32 w32 hr hg hgo hlt
                refine hK.out _ _ (grown_trans hS hg (fun k hk => .inr (HA.out.lt k hk).1)) (fun hS2 => ?_)
                have HC := hid hr
                clear HA HP hr hg hgo hlt hS hAP
                have hS := hS2
                clear hS2
                clear hK K
                try show wpAnyH _ _ _ _ _ _ _ (Act.put _ (some 32) _) _
                try simp only [Act.put, List.setIfInBounds_toArray, List.set_cons_zero, List.set_cons_succ]
                refine wpAnyH_ready (rs := [7, 10]) (by kernel_rfl) (by simp) ?_
                refine AllReadyH.cons rfl (fun K hK => ?_) ?_
                · refine step_does rfl ?_
                  unfold Does
                  go_simp
                  go_at_call 52
                  refine (clone_any (D.rd_keep (Keeps.all (below_grown0 hS)) _ _ HY0.out) HSY.out (by omega)).mono ?_
                  rintro e w34 ⟨v34, rfl, hr, hb⟩
                  refine ⟨_, rfl, ?_⟩
                  refine hK.out _ _ (World.grownBy.trans hS (grown_of_below hb _)) (fun hS2 => ?_)
                  have HD : Hid (Row w34 w0.heap.size v34 y) := hr.mono hS.size
                  have hCD := hid (HC.out.ne_row hr)
                  replace HC := hid (HC.out.keep hb)
                  clear hr hb hS
                  have hS := hS2
                  clear hS2
                  clear hK K
                  try show wpAnyH _ _ _ _ _ _ _ (Act.put _ (some 34) _) _
                  try simp only [Act.put, List.setIfInBounds_toArray, List.set_cons_zero, List.set_cons_succ]
                  refine wpAnyH_ready (rs := [10]) (by kernel_rfl) (by simp) ?_
                  refine AllReadyH.cons rfl (fun K hK => ?_) ?_
                  · go_simp
                    have hb : Below w34.heap.size w34 (w34.alloc (.cells #[.string u.v] 9)) := (Below.refl _ _).alloc (Nat.le_refl _) _
                    have hC0 := Cel.new w34 w0.heap.size u.v 9 hS.size
                    refine hK.out _ _ (World.grownBy.trans hS (World.grownBy_alloc _ _ _)) (fun hS2 => ?_)
                    have hDQ := hid HD.out.ne_new
                    replace HC := hid (HC.out.keep hb)
                    replace HD := hid (HD.out.keep hb)
                    have HQ := hid hC0
                    clear hb hC0 hS
                    have hS := hS2
                    clear hS2
                    generalize w34.alloc (.cells #[.string u.v] 9) = w37 at *
                    generalize w34.heap.size = p37 at *
                    clear hK K
                    try show wpAnyH _ _ _ _ _ _ _ (Act.put _ (some 37) _) _
                    try simp only [Act.put, List.setIfInBounds_toArray, List.set_cons_zero, List.set_cons_succ]
                    refine wpAnyH_ready (rs := [11]) (by kernel_rfl) (by simp) ?_
                    refine AllReadyH.cons rfl (fun K hK => ?_) ?_
                    · refine step_append_str (B := w0.heap.size) (ss := y) (y := u.v) rfl (.tmp 34) (.tmp 37) rfl (by rfl) (by rfl) HD.out hvu HQ.out.1 (by omega) hS.size ?_
                      intro g38 c38 w38 hr hg hgo hlt
                      refine hK.out _ _ (grown_trans hS hg (fun k hk => .inr (HD.out.lt k hk).1)) (fun hS2 => ?_)
                      replace HC := hid (HC.out.kept hg hCD.out)
                      have HE := hid hr
                      clear HD HQ hr hg hgo hlt hS hDQ hCD
                      have hS := hS2
                      clear hS2
                      clear hK K
                      try show wpAnyH _ _ _ _ _ _ _ (Act.put _ (some 38) _) _
                      try simp only [Act.put, List.setIfInBounds_toArray, List.set_cons_zero, List.set_cons_succ]
                      refine wpAnyH_done (by kernel_rfl) ?_ _
                      show wpTail _ _ _ _ _
                      have z6 := ((bcellG hS).1 (w.heap.size + 2) 0 lX (by simp)).trans eX0
                      have z7 := ((bcellG hS).1 (w.heap.size + 3) 0 lY (by simp)).trans eY0
                      have g6 := ((bcellG hS).2 (w.heap.size + 2) 0 lX (by simp)).trans f6
                      have g7 := ((bcellG hS).2 (w.heap.size + 3) 0 lY (by simp)).trans f7
                      have z7b := (World.cell?_setCell_far w38 ⟨w.heap.size + 2, 0, none⟩ ⟨w.heap.size + 3, 0, none⟩ (.slice (some ⟨g32, 0, none⟩) (x.length + 1) c32) (by show w.heap.size + 2 ≠ w.heap.size + 3; omega)).trans z7
                      refine wpTail_step rfl (fun K hK => ?_)
                      go_simp
                      refine hK.out _ _ ?_
                      refine wpTail_step rfl (fun K hK => ?_)
                      go_simp
                      refine hK.out _ _ ?_
                      refine wpTail_nil ?_
                      go_wp2_with fail
                      go_meet
                      case rel => exact AlEnd.mk HW.out HBX.out.1 HBX.out.2.1 HBX.out.2.2.1 HBX.out.2.2.2 hS HC.out HE.out (by simp) (by simp)
                    exact AllReadyH.nil
                  exact AllReadyH.nil
                refine AllReadyH.cons rfl (fun K hK => ?_) ?_
                · go_simp
                  have hb : Below w32.heap.size w32 (w32.alloc (.cells #[.string u.v] 9)) := (Below.refl _ _).alloc (Nat.le_refl _) _
                  have hC0 := Cel.new w32 w0.heap.size u.v 9 hS.size
                  refine hK.out _ _ (World.grownBy.trans hS (World.grownBy_alloc _ _ _)) (fun hS2 => ?_)
                  replace HC := hid (HC.out.keep hb)
                  have HQ := hid hC0
                  clear hb hC0 hS
                  have hS := hS2
                  clear hS2
                  generalize w32.alloc (.cells #[.string u.v] 9) = w37 at *
                  generalize w32.heap.size = p37 at *
                  clear hK K
                  try show wpAnyH _ _ _ _ _ _ _ (Act.put _ (some 37) _) _
                  try simp only [Act.put, List.setIfInBounds_toArray, List.set_cons_zero, List.set_cons_succ]
                  refine wpAnyH_ready (rs := [7]) (by kernel_rfl) (by simp) ?_
                  refine AllReadyH.cons rfl (fun K hK => ?_) ?_
                  · refine step_does rfl ?_
                    unfold Does
                    go_simp
                    go_at_call 52
                    refine (clone_any (D.rd_keep (Keeps.all (below_grown0 hS)) _ _ HY0.out) HSY.out (by omega)).mono ?_
                    rintro e w34 ⟨v34, rfl, hr, hb⟩
                    refine ⟨_, rfl, ?_⟩
                    refine hK.out _ _ (World.grownBy.trans hS (grown_of_below hb _)) (fun hS2 => ?_)
                    have HD : Hid (Row w34 w0.heap.size v34 y) := hr.mono hS.size
                    have hDQ := hid (hr.ne_old HQ.out.2.2)
                    have hCD := hid (HC.out.ne_row hr)
                    replace HC := hid (HC.out.keep hb)
                    replace HQ := hid (HQ.out.keep hb)
                    clear hr hb hS
                    have hS := hS2
                    clear hS2
                    clear hK K
                    try show wpAnyH _ _ _ _ _ _ _ (Act.put _ (some 34) _) _
                    try simp only [Act.put, List.setIfInBounds_toArray, List.set_cons_zero, List.set_cons_succ]
                    refine wpAnyH_ready (rs := [11]) (by kernel_rfl) (by simp) ?_
                    refine AllReadyH.cons rfl (fun K hK => ?_) ?_
                    · refine step_append_str (B := w0.heap.size) (ss := y) (y := u.v) rfl (.tmp 34) (.tmp 37) rfl (by rfl) (by rfl) HD.out hvu HQ.out.1 (by omega) hS.size ?_
                      intro g38 c38 w38 hr hg hgo hlt
                      refine hK.out _ _ (grown_trans hS hg (fun k hk => .inr (HD.out.lt k hk).1)) (fun hS2 => ?_)
                      replace HC := hid (HC.out.kept hg hCD.out)
                      have HE := hid hr
                      clear HD HQ hr hg hgo hlt hS hDQ hCD
                      have hS := hS2
                      clear hS2
                      clear hK K
                      try show wpAnyH _ _ _ _ _ _ _ (Act.put _ (some 38) _) _
                      try simp only [Act.put, List.setIfInBounds_toArray, List.set_cons_zero, List.set_cons_succ]
                      refine wpAnyH_done (by kernel_rfl) ?_ _
                      show wpTail _ _ _ _ _
                      have z6 := ((bcellG hS).1 (w.heap.size + 2) 0 lX (by simp)).trans eX0
                      have z7 := ((bcellG hS).1 (w.heap.size + 3) 0 lY (by simp)).trans eY0
                      have g6 := ((bcellG hS).2 (w.heap.size + 2) 0 lX (by simp)).trans f6
                      have g7 := ((bcellG hS).2 (w.heap.size + 3) 0 lY (by simp)).trans f7
                      have z7b := (World.cell?_setCell_far w38 ⟨w.heap.size + 2, 0, none⟩ ⟨w.heap.size + 3, 0, none⟩ (.slice (some ⟨g32, 0, none⟩) (x.length + 1) c32) (by show w.heap.size + 2 ≠ w.heap.size + 3; omega)).trans z7
                      refine wpTail_step rfl (fun K hK => ?_)
                      go_simp
                      refine hK.out _ _ ?_
                      refine wpTail_step rfl (fun K hK => ?_)
                      go_simp
                      refine hK.out _ _ ?_
                      refine wpTail_nil ?_
                      go_wp2_with fail
                      go_meet
                      case rel => exact AlEnd.mk HW.out HBX.out.1 HBX.out.2.1 HBX.out.2.2.1 HBX.out.2.2.2 hS HC.out HE.out (by simp) (by simp)
                    exact AllReadyH.nil
                  exact AllReadyH.nil
                exact AllReadyH.nil
              refine AllReadyH.cons rfl (fun K hK => ?_) ?_
              · go_simp
                have hb : Below w31.heap.size w31 (w31.alloc (.cells #[.string u.v] 9)) := (Below.refl _ _).alloc (Nat.le_refl _) _
                have hC0 := Cel.new w31 w0.heap.size u.v 9 hS.size
                refine hK.out _ _ (World.grownBy.trans hS (World.grownBy_alloc _ _ _)) (fun hS2 => ?_)
                have hAQ := hid HA.out.ne_new
                replace HA := hid (HA.out.keep hb)
                replace HP := hid (HP.out.keep hb)
                have HQ := hid hC0
                clear hb hC0 hS
                have hS := hS2
                clear hS2
                generalize w31.alloc (.cells #[.string u.v] 9) = w37 at *
                generalize w31.heap.size = p37 at *
                clear hK K
                try show wpAnyH _ _ _ _ _ _ _ (Act.put _ (some 37) _) _
                try simp only [Act.put, List.setIfInBounds_toArray, List.set_cons_zero, List.set_cons_succ]
                refine wpAnyH_ready (rs := [5]) (by kernel_rfl) (by simp) ?_
                refine AllReadyH.cons rfl (fun K hK => ?_) ?_
                · refine step_append_str (B := w0.heap.size) (ss := x) (y := t.v) rfl (.tmp 28) (.tmp 31) rfl (by rfl) (by rfl) HA.out hvt HP.out.1 (by omega) hS.size ?_
                  intro g32 c32 w32 hr hg hgo hlt
                  refine hK.out _ _ (grown_trans hS hg (fun k hk => .inr (HA.out.lt k hk).1)) (fun hS2 => ?_)
                  replace HQ := hid (HQ.out.grown hg hAQ.out)
                  have HC := hid hr
                  clear HA HP hr hg hgo hlt hS hAP hAQ
                  have hS := hS2
                  clear hS2
                  clear hK K
                  try show wpAnyH _ _ _ _ _ _ _ (Act.put _ (some 32) _) _
                  try simp only [Act.put, List.setIfInBounds_toArray, List.set_cons_zero, List.set_cons_succ]
                  refine wpAnyH_ready (rs := [7]) (by kernel_rfl) (by simp) ?_
                  refine AllReadyH.cons rfl (fun K hK => ?_) ?_
                  · refine step_does rfl ?_
                    unfold Does
                    go_simp
                    go_at_call 52
                    refine (clone_any (D.rd_keep (Keeps.all (below_grown0 hS)) _ _ HY0.out) HSY.out (by omega)).mono ?_
                    rintro e w34 ⟨v34, rfl, hr, hb⟩
                    refine ⟨_, rfl, ?_⟩
                    refine hK.out _ _ (World.grownBy.trans hS (grown_of_below hb _)) (fun hS2 => ?_)
                    have HD : Hid (Row w34 w0.heap.size v34 y) := hr.mono hS.size
                    have hDQ := hid (hr.ne_old HQ.out.2.2)
                    have hCD := hid (HC.out.ne_row hr)
                    replace HQ := hid (HQ.out.keep hb)
                    replace HC := hid (HC.out.keep hb)
                    clear hr hb hS
                    have hS := hS2
                    clear hS2
                    clear hK K
                    try show wpAnyH _ _ _ _ _ _ _ (Act.put _ (some 34) _) _
                    try simp only [Act.put, List.setIfInBounds_toArray, List.set_cons_zero, List.set_cons_succ]
                    refine wpAnyH_ready (rs := [11]) (by kernel_rfl) (by simp) ?_
                    refine AllReadyH.cons rfl (fun K hK => ?_) ?_
                    · refine step_append_str (B := w0.heap.size) (ss := y) (y := u.v) rfl (.tmp 34) (.tmp 37) rfl (by rfl) (by rfl) HD.out hvu HQ.out.1 (by omega) hS.size ?_
                      intro g38 c38 w38 hr hg hgo hlt
                      refine hK.out _ _ (grown_trans hS hg (fun k hk => .inr (HD.out.lt k hk).1)) (fun hS2 => ?_)
                      replace HC := hid (HC.out.kept hg hCD.out)
                      have HE := hid hr
                      clear HD HQ hr hg hgo hlt hS hDQ hCD
                      have hS := hS2
                      clear hS2
                      clear hK K
                      try show wpAnyH _ _ _ _ _ _ _ (Act.put _ (some 38) _) _
                      try simp only [Act.put, List.setIfInBounds_toArray, List.set_cons_zero, List.set_cons_succ]
                      refine wpAnyH_done (by kernel_rfl) ?_ _
                      show wpTail _ _ _ _ _
                      have z6 := ((bcellG hS).1 (w.heap.size + 2) 0 lX (by simp)).trans eX0
                      have z7 := ((bcellG hS).1 (w.heap.size + 3) 0 lY (by simp)).trans eY0
                      have g6 := ((bcellG hS).2 (w.heap.size + 2) 0 lX (by simp)).trans f6
                      have g7 := ((bcellG hS).2 (w.heap.size + 3) 0 lY (by simp)).trans f7
                      have z7b := (World.cell?_setCell_far w38 ⟨w.heap.size + 2, 0, none⟩ ⟨w.heap.size + 3, 0, none⟩ (.slice (some ⟨g32, 0, none⟩) (x.length + 1) c32) (by show w.heap.size + 2 ≠ w.heap.size + 3; omega)).trans z7
                      refine wpTail_step rfl (fun K hK => ?_)
                      go_simp
                      refine hK.out _ _ ?_
                      refine wpTail_step rfl (fun K hK => ?_)
                      go_simp
                      refine hK.out _ _ ?_
                      refine wpTail_nil ?_
                      go_wp2_with fail
                      go_meet
                      case rel => exact AlEnd.mk HW.out HBX.out.1 HBX.out.2.1 HBX.out.2.2.1 HBX.out.2.2.2 hS HC.out HE.out (by simp) (by simp)
                    exact AllReadyH.nil
                  exact AllReadyH.nil
                exact AllReadyH.nil
              exact AllReadyH.nil
            refine AllReadyH.cons rfl (fun K hK => ?_) ?_
            · go_simp
              have hb : Below w28.heap.size w28 (w28.alloc (.cells #[.string u.v] 9)) := (Below.refl _ _).alloc (Nat.le_refl _) _
              have hC0 := Cel.new w28 w0.heap.size u.v 9 hS.size
              refine hK.out _ _ (World.grownBy.trans hS (World.grownBy_alloc _ _ _)) (fun hS2 => ?_)
              have hAQ := hid HA.out.ne_new
              replace HA := hid (HA.out.keep hb)
              have HQ := hid hC0
              clear hb hC0 hS
              have hS := hS2
              clear hS2
              generalize w28.alloc (.cells #[.string u.v] 9) = w37 at *
              generalize w28.heap.size = p37 at *
              clear hK K
              try show wpAnyH _ _ _ _ _ _ _ (Act.put _ (some 37) _) _
              try simp only [Act.put, List.setIfInBounds_toArray, List.set_cons_zero, List.set_cons_succ]
              refine wpAnyH_ready (rs := [4]) (by kernel_rfl) (by simp) ?_
              refine AllReadyH.cons rfl (fun K hK => ?_) ?_
              · go_simp
                have hb : Below w37.heap.size w37 (w37.alloc (.cells #[.string t.v] 9)) := (Below.refl _ _).alloc (Nat.le_refl _) _
                have hC0 := Cel.new w37 w0.heap.size t.v 9 hS.size
                refine hK.out _ _ (World.grownBy.trans hS (World.grownBy_alloc _ _ _)) (fun hS2 => ?_)
                have hAP := hid HA.out.ne_new
                replace HA := hid (HA.out.keep hb)
                replace HQ := hid (HQ.out.keep hb)
                have HP := hid hC0
                clear hb hC0 hS
                have hS := hS2
                clear hS2
                generalize w37.alloc (.cells #[.string t.v] 9) = w31 at *
                generalize w37.heap.size = p31 at *
                clear hK K
                try show wpAnyH _ _ _ _ _ _ _ (Act.put _ (some 31) _) _
                try simp only [Act.put, List.setIfInBounds_toArray, List.set_cons_zero, List.set_cons_succ]
                refine wpAnyH_ready (rs := [5]) (by kernel_rfl) (by simp) ?_
                refine AllReadyH.cons rfl (fun K hK => ?_) ?_
                · refine step_append_str (B := w0.heap.size) (ss := x) (y := t.v) rfl (.tmp 28) (.tmp 31) rfl (by rfl) (by rfl) HA.out hvt HP.out.1 (by omega) hS.size ?_
                  intro g32 c32 w32 hr hg hgo hlt
                  refine hK.out _ _ (grown_trans hS hg (fun k hk => .inr (HA.out.lt k hk).1)) (fun hS2 => ?_)
                  replace HQ := hid (HQ.out.grown hg hAQ.out)
                  have HC := hid hr
                  clear HA HP hr hg hgo hlt hS hAP hAQ
                  have hS := hS2
                  clear hS2
                  clear hK K
                  try show wpAnyH _ _ _ _ _ _ _ (Act.put _ (some 32) _) _
                  try simp only [Act.put, List.setIfInBounds_toArray, List.set_cons_zero, List.set_cons_succ]
                  refine wpAnyH_ready (rs := [7]) (by kernel_rfl) (by simp) ?_
                  refine AllReadyH.cons rfl (fun K hK => ?_) ?_
                  · refine step_does rfl ?_
                    unfold Does
                    go_simp
                    go_at_call 52
                    refine (clone_any (D.rd_keep (Keeps.all (below_grown0 hS)) _ _ HY0.out) HSY.out (by omega)).mono ?_
                    rintro e w34 ⟨v34, rfl, hr, hb⟩
                    refine ⟨_, rfl, ?_⟩
                    refine hK.out _ _ (World.grownBy.trans hS (grown_of_below hb _)) (fun hS2 => ?_)
                    have HD : Hid (Row w34 w0.heap.size v34 y) := hr.mono hS.size
                    have hDQ := hid (hr.ne_old HQ.out.2.2)
                    have hCD := hid (HC.out.ne_row hr)
                    replace HQ := hid (HQ.out.keep hb)
                    replace HC := hid (HC.out.keep hb)
                    clear hr hb hS
                    have hS := hS2
                    clear hS2
                    clear hK K
                    try show wpAnyH _ _ _ _ _ _ _ (Act.put _ (some 34) _) _
                    try simp only [Act.put, List.setIfInBounds_toArray, List.set_cons_zero, List.set_cons_succ]
                    refine wpAnyH_ready (rs := [11]) (by kernel_rfl) (by simp) ?_
                    refine AllReadyH.cons rfl (fun K hK => ?_) ?_
                    · refine step_append_str (B := w0.heap.size) (ss := y) (y := u.v) rfl (.tmp 34) (.tmp 37) rfl (by rfl) (by rfl) HD.out hvu HQ.out.1 (by omega) hS.size ?_
                      intro g38 c38 w38 hr hg hgo hlt
                      refine hK.out _ _ (grown_trans hS hg (fun k hk => .inr (HD.out.lt k hk).1)) (fun hS2 => ?_)
                      replace HC := hid (HC.out.kept hg hCD.out)
                      have HE := hid hr
                      clear HD HQ hr hg hgo hlt hS hDQ hCD
                      have hS := hS2
                      clear hS2
                      clear hK K
                      try show wpAnyH _ _ _ _ _ _ _ (Act.put _ (some 38) _) _
                      try simp only [Act.put, List.setIfInBounds_toArray, List.set_cons_zero, List.set_cons_succ]
                      refine wpAnyH_done (by kernel_rfl) ?_ _
                      show wpTail _ _ _ _ _
                      have z6 := ((bcellG hS).1 (w.heap.size + 2) 0 lX (by simp)).trans eX0
                      have z7 := ((bcellG hS).1 (w.heap.size + 3) 0 lY (by simp)).trans eY0
                      have g6 := ((bcellG hS).2 (w.heap.size + 2) 0 lX (by simp)).trans f6
                      have g7 := ((bcellG hS).2 (w.heap.size + 3) 0 lY (by simp)).trans f7
                      have z7b := (World.cell?_setCell_far w38 ⟨w.heap.size + 2, 0, none⟩ ⟨w.heap.size + 3, 0, none⟩ (.slice (some ⟨g32, 0, none⟩) (x.length + 1) c32) (by show w.heap.size + 2 ≠ w.heap.size + 3; omega)).trans z7
                      refine wpTail_step rfl (fun K hK => ?_)
                      go_simp
                      refine hK.out _ _ ?_
                      refine wpTail_step rfl (fun K hK => ?_)
                      go_simp
                      refine hK.out _ _ ?_
                      refine wpTail_nil ?_
                      go_wp2_with fail
                      go_meet
                      case rel => exact AlEnd.mk HW.out HBX.out.1 HBX.out.2.1 HBX.out.2.2.1 HBX.out.2.2.2 hS HC.out HE.out (by simp) (by simp)
                    exact AllReadyH.nil
                  exact AllReadyH.nil
                exact AllReadyH.nil
              exact AllReadyH.nil
            exact AllReadyH.nil
          refine AllReadyH.cons rfl (fun K hK => ?_) ?_
          · go_simp
            have hb : Below wd.heap.size wd (wd.alloc (.cells #[.string t.v] 9)) := (Below.refl _ _).alloc (Nat.le_refl _) _
            have hC0 := Cel.new wd w0.heap.size t.v 9 hS.size
            refine hK.out _ _ (World.grownBy.trans hS (World.grownBy_alloc _ _ _)) (fun hS2 => ?_)
            have HP := hid hC0
            clear hb hC0 hS
            have hS := hS2
            clear hS2
            generalize wd.alloc (.cells #[.string t.v] 9) = w31 at *
            generalize wd.heap.size = p31 at *
            clear hK K
            try show wpAnyH _ _ _ _ _ _ _ (Act.put _ (some 31) _) _
            try simp only [Act.put, List.setIfInBounds_toArray, List.set_cons_zero, List.set_cons_succ]
            refine wpAnyH_ready (rs := [1, 10]) (by kernel_rfl) (by simp) ?_
            refine AllReadyH.cons rfl (fun K hK => ?_) ?_
            · refine step_does rfl ?_
              unfold Does
              go_simp
              go_at_call 52
              refine (clone_any (D.rd_keep (Keeps.all (below_grown0 hS)) _ _ HX0.out) HSX.out (by omega)).mono ?_
              rintro e w28 ⟨v28, rfl, hr, hb⟩
              refine ⟨_, rfl, ?_⟩
              refine hK.out _ _ (World.grownBy.trans hS (grown_of_below hb _)) (fun hS2 => ?_)
              have HA : Hid (Row w28 w0.heap.size v28 x) := hr.mono hS.size
              have hAP := hid (hr.ne_old HP.out.2.2)
              replace HP := hid (HP.out.keep hb)
              clear hr hb hS
              have hS := hS2
              clear hS2
              clear hK K
              try show wpAnyH _ _ _ _ _ _ _ (Act.put _ (some 28) _) _
              try simp only [Act.put, List.setIfInBounds_toArray, List.set_cons_zero, List.set_cons_succ]
              refine wpAnyH_ready (rs := [5, 10]) (by kernel_rfl) (by simp) ?_
              refine AllReadyH.cons rfl (fun K hK => ?_) ?_
              · refine step_append_str (B := w0.heap.size) (ss := x) (y := t.v) rfl (.tmp 28) (.tmp 31) rfl (by rfl) (by rfl) HA.out hvt HP.out.1 (by omega) hS.size ?_
                intro g32 c32 w32 hr hg hgo hlt
                refine hK.out _ _ (grown_trans hS hg (fun k hk => .inr (HA.out.lt k hk).1)) (fun hS2 => ?_)
                have HC := hid hr
                clear HA HP hr hg hgo hlt hS hAP
                have hS := hS2
                clear hS2
                clear hK K
                try show wpAnyH _ _ _ _ _ _ _ (Act.put _ (some 32) _) _
                try simp only [Act.put, List.setIfInBounds_toArray, List.set_cons_zero, List.set_cons_succ]
                refine wpAnyH_ready (rs := [7, 10]) (by kernel_rfl) (by simp) ?_
                refine AllReadyH.cons rfl (fun K hK => ?_) ?_
                · refine step_does rfl ?_
                  unfold Does
                  go_simp
                  go_at_call 52
                  refine (clone_any (D.rd_keep (Keeps.all (below_grown0 hS)) _ _ HY0.out) HSY.out (by omega)).mono ?_
                  rintro e w34 ⟨v34, rfl, hr, hb⟩
                  refine ⟨_, rfl, ?_⟩
                  refine hK.out _ _ (World.grownBy.trans hS (grown_of_below hb _)) (fun hS2 => ?_)
                  have HD : Hid (Row w34 w0.heap.size v34 y) := hr.mono hS.size
                  have hCD := hid (HC.out.ne_row hr)
                  replace HC := hid (HC.out.keep hb)
                  clear hr hb hS
                  have hS := hS2
                  clear hS2
                  clear hK K
                  try show wpAnyH _ _ _ _ _ _ _ (Act.put _ (some 34) _) _
                  try simp only [Act.put, List.setIfInBounds_toArray, List.set_cons_zero, List.set_cons_succ]
                  refine wpAnyH_ready (rs := [10]) (by kernel_rfl) (by simp) ?_
                  refine AllReadyH.cons rfl (fun K hK => ?_) ?_
                  · go_simp
                    have hb : Below w34.heap.size w34 (w34.alloc (.cells #[.string u.v] 9)) := (Below.refl _ _).alloc (Nat.le_refl _) _
                    have hC0 := Cel.new w34 w0.heap.size u.v 9 hS.size
                    refine hK.out _ _ (World.grownBy.trans hS (World.grownBy_alloc _ _ _)) (fun hS2 => ?_)
                    have hDQ := hid HD.out.ne_new
                    replace HC := hid (HC.out.keep hb)
                    replace HD := hid (HD.out.keep hb)
                    have HQ := hid hC0
                    clear hb hC0 hS
                    have hS := hS2
                    clear hS2
                    generalize w34.alloc (.cells #[.string u.v] 9) = w37 at *
                    generalize w34.heap.size = p37 at *
                    clear hK K
                    try show wpAnyH _ _ _ _ _ _ _ (Act.put _ (some 37) _) _
                    try simp only [Act.put, List.setIfInBounds_toArray, List.set_cons_zero, List.set_cons_succ]
                    refine wpAnyH_ready (rs := [11]) (by kernel_rfl) (by simp) ?_
                    refine AllReadyH.cons rfl (fun K hK => ?_) ?_
                    · refine step_append_str (B := w0.heap.size) (ss := y) (y := u.v) rfl (.tmp 34) (.tmp 37) rfl (by rfl) (by rfl) HD.out hvu HQ.out.1 (by omega) hS.size ?_
                      intro g38 c38 w38 hr hg hgo hlt
                      refine hK.out _ _ (grown_trans hS hg (fun k hk => .inr (HD.out.lt k hk).1)) (fun hS2 => ?_)
                      replace HC := hid (HC.out.kept hg hCD.out)
                      have HE := hid hr
                      clear HD HQ hr hg hgo hlt hS hDQ hCD
                      have hS := hS2
                      clear hS2
                      clear hK K
                      try show wpAnyH _ _ _ _ _ _ _ (Act.put _ (some 38) _) _
                      try simp only [Act.put, List.setIfInBounds_toArray, List.set_cons_zero, List.set_cons_succ]
                      refine wpAnyH_done (by kernel_rfl) ?_ _
                      show wpTail _ _ _ _ _
                      have z6 := ((bcellG hS).1 (w.heap.size + 2) 0 lX (by simp)).trans eX0
                      have z7 := ((bcellG hS).1 (w.heap.size + 3) 0 lY (by simp)).trans eY0
                      have g6 := ((bcellG hS).2 (w.heap.size + 2) 0 lX (by simp)).trans f6
                      have g7 := ((bcellG hS).2 (w.heap.size + 3) 0 lY (by simp)).trans f7
                      have z7b := (World.cell?_setCell_far w38 ⟨w.heap.size + 2, 0, none⟩ ⟨w.heap.size + 3, 0, none⟩ (.slice (some ⟨g32, 0, none⟩) (x.length + 1) c32) (by show w.heap.size + 2 ≠ w.heap.size + 3; omega)).trans z7
                      refine wpTail_step rfl (fun K hK => ?_)
                      go_simp
                      refine hK.out _ _ ?_
                      refine wpTail_step rfl (fun K hK => ?_)
                      go_simp
                      refine hK.out _ _ ?_
                      refine wpTail_nil ?_
                      go_wp2_with fail
                      go_meet
                      case rel => exact AlEnd.mk HW.out HBX.out.1 HBX.out.2.1 HBX.out.2.2.1 HBX.out.2.2.2 hS HC.out HE.out (by simp) (by simp)
                    exact AllReadyH.nil
                  exact AllReadyH.nil
                refine AllReadyH.cons rfl (fun K hK => ?_) ?_
                · go_simp
                  have hb : Below w32.heap.size w32 (w32.alloc (.cells #[.string u.v] 9)) := (Below.refl _ _).alloc (Nat.le_refl _) _
                  have hC0 := Cel.new w32 w0.heap.size u.v 9 hS.size
                  refine hK.out _ _ (World.grownBy.trans hS (World.grownBy_alloc _ _ _)) (fun hS2 => ?_)
                  replace HC := hid (HC.out.keep hb)
                  have HQ := hid hC0
                  clear hb hC0 hS
                  have hS := hS2
                  clear hS2
                  generalize w32.alloc (.cells #[.string u.v] 9) = w37 at *
                  generalize w32.heap.size = p37 at *
                  clear hK K
                  try show wpAnyH _ _ _ _ _ _ _ (Act.put _ (some 37) _) _
                  try simp only [Act.put, List.setIfInBounds_toArray, List.set_cons_zero, List.set_cons_succ]
                  refine wpAnyH_ready (rs := [7]) (by kernel_rfl) (by simp) ?_
                  refine AllReadyH.cons rfl (fun K hK => ?_) ?_
                  · refine step_does rfl ?_
                    unfold Does
                    go_simp
                    go_at_call 52
                    refine (clone_any (D.rd_keep (Keeps.all (below_grown0 hS)) _ _ HY0.out) HSY.out (by omega)).mono ?_
                    rintro e w34 ⟨v34, rfl, hr, hb⟩
                    refine ⟨_, rfl, ?_⟩
                    refine hK.out _ _ (World.grownBy.trans hS (grown_of_below hb _)) (fun hS2 => ?_)
                    have HD : Hid (Row w34 w0.heap.size v34 y) := hr.mono hS.size
                    have hDQ := hid (hr.ne_old HQ.out.2.2)
                    have hCD := hid (HC.out.ne_row hr)
                    replace HC := hid (HC.out.keep hb)
                    replace HQ := hid (HQ.out.keep hb)
                    clear hr hb hS
                    have hS := hS2
                    clear hS2
                    clear hK K
                    try show wpAnyH _ _ _ _ _ _ _ (Act.put _ (some 34) _) _
                    try simp only [Act.put, List.setIfInBounds_toArray, List.set_cons_zero, List.set_cons_succ]
                    refine wpAnyH_ready (rs := [11]) (by kernel_rfl) (by simp) ?_
                    refine AllReadyH.cons rfl (fun K hK => ?_) ?_
                    · refine step_append_str (B := w0.heap.size) (ss := y) (y := u.v) rfl (.tmp 34) (.tmp 37) rfl (by rfl) (by rfl) HD.out hvu HQ.out.1 (by omega) hS.size ?_
                      intro g38 c38 w38 hr hg hgo hlt
                      refine hK.out _ _ (grown_trans hS hg (fun k hk => .inr (HD.out.lt k hk).1)) (fun hS2 => ?_)
                      replace HC := hid (HC.out.kept hg hCD.out)
                      have HE := hid hr
                      clear HD HQ hr hg hgo hlt hS hDQ hCD
                      have hS := hS2
                      clear hS2
                      clear hK K
                      try show wpAnyH _ _ _ _ _ _ _ (Act.put _ (some 38) _) _
                      try simp only [Act.put, List.setIfInBounds_toArray, List.set_cons_zero, List.set_cons_succ]
                      refine wpAnyH_done (by kernel_rfl) ?_ _
                      show wpTail _ _ _ _ _
                      have z6 := ((bcellG hS).1 (w.heap.size + 2) 0 lX (by simp)).trans eX0
                      have z7 := ((bcellG hS).1 (w.heap.size + 3) 0 lY (by simp)).trans eY0
                      have g6 := ((bcellG hS).2 (w.heap.size + 2) 0 lX (by simp)).trans f6
                      have g7 := ((bcellG hS).2 (w.heap.size + 3) 0 lY (by simp)).trans f7
                      have z7b := (World.cell?_setCell_far w38 ⟨w.heap.size + 2, 0, none⟩ ⟨w.heap.size + 3, 0, none⟩ (.slice (some ⟨g32, 0, none⟩) (x.length + 1) c32) (by show w.heap.size + 2 ≠ w.heap.size + 3; omega)).trans z7
                      refine wpTail_step rfl (fun K hK => ?_)
                      go_simp
                      refine hK.out _ _ ?_
                      refine wpTail_step rfl (fun K hK => ?_)
                      go_simp
                      refine hK.out _ _ ?_
                      refine wpTail_nil ?_
                      go_wp2_with fail
                      go_meet
                      case rel => exact AlEnd.mk HW.out HBX.out.1 HBX.out.2.1 HBX.out.2.2.1 HBX.out.2.2.2 hS HC.out HE.out (by simp) (by simp)
                    exact AllReadyH.nil
                  exact AllReadyH.nil
                exact AllReadyH.nil
              refine AllReadyH.cons rfl (fun K hK => ?_) ?_
              · go_simp
                have hb : Below w28.heap.size w28 (w28.alloc (.cells #[.string u.v] 9)) := (Below.refl _ _).alloc (Nat.le_refl _) _
                have hC0 := Cel.new w28 w0.heap.size u.v 9 hS.size
                refine hK.out _ _ (World.grownBy.trans hS (World.grownBy_alloc _ _ _)) (fun hS2 => ?_)
                have hAQ := hid HA.out.ne_new
                replace HP := hid (HP.out.keep hb)
                replace HA := hid (HA.out.keep hb)
                have HQ := hid hC0
                clear hb hC0 hS
                have hS := hS2
                clear hS2
                generalize w28.alloc (.cells #[.string u.v] 9) = w37 at *
                generalize w28.heap.size = p37 at *
                clear hK K
                try show wpAnyH _ _ _ _ _ _ _ (Act.put _ (some 37) _) _
                try simp only [Act.put, List.setIfInBounds_toArray, List.set_cons_zero, List.set_cons_succ]
                refine wpAnyH_ready (rs := [5]) (by kernel_rfl) (by simp) ?_
                refine AllReadyH.cons rfl (fun K hK => ?_) ?_
                · refine step_append_str (B := w0.heap.size) (ss := x) (y := t.v) rfl (.tmp 28) (.tmp 31) rfl (by rfl) (by rfl) HA.out hvt HP.out.1 (by omega) hS.size ?_
                  intro g32 c32 w32 hr hg hgo hlt
                  refine hK.out _ _ (grown_trans hS hg (fun k hk => .inr (HA.out.lt k hk).1)) (fun hS2 => ?_)
                  replace HQ := hid (HQ.out.grown hg hAQ.out)
                  have HC := hid hr
                  clear HA HP hr hg hgo hlt hS hAP hAQ
                  have hS := hS2
                  clear hS2
                  clear hK K
                  try show wpAnyH _ _ _ _ _ _ _ (Act.put _ (some 32) _) _
                  try simp only [Act.put, List.setIfInBounds_toArray, List.set_cons_zero, List.set_cons_succ]
                  refine wpAnyH_ready (rs := [7]) (by kernel_rfl) (by simp) ?_
                  refine AllReadyH.cons rfl (fun K hK => ?_) ?_
                  · refine step_does rfl ?_
                    unfold Does
                    go_simp
                    go_at_call 52
                    refine (clone_any (D.rd_keep (Keeps.all (below_grown0 hS)) _ _ HY0.out) HSY.out (by omega)).mono ?_
                    rintro e w34 ⟨v34, rfl, hr, hb⟩
                    refine ⟨_, rfl, ?_⟩
                    refine hK.out _ _ (World.grownBy.trans hS (grown_of_below hb _)) (fun hS2 => ?_)
                    have HD : Hid (Row w34 w0.heap.size v34 y) := hr.mono hS.size
                    have hDQ := hid (hr.ne_old HQ.out.2.2)
                    have hCD := hid (HC.out.ne_row hr)
                    replace HQ := hid (HQ.out.keep hb)
                    replace HC := hid (HC.out.keep hb)
                    clear hr hb hS
                    have hS := hS2
                    clear hS2
                    clear hK K
                    try show wpAnyH _ _ _ _ _ _ _ (Act.put _ (some 34) _) _
                    try simp only [Act.put, List.setIfInBounds_toArray, List.set_cons_zero, List.set_cons_succ]
                    refine wpAnyH_ready (rs := [11]) (by kernel_rfl) (by simp) ?_
                    refine AllReadyH.cons rfl (fun K hK => ?_) ?_
                    · refine step_append_str (B := w0.heap.size) (ss := y) (y := u.v) rfl (.tmp 34) (.tmp 37) rfl (by rfl) (by rfl) HD.out hvu HQ.out.1 (by omega) hS.size ?_
                      intro g38 c38 w38 hr hg hgo hlt
                      refine hK.out _ _ (grown_trans hS hg (fun k hk => .inr (HD.out.lt k hk).1)) (fun hS2 => ?_)
                      replace HC := hid (HC.out.kept hg hCD.out)
                      have HE := hid hr
                      clear HD HQ hr hg hgo hlt hS hDQ hCD
                      have hS := hS2
                      clear hS2
                      clear hK K
                      try show wpAnyH _ _ _ _ _ _ _ (Act.put _ (some 38) _) _
                      try simp only [Act.put, List.setIfInBounds_toArray, List.set_cons_zero, List.set_cons_succ]
                      refine wpAnyH_done (by kernel_rfl) ?_ _
                      show wpTail _ _ _ _ _
                      have z6 := ((bcellG hS).1 (w.heap.size + 2) 0 lX (by simp)).trans eX0
                      have z7 := ((bcellG hS).1 (w.heap.size + 3) 0 lY (by simp)).trans eY0
                      have g6 := ((bcellG hS).2 (w.heap.size + 2) 0 lX (by simp)).trans f6
                      have g7 := ((bcellG hS).2 (w.heap.size + 3) 0 lY (by simp)).trans f7
                      have z7b := (World.cell?_setCell_far w38 ⟨w.heap.size + 2, 0, none⟩ ⟨w.heap.size + 3, 0, none⟩ (.slice (some ⟨g32, 0, none⟩) (x.length + 1) c32) (by show w.heap.size + 2 ≠ w.heap.size + 3; omega)).trans z7
                      refine wpTail_step rfl (fun K hK => ?_)
                      go_simp
                      refine hK.out _ _ ?_
                      refine wpTail_step rfl (fun K hK => ?_)
                      go_simp
                      refine hK.out _ _ ?_
                      refine wpTail_nil ?_
                      go_wp2_with fail
                      go_meet
                      case rel => exact AlEnd.mk HW.out HBX.out.1 HBX.out.2.1 HBX.out.2.2.1 HBX.out.2.2.2 hS HC.out HE.out (by simp) (by simp)
                    exact AllReadyH.nil
                  exact AllReadyH.nil
                exact AllReadyH.nil
              exact AllReadyH.nil
            refine AllReadyH.cons rfl (fun K hK => ?_) ?_
            · go_simp
              have hb : Below w31.heap.size w31 (w31.alloc (.cells #[.string u.v] 9)) := (Below.refl _ _).alloc (Nat.le_refl _) _
              have hC0 := Cel.new w31 w0.heap.size u.v 9 hS.size
              refine hK.out _ _ (World.grownBy.trans hS (World.grownBy_alloc _ _ _)) (fun hS2 => ?_)
              replace HP := hid (HP.out.keep hb)
              have HQ := hid hC0
              clear hb hC0 hS
              have hS := hS2
              clear hS2
              generalize w31.alloc (.cells #[.string u.v] 9) = w37 at *
              generalize w31.heap.size = p37 at *
              clear hK K
              try show wpAnyH _ _ _ _ _ _ _ (Act.put _ (some 37) _) _
              try simp only [Act.put, List.setIfInBounds_toArray, List.set_cons_zero, List.set_cons_succ]
              refine wpAnyH_ready (rs := [1]) (by kernel_rfl) (by simp) ?_
              refine AllReadyH.cons rfl (fun K hK => ?_) ?_
              · refine step_does rfl ?_
                unfold Does
                go_simp
                go_at_call 52
                refine (clone_any (D.rd_keep (Keeps.all (below_grown0 hS)) _ _ HX0.out) HSX.out (by omega)).mono ?_
                rintro e w28 ⟨v28, rfl, hr, hb⟩
                refine ⟨_, rfl, ?_⟩
                refine hK.out _ _ (World.grownBy.trans hS (grown_of_below hb _)) (fun hS2 => ?_)
                have HA : Hid (Row w28 w0.heap.size v28 x) := hr.mono hS.size
                have hAP := hid (hr.ne_old HP.out.2.2)
                have hAQ := hid (hr.ne_old HQ.out.2.2)
                replace HP := hid (HP.out.keep hb)
                replace HQ := hid (HQ.out.keep hb)
                clear hr hb hS
                have hS := hS2
                clear hS2
                clear hK K
                try show wpAnyH _ _ _ _ _ _ _ (Act.put _ (some 28) _) _
                try simp only [Act.put, List.setIfInBounds_toArray, List.set_cons_zero, List.set_cons_succ]
                refine wpAnyH_ready (rs := [5]) (by kernel_rfl) (by simp) ?_
                refine AllReadyH.cons rfl (fun K hK => ?_) ?_
                · refine step_append_str (B := w0.heap.size) (ss := x) (y := t.v) rfl (.tmp 28) (.tmp 31) rfl (by rfl) (by rfl) HA.out hvt HP.out.1 (by omega) hS.size ?_
                  intro g32 c32 w32 hr hg hgo hlt
                  refine hK.out _ _ (grown_trans hS hg (fun k hk => .inr (HA.out.lt k hk).1)) (fun hS2 => ?_)
                  replace HQ := hid (HQ.out.grown hg hAQ.out)
                  have HC := hid hr
                  clear HA HP hr hg hgo hlt hS hAP hAQ
                  have hS := hS2
                  clear hS2
                  clear hK K
                  try show wpAnyH _ _ _ _ _ _ _ (Act.put _ (some 32) _) _
                  try simp only [Act.put, List.setIfInBounds_toArray, List.set_cons_zero, List.set_cons_succ]
                  refine wpAnyH_ready (rs := [7]) (by kernel_rfl) (by simp) ?_
                  refine AllReadyH.cons rfl (fun K hK => ?_) ?_
                  · refine step_does rfl ?_
                    unfold Does
                    go_simp
                    go_at_call 52
                    refine (clone_any (D.rd_keep (Keeps.all (below_grown0 hS)) _ _ HY0.out) HSY.out (by omega)).mono ?_
                    rintro e w34 ⟨v34, rfl, hr, hb⟩
                    refine ⟨_, rfl, ?_⟩
                    refine hK.out _ _ (World.grownBy.trans hS (grown_of_below hb _)) (fun hS2 => ?_)
                    have HD : Hid (Row w34 w0.heap.size v34 y) := hr.mono hS.size
                    have hDQ := hid (hr.ne_old HQ.out.2.2)
                    have hCD := hid (HC.out.ne_row hr)
                    replace HQ := hid (HQ.out.keep hb)
                    replace HC := hid (HC.out.keep hb)
                    clear hr hb hS
                    have hS := hS2
                    clear hS2
                    clear hK K
                    try show wpAnyH _ _ _ _ _ _ _ (Act.put _ (some 34) _) _
                    try simp only [Act.put, List.setIfInBounds_toArray, List.set_cons_zero, List.set_cons_succ]
                    refine wpAnyH_ready (rs := [11]) (by kernel_rfl) (by simp) ?_
                    refine AllReadyH.cons rfl (fun K hK => ?_) ?_
                    · refine step_append_str (B := w0.heap.size) (ss := y) (y := u.v) rfl (.tmp 34) (.tmp 37) rfl (by rfl) (by rfl) HD.out hvu HQ.out.1 (by omega) hS.size ?_
                      intro g38 c38 w38 hr hg hgo hlt
                      refine hK.out _ _ (grown_trans hS hg (fun k hk => .inr (HD.out.lt k hk).1)) (fun hS2 => ?_)
                      replace HC := hid (HC.out.kept hg hCD.out)
                      have HE := hid hr
                      clear HD HQ hr hg hgo hlt hS hDQ hCD
                      have hS := hS2
                      clear hS2
                      clear hK K
                      try show wpAnyH _ _ _ _ _ _ _ (Act.put _ (some 38) _) _
                      try simp only [Act.put, List.setIfInBounds_toArray, List.set_cons_zero, List.set_cons_succ]
                      refine wpAnyH_done (by kernel_rfl) ?_ _
                      show wpTail _ _ _ _ _
                      have z6 := ((bcellG hS).1 (w.heap.size + 2) 0 lX (by simp)).trans eX0
                      have z7 := ((bcellG hS).1 (w.heap.size + 3) 0 lY (by simp)).trans eY0
                      have g6 := ((bcellG hS).2 (w.heap.size + 2) 0 lX (by simp)).trans f6
                      have g7 := ((bcellG hS).2 (w.heap.size + 3) 0 lY (by simp)).trans f7
                      have z7b := (World.cell?_setCell_far w38 ⟨w.heap.size + 2, 0, none⟩ ⟨w.heap.size + 3, 0, none⟩ (.slice (some ⟨g32, 0, none⟩) (x.length + 1) c32) (by show w.heap.size + 2 ≠ w.heap.size + 3; omega)).trans z7
                      refine wpTail_step rfl (fun K hK => ?_)
                      go_simp
                      refine hK.out _ _ ?_
                      refine wpTail_step rfl (fun K hK => ?_)
                      go_simp
                      refine hK.out _ _ ?_
                      refine wpTail_nil ?_
                      go_wp2_with fail
                      go_meet
                      case rel => exact AlEnd.mk HW.out HBX.out.1 HBX.out.2.1 HBX.out.2.2.1 HBX.out.2.2.2 hS HC.out HE.out (by simp) (by simp)
                    exact AllReadyH.nil
                  exact AllReadyH.nil
                exact AllReadyH.nil
              exact AllReadyH.nil
            exact AllReadyH.nil
          refine AllReadyH.cons rfl (fun K hK => ?_) ?_
          · go_simp
            have hb : Below wd.heap.size wd (wd.alloc (.cells #[.string u.v] 9)) := (Below.refl _ _).alloc (Nat.le_refl _) _
            have hC0 := Cel.new wd w0.heap.size u.v 9 hS.size
            refine hK.out _ _ (World.grownBy.trans hS (World.grownBy_alloc _ _ _)) (fun hS2 => ?_)
            have HQ := hid hC0
            clear hb hC0 hS
            have hS := hS2
            clear hS2
            generalize wd.alloc (.cells #[.string u.v] 9) = w37 at *
            generalize wd.heap.size = p37 at *
            clear hK K
            try show wpAnyH _ _ _ _ _ _ _ (Act.put _ (some 37) _) _
            try simp only [Act.put, List.setIfInBounds_toArray, List.set_cons_zero, List.set_cons_succ]
            refine wpAnyH_ready (rs := [1, 4]) (by kernel_rfl) (by simp) ?_
            refine AllReadyH.cons rfl (fun K hK => ?_) ?_
            · refine step_does rfl ?_
              unfold Does
              go_simp
              go_at_call 52
              refine (clone_any (D.rd_keep (Keeps.all (below_grown0 hS)) _ _ HX0.out) HSX.out (by omega)).mono ?_
              rintro e w28 ⟨v28, rfl, hr, hb⟩
              refine ⟨_, rfl, ?_⟩
              refine hK.out _ _ (World.grownBy.trans hS (grown_of_below hb _)) (fun hS2 => ?_)
              have HA : Hid (Row w28 w0.heap.size v28 x) := hr.mono hS.size
              have hAQ := hid (hr.ne_old HQ.out.2.2)
              replace HQ := hid (HQ.out.keep hb)
              clear hr hb hS
              have hS := hS2
              clear hS2
              clear hK K
              try show wpAnyH _ _ _ _ _ _ _ (Act.put _ (some 28) _) _
              try simp only [Act.put, List.setIfInBounds_toArray, List.set_cons_zero, List.set_cons_succ]
              refine wpAnyH_ready (rs := [4]) (by kernel_rfl) (by simp) ?_
              refine AllReadyH.cons rfl (fun K hK => ?_) ?_
              · go_simp
                have hb : Below w28.heap.size w28 (w28.alloc (.cells #[.string t.v] 9)) := (Below.refl _ _).alloc (Nat.le_refl _) _
                have hC0 := Cel.new w28 w0.heap.size t.v 9 hS.size
                refine hK.out _ _ (World.grownBy.trans hS (World.grownBy_alloc _ _ _)) (fun hS2 => ?_)
                have hAP := hid HA.out.ne_new
                replace HQ := hid (HQ.out.keep hb)
                replace HA := hid (HA.out.keep hb)
                have HP := hid hC0
                clear hb hC0 hS
                have hS := hS2
                clear hS2
                generalize w28.alloc (.cells #[.string t.v] 9) = w31 at *
                generalize w28.heap.size = p31 at *
                clear hK K
                try show wpAnyH _ _ _ _ _ _ _ (Act.put _ (some 31) _) _
                try simp only [Act.put, List.setIfInBounds_toArray, List.set_cons_zero, List.set_cons_succ]
                refine wpAnyH_ready (rs := [5]) (by kernel_rfl) (by simp) ?_
                refine AllReadyH.cons rfl (fun K hK => ?_) ?_
                · refine step_append_str (B := w0.heap.size) (ss := x) (y := t.v) rfl (.tmp 28) (.tmp 31) rfl (by rfl) (by rfl) HA.out hvt HP.out.1 (by omega) hS.size ?_
                  intro g32 c32 w32 hr hg hgo hlt
                  refine hK.out _ _ (grown_trans hS hg (fun k hk => .inr (HA.out.lt k hk).1)) (fun hS2 => ?_)
                  replace HQ := hid (HQ.out.grown hg hAQ.out)
                  have HC := hid hr
                  clear HA HP hr hg hgo hlt hS hAP hAQ
                  have hS := hS2
                  clear hS2
                  clear hK K
                  try show wpAnyH _ _ _ _ _ _ _ (Act.put _ (some 32) _) _
                  try simp only [Act.put, List.setIfInBounds_toArray, List.set_cons_zero, List.set_cons_succ]
                  refine wpAnyH_ready (rs := [7]) (by kernel_rfl) (by simp) ?_
                  refine AllReadyH.cons rfl (fun K hK => ?_) ?_
                  · refine step_does rfl ?_
                    unfold Does
                    go_simp
                    go_at_call 52
                    refine (clone_any (D.rd_keep (Keeps.all (below_grown0 hS)) _ _ HY0.out) HSY.out (by omega)).mono ?_
                    rintro e w34 ⟨v34, rfl, hr, hb⟩
                    refine ⟨_, rfl, ?_⟩
                    refine hK.out _ _ (World.grownBy.trans hS (grown_of_below hb _)) (fun hS2 => ?_)
                    have HD : Hid (Row w34 w0.heap.size v34 y) := hr.mono hS.size
                    have hDQ := hid (hr.ne_old HQ.out.2.2)
                    have hCD := hid (HC.out.ne_row hr)
                    replace HQ := hid (HQ.out.keep hb)
                    replace HC := hid (HC.out.keep hb)
                    clear hr hb hS
                    have hS := hS2
                    clear hS2
                    clear hK K
                    try show wpAnyH _ _ _ _ _ _ _ (Act.put _ (some 34) _) _
                    try simp only [Act.put, List.setIfInBounds_toArray, List.set_cons_zero, List.set_cons_succ]
                    refine wpAnyH_ready (rs := [11]) (by kernel_rfl) (by simp) ?_
                    refine AllReadyH.cons rfl (fun K hK => ?_) ?_
                    · refine step_append_str (B := w0.heap.size) (ss := y) (y := u.v) rfl (.tmp 34) (.tmp 37) rfl (by rfl) (by rfl) HD.out hvu HQ.out.1 (by omega) hS.size ?_
                      intro g38 c38 w38 hr hg hgo hlt
                      refine hK.out _ _ (grown_trans hS hg (fun k hk => .inr (HD.out.lt k hk).1)) (fun hS2 => ?_)
                      replace HC := hid (HC.out.kept hg hCD.out)
                      have HE := hid hr
                      clear HD HQ hr hg hgo hlt hS hDQ hCD
                      have hS := hS2
                      clear hS2
                      clear hK K
                      try show wpAnyH _ _ _ _ _ _ _ (Act.put _ (some 38) _) _
                      try simp only [Act.put, List.setIfInBounds_toArray, List.set_cons_zero, List.set_cons_succ]
                      refine wpAnyH_done (by kernel_rfl) ?_ _
                      show wpTail _ _ _ _ _
                      have z6 := ((bcellG hS).1 (w.heap.size + 2) 0 lX (by simp)).trans eX0
                      have z7 := ((bcellG hS).1 (w.heap.size + 3) 0 lY (by simp)).trans eY0
                      have g6 := ((bcellG hS).2 (w.heap.size + 2) 0 lX (by simp)).trans f6
                      have g7 := ((bcellG hS).2 (w.heap.size + 3) 0 lY (by simp)).trans f7
                      have z7b := (World.cell?_setCell_far w38 ⟨w.heap.size + 2, 0, none⟩ ⟨w.heap.size + 3, 0, none⟩ (.slice (some ⟨g32, 0, none⟩) (x.length + 1) c32) (by show w.heap.size + 2 ≠ w.heap.size + 3; omega)).trans z7
                      refine wpTail_step rfl (fun K hK => ?_)
                      go_simp
                      refine hK.out _ _ ?_
                      refine wpTail_step rfl (fun K hK => ?_)
                      go_simp
                      refine hK.out _ _ ?_
                      refine wpTail_nil ?_
                      go_wp2_with fail
                      go_meet
                      case rel => exact AlEnd.mk HW.out HBX.out.1 HBX.out.2.1 HBX.out.2.2.1 HBX.out.2.2.2 hS HC.out HE.out (by simp) (by simp)
                    exact AllReadyH.nil
                  exact AllReadyH.nil
                exact AllReadyH.nil
              exact AllReadyH.nil
            refine AllReadyH.cons rfl (fun K hK => ?_) ?_
            · go_simp
              have hb : Below w37.heap.size w37 (w37.alloc (.cells #[.string t.v] 9)) := (Below.refl _ _).alloc (Nat.le_refl _) _
              have hC0 := Cel.new w37 w0.heap.size t.v 9 hS.size
              refine hK.out _ _ (World.grownBy.trans hS (World.grownBy_alloc _ _ _)) (fun hS2 => ?_)
              replace HQ := hid (HQ.out.keep hb)
              have HP := hid hC0
              clear hb hC0 hS
              have hS := hS2
              clear hS2
              generalize w37.alloc (.cells #[.string t.v] 9) = w31 at *
              generalize w37.heap.size = p31 at *
              clear hK K
              try show wpAnyH _ _ _ _ _ _ _ (Act.put _ (some 31) _) _
              try simp only [Act.put, List.setIfInBounds_toArray, List.set_cons_zero, List.set_cons_succ]
              refine wpAnyH_ready (rs := [1]) (by kernel_rfl) (by simp) ?_
              refine AllReadyH.cons rfl (fun K hK => ?_) ?_
              · refine step_does rfl ?_
                unfold Does
                go_simp
                go_at_call 52
                refine (clone_any (D.rd_keep (Keeps.all (below_grown0 hS)) _ _ HX0.out) HSX.out (by omega)).mono ?_
                rintro e w28 ⟨v28, rfl, hr, hb⟩
                refine ⟨_, rfl, ?_⟩
                refine hK.out _ _ (World.grownBy.trans hS (grown_of_below hb _)) (fun hS2 => ?_)
                have HA : Hid (Row w28 w0.heap.size v28 x) := hr.mono hS.size
                have hAP := hid (hr.ne_old HP.out.2.2)
                have hAQ := hid (hr.ne_old HQ.out.2.2)
                replace HQ := hid (HQ.out.keep hb)
                replace HP := hid (HP.out.keep hb)
                clear hr hb hS
                have hS := hS2
                clear hS2
                clear hK K
                try show wpAnyH _ _ _ _ _ _ _ (Act.put _ (some 28) _) _
                try simp only [Act.put, List.setIfInBounds_toArray, List.set_cons_zero, List.set_cons_succ]
                refine wpAnyH_ready (rs := [5]) (by kernel_rfl) (by simp) ?_
                refine AllReadyH.cons rfl (fun K hK => ?_) ?_
                · refine step_append_str (B := w0.heap.size) (ss := x) (y := t.v) rfl (.tmp 28) (.tmp 31) rfl (by rfl) (by rfl) HA.out hvt HP.out.1 (by omega) hS.size ?_
                  intro g32 c32 w32 hr hg hgo hlt
                  refine hK.out _ _ (grown_trans hS hg (fun k hk => .inr (HA.out.lt k hk).1)) (fun hS2 => ?_)
                  replace HQ := hid (HQ.out.grown hg hAQ.out)
                  have HC := hid hr
                  clear HA HP hr hg hgo hlt hS hAP hAQ
                  have hS := hS2
                  clear hS2
                  clear hK K
                  try show wpAnyH _ _ _ _ _ _ _ (Act.put _ (some 32) _) _
                  try simp only [Act.put, List.setIfInBounds_toArray, List.set_cons_zero, List.set_cons_succ]
                  refine wpAnyH_ready (rs := [7]) (by kernel_rfl) (by simp) ?_
                  refine AllReadyH.cons rfl (fun K hK => ?_) ?_
                  · refine step_does rfl ?_
                    unfold Does
                    go_simp
                    go_at_call 52
                    refine (clone_any (D.rd_keep (Keeps.all (below_grown0 hS)) _ _ HY0.out) HSY.out (by omega)).mono ?_
                    rintro e w34 ⟨v34, rfl, hr, hb⟩
                    refine ⟨_, rfl, ?_⟩
                    refine hK.out _ _ (World.grownBy.trans hS (grown_of_below hb _)) (fun hS2 => ?_)
                    have HD : Hid (Row w34 w0.heap.size v34 y) := hr.mono hS.size
                    have hDQ := hid (hr.ne_old HQ.out.2.2)
                    have hCD := hid (HC.out.ne_row hr)
                    replace HQ := hid (HQ.out.keep hb)
                    replace HC := hid (HC.out.keep hb)
                    clear hr hb hS
                    have hS := hS2
                    clear hS2
                    clear hK K
                    try show wpAnyH _ _ _ _ _ _ _ (Act.put _ (some 34) _) _
                    try simp only [Act.put, List.setIfInBounds_toArray, List.set_cons_zero, List.set_cons_succ]
                    refine wpAnyH_ready (rs := [11]) (by kernel_rfl) (by simp) ?_
                    refine AllReadyH.cons rfl (fun K hK => ?_) ?_
                    · refine step_append_str (B := w0.heap.size) (ss := y) (y := u.v) rfl (.tmp 34) (.tmp 37) rfl (by rfl) (by rfl) HD.out hvu HQ.out.1 (by omega) hS.size ?_
                      intro g38 c38 w38 hr hg hgo hlt
                      refine hK.out _ _ (grown_trans hS hg (fun k hk => .inr (HD.out.lt k hk).1)) (fun hS2 => ?_)
                      replace HC := hid (HC.out.kept hg hCD.out)
                      have HE := hid hr
                      clear HD HQ hr hg hgo hlt hS hDQ hCD
                      have hS := hS2
                      clear hS2
                      clear hK K
                      try show wpAnyH _ _ _ _ _ _ _ (Act.put _ (some 38) _) _
                      try simp only [Act.put, List.setIfInBounds_toArray, List.set_cons_zero, List.set_cons_succ]
                      refine wpAnyH_done (by kernel_rfl) ?_ _
                      show wpTail _ _ _ _ _
                      have z6 := ((bcellG hS).1 (w.heap.size + 2) 0 lX (by simp)).trans eX0
                      have z7 := ((bcellG hS).1 (w.heap.size + 3) 0 lY (by simp)).trans eY0
                      have g6 := ((bcellG hS).2 (w.heap.size + 2) 0 lX (by simp)).trans f6
                      have g7 := ((bcellG hS).2 (w.heap.size + 3) 0 lY (by simp)).trans f7
                      have z7b := (World.cell?_setCell_far w38 ⟨w.heap.size + 2, 0, none⟩ ⟨w.heap.size + 3, 0, none⟩ (.slice (some ⟨g32, 0, none⟩) (x.length + 1) c32) (by show w.heap.size + 2 ≠ w.heap.size + 3; omega)).trans z7
                      refine wpTail_step rfl (fun K hK => ?_)
                      go_simp
                      refine hK.out _ _ ?_
                      refine wpTail_step rfl (fun K hK => ?_)
                      go_simp
                      refine hK.out _ _ ?_
                      refine wpTail_nil ?_
                      go_wp2_with fail
                      go_meet
                      case rel => exact AlEnd.mk HW.out HBX.out.1 HBX.out.2.1 HBX.out.2.2.1 HBX.out.2.2.2 hS HC.out HE.out (by simp) (by simp)
                    exact AllReadyH.nil
                  exact AllReadyH.nil
                exact AllReadyH.nil
              exact AllReadyH.nil
            exact AllReadyH.nil
          exact AllReadyH.nil
        obtain ⟨gx, cx, gy, cy, bT, bU, bX, bY, HLX, HLY, hW⟩ := hcut
        replace hT := Fm.at_keep (Keeps.all hW) HT0.out
        replace hU := Fm.at_keep (Keeps.all hW) HU0.out
        have hqq := eqFuncF_of t.parts ih u.parts (x ++ [t.v]) (y ++ [u.v]) (Fm.at_parts hT) (Fm.at_parts hU) ⟨bX.c0, bY.c0, bX.lt, bY.lt, HLX.rd, HLY.rd⟩ HLX.shp HLY.shp HFT.out HFU.out HBT.out HBU.out (by simp; omega) (by simp; omega)
        clear HLX HLY
        have eT0 := bT.c0
        have eT1 := bT.c1
        have eT2 := bT.c2
        have eT3 := bT.c3
        have eT4 := bT.c4
        have eU0 := bU.c0
        have eU1 := bU.c1
        have eU2 := bU.c2
        have eU3 := bU.c3
        have eU4 := bU.c4
        have lT := bT.lt
        have lU := bU.lt
        have eX0 := bX.c0
        have eY0 := bY.c0
        have lX := bX.lt
        have lY := bY.lt
        go_wp2_with fail
        refine hqq.mono ?_
        rintro e w5 ⟨_, rfl, hb, rfl⟩
        go_wp2_with fail
        go_ret
        exact Gives.mk (ret_bool HD.out.symm) (hW.trans (hb.mono hW.size))
      · have HD : Hid (Fm.alpha t u x y = Fm.alphas t.parts u.parts x y) := by rw [Hid, HC.out, if_pos ho, if_neg h3, if_neg hq]
        have HQ : Hid (quantOp t.op = false) := hid (by simpa using hq)
        clear ho h3 hq
        obtain ⟨rfl, rfl, ⟨a, cap, rfl⟩, rfl, a2, cap2, rfl⟩ := Fm.at_form hT
        obtain ⟨rfl, rfl, ⟨a', cap', rfl⟩, rfl, a2', cap2', rfl⟩ := Fm.at_form hU
        have hW : Below w.heap.size w ((((w.alloc (.cells #[.int .i64 t.op, .string t.atom.name, .slice a t.atom.args.length cap, .string t.v, .slice a2 t.parts.length cap2] 36)).alloc (.cells #[.int .i64 u.op, .string u.atom.name, .slice a' u.atom.args.length cap', .string u.v, .slice a2' u.parts.length cap2'] 36)).alloc (.cells #[.slice xa x.length xc] 56)).alloc (.cells #[.slice ya y.length yc] 56)) := ((((Below.refl _ _).alloc (Nat.le_refl _) _).alloc (by simp) _).alloc (by simp; omega) _).alloc (by simp; omega) _
        have bT : Box ((((w.alloc (.cells #[.int .i64 t.op, .string t.atom.name, .slice a t.atom.args.length cap, .string t.v, .slice a2 t.parts.length cap2] 36)).alloc (.cells #[.int .i64 u.op, .string u.atom.name, .slice a' u.atom.args.length cap', .string u.v, .slice a2' u.parts.length cap2'] 36)).alloc (.cells #[.slice xa x.length xc] 56)).alloc (.cells #[.slice ya y.length yc] 56)) w.heap.size [.int .i64 t.op, .string t.atom.name, .slice a t.atom.args.length cap, .string t.v, .slice a2 t.parts.length cap2] := (((Box.new w _ _).alloc _).alloc _).alloc _
        have bU : Box ((((w.alloc (.cells #[.int .i64 t.op, .string t.atom.name, .slice a t.atom.args.length cap, .string t.v, .slice a2 t.parts.length cap2] 36)).alloc (.cells #[.int .i64 u.op, .string u.atom.name, .slice a' u.atom.args.length cap', .string u.v, .slice a2' u.parts.length cap2'] 36)).alloc (.cells #[.slice xa x.length xc] 56)).alloc (.cells #[.slice ya y.length yc] 56)) (w.heap.size + 1) [.int .i64 u.op, .string u.atom.name, .slice a' u.atom.args.length cap', .string u.v, .slice a2' u.parts.length cap2'] := by
          have := ((Box.new (w.alloc (.cells #[.int .i64 t.op, .string t.atom.name, .slice a t.atom.args.length cap, .string t.v, .slice a2 t.parts.length cap2] 36)) [.int .i64 u.op, .string u.atom.name, .slice a' u.atom.args.length cap', .string u.v, .slice a2' u.parts.length cap2'] 36).alloc (.cells #[.slice xa x.length xc] 56)).alloc (.cells #[.slice ya y.length yc] 56)
          simpa only [World.size_alloc] using this
        have bX : Box ((((w.alloc (.cells #[.int .i64 t.op, .string t.atom.name, .slice a t.atom.args.length cap, .string t.v, .slice a2 t.parts.length cap2] 36)).alloc (.cells #[.int .i64 u.op, .string u.atom.name, .slice a' u.atom.args.length cap', .string u.v, .slice a2' u.parts.length cap2'] 36)).alloc (.cells #[.slice xa x.length xc] 56)).alloc (.cells #[.slice ya y.length yc] 56)) (w.heap.size + 2) [.slice xa x.length xc] := by
          have := (Box.new ((w.alloc (.cells #[.int .i64 t.op, .string t.atom.name, .slice a t.atom.args.length cap, .string t.v, .slice a2 t.parts.length cap2] 36)).alloc (.cells #[.int .i64 u.op, .string u.atom.name, .slice a' u.atom.args.length cap', .string u.v, .slice a2' u.parts.length cap2'] 36)) [.slice xa x.length xc] 56).alloc (.cells #[.slice ya y.length yc] 56)
          simpa only [World.size_alloc] using this
        have bY : Box ((((w.alloc (.cells #[.int .i64 t.op, .string t.atom.name, .slice a t.atom.args.length cap, .string t.v, .slice a2 t.parts.length cap2] 36)).alloc (.cells #[.int .i64 u.op, .string u.atom.name, .slice a' u.atom.args.length cap', .string u.v, .slice a2' u.parts.length cap2'] 36)).alloc (.cells #[.slice xa x.length xc] 56)).alloc (.cells #[.slice ya y.length yc] 56)) (w.heap.size + 3) [.slice ya y.length yc] := by
          have := Box.new (((w.alloc (.cells #[.int .i64 t.op, .string t.atom.name, .slice a t.atom.args.length cap, .string t.v, .slice a2 t.parts.length cap2] 36)).alloc (.cells #[.int .i64 u.op, .string u.atom.name, .slice a' u.atom.args.length cap', .string u.v, .slice a2' u.parts.length cap2'] 36)).alloc (.cells #[.slice xa x.length xc] 56)) [.slice ya y.length yc] 56
          simpa only [World.size_alloc] using this
        have f6 : ((((w.alloc (.cells #[.int .i64 t.op, .string t.atom.name, .slice a t.atom.args.length cap, .string t.v, .slice a2 t.parts.length cap2] 36)).alloc (.cells #[.int .i64 u.op, .string u.atom.name, .slice a' u.atom.args.length cap', .string u.v, .slice a2' u.parts.length cap2'] 36)).alloc (.cells #[.slice xa x.length xc] 56)).alloc (.cells #[.slice ya y.length yc] 56)).frozen? ⟨w.heap.size + 2, 0, none⟩ = false := (World.frozen?_alloc_past _ _ 0 (by simp)).trans (World.frozen?_alloc_at _ _ _ 0 (by simp))
        have f7 : ((((w.alloc (.cells #[.int .i64 t.op, .string t.atom.name, .slice a t.atom.args.length cap, .string t.v, .slice a2 t.parts.length cap2] 36)).alloc (.cells #[.int .i64 u.op, .string u.atom.name, .slice a' u.atom.args.length cap', .string u.v, .slice a2' u.parts.length cap2'] 36)).alloc (.cells #[.slice xa x.length xc] 56)).alloc (.cells #[.slice ya y.length yc] 56)).frozen? ⟨w.heap.size + 3, 0, none⟩ = false := World.frozen?_alloc_at _ _ _ 0 (by simp)
        replace hT := Fm.at_keep (Keeps.all hW) hT
        replace hU := Fm.at_keep (Keeps.all hW) hU
        have HX0 := hid (D.rd_keep (Keeps.all hW) _ _ HXR.out)
        have HY0 := hid (D.rd_keep (Keeps.all hW) _ _ HYR.out)
        go_enter Try.func30, Try.ntmps30
        go_wp2_with fail
        generalize ((((w.alloc (.cells #[.int .i64 t.op, .string t.atom.name, .slice a t.atom.args.length cap, .string t.v, .slice a2 t.parts.length cap2] 36)).alloc (.cells #[.int .i64 u.op, .string u.atom.name, .slice a' u.atom.args.length cap', .string u.v, .slice a2' u.parts.length cap2'] 36)).alloc (.cells #[.slice xa x.length xc] 56)).alloc (.cells #[.slice ya y.length yc] 56)) = w0 at *
        have hqq := fun w' (hb : Below w0.heap.size w0 w') => eqFuncF_of t.parts ih u.parts x y (Fm.at_parts (Fm.at_keep (Keeps.all hb) hT)) (Fm.at_parts (Fm.at_keep (Keeps.all hb) hU)) (XY.keep ⟨bX.c0, bY.c0, bX.lt, bY.lt, HX0.out, HY0.out⟩ hb) HSX.out HSY.out HFT.out HFU.out HBT.out HBU.out (by omega) (by omega)
        have HQQ := hid hqq
        clear hqq
        refine (isQuantifier_any _ _).mono ?_
        rintro e w4 ⟨rfl, rfl⟩
        rw [HQ.out]
        have eT0 := bT.c0
        have eT1 := bT.c1
        have eT2 := bT.c2
        have eT3 := bT.c3
        have eT4 := bT.c4
        have eU0 := bU.c0
        have eU1 := bU.c1
        have eU2 := bU.c2
        have eU3 := bU.c3
        have eU4 := bU.c4
        have lT := bT.lt
        have lU := bU.lt
        have eX0 := bX.c0
        have eY0 := bY.c0
        have lX := bX.lt
        have lY := bY.lt
        go_wp2_with fail
        refine (HQQ.out _ (Below.refl _ _)).mono ?_
        rintro e w5 ⟨_, rfl, hb, rfl⟩
        go_wp2_with fail
        go_ret
        exact Gives.mk (ret_bool HD.out.symm) (hW.trans (hb.mono hW.size))
  · have HX : Hid (Fm.alpha t u x y = false) := by rw [Hid, HC.out, if_neg ho]
    have o1 : (t.op == u.op) = false := by simp [ho]
    have o2 : (t.op != u.op) = true := by simp [ho]
    clear ho
    obtain ⟨rfl, rfl, ⟨a, cap, rfl⟩, rfl, a2, cap2, rfl⟩ := Fm.at_form hT
    obtain ⟨rfl, rfl, ⟨a', cap', rfl⟩, rfl, a2', cap2', rfl⟩ := Fm.at_form hU
    have hW : Below w.heap.size w ((((w.alloc (.cells #[.int .i64 t.op, .string t.atom.name, .slice a t.atom.args.length cap, .string t.v, .slice a2 t.parts.length cap2] 36)).alloc (.cells #[.int .i64 u.op, .string u.atom.name, .slice a' u.atom.args.length cap', .string u.v, .slice a2' u.parts.length cap2'] 36)).alloc (.cells #[.slice xa x.length xc] 56)).alloc (.cells #[.slice ya y.length yc] 56)) := ((((Below.refl _ _).alloc (Nat.le_refl _) _).alloc (by simp) _).alloc (by simp; omega) _).alloc (by simp; omega) _
    have bT : Box ((((w.alloc (.cells #[.int .i64 t.op, .string t.atom.name, .slice a t.atom.args.length cap, .string t.v, .slice a2 t.parts.length cap2] 36)).alloc (.cells #[.int .i64 u.op, .string u.atom.name, .slice a' u.atom.args.length cap', .string u.v, .slice a2' u.parts.length cap2'] 36)).alloc (.cells #[.slice xa x.length xc] 56)).alloc (.cells #[.slice ya y.length yc] 56)) w.heap.size [.int .i64 t.op, .string t.atom.name, .slice a t.atom.args.length cap, .string t.v, .slice a2 t.parts.length cap2] := (((Box.new w _ _).alloc _).alloc _).alloc _
    have bU : Box ((((w.alloc (.cells #[.int .i64 t.op, .string t.atom.name, .slice a t.atom.args.length cap, .string t.v, .slice a2 t.parts.length cap2] 36)).alloc (.cells #[.int .i64 u.op, .string u.atom.name, .slice a' u.atom.args.length cap', .string u.v, .slice a2' u.parts.length cap2'] 36)).alloc (.cells #[.slice xa x.length xc] 56)).alloc (.cells #[.slice ya y.length yc] 56)) (w.heap.size + 1) [.int .i64 u.op, .string u.atom.name, .slice a' u.atom.args.length cap', .string u.v, .slice a2' u.parts.length cap2'] := by
      have := ((Box.new (w.alloc (.cells #[.int .i64 t.op, .string t.atom.name, .slice a t.atom.args.length cap, .string t.v, .slice a2 t.parts.length cap2] 36)) [.int .i64 u.op, .string u.atom.name, .slice a' u.atom.args.length cap', .string u.v, .slice a2' u.parts.length cap2'] 36).alloc (.cells #[.slice xa x.length xc] 56)).alloc (.cells #[.slice ya y.length yc] 56)
      simpa only [World.size_alloc] using this
    have bX : Box ((((w.alloc (.cells #[.int .i64 t.op, .string t.atom.name, .slice a t.atom.args.length cap, .string t.v, .slice a2 t.parts.length cap2] 36)).alloc (.cells #[.int .i64 u.op, .string u.atom.name, .slice a' u.atom.args.length cap', .string u.v, .slice a2' u.parts.length cap2'] 36)).alloc (.cells #[.slice xa x.length xc] 56)).alloc (.cells #[.slice ya y.length yc] 56)) (w.heap.size + 2) [.slice xa x.length xc] := by
      have := (Box.new ((w.alloc (.cells #[.int .i64 t.op, .string t.atom.name, .slice a t.atom.args.length cap, .string t.v, .slice a2 t.parts.length cap2] 36)).alloc (.cells #[.int .i64 u.op, .string u.atom.name, .slice a' u.atom.args.length cap', .string u.v, .slice a2' u.parts.length cap2'] 36)) [.slice xa x.length xc] 56).alloc (.cells #[.slice ya y.length yc] 56)
      simpa only [World.size_alloc] using this
    have bY : Box ((((w.alloc (.cells #[.int .i64 t.op, .string t.atom.name, .slice a t.atom.args.length cap, .string t.v, .slice a2 t.parts.length cap2] 36)).alloc (.cells #[.int .i64 u.op, .string u.atom.name, .slice a' u.atom.args.length cap', .string u.v, .slice a2' u.parts.length cap2'] 36)).alloc (.cells #[.slice xa x.length xc] 56)).alloc (.cells #[.slice ya y.length yc] 56)) (w.heap.size + 3) [.slice ya y.length yc] := by
      have := Box.new (((w.alloc (.cells #[.int .i64 t.op, .string t.atom.name, .slice a t.atom.args.length cap, .string t.v, .slice a2 t.parts.length cap2] 36)).alloc (.cells #[.int .i64 u.op, .string u.atom.name, .slice a' u.atom.args.length cap', .string u.v, .slice a2' u.parts.length cap2'] 36)).alloc (.cells #[.slice xa x.length xc] 56)) [.slice ya y.length yc] 56
      simpa only [World.size_alloc] using this
    have f6 : ((((w.alloc (.cells #[.int .i64 t.op, .string t.atom.name, .slice a t.atom.args.length cap, .string t.v, .slice a2 t.parts.length cap2] 36)).alloc (.cells #[.int .i64 u.op, .string u.atom.name, .slice a' u.atom.args.length cap', .string u.v, .slice a2' u.parts.length cap2'] 36)).alloc (.cells #[.slice xa x.length xc] 56)).alloc (.cells #[.slice ya y.length yc] 56)).frozen? ⟨w.heap.size + 2, 0, none⟩ = false := (World.frozen?_alloc_past _ _ 0 (by simp)).trans (World.frozen?_alloc_at _ _ _ 0 (by simp))
    have f7 : ((((w.alloc (.cells #[.int .i64 t.op, .string t.atom.name, .slice a t.atom.args.length cap, .string t.v, .slice a2 t.parts.length cap2] 36)).alloc (.cells #[.int .i64 u.op, .string u.atom.name, .slice a' u.atom.args.length cap', .string u.v, .slice a2' u.parts.length cap2'] 36)).alloc (.cells #[.slice xa x.length xc] 56)).alloc (.cells #[.slice ya y.length yc] 56)).frozen? ⟨w.heap.size + 3, 0, none⟩ = false := World.frozen?_alloc_at _ _ _ 0 (by simp)
    replace hT := Fm.at_keep (Keeps.all hW) hT
    replace hU := Fm.at_keep (Keeps.all hW) hU
    have HX0 := hid (D.rd_keep (Keeps.all hW) _ _ HXR.out)
    have HY0 := hid (D.rd_keep (Keeps.all hW) _ _ HYR.out)
    go_enter Try.func30, Try.ntmps30
    go_wp2_with fail
    generalize ((((w.alloc (.cells #[.int .i64 t.op, .string t.atom.name, .slice a t.atom.args.length cap, .string t.v, .slice a2 t.parts.length cap2] 36)).alloc (.cells #[.int .i64 u.op, .string u.atom.name, .slice a' u.atom.args.length cap', .string u.v, .slice a2' u.parts.length cap2'] 36)).alloc (.cells #[.slice xa x.length xc] 56)).alloc (.cells #[.slice ya y.length yc] 56)) = w0 at *
    go_ret
    exact Gives.mk (ret_bool HX.out.symm) hW
theorem alpha_any (t : Fm) : AlphaI t := Fm.ind (P := AlphaI) (fun o a v ps h => alpha_of (.node o a v ps) h) t
end Go.Proofs.Ythpookgpmnbilaa
