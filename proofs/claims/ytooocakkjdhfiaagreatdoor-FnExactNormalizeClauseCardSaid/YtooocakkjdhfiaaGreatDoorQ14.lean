/- Several texts in one file. -/
import Derived.Test.YtooocakkjdhfiaaGreatDoorRows
import Derived.Test.YtooocakkjdhfiaaGreatDoorQ01
import Derived.Test.YtooocakkjdhfiaaGreatDoorQ02
import Derived.WalkSpells
import Derived.WalkLawsBesides
import Derived.Test.YtooocakkjdhfiaaGreatDoorQ13
import Derived.Deep.RegionHeld3
import Derived.Deep.RegionHeld
/- The reference and the program compare terms: both tell whether the two trees are one. -/
namespace Go.Proofs.YtooocakkjdhfiaaGreatDoor
set_option maxRecDepth 100000
open Go.RowKit

/-- f tells whether two terms are one -/
def Tells (f : FuncId) (t : Tm) : Prop := ∀ (u : Tm) (S : Nat → Prop) (c0 c1 d0 d1 : Value) (w : World), Tm.at S w c0 c1 t → Tm.at S w d0 d1 u → Calls Tryz.prog f #[.agg #[c0, c1], .agg #[d0, d1]] w fun e w' => e = .returned (.bool (Tm.eqb t u)) ∧ Below w.heap.size w w'

theorem Tm.eqb_name {n m : ByteArray} {ts us : List Tm} (h : n ≠ m) : Tm.eqb (.node n ts) (.node m us) = false := by simp [Tm.eqb, h]
theorem Tm.eqb_args (n : ByteArray) (ts us : List Tm) : Tm.eqb (.node n ts) (.node n us) = Tm.eqbs ts us := by simp [Tm.eqb]


set_option maxHeartbeats 400000 in
theorem equalFunc_of (ts : List Tm) (h : ∀ t ∈ ts, Tells 99 t) (us : List Tm) (S : Nat → Prop) (v u : Value) (w : World) (hr : D.rd S w v (Tm.sd ts)) (hr' : D.rd S w u (Tm.sd us)) :
    Calls Tryz.prog 125 #[v, u, .func (.func 99) #[] #[]] w fun e w' => e = .returned (.bool (Tm.eqbs ts us)) ∧ Below w.heap.size w w' := by
  obtain ⟨a, cap, rfl, hlen, hcap⟩ := Tm.sd_form hr
  obtain ⟨a', cap', rfl, hlen', hcap'⟩ := Tm.sd_form hr'
  unfold big at hlen hlen'
  by_cases hll : ts.length = us.length
  · rw [← hll] at hr' hlen' hcap' ⊢
    have HL := hid hll
    clear hll
    go_enter Tryz.func125, Tryz.ntmps125
    go_wp2_with fail
    go_loopw [17] (fun i wr => ∃ (k : Nat), k ≤ ts.length ∧ i = .int .i64 k ∧ Hid (ts.take k = us.take k) ∧ Below w.heap.size w wr) (fun i _ => ts.length - (intOf i).toNat)
    case atStart => exact ⟨0, Nat.zero_le _, rfl, by simp [Hid], Below.refl _ _⟩
    case round =>
      obtain ⟨k, hk, rfl, HX, hb⟩ := hrel
      by_cases hlt : k < ts.length
      · have hne : ts ≠ [] := by intro e; subst e; simp at hlt
        have hlt' : k < us.length := by rw [← HL.out]; exact hlt
        have hne' : us ≠ [] := by intro e; subst e; simp at hlt'
        obtain ⟨b, off, rfl, hS, hbl, hrr⟩ := Tm.sd_get hr hne
        obtain ⟨b', off', rfl, hS', hbl', hrr'⟩ := Tm.sd_get hr' hne'
        obtain ⟨c0, c1, q0, q1, q2⟩ := hrr k hlt
        obtain ⟨d0, d1, r0, r1, r2⟩ := hrr' k hlt'
        obtain ⟨rfl, -, x, xc, rfl⟩ := Tm.at_form q2
        obtain ⟨rfl, -, y, yc, rfl⟩ := Tm.at_form r2
        replace q0 := (hb.cell (p := ⟨b, off + k * 2, none⟩) hbl).trans q0
        replace q1 := (hb.cell (p := ⟨b, off + k * 2 + 1, none⟩) hbl).trans q1
        replace q2 := Tm.at_keep (Keeps.all hb) q2
        replace r0 := (hb.cell (p := ⟨b', off' + k * 2, none⟩) hbl').trans r0
        replace r1 := (hb.cell (p := ⟨b', off' + k * 2 + 1, none⟩) hbl').trans r1
        replace r2 := Tm.at_keep (Keeps.all hb) r2
        have r0' := cell_alloc r0
        have r1' := cell_alloc r1
        have hmem := h ts[k] (List.getElem_mem hlt)
        clear hr hrr hr' hrr'
        go_wp2_with fail
        have hbx : Below wr.heap.size wr ((wr.alloc (.cells #[.string ts[k].name, .slice x ts[k].args.length xc] 50)).alloc (.cells #[.string us[k].name, .slice y us[k].args.length yc] 50)) := ((Below.refl _ _).alloc (Nat.le_refl _) _).alloc (by simp) _
        refine (hmem _ _ _ _ _ _ _ (Tm.at_keep (Keeps.all hbx) q2) (Tm.at_keep (Keeps.all hbx) r2)).mono ?_
        rintro e w2 ⟨rfl, hb2⟩
        have hb3 : Below w.heap.size w w2 := hb.trans ((hbx.trans (hb2.mono hbx.size)).mono hb.size)
        clear hbx hb2
        by_cases he : Tm.eqb ts[k] us[k] = true
        · have HZ := hid (Tm.eqbs_take hlt hlt' HX.out he)
          rw [he]
          go_wp2_with fail
          go_roundw
          case rel => exact ⟨k + 1, by omega, by go_num, HZ, hb3⟩
          case measure => simp [intOf]; omega
        · have he' : Tm.eqb ts[k] us[k] = false := by simpa using he
          have HZ := hid (Tm.eqbs_at hlt hlt' he')
          rw [he']
          clear he he'
          go_wp2_with fail
          go_ret
          exact ⟨ret_bool HZ.out.symm, hb3⟩
      · obtain rfl : k = ts.length := by omega
        have HY : Hid (Tm.eqbs ts us = true) := by
          have := HX.out
          rw [List.take_length, HL.out, List.take_length] at this
          rw [Hid, Tm.eqbs_iff]; exact this
        go_wp2_with fail
        go_ret
        exact ⟨ret_bool HY.out.symm, hb⟩
  · have HY := hid (Tm.eqbs_length hll)
    go_enter Tryz.func125, Tryz.ntmps125
    go_wp2_with fail
    go_ret
    exact ⟨ret_bool HY.out.symm, Below.refl _ _⟩

set_option maxHeartbeats 400000 in
theorem equalTerms_of (n : ByteArray) (ts : List Tm) (h : ∀ t ∈ ts, Tells 99 t) : Tells 99 (.node n ts) := by
  intro u S c0 c1 d0 d1 w hr hr'
  obtain ⟨m, us⟩ := u
  obtain ⟨rfl, hn, -⟩ := Tm.at_form hr
  obtain ⟨rfl, hm, -⟩ := Tm.at_form hr'
  have hs := hr.2
  have hs' := hr'.2
  simp only [Tm.name, Tm.args] at hs hs' hn hm ⊢
  clear hr hr'
  have hbx : Below w.heap.size w ((w.alloc (.cells #[.string n, c1] 50)).alloc (.cells #[.string m, d1] 50)) := ((Below.refl _ _).alloc (Nat.le_refl _) _).alloc (by simp) _
  by_cases hnm : n = m
  · subst hnm
    have HN := hid (Tm.eqb_args n ts us)
    have hbq := (beq_self_eq_true n.toList)
    go_enter Tryz.func99, Tryz.ntmps99
    go_wp2_with fail
    refine (equalFunc_of ts h us S _ _ _ (D.rd_below hbx hs) (D.rd_below hbx hs')).mono ?_
    rintro e w2 ⟨rfl, hb2⟩
    have hb3 : Below w.heap.size w w2 := hbx.trans (hb2.mono hbx.size)
    clear hbx hb2
    go_wp2_with fail
    go_ret
    exact ⟨ret_bool (by rw [HN.out]), hb3⟩
  · have HX := hid (Tm.eqb_name (ts := ts) (us := us) hnm)
    have hne := toList_ne hnm
    go_enter Tryz.func99, Tryz.ntmps99
    go_wp2_with fail
    go_ret
    exact ⟨ret_bool HX.out.symm, hbx⟩
theorem equalTerms_any (t : Tm) : Tells 99 t := Tm.ind (fun n ts h => equalTerms_of n ts h) t

theorem impl_EqualTerms {t u : Tm} {S : Nat → Prop} {c0 c1 d0 d1 : Value} {w : World} (h : Tm.at S w c0 c1 t) (_ : t.bulk ≤ 1048576) (k : Tm.at S w d0 d1 u) (_ : u.bulk ≤ 1048576) :
    Calls Tryz.prog 99 #[.agg #[c0, c1], .agg #[d0, d1]] w (Gives w (.bool (Tm.eqb t u))) :=
  (equalTerms_any t u S c0 c1 d0 d1 w h k).mono fun _ _ ⟨he, hb⟩ => Gives.mk he hb
end Go.Proofs.YtooocakkjdhfiaaGreatDoor
/- Neighbours that are alike are struck: slices.CompactFunc in the program's text. -/
namespace Go.Proofs.YtooocakkjdhfiaaGreatDoor
set_option maxRecDepth 100000
open Go.RowKit

set_option maxHeartbeats 1000000 in
theorem sameLiteral_any {t u : Lit} {S : Nat → Prop} {c0 c1 c2 d0 d1 d2 : Value} {w : World} (hT : Lit.at S w c0 c1 c2 t) (hU : Lit.at S w d0 d1 d2 u) : Calls Tryz.prog 82 #[.agg #[c0, c1, c2], .agg #[d0, d1, d2]] w (Gives w (.bool (Lit.eqb t u))) := by
  by_cases hp : t.pos = u.pos
  · have hs1 : (t.pos == u.pos) = true := by rw [hp]; simp
    have HE : Hid (Lit.eqb t u = Tm.eqb t.atom u.atom) := by rw [Hid, Lit.eqb, hp]; simp
    clear hp
    obtain ⟨rfl, rfl, a, cap, rfl⟩ := Lit.at_form hT
    obtain ⟨rfl, rfl, a', cap', rfl⟩ := Lit.at_form hU
    have hW : Below w.heap.size w ((w.alloc (.cells #[.bool t.pos, .string t.atom.name, .slice a t.atom.args.length cap] 52)).alloc (.cells #[.bool u.pos, .string u.atom.name, .slice a' u.atom.args.length cap'] 52)) := ((Below.refl _ _).alloc (Nat.le_refl _) _).alloc (by simp) _
    have bT : Box ((w.alloc (.cells #[.bool t.pos, .string t.atom.name, .slice a t.atom.args.length cap] 52)).alloc (.cells #[.bool u.pos, .string u.atom.name, .slice a' u.atom.args.length cap'] 52)) w.heap.size [.bool t.pos, .string t.atom.name, .slice a t.atom.args.length cap] := (Box.new w _ _).alloc _
    have bU : Box ((w.alloc (.cells #[.bool t.pos, .string t.atom.name, .slice a t.atom.args.length cap] 52)).alloc (.cells #[.bool u.pos, .string u.atom.name, .slice a' u.atom.args.length cap'] 52)) (w.heap.size + 1) [.bool u.pos, .string u.atom.name, .slice a' u.atom.args.length cap'] := by
      have := Box.new (w.alloc (.cells #[.bool t.pos, .string t.atom.name, .slice a t.atom.args.length cap] 52)) [.bool u.pos, .string u.atom.name, .slice a' u.atom.args.length cap'] 52
      simpa only [World.size_alloc] using this
    replace hT := Lit.at_keep (Keeps.all hW) hT
    replace hU := Lit.at_keep (Keeps.all hW) hU
    go_enter Tryz.func82, Tryz.ntmps82
    go_wp2_with fail
    generalize ((w.alloc (.cells #[.bool t.pos, .string t.atom.name, .slice a t.atom.args.length cap] 52)).alloc (.cells #[.bool u.pos, .string u.atom.name, .slice a' u.atom.args.length cap'] 52)) = w0 at *
    refine (equalTerms_any t.atom u.atom S _ _ _ _ _ (Lit.at_atom hT) (Lit.at_atom hU)).mono ?_
    rintro e w1 ⟨rfl, hb⟩
    replace hW := hW.trans (hb.mono hW.size)
    replace bT := bT.keep hb
    replace bU := bU.keep hb
    replace hT := Lit.at_keep (Keeps.all hb) hT
    replace hU := Lit.at_keep (Keeps.all hb) hU
    clear hb
    go_wp2_with fail
    go_ret
    exact Gives.mk (ret_bool HE.out.symm) hW
  · have hs1 : (t.pos == u.pos) = false := by simpa using hp
    have HE : Hid (Lit.eqb t u = false) := by rw [Hid, Lit.eqb, decide_eq_false hp]; rfl
    clear hp
    obtain ⟨rfl, rfl, a, cap, rfl⟩ := Lit.at_form hT
    obtain ⟨rfl, rfl, a', cap', rfl⟩ := Lit.at_form hU
    have hW : Below w.heap.size w ((w.alloc (.cells #[.bool t.pos, .string t.atom.name, .slice a t.atom.args.length cap] 52)).alloc (.cells #[.bool u.pos, .string u.atom.name, .slice a' u.atom.args.length cap'] 52)) := ((Below.refl _ _).alloc (Nat.le_refl _) _).alloc (by simp) _
    have bT : Box ((w.alloc (.cells #[.bool t.pos, .string t.atom.name, .slice a t.atom.args.length cap] 52)).alloc (.cells #[.bool u.pos, .string u.atom.name, .slice a' u.atom.args.length cap'] 52)) w.heap.size [.bool t.pos, .string t.atom.name, .slice a t.atom.args.length cap] := (Box.new w _ _).alloc _
    have bU : Box ((w.alloc (.cells #[.bool t.pos, .string t.atom.name, .slice a t.atom.args.length cap] 52)).alloc (.cells #[.bool u.pos, .string u.atom.name, .slice a' u.atom.args.length cap'] 52)) (w.heap.size + 1) [.bool u.pos, .string u.atom.name, .slice a' u.atom.args.length cap'] := by
      have := Box.new (w.alloc (.cells #[.bool t.pos, .string t.atom.name, .slice a t.atom.args.length cap] 52)) [.bool u.pos, .string u.atom.name, .slice a' u.atom.args.length cap'] 52
      simpa only [World.size_alloc] using this
    replace hT := Lit.at_keep (Keeps.all hW) hT
    replace hU := Lit.at_keep (Keeps.all hW) hU
    go_enter Tryz.func82, Tryz.ntmps82
    go_wp2_with fail
    generalize ((w.alloc (.cells #[.bool t.pos, .string t.atom.name, .slice a t.atom.args.length cap] 52)).alloc (.cells #[.bool u.pos, .string u.atom.name, .slice a' u.atom.args.length cap'] 52)) = w0 at *
    go_ret
    exact Gives.mk (ret_bool HE.out.symm) hW

theorem zeroLitV (w : World) : (zeroValue 52).run Tryz.prog w = .ok (.agg #[.bool false, .string ByteArray.empty, .slice none 0 0]) w := by kernel_rfl
theorem oneLitV : ∀ v ∈ (Value.agg #[.bool false, .string ByteArray.empty, .slice none 0 0]).cells.toList, v.oneCell' = true := by
  intro u hu
  simp [Value.cells] at hu
  rcases hu with rfl | rfl | rfl <;> rfl
def TV.ed (p : TV) : List D := p.2.1.cs
theorem TV.ev_ed (p : TV) : (TV.ev p).length = (TV.ed p).length := Lit.ev_ed p.2
theorem TV.flat_ed (d : List TV) : d.flatMap TV.ed = Lit.css (d.map fun p => p.2.1) := by
  rw [Lit.css_flat, List.flatMap_map]; rfl

/-- what CompactFunc comes to -/
def Struck (xs : List Lit) (F : List Nat) (w : World) (e : Ending) (w' : World) : Prop := ∃ v' F', e = .returned v' ∧ D.own w' v' (Lit.sd (compactL xs)) F' ∧ (∀ y ∈ F', y ∈ F) ∧ Mk F w w'
set_option maxHeartbeats 2000000 in
theorem compactLit_any {xs : List Lit} {v : Value} {F : List Nat} {w : World} (ho : D.own w v (Lit.sd xs) F) :
    Calls Tryz.prog 81 #[v, .func (.func 82) #[] #[]] w (Struck xs F w) := by
  obtain ⟨a, cap, rfl⟩ := Lit.sd_own_form ho
  have hlen : xs.length ≤ 9223372036854775807 := by rw [Lit.sd_css, D.own] at ho; obtain ⟨_, _, _, h, _⟩ := ho; exact h
  have hcap : xs.length ≤ cap := by rw [Lit.sd_css, D.own] at ho; obtain ⟨_, _, e, _, h, _⟩ := ho; injection e with _ _ e; subst e; exact h
  by_cases hl2 : xs.length < 2
  · have HF : Hid (compactL xs = xs) := compact_same fun k h => absurd h (by omega)
    have HO := hid ho
    have hl3 : (xs.length : Int) < 2 := by omega
    clear ho
    go_enter Tryz.func81, Tryz.ntmps81
    go_wp2_with fail
    go_ret
    exact ⟨_, F, rfl, by rw [HF.out]; exact HO.out, fun _ h => h, Mk.refl _ _⟩
  · have hl3 : ¬ (xs.length : Int) < 2 := by omega
    have hne : xs ≠ [] := by intro e; subst e; simp at hl2
    have HO := hid ho
    have ho2 := ho
    rw [Lit.sd_css] at ho2
    obtain ⟨b, off, ty, vs, F', rfl, rfl, hbF, hrow, hvl, hol⟩ := own_row ho2 (Lit.css_ne hne)
    obtain ⟨d, hd, hvd, hds⟩ := Lit.items xs vs F' hol
    obtain ⟨T, HTD⟩ : ∃ T, Hid (tagD none d = T) := ⟨_, hid rfl⟩
    have hdl : d.length = xs.length := by rw [← hd]; simp
    have hTl : T.length = xs.length := by rw [← HTD.out, tagD_length]; exact hdl
    have HT2 : Hid (∀ j (h : j < T.length) (h' : j < xs.length), T[j].2.1 = xs[j] ∧ T[j].2.1.atom.name.size ≤ maxLen ∧ (∃ a c, T[j].2.2 = .slice a T[j].2.1.atom.args.length c) ∧ D.rd (· ∈ F') w T[j].2.2 (Tm.sd T[j].2.1.atom.args)) := fun j h h' => by
      have hjd : j < d.length := by omega
      have e : T[j].2 = d[j] := by
        have := tagD_get none d j (by rw [HTD.out]; exact h) hjd
        simpa [HTD.out] using this
      rw [e]
      refine ⟨by subst hd; simp, hds d[j] (List.getElem_mem hjd)⟩
    have HTT : Hid (∀ q (h : q + 1 < T.length), T[q + 1].1 = !Lit.eqb T[q + 1].2.1 T[q].2.1) := fun q h => by
      have hjd : q + 1 < d.length := by omega
      have e1 : T[q + 1].2 = d[q + 1] := by
        have := tagD_get none d (q + 1) (by rw [HTD.out]; exact h) hjd
        simpa [HTD.out] using this
      have e0 : T[q].2 = d[q] := by
        have := tagD_get none d q (by rw [HTD.out]; omega) (by omega)
        simpa [HTD.out] using this
      have := tagD_next none d q (by rw [HTD.out]; exact h) hjd
      rw [e1, e0]
      simpa [HTD.out] using this
    have HT0 : Hid (∀ h : 0 < T.length, T[0].1 = true) := fun h => by
      have := tagD_first d (by rw [HTD.out]; exact h)
      simpa [HTD.out] using this
    have HTC : Hid ((T.filter fun q => q.1).map (fun p => p.2.1) = compactL xs) := by
      have := tagD_compact d
      rw [HTD.out, hd] at this
      exact this
    have HROW : Hid (RowAt w b off ty (T.flatMap TV.ev)) := by rw [← HTD.out, tagD_ev, ← hvd]; exact hrow
    have HOL : Hid (OwnsL w (T.flatMap TV.ev) (T.flatMap TV.ed) F') := by
      have e1 : T.flatMap TV.ev = vs := by rw [← HTD.out, tagD_ev, hvd]
      have e2 : T.map (fun p => p.2.1) = xs := by
        apply List.ext_getElem (by rw [List.length_map]; exact hTl)
        intro n h1 h2
        rw [List.getElem_map]
        exact (HT2.out n (by simpa using h1) h2).1
      rw [TV.flat_ed, e1, e2]
      exact hol
    have hbl := hrow.lt
    have HBF := hid hbF
    clear hol hvd hrow ho ho2 hd hds hvl HTD hdl hbF
    have hT3 := TV.ev_length T
    go_enter Tryz.func81, Tryz.ntmps81
    go_wp2_with fail
    go_loopw [5] (fun i wr => ∃ m : Nat, m + 1 ≤ xs.length ∧ i = .int .i64 ((m : Int) + 1) ∧ Hid (∀ j (h : j < T.length), j < m + 1 → T[j].1 = true) ∧ Hid (Below w.heap.size w wr)) (fun i _ => xs.length - (intOf i).toNat)
    case atStart => exact ⟨0, by omega, rfl, (fun j h h' => by (have e : j = 0 := by omega); subst e; exact HT0.out h), Below.refl _ _⟩
    case round =>
      obtain ⟨m, hm, rfl, HK, HB⟩ := hrel
      by_cases hlt : m + 1 < xs.length
      · have hltI : (m : Int) + 1 < (xs.length : Int) := by omega
        have hm1 : m + 1 < T.length := by omega
        have hm0 : m < T.length := by omega
        obtain ⟨p1, P1⟩ : ∃ q, Hid (T[m + 1] = q) := ⟨_, hid rfl⟩
        obtain ⟨p0, P0⟩ : ∃ q, Hid (T[m] = q) := ⟨_, hid rfl⟩
        obtain ⟨-, s1, ⟨xa, xc, hx⟩, r1⟩ := HT2.out (m + 1) hm1 (by omega)
        obtain ⟨-, s0, ⟨ya, yc, hy⟩, r0⟩ := HT2.out m hm0 (by omega)
        obtain ⟨g0, g1, g2⟩ := TV.ev_get T (m + 1) hm1
        obtain ⟨f0, f1, f2⟩ := TV.ev_get T m hm0
        have htag := HTT.out m hm1
        rw [P1.out] at s1 hx r1 g0 g1 g2 htag
        rw [P0.out] at s0 hy r0 f0 f1 f2 htag
        obtain ⟨t1, x1, z1⟩ := p1
        obtain ⟨t0, x0, z0⟩ := p0
        simp only at s1 hx r1 g0 g1 g2 htag s0 hy r0 f0 f1 f2
        subst hx hy
        have hR := HROW.out.keep (Keeps.of_below HB.out fun y hy hl => by rw [hy]; exact hbl)
        have hbr : b < wr.heap.size := Nat.lt_of_lt_of_le hbl HB.out.size
        have cellOf : ∀ p u, (T.flatMap TV.ev)[p]? = some u → wr.cell? ⟨b, off + p, none⟩ = some u := fun p u h => by
          obtain ⟨hp, he⟩ := List.getElem?_eq_some_iff.1 h
          rw [← he]; exact hR.cell hp
        have c0 : wr.cell? ⟨b, off + (m + 1) * 3, none⟩ = some (.bool x1.pos) := cellOf _ _ g0
        have c1 : wr.cell? ⟨b, off + (m + 1) * 3 + 1, none⟩ = some (.string x1.atom.name) := cellOf ((m + 1) * 3 + 1) _ g1
        have c2 : wr.cell? ⟨b, off + (m + 1) * 3 + 1 + 1, none⟩ = some (.slice xa x1.atom.args.length xc) := cellOf ((m + 1) * 3 + 2) _ g2
        have d0 : wr.cell? ⟨b, off + m * 3, none⟩ = some (.bool x0.pos) := cellOf _ _ f0
        have d1 : wr.cell? ⟨b, off + m * 3 + 1, none⟩ = some (.string x0.atom.name) := cellOf (m * 3 + 1) _ f1
        have d2 : wr.cell? ⟨b, off + m * 3 + 1 + 1, none⟩ = some (.slice ya x0.atom.args.length yc) := cellOf (m * 3 + 2) _ f2
        have hkp : Keeps (· ∈ F') w wr.drew := Keeps.of_below HB.out.drew fun y hy hl => hl
        have hq := sameLiteral_any (t := x1) (u := x0) (S := (· ∈ F')) (w := wr.drew) (c0 := .bool x1.pos) (c1 := .string x1.atom.name) (c2 := .slice xa x1.atom.args.length xc) (d0 := .bool x0.pos) (d1 := .string x0.atom.name) (d2 := .slice ya x0.atom.args.length yc) ⟨by rw [D.rd], D.rd_str s1, D.rd_keep hkp _ _ r1⟩ ⟨by rw [D.rd], D.rd_str s0, D.rd_keep hkp _ _ r0⟩
        obtain ⟨eb, HEB⟩ : ∃ eb, Hid (Lit.eqb x1 x0 = eb) := ⟨_, hid rfl⟩
        rw [HEB.out] at hq htag
        have HQ := hid hq
        have HTG : Hid (T[m + 1].1 = !eb) := by rw [Hid, P1.out]; exact htag
        have hmI : (0 : Int) ≤ (m : Int) := by omega
        have hmW : IntKind.i64.wrap ((m : Int) + 1 - 1) = (m : Int) := by rw [show (m : Int) + 1 - 1 = m by omega, IntKind.wrap_i64]; omega
        have hmV : IntKind.i64.wrap (m : Int) = (m : Int) := by rw [IntKind.wrap_i64]; omega
        have hmJ : (0 : Int) ≤ (m : Int) + 1 := by omega
        have hmK : (m : Int) < (xs.length : Int) := by omega
        have hmE : (m : Int) + 1 - 1 = (m : Int) := by omega
        clear cellOf g0 g1 g2 f0 f1 f2 hR hq htag r1 r0
        go_wp2_with fail
        go_region_held3 (fun w' => w'.cell? ⟨b, off + (m + 1) * 3, none⟩ = some (.bool x1.pos) ∧ w'.cell? ⟨b, off + (m + 1) * 3 + 1, none⟩ = some (.string x1.atom.name) ∧ w'.cell? ⟨b, off + (m + 1) * 3 + 1 + 1, none⟩ = some (.slice xa x1.atom.args.length xc) ∧ w'.cell? ⟨b, off + m * 3, none⟩ = some (.bool x0.pos) ∧ w'.cell? ⟨b, off + m * 3 + 1, none⟩ = some (.string x0.atom.name) ∧ w'.cell? ⟨b, off + m * 3 + 1 + 1, none⟩ = some (.slice ya x0.atom.args.length yc))
          (first | exact ⟨c0, c1, c2, d0, d1, d2⟩ | exact hS1 | assumption)
          (first | (go_at_call 82; refine HQ.out.mono ?_; rintro e w2 ⟨_, rfl, hb2, rfl⟩; have hS1 := And.intro ((hb2.cell (p := ⟨b, off + (m + 1) * 3, none⟩) hbr).trans c0) (And.intro ((hb2.cell (p := ⟨b, off + (m + 1) * 3 + 1, none⟩) hbr).trans c1) (And.intro ((hb2.cell (p := ⟨b, off + (m + 1) * 3 + 1 + 1, none⟩) hbr).trans c2) (And.intro ((hb2.cell (p := ⟨b, off + m * 3, none⟩) hbr).trans d0) (And.intro ((hb2.cell (p := ⟨b, off + m * 3 + 1, none⟩) hbr).trans d1) ((hb2.cell (p := ⟨b, off + m * 3 + 1 + 1, none⟩) hbr).trans d2)))))))
        have HB2 := hid (HB.out.trans (((Below.refl _ _).drew.trans hb2).mono HB.out.size))
        clear hS1 c0 c1 c2 d0 d1 d2 hb2
        cases eb with
        | false =>
          have HKN : Hid (∀ j (h : j < T.length), j < m + 1 + 1 → T[j].1 = true) := fun j h h' => by
            by_cases hjm : j < m + 1
            · exact HK.out j h hjm
            · obtain rfl : j = m + 1 := by omega
              exact HTG.out
          go_wp2_with fail
          go_roundw
          case rel => exact ⟨m + 1, by omega, by go_num, HKN, HB2⟩
          case measure => simp [intOf]; omega
        | true =>
          have HK0 : Hid (KInv (fun q : TV => q.1) T (m + 1 + 1) (m + 1) T) := KInv.start hm1 (fun j h h' => HK.out j h h') HTG.out
          have HROW2 : Hid (RowAt w2 b off ty (T.flatMap TV.ev)) := HROW.out.keep (Keeps.of_below HB2.out fun y hy hl => by rw [hy]; exact hbl)
          have HM2 : Hid (Mk [b] w w2) := Mk.of_below HB2.out
          have hcm : ¬ cap = m + 1 := by omega
          have hcmI : (m : Int) + 1 ≤ (xs.length : Int) := by omega
          have hcI : (xs.length : Int) ≤ (cap : Int) := by omega
          obtain ⟨N, HN⟩ : ∃ N, Hid (xs.length - (m + 1) = N) := ⟨_, hid rfl⟩
          have HNN : Hid (xs.length = m + 1 + N) := by have := HN.out; rw [Hid]; omega
          have hNs : xs.length - (m + 1) = N := HN.out
          go_wp2_with fail
          clear hNs
          go_loopw [5, 7] (fun x i wr => ∃ (i' q : Nat) (E : List TV), x = .int .i64 i' ∧ i = .int .i64 ((q : Int) + 1) ∧ q + 1 ≤ N ∧ Hid (KInv (fun q : TV => q.1) T (m + 1 + q + 1) i' E) ∧ Hid (E.drop (m + 1 + q) = T.drop (m + 1 + q)) ∧ Hid (RowAt wr b off ty (E.flatMap TV.ev)) ∧ Hid (Mk [b] w wr)) (fun _ i _ => N - (intOf i).toNat)
          case atStart => exact ⟨m + 1, 0, T, by go_num, rfl, by have := HNN.out; omega, HK0, rfl, HROW2, HM2⟩
          case round =>
            obtain ⟨i, q, E, rfl, rfl, hq1, HKI, HDR, HR, HM⟩ := hrel
            have hEl : E.length = T.length := HKI.out.1
            have hij : i < m + 1 + q + 1 := HKI.out.2.2.2.2.1
            have hbr : b < wr.heap.size := Nat.lt_of_lt_of_le hbl HM.out.size
            have hTN := HNN.out
            by_cases hlt2 : q + 1 < N
            · have hltJ : (q : Int) + 1 < (N : Int) := by omega
              have hj1 : m + 1 + q + 1 < T.length := by omega
              have hj0 : m + 1 + q < T.length := by omega
              have hiE : i < E.length := by omega
              have e1 : E[m + 1 + q + 1]'(by omega) = T[m + 1 + q + 1] := HKI.out.at hj1 (by omega)
              have e0 : E[m + 1 + q]'(by omega) = T[m + 1 + q] := by
                have h3 := HDR.out
                rw [List.drop_eq_getElem_cons (by omega : m + 1 + q < E.length), List.drop_eq_getElem_cons hj0] at h3
                injection h3
              obtain ⟨p1, P1⟩ : ∃ z, Hid (T[m + 1 + q + 1] = z) := ⟨_, hid rfl⟩
              obtain ⟨p0, P0⟩ : ∃ z, Hid (T[m + 1 + q] = z) := ⟨_, hid rfl⟩
              obtain ⟨-, s1', ⟨za, zc, hx⟩, r1⟩ := HT2.out (m + 1 + q + 1) hj1 (by omega)
              obtain ⟨-, s0', ⟨wa, wc, hy⟩, r0⟩ := HT2.out (m + 1 + q) hj0 (by omega)
              obtain ⟨g0, g1, g2⟩ := TV.ev_get E (m + 1 + q + 1) (by omega)
              obtain ⟨f0, f1, f2⟩ := TV.ev_get E (m + 1 + q) (by omega)
              have htag := HTT.out (m + 1 + q) hj1
              rw [e1] at g0 g1 g2
              rw [e0] at f0 f1 f2
              rw [P1.out] at s1' hx r1 g0 g1 g2 htag
              rw [P0.out] at s0' hy r0 f0 f1 f2 htag
              obtain ⟨t1', y1, z1'⟩ := p1
              obtain ⟨t0', y0, z0'⟩ := p0
              simp only at s1' hx r1 g0 g1 g2 htag s0' hy r0 f0 f1 f2
              subst hx hy
              have hl3 := TV.ev_length E
              have cellOf : ∀ p u, (E.flatMap TV.ev)[p]? = some u → wr.cell? ⟨b, off + p, none⟩ = some u := fun p u h => by
                obtain ⟨hp, he⟩ := List.getElem?_eq_some_iff.1 h
                rw [← he]; exact HR.out.cell hp
              have c0 : wr.cell? ⟨b, off + (m + 1) * 3 + (q + 1) * 3, none⟩ = some (.bool y1.pos) := by rw [← cellOf _ _ g0]; congr 2; omega
              have c1 : wr.cell? ⟨b, off + (m + 1) * 3 + (q + 1) * 3 + 1, none⟩ = some (.string y1.atom.name) := by rw [← cellOf _ _ g1]; congr 2; omega
              have c2 : wr.cell? ⟨b, off + (m + 1) * 3 + (q + 1) * 3 + 1 + 1, none⟩ = some (.slice za y1.atom.args.length zc) := by rw [← cellOf _ _ g2]; congr 2; omega
              have d0 : wr.cell? ⟨b, off + (m + 1) * 3 + q * 3, none⟩ = some (.bool y0.pos) := by rw [← cellOf _ _ f0]; congr 2; omega
              have d1 : wr.cell? ⟨b, off + (m + 1) * 3 + q * 3 + 1, none⟩ = some (.string y0.atom.name) := by rw [← cellOf _ _ f1]; congr 2; omega
              have d2 : wr.cell? ⟨b, off + (m + 1) * 3 + q * 3 + 1 + 1, none⟩ = some (.slice wa y0.atom.args.length wc) := by rw [← cellOf _ _ f2]; congr 2; omega
              have hkp : Keeps (· ∈ F') w wr.drew := (HM.out.trans (Mk.of_below (Below.refl _ _).drew)).1.mono fun y hy => by
                have hyb : y ≠ b := fun e => HBF.out (e ▸ hy)
                simpa using hyb
              have hq := sameLiteral_any (t := y1) (u := y0) (S := (· ∈ F')) (w := wr.drew) (c0 := .bool y1.pos) (c1 := .string y1.atom.name) (c2 := .slice za y1.atom.args.length zc) (d0 := .bool y0.pos) (d1 := .string y0.atom.name) (d2 := .slice wa y0.atom.args.length wc) ⟨by rw [D.rd], D.rd_str s1', D.rd_keep hkp _ _ r1⟩ ⟨by rw [D.rd], D.rd_str s0', D.rd_keep hkp _ _ r0⟩
              obtain ⟨eb, HEB⟩ : ∃ eb, Hid (Lit.eqb y1 y0 = eb) := ⟨_, hid rfl⟩
              rw [HEB.out] at hq htag
              have HQ := hid hq
              have HTG : Hid (T[m + 1 + q + 1].1 = !eb) := by rw [Hid, P1.out]; exact htag
              have hqI : (0 : Int) ≤ (q : Int) := by omega
              have hqJ : (0 : Int) ≤ (q : Int) + 1 := by omega
              have hqK : (q : Int) < (N : Int) := by omega
              have hqW : IntKind.i64.wrap ((q : Int) + 1 - 1) = (q : Int) := by rw [show (q : Int) + 1 - 1 = q by omega, IntKind.wrap_i64]; omega
              have hqV : IntKind.i64.wrap (q : Int) = (q : Int) := by rw [IntKind.wrap_i64]; omega
              have hqE : (q : Int) + 1 - 1 = (q : Int) := by omega
              have hDN : Hid (∀ u, (E.set i u).drop (m + 1 + q + 1) = T.drop (m + 1 + q + 1)) := fun u => by rw [List.drop_set_of_lt (by omega)]; exact HKI.out.2.2.2.1
              have hDS : Hid (E.drop (m + 1 + q + 1) = T.drop (m + 1 + q + 1)) := HKI.out.2.2.2.1
              clear cellOf g0 g1 g2 f0 f1 f2 hq htag r1 r0 e0 e1 hTN
              go_wp2_with fail
              go_region_held3 (fun w' => w'.cell? ⟨b, off + (m + 1) * 3 + (q + 1) * 3, none⟩ = some (.bool y1.pos) ∧ w'.cell? ⟨b, off + (m + 1) * 3 + (q + 1) * 3 + 1, none⟩ = some (.string y1.atom.name) ∧ w'.cell? ⟨b, off + (m + 1) * 3 + (q + 1) * 3 + 1 + 1, none⟩ = some (.slice za y1.atom.args.length zc) ∧ w'.cell? ⟨b, off + (m + 1) * 3 + q * 3, none⟩ = some (.bool y0.pos) ∧ w'.cell? ⟨b, off + (m + 1) * 3 + q * 3 + 1, none⟩ = some (.string y0.atom.name) ∧ w'.cell? ⟨b, off + (m + 1) * 3 + q * 3 + 1 + 1, none⟩ = some (.slice wa y0.atom.args.length wc))
                (first | exact ⟨c0, c1, c2, d0, d1, d2⟩ | exact hS1 | assumption)
                (first | (go_at_call 82; refine HQ.out.mono ?_; rintro e w3 ⟨_, rfl, hb3, rfl⟩; have hS1 := And.intro ((hb3.cell (p := ⟨b, off + (m + 1) * 3 + (q + 1) * 3, none⟩) hbr).trans c0) (And.intro ((hb3.cell (p := ⟨b, off + (m + 1) * 3 + (q + 1) * 3 + 1, none⟩) hbr).trans c1) (And.intro ((hb3.cell (p := ⟨b, off + (m + 1) * 3 + (q + 1) * 3 + 1 + 1, none⟩) hbr).trans c2) (And.intro ((hb3.cell (p := ⟨b, off + (m + 1) * 3 + q * 3, none⟩) hbr).trans d0) (And.intro ((hb3.cell (p := ⟨b, off + (m + 1) * 3 + q * 3 + 1, none⟩) hbr).trans d1) ((hb3.cell (p := ⟨b, off + (m + 1) * 3 + q * 3 + 1 + 1, none⟩) hbr).trans d2)))))))
              have HM3 : Hid (Mk [b] w w3) := HM.out.trans (Mk.of_below ((Below.refl _ _).drew.trans hb3))
              have HR3 : Hid (RowAt w3 b off ty (E.flatMap TV.ev)) := HR.out.keep (Keeps.of_below ((Below.refl _ _).drew.trans hb3) fun y hy hl => by rw [hy]; exact hbr)
              cases eb with
              | true =>
                have HKK : Hid (KInv (fun q : TV => q.1) T (m + 1 + q + 1 + 1) i E) := HKI.out.skip hj1 HTG.out
                clear hS1 c0 c1 c2 d0 d1 d2 hb3
                go_wp2_with fail
                go_roundw
                case rel => exact ⟨i, q + 1, E, rfl, by go_num, by omega, HKK, hDS, HR3, HM3⟩
                case measure => simp [intOf]; omega
              | false =>
                have HKK : Hid (KInv (fun q : TV => q.1) T (m + 1 + q + 1 + 1) (i + 1) (E.set i T[m + 1 + q + 1])) := HKI.out.keep hj1 HTG.out
                rw [P1.out] at HKK
                obtain ⟨x0', x1', x2', -, -, -⟩ := hS1
                have r0 := HR3.out.cell (i := i * 3) (by omega)
                have r1 := HR3.out.cell (i := i * 3 + 1) (by omega)
                have r2 := HR3.out.cell (i := i * 3 + 2) (by omega)
                rw [← Nat.add_assoc] at r1 r2
                have fr := HR3.out.free
                have fr0 := fr (off + i * 3)
                have fr1 := fr (off + i * 3 + 1)
                have fr2 := fr (off + i * 3 + 2)
                have HR4 : Hid (RowAt (((w3.setCell ⟨b, off + i * 3, none⟩ (.bool y1.pos)).setCell ⟨b, off + i * 3 + 1, none⟩ (.string y1.atom.name)).setCell ⟨b, off + i * 3 + 2, none⟩ (.slice za y1.atom.args.length zc)) b off ty ((E.set i (t1', y1, .slice za y1.atom.args.length zc)).flatMap TV.ev)) := by
                  have h1 := HR3.out.set (i := i * 3) (by omega) (.bool y1.pos)
                  have h2 := h1.set (i := i * 3 + 1) (by rw [List.length_set]; omega) (.string y1.atom.name)
                  have h3 := h2.set (i := i * 3 + 2) (by rw [List.length_set, List.length_set]; omega) (.slice za y1.atom.args.length zc)
                  have := TV.ev_set E i (t1', y1, .slice za y1.atom.args.length zc) hiE
                  simp only at this
                  rw [this] at h3
                  exact h3
                have HM4 : Hid (Mk [b] w (((w3.setCell ⟨b, off + i * 3, none⟩ (.bool y1.pos)).setCell ⟨b, off + i * 3 + 1, none⟩ (.string y1.atom.name)).setCell ⟨b, off + i * 3 + 2, none⟩ (.slice za y1.atom.args.length zc))) := ((HM3.out.trans (Mk.set (List.mem_cons_self ..) _)).trans (Mk.set (List.mem_cons_self ..) _)).trans (Mk.set (List.mem_cons_self ..) _)
                have hDQ := hid (hDN.out (t1', y1, .slice za y1.atom.args.length zc))
                have hiI : (0 : Int) ≤ (i : Int) := by omega
                have hiJ : (i : Int) < (xs.length : Int) := by have := HNN.out; omega
                clear c0 c1 c2 d0 d1 d2 hb3 fr hDN
                generalize (E.flatMap TV.ev)[i * 3]'(by omega) = o0 at r0
                generalize (E.flatMap TV.ev)[i * 3 + 1]'(by omega) = o1 at r1
                generalize (E.flatMap TV.ev)[i * 3 + 2]'(by omega) = o2 at r2
                go_wp2_with fail
                go_roundw
                case rel => exact ⟨i + 1, q + 1, E.set i (t1', y1, .slice za y1.atom.args.length zc), by go_num, by go_num, by omega, HKK, hDQ, HR4, HM4⟩
                case measure => simp [intOf]; omega
            · obtain rfl : q + 1 = N := by omega
              have hl3 := TV.ev_length E
              have hji : m + 1 + q + 1 = xs.length := by omega
              have hix : i < xs.length := by omega
              obtain ⟨us, hul, hcl⟩ := run_clear_rows (P := Tryz.prog) wr 26 52 _ 3 Tryz.underlying26 zeroLitV rfl (by decide) oneLitV b (off + i * 3) (xs.length - i) (cap - i) (by omega) (fun z hz => by
                rw [Nat.add_assoc, HR.out.cell (i := i * 3 + z) (by omega)]; rfl) (fun z hz => HR.out.free _)
              obtain ⟨E', hE', hEl', hEt⟩ := RowAt.setCells us (s := i * 3) HR.out (by rw [hul, hl3]; omega)
              have HE' := hid hE'
              have HMU : Hid (Mk [b] w (wr.setCells b (off + i * 3) us)) := HM.out.trans (Mk.setCells (List.mem_cons_self ..) _ _ _)
              have hfil : (E.take i) = T.filter fun q : TV => q.1 := by
                have := HKI.out.2.2.1
                rw [hji, ← hTl, List.take_length] at this
                exact this
              have hil : i ≤ E.length := by omega
              obtain ⟨F2, hO2, hF2⟩ := items_sub TV.ev_ed (List.filter_sublist (p := fun q : TV => q.1) (l := T)) HOL.out
              have hO3 := hO2.keep (w' := wr.setCells b (off + i * 3) us) (HMU.out.1.mono fun y hy => by
                have hyb : y ≠ b := fun e => HBF.out (e ▸ hF2 y hy)
                simpa using hyb)
              rw [TV.flat_ed, HTC.out] at hO3
              have hil2 : (compactL xs).length = i := by rw [← HTC.out, List.length_map, ← hfil, List.length_take]; omega
              obtain ⟨G, hG, hGs⟩ := row_own (n := i) (cap := cap) HE'.out hO3 (fun q => HBF.out (hF2 _ q)) (fun p hp => by
                have hp2 := hp
                rw [← hfil, TV.ev_length, List.length_take] at hp2
                rw [← List.getElem?_eq_getElem hp, ← hfil, hEt p (by omega), TV.ev_take E i p (by omega)]) (by unfold big; omega) (by omega) (fun h0 => by
                refine Lit.css_ne ?_
                intro e; rw [e] at hil2; simp at hil2; omega)
              have HG : Hid (D.own (wr.setCells b (off + i * 3) us) (.slice (some ⟨b, off, none⟩) i cap) (Lit.sd (compactL xs)) G) := by
                rw [Hid, Lit.sd_css, hil2]; exact hG
              have HGF : Hid (∀ y ∈ G, y ∈ b :: F') := fun y hy => by
                rcases hGs y hy with rfl | q
                · simp
                · simp [hF2 y q]
              have hni : 0 < xs.length - i := by omega
              have hcz : i ≤ cap := by omega
              have hcq : ¬ cap = i := by omega
              have hiI : (0 : Int) ≤ (i : Int) := by omega
              have hiJ : (i : Int) ≤ (xs.length : Int) := by omega
              have hiK : (i : Int) ≤ (cap : Int) := by omega
              clear hG hO3 hO2 hE' hEt hfil hil2 hji hTN
              go_wp2_with fail
              go_ret
              exact ⟨_, G, rfl, HG.out, HGF.out, HMU.out.mono (by simp)⟩
      · have hltI : ¬ (m : Int) + 1 < (xs.length : Int) := by omega
        have HF : Hid (compactL xs = xs) := compact_same fun q h => by
          have h1 := HK.out (q + 1) (by omega) (by omega)
          have h2 := HTT.out q (by omega)
          rw [h1, (HT2.out (q + 1) (by omega) h).1, (HT2.out q (by omega) (by omega)).1] at h2
          cases he : Lit.eqb xs[q + 1] xs[q]
          · rfl
          · rw [he] at h2; cases h2
        go_wp2_with fail
        go_ret
        exact ⟨.slice (some ⟨b, off, none⟩) xs.length cap, b :: F', rfl, by rw [HF.out]; exact D.own_keep _ _ _ (Keeps.all HB.out) HO.out, fun _ h => h, Mk.of_below HB.out⟩
end Go.Proofs.YtooocakkjdhfiaaGreatDoor
/- A region that draws its order, whose last operations wait for all others: the others first. -/
namespace Go.Proofs.YtooocakkjdhfiaaGreatDoor
set_option maxRecDepth 100000

/-- each operation of l is waited for by a later one of l or by each of tl, whose operations wait for one another; no guard leads out of l -/
def lateOk (l tl : List Oper) : Bool :=
  wfDeps l &&
  (l.all fun o => match o.guard with | none => true | some (j, _) => decide (j < l.length)) &&
  ((List.range tl.length).all fun k => match tl[k]? with
    | none => true
    | some o => o.guard.isNone && ((depsOf o).all fun d => decide (d < l.length + k)) && (decide (k = 0) || (depsOf o).contains (l.length + (k - 1))) &&
      (List.range l.length).all fun i => (depsOf o).contains i || (List.range l.length).any fun j => decide (i < j) && (match l[j]? with | some o' => (depsOf o').contains i | none => false))

/-- the last operations, one behind the other -/
def wpTail (P : Program) (Q : Exit → Act → World → Prop) : List Oper → Act → World → Prop
  | [], a, w => Q .normal a w
  | o :: os, a, w => Oper.wp P o a w (wpTail P Q os) Q

def LateQ (P : Program) (Q : Exit → Act → World → Prop) (tl : List Oper) : Exit → Act → World → Prop
  | .normal, a, w => wpTail P Q tl a w
  | .exit i, a, w => Q (.exit i) a w
  | .goto i, a, w => Q (.goto i) a w
  | .ret, a, w => Q .ret a w
  | .panic _, _, _ => False
  | .outgrown, a, w => Q .outgrown a w

theorem wpTail_step {P : Program} {Q : Exit → Act → World → Prop} {o : Oper} {os : List Oper} {a : Act} {w : World} (hg : o.guard = none)
    (h : ∀ K : Act → World → Prop, Shut (∀ a w, wpTail P Q os a w → K a w) → if Region.wanted o (yielded (#[] : Array Oper) a.tmps) = true then Oper.wp P o a w K Q else K (a.put o.dst undef) w) : wpTail P Q (o :: os) a w := by
  have := h (wpTail P Q os) (fun _ _ h => h)
  rw [if_pos (by simp [Region.wanted, hg])] at this
  exact this

theorem mem_depsOf {o : Oper} {d : Nat} : d ∈ depsOf o ↔ ∃ e ∈ o.after, Region.binds .any e = true ∧ e.on = d := by
  unfold depsOf
  rw [List.mem_filterMap]
  constructor
  · rintro ⟨e, he, hx⟩
    split at hx
    · rename_i hb; injection hx with hx; exact ⟨e, by simpa using he, hb, hx⟩
    · cases hx
  · rintro ⟨e, he, hb, rfl⟩
    exact ⟨e, by simpa using he, by simp [hb]⟩

theorem ready_iff {ops : Array Oper} {listed : Array Bool} {i : Nat} : i ∈ Region.ready .any ops listed ↔ i < ops.size ∧ listed.getD i true = false ∧ ∃ o, ops[i]? = some o ∧ ∀ d ∈ depsOf o, listed.getD d false = true := by
  unfold Region.ready
  simp only [List.mem_filter, List.mem_range, Bool.and_eq_true, Bool.not_eq_true']
  constructor
  · rintro ⟨h0, h1, h2⟩
    have ho : ops[i]? = some ops[i] := Array.getElem?_eq_getElem h0
    rw [ho] at h2
    simp only [Option.map_some, Option.getD_some, Array.all_eq_true'] at h2
    refine ⟨h0, h1, _, ho, fun d hd => ?_⟩
    obtain ⟨e, he, hb, rfl⟩ := mem_depsOf.1 hd
    have := h2 e he
    simpa [hb] using this
  · rintro ⟨h0, h1, o, ho, h2⟩
    refine ⟨h0, h1, ?_⟩
    rw [ho]
    simp only [Option.map_some, Option.getD_some, Array.all_eq_true']
    intro e he
    by_cases hb : Region.binds .any e = true
    · have := h2 e.on (mem_depsOf.2 ⟨e, he, hb, rfl⟩)
      simp [this]
    · simp [hb]

theorem Oper.wp_late {P : Program} {Q : Exit → Act → World → Prop} {tl : List Oper} {o : Oper} {a : Act} {w : World} {K K' : Act → World → Prop} (hK : ∀ a w, K a w → K' a w) (h : Oper.wp P o a w K (LateQ P Q tl)) : Oper.wp P o a w K' Q := by
  unfold Oper.wp at h ⊢
  generalize (execOp a.eval o).run P w = r at *
  cases r with
  | ok n w' =>
    cases n <;> simp only [Oper.upon] at h ⊢
    case value v => exact hK _ _ h
    case skip => exact hK _ _ h
    case defer d => exact hK _ _ h
    case enter f args =>
      refine Calls.mono h fun e w'' he => ?_
      cases e with
      | returned u => exact hK _ _ he
      | panicked c => exact (he : False).elim
      | outgrown => obtain ⟨a', w3, h3⟩ := he; exact ⟨a', w3, h3⟩
    case row row args => exact Rows.mono h fun u w'' he => hK _ _ he
  | halt x w' =>
    cases x <;> simp only [Oper.upon] at h ⊢
    case panic v => exact (h : False).elim

section
variable {P : Program} {Q : Exit → Act → World → Prop} {l tl : List Oper}

theorem late_get {i : Nat} (hi : i < l.length) : ((l ++ tl).toArray)[i]? = l.toArray[i]? := by simp [List.getElem?_append_left hi]
theorem late_tl (k : Nat) : ((l ++ tl).toArray)[l.length + k]? = tl[k]? := by
  rw [List.getElem?_toArray, List.getElem?_append_right (by omega), show l.length + k - l.length = k by omega]

/-- the last operations are walked -/
theorem wpAny_tail (hok : lateOk l tl = true) : ∀ (m k fuel : Nat) (a : Act) (w : World), m + k = tl.length → m ≤ fuel → wpTail P Q (tl.drop k) a w →
    wpAny P .any (l ++ tl).toArray Q fuel (Array.replicate (l.length + k) true ++ Array.replicate m false) a w := by
  have hall := hok
  unfold lateOk at hall
  simp only [Bool.and_eq_true] at hall
  obtain ⟨⟨_, _⟩, hT⟩ := hall
  rw [List.all_eq_true] at hT
  intro m
  induction m with
  | zero =>
    intro k fuel a w hm _ h
    have hr : Region.ready .any (l ++ tl).toArray (Array.replicate (l.length + k) true ++ Array.replicate 0 false) = [] := by
      rw [List.eq_nil_iff_forall_not_mem]
      intro i hi
      obtain ⟨h0, h1, _⟩ := ready_iff.1 hi
      simp only [List.size_toArray, List.length_append] at h0
      rw [Array.getD_eq_getD_getElem?] at h1
      simp [show i < l.length + k by omega] at h1
    rw [List.drop_eq_nil_of_le (by omega)] at h
    exact wpAny_done hr h fuel
  | succ m ih =>
    intro k fuel a w hm hf h
    obtain ⟨fuel, rfl⟩ : ∃ f, fuel = f + 1 := ⟨fuel - 1, by omega⟩
    have hk : k < tl.length := by omega
    have hTk := hT k (List.mem_range.2 hk)
    rw [List.getElem?_eq_getElem hk] at hTk
    simp only [Bool.and_eq_true, List.all_eq_true, decide_eq_true_eq] at hTk
    obtain ⟨⟨⟨hg, hd⟩, _⟩, _⟩ := hTk
    have hgd : ∀ d, (Array.replicate (l.length + k) true ++ Array.replicate (m + 1) false).getD d false = decide (d < l.length + k) := by
      intro d
      rw [Array.getD_eq_getD_getElem?, Array.getElem?_append]
      by_cases h1 : d < l.length + k
      · simp [h1]
      · simp only [Array.size_replicate, h1, if_false, Array.getElem?_replicate]
        split <;> simp
    have hgt : ∀ d, d < l.length + k + (m + 1) → (Array.replicate (l.length + k) true ++ Array.replicate (m + 1) false).getD d true = decide (d < l.length + k) := by
      intro d hdl
      rw [Array.getD_eq_getD_getElem?, Array.getElem?_append]
      by_cases h1 : d < l.length + k
      · simp [h1]
      · simp only [Array.size_replicate, h1, if_false, Array.getElem?_replicate]
        rw [if_pos (by omega)]; simp
    have hr : Region.ready .any (l ++ tl).toArray (Array.replicate (l.length + k) true ++ Array.replicate (m + 1) false) = [l.length + k] := by
      have hmem : ∀ i, i ∈ Region.ready .any (l ++ tl).toArray (Array.replicate (l.length + k) true ++ Array.replicate (m + 1) false) ↔ i = l.length + k := by
        intro i
        rw [ready_iff]
        constructor
        · rintro ⟨h0, h1, o, ho, h2⟩
          simp only [List.size_toArray, List.length_append] at h0
          rw [hgt i (by omega)] at h1
          have hge : ¬ i < l.length + k := by simpa using h1
          rcases Nat.lt_or_ge (l.length + k) i with hlt | hge2
          · exfalso
            obtain ⟨j, rfl⟩ : ∃ j, i = l.length + (j + 1) := ⟨i - l.length - 1, by omega⟩
            rw [late_tl] at ho
            have hTj := hT (j + 1) (List.mem_range.2 (by omega))
            rw [ho] at hTj
            simp only [Bool.and_eq_true, Bool.or_eq_true] at hTj
            obtain ⟨⟨_, hc⟩, _⟩ := hTj
            rcases hc with hc | hc
            · simp at hc
            · have hc' : l.length + j ∈ depsOf o := by simpa using hc
              have := h2 _ hc'
              rw [hgd] at this
              simp at this
              omega
          · omega
        · rintro rfl
          refine ⟨by simp; omega, by rw [hgt _ (by omega)]; simp, tl[k], by rw [late_tl, List.getElem?_eq_getElem hk], fun d hdd => ?_⟩
          rw [hgd]
          simpa using hd d hdd
      have hnd : (Region.ready .any (l ++ tl).toArray (Array.replicate (l.length + k) true ++ Array.replicate (m + 1) false)).Nodup := by
        unfold Region.ready
        exact List.Pairwise.filter _ List.nodup_range
      generalize Region.ready .any (l ++ tl).toArray (Array.replicate (l.length + k) true ++ Array.replicate (m + 1) false) = R at hmem hnd
      match R, hmem, hnd with
      | [], hmem, _ => exact absurd ((hmem (l.length + k)).2 rfl) (by simp)
      | [x], hmem, _ => rw [(hmem x).1 (by simp)]
      | x :: y :: r, hmem, hnd =>
        have e1 := (hmem x).1 (by simp)
        have e2 := (hmem y).1 (by simp)
        rw [e1, e2] at hnd
        simp at hnd
    refine wpAny_all hr (by simp) ?_
    intro i hi
    rw [List.mem_singleton] at hi
    subst hi
    have hset : (Array.replicate (l.length + k) true ++ Array.replicate (m + 1) false).setIfInBounds (l.length + k) true = Array.replicate (l.length + (k + 1)) true ++ Array.replicate m false := by
      apply Array.ext_getElem?
      intro j
      simp only [Array.getElem?_setIfInBounds, Array.getElem?_append, Array.getElem?_replicate, Array.size_append, Array.size_replicate]
      by_cases h1 : l.length + k = j
      · subst h1
        simp [show l.length + k < l.length + (k + 1) by omega]
      · rw [if_neg h1]
        by_cases h2 : j < l.length + k
        · simp [h2, show j < l.length + (k + 1) by omega]
        · have h3 : ¬ j < l.length + (k + 1) := by omega
          simp only [h2, h3, if_false]
          by_cases h4 : j - (l.length + k) < m + 1
          · rw [if_pos h4, if_pos (by omega)]
          · rw [if_neg h4, if_neg (by omega)]
    rw [hset]
    rw [List.drop_eq_getElem_cons hk, wpTail] at h
    unfold wpOp
    rw [late_tl, List.getElem?_eq_getElem hk]
    have hw : Region.wanted tl[k] (yielded (l ++ tl).toArray a.tmps) = true := by
      have : tl[k].guard = none := by simpa using hg
      simp [Region.wanted, this]
    simp only [hw, if_true]
    exact .inl (Oper.wp_mono (fun a' w' h' => ih (k + 1) fuel a' w' (by omega) (by omega) h') h)

theorem ready_all (hwf : wfDeps l = true) (listed : Array Bool) (hsz : listed.size = l.length) (hr : Region.ready .any l.toArray listed = []) : listed = Array.replicate l.length true := by
  have key : ∀ i, i < l.length → listed[i]? = some true := by
    intro i
    induction i using Nat.strongRecOn with
    | _ i ih =>
      intro hi
      have hil : i < listed.size := by omega
      have hgi : listed[i]? = some listed[i] := Array.getElem?_eq_getElem hil
      cases hb : listed[i] with
      | true => rw [hgi, hb]
      | false =>
        exfalso
        have hnot : i ∉ Region.ready .any l.toArray listed := by rw [hr]; simp
        refine hnot (ready_iff.2 ⟨by simpa using hi, by rw [Array.getD_eq_getD_getElem?, hgi, hb]; rfl, l[i], by simp [hi], fun d hd => ?_⟩)
        unfold wfDeps at hwf
        rw [List.all_eq_true] at hwf
        have hwi := hwf i (List.mem_range.2 hi)
        rw [List.getElem?_eq_getElem hi] at hwi
        simp only [Option.map_some, Option.getD_some, List.all_eq_true, decide_eq_true_eq] at hwi
        have := ih d (hwi d hd) (by have := hwi d hd; omega)
        rw [Array.getD_eq_getD_getElem?, this]; rfl
  apply Array.ext_getElem?
  intro i
  by_cases hi : i < l.length
  · rw [key i hi]; simp [hi]
  · simp [Array.getElem?_eq_none (show listed.size ≤ i by omega), hi]

theorem wpAny_late (hok : lateOk l tl = true) : ∀ (fuel : Nat) (listed : Array Bool) (a : Act) (w : World), listed.size = l.length →
    (∀ (j : Nat) (o : Oper), listed[j]? = some true → l[j]? = some o → ∀ d ∈ depsOf o, listed[d]? = some true) →
    wpAny P .any l.toArray (LateQ P Q tl) fuel listed a w → wpAny P .any (l ++ tl).toArray Q (fuel + tl.length) (listed ++ Array.replicate tl.length false) a w := by
  have hall := hok
  unfold lateOk at hall
  simp only [Bool.and_eq_true] at hall
  obtain ⟨⟨hwf, hG⟩, hT⟩ := hall
  rw [List.all_eq_true] at hT hG
  have hend : ∀ (fuel : Nat) (listed : Array Bool) (a : Act) (w : World), listed.size = l.length → tl.length ≤ fuel → Region.ready .any l.toArray listed = [] → wpTail P Q tl a w → wpAny P .any (l ++ tl).toArray Q fuel (listed ++ Array.replicate tl.length false) a w := by
    intro fuel listed a w hsz hf hr h
    rw [ready_all hwf listed hsz hr]
    exact wpAny_tail hok tl.length 0 fuel a w rfl hf h
  intro fuel
  induction fuel with
  | zero => intro listed a w hsz _ h; exact hend _ listed a w hsz (by omega) h.1 h.2
  | succ fuel ih =>
    intro listed a w hsz hcl h
    by_cases hr0 : Region.ready .any l.toArray listed = []
    · exact hend _ listed a w hsz (by omega) hr0 (h.1 hr0)
    have hap : ∀ i, i < l.length → (listed ++ Array.replicate tl.length false)[i]? = listed[i]? := fun i hi => by rw [Array.getElem?_append, if_pos (by omega)]
    have hdl : ∀ i o, l[i]? = some o → ∀ d ∈ depsOf o, d < i := by
      intro i o ho d hd
      unfold wfDeps at hwf
      rw [List.all_eq_true] at hwf
      have hil : i < l.length := (List.getElem?_eq_some_iff.1 ho).1
      have hwi := hwf i (List.mem_range.2 hil)
      rw [ho] at hwi
      simp only [Option.map_some, Option.getD_some, List.all_eq_true, decide_eq_true_eq] at hwi
      exact hwi d hd
    -- what may come up is of l
    have hsub : ∀ i, i ∈ Region.ready .any (l ++ tl).toArray (listed ++ Array.replicate tl.length false) → i ∈ Region.ready .any l.toArray listed := by
      intro i hi
      obtain ⟨h0, h1, o, ho, h2⟩ := ready_iff.1 hi
      simp only [List.size_toArray, List.length_append] at h0
      rcases Nat.lt_or_ge i l.length with hil | hil
      · rw [late_get hil] at ho
        refine ready_iff.2 ⟨by simpa using hil, by rw [Array.getD_eq_getD_getElem?, hap i hil] at h1; rw [Array.getD_eq_getD_getElem?]; exact h1, o, ho, fun d hd => ?_⟩
        have hdi := hdl i o (by simpa using ho) d hd
        have := h2 d hd
        rw [Array.getD_eq_getD_getElem?, hap d (by omega)] at this
        rw [Array.getD_eq_getD_getElem?]; exact this
      · exfalso
        obtain ⟨k, rfl⟩ : ∃ k, i = l.length + k := ⟨i - l.length, by omega⟩
        rw [late_tl] at ho
        have hTk := hT k (List.mem_range.2 (by omega))
        rw [ho] at hTk
        simp only [Bool.and_eq_true, List.all_eq_true] at hTk
        have hcov := hTk.2
        have hl : ∀ n i, l.length - i ≤ n → i < l.length → listed[i]? = some true := by
          intro n
          induction n with
          | zero => intro i h h'; omega
          | succ n ihn =>
            intro i hn hi
            have hc := hcov i (List.mem_range.2 hi)
            rw [Bool.or_eq_true] at hc
            rcases hc with hc | hc
            · have hc' : i ∈ depsOf o := by simpa using hc
              have := h2 i hc'
              rw [Array.getD_eq_getD_getElem?, hap i hi, Array.getElem?_eq_getElem (by omega)] at this
              rw [Array.getElem?_eq_getElem (by omega)]
              simpa using this
            · rw [List.any_eq_true] at hc
              obtain ⟨j, hj, hj2⟩ := hc
              rw [List.mem_range] at hj
              rw [List.getElem?_eq_getElem hj] at hj2
              simp only [Bool.and_eq_true, decide_eq_true_eq] at hj2
              have hji : i ∈ depsOf l[j] := by simpa using hj2.2
              exact hcl j l[j] (ihn j (by omega) hj) (List.getElem?_eq_getElem hj) i hji
        apply hr0
        rw [List.eq_nil_iff_forall_not_mem]
        intro i' hi'
        obtain ⟨q0, q1, _⟩ := ready_iff.1 hi'
        have q0' : i' < l.length := by simpa using q0
        rw [Array.getD_eq_getD_getElem?, hl l.length i' (by omega) q0'] at q1
        simp at q1
    rw [show fuel + 1 + tl.length = (fuel + tl.length) + 1 by omega]
    refine ⟨fun hr => ?_, fun i hi => ?_⟩
    · exfalso
      obtain ⟨i, r, hir⟩ := List.exists_cons_of_ne_nil hr0
      have him : i ∈ Region.ready .any l.toArray listed := by rw [hir]; simp
      obtain ⟨h0, h1, o, ho, h2⟩ := ready_iff.1 him
      have hil : i < l.length := by simpa using h0
      have : i ∈ Region.ready .any (l ++ tl).toArray (listed ++ Array.replicate tl.length false) := by
        refine ready_iff.2 ⟨by simp; omega, by rw [Array.getD_eq_getD_getElem?, hap i hil]; rw [Array.getD_eq_getD_getElem?] at h1; exact h1, o, by rw [late_get hil]; exact ho, fun d hd => ?_⟩
        have hdi := hdl i o (by simpa using ho) d hd
        have := h2 d hd
        rw [Array.getD_eq_getD_getElem?, hap d (by omega)]
        rw [Array.getD_eq_getD_getElem?] at this; exact this
      rw [hr] at this
      cases this
    · have hir := hsub i hi
      obtain ⟨h0, h1, o, ho, h2⟩ := ready_iff.1 hir
      have hil : i < l.length := by simpa using h0
      have hop := h.2 i hir
      have hset : (listed ++ Array.replicate tl.length false).setIfInBounds i true = listed.setIfInBounds i true ++ Array.replicate tl.length false := by
        apply Array.ext_getElem?
        intro j
        simp only [Array.getElem?_setIfInBounds, Array.getElem?_append, Array.size_append, Array.size_replicate, Array.size_setIfInBounds]
        by_cases h1 : i = j
        · subst h1
          rw [if_pos rfl, if_pos (by omega), if_pos (by omega), if_pos rfl, if_pos (by omega)]
        · rw [if_neg h1]
          by_cases h3 : j < listed.size
          · rw [if_pos h3, if_pos h3, if_neg h1]
          · rw [if_neg h3, if_neg h3]
      have hcl' : ∀ (j : Nat) (o' : Oper), (listed.setIfInBounds i true)[j]? = some true → l[j]? = some o' → ∀ d ∈ depsOf o', (listed.setIfInBounds i true)[d]? = some true := by
        intro j o' hj ho' d hd
        have hmono : ∀ (d : Nat), listed[d]? = some true → (listed.setIfInBounds i true)[d]? = some true := by
          intro d hd
          rw [Array.getElem?_setIfInBounds]
          split
          · rename_i e; subst e; rw [if_pos (by omega)]
          · exact hd
        apply hmono
        by_cases hij : i = j
        · subst hij
          have : o' = o := by
            have e1 : l.toArray[i]? = some o' := by simpa using ho'
            rw [ho] at e1; injection e1 with e1; exact e1.symm
          subst this
          have := h2 d hd
          rw [Array.getD_eq_getD_getElem?] at this
          cases hx : listed[d]? with
          | none => rw [hx] at this; simp at this
          | some b => rw [hx] at this; simp at this; rw [this]
        · rw [Array.getElem?_setIfInBounds, if_neg hij] at hj
          exact hcl j o' hj ho' d hd
      have hyl : Region.wanted o (yielded (l ++ tl).toArray a.tmps) = Region.wanted o (yielded l.toArray a.tmps) := by
        have hgo := hG o (by have e1 : l[i]? = some o := by simpa using ho
                             exact List.mem_of_getElem? e1)
        unfold Region.wanted
        cases hg : o.guard with
        | none => rfl
        | some g =>
          obtain ⟨j, b⟩ := g
          rw [hg] at hgo
          have hj : j < l.length := by simpa using hgo
          simp only [yielded, late_get hj]
      unfold wpOp at hop ⊢
      rw [late_get hil, ho]
      rw [ho] at hop
      simp only at hop ⊢
      rw [hyl]
      split
      · rename_i hw
        rw [if_pos hw] at hop
        rcases hop with hop | ⟨ha, a', w', hl⟩
        · refine .inl (Oper.wp_late (fun a' w' h' => ?_) hop)
          rw [hset]
          exact ih _ a' w' (by simpa using hsz) hcl' h'
        · exact .inr ⟨ha, a', w', hl⟩
      · rename_i hw
        rw [if_neg hw] at hop
        rw [hset]
        exact ih _ _ w (by simpa using hsz) hcl' hop

/-- what only reads is taken first -/
theorem late_take {ops : Array Oper} {S : World → Prop} {i : Nat} {oi : Oper} {d : Option Tmp} {v : Value} {fuel : Nat} {listed : Array Bool} {a : Act} {w : World} (hi : ops[i]? = some oi) (hd : oi.dst = d)
    (hs : Region.noSelect ops = true) (hf : Region.free .any ops listed i = true) (hr : (Region.ready .any ops listed).contains i = true)
    (hQL : ∀ (c : _) (a : Act) (d : Option Tmp) (v : Value) (w : World), LateQ P Q tl (.panic c) (a.put d v) w → LateQ P Q tl (.panic c) a w) (hw : Region.wanted oi (yielded ops a.tmps) = true) (hy : ∀ w, S w → (execOp a.eval oi).run P w = .ok (.value v) w) (hS : S w)
    (h : wpAnyH P .any ops (LateQ P Q tl) S fuel (listed.setIfInBounds i true) (a.put d v) w) : wpAnyH P .any ops (LateQ P Q tl) S (fuel + 1) listed a w :=
  wpAnyH_take hi hs hf hr (fun c a w => hQL c a _ _ w) (.inl ⟨hw, hy⟩) hS (hd ▸ h)

/-- A REGION WHOSE LAST OPERATIONS WAIT FOR ALL OTHERS. -/
theorem region_late {S : World → Prop} {id n : Nat} {ops : Array Oper} {a : Act} {w : World} (hops : ops = (l ++ tl).toArray) (hn : l.length = n) (hm : P.follows .mixedOrders = true) (hok : lateOk l tl = true) (hS : S w.drew)
    (h : (∀ (c : _) (a : Act) (d : Option Tmp) (v : Value) (w : World), LateQ P Q tl (.panic c) (a.put d v) w → LateQ P Q tl (.panic c) a w) → S w.drew → wpAnyH P .any l.toArray (LateQ P Q tl) S n (Array.replicate n false) a w.drew) : (Code.region id ops true).wp P Q a w := by
  subst hops hn
  refine wp_region_any hm ?_
  have := wpAny_late (P := P) (Q := Q) hok l.length (Array.replicate l.length false) a w.drew (by simp) (fun j o hj => by simp [Array.getElem?_replicate] at hj) (wpAny_of_held _ _ _ _ (h (fun _ _ _ _ _ h => h) hS))
  have e1 : Array.replicate l.length false ++ Array.replicate tl.length false = Array.replicate (l ++ tl).toArray.size false := by
    rw [Array.replicate_append_replicate]; simp
  rw [e1] at this
  have e2 : l.length + tl.length = (l ++ tl).toArray.size := by simp
  rw [e2] at this
  exact this
end
theorem wpTail_nil {P : Program} {Q : Exit → Act → World → Prop} {a : Act} {w : World} (h : Q .normal a w) : wpTail P Q [] a w := h
theorem bcellG {W w1 : World} {r : Option Nat} (hg : W.grownBy w1 r) : (∀ b o, b < W.heap.size → ¬ r = some b → w1.cell? ⟨b, o, none⟩ = W.cell? ⟨b, o, none⟩) ∧ (∀ b o, b < W.heap.size → ¬ r = some b → w1.frozen? ⟨b, o, none⟩ = W.frozen? ⟨b, o, none⟩) :=
  ⟨fun b o h hn => World.cell?_of_block (a := ⟨b, o, none⟩) (hg.block b h fun e => hn e.symm), fun b o h hn => World.frozen?_of_block (a := ⟨b, o, none⟩) (hg.block b h fun e => hn e.symm)⟩
end Go.Proofs.YtooocakkjdhfiaaGreatDoor
