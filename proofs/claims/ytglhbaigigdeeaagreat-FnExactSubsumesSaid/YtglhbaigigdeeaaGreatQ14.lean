/- Several texts in one file. -/
import Derived.OwnWalk
import Derived.Test.YtglhbaigigdeeaaGreatQ05
import Derived.Test.YtglhbaigigdeeaaGreatQ13
import Derived.Test.YtglhbaigigdeeaaGreatQ06
import Derived.Test.YtglhbaigigdeeaaGreatQ04
import Derived.Test.YtglhbaigigdeeaaGreatQ08
/- The reference puts a binding at its place. -/
namespace Go.Proofs.YtglhbaigigdeeaaGreat
set_option maxRecDepth 100000
open Go.RowKit

theorem infoBndP : (Tryz.prog.info? 91).map (fun i => (i.zero, i.size, i.bytes)) = some (some (.agg #[.string ByteArray.empty, .string ByteArray.empty, .slice none 0 0]), 3, 56) := by kernel_rfl
/-- nil, or a slice with an element -/
def ShpB (v : Value) : Prop := v = .slice none 0 0 ∨ ∃ b off n c, v = .slice (some ⟨b, off, none⟩) n c ∧ n ≠ 0
/-- the bindings that the value holds -/
def IsBs (S : Nat → Prop) (bs : List Bnd) (v : Value) (w : World) : Prop := ∃ v', v = .agg #[v'] ∧ D.rd S w v' (Bnd.sd bs) ∧ ShpB v'

theorem while_at {α : Type} {p : α → Bool} {l : List α} {k : Nat} (hk : k ≤ l.length) (h : ∀ j (h : j < l.length), j < k → p l[j] = true) (hn : ∀ h : k < l.length, p l[k] = false) : l.takeWhile p = l.take k ∧ l.dropWhile p = l.drop k := by
  induction l generalizing k with
  | nil => simp
  | cons a l ih =>
    cases k with
    | zero =>
      have := hn (by simp)
      simp at this
      simp [this]
    | succ k =>
      have h0 := h 0 (by simp) (by omega)
      simp at h0
      obtain ⟨h1, h2⟩ := ih (k := k) (by simpa using hk) (fun j hj hjk => by have := h (j + 1) (by simpa using hj) (by omega); simpa using this) (fun hl => by have := hn (by simpa using hl); simpa using this)
      simp [h0, h1, h2]
theorem putB_at {s : List Bnd} {x : Bnd} {k : Nat} (hne : x.term.name ≠ x.var) (hk : k ≤ s.length) (h : ∀ j (h : j < s.length), j < k → Op.bytesLess s[j].var.toList x.var.toList = true) (hn : ∀ h : k < s.length, Op.bytesLess s[k].var.toList x.var.toList = false) : putB s x = s.take k ++ x :: s.drop k := by
  obtain ⟨h1, h2⟩ := while_at (p := fun y : Bnd => Op.bytesLess y.var.toList x.var.toList) hk h hn
  rw [putB, if_neg hne, h1, h2]
/-- the cells of a piece of a slice -/
theorem Bnd.piece {S : Nat → Prop} {w : World} {b off n cap : Nat} {xs : List Bnd} (h : D.rd S w (.slice (some ⟨b, off, none⟩) n cap) (Bnd.sd xs)) (i k : Nat) (hk : i + k ≤ xs.length) :
    ∃ vs : List Value, vs.length = k * 3 ∧ CellsRd S w vs (Bnd.css ((xs.drop i).take k)) ∧ ∀ j u, vs[j]? = some u → w.cell? ⟨b, off + i * 3 + j, none⟩ = some u := by
  have hl : (Bnd.css ((xs.drop i).take k)).length = k * 3 := by rw [Bnd.css_length, List.length_take, List.length_drop, Nat.min_eq_left (by omega)]
  by_cases hx : xs = []
  · subst hx
    have : k = 0 := by simp at hk; omega
    subst this
    exact ⟨[], by simp, by simp [Bnd.css, CellsRd], fun j u hu => by simp at hu⟩
  · obtain ⟨b', off', e, -, -, hrr⟩ := Bnd.sd_get h hx
    injection e with e; injection e with e1 e2; subst e1 e2
    have key : ∀ k, i + k ≤ xs.length → ∃ vs : List Value, CellsRd S w vs (Bnd.css ((xs.drop i).take k)) ∧ ∀ j u, vs[j]? = some u → w.cell? ⟨b, off + i * 3 + j, none⟩ = some u := by
      intro k
      induction k with
      | zero => intro _; exact ⟨[], by simp [Bnd.css, CellsRd], fun j u hu => by simp at hu⟩
      | succ k ih =>
        intro hk
        obtain ⟨vs, h0, h1⟩ := ih (by omega)
        obtain ⟨c0, c1, c2, q0, q1, q2, qx⟩ := hrr (i + k) (by omega)
        have hlk := h0.length
        rw [Bnd.css_length, List.length_take, List.length_drop, Nat.min_eq_left (by omega)] at hlk
        refine ⟨vs ++ [c0, c1, c2], ?_, fun j u hu => ?_⟩
        · rw [Bnd.css_take_succ (xs.drop i) k (by rw [List.length_drop]; omega), ← Bnd.cs_eq]
          refine h0.append ?_
          rw [List.getElem_drop, Bnd.cs_eq]
          exact ⟨qx.1, qx.2.1, qx.2.2, trivial⟩
        · by_cases hj : j < vs.length
          · rw [List.getElem?_append_left hj] at hu; exact h1 j u hu
          · rw [List.getElem?_append_right (by omega)] at hu
            obtain ⟨d, hd⟩ : ∃ d, j = k * 3 + d := ⟨j - k * 3, by omega⟩
            subst hd
            rw [hlk, Nat.add_sub_cancel_left] at hu
            match d, hu with
            | 0, hu => simp at hu; subst hu; rw [← q0]; congr 2; omega
            | 1, hu => simp at hu; subst hu; rw [← q1]; congr 2; omega
            | 2, hu => simp at hu; subst hu; rw [← q2]; congr 2; omega
            | d + 3, hu => simp at hu
    obtain ⟨vs, h0, h1⟩ := key k hk
    exact ⟨vs, by rw [h0.length, hl], h0, h1⟩

set_option maxHeartbeats 4000000 in
theorem l4Put_some {s : Sb} {n : ByteArray} {t : Tm} {S S0 : Nat → Prop} {b off n' c' : Nat} {v c0 c1 : Value} {w : World} (hs : D.rd S0 w v (Bnd.sd s.bs)) (HS0 : Hid (∀ x, S0 x → x < w.heap.size)) (HSH : Hid (v = .slice (some ⟨b, off, none⟩) n' c')) (HNZ : Hid (n' ≠ 0)) (hbw : b < w.heap.size) (hn : n.size ≤ maxLen) (ht : Tm.at S w c0 c1 t) (hbt : t.bulk ≤ 1048576) (hl : s.bs.length ≤ 1073741824) :
    Calls Tryz.prog 61 #[.agg #[v], .string n, .agg #[c0, c1]] w (Yields w (IsBs (fun x => S0 x ∨ w.heap.size ≤ x) (putB s.bs ⟨n, t⟩))) := by
  have HRS := hid hs
  have HBW := hid hbw
  replace hs : Sb.at S0 w v s := hs
  by_cases he : t.name = n
  · have HP : Hid (putB s.bs ⟨n, t⟩ = s.bs) := by rw [Hid, putB, if_pos he]
    have hq := show (t.name.toList == n.toList) = true by rw [he]; simp
    clear he
    obtain ⟨sa, sc, rfl⟩ := Sb.at_form hs
    obtain ⟨rfl, tn, ta, tc, rfl⟩ := Tm.at_form ht
    have hW : Below w.heap.size w (((w.alloc (.cells #[.slice sa s.bs.length sc] 40)).alloc (.cells #[.string t.name, .slice ta t.args.length tc] 56)).alloc (.cells #[.slice none 0 0] 40)) := (((Below.refl _ _).alloc (Nat.le_refl _) _).alloc (by simp) _).alloc (by simp; omega) _
    have bs : Box (((w.alloc (.cells #[.slice sa s.bs.length sc] 40)).alloc (.cells #[.string t.name, .slice ta t.args.length tc] 56)).alloc (.cells #[.slice none 0 0] 40)) (w.heap.size) [.slice sa s.bs.length sc] := by
      have := (((Box.new w [.slice sa s.bs.length sc] 40).alloc (.cells #[.string t.name, .slice ta t.args.length tc] 56)).alloc (.cells #[.slice none 0 0] 40))
      simpa only [World.size_alloc] using this
    have bt : Box (((w.alloc (.cells #[.slice sa s.bs.length sc] 40)).alloc (.cells #[.string t.name, .slice ta t.args.length tc] 56)).alloc (.cells #[.slice none 0 0] 40)) (w.heap.size + 1) [.string t.name, .slice ta t.args.length tc] := by
      have := ((Box.new (w.alloc (.cells #[.slice sa s.bs.length sc] 40)) [.string t.name, .slice ta t.args.length tc] 56).alloc (.cells #[.slice none 0 0] 40))
      simpa only [World.size_alloc] using this
    have rb : Box (((w.alloc (.cells #[.slice sa s.bs.length sc] 40)).alloc (.cells #[.string t.name, .slice ta t.args.length tc] 56)).alloc (.cells #[.slice none 0 0] 40)) (w.heap.size + 1 + 1) [.slice none 0 0] := by
      have := (Box.new ((w.alloc (.cells #[.slice sa s.bs.length sc] 40)).alloc (.cells #[.string t.name, .slice ta t.args.length tc] 56)) [.slice none 0 0] 40)
      simpa only [World.size_alloc] using this
    have rf : ∀ p, (((w.alloc (.cells #[.slice sa s.bs.length sc] 40)).alloc (.cells #[.string t.name, .slice ta t.args.length tc] 56)).alloc (.cells #[.slice none 0 0] 40)).frozen? ⟨w.heap.size + 1 + 1, p, none⟩ = false := fun p => World.frozen?_alloc_at _ _ _ p (by simp)
    replace hs := Sb.at_keep (Keeps.all hW) hs
    replace ht := Tm.at_keep (Keeps.all hW) ht
    have es0 := bs.c0
    have ls := bs.lt
    have et0 := bt.c0
    have et1 := bt.c1
    have lt := bt.lt
    have re0 := rb.c0
    have rf0 := rf 0
    have rl := rb.lt
    go_enter Tryz.func61, Tryz.ntmps61
    go_wp2_with fail
    clear es0 ls et0 et1 lt re0 rf0 rl
    have Hw0 : Hid ((((w.alloc (.cells #[.slice sa s.bs.length sc] 40)).alloc (.cells #[.string t.name, .slice ta t.args.length tc] 56)).alloc (.cells #[.slice none 0 0] 40)).heap.size = w.heap.size + 1 + 1 + 1) := by simp [Hid]
    generalize (((w.alloc (.cells #[.slice sa s.bs.length sc] 40)).alloc (.cells #[.string t.name, .slice ta t.args.length tc] 56)).alloc (.cells #[.slice none 0 0] 40)) = w0 at *
    have q := HSH.out
    injection q with q0 q1 q2
    subst q0 q1 q2
    refine bodyPost_ret (v := .agg #[.slice (some ⟨b, off, none⟩) s.bs.length sc]) (by simp [results, Tryz.results61, go_sem]; try rfl) rfl ?_
    have hB : Below w.heap.size w (((w.alloc (.cells #[.slice (some ⟨b, off, none⟩) s.bs.length sc] 40)).alloc (.cells #[.string t.name, .slice ta t.args.length tc] 56)).alloc (.cells #[.slice (some ⟨b, off, none⟩) s.bs.length sc] 40)) := (((Below.refl _ _).alloc (Nat.le_refl _) _).alloc (by simp) _).alloc (by simp; omega) _
    refine ⟨_, rfl, hB, _, rfl, ?_, .inr ⟨_, _, _, _, rfl, HNZ.out⟩⟩
    rw [HP.out]
    exact D.rd_mono (fun _ q => .inl q) _ _ (D.rd_keep (Keeps.all hB) _ _ HRS.out)
  · have hq := toList_ne he
    have HE := hid he
    clear he
    obtain ⟨sa, sc, rfl⟩ := Sb.at_form hs
    obtain ⟨rfl, tn, ta, tc, rfl⟩ := Tm.at_form ht
    have hW : Below w.heap.size w (((w.alloc (.cells #[.slice sa s.bs.length sc] 40)).alloc (.cells #[.string t.name, .slice ta t.args.length tc] 56)).alloc (.cells #[.slice none 0 0] 40)) := (((Below.refl _ _).alloc (Nat.le_refl _) _).alloc (by simp) _).alloc (by simp; omega) _
    have bs : Box (((w.alloc (.cells #[.slice sa s.bs.length sc] 40)).alloc (.cells #[.string t.name, .slice ta t.args.length tc] 56)).alloc (.cells #[.slice none 0 0] 40)) (w.heap.size) [.slice sa s.bs.length sc] := by
      have := (((Box.new w [.slice sa s.bs.length sc] 40).alloc (.cells #[.string t.name, .slice ta t.args.length tc] 56)).alloc (.cells #[.slice none 0 0] 40))
      simpa only [World.size_alloc] using this
    have bt : Box (((w.alloc (.cells #[.slice sa s.bs.length sc] 40)).alloc (.cells #[.string t.name, .slice ta t.args.length tc] 56)).alloc (.cells #[.slice none 0 0] 40)) (w.heap.size + 1) [.string t.name, .slice ta t.args.length tc] := by
      have := ((Box.new (w.alloc (.cells #[.slice sa s.bs.length sc] 40)) [.string t.name, .slice ta t.args.length tc] 56).alloc (.cells #[.slice none 0 0] 40))
      simpa only [World.size_alloc] using this
    have rb : Box (((w.alloc (.cells #[.slice sa s.bs.length sc] 40)).alloc (.cells #[.string t.name, .slice ta t.args.length tc] 56)).alloc (.cells #[.slice none 0 0] 40)) (w.heap.size + 1 + 1) [.slice none 0 0] := by
      have := (Box.new ((w.alloc (.cells #[.slice sa s.bs.length sc] 40)).alloc (.cells #[.string t.name, .slice ta t.args.length tc] 56)) [.slice none 0 0] 40)
      simpa only [World.size_alloc] using this
    have rf : ∀ p, (((w.alloc (.cells #[.slice sa s.bs.length sc] 40)).alloc (.cells #[.string t.name, .slice ta t.args.length tc] 56)).alloc (.cells #[.slice none 0 0] 40)).frozen? ⟨w.heap.size + 1 + 1, p, none⟩ = false := fun p => World.frozen?_alloc_at _ _ _ p (by simp)
    replace hs := Sb.at_keep (Keeps.all hW) hs
    replace ht := Tm.at_keep (Keeps.all hW) ht
    have es0 := bs.c0
    have ls := bs.lt
    have et0 := bt.c0
    have et1 := bt.c1
    have lt := bt.lt
    have re0 := rb.c0
    have rf0 := rf 0
    have rl := rb.lt
    go_enter Tryz.func61, Tryz.ntmps61
    go_wp2_with fail
    clear es0 ls et0 et1 lt re0 rf0 rl
    have Hw0 : Hid ((((w.alloc (.cells #[.slice sa s.bs.length sc] 40)).alloc (.cells #[.string t.name, .slice ta t.args.length tc] 56)).alloc (.cells #[.slice none 0 0] 40)).heap.size = w.heap.size + 1 + 1 + 1) := by simp [Hid]
    generalize (((w.alloc (.cells #[.slice sa s.bs.length sc] 40)).alloc (.cells #[.string t.name, .slice ta t.args.length tc] 56)).alloc (.cells #[.slice none 0 0] 40)) = w0 at *
    have q := HSH.out
    injection q with q0 q1 q2
    subst q0 q1 q2
    have HSW := hid hs
    have es0 := bs.c0
    have ls := bs.lt
    have et0 := bt.c0
    have et1 := bt.c1
    have lt := bt.lt
    have re0 := rb.c0
    have rf0 := rf 0
    have rl := rb.lt
    have hbl : b < w0.heap.size := Nat.lt_of_lt_of_le HBW.out hW.size
    go_loop [7] (fun i => ∃ k : Nat, k ≤ s.bs.length ∧ i = .int .i64 k ∧ Hid (∀ j (h : j < s.bs.length), j < k → Op.bytesLess s.bs[j].var.toList n.toList = true)) (fun i => s.bs.length - (intOf i).toNat)
    case atStart => exact ⟨0, Nat.zero_le _, rfl, fun j _ h => absurd h (by omega)⟩
    case round =>
      obtain ⟨k, hk, rfl, HK⟩ := hrel
      by_cases hlt : k < s.bs.length
      · have hne : s.bs ≠ [] := by intro e; rw [e] at hlt; simp at hlt
        obtain ⟨b', off', e, hSb, hbl', hrr⟩ := Bnd.sd_get HSW.out hne
        injection e with e; injection e with e1 e2
        subst e1 e2
        obtain ⟨x0, x1, x2, q0, q1, q2, qx⟩ := hrr k hlt
        obtain ⟨rfl, rfl, x, xc, rfl⟩ := Bnd.at_form qx
        by_cases hL : Op.bytesLess s.bs[k].var.toList n.toList = true
        · have HKN : Hid (∀ j (h : j < s.bs.length), j < k + 1 → Op.bytesLess s.bs[j].var.toList n.toList = true) := fun j h hj => by
            by_cases hjk : j < k
            · exact HK.out j h hjk
            · obtain rfl : j = k := by omega
              exact hL
          clear hrr
          go_wp2_with fail
          go_round
          case rel => exact ⟨k + 1, by omega, by go_num, HKN⟩
          case measure => simp [intOf]; omega
        · replace hL : Op.bytesLess s.bs[k].var.toList n.toList = false := by simpa using hL
          have HP : Hid (putB s.bs ⟨n, t⟩ = s.bs.take k ++ ⟨n, t⟩ :: s.bs.drop k) := putB_at HE.out hk HK.out (fun _ => hL)
          clear hrr q1 q2 qx
          have HSL := hid (D.rd_keep (Keeps.all hW) _ _ HRS.out)
          have HW0 : Hid (w0.heap.size = w.heap.size + 1 + 1 + 1) := Hw0
          have hW0 := hW.size
          have HA : Hid (Below w0.heap.size w0 (w0.alloc (.cells #[] 91))) := (Below.refl _ _).alloc (Nat.le_refl _) _
          have hkI : (0 : Int) ≤ (k : Int) := by omega
          have hkS : (k : Int) ≤ s.bs.length := by omega
          have hsc : s.bs.length ≤ sc := by obtain ⟨_, _, q, _, h⟩ := Bnd.sd_form HSW.out; injection q with _ _ q; omega
          have hkC : (k : Int) ≤ sc := by omega
          have hnC : (s.bs.length : Int) ≤ sc := by omega
          have hne2 : ¬ sc = k := by omega
          have hne0 : ¬ sc = 0 := by omega
          obtain ⟨vs1, hl1, hR1, hc1⟩ := Bnd.piece (S := S0) HSL.out 0 (k) (by omega)
          obtain ⟨vs2, hl2, hR2, hc2⟩ := Bnd.piece (S := S0) HSL.out (k) (s.bs.length - k) (by omega)
          rw [List.drop_zero] at hR1
          have HL1 := hid hl1
          have HL2 := hid hl2
          have HR1 := hid hR1
          have HR2 := hid hR2
          have HC1 := hid hc1
          have HC2 := hid hc2
          clear hl1 hl2 hR1 hR2 hc1 hc2
          go_wp2_with (at_builtin; go_must (refine wpList_append_rv (S := S0) (B := w0.heap.size) (ds := []) (n := 0) (off := off) (k := k) (news := vs1) Tryz.underlying38 infoBndP rfl (by decide) (by decide) rfl _ _ (by rfl) (by rfl) (by rfl) (Rv.made 91 3 rfl (Nat.le_refl _)) (fun y hy q => by have hy2 : w0.heap.size = y := Option.some.inj hy; have q2 := HS0.out y q; omega) HL1.out (fun j u hj => (HA.out.cell (p := ⟨b, off + j, none⟩) hbl).trans (by have := HC1.out j u hj; rwa [Nat.zero_mul, Nat.add_zero] at this)) (HR1.out.keep (Keeps.all HA.out)) (by omega) (by rw [World.size_alloc]; omega) ?_; intro v1 w1 hr1 hg1 hgo1 hn1 hp1; (have HB1 : Hid (Below w0.heap.size w0 w1) := below_grown HA.out hg1 (by rw [World.size_alloc]; omega) (fun k hk => Nat.le_of_eq (Option.some.inj hk))); (have et0 := (HB1.out.cell (p := ⟨w.heap.size + 1, 0, none⟩) lt).trans bt.c0); (have et1 := (HB1.out.cell (p := ⟨w.heap.size + 1, 1, none⟩) lt).trans bt.c1); (have HR := hid hr1); clear hr1 hg1 hgo1 hn1 hp1))
          refine (ownT_any t _ _ _ _ (Tm.at_keep (Keeps.all HB1.out) ht) hbt).mono ?_
          rintro e w2 ⟨v2, F, rfl, ho, hF, hb2⟩
          obtain ⟨oa, oc, rfl⟩ := Tm.sd_own_form ho
          have HRL := hid HR.out.lt
          have HFl : Hid (∀ x ∈ F, w1.heap.size ≤ x ∧ x < w2.heap.size) := fun x hx => ⟨hF x hx, D.own_lt _ _ _ ho x hx⟩
          have hz1 := HB1.out.size
          have HB2 := hid (HB1.out.trans (hb2.mono hz1))
          have hz2 := hb2.size
          have HRW : Hid (Rv (fun x => S0 x ∨ x ∈ F) w2 w0.heap.size 91 3 v1 (0 + k) ([] ++ Bnd.css (s.bs.take k))) := (HR.out.keep hb2).mono (fun _ q => .inl q)
          have HRO : Hid (D.rd (fun x => S0 x ∨ x ∈ F) w2 (.slice oa t.args.length oc) (Tm.sd t.args)) := D.rd_mono (fun _ q => .inr q) _ _ (D.own_rd _ _ _ ho)
          have HAC : Hid (Below w2.heap.size w2 (w2.alloc (.cells #[.string n, .string t.name, .slice oa t.args.length oc] 91))) := (Below.refl _ _).alloc (Nat.le_refl _) _
          have HRX : Hid (CellsRd (fun x => S0 x ∨ x ∈ F) (w2.alloc (.cells #[.string n, .string t.name, .slice oa t.args.length oc] 91)) [.string n, .string t.name, .slice oa t.args.length oc] (Bnd.cs ⟨n, t⟩)) := by
            rw [Hid, Bnd.cs_eq]
            exact ⟨D.rd_str hn, D.rd_str tn, D.rd_keep (Keeps.all HAC.out) _ _ HRO.out, trivial⟩
          clear ho hF hb2
          go_wp2_with (at_builtin; first | (refine wpList_append_rv (S := (fun x => S0 x ∨ x ∈ F)) (B := w0.heap.size) (k := (s.bs.length - k)) (off := off + k * 3) (news := vs2) Tryz.underlying38 infoBndP rfl (by decide) (by decide) rfl _ _ (by rfl) (by rfl) (by rfl) HR3.out (fun y hy q => by rcases HGO3.out with h0 | h0; (rw [h0] at hy; have h1 := HRL.out y hy; rcases q with q | q; (have q2 := HS0.out y q; omega); (have h2 := HFl.out y q; omega)); (rw [h0, World.size_alloc] at hy; have hy2 := Option.some.inj hy; rcases q with q | q; (have q2 := HS0.out y q; omega); (have h2 := HFl.out y q; omega))) HL2.out (fun j u hj => (HB3.out.cell (p := ⟨b, off + k * 3 + j, none⟩) hbl).trans (HC2.out j u hj)) ((HR2.out.keep (Keeps.all HB3.out)).mono (fun _ q => .inl q)) (by omega) (by have := HB3.out.size; omega) ?_; intro v4 w4 hr4 hg4 hgo4 hn4 hp4; (have HB4 : Hid (Below w0.heap.size w0 w4) := below_grown HB3.out hg4 (by have := HB3.out.size; omega) (fun k hk => (HR3.out.lt k hk).1)); (have re0 := (HB4.out.cell (p := ⟨w.heap.size + 1 + 1, 0, none⟩) rl).trans rb.c0); (have rf0 := (HB4.out.frozen (p := ⟨w.heap.size + 1 + 1, 0, none⟩) rl).trans (rf 0)); (have HR4 := hid hr4); clear hr4 hg4 hgo4 hn4 hp4; (obtain ⟨a4, c4, rfl, -, -⟩ := HR4.out.form)) | go_must (refine wpList_append_rv (S := (fun x => S0 x ∨ x ∈ F)) (B := w0.heap.size) (k := 1) (off := 0) (news := [.string n, .string t.name, .slice oa t.args.length oc]) Tryz.underlying38 infoBndP rfl (by decide) (by decide) rfl _ _ (by rfl) (by rfl) (by rfl) (HRW.out.keep HAC.out) (fun y hy q => by have h1 := HRL.out y hy; rcases q with q | q; (have q2 := HS0.out y q; omega); (have h2 := HFl.out y q; omega)) rfl (by intro j u hj; rw [Nat.zero_add, box1]; simpa using hj) HRX.out (by omega) (by rw [World.size_alloc]; omega) ?_; intro v3 w3 hr3 hg3 hgo3 hn3 hp3; (have HB3 : Hid (Below w0.heap.size w0 w3) := below_grown (HB2.out.trans (HAC.out.mono (by omega))) hg3 (by rw [World.size_alloc]; omega) (fun k hk => (HRL.out k hk).1)); (have es0 := (HB3.out.cell (p := ⟨w.heap.size, 0, none⟩) ls).trans bs.c0); (have HR3 := hid hr3); (have HGO3 := hid hgo3); clear hr3 hg3 hgo3 hn3 hp3))
          refine bodyPost_ret (v := .agg #[.slice a4 (0 + k + 1 + (s.bs.length - k)) c4]) (by simp [results, Tryz.results61, go_sem, re0]) rfl ?_
          have hz4 := HB4.out.size
          have hne4 : ∀ y, (fun x => S0 x ∨ x ∈ F) y → ((S0 y ∨ w.heap.size ≤ y) ∧ y ≠ w.heap.size + 1 + 1) := fun y q => by
            have h0 := HW0.out
            rcases q with q | q
            · have := HS0.out y q; exact ⟨.inl q, by omega⟩
            · have := HFl.out y q; exact ⟨.inr (by omega), by omega⟩
          have hrow4 : ∀ y, (Value.slice a4 (0 + k + 1 + (s.bs.length - k)) c4).ownBlock = some y → ((S0 y ∨ w.heap.size ≤ y) ∧ y ≠ w.heap.size + 1 + 1) := fun y hy => by
            have := (HR4.out.lt y hy).1
            have h0 := HW0.out
            exact ⟨.inr (by omega), by omega⟩
          have HD4 := hid ((HR4.out.mono (S' := fun x => (S0 x ∨ w.heap.size ≤ x) ∧ x ≠ w.heap.size + 1 + 1) hne4).rd (by decide) hrow4)
          have hle : (s.bs.take k ++ (⟨n, t⟩ : Bnd) :: s.bs.drop k).length = 0 + k + 1 + (s.bs.length - k) := by simp; try omega
          have hce : [] ++ Bnd.css (s.bs.take k) ++ Bnd.cs ⟨n, t⟩ ++ Bnd.css ((s.bs.drop k).take (s.bs.length - k)) = Bnd.css (s.bs.take k ++ (⟨n, t⟩ : Bnd) :: s.bs.drop k) := by
            have ht : (s.bs.drop k).take (s.bs.length - k) = s.bs.drop k := List.take_of_length_le (by rw [List.length_drop]; omega)
            rw [ht]; simp [Bnd.css_flat, List.flatMap_append]
          refine ⟨_, rfl, (hW.trans (HB4.out.mono hW0)).setCell (by show w.heap.size ≤ w.heap.size + 1 + 1; omega) _, _, rfl, ?_, ?_⟩
          · rw [HP.out, Bnd.sd_css, hle, ← hce]
            exact D.rd_mono (fun _ q => q.1) _ _ (D.rd_keep ((Keeps.refl _ _).setCell (fun q _ => q.2 rfl) _) _ _ HD4.out)
          · obtain ⟨vs4, h0, -⟩ := HR4.out
            obtain ⟨g4, cp4, e4, -⟩ := h0.form (by omega)
            exact .inr ⟨g4, 0, _, _, e4, by omega⟩
      · obtain rfl : k = s.bs.length := by omega
        have HP : Hid (putB s.bs ⟨n, t⟩ = s.bs.take s.bs.length ++ ⟨n, t⟩ :: s.bs.drop s.bs.length) := putB_at HE.out hk HK.out (fun h => absurd h (by omega))
        by_cases hec : sc = s.bs.length
        · subst hec
          have h0 := HNZ.out
          have HSL := hid (D.rd_keep (Keeps.all hW) _ _ HRS.out)
          have HW0 : Hid (w0.heap.size = w.heap.size + 1 + 1 + 1) := Hw0
          have hW0 := hW.size
          have HA : Hid (Below w0.heap.size w0 (w0.alloc (.cells #[] 91))) := (Below.refl _ _).alloc (Nat.le_refl _) _
          have hkI : (0 : Int) ≤ (s.bs.length : Int) := by omega
          have hkS : (s.bs.length : Int) ≤ s.bs.length := by omega
          have hsc : s.bs.length ≤ s.bs.length := Nat.le_refl _
          have hkC : (s.bs.length : Int) ≤ s.bs.length := by omega
          have hnC : (s.bs.length : Int) ≤ s.bs.length := by omega
          have hne0 : ¬ s.bs.length = 0 := by omega
          obtain ⟨vs1, hl1, hR1, hc1⟩ := Bnd.piece (S := S0) HSL.out 0 (s.bs.length) (by omega)
          obtain ⟨vs2, hl2, hR2, hc2⟩ := Bnd.piece (S := S0) HSL.out (s.bs.length) 0 (by omega)
          rw [List.drop_zero] at hR1
          have HL1 := hid hl1
          have HL2 := hid hl2
          have HR1 := hid hR1
          have HR2 := hid hR2
          have HC1 := hid hc1
          have HC2 := hid hc2
          clear hl1 hl2 hR1 hR2 hc1 hc2
          go_wp2_with (at_builtin; go_must (refine wpList_append_rv (S := S0) (B := w0.heap.size) (ds := []) (n := 0) (off := off) (k := s.bs.length) (news := vs1) Tryz.underlying38 infoBndP rfl (by decide) (by decide) rfl _ _ (by rfl) (by rfl) (by rfl) (Rv.made 91 3 rfl (Nat.le_refl _)) (fun y hy q => by have hy2 : w0.heap.size = y := Option.some.inj hy; have q2 := HS0.out y q; omega) HL1.out (fun j u hj => (HA.out.cell (p := ⟨b, off + j, none⟩) hbl).trans (by have := HC1.out j u hj; rwa [Nat.zero_mul, Nat.add_zero] at this)) (HR1.out.keep (Keeps.all HA.out)) (by omega) (by rw [World.size_alloc]; omega) ?_; intro v1 w1 hr1 hg1 hgo1 hn1 hp1; (have HB1 : Hid (Below w0.heap.size w0 w1) := below_grown HA.out hg1 (by rw [World.size_alloc]; omega) (fun k hk => Nat.le_of_eq (Option.some.inj hk))); (have et0 := (HB1.out.cell (p := ⟨w.heap.size + 1, 0, none⟩) lt).trans bt.c0); (have et1 := (HB1.out.cell (p := ⟨w.heap.size + 1, 1, none⟩) lt).trans bt.c1); (have HR := hid hr1); clear hr1 hg1 hgo1 hn1 hp1))
          refine (ownT_any t _ _ _ _ (Tm.at_keep (Keeps.all HB1.out) ht) hbt).mono ?_
          rintro e w2 ⟨v2, F, rfl, ho, hF, hb2⟩
          obtain ⟨oa, oc, rfl⟩ := Tm.sd_own_form ho
          have HRL := hid HR.out.lt
          have HFl : Hid (∀ x ∈ F, w1.heap.size ≤ x ∧ x < w2.heap.size) := fun x hx => ⟨hF x hx, D.own_lt _ _ _ ho x hx⟩
          have hz1 := HB1.out.size
          have HB2 := hid (HB1.out.trans (hb2.mono hz1))
          have hz2 := hb2.size
          have HRW : Hid (Rv (fun x => S0 x ∨ x ∈ F) w2 w0.heap.size 91 3 v1 (0 + s.bs.length) ([] ++ Bnd.css (s.bs.take s.bs.length))) := (HR.out.keep hb2).mono (fun _ q => .inl q)
          have HRO : Hid (D.rd (fun x => S0 x ∨ x ∈ F) w2 (.slice oa t.args.length oc) (Tm.sd t.args)) := D.rd_mono (fun _ q => .inr q) _ _ (D.own_rd _ _ _ ho)
          have HAC : Hid (Below w2.heap.size w2 (w2.alloc (.cells #[.string n, .string t.name, .slice oa t.args.length oc] 91))) := (Below.refl _ _).alloc (Nat.le_refl _) _
          have HRX : Hid (CellsRd (fun x => S0 x ∨ x ∈ F) (w2.alloc (.cells #[.string n, .string t.name, .slice oa t.args.length oc] 91)) [.string n, .string t.name, .slice oa t.args.length oc] (Bnd.cs ⟨n, t⟩)) := by
            rw [Hid, Bnd.cs_eq]
            exact ⟨D.rd_str hn, D.rd_str tn, D.rd_keep (Keeps.all HAC.out) _ _ HRO.out, trivial⟩
          clear ho hF hb2
          go_wp2_with (at_builtin; first | (refine wpList_append_rv (S := (fun x => S0 x ∨ x ∈ F)) (B := w0.heap.size) (k := 0) (off := off) (news := vs2) Tryz.underlying38 infoBndP rfl (by decide) (by decide) rfl _ _ (by rfl) (by rfl) (by rfl) HR3.out (fun y hy q => by rcases HGO3.out with h0 | h0; (rw [h0] at hy; have h1 := HRL.out y hy; rcases q with q | q; (have q2 := HS0.out y q; omega); (have h2 := HFl.out y q; omega)); (rw [h0, World.size_alloc] at hy; have hy2 := Option.some.inj hy; rcases q with q | q; (have q2 := HS0.out y q; omega); (have h2 := HFl.out y q; omega))) HL2.out (fun j u hj => by rw [List.length_eq_zero_iff.1 (by have := HL2.out; omega : vs2.length = 0)] at hj; simp at hj) ((HR2.out.keep (Keeps.all HB3.out)).mono (fun _ q => .inl q)) (by omega) (by have := HB3.out.size; omega) ?_; intro v4 w4 hr4 hg4 hgo4 hn4 hp4; (have HB4 : Hid (Below w0.heap.size w0 w4) := below_grown HB3.out hg4 (by have := HB3.out.size; omega) (fun k hk => (HR3.out.lt k hk).1)); (have re0 := (HB4.out.cell (p := ⟨w.heap.size + 1 + 1, 0, none⟩) rl).trans rb.c0); (have rf0 := (HB4.out.frozen (p := ⟨w.heap.size + 1 + 1, 0, none⟩) rl).trans (rf 0)); (have HR4 := hid hr4); clear hr4 hg4 hgo4 hn4 hp4; (obtain ⟨a4, c4, rfl, -, -⟩ := HR4.out.form)) | go_must (refine wpList_append_rv (S := (fun x => S0 x ∨ x ∈ F)) (B := w0.heap.size) (k := 1) (off := 0) (news := [.string n, .string t.name, .slice oa t.args.length oc]) Tryz.underlying38 infoBndP rfl (by decide) (by decide) rfl _ _ (by rfl) (by rfl) (by rfl) (HRW.out.keep HAC.out) (fun y hy q => by have h1 := HRL.out y hy; rcases q with q | q; (have q2 := HS0.out y q; omega); (have h2 := HFl.out y q; omega)) rfl (by intro j u hj; rw [Nat.zero_add, box1]; simpa using hj) HRX.out (by omega) (by rw [World.size_alloc]; omega) ?_; intro v3 w3 hr3 hg3 hgo3 hn3 hp3; (have HB3 : Hid (Below w0.heap.size w0 w3) := below_grown (HB2.out.trans (HAC.out.mono (by omega))) hg3 (by rw [World.size_alloc]; omega) (fun k hk => (HRL.out k hk).1)); (have es0 := (HB3.out.cell (p := ⟨w.heap.size, 0, none⟩) ls).trans bs.c0); (have HR3 := hid hr3); (have HGO3 := hid hgo3); clear hr3 hg3 hgo3 hn3 hp3))
          refine bodyPost_ret (v := .agg #[.slice a4 (0 + s.bs.length + 1 + 0) c4]) (by simp [results, Tryz.results61, go_sem, re0]) rfl ?_
          have hz4 := HB4.out.size
          have hne4 : ∀ y, (fun x => S0 x ∨ x ∈ F) y → ((S0 y ∨ w.heap.size ≤ y) ∧ y ≠ w.heap.size + 1 + 1) := fun y q => by
            have h0 := HW0.out
            rcases q with q | q
            · have := HS0.out y q; exact ⟨.inl q, by omega⟩
            · have := HFl.out y q; exact ⟨.inr (by omega), by omega⟩
          have hrow4 : ∀ y, (Value.slice a4 (0 + s.bs.length + 1 + 0) c4).ownBlock = some y → ((S0 y ∨ w.heap.size ≤ y) ∧ y ≠ w.heap.size + 1 + 1) := fun y hy => by
            have := (HR4.out.lt y hy).1
            have h0 := HW0.out
            exact ⟨.inr (by omega), by omega⟩
          have HD4 := hid ((HR4.out.mono (S' := fun x => (S0 x ∨ w.heap.size ≤ x) ∧ x ≠ w.heap.size + 1 + 1) hne4).rd (by decide) hrow4)
          have hle : (s.bs.take s.bs.length ++ (⟨n, t⟩ : Bnd) :: s.bs.drop s.bs.length).length = 0 + s.bs.length + 1 + 0 := by simp; try omega
          have hce : [] ++ Bnd.css (s.bs.take s.bs.length) ++ Bnd.cs ⟨n, t⟩ ++ Bnd.css ((s.bs.drop s.bs.length).take 0) = Bnd.css (s.bs.take s.bs.length ++ (⟨n, t⟩ : Bnd) :: s.bs.drop s.bs.length) := by
            have ht : (s.bs.drop s.bs.length).take 0 = s.bs.drop s.bs.length := List.take_of_length_le (by rw [List.length_drop]; omega)
            rw [ht]; simp [Bnd.css_flat, List.flatMap_append]
          refine ⟨_, rfl, (hW.trans (HB4.out.mono hW0)).setCell (by show w.heap.size ≤ w.heap.size + 1 + 1; omega) _, _, rfl, ?_, ?_⟩
          · rw [HP.out, Bnd.sd_css, hle, ← hce]
            exact D.rd_mono (fun _ q => q.1) _ _ (D.rd_keep ((Keeps.refl _ _).setCell (fun q _ => q.2 rfl) _) _ _ HD4.out)
          · obtain ⟨vs4, h0, -⟩ := HR4.out
            obtain ⟨g4, cp4, e4, -⟩ := h0.form (by omega)
            exact .inr ⟨g4, 0, _, _, e4, by omega⟩
        · have h0 := HNZ.out
          have HSL := hid (D.rd_keep (Keeps.all hW) _ _ HRS.out)
          have HW0 : Hid (w0.heap.size = w.heap.size + 1 + 1 + 1) := Hw0
          have hW0 := hW.size
          have HA : Hid (Below w0.heap.size w0 (w0.alloc (.cells #[] 91))) := (Below.refl _ _).alloc (Nat.le_refl _) _
          have hkI : (0 : Int) ≤ (s.bs.length : Int) := by omega
          have hkS : (s.bs.length : Int) ≤ s.bs.length := by omega
          have hsc : s.bs.length ≤ sc := by obtain ⟨_, _, q, _, h⟩ := Bnd.sd_form HSW.out; injection q with _ _ q; omega
          have hkC : (s.bs.length : Int) ≤ sc := by omega
          have hnC : (s.bs.length : Int) ≤ sc := by omega
          have hne2 : ¬ sc = s.bs.length := by omega
          have hne0 : ¬ sc = 0 := by omega
          obtain ⟨vs1, hl1, hR1, hc1⟩ := Bnd.piece (S := S0) HSL.out 0 (s.bs.length) (by omega)
          obtain ⟨vs2, hl2, hR2, hc2⟩ := Bnd.piece (S := S0) HSL.out (s.bs.length) 0 (by omega)
          rw [List.drop_zero] at hR1
          have HL1 := hid hl1
          have HL2 := hid hl2
          have HR1 := hid hR1
          have HR2 := hid hR2
          have HC1 := hid hc1
          have HC2 := hid hc2
          clear hl1 hl2 hR1 hR2 hc1 hc2
          go_wp2_with (at_builtin; go_must (refine wpList_append_rv (S := S0) (B := w0.heap.size) (ds := []) (n := 0) (off := off) (k := s.bs.length) (news := vs1) Tryz.underlying38 infoBndP rfl (by decide) (by decide) rfl _ _ (by rfl) (by rfl) (by rfl) (Rv.made 91 3 rfl (Nat.le_refl _)) (fun y hy q => by have hy2 : w0.heap.size = y := Option.some.inj hy; have q2 := HS0.out y q; omega) HL1.out (fun j u hj => (HA.out.cell (p := ⟨b, off + j, none⟩) hbl).trans (by have := HC1.out j u hj; rwa [Nat.zero_mul, Nat.add_zero] at this)) (HR1.out.keep (Keeps.all HA.out)) (by omega) (by rw [World.size_alloc]; omega) ?_; intro v1 w1 hr1 hg1 hgo1 hn1 hp1; (have HB1 : Hid (Below w0.heap.size w0 w1) := below_grown HA.out hg1 (by rw [World.size_alloc]; omega) (fun k hk => Nat.le_of_eq (Option.some.inj hk))); (have et0 := (HB1.out.cell (p := ⟨w.heap.size + 1, 0, none⟩) lt).trans bt.c0); (have et1 := (HB1.out.cell (p := ⟨w.heap.size + 1, 1, none⟩) lt).trans bt.c1); (have HR := hid hr1); clear hr1 hg1 hgo1 hn1 hp1))
          refine (ownT_any t _ _ _ _ (Tm.at_keep (Keeps.all HB1.out) ht) hbt).mono ?_
          rintro e w2 ⟨v2, F, rfl, ho, hF, hb2⟩
          obtain ⟨oa, oc, rfl⟩ := Tm.sd_own_form ho
          have HRL := hid HR.out.lt
          have HFl : Hid (∀ x ∈ F, w1.heap.size ≤ x ∧ x < w2.heap.size) := fun x hx => ⟨hF x hx, D.own_lt _ _ _ ho x hx⟩
          have hz1 := HB1.out.size
          have HB2 := hid (HB1.out.trans (hb2.mono hz1))
          have hz2 := hb2.size
          have HRW : Hid (Rv (fun x => S0 x ∨ x ∈ F) w2 w0.heap.size 91 3 v1 (0 + s.bs.length) ([] ++ Bnd.css (s.bs.take s.bs.length))) := (HR.out.keep hb2).mono (fun _ q => .inl q)
          have HRO : Hid (D.rd (fun x => S0 x ∨ x ∈ F) w2 (.slice oa t.args.length oc) (Tm.sd t.args)) := D.rd_mono (fun _ q => .inr q) _ _ (D.own_rd _ _ _ ho)
          have HAC : Hid (Below w2.heap.size w2 (w2.alloc (.cells #[.string n, .string t.name, .slice oa t.args.length oc] 91))) := (Below.refl _ _).alloc (Nat.le_refl _) _
          have HRX : Hid (CellsRd (fun x => S0 x ∨ x ∈ F) (w2.alloc (.cells #[.string n, .string t.name, .slice oa t.args.length oc] 91)) [.string n, .string t.name, .slice oa t.args.length oc] (Bnd.cs ⟨n, t⟩)) := by
            rw [Hid, Bnd.cs_eq]
            exact ⟨D.rd_str hn, D.rd_str tn, D.rd_keep (Keeps.all HAC.out) _ _ HRO.out, trivial⟩
          clear ho hF hb2
          go_wp2_with (at_builtin; first | (refine wpList_append_rv (S := (fun x => S0 x ∨ x ∈ F)) (B := w0.heap.size) (k := 0) (off := off + s.bs.length * 3) (news := vs2) Tryz.underlying38 infoBndP rfl (by decide) (by decide) rfl _ _ (by rfl) (by rfl) (by rfl) HR3.out (fun y hy q => by rcases HGO3.out with h0 | h0; (rw [h0] at hy; have h1 := HRL.out y hy; rcases q with q | q; (have q2 := HS0.out y q; omega); (have h2 := HFl.out y q; omega)); (rw [h0, World.size_alloc] at hy; have hy2 := Option.some.inj hy; rcases q with q | q; (have q2 := HS0.out y q; omega); (have h2 := HFl.out y q; omega))) HL2.out (fun j u hj => (HB3.out.cell (p := ⟨b, off + s.bs.length * 3 + j, none⟩) hbl).trans (HC2.out j u hj)) ((HR2.out.keep (Keeps.all HB3.out)).mono (fun _ q => .inl q)) (by omega) (by have := HB3.out.size; omega) ?_; intro v4 w4 hr4 hg4 hgo4 hn4 hp4; (have HB4 : Hid (Below w0.heap.size w0 w4) := below_grown HB3.out hg4 (by have := HB3.out.size; omega) (fun k hk => (HR3.out.lt k hk).1)); (have re0 := (HB4.out.cell (p := ⟨w.heap.size + 1 + 1, 0, none⟩) rl).trans rb.c0); (have rf0 := (HB4.out.frozen (p := ⟨w.heap.size + 1 + 1, 0, none⟩) rl).trans (rf 0)); (have HR4 := hid hr4); clear hr4 hg4 hgo4 hn4 hp4; (obtain ⟨a4, c4, rfl, -, -⟩ := HR4.out.form)) | go_must (refine wpList_append_rv (S := (fun x => S0 x ∨ x ∈ F)) (B := w0.heap.size) (k := 1) (off := 0) (news := [.string n, .string t.name, .slice oa t.args.length oc]) Tryz.underlying38 infoBndP rfl (by decide) (by decide) rfl _ _ (by rfl) (by rfl) (by rfl) (HRW.out.keep HAC.out) (fun y hy q => by have h1 := HRL.out y hy; rcases q with q | q; (have q2 := HS0.out y q; omega); (have h2 := HFl.out y q; omega)) rfl (by intro j u hj; rw [Nat.zero_add, box1]; simpa using hj) HRX.out (by omega) (by rw [World.size_alloc]; omega) ?_; intro v3 w3 hr3 hg3 hgo3 hn3 hp3; (have HB3 : Hid (Below w0.heap.size w0 w3) := below_grown (HB2.out.trans (HAC.out.mono (by omega))) hg3 (by rw [World.size_alloc]; omega) (fun k hk => (HRL.out k hk).1)); (have es0 := (HB3.out.cell (p := ⟨w.heap.size, 0, none⟩) ls).trans bs.c0); (have HR3 := hid hr3); (have HGO3 := hid hgo3); clear hr3 hg3 hgo3 hn3 hp3))
          refine bodyPost_ret (v := .agg #[.slice a4 (0 + s.bs.length + 1 + 0) c4]) (by simp [results, Tryz.results61, go_sem, re0]) rfl ?_
          have hz4 := HB4.out.size
          have hne4 : ∀ y, (fun x => S0 x ∨ x ∈ F) y → ((S0 y ∨ w.heap.size ≤ y) ∧ y ≠ w.heap.size + 1 + 1) := fun y q => by
            have h0 := HW0.out
            rcases q with q | q
            · have := HS0.out y q; exact ⟨.inl q, by omega⟩
            · have := HFl.out y q; exact ⟨.inr (by omega), by omega⟩
          have hrow4 : ∀ y, (Value.slice a4 (0 + s.bs.length + 1 + 0) c4).ownBlock = some y → ((S0 y ∨ w.heap.size ≤ y) ∧ y ≠ w.heap.size + 1 + 1) := fun y hy => by
            have := (HR4.out.lt y hy).1
            have h0 := HW0.out
            exact ⟨.inr (by omega), by omega⟩
          have HD4 := hid ((HR4.out.mono (S' := fun x => (S0 x ∨ w.heap.size ≤ x) ∧ x ≠ w.heap.size + 1 + 1) hne4).rd (by decide) hrow4)
          have hle : (s.bs.take s.bs.length ++ (⟨n, t⟩ : Bnd) :: s.bs.drop s.bs.length).length = 0 + s.bs.length + 1 + 0 := by simp; try omega
          have hce : [] ++ Bnd.css (s.bs.take s.bs.length) ++ Bnd.cs ⟨n, t⟩ ++ Bnd.css ((s.bs.drop s.bs.length).take 0) = Bnd.css (s.bs.take s.bs.length ++ (⟨n, t⟩ : Bnd) :: s.bs.drop s.bs.length) := by
            have ht : (s.bs.drop s.bs.length).take 0 = s.bs.drop s.bs.length := List.take_of_length_le (by rw [List.length_drop]; omega)
            rw [ht]; simp [Bnd.css_flat, List.flatMap_append]
          refine ⟨_, rfl, (hW.trans (HB4.out.mono hW0)).setCell (by show w.heap.size ≤ w.heap.size + 1 + 1; omega) _, _, rfl, ?_, ?_⟩
          · rw [HP.out, Bnd.sd_css, hle, ← hce]
            exact D.rd_mono (fun _ q => q.1) _ _ (D.rd_keep ((Keeps.refl _ _).setCell (fun q _ => q.2 rfl) _) _ _ HD4.out)
          · obtain ⟨vs4, h0, -⟩ := HR4.out
            obtain ⟨g4, cp4, e4, -⟩ := h0.form (by omega)
            exact .inr ⟨g4, 0, _, _, e4, by omega⟩
set_option maxHeartbeats 4000000 in
theorem l4Put_nil {n : ByteArray} {t : Tm} {S S0 : Nat → Prop} {c0 c1 : Value} {w : World} (HS0 : Hid (∀ x, S0 x → x < w.heap.size)) (hn : n.size ≤ maxLen) (ht : Tm.at S w c0 c1 t) (hbt : t.bulk ≤ 1048576) :
    Calls Tryz.prog 61 #[.agg #[.slice none 0 0], .string n, .agg #[c0, c1]] w (Yields w (IsBs (fun x => S0 x ∨ w.heap.size ≤ x) (putB [] ⟨n, t⟩))) := by
  obtain ⟨rfl, tn, ta, tc, rfl⟩ := Tm.at_form ht
  have hW : Below w.heap.size w (((w.alloc (.cells #[.slice none 0 0] 40)).alloc (.cells #[.string t.name, .slice ta t.args.length tc] 56)).alloc (.cells #[.slice none 0 0] 40)) := (((Below.refl _ _).alloc (Nat.le_refl _) _).alloc (by simp) _).alloc (by simp; omega) _
  by_cases he : t.name = n
  · have HP : Hid (putB [] ⟨n, t⟩ = []) := by rw [Hid, putB, if_pos he]
    have hq := show (t.name.toList == n.toList) = true by rw [he]; simp
    clear he
    go_enter Tryz.func61, Tryz.ntmps61
    go_wp2_with fail
    refine bodyPost_ret (v := .agg #[.slice none 0 0]) (by simp [results, Tryz.results61, go_sem]; try rfl) rfl ?_
    refine ⟨_, rfl, hW, _, rfl, ?_, .inl rfl⟩
    rw [HP.out, Bnd.sd_css, D.rd]
    exact ⟨_, _, rfl, by simp, by simp, by simp, by simp [Bnd.css]⟩
  · have hq := toList_ne he
    have HP : Hid (putB [] ⟨n, t⟩ = [⟨n, t⟩]) := by rw [Hid, putB, if_neg he]; simp
    clear he
    have bs : Box (((w.alloc (.cells #[.slice none 0 0] 40)).alloc (.cells #[.string t.name, .slice ta t.args.length tc] 56)).alloc (.cells #[.slice none 0 0] 40)) w.heap.size [.slice none 0 0] := ((Box.new w [.slice none 0 0] 40).alloc _).alloc _
    have bt : Box (((w.alloc (.cells #[.slice none 0 0] 40)).alloc (.cells #[.string t.name, .slice ta t.args.length tc] 56)).alloc (.cells #[.slice none 0 0] 40)) (w.heap.size + 1) [.string t.name, .slice ta t.args.length tc] := by
      have := (Box.new (w.alloc (.cells #[.slice none 0 0] 40)) [.string t.name, .slice ta t.args.length tc] 56).alloc (.cells #[.slice none 0 0] 40)
      simpa only [World.size_alloc] using this
    have rb : Box (((w.alloc (.cells #[.slice none 0 0] 40)).alloc (.cells #[.string t.name, .slice ta t.args.length tc] 56)).alloc (.cells #[.slice none 0 0] 40)) (w.heap.size + 1 + 1) [.slice none 0 0] := by
      have := Box.new ((w.alloc (.cells #[.slice none 0 0] 40)).alloc (.cells #[.string t.name, .slice ta t.args.length tc] 56)) [.slice none 0 0] 40
      simpa only [World.size_alloc] using this
    have rf : ∀ p, (((w.alloc (.cells #[.slice none 0 0] 40)).alloc (.cells #[.string t.name, .slice ta t.args.length tc] 56)).alloc (.cells #[.slice none 0 0] 40)).frozen? ⟨w.heap.size + 1 + 1, p, none⟩ = false := fun p => World.frozen?_alloc_at _ _ _ p (by simp)
    have Hw0 : Hid ((((w.alloc (.cells #[.slice none 0 0] 40)).alloc (.cells #[.string t.name, .slice ta t.args.length tc] 56)).alloc (.cells #[.slice none 0 0] 40)).heap.size = w.heap.size + 1 + 1 + 1) := by simp [Hid]
    replace ht := Tm.at_keep (Keeps.all hW) ht
    go_enter Tryz.func61, Tryz.ntmps61
    go_wp2_with fail
    generalize (((w.alloc (.cells #[.slice none 0 0] 40)).alloc (.cells #[.string t.name, .slice ta t.args.length tc] 56)).alloc (.cells #[.slice none 0 0] 40)) = w0 at *
    have es0 := bs.c0
    have ls := bs.lt
    have et0 := bt.c0
    have et1 := bt.c1
    have lt := bt.lt
    have rl := rb.lt
    refine wp_loop_rounds 1 ?_
    rw [rounds_succ]
    have HW0 : Hid (w0.heap.size = w.heap.size + 1 + 1 + 1) := Hw0
    have hW0 := hW.size
    have HA : Hid (Below w0.heap.size w0 (w0.alloc (.cells #[] 91))) := (Below.refl _ _).alloc (Nat.le_refl _) _
    go_wp2_with (at_builtin; go_must (refine wpList_append_rv_none (S := S0) (B := w0.heap.size) (ds := []) (n := 0) (m := 3) Tryz.underlying38 infoBndP rfl _ _ (by rfl) (by rfl) (by rfl) (Rv.made 91 3 rfl (Nat.le_refl _)) ?_; (have HB1 := HA); (have et0 := cell_alloc bt.c0 (.cells #[] 91)); (have et1 := cell_alloc bt.c1 (.cells #[] 91)); (have HR := hid (Rv.made (S := S0) (w := w0) (B := w0.heap.size) 91 3 rfl (Nat.le_refl _)))))
    refine (ownT_any t _ _ _ _ (Tm.at_keep (Keeps.all HB1.out) ht) hbt).mono ?_
    rintro e w2 ⟨v2, F, rfl, ho, hF, hb2⟩
    obtain ⟨oa, oc, rfl⟩ := Tm.sd_own_form ho
    have HRL := hid HR.out.lt
    have HFl : Hid (∀ x ∈ F, (w0.alloc (.cells #[] 91)).heap.size ≤ x ∧ x < w2.heap.size) := fun x hx => ⟨hF x hx, D.own_lt _ _ _ ho x hx⟩
    have hz1 := HB1.out.size
    have HB2 := hid (HB1.out.trans (hb2.mono hz1))
    have hz2 := hb2.size
    have HRW : Hid (Rv (fun x => S0 x ∨ x ∈ F) w2 w0.heap.size 91 3 (.slice (some ⟨w0.heap.size, 0, none⟩) 0 0) 0 []) := (HR.out.keep hb2).mono (fun _ q => .inl q)
    have HRO : Hid (D.rd (fun x => S0 x ∨ x ∈ F) w2 (.slice oa t.args.length oc) (Tm.sd t.args)) := D.rd_mono (fun _ q => .inr q) _ _ (D.own_rd _ _ _ ho)
    have HAC : Hid (Below w2.heap.size w2 (w2.alloc (.cells #[.string n, .string t.name, .slice oa t.args.length oc] 91))) := (Below.refl _ _).alloc (Nat.le_refl _) _
    have HRX : Hid (CellsRd (fun x => S0 x ∨ x ∈ F) (w2.alloc (.cells #[.string n, .string t.name, .slice oa t.args.length oc] 91)) [.string n, .string t.name, .slice oa t.args.length oc] (Bnd.cs ⟨n, t⟩)) := by
      rw [Hid, Bnd.cs_eq]
      exact ⟨D.rd_str hn, D.rd_str tn, D.rd_keep (Keeps.all HAC.out) _ _ HRO.out, trivial⟩
    clear ho hF hb2
    go_wp2_with (at_builtin; first | (refine wpList_append_rv_none (S := (fun x => S0 x ∨ x ∈ F)) (B := w0.heap.size) (m := 3) Tryz.underlying38 infoBndP rfl _ _ (by rfl) (by rfl) (by rfl) HR3.out ?_; (have HB4 := HB3); (have re0 := (HB4.out.cell (p := ⟨w.heap.size + 1 + 1, 0, none⟩) rl).trans rb.c0); (have rf0 := (HB4.out.frozen (p := ⟨w.heap.size + 1 + 1, 0, none⟩) rl).trans (rf 0)); (have HR4 := HR3); (obtain ⟨a4, c4, rfl, -, -⟩ := HR4.out.form)) | go_must (refine wpList_append_rv (S := (fun x => S0 x ∨ x ∈ F)) (B := w0.heap.size) (k := 1) (off := 0) (news := [.string n, .string t.name, .slice oa t.args.length oc]) Tryz.underlying38 infoBndP rfl (by decide) (by decide) rfl _ _ (by rfl) (by rfl) (by rfl) (HRW.out.keep HAC.out) (fun y hy q => by have h1 := HRL.out y hy; rcases q with q | q; (have q2 := HS0.out y q; omega); (have h2 := HFl.out y q; omega)) rfl (by intro j u hj; rw [Nat.zero_add, box1]; simpa using hj) HRX.out (by omega) (by rw [World.size_alloc]; omega) ?_; intro v3 w3 hr3 hg3 hgo3 hn3 hp3; (have HB3 : Hid (Below w0.heap.size w0 w3) := below_grown (HB2.out.trans (HAC.out.mono (by omega))) hg3 (by rw [World.size_alloc]; omega) (fun k hk => (HRL.out k hk).1)); (have es0 := (HB3.out.cell (p := ⟨w.heap.size, 0, none⟩) ls).trans bs.c0); (have HR3 := hid hr3); (have HGO3 := hid hgo3); clear hr3 hg3 hgo3 hn3 hp3))
    refine bodyPost_ret (v := .agg #[.slice a4 (0 + 1) c4]) (by simp [results, Tryz.results61, go_sem, re0]) rfl ?_
    have hz4 := HB4.out.size
    have hne4 : ∀ y, (fun x => S0 x ∨ x ∈ F) y → ((S0 y ∨ w.heap.size ≤ y) ∧ y ≠ w.heap.size + 1 + 1) := fun y q => by
      have h0 := HW0.out
      rcases q with q | q
      · have := HS0.out y q; exact ⟨.inl q, by omega⟩
      · have := HFl.out y q; exact ⟨.inr (by omega), by omega⟩
    have hrow4 : ∀ y, (Value.slice a4 (0 + 1) c4).ownBlock = some y → ((S0 y ∨ w.heap.size ≤ y) ∧ y ≠ w.heap.size + 1 + 1) := fun y hy => by
      have := (HR4.out.lt y hy).1
      have h0 := HW0.out
      exact ⟨.inr (by omega), by omega⟩
    have HD4 := hid ((HR4.out.mono (S' := fun x => (S0 x ∨ w.heap.size ≤ x) ∧ x ≠ w.heap.size + 1 + 1) hne4).rd (by decide) hrow4)
    have hle : [(⟨n, t⟩ : Bnd)].length = 0 + 1 := by simp; try omega
    have hce : [] ++ Bnd.cs ⟨n, t⟩ = Bnd.css [(⟨n, t⟩ : Bnd)] := by
      simp [Bnd.css_flat]
    refine ⟨_, rfl, (hW.trans (HB4.out.mono hW0)).setCell (by show w.heap.size ≤ w.heap.size + 1 + 1; omega) _, _, rfl, ?_, ?_⟩
    · rw [HP.out, Bnd.sd_css, hle, ← hce]
      exact D.rd_mono (fun _ q => q.1) _ _ (D.rd_keep ((Keeps.refl _ _).setCell (fun q _ => q.2 rfl) _) _ _ HD4.out)
    · obtain ⟨vs4, h0, -⟩ := HR4.out
      obtain ⟨g4, cp4, e4, -⟩ := h0.form (by omega)
      exact .inr ⟨g4, 0, _, _, e4, by omega⟩
theorem l4Put_any {bs : List Bnd} {n : ByteArray} {t : Tm} {S S0 : Nat → Prop} {v c0 c1 : Value} {w : World} (hs : D.rd S0 w v (Bnd.sd bs)) (hsh : ShpB v) (hS0 : ∀ x, S0 x → x < w.heap.size) (hn : n.size ≤ maxLen) (ht : Tm.at S w c0 c1 t) (hbt : t.bulk ≤ 1048576) (hl : bs.length ≤ 1073741824) :
    Calls Tryz.prog 61 #[.agg #[v], .string n, .agg #[c0, c1]] w (Yields w (IsBs (fun x => S0 x ∨ w.heap.size ≤ x) (putB bs ⟨n, t⟩))) := by
  obtain ⟨a, c, e, h1, h2⟩ := Bnd.sd_form hs
  rcases hsh with rfl | ⟨b, off, n', c', rfl, hnz⟩
  · injection e with _ q _
    obtain rfl : bs = [] := List.length_eq_zero_iff.1 q.symm
    exact l4Put_nil hS0 hn ht hbt
  · injection e with _ q _
    have hne : bs ≠ [] := by intro e; subst e; exact hnz q
    obtain ⟨b', off', e', -, hbl, -⟩ := Bnd.sd_get hs hne
    injection e' with e'; injection e' with e1 e2
    subst e1
    exact l4Put_some (s := ⟨bs⟩) hs hS0 (hid rfl) hnz hbl hn ht hbt hl
end Go.Proofs.YtglhbaigigdeeaaGreat
