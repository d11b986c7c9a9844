/- The positions of a term: the reference's; Positions. -/
import Derived.Test.YtoekonkpephocaaPs
import Derived.Test.YtoekonkpephocaaDs
namespace Go.Proofs.Ytoekonkpephocaa
set_option maxRecDepth 100000
open Go.RowKit

theorem Tm.expr_small' {t : Tm} (h : t.expr = true) : t.size ≤ 30 := by
  have hs : t.small = true := by
    rw [Tm.expr_eq, Bool.or_eq_true, Bool.and_eq_true] at h
    rcases h with h | ⟨h0, h⟩
    · rw [Tm.valid, Bool.and_eq_true] at h; exact h.1
    · rw [Tm.atom_eq, if_pos (by simpa [Tm.isEq] using h0)] at h
      simp only [Bool.and_eq_true] at h
      exact h.1.2
  rw [Tm.small, Bool.and_eq_true] at hs
  exact of_decide_eq_true hs.1
theorem Gr.addr {w : World} {B : Nat} {e : TypeId} {m : Nat} {v : Value} {n : Nat} {cs : List D} {F : List Nat} (h : Gr w B e m v n cs F) (hne : v ≠ .slice none 0 0) : ∃ b c, v = .slice (some ⟨b, 0, none⟩) n c := by
  obtain ⟨vs, h0, _⟩ := h
  rcases h0.2 with ⟨h1, _⟩ | ⟨g, cap, cur, h1, _⟩
  · exact absurd h1 hne
  · exact ⟨g, cap, h1⟩
theorem posIs_any (t : Tm) : PosIs t := Tm.ind' posIs_of t
theorem owns_items {w : World} {b : Nat} : ∀ (cs : List D) (off : Nat) (F : List Nat), D.owns w b off cs F → ∃ vs : List Value, vs.length = cs.length ∧ (∀ i (h : i < vs.length), w.cell? ⟨b, off + i, none⟩ = some vs[i]) ∧ OwnsL w vs cs F
  | [], off, F, h => ⟨[], rfl, fun i h => absurd h (by simp), by rw [D.owns] at h; subst h; exact OwnsL.nil w⟩
  | d :: ds, off, F, h => by
    rw [D.owns] at h
    obtain ⟨F1, F2, rfl, hd, ⟨v, q0, q1⟩, hr⟩ := h
    obtain ⟨vs, h1, h2, h3⟩ := owns_items ds (off + 1) F2 hr
    refine ⟨v :: vs, by simp [h1], fun i hi => ?_, OwnsL.cons q1 h3 hd⟩
    cases i with
    | zero => exact q0
    | succ i =>
      have := h2 i (by simpa using hi)
      rw [show off + 1 + i = off + (i + 1) by omega] at this
      exact this
theorem own_one {w : World} {v : Value} {d : D} {F : List Nat} (h : D.own w v d F) : v.oneCell' = true := by
  cases d with
  | str s => rw [D.own] at h; rw [h.1]; rfl
  | num n => rw [D.own] at h; rw [h.1]; rfl
  | bit b => rw [D.own] at h; rw [h.1]; rfl
  | sl n cs => rw [D.own] at h; obtain ⟨a, c, e, _⟩ := h; rw [e]; rfl
theorem ownsL_one {w : World} : ∀ {vs : List Value} {ds : List D} {F : List Nat}, OwnsL w vs ds F → ∀ u ∈ vs, u.oneCell' = true
  | [], _, _, _, u, hu => by cases hu
  | _ :: _, [], _, h, _, _ => by rw [OwnsL] at h; exact h.elim; all_goals simp
  | v :: vs, d :: ds, F, h, u, hu => by
    rw [OwnsL] at h
    obtain ⟨F1, F2, _, _, h1, h2⟩ := h
    rcases List.mem_cons.1 hu with rfl | hu
    · exact own_one h1
    · exact ownsL_one h2 u hu

def WalkIs (t : Tm) : Prop := ∀ (pre : List Int) (S S' : Nat → Prop) (c0 c1 : Value) (pb pc : Nat) (w : World), Tm.at S w c0 c1 t → t.bulk ≤ 1048576 → pre.length + t.bulk ≤ 4194304 → D.rd S' w (.slice (some ⟨pb, 0, none⟩) pre.length pc) (slOf intE pre) →
  Calls Try.prog 65 #[.agg #[c0, c1], .slice (some ⟨pb, 0, none⟩) pre.length pc] w fun e w' => ∃ b off cap F, e = .returned (.slice (some ⟨b, off, none⟩) t.poss.length cap) ∧ D.own w' (.slice (some ⟨b, off, none⟩) t.poss.length cap) (slOf issE (t.poss.map (pre ++ ·))) F ∧ (∀ x ∈ F, w.heap.size ≤ x) ∧ Below w.heap.size w w'

set_option maxHeartbeats 4000000 in
theorem walkIs_of (t : Tm) (ih : ∀ a ∈ t.args, WalkIs a) : WalkIs t := by
  intro pre S S' c0 c1 pb pc w ht hbk hpl hpr
  have HS := hid ht.2
  have HP := hid hpr
  have HT := hid (Tm.poss_eq t)
  have hsb := Tm.size_bulk t
  have hts : t.size = 1 + Tm.sizes t.args := by cases t; rw [Tm.size]; rfl
  obtain ⟨_, _, e, hlen, -⟩ := Tm.sd_form HS.out
  unfold big at hlen
  clear e
  obtain ⟨rfl, tn, ta, tc, rfl⟩ := Tm.at_form ht
  have hW : Below w.heap.size w (w.alloc (.cells #[.string t.name, .slice ta t.args.length tc] 31)) := (Below.refl _ _).alloc (Nat.le_refl _) _
  have bt : Box (w.alloc (.cells #[.string t.name, .slice ta t.args.length tc] 31)) (w.heap.size) [.string t.name, .slice ta t.args.length tc] := by
    have := (Box.new w [.string t.name, .slice ta t.args.length tc] 31)
    simpa only [World.size_alloc] using this
  replace ht := Tm.at_keep (Keeps.all hW) ht
  have et0 := bt.c0
  have et1 := bt.c1
  have lt := bt.lt
  go_enter Try.func65, Try.ntmps65
  go_wp2_with fail
  clear et0 et1 lt
  have Hw0 : Hid ((w.alloc (.cells #[.string t.name, .slice ta t.args.length tc] 31)).heap.size = w.heap.size + 1) := by simp [Hid]
  generalize (w.alloc (.cells #[.string t.name, .slice ta t.args.length tc] 31)) = w0 at *
  have hwz := hW.size
  refine (l1Own_any (D.rd_keep (Keeps.all hW) _ _ HP.out) (by omega)).mono ?_
  rintro e w1 ⟨v1, rfl, hg1, hn1, hb1⟩
  obtain ⟨g1, c1, rfl⟩ := hg1.addr hn1
  have hw1z := hb1.size
  have hbw1 := hW.trans (hb1.mono hW.size)
  have bt1 := bt.keep hb1
  obtain ⟨G1, hgo1, hG1⟩ := (hg1.mono (B' := w.heap.size + 1) (by have := Hw0.out; omega)).own
  have hO1 : OwnsL w1 [.slice (some ⟨g1, 0, none⟩) pre.length c1] [slOf intE pre] (G1 ++ []) := OwnsL.cons hgo1 (OwnsL.nil _) (by simp)
  have hH1 := hid Hw0.out
  clear hb1
  go_wp2_with fail
  go_loopw [5, 6] (fun x i wr => ∃ (k : Nat) (F : List Nat), k ≤ t.args.length ∧ i = .int .i64 k ∧ Hid (GII wr (w.heap.size + 1) x (pre :: (Tm.possL (t.args.take k) 0).map (pre ++ ·)) F) ∧ Hid (x ≠ .slice none 0 0) ∧ Below (w.heap.size + 1) w1 wr) (fun _ i _ => t.args.length - (intOf i).toNat)
  case atStart =>
    refine ⟨0, G1 ++ [], Nat.zero_le _, rfl, ?_, hid (by intro e; cases e), (Below.refl _ _).alloc (by have := Hw0.out; omega) _⟩
    rw [List.take_zero, Tm.possL]
    exact Gr.lit (vs := [.slice (some ⟨g1, 0, none⟩) pre.length c1]) (n := 1) _ rfl (by have := Hw0.out; omega) rfl (by decide) hO1 (by simpa using hG1)
  case round =>
    obtain ⟨k, F, hk, rfl, HG, HN, hb'⟩ := hrel
    have hb : Below w.heap.size w wr := hbw1.trans (hb'.mono (by omega))
    have x1 : wr.cell? ⟨w.heap.size, 1, none⟩ = some (.slice ta t.args.length tc) := (hb'.cell (p := ⟨w.heap.size, 1, none⟩) (by simp)).trans bt1.c1
    have hzb := hb'.size
    have hH0 := Hw0.out
    by_cases hlt : k < t.args.length
    · have hne : t.args ≠ [] := by intro e; rw [e] at hlt; simp at hlt
      obtain ⟨b, off, rfl, hSb, hbl, hrr⟩ := Tm.sd_get HS.out hne
      obtain ⟨c0, c1, q0, q1, q2⟩ := hrr k hlt
      replace q0 := (hb.cell (p := ⟨b, off + k * 2, none⟩) hbl).trans q0
      replace q1 := (hb.cell (p := ⟨b, off + k * 2 + 1, none⟩) hbl).trans q1
      replace q2 := Tm.at_keep (Keeps.all hb) q2
      obtain ⟨rfl, -, qa, qc, rfl⟩ := Tm.at_form q2
      have hmem := ih t.args[k] (List.getElem_mem hlt)
      have hbm := Tm.bulk_mem (List.getElem_mem hlt)
      have hba := Tm.args_bulk t
      have hbk' : t.args[k].bulk ≤ 1048576 := by omega
      have hbk2 : 1 + t.args[k].bulk ≤ t.bulk := by have : t.bulk = t.name.size + t.args.length + Tm.bulks t.args := by { cases t; rw [Tm.bulk]; rfl }; omega
      obtain ⟨qs, Hqs⟩ : ∃ qs, Hid (t.args[k].poss = qs) := ⟨_, hid rfl⟩
      obtain ⟨cur, Hcur⟩ : ∃ cur, Hid (pre :: (Tm.possL (t.args.take k) 0).map (pre ++ ·) = cur) := ⟨_, hid rfl⟩
      have HNX : Hid (pre :: (Tm.possL (t.args.take (k + 1)) 0).map (pre ++ ·) = cur ++ qs.map ((pre ++ [(k : Int)]) ++ ·)) := by
        rw [Hid, Tm.possL_take _ _ _ hlt, ← Hcur.out, ← Hqs.out, Nat.zero_add, List.map_append, List.map_map, List.cons_append]
        congr 2
        refine List.map_congr_left fun p _ => ?_
        simp
      have hml : cur.length + qs.length ≤ 4194304 := by
        have h1 := Tm.poss_length t.args[k]
        have h2 := Tm.size_bulk t.args[k]
        have h3 : (Tm.possL (t.args.take k) 0).length ≤ Tm.sizes t.args := by
          have h4 := Tm.poss_length (.node t.name (t.args.take k))
          rw [Tm.poss, Tm.size, List.length_cons] at h4
          have := Tm.sizes_le t.args k
          omega
        rw [← Hcur.out, ← Hqs.out, List.length_cons, List.length_map]; omega
      rw [Hcur.out] at HG
      have hgl := Gr.lt HG.out
      have hgF := Gr.ltF HG.out
      have hD : Below wr.heap.size wr wr.drew := (Below.refl _ _).drew
      have hDA : Below wr.heap.size wr (wr.alloc (.cells #[.int .i64 k] 3)).drew := ((Below.refl _ _).alloc (Nat.le_refl _) _).drew
      have hpr2 := D.rd_keep (Keeps.all hb) _ _ HP.out
      have hki : IsI64 (k : Int) := ⟨by omega, by omega⟩
      obtain ⟨pre2, Hp2⟩ : ∃ p2, Hid (pre ++ [(k : Int)] = p2) := ⟨_, hid rfl⟩
      have hp2l : pre2.length + t.args[k].bulk ≤ 4194304 := by rw [← Hp2.out]; simp; omega
      rw [Hp2.out] at HNX
      clear hrr hbm hba
      go_wp2_with fail
      go_region_held3 (fun w' => w'.cell? ⟨w.heap.size, 1, none⟩ = some (.slice (some ⟨b, off, none⟩) t.args.length tc) ∧ w'.cell? ⟨b, off + k * 2, none⟩ = some (.string t.args[k].name) ∧ w'.cell? ⟨b, off + k * 2 + 1, none⟩ = some (.slice qa t.args[k].args.length qc))
        (first | assumption | go_keep)
        (first
          | (go_at_call 108
             go_must (
               refine (l1Own_any (by first | exact D.rd_keep (Keeps.all hD) _ _ hpr2 | exact D.rd_keep (Keeps.all hDA) _ _ hpr2) (by omega)).mono ?_
               rintro e w2 ⟨v2, rfl, hg2, hn2, hb2⟩
               have hbw2 : Below wr.heap.size wr w2 := by first | exact hD.trans (hb2.mono hD.size) | exact hDA.trans (hb2.mono hDA.size)
               have hz2 := hbw2.size
               have hS : _ ∧ _ ∧ _ := ⟨(hbw2.cell (p := ⟨w.heap.size, 1, none⟩) (by simp; omega)).trans x1, (hbw2.cell (p := ⟨b, off + k * 2, none⟩) (by simp; omega)).trans q0, (hbw2.cell (p := ⟨b, off + k * 2 + 1, none⟩) (by simp; omega)).trans q1⟩))
          | (go_at_call 65
             go_must (
               have hq4 := hmem pre2 S _ _ _ _ _ _ (Tm.at_keep (Keeps.all hb3) q2) hbk' hp2l hg3.rd
               rw [Hqs.out] at hq4
               refine hq4.mono ?_
               rintro e w4 ⟨b4, off4, cap4, F4, rfl, ho4, hF4, hb4⟩
               have hbw4 : Below wr.heap.size wr w4 := hb3.trans (hb4.mono hb3.size)
               have hz4 := hbw4.size
               have hS : _ ∧ _ ∧ _ := ⟨(hbw4.cell (p := ⟨w.heap.size, 1, none⟩) (by simp; omega)).trans x1, (hbw4.cell (p := ⟨b, off + k * 2, none⟩) (by simp; omega)).trans q0, (hbw4.cell (p := ⟨b, off + k * 2 + 1, none⟩) (by simp; omega)).trans q1⟩))
          | (refine step_append_ints (B := wr.heap.size) (xs := pre) (ys := [(k : Int)]) (S := fun _ => True) rfl _ _ (by rfl) (by rfl) (by rfl) (by rfl) (by first | exact (hg2.mono (by simp)).keep ((Below.refl _ _).alloc (Nat.le_refl _) _) | exact hg2.mono (by simp)) (by first | exact (GI.one hki rfl (Nat.le_refl _)).rd | exact D.rd_keep (Keeps.all hb2) _ _ (D.rd_keep (Keeps.all ((Below.refl _ _).drew)) _ _ (GI.one hki rfl (Nat.le_refl _)).rd)) (by simp; omega) (by first | (simp; omega) | omega) ?_
             intro v3 w3 hg3 hgr3 hgo3 hgn3
             rw [Hp2.out] at hg3
             obtain ⟨pb3, pc3, rfl⟩ := hg3.addr (hgn3 hn2)
             have hb3 : Below wr.heap.size wr w3 := below_grown (by first | exact hbw2.alloc hbw2.size _ | exact hbw2) hgr3 (by first | (simp; omega) | omega) (fun x hx => by have := (Gr.lt hg2 x hx).1; simp at this; omega)
             have hS : _ ∧ _ ∧ _ := ⟨(hb3.cell (p := ⟨w.heap.size, 1, none⟩) (by simp; omega)).trans x1, (hb3.cell (p := ⟨b, off + k * 2, none⟩) (by simp; omega)).trans q0, (hb3.cell (p := ⟨b, off + k * 2 + 1, none⟩) (by simp; omega)).trans q1⟩)
          | (obtain ⟨-, b5, off5, F5, e5, rfl, hbF5, hbl5, -, hos5⟩ := D.own_slice ho4 (by rw [flat_iss]; intro e; have h6 := Tm.poss_eq t.args[k]; rw [Hqs.out] at h6; rw [h6] at e; simp at e)
             obtain ⟨vs5, hv51, hv52, hv53⟩ := owns_items _ _ _ hos5
             injection e5 with e5; injection e5 with e51 e52; subst e51 e52
             refine step_append_grs (P := Try.prog) (B := w.heap.size + 1) (news := vs5) (G := F5) (ds := (qs.map (pre2 ++ ·)).flatMap issE) Try.underlying38 infoSl rfl (by decide) (by decide) rfl _ _ (by rfl) (by rfl) (by rfl) (Gr.keep HG.out hbw4) (by rw [hv51, flat_iss]; simp) (fun j u hj => by obtain ⟨hjl, ej⟩ := List.getElem?_eq_some_iff.1 hj; rw [hv52 j hjl, ej]) (ownsL_one hv53) hv53 (fun y hy => by have := hF4 y (by simp [hy]); have := hb3.size; omega) (fun y hy hy' => by have := hF4 y (by simp [hy']); have := hgF y hy; have := hb3.size; omega) (fun y hy hy' => by have := hF4 y (by simp [hy']); have := (hgl y hy).2; have := hb3.size; omega) (by omega) (by omega) ?_
             intro v6 w6 hg6 hgr6 hgo6 hgn6
             have hgc := fun (b' : Nat) (h' : b' < w.heap.size + 1) => grown_cell hgr6 (b := b') (by omega) (fun y hy => by have := (hgl y hy).1; omega)
             have hS : _ ∧ _ ∧ _ := ⟨((hgc w.heap.size (by omega)).1 1).trans ((hbw4.cell (p := ⟨w.heap.size, 1, none⟩) (by simp; omega)).trans x1), ((hgc b (by omega)).1 (off + k * 2)).trans ((hbw4.cell (p := ⟨b, off + k * 2, none⟩) (by simp; omega)).trans q0), ((hgc b (by omega)).1 (off + k * 2 + 1)).trans ((hbw4.cell (p := ⟨b, off + k * 2 + 1, none⟩) (by simp; omega)).trans q1)⟩
             clear hgc))
      all_goals
        have HG6 : Hid (GII w6 (w.heap.size + 1) v6 (pre :: (Tm.possL (t.args.take (k + 1)) 0).map (pre ++ ·)) (F ++ F5)) := by
          rw [Hid, HNX.out]
          unfold GII
          rw [List.length_append, List.length_map, List.map_append, ← flat_iss (qs.map (pre2 ++ ·))]
          exact hg6
        have HN6 := hid (hgn6 HN.out)
        have hb6 : Below (w.heap.size + 1) w1 w6 := below_grown (hb'.trans (hbw4.mono (by omega))) hgr6 (by omega) (fun y hy => (hgl y hy).1)
        clear hg6 hgr6 hgo6 hgn6
        go_wp2_with fail
        go_roundw
        case rel => exact ⟨k + 1, _, by omega, by go_num, HG6, HN6, hb6⟩
        case measure => simp [intOf]; omega
    · obtain rfl : k = t.args.length := by omega
      have hg := HG.out
      rw [List.take_length] at hg
      obtain ⟨g, c, rfl⟩ := Gr.addr hg HN.out
      obtain ⟨G, ho, hG⟩ := GII.own hg
      have hpm : pre :: (Tm.possL t.args 0).map (pre ++ ·) = t.poss.map (pre ++ ·) := by rw [HT.out]; simp
      have hln : (pre :: (Tm.possL t.args 0).map (pre ++ ·)).length = t.poss.length := by rw [hpm, List.length_map]
      rw [hln, hpm] at ho
      rw [hln]
      clear hln hpm hg
      go_wp2_with fail
      go_ret
      exact ⟨g, 0, c, G, rfl, ho, fun x hx => by have := hG x hx; omega, hb⟩
theorem walkIs_any (t : Tm) : WalkIs t := Tm.ind' walkIs_of t

def posR (t : Tm) : List (List Int) := if t.expr = true then t.poss else []
theorem lens_bound : ∀ (ps : List (List Int)) (m : Nat), (∀ p ∈ ps, p.length ≤ m) → lens ps ≤ ps.length * m
  | [], m, _ => by simp [lens]
  | p :: ps, m, h => by
    have h1 := h p (by simp)
    have h2 := lens_bound ps m fun q hq => h q (by simp [hq])
    rw [lens, List.length_cons, Nat.add_mul]; omega
theorem posR_lens (t : Tm) (h : t.bulk ≤ 1048576) : lens (posR t) ≤ 68719476736 := by
  unfold posR
  split
  · rename_i he
    have h30 := Tm.expr_small' he
    have h1 := lens_bound t.poss t.bulk (Tm.poss_deep t)
    have h2 := Tm.poss_length t
    have h3 : t.poss.length * t.bulk ≤ 30 * 1048576 := Nat.mul_le_mul (by omega) h
    omega
  · simp [lens]
set_option maxHeartbeats 2000000 in
theorem impl_Positions {t : Tm} {S : Nat → Prop} {c0 c1 : Value} {w : World} (ht : Tm.at S w c0 c1 t) (hbt : t.bulk ≤ 1048576) : Calls Try.prog 21 #[.agg #[c0, c1]] w (OutD id (slOf issE (posR t)) t.expr w) := by
  by_cases h1 : t.expr = true
  · have HR : Hid (posR t = t.poss) := by rw [Hid, posR, if_pos h1]
    have HE := hid h1
    clear h1
    rw [HR.out, HE.out]
    obtain ⟨rfl, tn, ta, tc, rfl⟩ := Tm.at_form ht
    have hW : Below w.heap.size w (w.alloc (.cells #[.string t.name, .slice ta t.args.length tc] 31)) := (Below.refl _ _).alloc (Nat.le_refl _) _
    have bt : Box (w.alloc (.cells #[.string t.name, .slice ta t.args.length tc] 31)) (w.heap.size) [.string t.name, .slice ta t.args.length tc] := by
      have := (Box.new w [.string t.name, .slice ta t.args.length tc] 31)
      simpa only [World.size_alloc] using this
    replace ht := Tm.at_keep (Keeps.all hW) ht
    have et0 := bt.c0
    have et1 := bt.c1
    have lt := bt.lt
    go_enter Try.func21, Try.ntmps21
    go_wp2_with fail
    clear et0 et1 lt
    have Hw0 : Hid ((w.alloc (.cells #[.string t.name, .slice ta t.args.length tc] 31)).heap.size = w.heap.size + 1) := by simp [Hid]
    generalize (w.alloc (.cells #[.string t.name, .slice ta t.args.length tc] 31)) = w0 at *
    refine (isExpression_any t ht hbt).mono ?_
    rintro e w1 ⟨_, rfl, hb, rfl⟩
    replace hW := hW.trans (hb.mono hW.size)
    replace bt := bt.keep hb
    replace ht := Tm.at_keep (Keeps.all hb) ht
    clear hb
    rw [HE.out]
    have et0 := bt.c0
    have et1 := bt.c1
    have lt := bt.lt
    go_wp2_with fail
    clear et0 et1 lt
    refine (posIs_any t _ _ _ _ ht hbt).mono ?_
    rintro e w2 ⟨v, F, rfl, ho, hF, hb⟩
    have hzW := hW.size
    have hbe := hW.trans (hb.mono hW.size)
    go_wp2_with fail
    go_ret2
    exact ⟨v, F, rfl, ho, fun x hx => Nat.le_trans hzW (hF x hx), hbe⟩
  · have HE := hid (Bool.eq_false_iff.2 h1)
    have HR : Hid (posR t = []) := by rw [Hid, posR, if_neg h1]
    clear h1
    rw [HR.out, HE.out]
    obtain ⟨rfl, tn, ta, tc, rfl⟩ := Tm.at_form ht
    have hW : Below w.heap.size w (w.alloc (.cells #[.string t.name, .slice ta t.args.length tc] 31)) := (Below.refl _ _).alloc (Nat.le_refl _) _
    have bt : Box (w.alloc (.cells #[.string t.name, .slice ta t.args.length tc] 31)) (w.heap.size) [.string t.name, .slice ta t.args.length tc] := by
      have := (Box.new w [.string t.name, .slice ta t.args.length tc] 31)
      simpa only [World.size_alloc] using this
    replace ht := Tm.at_keep (Keeps.all hW) ht
    have et0 := bt.c0
    have et1 := bt.c1
    have lt := bt.lt
    go_enter Try.func21, Try.ntmps21
    go_wp2_with fail
    clear et0 et1 lt
    have Hw0 : Hid ((w.alloc (.cells #[.string t.name, .slice ta t.args.length tc] 31)).heap.size = w.heap.size + 1) := by simp [Hid]
    generalize (w.alloc (.cells #[.string t.name, .slice ta t.args.length tc] 31)) = w0 at *
    refine (isExpression_any t ht hbt).mono ?_
    rintro e w1 ⟨_, rfl, hb, rfl⟩
    replace hW := hW.trans (hb.mono hW.size)
    replace bt := bt.keep hb
    replace ht := Tm.at_keep (Keeps.all hb) ht
    clear hb
    rw [HE.out]
    have et0 := bt.c0
    have et1 := bt.c1
    have lt := bt.lt
    go_wp2_with fail
    clear et0 et1 lt
    go_ret2
    exact ⟨_, [], rfl, D.own_nil _ _, by simp, hW⟩
theorem rd_iss_nil {w : World} {a : Option Addr} {c : Nat} : D.rd (fun _ => True) w (.slice a 0 c) (slOf issE []) := by
  rw [slOf, D.rd]
  exact ⟨_, _, rfl, by simp, by simp, by simp, by simp⟩
set_option maxHeartbeats 2000000 in
theorem spec_Positions {t : Tm} {S : Nat → Prop} {c0 c1 : Value} {w : World} (ht : Tm.at S w c0 c1 t) (hbt : t.bulk ≤ 1048576) : Calls Try.prog 20 #[.agg #[c0, c1]] w (RdD id (slOf issE (posR t)) t.expr w) := by
  by_cases h1 : t.expr = true
  · have HR : Hid (posR t = t.poss) := by rw [Hid, posR, if_pos h1]
    have HE := hid h1
    clear h1
    rw [HR.out, HE.out]
    obtain ⟨rfl, tn, ta, tc, rfl⟩ := Tm.at_form ht
    have hW : Below w.heap.size w (w.alloc (.cells #[.string t.name, .slice ta t.args.length tc] 31)) := (Below.refl _ _).alloc (Nat.le_refl _) _
    have bt : Box (w.alloc (.cells #[.string t.name, .slice ta t.args.length tc] 31)) (w.heap.size) [.string t.name, .slice ta t.args.length tc] := by
      have := (Box.new w [.string t.name, .slice ta t.args.length tc] 31)
      simpa only [World.size_alloc] using this
    replace ht := Tm.at_keep (Keeps.all hW) ht
    have et0 := bt.c0
    have et1 := bt.c1
    have lt := bt.lt
    go_enter Try.func20, Try.ntmps20
    go_wp2_with fail
    clear et0 et1 lt
    have Hw0 : Hid ((w.alloc (.cells #[.string t.name, .slice ta t.args.length tc] 31)).heap.size = w.heap.size + 1) := by simp [Hid]
    generalize (w.alloc (.cells #[.string t.name, .slice ta t.args.length tc] 31)) = w0 at *
    refine (l2Any_any t ht hbt).mono ?_
    rintro e w1 ⟨_, rfl, hb, rfl⟩
    replace hW := hW.trans (hb.mono hW.size)
    replace bt := bt.keep hb
    replace ht := Tm.at_keep (Keeps.all hb) ht
    clear hb
    rw [HE.out]
    have et0 := bt.c0
    have et1 := bt.c1
    have lt := bt.lt
    go_wp2_with fail
    clear et0 et1 lt
    have hA : Below w1.heap.size w1 (w1.alloc (.cells #[] 3)) := (Below.refl _ _).alloc (Nat.le_refl _) _
    have hq := walkIs_any t [] S (fun _ => True) _ _ w1.heap.size 0 _ (Tm.at_keep (Keeps.all hA) ht) hbt (by simp; omega) rd_ints_nil
    refine hq.mono ?_
    rintro e w2 ⟨b, off, cap, F, rfl, ho, hF, hb⟩
    have hbe := hW.trans ((hA.trans (hb.mono hA.size)).mono hW.size)
    have hr := D.rd_all (D.own_rd _ _ _ ho)
    have hm : t.poss.map (([] : List Int) ++ ·) = t.poss := by simp
    rw [hm] at hr
    go_wp2_with fail
    go_ret2
    exact ⟨_, rfl, hr, hbe⟩
  · have HE := hid (Bool.eq_false_iff.2 h1)
    have HR : Hid (posR t = []) := by rw [Hid, posR, if_neg h1]
    clear h1
    rw [HR.out, HE.out]
    obtain ⟨rfl, tn, ta, tc, rfl⟩ := Tm.at_form ht
    have hW : Below w.heap.size w (w.alloc (.cells #[.string t.name, .slice ta t.args.length tc] 31)) := (Below.refl _ _).alloc (Nat.le_refl _) _
    have bt : Box (w.alloc (.cells #[.string t.name, .slice ta t.args.length tc] 31)) (w.heap.size) [.string t.name, .slice ta t.args.length tc] := by
      have := (Box.new w [.string t.name, .slice ta t.args.length tc] 31)
      simpa only [World.size_alloc] using this
    replace ht := Tm.at_keep (Keeps.all hW) ht
    have et0 := bt.c0
    have et1 := bt.c1
    have lt := bt.lt
    go_enter Try.func20, Try.ntmps20
    go_wp2_with fail
    clear et0 et1 lt
    have Hw0 : Hid ((w.alloc (.cells #[.string t.name, .slice ta t.args.length tc] 31)).heap.size = w.heap.size + 1) := by simp [Hid]
    generalize (w.alloc (.cells #[.string t.name, .slice ta t.args.length tc] 31)) = w0 at *
    refine (l2Any_any t ht hbt).mono ?_
    rintro e w1 ⟨_, rfl, hb, rfl⟩
    replace hW := hW.trans (hb.mono hW.size)
    replace bt := bt.keep hb
    replace ht := Tm.at_keep (Keeps.all hb) ht
    clear hb
    rw [HE.out]
    have et0 := bt.c0
    have et1 := bt.c1
    have lt := bt.lt
    go_wp2_with fail
    clear et0 et1 lt
    go_ret2
    exact ⟨_, rfl, rd_iss_nil, hW.alloc hW.size _⟩
end Go.Proofs.Ytoekonkpephocaa
