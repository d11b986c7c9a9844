/- The reference renames the variables of a term. -/
import Derived.Test.YtglhbaigigdeeaaDoorRq
import Derived.Test.YtglhbaigigdeeaaDoorSo
import Derived.Test.YtglhbaigigdeeaaDoorNs
import Derived.Test.YtglhbaigigdeeaaDoorSe
namespace Go.Proofs.YtglhbaigigdeeaaDoor
set_option maxRecDepth 100000
open Go.RowKit

theorem ren_name (p : ByteArray) {ks : List ByteArray} (h : ks.length ≤ 999999) (t : Tm) : (Tm.ren p ks t).name.size ≤ t.name.size + p.size + 7 := by
  rw [Tm.ren_eq]; split
  · exact renN_size p t.name h
  · simp only [Tm.name]; omega
theorem Tm.css_snoc (ts : List Tm) (t : Tm) : Tm.css (ts ++ [t]) = Tm.css ts ++ [.str t.name, Tm.sd t.args] := by
  have := Tm.css_take_succ (ts ++ [t]) ts.length (by simp)
  rw [List.take_of_length_le (by simp)] at this
  simpa using this
theorem Tm.name_bulk (t : Tm) : t.name.size ≤ t.bulk := by
  cases t; simp only [Tm.name, Tm.bulk]; omega
/-- what l5Rename comes to -/
def RenS (p : ByteArray) (ks : List ByteArray) (t : Tm) : Prop := ∀ (S S' : Nat → Prop) (c0 c1 kv : Value) (w : World), Tm.at S w c0 c1 t → D.rd S' w kv (slOf strE ks) → t.bulk ≤ 1048576 → Calls Tryd.prog 25 #[.agg #[c0, c1], kv, .string p] w (MadeT (Tm.ren p ks t) w)
set_option maxHeartbeats 4000000 in
theorem renS_of (p : ByteArray) (ks : List ByteArray) (hp : p.size ≤ 1048576) (hks : ks.length ≤ 999999) (n : ByteArray) (ts : List Tm) (h : ∀ t ∈ ts, RenS p ks t) : RenS p ks (.node n ts) := by
  intro S S' c0 c1 kv w hr hv hbk
  obtain ⟨rfl, hn, a, cap, rfl⟩ := Tm.at_form hr
  have hs := hr.2
  rw [Tm.bulk] at hbk
  simp only [Tm.name, Tm.args] at hn hs ⊢
  clear hr
  obtain ⟨va, vc, rfl, hvl, hvc⟩ := slOf_form hv
  unfold big at hvl
  have HV := hid hv
  clear hv
  by_cases hvn : varName n = true
  · have HVN := hid hvn
    have HR : Hid (Tm.ren p ks (.node n ts) = .node (renN p ks n) []) := by rw [Hid, Tm.ren, if_pos hvn]
    clear hvn
    have hW : Below w.heap.size w ((w.alloc (.cells #[.string n, .slice a ts.length cap] 28)).alloc (.cells #[.string ByteArray.empty, .slice none 0 0] 28)) := ((Below.refl _ _).alloc (Nat.le_refl _) _).alloc (by simp) _
    have b0 : Box ((w.alloc (.cells #[.string n, .slice a ts.length cap] 28)).alloc (.cells #[.string ByteArray.empty, .slice none 0 0] 28)) w.heap.size [.string n, .slice a ts.length cap] := (Box.new w [Value.string n, .slice a ts.length cap] 28).alloc _
    have b1 : Box ((w.alloc (.cells #[.string n, .slice a ts.length cap] 28)).alloc (.cells #[.string ByteArray.empty, .slice none 0 0] 28)) (w.heap.size + 1) [.string ByteArray.empty, .slice none 0 0] := by
      have := Box.new (w.alloc (.cells #[.string n, .slice a ts.length cap] 28)) [Value.string ByteArray.empty, .slice none 0 0] 28
      simpa only [World.size_alloc] using this
    have f1 : ∀ p, ((w.alloc (.cells #[.string n, .slice a ts.length cap] 28)).alloc (.cells #[.string ByteArray.empty, .slice none 0 0] 28)).frozen? ⟨w.heap.size + 1, p, none⟩ = false := fun p => World.frozen?_alloc_at _ _ _ p (by simp)
    have x0 := b0.c0
    have hq := l2Var_any n hn ((w.alloc (.cells #[.string n, .slice a ts.length cap] 28)).alloc (.cells #[.string ByteArray.empty, .slice none 0 0] 28))
    go_enter Tryd.func25, Tryd.ntmps25
    go_wp2_with fail
    refine hq.mono ?_
    generalize ((w.alloc (.cells #[.string n, .slice a ts.length cap] 28)).alloc (.cells #[.string ByteArray.empty, .slice none 0 0] 28)) = w0 at *
    clear hq x0
    rintro e w1 ⟨rfl, rfl⟩
    rw [HVN.out]
    go_wp2_with fail
    go_loopw [7] (fun i wr => ∃ k : Nat, k ≤ ks.length ∧ i = .int .i64 k ∧ Hid (∀ j (h : j < ks.length), j < k → ks[j] ≠ n) ∧ Hid (Below w0.heap.size w0 wr)) (fun i _ => ks.length - (intOf i).toNat)
    case atStart => exact ⟨0, Nat.zero_le _, rfl, fun j h h' => absurd h' (by omega), Below.refl _ _⟩
    case round =>
      obtain ⟨k, hk, rfl, HX, HB⟩ := hrel
      have hkI : (0 : Int) ≤ (k : Int) := by omega
      have x0 := (b0.keep HB.out).c0
      have l0 := (b0.keep HB.out).lt
      have r0 := (b1.keep HB.out).c0
      have r1 := (b1.keep HB.out).c1
      have l1 := (b1.keep HB.out).lt
      have g0 := (HB.out.frozen (p := ⟨w.heap.size + 1, 0, none⟩) b1.lt).trans (f1 0)
      have g1 := (HB.out.frozen (p := ⟨w.heap.size + 1, 1, none⟩) b1.lt).trans (f1 1)
      have HBW := hid (hW.trans (HB.out.mono hW.size))
      by_cases hlt : k < ks.length
      · obtain ⟨b, off, rfl, -, hbl, hrr⟩ := strs_get (D.rd_keep (Keeps.all HBW.out) _ _ HV.out) (by intro e; subst e; simp at hlt)
        obtain ⟨q0, -⟩ := hrr k hlt
        clear hrr
        by_cases he : ks[k] = n
        · have HI : Hid (renN p ks n = numS p k) := by
            have e := idxS_at (n := n) (ks := ks) (k := k) hk HX.out (fun _ => he)
            rw [Hid, renN, e, if_pos hlt]
          have hq := show (ks[k].toList == n.toList) = true by rw [he]; simp
          have hz := itoaB_size (n := (k : Int)) (by omega) (by omega)
          have g4 : ¬ 9223372036854775807 < p.size + (itoaB (k : Int)).size := by omega
          have hnum := l1Num_any (k : Int) (by omega) (by omega)
          clear he
          go_wp2_with fail
          go_quiet (fail)
          have HBD : Hid (Below wr.heap.size wr (wr.drewN nq)) := ⟨rfl, rfl, rfl, Nat.le_refl _, fun _ _ => rfl⟩
          go_wp2_with fail
          refine (hnum _).mono ?_
          rintro e w2 ⟨_, rfl, hb2, rfl⟩
          have HB2 := hid (HBD.out.trans (hb2.mono HBD.out.size))
          have hz2 := HB2.out.size
          replace r0 := (HB2.out.cell (p := ⟨w.heap.size + 1, 0, none⟩) l1).trans r0
          replace r1 := (HB2.out.cell (p := ⟨w.heap.size + 1, 1, none⟩) l1).trans r1
          replace g0 := (HB2.out.frozen (p := ⟨w.heap.size + 1, 0, none⟩) l1).trans g0
          replace g1 := (HB2.out.frozen (p := ⟨w.heap.size + 1, 1, none⟩) l1).trans g1
          replace l1 := Nat.lt_of_lt_of_le l1 hz2
          clear hb2 q0 x0
          go_wp2_with fail
          refine bodyPost_ret (v := .agg #[.string (numS p k), .slice none 0 0]) (by simp [results, Tryd.results25, go_sem, r0, r1, numS]) rfl ?_
          refine ⟨_, [], by rw [HR.out, HI.out]; rfl, by rw [HR.out]; exact D.own_nil _ _, by simp, ?_⟩
          exact ((HBW.out.trans (HB2.out.mono HBW.out.size)).setCell (by simp) _).setCell (by simp) _
        · have HZ : Hid (∀ j (h : j < ks.length), j < k + 1 → ks[j] ≠ n) := fun j h h' => by
            by_cases hjk : j < k
            · exact HX.out j h hjk
            · obtain rfl : j = k := by omega
              exact he
          have hq := toList_ne he
          clear he
          go_wp2_with fail
          go_quiet (fail)
          have HBD := hid (HB.out.trans ((show Below wr.heap.size wr (wr.drewN nq) from ⟨rfl, rfl, rfl, Nat.le_refl _, fun _ _ => rfl⟩).mono HB.out.size))
          go_wp2_with fail
          go_roundw
          case rel => exact ⟨k + 1, by omega, by go_num, HZ, HBD⟩
          case measure => simp [intOf]; omega
      · obtain rfl : k = ks.length := by omega
        have HI : Hid (renN p ks n = n) := by
          have e := idxS_at (n := n) (ks := ks) (k := ks.length) (Nat.le_refl _) HX.out (fun h => absurd h (Nat.lt_irrefl _))
          rw [Hid, renN, e, if_neg (Nat.lt_irrefl _)]
        go_wp2_with fail
        refine bodyPost_ret (v := .agg #[.string n, .slice none 0 0]) (by simp [results, Tryd.results25, go_sem, r0, r1]) rfl ?_
        refine ⟨_, [], by rw [HR.out, HI.out]; rfl, by rw [HR.out]; exact D.own_nil _ _, by simp, ?_⟩
        exact (HBW.out.setCell (by simp) _).setCell (by simp) _
  · have HVN := hid (Bool.eq_false_iff.2 hvn)
    have HR : Hid (Tm.ren p ks (.node n ts) = .node n (Tm.rens p ks ts)) := by rw [Hid, Tm.ren, if_neg hvn]
    clear hvn
    have hlen := (Tm.sd_form hs)
    obtain ⟨_, _, e, hlen, hcap⟩ := hlen
    unfold big at hlen
    clear e
    have hq := l2Var_any n hn ((w.alloc (.cells #[.string n, .slice a ts.length cap] 28)).alloc (.cells #[.string ByteArray.empty, .slice none 0 0] 28))
    go_enter Tryd.func25, Tryd.ntmps25
    go_wp2_with fail
    refine hq.mono ?_
    clear hq
    rintro e w1 ⟨rfl, rfl⟩
    rw [HVN.out]
    go_wp2_with fail
    go_loopw [9] (fun i wr => ∃ (k : Nat) (F : List Nat) (v : Value), k ≤ ts.length ∧ i = .int .i64 k ∧ Gr wr (w.heap.size + 1 + 1 + 1) 28 2 v k (Tm.css (Tm.rens p ks (ts.take k))) F ∧ wr.cell? ⟨w.heap.size + 1 + 1, 0, none⟩ = some (.string n) ∧ wr.cell? ⟨w.heap.size + 1 + 1, 1, none⟩ = some v ∧ (∀ p, wr.frozen? ⟨w.heap.size + 1 + 1, p, none⟩ = false) ∧ w.heap.size + 1 + 1 + 1 ≤ wr.heap.size ∧ Below (w.heap.size + 1 + 1) (((w.alloc (.cells #[.string n, .slice a ts.length cap] 28)).alloc (.cells #[.string ByteArray.empty, .slice none 0 0] 28)).alloc (.cells #[.string n, .slice none 0 0] 28)) wr) (fun i _ => ts.length - (intOf i).toNat)
    case atStart =>
      refine ⟨0, [], .slice none 0 0, Nat.zero_le _, rfl, by rw [List.take_zero, Tm.rens, Tm.css]; exact Gr.nil _ _ _ _, (box3 w _ _ _ _ _ _ 0).2.2, (box3 w _ _ _ _ _ _ 1).2.2, fun p => frz1 _ _ _ _ _ (by simp), by simp, Below.refl _ _⟩
    case round =>
      obtain ⟨k, F, v, hk, rfl, HG, y0, y1, y2, hz, hb⟩ := hrel
      have hbw : Below w.heap.size w wr := (((((Below.refl _ _).alloc (Nat.le_refl _) _).alloc (by simp) _).alloc (by simp; omega) _).trans (hb.mono (by omega)))
      have x0 : wr.cell? ⟨w.heap.size, 0, none⟩ = some (.string n) := (hb.cell (p := ⟨w.heap.size, 0, none⟩) (by simp; omega)).trans (box3 w _ _ _ _ _ _ 0).1
      have x1 : wr.cell? ⟨w.heap.size, 1, none⟩ = some (.slice a ts.length cap) := (hb.cell (p := ⟨w.heap.size, 1, none⟩) (by simp; omega)).trans (box3 w _ _ _ _ _ _ 1).1
      by_cases hlt : k < ts.length
      · have HGl := HG.ltF
        have hne : ts ≠ [] := by intro e; subst e; simp at hlt
        obtain ⟨b, off, rfl, hS, hbl, hrr⟩ := Tm.sd_get hs hne
        obtain ⟨c0, c1, q0, q1, q2⟩ := hrr k hlt
        replace q0 := (hbw.cell (p := ⟨b, off + k * 2, none⟩) hbl).trans q0
        replace q1 := (hbw.cell (p := ⟨b, off + k * 2 + 1, none⟩) hbl).trans q1
        replace q2 := Tm.at_keep (Keeps.all hbw) q2
        have hmem := hid (h ts[k] (List.getElem_mem hlt))
        have hbk' := Tm.bulk_mem (List.getElem_mem hlt)
        obtain ⟨rfl, hnk, x, xc, rfl⟩ := Tm.at_form q2
        clear hrr
        have hv := HG.lt
        have hlb := hb.size
        simp only [World.size_alloc] at hlb
        have hbw2 : Below wr.heap.size wr wr.drew := (Below.refl _ _).drew
        have HVK := hid (D.rd_keep (Keeps.all hbw) _ _ HV.out)
        obtain ⟨R, HRK⟩ : ∃ R, Hid (Tm.ren p ks ts[k] = R) := ⟨_, hid rfl⟩
        have hRn : R.name.size ≤ maxLen := by
          have := ren_name p hks ts[k]
          rw [HRK.out] at this
          have := Tm.name_bulk ts[k]
          unfold maxLen
          omega
        go_wp2_with fail
        have hbne : b ≠ w.heap.size + 1 + 1 := by omega
        go_region_law (first
            | (refine step_append_gr (news := [.string R.name, .slice a1 R.args.length cap1]) (G := G) Tryd.underlying26 infoTerm rfl (by decide) (by decide) rfl _ _ (by rfl) (by rfl) (by rfl) (HG1.keep ((Below.refl _ _).alloc (Nat.le_refl _) _)) rfl (by intro j u hj; rw [box1]; simpa using hj) (by simp [Value.oneCell']) ((Tm.own_item hRn ho).keep (Keeps.all ((Below.refl _ _).alloc (Nat.le_refl _) _))) (fun x hx => by have := hG x hx; omega) (fun x hx hx' => by have := hG x hx'; have := HGl x hx; omega) (fun x hx hx' => by have := hG x hx'; have := (hv x hx).2; omega) (by omega) (by simp; omega) ?_
               intro g capg wg hg hgr hgo hglt
               have gc := fun (b' : Nat) (h' : b' < w.heap.size + 1 + 1 + 1) => grown_cell hgr (b := b') (by simp; omega) (fun x hx => by have := (hv x hx).1; omega)
               have y0g := ((gc (w.heap.size + 1 + 1) (by omega)).1 0).trans (cell_alloc y0' _)
               have y1g := ((gc (w.heap.size + 1 + 1) (by omega)).1 1).trans (cell_alloc y1' _)
               have y2g := fun p => ((gc (w.heap.size + 1 + 1) (by omega)).2 p).trans ((World.frozen?_alloc_past (w := w1) (.cells #[.string R.name, .slice a1 R.args.length cap1] 28) _ p (by omega)).trans (y2' p))
               have y2h := y2g 1
               clear gc)
            | (refine step_does rfl ?_
               unfold Does
               go_simp
               go_at_call 25
               have hq := hmem.out _ _ _ _ _ _ (Tm.at_keep (Keeps.all hbw2) q2) (D.rd_keep (Keeps.all hbw2) _ _ HVK.out) (by omega)
               rw [HRK.out] at hq
               refine hq.mono ?_
               clear hq
               rintro e w1 ⟨v1, G, rfl, ho, hG, hb1⟩
               obtain ⟨a1, cap1, rfl⟩ := Tm.sd_own_form ho
               have z := bcell hb1
               simp only [World.size_drew, World.cell?_drew, World.frozen?_drew] at z hG
               have hb2 : Below wr.heap.size wr w1 := hbw2.trans (hb1.mono (by simp))
               have hzb := hb2.size
               have HG1 := HG.keep hb2
               have y0' := (z.1 (w.heap.size + 1 + 1) 0 (by omega)).trans y0
               have y1' := (z.1 (w.heap.size + 1 + 1) 1 (by omega)).trans y1
               have y2' := fun p => (z.2 (w.heap.size + 1 + 1) p (by omega)).trans (y2 p)
               have y1b := fun o => cell_alloc y1' o
               clear z
               refine ⟨_, rfl, ?_⟩))
        all_goals
          have hz1 : wg.heap.size ≥ w1.heap.size := by have := hgr.size; simp at this; omega
          have hb5 : Below (w.heap.size + 1 + 1) wr wg := below_grown ((hb2.mono (by omega)).trans (((Below.refl _ _).alloc (by omega) _))) hgr (by simp; omega) (fun x hx => by have := (hv x hx).1; omega)
          go_wp2_with fail
          go_roundw
          case rel =>
            refine ⟨k + 1, F ++ G, .slice (some ⟨g, 0, none⟩) (k + 1) capg, by omega, by go_num, ?_, ?_, ?_, ?_, ?_, ?_⟩
            · rw [Tm.rens_take p ks ts k hlt, HRK.out, Tm.css_snoc, ← Tm.cs_eq]
              exact hg.setCell (by show w.heap.size + 1 + 1 < _; omega) _
            · rw [World.cell?_setCell_other _ _ _ _ (by intro e; injection e with _ e; omega)]; exact y0g
            · exact World.cell?_setCell_same _ _ _ y1g
            · intro p; rw [World.frozen?_setCell]; exact y2g p
            · rw [World.size_setCell]; omega
            · exact (hb.trans hb5).setCell (Nat.le_refl _) _
          case measure => simp [intOf]; omega
      · obtain rfl : k = ts.length := by omega
        rw [List.take_length] at HG
        obtain ⟨Gf, hO, hGf⟩ := HG.own (by decide)
        have hrl := Tm.rens_length p ks ts
        obtain ⟨R, HRR⟩ : ∃ R, Hid (Tm.rens p ks ts = R) := ⟨_, hid rfl⟩
        rw [HRR.out] at hO hrl
        rw [← hrl] at hO
        obtain ⟨a2, cap2, rfl⟩ := Tm.sd_own_form hO
        have r0 : wr.cell? ⟨w.heap.size + 1, 0, none⟩ = some (.string ByteArray.empty) := (hb.cell (p := ⟨w.heap.size + 1, 0, none⟩) (by simp)).trans (box3 w _ _ _ _ _ _ 0).2.1
        have r1 : wr.cell? ⟨w.heap.size + 1, 1, none⟩ = some (.slice none 0 0) := (hb.cell (p := ⟨w.heap.size + 1, 1, none⟩) (by simp)).trans (box3 w _ _ _ _ _ _ 1).2.1
        have f1 : ∀ p, wr.frozen? ⟨w.heap.size + 1, p, none⟩ = false := fun p => (hb.frozen (p := ⟨w.heap.size + 1, p, none⟩) (by simp)).trans ((World.frozen?_alloc_past _ _ p (by simp)).trans (World.frozen?_alloc_at _ _ _ p (by simp)))
        have f10 := f1 0
        have f11 := f1 1
        have hlb := hb.size
        simp only [World.size_alloc] at hlb
        have hlt2 : ¬ (ts.length : Int) < (ts.length : Int) := by omega
        clear hrl
        go_wp2_with fail
        refine bodyPost_ret (v := .agg #[.string n, .slice a2 R.length cap2]) (by simp [results, Tryd.results25, go_sem, r0, r1]) rfl ?_
        refine ⟨_, Gf, by rw [HR.out]; rfl, ?_, fun x hx => by have := hGf x hx; omega, ?_⟩
        · rw [HR.out]
          show D.own _ _ (Tm.sd (Tm.rens p ks ts)) _
          rw [HRR.out]
          exact D.own_keep _ _ _ (((Keeps.refl _ _).set_lt hGf (by simp) _).set_lt hGf (by simp) _) hO
        exact (hbw.setCell (by simp) _).setCell (by simp) _
theorem renS_any (p : ByteArray) (ks : List ByteArray) (hp : p.size ≤ 1048576) (hks : ks.length ≤ 999999) (t : Tm) : RenS p ks t := Tm.ind (fun n ts h => renS_of p ks hp hks n ts h) t
end Go.Proofs.YtglhbaigigdeeaaDoor
