/- The variables of a term in the order of their first occurrence: the reference's. -/
import Derived.Test.YtglhbaigigdeeaaDoorKo
import Derived.Test.YtglhbaigigdeeaaDoorLf
import Derived.Test.YtglhbaigigdeeaaDoorNs
import Derived.Test.YtglhbaigigdeeaaDoorGr
namespace Go.Proofs.YtglhbaigigdeeaaDoor
set_option maxRecDepth 100000
open Go.RowKit

theorem Tm.leafy_iff (t : Tm) : t.leafy ↔ (varName t.name = true → t.args = []) ∧ ∀ a ∈ t.args, a.leafy := by
  cases t; rw [Tm.leafy, Tm.leafies_iff]; rfl
theorem l2InO_any {ss : List ByteArray} {s : ByteArray} {S : Nat → Prop} {v : Value} {w : World} (hv : D.rd S w v (slOf strE ss)) : Calls Tryd.prog 47 #[v, .string s] w fun e w' => e = .returned (.bool (hasStr ss s)) ∧ w = w' := by
  obtain ⟨a, cap, rfl, hlen, hcap⟩ := slOf_form hv
  unfold big at hlen
  go_enter Tryd.func47, Tryd.ntmps47
  go_wp2_with fail
  go_loop [5] (fun i => ∃ k : Nat, k ≤ ss.length ∧ i = .int .i64 k ∧ Hid (∀ j (h : j < k) (hj : j < ss.length), ss[j] ≠ s)) (fun i => ss.length - (intOf i).toNat)
  case atStart => exact ⟨0, Nat.zero_le _, rfl, fun j h => absurd h (by omega)⟩
  case round =>
    obtain ⟨k, hk, rfl, HK⟩ := hrel
    by_cases hlt : k < ss.length
    · obtain ⟨b, off, rfl, -, hbl, hrr⟩ := strs_get hv (by intro e; subst e; simp at hlt)
      obtain ⟨q0, -⟩ := hrr k hlt
      clear hrr hv
      by_cases he : ss[k] = s
      · have HP : Hid (hasStr ss s = true) := (hasStr_iff _ _).2 (he ▸ List.getElem_mem hlt)
        have hq := show (ss[k].toList == s.toList) = true by rw [he]; simp
        clear he
        go_wp2_with fail
        go_ret
        exact ⟨by rw [HP.out]; rfl, rfl⟩
      · have HS : Hid (∀ j (h : j < k + 1) (hj : j < ss.length), ss[j] ≠ s) := fun j h hj => by
          by_cases hjk : j < k
          · exact HK.out j hjk hj
          · obtain rfl : j = k := by omega
            exact he
        have hq := toList_ne he
        clear he
        go_wp2_with fail
        go_round
        case rel => exact ⟨k + 1, by omega, by go_num, HS⟩
        case measure => simp [intOf]; omega
    · obtain rfl : k = ss.length := by omega
      have HP : Hid (hasStr ss s = false) := by
        rw [Hid, Bool.eq_false_iff, Ne, hasStr_iff]
        intro hm
        obtain ⟨j, hj, e⟩ := List.mem_iff_getElem.1 hm
        exact HK.out j hj hj e
      go_wp2_with fail
      go_ret
      exact ⟨by rw [HP.out]; rfl, rfl⟩
/-- what l5Order comes to -/
def OrdIs (t : Tm) : Prop := ∀ (ss : List ByteArray) (v : Value) (B : Nat) (S : Nat → Prop) (c0 c1 : Value) (w : World), GS w B v ss → B ≤ w.heap.size → Tm.at S w c0 c1 t → (∀ x, S x → x < B) → t.leafy → t.bulk ≤ 1048576 → ss.length + t.size ≤ 1073741824 → Calls Tryd.prog 26 #[.agg #[c0, c1], v] w (Grew v (t.coll ss) B w)
set_option maxHeartbeats 2000000 in
theorem ordIs_of (t : Tm) (ih : ∀ a ∈ t.args, OrdIs a) : OrdIs t := by
  intro ss v B S c0 c1 w hv hB ht hS hlf hbk hss
  have hvl := hv.lt
  obtain ⟨va, vc, rfl, hvn, hvc⟩ := hv.form
  unfold big at hvn
  have HV := hid hv
  have HS := hid ht.2
  have hts : t.size = 1 + Tm.sizes t.args := by cases t; rw [Tm.size]; rfl
  obtain ⟨_, _, e, hlen, -⟩ := Tm.sd_form HS.out
  unfold big at hlen
  clear e
  obtain ⟨rfl, tn, ta, tc, rfl⟩ := Tm.at_form ht
  have hW : Below w.heap.size w (w.alloc (.cells #[.string t.name, .slice ta t.args.length tc] 28)) := (Below.refl _ _).alloc (Nat.le_refl _) _
  have bt : Box (w.alloc (.cells #[.string t.name, .slice ta t.args.length tc] 28)) w.heap.size [.string t.name, .slice ta t.args.length tc] := Box.new w _ _
  have x0 := bt.c0
  have hzz : w.heap.size + 1 ≤ (w.alloc (.cells #[.string t.name, .slice ta t.args.length tc] 28)).heap.size := by simp
  have hnr := hid ((Tm.leafy_iff t).1 hlf).2
  by_cases hvn2 : varName t.name = true
  · have HC : Hid (t.coll ss = addStr ss t.name) := by rw [Hid, Tm.coll_eq, if_pos ⟨((Tm.leafy_iff t).1 hlf).1 hvn2, hvn2⟩]
    have HVN := hid hvn2
    clear hvn2
    have hq := l2Var_any t.name tn (w.alloc (.cells #[.string t.name, .slice ta t.args.length tc] 28))
    go_enter Tryd.func26, Tryd.ntmps26
    go_wp2_with fail
    refine hq.mono ?_
    generalize w.alloc (.cells #[.string t.name, .slice ta t.args.length tc] 28) = w0 at *
    clear hq
    rintro e w1 ⟨rfl, rfl⟩
    rw [HVN.out]
    have hrd := D.rd_keep (Keeps.all hW) _ _ HV.out.rd
    by_cases hin : hasStr ss t.name = true
    · have HA : Hid (addStr ss t.name = ss) := by rw [Hid, addStr, if_pos hin]
      have HI := hid hin
      clear hin
      go_wp2_with fail
      refine (l2InO_any hrd).mono ?_
      rintro e w2 ⟨rfl, rfl⟩
      rw [HI.out]
      go_wp2_with fail
      go_ret
      exact ⟨_, rfl, by rw [HC.out, HA.out]; exact HV.out.keep hW, grown_of_below hW _, Goes.refl _ _, fun h => h⟩
    · have HA : Hid (addStr ss t.name = ss ++ [t.name]) := by rw [Hid, addStr, if_neg hin]
      have HI := hid (Bool.eq_false_iff.2 hin)
      clear hin
      have hA : Below w0.heap.size w0 (w0.alloc (.cells #[.string t.name] 9)) := (Below.refl _ _).alloc (Nat.le_refl _) _
      go_wp2_with fail
      refine (l2InO_any hrd).mono ?_
      rintro e w2 ⟨rfl, rfl⟩
      rw [HI.out]
      go_wp2_with (refine wpList_append_str (B := B) (ss := ss) (y := t.name) rfl _ _ (by rfl) (by rfl) (by rfl) ((HV.out.row.keep hW).keep hA) tn (box1 _ _ _ 0) (by omega) (by rw [World.size_alloc]; have := hW.size; omega) ?_; intro g cap2 w2 hrow hgr hgo hlt2)
      go_ret
      refine ⟨_, rfl, ?_, grown_trans (grown_of_below (hW.trans (hA.mono hW.size)) _) hgr (fun x h => .inl h), fun x h => ?_, fun _ e => by cases e⟩
      · rw [HC.out, HA.out]
        have := GS.of_row hrow
        exact this
      · rcases hgo x h with q | q
        · exact .inl q
        · right; rw [World.size_alloc] at q; have := hW.size; omega
  · have HC : Hid (t.coll ss = Tm.colls t.args ss) := by rw [Hid, Tm.coll_eq, if_neg (fun h => hvn2 h.2)]
    have HVN := hid (Bool.eq_false_iff.2 hvn2)
    clear hvn2
    have hq := l2Var_any t.name tn (w.alloc (.cells #[.string t.name, .slice ta t.args.length tc] 28))
    go_enter Tryd.func26, Tryd.ntmps26
    go_wp2_with fail
    refine hq.mono ?_
    generalize w.alloc (.cells #[.string t.name, .slice ta t.args.length tc] 28) = w0 at *
    clear hq x0
    rintro e w1 ⟨rfl, rfl⟩
    rw [HVN.out]
    go_wp2_with fail
    go_loopw [1, 5] (fun x i wr => ∃ k : Nat, k ≤ t.args.length ∧ i = .int .i64 k ∧ Hid (GS wr B x (Tm.colls (t.args.take k) ss)) ∧ Hid (w0.grownBy wr (Value.slice va ss.length vc).ownBlock) ∧ Hid (Goes w0 (.slice va ss.length vc) x) ∧ Hid (Value.slice va ss.length vc ≠ .slice none 0 0 → x ≠ .slice none 0 0)) (fun _ i _ => t.args.length - (intOf i).toNat)
    case atStart => exact ⟨0, Nat.zero_le _, rfl, by rw [List.take_zero, Tm.colls]; exact HV.out.keep hW, grown_refl _ _, Goes.refl _ _, fun h => h⟩
    case round =>
      obtain ⟨k, hk, rfl, HG, HGR, HGO, HNN⟩ := hrel
      have hgz := HGR.out.size
      have hltb := bt.lt
      have gx := (grown_cell HGR.out (b := w.heap.size) hltb (fun x hx => by have := (hvl x hx).2; omega)).1
      have x1 := (gx 1).trans bt.c1
      clear gx
      have hkI : (0 : Int) ≤ (k : Int) := by omega
      by_cases hlt : k < t.args.length
      · have hne : t.args ≠ [] := by intro e; rw [e] at hlt; simp at hlt
        have hr := D.rd_keep (keeps_low HGR.out (fun k hk => (hvl k hk).1) hS) _ _ (D.rd_keep (Keeps.all hW) _ _ HS.out)
        obtain ⟨b, off, rfl, hSb, hbl, hrr⟩ := Tm.sd_get hr hne
        obtain ⟨c0, c1, q0, q1, q2⟩ := hrr k hlt
        obtain ⟨rfl, -, qa, qc, rfl⟩ := Tm.at_form q2
        have hbm := Tm.bulk_mem (List.getElem_mem hlt)
        have hba := Tm.args_bulk t
        have hst := Tm.sizes_take t.args k hlt
        have hsl := Tm.sizes_le t.args (k + 1)
        have hcl := Tm.colls_length (t.args.take k) ss
        have hq := ih t.args[k] (List.getElem_mem hlt) _ _ B S _ _ _ HG.out (by have := hW.size; omega) q2 hS (hnr.out _ (List.getElem_mem hlt)) (by omega) (by omega)
        rw [← Tm.colls_take _ _ _ hlt] at hq
        clear hrr hbm hba hst hsl hcl hr
        go_wp2_with fail
        refine hq.mono ?_
        rintro e w2 ⟨v2, rfl, hg2, hgr2, hgo2, hnn2⟩
        have HG2 := hid hg2
        have HGR2 := hid (grown_trans HGR.out hgr2 (fun x h => HGO.out x h))
        have HGO2 := hid (Goes.trans HGO.out hgz hgo2)
        have HNN2 := hid (fun h => hnn2 (HNN.out h))
        clear hq hg2 hgr2 hgo2 hnn2
        go_wp2_with fail
        go_roundw
        case rel => exact ⟨k + 1, by omega, by go_num, HG2, HGR2, HGO2, HNN2.out⟩
        case measure => simp [intOf]; omega
      · obtain rfl : k = t.args.length := by omega
        go_wp2_with fail
        go_ret
        refine ⟨_, rfl, by rw [HC.out]; have := HG.out; rwa [List.take_length] at this, grown_trans (grown_of_below hW _) HGR.out (fun x h => .inl h), fun x h => ?_, HNN.out⟩
        rcases HGO.out x h with q | q
        · exact .inl q
        · exact .inr (Nat.le_trans hW.size q)
theorem ordIs_any (t : Tm) : OrdIs t := ind2 ordIs_of t
end Go.Proofs.YtglhbaigigdeeaaDoor
