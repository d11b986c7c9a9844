/- The variables of a term are collected in the order of their first occurrence. -/
import Derived.Test.YtglhbaigigdeeaaDoorGs
import Derived.Test.YtglhbaigigdeeaaDoorCi
import Derived.Test.YtglhbaigigdeeaaDoorHw
namespace Go.Proofs.YtglhbaigigdeeaaDoor
set_option maxRecDepth 100000
open Go.RowKit

/-- a name is put behind a list, unless it is there -/
def addStr (l : List ByteArray) (s : ByteArray) : List ByteArray := if hasStr l s = true then l else l ++ [s]
mutual
/-- the variables of a term behind a list, each once -/
def Tm.coll : Tm → List ByteArray → List ByteArray
  | .node n ts, l => if ts = [] ∧ varName n = true then addStr l n else Tm.colls ts l
def Tm.colls : List Tm → List ByteArray → List ByteArray
  | [], l => l
  | t :: ts, l => Tm.colls ts (Tm.coll t l)
end
theorem Tm.coll_eq (t : Tm) (l : List ByteArray) : t.coll l = if t.args = [] ∧ varName t.name = true then addStr l t.name else Tm.colls t.args l := by cases t; rw [Tm.coll]; rfl
theorem Tm.colls_take (ts : List Tm) (l : List ByteArray) (k : Nat) (hk : k < ts.length) : Tm.colls (ts.take (k + 1)) l = Tm.coll ts[k] (Tm.colls (ts.take k) l) := by
  induction ts generalizing l k with
  | nil => exact absurd hk (by simp)
  | cons t ts ih =>
    cases k with
    | zero => simp [Tm.colls]
    | succ k => simpa [Tm.colls] using ih (Tm.coll t l) k (by simpa using hk)
theorem addStr_length (l : List ByteArray) (s : ByteArray) : (addStr l s).length ≤ l.length + 1 := by unfold addStr; split <;> simp
theorem Tm.coll_length (t : Tm) : ∀ l, (t.coll l).length ≤ l.length + t.size := by
  refine Tm.ind (P := fun t => ∀ l, (t.coll l).length ≤ l.length + t.size) (fun n ts ih l => ?_) t
  rw [Tm.coll, Tm.size]
  split
  · have := addStr_length l n; omega
  · have key : ∀ ts : List Tm, (∀ a ∈ ts, ∀ l, (Tm.coll a l).length ≤ l.length + a.size) → ∀ l, (Tm.colls ts l).length ≤ l.length + Tm.sizes ts := by
      intro ts
      induction ts with
      | nil => intro _ l; simp [Tm.colls]
      | cons t ts iht =>
        intro h l
        have h0 := h t (by simp) l
        have h1 := iht (fun a ha => h a (by simp [ha])) (Tm.coll t l)
        rw [Tm.colls, Tm.sizes]; omega
    have := key ts ih l
    omega
theorem Tm.colls_length (ts : List Tm) : ∀ l, (Tm.colls ts l).length ≤ l.length + Tm.sizes ts := by
  induction ts with
  | nil => intro l; simp [Tm.colls]
  | cons t ts iht =>
    intro l
    have h0 := Tm.coll_length t l
    have h1 := iht (Tm.coll t l)
    rw [Tm.colls, Tm.sizes]; omega

theorem ind2 {P : Tm → Prop} (h : ∀ t, (∀ a ∈ t.args, P a) → P t) (t : Tm) : P t := Tm.ind (fun n ts ih => h (.node n ts) ih) t
/-- what collecting leaves -/
def Grew (v : Value) (ss : List ByteArray) (B : Nat) (w : World) (e : Ending) (w' : World) : Prop := ∃ v', e = .returned v' ∧ GS w' B v' ss ∧ w.grownBy w' v.ownBlock ∧ Goes w v v' ∧ (v ≠ .slice none 0 0 → v' ≠ .slice none 0 0)
def CollIs (t : Tm) : Prop := ∀ (ss : List ByteArray) (v : Value) (B : Nat) (S : Nat → Prop) (c0 c1 : Value) (w : World), GS w B v ss → B ≤ w.heap.size → Tm.at S w c0 c1 t → (∀ x, S x → x < B) → t.nice = true → t.bulk ≤ 1048576 → ss.length + t.size ≤ 1073741824 → Calls Tryd.prog 31 #[v, .agg #[c0, c1]] w (Grew v (t.coll ss) B w)

theorem keeps_low {w w' : World} {v : Value} {B : Nat} {S : Nat → Prop} (hg : w.grownBy w' v.ownBlock) (hv : ∀ k, v.ownBlock = some k → B ≤ k) (hS : ∀ x, S x → x < B) : Keeps S w w' :=
  ⟨hg.size, fun b hb hl => hg.block b hl fun e => by have := hv b e.symm; have := hS b hb; omega⟩
set_option maxHeartbeats 2000000 in
theorem collIs_of (t : Tm) (ih : ∀ a ∈ t.args, CollIs a) : CollIs t := by
  intro ss v B S c0 c1 w hv hB ht hS hni hbk hss
  have hvl := hv.lt
  obtain ⟨va, vc, rfl, hvn, hvc⟩ := hv.form
  unfold big at hvn
  have HV := hid hv
  have HS := hid ht.2
  have HT := hid ht
  have hts : t.size = 1 + Tm.sizes t.args := by cases t; rw [Tm.size]; rfl
  obtain ⟨_, _, e, hlen, -⟩ := Tm.sd_form HS.out
  unfold big at hlen
  clear e
  obtain ⟨rfl, tn, ta, tc, rfl⟩ := Tm.at_form ht
  have hW : Below w.heap.size w (w.alloc (.cells #[.string t.name, .slice ta t.args.length tc] 28)) := (Below.refl _ _).alloc (Nat.le_refl _) _
  have bt : Box (w.alloc (.cells #[.string t.name, .slice ta t.args.length tc] 28)) w.heap.size [.string t.name, .slice ta t.args.length tc] := Box.new w _ _
  have x0 := bt.c0
  have x1 := bt.c1
  have hzz : w.heap.size + 1 ≤ (w.alloc (.cells #[.string t.name, .slice ta t.args.length tc] 28)).heap.size := by simp
  have hnr := hid ((Tm.nice_iff t).1 hni).2.2
  by_cases hte : t.args = []
  · have hl0 : t.args.length = 0 := by rw [hte]; rfl
    have hz0 : ((t.args.length : Int) == 0) = true := by simp [hl0]
    by_cases hvn2 : varName t.name = true
    · have HC : Hid (t.coll ss = addStr ss t.name) := by rw [Hid, Tm.coll_eq, if_pos ⟨hte, hvn2⟩]
      have HVN := hid hvn2
      clear hte hl0 hvn2
      have hq := isVar_any hni (Tm.at_keep (Keeps.all hW) HT.out)
      go_enter Tryd.func31, Tryd.ntmps31
      go_wp2_with fail
      refine hq.mono ?_
      generalize w.alloc (.cells #[.string t.name, .slice ta t.args.length tc] 28) = w0 at *
      clear hq x0 x1
      rintro e w1 ⟨_, rfl, hb, rfl⟩
      replace hW := hW.trans (hb.mono hW.size)
      replace bt := bt.keep hb
      have hz1 := hb.size
      rw [HVN.out]
      have x0 := bt.c0
      have hrd := D.rd_keep (Keeps.all hW) _ _ HV.out.rd
      by_cases hin : hasStr ss t.name = true
      · have HA : Hid (addStr ss t.name = ss) := by rw [Hid, addStr, if_pos hin]
        have HI := hid hin
        clear hin
        go_wp2_with fail
        refine (containsStr_any t.name hrd).mono ?_
        rintro e w2 ⟨rfl, rfl⟩
        rw [HI.out]
        go_wp2_with fail
        go_ret
        exact ⟨_, rfl, by rw [HC.out, HA.out]; exact HV.out.keep hW, grown_of_below hW _, Goes.refl _ _, fun h => h⟩
      · have HA : Hid (addStr ss t.name = ss ++ [t.name]) := by rw [Hid, addStr, if_neg hin]
        have HI := hid (Bool.eq_false_iff.2 hin)
        clear hin
        have hA : Below w1.heap.size w1 (w1.alloc (.cells #[.string t.name] 9)) := (Below.refl _ _).alloc (Nat.le_refl _) _
        go_wp2_with fail
        refine (containsStr_any t.name hrd).mono ?_
        rintro e w2 ⟨rfl, rfl⟩
        rw [HI.out]
        go_wp2_with (refine wpList_append_str (B := B) (ss := ss) (y := t.name) rfl _ _ (by rfl) (by rfl) (by rfl) ((HV.out.row.keep hW).keep hA) tn (box1 _ _ _ 0) (by omega) (by rw [World.size_alloc]; have := hW.size; omega) ?_; intro g cap2 w2 hrow hgr hgo hlt2)
        go_ret
        refine ⟨_, rfl, ?_, grown_trans (grown_of_below (hW.trans (hA.mono hW.size)) _) hgr (fun x h => .inl h), fun x h => ?_, fun _ e => by cases e⟩
        · rw [HC.out, HA.out]
          have := GS.of_row hrow
          exact this
        · rcases hgo x h with q | q
          · exact .inl q
          · right; rw [World.size_alloc] at q; have := hW.size; omega
    · have HC : Hid (t.coll ss = Tm.colls t.args ss) := by rw [Hid, Tm.coll_eq, if_neg (fun h => hvn2 h.2)]
      have HVN := hid (Bool.eq_false_iff.2 hvn2)
      clear hte hl0 hvn2
      have hq := isVar_any hni (Tm.at_keep (Keeps.all hW) HT.out)
      go_enter Tryd.func31, Tryd.ntmps31
      go_wp2_with fail
      refine hq.mono ?_
      generalize w.alloc (.cells #[.string t.name, .slice ta t.args.length tc] 28) = w0 at *
      clear hq x0 x1
      rintro e w1 ⟨_, rfl, hb, rfl⟩
      replace hW := hW.trans (hb.mono hW.size)
      replace bt := bt.keep hb
      have hz1 := hb.size
      clear hb
      rw [HVN.out]
      have x1 := bt.c1
      clear hz0
      go_wp2_with fail
      clear x1
      go_loopw [0, 29] (fun x i wr => ∃ k : Nat, k ≤ t.args.length ∧ i = .int .i64 k ∧ Hid (GS wr B x (Tm.colls (t.args.take k) ss)) ∧ Hid (w1.grownBy wr (Value.slice va ss.length vc).ownBlock) ∧ Hid (Goes w1 (.slice va ss.length vc) x) ∧ Hid (Value.slice va ss.length vc ≠ .slice none 0 0 → x ≠ .slice none 0 0)) (fun _ i _ => t.args.length - (intOf i).toNat)
      case atStart => exact ⟨0, Nat.zero_le _, rfl, by rw [List.take_zero, Tm.colls]; exact HV.out.keep hW, grown_refl _ _, Goes.refl _ _, fun h => h⟩
      case round =>
        obtain ⟨k, hk, rfl, HG, HGR, HGO, HNN⟩ := hrel
        have hgz := HGR.out.size
        by_cases hlt : k < t.args.length
        · have hne : t.args ≠ [] := by intro e; rw [e] at hlt; simp at hlt
          have hr := D.rd_keep (keeps_low HGR.out (fun k hk => (hvl k hk).1) hS) _ _ (D.rd_keep (Keeps.all hW) _ _ HS.out)
          obtain ⟨b, off, rfl, hSb, hbl, hrr⟩ := Tm.sd_get hr hne
          obtain ⟨c0, c1, q0, q1, q2⟩ := hrr k hlt
          obtain ⟨rfl, -, qa, qc, rfl⟩ := Tm.at_form q2
          have hA : Below wr.heap.size wr (wr.alloc (.cells #[.string t.args[k].name, .slice qa t.args[k].args.length qc] 28)) := (Below.refl _ _).alloc (Nat.le_refl _) _
          have hbm := Tm.bulk_mem (List.getElem_mem hlt)
          have hba := Tm.args_bulk t
          have hst := Tm.sizes_take t.args k hlt
          have hsl := Tm.sizes_le t.args (k + 1)
          have hcl := Tm.colls_length (t.args.take k) ss
          have hq := ih t.args[k] (List.getElem_mem hlt) _ _ B S _ _ _ (HG.out.keep hA) (by rw [World.size_alloc]; have := hW.size; omega) (Tm.at_keep (Keeps.all hA) q2) hS (hnr.out _ (List.getElem_mem hlt)) (by omega) (by omega)
          rw [← Tm.colls_take _ _ _ hlt] at hq
          clear hrr hbm hba hst hsl hcl hr
          go_wp2_with fail
          refine hq.mono ?_
          rintro e w2 ⟨v2, rfl, hg2, hgr2, hgo2, hnn2⟩
          have HG2 := hid hg2
          have HGR2 := hid (grown_trans HGR.out (grown_trans (grown_of_below hA u0.ownBlock) hgr2 (fun x h => .inl h)) (fun x h => HGO.out x h))
          have HGO2 := hid (Goes.trans HGO.out (by rw [World.size_alloc]; omega) hgo2)
          have HNN2 := hid (fun h => hnn2 (HNN.out h))
          clear hq hg2 hgr2 hgo2 hnn2
          go_wp2_with fail
          go_roundw
          case rel => exact ⟨k + 1, by omega, by go_num, HG2, HGR2, HGO2, HNN2.out⟩
          case measure => simp [intOf]; omega
        · obtain rfl : k = t.args.length := by omega
          go_wp2_with fail
          go_ret
          refine ⟨_, rfl, by rw [HC.out]; have := HG.out; rwa [List.take_length] at this, grown_trans (grown_of_below hW _) HGR.out (fun x h => .inl h), fun x h => ?_, HNN.out⟩
          rcases HGO.out x h with q | q
          · exact .inl q
          · exact .inr (Nat.le_trans hW.size q)
  · have HC : Hid (t.coll ss = Tm.colls t.args ss) := by rw [Hid, Tm.coll_eq, if_neg (fun h => hte h.1)]
    have hl0 : t.args.length ≠ 0 := by intro e; exact hte (List.length_eq_zero_iff.1 e)
    have hz0 : ((t.args.length : Int) == 0) = false := by simp; exact hte
    clear hte hl0
    go_enter Tryd.func31, Tryd.ntmps31
    go_wp2_with fail
    clear x0 x1 hz0
    generalize w.alloc (.cells #[.string t.name, .slice ta t.args.length tc] 28) = w0 at *
    go_loopw [0, 29] (fun x i wr => ∃ k : Nat, k ≤ t.args.length ∧ i = .int .i64 k ∧ Hid (GS wr B x (Tm.colls (t.args.take k) ss)) ∧ Hid (w0.grownBy wr (Value.slice va ss.length vc).ownBlock) ∧ Hid (Goes w0 (.slice va ss.length vc) x) ∧ Hid (Value.slice va ss.length vc ≠ .slice none 0 0 → x ≠ .slice none 0 0)) (fun _ i _ => t.args.length - (intOf i).toNat)
    case atStart => exact ⟨0, Nat.zero_le _, rfl, by rw [List.take_zero, Tm.colls]; exact HV.out.keep hW, grown_refl _ _, Goes.refl _ _, fun h => h⟩
    case round =>
      obtain ⟨k, hk, rfl, HG, HGR, HGO, HNN⟩ := hrel
      have hgz := HGR.out.size
      by_cases hlt : k < t.args.length
      · have hne : t.args ≠ [] := by intro e; rw [e] at hlt; simp at hlt
        have hr := D.rd_keep (keeps_low HGR.out (fun k hk => (hvl k hk).1) hS) _ _ (D.rd_keep (Keeps.all hW) _ _ HS.out)
        obtain ⟨b, off, rfl, hSb, hbl, hrr⟩ := Tm.sd_get hr hne
        obtain ⟨c0, c1, q0, q1, q2⟩ := hrr k hlt
        obtain ⟨rfl, -, qa, qc, rfl⟩ := Tm.at_form q2
        have hA : Below wr.heap.size wr (wr.alloc (.cells #[.string t.args[k].name, .slice qa t.args[k].args.length qc] 28)) := (Below.refl _ _).alloc (Nat.le_refl _) _
        have hbm := Tm.bulk_mem (List.getElem_mem hlt)
        have hba := Tm.args_bulk t
        have hst := Tm.sizes_take t.args k hlt
        have hsl := Tm.sizes_le t.args (k + 1)
        have hcl := Tm.colls_length (t.args.take k) ss
        have hq := ih t.args[k] (List.getElem_mem hlt) _ _ B S _ _ _ (HG.out.keep hA) (by rw [World.size_alloc]; have := hW.size; omega) (Tm.at_keep (Keeps.all hA) q2) hS (hnr.out _ (List.getElem_mem hlt)) (by omega) (by omega)
        rw [← Tm.colls_take _ _ _ hlt] at hq
        clear hrr hbm hba hst hsl hcl hr
        go_wp2_with fail
        refine hq.mono ?_
        rintro e w2 ⟨v2, rfl, hg2, hgr2, hgo2, hnn2⟩
        have HG2 := hid hg2
        have HGR2 := hid (grown_trans HGR.out (grown_trans (grown_of_below hA u0.ownBlock) hgr2 (fun x h => .inl h)) (fun x h => HGO.out x h))
        have HGO2 := hid (Goes.trans HGO.out (by rw [World.size_alloc]; omega) hgo2)
        have HNN2 := hid (fun h => hnn2 (HNN.out h))
        clear hq hg2 hgr2 hgo2 hnn2
        go_wp2_with fail
        go_roundw
        case rel => exact ⟨k + 1, by omega, by go_num, HG2, HGR2, HGO2, HNN2.out⟩
        case measure => simp [intOf]; omega
      · obtain rfl : k = t.args.length := by omega
        go_wp2_with fail
        go_ret
        refine ⟨_, rfl, by rw [HC.out]; have := HG.out; rwa [List.take_length] at this, grown_trans (grown_of_below hW _) HGR.out (fun x h => .inl h), fun x h => ?_, HNN.out⟩
        rcases HGO.out x h with q | q
        · exact .inl q
        · exact .inr (Nat.le_trans hW.size q)
theorem collIs_any (t : Tm) : CollIs t := ind2 collIs_of t
end Go.Proofs.YtglhbaigigdeeaaDoor
