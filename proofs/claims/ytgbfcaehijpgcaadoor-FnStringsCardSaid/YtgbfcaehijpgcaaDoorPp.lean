/- ParsePosition: the program's and the reference's. -/
import Derived.Test.YtgbfcaehijpgcaaDoorSj
import Derived.Test.YtgbfcaehijpgcaaDoorPo
import Derived.Test.YtgbfcaehijpgcaaDoorPn
import Derived.Test.YtgbfcaehijpgcaaDoorGi
namespace Go.Proofs.YtgbfcaehijpgcaaDoor
set_option maxRecDepth 100000
open Go Go.RowKit

theorem join_splitL (c : UInt8) : ∀ l : List UInt8, Lib.join (splitL c l) [c] = l
  | [] => by rw [splitL, Lib.join_one]
  | b :: l => by
    have ih := join_splitL c l
    cases e : splitL c l with
    | nil => exact absurd e (splitL_ne c l)
    | cons x xs =>
      rw [e, Lib.join_cons] at ih
      rw [splitL, e]
      split
      · rename_i h
        rw [Lib.join_cons, h]
        show [] ++ ([c] ++ x ++ Lib.joinTail [c] xs) = c :: l
        rw [← ih]; simp
      · rw [Lib.join_cons]
        simp only [List.headD_cons, List.tail_cons, List.cons_append, ih]
def dash : ByteArray := ⟨#[45]⟩
def ppOk (s : ByteArray) : Bool := decide (s = dash) || ((splitS 46 s).all numOk && posOk ((splitS 46 s).map numR))
def ppR (s : ByteArray) : List Int := if ppOk s = true then (if s = dash then [] else (splitS 46 s).map numR) else []
theorem ppR_length (s : ByteArray) : (ppR s).length ≤ 1048576 := by
  unfold ppR
  split
  · rename_i h
    split
    · simp
    · rename_i hd
      rw [ppOk, Bool.or_eq_true, decide_eq_true_iff, Bool.and_eq_true] at h
      rcases h with h | ⟨_, h⟩
      · exact absurd h hd
      · have := ((posOk_iff _).1 h).1; omega
  · simp
theorem numR_in (s : ByteArray) : -999999 ≤ numR s ∧ numR s ≤ 999999 := by
  cases h : numOf s.data.toList with
  | none => rw [(num_none h).1]; omega
  | some n => rw [(num_some h).1]; exact ((numOf_iff _ _).1 h).2
theorem numR_itoa {s : ByteArray} (h : numOk s = true) : Lib.itoa (numR s) = s.data.toList := by
  cases e : numOf s.data.toList with
  | none => rw [(num_none e).2] at h; cases h
  | some n => rw [(num_some e).1]; exact ((numOf_iff _ _).1 e).1
theorem pp_back {s : ByteArray} (h : (splitS 46 s).all numOk = true) : bs (posList ((splitS 46 s).map numR)) = s := by
  have hne : (splitS 46 s).map numR ≠ [] := fun e => splitS_ne 46 s (List.map_eq_nil_iff.1 e)
  rw [posList, if_neg hne, dotted, List.map_map]
  have he : (splitS 46 s).map (Lib.itoa ∘ numR) = splitL 46 s.data.toList := by
    have h1 : (splitS 46 s).map (Lib.itoa ∘ numR) = (splitS 46 s).map fun x => x.data.toList := List.map_congr_left fun x hx => numR_itoa ((List.all_eq_true.1 h) x hx)
    rw [h1, splitS, List.map_map]
    exact List.map_id'' (fun l => by simp) _
  rw [he, join_splitL]
  exact ba_list s
theorem pp_dash {s : ByteArray} (h : s = dash) : ppOk s = true ∧ ppR s = [] := by
  have : ppOk s = true := by rw [ppOk, h]; simp
  exact ⟨this, by rw [ppR, if_pos this, if_pos h]⟩
theorem pp_else {s : ByteArray} (h : ¬ s = dash) : ppOk s = ((splitS 46 s).all numOk && posOk ((splitS 46 s).map numR)) := by rw [ppOk, decide_eq_false h, Bool.false_or]
theorem pp_bad {s : ByteArray} (h : ppOk s = false) : ppR s = [] := by rw [ppR, if_neg (by rw [h]; simp)]
theorem pp_nums {s : ByteArray} (h : ¬ s = dash) (hk : ppOk s = true) : ppR s = (splitS 46 s).map numR := by rw [ppR, if_pos hk, if_neg h]
set_option maxHeartbeats 4000000 in
theorem spec_ParsePosition {s : ByteArray} (hs : s.size ≤ 1048576) {w : World} : Calls Tryd.prog 29 #[.string s] w (RdD id (slOf intE (ppR s)) (ppOk s) w) := by
  by_cases hd : s = dash
  · obtain ⟨h1, h2⟩ := pp_dash hd
    rw [h1, h2]
    have hq : (s.toList == [45]) = true := by
      have h : ([45] : List UInt8) = dash.toList := by rw [ByteArray.toList_eq]; rfl
      rw [h, toList_beq, hd]; simp
    clear hd h1 h2
    go_enter Tryd.func29, Tryd.ntmps29
    go_wp2_with fail
    go_ret2
    exact ⟨_, rfl, (GI.made rfl (Nat.le_refl _)).rd, (Below.refl _ _).alloc (Nat.le_refl _) _⟩
  · have hq : (s.toList == [45]) = false := by
      have h : ([45] : List UInt8) = dash.toList := by rw [ByteArray.toList_eq]; rfl
      rw [h]; exact toList_ne hd
    have HD := hid hd
    clear hd
    have hA0 : Below w.heap.size w (w.alloc (.cells #[] 3)) := (Below.refl _ _).alloc (Nat.le_refl _) _
    have HG0 := hid (GI.made (w := w) rfl (Nat.le_refl _))
    have hsp := l1Split_any s 46 hs (w.alloc (.cells #[] 3))
    go_enter Tryd.func29, Tryd.ntmps29
    go_wp2_with fail
    refine hsp.mono ?_
    rintro e w2 ⟨v, rfl, hrow, -, hb2⟩
    have HZ : Hid (∀ p ∈ splitS 46 s, p.size ≤ 1048576) := fun p hp => by have := splitS_sizes 46 s p hp; omega
    have hne := splitS_ne 46 s
    have HLS := hid (splitS_length 46 s)
    obtain ⟨ps, HPS⟩ : ∃ ps, Hid (splitS 46 s = ps) := ⟨_, hid rfl⟩
    rw [HPS.out] at HZ hne hrow HLS
    have HLN : Hid (ps.length ≤ s.size + 1) := HLS
    obtain ⟨g, cap, hv, hBg, hgl, hgc⟩ := hrow.some hne
    subst hv
    have HC : Hid (∀ j (hj : j < ps.length), w2.cell? ⟨g, j, none⟩ = some (.string ps[j])) := fun j hj => by
      have := hrow.cells rfl j ps[j] (List.getElem?_eq_getElem hj)
      rwa [Nat.zero_add] at this
    rw [World.size_alloc] at hBg
    have hW : Below w.heap.size w w2 := hA0.trans (hb2.mono hA0.size)
    have hpl := HLN.out
    replace HG0 := hid (HG0.out.keep hb2)
    clear hrow hne hb2
    go_wp2_with fail
    go_loopw [4, 6] (fun x i wr => ∃ k : Nat, k ≤ ps.length ∧ i = .int .i64 k ∧ Hid (GI wr w.heap.size x ((ps.take k).map numR)) ∧ Hid (w2.grownBy wr (some w.heap.size)) ∧ Hid (Goes w2 (.slice (some ⟨w.heap.size, 0, none⟩) 0 0) x) ∧ Hid ((ps.take k).all numOk = true) ∧ Below w.heap.size w wr) (fun _ i _ => ps.length - (intOf i).toNat)
    case atStart => exact ⟨0, Nat.zero_le _, rfl, by rw [List.take_zero]; exact HG0.out, grown_refl _ _, Goes.refl _ _, by simp [Hid], hW⟩
    case round =>
      obtain ⟨k, hk, rfl, HG, HGR, HGO, HA, hb⟩ := hrel
      have hgz := HGR.out.size
      have hbz := hb.size
      by_cases hlt : k < ps.length
      · have q0 : wr.cell? ⟨g, k, none⟩ = some (.string ps[k]) := (World.cell?_of_block (a := ⟨g, k, none⟩) (HGR.out.block g hgl (fun e => by injection e with e; omega))).trans (HC.out k hlt)
        have q00 : wr.cell? ⟨g, 0 + k, none⟩ = some (.string ps[k]) := by rw [Nat.zero_add]; exact q0
        have hsz := HZ.out ps[k] (List.getElem_mem hlt)
        have HSN : Hid ((ps.take (k + 1)).map numR = (ps.take k).map numR ++ [numR ps[k]]) := by rw [Hid, List.take_succ_eq_append_getElem hlt, List.map_append, List.map_cons, List.map_nil]
        have HSA : Hid ((ps.take (k + 1)).all numOk = numOk ps[k]) := by rw [Hid, List.take_succ_eq_append_getElem hlt, List.all_append, HA.out]; simp
        have HIN := hid (numR_in ps[k])
        obtain ⟨ns, HNS⟩ : ∃ ns, Hid ((ps.take k).map numR = ns) := ⟨_, hid rfl⟩
        have HNL : Hid (ns.length = k) := by rw [Hid, ← HNS.out, List.length_map, List.length_take]; omega
        rw [HNS.out] at HG HSN
        obtain ⟨xa, xc, rfl, hxn, hxc⟩ := HG.out.form
        unfold big at hxn
        go_wp2_with fail
        refine (l1Read_any ps[k] hsz _).mono ?_
        rintro e w3 ⟨_, rfl, hb3, rfl⟩
        have hb3z := hb3.size
        have hbb := hb.trans (hb3.mono hbz)
        by_cases hn : numOk ps[k] = true
        · have HS2 : Hid ((ps.take (k + 1)).all numOk = true) := by rw [Hid, HSA.out, hn]
          rw [hn]
          clear hn
          obtain ⟨z, HZZ⟩ : ∃ z, Hid (numR ps[k] = z) := ⟨_, hid rfl⟩
          rw [HZZ.out] at HSN HIN ⊢
          have hzi : IsI64 z := ⟨by have := HIN.out; omega, by have := HIN.out; omega⟩
          have hA : Below w3.heap.size w3 (w3.alloc (.cells #[.int .i64 z] 3)) := (Below.refl _ _).alloc (Nat.le_refl _) _
          go_wp2_with (refine wpList_append_ints (B := w.heap.size) (xs := ns) (ys := [z]) rfl _ _ (by rfl) (by rfl) (by rfl) (by rfl) ((HG.out.keep hb3).keep hA) (GI.one hzi rfl (Nat.le_refl _)).rd (by have := HNL.out; simp only [List.length_cons, List.length_nil]; omega) (by rw [World.size_alloc]; omega) ?_; intro v' w4 hg hgr hgo hgn)
          have HG2 := hid hg
          rw [← HSN.out] at HG2
          have hb4 : Below w.heap.size w w4 := (hbb.trans (hA.mono (by omega))).grown hgr (by rw [World.size_alloc]; omega) fun j hj => (Gr.lt HG.out j hj).1
          have HGR2 := hid (grown_trans (grown_trans HGR.out (grown_of_below (hb3.trans (hA.mono hb3z)) none) (fun x h => by cases h)) hgr (fun x h => HGO.out x h))
          have HGO2 : Hid (Goes w2 (.slice (some ⟨w.heap.size, 0, none⟩) 0 0) v') := fun x hx => by
            rcases hgo with q | q
            · rw [q] at hx; exact HGO.out x hx
            · rw [q] at hx; injection hx with hx; right; rw [World.size_alloc] at hx; omega
          clear hg hgr hgo hgn
          go_roundw
          case rel => exact ⟨k + 1, by omega, by go_num, HG2, HGR2, HGO2, HS2, hb4⟩
          case measure => simp [intOf]; omega
        · replace hn : numOk ps[k] = false := by simpa using hn
          have HF : Hid (ppOk s = false) := by
            rw [Hid, pp_else HD.out, HPS.out, show ps.all numOk = false from by rw [Bool.eq_false_iff]; intro q; have := List.all_eq_true.1 q _ (List.getElem_mem hlt); rw [hn] at this; cases this]; rfl
          rw [hn]
          clear hn
          go_wp2_with fail
          go_ret2
          refine ⟨_, (by rw [HF.out]; rfl), (by rw [pp_bad HF.out]; exact (GI.made rfl (Nat.le_refl _)).rd), hbb.alloc hbb.size _⟩
      · obtain rfl : k = ps.length := by omega
        have HAE : Hid (ps.all numOk = true) := by have := HA.out; rwa [List.take_length] at this
        obtain ⟨ns, HNS⟩ : ∃ ns, Hid (ps.map numR = ns) := ⟨_, hid rfl⟩
        rw [List.take_length, HNS.out] at HG
        have hx := HG.out.rd
        clear HA
        by_cases hp : posOk ns = true
        · have HK : Hid (ppOk s = true) := by rw [Hid, pp_else HD.out, HPS.out, HAE.out, HNS.out, hp]; rfl
          go_wp2_with fail
          refine (l3Place_any hx).mono ?_
          rintro e w3 ⟨rfl, rfl⟩
          rw [hp]
          clear hp
          go_wp2_with fail
          go_ret2
          exact ⟨_, (by rw [HK.out]; rfl), (by rw [pp_nums HD.out HK.out, HPS.out, HNS.out]; exact hx), hb⟩
        · replace hp : posOk ns = false := by simpa using hp
          have HF : Hid (ppOk s = false) := by rw [Hid, pp_else HD.out, HPS.out, HAE.out, HNS.out, hp]; rfl
          go_wp2_with fail
          refine (l3Place_any hx).mono ?_
          rintro e w3 ⟨rfl, rfl⟩
          rw [hp]
          clear hp
          go_wp2_with fail
          go_ret2
          refine ⟨_, (by rw [HF.out]; rfl), (by rw [pp_bad HF.out]; exact (GI.made rfl (Nat.le_refl _)).rd), hb.alloc hb.size _⟩
set_option maxHeartbeats 4000000 in
theorem impl_ParsePosition {s : ByteArray} (hs : s.size ≤ 1048576) {w : World} (hT : TabF w) (hE : ErrF w) (hM : MaxF w) : Calls Tryd.prog 30 #[.string s] w (OutD id (slOf intE (ppR s)) (ppOk s) w) := by
  by_cases hd : s = dash
  · obtain ⟨h1, h2⟩ := pp_dash hd
    rw [h1, h2]
    have hq : (s.toList == [45]) = true := by
      have h : ([45] : List UInt8) = dash.toList := by rw [ByteArray.toList_eq]; rfl
      rw [h, toList_beq, hd]; simp
    have hq2 : (s.toList != [45]) = false := by rw [bne, hq]; rfl
    have hq3 : bs (posList []) = s := by rw [hd]; rfl
    have hq4 : ((bs (posList [])).toList != s.toList) = false := by rw [hq3]; simp
    have hA0 : Below w.heap.size w (w.alloc (.cells #[] 3)) := (Below.refl _ _).alloc (Nat.le_refl _) _
    have hg0 : GI (w.alloc (.cells #[] 3)) w.heap.size (.slice (some ⟨w.heap.size, 0, none⟩) 0 0) [] := GI.made rfl (Nat.le_refl _)
    have hfp := formatPosition_any (p := []) (by simp) (by simp) (TabF.keep hT hA0) hg0.rd
    clear hd h1 h2
    go_enter Tryd.func30, Tryd.ntmps30
    go_wp2_with fail
    refine (isPosition_any hg0.rd).mono ?_
    rintro e w3 ⟨rfl, rfl⟩
    rw [show posOk [] = true from rfl]
    go_wp2_with fail
    refine hfp.mono ?_
    rintro e w4 ⟨_, rfl, hb4, rfl⟩
    obtain ⟨F, ho, hF⟩ := (hg0.keep hb4).own
    go_wp2_with fail
    go_ret2
    exact ⟨_, F, rfl, ho, hF, hA0.trans (hb4.mono hA0.size)⟩
  · have hq : (s.toList == [45]) = false := by
      have h : ([45] : List UInt8) = dash.toList := by rw [ByteArray.toList_eq]; rfl
      rw [h]; exact toList_ne hd
    have hq2 : (s.toList != [45]) = true := by rw [bne, hq]; rfl
    have HD := hid hd
    clear hd
    have hA0 : Below w.heap.size w (w.alloc (.cells #[] 3)) := (Below.refl _ _).alloc (Nat.le_refl _) _
    have HG0 := hid (GI.made (w := w) rfl (Nat.le_refl _))
    obtain ⟨m, hm⟩ := MaxF.keep hM hA0
    have hsp := Tryd.strings_Split s ⟨#[46]⟩ m _ (by omega) hm (show 1 ≤ 1 from Nat.le_refl _)
    rw [countB_one 46 s, splitB_one 46 s.size s (Nat.le_refl _)] at hsp
    have hsl := splitS_length 46 s
    have hrow := Row.lit (w.alloc (.cells #[] 3)) (splitS 46 s) (fun p hp => by have := splitS_sizes 46 s p hp; unfold maxLen; omega) (by unfold maxLen; omega)
    obtain ⟨v, HVV⟩ : ∃ v, Hid (Value.slice (some ⟨(w.alloc (.cells #[] 3)).heap.size, 0, none⟩) (splitS 46 s).length (splitS 46 s).length = v) := ⟨_, hid rfl⟩
    rw [HVV.out] at hsp hrow
    go_enter Tryd.func30, Tryd.ntmps30
    go_wp2_with fail
    refine hsp.mono ?_
    rintro e w2 ⟨rfl, hw⟩
    rw [← hw] at hrow
    have hb2 : Below (w.alloc (.cells #[] 3)).heap.size (w.alloc (.cells #[] 3)) w2 := by rw [hw]; exact (Below.refl _ _).alloc (Nat.le_refl _) _
    clear hw hm hsp HVV
    have HZ : Hid (∀ p ∈ splitS 46 s, p.size ≤ 1048576) := fun p hp => by have := splitS_sizes 46 s p hp; omega
    have hne := splitS_ne 46 s
    have HLS := hid (splitS_length 46 s)
    obtain ⟨ps, HPS⟩ : ∃ ps, Hid (splitS 46 s = ps) := ⟨_, hid rfl⟩
    rw [HPS.out] at HZ hne hrow HLS
    have HLN : Hid (ps.length ≤ s.size + 1) := HLS
    obtain ⟨g, cap, hv, hBg, hgl, hgc⟩ := hrow.some hne
    subst hv
    have HC : Hid (∀ j (hj : j < ps.length), w2.cell? ⟨g, j, none⟩ = some (.string ps[j])) := fun j hj => by
      have := hrow.cells rfl j ps[j] (List.getElem?_eq_getElem hj)
      rwa [Nat.zero_add] at this
    rw [World.size_alloc] at hBg
    have hW : Below w.heap.size w w2 := hA0.trans (hb2.mono hA0.size)
    have hpl := HLN.out
    replace HG0 := hid (HG0.out.keep hb2)
    clear hrow hne hb2
    go_wp2_with fail
    go_loopw [4, 15] (fun x i wr => ∃ k : Nat, k ≤ ps.length ∧ i = .int .i64 k ∧ Hid (GI wr w.heap.size x ((ps.take k).map numR)) ∧ Hid (w2.grownBy wr (some w.heap.size)) ∧ Hid (Goes w2 (.slice (some ⟨w.heap.size, 0, none⟩) 0 0) x) ∧ Hid ((ps.take k).all numOk = true) ∧ Below w.heap.size w wr) (fun _ i _ => ps.length - (intOf i).toNat)
    case atStart => exact ⟨0, Nat.zero_le _, rfl, by rw [List.take_zero]; exact HG0.out, grown_refl _ _, Goes.refl _ _, by simp [Hid], hW⟩
    case round =>
      obtain ⟨k, hk, rfl, HG, HGR, HGO, HA, hb⟩ := hrel
      have hgz := HGR.out.size
      have hbz := hb.size
      by_cases hlt : k < ps.length
      · have q0 : wr.cell? ⟨g, k, none⟩ = some (.string ps[k]) := (World.cell?_of_block (a := ⟨g, k, none⟩) (HGR.out.block g hgl (fun e => by injection e with e; omega))).trans (HC.out k hlt)
        have q00 : wr.cell? ⟨g, 0 + k, none⟩ = some (.string ps[k]) := by rw [Nat.zero_add]; exact q0
        have hsz := HZ.out ps[k] (List.getElem_mem hlt)
        have HSN : Hid ((ps.take (k + 1)).map numR = (ps.take k).map numR ++ [numR ps[k]]) := by rw [Hid, List.take_succ_eq_append_getElem hlt, List.map_append, List.map_cons, List.map_nil]
        have HSA : Hid ((ps.take (k + 1)).all numOk = numOk ps[k]) := by rw [Hid, List.take_succ_eq_append_getElem hlt, List.all_append, HA.out]; simp
        have HIN := hid (numR_in ps[k])
        obtain ⟨ns, HNS⟩ : ∃ ns, Hid ((ps.take k).map numR = ns) := ⟨_, hid rfl⟩
        have HNL : Hid (ns.length = k) := by rw [Hid, ← HNS.out, List.length_map, List.length_take]; omega
        rw [HNS.out] at HG HSN
        obtain ⟨xa, xc, rfl, hxn, hxc⟩ := HG.out.form
        unfold big at hxn
        go_wp2_with fail
        refine (impl_ParseInt ps[k] hsz (TabF.keep hT hb) (ErrF.keep hE hb)).mono ?_
        rintro e w3 ⟨_, rfl, hb3, rfl⟩
        have hb3z := hb3.size
        have hbb := hb.trans (hb3.mono hbz)
        by_cases hn : numOk ps[k] = true
        · have HS2 : Hid ((ps.take (k + 1)).all numOk = true) := by rw [Hid, HSA.out, hn]
          rw [hn]
          clear hn
          obtain ⟨z, HZZ⟩ : ∃ z, Hid (numR ps[k] = z) := ⟨_, hid rfl⟩
          rw [HZZ.out] at HSN HIN ⊢
          have hzi : IsI64 z := ⟨by have := HIN.out; omega, by have := HIN.out; omega⟩
          have hA : Below w3.heap.size w3 (w3.alloc (.cells #[.int .i64 z] 3)) := (Below.refl _ _).alloc (Nat.le_refl _) _
          go_wp2_with (refine wpList_append_ints (B := w.heap.size) (xs := ns) (ys := [z]) rfl _ _ (by rfl) (by rfl) (by rfl) (by rfl) ((HG.out.keep hb3).keep hA) (GI.one hzi rfl (Nat.le_refl _)).rd (by have := HNL.out; simp only [List.length_cons, List.length_nil]; omega) (by rw [World.size_alloc]; omega) ?_; intro v' w4 hg hgr hgo hgn)
          have HG2 := hid hg
          rw [← HSN.out] at HG2
          have hb4 : Below w.heap.size w w4 := (hbb.trans (hA.mono (by omega))).grown hgr (by rw [World.size_alloc]; omega) fun j hj => (Gr.lt HG.out j hj).1
          have HGR2 := hid (grown_trans (grown_trans HGR.out (grown_of_below (hb3.trans (hA.mono hb3z)) none) (fun x h => by cases h)) hgr (fun x h => HGO.out x h))
          have HGO2 : Hid (Goes w2 (.slice (some ⟨w.heap.size, 0, none⟩) 0 0) v') := fun x hx => by
            rcases hgo with q | q
            · rw [q] at hx; exact HGO.out x hx
            · rw [q] at hx; injection hx with hx; right; rw [World.size_alloc] at hx; omega
          clear hg hgr hgo hgn
          go_roundw
          case rel => exact ⟨k + 1, by omega, by go_num, HG2, HGR2, HGO2, HS2, hb4⟩
          case measure => simp [intOf]; omega
        · replace hn : numOk ps[k] = false := by simpa using hn
          have HF : Hid (ppOk s = false) := by
            rw [Hid, pp_else HD.out, HPS.out, show ps.all numOk = false from by rw [Bool.eq_false_iff]; intro q; have := List.all_eq_true.1 q _ (List.getElem_mem hlt); rw [hn] at this; cases this]; rfl
          rw [hn]
          clear hn
          go_wp2_with fail
          go_ret2
          refine ⟨_, [], (by rw [HF.out]; rfl), (by rw [pp_bad HF.out]; exact D.own_nil _ _), by simp, hbb⟩
      · obtain rfl : k = ps.length := by omega
        have HAE : Hid (ps.all numOk = true) := by have := HA.out; rwa [List.take_length] at this
        obtain ⟨ns, HNS⟩ : ∃ ns, Hid (ps.map numR = ns) := ⟨_, hid rfl⟩
        rw [List.take_length, HNS.out] at HG
        have hx := HG.out.rd
        clear HA
        by_cases hp : posOk ns = true
        · have HK : Hid (ppOk s = true) := by rw [Hid, pp_else HD.out, HPS.out, HAE.out, HNS.out, hp]; rfl
          have hbk := pp_back (s := s) (by rw [HPS.out]; exact HAE.out)
          rw [HPS.out, HNS.out] at hbk
          have hq4 : ((bs (posList ns)).toList == s.toList) = true := by rw [hbk]; simp
          have hfp := formatPosition_any (p := ns) (pos_in hp) (by have := ((posOk_iff _).1 hp).1; omega) (TabF.keep hT hb) hx
          have HGN := hid HG.out
          clear hbk
          go_wp2_with fail
          refine (isPosition_any hx).mono ?_
          rintro e w3 ⟨rfl, rfl⟩
          rw [hp]
          clear hp
          go_wp2_with fail
          refine hfp.mono ?_
          rintro e w4 ⟨_, rfl, hb4, rfl⟩
          obtain ⟨F, ho, hF⟩ := (HGN.out.keep hb4).own
          go_wp2_with fail
          go_ret2
          exact ⟨_, F, (by rw [HK.out]; rfl), (by rw [pp_nums HD.out HK.out, HPS.out, HNS.out]; exact ho), hF, hb.trans (hb4.mono hb.size)⟩
        · replace hp : posOk ns = false := by simpa using hp
          have HF : Hid (ppOk s = false) := by rw [Hid, pp_else HD.out, HPS.out, HAE.out, HNS.out, hp]; rfl
          go_wp2_with fail
          refine (isPosition_any hx).mono ?_
          rintro e w3 ⟨rfl, rfl⟩
          rw [hp]
          clear hp
          go_wp2_with fail
          go_ret2
          refine ⟨_, [], (by rw [HF.out]; rfl), (by rw [pp_bad HF.out]; exact D.own_nil _ _), by simp, hb⟩
end Go.Proofs.YtgbfcaehijpgcaaDoor
