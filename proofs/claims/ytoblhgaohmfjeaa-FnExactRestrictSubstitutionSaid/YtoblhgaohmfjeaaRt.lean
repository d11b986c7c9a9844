/- RestrictSubstitution: the reference's. -/
import Derived.Test.YtoblhgaohmfjeaaRs
namespace Go.Proofs.Ytoblhgaohmfjeaa
set_option maxRecDepth 100000
open Go.RowKit

theorem l2InR_any {ss : List ByteArray} {s : ByteArray} {S : Nat → Prop} {v : Value} {w : World} (hv : D.rd S w v (slOf strE ss)) : Calls Try.prog 42 #[v, .string s] w fun e w' => e = .returned (.bool (hasStr ss s)) ∧ w = w' := by
  obtain ⟨a, cap, rfl, hlen, hcap⟩ := slOf_form hv
  unfold big at hlen
  go_enter Try.func42, Try.ntmps42
  go_wp2_with fail
  go_loop [5] (fun i => ∃ k : Nat, k ≤ ss.length ∧ i = .int .i64 k ∧ Hid (∀ j (h : j < k) (hj : j < ss.length), ss[j] ≠ s)) (fun i => ss.length - (intOf i).toNat)
  case atStart => exact ⟨0, Nat.zero_le _, rfl, fun j h => absurd h (by omega)⟩
  case round =>
    obtain ⟨k, hk, rfl, HK⟩ := hrel
    by_cases hlt : k < ss.length
    · obtain ⟨b, off, rfl, -, hbl, hrr⟩ := strs_get hv (by intro e; subst e; simp at hlt)
      obtain ⟨q0, -⟩ := hrr k hlt
      clear hrr hv
      by_cases he : ss[k] = s
      · have HP : Hid (hasStr ss s = true) := (hasStr_iff _ _).2 (he ▸ List.getElem_mem hlt)
        have hq := show (ss[k].toList == s.toList) = true by rw [he]; simp
        clear he
        go_wp2_with fail
        go_ret
        exact ⟨by rw [HP.out]; rfl, rfl⟩
      · have HS : Hid (∀ j (h : j < k + 1) (hj : j < ss.length), ss[j] ≠ s) := fun j h hj => by
          by_cases hjk : j < k
          · exact HK.out j hjk hj
          · obtain rfl : j = k := by omega
            exact he
        have hq := toList_ne he
        clear he
        go_wp2_with fail
        go_round
        case rel => exact ⟨k + 1, by omega, by go_num, HS⟩
        case measure => simp [intOf]; omega
    · obtain rfl : k = ss.length := by omega
      have HP : Hid (hasStr ss s = false) := by
        rw [Hid, Bool.eq_false_iff, Ne, hasStr_iff]
        intro hm
        obtain ⟨j, hj, e⟩ := List.mem_iff_getElem.1 hm
        exact HK.out j hj hj e
      go_wp2_with fail
      go_ret
      exact ⟨by rw [HP.out]; rfl, rfl⟩

theorem Bnd.filter_snoc (p : Bnd → Bool) (xs : List Bnd) (k : Nat) (h : k < xs.length) : Bnd.css ((xs.take (k + 1)).filter p) = Bnd.css ((xs.take k).filter p) ++ if p xs[k] = true then xs[k].cs else [] := by
  rw [filter_take_snoc p xs k h, Bnd.css_flat, Bnd.css_flat, List.flatMap_append]
  split <;> simp

set_option maxHeartbeats 4000000 in
theorem spec_RestrictSubstitution {s : Sb} {ss : List ByteArray} {S S' : Nat → Prop} {c0 v : Value} {w : World} (hs : Sb.at S w c0 s) (hbs : s.bulk ≤ 1048576) (hv : D.rd S' w v (slOf strE ss)) (_ : strBulk ss ≤ 1048576) :
    Calls Try.prog 17 #[.agg #[c0], v] w (OutD (fun v => .agg #[v]) (Bnd.sd (restR s ss).bs) s.valid w) := by
  obtain ⟨a, cap, rfl⟩ := Sb.at_form hs
  obtain ⟨va, vc, rfl, hvn, hvc⟩ := slOf_form hv
  have HVL := hid (D.rd_lt _ _ hv)
  have HS0 := hid (Sb.at_lt hs)
  have hsl : s.bs.length ≤ 1048576 := by rw [Sb.bulk] at hbs; omega
  clear hs hv
  have hW : Below w.heap.size w (((w.alloc (.cells #[.slice a s.bs.length cap] 47)).alloc (.cells #[.slice none 0 0] 47)).alloc (.cells #[.slice none 0 0] 47)) := (((Below.refl _ _).alloc (Nat.le_refl _) _).alloc (by simp) _).alloc (by simp; omega) _
  have bs : Box (((w.alloc (.cells #[.slice a s.bs.length cap] 47)).alloc (.cells #[.slice none 0 0] 47)).alloc (.cells #[.slice none 0 0] 47)) w.heap.size [.slice a s.bs.length cap] := ((Box.new w [Value.slice a s.bs.length cap] 47).alloc _).alloc _
  have br : Box (((w.alloc (.cells #[.slice a s.bs.length cap] 47)).alloc (.cells #[.slice none 0 0] 47)).alloc (.cells #[.slice none 0 0] 47)) (w.heap.size + 1) [.slice none 0 0] := by
    have := (Box.new (w.alloc (.cells #[.slice a s.bs.length cap] 47)) [Value.slice none 0 0] 47).alloc (.cells #[.slice none 0 0] 47)
    simpa only [World.size_alloc] using this
  have bo : Box (((w.alloc (.cells #[.slice a s.bs.length cap] 47)).alloc (.cells #[.slice none 0 0] 47)).alloc (.cells #[.slice none 0 0] 47)) (w.heap.size + 1 + 1) [.slice none 0 0] := by
    have := Box.new ((w.alloc (.cells #[.slice a s.bs.length cap] 47)).alloc (.cells #[.slice none 0 0] 47)) [Value.slice none 0 0] 47
    simpa only [World.size_alloc] using this
  have fr : (((w.alloc (.cells #[.slice a s.bs.length cap] 47)).alloc (.cells #[.slice none 0 0] 47)).alloc (.cells #[.slice none 0 0] 47)).frozen? ⟨w.heap.size + 1, 0, none⟩ = false := (World.frozen?_alloc_past _ _ 0 (by simp)).trans (World.frozen?_alloc_at _ _ _ 0 (by simp))
  have fo : (((w.alloc (.cells #[.slice a s.bs.length cap] 47)).alloc (.cells #[.slice none 0 0] 47)).alloc (.cells #[.slice none 0 0] 47)).frozen? ⟨w.heap.size + 1 + 1, 0, none⟩ = false := World.frozen?_alloc_at _ _ _ 0 (by simp)
  have hw3 : w.heap.size + 3 ≤ (((w.alloc (.cells #[.slice a s.bs.length cap] 47)).alloc (.cells #[.slice none 0 0] 47)).alloc (.cells #[.slice none 0 0] 47)).heap.size := by simp
  go_enter Try.func17, Try.ntmps17
  go_wp2_with fail
  generalize (((w.alloc (.cells #[.slice a s.bs.length cap] 47)).alloc (.cells #[.slice none 0 0] 47)).alloc (.cells #[.slice none 0 0] 47)) = w0 at *
  have HSW := hid (Sb.at_keep (Keeps.all hW) HS0.out)
  refine (l4Good_any HSW.out hbs).mono ?_
  rintro e w1 ⟨_, rfl, hb, rfl⟩
  replace hW := hW.trans (hb.mono hW.size)
  replace bs := bs.keep hb
  replace fr := (hb.frozen (p := ⟨w.heap.size + 1, 0, none⟩) br.lt).trans fr
  replace fo := (hb.frozen (p := ⟨w.heap.size + 1 + 1, 0, none⟩) bo.lt).trans fo
  replace br := br.keep hb
  replace bo := bo.keep hb
  replace hw3 := Nat.le_trans hw3 hb.size
  clear hb HSW
  have es := bs.c0
  have er := br.c0
  have eo := bo.c0
  have ls := bs.lt
  have lr := br.lt
  have lo := bo.lt
  by_cases hval : s.valid = true
  · have HR : Hid ((restR s ss).bs = s.bs.filter fun x => hasStr ss x.var) := by rw [Hid, restR, if_pos hval]
    have HVV := hid hval
    rw [hval]
    clear hval
    have HSW := hid (Sb.at_keep (Keeps.all hW) HS0.out)
    go_wp2_with fail
    clear es er eo ls lr lo
    refine (ownSb_any s _ _ _ HSW.out hbs).mono ?_
    rintro e w2 ⟨v1, F, rfl, ho, hF, hb⟩
    have hl1 := hb.size
    have hFl := D.own_lt _ _ _ ho
    obtain ⟨oa, oc, rfl⟩ := Bnd.sd_own_form ho
    replace hW := hW.trans (hb.mono hW.size)
    replace fr := (hb.frozen (p := ⟨w.heap.size + 1, 0, none⟩) br.lt).trans fr
    replace fo := (hb.frozen (p := ⟨w.heap.size + 1 + 1, 0, none⟩) bo.lt).trans fo
    replace br := br.keep hb
    replace bo := bo.keep hb
    have hA : Below w2.heap.size w2 (w2.alloc (.cells #[.slice oa s.bs.length oc] 47)) := (Below.refl _ _).alloc (Nat.le_refl _) _
    have bw : Box (w2.alloc (.cells #[.slice oa s.bs.length oc] 47)) w2.heap.size [.slice oa s.bs.length oc] := Box.new _ _ _
    replace hW := hW.trans (hA.mono hW.size)
    replace fr := (hA.frozen (p := ⟨w.heap.size + 1, 0, none⟩) br.lt).trans fr
    replace fo := (hA.frozen (p := ⟨w.heap.size + 1 + 1, 0, none⟩) bo.lt).trans fo
    replace br := br.keep hA
    replace bo := bo.keep hA
    have hz2 : w2.heap.size + 1 = (w2.alloc (.cells #[.slice oa s.bs.length oc] 47)).heap.size := by simp
    have ho2 := D.own_keep _ _ _ (Keeps.all hA) ho
    obtain ⟨N, HN⟩ : ∃ N, Hid (w2.heap.size = N) := ⟨_, hid rfl⟩
    have hF3 : ∀ y ∈ F, w1.heap.size ≤ y ∧ y < N := fun y hy => by have := hF y hy; have := hFl y hy; rw [← HN.out]; omega
    have hN1 : w1.heap.size ≤ N := by rw [← HN.out]; exact hl1
    rw [HN.out] at bw hz2
    have EA : Hid ((w2.alloc (.cells #[.slice oa s.bs.length oc] 47)) = (w2.alloc (.cells #[.slice oa s.bs.length oc] 47))) := hid rfl
    clear ho hF hFl hb hA
    have bw0 := bw.c0
    go_wp2_with fail
    clear bw0
    rw [HN.out]
    clear EA
    generalize (w2.alloc (.cells #[.slice oa s.bs.length oc] 47)) = w3 at *
    -- what the items are
    have hitems : ∃ (d : List (Bnd × Value)) (F' : List Nat), d.map Prod.fst = s.bs ∧ (∀ p ∈ d, p.1.var.size ≤ maxLen ∧ p.1.term.name.size ≤ maxLen ∧ ∃ a c, p.2 = .slice a p.1.term.args.length c) ∧ OwnsL w3 (d.flatMap Bnd.ev) (d.flatMap Bnd.ed) F' ∧ (∀ y ∈ F', y ∈ F) ∧
        (s.bs ≠ [] → ∃ b off ty, oa = some ⟨b, off, none⟩ ∧ b ∈ F ∧ b ∉ F' ∧ RowAt w3 b off ty (d.flatMap Bnd.ev)) := by
      rw [Bnd.sd_css] at ho2
      by_cases hne : s.bs = []
      · exact ⟨[], [], by simp [hne], by simp, OwnsL.nil _, by simp, fun h => absurd hne h⟩
      · obtain ⟨b, off, ty, vs, F', e1, e2, hbF, hrow, hvl, hol⟩ := own_row ho2 (Bnd.css_ne hne)
        obtain ⟨d, hd, hvd, hds⟩ := Bnd.items s.bs vs F' hol
        refine ⟨d, F', hd, hds, by rw [Bnd.flat_ed, hd, ← hvd]; exact hol, fun y hy => by rw [e2]; simp [hy], fun _ => ⟨b, off, ty, e1, by rw [e2]; simp, hbF, by rw [← hvd]; exact hrow⟩⟩
    obtain ⟨d, F', hd, hds, hol, hFF, hrow⟩ := hitems
    have hdl : d.length = s.bs.length := by rw [← hd]; simp
    have HD : Hid (∀ j (h : j < d.length) (h' : j < s.bs.length), d[j].1 = s.bs[j]) := fun j h h' => by simp [← hd]
    have HDS := hid hds
    have HROW := hid hrow
    have HF3 := hid hF3
    have HFF := hid hFF
    have HW := hid hW
    have HOL0 := hid hol
    have HBR := hid br
    have HBW := hid bw
    have HBO := hid bo
    have HFR := hid fr
    have HFO := hid fo
    have HZ2 := hid hz2
    clear hds hrow hF3 hFF ho2 hol hd br bw bo fr fo hW
    go_loopw [8] (fun i wr => ∃ (k m : Nat) (G Fr : List Nat) (v : Value), k ≤ s.bs.length ∧ i = .int .i64 k ∧ Hid (m ≤ k ∧ m = ((s.bs.take k).filter fun x => hasStr ss x.var).length) ∧ Hid (Gr wr w1.heap.size 68 3 v m (Bnd.css ((s.bs.take k).filter fun x => hasStr ss x.var)) G) ∧ Hid (∀ y, v.ownBlock = some y → N < y) ∧ Hid (OwnsL wr ((d.drop k).flatMap Bnd.ev) ((d.drop k).flatMap Bnd.ed) Fr) ∧ Hid ((∀ y ∈ G, y ∉ Fr) ∧ (∀ y ∈ G, y ∈ F') ∧ ∀ y ∈ Fr, y ∈ F') ∧ Hid (wr.cell? ⟨w.heap.size + 1 + 1, 0, none⟩ = some v ∧ wr.frozen? ⟨w.heap.size + 1 + 1, 0, none⟩ = false) ∧ Hid (∀ y, y < w3.heap.size → y ≠ w.heap.size + 1 + 1 → wr.heap[y]? = w3.heap[y]?) ∧ Hid (Below (w.heap.size + 1 + 1) w3 wr)) (fun i _ => s.bs.length - (intOf i).toNat)
    case atStart =>
      refine ⟨0, 0, [], F', .slice none 0 0, Nat.zero_le _, rfl, hid (by simp), hid (by rw [List.take_zero]; exact Gr.nil _ _ _ _), hid (fun y hy => by cases hy), hid (by rw [List.drop_zero]; exact HOL0.out), hid ⟨by simp, by simp, fun y h => h⟩, hid ⟨HBO.out.c0, HFO.out⟩, hid (fun _ _ _ => rfl), hid (Below.refl _ _)⟩
    case round =>
      obtain ⟨k, m, G, Fr, v, hk, rfl, HMK, HG, HVN, HOL, HDJ, HC, HBL, HB⟩ := hrel
      have hbz := HB.out.size
      have hzz := HZ2.out
      have keepB : ∀ {x : Nat} {cs : List Value}, Box w3 x cs → x ≠ w.heap.size + 1 + 1 → Box wr x cs := fun h hne => ⟨Nat.lt_of_lt_of_le h.lt hbz, fun i hi => (World.cell?_of_block (HBL.out _ h.lt hne)).trans (h.cell i hi)⟩
      have ew := (keepB HBW.out (by omega)).c0
      have lw := (keepB HBW.out (by omega)).lt
      obtain ⟨c0o, f0o⟩ := HC.out
      by_cases hlt : k < s.bs.length
      · have hne : s.bs ≠ [] := by intro e; rw [e] at hlt; simp at hlt
        obtain ⟨b, off, ty, rfl, hbF, hbF', hrow⟩ := HROW.out hne
        have hbN := HF3.out b hbF
        have hkd : k < d.length := by omega
        have hdk := HD.out k hkd hlt
        obtain ⟨g0, g1, g2⟩ := Bnd.ev_get d k hkd
        obtain ⟨-, -, za, zc, hqa⟩ := HDS.out d[k] (List.getElem_mem hkd)
        obtain ⟨hvl, hnl, -⟩ := HDS.out d[k] (List.getElem_mem hkd)
        rw [hdk] at g0 g1 hqa hvl hnl
        rw [hqa] at g2
        have cellOf : ∀ p u, (d.flatMap Bnd.ev)[p]? = some u → wr.cell? ⟨b, off + p, none⟩ = some u := fun p u h => by
          obtain ⟨hp, he⟩ := List.getElem?_eq_some_iff.1 h
          have h2 := hrow.cell hp
          rw [he] at h2
          rw [← h2]
          exact World.cell?_of_block (a := ⟨b, off + p, none⟩) (HBL.out b hrow.lt (by omega))
        have c0 : wr.cell? ⟨b, off + k * 3, none⟩ = some (.string s.bs[k].var) := cellOf _ _ g0
        have c1 : wr.cell? ⟨b, off + k * 3 + 1, none⟩ = some (.string s.bs[k].term.name) := cellOf (k * 3 + 1) _ g1
        have c2 : wr.cell? ⟨b, off + k * 3 + 2, none⟩ = some (.slice za s.bs[k].term.args.length zc) := cellOf (k * 3 + 2) _ g2
        have hsplit := HOL.out
        rw [List.drop_eq_getElem_cons hkd, List.flatMap_cons, List.flatMap_cons] at hsplit
        obtain ⟨Gk, Fr2, hFre, hdis, hok, hOL2⟩ := OwnsL.split _ _ (Bnd.ev_ed _) hsplit
        have hok2 : OwnsL wr [.string s.bs[k].var, .string s.bs[k].term.name, .slice za s.bs[k].term.args.length zc] s.bs[k].cs Gk := by
          have : Bnd.ev d[k] = [.string s.bs[k].var, .string s.bs[k].term.name, .slice za s.bs[k].term.args.length zc] := by rw [Bnd.ev, hdk, hqa]
          rw [← this, ← hdk]; exact hok
        have hvars := D.rd_keep (w' := wr) ⟨Nat.le_trans HW.out.size hbz, fun y hy hl => by
          rw [HBL.out y (Nat.lt_of_lt_of_le hl HW.out.size) (by omega)]
          exact HW.out.block y hl⟩ _ _ HVL.out
        have HOK := hid hok2
        have HOL2 := hid hOL2
        have HFE := hid hFre
        have HDIS := hid hdis
        have lb : b < wr.heap.size := by omega
        have lo2 : w.heap.size + 1 + 1 < wr.heap.size := by omega
        have hl3 := HMK.out.1
        have HS := Bnd.filter_snoc (fun x => hasStr ss x.var) s.bs k hlt
        have HSL := filter_take_snoc (fun x : Bnd => hasStr ss x.var) s.bs k hlt
        clear cellOf g0 g1 g2 hsplit hok hok2 hOL2 hFre hdis hdk hqa hrow keepB hne
        go_wp2_with fail
        refine (l2InR_any (s := s.bs[k].var) hvars).mono ?_
        rintro e w4 ⟨rfl, rfl⟩
        by_cases hp : hasStr ss s.bs[k].var = true
        · rw [if_pos hp] at HS HSL
          have HS' := hid HS
          have HSL' := hid HSL
          rw [hp]
          clear hp HS HSL hvars
          obtain ⟨r, Hr⟩ : ∃ r, Hid (v.ownBlock = r) := ⟨_, hid rfl⟩
          have HL : Hid (∀ y, r = some y → N < y) := fun y hy => HVN.out y (Hr.out.trans hy)
          have n2 : ¬ r = some (w.heap.size + 1 + 1) := fun e => by have := HL.out _ e; omega
          have nN : ¬ r = some N := fun e => by have := HL.out _ e; omega
          have nb : ¬ r = some b := fun e => by have := HL.out _ e; omega
          have hT0 : (0 : Int) ≤ (k : Int) := by omega
          have HGK : Hid (∀ y ∈ Gk, w1.heap.size ≤ y ∧ y < N) := fun y hy => HF3.out y (HFF.out y (HDJ.out.2.2 y (by rw [HFE.out]; simp [hy])))
          have HFR2 : Hid (∀ y ∈ Fr2, y < N) := fun y hy => (HF3.out y (HFF.out y (HDJ.out.2.2 y (by rw [HFE.out]; simp [hy])))).2
          go_wp2_with fail
          refine region_late (l := [_, _, _, _, _, _, _, _, _, _]) (tl := [_]) (S := fun w1 => (wr).grownBy w1 (r)) (n := 10) rfl rfl (by kernel_rfl) (by kernel_rfl) (grown_of_below ((Below.refl _ _).drew) _) (fun hQL hS => ?_)
          refine late_take (i := 0) (d := some 31) (v := .pointer (some ⟨(w.heap.size + 1 + 1), 0, none⟩)) rfl rfl (by kernel_rfl) (by kernel_rfl) (by kernel_rfl) hQL (by rfl) (fun w1 _ => (by go_simp)) hS ?_
          try simp only [Act.put, List.setIfInBounds_toArray, List.set_cons_zero, List.set_cons_succ]
          refine late_take (i := 1) (d := some 32) (v := v) rfl rfl (by kernel_rfl) (by kernel_rfl) (by kernel_rfl) hQL (by rfl) (fun w1 hS1 => (by obtain ⟨hc, hf⟩ := bcellG hS1; go_simp)) hS ?_
          try simp only [Act.put, List.setIfInBounds_toArray, List.set_cons_zero, List.set_cons_succ]
          refine late_take (i := 2) (d := some 33) (v := .pointer (some ⟨N, 0, none⟩)) rfl rfl (by kernel_rfl) (by kernel_rfl) (by kernel_rfl) hQL (by rfl) (fun w1 _ => (by go_simp)) hS ?_
          try simp only [Act.put, List.setIfInBounds_toArray, List.set_cons_zero, List.set_cons_succ]
          refine late_take (i := 3) (d := some 34) (v := .slice (some ⟨b, off, none⟩) s.bs.length oc) rfl rfl (by kernel_rfl) (by kernel_rfl) (by kernel_rfl) hQL (by rfl) (fun w1 hS1 => (by obtain ⟨hc, hf⟩ := bcellG hS1; go_simp)) hS ?_
          try simp only [Act.put, List.setIfInBounds_toArray, List.set_cons_zero, List.set_cons_succ]
          refine late_take (i := 4) (d := some 35) (v := .int .i64 k) rfl rfl (by kernel_rfl) (by kernel_rfl) (by kernel_rfl) hQL (by rfl) (fun w1 _ => (by go_simp)) hS ?_
          try simp only [Act.put, List.setIfInBounds_toArray, List.set_cons_zero, List.set_cons_succ]
          refine late_take (i := 5) (d := some 36) (v := .pointer (some ⟨b, off + k * 3, none⟩)) rfl rfl (by kernel_rfl) (by kernel_rfl) (by kernel_rfl) hQL (by rfl) (fun w1 _ => (by go_simp)) hS ?_
          try simp only [Act.put, List.setIfInBounds_toArray, List.set_cons_zero, List.set_cons_succ]
          refine late_take (i := 6) (d := some 37) (v := .agg #[.string s.bs[k].var, .string s.bs[k].term.name, .slice za s.bs[k].term.args.length zc]) rfl rfl (by kernel_rfl) (by kernel_rfl) (by kernel_rfl) hQL (by rfl) (fun w1 hS1 => (by obtain ⟨hc, hf⟩ := bcellG hS1; go_simp)) hS ?_
          try simp only [Act.put, List.setIfInBounds_toArray, List.set_cons_zero, List.set_cons_succ]
          refine wpAnyH_ready (rs := [7]) (by kernel_rfl) (by simp) ?_
          refine AllReadyH.cons rfl (fun K hK => ?_) AllReadyH.nil
          go_simp
          refine hK.out _ _ (World.grownBy.trans hS (World.grownBy_alloc _ _ _)) (fun hS => ?_)
          try show wpAnyH _ _ _ _ _ _ _ (Act.put _ (some 38) _) _
          try simp only [Act.put, List.setIfInBounds_toArray, List.set_cons_zero, List.set_cons_succ]
          refine wpAnyH_ready (rs := [8]) (by kernel_rfl) (by simp) ?_
          refine AllReadyH.cons rfl (fun K hK => ?_) AllReadyH.nil
          refine step_append_gr (news := [.string s.bs[k].var, .string s.bs[k].term.name, .slice za s.bs[k].term.args.length zc]) (G := Gk) Try.underlying45 infoBndI rfl (by decide) (by decide) rfl _ _ (by rfl) (by rfl) (by rfl) (HG.out.keep ((Below.refl _ _).alloc (Nat.le_refl _) _).drew) rfl (by intro j u hj; rw [World.cell?_drew, box1]; simpa using hj) (by simp [Value.oneCell']) (HOK.out.keep (Keeps.all ((Below.refl _ _).alloc (Nat.le_refl _) _).drew)) (fun y hy => (HGK.out y hy).1) (fun y hy hy' => HDJ.out.1 y hy (by rw [HFE.out]; simp [hy'])) (fun y hy hy' => by have := (HGK.out y hy').2; have := HVN.out y hy; omega) (by omega) (by simp; omega) ?_
          intro g capg wg hg hgr hgo hglt
          have HGO : Hid (v.ownBlock = some g ∨ g = wr.heap.size + 1) := hid (by simpa using hgo)
          rw [Hr.out] at hgr
          refine hK.out _ _ (World.grownBy.trans hS hgr) (fun hS => ?_)
          try show wpAnyH _ _ _ _ _ _ _ (Act.put _ (some 39) _) _
          try simp only [Act.put, List.setIfInBounds_toArray, List.set_cons_zero, List.set_cons_succ]
          refine late_take (i := 9) (d := some 40) (v := .pointer (some ⟨(w.heap.size + 1 + 1), 0, none⟩)) rfl rfl (by kernel_rfl) (by kernel_rfl) (by kernel_rfl) hQL (by rfl) (fun w1 _ => (by go_simp)) hS ?_
          try simp only [Act.put, List.setIfInBounds_toArray, List.set_cons_zero, List.set_cons_succ]
          refine wpAnyH_done (by kernel_rfl) ?_ _
          show wpTail _ _ _ _ _
          refine wpTail_step rfl (fun K hK => ?_)
          obtain ⟨hc, hf⟩ := bcellG hS
          go_simp
          refine hK.out _ _ ?_
          try clear hc hf
          refine wpTail_nil ?_
          have hgz := hS.size
          have HSS := hid hS
          have z0g := (bcellG hS).1 (w.heap.size + 1 + 1) 0 lo2 n2
          have z2g := (bcellG hS).2 (w.heap.size + 1 + 1) 0 lo2 n2
          have HG2 := hid hg
          clear hg hgr hgo hglt hS
          go_wp2_with fail
          go_roundw
          case rel =>
            refine ⟨k + 1, m + 1, G ++ Gk, Fr2, .slice (some ⟨g, 0, none⟩) (m + 1) capg, by omega, by go_num, hid ?_, hid ?_, hid ?_, hid ?_, hid ⟨?_, ?_, ?_⟩, hid ⟨?_, ?_⟩, hid ?_, hid ?_⟩
            · rw [HSL'.out, List.length_append, ← HMK.out.2]; exact ⟨by omega, rfl⟩
            · rw [HS'.out]; exact HG2.out.setCell (by show w.heap.size + 1 + 1 < _; omega) _
            · intro y hy
              injection hy with hy; subst hy
              rcases HGO.out with q | q
              · exact HVN.out _ q
              · have q' : g = wr.heap.size + 1 := q
                show N < g
                omega
            · refine (HOL2.out.keep (w' := wg) ⟨hgz, fun y hy hl => HSS.out.block y hl fun e => ?_⟩).keep ((Keeps.refl _ _).setCell (fun q _ => ?_) _)
              · have := HL.out y e.symm; have := HFR2.out y hy; omega
              · have : w.heap.size + 1 + 1 ∈ Fr2 := q
                have := (HF3.out _ (HFF.out _ (HDJ.out.2.2 _ (by rw [HFE.out]; exact List.mem_append.2 (.inr this))))).1
                omega
            · intro y hy q
              rcases List.mem_append.1 hy with h | h
              · exact HDJ.out.1 y h (by rw [HFE.out]; simp [q])
              · exact HDIS.out y h q
            · intro y hy
              rcases List.mem_append.1 hy with h | h
              · exact HDJ.out.2.1 y h
              · exact HDJ.out.2.2 y (by rw [HFE.out]; simp [h])
            · exact fun y hy => HDJ.out.2.2 y (by rw [HFE.out]; simp [hy])
            · exact World.cell?_setCell_same _ _ _ (z0g.trans c0o)
            · rw [World.frozen?_setCell]; exact z2g.trans f0o
            · intro y hy hne
              rw [Below.heap_setCell _ _ _ _ (fun e => hne e), HSS.out.block y (by omega) (fun e => by have := HL.out y e.symm; omega), HBL.out y hy hne]
            · exact (HB.out.trans ((Below.refl _ _).grown HSS.out (by omega) (fun y hy => by have := HL.out y hy; omega))).setCell (Nat.le_refl _) _
          case measure => simp [intOf]; omega
        · replace hp : hasStr ss s.bs[k].var = false := by simpa using hp
          rw [if_neg (by simp [hp]), List.append_nil] at HS HSL
          have HS' := hid HS
          have HSL' := hid HSL
          rw [hp]
          clear hp HS HSL
          go_wp2_with fail
          go_roundw
          case rel => exact ⟨k + 1, m, G, Fr2, v, by omega, by go_num, hid (by rw [HSL'.out]; exact ⟨by omega, HMK.out.2⟩), hid (by rw [HS'.out]; exact HG.out), HVN, HOL2, hid ⟨fun y hy q => HDJ.out.1 y hy (by rw [HFE.out]; simp [q]), HDJ.out.2.1, fun y hy => HDJ.out.2.2 y (by rw [HFE.out]; simp [hy])⟩, HC, HBL, HB⟩
          case measure => simp [intOf]; omega
      · obtain rfl : k = s.bs.length := by omega
        have HG' := HG.out
        rw [List.take_length] at HG'
        obtain ⟨Gf, hO, hGf⟩ := HG'.own (by decide)
        have hm := HMK.out.2
        rw [List.take_length] at hm
        rw [hm, ← Bnd.sd_css, ← HR.out] at hO
        obtain ⟨a2, cap2, rfl⟩ := Bnd.sd_own_form hO
        have hOO := hid hO
        have er := (keepB HBR.out (by omega)).c0
        have lr := (keepB HBR.out (by omega)).lt
        have frr : wr.frozen? ⟨w.heap.size + 1, 0, none⟩ = false := (World.frozen?_of_block (a := ⟨w.heap.size + 1, 0, none⟩) (HBL.out _ HBR.out.lt (by show w.heap.size + 1 ≠ _; omega))).trans HFR.out
        have HGF := hid hGf
        have hlt' : ¬ (s.bs.length : Int) < (s.bs.length : Int) := by omega
        clear hO HG' hm hGf keepB
        go_wp2_with fail
        refine bodyPost_ret (v := .tuple #[.agg #[.slice a2 (restR s ss).bs.length cap2], .bool true]) (by simp [results, Try.results17, go_sem, er]) rfl ?_
        exact ⟨_, Gf, by rw [HVV.out], D.own_keep _ _ _ ((Keeps.refl _ _).setCell (fun q _ => by have := HGF.out _ q; have q2 : w1.heap.size ≤ w.heap.size + 1 := this; omega) _) hOO.out, fun y hy => by have := HGF.out y hy; omega, ((HW.out.trans (HB.out.mono (by omega))).setCell (p := ⟨w.heap.size + 1, 0, none⟩) (by show w.heap.size ≤ w.heap.size + 1; omega) _)⟩
  · replace hval : s.valid = false := by simpa using hval
    have HR : Hid ((restR s ss).bs = []) := by rw [Hid, restR, hval]; rfl
    have HVV := hid hval
    rw [hval]
    clear hval
    go_wp2_with fail
    refine bodyPost_ret (v := .tuple #[.agg #[.slice none 0 0], .bool false]) (by simp [results, Try.results17, go_sem, er]) rfl ?_
    exact ⟨_, [], by rw [HVV.out], by rw [HR.out, Bnd.sd_css]; exact D.own_nil _ _, by simp, hW.setCell (p := ⟨w.heap.size + 1, 0, none⟩) (by show w.heap.size ≤ w.heap.size + 1; omega) _⟩
end Go.Proofs.Ytoblhgaohmfjeaa
