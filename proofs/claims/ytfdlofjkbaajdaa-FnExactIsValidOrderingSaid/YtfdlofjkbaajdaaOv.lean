/- Valid orderings. -/
import Derived.Test.YtfdlofjkbaajdaaOg
import Derived.Test.YtfdlofjkbaajdaaNs
namespace Go.Proofs.Ytfdlofjkbaajdaa
set_option maxRecDepth 100000
open Go.RowKit

def okAt (x : Og) (i : Nat) : Bool := symName (x.syms.getD i ByteArray.empty) && !hasStr (x.syms.take i) (x.syms.getD i ByteArray.empty) && inB (x.ws.getD i 0) x.var 100
/-- IsValidOrdering -/
def Og.ok (x : Og) : Bool := inB x.syms.length 1 12 && decide (x.ws.length = x.syms.length) && inB x.var 1 100 && (List.range x.syms.length).all (okAt x)
theorem okAt_eq {x : Og} {k : Nat} (h : k < x.syms.length) (h' : k < x.ws.length) : okAt x k = (symName x.syms[k] && !hasStr (x.syms.take k) x.syms[k] && inB x.ws[k] x.var 100) := by
  rw [okAt, List.getD_eq_getElem?_getD, List.getD_eq_getElem?_getD, List.getElem?_eq_getElem h, List.getElem?_eq_getElem h']; rfl
theorem all_no {p : Nat → Bool} {n k : Nat} (h : k < n) (hp : p k = false) : (List.range n).all p = false := by
  rw [Bool.eq_false_iff]; intro e
  rw [List.all_eq_true] at e
  rw [e k (List.mem_range.2 h)] at hp
  cases hp
theorem sym_gives {f : FuncId} {args : Array Value} {w : World} {p q : Bool} (h : Calls Try.prog f args w (Gives w (.bool p))) (e : p = q) : Calls Try.prog f args w (Gives w (.bool q)) := by subst e; exact h
theorem sub_rd {S : Nat → Prop} {w : World} {b off k c : Nat} {ss : List ByteArray} (hS : S b) (hb : b < w.heap.size) (hk : k ≤ ss.length) (hc : k ≤ c ∧ k ≤ big) (h : ∀ i (hi : i < ss.length), w.cell? ⟨b, off + i, none⟩ = some (.string ss[i]) ∧ ss[i].size ≤ maxLen) : D.rd S w (.slice (some ⟨b, off, none⟩) k c) (slOf strE (ss.take k)) := by
  have hl : (ss.take k).length = k := by rw [List.length_take]; omega
  rw [slOf, D.rd, hl]
  refine ⟨_, _, rfl, hc.2, hc.1, fun hn => flat_ne strE_wide (by decide) (by intro e; rw [e] at hl; simp at hl; omega), fun hne => ⟨b, off, rfl, hS, hb, (D.rds_iff _ _).2 fun i hi => ?_⟩⟩
  have hil : i < (ss.take k).length := by rw [flat_length strE_wide] at hi; omega
  have hil' : i < ss.length := by omega
  obtain ⟨q0, q1⟩ := h i hil'
  have hg := flat_get strE_wide (ss.take k) i 0 hil (by decide)
  rw [Nat.mul_one, Nat.add_zero, List.getElem?_eq_getElem hi] at hg
  have e : ((ss.take k).flatMap strE)[i] = .str ss[i] := by simpa [strE] using hg
  rw [e]
  exact ⟨_, q0, D.rd_str q1⟩

set_option maxHeartbeats 1000000 in
theorem l2InD_any {S : Nat → Prop} {ss : List ByteArray} {s : ByteArray} {v : Value} {w : World} (hv : D.rd S w v (slOf strE ss)) : Calls Try.prog 39 #[v, .string s] w fun e w' => e = .returned (.bool (hasStr ss s)) ∧ w = w' := by
  obtain ⟨a, cap, rfl, hlen, hcap⟩ := slOf_form hv
  unfold big at hlen
  go_enter Try.func39, Try.ntmps39
  go_wp2_with fail
  go_loop [5] (fun i => ∃ k : Nat, k ≤ ss.length ∧ i = .int .i64 k ∧ Hid (∀ j (h : j < k) (hj : j < ss.length), ss[j] ≠ s)) (fun i => ss.length - (intOf i).toNat)
  case atStart => exact ⟨0, Nat.zero_le _, rfl, fun j h => absurd h (by omega)⟩
  case round =>
    obtain ⟨k, hk, rfl, HK⟩ := hrel
    by_cases hlt : k < ss.length
    · have hne : ss ≠ [] := by intro e; subst e; simp at hlt
      obtain ⟨b, off, rfl, hS, hbl, hrr⟩ := strs_get hv hne
      obtain ⟨q0, -⟩ := hrr k hlt
      clear hv hrr
      by_cases he : ss[k] = s
      · have HP : Hid (hasStr ss s = true) := (hasStr_iff _ _).2 (he ▸ List.getElem_mem hlt)
        have hq := show (ss[k].toList == s.toList) = true by rw [he]; simp
        clear he
        go_wp2_with fail
        go_ret
        exact ⟨by rw [HP.out]; rfl, rfl⟩
      · have HS : Hid (∀ j (h : j < k + 1) (hj : j < ss.length), ss[j] ≠ s) := fun j h hj => by
          by_cases hjk : j < k
          · exact HK.out j hjk hj
          · obtain rfl : j = k := by omega
            exact he
        have hq := toList_ne he
        clear he
        go_wp2_with fail
        go_round
        case rel => exact ⟨k + 1, by omega, by go_num, HS⟩
        case measure => simp [intOf]; omega
    · obtain rfl : k = ss.length := by omega
      have HP : Hid (hasStr ss s = false) := by
        rw [Hid, Bool.eq_false_iff, Ne, hasStr_iff]
        intro hm
        obtain ⟨j, hj, e⟩ := List.mem_iff_getElem.1 hm
        exact HK.out j hj hj e
      go_wp2_with fail
      go_ret
      exact ⟨by rw [HP.out]; rfl, rfl⟩

set_option maxHeartbeats 4000000 in
theorem impl_IsValidOrdering_any {x : Og} {S : Nat → Prop} {c0 c1 c2 : Value} {w : World} (hr : Og.at S w c0 c1 c2 x) (hbk : x.bulk ≤ 1048576) : Calls Try.prog 16 #[.agg #[c0, c1, c2]] w (Gives w (.bool x.ok)) := by
  have hls : x.syms.length ≤ 1048576 := by rw [Og.bulk, strBulk] at hbk; omega
  have hlw : x.ws.length ≤ 1048576 := by rw [Og.bulk, strBulk] at hbk; omega
  obtain ⟨⟨a, c, rfl⟩, ⟨a', c', rfl⟩, rfl⟩ := Og.at_form hr
  have hcc : x.syms.length ≤ c ∧ c ≤ maxLen ∨ True := .inr trivial
  have HD : Hid (x.ok = (inB x.syms.length 1 12 && decide (x.ws.length = x.syms.length) && inB x.var 1 100 && (List.range x.syms.length).all (okAt x))) := rfl
  have hW : Below w.heap.size w (w.alloc (.cells #[.slice a x.syms.length c, .slice a' x.ws.length c', .int .i64 x.var] 37)) := (Below.refl _ _).alloc (Nat.le_refl _) _
  have HR := hid hr
  clear hr
  by_cases h1 : inB x.syms.length 1 12 = true
  · by_cases h2 : x.ws.length = x.syms.length
    · have hq2 : ((x.ws.length : Int) != (x.syms.length : Int)) = false := by rw [h2]; simp
      have hq2' : ((x.ws.length : Int) == (x.syms.length : Int)) = true := by rw [h2]; simp
      by_cases h3 : inB x.var 1 100 = true
      · have HD2 : Hid (x.ok = (List.range x.syms.length).all (okAt x)) := by rw [Hid, HD.out, h1, decide_eq_true h2, h3]; rfl
        replace HD := HD2
        clear HD2
        have hne : x.syms ≠ [] := by intro e; rw [e] at h1; simp [inB] at h1
        have hne' : x.ws ≠ [] := by intro e; rw [e] at h2; simp at h2; exact hne (List.length_eq_zero_iff.1 h2.symm)
        obtain ⟨b, off, rfl, hS, hbl, hrr⟩ := strs_get HR.out.1 hne
        obtain ⟨b', off', rfl, hS', hbl', hrr'⟩ := ints_get HR.out.2.1 hne'
        obtain ⟨_, _, hcap, hcl, hcc2⟩ := slOf_form HR.out.1
        obtain ⟨rfl, rfl⟩ : _ = _ ∧ _ = _ := by injection hcap with e1 e2 e3; exact ⟨e1, e3⟩
        have H1 := hid h1
        have H2 := hid h2
        have H3 := hid h3
        have H4 := hid hrr
        have H5 := hid hrr'
        clear h1 h2 h3 hrr hrr' hne hne' hcap
        go_enter Try.func16, Try.ntmps16
        go_wp2_with fail
        refine (within_any _ _ _ _).mono ?_
        rintro e w1 ⟨rfl, rfl⟩
        rw [H1.out]
        go_wp2_with fail
        refine (within_any _ _ _ _).mono ?_
        rintro e w1 ⟨rfl, rfl⟩
        rw [H3.out]
        go_wp2_with fail
        go_loopw [28] (fun i wr => ∃ k : Nat, k ≤ x.syms.length ∧ i = .int .i64 k ∧ Hid ((List.range k).all (okAt x) = true) ∧ Below (w.heap.size + 1) (w.alloc (.cells #[.slice (some ⟨b, off, none⟩) x.syms.length c, .slice (some ⟨b', off', none⟩) x.ws.length c', .int .i64 x.var] 37)) wr) (fun i _ => x.syms.length - (intOf i).toNat)
        case atStart => exact ⟨0, Nat.zero_le _, rfl, rfl, Below.refl _ _⟩
        case round =>
          obtain ⟨k, hk, rfl, HX, hb⟩ := hrel
          have hbw : Below w.heap.size w wr := hW.trans (hb.mono (by simp))
          have hz := hb.size
          simp only [World.size_alloc] at hz
          have hz0 : w.heap.size < wr.heap.size := by omega
          have e10 : wr.cell? ⟨w.heap.size, 0, none⟩ = some (.slice (some ⟨b, off, none⟩) x.syms.length c) := (hb.cell (by simp)).trans (box1 _ _ _ _)
          have e11 : wr.cell? ⟨w.heap.size, 1, none⟩ = some (.slice (some ⟨b', off', none⟩) x.ws.length c') := (hb.cell (by simp)).trans (box1 _ _ _ _)
          have e12 : wr.cell? ⟨w.heap.size, 2, none⟩ = some (.int .i64 x.var) := (hb.cell (by simp)).trans (box1 _ _ _ _)
          by_cases hlt : k < x.syms.length
          · have hltw : k < x.ws.length := by rw [H2.out]; exact hlt
            obtain ⟨q0, q1⟩ := H4.out k hlt
            obtain ⟨p0, p1⟩ := H5.out k hltw
            replace q0 := (hbw.cell (p := ⟨b, off + k, none⟩) hbl).trans q0
            replace p0 := (hbw.cell (p := ⟨b', off' + k, none⟩) hbl').trans p0
            have hbr : b < wr.heap.size := Nat.lt_of_lt_of_le hbl hbw.size
            have hbr' : b' < wr.heap.size := Nat.lt_of_lt_of_le hbl' hbw.size
            have hkc : (k : Int) ≤ c := by omega
            have hsub : D.rd S wr (.slice (some ⟨b, off, none⟩) k c) (slOf strE (x.syms.take k)) := D.rd_keep (Keeps.all hbw) _ _ (sub_rd hS hbl (by omega) (by omega) (fun i hi => H4.out i hi))
            by_cases hs : symName x.syms[k] = true
            · have HS := hid hs
              by_cases hc : hasStr (x.syms.take k) x.syms[k] = true
              · have HC := hid hc
                clear hs hc
                have HN : Hid (okAt x k = false) := by rw [Hid, okAt_eq hlt hltw, HS.out, HC.out, Bool.not_true, Bool.and_false, Bool.false_and]
                have HV : Hid (x.ok = false) := by rw [Hid, HD.out, all_no hlt HN.out]
                go_wp2_with fail
                refine wp_region_B [fun v _ => v = .string x.syms[k], fun v _ => v = .bool true, fun v _ => v = .bool false, fun v _ => v = .bool false, fun v _ => v = .pointer (some ⟨w.heap.size, 0, none⟩), fun v _ => v = .slice (some ⟨b, off, none⟩) x.syms.length c, fun v _ => v = .int .i64 k, fun v _ => v = .slice (some ⟨b, off, none⟩) k c, fun v _ => v = .string x.syms[k], fun v _ => v = .bool true, fun v _ => v = .bool true, fun v _ => v = .bool true, fun v _ => v = undef, fun v _ => v = undef, fun v _ => v = undef, fun v _ => v = undef, fun v _ => v = undef, fun v _ => v = undef, fun v _ => v = undef, fun v _ => v = undef, fun v _ => v = undef, fun v _ => v = .bool true] _ (fun V => by simp [putAll, Act.put]; rfl) (by kernel_rfl) (by decide) (by simp) (by kernel_rfl) ?_ ?_ ?_
                · intro F hF
                  simp only [List.mem_cons, List.not_mem_nil, or_false] at hF
                  rcases hF with rfl | rfl | rfl | rfl | rfl | rfl | rfl | rfl | rfl | rfl | rfl | rfl | rfl | rfl | rfl | rfl | rfl | rfl | rfl | rfl | rfl | rfl
                  · exact stable_eq
                  · exact stable_eq
                  · exact stable_eq
                  · exact stable_eq
                  · exact stable_eq
                  · exact stable_eq
                  · exact stable_eq
                  · exact stable_eq
                  · exact stable_eq
                  · exact stable_eq
                  · exact stable_eq
                  · exact stable_eq
                  · exact stable_eq
                  · exact stable_eq
                  · exact stable_eq
                  · exact stable_eq
                  · exact stable_eq
                  · exact stable_eq
                  · exact stable_eq
                  · exact stable_eq
                  · exact stable_eq
                  · exact stable_eq
                · refine ⟨?_, ?_, ?_, ?_, ?_, ?_, ?_, ?_, ?_, ?_, ?_, ?_, ?_, ?_, ?_, ?_, ?_, ?_, ?_, ?_, ?_, ?_, trivial⟩
                  · intro V w1 hbR _
                    unfold Does
                    go_simp
                    exact ⟨Below.refl _ _, rfl⟩
                  · intro V w1 hbR ⟨f0, _⟩
                    replace f0 : V 0 = .string x.syms[k] := f0
                    obtain ⟨hc, hf⟩ := bcell hbR
                    try simp only [World.size_alloc, World.size_setCell] at hc hf
                    unfold Does
                    go_simp
                    exact sym_gives (isSymbol_any _ q1 w1) HS.out
                  · intro V w1 hbR ⟨f1, _⟩
                    replace f1 : V 1 = .bool true := f1
                    unfold Does
                    go_simp
                    exact ⟨Below.refl _ _, rfl⟩
                  · intro V w1 hbR ⟨f2, f1, _⟩
                    replace f1 : V 1 = .bool true := f1
                    replace f2 : V 2 = .bool false := f2
                    unfold Does
                    go_simp
                    exact ⟨Below.refl _ _, rfl⟩
                  · intro V w1 hbR ⟨f3, _⟩
                    replace f3 : V 3 = .bool false := f3
                    refine .inl ⟨_, f3, fun hg => ?_, fun hg => ?_⟩
                    · unfold Does
                      go_simp
                      exact ⟨Below.refl _ _, rfl⟩
                    · exact absurd rfl hg
                  · intro V w1 hbR ⟨f4, f3, _⟩
                    replace f3 : V 3 = .bool false := f3
                    replace f4 : V 4 = .pointer (some ⟨w.heap.size, 0, none⟩) := f4
                    refine .inl ⟨_, f3, fun hg => ?_, fun hg => ?_⟩
                    · obtain ⟨hc, hf⟩ := bcell hbR
                      try simp only [World.size_alloc, World.size_setCell] at hc hf
                      unfold Does
                      go_simp
                      exact ⟨Below.refl _ _, rfl⟩
                    · exact absurd rfl hg
                  · intro V w1 hbR ⟨f3, _⟩
                    replace f3 : V 3 = .bool false := f3
                    refine .inl ⟨_, f3, fun hg => ?_, fun hg => ?_⟩
                    · unfold Does
                      go_simp
                      exact ⟨Below.refl _ _, rfl⟩
                    · exact absurd rfl hg
                  · intro V w1 hbR ⟨f5, f6, f3, _⟩
                    replace f3 : V 3 = .bool false := f3
                    replace f5 : V 5 = .slice (some ⟨b, off, none⟩) x.syms.length c := f5
                    replace f6 : V 6 = .int .i64 k := f6
                    refine .inl ⟨_, f3, fun hg => ?_, fun hg => ?_⟩
                    · unfold Does
                      go_simp
                      exact ⟨Below.refl _ _, rfl⟩
                    · exact absurd rfl hg
                  · intro V w1 hbR ⟨f3, _⟩
                    replace f3 : V 3 = .bool false := f3
                    refine .inl ⟨_, f3, fun hg => ?_, fun hg => ?_⟩
                    · unfold Does
                      go_simp
                      exact ⟨Below.refl _ _, rfl⟩
                    · exact absurd rfl hg
                  · intro V w1 hbR ⟨f7, f8, f3, _, _⟩
                    replace f3 : V 3 = .bool false := f3
                    replace f7 : V 7 = .slice (some ⟨b, off, none⟩) k c := f7
                    replace f8 : V 8 = .string x.syms[k] := f8
                    refine .inl ⟨_, f3, fun hg => ?_, fun hg => ?_⟩
                    · obtain ⟨hc, hf⟩ := bcell hbR
                      try simp only [World.size_alloc, World.size_setCell] at hc hf
                      unfold Does
                      go_simp
                      refine (containsStr_any _ (D.rd_keep (Keeps.all hbR) _ _ hsub)).mono ?_; rintro e w4 ⟨rfl, rfl⟩; exact ⟨_, rfl, Below.refl _ _, congrArg Value.bool HC.out⟩
                    · exact absurd rfl hg
                  · intro V w1 hbR ⟨f3, f9, _⟩
                    replace f3 : V 3 = .bool false := f3
                    replace f9 : V 9 = .bool true := f9
                    unfold Does
                    go_simp
                    exact ⟨Below.refl _ _, rfl⟩
                  · intro V w1 hbR ⟨f10, f9, _⟩
                    replace f9 : V 9 = .bool true := f9
                    replace f10 : V 10 = .bool true := f10
                    unfold Does
                    go_simp
                    exact ⟨Below.refl _ _, rfl⟩
                  · intro V w1 hbR ⟨f11, _⟩
                    replace f11 : V 11 = .bool true := f11
                    refine .inl ⟨_, f11, fun hg => ?_, fun hg => ?_⟩
                    · exact absurd hg (by decide)
                    · rfl
                  · intro V w1 hbR ⟨f12, f11, _⟩
                    replace f11 : V 11 = .bool true := f11
                    replace f12 : V 12 = undef := f12
                    refine .inl ⟨_, f11, fun hg => ?_, fun hg => ?_⟩
                    · exact absurd hg (by decide)
                    · rfl
                  · intro V w1 hbR ⟨f11, _⟩
                    replace f11 : V 11 = .bool true := f11
                    refine .inl ⟨_, f11, fun hg => ?_, fun hg => ?_⟩
                    · exact absurd hg (by decide)
                    · rfl
                  · intro V w1 hbR ⟨f13, f14, f11, _⟩
                    replace f11 : V 11 = .bool true := f11
                    replace f13 : V 13 = undef := f13
                    replace f14 : V 14 = undef := f14
                    refine .inl ⟨_, f11, fun hg => ?_, fun hg => ?_⟩
                    · exact absurd hg (by decide)
                    · rfl
                  · intro V w1 hbR ⟨f15, f11, _⟩
                    replace f11 : V 11 = .bool true := f11
                    replace f15 : V 15 = undef := f15
                    refine .inl ⟨_, f11, fun hg => ?_, fun hg => ?_⟩
                    · exact absurd hg (by decide)
                    · rfl
                  · intro V w1 hbR ⟨f11, _⟩
                    replace f11 : V 11 = .bool true := f11
                    refine .inl ⟨_, f11, fun hg => ?_, fun hg => ?_⟩
                    · exact absurd hg (by decide)
                    · rfl
                  · intro V w1 hbR ⟨f17, f11, _⟩
                    replace f11 : V 11 = .bool true := f11
                    replace f17 : V 17 = undef := f17
                    refine .inl ⟨_, f11, fun hg => ?_, fun hg => ?_⟩
                    · exact absurd hg (by decide)
                    · rfl
                  · intro V w1 hbR ⟨f16, f18, f11, _, _⟩
                    replace f11 : V 11 = .bool true := f11
                    replace f16 : V 16 = undef := f16
                    replace f18 : V 18 = undef := f18
                    refine .inl ⟨_, f11, fun hg => ?_, fun hg => ?_⟩
                    · exact absurd hg (by decide)
                    · rfl
                  · intro V w1 hbR ⟨f19, f11, _⟩
                    replace f11 : V 11 = .bool true := f11
                    replace f19 : V 19 = undef := f19
                    refine .inl ⟨_, f11, fun hg => ?_, fun hg => ?_⟩
                    · exact absurd hg (by decide)
                    · rfl
                  · intro V w1 hbR ⟨f11, f20, _⟩
                    replace f11 : V 11 = .bool true := f11
                    replace f20 : V 20 = undef := f20
                    unfold Does
                    go_simp
                    exact ⟨Below.refl _ _, rfl⟩
                intro V w3 hbR hfR
                obtain ⟨f0, f1, f2, f3, f4, f5, f6, f7, f8, f9, f10, f11, f12, f13, f14, f15, f16, f17, f18, f19, f20, f21, _⟩ := hfR
                replace f0 : V 0 = .string x.syms[k] := f0
                replace f1 : V 1 = .bool true := f1
                replace f2 : V 2 = .bool false := f2
                replace f3 : V 3 = .bool false := f3
                replace f4 : V 4 = .pointer (some ⟨w.heap.size, 0, none⟩) := f4
                replace f5 : V 5 = .slice (some ⟨b, off, none⟩) x.syms.length c := f5
                replace f6 : V 6 = .int .i64 k := f6
                replace f7 : V 7 = .slice (some ⟨b, off, none⟩) k c := f7
                replace f8 : V 8 = .string x.syms[k] := f8
                replace f9 : V 9 = .bool true := f9
                replace f10 : V 10 = .bool true := f10
                replace f11 : V 11 = .bool true := f11
                replace f12 : V 12 = undef := f12
                replace f13 : V 13 = undef := f13
                replace f14 : V 14 = undef := f14
                replace f15 : V 15 = undef := f15
                replace f16 : V 16 = undef := f16
                replace f17 : V 17 = undef := f17
                replace f18 : V 18 = undef := f18
                replace f19 : V 19 = undef := f19
                replace f20 : V 20 = undef := f20
                replace f21 : V 21 = .bool true := f21
                simp only [f0, f1, f2, f3, f4, f5, f6, f7, f8, f9, f10, f11, f12, f13, f14, f15, f16, f17, f18, f19, f20, f21]
                clear f0 f1 f2 f3 f4 f5 f6 f7 f8 f9 f10 f11 f12 f13 f14 f15 f16 f17 f18 f19 f20 f21
                go_wp2_with fail
                go_ret
                exact Gives.mk (ret_bool HV.out.symm) (hbw.trans (hbR.mono hbw.size))
              · replace hc : hasStr (x.syms.take k) x.syms[k] = false := by simpa using hc
                have HC := hid hc
                by_cases hi : inB x.ws[k] x.var 100 = true
                · have HI := hid hi
                  have HN : Hid ((List.range (k + 1)).all (okAt x) = true) := by
                    rw [Hid, List.range_succ, List.all_append, HX.out, List.all_cons, List.all_nil, okAt_eq hlt hltw, hs, hc, hi]; rfl
                  clear hs hc hi
                  go_wp2_with fail
                  refine wp_region_B [fun v _ => v = .string x.syms[k], fun v _ => v = .bool true, fun v _ => v = .bool false, fun v _ => v = .bool false, fun v _ => v = .pointer (some ⟨w.heap.size, 0, none⟩), fun v _ => v = .slice (some ⟨b, off, none⟩) x.syms.length c, fun v _ => v = .int .i64 k, fun v _ => v = .slice (some ⟨b, off, none⟩) k c, fun v _ => v = .string x.syms[k], fun v _ => v = .bool false, fun v _ => v = .bool false, fun v _ => v = .bool false, fun v _ => v = .pointer (some ⟨w.heap.size, 1, none⟩), fun v _ => v = .slice (some ⟨b', off', none⟩) x.ws.length c', fun v _ => v = .int .i64 k, fun v _ => v = .pointer (some ⟨b', off' + k, none⟩), fun v _ => v = .int .i64 x.ws[k], fun v _ => v = .pointer (some ⟨w.heap.size, 2, none⟩), fun v _ => v = .int .i64 x.var, fun v _ => v = .bool true, fun v _ => v = .bool false, fun v _ => v = .bool false] _ (fun V => by simp [putAll, Act.put]; rfl) (by kernel_rfl) (by decide) (by simp) (by kernel_rfl) ?_ ?_ ?_
                  · intro F hF
                    simp only [List.mem_cons, List.not_mem_nil, or_false] at hF
                    rcases hF with rfl | rfl | rfl | rfl | rfl | rfl | rfl | rfl | rfl | rfl | rfl | rfl | rfl | rfl | rfl | rfl | rfl | rfl | rfl | rfl | rfl | rfl
                    · exact stable_eq
                    · exact stable_eq
                    · exact stable_eq
                    · exact stable_eq
                    · exact stable_eq
                    · exact stable_eq
                    · exact stable_eq
                    · exact stable_eq
                    · exact stable_eq
                    · exact stable_eq
                    · exact stable_eq
                    · exact stable_eq
                    · exact stable_eq
                    · exact stable_eq
                    · exact stable_eq
                    · exact stable_eq
                    · exact stable_eq
                    · exact stable_eq
                    · exact stable_eq
                    · exact stable_eq
                    · exact stable_eq
                    · exact stable_eq
                  · refine ⟨?_, ?_, ?_, ?_, ?_, ?_, ?_, ?_, ?_, ?_, ?_, ?_, ?_, ?_, ?_, ?_, ?_, ?_, ?_, ?_, ?_, ?_, trivial⟩
                    · intro V w1 hbR _
                      unfold Does
                      go_simp
                      exact ⟨Below.refl _ _, rfl⟩
                    · intro V w1 hbR ⟨f0, _⟩
                      replace f0 : V 0 = .string x.syms[k] := f0
                      obtain ⟨hc, hf⟩ := bcell hbR
                      try simp only [World.size_alloc, World.size_setCell] at hc hf
                      unfold Does
                      go_simp
                      exact sym_gives (isSymbol_any _ q1 w1) HS.out
                    · intro V w1 hbR ⟨f1, _⟩
                      replace f1 : V 1 = .bool true := f1
                      unfold Does
                      go_simp
                      exact ⟨Below.refl _ _, rfl⟩
                    · intro V w1 hbR ⟨f2, f1, _⟩
                      replace f1 : V 1 = .bool true := f1
                      replace f2 : V 2 = .bool false := f2
                      unfold Does
                      go_simp
                      exact ⟨Below.refl _ _, rfl⟩
                    · intro V w1 hbR ⟨f3, _⟩
                      replace f3 : V 3 = .bool false := f3
                      refine .inl ⟨_, f3, fun hg => ?_, fun hg => ?_⟩
                      · unfold Does
                        go_simp
                        exact ⟨Below.refl _ _, rfl⟩
                      · exact absurd rfl hg
                    · intro V w1 hbR ⟨f4, f3, _⟩
                      replace f3 : V 3 = .bool false := f3
                      replace f4 : V 4 = .pointer (some ⟨w.heap.size, 0, none⟩) := f4
                      refine .inl ⟨_, f3, fun hg => ?_, fun hg => ?_⟩
                      · obtain ⟨hc, hf⟩ := bcell hbR
                        try simp only [World.size_alloc, World.size_setCell] at hc hf
                        unfold Does
                        go_simp
                        exact ⟨Below.refl _ _, rfl⟩
                      · exact absurd rfl hg
                    · intro V w1 hbR ⟨f3, _⟩
                      replace f3 : V 3 = .bool false := f3
                      refine .inl ⟨_, f3, fun hg => ?_, fun hg => ?_⟩
                      · unfold Does
                        go_simp
                        exact ⟨Below.refl _ _, rfl⟩
                      · exact absurd rfl hg
                    · intro V w1 hbR ⟨f5, f6, f3, _⟩
                      replace f3 : V 3 = .bool false := f3
                      replace f5 : V 5 = .slice (some ⟨b, off, none⟩) x.syms.length c := f5
                      replace f6 : V 6 = .int .i64 k := f6
                      refine .inl ⟨_, f3, fun hg => ?_, fun hg => ?_⟩
                      · unfold Does
                        go_simp
                        exact ⟨Below.refl _ _, rfl⟩
                      · exact absurd rfl hg
                    · intro V w1 hbR ⟨f3, _⟩
                      replace f3 : V 3 = .bool false := f3
                      refine .inl ⟨_, f3, fun hg => ?_, fun hg => ?_⟩
                      · unfold Does
                        go_simp
                        exact ⟨Below.refl _ _, rfl⟩
                      · exact absurd rfl hg
                    · intro V w1 hbR ⟨f7, f8, f3, _, _⟩
                      replace f3 : V 3 = .bool false := f3
                      replace f7 : V 7 = .slice (some ⟨b, off, none⟩) k c := f7
                      replace f8 : V 8 = .string x.syms[k] := f8
                      refine .inl ⟨_, f3, fun hg => ?_, fun hg => ?_⟩
                      · obtain ⟨hc, hf⟩ := bcell hbR
                        try simp only [World.size_alloc, World.size_setCell] at hc hf
                        unfold Does
                        go_simp
                        refine (containsStr_any _ (D.rd_keep (Keeps.all hbR) _ _ hsub)).mono ?_; rintro e w4 ⟨rfl, rfl⟩; exact ⟨_, rfl, Below.refl _ _, congrArg Value.bool HC.out⟩
                      · exact absurd rfl hg
                    · intro V w1 hbR ⟨f3, f9, _⟩
                      replace f3 : V 3 = .bool false := f3
                      replace f9 : V 9 = .bool false := f9
                      unfold Does
                      go_simp
                      exact ⟨Below.refl _ _, rfl⟩
                    · intro V w1 hbR ⟨f10, f9, _⟩
                      replace f9 : V 9 = .bool false := f9
                      replace f10 : V 10 = .bool false := f10
                      unfold Does
                      go_simp
                      exact ⟨Below.refl _ _, rfl⟩
                    · intro V w1 hbR ⟨f11, _⟩
                      replace f11 : V 11 = .bool false := f11
                      refine .inl ⟨_, f11, fun hg => ?_, fun hg => ?_⟩
                      · unfold Does
                        go_simp
                        exact ⟨Below.refl _ _, rfl⟩
                      · exact absurd rfl hg
                    · intro V w1 hbR ⟨f12, f11, _⟩
                      replace f11 : V 11 = .bool false := f11
                      replace f12 : V 12 = .pointer (some ⟨w.heap.size, 1, none⟩) := f12
                      refine .inl ⟨_, f11, fun hg => ?_, fun hg => ?_⟩
                      · obtain ⟨hc, hf⟩ := bcell hbR
                        try simp only [World.size_alloc, World.size_setCell] at hc hf
                        unfold Does
                        go_simp
                        exact ⟨Below.refl _ _, rfl⟩
                      · exact absurd rfl hg
                    · intro V w1 hbR ⟨f11, _⟩
                      replace f11 : V 11 = .bool false := f11
                      refine .inl ⟨_, f11, fun hg => ?_, fun hg => ?_⟩
                      · unfold Does
                        go_simp
                        exact ⟨Below.refl _ _, rfl⟩
                      · exact absurd rfl hg
                    · intro V w1 hbR ⟨f13, f14, f11, _⟩
                      replace f11 : V 11 = .bool false := f11
                      replace f13 : V 13 = .slice (some ⟨b', off', none⟩) x.ws.length c' := f13
                      replace f14 : V 14 = .int .i64 k := f14
                      refine .inl ⟨_, f11, fun hg => ?_, fun hg => ?_⟩
                      · unfold Does
                        go_simp
                        exact ⟨Below.refl _ _, rfl⟩
                      · exact absurd rfl hg
                    · intro V w1 hbR ⟨f15, f11, _⟩
                      replace f11 : V 11 = .bool false := f11
                      replace f15 : V 15 = .pointer (some ⟨b', off' + k, none⟩) := f15
                      refine .inl ⟨_, f11, fun hg => ?_, fun hg => ?_⟩
                      · obtain ⟨hc, hf⟩ := bcell hbR
                        try simp only [World.size_alloc, World.size_setCell] at hc hf
                        unfold Does
                        go_simp
                        exact ⟨Below.refl _ _, rfl⟩
                      · exact absurd rfl hg
                    · intro V w1 hbR ⟨f11, _⟩
                      replace f11 : V 11 = .bool false := f11
                      refine .inl ⟨_, f11, fun hg => ?_, fun hg => ?_⟩
                      · unfold Does
                        go_simp
                        exact ⟨Below.refl _ _, rfl⟩
                      · exact absurd rfl hg
                    · intro V w1 hbR ⟨f17, f11, _⟩
                      replace f11 : V 11 = .bool false := f11
                      replace f17 : V 17 = .pointer (some ⟨w.heap.size, 2, none⟩) := f17
                      refine .inl ⟨_, f11, fun hg => ?_, fun hg => ?_⟩
                      · obtain ⟨hc, hf⟩ := bcell hbR
                        try simp only [World.size_alloc, World.size_setCell] at hc hf
                        unfold Does
                        go_simp
                        exact ⟨Below.refl _ _, rfl⟩
                      · exact absurd rfl hg
                    · intro V w1 hbR ⟨f16, f18, f11, _, _⟩
                      replace f11 : V 11 = .bool false := f11
                      replace f16 : V 16 = .int .i64 x.ws[k] := f16
                      replace f18 : V 18 = .int .i64 x.var := f18
                      refine .inl ⟨_, f11, fun hg => ?_, fun hg => ?_⟩
                      · obtain ⟨hc, hf⟩ := bcell hbR
                        try simp only [World.size_alloc, World.size_setCell] at hc hf
                        unfold Does
                        go_simp
                        refine (within_any _ _ _ w1).mono ?_; rintro e w4 ⟨rfl, rfl⟩; exact ⟨_, rfl, Below.refl _ _, congrArg Value.bool HI.out⟩
                      · exact absurd rfl hg
                    · intro V w1 hbR ⟨f19, f11, _⟩
                      replace f11 : V 11 = .bool false := f11
                      replace f19 : V 19 = .bool true := f19
                      refine .inl ⟨_, f11, fun hg => ?_, fun hg => ?_⟩
                      · unfold Does
                        go_simp
                        exact ⟨Below.refl _ _, rfl⟩
                      · exact absurd rfl hg
                    · intro V w1 hbR ⟨f11, f20, _⟩
                      replace f11 : V 11 = .bool false := f11
                      replace f20 : V 20 = .bool false := f20
                      unfold Does
                      go_simp
                      exact ⟨Below.refl _ _, rfl⟩
                  intro V w3 hbR hfR
                  obtain ⟨f0, f1, f2, f3, f4, f5, f6, f7, f8, f9, f10, f11, f12, f13, f14, f15, f16, f17, f18, f19, f20, f21, _⟩ := hfR
                  replace f0 : V 0 = .string x.syms[k] := f0
                  replace f1 : V 1 = .bool true := f1
                  replace f2 : V 2 = .bool false := f2
                  replace f3 : V 3 = .bool false := f3
                  replace f4 : V 4 = .pointer (some ⟨w.heap.size, 0, none⟩) := f4
                  replace f5 : V 5 = .slice (some ⟨b, off, none⟩) x.syms.length c := f5
                  replace f6 : V 6 = .int .i64 k := f6
                  replace f7 : V 7 = .slice (some ⟨b, off, none⟩) k c := f7
                  replace f8 : V 8 = .string x.syms[k] := f8
                  replace f9 : V 9 = .bool false := f9
                  replace f10 : V 10 = .bool false := f10
                  replace f11 : V 11 = .bool false := f11
                  replace f12 : V 12 = .pointer (some ⟨w.heap.size, 1, none⟩) := f12
                  replace f13 : V 13 = .slice (some ⟨b', off', none⟩) x.ws.length c' := f13
                  replace f14 : V 14 = .int .i64 k := f14
                  replace f15 : V 15 = .pointer (some ⟨b', off' + k, none⟩) := f15
                  replace f16 : V 16 = .int .i64 x.ws[k] := f16
                  replace f17 : V 17 = .pointer (some ⟨w.heap.size, 2, none⟩) := f17
                  replace f18 : V 18 = .int .i64 x.var := f18
                  replace f19 : V 19 = .bool true := f19
                  replace f20 : V 20 = .bool false := f20
                  replace f21 : V 21 = .bool false := f21
                  simp only [f0, f1, f2, f3, f4, f5, f6, f7, f8, f9, f10, f11, f12, f13, f14, f15, f16, f17, f18, f19, f20, f21]
                  clear f0 f1 f2 f3 f4 f5 f6 f7 f8 f9 f10 f11 f12 f13 f14 f15 f16 f17 f18 f19 f20 f21
                  go_wp2_with fail
                  go_roundw
                  case rel => exact ⟨k + 1, by omega, by go_num, HN, hb.trans (hbR.mono (by omega))⟩
                  case measure => simp [intOf]; omega
                · replace hi : inB x.ws[k] x.var 100 = false := by simpa using hi
                  have HI := hid hi
                  clear hs hc hi
                  have HN : Hid (okAt x k = false) := by rw [Hid, okAt_eq hlt hltw, HI.out, Bool.and_false]
                  have HV : Hid (x.ok = false) := by rw [Hid, HD.out, all_no hlt HN.out]
                  go_wp2_with fail
                  refine wp_region_B [fun v _ => v = .string x.syms[k], fun v _ => v = .bool true, fun v _ => v = .bool false, fun v _ => v = .bool false, fun v _ => v = .pointer (some ⟨w.heap.size, 0, none⟩), fun v _ => v = .slice (some ⟨b, off, none⟩) x.syms.length c, fun v _ => v = .int .i64 k, fun v _ => v = .slice (some ⟨b, off, none⟩) k c, fun v _ => v = .string x.syms[k], fun v _ => v = .bool false, fun v _ => v = .bool false, fun v _ => v = .bool false, fun v _ => v = .pointer (some ⟨w.heap.size, 1, none⟩), fun v _ => v = .slice (some ⟨b', off', none⟩) x.ws.length c', fun v _ => v = .int .i64 k, fun v _ => v = .pointer (some ⟨b', off' + k, none⟩), fun v _ => v = .int .i64 x.ws[k], fun v _ => v = .pointer (some ⟨w.heap.size, 2, none⟩), fun v _ => v = .int .i64 x.var, fun v _ => v = .bool false, fun v _ => v = .bool true, fun v _ => v = .bool true] _ (fun V => by simp [putAll, Act.put]; rfl) (by kernel_rfl) (by decide) (by simp) (by kernel_rfl) ?_ ?_ ?_
                  · intro F hF
                    simp only [List.mem_cons, List.not_mem_nil, or_false] at hF
                    rcases hF with rfl | rfl | rfl | rfl | rfl | rfl | rfl | rfl | rfl | rfl | rfl | rfl | rfl | rfl | rfl | rfl | rfl | rfl | rfl | rfl | rfl | rfl
                    · exact stable_eq
                    · exact stable_eq
                    · exact stable_eq
                    · exact stable_eq
                    · exact stable_eq
                    · exact stable_eq
                    · exact stable_eq
                    · exact stable_eq
                    · exact stable_eq
                    · exact stable_eq
                    · exact stable_eq
                    · exact stable_eq
                    · exact stable_eq
                    · exact stable_eq
                    · exact stable_eq
                    · exact stable_eq
                    · exact stable_eq
                    · exact stable_eq
                    · exact stable_eq
                    · exact stable_eq
                    · exact stable_eq
                    · exact stable_eq
                  · refine ⟨?_, ?_, ?_, ?_, ?_, ?_, ?_, ?_, ?_, ?_, ?_, ?_, ?_, ?_, ?_, ?_, ?_, ?_, ?_, ?_, ?_, ?_, trivial⟩
                    · intro V w1 hbR _
                      unfold Does
                      go_simp
                      exact ⟨Below.refl _ _, rfl⟩
                    · intro V w1 hbR ⟨f0, _⟩
                      replace f0 : V 0 = .string x.syms[k] := f0
                      obtain ⟨hc, hf⟩ := bcell hbR
                      try simp only [World.size_alloc, World.size_setCell] at hc hf
                      unfold Does
                      go_simp
                      exact sym_gives (isSymbol_any _ q1 w1) HS.out
                    · intro V w1 hbR ⟨f1, _⟩
                      replace f1 : V 1 = .bool true := f1
                      unfold Does
                      go_simp
                      exact ⟨Below.refl _ _, rfl⟩
                    · intro V w1 hbR ⟨f2, f1, _⟩
                      replace f1 : V 1 = .bool true := f1
                      replace f2 : V 2 = .bool false := f2
                      unfold Does
                      go_simp
                      exact ⟨Below.refl _ _, rfl⟩
                    · intro V w1 hbR ⟨f3, _⟩
                      replace f3 : V 3 = .bool false := f3
                      refine .inl ⟨_, f3, fun hg => ?_, fun hg => ?_⟩
                      · unfold Does
                        go_simp
                        exact ⟨Below.refl _ _, rfl⟩
                      · exact absurd rfl hg
                    · intro V w1 hbR ⟨f4, f3, _⟩
                      replace f3 : V 3 = .bool false := f3
                      replace f4 : V 4 = .pointer (some ⟨w.heap.size, 0, none⟩) := f4
                      refine .inl ⟨_, f3, fun hg => ?_, fun hg => ?_⟩
                      · obtain ⟨hc, hf⟩ := bcell hbR
                        try simp only [World.size_alloc, World.size_setCell] at hc hf
                        unfold Does
                        go_simp
                        exact ⟨Below.refl _ _, rfl⟩
                      · exact absurd rfl hg
                    · intro V w1 hbR ⟨f3, _⟩
                      replace f3 : V 3 = .bool false := f3
                      refine .inl ⟨_, f3, fun hg => ?_, fun hg => ?_⟩
                      · unfold Does
                        go_simp
                        exact ⟨Below.refl _ _, rfl⟩
                      · exact absurd rfl hg
                    · intro V w1 hbR ⟨f5, f6, f3, _⟩
                      replace f3 : V 3 = .bool false := f3
                      replace f5 : V 5 = .slice (some ⟨b, off, none⟩) x.syms.length c := f5
                      replace f6 : V 6 = .int .i64 k := f6
                      refine .inl ⟨_, f3, fun hg => ?_, fun hg => ?_⟩
                      · unfold Does
                        go_simp
                        exact ⟨Below.refl _ _, rfl⟩
                      · exact absurd rfl hg
                    · intro V w1 hbR ⟨f3, _⟩
                      replace f3 : V 3 = .bool false := f3
                      refine .inl ⟨_, f3, fun hg => ?_, fun hg => ?_⟩
                      · unfold Does
                        go_simp
                        exact ⟨Below.refl _ _, rfl⟩
                      · exact absurd rfl hg
                    · intro V w1 hbR ⟨f7, f8, f3, _, _⟩
                      replace f3 : V 3 = .bool false := f3
                      replace f7 : V 7 = .slice (some ⟨b, off, none⟩) k c := f7
                      replace f8 : V 8 = .string x.syms[k] := f8
                      refine .inl ⟨_, f3, fun hg => ?_, fun hg => ?_⟩
                      · obtain ⟨hc, hf⟩ := bcell hbR
                        try simp only [World.size_alloc, World.size_setCell] at hc hf
                        unfold Does
                        go_simp
                        refine (containsStr_any _ (D.rd_keep (Keeps.all hbR) _ _ hsub)).mono ?_; rintro e w4 ⟨rfl, rfl⟩; exact ⟨_, rfl, Below.refl _ _, congrArg Value.bool HC.out⟩
                      · exact absurd rfl hg
                    · intro V w1 hbR ⟨f3, f9, _⟩
                      replace f3 : V 3 = .bool false := f3
                      replace f9 : V 9 = .bool false := f9
                      unfold Does
                      go_simp
                      exact ⟨Below.refl _ _, rfl⟩
                    · intro V w1 hbR ⟨f10, f9, _⟩
                      replace f9 : V 9 = .bool false := f9
                      replace f10 : V 10 = .bool false := f10
                      unfold Does
                      go_simp
                      exact ⟨Below.refl _ _, rfl⟩
                    · intro V w1 hbR ⟨f11, _⟩
                      replace f11 : V 11 = .bool false := f11
                      refine .inl ⟨_, f11, fun hg => ?_, fun hg => ?_⟩
                      · unfold Does
                        go_simp
                        exact ⟨Below.refl _ _, rfl⟩
                      · exact absurd rfl hg
                    · intro V w1 hbR ⟨f12, f11, _⟩
                      replace f11 : V 11 = .bool false := f11
                      replace f12 : V 12 = .pointer (some ⟨w.heap.size, 1, none⟩) := f12
                      refine .inl ⟨_, f11, fun hg => ?_, fun hg => ?_⟩
                      · obtain ⟨hc, hf⟩ := bcell hbR
                        try simp only [World.size_alloc, World.size_setCell] at hc hf
                        unfold Does
                        go_simp
                        exact ⟨Below.refl _ _, rfl⟩
                      · exact absurd rfl hg
                    · intro V w1 hbR ⟨f11, _⟩
                      replace f11 : V 11 = .bool false := f11
                      refine .inl ⟨_, f11, fun hg => ?_, fun hg => ?_⟩
                      · unfold Does
                        go_simp
                        exact ⟨Below.refl _ _, rfl⟩
                      · exact absurd rfl hg
                    · intro V w1 hbR ⟨f13, f14, f11, _⟩
                      replace f11 : V 11 = .bool false := f11
                      replace f13 : V 13 = .slice (some ⟨b', off', none⟩) x.ws.length c' := f13
                      replace f14 : V 14 = .int .i64 k := f14
                      refine .inl ⟨_, f11, fun hg => ?_, fun hg => ?_⟩
                      · unfold Does
                        go_simp
                        exact ⟨Below.refl _ _, rfl⟩
                      · exact absurd rfl hg
                    · intro V w1 hbR ⟨f15, f11, _⟩
                      replace f11 : V 11 = .bool false := f11
                      replace f15 : V 15 = .pointer (some ⟨b', off' + k, none⟩) := f15
                      refine .inl ⟨_, f11, fun hg => ?_, fun hg => ?_⟩
                      · obtain ⟨hc, hf⟩ := bcell hbR
                        try simp only [World.size_alloc, World.size_setCell] at hc hf
                        unfold Does
                        go_simp
                        exact ⟨Below.refl _ _, rfl⟩
                      · exact absurd rfl hg
                    · intro V w1 hbR ⟨f11, _⟩
                      replace f11 : V 11 = .bool false := f11
                      refine .inl ⟨_, f11, fun hg => ?_, fun hg => ?_⟩
                      · unfold Does
                        go_simp
                        exact ⟨Below.refl _ _, rfl⟩
                      · exact absurd rfl hg
                    · intro V w1 hbR ⟨f17, f11, _⟩
                      replace f11 : V 11 = .bool false := f11
                      replace f17 : V 17 = .pointer (some ⟨w.heap.size, 2, none⟩) := f17
                      refine .inl ⟨_, f11, fun hg => ?_, fun hg => ?_⟩
                      · obtain ⟨hc, hf⟩ := bcell hbR
                        try simp only [World.size_alloc, World.size_setCell] at hc hf
                        unfold Does
                        go_simp
                        exact ⟨Below.refl _ _, rfl⟩
                      · exact absurd rfl hg
                    · intro V w1 hbR ⟨f16, f18, f11, _, _⟩
                      replace f11 : V 11 = .bool false := f11
                      replace f16 : V 16 = .int .i64 x.ws[k] := f16
                      replace f18 : V 18 = .int .i64 x.var := f18
                      refine .inl ⟨_, f11, fun hg => ?_, fun hg => ?_⟩
                      · obtain ⟨hc, hf⟩ := bcell hbR
                        try simp only [World.size_alloc, World.size_setCell] at hc hf
                        unfold Does
                        go_simp
                        refine (within_any _ _ _ w1).mono ?_; rintro e w4 ⟨rfl, rfl⟩; exact ⟨_, rfl, Below.refl _ _, congrArg Value.bool HI.out⟩
                      · exact absurd rfl hg
                    · intro V w1 hbR ⟨f19, f11, _⟩
                      replace f11 : V 11 = .bool false := f11
                      replace f19 : V 19 = .bool false := f19
                      refine .inl ⟨_, f11, fun hg => ?_, fun hg => ?_⟩
                      · unfold Does
                        go_simp
                        exact ⟨Below.refl _ _, rfl⟩
                      · exact absurd rfl hg
                    · intro V w1 hbR ⟨f11, f20, _⟩
                      replace f11 : V 11 = .bool false := f11
                      replace f20 : V 20 = .bool true := f20
                      unfold Does
                      go_simp
                      exact ⟨Below.refl _ _, rfl⟩
                  intro V w3 hbR hfR
                  obtain ⟨f0, f1, f2, f3, f4, f5, f6, f7, f8, f9, f10, f11, f12, f13, f14, f15, f16, f17, f18, f19, f20, f21, _⟩ := hfR
                  replace f0 : V 0 = .string x.syms[k] := f0
                  replace f1 : V 1 = .bool true := f1
                  replace f2 : V 2 = .bool false := f2
                  replace f3 : V 3 = .bool false := f3
                  replace f4 : V 4 = .pointer (some ⟨w.heap.size, 0, none⟩) := f4
                  replace f5 : V 5 = .slice (some ⟨b, off, none⟩) x.syms.length c := f5
                  replace f6 : V 6 = .int .i64 k := f6
                  replace f7 : V 7 = .slice (some ⟨b, off, none⟩) k c := f7
                  replace f8 : V 8 = .string x.syms[k] := f8
                  replace f9 : V 9 = .bool false := f9
                  replace f10 : V 10 = .bool false := f10
                  replace f11 : V 11 = .bool false := f11
                  replace f12 : V 12 = .pointer (some ⟨w.heap.size, 1, none⟩) := f12
                  replace f13 : V 13 = .slice (some ⟨b', off', none⟩) x.ws.length c' := f13
                  replace f14 : V 14 = .int .i64 k := f14
                  replace f15 : V 15 = .pointer (some ⟨b', off' + k, none⟩) := f15
                  replace f16 : V 16 = .int .i64 x.ws[k] := f16
                  replace f17 : V 17 = .pointer (some ⟨w.heap.size, 2, none⟩) := f17
                  replace f18 : V 18 = .int .i64 x.var := f18
                  replace f19 : V 19 = .bool false := f19
                  replace f20 : V 20 = .bool true := f20
                  replace f21 : V 21 = .bool true := f21
                  simp only [f0, f1, f2, f3, f4, f5, f6, f7, f8, f9, f10, f11, f12, f13, f14, f15, f16, f17, f18, f19, f20, f21]
                  clear f0 f1 f2 f3 f4 f5 f6 f7 f8 f9 f10 f11 f12 f13 f14 f15 f16 f17 f18 f19 f20 f21
                  go_wp2_with fail
                  go_ret
                  exact Gives.mk (ret_bool HV.out.symm) (hbw.trans (hbR.mono hbw.size))
            · replace hs : symName x.syms[k] = false := by simpa using hs
              have HS := hid hs
              clear hs
              have HN : Hid (okAt x k = false) := by rw [Hid, okAt_eq hlt hltw, HS.out, Bool.false_and, Bool.false_and]
              have HV : Hid (x.ok = false) := by rw [Hid, HD.out, all_no hlt HN.out]
              go_wp2_with fail
              refine wp_region_B [fun v _ => v = .string x.syms[k], fun v _ => v = .bool false, fun v _ => v = .bool true, fun v _ => v = .bool true, fun v _ => v = undef, fun v _ => v = undef, fun v _ => v = undef, fun v _ => v = undef, fun v _ => v = undef, fun v _ => v = undef, fun v _ => v = .bool true, fun v _ => v = .bool true, fun v _ => v = undef, fun v _ => v = undef, fun v _ => v = undef, fun v _ => v = undef, fun v _ => v = undef, fun v _ => v = undef, fun v _ => v = undef, fun v _ => v = undef, fun v _ => v = undef, fun v _ => v = .bool true] _ (fun V => by simp [putAll, Act.put]; rfl) (by kernel_rfl) (by decide) (by simp) (by kernel_rfl) ?_ ?_ ?_
              · intro F hF
                simp only [List.mem_cons, List.not_mem_nil, or_false] at hF
                rcases hF with rfl | rfl | rfl | rfl | rfl | rfl | rfl | rfl | rfl | rfl | rfl | rfl | rfl | rfl | rfl | rfl | rfl | rfl | rfl | rfl | rfl | rfl
                · exact stable_eq
                · exact stable_eq
                · exact stable_eq
                · exact stable_eq
                · exact stable_eq
                · exact stable_eq
                · exact stable_eq
                · exact stable_eq
                · exact stable_eq
                · exact stable_eq
                · exact stable_eq
                · exact stable_eq
                · exact stable_eq
                · exact stable_eq
                · exact stable_eq
                · exact stable_eq
                · exact stable_eq
                · exact stable_eq
                · exact stable_eq
                · exact stable_eq
                · exact stable_eq
                · exact stable_eq
              · refine ⟨?_, ?_, ?_, ?_, ?_, ?_, ?_, ?_, ?_, ?_, ?_, ?_, ?_, ?_, ?_, ?_, ?_, ?_, ?_, ?_, ?_, ?_, trivial⟩
                · intro V w1 hbR _
                  unfold Does
                  go_simp
                  exact ⟨Below.refl _ _, rfl⟩
                · intro V w1 hbR ⟨f0, _⟩
                  replace f0 : V 0 = .string x.syms[k] := f0
                  obtain ⟨hc, hf⟩ := bcell hbR
                  try simp only [World.size_alloc, World.size_setCell] at hc hf
                  unfold Does
                  go_simp
                  exact sym_gives (isSymbol_any _ q1 w1) HS.out
                · intro V w1 hbR ⟨f1, _⟩
                  replace f1 : V 1 = .bool false := f1
                  unfold Does
                  go_simp
                  exact ⟨Below.refl _ _, rfl⟩
                · intro V w1 hbR ⟨f2, f1, _⟩
                  replace f1 : V 1 = .bool false := f1
                  replace f2 : V 2 = .bool true := f2
                  unfold Does
                  go_simp
                  exact ⟨Below.refl _ _, rfl⟩
                · intro V w1 hbR ⟨f3, _⟩
                  replace f3 : V 3 = .bool true := f3
                  refine .inl ⟨_, f3, fun hg => ?_, fun hg => ?_⟩
                  · exact absurd hg (by decide)
                  · rfl
                · intro V w1 hbR ⟨f4, f3, _⟩
                  replace f3 : V 3 = .bool true := f3
                  replace f4 : V 4 = undef := f4
                  refine .inl ⟨_, f3, fun hg => ?_, fun hg => ?_⟩
                  · exact absurd hg (by decide)
                  · rfl
                · intro V w1 hbR ⟨f3, _⟩
                  replace f3 : V 3 = .bool true := f3
                  refine .inl ⟨_, f3, fun hg => ?_, fun hg => ?_⟩
                  · exact absurd hg (by decide)
                  · rfl
                · intro V w1 hbR ⟨f5, f6, f3, _⟩
                  replace f3 : V 3 = .bool true := f3
                  replace f5 : V 5 = undef := f5
                  replace f6 : V 6 = undef := f6
                  refine .inl ⟨_, f3, fun hg => ?_, fun hg => ?_⟩
                  · exact absurd hg (by decide)
                  · rfl
                · intro V w1 hbR ⟨f3, _⟩
                  replace f3 : V 3 = .bool true := f3
                  refine .inl ⟨_, f3, fun hg => ?_, fun hg => ?_⟩
                  · exact absurd hg (by decide)
                  · rfl
                · intro V w1 hbR ⟨f7, f8, f3, _, _⟩
                  replace f3 : V 3 = .bool true := f3
                  replace f7 : V 7 = undef := f7
                  replace f8 : V 8 = undef := f8
                  refine .inl ⟨_, f3, fun hg => ?_, fun hg => ?_⟩
                  · exact absurd hg (by decide)
                  · rfl
                · intro V w1 hbR ⟨f3, f9, _⟩
                  replace f3 : V 3 = .bool true := f3
                  replace f9 : V 9 = undef := f9
                  unfold Does
                  go_simp
                  exact ⟨Below.refl _ _, rfl⟩
                · intro V w1 hbR ⟨f10, f9, _⟩
                  replace f9 : V 9 = undef := f9
                  replace f10 : V 10 = .bool true := f10
                  unfold Does
                  go_simp
                  exact ⟨Below.refl _ _, rfl⟩
                · intro V w1 hbR ⟨f11, _⟩
                  replace f11 : V 11 = .bool true := f11
                  refine .inl ⟨_, f11, fun hg => ?_, fun hg => ?_⟩
                  · exact absurd hg (by decide)
                  · rfl
                · intro V w1 hbR ⟨f12, f11, _⟩
                  replace f11 : V 11 = .bool true := f11
                  replace f12 : V 12 = undef := f12
                  refine .inl ⟨_, f11, fun hg => ?_, fun hg => ?_⟩
                  · exact absurd hg (by decide)
                  · rfl
                · intro V w1 hbR ⟨f11, _⟩
                  replace f11 : V 11 = .bool true := f11
                  refine .inl ⟨_, f11, fun hg => ?_, fun hg => ?_⟩
                  · exact absurd hg (by decide)
                  · rfl
                · intro V w1 hbR ⟨f13, f14, f11, _⟩
                  replace f11 : V 11 = .bool true := f11
                  replace f13 : V 13 = undef := f13
                  replace f14 : V 14 = undef := f14
                  refine .inl ⟨_, f11, fun hg => ?_, fun hg => ?_⟩
                  · exact absurd hg (by decide)
                  · rfl
                · intro V w1 hbR ⟨f15, f11, _⟩
                  replace f11 : V 11 = .bool true := f11
                  replace f15 : V 15 = undef := f15
                  refine .inl ⟨_, f11, fun hg => ?_, fun hg => ?_⟩
                  · exact absurd hg (by decide)
                  · rfl
                · intro V w1 hbR ⟨f11, _⟩
                  replace f11 : V 11 = .bool true := f11
                  refine .inl ⟨_, f11, fun hg => ?_, fun hg => ?_⟩
                  · exact absurd hg (by decide)
                  · rfl
                · intro V w1 hbR ⟨f17, f11, _⟩
                  replace f11 : V 11 = .bool true := f11
                  replace f17 : V 17 = undef := f17
                  refine .inl ⟨_, f11, fun hg => ?_, fun hg => ?_⟩
                  · exact absurd hg (by decide)
                  · rfl
                · intro V w1 hbR ⟨f16, f18, f11, _, _⟩
                  replace f11 : V 11 = .bool true := f11
                  replace f16 : V 16 = undef := f16
                  replace f18 : V 18 = undef := f18
                  refine .inl ⟨_, f11, fun hg => ?_, fun hg => ?_⟩
                  · exact absurd hg (by decide)
                  · rfl
                · intro V w1 hbR ⟨f19, f11, _⟩
                  replace f11 : V 11 = .bool true := f11
                  replace f19 : V 19 = undef := f19
                  refine .inl ⟨_, f11, fun hg => ?_, fun hg => ?_⟩
                  · exact absurd hg (by decide)
                  · rfl
                · intro V w1 hbR ⟨f11, f20, _⟩
                  replace f11 : V 11 = .bool true := f11
                  replace f20 : V 20 = undef := f20
                  unfold Does
                  go_simp
                  exact ⟨Below.refl _ _, rfl⟩
              intro V w3 hbR hfR
              obtain ⟨f0, f1, f2, f3, f4, f5, f6, f7, f8, f9, f10, f11, f12, f13, f14, f15, f16, f17, f18, f19, f20, f21, _⟩ := hfR
              replace f0 : V 0 = .string x.syms[k] := f0
              replace f1 : V 1 = .bool false := f1
              replace f2 : V 2 = .bool true := f2
              replace f3 : V 3 = .bool true := f3
              replace f4 : V 4 = undef := f4
              replace f5 : V 5 = undef := f5
              replace f6 : V 6 = undef := f6
              replace f7 : V 7 = undef := f7
              replace f8 : V 8 = undef := f8
              replace f9 : V 9 = undef := f9
              replace f10 : V 10 = .bool true := f10
              replace f11 : V 11 = .bool true := f11
              replace f12 : V 12 = undef := f12
              replace f13 : V 13 = undef := f13
              replace f14 : V 14 = undef := f14
              replace f15 : V 15 = undef := f15
              replace f16 : V 16 = undef := f16
              replace f17 : V 17 = undef := f17
              replace f18 : V 18 = undef := f18
              replace f19 : V 19 = undef := f19
              replace f20 : V 20 = undef := f20
              replace f21 : V 21 = .bool true := f21
              simp only [f0, f1, f2, f3, f4, f5, f6, f7, f8, f9, f10, f11, f12, f13, f14, f15, f16, f17, f18, f19, f20, f21]
              clear f0 f1 f2 f3 f4 f5 f6 f7 f8 f9 f10 f11 f12 f13 f14 f15 f16 f17 f18 f19 f20 f21
              go_wp2_with fail
              go_ret
              exact Gives.mk (ret_bool HV.out.symm) (hbw.trans (hbR.mono hbw.size))
          · obtain rfl : k = x.syms.length := by omega
            have HV : Hid (x.ok = true) := by rw [Hid, HD.out, HX.out]
            go_wp2_with fail
            go_ret
            exact Gives.mk (ret_bool HV.out.symm) hbw
      · replace h3 : inB x.var 1 100 = false := by simpa using h3
        have HV : Hid (x.ok = false) := by rw [Hid, HD.out, h3]; simp
        have H1 := hid h1
        have H2 := hid h2
        have H3 := hid h3
        clear h1 h2 h3
        go_enter Try.func16, Try.ntmps16
        go_wp2_with fail
        refine (within_any _ _ _ _).mono ?_
        rintro e w1 ⟨rfl, rfl⟩
        rw [H1.out]
        go_wp2_with fail
        refine (within_any _ _ _ _).mono ?_
        rintro e w1 ⟨rfl, rfl⟩
        rw [H3.out]
        go_wp2_with fail
        go_ret
        exact Gives.mk (ret_bool HV.out.symm) hW
    · have hq2 : ((x.ws.length : Int) != (x.syms.length : Int)) = true := by simp; omega
      have hq2' : ((x.ws.length : Int) == (x.syms.length : Int)) = false := by simp; omega
      have HV : Hid (x.ok = false) := by rw [Hid, HD.out, decide_eq_false h2]; simp
      have H1 := hid h1
      clear h1 h2
      go_enter Try.func16, Try.ntmps16
      go_wp2_with fail
      refine (within_any _ _ _ _).mono ?_
      rintro e w1 ⟨rfl, rfl⟩
      rw [H1.out]
      go_wp2_with fail
      go_ret
      exact Gives.mk (ret_bool HV.out.symm) hW
  · replace h1 : inB x.syms.length 1 12 = false := by simpa using h1
    have HV : Hid (x.ok = false) := by rw [Hid, HD.out, h1]; simp
    have H1 := hid h1
    clear h1
    go_enter Try.func16, Try.ntmps16
    go_wp2_with fail
    refine (within_any _ _ _ _).mono ?_
    rintro e w1 ⟨rfl, rfl⟩
    rw [H1.out]
    go_wp2_with fail
    go_ret
    exact Gives.mk (ret_bool HV.out.symm) hW

set_option maxHeartbeats 4000000 in
theorem l6Good_any {x : Og} {S : Nat → Prop} {c0 c1 c2 : Value} {w : World} (hr : Og.at S w c0 c1 c2 x) (hbk : x.bulk ≤ 1048576) : Calls Try.prog 26 #[.agg #[c0, c1, c2]] w (Gives w (.bool x.ok)) := by
  have hls : x.syms.length ≤ 1048576 := by rw [Og.bulk, strBulk] at hbk; omega
  have hlw : x.ws.length ≤ 1048576 := by rw [Og.bulk, strBulk] at hbk; omega
  obtain ⟨⟨a, c, rfl⟩, ⟨a', c', rfl⟩, rfl⟩ := Og.at_form hr
  have hcc : x.syms.length ≤ c ∧ c ≤ maxLen ∨ True := .inr trivial
  have HD : Hid (x.ok = (inB x.syms.length 1 12 && decide (x.ws.length = x.syms.length) && inB x.var 1 100 && (List.range x.syms.length).all (okAt x))) := rfl
  have hW : Below w.heap.size w (w.alloc (.cells #[.slice a x.syms.length c, .slice a' x.ws.length c', .int .i64 x.var] 37)) := (Below.refl _ _).alloc (Nat.le_refl _) _
  have HR := hid hr
  clear hr
  by_cases h1 : inB x.syms.length 1 12 = true
  · by_cases h2 : x.ws.length = x.syms.length
    · have hq2 : ((x.ws.length : Int) != (x.syms.length : Int)) = false := by rw [h2]; simp
      have hq2' : ((x.ws.length : Int) == (x.syms.length : Int)) = true := by rw [h2]; simp
      by_cases h3 : inB x.var 1 100 = true
      · have HD2 : Hid (x.ok = (List.range x.syms.length).all (okAt x)) := by rw [Hid, HD.out, h1, decide_eq_true h2, h3]; rfl
        replace HD := HD2
        clear HD2
        have hne : x.syms ≠ [] := by intro e; rw [e] at h1; simp [inB] at h1
        have hne' : x.ws ≠ [] := by intro e; rw [e] at h2; simp at h2; exact hne (List.length_eq_zero_iff.1 h2.symm)
        obtain ⟨b, off, rfl, hS, hbl, hrr⟩ := strs_get HR.out.1 hne
        obtain ⟨b', off', rfl, hS', hbl', hrr'⟩ := ints_get HR.out.2.1 hne'
        obtain ⟨_, _, hcap, hcl, hcc2⟩ := slOf_form HR.out.1
        obtain ⟨rfl, rfl⟩ : _ = _ ∧ _ = _ := by injection hcap with e1 e2 e3; exact ⟨e1, e3⟩
        have H1 := hid h1
        have H2 := hid h2
        have H3 := hid h3
        have H4 := hid hrr
        have H5 := hid hrr'
        clear h1 h2 h3 hrr hrr' hne hne' hcap
        go_enter Try.func26, Try.ntmps26
        go_wp2_with fail
        refine (l1In_any _ _ _ _).mono ?_
        rintro e w1 ⟨rfl, rfl⟩
        rw [H1.out]
        go_wp2_with fail
        refine (l1In_any _ _ _ _).mono ?_
        rintro e w1 ⟨rfl, rfl⟩
        rw [H3.out]
        go_wp2_with fail
        go_loopw [3] (fun i wr => ∃ k : Nat, k ≤ x.syms.length ∧ i = .int .i64 k ∧ Hid ((List.range k).all (okAt x) = true) ∧ Below (w.heap.size + 1) (w.alloc (.cells #[.slice (some ⟨b, off, none⟩) x.syms.length c, .slice (some ⟨b', off', none⟩) x.ws.length c', .int .i64 x.var] 37)) wr) (fun i _ => x.syms.length - (intOf i).toNat)
        case atStart => exact ⟨0, Nat.zero_le _, rfl, rfl, Below.refl _ _⟩
        case round =>
          obtain ⟨k, hk, rfl, HX, hb⟩ := hrel
          have hbw : Below w.heap.size w wr := hW.trans (hb.mono (by simp))
          have hz := hb.size
          simp only [World.size_alloc] at hz
          have hz0 : w.heap.size < wr.heap.size := by omega
          have e10 : wr.cell? ⟨w.heap.size, 0, none⟩ = some (.slice (some ⟨b, off, none⟩) x.syms.length c) := (hb.cell (by simp)).trans (box1 _ _ _ _)
          have e11 : wr.cell? ⟨w.heap.size, 1, none⟩ = some (.slice (some ⟨b', off', none⟩) x.ws.length c') := (hb.cell (by simp)).trans (box1 _ _ _ _)
          have e12 : wr.cell? ⟨w.heap.size, 2, none⟩ = some (.int .i64 x.var) := (hb.cell (by simp)).trans (box1 _ _ _ _)
          by_cases hlt : k < x.syms.length
          · have hltw : k < x.ws.length := by rw [H2.out]; exact hlt
            obtain ⟨q0, q1⟩ := H4.out k hlt
            obtain ⟨p0, p1⟩ := H5.out k hltw
            replace q0 := (hbw.cell (p := ⟨b, off + k, none⟩) hbl).trans q0
            replace p0 := (hbw.cell (p := ⟨b', off' + k, none⟩) hbl').trans p0
            have hbr : b < wr.heap.size := Nat.lt_of_lt_of_le hbl hbw.size
            have hbr' : b' < wr.heap.size := Nat.lt_of_lt_of_le hbl' hbw.size
            have hkc : (k : Int) ≤ c := by omega
            have hsub : D.rd S wr (.slice (some ⟨b, off, none⟩) k c) (slOf strE (x.syms.take k)) := D.rd_keep (Keeps.all hbw) _ _ (sub_rd hS hbl (by omega) (by omega) (fun i hi => H4.out i hi))
            by_cases hs : symName x.syms[k] = true
            · have HS := hid hs
              by_cases hc : hasStr (x.syms.take k) x.syms[k] = true
              · have HC := hid hc
                clear hs hc
                have HN : Hid (okAt x k = false) := by rw [Hid, okAt_eq hlt hltw, HS.out, HC.out, Bool.not_true, Bool.and_false, Bool.false_and]
                have HV : Hid (x.ok = false) := by rw [Hid, HD.out, all_no hlt HN.out]
                go_wp2_with fail
                refine wp_region_B [fun v _ => v = .pointer (some ⟨w.heap.size, 0, none⟩), fun v _ => v = .slice (some ⟨b, off, none⟩) x.syms.length c, fun v _ => v = .int .i64 k, fun v _ => v = .pointer (some ⟨b, off + k, none⟩), fun v _ => v = .string x.syms[k], fun v _ => v = .bool true, fun v _ => v = .bool false, fun v _ => v = .bool false, fun v _ => v = .pointer (some ⟨w.heap.size, 0, none⟩), fun v _ => v = .slice (some ⟨b, off, none⟩) x.syms.length c, fun v _ => v = .int .i64 k, fun v _ => v = .slice (some ⟨b, off, none⟩) k c, fun v _ => v = .pointer (some ⟨w.heap.size, 0, none⟩), fun v _ => v = .slice (some ⟨b, off, none⟩) x.syms.length c, fun v _ => v = .int .i64 k, fun v _ => v = .pointer (some ⟨b, off + k, none⟩), fun v _ => v = .string x.syms[k], fun v _ => v = .bool true, fun v _ => v = .bool true, fun v _ => v = .bool true, fun v _ => v = undef, fun v _ => v = undef, fun v _ => v = undef, fun v _ => v = undef, fun v _ => v = undef, fun v _ => v = undef, fun v _ => v = undef, fun v _ => v = undef, fun v _ => v = undef, fun v _ => v = .bool true] _ (fun V => by simp [putAll, Act.put]; rfl) (by kernel_rfl) (by decide) (by simp) (by kernel_rfl) ?_ ?_ ?_
                · intro F hF
                  simp only [List.mem_cons, List.not_mem_nil, or_false] at hF
                  rcases hF with rfl | rfl | rfl | rfl | rfl | rfl | rfl | rfl | rfl | rfl | rfl | rfl | rfl | rfl | rfl | rfl | rfl | rfl | rfl | rfl | rfl | rfl | rfl | rfl | rfl | rfl | rfl | rfl | rfl | rfl
                  · exact stable_eq
                  · exact stable_eq
                  · exact stable_eq
                  · exact stable_eq
                  · exact stable_eq
                  · exact stable_eq
                  · exact stable_eq
                  · exact stable_eq
                  · exact stable_eq
                  · exact stable_eq
                  · exact stable_eq
                  · exact stable_eq
                  · exact stable_eq
                  · exact stable_eq
                  · exact stable_eq
                  · exact stable_eq
                  · exact stable_eq
                  · exact stable_eq
                  · exact stable_eq
                  · exact stable_eq
                  · exact stable_eq
                  · exact stable_eq
                  · exact stable_eq
                  · exact stable_eq
                  · exact stable_eq
                  · exact stable_eq
                  · exact stable_eq
                  · exact stable_eq
                  · exact stable_eq
                  · exact stable_eq
                · refine ⟨?_, ?_, ?_, ?_, ?_, ?_, ?_, ?_, ?_, ?_, ?_, ?_, ?_, ?_, ?_, ?_, ?_, ?_, ?_, ?_, ?_, ?_, ?_, ?_, ?_, ?_, ?_, ?_, ?_, ?_, trivial⟩
                  · intro V w1 hbR _
                    unfold Does
                    go_simp
                    exact ⟨Below.refl _ _, rfl⟩
                  · intro V w1 hbR ⟨f0, _⟩
                    replace f0 : V 0 = .pointer (some ⟨w.heap.size, 0, none⟩) := f0
                    obtain ⟨hc, hf⟩ := bcell hbR
                    try simp only [World.size_alloc, World.size_setCell] at hc hf
                    unfold Does
                    go_simp
                    exact ⟨Below.refl _ _, rfl⟩
                  · intro V w1 hbR _
                    unfold Does
                    go_simp
                    exact ⟨Below.refl _ _, rfl⟩
                  · intro V w1 hbR ⟨f1, f2, _⟩
                    replace f1 : V 1 = .slice (some ⟨b, off, none⟩) x.syms.length c := f1
                    replace f2 : V 2 = .int .i64 k := f2
                    unfold Does
                    go_simp
                    exact ⟨Below.refl _ _, rfl⟩
                  · intro V w1 hbR ⟨f3, _⟩
                    replace f3 : V 3 = .pointer (some ⟨b, off + k, none⟩) := f3
                    obtain ⟨hc, hf⟩ := bcell hbR
                    try simp only [World.size_alloc, World.size_setCell] at hc hf
                    unfold Does
                    go_simp
                    exact ⟨Below.refl _ _, rfl⟩
                  · intro V w1 hbR ⟨f4, _⟩
                    replace f4 : V 4 = .string x.syms[k] := f4
                    obtain ⟨hc, hf⟩ := bcell hbR
                    try simp only [World.size_alloc, World.size_setCell] at hc hf
                    unfold Does
                    go_simp
                    refine (l2Symbol_any _ q1 w1).mono ?_; rintro e w4 ⟨rfl, rfl⟩; exact ⟨_, rfl, Below.refl _ _, congrArg Value.bool HS.out⟩
                  · intro V w1 hbR ⟨f5, _⟩
                    replace f5 : V 5 = .bool true := f5
                    unfold Does
                    go_simp
                    exact ⟨Below.refl _ _, rfl⟩
                  · intro V w1 hbR ⟨f6, f5, _⟩
                    replace f5 : V 5 = .bool true := f5
                    replace f6 : V 6 = .bool false := f6
                    unfold Does
                    go_simp
                    exact ⟨Below.refl _ _, rfl⟩
                  · intro V w1 hbR ⟨f7, _⟩
                    replace f7 : V 7 = .bool false := f7
                    refine .inl ⟨_, f7, fun hg => ?_, fun hg => ?_⟩
                    · unfold Does
                      go_simp
                      exact ⟨Below.refl _ _, rfl⟩
                    · exact absurd rfl hg
                  · intro V w1 hbR ⟨f8, f7, _⟩
                    replace f7 : V 7 = .bool false := f7
                    replace f8 : V 8 = .pointer (some ⟨w.heap.size, 0, none⟩) := f8
                    refine .inl ⟨_, f7, fun hg => ?_, fun hg => ?_⟩
                    · obtain ⟨hc, hf⟩ := bcell hbR
                      try simp only [World.size_alloc, World.size_setCell] at hc hf
                      unfold Does
                      go_simp
                      exact ⟨Below.refl _ _, rfl⟩
                    · exact absurd rfl hg
                  · intro V w1 hbR ⟨f7, _⟩
                    replace f7 : V 7 = .bool false := f7
                    refine .inl ⟨_, f7, fun hg => ?_, fun hg => ?_⟩
                    · unfold Does
                      go_simp
                      exact ⟨Below.refl _ _, rfl⟩
                    · exact absurd rfl hg
                  · intro V w1 hbR ⟨f9, f10, f7, _⟩
                    replace f7 : V 7 = .bool false := f7
                    replace f9 : V 9 = .slice (some ⟨b, off, none⟩) x.syms.length c := f9
                    replace f10 : V 10 = .int .i64 k := f10
                    refine .inl ⟨_, f7, fun hg => ?_, fun hg => ?_⟩
                    · unfold Does
                      go_simp
                      exact ⟨Below.refl _ _, rfl⟩
                    · exact absurd rfl hg
                  · intro V w1 hbR ⟨f7, _⟩
                    replace f7 : V 7 = .bool false := f7
                    refine .inl ⟨_, f7, fun hg => ?_, fun hg => ?_⟩
                    · unfold Does
                      go_simp
                      exact ⟨Below.refl _ _, rfl⟩
                    · exact absurd rfl hg
                  · intro V w1 hbR ⟨f12, f7, _⟩
                    replace f7 : V 7 = .bool false := f7
                    replace f12 : V 12 = .pointer (some ⟨w.heap.size, 0, none⟩) := f12
                    refine .inl ⟨_, f7, fun hg => ?_, fun hg => ?_⟩
                    · obtain ⟨hc, hf⟩ := bcell hbR
                      try simp only [World.size_alloc, World.size_setCell] at hc hf
                      unfold Does
                      go_simp
                      exact ⟨Below.refl _ _, rfl⟩
                    · exact absurd rfl hg
                  · intro V w1 hbR ⟨f7, _⟩
                    replace f7 : V 7 = .bool false := f7
                    refine .inl ⟨_, f7, fun hg => ?_, fun hg => ?_⟩
                    · unfold Does
                      go_simp
                      exact ⟨Below.refl _ _, rfl⟩
                    · exact absurd rfl hg
                  · intro V w1 hbR ⟨f13, f14, f7, _⟩
                    replace f7 : V 7 = .bool false := f7
                    replace f13 : V 13 = .slice (some ⟨b, off, none⟩) x.syms.length c := f13
                    replace f14 : V 14 = .int .i64 k := f14
                    refine .inl ⟨_, f7, fun hg => ?_, fun hg => ?_⟩
                    · unfold Does
                      go_simp
                      exact ⟨Below.refl _ _, rfl⟩
                    · exact absurd rfl hg
                  · intro V w1 hbR ⟨f15, f7, _⟩
                    replace f7 : V 7 = .bool false := f7
                    replace f15 : V 15 = .pointer (some ⟨b, off + k, none⟩) := f15
                    refine .inl ⟨_, f7, fun hg => ?_, fun hg => ?_⟩
                    · obtain ⟨hc, hf⟩ := bcell hbR
                      try simp only [World.size_alloc, World.size_setCell] at hc hf
                      unfold Does
                      go_simp
                      exact ⟨Below.refl _ _, rfl⟩
                    · exact absurd rfl hg
                  · intro V w1 hbR ⟨f11, f16, f7, _, _⟩
                    replace f7 : V 7 = .bool false := f7
                    replace f11 : V 11 = .slice (some ⟨b, off, none⟩) k c := f11
                    replace f16 : V 16 = .string x.syms[k] := f16
                    refine .inl ⟨_, f7, fun hg => ?_, fun hg => ?_⟩
                    · obtain ⟨hc, hf⟩ := bcell hbR
                      try simp only [World.size_alloc, World.size_setCell] at hc hf
                      unfold Does
                      go_simp
                      refine (l2InD_any (D.rd_keep (Keeps.all hbR) _ _ hsub)).mono ?_; rintro e w4 ⟨rfl, rfl⟩; exact ⟨_, rfl, Below.refl _ _, congrArg Value.bool HC.out⟩
                    · exact absurd rfl hg
                  · intro V w1 hbR ⟨f7, f17, _⟩
                    replace f7 : V 7 = .bool false := f7
                    replace f17 : V 17 = .bool true := f17
                    unfold Does
                    go_simp
                    exact ⟨Below.refl _ _, rfl⟩
                  · intro V w1 hbR ⟨f18, f17, _⟩
                    replace f17 : V 17 = .bool true := f17
                    replace f18 : V 18 = .bool true := f18
                    unfold Does
                    go_simp
                    exact ⟨Below.refl _ _, rfl⟩
                  · intro V w1 hbR ⟨f19, _⟩
                    replace f19 : V 19 = .bool true := f19
                    refine .inl ⟨_, f19, fun hg => ?_, fun hg => ?_⟩
                    · exact absurd hg (by decide)
                    · rfl
                  · intro V w1 hbR ⟨f20, f19, _⟩
                    replace f19 : V 19 = .bool true := f19
                    replace f20 : V 20 = undef := f20
                    refine .inl ⟨_, f19, fun hg => ?_, fun hg => ?_⟩
                    · exact absurd hg (by decide)
                    · rfl
                  · intro V w1 hbR ⟨f19, _⟩
                    replace f19 : V 19 = .bool true := f19
                    refine .inl ⟨_, f19, fun hg => ?_, fun hg => ?_⟩
                    · exact absurd hg (by decide)
                    · rfl
                  · intro V w1 hbR ⟨f21, f22, f19, _⟩
                    replace f19 : V 19 = .bool true := f19
                    replace f21 : V 21 = undef := f21
                    replace f22 : V 22 = undef := f22
                    refine .inl ⟨_, f19, fun hg => ?_, fun hg => ?_⟩
                    · exact absurd hg (by decide)
                    · rfl
                  · intro V w1 hbR ⟨f23, f19, _⟩
                    replace f19 : V 19 = .bool true := f19
                    replace f23 : V 23 = undef := f23
                    refine .inl ⟨_, f19, fun hg => ?_, fun hg => ?_⟩
                    · exact absurd hg (by decide)
                    · rfl
                  · intro V w1 hbR ⟨f19, _⟩
                    replace f19 : V 19 = .bool true := f19
                    refine .inl ⟨_, f19, fun hg => ?_, fun hg => ?_⟩
                    · exact absurd hg (by decide)
                    · rfl
                  · intro V w1 hbR ⟨f25, f19, _⟩
                    replace f19 : V 19 = .bool true := f19
                    replace f25 : V 25 = undef := f25
                    refine .inl ⟨_, f19, fun hg => ?_, fun hg => ?_⟩
                    · exact absurd hg (by decide)
                    · rfl
                  · intro V w1 hbR ⟨f24, f26, f19, _, _⟩
                    replace f19 : V 19 = .bool true := f19
                    replace f24 : V 24 = undef := f24
                    replace f26 : V 26 = undef := f26
                    refine .inl ⟨_, f19, fun hg => ?_, fun hg => ?_⟩
                    · exact absurd hg (by decide)
                    · rfl
                  · intro V w1 hbR ⟨f27, f19, _⟩
                    replace f19 : V 19 = .bool true := f19
                    replace f27 : V 27 = undef := f27
                    refine .inl ⟨_, f19, fun hg => ?_, fun hg => ?_⟩
                    · exact absurd hg (by decide)
                    · rfl
                  · intro V w1 hbR ⟨f19, f28, _⟩
                    replace f19 : V 19 = .bool true := f19
                    replace f28 : V 28 = undef := f28
                    unfold Does
                    go_simp
                    exact ⟨Below.refl _ _, rfl⟩
                intro V w3 hbR hfR
                obtain ⟨f0, f1, f2, f3, f4, f5, f6, f7, f8, f9, f10, f11, f12, f13, f14, f15, f16, f17, f18, f19, f20, f21, f22, f23, f24, f25, f26, f27, f28, f29, _⟩ := hfR
                replace f0 : V 0 = .pointer (some ⟨w.heap.size, 0, none⟩) := f0
                replace f1 : V 1 = .slice (some ⟨b, off, none⟩) x.syms.length c := f1
                replace f2 : V 2 = .int .i64 k := f2
                replace f3 : V 3 = .pointer (some ⟨b, off + k, none⟩) := f3
                replace f4 : V 4 = .string x.syms[k] := f4
                replace f5 : V 5 = .bool true := f5
                replace f6 : V 6 = .bool false := f6
                replace f7 : V 7 = .bool false := f7
                replace f8 : V 8 = .pointer (some ⟨w.heap.size, 0, none⟩) := f8
                replace f9 : V 9 = .slice (some ⟨b, off, none⟩) x.syms.length c := f9
                replace f10 : V 10 = .int .i64 k := f10
                replace f11 : V 11 = .slice (some ⟨b, off, none⟩) k c := f11
                replace f12 : V 12 = .pointer (some ⟨w.heap.size, 0, none⟩) := f12
                replace f13 : V 13 = .slice (some ⟨b, off, none⟩) x.syms.length c := f13
                replace f14 : V 14 = .int .i64 k := f14
                replace f15 : V 15 = .pointer (some ⟨b, off + k, none⟩) := f15
                replace f16 : V 16 = .string x.syms[k] := f16
                replace f17 : V 17 = .bool true := f17
                replace f18 : V 18 = .bool true := f18
                replace f19 : V 19 = .bool true := f19
                replace f20 : V 20 = undef := f20
                replace f21 : V 21 = undef := f21
                replace f22 : V 22 = undef := f22
                replace f23 : V 23 = undef := f23
                replace f24 : V 24 = undef := f24
                replace f25 : V 25 = undef := f25
                replace f26 : V 26 = undef := f26
                replace f27 : V 27 = undef := f27
                replace f28 : V 28 = undef := f28
                replace f29 : V 29 = .bool true := f29
                simp only [f0, f1, f2, f3, f4, f5, f6, f7, f8, f9, f10, f11, f12, f13, f14, f15, f16, f17, f18, f19, f20, f21, f22, f23, f24, f25, f26, f27, f28, f29]
                clear f0 f1 f2 f3 f4 f5 f6 f7 f8 f9 f10 f11 f12 f13 f14 f15 f16 f17 f18 f19 f20 f21 f22 f23 f24 f25 f26 f27 f28 f29
                go_wp2_with fail
                go_ret
                exact Gives.mk (ret_bool HV.out.symm) (hbw.trans (hbR.mono hbw.size))
              · replace hc : hasStr (x.syms.take k) x.syms[k] = false := by simpa using hc
                have HC := hid hc
                by_cases hi : inB x.ws[k] x.var 100 = true
                · have HI := hid hi
                  have HN : Hid ((List.range (k + 1)).all (okAt x) = true) := by
                    rw [Hid, List.range_succ, List.all_append, HX.out, List.all_cons, List.all_nil, okAt_eq hlt hltw, hs, hc, hi]; rfl
                  clear hs hc hi
                  go_wp2_with fail
                  refine wp_region_B [fun v _ => v = .pointer (some ⟨w.heap.size, 0, none⟩), fun v _ => v = .slice (some ⟨b, off, none⟩) x.syms.length c, fun v _ => v = .int .i64 k, fun v _ => v = .pointer (some ⟨b, off + k, none⟩), fun v _ => v = .string x.syms[k], fun v _ => v = .bool true, fun v _ => v = .bool false, fun v _ => v = .bool false, fun v _ => v = .pointer (some ⟨w.heap.size, 0, none⟩), fun v _ => v = .slice (some ⟨b, off, none⟩) x.syms.length c, fun v _ => v = .int .i64 k, fun v _ => v = .slice (some ⟨b, off, none⟩) k c, fun v _ => v = .pointer (some ⟨w.heap.size, 0, none⟩), fun v _ => v = .slice (some ⟨b, off, none⟩) x.syms.length c, fun v _ => v = .int .i64 k, fun v _ => v = .pointer (some ⟨b, off + k, none⟩), fun v _ => v = .string x.syms[k], fun v _ => v = .bool false, fun v _ => v = .bool false, fun v _ => v = .bool false, fun v _ => v = .pointer (some ⟨w.heap.size, 1, none⟩), fun v _ => v = .slice (some ⟨b', off', none⟩) x.ws.length c', fun v _ => v = .int .i64 k, fun v _ => v = .pointer (some ⟨b', off' + k, none⟩), fun v _ => v = .int .i64 x.ws[k], fun v _ => v = .pointer (some ⟨w.heap.size, 2, none⟩), fun v _ => v = .int .i64 x.var, fun v _ => v = .bool true, fun v _ => v = .bool false, fun v _ => v = .bool false] _ (fun V => by simp [putAll, Act.put]; rfl) (by kernel_rfl) (by decide) (by simp) (by kernel_rfl) ?_ ?_ ?_
                  · intro F hF
                    simp only [List.mem_cons, List.not_mem_nil, or_false] at hF
                    rcases hF with rfl | rfl | rfl | rfl | rfl | rfl | rfl | rfl | rfl | rfl | rfl | rfl | rfl | rfl | rfl | rfl | rfl | rfl | rfl | rfl | rfl | rfl | rfl | rfl | rfl | rfl | rfl | rfl | rfl | rfl
                    · exact stable_eq
                    · exact stable_eq
                    · exact stable_eq
                    · exact stable_eq
                    · exact stable_eq
                    · exact stable_eq
                    · exact stable_eq
                    · exact stable_eq
                    · exact stable_eq
                    · exact stable_eq
                    · exact stable_eq
                    · exact stable_eq
                    · exact stable_eq
                    · exact stable_eq
                    · exact stable_eq
                    · exact stable_eq
                    · exact stable_eq
                    · exact stable_eq
                    · exact stable_eq
                    · exact stable_eq
                    · exact stable_eq
                    · exact stable_eq
                    · exact stable_eq
                    · exact stable_eq
                    · exact stable_eq
                    · exact stable_eq
                    · exact stable_eq
                    · exact stable_eq
                    · exact stable_eq
                    · exact stable_eq
                  · refine ⟨?_, ?_, ?_, ?_, ?_, ?_, ?_, ?_, ?_, ?_, ?_, ?_, ?_, ?_, ?_, ?_, ?_, ?_, ?_, ?_, ?_, ?_, ?_, ?_, ?_, ?_, ?_, ?_, ?_, ?_, trivial⟩
                    · intro V w1 hbR _
                      unfold Does
                      go_simp
                      exact ⟨Below.refl _ _, rfl⟩
                    · intro V w1 hbR ⟨f0, _⟩
                      replace f0 : V 0 = .pointer (some ⟨w.heap.size, 0, none⟩) := f0
                      obtain ⟨hc, hf⟩ := bcell hbR
                      try simp only [World.size_alloc, World.size_setCell] at hc hf
                      unfold Does
                      go_simp
                      exact ⟨Below.refl _ _, rfl⟩
                    · intro V w1 hbR _
                      unfold Does
                      go_simp
                      exact ⟨Below.refl _ _, rfl⟩
                    · intro V w1 hbR ⟨f1, f2, _⟩
                      replace f1 : V 1 = .slice (some ⟨b, off, none⟩) x.syms.length c := f1
                      replace f2 : V 2 = .int .i64 k := f2
                      unfold Does
                      go_simp
                      exact ⟨Below.refl _ _, rfl⟩
                    · intro V w1 hbR ⟨f3, _⟩
                      replace f3 : V 3 = .pointer (some ⟨b, off + k, none⟩) := f3
                      obtain ⟨hc, hf⟩ := bcell hbR
                      try simp only [World.size_alloc, World.size_setCell] at hc hf
                      unfold Does
                      go_simp
                      exact ⟨Below.refl _ _, rfl⟩
                    · intro V w1 hbR ⟨f4, _⟩
                      replace f4 : V 4 = .string x.syms[k] := f4
                      obtain ⟨hc, hf⟩ := bcell hbR
                      try simp only [World.size_alloc, World.size_setCell] at hc hf
                      unfold Does
                      go_simp
                      refine (l2Symbol_any _ q1 w1).mono ?_; rintro e w4 ⟨rfl, rfl⟩; exact ⟨_, rfl, Below.refl _ _, congrArg Value.bool HS.out⟩
                    · intro V w1 hbR ⟨f5, _⟩
                      replace f5 : V 5 = .bool true := f5
                      unfold Does
                      go_simp
                      exact ⟨Below.refl _ _, rfl⟩
                    · intro V w1 hbR ⟨f6, f5, _⟩
                      replace f5 : V 5 = .bool true := f5
                      replace f6 : V 6 = .bool false := f6
                      unfold Does
                      go_simp
                      exact ⟨Below.refl _ _, rfl⟩
                    · intro V w1 hbR ⟨f7, _⟩
                      replace f7 : V 7 = .bool false := f7
                      refine .inl ⟨_, f7, fun hg => ?_, fun hg => ?_⟩
                      · unfold Does
                        go_simp
                        exact ⟨Below.refl _ _, rfl⟩
                      · exact absurd rfl hg
                    · intro V w1 hbR ⟨f8, f7, _⟩
                      replace f7 : V 7 = .bool false := f7
                      replace f8 : V 8 = .pointer (some ⟨w.heap.size, 0, none⟩) := f8
                      refine .inl ⟨_, f7, fun hg => ?_, fun hg => ?_⟩
                      · obtain ⟨hc, hf⟩ := bcell hbR
                        try simp only [World.size_alloc, World.size_setCell] at hc hf
                        unfold Does
                        go_simp
                        exact ⟨Below.refl _ _, rfl⟩
                      · exact absurd rfl hg
                    · intro V w1 hbR ⟨f7, _⟩
                      replace f7 : V 7 = .bool false := f7
                      refine .inl ⟨_, f7, fun hg => ?_, fun hg => ?_⟩
                      · unfold Does
                        go_simp
                        exact ⟨Below.refl _ _, rfl⟩
                      · exact absurd rfl hg
                    · intro V w1 hbR ⟨f9, f10, f7, _⟩
                      replace f7 : V 7 = .bool false := f7
                      replace f9 : V 9 = .slice (some ⟨b, off, none⟩) x.syms.length c := f9
                      replace f10 : V 10 = .int .i64 k := f10
                      refine .inl ⟨_, f7, fun hg => ?_, fun hg => ?_⟩
                      · unfold Does
                        go_simp
                        exact ⟨Below.refl _ _, rfl⟩
                      · exact absurd rfl hg
                    · intro V w1 hbR ⟨f7, _⟩
                      replace f7 : V 7 = .bool false := f7
                      refine .inl ⟨_, f7, fun hg => ?_, fun hg => ?_⟩
                      · unfold Does
                        go_simp
                        exact ⟨Below.refl _ _, rfl⟩
                      · exact absurd rfl hg
                    · intro V w1 hbR ⟨f12, f7, _⟩
                      replace f7 : V 7 = .bool false := f7
                      replace f12 : V 12 = .pointer (some ⟨w.heap.size, 0, none⟩) := f12
                      refine .inl ⟨_, f7, fun hg => ?_, fun hg => ?_⟩
                      · obtain ⟨hc, hf⟩ := bcell hbR
                        try simp only [World.size_alloc, World.size_setCell] at hc hf
                        unfold Does
                        go_simp
                        exact ⟨Below.refl _ _, rfl⟩
                      · exact absurd rfl hg
                    · intro V w1 hbR ⟨f7, _⟩
                      replace f7 : V 7 = .bool false := f7
                      refine .inl ⟨_, f7, fun hg => ?_, fun hg => ?_⟩
                      · unfold Does
                        go_simp
                        exact ⟨Below.refl _ _, rfl⟩
                      · exact absurd rfl hg
                    · intro V w1 hbR ⟨f13, f14, f7, _⟩
                      replace f7 : V 7 = .bool false := f7
                      replace f13 : V 13 = .slice (some ⟨b, off, none⟩) x.syms.length c := f13
                      replace f14 : V 14 = .int .i64 k := f14
                      refine .inl ⟨_, f7, fun hg => ?_, fun hg => ?_⟩
                      · unfold Does
                        go_simp
                        exact ⟨Below.refl _ _, rfl⟩
                      · exact absurd rfl hg
                    · intro V w1 hbR ⟨f15, f7, _⟩
                      replace f7 : V 7 = .bool false := f7
                      replace f15 : V 15 = .pointer (some ⟨b, off + k, none⟩) := f15
                      refine .inl ⟨_, f7, fun hg => ?_, fun hg => ?_⟩
                      · obtain ⟨hc, hf⟩ := bcell hbR
                        try simp only [World.size_alloc, World.size_setCell] at hc hf
                        unfold Does
                        go_simp
                        exact ⟨Below.refl _ _, rfl⟩
                      · exact absurd rfl hg
                    · intro V w1 hbR ⟨f11, f16, f7, _, _⟩
                      replace f7 : V 7 = .bool false := f7
                      replace f11 : V 11 = .slice (some ⟨b, off, none⟩) k c := f11
                      replace f16 : V 16 = .string x.syms[k] := f16
                      refine .inl ⟨_, f7, fun hg => ?_, fun hg => ?_⟩
                      · obtain ⟨hc, hf⟩ := bcell hbR
                        try simp only [World.size_alloc, World.size_setCell] at hc hf
                        unfold Does
                        go_simp
                        refine (l2InD_any (D.rd_keep (Keeps.all hbR) _ _ hsub)).mono ?_; rintro e w4 ⟨rfl, rfl⟩; exact ⟨_, rfl, Below.refl _ _, congrArg Value.bool HC.out⟩
                      · exact absurd rfl hg
                    · intro V w1 hbR ⟨f7, f17, _⟩
                      replace f7 : V 7 = .bool false := f7
                      replace f17 : V 17 = .bool false := f17
                      unfold Does
                      go_simp
                      exact ⟨Below.refl _ _, rfl⟩
                    · intro V w1 hbR ⟨f18, f17, _⟩
                      replace f17 : V 17 = .bool false := f17
                      replace f18 : V 18 = .bool false := f18
                      unfold Does
                      go_simp
                      exact ⟨Below.refl _ _, rfl⟩
                    · intro V w1 hbR ⟨f19, _⟩
                      replace f19 : V 19 = .bool false := f19
                      refine .inl ⟨_, f19, fun hg => ?_, fun hg => ?_⟩
                      · unfold Does
                        go_simp
                        exact ⟨Below.refl _ _, rfl⟩
                      · exact absurd rfl hg
                    · intro V w1 hbR ⟨f20, f19, _⟩
                      replace f19 : V 19 = .bool false := f19
                      replace f20 : V 20 = .pointer (some ⟨w.heap.size, 1, none⟩) := f20
                      refine .inl ⟨_, f19, fun hg => ?_, fun hg => ?_⟩
                      · obtain ⟨hc, hf⟩ := bcell hbR
                        try simp only [World.size_alloc, World.size_setCell] at hc hf
                        unfold Does
                        go_simp
                        exact ⟨Below.refl _ _, rfl⟩
                      · exact absurd rfl hg
                    · intro V w1 hbR ⟨f19, _⟩
                      replace f19 : V 19 = .bool false := f19
                      refine .inl ⟨_, f19, fun hg => ?_, fun hg => ?_⟩
                      · unfold Does
                        go_simp
                        exact ⟨Below.refl _ _, rfl⟩
                      · exact absurd rfl hg
                    · intro V w1 hbR ⟨f21, f22, f19, _⟩
                      replace f19 : V 19 = .bool false := f19
                      replace f21 : V 21 = .slice (some ⟨b', off', none⟩) x.ws.length c' := f21
                      replace f22 : V 22 = .int .i64 k := f22
                      refine .inl ⟨_, f19, fun hg => ?_, fun hg => ?_⟩
                      · unfold Does
                        go_simp
                        exact ⟨Below.refl _ _, rfl⟩
                      · exact absurd rfl hg
                    · intro V w1 hbR ⟨f23, f19, _⟩
                      replace f19 : V 19 = .bool false := f19
                      replace f23 : V 23 = .pointer (some ⟨b', off' + k, none⟩) := f23
                      refine .inl ⟨_, f19, fun hg => ?_, fun hg => ?_⟩
                      · obtain ⟨hc, hf⟩ := bcell hbR
                        try simp only [World.size_alloc, World.size_setCell] at hc hf
                        unfold Does
                        go_simp
                        exact ⟨Below.refl _ _, rfl⟩
                      · exact absurd rfl hg
                    · intro V w1 hbR ⟨f19, _⟩
                      replace f19 : V 19 = .bool false := f19
                      refine .inl ⟨_, f19, fun hg => ?_, fun hg => ?_⟩
                      · unfold Does
                        go_simp
                        exact ⟨Below.refl _ _, rfl⟩
                      · exact absurd rfl hg
                    · intro V w1 hbR ⟨f25, f19, _⟩
                      replace f19 : V 19 = .bool false := f19
                      replace f25 : V 25 = .pointer (some ⟨w.heap.size, 2, none⟩) := f25
                      refine .inl ⟨_, f19, fun hg => ?_, fun hg => ?_⟩
                      · obtain ⟨hc, hf⟩ := bcell hbR
                        try simp only [World.size_alloc, World.size_setCell] at hc hf
                        unfold Does
                        go_simp
                        exact ⟨Below.refl _ _, rfl⟩
                      · exact absurd rfl hg
                    · intro V w1 hbR ⟨f24, f26, f19, _, _⟩
                      replace f19 : V 19 = .bool false := f19
                      replace f24 : V 24 = .int .i64 x.ws[k] := f24
                      replace f26 : V 26 = .int .i64 x.var := f26
                      refine .inl ⟨_, f19, fun hg => ?_, fun hg => ?_⟩
                      · obtain ⟨hc, hf⟩ := bcell hbR
                        try simp only [World.size_alloc, World.size_setCell] at hc hf
                        unfold Does
                        go_simp
                        refine (l1In_any _ _ _ w1).mono ?_; rintro e w4 ⟨rfl, rfl⟩; exact ⟨_, rfl, Below.refl _ _, congrArg Value.bool HI.out⟩
                      · exact absurd rfl hg
                    · intro V w1 hbR ⟨f27, f19, _⟩
                      replace f19 : V 19 = .bool false := f19
                      replace f27 : V 27 = .bool true := f27
                      refine .inl ⟨_, f19, fun hg => ?_, fun hg => ?_⟩
                      · unfold Does
                        go_simp
                        exact ⟨Below.refl _ _, rfl⟩
                      · exact absurd rfl hg
                    · intro V w1 hbR ⟨f19, f28, _⟩
                      replace f19 : V 19 = .bool false := f19
                      replace f28 : V 28 = .bool false := f28
                      unfold Does
                      go_simp
                      exact ⟨Below.refl _ _, rfl⟩
                  intro V w3 hbR hfR
                  obtain ⟨f0, f1, f2, f3, f4, f5, f6, f7, f8, f9, f10, f11, f12, f13, f14, f15, f16, f17, f18, f19, f20, f21, f22, f23, f24, f25, f26, f27, f28, f29, _⟩ := hfR
                  replace f0 : V 0 = .pointer (some ⟨w.heap.size, 0, none⟩) := f0
                  replace f1 : V 1 = .slice (some ⟨b, off, none⟩) x.syms.length c := f1
                  replace f2 : V 2 = .int .i64 k := f2
                  replace f3 : V 3 = .pointer (some ⟨b, off + k, none⟩) := f3
                  replace f4 : V 4 = .string x.syms[k] := f4
                  replace f5 : V 5 = .bool true := f5
                  replace f6 : V 6 = .bool false := f6
                  replace f7 : V 7 = .bool false := f7
                  replace f8 : V 8 = .pointer (some ⟨w.heap.size, 0, none⟩) := f8
                  replace f9 : V 9 = .slice (some ⟨b, off, none⟩) x.syms.length c := f9
                  replace f10 : V 10 = .int .i64 k := f10
                  replace f11 : V 11 = .slice (some ⟨b, off, none⟩) k c := f11
                  replace f12 : V 12 = .pointer (some ⟨w.heap.size, 0, none⟩) := f12
                  replace f13 : V 13 = .slice (some ⟨b, off, none⟩) x.syms.length c := f13
                  replace f14 : V 14 = .int .i64 k := f14
                  replace f15 : V 15 = .pointer (some ⟨b, off + k, none⟩) := f15
                  replace f16 : V 16 = .string x.syms[k] := f16
                  replace f17 : V 17 = .bool false := f17
                  replace f18 : V 18 = .bool false := f18
                  replace f19 : V 19 = .bool false := f19
                  replace f20 : V 20 = .pointer (some ⟨w.heap.size, 1, none⟩) := f20
                  replace f21 : V 21 = .slice (some ⟨b', off', none⟩) x.ws.length c' := f21
                  replace f22 : V 22 = .int .i64 k := f22
                  replace f23 : V 23 = .pointer (some ⟨b', off' + k, none⟩) := f23
                  replace f24 : V 24 = .int .i64 x.ws[k] := f24
                  replace f25 : V 25 = .pointer (some ⟨w.heap.size, 2, none⟩) := f25
                  replace f26 : V 26 = .int .i64 x.var := f26
                  replace f27 : V 27 = .bool true := f27
                  replace f28 : V 28 = .bool false := f28
                  replace f29 : V 29 = .bool false := f29
                  simp only [f0, f1, f2, f3, f4, f5, f6, f7, f8, f9, f10, f11, f12, f13, f14, f15, f16, f17, f18, f19, f20, f21, f22, f23, f24, f25, f26, f27, f28, f29]
                  clear f0 f1 f2 f3 f4 f5 f6 f7 f8 f9 f10 f11 f12 f13 f14 f15 f16 f17 f18 f19 f20 f21 f22 f23 f24 f25 f26 f27 f28 f29
                  go_wp2_with fail
                  go_roundw
                  case rel => exact ⟨k + 1, by omega, by go_num, HN, hb.trans (hbR.mono (by omega))⟩
                  case measure => simp [intOf]; omega
                · replace hi : inB x.ws[k] x.var 100 = false := by simpa using hi
                  have HI := hid hi
                  clear hs hc hi
                  have HN : Hid (okAt x k = false) := by rw [Hid, okAt_eq hlt hltw, HI.out, Bool.and_false]
                  have HV : Hid (x.ok = false) := by rw [Hid, HD.out, all_no hlt HN.out]
                  go_wp2_with fail
                  refine wp_region_B [fun v _ => v = .pointer (some ⟨w.heap.size, 0, none⟩), fun v _ => v = .slice (some ⟨b, off, none⟩) x.syms.length c, fun v _ => v = .int .i64 k, fun v _ => v = .pointer (some ⟨b, off + k, none⟩), fun v _ => v = .string x.syms[k], fun v _ => v = .bool true, fun v _ => v = .bool false, fun v _ => v = .bool false, fun v _ => v = .pointer (some ⟨w.heap.size, 0, none⟩), fun v _ => v = .slice (some ⟨b, off, none⟩) x.syms.length c, fun v _ => v = .int .i64 k, fun v _ => v = .slice (some ⟨b, off, none⟩) k c, fun v _ => v = .pointer (some ⟨w.heap.size, 0, none⟩), fun v _ => v = .slice (some ⟨b, off, none⟩) x.syms.length c, fun v _ => v = .int .i64 k, fun v _ => v = .pointer (some ⟨b, off + k, none⟩), fun v _ => v = .string x.syms[k], fun v _ => v = .bool false, fun v _ => v = .bool false, fun v _ => v = .bool false, fun v _ => v = .pointer (some ⟨w.heap.size, 1, none⟩), fun v _ => v = .slice (some ⟨b', off', none⟩) x.ws.length c', fun v _ => v = .int .i64 k, fun v _ => v = .pointer (some ⟨b', off' + k, none⟩), fun v _ => v = .int .i64 x.ws[k], fun v _ => v = .pointer (some ⟨w.heap.size, 2, none⟩), fun v _ => v = .int .i64 x.var, fun v _ => v = .bool false, fun v _ => v = .bool true, fun v _ => v = .bool true] _ (fun V => by simp [putAll, Act.put]; rfl) (by kernel_rfl) (by decide) (by simp) (by kernel_rfl) ?_ ?_ ?_
                  · intro F hF
                    simp only [List.mem_cons, List.not_mem_nil, or_false] at hF
                    rcases hF with rfl | rfl | rfl | rfl | rfl | rfl | rfl | rfl | rfl | rfl | rfl | rfl | rfl | rfl | rfl | rfl | rfl | rfl | rfl | rfl | rfl | rfl | rfl | rfl | rfl | rfl | rfl | rfl | rfl | rfl
                    · exact stable_eq
                    · exact stable_eq
                    · exact stable_eq
                    · exact stable_eq
                    · exact stable_eq
                    · exact stable_eq
                    · exact stable_eq
                    · exact stable_eq
                    · exact stable_eq
                    · exact stable_eq
                    · exact stable_eq
                    · exact stable_eq
                    · exact stable_eq
                    · exact stable_eq
                    · exact stable_eq
                    · exact stable_eq
                    · exact stable_eq
                    · exact stable_eq
                    · exact stable_eq
                    · exact stable_eq
                    · exact stable_eq
                    · exact stable_eq
                    · exact stable_eq
                    · exact stable_eq
                    · exact stable_eq
                    · exact stable_eq
                    · exact stable_eq
                    · exact stable_eq
                    · exact stable_eq
                    · exact stable_eq
                  · refine ⟨?_, ?_, ?_, ?_, ?_, ?_, ?_, ?_, ?_, ?_, ?_, ?_, ?_, ?_, ?_, ?_, ?_, ?_, ?_, ?_, ?_, ?_, ?_, ?_, ?_, ?_, ?_, ?_, ?_, ?_, trivial⟩
                    · intro V w1 hbR _
                      unfold Does
                      go_simp
                      exact ⟨Below.refl _ _, rfl⟩
                    · intro V w1 hbR ⟨f0, _⟩
                      replace f0 : V 0 = .pointer (some ⟨w.heap.size, 0, none⟩) := f0
                      obtain ⟨hc, hf⟩ := bcell hbR
                      try simp only [World.size_alloc, World.size_setCell] at hc hf
                      unfold Does
                      go_simp
                      exact ⟨Below.refl _ _, rfl⟩
                    · intro V w1 hbR _
                      unfold Does
                      go_simp
                      exact ⟨Below.refl _ _, rfl⟩
                    · intro V w1 hbR ⟨f1, f2, _⟩
                      replace f1 : V 1 = .slice (some ⟨b, off, none⟩) x.syms.length c := f1
                      replace f2 : V 2 = .int .i64 k := f2
                      unfold Does
                      go_simp
                      exact ⟨Below.refl _ _, rfl⟩
                    · intro V w1 hbR ⟨f3, _⟩
                      replace f3 : V 3 = .pointer (some ⟨b, off + k, none⟩) := f3
                      obtain ⟨hc, hf⟩ := bcell hbR
                      try simp only [World.size_alloc, World.size_setCell] at hc hf
                      unfold Does
                      go_simp
                      exact ⟨Below.refl _ _, rfl⟩
                    · intro V w1 hbR ⟨f4, _⟩
                      replace f4 : V 4 = .string x.syms[k] := f4
                      obtain ⟨hc, hf⟩ := bcell hbR
                      try simp only [World.size_alloc, World.size_setCell] at hc hf
                      unfold Does
                      go_simp
                      refine (l2Symbol_any _ q1 w1).mono ?_; rintro e w4 ⟨rfl, rfl⟩; exact ⟨_, rfl, Below.refl _ _, congrArg Value.bool HS.out⟩
                    · intro V w1 hbR ⟨f5, _⟩
                      replace f5 : V 5 = .bool true := f5
                      unfold Does
                      go_simp
                      exact ⟨Below.refl _ _, rfl⟩
                    · intro V w1 hbR ⟨f6, f5, _⟩
                      replace f5 : V 5 = .bool true := f5
                      replace f6 : V 6 = .bool false := f6
                      unfold Does
                      go_simp
                      exact ⟨Below.refl _ _, rfl⟩
                    · intro V w1 hbR ⟨f7, _⟩
                      replace f7 : V 7 = .bool false := f7
                      refine .inl ⟨_, f7, fun hg => ?_, fun hg => ?_⟩
                      · unfold Does
                        go_simp
                        exact ⟨Below.refl _ _, rfl⟩
                      · exact absurd rfl hg
                    · intro V w1 hbR ⟨f8, f7, _⟩
                      replace f7 : V 7 = .bool false := f7
                      replace f8 : V 8 = .pointer (some ⟨w.heap.size, 0, none⟩) := f8
                      refine .inl ⟨_, f7, fun hg => ?_, fun hg => ?_⟩
                      · obtain ⟨hc, hf⟩ := bcell hbR
                        try simp only [World.size_alloc, World.size_setCell] at hc hf
                        unfold Does
                        go_simp
                        exact ⟨Below.refl _ _, rfl⟩
                      · exact absurd rfl hg
                    · intro V w1 hbR ⟨f7, _⟩
                      replace f7 : V 7 = .bool false := f7
                      refine .inl ⟨_, f7, fun hg => ?_, fun hg => ?_⟩
                      · unfold Does
                        go_simp
                        exact ⟨Below.refl _ _, rfl⟩
                      · exact absurd rfl hg
                    · intro V w1 hbR ⟨f9, f10, f7, _⟩
                      replace f7 : V 7 = .bool false := f7
                      replace f9 : V 9 = .slice (some ⟨b, off, none⟩) x.syms.length c := f9
                      replace f10 : V 10 = .int .i64 k := f10
                      refine .inl ⟨_, f7, fun hg => ?_, fun hg => ?_⟩
                      · unfold Does
                        go_simp
                        exact ⟨Below.refl _ _, rfl⟩
                      · exact absurd rfl hg
                    · intro V w1 hbR ⟨f7, _⟩
                      replace f7 : V 7 = .bool false := f7
                      refine .inl ⟨_, f7, fun hg => ?_, fun hg => ?_⟩
                      · unfold Does
                        go_simp
                        exact ⟨Below.refl _ _, rfl⟩
                      · exact absurd rfl hg
                    · intro V w1 hbR ⟨f12, f7, _⟩
                      replace f7 : V 7 = .bool false := f7
                      replace f12 : V 12 = .pointer (some ⟨w.heap.size, 0, none⟩) := f12
                      refine .inl ⟨_, f7, fun hg => ?_, fun hg => ?_⟩
                      · obtain ⟨hc, hf⟩ := bcell hbR
                        try simp only [World.size_alloc, World.size_setCell] at hc hf
                        unfold Does
                        go_simp
                        exact ⟨Below.refl _ _, rfl⟩
                      · exact absurd rfl hg
                    · intro V w1 hbR ⟨f7, _⟩
                      replace f7 : V 7 = .bool false := f7
                      refine .inl ⟨_, f7, fun hg => ?_, fun hg => ?_⟩
                      · unfold Does
                        go_simp
                        exact ⟨Below.refl _ _, rfl⟩
                      · exact absurd rfl hg
                    · intro V w1 hbR ⟨f13, f14, f7, _⟩
                      replace f7 : V 7 = .bool false := f7
                      replace f13 : V 13 = .slice (some ⟨b, off, none⟩) x.syms.length c := f13
                      replace f14 : V 14 = .int .i64 k := f14
                      refine .inl ⟨_, f7, fun hg => ?_, fun hg => ?_⟩
                      · unfold Does
                        go_simp
                        exact ⟨Below.refl _ _, rfl⟩
                      · exact absurd rfl hg
                    · intro V w1 hbR ⟨f15, f7, _⟩
                      replace f7 : V 7 = .bool false := f7
                      replace f15 : V 15 = .pointer (some ⟨b, off + k, none⟩) := f15
                      refine .inl ⟨_, f7, fun hg => ?_, fun hg => ?_⟩
                      · obtain ⟨hc, hf⟩ := bcell hbR
                        try simp only [World.size_alloc, World.size_setCell] at hc hf
                        unfold Does
                        go_simp
                        exact ⟨Below.refl _ _, rfl⟩
                      · exact absurd rfl hg
                    · intro V w1 hbR ⟨f11, f16, f7, _, _⟩
                      replace f7 : V 7 = .bool false := f7
                      replace f11 : V 11 = .slice (some ⟨b, off, none⟩) k c := f11
                      replace f16 : V 16 = .string x.syms[k] := f16
                      refine .inl ⟨_, f7, fun hg => ?_, fun hg => ?_⟩
                      · obtain ⟨hc, hf⟩ := bcell hbR
                        try simp only [World.size_alloc, World.size_setCell] at hc hf
                        unfold Does
                        go_simp
                        refine (l2InD_any (D.rd_keep (Keeps.all hbR) _ _ hsub)).mono ?_; rintro e w4 ⟨rfl, rfl⟩; exact ⟨_, rfl, Below.refl _ _, congrArg Value.bool HC.out⟩
                      · exact absurd rfl hg
                    · intro V w1 hbR ⟨f7, f17, _⟩
                      replace f7 : V 7 = .bool false := f7
                      replace f17 : V 17 = .bool false := f17
                      unfold Does
                      go_simp
                      exact ⟨Below.refl _ _, rfl⟩
                    · intro V w1 hbR ⟨f18, f17, _⟩
                      replace f17 : V 17 = .bool false := f17
                      replace f18 : V 18 = .bool false := f18
                      unfold Does
                      go_simp
                      exact ⟨Below.refl _ _, rfl⟩
                    · intro V w1 hbR ⟨f19, _⟩
                      replace f19 : V 19 = .bool false := f19
                      refine .inl ⟨_, f19, fun hg => ?_, fun hg => ?_⟩
                      · unfold Does
                        go_simp
                        exact ⟨Below.refl _ _, rfl⟩
                      · exact absurd rfl hg
                    · intro V w1 hbR ⟨f20, f19, _⟩
                      replace f19 : V 19 = .bool false := f19
                      replace f20 : V 20 = .pointer (some ⟨w.heap.size, 1, none⟩) := f20
                      refine .inl ⟨_, f19, fun hg => ?_, fun hg => ?_⟩
                      · obtain ⟨hc, hf⟩ := bcell hbR
                        try simp only [World.size_alloc, World.size_setCell] at hc hf
                        unfold Does
                        go_simp
                        exact ⟨Below.refl _ _, rfl⟩
                      · exact absurd rfl hg
                    · intro V w1 hbR ⟨f19, _⟩
                      replace f19 : V 19 = .bool false := f19
                      refine .inl ⟨_, f19, fun hg => ?_, fun hg => ?_⟩
                      · unfold Does
                        go_simp
                        exact ⟨Below.refl _ _, rfl⟩
                      · exact absurd rfl hg
                    · intro V w1 hbR ⟨f21, f22, f19, _⟩
                      replace f19 : V 19 = .bool false := f19
                      replace f21 : V 21 = .slice (some ⟨b', off', none⟩) x.ws.length c' := f21
                      replace f22 : V 22 = .int .i64 k := f22
                      refine .inl ⟨_, f19, fun hg => ?_, fun hg => ?_⟩
                      · unfold Does
                        go_simp
                        exact ⟨Below.refl _ _, rfl⟩
                      · exact absurd rfl hg
                    · intro V w1 hbR ⟨f23, f19, _⟩
                      replace f19 : V 19 = .bool false := f19
                      replace f23 : V 23 = .pointer (some ⟨b', off' + k, none⟩) := f23
                      refine .inl ⟨_, f19, fun hg => ?_, fun hg => ?_⟩
                      · obtain ⟨hc, hf⟩ := bcell hbR
                        try simp only [World.size_alloc, World.size_setCell] at hc hf
                        unfold Does
                        go_simp
                        exact ⟨Below.refl _ _, rfl⟩
                      · exact absurd rfl hg
                    · intro V w1 hbR ⟨f19, _⟩
                      replace f19 : V 19 = .bool false := f19
                      refine .inl ⟨_, f19, fun hg => ?_, fun hg => ?_⟩
                      · unfold Does
                        go_simp
                        exact ⟨Below.refl _ _, rfl⟩
                      · exact absurd rfl hg
                    · intro V w1 hbR ⟨f25, f19, _⟩
                      replace f19 : V 19 = .bool false := f19
                      replace f25 : V 25 = .pointer (some ⟨w.heap.size, 2, none⟩) := f25
                      refine .inl ⟨_, f19, fun hg => ?_, fun hg => ?_⟩
                      · obtain ⟨hc, hf⟩ := bcell hbR
                        try simp only [World.size_alloc, World.size_setCell] at hc hf
                        unfold Does
                        go_simp
                        exact ⟨Below.refl _ _, rfl⟩
                      · exact absurd rfl hg
                    · intro V w1 hbR ⟨f24, f26, f19, _, _⟩
                      replace f19 : V 19 = .bool false := f19
                      replace f24 : V 24 = .int .i64 x.ws[k] := f24
                      replace f26 : V 26 = .int .i64 x.var := f26
                      refine .inl ⟨_, f19, fun hg => ?_, fun hg => ?_⟩
                      · obtain ⟨hc, hf⟩ := bcell hbR
                        try simp only [World.size_alloc, World.size_setCell] at hc hf
                        unfold Does
                        go_simp
                        refine (l1In_any _ _ _ w1).mono ?_; rintro e w4 ⟨rfl, rfl⟩; exact ⟨_, rfl, Below.refl _ _, congrArg Value.bool HI.out⟩
                      · exact absurd rfl hg
                    · intro V w1 hbR ⟨f27, f19, _⟩
                      replace f19 : V 19 = .bool false := f19
                      replace f27 : V 27 = .bool false := f27
                      refine .inl ⟨_, f19, fun hg => ?_, fun hg => ?_⟩
                      · unfold Does
                        go_simp
                        exact ⟨Below.refl _ _, rfl⟩
                      · exact absurd rfl hg
                    · intro V w1 hbR ⟨f19, f28, _⟩
                      replace f19 : V 19 = .bool false := f19
                      replace f28 : V 28 = .bool true := f28
                      unfold Does
                      go_simp
                      exact ⟨Below.refl _ _, rfl⟩
                  intro V w3 hbR hfR
                  obtain ⟨f0, f1, f2, f3, f4, f5, f6, f7, f8, f9, f10, f11, f12, f13, f14, f15, f16, f17, f18, f19, f20, f21, f22, f23, f24, f25, f26, f27, f28, f29, _⟩ := hfR
                  replace f0 : V 0 = .pointer (some ⟨w.heap.size, 0, none⟩) := f0
                  replace f1 : V 1 = .slice (some ⟨b, off, none⟩) x.syms.length c := f1
                  replace f2 : V 2 = .int .i64 k := f2
                  replace f3 : V 3 = .pointer (some ⟨b, off + k, none⟩) := f3
                  replace f4 : V 4 = .string x.syms[k] := f4
                  replace f5 : V 5 = .bool true := f5
                  replace f6 : V 6 = .bool false := f6
                  replace f7 : V 7 = .bool false := f7
                  replace f8 : V 8 = .pointer (some ⟨w.heap.size, 0, none⟩) := f8
                  replace f9 : V 9 = .slice (some ⟨b, off, none⟩) x.syms.length c := f9
                  replace f10 : V 10 = .int .i64 k := f10
                  replace f11 : V 11 = .slice (some ⟨b, off, none⟩) k c := f11
                  replace f12 : V 12 = .pointer (some ⟨w.heap.size, 0, none⟩) := f12
                  replace f13 : V 13 = .slice (some ⟨b, off, none⟩) x.syms.length c := f13
                  replace f14 : V 14 = .int .i64 k := f14
                  replace f15 : V 15 = .pointer (some ⟨b, off + k, none⟩) := f15
                  replace f16 : V 16 = .string x.syms[k] := f16
                  replace f17 : V 17 = .bool false := f17
                  replace f18 : V 18 = .bool false := f18
                  replace f19 : V 19 = .bool false := f19
                  replace f20 : V 20 = .pointer (some ⟨w.heap.size, 1, none⟩) := f20
                  replace f21 : V 21 = .slice (some ⟨b', off', none⟩) x.ws.length c' := f21
                  replace f22 : V 22 = .int .i64 k := f22
                  replace f23 : V 23 = .pointer (some ⟨b', off' + k, none⟩) := f23
                  replace f24 : V 24 = .int .i64 x.ws[k] := f24
                  replace f25 : V 25 = .pointer (some ⟨w.heap.size, 2, none⟩) := f25
                  replace f26 : V 26 = .int .i64 x.var := f26
                  replace f27 : V 27 = .bool false := f27
                  replace f28 : V 28 = .bool true := f28
                  replace f29 : V 29 = .bool true := f29
                  simp only [f0, f1, f2, f3, f4, f5, f6, f7, f8, f9, f10, f11, f12, f13, f14, f15, f16, f17, f18, f19, f20, f21, f22, f23, f24, f25, f26, f27, f28, f29]
                  clear f0 f1 f2 f3 f4 f5 f6 f7 f8 f9 f10 f11 f12 f13 f14 f15 f16 f17 f18 f19 f20 f21 f22 f23 f24 f25 f26 f27 f28 f29
                  go_wp2_with fail
                  go_ret
                  exact Gives.mk (ret_bool HV.out.symm) (hbw.trans (hbR.mono hbw.size))
            · replace hs : symName x.syms[k] = false := by simpa using hs
              have HS := hid hs
              clear hs
              have HN : Hid (okAt x k = false) := by rw [Hid, okAt_eq hlt hltw, HS.out, Bool.false_and, Bool.false_and]
              have HV : Hid (x.ok = false) := by rw [Hid, HD.out, all_no hlt HN.out]
              go_wp2_with fail
              refine wp_region_B [fun v _ => v = .pointer (some ⟨w.heap.size, 0, none⟩), fun v _ => v = .slice (some ⟨b, off, none⟩) x.syms.length c, fun v _ => v = .int .i64 k, fun v _ => v = .pointer (some ⟨b, off + k, none⟩), fun v _ => v = .string x.syms[k], fun v _ => v = .bool false, fun v _ => v = .bool true, fun v _ => v = .bool true, fun v _ => v = undef, fun v _ => v = undef, fun v _ => v = undef, fun v _ => v = undef, fun v _ => v = undef, fun v _ => v = undef, fun v _ => v = undef, fun v _ => v = undef, fun v _ => v = undef, fun v _ => v = undef, fun v _ => v = .bool true, fun v _ => v = .bool true, fun v _ => v = undef, fun v _ => v = undef, fun v _ => v = undef, fun v _ => v = undef, fun v _ => v = undef, fun v _ => v = undef, fun v _ => v = undef, fun v _ => v = undef, fun v _ => v = undef, fun v _ => v = .bool true] _ (fun V => by simp [putAll, Act.put]; rfl) (by kernel_rfl) (by decide) (by simp) (by kernel_rfl) ?_ ?_ ?_
              · intro F hF
                simp only [List.mem_cons, List.not_mem_nil, or_false] at hF
                rcases hF with rfl | rfl | rfl | rfl | rfl | rfl | rfl | rfl | rfl | rfl | rfl | rfl | rfl | rfl | rfl | rfl | rfl | rfl | rfl | rfl | rfl | rfl | rfl | rfl | rfl | rfl | rfl | rfl | rfl | rfl
                · exact stable_eq
                · exact stable_eq
                · exact stable_eq
                · exact stable_eq
                · exact stable_eq
                · exact stable_eq
                · exact stable_eq
                · exact stable_eq
                · exact stable_eq
                · exact stable_eq
                · exact stable_eq
                · exact stable_eq
                · exact stable_eq
                · exact stable_eq
                · exact stable_eq
                · exact stable_eq
                · exact stable_eq
                · exact stable_eq
                · exact stable_eq
                · exact stable_eq
                · exact stable_eq
                · exact stable_eq
                · exact stable_eq
                · exact stable_eq
                · exact stable_eq
                · exact stable_eq
                · exact stable_eq
                · exact stable_eq
                · exact stable_eq
                · exact stable_eq
              · refine ⟨?_, ?_, ?_, ?_, ?_, ?_, ?_, ?_, ?_, ?_, ?_, ?_, ?_, ?_, ?_, ?_, ?_, ?_, ?_, ?_, ?_, ?_, ?_, ?_, ?_, ?_, ?_, ?_, ?_, ?_, trivial⟩
                · intro V w1 hbR _
                  unfold Does
                  go_simp
                  exact ⟨Below.refl _ _, rfl⟩
                · intro V w1 hbR ⟨f0, _⟩
                  replace f0 : V 0 = .pointer (some ⟨w.heap.size, 0, none⟩) := f0
                  obtain ⟨hc, hf⟩ := bcell hbR
                  try simp only [World.size_alloc, World.size_setCell] at hc hf
                  unfold Does
                  go_simp
                  exact ⟨Below.refl _ _, rfl⟩
                · intro V w1 hbR _
                  unfold Does
                  go_simp
                  exact ⟨Below.refl _ _, rfl⟩
                · intro V w1 hbR ⟨f1, f2, _⟩
                  replace f1 : V 1 = .slice (some ⟨b, off, none⟩) x.syms.length c := f1
                  replace f2 : V 2 = .int .i64 k := f2
                  unfold Does
                  go_simp
                  exact ⟨Below.refl _ _, rfl⟩
                · intro V w1 hbR ⟨f3, _⟩
                  replace f3 : V 3 = .pointer (some ⟨b, off + k, none⟩) := f3
                  obtain ⟨hc, hf⟩ := bcell hbR
                  try simp only [World.size_alloc, World.size_setCell] at hc hf
                  unfold Does
                  go_simp
                  exact ⟨Below.refl _ _, rfl⟩
                · intro V w1 hbR ⟨f4, _⟩
                  replace f4 : V 4 = .string x.syms[k] := f4
                  obtain ⟨hc, hf⟩ := bcell hbR
                  try simp only [World.size_alloc, World.size_setCell] at hc hf
                  unfold Does
                  go_simp
                  refine (l2Symbol_any _ q1 w1).mono ?_; rintro e w4 ⟨rfl, rfl⟩; exact ⟨_, rfl, Below.refl _ _, congrArg Value.bool HS.out⟩
                · intro V w1 hbR ⟨f5, _⟩
                  replace f5 : V 5 = .bool false := f5
                  unfold Does
                  go_simp
                  exact ⟨Below.refl _ _, rfl⟩
                · intro V w1 hbR ⟨f6, f5, _⟩
                  replace f5 : V 5 = .bool false := f5
                  replace f6 : V 6 = .bool true := f6
                  unfold Does
                  go_simp
                  exact ⟨Below.refl _ _, rfl⟩
                · intro V w1 hbR ⟨f7, _⟩
                  replace f7 : V 7 = .bool true := f7
                  refine .inl ⟨_, f7, fun hg => ?_, fun hg => ?_⟩
                  · exact absurd hg (by decide)
                  · rfl
                · intro V w1 hbR ⟨f8, f7, _⟩
                  replace f7 : V 7 = .bool true := f7
                  replace f8 : V 8 = undef := f8
                  refine .inl ⟨_, f7, fun hg => ?_, fun hg => ?_⟩
                  · exact absurd hg (by decide)
                  · rfl
                · intro V w1 hbR ⟨f7, _⟩
                  replace f7 : V 7 = .bool true := f7
                  refine .inl ⟨_, f7, fun hg => ?_, fun hg => ?_⟩
                  · exact absurd hg (by decide)
                  · rfl
                · intro V w1 hbR ⟨f9, f10, f7, _⟩
                  replace f7 : V 7 = .bool true := f7
                  replace f9 : V 9 = undef := f9
                  replace f10 : V 10 = undef := f10
                  refine .inl ⟨_, f7, fun hg => ?_, fun hg => ?_⟩
                  · exact absurd hg (by decide)
                  · rfl
                · intro V w1 hbR ⟨f7, _⟩
                  replace f7 : V 7 = .bool true := f7
                  refine .inl ⟨_, f7, fun hg => ?_, fun hg => ?_⟩
                  · exact absurd hg (by decide)
                  · rfl
                · intro V w1 hbR ⟨f12, f7, _⟩
                  replace f7 : V 7 = .bool true := f7
                  replace f12 : V 12 = undef := f12
                  refine .inl ⟨_, f7, fun hg => ?_, fun hg => ?_⟩
                  · exact absurd hg (by decide)
                  · rfl
                · intro V w1 hbR ⟨f7, _⟩
                  replace f7 : V 7 = .bool true := f7
                  refine .inl ⟨_, f7, fun hg => ?_, fun hg => ?_⟩
                  · exact absurd hg (by decide)
                  · rfl
                · intro V w1 hbR ⟨f13, f14, f7, _⟩
                  replace f7 : V 7 = .bool true := f7
                  replace f13 : V 13 = undef := f13
                  replace f14 : V 14 = undef := f14
                  refine .inl ⟨_, f7, fun hg => ?_, fun hg => ?_⟩
                  · exact absurd hg (by decide)
                  · rfl
                · intro V w1 hbR ⟨f15, f7, _⟩
                  replace f7 : V 7 = .bool true := f7
                  replace f15 : V 15 = undef := f15
                  refine .inl ⟨_, f7, fun hg => ?_, fun hg => ?_⟩
                  · exact absurd hg (by decide)
                  · rfl
                · intro V w1 hbR ⟨f11, f16, f7, _, _⟩
                  replace f7 : V 7 = .bool true := f7
                  replace f11 : V 11 = undef := f11
                  replace f16 : V 16 = undef := f16
                  refine .inl ⟨_, f7, fun hg => ?_, fun hg => ?_⟩
                  · exact absurd hg (by decide)
                  · rfl
                · intro V w1 hbR ⟨f7, f17, _⟩
                  replace f7 : V 7 = .bool true := f7
                  replace f17 : V 17 = undef := f17
                  unfold Does
                  go_simp
                  exact ⟨Below.refl _ _, rfl⟩
                · intro V w1 hbR ⟨f18, f17, _⟩
                  replace f17 : V 17 = undef := f17
                  replace f18 : V 18 = .bool true := f18
                  unfold Does
                  go_simp
                  exact ⟨Below.refl _ _, rfl⟩
                · intro V w1 hbR ⟨f19, _⟩
                  replace f19 : V 19 = .bool true := f19
                  refine .inl ⟨_, f19, fun hg => ?_, fun hg => ?_⟩
                  · exact absurd hg (by decide)
                  · rfl
                · intro V w1 hbR ⟨f20, f19, _⟩
                  replace f19 : V 19 = .bool true := f19
                  replace f20 : V 20 = undef := f20
                  refine .inl ⟨_, f19, fun hg => ?_, fun hg => ?_⟩
                  · exact absurd hg (by decide)
                  · rfl
                · intro V w1 hbR ⟨f19, _⟩
                  replace f19 : V 19 = .bool true := f19
                  refine .inl ⟨_, f19, fun hg => ?_, fun hg => ?_⟩
                  · exact absurd hg (by decide)
                  · rfl
                · intro V w1 hbR ⟨f21, f22, f19, _⟩
                  replace f19 : V 19 = .bool true := f19
                  replace f21 : V 21 = undef := f21
                  replace f22 : V 22 = undef := f22
                  refine .inl ⟨_, f19, fun hg => ?_, fun hg => ?_⟩
                  · exact absurd hg (by decide)
                  · rfl
                · intro V w1 hbR ⟨f23, f19, _⟩
                  replace f19 : V 19 = .bool true := f19
                  replace f23 : V 23 = undef := f23
                  refine .inl ⟨_, f19, fun hg => ?_, fun hg => ?_⟩
                  · exact absurd hg (by decide)
                  · rfl
                · intro V w1 hbR ⟨f19, _⟩
                  replace f19 : V 19 = .bool true := f19
                  refine .inl ⟨_, f19, fun hg => ?_, fun hg => ?_⟩
                  · exact absurd hg (by decide)
                  · rfl
                · intro V w1 hbR ⟨f25, f19, _⟩
                  replace f19 : V 19 = .bool true := f19
                  replace f25 : V 25 = undef := f25
                  refine .inl ⟨_, f19, fun hg => ?_, fun hg => ?_⟩
                  · exact absurd hg (by decide)
                  · rfl
                · intro V w1 hbR ⟨f24, f26, f19, _, _⟩
                  replace f19 : V 19 = .bool true := f19
                  replace f24 : V 24 = undef := f24
                  replace f26 : V 26 = undef := f26
                  refine .inl ⟨_, f19, fun hg => ?_, fun hg => ?_⟩
                  · exact absurd hg (by decide)
                  · rfl
                · intro V w1 hbR ⟨f27, f19, _⟩
                  replace f19 : V 19 = .bool true := f19
                  replace f27 : V 27 = undef := f27
                  refine .inl ⟨_, f19, fun hg => ?_, fun hg => ?_⟩
                  · exact absurd hg (by decide)
                  · rfl
                · intro V w1 hbR ⟨f19, f28, _⟩
                  replace f19 : V 19 = .bool true := f19
                  replace f28 : V 28 = undef := f28
                  unfold Does
                  go_simp
                  exact ⟨Below.refl _ _, rfl⟩
              intro V w3 hbR hfR
              obtain ⟨f0, f1, f2, f3, f4, f5, f6, f7, f8, f9, f10, f11, f12, f13, f14, f15, f16, f17, f18, f19, f20, f21, f22, f23, f24, f25, f26, f27, f28, f29, _⟩ := hfR
              replace f0 : V 0 = .pointer (some ⟨w.heap.size, 0, none⟩) := f0
              replace f1 : V 1 = .slice (some ⟨b, off, none⟩) x.syms.length c := f1
              replace f2 : V 2 = .int .i64 k := f2
              replace f3 : V 3 = .pointer (some ⟨b, off + k, none⟩) := f3
              replace f4 : V 4 = .string x.syms[k] := f4
              replace f5 : V 5 = .bool false := f5
              replace f6 : V 6 = .bool true := f6
              replace f7 : V 7 = .bool true := f7
              replace f8 : V 8 = undef := f8
              replace f9 : V 9 = undef := f9
              replace f10 : V 10 = undef := f10
              replace f11 : V 11 = undef := f11
              replace f12 : V 12 = undef := f12
              replace f13 : V 13 = undef := f13
              replace f14 : V 14 = undef := f14
              replace f15 : V 15 = undef := f15
              replace f16 : V 16 = undef := f16
              replace f17 : V 17 = undef := f17
              replace f18 : V 18 = .bool true := f18
              replace f19 : V 19 = .bool true := f19
              replace f20 : V 20 = undef := f20
              replace f21 : V 21 = undef := f21
              replace f22 : V 22 = undef := f22
              replace f23 : V 23 = undef := f23
              replace f24 : V 24 = undef := f24
              replace f25 : V 25 = undef := f25
              replace f26 : V 26 = undef := f26
              replace f27 : V 27 = undef := f27
              replace f28 : V 28 = undef := f28
              replace f29 : V 29 = .bool true := f29
              simp only [f0, f1, f2, f3, f4, f5, f6, f7, f8, f9, f10, f11, f12, f13, f14, f15, f16, f17, f18, f19, f20, f21, f22, f23, f24, f25, f26, f27, f28, f29]
              clear f0 f1 f2 f3 f4 f5 f6 f7 f8 f9 f10 f11 f12 f13 f14 f15 f16 f17 f18 f19 f20 f21 f22 f23 f24 f25 f26 f27 f28 f29
              go_wp2_with fail
              go_ret
              exact Gives.mk (ret_bool HV.out.symm) (hbw.trans (hbR.mono hbw.size))
          · obtain rfl : k = x.syms.length := by omega
            have HV : Hid (x.ok = true) := by rw [Hid, HD.out, HX.out]
            go_wp2_with fail
            go_ret
            exact Gives.mk (ret_bool HV.out.symm) hbw
      · replace h3 : inB x.var 1 100 = false := by simpa using h3
        have HV : Hid (x.ok = false) := by rw [Hid, HD.out, h3]; simp
        have H1 := hid h1
        have H2 := hid h2
        have H3 := hid h3
        clear h1 h2 h3
        go_enter Try.func26, Try.ntmps26
        go_wp2_with fail
        refine (l1In_any _ _ _ _).mono ?_
        rintro e w1 ⟨rfl, rfl⟩
        rw [H1.out]
        go_wp2_with fail
        refine (l1In_any _ _ _ _).mono ?_
        rintro e w1 ⟨rfl, rfl⟩
        rw [H3.out]
        go_wp2_with fail
        go_ret
        exact Gives.mk (ret_bool HV.out.symm) hW
    · have hq2 : ((x.ws.length : Int) != (x.syms.length : Int)) = true := by simp; omega
      have hq2' : ((x.ws.length : Int) == (x.syms.length : Int)) = false := by simp; omega
      have HV : Hid (x.ok = false) := by rw [Hid, HD.out, decide_eq_false h2]; simp
      have H1 := hid h1
      clear h1 h2
      go_enter Try.func26, Try.ntmps26
      go_wp2_with fail
      refine (l1In_any _ _ _ _).mono ?_
      rintro e w1 ⟨rfl, rfl⟩
      rw [H1.out]
      go_wp2_with fail
      go_ret
      exact Gives.mk (ret_bool HV.out.symm) hW
  · replace h1 : inB x.syms.length 1 12 = false := by simpa using h1
    have HV : Hid (x.ok = false) := by rw [Hid, HD.out, h1]; simp
    have H1 := hid h1
    clear h1
    go_enter Try.func26, Try.ntmps26
    go_wp2_with fail
    refine (l1In_any _ _ _ _).mono ?_
    rintro e w1 ⟨rfl, rfl⟩
    rw [H1.out]
    go_wp2_with fail
    go_ret
    exact Gives.mk (ret_bool HV.out.symm) hW

set_option maxHeartbeats 400000 in
theorem spec_IsValidOrdering {x : Og} {S : Nat → Prop} {c0 c1 c2 : Value} {w : World} (hr : Og.at S w c0 c1 c2 x) (hbk : x.bulk ≤ 1048576) : Calls Try.prog 14 #[.agg #[c0, c1, c2]] w (Gives w (.bool x.ok)) := by
  obtain ⟨⟨a, c, rfl⟩, ⟨a', c', rfl⟩, rfl⟩ := Og.at_form hr
  have hW : Below w.heap.size w (w.alloc (.cells #[.slice a x.syms.length c, .slice a' x.ws.length c', .int .i64 x.var] 37)) := (Below.refl _ _).alloc (Nat.le_refl _) _
  have hq := l6Good_any (Og.at_keep (Keeps.all hW) hr) hbk
  go_enter Try.func14, Try.ntmps14
  go_wp2_with fail
  refine hq.mono ?_
  rintro e w1 ⟨_, rfl, hb, rfl⟩
  go_wp2_with fail
  go_ret
  exact Gives.mk (ret_bool rfl) (hW.trans (hb.mono hW.size))
theorem impl_IsValidOrdering {x : Og} {S : Nat → Prop} {c0 c1 c2 : Value} {w : World} (hr : Og.at S w c0 c1 c2 x) (hbk : x.bulk ≤ 1048576) : Calls Try.prog 16 #[.agg #[c0, c1, c2]] w (Gives w (.bool x.ok)) := impl_IsValidOrdering_any hr hbk
end Go.Proofs.Ytfdlofjkbaajdaa
