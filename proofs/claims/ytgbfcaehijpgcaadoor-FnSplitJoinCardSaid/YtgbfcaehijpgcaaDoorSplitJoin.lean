/- For every input the law FnSplitJoin returns true, and its argument reads behind the call as it read before it: the tied card. Conditions: the package-level variables that the row lists start as the program's text lays them. -/
import Derived.Test.YtgbfcaehijpgcaaDoorRows
import Derived.Test.YtgbfcaehijpgcaaDoorCards
import Derived.Test.YtgbfcaehijpgcaaDoorTie
import Derived.Test.YtgbfcaehijpgcaaDoorSx
import Derived.Test.YtgbfcaehijpgcaaDoorDj
import Derived.Test.YtgbfcaehijpgcaaDoorJs
import Derived.OpenShut
namespace Go.Proofs.YtgbfcaehijpgcaaDoor.fnSplitJoin
set_option maxRecDepth 100000
open Go Go.ChangeShapes Go.WideShapes Go.ChangeAt Go.RowKit
open Go.ChangeMaps (open_string shut_string)

def Fact (w : World) : Prop := MaxF w
theorem fact_of_laid {W : World} (_ : laidMetH Tryd.prog Rows.fnSplitJoinRow.laid W) (hS : W.ShapedOpen Tryd.prog) : Fact W := max_of hS
theorem laidWorld_met (os : Os) (args : Array Value) : laidMetH Tryd.prog Rows.fnSplitJoinRow.laid ((laidWorld os).forCall (fun _ _ => 0) ⟨#[], args, []⟩).memory :=
  laidMetH_of_parts (laidMet_of_run' 8 (by kernel_rfl) (by kernel_rfl)) (by kernel_rfl)
theorem strBulk_split (s q : ByteArray) (hs : s.size ≤ 10) : strBulk (splR s q) ≤ 1048576 := by
  have h1 := splR_length s q
  have h2 := sum_bound 10 (splR s q) (fun p hp => by
    unfold splR at hp
    split at hp
    · have := splitS_sizes _ s p hp; omega
    · cases hp)
  rw [strBulk]; omega
set_option maxHeartbeats 4000000 in
theorem walk {w : World} (hF : Fact w) (v : Value) (n : Nat) (h : Bytes w v n) : Calls Tryd.prog 10 #[v] w fun e w' => e = .returned (.bool true) ∧ Below w.heap.size w w' := by
  have HB := hid h
  obtain ⟨va, vc, rfl, -⟩ := h
  by_cases hbig : 65536 < n
  · have hb' : decide (65536 < (n : Int)) = true := by simp; omega
    go_enter Tryd.func10, Tryd.ntmps10
    go_wp2_with fail
    refine (vBig_any HB.out).mono ?_
    rintro e w1 ⟨rfl, rfl⟩
    rw [hb']
    go_wp2_with fail
    go_ret
    exact ⟨rfl, Below.refl _ _⟩
  · have hb' : decide (65536 < (n : Int)) = false := by simp; omega
    go_enter Tryd.func10, Tryd.ntmps10
    go_wp2_with fail
    refine (vBig_any HB.out).mono ?_
    rintro e w1 ⟨rfl, rfl⟩
    rw [hb']
    clear hb'
    go_wp2_with fail
    refine (drawSplit_any HB.out).mono ?_
    rintro e w1 ⟨s, q, rfl, hs, hq, hW⟩
    replace HB := hid (HB.out.keep hW)
    have hz1 := hW.size
    go_wp2_with fail
    refine (impl_SplitString (s := s) (q := q) (by omega) (by omega) (MaxF.keep hF hW)).mono ?_
    rintro e w2 ⟨l, F, rfl, ho, -, hb2⟩
    have hrl := D.rd_all (D.own_rd _ _ _ ho)
    have HSB := hid (strBulk_split s q hs)
    have HSJ : Hid (splOk s q = true → joinOk (splR s q) q = true ∧ joinR (splR s q) q = s) := split_join
    have HSN : Hid (splOk s q = false → splR s q = []) := fun e => by rw [splR, if_neg (by rw [e]; simp)]
    have HSO : Hid (splOk s q = decide (q.size = 1)) := by rw [Hid, splOk, decide_eq_true (show s.size ≤ 4000 by omega)]; rfl
    obtain ⟨L, HL⟩ : ∃ L, Hid (splR s q = L) := ⟨_, hid rfl⟩
    obtain ⟨k, Hk⟩ : ∃ k, Hid (splOk s q = k) := ⟨_, hid rfl⟩
    rw [HL.out] at hrl HSB HSJ HSN
    rw [Hk.out] at HSJ HSN HSO ⊢
    obtain ⟨la, lc, rfl, hll, -⟩ := slOf_form hrl
    unfold big at hll
    replace HB := hid (HB.out.keep hb2)
    replace hW := hW.trans (hb2.mono hW.size)
    clear ho HL Hk hb2
    go_wp2_with fail
    refine (drawJoin_any HB.out).mono ?_
    rintro e w3 ⟨lv, ss, q2, rfl, hj, hbk, hq2, hb3⟩
    replace HB := hid (HB.out.keep hb3)
    replace hrl := D.rd_keep (Keeps.all hb3) _ _ hrl
    replace hW := hW.trans (hb3.mono hW.size)
    clear hb3
    obtain ⟨jr, Hjr⟩ : ∃ r, Hid (joinR ss q2 = r) := ⟨_, hid rfl⟩
    obtain ⟨jo, Hjo⟩ : ∃ r, Hid (joinOk ss q2 = r) := ⟨_, hid rfl⟩
    have hq4 := impl_JoinStrings (s := q2) hj hbk (by omega)
    rw [Hjr.out, Hjo.out] at hq4
    go_wp2_with fail
    refine hq4.mono ?_
    rintro e w4 ⟨_, rfl, hb4, rfl⟩
    replace HB := hid (HB.out.keep hb4)
    replace hrl := D.rd_keep (Keeps.all hb4) _ _ hrl
    replace hj := D.rd_keep (Keeps.all hb4) _ _ hj
    replace hW := hW.trans (hb4.mono hW.size)
    clear hb4 hq4
    have hq5 := spec_JoinStrings (s := q2) hj hbk (by omega)
    rw [Hjr.out, Hjo.out] at hq5
    go_wp2_with fail
    refine hq5.mono ?_
    rintro e w5 ⟨_, rfl, hb5, rfl⟩
    replace HB := hid (HB.out.keep hb5)
    replace hrl := D.rd_keep (Keeps.all hb5) _ _ hrl
    replace hW := hW.trans (hb5.mono hW.size)
    clear hb5 hq5 hj
    go_wp2_with fail
    refine (drawLess_any HB.out).mono ?_
    rintro e w6 ⟨a, b, rfl, hb6⟩
    replace hrl := D.rd_keep (Keeps.all hb6) _ _ hrl
    replace hW := hW.trans (hb6.mono hW.size)
    clear hb6
    have HJ : Hid (Calls Tryd.prog 36 #[.slice la L.length lc, .string q] w6 (Gives w6 (.tuple #[.string (joinR L q), .bool (joinOk L q)]))) := impl_JoinStrings (s := q) hrl HSB.out (by omega)
    have HBA := hid (blt_asymm a.toList b.toList)
    obtain ⟨c, Hc⟩ : ∃ c, Hid (Op.bytesLess a.toList b.toList = c) := ⟨_, hid rfl⟩
    have hL1 := impl_LessString a b w6
    have hL2 := spec_LessString a b w6
    have hL3 := impl_LessString b a w6
    rw [Hc.out] at hL1 hL2 HBA
    clear hrl
    have T : ∀ (r : Bool), True := fun _ => trivial
    cases c
    · go_wp2_with fail
      refine hL1.mono ?_
      rintro e w7 ⟨rfl, rfl⟩
      go_wp2_with fail
      refine hL2.mono ?_
      rintro e w7 ⟨rfl, rfl⟩
      go_wp2_with fail
      refine hL1.mono ?_
      rintro e w7 ⟨rfl, rfl⟩
      clear hL1 hL2 hL3
      by_cases hq1 : q.size = 1
      · have hq1' : ((q.size : Int) != 1) = false := by simp [hq1]
        obtain rfl : k = true := by rw [HSO.out]; simp [hq1]
        obtain ⟨j1, j2⟩ := HSJ.out rfl
        have hj := HJ.out
        rw [j1, j2] at hj
        clear hq1
        go_wp2_with fail
        refine hj.mono ?_
        rintro e w8 ⟨_, rfl, hb8, rfl⟩
        go_wp2_with fail
        go_ret
        exact ⟨rfl, hW.trans (hb8.mono hW.size)⟩
      · have hq1' : ((q.size : Int) != 1) = true := by simp; omega
        obtain rfl : k = false := by rw [HSO.out]; simp [hq1]
        have hl0 := HSN.out rfl
        subst hl0
        clear hq1
        go_wp2_with fail
        go_ret
        exact ⟨rfl, hW⟩
    · rw [HBA.out rfl] at hL3
      go_wp2_with fail
      refine hL1.mono ?_
      rintro e w7 ⟨rfl, rfl⟩
      go_wp2_with fail
      refine hL2.mono ?_
      rintro e w7 ⟨rfl, rfl⟩
      go_wp2_with fail
      refine hL1.mono ?_
      rintro e w7 ⟨rfl, rfl⟩
      go_wp2_with fail
      refine hL3.mono ?_
      rintro e w7 ⟨rfl, rfl⟩
      clear hL1 hL2 hL3
      by_cases hq1 : q.size = 1
      · have hq1' : ((q.size : Int) != 1) = false := by simp [hq1]
        obtain rfl : k = true := by rw [HSO.out]; simp [hq1]
        obtain ⟨j1, j2⟩ := HSJ.out rfl
        have hj := HJ.out
        rw [j1, j2] at hj
        clear hq1
        go_wp2_with fail
        refine hj.mono ?_
        rintro e w8 ⟨_, rfl, hb8, rfl⟩
        go_wp2_with fail
        go_ret
        exact ⟨rfl, hW.trans (hb8.mono hW.size)⟩
      · have hq1' : ((q.size : Int) != 1) = true := by simp; omega
        obtain rfl : k = false := by rw [HSO.out]; simp [hq1]
        have hl0 := HSN.out rfl
        subst hl0
        clear hq1
        go_wp2_with fail
        go_ret
        exact ⟨rfl, hW⟩

/-! the row -/
set_option maxRecDepth 100000 in
theorem lifted (os : Os) (started : os.Started) (H : Type) (enc : TypeId × Value → H) :
    ReturnsInHanded {} Tryd.checked os 10 .any (fun w args => (Rows.fnSplitJoinSpec.pre enc Tryd.prog Tryd.f10 Rows.fnSplitJoinRow.domain false w args ∧ laidMetH Tryd.prog Rows.fnSplitJoinRow.laid w) ∧ sizedMet enc Tryd.prog Tryd.f10 (OpenSpec.ofChange Rows.fnSplitJoinSpec) false w args) (Rows.fnSplitJoinSpec.post enc Tryd.prog Tryd.f10 false true false false) := by
  refine returns_both (C := Tryd.checked) (X := (fun w _ => laidMetH Tryd.prog Rows.fnSplitJoinRow.laid w)) (fun _ _ _ hh h => h.of_heap hh) own started (by kernel_rfl) Tryd.func10
    (ChangeSpec.witness_at (enc := enc) (C := Tryd.checked) (os := os) (X := (fun w _ => laidMetH Tryd.prog Rows.fnSplitJoinRow.laid w)) false (laidWorld os) #[.slice none 0 0] 8 rfl (by kernel_rfl) (by kernel_rfl) (by kernel_rfl) (by kernel_rfl) (by kernel_rfl) (laidWorld_met os _)) ?_
  intro W base args ds gs before hval0 hW hL hSh
  have hF : Fact W := fact_of_laid hL hSh
  have hval : ∀ (j : Nat) t v, Tryd.f10.params[j]? = some t → args[j]? = some v → Value.okWide Tryd.prog W .any base t v := hval0
  have hW' := hW
  obtain ⟨p, q, hA0, hV, rfl, hfz, hnd⟩ := hW
  have hA : DataW.TrodAll enc Tryd.prog W 0 (fun _ => true) true Tryd.f10.params.toList args.toList ds p := hA0
  rw [Tryd.params10] at hA hval
  obtain ⟨v0, vs0, d0, ds0, p0, q0, hargs, rfl, rfl, h0, r0⟩ := trodAll_cons hA
  obtain ⟨rfl, rfl, rfl⟩ := trodAll_nil r0
  obtain rfl : args = #[v0] := by cases args; simp_all
  obtain ⟨rfl, rfl⟩ := trodVars_none hV
  have k0 := h0
  obtain ⟨d, hd⟩ := open_ByteS (hval 0 43 v0 rfl rfl) h0
  clear hA0 hval0
  simp only [List.append_nil] at hW'
  have hlt0 : ∀ x ∈ p0, x.block < W.heap.size := fun x hx => hW'.lt x (by simp [hx])
  refine (walk hF v0 d hd).mono fun e W' ⟨he, hb⟩ => ?_
  subst he
  exact ⟨_, rfl, [d0], [], _, [], p0 ++ [], [], by simpa using hW', trodAll_cons_mk (shut_bool Tryd.underlying4 _) trodAll_mk0, (trodAll_cons_mk (Below.trod laidOut (by kernel_rfl) (of_decide_eq_true (by kernel_rfl)) k0 hb hlt0) trodAll_mk0), rfl, hb.frame _, fun h => by cases h⟩

theorem over : Rows.fnSplitJoinRow.holds Tryd.pinned (OpenSpec.ofChange Rows.fnSplitJoinSpec) :=
  OpenClaim.holds_of_wide 10 Tryd.f10 rfl rfl rfl rfl rfl rfl rfl ⟨rfl, rfl, rfl, rfl, rfl⟩ rfl rfl rfl rfl rfl (by kernel_rfl) Tryd.func10 (by kernel_rfl)
    (of_decide_eq_true (by kernel_rfl)) (by unfold Func.isWrapper; first | (rw [if_pos (by decide +kernel)]; kernel_rfl) | (rw [if_neg (by decide +kernel)]; exact ⟨rfl, rfl⟩))
    (fun os started H enc _ => lifted os started H enc)

theorem proved : Rows.FnSplitJoinCardSaid :=
  Claim7.holds_tied_plain_at .later [] [.data, .pinned] true (true, "0644d1530b21c1081fa100fd9faba0edca2a1d33656676d954e2a7f42d9aab08") true
    over (fun _ h => by cases h) (by kernel_rfl) (fun _ h => by cases h) fnSplitJoin_row_tie rfl ⟨rfl, rfl⟩ (by kernel_rfl) rfl
    (fun f fn hf hfn => by
      obtain rfl : f = 10 := Option.some.inj ((show Tryd.prog.funcNamed "loop.example/g00892/laws.FnSplitJoin" = some 10 by kernel_rfl).symm.trans hf) |>.symm
      obtain rfl : fn = Tryd.f10 := (Option.some.inj (Tryd.func10.symm.trans hfn)).symm
      exact ⟨by kernel_rfl, fun j t ht => by
        rw [Tryd.params10] at ht
        rcases j with _ | j
        · obtain rfl : t = 43 := by simpa using ht.symm
          exact (show Tryd.prog.wantsStandIn 43 = false by kernel_rfl)
        · simp at ht⟩)
    (by kernel_rfl)
#print axioms proved
end Go.Proofs.YtgbfcaehijpgcaaDoor.fnSplitJoin
