/- For every input the law FnStrings returns true, and its argument reads behind the call as it read before it: the tied card. Conditions: the package-level variables that the row lists start as the program's text lays them. -/
import Derived.Test.YtgbfcaehijpgcaaDoorRows
import Derived.Test.YtgbfcaehijpgcaaDoorCards
import Derived.Test.YtgbfcaehijpgcaaDoorTie
import Derived.Test.YtgbfcaehijpgcaaDoorDl
import Derived.OpenShut
import Derived.Deep.RegionHeld3
namespace Go.Proofs.YtgbfcaehijpgcaaDoor.fnStrings
set_option maxRecDepth 100000
open Go Go.ChangeShapes Go.WideShapes Go.ChangeAt Go.RowKit
open Go.ChangeMaps (open_string shut_string)

def Fact (w : World) : Prop := TabF w ∧ ErrF w ∧ MaxF w
theorem Fact.keep {w w' : World} (h : Fact w) (hb : Below w.heap.size w w') : Fact w' := ⟨TabF.keep h.1 hb, ErrF.keep h.2.1 hb, MaxF.keep h.2.2 hb⟩
theorem fact_of_laid {W : World} (h : laidMetH Tryd.prog Rows.fnStringsRow.laid W) (hS : W.ShapedOpen Tryd.prog) : Fact W := ⟨tab_of (laidMetH_iff.1 h).1 rfl, err_of (laidMetH_iff.1 h).1 rfl rfl, max_of hS⟩
theorem laidWorld_met (os : Os) (args : Array Value) : laidMetH Tryd.prog Rows.fnStringsRow.laid ((laidWorld os).forCall (fun _ _ => 0) ⟨#[], args, []⟩).memory :=
  laidMetH_of_parts (laidMet_of_run' 8 (by kernel_rfl) (by kernel_rfl)) (by kernel_rfl)
set_option maxHeartbeats 8000000 in
theorem walk {w : World} (hF : Fact w) (v : Value) (n : Nat) (h : Bytes w v n) : Calls Tryd.prog 11 #[v] w fun e w' => e = .returned (.bool true) ∧ Below w.heap.size w w' := by
  have HB := hid h
  have HF0 := hid hF
  obtain ⟨va, vc, rfl, -⟩ := h
  by_cases hbig : 65536 < n
  · have hb' : decide (65536 < (n : Int)) = true := by simp; omega
    go_enter Tryd.func11, Tryd.ntmps11
    go_wp2_with fail
    refine (vBig_any HB.out).mono ?_
    rintro e w1 ⟨rfl, rfl⟩
    rw [hb']
    go_wp2_with fail
    go_ret
    exact ⟨rfl, Below.refl _ _⟩
  · have hb' : decide (65536 < (n : Int)) = false := by simp; omega
    have hn : n ≤ 65536 := by omega
    go_enter Tryd.func11, Tryd.ntmps11
    go_wp2_with fail
    refine (vBig_any HB.out).mono ?_
    rintro e w1 ⟨rfl, rfl⟩
    rw [hb']
    clear hb' hbig
    go_wp2_with fail
    refine (drawFormat_any HB.out).mono ?_
    rintro e w1 ⟨z, rfl, hW⟩
    replace HB := hid (HB.out.keep hW)
    replace hF := hF.keep hW
    obtain ⟨fR, HfR⟩ : ∃ r, Hid (fmtR z = r) := ⟨_, hid rfl⟩
    obtain ⟨fO, HfO⟩ : ∃ r, Hid (fmtOk z = r) := ⟨_, hid rfl⟩
    have HFB : Hid (fO = true → numOk fR = true ∧ numR fR = z) := fun e => by rw [← HfR.out]; exact fmt_back (HfO.out.trans e)
    have hfz : fR.size ≤ 7 := by rw [← HfR.out]; exact fmtR_size z
    have q1 := impl_FormatInt z hF.1
    rw [HfR.out, HfO.out] at q1
    go_wp2_with fail
    refine q1.mono ?_
    rintro e w2 ⟨_, rfl, hb, rfl⟩
    replace HB := hid (HB.out.keep hb)
    replace hF := hF.keep hb
    replace hW := hW.trans (hb.mono hW.size)
    clear hb
    clear q1
    have q1 := spec_FormatInt z w2
    rw [HfR.out, HfO.out] at q1
    go_wp2_with fail
    refine q1.mono ?_
    rintro e w3 ⟨_, rfl, hb, rfl⟩
    replace HB := hid (HB.out.keep hb)
    replace hF := hF.keep hb
    replace hW := hW.trans (hb.mono hW.size)
    clear hb
    clear q1 HfR HfO
    go_wp2_with fail
    refine (drawParse_any HB.out).mono ?_
    rintro e w4 ⟨t, rfl, ht, hb⟩
    replace HB := hid (HB.out.keep hb)
    replace hF := hF.keep hb
    replace hW := hW.trans (hb.mono hW.size)
    clear hb
    obtain ⟨tR, HtR⟩ : ∃ r, Hid (numR t = r) := ⟨_, hid rfl⟩
    obtain ⟨tO, HtO⟩ : ∃ r, Hid (numOk t = r) := ⟨_, hid rfl⟩
    have q1 := impl_ParseInt t (by omega) hF.1 hF.2.1
    rw [HtR.out, HtO.out] at q1
    go_wp2_with fail
    refine q1.mono ?_
    rintro e w5 ⟨_, rfl, hb, rfl⟩
    replace HB := hid (HB.out.keep hb)
    replace hF := hF.keep hb
    replace hW := hW.trans (hb.mono hW.size)
    clear hb
    clear q1
    have q1 := spec_ParseInt t (by omega) w5
    rw [HtR.out, HtO.out] at q1
    go_wp2_with fail
    refine q1.mono ?_
    rintro e w6 ⟨_, rfl, hb, rfl⟩
    replace HB := hid (HB.out.keep hb)
    replace hF := hF.keep hb
    replace hW := hW.trans (hb.mono hW.size)
    clear hb
    clear q1 HtR HtO
    go_wp2_with fail
    refine (drawAppend_any HB.out).mono ?_
    rintro e w7 ⟨x, rfl, hx, hb⟩
    replace HB := hid (HB.out.keep hb)
    replace hF := hF.keep hb
    replace hW := hW.trans (hb.mono hW.size)
    clear hb
    obtain ⟨y, Hy⟩ : ∃ r, Hid (appR x = r) := ⟨_, hid rfl⟩
    obtain ⟨aO, HaO⟩ : ∃ r, Hid (appOk x = r) := ⟨_, hid rfl⟩
    have hyz : y.size ≤ 4000 := by rw [← Hy.out]; exact appR_size x
    have q1 := impl_AppendChecksum x (by omega) hF.1
    rw [Hy.out, HaO.out] at q1
    go_wp2_with fail
    refine q1.mono ?_
    rintro e w8 ⟨_, rfl, hb, rfl⟩
    replace HB := hid (HB.out.keep hb)
    replace hF := hF.keep hb
    replace hW := hW.trans (hb.mono hW.size)
    clear hb
    clear q1
    have q1 := spec_AppendChecksum x (by omega) w8
    rw [Hy.out, HaO.out] at q1
    go_wp2_with fail
    refine q1.mono ?_
    rintro e w9 ⟨_, rfl, hb, rfl⟩
    replace HB := hid (HB.out.keep hb)
    replace hF := hF.keep hb
    replace hW := hW.trans (hb.mono hW.size)
    clear hb
    clear q1
    have q1 := impl_ParseInt fR (by omega) hF.1 hF.2.1
    obtain ⟨bR, HbR⟩ : ∃ r, Hid (numR fR = r) := ⟨_, hid rfl⟩
    obtain ⟨bO, HbO⟩ : ∃ r, Hid (numOk fR = r) := ⟨_, hid rfl⟩
    rw [HbR.out, HbO.out] at q1 HFB
    go_wp2_with fail
    refine q1.mono ?_
    rintro e w10 ⟨_, rfl, hb, rfl⟩
    replace HB := hid (HB.out.keep hb)
    replace hF := hF.keep hb
    replace hW := hW.trans (hb.mono hW.size)
    clear hb
    clear q1 HbR HbO
    have HC : Hid (fO = false ∨ (fO = true ∧ bO = true ∧ bR = z)) := by
      cases fO
      · exact .inl rfl
      · exact .inr ⟨rfl, HFB.out rfl⟩
    clear HFB
    rcases HC.out with rfl | ⟨rfl, rfl, rfl⟩
    all_goals
      clear HC
      cases aO
      · have hy0 : y = ByteArray.empty := by rw [← Hy.out, appR, if_neg (by rw [HaO.out]; simp)]
        subst hy0
        have he : (ByteArray.empty.toList == ([] : List UInt8)) = true := by decide +kernel
        go_wp2_with fail
        go_ret
        exact ⟨rfl, hW⟩
      · have HY : Hid (y = sealB x) := by rw [Hid, ← Hy.out, appR, if_pos HaO.out]
        have hy1 : 1 ≤ y.size := by rw [HY.out, sealB_size]; omega
        have q1 := impl_VerifyChecksum y (by omega) hF.1 hF.2.2
        rw [HY.out, (ver_seal HaO.out).1, (ver_seal HaO.out).2, ← HY.out] at q1
        go_wp2_with fail
        refine q1.mono ?_
        rintro e w11 ⟨_, rfl, hb, rfl⟩
        replace HB := hid (HB.out.keep hb)
        replace hF := hF.keep hb
        replace hW := hW.trans (hb.mono hW.size)
        clear hb
        clear q1
        have hgw := hW.size
        obtain ⟨cap, w12, hcv, hcap, hcap2, hb, hgl, hcell, hfrz⟩ := bytes_made w11 y (by omega)
        unfold big at hcap2
        replace HB := hid (HB.out.keep hb)
        replace hF := hF.keep hb
        replace hW := hW.trans (hb.mono hW.size)
        clear hb
        obtain ⟨g, Hg⟩ : ∃ g, Hid (w11.heap.size = g) := ⟨_, hid rfl⟩
        rw [Hg.out] at hcv hgl hcell hfrz hgw
        have HCE := hid hcell
        have HFZ := hid hfrz
        have HV := hid (vAt_any HB.out hn 9 (by omega))
        clear hcell hfrz
        go_wp2_with fail
        refine HV.out.mono ?_
        rintro e w13 ⟨⟨r, rfl, r0, r1⟩, rfl⟩
        have hyi : (y.size : Int) ≠ 0 := by omega
        go_wp2_with fail
        obtain ⟨k, hk⟩ : ∃ k : Nat, r % (y.size : Int) = k := ⟨(r % y.size).toNat, by have := Int.emod_nonneg r hyi; omega⟩
        have hkl : k < y.size := by have := Int.emod_lt_of_pos r (show (0 : Int) < y.size by omega); omega
        rw [hk]
        have hkI : (k : Int) < y.size := by omega
        have eC := HCE.out k hkl
        have fC := HFZ.out k hkl
        have hbl := byteAt_lt y k
        have HV2 := hid (vAt_any (HB.out.keep (Below.refl _ _).drew) hn 10 (by omega))
        clear hk r0 r1 hyi HV hcv
        go_region_with (refine HV2.out.mono ?_; rintro e w14 ⟨⟨r2, rfl, s0, s1⟩, rfl⟩)
        all_goals
          have hbd : 1 ≤ IntKind.u8.wrap (IntKind.i64.wrap (1 + r2.tmod 255)) ∧ IntKind.u8.wrap (IntKind.i64.wrap (1 + r2.tmod 255)) < 256 := by
            have h1 := Int.tmod_nonneg 255 s0
            have h2 := Int.tmod_lt_of_pos r2 (show (0 : Int) < 255 by decide)
            generalize r2.tmod 255 = d at *
            rw [IntKind.wrap_i64, IntKind.wrap_u8']
            omega
          obtain ⟨c, hc, hc2, hc3⟩ := flip_byte (a := (byteAt y k : Int)) (by omega) (by omega) hbd.1 hbd.2
          rw [hc]
          have hWf : Below w.heap.size w (w12.setCell ⟨g, k, none⟩ (.int .u8 (c : Int))).drew := (hW.setCell hgw _).drew
          have hcl : ∀ j, j < y.size → (w12.setCell ⟨g, k, none⟩ (.int .u8 (c : Int))).drew.cell? ⟨g, j, none⟩ = some (.int .u8 ((if j = k then c else byteAt y j : Nat) : Int)) := fun j hj => by
            show (w12.setCell ⟨g, k, none⟩ (.int .u8 (c : Int))).cell? ⟨g, j, none⟩ = _
            by_cases e : j = k
            · subst e
              rw [if_pos rfl]
              exact World.cell?_setCell_same (u := .int .u8 (byteAt y j)) _ _ _ eC
            · rw [if_neg e, World.cell?_setCell_other _ _ _ _ (by intro q; injection q with _ q; omega)]
              exact HCE.out j hj
          generalize (w12.setCell ⟨g, k, none⟩ (.int .u8 (c : Int))).drew = W3 at *
          obtain ⟨z2, hz1, hz2, hz3, hz4⟩ := back_text W3 g cap y k c hkl hc2 hcl
          have hv := ver_flip (x := x) (z := z2) (k := k) HaO.out (by rw [← HY.out, hz2]) (by omega) (by rw [← HY.out, hz3]; omega) (fun j hj => by rw [← HY.out]; exact hz4 j hj)
          have hF3 := HF0.out.keep hWf
          have q1 := impl_VerifyChecksum z2 (by omega) hF3.1 hF3.2.2
          rw [hv] at q1
          clear hcl hc hc3 hbd eC fC HCE HFZ HV2 hv hz2 hz3 hz4
          go_wp2_with fail
          refine q1.mono ?_
          rintro e w15 ⟨_, rfl, hb, rfl⟩
          clear q1
          go_wp2_with fail
          go_ret
          exact ⟨rfl, hWf.trans (hb.mono hWf.size)⟩

/-! the row -/
set_option maxRecDepth 100000 in
theorem lifted (os : Os) (started : os.Started) (H : Type) (enc : TypeId × Value → H) :
    ReturnsInHanded {} Tryd.checked os 11 .any (fun w args => (Rows.fnStringsSpec.pre enc Tryd.prog Tryd.f11 Rows.fnStringsRow.domain false w args ∧ laidMetH Tryd.prog Rows.fnStringsRow.laid w) ∧ sizedMet enc Tryd.prog Tryd.f11 (OpenSpec.ofChange Rows.fnStringsSpec) false w args) (Rows.fnStringsSpec.post enc Tryd.prog Tryd.f11 false true false false) := by
  refine returns_both (C := Tryd.checked) (X := (fun w _ => laidMetH Tryd.prog Rows.fnStringsRow.laid w)) (fun _ _ _ hh h => h.of_heap hh) own started (by kernel_rfl) Tryd.func11
    (ChangeSpec.witness_at (enc := enc) (C := Tryd.checked) (os := os) (X := (fun w _ => laidMetH Tryd.prog Rows.fnStringsRow.laid w)) false (laidWorld os) #[.slice none 0 0] 8 rfl (by kernel_rfl) (by kernel_rfl) (by kernel_rfl) (by kernel_rfl) (by kernel_rfl) (laidWorld_met os _)) ?_
  intro W base args ds gs before hval0 hW hL hSh
  have hF : Fact W := fact_of_laid hL hSh
  have hval : ∀ (j : Nat) t v, Tryd.f11.params[j]? = some t → args[j]? = some v → Value.okWide Tryd.prog W .any base t v := hval0
  have hW' := hW
  obtain ⟨p, q, hA0, hV, rfl, hfz, hnd⟩ := hW
  have hA : DataW.TrodAll enc Tryd.prog W 0 (fun _ => true) true Tryd.f11.params.toList args.toList ds p := hA0
  rw [Tryd.params11] at hA hval
  obtain ⟨v0, vs0, d0, ds0, p0, q0, hargs, rfl, rfl, h0, r0⟩ := trodAll_cons hA
  obtain ⟨rfl, rfl, rfl⟩ := trodAll_nil r0
  obtain rfl : args = #[v0] := by cases args; simp_all
  obtain ⟨rfl, rfl⟩ := trodVars_none hV
  have k0 := h0
  obtain ⟨d, hd⟩ := open_ByteS (hval 0 43 v0 rfl rfl) h0
  clear hA0 hval0
  simp only [List.append_nil] at hW'
  have hlt0 : ∀ x ∈ p0, x.block < W.heap.size := fun x hx => hW'.lt x (by simp [hx])
  refine (walk hF v0 d hd).mono fun e W' ⟨he, hb⟩ => ?_
  subst he
  exact ⟨_, rfl, [d0], [], _, [], p0 ++ [], [], by simpa using hW', trodAll_cons_mk (shut_bool Tryd.underlying4 _) trodAll_mk0, (trodAll_cons_mk (Below.trod laidOut (by kernel_rfl) (of_decide_eq_true (by kernel_rfl)) k0 hb hlt0) trodAll_mk0), rfl, hb.frame _, fun h => by cases h⟩

theorem over : Rows.fnStringsRow.holds Tryd.pinned (OpenSpec.ofChange Rows.fnStringsSpec) :=
  OpenClaim.holds_of_wide 11 Tryd.f11 rfl rfl rfl rfl rfl rfl rfl ⟨rfl, rfl, rfl, rfl, rfl⟩ rfl rfl rfl rfl rfl (by kernel_rfl) Tryd.func11 (by kernel_rfl)
    (of_decide_eq_true (by kernel_rfl)) (by unfold Func.isWrapper; first | (rw [if_pos (by decide +kernel)]; kernel_rfl) | (rw [if_neg (by decide +kernel)]; exact ⟨rfl, rfl⟩))
    (fun os started H enc _ => lifted os started H enc)

theorem proved : Rows.FnStringsCardSaid :=
  Claim7.holds_tied_plain_at .later [] [.data, .data, .data, .sentinel, .sentinel] true (true, "0644d1530b21c1081fa100fd9faba0edca2a1d33656676d954e2a7f42d9aab08") true
    over (fun _ h => by cases h) (by kernel_rfl) (fun _ h => by cases h) fnStrings_row_tie rfl ⟨rfl, rfl⟩ (by kernel_rfl) rfl
    (fun f fn hf hfn => by
      obtain rfl : f = 11 := Option.some.inj ((show Tryd.prog.funcNamed "loop.example/g00892/laws.FnStrings" = some 11 by kernel_rfl).symm.trans hf) |>.symm
      obtain rfl : fn = Tryd.f11 := (Option.some.inj (Tryd.func11.symm.trans hfn)).symm
      exact ⟨by kernel_rfl, fun j t ht => by
        rw [Tryd.params11] at ht
        rcases j with _ | j
        · obtain rfl : t = 43 := by simpa using ht.symm
          exact (show Tryd.prog.wantsStandIn 43 = false by kernel_rfl)
        · simp at ht⟩)
    (by kernel_rfl)
#print axioms proved
end Go.Proofs.YtgbfcaehijpgcaaDoor.fnStrings
