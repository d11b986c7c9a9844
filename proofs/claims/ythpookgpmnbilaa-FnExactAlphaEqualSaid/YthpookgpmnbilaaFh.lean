/- The program tells the forms of formulas. -/
import Derived.Test.YthpookgpmnbilaaFf
namespace Go.Proofs.Ythpookgpmnbilaa
set_option maxRecDepth 100000
open Go.RowKit

def FoundF (ts : List Fm) (p : Fm → Bool) (w : World) (e : Ending) (w' : World) : Prop := ∃ r : Int, e = .returned (.int .i64 r) ∧ ((0 ≤ r ∧ ts.any p = true) ∨ (r < 0 ∧ ts.any p = false)) ∧ Below w.heap.size w w'
theorem Fm.bulk_at {ts : List Fm} {k : Nat} (hk : k < ts.length) : ts[k].bulk ≤ Fm.bulks ts := Fm.bulk_mem (List.getElem_mem hk)

set_option maxHeartbeats 1000000 in
theorem indexFuncF (f : FuncId) (hcf : Callable f) (p : Fm → Bool) (ts : List Fm) (h : ∀ t ∈ ts, PredF f p t) {S : Nat → Prop} {v : Value} {w : World} (hs : D.rd S w v (Fm.sd ts)) (hbk : Fm.bulks ts ≤ 1048576) :
    Calls Try.prog 99 #[v, .func (.func f) #[] #[]] w (FoundF ts p w) := by
  obtain ⟨a, cap, rfl, hlen, hcap⟩ := Fm.sd_form hs
  unfold big at hlen
  go_enter Try.func99, Try.ntmps99
  go_wp2_with fail
  go_loopw [8] (fun i wr => ∃ k : Nat, k ≤ ts.length ∧ i = .int .i64 k ∧ Hid ((ts.take k).any p = false) ∧ Below w.heap.size w wr) (fun i _ => ts.length - (intOf i).toNat)
  case atStart => exact ⟨0, Nat.zero_le _, rfl, by simp [Hid], Below.refl _ _⟩
  case round =>
    obtain ⟨k, hk, rfl, HX, hb⟩ := hrel
    by_cases hlt : k < ts.length
    · have hne : ts ≠ [] := by intro e; subst e; simp at hlt
      obtain ⟨b, off, rfl, hS, hbl, hrr⟩ := Fm.sd_get hs hne
      obtain ⟨c0, c1, c2, c3, c4, q0, q1, q2, q3, q4, qx⟩ := hrr k hlt
      replace q0 := (hb.cell (p := ⟨b, off + k * 5, none⟩) hbl).trans q0
      replace q1 := (hb.cell (p := ⟨b, off + k * 5 + 1, none⟩) hbl).trans q1
      replace q2 := (hb.cell (p := ⟨b, off + k * 5 + 2, none⟩) hbl).trans q2
      replace q3 := (hb.cell (p := ⟨b, off + k * 5 + 3, none⟩) hbl).trans q3
      replace q4 := (hb.cell (p := ⟨b, off + k * 5 + 4, none⟩) hbl).trans q4
      replace qx := Fm.at_keep (Keeps.all hb) qx
      have hmem := h ts[k] (List.getElem_mem hlt)
      have hbm : ts[k].bulk ≤ 1048576 := Nat.le_trans (Fm.bulk_at hlt) hbk
      clear hrr hs
      unfold Callable at hcf
      go_wp2_with fail
      refine (hmem qx hbm).mono ?_
      rintro e w2 ⟨_, rfl, hb2, rfl⟩
      by_cases hp : p ts[k] = true
      · have HF : Hid (ts.any p = true) := List.any_eq_true.2 ⟨_, List.getElem_mem hlt, hp⟩
        rw [hp]
        clear hp
        go_wp2_with fail
        go_ret
        exact ⟨k, rfl, .inl ⟨by omega, HF.out⟩, hb.trans (hb2.mono hb.size)⟩
      · have HF : Hid ((ts.take (k + 1)).any p = false) := by
          rw [Hid, List.take_succ_eq_append_getElem hlt, List.any_append, HX.out]; simpa using hp
        rw [Bool.eq_false_iff.2 hp]
        clear hp
        go_wp2_with fail
        go_roundw
        case rel => exact ⟨k + 1, by omega, by go_num, HF, hb.trans (hb2.mono hb.size)⟩
        case measure => simp [intOf]; omega
    · obtain rfl : k = ts.length := by omega
      have HF : Hid (ts.any p = false) := by have := HX.out; rwa [List.take_length] at this
      go_wp2_with fail
      go_ret
      exact ⟨-1, rfl, .inr ⟨by omega, HF.out⟩, hb⟩
set_option maxHeartbeats 400000 in
theorem containsFuncF (f : FuncId) (hcf : Callable f) (p : Fm → Bool) (ts : List Fm) (h : ∀ t ∈ ts, PredF f p t) {S : Nat → Prop} {v : Value} {w : World} (hs : D.rd S w v (Fm.sd ts)) (hbk : Fm.bulks ts ≤ 1048576) :
    Calls Try.prog 73 #[v, .func (.func f) #[] #[]] w (Gives w (.bool (ts.any p))) := by
  go_enter Try.func73, Try.ntmps73
  go_wp2_with fail
  refine (indexFuncF f hcf p ts h hs hbk).mono ?_
  rintro e w' ⟨r, rfl, hr, hb⟩
  rcases hr with ⟨h0, h1⟩ | ⟨h0, h1⟩
  · have H := hid h1
    clear h1
    go_wp2_with fail
    go_ret
    exact Gives.mk (ret_bool H.out.symm) hb
  · have H := hid h1
    clear h1
    go_wp2_with fail
    go_ret
    exact Gives.mk (ret_bool (by rw [H.out]; simp; omega)) hb

theorem callableF : Callable 74 := fun _ _ => by kernel_rfl
set_option maxHeartbeats 1000000 in
theorem hasForm1_of {t : Fm} (h : PredF 49 Fm.forms t) : PredF 74 (fun t => !t.forms) t := by
  intro S c0 c1 c2 c3 c4 w hT hbk
  obtain ⟨rfl, rfl, ⟨a, cap, rfl⟩, rfl, a2, cap2, rfl⟩ := Fm.at_form hT
  have hW : Below w.heap.size w (w.alloc (.cells #[.int .i64 t.op, .string t.atom.name, .slice a t.atom.args.length cap, .string t.v, .slice a2 t.parts.length cap2] 36)) := (Below.refl _ _).alloc (Nat.le_refl _) _
  have bT : Box (w.alloc (.cells #[.int .i64 t.op, .string t.atom.name, .slice a t.atom.args.length cap, .string t.v, .slice a2 t.parts.length cap2] 36)) w.heap.size [.int .i64 t.op, .string t.atom.name, .slice a t.atom.args.length cap, .string t.v, .slice a2 t.parts.length cap2] := Box.new w _ _
  replace hT := Fm.at_keep (Keeps.all hW) hT
  go_enter Try.func74, Try.ntmps74
  go_wp2_with fail
  generalize (w.alloc (.cells #[.int .i64 t.op, .string t.atom.name, .slice a t.atom.args.length cap, .string t.v, .slice a2 t.parts.length cap2] 36)) = w0 at *
  refine (h hT hbk).mono ?_
  rintro e w1 ⟨_, rfl, hb, rfl⟩
  replace hW := hW.trans (hb.mono hW.size)
  replace bT := bT.keep hb
  replace hT := Fm.at_keep (Keeps.all hb) hT
  clear hb
  have eT0 := bT.c0
  have eT1 := bT.c1
  have eT2 := bT.c2
  have eT3 := bT.c3
  have eT4 := bT.c4
  have lT := bT.lt
  go_wp2_with fail
  clear eT0 eT1 eT2 eT3 eT4 lT
  go_ret
  exact Gives.mk rfl hW

set_option maxHeartbeats 4000000 in
theorem hasForm_of (t : Fm) (h : ∀ p ∈ t.parts, PredF 49 Fm.forms p) : PredF 49 Fm.forms t := by
  intro S c0 c1 c2 c3 c4 w hT hbk
  have hbA : t.atom.bulk ≤ 1048576 := by have := Fm.bulk_eq t; omega
  have hbP : Fm.bulks t.parts ≤ 1048576 := by have := Fm.bulk_eq t; omega
  have hlen : t.parts.length ≤ 1048576 := by have := Fm.bulk_eq t; omega
  obtain ⟨n, HN⟩ : ∃ n, Hid (t.parts.length = n) := ⟨_, hid rfl⟩
  have hn : n ≤ 1048576 := by have := HN.out; omega
  by_cases o1 : t.op = 1
  · have HF : Hid (t.form = (decide (t.parts.length = 0) && t.atom.none && decide (t.v = ⟨#[]⟩))) := by rw [Hid, Fm.form_1 o1]
    have Q1 : quantOp t.op = false := by rw [o1]; rfl
    have Q2 : quantOp 1 = false := rfl
    have s4 : (t.op != 3) = true := by simp [o1]
    have s3 : (t.op == 3) = false := by simp [o1]
    have s1 : (t.op == 1) = true := by simp [o1]
    clear o1
    by_cases hl : t.parts.length = 0
    · have hl2 : ((n : Int) == 0) = true := by rw [beq_iff_eq]; have := HN.out; omega
      have hl3 : ((n : Int) != 0) = false := by rw [bne, hl2]; rfl
      by_cases hv : t.v = ⟨#[]⟩
      · have hv2 := toList_nil hv
        have hv3 := toList_emp hv
        have HG : Hid (t.forms = (t.atom.none && Fm.formsAll t.parts)) := by rw [Hid, Fm.forms_eq, HF.out]; simp [hl, hv]
        clear hl hv
        by_cases ha : t.atom.none = true
        · have HH : Hid (t.forms = Fm.formsAll t.parts) := by rw [Hid, HG.out, ha]; rfl
          obtain ⟨rfl, rfl, ⟨a, cap, rfl⟩, rfl, a2, cap2, rfl⟩ := Fm.at_form hT
          rw [HN.out] at hT ⊢
          have hW : Below w.heap.size w (w.alloc (.cells #[.int .i64 t.op, .string t.atom.name, .slice a t.atom.args.length cap, .string t.v, .slice a2 n cap2] 36)) := (Below.refl _ _).alloc (Nat.le_refl _) _
          have bT : Box (w.alloc (.cells #[.int .i64 t.op, .string t.atom.name, .slice a t.atom.args.length cap, .string t.v, .slice a2 n cap2] 36)) w.heap.size [.int .i64 t.op, .string t.atom.name, .slice a t.atom.args.length cap, .string t.v, .slice a2 n cap2] := Box.new w _ _
          replace hT := Fm.at_keep (Keeps.all hW) hT
          go_enter Try.func49, Try.ntmps49
          go_wp2_with fail
          generalize (w.alloc (.cells #[.int .i64 t.op, .string t.atom.name, .slice a t.atom.args.length cap, .string t.v, .slice a2 n cap2] 36)) = w0 at *
          have eT0 := bT.c0
          have eT1 := bT.c1
          have eT2 := bT.c2
          have eT3 := bT.c3
          have eT4 := bT.c4
          have lT := bT.lt
          refine (isQuantifier_any _ _).mono ?_
          rintro e w4 ⟨rfl, rfl⟩
          first | rw [Q1] | rw [Q2]
          go_wp2_with fail
          refine (isQuantifier_any _ _).mono ?_
          rintro e w4 ⟨rfl, rfl⟩
          first | rw [Q1] | rw [Q2]
          go_wp2_with fail
          clear eT0 eT1 eT2 eT3 eT4 lT
          refine (isZeroTerm_any t.atom (Fm.at_atom hT) hbA).mono ?_
          rintro e w1 ⟨_, rfl, hb, rfl⟩
          replace hW := hW.trans (hb.mono hW.size)
          replace bT := bT.keep hb
          replace hT := Fm.at_keep (Keeps.all hb) hT
          clear hb
          rw [ha]
          have eT0 := bT.c0
          have eT1 := bT.c1
          have eT2 := bT.c2
          have eT3 := bT.c3
          have eT4 := bT.c4
          have lT := bT.lt
          go_wp2_with fail
          clear eT0 eT1 eT2 eT3 eT4 lT
          refine (containsFuncF 74 callableF (fun t => !t.forms) t.parts (fun p hp => hasForm1_of (h p hp)) (Fm.at_parts hT) hbP).mono ?_
          rintro e w5 ⟨_, rfl, hb, rfl⟩
          rw [Fm.any_forms]
          go_wp2_with fail
          go_ret
          exact Gives.mk (ret_bool (by rw [HH.out])) (hW.trans (hb.mono hW.size))
        · replace ha : t.atom.none = false := by simpa using ha
          have HH : Hid (t.forms = false) := by rw [Hid, HG.out, ha]; rfl
          obtain ⟨rfl, rfl, ⟨a, cap, rfl⟩, rfl, a2, cap2, rfl⟩ := Fm.at_form hT
          rw [HN.out] at hT ⊢
          have hW : Below w.heap.size w (w.alloc (.cells #[.int .i64 t.op, .string t.atom.name, .slice a t.atom.args.length cap, .string t.v, .slice a2 n cap2] 36)) := (Below.refl _ _).alloc (Nat.le_refl _) _
          have bT : Box (w.alloc (.cells #[.int .i64 t.op, .string t.atom.name, .slice a t.atom.args.length cap, .string t.v, .slice a2 n cap2] 36)) w.heap.size [.int .i64 t.op, .string t.atom.name, .slice a t.atom.args.length cap, .string t.v, .slice a2 n cap2] := Box.new w _ _
          replace hT := Fm.at_keep (Keeps.all hW) hT
          go_enter Try.func49, Try.ntmps49
          go_wp2_with fail
          generalize (w.alloc (.cells #[.int .i64 t.op, .string t.atom.name, .slice a t.atom.args.length cap, .string t.v, .slice a2 n cap2] 36)) = w0 at *
          have eT0 := bT.c0
          have eT1 := bT.c1
          have eT2 := bT.c2
          have eT3 := bT.c3
          have eT4 := bT.c4
          have lT := bT.lt
          refine (isQuantifier_any _ _).mono ?_
          rintro e w4 ⟨rfl, rfl⟩
          first | rw [Q1] | rw [Q2]
          go_wp2_with fail
          refine (isQuantifier_any _ _).mono ?_
          rintro e w4 ⟨rfl, rfl⟩
          first | rw [Q1] | rw [Q2]
          go_wp2_with fail
          clear eT0 eT1 eT2 eT3 eT4 lT
          refine (isZeroTerm_any t.atom (Fm.at_atom hT) hbA).mono ?_
          rintro e w1 ⟨_, rfl, hb, rfl⟩
          replace hW := hW.trans (hb.mono hW.size)
          replace bT := bT.keep hb
          replace hT := Fm.at_keep (Keeps.all hb) hT
          clear hb
          rw [ha]
          have eT0 := bT.c0
          have eT1 := bT.c1
          have eT2 := bT.c2
          have eT3 := bT.c3
          have eT4 := bT.c4
          have lT := bT.lt
          go_wp2_with fail
          clear eT0 eT1 eT2 eT3 eT4 lT
          go_ret
          exact Gives.mk (ret_bool HH.out.symm) hW
      · have hv2 := toList_cons hv
        have hv3 := toList_nemp hv
        have HH : Hid (t.forms = false) := by rw [Hid, Fm.forms_eq, HF.out]; simp [hv]
        clear hl hv
        obtain ⟨rfl, rfl, ⟨a, cap, rfl⟩, rfl, a2, cap2, rfl⟩ := Fm.at_form hT
        rw [HN.out] at hT ⊢
        have hW : Below w.heap.size w (w.alloc (.cells #[.int .i64 t.op, .string t.atom.name, .slice a t.atom.args.length cap, .string t.v, .slice a2 n cap2] 36)) := (Below.refl _ _).alloc (Nat.le_refl _) _
        have bT : Box (w.alloc (.cells #[.int .i64 t.op, .string t.atom.name, .slice a t.atom.args.length cap, .string t.v, .slice a2 n cap2] 36)) w.heap.size [.int .i64 t.op, .string t.atom.name, .slice a t.atom.args.length cap, .string t.v, .slice a2 n cap2] := Box.new w _ _
        replace hT := Fm.at_keep (Keeps.all hW) hT
        go_enter Try.func49, Try.ntmps49
        go_wp2_with fail
        generalize (w.alloc (.cells #[.int .i64 t.op, .string t.atom.name, .slice a t.atom.args.length cap, .string t.v, .slice a2 n cap2] 36)) = w0 at *
        have eT0 := bT.c0
        have eT1 := bT.c1
        have eT2 := bT.c2
        have eT3 := bT.c3
        have eT4 := bT.c4
        have lT := bT.lt
        refine (isQuantifier_any _ _).mono ?_
        rintro e w4 ⟨rfl, rfl⟩
        first | rw [Q1] | rw [Q2]
        go_wp2_with fail
        refine (isQuantifier_any _ _).mono ?_
        rintro e w4 ⟨rfl, rfl⟩
        first | rw [Q1] | rw [Q2]
        go_wp2_with fail
        go_ret
        exact Gives.mk (ret_bool HH.out.symm) hW
    · have hl2 : ((n : Int) == 0) = false := by rw [beq_eq_false_iff_ne]; have := HN.out; omega
      have hl3 : ((n : Int) != 0) = true := by rw [bne, hl2]; rfl
      have HH : Hid (t.forms = false) := by rw [Hid, Fm.forms_eq, HF.out]; simp [hl]
      clear hl
      obtain ⟨rfl, rfl, ⟨a, cap, rfl⟩, rfl, a2, cap2, rfl⟩ := Fm.at_form hT
      rw [HN.out] at hT ⊢
      have hW : Below w.heap.size w (w.alloc (.cells #[.int .i64 t.op, .string t.atom.name, .slice a t.atom.args.length cap, .string t.v, .slice a2 n cap2] 36)) := (Below.refl _ _).alloc (Nat.le_refl _) _
      have bT : Box (w.alloc (.cells #[.int .i64 t.op, .string t.atom.name, .slice a t.atom.args.length cap, .string t.v, .slice a2 n cap2] 36)) w.heap.size [.int .i64 t.op, .string t.atom.name, .slice a t.atom.args.length cap, .string t.v, .slice a2 n cap2] := Box.new w _ _
      replace hT := Fm.at_keep (Keeps.all hW) hT
      go_enter Try.func49, Try.ntmps49
      go_wp2_with fail
      generalize (w.alloc (.cells #[.int .i64 t.op, .string t.atom.name, .slice a t.atom.args.length cap, .string t.v, .slice a2 n cap2] 36)) = w0 at *
      have eT0 := bT.c0
      have eT1 := bT.c1
      have eT2 := bT.c2
      have eT3 := bT.c3
      have eT4 := bT.c4
      have lT := bT.lt
      go_ret
      exact Gives.mk (ret_bool HH.out.symm) hW
  have p1 : (t.op == 1) = false := by simp [o1]
  have r1 := hid o1
  clear o1
  by_cases o1 : t.op = 2
  · have HF : Hid (t.form = (decide (t.parts.length = 0) && t.atom.none && decide (t.v = ⟨#[]⟩))) := by rw [Hid, Fm.form_2 o1]
    have Q1 : quantOp t.op = false := by rw [o1]; rfl
    have Q2 : quantOp 2 = false := rfl
    have s4 : (t.op != 3) = true := by simp [o1]
    have s3 : (t.op == 3) = false := by simp [o1]
    have s1 : (t.op == 2) = true := by simp [o1]
    clear o1
    by_cases hl : t.parts.length = 0
    · have hl2 : ((n : Int) == 0) = true := by rw [beq_iff_eq]; have := HN.out; omega
      have hl3 : ((n : Int) != 0) = false := by rw [bne, hl2]; rfl
      by_cases hv : t.v = ⟨#[]⟩
      · have hv2 := toList_nil hv
        have hv3 := toList_emp hv
        have HG : Hid (t.forms = (t.atom.none && Fm.formsAll t.parts)) := by rw [Hid, Fm.forms_eq, HF.out]; simp [hl, hv]
        clear hl hv
        by_cases ha : t.atom.none = true
        · have HH : Hid (t.forms = Fm.formsAll t.parts) := by rw [Hid, HG.out, ha]; rfl
          obtain ⟨rfl, rfl, ⟨a, cap, rfl⟩, rfl, a2, cap2, rfl⟩ := Fm.at_form hT
          rw [HN.out] at hT ⊢
          have hW : Below w.heap.size w (w.alloc (.cells #[.int .i64 t.op, .string t.atom.name, .slice a t.atom.args.length cap, .string t.v, .slice a2 n cap2] 36)) := (Below.refl _ _).alloc (Nat.le_refl _) _
          have bT : Box (w.alloc (.cells #[.int .i64 t.op, .string t.atom.name, .slice a t.atom.args.length cap, .string t.v, .slice a2 n cap2] 36)) w.heap.size [.int .i64 t.op, .string t.atom.name, .slice a t.atom.args.length cap, .string t.v, .slice a2 n cap2] := Box.new w _ _
          replace hT := Fm.at_keep (Keeps.all hW) hT
          go_enter Try.func49, Try.ntmps49
          go_wp2_with fail
          generalize (w.alloc (.cells #[.int .i64 t.op, .string t.atom.name, .slice a t.atom.args.length cap, .string t.v, .slice a2 n cap2] 36)) = w0 at *
          have eT0 := bT.c0
          have eT1 := bT.c1
          have eT2 := bT.c2
          have eT3 := bT.c3
          have eT4 := bT.c4
          have lT := bT.lt
          refine (isQuantifier_any _ _).mono ?_
          rintro e w4 ⟨rfl, rfl⟩
          first | rw [Q1] | rw [Q2]
          go_wp2_with fail
          refine (isQuantifier_any _ _).mono ?_
          rintro e w4 ⟨rfl, rfl⟩
          first | rw [Q1] | rw [Q2]
          go_wp2_with fail
          clear eT0 eT1 eT2 eT3 eT4 lT
          refine (isZeroTerm_any t.atom (Fm.at_atom hT) hbA).mono ?_
          rintro e w1 ⟨_, rfl, hb, rfl⟩
          replace hW := hW.trans (hb.mono hW.size)
          replace bT := bT.keep hb
          replace hT := Fm.at_keep (Keeps.all hb) hT
          clear hb
          rw [ha]
          have eT0 := bT.c0
          have eT1 := bT.c1
          have eT2 := bT.c2
          have eT3 := bT.c3
          have eT4 := bT.c4
          have lT := bT.lt
          go_wp2_with fail
          clear eT0 eT1 eT2 eT3 eT4 lT
          refine (containsFuncF 74 callableF (fun t => !t.forms) t.parts (fun p hp => hasForm1_of (h p hp)) (Fm.at_parts hT) hbP).mono ?_
          rintro e w5 ⟨_, rfl, hb, rfl⟩
          rw [Fm.any_forms]
          go_wp2_with fail
          go_ret
          exact Gives.mk (ret_bool (by rw [HH.out])) (hW.trans (hb.mono hW.size))
        · replace ha : t.atom.none = false := by simpa using ha
          have HH : Hid (t.forms = false) := by rw [Hid, HG.out, ha]; rfl
          obtain ⟨rfl, rfl, ⟨a, cap, rfl⟩, rfl, a2, cap2, rfl⟩ := Fm.at_form hT
          rw [HN.out] at hT ⊢
          have hW : Below w.heap.size w (w.alloc (.cells #[.int .i64 t.op, .string t.atom.name, .slice a t.atom.args.length cap, .string t.v, .slice a2 n cap2] 36)) := (Below.refl _ _).alloc (Nat.le_refl _) _
          have bT : Box (w.alloc (.cells #[.int .i64 t.op, .string t.atom.name, .slice a t.atom.args.length cap, .string t.v, .slice a2 n cap2] 36)) w.heap.size [.int .i64 t.op, .string t.atom.name, .slice a t.atom.args.length cap, .string t.v, .slice a2 n cap2] := Box.new w _ _
          replace hT := Fm.at_keep (Keeps.all hW) hT
          go_enter Try.func49, Try.ntmps49
          go_wp2_with fail
          generalize (w.alloc (.cells #[.int .i64 t.op, .string t.atom.name, .slice a t.atom.args.length cap, .string t.v, .slice a2 n cap2] 36)) = w0 at *
          have eT0 := bT.c0
          have eT1 := bT.c1
          have eT2 := bT.c2
          have eT3 := bT.c3
          have eT4 := bT.c4
          have lT := bT.lt
          refine (isQuantifier_any _ _).mono ?_
          rintro e w4 ⟨rfl, rfl⟩
          first | rw [Q1] | rw [Q2]
          go_wp2_with fail
          refine (isQuantifier_any _ _).mono ?_
          rintro e w4 ⟨rfl, rfl⟩
          first | rw [Q1] | rw [Q2]
          go_wp2_with fail
          clear eT0 eT1 eT2 eT3 eT4 lT
          refine (isZeroTerm_any t.atom (Fm.at_atom hT) hbA).mono ?_
          rintro e w1 ⟨_, rfl, hb, rfl⟩
          replace hW := hW.trans (hb.mono hW.size)
          replace bT := bT.keep hb
          replace hT := Fm.at_keep (Keeps.all hb) hT
          clear hb
          rw [ha]
          have eT0 := bT.c0
          have eT1 := bT.c1
          have eT2 := bT.c2
          have eT3 := bT.c3
          have eT4 := bT.c4
          have lT := bT.lt
          go_wp2_with fail
          clear eT0 eT1 eT2 eT3 eT4 lT
          go_ret
          exact Gives.mk (ret_bool HH.out.symm) hW
      · have hv2 := toList_cons hv
        have hv3 := toList_nemp hv
        have HH : Hid (t.forms = false) := by rw [Hid, Fm.forms_eq, HF.out]; simp [hv]
        clear hl hv
        obtain ⟨rfl, rfl, ⟨a, cap, rfl⟩, rfl, a2, cap2, rfl⟩ := Fm.at_form hT
        rw [HN.out] at hT ⊢
        have hW : Below w.heap.size w (w.alloc (.cells #[.int .i64 t.op, .string t.atom.name, .slice a t.atom.args.length cap, .string t.v, .slice a2 n cap2] 36)) := (Below.refl _ _).alloc (Nat.le_refl _) _
        have bT : Box (w.alloc (.cells #[.int .i64 t.op, .string t.atom.name, .slice a t.atom.args.length cap, .string t.v, .slice a2 n cap2] 36)) w.heap.size [.int .i64 t.op, .string t.atom.name, .slice a t.atom.args.length cap, .string t.v, .slice a2 n cap2] := Box.new w _ _
        replace hT := Fm.at_keep (Keeps.all hW) hT
        go_enter Try.func49, Try.ntmps49
        go_wp2_with fail
        generalize (w.alloc (.cells #[.int .i64 t.op, .string t.atom.name, .slice a t.atom.args.length cap, .string t.v, .slice a2 n cap2] 36)) = w0 at *
        have eT0 := bT.c0
        have eT1 := bT.c1
        have eT2 := bT.c2
        have eT3 := bT.c3
        have eT4 := bT.c4
        have lT := bT.lt
        refine (isQuantifier_any _ _).mono ?_
        rintro e w4 ⟨rfl, rfl⟩
        first | rw [Q1] | rw [Q2]
        go_wp2_with fail
        refine (isQuantifier_any _ _).mono ?_
        rintro e w4 ⟨rfl, rfl⟩
        first | rw [Q1] | rw [Q2]
        go_wp2_with fail
        go_ret
        exact Gives.mk (ret_bool HH.out.symm) hW
    · have hl2 : ((n : Int) == 0) = false := by rw [beq_eq_false_iff_ne]; have := HN.out; omega
      have hl3 : ((n : Int) != 0) = true := by rw [bne, hl2]; rfl
      have HH : Hid (t.forms = false) := by rw [Hid, Fm.forms_eq, HF.out]; simp [hl]
      clear hl
      obtain ⟨rfl, rfl, ⟨a, cap, rfl⟩, rfl, a2, cap2, rfl⟩ := Fm.at_form hT
      rw [HN.out] at hT ⊢
      have hW : Below w.heap.size w (w.alloc (.cells #[.int .i64 t.op, .string t.atom.name, .slice a t.atom.args.length cap, .string t.v, .slice a2 n cap2] 36)) := (Below.refl _ _).alloc (Nat.le_refl _) _
      have bT : Box (w.alloc (.cells #[.int .i64 t.op, .string t.atom.name, .slice a t.atom.args.length cap, .string t.v, .slice a2 n cap2] 36)) w.heap.size [.int .i64 t.op, .string t.atom.name, .slice a t.atom.args.length cap, .string t.v, .slice a2 n cap2] := Box.new w _ _
      replace hT := Fm.at_keep (Keeps.all hW) hT
      go_enter Try.func49, Try.ntmps49
      go_wp2_with fail
      generalize (w.alloc (.cells #[.int .i64 t.op, .string t.atom.name, .slice a t.atom.args.length cap, .string t.v, .slice a2 n cap2] 36)) = w0 at *
      have eT0 := bT.c0
      have eT1 := bT.c1
      have eT2 := bT.c2
      have eT3 := bT.c3
      have eT4 := bT.c4
      have lT := bT.lt
      go_ret
      exact Gives.mk (ret_bool HH.out.symm) hW
  have p2 : (t.op == 2) = false := by simp [o1]
  have r2 := hid o1
  clear o1
  by_cases o1 : t.op = 3
  · have HF : Hid (t.form = (decide (t.parts.length = 0) && t.atom.atom && decide (t.v = ⟨#[]⟩))) := by rw [Hid, Fm.form_3 o1]
    have Q1 : quantOp t.op = false := by rw [o1]; rfl
    have Q2 : quantOp 3 = false := rfl
    have s4 : (t.op != 3) = false := by simp [o1]
    have s1 : (t.op == 3) = true := by simp [o1]
    clear o1
    by_cases hl : t.parts.length = 0
    · have hl2 : ((n : Int) == 0) = true := by rw [beq_iff_eq]; have := HN.out; omega
      have hl3 : ((n : Int) != 0) = false := by rw [bne, hl2]; rfl
      by_cases hv : t.v = ⟨#[]⟩
      · have hv2 := toList_nil hv
        have hv3 := toList_emp hv
        have HG : Hid (t.forms = (t.atom.atom && Fm.formsAll t.parts)) := by rw [Hid, Fm.forms_eq, HF.out]; simp [hl, hv]
        clear hl hv
        by_cases ha : t.atom.atom = true
        · have HH : Hid (t.forms = Fm.formsAll t.parts) := by rw [Hid, HG.out, ha]; rfl
          obtain ⟨rfl, rfl, ⟨a, cap, rfl⟩, rfl, a2, cap2, rfl⟩ := Fm.at_form hT
          rw [HN.out] at hT ⊢
          have hW : Below w.heap.size w (w.alloc (.cells #[.int .i64 t.op, .string t.atom.name, .slice a t.atom.args.length cap, .string t.v, .slice a2 n cap2] 36)) := (Below.refl _ _).alloc (Nat.le_refl _) _
          have bT : Box (w.alloc (.cells #[.int .i64 t.op, .string t.atom.name, .slice a t.atom.args.length cap, .string t.v, .slice a2 n cap2] 36)) w.heap.size [.int .i64 t.op, .string t.atom.name, .slice a t.atom.args.length cap, .string t.v, .slice a2 n cap2] := Box.new w _ _
          replace hT := Fm.at_keep (Keeps.all hW) hT
          go_enter Try.func49, Try.ntmps49
          go_wp2_with fail
          generalize (w.alloc (.cells #[.int .i64 t.op, .string t.atom.name, .slice a t.atom.args.length cap, .string t.v, .slice a2 n cap2] 36)) = w0 at *
          have eT0 := bT.c0
          have eT1 := bT.c1
          have eT2 := bT.c2
          have eT3 := bT.c3
          have eT4 := bT.c4
          have lT := bT.lt
          refine (isQuantifier_any _ _).mono ?_
          rintro e w4 ⟨rfl, rfl⟩
          first | rw [Q1] | rw [Q2]
          go_wp2_with fail
          refine (isQuantifier_any _ _).mono ?_
          rintro e w4 ⟨rfl, rfl⟩
          first | rw [Q1] | rw [Q2]
          go_wp2_with fail
          clear eT0 eT1 eT2 eT3 eT4 lT
          refine (isValidAtom_any t.atom (Fm.at_atom hT) hbA).mono ?_
          rintro e w1 ⟨_, rfl, hb, rfl⟩
          replace hW := hW.trans (hb.mono hW.size)
          replace bT := bT.keep hb
          replace hT := Fm.at_keep (Keeps.all hb) hT
          clear hb
          rw [ha]
          have eT0 := bT.c0
          have eT1 := bT.c1
          have eT2 := bT.c2
          have eT3 := bT.c3
          have eT4 := bT.c4
          have lT := bT.lt
          go_wp2_with fail
          clear eT0 eT1 eT2 eT3 eT4 lT
          refine (containsFuncF 74 callableF (fun t => !t.forms) t.parts (fun p hp => hasForm1_of (h p hp)) (Fm.at_parts hT) hbP).mono ?_
          rintro e w5 ⟨_, rfl, hb, rfl⟩
          rw [Fm.any_forms]
          go_wp2_with fail
          go_ret
          exact Gives.mk (ret_bool (by rw [HH.out])) (hW.trans (hb.mono hW.size))
        · replace ha : t.atom.atom = false := by simpa using ha
          have HH : Hid (t.forms = false) := by rw [Hid, HG.out, ha]; rfl
          obtain ⟨rfl, rfl, ⟨a, cap, rfl⟩, rfl, a2, cap2, rfl⟩ := Fm.at_form hT
          rw [HN.out] at hT ⊢
          have hW : Below w.heap.size w (w.alloc (.cells #[.int .i64 t.op, .string t.atom.name, .slice a t.atom.args.length cap, .string t.v, .slice a2 n cap2] 36)) := (Below.refl _ _).alloc (Nat.le_refl _) _
          have bT : Box (w.alloc (.cells #[.int .i64 t.op, .string t.atom.name, .slice a t.atom.args.length cap, .string t.v, .slice a2 n cap2] 36)) w.heap.size [.int .i64 t.op, .string t.atom.name, .slice a t.atom.args.length cap, .string t.v, .slice a2 n cap2] := Box.new w _ _
          replace hT := Fm.at_keep (Keeps.all hW) hT
          go_enter Try.func49, Try.ntmps49
          go_wp2_with fail
          generalize (w.alloc (.cells #[.int .i64 t.op, .string t.atom.name, .slice a t.atom.args.length cap, .string t.v, .slice a2 n cap2] 36)) = w0 at *
          have eT0 := bT.c0
          have eT1 := bT.c1
          have eT2 := bT.c2
          have eT3 := bT.c3
          have eT4 := bT.c4
          have lT := bT.lt
          refine (isQuantifier_any _ _).mono ?_
          rintro e w4 ⟨rfl, rfl⟩
          first | rw [Q1] | rw [Q2]
          go_wp2_with fail
          refine (isQuantifier_any _ _).mono ?_
          rintro e w4 ⟨rfl, rfl⟩
          first | rw [Q1] | rw [Q2]
          go_wp2_with fail
          clear eT0 eT1 eT2 eT3 eT4 lT
          refine (isValidAtom_any t.atom (Fm.at_atom hT) hbA).mono ?_
          rintro e w1 ⟨_, rfl, hb, rfl⟩
          replace hW := hW.trans (hb.mono hW.size)
          replace bT := bT.keep hb
          replace hT := Fm.at_keep (Keeps.all hb) hT
          clear hb
          rw [ha]
          have eT0 := bT.c0
          have eT1 := bT.c1
          have eT2 := bT.c2
          have eT3 := bT.c3
          have eT4 := bT.c4
          have lT := bT.lt
          go_wp2_with fail
          clear eT0 eT1 eT2 eT3 eT4 lT
          go_ret
          exact Gives.mk (ret_bool HH.out.symm) hW
      · have hv2 := toList_cons hv
        have hv3 := toList_nemp hv
        have HH : Hid (t.forms = false) := by rw [Hid, Fm.forms_eq, HF.out]; simp [hv]
        clear hl hv
        obtain ⟨rfl, rfl, ⟨a, cap, rfl⟩, rfl, a2, cap2, rfl⟩ := Fm.at_form hT
        rw [HN.out] at hT ⊢
        have hW : Below w.heap.size w (w.alloc (.cells #[.int .i64 t.op, .string t.atom.name, .slice a t.atom.args.length cap, .string t.v, .slice a2 n cap2] 36)) := (Below.refl _ _).alloc (Nat.le_refl _) _
        have bT : Box (w.alloc (.cells #[.int .i64 t.op, .string t.atom.name, .slice a t.atom.args.length cap, .string t.v, .slice a2 n cap2] 36)) w.heap.size [.int .i64 t.op, .string t.atom.name, .slice a t.atom.args.length cap, .string t.v, .slice a2 n cap2] := Box.new w _ _
        replace hT := Fm.at_keep (Keeps.all hW) hT
        go_enter Try.func49, Try.ntmps49
        go_wp2_with fail
        generalize (w.alloc (.cells #[.int .i64 t.op, .string t.atom.name, .slice a t.atom.args.length cap, .string t.v, .slice a2 n cap2] 36)) = w0 at *
        have eT0 := bT.c0
        have eT1 := bT.c1
        have eT2 := bT.c2
        have eT3 := bT.c3
        have eT4 := bT.c4
        have lT := bT.lt
        refine (isQuantifier_any _ _).mono ?_
        rintro e w4 ⟨rfl, rfl⟩
        first | rw [Q1] | rw [Q2]
        go_wp2_with fail
        refine (isQuantifier_any _ _).mono ?_
        rintro e w4 ⟨rfl, rfl⟩
        first | rw [Q1] | rw [Q2]
        go_wp2_with fail
        go_ret
        exact Gives.mk (ret_bool HH.out.symm) hW
    · have hl2 : ((n : Int) == 0) = false := by rw [beq_eq_false_iff_ne]; have := HN.out; omega
      have hl3 : ((n : Int) != 0) = true := by rw [bne, hl2]; rfl
      have HH : Hid (t.forms = false) := by rw [Hid, Fm.forms_eq, HF.out]; simp [hl]
      clear hl
      obtain ⟨rfl, rfl, ⟨a, cap, rfl⟩, rfl, a2, cap2, rfl⟩ := Fm.at_form hT
      rw [HN.out] at hT ⊢
      have hW : Below w.heap.size w (w.alloc (.cells #[.int .i64 t.op, .string t.atom.name, .slice a t.atom.args.length cap, .string t.v, .slice a2 n cap2] 36)) := (Below.refl _ _).alloc (Nat.le_refl _) _
      have bT : Box (w.alloc (.cells #[.int .i64 t.op, .string t.atom.name, .slice a t.atom.args.length cap, .string t.v, .slice a2 n cap2] 36)) w.heap.size [.int .i64 t.op, .string t.atom.name, .slice a t.atom.args.length cap, .string t.v, .slice a2 n cap2] := Box.new w _ _
      replace hT := Fm.at_keep (Keeps.all hW) hT
      go_enter Try.func49, Try.ntmps49
      go_wp2_with fail
      generalize (w.alloc (.cells #[.int .i64 t.op, .string t.atom.name, .slice a t.atom.args.length cap, .string t.v, .slice a2 n cap2] 36)) = w0 at *
      have eT0 := bT.c0
      have eT1 := bT.c1
      have eT2 := bT.c2
      have eT3 := bT.c3
      have eT4 := bT.c4
      have lT := bT.lt
      go_ret
      exact Gives.mk (ret_bool HH.out.symm) hW
  have p3 : (t.op == 3) = false := by simp [o1]
  have r3 := hid o1
  clear o1
  by_cases o1 : t.op = 4
  · have HF : Hid (t.form = (decide (t.parts.length = 1) && t.atom.none && decide (t.v = ⟨#[]⟩))) := by rw [Hid, Fm.form_4 o1]
    have Q1 : quantOp t.op = false := by rw [o1]; rfl
    have Q2 : quantOp 4 = false := rfl
    have s4 : (t.op != 3) = true := by simp [o1]
    have s1 : (t.op == 4) = true := by simp [o1]
    clear o1
    by_cases hl : t.parts.length = 1
    · have hl2 : ((n : Int) == 1) = true := by rw [beq_iff_eq]; have := HN.out; omega
      have hl3 : ((n : Int) != 1) = false := by rw [bne, hl2]; rfl
      by_cases hv : t.v = ⟨#[]⟩
      · have hv2 := toList_nil hv
        have hv3 := toList_emp hv
        have HG : Hid (t.forms = (t.atom.none && Fm.formsAll t.parts)) := by rw [Hid, Fm.forms_eq, HF.out]; simp [hl, hv]
        clear hl hv
        by_cases ha : t.atom.none = true
        · have HH : Hid (t.forms = Fm.formsAll t.parts) := by rw [Hid, HG.out, ha]; rfl
          obtain ⟨rfl, rfl, ⟨a, cap, rfl⟩, rfl, a2, cap2, rfl⟩ := Fm.at_form hT
          rw [HN.out] at hT ⊢
          have hW : Below w.heap.size w (w.alloc (.cells #[.int .i64 t.op, .string t.atom.name, .slice a t.atom.args.length cap, .string t.v, .slice a2 n cap2] 36)) := (Below.refl _ _).alloc (Nat.le_refl _) _
          have bT : Box (w.alloc (.cells #[.int .i64 t.op, .string t.atom.name, .slice a t.atom.args.length cap, .string t.v, .slice a2 n cap2] 36)) w.heap.size [.int .i64 t.op, .string t.atom.name, .slice a t.atom.args.length cap, .string t.v, .slice a2 n cap2] := Box.new w _ _
          replace hT := Fm.at_keep (Keeps.all hW) hT
          go_enter Try.func49, Try.ntmps49
          go_wp2_with fail
          generalize (w.alloc (.cells #[.int .i64 t.op, .string t.atom.name, .slice a t.atom.args.length cap, .string t.v, .slice a2 n cap2] 36)) = w0 at *
          have eT0 := bT.c0
          have eT1 := bT.c1
          have eT2 := bT.c2
          have eT3 := bT.c3
          have eT4 := bT.c4
          have lT := bT.lt
          refine (isQuantifier_any _ _).mono ?_
          rintro e w4 ⟨rfl, rfl⟩
          first | rw [Q1] | rw [Q2]
          go_wp2_with fail
          refine (isQuantifier_any _ _).mono ?_
          rintro e w4 ⟨rfl, rfl⟩
          first | rw [Q1] | rw [Q2]
          go_wp2_with fail
          clear eT0 eT1 eT2 eT3 eT4 lT
          refine (isZeroTerm_any t.atom (Fm.at_atom hT) hbA).mono ?_
          rintro e w1 ⟨_, rfl, hb, rfl⟩
          replace hW := hW.trans (hb.mono hW.size)
          replace bT := bT.keep hb
          replace hT := Fm.at_keep (Keeps.all hb) hT
          clear hb
          rw [ha]
          have eT0 := bT.c0
          have eT1 := bT.c1
          have eT2 := bT.c2
          have eT3 := bT.c3
          have eT4 := bT.c4
          have lT := bT.lt
          go_wp2_with fail
          clear eT0 eT1 eT2 eT3 eT4 lT
          refine (containsFuncF 74 callableF (fun t => !t.forms) t.parts (fun p hp => hasForm1_of (h p hp)) (Fm.at_parts hT) hbP).mono ?_
          rintro e w5 ⟨_, rfl, hb, rfl⟩
          rw [Fm.any_forms]
          go_wp2_with fail
          go_ret
          exact Gives.mk (ret_bool (by rw [HH.out])) (hW.trans (hb.mono hW.size))
        · replace ha : t.atom.none = false := by simpa using ha
          have HH : Hid (t.forms = false) := by rw [Hid, HG.out, ha]; rfl
          obtain ⟨rfl, rfl, ⟨a, cap, rfl⟩, rfl, a2, cap2, rfl⟩ := Fm.at_form hT
          rw [HN.out] at hT ⊢
          have hW : Below w.heap.size w (w.alloc (.cells #[.int .i64 t.op, .string t.atom.name, .slice a t.atom.args.length cap, .string t.v, .slice a2 n cap2] 36)) := (Below.refl _ _).alloc (Nat.le_refl _) _
          have bT : Box (w.alloc (.cells #[.int .i64 t.op, .string t.atom.name, .slice a t.atom.args.length cap, .string t.v, .slice a2 n cap2] 36)) w.heap.size [.int .i64 t.op, .string t.atom.name, .slice a t.atom.args.length cap, .string t.v, .slice a2 n cap2] := Box.new w _ _
          replace hT := Fm.at_keep (Keeps.all hW) hT
          go_enter Try.func49, Try.ntmps49
          go_wp2_with fail
          generalize (w.alloc (.cells #[.int .i64 t.op, .string t.atom.name, .slice a t.atom.args.length cap, .string t.v, .slice a2 n cap2] 36)) = w0 at *
          have eT0 := bT.c0
          have eT1 := bT.c1
          have eT2 := bT.c2
          have eT3 := bT.c3
          have eT4 := bT.c4
          have lT := bT.lt
          refine (isQuantifier_any _ _).mono ?_
          rintro e w4 ⟨rfl, rfl⟩
          first | rw [Q1] | rw [Q2]
          go_wp2_with fail
          refine (isQuantifier_any _ _).mono ?_
          rintro e w4 ⟨rfl, rfl⟩
          first | rw [Q1] | rw [Q2]
          go_wp2_with fail
          clear eT0 eT1 eT2 eT3 eT4 lT
          refine (isZeroTerm_any t.atom (Fm.at_atom hT) hbA).mono ?_
          rintro e w1 ⟨_, rfl, hb, rfl⟩
          replace hW := hW.trans (hb.mono hW.size)
          replace bT := bT.keep hb
          replace hT := Fm.at_keep (Keeps.all hb) hT
          clear hb
          rw [ha]
          have eT0 := bT.c0
          have eT1 := bT.c1
          have eT2 := bT.c2
          have eT3 := bT.c3
          have eT4 := bT.c4
          have lT := bT.lt
          go_wp2_with fail
          clear eT0 eT1 eT2 eT3 eT4 lT
          go_ret
          exact Gives.mk (ret_bool HH.out.symm) hW
      · have hv2 := toList_cons hv
        have hv3 := toList_nemp hv
        have HH : Hid (t.forms = false) := by rw [Hid, Fm.forms_eq, HF.out]; simp [hv]
        clear hl hv
        obtain ⟨rfl, rfl, ⟨a, cap, rfl⟩, rfl, a2, cap2, rfl⟩ := Fm.at_form hT
        rw [HN.out] at hT ⊢
        have hW : Below w.heap.size w (w.alloc (.cells #[.int .i64 t.op, .string t.atom.name, .slice a t.atom.args.length cap, .string t.v, .slice a2 n cap2] 36)) := (Below.refl _ _).alloc (Nat.le_refl _) _
        have bT : Box (w.alloc (.cells #[.int .i64 t.op, .string t.atom.name, .slice a t.atom.args.length cap, .string t.v, .slice a2 n cap2] 36)) w.heap.size [.int .i64 t.op, .string t.atom.name, .slice a t.atom.args.length cap, .string t.v, .slice a2 n cap2] := Box.new w _ _
        replace hT := Fm.at_keep (Keeps.all hW) hT
        go_enter Try.func49, Try.ntmps49
        go_wp2_with fail
        generalize (w.alloc (.cells #[.int .i64 t.op, .string t.atom.name, .slice a t.atom.args.length cap, .string t.v, .slice a2 n cap2] 36)) = w0 at *
        have eT0 := bT.c0
        have eT1 := bT.c1
        have eT2 := bT.c2
        have eT3 := bT.c3
        have eT4 := bT.c4
        have lT := bT.lt
        refine (isQuantifier_any _ _).mono ?_
        rintro e w4 ⟨rfl, rfl⟩
        first | rw [Q1] | rw [Q2]
        go_wp2_with fail
        refine (isQuantifier_any _ _).mono ?_
        rintro e w4 ⟨rfl, rfl⟩
        first | rw [Q1] | rw [Q2]
        go_wp2_with fail
        go_ret
        exact Gives.mk (ret_bool HH.out.symm) hW
    · have hl2 : ((n : Int) == 1) = false := by rw [beq_eq_false_iff_ne]; have := HN.out; omega
      have hl3 : ((n : Int) != 1) = true := by rw [bne, hl2]; rfl
      have HH : Hid (t.forms = false) := by rw [Hid, Fm.forms_eq, HF.out]; simp [hl]
      clear hl
      obtain ⟨rfl, rfl, ⟨a, cap, rfl⟩, rfl, a2, cap2, rfl⟩ := Fm.at_form hT
      rw [HN.out] at hT ⊢
      have hW : Below w.heap.size w (w.alloc (.cells #[.int .i64 t.op, .string t.atom.name, .slice a t.atom.args.length cap, .string t.v, .slice a2 n cap2] 36)) := (Below.refl _ _).alloc (Nat.le_refl _) _
      have bT : Box (w.alloc (.cells #[.int .i64 t.op, .string t.atom.name, .slice a t.atom.args.length cap, .string t.v, .slice a2 n cap2] 36)) w.heap.size [.int .i64 t.op, .string t.atom.name, .slice a t.atom.args.length cap, .string t.v, .slice a2 n cap2] := Box.new w _ _
      replace hT := Fm.at_keep (Keeps.all hW) hT
      go_enter Try.func49, Try.ntmps49
      go_wp2_with fail
      generalize (w.alloc (.cells #[.int .i64 t.op, .string t.atom.name, .slice a t.atom.args.length cap, .string t.v, .slice a2 n cap2] 36)) = w0 at *
      have eT0 := bT.c0
      have eT1 := bT.c1
      have eT2 := bT.c2
      have eT3 := bT.c3
      have eT4 := bT.c4
      have lT := bT.lt
      go_ret
      exact Gives.mk (ret_bool HH.out.symm) hW
  have p4 : (t.op == 4) = false := by simp [o1]
  have r4 := hid o1
  clear o1
  by_cases o1 : t.op = 5
  · have HF : Hid (t.form = (decide (t.parts.length = 2) && t.atom.none && decide (t.v = ⟨#[]⟩))) := by rw [Hid, Fm.form_5 o1]
    have Q1 : quantOp t.op = false := by rw [o1]; rfl
    have Q2 : quantOp 5 = false := rfl
    have B1 : binOp t.op = true := by rw [o1]; rfl
    have B2 : binOp 5 = true := rfl
    have s4 : (t.op != 3) = true := by simp [o1]
    have s1 : (t.op == 5) = true := by simp [o1]
    clear o1
    by_cases hl : t.parts.length = 2
    · have hl2 : ((n : Int) == 2) = true := by rw [beq_iff_eq]; have := HN.out; omega
      have hl3 : ((n : Int) != 2) = false := by rw [bne, hl2]; rfl
      by_cases hv : t.v = ⟨#[]⟩
      · have hv2 := toList_nil hv
        have hv3 := toList_emp hv
        have HG : Hid (t.forms = (t.atom.none && Fm.formsAll t.parts)) := by rw [Hid, Fm.forms_eq, HF.out]; simp [hl, hv]
        clear hl hv
        by_cases ha : t.atom.none = true
        · have HH : Hid (t.forms = Fm.formsAll t.parts) := by rw [Hid, HG.out, ha]; rfl
          obtain ⟨rfl, rfl, ⟨a, cap, rfl⟩, rfl, a2, cap2, rfl⟩ := Fm.at_form hT
          rw [HN.out] at hT ⊢
          have hW : Below w.heap.size w (w.alloc (.cells #[.int .i64 t.op, .string t.atom.name, .slice a t.atom.args.length cap, .string t.v, .slice a2 n cap2] 36)) := (Below.refl _ _).alloc (Nat.le_refl _) _
          have bT : Box (w.alloc (.cells #[.int .i64 t.op, .string t.atom.name, .slice a t.atom.args.length cap, .string t.v, .slice a2 n cap2] 36)) w.heap.size [.int .i64 t.op, .string t.atom.name, .slice a t.atom.args.length cap, .string t.v, .slice a2 n cap2] := Box.new w _ _
          replace hT := Fm.at_keep (Keeps.all hW) hT
          go_enter Try.func49, Try.ntmps49
          go_wp2_with fail
          generalize (w.alloc (.cells #[.int .i64 t.op, .string t.atom.name, .slice a t.atom.args.length cap, .string t.v, .slice a2 n cap2] 36)) = w0 at *
          have eT0 := bT.c0
          have eT1 := bT.c1
          have eT2 := bT.c2
          have eT3 := bT.c3
          have eT4 := bT.c4
          have lT := bT.lt
          refine (isQuantifier_any _ _).mono ?_
          rintro e w4 ⟨rfl, rfl⟩
          first | rw [Q1] | rw [Q2]
          go_wp2_with fail
          refine (isBinary_any _ _).mono ?_
          rintro e w4 ⟨rfl, rfl⟩
          first | rw [B1] | rw [B2]
          go_wp2_with fail
          refine (isQuantifier_any _ _).mono ?_
          rintro e w4 ⟨rfl, rfl⟩
          first | rw [Q1] | rw [Q2]
          go_wp2_with fail
          refine (isQuantifier_any _ _).mono ?_
          rintro e w4 ⟨rfl, rfl⟩
          first | rw [Q1] | rw [Q2]
          go_wp2_with fail
          clear eT0 eT1 eT2 eT3 eT4 lT
          refine (isZeroTerm_any t.atom (Fm.at_atom hT) hbA).mono ?_
          rintro e w1 ⟨_, rfl, hb, rfl⟩
          replace hW := hW.trans (hb.mono hW.size)
          replace bT := bT.keep hb
          replace hT := Fm.at_keep (Keeps.all hb) hT
          clear hb
          rw [ha]
          have eT0 := bT.c0
          have eT1 := bT.c1
          have eT2 := bT.c2
          have eT3 := bT.c3
          have eT4 := bT.c4
          have lT := bT.lt
          go_wp2_with fail
          clear eT0 eT1 eT2 eT3 eT4 lT
          refine (containsFuncF 74 callableF (fun t => !t.forms) t.parts (fun p hp => hasForm1_of (h p hp)) (Fm.at_parts hT) hbP).mono ?_
          rintro e w5 ⟨_, rfl, hb, rfl⟩
          rw [Fm.any_forms]
          go_wp2_with fail
          go_ret
          exact Gives.mk (ret_bool (by rw [HH.out])) (hW.trans (hb.mono hW.size))
        · replace ha : t.atom.none = false := by simpa using ha
          have HH : Hid (t.forms = false) := by rw [Hid, HG.out, ha]; rfl
          obtain ⟨rfl, rfl, ⟨a, cap, rfl⟩, rfl, a2, cap2, rfl⟩ := Fm.at_form hT
          rw [HN.out] at hT ⊢
          have hW : Below w.heap.size w (w.alloc (.cells #[.int .i64 t.op, .string t.atom.name, .slice a t.atom.args.length cap, .string t.v, .slice a2 n cap2] 36)) := (Below.refl _ _).alloc (Nat.le_refl _) _
          have bT : Box (w.alloc (.cells #[.int .i64 t.op, .string t.atom.name, .slice a t.atom.args.length cap, .string t.v, .slice a2 n cap2] 36)) w.heap.size [.int .i64 t.op, .string t.atom.name, .slice a t.atom.args.length cap, .string t.v, .slice a2 n cap2] := Box.new w _ _
          replace hT := Fm.at_keep (Keeps.all hW) hT
          go_enter Try.func49, Try.ntmps49
          go_wp2_with fail
          generalize (w.alloc (.cells #[.int .i64 t.op, .string t.atom.name, .slice a t.atom.args.length cap, .string t.v, .slice a2 n cap2] 36)) = w0 at *
          have eT0 := bT.c0
          have eT1 := bT.c1
          have eT2 := bT.c2
          have eT3 := bT.c3
          have eT4 := bT.c4
          have lT := bT.lt
          refine (isQuantifier_any _ _).mono ?_
          rintro e w4 ⟨rfl, rfl⟩
          first | rw [Q1] | rw [Q2]
          go_wp2_with fail
          refine (isBinary_any _ _).mono ?_
          rintro e w4 ⟨rfl, rfl⟩
          first | rw [B1] | rw [B2]
          go_wp2_with fail
          refine (isQuantifier_any _ _).mono ?_
          rintro e w4 ⟨rfl, rfl⟩
          first | rw [Q1] | rw [Q2]
          go_wp2_with fail
          refine (isQuantifier_any _ _).mono ?_
          rintro e w4 ⟨rfl, rfl⟩
          first | rw [Q1] | rw [Q2]
          go_wp2_with fail
          clear eT0 eT1 eT2 eT3 eT4 lT
          refine (isZeroTerm_any t.atom (Fm.at_atom hT) hbA).mono ?_
          rintro e w1 ⟨_, rfl, hb, rfl⟩
          replace hW := hW.trans (hb.mono hW.size)
          replace bT := bT.keep hb
          replace hT := Fm.at_keep (Keeps.all hb) hT
          clear hb
          rw [ha]
          have eT0 := bT.c0
          have eT1 := bT.c1
          have eT2 := bT.c2
          have eT3 := bT.c3
          have eT4 := bT.c4
          have lT := bT.lt
          go_wp2_with fail
          clear eT0 eT1 eT2 eT3 eT4 lT
          go_ret
          exact Gives.mk (ret_bool HH.out.symm) hW
      · have hv2 := toList_cons hv
        have hv3 := toList_nemp hv
        have HH : Hid (t.forms = false) := by rw [Hid, Fm.forms_eq, HF.out]; simp [hv]
        clear hl hv
        obtain ⟨rfl, rfl, ⟨a, cap, rfl⟩, rfl, a2, cap2, rfl⟩ := Fm.at_form hT
        rw [HN.out] at hT ⊢
        have hW : Below w.heap.size w (w.alloc (.cells #[.int .i64 t.op, .string t.atom.name, .slice a t.atom.args.length cap, .string t.v, .slice a2 n cap2] 36)) := (Below.refl _ _).alloc (Nat.le_refl _) _
        have bT : Box (w.alloc (.cells #[.int .i64 t.op, .string t.atom.name, .slice a t.atom.args.length cap, .string t.v, .slice a2 n cap2] 36)) w.heap.size [.int .i64 t.op, .string t.atom.name, .slice a t.atom.args.length cap, .string t.v, .slice a2 n cap2] := Box.new w _ _
        replace hT := Fm.at_keep (Keeps.all hW) hT
        go_enter Try.func49, Try.ntmps49
        go_wp2_with fail
        generalize (w.alloc (.cells #[.int .i64 t.op, .string t.atom.name, .slice a t.atom.args.length cap, .string t.v, .slice a2 n cap2] 36)) = w0 at *
        have eT0 := bT.c0
        have eT1 := bT.c1
        have eT2 := bT.c2
        have eT3 := bT.c3
        have eT4 := bT.c4
        have lT := bT.lt
        refine (isQuantifier_any _ _).mono ?_
        rintro e w4 ⟨rfl, rfl⟩
        first | rw [Q1] | rw [Q2]
        go_wp2_with fail
        refine (isBinary_any _ _).mono ?_
        rintro e w4 ⟨rfl, rfl⟩
        first | rw [B1] | rw [B2]
        go_wp2_with fail
        refine (isQuantifier_any _ _).mono ?_
        rintro e w4 ⟨rfl, rfl⟩
        first | rw [Q1] | rw [Q2]
        go_wp2_with fail
        refine (isQuantifier_any _ _).mono ?_
        rintro e w4 ⟨rfl, rfl⟩
        first | rw [Q1] | rw [Q2]
        go_wp2_with fail
        go_ret
        exact Gives.mk (ret_bool HH.out.symm) hW
    · have hl2 : ((n : Int) == 2) = false := by rw [beq_eq_false_iff_ne]; have := HN.out; omega
      have hl3 : ((n : Int) != 2) = true := by rw [bne, hl2]; rfl
      have HH : Hid (t.forms = false) := by rw [Hid, Fm.forms_eq, HF.out]; simp [hl]
      clear hl
      obtain ⟨rfl, rfl, ⟨a, cap, rfl⟩, rfl, a2, cap2, rfl⟩ := Fm.at_form hT
      rw [HN.out] at hT ⊢
      have hW : Below w.heap.size w (w.alloc (.cells #[.int .i64 t.op, .string t.atom.name, .slice a t.atom.args.length cap, .string t.v, .slice a2 n cap2] 36)) := (Below.refl _ _).alloc (Nat.le_refl _) _
      have bT : Box (w.alloc (.cells #[.int .i64 t.op, .string t.atom.name, .slice a t.atom.args.length cap, .string t.v, .slice a2 n cap2] 36)) w.heap.size [.int .i64 t.op, .string t.atom.name, .slice a t.atom.args.length cap, .string t.v, .slice a2 n cap2] := Box.new w _ _
      replace hT := Fm.at_keep (Keeps.all hW) hT
      go_enter Try.func49, Try.ntmps49
      go_wp2_with fail
      generalize (w.alloc (.cells #[.int .i64 t.op, .string t.atom.name, .slice a t.atom.args.length cap, .string t.v, .slice a2 n cap2] 36)) = w0 at *
      have eT0 := bT.c0
      have eT1 := bT.c1
      have eT2 := bT.c2
      have eT3 := bT.c3
      have eT4 := bT.c4
      have lT := bT.lt
      refine (isQuantifier_any _ _).mono ?_
      rintro e w4 ⟨rfl, rfl⟩
      first | rw [Q1] | rw [Q2]
      go_wp2_with fail
      refine (isBinary_any _ _).mono ?_
      rintro e w4 ⟨rfl, rfl⟩
      first | rw [B1] | rw [B2]
      go_wp2_with fail
      go_ret
      exact Gives.mk (ret_bool HH.out.symm) hW
  have p5 : (t.op == 5) = false := by simp [o1]
  have r5 := hid o1
  clear o1
  by_cases o1 : t.op = 6
  · have HF : Hid (t.form = (decide (t.parts.length = 2) && t.atom.none && decide (t.v = ⟨#[]⟩))) := by rw [Hid, Fm.form_6 o1]
    have Q1 : quantOp t.op = false := by rw [o1]; rfl
    have Q2 : quantOp 6 = false := rfl
    have B1 : binOp t.op = true := by rw [o1]; rfl
    have B2 : binOp 6 = true := rfl
    have s4 : (t.op != 3) = true := by simp [o1]
    have s1 : (t.op == 6) = true := by simp [o1]
    clear o1
    by_cases hl : t.parts.length = 2
    · have hl2 : ((n : Int) == 2) = true := by rw [beq_iff_eq]; have := HN.out; omega
      have hl3 : ((n : Int) != 2) = false := by rw [bne, hl2]; rfl
      by_cases hv : t.v = ⟨#[]⟩
      · have hv2 := toList_nil hv
        have hv3 := toList_emp hv
        have HG : Hid (t.forms = (t.atom.none && Fm.formsAll t.parts)) := by rw [Hid, Fm.forms_eq, HF.out]; simp [hl, hv]
        clear hl hv
        by_cases ha : t.atom.none = true
        · have HH : Hid (t.forms = Fm.formsAll t.parts) := by rw [Hid, HG.out, ha]; rfl
          obtain ⟨rfl, rfl, ⟨a, cap, rfl⟩, rfl, a2, cap2, rfl⟩ := Fm.at_form hT
          rw [HN.out] at hT ⊢
          have hW : Below w.heap.size w (w.alloc (.cells #[.int .i64 t.op, .string t.atom.name, .slice a t.atom.args.length cap, .string t.v, .slice a2 n cap2] 36)) := (Below.refl _ _).alloc (Nat.le_refl _) _
          have bT : Box (w.alloc (.cells #[.int .i64 t.op, .string t.atom.name, .slice a t.atom.args.length cap, .string t.v, .slice a2 n cap2] 36)) w.heap.size [.int .i64 t.op, .string t.atom.name, .slice a t.atom.args.length cap, .string t.v, .slice a2 n cap2] := Box.new w _ _
          replace hT := Fm.at_keep (Keeps.all hW) hT
          go_enter Try.func49, Try.ntmps49
          go_wp2_with fail
          generalize (w.alloc (.cells #[.int .i64 t.op, .string t.atom.name, .slice a t.atom.args.length cap, .string t.v, .slice a2 n cap2] 36)) = w0 at *
          have eT0 := bT.c0
          have eT1 := bT.c1
          have eT2 := bT.c2
          have eT3 := bT.c3
          have eT4 := bT.c4
          have lT := bT.lt
          refine (isQuantifier_any _ _).mono ?_
          rintro e w4 ⟨rfl, rfl⟩
          first | rw [Q1] | rw [Q2]
          go_wp2_with fail
          refine (isBinary_any _ _).mono ?_
          rintro e w4 ⟨rfl, rfl⟩
          first | rw [B1] | rw [B2]
          go_wp2_with fail
          refine (isQuantifier_any _ _).mono ?_
          rintro e w4 ⟨rfl, rfl⟩
          first | rw [Q1] | rw [Q2]
          go_wp2_with fail
          refine (isQuantifier_any _ _).mono ?_
          rintro e w4 ⟨rfl, rfl⟩
          first | rw [Q1] | rw [Q2]
          go_wp2_with fail
          clear eT0 eT1 eT2 eT3 eT4 lT
          refine (isZeroTerm_any t.atom (Fm.at_atom hT) hbA).mono ?_
          rintro e w1 ⟨_, rfl, hb, rfl⟩
          replace hW := hW.trans (hb.mono hW.size)
          replace bT := bT.keep hb
          replace hT := Fm.at_keep (Keeps.all hb) hT
          clear hb
          rw [ha]
          have eT0 := bT.c0
          have eT1 := bT.c1
          have eT2 := bT.c2
          have eT3 := bT.c3
          have eT4 := bT.c4
          have lT := bT.lt
          go_wp2_with fail
          clear eT0 eT1 eT2 eT3 eT4 lT
          refine (containsFuncF 74 callableF (fun t => !t.forms) t.parts (fun p hp => hasForm1_of (h p hp)) (Fm.at_parts hT) hbP).mono ?_
          rintro e w5 ⟨_, rfl, hb, rfl⟩
          rw [Fm.any_forms]
          go_wp2_with fail
          go_ret
          exact Gives.mk (ret_bool (by rw [HH.out])) (hW.trans (hb.mono hW.size))
        · replace ha : t.atom.none = false := by simpa using ha
          have HH : Hid (t.forms = false) := by rw [Hid, HG.out, ha]; rfl
          obtain ⟨rfl, rfl, ⟨a, cap, rfl⟩, rfl, a2, cap2, rfl⟩ := Fm.at_form hT
          rw [HN.out] at hT ⊢
          have hW : Below w.heap.size w (w.alloc (.cells #[.int .i64 t.op, .string t.atom.name, .slice a t.atom.args.length cap, .string t.v, .slice a2 n cap2] 36)) := (Below.refl _ _).alloc (Nat.le_refl _) _
          have bT : Box (w.alloc (.cells #[.int .i64 t.op, .string t.atom.name, .slice a t.atom.args.length cap, .string t.v, .slice a2 n cap2] 36)) w.heap.size [.int .i64 t.op, .string t.atom.name, .slice a t.atom.args.length cap, .string t.v, .slice a2 n cap2] := Box.new w _ _
          replace hT := Fm.at_keep (Keeps.all hW) hT
          go_enter Try.func49, Try.ntmps49
          go_wp2_with fail
          generalize (w.alloc (.cells #[.int .i64 t.op, .string t.atom.name, .slice a t.atom.args.length cap, .string t.v, .slice a2 n cap2] 36)) = w0 at *
          have eT0 := bT.c0
          have eT1 := bT.c1
          have eT2 := bT.c2
          have eT3 := bT.c3
          have eT4 := bT.c4
          have lT := bT.lt
          refine (isQuantifier_any _ _).mono ?_
          rintro e w4 ⟨rfl, rfl⟩
          first | rw [Q1] | rw [Q2]
          go_wp2_with fail
          refine (isBinary_any _ _).mono ?_
          rintro e w4 ⟨rfl, rfl⟩
          first | rw [B1] | rw [B2]
          go_wp2_with fail
          refine (isQuantifier_any _ _).mono ?_
          rintro e w4 ⟨rfl, rfl⟩
          first | rw [Q1] | rw [Q2]
          go_wp2_with fail
          refine (isQuantifier_any _ _).mono ?_
          rintro e w4 ⟨rfl, rfl⟩
          first | rw [Q1] | rw [Q2]
          go_wp2_with fail
          clear eT0 eT1 eT2 eT3 eT4 lT
          refine (isZeroTerm_any t.atom (Fm.at_atom hT) hbA).mono ?_
          rintro e w1 ⟨_, rfl, hb, rfl⟩
          replace hW := hW.trans (hb.mono hW.size)
          replace bT := bT.keep hb
          replace hT := Fm.at_keep (Keeps.all hb) hT
          clear hb
          rw [ha]
          have eT0 := bT.c0
          have eT1 := bT.c1
          have eT2 := bT.c2
          have eT3 := bT.c3
          have eT4 := bT.c4
          have lT := bT.lt
          go_wp2_with fail
          clear eT0 eT1 eT2 eT3 eT4 lT
          go_ret
          exact Gives.mk (ret_bool HH.out.symm) hW
      · have hv2 := toList_cons hv
        have hv3 := toList_nemp hv
        have HH : Hid (t.forms = false) := by rw [Hid, Fm.forms_eq, HF.out]; simp [hv]
        clear hl hv
        obtain ⟨rfl, rfl, ⟨a, cap, rfl⟩, rfl, a2, cap2, rfl⟩ := Fm.at_form hT
        rw [HN.out] at hT ⊢
        have hW : Below w.heap.size w (w.alloc (.cells #[.int .i64 t.op, .string t.atom.name, .slice a t.atom.args.length cap, .string t.v, .slice a2 n cap2] 36)) := (Below.refl _ _).alloc (Nat.le_refl _) _
        have bT : Box (w.alloc (.cells #[.int .i64 t.op, .string t.atom.name, .slice a t.atom.args.length cap, .string t.v, .slice a2 n cap2] 36)) w.heap.size [.int .i64 t.op, .string t.atom.name, .slice a t.atom.args.length cap, .string t.v, .slice a2 n cap2] := Box.new w _ _
        replace hT := Fm.at_keep (Keeps.all hW) hT
        go_enter Try.func49, Try.ntmps49
        go_wp2_with fail
        generalize (w.alloc (.cells #[.int .i64 t.op, .string t.atom.name, .slice a t.atom.args.length cap, .string t.v, .slice a2 n cap2] 36)) = w0 at *
        have eT0 := bT.c0
        have eT1 := bT.c1
        have eT2 := bT.c2
        have eT3 := bT.c3
        have eT4 := bT.c4
        have lT := bT.lt
        refine (isQuantifier_any _ _).mono ?_
        rintro e w4 ⟨rfl, rfl⟩
        first | rw [Q1] | rw [Q2]
        go_wp2_with fail
        refine (isBinary_any _ _).mono ?_
        rintro e w4 ⟨rfl, rfl⟩
        first | rw [B1] | rw [B2]
        go_wp2_with fail
        refine (isQuantifier_any _ _).mono ?_
        rintro e w4 ⟨rfl, rfl⟩
        first | rw [Q1] | rw [Q2]
        go_wp2_with fail
        refine (isQuantifier_any _ _).mono ?_
        rintro e w4 ⟨rfl, rfl⟩
        first | rw [Q1] | rw [Q2]
        go_wp2_with fail
        go_ret
        exact Gives.mk (ret_bool HH.out.symm) hW
    · have hl2 : ((n : Int) == 2) = false := by rw [beq_eq_false_iff_ne]; have := HN.out; omega
      have hl3 : ((n : Int) != 2) = true := by rw [bne, hl2]; rfl
      have HH : Hid (t.forms = false) := by rw [Hid, Fm.forms_eq, HF.out]; simp [hl]
      clear hl
      obtain ⟨rfl, rfl, ⟨a, cap, rfl⟩, rfl, a2, cap2, rfl⟩ := Fm.at_form hT
      rw [HN.out] at hT ⊢
      have hW : Below w.heap.size w (w.alloc (.cells #[.int .i64 t.op, .string t.atom.name, .slice a t.atom.args.length cap, .string t.v, .slice a2 n cap2] 36)) := (Below.refl _ _).alloc (Nat.le_refl _) _
      have bT : Box (w.alloc (.cells #[.int .i64 t.op, .string t.atom.name, .slice a t.atom.args.length cap, .string t.v, .slice a2 n cap2] 36)) w.heap.size [.int .i64 t.op, .string t.atom.name, .slice a t.atom.args.length cap, .string t.v, .slice a2 n cap2] := Box.new w _ _
      replace hT := Fm.at_keep (Keeps.all hW) hT
      go_enter Try.func49, Try.ntmps49
      go_wp2_with fail
      generalize (w.alloc (.cells #[.int .i64 t.op, .string t.atom.name, .slice a t.atom.args.length cap, .string t.v, .slice a2 n cap2] 36)) = w0 at *
      have eT0 := bT.c0
      have eT1 := bT.c1
      have eT2 := bT.c2
      have eT3 := bT.c3
      have eT4 := bT.c4
      have lT := bT.lt
      refine (isQuantifier_any _ _).mono ?_
      rintro e w4 ⟨rfl, rfl⟩
      first | rw [Q1] | rw [Q2]
      go_wp2_with fail
      refine (isBinary_any _ _).mono ?_
      rintro e w4 ⟨rfl, rfl⟩
      first | rw [B1] | rw [B2]
      go_wp2_with fail
      go_ret
      exact Gives.mk (ret_bool HH.out.symm) hW
  have p6 : (t.op == 6) = false := by simp [o1]
  have r6 := hid o1
  clear o1
  by_cases o1 : t.op = 7
  · have HF : Hid (t.form = (decide (t.parts.length = 2) && t.atom.none && decide (t.v = ⟨#[]⟩))) := by rw [Hid, Fm.form_7 o1]
    have Q1 : quantOp t.op = false := by rw [o1]; rfl
    have Q2 : quantOp 7 = false := rfl
    have B1 : binOp t.op = true := by rw [o1]; rfl
    have B2 : binOp 7 = true := rfl
    have s4 : (t.op != 3) = true := by simp [o1]
    have s1 : (t.op == 7) = true := by simp [o1]
    clear o1
    by_cases hl : t.parts.length = 2
    · have hl2 : ((n : Int) == 2) = true := by rw [beq_iff_eq]; have := HN.out; omega
      have hl3 : ((n : Int) != 2) = false := by rw [bne, hl2]; rfl
      by_cases hv : t.v = ⟨#[]⟩
      · have hv2 := toList_nil hv
        have hv3 := toList_emp hv
        have HG : Hid (t.forms = (t.atom.none && Fm.formsAll t.parts)) := by rw [Hid, Fm.forms_eq, HF.out]; simp [hl, hv]
        clear hl hv
        by_cases ha : t.atom.none = true
        · have HH : Hid (t.forms = Fm.formsAll t.parts) := by rw [Hid, HG.out, ha]; rfl
          obtain ⟨rfl, rfl, ⟨a, cap, rfl⟩, rfl, a2, cap2, rfl⟩ := Fm.at_form hT
          rw [HN.out] at hT ⊢
          have hW : Below w.heap.size w (w.alloc (.cells #[.int .i64 t.op, .string t.atom.name, .slice a t.atom.args.length cap, .string t.v, .slice a2 n cap2] 36)) := (Below.refl _ _).alloc (Nat.le_refl _) _
          have bT : Box (w.alloc (.cells #[.int .i64 t.op, .string t.atom.name, .slice a t.atom.args.length cap, .string t.v, .slice a2 n cap2] 36)) w.heap.size [.int .i64 t.op, .string t.atom.name, .slice a t.atom.args.length cap, .string t.v, .slice a2 n cap2] := Box.new w _ _
          replace hT := Fm.at_keep (Keeps.all hW) hT
          go_enter Try.func49, Try.ntmps49
          go_wp2_with fail
          generalize (w.alloc (.cells #[.int .i64 t.op, .string t.atom.name, .slice a t.atom.args.length cap, .string t.v, .slice a2 n cap2] 36)) = w0 at *
          have eT0 := bT.c0
          have eT1 := bT.c1
          have eT2 := bT.c2
          have eT3 := bT.c3
          have eT4 := bT.c4
          have lT := bT.lt
          refine (isQuantifier_any _ _).mono ?_
          rintro e w4 ⟨rfl, rfl⟩
          first | rw [Q1] | rw [Q2]
          go_wp2_with fail
          refine (isBinary_any _ _).mono ?_
          rintro e w4 ⟨rfl, rfl⟩
          first | rw [B1] | rw [B2]
          go_wp2_with fail
          refine (isQuantifier_any _ _).mono ?_
          rintro e w4 ⟨rfl, rfl⟩
          first | rw [Q1] | rw [Q2]
          go_wp2_with fail
          refine (isQuantifier_any _ _).mono ?_
          rintro e w4 ⟨rfl, rfl⟩
          first | rw [Q1] | rw [Q2]
          go_wp2_with fail
          clear eT0 eT1 eT2 eT3 eT4 lT
          refine (isZeroTerm_any t.atom (Fm.at_atom hT) hbA).mono ?_
          rintro e w1 ⟨_, rfl, hb, rfl⟩
          replace hW := hW.trans (hb.mono hW.size)
          replace bT := bT.keep hb
          replace hT := Fm.at_keep (Keeps.all hb) hT
          clear hb
          rw [ha]
          have eT0 := bT.c0
          have eT1 := bT.c1
          have eT2 := bT.c2
          have eT3 := bT.c3
          have eT4 := bT.c4
          have lT := bT.lt
          go_wp2_with fail
          clear eT0 eT1 eT2 eT3 eT4 lT
          refine (containsFuncF 74 callableF (fun t => !t.forms) t.parts (fun p hp => hasForm1_of (h p hp)) (Fm.at_parts hT) hbP).mono ?_
          rintro e w5 ⟨_, rfl, hb, rfl⟩
          rw [Fm.any_forms]
          go_wp2_with fail
          go_ret
          exact Gives.mk (ret_bool (by rw [HH.out])) (hW.trans (hb.mono hW.size))
        · replace ha : t.atom.none = false := by simpa using ha
          have HH : Hid (t.forms = false) := by rw [Hid, HG.out, ha]; rfl
          obtain ⟨rfl, rfl, ⟨a, cap, rfl⟩, rfl, a2, cap2, rfl⟩ := Fm.at_form hT
          rw [HN.out] at hT ⊢
          have hW : Below w.heap.size w (w.alloc (.cells #[.int .i64 t.op, .string t.atom.name, .slice a t.atom.args.length cap, .string t.v, .slice a2 n cap2] 36)) := (Below.refl _ _).alloc (Nat.le_refl _) _
          have bT : Box (w.alloc (.cells #[.int .i64 t.op, .string t.atom.name, .slice a t.atom.args.length cap, .string t.v, .slice a2 n cap2] 36)) w.heap.size [.int .i64 t.op, .string t.atom.name, .slice a t.atom.args.length cap, .string t.v, .slice a2 n cap2] := Box.new w _ _
          replace hT := Fm.at_keep (Keeps.all hW) hT
          go_enter Try.func49, Try.ntmps49
          go_wp2_with fail
          generalize (w.alloc (.cells #[.int .i64 t.op, .string t.atom.name, .slice a t.atom.args.length cap, .string t.v, .slice a2 n cap2] 36)) = w0 at *
          have eT0 := bT.c0
          have eT1 := bT.c1
          have eT2 := bT.c2
          have eT3 := bT.c3
          have eT4 := bT.c4
          have lT := bT.lt
          refine (isQuantifier_any _ _).mono ?_
          rintro e w4 ⟨rfl, rfl⟩
          first | rw [Q1] | rw [Q2]
          go_wp2_with fail
          refine (isBinary_any _ _).mono ?_
          rintro e w4 ⟨rfl, rfl⟩
          first | rw [B1] | rw [B2]
          go_wp2_with fail
          refine (isQuantifier_any _ _).mono ?_
          rintro e w4 ⟨rfl, rfl⟩
          first | rw [Q1] | rw [Q2]
          go_wp2_with fail
          refine (isQuantifier_any _ _).mono ?_
          rintro e w4 ⟨rfl, rfl⟩
          first | rw [Q1] | rw [Q2]
          go_wp2_with fail
          clear eT0 eT1 eT2 eT3 eT4 lT
          refine (isZeroTerm_any t.atom (Fm.at_atom hT) hbA).mono ?_
          rintro e w1 ⟨_, rfl, hb, rfl⟩
          replace hW := hW.trans (hb.mono hW.size)
          replace bT := bT.keep hb
          replace hT := Fm.at_keep (Keeps.all hb) hT
          clear hb
          rw [ha]
          have eT0 := bT.c0
          have eT1 := bT.c1
          have eT2 := bT.c2
          have eT3 := bT.c3
          have eT4 := bT.c4
          have lT := bT.lt
          go_wp2_with fail
          clear eT0 eT1 eT2 eT3 eT4 lT
          go_ret
          exact Gives.mk (ret_bool HH.out.symm) hW
      · have hv2 := toList_cons hv
        have hv3 := toList_nemp hv
        have HH : Hid (t.forms = false) := by rw [Hid, Fm.forms_eq, HF.out]; simp [hv]
        clear hl hv
        obtain ⟨rfl, rfl, ⟨a, cap, rfl⟩, rfl, a2, cap2, rfl⟩ := Fm.at_form hT
        rw [HN.out] at hT ⊢
        have hW : Below w.heap.size w (w.alloc (.cells #[.int .i64 t.op, .string t.atom.name, .slice a t.atom.args.length cap, .string t.v, .slice a2 n cap2] 36)) := (Below.refl _ _).alloc (Nat.le_refl _) _
        have bT : Box (w.alloc (.cells #[.int .i64 t.op, .string t.atom.name, .slice a t.atom.args.length cap, .string t.v, .slice a2 n cap2] 36)) w.heap.size [.int .i64 t.op, .string t.atom.name, .slice a t.atom.args.length cap, .string t.v, .slice a2 n cap2] := Box.new w _ _
        replace hT := Fm.at_keep (Keeps.all hW) hT
        go_enter Try.func49, Try.ntmps49
        go_wp2_with fail
        generalize (w.alloc (.cells #[.int .i64 t.op, .string t.atom.name, .slice a t.atom.args.length cap, .string t.v, .slice a2 n cap2] 36)) = w0 at *
        have eT0 := bT.c0
        have eT1 := bT.c1
        have eT2 := bT.c2
        have eT3 := bT.c3
        have eT4 := bT.c4
        have lT := bT.lt
        refine (isQuantifier_any _ _).mono ?_
        rintro e w4 ⟨rfl, rfl⟩
        first | rw [Q1] | rw [Q2]
        go_wp2_with fail
        refine (isBinary_any _ _).mono ?_
        rintro e w4 ⟨rfl, rfl⟩
        first | rw [B1] | rw [B2]
        go_wp2_with fail
        refine (isQuantifier_any _ _).mono ?_
        rintro e w4 ⟨rfl, rfl⟩
        first | rw [Q1] | rw [Q2]
        go_wp2_with fail
        refine (isQuantifier_any _ _).mono ?_
        rintro e w4 ⟨rfl, rfl⟩
        first | rw [Q1] | rw [Q2]
        go_wp2_with fail
        go_ret
        exact Gives.mk (ret_bool HH.out.symm) hW
    · have hl2 : ((n : Int) == 2) = false := by rw [beq_eq_false_iff_ne]; have := HN.out; omega
      have hl3 : ((n : Int) != 2) = true := by rw [bne, hl2]; rfl
      have HH : Hid (t.forms = false) := by rw [Hid, Fm.forms_eq, HF.out]; simp [hl]
      clear hl
      obtain ⟨rfl, rfl, ⟨a, cap, rfl⟩, rfl, a2, cap2, rfl⟩ := Fm.at_form hT
      rw [HN.out] at hT ⊢
      have hW : Below w.heap.size w (w.alloc (.cells #[.int .i64 t.op, .string t.atom.name, .slice a t.atom.args.length cap, .string t.v, .slice a2 n cap2] 36)) := (Below.refl _ _).alloc (Nat.le_refl _) _
      have bT : Box (w.alloc (.cells #[.int .i64 t.op, .string t.atom.name, .slice a t.atom.args.length cap, .string t.v, .slice a2 n cap2] 36)) w.heap.size [.int .i64 t.op, .string t.atom.name, .slice a t.atom.args.length cap, .string t.v, .slice a2 n cap2] := Box.new w _ _
      replace hT := Fm.at_keep (Keeps.all hW) hT
      go_enter Try.func49, Try.ntmps49
      go_wp2_with fail
      generalize (w.alloc (.cells #[.int .i64 t.op, .string t.atom.name, .slice a t.atom.args.length cap, .string t.v, .slice a2 n cap2] 36)) = w0 at *
      have eT0 := bT.c0
      have eT1 := bT.c1
      have eT2 := bT.c2
      have eT3 := bT.c3
      have eT4 := bT.c4
      have lT := bT.lt
      refine (isQuantifier_any _ _).mono ?_
      rintro e w4 ⟨rfl, rfl⟩
      first | rw [Q1] | rw [Q2]
      go_wp2_with fail
      refine (isBinary_any _ _).mono ?_
      rintro e w4 ⟨rfl, rfl⟩
      first | rw [B1] | rw [B2]
      go_wp2_with fail
      go_ret
      exact Gives.mk (ret_bool HH.out.symm) hW
  have p7 : (t.op == 7) = false := by simp [o1]
  have r7 := hid o1
  clear o1
  by_cases o1 : t.op = 8
  · have HF : Hid (t.form = (decide (t.parts.length = 1) && t.atom.none && varName t.v)) := by rw [Hid, Fm.form_8 o1]
    have Q1 : quantOp t.op = true := by rw [o1]; rfl
    have Q2 : quantOp 8 = true := rfl
    have s4 : (t.op != 3) = true := by simp [o1]
    have s1 : (t.op == 8) = true := by simp [o1]
    clear o1
    by_cases hl : t.parts.length = 1
    · have hl2 : ((n : Int) == 1) = true := by rw [beq_iff_eq]; have := HN.out; omega
      have hl3 : ((n : Int) != 1) = false := by rw [bne, hl2]; rfl
      by_cases hv : varName t.v = true
      · skip
        have HG : Hid (t.forms = (t.atom.none && Fm.formsAll t.parts)) := by rw [Hid, Fm.forms_eq, HF.out]; simp [hl, hv]
        clear hl
        by_cases ha : t.atom.none = true
        · have HH : Hid (t.forms = Fm.formsAll t.parts) := by rw [Hid, HG.out, ha]; rfl
          obtain ⟨rfl, rfl, ⟨a, cap, rfl⟩, rfl, a2, cap2, rfl⟩ := Fm.at_form hT
          rw [HN.out] at hT ⊢
          have hW : Below w.heap.size w (w.alloc (.cells #[.int .i64 t.op, .string t.atom.name, .slice a t.atom.args.length cap, .string t.v, .slice a2 n cap2] 36)) := (Below.refl _ _).alloc (Nat.le_refl _) _
          have bT : Box (w.alloc (.cells #[.int .i64 t.op, .string t.atom.name, .slice a t.atom.args.length cap, .string t.v, .slice a2 n cap2] 36)) w.heap.size [.int .i64 t.op, .string t.atom.name, .slice a t.atom.args.length cap, .string t.v, .slice a2 n cap2] := Box.new w _ _
          replace hT := Fm.at_keep (Keeps.all hW) hT
          go_enter Try.func49, Try.ntmps49
          go_wp2_with fail
          generalize (w.alloc (.cells #[.int .i64 t.op, .string t.atom.name, .slice a t.atom.args.length cap, .string t.v, .slice a2 n cap2] 36)) = w0 at *
          have eT0 := bT.c0
          have eT1 := bT.c1
          have eT2 := bT.c2
          have eT3 := bT.c3
          have eT4 := bT.c4
          have lT := bT.lt
          refine (isQuantifier_any _ _).mono ?_
          rintro e w4 ⟨rfl, rfl⟩
          first | rw [Q1] | rw [Q2]
          go_wp2_with fail
          refine (isQuantifier_any _ _).mono ?_
          rintro e w4 ⟨rfl, rfl⟩
          first | rw [Q1] | rw [Q2]
          go_wp2_with fail
          refine (isVariable_any t.v (Fm.v_le hT) _).mono ?_
          rintro e w4 ⟨rfl, rfl⟩
          rw [hv]
          go_wp2_with fail
          refine (isQuantifier_any _ _).mono ?_
          rintro e w4 ⟨rfl, rfl⟩
          first | rw [Q1] | rw [Q2]
          go_wp2_with fail
          clear eT0 eT1 eT2 eT3 eT4 lT
          refine (isZeroTerm_any t.atom (Fm.at_atom hT) hbA).mono ?_
          rintro e w1 ⟨_, rfl, hb, rfl⟩
          replace hW := hW.trans (hb.mono hW.size)
          replace bT := bT.keep hb
          replace hT := Fm.at_keep (Keeps.all hb) hT
          clear hb
          rw [ha]
          have eT0 := bT.c0
          have eT1 := bT.c1
          have eT2 := bT.c2
          have eT3 := bT.c3
          have eT4 := bT.c4
          have lT := bT.lt
          go_wp2_with fail
          clear eT0 eT1 eT2 eT3 eT4 lT
          refine (containsFuncF 74 callableF (fun t => !t.forms) t.parts (fun p hp => hasForm1_of (h p hp)) (Fm.at_parts hT) hbP).mono ?_
          rintro e w5 ⟨_, rfl, hb, rfl⟩
          rw [Fm.any_forms]
          go_wp2_with fail
          go_ret
          exact Gives.mk (ret_bool (by rw [HH.out])) (hW.trans (hb.mono hW.size))
        · replace ha : t.atom.none = false := by simpa using ha
          have HH : Hid (t.forms = false) := by rw [Hid, HG.out, ha]; rfl
          obtain ⟨rfl, rfl, ⟨a, cap, rfl⟩, rfl, a2, cap2, rfl⟩ := Fm.at_form hT
          rw [HN.out] at hT ⊢
          have hW : Below w.heap.size w (w.alloc (.cells #[.int .i64 t.op, .string t.atom.name, .slice a t.atom.args.length cap, .string t.v, .slice a2 n cap2] 36)) := (Below.refl _ _).alloc (Nat.le_refl _) _
          have bT : Box (w.alloc (.cells #[.int .i64 t.op, .string t.atom.name, .slice a t.atom.args.length cap, .string t.v, .slice a2 n cap2] 36)) w.heap.size [.int .i64 t.op, .string t.atom.name, .slice a t.atom.args.length cap, .string t.v, .slice a2 n cap2] := Box.new w _ _
          replace hT := Fm.at_keep (Keeps.all hW) hT
          go_enter Try.func49, Try.ntmps49
          go_wp2_with fail
          generalize (w.alloc (.cells #[.int .i64 t.op, .string t.atom.name, .slice a t.atom.args.length cap, .string t.v, .slice a2 n cap2] 36)) = w0 at *
          have eT0 := bT.c0
          have eT1 := bT.c1
          have eT2 := bT.c2
          have eT3 := bT.c3
          have eT4 := bT.c4
          have lT := bT.lt
          refine (isQuantifier_any _ _).mono ?_
          rintro e w4 ⟨rfl, rfl⟩
          first | rw [Q1] | rw [Q2]
          go_wp2_with fail
          refine (isQuantifier_any _ _).mono ?_
          rintro e w4 ⟨rfl, rfl⟩
          first | rw [Q1] | rw [Q2]
          go_wp2_with fail
          refine (isVariable_any t.v (Fm.v_le hT) _).mono ?_
          rintro e w4 ⟨rfl, rfl⟩
          rw [hv]
          go_wp2_with fail
          refine (isQuantifier_any _ _).mono ?_
          rintro e w4 ⟨rfl, rfl⟩
          first | rw [Q1] | rw [Q2]
          go_wp2_with fail
          clear eT0 eT1 eT2 eT3 eT4 lT
          refine (isZeroTerm_any t.atom (Fm.at_atom hT) hbA).mono ?_
          rintro e w1 ⟨_, rfl, hb, rfl⟩
          replace hW := hW.trans (hb.mono hW.size)
          replace bT := bT.keep hb
          replace hT := Fm.at_keep (Keeps.all hb) hT
          clear hb
          rw [ha]
          have eT0 := bT.c0
          have eT1 := bT.c1
          have eT2 := bT.c2
          have eT3 := bT.c3
          have eT4 := bT.c4
          have lT := bT.lt
          go_wp2_with fail
          clear eT0 eT1 eT2 eT3 eT4 lT
          go_ret
          exact Gives.mk (ret_bool HH.out.symm) hW
      · replace hv : varName t.v = false := by simpa using hv
        have HH : Hid (t.forms = false) := by rw [Hid, Fm.forms_eq, HF.out]; simp [hv]
        clear hl
        obtain ⟨rfl, rfl, ⟨a, cap, rfl⟩, rfl, a2, cap2, rfl⟩ := Fm.at_form hT
        rw [HN.out] at hT ⊢
        have hW : Below w.heap.size w (w.alloc (.cells #[.int .i64 t.op, .string t.atom.name, .slice a t.atom.args.length cap, .string t.v, .slice a2 n cap2] 36)) := (Below.refl _ _).alloc (Nat.le_refl _) _
        have bT : Box (w.alloc (.cells #[.int .i64 t.op, .string t.atom.name, .slice a t.atom.args.length cap, .string t.v, .slice a2 n cap2] 36)) w.heap.size [.int .i64 t.op, .string t.atom.name, .slice a t.atom.args.length cap, .string t.v, .slice a2 n cap2] := Box.new w _ _
        replace hT := Fm.at_keep (Keeps.all hW) hT
        go_enter Try.func49, Try.ntmps49
        go_wp2_with fail
        generalize (w.alloc (.cells #[.int .i64 t.op, .string t.atom.name, .slice a t.atom.args.length cap, .string t.v, .slice a2 n cap2] 36)) = w0 at *
        have eT0 := bT.c0
        have eT1 := bT.c1
        have eT2 := bT.c2
        have eT3 := bT.c3
        have eT4 := bT.c4
        have lT := bT.lt
        refine (isQuantifier_any _ _).mono ?_
        rintro e w4 ⟨rfl, rfl⟩
        first | rw [Q1] | rw [Q2]
        go_wp2_with fail
        refine (isQuantifier_any _ _).mono ?_
        rintro e w4 ⟨rfl, rfl⟩
        first | rw [Q1] | rw [Q2]
        go_wp2_with fail
        refine (isVariable_any t.v (Fm.v_le hT) _).mono ?_
        rintro e w4 ⟨rfl, rfl⟩
        rw [hv]
        go_wp2_with fail
        go_ret
        exact Gives.mk (ret_bool HH.out.symm) hW
    · have hl2 : ((n : Int) == 1) = false := by rw [beq_eq_false_iff_ne]; have := HN.out; omega
      have hl3 : ((n : Int) != 1) = true := by rw [bne, hl2]; rfl
      have HH : Hid (t.forms = false) := by rw [Hid, Fm.forms_eq, HF.out]; simp [hl]
      clear hl
      obtain ⟨rfl, rfl, ⟨a, cap, rfl⟩, rfl, a2, cap2, rfl⟩ := Fm.at_form hT
      rw [HN.out] at hT ⊢
      have hW : Below w.heap.size w (w.alloc (.cells #[.int .i64 t.op, .string t.atom.name, .slice a t.atom.args.length cap, .string t.v, .slice a2 n cap2] 36)) := (Below.refl _ _).alloc (Nat.le_refl _) _
      have bT : Box (w.alloc (.cells #[.int .i64 t.op, .string t.atom.name, .slice a t.atom.args.length cap, .string t.v, .slice a2 n cap2] 36)) w.heap.size [.int .i64 t.op, .string t.atom.name, .slice a t.atom.args.length cap, .string t.v, .slice a2 n cap2] := Box.new w _ _
      replace hT := Fm.at_keep (Keeps.all hW) hT
      go_enter Try.func49, Try.ntmps49
      go_wp2_with fail
      generalize (w.alloc (.cells #[.int .i64 t.op, .string t.atom.name, .slice a t.atom.args.length cap, .string t.v, .slice a2 n cap2] 36)) = w0 at *
      have eT0 := bT.c0
      have eT1 := bT.c1
      have eT2 := bT.c2
      have eT3 := bT.c3
      have eT4 := bT.c4
      have lT := bT.lt
      refine (isQuantifier_any _ _).mono ?_
      rintro e w4 ⟨rfl, rfl⟩
      first | rw [Q1] | rw [Q2]
      go_wp2_with fail
      go_ret
      exact Gives.mk (ret_bool HH.out.symm) hW
  have p8 : (t.op == 8) = false := by simp [o1]
  have r8 := hid o1
  clear o1
  by_cases o1 : t.op = 9
  · have HF : Hid (t.form = (decide (t.parts.length = 1) && t.atom.none && varName t.v)) := by rw [Hid, Fm.form_9 o1]
    have Q1 : quantOp t.op = true := by rw [o1]; rfl
    have Q2 : quantOp 9 = true := rfl
    have s4 : (t.op != 3) = true := by simp [o1]
    have s1 : (t.op == 9) = true := by simp [o1]
    clear o1
    by_cases hl : t.parts.length = 1
    · have hl2 : ((n : Int) == 1) = true := by rw [beq_iff_eq]; have := HN.out; omega
      have hl3 : ((n : Int) != 1) = false := by rw [bne, hl2]; rfl
      by_cases hv : varName t.v = true
      · skip
        have HG : Hid (t.forms = (t.atom.none && Fm.formsAll t.parts)) := by rw [Hid, Fm.forms_eq, HF.out]; simp [hl, hv]
        clear hl
        by_cases ha : t.atom.none = true
        · have HH : Hid (t.forms = Fm.formsAll t.parts) := by rw [Hid, HG.out, ha]; rfl
          obtain ⟨rfl, rfl, ⟨a, cap, rfl⟩, rfl, a2, cap2, rfl⟩ := Fm.at_form hT
          rw [HN.out] at hT ⊢
          have hW : Below w.heap.size w (w.alloc (.cells #[.int .i64 t.op, .string t.atom.name, .slice a t.atom.args.length cap, .string t.v, .slice a2 n cap2] 36)) := (Below.refl _ _).alloc (Nat.le_refl _) _
          have bT : Box (w.alloc (.cells #[.int .i64 t.op, .string t.atom.name, .slice a t.atom.args.length cap, .string t.v, .slice a2 n cap2] 36)) w.heap.size [.int .i64 t.op, .string t.atom.name, .slice a t.atom.args.length cap, .string t.v, .slice a2 n cap2] := Box.new w _ _
          replace hT := Fm.at_keep (Keeps.all hW) hT
          go_enter Try.func49, Try.ntmps49
          go_wp2_with fail
          generalize (w.alloc (.cells #[.int .i64 t.op, .string t.atom.name, .slice a t.atom.args.length cap, .string t.v, .slice a2 n cap2] 36)) = w0 at *
          have eT0 := bT.c0
          have eT1 := bT.c1
          have eT2 := bT.c2
          have eT3 := bT.c3
          have eT4 := bT.c4
          have lT := bT.lt
          refine (isQuantifier_any _ _).mono ?_
          rintro e w4 ⟨rfl, rfl⟩
          first | rw [Q1] | rw [Q2]
          go_wp2_with fail
          refine (isQuantifier_any _ _).mono ?_
          rintro e w4 ⟨rfl, rfl⟩
          first | rw [Q1] | rw [Q2]
          go_wp2_with fail
          refine (isVariable_any t.v (Fm.v_le hT) _).mono ?_
          rintro e w4 ⟨rfl, rfl⟩
          rw [hv]
          go_wp2_with fail
          refine (isQuantifier_any _ _).mono ?_
          rintro e w4 ⟨rfl, rfl⟩
          first | rw [Q1] | rw [Q2]
          go_wp2_with fail
          clear eT0 eT1 eT2 eT3 eT4 lT
          refine (isZeroTerm_any t.atom (Fm.at_atom hT) hbA).mono ?_
          rintro e w1 ⟨_, rfl, hb, rfl⟩
          replace hW := hW.trans (hb.mono hW.size)
          replace bT := bT.keep hb
          replace hT := Fm.at_keep (Keeps.all hb) hT
          clear hb
          rw [ha]
          have eT0 := bT.c0
          have eT1 := bT.c1
          have eT2 := bT.c2
          have eT3 := bT.c3
          have eT4 := bT.c4
          have lT := bT.lt
          go_wp2_with fail
          clear eT0 eT1 eT2 eT3 eT4 lT
          refine (containsFuncF 74 callableF (fun t => !t.forms) t.parts (fun p hp => hasForm1_of (h p hp)) (Fm.at_parts hT) hbP).mono ?_
          rintro e w5 ⟨_, rfl, hb, rfl⟩
          rw [Fm.any_forms]
          go_wp2_with fail
          go_ret
          exact Gives.mk (ret_bool (by rw [HH.out])) (hW.trans (hb.mono hW.size))
        · replace ha : t.atom.none = false := by simpa using ha
          have HH : Hid (t.forms = false) := by rw [Hid, HG.out, ha]; rfl
          obtain ⟨rfl, rfl, ⟨a, cap, rfl⟩, rfl, a2, cap2, rfl⟩ := Fm.at_form hT
          rw [HN.out] at hT ⊢
          have hW : Below w.heap.size w (w.alloc (.cells #[.int .i64 t.op, .string t.atom.name, .slice a t.atom.args.length cap, .string t.v, .slice a2 n cap2] 36)) := (Below.refl _ _).alloc (Nat.le_refl _) _
          have bT : Box (w.alloc (.cells #[.int .i64 t.op, .string t.atom.name, .slice a t.atom.args.length cap, .string t.v, .slice a2 n cap2] 36)) w.heap.size [.int .i64 t.op, .string t.atom.name, .slice a t.atom.args.length cap, .string t.v, .slice a2 n cap2] := Box.new w _ _
          replace hT := Fm.at_keep (Keeps.all hW) hT
          go_enter Try.func49, Try.ntmps49
          go_wp2_with fail
          generalize (w.alloc (.cells #[.int .i64 t.op, .string t.atom.name, .slice a t.atom.args.length cap, .string t.v, .slice a2 n cap2] 36)) = w0 at *
          have eT0 := bT.c0
          have eT1 := bT.c1
          have eT2 := bT.c2
          have eT3 := bT.c3
          have eT4 := bT.c4
          have lT := bT.lt
          refine (isQuantifier_any _ _).mono ?_
          rintro e w4 ⟨rfl, rfl⟩
          first | rw [Q1] | rw [Q2]
          go_wp2_with fail
          refine (isQuantifier_any _ _).mono ?_
          rintro e w4 ⟨rfl, rfl⟩
          first | rw [Q1] | rw [Q2]
          go_wp2_with fail
          refine (isVariable_any t.v (Fm.v_le hT) _).mono ?_
          rintro e w4 ⟨rfl, rfl⟩
          rw [hv]
          go_wp2_with fail
          refine (isQuantifier_any _ _).mono ?_
          rintro e w4 ⟨rfl, rfl⟩
          first | rw [Q1] | rw [Q2]
          go_wp2_with fail
          clear eT0 eT1 eT2 eT3 eT4 lT
          refine (isZeroTerm_any t.atom (Fm.at_atom hT) hbA).mono ?_
          rintro e w1 ⟨_, rfl, hb, rfl⟩
          replace hW := hW.trans (hb.mono hW.size)
          replace bT := bT.keep hb
          replace hT := Fm.at_keep (Keeps.all hb) hT
          clear hb
          rw [ha]
          have eT0 := bT.c0
          have eT1 := bT.c1
          have eT2 := bT.c2
          have eT3 := bT.c3
          have eT4 := bT.c4
          have lT := bT.lt
          go_wp2_with fail
          clear eT0 eT1 eT2 eT3 eT4 lT
          go_ret
          exact Gives.mk (ret_bool HH.out.symm) hW
      · replace hv : varName t.v = false := by simpa using hv
        have HH : Hid (t.forms = false) := by rw [Hid, Fm.forms_eq, HF.out]; simp [hv]
        clear hl
        obtain ⟨rfl, rfl, ⟨a, cap, rfl⟩, rfl, a2, cap2, rfl⟩ := Fm.at_form hT
        rw [HN.out] at hT ⊢
        have hW : Below w.heap.size w (w.alloc (.cells #[.int .i64 t.op, .string t.atom.name, .slice a t.atom.args.length cap, .string t.v, .slice a2 n cap2] 36)) := (Below.refl _ _).alloc (Nat.le_refl _) _
        have bT : Box (w.alloc (.cells #[.int .i64 t.op, .string t.atom.name, .slice a t.atom.args.length cap, .string t.v, .slice a2 n cap2] 36)) w.heap.size [.int .i64 t.op, .string t.atom.name, .slice a t.atom.args.length cap, .string t.v, .slice a2 n cap2] := Box.new w _ _
        replace hT := Fm.at_keep (Keeps.all hW) hT
        go_enter Try.func49, Try.ntmps49
        go_wp2_with fail
        generalize (w.alloc (.cells #[.int .i64 t.op, .string t.atom.name, .slice a t.atom.args.length cap, .string t.v, .slice a2 n cap2] 36)) = w0 at *
        have eT0 := bT.c0
        have eT1 := bT.c1
        have eT2 := bT.c2
        have eT3 := bT.c3
        have eT4 := bT.c4
        have lT := bT.lt
        refine (isQuantifier_any _ _).mono ?_
        rintro e w4 ⟨rfl, rfl⟩
        first | rw [Q1] | rw [Q2]
        go_wp2_with fail
        refine (isQuantifier_any _ _).mono ?_
        rintro e w4 ⟨rfl, rfl⟩
        first | rw [Q1] | rw [Q2]
        go_wp2_with fail
        refine (isVariable_any t.v (Fm.v_le hT) _).mono ?_
        rintro e w4 ⟨rfl, rfl⟩
        rw [hv]
        go_wp2_with fail
        go_ret
        exact Gives.mk (ret_bool HH.out.symm) hW
    · have hl2 : ((n : Int) == 1) = false := by rw [beq_eq_false_iff_ne]; have := HN.out; omega
      have hl3 : ((n : Int) != 1) = true := by rw [bne, hl2]; rfl
      have HH : Hid (t.forms = false) := by rw [Hid, Fm.forms_eq, HF.out]; simp [hl]
      clear hl
      obtain ⟨rfl, rfl, ⟨a, cap, rfl⟩, rfl, a2, cap2, rfl⟩ := Fm.at_form hT
      rw [HN.out] at hT ⊢
      have hW : Below w.heap.size w (w.alloc (.cells #[.int .i64 t.op, .string t.atom.name, .slice a t.atom.args.length cap, .string t.v, .slice a2 n cap2] 36)) := (Below.refl _ _).alloc (Nat.le_refl _) _
      have bT : Box (w.alloc (.cells #[.int .i64 t.op, .string t.atom.name, .slice a t.atom.args.length cap, .string t.v, .slice a2 n cap2] 36)) w.heap.size [.int .i64 t.op, .string t.atom.name, .slice a t.atom.args.length cap, .string t.v, .slice a2 n cap2] := Box.new w _ _
      replace hT := Fm.at_keep (Keeps.all hW) hT
      go_enter Try.func49, Try.ntmps49
      go_wp2_with fail
      generalize (w.alloc (.cells #[.int .i64 t.op, .string t.atom.name, .slice a t.atom.args.length cap, .string t.v, .slice a2 n cap2] 36)) = w0 at *
      have eT0 := bT.c0
      have eT1 := bT.c1
      have eT2 := bT.c2
      have eT3 := bT.c3
      have eT4 := bT.c4
      have lT := bT.lt
      refine (isQuantifier_any _ _).mono ?_
      rintro e w4 ⟨rfl, rfl⟩
      first | rw [Q1] | rw [Q2]
      go_wp2_with fail
      go_ret
      exact Gives.mk (ret_bool HH.out.symm) hW
  have p9 : (t.op == 9) = false := by simp [o1]
  have r9 := hid o1
  clear o1
  have HG : Hid (t.form = false) := Fm.form_none r1.out r2.out r3.out r4.out r5.out r6.out r7.out r8.out r9.out
  have HH : Hid (t.forms = false) := by rw [Hid, Fm.forms_eq, HG.out]; rfl
  have Q1 : quantOp t.op = false := by simp [quantOp, r8.out, r9.out]
  have B1 : binOp t.op = false := by simp [binOp, r5.out, r6.out, r7.out]
  obtain ⟨rfl, rfl, ⟨a, cap, rfl⟩, rfl, a2, cap2, rfl⟩ := Fm.at_form hT
  rw [HN.out] at hT ⊢
  have hW : Below w.heap.size w (w.alloc (.cells #[.int .i64 t.op, .string t.atom.name, .slice a t.atom.args.length cap, .string t.v, .slice a2 n cap2] 36)) := (Below.refl _ _).alloc (Nat.le_refl _) _
  have bT : Box (w.alloc (.cells #[.int .i64 t.op, .string t.atom.name, .slice a t.atom.args.length cap, .string t.v, .slice a2 n cap2] 36)) w.heap.size [.int .i64 t.op, .string t.atom.name, .slice a t.atom.args.length cap, .string t.v, .slice a2 n cap2] := Box.new w _ _
  replace hT := Fm.at_keep (Keeps.all hW) hT
  go_enter Try.func49, Try.ntmps49
  go_wp2_with fail
  generalize (w.alloc (.cells #[.int .i64 t.op, .string t.atom.name, .slice a t.atom.args.length cap, .string t.v, .slice a2 n cap2] 36)) = w0 at *
  have eT0 := bT.c0
  have eT1 := bT.c1
  have eT2 := bT.c2
  have eT3 := bT.c3
  have eT4 := bT.c4
  have lT := bT.lt
  refine (isQuantifier_any _ _).mono ?_
  rintro e w4 ⟨rfl, rfl⟩
  rw [Q1]
  go_wp2_with fail
  refine (isBinary_any _ _).mono ?_
  rintro e w4 ⟨rfl, rfl⟩
  rw [B1]
  go_wp2_with fail
  go_ret
  exact Gives.mk (ret_bool HH.out.symm) hW
theorem hasForm_any (t : Fm) : PredF 49 Fm.forms t := Fm.ind (P := PredF 49 Fm.forms) (fun o a v ps h => hasForm_of (.node o a v ps) h) t
end Go.Proofs.Ythpookgpmnbilaa
