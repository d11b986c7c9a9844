/- The texts of literals. -/
import Derived.Test.YtiifibmahomdhaaTw
import Derived.Test.YtiifibmahomdhaaLv
namespace Go.Proofs.Ytiifibmahomdhaa
set_option maxRecDepth 100000
open Go.RowKit

def Lit.text (x : Lit) : List UInt8 :=
  if x.pos = true then x.atom.text else if x.atom.name = eqSign then (Tm.texts x.atom.args).getD 0 [] ++ [32, 33, 61, 32] ++ (Tm.texts x.atom.args).getD 1 [] else 126 :: x.atom.text
theorem Lit.text_le (x : Lit) (h : x.atom.bulk ≤ 1048576) : x.text.length ≤ 4194308 := by
  have h0 := Tm.text_le x.atom h
  rw [Lit.text]
  split
  · omega
  · split
    · rename_i hn
      rw [Tm.text_eq, textOf, if_pos hn] at h0
      simp only [List.length_append, List.length_cons, List.length_nil] at h0 ⊢; omega
    · simp only [List.length_cons]; omega

/-- the call returns the text of the literal -/
def LTextIs (f : FuncId) : Prop := ∀ ⦃t : Lit⦄ ⦃S : Nat → Prop⦄ ⦃c0 c1 c2 : Value⦄ ⦃w : World⦄, Lit.at S w c0 c1 c2 t → t.atom.bulk ≤ 1048576 → t.atom.sides → Calls Try.prog f #[.agg #[c0, c1, c2]] w (Gives w (.string (bs t.text)))

set_option maxHeartbeats 1000000 in
theorem l3Literal_any : LTextIs 62 := by
  intro t S c0 c1 c2 w hT hbA hsd
  by_cases hP : t.pos = true
  · have HX : Hid (t.text = t.atom.text) := by rw [Hid, Lit.text, if_pos hP]
    have HP := hid hP
    clear hP
    obtain ⟨rfl, rfl, a, cap, rfl⟩ := Lit.at_form hT
    rw [HP.out] at hT ⊢
    have hW : Below w.heap.size w (w.alloc (.cells #[.bool true, .string t.atom.name, .slice a t.atom.args.length cap] 39)) := (Below.refl _ _).alloc (Nat.le_refl _) _
    have bT : Box (w.alloc (.cells #[.bool true, .string t.atom.name, .slice a t.atom.args.length cap] 39)) w.heap.size [.bool true, .string t.atom.name, .slice a t.atom.args.length cap] := Box.new w _ _
    replace hT := Lit.at_keep (Keeps.all hW) hT
    go_enter Try.func62, Try.ntmps62
    go_wp2_with fail
    generalize (w.alloc (.cells #[.bool true, .string t.atom.name, .slice a t.atom.args.length cap] 39)) = w0 at *
    refine (l3Term_any t.atom (Lit.at_atom hT) hbA hsd).mono ?_
    rintro e w1 ⟨_, rfl, hb, rfl⟩
    go_wp2_with fail
    go_ret
    exact Gives.mk (ret_str (by rw [HX.out])) (hW.trans (hb.mono hW.size))
  · by_cases he : t.atom.name = eqSign
    · have H2 := hid ((Tm.sides_eq hsd).1 he)
      have hsa := (Tm.sides_eq hsd).2
      have HX : Hid (t.text = (t.atom.args[0]'(by have := H2.out; omega)).text ++ ([32, 33, 61, 32] : List UInt8) ++ (t.atom.args[1]'(by have := H2.out; omega)).text) := by rw [Hid, Lit.text, if_neg hP, if_pos he, Tm.texts_two H2.out]; rfl
      have HP : Hid (t.pos = false) := by simpa [Hid] using hP
      clear hP
      have hq := eqName_yes he
      clear he
      obtain ⟨rfl, rfl, a, cap, rfl⟩ := Lit.at_form hT
      rw [HP.out] at hT ⊢
      have hW : Below w.heap.size w (w.alloc (.cells #[.bool false, .string t.atom.name, .slice a t.atom.args.length cap] 39)) := (Below.refl _ _).alloc (Nat.le_refl _) _
      have bT : Box (w.alloc (.cells #[.bool false, .string t.atom.name, .slice a t.atom.args.length cap] 39)) w.heap.size [.bool false, .string t.atom.name, .slice a t.atom.args.length cap] := Box.new w _ _
      replace hT := Lit.at_keep (Keeps.all hW) hT
      go_enter Try.func62, Try.ntmps62
      go_wp2_with fail
      generalize (w.alloc (.cells #[.bool false, .string t.atom.name, .slice a t.atom.args.length cap] 39)) = w0 at *
      skip
      have h2 := H2.out
      have hnn : t.atom.args ≠ [] := by intro e; rw [e] at h2; simp at h2
      have i0 : 0 < t.atom.args.length := by omega
      have i1 : 1 < t.atom.args.length := by omega
      have j0 : (0 : Int) < t.atom.args.length := by omega
      have j1 : (1 : Int) < t.atom.args.length := by omega
      obtain ⟨b, off, rfl, hS, hbl, hrr⟩ := Tm.sd_get hT.2.2 hnn
      obtain ⟨x0, x1, q0, q1, qx⟩ := hrr 0 i0
      obtain ⟨y0, y1, r0, r1, rx⟩ := hrr 1 i1
      clear hrr
      obtain ⟨rfl, -, z0, zc0, rfl⟩ := Tm.at_form qx
      obtain ⟨rfl, -, z1, zc1, rfl⟩ := Tm.at_form rx
      simp only [Nat.zero_mul, Nat.add_zero, Nat.one_mul] at q0 q1 r0 r1
      have hb0 : t.atom.args[0].bulk ≤ 1048576 := by have := Tm.bulk_at i0; have := Tm.args_bulk t.atom; omega
      have hb1 : t.atom.args[1].bulk ≤ 1048576 := by have := Tm.bulk_at i1; have := Tm.args_bulk t.atom; omega
      clear h2
      have eT1 := bT.c1
      have eT2 := bT.c2
      have lT := bT.lt
      have h0 := l3Term_any t.atom.args[0]
      have h1 := l3Term_any t.atom.args[1]
      have s0 := hsa _ (List.getElem_mem i0)
      have s1 := hsa _ (List.getElem_mem i1)
      obtain ⟨l0, H0⟩ : ∃ l0, Hid (l0 = t.atom.args[0].text) := ⟨_, hid rfl⟩
      obtain ⟨l1, H1⟩ : ∃ l1, Hid (l1 = t.atom.args[1].text) := ⟨_, hid rfl⟩
      obtain ⟨l2, HL2⟩ : ∃ l2, Hid (l2 = l0 ++ [32, 33, 61, 32]) := ⟨_, hid rfl⟩
      obtain ⟨l3, HL3⟩ : ∃ l3, Hid (l3 = l2 ++ l1) := ⟨_, hid rfl⟩
      have HT : Hid (t.text = l3) := by rw [Hid, HX.out, HL3.out, HL2.out, H0.out, H1.out]
      have g0 : ¬ 9223372036854775807 < (bs l0).size + 4 := by rw [bs_size, H0.out]; have := Tm.text_le _ hb0; omega
      have g1 : ¬ 9223372036854775807 < (bs l2).size + (bs l1).size := by rw [bs_size, bs_size, HL2.out, H0.out, H1.out, List.length_append]; have := Tm.text_le _ hb0; have := Tm.text_le _ hb1; simp only [List.length_cons, List.length_nil]; omega
      refine wp_region_B [fun v _ => v = .pointer (some ⟨w.heap.size, 1, none⟩), fun v _ => v = .pointer (some ⟨w.heap.size, 2, none⟩), fun v _ => v = .slice (some ⟨b, off, none⟩) t.atom.args.length cap, fun v _ => v = .pointer (some ⟨b, off, none⟩), fun v _ => v = .agg #[.string t.atom.args[0].name, .slice z0 t.atom.args[0].args.length zc0], fun v _ => v = .string (bs l0), fun v _ => v = .string (bs l2), fun v _ => v = .pointer (some ⟨w.heap.size, 1, none⟩), fun v _ => v = .pointer (some ⟨w.heap.size, 2, none⟩), fun v _ => v = .slice (some ⟨b, off, none⟩) t.atom.args.length cap, fun v _ => v = .pointer (some ⟨b, off + 2, none⟩), fun v _ => v = .agg #[.string t.atom.args[1].name, .slice z1 t.atom.args[1].args.length zc1], fun v _ => v = .string (bs l1), fun v _ => v = .string (bs l3), fun v _ => v = .string (bs l3)] _ (fun V => by simp [putAll, Act.put]; rfl) (by kernel_rfl) (by decide) (by simp) (by kernel_rfl) ?_ ?_ ?_
      · intro F hF
        simp only [List.mem_cons, List.not_mem_nil, or_false] at hF
        rcases hF with rfl | rfl | rfl | rfl | rfl | rfl | rfl | rfl | rfl | rfl | rfl | rfl | rfl | rfl | rfl
        · exact stable_eq
        · exact stable_eq
        · exact stable_eq
        · exact stable_eq
        · exact stable_eq
        · exact stable_eq
        · exact stable_eq
        · exact stable_eq
        · exact stable_eq
        · exact stable_eq
        · exact stable_eq
        · exact stable_eq
        · exact stable_eq
        · exact stable_eq
        · exact stable_eq
      · refine ⟨?_, ?_, ?_, ?_, ?_, ?_, ?_, ?_, ?_, ?_, ?_, ?_, ?_, ?_, ?_, trivial⟩
        · intro V w1 hbR _
          unfold Does
          go_simp
          exact ⟨Below.refl _ _, rfl⟩
        · intro V w1 hbR ⟨f0, _⟩
          replace f0 : V 0 = .pointer (some ⟨w.heap.size, 1, none⟩) := f0
          unfold Does
          go_simp
          exact ⟨Below.refl _ _, rfl⟩
        · intro V w1 hbR ⟨f1, _⟩
          replace f1 : V 1 = .pointer (some ⟨w.heap.size, 2, none⟩) := f1
          obtain ⟨hc, hf⟩ := bcell hbR
          try simp only [World.size_alloc, World.size_setCell] at hc hf
          unfold Does
          go_simp
          exact ⟨Below.refl _ _, rfl⟩
        · intro V w1 hbR ⟨f2, _⟩
          replace f2 : V 2 = .slice (some ⟨b, off, none⟩) t.atom.args.length cap := f2
          unfold Does
          go_simp
          exact ⟨Below.refl _ _, rfl⟩
        · intro V w1 hbR ⟨f3, _⟩
          replace f3 : V 3 = .pointer (some ⟨b, off, none⟩) := f3
          obtain ⟨hc, hf⟩ := bcell hbR
          try simp only [World.size_alloc, World.size_setCell] at hc hf
          unfold Does
          go_simp
          exact ⟨Below.refl _ _, rfl⟩
        · intro V w1 hbR ⟨f4, _⟩
          replace f4 : V 4 = .agg #[.string t.atom.args[0].name, .slice z0 t.atom.args[0].args.length zc0] := f4
          obtain ⟨hc, hf⟩ := bcell hbR
          try simp only [World.size_alloc, World.size_setCell] at hc hf
          unfold Does
          go_simp
          have hq := h0 (Tm.at_keep (Keeps.all hbR) qx) hb0 s0; rw [← H0.out] at hq; exact hq
        · intro V w1 hbR ⟨f5, _⟩
          replace f5 : V 5 = .string (bs l0) := f5
          unfold Does
          go_simp
          exact ⟨Below.refl _ _, congrArg Value.string (by rw [HL2.out, bs_mk #[32, 33, 61, 32], bs_append])⟩
        · intro V w1 hbR _
          unfold Does
          go_simp
          exact ⟨Below.refl _ _, rfl⟩
        · intro V w1 hbR ⟨f7, _⟩
          replace f7 : V 7 = .pointer (some ⟨w.heap.size, 1, none⟩) := f7
          unfold Does
          go_simp
          exact ⟨Below.refl _ _, rfl⟩
        · intro V w1 hbR ⟨f8, _⟩
          replace f8 : V 8 = .pointer (some ⟨w.heap.size, 2, none⟩) := f8
          obtain ⟨hc, hf⟩ := bcell hbR
          try simp only [World.size_alloc, World.size_setCell] at hc hf
          unfold Does
          go_simp
          exact ⟨Below.refl _ _, rfl⟩
        · intro V w1 hbR ⟨f9, _⟩
          replace f9 : V 9 = .slice (some ⟨b, off, none⟩) t.atom.args.length cap := f9
          unfold Does
          go_simp
          exact ⟨Below.refl _ _, rfl⟩
        · intro V w1 hbR ⟨f10, _⟩
          replace f10 : V 10 = .pointer (some ⟨b, off + 2, none⟩) := f10
          obtain ⟨hc, hf⟩ := bcell hbR
          try simp only [World.size_alloc, World.size_setCell] at hc hf
          unfold Does
          go_simp
          exact ⟨Below.refl _ _, rfl⟩
        · intro V w1 hbR ⟨f11, f5, _⟩
          replace f5 : V 5 = .string (bs l0) := f5
          replace f11 : V 11 = .agg #[.string t.atom.args[1].name, .slice z1 t.atom.args[1].args.length zc1] := f11
          obtain ⟨hc, hf⟩ := bcell hbR
          try simp only [World.size_alloc, World.size_setCell] at hc hf
          unfold Does
          go_simp
          have hq := h1 (Tm.at_keep (Keeps.all hbR) rx) hb1 s1; rw [← H1.out] at hq; exact hq
        · intro V w1 hbR ⟨f6, f12, _⟩
          replace f6 : V 6 = .string (bs l2) := f6
          replace f12 : V 12 = .string (bs l1) := f12
          unfold Does
          go_simp
          exact ⟨Below.refl _ _, congrArg Value.string (by rw [HL3.out, bs_append])⟩
        · intro V w1 hbR ⟨f13, f12, f0, f1, f2, f3, f4, f5, f6, f7, f8, f9, f10, f11, _, _, _⟩
          replace f0 : V 0 = .pointer (some ⟨w.heap.size, 1, none⟩) := f0
          replace f1 : V 1 = .pointer (some ⟨w.heap.size, 2, none⟩) := f1
          replace f2 : V 2 = .slice (some ⟨b, off, none⟩) t.atom.args.length cap := f2
          replace f3 : V 3 = .pointer (some ⟨b, off, none⟩) := f3
          replace f4 : V 4 = .agg #[.string t.atom.args[0].name, .slice z0 t.atom.args[0].args.length zc0] := f4
          replace f5 : V 5 = .string (bs l0) := f5
          replace f6 : V 6 = .string (bs l2) := f6
          replace f7 : V 7 = .pointer (some ⟨w.heap.size, 1, none⟩) := f7
          replace f8 : V 8 = .pointer (some ⟨w.heap.size, 2, none⟩) := f8
          replace f9 : V 9 = .slice (some ⟨b, off, none⟩) t.atom.args.length cap := f9
          replace f10 : V 10 = .pointer (some ⟨b, off + 2, none⟩) := f10
          replace f11 : V 11 = .agg #[.string t.atom.args[1].name, .slice z1 t.atom.args[1].args.length zc1] := f11
          replace f12 : V 12 = .string (bs l1) := f12
          replace f13 : V 13 = .string (bs l3) := f13
          unfold Does
          go_simp
          exact ⟨Below.refl _ _, rfl⟩
      intro V w3 hbR hfR
      obtain ⟨f0, f1, f2, f3, f4, f5, f6, f7, f8, f9, f10, f11, f12, f13, f14, _⟩ := hfR
      replace f0 : V 0 = .pointer (some ⟨w.heap.size, 1, none⟩) := f0
      replace f1 : V 1 = .pointer (some ⟨w.heap.size, 2, none⟩) := f1
      replace f2 : V 2 = .slice (some ⟨b, off, none⟩) t.atom.args.length cap := f2
      replace f3 : V 3 = .pointer (some ⟨b, off, none⟩) := f3
      replace f4 : V 4 = .agg #[.string t.atom.args[0].name, .slice z0 t.atom.args[0].args.length zc0] := f4
      replace f5 : V 5 = .string (bs l0) := f5
      replace f6 : V 6 = .string (bs l2) := f6
      replace f7 : V 7 = .pointer (some ⟨w.heap.size, 1, none⟩) := f7
      replace f8 : V 8 = .pointer (some ⟨w.heap.size, 2, none⟩) := f8
      replace f9 : V 9 = .slice (some ⟨b, off, none⟩) t.atom.args.length cap := f9
      replace f10 : V 10 = .pointer (some ⟨b, off + 2, none⟩) := f10
      replace f11 : V 11 = .agg #[.string t.atom.args[1].name, .slice z1 t.atom.args[1].args.length zc1] := f11
      replace f12 : V 12 = .string (bs l1) := f12
      replace f13 : V 13 = .string (bs l3) := f13
      replace f14 : V 14 = .string (bs l3) := f14
      simp only [f0, f1, f2, f3, f4, f5, f6, f7, f8, f9, f10, f11, f12, f13, f14]
      clear f0 f1 f2 f3 f4 f5 f6 f7 f8 f9 f10 f11 f12 f13 f14
      clear eT1 eT2 lT g0 g1
      go_wp2_with fail
      go_ret
      exact Gives.mk (ret_str (by rw [HT.out])) (hW.trans (hbR.mono hW.size))
    · have HX : Hid (t.text = ([126] : List UInt8) ++ t.atom.text) := by rw [Hid, Lit.text, if_neg hP, if_neg he]; rfl
      have HP : Hid (t.pos = false) := by simpa [Hid] using hP
      clear hP
      have hq := eqName_no he
      clear he
      have gx : ¬ 9223372036854775807 < 1 + (bs t.atom.text).size := by rw [bs_size]; have := Tm.text_le _ hbA; omega
      obtain ⟨rfl, rfl, a, cap, rfl⟩ := Lit.at_form hT
      rw [HP.out] at hT ⊢
      have hW : Below w.heap.size w (w.alloc (.cells #[.bool false, .string t.atom.name, .slice a t.atom.args.length cap] 39)) := (Below.refl _ _).alloc (Nat.le_refl _) _
      have bT : Box (w.alloc (.cells #[.bool false, .string t.atom.name, .slice a t.atom.args.length cap] 39)) w.heap.size [.bool false, .string t.atom.name, .slice a t.atom.args.length cap] := Box.new w _ _
      replace hT := Lit.at_keep (Keeps.all hW) hT
      go_enter Try.func62, Try.ntmps62
      go_wp2_with fail
      generalize (w.alloc (.cells #[.bool false, .string t.atom.name, .slice a t.atom.args.length cap] 39)) = w0 at *
      skip
      refine (l3Term_any t.atom (Lit.at_atom hT) hbA hsd).mono ?_
      rintro e w1 ⟨_, rfl, hb, rfl⟩
      go_wp2_with fail
      go_ret
      exact Gives.mk (ret_str (by rw [HX.out, bs_mk #[126], bs_append])) (hW.trans (hb.mono hW.size))
set_option maxHeartbeats 1000000 in
theorem formatLiteral_any : LTextIs 64 := by
  intro t S c0 c1 c2 w hT hbA hsd
  by_cases hP : t.pos = true
  · have HX : Hid (t.text = t.atom.text) := by rw [Hid, Lit.text, if_pos hP]
    have HP := hid hP
    clear hP
    obtain ⟨rfl, rfl, a, cap, rfl⟩ := Lit.at_form hT
    rw [HP.out] at hT ⊢
    have hW : Below w.heap.size w (w.alloc (.cells #[.bool true, .string t.atom.name, .slice a t.atom.args.length cap] 39)) := (Below.refl _ _).alloc (Nat.le_refl _) _
    have bT : Box (w.alloc (.cells #[.bool true, .string t.atom.name, .slice a t.atom.args.length cap] 39)) w.heap.size [.bool true, .string t.atom.name, .slice a t.atom.args.length cap] := Box.new w _ _
    replace hT := Lit.at_keep (Keeps.all hW) hT
    go_enter Try.func64, Try.ntmps64
    go_wp2_with fail
    generalize (w.alloc (.cells #[.bool true, .string t.atom.name, .slice a t.atom.args.length cap] 39)) = w0 at *
    refine (formatTerm_any t.atom (Lit.at_atom hT) hbA hsd).mono ?_
    rintro e w1 ⟨_, rfl, hb, rfl⟩
    go_wp2_with fail
    go_ret
    exact Gives.mk (ret_str (by rw [HX.out])) (hW.trans (hb.mono hW.size))
  · by_cases he : t.atom.name = eqSign
    · have H2 := hid ((Tm.sides_eq hsd).1 he)
      have hsa := (Tm.sides_eq hsd).2
      have HX : Hid (t.text = (t.atom.args[0]'(by have := H2.out; omega)).text ++ ([32, 33, 61, 32] : List UInt8) ++ (t.atom.args[1]'(by have := H2.out; omega)).text) := by rw [Hid, Lit.text, if_neg hP, if_pos he, Tm.texts_two H2.out]; rfl
      have HP : Hid (t.pos = false) := by simpa [Hid] using hP
      clear hP
      have hq : t.atom.isEq = true := by simp [Tm.isEq, he]
      clear he
      obtain ⟨rfl, rfl, a, cap, rfl⟩ := Lit.at_form hT
      rw [HP.out] at hT ⊢
      have hW : Below w.heap.size w (w.alloc (.cells #[.bool false, .string t.atom.name, .slice a t.atom.args.length cap] 39)) := (Below.refl _ _).alloc (Nat.le_refl _) _
      have bT : Box (w.alloc (.cells #[.bool false, .string t.atom.name, .slice a t.atom.args.length cap] 39)) w.heap.size [.bool false, .string t.atom.name, .slice a t.atom.args.length cap] := Box.new w _ _
      replace hT := Lit.at_keep (Keeps.all hW) hT
      go_enter Try.func64, Try.ntmps64
      go_wp2_with fail
      generalize (w.alloc (.cells #[.bool false, .string t.atom.name, .slice a t.atom.args.length cap] 39)) = w0 at *
      refine (isEquality_any t.atom (Lit.at_atom hT) hbA).mono ?_
      rintro e w1 ⟨_, rfl, hb, rfl⟩
      replace hW := hW.trans (hb.mono hW.size)
      replace bT := bT.keep hb
      replace hT := Lit.at_keep (Keeps.all hb) hT
      clear hb
      rw [hq]
      have eT0 := bT.c0
      have eT1 := bT.c1
      have eT2 := bT.c2
      have lT := bT.lt
      go_wp2_with fail
      clear eT0 eT1 eT2 lT
      have h2 := H2.out
      have hnn : t.atom.args ≠ [] := by intro e; rw [e] at h2; simp at h2
      have i0 : 0 < t.atom.args.length := by omega
      have i1 : 1 < t.atom.args.length := by omega
      have j0 : (0 : Int) < t.atom.args.length := by omega
      have j1 : (1 : Int) < t.atom.args.length := by omega
      obtain ⟨b, off, rfl, hS, hbl, hrr⟩ := Tm.sd_get hT.2.2 hnn
      obtain ⟨x0, x1, q0, q1, qx⟩ := hrr 0 i0
      obtain ⟨y0, y1, r0, r1, rx⟩ := hrr 1 i1
      clear hrr
      obtain ⟨rfl, -, z0, zc0, rfl⟩ := Tm.at_form qx
      obtain ⟨rfl, -, z1, zc1, rfl⟩ := Tm.at_form rx
      simp only [Nat.zero_mul, Nat.add_zero, Nat.one_mul] at q0 q1 r0 r1
      have hb0 : t.atom.args[0].bulk ≤ 1048576 := by have := Tm.bulk_at i0; have := Tm.args_bulk t.atom; omega
      have hb1 : t.atom.args[1].bulk ≤ 1048576 := by have := Tm.bulk_at i1; have := Tm.args_bulk t.atom; omega
      clear h2
      have eT1 := bT.c1
      have eT2 := bT.c2
      have lT := bT.lt
      have h0 := formatTerm_any t.atom.args[0]
      have h1 := formatTerm_any t.atom.args[1]
      have s0 := hsa _ (List.getElem_mem i0)
      have s1 := hsa _ (List.getElem_mem i1)
      obtain ⟨l0, H0⟩ : ∃ l0, Hid (l0 = t.atom.args[0].text) := ⟨_, hid rfl⟩
      obtain ⟨l1, H1⟩ : ∃ l1, Hid (l1 = t.atom.args[1].text) := ⟨_, hid rfl⟩
      obtain ⟨l2, HL2⟩ : ∃ l2, Hid (l2 = l0 ++ [32, 33, 61, 32]) := ⟨_, hid rfl⟩
      obtain ⟨l3, HL3⟩ : ∃ l3, Hid (l3 = l2 ++ l1) := ⟨_, hid rfl⟩
      have HT : Hid (t.text = l3) := by rw [Hid, HX.out, HL3.out, HL2.out, H0.out, H1.out]
      have g0 : ¬ 9223372036854775807 < (bs l0).size + 4 := by rw [bs_size, H0.out]; have := Tm.text_le _ hb0; omega
      have g1 : ¬ 9223372036854775807 < (bs l2).size + (bs l1).size := by rw [bs_size, bs_size, HL2.out, H0.out, H1.out, List.length_append]; have := Tm.text_le _ hb0; have := Tm.text_le _ hb1; simp only [List.length_cons, List.length_nil]; omega
      refine wp_region_B [fun v _ => v = .pointer (some ⟨w.heap.size, 1, none⟩), fun v _ => v = .pointer (some ⟨w.heap.size, 2, none⟩), fun v _ => v = .slice (some ⟨b, off, none⟩) t.atom.args.length cap, fun v _ => v = .pointer (some ⟨b, off, none⟩), fun v _ => v = .agg #[.string t.atom.args[0].name, .slice z0 t.atom.args[0].args.length zc0], fun v _ => v = .string (bs l0), fun v _ => v = .string (bs l2), fun v _ => v = .pointer (some ⟨w.heap.size, 1, none⟩), fun v _ => v = .pointer (some ⟨w.heap.size, 2, none⟩), fun v _ => v = .slice (some ⟨b, off, none⟩) t.atom.args.length cap, fun v _ => v = .pointer (some ⟨b, off + 2, none⟩), fun v _ => v = .agg #[.string t.atom.args[1].name, .slice z1 t.atom.args[1].args.length zc1], fun v _ => v = .string (bs l1), fun v _ => v = .string (bs l3), fun v _ => v = .string (bs l3)] _ (fun V => by simp [putAll, Act.put]; rfl) (by kernel_rfl) (by decide) (by simp) (by kernel_rfl) ?_ ?_ ?_
      · intro F hF
        simp only [List.mem_cons, List.not_mem_nil, or_false] at hF
        rcases hF with rfl | rfl | rfl | rfl | rfl | rfl | rfl | rfl | rfl | rfl | rfl | rfl | rfl | rfl | rfl
        · exact stable_eq
        · exact stable_eq
        · exact stable_eq
        · exact stable_eq
        · exact stable_eq
        · exact stable_eq
        · exact stable_eq
        · exact stable_eq
        · exact stable_eq
        · exact stable_eq
        · exact stable_eq
        · exact stable_eq
        · exact stable_eq
        · exact stable_eq
        · exact stable_eq
      · refine ⟨?_, ?_, ?_, ?_, ?_, ?_, ?_, ?_, ?_, ?_, ?_, ?_, ?_, ?_, ?_, trivial⟩
        · intro V w1 hbR _
          unfold Does
          go_simp
          exact ⟨Below.refl _ _, rfl⟩
        · intro V w1 hbR ⟨f0, _⟩
          replace f0 : V 0 = .pointer (some ⟨w.heap.size, 1, none⟩) := f0
          unfold Does
          go_simp
          exact ⟨Below.refl _ _, rfl⟩
        · intro V w1 hbR ⟨f1, _⟩
          replace f1 : V 1 = .pointer (some ⟨w.heap.size, 2, none⟩) := f1
          obtain ⟨hc, hf⟩ := bcell hbR
          try simp only [World.size_alloc, World.size_setCell] at hc hf
          unfold Does
          go_simp
          exact ⟨Below.refl _ _, rfl⟩
        · intro V w1 hbR ⟨f2, _⟩
          replace f2 : V 2 = .slice (some ⟨b, off, none⟩) t.atom.args.length cap := f2
          unfold Does
          go_simp
          exact ⟨Below.refl _ _, rfl⟩
        · intro V w1 hbR ⟨f3, _⟩
          replace f3 : V 3 = .pointer (some ⟨b, off, none⟩) := f3
          obtain ⟨hc, hf⟩ := bcell hbR
          try simp only [World.size_alloc, World.size_setCell] at hc hf
          unfold Does
          go_simp
          exact ⟨Below.refl _ _, rfl⟩
        · intro V w1 hbR ⟨f4, _⟩
          replace f4 : V 4 = .agg #[.string t.atom.args[0].name, .slice z0 t.atom.args[0].args.length zc0] := f4
          obtain ⟨hc, hf⟩ := bcell hbR
          try simp only [World.size_alloc, World.size_setCell] at hc hf
          unfold Does
          go_simp
          have hq := h0 (Tm.at_keep (Keeps.all hbR) qx) hb0 s0; rw [← H0.out] at hq; exact hq
        · intro V w1 hbR ⟨f5, _⟩
          replace f5 : V 5 = .string (bs l0) := f5
          unfold Does
          go_simp
          exact ⟨Below.refl _ _, congrArg Value.string (by rw [HL2.out, bs_mk #[32, 33, 61, 32], bs_append])⟩
        · intro V w1 hbR _
          unfold Does
          go_simp
          exact ⟨Below.refl _ _, rfl⟩
        · intro V w1 hbR ⟨f7, _⟩
          replace f7 : V 7 = .pointer (some ⟨w.heap.size, 1, none⟩) := f7
          unfold Does
          go_simp
          exact ⟨Below.refl _ _, rfl⟩
        · intro V w1 hbR ⟨f8, _⟩
          replace f8 : V 8 = .pointer (some ⟨w.heap.size, 2, none⟩) := f8
          obtain ⟨hc, hf⟩ := bcell hbR
          try simp only [World.size_alloc, World.size_setCell] at hc hf
          unfold Does
          go_simp
          exact ⟨Below.refl _ _, rfl⟩
        · intro V w1 hbR ⟨f9, _⟩
          replace f9 : V 9 = .slice (some ⟨b, off, none⟩) t.atom.args.length cap := f9
          unfold Does
          go_simp
          exact ⟨Below.refl _ _, rfl⟩
        · intro V w1 hbR ⟨f10, _⟩
          replace f10 : V 10 = .pointer (some ⟨b, off + 2, none⟩) := f10
          obtain ⟨hc, hf⟩ := bcell hbR
          try simp only [World.size_alloc, World.size_setCell] at hc hf
          unfold Does
          go_simp
          exact ⟨Below.refl _ _, rfl⟩
        · intro V w1 hbR ⟨f11, f5, _⟩
          replace f5 : V 5 = .string (bs l0) := f5
          replace f11 : V 11 = .agg #[.string t.atom.args[1].name, .slice z1 t.atom.args[1].args.length zc1] := f11
          obtain ⟨hc, hf⟩ := bcell hbR
          try simp only [World.size_alloc, World.size_setCell] at hc hf
          unfold Does
          go_simp
          have hq := h1 (Tm.at_keep (Keeps.all hbR) rx) hb1 s1; rw [← H1.out] at hq; exact hq
        · intro V w1 hbR ⟨f6, f12, _⟩
          replace f6 : V 6 = .string (bs l2) := f6
          replace f12 : V 12 = .string (bs l1) := f12
          unfold Does
          go_simp
          exact ⟨Below.refl _ _, congrArg Value.string (by rw [HL3.out, bs_append])⟩
        · intro V w1 hbR ⟨f13, f12, f0, f1, f2, f3, f4, f5, f6, f7, f8, f9, f10, f11, _, _, _⟩
          replace f0 : V 0 = .pointer (some ⟨w.heap.size, 1, none⟩) := f0
          replace f1 : V 1 = .pointer (some ⟨w.heap.size, 2, none⟩) := f1
          replace f2 : V 2 = .slice (some ⟨b, off, none⟩) t.atom.args.length cap := f2
          replace f3 : V 3 = .pointer (some ⟨b, off, none⟩) := f3
          replace f4 : V 4 = .agg #[.string t.atom.args[0].name, .slice z0 t.atom.args[0].args.length zc0] := f4
          replace f5 : V 5 = .string (bs l0) := f5
          replace f6 : V 6 = .string (bs l2) := f6
          replace f7 : V 7 = .pointer (some ⟨w.heap.size, 1, none⟩) := f7
          replace f8 : V 8 = .pointer (some ⟨w.heap.size, 2, none⟩) := f8
          replace f9 : V 9 = .slice (some ⟨b, off, none⟩) t.atom.args.length cap := f9
          replace f10 : V 10 = .pointer (some ⟨b, off + 2, none⟩) := f10
          replace f11 : V 11 = .agg #[.string t.atom.args[1].name, .slice z1 t.atom.args[1].args.length zc1] := f11
          replace f12 : V 12 = .string (bs l1) := f12
          replace f13 : V 13 = .string (bs l3) := f13
          unfold Does
          go_simp
          exact ⟨Below.refl _ _, rfl⟩
      intro V w3 hbR hfR
      obtain ⟨f0, f1, f2, f3, f4, f5, f6, f7, f8, f9, f10, f11, f12, f13, f14, _⟩ := hfR
      replace f0 : V 0 = .pointer (some ⟨w.heap.size, 1, none⟩) := f0
      replace f1 : V 1 = .pointer (some ⟨w.heap.size, 2, none⟩) := f1
      replace f2 : V 2 = .slice (some ⟨b, off, none⟩) t.atom.args.length cap := f2
      replace f3 : V 3 = .pointer (some ⟨b, off, none⟩) := f3
      replace f4 : V 4 = .agg #[.string t.atom.args[0].name, .slice z0 t.atom.args[0].args.length zc0] := f4
      replace f5 : V 5 = .string (bs l0) := f5
      replace f6 : V 6 = .string (bs l2) := f6
      replace f7 : V 7 = .pointer (some ⟨w.heap.size, 1, none⟩) := f7
      replace f8 : V 8 = .pointer (some ⟨w.heap.size, 2, none⟩) := f8
      replace f9 : V 9 = .slice (some ⟨b, off, none⟩) t.atom.args.length cap := f9
      replace f10 : V 10 = .pointer (some ⟨b, off + 2, none⟩) := f10
      replace f11 : V 11 = .agg #[.string t.atom.args[1].name, .slice z1 t.atom.args[1].args.length zc1] := f11
      replace f12 : V 12 = .string (bs l1) := f12
      replace f13 : V 13 = .string (bs l3) := f13
      replace f14 : V 14 = .string (bs l3) := f14
      simp only [f0, f1, f2, f3, f4, f5, f6, f7, f8, f9, f10, f11, f12, f13, f14]
      clear f0 f1 f2 f3 f4 f5 f6 f7 f8 f9 f10 f11 f12 f13 f14
      clear eT1 eT2 lT g0 g1
      go_wp2_with fail
      go_ret
      exact Gives.mk (ret_str (by rw [HT.out])) (hW.trans (hbR.mono hW.size))
    · have HX : Hid (t.text = ([126] : List UInt8) ++ t.atom.text) := by rw [Hid, Lit.text, if_neg hP, if_neg he]; rfl
      have HP : Hid (t.pos = false) := by simpa [Hid] using hP
      clear hP
      have hq : t.atom.isEq = false := by simp [Tm.isEq, he]
      clear he
      have gx : ¬ 9223372036854775807 < 1 + (bs t.atom.text).size := by rw [bs_size]; have := Tm.text_le _ hbA; omega
      obtain ⟨rfl, rfl, a, cap, rfl⟩ := Lit.at_form hT
      rw [HP.out] at hT ⊢
      have hW : Below w.heap.size w (w.alloc (.cells #[.bool false, .string t.atom.name, .slice a t.atom.args.length cap] 39)) := (Below.refl _ _).alloc (Nat.le_refl _) _
      have bT : Box (w.alloc (.cells #[.bool false, .string t.atom.name, .slice a t.atom.args.length cap] 39)) w.heap.size [.bool false, .string t.atom.name, .slice a t.atom.args.length cap] := Box.new w _ _
      replace hT := Lit.at_keep (Keeps.all hW) hT
      go_enter Try.func64, Try.ntmps64
      go_wp2_with fail
      generalize (w.alloc (.cells #[.bool false, .string t.atom.name, .slice a t.atom.args.length cap] 39)) = w0 at *
      refine (isEquality_any t.atom (Lit.at_atom hT) hbA).mono ?_
      rintro e w1 ⟨_, rfl, hb, rfl⟩
      replace hW := hW.trans (hb.mono hW.size)
      replace bT := bT.keep hb
      replace hT := Lit.at_keep (Keeps.all hb) hT
      clear hb
      rw [hq]
      have eT0 := bT.c0
      have eT1 := bT.c1
      have eT2 := bT.c2
      have lT := bT.lt
      go_wp2_with fail
      clear eT0 eT1 eT2 lT
      refine (formatTerm_any t.atom (Lit.at_atom hT) hbA hsd).mono ?_
      rintro e w1 ⟨_, rfl, hb, rfl⟩
      go_wp2_with fail
      go_ret
      exact Gives.mk (ret_str (by rw [HX.out, bs_mk #[126], bs_append])) (hW.trans (hb.mono hW.size))
end Go.Proofs.Ytiifibmahomdhaa
