/- The program writes the texts of expressions. -/
import Derived.Test.YtiifibmahomdhaaTy
import Derived.Test.YtiifibmahomdhaaJn
namespace Go.Proofs.Ytiifibmahomdhaa
set_option maxRecDepth 100000
open Go.RowKit

set_option maxHeartbeats 2000000 in
theorem formatTerm_of (t : Tm) (h : ∀ a ∈ t.args, TextIs 59 a) : TextIs 59 t := by
  intro S c0 c1 w hT hbk hsd
  obtain ⟨hs2, hsa⟩ := Tm.sides_eq hsd
  have HX := hid (Tm.text_eq t)
  by_cases he : t.name = eqSign
  · have hq : t.isEq = true := by simp [Tm.isEq, he]
    have H2 := hid (hs2 he)
    have HE := hid he
    clear he hs2
    obtain ⟨rfl, hn, a, cap, rfl⟩ := Tm.at_form hT
    have hW : Below w.heap.size w (w.alloc (.cells #[.string t.name, .slice a t.args.length cap] 30)) := (Below.refl _ _).alloc (Nat.le_refl _) _
    have bT : Box (w.alloc (.cells #[.string t.name, .slice a t.args.length cap] 30)) w.heap.size [.string t.name, .slice a t.args.length cap] := Box.new w _ _
    replace hT := Tm.at_keep (Keeps.all hW) hT
    go_enter Try.func59, Try.ntmps59
    go_wp2_with fail
    generalize (w.alloc (.cells #[.string t.name, .slice a t.args.length cap] 30)) = w0 at *
    refine (isEquality_any t hT hbk).mono ?_
    rintro e w1 ⟨_, rfl, hb, rfl⟩
    replace hW := hW.trans (hb.mono hW.size)
    replace bT := bT.keep hb
    replace hT := Tm.at_keep (Keeps.all hb) hT
    clear hb
    rw [hq]
    have eT0 := bT.c0
    have eT1 := bT.c1
    have lT := bT.lt
    go_wp2_with fail
    clear eT0 eT1 lT
    have h2 := H2.out
    have hnn : t.args ≠ [] := by intro e; rw [e] at h2; simp at h2
    have i0 : 0 < t.args.length := by omega
    have i1 : 1 < t.args.length := by omega
    have j0 : (0 : Int) < t.args.length := by omega
    have j1 : (1 : Int) < t.args.length := by omega
    obtain ⟨b, off, rfl, hS, hbl, hrr⟩ := Tm.sd_get hT.2 hnn
    obtain ⟨x0, x1, q0, q1, qx⟩ := hrr 0 i0
    obtain ⟨y0, y1, r0, r1, rx⟩ := hrr 1 i1
    clear hrr
    obtain ⟨rfl, -, z0, zc0, rfl⟩ := Tm.at_form qx
    obtain ⟨rfl, -, z1, zc1, rfl⟩ := Tm.at_form rx
    simp only [Nat.zero_mul, Nat.add_zero, Nat.one_mul] at q0 q1 r0 r1
    have hb0 : t.args[0].bulk ≤ 1048576 := by have := Tm.bulk_at i0; have := Tm.args_bulk t; omega
    have hb1 : t.args[1].bulk ≤ 1048576 := by have := Tm.bulk_at i1; have := Tm.args_bulk t; omega
    clear h2
    have HT : Hid (t.text = t.args[0].text ++ ([32, 61, 32] : List UInt8) ++ t.args[1].text) := by rw [Hid, HX.out, textOf_eq HE.out (Tm.texts_two H2.out)]
    have h0 := h t.args[0] (List.getElem_mem i0)
    have h1 := h t.args[1] (List.getElem_mem i1)
    have s0 := hsa _ (List.getElem_mem i0)
    have s1 := hsa _ (List.getElem_mem i1)
    clear h hsa hq
    have eT0 := bT.c0
    have eT1 := bT.c1
    have lT := bT.lt
    have g0 : ¬ 9223372036854775807 < (bs t.args[0].text).size + 3 := by rw [bs_size]; have := Tm.text_le _ hb0; omega
    have g1 : ¬ 9223372036854775807 < (bs (t.args[0].text ++ ([32, 61, 32] : List UInt8))).size + (bs t.args[1].text).size := by rw [bs_size, bs_size, List.length_append]; have := Tm.text_le _ hb0; have := Tm.text_le _ hb1; simp only [List.length_cons, List.length_nil]; omega
    refine wp_region_B [fun v _ => v = .pointer (some ⟨w.heap.size, 1, none⟩), fun v _ => v = .slice (some ⟨b, off, none⟩) t.args.length cap, fun v _ => v = .pointer (some ⟨b, off, none⟩), fun v _ => v = .agg #[.string t.args[0].name, .slice z0 t.args[0].args.length zc0], fun v _ => v = .string (bs t.args[0].text), fun v _ => v = .string (bs (t.args[0].text ++ ([32, 61, 32] : List UInt8))), fun v _ => v = .pointer (some ⟨w.heap.size, 1, none⟩), fun v _ => v = .slice (some ⟨b, off, none⟩) t.args.length cap, fun v _ => v = .pointer (some ⟨b, off + 2, none⟩), fun v _ => v = .agg #[.string t.args[1].name, .slice z1 t.args[1].args.length zc1], fun v _ => v = .string (bs t.args[1].text), fun v _ => v = .string (bs (t.args[0].text ++ ([32, 61, 32] : List UInt8) ++ t.args[1].text)), fun v _ => v = .string (bs (t.args[0].text ++ ([32, 61, 32] : List UInt8) ++ t.args[1].text))] _ (fun V => by simp [putAll, Act.put]; rfl) (by kernel_rfl) (by decide) (by simp) (by kernel_rfl) ?_ ?_ ?_
    · intro F hF
      simp only [List.mem_cons, List.not_mem_nil, or_false] at hF
      rcases hF with rfl | rfl | rfl | rfl | rfl | rfl | rfl | rfl | rfl | rfl | rfl | rfl | rfl
      · exact stable_eq
      · exact stable_eq
      · exact stable_eq
      · exact stable_eq
      · exact stable_eq
      · exact stable_eq
      · exact stable_eq
      · exact stable_eq
      · exact stable_eq
      · exact stable_eq
      · exact stable_eq
      · exact stable_eq
      · exact stable_eq
    · refine ⟨?_, ?_, ?_, ?_, ?_, ?_, ?_, ?_, ?_, ?_, ?_, ?_, ?_, trivial⟩
      · intro V w1 hbR _
        unfold Does
        go_simp
        exact ⟨Below.refl _ _, rfl⟩
      · intro V w1 hbR ⟨f0, _⟩
        replace f0 : V 0 = .pointer (some ⟨w.heap.size, 1, none⟩) := f0
        obtain ⟨hc, hf⟩ := bcell hbR
        try simp only [World.size_alloc, World.size_setCell] at hc hf
        unfold Does
        go_simp
        exact ⟨Below.refl _ _, rfl⟩
      · intro V w1 hbR ⟨f1, _⟩
        replace f1 : V 1 = .slice (some ⟨b, off, none⟩) t.args.length cap := f1
        unfold Does
        go_simp
        exact ⟨Below.refl _ _, rfl⟩
      · intro V w1 hbR ⟨f2, _⟩
        replace f2 : V 2 = .pointer (some ⟨b, off, none⟩) := f2
        obtain ⟨hc, hf⟩ := bcell hbR
        try simp only [World.size_alloc, World.size_setCell] at hc hf
        unfold Does
        go_simp
        exact ⟨Below.refl _ _, rfl⟩
      · intro V w1 hbR ⟨f3, _⟩
        replace f3 : V 3 = .agg #[.string t.args[0].name, .slice z0 t.args[0].args.length zc0] := f3
        obtain ⟨hc, hf⟩ := bcell hbR
        try simp only [World.size_alloc, World.size_setCell] at hc hf
        unfold Does
        go_simp
        exact h0 (Tm.at_keep (Keeps.all hbR) qx) hb0 s0
      · intro V w1 hbR ⟨f4, _⟩
        replace f4 : V 4 = .string (bs t.args[0].text) := f4
        unfold Does
        go_simp
        exact ⟨Below.refl _ _, congrArg Value.string (by rw [bs_mk #[32, 61, 32], bs_append])⟩
      · intro V w1 hbR _
        unfold Does
        go_simp
        exact ⟨Below.refl _ _, rfl⟩
      · intro V w1 hbR ⟨f6, _⟩
        replace f6 : V 6 = .pointer (some ⟨w.heap.size, 1, none⟩) := f6
        obtain ⟨hc, hf⟩ := bcell hbR
        try simp only [World.size_alloc, World.size_setCell] at hc hf
        unfold Does
        go_simp
        exact ⟨Below.refl _ _, rfl⟩
      · intro V w1 hbR ⟨f7, _⟩
        replace f7 : V 7 = .slice (some ⟨b, off, none⟩) t.args.length cap := f7
        unfold Does
        go_simp
        exact ⟨Below.refl _ _, rfl⟩
      · intro V w1 hbR ⟨f8, _⟩
        replace f8 : V 8 = .pointer (some ⟨b, off + 2, none⟩) := f8
        obtain ⟨hc, hf⟩ := bcell hbR
        try simp only [World.size_alloc, World.size_setCell] at hc hf
        unfold Does
        go_simp
        exact ⟨Below.refl _ _, rfl⟩
      · intro V w1 hbR ⟨f9, f4, _⟩
        replace f4 : V 4 = .string (bs t.args[0].text) := f4
        replace f9 : V 9 = .agg #[.string t.args[1].name, .slice z1 t.args[1].args.length zc1] := f9
        obtain ⟨hc, hf⟩ := bcell hbR
        try simp only [World.size_alloc, World.size_setCell] at hc hf
        unfold Does
        go_simp
        exact h1 (Tm.at_keep (Keeps.all hbR) rx) hb1 s1
      · intro V w1 hbR ⟨f5, f10, _⟩
        replace f5 : V 5 = .string (bs (t.args[0].text ++ ([32, 61, 32] : List UInt8))) := f5
        replace f10 : V 10 = .string (bs t.args[1].text) := f10
        unfold Does
        go_simp
        exact ⟨Below.refl _ _, congrArg Value.string (by rw [bs_append]; simp)⟩
      · intro V w1 hbR ⟨f11, f10, f0, f1, f2, f3, f4, f5, f6, f7, f8, f9, _, _, _⟩
        replace f0 : V 0 = .pointer (some ⟨w.heap.size, 1, none⟩) := f0
        replace f1 : V 1 = .slice (some ⟨b, off, none⟩) t.args.length cap := f1
        replace f2 : V 2 = .pointer (some ⟨b, off, none⟩) := f2
        replace f3 : V 3 = .agg #[.string t.args[0].name, .slice z0 t.args[0].args.length zc0] := f3
        replace f4 : V 4 = .string (bs t.args[0].text) := f4
        replace f5 : V 5 = .string (bs (t.args[0].text ++ ([32, 61, 32] : List UInt8))) := f5
        replace f6 : V 6 = .pointer (some ⟨w.heap.size, 1, none⟩) := f6
        replace f7 : V 7 = .slice (some ⟨b, off, none⟩) t.args.length cap := f7
        replace f8 : V 8 = .pointer (some ⟨b, off + 2, none⟩) := f8
        replace f9 : V 9 = .agg #[.string t.args[1].name, .slice z1 t.args[1].args.length zc1] := f9
        replace f10 : V 10 = .string (bs t.args[1].text) := f10
        replace f11 : V 11 = .string (bs (t.args[0].text ++ ([32, 61, 32] : List UInt8) ++ t.args[1].text)) := f11
        unfold Does
        go_simp
        exact ⟨Below.refl _ _, rfl⟩
    intro V w3 hbR hfR
    obtain ⟨f0, f1, f2, f3, f4, f5, f6, f7, f8, f9, f10, f11, f12, _⟩ := hfR
    replace f0 : V 0 = .pointer (some ⟨w.heap.size, 1, none⟩) := f0
    replace f1 : V 1 = .slice (some ⟨b, off, none⟩) t.args.length cap := f1
    replace f2 : V 2 = .pointer (some ⟨b, off, none⟩) := f2
    replace f3 : V 3 = .agg #[.string t.args[0].name, .slice z0 t.args[0].args.length zc0] := f3
    replace f4 : V 4 = .string (bs t.args[0].text) := f4
    replace f5 : V 5 = .string (bs (t.args[0].text ++ ([32, 61, 32] : List UInt8))) := f5
    replace f6 : V 6 = .pointer (some ⟨w.heap.size, 1, none⟩) := f6
    replace f7 : V 7 = .slice (some ⟨b, off, none⟩) t.args.length cap := f7
    replace f8 : V 8 = .pointer (some ⟨b, off + 2, none⟩) := f8
    replace f9 : V 9 = .agg #[.string t.args[1].name, .slice z1 t.args[1].args.length zc1] := f9
    replace f10 : V 10 = .string (bs t.args[1].text) := f10
    replace f11 : V 11 = .string (bs (t.args[0].text ++ ([32, 61, 32] : List UInt8) ++ t.args[1].text)) := f11
    replace f12 : V 12 = .string (bs (t.args[0].text ++ ([32, 61, 32] : List UInt8) ++ t.args[1].text)) := f12
    simp only [f0, f1, f2, f3, f4, f5, f6, f7, f8, f9, f10, f11, f12]
    clear f0 f1 f2 f3 f4 f5 f6 f7 f8 f9 f10 f11 f12
    clear eT0 eT1 lT g0 g1
    go_wp2_with fail
    go_ret
    exact Gives.mk (ret_str (by rw [HT.out]; simp)) (hW.trans (hbR.mono hW.size))
  · have hq : t.isEq = false := by simp [Tm.isEq, he]
    have HN := hid he
    clear he hs2
    by_cases hp : t.args = []
    · have hp0 : ((t.args.length : Int) == 0) = true := by rw [hp]; rfl
      have HL : Hid (t.text = t.name.data.toList) := by rw [Hid, HX.out, hp, Tm.texts, textOf_none HN.out]
      clear hp
      obtain ⟨rfl, hn, a, cap, rfl⟩ := Tm.at_form hT
      have hW : Below w.heap.size w (w.alloc (.cells #[.string t.name, .slice a t.args.length cap] 30)) := (Below.refl _ _).alloc (Nat.le_refl _) _
      have bT : Box (w.alloc (.cells #[.string t.name, .slice a t.args.length cap] 30)) w.heap.size [.string t.name, .slice a t.args.length cap] := Box.new w _ _
      replace hT := Tm.at_keep (Keeps.all hW) hT
      go_enter Try.func59, Try.ntmps59
      go_wp2_with fail
      generalize (w.alloc (.cells #[.string t.name, .slice a t.args.length cap] 30)) = w0 at *
      refine (isEquality_any t hT hbk).mono ?_
      rintro e w1 ⟨_, rfl, hb, rfl⟩
      replace hW := hW.trans (hb.mono hW.size)
      replace bT := bT.keep hb
      replace hT := Tm.at_keep (Keeps.all hb) hT
      clear hb
      rw [hq]
      have eT0 := bT.c0
      have eT1 := bT.c1
      have lT := bT.lt
      go_wp2_with fail
      clear eT0 eT1 lT
      go_ret
      exact Gives.mk (ret_str (by rw [HL.out, bs_of])) hW
    · have hp0 : ((t.args.length : Int) == 0) = false := by rw [beq_eq_false_iff_ne]; have : t.args.length ≠ 0 := fun e => hp (List.length_eq_zero_iff.1 e); omega
      have HXS : Hid (Tm.texts t.args ≠ []) := by intro e; have := Tm.texts_length t.args; rw [e] at this; simp at this; exact hp (List.length_eq_zero_iff.1 this.symm)
      clear hp
      have hlen : t.args.length ≤ 1048576 := by have := Tm.args_len t; omega
      obtain ⟨rfl, hn, a, cap, rfl⟩ := Tm.at_form hT
      have hW : Below w.heap.size w (w.alloc (.cells #[.string t.name, .slice a t.args.length cap] 30)) := (Below.refl _ _).alloc (Nat.le_refl _) _
      have bT : Box (w.alloc (.cells #[.string t.name, .slice a t.args.length cap] 30)) w.heap.size [.string t.name, .slice a t.args.length cap] := Box.new w _ _
      replace hT := Tm.at_keep (Keeps.all hW) hT
      go_enter Try.func59, Try.ntmps59
      go_wp2_with fail
      generalize (w.alloc (.cells #[.string t.name, .slice a t.args.length cap] 30)) = w0 at *
      refine (isEquality_any t hT hbk).mono ?_
      rintro e w1 ⟨_, rfl, hb, rfl⟩
      replace hW := hW.trans (hb.mono hW.size)
      replace bT := bT.keep hb
      replace hT := Tm.at_keep (Keeps.all hb) hT
      clear hb
      rw [hq]
      have eT0 := bT.c0
      have eT1 := bT.c1
      have lT := bT.lt
      go_wp2_with fail
      clear eT0 eT1 lT
      rename World => w1
      clear hp0 hq
      have hz1 := hW.size
      have hA : Below w1.heap.size w1 (w1.alloc (.cells #[] 9)) := (Below.refl _ _).alloc (Nat.le_refl _) _
      go_loopw [3, 30] (fun v i wr => ∃ (k : Nat), k ≤ t.args.length ∧ i = .int .i64 k ∧ Row wr w1.heap.size v ((Tm.texts (t.args.take k)).map bs) ∧ Below w1.heap.size w1 wr) (fun _ i _ => t.args.length - (intOf i).toNat)
      case atStart => exact ⟨0, Nat.zero_le _, rfl, Row.made w1 (Nat.le_refl _), hA⟩
      case round =>
        obtain ⟨k, hk, rfl, hrow, hb⟩ := hrel
        have hz := hb.size
        by_cases hlt : k < t.args.length
        · have hne : t.args ≠ [] := by intro e; rw [e] at hlt; simp at hlt
          obtain ⟨b, off, rfl, hS, hbl, hrr⟩ := Tm.sd_get hT.2 hne
          obtain ⟨x0, x1, q0, q1, qx⟩ := hrr k hlt
          obtain ⟨rfl, -, x, xc, rfl⟩ := Tm.at_form qx
          replace q0 := (hb.cell (p := ⟨b, off + k * 2, none⟩) hbl).trans q0
          replace q1 := (hb.cell (p := ⟨b, off + k * 2 + 1, none⟩) hbl).trans q1
          replace qx := Tm.at_keep (Keeps.all hb) qx
          have hmem := h t.args[k] (List.getElem_mem hlt)
          have hbm : t.args[k].bulk ≤ 1048576 := by have := Tm.bulk_at hlt; have := Tm.args_bulk t; omega
          clear hrr
          have hsk := hsa _ (List.getElem_mem hlt)
          have hsk := hsa _ (List.getElem_mem hlt)
          have HS := hid (Tm.texts_take_succ t.args k hlt)
          go_wp2_with fail
          have hbx : Below wr.heap.size wr (wr.alloc (.cells #[.string t.args[k].name, .slice x t.args[k].args.length xc] 30)) := (Below.refl _ _).alloc (Nat.le_refl _) _
          refine (hmem (Tm.at_keep (Keeps.all hbx) qx) hbm hsk).mono ?_
          rintro e w2 ⟨_, rfl, hb2, rfl⟩
          have hb3 := hbx.trans (hb2.mono hbx.size)
          have hrow2 := hrow.keep hb3
          have hbk2 : (Tm.texts (t.args.take k)).length ≤ 1048576 := by rw [Tm.texts_length, List.length_take]; omega
          have hsz2 : w1.heap.size ≤ w2.heap.size := Nat.le_trans hz hb3.size
          have gx : (bs t.args[k].text).size ≤ maxLen := by rw [bs_size]; have := Tm.text_le _ hbm; unfold maxLen; omega
          go_wp2_with (at_builtin; refine wpList_append_str rfl _ _ rfl (by rfl) (by rfl) (hrow2.keep ((Below.refl _ _).alloc (Nat.le_refl _) _)) gx (by rw [box1]; rfl) (by rw [List.length_map]; omega) (by rw [World.size_alloc]; omega) ?_; intro g cap3 w3 hrow3 hgr hgo hlt3)
          have hA2 : Below w2.heap.size w2 (w2.alloc (.cells #[.string (bs t.args[k].text)] 9)) := (Below.refl _ _).alloc (Nat.le_refl _) _
          have hb4 : Below w1.heap.size w1 w3 := ((hb.trans (hb3.mono hz)).trans (hA2.mono hsz2)).grown hgr (by rw [World.size_alloc]; omega) fun j hj => (hrow2.lt j hj).1
          go_roundw
          case rel => exact ⟨k + 1, by omega, by go_num, by rw [HS.out, List.map_append]; rw [List.length_map] at hrow3; exact hrow3, hb4⟩
          case measure => simp [intOf]; omega
        · obtain rfl : k = t.args.length := by omega
          rw [List.take_length] at hrow
          have HL : Hid (t.text = t.name.data.toList ++ [40] ++ Lib.join (Tm.texts t.args) [44] ++ [41]) := by rw [Hid, HX.out, textOf_join HN.out HXS.out]
          have hbt := Tm.text_le t hbk
          rw [HL.out] at hbt
          simp only [List.length_append, List.length_cons, List.length_nil] at hbt
          have hN : (Tm.texts t.args).length ≤ 1048576 := by rw [Tm.texts_length]; exact hlen
          have hns : t.name.data.toList.length = t.name.size := rfl
          obtain ⟨J, HJ⟩ : ∃ J, Hid (Lib.join (Tm.texts t.args) [44] = J) := ⟨_, hid rfl⟩
          rw [HJ.out] at hbt
          have HL2 : Hid (t.text = t.name.data.toList ++ [40] ++ J ++ [41]) := by rw [Hid, HL.out, HJ.out]
          obtain ⟨l1, H1⟩ : ∃ l1, Hid (l1 = t.name.data.toList ++ [40]) := ⟨_, hid rfl⟩
          obtain ⟨l2, H2⟩ : ∃ l2, Hid (l2 = l1 ++ J) := ⟨_, hid rfl⟩
          obtain ⟨l3, H3⟩ : ∃ l3, Hid (l3 = l2 ++ [41]) := ⟨_, hid rfl⟩
          have HT : Hid (l3 = t.text) := by rw [Hid, HL2.out, H3.out, H2.out, H1.out]
          have hjl : J.length ≤ 4194307 := by omega
          have hjs : (bs J).size ≤ 4194307 := by rw [bs_size]; exact hjl
          have g0 : ¬ 9223372036854775807 < t.name.size + 1 := by omega
          have g1 : ¬ 9223372036854775807 < (bs l1).size + (bs J).size := by rw [H1.out, bs_size, bs_size]; simp only [List.length_append, List.length_cons, List.length_nil]; omega
          have g2 : ¬ 9223372036854775807 < (bs l2).size + 1 := by rw [H2.out, H1.out, bs_size]; simp only [List.length_append, List.length_cons, List.length_nil]; omega
          have bR := bT.keep hb
          have eT0 := bR.c0
          have eT1 := bR.c1
          have lT := bR.lt
          clear hns hbt hlen
          go_wp2_with fail
          refine wp_region_B [fun v _ => v = .pointer (some ⟨w.heap.size, 0, none⟩), fun v _ => v = .string t.name, fun v _ => v = .string (bs l1), fun v _ => v = u3, fun v _ => v = .string (bs J), fun v _ => v = .string (bs l2), fun v _ => v = .string (bs l3), fun v _ => v = .string (bs l3)] _ (fun V => by simp [putAll, Act.put]; rfl) (by kernel_rfl) (by decide) (by simp) (by kernel_rfl) ?_ ?_ ?_
          · intro F hF
            simp only [List.mem_cons, List.not_mem_nil, or_false] at hF
            rcases hF with rfl | rfl | rfl | rfl | rfl | rfl | rfl | rfl
            · exact stable_eq
            · exact stable_eq
            · exact stable_eq
            · exact stable_eq
            · exact stable_eq
            · exact stable_eq
            · exact stable_eq
            · exact stable_eq
          · refine ⟨?_, ?_, ?_, ?_, ?_, ?_, ?_, ?_, trivial⟩
            · intro V w1 hbR _
              unfold Does
              go_simp
              exact ⟨Below.refl _ _, rfl⟩
            · intro V w1 hbR ⟨f0, _⟩
              replace f0 : V 0 = .pointer (some ⟨w.heap.size, 0, none⟩) := f0
              obtain ⟨hc, hf⟩ := bcell hbR
              try simp only [World.size_alloc, World.size_setCell] at hc hf
              unfold Does
              go_simp
              exact ⟨Below.refl _ _, rfl⟩
            · intro V w1 hbR ⟨f1, _⟩
              replace f1 : V 1 = .string t.name := f1
              unfold Does
              go_simp
              exact ⟨Below.refl _ _, congrArg Value.string (by rw [H1.out, bs_mk #[40], bs_left])⟩
            · intro V w1 hbR _
              unfold Does
              go_simp
              exact ⟨Below.refl _ _, rfl⟩
            · intro V w1 hbR ⟨f3, _⟩
              replace f3 : V 3 = u3 := f3
              obtain ⟨hc, hf⟩ := bcell hbR
              try simp only [World.size_alloc, World.size_setCell] at hc hf
              unfold Does
              go_simp
              have hq := join_any [44] (hrow.keep hbR) (by rw [HJ.out]; omega) (by omega); rw [HJ.out] at hq; exact hq
            · intro V w1 hbR ⟨f2, f4, _⟩
              replace f2 : V 2 = .string (bs l1) := f2
              replace f4 : V 4 = .string (bs J) := f4
              unfold Does
              go_simp
              exact ⟨Below.refl _ _, congrArg Value.string (by rw [H2.out, bs_append])⟩
            · intro V w1 hbR ⟨f5, _⟩
              replace f5 : V 5 = .string (bs l2) := f5
              unfold Does
              go_simp
              exact ⟨Below.refl _ _, congrArg Value.string (by rw [H3.out, bs_mk #[41], bs_append])⟩
            · intro V w1 hbR ⟨f6, f4, f0, f1, f2, f3, _, f5, _, _⟩
              replace f0 : V 0 = .pointer (some ⟨w.heap.size, 0, none⟩) := f0
              replace f1 : V 1 = .string t.name := f1
              replace f2 : V 2 = .string (bs l1) := f2
              replace f3 : V 3 = u3 := f3
              replace f4 : V 4 = .string (bs J) := f4
              replace f5 : V 5 = .string (bs l2) := f5
              replace f6 : V 6 = .string (bs l3) := f6
              unfold Does
              go_simp
              exact ⟨Below.refl _ _, rfl⟩
          intro V w3 hbR hfR
          obtain ⟨f0, f1, f2, f3, f4, f5, f6, f7, _⟩ := hfR
          replace f0 : V 0 = .pointer (some ⟨w.heap.size, 0, none⟩) := f0
          replace f1 : V 1 = .string t.name := f1
          replace f2 : V 2 = .string (bs l1) := f2
          replace f3 : V 3 = u3 := f3
          replace f4 : V 4 = .string (bs J) := f4
          replace f5 : V 5 = .string (bs l2) := f5
          replace f6 : V 6 = .string (bs l3) := f6
          replace f7 : V 7 = .string (bs l3) := f7
          simp only [f0, f1, f2, f3, f4, f5, f6, f7]
          clear f0 f1 f2 f3 f4 f5 f6 f7
          go_wp2_with fail
          go_ret
          exact Gives.mk (ret_str (by rw [HT.out])) (hW.trans ((hb.trans (hbR.mono hz)).mono hz1))
theorem formatTerm_any (t : Tm) : TextIs 59 t := Tm.ind (fun n ts h => formatTerm_of (.node n ts) h) t
end Go.Proofs.Ytiifibmahomdhaa
