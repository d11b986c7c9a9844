/- The program and the reference write the texts of expressions. -/
import Derived.Test.YtiifibmahomdhaaTv
import Derived.Test.YtiifibmahomdhaaTx
import Derived.Test.YtiifibmahomdhaaAp
import Derived.Test.YtiifibmahomdhaaReg
import Derived.WalkSpells
import Derived.WalkLawsBesides
namespace Go.Proofs.Ytiifibmahomdhaa
set_option maxRecDepth 100000
open Go.RowKit

theorem Tm.text_eq (t : Tm) : t.text = textOf t.name (Tm.texts t.args) := by cases t; rfl
theorem Tm.sides_eq {t : Tm} (h : t.sides) : (t.name = eqSign → t.args.length = 2) ∧ ∀ a ∈ t.args, a.sides := by
  cases t; rw [Tm.sides, Tm.sidesAll_iff] at h; exact h
theorem eqName_yes {n : ByteArray} (h : n = eqSign) : (n.toList == [61]) = true := by
  have e : ([61] : List UInt8) = eqSign.toList := by rw [ByteArray.toList_eq]; rfl
  rw [e, h]; simp
theorem eqName_no {n : ByteArray} (h : ¬ n = eqSign) : (n.toList == [61]) = false := by
  have e : ([61] : List UInt8) = eqSign.toList := by rw [ByteArray.toList_eq]; rfl
  rw [e]; exact toList_ne h
theorem ret_str {a b : ByteArray} (h : a = b) : Ending.returned (.string a) = .returned (.string b) := by rw [h]
theorem Tm.texts_two {ts : List Tm} (h : ts.length = 2) : Tm.texts ts = [(ts[0]'(by omega)).text, (ts[1]'(by omega)).text] := by
  match ts, h with
  | [x, y], _ => rfl
theorem Tm.args_len (t : Tm) : t.args.length ≤ t.bulk := by cases t; rw [Tm.bulk]; simp [Tm.args]; omega
theorem Tm.opened_le {t : Tm} (hn : t.name ≠ eqSign) (hbk : t.bulk ≤ 1048576) (k : Nat) : (t.name.data.toList ++ opened (Tm.texts (t.args.take k))).length ≤ 4194307 := by
  obtain ⟨n, ts⟩ := t
  replace hn : n ≠ eqSign := hn
  have hb : (Tm.node n (ts.take k)).bulk ≤ 1048576 := by
    have := Tm.bulks_le ts k
    rw [Tm.bulk] at hbk ⊢
    have : (ts.take k).length ≤ ts.length := by rw [List.length_take]; omega
    omega
  have := Tm.text_le _ hb
  rw [Tm.text] at this
  show (n.data.toList ++ opened (Tm.texts (ts.take k))).length ≤ _
  by_cases hx : Tm.texts (ts.take k) = []
  · rw [hx, textOf_none hn] at this; rw [hx, opened_nil]; simpa using this
  · rw [textOf_some hn hx] at this
    simp only [List.length_append, List.length_cons, List.length_nil] at this ⊢; omega

/-- the call returns the text of t -/
def TextIs (f : FuncId) (t : Tm) : Prop := ∀ ⦃S : Nat → Prop⦄ ⦃c0 c1 : Value⦄ ⦃w : World⦄, Tm.at S w c0 c1 t → t.bulk ≤ 1048576 → t.sides → Calls Try.prog f #[.agg #[c0, c1]] w (Gives w (.string (bs t.text)))

set_option maxHeartbeats 2000000 in
theorem l3Term_of (t : Tm) (h : ∀ a ∈ t.args, TextIs 56 a) : TextIs 56 t := by
  intro S c0 c1 w hT hbk hsd
  obtain ⟨hs2, hsa⟩ := Tm.sides_eq hsd
  have HX := hid (Tm.text_eq t)
  by_cases he : t.name = eqSign
  · have hq := eqName_yes he
    have H2 := hid (hs2 he)
    have HE := hid he
    clear he hs2
    obtain ⟨rfl, hn, a, cap, rfl⟩ := Tm.at_form hT
    have hW : Below w.heap.size w (w.alloc (.cells #[.string t.name, .slice a t.args.length cap] 30)) := (Below.refl _ _).alloc (Nat.le_refl _) _
    have bT : Box (w.alloc (.cells #[.string t.name, .slice a t.args.length cap] 30)) w.heap.size [.string t.name, .slice a t.args.length cap] := Box.new w _ _
    replace hT := Tm.at_keep (Keeps.all hW) hT
    go_enter Try.func56, Try.ntmps56
    go_wp2_with fail
    generalize (w.alloc (.cells #[.string t.name, .slice a t.args.length cap] 30)) = w0 at *
    have h2 := H2.out
    have hnn : t.args ≠ [] := by intro e; rw [e] at h2; simp at h2
    have i0 : 0 < t.args.length := by omega
    have i1 : 1 < t.args.length := by omega
    have j0 : (0 : Int) < t.args.length := by omega
    have j1 : (1 : Int) < t.args.length := by omega
    obtain ⟨b, off, rfl, hS, hbl, hrr⟩ := Tm.sd_get hT.2 hnn
    obtain ⟨x0, x1, q0, q1, qx⟩ := hrr 0 i0
    obtain ⟨y0, y1, r0, r1, rx⟩ := hrr 1 i1
    clear hrr
    obtain ⟨rfl, -, z0, zc0, rfl⟩ := Tm.at_form qx
    obtain ⟨rfl, -, z1, zc1, rfl⟩ := Tm.at_form rx
    simp only [Nat.zero_mul, Nat.add_zero, Nat.one_mul] at q0 q1 r0 r1
    have hb0 : t.args[0].bulk ≤ 1048576 := by have := Tm.bulk_at i0; have := Tm.args_bulk t; omega
    have hb1 : t.args[1].bulk ≤ 1048576 := by have := Tm.bulk_at i1; have := Tm.args_bulk t; omega
    clear h2
    have HT : Hid (t.text = t.args[0].text ++ ([32, 61, 32] : List UInt8) ++ t.args[1].text) := by rw [Hid, HX.out, textOf_eq HE.out (Tm.texts_two H2.out)]
    have h0 := h t.args[0] (List.getElem_mem i0)
    have h1 := h t.args[1] (List.getElem_mem i1)
    have s0 := hsa _ (List.getElem_mem i0)
    have s1 := hsa _ (List.getElem_mem i1)
    clear h hsa hq
    have eT0 := bT.c0
    have eT1 := bT.c1
    have lT := bT.lt
    have g0 : ¬ 9223372036854775807 < (bs t.args[0].text).size + 3 := by rw [bs_size]; have := Tm.text_le _ hb0; omega
    have g1 : ¬ 9223372036854775807 < (bs (t.args[0].text ++ ([32, 61, 32] : List UInt8))).size + (bs t.args[1].text).size := by rw [bs_size, bs_size, List.length_append]; have := Tm.text_le _ hb0; have := Tm.text_le _ hb1; simp only [List.length_cons, List.length_nil]; omega
    refine wp_region_B [fun v _ => v = .pointer (some ⟨w.heap.size, 1, none⟩), fun v _ => v = .slice (some ⟨b, off, none⟩) t.args.length cap, fun v _ => v = .pointer (some ⟨b, off, none⟩), fun v _ => v = .agg #[.string t.args[0].name, .slice z0 t.args[0].args.length zc0], fun v _ => v = .string (bs t.args[0].text), fun v _ => v = .string (bs (t.args[0].text ++ ([32, 61, 32] : List UInt8))), fun v _ => v = .pointer (some ⟨w.heap.size, 1, none⟩), fun v _ => v = .slice (some ⟨b, off, none⟩) t.args.length cap, fun v _ => v = .pointer (some ⟨b, off + 2, none⟩), fun v _ => v = .agg #[.string t.args[1].name, .slice z1 t.args[1].args.length zc1], fun v _ => v = .string (bs t.args[1].text), fun v _ => v = .string (bs (t.args[0].text ++ ([32, 61, 32] : List UInt8) ++ t.args[1].text)), fun v _ => v = .string (bs (t.args[0].text ++ ([32, 61, 32] : List UInt8) ++ t.args[1].text))] _ (fun V => by simp [putAll, Act.put]; rfl) (by kernel_rfl) (by decide) (by simp) (by kernel_rfl) ?_ ?_ ?_
    · intro F hF
      simp only [List.mem_cons, List.not_mem_nil, or_false] at hF
      rcases hF with rfl | rfl | rfl | rfl | rfl | rfl | rfl | rfl | rfl | rfl | rfl | rfl | rfl
      · exact stable_eq
      · exact stable_eq
      · exact stable_eq
      · exact stable_eq
      · exact stable_eq
      · exact stable_eq
      · exact stable_eq
      · exact stable_eq
      · exact stable_eq
      · exact stable_eq
      · exact stable_eq
      · exact stable_eq
      · exact stable_eq
    · refine ⟨?_, ?_, ?_, ?_, ?_, ?_, ?_, ?_, ?_, ?_, ?_, ?_, ?_, trivial⟩
      · intro V w1 hbR _
        unfold Does
        go_simp
        exact ⟨Below.refl _ _, rfl⟩
      · intro V w1 hbR ⟨f0, _⟩
        replace f0 : V 0 = .pointer (some ⟨w.heap.size, 1, none⟩) := f0
        obtain ⟨hc, hf⟩ := bcell hbR
        try simp only [World.size_alloc, World.size_setCell] at hc hf
        unfold Does
        go_simp
        exact ⟨Below.refl _ _, rfl⟩
      · intro V w1 hbR ⟨f1, _⟩
        replace f1 : V 1 = .slice (some ⟨b, off, none⟩) t.args.length cap := f1
        unfold Does
        go_simp
        exact ⟨Below.refl _ _, rfl⟩
      · intro V w1 hbR ⟨f2, _⟩
        replace f2 : V 2 = .pointer (some ⟨b, off, none⟩) := f2
        obtain ⟨hc, hf⟩ := bcell hbR
        try simp only [World.size_alloc, World.size_setCell] at hc hf
        unfold Does
        go_simp
        exact ⟨Below.refl _ _, rfl⟩
      · intro V w1 hbR ⟨f3, _⟩
        replace f3 : V 3 = .agg #[.string t.args[0].name, .slice z0 t.args[0].args.length zc0] := f3
        obtain ⟨hc, hf⟩ := bcell hbR
        try simp only [World.size_alloc, World.size_setCell] at hc hf
        unfold Does
        go_simp
        exact h0 (Tm.at_keep (Keeps.all hbR) qx) hb0 s0
      · intro V w1 hbR ⟨f4, _⟩
        replace f4 : V 4 = .string (bs t.args[0].text) := f4
        unfold Does
        go_simp
        exact ⟨Below.refl _ _, congrArg Value.string (by rw [bs_mk #[32, 61, 32], bs_append])⟩
      · intro V w1 hbR _
        unfold Does
        go_simp
        exact ⟨Below.refl _ _, rfl⟩
      · intro V w1 hbR ⟨f6, _⟩
        replace f6 : V 6 = .pointer (some ⟨w.heap.size, 1, none⟩) := f6
        obtain ⟨hc, hf⟩ := bcell hbR
        try simp only [World.size_alloc, World.size_setCell] at hc hf
        unfold Does
        go_simp
        exact ⟨Below.refl _ _, rfl⟩
      · intro V w1 hbR ⟨f7, _⟩
        replace f7 : V 7 = .slice (some ⟨b, off, none⟩) t.args.length cap := f7
        unfold Does
        go_simp
        exact ⟨Below.refl _ _, rfl⟩
      · intro V w1 hbR ⟨f8, _⟩
        replace f8 : V 8 = .pointer (some ⟨b, off + 2, none⟩) := f8
        obtain ⟨hc, hf⟩ := bcell hbR
        try simp only [World.size_alloc, World.size_setCell] at hc hf
        unfold Does
        go_simp
        exact ⟨Below.refl _ _, rfl⟩
      · intro V w1 hbR ⟨f9, f4, _⟩
        replace f4 : V 4 = .string (bs t.args[0].text) := f4
        replace f9 : V 9 = .agg #[.string t.args[1].name, .slice z1 t.args[1].args.length zc1] := f9
        obtain ⟨hc, hf⟩ := bcell hbR
        try simp only [World.size_alloc, World.size_setCell] at hc hf
        unfold Does
        go_simp
        exact h1 (Tm.at_keep (Keeps.all hbR) rx) hb1 s1
      · intro V w1 hbR ⟨f5, f10, _⟩
        replace f5 : V 5 = .string (bs (t.args[0].text ++ ([32, 61, 32] : List UInt8))) := f5
        replace f10 : V 10 = .string (bs t.args[1].text) := f10
        unfold Does
        go_simp
        exact ⟨Below.refl _ _, congrArg Value.string (by rw [bs_append]; simp)⟩
      · intro V w1 hbR ⟨f11, f10, f0, f1, f2, f3, f4, f5, f6, f7, f8, f9, _, _, _⟩
        replace f0 : V 0 = .pointer (some ⟨w.heap.size, 1, none⟩) := f0
        replace f1 : V 1 = .slice (some ⟨b, off, none⟩) t.args.length cap := f1
        replace f2 : V 2 = .pointer (some ⟨b, off, none⟩) := f2
        replace f3 : V 3 = .agg #[.string t.args[0].name, .slice z0 t.args[0].args.length zc0] := f3
        replace f4 : V 4 = .string (bs t.args[0].text) := f4
        replace f5 : V 5 = .string (bs (t.args[0].text ++ ([32, 61, 32] : List UInt8))) := f5
        replace f6 : V 6 = .pointer (some ⟨w.heap.size, 1, none⟩) := f6
        replace f7 : V 7 = .slice (some ⟨b, off, none⟩) t.args.length cap := f7
        replace f8 : V 8 = .pointer (some ⟨b, off + 2, none⟩) := f8
        replace f9 : V 9 = .agg #[.string t.args[1].name, .slice z1 t.args[1].args.length zc1] := f9
        replace f10 : V 10 = .string (bs t.args[1].text) := f10
        replace f11 : V 11 = .string (bs (t.args[0].text ++ ([32, 61, 32] : List UInt8) ++ t.args[1].text)) := f11
        unfold Does
        go_simp
        exact ⟨Below.refl _ _, rfl⟩
    intro V w3 hbR hfR
    obtain ⟨f0, f1, f2, f3, f4, f5, f6, f7, f8, f9, f10, f11, f12, _⟩ := hfR
    replace f0 : V 0 = .pointer (some ⟨w.heap.size, 1, none⟩) := f0
    replace f1 : V 1 = .slice (some ⟨b, off, none⟩) t.args.length cap := f1
    replace f2 : V 2 = .pointer (some ⟨b, off, none⟩) := f2
    replace f3 : V 3 = .agg #[.string t.args[0].name, .slice z0 t.args[0].args.length zc0] := f3
    replace f4 : V 4 = .string (bs t.args[0].text) := f4
    replace f5 : V 5 = .string (bs (t.args[0].text ++ ([32, 61, 32] : List UInt8))) := f5
    replace f6 : V 6 = .pointer (some ⟨w.heap.size, 1, none⟩) := f6
    replace f7 : V 7 = .slice (some ⟨b, off, none⟩) t.args.length cap := f7
    replace f8 : V 8 = .pointer (some ⟨b, off + 2, none⟩) := f8
    replace f9 : V 9 = .agg #[.string t.args[1].name, .slice z1 t.args[1].args.length zc1] := f9
    replace f10 : V 10 = .string (bs t.args[1].text) := f10
    replace f11 : V 11 = .string (bs (t.args[0].text ++ ([32, 61, 32] : List UInt8) ++ t.args[1].text)) := f11
    replace f12 : V 12 = .string (bs (t.args[0].text ++ ([32, 61, 32] : List UInt8) ++ t.args[1].text)) := f12
    simp only [f0, f1, f2, f3, f4, f5, f6, f7, f8, f9, f10, f11, f12]
    clear f0 f1 f2 f3 f4 f5 f6 f7 f8 f9 f10 f11 f12
    clear eT0 eT1 lT g0 g1
    go_wp2_with fail
    go_ret
    exact Gives.mk (ret_str (by rw [HT.out]; simp)) (hW.trans (hbR.mono hW.size))
  · have hq := eqName_no he
    have HN := hid he
    clear he hs2
    have hn0 : t.name.data.toList.length ≤ 4194307 := by
      have := Tm.opened_le HN.out hbk 0
      simpa [Tm.texts, opened] using this
    obtain ⟨rfl, hn, a, cap, rfl⟩ := Tm.at_form hT
    have hW : Below w.heap.size w (w.alloc (.cells #[.string t.name, .slice a t.args.length cap] 30)) := (Below.refl _ _).alloc (Nat.le_refl _) _
    have bT : Box (w.alloc (.cells #[.string t.name, .slice a t.args.length cap] 30)) w.heap.size [.string t.name, .slice a t.args.length cap] := Box.new w _ _
    replace hT := Tm.at_keep (Keeps.all hW) hT
    go_enter Try.func56, Try.ntmps56
    go_wp2_with fail
    generalize (w.alloc (.cells #[.string t.name, .slice a t.args.length cap] 30)) = w0 at *
    clear hq
    have hz0 := hW.size
    have hlen : t.args.length ≤ 1048576 := by have := Tm.args_len t; omega
    go_loopw [3, 4] (fun s i wr => ∃ (k : Nat) (l : List UInt8), k ≤ t.args.length ∧ i = .int .i64 k ∧ s = .string (bs l) ∧ Hid (l = t.name.data.toList ++ opened (Tm.texts (t.args.take k))) ∧ l.length ≤ 4194307 ∧ Below w0.heap.size w0 wr) (fun _ i _ => t.args.length - (intOf i).toNat)
    case atStart => exact ⟨0, t.name.data.toList, Nat.zero_le _, rfl, by rw [bs_of], by simp [Hid, Tm.texts, opened], hn0, Below.refl _ _⟩
    case round =>
      obtain ⟨k, l, hk, rfl, rfl, HK, hl, hb⟩ := hrel
      have bR := bT.keep hb
      have eT0 := bR.c0
      have eT1 := bR.c1
      have hz := hb.size
      have gl : (bs l).size ≤ 4194307 := by rw [bs_size]; exact hl
      by_cases hlt : k < t.args.length
      · have hne : t.args ≠ [] := by intro e; rw [e] at hlt; simp at hlt
        obtain ⟨b, off, rfl, hS, hbl, hrr⟩ := Tm.sd_get hT.2 hne
        obtain ⟨x0, x1, q0, q1, qx⟩ := hrr k hlt
        obtain ⟨rfl, -, x, xc, rfl⟩ := Tm.at_form qx
        replace q0 := (hb.cell (p := ⟨b, off + k * 2, none⟩) hbl).trans q0
        replace q1 := (hb.cell (p := ⟨b, off + k * 2 + 1, none⟩) hbl).trans q1
        replace qx := Tm.at_keep (Keeps.all hb) qx
        have hmem := h t.args[k] (List.getElem_mem hlt)
        have hbm : t.args[k].bulk ≤ 1048576 := by have := Tm.bulk_at hlt; have := Tm.args_bulk t; omega
        clear hrr
        have hsk := hsa _ (List.getElem_mem hlt)
        have hl' := Tm.opened_le HN.out hbk (k + 1)
        have gx : (bs t.args[k].text).size ≤ 4194307 := by rw [bs_size]; exact Tm.text_le _ hbm
        have HS := hid (Tm.texts_take_succ t.args k hlt)
        have g0 : ¬ 9223372036854775807 < (bs l).size + 1 := by omega
        have g1 : ¬ 9223372036854775807 < (bs l).size + 1 + (bs t.args[k].text).size := by omega
        by_cases hk0 : k = 0
        · have z1 : ((k : Int) == 0) = true := by rw [beq_iff_eq]; omega
          have HL : Hid (t.name.data.toList ++ opened (Tm.texts (t.args.take (k + 1))) = l ++ [40] ++ t.args[k].text) := by
            rw [Hid, HS.out, opened_snoc, if_pos (by rw [hk0]; rfl), HK.out]; simp [List.append_assoc]
          rw [HL.out] at hl'
          clear hk0
          go_wp2_with fail
          refine (hmem qx hbm hsk).mono ?_
          rintro e w2 ⟨_, rfl, hb2, rfl⟩
          go_wp2_with fail
          go_roundw
          case rel => exact ⟨k + 1, l ++ [40] ++ t.args[k].text, by omega, by go_num, by rw [bs_mk #[40], bs_append, bs_append], HL.out.symm, hl', hb.trans (hb2.mono hz)⟩
          case measure => simp [intOf]; omega
        · have z1 : ((k : Int) == 0) = false := by rw [beq_eq_false_iff_ne]; omega
          have HL : Hid (t.name.data.toList ++ opened (Tm.texts (t.args.take (k + 1))) = l ++ [44] ++ t.args[k].text) := by
            rw [Hid, HS.out, opened_snoc, if_neg (by intro e; have := Tm.texts_length (t.args.take k); rw [e] at this; simp at this; omega), HK.out]; simp [List.append_assoc]
          rw [HL.out] at hl'
          clear hk0
          go_wp2_with fail
          refine (hmem qx hbm hsk).mono ?_
          rintro e w2 ⟨_, rfl, hb2, rfl⟩
          go_wp2_with fail
          go_roundw
          case rel => exact ⟨k + 1, l ++ [44] ++ t.args[k].text, by omega, by go_num, by rw [bs_mk #[44], bs_append, bs_append], HL.out.symm, hl', hb.trans (hb2.mono hz)⟩
          case measure => simp [intOf]; omega
      · obtain rfl : k = t.args.length := by omega
        have HK' : Hid (l = t.name.data.toList ++ opened (Tm.texts t.args)) := by have := HK.out; rwa [List.take_length] at this
        have g0 : ¬ 9223372036854775807 < (bs l).size + 1 := by omega
        by_cases hp : t.args = []
        · have hp0 : ¬ (0 : Int) < t.args.length := by rw [hp]; simp
          have HL : Hid (l = t.text) := by rw [Hid, HK'.out, HX.out, hp, Tm.texts, textOf_none HN.out, opened_nil]; simp
          clear hp
          go_wp2_with fail
          go_ret
          exact Gives.mk (ret_str (by rw [HL.out])) (hW.trans (hb.mono hz0))
        · have hp0 : (0 : Int) < t.args.length := by have : t.args.length ≠ 0 := fun e => hp (List.length_eq_zero_iff.1 e); omega
          have HL : Hid (l ++ [41] = t.text) := by
            rw [Hid, HK'.out, HX.out, textOf_some HN.out]; intro e; have := Tm.texts_length t.args; rw [e] at this; simp at this; exact hp (List.length_eq_zero_iff.1 this.symm)
          clear hp
          go_wp2_with fail
          go_ret
          exact Gives.mk (ret_str (by rw [bs_mk #[41], bs_append, ← HL.out])) (hW.trans (hb.mono hz0))
theorem l3Term_any (t : Tm) : TextIs 56 t := Tm.ind (fun n ts h => l3Term_of (.node n ts) h) t
end Go.Proofs.Ytiifibmahomdhaa
