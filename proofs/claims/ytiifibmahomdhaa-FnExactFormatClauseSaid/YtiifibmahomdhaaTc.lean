/- The texts of clauses. -/
import Derived.Test.YtiifibmahomdhaaTr
import Derived.Test.YtiifibmahomdhaaCv
import Derived.Test.YtiifibmahomdhaaFf
namespace Go.Proofs.Ytiifibmahomdhaa
set_option maxRecDepth 100000
open Go.RowKit

def barSep : List UInt8 := [32, 124, 32]
def Cl.text (x : Cl) : List UInt8 := if x.ls = [] then [36, 102, 97, 108, 115, 101] else Lib.join (x.ls.map Lit.text) barSep
theorem Lit.text_lens (x : Lit) : x.text.length ≤ 4 * x.atom.bulk + 4 := by
  have h0 := Tm.text_lens x.atom
  have h1 := Tm.size_bulk x.atom
  rw [Lit.text]
  split
  · omega
  · split
    · rename_i hn
      rw [Tm.text_eq, textOf, if_pos hn] at h0
      simp only [List.length_append, List.length_cons, List.length_nil] at h0 ⊢; omega
    · simp only [List.length_cons]; omega
theorem Lit.lens_le (ls : List Lit) : Lib.lens (ls.map Lit.text) ≤ 4 * Lit.bulks ls + 4 * ls.length := by
  induction ls with
  | nil => simp [Lib.lens]
  | cons x ls ih =>
    have := Lit.text_lens x
    simp only [Lib.lens, List.map_cons, List.sum_cons, Lit.bulks, Lit.bulk, List.length_cons] at ih ⊢; omega
theorem Lit.join_le {ls : List Lit} (h : ls.length + Lit.bulks ls ≤ 1048576) (k : Nat) : (Lib.join ((ls.take k).map Lit.text) barSep).length ≤ 8388608 := by
  have h0 := join_length ((ls.take k).map Lit.text) barSep
  have h1 := Lit.lens_le (ls.take k)
  have h2 := Lit.bulks_le ls k
  have h3 : (ls.take k).length ≤ ls.length := by rw [List.length_take]; omega
  simp only [List.length_map, barSep, List.length_cons, List.length_nil] at h0 ⊢; omega
theorem Lit.join_succ {ls : List Lit} {k : Nat} (hk : k < ls.length) : Lib.join ((ls.take (k + 1)).map Lit.text) barSep = if k = 0 then ls[k].text else Lib.join ((ls.take k).map Lit.text) barSep ++ barSep ++ ls[k].text := by
  rw [List.take_succ_eq_append_getElem hk, List.map_append, List.map_cons, List.map_nil, join_snoc]
  by_cases h : k = 0
  · rw [if_pos (by rw [h]; rfl), if_pos h]
  · rw [if_neg (by intro e; have := congrArg List.length e; rw [List.length_map, List.length_take, List.length_nil] at this; omega), if_neg h]
theorem symName_ne {n : ByteArray} (h : symName n = true) : n.data.toList ≠ [] := by
  intro e
  have hs : n.size = 0 := by show n.data.toList.length = 0; rw [e]; rfl
  rw [symName, hs] at h
  simp at h
theorem Lit.text_ne {x : Lit} (h : x.atom.atom = true) : x.text ≠ [] := by
  rw [Tm.atom_eq] at h
  rw [Lit.text]
  by_cases hn : x.atom.name = eqSign
  · split
    · rw [Tm.text_eq, textOf, if_pos hn]; simp
    · simp
  · rw [if_neg hn, Bool.and_eq_true] at h
    have h1 := symName_ne h.1
    split
    · rw [Tm.text_eq, textOf, if_neg hn]
      split
      · exact h1
      · simp
    · simp

/-- the call returns the text of the clause -/
def CTextIs (f : FuncId) : Prop := ∀ ⦃t : Cl⦄ ⦃S : Nat → Prop⦄ ⦃c0 : Value⦄ ⦃w : World⦄, Cl.at S w c0 t → t.bulk ≤ 1048576 → (∀ l ∈ t.ls, l.atom.atom = true) → Calls Try.prog f #[.agg #[c0]] w (Gives w (.string (bs t.text)))

set_option maxHeartbeats 1000000 in
theorem l3Clause_any : CTextIs 80 := by
  intro t S c0 w hT hbk hva
  have hbk' := hbk
  rw [Cl.bulk] at hbk'
  have HTX : Hid (t.text = if t.ls = [] then [36, 102, 97, 108, 115, 101] else Lib.join (t.ls.map Lit.text) barSep) := hid rfl
  have hlen : t.ls.length ≤ 1048576 := by omega
  obtain ⟨a, cap, rfl⟩ := Cl.at_form hT
  have hW : Below w.heap.size w (w.alloc (.cells #[.slice a t.ls.length cap] 72)) := (Below.refl _ _).alloc (Nat.le_refl _) _
  have bT : Box (w.alloc (.cells #[.slice a t.ls.length cap] 72)) w.heap.size [.slice a t.ls.length cap] := Box.new w _ _
  replace hT := Cl.at_keep (Keeps.all hW) hT
  go_enter Try.func80, Try.ntmps80
  go_wp2_with fail
  generalize (w.alloc (.cells #[.slice a t.ls.length cap] 72)) = w0 at *
  have hz0 := hW.size
  go_loopw [3, 4] (fun s i wr => ∃ (k : Nat) (l : List UInt8), k ≤ t.ls.length ∧ i = .int .i64 k ∧ s = .string (bs l) ∧ Hid (l = Lib.join ((t.ls.take k).map Lit.text) barSep) ∧ Below w0.heap.size w0 wr) (fun _ i _ => t.ls.length - (intOf i).toNat)
  case atStart => exact ⟨0, [], Nat.zero_le _, rfl, rfl, by simp [Hid, Lib.join_nil], Below.refl _ _⟩
  case round =>
    obtain ⟨k, l, hk, rfl, rfl, HK, hb⟩ := hrel
    have bR := bT.keep hb
    have eT0 := bR.c0
    have lT := bR.lt
    have hz := hb.size
    have gl : (bs l).size ≤ 8388608 := by rw [bs_size, HK.out]; exact Lit.join_le hbk' k
    by_cases hlt : k < t.ls.length
    · have hne : t.ls ≠ [] := by intro e; rw [e] at hlt; simp at hlt
      obtain ⟨b, off, rfl, hS, hbl, hrr⟩ := Lit.sd_get hT hne
      obtain ⟨c0, c1, c2, q0, q1, q2, qx⟩ := hrr k hlt
      obtain ⟨rfl, rfl, p, pc, rfl⟩ := Lit.at_form qx
      replace q0 := (hb.cell (p := ⟨b, off + k * 3, none⟩) hbl).trans q0
      replace q1 := (hb.cell (p := ⟨b, off + k * 3 + 1, none⟩) hbl).trans q1
      replace q2 := (hb.cell (p := ⟨b, off + k * 3 + 2, none⟩) hbl).trans q2
      replace qx := Lit.at_keep (Keeps.all hb) qx
      have hbm : t.ls[k].atom.bulk ≤ 1048576 := by have := Lit.bulk_mem (List.getElem_mem hlt); rw [Lit.bulk] at this; omega
      clear hrr
      have hsd := Tm.atom_sides (hva _ (List.getElem_mem hlt))
      have HS := hid (Lit.join_succ hlt)
      have gx : (bs t.ls[k].text).size ≤ 4194308 := by rw [bs_size]; exact Lit.text_le _ hbm
      by_cases hk0 : k = 0
      · have hk1 : ¬ (0 : Int) < k := by omega
        have HL : Hid (l ++ t.ls[k].text = Lib.join ((t.ls.take (k + 1)).map Lit.text) barSep) := by
          rw [Hid, HS.out, if_pos hk0, HK.out]; simp [hk0, Lib.join_nil]
        have g0 : ¬ 9223372036854775807 < (bs l).size + (bs t.ls[k].text).size := by omega
        clear hk0
        go_wp2_with fail
        refine (l3Literal_any qx hbm hsd).mono ?_
        rintro e w2 ⟨_, rfl, hb2, rfl⟩
        go_wp2_with fail
        go_roundw
        case rel => exact ⟨k + 1, l ++ t.ls[k].text, by omega, by go_num, by rw [bs_append], HL, hb.trans (hb2.mono hz)⟩
        case measure => simp [intOf]; omega
      · have hk1 : (0 : Int) < k := by omega
        have HL : Hid (l ++ barSep ++ t.ls[k].text = Lib.join ((t.ls.take (k + 1)).map Lit.text) barSep) := by
          rw [Hid, HS.out, if_neg hk0, HK.out]
        have g0 : ¬ 9223372036854775807 < (bs l).size + 3 := by omega
        have g1 : ¬ 9223372036854775807 < (bs l).size + 3 + (bs t.ls[k].text).size := by omega
        clear hk0
        go_wp2_with fail
        refine (l3Literal_any qx hbm hsd).mono ?_
        rintro e w2 ⟨_, rfl, hb2, rfl⟩
        go_wp2_with fail
        go_roundw
        case rel => exact ⟨k + 1, l ++ barSep ++ t.ls[k].text, by omega, by go_num, by rw [bs_mk #[32, 124, 32], bs_append, bs_append]; rfl, HL, hb.trans (hb2.mono hz)⟩
        case measure => simp [intOf]; omega
    · obtain rfl : k = t.ls.length := by omega
      have HK' : Hid (l = Lib.join (t.ls.map Lit.text) barSep) := by have := HK.out; rwa [List.take_length] at this
      by_cases hx : t.ls = []
      · have e0 : bs l = ⟨#[]⟩ := by rw [HK'.out, hx]; rfl
        have hv2 := toList_nil e0
        have hv3 := toList_emp e0
        have HL : Hid (t.text = [36, 102, 97, 108, 115, 101]) := by rw [Hid, HTX.out, if_pos hx]
        clear e0 hx
        go_wp2_with fail
        go_ret
        exact Gives.mk (ret_str (by rw [HL.out]; rfl)) (hW.trans (hb.mono hz0))
      · have e0 : ¬ bs l = ⟨#[]⟩ := by
          intro e
          have hl : l = [] := by have := congrArg (fun b : ByteArray => b.data.toList) e; simpa [bs] using this
          rw [HK'.out] at hl
          obtain ⟨x, r, hxr⟩ := List.exists_cons_of_ne_nil hx
          rw [hxr, List.map_cons, Lib.join_cons] at hl
          exact Lit.text_ne (hva x (by rw [hxr]; simp)) (List.append_eq_nil_iff.1 hl).1
        have hv2 := toList_cons e0
        have hv3 := toList_nemp e0
        have HL : Hid (t.text = l) := by rw [Hid, HTX.out, if_neg hx, HK'.out]
        clear e0 hx
        go_wp2_with fail
        go_ret
        exact Gives.mk (ret_str (by rw [HL.out])) (hW.trans (hb.mono hz0))

set_option maxHeartbeats 1000000 in
theorem formatClause_any : CTextIs 82 := by
  intro t S c0 w hT hbk hva
  have hbk' := hbk
  rw [Cl.bulk] at hbk'
  have HTX : Hid (t.text = if t.ls = [] then [36, 102, 97, 108, 115, 101] else Lib.join (t.ls.map Lit.text) barSep) := hid rfl
  have hlen : t.ls.length ≤ 1048576 := by omega
  by_cases hx : t.ls = []
  · have hp0 : ((t.ls.length : Int) == 0) = true := by rw [hx]; rfl
    have HL : Hid (t.text = [36, 102, 97, 108, 115, 101]) := by rw [Hid, HTX.out, if_pos hx]
    clear hx
    obtain ⟨a, cap, rfl⟩ := Cl.at_form hT
    have hW : Below w.heap.size w (w.alloc (.cells #[.slice a t.ls.length cap] 72)) := (Below.refl _ _).alloc (Nat.le_refl _) _
    have bT : Box (w.alloc (.cells #[.slice a t.ls.length cap] 72)) w.heap.size [.slice a t.ls.length cap] := Box.new w _ _
    replace hT := Cl.at_keep (Keeps.all hW) hT
    go_enter Try.func82, Try.ntmps82
    go_wp2_with fail
    generalize (w.alloc (.cells #[.slice a t.ls.length cap] 72)) = w0 at *
    go_ret
    exact Gives.mk (ret_str (by rw [HL.out]; rfl)) hW
  · have hp0 : ((t.ls.length : Int) == 0) = false := by rw [beq_eq_false_iff_ne]; have : t.ls.length ≠ 0 := fun e => hx (List.length_eq_zero_iff.1 e); omega
    have HL : Hid (t.text = Lib.join (t.ls.map Lit.text) barSep) := by rw [Hid, HTX.out, if_neg hx]
    clear hx
    obtain ⟨a, cap, rfl⟩ := Cl.at_form hT
    have hW : Below w.heap.size w (w.alloc (.cells #[.slice a t.ls.length cap] 72)) := (Below.refl _ _).alloc (Nat.le_refl _) _
    have hWs : Hid ((w.alloc (.cells #[.slice a t.ls.length cap] 72)).heap.size = w.heap.size + 1) := World.size_alloc _ _
    have bT : Box (w.alloc (.cells #[.slice a t.ls.length cap] 72)) w.heap.size [.slice a t.ls.length cap] := Box.new w _ _
    replace hT := Cl.at_keep (Keeps.all hW) hT
    go_enter Try.func82, Try.ntmps82
    go_wp2_with fail
    generalize (w.alloc (.cells #[.slice a t.ls.length cap] 72)) = w0 at *
    clear hp0
    have hz0 := hW.size
    have hA : Below w0.heap.size w0 (w0.alloc (.cells #[] 9)) := (Below.refl _ _).alloc (Nat.le_refl _) _
    go_loopw [3, 14] (fun v i wr => ∃ (k : Nat), k ≤ t.ls.length ∧ i = .int .i64 k ∧ Row wr w0.heap.size v (((t.ls.take k).map Lit.text).map bs) ∧ Below w0.heap.size w0 wr) (fun _ i _ => t.ls.length - (intOf i).toNat)
    case atStart => exact ⟨0, Nat.zero_le _, rfl, by rw [← hWs.out]; exact Row.made w0 (Nat.le_refl _), hA⟩
    case round =>
      obtain ⟨k, hk, rfl, hrow, hb⟩ := hrel
      have hz := hb.size
      by_cases hlt : k < t.ls.length
      · have hne : t.ls ≠ [] := by intro e; rw [e] at hlt; simp at hlt
        obtain ⟨b, off, rfl, hS, hbl, hrr⟩ := Lit.sd_get hT hne
        obtain ⟨c0, c1, c2, q0, q1, q2, qx⟩ := hrr k hlt
        obtain ⟨rfl, rfl, p, pc, rfl⟩ := Lit.at_form qx
        replace q0 := (hb.cell (p := ⟨b, off + k * 3, none⟩) hbl).trans q0
        replace q1 := (hb.cell (p := ⟨b, off + k * 3 + 1, none⟩) hbl).trans q1
        replace q2 := (hb.cell (p := ⟨b, off + k * 3 + 2, none⟩) hbl).trans q2
        replace qx := Lit.at_keep (Keeps.all hb) qx
        have hbm : t.ls[k].atom.bulk ≤ 1048576 := by have := Lit.bulk_mem (List.getElem_mem hlt); rw [Lit.bulk] at this; omega
        clear hrr
        have hsd := Tm.atom_sides (hva _ (List.getElem_mem hlt))
        have HS : Hid (((t.ls.take (k + 1)).map Lit.text).map bs = ((t.ls.take k).map Lit.text).map bs ++ [bs t.ls[k].text]) := by rw [Hid, List.take_succ_eq_append_getElem hlt, List.map_append, List.map_append]; rfl
        have hbk2 : (((t.ls.take k).map Lit.text).map bs).length ≤ 1048576 := by rw [List.length_map, List.length_map, List.length_take]; omega
        go_wp2_with fail
        have hbx : Below wr.heap.size wr (wr.alloc (.cells #[.bool t.ls[k].pos, .string t.ls[k].atom.name, .slice p t.ls[k].atom.args.length pc] 39)) := (Below.refl _ _).alloc (Nat.le_refl _) _
        refine (formatLiteral_any (Lit.at_keep (Keeps.all hbx) qx) hbm hsd).mono ?_
        rintro e w2 ⟨_, rfl, hb2, rfl⟩
        have hb3 := hbx.trans (hb2.mono hbx.size)
        have hrow2 := hrow.keep hb3
        have hsz2 : w0.heap.size ≤ w2.heap.size := Nat.le_trans hz hb3.size
        have gx : (bs t.ls[k].text).size ≤ maxLen := by rw [bs_size]; have := Lit.text_le _ hbm; unfold maxLen; omega
        have hA2 : Below w2.heap.size w2 (w2.alloc (.cells #[.string (bs t.ls[k].text)] 9)) := (Below.refl _ _).alloc (Nat.le_refl _) _
        go_wp2_with (at_builtin; refine wpList_append_str rfl _ _ rfl (by rfl) (by rfl) (hrow2.keep hA2) gx (by rw [box1]; rfl) (by omega) (by rw [World.size_alloc]; omega) ?_; intro g cap3 w3 hrow3 hgr hgo hlt3)
        have hb4 : Below w0.heap.size w0 w3 := ((hb.trans (hb3.mono hz)).trans (hA2.mono hsz2)).grown hgr (by rw [World.size_alloc]; omega) fun j hj => (hrow2.lt j hj).1
        go_roundw
        case rel => exact ⟨k + 1, by omega, by go_num, by rw [HS.out]; rw [List.length_map, List.length_map, List.length_take, Nat.min_eq_left (by omega)] at hrow3; exact hrow3, hb4⟩
        case measure => simp [intOf]; omega
      · obtain rfl : k = t.ls.length := by omega
        rw [List.take_length] at hrow
        have hjl := Lit.join_le hbk' t.ls.length
        rw [List.take_length] at hjl
        go_wp2_with fail
        refine (join_any barSep hrow (by omega) (by rw [List.length_map]; omega)).mono ?_
        rintro e w2 ⟨_, rfl, hb2, rfl⟩
        go_wp2_with fail
        go_ret
        exact Gives.mk (ret_str (by rw [HL.out])) (hW.trans ((hb.trans (hb2.mono hz)).mono hz0))
end Go.Proofs.Ytiifibmahomdhaa
