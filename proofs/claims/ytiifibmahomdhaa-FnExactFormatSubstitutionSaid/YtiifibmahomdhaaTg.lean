/- The texts of substitutions: the program. -/
import Derived.Test.YtiifibmahomdhaaTf
namespace Go.Proofs.Ytiifibmahomdhaa
set_option maxRecDepth 100000
open Go.RowKit

set_option maxHeartbeats 2000000 in
theorem formatSubstitution_any {t : Sb} {S : Nat → Prop} {c0 : Value} {w : World} (hT : Sb.at S w c0 t) (hbk : t.bulk ≤ 1048576) (hva : ∀ b ∈ t.bs, b.term.sides) : Calls Try.prog 69 #[.agg #[c0]] w (Gives w (.string (bs t.text))) := by
  have hbk' := hbk
  rw [Sb.bulk] at hbk'
  have hlen : t.bs.length ≤ 1048576 := by omega
  have HTX : Hid (t.text = Lib.join (t.bs.map Bnd.text) semi) := hid rfl
  obtain ⟨a, cap, rfl⟩ := Sb.at_form hT
  have hW : Below w.heap.size w (w.alloc (.cells #[.slice a t.bs.length cap] 50)) := (Below.refl _ _).alloc (Nat.le_refl _) _
  have hWs : Hid ((w.alloc (.cells #[.slice a t.bs.length cap] 50)).heap.size = w.heap.size + 1) := World.size_alloc _ _
  have bT : Box (w.alloc (.cells #[.slice a t.bs.length cap] 50)) w.heap.size [.slice a t.bs.length cap] := Box.new w _ _
  replace hT := Sb.at_keep (Keeps.all hW) hT
  go_enter Try.func69, Try.ntmps69
  go_wp2_with fail
  generalize (w.alloc (.cells #[.slice a t.bs.length cap] 50)) = w0 at *
  have hz0 := hW.size
  have hA : Below w0.heap.size w0 (w0.alloc (.cells #[] 9)) := (Below.refl _ _).alloc (Nat.le_refl _) _
  go_loopw [3, 10] (fun v i wr => ∃ (k : Nat), k ≤ t.bs.length ∧ i = .int .i64 k ∧ Row wr w0.heap.size v (((t.bs.take k).map Bnd.text).map bs) ∧ Below w0.heap.size w0 wr) (fun _ i _ => t.bs.length - (intOf i).toNat)
  case atStart => exact ⟨0, Nat.zero_le _, rfl, by rw [← hWs.out]; exact Row.made w0 (Nat.le_refl _), hA⟩
  case round =>
    obtain ⟨k, hk, rfl, hrow, hb⟩ := hrel
    have hz := hb.size
    by_cases hlt : k < t.bs.length
    · have hne : t.bs ≠ [] := by intro e; rw [e] at hlt; simp at hlt
      obtain ⟨b, off, rfl, hS, hbl, hrr⟩ := Bnd.sd_get hT hne
      obtain ⟨c0, c1, c2, q0, q1, q2, qx⟩ := hrr k hlt
      have hvl := Bnd.var_le qx
      have hbb := Bnd.bulk_mem (List.getElem_mem hlt)
      rw [Bnd.bulk] at hbb
      have hbm : t.bs[k].term.bulk ≤ 1048576 := by omega
      have hvs : t.bs[k].var.data.toList.length ≤ 1048576 := by show t.bs[k].var.size ≤ _; omega
      obtain ⟨rfl, rfl, p, pc, rfl⟩ := Bnd.at_form qx
      replace q0 := (hb.cell (p := ⟨b, off + k * 3, none⟩) hbl).trans q0
      replace q1 := (hb.cell (p := ⟨b, off + k * 3 + 1, none⟩) hbl).trans q1
      replace q2 := (hb.cell (p := ⟨b, off + k * 3 + 2, none⟩) hbl).trans q2
      replace qx := Bnd.at_keep (Keeps.all hb) qx
      clear hrr
      have hsd := hva _ (List.getElem_mem hlt)
      have gx := Tm.text_le _ hbm
      obtain ⟨v0, Hv0⟩ : ∃ v0, Hid (v0 = t.bs[k].var.data.toList) := ⟨_, hid rfl⟩
      obtain ⟨x0, Hx0⟩ : ∃ x0, Hid (x0 = t.bs[k].term.text) := ⟨_, hid rfl⟩
      have gv : v0.length ≤ 1048576 := by rw [Hv0.out]; exact hvs
      have gx0 : x0.length ≤ 4194307 := by rw [Hx0.out]; exact gx
      have Hbs : Hid (t.bs[k].var = bs v0) := by rw [Hid, Hv0.out, bs_of]
      rw [Hbs.out] at q0 qx
      have HL : Hid (((t.bs.take (k + 1)).map Bnd.text).map bs = ((t.bs.take k).map Bnd.text).map bs ++ [bs (v0 ++ [58, 61] ++ x0)]) := by
        rw [Hid, List.take_succ_eq_append_getElem hlt, List.map_append, List.map_append, Hv0.out, Hx0.out]; rfl
      have hbk2 : (((t.bs.take k).map Bnd.text).map bs).length ≤ 1048576 := by rw [List.length_map, List.length_map, List.length_take]; omega
      clear gx hvs hvl hbb
      have g1 : ¬ 9223372036854775807 < (bs v0).size + 2 := by rw [bs_size]; omega
      have g2 : ¬ 9223372036854775807 < (bs v0).size + 2 + (bs x0).size := by rw [bs_size, bs_size]; omega
      have gy : (bs v0 ++ ⟨#[58, 61]⟩ ++ bs x0).size ≤ maxLen := by rw [bs_mk #[58, 61], bs_append, bs_append, bs_size]; simp only [List.length_append]; unfold maxLen; show _ + 2 + _ ≤ _; omega
      go_wp2_with fail
      have hA0 : Below wr.heap.size wr (wr.alloc (.cells #[.string (bs v0), .string t.bs[k].term.name, .slice p t.bs[k].term.args.length pc] 97)) := (Below.refl _ _).alloc (Nat.le_refl _) _
      have bE : Box (wr.alloc (.cells #[.string (bs v0), .string t.bs[k].term.name, .slice p t.bs[k].term.args.length pc] 97)) wr.heap.size [.string (bs v0), .string t.bs[k].term.name, .slice p t.bs[k].term.args.length pc] := Box.new _ _ _
      have hrow0 := hrow
      replace hrow := hrow.keep hA0
      replace qx := Bnd.at_keep (Keeps.all hA0) qx
      have hne0 : some wr.heap.size ≠ u3.ownBlock := fun e => by have := (hrow0.lt _ e.symm).2; omega
      clear q0 q1 q2
      generalize wr.alloc (.cells #[.string (bs v0), .string t.bs[k].term.name, .slice p t.bs[k].term.args.length pc] 97) = w2 at *
      have eE0 := bE.c0
      have eE1 := bE.c1
      have eE2 := bE.c2
      have lE := bE.lt
      go_region_held3 (fun w' => w'.cell? ⟨wr.heap.size, 0, none⟩ = some (.string (bs v0)) ∧ w'.cell? ⟨wr.heap.size, 1, none⟩ = some (.string t.bs[k].term.name) ∧ w'.cell? ⟨wr.heap.size, 2, none⟩ = some (.slice p t.bs[k].term.args.length pc))
        (first | go_keep | (go_split_ands; refine ⟨?_, ?_, ?_⟩ <;> (rw [hgr.cell_far _ (by simp; omega) hne0]; simp [*])))
        (first | (go_at_call 59; (have hq := formatTerm_any _ (Tm.at_keep (Keeps.all (Below.refl w2.heap.size w2).drew) (Bnd.at_term qx)) hbm hsd); rw [← Hx0.out] at hq; refine hq.mono ?_; clear hq; rintro e w4 ⟨_, rfl, hb4, rfl⟩; have hc4 := dcell hb4; (have hz4 : w2.heap.size ≤ w4.heap.size := hb4.size)) | (refine step_append_str (y := bs v0 ++ ⟨#[58, 61]⟩ ++ bs x0) rfl _ _ (by rfl) (by rfl) (by rfl) ((hrow.keep ((Below.refl _ _).drew.trans hb4)).keep ((Below.refl _ _).alloc (Nat.le_refl _) _)) gy (box1 _ _ _ 0) (by omega) (by rw [World.size_alloc]; omega) ?_; intro g cap3 w5 hrow5 hgr hgo hlt5))
      have HY : Hid (bs v0 ++ ⟨#[58, 61]⟩ ++ bs x0 = bs (v0 ++ [58, 61] ++ x0)) := by rw [Hid, bs_mk #[58, 61], bs_append, bs_append]
      have hA2 : Below w4.heap.size w4 (w4.alloc (.cells #[.string (bs v0 ++ ⟨#[58, 61]⟩ ++ bs x0)] 9)) := (Below.refl _ _).alloc (Nat.le_refl _) _
      have hb24 : Below w2.heap.size w2 w4 := (Below.refl w2.heap.size w2).drew.trans hb4
      have hz2 := hA0.size
      have hb5 : Below w0.heap.size w0 w5 := (((hb.trans (hA0.mono hz)).trans (hb24.mono (by omega))).trans (hA2.mono (by omega))).grown hgr (by rw [World.size_alloc]; omega) fun j hj => (hrow.lt j hj).1
      clear hgr hgo hlt5 hA2 hb24 hz2 hc4 hz4 hb4 eE0 eE1 eE2 lE
      go_wp2_with fail
      go_roundw
      case rel => exact ⟨k + 1, by omega, by go_num, by rw [HL.out, ← HY.out]; rw [List.length_map, List.length_map, List.length_take, Nat.min_eq_left (by omega)] at hrow5; exact hrow5, hb5⟩
      case measure => simp [intOf]; omega
    · obtain rfl : k = t.bs.length := by omega
      rw [List.take_length] at hrow
      have hjl := Bnd.join_le hbk' t.bs.length
      rw [List.take_length] at hjl
      go_wp2_with fail
      refine (join_any semi hrow (by omega) (by rw [List.length_map]; omega)).mono ?_
      rintro e w2 ⟨_, rfl, hb2, rfl⟩
      go_wp2_with fail
      go_ret
      exact Gives.mk (ret_str (by rw [HTX.out])) (hW.trans ((hb.trans (hb2.mono hz)).mono hz0))
set_option maxHeartbeats 1000000 in
theorem impl_FormatSubstitution {t : Sb} {S : Nat → Prop} {c0 : Value} {w : World} (hT : Sb.at S w c0 t) (hbk : t.bulk ≤ 1048576) : Calls Try.prog 28 #[.agg #[c0]] w (Gives w (.tuple #[.string t.textR, .bool t.valid])) := by
  by_cases h : t.valid = true
  · have HS : Hid (bs t.text = t.textR) := by unfold Hid Sb.textR; rw [if_pos h]
    have HE := hid h
    have hva := Bnd.valid_sides h
    obtain ⟨a, cap, rfl⟩ := Sb.at_form hT
    have hW : Below w.heap.size w (w.alloc (.cells #[.slice a t.bs.length cap] 50)) := (Below.refl _ _).alloc (Nat.le_refl _) _
    have bT : Box (w.alloc (.cells #[.slice a t.bs.length cap] 50)) w.heap.size [.slice a t.bs.length cap] := Box.new w _ _
    replace hT := Sb.at_keep (Keeps.all hW) hT
    go_enter Try.func28, Try.ntmps28
    go_wp2_with fail
    generalize (w.alloc (.cells #[.slice a t.bs.length cap] 50)) = w0 at *
    refine (impl_IsValidSubstitution hT hbk).mono ?_
    rintro e w1 ⟨_, rfl, hb, rfl⟩
    replace hW := hW.trans (hb.mono hW.size)
    replace bT := bT.keep hb
    replace hT := Sb.at_keep (Keeps.all hb) hT
    clear hb
    rw [h]
    have eT0 := bT.c0
    have lT := bT.lt
    go_wp2_with fail
    clear eT0 lT
    clear h
    refine (formatSubstitution_any hT hbk hva).mono ?_
    rintro e w1 ⟨_, rfl, hb, rfl⟩
    replace hW := hW.trans (hb.mono hW.size)
    replace bT := bT.keep hb
    replace hT := Sb.at_keep (Keeps.all hb) hT
    clear hb
    have eT0 := bT.c0
    have lT := bT.lt
    go_wp2_with fail
    clear eT0 lT
    go_ret2
    exact Gives.mk (by rw [HE.out, ← HS.out]; rfl) hW
  · replace h : t.valid = false := by simpa using h
    have HS : Hid (t.textR = ⟨#[]⟩) := by unfold Hid Sb.textR; rw [h]; rfl
    have HE := hid h
    obtain ⟨a, cap, rfl⟩ := Sb.at_form hT
    have hW : Below w.heap.size w (w.alloc (.cells #[.slice a t.bs.length cap] 50)) := (Below.refl _ _).alloc (Nat.le_refl _) _
    have bT : Box (w.alloc (.cells #[.slice a t.bs.length cap] 50)) w.heap.size [.slice a t.bs.length cap] := Box.new w _ _
    replace hT := Sb.at_keep (Keeps.all hW) hT
    go_enter Try.func28, Try.ntmps28
    go_wp2_with fail
    generalize (w.alloc (.cells #[.slice a t.bs.length cap] 50)) = w0 at *
    refine (impl_IsValidSubstitution hT hbk).mono ?_
    rintro e w1 ⟨_, rfl, hb, rfl⟩
    replace hW := hW.trans (hb.mono hW.size)
    replace bT := bT.keep hb
    replace hT := Sb.at_keep (Keeps.all hb) hT
    clear hb
    rw [h]
    have eT0 := bT.c0
    have lT := bT.lt
    go_wp2_with fail
    clear eT0 lT
    go_ret2
    exact Gives.mk (by rw [HE.out, HS.out]; rfl) hW
end Go.Proofs.Ytiifibmahomdhaa
