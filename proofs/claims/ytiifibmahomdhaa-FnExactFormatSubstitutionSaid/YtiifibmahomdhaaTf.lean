/- The texts of substitutions: the reference. -/
import Derived.Test.YtiifibmahomdhaaTw
import Derived.Test.YtiifibmahomdhaaSw
import Derived.Deep.RegionHeld3
namespace Go.Proofs.Ytiifibmahomdhaa
set_option maxRecDepth 100000
open Go.RowKit

/-- behind a draw and a call that changed no old block: cells of old blocks read as before -/
theorem dcell {W w1 : World} (hb : Below W.drew.heap.size W.drew w1) : ∀ b o, b < W.heap.size → w1.cell? ⟨b, o, none⟩ = W.cell? ⟨b, o, none⟩ :=
  fun b o h => hb.cell (p := ⟨b, o, none⟩) h

def Bnd.text (x : Bnd) : List UInt8 := x.var.data.toList ++ [58, 61] ++ x.term.text
def semi : List UInt8 := [59]
def Sb.text (x : Sb) : List UInt8 := Lib.join (x.bs.map Bnd.text) semi
theorem Bnd.text_lens (x : Bnd) : x.text.length ≤ 4 * x.bulk + 5 := by
  have h0 := Tm.text_lens x.term
  have h1 := Tm.size_bulk x.term
  have hv : x.var.data.toList.length = x.var.size := rfl
  rw [Bnd.text, Bnd.bulk]
  simp only [List.length_append, List.length_cons, List.length_nil]; omega
theorem Bnd.lens_le (ls : List Bnd) : Lib.lens (ls.map Bnd.text) ≤ 4 * Bnd.bulks ls + 5 * ls.length := by
  induction ls with
  | nil => simp [Lib.lens]
  | cons x ls ih =>
    have := Bnd.text_lens x
    simp only [Lib.lens, List.map_cons, List.sum_cons, Bnd.bulks, List.length_cons] at ih ⊢; omega
theorem Bnd.join_le {ls : List Bnd} (h : ls.length + Bnd.bulks ls ≤ 1048576) (k : Nat) : (Lib.join ((ls.take k).map Bnd.text) semi).length ≤ 8388608 := by
  have h0 := join_length ((ls.take k).map Bnd.text) semi
  have h1 := Bnd.lens_le (ls.take k)
  have h2 := Bnd.bulks_le ls k
  have h3 : (ls.take k).length ≤ ls.length := by rw [List.length_take]; omega
  simp only [List.length_map, semi, List.length_cons, List.length_nil] at h0 ⊢; omega
theorem Bnd.join_succ {ls : List Bnd} {k : Nat} (hk : k < ls.length) : Lib.join ((ls.take (k + 1)).map Bnd.text) semi = if k = 0 then ls[k].text else Lib.join ((ls.take k).map Bnd.text) semi ++ semi ++ ls[k].text := by
  rw [List.take_succ_eq_append_getElem hk, List.map_append, List.map_cons, List.map_nil, join_snoc]
  by_cases h : k = 0
  · rw [if_pos (by rw [h]; rfl), if_pos h]
  · rw [if_neg (by intro e; have := congrArg List.length e; rw [List.length_map, List.length_take, List.length_nil] at this; omega), if_neg h]
theorem Bnd.valid_sides {x : Sb} (h : x.valid = true) : ∀ b ∈ x.bs, b.term.sides := by
  intro b hb
  rw [Sb.valid, Bool.and_eq_true, Bnd.allOk, List.all_eq_true] at h
  obtain ⟨k, hk, rfl⟩ := List.mem_iff_getElem.1 hb
  have hf : x.bs[k].fits = true := by
    by_cases q : x.bs[k].fits = true
    · exact q
    · have := h.1 k (List.mem_range.2 hk)
      rw [Bnd.okAt_fits hk (by simpa using q)] at this; exact absurd this (by simp)
  rw [Bnd.fits, Bool.and_eq_true, Bool.and_eq_true] at hf
  exact Tm.valid_sides hf.1.2
def Sb.textR (t : Sb) : ByteArray := if t.valid = true then Go.Proofs.Ytiifibmahomdhaa.bs t.text else ⟨#[]⟩

set_option maxHeartbeats 2000000 in
theorem spec_FormatSubstitution {t : Sb} {S : Nat → Prop} {c0 : Value} {w : World} (hT : Sb.at S w c0 t) (hbk : t.bulk ≤ 1048576) : Calls Try.prog 26 #[.agg #[c0]] w (Gives w (.tuple #[.string t.textR, .bool t.valid])) := by
  by_cases h : t.valid = true
  · have HS : Hid (bs t.text = t.textR) := by rw [Hid, Sb.textR, if_pos h]
    have HE := hid h
    have hva := Bnd.valid_sides h
    have hbk' := hbk
    rw [Sb.bulk] at hbk'
    have hlen : t.bs.length ≤ 1048576 := by omega
    obtain ⟨a, cap, rfl⟩ := Sb.at_form hT
    have hW : Below w.heap.size w (w.alloc (.cells #[.slice a t.bs.length cap] 50)) := (Below.refl _ _).alloc (Nat.le_refl _) _
    have bT : Box (w.alloc (.cells #[.slice a t.bs.length cap] 50)) w.heap.size [.slice a t.bs.length cap] := Box.new w _ _
    replace hT := Sb.at_keep (Keeps.all hW) hT
    go_enter Try.func26, Try.ntmps26
    go_wp2_with fail
    generalize (w.alloc (.cells #[.slice a t.bs.length cap] 50)) = w0 at *
    refine (l4Good_any hT hbk).mono ?_
    rintro e w1 ⟨_, rfl, hb, rfl⟩
    replace hW := hW.trans (hb.mono hW.size)
    replace bT := bT.keep hb
    replace hT := Sb.at_keep (Keeps.all hb) hT
    clear hb
    rw [h]
    have eT0 := bT.c0
    have lT := bT.lt
    go_wp2_with fail
    clear eT0 lT
    clear h
    rename World => w1
    have hz0 := hW.size
    go_loopw [4, 5] (fun s i wr => ∃ (k : Nat) (l : List UInt8), k ≤ t.bs.length ∧ i = .int .i64 k ∧ s = .string (bs l) ∧ Hid (l = Lib.join ((t.bs.take k).map Bnd.text) semi) ∧ Below w1.heap.size w1 wr) (fun _ i _ => t.bs.length - (intOf i).toNat)
    case atStart => exact ⟨0, [], Nat.zero_le _, rfl, rfl, by simp [Hid, Lib.join_nil], Below.refl _ _⟩
    case round =>
      obtain ⟨k, l, hk, rfl, rfl, HK, hb⟩ := hrel
      have bR := bT.keep hb
      have hz := hb.size
      have gl : l.length ≤ 8388608 := by rw [HK.out]; exact Bnd.join_le hbk' k
      by_cases hlt : k < t.bs.length
      · have hne : t.bs ≠ [] := by intro e; rw [e] at hlt; simp at hlt
        obtain ⟨b, off, rfl, hS, hbl, hrr⟩ := Bnd.sd_get hT hne
        obtain ⟨c0, c1, c2, q0, q1, q2, qx⟩ := hrr k hlt
        have hvl := Bnd.var_le qx
        have hbb := Bnd.bulk_mem (List.getElem_mem hlt)
        rw [Bnd.bulk] at hbb
        have hbm : t.bs[k].term.bulk ≤ 1048576 := by omega
        have hvs : t.bs[k].var.data.toList.length ≤ 1048576 := by show t.bs[k].var.size ≤ _; omega
        obtain ⟨rfl, rfl, p, pc, rfl⟩ := Bnd.at_form qx
        replace q0 := (hb.cell (p := ⟨b, off + k * 3, none⟩) hbl).trans q0
        replace q1 := (hb.cell (p := ⟨b, off + k * 3 + 1, none⟩) hbl).trans q1
        replace q2 := (hb.cell (p := ⟨b, off + k * 3 + 2, none⟩) hbl).trans q2
        have q3 : wr.cell? ⟨b, off + k * 3 + 1 + 1, none⟩ = some (.slice p t.bs[k].term.args.length pc) := q2
        replace qx := Bnd.at_keep (Keeps.all hb) qx
        have lb : b < wr.heap.size := Nat.lt_of_lt_of_le hbl hz
        clear hrr
        have hsd := hva _ (List.getElem_mem hlt)
        have HJ := hid (Bnd.join_succ hlt)
        have gx := Tm.text_le _ hbm
        obtain ⟨v0, Hv0⟩ : ∃ v0, Hid (v0 = t.bs[k].var.data.toList) := ⟨_, hid rfl⟩
        obtain ⟨x0, Hx0⟩ : ∃ x0, Hid (x0 = t.bs[k].term.text) := ⟨_, hid rfl⟩
        have gv : v0.length ≤ 1048576 := by rw [Hv0.out]; exact hvs
        have gx0 : x0.length ≤ 4194307 := by rw [Hx0.out]; exact gx
        have Hbs : Hid (t.bs[k].var = bs v0) := by rw [Hid, Hv0.out, bs_of]
        rw [Hbs.out] at q0
        clear gx hvs
        by_cases hk0 : k = 0
        · have hk1 : ¬ (0 : Int) < k := by omega
          have HL0 : Hid (l = []) := by rw [Hid, HK.out]; simp [hk0, Lib.join_nil]
          obtain ⟨m, Hm⟩ : ∃ m : List UInt8, Hid (m = l) := ⟨_, hid rfl⟩
          have HL : Hid (m ++ v0 ++ [58, 61] ++ x0 = Lib.join ((t.bs.take (k + 1)).map Bnd.text) semi) := by
            rw [Hid, HJ.out, if_pos hk0, Hm.out, HL0.out, Hv0.out, Hx0.out, Bnd.text]; simp
          clear hk0
          have hml : m.length ≤ 8388609 := by rw [Hm.out]; first | omega | (simp [semi]; omega)
          obtain ⟨l2, H2⟩ : ∃ l2, Hid (l2 = m ++ v0) := ⟨_, hid rfl⟩
          obtain ⟨l3, H3⟩ : ∃ l3, Hid (l3 = l2 ++ [58, 61]) := ⟨_, hid rfl⟩
          obtain ⟨l4, H4⟩ : ∃ l4, Hid (l4 = l3 ++ x0) := ⟨_, hid rfl⟩
          have g1 : ¬ 9223372036854775807 < (bs m).size + (bs v0).size := by rw [bs_size, bs_size]; omega
          have g2 : ¬ 9223372036854775807 < (bs m).size + (bs v0).size + 2 := by rw [bs_size, bs_size]; omega
          have g3 : ¬ 9223372036854775807 < (bs m).size + (bs v0).size + 2 + (bs x0).size := by rw [bs_size, bs_size, bs_size]; omega
          have HF : Hid (l4 = Lib.join ((t.bs.take (k + 1)).map Bnd.text) semi) := by rw [Hid, H4.out, H3.out, H2.out, HL.out]
          have eT0 := bR.c0
          have lT := bR.lt
          go_wp2_with fail
          first | rw [show bs l ++ ⟨#[59]⟩ = bs m by rw [Hm.out, bs_mk #[59], bs_append]; rfl] | rw [← Hm.out]
          have hkz : (0 : Int) ≤ k := by omega
          have hkl : (k : Int) < t.bs.length := by omega
          go_region_held3 (fun w' => w'.cell? ⟨w.heap.size, 0, none⟩ = some (.slice (some ⟨b, off, none⟩) t.bs.length cap) ∧ w'.cell? ⟨b, off + k * 3, none⟩ = some (.string (bs v0)) ∧ w'.cell? ⟨b, off + k * 3 + 1, none⟩ = some (.string t.bs[k].term.name) ∧ w'.cell? ⟨b, off + k * 3 + 1 + 1, none⟩ = some (.slice p t.bs[k].term.args.length pc))
            (first | go_keep)
            (first | (go_at_call 56; (have hq := l3Term_any _ (Tm.at_keep (Keeps.all (Below.refl wr.heap.size wr).drew) (Bnd.at_term qx)) hbm hsd); rw [← Hx0.out] at hq; refine hq.mono ?_; clear hq; rintro e w4 ⟨_, rfl, hb4, rfl⟩; have hc4 := dcell hb4))
          have hb5 : Below wr.heap.size wr w4 := (Below.refl wr.heap.size wr).drew.trans hb4
          have HE4 : Hid (bs m ++ bs v0 ++ ⟨#[58, 61]⟩ ++ bs x0 = bs l4) := by rw [Hid, bs_append, bs_mk #[58, 61], bs_append, bs_append, H4.out, H3.out, H2.out]
          clear hc4 hb4 eT0 lT g1 g2 g3
          rw [HE4.out]
          go_wp2_with fail
          go_roundw
          case rel => exact ⟨k + 1, l4, by omega, by go_num, rfl, HF, hb.trans (hb5.mono hz)⟩
          case measure => simp [intOf]; omega
        · have hk1 : (0 : Int) < k := by omega
          obtain ⟨m, Hm⟩ : ∃ m : List UInt8, Hid (m = l ++ semi) := ⟨_, hid rfl⟩
          have HL : Hid (m ++ v0 ++ [58, 61] ++ x0 = Lib.join ((t.bs.take (k + 1)).map Bnd.text) semi) := by
            rw [Hid, HJ.out, if_neg hk0, Hm.out, ← HK.out, Hv0.out, Hx0.out, Bnd.text]; simp [List.append_assoc]
          have gs : ¬ 9223372036854775807 < (bs l).size + 1 := by rw [bs_size]; omega
          clear hk0
          have hml : m.length ≤ 8388609 := by rw [Hm.out]; first | omega | (simp [semi]; omega)
          obtain ⟨l2, H2⟩ : ∃ l2, Hid (l2 = m ++ v0) := ⟨_, hid rfl⟩
          obtain ⟨l3, H3⟩ : ∃ l3, Hid (l3 = l2 ++ [58, 61]) := ⟨_, hid rfl⟩
          obtain ⟨l4, H4⟩ : ∃ l4, Hid (l4 = l3 ++ x0) := ⟨_, hid rfl⟩
          have g1 : ¬ 9223372036854775807 < (bs m).size + (bs v0).size := by rw [bs_size, bs_size]; omega
          have g2 : ¬ 9223372036854775807 < (bs m).size + (bs v0).size + 2 := by rw [bs_size, bs_size]; omega
          have g3 : ¬ 9223372036854775807 < (bs m).size + (bs v0).size + 2 + (bs x0).size := by rw [bs_size, bs_size, bs_size]; omega
          have HF : Hid (l4 = Lib.join ((t.bs.take (k + 1)).map Bnd.text) semi) := by rw [Hid, H4.out, H3.out, H2.out, HL.out]
          have eT0 := bR.c0
          have lT := bR.lt
          go_wp2_with fail
          first | rw [show bs l ++ ⟨#[59]⟩ = bs m by rw [Hm.out, bs_mk #[59], bs_append]; rfl] | rw [← Hm.out]
          have hkz : (0 : Int) ≤ k := by omega
          have hkl : (k : Int) < t.bs.length := by omega
          go_region_held3 (fun w' => w'.cell? ⟨w.heap.size, 0, none⟩ = some (.slice (some ⟨b, off, none⟩) t.bs.length cap) ∧ w'.cell? ⟨b, off + k * 3, none⟩ = some (.string (bs v0)) ∧ w'.cell? ⟨b, off + k * 3 + 1, none⟩ = some (.string t.bs[k].term.name) ∧ w'.cell? ⟨b, off + k * 3 + 1 + 1, none⟩ = some (.slice p t.bs[k].term.args.length pc))
            (first | go_keep)
            (first | (go_at_call 56; (have hq := l3Term_any _ (Tm.at_keep (Keeps.all (Below.refl wr.heap.size wr).drew) (Bnd.at_term qx)) hbm hsd); rw [← Hx0.out] at hq; refine hq.mono ?_; clear hq; rintro e w4 ⟨_, rfl, hb4, rfl⟩; have hc4 := dcell hb4))
          have hb5 : Below wr.heap.size wr w4 := (Below.refl wr.heap.size wr).drew.trans hb4
          have HE4 : Hid (bs m ++ bs v0 ++ ⟨#[58, 61]⟩ ++ bs x0 = bs l4) := by rw [Hid, bs_append, bs_mk #[58, 61], bs_append, bs_append, H4.out, H3.out, H2.out]
          clear hc4 hb4 eT0 lT g1 g2 g3
          rw [HE4.out]
          go_wp2_with fail
          go_roundw
          case rel => exact ⟨k + 1, l4, by omega, by go_num, rfl, HF, hb.trans (hb5.mono hz)⟩
          case measure => simp [intOf]; omega
      · obtain rfl : k = t.bs.length := by omega
        have HK' : Hid (l = t.text) := by have := HK.out; rwa [List.take_length] at this
        have eT0 := bR.c0
        go_wp2_with fail
        go_ret2
        exact Gives.mk (by rw [HE.out, ← HS.out, ← HK'.out]; rfl) (hW.trans (hb.mono hz0))
  · replace h : t.valid = false := by simpa using h
    have HS : Hid (t.textR = ⟨#[]⟩) := by rw [Hid, Sb.textR, h]; rfl
    have HE := hid h
    obtain ⟨a, cap, rfl⟩ := Sb.at_form hT
    have hW : Below w.heap.size w (w.alloc (.cells #[.slice a t.bs.length cap] 50)) := (Below.refl _ _).alloc (Nat.le_refl _) _
    have bT : Box (w.alloc (.cells #[.slice a t.bs.length cap] 50)) w.heap.size [.slice a t.bs.length cap] := Box.new w _ _
    replace hT := Sb.at_keep (Keeps.all hW) hT
    go_enter Try.func26, Try.ntmps26
    go_wp2_with fail
    generalize (w.alloc (.cells #[.slice a t.bs.length cap] 50)) = w0 at *
    refine (l4Good_any hT hbk).mono ?_
    rintro e w1 ⟨_, rfl, hb, rfl⟩
    replace hW := hW.trans (hb.mono hW.size)
    replace bT := bT.keep hb
    replace hT := Sb.at_keep (Keeps.all hb) hT
    clear hb
    rw [h]
    have eT0 := bT.c0
    have lT := bT.lt
    go_wp2_with fail
    clear eT0 lT
    go_ret2
    exact Gives.mk (by rw [HE.out, HS.out]; rfl) hW
end Go.Proofs.Ytiifibmahomdhaa
