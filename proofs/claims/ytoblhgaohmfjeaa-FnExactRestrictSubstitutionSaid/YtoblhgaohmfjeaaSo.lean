/- The reference's copies of terms. -/
import Derived.Test.YtoblhgaohmfjeaaTo
import Derived.Test.YtoblhgaohmfjeaaGr
import Derived.Deep.RegionLaw
namespace Go.Proofs.Ytoblhgaohmfjeaa
set_option maxRecDepth 100000
open Go.RowKit

def OwnT (t : Tm) : Prop := ∀ (S : Nat → Prop) (c0 c1 : Value) (w : World), Tm.at S w c0 c1 t → t.bulk ≤ 1048576 → Calls Try.prog 57 #[.agg #[c0, c1]] w (MadeT t w)

theorem Tm.cs_eq (t : Tm) : t.cs = [.str t.name, Tm.sd t.args] := by cases t; simp [Tm.cs, Tm.name, Tm.args, Tm.sd]
theorem Tm.own_item {w : World} {t : Tm} {v : Value} {F : List Nat} (hn : t.name.size ≤ maxLen) (h : D.own w v (Tm.sd t.args) F) : OwnsL w [.string t.name, v] t.cs F := by
  have e : t.cs = [.str t.name, Tm.sd t.args] := by cases t; simp [Tm.cs, Tm.name, Tm.args, Tm.sd]
  rw [e]
  have := OwnsL.cons (F := []) (D.own_str hn) (OwnsL.cons h (OwnsL.nil w) (by simp)) (by simp)
  simpa using this

set_option maxHeartbeats 2000000 in
theorem ownT_of (n : ByteArray) (ts : List Tm) (h : ∀ t ∈ ts, OwnT t) : OwnT (.node n ts) := by
  intro S c0 c1 w hr hbk
  obtain ⟨rfl, hn, a, cap, rfl⟩ := Tm.at_form hr
  have hs := hr.2
  rw [Tm.bulk] at hbk
  simp only [Tm.name, Tm.args] at hn hs ⊢
  clear hr
  have hlen := (Tm.sd_form hs)
  obtain ⟨_, _, e, hlen, hcap⟩ := hlen
  unfold big at hlen
  clear e
  go_enter Try.func57, Try.ntmps57
  go_wp2_with fail
  go_loopw [4] (fun i wr => ∃ (k : Nat) (F : List Nat) (v : Value), k ≤ ts.length ∧ i = .int .i64 k ∧ Gr wr (w.heap.size + 1 + 1 + 1) 29 2 v k (Tm.css (ts.take k)) F ∧ wr.cell? ⟨w.heap.size + 1 + 1, 0, none⟩ = some (.string n) ∧ wr.cell? ⟨w.heap.size + 1 + 1, 1, none⟩ = some v ∧ (∀ p, wr.frozen? ⟨w.heap.size + 1 + 1, p, none⟩ = false) ∧ w.heap.size + 1 + 1 + 1 ≤ wr.heap.size ∧ Below (w.heap.size + 1 + 1) (((w.alloc (.cells #[.string n, .slice a ts.length cap] 29)).alloc (.cells #[.string ByteArray.empty, .slice none 0 0] 29)).alloc (.cells #[.string n, .slice none 0 0] 29)) wr) (fun i _ => ts.length - (intOf i).toNat)
  case atStart =>
    refine ⟨0, [], .slice none 0 0, Nat.zero_le _, rfl, by rw [List.take_zero, Tm.css]; exact Gr.nil _ _ _ _, (box3 w _ _ _ _ _ _ 0).2.2, (box3 w _ _ _ _ _ _ 1).2.2, fun p => frz1 _ _ _ _ _ (by simp), by simp, Below.refl _ _⟩
  case round =>
    obtain ⟨k, F, v, hk, rfl, HG, y0, y1, y2, hz, hb⟩ := hrel
    have hbw : Below w.heap.size w wr := (((((Below.refl _ _).alloc (Nat.le_refl _) _).alloc (by simp) _).alloc (by simp; omega) _).trans (hb.mono (by omega)))
    have x0 : wr.cell? ⟨w.heap.size, 0, none⟩ = some (.string n) := (hb.cell (p := ⟨w.heap.size, 0, none⟩) (by simp; omega)).trans (box3 w _ _ _ _ _ _ 0).1
    have x1 : wr.cell? ⟨w.heap.size, 1, none⟩ = some (.slice a ts.length cap) := (hb.cell (p := ⟨w.heap.size, 1, none⟩) (by simp; omega)).trans (box3 w _ _ _ _ _ _ 1).1
    by_cases hlt : k < ts.length
    · have HGl := HG.ltF
      have hne : ts ≠ [] := by intro e; subst e; simp at hlt
      obtain ⟨b, off, rfl, hS, hbl, hrr⟩ := Tm.sd_get hs hne
      obtain ⟨c0, c1, q0, q1, q2⟩ := hrr k hlt
      replace q0 := (hbw.cell (p := ⟨b, off + k * 2, none⟩) hbl).trans q0
      replace q1 := (hbw.cell (p := ⟨b, off + k * 2 + 1, none⟩) hbl).trans q1
      replace q2 := Tm.at_keep (Keeps.all hbw) q2
      have hmem := h ts[k] (List.getElem_mem hlt)
      have hbk' := Tm.bulk_mem (List.getElem_mem hlt)
      obtain ⟨rfl, -, x, xc, rfl⟩ := Tm.at_form q2
      clear hrr
      have hv := HG.lt
      have hlb := hb.size
      simp only [World.size_alloc] at hlb
      have hbw2 : Below wr.heap.size wr wr.drew := (Below.refl _ _).drew
      go_wp2_with fail
      have hbne : b ≠ w.heap.size + 1 + 1 := by omega
      go_region_law (first
          | (refine step_append_gr (news := [.string ts[k].name, .slice a1 ts[k].args.length cap1]) (G := G) Try.underlying27 infoTerm rfl (by decide) (by decide) rfl _ _ (by rfl) (by rfl) (by rfl) (HG1.keep ((Below.refl _ _).alloc (Nat.le_refl _) _)) rfl (by intro j u hj; rw [box1]; simpa using hj) (by simp [Value.oneCell']) ((Tm.own_item (Tm.at_form q2).2.1 ho).keep (Keeps.all ((Below.refl _ _).alloc (Nat.le_refl _) _))) (fun x hx => by have := hG x hx; omega) (fun x hx hx' => by have := hG x hx'; have := HGl x hx; omega) (fun x hx hx' => by have := hG x hx'; have := (hv x hx).2; omega) (by omega) (by simp; omega) ?_
             intro g capg wg hg hgr hgo hglt
             have gc := fun (b' : Nat) (h' : b' < w.heap.size + 1 + 1 + 1) => grown_cell hgr (b := b') (by simp; omega) (fun x hx => by have := (hv x hx).1; omega)
             have y0g := ((gc (w.heap.size + 1 + 1) (by omega)).1 0).trans (cell_alloc y0' _)
             have y1g := ((gc (w.heap.size + 1 + 1) (by omega)).1 1).trans (cell_alloc y1' _)
             have y2g := fun p => ((gc (w.heap.size + 1 + 1) (by omega)).2 p).trans ((World.frozen?_alloc_past (w := w1) (.cells #[.string ts[k].name, .slice a1 ts[k].args.length cap1] 29) _ p (by omega)).trans (y2' p))
             have y2h := y2g 1
             clear gc)
          | (refine step_does rfl ?_
             unfold Does
             go_simp
             go_at_call 57
             refine (hmem _ _ _ _ (Tm.at_keep (Keeps.all hbw2) q2) (by omega)).mono ?_
             rintro e w1 ⟨v1, G, rfl, ho, hG, hb1⟩
             obtain ⟨a1, cap1, rfl⟩ := Tm.sd_own_form ho
             have z := bcell hb1
             simp only [World.size_drew, World.cell?_drew, World.frozen?_drew] at z hG
             have hb2 : Below wr.heap.size wr w1 := hbw2.trans (hb1.mono (by simp))
             have hzb := hb2.size
             have HG1 := HG.keep hb2
             have y0' := (z.1 (w.heap.size + 1 + 1) 0 (by omega)).trans y0
             have y1' := (z.1 (w.heap.size + 1 + 1) 1 (by omega)).trans y1
             have y2' := fun p => (z.2 (w.heap.size + 1 + 1) p (by omega)).trans (y2 p)
             have y1b := fun o => cell_alloc y1' o
             clear z
             refine ⟨_, rfl, ?_⟩))
      all_goals
        have hz1 : wg.heap.size ≥ w1.heap.size := by have := hgr.size; simp at this; omega
        have hb5 : Below (w.heap.size + 1 + 1) wr wg := below_grown ((hb2.mono (by omega)).trans (((Below.refl _ _).alloc (by omega) _))) hgr (by simp; omega) (fun x hx => by have := (hv x hx).1; omega)
        go_wp2_with fail
        go_roundw
        case rel =>
          refine ⟨k + 1, F ++ G, .slice (some ⟨g, 0, none⟩) (k + 1) capg, by omega, by go_num, ?_, ?_, ?_, ?_, ?_, ?_⟩
          · rw [Tm.css_take_succ ts k hlt, ← Tm.cs_eq]
            exact hg.setCell (by show w.heap.size + 1 + 1 < _; omega) _
          · rw [World.cell?_setCell_other _ _ _ _ (by intro e; injection e with _ e; omega)]; exact y0g
          · exact World.cell?_setCell_same _ _ _ y1g
          · intro p; rw [World.frozen?_setCell]; exact y2g p
          · rw [World.size_setCell]; omega
          · exact (hb.trans hb5).setCell (Nat.le_refl _) _
        case measure => simp [intOf]; omega
    · obtain rfl : k = ts.length := by omega
      rw [List.take_length] at HG
      obtain ⟨Gf, hO, hGf⟩ := HG.own (by decide)
      obtain ⟨a2, cap2, rfl⟩ := Tm.sd_own_form hO
      have r0 : wr.cell? ⟨w.heap.size + 1, 0, none⟩ = some (.string ByteArray.empty) := (hb.cell (p := ⟨w.heap.size + 1, 0, none⟩) (by simp)).trans (box3 w _ _ _ _ _ _ 0).2.1
      have r1 : wr.cell? ⟨w.heap.size + 1, 1, none⟩ = some (.slice none 0 0) := (hb.cell (p := ⟨w.heap.size + 1, 1, none⟩) (by simp)).trans (box3 w _ _ _ _ _ _ 1).2.1
      have f1 : ∀ p, wr.frozen? ⟨w.heap.size + 1, p, none⟩ = false := fun p => (hb.frozen (p := ⟨w.heap.size + 1, p, none⟩) (by simp)).trans ((World.frozen?_alloc_past _ _ p (by simp)).trans (World.frozen?_alloc_at _ _ _ p (by simp)))
      have f10 := f1 0
      have f11 := f1 1
      have hlb := hb.size
      simp only [World.size_alloc] at hlb
      go_wp2_with fail
      refine bodyPost_ret (v := .agg #[.string n, .slice a2 ts.length cap2]) (by simp [results, Try.results57, go_sem, r0, r1]) rfl ?_
      refine ⟨_, Gf, rfl, D.own_keep _ _ _ (((Keeps.refl _ _).set_lt hGf (by simp) _).set_lt hGf (by simp) _) hO, fun x hx => by have := hGf x hx; omega, ?_⟩
      exact (hbw.setCell (by simp) _).setCell (by simp) _
theorem ownT_any (t : Tm) : OwnT t := Tm.ind (fun n ts h => ownT_of n ts h) t
end Go.Proofs.Ytoblhgaohmfjeaa
