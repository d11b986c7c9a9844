/- Names are sorted; the variables of a term. -/
import Derived.Test.YtominpdaipaioaaVo
import Derived.Test.YtominpdaipaioaaShelf
import Derived.Sort.OwnSorted
import Derived.Test.YtominpdaipaioaaOi
namespace Go.Proofs.Ytominpdaipaioaa
set_option maxRecDepth 100000
open Go.RowKit Go.Sort

theorem enc_tl (s : ByteArray) : encStr (tl s) = .string s := by cases s; rfl
theorem enc_map (ss : List ByteArray) : (ss.map tl).map encStr = ss.map Value.string := by
  rw [List.map_map]
  exact List.map_congr_left fun s _ => enc_tl s
theorem sort_strs {ss ts : List ByteArray} {g cap B : Nat} {w : World} (h : GS w B (.slice (some ⟨g, 0, none⟩) ss.length cap) ss) (hn : ss.length ≤ 1073741824) (hs : (ss.map tl).mergeSort (fun x y => decide (x ≤ y)) = ts.map tl) :
    Calls Try.prog 93 #[.slice (some ⟨g, 0, none⟩) ss.length cap] w fun e w' => e = .returned (.tuple #[]) ∧ GS w' B (.slice (some ⟨g, 0, none⟩) ss.length cap) ts ∧ w.grownBy w' (some g) := by
  have hr := h.row
  have hmx := hr.2
  have hl : ts.length = ss.length := by
    have := congrArg List.length hs
    simpa using this.symm
  rcases hr.1.2 with ⟨h0, _⟩ | ⟨g', cap', cur, h0, hbase, hb, h1, h2, h3, h4⟩
  · cases h0
  · injection h0 with h0 _ h5
    injection h0 with h0
    injection h0 with h0
    subst h0 h5
    have hH : Holds encStr w g 0 (ss.map tl).toArray := holds_of_block hb (by rw [enc_map]; simpa using h4)
    have hq := Try.slices_Sort_string g 0 cap (ss.map tl) w hH (lt_of_heap hb) (by simp; omega)
    rw [List.length_map] at hq
    refine hq.mono ?_
    rintro e w' ⟨rfl, n, os, rfl⟩
    rw [hs]
    refine ⟨rfl, GS.of_row ⟨?_, fun s q => ?_⟩, grownBy_sorted _⟩
    · have := ownsRow_sorted (w := w) (n := n) (os := os) (ss := ss.map tl) (ts := ts.map tl) (by simp [hl]) hbase hb (by simpa using h1) h2 h3
      rw [enc_map, List.length_map] at this
      rw [hl]
      exact this
    · have hp := List.mergeSort_perm (ss.map tl) (fun x y => decide (x ≤ y))
      rw [hs] at hp
      have : tl s ∈ ss.map tl := hp.mem_iff.1 (List.mem_map_of_mem q)
      obtain ⟨s', q1, q2⟩ := List.mem_map.1 this
      rw [← tl_inj q2]
      exact hmx s' q1

theorem GS.addr {w : World} {B : Nat} {v : Value} {zs : List ByteArray} (h : GS w B v zs) (hne : v ≠ .slice none 0 0) : ∃ b c, v = .slice (some ⟨b, 0, none⟩) zs.length c := by
  obtain ⟨vs, h0, _⟩ := h
  rcases h0.2 with ⟨h1, _⟩ | ⟨g, cap, cur, h1, _⟩
  · exact absurd h1 hne
  · exact ⟨g, cap, h1⟩
/-- the variables of a term -/
def varsOf (t : Tm) : List ByteArray := Tm.into t []
theorem varsOf_length (t : Tm) : (varsOf t).length ≤ t.bulk + 1 := by
  have := Tm.into_length t []
  have := Tm.size_bulk t
  unfold varsOf
  simp at *; omega
theorem coll_len {t : Tm} (h : t.leafy) : (t.coll []).length = (varsOf t).length := by
  have := congrArg List.length (vars_sorted h)
  simpa [varsOf] using this
/-- strings that the call owns -/
def MadeSS (ss : List ByteArray) (w : World) (e : Ending) (w' : World) : Prop := ∃ v F, e = .returned v ∧ D.own w' v (slOf strE ss) F ∧ (∀ x ∈ F, w.heap.size ≤ x) ∧ Below w.heap.size w w'
set_option maxHeartbeats 2000000 in
theorem variables_any (t : Tm) {S : Nat → Prop} {c0 c1 : Value} {w : World} (ht : Tm.at S w c0 c1 t) (hbk : t.bulk ≤ 1048576) (hni : t.nice = true) (hlf : t.leafy) : Calls Try.prog 115 #[.agg #[c0, c1]] w (MadeSS (varsOf t) w) := by
  have hsb := Tm.size_bulk t
  obtain ⟨cs, Hcs⟩ : ∃ cs, Hid (t.coll [] = cs) := ⟨_, hid rfl⟩
  obtain ⟨vs, Hvs⟩ : ∃ vs, Hid (varsOf t = vs) := ⟨_, hid rfl⟩
  have HL : Hid ((cs.map tl).mergeSort (fun x y => decide (x ≤ y)) = vs.map tl) := by rw [← Hcs.out, ← Hvs.out]; exact vars_sorted hlf
  have HC : Hid (cs.length = vs.length) := by rw [← Hcs.out, ← Hvs.out]; exact coll_len hlf
  have hcl := Tm.coll_length t []
  simp only [List.length_nil, Nat.zero_add] at hcl
  rw [Hcs.out] at hcl
  rw [Hvs.out]
  have ht0 := Tm.at_lt ht
  obtain ⟨rfl, tn, ta, tc, rfl⟩ := Tm.at_form ht
  have hW : Below w.heap.size w (w.alloc (.cells #[.string t.name, .slice ta t.args.length tc] 29)) := (Below.refl _ _).alloc (Nat.le_refl _) _
  have bt : Box (w.alloc (.cells #[.string t.name, .slice ta t.args.length tc] 29)) (w.heap.size) [.string t.name, .slice ta t.args.length tc] := by
    have := (Box.new w [.string t.name, .slice ta t.args.length tc] 29)
    simpa only [World.size_alloc] using this
  replace ht := Tm.at_keep (Keeps.all hW) ht
  have et0 := bt.c0
  have et1 := bt.c1
  have lt := bt.lt
  go_enter Try.func115, Try.ntmps115
  go_wp2_with fail
  clear et0 et1 lt
  have Hw0 : Hid ((w.alloc (.cells #[.string t.name, .slice ta t.args.length tc] 29)).heap.size = w.heap.size + 1) := by simp [Hid]
  generalize (w.alloc (.cells #[.string t.name, .slice ta t.args.length tc] 29)) = w0 at *
  have hA : Below w0.heap.size w0 (w0.alloc (.cells #[] 9)) := (Below.refl _ _).alloc (Nat.le_refl _) _
  have hq := collIs_any t [] _ w.heap.size _ _ _ _ ((GS.made (w := w0) (n := w.heap.size + 1) Hw0.out.symm (Nat.le_refl _)).mono hW.size) (by rw [World.size_alloc]; have := hW.size; omega) (Tm.at_keep (Keeps.all (hW.trans (hA.mono hW.size))) ht0) (fun x hx => hx) hni hbk (by simp; omega)
  rw [Hcs.out] at hq
  refine hq.mono ?_
  rintro e w1 ⟨v1, rfl, hg1, hgr1, hgo1, hn1⟩
  have hb1 : Below w.heap.size w w1 := below_grown (hW.trans (hA.mono hW.size)) hgr1 (by rw [World.size_alloc]; have := hW.size; omega) (fun x hx => by have hx' : w.heap.size + 1 = x := Option.some.inj hx; omega)
  obtain ⟨g, cap, rfl⟩ := hg1.addr (hn1 (by intro e; cases e))
  have hgl := hg1.lt g rfl
  have hs := sort_strs (ts := vs) hg1 (by omega) HL.out
  rw [HC.out] at hs hg1 ⊢
  clear hq
  go_wp2_with fail
  refine hs.mono ?_
  rintro e w2 ⟨rfl, hg2, hgr2⟩
  have hb2 : Below w.heap.size w w2 := Below.grown hb1 hgr2 hb1.size (fun k hk => by injection hk with hk; omega)
  clear hs
  go_wp2_with fail
  go_ret
  obtain ⟨F, ho, hF⟩ := hg2.own
  exact ⟨_, F, rfl, ho, hF, hb2⟩

def tvR (t : Tm) : List ByteArray := if t.expr = true then varsOf t else []
theorem tvR_length (t : Tm) (h : t.bulk ≤ 1048576) : (tvR t).length ≤ 2097152 := by
  unfold tvR
  split
  · have := varsOf_length t; omega
  · simp
theorem rd_strs_nil {w : World} {a : Option Addr} {c : Nat} : D.rd (fun _ => True) w (.slice a 0 c) (slOf strE []) := by
  rw [slOf, D.rd]
  exact ⟨_, _, rfl, by simp, by simp, by simp, by simp⟩
end Go.Proofs.Ytominpdaipaioaa
