/- Lists of strings: how a law measures, copies and compares them. -/
import Derived.Test.YtgbfcaehijpgcaaDoorRows
import Derived.Test.YtgbfcaehijpgcaaDoorBr
import Derived.Test.YtgbfcaehijpgcaaDoorAf
import Derived.Test.YtgbfcaehijpgcaaDoorSe
import Derived.Test.YtgbfcaehijpgcaaDoorCh
import Derived.Test.YtgbfcaehijpgcaaDoorD
import Derived.Test.YtgbfcaehijpgcaaDoorReg
import Derived.WalkSpells
import Derived.WalkLawsBesides
namespace Go.Proofs.YtgbfcaehijpgcaaDoor
set_option maxRecDepth 100000
open Go.RowKit Go.ChangeShapes Go.WideShapes

def strSum : List ByteArray → Nat
  | [] => 0
  | s :: ss => s.size + strSum ss
def strBulk (ss : List ByteArray) : Nat := ss.length + strSum ss
theorem strSum_take : ∀ (ss : List ByteArray) (k : Nat) (hk : k < ss.length), strSum (ss.take (k + 1)) = strSum (ss.take k) + ss[k].size
  | [], k, hk => absurd hk (by simp)
  | t :: ts, 0, _ => by simp [strSum]
  | t :: ts, k + 1, hk => by
    have := strSum_take ts k (by simpa using hk)
    simp only [List.take_succ_cons, strSum, this, List.getElem_cons_succ]; omega
theorem strSum_le : ∀ (ss : List ByteArray) (k : Nat), strSum (ss.take k) ≤ strSum ss
  | [], k => by simp
  | t :: ts, 0 => by simp [strSum]
  | t :: ts, k + 1 => by
    have := strSum_le ts k
    simp only [List.take_succ_cons, strSum]; omega
theorem strSum_mem {ss : List ByteArray} {s : ByteArray} (h : s ∈ ss) : s.size ≤ strSum ss := by
  induction ss with
  | nil => cases h
  | cons a ss ih =>
    rw [strSum]
    rcases List.mem_cons.1 h with rfl | h
    · omega
    · have := ih h; omega

def MadeStr (ss : List ByteArray) (w : World) (e : Ending) (w' : World) : Prop := ∃ v F, e = .returned v ∧ D.own w' v (slOf strE ss) F ∧ (∀ x ∈ F, w.heap.size ≤ x) ∧ Below w.heap.size w w'
theorem infoStrS : (Tryd.prog.info? 9).map (fun i => (i.zero, i.size, i.bytes)) = some (some (.string ByteArray.empty), 1, 16) := by kernel_rfl
theorem strE_take (ss : List ByteArray) (k : Nat) (hk : k < ss.length) : (ss.take (k + 1)).flatMap strE = (ss.take k).flatMap strE ++ [.str ss[k]] := flat_take_succ ss k hk

/-- the value reads as the list -/
def IsSS (ss : List ByteArray) (v : Value) (w : World) : Prop := D.rd (fun _ => True) w v (slOf strE ss)
theorem IsSS.form {ss : List ByteArray} {v : Value} {w : World} (h : IsSS ss v w) : ∃ a cap, v = .slice a ss.length cap ∧ D.rd (fun _ => True) w (.slice a ss.length cap) (slOf strE ss) := by
  obtain ⟨a, cap, rfl, _, _⟩ := slOf_form h
  exact ⟨a, cap, rfl, h⟩
theorem IsSS.stable {ss : List ByteArray} {w : World} : ∀ v w1 w2, Below w.heap.size w w1 → Below w1.heap.size w1 w2 → IsSS ss v w1 → IsSS ss v w2 :=
  fun _ _ _ _ hb h => D.rd_keep (Keeps.all hb) _ _ h
theorem toList_yes {a b : ByteArray} (h : a = b) : (a.toList == b.toList) = true := by rw [h]; simp

set_option maxHeartbeats 400000 in
theorem eqStrS_any (ss us : List ByteArray) {S : Nat → Prop} {v u : Value} {w : World} (hr : D.rd S w v (slOf strE ss)) (hr' : D.rd S w u (slOf strE us)) : Calls Tryd.prog 16 #[v, u] w (Gives w (.bool (decide (ss = us)))) := by
  obtain ⟨a, cap, rfl, hlen, hcap⟩ := slOf_form hr
  obtain ⟨a', cap', rfl, hlen', hcap'⟩ := slOf_form hr'
  unfold big at hlen hlen'
  by_cases hll : ss.length = us.length
  · go_enter Tryd.func16, Tryd.ntmps16
    go_wp2_with fail
    go_loopw [5] (fun i wr => ∃ (k : Nat), k ≤ ss.length ∧ i = .int .i64 k ∧ Hid (ss.take k = us.take k) ∧ Below w.heap.size w wr) (fun i _ => ss.length - (intOf i).toNat)
    case atStart => exact ⟨0, Nat.zero_le _, rfl, by simp [Hid], Below.refl _ _⟩
    case round =>
      obtain ⟨k, hk, rfl, HX, hb⟩ := hrel
      by_cases hlt : k < ss.length
      · have hne : ss ≠ [] := by intro e; subst e; simp at hlt
        have hlt' : k < us.length := by omega
        have hne' : us ≠ [] := by intro e; subst e; simp at hlt'
        obtain ⟨b, off, rfl, hS, hbl, hrr⟩ := strs_get hr hne
        obtain ⟨b', off', rfl, hS', hbl', hrr'⟩ := strs_get hr' hne'
        obtain ⟨q0, -⟩ := hrr k hlt
        obtain ⟨r0, -⟩ := hrr' k hlt'
        replace q0 := (hb.cell (p := ⟨b, off + k, none⟩) hbl).trans q0
        replace r0 := (hb.cell (p := ⟨b', off' + k, none⟩) hbl').trans r0
        clear hr hrr hr' hrr'
        have hb0 : b < wr.heap.size := Nat.lt_of_lt_of_le hbl hb.size
        have hb0' : b' < wr.heap.size := Nat.lt_of_lt_of_le hbl' hb.size
        by_cases he : ss[k] = us[k]
        · have HZ : Hid (ss.take (k + 1) = us.take (k + 1)) := by rw [Hid, List.take_succ_eq_append_getElem hlt, List.take_succ_eq_append_getElem hlt', HX.out, he]
          have hq := toList_yes he
          clear he
          go_wp2_with fail
          refine wp_region_B [fun v _ => v = .slice (some ⟨b, off, none⟩) ss.length cap, fun v _ => v = .int .i64 k, fun v _ => v = .pointer (some ⟨b, off + k, none⟩), fun v _ => v = .string ss[k], fun v _ => v = .slice (some ⟨b', off', none⟩) us.length cap', fun v _ => v = .int .i64 k, fun v _ => v = .pointer (some ⟨b', off' + k, none⟩), fun v _ => v = .string us[k], fun v _ => v = .bool false] _ (fun V => by simp [putAll, Act.put]; rfl) (by kernel_rfl) (by decide) (by simp) (by kernel_rfl) ?_ ?_ ?_
          · intro F hF
            simp only [List.mem_cons, List.not_mem_nil, or_false] at hF
            rcases hF with rfl | rfl | rfl | rfl | rfl | rfl | rfl | rfl | rfl
            · exact stable_eq
            · exact stable_eq
            · exact stable_eq
            · exact stable_eq
            · exact stable_eq
            · exact stable_eq
            · exact stable_eq
            · exact stable_eq
            · exact stable_eq
          · refine ⟨?_, ?_, ?_, ?_, ?_, ?_, ?_, ?_, ?_, trivial⟩
            · intro V w1 hbR _
              unfold Does
              go_simp
              exact ⟨Below.refl _ _, rfl⟩
            · intro V w1 hbR _
              unfold Does
              go_simp
              exact ⟨Below.refl _ _, rfl⟩
            · intro V w1 hbR ⟨f0, f1, _⟩
              replace f0 : V 0 = .slice (some ⟨b, off, none⟩) ss.length cap := f0
              replace f1 : V 1 = .int .i64 k := f1
              unfold Does
              go_simp
              exact ⟨Below.refl _ _, rfl⟩
            · intro V w1 hbR ⟨f2, _⟩
              replace f2 : V 2 = .pointer (some ⟨b, off + k, none⟩) := f2
              obtain ⟨hc, hf⟩ := bcell hbR
              try simp only [World.size_alloc, World.size_setCell] at hc hf
              unfold Does
              go_simp
              exact ⟨Below.refl _ _, rfl⟩
            · intro V w1 hbR _
              unfold Does
              go_simp
              exact ⟨Below.refl _ _, rfl⟩
            · intro V w1 hbR _
              unfold Does
              go_simp
              exact ⟨Below.refl _ _, rfl⟩
            · intro V w1 hbR ⟨f4, f5, _⟩
              replace f4 : V 4 = .slice (some ⟨b', off', none⟩) us.length cap' := f4
              replace f5 : V 5 = .int .i64 k := f5
              unfold Does
              go_simp
              exact ⟨Below.refl _ _, rfl⟩
            · intro V w1 hbR ⟨f6, _⟩
              replace f6 : V 6 = .pointer (some ⟨b', off' + k, none⟩) := f6
              obtain ⟨hc, hf⟩ := bcell hbR
              try simp only [World.size_alloc, World.size_setCell] at hc hf
              unfold Does
              go_simp
              exact ⟨Below.refl _ _, rfl⟩
            · intro V w1 hbR ⟨f3, f7, _⟩
              replace f3 : V 3 = .string ss[k] := f3
              replace f7 : V 7 = .string us[k] := f7
              unfold Does
              go_simp
              exact ⟨Below.refl _ _, rfl⟩
          intro V w3 hbR hfR
          obtain ⟨f0, f1, f2, f3, f4, f5, f6, f7, f8, _⟩ := hfR
          replace f0 : V 0 = .slice (some ⟨b, off, none⟩) ss.length cap := f0
          replace f1 : V 1 = .int .i64 k := f1
          replace f2 : V 2 = .pointer (some ⟨b, off + k, none⟩) := f2
          replace f3 : V 3 = .string ss[k] := f3
          replace f4 : V 4 = .slice (some ⟨b', off', none⟩) us.length cap' := f4
          replace f5 : V 5 = .int .i64 k := f5
          replace f6 : V 6 = .pointer (some ⟨b', off' + k, none⟩) := f6
          replace f7 : V 7 = .string us[k] := f7
          replace f8 : V 8 = .bool false := f8
          simp only [f0, f1, f2, f3, f4, f5, f6, f7, f8]
          clear f0 f1 f2 f3 f4 f5 f6 f7 f8
          go_wp2_with fail
          go_roundw
          case rel => exact ⟨k + 1, by omega, by go_num, HZ, hb.trans (hbR.mono hb.size)⟩
          case measure => simp [intOf]; omega
        · have HZ : Hid (decide (ss = us) = false) := by rw [Hid, decide_eq_false_iff_not]; intro e; subst e; exact he rfl
          have hq := toList_ne he
          clear he
          go_wp2_with fail
          refine wp_region_B [fun v _ => v = .slice (some ⟨b, off, none⟩) ss.length cap, fun v _ => v = .int .i64 k, fun v _ => v = .pointer (some ⟨b, off + k, none⟩), fun v _ => v = .string ss[k], fun v _ => v = .slice (some ⟨b', off', none⟩) us.length cap', fun v _ => v = .int .i64 k, fun v _ => v = .pointer (some ⟨b', off' + k, none⟩), fun v _ => v = .string us[k], fun v _ => v = .bool true] _ (fun V => by simp [putAll, Act.put]; rfl) (by kernel_rfl) (by decide) (by simp) (by kernel_rfl) ?_ ?_ ?_
          · intro F hF
            simp only [List.mem_cons, List.not_mem_nil, or_false] at hF
            rcases hF with rfl | rfl | rfl | rfl | rfl | rfl | rfl | rfl | rfl
            · exact stable_eq
            · exact stable_eq
            · exact stable_eq
            · exact stable_eq
            · exact stable_eq
            · exact stable_eq
            · exact stable_eq
            · exact stable_eq
            · exact stable_eq
          · refine ⟨?_, ?_, ?_, ?_, ?_, ?_, ?_, ?_, ?_, trivial⟩
            · intro V w1 hbR _
              unfold Does
              go_simp
              exact ⟨Below.refl _ _, rfl⟩
            · intro V w1 hbR _
              unfold Does
              go_simp
              exact ⟨Below.refl _ _, rfl⟩
            · intro V w1 hbR ⟨f0, f1, _⟩
              replace f0 : V 0 = .slice (some ⟨b, off, none⟩) ss.length cap := f0
              replace f1 : V 1 = .int .i64 k := f1
              unfold Does
              go_simp
              exact ⟨Below.refl _ _, rfl⟩
            · intro V w1 hbR ⟨f2, _⟩
              replace f2 : V 2 = .pointer (some ⟨b, off + k, none⟩) := f2
              obtain ⟨hc, hf⟩ := bcell hbR
              try simp only [World.size_alloc, World.size_setCell] at hc hf
              unfold Does
              go_simp
              exact ⟨Below.refl _ _, rfl⟩
            · intro V w1 hbR _
              unfold Does
              go_simp
              exact ⟨Below.refl _ _, rfl⟩
            · intro V w1 hbR _
              unfold Does
              go_simp
              exact ⟨Below.refl _ _, rfl⟩
            · intro V w1 hbR ⟨f4, f5, _⟩
              replace f4 : V 4 = .slice (some ⟨b', off', none⟩) us.length cap' := f4
              replace f5 : V 5 = .int .i64 k := f5
              unfold Does
              go_simp
              exact ⟨Below.refl _ _, rfl⟩
            · intro V w1 hbR ⟨f6, _⟩
              replace f6 : V 6 = .pointer (some ⟨b', off' + k, none⟩) := f6
              obtain ⟨hc, hf⟩ := bcell hbR
              try simp only [World.size_alloc, World.size_setCell] at hc hf
              unfold Does
              go_simp
              exact ⟨Below.refl _ _, rfl⟩
            · intro V w1 hbR ⟨f3, f7, _⟩
              replace f3 : V 3 = .string ss[k] := f3
              replace f7 : V 7 = .string us[k] := f7
              unfold Does
              go_simp
              exact ⟨Below.refl _ _, rfl⟩
          intro V w3 hbR hfR
          obtain ⟨f0, f1, f2, f3, f4, f5, f6, f7, f8, _⟩ := hfR
          replace f0 : V 0 = .slice (some ⟨b, off, none⟩) ss.length cap := f0
          replace f1 : V 1 = .int .i64 k := f1
          replace f2 : V 2 = .pointer (some ⟨b, off + k, none⟩) := f2
          replace f3 : V 3 = .string ss[k] := f3
          replace f4 : V 4 = .slice (some ⟨b', off', none⟩) us.length cap' := f4
          replace f5 : V 5 = .int .i64 k := f5
          replace f6 : V 6 = .pointer (some ⟨b', off' + k, none⟩) := f6
          replace f7 : V 7 = .string us[k] := f7
          replace f8 : V 8 = .bool true := f8
          simp only [f0, f1, f2, f3, f4, f5, f6, f7, f8]
          clear f0 f1 f2 f3 f4 f5 f6 f7 f8
          go_wp2_with fail
          go_ret
          exact Gives.mk (ret_bool HZ.out.symm) (hb.trans (hbR.mono hb.size))
      · obtain rfl : k = ss.length := by omega
        have HY : Hid (decide (ss = us) = true) := by
          have := HX.out
          rw [List.take_length, hll, List.take_length] at this
          rw [Hid, decide_eq_true_eq]; exact this
        go_wp2_with fail
        go_ret
        exact Gives.mk (ret_bool HY.out.symm) hb
  · have HY : Hid (decide (ss = us) = false) := by rw [Hid, decide_eq_false_iff_not]; intro e; exact hll (by rw [e])
    go_enter Tryd.func16, Tryd.ntmps16
    go_wp2_with fail
    go_ret
    exact Gives.mk (ret_bool HY.out.symm) (Below.refl _ _)
theorem eqStrS_refl {ss : List ByteArray} {S : Nat → Prop} {v u : Value} {w : World} (hr : D.rd S w v (slOf strE ss)) (hr' : D.rd S w u (slOf strE ss)) : Calls Tryd.prog 16 #[v, u] w (Gives w (.bool true)) := by
  have := eqStrS_any ss ss hr hr'
  rwa [show decide (ss = ss) = true by simp] at this
theorem cellsStr1 : Tryd.prog.cellsOf 9 = 1 := by kernel_rfl
section
variable {H : Type} {enc' : TypeId × Value → H} {w : World}
theorem read_str : ∀ (fuel : Nat) (cs : List Value) (x : DataW H × List MemPlace), DataW.trod enc' Tryd.prog w 0 (fun _ => true) true fuel 9 cs = some x → ∃ s : ByteArray, CellsRd (fun _ => True) w cs (strE s) := by
  intro fuel cs x h
  obtain ⟨s, hs, -, hsz⟩ := DataW.trod_string Tryd.underlying9 h
  subst hs
  exact ⟨s, D.rd_str hsz, trivial⟩
theorem open_StringS {r : Reach} {b0 : Nat} {v : Value} {d : DataW H} {p : List MemPlace} (hv : Value.okWide Tryd.prog w r b0 25 v) (h : DataW.Trod enc' Tryd.prog w 0 (fun _ => true) true 25 v d p) :
    ∃ ss, D.rd (fun _ => True) w v (slOf strE ss) := by
  obtain ⟨a, len, cap, rfl⟩ := okWide_slice Tryd.underlying25 hv
  obtain ⟨fuel, hf⟩ := h
  obtain ⟨u, ss, hu, hr⟩ := open_slOf strE_wide (by decide) Tryd.underlying25 cellsStr1 (fun m cs' x' _ hx => read_str m cs' x' hx) hf
  obtain rfl : Value.slice a len cap = u := by simpa [Value.cells] using hu
  exact ⟨ss, hr⟩
end
end Go.Proofs.YtgbfcaehijpgcaaDoor
