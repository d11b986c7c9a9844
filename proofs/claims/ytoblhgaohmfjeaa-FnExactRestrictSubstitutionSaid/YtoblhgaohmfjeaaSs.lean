/- Lists of strings: how a law measures, copies and compares them. -/
import Derived.Test.YtoblhgaohmfjeaaRows
import Derived.Test.YtoblhgaohmfjeaaBr
import Derived.Test.YtoblhgaohmfjeaaSz
import Derived.Test.YtoblhgaohmfjeaaSe
import Derived.Test.YtoblhgaohmfjeaaCh
import Derived.Test.YtoblhgaohmfjeaaD
import Derived.Test.YtoblhgaohmfjeaaReg
import Derived.WalkSpells
import Derived.WalkLawsBesides
namespace Go.Proofs.Ytoblhgaohmfjeaa
set_option maxRecDepth 100000
open Go.RowKit Go.ChangeShapes Go.WideShapes

def strSum : List ByteArray → Nat
  | [] => 0
  | s :: ss => s.size + strSum ss
def strBulk (ss : List ByteArray) : Nat := ss.length + strSum ss
theorem strSum_take : ∀ (ss : List ByteArray) (k : Nat) (hk : k < ss.length), strSum (ss.take (k + 1)) = strSum (ss.take k) + ss[k].size
  | [], k, hk => absurd hk (by simp)
  | t :: ts, 0, _ => by simp [strSum]
  | t :: ts, k + 1, hk => by
    have := strSum_take ts k (by simpa using hk)
    simp only [List.take_succ_cons, strSum, this, List.getElem_cons_succ]; omega
theorem strSum_le : ∀ (ss : List ByteArray) (k : Nat), strSum (ss.take k) ≤ strSum ss
  | [], k => by simp
  | t :: ts, 0 => by simp [strSum]
  | t :: ts, k + 1 => by
    have := strSum_le ts k
    simp only [List.take_succ_cons, strSum]; omega
theorem strSum_mem {ss : List ByteArray} {s : ByteArray} (h : s ∈ ss) : s.size ≤ strSum ss := by
  induction ss with
  | nil => cases h
  | cons a ss ih =>
    rw [strSum]
    rcases List.mem_cons.1 h with rfl | h
    · omega
    · have := ih h; omega

set_option maxHeartbeats 400000 in
theorem szStrS_any (ss : List ByteArray) {S : Nat → Prop} {v : Value} {left : Int} {w : World} (hr : D.rd S w v (slOf strE ss)) (h0 : 0 ≤ left) (h1 : left ≤ 1048576) :
    Calls Try.prog 16 #[v, .int .i64 left] w fun e w' => e = .returned (.int .i64 (after (strBulk ss) left)) ∧ Below w.heap.size w w' := by
  obtain ⟨a, cap, rfl, hlen, hcap⟩ := slOf_form hr
  unfold big at hlen
  have HB : Hid (strBulk ss = ss.length + strSum ss) := hid rfl
  by_cases hl : left < ss.length
  · have HX := hid (after_neg (n := strBulk ss) (left := left) (by rw [HB.out]; omega))
    go_enter Try.func16, Try.ntmps16
    go_wp2_with fail
    go_ret
    exact ⟨ret_i64 HX.out.symm, Below.refl _ _⟩
  · go_enter Try.func16, Try.ntmps16
    go_wp2_with fail
    go_loopw [1, 5] (fun l i wr => ∃ (k : Nat) (x : Int), k ≤ ss.length ∧ i = .int .i64 k ∧ l = .int .i64 x ∧ 0 ≤ x ∧ x ≤ 1048576 ∧ Hid (x = left - (ss.length + strSum (ss.take k) : Nat)) ∧ Below w.heap.size w wr) (fun _ i _ => ss.length - (intOf i).toNat)
    case atStart => exact ⟨0, _, Nat.zero_le _, rfl, rfl, by omega, by omega, by simp [Hid, strSum], Below.refl _ _⟩
    case round =>
      obtain ⟨k, x, hk, rfl, rfl, hx0, hx1, HX, hb⟩ := hrel
      by_cases hlt : k < ss.length
      · have hne : ss ≠ [] := by intro e; subst e; simp at hlt
        obtain ⟨b, off, rfl, hS, hbl, hrr⟩ := strs_get hr hne
        obtain ⟨q0, q1⟩ := hrr k hlt
        replace q0 := (hb.cell (p := ⟨b, off + k, none⟩) hbl).trans q0
        have hst := hid (strSum_take ss k hlt)
        have hsl := hid (strSum_le ss (k + 1))
        unfold maxLen at q1
        clear hr hrr
        by_cases hl2 : x < ss[k].size
        · have HZ : Hid (after (strBulk ss) left = -1) := after_neg (by have := HX.out; have := hst.out; have := hsl.out; have := HB.out; omega)
          go_wp2_with fail
          go_ret
          exact ⟨ret_i64 HZ.out.symm, hb⟩
        · have HZ : Hid (x - (ss[k].size : Nat) = left - (ss.length + strSum (ss.take (k + 1)) : Nat)) := by
            have := HX.out; have := hst.out; show (_ : Int) = _; omega
          go_wp2_with fail
          go_roundw
          case rel => exact ⟨k + 1, _, by omega, by go_num, rfl, by omega, by omega, HZ, hb⟩
          case measure => simp [intOf]; omega
      · obtain rfl : k = ss.length := by omega
        have HY : Hid (x = after (strBulk ss) left) := by
          have h := HX.out
          rw [List.take_length] at h
          rw [after_pos (by rw [HB.out]; omega)]; exact h
        go_wp2_with fail
        go_ret
        exact ⟨ret_i64 HY.out, hb⟩
def MadeStr (ss : List ByteArray) (w : World) (e : Ending) (w' : World) : Prop := ∃ v F, e = .returned v ∧ D.own w' v (slOf strE ss) F ∧ (∀ x ∈ F, w.heap.size ≤ x) ∧ Below w.heap.size w w'
theorem infoStrS : (Try.prog.info? 9).map (fun i => (i.zero, i.size, i.bytes)) = some (some (.string ByteArray.empty), 1, 16) := by kernel_rfl
theorem strE_take (ss : List ByteArray) (k : Nat) (hk : k < ss.length) : (ss.take (k + 1)).flatMap strE = (ss.take k).flatMap strE ++ [.str ss[k]] := flat_take_succ ss k hk

set_option maxHeartbeats 400000 in
theorem toStrS_any (ss : List ByteArray) {S : Nat → Prop} {v : Value} {w : World} (hr : D.rd S w v (slOf strE ss)) (hbk : strBulk ss ≤ 1048576) : Calls Try.prog 19 #[v] w (MadeStr ss w) := by
  obtain ⟨a, cap, rfl, hlen, hcap⟩ := slOf_form hr
  rw [strBulk] at hbk
  have hmk := run_mk (P := Try.prog) Try.underlying42 infoStrS ss.length (by omega) hlen
  unfold big at hlen
  go_enter Try.func19, Try.ntmps19
  go_wp2_with fail
  go_loopw [4] (fun i wr => ∃ (k : Nat), k ≤ ss.length ∧ i = .int .i64 k ∧ Filled wr w.heap.size 9 (ss.length * 1) ((ss.take k).flatMap strE) [] ∧ Below w.heap.size w wr) (fun i _ => ss.length - (intOf i).toNat)
  case atStart =>
    refine ⟨0, Nat.zero_le _, rfl, ?_, (Below.refl _ _).alloc (Nat.le_refl _) _⟩
    have := Filled.made w (madeCells #[Value.string ByteArray.empty] (ss.length * 1)) 9
    rw [size_madeCells] at this
    simpa using this
  case round =>
    obtain ⟨k, hk, rfl, hfl, hb⟩ := hrel
    by_cases hlt : k < ss.length
    · have hne : ss ≠ [] := by intro e; subst e; simp at hlt
      obtain ⟨b, off, rfl, hS, hbl, hrr⟩ := strs_get hr hne
      obtain ⟨q0, q1⟩ := hrr k hlt
      replace q0 := (hb.cell (p := ⟨b, off + k, none⟩) hbl).trans q0
      obtain ⟨x0, hx0⟩ := hfl.cell (p := k) (by omega)
      have hf0 := hfl.free k
      clear hr hrr
      go_wp2_with fail
      go_roundw
      case rel =>
        refine ⟨k + 1, by omega, by go_num, ?_, hb.setCell (Nat.le_refl _) _⟩
        rw [strE_take ss k hlt]
        have hl : ((ss.take k).flatMap strE).length = k := by rw [flat_length strE_wide, List.length_take]; omega
        have s1 := hfl.set (v := .string ss[k]) (G := []) hl.symm (by omega) (D.own_str q1) (by simp) (by simp)
        simpa using s1
      case measure => simp [intOf]; omega
    · obtain rfl : k = ss.length := by omega
      go_wp2_with fail
      go_ret
      rw [List.take_length] at hfl
      by_cases hne : ss = []
      · subst hne
        exact ⟨_, [], rfl, D.own_nil _ _, by simp, hb⟩
      · exact ⟨_, _ :: [], rfl, hfl.own (flat_ne strE_wide (by decide) hne) (by unfold big; omega) (Nat.le_refl _), fun x hx => by simp at hx; subst hx; exact Nat.le_refl _, hb⟩
/-- the value reads as the list -/
def IsSS (ss : List ByteArray) (v : Value) (w : World) : Prop := D.rd (fun _ => True) w v (slOf strE ss)
theorem IsSS.form {ss : List ByteArray} {v : Value} {w : World} (h : IsSS ss v w) : ∃ a cap, v = .slice a ss.length cap ∧ D.rd (fun _ => True) w (.slice a ss.length cap) (slOf strE ss) := by
  obtain ⟨a, cap, rfl, _, _⟩ := slOf_form h
  exact ⟨a, cap, rfl, h⟩
theorem IsSS.stable {ss : List ByteArray} {w : World} : ∀ v w1 w2, Below w.heap.size w w1 → Below w1.heap.size w1 w2 → IsSS ss v w1 → IsSS ss v w2 :=
  fun _ _ _ _ hb h => D.rd_keep (Keeps.all hb) _ _ h
theorem toStrS_is {ss : List ByteArray} {S : Nat → Prop} {v : Value} {w : World} (h : D.rd S w v (slOf strE ss)) (hb : strBulk ss ≤ 1048576) : Calls Try.prog 19 #[v] w (Yields w (IsSS ss)) :=
  (toStrS_any ss h hb).mono fun _ _ ⟨_, _, he, ho, _, hbl⟩ => ⟨_, he, hbl, D.rd_mono (fun _ _ => trivial) _ _ (D.own_rd _ _ _ ho)⟩
theorem toList_yes {a b : ByteArray} (h : a = b) : (a.toList == b.toList) = true := by rw [h]; simp

set_option maxHeartbeats 400000 in
theorem eqStrS_any (ss us : List ByteArray) {S : Nat → Prop} {v u : Value} {w : World} (hr : D.rd S w v (slOf strE ss)) (hr' : D.rd S w u (slOf strE us)) : Calls Try.prog 22 #[v, u] w (Gives w (.bool (decide (ss = us)))) := by
  obtain ⟨a, cap, rfl, hlen, hcap⟩ := slOf_form hr
  obtain ⟨a', cap', rfl, hlen', hcap'⟩ := slOf_form hr'
  unfold big at hlen hlen'
  by_cases hll : ss.length = us.length
  · go_enter Try.func22, Try.ntmps22
    go_wp2_with fail
    go_loopw [5] (fun i wr => ∃ (k : Nat), k ≤ ss.length ∧ i = .int .i64 k ∧ Hid (ss.take k = us.take k) ∧ Below w.heap.size w wr) (fun i _ => ss.length - (intOf i).toNat)
    case atStart => exact ⟨0, Nat.zero_le _, rfl, by simp [Hid], Below.refl _ _⟩
    case round =>
      obtain ⟨k, hk, rfl, HX, hb⟩ := hrel
      by_cases hlt : k < ss.length
      · have hne : ss ≠ [] := by intro e; subst e; simp at hlt
        have hlt' : k < us.length := by omega
        have hne' : us ≠ [] := by intro e; subst e; simp at hlt'
        obtain ⟨b, off, rfl, hS, hbl, hrr⟩ := strs_get hr hne
        obtain ⟨b', off', rfl, hS', hbl', hrr'⟩ := strs_get hr' hne'
        obtain ⟨q0, -⟩ := hrr k hlt
        obtain ⟨r0, -⟩ := hrr' k hlt'
        replace q0 := (hb.cell (p := ⟨b, off + k, none⟩) hbl).trans q0
        replace r0 := (hb.cell (p := ⟨b', off' + k, none⟩) hbl').trans r0
        clear hr hrr hr' hrr'
        have hb0 : b < wr.heap.size := Nat.lt_of_lt_of_le hbl hb.size
        have hb0' : b' < wr.heap.size := Nat.lt_of_lt_of_le hbl' hb.size
        by_cases he : ss[k] = us[k]
        · have HZ : Hid (ss.take (k + 1) = us.take (k + 1)) := by rw [Hid, List.take_succ_eq_append_getElem hlt, List.take_succ_eq_append_getElem hlt', HX.out, he]
          have hq := toList_yes he
          clear he
          go_wp2_with fail
          refine wp_region_B [fun v _ => v = .slice (some ⟨b, off, none⟩) ss.length cap, fun v _ => v = .int .i64 k, fun v _ => v = .pointer (some ⟨b, off + k, none⟩), fun v _ => v = .string ss[k], fun v _ => v = .slice (some ⟨b', off', none⟩) us.length cap', fun v _ => v = .int .i64 k, fun v _ => v = .pointer (some ⟨b', off' + k, none⟩), fun v _ => v = .string us[k], fun v _ => v = .bool false] _ (fun V => by simp [putAll, Act.put]; rfl) (by kernel_rfl) (by decide) (by simp) (by kernel_rfl) ?_ ?_ ?_
          · intro F hF
            simp only [List.mem_cons, List.not_mem_nil, or_false] at hF
            rcases hF with rfl | rfl | rfl | rfl | rfl | rfl | rfl | rfl | rfl
            · exact stable_eq
            · exact stable_eq
            · exact stable_eq
            · exact stable_eq
            · exact stable_eq
            · exact stable_eq
            · exact stable_eq
            · exact stable_eq
            · exact stable_eq
          · refine ⟨?_, ?_, ?_, ?_, ?_, ?_, ?_, ?_, ?_, trivial⟩
            · intro V w1 hbR _
              unfold Does
              go_simp
              exact ⟨Below.refl _ _, rfl⟩
            · intro V w1 hbR _
              unfold Does
              go_simp
              exact ⟨Below.refl _ _, rfl⟩
            · intro V w1 hbR ⟨f0, f1, _⟩
              replace f0 : V 0 = .slice (some ⟨b, off, none⟩) ss.length cap := f0
              replace f1 : V 1 = .int .i64 k := f1
              unfold Does
              go_simp
              exact ⟨Below.refl _ _, rfl⟩
            · intro V w1 hbR ⟨f2, _⟩
              replace f2 : V 2 = .pointer (some ⟨b, off + k, none⟩) := f2
              obtain ⟨hc, hf⟩ := bcell hbR
              try simp only [World.size_alloc, World.size_setCell] at hc hf
              unfold Does
              go_simp
              exact ⟨Below.refl _ _, rfl⟩
            · intro V w1 hbR _
              unfold Does
              go_simp
              exact ⟨Below.refl _ _, rfl⟩
            · intro V w1 hbR _
              unfold Does
              go_simp
              exact ⟨Below.refl _ _, rfl⟩
            · intro V w1 hbR ⟨f4, f5, _⟩
              replace f4 : V 4 = .slice (some ⟨b', off', none⟩) us.length cap' := f4
              replace f5 : V 5 = .int .i64 k := f5
              unfold Does
              go_simp
              exact ⟨Below.refl _ _, rfl⟩
            · intro V w1 hbR ⟨f6, _⟩
              replace f6 : V 6 = .pointer (some ⟨b', off' + k, none⟩) := f6
              obtain ⟨hc, hf⟩ := bcell hbR
              try simp only [World.size_alloc, World.size_setCell] at hc hf
              unfold Does
              go_simp
              exact ⟨Below.refl _ _, rfl⟩
            · intro V w1 hbR ⟨f3, f7, _⟩
              replace f3 : V 3 = .string ss[k] := f3
              replace f7 : V 7 = .string us[k] := f7
              unfold Does
              go_simp
              exact ⟨Below.refl _ _, rfl⟩
          intro V w3 hbR hfR
          obtain ⟨f0, f1, f2, f3, f4, f5, f6, f7, f8, _⟩ := hfR
          replace f0 : V 0 = .slice (some ⟨b, off, none⟩) ss.length cap := f0
          replace f1 : V 1 = .int .i64 k := f1
          replace f2 : V 2 = .pointer (some ⟨b, off + k, none⟩) := f2
          replace f3 : V 3 = .string ss[k] := f3
          replace f4 : V 4 = .slice (some ⟨b', off', none⟩) us.length cap' := f4
          replace f5 : V 5 = .int .i64 k := f5
          replace f6 : V 6 = .pointer (some ⟨b', off' + k, none⟩) := f6
          replace f7 : V 7 = .string us[k] := f7
          replace f8 : V 8 = .bool false := f8
          simp only [f0, f1, f2, f3, f4, f5, f6, f7, f8]
          clear f0 f1 f2 f3 f4 f5 f6 f7 f8
          go_wp2_with fail
          go_roundw
          case rel => exact ⟨k + 1, by omega, by go_num, HZ, hb.trans (hbR.mono hb.size)⟩
          case measure => simp [intOf]; omega
        · have HZ : Hid (decide (ss = us) = false) := by rw [Hid, decide_eq_false_iff_not]; intro e; subst e; exact he rfl
          have hq := toList_ne he
          clear he
          go_wp2_with fail
          refine wp_region_B [fun v _ => v = .slice (some ⟨b, off, none⟩) ss.length cap, fun v _ => v = .int .i64 k, fun v _ => v = .pointer (some ⟨b, off + k, none⟩), fun v _ => v = .string ss[k], fun v _ => v = .slice (some ⟨b', off', none⟩) us.length cap', fun v _ => v = .int .i64 k, fun v _ => v = .pointer (some ⟨b', off' + k, none⟩), fun v _ => v = .string us[k], fun v _ => v = .bool true] _ (fun V => by simp [putAll, Act.put]; rfl) (by kernel_rfl) (by decide) (by simp) (by kernel_rfl) ?_ ?_ ?_
          · intro F hF
            simp only [List.mem_cons, List.not_mem_nil, or_false] at hF
            rcases hF with rfl | rfl | rfl | rfl | rfl | rfl | rfl | rfl | rfl
            · exact stable_eq
            · exact stable_eq
            · exact stable_eq
            · exact stable_eq
            · exact stable_eq
            · exact stable_eq
            · exact stable_eq
            · exact stable_eq
            · exact stable_eq
          · refine ⟨?_, ?_, ?_, ?_, ?_, ?_, ?_, ?_, ?_, trivial⟩
            · intro V w1 hbR _
              unfold Does
              go_simp
              exact ⟨Below.refl _ _, rfl⟩
            · intro V w1 hbR _
              unfold Does
              go_simp
              exact ⟨Below.refl _ _, rfl⟩
            · intro V w1 hbR ⟨f0, f1, _⟩
              replace f0 : V 0 = .slice (some ⟨b, off, none⟩) ss.length cap := f0
              replace f1 : V 1 = .int .i64 k := f1
              unfold Does
              go_simp
              exact ⟨Below.refl _ _, rfl⟩
            · intro V w1 hbR ⟨f2, _⟩
              replace f2 : V 2 = .pointer (some ⟨b, off + k, none⟩) := f2
              obtain ⟨hc, hf⟩ := bcell hbR
              try simp only [World.size_alloc, World.size_setCell] at hc hf
              unfold Does
              go_simp
              exact ⟨Below.refl _ _, rfl⟩
            · intro V w1 hbR _
              unfold Does
              go_simp
              exact ⟨Below.refl _ _, rfl⟩
            · intro V w1 hbR _
              unfold Does
              go_simp
              exact ⟨Below.refl _ _, rfl⟩
            · intro V w1 hbR ⟨f4, f5, _⟩
              replace f4 : V 4 = .slice (some ⟨b', off', none⟩) us.length cap' := f4
              replace f5 : V 5 = .int .i64 k := f5
              unfold Does
              go_simp
              exact ⟨Below.refl _ _, rfl⟩
            · intro V w1 hbR ⟨f6, _⟩
              replace f6 : V 6 = .pointer (some ⟨b', off' + k, none⟩) := f6
              obtain ⟨hc, hf⟩ := bcell hbR
              try simp only [World.size_alloc, World.size_setCell] at hc hf
              unfold Does
              go_simp
              exact ⟨Below.refl _ _, rfl⟩
            · intro V w1 hbR ⟨f3, f7, _⟩
              replace f3 : V 3 = .string ss[k] := f3
              replace f7 : V 7 = .string us[k] := f7
              unfold Does
              go_simp
              exact ⟨Below.refl _ _, rfl⟩
          intro V w3 hbR hfR
          obtain ⟨f0, f1, f2, f3, f4, f5, f6, f7, f8, _⟩ := hfR
          replace f0 : V 0 = .slice (some ⟨b, off, none⟩) ss.length cap := f0
          replace f1 : V 1 = .int .i64 k := f1
          replace f2 : V 2 = .pointer (some ⟨b, off + k, none⟩) := f2
          replace f3 : V 3 = .string ss[k] := f3
          replace f4 : V 4 = .slice (some ⟨b', off', none⟩) us.length cap' := f4
          replace f5 : V 5 = .int .i64 k := f5
          replace f6 : V 6 = .pointer (some ⟨b', off' + k, none⟩) := f6
          replace f7 : V 7 = .string us[k] := f7
          replace f8 : V 8 = .bool true := f8
          simp only [f0, f1, f2, f3, f4, f5, f6, f7, f8]
          clear f0 f1 f2 f3 f4 f5 f6 f7 f8
          go_wp2_with fail
          go_ret
          exact Gives.mk (ret_bool HZ.out.symm) (hb.trans (hbR.mono hb.size))
      · obtain rfl : k = ss.length := by omega
        have HY : Hid (decide (ss = us) = true) := by
          have := HX.out
          rw [List.take_length, hll, List.take_length] at this
          rw [Hid, decide_eq_true_eq]; exact this
        go_wp2_with fail
        go_ret
        exact Gives.mk (ret_bool HY.out.symm) hb
  · have HY : Hid (decide (ss = us) = false) := by rw [Hid, decide_eq_false_iff_not]; intro e; exact hll (by rw [e])
    go_enter Try.func22, Try.ntmps22
    go_wp2_with fail
    go_ret
    exact Gives.mk (ret_bool HY.out.symm) (Below.refl _ _)
theorem eqStrS_refl {ss : List ByteArray} {S : Nat → Prop} {v u : Value} {w : World} (hr : D.rd S w v (slOf strE ss)) (hr' : D.rd S w u (slOf strE ss)) : Calls Try.prog 22 #[v, u] w (Gives w (.bool true)) := by
  have := eqStrS_any ss ss hr hr'
  rwa [show decide (ss = ss) = true by simp] at this
theorem cellsStr1 : Try.prog.cellsOf 9 = 1 := by kernel_rfl
section
variable {H : Type} {enc' : TypeId × Value → H} {w : World}
theorem read_str : ∀ (fuel : Nat) (cs : List Value) (x : DataW H × List MemPlace), DataW.trod enc' Try.prog w 0 (fun _ => true) true fuel 9 cs = some x → ∃ s : ByteArray, CellsRd (fun _ => True) w cs (strE s) := by
  intro fuel cs x h
  obtain ⟨s, hs, -, hsz⟩ := DataW.trod_string Try.underlying9 h
  subst hs
  exact ⟨s, D.rd_str hsz, trivial⟩
theorem open_StringS {r : Reach} {b0 : Nat} {v : Value} {d : DataW H} {p : List MemPlace} (hv : Value.okWide Try.prog w r b0 42 v) (h : DataW.Trod enc' Try.prog w 0 (fun _ => true) true 42 v d p) :
    ∃ ss, D.rd (fun _ => True) w v (slOf strE ss) := by
  obtain ⟨a, len, cap, rfl⟩ := okWide_slice Try.underlying42 hv
  obtain ⟨fuel, hf⟩ := h
  obtain ⟨u, ss, hu, hr⟩ := open_slOf strE_wide (by decide) Try.underlying42 cellsStr1 (fun m cs' x' _ hx => read_str m cs' x' hx) hf
  obtain rfl : Value.slice a len cap = u := by simpa [Value.cells] using hu
  exact ⟨ss, hr⟩
end
end Go.Proofs.Ytoblhgaohmfjeaa
