/- Lists of ints: how a law measures, copies and compares them. -/
import Derived.Test.YtoblhgaohmfjeaaSs
import Derived.OpenShut
namespace Go.Proofs.Ytoblhgaohmfjeaa
set_option maxRecDepth 100000
open Go.RowKit Go.ChangeShapes Go.WideShapes

def intE (z : Int) : List D := [.num z]
theorem intE_wide : Wide intE 1 := fun _ => rfl
def IsI64 (z : Int) : Prop := -9223372036854775808 ≤ z ∧ z ≤ 9223372036854775807
theorem D.own_num {w : World} {z : Int} (h : IsI64 z) : D.own w (.int .i64 z) (.num z) [] := by rw [D.own]; exact ⟨rfl, h.1, h.2, rfl⟩
theorem D.rd_num {S : Nat → Prop} {w : World} {z : Int} (h : IsI64 z) : D.rd S w (.int .i64 z) (.num z) := by rw [D.rd]; exact ⟨rfl, h.1, h.2⟩
theorem ints_get {S : Nat → Prop} {w : World} {a : Option Addr} {n cap : Nat} {ss : List Int} (h : D.rd S w (.slice a n cap) (slOf intE ss)) (hne : ss ≠ []) : ∃ b off, a = some ⟨b, off, none⟩ ∧ S b ∧ b < w.heap.size ∧
    ∀ k (hk : k < ss.length), w.cell? ⟨b, off + k, none⟩ = some (.int .i64 ss[k]) ∧ IsI64 ss[k] := by
  obtain ⟨b, off, h0, h1, h2, h3⟩ := slOf_get intE_wide (by decide) h hne
  refine ⟨b, off, h0, h1, h2, fun k hk => ?_⟩
  obtain ⟨v, q0, q1⟩ := h3 k hk 0 (.num ss[k]) rfl
  rw [D.rd] at q1
  obtain ⟨rfl, q2⟩ := q1
  rw [Nat.mul_one, Nat.add_zero] at q0
  exact ⟨q0, q2⟩


def MadeInt (ss : List Int) (w : World) (e : Ending) (w' : World) : Prop := ∃ v F, e = .returned v ∧ D.own w' v (slOf intE ss) F ∧ (∀ x ∈ F, w.heap.size ≤ x) ∧ Below w.heap.size w w'
theorem infoIntS : (Try.prog.info? 3).map (fun i => (i.zero, i.size, i.bytes)) = some (some (.int .i64 0), 1, 8) := by kernel_rfl
theorem intE_take (ss : List Int) (k : Nat) (hk : k < ss.length) : (ss.take (k + 1)).flatMap intE = (ss.take k).flatMap intE ++ [.num ss[k]] := flat_take_succ ss k hk

set_option maxHeartbeats 400000 in
theorem toIntS_any (ss : List Int) {S : Nat → Prop} {v : Value} {w : World} (hr : D.rd S w v (slOf intE ss)) (hbk : ss.length ≤ 1048576) : Calls Try.prog 8 #[v] w (MadeInt ss w) := by
  obtain ⟨a, cap, rfl, hlen, hcap⟩ := slOf_form hr
  have hmk := run_mk (P := Try.prog) Try.underlying25 infoIntS ss.length (by omega) hlen
  unfold big at hlen
  go_enter Try.func8, Try.ntmps8
  go_wp2_with fail
  go_loopw [4] (fun i wr => ∃ (k : Nat), k ≤ ss.length ∧ i = .int .i64 k ∧ Filled wr w.heap.size 3 (ss.length * 1) ((ss.take k).flatMap intE) [] ∧ Below w.heap.size w wr) (fun i _ => ss.length - (intOf i).toNat)
  case atStart =>
    refine ⟨0, Nat.zero_le _, rfl, ?_, (Below.refl _ _).alloc (Nat.le_refl _) _⟩
    have := Filled.made w (madeCells #[Value.int .i64 0] (ss.length * 1)) 3
    rw [size_madeCells] at this
    simpa using this
  case round =>
    obtain ⟨k, hk, rfl, hfl, hb⟩ := hrel
    by_cases hlt : k < ss.length
    · have hne : ss ≠ [] := by intro e; subst e; simp at hlt
      obtain ⟨b, off, rfl, hS, hbl, hrr⟩ := ints_get hr hne
      obtain ⟨q0, q1⟩ := hrr k hlt
      replace q0 := (hb.cell (p := ⟨b, off + k, none⟩) hbl).trans q0
      obtain ⟨x0, hx0⟩ := hfl.cell (p := k) (by omega)
      have hf0 := hfl.free k
      clear hr hrr
      go_wp2_with fail
      go_roundw
      case rel =>
        refine ⟨k + 1, by omega, by go_num, ?_, hb.setCell (Nat.le_refl _) _⟩
        rw [intE_take ss k hlt]
        have hl : ((ss.take k).flatMap intE).length = k := by rw [flat_length intE_wide, List.length_take]; omega
        have s1 := hfl.set (v := .int .i64 ss[k]) (G := []) hl.symm (by omega) (D.own_num q1) (by simp) (by simp)
        simpa using s1
      case measure => simp [intOf]; omega
    · obtain rfl : k = ss.length := by omega
      go_wp2_with fail
      go_ret
      rw [List.take_length] at hfl
      by_cases hne : ss = []
      · subst hne
        exact ⟨_, [], rfl, D.own_nil _ _, by simp, hb⟩
      · exact ⟨_, _ :: [], rfl, hfl.own (flat_ne intE_wide (by decide) hne) (by unfold big; omega) (Nat.le_refl _), fun x hx => by simp at hx; subst hx; exact Nat.le_refl _, hb⟩

/-- the value reads as the list -/
def IsIS (ss : List Int) (v : Value) (w : World) : Prop := D.rd (fun _ => True) w v (slOf intE ss)
theorem IsIS.form {ss : List Int} {v : Value} {w : World} (h : IsIS ss v w) : ∃ a cap, v = .slice a ss.length cap ∧ D.rd (fun _ => True) w (.slice a ss.length cap) (slOf intE ss) := by
  obtain ⟨a, cap, rfl, _, _⟩ := slOf_form h
  exact ⟨a, cap, rfl, h⟩
theorem IsIS.stable {ss : List Int} {w : World} : ∀ v w1 w2, Below w.heap.size w w1 → Below w1.heap.size w1 w2 → IsIS ss v w1 → IsIS ss v w2 :=
  fun _ _ _ _ hb h => D.rd_keep (Keeps.all hb) _ _ h
theorem toIntS_is {ss : List Int} {S : Nat → Prop} {v : Value} {w : World} (h : D.rd S w v (slOf intE ss)) (hb : ss.length ≤ 1048576) : Calls Try.prog 8 #[v] w (Yields w (IsIS ss)) :=
  (toIntS_any ss h hb).mono fun _ _ ⟨_, _, he, ho, _, hbl⟩ => ⟨_, he, hbl, D.rd_mono (fun _ _ => trivial) _ _ (D.own_rd _ _ _ ho)⟩
set_option maxHeartbeats 400000 in
theorem eqIntS_any (ss us : List Int) {S : Nat → Prop} {v u : Value} {w : World} (hr : D.rd S w v (slOf intE ss)) (hr' : D.rd S w u (slOf intE us)) : Calls Try.prog 11 #[v, u] w (Gives w (.bool (decide (ss = us)))) := by
  obtain ⟨a, cap, rfl, hlen, hcap⟩ := slOf_form hr
  obtain ⟨a', cap', rfl, hlen', hcap'⟩ := slOf_form hr'
  unfold big at hlen hlen'
  by_cases hll : ss.length = us.length
  · go_enter Try.func11, Try.ntmps11
    go_wp2_with fail
    go_loopw [5] (fun i wr => ∃ (k : Nat), k ≤ ss.length ∧ i = .int .i64 k ∧ Hid (ss.take k = us.take k) ∧ Below w.heap.size w wr) (fun i _ => ss.length - (intOf i).toNat)
    case atStart => exact ⟨0, Nat.zero_le _, rfl, by simp [Hid], Below.refl _ _⟩
    case round =>
      obtain ⟨k, hk, rfl, HX, hb⟩ := hrel
      by_cases hlt : k < ss.length
      · have hne : ss ≠ [] := by intro e; subst e; simp at hlt
        have hlt' : k < us.length := by omega
        have hne' : us ≠ [] := by intro e; subst e; simp at hlt'
        obtain ⟨b, off, rfl, hS, hbl, hrr⟩ := ints_get hr hne
        obtain ⟨b', off', rfl, hS', hbl', hrr'⟩ := ints_get hr' hne'
        obtain ⟨q0, -⟩ := hrr k hlt
        obtain ⟨r0, -⟩ := hrr' k hlt'
        replace q0 := (hb.cell (p := ⟨b, off + k, none⟩) hbl).trans q0
        replace r0 := (hb.cell (p := ⟨b', off' + k, none⟩) hbl').trans r0
        clear hr hrr hr' hrr'
        have hb0 : b < wr.heap.size := Nat.lt_of_lt_of_le hbl hb.size
        have hb0' : b' < wr.heap.size := Nat.lt_of_lt_of_le hbl' hb.size
        by_cases he : ss[k] = us[k]
        · have HZ : Hid (ss.take (k + 1) = us.take (k + 1)) := by rw [Hid, List.take_succ_eq_append_getElem hlt, List.take_succ_eq_append_getElem hlt', HX.out, he]
          have hq : (ss[k] == us[k]) = true := by simpa using he
          have hq2 : (ss[k] != us[k]) = false := by simpa using he
          clear he
          go_wp2_with fail
          refine wp_region_B [fun v _ => v = .slice (some ⟨b, off, none⟩) ss.length cap, fun v _ => v = .int .i64 k, fun v _ => v = .pointer (some ⟨b, off + k, none⟩), fun v _ => v = .int .i64 ss[k], fun v _ => v = .slice (some ⟨b', off', none⟩) us.length cap', fun v _ => v = .int .i64 k, fun v _ => v = .pointer (some ⟨b', off' + k, none⟩), fun v _ => v = .int .i64 us[k], fun v _ => v = .bool false] _ (fun V => by simp [putAll, Act.put]; rfl) (by kernel_rfl) (by decide) (by simp) (by kernel_rfl) ?_ ?_ ?_
          · intro F hF
            simp only [List.mem_cons, List.not_mem_nil, or_false] at hF
            rcases hF with rfl | rfl | rfl | rfl | rfl | rfl | rfl | rfl | rfl
            · exact stable_eq
            · exact stable_eq
            · exact stable_eq
            · exact stable_eq
            · exact stable_eq
            · exact stable_eq
            · exact stable_eq
            · exact stable_eq
            · exact stable_eq
          · refine ⟨?_, ?_, ?_, ?_, ?_, ?_, ?_, ?_, ?_, trivial⟩
            · intro V w1 hbR _
              unfold Does
              go_simp
              exact ⟨Below.refl _ _, rfl⟩
            · intro V w1 hbR _
              unfold Does
              go_simp
              exact ⟨Below.refl _ _, rfl⟩
            · intro V w1 hbR ⟨f0, f1, _⟩
              replace f0 : V 0 = .slice (some ⟨b, off, none⟩) ss.length cap := f0
              replace f1 : V 1 = .int .i64 k := f1
              unfold Does
              go_simp
              exact ⟨Below.refl _ _, rfl⟩
            · intro V w1 hbR ⟨f2, _⟩
              replace f2 : V 2 = .pointer (some ⟨b, off + k, none⟩) := f2
              obtain ⟨hc, hf⟩ := bcell hbR
              try simp only [World.size_alloc, World.size_setCell] at hc hf
              unfold Does
              go_simp
              exact ⟨Below.refl _ _, rfl⟩
            · intro V w1 hbR _
              unfold Does
              go_simp
              exact ⟨Below.refl _ _, rfl⟩
            · intro V w1 hbR _
              unfold Does
              go_simp
              exact ⟨Below.refl _ _, rfl⟩
            · intro V w1 hbR ⟨f4, f5, _⟩
              replace f4 : V 4 = .slice (some ⟨b', off', none⟩) us.length cap' := f4
              replace f5 : V 5 = .int .i64 k := f5
              unfold Does
              go_simp
              exact ⟨Below.refl _ _, rfl⟩
            · intro V w1 hbR ⟨f6, _⟩
              replace f6 : V 6 = .pointer (some ⟨b', off' + k, none⟩) := f6
              obtain ⟨hc, hf⟩ := bcell hbR
              try simp only [World.size_alloc, World.size_setCell] at hc hf
              unfold Does
              go_simp
              exact ⟨Below.refl _ _, rfl⟩
            · intro V w1 hbR ⟨f3, f7, _⟩
              replace f3 : V 3 = .int .i64 ss[k] := f3
              replace f7 : V 7 = .int .i64 us[k] := f7
              unfold Does
              go_simp
              exact ⟨Below.refl _ _, rfl⟩
          intro V w3 hbR hfR
          obtain ⟨f0, f1, f2, f3, f4, f5, f6, f7, f8, _⟩ := hfR
          replace f0 : V 0 = .slice (some ⟨b, off, none⟩) ss.length cap := f0
          replace f1 : V 1 = .int .i64 k := f1
          replace f2 : V 2 = .pointer (some ⟨b, off + k, none⟩) := f2
          replace f3 : V 3 = .int .i64 ss[k] := f3
          replace f4 : V 4 = .slice (some ⟨b', off', none⟩) us.length cap' := f4
          replace f5 : V 5 = .int .i64 k := f5
          replace f6 : V 6 = .pointer (some ⟨b', off' + k, none⟩) := f6
          replace f7 : V 7 = .int .i64 us[k] := f7
          replace f8 : V 8 = .bool false := f8
          simp only [f0, f1, f2, f3, f4, f5, f6, f7, f8]
          clear f0 f1 f2 f3 f4 f5 f6 f7 f8
          go_wp2_with fail
          go_roundw
          case rel => exact ⟨k + 1, by omega, by go_num, HZ, hb.trans (hbR.mono hb.size)⟩
          case measure => simp [intOf]; omega
        · have HZ : Hid (decide (ss = us) = false) := by rw [Hid, decide_eq_false_iff_not]; intro e; subst e; exact he rfl
          have hq : (ss[k] == us[k]) = false := by simpa using he
          have hq2 : (ss[k] != us[k]) = true := by simpa using he
          clear he
          go_wp2_with fail
          refine wp_region_B [fun v _ => v = .slice (some ⟨b, off, none⟩) ss.length cap, fun v _ => v = .int .i64 k, fun v _ => v = .pointer (some ⟨b, off + k, none⟩), fun v _ => v = .int .i64 ss[k], fun v _ => v = .slice (some ⟨b', off', none⟩) us.length cap', fun v _ => v = .int .i64 k, fun v _ => v = .pointer (some ⟨b', off' + k, none⟩), fun v _ => v = .int .i64 us[k], fun v _ => v = .bool true] _ (fun V => by simp [putAll, Act.put]; rfl) (by kernel_rfl) (by decide) (by simp) (by kernel_rfl) ?_ ?_ ?_
          · intro F hF
            simp only [List.mem_cons, List.not_mem_nil, or_false] at hF
            rcases hF with rfl | rfl | rfl | rfl | rfl | rfl | rfl | rfl | rfl
            · exact stable_eq
            · exact stable_eq
            · exact stable_eq
            · exact stable_eq
            · exact stable_eq
            · exact stable_eq
            · exact stable_eq
            · exact stable_eq
            · exact stable_eq
          · refine ⟨?_, ?_, ?_, ?_, ?_, ?_, ?_, ?_, ?_, trivial⟩
            · intro V w1 hbR _
              unfold Does
              go_simp
              exact ⟨Below.refl _ _, rfl⟩
            · intro V w1 hbR _
              unfold Does
              go_simp
              exact ⟨Below.refl _ _, rfl⟩
            · intro V w1 hbR ⟨f0, f1, _⟩
              replace f0 : V 0 = .slice (some ⟨b, off, none⟩) ss.length cap := f0
              replace f1 : V 1 = .int .i64 k := f1
              unfold Does
              go_simp
              exact ⟨Below.refl _ _, rfl⟩
            · intro V w1 hbR ⟨f2, _⟩
              replace f2 : V 2 = .pointer (some ⟨b, off + k, none⟩) := f2
              obtain ⟨hc, hf⟩ := bcell hbR
              try simp only [World.size_alloc, World.size_setCell] at hc hf
              unfold Does
              go_simp
              exact ⟨Below.refl _ _, rfl⟩
            · intro V w1 hbR _
              unfold Does
              go_simp
              exact ⟨Below.refl _ _, rfl⟩
            · intro V w1 hbR _
              unfold Does
              go_simp
              exact ⟨Below.refl _ _, rfl⟩
            · intro V w1 hbR ⟨f4, f5, _⟩
              replace f4 : V 4 = .slice (some ⟨b', off', none⟩) us.length cap' := f4
              replace f5 : V 5 = .int .i64 k := f5
              unfold Does
              go_simp
              exact ⟨Below.refl _ _, rfl⟩
            · intro V w1 hbR ⟨f6, _⟩
              replace f6 : V 6 = .pointer (some ⟨b', off' + k, none⟩) := f6
              obtain ⟨hc, hf⟩ := bcell hbR
              try simp only [World.size_alloc, World.size_setCell] at hc hf
              unfold Does
              go_simp
              exact ⟨Below.refl _ _, rfl⟩
            · intro V w1 hbR ⟨f3, f7, _⟩
              replace f3 : V 3 = .int .i64 ss[k] := f3
              replace f7 : V 7 = .int .i64 us[k] := f7
              unfold Does
              go_simp
              exact ⟨Below.refl _ _, rfl⟩
          intro V w3 hbR hfR
          obtain ⟨f0, f1, f2, f3, f4, f5, f6, f7, f8, _⟩ := hfR
          replace f0 : V 0 = .slice (some ⟨b, off, none⟩) ss.length cap := f0
          replace f1 : V 1 = .int .i64 k := f1
          replace f2 : V 2 = .pointer (some ⟨b, off + k, none⟩) := f2
          replace f3 : V 3 = .int .i64 ss[k] := f3
          replace f4 : V 4 = .slice (some ⟨b', off', none⟩) us.length cap' := f4
          replace f5 : V 5 = .int .i64 k := f5
          replace f6 : V 6 = .pointer (some ⟨b', off' + k, none⟩) := f6
          replace f7 : V 7 = .int .i64 us[k] := f7
          replace f8 : V 8 = .bool true := f8
          simp only [f0, f1, f2, f3, f4, f5, f6, f7, f8]
          clear f0 f1 f2 f3 f4 f5 f6 f7 f8
          go_wp2_with fail
          go_ret
          exact Gives.mk (ret_bool HZ.out.symm) (hb.trans (hbR.mono hb.size))
      · obtain rfl : k = ss.length := by omega
        have HY : Hid (decide (ss = us) = true) := by
          have := HX.out
          rw [List.take_length, hll, List.take_length] at this
          rw [Hid, decide_eq_true_eq]; exact this
        go_wp2_with fail
        go_ret
        exact Gives.mk (ret_bool HY.out.symm) hb
  · have HY : Hid (decide (ss = us) = false) := by rw [Hid, decide_eq_false_iff_not]; intro e; exact hll (by rw [e])
    go_enter Try.func11, Try.ntmps11
    go_wp2_with fail
    go_ret
    exact Gives.mk (ret_bool HY.out.symm) (Below.refl _ _)
theorem eqIntS_refl {ss : List Int} {S : Nat → Prop} {v u : Value} {w : World} (hr : D.rd S w v (slOf intE ss)) (hr' : D.rd S w u (slOf intE ss)) : Calls Try.prog 11 #[v, u] w (Gives w (.bool true)) := by
  have := eqIntS_any ss ss hr hr'
  rwa [show decide (ss = ss) = true by simp] at this

theorem cellsInt1 : Try.prog.cellsOf 3 = 1 := by kernel_rfl
section
variable {H : Type} {enc' : TypeId × Value → H} {w : World}
theorem read_int : ∀ (fuel : Nat) (cs : List Value) (x : DataW H × List MemPlace), DataW.trod enc' Try.prog w 0 (fun _ => true) true fuel 3 cs = some x → ∃ z : Int, CellsRd (fun _ => True) w cs (intE z) := by
  intro fuel cs x h
  obtain ⟨z, hz, -, hw⟩ := DataW.trod_int Try.underlying3 h
  subst hz
  exact ⟨z, D.rd_num (bounds_i64 hw), trivial⟩
theorem open_IntS {r : Reach} {b0 : Nat} {v : Value} {d : DataW H} {p : List MemPlace} (hv : Value.okWide Try.prog w r b0 25 v) (h : DataW.Trod enc' Try.prog w 0 (fun _ => true) true 25 v d p) :
    ∃ ss, D.rd (fun _ => True) w v (slOf intE ss) := by
  obtain ⟨a, len, cap, rfl⟩ := okWide_slice Try.underlying25 hv
  obtain ⟨fuel, hf⟩ := h
  obtain ⟨u, ss, hu, hr⟩ := open_slOf intE_wide (by decide) Try.underlying25 cellsInt1 (fun m cs' x' _ hx => read_int m cs' x' hx) hf
  obtain rfl : Value.slice a len cap = u := by simpa [Value.cells] using hu
  exact ⟨ss, hr⟩
end
end Go.Proofs.Ytoblhgaohmfjeaa
