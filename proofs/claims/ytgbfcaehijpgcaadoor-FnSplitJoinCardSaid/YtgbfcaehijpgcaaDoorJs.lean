/- JoinStrings. -/
import Derived.Test.YtgbfcaehijpgcaaDoorSs
import Derived.Test.YtgbfcaehijpgcaaDoorCh
import Derived.Test.YtgbfcaehijpgcaaDoorJt
import Derived.Test.YtgbfcaehijpgcaaDoorHb
import Derived.Test.YtgbfcaehijpgcaaDoorShelf
namespace Go.Proofs.YtgbfcaehijpgcaaDoor
set_option maxRecDepth 100000
open Go.RowKit

def CallableC (f : FuncId) : Prop := ∀ (args : Array Value) (w : World), Sem.run Tryd.prog (callFunc f args) w = .ok (.enter f args) w
theorem callableJoin : CallableC 68 := fun _ _ => by kernel_rfl

/-- r tells whether p holds of some string of the list -/
def FoundS (ss : List ByteArray) (p : ByteArray → Bool) (w : World) (e : Ending) (w' : World) : Prop := ∃ r : Int, e = .returned (.int .i64 r) ∧ ((0 ≤ r ∧ ss.any p = true) ∨ (r < 0 ∧ ss.any p = false)) ∧ w = w'

set_option maxHeartbeats 400000 in
theorem indexFuncS (f : FuncId) (hcf : CallableC f) (q : Value) (p : ByteArray → Bool) (ss : List ByteArray) {w : World} (h : ∀ s ∈ ss, Calls Tryd.prog f #[.string s, q] w fun e w' => e = .returned (.bool (p s)) ∧ w = w') {S : Nat → Prop} {v : Value} (hs : D.rd S w v (slOf strE ss)) :
    Calls Tryd.prog 81 #[v, .func (.func f) #[] #[q]] w (FoundS ss p w) := by
  obtain ⟨a, cap, rfl, hlen, hcap⟩ := slOf_form hs
  unfold big at hlen
  go_enter Tryd.func81, Tryd.ntmps81
  go_wp2_with fail
  go_loop [8] (fun i => ∃ k : Nat, k ≤ ss.length ∧ i = .int .i64 k ∧ Hid ((ss.take k).any p = false)) (fun i => ss.length - (intOf i).toNat)
  case atStart => exact ⟨0, Nat.zero_le _, rfl, by simp [Hid]⟩
  case round =>
    obtain ⟨k, hk, rfl, HX⟩ := hrel
    by_cases hlt : k < ss.length
    · have hne : ss ≠ [] := by intro e; subst e; simp at hlt
      obtain ⟨b, off, rfl, hS, hbl, hrr⟩ := strs_get hs hne
      obtain ⟨q0, q1⟩ := hrr k hlt
      have hq := h ss[k] (List.getElem_mem hlt)
      clear hs hrr
      unfold CallableC at hcf
      go_wp2_with fail
      refine hq.mono ?_
      rintro e w2 ⟨rfl, rfl⟩
      by_cases hp : p ss[k] = true
      · have HF : Hid (ss.any p = true) := List.any_eq_true.2 ⟨_, List.getElem_mem hlt, hp⟩
        rw [hp]
        clear hp
        go_wp2_with fail
        go_ret
        exact ⟨k, rfl, .inl ⟨by omega, HF.out⟩, rfl⟩
      · have HF : Hid ((ss.take (k + 1)).any p = false) := by
          rw [Hid, List.take_succ_eq_append_getElem hlt, List.any_append, HX.out]; simpa using hp
        replace hp : p ss[k] = false := by simpa using hp
        rw [hp]
        clear hp
        go_wp2_with fail
        go_round
        case rel => exact ⟨k + 1, by omega, by go_num, HF⟩
        case measure => simp [intOf]; omega
    · obtain rfl : k = ss.length := by omega
      have HF : Hid (ss.any p = false) := by have := HX.out; rwa [List.take_length] at this
      go_wp2_with fail
      go_ret
      exact ⟨-1, rfl, .inr ⟨by omega, HF.out⟩, rfl⟩

set_option maxHeartbeats 400000 in
theorem containsFuncS (f : FuncId) (hcf : CallableC f) (q : Value) (p : ByteArray → Bool) (ss : List ByteArray) {w : World} (h : ∀ s ∈ ss, Calls Tryd.prog f #[.string s, q] w fun e w' => e = .returned (.bool (p s)) ∧ w = w') {S : Nat → Prop} {v : Value} (hs : D.rd S w v (slOf strE ss)) :
    Calls Tryd.prog 67 #[v, .func (.func f) #[] #[q]] w fun e w' => e = .returned (.bool (ss.any p)) ∧ w = w' := by
  go_enter Tryd.func67, Tryd.ntmps67
  go_wp2_with fail
  refine (indexFuncS f hcf q p ss h hs).mono ?_
  rintro e w' ⟨r, rfl, hr, rfl⟩
  rcases hr with ⟨h0, h1⟩ | ⟨h0, h1⟩
  · have H := hid h1
    clear h1
    go_wp2_with fail
    go_ret
    exact ⟨ret_bool H.out.symm, rfl⟩
  · have H := hid h1
    clear h1
    go_wp2_with fail
    go_ret
    exact ⟨ret_bool (by rw [H.out]; simp; omega), rfl⟩

/-- the closure: does the string hold the byte? -/
theorem join1_any (s : ByteArray) (c : UInt8) {w : World} {b : Nat} (h : w.cell? ⟨b, 0, none⟩ = some (.string ⟨#[c]⟩)) : Calls Tryd.prog 68 #[.string s, .pointer (some ⟨b, 0, none⟩)] w fun e w' => e = .returned (.bool (hasByte c s)) ∧ w = w' := by
  have HS : Hid (decide (0 ≤ Lib.indexByte s.data.toList c) = hasByte c s) := indexByte_has c s
  go_enter Tryd.func68, Tryd.ntmps68
  go_wp2_with fail
  refine (Tryd.strings_Contains_one s c w).mono ?_
  rintro e w' ⟨rfl, rfl⟩
  go_wp2_with fail
  go_ret
  exact ⟨ret_bool HS.out, rfl⟩

theorem lens_strSum (ss : List ByteArray) : Lib.lens (lists ss) = strSum ss := by
  induction ss with
  | nil => rfl
  | cons s ss ih =>
    rw [strSum, ← ih, lists, List.map_cons, Lib.lens, List.map_cons, List.sum_cons]; rfl
theorem joined_le (ss : List ByteArray) (s : ByteArray) (h : strBulk ss ≤ 1048576) (hs : s.size = 1) : (joined ss s).size ≤ 2097152 := by
  rw [joined_size]
  rw [strBulk] at h
  have hl : ∀ (xs : List (List UInt8)) (sep : List UInt8), (Lib.join xs sep).length ≤ Lib.lens xs + xs.length * sep.length := by
    intro xs sep
    cases xs with
    | nil => simp [Lib.join_nil]
    | cons x r =>
      rw [Lib.join_cons]
      have : (Lib.joinTail sep r).length = Lib.lens r + r.length * sep.length := by
        induction r with
        | nil => simp [Lib.joinTail, Lib.lens]
        | cons y r ih => simp only [Lib.joinTail, List.map_cons, List.flatten_cons, List.length_append, Lib.lens, List.sum_cons, List.length_cons] at ih ⊢; rw [ih, Nat.add_mul]; omega
      simp only [List.length_append, this, Lib.lens, List.map_cons, List.sum_cons, List.length_cons, Nat.add_mul]; omega
  have h1 := hl (lists ss) s.data.toList
  have h2 : s.data.toList.length = 1 := hs
  have h3 : (lists ss).length = ss.length := by simp [lists]
  rw [h2, h3, lens_strSum] at h1
  omega

set_option maxHeartbeats 1000000 in
theorem impl_JoinStrings {ss : List ByteArray} {S : Nat → Prop} {v : Value} {w : World} {s : ByteArray} (hr : D.rd S w v (slOf strE ss)) (hbk : strBulk ss ≤ 1048576) (hs : s.size ≤ 1048576) : Calls Tryd.prog 36 #[v, .string s] w (Gives w (.tuple #[.string (joinR ss s), .bool (joinOk ss s)])) := by
  obtain ⟨a, cap, rfl, hlen, hcap⟩ := slOf_form hr
  unfold big at hlen
  have hlb : ss.length ≤ strBulk ss := by rw [strBulk]; omega
  have hW : Below w.heap.size w (w.alloc (.cells #[.string s] 9)) := (Below.refl _ _).alloc (Nat.le_refl _) _
  by_cases h0 : ss.length = 0
  · have HO : Hid (joinOk ss s = false) := by simp [Hid, joinOk, h0]
    have HR : Hid (joinR ss s = ByteArray.empty) := by rw [Hid, joinR, HO.out]; rfl
    have h0' : (ss.length : Int) = 0 := by omega
    have hq : ((ss.length : Int) == 0) = true := by simp [h0]
    have h0'' := hid h0
    clear h0 h0'
    go_enter Tryd.func36, Tryd.ntmps36
    go_wp2_with fail
    go_ret2
    exact Gives.mk (by rw [HO.out, HR.out]; rfl) hW
  · have hq : ((ss.length : Int) == 0) = false := by simpa using h0
    by_cases h1 : s.size = 1
    · obtain ⟨c, rfl⟩ := one_byte h1
      have hj := joined_le ss ⟨#[c]⟩ hbk h1
      clear h1
      have hs1 : ((⟨#[c]⟩ : ByteArray).size : Int) = 1 := rfl
      have HA : Hid (joinOk ss ⟨#[c]⟩ = (!(ss.any (hasByte c)) && decide ((joined ss ⟨#[c]⟩).size ≤ 4000))) := by rw [Hid, joinOk, decide_eq_true (show (⟨#[c]⟩ : ByteArray).size = 1 from rfl), decide_eq_true h0]; rfl
      have hfn := containsFuncS 68 callableJoin (.pointer (some ⟨w.heap.size, 0, none⟩)) (hasByte c) ss (w := w.alloc (.cells #[.string ⟨#[c]⟩] 9)) (fun x _ => join1_any x c (box1 _ _ _ 0)) (D.rd_keep (Keeps.all hW) _ _ hr)
      by_cases ha : ss.any (hasByte c) = true
      · have HO : Hid (joinOk ss ⟨#[c]⟩ = false) := by rw [Hid, HA.out, ha]; rfl
        have HR : Hid (joinR ss ⟨#[c]⟩ = ByteArray.empty) := by rw [Hid, joinR, HO.out]; rfl
        rw [ha] at hfn
        have H0 := hid h0
        clear h0 ha
        go_enter Tryd.func36, Tryd.ntmps36
        go_wp2_with fail
        refine hfn.mono ?_
        rintro e w1 ⟨rfl, rfl⟩
        go_wp2_with fail
        go_ret2
        exact Gives.mk (by rw [HO.out, HR.out]; rfl) hW
      · replace ha : ss.any (hasByte c) = false := by simpa using ha
        rw [ha] at hfn
        have hne : ss ≠ [] := by intro e; subst e; exact h0 rfl
        obtain ⟨b, off, rfl, hS, hbl, hrr⟩ := strs_get hr hne
        have hjn := Tryd.strings_Join b off cap ss ⟨#[c]⟩ (w.alloc (.cells #[.string ⟨#[c]⟩] 9)) (fun j x hx => by
          obtain ⟨hjl, e⟩ := List.getElem?_eq_some_iff.1 hx
          subst e
          exact (hW.cell (p := ⟨b, off + j, none⟩) hbl).trans (hrr j hjl).1) (Nat.lt_of_lt_of_le hbl hW.size) (by omega) hcap (by have := joined_size ss ⟨#[c]⟩; rw [lists] at this; omega)
        obtain ⟨J, HJ⟩ : ∃ J, Hid (joined ss ⟨#[c]⟩ = J) := ⟨_, hid rfl⟩
        change Calls Tryd.prog _ _ _ (fun e w' => e = .returned (.string (joined ss ⟨#[c]⟩)) ∧ _) at hjn
        rw [HJ.out] at hjn hj HA
        have H0 := hid h0
        clear h0 hrr
        by_cases hz : J.size ≤ 4000
        · have HO : Hid (joinOk ss ⟨#[c]⟩ = true) := by rw [Hid, HA.out, ha]; simp [hz]
          have HR : Hid (joinR ss ⟨#[c]⟩ = J) := by rw [Hid, joinR, HO.out, ← HJ.out]; rfl
          clear ha
          go_enter Tryd.func36, Tryd.ntmps36
          go_wp2_with fail
          refine hfn.mono ?_
          rintro e w1 ⟨rfl, rfl⟩
          go_wp2_with fail
          refine hjn.mono ?_
          rintro e w2 ⟨rfl, hb2⟩
          go_wp2_with fail
          go_ret2
          exact Gives.mk (by rw [HO.out, HR.out]; rfl) (hW.trans (hb2.mono hW.size))
        · have HO : Hid (joinOk ss ⟨#[c]⟩ = false) := by rw [Hid, HA.out, ha]; simp; omega
          have HR : Hid (joinR ss ⟨#[c]⟩ = ByteArray.empty) := by rw [Hid, joinR, HO.out]; rfl
          clear ha
          go_enter Tryd.func36, Tryd.ntmps36
          go_wp2_with fail
          refine hfn.mono ?_
          rintro e w1 ⟨rfl, rfl⟩
          go_wp2_with fail
          refine hjn.mono ?_
          rintro e w2 ⟨rfl, hb2⟩
          go_wp2_with fail
          go_ret2
          exact Gives.mk (by rw [HO.out, HR.out]; rfl) (hW.trans (hb2.mono hW.size))
    · have HO : Hid (joinOk ss s = false) := by simp [Hid, joinOk, h1]
      have HR : Hid (joinR ss s = ByteArray.empty) := by rw [Hid, joinR, HO.out]; rfl
      have hq1 : ((s.size : Int) != 1) = true := by simp; omega
      have H1 := hid h1
      clear h1
      go_enter Tryd.func36, Tryd.ntmps36
      go_wp2_with fail
      go_ret2
      exact Gives.mk (by rw [HO.out, HR.out]; rfl) hW

set_option maxHeartbeats 2000000 in
theorem spec_JoinStrings {ss : List ByteArray} {S : Nat → Prop} {v : Value} {w : World} {s : ByteArray} (hr : D.rd S w v (slOf strE ss)) (hbk : strBulk ss ≤ 1048576) (hs : s.size ≤ 1048576) : Calls Tryd.prog 37 #[v, .string s] w (Gives w (.tuple #[.string (joinR ss s), .bool (joinOk ss s)])) := by
  obtain ⟨a, cap, rfl, hlen, hcap⟩ := slOf_form hr
  unfold big at hlen
  have hlb : ss.length ≤ strBulk ss := by rw [strBulk]; omega
  have hsb : strSum ss ≤ strBulk ss := by rw [strBulk]; omega
  by_cases h1 : s.size = 1
  · by_cases h0 : ss.length = 0
    · have HO : Hid (joinOk ss s = false) := by simp [Hid, joinOk, h0]
      have HR : Hid (joinR ss s = ByteArray.empty) := by rw [Hid, joinR, HO.out]; rfl
      have hq1 : ((s.size : Int) != 1) = false := by simp; omega
      have hq : ((ss.length : Int) == 0) = true := by simp [h0]
      have H0 := hid h0
      have H1 := hid h1
      clear h0 h1
      go_enter Tryd.func37, Tryd.ntmps37
      go_wp2_with fail
      go_ret2
      exact Gives.mk (by rw [HO.out, HR.out]; rfl) (Below.refl _ _)
    · obtain ⟨c, rfl⟩ := one_byte h1
      have HA : Hid (joinOk ss ⟨#[c]⟩ = (!(ss.any (hasByte c)) && decide ((joined ss ⟨#[c]⟩).size ≤ 4000))) := by rw [Hid, joinOk, decide_eq_true (show (⟨#[c]⟩ : ByteArray).size = 1 from rfl), decide_eq_true h0]; rfl
      obtain ⟨z, HZ⟩ : ∃ z : ByteArray, Hid (⟨#[c]⟩ = z) := ⟨_, hid rfl⟩
      rw [HZ.out] at h1 HA ⊢
      have hq1 : ((z.size : Int) != 1) = false := by simp; omega
      have hq : ((ss.length : Int) == 0) = false := by simpa using h0
      have hz0 : (0 : Int) < z.size := by omega
      have hz1 : byteAt z 0 = c.toNat := by rw [← HZ.out]; rfl
      have hz2 : 0 < z.size := by omega
      have hbe := (byteAt_eq hz2).trans hz1
      have hne : ss ≠ [] := by intro e; subst e; exact h0 rfl
      obtain ⟨b, off, rfl, hS, hbl, hrr⟩ := strs_get hr hne
      have HRR := hid hrr
      have H0 := hid h0
      have H1 := hid h1
      have HNE := hid hne
      clear h0 hrr hne h1 hz1
      go_enter Tryd.func37, Tryd.ntmps37
      go_wp2_with fail
      go_loopw [6, 7] (fun o i wr => ∃ (k : Nat) (J : ByteArray), k ≤ ss.length ∧ i = .int .i64 k ∧ o = .string J ∧ Hid (J = joined (ss.take k) z) ∧ J.size ≤ 4000 ∧ Hid ((ss.take k).any (hasByte c) = false) ∧ Below w.heap.size w wr) (fun _ i _ => ss.length - (intOf i).toNat)
      case atStart => exact ⟨0, ByteArray.empty, Nat.zero_le _, rfl, rfl, (joined_nil z).symm, by decide, by simp [Hid], Below.refl _ _⟩
      case round =>
        obtain ⟨k, J, hk, rfl, rfl, HJ, hJ, HX, hb⟩ := hrel
        by_cases hlt : k < ss.length
        · obtain ⟨q0, q1⟩ := HRR.out k hlt
          have hxb : ss[k].size ≤ 1048576 := by have := strSum_mem (List.getElem_mem hlt); omega
          replace q0 := (hb.cell (p := ⟨b, off + k, none⟩) hbl).trans q0
          have hbr : b < wr.heap.size := Nat.lt_of_lt_of_le hbl hb.size
          have HW := hid hb
          clear hb
          by_cases hp : hasByte c ss[k] = true
          · have HP := hid hp
            have HO : Hid (joinOk ss z = false) := by
              rw [Hid, HA.out, show ss.any (hasByte c) = true from List.any_eq_true.2 ⟨_, List.getElem_mem hlt, hp⟩]; rfl
            have HR : Hid (joinR ss z = ByteArray.empty) := by rw [Hid, joinR, HO.out]; rfl
            clear hp
            go_wp2_with fail
            refine wp_region_B [fun v _ => v = .slice (some ⟨b, off, none⟩) ss.length cap, fun v _ => v = .int .i64 k, fun v _ => v = .pointer (some ⟨b, off + k, none⟩), fun v _ => v = .string ss[k], fun v _ => v = .string z, fun v _ => v = .int .u8 c.toNat, fun v _ => v = .bool true] _ (fun V => by simp [putAll, Act.put]; rfl) (by kernel_rfl) (by decide) (by simp) (by kernel_rfl) ?_ ?_ ?_
            · intro F hF
              simp only [List.mem_cons, List.not_mem_nil, or_false] at hF
              rcases hF with rfl | rfl | rfl | rfl | rfl | rfl | rfl
              · exact stable_eq
              · exact stable_eq
              · exact stable_eq
              · exact stable_eq
              · exact stable_eq
              · exact stable_eq
              · exact stable_eq
            · refine ⟨?_, ?_, ?_, ?_, ?_, ?_, ?_, trivial⟩
              · intro V w1 hbR _
                unfold Does
                go_simp
                exact ⟨Below.refl _ _, rfl⟩
              · intro V w1 hbR _
                unfold Does
                go_simp
                exact ⟨Below.refl _ _, rfl⟩
              · intro V w1 hbR ⟨f0, f1, _⟩
                replace f0 : V 0 = .slice (some ⟨b, off, none⟩) ss.length cap := f0
                replace f1 : V 1 = .int .i64 k := f1
                unfold Does
                go_simp
                exact ⟨Below.refl _ _, rfl⟩
              · intro V w1 hbR ⟨f2, _⟩
                replace f2 : V 2 = .pointer (some ⟨b, off + k, none⟩) := f2
                obtain ⟨hc, hf⟩ := bcell hbR
                try simp only [World.size_alloc, World.size_setCell] at hc hf
                unfold Does
                go_simp
                exact ⟨Below.refl _ _, rfl⟩
              · intro V w1 hbR _
                unfold Does
                go_simp
                exact ⟨Below.refl _ _, rfl⟩
              · intro V w1 hbR ⟨f4, _⟩
                replace f4 : V 4 = .string z := f4
                unfold Does
                go_simp
                exact ⟨Below.refl _ _, rfl⟩
              · intro V w1 hbR ⟨f3, f5, _⟩
                replace f3 : V 3 = .string ss[k] := f3
                replace f5 : V 5 = .int .u8 c.toNat := f5
                obtain ⟨hc, hf⟩ := bcell hbR
                try simp only [World.size_alloc, World.size_setCell] at hc hf
                unfold Does
                go_simp
                refine (l1Stands_any _ c q1 w1).mono ?_; rintro e w4 ⟨rfl, rfl⟩; exact ⟨_, rfl, Below.refl _ _, congrArg Value.bool HP.out⟩
            intro V w3 hbR hfR
            obtain ⟨f0, f1, f2, f3, f4, f5, f6, _⟩ := hfR
            replace f0 : V 0 = .slice (some ⟨b, off, none⟩) ss.length cap := f0
            replace f1 : V 1 = .int .i64 k := f1
            replace f2 : V 2 = .pointer (some ⟨b, off + k, none⟩) := f2
            replace f3 : V 3 = .string ss[k] := f3
            replace f4 : V 4 = .string z := f4
            replace f5 : V 5 = .int .u8 c.toNat := f5
            replace f6 : V 6 = .bool true := f6
            simp only [f0, f1, f2, f3, f4, f5, f6]
            clear f0 f1 f2 f3 f4 f5 f6
            go_wp2_with fail
            go_ret2
            exact Gives.mk (by rw [HO.out, HR.out]; rfl) (HW.out.trans (hbR.mono HW.out.size))
          · replace hp : hasByte c ss[k] = false := by simpa using hp
            have HP := hid hp
            clear hp
            go_wp2_with fail
            refine wp_region_B [fun v _ => v = .slice (some ⟨b, off, none⟩) ss.length cap, fun v _ => v = .int .i64 k, fun v _ => v = .pointer (some ⟨b, off + k, none⟩), fun v _ => v = .string ss[k], fun v _ => v = .string z, fun v _ => v = .int .u8 c.toNat, fun v _ => v = .bool false] _ (fun V => by simp [putAll, Act.put]; rfl) (by kernel_rfl) (by decide) (by simp) (by kernel_rfl) ?_ ?_ ?_
            · intro F hF
              simp only [List.mem_cons, List.not_mem_nil, or_false] at hF
              rcases hF with rfl | rfl | rfl | rfl | rfl | rfl | rfl
              · exact stable_eq
              · exact stable_eq
              · exact stable_eq
              · exact stable_eq
              · exact stable_eq
              · exact stable_eq
              · exact stable_eq
            · refine ⟨?_, ?_, ?_, ?_, ?_, ?_, ?_, trivial⟩
              · intro V w1 hbR _
                unfold Does
                go_simp
                exact ⟨Below.refl _ _, rfl⟩
              · intro V w1 hbR _
                unfold Does
                go_simp
                exact ⟨Below.refl _ _, rfl⟩
              · intro V w1 hbR ⟨f0, f1, _⟩
                replace f0 : V 0 = .slice (some ⟨b, off, none⟩) ss.length cap := f0
                replace f1 : V 1 = .int .i64 k := f1
                unfold Does
                go_simp
                exact ⟨Below.refl _ _, rfl⟩
              · intro V w1 hbR ⟨f2, _⟩
                replace f2 : V 2 = .pointer (some ⟨b, off + k, none⟩) := f2
                obtain ⟨hc, hf⟩ := bcell hbR
                try simp only [World.size_alloc, World.size_setCell] at hc hf
                unfold Does
                go_simp
                exact ⟨Below.refl _ _, rfl⟩
              · intro V w1 hbR _
                unfold Does
                go_simp
                exact ⟨Below.refl _ _, rfl⟩
              · intro V w1 hbR ⟨f4, _⟩
                replace f4 : V 4 = .string z := f4
                unfold Does
                go_simp
                exact ⟨Below.refl _ _, rfl⟩
              · intro V w1 hbR ⟨f3, f5, _⟩
                replace f3 : V 3 = .string ss[k] := f3
                replace f5 : V 5 = .int .u8 c.toNat := f5
                obtain ⟨hc, hf⟩ := bcell hbR
                try simp only [World.size_alloc, World.size_setCell] at hc hf
                unfold Does
                go_simp
                refine (l1Stands_any _ c q1 w1).mono ?_; rintro e w4 ⟨rfl, rfl⟩; exact ⟨_, rfl, Below.refl _ _, congrArg Value.bool HP.out⟩
            intro V w3 hbR hfR
            obtain ⟨f0, f1, f2, f3, f4, f5, f6, _⟩ := hfR
            replace f0 : V 0 = .slice (some ⟨b, off, none⟩) ss.length cap := f0
            replace f1 : V 1 = .int .i64 k := f1
            replace f2 : V 2 = .pointer (some ⟨b, off + k, none⟩) := f2
            replace f3 : V 3 = .string ss[k] := f3
            replace f4 : V 4 = .string z := f4
            replace f5 : V 5 = .int .u8 c.toNat := f5
            replace f6 : V 6 = .bool false := f6
            simp only [f0, f1, f2, f3, f4, f5, f6]
            clear f0 f1 f2 f3 f4 f5 f6
            have HX2 : Hid ((ss.take (k + 1)).any (hasByte c) = false) := by
              rw [Hid, List.take_succ_eq_append_getElem hlt, List.any_append, HX.out]; simp [HP.out]
            replace q0 := (hbR.cell (p := ⟨b, off + k, none⟩) hbr).trans q0
            by_cases hk0 : k = 0
            · have HN : Hid (J ++ ss[k] = joined (ss.take (k + 1)) z) := by
                rw [Hid, HJ.out]
                subst hk0
                rw [List.take_zero, joined_nil, List.take_succ_eq_append_getElem hlt, List.take_zero, List.nil_append, joined_one, ByteArray.empty_append]
              have hk1 : ¬ (0 : Int) < k := by omega
              have HK := hid hk0
              clear hk0
              have hcat : ¬ 9223372036854775807 < J.size + ss[k].size := by omega
              by_cases hz : (J ++ ss[k]).size ≤ 4000
              · have hzz : (J ++ ss[k]).size = J.size + ss[k].size := by simp only [ByteArray.size_append]
                have hz' : ¬ (4000 : Int) < (J ++ ss[k]).size := by omega
                go_wp2_with fail
                go_roundw
                case rel => exact ⟨k + 1, J ++ ss[k], by omega, by go_num, rfl, HN, hz, HX2, HW.out.trans (hbR.mono HW.out.size)⟩
                case measure => simp [intOf]; omega
              · have HO : Hid (joinOk ss z = false) := by
                  have h2 := joined_take ss z (k + 1)
                  have h3 := HN.out
                  rw [← h3] at h2
                  rw [Hid, HA.out, show decide ((joined ss z).size ≤ 4000) = false from decide_eq_false (by omega), Bool.and_false]
                have HR : Hid (joinR ss z = ByteArray.empty) := by rw [Hid, joinR, HO.out]; rfl
                have hzz : (J ++ ss[k]).size = J.size + ss[k].size := by simp only [ByteArray.size_append]
                have hz' : (4000 : Int) < ((J.size + ss[k].size : Nat) : Int) := by omega
                have hz2 : (4000 : Int) < (J.size : Int) + (ss[k].size : Int) := by omega
                clear hz
                go_wp2_with fail
                go_ret2
                exact Gives.mk (by rw [HO.out, HR.out]; rfl) (HW.out.trans (hbR.mono HW.out.size))
            · have HN : Hid (J ++ z ++ ss[k] = joined (ss.take (k + 1)) z) := by
                rw [Hid, HJ.out, List.take_succ_eq_append_getElem hlt, joined_grow _ _ _ (fun e => by have h := congrArg List.length e; rw [List.length_take, List.length_nil] at h; omega)]
              have hk1 : (0 : Int) < k := by omega
              clear hk0
              have hcat : ¬ 9223372036854775807 < J.size + z.size := by have := H1.out; omega
              have hcat2 : ¬ 9223372036854775807 < J.size + z.size + ss[k].size := by have := H1.out; omega
              by_cases hz : (J ++ z ++ ss[k]).size ≤ 4000
              · have hzz : (J ++ z ++ ss[k]).size = J.size + z.size + ss[k].size := by simp only [ByteArray.size_append]
                have hz' : ¬ (4000 : Int) < (J ++ z ++ ss[k]).size := by omega
                go_wp2_with fail
                go_roundw
                case rel => exact ⟨k + 1, J ++ z ++ ss[k], by omega, by go_num, rfl, HN, hz, HX2, HW.out.trans (hbR.mono HW.out.size)⟩
                case measure => simp [intOf]; omega
              · have HO : Hid (joinOk ss z = false) := by
                  have h2 := joined_take ss z (k + 1)
                  have h3 := HN.out
                  rw [← h3] at h2
                  rw [Hid, HA.out, show decide ((joined ss z).size ≤ 4000) = false from decide_eq_false (by omega), Bool.and_false]
                have HR : Hid (joinR ss z = ByteArray.empty) := by rw [Hid, joinR, HO.out]; rfl
                have hzz : (J ++ z ++ ss[k]).size = J.size + z.size + ss[k].size := by simp only [ByteArray.size_append]
                have hz' : (4000 : Int) < ((J.size + z.size + ss[k].size : Nat) : Int) := by omega
                have hz2 : (4000 : Int) < (J.size : Int) + (z.size : Int) + (ss[k].size : Int) := by omega
                clear hz
                go_wp2_with fail
                go_ret2
                exact Gives.mk (by rw [HO.out, HR.out]; rfl) (HW.out.trans (hbR.mono HW.out.size))
        · obtain rfl : k = ss.length := by omega
          have HO : Hid (joinOk ss z = true) := by
            have h2 := HX.out
            have h3 := HJ.out
            rw [List.take_length] at h2 h3
            rw [Hid, HA.out, h2, ← h3]; simp [hJ]
          have HR : Hid (joinR ss z = J) := by
            have h3 := HJ.out
            rw [List.take_length] at h3
            rw [Hid, joinR, HO.out, h3]; rfl
          go_wp2_with fail
          go_ret2
          exact Gives.mk (by rw [HO.out, HR.out]; rfl) hb
  · have HO : Hid (joinOk ss s = false) := by simp [Hid, joinOk, h1]
    have HR : Hid (joinR ss s = ByteArray.empty) := by rw [Hid, joinR, HO.out]; rfl
    have hq1 : ((s.size : Int) != 1) = true := by simp; omega
    have H1 := hid h1
    clear h1
    go_enter Tryd.func37, Tryd.ntmps37
    go_wp2_with fail
    go_ret2
    exact Gives.mk (by rw [HO.out, HR.out]; rfl) (Below.refl _ _)
end Go.Proofs.YtgbfcaehijpgcaaDoor
