/- Several texts in one file. -/
import Derived.Test.YtooocakkjdhfiaaGreatDoorQ06
import Derived.Test.YtooocakkjdhfiaaGreatDoorQ02
import Derived.Test.YtooocakkjdhfiaaGreatDoorQ05
/- The reference tells names of variables and of symbols. -/
namespace Go.Proofs.YtooocakkjdhfiaaGreatDoor
set_option maxRecDepth 100000
open Go.RowKit

set_option maxHeartbeats 2000000 in
theorem l2Var_any (s : ByteArray) (hs : s.size ≤ maxLen) (w : World) : Calls Tryz.prog 71 #[.string s] w fun e w' => e = .returned (.bool (varName s)) ∧ w = w' := by
  unfold maxLen at hs
  have HV : Hid (varName s = (allCh varCh s s.size && decide (1 ≤ s.size) && decide (s.size ≤ 4))) := rfl
  by_cases hin : 1 ≤ s.size ∧ s.size ≤ 4
  · have HI := inB_yes (n := s.size) (lo := 1) (hi := 4) (by omega) (by omega)
    have h0 : 0 < s.size := by omega
    have h0' : (0 : Int) < s.size := by omega
    have hbe := byteAt_eq h0
    have hlt256 := byteAt_lt s 0
    by_cases hu : 65 ≤ byteAt s 0
    · by_cases hu2 : byteAt s 0 ≤ 90
      · have H0 : Hid (allCh varCh s 1 = true) := by rw [Hid, allCh_succ, allCh_zero]; simp [varCh, upB, hu, hu2]
        have hq1 : ((byteAt s 0 : Int) < 65) = False := by simp; omega
        have hq2 : ¬ ((90 : Int) < (byteAt s 0 : Int)) := by omega
        go_enter Tryz.func71, Tryz.ntmps71
        go_wp2_with (first | (go_at_call 72; refine (l1In_any _ _ _ _).mono ?_; rintro e w' ⟨rfl, rfl⟩; rw [HI]))
        clear hq1 hq2 hbe
        go_loop [3] (fun i => ∃ k : Nat, 1 ≤ k ∧ k ≤ s.size ∧ i = .int .i64 k ∧ Hid (allCh varCh s k = true)) (fun i => s.size - (intOf i).toNat)
        case atStart => exact ⟨1, Nat.le_refl _, h0, rfl, H0⟩
        case round =>
          obtain ⟨k, hk1, hk, rfl, HX⟩ := hrel
          by_cases hlt : k < s.size
          · have hbe := byteAt_eq hlt
            have hstep := hid (allCh_succ varCh s k)
            have hlt0 : (k : Int) < s.size := by omega
            have hk0 : k ≠ 0 := by omega
            by_cases HA : (lowB (byteAt s k) || digB (byteAt s k)) = true
            · have HS : Hid (allCh varCh s (k + 1) = true) := by rw [Hid, hstep.out, HX.out]; simp only [varCh, hk0, if_false, HA]; rfl
              go_wp2_with (first | (go_at_call 73; refine (l2Small_any _ _).mono ?_; rintro e w' ⟨rfl, rfl⟩; rw [HA]))
              go_round
              case rel => exact ⟨k + 1, by omega, by omega, by go_num, HS⟩
              case measure => simp [intOf]; omega
            · replace HA : (lowB (byteAt s k) || digB (byteAt s k)) = false := Bool.eq_false_iff.2 HA
              have HS : Hid (varName s = false) := by rw [Hid, HV.out, allCh_no hlt (by simp only [varCh, hk0, if_false, HA])]; rfl
              go_wp2_with (first | (go_at_call 73; refine (l2Small_any _ _).mono ?_; rintro e w' ⟨rfl, rfl⟩; rw [HA]))
              go_ret
              exact ⟨ret_bool HS.out.symm, rfl⟩
          · obtain rfl : k = s.size := by omega
            have HS : Hid (varName s = true) := by rw [Hid, HV.out, HX.out]; simp [hin]
            go_wp2_with fail
            go_ret
            exact ⟨ret_bool HS.out.symm, rfl⟩
      · have HS : Hid (varName s = false) := by rw [Hid, HV.out, allCh_no h0 (by simp [varCh, upB, hu2])]; rfl
        go_enter Tryz.func71, Tryz.ntmps71
        go_wp2_with (first | (go_at_call 72; refine (l1In_any _ _ _ _).mono ?_; rintro e w' ⟨rfl, rfl⟩; rw [HI]))
        go_ret
        exact ⟨ret_bool HS.out.symm, rfl⟩
    · have HS : Hid (varName s = false) := by rw [Hid, HV.out, allCh_no h0 (by simp [varCh, upB, hu])]; rfl
      go_enter Tryz.func71, Tryz.ntmps71
      go_wp2_with (first | (go_at_call 72; refine (l1In_any _ _ _ _).mono ?_; rintro e w' ⟨rfl, rfl⟩; rw [HI]))
      go_ret
      exact ⟨ret_bool HS.out.symm, rfl⟩
  · have HI := inB_no (n := s.size) (lo := 1) (hi := 4) (by omega)
    have HS : Hid (varName s = false) := by rw [Hid, HV.out, Bool.eq_false_iff]; intro e; simp at e; omega
    go_enter Tryz.func71, Tryz.ntmps71
    go_wp2_with (first | (go_at_call 72; refine (l1In_any _ _ _ _).mono ?_; rintro e w' ⟨rfl, rfl⟩; rw [HI]))
    go_ret
    exact ⟨ret_bool HS.out.symm, rfl⟩

/-- the string is none of the reserved: each comparison fails -/
theorem notReserved {s : ByteArray} (h : hasStr reservedL s = false) (r : ByteArray) (hr : r ∈ reservedL) (l : List UInt8) (hl : r.data.toList = l) : (s.toList == l) = false := by
  subst hl
  rw [← ByteArray.toList_eq]
  refine toList_ne fun e => ?_
  subst e
  rw [(hasStr_iff _ _).2 hr] at h
  exact absurd h (by simp)

set_option maxHeartbeats 4000000 in
theorem l2Symbol_any (s : ByteArray) (hs : s.size ≤ maxLen) (w : World) : Calls Tryz.prog 50 #[.string s] w fun e w' => e = .returned (.bool (symName s)) ∧ w = w' := by
  unfold maxLen at hs
  have HV : Hid (symName s = (allCh symCh s s.size && decide (1 ≤ s.size) && decide (s.size ≤ 6) && !hasStr reservedL s)) := rfl
  by_cases hin : 1 ≤ s.size ∧ s.size ≤ 6
  · have HI := inB_yes (n := s.size) (lo := 1) (hi := 6) (by omega) (by omega)
    have h0 : 0 < s.size := by omega
    have h0' : (0 : Int) < s.size := by omega
    have hbe := byteAt_eq h0
    have hlt256 := byteAt_lt s 0
    by_cases hu : 97 ≤ byteAt s 0
    · by_cases hu2 : byteAt s 0 ≤ 122
      · have H0 : Hid (allCh symCh s 1 = true) := by rw [Hid, allCh_succ, allCh_zero]; simp [symCh, lowB, hu, hu2]
        have hq1 : ((byteAt s 0 : Int) < 97) = False := by simp; omega
        have hq2 : ¬ ((122 : Int) < (byteAt s 0 : Int)) := by omega
        by_cases hr : hasStr reservedL s = true
        · have HS : Hid (symName s = false) := by rw [Hid, HV.out, hr]; simp
          have hm := (hasStr_iff _ _).1 hr
          clear hr HV H0
          simp only [reservedL, List.mem_cons, List.not_mem_nil, or_false] at hm
          rcases hm with e | e | e | e | e | e | e | e
          all_goals
            have hl : s.toList = _ := (congrArg ByteArray.toList e).trans (ByteArray.toList_eq _)
            have HE := hid e
            clear e
            go_enter Tryz.func50, Tryz.ntmps50
            go_wp2_with (first | (go_at_call 72; refine (l1In_any _ _ _ _).mono ?_; rintro e w' ⟨rfl, rfl⟩; rw [HI]))
            go_ret
            exact ⟨ret_bool HS.out.symm, rfl⟩
        · replace hr : hasStr reservedL s = false := by simpa using hr
          have n0 : (s.toList == [116, 114, 117, 101]) = false := notReserved hr ⟨#[116, 114, 117, 101]⟩ (by simp [reservedL]) _ rfl
          have n1 : (s.toList == [102, 97, 108, 115, 101]) = false := notReserved hr ⟨#[102, 97, 108, 115, 101]⟩ (by simp [reservedL]) _ rfl
          have n2 : (s.toList == [116, 114, 117, 116, 104]) = false := notReserved hr ⟨#[116, 114, 117, 116, 104]⟩ (by simp [reservedL]) _ rfl
          have n3 : (s.toList == [98, 111, 116, 104]) = false := notReserved hr ⟨#[98, 111, 116, 104]⟩ (by simp [reservedL]) _ rfl
          have n4 : (s.toList == [101, 105, 116, 104, 101, 114]) = false := notReserved hr ⟨#[101, 105, 116, 104, 101, 114]⟩ (by simp [reservedL]) _ rfl
          have n5 : (s.toList == [105, 102]) = false := notReserved hr ⟨#[105, 102]⟩ (by simp [reservedL]) _ rfl
          have n6 : (s.toList == [97, 108, 108]) = false := notReserved hr ⟨#[97, 108, 108]⟩ (by simp [reservedL]) _ rfl
          have n7 : (s.toList == [115, 111, 109, 101]) = false := notReserved hr ⟨#[115, 111, 109, 101]⟩ (by simp [reservedL]) _ rfl
          have HR := hid hr
          clear hr
          go_enter Tryz.func50, Tryz.ntmps50
          go_wp2_with (first | (go_at_call 72; refine (l1In_any _ _ _ _).mono ?_; rintro e w' ⟨rfl, rfl⟩; rw [HI]))
          clear hq1 hq2 hbe
          go_loop [3] (fun i => ∃ k : Nat, 1 ≤ k ∧ k ≤ s.size ∧ i = .int .i64 k ∧ Hid (allCh symCh s k = true)) (fun i => s.size - (intOf i).toNat)
          case atStart => exact ⟨1, Nat.le_refl _, h0, rfl, H0⟩
          case round =>
            obtain ⟨k, hk1, hk, rfl, HX⟩ := hrel
            by_cases hlt : k < s.size
            · have hbe := byteAt_eq hlt
              have hstep := hid (allCh_succ symCh s k)
              have hlt0 : (k : Int) < s.size := by omega
              have hk0 : k ≠ 0 := by omega
              by_cases HA : (lowB (byteAt s k) || digB (byteAt s k)) = true
              · have HS : Hid (allCh symCh s (k + 1) = true) := by rw [Hid, hstep.out, HX.out]; simp only [symCh, hk0, if_false, HA]; rfl
                go_wp2_with (first | (go_at_call 73; refine (l2Small_any _ _).mono ?_; rintro e w' ⟨rfl, rfl⟩; rw [HA]))
                go_round
                case rel => exact ⟨k + 1, by omega, by omega, by go_num, HS⟩
                case measure => simp [intOf]; omega
              · replace HA : (lowB (byteAt s k) || digB (byteAt s k)) = false := Bool.eq_false_iff.2 HA
                by_cases hv : byteAt s k = 95
                · have HS : Hid (allCh symCh s (k + 1) = true) := by rw [Hid, hstep.out, HX.out]; simp only [symCh, hk0, if_false, hv]; rfl
                  have hq : ((byteAt s k : Int) != 95) = false := by rw [hv]; rfl
                  have hq' : ((byteAt s k : Int) == 95) = true := by rw [hv]; rfl
                  clear hv
                  go_wp2_with (first | (go_at_call 73; refine (l2Small_any _ _).mono ?_; rintro e w' ⟨rfl, rfl⟩; rw [HA]))
                  go_round
                  case rel => exact ⟨k + 1, by omega, by omega, by go_num, HS⟩
                  case measure => simp [intOf]; omega
                · have HS : Hid (symName s = false) := by rw [Hid, HV.out, allCh_no hlt (by simp only [symCh, hk0, if_false, HA]; simpa using hv)]; rfl
                  have hq : ((byteAt s k : Int) != 95) = true := by rw [bne_iff_ne]; omega
                  have hq' : ((byteAt s k : Int) == 95) = false := by rw [beq_eq_false_iff_ne]; omega
                  clear hv
                  go_wp2_with (first | (go_at_call 73; refine (l2Small_any _ _).mono ?_; rintro e w' ⟨rfl, rfl⟩; rw [HA]))
                  go_ret
                  exact ⟨ret_bool HS.out.symm, rfl⟩
            · obtain rfl : k = s.size := by omega
              have HS : Hid (symName s = true) := by rw [Hid, HV.out, HX.out, HR.out]; simp [hin]
              go_wp2_with fail
              go_ret
              exact ⟨ret_bool HS.out.symm, rfl⟩
      · have HS : Hid (symName s = false) := by rw [Hid, HV.out, allCh_no h0 (by simp [symCh, lowB, hu2])]; rfl
        go_enter Tryz.func50, Tryz.ntmps50
        go_wp2_with (first | (go_at_call 72; refine (l1In_any _ _ _ _).mono ?_; rintro e w' ⟨rfl, rfl⟩; rw [HI]))
        go_ret
        exact ⟨ret_bool HS.out.symm, rfl⟩
    · have HS : Hid (symName s = false) := by rw [Hid, HV.out, allCh_no h0 (by simp [symCh, lowB, hu])]; rfl
      go_enter Tryz.func50, Tryz.ntmps50
      go_wp2_with (first | (go_at_call 72; refine (l1In_any _ _ _ _).mono ?_; rintro e w' ⟨rfl, rfl⟩; rw [HI]))
      go_ret
      exact ⟨ret_bool HS.out.symm, rfl⟩
  · have HI := inB_no (n := s.size) (lo := 1) (hi := 6) (by omega)
    have HS : Hid (symName s = false) := by rw [Hid, HV.out, Bool.eq_false_iff]; intro e; simp at e; omega
    go_enter Tryz.func50, Tryz.ntmps50
    go_wp2_with (first | (go_at_call 72; refine (l1In_any _ _ _ _).mono ?_; rintro e w' ⟨rfl, rfl⟩; rw [HI]))
    go_ret
    exact ⟨ret_bool HS.out.symm, rfl⟩
end Go.Proofs.YtooocakkjdhfiaaGreatDoor
/- The program and the reference tell valid terms: names and numbers of arguments. -/
namespace Go.Proofs.YtooocakkjdhfiaaGreatDoor
set_option maxRecDepth 100000
open Go.RowKit

/-- f tells whether p holds of a term -/
def PredIs (f : FuncId) (p : Tm → Bool) (t : Tm) : Prop := ∀ ⦃S : Nat → Prop⦄ ⦃c0 c1 : Value⦄ ⦃w : World⦄, Tm.at S w c0 c1 t → t.bulk ≤ 1048576 → Calls Tryz.prog f #[.agg #[c0, c1]] w (Gives w (.bool (p t)))

theorem Tm.bulk_at {ts : List Tm} {k : Nat} (hk : k < ts.length) : ts[k].bulk ≤ Tm.bulks ts := Tm.bulk_mem (List.getElem_mem hk)

/-- function f has a body: a call of its value enters it -/
def Callable (f : FuncId) : Prop := ∀ (args : Array Value) (w : World), Sem.run Tryz.prog (callFunc f args) w = .ok (.enter f args) w

/-- r tells whether p holds of some term of the list -/
def FoundT (ts : List Tm) (p : Tm → Bool) (w : World) (e : Ending) (w' : World) : Prop := ∃ r : Int, e = .returned (.int .i64 r) ∧ ((0 ≤ r ∧ ts.any p = true) ∨ (r < 0 ∧ ts.any p = false)) ∧ Below w.heap.size w w'

set_option maxHeartbeats 400000 in
theorem indexFuncT (f : FuncId) (hcf : Callable f) (p : Tm → Bool) (ts : List Tm) (h : ∀ t ∈ ts, PredIs f p t) {S : Nat → Prop} {v : Value} {w : World} (hs : D.rd S w v (Tm.sd ts)) (hbk : Tm.bulks ts ≤ 1048576) :
    Calls Tryz.prog 126 #[v, .func (.func f) #[] #[]] w (FoundT ts p w) := by
  obtain ⟨a, cap, rfl, hlen, hcap⟩ := Tm.sd_form hs
  unfold big at hlen
  go_enter Tryz.func126, Tryz.ntmps126
  go_wp2_with fail
  go_loopw [8] (fun i wr => ∃ k : Nat, k ≤ ts.length ∧ i = .int .i64 k ∧ Hid ((ts.take k).any p = false) ∧ Below w.heap.size w wr) (fun i _ => ts.length - (intOf i).toNat)
  case atStart => exact ⟨0, Nat.zero_le _, rfl, by simp [Hid], Below.refl _ _⟩
  case round =>
    obtain ⟨k, hk, rfl, HX, hb⟩ := hrel
    have hbw := hb
    by_cases hlt : k < ts.length
    · have hne : ts ≠ [] := by intro e; subst e; simp at hlt
      obtain ⟨b, off, rfl, hS, hbl, hrr⟩ := Tm.sd_get hs hne
      obtain ⟨c0, c1, q0, q1, q2⟩ := hrr k hlt
      obtain ⟨rfl, -, x, xc, rfl⟩ := Tm.at_form q2
      replace q0 := (hbw.cell (p := ⟨b, off + k * 2, none⟩) hbl).trans q0
      replace q1 := (hbw.cell (p := ⟨b, off + k * 2 + 1, none⟩) hbl).trans q1
      replace q2 := Tm.at_keep (Keeps.all hbw) q2
      have hmem := h ts[k] (List.getElem_mem hlt)
      clear hs hrr
      have hbm : ts[k].bulk ≤ 1048576 := Nat.le_trans (Tm.bulk_at hlt) hbk
      unfold Callable at hcf
      go_wp2_with fail
      refine (hmem q2 hbm).mono ?_
      rintro e w2 ⟨_, rfl, hb2, rfl⟩
      by_cases hp : p ts[k] = true
      · have HF : Hid (ts.any p = true) := List.any_eq_true.2 ⟨_, List.getElem_mem hlt, hp⟩
        rw [hp]
        clear hp
        go_wp2_with fail
        go_ret
        exact ⟨k, rfl, .inl ⟨by omega, HF.out⟩, hb.trans (hb2.mono hb.size)⟩
      · have HF : Hid ((ts.take (k + 1)).any p = false) := by
          rw [Hid, List.take_succ_eq_append_getElem hlt, List.any_append, HX.out]; simpa using hp
        rw [Bool.eq_false_iff.2 hp]
        clear hp
        go_wp2_with fail
        go_roundw
        case rel => exact ⟨k + 1, by omega, by go_num, HF, hb.trans (hb2.mono hb.size)⟩
        case measure => simp [intOf]; omega
    · obtain rfl : k = ts.length := by omega
      have HF : Hid (ts.any p = false) := by have := HX.out; rwa [List.take_length] at this
      go_wp2_with fail
      go_ret
      exact ⟨-1, rfl, .inr ⟨by omega, HF.out⟩, hb⟩

set_option maxHeartbeats 400000 in
theorem containsFuncT (f : FuncId) (hcf : Callable f) (p : Tm → Bool) (ts : List Tm) (h : ∀ t ∈ ts, PredIs f p t) {S : Nat → Prop} {v : Value} {w : World} (hs : D.rd S w v (Tm.sd ts)) (hbk : Tm.bulks ts ≤ 1048576) :
    Calls Tryz.prog 103 #[v, .func (.func f) #[] #[]] w (Gives w (.bool (ts.any p))) := by
  go_enter Tryz.func103, Tryz.ntmps103
  go_wp2_with fail
  refine (indexFuncT f hcf p ts h hs hbk).mono ?_
  rintro e w' ⟨r, rfl, hr, hb⟩
  rcases hr with ⟨h0, h1⟩ | ⟨h0, h1⟩
  · have H := hid h1
    clear h1
    go_wp2_with fail
    go_ret
    exact Gives.mk (ret_bool H.out.symm) hb
  · have H := hid h1
    clear h1
    go_wp2_with fail
    go_ret
    exact Gives.mk (ret_bool (by rw [H.out]; simp; omega)) hb

set_option maxHeartbeats 400000 in
theorem hasNames1_of {t : Tm} (h : PredIs 86 Tm.names t) : PredIs 104 (fun t => !t.names) t := by
  intro S c0 c1 w hT hbk
  obtain ⟨rfl, hn, a, cap, rfl⟩ := Tm.at_form hT
  have hW : Below w.heap.size w (w.alloc (.cells #[.string t.name, .slice a t.args.length cap] 50)) := (Below.refl _ _).alloc (Nat.le_refl _) _
  have bT : Box (w.alloc (.cells #[.string t.name, .slice a t.args.length cap] 50)) w.heap.size [.string t.name, .slice a t.args.length cap] := Box.new w _ _
  replace hT := Tm.at_keep (Keeps.all hW) hT
  go_enter Tryz.func104, Tryz.ntmps104
  go_wp2_with fail
  generalize (w.alloc (.cells #[.string t.name, .slice a t.args.length cap] 50)) = w0 at *
  refine (h hT hbk).mono ?_
  rintro e w1 ⟨_, rfl, hb, rfl⟩
  replace hW := hW.trans (hb.mono hW.size)
  replace bT := bT.keep hb
  replace hT := Tm.at_keep (Keeps.all hb) hT
  clear hb
  have eT0 := bT.c0
  have eT1 := bT.c1
  have lT := bT.lt
  go_wp2_with fail
  clear eT0 eT1 lT
  go_ret
  exact Gives.mk rfl hW

theorem callable1 : Callable 104 := fun _ _ => by kernel_rfl

theorem Tm.any_names (ts : List Tm) : ts.any (fun t => !t.names) = !Tm.namesAll ts := by
  rw [Bool.eq_iff_iff]
  simp only [List.any_eq_true, Bool.not_eq_true', Bool.eq_false_iff, Ne, Tm.namesAll_iff]
  constructor
  · rintro ⟨t, ht, hn⟩ h; exact hn (h t ht)
  · intro h
    refine Classical.byContradiction fun hc => h fun t ht => Classical.byContradiction fun hn => hc ⟨t, ht, hn⟩

set_option maxHeartbeats 1000000 in
theorem hasNames_of (n : ByteArray) (ts : List Tm) (h : ∀ t ∈ ts, PredIs 86 Tm.names t) : PredIs 86 Tm.names (.node n ts) := by
  intro S c0 c1 w hT hbk
  generalize ht : Tm.node n ts = t at *
  obtain ⟨rfl, hn, a, cap, rfl⟩ := Tm.at_form hT
  have hW : Below w.heap.size w (w.alloc (.cells #[.string t.name, .slice a t.args.length cap] 50)) := (Below.refl _ _).alloc (Nat.le_refl _) _
  have bT : Box (w.alloc (.cells #[.string t.name, .slice a t.args.length cap] 50)) w.heap.size [.string t.name, .slice a t.args.length cap] := Box.new w _ _
  replace hT := Tm.at_keep (Keeps.all hW) hT
  go_enter Tryz.func86, Tryz.ntmps86
  go_wp2_with fail
  generalize (w.alloc (.cells #[.string t.name, .slice a t.args.length cap] 50)) = w0 at *
  subst ht
  simp only [Tm.name, Tm.args] at *
  by_cases hv : varName n = true
  · have HN : Hid (Tm.names (.node n ts) = ts.isEmpty) := by rw [Hid, Tm.names, if_pos hv]
    refine (isVariable_any n hn _).mono ?_
    rintro e w' ⟨rfl, rfl⟩
    rw [hv]
    have eT0 := bT.c0
    have eT1 := bT.c1
    go_wp2_with fail
    go_ret
    exact Gives.mk (ret_bool (by rw [HN.out]; cases ts <;> simp; omega)) hW
  · replace hv : varName n = false := by simpa using hv
    have HN : Hid (Tm.names (.node n ts) = (symName n && decide (ts.length ≤ 4) && Tm.namesAll ts)) := by rw [Hid, Tm.names, hv]; rfl
    refine (isVariable_any n hn _).mono ?_
    rintro e w' ⟨rfl, rfl⟩
    rw [hv]
    clear hv
    have eT0 := bT.c0
    have eT1 := bT.c1
    go_wp2_with fail
    clear eT0 eT1
    refine (isSymbol_any n hn _).mono ?_
    rintro e w1 ⟨_, rfl, hb, rfl⟩
    replace hW := hW.trans (hb.mono hW.size)
    replace bT := bT.keep hb
    replace hT := Tm.at_keep (Keeps.all hb) hT
    clear hb
    have eT0 := bT.c0
    have eT1 := bT.c1
    by_cases hsy : symName n = true
    · by_cases h4 : ts.length ≤ 4
      · have HM : Hid (Tm.names (.node n ts) = Tm.namesAll ts) := by rw [Hid, HN.out, hsy]; simp [h4]
        have h4' : ((ts.length : Int) ≤ 4) := by omega
        rw [hsy]
        clear hsy
        go_wp2_with fail
        clear eT0 eT1
        refine (containsFuncT 104 callable1 (fun t => !t.names) ts (fun t ht => hasNames1_of (h t ht)) hT.2 (by rw [Tm.bulk] at hbk; omega)).mono ?_
        rintro e w2 ⟨_, rfl, hb, rfl⟩
        rw [Tm.any_names]
        go_wp2_with fail
        go_ret
        exact Gives.mk (ret_bool (by rw [HM.out])) (hW.trans (hb.mono hW.size))
      · have HM : Hid (Tm.names (.node n ts) = false) := by rw [Hid, HN.out]; simp [h4]
        have h4' : ¬ ((ts.length : Int) ≤ 4) := by omega
        rw [hsy]
        clear hsy
        go_wp2_with fail
        go_ret
        exact Gives.mk (ret_bool HM.out.symm) hW
    · replace hsy : symName n = false := by simpa using hsy
      have HM : Hid (Tm.names (.node n ts) = false) := by rw [Hid, HN.out, hsy]; rfl
      rw [hsy]
      clear hsy
      go_wp2_with fail
      go_ret
      exact Gives.mk (ret_bool HM.out.symm) hW
theorem hasNames_any (t : Tm) : PredIs 86 Tm.names t := Tm.ind (P := fun t => PredIs 86 Tm.names t) (fun n ts h => hasNames_of n ts h) t

set_option maxHeartbeats 1000000 in
theorem l2Nodes_of (n : ByteArray) (ts : List Tm) (h : ∀ t ∈ ts, PredIs 49 Tm.names t) : PredIs 49 Tm.names (.node n ts) := by
  intro S c0 c1 w hr hbk
  obtain ⟨rfl, hn, a, cap, rfl⟩ := Tm.at_form hr
  have hs := hr.2
  simp only [Tm.name, Tm.args] at hs hn ⊢
  clear hr
  obtain ⟨a', cap', he, hlen, hcap⟩ := Tm.sd_form hs
  injection he with e0 e1 e2
  subst e0 e2
  clear e1
  unfold big at hlen
  by_cases hv : varName n = true
  · have HN : Hid (Tm.names (.node n ts) = ts.isEmpty) := by rw [Hid, Tm.names, if_pos hv]
    go_enter Tryz.func49, Tryz.ntmps49
    go_wp2_with (first | (go_at_call 71; refine (l2Var_any _ hn _).mono ?_; rintro e w' ⟨rfl, rfl⟩; rw [hv]))
    go_ret
    exact Gives.mk (ret_bool (by rw [HN.out]; cases ts <;> simp; omega)) ((Below.refl _ _).alloc (Nat.le_refl _) _)
  · replace hv : varName n = false := by simpa using hv
    have HN : Hid (Tm.names (.node n ts) = (symName n && decide (ts.length ≤ 4) && Tm.namesAll ts)) := by rw [Hid, Tm.names, hv]; rfl
    by_cases hsy : symName n = true
    · by_cases h4 : ts.length ≤ 4
      · have HM : Hid (Tm.names (.node n ts) = Tm.namesAll ts) := by rw [Hid, HN.out, hsy]; simp [h4]
        have h4' : ¬ ((4 : Int) < (ts.length : Int)) := by omega
        go_enter Tryz.func49, Tryz.ntmps49
        go_wp2_with (first | (go_at_call 71; refine (l2Var_any _ hn _).mono ?_; rintro e w' ⟨rfl, rfl⟩; rw [hv]) | (go_at_call 50; refine (l2Symbol_any _ hn _).mono ?_; rintro e w' ⟨rfl, rfl⟩; rw [hsy]))
        clear h4'
        go_loopw [3] (fun i wr => ∃ (k : Nat), k ≤ ts.length ∧ i = .int .i64 k ∧ Hid (Tm.namesAll (ts.take k) = true) ∧ Below (w.heap.size + 1) (w.alloc (.cells #[.string n, .slice a ts.length cap] 50)) wr) (fun i _ => ts.length - (intOf i).toNat)
        case atStart => exact ⟨0, Nat.zero_le _, rfl, by simp [Hid, Tm.namesAll], Below.refl _ _⟩
        case round =>
          obtain ⟨k, hk, rfl, HX, hb⟩ := hrel
          have hbw : Below w.heap.size w wr := ((Below.refl _ _).alloc (Nat.le_refl _) _).trans (hb.mono (by omega))
          have hz := hb.size
          simp only [World.size_alloc] at hz
          have hz0 : w.heap.size < wr.heap.size := by omega
          have e10 : wr.cell? ⟨w.heap.size, 0, none⟩ = some (.string n) := (hb.cell (by simp)).trans (box1 _ _ _ _)
          have e11 : wr.cell? ⟨w.heap.size, 1, none⟩ = some (.slice a ts.length cap) := (hb.cell (by simp)).trans (box1 _ _ _ _)
          by_cases hlt : k < ts.length
          · have hne : ts ≠ [] := by intro e; subst e; simp at hlt
            obtain ⟨b, off, rfl, hS, hbl, hrr⟩ := Tm.sd_get hs hne
            obtain ⟨c0, c1, q0, q1, q2⟩ := hrr k hlt
            obtain ⟨rfl, -, x, xc, rfl⟩ := Tm.at_form q2
            replace q0 := (hbw.cell (p := ⟨b, off + k * 2, none⟩) hbl).trans q0
            replace q1 := (hbw.cell (p := ⟨b, off + k * 2 + 1, none⟩) hbl).trans q1
            replace q2 := Tm.at_keep (Keeps.all hbw) q2
            have hmem := h ts[k] (List.getElem_mem hlt)
            clear hs hrr
            have hst := hid (Tm.namesAll_take ts k hlt)
            have hno := hid (fun hn => Tm.namesAll_no (List.getElem_mem hlt) hn : Tm.names ts[k] = false → Tm.namesAll ts = false)
            have hbm : ts[k].bulk ≤ 1048576 := Nat.le_trans (Tm.bulk_at hlt) (by rw [Tm.bulk] at hbk; omega)
            go_wp2_with fail
            refine (hmem q2 hbm).mono ?_
            rintro e w2 ⟨_, rfl, hb3, rfl⟩
            by_cases hp : Tm.names ts[k] = true
            · have HS : Hid (Tm.namesAll (ts.take (k + 1)) = true) := by rw [Hid, hst.out, HX.out, hp]; rfl
              rw [hp]
              clear hp
              go_wp2_with fail
              go_roundw
              case rel => exact ⟨k + 1, by omega, by go_num, HS, hb.trans (hb3.mono hz)⟩
              case measure => simp [intOf]; omega
            · replace hp : Tm.names ts[k] = false := by simpa using hp
              have HS := hid (hno.out hp)
              rw [hp]
              clear hp
              go_wp2_with fail
              go_ret
              exact Gives.mk (ret_bool (by rw [HM.out, HS.out])) (hbw.trans (hb3.mono hbw.size))
          · obtain rfl : k = ts.length := by omega
            have HS : Hid (Tm.names (.node n ts) = true) := by rw [Hid, HM.out]; have := HX.out; rwa [List.take_length] at this
            go_wp2_with fail
            go_ret
            exact Gives.mk (ret_bool HS.out.symm) hbw
      · have HM : Hid (Tm.names (.node n ts) = false) := by rw [Hid, HN.out]; simp [h4]
        have h4' : (4 : Int) < (ts.length : Int) := by omega
        go_enter Tryz.func49, Tryz.ntmps49
        go_wp2_with (first | (go_at_call 71; refine (l2Var_any _ hn _).mono ?_; rintro e w' ⟨rfl, rfl⟩; rw [hv]) | (go_at_call 50; refine (l2Symbol_any _ hn _).mono ?_; rintro e w' ⟨rfl, rfl⟩; rw [hsy]))
        go_ret
        exact Gives.mk (ret_bool HM.out.symm) ((Below.refl _ _).alloc (Nat.le_refl _) _)
    · replace hsy : symName n = false := by simpa using hsy
      have HM : Hid (Tm.names (.node n ts) = false) := by rw [Hid, HN.out, hsy]; rfl
      go_enter Tryz.func49, Tryz.ntmps49
      go_wp2_with (first | (go_at_call 71; refine (l2Var_any _ hn _).mono ?_; rintro e w' ⟨rfl, rfl⟩; rw [hv]) | (go_at_call 50; refine (l2Symbol_any _ hn _).mono ?_; rintro e w' ⟨rfl, rfl⟩; rw [hsy]))
      go_ret
      exact Gives.mk (ret_bool HM.out.symm) ((Below.refl _ _).alloc (Nat.le_refl _) _)
theorem l2Nodes_any (t : Tm) : PredIs 49 Tm.names t := Tm.ind (P := fun t => PredIs 49 Tm.names t) (fun n ts h => l2Nodes_of n ts h) t
end Go.Proofs.YtooocakkjdhfiaaGreatDoor
/- Small terms, valid terms, valid atoms, expressions. -/
namespace Go.Proofs.YtooocakkjdhfiaaGreatDoor
set_option maxRecDepth 100000
open Go.RowKit

theorem Tm.atom_eq (t : Tm) : t.atom = if t.name = eqSign then decide (t.args.length = 2) && t.small && Tm.namesAll t.args else symName t.name && t.valid := by
  cases t; rw [Tm.atom]; rfl

set_option maxHeartbeats 1000000 in
theorem isSmall_any (t : Tm) : PredIs 85 Tm.small t := by
  intro S c0 c1 w hT hbk
  obtain ⟨rfl, hn, a, cap, rfl⟩ := Tm.at_form hT
  have hW : Below w.heap.size w (w.alloc (.cells #[.string t.name, .slice a t.args.length cap] 50)) := (Below.refl _ _).alloc (Nat.le_refl _) _
  have bT : Box (w.alloc (.cells #[.string t.name, .slice a t.args.length cap] 50)) w.heap.size [.string t.name, .slice a t.args.length cap] := Box.new w _ _
  replace hT := Tm.at_keep (Keeps.all hW) hT
  go_enter Tryz.func85, Tryz.ntmps85
  go_wp2_with fail
  generalize (w.alloc (.cells #[.string t.name, .slice a t.args.length cap] 50)) = w0 at *
  refine (implSize_any t _ _ _ _ hT hbk).mono ?_
  rintro e w1 ⟨r, rfl, hu, hb⟩
  replace hW := hW.trans (hb.mono hW.size)
  replace bT := bT.keep hb
  replace hT := Tm.at_keep (Keeps.all hb) hT
  clear hb
  have eT0 := bT.c0
  have eT1 := bT.c1
  by_cases h30 : t.size ≤ 30
  · have HS : Hid (Tm.small t = decide (t.depth ≤ 8)) := by simp [Hid, Tm.small, h30]
    have h30' : (r : Int) ≤ 30 := by unfold Upto at hu; omega
    clear h30 hu
    go_wp2_with fail
    clear eT0 eT1
    refine (implDepth_any t _ _ _ _ hT hbk).mono ?_
    rintro e w2 ⟨_, rfl, hb, rfl⟩
    go_wp2_with fail
    go_ret
    exact Gives.mk (ret_bool (by rw [HS.out, Bool.eq_iff_iff]; simp; try omega)) (hW.trans (hb.mono hW.size))
  · have HS : Hid (Tm.small t = false) := by simp [Hid, Tm.small, h30]
    have h30' : ¬ (r : Int) ≤ 30 := by unfold Upto at hu; omega
    clear h30 hu
    go_wp2_with fail
    go_ret
    exact Gives.mk (ret_bool HS.out.symm) hW

set_option maxHeartbeats 1000000 in
theorem l2Fits_any (t : Tm) : PredIs 48 Tm.small t := by
  intro S c0 c1 w hT hbk
  obtain ⟨rfl, hn, a, cap, rfl⟩ := Tm.at_form hT
  have hW : Below w.heap.size w (w.alloc (.cells #[.string t.name, .slice a t.args.length cap] 50)) := (Below.refl _ _).alloc (Nat.le_refl _) _
  have bT : Box (w.alloc (.cells #[.string t.name, .slice a t.args.length cap] 50)) w.heap.size [.string t.name, .slice a t.args.length cap] := Box.new w _ _
  replace hT := Tm.at_keep (Keeps.all hW) hT
  go_enter Tryz.func48, Tryz.ntmps48
  go_wp2_with fail
  generalize (w.alloc (.cells #[.string t.name, .slice a t.args.length cap] 50)) = w0 at *
  refine (l2Many_any t 30 _ _ _ _ (by omega) hT hbk).mono ?_
  rintro e w1 ⟨r, rfl, hu, hb⟩
  replace hW := hW.trans (hb.mono hW.size)
  replace bT := bT.keep hb
  replace hT := Tm.at_keep (Keeps.all hb) hT
  clear hb
  have eT0 := bT.c0
  have eT1 := bT.c1
  by_cases h30 : t.size ≤ 30
  · have HS : Hid (Tm.small t = decide (t.depth ≤ 8)) := by simp [Hid, Tm.small, h30]
    have h30' : (r : Int) ≤ 30 := by unfold Upto at hu; omega
    clear h30 hu
    go_wp2_with fail
    clear eT0 eT1
    refine (l2Depth_any t _ _ _ _ hT hbk).mono ?_
    rintro e w2 ⟨_, rfl, hb, rfl⟩
    go_wp2_with fail
    go_ret
    exact Gives.mk (ret_bool (by rw [HS.out, Bool.eq_iff_iff]; simp; try omega)) (hW.trans (hb.mono hW.size))
  · have HS : Hid (Tm.small t = false) := by simp [Hid, Tm.small, h30]
    have h30' : ¬ (r : Int) ≤ 30 := by unfold Upto at hu; omega
    clear h30 hu
    go_wp2_with fail
    go_ret
    exact Gives.mk (ret_bool HS.out.symm) hW

set_option maxHeartbeats 1000000 in
theorem isValidTerm_any (t : Tm) : PredIs 88 Tm.valid t := by
  intro S c0 c1 w hT hbk
  obtain ⟨rfl, hn, a, cap, rfl⟩ := Tm.at_form hT
  have hW : Below w.heap.size w (w.alloc (.cells #[.string t.name, .slice a t.args.length cap] 50)) := (Below.refl _ _).alloc (Nat.le_refl _) _
  have bT : Box (w.alloc (.cells #[.string t.name, .slice a t.args.length cap] 50)) w.heap.size [.string t.name, .slice a t.args.length cap] := Box.new w _ _
  replace hT := Tm.at_keep (Keeps.all hW) hT
  go_enter Tryz.func88, Tryz.ntmps88
  go_wp2_with fail
  generalize (w.alloc (.cells #[.string t.name, .slice a t.args.length cap] 50)) = w0 at *
  by_cases h1 : t.small = true
  · have HS : Hid (Tm.valid t = t.names) := by simp [Hid, Tm.valid, h1]
    refine (isSmall_any t hT hbk).mono ?_
    rintro e w1 ⟨_, rfl, hb, rfl⟩
    replace hW := hW.trans (hb.mono hW.size)
    replace bT := bT.keep hb
    replace hT := Tm.at_keep (Keeps.all hb) hT
    clear hb
    rw [h1]
    have eT0 := bT.c0
    have eT1 := bT.c1
    have lT := bT.lt
    go_wp2_with fail
    clear eT0 eT1 lT
    clear h1
    refine (hasNames_any t hT hbk).mono ?_
    rintro e w1 ⟨_, rfl, hb, rfl⟩
    replace hW := hW.trans (hb.mono hW.size)
    replace bT := bT.keep hb
    replace hT := Tm.at_keep (Keeps.all hb) hT
    clear hb
    have eT0 := bT.c0
    have eT1 := bT.c1
    have lT := bT.lt
    go_wp2_with fail
    clear eT0 eT1 lT
    go_ret
    exact Gives.mk (ret_bool HS.out.symm) hW
  · replace h1 : t.small = false := by simpa using h1
    have HS : Hid (Tm.valid t = false) := by simp [Hid, Tm.valid, h1]
    refine (isSmall_any t hT hbk).mono ?_
    rintro e w1 ⟨_, rfl, hb, rfl⟩
    replace hW := hW.trans (hb.mono hW.size)
    replace bT := bT.keep hb
    replace hT := Tm.at_keep (Keeps.all hb) hT
    clear hb
    rw [h1]
    have eT0 := bT.c0
    have eT1 := bT.c1
    have lT := bT.lt
    go_wp2_with fail
    clear eT0 eT1 lT
    go_ret
    exact Gives.mk (ret_bool HS.out.symm) hW

set_option maxHeartbeats 1000000 in
theorem l2Good_any (t : Tm) : PredIs 51 Tm.valid t := by
  intro S c0 c1 w hT hbk
  obtain ⟨rfl, hn, a, cap, rfl⟩ := Tm.at_form hT
  have hW : Below w.heap.size w (w.alloc (.cells #[.string t.name, .slice a t.args.length cap] 50)) := (Below.refl _ _).alloc (Nat.le_refl _) _
  have bT : Box (w.alloc (.cells #[.string t.name, .slice a t.args.length cap] 50)) w.heap.size [.string t.name, .slice a t.args.length cap] := Box.new w _ _
  replace hT := Tm.at_keep (Keeps.all hW) hT
  go_enter Tryz.func51, Tryz.ntmps51
  go_wp2_with fail
  generalize (w.alloc (.cells #[.string t.name, .slice a t.args.length cap] 50)) = w0 at *
  by_cases h1 : t.small = true
  · have HS : Hid (Tm.valid t = t.names) := by simp [Hid, Tm.valid, h1]
    refine (l2Fits_any t hT hbk).mono ?_
    rintro e w1 ⟨_, rfl, hb, rfl⟩
    replace hW := hW.trans (hb.mono hW.size)
    replace bT := bT.keep hb
    replace hT := Tm.at_keep (Keeps.all hb) hT
    clear hb
    rw [h1]
    have eT0 := bT.c0
    have eT1 := bT.c1
    have lT := bT.lt
    go_wp2_with fail
    clear eT0 eT1 lT
    clear h1
    refine (l2Nodes_any t hT hbk).mono ?_
    rintro e w1 ⟨_, rfl, hb, rfl⟩
    replace hW := hW.trans (hb.mono hW.size)
    replace bT := bT.keep hb
    replace hT := Tm.at_keep (Keeps.all hb) hT
    clear hb
    have eT0 := bT.c0
    have eT1 := bT.c1
    have lT := bT.lt
    go_wp2_with fail
    clear eT0 eT1 lT
    go_ret
    exact Gives.mk (ret_bool HS.out.symm) hW
  · replace h1 : t.small = false := by simpa using h1
    have HS : Hid (Tm.valid t = false) := by simp [Hid, Tm.valid, h1]
    refine (l2Fits_any t hT hbk).mono ?_
    rintro e w1 ⟨_, rfl, hb, rfl⟩
    replace hW := hW.trans (hb.mono hW.size)
    replace bT := bT.keep hb
    replace hT := Tm.at_keep (Keeps.all hb) hT
    clear hb
    rw [h1]
    have eT0 := bT.c0
    have eT1 := bT.c1
    have lT := bT.lt
    go_wp2_with fail
    clear eT0 eT1 lT
    go_ret
    exact Gives.mk (ret_bool HS.out.symm) hW

def Tm.isEq (t : Tm) : Bool := decide (t.name = eqSign)
theorem isEquality_any (t : Tm) : PredIs 84 Tm.isEq t := by
  intro S c0 c1 w hT hbk
  have HE : Hid (Tm.isEq t = (t.name.toList == [61])) := by
    have h : ([61] : List UInt8) = eqSign.toList := by rw [ByteArray.toList_eq]; rfl
    rw [Hid, h, toList_beq]; rfl
  obtain ⟨rfl, hn, a, cap, rfl⟩ := Tm.at_form hT
  have hW : Below w.heap.size w (w.alloc (.cells #[.string t.name, .slice a t.args.length cap] 50)) := (Below.refl _ _).alloc (Nat.le_refl _) _
  have bT : Box (w.alloc (.cells #[.string t.name, .slice a t.args.length cap] 50)) w.heap.size [.string t.name, .slice a t.args.length cap] := Box.new w _ _
  replace hT := Tm.at_keep (Keeps.all hW) hT
  go_enter Tryz.func84, Tryz.ntmps84
  go_wp2_with fail
  generalize (w.alloc (.cells #[.string t.name, .slice a t.args.length cap] 50)) = w0 at *
  go_ret
  exact Gives.mk (ret_bool HE.out.symm) hW
theorem Tm.args_bulk (t : Tm) : Tm.bulks t.args ≤ t.bulk := by cases t; rw [Tm.bulk]; simp [Tm.args]
theorem Tm.namesAll_two {ts : List Tm} (h : ts.length = 2) : Tm.namesAll ts = ((ts[0]'(by omega)).names && (ts[1]'(by omega)).names) := by
  match ts, h with
  | [x, y], _ => simp [Tm.namesAll]

set_option maxHeartbeats 2000000 in
theorem isValidAtom_any (t : Tm) : PredIs 62 Tm.atom t := by
  intro S c0 c1 w hT hbk
  by_cases he : t.isEq = true
  · have hne : t.name = eqSign := by simpa [Tm.isEq] using he
    have HA : Hid (t.atom = (decide (t.args.length = 2) && t.small && Tm.namesAll t.args)) := by rw [Hid, Tm.atom_eq, if_pos hne]
    have hq : (t.name.toList == [61]) = true := by
      have h : ([61] : List UInt8) = eqSign.toList := by rw [ByteArray.toList_eq]; rfl
      rw [h, toList_beq, hne]; simp
    clear hne
    by_cases hl : t.args.length = 2
    · have hl2 : ((t.args.length : Int) == 2) = true := by rw [beq_iff_eq]; omega
      have HL := hid hl
      clear hl
      have hn2 : 2 ≤ t.args.length := by have := HL.out; omega
      obtain ⟨rfl, hn, a, cap, rfl⟩ := Tm.at_form hT
      have hW : Below w.heap.size w (w.alloc (.cells #[.string t.name, .slice a t.args.length cap] 50)) := (Below.refl _ _).alloc (Nat.le_refl _) _
      have bT : Box (w.alloc (.cells #[.string t.name, .slice a t.args.length cap] 50)) w.heap.size [.string t.name, .slice a t.args.length cap] := Box.new w _ _
      replace hT := Tm.at_keep (Keeps.all hW) hT
      go_enter Tryz.func62, Tryz.ntmps62
      go_wp2_with fail
      generalize (w.alloc (.cells #[.string t.name, .slice a t.args.length cap] 50)) = w0 at *
      refine (isEquality_any t hT hbk).mono ?_
      rintro e w1 ⟨_, rfl, hb, rfl⟩
      replace hW := hW.trans (hb.mono hW.size)
      replace bT := bT.keep hb
      replace hT := Tm.at_keep (Keeps.all hb) hT
      clear hb
      rw [he]
      have eT0 := bT.c0
      have eT1 := bT.c1
      have lT := bT.lt
      go_wp2_with fail
      clear eT0 eT1 lT
      clear he hq hl2
      by_cases hsm : t.small = true
      · refine (isSmall_any t hT hbk).mono ?_
        rintro e w1 ⟨_, rfl, hb, rfl⟩
        replace hW := hW.trans (hb.mono hW.size)
        replace bT := bT.keep hb
        replace hT := Tm.at_keep (Keeps.all hb) hT
        clear hb
        rw [hsm]
        have hnn : t.args ≠ [] := by intro e; rw [e] at hn2; simp at hn2
        have i0 : 0 < t.args.length := by omega
        have i1 : 1 < t.args.length := by omega
        obtain ⟨b, off, rfl, hS, hbl, hrr⟩ := Tm.sd_get hT.2 hnn
        obtain ⟨x0, x1, q0, q1, q2⟩ := hrr 0 i0
        obtain ⟨y0, y1, r0, r1, r2⟩ := hrr 1 i1
        clear hrr
        obtain ⟨rfl, -, xa, xc, rfl⟩ := Tm.at_form q2
        obtain ⟨rfl, -, ya, yc, rfl⟩ := Tm.at_form r2
        simp only [Nat.zero_mul, Nat.add_zero, Nat.one_mul] at q0 q1 r0 r1
        have hb0 : t.args[0].bulk ≤ 1048576 := by have := Tm.bulk_at i0; have := Tm.args_bulk t; omega
        have hb1 : t.args[1].bulk ≤ 1048576 := by have := Tm.bulk_at i1; have := Tm.args_bulk t; omega
        have j0 : (0 : Int) < t.args.length := by omega
        have j1 : (1 : Int) < t.args.length := by omega
        have HB : Hid (t.atom = (t.args[0].names && t.args[1].names)) := by
          rw [Hid, HA.out, hsm, Tm.namesAll_two HL.out]; simp [HL.out]
        clear hsm
        have eT0 := bT.c0
        have eT1 := bT.c1
        have lT := bT.lt
        go_wp2_with fail
        clear eT0 eT1 lT
        have HX := hid q0
        refine (hasNames_any (t.args[0]) q2 hb0).mono ?_
        rintro e w2 ⟨_, rfl, hb, rfl⟩
        replace hW := hW.trans (hb.mono hW.size)
        replace bT := bT.keep hb
        replace r0 := (hb.cell (p := ⟨b, off + 2, none⟩) hbl).trans r0
        replace r1 := (hb.cell (p := ⟨b, off + 2 + 1, none⟩) hbl).trans r1
        replace r2 := Tm.at_keep (Keeps.all hb) r2
        clear hb q0 q1 q2 HX
        by_cases hp : t.args[0].names = true
        · have HC : Hid (t.atom = t.args[1].names) := by rw [Hid, HB.out, hp]; rfl
          rw [hp]
          clear hp
          have eT0 := bT.c0
          have eT1 := bT.c1
          have lT := bT.lt
          go_wp2_with fail
          clear eT0 eT1 lT
          refine (hasNames_any (t.args[1]) r2 hb1).mono ?_
          rintro e w3 ⟨_, rfl, hb, rfl⟩
          go_wp2_with fail
          go_ret
          exact Gives.mk (ret_bool HC.out.symm) (hW.trans (hb.mono hW.size))
        · replace hp : t.args[0].names = false := by simpa using hp
          have HC : Hid (t.atom = false) := by rw [Hid, HB.out, hp]; rfl
          rw [hp]
          clear hp
          have eT0 := bT.c0
          have eT1 := bT.c1
          go_wp2_with fail
          go_ret
          exact Gives.mk (ret_bool HC.out.symm) hW
      · replace hsm : t.small = false := by simpa using hsm
        have HS : Hid (t.atom = false) := by rw [Hid, HA.out, hsm]; simp
        refine (isSmall_any t hT hbk).mono ?_
        rintro e w1 ⟨_, rfl, hb, rfl⟩
        replace hW := hW.trans (hb.mono hW.size)
        replace bT := bT.keep hb
        replace hT := Tm.at_keep (Keeps.all hb) hT
        clear hb
        rw [hsm]
        have eT0 := bT.c0
        have eT1 := bT.c1
        have lT := bT.lt
        go_wp2_with fail
        clear eT0 eT1 lT
        go_ret
        exact Gives.mk (ret_bool HS.out.symm) hW
    · have hl2 : ((t.args.length : Int) == 2) = false := by rw [beq_eq_false_iff_ne]; omega
      have HS : Hid (t.atom = false) := by rw [Hid, HA.out]; simp [hl]
      clear hl
      obtain ⟨rfl, hn, a, cap, rfl⟩ := Tm.at_form hT
      have hW : Below w.heap.size w (w.alloc (.cells #[.string t.name, .slice a t.args.length cap] 50)) := (Below.refl _ _).alloc (Nat.le_refl _) _
      have bT : Box (w.alloc (.cells #[.string t.name, .slice a t.args.length cap] 50)) w.heap.size [.string t.name, .slice a t.args.length cap] := Box.new w _ _
      replace hT := Tm.at_keep (Keeps.all hW) hT
      go_enter Tryz.func62, Tryz.ntmps62
      go_wp2_with fail
      generalize (w.alloc (.cells #[.string t.name, .slice a t.args.length cap] 50)) = w0 at *
      refine (isEquality_any t hT hbk).mono ?_
      rintro e w1 ⟨_, rfl, hb, rfl⟩
      replace hW := hW.trans (hb.mono hW.size)
      replace bT := bT.keep hb
      replace hT := Tm.at_keep (Keeps.all hb) hT
      clear hb
      rw [he]
      have eT0 := bT.c0
      have eT1 := bT.c1
      have lT := bT.lt
      go_wp2_with fail
      clear eT0 eT1 lT
      go_ret
      exact Gives.mk (ret_bool HS.out.symm) hW
  · replace he : t.isEq = false := by simpa using he
    have hne : ¬ t.name = eqSign := by simpa [Tm.isEq] using he
    have HA : Hid (t.atom = (symName t.name && t.valid)) := by rw [Hid, Tm.atom_eq, if_neg hne]
    have hq : (t.name.toList == [61]) = false := by
      have h : ([61] : List UInt8) = eqSign.toList := by rw [ByteArray.toList_eq]; rfl
      rw [h]; exact toList_ne hne
    clear hne
    obtain ⟨rfl, hn, a, cap, rfl⟩ := Tm.at_form hT
    have hW : Below w.heap.size w (w.alloc (.cells #[.string t.name, .slice a t.args.length cap] 50)) := (Below.refl _ _).alloc (Nat.le_refl _) _
    have bT : Box (w.alloc (.cells #[.string t.name, .slice a t.args.length cap] 50)) w.heap.size [.string t.name, .slice a t.args.length cap] := Box.new w _ _
    replace hT := Tm.at_keep (Keeps.all hW) hT
    go_enter Tryz.func62, Tryz.ntmps62
    go_wp2_with fail
    generalize (w.alloc (.cells #[.string t.name, .slice a t.args.length cap] 50)) = w0 at *
    refine (isEquality_any t hT hbk).mono ?_
    rintro e w1 ⟨_, rfl, hb, rfl⟩
    replace hW := hW.trans (hb.mono hW.size)
    replace bT := bT.keep hb
    replace hT := Tm.at_keep (Keeps.all hb) hT
    clear hb
    rw [he]
    have eT0 := bT.c0
    have eT1 := bT.c1
    have lT := bT.lt
    go_wp2_with fail
    clear eT0 eT1 lT
    clear he hq
    refine (isSymbol_any t.name hn _).mono ?_
    rintro e w1 ⟨_, rfl, hb, rfl⟩
    replace hW := hW.trans (hb.mono hW.size)
    replace bT := bT.keep hb
    replace hT := Tm.at_keep (Keeps.all hb) hT
    clear hb
    by_cases hsy : symName t.name = true
    · have HS : Hid (t.atom = t.valid) := by rw [Hid, HA.out, hsy]; rfl
      rw [hsy]
      clear hsy
      have eT0 := bT.c0
      have eT1 := bT.c1
      have lT := bT.lt
      go_wp2_with fail
      clear eT0 eT1 lT
      refine (isValidTerm_any t hT hbk).mono ?_
      rintro e w1 ⟨_, rfl, hb, rfl⟩
      replace hW := hW.trans (hb.mono hW.size)
      replace bT := bT.keep hb
      replace hT := Tm.at_keep (Keeps.all hb) hT
      clear hb
      have eT0 := bT.c0
      have eT1 := bT.c1
      have lT := bT.lt
      go_wp2_with fail
      clear eT0 eT1 lT
      go_ret
      exact Gives.mk (ret_bool HS.out.symm) hW
    · replace hsy : symName t.name = false := by simpa using hsy
      have HS : Hid (t.atom = false) := by rw [Hid, HA.out, hsy]; rfl
      rw [hsy]
      clear hsy
      have eT0 := bT.c0
      have eT1 := bT.c1
      go_wp2_with fail
      go_ret
      exact Gives.mk (ret_bool HS.out.symm) hW
set_option maxHeartbeats 2000000 in
theorem l2Atom_any (t : Tm) : PredIs 29 Tm.atom t := by
  intro S c0 c1 w hT hbk
  by_cases he : t.isEq = true
  · have hne : t.name = eqSign := by simpa [Tm.isEq] using he
    have HA : Hid (t.atom = (decide (t.args.length = 2) && t.small && Tm.namesAll t.args)) := by rw [Hid, Tm.atom_eq, if_pos hne]
    have hq : (t.name.toList == [61]) = true := by
      have h : ([61] : List UInt8) = eqSign.toList := by rw [ByteArray.toList_eq]; rfl
      rw [h, toList_beq, hne]; simp
    clear hne
    by_cases hl : t.args.length = 2
    · have hl2 : ((t.args.length : Int) == 2) = true := by rw [beq_iff_eq]; omega
      have HL := hid hl
      clear hl
      have hn2 : 2 ≤ t.args.length := by have := HL.out; omega
      obtain ⟨rfl, hn, a, cap, rfl⟩ := Tm.at_form hT
      have hW : Below w.heap.size w (w.alloc (.cells #[.string t.name, .slice a t.args.length cap] 50)) := (Below.refl _ _).alloc (Nat.le_refl _) _
      have bT : Box (w.alloc (.cells #[.string t.name, .slice a t.args.length cap] 50)) w.heap.size [.string t.name, .slice a t.args.length cap] := Box.new w _ _
      replace hT := Tm.at_keep (Keeps.all hW) hT
      go_enter Tryz.func29, Tryz.ntmps29
      go_wp2_with fail
      generalize (w.alloc (.cells #[.string t.name, .slice a t.args.length cap] 50)) = w0 at *
      have eT0 := bT.c0
      have eT1 := bT.c1
      skip
      clear eT0 eT1
      clear he hq hl2
      by_cases hsm : t.small = true
      · refine (l2Fits_any t hT hbk).mono ?_
        rintro e w1 ⟨_, rfl, hb, rfl⟩
        replace hW := hW.trans (hb.mono hW.size)
        replace bT := bT.keep hb
        replace hT := Tm.at_keep (Keeps.all hb) hT
        clear hb
        rw [hsm]
        have hnn : t.args ≠ [] := by intro e; rw [e] at hn2; simp at hn2
        have i0 : 0 < t.args.length := by omega
        have i1 : 1 < t.args.length := by omega
        obtain ⟨b, off, rfl, hS, hbl, hrr⟩ := Tm.sd_get hT.2 hnn
        obtain ⟨x0, x1, q0, q1, q2⟩ := hrr 0 i0
        obtain ⟨y0, y1, r0, r1, r2⟩ := hrr 1 i1
        clear hrr
        obtain ⟨rfl, -, xa, xc, rfl⟩ := Tm.at_form q2
        obtain ⟨rfl, -, ya, yc, rfl⟩ := Tm.at_form r2
        simp only [Nat.zero_mul, Nat.add_zero, Nat.one_mul] at q0 q1 r0 r1
        have hb0 : t.args[0].bulk ≤ 1048576 := by have := Tm.bulk_at i0; have := Tm.args_bulk t; omega
        have hb1 : t.args[1].bulk ≤ 1048576 := by have := Tm.bulk_at i1; have := Tm.args_bulk t; omega
        have j0 : (0 : Int) < t.args.length := by omega
        have j1 : (1 : Int) < t.args.length := by omega
        have HB : Hid (t.atom = (t.args[0].names && t.args[1].names)) := by
          rw [Hid, HA.out, hsm, Tm.namesAll_two HL.out]; simp [HL.out]
        clear hsm
        have eT0 := bT.c0
        have eT1 := bT.c1
        have lT := bT.lt
        go_wp2_with fail
        clear eT0 eT1 lT
        have HX := hid q0
        refine (l2Nodes_any (t.args[0]) q2 hb0).mono ?_
        rintro e w2 ⟨_, rfl, hb, rfl⟩
        replace hW := hW.trans (hb.mono hW.size)
        replace bT := bT.keep hb
        replace r0 := (hb.cell (p := ⟨b, off + 2, none⟩) hbl).trans r0
        replace r1 := (hb.cell (p := ⟨b, off + 2 + 1, none⟩) hbl).trans r1
        replace r2 := Tm.at_keep (Keeps.all hb) r2
        clear hb q0 q1 q2 HX
        by_cases hp : t.args[0].names = true
        · have HC : Hid (t.atom = t.args[1].names) := by rw [Hid, HB.out, hp]; rfl
          rw [hp]
          clear hp
          have eT0 := bT.c0
          have eT1 := bT.c1
          have lT := bT.lt
          go_wp2_with fail
          clear eT0 eT1 lT
          refine (l2Nodes_any (t.args[1]) r2 hb1).mono ?_
          rintro e w3 ⟨_, rfl, hb, rfl⟩
          go_wp2_with fail
          go_ret
          exact Gives.mk (ret_bool HC.out.symm) (hW.trans (hb.mono hW.size))
        · replace hp : t.args[0].names = false := by simpa using hp
          have HC : Hid (t.atom = false) := by rw [Hid, HB.out, hp]; rfl
          rw [hp]
          clear hp
          have eT0 := bT.c0
          have eT1 := bT.c1
          go_wp2_with fail
          go_ret
          exact Gives.mk (ret_bool HC.out.symm) hW
      · replace hsm : t.small = false := by simpa using hsm
        have HS : Hid (t.atom = false) := by rw [Hid, HA.out, hsm]; simp
        refine (l2Fits_any t hT hbk).mono ?_
        rintro e w1 ⟨_, rfl, hb, rfl⟩
        replace hW := hW.trans (hb.mono hW.size)
        replace bT := bT.keep hb
        replace hT := Tm.at_keep (Keeps.all hb) hT
        clear hb
        rw [hsm]
        have eT0 := bT.c0
        have eT1 := bT.c1
        have lT := bT.lt
        go_wp2_with fail
        clear eT0 eT1 lT
        go_ret
        exact Gives.mk (ret_bool HS.out.symm) hW
    · have hl2 : ((t.args.length : Int) == 2) = false := by rw [beq_eq_false_iff_ne]; omega
      have HS : Hid (t.atom = false) := by rw [Hid, HA.out]; simp [hl]
      clear hl
      obtain ⟨rfl, hn, a, cap, rfl⟩ := Tm.at_form hT
      have hW : Below w.heap.size w (w.alloc (.cells #[.string t.name, .slice a t.args.length cap] 50)) := (Below.refl _ _).alloc (Nat.le_refl _) _
      have bT : Box (w.alloc (.cells #[.string t.name, .slice a t.args.length cap] 50)) w.heap.size [.string t.name, .slice a t.args.length cap] := Box.new w _ _
      replace hT := Tm.at_keep (Keeps.all hW) hT
      go_enter Tryz.func29, Tryz.ntmps29
      go_wp2_with fail
      generalize (w.alloc (.cells #[.string t.name, .slice a t.args.length cap] 50)) = w0 at *
      have eT0 := bT.c0
      have eT1 := bT.c1
      skip
      clear eT0 eT1
      go_ret
      exact Gives.mk (ret_bool HS.out.symm) hW
  · replace he : t.isEq = false := by simpa using he
    have hne : ¬ t.name = eqSign := by simpa [Tm.isEq] using he
    have HA : Hid (t.atom = (symName t.name && t.valid)) := by rw [Hid, Tm.atom_eq, if_neg hne]
    have hq : (t.name.toList == [61]) = false := by
      have h : ([61] : List UInt8) = eqSign.toList := by rw [ByteArray.toList_eq]; rfl
      rw [h]; exact toList_ne hne
    clear hne
    obtain ⟨rfl, hn, a, cap, rfl⟩ := Tm.at_form hT
    have hW : Below w.heap.size w (w.alloc (.cells #[.string t.name, .slice a t.args.length cap] 50)) := (Below.refl _ _).alloc (Nat.le_refl _) _
    have bT : Box (w.alloc (.cells #[.string t.name, .slice a t.args.length cap] 50)) w.heap.size [.string t.name, .slice a t.args.length cap] := Box.new w _ _
    replace hT := Tm.at_keep (Keeps.all hW) hT
    go_enter Tryz.func29, Tryz.ntmps29
    go_wp2_with fail
    generalize (w.alloc (.cells #[.string t.name, .slice a t.args.length cap] 50)) = w0 at *
    have eT0 := bT.c0
    have eT1 := bT.c1
    skip
    clear eT0 eT1
    clear he hq
    refine (l2Symbol_any t.name hn _).mono ?_
    rintro e w' ⟨rfl, rfl⟩
    by_cases hsy : symName t.name = true
    · have HS : Hid (t.atom = t.valid) := by rw [Hid, HA.out, hsy]; rfl
      rw [hsy]
      clear hsy
      have eT0 := bT.c0
      have eT1 := bT.c1
      have lT := bT.lt
      go_wp2_with fail
      clear eT0 eT1 lT
      refine (l2Good_any t hT hbk).mono ?_
      rintro e w1 ⟨_, rfl, hb, rfl⟩
      replace hW := hW.trans (hb.mono hW.size)
      replace bT := bT.keep hb
      replace hT := Tm.at_keep (Keeps.all hb) hT
      clear hb
      have eT0 := bT.c0
      have eT1 := bT.c1
      have lT := bT.lt
      go_wp2_with fail
      clear eT0 eT1 lT
      go_ret
      exact Gives.mk (ret_bool HS.out.symm) hW
    · replace hsy : symName t.name = false := by simpa using hsy
      have HS : Hid (t.atom = false) := by rw [Hid, HA.out, hsy]; rfl
      rw [hsy]
      clear hsy
      have eT0 := bT.c0
      have eT1 := bT.c1
      go_wp2_with fail
      go_ret
      exact Gives.mk (ret_bool HS.out.symm) hW
theorem Tm.expr_eq (t : Tm) : t.expr = (t.valid || (t.isEq && t.atom)) := by
  rw [Tm.expr, Tm.atom_eq, Tm.isEq]
  by_cases h : t.name = eqSign
  · simp [h]
  · simp only [h, if_false, decide_false, Bool.false_and, Bool.or_false]
    cases t.valid <;> simp

end Go.Proofs.YtooocakkjdhfiaaGreatDoor
/- Terms are ordered: plain. -/
namespace Go.Proofs.YtooocakkjdhfiaaGreatDoor
set_option maxRecDepth 100000
open Go.RowKit

def strCmp (a b : ByteArray) : Int := if Op.bytesLess a.toList b.toList then -1 else if a = b then 0 else 1
def numCmp (a b : Int) : Int := if a < b then -1 else if b < a then 1 else 0
/-- the first, if it tells; else the second -/
def orZ (x y : Int) : Int := if x = 0 then y else x
mutual
def Tm.cmp : Tm → Tm → Int
  | .node n ts, .node m us => if (varName n && !varName m) = true then -1 else if (varName m && !varName n) = true then 1 else orZ (strCmp n m) (orZ (numCmp ts.length us.length) (Tm.cmps ts us))
def Tm.cmps : List Tm → List Tm → Int
  | [], _ => 0
  | _, [] => 0
  | t :: ts, u :: us => orZ (Tm.cmp t u) (Tm.cmps ts us)
end
theorem Tm.cmp_eq (t u : Tm) : Tm.cmp t u = if (varName t.name && !varName u.name) = true then -1 else if (varName u.name && !varName t.name) = true then 1 else orZ (strCmp t.name u.name) (orZ (numCmp t.args.length u.args.length) (Tm.cmps t.args u.args)) := by
  cases t; cases u; rw [Tm.cmp]; rfl
theorem Tm.cmps_drop {ts us : List Tm} {k : Nat} (h : k < ts.length) (h' : k < us.length) : Tm.cmps (ts.drop k) (us.drop k) = orZ (Tm.cmp ts[k] us[k]) (Tm.cmps (ts.drop (k + 1)) (us.drop (k + 1))) := by
  rw [List.drop_eq_getElem_cons h, List.drop_eq_getElem_cons h', Tm.cmps]
theorem Tm.cmps_end (ts us : List Tm) : Tm.cmps (ts.drop ts.length) us = 0 := by simp [Tm.cmps]
theorem strCmp_self (a : ByteArray) : strCmp a a = 0 := by simp [strCmp, bl_irrefl]
theorem strCmp_ne {a b : ByteArray} (h : ¬ a = b) : ¬ strCmp a b = 0 := by
  unfold strCmp; rw [if_neg h]; split <;> decide
theorem strCmp_in (a b : ByteArray) : -1 ≤ strCmp a b ∧ strCmp a b ≤ 1 := by
  unfold strCmp
  split
  · decide
  · split <;> decide
theorem numCmp_in (a b : Int) : -1 ≤ numCmp a b ∧ numCmp a b ≤ 1 := by
  unfold numCmp
  split
  · decide
  · split <;> decide
theorem orZ_in {x y : Int} (h : -1 ≤ x ∧ x ≤ 1) (k : -1 ≤ y ∧ y ≤ 1) : -1 ≤ orZ x y ∧ orZ x y ≤ 1 := by unfold orZ; split <;> assumption
theorem Tm.cmps_in : ∀ (ts us : List Tm), (∀ t ∈ ts, ∀ u, -1 ≤ Tm.cmp t u ∧ Tm.cmp t u ≤ 1) → -1 ≤ Tm.cmps ts us ∧ Tm.cmps ts us ≤ 1
  | [], _, _ => by simp [Tm.cmps]
  | _ :: _, [], _ => by simp [Tm.cmps]
  | t :: ts, u :: us, h => by rw [Tm.cmps]; exact orZ_in (h t (by simp) u) (Tm.cmps_in ts us fun a ha => h a (by simp [ha]))
theorem Tm.cmp_in (t : Tm) : ∀ u, -1 ≤ Tm.cmp t u ∧ Tm.cmp t u ≤ 1 := by
  refine Tm.ind (P := fun t => ∀ u, -1 ≤ Tm.cmp t u ∧ Tm.cmp t u ≤ 1) (fun n ts ih u => ?_) t
  obtain ⟨m, us⟩ := u
  rw [Tm.cmp]
  split
  · decide
  · split
    · decide
    · exact orZ_in (strCmp_in _ _) (orZ_in (numCmp_in _ _) (Tm.cmps_in ts us ih))

mutual
/-- every name tells by its first byte whether it is a variable's -/
def Tm.nice : Tm → Bool
  | .node n ts => decide (1 ≤ n.size) && decide (upB (byteAt n 0) = varName n) && Tm.nices ts
def Tm.nices : List Tm → Bool
  | [] => true
  | t :: ts => Tm.nice t && Tm.nices ts
end
theorem Tm.nices_iff (ts : List Tm) : Tm.nices ts = true ↔ ∀ t ∈ ts, t.nice = true := by
  induction ts with
  | nil => simp [Tm.nices]
  | cons t ts ih => simp [Tm.nices, ih]
theorem Tm.nice_iff (t : Tm) : t.nice = true ↔ 1 ≤ t.name.size ∧ upB (byteAt t.name 0) = varName t.name ∧ ∀ a ∈ t.args, a.nice = true := by
  cases t; simp [Tm.nice, Tm.nices_iff, Tm.name, Tm.args, and_assoc]
theorem varName_first {n : ByteArray} (h : varName n = true) : 1 ≤ n.size ∧ upB (byteAt n 0) = true := by
  simp only [varName, Bool.and_eq_true, decide_eq_true_eq] at h
  obtain ⟨⟨h0, h1⟩, _⟩ := h
  refine ⟨h1, ?_⟩
  unfold allCh at h0
  rw [List.all_eq_true] at h0
  have := h0 0 (List.mem_range.2 (by omega))
  simpa [varCh] using this
theorem symName_first {n : ByteArray} (h : symName n = true) : 1 ≤ n.size ∧ upB (byteAt n 0) = false := by
  simp only [symName, Bool.and_eq_true, decide_eq_true_eq] at h
  obtain ⟨⟨⟨h0, h1⟩, _⟩, _⟩ := h
  refine ⟨h1, ?_⟩
  unfold allCh at h0
  rw [List.all_eq_true] at h0
  have := h0 0 (List.mem_range.2 (by omega))
  have hl : lowB (byteAt n 0) = true := by simpa [symCh] using this
  rw [lowB_iff] at hl
  rw [Bool.eq_false_iff]; intro e
  rw [upB_iff] at e
  omega
theorem varName_no {n : ByteArray} (h : upB (byteAt n 0) = false) : varName n = false := by
  rw [Bool.eq_false_iff]; intro e
  rw [(varName_first e).2] at h
  exact absurd h (by simp)
theorem Tm.names_nice (t : Tm) : t.names = true → t.nice = true := by
  refine Tm.ind (P := fun t => t.names = true → t.nice = true) (fun n ts ih h => ?_) t
  rw [Tm.nice_iff]
  simp only [Tm.name, Tm.args]
  rw [Tm.names] at h
  split at h
  · rename_i hv
    have := varName_first hv
    refine ⟨this.1, by rw [this.2, hv], ?_⟩
    cases ts
    · simp
    · simp at h
  · simp only [Bool.and_eq_true] at h
    have := symName_first h.1.1
    exact ⟨this.1, by rw [this.2, varName_no this.2], fun a ha => ih a ha ((Tm.namesAll_iff ts).1 h.2 a ha)⟩
theorem Tm.expr_nice {t : Tm} (h : t.expr = true) : t.nice = true := by
  rw [Tm.expr] at h
  rcases Bool.or_eq_true_iff.1 h with h | h
  · rw [Tm.valid, Bool.and_eq_true] at h
    exact Tm.names_nice t h.2
  · rw [Tm.atom_eq] at h
    split at h
    · rename_i he
      simp only [Bool.and_eq_true] at h
      rw [Tm.nice_iff, he]
      have hu : upB (byteAt eqSign 0) = false := by decide
      exact ⟨by decide, by rw [hu, varName_no hu], fun a ha => Tm.names_nice a ((Tm.namesAll_iff t.args).1 h.2 a ha)⟩
    · rw [Bool.and_eq_true, Tm.valid, Bool.and_eq_true] at h
      exact Tm.names_nice t h.2.2
end Go.Proofs.YtooocakkjdhfiaaGreatDoor
