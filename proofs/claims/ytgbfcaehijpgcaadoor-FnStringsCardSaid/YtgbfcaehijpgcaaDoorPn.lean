/- ParseInt: the reference's and the program's. -/
import Derived.Test.YtgbfcaehijpgcaaDoorNw
import Derived.Test.YtgbfcaehijpgcaaDoorBl
namespace Go.Proofs.YtgbfcaehijpgcaaDoor
set_option maxRecDepth 100000
open Go Go.RowKit

theorem numOf_len {l : List UInt8} (h : ¬ (1 ≤ (unsigned l).length ∧ (unsigned l).length ≤ 6)) : numOf l = none := by unfold numOf; rw [if_neg h]
theorem numOf_dig {l : List UInt8} (h : Lib.decFrom 0 (unsigned l) = none) : numOf l = none := by
  unfold numOf
  split
  · rw [h]
  · rfl
theorem numOf_val {l : List UInt8} {u : Nat} (h : 1 ≤ (unsigned l).length ∧ (unsigned l).length ≤ 6) (hu : Lib.decFrom 0 (unsigned l) = some u) : numOf l = if Lib.itoa (signedBy l u) = l then some (signedBy l u) else none := by
  unfold numOf
  rw [if_pos h, hu]
def numR (s : ByteArray) : Int := (numOf s.data.toList).getD 0
def numOk (s : ByteArray) : Bool := (numOf s.data.toList).isSome
theorem num_none {s : ByteArray} (h : numOf s.data.toList = none) : numR s = 0 ∧ numOk s = false := by simp [numR, numOk, h]
theorem num_some {s : ByteArray} {n : Int} (h : numOf s.data.toList = some n) : numR s = n ∧ numOk s = true := by simp [numR, numOk, h]
theorem itoaB_eq (n : Int) (s : ByteArray) : itoaB n = s ↔ Lib.itoa n = s.data.toList := by
  cases s with
  | mk d =>
    unfold itoaB
    rw [ByteArray.mk.injEq]
    constructor
    · rintro rfl; simp
    · intro h; rw [h]
theorem dec_step {s : ByteArray} {k n : Nat} (h : k < s.size) (hd : Lib.decFrom 0 (s.data.toList.take k) = some n) (h0 : 48 ≤ byteAt s k) (h1 : byteAt s k ≤ 57) : Lib.decFrom 0 (s.data.toList.take (k + 1)) = some (n * 10 + (byteAt s k - 48)) := by
  obtain ⟨b, hb, he⟩ := byteAt_list h
  rw [List.take_add_one, hb, Option.toList_some, ← he]
  exact decFrom_snoc _ _ _ _ hd ⟨by omega, by omega⟩
theorem dec_bad {s : ByteArray} {k : Nat} (h : k < s.size) (hb : byteAt s k < 48 ∨ 57 < byteAt s k) : Lib.decFrom 0 s.data.toList = none := by
  obtain ⟨b, hb', he⟩ := byteAt_list h
  exact decFrom_bad _ _ ⟨b, List.mem_of_getElem? hb', by omega⟩
theorem unsigned_yes {s : ByteArray} (h1 : 1 < s.size) (h0 : byteAt s 0 = 45) : unsigned s.data.toList = (s.extract 1 s.size).data.toList := by
  have hl := size_list s
  obtain ⟨b, hb, he⟩ := byteAt_list (s := s) (k := 0) (by omega)
  have hx : (s.extract 1 s.size).data.toList = s.data.toList.drop 1 := by
    rw [ByteArray.data_extract, Array.toList_extract, List.extract_eq_take_drop]
    rw [List.take_of_length_le]
    rw [List.length_drop]; omega
  rw [hx]
  cases e : s.data.toList with
  | nil => rw [e] at hl; simp at hl; omega
  | cons a r =>
    cases r with
    | nil => rw [e] at hl; simp at hl; omega
    | cons c r =>
      rw [e] at hb
      have : a = b := by simpa using hb
      subst this
      have : a = 45 := by apply UInt8.toNat_inj.1; rw [he, h0]; rfl
      subst this
      rfl
theorem unsigned_no {s : ByteArray} (h : ¬ (1 < s.size ∧ byteAt s 0 = 45)) : unsigned s.data.toList = s.data.toList := by
  rcases unsigned_cases s.data.toList with ⟨b, r, e, _⟩ | ⟨e, _⟩
  · refine absurd ⟨?_, ?_⟩ h
    · have := size_list s; rw [e] at this; simp at this; omega
    · have hs : 0 < s.size := by have := size_list s; rw [e] at this; simp at this; omega
      obtain ⟨c, hc, he⟩ := byteAt_list hs
      rw [e] at hc
      have : (45 : UInt8) = c := by simpa using hc
      subst this
      rw [← he]; rfl
  · exact e
set_option maxHeartbeats 4000000 in
theorem l1Read_any (s : ByteArray) (hs : s.size ≤ 1048576) (w : World) : Calls Tryd.prog 57 #[.string s] w (Gives w (.tuple #[.int .i64 (numR s), .bool (numOk s)])) := by
  have hsl := size_list s
  by_cases hA : 1 < s.size ∧ byteAt s 0 = 45
  · obtain ⟨h1, h0⟩ := hA
    have hbe := byteAt_eq (s := s) (i := 0) (by omega)
    have h1' : (1 : Int) < s.size := by omega
    have h45 : ((byteAt s 0 : Int) == 45) = true := by rw [h0]; rfl
    have HU := hid (unsigned_yes h1 h0)
    obtain ⟨m, Hm⟩ : ∃ m, Hid (s.size - 1 = m) := ⟨_, hid rfl⟩
    have hTz : (s.extract 1 s.size).size = m := by rw [ByteArray.size_extract, ← Hm.out]; omega
    have hms : (m : Int) < s.size := by have := Hm.out; omega
    have HSG : Hid (∀ u : Nat, signedBy s.data.toList u = -(u : Int)) := fun u => by
      have := size_list (s.extract 1 s.size)
      rw [signedBy, HU.out, if_pos (by have := Hm.out; omega)]
    clear h0
    go_enter Tryd.func57, Tryd.ntmps57
    go_wp2_with fail
    generalize s.extract 1 s.size = T at *
    clear hbe h1' h45
    have hTl := size_list T
    refine (l1In_any _ _ _ _).mono ?_
    rintro e w' ⟨rfl, rfl⟩
    by_cases hl : inB m 1 6 = true
    rotate_left
    · have Z := hid (num_none (s := s) (numOf_len (by rw [HU.out]; intro q; apply hl; exact inB_yes (by omega) (by omega))))
      rw [Bool.eq_false_iff.2 hl]
      clear hl
      go_wp2_with fail
      go_ret2
      exact Gives.mk (by rw [Z.out.1, Z.out.2]; rfl) (Below.refl _ _)
    have hl16 : 1 ≤ m ∧ m ≤ 6 := by have h : _ ∧ _ := (by simpa [inB] using hl); omega
    rw [hl]
    clear hl
    go_wp2_with fail
    go_loop [5, 6] (fun x i => ∃ (k n : Nat), k ≤ m ∧ x = .int .i64 n ∧ i = .int .i64 k ∧ n ≤ 999999 ∧ Hid (Lib.decFrom 0 (T.data.toList.take k) = some n)) (fun _ i => m - (intOf i).toNat)
    case atStart => exact ⟨0, 0, Nat.zero_le _, rfl, rfl, by omega, by rw [List.take_zero]; rfl⟩
    case round =>
      obtain ⟨k, n, hk, rfl, rfl, hn, HD⟩ := hrel
      by_cases hlt : k < m
      · have hbe := byteAt_eq (s := T) (i := k) (by omega)
        have hbl := byteAt_lt T k
        by_cases hbd : byteAt T k < 48 ∨ 57 < byteAt T k
        · have Z := hid (num_none (s := s) (numOf_dig (by rw [HU.out]; exact dec_bad (by omega) hbd)))
          rcases hbd with hb | hb
          all_goals
            go_wp2_with fail
            go_ret2
            exact Gives.mk (by rw [Z.out.1, Z.out.2]; rfl) (Below.refl _ _)
        · have hlo : 48 ≤ byteAt T k := by omega
          have hhi : byteAt T k ≤ 57 := by omega
          have HS := hid (dec_step (by omega) HD.out hlo hhi)
          have hnb : n * 10 + (byteAt T k - 48) ≤ 999999 := by
            have h1 := decFrom_lt _ _ _ HS.out
            have h2 : (T.data.toList.take (k + 1)).length ≤ 6 := by rw [List.length_take]; omega
            have h3 : 10 ^ (T.data.toList.take (k + 1)).length ≤ 10 ^ 6 := Nat.pow_le_pow_right (by decide) h2
            omega
          clear hbd
          go_wp2_with fail
          go_round
          case rel => exact ⟨k + 1, n * 10 + (byteAt T k - 48), by omega, by congr 1; omega, by go_num, hnb, HS⟩
          case measure => simp [intOf]; omega
      · have hkM : k = m := by omega
        have hd := HD.out
        rw [List.take_of_length_le (by omega)] at hd
        have HV := hid (numOf_val (l := s.data.toList) (by rw [HU.out]; omega) (by rw [HU.out]; exact hd))
        rw [HSG.out] at HV
        clear hd
        subst hkM
        go_wp2_with fail
        refine (l1Num_any (-(n : Int)) (by omega) (by omega) _).mono ?_
        rintro e w1 ⟨_, rfl, hb, rfl⟩
        by_cases he : itoaB (-(n : Int)) = s
        · have hq : ((itoaB (-(n : Int))).toList == s.toList) = true := by rw [he]; simp
          have Z := hid (num_some (HV.out.trans (if_pos ((itoaB_eq _ _).1 he))))
          clear he
          go_wp2_with fail
          go_ret2
          exact Gives.mk (by rw [Z.out.1, Z.out.2]; rfl) hb
        · have hq := toList_ne he
          have Z := hid (num_none (HV.out.trans (if_neg fun q => he ((itoaB_eq _ _).2 q))))
          clear he
          go_wp2_with fail
          go_ret2
          exact Gives.mk (by rw [Z.out.1, Z.out.2]; rfl) hb
  · have HU := hid (unsigned_no hA)
    have HSG : Hid (∀ u : Nat, signedBy s.data.toList u = (u : Int)) := fun u => by
      rw [signedBy, HU.out, if_neg (by omega)]
    by_cases h1 : 1 < s.size
    · have hbe := byteAt_eq (s := s) (i := 0) (by omega)
      have h1' : (1 : Int) < s.size := by omega
      have h45 : ((byteAt s 0 : Int) == 45) = false := by
        rw [beq_eq_false_iff_ne]; intro e; exact hA ⟨h1, by omega⟩
      clear hA
      go_enter Tryd.func57, Tryd.ntmps57
      go_wp2_with fail
      clear hbe h1' h45
      have hTl := size_list s
      refine (l1In_any _ _ _ _).mono ?_
      rintro e w' ⟨rfl, rfl⟩
      by_cases hl : inB s.size 1 6 = true
      rotate_left
      · have Z := hid (num_none (s := s) (numOf_len (by rw [HU.out]; intro q; apply hl; exact inB_yes (by omega) (by omega))))
        rw [Bool.eq_false_iff.2 hl]
        clear hl
        go_wp2_with fail
        go_ret2
        exact Gives.mk (by rw [Z.out.1, Z.out.2]; rfl) (Below.refl _ _)
      have hl16 : 1 ≤ s.size ∧ s.size ≤ 6 := by have h : _ ∧ _ := (by simpa [inB] using hl); omega
      rw [hl]
      clear hl
      go_wp2_with fail
      go_loop [5, 6] (fun x i => ∃ (k n : Nat), k ≤ s.size ∧ x = .int .i64 n ∧ i = .int .i64 k ∧ n ≤ 999999 ∧ Hid (Lib.decFrom 0 (s.data.toList.take k) = some n)) (fun _ i => s.size - (intOf i).toNat)
      case atStart => exact ⟨0, 0, Nat.zero_le _, rfl, rfl, by omega, by rw [List.take_zero]; rfl⟩
      case round =>
        obtain ⟨k, n, hk, rfl, rfl, hn, HD⟩ := hrel
        by_cases hlt : k < s.size
        · have hbe := byteAt_eq (s := s) (i := k) (by omega)
          have hbl := byteAt_lt s k
          by_cases hbd : byteAt s k < 48 ∨ 57 < byteAt s k
          · have Z := hid (num_none (s := s) (numOf_dig (by rw [HU.out]; exact dec_bad (by omega) hbd)))
            rcases hbd with hb | hb
            all_goals
              go_wp2_with fail
              go_ret2
              exact Gives.mk (by rw [Z.out.1, Z.out.2]; rfl) (Below.refl _ _)
          · have hlo : 48 ≤ byteAt s k := by omega
            have hhi : byteAt s k ≤ 57 := by omega
            have HS := hid (dec_step (by omega) HD.out hlo hhi)
            have hnb : n * 10 + (byteAt s k - 48) ≤ 999999 := by
              have h1 := decFrom_lt _ _ _ HS.out
              have h2 : (s.data.toList.take (k + 1)).length ≤ 6 := by rw [List.length_take]; omega
              have h3 : 10 ^ (s.data.toList.take (k + 1)).length ≤ 10 ^ 6 := Nat.pow_le_pow_right (by decide) h2
              omega
            clear hbd
            go_wp2_with fail
            go_round
            case rel => exact ⟨k + 1, n * 10 + (byteAt s k - 48), by omega, by congr 1; omega, by go_num, hnb, HS⟩
            case measure => simp [intOf]; omega
        · have hkM : k = s.size := by omega
          have hd := HD.out
          rw [List.take_of_length_le (by omega)] at hd
          have HV := hid (numOf_val (l := s.data.toList) (by rw [HU.out]; omega) (by rw [HU.out]; exact hd))
          rw [HSG.out] at HV
          clear hd
          subst hkM
          go_wp2_with fail
          refine (l1Num_any (n : Int) (by omega) (by omega) _).mono ?_
          rintro e w1 ⟨_, rfl, hb, rfl⟩
          by_cases he : itoaB (n : Int) = s
          · have hq : ((itoaB (n : Int)).toList == s.toList) = true := by rw [he]; simp
            have Z := hid (num_some (HV.out.trans (if_pos ((itoaB_eq _ _).1 he))))
            clear he
            go_wp2_with fail
            go_ret2
            exact Gives.mk (by rw [Z.out.1, Z.out.2]; rfl) hb
          · have hq := toList_ne he
            have Z := hid (num_none (HV.out.trans (if_neg fun q => he ((itoaB_eq _ _).2 q))))
            clear he
            go_wp2_with fail
            go_ret2
            exact Gives.mk (by rw [Z.out.1, Z.out.2]; rfl) hb
    · have h1' : ¬ (1 : Int) < s.size := by omega
      clear hA
      go_enter Tryd.func57, Tryd.ntmps57
      go_wp2_with fail
      clear h1'
      have hTl := size_list s
      refine (l1In_any _ _ _ _).mono ?_
      rintro e w' ⟨rfl, rfl⟩
      by_cases hl : inB s.size 1 6 = true
      rotate_left
      · have Z := hid (num_none (s := s) (numOf_len (by rw [HU.out]; intro q; apply hl; exact inB_yes (by omega) (by omega))))
        rw [Bool.eq_false_iff.2 hl]
        clear hl
        go_wp2_with fail
        go_ret2
        exact Gives.mk (by rw [Z.out.1, Z.out.2]; rfl) (Below.refl _ _)
      have hl16 : 1 ≤ s.size ∧ s.size ≤ 6 := by have h : _ ∧ _ := (by simpa [inB] using hl); omega
      rw [hl]
      clear hl
      go_wp2_with fail
      go_loop [5, 6] (fun x i => ∃ (k n : Nat), k ≤ s.size ∧ x = .int .i64 n ∧ i = .int .i64 k ∧ n ≤ 999999 ∧ Hid (Lib.decFrom 0 (s.data.toList.take k) = some n)) (fun _ i => s.size - (intOf i).toNat)
      case atStart => exact ⟨0, 0, Nat.zero_le _, rfl, rfl, by omega, by rw [List.take_zero]; rfl⟩
      case round =>
        obtain ⟨k, n, hk, rfl, rfl, hn, HD⟩ := hrel
        by_cases hlt : k < s.size
        · have hbe := byteAt_eq (s := s) (i := k) (by omega)
          have hbl := byteAt_lt s k
          by_cases hbd : byteAt s k < 48 ∨ 57 < byteAt s k
          · have Z := hid (num_none (s := s) (numOf_dig (by rw [HU.out]; exact dec_bad (by omega) hbd)))
            rcases hbd with hb | hb
            all_goals
              go_wp2_with fail
              go_ret2
              exact Gives.mk (by rw [Z.out.1, Z.out.2]; rfl) (Below.refl _ _)
          · have hlo : 48 ≤ byteAt s k := by omega
            have hhi : byteAt s k ≤ 57 := by omega
            have HS := hid (dec_step (by omega) HD.out hlo hhi)
            have hnb : n * 10 + (byteAt s k - 48) ≤ 999999 := by
              have h1 := decFrom_lt _ _ _ HS.out
              have h2 : (s.data.toList.take (k + 1)).length ≤ 6 := by rw [List.length_take]; omega
              have h3 : 10 ^ (s.data.toList.take (k + 1)).length ≤ 10 ^ 6 := Nat.pow_le_pow_right (by decide) h2
              omega
            clear hbd
            go_wp2_with fail
            go_round
            case rel => exact ⟨k + 1, n * 10 + (byteAt s k - 48), by omega, by congr 1; omega, by go_num, hnb, HS⟩
            case measure => simp [intOf]; omega
        · have hkM : k = s.size := by omega
          have hd := HD.out
          rw [List.take_of_length_le (by omega)] at hd
          have HV := hid (numOf_val (l := s.data.toList) (by rw [HU.out]; omega) (by rw [HU.out]; exact hd))
          rw [HSG.out] at HV
          clear hd
          subst hkM
          go_wp2_with fail
          refine (l1Num_any (n : Int) (by omega) (by omega) _).mono ?_
          rintro e w1 ⟨_, rfl, hb, rfl⟩
          by_cases he : itoaB (n : Int) = s
          · have hq : ((itoaB (n : Int)).toList == s.toList) = true := by rw [he]; simp
            have Z := hid (num_some (HV.out.trans (if_pos ((itoaB_eq _ _).1 he))))
            clear he
            go_wp2_with fail
            go_ret2
            exact Gives.mk (by rw [Z.out.1, Z.out.2]; rfl) hb
          · have hq := toList_ne he
            have Z := hid (num_none (HV.out.trans (if_neg fun q => he ((itoaB_eq _ _).2 q))))
            clear he
            go_wp2_with fail
            go_ret2
            exact Gives.mk (by rw [Z.out.1, Z.out.2]; rfl) hb
theorem spec_ParseInt (s : ByteArray) (hs : s.size ≤ 1048576) (w : World) : Calls Tryd.prog 23 #[.string s] w (Gives w (.tuple #[.int .i64 (numR s), .bool (numOk s)])) := by
  go_enter Tryd.func23, Tryd.ntmps23
  go_wp2_with fail
  refine (l1Read_any s hs _).mono ?_
  rintro e w1 ⟨_, rfl, hb, rfl⟩
  go_wp2_with fail
  go_ret2
  exact Gives.mk rfl hb
theorem bytes_below {w w' : World} {T : TypeId} (h : w' = w ∨ ∃ t, w' = Lib.bytesWorld w T t) : Below w.heap.size w w' := by
  rcases h with rfl | ⟨t, rfl⟩
  · exact Below.refl _ _
  · exact Lib.bytesWorld_below _ _ _
set_option maxHeartbeats 2000000 in
theorem impl_ParseInt (s : ByteArray) (hs : s.size ≤ 1048576) {w : World} (hT : TabF w) (hE : ErrF w) : Calls Tryd.prog 24 #[.string s] w (Gives w (.tuple #[.int .i64 (numR s), .bool (numOk s)])) := by
  have hbad : ∀ v : Int, Lib.atoiAll s.data.toList = .ok v → ¬ (-999999 ≤ v ∧ v ≤ 999999 ∧ Lib.itoa v = s.data.toList) → numOf s.data.toList = none := fun v hv hn => numOf_none fun n h0 h1 hi => by
    have := atoiAll_itoa h0 h1
    rw [hi, hv] at this
    injection this with this
    subst this
    exact hn ⟨h0, h1, hi⟩
  have hno : (∀ v : Int, Lib.atoiAll s.data.toList ≠ .ok v) → numOf s.data.toList = none := fun h => numOf_none fun n h0 h1 hi => h n (by rw [← hi]; exact atoiAll_itoa h0 h1)
  rcases hc : Lib.atoiAll s.data.toList with v | _ | _
  · have HB := hid (hbad v hc)
    clear hbad hno
    have hq := Tryd.strconv_Atoi_ok s (by omega) v hc w
    by_cases hi : inB v (-999999) 999999 = true
    · obtain ⟨h0, h1⟩ : -999999 ≤ v ∧ v ≤ 999999 := by simpa [inB] using hi
      have HI := hid hi
      clear hi
      by_cases he : itoaB v = s
      · have hq1 : ((itoaB v).toList == s.toList) = true := by rw [he]; simp
        have Z := hid (num_some ((numOf_iff _ _).2 ⟨(itoaB_eq _ _).1 he, h0, h1⟩))
        clear he
        go_enter Tryd.func24, Tryd.ntmps24
        go_wp2_with fail
        refine hq.mono ?_
        rintro e w1 ⟨rfl, hw⟩
        have hb := bytes_below hw
        clear hq hw
        have hT1 := TabF.keep hT hb
        go_wp2_with fail
        refine (within_any _ _ _ _).mono ?_
        rintro e w' ⟨rfl, rfl⟩
        rw [HI.out]
        go_wp2_with fail
        refine (itoa_any h0 h1 hT1).mono ?_
        rintro e w2 ⟨_, rfl, hb2, rfl⟩
        go_wp2_with fail
        go_ret2
        exact Gives.mk (by rw [Z.out.1, Z.out.2]; rfl) (hb.trans (hb2.mono hb.size))
      · have hq1 := toList_ne he
        have Z := hid (num_none (HB.out fun q => he ((itoaB_eq _ _).2 q.2.2)))
        clear he
        go_enter Tryd.func24, Tryd.ntmps24
        go_wp2_with fail
        refine hq.mono ?_
        rintro e w1 ⟨rfl, hw⟩
        have hb := bytes_below hw
        clear hq hw
        have hT1 := TabF.keep hT hb
        go_wp2_with fail
        refine (within_any _ _ _ _).mono ?_
        rintro e w' ⟨rfl, rfl⟩
        rw [HI.out]
        go_wp2_with fail
        refine (itoa_any h0 h1 hT1).mono ?_
        rintro e w2 ⟨_, rfl, hb2, rfl⟩
        go_wp2_with fail
        go_ret2
        exact Gives.mk (by rw [Z.out.1, Z.out.2]; rfl) (hb.trans (hb2.mono hb.size))
    · have HI := hid (Bool.eq_false_iff.2 hi)
      have Z := hid (num_none (HB.out fun q => hi (inB_yes q.1 q.2.1)))
      clear hi
      go_enter Tryd.func24, Tryd.ntmps24
      go_wp2_with fail
      refine hq.mono ?_
      rintro e w1 ⟨rfl, hw⟩
      have hb := bytes_below hw
      clear hq hw
      go_wp2_with fail
      refine (within_any _ _ _ _).mono ?_
      rintro e w' ⟨rfl, rfl⟩
      rw [HI.out]
      go_wp2_with fail
      go_ret2
      exact Gives.mk (by rw [Z.out.1, Z.out.2]; rfl) hb
  · have Z := hid (num_none (hno fun v => by rw [hc]; intro q; cases q))
    obtain ⟨⟨tp, p, hv⟩, -⟩ := hE
    have hq := Any.strconv_Atoi_syntax_var Tryd.laysC172 s (by omega) hc tp p w hv
    clear hbad hno
    go_enter Tryd.func24, Tryd.ntmps24
    go_wp2_with fail
    refine hq.mono ?_
    rintro e w1 ⟨N, rfl, -, -, hb⟩
    clear hq
    go_wp2_with fail
    go_ret2
    exact Gives.mk (by rw [Z.out.1, Z.out.2]; rfl) hb
  · have Z := hid (num_none (hno fun v => by rw [hc]; intro q; cases q))
    obtain ⟨-, tp, p, hv⟩ := hE
    have hq := Tryd.strconv_Atoi_range_var s (by omega) hc tp p w hv
    clear hbad hno
    go_enter Tryd.func24, Tryd.ntmps24
    go_wp2_with fail
    refine hq.mono ?_
    rintro e w1 ⟨N, rfl, -, -, hb⟩
    clear hq
    go_wp2_with fail
    go_ret2
    exact Gives.mk (by rw [Z.out.1, Z.out.2]; rfl) hb
end Go.Proofs.YtgbfcaehijpgcaaDoor
