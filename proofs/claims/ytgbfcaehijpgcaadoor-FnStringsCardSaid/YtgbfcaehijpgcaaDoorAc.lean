/- AppendChecksum: the program's and the reference's. -/
import Derived.Test.YtgbfcaehijpgcaaDoorNw
import Derived.Test.YtgbfcaehijpgcaaDoorCs
import Derived.Test.YtgbfcaehijpgcaaDoorHb
namespace Go.Proofs.YtgbfcaehijpgcaaDoor
set_option maxRecDepth 100000
open Go Go.RowKit

/-- a string with its checksum -/
def sealB (s : ByteArray) : ByteArray := s ++ ⟨#[35]⟩ ++ itoaB ((sumTo s s.size : Nat) : Int)
def appOk (s : ByteArray) : Bool := !hasByte 35 s && decide ((sealB s).size ≤ 4000)
def appR (s : ByteArray) : ByteArray := if appOk s = true then sealB s else ByteArray.empty
theorem sealB_size (s : ByteArray) : (sealB s).size = s.size + 1 + (itoaB ((sumTo s s.size : Nat) : Int)).size := by
  unfold sealB
  rw [ByteArray.size_append, ByteArray.size_append]; rfl
theorem sum_itoa (s : ByteArray) : 1 ≤ (itoaB ((sumTo s s.size : Nat) : Int)).size ∧ (itoaB ((sumTo s s.size : Nat) : Int)).size ≤ 7 := by
  have := sumTo_lt s s.size
  exact itoaB_size (by omega) (by omega)
set_option maxHeartbeats 1000000 in
theorem l1Seal_any (s : ByteArray) (hs : s.size ≤ 1048576) (w : World) : Calls Tryd.prog 53 #[.string s] w (Gives w (.string (sealB s))) := by
  have hz := sum_itoa s
  have hq := sumTo_lt s s.size
  have HS : Hid (sealB s = s ++ ⟨#[35]⟩ ++ itoaB ((sumTo s s.size : Nat) : Int)) := rfl
  obtain ⟨q, Hq⟩ : ∃ q, Hid (sumTo s s.size = q) := ⟨_, hid rfl⟩
  rw [Hq.out] at hz hq HS
  go_enter Tryd.func53, Tryd.ntmps53
  go_wp2_with fail
  refine (l1Sum_any s (by unfold maxLen; omega) _).mono ?_
  rintro e w' ⟨rfl, rfl⟩
  rw [Hq.out]
  go_wp2_with fail
  refine (l1Num_any (q : Int) (by omega) (by omega) _).mono ?_
  rintro e w1 ⟨_, rfl, hb, rfl⟩
  go_wp2_with fail
  go_ret
  exact Gives.mk (by rw [HS.out]; rfl) hb
set_option maxHeartbeats 2000000 in
theorem spec_AppendChecksum (s : ByteArray) (hs : s.size ≤ 1048576) (w : World) : Calls Tryd.prog 19 #[.string s] w (Gives w (.tuple #[.string (appR s), .bool (appOk s)])) := by
  have hsz := sealB_size s
  have hz := sum_itoa s
  by_cases h1 : 4000 < s.size
  · have HO : Hid (appOk s = false) := by rw [Hid, appOk]; simp; omega
    have HR : Hid (appR s = ByteArray.empty) := by rw [Hid, appR, if_neg (by rw [HO.out]; simp)]
    have h1' : (4000 : Int) < s.size := by omega
    clear hsz hz
    go_enter Tryd.func19, Tryd.ntmps19
    go_wp2_with fail
    go_ret2
    exact Gives.mk (by rw [HO.out, HR.out]; rfl) (Below.refl _ _)
  · have h1' : ¬ (4000 : Int) < s.size := by omega
    by_cases h2 : hasByte 35 s = true
    · have HO : Hid (appOk s = false) := by rw [Hid, appOk, h2]; rfl
      have HR : Hid (appR s = ByteArray.empty) := by rw [Hid, appR, if_neg (by rw [HO.out]; simp)]
      have HB := hid h2
      clear hsz hz h2
      go_enter Tryd.func19, Tryd.ntmps19
      go_wp2_with fail
      refine (l1Stands_any s 35 (by unfold maxLen; omega) _).mono ?_
      rintro e w' ⟨rfl, rfl⟩
      rw [HB.out]
      go_wp2_with fail
      go_ret2
      exact Gives.mk (by rw [HO.out, HR.out]; rfl) (Below.refl _ _)
    · have HB := hid (Bool.eq_false_iff.2 h2)
      clear h2
      by_cases h3 : (sealB s).size ≤ 4000
      · have HO : Hid (appOk s = true) := by rw [Hid, appOk, HB.out]; simp [h3]
        have HR : Hid (appR s = sealB s) := by rw [Hid, appR, if_pos HO.out]
        have h3' : ¬ (4000 : Int) < (sealB s).size := by omega
        clear hsz hz
        go_enter Tryd.func19, Tryd.ntmps19
        go_wp2_with fail
        refine (l1Stands_any s 35 (by unfold maxLen; omega) _).mono ?_
        rintro e w' ⟨rfl, rfl⟩
        rw [HB.out]
        go_wp2_with fail
        refine (l1Seal_any s hs _).mono ?_
        rintro e w1 ⟨_, rfl, hb, rfl⟩
        go_wp2_with fail
        refine (l1Seal_any s hs _).mono ?_
        rintro e w2 ⟨_, rfl, hb2, rfl⟩
        go_wp2_with fail
        go_ret2
        exact Gives.mk (by rw [HO.out, HR.out]; rfl) (hb.trans (hb2.mono hb.size))
      · have HO : Hid (appOk s = false) := by rw [Hid, appOk]; simp [h3]
        have HR : Hid (appR s = ByteArray.empty) := by rw [Hid, appR, if_neg (by rw [HO.out]; simp)]
        have h3' : (4000 : Int) < (sealB s).size := by omega
        clear hsz hz
        go_enter Tryd.func19, Tryd.ntmps19
        go_wp2_with fail
        refine (l1Stands_any s 35 (by unfold maxLen; omega) _).mono ?_
        rintro e w' ⟨rfl, rfl⟩
        rw [HB.out]
        go_wp2_with fail
        refine (l1Seal_any s hs _).mono ?_
        rintro e w1 ⟨_, rfl, hb, rfl⟩
        go_wp2_with fail
        go_ret2
        exact Gives.mk (by rw [HO.out, HR.out]; rfl) hb
set_option maxHeartbeats 2000000 in
theorem impl_AppendChecksum (s : ByteArray) (hs : s.size ≤ 1048576) {w : World} (hT : TabF w) : Calls Tryd.prog 20 #[.string s] w (Gives w (.tuple #[.string (appR s), .bool (appOk s)])) := by
  have hsz := sealB_size s
  have hz := sum_itoa s
  have hq := sumTo_lt s s.size
  have HS : Hid (sealB s = s ++ ⟨#[35]⟩ ++ itoaB ((sumTo s s.size : Nat) : Int)) := rfl
  have HI : Hid (decide (0 ≤ Lib.indexByte s.data.toList 35) = hasByte 35 s) := indexByte_has 35 s
  obtain ⟨q, Hq⟩ : ∃ q, Hid (sumTo s s.size = q) := ⟨_, hid rfl⟩
  rw [Hq.out] at hz hq HS hsz
  have HP : ∀ ok, appOk s = ok → (appR s = if ok = true then sealB s else ByteArray.empty) := fun ok h => by rw [appR, h]
  by_cases h2 : hasByte 35 s = true
  · have HO : Hid (appOk s = false) := by rw [Hid, appOk, h2]; rfl
    have HR := hid (HP _ HO.out)
    have HB := hid h2
    clear h2 HP hsz
    go_enter Tryd.func20, Tryd.ntmps20
    go_wp2_with fail
    refine (checksum_any s (by unfold maxLen; omega) _).mono ?_
    rintro e w' ⟨rfl, rfl⟩
    rw [Hq.out]
    go_wp2_with fail
    refine (itoa_any (n := (q : Int)) (by omega) (by omega) hT).mono ?_
    rintro e w1 ⟨_, rfl, hb, rfl⟩
    go_wp2_with fail
    refine (Tryd.strings_Contains_one s 35 _).mono ?_
    rintro e w' ⟨rfl, rfl⟩
    rw [HI.out, HB.out]
    go_wp2_with fail
    go_ret2
    exact Gives.mk (by rw [HO.out, HR.out]; rfl) hb
  · have HB := hid (Bool.eq_false_iff.2 h2)
    clear h2
    by_cases h3 : (sealB s).size ≤ 4000
    · have HO : Hid (appOk s = true) := by rw [Hid, appOk, HB.out]; simp [h3]
      have HR := hid (HP _ HO.out)
      have h3' : ¬ (4000 : Int) < (s.size + 1 + (itoaB (q : Int)).size : Nat) := by omega
      clear HP hsz
      go_enter Tryd.func20, Tryd.ntmps20
      go_wp2_with fail
      refine (checksum_any s (by unfold maxLen; omega) _).mono ?_
      rintro e w' ⟨rfl, rfl⟩
      rw [Hq.out]
      go_wp2_with fail
      refine (itoa_any (n := (q : Int)) (by omega) (by omega) hT).mono ?_
      rintro e w1 ⟨_, rfl, hb, rfl⟩
      go_wp2_with fail
      refine (Tryd.strings_Contains_one s 35 _).mono ?_
      rintro e w' ⟨rfl, rfl⟩
      rw [HI.out, HB.out]
      go_wp2_with fail
      go_ret2
      exact Gives.mk (by rw [HO.out, HR.out, HS.out]; rfl) hb
    · have HO : Hid (appOk s = false) := by rw [Hid, appOk]; simp [h3]
      have HR := hid (HP _ HO.out)
      have h3' : (4000 : Int) < (s.size + 1 + (itoaB (q : Int)).size : Nat) := by omega
      clear HP hsz
      go_enter Tryd.func20, Tryd.ntmps20
      go_wp2_with fail
      refine (checksum_any s (by unfold maxLen; omega) _).mono ?_
      rintro e w' ⟨rfl, rfl⟩
      rw [Hq.out]
      go_wp2_with fail
      refine (itoa_any (n := (q : Int)) (by omega) (by omega) hT).mono ?_
      rintro e w1 ⟨_, rfl, hb, rfl⟩
      go_wp2_with fail
      refine (Tryd.strings_Contains_one s 35 _).mono ?_
      rintro e w' ⟨rfl, rfl⟩
      rw [HI.out, HB.out]
      go_wp2_with fail
      go_ret2
      exact Gives.mk (by rw [HO.out, HR.out]; rfl) hb
end Go.Proofs.YtgbfcaehijpgcaaDoor
