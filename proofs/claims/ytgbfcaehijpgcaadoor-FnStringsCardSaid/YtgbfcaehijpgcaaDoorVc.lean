/- VerifyChecksum: the program's and the reference's. -/
import Derived.Test.YtgbfcaehijpgcaaDoorAc
import Derived.Test.YtgbfcaehijpgcaaDoorSq
import Derived.Test.YtgbfcaehijpgcaaDoorMx
namespace Go.Proofs.YtgbfcaehijpgcaaDoor
set_option maxRecDepth 100000
open Go Go.RowKit

def verOk (s : ByteArray) : Bool := appOk (firstS 35 s) && decide (sealB (firstS 35 s) = s)
def verR (s : ByteArray) : ByteArray := if verOk s = true then firstS 35 s else ByteArray.empty
theorem firstS_size (c : UInt8) (s : ByteArray) : (firstS c s).size ≤ s.size := by
  unfold firstS splitS
  cases e : splitL c s.data.toList with
  | nil => exact absurd e (splitL_ne _ _)
  | cons x xs =>
    have := splitL_sizes c s.data.toList x (by rw [e]; simp)
    rw [Array.length_toList] at this
    show x.toArray.size ≤ _
    rw [List.size_toArray]; exact this
theorem splitL_first_no (c : UInt8) : ∀ l : List UInt8, ∀ b ∈ (splitL c l).headD [], b ≠ c
  | [], b, hb => by simp [splitL] at hb
  | a :: l, b, hb => by
    rw [splitL] at hb
    split at hb
    · simp at hb
    · rename_i h
      rw [List.headD_cons] at hb
      rcases List.mem_cons.1 hb with rfl | q
      · exact h
      · exact splitL_first_no c l b q
theorem first_no (c : UInt8) (s : ByteArray) : hasByte c (firstS c s) = false := by
  rw [Bool.eq_false_iff]
  intro q
  unfold firstS splitS hasByte at q
  cases e : splitL c s.data.toList with
  | nil => exact absurd e (splitL_ne _ _)
  | cons x xs =>
    rw [e, List.map_cons, List.headD_cons, List.any_eq_true] at q
    obtain ⟨b, hb, hc⟩ := q
    have := splitL_first_no c s.data.toList b (by rw [e]; simpa using hb)
    exact this (beq_iff_eq.1 hc)
set_option maxHeartbeats 2000000 in
theorem spec_VerifyChecksum (s : ByteArray) (hs : s.size ≤ 1048576) (w : World) : Calls Tryd.prog 21 #[.string s] w (Gives w (.tuple #[.string (verR s), .bool (verOk s)])) := by
  by_cases h1 : 4000 < s.size
  · have HO : Hid (verOk s = false) := by
      rw [Hid, verOk, appOk, Bool.eq_false_iff]
      intro q
      simp only [Bool.and_eq_true, decide_eq_true_eq] at q
      rw [q.2] at q
      omega
    have HR : Hid (verR s = ByteArray.empty) := by rw [Hid, verR, if_neg (by rw [HO.out]; simp)]
    have h1' : (4000 : Int) < s.size := by omega
    go_enter Tryd.func21, Tryd.ntmps21
    go_wp2_with fail
    go_ret2
    exact Gives.mk (by rw [HO.out, HR.out]; rfl) (Below.refl _ _)
  · have h1' : ¬ (4000 : Int) < s.size := by omega
    have hq := l1Split_any s 35 hs w
    have hfz := firstS_size 35 s
    have HO : Hid (verOk s = decide (sealB (firstS 35 s) = s)) := by
      rw [Hid, verOk]
      by_cases he : sealB (firstS 35 s) = s
      · have hz : (sealB (firstS 35 s)).size ≤ 4000 := by rw [he]; omega
        have hA : appOk (firstS 35 s) = true := by rw [appOk, first_no]; simp [hz]
        rw [hA, Bool.true_and]
      · simp [he]
    obtain ⟨f, Hf⟩ : ∃ f, Hid (firstS 35 s = f) := ⟨_, hid rfl⟩
    have HF : Hid ((splitS 35 s).headD ⟨#[]⟩ = f) := by rw [Hid, ← Hf.out]; rfl
    rw [Hf.out] at HO hfz
    have HV : Hid (verR s = if verOk s = true then f else ByteArray.empty) := by rw [Hid, verR, Hf.out]
    have hne := splitS_ne 35 s
    generalize splitS 35 s = ss at *
    cases ss with
    | nil => exact absurd rfl hne
    | cons x ss =>
      obtain rfl : x = f := HF.out
      by_cases he : sealB x = s
      · have HK : Hid (verOk s = true) := by rw [Hid, HO.out]; simp [he]
        have HR : Hid (verR s = x) := by rw [Hid, HV.out, if_pos HK.out]
        have hq1 : ((sealB x).toList == s.toList) = true := by rw [he]; simp
        clear he hne HO
        go_enter Tryd.func21, Tryd.ntmps21
        go_wp2_with fail
        refine hq.mono ?_
        rintro e w1 ⟨v, rfl, hrow, hn, hb⟩
        obtain ⟨a, cap, rfl, hl1, hl2⟩ := hrow.form
        obtain ⟨g, off, c2, e0, hgl, -, -, hrr⟩ := hrow.lst hn
        obtain ⟨rfl, -⟩ : a = some ⟨g, off, none⟩ ∧ True := by injection e0 with e0; exact ⟨e0, trivial⟩
        have q0 := (hrr 0 (by simp)).1
        rw [Nat.add_zero] at q0
        clear hq hrr e0
        have hl0 : (0 : Int) < (x :: ss).length := by simp
        go_wp2_with fail
        refine (l1Seal_any x (by omega) _).mono ?_
        rintro e w2 ⟨_, rfl, hb2, rfl⟩
        go_wp2_with fail
        go_ret2
        exact Gives.mk (by rw [HK.out, HR.out]; rfl) (hb.trans (hb2.mono hb.size))
      · have HK : Hid (verOk s = false) := by rw [Hid, HO.out]; simp [he]
        have HR : Hid (verR s = ByteArray.empty) := by rw [Hid, HV.out, if_neg (by rw [HK.out]; simp)]
        have hq1 := toList_ne he
        clear he hne HO
        go_enter Tryd.func21, Tryd.ntmps21
        go_wp2_with fail
        refine hq.mono ?_
        rintro e w1 ⟨v, rfl, hrow, hn, hb⟩
        obtain ⟨a, cap, rfl, hl1, hl2⟩ := hrow.form
        obtain ⟨g, off, c2, e0, hgl, -, -, hrr⟩ := hrow.lst hn
        obtain ⟨rfl, -⟩ : a = some ⟨g, off, none⟩ ∧ True := by injection e0 with e0; exact ⟨e0, trivial⟩
        have q0 := (hrr 0 (by simp)).1
        rw [Nat.add_zero] at q0
        clear hq hrr e0
        have hl0 : (0 : Int) < (x :: ss).length := by simp
        go_wp2_with fail
        refine (l1Seal_any x (by omega) _).mono ?_
        rintro e w2 ⟨_, rfl, hb2, rfl⟩
        go_wp2_with fail
        go_ret2
        exact Gives.mk (by rw [HK.out, HR.out]; rfl) (hb.trans (hb2.mono hb.size))
set_option maxHeartbeats 2000000 in
theorem impl_VerifyChecksum (s : ByteArray) (hs : s.size ≤ 1048576) {w : World} (hT : TabF w) (hM : MaxF w) : Calls Tryd.prog 22 #[.string s] w (Gives w (.tuple #[.string (verR s), .bool (verOk s)])) := by
  obtain ⟨m, hm⟩ := hM
  have hq := Tryd.strings_Cut s ⟨#[35]⟩ m w (by omega) hm
  rw [show (⟨(Lib.cut s.data.toList (⟨#[35]⟩ : ByteArray).data.toList).1.toArray⟩ : ByteArray) = firstS 35 s from cut_one 35 s] at hq
  have hfz := firstS_size 35 s
  have HO : Hid (verOk s = (appOk (firstS 35 s) && decide (sealB (firstS 35 s) = s))) := rfl
  have HV : Hid (verR s = if verOk s = true then firstS 35 s else ByteArray.empty) := rfl
  generalize firstS 35 s = f at *
  generalize (⟨(Lib.cut s.data.toList (⟨#[35]⟩ : ByteArray).data.toList).2.1.toArray⟩ : ByteArray) = x1 at *
  generalize (Lib.cut s.data.toList (⟨#[35]⟩ : ByteArray).data.toList).2.2 = x2 at *
  have hD : ∀ n, Below w.heap.size w (w.drewN n) := fun n => ⟨rfl, rfl, rfl, Nat.le_refl _, fun _ _ => rfl⟩
  by_cases h1 : appOk f = true
  · have HA : Hid (appR f = sealB f) := by rw [Hid, appR, if_pos h1]
    have HB := hid h1
    clear h1
    by_cases he : sealB f = s
    · have HK : Hid (verOk s = true) := by rw [Hid, HO.out, HB.out]; simp [he]
      have HR : Hid (verR s = f) := by rw [Hid, HV.out, if_pos HK.out]
      have hq1 : ((sealB f).toList == s.toList) = true := by rw [he]; simp
      clear he
      go_enter Tryd.func22, Tryd.ntmps22
      go_wp2_with fail
      refine hq.mono ?_
      rintro e w1 ⟨rfl, n, rfl⟩
      have hT1 := TabF.keep hT (hD n)
      have hb := hD n
      clear hq
      generalize w.drewN n = w1 at *
      go_wp2_with fail
      refine (impl_AppendChecksum f (by omega) hT1).mono ?_
      rintro e w2 ⟨_, rfl, hb2, rfl⟩
      rw [HA.out, HB.out]
      go_wp2_with fail
      go_ret2
      exact Gives.mk (by rw [HK.out, HR.out]; rfl) (hb.trans (hb2.mono hb.size))
    · have HK : Hid (verOk s = false) := by rw [Hid, HO.out]; simp [he]
      have HR : Hid (verR s = ByteArray.empty) := by rw [Hid, HV.out, if_neg (by rw [HK.out]; simp)]
      have hq1 := toList_ne he
      clear he
      go_enter Tryd.func22, Tryd.ntmps22
      go_wp2_with fail
      refine hq.mono ?_
      rintro e w1 ⟨rfl, n, rfl⟩
      have hT1 := TabF.keep hT (hD n)
      have hb := hD n
      clear hq
      generalize w.drewN n = w1 at *
      go_wp2_with fail
      refine (impl_AppendChecksum f (by omega) hT1).mono ?_
      rintro e w2 ⟨_, rfl, hb2, rfl⟩
      rw [HA.out, HB.out]
      go_wp2_with fail
      go_ret2
      exact Gives.mk (by rw [HK.out, HR.out]; rfl) (hb.trans (hb2.mono hb.size))
  · have HB := hid (Bool.eq_false_iff.2 h1)
    have HK : Hid (verOk s = false) := by rw [Hid, HO.out, HB.out]; rfl
    have HR : Hid (verR s = ByteArray.empty) := by rw [Hid, HV.out, if_neg (by rw [HK.out]; simp)]
    clear h1
    go_enter Tryd.func22, Tryd.ntmps22
    go_wp2_with fail
    refine hq.mono ?_
    rintro e w1 ⟨rfl, n, rfl⟩
    have hT1 := TabF.keep hT (hD n)
    have hb := hD n
    clear hq
    generalize w.drewN n = w1 at *
    go_wp2_with fail
    refine (impl_AppendChecksum f (by omega) hT1).mono ?_
    rintro e w2 ⟨_, rfl, hb2, rfl⟩
    rw [HB.out]
    go_wp2_with fail
    go_ret2
    exact Gives.mk (by rw [HK.out, HR.out]; rfl) (hb.trans (hb2.mono hb.size))
end Go.Proofs.YtgbfcaehijpgcaaDoor
