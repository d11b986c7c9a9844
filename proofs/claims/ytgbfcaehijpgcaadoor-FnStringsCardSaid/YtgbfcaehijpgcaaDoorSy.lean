/- A byte that is changed in a checked string is found. Plain. -/
import Derived.Test.YtgbfcaehijpgcaaDoorVc
import Derived.Test.YtgbfcaehijpgcaaDoorSx
namespace Go.Proofs.YtgbfcaehijpgcaaDoor
set_option maxRecDepth 100000
open Go Go.RowKit

theorem itoa_no {n : Int} (h0 : -999999 ≤ n) (h1 : n ≤ 999999) : ∀ b ∈ Lib.itoa n, b ≠ 35 := by
  have h := (numOf_iff (Lib.itoa n) n).2 ⟨rfl, h0, h1⟩
  intro b hb e
  subst e
  unfold numOf at h
  split at h
  · cases hd : Lib.decFrom 0 (unsigned (Lib.itoa n)) with
    | none => rw [hd] at h; cases h
    | some u =>
      have hdig := decFrom_digits _ _ _ hd
      have : (35 : UInt8) ∈ unsigned (Lib.itoa n) := by
        generalize Lib.itoa n = l at *
        unfold unsigned
        split <;> simp_all
      have := hdig 35 this
      simp at this
  · cases h
/-- strings of one length that differ at one byte have other sums -/
theorem sum_differ {x y : ByteArray} {k : Nat} (hs : x.size = y.size) (hk : k < x.size) (hd : byteAt x k ≠ byteAt y k) (he : ∀ j, j ≠ k → byteAt x j = byteAt y j) : sumTo x x.size ≠ sumTo y y.size := by
  have low : ∀ j, j ≤ k → sumTo x j = sumTo y j := by
    intro j
    induction j with
    | zero => intro _; rfl
    | succ j ih =>
      intro hj
      rw [sumTo, sumTo, ih (by omega), he j (by omega)]
  have high : ∀ d, sumTo x (k + 1 + d) ≠ sumTo y (k + 1 + d) := by
    intro d
    induction d with
    | zero =>
      have h1 := byteAt_lt x k
      have h2 := byteAt_lt y k
      rw [Nat.add_zero, sumTo, sumTo, low k (Nat.le_refl _)]
      omega
    | succ d ih =>
      have h1 := sumTo_lt x (k + 1 + d)
      have h2 := sumTo_lt y (k + 1 + d)
      rw [← Nat.add_assoc, sumTo, sumTo, he (k + 1 + d) (by omega)]
      omega
  rw [← hs]
  have := high (x.size - (k + 1))
  rwa [show k + 1 + (x.size - (k + 1)) = x.size by omega] at this
theorem seal_list (x : ByteArray) : (sealB x).data.toList = x.data.toList ++ 35 :: Lib.itoa ((sumTo x x.size : Nat) : Int) := by
  rw [sealB, itoaB_bs, ByteArray.data_append, ByteArray.data_append, Array.toList_append, Array.toList_append, bs_list]
  simp
/-- two ways to part a list at a mark -/
theorem part_eq {c : UInt8} : ∀ {a b x y : List UInt8}, c ∉ a → c ∉ b → a ++ c :: x = b ++ c :: y → a = b ∧ x = y
  | [], [], x, y, _, _, h => by simpa using h
  | [], b :: b2, x, y, _, h2, h => by
    simp only [List.nil_append, List.cons_append, List.cons.injEq] at h
    exact absurd (by rw [h.1]; simp) h2
  | a :: a2, [], x, y, h1, _, h => by
    simp only [List.nil_append, List.cons_append, List.cons.injEq] at h
    exact absurd (by rw [h.1]; simp) h1
  | a :: a2, b :: b2, x, y, h1, h2, h => by
    simp only [List.cons_append, List.cons.injEq] at h
    obtain ⟨h3, h4⟩ := part_eq (fun q => h1 (by simp [q])) (fun q => h2 (by simp [q])) h.2
    exact ⟨by rw [h.1, h3], h4⟩
theorem has_no {s : ByteArray} (h : hasByte 35 s = false) : (35 : UInt8) ∉ s.data.toList := by
  intro q
  have : hasByte 35 s = true := by rw [hasByte, List.any_eq_true]; exact ⟨35, q, by simp⟩
  rw [h] at this; cases this
theorem sum_in (x : ByteArray) : -999999 ≤ ((sumTo x x.size : Nat) : Int) ∧ ((sumTo x x.size : Nat) : Int) ≤ 999999 := by
  have := sumTo_lt x x.size; omega
theorem seal_inj {x z : ByteArray} (hx : hasByte 35 x = false) (hz : hasByte 35 z = false) (h : sealB x = sealB z) : x = z := by
  have h1 := congrArg (fun s : ByteArray => s.data.toList) h
  simp only [seal_list] at h1
  have := (part_eq (has_no hx) (has_no hz) h1).1
  rw [← ba_list x, this, ba_list z]
theorem first_seal {x : ByteArray} (hx : hasByte 35 x = false) : firstS 35 (sealB x) = x := by
  unfold firstS splitS
  rw [seal_list, splitL_at 35 _ x.data.toList.length (by simp) (fun k hk => by
    rw [List.getElem?_append_left hk]
    intro q
    exact has_no hx (List.mem_of_getElem? q))]
  simp only [List.map_cons, List.headD_cons, List.take_left']
theorem ver_seal {x : ByteArray} (h : appOk x = true) : verOk (sealB x) = true ∧ verR (sealB x) = x := by
  have hx : hasByte 35 x = false := by rw [appOk, Bool.and_eq_true, Bool.not_eq_true'] at h; exact h.1
  have ho : verOk (sealB x) = true := by rw [verOk, first_seal hx, h]; simp
  exact ⟨ho, by rw [verR, if_pos ho, first_seal hx]⟩
/-- one byte changed -/
theorem ver_flip {x z : ByteArray} {k : Nat} (h : appOk x = true) (hs : z.size = (sealB x).size) (hk : k < z.size) (hd : byteAt z k ≠ byteAt (sealB x) k) (he : ∀ j, j ≠ k → byteAt z j = byteAt (sealB x) j) : verOk z = false := by
  have hx : hasByte 35 x = false := by rw [appOk, Bool.and_eq_true, Bool.not_eq_true'] at h; exact h.1
  rw [Bool.eq_false_iff]
  intro hv
  rw [verOk, Bool.and_eq_true, decide_eq_true_iff] at hv
  obtain ⟨hv1, hv2⟩ := hv
  generalize firstS 35 z = u at *
  have hu : hasByte 35 u = false := by rw [appOk, Bool.and_eq_true, Bool.not_eq_true'] at hv1; exact hv1.1
  subst hv2
  have lx := seal_list x
  have lu := seal_list u
  have nx := has_no hx
  have nu := has_no hu
  have dx := itoa_no (sum_in x).1 (sum_in x).2
  have du := itoa_no (sum_in u).1 (sum_in u).2
  have bat : ∀ (s : ByteArray) (j : Nat), j < s.size → ∃ b : UInt8, s.data.toList[j]? = some b ∧ b.toNat = byteAt s j := fun s j hj => byteAt_list hj
  have same : ∀ j, j ≠ k → (sealB u).data.toList[j]? = (sealB x).data.toList[j]? := fun j hj => by
    by_cases hl : j < (sealB u).size
    · obtain ⟨b, q0, q1⟩ := bat _ j hl
      obtain ⟨c, r0, r1⟩ := bat (sealB x) j (by omega)
      rw [q0, r0]
      congr 1
      exact UInt8.toNat_inj.1 (by rw [q1, r1, he j hj])
    · rw [List.getElem?_eq_none (by rw [size_list]; omega), List.getElem?_eq_none (by rw [size_list]; omega)]
  by_cases hsz : u.size = x.size
  · by_cases hkx : k < x.size
    · have hsub : ∀ (s : ByteArray) (j : Nat), j < s.size → byteAt (sealB s) j = byteAt s j := fun s j hj => by
        obtain ⟨b, q0, q1⟩ := bat s j hj
        obtain ⟨c, r0, r1⟩ := bat (sealB s) j (by have := sealB_size s; omega)
        rw [seal_list, List.getElem?_append_left (by rw [size_list]; exact hj), q0] at r0
        injection r0 with r0
        rw [← q1, ← r1, r0]
      have hdif := sum_differ (x := u) (y := x) (k := k) hsz (by omega) (by rw [← hsub u k (by omega), ← hsub x k hkx]; exact hd) (fun j hj => by
        by_cases hl : j < x.size
        · rw [← hsub u j (by omega), ← hsub x j hl]; exact he j hj
        · unfold byteAt; rw [dif_neg (by omega), dif_neg hl])
      -- the tails are the same
      have htl : Lib.itoa ((sumTo u u.size : Nat) : Int) = Lib.itoa ((sumTo x x.size : Nat) : Int) := by
        apply List.ext_getElem?
        intro i
        have := same (x.size + 1 + i) (by omega)
        rw [lx, lu, List.getElem?_append_right (by rw [size_list]; omega), List.getElem?_append_right (by rw [size_list]; omega), size_list, size_list, hsz, show x.size + 1 + i - x.size = i + 1 by omega, ← hsz] at this
        rw [List.getElem?_cons_succ, List.getElem?_cons_succ] at this
        rw [hsz] at this
        rw [hsz]
        exact this
      have hn := (numOf_iff (Lib.itoa ((sumTo u u.size : Nat) : Int)) _).2 ⟨rfl, (sum_in u).1, (sum_in u).2⟩
      have hn2 := (numOf_iff (Lib.itoa ((sumTo x x.size : Nat) : Int)) _).2 ⟨rfl, (sum_in x).1, (sum_in x).2⟩
      rw [htl, hn2] at hn
      injection hn with hn
      exact hdif (by omega)
    · have hux : u = x := by
        have : u.data.toList = x.data.toList := by
          apply List.ext_getElem?
          intro i
          by_cases hi : i < x.size
          · have := same i (by omega)
            rwa [lx, lu, List.getElem?_append_left (by rw [size_list]; omega), List.getElem?_append_left (by rw [size_list]; omega)] at this
          · rw [List.getElem?_eq_none (by rw [size_list]; omega), List.getElem?_eq_none (by rw [size_list]; omega)]
        rw [← ba_list u, this, ba_list x]
      subst hux
      exact hd rfl
  · have mark : ∀ s : ByteArray, (sealB s).data.toList[s.size]? = some 35 := fun s => by
      rw [seal_list, List.getElem?_append_right (by rw [size_list]; exact Nat.le_refl _), size_list, Nat.sub_self]; rfl
    have only : ∀ s : ByteArray, (35 : UInt8) ∉ s.data.toList → (∀ b ∈ Lib.itoa ((sumTo s s.size : Nat) : Int), b ≠ 35) → ∀ j, (sealB s).data.toList[j]? = some 35 → j = s.size := fun s h1 h2 j hj => by
      rw [seal_list] at hj
      by_cases hl : j < s.size
      · rw [List.getElem?_append_left (by rw [size_list]; exact hl)] at hj
        exact absurd (List.mem_of_getElem? hj) h1
      · rw [List.getElem?_append_right (by rw [size_list]; omega), size_list] at hj
        cases hjs : j - s.size with
        | zero => omega
        | succ i =>
          rw [hjs, List.getElem?_cons_succ] at hj
          exact absurd rfl (h2 35 (List.mem_of_getElem? hj))
    by_cases hkx : x.size = k
    · have hne : u.size ≠ k := by omega
      have := same u.size hne
      rw [mark u] at this
      exact hsz (only x nx dx _ this.symm)
    · have := same x.size hkx
      rw [mark x] at this
      exact hsz (only u nu du _ this).symm
end Go.Proofs.YtgbfcaehijpgcaaDoor
