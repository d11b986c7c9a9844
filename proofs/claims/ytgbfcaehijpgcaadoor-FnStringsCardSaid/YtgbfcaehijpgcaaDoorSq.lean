/- A string is split at a byte: the reference's. -/
import Derived.Test.YtgbfcaehijpgcaaDoorSp
import Derived.Test.YtgbfcaehijpgcaaDoorBl
namespace Go.Proofs.YtgbfcaehijpgcaaDoor
set_option maxRecDepth 100000
open Go Go.RowKit

theorem ext_all (s : ByteArray) (a : Nat) : (s.extract a s.size).data.toList = s.data.toList.drop a := by
  rw [ext_list, List.take_of_length_le (by rw [Array.length_toList]; exact Nat.le_refl _)]
theorem byte_here {s : ByteArray} {k : Nat} {c : UInt8} (h : k < s.size) (he : byteAt s k = c.toNat) : s.data.toList[k]? = some c := by
  obtain ⟨b, hb, hv⟩ := byteAt_list h
  rw [hb]
  congr 1
  exact UInt8.toNat_inj.1 (hv.trans he)
theorem byte_not {s : ByteArray} {k : Nat} {c : UInt8} (he : byteAt s k ≠ c.toNat) : s.data.toList[k]? ≠ some c := by
  intro q
  have hk : k < s.size := by
    rcases Nat.lt_or_ge k s.data.toList.length with h | h
    · rwa [size_list] at h
    · rw [List.getElem?_eq_none h] at q; cases q
  obtain ⟨b, hb, hv⟩ := byteAt_list hk
  rw [hb] at q
  injection q with q
  subst q
  exact he hv.symm
theorem splitS_at {c : UInt8} {s : ByteArray} {f k : Nat} (hf : f ≤ k) (hk : k < s.size) (he : byteAt s k = c.toNat) (hn : ∀ j, f ≤ j → j < k → byteAt s j ≠ c.toNat) : splitS c (s.extract f s.size) = s.extract f k :: splitS c (s.extract (k + 1) s.size) := by
  unfold splitS
  rw [ext_all, ext_all, splitL_at c (s.data.toList.drop f) (k - f) (by rw [List.getElem?_drop, show f + (k - f) = k by omega]; exact byte_here hk he) (fun j hj => by rw [List.getElem?_drop]; exact byte_not (hn _ (by omega) (by omega))), List.map_cons, List.drop_drop, show f + (k - f + 1) = k + 1 by omega]
  congr 1
  rw [← ba_list (s.extract f k), ext_list, List.drop_take]
theorem splitS_last {c : UInt8} {s : ByteArray} {f : Nat} (hn : ∀ j, f ≤ j → j < s.size → byteAt s j ≠ c.toNat) : splitS c (s.extract f s.size) = [s.extract f s.size] := by
  unfold splitS
  rw [splitL_no c _ (fun b hb e => ?_), List.map_cons, List.map_nil, ba_list]
  rw [ext_all] at hb
  obtain ⟨i, hi, rfl⟩ := List.mem_iff_getElem.1 hb
  rw [List.length_drop, size_list] at hi
  refine byte_not (hn (f + i) (by omega) (by omega)) ?_
  rw [← List.getElem?_drop, List.getElem?_eq_getElem (by rw [List.length_drop, size_list]; exact hi), e]
theorem splitS_whole (c : UInt8) (s : ByteArray) : splitS c s = splitS c (s.extract 0 s.size) := by
  unfold splitS; rw [ext_all, List.drop_zero]
set_option maxHeartbeats 2000000 in
theorem l1Split_any (s : ByteArray) (c : UInt8) (hs : s.size ≤ 1048576) (w : World) : Calls Tryd.prog 49 #[.string s, .int .u8 c.toNat] w fun e w' => ∃ v, e = .returned v ∧ Row w' w.heap.size v (splitS c s) ∧ v ≠ .slice none 0 0 ∧ Below w.heap.size w w' := by
  obtain ⟨C, HC⟩ : ∃ C, Hid (c.toNat = C) := ⟨_, hid rfl⟩
  rw [HC.out]
  go_enter Tryd.func49, Tryd.ntmps49
  go_wp2_with fail
  go_loopw [5, 6, 7] (fun x f i wr => ∃ (k fr : Nat) (done : List ByteArray), fr ≤ k ∧ k ≤ s.size ∧ f = .int .i64 fr ∧ i = .int .i64 k ∧ Hid (Row wr w.heap.size x done) ∧ Hid (x ≠ .slice none 0 0) ∧ Hid (splitS c s = done ++ splitS c (s.extract fr s.size)) ∧ Hid (∀ j, fr ≤ j → j < k → byteAt s j ≠ C) ∧ done.length ≤ k ∧ Below w.heap.size w wr) (fun _ _ i _ => s.size - (intOf i).toNat)
  case atStart => exact ⟨0, 0, [], Nat.le_refl _, Nat.zero_le _, rfl, rfl, Row.made w (Nat.le_refl _), hid (by intro e; cases e), hid (splitS_whole c s), hid (fun j _ hj => absurd hj (by omega)), Nat.zero_le _, (Below.refl _ _).alloc (Nat.le_refl _) _⟩
  case round =>
    obtain ⟨k, fr, done, hfk, hk, rfl, rfl, HR, HN, HS, HX, hdl, hb⟩ := hrel
    obtain ⟨a, cap, rfl, -, -⟩ := HR.out.form
    have hbz := hb.size
    by_cases hlt : k < s.size
    · have hbe := byteAt_eq hlt
      have hbl := byteAt_lt s k
      have hlt0 : (k : Int) < s.size := by omega
      by_cases he : byteAt s k = C
      · have hq : ((byteAt s k : Int) == (C : Int)) = true := by rw [he]; simp
        have HS2 : Hid (splitS c s = (done ++ [s.extract fr k]) ++ splitS c (s.extract (k + 1) s.size)) := by
          rw [Hid, HS.out, splitS_at hfk hlt (he.trans HC.out.symm) (fun j h1 h2 => by rw [HC.out]; exact HX.out j h1 h2)]; simp
        have HX2 : Hid (∀ j, k + 1 ≤ j → j < k + 1 → byteAt s j ≠ C) := fun j h1 h2 => absurd h2 (by omega)
        have hxz : (s.extract fr k).size ≤ maxLen := by rw [ByteArray.size_extract]; unfold maxLen; omega
        have hfk' : (fr : Int) ≤ k := by omega
        have hks' : (k : Int) ≤ s.size := by omega
        have hA : Below wr.heap.size wr (wr.alloc (.cells #[.string (s.extract fr k)] 9)) := (Below.refl _ _).alloc (Nat.le_refl _) _
        clear he
        go_wp2_with (at_builtin; refine wpList_append_str rfl _ _ rfl (by rfl) (by rfl) (HR.out.keep hA) hxz (by rw [box1]; rfl) (by omega) (by rw [World.size_alloc]; omega) ?_; intro g cap3 w3 hrow3 hgr hgo hlt3)
        have hb4 : Below w.heap.size w w3 := (hb.trans (hA.mono hbz)).grown hgr (by rw [World.size_alloc]; omega) fun j hj => (HR.out.lt j hj).1
        have HR3 := hid hrow3
        clear hgr hgo hlt3
        go_roundw
        case rel => exact ⟨k + 1, k + 1, _, Nat.le_refl _, by omega, by go_num, by go_num, HR3, hid (by intro e; cases e), HS2, HX2, by simp; omega, hb4⟩
        case measure => simp [intOf]; omega
      · have hq : ((byteAt s k : Int) == (C : Int)) = false := by simp; omega
        have HX2 : Hid (∀ j, fr ≤ j → j < k + 1 → byteAt s j ≠ C) := fun j h1 h2 => by
          by_cases h : j < k
          · exact HX.out j h1 h
          · obtain rfl : j = k := by omega
            exact he
        clear he
        go_wp2_with fail
        go_roundw
        case rel => exact ⟨k + 1, fr, done, by omega, by omega, rfl, by go_num, HR, HN, HS, HX2, by omega, hb⟩
        case measure => simp [intOf]; omega
    · obtain rfl : k = s.size := by omega
      have HE : Hid (splitS c s = done ++ [s.extract fr s.size]) := by
        rw [Hid, HS.out, splitS_last (fun j h1 h2 => by rw [HC.out]; exact HX.out j h1 h2)]
      have hxz : (s.extract fr s.size).size ≤ maxLen := by rw [ByteArray.size_extract]; unfold maxLen; omega
      have hfk' : (fr : Int) ≤ s.size := by omega
      have hA : Below wr.heap.size wr (wr.alloc (.cells #[.string (s.extract fr s.size)] 9)) := (Below.refl _ _).alloc (Nat.le_refl _) _
      go_wp2_with (at_builtin; refine wpList_append_str rfl _ _ rfl (by rfl) (by rfl) (HR.out.keep hA) hxz (by rw [box1]; rfl) (by omega) (by rw [World.size_alloc]; omega) ?_; intro g cap3 w3 hrow3 hgr hgo hlt3)
      have hb4 : Below w.heap.size w w3 := (hb.trans (hA.mono hbz)).grown hgr (by rw [World.size_alloc]; omega) fun j hj => (HR.out.lt j hj).1
      go_ret
      exact ⟨_, rfl, by rw [HE.out]; simpa using hrow3, fun (e : Value.slice (some _) _ _ = .slice none 0 0) => by simp at e, hb4⟩
end Go.Proofs.YtgbfcaehijpgcaaDoor
