/- A name is put into a list; the variables of a term; does a variable occur? -/
import Derived.Test.YtominpdaipaioaaTv
import Derived.Test.YtominpdaipaioaaVs
import Derived.Test.YtominpdaipaioaaAp
import Derived.Deep.RegionHeld3
namespace Go.Proofs.Ytominpdaipaioaa
set_option maxRecDepth 100000
open Go.RowKit

set_option maxHeartbeats 2000000 in
theorem l2Put_any {ss : List ByteArray} {s : ByteArray} {v : Value} {w : World} (hv : Lst w v ss) (hs : s.size ≤ maxLen) (hn : ss.length ≤ 1073741824) : Calls Try.prog 109 #[v, .string s] w (Yields w fun u w' => Lst w' u (putStr ss s)) := by
  have HV := hid hv
  obtain ⟨b, off, cap, rfl, hbl, hcap, hcm, hrr⟩ := hv
  have HR := hid hrr
  clear hrr
  unfold maxLen at hcm
  go_enter Try.func109, Try.ntmps109
  go_wp2_with fail
  go_loop [5] (fun i => ∃ k : Nat, k ≤ ss.length ∧ i = .int .i64 k ∧ Hid (∀ j (h : j < k) (hj : j < ss.length), Op.bytesLess ss[j].toList s.toList = true)) (fun i => ss.length - (intOf i).toNat)
  case atStart => exact ⟨0, Nat.zero_le _, rfl, fun j h => absurd h (by omega)⟩
  case round =>
    obtain ⟨k, hk, rfl, HK⟩ := hrel
    by_cases hlt : k < ss.length
    · obtain ⟨q0, -⟩ := HR.out k hlt
      by_cases hL : Op.bytesLess ss[k].toList s.toList = true
      · have HS : Hid (∀ j (h : j < k + 1) (hj : j < ss.length), Op.bytesLess ss[j].toList s.toList = true) := fun j h hj => by
          by_cases hjk : j < k
          · exact HK.out j hjk hj
          · obtain rfl : j = k := by omega
            exact hL
        go_wp2_with fail
        go_round
        case rel => exact ⟨k + 1, by omega, by go_num, HS⟩
        case measure => simp [intOf]; omega
      · replace hL : Op.bytesLess ss[k].toList s.toList = false := by simpa using hL
        by_cases he : ss[k] = s
        · have HP : Hid (putStr ss s = ss) := putStr_there hlt (fun j h => HK.out j h (by omega)) hL he
          have hq := show (ss[k].toList == s.toList) = true by rw [he]; simp
          clear he
          go_wp2_with fail
          go_ret
          exact ⟨_, rfl, Below.refl _ _, by rw [HP.out]; exact HV.out⟩
        · have HP : Hid (putStr ss s = ss.take k ++ [s] ++ ss.drop k) := putStr_new (by omega) (fun j h => HK.out j h (by omega)) (fun _ => ⟨hL, he⟩)
          have hq := toList_ne he
          clear he
          have hkc : ¬ cap = k := by omega
          go_wp2_with fail
          have hk0 : (0 : Int) ≤ k := by omega
          have hkn : (k : Int) ≤ ss.length := by omega
          have hkc1 : (k : Int) ≤ cap := by omega
          have hnc : (ss.length : Int) ≤ cap := by omega
          have HY : Hid (∀ y ∈ ss, y.size ≤ maxLen) := fun y hy => by
            obtain ⟨i, hi, rfl⟩ := List.mem_iff_getElem.1 hy
            exact (HR.out i hi).2
          go_region_held3 (fun _ => True)
            (trivial)
            (first | (refine step_apps (B := w.heap.size) (W := w) (ss := []) (ys := ss.take k) rfl (.tmp 33) (.tmp 36) rfl (by first | exact ((Below.refl w.heap.size w).alloc (Nat.le_refl _) _).drew | exact (((Below.refl w.heap.size w).alloc (Nat.le_refl _) _).alloc (by simp) _).drew) (by first | (simp; done) | (simp; omega)) (by rfl) (by rfl) (by first | exact (Row.made' (by simp) (by simp)).drew | exact ((Row.made' (by simp) (by simp)).keep ((Below.refl _ _).alloc (Nat.le_refl _) _)).drew) (by rw [List.length_take]; omega) (fun _ => hbl) (by intro j hj; have hj' : j < ss.length := (by rw [List.length_take] at hj; omega); rw [List.getElem_take]; exact (HR.out j hj').1) (by intro y hy; exact HY.out y (List.mem_of_mem_take hy)) (by rw [List.length_nil, List.length_take]; omega) ?_; intro v37 w37 hr37 hB37 hz37 hn37 hg37) | (refine step_app (B := w.heap.size) (W := w) (ss := [] ++ ss.take k) (y := s) rfl (.tmp 37) (.tmp 39) rfl (by first | exact hB37 | exact hB37.alloc hz37 _) (by first | exact hz37 | (simp; omega)) (by rfl) (by rfl) (by first | exact hr37 | exact hr37.keep ((Below.refl _ _).alloc (Nat.le_refl _) _)) hs (by first | exact box1 _ _ _ 0 | exact hg37.cell (v := .string s) (box2 _ _ _ _ _ 0).2 (fun (e : some _ = some _) => absurd (Option.some.inj e) (by first | omega | (simp; done) | (simp; omega))) | exact hg37.cell (v := .string s) (box2 _ _ _ _ _ 0).1 (fun (e : some _ = some _) => absurd (Option.some.inj e) (by first | omega | (simp; done) | (simp; omega)))) (by rw [List.nil_append, List.length_take]; omega) ?_; intro g40 cap40 w40 hr40 hB40 hz40 hlt40 hg40) | (go_must ((refine step_apps (B := w.heap.size) (W := w) (ss := [] ++ ss.take k ++ [s]) (ys := ss.drop k) rfl (.tmp 40) (.tmp 43) rfl hB40 hz40 (by rfl) (by rfl) (by exact hr40) (by simp) (fun _ => hbl) (by first | (intro j hj; have hj' : k + j < ss.length := (by rw [List.length_drop] at hj; omega); rw [List.getElem_drop, Nat.add_assoc]; exact (HR.out (k + j) hj').1) | (intro j hj; rw [List.length_drop] at hj; omega)) (by intro y hy; exact HY.out y (List.mem_of_mem_drop hy)) (by simp only [List.length_append, List.length_nil, List.length_cons, List.length_take, List.length_drop]; omega) ?_; intro v44 w44 hr44 hB44 hz44 hn44 hg44))))
          all_goals
            go_wp2_with fail
            go_ret
            exact ⟨_, rfl, hB44, by rw [HP.out]; exact Row.lst (by simpa using hr44) (hn44 (fun (e : Value.slice (some _) _ _ = .slice none 0 0) => by simp at e))⟩
    · obtain rfl : k = ss.length := by omega
      have HP : Hid (putStr ss s = ss.take ss.length ++ [s] ++ ss.drop ss.length) := putStr_new (by omega) (fun j h => HK.out j h (by omega)) (fun h => absurd h (by omega))
      by_cases hkc : cap = ss.length
      · subst hkc
        go_wp2_with fail
        have hk0 : (0 : Int) ≤ ss.length := by omega
        have hkn : (ss.length : Int) ≤ ss.length := by omega
        have HY : Hid (∀ y ∈ ss, y.size ≤ maxLen) := fun y hy => by
          obtain ⟨i, hi, rfl⟩ := List.mem_iff_getElem.1 hy
          exact (HR.out i hi).2
        go_region_held3 (fun _ => True)
          (trivial)
          (first | (refine step_apps (B := w.heap.size) (W := w) (ss := []) (ys := ss.take ss.length) rfl (.tmp 33) (.tmp 36) rfl (by first | exact ((Below.refl w.heap.size w).alloc (Nat.le_refl _) _).drew | exact (((Below.refl w.heap.size w).alloc (Nat.le_refl _) _).alloc (by simp) _).drew) (by first | (simp; done) | (simp; omega)) (by rfl) (by rfl) (by first | exact (Row.made' (by simp) (by simp)).drew | exact ((Row.made' (by simp) (by simp)).keep ((Below.refl _ _).alloc (Nat.le_refl _) _)).drew) (by rw [List.length_take]; omega) (fun _ => hbl) (by intro j hj; have hj' : j < ss.length := (by rw [List.length_take] at hj; omega); rw [List.getElem_take]; exact (HR.out j hj').1) (by intro y hy; exact HY.out y (List.mem_of_mem_take hy)) (by rw [List.length_nil, List.length_take]; omega) ?_; intro v37 w37 hr37 hB37 hz37 hn37 hg37) | (refine step_app (B := w.heap.size) (W := w) (ss := [] ++ ss.take ss.length) (y := s) rfl (.tmp 37) (.tmp 39) rfl (by first | exact hB37 | exact hB37.alloc hz37 _) (by first | exact hz37 | (simp; omega)) (by rfl) (by rfl) (by first | exact hr37 | exact hr37.keep ((Below.refl _ _).alloc (Nat.le_refl _) _)) hs (by first | exact box1 _ _ _ 0 | exact hg37.cell (v := .string s) (box2 _ _ _ _ _ 0).2 (fun (e : some _ = some _) => absurd (Option.some.inj e) (by first | omega | (simp; done) | (simp; omega))) | exact hg37.cell (v := .string s) (box2 _ _ _ _ _ 0).1 (fun (e : some _ = some _) => absurd (Option.some.inj e) (by first | omega | (simp; done) | (simp; omega)))) (by rw [List.nil_append, List.length_take]; omega) ?_; intro g40 cap40 w40 hr40 hB40 hz40 hlt40 hg40) | (go_must ((refine step_apps (B := w.heap.size) (W := w) (ss := [] ++ ss.take ss.length ++ [s]) (ys := ss.drop ss.length) rfl (.tmp 40) (.tmp 43) rfl hB40 hz40 (by rfl) (by rfl) (by exact hr40) (by simp) (fun _ => hbl) (by first | (intro j hj; have hj' : ss.length + j < ss.length := (by rw [List.length_drop] at hj; omega); rw [List.getElem_drop, Nat.add_assoc]; exact (HR.out (ss.length + j) hj').1) | (intro j hj; rw [List.length_drop] at hj; omega)) (by intro y hy; exact HY.out y (List.mem_of_mem_drop hy)) (by simp only [List.length_append, List.length_nil, List.length_cons, List.length_take, List.length_drop]; omega) ?_; intro v44 w44 hr44 hB44 hz44 hn44 hg44))))
        all_goals
          go_wp2_with fail
          go_ret
          exact ⟨_, rfl, hB44, by rw [HP.out]; exact Row.lst (by simpa using hr44) (hn44 (fun (e : Value.slice (some _) _ _ = .slice none 0 0) => by simp at e))⟩
      · have hkc' : ss.length < cap := by omega
        go_wp2_with fail
        have hk0 : (0 : Int) ≤ ss.length := by omega
        have hkn : (ss.length : Int) ≤ ss.length := by omega
        have hkc1 : (ss.length : Int) ≤ cap := by omega
        have hnc : (ss.length : Int) ≤ cap := by omega
        have HY : Hid (∀ y ∈ ss, y.size ≤ maxLen) := fun y hy => by
          obtain ⟨i, hi, rfl⟩ := List.mem_iff_getElem.1 hy
          exact (HR.out i hi).2
        go_region_held3 (fun _ => True)
          (trivial)
          (first | (refine step_apps (B := w.heap.size) (W := w) (ss := []) (ys := ss.take ss.length) rfl (.tmp 33) (.tmp 36) rfl (by first | exact ((Below.refl w.heap.size w).alloc (Nat.le_refl _) _).drew | exact (((Below.refl w.heap.size w).alloc (Nat.le_refl _) _).alloc (by simp) _).drew) (by first | (simp; done) | (simp; omega)) (by rfl) (by rfl) (by first | exact (Row.made' (by simp) (by simp)).drew | exact ((Row.made' (by simp) (by simp)).keep ((Below.refl _ _).alloc (Nat.le_refl _) _)).drew) (by rw [List.length_take]; omega) (fun _ => hbl) (by intro j hj; have hj' : j < ss.length := (by rw [List.length_take] at hj; omega); rw [List.getElem_take]; exact (HR.out j hj').1) (by intro y hy; exact HY.out y (List.mem_of_mem_take hy)) (by rw [List.length_nil, List.length_take]; omega) ?_; intro v37 w37 hr37 hB37 hz37 hn37 hg37) | (refine step_app (B := w.heap.size) (W := w) (ss := [] ++ ss.take ss.length) (y := s) rfl (.tmp 37) (.tmp 39) rfl (by first | exact hB37 | exact hB37.alloc hz37 _) (by first | exact hz37 | (simp; omega)) (by rfl) (by rfl) (by first | exact hr37 | exact hr37.keep ((Below.refl _ _).alloc (Nat.le_refl _) _)) hs (by first | exact box1 _ _ _ 0 | exact hg37.cell (v := .string s) (box2 _ _ _ _ _ 0).2 (fun (e : some _ = some _) => absurd (Option.some.inj e) (by first | omega | (simp; done) | (simp; omega))) | exact hg37.cell (v := .string s) (box2 _ _ _ _ _ 0).1 (fun (e : some _ = some _) => absurd (Option.some.inj e) (by first | omega | (simp; done) | (simp; omega)))) (by rw [List.nil_append, List.length_take]; omega) ?_; intro g40 cap40 w40 hr40 hB40 hz40 hlt40 hg40) | (go_must ((refine step_apps (B := w.heap.size) (W := w) (ss := [] ++ ss.take ss.length ++ [s]) (ys := ss.drop ss.length) rfl (.tmp 40) (.tmp 43) rfl hB40 hz40 (by rfl) (by rfl) (by exact hr40) (by simp) (fun _ => hbl) (by first | (intro j hj; have hj' : ss.length + j < ss.length := (by rw [List.length_drop] at hj; omega); rw [List.getElem_drop, Nat.add_assoc]; exact (HR.out (ss.length + j) hj').1) | (intro j hj; rw [List.length_drop] at hj; omega)) (by intro y hy; exact HY.out y (List.mem_of_mem_drop hy)) (by simp only [List.length_append, List.length_nil, List.length_cons, List.length_take, List.length_drop]; omega) ?_; intro v44 w44 hr44 hB44 hz44 hn44 hg44))))
        all_goals
          go_wp2_with fail
          go_ret
          exact ⟨_, rfl, hB44, by rw [HP.out]; exact Row.lst (by simpa using hr44) (hn44 (fun (e : Value.slice (some _) _ _ = .slice none 0 0) => by simp at e))⟩
end Go.Proofs.Ytominpdaipaioaa
