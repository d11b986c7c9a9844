/- The text of a mark. -/
import Derived.Test.YtooocakkjdhfiaaDoorRows
import Derived.Test.YtooocakkjdhfiaaDoorReg
import Derived.Test.YtooocakkjdhfiaaDoorTx
import Derived.WalkSpells
import Derived.WalkLawsBesides
import Derived.Laws.BytesString
import Derived.Laws.IdiomStrings
namespace Go.Proofs.YtooocakkjdhfiaaDoor
set_option maxRecDepth 100000
open Go.RowKit

def digs (k : Nat) : List UInt8 := if _h : k = 0 then [] else digs (k / 10) ++ [UInt8.ofNat (48 + k % 10)]
termination_by k
decreasing_by omega
theorem digs_zero : digs 0 = [] := by rw [digs]; rfl
theorem digs_step {k : Nat} (h : 0 < k) : digs k = digs (k / 10) ++ [UInt8.ofNat (48 + k % 10)] := by rw [digs, dif_neg (by omega)]
theorem digs_length (k : Nat) : (digs k).length ≤ k := by
  induction k using Nat.strongRecOn with
  | ind k ih =>
    by_cases h : 0 < k
    · rw [digs_step h, List.length_append]
      have := ih (k / 10) (by omega)
      simp only [List.length_cons, List.length_nil]; omega
    · obtain rfl : k = 0 := by omega
      rw [digs_zero]; simp
theorem ret_txt {a b : ByteArray} (h : a = b) : Ending.returned (.string a) = .returned (.string b) := by rw [h]
/-- the text of mark k -/
def mtext (k : Nat) : List UInt8 := if k = 0 then [109, 48] else [109] ++ digs k
theorem mtext_length (k : Nat) : (mtext k).length ≤ k + 2 := by
  have := digs_length k
  unfold mtext
  split
  · simp
  · simp only [List.length_append, List.length_cons, List.length_nil]; omega

set_option maxHeartbeats 1000000 in
theorem markText_any (k : Nat) (hk : k ≤ 1099511627776) (w : World) : Calls Tryd.prog 32 #[.int .i64 k] w (Gives w (.string (bs (mtext k)))) := by
  by_cases h0 : k = 0
  · have HM : Hid (mtext k = [109, 48]) := by rw [Hid, mtext, if_pos h0]
    have hz : (k : Int) ≤ 0 := by omega
    clear h0
    go_enter Tryd.func32, Tryd.ntmps32
    go_wp2_with fail
    go_ret
    exact Gives.mk (ret_txt (by rw [HM.out]; rfl)) (Below.refl _ _)
  · have HM : Hid (mtext k = [109] ++ digs k) := by rw [Hid, mtext, if_neg h0]
    have hz : ¬ (k : Int) ≤ 0 := by omega
    clear h0
    have hdk := digs_length k
    go_enter Tryd.func32, Tryd.ntmps32
    go_wp2_with fail
    go_loopw [0, 3] (fun n o wr => ∃ (j : Nat) (l : List UInt8), n = .int .i64 j ∧ o = .string (bs l) ∧ l.length + j ≤ k ∧ Hid (digs k = digs j ++ l) ∧ Below w.heap.size w wr) (fun n _ _ => (intOf n).toNat)
    case atStart => exact ⟨k, [], rfl, rfl, by simp, by simp [Hid], Below.refl _ _⟩
    case round =>
      obtain ⟨j, l, rfl, rfl, hl, HX, hb⟩ := hrel
      by_cases hj : 0 < j
      · have hj' : (0 : Int) < j := by omega
        have HS := hid (digs_step hj)
        have hls := bs_size l
        obtain ⟨x, Hx⟩ : ∃ x, Hid (UInt8.ofNat (48 + j % 10) = x) := ⟨_, hid rfl⟩
        have hx : (x.toNat : Int) = 48 + (j : Int) % 10 := by rw [← Hx.out, UInt8.toNat_ofNat']; omega
        have hcv : (convert 59 9 (.slice (some ⟨wr.heap.size, 0, none⟩) 1 1)).run Tryd.prog (wr.alloc (.cells #[.int .u8 (48 + (j : Int) % 10)] 5)) = .ok (.string (bs [x])) (wr.alloc (.cells #[.int .u8 (48 + (j : Int) % 10)] 5)) :=
          run_convert_bytes_back (P := Tryd.prog) _ 59 9 5 ⟨wr.heap.size, 0, none⟩ 1 [x] Tryd.underlying59 Tryd.underlying5 Tryd.underlying9 (fun i hi => by
            obtain rfl : i = 0 := by simpa using hi
            rw [← hx]
            exact box1 _ _ _ 0)
        have hcs : (bs [x]).size = 1 := bs_size [x]
        have hov : ¬ 9223372036854775807 < (bs [x]).size + (bs l).size := by omega
        have hov2 : ¬ 9223372036854775807 < 1 + l.length := by omega
        have HS2 : Hid (digs k = digs (j / 10) ++ ([x] ++ l)) := by rw [Hid, HX.out, HS.out, Hx.out, List.append_assoc]
        have hdl : ([x] ++ l).length + j / 10 ≤ k := by simp only [List.length_append, List.length_cons, List.length_nil]; omega
        clear hx
        go_wp2_with fail
        go_roundw
        case rel => exact ⟨j / 10, [x] ++ l, by go_num, by rw [bs_append], hdl, HS2, hb.trans (((Below.refl _ _).alloc (Nat.le_refl _) _).mono hb.size)⟩
        case measure => simp [intOf]; omega
      · obtain rfl : j = 0 := by omega
        have hls := bs_size l
        have hov : ¬ 9223372036854775807 < (⟨#[109]⟩ : ByteArray).size + (bs l).size := by rw [show (⟨#[109]⟩ : ByteArray).size = 1 from rfl]; omega
        have HY : Hid (mtext k = [109] ++ l) := by rw [Hid, HM.out, HX.out, digs_zero]; rfl
        go_wp2_with fail
        go_ret
        exact Gives.mk (ret_txt (by rw [HY.out, ← bs_append]; rfl)) hb
end Go.Proofs.YtooocakkjdhfiaaDoor
