/- A term (by value) is marked, and is found marked. -/
import Derived.Test.YtooocakkjdhfiaaDoorMh
namespace Go.Proofs.YtooocakkjdhfiaaDoor
set_option maxRecDepth 100000
open Go.RowKit

set_option maxHeartbeats 1000000 in
theorem markTerm_any (ts : List Tm) (k : Nat) {n : ByteArray} {v : Value} {F : List Nat} {w : World} (hk : k + Tm.sizes ts ≤ 1099511627776) (ho : D.own w v (Tm.sd ts) F) :
    Calls Tryd.prog 9 #[.agg #[.string n, v], .int .i64 k] w fun e w' => e = .returned (.int .i64 (k + Tm.sizes ts : Nat)) ∧ Mk F w w' ∧ D.own w' v (Tm.sd (Tm.mks ts k)) F := by
  obtain ⟨a, cap, rfl⟩ := Tm.sd_own_form ho
  have hW : Below w.heap.size w (w.alloc (.cells #[.string n, .slice a ts.length cap] 28)) := (Below.refl _ _).alloc (Nat.le_refl _) _
  have hq := markTermS_any ts k _ F _ hk (D.own_keep _ _ _ (Keeps.all hW) ho)
  go_enter Tryd.func9, Tryd.ntmps9
  go_wp2_with fail
  refine hq.mono ?_
  rintro e w1 ⟨rfl, hm, ho1⟩
  go_wp2_with fail
  go_ret
  exact ⟨rfl, (Mk.of_below hW).trans hm, ho1⟩
set_option maxHeartbeats 1000000 in
theorem heldTerm_any (ts : List Tm) (k : Nat) {n : ByteArray} {S : Nat → Prop} {v : Value} {w : World} (hk : k + Tm.sizes ts ≤ 1099511627776) (hr : D.rd S w v (Tm.sd (Tm.mks ts k))) :
    Calls Tryd.prog 10 #[.agg #[.string n, v], .int .i64 k] w (Gives w (.int .i64 (k + Tm.sizes ts : Nat))) := by
  obtain ⟨a, cap, rfl, -, -⟩ := Tm.sd_form hr
  have hW : Below w.heap.size w (w.alloc (.cells #[.string n, .slice a (Tm.mks ts k).length cap] 28)) := (Below.refl _ _).alloc (Nat.le_refl _) _
  have hq := heldTermS_any ts k _ _ _ hk (D.rd_keep (Keeps.all hW) _ _ hr)
  have h0 : ¬ ((k + Tm.sizes ts : Nat) : Int) < 0 := by omega
  go_enter Tryd.func10, Tryd.ntmps10
  go_wp2_with fail
  refine hq.mono ?_
  rintro e w1 ⟨_, rfl, hb, rfl⟩
  go_wp2_with fail
  go_ret
  exact Gives.mk rfl (hW.trans (hb.mono hW.size))
end Go.Proofs.YtooocakkjdhfiaaDoor
