/- The program's renaming of a list of names. -/
import Derived.Test.YtglhbaigigdeeaaDoorRq
import Derived.Test.YtglhbaigigdeeaaDoorSe
namespace Go.Proofs.YtglhbaigigdeeaaDoor
set_option maxRecDepth 100000
open Go.RowKit

theorem zeroStrM (w : World) : (zeroValue 9).run Tryd.prog w = .ok (.string ByteArray.empty) w := by kernel_rfl
set_option maxHeartbeats 2000000 in
theorem renaming_any (p : ByteArray) {ks : List ByteArray} {S : Nat → Prop} {v : Value} {w : World} (hp : p.size ≤ 1048576) (hks : ks.length ≤ 999999) (hn : ks.Nodup) (hT : TabF w) (hv : D.rd S w v (slOf strE ks)) :
    Calls Tryd.prog 30 #[v, .string p] w fun e w' => e = .returned (.map (some w.heap.size)) ∧ MapIs w' w.heap.size (kvR p ks) ∧ Below w.heap.size w w' := by
  obtain ⟨a, cap, rfl, hlen, hcap⟩ := slOf_form hv
  unfold big at hlen
  have HV := hid hv
  have HT := hid hT
  have HND := hid hn
  clear hv hT hn
  have HN0 : Hid (MapIs (w.alloc (.map #[] 0)) w.heap.size []) := MapIs.made w
  have hW : Below w.heap.size w (w.alloc (.map #[] 0)) := (Below.refl _ _).alloc (Nat.le_refl _) _
  have HZ : Hid ((w.alloc (.map #[] 0)).heap.size = w.heap.size + 1) := by simp [Hid]
  have hmm := @run_makeMap Tryd.prog
  go_enter Tryd.func30, Tryd.ntmps30
  go_wp2_with fail
  clear hmm
  generalize (w.alloc (.map #[] 0)) = w0 at *
  have hz0 := HZ.out
  go_loopw [11] (fun i wr => ∃ k : Nat, k ≤ ks.length ∧ i = .int .i64 k ∧ Hid (MapIs wr w.heap.size (kvR p (ks.take k))) ∧ Hid (Below w.heap.size w0 wr) ∧ w.heap.size + 1 ≤ wr.heap.size) (fun i _ => ks.length - (intOf i).toNat)
  case atStart => exact ⟨0, Nat.zero_le _, rfl, HN0, Below.refl _ _, by omega⟩
  case round =>
    obtain ⟨k, hk, rfl, HM, HB, hz⟩ := hrel
    have hkI : (0 : Int) ≤ (k : Int) := by omega
    have HBW := hid (hW.trans HB.out)
    by_cases hlt : k < ks.length
    · obtain ⟨b, off, rfl, -, hbl, hrr⟩ := strs_get (D.rd_keep (Keeps.all HBW.out) _ _ HV.out) (by intro e; subst e; simp at hlt)
      obtain ⟨q0, -⟩ := hrr k hlt
      clear hrr
      have hsz := itoaB_size (n := (k : Int)) (by omega) (by omega)
      have g4 : ¬ 9223372036854775807 < p.size + (itoaB (k : Int)).size := by omega
      have hq := itoa_any (n := (k : Int)) (by omega) (by omega) (TabF.keep HT.out HBW.out)
      go_wp2_with fail
      refine hq.mono ?_
      rintro e w2 ⟨_, rfl, hb2, rfl⟩
      have HM2 := hid (HM.out.keep (Keeps.all hb2))
      have HB2 := hid (HB.out.trans (hb2.mono (by omega)))
      have hz2 := hb2.size
      clear hq q0 hb2
      go_wp2_with (at_mapUpdate; go_must (refine wpList_put rfl _ _ _ (by rfl) HM2.out (by rw [kvR_keys]; exact HND.out.sublist (List.take_sublist _ _)) Tryd.underlying54 Tryd.underlying9 (by rfl) (by rfl) (by rfl) ?_; intro w3 hm3 hg3 hz3))
      rw [kvPut_none (kvR_fresh HND.out hlt)] at hm3
      have HM3 : Hid (MapIs w3 w.heap.size (kvR p (ks.take (k + 1)))) := by rw [Hid, kvR_snoc p ks k hlt]; exact hm3
      have HB3 := hid (HB2.out.grown hg3 (by omega) (fun x hx => by injection hx with hx; omega))
      clear hm3 hg3
      go_roundw
      case rel => exact ⟨k + 1, by omega, by go_num, HM3, HB3, by omega⟩
      case measure => simp [intOf]; omega
    · obtain rfl : k = ks.length := by omega
      have HM2 := HM.out
      rw [List.take_length] at HM2
      have hltn : ¬ (ks.length : Int) < (ks.length : Int) := by omega
      go_wp2_with fail
      go_ret
      exact ⟨rfl, HM2, HBW.out⟩
end Go.Proofs.YtglhbaigigdeeaaDoor
