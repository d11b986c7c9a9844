/- Several texts in one file. -/
import Derived.Test.YtglhbaigigdeeaaGreatQ16
import Derived.Test.YtglhbaigigdeeaaGreatQ13
import Derived.Test.YtglhbaigigdeeaaGreatQ04
/- MakeClause: the reference's. -/
namespace Go.Proofs.YtglhbaigigdeeaaGreat
set_option maxRecDepth 100000
open Go.RowKit

set_option maxHeartbeats 1000000 in
theorem spec_MakeClause {xs : List Lit} {S : Nat → Prop} {v : Value} {w : World} (hs : D.rd S w v (Lit.sd xs)) (hbk : xs.length + Lit.bulks xs ≤ 1048576) :
    Calls Tryz.prog 6 #[v] w (RdN (fun v => .agg #[v]) (Lit.sd (mkR xs).ls) (mkOk xs) w) := by
  have HS := hid hs
  obtain ⟨a, cap, rfl, hlen, -⟩ := Lit.sd_form hs
  unfold big at hlen
  obtain ⟨R, HR⟩ : ∃ R, Hid (mkR xs = R) := ⟨_, hid rfl⟩
  obtain ⟨V, HV⟩ : ∃ V, Hid (mkOk xs = V) := ⟨_, hid rfl⟩
  rw [HR.out, HV.out]
  clear hs
  have hW : Below w.heap.size w (w.alloc (.cells #[.slice none 0 0] 26)) := (Below.refl _ _).alloc (Nat.le_refl _) _
  have rb : Box (w.alloc (.cells #[.slice none 0 0] 26)) (w.heap.size) [.slice none 0 0] := by
    have := (Box.new w [.slice none 0 0] 26)
    simpa only [World.size_alloc] using this
  have rf : ∀ p, (w.alloc (.cells #[.slice none 0 0] 26)).frozen? ⟨w.heap.size, p, none⟩ = false := fun p => World.frozen?_alloc_at _ _ _ p (by simp)
  have re0 := rb.c0
  have rf0 := rf 0
  have rl := rb.lt
  go_enter Tryz.func6, Tryz.ntmps6
  go_wp2_with fail
  clear re0 rf0 rl
  have Hw0 : Hid ((w.alloc (.cells #[.slice none 0 0] 26)).heap.size = w.heap.size + 1) := by simp [Hid]
  generalize (w.alloc (.cells #[.slice none 0 0] 26)) = w0 at *
  have hmw := @Below.size
  clear hmw
  have re0 := rb.c0
  have rf0 := rf 0
  have rl := rb.lt
  go_loopw [4] (fun iv wr => ∃ k : Nat, k ≤ xs.length ∧ iv = .int .i64 k ∧ Hid (∀ j (h : j < xs.length), j < k → xs[j].atom.atom = true) ∧ Hid (Below w0.heap.size w0 wr)) (fun iv _ => xs.length - (intOf iv).toNat)
  case atStart => exact ⟨0, Nat.zero_le _, rfl, fun j h h' => absurd h' (by omega), Below.refl _ _⟩
  case round =>
    obtain ⟨k, hk, rfl, HX, HB⟩ := hrel
    have hb := HB.out
    replace hW := hW.trans (hb.mono hW.size)
    replace rf := fun p => (hb.frozen (p := ⟨w.heap.size, p, none⟩) rb.lt).trans (rf p)
    replace rb := rb.keep hb
    have HBW := hid hW
    clear hb
    by_cases hlt : k < xs.length
    · have hne : xs ≠ [] := by intro e; subst e; simp at hlt
      obtain ⟨b, off, rfl, hSb, hbl, hrr⟩ := Lit.sd_get HS.out hne
      obtain ⟨c0, c1, c2, q0, q1, q2, qx⟩ := hrr k hlt
      have hq := hid (l2Atom_any xs[k].atom (Lit.at_atom (Lit.at_keep (Keeps.all HBW.out) qx)) (by have := Lit.bulk_memA (List.getElem_mem hlt); omega))
      obtain ⟨rfl, rfl, x, xc, rfl⟩ := Lit.at_form qx
      replace q0 := (HBW.out.cell (p := ⟨b, off + k * 3, none⟩) hbl).trans q0
      replace q1 := (HBW.out.cell (p := ⟨b, off + k * 3 + 1, none⟩) hbl).trans q1
      replace q2 : wr.cell? ⟨b, off + k * 3 + 1 + 1, none⟩ = some (.slice x xs[k].atom.args.length xc) := (HBW.out.cell (p := ⟨b, off + k * 3 + 2, none⟩) hbl).trans q2
      clear hrr qx
      have re0 := rb.c0
      have rf0 := rf 0
      have rl := rb.lt
      go_wp2_with fail
      clear re0 rf0 rl
      refine hq.out.mono ?_
      rintro e w2 ⟨_, rfl, hb, rfl⟩
      have HB2 := hid (HB.out.trans (hb.mono HB.out.size))
      replace hW := hW.trans (hb.mono hW.size)
      replace rf := fun p => (hb.frozen (p := ⟨w.heap.size, p, none⟩) rb.lt).trans (rf p)
      replace rb := rb.keep hb
      clear hb hq
      by_cases hp : xs[k].atom.atom = true
      · have HZ : Hid (∀ j (h : j < xs.length), j < k + 1 → xs[j].atom.atom = true) := fun j h h' => by
          by_cases hjk : j < k
          · exact HX.out j h hjk
          · obtain rfl : j = k := by omega
            exact hp
        rw [hp]
        clear hp q0 q1 q2
        go_wp2_with fail
        go_roundw
        case rel => exact ⟨k + 1, by omega, by go_num, HZ, HB2⟩
        case measure => simp [intOf]; omega
      · replace hp : xs[k].atom.atom = false := by simpa using hp
        obtain ⟨h1, h2⟩ := mkR_no (allAtom_bad hlt hp)
        have HR1 : Hid (R = ⟨[]⟩) := by rw [Hid, ← HR.out, h2]
        have HV1 : Hid (V = false) := by rw [Hid, ← HV.out, h1]
        rw [hp]
        clear hp h1 h2 q0 q1 q2
        have re0 := rb.c0
        have rf0 := rf 0
        have rl := rb.lt
        go_wp2_with fail
        refine bodyPost_ret (v := .tuple #[.agg #[.slice none 0 0], .bool false]) (by simp [results, Tryz.results6, go_sem, rb.c0]; try rfl) rfl ?_
        exact ⟨_, by rw [HV1.out], by rw [HR1.out]; exact rd_nilL, hW.setCell (by simp) _⟩
    · obtain rfl : k = xs.length := by omega
      have HA : Hid (allAtom xs = true) := (allAtom_iff xs).2 fun x hx => by
        obtain ⟨j, hj, rfl⟩ := List.mem_iff_getElem.1 hx
        exact HX.out j hj hj
      obtain ⟨h1, h2⟩ := mkR_yes HA.out
      have hmb := makeL_bulk xs
      have hq := hid (l7Make_any (D.rd_keep (Keeps.all HBW.out) _ _ HS.out) hbk)
      have re0 := rb.c0
      have rf0 := rf 0
      have rl := rb.lt
      go_wp2_with fail
      clear re0 rf0 rl
      refine hq.out.mono ?_
      rintro e w2 ⟨v2, rfl, hr2, hb⟩
      obtain ⟨a2, c2, rfl, -, -⟩ := Lit.sd_form hr2
      have hzz := hW.size
      replace hW := hW.trans (hb.mono hW.size)
      replace rf := fun p => (hb.frozen (p := ⟨w.heap.size, p, none⟩) rb.lt).trans (rf p)
      replace rb := rb.keep hb
      clear hb hq
      have hb : Below w2.heap.size w2 (w2.alloc (.cells #[.slice a2 (makeL xs).length c2] 26)) := (Below.refl _ _).alloc (Nat.le_refl _) _
      have bC : Box (w2.alloc (.cells #[.slice a2 (makeL xs).length c2] 26)) w2.heap.size [.slice a2 (makeL xs).length c2] := Box.new _ _ _
      have HR3 := hid (D.rd_keep (Keeps.all hb) _ _ hr2)
      have re0 := rb.c0
      have rf0 := rf 0
      have rl := rb.lt
      go_wp2_with fail
      clear re0 rf0 rl
      replace hW := hW.trans (hb.mono hW.size)
      replace rf := fun p => (hb.frozen (p := ⟨w.heap.size, p, none⟩) rb.lt).trans (rf p)
      replace rb := rb.keep hb
      clear hb hr2
      generalize (w2.alloc (.cells #[.slice a2 (makeL xs).length c2] 26)) = w3 at *
      have hq := hid (l7Good_any (x := ⟨makeL xs⟩) (S := fun x => wr.heap.size ≤ x) HR3.out (by rw [Cl.bulk]; simp only; omega))
      refine hq.out.mono ?_
      rintro e w4 ⟨_, rfl, hb, rfl⟩
      have e0 := (bC.keep hb).c0
      have HR4 := hid (D.rd_keep (Keeps.all hb) _ _ HR3.out)
      replace hW := hW.trans (hb.mono hW.size)
      replace rf := fun p => (hb.frozen (p := ⟨w.heap.size, p, none⟩) rb.lt).trans (rf p)
      replace rb := rb.keep hb
      clear hb hq hmb
      by_cases hv : (⟨makeL xs⟩ : Cl).valid = true
      · have HV1 : Hid (V = true) := by rw [Hid, ← HV.out, h1, hv]
        have HR1 : Hid (R = ⟨makeL xs⟩) := by rw [Hid, ← HR.out, h2, ifCl, if_pos hv]
        rw [hv]
        clear hv h1 h2
        have re0 := rb.c0
        have rf0 := rf 0
        have rl := rb.lt
        go_wp2_with fail
        refine bodyPost_ret (v := .tuple #[.agg #[.slice a2 (makeL xs).length c2], .bool true]) (by simp [results, Tryz.results6, go_sem, rb.c0]; try rfl) rfl ?_
        refine ⟨_, by rw [HV1.out], ?_, hW.setCell (by simp) _⟩
        rw [HR1.out]
        exact D.rd_mono (fun x (hx : wr.heap.size ≤ x) => Nat.le_trans hzz hx) _ _ (D.rd_keep ((Keeps.refl _ _).setCell (fun (q : wr.heap.size ≤ w.heap.size) _ => by have := HB.out.size; have := Hw0.out; omega) _) _ _ HR4.out)
      · have HV1 : Hid (V = false) := by rw [Hid, ← HV.out, h1]; simpa using hv
        have HR1 : Hid (R = ⟨[]⟩) := by rw [Hid, ← HR.out, h2, ifCl, if_neg hv]
        rw [Bool.eq_false_iff.2 hv]
        clear hv h1 h2
        have re0 := rb.c0
        have rf0 := rf 0
        have rl := rb.lt
        go_wp2_with fail
        refine bodyPost_ret (v := .tuple #[.agg #[.slice none 0 0], .bool false]) (by simp [results, Tryz.results6, go_sem, rb.c0]; try rfl) rfl ?_
        exact ⟨_, by rw [HV1.out], by rw [HR1.out]; exact rd_nilL, hW.setCell (by simp) _⟩
end Go.Proofs.YtglhbaigigdeeaaGreat
