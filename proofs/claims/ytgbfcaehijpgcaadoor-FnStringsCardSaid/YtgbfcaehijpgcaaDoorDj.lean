/- A list of strings is drawn. -/
import Derived.Test.YtgbfcaehijpgcaaDoorDw
import Derived.Test.YtgbfcaehijpgcaaDoorSs
import Derived.Laws.OwnMore
namespace Go.Proofs.YtgbfcaehijpgcaaDoor
set_option maxRecDepth 100000
open Go Go.RowKit

theorem Row.cur {w w' : World} {B b : Nat} {v : Value} {ss : List ByteArray} (h : Row w B v ss) (hb : b < B) (hg : w.grownBy w' (some b)) : Row w' B v ss :=
  h.kept hg (by
    rcases hv : v.ownBlock with _ | k
    · exact .inl rfl
    · right; intro e; injection e with e; have := (h.lt k hv).1; omega)
theorem sum_bound (M : Nat) : ∀ ss : List ByteArray, (∀ s ∈ ss, s.size ≤ M) → strSum ss ≤ ss.length * M
  | [], _ => by simp [strSum]
  | s :: ss, h => by
    have h0 := h s (by simp)
    have h1 := sum_bound M ss fun x hx => h x (by simp [hx])
    rw [strSum, List.length_cons, Nat.add_mul, Nat.one_mul]; omega
theorem Cur.grown {w w' : World} {b k : Nat} {row : Option Nat} (h : Cur w b k) (hg : w.grownBy w' row) (hne : ∀ j, row = some j → b < j) : Cur w' b k := by
  obtain ⟨v1, n1, p1, s1, q1, q2, q3, q4, q5, q6, q7⟩ := h
  have e := hg.block b q3 (fun e => by have := hne _ e.symm; omega)
  exact ⟨v1, n1, p1, s1, q1.keep hg.size (fun j hj1 hj2 => hg.block j hj2 (fun e => by have := hne _ e.symm; omega)), q2, Nat.lt_of_lt_of_le q3 hg.size, (World.cell?_of_block (a := ⟨b, 0, none⟩) e).trans q4, (World.cell?_of_block (a := ⟨b, 1, none⟩) e).trans q5, (World.cell?_of_block (a := ⟨b, 2, none⟩) e).trans q6, fun i => (World.frozen?_of_block (a := ⟨b, i, none⟩) e).trans (q7 i)⟩
/-- m bytes that are 0 -/
def zeros (m : Nat) : ByteArray := ⟨(List.replicate m 0).toArray⟩
theorem zeros_size (m : Nat) : (zeros m).size = m := by simp [zeros, ByteArray.size]
theorem run_zeros (w : World) (m : Nat) : (convert 43 9 (.slice (some ⟨w.heap.size, 0, none⟩) m m)).run Tryd.prog (w.alloc (.cells (madeCells #[.int .u8 0] m) 5)) = .ok (.string (zeros m)) (w.alloc (.cells (madeCells #[.int .u8 0] m) 5)) := by
  have := run_convert_bytes_back (P := Tryd.prog) (w.alloc (.cells (madeCells #[.int .u8 0] m) 5)) 43 9 5 ⟨w.heap.size, 0, none⟩ m (List.replicate m 0) Tryd.underlying43 Tryd.underlying5 Tryd.underlying9 (fun j hj => by
    rw [List.length_replicate] at hj
    have e : (Addr.add ⟨w.heap.size, 0, none⟩ j) = ⟨w.heap.size, j, none⟩ := by
      unfold Addr.add
      split
      · rename_i h0; subst h0; rfl
      · simp
    rw [e, box1, ← Array.getElem?_toList, toList_madeCells_one]
    simp [hj])
  rw [List.length_replicate] at this
  exact this
set_option maxHeartbeats 4000000 in
theorem drawJoin_any {w : World} {v : Value} {n : Nat} (h : Bytes w v n) : Calls Tryd.prog 35 #[v] w fun e w' => ∃ lv ss q, e = .returned (.tuple #[lv, .string q]) ∧ D.rd (fun _ => True) w' lv (slOf strE ss) ∧ strBulk ss ≤ 1048576 ∧ q.size ≤ 10 ∧ Below w.heap.size w w' := by
  have hA : Below w.heap.size w (w.alloc (.cells #[v, .int .i64 0, .int .u64 0] 70)) := (Below.refl _ _).alloc (Nat.le_refl _) _
  have hC := Cur.new h
  have hz1 : (w.alloc (.cells #[v, .int .i64 0, .int .u64 0] 70)).heap.size = w.heap.size + 1 := by simp
  obtain ⟨va, vc, rfl, -⟩ := h
  go_enter Tryd.func35, Tryd.ntmps35
  go_wp2_with fail
  generalize w.alloc (.cells #[.slice va n vc, .int .i64 0, .int .u64 0] 70) = w0 at *
  have hA1 : Below w0.heap.size w0 (w0.alloc (.cells #[] 9)) := (Below.refl _ _).alloc (Nat.le_refl _) _
  have hR0 : Row (w0.alloc (.cells #[] 9)) (w.heap.size + 1) (.slice (some ⟨w.heap.size + 1, 0, none⟩) 0 0) [] := Row.made' hz1.symm (Nat.le_of_eq hz1.symm)
  have hb0 := hA.trans (hA1.mono hA.size)
  have hw0 := hA.size
  refine (pick_any (N := 4) (hC.below hA1) (by omega) (by omega) (by omega)).mono ?_
  rintro e w1 ⟨x, rfl, x0, x1, hc1, hg1⟩
  obtain ⟨N, rfl⟩ : ∃ N : Nat, x = N := ⟨x.toNat, by omega⟩
  have hN : N ≤ 3 := by omega
  have HR1 := hid (hR0.cur (Nat.lt_succ_self _) hg1)
  have hb1 : Below w.heap.size w w1 := hb0.grown hg1 hb0.size (fun k hk => by have hk' : w.heap.size = k := Option.some.inj hk; omega)
  clear hR0 hg1 hC
  go_wp2_with fail
  go_loopw [5, 7] (fun x i wr => ∃ (k : Nat) (ss : List ByteArray), k ≤ N ∧ i = .int .i64 k ∧ Hid (Row wr (w.heap.size + 1) x ss) ∧ Hid (ss.length = k) ∧ Hid (∀ s ∈ ss, s.size ≤ 10) ∧ Hid (Cur wr w.heap.size (2 + 2 * k)) ∧ Below w.heap.size w wr) (fun _ i _ => N - (intOf i).toNat)
  case atStart => exact ⟨0, [], Nat.zero_le _, rfl, HR1, rfl, fun s hs => by simp at hs, hc1, hb1⟩
  case round =>
    obtain ⟨k, ss, hk, rfl, HR, HL, HS, HC, hb⟩ := hrel
    have hbz := hb.size
    have hcl : w.heap.size < wr.heap.size := by obtain ⟨_, _, _, _, _, _, h, _⟩ := HC.out; exact h
    obtain ⟨xa, xc, rfl, -, -⟩ := HR.out.form
    by_cases hlt : k < N
    · go_wp2_with fail
      refine (any1_any HC.out (by omega)).mono ?_
      rintro e w2 ⟨s, rfl, hs, hc2, hg2⟩
      have hb2 : Below w.heap.size w w2 := hb.grown hg2 hbz (fun k hk => by have hk' : w.heap.size = k := Option.some.inj hk; omega)
      have hz2 := hg2.size
      have hr2 := HR.out.cur (Nat.lt_succ_self _) hg2
      have hA2 : Below w2.heap.size w2 (w2.alloc (.cells #[.string s] 9)) := (Below.refl _ _).alloc (Nat.le_refl _) _
      go_wp2_with (at_builtin; refine wpList_append_str (B := w.heap.size + 1) (y := s) rfl _ _ rfl (by rfl) (by rfl) (hr2.keep hA2) (by unfold maxLen; omega) (by rw [box1]; rfl) (by have := HL.out; omega) (by rw [World.size_alloc]; omega) ?_; intro g cap3 w3 hrow3 hgr hgo hlt3)
      have hb4 : Below w.heap.size w w3 := (hb2.trans (hA2.mono (by omega))).grown hgr (by rw [World.size_alloc]; omega) fun j hj => by have := (hr2.lt j hj).1; omega
      have HR3 := hid hrow3
      have HC3 : Hid (Cur w3 w.heap.size (2 + 2 * (k + 1))) := ((hc2.below hA2).grown hgr (fun j hj => (hr2.lt j hj).1)).mono (by omega)
      have HL3 : Hid ((ss ++ [s]).length = k + 1) := by rw [Hid, List.length_append, HL.out]; rfl
      have HS3 : Hid (∀ x ∈ ss ++ [s], x.size ≤ 10) := fun x hx => by
        rcases List.mem_append.1 hx with q | q
        · exact HS.out x q
        · have : x = s := by simpa using q
          rw [this]; exact hs
      clear hgr hgo hrow3
      go_roundw
      case rel => exact ⟨k + 1, ss ++ [s], by omega, by go_num, HR3, HL3, HS3, HC3, hb4⟩
      case measure => simp [intOf]; omega
    · obtain rfl : k = N := by omega
      go_wp2_with fail
      refine (one_any (N := 20) HC.out (by omega) (by omega) (by omega)).mono ?_
      rintro e w2 ⟨r, rfl, hc2, hg2⟩
      have hb2 : Below w.heap.size w w2 := hb.grown hg2 hbz (fun k hk => by have hk' : w.heap.size = k := Option.some.inj hk; omega)
      have hz2 := hg2.size
      have HR2 := hid (HR.out.cur (Nat.lt_succ_self _) hg2)
      clear hg2
      cases r
      · go_wp2_with fail
        have HLE : Hid (ss.length ≤ 4) := by rw [Hid, HL.out]; omega
        have HSM : Hid (∀ s ∈ ss, s.size ≤ 4009) := fun s hs => by have := HS.out s hs; omega
        have hA5 : Below w2.heap.size w2 (w2.alloc (.cells (seps2.map Value.string).toArray 9)) := (Below.refl _ _).alloc (Nat.le_refl _) _
        have hl5 : w.heap.size < w2.heap.size := by obtain ⟨_, _, _, _, _, _, h, _⟩ := hc2; exact h
        have hq := of_any (hc2.below hA5) (by omega) (lit_rd w2 seps2 hl5 (fun s hs => by have := seps2_size s hs; unfold maxLen; omega) (by decide)) (by decide) (by decide)
        refine Calls.mono hq ?_
        rintro e w7 ⟨q, rfl, hq2, hc7, hg7⟩
        have hr7 := (HR2.out.keep hA5).cur (Nat.lt_succ_self _) hg7
        have hbk := sum_bound 4009 (ss) HSM.out
        have hll := HLE.out
        go_wp2_with fail
        go_ret2
        exact ⟨_, (ss), q, rfl, hr7.rd, by rw [strBulk]; omega, seps2_size q hq2, (hb2.trans (hA5.mono hb2.size)).grown hg7 (by rw [World.size_alloc]; have := hb2.size; omega) (fun k hk => by have hk' : w.heap.size = k := Option.some.inj hk; omega)⟩
      · go_wp2_with fail
        refine (pick_any (N := 20) hc2 (by omega) (by omega) (by omega)).mono ?_
        rintro e w3 ⟨y, rfl, y0, y1, hc3, hg3⟩
        have hb3 : Below w.heap.size w w3 := hb2.grown hg3 hb2.size (fun k hk => by have hk' : w.heap.size = k := Option.some.inj hk; omega)
        have hz3 := hg3.size
        have hr3 := HR2.out.cur (Nat.lt_succ_self _) hg3
        obtain ⟨m, hm⟩ : ∃ m : Nat, 3990 + y = (m : Int) := ⟨(3990 + y).toNat, by omega⟩
        have hm2 : m ≤ 4009 := by omega
        have hmk : (Instr.makeSlice 43 (.int .i64 (m : Int)) (.int .i64 (m : Int))).run Tryd.prog w3 = .ok (.slice (some ⟨w3.heap.size, 0, none⟩) m m) (w3.alloc (.cells (madeCells #[.int .u8 0] m) 5)) := by
          have := run_mk (P := Tryd.prog) Tryd.underlying43 infoByte m (by omega) (by unfold big; omega) w3
          rw [Nat.mul_one] at this
          exact this
        have hcv := run_zeros w3 m
        have hA3 : Below w3.heap.size w3 (w3.alloc (.cells (madeCells #[.int .u8 0] m) 5)) := (Below.refl _ _).alloc (Nat.le_refl _) _
        have hA4 : Below (w3.alloc (.cells (madeCells #[.int .u8 0] m) 5)).heap.size (w3.alloc (.cells (madeCells #[.int .u8 0] m) 5)) ((w3.alloc (.cells (madeCells #[.int .u8 0] m) 5)).alloc (.cells #[.string (zeros m)] 9)) := (Below.refl _ _).alloc (Nat.le_refl _) _
        have hzz := zeros_size m
        have hbx : ((w3.alloc (.cells (madeCells #[.int .u8 0] m) 5)).alloc (.cells #[.string (zeros m)] 9)).cell? ⟨w3.heap.size + 1, 0, none⟩ = some (.string (zeros m)) := by
          have := box1 (w3.alloc (.cells (madeCells #[.int .u8 0] m) 5)) #[.string (zeros m)] 9 0
          rw [World.size_alloc] at this
          exact this
        go_wp2_with (at_builtin; refine wpList_append_str (B := w.heap.size + 1) (y := zeros m) rfl _ _ rfl (by rfl) (by rfl) ((hr3.keep hA3).keep hA4) (by unfold maxLen; omega) hbx (by have := HL.out; omega) (by rw [World.size_alloc, World.size_alloc]; omega) ?_; intro g cap3 w5 hrow5 hgr hgo hlt3)
        replace hc2 := ((hc3.below hA3).below hA4).grown hgr (fun j hj => (hr3.lt j hj).1)
        replace hb2 : Below w.heap.size w w5 := ((hb3.trans (hA3.mono hb3.size)).trans (hA4.mono (by rw [World.size_alloc]; omega))).grown hgr (by rw [World.size_alloc, World.size_alloc]; omega) fun j hj => by have := (hr3.lt j hj).1; omega
        replace HR2 := hid hrow5
        have HLE : Hid ((ss ++ [zeros m]).length ≤ 4) := by rw [Hid, List.length_append, HL.out]; simp only [List.length_cons, List.length_nil]; omega
        have HSM : Hid (∀ s ∈ (ss ++ [zeros m]), s.size ≤ 4009) := fun s hs => by
          rcases List.mem_append.1 hs with q | q
          · have := HS.out s q; omega
          · have : s = zeros m := by simpa using q
            rw [this]; omega
        clear hrow5 hgr hgo hmk hcv hm hc3 hr3 hg3
        generalize ss ++ [zeros m] = us at *
        have hA5 : Below w5.heap.size w5 (w5.alloc (.cells (seps2.map Value.string).toArray 9)) := (Below.refl _ _).alloc (Nat.le_refl _) _
        have hl5 : w.heap.size < w5.heap.size := by obtain ⟨_, _, _, _, _, _, h, _⟩ := hc2; exact h
        have hq := of_any (hc2.below hA5) (by omega) (lit_rd w5 seps2 hl5 (fun s hs => by have := seps2_size s hs; unfold maxLen; omega) (by decide)) (by decide) (by decide)
        refine Calls.mono hq ?_
        rintro e w7 ⟨q, rfl, hq2, hc7, hg7⟩
        have hr7 := (HR2.out.keep hA5).cur (Nat.lt_succ_self _) hg7
        have hbk := sum_bound 4009 (us) HSM.out
        have hll := HLE.out
        go_wp2_with fail
        go_ret2
        exact ⟨_, (us), q, rfl, hr7.rd, by rw [strBulk]; omega, seps2_size q hq2, (hb2.trans (hA5.mono hb2.size)).grown hg7 (by rw [World.size_alloc]; have := hb2.size; omega) (fun k hk => by have hk' : w.heap.size = k := Option.some.inj hk; omega)⟩
end Go.Proofs.YtgbfcaehijpgcaaDoor
