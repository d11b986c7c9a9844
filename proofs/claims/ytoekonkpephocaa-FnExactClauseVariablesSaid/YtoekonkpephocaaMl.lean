/- Literals that a call owns are marked. -/
import Derived.Test.YtoekonkpephocaaM3
import Derived.Test.YtoekonkpephocaaCl
import Derived.Test.YtoekonkpephocaaHw
namespace Go.Proofs.Ytoekonkpephocaa
set_option maxRecDepth 100000
open Go.RowKit

def litHd (k : Nat) : D := .bit (decide (k % 3 = 0))
def litAs (ls : List Lit) : List (List Tm) := ls.map fun l => l.atom.args
theorem litAs_get (ls : List Lit) (j : Nat) (h : j < ls.length) (h' : j < (litAs ls).length) : (litAs ls)[j] = ls[j].atom.args := by simp [litAs]
theorem litAs_length (ls : List Lit) : (litAs ls).length = ls.length := by simp [litAs]
set_option maxHeartbeats 2000000 in
theorem markLitS_any (ls : List Lit) (k : Nat) {v : Value} {F : List Nat} {w : World} (hk : k + c3 (litAs ls) ≤ 1099511627776) (ho : D.own w v (Lit.sd ls) F) :
    Calls Try.prog 106 #[v, .int .i64 k] w fun e w' => e = .returned (.int .i64 (k + c3 (litAs ls) : Nat)) ∧ Mk F w w' ∧ D.own w' v (.sl ls.length (m3 litHd (litAs ls) k)) F := by
  obtain ⟨ds, Hds⟩ : ∃ ds, Hid (ls.flatMap Lit.cs = ds) := ⟨_, hid rfl⟩
  have HL : Hid (ds.length = ls.length * 3) := by rw [Hid, ← Hds.out]; exact flat_length (m := 3) (fun _ => rfl) ls
  have HG : Hid (∀ j (h : j < ls.length), ds[j * 3]? = some (.bit ls[j].pos) ∧ ds[j * 3 + 1]? = some (.str ls[j].atom.name) ∧ ds[j * 3 + 2]? = some (Tm.sd ls[j].atom.args)) := by
    intro j h
    rw [← Hds.out]
    have g := fun i (hi : i < 3) => flat_get (enc := Lit.cs) (m := 3) (fun _ => rfl) ls j i h hi
    exact ⟨g 0 (by decide), g 1 (by decide), g 2 (by decide)⟩
  have ho' : D.own w v (.sl ls.length ds) F := by rw [← Hds.out]; exact ho
  clear ho Hds
  obtain ⟨a, cap, rfl⟩ : ∃ a cap, v = .slice a ls.length cap := by rw [D.own] at ho'; obtain ⟨a, cap, e, _⟩ := ho'; exact ⟨a, cap, e⟩
  have hlen : ls.length ≤ 9223372036854775807 := by rw [D.own] at ho'; obtain ⟨_, _, _, h, _⟩ := ho'; exact h
  go_enter Try.func106, Try.ntmps106
  go_wp2_with fail
  go_loopw [1, 5] (fun x i wr => ∃ j : Nat, j ≤ ls.length ∧ i = .int .i64 j ∧ x = .int .i64 (k + c3 ((litAs ls).take j) : Nat) ∧ Hid (D.own wr (.slice a ls.length cap) (.sl ls.length (m3 litHd ((litAs ls).take j) k ++ ds.drop (j * 3))) F) ∧ Mk F w wr) (fun _ i _ => ls.length - (intOf i).toNat)
  case atStart => exact ⟨0, Nat.zero_le _, rfl, by simp [c3], by rw [List.take_zero, m3, List.nil_append, Nat.zero_mul, List.drop_zero]; exact ho', Mk.refl _ _⟩
  case round =>
    obtain ⟨j, hj, rfl, rfl, HO, hm⟩ := hrel
    by_cases hlt : j < ls.length
    · have hal := litAs_length ls
      have hst := c3_take (litAs ls) j (by omega)
      have hsl := c3_le (litAs ls) (j + 1)
      obtain ⟨q, HQ⟩ : ∃ q, Hid (k + c3 ((litAs ls).take j) = q) := ⟨_, hid rfl⟩
      rw [HQ.out]
      obtain ⟨A, HA⟩ : ∃ A, Hid (m3 litHd ((litAs ls).take j) k = A) := ⟨_, hid rfl⟩
      have HAl : Hid (j * 3 = A.length) := by rw [Hid, ← HA.out, m3_length, List.length_take]; congr 1; omega
      obtain ⟨x, y, z, hdr, g0, g1, g2⟩ := drop3 HL.out hlt
      obtain ⟨e0, e1, e2⟩ := HG.out j hlt
      obtain rfl : x = .bit ls[j].pos := by rw [g0] at e0; injection e0
      obtain rfl : y = .str ls[j].atom.name := by rw [g1] at e1; injection e1
      obtain rfl : z = Tm.sd ls[j].atom.args := by rw [g2] at e2; injection e2
      obtain ⟨R, HR⟩ : ∃ R, Hid (ds.drop ((j + 1) * 3) = R) := ⟨_, hid rfl⟩
      have h0 := HO.out
      rw [HA.out, hdr, HR.out] at h0
      have H0 := hid h0
      obtain ⟨b, off, F', rfl, rfl⟩ := own_at h0 (by simp)
      obtain ⟨⟨u0, x0⟩, f0⟩ := own_cell h0 (i := j * 3) (by rw [HAl.out]; simp)
      rw [litAs_get ls j hlt (by omega)] at hst
      have hq : q + 2 + Tm.sizes ls[j].atom.args ≤ 1099511627776 := by have := HQ.out; omega
      clear g0 g1 g2 e0 e1 e2 hdr h0 hst hsl hal
      go_wp2_with fail
      have H1 : Hid (D.own (wr.setCell ⟨b, off + j * 3, none⟩ (.bool ((q : Int) % 3 == 0))) (.slice (some ⟨b, off, none⟩) ls.length cap) (.sl ls.length ((A ++ [litHd q]) ++ .str ls[j].atom.name :: Tm.sd ls[j].atom.args :: R)) (b :: F')) := by
        have h := own_put H0.out (i := j * 3) (u := .bool ((q : Int) % 3 == 0)) (d := litHd q) HAl.out trivial (fun w' => by
          rw [litHd, D.own]
          refine ⟨?_, rfl⟩
          congr 1
          rw [Bool.eq_iff_iff]; simp; omega)
        rw [Hid]
        simpa using h
      have HMT := markText_any (q + 1) (by omega) (wr.setCell ⟨b, off + j * 3, none⟩ (.bool ((q : Int) % 3 == 0)))
      rw [show ((q + 1 : Nat) : Int) = (q : Int) + 1 from by omega] at HMT
      refine HMT.mono ?_
      rintro e w1 ⟨_, rfl, hb1, rfl⟩
      have HB1 : Hid (j * 3 + 1 = (A ++ [litHd q]).length) := by rw [Hid, List.length_append, ← HAl.out]; rfl
      have H1' := hid (D.own_keep _ _ _ (Keeps.all hb1) H1.out)
      obtain ⟨⟨u1, x1⟩, f1⟩ := own_cell H1'.out (i := j * 3 + 1) (by rw [HB1.out]; simp)
      rw [← Nat.add_assoc] at x1 f1
      have H2 : Hid (D.own (w1.setCell ⟨b, off + j * 3 + 1, none⟩ (.string (bs (mtext (q + 1))))) (.slice (some ⟨b, off, none⟩) ls.length cap) (.sl ls.length ((A ++ [litHd q, .str (bs (mtext (q + 1)))]) ++ Tm.sd ls[j].atom.args :: R)) (b :: F')) := by
        have h := own_put H1'.out (i := j * 3 + 1) (u := .string (bs (mtext (q + 1)))) (d := .str (bs (mtext (q + 1)))) HB1.out trivial (fun w' => D.own_str (by rw [bs_size]; have := mtext_length (q + 1); unfold maxLen; omega))
        rw [← Nat.add_assoc] at h
        rw [Hid]
        simpa using h
      have HB2 : Hid (j * 3 + 2 = (A ++ [litHd q, .str (bs (mtext (q + 1)))]).length) := by rw [Hid, List.length_append, ← HAl.out]; rfl
      obtain ⟨Fj, vj, y0, y1, hsub, hbj, hup⟩ := D.own_sub H2.out (j := j * 3 + 2) (by rw [HB2.out]; simp)
      rw [get_mid HB2.out] at y1
      have y2 : w1.cell? ⟨b, off + j * 3 + 1 + 1, none⟩ = some vj := by
        have y3 := y0
        rw [World.cell?_setCell_other _ _ _ _ (by intro e; injection e with _ e; omega)] at y3
        rw [show off + j * 3 + 1 + 1 = off + (j * 3 + 2) by omega]
        exact y3
      have HU := hid hup
      have hz1 := hb1.size
      have HM1 := hid (((hm.trans (Mk.set (p := off + j * 3) (List.mem_cons_self ..) _)).trans (Mk.of_below hb1)).trans (Mk.set (p := off + j * 3 + 1) (List.mem_cons_self ..) (.string (bs (mtext (q + 1))))))
      have HRT := markTermS_any ls[j].atom.args (q + 2) _ _ _ (by omega) y1
      rw [show ((q + 2 : Nat) : Int) = (q : Int) + 1 + 1 from by omega] at HRT
      have HE : Hid (q + 2 + Tm.sizes ls[j].atom.args = k + c3 ((litAs ls).take (j + 1))) := by
        rw [Hid, c3_take (litAs ls) j (by rw [litAs_length]; exact hlt), litAs_get ls j hlt (by rw [litAs_length]; exact hlt), ← HQ.out]; omega
      clear hup HMT x0 f0 y0 y1
      go_wp2_with fail
      refine HRT.mono ?_
      rintro e w2 ⟨rfl, hm2, ho2⟩
      have HX := hid (HU.out w2 _ ho2 hm2.1)
      have HM2 := hid (HM1.out.trans (hm2.mono hsub))
      have HN2 : Hid (D.own w2 (.slice (some ⟨b, off, none⟩) ls.length cap) (.sl ls.length (m3 litHd ((litAs ls).take (j + 1)) k ++ ds.drop ((j + 1) * 3))) (b :: F')) := by
        have h1 := HX.out
        rw [set_mid HB2.out] at h1
        rw [Hid, List.take_succ_eq_append_getElem (by rw [litAs_length]; exact hlt), m3_snoc, HA.out, HQ.out, HR.out, litAs_get ls j hlt (by rw [litAs_length]; exact hlt)]
        simpa using h1
      rw [HE.out]
      clear HRT hm2 ho2 HX
      go_wp2_with fail
      go_roundw
      case rel => exact ⟨j + 1, by omega, by go_num, rfl, HN2, HM2.out⟩
      case measure => simp [intOf]; omega
    · obtain rfl : j = ls.length := by omega
      go_wp2_with fail
      go_ret
      have hal := litAs_length ls
      refine ⟨by rw [← hal, List.take_length]; rfl, hm, ?_⟩
      have := HO.out
      rw [← hal, List.take_length, hal, ← HL.out, List.drop_length, List.append_nil] at this
      exact this
set_option maxHeartbeats 1000000 in
theorem markCl_any (ls : List Lit) (k : Nat) {v : Value} {F : List Nat} {w : World} (hk : k + c3 (litAs ls) ≤ 1099511627776) (ho : D.own w v (Lit.sd ls) F) :
    Calls Try.prog 56 #[.agg #[v], .int .i64 k] w fun e w' => e = .returned (.int .i64 (k + c3 (litAs ls) : Nat)) ∧ Mk F w w' ∧ D.own w' v (.sl ls.length (m3 litHd (litAs ls) k)) F := by
  obtain ⟨a, cap, rfl⟩ := Lit.sd_own_form ho
  have hW : Below w.heap.size w (w.alloc (.cells #[.slice a ls.length cap] 88)) := (Below.refl _ _).alloc (Nat.le_refl _) _
  have hq := markLitS_any ls k hk (D.own_keep _ _ _ (Keeps.all hW) ho)
  go_enter Try.func56, Try.ntmps56
  go_wp2_with fail
  refine hq.mono ?_
  rintro e w1 ⟨rfl, hm, ho1⟩
  go_wp2_with fail
  go_ret
  exact ⟨rfl, (Mk.of_below hW).trans hm, ho1⟩
theorem c3_bulk (ls : List Lit) : c3 (litAs ls) ≤ 2 * ls.length + Lit.bulks ls := by
  induction ls with
  | nil => simp [litAs, c3]
  | cons l ls ih =>
    have := Tm.size_bulk l.atom
    have h2 : l.atom.size = 1 + Tm.sizes l.atom.args := by cases l.atom; rw [Tm.size]; rfl
    simp only [litAs, List.map_cons, c3, List.length_cons, Lit.bulks, Lit.bulk] at *
    omega
theorem c3_le_bulk (t : Cl) : c3 (litAs t.ls) ≤ 2 * t.bulk := by
  have := c3_bulk t.ls
  rw [Cl.bulk]; omega
theorem Cl.at_lt {S : Nat → Prop} {w : World} {c0 : Value} {t : Cl} (h : Cl.at S w c0 t) : Cl.at (· < w.heap.size) w c0 t := D.rd_lt _ _ h
theorem Cl.at_all {S : Nat → Prop} {w : World} {c0 : Value} {t : Cl} (h : Cl.at S w c0 t) : Cl.at (fun _ => True) w c0 t := D.rd_all h
theorem Cl.at_of {w : World} {t : Cl} {v : Value} {F : List Nat} (h : D.own w v (Lit.sd t.ls) F) : Cl.at (fun _ => True) w v t := D.rd_all (D.own_rd _ _ _ h)
end Go.Proofs.Ytoekonkpephocaa
