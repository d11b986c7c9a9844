/- Formulas that a call owns are marked. -/
import Derived.Test.YtominpdaipaioaaM3
import Derived.Test.YtominpdaipaioaaFm
import Derived.Test.YtominpdaipaioaaFp
import Derived.Test.YtominpdaipaioaaHw
namespace Go.Proofs.Ytominpdaipaioaa
set_option maxRecDepth 100000
open Go.RowKit

mutual
/-- how many marks a formula in a list takes -/
def Fm.cnt : Fm → Nat
  | .node _ a _ ps => 3 + Tm.sizes a.args + Fm.cnts ps
def Fm.cnts : List Fm → Nat
  | [] => 0
  | t :: ts => Fm.cnt t + Fm.cnts ts
end
theorem Fm.cnt_eq (x : Fm) : x.cnt = 3 + Tm.sizes x.atom.args + Fm.cnts x.parts := by cases x; rw [Fm.cnt]; rfl
theorem Fm.cnts_take : ∀ (us : List Fm) (j : Nat) (h : j < us.length), Fm.cnts (us.take (j + 1)) = Fm.cnts (us.take j) + us[j].cnt
  | [], j, h => absurd h (by simp)
  | a :: us, 0, _ => by simp [Fm.cnts]
  | a :: us, j + 1, h => by
    have := Fm.cnts_take us j (by simpa using h)
    simp only [List.take_succ_cons, Fm.cnts, List.getElem_cons_succ]
    rw [this]; omega
theorem Fm.cnts_le : ∀ (us : List Fm) (j : Nat), Fm.cnts (us.take j) ≤ Fm.cnts us
  | [], j => by simp
  | a :: us, 0 => by simp [Fm.cnts]
  | a :: us, j + 1 => by
    have := Fm.cnts_le us j
    simp only [List.take_succ_cons, Fm.cnts]; omega
mutual
theorem Fm.cnt_bulk : ∀ x : Fm, x.cnt ≤ 3 + 3 * x.bulk
  | .node o a v ps => by
    have := Tm.sizes_le_bulk a
    have := Fm.cnts_bulk ps
    rw [Fm.cnt, Fm.bulk]; omega
theorem Fm.cnts_bulk : ∀ us : List Fm, Fm.cnts us ≤ 3 * (us.length + Fm.bulks us)
  | [] => by simp [Fm.cnts]
  | x :: us => by
    have := Fm.cnt_bulk x
    have := Fm.cnts_bulk us
    rw [Fm.cnts, Fm.bulks, List.length_cons]; omega
end
/-- what of a list lies behind j items of five cells -/
theorem drop5 {ds : List D} {n j : Nat} (hl : ds.length = n * 5) (hj : j < n) : ∃ x y z u v, ds.drop (j * 5) = x :: y :: z :: u :: v :: ds.drop ((j + 1) * 5) ∧ ds[j * 5]? = some x ∧ ds[j * 5 + 1]? = some y ∧ ds[j * 5 + 2]? = some z ∧ ds[j * 5 + 3]? = some u ∧ ds[j * 5 + 4]? = some v := by
  have h0 : j * 5 < ds.length := by omega
  have h1 : j * 5 + 1 < ds.length := by omega
  have h2 : j * 5 + 2 < ds.length := by omega
  have h3 : j * 5 + 3 < ds.length := by omega
  have h4 : j * 5 + 4 < ds.length := by omega
  refine ⟨ds[j * 5], ds[j * 5 + 1], ds[j * 5 + 2], ds[j * 5 + 3], ds[j * 5 + 4], ?_, List.getElem?_eq_getElem _, List.getElem?_eq_getElem _, List.getElem?_eq_getElem _, List.getElem?_eq_getElem _, List.getElem?_eq_getElem _⟩
  rw [List.drop_eq_getElem_cons h0, List.drop_eq_getElem_cons h1, List.drop_eq_getElem_cons h2, List.drop_eq_getElem_cons h3, List.drop_eq_getElem_cons h4, show j * 5 + 4 + 1 = (j + 1) * 5 by omega]
def MarkF (ps : List Fm) : Prop := ∀ (k : Nat) (v : Value) (F : List Nat) (w : World), k + Fm.cnts ps ≤ 1099511627776 → D.own w v (Fm.sd ps) F →
  Calls Try.prog 68 #[v, .int .i64 k] w fun e w' => e = .returned (.int .i64 (k + Fm.cnts ps : Nat)) ∧ Mk F w w' ∧ ∃ ds, D.own w' v (.sl ps.length ds) F
set_option maxHeartbeats 4000000 in
theorem markFmS_of (ls : List Fm) (hI : ∀ x ∈ ls, MarkF x.parts) : MarkF ls := by
  intro k v F w hk ho
  obtain ⟨ds, Hds⟩ : ∃ ds, Hid (Fm.css ls = ds) := ⟨_, hid rfl⟩
  have HL : Hid (ds.length = ls.length * 5) := by rw [Hid, ← Hds.out, Fm.css_flat]; exact flat_length Fm.wide ls
  have HG : Hid (∀ j (h : j < ls.length), ds[j * 5]? = some (.num ls[j].op) ∧ ds[j * 5 + 1]? = some (.str ls[j].atom.name) ∧ ds[j * 5 + 2]? = some (Tm.sd ls[j].atom.args) ∧ ds[j * 5 + 3]? = some (.str ls[j].v) ∧ ds[j * 5 + 4]? = some (Fm.sd ls[j].parts)) := by
    intro j h
    rw [← Hds.out, Fm.css_flat]
    have g := fun i (hi : i < 5) => flat_get Fm.wide ls j i h hi
    have e := Fm.cs_eq ls[j]
    have g0 := g 0 (by decide)
    have g1 := g 1 (by decide)
    have g2 := g 2 (by decide)
    have g3 := g 3 (by decide)
    have g4 := g 4 (by decide)
    rw [e] at g0 g1 g2 g3 g4
    exact ⟨g0, g1, g2, g3, g4⟩
  have ho' : D.own w v (.sl ls.length ds) F := by rw [← Hds.out]; exact ho
  clear ho Hds
  obtain ⟨a, cap, rfl⟩ : ∃ a cap, v = .slice a ls.length cap := by rw [D.own] at ho'; obtain ⟨a, cap, e, _⟩ := ho'; exact ⟨a, cap, e⟩
  have hlen : ls.length ≤ 9223372036854775807 := by rw [D.own] at ho'; obtain ⟨_, _, _, h, _⟩ := ho'; exact h
  go_enter Try.func68, Try.ntmps68
  go_wp2_with fail
  go_loopw [1, 5] (fun x i wr => ∃ (j : Nat) (A : List D), j ≤ ls.length ∧ i = .int .i64 j ∧ x = .int .i64 (k + Fm.cnts (ls.take j) : Nat) ∧ Hid (A.length = j * 5) ∧ Hid (D.own wr (.slice a ls.length cap) (.sl ls.length (A ++ ds.drop (j * 5))) F) ∧ Mk F w wr) (fun _ i _ => ls.length - (intOf i).toNat)
  case atStart => exact ⟨0, [], Nat.zero_le _, rfl, by simp [Fm.cnts], hid rfl, by rw [List.nil_append, Nat.zero_mul, List.drop_zero]; exact ho', Mk.refl _ _⟩
  case round =>
    obtain ⟨j, A, hj, rfl, rfl, HA, HO, hm⟩ := hrel
    by_cases hlt : j < ls.length
    · have hst := Fm.cnts_take ls j hlt
      have hsl := Fm.cnts_le ls (j + 1)
      have hce := Fm.cnt_eq ls[j]
      obtain ⟨q, HQ⟩ : ∃ q, Hid (k + Fm.cnts (ls.take j) = q) := ⟨_, hid rfl⟩
      rw [HQ.out]
      obtain ⟨x, y, z, u, v, hdr, g0, g1, g2, g3, g4⟩ := drop5 HL.out hlt
      obtain ⟨e0, e1, e2, e3, e4⟩ := HG.out j hlt
      obtain rfl : x = .num ls[j].op := by rw [g0] at e0; injection e0
      obtain rfl : y = .str ls[j].atom.name := by rw [g1] at e1; injection e1
      obtain rfl : z = Tm.sd ls[j].atom.args := by rw [g2] at e2; injection e2
      obtain rfl : u = .str ls[j].v := by rw [g3] at e3; injection e3
      obtain rfl : v = Fm.sd ls[j].parts := by rw [g4] at e4; injection e4
      obtain ⟨R, HR⟩ : ∃ R, Hid (ds.drop ((j + 1) * 5) = R) := ⟨_, hid rfl⟩
      have h0 := HO.out
      rw [hdr, HR.out] at h0
      have H0 := hid h0
      obtain ⟨b, off, F', rfl, rfl⟩ := own_at h0 (by simp)
      obtain ⟨⟨u0, x0⟩, f0⟩ := own_cell h0 (i := j * 5) (by rw [← HA.out]; simp)
      obtain ⟨sa, Hsa⟩ : ∃ s, Hid (Tm.sizes ls[j].atom.args = s) := ⟨_, hid rfl⟩
      obtain ⟨sp, Hsp⟩ : ∃ s, Hid (Fm.cnts ls[j].parts = s) := ⟨_, hid rfl⟩
      have hq : q + 3 + sa + sp ≤ 1099511627776 := by have := HQ.out; have := Hsa.out; have := Hsp.out; omega
      have HE : Hid (q + 1 + 1 + sa + 1 + sp = k + Fm.cnts (ls.take (j + 1))) := by have := HQ.out; have := Hsa.out; have := Hsp.out; show _ = _; omega
      clear g0 g1 g2 g3 g4 e0 e1 e2 e3 e4 hdr h0 hst hsl hce
      have hK : ∀ n : Nat, n ≤ 1099511627776 → ((n : Nat) : Int) ≤ 1099511627776 := fun n hn => by omega
      go_wp2_with fail
      have H1 : Hid (D.own (wr.setCell ⟨b, off + j * 5, none⟩ (.int .i64 q)) (.slice (some ⟨b, off, none⟩) ls.length cap) (.sl ls.length ((A ++ [.num q]) ++ .str ls[j].atom.name :: Tm.sd ls[j].atom.args :: .str ls[j].v :: Fm.sd ls[j].parts :: R)) (b :: F')) := by
        have h := own_put H0.out (i := j * 5) (u := .int .i64 q) (d := .num q) HA.out.symm trivial (fun w' => D.own_num ⟨by omega, by omega⟩)
        rw [Hid]
        simpa using h
      have HMT := markText_any (q + 1) (by omega) (wr.setCell ⟨b, off + j * 5, none⟩ (.int .i64 q))
      rw [show ((q + 1 : Nat) : Int) = (q : Int) + 1 from by omega] at HMT
      refine HMT.mono ?_
      rintro e w1 ⟨_, rfl, hb1, rfl⟩
      have HB1 : Hid (j * 5 + 1 = (A ++ [D.num q]).length) := by rw [Hid, List.length_append, HA.out]; rfl
      have H1' := hid (D.own_keep _ _ _ (Keeps.all hb1) H1.out)
      obtain ⟨⟨u1, x1⟩, f1⟩ := own_cell H1'.out (i := j * 5 + 1) (by rw [HB1.out]; simp)
      rw [← Nat.add_assoc] at x1 f1
      have H2 : Hid (D.own (w1.setCell ⟨b, off + j * 5 + 1, none⟩ (.string (bs (mtext (q + 1))))) (.slice (some ⟨b, off, none⟩) ls.length cap) (.sl ls.length ((A ++ [.num q, .str (bs (mtext (q + 1)))]) ++ Tm.sd ls[j].atom.args :: .str ls[j].v :: Fm.sd ls[j].parts :: R)) (b :: F')) := by
        have h := own_put H1'.out (i := j * 5 + 1) (u := .string (bs (mtext (q + 1)))) (d := .str (bs (mtext (q + 1)))) HB1.out trivial (fun w' => D.own_str (by rw [bs_size]; have := mtext_length (q + 1); unfold maxLen; omega))
        rw [← Nat.add_assoc] at h
        rw [Hid]
        simpa using h
      have HB2 : Hid (j * 5 + 2 = (A ++ [.num q, D.str (bs (mtext (q + 1)))]).length) := by rw [Hid, List.length_append, HA.out]; rfl
      obtain ⟨Fj, vj, y0, y1, hsub, hbj, hup⟩ := D.own_sub H2.out (j := j * 5 + 2) (by rw [HB2.out]; simp)
      rw [get_mid HB2.out] at y1
      have y2 : w1.cell? ⟨b, off + j * 5 + 1 + 1, none⟩ = some vj := by
        have y3 := y0
        rw [World.cell?_setCell_other _ _ _ _ (by intro e; injection e with _ e; omega)] at y3
        rw [show off + j * 5 + 1 + 1 = off + (j * 5 + 2) by omega]
        exact y3
      have HU := hid hup
      have hz1 := hb1.size
      have HM1 := hid (((hm.trans (Mk.set (p := off + j * 5) (List.mem_cons_self ..) (.int .i64 q))).trans (Mk.of_below hb1)).trans (Mk.set (p := off + j * 5 + 1) (List.mem_cons_self ..) (.string (bs (mtext (q + 1))))))
      have HRT := markTermS_any ls[j].atom.args (q + 2) _ _ _ (by have := Hsa.out; omega) y1
      rw [show ((q + 2 : Nat) : Int) = (q : Int) + 1 + 1 from by omega, Hsa.out] at HRT
      clear hup HMT x0 f0 y0 y1
      go_wp2_with fail
      refine HRT.mono ?_
      rintro e w2 ⟨rfl, hm2, ho2⟩
      have H3 := HU.out w2 _ ho2 hm2.1
      rw [set_mid HB2.out] at H3
      have HM2 := hid (HM1.out.trans (hm2.mono hsub))
      have HB3 : Hid (j * 5 + 3 = (A ++ [.num q, D.str (bs (mtext (q + 1))), Tm.sd (Tm.mks ls[j].atom.args (q + 2))]).length) := by rw [Hid, List.length_append, HA.out]; rfl
      have H3' : D.own w2 (.slice (some ⟨b, off, none⟩) ls.length cap) (.sl ls.length ((A ++ [.num q, .str (bs (mtext (q + 1))), Tm.sd (Tm.mks ls[j].atom.args (q + 2))]) ++ .str ls[j].v :: Fm.sd ls[j].parts :: R)) (b :: F') := by simpa using H3
      have H3H := hid H3'
      obtain ⟨⟨u3, x3⟩, f3⟩ := own_cell H3' (i := j * 5 + 3) (by rw [HB3.out]; simp)
      have x3a : w2.cell? ⟨b, off + j * 5 + 3, none⟩ = some u3 := by rw [show off + j * 5 + 3 = off + (j * 5 + 3) by omega]; exact x3
      have f3a : w2.frozen? ⟨b, off + j * 5 + 3, none⟩ = false := by rw [show off + j * 5 + 3 = off + (j * 5 + 3) by omega]; exact f3
      have HMT := markText_any (q + 2 + sa) (by omega) w2
      clear HRT hm2 ho2 H3 H3' x3 f3
      go_wp2_with fail
      refine HMT.mono ?_
      rintro e w3 ⟨_, rfl, hb3, rfl⟩
      have H3K := hid (D.own_keep _ _ _ (Keeps.all hb3) H3H.out)
      obtain ⟨⟨u4, x4⟩, f4⟩ := own_cell H3K.out (i := j * 5 + 3) (by rw [HB3.out]; simp)
      rw [← Nat.add_assoc] at x4 f4
      have H4 : Hid (D.own (w3.setCell ⟨b, off + j * 5 + 3, none⟩ (.string (bs (mtext (q + 2 + sa))))) (.slice (some ⟨b, off, none⟩) ls.length cap) (.sl ls.length ((A ++ [.num q, .str (bs (mtext (q + 1))), Tm.sd (Tm.mks ls[j].atom.args (q + 2)), .str (bs (mtext (q + 2 + sa)))]) ++ Fm.sd ls[j].parts :: R)) (b :: F')) := by
        have h := own_put H3K.out (i := j * 5 + 3) (u := .string (bs (mtext (q + 2 + sa)))) (d := .str (bs (mtext (q + 2 + sa)))) HB3.out trivial (fun w' => D.own_str (by rw [bs_size]; have := mtext_length (q + 2 + sa); unfold maxLen; omega))
        rw [← Nat.add_assoc] at h
        rw [Hid]
        simpa using h
      have HB4 : Hid (j * 5 + 4 = (A ++ [.num q, D.str (bs (mtext (q + 1))), Tm.sd (Tm.mks ls[j].atom.args (q + 2)), .str (bs (mtext (q + 2 + sa)))]).length) := by rw [Hid, List.length_append, HA.out]; rfl
      obtain ⟨Fp, vp, z0, z1, hsub4, hbp, hup4⟩ := D.own_sub H4.out (j := j * 5 + 4) (by rw [HB4.out]; simp)
      rw [get_mid HB4.out] at z1
      have z2 : w3.cell? ⟨b, off + j * 5 + 4, none⟩ = some vp := by
        have z3 := z0
        rw [World.cell?_setCell_other _ _ _ _ (by intro e; injection e with _ e; omega)] at z3
        rw [show off + j * 5 + 4 = off + (j * 5 + 4) by omega]
        exact z3
      have HU4 := hid hup4
      have HM4 := hid ((HM2.out.trans (Mk.of_below hb3)).trans (Mk.set (p := off + j * 5 + 3) (List.mem_cons_self ..) (.string (bs (mtext (q + 2 + sa))))))
      have HRP := hI ls[j] (List.getElem_mem hlt) (q + 2 + sa + 1) _ _ _ (by have := Hsp.out; omega) z1
      rw [Hsp.out] at HRP
      clear hup4 HMT z0 z1
      go_wp2_with fail
      refine HRP.mono ?_
      rintro e w4 ⟨rfl, hm4, dp, ho4⟩
      have H5 := HU4.out w4 _ ho4 hm4.1
      rw [set_mid HB4.out] at H5
      have HM5 := hid (HM4.out.trans (hm4.mono hsub4))
      have HN : Hid (D.own w4 (.slice (some ⟨b, off, none⟩) ls.length cap) (.sl ls.length ((A ++ [.num q, .str (bs (mtext (q + 1))), Tm.sd (Tm.mks ls[j].atom.args (q + 2)), .str (bs (mtext (q + 2 + sa))), .sl ls[j].parts.length dp]) ++ ds.drop ((j + 1) * 5))) (b :: F')) := by
        rw [Hid, HR.out]
        simpa using H5
      have HAL : Hid ((A ++ [.num q, D.str (bs (mtext (q + 1))), Tm.sd (Tm.mks ls[j].atom.args (q + 2)), .str (bs (mtext (q + 2 + sa))), .sl ls[j].parts.length dp]).length = (j + 1) * 5) := by rw [Hid, List.length_append, HA.out]; simp; omega
      have HE2 : Hid (q + 2 + sa + 1 + sp = k + Fm.cnts (ls.take (j + 1))) := by have := HE.out; show _ = _; omega
      rw [HE2.out]
      clear HRP hm4 ho4 H5
      go_wp2_with fail
      go_roundw
      case rel => exact ⟨j + 1, _, by omega, by go_num, rfl, HAL, HN, HM5.out⟩
      case measure => simp [intOf]; omega
    · obtain rfl : j = ls.length := by omega
      go_wp2_with fail
      go_ret
      refine ⟨by rw [List.take_length]; rfl, hm, A, ?_⟩
      have := HO.out
      rw [← HL.out, List.drop_length, List.append_nil] at this
      exact this
theorem markFmS_any (ps : List Fm) : MarkF ps := by
  have key : ∀ t : Fm, MarkF t.parts := fun t => Fm.ind (P := fun t => MarkF t.parts) (fun o a v ps h => markFmS_of ps h) t
  exact key (.node 0 (.node ByteArray.empty []) ByteArray.empty ps)
/-- a formula that the call owns: its atom's list and its parts, apart from each other -/
def FmOwn (w : World) (v2 v4 : Value) (x : Fm) (F : List Nat) : Prop := ∃ F1 F2, F = F1 ++ F2 ∧ D.own w v2 (Tm.sd x.atom.args) F1 ∧ D.own w v4 (Fm.sd x.parts) F2 ∧ ∀ y ∈ F1, y ∉ F2
theorem FmOwn.keep {w w' : World} {v2 v4 : Value} {x : Fm} {F : List Nat} (hk : Keeps (· ∈ F) w w') (h : FmOwn w v2 v4 x F) : FmOwn w' v2 v4 x F := by
  obtain ⟨F1, F2, rfl, h1, h2, hd⟩ := h
  exact ⟨F1, F2, rfl, D.own_keep _ _ _ (hk.mono fun y hy => by simp [show y ∈ F1 from hy]) h1, D.own_keep _ _ _ (hk.mono fun y hy => by simp [show y ∈ F2 from hy]) h2, hd⟩
theorem FmOwn.lt {w : World} {v2 v4 : Value} {x : Fm} {F : List Nat} (h : FmOwn w v2 v4 x F) : ∀ y ∈ F, y < w.heap.size := by
  obtain ⟨F1, F2, rfl, h1, h2, hd⟩ := h
  intro y hy
  rcases List.mem_append.1 hy with q | q
  · exact D.own_lt _ _ _ h1 y q
  · exact D.own_lt _ _ _ h2 y q
theorem FmOwn.form {w : World} {v2 v4 : Value} {x : Fm} {F : List Nat} (h : FmOwn w v2 v4 x F) : ∃ a c a2 c2, v2 = .slice a x.atom.args.length c ∧ v4 = .slice a2 x.parts.length c2 := by
  obtain ⟨F1, F2, rfl, h1, h2, hd⟩ := h
  obtain ⟨a, c, rfl⟩ := Tm.sd_own_form h1
  obtain ⟨a2, c2, rfl⟩ := Fm.sd_own_form h2
  exact ⟨a, c, a2, c2, rfl, rfl⟩
theorem FmOwn.at {w : World} {S : Nat → Prop} {c0 c1 c2 c3 c4 : Value} {w0 : World} {v2 v4 : Value} {x : Fm} {F : List Nat} (h0 : Fm.at S w0 c0 c1 c2 c3 c4 x) (h : FmOwn w v2 v4 x F) : Fm.at (fun _ => True) w (.int .i64 x.op) (.string x.atom.name) v2 (.string x.v) v4 x := by
  obtain ⟨F1, F2, rfl, h1, h2, hd⟩ := h
  exact ⟨D.own_rd0 (Fm.own0 h0), D.own_rd0 (Fm.own1 h0), D.rd_mono (fun _ _ => trivial) _ _ (D.own_rd _ _ _ h1), D.own_rd0 (Fm.own3 h0), D.rd_mono (fun _ _ => trivial) _ _ (D.own_rd _ _ _ h2)⟩
theorem toFm_held {x : Fm} {S : Nat → Prop} {c0 c1 c2 c3 c4 : Value} {w : World} (h : Fm.at S w c0 c1 c2 c3 c4 x) (hb : x.bulk ≤ 1048576) :
    Calls Try.prog 29 #[.agg #[c0, c1, c2, c3, c4]] w fun e w' => ∃ a c a2 c2, ∃ F, e = .returned (.agg #[.int .i64 x.op, .string x.atom.name, .slice a x.atom.args.length c, .string x.v, .slice a2 x.parts.length c2]) ∧ FmOwn w' (.slice a x.atom.args.length c) (.slice a2 x.parts.length c2) x F ∧ (∀ y ∈ F, w.heap.size ≤ y) ∧ Below w.heap.size w w' :=
  (toFm_any x S c0 c1 c2 c3 c4 w h hb).mono fun _ _ ⟨v2, v4, F1, F2, he, h1, h2, hF1, hF2, hd, hbl⟩ => by
    have ho : FmOwn _ v2 v4 x (F1 ++ F2) := ⟨F1, F2, rfl, h1, h2, hd⟩
    obtain ⟨a, c, a2, c2, rfl, rfl⟩ := ho.form
    exact ⟨a, c, a2, c2, _, he, ho, fun y hy => (List.mem_append.1 hy).elim (hF1 y) (hF2 y), hbl⟩
def Fm.marks (x : Fm) : Nat := Tm.sizes x.atom.args + Fm.cnts x.parts
theorem Fm.marks_bulk (x : Fm) : x.marks ≤ 4 * x.bulk := by
  have := Tm.sizes_le_bulk x.atom
  have := Fm.cnts_bulk x.parts
  have := Fm.bulk_eq x
  rw [Fm.marks]; omega
set_option maxHeartbeats 2000000 in
theorem markFm_any (x : Fm) (k : Nat) {o : Int} {n m : ByteArray} {v2 v4 : Value} {F : List Nat} {w : World} (hk : k + x.marks ≤ 1099511627776) (ho : FmOwn w v2 v4 x F) :
    Calls Try.prog 32 #[.agg #[.int .i64 o, .string n, v2, .string m, v4], .int .i64 k] w fun e w' => e = .returned (.int .i64 (k + x.marks : Nat)) ∧ Mk F w w' ∧ True := by
  obtain ⟨a, c, a2, c2, rfl, rfl⟩ := ho.form
  obtain ⟨F1, F2, rfl, h1, h2, hd⟩ := ho
  obtain ⟨sa, Hsa⟩ : ∃ s, Hid (Tm.sizes x.atom.args = s) := ⟨_, hid rfl⟩
  obtain ⟨sp, Hsp⟩ : ∃ s, Hid (Fm.cnts x.parts = s) := ⟨_, hid rfl⟩
  have HM : Hid (x.marks = sa + sp) := by rw [Hid, Fm.marks, Hsa.out, Hsp.out]
  rw [HM.out] at hk ⊢
  have hW : Below w.heap.size w (w.alloc (.cells #[.int .i64 o, .string n, .slice a x.atom.args.length c, .string m, .slice a2 x.parts.length c2] 64)) := (Below.refl _ _).alloc (Nat.le_refl _) _
  have bT : Box (w.alloc (.cells #[.int .i64 o, .string n, .slice a x.atom.args.length c, .string m, .slice a2 x.parts.length c2] 64)) w.heap.size [.int .i64 o, .string n, .slice a x.atom.args.length c, .string m, .slice a2 x.parts.length c2] := Box.new _ _ _
  have hl1 := D.own_lt _ _ _ h1
  replace h1 := D.own_keep _ _ _ (Keeps.all hW) h1
  replace h2 := D.own_keep _ _ _ (Keeps.all hW) h2
  have HD := hid hd
  go_enter Try.func32, Try.ntmps32
  go_wp2_with fail
  generalize w.alloc (.cells #[.int .i64 o, .string n, .slice a x.atom.args.length c, .string m, .slice a2 x.parts.length c2] 64) = w0 at *
  have HA := markTerm_any x.atom.args k (n := n) (by have := Hsa.out; omega) h1
  rw [Hsa.out] at HA
  refine HA.mono ?_
  rintro e w1 ⟨rfl, hm1, -⟩
  have h2' := D.own_keep _ _ _ (hm1.apart (fun y hy q => HD.out y q hy)) h2
  have bT1 := bT.marked hm1 (fun q => by have := hl1 _ q; omega)
  have HB := markFmS_any x.parts (k + sa) _ _ _ (by have := Hsp.out; omega) h2'
  rw [Hsp.out] at HB
  have eT4 := bT1.c4
  have lT := bT1.lt
  clear HA
  go_wp2_with fail
  refine HB.mono ?_
  rintro e w2 ⟨rfl, hm2, -⟩
  go_wp2_with fail
  go_ret
  refine ⟨ret_i64 (by omega), (Mk.of_below hW).trans ((hm1.mono fun y hy => by simp [hy]).trans (hm2.mono fun y hy => by simp [hy])), trivial⟩
end Go.Proofs.Ytominpdaipaioaa
