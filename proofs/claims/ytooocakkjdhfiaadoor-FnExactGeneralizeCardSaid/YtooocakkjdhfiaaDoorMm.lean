/- Terms that a call owns are marked. -/
import Derived.Test.YtooocakkjdhfiaaDoorMk
import Derived.Test.YtooocakkjdhfiaaDoorTp
import Derived.Test.YtooocakkjdhfiaaDoorBrT
namespace Go.Proofs.YtooocakkjdhfiaaDoor
set_option maxRecDepth 100000
open Go.RowKit

mutual
/-- an element of a list of terms with its marks from k on -/
def Tm.mke : Tm → Nat → Tm
  | .node _ ts, k => .node (bs (mtext k)) (Tm.mks ts (k + 1))
def Tm.mks : List Tm → Nat → List Tm
  | [], _ => []
  | t :: ts, k => Tm.mke t k :: Tm.mks ts (k + t.size)
end
theorem Tm.mks_length : ∀ (ts : List Tm) (k : Nat), (Tm.mks ts k).length = ts.length
  | [], k => by simp [Tm.mks]
  | t :: ts, k => by rw [Tm.mks, List.length_cons, List.length_cons, Tm.mks_length ts]
theorem Tm.mks_snoc : ∀ (ts : List Tm) (t : Tm) (k : Nat), Tm.mks (ts ++ [t]) k = Tm.mks ts k ++ [Tm.mke t (k + Tm.sizes ts)]
  | [], t, k => by simp [Tm.mks, Tm.sizes]
  | s :: ts, t, k => by rw [List.cons_append, Tm.mks, Tm.mks_snoc ts t, Tm.mks, Tm.sizes, Nat.add_assoc]; rfl
theorem Tm.mke_eq (t : Tm) (k : Nat) : Tm.mke t k = .node (bs (mtext k)) (Tm.mks t.args (k + 1)) := by cases t; rw [Tm.mke]; rfl
theorem Tm.css_set0 (m : ByteArray) : ∀ (L : List Tm) (j : Nat) (h : j < L.length), (Tm.css L).set (j * 2) (.str m) = Tm.css (L.set j (.node m L[j].args))
  | [], j, h => absurd h (by simp)
  | t :: L, 0, _ => by cases t; simp [Tm.css, Tm.cs, Tm.args]
  | t :: L, j + 1, h => by
    have ih := Tm.css_set0 m L j (by simpa using h)
    cases t
    rw [List.set_cons_succ, Tm.css, Tm.css, List.getElem_cons_succ, ← ih, Tm.cs, show (j + 1) * 2 = j * 2 + 2 by omega]
    rfl
theorem Tm.css_set1 (us : List Tm) : ∀ (L : List Tm) (j : Nat) (h : j < L.length), (Tm.css L).set (j * 2 + 1) (Tm.sd us) = Tm.css (L.set j (.node L[j].name us))
  | [], j, h => absurd h (by simp)
  | t :: L, 0, _ => by cases t; simp [Tm.css, Tm.cs, Tm.name, Tm.sd]
  | t :: L, j + 1, h => by
    have ih := Tm.css_set1 us L j (by simpa using h)
    cases t
    rw [List.set_cons_succ, Tm.css, Tm.css, List.getElem_cons_succ, ← ih, Tm.cs, show (j + 1) * 2 + 1 = j * 2 + 1 + 2 by omega]
    rfl
theorem Tm.css_len (L : List Tm) : (Tm.css L).length = L.length * 2 := by rw [Tm.css_flat, flat_length Tm.cs_wide]
theorem Tm.css_get0 : ∀ (L : List Tm) (j : Nat) (h : j < L.length) (h' : j * 2 < (Tm.css L).length), (Tm.css L)[j * 2] = .str L[j].name
  | [], j, h, _ => absurd h (by simp)
  | t :: L, 0, _, _ => by cases t; simp [Tm.css, Tm.cs, Tm.name]
  | t :: L, j + 1, h, h' => by
    have ih := Tm.css_get0 L j (by simpa using h) (by rw [Tm.css_len]; simp at h; omega)
    cases t
    simp only [Tm.css, Tm.cs, show (j + 1) * 2 = j * 2 + 1 + 1 by omega, List.cons_append, List.getElem_cons_succ, List.nil_append]
    exact ih
theorem Tm.css_get1 : ∀ (L : List Tm) (j : Nat) (h : j < L.length) (h' : j * 2 + 1 < (Tm.css L).length), (Tm.css L)[j * 2 + 1] = Tm.sd L[j].args
  | [], j, h, _ => absurd h (by simp)
  | t :: L, 0, _, _ => by cases t; simp [Tm.css, Tm.cs, Tm.args, Tm.sd]
  | t :: L, j + 1, h, h' => by
    have ih := Tm.css_get1 L j (by simpa using h) (by rw [Tm.css_len]; simp at h; omega)
    cases t
    simp only [Tm.css, Tm.cs, show (j + 1) * 2 + 1 = j * 2 + 1 + 1 + 1 by omega, List.cons_append, List.getElem_cons_succ, List.nil_append]
    exact ih

/-- the list of which j terms are marked -/
def Tm.mix (ts : List Tm) (k j : Nat) : List Tm := Tm.mks (ts.take j) k ++ ts.drop j
theorem Tm.mix_length (ts : List Tm) (k j : Nat) : (Tm.mix ts k j).length = ts.length := by
  rw [Tm.mix, List.length_append, Tm.mks_length, List.length_take, List.length_drop]; omega
theorem Tm.mix_get (ts : List Tm) (k j : Nat) (h : j < ts.length) (h' : j < (Tm.mix ts k j).length) : (Tm.mix ts k j)[j] = ts[j] := by
  simp only [Tm.mix]
  rw [List.getElem_append_right (by rw [Tm.mks_length, List.length_take]; omega)]
  simp only [Tm.mks_length, List.length_take, List.getElem_drop, show min j ts.length = j by omega, Nat.sub_self, Nat.add_zero]
theorem Tm.mix_set (ts : List Tm) (k j : Nat) (h : j < ts.length) : (Tm.mix ts k j).set j (Tm.mke ts[j] (k + Tm.sizes (ts.take j))) = Tm.mix ts k (j + 1) := by
  have hl : (Tm.mks (ts.take j) k).length = j := by rw [Tm.mks_length, List.length_take]; omega
  rw [Tm.mix, List.set_append_right _ _ (by omega), hl, Nat.sub_self, Tm.mix, List.take_succ_eq_append_getElem h, Tm.mks_snoc, List.append_assoc, List.drop_eq_getElem_cons h]
  rfl

def MarkS (ts : List Tm) : Prop := ∀ (k : Nat) (v : Value) (F : List Nat) (w : World), k + Tm.sizes ts ≤ 1099511627776 → D.own w v (Tm.sd ts) F →
  Calls Tryd.prog 18 #[v, .int .i64 k] w fun e w' => e = .returned (.int .i64 (k + Tm.sizes ts : Nat)) ∧ Mk F w w' ∧ D.own w' v (Tm.sd (Tm.mks ts k)) F
theorem own_same {w : World} {b off n cap m : Nat} {cs : List D} {F : List Nat} (h : D.own w (.slice (some ⟨b, off, none⟩) n cap) (.sl m cs) F) : n = m := by
  rw [D.own] at h; obtain ⟨_, _, e, _⟩ := h; injection e
set_option maxHeartbeats 2000000 in
theorem markTermS_of (ts : List Tm) (h : ∀ t ∈ ts, MarkS t.args) : MarkS ts := by
  intro k v F w hk ho
  obtain ⟨a, cap, rfl⟩ := Tm.sd_own_form ho
  obtain ⟨_, _, ef, hlen, _⟩ := Tm.sd_form (D.own_rd _ _ _ ho)
  unfold big at hlen
  clear ef
  go_enter Tryd.func18, Tryd.ntmps18
  go_wp2_with fail
  go_loopw [1, 5] (fun x i wr => ∃ j : Nat, j ≤ ts.length ∧ i = .int .i64 j ∧ x = .int .i64 (k + Tm.sizes (ts.take j) : Nat) ∧ Hid (D.own wr (.slice a ts.length cap) (Tm.sd (Tm.mix ts k j)) F) ∧ Mk F w wr) (fun _ i _ => ts.length - (intOf i).toNat)
  case atStart => exact ⟨0, Nat.zero_le _, rfl, by simp [Tm.sizes], by rw [Tm.mix, List.take_zero, Tm.mks, List.nil_append, List.drop_zero]; exact ho, Mk.refl _ _⟩
  case round =>
    obtain ⟨j, hj, rfl, rfl, HO, hm⟩ := hrel
    by_cases hlt : j < ts.length
    · have hl := Tm.mix_length ts k j
      have hst := Tm.sizes_take ts j hlt
      have hsl := Tm.sizes_le ts (j + 1)
      obtain ⟨q, HQ⟩ : ∃ q, Hid (k + Tm.sizes (ts.take j) = q) := ⟨_, hid rfl⟩
      rw [HQ.out]
      have hsz : ts[j].size = 1 + Tm.sizes ts[j].args := by cases ts[j]; rw [Tm.size]; rfl
      have hq : q + 1 + Tm.sizes ts[j].args ≤ 1099511627776 := by have := HQ.out; omega
      have HE : Hid (q + 1 + Tm.sizes ts[j].args = k + Tm.sizes (ts.take (j + 1))) := by have := HQ.out; show _ = _; omega
      have hne : Tm.mix ts k j ≠ [] := by intro e; rw [e] at hl; simp at hl; omega
      have hcl := Tm.css_len (Tm.mix ts k j)
      have hcne : Tm.css (Tm.mix ts k j) ≠ [] := by intro e; rw [e] at hcl; simp at hcl; omega
      obtain ⟨-, b, off, F', rfl, rfl, hbF, hbl, hfr, -⟩ := D.own_slice HO.out hcne
      have HMT := markText_any q (by omega) wr
      clear hst hsl hsz
      go_wp2_with fail
      refine HMT.mono ?_
      rintro e w1 ⟨_, rfl, hb1, rfl⟩
      have HO1 := hid (D.own_keep _ _ _ (Keeps.all hb1) HO.out)
      obtain ⟨b', off', e, -, -, hrr⟩ := Tm.sd_get (D.own_rd _ _ _ HO1.out) hne
      obtain ⟨rfl, rfl⟩ : b = b' ∧ off = off' := by injection e with e; injection e with e1 e2; exact ⟨e1, e2⟩
      obtain ⟨c0, c1, x0, x1, -⟩ := hrr j (by omega)
      obtain ⟨-, _, _, _, e2, e3, -, -, hfr1, -⟩ := D.own_slice HO1.out hcne
      obtain ⟨rfl, rfl⟩ : _ = _ ∧ _ = _ := by injection e2 with e2; injection e2 with e1 e2; exact ⟨e1, e2⟩
      have hf0 := hfr1 (off + j * 2)
      have HN : Hid (D.own (w1.setCell ⟨b, off + j * 2, none⟩ (.string (bs (mtext q)))) (.slice (some ⟨b, off, none⟩) ts.length cap) (.sl ts.length (Tm.css ((Tm.mix ts k j).set j (.node (bs (mtext q)) ts[j].args)))) (b :: F')) := by
        have h0 := HO1.out
        rw [Tm.sd, hl] at h0
        have h1 := D.own_store h0 (j := j * 2) (u := .string (bs (mtext q))) (d' := .str (bs (mtext q))) (by omega) (fun v G hv => ?_) (fun w' => D.own_str (by rw [bs_size]; have := mtext_length q; unfold maxLen; omega))
        · rw [Tm.css_set0 _ _ _ (by omega), Tm.mix_get _ _ _ hlt] at h1; exact h1
        · rw [Tm.css_get0 _ _ (by omega), D.own] at hv
          exact hv.2.2
      obtain ⟨Fj, vj, y0, y1, hsub, hbj, hup⟩ := D.own_sub HN.out (j := j * 2 + 1) (by rw [Tm.css_len, List.length_set]; omega)
      rw [Tm.css_get1 _ _ (by rw [List.length_set]; omega), List.getElem_set_self] at y1
      have y2 : w1.cell? ⟨b, off + j * 2 + 1, none⟩ = some vj := by
        have y3 := y0
        rw [World.cell?_setCell_other _ _ _ _ (by intro e; injection e with _ e; omega)] at y3
        exact y3
      obtain rfl : c1 = vj := by rw [x1] at y2; injection y2
      have HU := hid hup
      have hsw := World.size_setCell w1 ⟨b, off + j * 2, none⟩ (.string (bs (mtext q)))
      have HM1 := hid ((hm.trans (Mk.of_below hb1)).trans (Mk.set (p := off + j * 2) (List.mem_cons_self ..) (.string (bs (mtext q)))))
      have HR := h ts[j] (List.getElem_mem hlt) (q + 1) _ _ _ (by omega) y1
      rw [show ((q + 1 : Nat) : Int) = (q : Int) + 1 from by omega] at HR
      clear hrr hfr hfr1 e e2 e3 hb1 HMT hup hsw y0 y1 y2
      go_wp2_with fail
      refine HR.mono ?_
      rintro e w2 ⟨rfl, hm2, ho2⟩
      have HX := hid (HU.out w2 _ ho2 hm2.1)
      have HM2 := hid (HM1.out.trans (hm2.mono hsub))
      have HN2 : Hid (D.own w2 (.slice (some ⟨b, off, none⟩) ts.length cap) (Tm.sd (Tm.mix ts k (j + 1))) (b :: F')) := by
        have h1 := HX.out
        rw [Tm.css_set1 _ _ _ (by rw [List.length_set]; omega), List.getElem_set_self, List.set_set] at h1
        rw [Hid, Tm.sd, Tm.mix_length, ← Tm.mix_set _ _ _ hlt, HQ.out, Tm.mke_eq]
        exact h1
      rw [HE.out]
      clear HR hm2 ho2
      go_wp2_with fail
      go_roundw
      case rel => exact ⟨j + 1, by omega, by go_num, rfl, HN2, HM2.out⟩
      case measure => simp [intOf]; omega
    · obtain rfl : j = ts.length := by omega
      go_wp2_with fail
      go_ret
      refine ⟨by rw [List.take_length]; rfl, hm, ?_⟩
      have := HO.out
      rwa [Tm.mix, List.take_length, List.drop_length, List.append_nil] at this
theorem markTermS_any (ts : List Tm) : MarkS ts := by
  have key : ∀ t : Tm, MarkS t.args := fun t => Tm.ind (P := fun t => MarkS t.args) (fun n ts h => markTermS_of ts h) t
  exact key (.node ByteArray.empty ts)
end Go.Proofs.YtooocakkjdhfiaaDoor
