/- Several texts in one file. -/
import Derived.Test.YtglhbaigigdeeaaGreatQ20
import Derived.Test.YtglhbaigigdeeaaGreatQ11
import Derived.Test.YtglhbaigigdeeaaGreatQ08
import Derived.Test.YtglhbaigigdeeaaGreatQ04
/- Marked terms are found marked.. -/
namespace Go.Proofs.YtglhbaigigdeeaaGreat
set_option maxRecDepth 100000
open Go.RowKit

theorem Tm.mks_get : ∀ (ts : List Tm) (k j : Nat) (h : j < ts.length) (h' : j < (Tm.mks ts k).length), (Tm.mks ts k)[j] = Tm.mke ts[j] (k + Tm.sizes (ts.take j))
  | [], k, j, h, _ => absurd h (by simp)
  | t :: ts, k, 0, _, _ => by simp [Tm.mks, Tm.sizes]
  | t :: ts, k, j + 1, h, h' => by
    have ih := Tm.mks_get ts (k + t.size) j (by simpa using h) (by rw [Tm.mks_length]; simpa using h)
    simp only [Tm.mks, List.getElem_cons_succ, List.take_succ_cons, Tm.sizes]
    rw [ih, Nat.add_assoc]

def HeldS (ts : List Tm) : Prop := ∀ (k : Nat) (S : Nat → Prop) (v : Value) (w : World), k + Tm.sizes ts ≤ 1099511627776 → D.rd S w v (Tm.sd (Tm.mks ts k)) →
  Calls Tryz.prog 59 #[v, .int .i64 k] w (Gives w (.int .i64 (k + Tm.sizes ts : Nat)))
set_option maxHeartbeats 2000000 in
theorem heldTermS_of (ts : List Tm) (h : ∀ t ∈ ts, HeldS t.args) : HeldS ts := by
  intro k S v w hk hr
  have hl := Tm.mks_length ts k
  obtain ⟨a, cap, rfl, hlen, hcap⟩ := Tm.sd_form hr
  rw [hl] at hlen hcap ⊢
  rw [hl] at hr
  unfold big at hlen
  go_enter Tryz.func59, Tryz.ntmps59
  go_wp2_with fail
  go_loopw [1, 5] (fun x i wr => ∃ j : Nat, j ≤ ts.length ∧ i = .int .i64 j ∧ x = .int .i64 (k + Tm.sizes (ts.take j) : Nat) ∧ Below w.heap.size w wr) (fun _ i _ => ts.length - (intOf i).toNat)
  case atStart => exact ⟨0, Nat.zero_le _, rfl, by simp [Tm.sizes], Below.refl _ _⟩
  case round =>
    obtain ⟨j, hj, rfl, rfl, hb⟩ := hrel
    by_cases hlt : j < ts.length
    · have hst := Tm.sizes_take ts j hlt
      have hsl := Tm.sizes_le ts (j + 1)
      have hg := Tm.mks_get ts k j hlt (by omega)
      obtain ⟨q, HQ⟩ : ∃ q, Hid (k + Tm.sizes (ts.take j) = q) := ⟨_, hid rfl⟩
      rw [HQ.out] at hg ⊢
      have hsz : ts[j].size = 1 + Tm.sizes ts[j].args := by cases ts[j]; rw [Tm.size]; rfl
      have hq : q + 1 + Tm.sizes ts[j].args ≤ 1099511627776 := by have := HQ.out; omega
      have HE : Hid (q + 1 + Tm.sizes ts[j].args = k + Tm.sizes (ts.take (j + 1))) := by have := HQ.out; show _ = _; omega
      have hne : Tm.mks ts k ≠ [] := by intro e; rw [e] at hl; simp at hl; omega
      obtain ⟨b, off, rfl, hS, hbl, hrr⟩ := Tm.sd_get hr hne
      obtain ⟨c0, c1, q0, q1, q2⟩ := hrr j (by omega)
      obtain ⟨us, HUS⟩ : ∃ us, Hid (Tm.mks ts[j].args (q + 1) = us) := ⟨_, hid rfl⟩
      rw [hg, Tm.mke_eq, HUS.out] at q2
      obtain ⟨rfl, -, x, xc, rfl⟩ := Tm.at_form q2
      replace q0 := (hb.cell (p := ⟨b, off + j * 2, none⟩) hbl).trans q0
      replace q1 := (hb.cell (p := ⟨b, off + j * 2 + 1, none⟩) hbl).trans q1
      have q3 := D.rd_keep (Keeps.all hb) _ _ q2.2
      simp only [Tm.name, Tm.args] at q0 q1 q3
      have hbr : b < wr.heap.size := Nat.lt_of_lt_of_le hbl hb.size
      have Hr := hid hr
      clear hst hsl hsz hg hrr q2 hne hr
      go_wp2_with fail
      refine wp_region_B [fun v _ => v = .slice (some ⟨b, off, none⟩) ts.length cap, fun v _ => v = .int .i64 j, fun v _ => v = .pointer (some ⟨b, off + j * 2, none⟩), fun v _ => v = .pointer (some ⟨b, off + j * 2, none⟩), fun v _ => v = .string (bs (mtext q)), fun v _ => v = .int .i64 q, fun v _ => v = .string (bs (mtext q)), fun v _ => v = .bool false] _ (fun V => by simp [putAll, Act.put]; rfl) (by kernel_rfl) (by decide) (by simp) (by kernel_rfl) ?_ ?_ ?_
      · intro F hF
        simp only [List.mem_cons, List.not_mem_nil, or_false] at hF
        rcases hF with rfl | rfl | rfl | rfl | rfl | rfl | rfl | rfl
        · exact stable_eq
        · exact stable_eq
        · exact stable_eq
        · exact stable_eq
        · exact stable_eq
        · exact stable_eq
        · exact stable_eq
        · exact stable_eq
      · refine ⟨?_, ?_, ?_, ?_, ?_, ?_, ?_, ?_, trivial⟩
        · intro V w1 hbR _
          unfold Does
          go_simp
          exact ⟨Below.refl _ _, rfl⟩
        · intro V w1 hbR _
          unfold Does
          go_simp
          exact ⟨Below.refl _ _, rfl⟩
        · intro V w1 hbR ⟨f0, f1, _⟩
          replace f0 : V 0 = .slice (some ⟨b, off, none⟩) ts.length cap := f0
          replace f1 : V 1 = .int .i64 j := f1
          unfold Does
          go_simp
          exact ⟨Below.refl _ _, rfl⟩
        · intro V w1 hbR ⟨f2, _⟩
          replace f2 : V 2 = .pointer (some ⟨b, off + j * 2, none⟩) := f2
          unfold Does
          go_simp
          exact ⟨Below.refl _ _, rfl⟩
        · intro V w1 hbR ⟨f3, _⟩
          replace f3 : V 3 = .pointer (some ⟨b, off + j * 2, none⟩) := f3
          obtain ⟨hc, hf⟩ := bcell hbR
          try simp only [World.size_alloc, World.size_setCell] at hc hf
          unfold Does
          go_simp
          exact ⟨Below.refl _ _, rfl⟩
        · intro V w1 hbR _
          unfold Does
          go_simp
          exact ⟨Below.refl _ _, rfl⟩
        · intro V w1 hbR ⟨f5, _⟩
          replace f5 : V 5 = .int .i64 q := f5
          obtain ⟨hc, hf⟩ := bcell hbR
          try simp only [World.size_alloc, World.size_setCell] at hc hf
          unfold Does
          go_simp
          exact markText_any q (by omega) w1
        · intro V w1 hbR ⟨f4, f6, _⟩
          replace f4 : V 4 = .string (bs (mtext q)) := f4
          replace f6 : V 6 = .string (bs (mtext q)) := f6
          unfold Does
          go_simp
          exact ⟨Below.refl _ _, rfl⟩
      intro V w3 hbR hfR
      obtain ⟨f0, f1, f2, f3, f4, f5, f6, f7, _⟩ := hfR
      replace f0 : V 0 = .slice (some ⟨b, off, none⟩) ts.length cap := f0
      replace f1 : V 1 = .int .i64 j := f1
      replace f2 : V 2 = .pointer (some ⟨b, off + j * 2, none⟩) := f2
      replace f3 : V 3 = .pointer (some ⟨b, off + j * 2, none⟩) := f3
      replace f4 : V 4 = .string (bs (mtext q)) := f4
      replace f5 : V 5 = .int .i64 q := f5
      replace f6 : V 6 = .string (bs (mtext q)) := f6
      replace f7 : V 7 = .bool false := f7
      simp only [f0, f1, f2, f3, f4, f5, f6, f7]
      clear f0 f1 f2 f3 f4 f5 f6 f7
      replace q1 := (hbR.cell (p := ⟨b, off + j * 2 + 1, none⟩) hbr).trans q1
      replace q3 := D.rd_keep (Keeps.all hbR) _ _ q3
      have HR := h ts[j] (List.getElem_mem hlt) (q + 1) _ (.slice x us.length xc) w3 (by omega) (by rw [HUS.out]; exact q3)
      rw [show ((q + 1 : Nat) : Int) = (q : Int) + 1 from by omega] at HR
      go_wp2_with fail
      refine HR.mono ?_
      rintro e w2 ⟨_, rfl, hb2, rfl⟩
      rw [HE.out]
      clear HR q3 q1 q0
      go_wp2_with fail
      go_roundw
      case rel => exact ⟨j + 1, by omega, by go_num, rfl, (hb.trans (hbR.mono hb.size)).trans (hb2.mono (Nat.le_trans hb.size hbR.size))⟩
      case measure => simp [intOf]; omega
    · obtain rfl : j = ts.length := by omega
      go_wp2_with fail
      go_ret
      exact Gives.mk (by rw [List.take_length]; rfl) hb
theorem heldTermS_any (ts : List Tm) : HeldS ts := by
  have key : ∀ t : Tm, HeldS t.args := fun t => Tm.ind (P := fun t => HeldS t.args) (fun n ts h => heldTermS_of ts h) t
  exact key (.node ByteArray.empty ts)
end Go.Proofs.YtglhbaigigdeeaaGreat
/- A term (by value) is marked, and is found marked. -/
namespace Go.Proofs.YtglhbaigigdeeaaGreat
set_option maxRecDepth 100000
open Go.RowKit

end Go.Proofs.YtglhbaigigdeeaaGreat
/- Marks of lists whose items have two leaves and a list of terms. -/
namespace Go.Proofs.YtglhbaigigdeeaaGreat
set_option maxRecDepth 100000
open Go.RowKit

/-- the cells of marked items, from mark k on; hd: the first cell's mark -/
def m3 (hd : Nat → D) : List (List Tm) → Nat → List D
  | [], _ => []
  | a :: us, k => hd k :: .str (bs (mtext (k + 1))) :: Tm.sd (Tm.mks a (k + 2)) :: m3 hd us (k + (2 + Tm.sizes a))
def c3 : List (List Tm) → Nat
  | [] => 0
  | a :: us => 2 + Tm.sizes a + c3 us
theorem m3_length (hd : Nat → D) : ∀ (us : List (List Tm)) (k : Nat), (m3 hd us k).length = us.length * 3
  | [], _ => rfl
  | a :: us, k => by rw [m3]; simp only [List.length_cons, m3_length hd us]; omega
theorem m3_snoc (hd : Nat → D) : ∀ (us : List (List Tm)) (a : List Tm) (k : Nat), m3 hd (us ++ [a]) k = m3 hd us k ++ [hd (k + c3 us), .str (bs (mtext (k + c3 us + 1))), Tm.sd (Tm.mks a (k + c3 us + 2))]
  | [], a, k => by simp [m3, c3]
  | b :: us, a, k => by
    rw [List.cons_append, m3, m3_snoc hd us a, m3, c3]
    simp only [List.cons_append]
    rw [show k + (2 + Tm.sizes b) + c3 us = k + (2 + Tm.sizes b + c3 us) by omega]
theorem c3_take : ∀ (us : List (List Tm)) (j : Nat) (h : j < us.length), c3 (us.take (j + 1)) = c3 (us.take j) + (2 + Tm.sizes us[j])
  | [], j, h => absurd h (by simp)
  | a :: us, 0, _ => by simp [c3]
  | a :: us, j + 1, h => by
    have := c3_take us j (by simpa using h)
    simp only [List.take_succ_cons, c3, List.getElem_cons_succ]
    rw [this]; omega
theorem c3_le : ∀ (us : List (List Tm)) (j : Nat), c3 (us.take j) ≤ c3 us
  | [], j => by simp
  | a :: us, 0 => by simp [c3]
  | a :: us, j + 1 => by
    have := c3_le us j
    simp only [List.take_succ_cons, c3]; omega
/-- what of a list lies behind j items -/
theorem drop3 {ds : List D} {n j : Nat} (hl : ds.length = n * 3) (hj : j < n) : ∃ x y z, ds.drop (j * 3) = x :: y :: z :: ds.drop ((j + 1) * 3) ∧ ds[j * 3]? = some x ∧ ds[j * 3 + 1]? = some y ∧ ds[j * 3 + 2]? = some z := by
  have h0 : j * 3 < ds.length := by omega
  have h1 : j * 3 + 1 < ds.length := by omega
  have h2 : j * 3 + 2 < ds.length := by omega
  refine ⟨ds[j * 3], ds[j * 3 + 1], ds[j * 3 + 2], ?_, List.getElem?_eq_getElem _, List.getElem?_eq_getElem _, List.getElem?_eq_getElem _⟩
  rw [List.drop_eq_getElem_cons h0, List.drop_eq_getElem_cons h1, List.drop_eq_getElem_cons h2, show j * 3 + 2 + 1 = (j + 1) * 3 by omega]
theorem set_mid {A R : List D} {x d : D} {n : Nat} (h : n = A.length) : (A ++ x :: R).set n d = A ++ d :: R := by
  subst h
  rw [List.set_append_right _ _ (Nat.le_refl _)]; simp
theorem get_mid {A R : List D} {x : D} {n : Nat} (h : n = A.length) (hl : n < (A ++ x :: R).length) : (A ++ x :: R)[n] = x := by
  subst h
  rw [List.getElem_append_right (Nat.le_refl _)]; simp
/-- a cell of owned data is there and may be written -/
theorem own_cell {w : World} {b off n cap : Nat} {ds : List D} {F : List Nat} (h : D.own w (.slice (some ⟨b, off, none⟩) n cap) (.sl n ds) F) {i : Nat} (hi : i < ds.length) : (∃ v, w.cell? ⟨b, off + i, none⟩ = some v) ∧ w.frozen? ⟨b, off + i, none⟩ = false := by
  have hne : ds ≠ [] := by intro e; subst e; simp at hi
  obtain ⟨-, b', off', F', e, rfl, hbF, hbl, hfr, ho⟩ := D.own_slice h hne
  injection e with e; injection e with e1 e2; subst e1 e2
  have hr := D.own_rd _ _ _ h
  rw [D.rd] at hr
  obtain ⟨a, c, e, _, _, _, h4⟩ := hr
  obtain ⟨b2, off2, q0, _, _, q3⟩ := h4 hne
  injection e with e0 _ _
  rw [q0] at e0
  injection e0 with e0; injection e0 with e1 e2
  subst e1 e2
  obtain ⟨v, q, _⟩ := D.rds_get q3 (List.getElem?_eq_getElem hi)
  exact ⟨⟨v, q⟩, hfr _⟩
theorem own_at {w : World} {a : Option Addr} {n m cap : Nat} {ds : List D} {F : List Nat} (h : D.own w (.slice a n cap) (.sl m ds) F) (hne : ds ≠ []) : ∃ b off F', a = some ⟨b, off, none⟩ ∧ F = b :: F' := by
  obtain ⟨-, b, off, F', e, e2, _⟩ := D.own_slice h hne
  exact ⟨b, off, F', e, e2⟩
def D.leaf : D → Prop
  | .sl _ _ => False
  | _ => True
theorem leaf_own {w : World} {v : Value} {d : D} {G : List Nat} (hd : d.leaf) (h : D.own w v d G) : G = [] := by
  cases d with
  | str s => rw [D.own] at h; exact h.2.2
  | num n => rw [D.own] at h; exact h.2.2.2
  | bit b => rw [D.own] at h; exact h.2
  | sl n cs => exact hd.elim
/-- a leaf in the middle is stored -/
theorem own_put {w : World} {b off n cap i : Nat} {A R : List D} {x d : D} {u : Value} {F : List Nat} (h : D.own w (.slice (some ⟨b, off, none⟩) n cap) (.sl n (A ++ x :: R)) F) (hi : i = A.length) (hx : x.leaf) (hu : ∀ w', D.own w' u d []) : D.own (w.setCell ⟨b, off + i, none⟩ u) (.slice (some ⟨b, off, none⟩) n cap) (.sl n (A ++ d :: R)) F := by
  have hl : i < (A ++ x :: R).length := by subst hi; simp
  have := D.own_store h hl (u := u) (d' := d) (fun v G hv => by rw [get_mid hi] at hv; exact leaf_own hx hv) hu
  rwa [set_mid hi] at this
end Go.Proofs.YtglhbaigigdeeaaGreat
/- Literals that a call owns are marked. -/
namespace Go.Proofs.YtglhbaigigdeeaaGreat
set_option maxRecDepth 100000
open Go.RowKit

def litHd (k : Nat) : D := .bit (decide (k % 3 = 0))
def litAs (ls : List Lit) : List (List Tm) := ls.map fun l => l.atom.args
theorem litAs_get (ls : List Lit) (j : Nat) (h : j < ls.length) (h' : j < (litAs ls).length) : (litAs ls)[j] = ls[j].atom.args := by simp [litAs]
theorem litAs_length (ls : List Lit) : (litAs ls).length = ls.length := by simp [litAs]
set_option maxHeartbeats 2000000 in
theorem markLitS_any (ls : List Lit) (k : Nat) {v : Value} {F : List Nat} {w : World} (hk : k + c3 (litAs ls) ≤ 1099511627776) (ho : D.own w v (Lit.sd ls) F) :
    Calls Tryz.prog 11 #[v, .int .i64 k] w fun e w' => e = .returned (.int .i64 (k + c3 (litAs ls) : Nat)) ∧ Mk F w w' ∧ D.own w' v (.sl ls.length (m3 litHd (litAs ls) k)) F := by
  obtain ⟨ds, Hds⟩ : ∃ ds, Hid (ls.flatMap Lit.cs = ds) := ⟨_, hid rfl⟩
  have HL : Hid (ds.length = ls.length * 3) := by rw [Hid, ← Hds.out]; exact flat_length (m := 3) (fun _ => rfl) ls
  have HG : Hid (∀ j (h : j < ls.length), ds[j * 3]? = some (.bit ls[j].pos) ∧ ds[j * 3 + 1]? = some (.str ls[j].atom.name) ∧ ds[j * 3 + 2]? = some (Tm.sd ls[j].atom.args)) := by
    intro j h
    rw [← Hds.out]
    have g := fun i (hi : i < 3) => flat_get (enc := Lit.cs) (m := 3) (fun _ => rfl) ls j i h hi
    exact ⟨g 0 (by decide), g 1 (by decide), g 2 (by decide)⟩
  have ho' : D.own w v (.sl ls.length ds) F := by rw [← Hds.out]; exact ho
  clear ho Hds
  obtain ⟨a, cap, rfl⟩ : ∃ a cap, v = .slice a ls.length cap := by rw [D.own] at ho'; obtain ⟨a, cap, e, _⟩ := ho'; exact ⟨a, cap, e⟩
  have hlen : ls.length ≤ 9223372036854775807 := by rw [D.own] at ho'; obtain ⟨_, _, _, h, _⟩ := ho'; exact h
  go_enter Tryz.func11, Tryz.ntmps11
  go_wp2_with fail
  go_loopw [1, 5] (fun x i wr => ∃ j : Nat, j ≤ ls.length ∧ i = .int .i64 j ∧ x = .int .i64 (k + c3 ((litAs ls).take j) : Nat) ∧ Hid (D.own wr (.slice a ls.length cap) (.sl ls.length (m3 litHd ((litAs ls).take j) k ++ ds.drop (j * 3))) F) ∧ Mk F w wr) (fun _ i _ => ls.length - (intOf i).toNat)
  case atStart => exact ⟨0, Nat.zero_le _, rfl, by simp [c3], by rw [List.take_zero, m3, List.nil_append, Nat.zero_mul, List.drop_zero]; exact ho', Mk.refl _ _⟩
  case round =>
    obtain ⟨j, hj, rfl, rfl, HO, hm⟩ := hrel
    by_cases hlt : j < ls.length
    · have hal := litAs_length ls
      have hst := c3_take (litAs ls) j (by omega)
      have hsl := c3_le (litAs ls) (j + 1)
      obtain ⟨q, HQ⟩ : ∃ q, Hid (k + c3 ((litAs ls).take j) = q) := ⟨_, hid rfl⟩
      rw [HQ.out]
      obtain ⟨A, HA⟩ : ∃ A, Hid (m3 litHd ((litAs ls).take j) k = A) := ⟨_, hid rfl⟩
      have HAl : Hid (j * 3 = A.length) := by rw [Hid, ← HA.out, m3_length, List.length_take]; congr 1; omega
      obtain ⟨x, y, z, hdr, g0, g1, g2⟩ := drop3 HL.out hlt
      obtain ⟨e0, e1, e2⟩ := HG.out j hlt
      obtain rfl : x = .bit ls[j].pos := by rw [g0] at e0; injection e0
      obtain rfl : y = .str ls[j].atom.name := by rw [g1] at e1; injection e1
      obtain rfl : z = Tm.sd ls[j].atom.args := by rw [g2] at e2; injection e2
      obtain ⟨R, HR⟩ : ∃ R, Hid (ds.drop ((j + 1) * 3) = R) := ⟨_, hid rfl⟩
      have h0 := HO.out
      rw [HA.out, hdr, HR.out] at h0
      have H0 := hid h0
      obtain ⟨b, off, F', rfl, rfl⟩ := own_at h0 (by simp)
      obtain ⟨⟨u0, x0⟩, f0⟩ := own_cell h0 (i := j * 3) (by rw [HAl.out]; simp)
      rw [litAs_get ls j hlt (by omega)] at hst
      have hq : q + 2 + Tm.sizes ls[j].atom.args ≤ 1099511627776 := by have := HQ.out; omega
      clear g0 g1 g2 e0 e1 e2 hdr h0 hst hsl hal
      go_wp2_with fail
      have H1 : Hid (D.own (wr.setCell ⟨b, off + j * 3, none⟩ (.bool ((q : Int) % 3 == 0))) (.slice (some ⟨b, off, none⟩) ls.length cap) (.sl ls.length ((A ++ [litHd q]) ++ .str ls[j].atom.name :: Tm.sd ls[j].atom.args :: R)) (b :: F')) := by
        have h := own_put H0.out (i := j * 3) (u := .bool ((q : Int) % 3 == 0)) (d := litHd q) HAl.out trivial (fun w' => by
          rw [litHd, D.own]
          refine ⟨?_, rfl⟩
          congr 1
          rw [Bool.eq_iff_iff]; simp; omega)
        rw [Hid]
        simpa using h
      have HMT := markText_any (q + 1) (by omega) (wr.setCell ⟨b, off + j * 3, none⟩ (.bool ((q : Int) % 3 == 0)))
      rw [show ((q + 1 : Nat) : Int) = (q : Int) + 1 from by omega] at HMT
      refine HMT.mono ?_
      rintro e w1 ⟨_, rfl, hb1, rfl⟩
      have HB1 : Hid (j * 3 + 1 = (A ++ [litHd q]).length) := by rw [Hid, List.length_append, ← HAl.out]; rfl
      have H1' := hid (D.own_keep _ _ _ (Keeps.all hb1) H1.out)
      obtain ⟨⟨u1, x1⟩, f1⟩ := own_cell H1'.out (i := j * 3 + 1) (by rw [HB1.out]; simp)
      rw [← Nat.add_assoc] at x1 f1
      have H2 : Hid (D.own (w1.setCell ⟨b, off + j * 3 + 1, none⟩ (.string (bs (mtext (q + 1))))) (.slice (some ⟨b, off, none⟩) ls.length cap) (.sl ls.length ((A ++ [litHd q, .str (bs (mtext (q + 1)))]) ++ Tm.sd ls[j].atom.args :: R)) (b :: F')) := by
        have h := own_put H1'.out (i := j * 3 + 1) (u := .string (bs (mtext (q + 1)))) (d := .str (bs (mtext (q + 1)))) HB1.out trivial (fun w' => D.own_str (by rw [bs_size]; have := mtext_length (q + 1); unfold maxLen; omega))
        rw [← Nat.add_assoc] at h
        rw [Hid]
        simpa using h
      have HB2 : Hid (j * 3 + 2 = (A ++ [litHd q, .str (bs (mtext (q + 1)))]).length) := by rw [Hid, List.length_append, ← HAl.out]; rfl
      obtain ⟨Fj, vj, y0, y1, hsub, hbj, hup⟩ := D.own_sub H2.out (j := j * 3 + 2) (by rw [HB2.out]; simp)
      rw [get_mid HB2.out] at y1
      have y2 : w1.cell? ⟨b, off + j * 3 + 1 + 1, none⟩ = some vj := by
        have y3 := y0
        rw [World.cell?_setCell_other _ _ _ _ (by intro e; injection e with _ e; omega)] at y3
        rw [show off + j * 3 + 1 + 1 = off + (j * 3 + 2) by omega]
        exact y3
      have HU := hid hup
      have hz1 := hb1.size
      have HM1 := hid (((hm.trans (Mk.set (p := off + j * 3) (List.mem_cons_self ..) _)).trans (Mk.of_below hb1)).trans (Mk.set (p := off + j * 3 + 1) (List.mem_cons_self ..) (.string (bs (mtext (q + 1))))))
      have HRT := markTermS_any ls[j].atom.args (q + 2) _ _ _ (by omega) y1
      rw [show ((q + 2 : Nat) : Int) = (q : Int) + 1 + 1 from by omega] at HRT
      have HE : Hid (q + 2 + Tm.sizes ls[j].atom.args = k + c3 ((litAs ls).take (j + 1))) := by
        rw [Hid, c3_take (litAs ls) j (by rw [litAs_length]; exact hlt), litAs_get ls j hlt (by rw [litAs_length]; exact hlt), ← HQ.out]; omega
      clear hup HMT x0 f0 y0 y1
      go_wp2_with fail
      refine HRT.mono ?_
      rintro e w2 ⟨rfl, hm2, ho2⟩
      have HX := hid (HU.out w2 _ ho2 hm2.1)
      have HM2 := hid (HM1.out.trans (hm2.mono hsub))
      have HN2 : Hid (D.own w2 (.slice (some ⟨b, off, none⟩) ls.length cap) (.sl ls.length (m3 litHd ((litAs ls).take (j + 1)) k ++ ds.drop ((j + 1) * 3))) (b :: F')) := by
        have h1 := HX.out
        rw [set_mid HB2.out] at h1
        rw [Hid, List.take_succ_eq_append_getElem (by rw [litAs_length]; exact hlt), m3_snoc, HA.out, HQ.out, HR.out, litAs_get ls j hlt (by rw [litAs_length]; exact hlt)]
        simpa using h1
      rw [HE.out]
      clear HRT hm2 ho2 HX
      go_wp2_with fail
      go_roundw
      case rel => exact ⟨j + 1, by omega, by go_num, rfl, HN2, HM2.out⟩
      case measure => simp [intOf]; omega
    · obtain rfl : j = ls.length := by omega
      go_wp2_with fail
      go_ret
      have hal := litAs_length ls
      refine ⟨by rw [← hal, List.take_length]; rfl, hm, ?_⟩
      have := HO.out
      rw [← hal, List.take_length, hal, ← HL.out, List.drop_length, List.append_nil] at this
      exact this
set_option maxHeartbeats 1000000 in
theorem markCl_any (ls : List Lit) (k : Nat) {v : Value} {F : List Nat} {w : World} (hk : k + c3 (litAs ls) ≤ 1099511627776) (ho : D.own w v (Lit.sd ls) F) :
    Calls Tryz.prog 12 #[.agg #[v], .int .i64 k] w fun e w' => e = .returned (.int .i64 (k + c3 (litAs ls) : Nat)) ∧ Mk F w w' ∧ D.own w' v (.sl ls.length (m3 litHd (litAs ls) k)) F := by
  obtain ⟨a, cap, rfl⟩ := Lit.sd_own_form ho
  have hW : Below w.heap.size w (w.alloc (.cells #[.slice a ls.length cap] 26)) := (Below.refl _ _).alloc (Nat.le_refl _) _
  have hq := markLitS_any ls k hk (D.own_keep _ _ _ (Keeps.all hW) ho)
  go_enter Tryz.func12, Tryz.ntmps12
  go_wp2_with fail
  refine hq.mono ?_
  rintro e w1 ⟨rfl, hm, ho1⟩
  go_wp2_with fail
  go_ret
  exact ⟨rfl, (Mk.of_below hW).trans hm, ho1⟩
theorem c3_bulk (ls : List Lit) : c3 (litAs ls) ≤ 2 * ls.length + Lit.bulks ls := by
  induction ls with
  | nil => simp [litAs, c3]
  | cons l ls ih =>
    have := Tm.size_bulk l.atom
    have h2 : l.atom.size = 1 + Tm.sizes l.atom.args := by cases l.atom; rw [Tm.size]; rfl
    simp only [litAs, List.map_cons, c3, List.length_cons, Lit.bulks, Lit.bulk] at *
    omega
theorem c3_le_bulk (t : Cl) : c3 (litAs t.ls) ≤ 2 * t.bulk := by
  have := c3_bulk t.ls
  rw [Cl.bulk]; omega
theorem Cl.at_lt {S : Nat → Prop} {w : World} {c0 : Value} {t : Cl} (h : Cl.at S w c0 t) : Cl.at (· < w.heap.size) w c0 t := D.rd_lt _ _ h
theorem Cl.at_all {S : Nat → Prop} {w : World} {c0 : Value} {t : Cl} (h : Cl.at S w c0 t) : Cl.at (fun _ => True) w c0 t := D.rd_all h
theorem Cl.at_of {w : World} {t : Cl} {v : Value} {F : List Nat} (h : D.own w v (Lit.sd t.ls) F) : Cl.at (fun _ => True) w v t := D.rd_all (D.own_rd _ _ _ h)
end Go.Proofs.YtglhbaigigdeeaaGreat
/- Bindings that a call owns are marked, and are found marked. -/
namespace Go.Proofs.YtglhbaigigdeeaaGreat
set_option maxRecDepth 100000
open Go.RowKit

def bndHd (k : Nat) : D := .str (bs (mtext k))
def bndAs (ls : List Bnd) : List (List Tm) := ls.map fun l => l.term.args
theorem bndAs_get (ls : List Bnd) (j : Nat) (h : j < ls.length) (h' : j < (bndAs ls).length) : (bndAs ls)[j] = ls[j].term.args := by simp [bndAs]
theorem bndAs_length (ls : List Bnd) : (bndAs ls).length = ls.length := by simp [bndAs]
set_option maxHeartbeats 2000000 in
theorem markBndS_any (ls : List Bnd) (k : Nat) {v : Value} {F : List Nat} {w : World} (hk : k + c3 (bndAs ls) ≤ 1099511627776) (ho : D.own w v (Bnd.sd ls) F) :
    Calls Tryz.prog 41 #[v, .int .i64 k] w fun e w' => e = .returned (.int .i64 (k + c3 (bndAs ls) : Nat)) ∧ Mk F w w' ∧ D.own w' v (.sl ls.length (m3 bndHd (bndAs ls) k)) F := by
  obtain ⟨ds, Hds⟩ : ∃ ds, Hid (ls.flatMap Bnd.cs = ds) := ⟨_, hid rfl⟩
  have HL : Hid (ds.length = ls.length * 3) := by rw [Hid, ← Hds.out]; exact flat_length (m := 3) (fun _ => rfl) ls
  have HG : Hid (∀ j (h : j < ls.length), ds[j * 3]? = some (.str ls[j].var) ∧ ds[j * 3 + 1]? = some (.str ls[j].term.name) ∧ ds[j * 3 + 2]? = some (Tm.sd ls[j].term.args)) := by
    intro j h
    rw [← Hds.out]
    have g := fun i (hi : i < 3) => flat_get (enc := Bnd.cs) (m := 3) (fun _ => rfl) ls j i h hi
    exact ⟨g 0 (by decide), g 1 (by decide), g 2 (by decide)⟩
  have ho' : D.own w v (.sl ls.length ds) F := by rw [← Hds.out]; exact ho
  clear ho Hds
  obtain ⟨a, cap, rfl⟩ : ∃ a cap, v = .slice a ls.length cap := by rw [D.own] at ho'; obtain ⟨a, cap, e, _⟩ := ho'; exact ⟨a, cap, e⟩
  have hlen : ls.length ≤ 9223372036854775807 := by rw [D.own] at ho'; obtain ⟨_, _, _, h, _⟩ := ho'; exact h
  go_enter Tryz.func41, Tryz.ntmps41
  go_wp2_with fail
  go_loopw [1, 5] (fun x i wr => ∃ j : Nat, j ≤ ls.length ∧ i = .int .i64 j ∧ x = .int .i64 (k + c3 ((bndAs ls).take j) : Nat) ∧ Hid (D.own wr (.slice a ls.length cap) (.sl ls.length (m3 bndHd ((bndAs ls).take j) k ++ ds.drop (j * 3))) F) ∧ Mk F w wr) (fun _ i _ => ls.length - (intOf i).toNat)
  case atStart => exact ⟨0, Nat.zero_le _, rfl, by simp [c3], by rw [List.take_zero, m3, List.nil_append, Nat.zero_mul, List.drop_zero]; exact ho', Mk.refl _ _⟩
  case round =>
    obtain ⟨j, hj, rfl, rfl, HO, hm⟩ := hrel
    by_cases hlt : j < ls.length
    · have hal := bndAs_length ls
      have hst := c3_take (bndAs ls) j (by omega)
      have hsl := c3_le (bndAs ls) (j + 1)
      obtain ⟨q, HQ⟩ : ∃ q, Hid (k + c3 ((bndAs ls).take j) = q) := ⟨_, hid rfl⟩
      rw [HQ.out]
      obtain ⟨A, HA⟩ : ∃ A, Hid (m3 bndHd ((bndAs ls).take j) k = A) := ⟨_, hid rfl⟩
      have HAl : Hid (j * 3 = A.length) := by rw [Hid, ← HA.out, m3_length, List.length_take]; congr 1; omega
      obtain ⟨x, y, z, hdr, g0, g1, g2⟩ := drop3 HL.out hlt
      obtain ⟨e0, e1, e2⟩ := HG.out j hlt
      obtain rfl : x = .str ls[j].var := by rw [g0] at e0; injection e0
      obtain rfl : y = .str ls[j].term.name := by rw [g1] at e1; injection e1
      obtain rfl : z = Tm.sd ls[j].term.args := by rw [g2] at e2; injection e2
      obtain ⟨R, HR⟩ : ∃ R, Hid (ds.drop ((j + 1) * 3) = R) := ⟨_, hid rfl⟩
      have h0 := HO.out
      rw [HA.out, hdr, HR.out] at h0
      have H0 := hid h0
      obtain ⟨b, off, F', rfl, rfl⟩ := own_at h0 (by simp)
      rw [bndAs_get ls j hlt (by omega)] at hst
      have hq : q + 2 + Tm.sizes ls[j].term.args ≤ 1099511627776 := by have := HQ.out; omega
      clear g0 g1 g2 e0 e1 e2 hdr h0 hst hsl hal
      have HMT0 := markText_any q (by omega) wr
      go_wp2_with fail
      refine HMT0.mono ?_
      rintro e w0 ⟨_, rfl, hb0, rfl⟩
      have H0' := hid (D.own_keep _ _ _ (Keeps.all hb0) H0.out)
      obtain ⟨⟨u0, x0⟩, f0⟩ := own_cell H0'.out (i := j * 3) (by rw [HAl.out]; simp)
      have H1 : Hid (D.own (w0.setCell ⟨b, off + j * 3, none⟩ (.string (bs (mtext q)))) (.slice (some ⟨b, off, none⟩) ls.length cap) (.sl ls.length ((A ++ [bndHd q]) ++ .str ls[j].term.name :: Tm.sd ls[j].term.args :: R)) (b :: F')) := by
        have h := own_put H0'.out (i := j * 3) (u := .string (bs (mtext q))) (d := bndHd q) HAl.out trivial (fun w' => D.own_str (by rw [bs_size]; have := mtext_length q; unfold maxLen; omega))
        rw [Hid]
        simpa using h
      have HMT := markText_any (q + 1) (by omega) (w0.setCell ⟨b, off + j * 3, none⟩ (.string (bs (mtext q))))
      rw [show ((q + 1 : Nat) : Int) = (q : Int) + 1 from by omega] at HMT
      have HM0 := hid ((hm.trans (Mk.of_below hb0)).trans (Mk.set (p := off + j * 3) (List.mem_cons_self ..) (.string (bs (mtext q)))))
      clear HMT0 hb0
      go_wp2_with fail
      refine HMT.mono ?_
      rintro e w1 ⟨_, rfl, hb1, rfl⟩
      have HB1 : Hid (j * 3 + 1 = (A ++ [bndHd q]).length) := by rw [Hid, List.length_append, ← HAl.out]; rfl
      have H1' := hid (D.own_keep _ _ _ (Keeps.all hb1) H1.out)
      obtain ⟨⟨u1, x1⟩, f1⟩ := own_cell H1'.out (i := j * 3 + 1) (by rw [HB1.out]; simp)
      rw [← Nat.add_assoc] at x1 f1
      have H2 : Hid (D.own (w1.setCell ⟨b, off + j * 3 + 1, none⟩ (.string (bs (mtext (q + 1))))) (.slice (some ⟨b, off, none⟩) ls.length cap) (.sl ls.length ((A ++ [bndHd q, .str (bs (mtext (q + 1)))]) ++ Tm.sd ls[j].term.args :: R)) (b :: F')) := by
        have h := own_put H1'.out (i := j * 3 + 1) (u := .string (bs (mtext (q + 1)))) (d := .str (bs (mtext (q + 1)))) HB1.out trivial (fun w' => D.own_str (by rw [bs_size]; have := mtext_length (q + 1); unfold maxLen; omega))
        rw [← Nat.add_assoc] at h
        rw [Hid]
        simpa using h
      have HB2 : Hid (j * 3 + 2 = (A ++ [bndHd q, .str (bs (mtext (q + 1)))]).length) := by rw [Hid, List.length_append, ← HAl.out]; rfl
      obtain ⟨Fj, vj, y0, y1, hsub, hbj, hup⟩ := D.own_sub H2.out (j := j * 3 + 2) (by rw [HB2.out]; simp)
      rw [get_mid HB2.out] at y1
      have y2 : w1.cell? ⟨b, off + j * 3 + 1 + 1, none⟩ = some vj := by
        have y3 := y0
        rw [World.cell?_setCell_other _ _ _ _ (by intro e; injection e with _ e; omega)] at y3
        rw [show off + j * 3 + 1 + 1 = off + (j * 3 + 2) by omega]
        exact y3
      have HU := hid hup
      have HM1 := hid ((HM0.out.trans (Mk.of_below hb1)).trans (Mk.set (p := off + j * 3 + 1) (List.mem_cons_self ..) (.string (bs (mtext (q + 1))))))
      have HRT := markTermS_any ls[j].term.args (q + 2) _ _ _ (by omega) y1
      rw [show ((q + 2 : Nat) : Int) = (q : Int) + 1 + 1 from by omega] at HRT
      have HE : Hid (q + 2 + Tm.sizes ls[j].term.args = k + c3 ((bndAs ls).take (j + 1))) := by
        rw [Hid, c3_take (bndAs ls) j (by rw [bndAs_length]; exact hlt), bndAs_get ls j hlt (by rw [bndAs_length]; exact hlt), ← HQ.out]; omega
      clear hup HMT x0 f0 y0 y1
      go_wp2_with fail
      refine HRT.mono ?_
      rintro e w2 ⟨rfl, hm2, ho2⟩
      have HX := hid (HU.out w2 _ ho2 hm2.1)
      have HM2 := hid (HM1.out.trans (hm2.mono hsub))
      have HN2 : Hid (D.own w2 (.slice (some ⟨b, off, none⟩) ls.length cap) (.sl ls.length (m3 bndHd ((bndAs ls).take (j + 1)) k ++ ds.drop ((j + 1) * 3))) (b :: F')) := by
        have h1 := HX.out
        rw [set_mid HB2.out] at h1
        rw [Hid, List.take_succ_eq_append_getElem (by rw [bndAs_length]; exact hlt), m3_snoc, HA.out, HQ.out, HR.out, bndAs_get ls j hlt (by rw [bndAs_length]; exact hlt)]
        simpa using h1
      rw [HE.out]
      clear HRT hm2 ho2 HX
      go_wp2_with fail
      go_roundw
      case rel => exact ⟨j + 1, by omega, by go_num, rfl, HN2, HM2.out⟩
      case measure => simp [intOf]; omega
    · obtain rfl : j = ls.length := by omega
      go_wp2_with fail
      go_ret
      have hal := bndAs_length ls
      refine ⟨by rw [← hal, List.take_length]; rfl, hm, ?_⟩
      have := HO.out
      rw [← hal, List.take_length, hal, ← HL.out, List.drop_length, List.append_nil] at this
      exact this
set_option maxHeartbeats 1000000 in
theorem markSb_any (ls : List Bnd) (k : Nat) {v : Value} {F : List Nat} {w : World} (hk : k + c3 (bndAs ls) ≤ 1099511627776) (ho : D.own w v (Bnd.sd ls) F) :
    Calls Tryz.prog 19 #[.agg #[v], .int .i64 k] w fun e w' => e = .returned (.int .i64 (k + c3 (bndAs ls) : Nat)) ∧ Mk F w w' ∧ D.own w' v (.sl ls.length (m3 bndHd (bndAs ls) k)) F := by
  obtain ⟨a, cap, rfl⟩ := Bnd.sd_own_form ho
  have hW : Below w.heap.size w (w.alloc (.cells #[.slice a ls.length cap] 40)) := (Below.refl _ _).alloc (Nat.le_refl _) _
  have hq := markBndS_any ls k hk (D.own_keep _ _ _ (Keeps.all hW) ho)
  go_enter Tryz.func19, Tryz.ntmps19
  go_wp2_with fail
  refine hq.mono ?_
  rintro e w1 ⟨rfl, hm, ho1⟩
  go_wp2_with fail
  go_ret
  exact ⟨rfl, (Mk.of_below hW).trans hm, ho1⟩
theorem m3_get (hd : Nat → D) : ∀ (us : List (List Tm)) (k j : Nat) (h : j < us.length), (m3 hd us k)[j * 3]? = some (hd (k + c3 (us.take j))) ∧ (m3 hd us k)[j * 3 + 1]? = some (.str (bs (mtext (k + c3 (us.take j) + 1)))) ∧ (m3 hd us k)[j * 3 + 2]? = some (Tm.sd (Tm.mks us[j] (k + c3 (us.take j) + 2)))
  | [], k, j, h => absurd h (by simp)
  | a :: us, k, 0, _ => by simp [m3, c3]
  | a :: us, k, j + 1, h => by
    have ih := m3_get hd us (k + (2 + Tm.sizes a)) j (by simpa using h)
    rw [m3]
    simp only [List.take_succ_cons, c3, List.getElem_cons_succ]
    rw [show (j + 1) * 3 = j * 3 + 1 + 1 + 1 by omega, show j * 3 + 1 + 1 + 1 + 1 = (j * 3 + 1) + 1 + 1 + 1 by omega, show j * 3 + 1 + 1 + 1 + 2 = (j * 3 + 2) + 1 + 1 + 1 by omega]
    simp only [List.getElem?_cons_succ]
    rw [show k + (2 + Tm.sizes a + c3 (us.take j)) = k + (2 + Tm.sizes a) + c3 (us.take j) by omega]
    exact ih
set_option maxHeartbeats 2000000 in
theorem heldBndS_any (us : List (List Tm)) (k : Nat) {S : Nat → Prop} {v : Value} {w : World} (hk : k + c3 us ≤ 1099511627776) (hr : D.rd S w v (.sl us.length (m3 bndHd us k))) :
    Calls Tryz.prog 42 #[v, .int .i64 k] w (Gives w (.int .i64 (k + c3 us : Nat))) := by
  rw [D.rd] at hr
  obtain ⟨a, cap, rfl, hlen, hcap, -, hr⟩ := hr
  unfold big at hlen
  have HR0 := hid hr
  clear hr
  go_enter Tryz.func42, Tryz.ntmps42
  go_wp2_with fail
  go_loopw [1, 5] (fun x i wr => ∃ j : Nat, j ≤ us.length ∧ i = .int .i64 j ∧ x = .int .i64 (k + c3 (us.take j) : Nat) ∧ Below w.heap.size w wr) (fun _ i _ => us.length - (intOf i).toNat)
  case atStart => exact ⟨0, Nat.zero_le _, rfl, by simp [c3], Below.refl _ _⟩
  case round =>
    obtain ⟨j, hj, rfl, rfl, hb⟩ := hrel
    by_cases hlt : j < us.length
    · have hst := c3_take us j hlt
      have hsl := c3_le us (j + 1)
      obtain ⟨g0, g1, g2⟩ := m3_get bndHd us k j hlt
      obtain ⟨q, HQ⟩ : ∃ q, Hid (k + c3 (us.take j) = q) := ⟨_, hid rfl⟩
      rw [HQ.out] at g0 g1 g2 ⊢
      have hq : q + 2 + Tm.sizes us[j] ≤ 1099511627776 := by have := HQ.out; omega
      have HE : Hid (q + 2 + Tm.sizes us[j] = k + c3 (us.take (j + 1))) := by have := HQ.out; show _ = _; omega
      have hne : m3 bndHd us k ≠ [] := by intro e; rw [e] at g0; simp at g0
      obtain ⟨b, off, rfl, hS, hbl, hrr⟩ := HR0.out hne
      obtain ⟨c0, q0, r0⟩ := D.rds_get hrr g0
      obtain ⟨c1, q1, r1⟩ := D.rds_get hrr g1
      obtain ⟨c2, q2, r2⟩ := D.rds_get hrr g2
      obtain ⟨ts, HTS⟩ : ∃ ts, Hid (Tm.mks us[j] (q + 2) = ts) := ⟨_, hid rfl⟩
      rw [HTS.out] at r2
      obtain ⟨x, xc, rfl, -, -⟩ := Tm.sd_form r2
      obtain rfl : c0 = .string (bs (mtext q)) := by rw [bndHd, D.rd] at r0; exact r0.1
      obtain rfl : c1 = .string (bs (mtext (q + 1))) := by rw [D.rd] at r1; exact r1.1
      rw [← Nat.add_assoc] at q1 q2
      replace q0 := (hb.cell (p := ⟨b, off + j * 3, none⟩) hbl).trans q0
      replace q1 := (hb.cell (p := ⟨b, off + j * 3 + 1, none⟩) hbl).trans q1
      replace q2 := (hb.cell (p := ⟨b, off + j * 3 + 2, none⟩) hbl).trans q2
      have q3 := D.rd_keep (Keeps.all hb) _ _ r2
      have hbr : b < wr.heap.size := Nat.lt_of_lt_of_le hbl hb.size
      clear hst hsl g0 g1 g2 hrr r0 r1 r2 hne
      go_wp2_with fail
      refine wp_region_B [fun v _ => v = .slice (some ⟨b, off, none⟩) us.length cap, fun v _ => v = .int .i64 j, fun v _ => v = .pointer (some ⟨b, off + j * 3, none⟩), fun v _ => v = .pointer (some ⟨b, off + j * 3, none⟩), fun v _ => v = .string (bs (mtext q)), fun v _ => v = .int .i64 q, fun v _ => v = .string (bs (mtext q)), fun v _ => v = .bool false] _ (fun V => by simp [putAll, Act.put]; rfl) (by kernel_rfl) (by decide) (by simp) (by kernel_rfl) ?_ ?_ ?_
      · intro F hF
        simp only [List.mem_cons, List.not_mem_nil, or_false] at hF
        rcases hF with rfl | rfl | rfl | rfl | rfl | rfl | rfl | rfl
        · exact stable_eq
        · exact stable_eq
        · exact stable_eq
        · exact stable_eq
        · exact stable_eq
        · exact stable_eq
        · exact stable_eq
        · exact stable_eq
      · refine ⟨?_, ?_, ?_, ?_, ?_, ?_, ?_, ?_, trivial⟩
        · intro V w1 hbR _
          unfold Does
          go_simp
          exact ⟨Below.refl _ _, rfl⟩
        · intro V w1 hbR _
          unfold Does
          go_simp
          exact ⟨Below.refl _ _, rfl⟩
        · intro V w1 hbR ⟨f0, f1, _⟩
          replace f0 : V 0 = .slice (some ⟨b, off, none⟩) us.length cap := f0
          replace f1 : V 1 = .int .i64 j := f1
          unfold Does
          go_simp
          exact ⟨Below.refl _ _, rfl⟩
        · intro V w1 hbR ⟨f2, _⟩
          replace f2 : V 2 = .pointer (some ⟨b, off + j * 3, none⟩) := f2
          unfold Does
          go_simp
          exact ⟨Below.refl _ _, rfl⟩
        · intro V w1 hbR ⟨f3, _⟩
          replace f3 : V 3 = .pointer (some ⟨b, off + j * 3, none⟩) := f3
          obtain ⟨hc, hf⟩ := bcell hbR
          try simp only [World.size_alloc, World.size_setCell] at hc hf
          unfold Does
          go_simp
          exact ⟨Below.refl _ _, rfl⟩
        · intro V w1 hbR _
          unfold Does
          go_simp
          exact ⟨Below.refl _ _, rfl⟩
        · intro V w1 hbR ⟨f5, _⟩
          replace f5 : V 5 = .int .i64 q := f5
          obtain ⟨hc, hf⟩ := bcell hbR
          try simp only [World.size_alloc, World.size_setCell] at hc hf
          unfold Does
          go_simp
          exact markText_any q (by omega) w1
        · intro V w1 hbR ⟨f4, f6, _⟩
          replace f4 : V 4 = .string (bs (mtext q)) := f4
          replace f6 : V 6 = .string (bs (mtext q)) := f6
          unfold Does
          go_simp
          exact ⟨Below.refl _ _, rfl⟩
      intro V w3 hbR hfR
      obtain ⟨f0, f1, f2, f3, f4, f5, f6, f7, _⟩ := hfR
      replace f0 : V 0 = .slice (some ⟨b, off, none⟩) us.length cap := f0
      replace f1 : V 1 = .int .i64 j := f1
      replace f2 : V 2 = .pointer (some ⟨b, off + j * 3, none⟩) := f2
      replace f3 : V 3 = .pointer (some ⟨b, off + j * 3, none⟩) := f3
      replace f4 : V 4 = .string (bs (mtext q)) := f4
      replace f5 : V 5 = .int .i64 q := f5
      replace f6 : V 6 = .string (bs (mtext q)) := f6
      replace f7 : V 7 = .bool false := f7
      simp only [f0, f1, f2, f3, f4, f5, f6, f7]
      clear f0 f1 f2 f3 f4 f5 f6 f7
      replace hb := hb.trans (hbR.mono hb.size)
      replace q1 := (hbR.cell (p := ⟨b, off + j * 3 + 1, none⟩) hbr).trans q1
      replace q2 := (hbR.cell (p := ⟨b, off + j * 3 + 2, none⟩) hbr).trans q2
      replace q3 := D.rd_keep (Keeps.all hbR) _ _ q3
      have hbr3 : b < w3.heap.size := Nat.lt_of_lt_of_le hbr hbR.size
      have HMT := markText_any (q + 1) (by omega)
      rw [show ((q + 1 : Nat) : Int) = (q : Int) + 1 from by omega] at HMT
      clear q0 hbR
      go_wp2_with fail
      refine wp_region_B [fun v _ => v = .slice (some ⟨b, off, none⟩) us.length cap, fun v _ => v = .int .i64 j, fun v _ => v = .pointer (some ⟨b, off + j * 3, none⟩), fun v _ => v = .pointer (some ⟨b, off + j * 3 + 1, none⟩), fun v _ => v = .pointer (some ⟨b, off + j * 3 + 1, none⟩), fun v _ => v = .string (bs (mtext (q + 1))), fun v _ => v = .int .i64 ((q : Int) + 1), fun v _ => v = .string (bs (mtext (q + 1))), fun v _ => v = .bool false] _ (fun V => by simp [putAll, Act.put]; rfl) (by kernel_rfl) (by decide) (by simp) (by kernel_rfl) ?_ ?_ ?_
      · intro F hF
        simp only [List.mem_cons, List.not_mem_nil, or_false] at hF
        rcases hF with rfl | rfl | rfl | rfl | rfl | rfl | rfl | rfl | rfl
        · exact stable_eq
        · exact stable_eq
        · exact stable_eq
        · exact stable_eq
        · exact stable_eq
        · exact stable_eq
        · exact stable_eq
        · exact stable_eq
        · exact stable_eq
      · refine ⟨?_, ?_, ?_, ?_, ?_, ?_, ?_, ?_, ?_, trivial⟩
        · intro V w1 hbR _
          unfold Does
          go_simp
          exact ⟨Below.refl _ _, rfl⟩
        · intro V w1 hbR _
          unfold Does
          go_simp
          exact ⟨Below.refl _ _, rfl⟩
        · intro V w1 hbR ⟨f0, f1, _⟩
          replace f0 : V 0 = .slice (some ⟨b, off, none⟩) us.length cap := f0
          replace f1 : V 1 = .int .i64 j := f1
          unfold Does
          go_simp
          exact ⟨Below.refl _ _, rfl⟩
        · intro V w1 hbR ⟨f2, _⟩
          replace f2 : V 2 = .pointer (some ⟨b, off + j * 3, none⟩) := f2
          unfold Does
          go_simp
          exact ⟨Below.refl _ _, rfl⟩
        · intro V w1 hbR ⟨f3, _⟩
          replace f3 : V 3 = .pointer (some ⟨b, off + j * 3 + 1, none⟩) := f3
          unfold Does
          go_simp
          exact ⟨Below.refl _ _, rfl⟩
        · intro V w1 hbR ⟨f4, _⟩
          replace f4 : V 4 = .pointer (some ⟨b, off + j * 3 + 1, none⟩) := f4
          obtain ⟨hc, hf⟩ := bcell hbR
          try simp only [World.size_alloc, World.size_setCell] at hc hf
          unfold Does
          go_simp
          exact ⟨Below.refl _ _, rfl⟩
        · intro V w1 hbR _
          unfold Does
          go_simp
          exact ⟨Below.refl _ _, rfl⟩
        · intro V w1 hbR ⟨f6, _⟩
          replace f6 : V 6 = .int .i64 ((q : Int) + 1) := f6
          obtain ⟨hc, hf⟩ := bcell hbR
          try simp only [World.size_alloc, World.size_setCell] at hc hf
          unfold Does
          go_simp
          exact HMT w1
        · intro V w1 hbR ⟨f5, f7, _⟩
          replace f5 : V 5 = .string (bs (mtext (q + 1))) := f5
          replace f7 : V 7 = .string (bs (mtext (q + 1))) := f7
          unfold Does
          go_simp
          exact ⟨Below.refl _ _, rfl⟩
      intro V w4 hbR hfR
      obtain ⟨f0, f1, f2, f3, f4, f5, f6, f7, f8, _⟩ := hfR
      replace f0 : V 0 = .slice (some ⟨b, off, none⟩) us.length cap := f0
      replace f1 : V 1 = .int .i64 j := f1
      replace f2 : V 2 = .pointer (some ⟨b, off + j * 3, none⟩) := f2
      replace f3 : V 3 = .pointer (some ⟨b, off + j * 3 + 1, none⟩) := f3
      replace f4 : V 4 = .pointer (some ⟨b, off + j * 3 + 1, none⟩) := f4
      replace f5 : V 5 = .string (bs (mtext (q + 1))) := f5
      replace f6 : V 6 = .int .i64 ((q : Int) + 1) := f6
      replace f7 : V 7 = .string (bs (mtext (q + 1))) := f7
      replace f8 : V 8 = .bool false := f8
      simp only [f0, f1, f2, f3, f4, f5, f6, f7, f8]
      clear f0 f1 f2 f3 f4 f5 f6 f7 f8
      replace hb := hb.trans (hbR.mono hb.size)
      replace q2 := (hbR.cell (p := ⟨b, off + j * 3 + 2, none⟩) hbr3).trans q2
      replace q3 := D.rd_keep (Keeps.all hbR) _ _ q3
      have HR := heldTermS_any us[j] (q + 2) _ (.slice x ts.length xc) w4 (by omega) (by rw [HTS.out]; exact q3)
      rw [show ((q + 2 : Nat) : Int) = (q : Int) + 1 + 1 from by omega] at HR
      clear q1 hbR HMT
      go_wp2_with fail
      refine HR.mono ?_
      rintro e w5 ⟨_, rfl, hb2, rfl⟩
      rw [HE.out]
      clear HR q3 q2
      go_wp2_with fail
      go_roundw
      case rel => exact ⟨j + 1, by omega, by go_num, rfl, hb.trans (hb2.mono hb.size)⟩
      case measure => simp [intOf]; omega
    · obtain rfl : j = us.length := by omega
      go_wp2_with fail
      go_ret
      exact Gives.mk (by rw [List.take_length]; rfl) hb
set_option maxHeartbeats 1000000 in
theorem heldSb_any (ls : List Bnd) (k : Nat) {S : Nat → Prop} {v : Value} {w : World} (hk : k + c3 (bndAs ls) ≤ 1099511627776) (hr : D.rd S w v (.sl ls.length (m3 bndHd (bndAs ls) k))) :
    Calls Tryz.prog 20 #[.agg #[v], .int .i64 k] w (Gives w (.int .i64 (k + c3 (bndAs ls) : Nat))) := by
  rw [← bndAs_length ls] at hr
  obtain ⟨a, cap, rfl⟩ : ∃ a cap, v = .slice a (bndAs ls).length cap := by rw [D.rd] at hr; obtain ⟨a, cap, e, _⟩ := hr; exact ⟨a, cap, e⟩
  have hW : Below w.heap.size w (w.alloc (.cells #[.slice a (bndAs ls).length cap] 40)) := (Below.refl _ _).alloc (Nat.le_refl _) _
  have hq := heldBndS_any (bndAs ls) k hk (D.rd_keep (Keeps.all hW) _ _ hr)
  have h0 : ¬ ((k + c3 (bndAs ls) : Nat) : Int) < 0 := by omega
  go_enter Tryz.func20, Tryz.ntmps20
  go_wp2_with fail
  refine hq.mono ?_
  rintro e w1 ⟨_, rfl, hb, rfl⟩
  go_wp2_with fail
  go_ret
  exact Gives.mk rfl (hW.trans (hb.mono hW.size))
theorem c3_bulkB (ls : List Bnd) : c3 (bndAs ls) ≤ 2 * ls.length + Bnd.bulks ls := by
  induction ls with
  | nil => simp [bndAs, c3]
  | cons l ls ih =>
    have := Tm.size_bulk l.term
    have h2 : l.term.size = 1 + Tm.sizes l.term.args := by cases l.term; rw [Tm.size]; rfl
    simp only [bndAs, List.map_cons, c3, List.length_cons, Bnd.bulks, Bnd.bulk] at *
    omega
theorem c3_le_bulkB (t : Sb) : c3 (bndAs t.bs) ≤ 2 * t.bulk := by
  have := c3_bulkB t.bs
  rw [Sb.bulk]; omega
theorem Sb.at_lt {S : Nat → Prop} {w : World} {c0 : Value} {t : Sb} (h : Sb.at S w c0 t) : Sb.at (· < w.heap.size) w c0 t := D.rd_lt _ _ h
theorem Sb.at_all {S : Nat → Prop} {w : World} {c0 : Value} {t : Sb} (h : Sb.at S w c0 t) : Sb.at (fun _ => True) w c0 t := D.rd_all h
theorem Sb.at_of {w : World} {t : Sb} {v : Value} {F : List Nat} (h : D.own w v (Bnd.sd t.bs) F) : Sb.at (fun _ => True) w v t := D.rd_all (D.own_rd _ _ _ h)
end Go.Proofs.YtglhbaigigdeeaaGreat
/- A box that is laid before the value that fills it: substitutions. -/
namespace Go.Proofs.YtglhbaigigdeeaaGreat
set_option maxRecDepth 100000
open Go.RowKit

/-- a box that is not filled yet -/
def ZBoxS (w : World) (b : Nat) : Prop := b < w.heap.size ∧ w.cell? ⟨b, 0, none⟩ = some (.slice none 0 0) ∧ w.frozen? ⟨b, 0, none⟩ = false
theorem ZBoxS.keep {w w' : World} {b : Nat} (h : ZBoxS w b) (hb : Below w.heap.size w w') : ZBoxS w' b :=
  ⟨Nat.lt_of_lt_of_le h.1 hb.size, (hb.cell (p := ⟨b, 0, none⟩) h.1).trans h.2.1, (hb.frozen (p := ⟨b, 0, none⟩) h.1).trans h.2.2⟩
theorem ZBoxS.new (w : World) : ZBoxS (w.alloc (.cells #[.slice none 0 0] 40)) w.heap.size :=
  ⟨by rw [World.size_alloc]; exact Nat.lt_succ_self _, by rw [box1]; rfl, World.frozen?_alloc_at _ _ _ 0 rfl⟩
theorem ZBoxS.notin {w : World} {b : Nat} {F : List Nat} (h : ZBoxS w b) (hF : ∀ x ∈ F, w.heap.size ≤ x) : b ∉ F := fun q => absurd (hF _ q) (Nat.not_le.2 h.1)
def ZEndS (W : World) (r : Sb) (ok : Bool) (v8 v9 : Value) (wc : World) : Prop := ∃ (b : Nat) (ra : Option Addr) (rc : Nat), v8 = .pointer (some ⟨b, 0, none⟩) ∧ v9 = .bool ok ∧ Hid (b + 1 ≤ wc.heap.size) ∧ Hid (Box wc b [.slice ra r.bs.length rc]) ∧ Hid (Sb.at (fun _ => True) wc (.slice ra r.bs.length rc) r) ∧ Below W.heap.size W wc
theorem ZEndS.filled {W x : World} {b : Nat} {r : Sb} {ok : Bool} {a : Option Addr} {c : Nat} {F : List Nat} (zb : ZBoxS x b) (hB : Below W.heap.size W x) (hb : W.heap.size ≤ b) (o : D.own x (.slice a r.bs.length c) (Bnd.sd r.bs) F) (hn : b ∉ F) :
    ZEndS W r ok (.pointer (some ⟨b, 0, none⟩)) (.bool ok) (x.setCell ⟨b, 0, none⟩ (.slice a r.bs.length c)) := by
  have hl : b < (x.setCell ⟨b, 0, none⟩ (.slice a r.bs.length c)).heap.size := by rw [World.size_setCell]; exact zb.1
  refine ⟨b, a, c, rfl, rfl, hid hl, hid ⟨hl, fun i hi => ?_⟩, hid ?_, hB.setCell (p := ⟨b, 0, none⟩) hb _⟩
  · match i, hi with
    | 0, _ => exact World.cell?_setCell_same (u := .slice none 0 0) _ _ _ zb.2.1
  · exact D.rd_mono (fun _ _ => trivial) _ _ (D.own_rd _ _ _ (D.own_keep _ _ _ ((Keeps.refl (· ∈ F) x).setCell (fun q _ => hn q) _) o))
theorem ZEndS.last {W x : World} {r : Sb} {ok : Bool} {a : Option Addr} {c : Nat} {F : List Nat} (hB : Below W.heap.size W x) (o : D.own x (.slice a r.bs.length c) (Bnd.sd r.bs) F) :
    ZEndS W r ok (.pointer (some ⟨x.heap.size, 0, none⟩)) (.bool ok) (x.alloc (.cells #[.slice a r.bs.length c] 40)) :=
  ⟨x.heap.size, a, c, rfl, rfl, hid (by rw [World.size_alloc]; exact Nat.le_refl _), hid (Box.new x [.slice a r.bs.length c] _), hid (D.rd_keep (Keeps.all ((Below.refl _ _).alloc (Nat.le_refl _) _)) _ _ (D.rd_all (D.own_rd _ _ _ o))), hB.alloc hB.size _⟩
/-- the same where the result is only known to read in blocks from B on -/
theorem ZEndS.filledR {W x : World} {b B : Nat} {r : Sb} {ok : Bool} {a : Option Addr} {c : Nat} (zb : ZBoxS x b) (hB : Below W.heap.size W x) (hb : W.heap.size ≤ b) (o : D.rd (fun y => B ≤ y) x (.slice a r.bs.length c) (Bnd.sd r.bs)) (hn : b < B) :
    ZEndS W r ok (.pointer (some ⟨b, 0, none⟩)) (.bool ok) (x.setCell ⟨b, 0, none⟩ (.slice a r.bs.length c)) := by
  have hl : b < (x.setCell ⟨b, 0, none⟩ (.slice a r.bs.length c)).heap.size := by rw [World.size_setCell]; exact zb.1
  refine ⟨b, a, c, rfl, rfl, hid hl, hid ⟨hl, fun i hi => ?_⟩, hid ?_, hB.setCell (p := ⟨b, 0, none⟩) hb _⟩
  · match i, hi with
    | 0, _ => exact World.cell?_setCell_same (u := .slice none 0 0) _ _ _ zb.2.1
  · exact D.rd_all (D.rd_keep ((Keeps.refl (fun y => B ≤ y) x).setCell (fun q e => by have q' : B ≤ b := q; omega) _) _ _ o)
theorem ZEndS.lastR {W x : World} {B : Nat} {r : Sb} {ok : Bool} {a : Option Addr} {c : Nat} (hB : Below W.heap.size W x) (o : D.rd (fun y => B ≤ y) x (.slice a r.bs.length c) (Bnd.sd r.bs)) :
    ZEndS W r ok (.pointer (some ⟨x.heap.size, 0, none⟩)) (.bool ok) (x.alloc (.cells #[.slice a r.bs.length c] 40)) :=
  ⟨x.heap.size, a, c, rfl, rfl, hid (by rw [World.size_alloc]; exact Nat.le_refl _), hid (Box.new x [.slice a r.bs.length c] _), hid (D.rd_keep (Keeps.all ((Below.refl _ _).alloc (Nat.le_refl _) _)) _ _ (D.rd_all o)), hB.alloc hB.size _⟩
end Go.Proofs.YtglhbaigigdeeaaGreat
