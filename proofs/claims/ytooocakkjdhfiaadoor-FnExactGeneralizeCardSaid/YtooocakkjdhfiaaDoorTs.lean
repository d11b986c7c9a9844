/- The program and the reference measure terms: nodes and depth. -/
import Derived.Test.YtooocakkjdhfiaaDoorRows
import Derived.Test.YtooocakkjdhfiaaDoorTp
import Derived.Test.YtooocakkjdhfiaaDoorReg
import Derived.WalkSpells
import Derived.WalkLawsBesides
namespace Go.Proofs.YtooocakkjdhfiaaDoor
set_option maxRecDepth 100000
open Go.RowKit

/-- the call returns a number that stands for the size of t, up to m -/
def SizeRet (m : Nat) (t : Tm) (w : World) (e : Ending) (w' : World) : Prop := ∃ r : Nat, e = .returned (.int .i64 r) ∧ Upto m t.size r ∧ Below w.heap.size w w'
def ImplSize (t : Tm) : Prop := ∀ (S : Nat → Prop) (c0 c1 : Value) (w : World), Tm.at S w c0 c1 t → t.bulk ≤ 1048576 → Calls Tryd.prog 38 #[.agg #[c0, c1]] w (SizeRet 30 t w)

set_option maxHeartbeats 400000 in
theorem implSize_of (n : ByteArray) (ts : List Tm) (h : ∀ t ∈ ts, ImplSize t) : ImplSize (.node n ts) := by
  intro S c0 c1 w hr hbk
  obtain ⟨rfl, hn, a, cap, rfl⟩ := Tm.at_form hr
  have hs := hr.2
  simp only [Tm.name, Tm.args] at hs hn ⊢
  clear hr
  obtain ⟨a', cap', he, hlen, hcap⟩ := Tm.sd_form hs
  injection he with e0 e1 e2
  subst e0 e2
  clear e1
  unfold big at hlen
  have hbs := Tm.size_bulk (.node n ts)
  have hsd : Hid ((Tm.node n ts).size = 1 + Tm.sizes ts) := by rw [Hid, Tm.size]
  go_enter Tryd.func38, Tryd.ntmps38
  go_wp2_with fail
  go_loopw [3, 9] (fun x i wr => ∃ (k r : Nat), k ≤ ts.length ∧ i = .int .i64 k ∧ x = .int .i64 r ∧ r ≤ 1048577 ∧ Hid (Upto 30 (1 + Tm.sizes (ts.take k)) r) ∧ Below (w.heap.size + 1) (w.alloc (.cells #[.string n, .slice a ts.length cap] 28)) wr) (fun _ i _ => ts.length - (intOf i).toNat)
  case atStart => exact ⟨0, 1, Nat.zero_le _, rfl, rfl, by omega, by simp [Hid, Upto, Tm.sizes], Below.refl _ _⟩
  case round =>
    obtain ⟨k, r, hk, rfl, rfl, hr1, HX, hb⟩ := hrel
    have hbw : Below w.heap.size w wr := ((Below.refl _ _).alloc (Nat.le_refl _) _).trans (hb.mono (by omega))
    have hz := hb.size
    simp only [World.size_alloc] at hz
    have hz0 : w.heap.size < wr.heap.size := by omega
    have e10 : wr.cell? ⟨w.heap.size, 0, none⟩ = some (.string n) := (hb.cell (by simp)).trans (box1 _ _ _ _)
    have e11 : wr.cell? ⟨w.heap.size, 1, none⟩ = some (.slice a ts.length cap) := (hb.cell (by simp)).trans (box1 _ _ _ _)
    by_cases hlt : k < ts.length
    · have hne : ts ≠ [] := by intro e; subst e; simp at hlt
      obtain ⟨b, off, rfl, hS, hbl, hrr⟩ := Tm.sd_get hs hne
      obtain ⟨c0, c1, q0, q1, q2⟩ := hrr k hlt
      obtain ⟨rfl, -, x, xc, rfl⟩ := Tm.at_form q2
      replace q0 := (hbw.cell (p := ⟨b, off + k * 2, none⟩) hbl).trans q0
      replace q1 := (hbw.cell (p := ⟨b, off + k * 2 + 1, none⟩) hbl).trans q1
      replace q2 := Tm.at_keep (Keeps.all hbw) q2
      have hmem := h ts[k] (List.getElem_mem hlt)
      clear hs hrr
      have hst := hid (Tm.sizes_take ts k hlt)
      have hsl := hid (Tm.sizes_le ts (k + 1))
      have hbm : ts[k].bulk ≤ 1048576 := by have := Tm.bulk_mem (List.getElem_mem hlt); rw [Tm.bulk] at hbk; omega
      by_cases h30 : 30 < r
      · have HS : Hid (Upto 30 (Tm.node n ts).size r) := by
          have := HX.out; have := hst.out; have := hsl.out; have := hsd.out
          unfold Hid Upto at *; omega
        have h30' : (30 : Int) < (r : Int) := by omega
        go_wp2_with fail
        go_ret
        exact ⟨r, rfl, HS.out, hbw.trans ((Below.refl _ _).alloc hbw.size _)⟩
      · have h30' : ¬ (30 : Int) < (r : Int) := by omega
        have hq0 := cell_alloc q0
        go_wp2_with fail
        have hbx : Below wr.heap.size wr (wr.alloc (.cells #[.string ts[k].name, .slice x ts[k].args.length xc] 28)) := (Below.refl _ _).alloc (Nat.le_refl _) _
        refine (hmem _ _ _ _ (Tm.at_keep (Keeps.all hbx) q2) hbm).mono ?_
        rintro e w2 ⟨r2, rfl, hu, hb2⟩
        have hb3 := hbx.trans (hb2.mono hbx.size)
        clear hbx hb2
        have HS : Hid (Upto 30 (1 + Tm.sizes (ts.take (k + 1))) (r + r2)) := by
          have := HX.out.add hu; have := hst.out; rw [Hid, this, ← Nat.add_assoc]; assumption
        have hr2 : r2 ≤ 1048577 := by have := hu.2.2; have := Tm.size_bulk ts[k]; omega
        have hr3 : r + r2 ≤ 1048577 := by have := HS.out.2.2; have := hsl.out; have := hsd.out; omega
        clear hu
        go_wp2_with fail
        go_roundw
        case rel => exact ⟨k + 1, r + r2, by omega, by go_num, by go_num, hr3, HS, hb.trans (hb3.mono hz)⟩
        case measure => simp [intOf]; omega
    · obtain rfl : k = ts.length := by omega
      have HS : Hid (Upto 30 (Tm.node n ts).size r) := by rw [Hid, hsd.out]; have := HX.out; rwa [List.take_length] at this
      go_wp2_with fail
      go_ret
      exact ⟨r, rfl, HS.out, hbw⟩
theorem implSize_any (t : Tm) : ImplSize t := Tm.ind (fun n ts h => implSize_of n ts h) t

def DepthIs (f : FuncId) (t : Tm) : Prop := ∀ (S : Nat → Prop) (c0 c1 : Value) (w : World), Tm.at S w c0 c1 t → t.bulk ≤ 1048576 → Calls Tryd.prog f #[.agg #[c0, c1]] w (Gives w (.int .i64 t.depth))

set_option maxHeartbeats 400000 in
theorem implDepth_of (n : ByteArray) (ts : List Tm) (h : ∀ t ∈ ts, DepthIs 39 t) : DepthIs 39 (.node n ts) := by
  intro S c0 c1 w hr hbk
  obtain ⟨rfl, hn, a, cap, rfl⟩ := Tm.at_form hr
  have hs := hr.2
  simp only [Tm.name, Tm.args] at hs hn ⊢
  clear hr
  obtain ⟨a', cap', he, hlen, hcap⟩ := Tm.sd_form hs
  injection he with e0 e1 e2
  subst e0 e2
  clear e1
  unfold big at hlen
  have hsd : Hid ((Tm.node n ts).depth = Tm.depths ts + 1) := by rw [Hid, Tm.depth]
  go_enter Tryd.func39, Tryd.ntmps39
  go_wp2_with fail
  go_loopw [3, 9] (fun x i wr => ∃ (k r : Nat), k ≤ ts.length ∧ i = .int .i64 k ∧ x = .int .i64 r ∧ r ≤ 1048577 ∧ Hid (r = Tm.depths (ts.take k)) ∧ Below (w.heap.size + 1) (w.alloc (.cells #[.string n, .slice a ts.length cap] 28)) wr) (fun _ i _ => ts.length - (intOf i).toNat)
  case atStart => exact ⟨0, 0, Nat.zero_le _, rfl, rfl, by omega, by simp [Hid, Tm.depths], Below.refl _ _⟩
  case round =>
    obtain ⟨k, r, hk, rfl, rfl, hr1, HX, hb⟩ := hrel
    have hbw : Below w.heap.size w wr := ((Below.refl _ _).alloc (Nat.le_refl _) _).trans (hb.mono (by omega))
    have hz := hb.size
    simp only [World.size_alloc] at hz
    have hz0 : w.heap.size < wr.heap.size := by omega
    have e10 : wr.cell? ⟨w.heap.size, 0, none⟩ = some (.string n) := (hb.cell (by simp)).trans (box1 _ _ _ _)
    have e11 : wr.cell? ⟨w.heap.size, 1, none⟩ = some (.slice a ts.length cap) := (hb.cell (by simp)).trans (box1 _ _ _ _)
    by_cases hlt : k < ts.length
    · have hne : ts ≠ [] := by intro e; subst e; simp at hlt
      obtain ⟨b, off, rfl, hS, hbl, hrr⟩ := Tm.sd_get hs hne
      obtain ⟨c0, c1, q0, q1, q2⟩ := hrr k hlt
      obtain ⟨rfl, -, x, xc, rfl⟩ := Tm.at_form q2
      replace q0 := (hbw.cell (p := ⟨b, off + k * 2, none⟩) hbl).trans q0
      replace q1 := (hbw.cell (p := ⟨b, off + k * 2 + 1, none⟩) hbl).trans q1
      replace q2 := Tm.at_keep (Keeps.all hbw) q2
      have hmem := h ts[k] (List.getElem_mem hlt)
      clear hs hrr
      have hst := hid (Tm.depths_take ts k hlt)
      have hbm : ts[k].bulk ≤ 1048576 := by have := Tm.bulk_mem (List.getElem_mem hlt); rw [Tm.bulk] at hbk; omega
      have hdm : ts[k].depth ≤ 1048577 := by have := Tm.size_bulk ts[k]; have := Tm.depth_size ts[k]; omega
      have hq0 := cell_alloc q0
      go_wp2_with fail
      have hbx : Below wr.heap.size wr (wr.alloc (.cells #[.string ts[k].name, .slice x ts[k].args.length xc] 28)) := (Below.refl _ _).alloc (Nat.le_refl _) _
      refine (hmem _ _ _ _ (Tm.at_keep (Keeps.all hbx) q2) hbm).mono ?_
      rintro e w2 ⟨_, rfl, hb2, rfl⟩
      have hb3 := hbx.trans (hb2.mono hbx.size)
      clear hbx hb2
      obtain ⟨r2, HR⟩ : ∃ r2, Hid (ts[k].depth = r2) := ⟨_, hid rfl⟩
      rw [HR.out] at hdm ⊢
      have HS : Hid (max r r2 = Tm.depths (ts.take (k + 1))) := by rw [Hid, hst.out, HR.out, HX.out]
      go_wp2_with fail
      go_roundw
      case rel => exact ⟨k + 1, max r r2, by omega, by go_num, by congr 1; split <;> omega, by omega, HS, hb.trans (hb3.mono hz)⟩
      case measure => simp [intOf]; omega
    · obtain rfl : k = ts.length := by omega
      have HS : Hid (r + 1 = (Tm.node n ts).depth) := by rw [Hid, hsd.out]; have := HX.out; rw [List.take_length] at this; omega
      go_wp2_with fail
      go_ret
      exact Gives.mk (ret_i64 (by rw [← HS.out]; rfl)) hbw
theorem implDepth_any (t : Tm) : DepthIs 39 t := Tm.ind (fun n ts h => implDepth_of n ts h) t

theorem l1Most_any (a b : Nat) (w : World) : Calls Tryd.prog 47 #[.int .i64 a, .int .i64 b] w fun e w' => e = .returned (.int .i64 (max a b : Nat)) ∧ w = w' := by
  by_cases h : (b : Int) < a
  · have H : Hid ((a : Int) = (max a b : Nat)) := by show (_ : Int) = _; omega
    go_enter Tryd.func47, Tryd.ntmps47
    go_wp2
    go_ret
    exact ⟨ret_i64 H.out, rfl⟩
  · have H : Hid ((b : Int) = (max a b : Nat)) := by show (_ : Int) = _; omega
    go_enter Tryd.func47, Tryd.ntmps47
    go_wp2
    go_ret
    exact ⟨ret_i64 H.out, rfl⟩

set_option maxHeartbeats 400000 in
theorem l2Depth_of (n : ByteArray) (ts : List Tm) (h : ∀ t ∈ ts, DepthIs 34 t) : DepthIs 34 (.node n ts) := by
  intro S c0 c1 w hr hbk
  obtain ⟨rfl, hn, a, cap, rfl⟩ := Tm.at_form hr
  have hs := hr.2
  simp only [Tm.name, Tm.args] at hs hn ⊢
  clear hr
  obtain ⟨a', cap', he, hlen, hcap⟩ := Tm.sd_form hs
  injection he with e0 e1 e2
  subst e0 e2
  clear e1
  unfold big at hlen
  have hsd : Hid ((Tm.node n ts).depth = Tm.depths ts + 1) := by rw [Hid, Tm.depth]
  go_enter Tryd.func34, Tryd.ntmps34
  go_wp2_with fail
  go_loopw [3, 4] (fun x i wr => ∃ (k r : Nat), k ≤ ts.length ∧ i = .int .i64 k ∧ x = .int .i64 r ∧ r ≤ 1048577 ∧ Hid (r = Tm.depths (ts.take k)) ∧ Below (w.heap.size + 1) (w.alloc (.cells #[.string n, .slice a ts.length cap] 28)) wr) (fun _ i _ => ts.length - (intOf i).toNat)
  case atStart => exact ⟨0, 0, Nat.zero_le _, rfl, rfl, by omega, by simp [Hid, Tm.depths], Below.refl _ _⟩
  case round =>
    obtain ⟨k, r, hk, rfl, rfl, hr1, HX, hb⟩ := hrel
    have hbw : Below w.heap.size w wr := ((Below.refl _ _).alloc (Nat.le_refl _) _).trans (hb.mono (by omega))
    have hz := hb.size
    simp only [World.size_alloc] at hz
    have hz0 : w.heap.size < wr.heap.size := by omega
    have e10 : wr.cell? ⟨w.heap.size, 0, none⟩ = some (.string n) := (hb.cell (by simp)).trans (box1 _ _ _ _)
    have e11 : wr.cell? ⟨w.heap.size, 1, none⟩ = some (.slice a ts.length cap) := (hb.cell (by simp)).trans (box1 _ _ _ _)
    by_cases hlt : k < ts.length
    · have hne : ts ≠ [] := by intro e; subst e; simp at hlt
      obtain ⟨b, off, rfl, hS, hbl, hrr⟩ := Tm.sd_get hs hne
      obtain ⟨c0, c1, q0, q1, q2⟩ := hrr k hlt
      obtain ⟨rfl, -, x, xc, rfl⟩ := Tm.at_form q2
      replace q0 := (hbw.cell (p := ⟨b, off + k * 2, none⟩) hbl).trans q0
      replace q1 := (hbw.cell (p := ⟨b, off + k * 2 + 1, none⟩) hbl).trans q1
      replace q2 := Tm.at_keep (Keeps.all hbw) q2
      have hmem := h ts[k] (List.getElem_mem hlt)
      clear hs hrr
      have hst := hid (Tm.depths_take ts k hlt)
      have hbm : ts[k].bulk ≤ 1048576 := by have := Tm.bulk_mem (List.getElem_mem hlt); rw [Tm.bulk] at hbk; omega
      have hdm : ts[k].depth ≤ 1048577 := by have := Tm.size_bulk ts[k]; have := Tm.depth_size ts[k]; omega
      go_wp2_with fail
      refine (hmem _ _ _ _ q2 hbm).mono ?_
      rintro e w2 ⟨_, rfl, hb3, rfl⟩
      obtain ⟨r2, HR⟩ : ∃ r2, Hid (ts[k].depth = r2) := ⟨_, hid rfl⟩
      rw [HR.out] at hdm ⊢
      have HS : Hid (max r r2 = Tm.depths (ts.take (k + 1))) := by rw [Hid, hst.out, HR.out, HX.out]
      go_wp2_with fail
      refine (l1Most_any r r2 _).mono ?_
      rintro e w' ⟨rfl, rfl⟩
      obtain ⟨r3, HM⟩ : ∃ r3, Hid (max r r2 = r3) := ⟨_, hid rfl⟩
      have hr3 : r3 ≤ 1048577 := by have := HM.out; omega
      rw [HM.out]
      go_wp2_with fail
      go_roundw
      case rel => exact ⟨k + 1, r3, by omega, by go_num, rfl, hr3, by rw [Hid, ← HM.out]; exact HS.out, hb.trans (hb3.mono hz)⟩
      case measure => simp [intOf]; omega
    · obtain rfl : k = ts.length := by omega
      have HS : Hid (r + 1 = (Tm.node n ts).depth) := by rw [Hid, hsd.out]; have := HX.out; rw [List.take_length] at this; omega
      go_wp2_with fail
      go_ret
      exact Gives.mk (ret_i64 (by rw [← HS.out]; rfl)) hbw
theorem l2Depth_any (t : Tm) : DepthIs 34 t := Tm.ind (fun n ts h => l2Depth_of n ts h) t

def Many (t : Tm) : Prop := ∀ (m : Nat) (S : Nat → Prop) (c0 c1 : Value) (w : World), m ≤ 1048576 → Tm.at S w c0 c1 t → t.bulk ≤ 1048576 → Calls Tryd.prog 33 #[.agg #[c0, c1], .int .i64 m] w (SizeRet m t w)
set_option maxHeartbeats 1000000 in
theorem l2Many_of (n : ByteArray) (ts : List Tm) (h : ∀ t ∈ ts, Many t) : Many (.node n ts) := by
  intro m S c0 c1 w hm hr hbk
  obtain ⟨rfl, hn, a, cap, rfl⟩ := Tm.at_form hr
  have hs := hr.2
  simp only [Tm.name, Tm.args] at hs hn ⊢
  clear hr
  obtain ⟨a', cap', he, hlen, hcap⟩ := Tm.sd_form hs
  injection he with e0 e1 e2
  subst e0 e2
  clear e1
  unfold big at hlen
  have hbs := Tm.size_bulk (.node n ts)
  have hsd : Hid ((Tm.node n ts).size = 1 + Tm.sizes ts) := by rw [Hid, Tm.size]
  go_enter Tryd.func33, Tryd.ntmps33
  go_wp2_with fail
  go_loopw [5, 6] (fun x i wr => ∃ (k r : Nat), k ≤ ts.length ∧ i = .int .i64 k ∧ x = .int .i64 r ∧ r ≤ 1048577 ∧ Hid (Upto m (1 + Tm.sizes (ts.take k)) r) ∧ Below (w.heap.size + 1) (w.alloc (.cells #[.string n, .slice a ts.length cap] 28)) wr) (fun _ i _ => ts.length - (intOf i).toNat)
  case atStart => exact ⟨0, 1, Nat.zero_le _, rfl, rfl, by omega, by simp [Hid, Upto, Tm.sizes], Below.refl _ _⟩
  case round =>
    obtain ⟨k, r, hk, rfl, rfl, hr1, HX, hb⟩ := hrel
    have hbw : Below w.heap.size w wr := ((Below.refl _ _).alloc (Nat.le_refl _) _).trans (hb.mono (by omega))
    have hz := hb.size
    simp only [World.size_alloc] at hz
    have hz0 : w.heap.size < wr.heap.size := by omega
    have e10 : wr.cell? ⟨w.heap.size, 0, none⟩ = some (.string n) := (hb.cell (by simp)).trans (box1 _ _ _ _)
    have e11 : wr.cell? ⟨w.heap.size, 1, none⟩ = some (.slice a ts.length cap) := (hb.cell (by simp)).trans (box1 _ _ _ _)
    by_cases hlt : k < ts.length
    · by_cases hrm : r ≤ m
      · have hne : ts ≠ [] := by intro e; subst e; simp at hlt
        obtain ⟨b, off, rfl, hS, hbl, hrr⟩ := Tm.sd_get hs hne
        obtain ⟨c0, c1, q0, q1, q2⟩ := hrr k hlt
        obtain ⟨rfl, -, x, xc, rfl⟩ := Tm.at_form q2
        replace q0 := (hbw.cell (p := ⟨b, off + k * 2, none⟩) hbl).trans q0
        replace q1 := (hbw.cell (p := ⟨b, off + k * 2 + 1, none⟩) hbl).trans q1
        replace q2 := Tm.at_keep (Keeps.all hbw) q2
        have hmem := h ts[k] (List.getElem_mem hlt)
        clear hs hrr
        have hst := hid (Tm.sizes_take ts k hlt)
        have hsl := hid (Tm.sizes_le ts (k + 1))
        have hbm : ts[k].bulk ≤ 1048576 := by have := Tm.bulk_mem (List.getElem_mem hlt); rw [Tm.bulk] at hbk; omega
        have hrm' : (r : Int) ≤ m := by omega
        go_wp2_with fail
        rw [show ((m : Int) - (r : Int)) = ((m - r : Nat) : Int) by omega]
        refine (hmem (m - r) _ _ _ _ (by omega) q2 hbm).mono ?_
        rintro e w2 ⟨r2, rfl, hu, hb3⟩
        have HS : Hid (Upto m (1 + Tm.sizes (ts.take (k + 1))) (r + r2)) := by
          have := HX.out; have := hst.out; unfold Hid Upto at *; omega
        have hr2 : r2 ≤ 1048577 := by have := hu.2.2; have := Tm.size_bulk ts[k]; omega
        have hr3 : r + r2 ≤ 1048577 := by have := HS.out.2.2; have := hsl.out; have := hsd.out; omega
        clear hu
        go_wp2_with fail
        go_roundw
        case rel => exact ⟨k + 1, r + r2, by omega, by go_num, by go_num, hr3, HS, hb.trans (hb3.mono hz)⟩
        case measure => simp [intOf]; omega
      · have hsl := hid (Tm.sizes_le ts k)
        have HS : Hid (Upto m (Tm.node n ts).size r) := by
          have := HX.out; have := hsl.out; have := hsd.out
          unfold Hid Upto at *; omega
        have hrm' : (m : Int) < r := by omega
        go_wp2_with fail
        go_ret
        exact ⟨r, rfl, HS.out, hbw⟩
    · obtain rfl : k = ts.length := by omega
      have HS : Hid (Upto m (Tm.node n ts).size r) := by rw [Hid, hsd.out]; have := HX.out; rwa [List.take_length] at this
      go_wp2_with fail
      go_ret
      exact ⟨r, rfl, HS.out, hbw⟩
theorem l2Many_any (t : Tm) : Many t := Tm.ind (fun n ts h => l2Many_of n ts h) t
end Go.Proofs.YtooocakkjdhfiaaDoor
