/- Several texts in one file. -/
import Derived.Test.YtglhbaigigdeeaaGreatRows
import Derived.Test.YtglhbaigigdeeaaGreatQ02
import Derived.WalkSpells
import Derived.WalkLawsBesides
import Derived.Test.YtglhbaigigdeeaaGreatQ01
/- The program and the reference measure terms: nodes and depth. -/
namespace Go.Proofs.YtglhbaigigdeeaaGreat
set_option maxRecDepth 100000
open Go.RowKit

/-- the call returns a number that stands for the size of t, up to m -/
def SizeRet (m : Nat) (t : Tm) (w : World) (e : Ending) (w' : World) : Prop := ∃ r : Nat, e = .returned (.int .i64 r) ∧ Upto m t.size r ∧ Below w.heap.size w w'
def ImplSize (t : Tm) : Prop := ∀ (S : Nat → Prop) (c0 c1 : Value) (w : World), Tm.at S w c0 c1 t → t.bulk ≤ 1048576 → Calls Tryz.prog 96 #[.agg #[c0, c1]] w (SizeRet 30 t w)

set_option maxHeartbeats 400000 in
theorem implSize_of (n : ByteArray) (ts : List Tm) (h : ∀ t ∈ ts, ImplSize t) : ImplSize (.node n ts) := by
  intro S c0 c1 w hr hbk
  obtain ⟨rfl, hn, a, cap, rfl⟩ := Tm.at_form hr
  have hs := hr.2
  simp only [Tm.name, Tm.args] at hs hn ⊢
  clear hr
  obtain ⟨a', cap', he, hlen, hcap⟩ := Tm.sd_form hs
  injection he with e0 e1 e2
  subst e0 e2
  clear e1
  unfold big at hlen
  have hbs := Tm.size_bulk (.node n ts)
  have hsd : Hid ((Tm.node n ts).size = 1 + Tm.sizes ts) := by rw [Hid, Tm.size]
  go_enter Tryz.func96, Tryz.ntmps96
  go_wp2_with fail
  go_loopw [3, 9] (fun x i wr => ∃ (k r : Nat), k ≤ ts.length ∧ i = .int .i64 k ∧ x = .int .i64 r ∧ r ≤ 1048577 ∧ Hid (Upto 30 (1 + Tm.sizes (ts.take k)) r) ∧ Below (w.heap.size + 1) (w.alloc (.cells #[.string n, .slice a ts.length cap] 56)) wr) (fun _ i _ => ts.length - (intOf i).toNat)
  case atStart => exact ⟨0, 1, Nat.zero_le _, rfl, rfl, by omega, by simp [Hid, Upto, Tm.sizes], Below.refl _ _⟩
  case round =>
    obtain ⟨k, r, hk, rfl, rfl, hr1, HX, hb⟩ := hrel
    have hbw : Below w.heap.size w wr := ((Below.refl _ _).alloc (Nat.le_refl _) _).trans (hb.mono (by omega))
    have hz := hb.size
    simp only [World.size_alloc] at hz
    have hz0 : w.heap.size < wr.heap.size := by omega
    have e10 : wr.cell? ⟨w.heap.size, 0, none⟩ = some (.string n) := (hb.cell (by simp)).trans (box1 _ _ _ _)
    have e11 : wr.cell? ⟨w.heap.size, 1, none⟩ = some (.slice a ts.length cap) := (hb.cell (by simp)).trans (box1 _ _ _ _)
    by_cases hlt : k < ts.length
    · have hne : ts ≠ [] := by intro e; subst e; simp at hlt
      obtain ⟨b, off, rfl, hS, hbl, hrr⟩ := Tm.sd_get hs hne
      obtain ⟨c0, c1, q0, q1, q2⟩ := hrr k hlt
      obtain ⟨rfl, -, x, xc, rfl⟩ := Tm.at_form q2
      replace q0 := (hbw.cell (p := ⟨b, off + k * 2, none⟩) hbl).trans q0
      replace q1 := (hbw.cell (p := ⟨b, off + k * 2 + 1, none⟩) hbl).trans q1
      replace q2 := Tm.at_keep (Keeps.all hbw) q2
      have hmem := h ts[k] (List.getElem_mem hlt)
      clear hs hrr
      have hst := hid (Tm.sizes_take ts k hlt)
      have hsl := hid (Tm.sizes_le ts (k + 1))
      have hbm : ts[k].bulk ≤ 1048576 := by have := Tm.bulk_mem (List.getElem_mem hlt); rw [Tm.bulk] at hbk; omega
      by_cases h30 : 30 < r
      · have HS : Hid (Upto 30 (Tm.node n ts).size r) := by
          have := HX.out; have := hst.out; have := hsl.out; have := hsd.out
          unfold Hid Upto at *; omega
        have h30' : (30 : Int) < (r : Int) := by omega
        go_wp2_with fail
        go_ret
        exact ⟨r, rfl, HS.out, hbw.trans ((Below.refl _ _).alloc hbw.size _)⟩
      · have h30' : ¬ (30 : Int) < (r : Int) := by omega
        have hq0 := cell_alloc q0
        go_wp2_with fail
        have hbx : Below wr.heap.size wr (wr.alloc (.cells #[.string ts[k].name, .slice x ts[k].args.length xc] 56)) := (Below.refl _ _).alloc (Nat.le_refl _) _
        refine (hmem _ _ _ _ (Tm.at_keep (Keeps.all hbx) q2) hbm).mono ?_
        rintro e w2 ⟨r2, rfl, hu, hb2⟩
        have hb3 := hbx.trans (hb2.mono hbx.size)
        clear hbx hb2
        have HS : Hid (Upto 30 (1 + Tm.sizes (ts.take (k + 1))) (r + r2)) := by
          have := HX.out.add hu; have := hst.out; rw [Hid, this, ← Nat.add_assoc]; assumption
        have hr2 : r2 ≤ 1048577 := by have := hu.2.2; have := Tm.size_bulk ts[k]; omega
        have hr3 : r + r2 ≤ 1048577 := by have := HS.out.2.2; have := hsl.out; have := hsd.out; omega
        clear hu
        go_wp2_with fail
        go_roundw
        case rel => exact ⟨k + 1, r + r2, by omega, by go_num, by go_num, hr3, HS, hb.trans (hb3.mono hz)⟩
        case measure => simp [intOf]; omega
    · obtain rfl : k = ts.length := by omega
      have HS : Hid (Upto 30 (Tm.node n ts).size r) := by rw [Hid, hsd.out]; have := HX.out; rwa [List.take_length] at this
      go_wp2_with fail
      go_ret
      exact ⟨r, rfl, HS.out, hbw⟩
theorem implSize_any (t : Tm) : ImplSize t := Tm.ind (fun n ts h => implSize_of n ts h) t

def DepthIs (f : FuncId) (t : Tm) : Prop := ∀ (S : Nat → Prop) (c0 c1 : Value) (w : World), Tm.at S w c0 c1 t → t.bulk ≤ 1048576 → Calls Tryz.prog f #[.agg #[c0, c1]] w (Gives w (.int .i64 t.depth))

set_option maxHeartbeats 400000 in
theorem implDepth_of (n : ByteArray) (ts : List Tm) (h : ∀ t ∈ ts, DepthIs 97 t) : DepthIs 97 (.node n ts) := by
  intro S c0 c1 w hr hbk
  obtain ⟨rfl, hn, a, cap, rfl⟩ := Tm.at_form hr
  have hs := hr.2
  simp only [Tm.name, Tm.args] at hs hn ⊢
  clear hr
  obtain ⟨a', cap', he, hlen, hcap⟩ := Tm.sd_form hs
  injection he with e0 e1 e2
  subst e0 e2
  clear e1
  unfold big at hlen
  have hsd : Hid ((Tm.node n ts).depth = Tm.depths ts + 1) := by rw [Hid, Tm.depth]
  go_enter Tryz.func97, Tryz.ntmps97
  go_wp2_with fail
  go_loopw [3, 9] (fun x i wr => ∃ (k r : Nat), k ≤ ts.length ∧ i = .int .i64 k ∧ x = .int .i64 r ∧ r ≤ 1048577 ∧ Hid (r = Tm.depths (ts.take k)) ∧ Below (w.heap.size + 1) (w.alloc (.cells #[.string n, .slice a ts.length cap] 56)) wr) (fun _ i _ => ts.length - (intOf i).toNat)
  case atStart => exact ⟨0, 0, Nat.zero_le _, rfl, rfl, by omega, by simp [Hid, Tm.depths], Below.refl _ _⟩
  case round =>
    obtain ⟨k, r, hk, rfl, rfl, hr1, HX, hb⟩ := hrel
    have hbw : Below w.heap.size w wr := ((Below.refl _ _).alloc (Nat.le_refl _) _).trans (hb.mono (by omega))
    have hz := hb.size
    simp only [World.size_alloc] at hz
    have hz0 : w.heap.size < wr.heap.size := by omega
    have e10 : wr.cell? ⟨w.heap.size, 0, none⟩ = some (.string n) := (hb.cell (by simp)).trans (box1 _ _ _ _)
    have e11 : wr.cell? ⟨w.heap.size, 1, none⟩ = some (.slice a ts.length cap) := (hb.cell (by simp)).trans (box1 _ _ _ _)
    by_cases hlt : k < ts.length
    · have hne : ts ≠ [] := by intro e; subst e; simp at hlt
      obtain ⟨b, off, rfl, hS, hbl, hrr⟩ := Tm.sd_get hs hne
      obtain ⟨c0, c1, q0, q1, q2⟩ := hrr k hlt
      obtain ⟨rfl, -, x, xc, rfl⟩ := Tm.at_form q2
      replace q0 := (hbw.cell (p := ⟨b, off + k * 2, none⟩) hbl).trans q0
      replace q1 := (hbw.cell (p := ⟨b, off + k * 2 + 1, none⟩) hbl).trans q1
      replace q2 := Tm.at_keep (Keeps.all hbw) q2
      have hmem := h ts[k] (List.getElem_mem hlt)
      clear hs hrr
      have hst := hid (Tm.depths_take ts k hlt)
      have hbm : ts[k].bulk ≤ 1048576 := by have := Tm.bulk_mem (List.getElem_mem hlt); rw [Tm.bulk] at hbk; omega
      have hdm : ts[k].depth ≤ 1048577 := by have := Tm.size_bulk ts[k]; have := Tm.depth_size ts[k]; omega
      have hq0 := cell_alloc q0
      go_wp2_with fail
      have hbx : Below wr.heap.size wr (wr.alloc (.cells #[.string ts[k].name, .slice x ts[k].args.length xc] 56)) := (Below.refl _ _).alloc (Nat.le_refl _) _
      refine (hmem _ _ _ _ (Tm.at_keep (Keeps.all hbx) q2) hbm).mono ?_
      rintro e w2 ⟨_, rfl, hb2, rfl⟩
      have hb3 := hbx.trans (hb2.mono hbx.size)
      clear hbx hb2
      obtain ⟨r2, HR⟩ : ∃ r2, Hid (ts[k].depth = r2) := ⟨_, hid rfl⟩
      rw [HR.out] at hdm ⊢
      have HS : Hid (max r r2 = Tm.depths (ts.take (k + 1))) := by rw [Hid, hst.out, HR.out, HX.out]
      go_wp2_with fail
      go_roundw
      case rel => exact ⟨k + 1, max r r2, by omega, by go_num, by congr 1; split <;> omega, by omega, HS, hb.trans (hb3.mono hz)⟩
      case measure => simp [intOf]; omega
    · obtain rfl : k = ts.length := by omega
      have HS : Hid (r + 1 = (Tm.node n ts).depth) := by rw [Hid, hsd.out]; have := HX.out; rw [List.take_length] at this; omega
      go_wp2_with fail
      go_ret
      exact Gives.mk (ret_i64 (by rw [← HS.out]; rfl)) hbw
theorem implDepth_any (t : Tm) : DepthIs 97 t := Tm.ind (fun n ts h => implDepth_of n ts h) t

theorem l1Most_any (a b : Nat) (w : World) : Calls Tryz.prog 94 #[.int .i64 a, .int .i64 b] w fun e w' => e = .returned (.int .i64 (max a b : Nat)) ∧ w = w' := by
  by_cases h : (b : Int) < a
  · have H : Hid ((a : Int) = (max a b : Nat)) := by show (_ : Int) = _; omega
    go_enter Tryz.func94, Tryz.ntmps94
    go_wp2
    go_ret
    exact ⟨ret_i64 H.out, rfl⟩
  · have H : Hid ((b : Int) = (max a b : Nat)) := by show (_ : Int) = _; omega
    go_enter Tryz.func94, Tryz.ntmps94
    go_wp2
    go_ret
    exact ⟨ret_i64 H.out, rfl⟩

set_option maxHeartbeats 400000 in
theorem l2Depth_of (n : ByteArray) (ts : List Tm) (h : ∀ t ∈ ts, DepthIs 68 t) : DepthIs 68 (.node n ts) := by
  intro S c0 c1 w hr hbk
  obtain ⟨rfl, hn, a, cap, rfl⟩ := Tm.at_form hr
  have hs := hr.2
  simp only [Tm.name, Tm.args] at hs hn ⊢
  clear hr
  obtain ⟨a', cap', he, hlen, hcap⟩ := Tm.sd_form hs
  injection he with e0 e1 e2
  subst e0 e2
  clear e1
  unfold big at hlen
  have hsd : Hid ((Tm.node n ts).depth = Tm.depths ts + 1) := by rw [Hid, Tm.depth]
  go_enter Tryz.func68, Tryz.ntmps68
  go_wp2_with fail
  go_loopw [3, 4] (fun x i wr => ∃ (k r : Nat), k ≤ ts.length ∧ i = .int .i64 k ∧ x = .int .i64 r ∧ r ≤ 1048577 ∧ Hid (r = Tm.depths (ts.take k)) ∧ Below (w.heap.size + 1) (w.alloc (.cells #[.string n, .slice a ts.length cap] 56)) wr) (fun _ i _ => ts.length - (intOf i).toNat)
  case atStart => exact ⟨0, 0, Nat.zero_le _, rfl, rfl, by omega, by simp [Hid, Tm.depths], Below.refl _ _⟩
  case round =>
    obtain ⟨k, r, hk, rfl, rfl, hr1, HX, hb⟩ := hrel
    have hbw : Below w.heap.size w wr := ((Below.refl _ _).alloc (Nat.le_refl _) _).trans (hb.mono (by omega))
    have hz := hb.size
    simp only [World.size_alloc] at hz
    have hz0 : w.heap.size < wr.heap.size := by omega
    have e10 : wr.cell? ⟨w.heap.size, 0, none⟩ = some (.string n) := (hb.cell (by simp)).trans (box1 _ _ _ _)
    have e11 : wr.cell? ⟨w.heap.size, 1, none⟩ = some (.slice a ts.length cap) := (hb.cell (by simp)).trans (box1 _ _ _ _)
    by_cases hlt : k < ts.length
    · have hne : ts ≠ [] := by intro e; subst e; simp at hlt
      obtain ⟨b, off, rfl, hS, hbl, hrr⟩ := Tm.sd_get hs hne
      obtain ⟨c0, c1, q0, q1, q2⟩ := hrr k hlt
      obtain ⟨rfl, -, x, xc, rfl⟩ := Tm.at_form q2
      replace q0 := (hbw.cell (p := ⟨b, off + k * 2, none⟩) hbl).trans q0
      replace q1 := (hbw.cell (p := ⟨b, off + k * 2 + 1, none⟩) hbl).trans q1
      replace q2 := Tm.at_keep (Keeps.all hbw) q2
      have hmem := h ts[k] (List.getElem_mem hlt)
      clear hs hrr
      have hst := hid (Tm.depths_take ts k hlt)
      have hbm : ts[k].bulk ≤ 1048576 := by have := Tm.bulk_mem (List.getElem_mem hlt); rw [Tm.bulk] at hbk; omega
      have hdm : ts[k].depth ≤ 1048577 := by have := Tm.size_bulk ts[k]; have := Tm.depth_size ts[k]; omega
      go_wp2_with fail
      refine (hmem _ _ _ _ q2 hbm).mono ?_
      rintro e w2 ⟨_, rfl, hb3, rfl⟩
      obtain ⟨r2, HR⟩ : ∃ r2, Hid (ts[k].depth = r2) := ⟨_, hid rfl⟩
      rw [HR.out] at hdm ⊢
      have HS : Hid (max r r2 = Tm.depths (ts.take (k + 1))) := by rw [Hid, hst.out, HR.out, HX.out]
      go_wp2_with fail
      refine (l1Most_any r r2 _).mono ?_
      rintro e w' ⟨rfl, rfl⟩
      obtain ⟨r3, HM⟩ : ∃ r3, Hid (max r r2 = r3) := ⟨_, hid rfl⟩
      have hr3 : r3 ≤ 1048577 := by have := HM.out; omega
      rw [HM.out]
      go_wp2_with fail
      go_roundw
      case rel => exact ⟨k + 1, r3, by omega, by go_num, rfl, hr3, by rw [Hid, ← HM.out]; exact HS.out, hb.trans (hb3.mono hz)⟩
      case measure => simp [intOf]; omega
    · obtain rfl : k = ts.length := by omega
      have HS : Hid (r + 1 = (Tm.node n ts).depth) := by rw [Hid, hsd.out]; have := HX.out; rw [List.take_length] at this; omega
      go_wp2_with fail
      go_ret
      exact Gives.mk (ret_i64 (by rw [← HS.out]; rfl)) hbw
theorem l2Depth_any (t : Tm) : DepthIs 68 t := Tm.ind (fun n ts h => l2Depth_of n ts h) t

def Many (t : Tm) : Prop := ∀ (m : Nat) (S : Nat → Prop) (c0 c1 : Value) (w : World), m ≤ 1048576 → Tm.at S w c0 c1 t → t.bulk ≤ 1048576 → Calls Tryz.prog 67 #[.agg #[c0, c1], .int .i64 m] w (SizeRet m t w)
set_option maxHeartbeats 1000000 in
theorem l2Many_of (n : ByteArray) (ts : List Tm) (h : ∀ t ∈ ts, Many t) : Many (.node n ts) := by
  intro m S c0 c1 w hm hr hbk
  obtain ⟨rfl, hn, a, cap, rfl⟩ := Tm.at_form hr
  have hs := hr.2
  simp only [Tm.name, Tm.args] at hs hn ⊢
  clear hr
  obtain ⟨a', cap', he, hlen, hcap⟩ := Tm.sd_form hs
  injection he with e0 e1 e2
  subst e0 e2
  clear e1
  unfold big at hlen
  have hbs := Tm.size_bulk (.node n ts)
  have hsd : Hid ((Tm.node n ts).size = 1 + Tm.sizes ts) := by rw [Hid, Tm.size]
  go_enter Tryz.func67, Tryz.ntmps67
  go_wp2_with fail
  go_loopw [5, 6] (fun x i wr => ∃ (k r : Nat), k ≤ ts.length ∧ i = .int .i64 k ∧ x = .int .i64 r ∧ r ≤ 1048577 ∧ Hid (Upto m (1 + Tm.sizes (ts.take k)) r) ∧ Below (w.heap.size + 1) (w.alloc (.cells #[.string n, .slice a ts.length cap] 56)) wr) (fun _ i _ => ts.length - (intOf i).toNat)
  case atStart => exact ⟨0, 1, Nat.zero_le _, rfl, rfl, by omega, by simp [Hid, Upto, Tm.sizes], Below.refl _ _⟩
  case round =>
    obtain ⟨k, r, hk, rfl, rfl, hr1, HX, hb⟩ := hrel
    have hbw : Below w.heap.size w wr := ((Below.refl _ _).alloc (Nat.le_refl _) _).trans (hb.mono (by omega))
    have hz := hb.size
    simp only [World.size_alloc] at hz
    have hz0 : w.heap.size < wr.heap.size := by omega
    have e10 : wr.cell? ⟨w.heap.size, 0, none⟩ = some (.string n) := (hb.cell (by simp)).trans (box1 _ _ _ _)
    have e11 : wr.cell? ⟨w.heap.size, 1, none⟩ = some (.slice a ts.length cap) := (hb.cell (by simp)).trans (box1 _ _ _ _)
    by_cases hlt : k < ts.length
    · by_cases hrm : r ≤ m
      · have hne : ts ≠ [] := by intro e; subst e; simp at hlt
        obtain ⟨b, off, rfl, hS, hbl, hrr⟩ := Tm.sd_get hs hne
        obtain ⟨c0, c1, q0, q1, q2⟩ := hrr k hlt
        obtain ⟨rfl, -, x, xc, rfl⟩ := Tm.at_form q2
        replace q0 := (hbw.cell (p := ⟨b, off + k * 2, none⟩) hbl).trans q0
        replace q1 := (hbw.cell (p := ⟨b, off + k * 2 + 1, none⟩) hbl).trans q1
        replace q2 := Tm.at_keep (Keeps.all hbw) q2
        have hmem := h ts[k] (List.getElem_mem hlt)
        clear hs hrr
        have hst := hid (Tm.sizes_take ts k hlt)
        have hsl := hid (Tm.sizes_le ts (k + 1))
        have hbm : ts[k].bulk ≤ 1048576 := by have := Tm.bulk_mem (List.getElem_mem hlt); rw [Tm.bulk] at hbk; omega
        have hrm' : (r : Int) ≤ m := by omega
        go_wp2_with fail
        rw [show ((m : Int) - (r : Int)) = ((m - r : Nat) : Int) by omega]
        refine (hmem (m - r) _ _ _ _ (by omega) q2 hbm).mono ?_
        rintro e w2 ⟨r2, rfl, hu, hb3⟩
        have HS : Hid (Upto m (1 + Tm.sizes (ts.take (k + 1))) (r + r2)) := by
          have := HX.out; have := hst.out; unfold Hid Upto at *; omega
        have hr2 : r2 ≤ 1048577 := by have := hu.2.2; have := Tm.size_bulk ts[k]; omega
        have hr3 : r + r2 ≤ 1048577 := by have := HS.out.2.2; have := hsl.out; have := hsd.out; omega
        clear hu
        go_wp2_with fail
        go_roundw
        case rel => exact ⟨k + 1, r + r2, by omega, by go_num, by go_num, hr3, HS, hb.trans (hb3.mono hz)⟩
        case measure => simp [intOf]; omega
      · have hsl := hid (Tm.sizes_le ts k)
        have HS : Hid (Upto m (Tm.node n ts).size r) := by
          have := HX.out; have := hsl.out; have := hsd.out
          unfold Hid Upto at *; omega
        have hrm' : (m : Int) < r := by omega
        go_wp2_with fail
        go_ret
        exact ⟨r, rfl, HS.out, hbw⟩
    · obtain rfl : k = ts.length := by omega
      have HS : Hid (Upto m (Tm.node n ts).size r) := by rw [Hid, hsd.out]; have := HX.out; rwa [List.take_length] at this
      go_wp2_with fail
      go_ret
      exact ⟨r, rfl, HS.out, hbw⟩
theorem l2Many_any (t : Tm) : Many t := Tm.ind (fun n ts h => l2Many_of n ts h) t
end Go.Proofs.YtglhbaigigdeeaaGreat
/- A number lies between two: the program's and the reference's. -/
namespace Go.Proofs.YtglhbaigigdeeaaGreat
set_option maxRecDepth 100000
open Go.RowKit

/-- lo ≤ n ≤ hi -/
def inB (n lo hi : Int) : Bool := decide (lo ≤ n) && decide (n ≤ hi)
theorem inB_yes {n lo hi : Int} (h : lo ≤ n) (k : n ≤ hi) : inB n lo hi = true := by simp [inB, h, k]
theorem inB_no {n lo hi : Int} (h : n < lo ∨ hi < n) : inB n lo hi = false := by
  rw [Bool.eq_false_iff]; intro e; simp [inB] at e; omega
theorem within_any (n lo hi : Int) (w : World) : Calls Tryz.prog 103 #[.int .i64 n, .int .i64 lo, .int .i64 hi] w fun e w' => e = .returned (.bool (inB n lo hi)) ∧ w = w' := by
  have H : Hid (inB n lo hi = (decide (lo ≤ n) && decide (n ≤ hi))) := rfl
  by_cases h1 : lo ≤ n
  all_goals
    go_enter Tryz.func103, Tryz.ntmps103
    go_wp2
    go_ret
    exact ⟨ret_bool (by rw [H.out, Bool.eq_iff_iff]; simp; omega), rfl⟩
theorem l1In_any (n lo hi : Int) (w : World) : Calls Tryz.prog 69 #[.int .i64 n, .int .i64 lo, .int .i64 hi] w fun e w' => e = .returned (.bool (inB n lo hi)) ∧ w = w' := by
  have H : Hid (inB n lo hi = (decide (lo ≤ n) && decide (n ≤ hi))) := rfl
  by_cases h1 : lo ≤ n
  all_goals
    go_enter Tryz.func69, Tryz.ntmps69
    go_wp2
    go_ret
    exact ⟨ret_bool (by rw [H.out, Bool.eq_iff_iff]; simp; omega), rfl⟩
end Go.Proofs.YtglhbaigigdeeaaGreat
/- Lists of strings as data. -/
namespace Go.Proofs.YtglhbaigigdeeaaGreat
set_option maxRecDepth 100000
open Go.RowKit

/-- a string's cell -/
def strE (s : ByteArray) : List D := [.str s]
theorem strE_wide : Wide strE 1 := fun _ => rfl
theorem strs_get {S : Nat → Prop} {w : World} {a : Option Addr} {n cap : Nat} {ss : List ByteArray} (h : D.rd S w (.slice a n cap) (slOf strE ss)) (hne : ss ≠ []) : ∃ b off, a = some ⟨b, off, none⟩ ∧ S b ∧ b < w.heap.size ∧
    ∀ k (hk : k < ss.length), w.cell? ⟨b, off + k, none⟩ = some (.string ss[k]) ∧ ss[k].size ≤ maxLen := by
  obtain ⟨b, off, h0, h1, h2, h3⟩ := slOf_get strE_wide (by decide) h hne
  refine ⟨b, off, h0, h1, h2, fun k hk => ?_⟩
  obtain ⟨v, q0, q1⟩ := h3 k hk 0 (.str ss[k]) rfl
  rw [D.rd] at q1
  obtain ⟨rfl, q2⟩ := q1
  rw [Nat.mul_one, Nat.add_zero] at q0
  exact ⟨q0, q2⟩
theorem slOf_strs {S : Nat → Prop} {w : World} {b : Nat} {ss : List ByteArray} (hS : S b) (hb : b < w.heap.size) (hl : ss.length ≤ big) (h : ∀ i (hi : i < ss.length), w.cell? ⟨b, i, none⟩ = some (.string ss[i]) ∧ ss[i].size ≤ maxLen) {cap : Nat} (hc : ss.length ≤ cap) :
    D.rd S w (.slice (some ⟨b, 0, none⟩) ss.length cap) (slOf strE ss) := by
  rw [slOf, D.rd]
  refine ⟨_, _, rfl, hl, hc, fun hn => flat_ne strE_wide (by decide) (by intro e; subst e; simp at hn), fun hne => ⟨b, 0, rfl, hS, hb, (D.rds_iff _ _).2 fun i hi => ?_⟩⟩
  have hil : i < ss.length := by rw [flat_length strE_wide] at hi; omega
  obtain ⟨q0, q1⟩ := h i hil
  have hg := flat_get strE_wide ss i 0 hil (by decide)
  rw [Nat.mul_one, Nat.add_zero, List.getElem?_eq_getElem hi] at hg
  have : (ss.flatMap strE)[i] = .str ss[i] := by simpa [strE] using hg
  rw [this, Nat.zero_add]
  exact ⟨_, q0, D.rd_str q1⟩
end Go.Proofs.YtglhbaigigdeeaaGreat
/- The program and the reference tell names of variables and of symbols. -/
namespace Go.Proofs.YtglhbaigigdeeaaGreat
set_option maxRecDepth 100000
open Go.RowKit

theorem isLower_any (n : Nat) (w : World) : Calls Tryz.prog 101 #[.int .u8 n] w fun e w' => e = .returned (.bool (lowB n)) ∧ w = w' := by
  have H : Hid (lowB n = (decide (97 ≤ n) && decide (n ≤ 122))) := rfl
  by_cases h1 : 97 ≤ n
  all_goals
    go_enter Tryz.func101, Tryz.ntmps101
    go_wp2
    go_ret
    exact ⟨ret_bool (by rw [H.out, Bool.eq_iff_iff]; simp; omega), rfl⟩
theorem isDigit_any (n : Nat) (w : World) : Calls Tryz.prog 102 #[.int .u8 n] w fun e w' => e = .returned (.bool (digB n)) ∧ w = w' := by
  have H : Hid (digB n = (decide (48 ≤ n) && decide (n ≤ 57))) := rfl
  by_cases h1 : 48 ≤ n
  all_goals
    go_enter Tryz.func102, Tryz.ntmps102
    go_wp2
    go_ret
    exact ⟨ret_bool (by rw [H.out, Bool.eq_iff_iff]; simp; omega), rfl⟩
theorem isUpper_any (n : Nat) (w : World) : Calls Tryz.prog 124 #[.int .u8 n] w fun e w' => e = .returned (.bool (upB n)) ∧ w = w' := by
  have H : Hid (upB n = (decide (65 ≤ n) && decide (n ≤ 90))) := rfl
  by_cases h1 : 65 ≤ n
  all_goals
    go_enter Tryz.func124, Tryz.ntmps124
    go_wp2
    go_ret
    exact ⟨ret_bool (by rw [H.out, Bool.eq_iff_iff]; simp; omega), rfl⟩
theorem l2Small_any (n : Nat) (w : World) : Calls Tryz.prog 70 #[.int .u8 n] w fun e w' => e = .returned (.bool (lowB n || digB n)) ∧ w = w' := by
  have H : Hid ((lowB n || digB n) = ((decide (97 ≤ n) && decide (n ≤ 122)) || (decide (48 ≤ n) && decide (n ≤ 57)))) := rfl
  by_cases h1 : 97 ≤ n
  · by_cases h2 : n ≤ 122
    all_goals
      by_cases h3 : 48 ≤ n
      all_goals
        go_enter Tryz.func70, Tryz.ntmps70
        go_wp2
        all_goals
          go_ret
          exact ⟨ret_bool (by rw [H.out, Bool.eq_iff_iff]; simp; omega), rfl⟩
  · by_cases h3 : 48 ≤ n
    all_goals
      go_enter Tryz.func70, Tryz.ntmps70
      go_wp2
      go_ret
      exact ⟨ret_bool (by rw [H.out, Bool.eq_iff_iff]; simp; omega), rfl⟩
set_option maxHeartbeats 1000000 in
theorem isVariable_any (s : ByteArray) (hs : s.size ≤ maxLen) (w : World) : Calls Tryz.prog 98 #[.string s] w fun e w' => e = .returned (.bool (varName s)) ∧ w = w' := by
  unfold maxLen at hs
  have HV : Hid (varName s = (allCh varCh s s.size && decide (1 ≤ s.size) && decide (s.size ≤ 4))) := rfl
  go_enter Tryz.func98, Tryz.ntmps98
  go_wp2_with fail
  go_loop [6] (fun i => ∃ k : Nat, k ≤ s.size ∧ i = .int .i64 k ∧ Hid (allCh varCh s k = true)) (fun i => s.size - (intOf i).toNat)
  case atStart => exact ⟨0, Nat.zero_le _, rfl, allCh_zero _ _⟩
  case round =>
    obtain ⟨k, hk, rfl, HX⟩ := hrel
    by_cases hlt : k < s.size
    · have hbe := byteAt_eq hlt
      have hstep := hid (allCh_succ varCh s k)
      have hlt0 : (k : Int) < s.size := by omega
      by_cases h0 : k = 0
      · subst h0
        by_cases HU : upB (byteAt s 0) = true
        · have HS : Hid (allCh varCh s (0 + 1) = true) := by rw [Hid, hstep.out, HX.out]; simp [varCh, HU]
          go_wp2_with (first | (go_at_call 124; refine (isUpper_any _ _).mono ?_; rintro e w' ⟨rfl, rfl⟩; rw [HU]))
          go_round
          case rel => exact ⟨0 + 1, by omega, by go_num, HS⟩
          case measure => simp [intOf]; omega
        · replace HU : upB (byteAt s 0) = false := by simpa using HU
          have HS : Hid (varName s = false) := by rw [Hid, HV.out, allCh_no hlt (by simp [varCh, HU])]; rfl
          go_wp2_with (first | (go_at_call 124; refine (isUpper_any _ _).mono ?_; rintro e w' ⟨rfl, rfl⟩; rw [HU]))
          go_ret
          exact ⟨ret_bool HS.out.symm, rfl⟩
      · have hk0 : ((k : Int) == 0) = false := by rw [beq_eq_false_iff_ne]; omega
        have hk1 : 0 < (k : Int) := by omega
        by_cases HL : lowB (byteAt s k) = true
        · have HS : Hid (allCh varCh s (k + 1) = true) := by rw [Hid, hstep.out, HX.out]; simp [varCh, HL, h0]
          go_wp2_with (first | (go_at_call 101; refine (isLower_any _ _).mono ?_; rintro e w' ⟨rfl, rfl⟩; rw [HL]))
          go_round
          case rel => exact ⟨k + 1, by omega, by go_num, HS⟩
          case measure => simp [intOf]; omega
        · replace HL : lowB (byteAt s k) = false := by simpa using HL
          by_cases HD : digB (byteAt s k) = true
          · have HS : Hid (allCh varCh s (k + 1) = true) := by rw [Hid, hstep.out, HX.out]; simp [varCh, HD, h0]
            go_wp2_with (first | (go_at_call 101; refine (isLower_any _ _).mono ?_; rintro e w' ⟨rfl, rfl⟩; rw [HL]) | (go_at_call 102; refine (isDigit_any _ _).mono ?_; rintro e w' ⟨rfl, rfl⟩; rw [HD]))
            go_round
            case rel => exact ⟨k + 1, by omega, by go_num, HS⟩
            case measure => simp [intOf]; omega
          · replace HD : digB (byteAt s k) = false := by simpa using HD
            have HS : Hid (varName s = false) := by rw [Hid, HV.out, allCh_no hlt (by simp [varCh, h0, HL, HD])]; rfl
            go_wp2_with (first | (go_at_call 101; refine (isLower_any _ _).mono ?_; rintro e w' ⟨rfl, rfl⟩; rw [HL]) | (go_at_call 102; refine (isDigit_any _ _).mono ?_; rintro e w' ⟨rfl, rfl⟩; rw [HD]))
            go_ret
            exact ⟨ret_bool HS.out.symm, rfl⟩
    · obtain rfl : k = s.size := by omega
      have HS : Hid (varName s = inB s.size 1 4) := by rw [Hid, HV.out, HX.out, Bool.eq_iff_iff]; simp [inB]; omega
      go_wp2_with (first | (go_at_call 103; refine (within_any _ _ _ _).mono ?_; rintro e w' ⟨rfl, rfl⟩))
      go_ret
      exact ⟨ret_bool HS.out.symm, rfl⟩

/-- r tells whether s is in the list -/
def Found (ss : List ByteArray) (s : ByteArray) (w : World) (e : Ending) (w' : World) : Prop := ∃ r : Int, e = .returned (.int .i64 r) ∧ ((0 ≤ r ∧ hasStr ss s = true) ∨ (r < 0 ∧ hasStr ss s = false)) ∧ w = w'

set_option maxHeartbeats 400000 in
theorem indexStr_any {S : Nat → Prop} {v : Value} {ss : List ByteArray} (s : ByteArray) {w : World} (h : D.rd S w v (slOf strE ss)) : Calls Tryz.prog 126 #[v, .string s] w (Found ss s w) := by
  obtain ⟨a, cap, rfl, hlen, hcap⟩ := slOf_form h
  unfold big at hlen
  go_enter Tryz.func126, Tryz.ntmps126
  go_wp2_with fail
  go_loop [8] (fun i => ∃ k : Nat, k ≤ ss.length ∧ i = .int .i64 k ∧ Hid (s ∉ ss.take k)) (fun i => ss.length - (intOf i).toNat)
  case atStart => exact ⟨0, Nat.zero_le _, rfl, by simp [Hid]⟩
  case round =>
    obtain ⟨k, hk, rfl, HX⟩ := hrel
    by_cases hlt : k < ss.length
    · have hne : ss ≠ [] := by intro e; subst e; simp at hlt
      obtain ⟨b, off, rfl, hS, hbl, hrr⟩ := strs_get h hne
      obtain ⟨q0, q1⟩ := hrr k hlt
      clear h hrr
      by_cases he : s = ss[k]
      · have hq : (s.toList == ss[k].toList) = true := by rw [toList_beq]; simpa using he
        have HF : Hid (hasStr ss s = true) := (hasStr_iff _ _).2 (he ▸ List.getElem_mem hlt)
        clear he
        go_wp2_with fail
        go_ret
        exact ⟨k, rfl, .inl ⟨by omega, HF.out⟩, rfl⟩
      · have hq : (s.toList == ss[k].toList) = false := toList_ne he
        have HF : Hid (s ∉ ss.take (k + 1)) := by
          rw [Hid, List.take_succ_eq_append_getElem hlt, List.mem_append]
          rintro (q | q)
          · exact HX.out q
          · exact he (by simpa using q)
        clear he
        go_wp2_with fail
        go_round
        case rel => exact ⟨k + 1, by omega, by go_num, HF⟩
        case measure => simp [intOf]; omega
    · obtain rfl : k = ss.length := by omega
      have HF : Hid (hasStr ss s = false) := by
        rw [Hid, Bool.eq_false_iff, Ne, hasStr_iff]
        have := HX.out
        rwa [List.take_length] at this
      go_wp2_with fail
      go_ret
      exact ⟨-1, rfl, .inr ⟨by omega, HF.out⟩, rfl⟩

set_option maxHeartbeats 400000 in
theorem containsStr_any {S : Nat → Prop} {v : Value} {ss : List ByteArray} (s : ByteArray) {w : World} (h : D.rd S w v (slOf strE ss)) : Calls Tryz.prog 104 #[v, .string s] w fun e w' => e = .returned (.bool (hasStr ss s)) ∧ w = w' := by
  go_enter Tryz.func104, Tryz.ntmps104
  go_wp2_with fail
  refine (indexStr_any s h).mono ?_
  rintro e w' ⟨r, rfl, hr, rfl⟩
  rcases hr with ⟨h0, h1⟩ | ⟨h0, h1⟩
  · have H := hid h1
    clear h1
    go_wp2_with fail
    go_ret
    exact ⟨ret_bool H.out.symm, rfl⟩
  · have H := hid h1
    clear h1
    go_wp2_with fail
    go_ret
    exact ⟨ret_bool (by rw [H.out]; simp; omega), rfl⟩

theorem reserved_any (w : World) : Calls Tryz.prog 105 #[] w (Yields w fun v w' => D.rd (fun _ => True) w' v (slOf strE reservedL)) := by
  go_enter Tryz.func105, Tryz.ntmps105
  go_wp2_with fail
  go_ret
  refine ⟨_, rfl, (Below.refl _ _).alloc (Nat.le_refl _) _, ?_⟩
  refine slOf_strs (ss := reservedL) trivial (by simp) (by decide) (fun i hi => ?_) (by decide)
  rw [box1]
  match i, hi with
  | 0, _ => exact ⟨rfl, by simp [reservedL, ByteArray.size, maxLen]⟩
  | 1, _ => exact ⟨rfl, by simp [reservedL, ByteArray.size, maxLen]⟩
  | 2, _ => exact ⟨rfl, by simp [reservedL, ByteArray.size, maxLen]⟩
  | 3, _ => exact ⟨rfl, by simp [reservedL, ByteArray.size, maxLen]⟩
  | 4, _ => exact ⟨rfl, by simp [reservedL, ByteArray.size, maxLen]⟩
  | 5, _ => exact ⟨rfl, by simp [reservedL, ByteArray.size, maxLen]⟩
  | 6, _ => exact ⟨rfl, by simp [reservedL, ByteArray.size, maxLen]⟩
  | 7, _ => exact ⟨rfl, by simp [reservedL, ByteArray.size, maxLen]⟩

set_option maxHeartbeats 2000000 in
theorem isSymbol_any (s : ByteArray) (hs : s.size ≤ maxLen) (w : World) : Calls Tryz.prog 76 #[.string s] w (Gives w (.bool (symName s))) := by
  unfold maxLen at hs
  have HV : Hid (symName s = (allCh symCh s s.size && decide (1 ≤ s.size) && decide (s.size ≤ 6) && !hasStr reservedL s)) := rfl
  go_enter Tryz.func76, Tryz.ntmps76
  go_wp2_with fail
  go_loop [6] (fun i => ∃ k : Nat, k ≤ s.size ∧ i = .int .i64 k ∧ Hid (allCh symCh s k = true)) (fun i => s.size - (intOf i).toNat)
  case atStart => exact ⟨0, Nat.zero_le _, rfl, allCh_zero _ _⟩
  case round =>
    obtain ⟨k, hk, rfl, HX⟩ := hrel
    by_cases hlt : k < s.size
    · have hbe := byteAt_eq hlt
      have hstep := hid (allCh_succ symCh s k)
      have hlt0 : (k : Int) < s.size := by omega
      by_cases h0 : k = 0
      · subst h0
        by_cases HL : lowB (byteAt s 0) = true
        · have HS : Hid (allCh symCh s (0 + 1) = true) := by rw [Hid, hstep.out, HX.out]; simp [symCh, HL]
          go_wp2_with (first | (go_at_call 101; refine (isLower_any _ _).mono ?_; rintro e w' ⟨rfl, rfl⟩; rw [HL]))
          go_round
          case rel => exact ⟨0 + 1, by omega, by go_num, HS⟩
          case measure => simp [intOf]; omega
        · replace HL : lowB (byteAt s 0) = false := by simpa using HL
          have HS : Hid (symName s = false) := by rw [Hid, HV.out, allCh_no hlt (by simp [symCh, HL])]; rfl
          go_wp2_with (first | (go_at_call 101; refine (isLower_any _ _).mono ?_; rintro e w' ⟨rfl, rfl⟩; rw [HL]))
          go_ret
          exact Gives.mk (ret_bool HS.out.symm) (Below.refl _ _)
      · have hk0 : ((k : Int) == 0) = false := by rw [beq_eq_false_iff_ne]; omega
        by_cases HL : lowB (byteAt s k) = true
        · have HS : Hid (allCh symCh s (k + 1) = true) := by rw [Hid, hstep.out, HX.out]; simp [symCh, HL, h0]
          go_wp2_with (first | (go_at_call 101; refine (isLower_any _ _).mono ?_; rintro e w' ⟨rfl, rfl⟩; rw [HL]))
          go_round
          case rel => exact ⟨k + 1, by omega, by go_num, HS⟩
          case measure => simp [intOf]; omega
        · replace HL : lowB (byteAt s k) = false := by simpa using HL
          by_cases HD : digB (byteAt s k) = true
          · have HS : Hid (allCh symCh s (k + 1) = true) := by rw [Hid, hstep.out, HX.out]; simp [symCh, HD, h0]
            go_wp2_with (first | (go_at_call 101; refine (isLower_any _ _).mono ?_; rintro e w' ⟨rfl, rfl⟩; rw [HL]) | (go_at_call 102; refine (isDigit_any _ _).mono ?_; rintro e w' ⟨rfl, rfl⟩; rw [HD]))
            go_round
            case rel => exact ⟨k + 1, by omega, by go_num, HS⟩
            case measure => simp [intOf]; omega
          · replace HD : digB (byteAt s k) = false := by simpa using HD
            by_cases hu : byteAt s k = 95
            · have HS : Hid (allCh symCh s (k + 1) = true) := by rw [Hid, hstep.out, HX.out]; simp [symCh, hu, h0]
              have hq : ((byteAt s k : Int) != 95) = false := by rw [hu]; rfl
              have hq' : ((byteAt s k : Int) == 95) = true := by rw [hu]; rfl
              clear hu
              go_wp2_with (first | (go_at_call 101; refine (isLower_any _ _).mono ?_; rintro e w' ⟨rfl, rfl⟩; rw [HL]) | (go_at_call 102; refine (isDigit_any _ _).mono ?_; rintro e w' ⟨rfl, rfl⟩; rw [HD]))
              go_round
              case rel => exact ⟨k + 1, by omega, by go_num, HS⟩
              case measure => simp [intOf]; omega
            · have HS : Hid (symName s = false) := by rw [Hid, HV.out, allCh_no hlt (by simp [symCh, h0, HL, HD, hu])]; rfl
              have hq : ((byteAt s k : Int) != 95) = true := by rw [bne_iff_ne]; omega
              have hq' : ((byteAt s k : Int) == 95) = false := by rw [beq_eq_false_iff_ne]; omega
              clear hu
              go_wp2_with (first | (go_at_call 101; refine (isLower_any _ _).mono ?_; rintro e w' ⟨rfl, rfl⟩; rw [HL]) | (go_at_call 102; refine (isDigit_any _ _).mono ?_; rintro e w' ⟨rfl, rfl⟩; rw [HD]))
              go_ret
              exact Gives.mk (ret_bool HS.out.symm) (Below.refl _ _)
    · obtain rfl : k = s.size := by omega
      by_cases hin : 1 ≤ s.size ∧ s.size ≤ 6
      · have HI := inB_yes (n := s.size) (lo := 1) (hi := 6) (by omega) (by omega)
        have HS : Hid (symName s = !hasStr reservedL s) := by rw [Hid, HV.out, HX.out]; simp [hin]
        go_wp2_with (first | (go_at_call 103; refine (within_any _ _ _ _).mono ?_; rintro e w' ⟨rfl, rfl⟩; rw [HI]))
        refine (reserved_any _).mono ?_
        rintro e w1 ⟨v, rfl, hb, hr⟩
        go_wp2_with fail
        refine (containsStr_any s hr).mono ?_
        rintro e w' ⟨rfl, rfl⟩
        go_wp2_with fail
        go_ret
        exact Gives.mk (ret_bool HS.out.symm) hb
      · have HI := inB_no (n := s.size) (lo := 1) (hi := 6) (by omega)
        have HS : Hid (symName s = false) := by rw [Hid, HV.out, Bool.eq_false_iff]; intro e; simp at e; omega
        go_wp2_with (first | (go_at_call 103; refine (within_any _ _ _ _).mono ?_; rintro e w' ⟨rfl, rfl⟩; rw [HI]))
        go_ret
        exact Gives.mk (ret_bool HS.out.symm) (Below.refl _ _)
end Go.Proofs.YtglhbaigigdeeaaGreat
/- The reference tells names of variables and of symbols. -/
namespace Go.Proofs.YtglhbaigigdeeaaGreat
set_option maxRecDepth 100000
open Go.RowKit

set_option maxHeartbeats 2000000 in
theorem l2Var_any (s : ByteArray) (hs : s.size ≤ maxLen) (w : World) : Calls Tryz.prog 62 #[.string s] w fun e w' => e = .returned (.bool (varName s)) ∧ w = w' := by
  unfold maxLen at hs
  have HV : Hid (varName s = (allCh varCh s s.size && decide (1 ≤ s.size) && decide (s.size ≤ 4))) := rfl
  by_cases hin : 1 ≤ s.size ∧ s.size ≤ 4
  · have HI := inB_yes (n := s.size) (lo := 1) (hi := 4) (by omega) (by omega)
    have h0 : 0 < s.size := by omega
    have h0' : (0 : Int) < s.size := by omega
    have hbe := byteAt_eq h0
    have hlt256 := byteAt_lt s 0
    by_cases hu : 65 ≤ byteAt s 0
    · by_cases hu2 : byteAt s 0 ≤ 90
      · have H0 : Hid (allCh varCh s 1 = true) := by rw [Hid, allCh_succ, allCh_zero]; simp [varCh, upB, hu, hu2]
        have hq1 : ((byteAt s 0 : Int) < 65) = False := by simp; omega
        have hq2 : ¬ ((90 : Int) < (byteAt s 0 : Int)) := by omega
        go_enter Tryz.func62, Tryz.ntmps62
        go_wp2_with (first | (go_at_call 69; refine (l1In_any _ _ _ _).mono ?_; rintro e w' ⟨rfl, rfl⟩; rw [HI]))
        clear hq1 hq2 hbe
        go_loop [3] (fun i => ∃ k : Nat, 1 ≤ k ∧ k ≤ s.size ∧ i = .int .i64 k ∧ Hid (allCh varCh s k = true)) (fun i => s.size - (intOf i).toNat)
        case atStart => exact ⟨1, Nat.le_refl _, h0, rfl, H0⟩
        case round =>
          obtain ⟨k, hk1, hk, rfl, HX⟩ := hrel
          by_cases hlt : k < s.size
          · have hbe := byteAt_eq hlt
            have hstep := hid (allCh_succ varCh s k)
            have hlt0 : (k : Int) < s.size := by omega
            have hk0 : k ≠ 0 := by omega
            by_cases HA : (lowB (byteAt s k) || digB (byteAt s k)) = true
            · have HS : Hid (allCh varCh s (k + 1) = true) := by rw [Hid, hstep.out, HX.out]; simp only [varCh, hk0, if_false, HA]; rfl
              go_wp2_with (first | (go_at_call 70; refine (l2Small_any _ _).mono ?_; rintro e w' ⟨rfl, rfl⟩; rw [HA]))
              go_round
              case rel => exact ⟨k + 1, by omega, by omega, by go_num, HS⟩
              case measure => simp [intOf]; omega
            · replace HA : (lowB (byteAt s k) || digB (byteAt s k)) = false := Bool.eq_false_iff.2 HA
              have HS : Hid (varName s = false) := by rw [Hid, HV.out, allCh_no hlt (by simp only [varCh, hk0, if_false, HA])]; rfl
              go_wp2_with (first | (go_at_call 70; refine (l2Small_any _ _).mono ?_; rintro e w' ⟨rfl, rfl⟩; rw [HA]))
              go_ret
              exact ⟨ret_bool HS.out.symm, rfl⟩
          · obtain rfl : k = s.size := by omega
            have HS : Hid (varName s = true) := by rw [Hid, HV.out, HX.out]; simp [hin]
            go_wp2_with fail
            go_ret
            exact ⟨ret_bool HS.out.symm, rfl⟩
      · have HS : Hid (varName s = false) := by rw [Hid, HV.out, allCh_no h0 (by simp [varCh, upB, hu2])]; rfl
        go_enter Tryz.func62, Tryz.ntmps62
        go_wp2_with (first | (go_at_call 69; refine (l1In_any _ _ _ _).mono ?_; rintro e w' ⟨rfl, rfl⟩; rw [HI]))
        go_ret
        exact ⟨ret_bool HS.out.symm, rfl⟩
    · have HS : Hid (varName s = false) := by rw [Hid, HV.out, allCh_no h0 (by simp [varCh, upB, hu])]; rfl
      go_enter Tryz.func62, Tryz.ntmps62
      go_wp2_with (first | (go_at_call 69; refine (l1In_any _ _ _ _).mono ?_; rintro e w' ⟨rfl, rfl⟩; rw [HI]))
      go_ret
      exact ⟨ret_bool HS.out.symm, rfl⟩
  · have HI := inB_no (n := s.size) (lo := 1) (hi := 4) (by omega)
    have HS : Hid (varName s = false) := by rw [Hid, HV.out, Bool.eq_false_iff]; intro e; simp at e; omega
    go_enter Tryz.func62, Tryz.ntmps62
    go_wp2_with (first | (go_at_call 69; refine (l1In_any _ _ _ _).mono ?_; rintro e w' ⟨rfl, rfl⟩; rw [HI]))
    go_ret
    exact ⟨ret_bool HS.out.symm, rfl⟩

/-- the string is none of the reserved: each comparison fails -/
theorem notReserved {s : ByteArray} (h : hasStr reservedL s = false) (r : ByteArray) (hr : r ∈ reservedL) (l : List UInt8) (hl : r.data.toList = l) : (s.toList == l) = false := by
  subst hl
  rw [← ByteArray.toList_eq]
  refine toList_ne fun e => ?_
  subst e
  rw [(hasStr_iff _ _).2 hr] at h
  exact absurd h (by simp)

set_option maxHeartbeats 4000000 in
theorem l2Symbol_any (s : ByteArray) (hs : s.size ≤ maxLen) (w : World) : Calls Tryz.prog 46 #[.string s] w fun e w' => e = .returned (.bool (symName s)) ∧ w = w' := by
  unfold maxLen at hs
  have HV : Hid (symName s = (allCh symCh s s.size && decide (1 ≤ s.size) && decide (s.size ≤ 6) && !hasStr reservedL s)) := rfl
  by_cases hin : 1 ≤ s.size ∧ s.size ≤ 6
  · have HI := inB_yes (n := s.size) (lo := 1) (hi := 6) (by omega) (by omega)
    have h0 : 0 < s.size := by omega
    have h0' : (0 : Int) < s.size := by omega
    have hbe := byteAt_eq h0
    have hlt256 := byteAt_lt s 0
    by_cases hu : 97 ≤ byteAt s 0
    · by_cases hu2 : byteAt s 0 ≤ 122
      · have H0 : Hid (allCh symCh s 1 = true) := by rw [Hid, allCh_succ, allCh_zero]; simp [symCh, lowB, hu, hu2]
        have hq1 : ((byteAt s 0 : Int) < 97) = False := by simp; omega
        have hq2 : ¬ ((122 : Int) < (byteAt s 0 : Int)) := by omega
        by_cases hr : hasStr reservedL s = true
        · have HS : Hid (symName s = false) := by rw [Hid, HV.out, hr]; simp
          have hm := (hasStr_iff _ _).1 hr
          clear hr HV H0
          simp only [reservedL, List.mem_cons, List.not_mem_nil, or_false] at hm
          rcases hm with e | e | e | e | e | e | e | e
          all_goals
            have hl : s.toList = _ := (congrArg ByteArray.toList e).trans (ByteArray.toList_eq _)
            have HE := hid e
            clear e
            go_enter Tryz.func46, Tryz.ntmps46
            go_wp2_with (first | (go_at_call 69; refine (l1In_any _ _ _ _).mono ?_; rintro e w' ⟨rfl, rfl⟩; rw [HI]))
            go_ret
            exact ⟨ret_bool HS.out.symm, rfl⟩
        · replace hr : hasStr reservedL s = false := by simpa using hr
          have n0 : (s.toList == [116, 114, 117, 101]) = false := notReserved hr ⟨#[116, 114, 117, 101]⟩ (by simp [reservedL]) _ rfl
          have n1 : (s.toList == [102, 97, 108, 115, 101]) = false := notReserved hr ⟨#[102, 97, 108, 115, 101]⟩ (by simp [reservedL]) _ rfl
          have n2 : (s.toList == [116, 114, 117, 116, 104]) = false := notReserved hr ⟨#[116, 114, 117, 116, 104]⟩ (by simp [reservedL]) _ rfl
          have n3 : (s.toList == [98, 111, 116, 104]) = false := notReserved hr ⟨#[98, 111, 116, 104]⟩ (by simp [reservedL]) _ rfl
          have n4 : (s.toList == [101, 105, 116, 104, 101, 114]) = false := notReserved hr ⟨#[101, 105, 116, 104, 101, 114]⟩ (by simp [reservedL]) _ rfl
          have n5 : (s.toList == [105, 102]) = false := notReserved hr ⟨#[105, 102]⟩ (by simp [reservedL]) _ rfl
          have n6 : (s.toList == [97, 108, 108]) = false := notReserved hr ⟨#[97, 108, 108]⟩ (by simp [reservedL]) _ rfl
          have n7 : (s.toList == [115, 111, 109, 101]) = false := notReserved hr ⟨#[115, 111, 109, 101]⟩ (by simp [reservedL]) _ rfl
          have HR := hid hr
          clear hr
          go_enter Tryz.func46, Tryz.ntmps46
          go_wp2_with (first | (go_at_call 69; refine (l1In_any _ _ _ _).mono ?_; rintro e w' ⟨rfl, rfl⟩; rw [HI]))
          clear hq1 hq2 hbe
          go_loop [3] (fun i => ∃ k : Nat, 1 ≤ k ∧ k ≤ s.size ∧ i = .int .i64 k ∧ Hid (allCh symCh s k = true)) (fun i => s.size - (intOf i).toNat)
          case atStart => exact ⟨1, Nat.le_refl _, h0, rfl, H0⟩
          case round =>
            obtain ⟨k, hk1, hk, rfl, HX⟩ := hrel
            by_cases hlt : k < s.size
            · have hbe := byteAt_eq hlt
              have hstep := hid (allCh_succ symCh s k)
              have hlt0 : (k : Int) < s.size := by omega
              have hk0 : k ≠ 0 := by omega
              by_cases HA : (lowB (byteAt s k) || digB (byteAt s k)) = true
              · have HS : Hid (allCh symCh s (k + 1) = true) := by rw [Hid, hstep.out, HX.out]; simp only [symCh, hk0, if_false, HA]; rfl
                go_wp2_with (first | (go_at_call 70; refine (l2Small_any _ _).mono ?_; rintro e w' ⟨rfl, rfl⟩; rw [HA]))
                go_round
                case rel => exact ⟨k + 1, by omega, by omega, by go_num, HS⟩
                case measure => simp [intOf]; omega
              · replace HA : (lowB (byteAt s k) || digB (byteAt s k)) = false := Bool.eq_false_iff.2 HA
                by_cases hv : byteAt s k = 95
                · have HS : Hid (allCh symCh s (k + 1) = true) := by rw [Hid, hstep.out, HX.out]; simp only [symCh, hk0, if_false, hv]; rfl
                  have hq : ((byteAt s k : Int) != 95) = false := by rw [hv]; rfl
                  have hq' : ((byteAt s k : Int) == 95) = true := by rw [hv]; rfl
                  clear hv
                  go_wp2_with (first | (go_at_call 70; refine (l2Small_any _ _).mono ?_; rintro e w' ⟨rfl, rfl⟩; rw [HA]))
                  go_round
                  case rel => exact ⟨k + 1, by omega, by omega, by go_num, HS⟩
                  case measure => simp [intOf]; omega
                · have HS : Hid (symName s = false) := by rw [Hid, HV.out, allCh_no hlt (by simp only [symCh, hk0, if_false, HA]; simpa using hv)]; rfl
                  have hq : ((byteAt s k : Int) != 95) = true := by rw [bne_iff_ne]; omega
                  have hq' : ((byteAt s k : Int) == 95) = false := by rw [beq_eq_false_iff_ne]; omega
                  clear hv
                  go_wp2_with (first | (go_at_call 70; refine (l2Small_any _ _).mono ?_; rintro e w' ⟨rfl, rfl⟩; rw [HA]))
                  go_ret
                  exact ⟨ret_bool HS.out.symm, rfl⟩
            · obtain rfl : k = s.size := by omega
              have HS : Hid (symName s = true) := by rw [Hid, HV.out, HX.out, HR.out]; simp [hin]
              go_wp2_with fail
              go_ret
              exact ⟨ret_bool HS.out.symm, rfl⟩
      · have HS : Hid (symName s = false) := by rw [Hid, HV.out, allCh_no h0 (by simp [symCh, lowB, hu2])]; rfl
        go_enter Tryz.func46, Tryz.ntmps46
        go_wp2_with (first | (go_at_call 69; refine (l1In_any _ _ _ _).mono ?_; rintro e w' ⟨rfl, rfl⟩; rw [HI]))
        go_ret
        exact ⟨ret_bool HS.out.symm, rfl⟩
    · have HS : Hid (symName s = false) := by rw [Hid, HV.out, allCh_no h0 (by simp [symCh, lowB, hu])]; rfl
      go_enter Tryz.func46, Tryz.ntmps46
      go_wp2_with (first | (go_at_call 69; refine (l1In_any _ _ _ _).mono ?_; rintro e w' ⟨rfl, rfl⟩; rw [HI]))
      go_ret
      exact ⟨ret_bool HS.out.symm, rfl⟩
  · have HI := inB_no (n := s.size) (lo := 1) (hi := 6) (by omega)
    have HS : Hid (symName s = false) := by rw [Hid, HV.out, Bool.eq_false_iff]; intro e; simp at e; omega
    go_enter Tryz.func46, Tryz.ntmps46
    go_wp2_with (first | (go_at_call 69; refine (l1In_any _ _ _ _).mono ?_; rintro e w' ⟨rfl, rfl⟩; rw [HI]))
    go_ret
    exact ⟨ret_bool HS.out.symm, rfl⟩
end Go.Proofs.YtglhbaigigdeeaaGreat
/- The program and the reference tell valid terms: names and numbers of arguments. -/
namespace Go.Proofs.YtglhbaigigdeeaaGreat
set_option maxRecDepth 100000
open Go.RowKit

/-- f tells whether p holds of a term -/
def PredIs (f : FuncId) (p : Tm → Bool) (t : Tm) : Prop := ∀ ⦃S : Nat → Prop⦄ ⦃c0 c1 : Value⦄ ⦃w : World⦄, Tm.at S w c0 c1 t → t.bulk ≤ 1048576 → Calls Tryz.prog f #[.agg #[c0, c1]] w (Gives w (.bool (p t)))

theorem Tm.bulk_at {ts : List Tm} {k : Nat} (hk : k < ts.length) : ts[k].bulk ≤ Tm.bulks ts := Tm.bulk_mem (List.getElem_mem hk)

/-- function f has a body: a call of its value enters it -/
def Callable (f : FuncId) : Prop := ∀ (args : Array Value) (w : World), Sem.run Tryz.prog (callFunc f args) w = .ok (.enter f args) w

/-- r tells whether p holds of some term of the list -/
def FoundT (ts : List Tm) (p : Tm → Bool) (w : World) (e : Ending) (w' : World) : Prop := ∃ r : Int, e = .returned (.int .i64 r) ∧ ((0 ≤ r ∧ ts.any p = true) ∨ (r < 0 ∧ ts.any p = false)) ∧ Below w.heap.size w w'

set_option maxHeartbeats 400000 in
theorem indexFuncT (f : FuncId) (hcf : Callable f) (p : Tm → Bool) (ts : List Tm) (h : ∀ t ∈ ts, PredIs f p t) {S : Nat → Prop} {v : Value} {w : World} (hs : D.rd S w v (Tm.sd ts)) (hbk : Tm.bulks ts ≤ 1048576) :
    Calls Tryz.prog 125 #[v, .func (.func f) #[] #[]] w (FoundT ts p w) := by
  obtain ⟨a, cap, rfl, hlen, hcap⟩ := Tm.sd_form hs
  unfold big at hlen
  go_enter Tryz.func125, Tryz.ntmps125
  go_wp2_with fail
  go_loopw [8] (fun i wr => ∃ k : Nat, k ≤ ts.length ∧ i = .int .i64 k ∧ Hid ((ts.take k).any p = false) ∧ Below w.heap.size w wr) (fun i _ => ts.length - (intOf i).toNat)
  case atStart => exact ⟨0, Nat.zero_le _, rfl, by simp [Hid], Below.refl _ _⟩
  case round =>
    obtain ⟨k, hk, rfl, HX, hb⟩ := hrel
    have hbw := hb
    by_cases hlt : k < ts.length
    · have hne : ts ≠ [] := by intro e; subst e; simp at hlt
      obtain ⟨b, off, rfl, hS, hbl, hrr⟩ := Tm.sd_get hs hne
      obtain ⟨c0, c1, q0, q1, q2⟩ := hrr k hlt
      obtain ⟨rfl, -, x, xc, rfl⟩ := Tm.at_form q2
      replace q0 := (hbw.cell (p := ⟨b, off + k * 2, none⟩) hbl).trans q0
      replace q1 := (hbw.cell (p := ⟨b, off + k * 2 + 1, none⟩) hbl).trans q1
      replace q2 := Tm.at_keep (Keeps.all hbw) q2
      have hmem := h ts[k] (List.getElem_mem hlt)
      clear hs hrr
      have hbm : ts[k].bulk ≤ 1048576 := Nat.le_trans (Tm.bulk_at hlt) hbk
      unfold Callable at hcf
      go_wp2_with fail
      refine (hmem q2 hbm).mono ?_
      rintro e w2 ⟨_, rfl, hb2, rfl⟩
      by_cases hp : p ts[k] = true
      · have HF : Hid (ts.any p = true) := List.any_eq_true.2 ⟨_, List.getElem_mem hlt, hp⟩
        rw [hp]
        clear hp
        go_wp2_with fail
        go_ret
        exact ⟨k, rfl, .inl ⟨by omega, HF.out⟩, hb.trans (hb2.mono hb.size)⟩
      · have HF : Hid ((ts.take (k + 1)).any p = false) := by
          rw [Hid, List.take_succ_eq_append_getElem hlt, List.any_append, HX.out]; simpa using hp
        rw [Bool.eq_false_iff.2 hp]
        clear hp
        go_wp2_with fail
        go_roundw
        case rel => exact ⟨k + 1, by omega, by go_num, HF, hb.trans (hb2.mono hb.size)⟩
        case measure => simp [intOf]; omega
    · obtain rfl : k = ts.length := by omega
      have HF : Hid (ts.any p = false) := by have := HX.out; rwa [List.take_length] at this
      go_wp2_with fail
      go_ret
      exact ⟨-1, rfl, .inr ⟨by omega, HF.out⟩, hb⟩

set_option maxHeartbeats 400000 in
theorem containsFuncT (f : FuncId) (hcf : Callable f) (p : Tm → Bool) (ts : List Tm) (h : ∀ t ∈ ts, PredIs f p t) {S : Nat → Prop} {v : Value} {w : World} (hs : D.rd S w v (Tm.sd ts)) (hbk : Tm.bulks ts ≤ 1048576) :
    Calls Tryz.prog 99 #[v, .func (.func f) #[] #[]] w (Gives w (.bool (ts.any p))) := by
  go_enter Tryz.func99, Tryz.ntmps99
  go_wp2_with fail
  refine (indexFuncT f hcf p ts h hs hbk).mono ?_
  rintro e w' ⟨r, rfl, hr, hb⟩
  rcases hr with ⟨h0, h1⟩ | ⟨h0, h1⟩
  · have H := hid h1
    clear h1
    go_wp2_with fail
    go_ret
    exact Gives.mk (ret_bool H.out.symm) hb
  · have H := hid h1
    clear h1
    go_wp2_with fail
    go_ret
    exact Gives.mk (ret_bool (by rw [H.out]; simp; omega)) hb

set_option maxHeartbeats 400000 in
theorem hasNames1_of {t : Tm} (h : PredIs 75 Tm.names t) : PredIs 100 (fun t => !t.names) t := by
  intro S c0 c1 w hT hbk
  obtain ⟨rfl, hn, a, cap, rfl⟩ := Tm.at_form hT
  have hW : Below w.heap.size w (w.alloc (.cells #[.string t.name, .slice a t.args.length cap] 56)) := (Below.refl _ _).alloc (Nat.le_refl _) _
  have bT : Box (w.alloc (.cells #[.string t.name, .slice a t.args.length cap] 56)) w.heap.size [.string t.name, .slice a t.args.length cap] := Box.new w _ _
  replace hT := Tm.at_keep (Keeps.all hW) hT
  go_enter Tryz.func100, Tryz.ntmps100
  go_wp2_with fail
  generalize (w.alloc (.cells #[.string t.name, .slice a t.args.length cap] 56)) = w0 at *
  refine (h hT hbk).mono ?_
  rintro e w1 ⟨_, rfl, hb, rfl⟩
  replace hW := hW.trans (hb.mono hW.size)
  replace bT := bT.keep hb
  replace hT := Tm.at_keep (Keeps.all hb) hT
  clear hb
  have eT0 := bT.c0
  have eT1 := bT.c1
  have lT := bT.lt
  go_wp2_with fail
  clear eT0 eT1 lT
  go_ret
  exact Gives.mk rfl hW

theorem callable1 : Callable 100 := fun _ _ => by kernel_rfl

theorem Tm.any_names (ts : List Tm) : ts.any (fun t => !t.names) = !Tm.namesAll ts := by
  rw [Bool.eq_iff_iff]
  simp only [List.any_eq_true, Bool.not_eq_true', Bool.eq_false_iff, Ne, Tm.namesAll_iff]
  constructor
  · rintro ⟨t, ht, hn⟩ h; exact hn (h t ht)
  · intro h
    refine Classical.byContradiction fun hc => h fun t ht => Classical.byContradiction fun hn => hc ⟨t, ht, hn⟩

set_option maxHeartbeats 1000000 in
theorem hasNames_of (n : ByteArray) (ts : List Tm) (h : ∀ t ∈ ts, PredIs 75 Tm.names t) : PredIs 75 Tm.names (.node n ts) := by
  intro S c0 c1 w hT hbk
  generalize ht : Tm.node n ts = t at *
  obtain ⟨rfl, hn, a, cap, rfl⟩ := Tm.at_form hT
  have hW : Below w.heap.size w (w.alloc (.cells #[.string t.name, .slice a t.args.length cap] 56)) := (Below.refl _ _).alloc (Nat.le_refl _) _
  have bT : Box (w.alloc (.cells #[.string t.name, .slice a t.args.length cap] 56)) w.heap.size [.string t.name, .slice a t.args.length cap] := Box.new w _ _
  replace hT := Tm.at_keep (Keeps.all hW) hT
  go_enter Tryz.func75, Tryz.ntmps75
  go_wp2_with fail
  generalize (w.alloc (.cells #[.string t.name, .slice a t.args.length cap] 56)) = w0 at *
  subst ht
  simp only [Tm.name, Tm.args] at *
  by_cases hv : varName n = true
  · have HN : Hid (Tm.names (.node n ts) = ts.isEmpty) := by rw [Hid, Tm.names, if_pos hv]
    refine (isVariable_any n hn _).mono ?_
    rintro e w' ⟨rfl, rfl⟩
    rw [hv]
    have eT0 := bT.c0
    have eT1 := bT.c1
    go_wp2_with fail
    go_ret
    exact Gives.mk (ret_bool (by rw [HN.out]; cases ts <;> simp; omega)) hW
  · replace hv : varName n = false := by simpa using hv
    have HN : Hid (Tm.names (.node n ts) = (symName n && decide (ts.length ≤ 4) && Tm.namesAll ts)) := by rw [Hid, Tm.names, hv]; rfl
    refine (isVariable_any n hn _).mono ?_
    rintro e w' ⟨rfl, rfl⟩
    rw [hv]
    clear hv
    have eT0 := bT.c0
    have eT1 := bT.c1
    go_wp2_with fail
    clear eT0 eT1
    refine (isSymbol_any n hn _).mono ?_
    rintro e w1 ⟨_, rfl, hb, rfl⟩
    replace hW := hW.trans (hb.mono hW.size)
    replace bT := bT.keep hb
    replace hT := Tm.at_keep (Keeps.all hb) hT
    clear hb
    have eT0 := bT.c0
    have eT1 := bT.c1
    by_cases hsy : symName n = true
    · by_cases h4 : ts.length ≤ 4
      · have HM : Hid (Tm.names (.node n ts) = Tm.namesAll ts) := by rw [Hid, HN.out, hsy]; simp [h4]
        have h4' : ((ts.length : Int) ≤ 4) := by omega
        rw [hsy]
        clear hsy
        go_wp2_with fail
        clear eT0 eT1
        refine (containsFuncT 100 callable1 (fun t => !t.names) ts (fun t ht => hasNames1_of (h t ht)) hT.2 (by rw [Tm.bulk] at hbk; omega)).mono ?_
        rintro e w2 ⟨_, rfl, hb, rfl⟩
        rw [Tm.any_names]
        go_wp2_with fail
        go_ret
        exact Gives.mk (ret_bool (by rw [HM.out])) (hW.trans (hb.mono hW.size))
      · have HM : Hid (Tm.names (.node n ts) = false) := by rw [Hid, HN.out]; simp [h4]
        have h4' : ¬ ((ts.length : Int) ≤ 4) := by omega
        rw [hsy]
        clear hsy
        go_wp2_with fail
        go_ret
        exact Gives.mk (ret_bool HM.out.symm) hW
    · replace hsy : symName n = false := by simpa using hsy
      have HM : Hid (Tm.names (.node n ts) = false) := by rw [Hid, HN.out, hsy]; rfl
      rw [hsy]
      clear hsy
      go_wp2_with fail
      go_ret
      exact Gives.mk (ret_bool HM.out.symm) hW
theorem hasNames_any (t : Tm) : PredIs 75 Tm.names t := Tm.ind (P := fun t => PredIs 75 Tm.names t) (fun n ts h => hasNames_of n ts h) t

set_option maxHeartbeats 1000000 in
theorem l2Nodes_of (n : ByteArray) (ts : List Tm) (h : ∀ t ∈ ts, PredIs 45 Tm.names t) : PredIs 45 Tm.names (.node n ts) := by
  intro S c0 c1 w hr hbk
  obtain ⟨rfl, hn, a, cap, rfl⟩ := Tm.at_form hr
  have hs := hr.2
  simp only [Tm.name, Tm.args] at hs hn ⊢
  clear hr
  obtain ⟨a', cap', he, hlen, hcap⟩ := Tm.sd_form hs
  injection he with e0 e1 e2
  subst e0 e2
  clear e1
  unfold big at hlen
  by_cases hv : varName n = true
  · have HN : Hid (Tm.names (.node n ts) = ts.isEmpty) := by rw [Hid, Tm.names, if_pos hv]
    go_enter Tryz.func45, Tryz.ntmps45
    go_wp2_with (first | (go_at_call 62; refine (l2Var_any _ hn _).mono ?_; rintro e w' ⟨rfl, rfl⟩; rw [hv]))
    go_ret
    exact Gives.mk (ret_bool (by rw [HN.out]; cases ts <;> simp; omega)) ((Below.refl _ _).alloc (Nat.le_refl _) _)
  · replace hv : varName n = false := by simpa using hv
    have HN : Hid (Tm.names (.node n ts) = (symName n && decide (ts.length ≤ 4) && Tm.namesAll ts)) := by rw [Hid, Tm.names, hv]; rfl
    by_cases hsy : symName n = true
    · by_cases h4 : ts.length ≤ 4
      · have HM : Hid (Tm.names (.node n ts) = Tm.namesAll ts) := by rw [Hid, HN.out, hsy]; simp [h4]
        have h4' : ¬ ((4 : Int) < (ts.length : Int)) := by omega
        go_enter Tryz.func45, Tryz.ntmps45
        go_wp2_with (first | (go_at_call 62; refine (l2Var_any _ hn _).mono ?_; rintro e w' ⟨rfl, rfl⟩; rw [hv]) | (go_at_call 46; refine (l2Symbol_any _ hn _).mono ?_; rintro e w' ⟨rfl, rfl⟩; rw [hsy]))
        clear h4'
        go_loopw [3] (fun i wr => ∃ (k : Nat), k ≤ ts.length ∧ i = .int .i64 k ∧ Hid (Tm.namesAll (ts.take k) = true) ∧ Below (w.heap.size + 1) (w.alloc (.cells #[.string n, .slice a ts.length cap] 56)) wr) (fun i _ => ts.length - (intOf i).toNat)
        case atStart => exact ⟨0, Nat.zero_le _, rfl, by simp [Hid, Tm.namesAll], Below.refl _ _⟩
        case round =>
          obtain ⟨k, hk, rfl, HX, hb⟩ := hrel
          have hbw : Below w.heap.size w wr := ((Below.refl _ _).alloc (Nat.le_refl _) _).trans (hb.mono (by omega))
          have hz := hb.size
          simp only [World.size_alloc] at hz
          have hz0 : w.heap.size < wr.heap.size := by omega
          have e10 : wr.cell? ⟨w.heap.size, 0, none⟩ = some (.string n) := (hb.cell (by simp)).trans (box1 _ _ _ _)
          have e11 : wr.cell? ⟨w.heap.size, 1, none⟩ = some (.slice a ts.length cap) := (hb.cell (by simp)).trans (box1 _ _ _ _)
          by_cases hlt : k < ts.length
          · have hne : ts ≠ [] := by intro e; subst e; simp at hlt
            obtain ⟨b, off, rfl, hS, hbl, hrr⟩ := Tm.sd_get hs hne
            obtain ⟨c0, c1, q0, q1, q2⟩ := hrr k hlt
            obtain ⟨rfl, -, x, xc, rfl⟩ := Tm.at_form q2
            replace q0 := (hbw.cell (p := ⟨b, off + k * 2, none⟩) hbl).trans q0
            replace q1 := (hbw.cell (p := ⟨b, off + k * 2 + 1, none⟩) hbl).trans q1
            replace q2 := Tm.at_keep (Keeps.all hbw) q2
            have hmem := h ts[k] (List.getElem_mem hlt)
            clear hs hrr
            have hst := hid (Tm.namesAll_take ts k hlt)
            have hno := hid (fun hn => Tm.namesAll_no (List.getElem_mem hlt) hn : Tm.names ts[k] = false → Tm.namesAll ts = false)
            have hbm : ts[k].bulk ≤ 1048576 := Nat.le_trans (Tm.bulk_at hlt) (by rw [Tm.bulk] at hbk; omega)
            go_wp2_with fail
            refine (hmem q2 hbm).mono ?_
            rintro e w2 ⟨_, rfl, hb3, rfl⟩
            by_cases hp : Tm.names ts[k] = true
            · have HS : Hid (Tm.namesAll (ts.take (k + 1)) = true) := by rw [Hid, hst.out, HX.out, hp]; rfl
              rw [hp]
              clear hp
              go_wp2_with fail
              go_roundw
              case rel => exact ⟨k + 1, by omega, by go_num, HS, hb.trans (hb3.mono hz)⟩
              case measure => simp [intOf]; omega
            · replace hp : Tm.names ts[k] = false := by simpa using hp
              have HS := hid (hno.out hp)
              rw [hp]
              clear hp
              go_wp2_with fail
              go_ret
              exact Gives.mk (ret_bool (by rw [HM.out, HS.out])) (hbw.trans (hb3.mono hbw.size))
          · obtain rfl : k = ts.length := by omega
            have HS : Hid (Tm.names (.node n ts) = true) := by rw [Hid, HM.out]; have := HX.out; rwa [List.take_length] at this
            go_wp2_with fail
            go_ret
            exact Gives.mk (ret_bool HS.out.symm) hbw
      · have HM : Hid (Tm.names (.node n ts) = false) := by rw [Hid, HN.out]; simp [h4]
        have h4' : (4 : Int) < (ts.length : Int) := by omega
        go_enter Tryz.func45, Tryz.ntmps45
        go_wp2_with (first | (go_at_call 62; refine (l2Var_any _ hn _).mono ?_; rintro e w' ⟨rfl, rfl⟩; rw [hv]) | (go_at_call 46; refine (l2Symbol_any _ hn _).mono ?_; rintro e w' ⟨rfl, rfl⟩; rw [hsy]))
        go_ret
        exact Gives.mk (ret_bool HM.out.symm) ((Below.refl _ _).alloc (Nat.le_refl _) _)
    · replace hsy : symName n = false := by simpa using hsy
      have HM : Hid (Tm.names (.node n ts) = false) := by rw [Hid, HN.out, hsy]; rfl
      go_enter Tryz.func45, Tryz.ntmps45
      go_wp2_with (first | (go_at_call 62; refine (l2Var_any _ hn _).mono ?_; rintro e w' ⟨rfl, rfl⟩; rw [hv]) | (go_at_call 46; refine (l2Symbol_any _ hn _).mono ?_; rintro e w' ⟨rfl, rfl⟩; rw [hsy]))
      go_ret
      exact Gives.mk (ret_bool HM.out.symm) ((Below.refl _ _).alloc (Nat.le_refl _) _)
theorem l2Nodes_any (t : Tm) : PredIs 45 Tm.names t := Tm.ind (P := fun t => PredIs 45 Tm.names t) (fun n ts h => l2Nodes_of n ts h) t
end Go.Proofs.YtglhbaigigdeeaaGreat
