/- How many nodes of an expression bear a name. -/
import Derived.Test.YtbbagaiolmbcnaaTe
namespace Go.Proofs.Ytbbagaiolmbcnaa
set_option maxRecDepth 100000
open Go.RowKit
mutual
def Tm.count (m : ByteArray) : Tm → Nat
  | .node n ts => (if n = m then 1 else 0) + Tm.counts m ts
def Tm.counts (m : ByteArray) : List Tm → Nat
  | [] => 0
  | t :: ts => Tm.count m t + Tm.counts m ts
end
theorem Tm.counts_take (m : ByteArray) : ∀ (ts : List Tm) (k : Nat) (hk : k < ts.length), Tm.counts m (ts.take (k + 1)) = Tm.counts m (ts.take k) + ts[k].count m
  | [], k, hk => absurd hk (by simp)
  | t :: ts, 0, _ => by simp [Tm.counts]
  | t :: ts, k + 1, hk => by
    have := Tm.counts_take m ts k (by simpa using hk)
    simp only [List.take_succ_cons, Tm.counts, this, List.getElem_cons_succ]; omega
theorem Tm.counts_le (m : ByteArray) : ∀ (ts : List Tm) (k : Nat), Tm.counts m (ts.take k) ≤ Tm.counts m ts
  | [], k => by simp
  | t :: ts, 0 => by simp [Tm.counts]
  | t :: ts, k + 1 => by
    have := Tm.counts_le m ts k
    simp only [List.take_succ_cons, Tm.counts]; omega
theorem Tm.count_size (m : ByteArray) (t : Tm) : t.count m ≤ t.size := by
  refine Tm.ind (P := fun t => t.count m ≤ t.size) (fun n ts ih => ?_) t
  rw [Tm.size, Tm.count]
  have key : ∀ ts : List Tm, (∀ a ∈ ts, a.count m ≤ a.size) → Tm.counts m ts ≤ Tm.sizes ts := by
    intro ts
    induction ts with
    | nil => intro _; simp [Tm.counts]
    | cons t ts iht =>
      intro h
      have h0 := h t (by simp)
      have h1 := iht fun a ha => h a (by simp [ha])
      simp only [Tm.counts, Tm.sizes]; omega
  have := key ts ih
  split <;> omega

theorem cnt_cases (n m : ByteArray) : ((n.toList == m.toList) = true ∧ Hid (1 = if n = m then 1 else 0)) ∨ ((n.toList == m.toList) = false ∧ Hid (0 = if n = m then 1 else 0)) := by
  by_cases h : n = m
  · left; refine ⟨by rw [toList_beq]; simpa using h, ?_⟩; rw [Hid, if_pos h]
  · right; refine ⟨toList_ne h, ?_⟩; rw [Hid, if_neg h]

def ImplCount (t : Tm) : Prop := ∀ (m : ByteArray) (S : Nat → Prop) (c0 c1 : Value) (w : World), Tm.at S w c0 c1 t → t.bulk ≤ 1048576 → Calls Try.prog 69 #[.agg #[c0, c1], .string m] w (Gives w (.int .i64 (t.count m)))
set_option maxHeartbeats 1000000 in
theorem ImplCount_of (n : ByteArray) (ts : List Tm) (h : ∀ t ∈ ts, ImplCount t) : ImplCount (.node n ts) := by
  intro m S c0 c1 w hr hbk
  obtain ⟨rfl, hn, a, cap, rfl⟩ := Tm.at_form hr
  have hs := hr.2
  simp only [Tm.name, Tm.args] at hs hn ⊢
  clear hr
  obtain ⟨a', cap', he, hlen, hcap⟩ := Tm.sd_form hs
  injection he with e0 e1 e2
  subst e0 e2
  clear e1
  unfold big at hlen
  have hbs := Tm.size_bulk (.node n ts)
  have hcs := Tm.count_size m (.node n ts)
  have hsd : Hid ((Tm.node n ts).count m = (if n = m then 1 else 0) + Tm.counts m ts) := by rw [Hid, Tm.count]
  rcases cnt_cases n m with ⟨hq, HZ⟩ | ⟨hq, HZ⟩
  · go_enter Try.func69, Try.ntmps69
    go_wp2_with fail
    go_loopw [5, 15] (fun x i wr => ∃ (k r : Nat), k ≤ ts.length ∧ i = .int .i64 k ∧ x = .int .i64 r ∧ r ≤ 1048577 ∧ Hid (r = (if n = m then 1 else 0) + Tm.counts m (ts.take k)) ∧ Below (w.heap.size + 1) (w.alloc (.cells #[.string n, .slice a ts.length cap] 29)) wr) (fun _ i _ => ts.length - (intOf i).toNat)
    case atStart => exact ⟨0, 1, Nat.zero_le _, rfl, rfl, by omega, by rw [Hid, ← HZ.out]; simp [Tm.counts], Below.refl _ _⟩
    case round =>
      obtain ⟨k, r, hk, rfl, rfl, hr1, HX, hb⟩ := hrel
      have hbw : Below w.heap.size w wr := ((Below.refl _ _).alloc (Nat.le_refl _) _).trans (hb.mono (by omega))
      have hz := hb.size
      simp only [World.size_alloc] at hz
      have hz0 : w.heap.size < wr.heap.size := by omega
      have e10 : wr.cell? ⟨w.heap.size, 0, none⟩ = some (.string n) := (hb.cell (by simp)).trans (box1 _ _ _ _)
      have e11 : wr.cell? ⟨w.heap.size, 1, none⟩ = some (.slice a ts.length cap) := (hb.cell (by simp)).trans (box1 _ _ _ _)
      by_cases hlt : k < ts.length
      · have hne : ts ≠ [] := by intro e; subst e; simp at hlt
        obtain ⟨b, off, rfl, hS, hbl, hrr⟩ := Tm.sd_get hs hne
        obtain ⟨c0, c1, q0, q1, q2⟩ := hrr k hlt
        obtain ⟨rfl, -, x, xc, rfl⟩ := Tm.at_form q2
        replace q0 := (hbw.cell (p := ⟨b, off + k * 2, none⟩) hbl).trans q0
        replace q1 := (hbw.cell (p := ⟨b, off + k * 2 + 1, none⟩) hbl).trans q1
        replace q2 := Tm.at_keep (Keeps.all hbw) q2
        have hmem := h ts[k] (List.getElem_mem hlt)
        clear hs hrr
        have hst := hid (Tm.counts_take m ts k hlt)
        have hsl := hid (Tm.counts_le m ts (k + 1))
        have hbm : ts[k].bulk ≤ 1048576 := by have := Tm.bulk_mem (List.getElem_mem hlt); rw [Tm.bulk] at hbk; omega
        have hsm : ts[k].count m ≤ 1048577 := by have := Tm.size_bulk ts[k]; have := Tm.count_size m ts[k]; omega
        have hq0 := cell_alloc q0
        go_wp2_with fail
        have hbx : Below wr.heap.size wr (wr.alloc (.cells #[.string ts[k].name, .slice x ts[k].args.length xc] 29)) := (Below.refl _ _).alloc (Nat.le_refl _) _
        refine (hmem _ _ _ _ _ (Tm.at_keep (Keeps.all hbx) q2) hbm).mono ?_
        rintro e w2 ⟨_, rfl, hb2, rfl⟩
        have hb3 := hbx.trans (hb2.mono hbx.size)
        clear hbx hb2
        obtain ⟨r2, HR⟩ : ∃ r2, Hid (ts[k].count m = r2) := ⟨_, hid rfl⟩
        rw [HR.out] at hsm ⊢
        have HS : Hid (r + r2 = (if n = m then 1 else 0) + Tm.counts m (ts.take (k + 1))) := by have := HX.out; have := HR.out; have := hst.out; show _ = _; omega
        have hr3 : r + r2 ≤ 1048577 := by have := HS.out; have := hsl.out; have := hsd.out; omega
        go_wp2_with fail
        go_roundw
        case rel => exact ⟨k + 1, r + r2, by omega, by go_num, by go_num, hr3, HS, hb.trans (hb3.mono hz)⟩
        case measure => simp [intOf]; omega
      · obtain rfl : k = ts.length := by omega
        have HS : Hid (r = (Tm.node n ts).count m) := by rw [Hid, hsd.out]; have := HX.out; rwa [List.take_length] at this
        go_wp2_with fail
        go_ret
        exact Gives.mk (ret_i64 (by rw [← HS.out])) hbw
  · go_enter Try.func69, Try.ntmps69
    go_wp2_with fail
    go_loopw [5, 15] (fun x i wr => ∃ (k r : Nat), k ≤ ts.length ∧ i = .int .i64 k ∧ x = .int .i64 r ∧ r ≤ 1048577 ∧ Hid (r = (if n = m then 1 else 0) + Tm.counts m (ts.take k)) ∧ Below (w.heap.size + 1) (w.alloc (.cells #[.string n, .slice a ts.length cap] 29)) wr) (fun _ i _ => ts.length - (intOf i).toNat)
    case atStart => exact ⟨0, 0, Nat.zero_le _, rfl, rfl, by omega, by rw [Hid, ← HZ.out]; simp [Tm.counts], Below.refl _ _⟩
    case round =>
      obtain ⟨k, r, hk, rfl, rfl, hr1, HX, hb⟩ := hrel
      have hbw : Below w.heap.size w wr := ((Below.refl _ _).alloc (Nat.le_refl _) _).trans (hb.mono (by omega))
      have hz := hb.size
      simp only [World.size_alloc] at hz
      have hz0 : w.heap.size < wr.heap.size := by omega
      have e10 : wr.cell? ⟨w.heap.size, 0, none⟩ = some (.string n) := (hb.cell (by simp)).trans (box1 _ _ _ _)
      have e11 : wr.cell? ⟨w.heap.size, 1, none⟩ = some (.slice a ts.length cap) := (hb.cell (by simp)).trans (box1 _ _ _ _)
      by_cases hlt : k < ts.length
      · have hne : ts ≠ [] := by intro e; subst e; simp at hlt
        obtain ⟨b, off, rfl, hS, hbl, hrr⟩ := Tm.sd_get hs hne
        obtain ⟨c0, c1, q0, q1, q2⟩ := hrr k hlt
        obtain ⟨rfl, -, x, xc, rfl⟩ := Tm.at_form q2
        replace q0 := (hbw.cell (p := ⟨b, off + k * 2, none⟩) hbl).trans q0
        replace q1 := (hbw.cell (p := ⟨b, off + k * 2 + 1, none⟩) hbl).trans q1
        replace q2 := Tm.at_keep (Keeps.all hbw) q2
        have hmem := h ts[k] (List.getElem_mem hlt)
        clear hs hrr
        have hst := hid (Tm.counts_take m ts k hlt)
        have hsl := hid (Tm.counts_le m ts (k + 1))
        have hbm : ts[k].bulk ≤ 1048576 := by have := Tm.bulk_mem (List.getElem_mem hlt); rw [Tm.bulk] at hbk; omega
        have hsm : ts[k].count m ≤ 1048577 := by have := Tm.size_bulk ts[k]; have := Tm.count_size m ts[k]; omega
        have hq0 := cell_alloc q0
        go_wp2_with fail
        have hbx : Below wr.heap.size wr (wr.alloc (.cells #[.string ts[k].name, .slice x ts[k].args.length xc] 29)) := (Below.refl _ _).alloc (Nat.le_refl _) _
        refine (hmem _ _ _ _ _ (Tm.at_keep (Keeps.all hbx) q2) hbm).mono ?_
        rintro e w2 ⟨_, rfl, hb2, rfl⟩
        have hb3 := hbx.trans (hb2.mono hbx.size)
        clear hbx hb2
        obtain ⟨r2, HR⟩ : ∃ r2, Hid (ts[k].count m = r2) := ⟨_, hid rfl⟩
        rw [HR.out] at hsm ⊢
        have HS : Hid (r + r2 = (if n = m then 1 else 0) + Tm.counts m (ts.take (k + 1))) := by have := HX.out; have := HR.out; have := hst.out; show _ = _; omega
        have hr3 : r + r2 ≤ 1048577 := by have := HS.out; have := hsl.out; have := hsd.out; omega
        go_wp2_with fail
        go_roundw
        case rel => exact ⟨k + 1, r + r2, by omega, by go_num, by go_num, hr3, HS, hb.trans (hb3.mono hz)⟩
        case measure => simp [intOf]; omega
      · obtain rfl : k = ts.length := by omega
        have HS : Hid (r = (Tm.node n ts).count m) := by rw [Hid, hsd.out]; have := HX.out; rwa [List.take_length] at this
        go_wp2_with fail
        go_ret
        exact Gives.mk (ret_i64 (by rw [← HS.out])) hbw
theorem ImplCount_any (t : Tm) : ImplCount t := Tm.ind (fun n ts h => ImplCount_of n ts h) t

def SpecCount (t : Tm) : Prop := ∀ (m : ByteArray) (S : Nat → Prop) (c0 c1 : Value) (w : World), Tm.at S w c0 c1 t → t.bulk ≤ 1048576 → Calls Try.prog 68 #[.agg #[c0, c1], .string m] w (Gives w (.int .i64 (t.count m)))
set_option maxHeartbeats 1000000 in
theorem SpecCount_of (n : ByteArray) (ts : List Tm) (h : ∀ t ∈ ts, SpecCount t) : SpecCount (.node n ts) := by
  intro m S c0 c1 w hr hbk
  obtain ⟨rfl, hn, a, cap, rfl⟩ := Tm.at_form hr
  have hs := hr.2
  simp only [Tm.name, Tm.args] at hs hn ⊢
  clear hr
  obtain ⟨a', cap', he, hlen, hcap⟩ := Tm.sd_form hs
  injection he with e0 e1 e2
  subst e0 e2
  clear e1
  unfold big at hlen
  have hbs := Tm.size_bulk (.node n ts)
  have hcs := Tm.count_size m (.node n ts)
  have hsd : Hid ((Tm.node n ts).count m = (if n = m then 1 else 0) + Tm.counts m ts) := by rw [Hid, Tm.count]
  rcases cnt_cases n m with ⟨hq, HZ⟩ | ⟨hq, HZ⟩
  · go_enter Try.func68, Try.ntmps68
    go_wp2_with fail
    go_loopw [5, 6] (fun x i wr => ∃ (k r : Nat), k ≤ ts.length ∧ i = .int .i64 k ∧ x = .int .i64 r ∧ r ≤ 1048577 ∧ Hid (r = (if n = m then 1 else 0) + Tm.counts m (ts.take k)) ∧ Below (w.heap.size + 1) (w.alloc (.cells #[.string n, .slice a ts.length cap] 29)) wr) (fun _ i _ => ts.length - (intOf i).toNat)
    case atStart => exact ⟨0, 1, Nat.zero_le _, rfl, rfl, by omega, by rw [Hid, ← HZ.out]; simp [Tm.counts], Below.refl _ _⟩
    case round =>
      obtain ⟨k, r, hk, rfl, rfl, hr1, HX, hb⟩ := hrel
      have hbw : Below w.heap.size w wr := ((Below.refl _ _).alloc (Nat.le_refl _) _).trans (hb.mono (by omega))
      have hz := hb.size
      simp only [World.size_alloc] at hz
      have hz0 : w.heap.size < wr.heap.size := by omega
      have e10 : wr.cell? ⟨w.heap.size, 0, none⟩ = some (.string n) := (hb.cell (by simp)).trans (box1 _ _ _ _)
      have e11 : wr.cell? ⟨w.heap.size, 1, none⟩ = some (.slice a ts.length cap) := (hb.cell (by simp)).trans (box1 _ _ _ _)
      by_cases hlt : k < ts.length
      · have hne : ts ≠ [] := by intro e; subst e; simp at hlt
        obtain ⟨b, off, rfl, hS, hbl, hrr⟩ := Tm.sd_get hs hne
        obtain ⟨c0, c1, q0, q1, q2⟩ := hrr k hlt
        obtain ⟨rfl, -, x, xc, rfl⟩ := Tm.at_form q2
        replace q0 := (hbw.cell (p := ⟨b, off + k * 2, none⟩) hbl).trans q0
        replace q1 := (hbw.cell (p := ⟨b, off + k * 2 + 1, none⟩) hbl).trans q1
        replace q2 := Tm.at_keep (Keeps.all hbw) q2
        have hmem := h ts[k] (List.getElem_mem hlt)
        clear hs hrr
        have hst := hid (Tm.counts_take m ts k hlt)
        have hsl := hid (Tm.counts_le m ts (k + 1))
        have hbm : ts[k].bulk ≤ 1048576 := by have := Tm.bulk_mem (List.getElem_mem hlt); rw [Tm.bulk] at hbk; omega
        have hsm : ts[k].count m ≤ 1048577 := by have := Tm.size_bulk ts[k]; have := Tm.count_size m ts[k]; omega
        go_wp2_with fail
        refine (hmem _ _ _ _ _ q2 hbm).mono ?_
        rintro e w2 ⟨_, rfl, hb3, rfl⟩
        obtain ⟨r2, HR⟩ : ∃ r2, Hid (ts[k].count m = r2) := ⟨_, hid rfl⟩
        rw [HR.out] at hsm ⊢
        have HS : Hid (r + r2 = (if n = m then 1 else 0) + Tm.counts m (ts.take (k + 1))) := by have := HX.out; have := HR.out; have := hst.out; show _ = _; omega
        have hr3 : r + r2 ≤ 1048577 := by have := HS.out; have := hsl.out; have := hsd.out; omega
        go_wp2_with fail
        go_roundw
        case rel => exact ⟨k + 1, r + r2, by omega, by go_num, by go_num, hr3, HS, hb.trans (hb3.mono hz)⟩
        case measure => simp [intOf]; omega
      · obtain rfl : k = ts.length := by omega
        have HS : Hid (r = (Tm.node n ts).count m) := by rw [Hid, hsd.out]; have := HX.out; rwa [List.take_length] at this
        go_wp2_with fail
        go_ret
        exact Gives.mk (ret_i64 (by rw [← HS.out])) hbw
  · go_enter Try.func68, Try.ntmps68
    go_wp2_with fail
    go_loopw [5, 6] (fun x i wr => ∃ (k r : Nat), k ≤ ts.length ∧ i = .int .i64 k ∧ x = .int .i64 r ∧ r ≤ 1048577 ∧ Hid (r = (if n = m then 1 else 0) + Tm.counts m (ts.take k)) ∧ Below (w.heap.size + 1) (w.alloc (.cells #[.string n, .slice a ts.length cap] 29)) wr) (fun _ i _ => ts.length - (intOf i).toNat)
    case atStart => exact ⟨0, 0, Nat.zero_le _, rfl, rfl, by omega, by rw [Hid, ← HZ.out]; simp [Tm.counts], Below.refl _ _⟩
    case round =>
      obtain ⟨k, r, hk, rfl, rfl, hr1, HX, hb⟩ := hrel
      have hbw : Below w.heap.size w wr := ((Below.refl _ _).alloc (Nat.le_refl _) _).trans (hb.mono (by omega))
      have hz := hb.size
      simp only [World.size_alloc] at hz
      have hz0 : w.heap.size < wr.heap.size := by omega
      have e10 : wr.cell? ⟨w.heap.size, 0, none⟩ = some (.string n) := (hb.cell (by simp)).trans (box1 _ _ _ _)
      have e11 : wr.cell? ⟨w.heap.size, 1, none⟩ = some (.slice a ts.length cap) := (hb.cell (by simp)).trans (box1 _ _ _ _)
      by_cases hlt : k < ts.length
      · have hne : ts ≠ [] := by intro e; subst e; simp at hlt
        obtain ⟨b, off, rfl, hS, hbl, hrr⟩ := Tm.sd_get hs hne
        obtain ⟨c0, c1, q0, q1, q2⟩ := hrr k hlt
        obtain ⟨rfl, -, x, xc, rfl⟩ := Tm.at_form q2
        replace q0 := (hbw.cell (p := ⟨b, off + k * 2, none⟩) hbl).trans q0
        replace q1 := (hbw.cell (p := ⟨b, off + k * 2 + 1, none⟩) hbl).trans q1
        replace q2 := Tm.at_keep (Keeps.all hbw) q2
        have hmem := h ts[k] (List.getElem_mem hlt)
        clear hs hrr
        have hst := hid (Tm.counts_take m ts k hlt)
        have hsl := hid (Tm.counts_le m ts (k + 1))
        have hbm : ts[k].bulk ≤ 1048576 := by have := Tm.bulk_mem (List.getElem_mem hlt); rw [Tm.bulk] at hbk; omega
        have hsm : ts[k].count m ≤ 1048577 := by have := Tm.size_bulk ts[k]; have := Tm.count_size m ts[k]; omega
        go_wp2_with fail
        refine (hmem _ _ _ _ _ q2 hbm).mono ?_
        rintro e w2 ⟨_, rfl, hb3, rfl⟩
        obtain ⟨r2, HR⟩ : ∃ r2, Hid (ts[k].count m = r2) := ⟨_, hid rfl⟩
        rw [HR.out] at hsm ⊢
        have HS : Hid (r + r2 = (if n = m then 1 else 0) + Tm.counts m (ts.take (k + 1))) := by have := HX.out; have := HR.out; have := hst.out; show _ = _; omega
        have hr3 : r + r2 ≤ 1048577 := by have := HS.out; have := hsl.out; have := hsd.out; omega
        go_wp2_with fail
        go_roundw
        case rel => exact ⟨k + 1, r + r2, by omega, by go_num, by go_num, hr3, HS, hb.trans (hb3.mono hz)⟩
        case measure => simp [intOf]; omega
      · obtain rfl : k = ts.length := by omega
        have HS : Hid (r = (Tm.node n ts).count m) := by rw [Hid, hsd.out]; have := HX.out; rwa [List.take_length] at this
        go_wp2_with fail
        go_ret
        exact Gives.mk (ret_i64 (by rw [← HS.out])) hbw
theorem SpecCount_any (t : Tm) : SpecCount t := Tm.ind (fun n ts h => SpecCount_of n ts h) t

def Tm.countR (t : Tm) (m : ByteArray) : Nat := if t.expr then t.count m else 0

set_option maxHeartbeats 1000000 in
theorem spec_CountSymbol {t : Tm} {S : Nat → Prop} {c0 c1 : Value} {w : World} {m : ByteArray} (hT : Tm.at S w c0 c1 t) (hbk : t.bulk ≤ 1048576) (_ : m.size ≤ 1048576) : Calls Try.prog 33 #[.agg #[c0, c1], .string m] w (Gives w (.tuple #[.int .i64 (t.countR m), .bool t.expr])) := by
  obtain ⟨rfl, hn, a, cap, rfl⟩ := Tm.at_form hT
  have hW : Below w.heap.size w (w.alloc (.cells #[.string t.name, .slice a t.args.length cap] 29)) := (Below.refl _ _).alloc (Nat.le_refl _) _
  have bT : Box (w.alloc (.cells #[.string t.name, .slice a t.args.length cap] 29)) w.heap.size [.string t.name, .slice a t.args.length cap] := Box.new w _ _
  replace hT := Tm.at_keep (Keeps.all hW) hT
  go_enter Try.func33, Try.ntmps33
  go_wp2_with fail
  generalize (w.alloc (.cells #[.string t.name, .slice a t.args.length cap] 29)) = w0 at *
  by_cases h : t.expr = true
  · have HS : Hid (t.count m = t.countR m) := by rw [Hid, Tm.countR, if_pos h]
    have HE := hid h
    refine (l2Any_any t hT hbk).mono ?_
    rintro e w1 ⟨_, rfl, hb, rfl⟩
    replace hW := hW.trans (hb.mono hW.size)
    replace bT := bT.keep hb
    replace hT := Tm.at_keep (Keeps.all hb) hT
    clear hb
    rw [h]
    have eT0 := bT.c0
    have eT1 := bT.c1
    have lT := bT.lt
    go_wp2_with fail
    clear eT0 eT1 lT
    clear h
    refine (SpecCount_any t m _ _ _ _ hT hbk).mono ?_
    rintro e w1 ⟨_, rfl, hb, rfl⟩
    replace hW := hW.trans (hb.mono hW.size)
    replace bT := bT.keep hb
    replace hT := Tm.at_keep (Keeps.all hb) hT
    clear hb
    have eT0 := bT.c0
    have eT1 := bT.c1
    have lT := bT.lt
    go_wp2_with fail
    clear eT0 eT1 lT
    go_ret2
    exact Gives.mk (by rw [HE.out, ← HS.out]; rfl) hW
  · replace h : t.expr = false := by simpa using h
    have HS : Hid (t.countR m = 0) := by simp [Hid, Tm.countR, h]
    have HE := hid h
    refine (l2Any_any t hT hbk).mono ?_
    rintro e w1 ⟨_, rfl, hb, rfl⟩
    replace hW := hW.trans (hb.mono hW.size)
    replace bT := bT.keep hb
    replace hT := Tm.at_keep (Keeps.all hb) hT
    clear hb
    rw [h]
    have eT0 := bT.c0
    have eT1 := bT.c1
    have lT := bT.lt
    go_wp2_with fail
    clear eT0 eT1 lT
    go_ret2
    exact Gives.mk (by rw [HE.out, HS.out]; rfl) hW

set_option maxHeartbeats 1000000 in
theorem impl_CountSymbol {t : Tm} {S : Nat → Prop} {c0 c1 : Value} {w : World} {m : ByteArray} (hT : Tm.at S w c0 c1 t) (hbk : t.bulk ≤ 1048576) (_ : m.size ≤ 1048576) : Calls Try.prog 34 #[.agg #[c0, c1], .string m] w (Gives w (.tuple #[.int .i64 (t.countR m), .bool t.expr])) := by
  obtain ⟨rfl, hn, a, cap, rfl⟩ := Tm.at_form hT
  have hW : Below w.heap.size w (w.alloc (.cells #[.string t.name, .slice a t.args.length cap] 29)) := (Below.refl _ _).alloc (Nat.le_refl _) _
  have bT : Box (w.alloc (.cells #[.string t.name, .slice a t.args.length cap] 29)) w.heap.size [.string t.name, .slice a t.args.length cap] := Box.new w _ _
  replace hT := Tm.at_keep (Keeps.all hW) hT
  go_enter Try.func34, Try.ntmps34
  go_wp2_with fail
  generalize (w.alloc (.cells #[.string t.name, .slice a t.args.length cap] 29)) = w0 at *
  by_cases h : t.expr = true
  · have HS : Hid (t.count m = t.countR m) := by rw [Hid, Tm.countR, if_pos h]
    have HE := hid h
    refine (isExpression_any t hT hbk).mono ?_
    rintro e w1 ⟨_, rfl, hb, rfl⟩
    replace hW := hW.trans (hb.mono hW.size)
    replace bT := bT.keep hb
    replace hT := Tm.at_keep (Keeps.all hb) hT
    clear hb
    rw [h]
    have eT0 := bT.c0
    have eT1 := bT.c1
    have lT := bT.lt
    go_wp2_with fail
    clear eT0 eT1 lT
    clear h
    refine (ImplCount_any t m _ _ _ _ hT hbk).mono ?_
    rintro e w1 ⟨_, rfl, hb, rfl⟩
    replace hW := hW.trans (hb.mono hW.size)
    replace bT := bT.keep hb
    replace hT := Tm.at_keep (Keeps.all hb) hT
    clear hb
    have eT0 := bT.c0
    have eT1 := bT.c1
    have lT := bT.lt
    go_wp2_with fail
    clear eT0 eT1 lT
    go_ret2
    exact Gives.mk (by rw [HE.out, ← HS.out]; rfl) hW
  · replace h : t.expr = false := by simpa using h
    have HS : Hid (t.countR m = 0) := by simp [Hid, Tm.countR, h]
    have HE := hid h
    refine (isExpression_any t hT hbk).mono ?_
    rintro e w1 ⟨_, rfl, hb, rfl⟩
    replace hW := hW.trans (hb.mono hW.size)
    replace bT := bT.keep hb
    replace hT := Tm.at_keep (Keeps.all hb) hT
    clear hb
    rw [h]
    have eT0 := bT.c0
    have eT1 := bT.c1
    have lT := bT.lt
    go_wp2_with fail
    clear eT0 eT1 lT
    go_ret2
    exact Gives.mk (by rw [HE.out, HS.out]; rfl) hW
end Go.Proofs.Ytbbagaiolmbcnaa
