/- Terms are compared: the walk of the program. -/
import Derived.Test.YtoekonkpephocaaCw
namespace Go.Proofs.Ytoekonkpephocaa
set_option maxRecDepth 100000
open Go.RowKit

theorem compareString_any (a b : ByteArray) (w : World) : Calls Try.prog 186 #[.string a, .string b] w fun e w' => e = .returned (.int .i64 (strCmp a b)) ∧ w = w' := by
  have isNaN : ∀ (s : ByteArray) (w : World), Calls Try.prog 194 #[.string s] w fun e w' => e = .returned (.bool false) ∧ w = w' := by
    intro s w
    go_enter Try.func194, Try.ntmps194
    go_wp2
    go_ret
    exact ⟨ret_bool (by simp), rfl⟩
  by_cases h1 : Op.bytesLess a.toList b.toList = true
  · have HX : Hid (strCmp a b = -1) := by rw [Hid, strCmp, if_pos h1]
    go_enter Try.func186, Try.ntmps186
    go_wp2_with (first | (go_at_call 194; refine (isNaN _ _).mono ?_; rintro e w' ⟨rfl, rfl⟩))
    go_ret
    exact ⟨ret_i64 HX.out.symm, rfl⟩
  · replace h1 : Op.bytesLess a.toList b.toList = false := by simpa using h1
    by_cases h2 : a = b
    · have HX : Hid (strCmp a b = 0) := by rw [Hid, strCmp, h1]; simp [h2]
      have h3 : (a.toList == b.toList) = true := by rw [h2]; simp
      clear h2
      go_enter Try.func186, Try.ntmps186
      go_wp2_with (first | (go_at_call 194; refine (isNaN _ _).mono ?_; rintro e w' ⟨rfl, rfl⟩))
      go_ret
      exact ⟨ret_i64 HX.out.symm, rfl⟩
    · have HX : Hid (strCmp a b = 1) := by rw [Hid, strCmp, h1]; simp [h2]
      have h3 := toList_ne h2
      clear h2
      go_enter Try.func186, Try.ntmps186
      go_wp2_with (first | (go_at_call 194; refine (isNaN _ _).mono ?_; rintro e w' ⟨rfl, rfl⟩))
      go_ret
      exact ⟨ret_i64 HX.out.symm, rfl⟩
theorem compareInt_any (a b : Int) (w : World) : Calls Try.prog 167 #[.int .i64 a, .int .i64 b] w fun e w' => e = .returned (.int .i64 (numCmp a b)) ∧ w = w' := by
  have isNaN : ∀ (s : Int) (w : World), Calls Try.prog 188 #[.int .i64 s] w fun e w' => e = .returned (.bool false) ∧ w = w' := by
    intro s w
    go_enter Try.func188, Try.ntmps188
    go_wp2
    go_ret
    exact ⟨ret_bool (by simp), rfl⟩
  by_cases h1 : a < b
  · have HX : Hid (numCmp a b = -1) := by rw [Hid, numCmp, if_pos h1]
    go_enter Try.func167, Try.ntmps167
    go_wp2_with (first | (go_at_call 188; refine (isNaN _ _).mono ?_; rintro e w' ⟨rfl, rfl⟩))
    go_ret
    exact ⟨ret_i64 HX.out.symm, rfl⟩
  · by_cases h2 : b < a
    · have HX : Hid (numCmp a b = 1) := by rw [Hid, numCmp, if_neg h1, if_pos h2]
      go_enter Try.func167, Try.ntmps167
      go_wp2_with (first | (go_at_call 188; refine (isNaN _ _).mono ?_; rintro e w' ⟨rfl, rfl⟩))
      go_ret
      exact ⟨ret_i64 HX.out.symm, rfl⟩
    · have HX : Hid (numCmp a b = 0) := by rw [Hid, numCmp, if_neg h1, if_neg h2]
      go_enter Try.func167, Try.ntmps167
      go_wp2_with (first | (go_at_call 188; refine (isNaN _ _).mono ?_; rintro e w' ⟨rfl, rfl⟩))
      go_ret
      exact ⟨ret_i64 HX.out.symm, rfl⟩

/-- the value is a slice of the two numbers -/
def TwoInts (x y : Int) (v : Value) (w : World) : Prop := ∃ b, v = .slice (some ⟨b, 0, none⟩) 2 2 ∧ b < w.heap.size ∧ w.cell? ⟨b, 0, none⟩ = some (.int .i64 x) ∧ w.cell? ⟨b, 1, none⟩ = some (.int .i64 y)
theorem TwoInts.stable {x y : Int} {w : World} : ∀ v w1 w2, Below w.heap.size w w1 → Below w1.heap.size w1 w2 → TwoInts x y v w1 → TwoInts x y v w2 :=
  fun _ _ _ _ hb ⟨b, e, hl, h0, h1⟩ => ⟨b, e, Nat.lt_of_lt_of_le hl hb.size, (hb.cell (p := ⟨b, 0, none⟩) hl).trans h0, (hb.cell (p := ⟨b, 1, none⟩) hl).trans h1⟩

theorem or_any {x y : Int} {v : Value} {w : World} (h : TwoInts x y v w) : Calls Try.prog 165 #[v] w (Gives w (.int .i64 (orZ x y))) := by
  obtain ⟨b, rfl, hl, h0, h1⟩ := h
  go_enter Try.func165, Try.ntmps165
  go_wp2_with fail
  go_loop [8] (fun i => ∃ k : Nat, k ≤ 2 ∧ i = .int .i64 k ∧ Hid ((1 ≤ k → x = 0) ∧ (2 ≤ k → y = 0))) (fun i => 2 - (intOf i).toNat)
  case atStart => exact ⟨0, by omega, rfl, fun h => absurd h (by omega), fun h => absurd h (by omega)⟩
  case round =>
    obtain ⟨k, hk, rfl, HK⟩ := hrel
    match k, hk, HK with
    | 0, _, HK =>
      by_cases hx : x = 0
      · have HX := hid hx
        have hx' : (x == 0) = true := by simp [hx]
        clear hx
        go_wp2_with fail
        go_round
        case rel => exact ⟨0 + 1, by omega, by go_num, fun _ => HX.out, fun h => absurd h (by omega)⟩
        case measure => simp [intOf]
      · have HX : Hid (orZ x y = x) := by rw [Hid, orZ, if_neg hx]
        have hx' : (x == 0) = false := by simp [hx]
        clear hx
        go_wp2_with fail
        go_ret
        exact Gives.mk (ret_i64 HX.out.symm) (Below.refl _ _)
    | 1, _, HK =>
      have hx := HK.out.1 (by omega)
      have HX : Hid (orZ x y = y) := by rw [Hid, orZ, if_pos hx]
      have HX0 := hid hx
      clear hx
      by_cases hy : y = 0
      · have HY := hid hy
        have hy' : (y == 0) = true := by simp [hy]
        clear hy
        go_wp2_with fail
        go_round
        case rel => exact ⟨1 + 1, by omega, by go_num, fun _ => HX0.out, fun _ => HY.out⟩
        case measure => simp [intOf]
      · have hy' : (y == 0) = false := by simp [hy]
        clear hy
        go_wp2_with fail
        go_ret
        exact Gives.mk (ret_i64 HX.out.symm) (Below.refl _ _)
    | 2, _, HK =>
      have HX : Hid (orZ x y = 0) := by rw [Hid, orZ, if_pos (HK.out.1 (by omega)), HK.out.2 (by omega)]
      go_wp2_with fail
      go_ret
      exact Gives.mk (ret_i64 HX.out.symm) (Below.refl _ _)

theorem isVar_any {t : Tm} (hni : t.nice = true) {S : Nat → Prop} {c0 c1 : Value} {w : World} (hT : Tm.at S w c0 c1 t) : Calls Try.prog 150 #[.agg #[c0, c1]] w (Gives w (.bool (varName t.name))) := by
  obtain ⟨h1, h2, _⟩ := (Tm.nice_iff t).1 hni
  have hlt : 0 < t.name.size := h1
  have hbe := byteAt_eq hlt
  have H2 := hid h2
  have hlt0 : (0 : Int) < t.name.size := by omega
  clear h2
  obtain ⟨rfl, hn, a, cap, rfl⟩ := Tm.at_form hT
  have hW : Below w.heap.size w (w.alloc (.cells #[.string t.name, .slice a t.args.length cap] 31)) := (Below.refl _ _).alloc (Nat.le_refl _) _
  have bT : Box (w.alloc (.cells #[.string t.name, .slice a t.args.length cap] 31)) w.heap.size [.string t.name, .slice a t.args.length cap] := Box.new w _ _
  replace hT := Tm.at_keep (Keeps.all hW) hT
  go_enter Try.func150, Try.ntmps150
  go_wp2_with fail
  generalize (w.alloc (.cells #[.string t.name, .slice a t.args.length cap] 31)) = w0 at *
  refine (isUpper_any (byteAt t.name 0) _).mono ?_
  rintro e w1 ⟨rfl, rfl⟩
  go_wp2_with fail
  go_ret
  exact Gives.mk (ret_bool H2.out) hW

/-- f compares two terms whose names tell by their first bytes -/
def CmpsN (f : FuncId) (t : Tm) : Prop := ∀ ⦃u : Tm⦄ ⦃S : Nat → Prop⦄ ⦃c0 c1 d0 d1 : Value⦄ ⦃w : World⦄, t.nice = true → u.nice = true → Tm.at S w c0 c1 t → Tm.at S w d0 d1 u → Calls Try.prog f #[.agg #[c0, c1], .agg #[d0, d1]] w (Gives w (.int .i64 (Tm.cmp t u)))

set_option maxHeartbeats 2000000 in
theorem compareFuncT (f : FuncId) (hcf : Callable f) (ts us : List Tm) (hll : ts.length = us.length) (h : ∀ t ∈ ts, CmpsN f t) (ht : ∀ t ∈ ts, t.nice = true) (hu : ∀ t ∈ us, t.nice = true) {S : Nat → Prop} {v v' : Value} {w : World} (hs : D.rd S w v (Tm.sd ts)) (hs' : D.rd S w v' (Tm.sd us)) :
    Calls Try.prog 187 #[v, v', .func (.func f) #[] #[]] w (Gives w (.int .i64 (Tm.cmps ts us))) := by
  obtain ⟨a, cap, rfl, hlen, hcap⟩ := Tm.sd_form hs
  obtain ⟨a', cap', rfl, hlen', hcap'⟩ := Tm.sd_form hs'
  unfold big at hlen hlen'
  unfold Callable at hcf
  have HL := hid hll
  rw [← hll] at hs' hlen' hcap' ⊢
  clear hll
  go_enter Try.func187, Try.ntmps187
  go_wp2_with fail
  go_loopw [13] (fun i wr => ∃ (k : Nat), k ≤ ts.length ∧ i = .int .i64 k ∧ Hid (Tm.cmps ts us = Tm.cmps (ts.drop k) (us.drop k)) ∧ Below w.heap.size w wr) (fun i _ => ts.length - (intOf i).toNat)
  case atStart => exact ⟨0, Nat.zero_le _, rfl, by simp [Hid], Below.refl _ _⟩
  case round =>
    obtain ⟨k, hk, rfl, HK, hb⟩ := hrel
    by_cases hlt : k < ts.length
    · have hlt' : k < us.length := by rw [← HL.out]; exact hlt
      have hne : ts ≠ [] := by intro e; rw [e] at hlt; simp at hlt
      have hne' : us ≠ [] := by intro e; rw [e] at hlt'; simp at hlt'
      obtain ⟨b, off, rfl, hS, hbl, hrr⟩ := Tm.sd_get hs hne
      obtain ⟨b', off', rfl, hS', hbl', hrr'⟩ := Tm.sd_get hs' hne'
      obtain ⟨x0, x1, q0, q1, qx⟩ := hrr k hlt
      obtain ⟨y0, y1, r0, r1, rx⟩ := hrr' k hlt'
      obtain ⟨rfl, -, x, xc, rfl⟩ := Tm.at_form qx
      obtain ⟨rfl, -, y, yc, rfl⟩ := Tm.at_form rx
      replace q0 := (hb.cell (p := ⟨b, off + k * 2, none⟩) hbl).trans q0
      replace q1 := (hb.cell (p := ⟨b, off + k * 2 + 1, none⟩) hbl).trans q1
      replace r0 := (hb.cell (p := ⟨b', off' + k * 2, none⟩) hbl').trans r0
      replace r1 := (hb.cell (p := ⟨b', off' + k * 2 + 1, none⟩) hbl').trans r1
      have p0 := fun o => cell_alloc r0 o
      have p1 := fun o => cell_alloc r1 o
      replace qx := Tm.at_keep (Keeps.all hb) qx
      replace rx := Tm.at_keep (Keeps.all hb) rx
      have hmem := h ts[k] (List.getElem_mem hlt)
      have ht1 := ht ts[k] (List.getElem_mem hlt)
      have hu1 := hu us[k] (List.getElem_mem hlt')
      have HT := hid ht1
      have HU := hid hu1
      have HS := hid (Tm.cmps_drop hlt hlt')
      have hcin := Tm.cmp_in ts[k] us[k]
      have hge : ¬ (ts.length : Int) ≤ k := by omega
      clear hrr hrr' hs hs' ht hu ht1 hu1
      go_wp2_with fail
      have hbx : Below wr.heap.size wr ((wr.alloc (.cells #[.string ts[k].name, .slice x ts[k].args.length xc] 31)).alloc (.cells #[.string us[k].name, .slice y us[k].args.length yc] 31)) := ((Below.refl _ _).alloc (Nat.le_refl _) _).alloc (by simp) _
      refine (hmem HT.out HU.out (Tm.at_keep (Keeps.all hbx) qx) (Tm.at_keep (Keeps.all hbx) rx)).mono ?_
      rintro e w2 ⟨_, rfl, hb2, rfl⟩
      have hb3 := hbx.trans (hb2.mono hbx.size)
      clear hbx hb2
      by_cases hc : Tm.cmp ts[k] us[k] = 0
      · have HZ : Hid (Tm.cmps ts us = Tm.cmps (ts.drop (k + 1)) (us.drop (k + 1))) := by rw [Hid, HK.out, HS.out, hc, orZ, if_pos rfl]
        rw [hc]
        go_wp2_with fail
        go_roundw
        case rel => exact ⟨k + 1, by omega, by go_num, HZ, hb.trans (hb3.mono hb.size)⟩
        case measure => simp [intOf]; omega
      · have HZ : Hid (Tm.cmps ts us = Tm.cmp ts[k] us[k]) := by rw [Hid, HK.out, HS.out, orZ, if_neg hc]
        have hc' : (Tm.cmp ts[k] us[k] == 0) = false := by simp [hc]
        clear hc
        go_wp2_with fail
        go_ret
        exact Gives.mk (ret_i64 HZ.out.symm) (hb.trans (hb3.mono hb.size))
    · obtain rfl : k = ts.length := by omega
      have HZ : Hid (Tm.cmps ts us = 0) := by rw [Hid, HK.out, Tm.cmps_end]
      have hnl : ¬ (ts.length : Int) < ts.length := by omega
      go_wp2_with fail
      go_ret
      exact Gives.mk (ret_i64 HZ.out.symm) hb
end Go.Proofs.Ytoekonkpephocaa
