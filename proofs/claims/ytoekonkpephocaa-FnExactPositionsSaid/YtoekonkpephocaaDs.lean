/- The first position at which two terms differ: the reference's. -/
import Derived.Test.YtoekonkpephocaaDg
import Derived.Deep.RegionHeld3
namespace Go.Proofs.Ytoekonkpephocaa
set_option maxRecDepth 100000
open Go.RowKit

set_option maxHeartbeats 1000000 in
theorem l1Own_any {zs : List Int} {S : Nat → Prop} {b off c : Nat} {w : World} (h : D.rd S w (.slice (some ⟨b, off, none⟩) zs.length c) (slOf intE zs)) (hl : zs.length ≤ 1073741824) :
    Calls Try.prog 108 #[.slice (some ⟨b, off, none⟩) zs.length c] w fun e w' => ∃ v, e = .returned v ∧ GI w' w.heap.size v zs ∧ v ≠ .slice none 0 0 ∧ Below w.heap.size w w' := by
  have hA : Below w.heap.size w (w.alloc (.cells #[] 3)) := (Below.refl _ _).alloc (Nat.le_refl _) _
  have h1 := D.rd_keep (Keeps.all hA) _ _ h
  go_enter Try.func108, Try.ntmps108
  go_wp2_with (refine wpList_append_ints (B := w.heap.size) (xs := []) (ys := zs) rfl _ _ (by rfl) (by rfl) (by rfl) (by rfl) (GI.made rfl (Nat.le_refl _)) h1 (by simp; omega) (by simp) ?_; intro v' w2 hg hgr hgo hgn)
  go_ret
  exact ⟨_, rfl, hg, hgn (by intro e; cases e), below_grown hA hgr (by simp) (fun x hx => by have hx' : w.heap.size = x := Option.some.inj hx; omega)⟩

/-- a list of ints that reads, if there is one -/
def RdI (r : Option (List Int)) (w : World) (e : Ending) (w' : World) : Prop := ∃ v, e = .returned (.tuple #[v, .bool r.isSome]) ∧ D.rd (fun _ => True) w' v (slOf intE (r.getD [])) ∧ Below w.heap.size w w'
theorem RdI.made {w w' : World} {n : Nat} (hb : Below w.heap.size w w') : RdI none w (.returned (.tuple #[.slice (some ⟨n, 0, none⟩) 0 0, .bool false])) w' := by
  refine ⟨_, rfl, ?_, hb⟩
  rw [Option.getD, slOf, D.rd]
  exact ⟨_, _, rfl, by simp, by simp, by simp, by simp⟩
def DiffSpec (t : Tm) : Prop := ∀ (u : Tm) (pre : List Int) (S S' : Nat → Prop) (c0 c1 d0 d1 : Value) (pb pc : Nat) (w : World), Tm.at S w c0 c1 t → Tm.at S w d0 d1 u → t.bulk ≤ 1048576 → pre.length + t.bulk ≤ 4194304 → D.rd S' w (.slice (some ⟨pb, 0, none⟩) pre.length pc) (slOf intE pre) →
  Calls Try.prog 59 #[.agg #[c0, c1], .agg #[d0, d1], .slice (some ⟨pb, 0, none⟩) pre.length pc] w (RdI ((t.diff u).map (pre ++ ·)) w)

set_option maxHeartbeats 4000000 in
theorem diffSpec_of (t : Tm) (ih : ∀ a ∈ t.args, DiffSpec a) : DiffSpec t := by
  intro u pre S S' c0 c1 d0 d1 pb pc w ht hu hbk hpl hpr
  have HS := hid ht.2
  have HSu := hid hu.2
  have HP := hid hpr
  clear hpr
  obtain ⟨_, _, e, hlen, -⟩ := Tm.sd_form HS.out
  unfold big at hlen
  clear e
  obtain ⟨rfl, tn, ta, tc, rfl⟩ := Tm.at_form ht
  obtain ⟨rfl, un, ua, uc, rfl⟩ := Tm.at_form hu
  have hW : Below w.heap.size w ((w.alloc (.cells #[.string t.name, .slice ta t.args.length tc] 31)).alloc (.cells #[.string u.name, .slice ua u.args.length uc] 31)) := ((Below.refl _ _).alloc (Nat.le_refl _) _).alloc (by simp) _
  by_cases hnm : t.name = u.name
  · have hq : (t.name.toList == u.name.toList) = true := by rw [hnm]; simp
    by_cases hll : t.args.length = u.args.length
    · have hq1 : ((t.args.length : Int) == u.args.length) = true := by simp [hll]
      have hq2 : ((t.args.length : Int) != u.args.length) = false := by simp [hll]
      have HD : Hid (t.diff u = Tm.diffs t.args u.args 0) := by rw [Hid, Tm.diff_eq, if_pos ⟨hnm, hll⟩]
      clear hnm
      have Hll := hid hll
      clear hll
      have bt : Box ((w.alloc (.cells #[.string t.name, .slice ta t.args.length tc] 31)).alloc (.cells #[.string u.name, .slice ua u.args.length uc] 31)) w.heap.size [.string t.name, .slice ta t.args.length tc] := (Box.new w _ _).alloc _
      have bu : Box ((w.alloc (.cells #[.string t.name, .slice ta t.args.length tc] 31)).alloc (.cells #[.string u.name, .slice ua u.args.length uc] 31)) (w.heap.size + 1) [.string u.name, .slice ua u.args.length uc] := by
        have := Box.new (w.alloc (.cells #[.string t.name, .slice ta t.args.length tc] 31)) [.string u.name, .slice ua u.args.length uc] 31
        simpa only [World.size_alloc] using this
      have x0 := bt.c0
      have x1 := bt.c1
      have y0 := bu.c0
      have y1 := bu.c1
      have hzz : w.heap.size + 1 + 1 ≤ ((w.alloc (.cells #[.string t.name, .slice ta t.args.length tc] 31)).alloc (.cells #[.string u.name, .slice ua u.args.length uc] 31)).heap.size := by simp
      go_enter Try.func59, Try.ntmps59
      go_wp2_with fail
      clear x0 x1 y0 y1
      generalize (w.alloc (.cells #[.string t.name, .slice ta t.args.length tc] 31)).alloc (.cells #[.string u.name, .slice ua u.args.length uc] 31) = w0 at *
      go_loopw [8] (fun i wr => ∃ k : Nat, k ≤ t.args.length ∧ i = .int .i64 k ∧ Hid (t.diff u = Tm.diffs (t.args.drop k) (u.args.drop k) k) ∧ Below w0.heap.size w0 wr) (fun i _ => t.args.length - (intOf i).toNat)
      case atStart => exact ⟨0, Nat.zero_le _, rfl, HD, Below.refl _ _⟩
      case round =>
        obtain ⟨k, hk, rfl, HX, hb⟩ := hrel
        have hz := hb.size
        have hbw := hW.trans (hb.mono hW.size)
        have x1 := (bt.keep hb).c1
        have y1 := (bu.keep hb).c1
        by_cases hlt : k < t.args.length
        · have hlt' : k < u.args.length := by have := Hll.out; omega
          have hne : t.args ≠ [] := by intro e; rw [e] at hlt; simp at hlt
          have hne' : u.args ≠ [] := by intro e; rw [e] at hlt'; simp at hlt'
          obtain ⟨b, off, rfl, -, hbl, hrr⟩ := Tm.sd_get (D.rd_keep (Keeps.all hbw) _ _ HS.out) hne
          obtain ⟨b', off', rfl, -, hbl', hrr'⟩ := Tm.sd_get (D.rd_keep (Keeps.all hbw) _ _ HSu.out) hne'
          obtain ⟨c0, c1, q0, q1, q2⟩ := hrr k hlt
          obtain ⟨d0, d1, r0, r1, r2⟩ := hrr' k hlt'
          have hmem := ih t.args[k] (List.getElem_mem hlt)
          have hbm := Tm.bulk_mem (List.getElem_mem hlt)
          have hba := Tm.args_bulk t
          have hbk' : t.args[k].bulk ≤ 1048576 := by omega
          have hbk2 : 1 + t.args[k].bulk ≤ t.bulk := by have : t.bulk = t.name.size + t.args.length + Tm.bulks t.args := by { cases t; rw [Tm.bulk]; rfl }; omega
          clear hbm hba
          have HN := hid (Tm.diffs_at t.args u.args k hlt hlt' k)
          obtain ⟨rfl, -, qa, qc, rfl⟩ := Tm.at_form q2
          obtain ⟨rfl, -, ra, rc, rfl⟩ := Tm.at_form r2
          have hD : Below wr.heap.size wr wr.drew := (Below.refl _ _).drew
          have hDA : Below wr.heap.size wr (wr.alloc (.cells #[.int .i64 k] 3)).drew := ((Below.refl _ _).alloc (Nat.le_refl _) _).drew
          have hpr := D.rd_keep (Keeps.all hbw) _ _ HP.out
          have hki : IsI64 (k : Int) := ⟨by omega, by omega⟩
          have hwz : w.heap.size + 1 < wr.heap.size := by omega
          clear hrr hrr'
          obtain ⟨r, Hr⟩ : ∃ r, Hid (Tm.diff t.args[k] u.args[k] = r) := ⟨_, hid rfl⟩
          obtain ⟨pre2, Hp2⟩ : ∃ p2, Hid (pre ++ [(k : Int)] = p2) := ⟨_, hid rfl⟩
          have hp2l : pre2.length + t.args[k].bulk ≤ 4194304 := by rw [← Hp2.out]; simp; omega
          obtain ⟨bo, Hbo⟩ : ∃ bo, Hid (r.isSome = bo) := ⟨_, hid rfl⟩
          go_wp2_with fail
          go_region_held3 (fun w' => w'.cell? ⟨w.heap.size, 1, none⟩ = some (.slice (some ⟨b, off, none⟩) t.args.length tc) ∧ w'.cell? ⟨w.heap.size + 1, 1, none⟩ = some (.slice (some ⟨b', off', none⟩) u.args.length uc) ∧ w'.cell? ⟨b, off + k * 2, none⟩ = some (.string t.args[k].name) ∧ w'.cell? ⟨b, off + k * 2 + 1, none⟩ = some (.slice qa t.args[k].args.length qc) ∧ w'.cell? ⟨b', off' + k * 2, none⟩ = some (.string u.args[k].name) ∧ w'.cell? ⟨b', off' + k * 2 + 1, none⟩ = some (.slice ra u.args[k].args.length rc))
            (first | assumption | go_keep)
            (first
              | (go_at_call 108
                 go_must (
                   refine (l1Own_any (by first | exact D.rd_keep (Keeps.all hD) _ _ hpr | exact D.rd_keep (Keeps.all hDA) _ _ hpr) (by omega)).mono ?_
                   rintro e w1 ⟨v1, rfl, hg1, hn1, hb1⟩
                   have hbw1 : Below wr.heap.size wr w1 := by first | exact hD.trans (hb1.mono hD.size) | exact hDA.trans (hb1.mono hDA.size)
                   have hz1 := hbw1.size
                   have hS : _ ∧ _ ∧ _ ∧ _ ∧ _ ∧ _ := ⟨(hbw1.cell (p := ⟨w.heap.size, 1, none⟩) (by simp; omega)).trans x1, (hbw1.cell (p := ⟨w.heap.size + 1, 1, none⟩) (by simp; omega)).trans y1, (hbw1.cell (p := ⟨b, off + k * 2, none⟩) hbl).trans q0, (hbw1.cell (p := ⟨b, off + k * 2 + 1, none⟩) hbl).trans q1, (hbw1.cell (p := ⟨b', off' + k * 2, none⟩) hbl').trans r0, (hbw1.cell (p := ⟨b', off' + k * 2 + 1, none⟩) hbl').trans r1⟩))
              | (go_at_call 59
                 go_must (
                   have hq3 := hmem u.args[k] pre2 S _ _ _ _ _ _ _ _ (Tm.at_keep (Keeps.all hb2) q2) (Tm.at_keep (Keeps.all hb2) r2) hbk' hp2l hg2.rd
                   rw [Hr.out] at hq3
                   refine hq3.mono ?_
                   rintro e w3 ⟨v3, rfl, hr3, hb3⟩
                   rw [Option.isSome_map, Hbo.out]
                   have hbw3 : Below wr.heap.size wr w3 := hb2.trans (hb3.mono hb2.size)
                   have hS : _ ∧ _ ∧ _ ∧ _ ∧ _ ∧ _ := ⟨(hbw3.cell (p := ⟨w.heap.size, 1, none⟩) (by simp; omega)).trans x1, (hbw3.cell (p := ⟨w.heap.size + 1, 1, none⟩) (by simp; omega)).trans y1, (hbw3.cell (p := ⟨b, off + k * 2, none⟩) hbl).trans q0, (hbw3.cell (p := ⟨b, off + k * 2 + 1, none⟩) hbl).trans q1, (hbw3.cell (p := ⟨b', off' + k * 2, none⟩) hbl').trans r0, (hbw3.cell (p := ⟨b', off' + k * 2 + 1, none⟩) hbl').trans r1⟩))
              | (refine step_append_ints (B := wr.heap.size) (xs := pre) (ys := [(k : Int)]) (S := fun _ => True) rfl _ _ (by rfl) (by rfl) (by rfl) (by rfl) (by first | exact (hg1.mono (by simp)).keep ((Below.refl _ _).alloc (Nat.le_refl _) _) | exact hg1.mono (by simp)) (by first | exact (GI.one hki rfl (Nat.le_refl _)).rd | exact D.rd_keep (Keeps.all hb1) _ _ (D.rd_keep (Keeps.all ((Below.refl _ _).drew)) _ _ (GI.one hki rfl (Nat.le_refl _)).rd)) (by simp; omega) (by first | (simp; omega) | omega) ?_
                 intro v2 w2 hg2 hgr2 hgo2 hgn2
                 rw [Hp2.out] at hg2
                 obtain ⟨pb2, pc2, rfl⟩ := hg2.addr (hgn2 hn1)
                 have hb2 : Below wr.heap.size wr w2 := below_grown (by first | exact hbw1.alloc hbw1.size _ | exact hbw1) hgr2 (by first | (simp; omega) | omega) (fun x hx => by have := (Gr.lt hg1 x hx).1; simp at this; omega)
                 have hS : _ ∧ _ ∧ _ ∧ _ ∧ _ ∧ _ := ⟨(hb2.cell (p := ⟨w.heap.size, 1, none⟩) (by simp; omega)).trans x1, (hb2.cell (p := ⟨w.heap.size + 1, 1, none⟩) (by simp; omega)).trans y1, (hb2.cell (p := ⟨b, off + k * 2, none⟩) hbl).trans q0, (hb2.cell (p := ⟨b, off + k * 2 + 1, none⟩) hbl).trans q1, (hb2.cell (p := ⟨b', off' + k * 2, none⟩) hbl').trans r0, (hb2.cell (p := ⟨b', off' + k * 2 + 1, none⟩) hbl').trans r1⟩))
          all_goals
            have hbe := hbw.trans (hbw3.mono hbw.size)
            cases bo with
            | false =>
              have HN2 : Hid (Tm.diffs (t.args.drop k) (u.args.drop k) k = Tm.diffs (t.args.drop (k + 1)) (u.args.drop (k + 1)) (k + 1)) := by
                have h0 := Hbo.out
                cases r with
                | none => rw [Hid, HN.out, Hr.out]
                | some p => cases h0
              go_wp2_with fail
              go_roundw
              case rel => exact ⟨k + 1, by omega, by go_num, hid (HX.out.trans HN2.out), hb.trans (hbw3.mono hz)⟩
              case measure => simp [intOf]; omega
            | true =>
              obtain ⟨p, Hp⟩ : ∃ p, Hid (r = some p) := by
                have h0 := Hbo.out
                cases r with
                | none => cases h0
                | some p => exact ⟨p, hid rfl⟩
              have HN2 : Hid (t.diff u = some ((k : Int) :: p)) := by rw [Hid, HX.out, HN.out, Hr.out, Hp.out]
              have hr4 : D.rd (fun _ => True) w3 v3 (slOf intE (pre ++ (k : Int) :: p)) := by
                have := hr3
                rw [Hp.out, ← Hp2.out] at this
                simpa using this
              obtain ⟨va, vc, rfl, -, -⟩ := slOf_form hr4
              go_wp2_with fail
              go_ret2
              rw [HN2.out]
              exact ⟨_, rfl, hr4, hbe⟩
        · obtain rfl : k = t.args.length := by omega
          have HN : Hid (t.diff u = none) := by rw [Hid, HX.out, Tm.diffs_end]
          go_wp2_with fail
          go_ret2
          rw [HN.out]
          exact RdI.made (hbw.alloc hbw.size _)
    · have hq1 : ((t.args.length : Int) == u.args.length) = false := by simp; omega
      have hq2 : ((t.args.length : Int) != u.args.length) = true := by simp; omega
      have HD : Hid (t.diff u = some []) := by rw [Hid, Tm.diff_eq, if_neg (fun h => hll h.2)]
      clear hnm hll
      go_enter Try.func59, Try.ntmps59
      go_wp2_with fail
      go_ret2
      rw [HD.out]
      exact ⟨_, rfl, by simpa using D.rd_all (D.rd_keep (Keeps.all hW) _ _ HP.out), hW⟩
  · have hq := toList_ne hnm
    have HD : Hid (t.diff u = some []) := by rw [Hid, Tm.diff_eq, if_neg (fun h => hnm h.1)]
    clear hnm
    go_enter Try.func59, Try.ntmps59
    go_wp2_with fail
    go_ret2
    rw [HD.out]
    exact ⟨_, rfl, by simpa using D.rd_all (D.rd_keep (Keeps.all hW) _ _ HP.out), hW⟩
theorem diffSpec_any (t : Tm) : DiffSpec t := Tm.ind' diffSpec_of t

/-- the first difference of two expressions -/
def disR (a b : Tm) : List Int := if a.expr = true ∧ b.expr = true then (a.diff b).getD [] else []
def disOk (a b : Tm) : Bool := a.expr && (b.expr && (a.diff b).isSome)
theorem disR_length (a b : Tm) (h : a.bulk ≤ 1048576) : (disR a b).length ≤ 1048576 := by
  unfold disR
  split
  · cases hd : a.diff b with
    | none => simp
    | some p => have := Tm.diff_length a b p hd; simp; omega
  · simp

set_option maxHeartbeats 2000000 in
theorem impl_Disagreement {t u : Tm} {S : Nat → Prop} {c0 c1 d0 d1 : Value} {w : World} (ht : Tm.at S w c0 c1 t) (hbt : t.bulk ≤ 1048576) (hu : Tm.at S w d0 d1 u) (hbu : u.bulk ≤ 1048576) :
    Calls Try.prog 14 #[.agg #[c0, c1], .agg #[d0, d1]] w (OutD id (slOf intE (disR t u)) (disOk t u) w) := by
  by_cases h1 : t.expr = true
  · by_cases h2 : u.expr = true
    · have HR : Hid (disR t u = (t.diff u).getD []) := by rw [Hid, disR, if_pos ⟨h1, h2⟩]
      have HO : Hid (disOk t u = (t.diff u).isSome) := by rw [Hid, disOk, h1, h2]; rfl
      have HE := hid h1
      have HF := hid h2
      clear h1 h2
      rw [HR.out, HO.out]
      obtain ⟨r, Hr⟩ : ∃ r, Hid (t.diff u = r) := ⟨_, hid rfl⟩
      rw [Hr.out]
      obtain ⟨rfl, tn, ta, tc, rfl⟩ := Tm.at_form ht
      obtain ⟨rfl, un, ua, uc, rfl⟩ := Tm.at_form hu
      have hW : Below w.heap.size w ((w.alloc (.cells #[.string t.name, .slice ta t.args.length tc] 31)).alloc (.cells #[.string u.name, .slice ua u.args.length uc] 31)) := ((Below.refl _ _).alloc (Nat.le_refl _) _).alloc (by simp) _
      have bt : Box ((w.alloc (.cells #[.string t.name, .slice ta t.args.length tc] 31)).alloc (.cells #[.string u.name, .slice ua u.args.length uc] 31)) (w.heap.size) [.string t.name, .slice ta t.args.length tc] := by
        have := (Box.new w [.string t.name, .slice ta t.args.length tc] 31).alloc (.cells #[.string u.name, .slice ua u.args.length uc] 31)
        simpa only [World.size_alloc] using this
      have bu : Box ((w.alloc (.cells #[.string t.name, .slice ta t.args.length tc] 31)).alloc (.cells #[.string u.name, .slice ua u.args.length uc] 31)) (w.heap.size + 1) [.string u.name, .slice ua u.args.length uc] := by
        have := (Box.new (w.alloc (.cells #[.string t.name, .slice ta t.args.length tc] 31)) [.string u.name, .slice ua u.args.length uc] 31)
        simpa only [World.size_alloc] using this
      replace ht := Tm.at_keep (Keeps.all hW) ht
      replace hu := Tm.at_keep (Keeps.all hW) hu
      have et0 := bt.c0
      have et1 := bt.c1
      have lt := bt.lt
      have eu0 := bu.c0
      have eu1 := bu.c1
      have lu := bu.lt
      go_enter Try.func14, Try.ntmps14
      go_wp2_with fail
      clear et0 et1 lt eu0 eu1 lu
      have Hw0 : Hid (((w.alloc (.cells #[.string t.name, .slice ta t.args.length tc] 31)).alloc (.cells #[.string u.name, .slice ua u.args.length uc] 31)).heap.size = w.heap.size + 1 + 1) := by simp [Hid]
      generalize ((w.alloc (.cells #[.string t.name, .slice ta t.args.length tc] 31)).alloc (.cells #[.string u.name, .slice ua u.args.length uc] 31)) = w0 at *
      refine (isExpression_any t ht hbt).mono ?_
      rintro e w1 ⟨_, rfl, hb, rfl⟩
      replace hW := hW.trans (hb.mono hW.size)
      replace bt := bt.keep hb
      replace ht := Tm.at_keep (Keeps.all hb) ht
      replace bu := bu.keep hb
      replace hu := Tm.at_keep (Keeps.all hb) hu
      clear hb
      rw [HE.out]
      have et0 := bt.c0
      have et1 := bt.c1
      have lt := bt.lt
      have eu0 := bu.c0
      have eu1 := bu.c1
      have lu := bu.lt
      go_wp2_with fail
      clear et0 et1 lt eu0 eu1 lu
      refine (isExpression_any u hu hbu).mono ?_
      rintro e w1 ⟨_, rfl, hb, rfl⟩
      replace hW := hW.trans (hb.mono hW.size)
      replace bt := bt.keep hb
      replace ht := Tm.at_keep (Keeps.all hb) ht
      replace bu := bu.keep hb
      replace hu := Tm.at_keep (Keeps.all hb) hu
      clear hb
      rw [HF.out]
      have et0 := bt.c0
      have et1 := bt.c1
      have lt := bt.lt
      have eu0 := bu.c0
      have eu1 := bu.c1
      have lu := bu.lt
      go_wp2_with fail
      clear et0 et1 lt eu0 eu1 lu
      have hq := diffImpl_any t u _ _ _ _ _ _ ht hu hbt
      rw [Hr.out] at hq
      refine hq.mono ?_
      rintro e w2 ⟨v, F, rfl, ho, hF, hb, -⟩
      have hzW := hW.size
      have hbe := hW.trans (hb.mono hW.size)
      go_wp2_with fail
      go_ret2
      exact ⟨v, F, rfl, ho, fun x hx => Nat.le_trans hzW (hF x hx), hbe⟩
    · have HF := hid (Bool.eq_false_iff.2 h2)
      have HE := hid h1
      have HR : Hid (disR t u = []) := by rw [Hid, disR, if_neg (fun h => h2 h.2)]
      have HO : Hid (disOk t u = false) := by rw [Hid, disOk, HF.out]; simp
      clear h1 h2
      rw [HR.out, HO.out]
      obtain ⟨rfl, tn, ta, tc, rfl⟩ := Tm.at_form ht
      obtain ⟨rfl, un, ua, uc, rfl⟩ := Tm.at_form hu
      have hW : Below w.heap.size w ((w.alloc (.cells #[.string t.name, .slice ta t.args.length tc] 31)).alloc (.cells #[.string u.name, .slice ua u.args.length uc] 31)) := ((Below.refl _ _).alloc (Nat.le_refl _) _).alloc (by simp) _
      have bt : Box ((w.alloc (.cells #[.string t.name, .slice ta t.args.length tc] 31)).alloc (.cells #[.string u.name, .slice ua u.args.length uc] 31)) (w.heap.size) [.string t.name, .slice ta t.args.length tc] := by
        have := (Box.new w [.string t.name, .slice ta t.args.length tc] 31).alloc (.cells #[.string u.name, .slice ua u.args.length uc] 31)
        simpa only [World.size_alloc] using this
      have bu : Box ((w.alloc (.cells #[.string t.name, .slice ta t.args.length tc] 31)).alloc (.cells #[.string u.name, .slice ua u.args.length uc] 31)) (w.heap.size + 1) [.string u.name, .slice ua u.args.length uc] := by
        have := (Box.new (w.alloc (.cells #[.string t.name, .slice ta t.args.length tc] 31)) [.string u.name, .slice ua u.args.length uc] 31)
        simpa only [World.size_alloc] using this
      replace ht := Tm.at_keep (Keeps.all hW) ht
      replace hu := Tm.at_keep (Keeps.all hW) hu
      have et0 := bt.c0
      have et1 := bt.c1
      have lt := bt.lt
      have eu0 := bu.c0
      have eu1 := bu.c1
      have lu := bu.lt
      go_enter Try.func14, Try.ntmps14
      go_wp2_with fail
      clear et0 et1 lt eu0 eu1 lu
      have Hw0 : Hid (((w.alloc (.cells #[.string t.name, .slice ta t.args.length tc] 31)).alloc (.cells #[.string u.name, .slice ua u.args.length uc] 31)).heap.size = w.heap.size + 1 + 1) := by simp [Hid]
      generalize ((w.alloc (.cells #[.string t.name, .slice ta t.args.length tc] 31)).alloc (.cells #[.string u.name, .slice ua u.args.length uc] 31)) = w0 at *
      refine (isExpression_any t ht hbt).mono ?_
      rintro e w1 ⟨_, rfl, hb, rfl⟩
      replace hW := hW.trans (hb.mono hW.size)
      replace bt := bt.keep hb
      replace ht := Tm.at_keep (Keeps.all hb) ht
      replace bu := bu.keep hb
      replace hu := Tm.at_keep (Keeps.all hb) hu
      clear hb
      rw [HE.out]
      have et0 := bt.c0
      have et1 := bt.c1
      have lt := bt.lt
      have eu0 := bu.c0
      have eu1 := bu.c1
      have lu := bu.lt
      go_wp2_with fail
      clear et0 et1 lt eu0 eu1 lu
      refine (isExpression_any u hu hbu).mono ?_
      rintro e w1 ⟨_, rfl, hb, rfl⟩
      replace hW := hW.trans (hb.mono hW.size)
      replace bt := bt.keep hb
      replace ht := Tm.at_keep (Keeps.all hb) ht
      replace bu := bu.keep hb
      replace hu := Tm.at_keep (Keeps.all hb) hu
      clear hb
      rw [HF.out]
      have et0 := bt.c0
      have et1 := bt.c1
      have lt := bt.lt
      have eu0 := bu.c0
      have eu1 := bu.c1
      have lu := bu.lt
      go_wp2_with fail
      clear et0 et1 lt eu0 eu1 lu
      go_ret2
      exact ⟨_, [], rfl, D.own_nil _ _, by simp, hW⟩
  · have HE := hid (Bool.eq_false_iff.2 h1)
    have HR : Hid (disR t u = []) := by rw [Hid, disR, if_neg (fun h => h1 h.1)]
    have HO : Hid (disOk t u = false) := by rw [Hid, disOk, HE.out]; rfl
    clear h1
    rw [HR.out, HO.out]
    obtain ⟨rfl, tn, ta, tc, rfl⟩ := Tm.at_form ht
    obtain ⟨rfl, un, ua, uc, rfl⟩ := Tm.at_form hu
    have hW : Below w.heap.size w ((w.alloc (.cells #[.string t.name, .slice ta t.args.length tc] 31)).alloc (.cells #[.string u.name, .slice ua u.args.length uc] 31)) := ((Below.refl _ _).alloc (Nat.le_refl _) _).alloc (by simp) _
    have bt : Box ((w.alloc (.cells #[.string t.name, .slice ta t.args.length tc] 31)).alloc (.cells #[.string u.name, .slice ua u.args.length uc] 31)) (w.heap.size) [.string t.name, .slice ta t.args.length tc] := by
      have := (Box.new w [.string t.name, .slice ta t.args.length tc] 31).alloc (.cells #[.string u.name, .slice ua u.args.length uc] 31)
      simpa only [World.size_alloc] using this
    have bu : Box ((w.alloc (.cells #[.string t.name, .slice ta t.args.length tc] 31)).alloc (.cells #[.string u.name, .slice ua u.args.length uc] 31)) (w.heap.size + 1) [.string u.name, .slice ua u.args.length uc] := by
      have := (Box.new (w.alloc (.cells #[.string t.name, .slice ta t.args.length tc] 31)) [.string u.name, .slice ua u.args.length uc] 31)
      simpa only [World.size_alloc] using this
    replace ht := Tm.at_keep (Keeps.all hW) ht
    replace hu := Tm.at_keep (Keeps.all hW) hu
    have et0 := bt.c0
    have et1 := bt.c1
    have lt := bt.lt
    have eu0 := bu.c0
    have eu1 := bu.c1
    have lu := bu.lt
    go_enter Try.func14, Try.ntmps14
    go_wp2_with fail
    clear et0 et1 lt eu0 eu1 lu
    have Hw0 : Hid (((w.alloc (.cells #[.string t.name, .slice ta t.args.length tc] 31)).alloc (.cells #[.string u.name, .slice ua u.args.length uc] 31)).heap.size = w.heap.size + 1 + 1) := by simp [Hid]
    generalize ((w.alloc (.cells #[.string t.name, .slice ta t.args.length tc] 31)).alloc (.cells #[.string u.name, .slice ua u.args.length uc] 31)) = w0 at *
    refine (isExpression_any t ht hbt).mono ?_
    rintro e w1 ⟨_, rfl, hb, rfl⟩
    replace hW := hW.trans (hb.mono hW.size)
    replace bt := bt.keep hb
    replace ht := Tm.at_keep (Keeps.all hb) ht
    replace bu := bu.keep hb
    replace hu := Tm.at_keep (Keeps.all hb) hu
    clear hb
    rw [HE.out]
    have et0 := bt.c0
    have et1 := bt.c1
    have lt := bt.lt
    have eu0 := bu.c0
    have eu1 := bu.c1
    have lu := bu.lt
    go_wp2_with fail
    clear et0 et1 lt eu0 eu1 lu
    go_ret2
    exact ⟨_, [], rfl, D.own_nil _ _, by simp, hW⟩

theorem rd_ints_nil {w : World} {a : Option Addr} {c : Nat} : D.rd (fun _ => True) w (.slice a 0 c) (slOf intE []) := by
  rw [slOf, D.rd]
  exact ⟨_, _, rfl, by simp, by simp, by simp, by simp⟩
set_option maxHeartbeats 2000000 in
theorem spec_Disagreement {t u : Tm} {S : Nat → Prop} {c0 c1 d0 d1 : Value} {w : World} (ht : Tm.at S w c0 c1 t) (hbt : t.bulk ≤ 1048576) (hu : Tm.at S w d0 d1 u) (hbu : u.bulk ≤ 1048576) :
    Calls Try.prog 12 #[.agg #[c0, c1], .agg #[d0, d1]] w (RdD id (slOf intE (disR t u)) (disOk t u) w) := by
  by_cases h1 : t.expr = true
  · by_cases h2 : u.expr = true
    · have HR : Hid (disR t u = (t.diff u).getD []) := by rw [Hid, disR, if_pos ⟨h1, h2⟩]
      have HO : Hid (disOk t u = (t.diff u).isSome) := by rw [Hid, disOk, h1, h2]; rfl
      have HE := hid h1
      have HF := hid h2
      clear h1 h2
      rw [HR.out, HO.out]
      obtain ⟨r, Hr⟩ : ∃ r, Hid (t.diff u = r) := ⟨_, hid rfl⟩
      rw [Hr.out]
      obtain ⟨rfl, tn, ta, tc, rfl⟩ := Tm.at_form ht
      obtain ⟨rfl, un, ua, uc, rfl⟩ := Tm.at_form hu
      have hW : Below w.heap.size w ((w.alloc (.cells #[.string t.name, .slice ta t.args.length tc] 31)).alloc (.cells #[.string u.name, .slice ua u.args.length uc] 31)) := ((Below.refl _ _).alloc (Nat.le_refl _) _).alloc (by simp) _
      have bt : Box ((w.alloc (.cells #[.string t.name, .slice ta t.args.length tc] 31)).alloc (.cells #[.string u.name, .slice ua u.args.length uc] 31)) (w.heap.size) [.string t.name, .slice ta t.args.length tc] := by
        have := (Box.new w [.string t.name, .slice ta t.args.length tc] 31).alloc (.cells #[.string u.name, .slice ua u.args.length uc] 31)
        simpa only [World.size_alloc] using this
      have bu : Box ((w.alloc (.cells #[.string t.name, .slice ta t.args.length tc] 31)).alloc (.cells #[.string u.name, .slice ua u.args.length uc] 31)) (w.heap.size + 1) [.string u.name, .slice ua u.args.length uc] := by
        have := (Box.new (w.alloc (.cells #[.string t.name, .slice ta t.args.length tc] 31)) [.string u.name, .slice ua u.args.length uc] 31)
        simpa only [World.size_alloc] using this
      replace ht := Tm.at_keep (Keeps.all hW) ht
      replace hu := Tm.at_keep (Keeps.all hW) hu
      have et0 := bt.c0
      have et1 := bt.c1
      have lt := bt.lt
      have eu0 := bu.c0
      have eu1 := bu.c1
      have lu := bu.lt
      go_enter Try.func12, Try.ntmps12
      go_wp2_with fail
      clear et0 et1 lt eu0 eu1 lu
      have Hw0 : Hid (((w.alloc (.cells #[.string t.name, .slice ta t.args.length tc] 31)).alloc (.cells #[.string u.name, .slice ua u.args.length uc] 31)).heap.size = w.heap.size + 1 + 1) := by simp [Hid]
      generalize ((w.alloc (.cells #[.string t.name, .slice ta t.args.length tc] 31)).alloc (.cells #[.string u.name, .slice ua u.args.length uc] 31)) = w0 at *
      refine (l2Any_any t ht hbt).mono ?_
      rintro e w1 ⟨_, rfl, hb, rfl⟩
      replace hW := hW.trans (hb.mono hW.size)
      replace bt := bt.keep hb
      replace ht := Tm.at_keep (Keeps.all hb) ht
      replace bu := bu.keep hb
      replace hu := Tm.at_keep (Keeps.all hb) hu
      clear hb
      rw [HE.out]
      have et0 := bt.c0
      have et1 := bt.c1
      have lt := bt.lt
      have eu0 := bu.c0
      have eu1 := bu.c1
      have lu := bu.lt
      go_wp2_with fail
      clear et0 et1 lt eu0 eu1 lu
      refine (l2Any_any u hu hbu).mono ?_
      rintro e w1 ⟨_, rfl, hb, rfl⟩
      replace hW := hW.trans (hb.mono hW.size)
      replace bt := bt.keep hb
      replace ht := Tm.at_keep (Keeps.all hb) ht
      replace bu := bu.keep hb
      replace hu := Tm.at_keep (Keeps.all hb) hu
      clear hb
      rw [HF.out]
      have et0 := bt.c0
      have et1 := bt.c1
      have lt := bt.lt
      have eu0 := bu.c0
      have eu1 := bu.c1
      have lu := bu.lt
      go_wp2_with fail
      clear et0 et1 lt eu0 eu1 lu
      have hA : Below w1.heap.size w1 (w1.alloc (.cells #[] 3)) := (Below.refl _ _).alloc (Nat.le_refl _) _
      have hq := diffSpec_any t u [] S (fun _ => True) _ _ _ _ w1.heap.size 0 _ (Tm.at_keep (Keeps.all hA) ht) (Tm.at_keep (Keeps.all hA) hu) hbt (by simp; omega) rd_ints_nil
      rw [Hr.out] at hq
      refine hq.mono ?_
      rintro e w2 ⟨v, rfl, hr, hb⟩
      have hbe := hW.trans ((hA.trans (hb.mono hA.size)).mono hW.size)
      have hr2 : D.rd (fun _ => True) w2 v (slOf intE (r.getD [])) := by cases r <;> simpa using hr
      rw [Option.isSome_map]
      go_wp2_with fail
      go_ret2
      exact ⟨v, rfl, hr2, hbe⟩
    · have HF := hid (Bool.eq_false_iff.2 h2)
      have HE := hid h1
      have HR : Hid (disR t u = []) := by rw [Hid, disR, if_neg (fun h => h2 h.2)]
      have HO : Hid (disOk t u = false) := by rw [Hid, disOk, HF.out]; simp
      clear h1 h2
      rw [HR.out, HO.out]
      obtain ⟨rfl, tn, ta, tc, rfl⟩ := Tm.at_form ht
      obtain ⟨rfl, un, ua, uc, rfl⟩ := Tm.at_form hu
      have hW : Below w.heap.size w ((w.alloc (.cells #[.string t.name, .slice ta t.args.length tc] 31)).alloc (.cells #[.string u.name, .slice ua u.args.length uc] 31)) := ((Below.refl _ _).alloc (Nat.le_refl _) _).alloc (by simp) _
      have bt : Box ((w.alloc (.cells #[.string t.name, .slice ta t.args.length tc] 31)).alloc (.cells #[.string u.name, .slice ua u.args.length uc] 31)) (w.heap.size) [.string t.name, .slice ta t.args.length tc] := by
        have := (Box.new w [.string t.name, .slice ta t.args.length tc] 31).alloc (.cells #[.string u.name, .slice ua u.args.length uc] 31)
        simpa only [World.size_alloc] using this
      have bu : Box ((w.alloc (.cells #[.string t.name, .slice ta t.args.length tc] 31)).alloc (.cells #[.string u.name, .slice ua u.args.length uc] 31)) (w.heap.size + 1) [.string u.name, .slice ua u.args.length uc] := by
        have := (Box.new (w.alloc (.cells #[.string t.name, .slice ta t.args.length tc] 31)) [.string u.name, .slice ua u.args.length uc] 31)
        simpa only [World.size_alloc] using this
      replace ht := Tm.at_keep (Keeps.all hW) ht
      replace hu := Tm.at_keep (Keeps.all hW) hu
      have et0 := bt.c0
      have et1 := bt.c1
      have lt := bt.lt
      have eu0 := bu.c0
      have eu1 := bu.c1
      have lu := bu.lt
      go_enter Try.func12, Try.ntmps12
      go_wp2_with fail
      clear et0 et1 lt eu0 eu1 lu
      have Hw0 : Hid (((w.alloc (.cells #[.string t.name, .slice ta t.args.length tc] 31)).alloc (.cells #[.string u.name, .slice ua u.args.length uc] 31)).heap.size = w.heap.size + 1 + 1) := by simp [Hid]
      generalize ((w.alloc (.cells #[.string t.name, .slice ta t.args.length tc] 31)).alloc (.cells #[.string u.name, .slice ua u.args.length uc] 31)) = w0 at *
      refine (l2Any_any t ht hbt).mono ?_
      rintro e w1 ⟨_, rfl, hb, rfl⟩
      replace hW := hW.trans (hb.mono hW.size)
      replace bt := bt.keep hb
      replace ht := Tm.at_keep (Keeps.all hb) ht
      replace bu := bu.keep hb
      replace hu := Tm.at_keep (Keeps.all hb) hu
      clear hb
      rw [HE.out]
      have et0 := bt.c0
      have et1 := bt.c1
      have lt := bt.lt
      have eu0 := bu.c0
      have eu1 := bu.c1
      have lu := bu.lt
      go_wp2_with fail
      clear et0 et1 lt eu0 eu1 lu
      refine (l2Any_any u hu hbu).mono ?_
      rintro e w1 ⟨_, rfl, hb, rfl⟩
      replace hW := hW.trans (hb.mono hW.size)
      replace bt := bt.keep hb
      replace ht := Tm.at_keep (Keeps.all hb) ht
      replace bu := bu.keep hb
      replace hu := Tm.at_keep (Keeps.all hb) hu
      clear hb
      rw [HF.out]
      have et0 := bt.c0
      have et1 := bt.c1
      have lt := bt.lt
      have eu0 := bu.c0
      have eu1 := bu.c1
      have lu := bu.lt
      go_wp2_with fail
      clear et0 et1 lt eu0 eu1 lu
      go_ret2
      exact ⟨_, rfl, rd_ints_nil, hW.alloc hW.size _⟩
  · have HE := hid (Bool.eq_false_iff.2 h1)
    have HR : Hid (disR t u = []) := by rw [Hid, disR, if_neg (fun h => h1 h.1)]
    have HO : Hid (disOk t u = false) := by rw [Hid, disOk, HE.out]; rfl
    clear h1
    rw [HR.out, HO.out]
    obtain ⟨rfl, tn, ta, tc, rfl⟩ := Tm.at_form ht
    obtain ⟨rfl, un, ua, uc, rfl⟩ := Tm.at_form hu
    have hW : Below w.heap.size w ((w.alloc (.cells #[.string t.name, .slice ta t.args.length tc] 31)).alloc (.cells #[.string u.name, .slice ua u.args.length uc] 31)) := ((Below.refl _ _).alloc (Nat.le_refl _) _).alloc (by simp) _
    have bt : Box ((w.alloc (.cells #[.string t.name, .slice ta t.args.length tc] 31)).alloc (.cells #[.string u.name, .slice ua u.args.length uc] 31)) (w.heap.size) [.string t.name, .slice ta t.args.length tc] := by
      have := (Box.new w [.string t.name, .slice ta t.args.length tc] 31).alloc (.cells #[.string u.name, .slice ua u.args.length uc] 31)
      simpa only [World.size_alloc] using this
    have bu : Box ((w.alloc (.cells #[.string t.name, .slice ta t.args.length tc] 31)).alloc (.cells #[.string u.name, .slice ua u.args.length uc] 31)) (w.heap.size + 1) [.string u.name, .slice ua u.args.length uc] := by
      have := (Box.new (w.alloc (.cells #[.string t.name, .slice ta t.args.length tc] 31)) [.string u.name, .slice ua u.args.length uc] 31)
      simpa only [World.size_alloc] using this
    replace ht := Tm.at_keep (Keeps.all hW) ht
    replace hu := Tm.at_keep (Keeps.all hW) hu
    have et0 := bt.c0
    have et1 := bt.c1
    have lt := bt.lt
    have eu0 := bu.c0
    have eu1 := bu.c1
    have lu := bu.lt
    go_enter Try.func12, Try.ntmps12
    go_wp2_with fail
    clear et0 et1 lt eu0 eu1 lu
    have Hw0 : Hid (((w.alloc (.cells #[.string t.name, .slice ta t.args.length tc] 31)).alloc (.cells #[.string u.name, .slice ua u.args.length uc] 31)).heap.size = w.heap.size + 1 + 1) := by simp [Hid]
    generalize ((w.alloc (.cells #[.string t.name, .slice ta t.args.length tc] 31)).alloc (.cells #[.string u.name, .slice ua u.args.length uc] 31)) = w0 at *
    refine (l2Any_any t ht hbt).mono ?_
    rintro e w1 ⟨_, rfl, hb, rfl⟩
    replace hW := hW.trans (hb.mono hW.size)
    replace bt := bt.keep hb
    replace ht := Tm.at_keep (Keeps.all hb) ht
    replace bu := bu.keep hb
    replace hu := Tm.at_keep (Keeps.all hb) hu
    clear hb
    rw [HE.out]
    have et0 := bt.c0
    have et1 := bt.c1
    have lt := bt.lt
    have eu0 := bu.c0
    have eu1 := bu.c1
    have lu := bu.lt
    go_wp2_with fail
    clear et0 et1 lt eu0 eu1 lu
    go_ret2
    exact ⟨_, rfl, rd_ints_nil, hW.alloc hW.size _⟩
end Go.Proofs.Ytoekonkpephocaa
