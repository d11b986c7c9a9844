/- The first position at which two terms differ: the program's. -/
import Derived.Test.YtoekonkpephocaaGi
import Derived.Test.YtoekonkpephocaaHw
import Derived.Test.YtoekonkpephocaaTv
import Derived.Deep.RegionLaw
namespace Go.Proofs.Ytoekonkpephocaa
set_option maxRecDepth 100000
open Go.RowKit

theorem Tm.ind' {P : Tm → Prop} (h : ∀ t, (∀ a ∈ t.args, P a) → P t) (t : Tm) : P t := Tm.ind (fun n ts ih => h (.node n ts) ih) t
mutual
/-- the first position at which two terms differ -/
def Tm.diff : Tm → Tm → Option (List Int)
  | .node n ts, u => if n = u.name ∧ ts.length = u.args.length then Tm.diffs ts u.args 0 else some []
def Tm.diffs : List Tm → List Tm → Nat → Option (List Int)
  | t :: ts, u :: us, k => match Tm.diff t u with
    | some p => some ((k : Int) :: p)
    | none => Tm.diffs ts us (k + 1)
  | _, _, _ => none
end
theorem Tm.diff_eq (t u : Tm) : t.diff u = if t.name = u.name ∧ t.args.length = u.args.length then Tm.diffs t.args u.args 0 else some [] := by
  cases t; rw [Tm.diff]; rfl
theorem Tm.diffs_at (ts us : List Tm) (k : Nat) (h1 : k < ts.length) (h2 : k < us.length) (j : Nat) : Tm.diffs (ts.drop k) (us.drop k) j = match Tm.diff ts[k] us[k] with
    | some p => some ((j : Int) :: p)
    | none => Tm.diffs (ts.drop (k + 1)) (us.drop (k + 1)) (j + 1) := by
  rw [List.drop_eq_getElem_cons h1, List.drop_eq_getElem_cons h2, Tm.diffs]
theorem Tm.diffs_end (ts us : List Tm) (j : Nat) : Tm.diffs (ts.drop ts.length) us j = none := by rw [List.drop_length]; cases us <;> rw [Tm.diffs] <;> simp
theorem Tm.diff_length (t : Tm) : ∀ (u : Tm) (p : List Int), t.diff u = some p → p.length ≤ t.bulk := by
  refine Tm.ind' (P := fun t => ∀ (u : Tm) (p : List Int), t.diff u = some p → p.length ≤ t.bulk) (fun t ih u p h => ?_) t
  rw [Tm.diff_eq] at h
  split at h
  · have key : ∀ (ts : List Tm), (∀ a ∈ ts, ∀ (u : Tm) (p : List Int), a.diff u = some p → p.length ≤ a.bulk) → ∀ (us : List Tm) (k : Nat) (p : List Int), Tm.diffs ts us k = some p → p.length ≤ ts.length + Tm.bulks ts := by
      intro ts
      induction ts with
      | nil => intro _ us k p h; cases us <;> rw [Tm.diffs] at h <;> first | cases h | simp
      | cons a ts iht =>
        intro hh us k p h
        cases us with
        | nil => rw [Tm.diffs] at h <;> first | cases h | simp
        | cons u us =>
          rw [Tm.diffs] at h
          split at h
          · rename_i q hq
            injection h with h
            subst h
            have := hh a (by simp) u q hq
            rw [Tm.bulks]; simp; omega
          · have := iht (fun b hb => hh b (by simp [hb])) us (k + 1) p h
            rw [Tm.bulks]; simp; omega
    have := key t.args ih u.args 0 p h
    cases t; rw [Tm.bulk]; simp only [Tm.args] at this; omega
  · injection h with h; subst h; simp

/-- a list of ints that the call owns, if there is one -/
def OutI (r : Option (List Int)) (w : World) (e : Ending) (w' : World) : Prop := ∃ v F, e = .returned (.tuple #[v, .bool r.isSome]) ∧ D.own w' v (slOf intE (r.getD [])) F ∧ (∀ x ∈ F, w.heap.size ≤ x) ∧ Below w.heap.size w w' ∧ (r.isSome = true → ∃ b c, v = .slice (some ⟨b, 0, none⟩) (r.getD []).length c)
theorem GI.out {w w' : World} {v : Value} {zs : List Int} (h : GI w' w.heap.size v zs) (hne : v ≠ .slice none 0 0) (hb : Below w.heap.size w w') : OutI (some zs) w (.returned (.tuple #[v, .bool true])) w' := by
  obtain ⟨G, ho, hG⟩ := h.own
  exact ⟨v, G, rfl, ho, hG, hb, fun _ => h.addr hne⟩

def DiffImpl (t : Tm) : Prop := ∀ (u : Tm) (S : Nat → Prop) (c0 c1 d0 d1 : Value) (w : World), Tm.at S w c0 c1 t → Tm.at S w d0 d1 u → t.bulk ≤ 1048576 → Calls Try.prog 62 #[.agg #[c0, c1], .agg #[d0, d1]] w (OutI (t.diff u) w)

set_option maxHeartbeats 2000000 in
theorem diffImpl_of (t : Tm) (ih : ∀ a ∈ t.args, DiffImpl a) : DiffImpl t := by
  intro u S c0 c1 d0 d1 w ht hu hbk
  have HS := hid ht.2
  have HSu := hid hu.2
  by_cases hnm : t.name = u.name
  · have hq : (t.name.toList == u.name.toList) = true := by rw [hnm]; simp
    by_cases hll : t.args.length = u.args.length
    · have hq1 : ((t.args.length : Int) == u.args.length) = true := by simp [hll]
      have hq2 : ((t.args.length : Int) != u.args.length) = false := by simp [hll]
      have HD : Hid (t.diff u = Tm.diffs t.args u.args 0) := by rw [Hid, Tm.diff_eq, if_pos ⟨hnm, hll⟩]
      clear hnm
      have Hll := hid hll
      clear hll
      obtain ⟨_, _, e, hlen, -⟩ := Tm.sd_form HS.out
      unfold big at hlen
      clear e
      obtain ⟨rfl, tn, ta, tc, rfl⟩ := Tm.at_form ht
      obtain ⟨rfl, un, ua, uc, rfl⟩ := Tm.at_form hu
      have hW : Below w.heap.size w ((w.alloc (.cells #[.string t.name, .slice ta t.args.length tc] 31)).alloc (.cells #[.string u.name, .slice ua u.args.length uc] 31)) := ((Below.refl _ _).alloc (Nat.le_refl _) _).alloc (by simp) _
      have bt : Box ((w.alloc (.cells #[.string t.name, .slice ta t.args.length tc] 31)).alloc (.cells #[.string u.name, .slice ua u.args.length uc] 31)) w.heap.size [.string t.name, .slice ta t.args.length tc] := (Box.new w _ _).alloc _
      have bu : Box ((w.alloc (.cells #[.string t.name, .slice ta t.args.length tc] 31)).alloc (.cells #[.string u.name, .slice ua u.args.length uc] 31)) (w.heap.size + 1) [.string u.name, .slice ua u.args.length uc] := by
        have := Box.new (w.alloc (.cells #[.string t.name, .slice ta t.args.length tc] 31)) [.string u.name, .slice ua u.args.length uc] 31
        simpa only [World.size_alloc] using this
      have x0 := bt.c0
      have x1 := bt.c1
      have y0 := bu.c0
      have y1 := bu.c1
      have hzz : w.heap.size + 1 + 1 ≤ ((w.alloc (.cells #[.string t.name, .slice ta t.args.length tc] 31)).alloc (.cells #[.string u.name, .slice ua u.args.length uc] 31)).heap.size := by simp
      go_enter Try.func62, Try.ntmps62
      go_wp2_with fail
      clear x0 x1 y0 y1
      generalize (w.alloc (.cells #[.string t.name, .slice ta t.args.length tc] 31)).alloc (.cells #[.string u.name, .slice ua u.args.length uc] 31) = w0 at *
      go_loopw [28] (fun i wr => ∃ k : Nat, k ≤ t.args.length ∧ i = .int .i64 k ∧ Hid (t.diff u = Tm.diffs (t.args.drop k) (u.args.drop k) k) ∧ Below w0.heap.size w0 wr) (fun i _ => t.args.length - (intOf i).toNat)
      case atStart => exact ⟨0, Nat.zero_le _, rfl, HD, Below.refl _ _⟩
      case round =>
        obtain ⟨k, hk, rfl, HX, hb⟩ := hrel
        have hz := hb.size
        have hbw := hW.trans (hb.mono hW.size)
        by_cases hlt : k < t.args.length
        · have hlt' : k < u.args.length := by have := Hll.out; omega
          have hne : t.args ≠ [] := by intro e; rw [e] at hlt; simp at hlt
          have hne' : u.args ≠ [] := by intro e; rw [e] at hlt'; simp at hlt'
          obtain ⟨b, off, rfl, -, hbl, hrr⟩ := Tm.sd_get (D.rd_keep (Keeps.all hbw) _ _ HS.out) hne
          obtain ⟨b', off', rfl, -, hbl', hrr'⟩ := Tm.sd_get (D.rd_keep (Keeps.all hbw) _ _ HSu.out) hne'
          obtain ⟨c0, c1, q0, q1, q2⟩ := hrr k hlt
          obtain ⟨d0, d1, r0, r1, r2⟩ := hrr' k hlt'
          have hmem := ih t.args[k] (List.getElem_mem hlt)
          have hbk' : t.args[k].bulk ≤ 1048576 := by have := Tm.bulk_mem (List.getElem_mem hlt); have := Tm.args_bulk t; omega
          have HN := hid (Tm.diffs_at t.args u.args k hlt hlt' k)
          obtain ⟨rfl, -, qa, qc, rfl⟩ := Tm.at_form q2
          obtain ⟨rfl, -, ra, rc, rfl⟩ := Tm.at_form r2
          have y1 := (bu.keep hb).c1
          have hA : Below wr.heap.size wr (wr.alloc (.cells #[.string t.args[k].name, .slice qa t.args[k].args.length qc] 31)).drew := ((Below.refl _ _).alloc (Nat.le_refl _) _).drew
          have y1' := fun o => cell_alloc y1 o
          have r0' := fun o => cell_alloc r0 o
          have r1' := fun o => cell_alloc r1 o
          have hIH := hmem u.args[k] S _ _ _ _ _ (Tm.at_keep (Keeps.all hA) q2) (Tm.at_keep (Keeps.all hA) r2) hbk'
          clear hrr hrr'
          have hdl := Tm.diff_length t.args[k] u.args[k]
          cases hd : Tm.diff t.args[k] u.args[k] with
          | none =>
            rw [hd] at hIH
            have HN2 : Hid (Tm.diffs (t.args.drop k) (u.args.drop k) k = Tm.diffs (t.args.drop (k + 1)) (u.args.drop (k + 1)) (k + 1)) := by rw [Hid, HN.out, hd]
            clear hd hdl
            go_wp2_with fail
            go_region_law (refine step_does rfl ?_
                           unfold Does
                           go_simp
                           go_at_call 62
                           refine hIH.mono ?_
                           rintro e w1 ⟨v, F, rfl, ho, hF, hb1, -⟩
                           obtain ⟨va, vc, rfl, -, -⟩ := slOf_form (D.own_rd _ _ _ ho)
                           refine ⟨_, rfl, ?_⟩)
            all_goals
              go_wp2_with fail
              go_roundw
              case rel => exact ⟨k + 1, by omega, by go_num, hid (HX.out.trans HN2.out), hb.trans ((hA.trans (hb1.mono hA.size)).mono hz)⟩
              case measure => simp [intOf]; omega
          | some p =>
            rw [hd] at hIH
            have hpl := hdl p hd
            have HN2 : Hid (t.diff u = some ((k : Int) :: p)) := by rw [Hid, HX.out, HN.out, hd]
            clear hd hdl
            go_wp2_with fail
            go_region_law (refine step_does rfl ?_
                           unfold Does
                           go_simp
                           go_at_call 62
                           refine hIH.mono ?_
                           rintro e w1 ⟨v, F, rfl, ho, hF, hb1, hv⟩
                           obtain ⟨va, vc, rfl⟩ := hv rfl
                           refine ⟨_, rfl, ?_⟩)
            all_goals
              have hbe := hbw.trans ((hA.trans (hb1.mono hA.size)).mono hbw.size)
              go_wp2_with (refine wpList_append_ints (B := w.heap.size) (xs := [(k : Int)]) (ys := p) rfl _ _ (by rfl) (by rfl) (by rfl) (by rfl) (GI.one ⟨by omega, by omega⟩ rfl hbe.size) (D.rd_keep (Keeps.all ((Below.refl _ _).alloc (Nat.le_refl _) _)) _ _ (D.own_rd _ _ _ ho)) (by simp; omega) (by have := hbe.size; simp; omega) ?_; intro v' w2 hg hgr hgo hgn)
              go_ret2
              rw [HN2.out]
              exact GI.out hg (hgn (by intro e; cases e)) (below_grown (hbe.alloc hbe.size _) hgr (by have := hbe.size; simp; omega) (fun x hx => by have hx' : w1.heap.size = x := Option.some.inj hx; have := hbe.size; omega))
        · obtain rfl : k = t.args.length := by omega
          have HN : Hid (t.diff u = none) := by rw [Hid, HX.out, Tm.diffs_end]
          go_wp2_with fail
          go_ret2
          rw [HN.out]
          exact ⟨_, [], rfl, D.own_nil _ _, by simp, hbw, fun h => by cases h⟩
    · have hq1 : ((t.args.length : Int) == u.args.length) = false := by simp; omega
      have hq2 : ((t.args.length : Int) != u.args.length) = true := by simp; omega
      have HD : Hid (t.diff u = some []) := by rw [Hid, Tm.diff_eq, if_neg (fun h => hll h.2)]
      clear hnm hll
      obtain ⟨rfl, tn, ta, tc, rfl⟩ := Tm.at_form ht
      obtain ⟨rfl, un, ua, uc, rfl⟩ := Tm.at_form hu
      have hW : Below w.heap.size w ((w.alloc (.cells #[.string t.name, .slice ta t.args.length tc] 31)).alloc (.cells #[.string u.name, .slice ua u.args.length uc] 31)) := ((Below.refl _ _).alloc (Nat.le_refl _) _).alloc (by simp) _
      go_enter Try.func62, Try.ntmps62
      go_wp2_with fail
      go_ret2
      rw [HD.out]
      exact GI.out (GI.made (by simp) (by simp; omega)) (by intro e; cases e) (hW.alloc (by simp; omega) _)
  · have hq := toList_ne hnm
    have HD : Hid (t.diff u = some []) := by rw [Hid, Tm.diff_eq, if_neg (fun h => hnm h.1)]
    clear hnm
    obtain ⟨rfl, tn, ta, tc, rfl⟩ := Tm.at_form ht
    obtain ⟨rfl, un, ua, uc, rfl⟩ := Tm.at_form hu
    have hW : Below w.heap.size w ((w.alloc (.cells #[.string t.name, .slice ta t.args.length tc] 31)).alloc (.cells #[.string u.name, .slice ua u.args.length uc] 31)) := ((Below.refl _ _).alloc (Nat.le_refl _) _).alloc (by simp) _
    go_enter Try.func62, Try.ntmps62
    go_wp2_with fail
    go_ret2
    rw [HD.out]
    exact GI.out (GI.made (by simp) (by simp; omega)) (by intro e; cases e) (hW.alloc (by simp; omega) _)
theorem diffImpl_any (t : Tm) : DiffImpl t := Tm.ind' diffImpl_of t
end Go.Proofs.Ytoekonkpephocaa
