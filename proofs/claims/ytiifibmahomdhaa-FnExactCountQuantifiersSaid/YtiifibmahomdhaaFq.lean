/- How many quantifiers a formula has, strong and weak. -/
import Derived.Test.YtiifibmahomdhaaFz
namespace Go.Proofs.Ytiifibmahomdhaa
set_option maxRecDepth 100000
open Go.RowKit

/-- a quantifier's own count -/
def strongQ (o : Int) (p : Bool) : Nat := if (o = 8 ∧ p = true) ∨ (o = 9 ∧ p = false) then 1 else 0
def weakQ (o : Int) (p : Bool) : Nat := if (o = 8 ∧ p = false) ∨ (o = 9 ∧ p = true) then 1 else 0
/-- how part i is meant -/
def polar (o : Int) (p : Bool) (i : Nat) : Bool := if o = 4 ∨ (o = 7 ∧ i = 0) then !p else p
mutual
def Fm.strong : Fm → Bool → Nat
  | .node o _ _ ps, p => strongQ o p + Fm.strongs o p 0 ps
def Fm.strongs : Int → Bool → Nat → List Fm → Nat
  | _, _, _, [] => 0
  | o, p, i, t :: ts => Fm.strong t (polar o p i) + Fm.strongs o p (i + 1) ts
end
mutual
def Fm.weak : Fm → Bool → Nat
  | .node o _ _ ps, p => weakQ o p + Fm.weaks o p 0 ps
def Fm.weaks : Int → Bool → Nat → List Fm → Nat
  | _, _, _, [] => 0
  | o, p, i, t :: ts => Fm.weak t (polar o p i) + Fm.weaks o p (i + 1) ts
end
theorem Fm.strong_eq (t : Fm) (p : Bool) : t.strong p = strongQ t.op p + Fm.strongs t.op p 0 t.parts := by cases t; rw [Fm.strong]; rfl
theorem Fm.weak_eq (t : Fm) (p : Bool) : t.weak p = weakQ t.op p + Fm.weaks t.op p 0 t.parts := by cases t; rw [Fm.weak]; rfl
theorem Fm.strongs_take (o : Int) (p : Bool) : ∀ (ts : List Fm) (i k : Nat) (hk : k < ts.length), Fm.strongs o p i (ts.take (k + 1)) = Fm.strongs o p i (ts.take k) + ts[k].strong (polar o p (i + k))
  | [], i, k, hk => absurd hk (by simp)
  | t :: ts, i, 0, _ => by simp [Fm.strongs]
  | t :: ts, i, k + 1, hk => by
    have := Fm.strongs_take o p ts (i + 1) k (by simpa using hk)
    simp only [List.take_succ_cons, Fm.strongs, this, List.getElem_cons_succ]
    rw [show i + 1 + k = i + (k + 1) by omega]; omega
theorem Fm.weaks_take (o : Int) (p : Bool) : ∀ (ts : List Fm) (i k : Nat) (hk : k < ts.length), Fm.weaks o p i (ts.take (k + 1)) = Fm.weaks o p i (ts.take k) + ts[k].weak (polar o p (i + k))
  | [], i, k, hk => absurd hk (by simp)
  | t :: ts, i, 0, _ => by simp [Fm.weaks]
  | t :: ts, i, k + 1, hk => by
    have := Fm.weaks_take o p ts (i + 1) k (by simpa using hk)
    simp only [List.take_succ_cons, Fm.weaks, this, List.getElem_cons_succ]
    rw [show i + 1 + k = i + (k + 1) by omega]; omega
theorem Fm.strongs_le (o : Int) (p : Bool) : ∀ (ts : List Fm) (i k : Nat), Fm.strongs o p i (ts.take k) ≤ Fm.strongs o p i ts
  | [], _, k => by simp
  | t :: ts, i, 0 => by simp [Fm.strongs]
  | t :: ts, i, k + 1 => by
    have := Fm.strongs_le o p ts (i + 1) k
    simp only [List.take_succ_cons, Fm.strongs]; omega
theorem Fm.weaks_le (o : Int) (p : Bool) : ∀ (ts : List Fm) (i k : Nat), Fm.weaks o p i (ts.take k) ≤ Fm.weaks o p i ts
  | [], _, k => by simp
  | t :: ts, i, 0 => by simp [Fm.weaks]
  | t :: ts, i, k + 1 => by
    have := Fm.weaks_le o p ts (i + 1) k
    simp only [List.take_succ_cons, Fm.weaks]; omega
theorem strongQ_le (o : Int) (p : Bool) : strongQ o p ≤ 1 := by unfold strongQ; split <;> omega
theorem weakQ_le (o : Int) (p : Bool) : weakQ o p ≤ 1 := by unfold weakQ; split <;> omega
theorem Fm.strong_size (t : Fm) : ∀ p, t.strong p ≤ t.size := by
  refine Fm.ind (P := fun t => ∀ p, t.strong p ≤ t.size) (fun o a v ps ih p => ?_) t
  rw [Fm.strong, Fm.size]
  have key : ∀ (ps : List Fm) (i : Nat), (∀ q ∈ ps, ∀ p, q.strong p ≤ q.size) → Fm.strongs o p i ps ≤ Fm.sizes ps := by
    intro ps
    induction ps with
    | nil => intro i _; simp [Fm.strongs]
    | cons q qs ihq =>
      intro i h
      have h0 := h q (by simp) (polar o p i)
      have h1 := ihq (i + 1) fun r hr => h r (by simp [hr])
      simp only [Fm.strongs, Fm.sizes]; omega
  have := key ps 0 ih
  have := strongQ_le o p
  omega
theorem Fm.weak_size (t : Fm) : ∀ p, t.weak p ≤ t.size := by
  refine Fm.ind (P := fun t => ∀ p, t.weak p ≤ t.size) (fun o a v ps ih p => ?_) t
  rw [Fm.weak, Fm.size]
  have key : ∀ (ps : List Fm) (i : Nat), (∀ q ∈ ps, ∀ p, q.weak p ≤ q.size) → Fm.weaks o p i ps ≤ Fm.sizes ps := by
    intro ps
    induction ps with
    | nil => intro i _; simp [Fm.weaks]
    | cons q qs ihq =>
      intro i h
      have h0 := h q (by simp) (polar o p i)
      have h1 := ihq (i + 1) fun r hr => h r (by simp [hr])
      simp only [Fm.weaks, Fm.sizes]; omega
  have := key ps 0 ih
  have := weakQ_le o p
  omega

def CountIs (f : FuncId) (t : Fm) : Prop := ∀ (p : Bool) ⦃S : Nat → Prop⦄ ⦃c0 c1 c2 c3 c4 : Value⦄ ⦃w : World⦄, Fm.at S w c0 c1 c2 c3 c4 t → t.bulk ≤ 1048576 → Calls Try.prog f #[.agg #[c0, c1, c2, c3, c4], .bool p] w (Gives w (.tuple #[.int .i64 (t.strong p), .int .i64 (t.weak p)]))

theorem counts_cases (o : Int) (p : Bool) : ∃ a b : Nat, Hid (strongQ o p = a) ∧ Hid (weakQ o p = b) ∧ ((p = true ∧ (o == 8) = true ∧ (o == 9) = false ∧ a = 1 ∧ b = 0) ∨ (p = false ∧ (o == 8) = true ∧ (o == 9) = false ∧ a = 0 ∧ b = 1) ∨ (p = true ∧ (o == 8) = false ∧ (o == 9) = true ∧ a = 0 ∧ b = 1) ∨ (p = false ∧ (o == 8) = false ∧ (o == 9) = true ∧ a = 1 ∧ b = 0) ∨ ((o == 8) = false ∧ (o == 9) = false ∧ a = 0 ∧ b = 0)) := by
  refine ⟨_, _, rfl, rfl, ?_⟩
  by_cases h8 : o = 8
  · cases p <;> simp [strongQ, weakQ, h8]
  · by_cases h9 : o = 9
    · cases p <;> simp [strongQ, weakQ, h9]
    · simp [strongQ, weakQ, h8, h9]
theorem polar_4 {o : Int} {p : Bool} {k : Nat} (h : o = 4) : polar o p k = !p := by simp [polar, h]
theorem polar_7 {o : Int} {p : Bool} {k : Nat} (h : o = 7) (hk : k = 0) : polar o p k = !p := by simp [polar, h, hk]
theorem polar_n {o : Int} {p : Bool} {k : Nat} (h : ¬ o = 4) (h' : ¬ (o = 7 ∧ k = 0)) : polar o p k = p := by simp only [polar]; rw [if_neg]; rintro (q | q) <;> first | exact h q | exact h' q

set_option maxHeartbeats 8000000 in
theorem l8Count_of (t : Fm) (h : ∀ p ∈ t.parts, CountIs 94 p) : CountIs 94 t := by
  intro p S c0 c1 c2 c3 c4 w hT hbk
  have hlen : t.parts.length ≤ 1048576 := by have := Fm.bulk_eq t; omega
  have hbs := Fm.size_bulk t
  have hss := hid (Fm.strong_size t p)
  have hws := hid (Fm.weak_size t p)
  have hsd := hid (Fm.strong_eq t p)
  have hwd := hid (Fm.weak_eq t p)
  have hqt : Hid (quantOp t.op = ((t.op == 8) || (t.op == 9))) := rfl
  obtain ⟨a, b, HA, HB, hcs⟩ := counts_cases t.op p
  rcases hcs with ⟨rfl, s8, s9, rfl, rfl⟩ | ⟨rfl, s8, s9, rfl, rfl⟩ | ⟨rfl, s8, s9, rfl, rfl⟩ | ⟨rfl, s8, s9, rfl, rfl⟩ | ⟨s8, s9, rfl, rfl⟩
  rotate_right
  · cases p
    · obtain ⟨rfl, rfl, ⟨a, cap, rfl⟩, rfl, a2, cap2, rfl⟩ := Fm.at_form hT
      have hW : Below w.heap.size w (w.alloc (.cells #[.int .i64 t.op, .string t.atom.name, .slice a t.atom.args.length cap, .string t.v, .slice a2 t.parts.length cap2] 61)) := (Below.refl _ _).alloc (Nat.le_refl _) _
      have bT : Box (w.alloc (.cells #[.int .i64 t.op, .string t.atom.name, .slice a t.atom.args.length cap, .string t.v, .slice a2 t.parts.length cap2] 61)) w.heap.size [.int .i64 t.op, .string t.atom.name, .slice a t.atom.args.length cap, .string t.v, .slice a2 t.parts.length cap2] := Box.new w _ _
      replace hT := Fm.at_keep (Keeps.all hW) hT
      go_enter Try.func94, Try.ntmps94
      go_wp2_with fail
      generalize (w.alloc (.cells #[.int .i64 t.op, .string t.atom.name, .slice a t.atom.args.length cap, .string t.v, .slice a2 t.parts.length cap2] 61)) = w0 at *
      go_loopw [6, 7, 8] (fun x y i wr => ∃ (k r s : Nat), k ≤ t.parts.length ∧ i = .int .i64 k ∧ x = .int .i64 r ∧ y = .int .i64 s ∧ r ≤ 1048577 ∧ s ≤ 1048577 ∧ Hid (r = strongQ t.op false + Fm.strongs t.op false 0 (t.parts.take k)) ∧ Hid (s = weakQ t.op false + Fm.weaks t.op false 0 (t.parts.take k)) ∧ Below w0.heap.size w0 wr) (fun _ _ i _ => t.parts.length - (intOf i).toNat)
      case atStart =>
        first
        | exact ⟨0, 0, 0, Nat.zero_le _, rfl, rfl, rfl, by omega, by omega, by rw [Hid, HA.out]; simp [Fm.strongs], by rw [Hid, HB.out]; simp [Fm.weaks], Below.refl _ _⟩
        | exact ⟨0, 1, 0, Nat.zero_le _, rfl, rfl, rfl, by omega, by omega, by rw [Hid, HA.out]; simp [Fm.strongs], by rw [Hid, HB.out]; simp [Fm.weaks], Below.refl _ _⟩
        | exact ⟨0, 0, 1, Nat.zero_le _, rfl, rfl, rfl, by omega, by omega, by rw [Hid, HA.out]; simp [Fm.strongs], by rw [Hid, HB.out]; simp [Fm.weaks], Below.refl _ _⟩
      case round =>
        obtain ⟨k, r, s, hk, rfl, rfl, rfl, hr1, hs1, HX, HY, hb⟩ := hrel
        have hWr := hW.trans (hb.mono hW.size)
        have bR := bT.keep hb
        have eT0 := bR.c0
        have eT1 := bR.c1
        have eT2 := bR.c2
        have eT3 := bR.c3
        have eT4 := bR.c4
        have lT := bR.lt
        by_cases hlt : k < t.parts.length
        · have hne : t.parts ≠ [] := by intro e; rw [e] at hlt; simp at hlt
          obtain ⟨b, off, rfl, hS, hbl, hrr⟩ := Fm.sd_get (Fm.at_parts hT) hne
          obtain ⟨c0, c1, c2, c3, c4, q0, q1, q2, q3, q4, qx⟩ := hrr k hlt
          obtain ⟨rfl, rfl, ⟨p, pc, rfl⟩, rfl, y, yc, rfl⟩ := Fm.at_form qx
          replace q0 := (hb.cell (p := ⟨b, off + k * 5, none⟩) hbl).trans q0
          replace q1 := (hb.cell (p := ⟨b, off + k * 5 + 1, none⟩) hbl).trans q1
          replace q2 := (hb.cell (p := ⟨b, off + k * 5 + 2, none⟩) hbl).trans q2
          replace q3 := (hb.cell (p := ⟨b, off + k * 5 + 3, none⟩) hbl).trans q3
          replace q4 := (hb.cell (p := ⟨b, off + k * 5 + 4, none⟩) hbl).trans q4
          replace qx := Fm.at_keep (Keeps.all hb) qx
          have hmem := h t.parts[k] (List.getElem_mem hlt)
          have hbm : t.parts[k].bulk ≤ 1048576 := by have := Fm.bulk_mem (List.getElem_mem hlt); have := Fm.bulk_eq t; omega
          clear hrr
          have hq0 := cell_alloc q0
          have hst := hid (Fm.strongs_take t.op false t.parts 0 k hlt)
          have hwt := hid (Fm.weaks_take t.op false t.parts 0 k hlt)
          have hsl := hid (Fm.strongs_le t.op false t.parts 0 (k + 1))
          have hwl := hid (Fm.weaks_le t.op false t.parts 0 (k + 1))
          have hsz := Fm.size_bulk t.parts[k]
          have HSM : Hid (∀ q, t.parts[k].strong q ≤ 1048577) := fun q => Nat.le_trans (Fm.strong_size t.parts[k] q) (by omega)
          have HWM : Hid (∀ q, t.parts[k].weak q ≤ 1048577) := fun q => Nat.le_trans (Fm.weak_size t.parts[k] q) (by omega)
          clear hsz
          by_cases o4 : t.op = 4
          · have HP : Hid (polar t.op false (0 + k) = true) := polar_4 o4
            have s4 : (t.op == 4) = true := by simp [o4]
            clear o4
            go_wp2_with fail
            refine (hmem true qx hbm).mono ?_
            rintro e w2 ⟨_, rfl, hb3, rfl⟩
            have hr2 := HSM.out true
            have hs2 := HWM.out true
            obtain ⟨r2, HR⟩ : ∃ r2, Hid (t.parts[k].strong true = r2) := ⟨_, hid rfl⟩
            obtain ⟨s2, HS⟩ : ∃ s2, Hid (t.parts[k].weak true = s2) := ⟨_, hid rfl⟩
            rw [HR.out, HS.out]
            rw [HR.out] at hr2
            rw [HS.out] at hs2
            have HU : Hid (r + r2 = strongQ t.op false + Fm.strongs t.op false 0 (t.parts.take (k + 1))) := by
              have h1 := HX.out; have h2 := hst.out; rw [HP.out, HR.out] at h2; show _ = _; omega
            have HV : Hid (s + s2 = weakQ t.op false + Fm.weaks t.op false 0 (t.parts.take (k + 1))) := by
              have h1 := HY.out; have h2 := hwt.out; rw [HP.out, HS.out] at h2; show _ = _; omega
            have hr3 : r + r2 ≤ 1048577 := by have := HU.out; have := hsl.out; have := hsd.out; have := hss.out; omega
            have hs3 : s + s2 ≤ 1048577 := by have := HV.out; have := hwl.out; have := hwd.out; have := hws.out; omega
            go_wp2_with fail
            go_roundw
            case rel => exact ⟨k + 1, r + r2, s + s2, by omega, by go_num, by go_num, by go_num, hr3, hs3, HU, HV, hb.trans (hb3.mono hb.size)⟩
            case measure => simp [intOf]; omega
          · have s4 : (t.op == 4) = false := by simp [o4]
            by_cases o7 : t.op = 7
            · have s7 : (t.op == 7) = true := by simp [o7]
              by_cases hk0 : k = 0
              · have HP : Hid (polar t.op false (0 + k) = true) := polar_7 o7 (by omega)
                have sk : ((k : Int) == 0) = true := by rw [beq_iff_eq]; omega
                have HK := hid hk0
                clear hk0 o4 o7
                go_wp2_with fail
                refine (hmem true qx hbm).mono ?_
                rintro e w2 ⟨_, rfl, hb3, rfl⟩
                have hr2 := HSM.out true
                have hs2 := HWM.out true
                obtain ⟨r2, HR⟩ : ∃ r2, Hid (t.parts[k].strong true = r2) := ⟨_, hid rfl⟩
                obtain ⟨s2, HS⟩ : ∃ s2, Hid (t.parts[k].weak true = s2) := ⟨_, hid rfl⟩
                rw [HR.out, HS.out]
                rw [HR.out] at hr2
                rw [HS.out] at hs2
                have HU : Hid (r + r2 = strongQ t.op false + Fm.strongs t.op false 0 (t.parts.take (k + 1))) := by
                  have h1 := HX.out; have h2 := hst.out; rw [HP.out, HR.out] at h2; show _ = _; omega
                have HV : Hid (s + s2 = weakQ t.op false + Fm.weaks t.op false 0 (t.parts.take (k + 1))) := by
                  have h1 := HY.out; have h2 := hwt.out; rw [HP.out, HS.out] at h2; show _ = _; omega
                have hr3 : r + r2 ≤ 1048577 := by have := HU.out; have := hsl.out; have := hsd.out; have := hss.out; omega
                have hs3 : s + s2 ≤ 1048577 := by have := HV.out; have := hwl.out; have := hwd.out; have := hws.out; omega
                go_wp2_with fail
                go_roundw
                case rel => exact ⟨k + 1, r + r2, s + s2, by omega, by go_num, by go_num, by go_num, hr3, hs3, HU, HV, hb.trans (hb3.mono hb.size)⟩
                case measure => simp [intOf]; omega
              · have HP : Hid (polar t.op false (0 + k) = false) := polar_n o4 (by rintro ⟨_, q⟩; omega)
                have sk : ((k : Int) == 0) = false := by rw [beq_eq_false_iff_ne]; omega
                clear hk0 o4 o7
                go_wp2_with fail
                refine (hmem false qx hbm).mono ?_
                rintro e w2 ⟨_, rfl, hb3, rfl⟩
                have hr2 := HSM.out false
                have hs2 := HWM.out false
                obtain ⟨r2, HR⟩ : ∃ r2, Hid (t.parts[k].strong false = r2) := ⟨_, hid rfl⟩
                obtain ⟨s2, HS⟩ : ∃ s2, Hid (t.parts[k].weak false = s2) := ⟨_, hid rfl⟩
                rw [HR.out, HS.out]
                rw [HR.out] at hr2
                rw [HS.out] at hs2
                have HU : Hid (r + r2 = strongQ t.op false + Fm.strongs t.op false 0 (t.parts.take (k + 1))) := by
                  have h1 := HX.out; have h2 := hst.out; rw [HP.out, HR.out] at h2; show _ = _; omega
                have HV : Hid (s + s2 = weakQ t.op false + Fm.weaks t.op false 0 (t.parts.take (k + 1))) := by
                  have h1 := HY.out; have h2 := hwt.out; rw [HP.out, HS.out] at h2; show _ = _; omega
                have hr3 : r + r2 ≤ 1048577 := by have := HU.out; have := hsl.out; have := hsd.out; have := hss.out; omega
                have hs3 : s + s2 ≤ 1048577 := by have := HV.out; have := hwl.out; have := hwd.out; have := hws.out; omega
                go_wp2_with fail
                go_roundw
                case rel => exact ⟨k + 1, r + r2, s + s2, by omega, by go_num, by go_num, by go_num, hr3, hs3, HU, HV, hb.trans (hb3.mono hb.size)⟩
                case measure => simp [intOf]; omega
            · have HP : Hid (polar t.op false (0 + k) = false) := polar_n o4 (by rintro ⟨q, _⟩; exact o7 q)
              have s7 : (t.op == 7) = false := by simp [o7]
              clear o4 o7
              go_wp2_with fail
              refine (hmem false qx hbm).mono ?_
              rintro e w2 ⟨_, rfl, hb3, rfl⟩
              have hr2 := HSM.out false
              have hs2 := HWM.out false
              obtain ⟨r2, HR⟩ : ∃ r2, Hid (t.parts[k].strong false = r2) := ⟨_, hid rfl⟩
              obtain ⟨s2, HS⟩ : ∃ s2, Hid (t.parts[k].weak false = s2) := ⟨_, hid rfl⟩
              rw [HR.out, HS.out]
              rw [HR.out] at hr2
              rw [HS.out] at hs2
              have HU : Hid (r + r2 = strongQ t.op false + Fm.strongs t.op false 0 (t.parts.take (k + 1))) := by
                have h1 := HX.out; have h2 := hst.out; rw [HP.out, HR.out] at h2; show _ = _; omega
              have HV : Hid (s + s2 = weakQ t.op false + Fm.weaks t.op false 0 (t.parts.take (k + 1))) := by
                have h1 := HY.out; have h2 := hwt.out; rw [HP.out, HS.out] at h2; show _ = _; omega
              have hr3 : r + r2 ≤ 1048577 := by have := HU.out; have := hsl.out; have := hsd.out; have := hss.out; omega
              have hs3 : s + s2 ≤ 1048577 := by have := HV.out; have := hwl.out; have := hwd.out; have := hws.out; omega
              go_wp2_with fail
              go_roundw
              case rel => exact ⟨k + 1, r + r2, s + s2, by omega, by go_num, by go_num, by go_num, hr3, hs3, HU, HV, hb.trans (hb3.mono hb.size)⟩
              case measure => simp [intOf]; omega
        · obtain rfl : k = t.parts.length := by omega
          have HU : Hid (r = t.strong false) := by rw [Hid, hsd.out]; have := HX.out; rwa [List.take_length] at this
          have HV : Hid (s = t.weak false) := by rw [Hid, hwd.out]; have := HY.out; rwa [List.take_length] at this
          go_wp2_with fail
          go_ret2
          exact Gives.mk (by rw [← HU.out, ← HV.out]; rfl) hWr
    · obtain ⟨rfl, rfl, ⟨a, cap, rfl⟩, rfl, a2, cap2, rfl⟩ := Fm.at_form hT
      have hW : Below w.heap.size w (w.alloc (.cells #[.int .i64 t.op, .string t.atom.name, .slice a t.atom.args.length cap, .string t.v, .slice a2 t.parts.length cap2] 61)) := (Below.refl _ _).alloc (Nat.le_refl _) _
      have bT : Box (w.alloc (.cells #[.int .i64 t.op, .string t.atom.name, .slice a t.atom.args.length cap, .string t.v, .slice a2 t.parts.length cap2] 61)) w.heap.size [.int .i64 t.op, .string t.atom.name, .slice a t.atom.args.length cap, .string t.v, .slice a2 t.parts.length cap2] := Box.new w _ _
      replace hT := Fm.at_keep (Keeps.all hW) hT
      go_enter Try.func94, Try.ntmps94
      go_wp2_with fail
      generalize (w.alloc (.cells #[.int .i64 t.op, .string t.atom.name, .slice a t.atom.args.length cap, .string t.v, .slice a2 t.parts.length cap2] 61)) = w0 at *
      go_loopw [6, 7, 8] (fun x y i wr => ∃ (k r s : Nat), k ≤ t.parts.length ∧ i = .int .i64 k ∧ x = .int .i64 r ∧ y = .int .i64 s ∧ r ≤ 1048577 ∧ s ≤ 1048577 ∧ Hid (r = strongQ t.op true + Fm.strongs t.op true 0 (t.parts.take k)) ∧ Hid (s = weakQ t.op true + Fm.weaks t.op true 0 (t.parts.take k)) ∧ Below w0.heap.size w0 wr) (fun _ _ i _ => t.parts.length - (intOf i).toNat)
      case atStart =>
        first
        | exact ⟨0, 0, 0, Nat.zero_le _, rfl, rfl, rfl, by omega, by omega, by rw [Hid, HA.out]; simp [Fm.strongs], by rw [Hid, HB.out]; simp [Fm.weaks], Below.refl _ _⟩
        | exact ⟨0, 1, 0, Nat.zero_le _, rfl, rfl, rfl, by omega, by omega, by rw [Hid, HA.out]; simp [Fm.strongs], by rw [Hid, HB.out]; simp [Fm.weaks], Below.refl _ _⟩
        | exact ⟨0, 0, 1, Nat.zero_le _, rfl, rfl, rfl, by omega, by omega, by rw [Hid, HA.out]; simp [Fm.strongs], by rw [Hid, HB.out]; simp [Fm.weaks], Below.refl _ _⟩
      case round =>
        obtain ⟨k, r, s, hk, rfl, rfl, rfl, hr1, hs1, HX, HY, hb⟩ := hrel
        have hWr := hW.trans (hb.mono hW.size)
        have bR := bT.keep hb
        have eT0 := bR.c0
        have eT1 := bR.c1
        have eT2 := bR.c2
        have eT3 := bR.c3
        have eT4 := bR.c4
        have lT := bR.lt
        by_cases hlt : k < t.parts.length
        · have hne : t.parts ≠ [] := by intro e; rw [e] at hlt; simp at hlt
          obtain ⟨b, off, rfl, hS, hbl, hrr⟩ := Fm.sd_get (Fm.at_parts hT) hne
          obtain ⟨c0, c1, c2, c3, c4, q0, q1, q2, q3, q4, qx⟩ := hrr k hlt
          obtain ⟨rfl, rfl, ⟨p, pc, rfl⟩, rfl, y, yc, rfl⟩ := Fm.at_form qx
          replace q0 := (hb.cell (p := ⟨b, off + k * 5, none⟩) hbl).trans q0
          replace q1 := (hb.cell (p := ⟨b, off + k * 5 + 1, none⟩) hbl).trans q1
          replace q2 := (hb.cell (p := ⟨b, off + k * 5 + 2, none⟩) hbl).trans q2
          replace q3 := (hb.cell (p := ⟨b, off + k * 5 + 3, none⟩) hbl).trans q3
          replace q4 := (hb.cell (p := ⟨b, off + k * 5 + 4, none⟩) hbl).trans q4
          replace qx := Fm.at_keep (Keeps.all hb) qx
          have hmem := h t.parts[k] (List.getElem_mem hlt)
          have hbm : t.parts[k].bulk ≤ 1048576 := by have := Fm.bulk_mem (List.getElem_mem hlt); have := Fm.bulk_eq t; omega
          clear hrr
          have hq0 := cell_alloc q0
          have hst := hid (Fm.strongs_take t.op true t.parts 0 k hlt)
          have hwt := hid (Fm.weaks_take t.op true t.parts 0 k hlt)
          have hsl := hid (Fm.strongs_le t.op true t.parts 0 (k + 1))
          have hwl := hid (Fm.weaks_le t.op true t.parts 0 (k + 1))
          have hsz := Fm.size_bulk t.parts[k]
          have HSM : Hid (∀ q, t.parts[k].strong q ≤ 1048577) := fun q => Nat.le_trans (Fm.strong_size t.parts[k] q) (by omega)
          have HWM : Hid (∀ q, t.parts[k].weak q ≤ 1048577) := fun q => Nat.le_trans (Fm.weak_size t.parts[k] q) (by omega)
          clear hsz
          by_cases o4 : t.op = 4
          · have HP : Hid (polar t.op true (0 + k) = false) := polar_4 o4
            have s4 : (t.op == 4) = true := by simp [o4]
            clear o4
            go_wp2_with fail
            refine (hmem false qx hbm).mono ?_
            rintro e w2 ⟨_, rfl, hb3, rfl⟩
            have hr2 := HSM.out false
            have hs2 := HWM.out false
            obtain ⟨r2, HR⟩ : ∃ r2, Hid (t.parts[k].strong false = r2) := ⟨_, hid rfl⟩
            obtain ⟨s2, HS⟩ : ∃ s2, Hid (t.parts[k].weak false = s2) := ⟨_, hid rfl⟩
            rw [HR.out, HS.out]
            rw [HR.out] at hr2
            rw [HS.out] at hs2
            have HU : Hid (r + r2 = strongQ t.op true + Fm.strongs t.op true 0 (t.parts.take (k + 1))) := by
              have h1 := HX.out; have h2 := hst.out; rw [HP.out, HR.out] at h2; show _ = _; omega
            have HV : Hid (s + s2 = weakQ t.op true + Fm.weaks t.op true 0 (t.parts.take (k + 1))) := by
              have h1 := HY.out; have h2 := hwt.out; rw [HP.out, HS.out] at h2; show _ = _; omega
            have hr3 : r + r2 ≤ 1048577 := by have := HU.out; have := hsl.out; have := hsd.out; have := hss.out; omega
            have hs3 : s + s2 ≤ 1048577 := by have := HV.out; have := hwl.out; have := hwd.out; have := hws.out; omega
            go_wp2_with fail
            go_roundw
            case rel => exact ⟨k + 1, r + r2, s + s2, by omega, by go_num, by go_num, by go_num, hr3, hs3, HU, HV, hb.trans (hb3.mono hb.size)⟩
            case measure => simp [intOf]; omega
          · have s4 : (t.op == 4) = false := by simp [o4]
            by_cases o7 : t.op = 7
            · have s7 : (t.op == 7) = true := by simp [o7]
              by_cases hk0 : k = 0
              · have HP : Hid (polar t.op true (0 + k) = false) := polar_7 o7 (by omega)
                have sk : ((k : Int) == 0) = true := by rw [beq_iff_eq]; omega
                have HK := hid hk0
                clear hk0 o4 o7
                go_wp2_with fail
                refine (hmem false qx hbm).mono ?_
                rintro e w2 ⟨_, rfl, hb3, rfl⟩
                have hr2 := HSM.out false
                have hs2 := HWM.out false
                obtain ⟨r2, HR⟩ : ∃ r2, Hid (t.parts[k].strong false = r2) := ⟨_, hid rfl⟩
                obtain ⟨s2, HS⟩ : ∃ s2, Hid (t.parts[k].weak false = s2) := ⟨_, hid rfl⟩
                rw [HR.out, HS.out]
                rw [HR.out] at hr2
                rw [HS.out] at hs2
                have HU : Hid (r + r2 = strongQ t.op true + Fm.strongs t.op true 0 (t.parts.take (k + 1))) := by
                  have h1 := HX.out; have h2 := hst.out; rw [HP.out, HR.out] at h2; show _ = _; omega
                have HV : Hid (s + s2 = weakQ t.op true + Fm.weaks t.op true 0 (t.parts.take (k + 1))) := by
                  have h1 := HY.out; have h2 := hwt.out; rw [HP.out, HS.out] at h2; show _ = _; omega
                have hr3 : r + r2 ≤ 1048577 := by have := HU.out; have := hsl.out; have := hsd.out; have := hss.out; omega
                have hs3 : s + s2 ≤ 1048577 := by have := HV.out; have := hwl.out; have := hwd.out; have := hws.out; omega
                go_wp2_with fail
                go_roundw
                case rel => exact ⟨k + 1, r + r2, s + s2, by omega, by go_num, by go_num, by go_num, hr3, hs3, HU, HV, hb.trans (hb3.mono hb.size)⟩
                case measure => simp [intOf]; omega
              · have HP : Hid (polar t.op true (0 + k) = true) := polar_n o4 (by rintro ⟨_, q⟩; omega)
                have sk : ((k : Int) == 0) = false := by rw [beq_eq_false_iff_ne]; omega
                clear hk0 o4 o7
                go_wp2_with fail
                refine (hmem true qx hbm).mono ?_
                rintro e w2 ⟨_, rfl, hb3, rfl⟩
                have hr2 := HSM.out true
                have hs2 := HWM.out true
                obtain ⟨r2, HR⟩ : ∃ r2, Hid (t.parts[k].strong true = r2) := ⟨_, hid rfl⟩
                obtain ⟨s2, HS⟩ : ∃ s2, Hid (t.parts[k].weak true = s2) := ⟨_, hid rfl⟩
                rw [HR.out, HS.out]
                rw [HR.out] at hr2
                rw [HS.out] at hs2
                have HU : Hid (r + r2 = strongQ t.op true + Fm.strongs t.op true 0 (t.parts.take (k + 1))) := by
                  have h1 := HX.out; have h2 := hst.out; rw [HP.out, HR.out] at h2; show _ = _; omega
                have HV : Hid (s + s2 = weakQ t.op true + Fm.weaks t.op true 0 (t.parts.take (k + 1))) := by
                  have h1 := HY.out; have h2 := hwt.out; rw [HP.out, HS.out] at h2; show _ = _; omega
                have hr3 : r + r2 ≤ 1048577 := by have := HU.out; have := hsl.out; have := hsd.out; have := hss.out; omega
                have hs3 : s + s2 ≤ 1048577 := by have := HV.out; have := hwl.out; have := hwd.out; have := hws.out; omega
                go_wp2_with fail
                go_roundw
                case rel => exact ⟨k + 1, r + r2, s + s2, by omega, by go_num, by go_num, by go_num, hr3, hs3, HU, HV, hb.trans (hb3.mono hb.size)⟩
                case measure => simp [intOf]; omega
            · have HP : Hid (polar t.op true (0 + k) = true) := polar_n o4 (by rintro ⟨q, _⟩; exact o7 q)
              have s7 : (t.op == 7) = false := by simp [o7]
              clear o4 o7
              go_wp2_with fail
              refine (hmem true qx hbm).mono ?_
              rintro e w2 ⟨_, rfl, hb3, rfl⟩
              have hr2 := HSM.out true
              have hs2 := HWM.out true
              obtain ⟨r2, HR⟩ : ∃ r2, Hid (t.parts[k].strong true = r2) := ⟨_, hid rfl⟩
              obtain ⟨s2, HS⟩ : ∃ s2, Hid (t.parts[k].weak true = s2) := ⟨_, hid rfl⟩
              rw [HR.out, HS.out]
              rw [HR.out] at hr2
              rw [HS.out] at hs2
              have HU : Hid (r + r2 = strongQ t.op true + Fm.strongs t.op true 0 (t.parts.take (k + 1))) := by
                have h1 := HX.out; have h2 := hst.out; rw [HP.out, HR.out] at h2; show _ = _; omega
              have HV : Hid (s + s2 = weakQ t.op true + Fm.weaks t.op true 0 (t.parts.take (k + 1))) := by
                have h1 := HY.out; have h2 := hwt.out; rw [HP.out, HS.out] at h2; show _ = _; omega
              have hr3 : r + r2 ≤ 1048577 := by have := HU.out; have := hsl.out; have := hsd.out; have := hss.out; omega
              have hs3 : s + s2 ≤ 1048577 := by have := HV.out; have := hwl.out; have := hwd.out; have := hws.out; omega
              go_wp2_with fail
              go_roundw
              case rel => exact ⟨k + 1, r + r2, s + s2, by omega, by go_num, by go_num, by go_num, hr3, hs3, HU, HV, hb.trans (hb3.mono hb.size)⟩
              case measure => simp [intOf]; omega
        · obtain rfl : k = t.parts.length := by omega
          have HU : Hid (r = t.strong true) := by rw [Hid, hsd.out]; have := HX.out; rwa [List.take_length] at this
          have HV : Hid (s = t.weak true) := by rw [Hid, hwd.out]; have := HY.out; rwa [List.take_length] at this
          go_wp2_with fail
          go_ret2
          exact Gives.mk (by rw [← HU.out, ← HV.out]; rfl) hWr
  · obtain ⟨rfl, rfl, ⟨a, cap, rfl⟩, rfl, a2, cap2, rfl⟩ := Fm.at_form hT
    have hW : Below w.heap.size w (w.alloc (.cells #[.int .i64 t.op, .string t.atom.name, .slice a t.atom.args.length cap, .string t.v, .slice a2 t.parts.length cap2] 61)) := (Below.refl _ _).alloc (Nat.le_refl _) _
    have bT : Box (w.alloc (.cells #[.int .i64 t.op, .string t.atom.name, .slice a t.atom.args.length cap, .string t.v, .slice a2 t.parts.length cap2] 61)) w.heap.size [.int .i64 t.op, .string t.atom.name, .slice a t.atom.args.length cap, .string t.v, .slice a2 t.parts.length cap2] := Box.new w _ _
    replace hT := Fm.at_keep (Keeps.all hW) hT
    go_enter Try.func94, Try.ntmps94
    go_wp2_with fail
    generalize (w.alloc (.cells #[.int .i64 t.op, .string t.atom.name, .slice a t.atom.args.length cap, .string t.v, .slice a2 t.parts.length cap2] 61)) = w0 at *
    go_loopw [6, 7, 8] (fun x y i wr => ∃ (k r s : Nat), k ≤ t.parts.length ∧ i = .int .i64 k ∧ x = .int .i64 r ∧ y = .int .i64 s ∧ r ≤ 1048577 ∧ s ≤ 1048577 ∧ Hid (r = strongQ t.op true + Fm.strongs t.op true 0 (t.parts.take k)) ∧ Hid (s = weakQ t.op true + Fm.weaks t.op true 0 (t.parts.take k)) ∧ Below w0.heap.size w0 wr) (fun _ _ i _ => t.parts.length - (intOf i).toNat)
    case atStart =>
      first
      | exact ⟨0, 0, 0, Nat.zero_le _, rfl, rfl, rfl, by omega, by omega, by rw [Hid, HA.out]; simp [Fm.strongs], by rw [Hid, HB.out]; simp [Fm.weaks], Below.refl _ _⟩
      | exact ⟨0, 1, 0, Nat.zero_le _, rfl, rfl, rfl, by omega, by omega, by rw [Hid, HA.out]; simp [Fm.strongs], by rw [Hid, HB.out]; simp [Fm.weaks], Below.refl _ _⟩
      | exact ⟨0, 0, 1, Nat.zero_le _, rfl, rfl, rfl, by omega, by omega, by rw [Hid, HA.out]; simp [Fm.strongs], by rw [Hid, HB.out]; simp [Fm.weaks], Below.refl _ _⟩
    case round =>
      obtain ⟨k, r, s, hk, rfl, rfl, rfl, hr1, hs1, HX, HY, hb⟩ := hrel
      have hWr := hW.trans (hb.mono hW.size)
      have bR := bT.keep hb
      have eT0 := bR.c0
      have eT1 := bR.c1
      have eT2 := bR.c2
      have eT3 := bR.c3
      have eT4 := bR.c4
      have lT := bR.lt
      by_cases hlt : k < t.parts.length
      · have hne : t.parts ≠ [] := by intro e; rw [e] at hlt; simp at hlt
        obtain ⟨b, off, rfl, hS, hbl, hrr⟩ := Fm.sd_get (Fm.at_parts hT) hne
        obtain ⟨c0, c1, c2, c3, c4, q0, q1, q2, q3, q4, qx⟩ := hrr k hlt
        obtain ⟨rfl, rfl, ⟨p, pc, rfl⟩, rfl, y, yc, rfl⟩ := Fm.at_form qx
        replace q0 := (hb.cell (p := ⟨b, off + k * 5, none⟩) hbl).trans q0
        replace q1 := (hb.cell (p := ⟨b, off + k * 5 + 1, none⟩) hbl).trans q1
        replace q2 := (hb.cell (p := ⟨b, off + k * 5 + 2, none⟩) hbl).trans q2
        replace q3 := (hb.cell (p := ⟨b, off + k * 5 + 3, none⟩) hbl).trans q3
        replace q4 := (hb.cell (p := ⟨b, off + k * 5 + 4, none⟩) hbl).trans q4
        replace qx := Fm.at_keep (Keeps.all hb) qx
        have hmem := h t.parts[k] (List.getElem_mem hlt)
        have hbm : t.parts[k].bulk ≤ 1048576 := by have := Fm.bulk_mem (List.getElem_mem hlt); have := Fm.bulk_eq t; omega
        clear hrr
        have hq0 := cell_alloc q0
        have hst := hid (Fm.strongs_take t.op true t.parts 0 k hlt)
        have hwt := hid (Fm.weaks_take t.op true t.parts 0 k hlt)
        have hsl := hid (Fm.strongs_le t.op true t.parts 0 (k + 1))
        have hwl := hid (Fm.weaks_le t.op true t.parts 0 (k + 1))
        have hsz := Fm.size_bulk t.parts[k]
        have HSM : Hid (∀ q, t.parts[k].strong q ≤ 1048577) := fun q => Nat.le_trans (Fm.strong_size t.parts[k] q) (by omega)
        have HWM : Hid (∀ q, t.parts[k].weak q ≤ 1048577) := fun q => Nat.le_trans (Fm.weak_size t.parts[k] q) (by omega)
        clear hsz
        by_cases o4 : t.op = 4
        · have HP : Hid (polar t.op true (0 + k) = false) := polar_4 o4
          have s4 : (t.op == 4) = true := by simp [o4]
          clear o4
          go_wp2_with fail
          refine (hmem false qx hbm).mono ?_
          rintro e w2 ⟨_, rfl, hb3, rfl⟩
          have hr2 := HSM.out false
          have hs2 := HWM.out false
          obtain ⟨r2, HR⟩ : ∃ r2, Hid (t.parts[k].strong false = r2) := ⟨_, hid rfl⟩
          obtain ⟨s2, HS⟩ : ∃ s2, Hid (t.parts[k].weak false = s2) := ⟨_, hid rfl⟩
          rw [HR.out, HS.out]
          rw [HR.out] at hr2
          rw [HS.out] at hs2
          have HU : Hid (r + r2 = strongQ t.op true + Fm.strongs t.op true 0 (t.parts.take (k + 1))) := by
            have h1 := HX.out; have h2 := hst.out; rw [HP.out, HR.out] at h2; show _ = _; omega
          have HV : Hid (s + s2 = weakQ t.op true + Fm.weaks t.op true 0 (t.parts.take (k + 1))) := by
            have h1 := HY.out; have h2 := hwt.out; rw [HP.out, HS.out] at h2; show _ = _; omega
          have hr3 : r + r2 ≤ 1048577 := by have := HU.out; have := hsl.out; have := hsd.out; have := hss.out; omega
          have hs3 : s + s2 ≤ 1048577 := by have := HV.out; have := hwl.out; have := hwd.out; have := hws.out; omega
          go_wp2_with fail
          go_roundw
          case rel => exact ⟨k + 1, r + r2, s + s2, by omega, by go_num, by go_num, by go_num, hr3, hs3, HU, HV, hb.trans (hb3.mono hb.size)⟩
          case measure => simp [intOf]; omega
        · have s4 : (t.op == 4) = false := by simp [o4]
          by_cases o7 : t.op = 7
          · have s7 : (t.op == 7) = true := by simp [o7]
            by_cases hk0 : k = 0
            · have HP : Hid (polar t.op true (0 + k) = false) := polar_7 o7 (by omega)
              have sk : ((k : Int) == 0) = true := by rw [beq_iff_eq]; omega
              have HK := hid hk0
              clear hk0 o4 o7
              go_wp2_with fail
              refine (hmem false qx hbm).mono ?_
              rintro e w2 ⟨_, rfl, hb3, rfl⟩
              have hr2 := HSM.out false
              have hs2 := HWM.out false
              obtain ⟨r2, HR⟩ : ∃ r2, Hid (t.parts[k].strong false = r2) := ⟨_, hid rfl⟩
              obtain ⟨s2, HS⟩ : ∃ s2, Hid (t.parts[k].weak false = s2) := ⟨_, hid rfl⟩
              rw [HR.out, HS.out]
              rw [HR.out] at hr2
              rw [HS.out] at hs2
              have HU : Hid (r + r2 = strongQ t.op true + Fm.strongs t.op true 0 (t.parts.take (k + 1))) := by
                have h1 := HX.out; have h2 := hst.out; rw [HP.out, HR.out] at h2; show _ = _; omega
              have HV : Hid (s + s2 = weakQ t.op true + Fm.weaks t.op true 0 (t.parts.take (k + 1))) := by
                have h1 := HY.out; have h2 := hwt.out; rw [HP.out, HS.out] at h2; show _ = _; omega
              have hr3 : r + r2 ≤ 1048577 := by have := HU.out; have := hsl.out; have := hsd.out; have := hss.out; omega
              have hs3 : s + s2 ≤ 1048577 := by have := HV.out; have := hwl.out; have := hwd.out; have := hws.out; omega
              go_wp2_with fail
              go_roundw
              case rel => exact ⟨k + 1, r + r2, s + s2, by omega, by go_num, by go_num, by go_num, hr3, hs3, HU, HV, hb.trans (hb3.mono hb.size)⟩
              case measure => simp [intOf]; omega
            · have HP : Hid (polar t.op true (0 + k) = true) := polar_n o4 (by rintro ⟨_, q⟩; omega)
              have sk : ((k : Int) == 0) = false := by rw [beq_eq_false_iff_ne]; omega
              clear hk0 o4 o7
              go_wp2_with fail
              refine (hmem true qx hbm).mono ?_
              rintro e w2 ⟨_, rfl, hb3, rfl⟩
              have hr2 := HSM.out true
              have hs2 := HWM.out true
              obtain ⟨r2, HR⟩ : ∃ r2, Hid (t.parts[k].strong true = r2) := ⟨_, hid rfl⟩
              obtain ⟨s2, HS⟩ : ∃ s2, Hid (t.parts[k].weak true = s2) := ⟨_, hid rfl⟩
              rw [HR.out, HS.out]
              rw [HR.out] at hr2
              rw [HS.out] at hs2
              have HU : Hid (r + r2 = strongQ t.op true + Fm.strongs t.op true 0 (t.parts.take (k + 1))) := by
                have h1 := HX.out; have h2 := hst.out; rw [HP.out, HR.out] at h2; show _ = _; omega
              have HV : Hid (s + s2 = weakQ t.op true + Fm.weaks t.op true 0 (t.parts.take (k + 1))) := by
                have h1 := HY.out; have h2 := hwt.out; rw [HP.out, HS.out] at h2; show _ = _; omega
              have hr3 : r + r2 ≤ 1048577 := by have := HU.out; have := hsl.out; have := hsd.out; have := hss.out; omega
              have hs3 : s + s2 ≤ 1048577 := by have := HV.out; have := hwl.out; have := hwd.out; have := hws.out; omega
              go_wp2_with fail
              go_roundw
              case rel => exact ⟨k + 1, r + r2, s + s2, by omega, by go_num, by go_num, by go_num, hr3, hs3, HU, HV, hb.trans (hb3.mono hb.size)⟩
              case measure => simp [intOf]; omega
          · have HP : Hid (polar t.op true (0 + k) = true) := polar_n o4 (by rintro ⟨q, _⟩; exact o7 q)
            have s7 : (t.op == 7) = false := by simp [o7]
            clear o4 o7
            go_wp2_with fail
            refine (hmem true qx hbm).mono ?_
            rintro e w2 ⟨_, rfl, hb3, rfl⟩
            have hr2 := HSM.out true
            have hs2 := HWM.out true
            obtain ⟨r2, HR⟩ : ∃ r2, Hid (t.parts[k].strong true = r2) := ⟨_, hid rfl⟩
            obtain ⟨s2, HS⟩ : ∃ s2, Hid (t.parts[k].weak true = s2) := ⟨_, hid rfl⟩
            rw [HR.out, HS.out]
            rw [HR.out] at hr2
            rw [HS.out] at hs2
            have HU : Hid (r + r2 = strongQ t.op true + Fm.strongs t.op true 0 (t.parts.take (k + 1))) := by
              have h1 := HX.out; have h2 := hst.out; rw [HP.out, HR.out] at h2; show _ = _; omega
            have HV : Hid (s + s2 = weakQ t.op true + Fm.weaks t.op true 0 (t.parts.take (k + 1))) := by
              have h1 := HY.out; have h2 := hwt.out; rw [HP.out, HS.out] at h2; show _ = _; omega
            have hr3 : r + r2 ≤ 1048577 := by have := HU.out; have := hsl.out; have := hsd.out; have := hss.out; omega
            have hs3 : s + s2 ≤ 1048577 := by have := HV.out; have := hwl.out; have := hwd.out; have := hws.out; omega
            go_wp2_with fail
            go_roundw
            case rel => exact ⟨k + 1, r + r2, s + s2, by omega, by go_num, by go_num, by go_num, hr3, hs3, HU, HV, hb.trans (hb3.mono hb.size)⟩
            case measure => simp [intOf]; omega
      · obtain rfl : k = t.parts.length := by omega
        have HU : Hid (r = t.strong true) := by rw [Hid, hsd.out]; have := HX.out; rwa [List.take_length] at this
        have HV : Hid (s = t.weak true) := by rw [Hid, hwd.out]; have := HY.out; rwa [List.take_length] at this
        go_wp2_with fail
        go_ret2
        exact Gives.mk (by rw [← HU.out, ← HV.out]; rfl) hWr
  · obtain ⟨rfl, rfl, ⟨a, cap, rfl⟩, rfl, a2, cap2, rfl⟩ := Fm.at_form hT
    have hW : Below w.heap.size w (w.alloc (.cells #[.int .i64 t.op, .string t.atom.name, .slice a t.atom.args.length cap, .string t.v, .slice a2 t.parts.length cap2] 61)) := (Below.refl _ _).alloc (Nat.le_refl _) _
    have bT : Box (w.alloc (.cells #[.int .i64 t.op, .string t.atom.name, .slice a t.atom.args.length cap, .string t.v, .slice a2 t.parts.length cap2] 61)) w.heap.size [.int .i64 t.op, .string t.atom.name, .slice a t.atom.args.length cap, .string t.v, .slice a2 t.parts.length cap2] := Box.new w _ _
    replace hT := Fm.at_keep (Keeps.all hW) hT
    go_enter Try.func94, Try.ntmps94
    go_wp2_with fail
    generalize (w.alloc (.cells #[.int .i64 t.op, .string t.atom.name, .slice a t.atom.args.length cap, .string t.v, .slice a2 t.parts.length cap2] 61)) = w0 at *
    go_loopw [6, 7, 8] (fun x y i wr => ∃ (k r s : Nat), k ≤ t.parts.length ∧ i = .int .i64 k ∧ x = .int .i64 r ∧ y = .int .i64 s ∧ r ≤ 1048577 ∧ s ≤ 1048577 ∧ Hid (r = strongQ t.op false + Fm.strongs t.op false 0 (t.parts.take k)) ∧ Hid (s = weakQ t.op false + Fm.weaks t.op false 0 (t.parts.take k)) ∧ Below w0.heap.size w0 wr) (fun _ _ i _ => t.parts.length - (intOf i).toNat)
    case atStart =>
      first
      | exact ⟨0, 0, 0, Nat.zero_le _, rfl, rfl, rfl, by omega, by omega, by rw [Hid, HA.out]; simp [Fm.strongs], by rw [Hid, HB.out]; simp [Fm.weaks], Below.refl _ _⟩
      | exact ⟨0, 1, 0, Nat.zero_le _, rfl, rfl, rfl, by omega, by omega, by rw [Hid, HA.out]; simp [Fm.strongs], by rw [Hid, HB.out]; simp [Fm.weaks], Below.refl _ _⟩
      | exact ⟨0, 0, 1, Nat.zero_le _, rfl, rfl, rfl, by omega, by omega, by rw [Hid, HA.out]; simp [Fm.strongs], by rw [Hid, HB.out]; simp [Fm.weaks], Below.refl _ _⟩
    case round =>
      obtain ⟨k, r, s, hk, rfl, rfl, rfl, hr1, hs1, HX, HY, hb⟩ := hrel
      have hWr := hW.trans (hb.mono hW.size)
      have bR := bT.keep hb
      have eT0 := bR.c0
      have eT1 := bR.c1
      have eT2 := bR.c2
      have eT3 := bR.c3
      have eT4 := bR.c4
      have lT := bR.lt
      by_cases hlt : k < t.parts.length
      · have hne : t.parts ≠ [] := by intro e; rw [e] at hlt; simp at hlt
        obtain ⟨b, off, rfl, hS, hbl, hrr⟩ := Fm.sd_get (Fm.at_parts hT) hne
        obtain ⟨c0, c1, c2, c3, c4, q0, q1, q2, q3, q4, qx⟩ := hrr k hlt
        obtain ⟨rfl, rfl, ⟨p, pc, rfl⟩, rfl, y, yc, rfl⟩ := Fm.at_form qx
        replace q0 := (hb.cell (p := ⟨b, off + k * 5, none⟩) hbl).trans q0
        replace q1 := (hb.cell (p := ⟨b, off + k * 5 + 1, none⟩) hbl).trans q1
        replace q2 := (hb.cell (p := ⟨b, off + k * 5 + 2, none⟩) hbl).trans q2
        replace q3 := (hb.cell (p := ⟨b, off + k * 5 + 3, none⟩) hbl).trans q3
        replace q4 := (hb.cell (p := ⟨b, off + k * 5 + 4, none⟩) hbl).trans q4
        replace qx := Fm.at_keep (Keeps.all hb) qx
        have hmem := h t.parts[k] (List.getElem_mem hlt)
        have hbm : t.parts[k].bulk ≤ 1048576 := by have := Fm.bulk_mem (List.getElem_mem hlt); have := Fm.bulk_eq t; omega
        clear hrr
        have hq0 := cell_alloc q0
        have hst := hid (Fm.strongs_take t.op false t.parts 0 k hlt)
        have hwt := hid (Fm.weaks_take t.op false t.parts 0 k hlt)
        have hsl := hid (Fm.strongs_le t.op false t.parts 0 (k + 1))
        have hwl := hid (Fm.weaks_le t.op false t.parts 0 (k + 1))
        have hsz := Fm.size_bulk t.parts[k]
        have HSM : Hid (∀ q, t.parts[k].strong q ≤ 1048577) := fun q => Nat.le_trans (Fm.strong_size t.parts[k] q) (by omega)
        have HWM : Hid (∀ q, t.parts[k].weak q ≤ 1048577) := fun q => Nat.le_trans (Fm.weak_size t.parts[k] q) (by omega)
        clear hsz
        by_cases o4 : t.op = 4
        · have HP : Hid (polar t.op false (0 + k) = true) := polar_4 o4
          have s4 : (t.op == 4) = true := by simp [o4]
          clear o4
          go_wp2_with fail
          refine (hmem true qx hbm).mono ?_
          rintro e w2 ⟨_, rfl, hb3, rfl⟩
          have hr2 := HSM.out true
          have hs2 := HWM.out true
          obtain ⟨r2, HR⟩ : ∃ r2, Hid (t.parts[k].strong true = r2) := ⟨_, hid rfl⟩
          obtain ⟨s2, HS⟩ : ∃ s2, Hid (t.parts[k].weak true = s2) := ⟨_, hid rfl⟩
          rw [HR.out, HS.out]
          rw [HR.out] at hr2
          rw [HS.out] at hs2
          have HU : Hid (r + r2 = strongQ t.op false + Fm.strongs t.op false 0 (t.parts.take (k + 1))) := by
            have h1 := HX.out; have h2 := hst.out; rw [HP.out, HR.out] at h2; show _ = _; omega
          have HV : Hid (s + s2 = weakQ t.op false + Fm.weaks t.op false 0 (t.parts.take (k + 1))) := by
            have h1 := HY.out; have h2 := hwt.out; rw [HP.out, HS.out] at h2; show _ = _; omega
          have hr3 : r + r2 ≤ 1048577 := by have := HU.out; have := hsl.out; have := hsd.out; have := hss.out; omega
          have hs3 : s + s2 ≤ 1048577 := by have := HV.out; have := hwl.out; have := hwd.out; have := hws.out; omega
          go_wp2_with fail
          go_roundw
          case rel => exact ⟨k + 1, r + r2, s + s2, by omega, by go_num, by go_num, by go_num, hr3, hs3, HU, HV, hb.trans (hb3.mono hb.size)⟩
          case measure => simp [intOf]; omega
        · have s4 : (t.op == 4) = false := by simp [o4]
          by_cases o7 : t.op = 7
          · have s7 : (t.op == 7) = true := by simp [o7]
            by_cases hk0 : k = 0
            · have HP : Hid (polar t.op false (0 + k) = true) := polar_7 o7 (by omega)
              have sk : ((k : Int) == 0) = true := by rw [beq_iff_eq]; omega
              have HK := hid hk0
              clear hk0 o4 o7
              go_wp2_with fail
              refine (hmem true qx hbm).mono ?_
              rintro e w2 ⟨_, rfl, hb3, rfl⟩
              have hr2 := HSM.out true
              have hs2 := HWM.out true
              obtain ⟨r2, HR⟩ : ∃ r2, Hid (t.parts[k].strong true = r2) := ⟨_, hid rfl⟩
              obtain ⟨s2, HS⟩ : ∃ s2, Hid (t.parts[k].weak true = s2) := ⟨_, hid rfl⟩
              rw [HR.out, HS.out]
              rw [HR.out] at hr2
              rw [HS.out] at hs2
              have HU : Hid (r + r2 = strongQ t.op false + Fm.strongs t.op false 0 (t.parts.take (k + 1))) := by
                have h1 := HX.out; have h2 := hst.out; rw [HP.out, HR.out] at h2; show _ = _; omega
              have HV : Hid (s + s2 = weakQ t.op false + Fm.weaks t.op false 0 (t.parts.take (k + 1))) := by
                have h1 := HY.out; have h2 := hwt.out; rw [HP.out, HS.out] at h2; show _ = _; omega
              have hr3 : r + r2 ≤ 1048577 := by have := HU.out; have := hsl.out; have := hsd.out; have := hss.out; omega
              have hs3 : s + s2 ≤ 1048577 := by have := HV.out; have := hwl.out; have := hwd.out; have := hws.out; omega
              go_wp2_with fail
              go_roundw
              case rel => exact ⟨k + 1, r + r2, s + s2, by omega, by go_num, by go_num, by go_num, hr3, hs3, HU, HV, hb.trans (hb3.mono hb.size)⟩
              case measure => simp [intOf]; omega
            · have HP : Hid (polar t.op false (0 + k) = false) := polar_n o4 (by rintro ⟨_, q⟩; omega)
              have sk : ((k : Int) == 0) = false := by rw [beq_eq_false_iff_ne]; omega
              clear hk0 o4 o7
              go_wp2_with fail
              refine (hmem false qx hbm).mono ?_
              rintro e w2 ⟨_, rfl, hb3, rfl⟩
              have hr2 := HSM.out false
              have hs2 := HWM.out false
              obtain ⟨r2, HR⟩ : ∃ r2, Hid (t.parts[k].strong false = r2) := ⟨_, hid rfl⟩
              obtain ⟨s2, HS⟩ : ∃ s2, Hid (t.parts[k].weak false = s2) := ⟨_, hid rfl⟩
              rw [HR.out, HS.out]
              rw [HR.out] at hr2
              rw [HS.out] at hs2
              have HU : Hid (r + r2 = strongQ t.op false + Fm.strongs t.op false 0 (t.parts.take (k + 1))) := by
                have h1 := HX.out; have h2 := hst.out; rw [HP.out, HR.out] at h2; show _ = _; omega
              have HV : Hid (s + s2 = weakQ t.op false + Fm.weaks t.op false 0 (t.parts.take (k + 1))) := by
                have h1 := HY.out; have h2 := hwt.out; rw [HP.out, HS.out] at h2; show _ = _; omega
              have hr3 : r + r2 ≤ 1048577 := by have := HU.out; have := hsl.out; have := hsd.out; have := hss.out; omega
              have hs3 : s + s2 ≤ 1048577 := by have := HV.out; have := hwl.out; have := hwd.out; have := hws.out; omega
              go_wp2_with fail
              go_roundw
              case rel => exact ⟨k + 1, r + r2, s + s2, by omega, by go_num, by go_num, by go_num, hr3, hs3, HU, HV, hb.trans (hb3.mono hb.size)⟩
              case measure => simp [intOf]; omega
          · have HP : Hid (polar t.op false (0 + k) = false) := polar_n o4 (by rintro ⟨q, _⟩; exact o7 q)
            have s7 : (t.op == 7) = false := by simp [o7]
            clear o4 o7
            go_wp2_with fail
            refine (hmem false qx hbm).mono ?_
            rintro e w2 ⟨_, rfl, hb3, rfl⟩
            have hr2 := HSM.out false
            have hs2 := HWM.out false
            obtain ⟨r2, HR⟩ : ∃ r2, Hid (t.parts[k].strong false = r2) := ⟨_, hid rfl⟩
            obtain ⟨s2, HS⟩ : ∃ s2, Hid (t.parts[k].weak false = s2) := ⟨_, hid rfl⟩
            rw [HR.out, HS.out]
            rw [HR.out] at hr2
            rw [HS.out] at hs2
            have HU : Hid (r + r2 = strongQ t.op false + Fm.strongs t.op false 0 (t.parts.take (k + 1))) := by
              have h1 := HX.out; have h2 := hst.out; rw [HP.out, HR.out] at h2; show _ = _; omega
            have HV : Hid (s + s2 = weakQ t.op false + Fm.weaks t.op false 0 (t.parts.take (k + 1))) := by
              have h1 := HY.out; have h2 := hwt.out; rw [HP.out, HS.out] at h2; show _ = _; omega
            have hr3 : r + r2 ≤ 1048577 := by have := HU.out; have := hsl.out; have := hsd.out; have := hss.out; omega
            have hs3 : s + s2 ≤ 1048577 := by have := HV.out; have := hwl.out; have := hwd.out; have := hws.out; omega
            go_wp2_with fail
            go_roundw
            case rel => exact ⟨k + 1, r + r2, s + s2, by omega, by go_num, by go_num, by go_num, hr3, hs3, HU, HV, hb.trans (hb3.mono hb.size)⟩
            case measure => simp [intOf]; omega
      · obtain rfl : k = t.parts.length := by omega
        have HU : Hid (r = t.strong false) := by rw [Hid, hsd.out]; have := HX.out; rwa [List.take_length] at this
        have HV : Hid (s = t.weak false) := by rw [Hid, hwd.out]; have := HY.out; rwa [List.take_length] at this
        go_wp2_with fail
        go_ret2
        exact Gives.mk (by rw [← HU.out, ← HV.out]; rfl) hWr
  · obtain ⟨rfl, rfl, ⟨a, cap, rfl⟩, rfl, a2, cap2, rfl⟩ := Fm.at_form hT
    have hW : Below w.heap.size w (w.alloc (.cells #[.int .i64 t.op, .string t.atom.name, .slice a t.atom.args.length cap, .string t.v, .slice a2 t.parts.length cap2] 61)) := (Below.refl _ _).alloc (Nat.le_refl _) _
    have bT : Box (w.alloc (.cells #[.int .i64 t.op, .string t.atom.name, .slice a t.atom.args.length cap, .string t.v, .slice a2 t.parts.length cap2] 61)) w.heap.size [.int .i64 t.op, .string t.atom.name, .slice a t.atom.args.length cap, .string t.v, .slice a2 t.parts.length cap2] := Box.new w _ _
    replace hT := Fm.at_keep (Keeps.all hW) hT
    go_enter Try.func94, Try.ntmps94
    go_wp2_with fail
    generalize (w.alloc (.cells #[.int .i64 t.op, .string t.atom.name, .slice a t.atom.args.length cap, .string t.v, .slice a2 t.parts.length cap2] 61)) = w0 at *
    go_loopw [6, 7, 8] (fun x y i wr => ∃ (k r s : Nat), k ≤ t.parts.length ∧ i = .int .i64 k ∧ x = .int .i64 r ∧ y = .int .i64 s ∧ r ≤ 1048577 ∧ s ≤ 1048577 ∧ Hid (r = strongQ t.op true + Fm.strongs t.op true 0 (t.parts.take k)) ∧ Hid (s = weakQ t.op true + Fm.weaks t.op true 0 (t.parts.take k)) ∧ Below w0.heap.size w0 wr) (fun _ _ i _ => t.parts.length - (intOf i).toNat)
    case atStart =>
      first
      | exact ⟨0, 0, 0, Nat.zero_le _, rfl, rfl, rfl, by omega, by omega, by rw [Hid, HA.out]; simp [Fm.strongs], by rw [Hid, HB.out]; simp [Fm.weaks], Below.refl _ _⟩
      | exact ⟨0, 1, 0, Nat.zero_le _, rfl, rfl, rfl, by omega, by omega, by rw [Hid, HA.out]; simp [Fm.strongs], by rw [Hid, HB.out]; simp [Fm.weaks], Below.refl _ _⟩
      | exact ⟨0, 0, 1, Nat.zero_le _, rfl, rfl, rfl, by omega, by omega, by rw [Hid, HA.out]; simp [Fm.strongs], by rw [Hid, HB.out]; simp [Fm.weaks], Below.refl _ _⟩
    case round =>
      obtain ⟨k, r, s, hk, rfl, rfl, rfl, hr1, hs1, HX, HY, hb⟩ := hrel
      have hWr := hW.trans (hb.mono hW.size)
      have bR := bT.keep hb
      have eT0 := bR.c0
      have eT1 := bR.c1
      have eT2 := bR.c2
      have eT3 := bR.c3
      have eT4 := bR.c4
      have lT := bR.lt
      by_cases hlt : k < t.parts.length
      · have hne : t.parts ≠ [] := by intro e; rw [e] at hlt; simp at hlt
        obtain ⟨b, off, rfl, hS, hbl, hrr⟩ := Fm.sd_get (Fm.at_parts hT) hne
        obtain ⟨c0, c1, c2, c3, c4, q0, q1, q2, q3, q4, qx⟩ := hrr k hlt
        obtain ⟨rfl, rfl, ⟨p, pc, rfl⟩, rfl, y, yc, rfl⟩ := Fm.at_form qx
        replace q0 := (hb.cell (p := ⟨b, off + k * 5, none⟩) hbl).trans q0
        replace q1 := (hb.cell (p := ⟨b, off + k * 5 + 1, none⟩) hbl).trans q1
        replace q2 := (hb.cell (p := ⟨b, off + k * 5 + 2, none⟩) hbl).trans q2
        replace q3 := (hb.cell (p := ⟨b, off + k * 5 + 3, none⟩) hbl).trans q3
        replace q4 := (hb.cell (p := ⟨b, off + k * 5 + 4, none⟩) hbl).trans q4
        replace qx := Fm.at_keep (Keeps.all hb) qx
        have hmem := h t.parts[k] (List.getElem_mem hlt)
        have hbm : t.parts[k].bulk ≤ 1048576 := by have := Fm.bulk_mem (List.getElem_mem hlt); have := Fm.bulk_eq t; omega
        clear hrr
        have hq0 := cell_alloc q0
        have hst := hid (Fm.strongs_take t.op true t.parts 0 k hlt)
        have hwt := hid (Fm.weaks_take t.op true t.parts 0 k hlt)
        have hsl := hid (Fm.strongs_le t.op true t.parts 0 (k + 1))
        have hwl := hid (Fm.weaks_le t.op true t.parts 0 (k + 1))
        have hsz := Fm.size_bulk t.parts[k]
        have HSM : Hid (∀ q, t.parts[k].strong q ≤ 1048577) := fun q => Nat.le_trans (Fm.strong_size t.parts[k] q) (by omega)
        have HWM : Hid (∀ q, t.parts[k].weak q ≤ 1048577) := fun q => Nat.le_trans (Fm.weak_size t.parts[k] q) (by omega)
        clear hsz
        by_cases o4 : t.op = 4
        · have HP : Hid (polar t.op true (0 + k) = false) := polar_4 o4
          have s4 : (t.op == 4) = true := by simp [o4]
          clear o4
          go_wp2_with fail
          refine (hmem false qx hbm).mono ?_
          rintro e w2 ⟨_, rfl, hb3, rfl⟩
          have hr2 := HSM.out false
          have hs2 := HWM.out false
          obtain ⟨r2, HR⟩ : ∃ r2, Hid (t.parts[k].strong false = r2) := ⟨_, hid rfl⟩
          obtain ⟨s2, HS⟩ : ∃ s2, Hid (t.parts[k].weak false = s2) := ⟨_, hid rfl⟩
          rw [HR.out, HS.out]
          rw [HR.out] at hr2
          rw [HS.out] at hs2
          have HU : Hid (r + r2 = strongQ t.op true + Fm.strongs t.op true 0 (t.parts.take (k + 1))) := by
            have h1 := HX.out; have h2 := hst.out; rw [HP.out, HR.out] at h2; show _ = _; omega
          have HV : Hid (s + s2 = weakQ t.op true + Fm.weaks t.op true 0 (t.parts.take (k + 1))) := by
            have h1 := HY.out; have h2 := hwt.out; rw [HP.out, HS.out] at h2; show _ = _; omega
          have hr3 : r + r2 ≤ 1048577 := by have := HU.out; have := hsl.out; have := hsd.out; have := hss.out; omega
          have hs3 : s + s2 ≤ 1048577 := by have := HV.out; have := hwl.out; have := hwd.out; have := hws.out; omega
          go_wp2_with fail
          go_roundw
          case rel => exact ⟨k + 1, r + r2, s + s2, by omega, by go_num, by go_num, by go_num, hr3, hs3, HU, HV, hb.trans (hb3.mono hb.size)⟩
          case measure => simp [intOf]; omega
        · have s4 : (t.op == 4) = false := by simp [o4]
          by_cases o7 : t.op = 7
          · have s7 : (t.op == 7) = true := by simp [o7]
            by_cases hk0 : k = 0
            · have HP : Hid (polar t.op true (0 + k) = false) := polar_7 o7 (by omega)
              have sk : ((k : Int) == 0) = true := by rw [beq_iff_eq]; omega
              have HK := hid hk0
              clear hk0 o4 o7
              go_wp2_with fail
              refine (hmem false qx hbm).mono ?_
              rintro e w2 ⟨_, rfl, hb3, rfl⟩
              have hr2 := HSM.out false
              have hs2 := HWM.out false
              obtain ⟨r2, HR⟩ : ∃ r2, Hid (t.parts[k].strong false = r2) := ⟨_, hid rfl⟩
              obtain ⟨s2, HS⟩ : ∃ s2, Hid (t.parts[k].weak false = s2) := ⟨_, hid rfl⟩
              rw [HR.out, HS.out]
              rw [HR.out] at hr2
              rw [HS.out] at hs2
              have HU : Hid (r + r2 = strongQ t.op true + Fm.strongs t.op true 0 (t.parts.take (k + 1))) := by
                have h1 := HX.out; have h2 := hst.out; rw [HP.out, HR.out] at h2; show _ = _; omega
              have HV : Hid (s + s2 = weakQ t.op true + Fm.weaks t.op true 0 (t.parts.take (k + 1))) := by
                have h1 := HY.out; have h2 := hwt.out; rw [HP.out, HS.out] at h2; show _ = _; omega
              have hr3 : r + r2 ≤ 1048577 := by have := HU.out; have := hsl.out; have := hsd.out; have := hss.out; omega
              have hs3 : s + s2 ≤ 1048577 := by have := HV.out; have := hwl.out; have := hwd.out; have := hws.out; omega
              go_wp2_with fail
              go_roundw
              case rel => exact ⟨k + 1, r + r2, s + s2, by omega, by go_num, by go_num, by go_num, hr3, hs3, HU, HV, hb.trans (hb3.mono hb.size)⟩
              case measure => simp [intOf]; omega
            · have HP : Hid (polar t.op true (0 + k) = true) := polar_n o4 (by rintro ⟨_, q⟩; omega)
              have sk : ((k : Int) == 0) = false := by rw [beq_eq_false_iff_ne]; omega
              clear hk0 o4 o7
              go_wp2_with fail
              refine (hmem true qx hbm).mono ?_
              rintro e w2 ⟨_, rfl, hb3, rfl⟩
              have hr2 := HSM.out true
              have hs2 := HWM.out true
              obtain ⟨r2, HR⟩ : ∃ r2, Hid (t.parts[k].strong true = r2) := ⟨_, hid rfl⟩
              obtain ⟨s2, HS⟩ : ∃ s2, Hid (t.parts[k].weak true = s2) := ⟨_, hid rfl⟩
              rw [HR.out, HS.out]
              rw [HR.out] at hr2
              rw [HS.out] at hs2
              have HU : Hid (r + r2 = strongQ t.op true + Fm.strongs t.op true 0 (t.parts.take (k + 1))) := by
                have h1 := HX.out; have h2 := hst.out; rw [HP.out, HR.out] at h2; show _ = _; omega
              have HV : Hid (s + s2 = weakQ t.op true + Fm.weaks t.op true 0 (t.parts.take (k + 1))) := by
                have h1 := HY.out; have h2 := hwt.out; rw [HP.out, HS.out] at h2; show _ = _; omega
              have hr3 : r + r2 ≤ 1048577 := by have := HU.out; have := hsl.out; have := hsd.out; have := hss.out; omega
              have hs3 : s + s2 ≤ 1048577 := by have := HV.out; have := hwl.out; have := hwd.out; have := hws.out; omega
              go_wp2_with fail
              go_roundw
              case rel => exact ⟨k + 1, r + r2, s + s2, by omega, by go_num, by go_num, by go_num, hr3, hs3, HU, HV, hb.trans (hb3.mono hb.size)⟩
              case measure => simp [intOf]; omega
          · have HP : Hid (polar t.op true (0 + k) = true) := polar_n o4 (by rintro ⟨q, _⟩; exact o7 q)
            have s7 : (t.op == 7) = false := by simp [o7]
            clear o4 o7
            go_wp2_with fail
            refine (hmem true qx hbm).mono ?_
            rintro e w2 ⟨_, rfl, hb3, rfl⟩
            have hr2 := HSM.out true
            have hs2 := HWM.out true
            obtain ⟨r2, HR⟩ : ∃ r2, Hid (t.parts[k].strong true = r2) := ⟨_, hid rfl⟩
            obtain ⟨s2, HS⟩ : ∃ s2, Hid (t.parts[k].weak true = s2) := ⟨_, hid rfl⟩
            rw [HR.out, HS.out]
            rw [HR.out] at hr2
            rw [HS.out] at hs2
            have HU : Hid (r + r2 = strongQ t.op true + Fm.strongs t.op true 0 (t.parts.take (k + 1))) := by
              have h1 := HX.out; have h2 := hst.out; rw [HP.out, HR.out] at h2; show _ = _; omega
            have HV : Hid (s + s2 = weakQ t.op true + Fm.weaks t.op true 0 (t.parts.take (k + 1))) := by
              have h1 := HY.out; have h2 := hwt.out; rw [HP.out, HS.out] at h2; show _ = _; omega
            have hr3 : r + r2 ≤ 1048577 := by have := HU.out; have := hsl.out; have := hsd.out; have := hss.out; omega
            have hs3 : s + s2 ≤ 1048577 := by have := HV.out; have := hwl.out; have := hwd.out; have := hws.out; omega
            go_wp2_with fail
            go_roundw
            case rel => exact ⟨k + 1, r + r2, s + s2, by omega, by go_num, by go_num, by go_num, hr3, hs3, HU, HV, hb.trans (hb3.mono hb.size)⟩
            case measure => simp [intOf]; omega
      · obtain rfl : k = t.parts.length := by omega
        have HU : Hid (r = t.strong true) := by rw [Hid, hsd.out]; have := HX.out; rwa [List.take_length] at this
        have HV : Hid (s = t.weak true) := by rw [Hid, hwd.out]; have := HY.out; rwa [List.take_length] at this
        go_wp2_with fail
        go_ret2
        exact Gives.mk (by rw [← HU.out, ← HV.out]; rfl) hWr
  · obtain ⟨rfl, rfl, ⟨a, cap, rfl⟩, rfl, a2, cap2, rfl⟩ := Fm.at_form hT
    have hW : Below w.heap.size w (w.alloc (.cells #[.int .i64 t.op, .string t.atom.name, .slice a t.atom.args.length cap, .string t.v, .slice a2 t.parts.length cap2] 61)) := (Below.refl _ _).alloc (Nat.le_refl _) _
    have bT : Box (w.alloc (.cells #[.int .i64 t.op, .string t.atom.name, .slice a t.atom.args.length cap, .string t.v, .slice a2 t.parts.length cap2] 61)) w.heap.size [.int .i64 t.op, .string t.atom.name, .slice a t.atom.args.length cap, .string t.v, .slice a2 t.parts.length cap2] := Box.new w _ _
    replace hT := Fm.at_keep (Keeps.all hW) hT
    go_enter Try.func94, Try.ntmps94
    go_wp2_with fail
    generalize (w.alloc (.cells #[.int .i64 t.op, .string t.atom.name, .slice a t.atom.args.length cap, .string t.v, .slice a2 t.parts.length cap2] 61)) = w0 at *
    go_loopw [6, 7, 8] (fun x y i wr => ∃ (k r s : Nat), k ≤ t.parts.length ∧ i = .int .i64 k ∧ x = .int .i64 r ∧ y = .int .i64 s ∧ r ≤ 1048577 ∧ s ≤ 1048577 ∧ Hid (r = strongQ t.op false + Fm.strongs t.op false 0 (t.parts.take k)) ∧ Hid (s = weakQ t.op false + Fm.weaks t.op false 0 (t.parts.take k)) ∧ Below w0.heap.size w0 wr) (fun _ _ i _ => t.parts.length - (intOf i).toNat)
    case atStart =>
      first
      | exact ⟨0, 0, 0, Nat.zero_le _, rfl, rfl, rfl, by omega, by omega, by rw [Hid, HA.out]; simp [Fm.strongs], by rw [Hid, HB.out]; simp [Fm.weaks], Below.refl _ _⟩
      | exact ⟨0, 1, 0, Nat.zero_le _, rfl, rfl, rfl, by omega, by omega, by rw [Hid, HA.out]; simp [Fm.strongs], by rw [Hid, HB.out]; simp [Fm.weaks], Below.refl _ _⟩
      | exact ⟨0, 0, 1, Nat.zero_le _, rfl, rfl, rfl, by omega, by omega, by rw [Hid, HA.out]; simp [Fm.strongs], by rw [Hid, HB.out]; simp [Fm.weaks], Below.refl _ _⟩
    case round =>
      obtain ⟨k, r, s, hk, rfl, rfl, rfl, hr1, hs1, HX, HY, hb⟩ := hrel
      have hWr := hW.trans (hb.mono hW.size)
      have bR := bT.keep hb
      have eT0 := bR.c0
      have eT1 := bR.c1
      have eT2 := bR.c2
      have eT3 := bR.c3
      have eT4 := bR.c4
      have lT := bR.lt
      by_cases hlt : k < t.parts.length
      · have hne : t.parts ≠ [] := by intro e; rw [e] at hlt; simp at hlt
        obtain ⟨b, off, rfl, hS, hbl, hrr⟩ := Fm.sd_get (Fm.at_parts hT) hne
        obtain ⟨c0, c1, c2, c3, c4, q0, q1, q2, q3, q4, qx⟩ := hrr k hlt
        obtain ⟨rfl, rfl, ⟨p, pc, rfl⟩, rfl, y, yc, rfl⟩ := Fm.at_form qx
        replace q0 := (hb.cell (p := ⟨b, off + k * 5, none⟩) hbl).trans q0
        replace q1 := (hb.cell (p := ⟨b, off + k * 5 + 1, none⟩) hbl).trans q1
        replace q2 := (hb.cell (p := ⟨b, off + k * 5 + 2, none⟩) hbl).trans q2
        replace q3 := (hb.cell (p := ⟨b, off + k * 5 + 3, none⟩) hbl).trans q3
        replace q4 := (hb.cell (p := ⟨b, off + k * 5 + 4, none⟩) hbl).trans q4
        replace qx := Fm.at_keep (Keeps.all hb) qx
        have hmem := h t.parts[k] (List.getElem_mem hlt)
        have hbm : t.parts[k].bulk ≤ 1048576 := by have := Fm.bulk_mem (List.getElem_mem hlt); have := Fm.bulk_eq t; omega
        clear hrr
        have hq0 := cell_alloc q0
        have hst := hid (Fm.strongs_take t.op false t.parts 0 k hlt)
        have hwt := hid (Fm.weaks_take t.op false t.parts 0 k hlt)
        have hsl := hid (Fm.strongs_le t.op false t.parts 0 (k + 1))
        have hwl := hid (Fm.weaks_le t.op false t.parts 0 (k + 1))
        have hsz := Fm.size_bulk t.parts[k]
        have HSM : Hid (∀ q, t.parts[k].strong q ≤ 1048577) := fun q => Nat.le_trans (Fm.strong_size t.parts[k] q) (by omega)
        have HWM : Hid (∀ q, t.parts[k].weak q ≤ 1048577) := fun q => Nat.le_trans (Fm.weak_size t.parts[k] q) (by omega)
        clear hsz
        by_cases o4 : t.op = 4
        · have HP : Hid (polar t.op false (0 + k) = true) := polar_4 o4
          have s4 : (t.op == 4) = true := by simp [o4]
          clear o4
          go_wp2_with fail
          refine (hmem true qx hbm).mono ?_
          rintro e w2 ⟨_, rfl, hb3, rfl⟩
          have hr2 := HSM.out true
          have hs2 := HWM.out true
          obtain ⟨r2, HR⟩ : ∃ r2, Hid (t.parts[k].strong true = r2) := ⟨_, hid rfl⟩
          obtain ⟨s2, HS⟩ : ∃ s2, Hid (t.parts[k].weak true = s2) := ⟨_, hid rfl⟩
          rw [HR.out, HS.out]
          rw [HR.out] at hr2
          rw [HS.out] at hs2
          have HU : Hid (r + r2 = strongQ t.op false + Fm.strongs t.op false 0 (t.parts.take (k + 1))) := by
            have h1 := HX.out; have h2 := hst.out; rw [HP.out, HR.out] at h2; show _ = _; omega
          have HV : Hid (s + s2 = weakQ t.op false + Fm.weaks t.op false 0 (t.parts.take (k + 1))) := by
            have h1 := HY.out; have h2 := hwt.out; rw [HP.out, HS.out] at h2; show _ = _; omega
          have hr3 : r + r2 ≤ 1048577 := by have := HU.out; have := hsl.out; have := hsd.out; have := hss.out; omega
          have hs3 : s + s2 ≤ 1048577 := by have := HV.out; have := hwl.out; have := hwd.out; have := hws.out; omega
          go_wp2_with fail
          go_roundw
          case rel => exact ⟨k + 1, r + r2, s + s2, by omega, by go_num, by go_num, by go_num, hr3, hs3, HU, HV, hb.trans (hb3.mono hb.size)⟩
          case measure => simp [intOf]; omega
        · have s4 : (t.op == 4) = false := by simp [o4]
          by_cases o7 : t.op = 7
          · have s7 : (t.op == 7) = true := by simp [o7]
            by_cases hk0 : k = 0
            · have HP : Hid (polar t.op false (0 + k) = true) := polar_7 o7 (by omega)
              have sk : ((k : Int) == 0) = true := by rw [beq_iff_eq]; omega
              have HK := hid hk0
              clear hk0 o4 o7
              go_wp2_with fail
              refine (hmem true qx hbm).mono ?_
              rintro e w2 ⟨_, rfl, hb3, rfl⟩
              have hr2 := HSM.out true
              have hs2 := HWM.out true
              obtain ⟨r2, HR⟩ : ∃ r2, Hid (t.parts[k].strong true = r2) := ⟨_, hid rfl⟩
              obtain ⟨s2, HS⟩ : ∃ s2, Hid (t.parts[k].weak true = s2) := ⟨_, hid rfl⟩
              rw [HR.out, HS.out]
              rw [HR.out] at hr2
              rw [HS.out] at hs2
              have HU : Hid (r + r2 = strongQ t.op false + Fm.strongs t.op false 0 (t.parts.take (k + 1))) := by
                have h1 := HX.out; have h2 := hst.out; rw [HP.out, HR.out] at h2; show _ = _; omega
              have HV : Hid (s + s2 = weakQ t.op false + Fm.weaks t.op false 0 (t.parts.take (k + 1))) := by
                have h1 := HY.out; have h2 := hwt.out; rw [HP.out, HS.out] at h2; show _ = _; omega
              have hr3 : r + r2 ≤ 1048577 := by have := HU.out; have := hsl.out; have := hsd.out; have := hss.out; omega
              have hs3 : s + s2 ≤ 1048577 := by have := HV.out; have := hwl.out; have := hwd.out; have := hws.out; omega
              go_wp2_with fail
              go_roundw
              case rel => exact ⟨k + 1, r + r2, s + s2, by omega, by go_num, by go_num, by go_num, hr3, hs3, HU, HV, hb.trans (hb3.mono hb.size)⟩
              case measure => simp [intOf]; omega
            · have HP : Hid (polar t.op false (0 + k) = false) := polar_n o4 (by rintro ⟨_, q⟩; omega)
              have sk : ((k : Int) == 0) = false := by rw [beq_eq_false_iff_ne]; omega
              clear hk0 o4 o7
              go_wp2_with fail
              refine (hmem false qx hbm).mono ?_
              rintro e w2 ⟨_, rfl, hb3, rfl⟩
              have hr2 := HSM.out false
              have hs2 := HWM.out false
              obtain ⟨r2, HR⟩ : ∃ r2, Hid (t.parts[k].strong false = r2) := ⟨_, hid rfl⟩
              obtain ⟨s2, HS⟩ : ∃ s2, Hid (t.parts[k].weak false = s2) := ⟨_, hid rfl⟩
              rw [HR.out, HS.out]
              rw [HR.out] at hr2
              rw [HS.out] at hs2
              have HU : Hid (r + r2 = strongQ t.op false + Fm.strongs t.op false 0 (t.parts.take (k + 1))) := by
                have h1 := HX.out; have h2 := hst.out; rw [HP.out, HR.out] at h2; show _ = _; omega
              have HV : Hid (s + s2 = weakQ t.op false + Fm.weaks t.op false 0 (t.parts.take (k + 1))) := by
                have h1 := HY.out; have h2 := hwt.out; rw [HP.out, HS.out] at h2; show _ = _; omega
              have hr3 : r + r2 ≤ 1048577 := by have := HU.out; have := hsl.out; have := hsd.out; have := hss.out; omega
              have hs3 : s + s2 ≤ 1048577 := by have := HV.out; have := hwl.out; have := hwd.out; have := hws.out; omega
              go_wp2_with fail
              go_roundw
              case rel => exact ⟨k + 1, r + r2, s + s2, by omega, by go_num, by go_num, by go_num, hr3, hs3, HU, HV, hb.trans (hb3.mono hb.size)⟩
              case measure => simp [intOf]; omega
          · have HP : Hid (polar t.op false (0 + k) = false) := polar_n o4 (by rintro ⟨q, _⟩; exact o7 q)
            have s7 : (t.op == 7) = false := by simp [o7]
            clear o4 o7
            go_wp2_with fail
            refine (hmem false qx hbm).mono ?_
            rintro e w2 ⟨_, rfl, hb3, rfl⟩
            have hr2 := HSM.out false
            have hs2 := HWM.out false
            obtain ⟨r2, HR⟩ : ∃ r2, Hid (t.parts[k].strong false = r2) := ⟨_, hid rfl⟩
            obtain ⟨s2, HS⟩ : ∃ s2, Hid (t.parts[k].weak false = s2) := ⟨_, hid rfl⟩
            rw [HR.out, HS.out]
            rw [HR.out] at hr2
            rw [HS.out] at hs2
            have HU : Hid (r + r2 = strongQ t.op false + Fm.strongs t.op false 0 (t.parts.take (k + 1))) := by
              have h1 := HX.out; have h2 := hst.out; rw [HP.out, HR.out] at h2; show _ = _; omega
            have HV : Hid (s + s2 = weakQ t.op false + Fm.weaks t.op false 0 (t.parts.take (k + 1))) := by
              have h1 := HY.out; have h2 := hwt.out; rw [HP.out, HS.out] at h2; show _ = _; omega
            have hr3 : r + r2 ≤ 1048577 := by have := HU.out; have := hsl.out; have := hsd.out; have := hss.out; omega
            have hs3 : s + s2 ≤ 1048577 := by have := HV.out; have := hwl.out; have := hwd.out; have := hws.out; omega
            go_wp2_with fail
            go_roundw
            case rel => exact ⟨k + 1, r + r2, s + s2, by omega, by go_num, by go_num, by go_num, hr3, hs3, HU, HV, hb.trans (hb3.mono hb.size)⟩
            case measure => simp [intOf]; omega
      · obtain rfl : k = t.parts.length := by omega
        have HU : Hid (r = t.strong false) := by rw [Hid, hsd.out]; have := HX.out; rwa [List.take_length] at this
        have HV : Hid (s = t.weak false) := by rw [Hid, hwd.out]; have := HY.out; rwa [List.take_length] at this
        go_wp2_with fail
        go_ret2
        exact Gives.mk (by rw [← HU.out, ← HV.out]; rfl) hWr
theorem l8Count_any (t : Fm) : CountIs 94 t := Fm.ind (P := CountIs 94) (fun o a v ps h => l8Count_of (.node o a v ps) h) t

set_option maxHeartbeats 8000000 in
theorem countQuantifiers_of (t : Fm) (h : ∀ p ∈ t.parts, CountIs 95 p) : CountIs 95 t := by
  intro p S c0 c1 c2 c3 c4 w hT hbk
  have hlen : t.parts.length ≤ 1048576 := by have := Fm.bulk_eq t; omega
  have hbs := Fm.size_bulk t
  have hss := hid (Fm.strong_size t p)
  have hws := hid (Fm.weak_size t p)
  have hsd := hid (Fm.strong_eq t p)
  have hwd := hid (Fm.weak_eq t p)
  have hqt : Hid (quantOp t.op = ((t.op == 8) || (t.op == 9))) := rfl
  obtain ⟨a, b, HA, HB, hcs⟩ := counts_cases t.op p
  rcases hcs with ⟨rfl, s8, s9, rfl, rfl⟩ | ⟨rfl, s8, s9, rfl, rfl⟩ | ⟨rfl, s8, s9, rfl, rfl⟩ | ⟨rfl, s8, s9, rfl, rfl⟩ | ⟨s8, s9, rfl, rfl⟩
  rotate_right
  · cases p
    · have HQ : Hid (quantOp t.op = false) := by rw [hqt.out, s8, s9]; rfl
      obtain ⟨rfl, rfl, ⟨a, cap, rfl⟩, rfl, a2, cap2, rfl⟩ := Fm.at_form hT
      have hW : Below w.heap.size w (w.alloc (.cells #[.int .i64 t.op, .string t.atom.name, .slice a t.atom.args.length cap, .string t.v, .slice a2 t.parts.length cap2] 61)) := (Below.refl _ _).alloc (Nat.le_refl _) _
      have bT : Box (w.alloc (.cells #[.int .i64 t.op, .string t.atom.name, .slice a t.atom.args.length cap, .string t.v, .slice a2 t.parts.length cap2] 61)) w.heap.size [.int .i64 t.op, .string t.atom.name, .slice a t.atom.args.length cap, .string t.v, .slice a2 t.parts.length cap2] := Box.new w _ _
      replace hT := Fm.at_keep (Keeps.all hW) hT
      go_enter Try.func95, Try.ntmps95
      go_wp2_with fail
      generalize (w.alloc (.cells #[.int .i64 t.op, .string t.atom.name, .slice a t.atom.args.length cap, .string t.v, .slice a2 t.parts.length cap2] 61)) = w0 at *
      have eT0 := bT.c0
      have eT1 := bT.c1
      have eT2 := bT.c2
      have eT3 := bT.c3
      have eT4 := bT.c4
      have lT := bT.lt
      refine (isQuantifier_any _ _).mono ?_
      rintro e w4 ⟨rfl, rfl⟩
      rw [HQ.out]
      go_wp2_with fail
      clear eT0 eT1 eT2 eT3 eT4 lT
      go_loopw [6, 7, 28] (fun x y i wr => ∃ (k r s : Nat), k ≤ t.parts.length ∧ i = .int .i64 k ∧ x = .int .i64 r ∧ y = .int .i64 s ∧ r ≤ 1048577 ∧ s ≤ 1048577 ∧ Hid (r = strongQ t.op false + Fm.strongs t.op false 0 (t.parts.take k)) ∧ Hid (s = weakQ t.op false + Fm.weaks t.op false 0 (t.parts.take k)) ∧ Below w0.heap.size w0 wr) (fun _ _ i _ => t.parts.length - (intOf i).toNat)
      case atStart =>
        first
        | exact ⟨0, 0, 0, Nat.zero_le _, rfl, rfl, rfl, by omega, by omega, by rw [Hid, HA.out]; simp [Fm.strongs], by rw [Hid, HB.out]; simp [Fm.weaks], Below.refl _ _⟩
        | exact ⟨0, 1, 0, Nat.zero_le _, rfl, rfl, rfl, by omega, by omega, by rw [Hid, HA.out]; simp [Fm.strongs], by rw [Hid, HB.out]; simp [Fm.weaks], Below.refl _ _⟩
        | exact ⟨0, 0, 1, Nat.zero_le _, rfl, rfl, rfl, by omega, by omega, by rw [Hid, HA.out]; simp [Fm.strongs], by rw [Hid, HB.out]; simp [Fm.weaks], Below.refl _ _⟩
      case round =>
        obtain ⟨k, r, s, hk, rfl, rfl, rfl, hr1, hs1, HX, HY, hb⟩ := hrel
        have hWr := hW.trans (hb.mono hW.size)
        have bR := bT.keep hb
        have eT0 := bR.c0
        have eT1 := bR.c1
        have eT2 := bR.c2
        have eT3 := bR.c3
        have eT4 := bR.c4
        have lT := bR.lt
        by_cases hlt : k < t.parts.length
        · have hne : t.parts ≠ [] := by intro e; rw [e] at hlt; simp at hlt
          obtain ⟨b, off, rfl, hS, hbl, hrr⟩ := Fm.sd_get (Fm.at_parts hT) hne
          obtain ⟨c0, c1, c2, c3, c4, q0, q1, q2, q3, q4, qx⟩ := hrr k hlt
          obtain ⟨rfl, rfl, ⟨p, pc, rfl⟩, rfl, y, yc, rfl⟩ := Fm.at_form qx
          replace q0 := (hb.cell (p := ⟨b, off + k * 5, none⟩) hbl).trans q0
          replace q1 := (hb.cell (p := ⟨b, off + k * 5 + 1, none⟩) hbl).trans q1
          replace q2 := (hb.cell (p := ⟨b, off + k * 5 + 2, none⟩) hbl).trans q2
          replace q3 := (hb.cell (p := ⟨b, off + k * 5 + 3, none⟩) hbl).trans q3
          replace q4 := (hb.cell (p := ⟨b, off + k * 5 + 4, none⟩) hbl).trans q4
          replace qx := Fm.at_keep (Keeps.all hb) qx
          have hmem := h t.parts[k] (List.getElem_mem hlt)
          have hbm : t.parts[k].bulk ≤ 1048576 := by have := Fm.bulk_mem (List.getElem_mem hlt); have := Fm.bulk_eq t; omega
          clear hrr
          have hq0 := cell_alloc q0
          have hst := hid (Fm.strongs_take t.op false t.parts 0 k hlt)
          have hwt := hid (Fm.weaks_take t.op false t.parts 0 k hlt)
          have hsl := hid (Fm.strongs_le t.op false t.parts 0 (k + 1))
          have hwl := hid (Fm.weaks_le t.op false t.parts 0 (k + 1))
          have hsz := Fm.size_bulk t.parts[k]
          have HSM : Hid (∀ q, t.parts[k].strong q ≤ 1048577) := fun q => Nat.le_trans (Fm.strong_size t.parts[k] q) (by omega)
          have HWM : Hid (∀ q, t.parts[k].weak q ≤ 1048577) := fun q => Nat.le_trans (Fm.weak_size t.parts[k] q) (by omega)
          clear hsz
          by_cases o4 : t.op = 4
          · have HP : Hid (polar t.op false (0 + k) = true) := polar_4 o4
            have s4 : (t.op == 4) = true := by simp [o4]
            clear o4
            go_wp2_with fail
            have hbx : Below wr.heap.size wr (wr.alloc (.cells #[.int .i64 t.parts[k].op, .string t.parts[k].atom.name, .slice p t.parts[k].atom.args.length pc, .string t.parts[k].v, .slice y t.parts[k].parts.length yc] 61)) := (Below.refl _ _).alloc (Nat.le_refl _) _
            refine (hmem true (Fm.at_keep (Keeps.all hbx) qx) hbm).mono ?_
            rintro e w2 ⟨_, rfl, hb2, rfl⟩
            have hb3 := hbx.trans (hb2.mono hbx.size)
            clear hbx hb2
            have hr2 := HSM.out true
            have hs2 := HWM.out true
            obtain ⟨r2, HR⟩ : ∃ r2, Hid (t.parts[k].strong true = r2) := ⟨_, hid rfl⟩
            obtain ⟨s2, HS⟩ : ∃ s2, Hid (t.parts[k].weak true = s2) := ⟨_, hid rfl⟩
            rw [HR.out, HS.out]
            rw [HR.out] at hr2
            rw [HS.out] at hs2
            have HU : Hid (r + r2 = strongQ t.op false + Fm.strongs t.op false 0 (t.parts.take (k + 1))) := by
              have h1 := HX.out; have h2 := hst.out; rw [HP.out, HR.out] at h2; show _ = _; omega
            have HV : Hid (s + s2 = weakQ t.op false + Fm.weaks t.op false 0 (t.parts.take (k + 1))) := by
              have h1 := HY.out; have h2 := hwt.out; rw [HP.out, HS.out] at h2; show _ = _; omega
            have hr3 : r + r2 ≤ 1048577 := by have := HU.out; have := hsl.out; have := hsd.out; have := hss.out; omega
            have hs3 : s + s2 ≤ 1048577 := by have := HV.out; have := hwl.out; have := hwd.out; have := hws.out; omega
            go_wp2_with fail
            go_roundw
            case rel => exact ⟨k + 1, r + r2, s + s2, by omega, by go_num, by go_num, by go_num, hr3, hs3, HU, HV, hb.trans (hb3.mono hb.size)⟩
            case measure => simp [intOf]; omega
          · have s4 : (t.op == 4) = false := by simp [o4]
            by_cases o7 : t.op = 7
            · have s7 : (t.op == 7) = true := by simp [o7]
              by_cases hk0 : k = 0
              · have HP : Hid (polar t.op false (0 + k) = true) := polar_7 o7 (by omega)
                have sk : ((k : Int) == 0) = true := by rw [beq_iff_eq]; omega
                have HK := hid hk0
                clear hk0 o4 o7
                go_wp2_with fail
                have hbx : Below wr.heap.size wr (wr.alloc (.cells #[.int .i64 t.parts[k].op, .string t.parts[k].atom.name, .slice p t.parts[k].atom.args.length pc, .string t.parts[k].v, .slice y t.parts[k].parts.length yc] 61)) := (Below.refl _ _).alloc (Nat.le_refl _) _
                refine (hmem true (Fm.at_keep (Keeps.all hbx) qx) hbm).mono ?_
                rintro e w2 ⟨_, rfl, hb2, rfl⟩
                have hb3 := hbx.trans (hb2.mono hbx.size)
                clear hbx hb2
                have hr2 := HSM.out true
                have hs2 := HWM.out true
                obtain ⟨r2, HR⟩ : ∃ r2, Hid (t.parts[k].strong true = r2) := ⟨_, hid rfl⟩
                obtain ⟨s2, HS⟩ : ∃ s2, Hid (t.parts[k].weak true = s2) := ⟨_, hid rfl⟩
                rw [HR.out, HS.out]
                rw [HR.out] at hr2
                rw [HS.out] at hs2
                have HU : Hid (r + r2 = strongQ t.op false + Fm.strongs t.op false 0 (t.parts.take (k + 1))) := by
                  have h1 := HX.out; have h2 := hst.out; rw [HP.out, HR.out] at h2; show _ = _; omega
                have HV : Hid (s + s2 = weakQ t.op false + Fm.weaks t.op false 0 (t.parts.take (k + 1))) := by
                  have h1 := HY.out; have h2 := hwt.out; rw [HP.out, HS.out] at h2; show _ = _; omega
                have hr3 : r + r2 ≤ 1048577 := by have := HU.out; have := hsl.out; have := hsd.out; have := hss.out; omega
                have hs3 : s + s2 ≤ 1048577 := by have := HV.out; have := hwl.out; have := hwd.out; have := hws.out; omega
                go_wp2_with fail
                go_roundw
                case rel => exact ⟨k + 1, r + r2, s + s2, by omega, by go_num, by go_num, by go_num, hr3, hs3, HU, HV, hb.trans (hb3.mono hb.size)⟩
                case measure => simp [intOf]; omega
              · have HP : Hid (polar t.op false (0 + k) = false) := polar_n o4 (by rintro ⟨_, q⟩; omega)
                have sk : ((k : Int) == 0) = false := by rw [beq_eq_false_iff_ne]; omega
                clear hk0 o4 o7
                go_wp2_with fail
                have hbx : Below wr.heap.size wr (wr.alloc (.cells #[.int .i64 t.parts[k].op, .string t.parts[k].atom.name, .slice p t.parts[k].atom.args.length pc, .string t.parts[k].v, .slice y t.parts[k].parts.length yc] 61)) := (Below.refl _ _).alloc (Nat.le_refl _) _
                refine (hmem false (Fm.at_keep (Keeps.all hbx) qx) hbm).mono ?_
                rintro e w2 ⟨_, rfl, hb2, rfl⟩
                have hb3 := hbx.trans (hb2.mono hbx.size)
                clear hbx hb2
                have hr2 := HSM.out false
                have hs2 := HWM.out false
                obtain ⟨r2, HR⟩ : ∃ r2, Hid (t.parts[k].strong false = r2) := ⟨_, hid rfl⟩
                obtain ⟨s2, HS⟩ : ∃ s2, Hid (t.parts[k].weak false = s2) := ⟨_, hid rfl⟩
                rw [HR.out, HS.out]
                rw [HR.out] at hr2
                rw [HS.out] at hs2
                have HU : Hid (r + r2 = strongQ t.op false + Fm.strongs t.op false 0 (t.parts.take (k + 1))) := by
                  have h1 := HX.out; have h2 := hst.out; rw [HP.out, HR.out] at h2; show _ = _; omega
                have HV : Hid (s + s2 = weakQ t.op false + Fm.weaks t.op false 0 (t.parts.take (k + 1))) := by
                  have h1 := HY.out; have h2 := hwt.out; rw [HP.out, HS.out] at h2; show _ = _; omega
                have hr3 : r + r2 ≤ 1048577 := by have := HU.out; have := hsl.out; have := hsd.out; have := hss.out; omega
                have hs3 : s + s2 ≤ 1048577 := by have := HV.out; have := hwl.out; have := hwd.out; have := hws.out; omega
                go_wp2_with fail
                go_roundw
                case rel => exact ⟨k + 1, r + r2, s + s2, by omega, by go_num, by go_num, by go_num, hr3, hs3, HU, HV, hb.trans (hb3.mono hb.size)⟩
                case measure => simp [intOf]; omega
            · have HP : Hid (polar t.op false (0 + k) = false) := polar_n o4 (by rintro ⟨q, _⟩; exact o7 q)
              have s7 : (t.op == 7) = false := by simp [o7]
              clear o4 o7
              go_wp2_with fail
              have hbx : Below wr.heap.size wr (wr.alloc (.cells #[.int .i64 t.parts[k].op, .string t.parts[k].atom.name, .slice p t.parts[k].atom.args.length pc, .string t.parts[k].v, .slice y t.parts[k].parts.length yc] 61)) := (Below.refl _ _).alloc (Nat.le_refl _) _
              refine (hmem false (Fm.at_keep (Keeps.all hbx) qx) hbm).mono ?_
              rintro e w2 ⟨_, rfl, hb2, rfl⟩
              have hb3 := hbx.trans (hb2.mono hbx.size)
              clear hbx hb2
              have hr2 := HSM.out false
              have hs2 := HWM.out false
              obtain ⟨r2, HR⟩ : ∃ r2, Hid (t.parts[k].strong false = r2) := ⟨_, hid rfl⟩
              obtain ⟨s2, HS⟩ : ∃ s2, Hid (t.parts[k].weak false = s2) := ⟨_, hid rfl⟩
              rw [HR.out, HS.out]
              rw [HR.out] at hr2
              rw [HS.out] at hs2
              have HU : Hid (r + r2 = strongQ t.op false + Fm.strongs t.op false 0 (t.parts.take (k + 1))) := by
                have h1 := HX.out; have h2 := hst.out; rw [HP.out, HR.out] at h2; show _ = _; omega
              have HV : Hid (s + s2 = weakQ t.op false + Fm.weaks t.op false 0 (t.parts.take (k + 1))) := by
                have h1 := HY.out; have h2 := hwt.out; rw [HP.out, HS.out] at h2; show _ = _; omega
              have hr3 : r + r2 ≤ 1048577 := by have := HU.out; have := hsl.out; have := hsd.out; have := hss.out; omega
              have hs3 : s + s2 ≤ 1048577 := by have := HV.out; have := hwl.out; have := hwd.out; have := hws.out; omega
              go_wp2_with fail
              go_roundw
              case rel => exact ⟨k + 1, r + r2, s + s2, by omega, by go_num, by go_num, by go_num, hr3, hs3, HU, HV, hb.trans (hb3.mono hb.size)⟩
              case measure => simp [intOf]; omega
        · obtain rfl : k = t.parts.length := by omega
          have HU : Hid (r = t.strong false) := by rw [Hid, hsd.out]; have := HX.out; rwa [List.take_length] at this
          have HV : Hid (s = t.weak false) := by rw [Hid, hwd.out]; have := HY.out; rwa [List.take_length] at this
          go_wp2_with fail
          go_ret2
          exact Gives.mk (by rw [← HU.out, ← HV.out]; rfl) hWr
    · have HQ : Hid (quantOp t.op = false) := by rw [hqt.out, s8, s9]; rfl
      obtain ⟨rfl, rfl, ⟨a, cap, rfl⟩, rfl, a2, cap2, rfl⟩ := Fm.at_form hT
      have hW : Below w.heap.size w (w.alloc (.cells #[.int .i64 t.op, .string t.atom.name, .slice a t.atom.args.length cap, .string t.v, .slice a2 t.parts.length cap2] 61)) := (Below.refl _ _).alloc (Nat.le_refl _) _
      have bT : Box (w.alloc (.cells #[.int .i64 t.op, .string t.atom.name, .slice a t.atom.args.length cap, .string t.v, .slice a2 t.parts.length cap2] 61)) w.heap.size [.int .i64 t.op, .string t.atom.name, .slice a t.atom.args.length cap, .string t.v, .slice a2 t.parts.length cap2] := Box.new w _ _
      replace hT := Fm.at_keep (Keeps.all hW) hT
      go_enter Try.func95, Try.ntmps95
      go_wp2_with fail
      generalize (w.alloc (.cells #[.int .i64 t.op, .string t.atom.name, .slice a t.atom.args.length cap, .string t.v, .slice a2 t.parts.length cap2] 61)) = w0 at *
      have eT0 := bT.c0
      have eT1 := bT.c1
      have eT2 := bT.c2
      have eT3 := bT.c3
      have eT4 := bT.c4
      have lT := bT.lt
      refine (isQuantifier_any _ _).mono ?_
      rintro e w4 ⟨rfl, rfl⟩
      rw [HQ.out]
      go_wp2_with fail
      clear eT0 eT1 eT2 eT3 eT4 lT
      go_loopw [6, 7, 28] (fun x y i wr => ∃ (k r s : Nat), k ≤ t.parts.length ∧ i = .int .i64 k ∧ x = .int .i64 r ∧ y = .int .i64 s ∧ r ≤ 1048577 ∧ s ≤ 1048577 ∧ Hid (r = strongQ t.op true + Fm.strongs t.op true 0 (t.parts.take k)) ∧ Hid (s = weakQ t.op true + Fm.weaks t.op true 0 (t.parts.take k)) ∧ Below w0.heap.size w0 wr) (fun _ _ i _ => t.parts.length - (intOf i).toNat)
      case atStart =>
        first
        | exact ⟨0, 0, 0, Nat.zero_le _, rfl, rfl, rfl, by omega, by omega, by rw [Hid, HA.out]; simp [Fm.strongs], by rw [Hid, HB.out]; simp [Fm.weaks], Below.refl _ _⟩
        | exact ⟨0, 1, 0, Nat.zero_le _, rfl, rfl, rfl, by omega, by omega, by rw [Hid, HA.out]; simp [Fm.strongs], by rw [Hid, HB.out]; simp [Fm.weaks], Below.refl _ _⟩
        | exact ⟨0, 0, 1, Nat.zero_le _, rfl, rfl, rfl, by omega, by omega, by rw [Hid, HA.out]; simp [Fm.strongs], by rw [Hid, HB.out]; simp [Fm.weaks], Below.refl _ _⟩
      case round =>
        obtain ⟨k, r, s, hk, rfl, rfl, rfl, hr1, hs1, HX, HY, hb⟩ := hrel
        have hWr := hW.trans (hb.mono hW.size)
        have bR := bT.keep hb
        have eT0 := bR.c0
        have eT1 := bR.c1
        have eT2 := bR.c2
        have eT3 := bR.c3
        have eT4 := bR.c4
        have lT := bR.lt
        by_cases hlt : k < t.parts.length
        · have hne : t.parts ≠ [] := by intro e; rw [e] at hlt; simp at hlt
          obtain ⟨b, off, rfl, hS, hbl, hrr⟩ := Fm.sd_get (Fm.at_parts hT) hne
          obtain ⟨c0, c1, c2, c3, c4, q0, q1, q2, q3, q4, qx⟩ := hrr k hlt
          obtain ⟨rfl, rfl, ⟨p, pc, rfl⟩, rfl, y, yc, rfl⟩ := Fm.at_form qx
          replace q0 := (hb.cell (p := ⟨b, off + k * 5, none⟩) hbl).trans q0
          replace q1 := (hb.cell (p := ⟨b, off + k * 5 + 1, none⟩) hbl).trans q1
          replace q2 := (hb.cell (p := ⟨b, off + k * 5 + 2, none⟩) hbl).trans q2
          replace q3 := (hb.cell (p := ⟨b, off + k * 5 + 3, none⟩) hbl).trans q3
          replace q4 := (hb.cell (p := ⟨b, off + k * 5 + 4, none⟩) hbl).trans q4
          replace qx := Fm.at_keep (Keeps.all hb) qx
          have hmem := h t.parts[k] (List.getElem_mem hlt)
          have hbm : t.parts[k].bulk ≤ 1048576 := by have := Fm.bulk_mem (List.getElem_mem hlt); have := Fm.bulk_eq t; omega
          clear hrr
          have hq0 := cell_alloc q0
          have hst := hid (Fm.strongs_take t.op true t.parts 0 k hlt)
          have hwt := hid (Fm.weaks_take t.op true t.parts 0 k hlt)
          have hsl := hid (Fm.strongs_le t.op true t.parts 0 (k + 1))
          have hwl := hid (Fm.weaks_le t.op true t.parts 0 (k + 1))
          have hsz := Fm.size_bulk t.parts[k]
          have HSM : Hid (∀ q, t.parts[k].strong q ≤ 1048577) := fun q => Nat.le_trans (Fm.strong_size t.parts[k] q) (by omega)
          have HWM : Hid (∀ q, t.parts[k].weak q ≤ 1048577) := fun q => Nat.le_trans (Fm.weak_size t.parts[k] q) (by omega)
          clear hsz
          by_cases o4 : t.op = 4
          · have HP : Hid (polar t.op true (0 + k) = false) := polar_4 o4
            have s4 : (t.op == 4) = true := by simp [o4]
            clear o4
            go_wp2_with fail
            have hbx : Below wr.heap.size wr (wr.alloc (.cells #[.int .i64 t.parts[k].op, .string t.parts[k].atom.name, .slice p t.parts[k].atom.args.length pc, .string t.parts[k].v, .slice y t.parts[k].parts.length yc] 61)) := (Below.refl _ _).alloc (Nat.le_refl _) _
            refine (hmem false (Fm.at_keep (Keeps.all hbx) qx) hbm).mono ?_
            rintro e w2 ⟨_, rfl, hb2, rfl⟩
            have hb3 := hbx.trans (hb2.mono hbx.size)
            clear hbx hb2
            have hr2 := HSM.out false
            have hs2 := HWM.out false
            obtain ⟨r2, HR⟩ : ∃ r2, Hid (t.parts[k].strong false = r2) := ⟨_, hid rfl⟩
            obtain ⟨s2, HS⟩ : ∃ s2, Hid (t.parts[k].weak false = s2) := ⟨_, hid rfl⟩
            rw [HR.out, HS.out]
            rw [HR.out] at hr2
            rw [HS.out] at hs2
            have HU : Hid (r + r2 = strongQ t.op true + Fm.strongs t.op true 0 (t.parts.take (k + 1))) := by
              have h1 := HX.out; have h2 := hst.out; rw [HP.out, HR.out] at h2; show _ = _; omega
            have HV : Hid (s + s2 = weakQ t.op true + Fm.weaks t.op true 0 (t.parts.take (k + 1))) := by
              have h1 := HY.out; have h2 := hwt.out; rw [HP.out, HS.out] at h2; show _ = _; omega
            have hr3 : r + r2 ≤ 1048577 := by have := HU.out; have := hsl.out; have := hsd.out; have := hss.out; omega
            have hs3 : s + s2 ≤ 1048577 := by have := HV.out; have := hwl.out; have := hwd.out; have := hws.out; omega
            go_wp2_with fail
            go_roundw
            case rel => exact ⟨k + 1, r + r2, s + s2, by omega, by go_num, by go_num, by go_num, hr3, hs3, HU, HV, hb.trans (hb3.mono hb.size)⟩
            case measure => simp [intOf]; omega
          · have s4 : (t.op == 4) = false := by simp [o4]
            by_cases o7 : t.op = 7
            · have s7 : (t.op == 7) = true := by simp [o7]
              by_cases hk0 : k = 0
              · have HP : Hid (polar t.op true (0 + k) = false) := polar_7 o7 (by omega)
                have sk : ((k : Int) == 0) = true := by rw [beq_iff_eq]; omega
                have HK := hid hk0
                clear hk0 o4 o7
                go_wp2_with fail
                have hbx : Below wr.heap.size wr (wr.alloc (.cells #[.int .i64 t.parts[k].op, .string t.parts[k].atom.name, .slice p t.parts[k].atom.args.length pc, .string t.parts[k].v, .slice y t.parts[k].parts.length yc] 61)) := (Below.refl _ _).alloc (Nat.le_refl _) _
                refine (hmem false (Fm.at_keep (Keeps.all hbx) qx) hbm).mono ?_
                rintro e w2 ⟨_, rfl, hb2, rfl⟩
                have hb3 := hbx.trans (hb2.mono hbx.size)
                clear hbx hb2
                have hr2 := HSM.out false
                have hs2 := HWM.out false
                obtain ⟨r2, HR⟩ : ∃ r2, Hid (t.parts[k].strong false = r2) := ⟨_, hid rfl⟩
                obtain ⟨s2, HS⟩ : ∃ s2, Hid (t.parts[k].weak false = s2) := ⟨_, hid rfl⟩
                rw [HR.out, HS.out]
                rw [HR.out] at hr2
                rw [HS.out] at hs2
                have HU : Hid (r + r2 = strongQ t.op true + Fm.strongs t.op true 0 (t.parts.take (k + 1))) := by
                  have h1 := HX.out; have h2 := hst.out; rw [HP.out, HR.out] at h2; show _ = _; omega
                have HV : Hid (s + s2 = weakQ t.op true + Fm.weaks t.op true 0 (t.parts.take (k + 1))) := by
                  have h1 := HY.out; have h2 := hwt.out; rw [HP.out, HS.out] at h2; show _ = _; omega
                have hr3 : r + r2 ≤ 1048577 := by have := HU.out; have := hsl.out; have := hsd.out; have := hss.out; omega
                have hs3 : s + s2 ≤ 1048577 := by have := HV.out; have := hwl.out; have := hwd.out; have := hws.out; omega
                go_wp2_with fail
                go_roundw
                case rel => exact ⟨k + 1, r + r2, s + s2, by omega, by go_num, by go_num, by go_num, hr3, hs3, HU, HV, hb.trans (hb3.mono hb.size)⟩
                case measure => simp [intOf]; omega
              · have HP : Hid (polar t.op true (0 + k) = true) := polar_n o4 (by rintro ⟨_, q⟩; omega)
                have sk : ((k : Int) == 0) = false := by rw [beq_eq_false_iff_ne]; omega
                clear hk0 o4 o7
                go_wp2_with fail
                have hbx : Below wr.heap.size wr (wr.alloc (.cells #[.int .i64 t.parts[k].op, .string t.parts[k].atom.name, .slice p t.parts[k].atom.args.length pc, .string t.parts[k].v, .slice y t.parts[k].parts.length yc] 61)) := (Below.refl _ _).alloc (Nat.le_refl _) _
                refine (hmem true (Fm.at_keep (Keeps.all hbx) qx) hbm).mono ?_
                rintro e w2 ⟨_, rfl, hb2, rfl⟩
                have hb3 := hbx.trans (hb2.mono hbx.size)
                clear hbx hb2
                have hr2 := HSM.out true
                have hs2 := HWM.out true
                obtain ⟨r2, HR⟩ : ∃ r2, Hid (t.parts[k].strong true = r2) := ⟨_, hid rfl⟩
                obtain ⟨s2, HS⟩ : ∃ s2, Hid (t.parts[k].weak true = s2) := ⟨_, hid rfl⟩
                rw [HR.out, HS.out]
                rw [HR.out] at hr2
                rw [HS.out] at hs2
                have HU : Hid (r + r2 = strongQ t.op true + Fm.strongs t.op true 0 (t.parts.take (k + 1))) := by
                  have h1 := HX.out; have h2 := hst.out; rw [HP.out, HR.out] at h2; show _ = _; omega
                have HV : Hid (s + s2 = weakQ t.op true + Fm.weaks t.op true 0 (t.parts.take (k + 1))) := by
                  have h1 := HY.out; have h2 := hwt.out; rw [HP.out, HS.out] at h2; show _ = _; omega
                have hr3 : r + r2 ≤ 1048577 := by have := HU.out; have := hsl.out; have := hsd.out; have := hss.out; omega
                have hs3 : s + s2 ≤ 1048577 := by have := HV.out; have := hwl.out; have := hwd.out; have := hws.out; omega
                go_wp2_with fail
                go_roundw
                case rel => exact ⟨k + 1, r + r2, s + s2, by omega, by go_num, by go_num, by go_num, hr3, hs3, HU, HV, hb.trans (hb3.mono hb.size)⟩
                case measure => simp [intOf]; omega
            · have HP : Hid (polar t.op true (0 + k) = true) := polar_n o4 (by rintro ⟨q, _⟩; exact o7 q)
              have s7 : (t.op == 7) = false := by simp [o7]
              clear o4 o7
              go_wp2_with fail
              have hbx : Below wr.heap.size wr (wr.alloc (.cells #[.int .i64 t.parts[k].op, .string t.parts[k].atom.name, .slice p t.parts[k].atom.args.length pc, .string t.parts[k].v, .slice y t.parts[k].parts.length yc] 61)) := (Below.refl _ _).alloc (Nat.le_refl _) _
              refine (hmem true (Fm.at_keep (Keeps.all hbx) qx) hbm).mono ?_
              rintro e w2 ⟨_, rfl, hb2, rfl⟩
              have hb3 := hbx.trans (hb2.mono hbx.size)
              clear hbx hb2
              have hr2 := HSM.out true
              have hs2 := HWM.out true
              obtain ⟨r2, HR⟩ : ∃ r2, Hid (t.parts[k].strong true = r2) := ⟨_, hid rfl⟩
              obtain ⟨s2, HS⟩ : ∃ s2, Hid (t.parts[k].weak true = s2) := ⟨_, hid rfl⟩
              rw [HR.out, HS.out]
              rw [HR.out] at hr2
              rw [HS.out] at hs2
              have HU : Hid (r + r2 = strongQ t.op true + Fm.strongs t.op true 0 (t.parts.take (k + 1))) := by
                have h1 := HX.out; have h2 := hst.out; rw [HP.out, HR.out] at h2; show _ = _; omega
              have HV : Hid (s + s2 = weakQ t.op true + Fm.weaks t.op true 0 (t.parts.take (k + 1))) := by
                have h1 := HY.out; have h2 := hwt.out; rw [HP.out, HS.out] at h2; show _ = _; omega
              have hr3 : r + r2 ≤ 1048577 := by have := HU.out; have := hsl.out; have := hsd.out; have := hss.out; omega
              have hs3 : s + s2 ≤ 1048577 := by have := HV.out; have := hwl.out; have := hwd.out; have := hws.out; omega
              go_wp2_with fail
              go_roundw
              case rel => exact ⟨k + 1, r + r2, s + s2, by omega, by go_num, by go_num, by go_num, hr3, hs3, HU, HV, hb.trans (hb3.mono hb.size)⟩
              case measure => simp [intOf]; omega
        · obtain rfl : k = t.parts.length := by omega
          have HU : Hid (r = t.strong true) := by rw [Hid, hsd.out]; have := HX.out; rwa [List.take_length] at this
          have HV : Hid (s = t.weak true) := by rw [Hid, hwd.out]; have := HY.out; rwa [List.take_length] at this
          go_wp2_with fail
          go_ret2
          exact Gives.mk (by rw [← HU.out, ← HV.out]; rfl) hWr
  · have HQ : Hid (quantOp t.op = true) := by rw [hqt.out, s8]; rfl
    obtain ⟨rfl, rfl, ⟨a, cap, rfl⟩, rfl, a2, cap2, rfl⟩ := Fm.at_form hT
    have hW : Below w.heap.size w (w.alloc (.cells #[.int .i64 t.op, .string t.atom.name, .slice a t.atom.args.length cap, .string t.v, .slice a2 t.parts.length cap2] 61)) := (Below.refl _ _).alloc (Nat.le_refl _) _
    have bT : Box (w.alloc (.cells #[.int .i64 t.op, .string t.atom.name, .slice a t.atom.args.length cap, .string t.v, .slice a2 t.parts.length cap2] 61)) w.heap.size [.int .i64 t.op, .string t.atom.name, .slice a t.atom.args.length cap, .string t.v, .slice a2 t.parts.length cap2] := Box.new w _ _
    replace hT := Fm.at_keep (Keeps.all hW) hT
    go_enter Try.func95, Try.ntmps95
    go_wp2_with fail
    generalize (w.alloc (.cells #[.int .i64 t.op, .string t.atom.name, .slice a t.atom.args.length cap, .string t.v, .slice a2 t.parts.length cap2] 61)) = w0 at *
    have eT0 := bT.c0
    have eT1 := bT.c1
    have eT2 := bT.c2
    have eT3 := bT.c3
    have eT4 := bT.c4
    have lT := bT.lt
    refine (isQuantifier_any _ _).mono ?_
    rintro e w4 ⟨rfl, rfl⟩
    rw [HQ.out]
    go_wp2_with fail
    clear eT0 eT1 eT2 eT3 eT4 lT
    go_loopw [6, 7, 28] (fun x y i wr => ∃ (k r s : Nat), k ≤ t.parts.length ∧ i = .int .i64 k ∧ x = .int .i64 r ∧ y = .int .i64 s ∧ r ≤ 1048577 ∧ s ≤ 1048577 ∧ Hid (r = strongQ t.op true + Fm.strongs t.op true 0 (t.parts.take k)) ∧ Hid (s = weakQ t.op true + Fm.weaks t.op true 0 (t.parts.take k)) ∧ Below w0.heap.size w0 wr) (fun _ _ i _ => t.parts.length - (intOf i).toNat)
    case atStart =>
      first
      | exact ⟨0, 0, 0, Nat.zero_le _, rfl, rfl, rfl, by omega, by omega, by rw [Hid, HA.out]; simp [Fm.strongs], by rw [Hid, HB.out]; simp [Fm.weaks], Below.refl _ _⟩
      | exact ⟨0, 1, 0, Nat.zero_le _, rfl, rfl, rfl, by omega, by omega, by rw [Hid, HA.out]; simp [Fm.strongs], by rw [Hid, HB.out]; simp [Fm.weaks], Below.refl _ _⟩
      | exact ⟨0, 0, 1, Nat.zero_le _, rfl, rfl, rfl, by omega, by omega, by rw [Hid, HA.out]; simp [Fm.strongs], by rw [Hid, HB.out]; simp [Fm.weaks], Below.refl _ _⟩
    case round =>
      obtain ⟨k, r, s, hk, rfl, rfl, rfl, hr1, hs1, HX, HY, hb⟩ := hrel
      have hWr := hW.trans (hb.mono hW.size)
      have bR := bT.keep hb
      have eT0 := bR.c0
      have eT1 := bR.c1
      have eT2 := bR.c2
      have eT3 := bR.c3
      have eT4 := bR.c4
      have lT := bR.lt
      by_cases hlt : k < t.parts.length
      · have hne : t.parts ≠ [] := by intro e; rw [e] at hlt; simp at hlt
        obtain ⟨b, off, rfl, hS, hbl, hrr⟩ := Fm.sd_get (Fm.at_parts hT) hne
        obtain ⟨c0, c1, c2, c3, c4, q0, q1, q2, q3, q4, qx⟩ := hrr k hlt
        obtain ⟨rfl, rfl, ⟨p, pc, rfl⟩, rfl, y, yc, rfl⟩ := Fm.at_form qx
        replace q0 := (hb.cell (p := ⟨b, off + k * 5, none⟩) hbl).trans q0
        replace q1 := (hb.cell (p := ⟨b, off + k * 5 + 1, none⟩) hbl).trans q1
        replace q2 := (hb.cell (p := ⟨b, off + k * 5 + 2, none⟩) hbl).trans q2
        replace q3 := (hb.cell (p := ⟨b, off + k * 5 + 3, none⟩) hbl).trans q3
        replace q4 := (hb.cell (p := ⟨b, off + k * 5 + 4, none⟩) hbl).trans q4
        replace qx := Fm.at_keep (Keeps.all hb) qx
        have hmem := h t.parts[k] (List.getElem_mem hlt)
        have hbm : t.parts[k].bulk ≤ 1048576 := by have := Fm.bulk_mem (List.getElem_mem hlt); have := Fm.bulk_eq t; omega
        clear hrr
        have hq0 := cell_alloc q0
        have hst := hid (Fm.strongs_take t.op true t.parts 0 k hlt)
        have hwt := hid (Fm.weaks_take t.op true t.parts 0 k hlt)
        have hsl := hid (Fm.strongs_le t.op true t.parts 0 (k + 1))
        have hwl := hid (Fm.weaks_le t.op true t.parts 0 (k + 1))
        have hsz := Fm.size_bulk t.parts[k]
        have HSM : Hid (∀ q, t.parts[k].strong q ≤ 1048577) := fun q => Nat.le_trans (Fm.strong_size t.parts[k] q) (by omega)
        have HWM : Hid (∀ q, t.parts[k].weak q ≤ 1048577) := fun q => Nat.le_trans (Fm.weak_size t.parts[k] q) (by omega)
        clear hsz
        by_cases o4 : t.op = 4
        · have HP : Hid (polar t.op true (0 + k) = false) := polar_4 o4
          have s4 : (t.op == 4) = true := by simp [o4]
          clear o4
          go_wp2_with fail
          have hbx : Below wr.heap.size wr (wr.alloc (.cells #[.int .i64 t.parts[k].op, .string t.parts[k].atom.name, .slice p t.parts[k].atom.args.length pc, .string t.parts[k].v, .slice y t.parts[k].parts.length yc] 61)) := (Below.refl _ _).alloc (Nat.le_refl _) _
          refine (hmem false (Fm.at_keep (Keeps.all hbx) qx) hbm).mono ?_
          rintro e w2 ⟨_, rfl, hb2, rfl⟩
          have hb3 := hbx.trans (hb2.mono hbx.size)
          clear hbx hb2
          have hr2 := HSM.out false
          have hs2 := HWM.out false
          obtain ⟨r2, HR⟩ : ∃ r2, Hid (t.parts[k].strong false = r2) := ⟨_, hid rfl⟩
          obtain ⟨s2, HS⟩ : ∃ s2, Hid (t.parts[k].weak false = s2) := ⟨_, hid rfl⟩
          rw [HR.out, HS.out]
          rw [HR.out] at hr2
          rw [HS.out] at hs2
          have HU : Hid (r + r2 = strongQ t.op true + Fm.strongs t.op true 0 (t.parts.take (k + 1))) := by
            have h1 := HX.out; have h2 := hst.out; rw [HP.out, HR.out] at h2; show _ = _; omega
          have HV : Hid (s + s2 = weakQ t.op true + Fm.weaks t.op true 0 (t.parts.take (k + 1))) := by
            have h1 := HY.out; have h2 := hwt.out; rw [HP.out, HS.out] at h2; show _ = _; omega
          have hr3 : r + r2 ≤ 1048577 := by have := HU.out; have := hsl.out; have := hsd.out; have := hss.out; omega
          have hs3 : s + s2 ≤ 1048577 := by have := HV.out; have := hwl.out; have := hwd.out; have := hws.out; omega
          go_wp2_with fail
          go_roundw
          case rel => exact ⟨k + 1, r + r2, s + s2, by omega, by go_num, by go_num, by go_num, hr3, hs3, HU, HV, hb.trans (hb3.mono hb.size)⟩
          case measure => simp [intOf]; omega
        · have s4 : (t.op == 4) = false := by simp [o4]
          by_cases o7 : t.op = 7
          · have s7 : (t.op == 7) = true := by simp [o7]
            by_cases hk0 : k = 0
            · have HP : Hid (polar t.op true (0 + k) = false) := polar_7 o7 (by omega)
              have sk : ((k : Int) == 0) = true := by rw [beq_iff_eq]; omega
              have HK := hid hk0
              clear hk0 o4 o7
              go_wp2_with fail
              have hbx : Below wr.heap.size wr (wr.alloc (.cells #[.int .i64 t.parts[k].op, .string t.parts[k].atom.name, .slice p t.parts[k].atom.args.length pc, .string t.parts[k].v, .slice y t.parts[k].parts.length yc] 61)) := (Below.refl _ _).alloc (Nat.le_refl _) _
              refine (hmem false (Fm.at_keep (Keeps.all hbx) qx) hbm).mono ?_
              rintro e w2 ⟨_, rfl, hb2, rfl⟩
              have hb3 := hbx.trans (hb2.mono hbx.size)
              clear hbx hb2
              have hr2 := HSM.out false
              have hs2 := HWM.out false
              obtain ⟨r2, HR⟩ : ∃ r2, Hid (t.parts[k].strong false = r2) := ⟨_, hid rfl⟩
              obtain ⟨s2, HS⟩ : ∃ s2, Hid (t.parts[k].weak false = s2) := ⟨_, hid rfl⟩
              rw [HR.out, HS.out]
              rw [HR.out] at hr2
              rw [HS.out] at hs2
              have HU : Hid (r + r2 = strongQ t.op true + Fm.strongs t.op true 0 (t.parts.take (k + 1))) := by
                have h1 := HX.out; have h2 := hst.out; rw [HP.out, HR.out] at h2; show _ = _; omega
              have HV : Hid (s + s2 = weakQ t.op true + Fm.weaks t.op true 0 (t.parts.take (k + 1))) := by
                have h1 := HY.out; have h2 := hwt.out; rw [HP.out, HS.out] at h2; show _ = _; omega
              have hr3 : r + r2 ≤ 1048577 := by have := HU.out; have := hsl.out; have := hsd.out; have := hss.out; omega
              have hs3 : s + s2 ≤ 1048577 := by have := HV.out; have := hwl.out; have := hwd.out; have := hws.out; omega
              go_wp2_with fail
              go_roundw
              case rel => exact ⟨k + 1, r + r2, s + s2, by omega, by go_num, by go_num, by go_num, hr3, hs3, HU, HV, hb.trans (hb3.mono hb.size)⟩
              case measure => simp [intOf]; omega
            · have HP : Hid (polar t.op true (0 + k) = true) := polar_n o4 (by rintro ⟨_, q⟩; omega)
              have sk : ((k : Int) == 0) = false := by rw [beq_eq_false_iff_ne]; omega
              clear hk0 o4 o7
              go_wp2_with fail
              have hbx : Below wr.heap.size wr (wr.alloc (.cells #[.int .i64 t.parts[k].op, .string t.parts[k].atom.name, .slice p t.parts[k].atom.args.length pc, .string t.parts[k].v, .slice y t.parts[k].parts.length yc] 61)) := (Below.refl _ _).alloc (Nat.le_refl _) _
              refine (hmem true (Fm.at_keep (Keeps.all hbx) qx) hbm).mono ?_
              rintro e w2 ⟨_, rfl, hb2, rfl⟩
              have hb3 := hbx.trans (hb2.mono hbx.size)
              clear hbx hb2
              have hr2 := HSM.out true
              have hs2 := HWM.out true
              obtain ⟨r2, HR⟩ : ∃ r2, Hid (t.parts[k].strong true = r2) := ⟨_, hid rfl⟩
              obtain ⟨s2, HS⟩ : ∃ s2, Hid (t.parts[k].weak true = s2) := ⟨_, hid rfl⟩
              rw [HR.out, HS.out]
              rw [HR.out] at hr2
              rw [HS.out] at hs2
              have HU : Hid (r + r2 = strongQ t.op true + Fm.strongs t.op true 0 (t.parts.take (k + 1))) := by
                have h1 := HX.out; have h2 := hst.out; rw [HP.out, HR.out] at h2; show _ = _; omega
              have HV : Hid (s + s2 = weakQ t.op true + Fm.weaks t.op true 0 (t.parts.take (k + 1))) := by
                have h1 := HY.out; have h2 := hwt.out; rw [HP.out, HS.out] at h2; show _ = _; omega
              have hr3 : r + r2 ≤ 1048577 := by have := HU.out; have := hsl.out; have := hsd.out; have := hss.out; omega
              have hs3 : s + s2 ≤ 1048577 := by have := HV.out; have := hwl.out; have := hwd.out; have := hws.out; omega
              go_wp2_with fail
              go_roundw
              case rel => exact ⟨k + 1, r + r2, s + s2, by omega, by go_num, by go_num, by go_num, hr3, hs3, HU, HV, hb.trans (hb3.mono hb.size)⟩
              case measure => simp [intOf]; omega
          · have HP : Hid (polar t.op true (0 + k) = true) := polar_n o4 (by rintro ⟨q, _⟩; exact o7 q)
            have s7 : (t.op == 7) = false := by simp [o7]
            clear o4 o7
            go_wp2_with fail
            have hbx : Below wr.heap.size wr (wr.alloc (.cells #[.int .i64 t.parts[k].op, .string t.parts[k].atom.name, .slice p t.parts[k].atom.args.length pc, .string t.parts[k].v, .slice y t.parts[k].parts.length yc] 61)) := (Below.refl _ _).alloc (Nat.le_refl _) _
            refine (hmem true (Fm.at_keep (Keeps.all hbx) qx) hbm).mono ?_
            rintro e w2 ⟨_, rfl, hb2, rfl⟩
            have hb3 := hbx.trans (hb2.mono hbx.size)
            clear hbx hb2
            have hr2 := HSM.out true
            have hs2 := HWM.out true
            obtain ⟨r2, HR⟩ : ∃ r2, Hid (t.parts[k].strong true = r2) := ⟨_, hid rfl⟩
            obtain ⟨s2, HS⟩ : ∃ s2, Hid (t.parts[k].weak true = s2) := ⟨_, hid rfl⟩
            rw [HR.out, HS.out]
            rw [HR.out] at hr2
            rw [HS.out] at hs2
            have HU : Hid (r + r2 = strongQ t.op true + Fm.strongs t.op true 0 (t.parts.take (k + 1))) := by
              have h1 := HX.out; have h2 := hst.out; rw [HP.out, HR.out] at h2; show _ = _; omega
            have HV : Hid (s + s2 = weakQ t.op true + Fm.weaks t.op true 0 (t.parts.take (k + 1))) := by
              have h1 := HY.out; have h2 := hwt.out; rw [HP.out, HS.out] at h2; show _ = _; omega
            have hr3 : r + r2 ≤ 1048577 := by have := HU.out; have := hsl.out; have := hsd.out; have := hss.out; omega
            have hs3 : s + s2 ≤ 1048577 := by have := HV.out; have := hwl.out; have := hwd.out; have := hws.out; omega
            go_wp2_with fail
            go_roundw
            case rel => exact ⟨k + 1, r + r2, s + s2, by omega, by go_num, by go_num, by go_num, hr3, hs3, HU, HV, hb.trans (hb3.mono hb.size)⟩
            case measure => simp [intOf]; omega
      · obtain rfl : k = t.parts.length := by omega
        have HU : Hid (r = t.strong true) := by rw [Hid, hsd.out]; have := HX.out; rwa [List.take_length] at this
        have HV : Hid (s = t.weak true) := by rw [Hid, hwd.out]; have := HY.out; rwa [List.take_length] at this
        go_wp2_with fail
        go_ret2
        exact Gives.mk (by rw [← HU.out, ← HV.out]; rfl) hWr
  · have HQ : Hid (quantOp t.op = true) := by rw [hqt.out, s8]; rfl
    obtain ⟨rfl, rfl, ⟨a, cap, rfl⟩, rfl, a2, cap2, rfl⟩ := Fm.at_form hT
    have hW : Below w.heap.size w (w.alloc (.cells #[.int .i64 t.op, .string t.atom.name, .slice a t.atom.args.length cap, .string t.v, .slice a2 t.parts.length cap2] 61)) := (Below.refl _ _).alloc (Nat.le_refl _) _
    have bT : Box (w.alloc (.cells #[.int .i64 t.op, .string t.atom.name, .slice a t.atom.args.length cap, .string t.v, .slice a2 t.parts.length cap2] 61)) w.heap.size [.int .i64 t.op, .string t.atom.name, .slice a t.atom.args.length cap, .string t.v, .slice a2 t.parts.length cap2] := Box.new w _ _
    replace hT := Fm.at_keep (Keeps.all hW) hT
    go_enter Try.func95, Try.ntmps95
    go_wp2_with fail
    generalize (w.alloc (.cells #[.int .i64 t.op, .string t.atom.name, .slice a t.atom.args.length cap, .string t.v, .slice a2 t.parts.length cap2] 61)) = w0 at *
    have eT0 := bT.c0
    have eT1 := bT.c1
    have eT2 := bT.c2
    have eT3 := bT.c3
    have eT4 := bT.c4
    have lT := bT.lt
    refine (isQuantifier_any _ _).mono ?_
    rintro e w4 ⟨rfl, rfl⟩
    rw [HQ.out]
    go_wp2_with fail
    clear eT0 eT1 eT2 eT3 eT4 lT
    go_loopw [6, 7, 28] (fun x y i wr => ∃ (k r s : Nat), k ≤ t.parts.length ∧ i = .int .i64 k ∧ x = .int .i64 r ∧ y = .int .i64 s ∧ r ≤ 1048577 ∧ s ≤ 1048577 ∧ Hid (r = strongQ t.op false + Fm.strongs t.op false 0 (t.parts.take k)) ∧ Hid (s = weakQ t.op false + Fm.weaks t.op false 0 (t.parts.take k)) ∧ Below w0.heap.size w0 wr) (fun _ _ i _ => t.parts.length - (intOf i).toNat)
    case atStart =>
      first
      | exact ⟨0, 0, 0, Nat.zero_le _, rfl, rfl, rfl, by omega, by omega, by rw [Hid, HA.out]; simp [Fm.strongs], by rw [Hid, HB.out]; simp [Fm.weaks], Below.refl _ _⟩
      | exact ⟨0, 1, 0, Nat.zero_le _, rfl, rfl, rfl, by omega, by omega, by rw [Hid, HA.out]; simp [Fm.strongs], by rw [Hid, HB.out]; simp [Fm.weaks], Below.refl _ _⟩
      | exact ⟨0, 0, 1, Nat.zero_le _, rfl, rfl, rfl, by omega, by omega, by rw [Hid, HA.out]; simp [Fm.strongs], by rw [Hid, HB.out]; simp [Fm.weaks], Below.refl _ _⟩
    case round =>
      obtain ⟨k, r, s, hk, rfl, rfl, rfl, hr1, hs1, HX, HY, hb⟩ := hrel
      have hWr := hW.trans (hb.mono hW.size)
      have bR := bT.keep hb
      have eT0 := bR.c0
      have eT1 := bR.c1
      have eT2 := bR.c2
      have eT3 := bR.c3
      have eT4 := bR.c4
      have lT := bR.lt
      by_cases hlt : k < t.parts.length
      · have hne : t.parts ≠ [] := by intro e; rw [e] at hlt; simp at hlt
        obtain ⟨b, off, rfl, hS, hbl, hrr⟩ := Fm.sd_get (Fm.at_parts hT) hne
        obtain ⟨c0, c1, c2, c3, c4, q0, q1, q2, q3, q4, qx⟩ := hrr k hlt
        obtain ⟨rfl, rfl, ⟨p, pc, rfl⟩, rfl, y, yc, rfl⟩ := Fm.at_form qx
        replace q0 := (hb.cell (p := ⟨b, off + k * 5, none⟩) hbl).trans q0
        replace q1 := (hb.cell (p := ⟨b, off + k * 5 + 1, none⟩) hbl).trans q1
        replace q2 := (hb.cell (p := ⟨b, off + k * 5 + 2, none⟩) hbl).trans q2
        replace q3 := (hb.cell (p := ⟨b, off + k * 5 + 3, none⟩) hbl).trans q3
        replace q4 := (hb.cell (p := ⟨b, off + k * 5 + 4, none⟩) hbl).trans q4
        replace qx := Fm.at_keep (Keeps.all hb) qx
        have hmem := h t.parts[k] (List.getElem_mem hlt)
        have hbm : t.parts[k].bulk ≤ 1048576 := by have := Fm.bulk_mem (List.getElem_mem hlt); have := Fm.bulk_eq t; omega
        clear hrr
        have hq0 := cell_alloc q0
        have hst := hid (Fm.strongs_take t.op false t.parts 0 k hlt)
        have hwt := hid (Fm.weaks_take t.op false t.parts 0 k hlt)
        have hsl := hid (Fm.strongs_le t.op false t.parts 0 (k + 1))
        have hwl := hid (Fm.weaks_le t.op false t.parts 0 (k + 1))
        have hsz := Fm.size_bulk t.parts[k]
        have HSM : Hid (∀ q, t.parts[k].strong q ≤ 1048577) := fun q => Nat.le_trans (Fm.strong_size t.parts[k] q) (by omega)
        have HWM : Hid (∀ q, t.parts[k].weak q ≤ 1048577) := fun q => Nat.le_trans (Fm.weak_size t.parts[k] q) (by omega)
        clear hsz
        by_cases o4 : t.op = 4
        · have HP : Hid (polar t.op false (0 + k) = true) := polar_4 o4
          have s4 : (t.op == 4) = true := by simp [o4]
          clear o4
          go_wp2_with fail
          have hbx : Below wr.heap.size wr (wr.alloc (.cells #[.int .i64 t.parts[k].op, .string t.parts[k].atom.name, .slice p t.parts[k].atom.args.length pc, .string t.parts[k].v, .slice y t.parts[k].parts.length yc] 61)) := (Below.refl _ _).alloc (Nat.le_refl _) _
          refine (hmem true (Fm.at_keep (Keeps.all hbx) qx) hbm).mono ?_
          rintro e w2 ⟨_, rfl, hb2, rfl⟩
          have hb3 := hbx.trans (hb2.mono hbx.size)
          clear hbx hb2
          have hr2 := HSM.out true
          have hs2 := HWM.out true
          obtain ⟨r2, HR⟩ : ∃ r2, Hid (t.parts[k].strong true = r2) := ⟨_, hid rfl⟩
          obtain ⟨s2, HS⟩ : ∃ s2, Hid (t.parts[k].weak true = s2) := ⟨_, hid rfl⟩
          rw [HR.out, HS.out]
          rw [HR.out] at hr2
          rw [HS.out] at hs2
          have HU : Hid (r + r2 = strongQ t.op false + Fm.strongs t.op false 0 (t.parts.take (k + 1))) := by
            have h1 := HX.out; have h2 := hst.out; rw [HP.out, HR.out] at h2; show _ = _; omega
          have HV : Hid (s + s2 = weakQ t.op false + Fm.weaks t.op false 0 (t.parts.take (k + 1))) := by
            have h1 := HY.out; have h2 := hwt.out; rw [HP.out, HS.out] at h2; show _ = _; omega
          have hr3 : r + r2 ≤ 1048577 := by have := HU.out; have := hsl.out; have := hsd.out; have := hss.out; omega
          have hs3 : s + s2 ≤ 1048577 := by have := HV.out; have := hwl.out; have := hwd.out; have := hws.out; omega
          go_wp2_with fail
          go_roundw
          case rel => exact ⟨k + 1, r + r2, s + s2, by omega, by go_num, by go_num, by go_num, hr3, hs3, HU, HV, hb.trans (hb3.mono hb.size)⟩
          case measure => simp [intOf]; omega
        · have s4 : (t.op == 4) = false := by simp [o4]
          by_cases o7 : t.op = 7
          · have s7 : (t.op == 7) = true := by simp [o7]
            by_cases hk0 : k = 0
            · have HP : Hid (polar t.op false (0 + k) = true) := polar_7 o7 (by omega)
              have sk : ((k : Int) == 0) = true := by rw [beq_iff_eq]; omega
              have HK := hid hk0
              clear hk0 o4 o7
              go_wp2_with fail
              have hbx : Below wr.heap.size wr (wr.alloc (.cells #[.int .i64 t.parts[k].op, .string t.parts[k].atom.name, .slice p t.parts[k].atom.args.length pc, .string t.parts[k].v, .slice y t.parts[k].parts.length yc] 61)) := (Below.refl _ _).alloc (Nat.le_refl _) _
              refine (hmem true (Fm.at_keep (Keeps.all hbx) qx) hbm).mono ?_
              rintro e w2 ⟨_, rfl, hb2, rfl⟩
              have hb3 := hbx.trans (hb2.mono hbx.size)
              clear hbx hb2
              have hr2 := HSM.out true
              have hs2 := HWM.out true
              obtain ⟨r2, HR⟩ : ∃ r2, Hid (t.parts[k].strong true = r2) := ⟨_, hid rfl⟩
              obtain ⟨s2, HS⟩ : ∃ s2, Hid (t.parts[k].weak true = s2) := ⟨_, hid rfl⟩
              rw [HR.out, HS.out]
              rw [HR.out] at hr2
              rw [HS.out] at hs2
              have HU : Hid (r + r2 = strongQ t.op false + Fm.strongs t.op false 0 (t.parts.take (k + 1))) := by
                have h1 := HX.out; have h2 := hst.out; rw [HP.out, HR.out] at h2; show _ = _; omega
              have HV : Hid (s + s2 = weakQ t.op false + Fm.weaks t.op false 0 (t.parts.take (k + 1))) := by
                have h1 := HY.out; have h2 := hwt.out; rw [HP.out, HS.out] at h2; show _ = _; omega
              have hr3 : r + r2 ≤ 1048577 := by have := HU.out; have := hsl.out; have := hsd.out; have := hss.out; omega
              have hs3 : s + s2 ≤ 1048577 := by have := HV.out; have := hwl.out; have := hwd.out; have := hws.out; omega
              go_wp2_with fail
              go_roundw
              case rel => exact ⟨k + 1, r + r2, s + s2, by omega, by go_num, by go_num, by go_num, hr3, hs3, HU, HV, hb.trans (hb3.mono hb.size)⟩
              case measure => simp [intOf]; omega
            · have HP : Hid (polar t.op false (0 + k) = false) := polar_n o4 (by rintro ⟨_, q⟩; omega)
              have sk : ((k : Int) == 0) = false := by rw [beq_eq_false_iff_ne]; omega
              clear hk0 o4 o7
              go_wp2_with fail
              have hbx : Below wr.heap.size wr (wr.alloc (.cells #[.int .i64 t.parts[k].op, .string t.parts[k].atom.name, .slice p t.parts[k].atom.args.length pc, .string t.parts[k].v, .slice y t.parts[k].parts.length yc] 61)) := (Below.refl _ _).alloc (Nat.le_refl _) _
              refine (hmem false (Fm.at_keep (Keeps.all hbx) qx) hbm).mono ?_
              rintro e w2 ⟨_, rfl, hb2, rfl⟩
              have hb3 := hbx.trans (hb2.mono hbx.size)
              clear hbx hb2
              have hr2 := HSM.out false
              have hs2 := HWM.out false
              obtain ⟨r2, HR⟩ : ∃ r2, Hid (t.parts[k].strong false = r2) := ⟨_, hid rfl⟩
              obtain ⟨s2, HS⟩ : ∃ s2, Hid (t.parts[k].weak false = s2) := ⟨_, hid rfl⟩
              rw [HR.out, HS.out]
              rw [HR.out] at hr2
              rw [HS.out] at hs2
              have HU : Hid (r + r2 = strongQ t.op false + Fm.strongs t.op false 0 (t.parts.take (k + 1))) := by
                have h1 := HX.out; have h2 := hst.out; rw [HP.out, HR.out] at h2; show _ = _; omega
              have HV : Hid (s + s2 = weakQ t.op false + Fm.weaks t.op false 0 (t.parts.take (k + 1))) := by
                have h1 := HY.out; have h2 := hwt.out; rw [HP.out, HS.out] at h2; show _ = _; omega
              have hr3 : r + r2 ≤ 1048577 := by have := HU.out; have := hsl.out; have := hsd.out; have := hss.out; omega
              have hs3 : s + s2 ≤ 1048577 := by have := HV.out; have := hwl.out; have := hwd.out; have := hws.out; omega
              go_wp2_with fail
              go_roundw
              case rel => exact ⟨k + 1, r + r2, s + s2, by omega, by go_num, by go_num, by go_num, hr3, hs3, HU, HV, hb.trans (hb3.mono hb.size)⟩
              case measure => simp [intOf]; omega
          · have HP : Hid (polar t.op false (0 + k) = false) := polar_n o4 (by rintro ⟨q, _⟩; exact o7 q)
            have s7 : (t.op == 7) = false := by simp [o7]
            clear o4 o7
            go_wp2_with fail
            have hbx : Below wr.heap.size wr (wr.alloc (.cells #[.int .i64 t.parts[k].op, .string t.parts[k].atom.name, .slice p t.parts[k].atom.args.length pc, .string t.parts[k].v, .slice y t.parts[k].parts.length yc] 61)) := (Below.refl _ _).alloc (Nat.le_refl _) _
            refine (hmem false (Fm.at_keep (Keeps.all hbx) qx) hbm).mono ?_
            rintro e w2 ⟨_, rfl, hb2, rfl⟩
            have hb3 := hbx.trans (hb2.mono hbx.size)
            clear hbx hb2
            have hr2 := HSM.out false
            have hs2 := HWM.out false
            obtain ⟨r2, HR⟩ : ∃ r2, Hid (t.parts[k].strong false = r2) := ⟨_, hid rfl⟩
            obtain ⟨s2, HS⟩ : ∃ s2, Hid (t.parts[k].weak false = s2) := ⟨_, hid rfl⟩
            rw [HR.out, HS.out]
            rw [HR.out] at hr2
            rw [HS.out] at hs2
            have HU : Hid (r + r2 = strongQ t.op false + Fm.strongs t.op false 0 (t.parts.take (k + 1))) := by
              have h1 := HX.out; have h2 := hst.out; rw [HP.out, HR.out] at h2; show _ = _; omega
            have HV : Hid (s + s2 = weakQ t.op false + Fm.weaks t.op false 0 (t.parts.take (k + 1))) := by
              have h1 := HY.out; have h2 := hwt.out; rw [HP.out, HS.out] at h2; show _ = _; omega
            have hr3 : r + r2 ≤ 1048577 := by have := HU.out; have := hsl.out; have := hsd.out; have := hss.out; omega
            have hs3 : s + s2 ≤ 1048577 := by have := HV.out; have := hwl.out; have := hwd.out; have := hws.out; omega
            go_wp2_with fail
            go_roundw
            case rel => exact ⟨k + 1, r + r2, s + s2, by omega, by go_num, by go_num, by go_num, hr3, hs3, HU, HV, hb.trans (hb3.mono hb.size)⟩
            case measure => simp [intOf]; omega
      · obtain rfl : k = t.parts.length := by omega
        have HU : Hid (r = t.strong false) := by rw [Hid, hsd.out]; have := HX.out; rwa [List.take_length] at this
        have HV : Hid (s = t.weak false) := by rw [Hid, hwd.out]; have := HY.out; rwa [List.take_length] at this
        go_wp2_with fail
        go_ret2
        exact Gives.mk (by rw [← HU.out, ← HV.out]; rfl) hWr
  · have HQ : Hid (quantOp t.op = true) := by rw [hqt.out, s8, s9]; rfl
    obtain ⟨rfl, rfl, ⟨a, cap, rfl⟩, rfl, a2, cap2, rfl⟩ := Fm.at_form hT
    have hW : Below w.heap.size w (w.alloc (.cells #[.int .i64 t.op, .string t.atom.name, .slice a t.atom.args.length cap, .string t.v, .slice a2 t.parts.length cap2] 61)) := (Below.refl _ _).alloc (Nat.le_refl _) _
    have bT : Box (w.alloc (.cells #[.int .i64 t.op, .string t.atom.name, .slice a t.atom.args.length cap, .string t.v, .slice a2 t.parts.length cap2] 61)) w.heap.size [.int .i64 t.op, .string t.atom.name, .slice a t.atom.args.length cap, .string t.v, .slice a2 t.parts.length cap2] := Box.new w _ _
    replace hT := Fm.at_keep (Keeps.all hW) hT
    go_enter Try.func95, Try.ntmps95
    go_wp2_with fail
    generalize (w.alloc (.cells #[.int .i64 t.op, .string t.atom.name, .slice a t.atom.args.length cap, .string t.v, .slice a2 t.parts.length cap2] 61)) = w0 at *
    have eT0 := bT.c0
    have eT1 := bT.c1
    have eT2 := bT.c2
    have eT3 := bT.c3
    have eT4 := bT.c4
    have lT := bT.lt
    refine (isQuantifier_any _ _).mono ?_
    rintro e w4 ⟨rfl, rfl⟩
    rw [HQ.out]
    go_wp2_with fail
    clear eT0 eT1 eT2 eT3 eT4 lT
    go_loopw [6, 7, 28] (fun x y i wr => ∃ (k r s : Nat), k ≤ t.parts.length ∧ i = .int .i64 k ∧ x = .int .i64 r ∧ y = .int .i64 s ∧ r ≤ 1048577 ∧ s ≤ 1048577 ∧ Hid (r = strongQ t.op true + Fm.strongs t.op true 0 (t.parts.take k)) ∧ Hid (s = weakQ t.op true + Fm.weaks t.op true 0 (t.parts.take k)) ∧ Below w0.heap.size w0 wr) (fun _ _ i _ => t.parts.length - (intOf i).toNat)
    case atStart =>
      first
      | exact ⟨0, 0, 0, Nat.zero_le _, rfl, rfl, rfl, by omega, by omega, by rw [Hid, HA.out]; simp [Fm.strongs], by rw [Hid, HB.out]; simp [Fm.weaks], Below.refl _ _⟩
      | exact ⟨0, 1, 0, Nat.zero_le _, rfl, rfl, rfl, by omega, by omega, by rw [Hid, HA.out]; simp [Fm.strongs], by rw [Hid, HB.out]; simp [Fm.weaks], Below.refl _ _⟩
      | exact ⟨0, 0, 1, Nat.zero_le _, rfl, rfl, rfl, by omega, by omega, by rw [Hid, HA.out]; simp [Fm.strongs], by rw [Hid, HB.out]; simp [Fm.weaks], Below.refl _ _⟩
    case round =>
      obtain ⟨k, r, s, hk, rfl, rfl, rfl, hr1, hs1, HX, HY, hb⟩ := hrel
      have hWr := hW.trans (hb.mono hW.size)
      have bR := bT.keep hb
      have eT0 := bR.c0
      have eT1 := bR.c1
      have eT2 := bR.c2
      have eT3 := bR.c3
      have eT4 := bR.c4
      have lT := bR.lt
      by_cases hlt : k < t.parts.length
      · have hne : t.parts ≠ [] := by intro e; rw [e] at hlt; simp at hlt
        obtain ⟨b, off, rfl, hS, hbl, hrr⟩ := Fm.sd_get (Fm.at_parts hT) hne
        obtain ⟨c0, c1, c2, c3, c4, q0, q1, q2, q3, q4, qx⟩ := hrr k hlt
        obtain ⟨rfl, rfl, ⟨p, pc, rfl⟩, rfl, y, yc, rfl⟩ := Fm.at_form qx
        replace q0 := (hb.cell (p := ⟨b, off + k * 5, none⟩) hbl).trans q0
        replace q1 := (hb.cell (p := ⟨b, off + k * 5 + 1, none⟩) hbl).trans q1
        replace q2 := (hb.cell (p := ⟨b, off + k * 5 + 2, none⟩) hbl).trans q2
        replace q3 := (hb.cell (p := ⟨b, off + k * 5 + 3, none⟩) hbl).trans q3
        replace q4 := (hb.cell (p := ⟨b, off + k * 5 + 4, none⟩) hbl).trans q4
        replace qx := Fm.at_keep (Keeps.all hb) qx
        have hmem := h t.parts[k] (List.getElem_mem hlt)
        have hbm : t.parts[k].bulk ≤ 1048576 := by have := Fm.bulk_mem (List.getElem_mem hlt); have := Fm.bulk_eq t; omega
        clear hrr
        have hq0 := cell_alloc q0
        have hst := hid (Fm.strongs_take t.op true t.parts 0 k hlt)
        have hwt := hid (Fm.weaks_take t.op true t.parts 0 k hlt)
        have hsl := hid (Fm.strongs_le t.op true t.parts 0 (k + 1))
        have hwl := hid (Fm.weaks_le t.op true t.parts 0 (k + 1))
        have hsz := Fm.size_bulk t.parts[k]
        have HSM : Hid (∀ q, t.parts[k].strong q ≤ 1048577) := fun q => Nat.le_trans (Fm.strong_size t.parts[k] q) (by omega)
        have HWM : Hid (∀ q, t.parts[k].weak q ≤ 1048577) := fun q => Nat.le_trans (Fm.weak_size t.parts[k] q) (by omega)
        clear hsz
        by_cases o4 : t.op = 4
        · have HP : Hid (polar t.op true (0 + k) = false) := polar_4 o4
          have s4 : (t.op == 4) = true := by simp [o4]
          clear o4
          go_wp2_with fail
          have hbx : Below wr.heap.size wr (wr.alloc (.cells #[.int .i64 t.parts[k].op, .string t.parts[k].atom.name, .slice p t.parts[k].atom.args.length pc, .string t.parts[k].v, .slice y t.parts[k].parts.length yc] 61)) := (Below.refl _ _).alloc (Nat.le_refl _) _
          refine (hmem false (Fm.at_keep (Keeps.all hbx) qx) hbm).mono ?_
          rintro e w2 ⟨_, rfl, hb2, rfl⟩
          have hb3 := hbx.trans (hb2.mono hbx.size)
          clear hbx hb2
          have hr2 := HSM.out false
          have hs2 := HWM.out false
          obtain ⟨r2, HR⟩ : ∃ r2, Hid (t.parts[k].strong false = r2) := ⟨_, hid rfl⟩
          obtain ⟨s2, HS⟩ : ∃ s2, Hid (t.parts[k].weak false = s2) := ⟨_, hid rfl⟩
          rw [HR.out, HS.out]
          rw [HR.out] at hr2
          rw [HS.out] at hs2
          have HU : Hid (r + r2 = strongQ t.op true + Fm.strongs t.op true 0 (t.parts.take (k + 1))) := by
            have h1 := HX.out; have h2 := hst.out; rw [HP.out, HR.out] at h2; show _ = _; omega
          have HV : Hid (s + s2 = weakQ t.op true + Fm.weaks t.op true 0 (t.parts.take (k + 1))) := by
            have h1 := HY.out; have h2 := hwt.out; rw [HP.out, HS.out] at h2; show _ = _; omega
          have hr3 : r + r2 ≤ 1048577 := by have := HU.out; have := hsl.out; have := hsd.out; have := hss.out; omega
          have hs3 : s + s2 ≤ 1048577 := by have := HV.out; have := hwl.out; have := hwd.out; have := hws.out; omega
          go_wp2_with fail
          go_roundw
          case rel => exact ⟨k + 1, r + r2, s + s2, by omega, by go_num, by go_num, by go_num, hr3, hs3, HU, HV, hb.trans (hb3.mono hb.size)⟩
          case measure => simp [intOf]; omega
        · have s4 : (t.op == 4) = false := by simp [o4]
          by_cases o7 : t.op = 7
          · have s7 : (t.op == 7) = true := by simp [o7]
            by_cases hk0 : k = 0
            · have HP : Hid (polar t.op true (0 + k) = false) := polar_7 o7 (by omega)
              have sk : ((k : Int) == 0) = true := by rw [beq_iff_eq]; omega
              have HK := hid hk0
              clear hk0 o4 o7
              go_wp2_with fail
              have hbx : Below wr.heap.size wr (wr.alloc (.cells #[.int .i64 t.parts[k].op, .string t.parts[k].atom.name, .slice p t.parts[k].atom.args.length pc, .string t.parts[k].v, .slice y t.parts[k].parts.length yc] 61)) := (Below.refl _ _).alloc (Nat.le_refl _) _
              refine (hmem false (Fm.at_keep (Keeps.all hbx) qx) hbm).mono ?_
              rintro e w2 ⟨_, rfl, hb2, rfl⟩
              have hb3 := hbx.trans (hb2.mono hbx.size)
              clear hbx hb2
              have hr2 := HSM.out false
              have hs2 := HWM.out false
              obtain ⟨r2, HR⟩ : ∃ r2, Hid (t.parts[k].strong false = r2) := ⟨_, hid rfl⟩
              obtain ⟨s2, HS⟩ : ∃ s2, Hid (t.parts[k].weak false = s2) := ⟨_, hid rfl⟩
              rw [HR.out, HS.out]
              rw [HR.out] at hr2
              rw [HS.out] at hs2
              have HU : Hid (r + r2 = strongQ t.op true + Fm.strongs t.op true 0 (t.parts.take (k + 1))) := by
                have h1 := HX.out; have h2 := hst.out; rw [HP.out, HR.out] at h2; show _ = _; omega
              have HV : Hid (s + s2 = weakQ t.op true + Fm.weaks t.op true 0 (t.parts.take (k + 1))) := by
                have h1 := HY.out; have h2 := hwt.out; rw [HP.out, HS.out] at h2; show _ = _; omega
              have hr3 : r + r2 ≤ 1048577 := by have := HU.out; have := hsl.out; have := hsd.out; have := hss.out; omega
              have hs3 : s + s2 ≤ 1048577 := by have := HV.out; have := hwl.out; have := hwd.out; have := hws.out; omega
              go_wp2_with fail
              go_roundw
              case rel => exact ⟨k + 1, r + r2, s + s2, by omega, by go_num, by go_num, by go_num, hr3, hs3, HU, HV, hb.trans (hb3.mono hb.size)⟩
              case measure => simp [intOf]; omega
            · have HP : Hid (polar t.op true (0 + k) = true) := polar_n o4 (by rintro ⟨_, q⟩; omega)
              have sk : ((k : Int) == 0) = false := by rw [beq_eq_false_iff_ne]; omega
              clear hk0 o4 o7
              go_wp2_with fail
              have hbx : Below wr.heap.size wr (wr.alloc (.cells #[.int .i64 t.parts[k].op, .string t.parts[k].atom.name, .slice p t.parts[k].atom.args.length pc, .string t.parts[k].v, .slice y t.parts[k].parts.length yc] 61)) := (Below.refl _ _).alloc (Nat.le_refl _) _
              refine (hmem true (Fm.at_keep (Keeps.all hbx) qx) hbm).mono ?_
              rintro e w2 ⟨_, rfl, hb2, rfl⟩
              have hb3 := hbx.trans (hb2.mono hbx.size)
              clear hbx hb2
              have hr2 := HSM.out true
              have hs2 := HWM.out true
              obtain ⟨r2, HR⟩ : ∃ r2, Hid (t.parts[k].strong true = r2) := ⟨_, hid rfl⟩
              obtain ⟨s2, HS⟩ : ∃ s2, Hid (t.parts[k].weak true = s2) := ⟨_, hid rfl⟩
              rw [HR.out, HS.out]
              rw [HR.out] at hr2
              rw [HS.out] at hs2
              have HU : Hid (r + r2 = strongQ t.op true + Fm.strongs t.op true 0 (t.parts.take (k + 1))) := by
                have h1 := HX.out; have h2 := hst.out; rw [HP.out, HR.out] at h2; show _ = _; omega
              have HV : Hid (s + s2 = weakQ t.op true + Fm.weaks t.op true 0 (t.parts.take (k + 1))) := by
                have h1 := HY.out; have h2 := hwt.out; rw [HP.out, HS.out] at h2; show _ = _; omega
              have hr3 : r + r2 ≤ 1048577 := by have := HU.out; have := hsl.out; have := hsd.out; have := hss.out; omega
              have hs3 : s + s2 ≤ 1048577 := by have := HV.out; have := hwl.out; have := hwd.out; have := hws.out; omega
              go_wp2_with fail
              go_roundw
              case rel => exact ⟨k + 1, r + r2, s + s2, by omega, by go_num, by go_num, by go_num, hr3, hs3, HU, HV, hb.trans (hb3.mono hb.size)⟩
              case measure => simp [intOf]; omega
          · have HP : Hid (polar t.op true (0 + k) = true) := polar_n o4 (by rintro ⟨q, _⟩; exact o7 q)
            have s7 : (t.op == 7) = false := by simp [o7]
            clear o4 o7
            go_wp2_with fail
            have hbx : Below wr.heap.size wr (wr.alloc (.cells #[.int .i64 t.parts[k].op, .string t.parts[k].atom.name, .slice p t.parts[k].atom.args.length pc, .string t.parts[k].v, .slice y t.parts[k].parts.length yc] 61)) := (Below.refl _ _).alloc (Nat.le_refl _) _
            refine (hmem true (Fm.at_keep (Keeps.all hbx) qx) hbm).mono ?_
            rintro e w2 ⟨_, rfl, hb2, rfl⟩
            have hb3 := hbx.trans (hb2.mono hbx.size)
            clear hbx hb2
            have hr2 := HSM.out true
            have hs2 := HWM.out true
            obtain ⟨r2, HR⟩ : ∃ r2, Hid (t.parts[k].strong true = r2) := ⟨_, hid rfl⟩
            obtain ⟨s2, HS⟩ : ∃ s2, Hid (t.parts[k].weak true = s2) := ⟨_, hid rfl⟩
            rw [HR.out, HS.out]
            rw [HR.out] at hr2
            rw [HS.out] at hs2
            have HU : Hid (r + r2 = strongQ t.op true + Fm.strongs t.op true 0 (t.parts.take (k + 1))) := by
              have h1 := HX.out; have h2 := hst.out; rw [HP.out, HR.out] at h2; show _ = _; omega
            have HV : Hid (s + s2 = weakQ t.op true + Fm.weaks t.op true 0 (t.parts.take (k + 1))) := by
              have h1 := HY.out; have h2 := hwt.out; rw [HP.out, HS.out] at h2; show _ = _; omega
            have hr3 : r + r2 ≤ 1048577 := by have := HU.out; have := hsl.out; have := hsd.out; have := hss.out; omega
            have hs3 : s + s2 ≤ 1048577 := by have := HV.out; have := hwl.out; have := hwd.out; have := hws.out; omega
            go_wp2_with fail
            go_roundw
            case rel => exact ⟨k + 1, r + r2, s + s2, by omega, by go_num, by go_num, by go_num, hr3, hs3, HU, HV, hb.trans (hb3.mono hb.size)⟩
            case measure => simp [intOf]; omega
      · obtain rfl : k = t.parts.length := by omega
        have HU : Hid (r = t.strong true) := by rw [Hid, hsd.out]; have := HX.out; rwa [List.take_length] at this
        have HV : Hid (s = t.weak true) := by rw [Hid, hwd.out]; have := HY.out; rwa [List.take_length] at this
        go_wp2_with fail
        go_ret2
        exact Gives.mk (by rw [← HU.out, ← HV.out]; rfl) hWr
  · have HQ : Hid (quantOp t.op = true) := by rw [hqt.out, s8, s9]; rfl
    obtain ⟨rfl, rfl, ⟨a, cap, rfl⟩, rfl, a2, cap2, rfl⟩ := Fm.at_form hT
    have hW : Below w.heap.size w (w.alloc (.cells #[.int .i64 t.op, .string t.atom.name, .slice a t.atom.args.length cap, .string t.v, .slice a2 t.parts.length cap2] 61)) := (Below.refl _ _).alloc (Nat.le_refl _) _
    have bT : Box (w.alloc (.cells #[.int .i64 t.op, .string t.atom.name, .slice a t.atom.args.length cap, .string t.v, .slice a2 t.parts.length cap2] 61)) w.heap.size [.int .i64 t.op, .string t.atom.name, .slice a t.atom.args.length cap, .string t.v, .slice a2 t.parts.length cap2] := Box.new w _ _
    replace hT := Fm.at_keep (Keeps.all hW) hT
    go_enter Try.func95, Try.ntmps95
    go_wp2_with fail
    generalize (w.alloc (.cells #[.int .i64 t.op, .string t.atom.name, .slice a t.atom.args.length cap, .string t.v, .slice a2 t.parts.length cap2] 61)) = w0 at *
    have eT0 := bT.c0
    have eT1 := bT.c1
    have eT2 := bT.c2
    have eT3 := bT.c3
    have eT4 := bT.c4
    have lT := bT.lt
    refine (isQuantifier_any _ _).mono ?_
    rintro e w4 ⟨rfl, rfl⟩
    rw [HQ.out]
    go_wp2_with fail
    clear eT0 eT1 eT2 eT3 eT4 lT
    go_loopw [6, 7, 28] (fun x y i wr => ∃ (k r s : Nat), k ≤ t.parts.length ∧ i = .int .i64 k ∧ x = .int .i64 r ∧ y = .int .i64 s ∧ r ≤ 1048577 ∧ s ≤ 1048577 ∧ Hid (r = strongQ t.op false + Fm.strongs t.op false 0 (t.parts.take k)) ∧ Hid (s = weakQ t.op false + Fm.weaks t.op false 0 (t.parts.take k)) ∧ Below w0.heap.size w0 wr) (fun _ _ i _ => t.parts.length - (intOf i).toNat)
    case atStart =>
      first
      | exact ⟨0, 0, 0, Nat.zero_le _, rfl, rfl, rfl, by omega, by omega, by rw [Hid, HA.out]; simp [Fm.strongs], by rw [Hid, HB.out]; simp [Fm.weaks], Below.refl _ _⟩
      | exact ⟨0, 1, 0, Nat.zero_le _, rfl, rfl, rfl, by omega, by omega, by rw [Hid, HA.out]; simp [Fm.strongs], by rw [Hid, HB.out]; simp [Fm.weaks], Below.refl _ _⟩
      | exact ⟨0, 0, 1, Nat.zero_le _, rfl, rfl, rfl, by omega, by omega, by rw [Hid, HA.out]; simp [Fm.strongs], by rw [Hid, HB.out]; simp [Fm.weaks], Below.refl _ _⟩
    case round =>
      obtain ⟨k, r, s, hk, rfl, rfl, rfl, hr1, hs1, HX, HY, hb⟩ := hrel
      have hWr := hW.trans (hb.mono hW.size)
      have bR := bT.keep hb
      have eT0 := bR.c0
      have eT1 := bR.c1
      have eT2 := bR.c2
      have eT3 := bR.c3
      have eT4 := bR.c4
      have lT := bR.lt
      by_cases hlt : k < t.parts.length
      · have hne : t.parts ≠ [] := by intro e; rw [e] at hlt; simp at hlt
        obtain ⟨b, off, rfl, hS, hbl, hrr⟩ := Fm.sd_get (Fm.at_parts hT) hne
        obtain ⟨c0, c1, c2, c3, c4, q0, q1, q2, q3, q4, qx⟩ := hrr k hlt
        obtain ⟨rfl, rfl, ⟨p, pc, rfl⟩, rfl, y, yc, rfl⟩ := Fm.at_form qx
        replace q0 := (hb.cell (p := ⟨b, off + k * 5, none⟩) hbl).trans q0
        replace q1 := (hb.cell (p := ⟨b, off + k * 5 + 1, none⟩) hbl).trans q1
        replace q2 := (hb.cell (p := ⟨b, off + k * 5 + 2, none⟩) hbl).trans q2
        replace q3 := (hb.cell (p := ⟨b, off + k * 5 + 3, none⟩) hbl).trans q3
        replace q4 := (hb.cell (p := ⟨b, off + k * 5 + 4, none⟩) hbl).trans q4
        replace qx := Fm.at_keep (Keeps.all hb) qx
        have hmem := h t.parts[k] (List.getElem_mem hlt)
        have hbm : t.parts[k].bulk ≤ 1048576 := by have := Fm.bulk_mem (List.getElem_mem hlt); have := Fm.bulk_eq t; omega
        clear hrr
        have hq0 := cell_alloc q0
        have hst := hid (Fm.strongs_take t.op false t.parts 0 k hlt)
        have hwt := hid (Fm.weaks_take t.op false t.parts 0 k hlt)
        have hsl := hid (Fm.strongs_le t.op false t.parts 0 (k + 1))
        have hwl := hid (Fm.weaks_le t.op false t.parts 0 (k + 1))
        have hsz := Fm.size_bulk t.parts[k]
        have HSM : Hid (∀ q, t.parts[k].strong q ≤ 1048577) := fun q => Nat.le_trans (Fm.strong_size t.parts[k] q) (by omega)
        have HWM : Hid (∀ q, t.parts[k].weak q ≤ 1048577) := fun q => Nat.le_trans (Fm.weak_size t.parts[k] q) (by omega)
        clear hsz
        by_cases o4 : t.op = 4
        · have HP : Hid (polar t.op false (0 + k) = true) := polar_4 o4
          have s4 : (t.op == 4) = true := by simp [o4]
          clear o4
          go_wp2_with fail
          have hbx : Below wr.heap.size wr (wr.alloc (.cells #[.int .i64 t.parts[k].op, .string t.parts[k].atom.name, .slice p t.parts[k].atom.args.length pc, .string t.parts[k].v, .slice y t.parts[k].parts.length yc] 61)) := (Below.refl _ _).alloc (Nat.le_refl _) _
          refine (hmem true (Fm.at_keep (Keeps.all hbx) qx) hbm).mono ?_
          rintro e w2 ⟨_, rfl, hb2, rfl⟩
          have hb3 := hbx.trans (hb2.mono hbx.size)
          clear hbx hb2
          have hr2 := HSM.out true
          have hs2 := HWM.out true
          obtain ⟨r2, HR⟩ : ∃ r2, Hid (t.parts[k].strong true = r2) := ⟨_, hid rfl⟩
          obtain ⟨s2, HS⟩ : ∃ s2, Hid (t.parts[k].weak true = s2) := ⟨_, hid rfl⟩
          rw [HR.out, HS.out]
          rw [HR.out] at hr2
          rw [HS.out] at hs2
          have HU : Hid (r + r2 = strongQ t.op false + Fm.strongs t.op false 0 (t.parts.take (k + 1))) := by
            have h1 := HX.out; have h2 := hst.out; rw [HP.out, HR.out] at h2; show _ = _; omega
          have HV : Hid (s + s2 = weakQ t.op false + Fm.weaks t.op false 0 (t.parts.take (k + 1))) := by
            have h1 := HY.out; have h2 := hwt.out; rw [HP.out, HS.out] at h2; show _ = _; omega
          have hr3 : r + r2 ≤ 1048577 := by have := HU.out; have := hsl.out; have := hsd.out; have := hss.out; omega
          have hs3 : s + s2 ≤ 1048577 := by have := HV.out; have := hwl.out; have := hwd.out; have := hws.out; omega
          go_wp2_with fail
          go_roundw
          case rel => exact ⟨k + 1, r + r2, s + s2, by omega, by go_num, by go_num, by go_num, hr3, hs3, HU, HV, hb.trans (hb3.mono hb.size)⟩
          case measure => simp [intOf]; omega
        · have s4 : (t.op == 4) = false := by simp [o4]
          by_cases o7 : t.op = 7
          · have s7 : (t.op == 7) = true := by simp [o7]
            by_cases hk0 : k = 0
            · have HP : Hid (polar t.op false (0 + k) = true) := polar_7 o7 (by omega)
              have sk : ((k : Int) == 0) = true := by rw [beq_iff_eq]; omega
              have HK := hid hk0
              clear hk0 o4 o7
              go_wp2_with fail
              have hbx : Below wr.heap.size wr (wr.alloc (.cells #[.int .i64 t.parts[k].op, .string t.parts[k].atom.name, .slice p t.parts[k].atom.args.length pc, .string t.parts[k].v, .slice y t.parts[k].parts.length yc] 61)) := (Below.refl _ _).alloc (Nat.le_refl _) _
              refine (hmem true (Fm.at_keep (Keeps.all hbx) qx) hbm).mono ?_
              rintro e w2 ⟨_, rfl, hb2, rfl⟩
              have hb3 := hbx.trans (hb2.mono hbx.size)
              clear hbx hb2
              have hr2 := HSM.out true
              have hs2 := HWM.out true
              obtain ⟨r2, HR⟩ : ∃ r2, Hid (t.parts[k].strong true = r2) := ⟨_, hid rfl⟩
              obtain ⟨s2, HS⟩ : ∃ s2, Hid (t.parts[k].weak true = s2) := ⟨_, hid rfl⟩
              rw [HR.out, HS.out]
              rw [HR.out] at hr2
              rw [HS.out] at hs2
              have HU : Hid (r + r2 = strongQ t.op false + Fm.strongs t.op false 0 (t.parts.take (k + 1))) := by
                have h1 := HX.out; have h2 := hst.out; rw [HP.out, HR.out] at h2; show _ = _; omega
              have HV : Hid (s + s2 = weakQ t.op false + Fm.weaks t.op false 0 (t.parts.take (k + 1))) := by
                have h1 := HY.out; have h2 := hwt.out; rw [HP.out, HS.out] at h2; show _ = _; omega
              have hr3 : r + r2 ≤ 1048577 := by have := HU.out; have := hsl.out; have := hsd.out; have := hss.out; omega
              have hs3 : s + s2 ≤ 1048577 := by have := HV.out; have := hwl.out; have := hwd.out; have := hws.out; omega
              go_wp2_with fail
              go_roundw
              case rel => exact ⟨k + 1, r + r2, s + s2, by omega, by go_num, by go_num, by go_num, hr3, hs3, HU, HV, hb.trans (hb3.mono hb.size)⟩
              case measure => simp [intOf]; omega
            · have HP : Hid (polar t.op false (0 + k) = false) := polar_n o4 (by rintro ⟨_, q⟩; omega)
              have sk : ((k : Int) == 0) = false := by rw [beq_eq_false_iff_ne]; omega
              clear hk0 o4 o7
              go_wp2_with fail
              have hbx : Below wr.heap.size wr (wr.alloc (.cells #[.int .i64 t.parts[k].op, .string t.parts[k].atom.name, .slice p t.parts[k].atom.args.length pc, .string t.parts[k].v, .slice y t.parts[k].parts.length yc] 61)) := (Below.refl _ _).alloc (Nat.le_refl _) _
              refine (hmem false (Fm.at_keep (Keeps.all hbx) qx) hbm).mono ?_
              rintro e w2 ⟨_, rfl, hb2, rfl⟩
              have hb3 := hbx.trans (hb2.mono hbx.size)
              clear hbx hb2
              have hr2 := HSM.out false
              have hs2 := HWM.out false
              obtain ⟨r2, HR⟩ : ∃ r2, Hid (t.parts[k].strong false = r2) := ⟨_, hid rfl⟩
              obtain ⟨s2, HS⟩ : ∃ s2, Hid (t.parts[k].weak false = s2) := ⟨_, hid rfl⟩
              rw [HR.out, HS.out]
              rw [HR.out] at hr2
              rw [HS.out] at hs2
              have HU : Hid (r + r2 = strongQ t.op false + Fm.strongs t.op false 0 (t.parts.take (k + 1))) := by
                have h1 := HX.out; have h2 := hst.out; rw [HP.out, HR.out] at h2; show _ = _; omega
              have HV : Hid (s + s2 = weakQ t.op false + Fm.weaks t.op false 0 (t.parts.take (k + 1))) := by
                have h1 := HY.out; have h2 := hwt.out; rw [HP.out, HS.out] at h2; show _ = _; omega
              have hr3 : r + r2 ≤ 1048577 := by have := HU.out; have := hsl.out; have := hsd.out; have := hss.out; omega
              have hs3 : s + s2 ≤ 1048577 := by have := HV.out; have := hwl.out; have := hwd.out; have := hws.out; omega
              go_wp2_with fail
              go_roundw
              case rel => exact ⟨k + 1, r + r2, s + s2, by omega, by go_num, by go_num, by go_num, hr3, hs3, HU, HV, hb.trans (hb3.mono hb.size)⟩
              case measure => simp [intOf]; omega
          · have HP : Hid (polar t.op false (0 + k) = false) := polar_n o4 (by rintro ⟨q, _⟩; exact o7 q)
            have s7 : (t.op == 7) = false := by simp [o7]
            clear o4 o7
            go_wp2_with fail
            have hbx : Below wr.heap.size wr (wr.alloc (.cells #[.int .i64 t.parts[k].op, .string t.parts[k].atom.name, .slice p t.parts[k].atom.args.length pc, .string t.parts[k].v, .slice y t.parts[k].parts.length yc] 61)) := (Below.refl _ _).alloc (Nat.le_refl _) _
            refine (hmem false (Fm.at_keep (Keeps.all hbx) qx) hbm).mono ?_
            rintro e w2 ⟨_, rfl, hb2, rfl⟩
            have hb3 := hbx.trans (hb2.mono hbx.size)
            clear hbx hb2
            have hr2 := HSM.out false
            have hs2 := HWM.out false
            obtain ⟨r2, HR⟩ : ∃ r2, Hid (t.parts[k].strong false = r2) := ⟨_, hid rfl⟩
            obtain ⟨s2, HS⟩ : ∃ s2, Hid (t.parts[k].weak false = s2) := ⟨_, hid rfl⟩
            rw [HR.out, HS.out]
            rw [HR.out] at hr2
            rw [HS.out] at hs2
            have HU : Hid (r + r2 = strongQ t.op false + Fm.strongs t.op false 0 (t.parts.take (k + 1))) := by
              have h1 := HX.out; have h2 := hst.out; rw [HP.out, HR.out] at h2; show _ = _; omega
            have HV : Hid (s + s2 = weakQ t.op false + Fm.weaks t.op false 0 (t.parts.take (k + 1))) := by
              have h1 := HY.out; have h2 := hwt.out; rw [HP.out, HS.out] at h2; show _ = _; omega
            have hr3 : r + r2 ≤ 1048577 := by have := HU.out; have := hsl.out; have := hsd.out; have := hss.out; omega
            have hs3 : s + s2 ≤ 1048577 := by have := HV.out; have := hwl.out; have := hwd.out; have := hws.out; omega
            go_wp2_with fail
            go_roundw
            case rel => exact ⟨k + 1, r + r2, s + s2, by omega, by go_num, by go_num, by go_num, hr3, hs3, HU, HV, hb.trans (hb3.mono hb.size)⟩
            case measure => simp [intOf]; omega
      · obtain rfl : k = t.parts.length := by omega
        have HU : Hid (r = t.strong false) := by rw [Hid, hsd.out]; have := HX.out; rwa [List.take_length] at this
        have HV : Hid (s = t.weak false) := by rw [Hid, hwd.out]; have := HY.out; rwa [List.take_length] at this
        go_wp2_with fail
        go_ret2
        exact Gives.mk (by rw [← HU.out, ← HV.out]; rfl) hWr
theorem countQuantifiers_any (t : Fm) : CountIs 95 t := Fm.ind (P := CountIs 95) (fun o a v ps h => countQuantifiers_of (.node o a v ps) h) t

def Fm.strongR (t : Fm) : Nat := if t.valid then t.strong true else 0
def Fm.weakR (t : Fm) : Nat := if t.valid then t.weak true else 0
set_option maxHeartbeats 1000000 in
theorem spec_CountQuantifiers {t : Fm} {S : Nat → Prop} {c0 c1 c2 c3 c4 : Value} {w : World} (hT : Fm.at S w c0 c1 c2 c3 c4 t) (hbk : t.bulk ≤ 1048576) : Calls Try.prog 50 #[.agg #[c0, c1, c2, c3, c4]] w (Gives w (.tuple #[.int .i64 t.strongR, .int .i64 t.weakR, .bool t.valid])) := by
  by_cases h : t.valid = true
  · have HS : Hid (t.strong true = t.strongR) := by rw [Hid, Fm.strongR, if_pos h]
    have HW : Hid (t.weak true = t.weakR) := by rw [Hid, Fm.weakR, if_pos h]
    have HE := hid h
    obtain ⟨rfl, rfl, ⟨a, cap, rfl⟩, rfl, a2, cap2, rfl⟩ := Fm.at_form hT
    have hW : Below w.heap.size w (w.alloc (.cells #[.int .i64 t.op, .string t.atom.name, .slice a t.atom.args.length cap, .string t.v, .slice a2 t.parts.length cap2] 61)) := (Below.refl _ _).alloc (Nat.le_refl _) _
    have bT : Box (w.alloc (.cells #[.int .i64 t.op, .string t.atom.name, .slice a t.atom.args.length cap, .string t.v, .slice a2 t.parts.length cap2] 61)) w.heap.size [.int .i64 t.op, .string t.atom.name, .slice a t.atom.args.length cap, .string t.v, .slice a2 t.parts.length cap2] := Box.new w _ _
    replace hT := Fm.at_keep (Keeps.all hW) hT
    go_enter Try.func50, Try.ntmps50
    go_wp2_with fail
    generalize (w.alloc (.cells #[.int .i64 t.op, .string t.atom.name, .slice a t.atom.args.length cap, .string t.v, .slice a2 t.parts.length cap2] 61)) = w0 at *
    refine (l8Good_any t hT hbk).mono ?_
    rintro e w1 ⟨_, rfl, hb, rfl⟩
    replace hW := hW.trans (hb.mono hW.size)
    replace bT := bT.keep hb
    replace hT := Fm.at_keep (Keeps.all hb) hT
    clear hb
    rw [h]
    have eT0 := bT.c0
    have eT1 := bT.c1
    have eT2 := bT.c2
    have eT3 := bT.c3
    have eT4 := bT.c4
    have lT := bT.lt
    go_wp2_with fail
    clear eT0 eT1 eT2 eT3 eT4 lT
    clear h
    refine (l8Count_any t true hT hbk).mono ?_
    rintro e w1 ⟨_, rfl, hb, rfl⟩
    replace hW := hW.trans (hb.mono hW.size)
    replace bT := bT.keep hb
    replace hT := Fm.at_keep (Keeps.all hb) hT
    clear hb
    have eT0 := bT.c0
    have eT1 := bT.c1
    have eT2 := bT.c2
    have eT3 := bT.c3
    have eT4 := bT.c4
    have lT := bT.lt
    go_wp2_with fail
    clear eT0 eT1 eT2 eT3 eT4 lT
    refine bodyPost_ret (v := .tuple #[.int .i64 (t.strong true), .int .i64 (t.weak true), .bool true]) (by simp [results, Try.results50, go_sem]) rfl ?_
    exact Gives.mk (by rw [HE.out, ← HS.out, ← HW.out]) hW
  · replace h : t.valid = false := by simpa using h
    have HS : Hid (t.strongR = 0) := by simp [Hid, Fm.strongR, h]
    have HW : Hid (t.weakR = 0) := by simp [Hid, Fm.weakR, h]
    have HE := hid h
    obtain ⟨rfl, rfl, ⟨a, cap, rfl⟩, rfl, a2, cap2, rfl⟩ := Fm.at_form hT
    have hW : Below w.heap.size w (w.alloc (.cells #[.int .i64 t.op, .string t.atom.name, .slice a t.atom.args.length cap, .string t.v, .slice a2 t.parts.length cap2] 61)) := (Below.refl _ _).alloc (Nat.le_refl _) _
    have bT : Box (w.alloc (.cells #[.int .i64 t.op, .string t.atom.name, .slice a t.atom.args.length cap, .string t.v, .slice a2 t.parts.length cap2] 61)) w.heap.size [.int .i64 t.op, .string t.atom.name, .slice a t.atom.args.length cap, .string t.v, .slice a2 t.parts.length cap2] := Box.new w _ _
    replace hT := Fm.at_keep (Keeps.all hW) hT
    go_enter Try.func50, Try.ntmps50
    go_wp2_with fail
    generalize (w.alloc (.cells #[.int .i64 t.op, .string t.atom.name, .slice a t.atom.args.length cap, .string t.v, .slice a2 t.parts.length cap2] 61)) = w0 at *
    refine (l8Good_any t hT hbk).mono ?_
    rintro e w1 ⟨_, rfl, hb, rfl⟩
    replace hW := hW.trans (hb.mono hW.size)
    replace bT := bT.keep hb
    replace hT := Fm.at_keep (Keeps.all hb) hT
    clear hb
    rw [h]
    have eT0 := bT.c0
    have eT1 := bT.c1
    have eT2 := bT.c2
    have eT3 := bT.c3
    have eT4 := bT.c4
    have lT := bT.lt
    go_wp2_with fail
    clear eT0 eT1 eT2 eT3 eT4 lT
    refine bodyPost_ret (v := .tuple #[.int .i64 0, .int .i64 0, .bool false]) (by simp [results, Try.results50, go_sem]) rfl ?_
    exact Gives.mk (by rw [HE.out, HS.out, HW.out]; rfl) hW
set_option maxHeartbeats 1000000 in
theorem impl_CountQuantifiers {t : Fm} {S : Nat → Prop} {c0 c1 c2 c3 c4 : Value} {w : World} (hT : Fm.at S w c0 c1 c2 c3 c4 t) (hbk : t.bulk ≤ 1048576) : Calls Try.prog 51 #[.agg #[c0, c1, c2, c3, c4]] w (Gives w (.tuple #[.int .i64 t.strongR, .int .i64 t.weakR, .bool t.valid])) := by
  by_cases h : t.valid = true
  · have HS : Hid (t.strong true = t.strongR) := by rw [Hid, Fm.strongR, if_pos h]
    have HW : Hid (t.weak true = t.weakR) := by rw [Hid, Fm.weakR, if_pos h]
    have HE := hid h
    obtain ⟨rfl, rfl, ⟨a, cap, rfl⟩, rfl, a2, cap2, rfl⟩ := Fm.at_form hT
    have hW : Below w.heap.size w (w.alloc (.cells #[.int .i64 t.op, .string t.atom.name, .slice a t.atom.args.length cap, .string t.v, .slice a2 t.parts.length cap2] 61)) := (Below.refl _ _).alloc (Nat.le_refl _) _
    have bT : Box (w.alloc (.cells #[.int .i64 t.op, .string t.atom.name, .slice a t.atom.args.length cap, .string t.v, .slice a2 t.parts.length cap2] 61)) w.heap.size [.int .i64 t.op, .string t.atom.name, .slice a t.atom.args.length cap, .string t.v, .slice a2 t.parts.length cap2] := Box.new w _ _
    replace hT := Fm.at_keep (Keeps.all hW) hT
    go_enter Try.func51, Try.ntmps51
    go_wp2_with fail
    generalize (w.alloc (.cells #[.int .i64 t.op, .string t.atom.name, .slice a t.atom.args.length cap, .string t.v, .slice a2 t.parts.length cap2] 61)) = w0 at *
    refine (impl_IsValidFormula hT hbk).mono ?_
    rintro e w1 ⟨_, rfl, hb, rfl⟩
    replace hW := hW.trans (hb.mono hW.size)
    replace bT := bT.keep hb
    replace hT := Fm.at_keep (Keeps.all hb) hT
    clear hb
    rw [h]
    have eT0 := bT.c0
    have eT1 := bT.c1
    have eT2 := bT.c2
    have eT3 := bT.c3
    have eT4 := bT.c4
    have lT := bT.lt
    go_wp2_with fail
    clear eT0 eT1 eT2 eT3 eT4 lT
    clear h
    refine (countQuantifiers_any t true hT hbk).mono ?_
    rintro e w1 ⟨_, rfl, hb, rfl⟩
    replace hW := hW.trans (hb.mono hW.size)
    replace bT := bT.keep hb
    replace hT := Fm.at_keep (Keeps.all hb) hT
    clear hb
    have eT0 := bT.c0
    have eT1 := bT.c1
    have eT2 := bT.c2
    have eT3 := bT.c3
    have eT4 := bT.c4
    have lT := bT.lt
    go_wp2_with fail
    clear eT0 eT1 eT2 eT3 eT4 lT
    refine bodyPost_ret (v := .tuple #[.int .i64 (t.strong true), .int .i64 (t.weak true), .bool true]) (by simp [results, Try.results51, go_sem]) rfl ?_
    exact Gives.mk (by rw [HE.out, ← HS.out, ← HW.out]) hW
  · replace h : t.valid = false := by simpa using h
    have HS : Hid (t.strongR = 0) := by simp [Hid, Fm.strongR, h]
    have HW : Hid (t.weakR = 0) := by simp [Hid, Fm.weakR, h]
    have HE := hid h
    obtain ⟨rfl, rfl, ⟨a, cap, rfl⟩, rfl, a2, cap2, rfl⟩ := Fm.at_form hT
    have hW : Below w.heap.size w (w.alloc (.cells #[.int .i64 t.op, .string t.atom.name, .slice a t.atom.args.length cap, .string t.v, .slice a2 t.parts.length cap2] 61)) := (Below.refl _ _).alloc (Nat.le_refl _) _
    have bT : Box (w.alloc (.cells #[.int .i64 t.op, .string t.atom.name, .slice a t.atom.args.length cap, .string t.v, .slice a2 t.parts.length cap2] 61)) w.heap.size [.int .i64 t.op, .string t.atom.name, .slice a t.atom.args.length cap, .string t.v, .slice a2 t.parts.length cap2] := Box.new w _ _
    replace hT := Fm.at_keep (Keeps.all hW) hT
    go_enter Try.func51, Try.ntmps51
    go_wp2_with fail
    generalize (w.alloc (.cells #[.int .i64 t.op, .string t.atom.name, .slice a t.atom.args.length cap, .string t.v, .slice a2 t.parts.length cap2] 61)) = w0 at *
    refine (impl_IsValidFormula hT hbk).mono ?_
    rintro e w1 ⟨_, rfl, hb, rfl⟩
    replace hW := hW.trans (hb.mono hW.size)
    replace bT := bT.keep hb
    replace hT := Fm.at_keep (Keeps.all hb) hT
    clear hb
    rw [h]
    have eT0 := bT.c0
    have eT1 := bT.c1
    have eT2 := bT.c2
    have eT3 := bT.c3
    have eT4 := bT.c4
    have lT := bT.lt
    go_wp2_with fail
    clear eT0 eT1 eT2 eT3 eT4 lT
    refine bodyPost_ret (v := .tuple #[.int .i64 0, .int .i64 0, .bool false]) (by simp [results, Try.results51, go_sem]) rfl ?_
    exact Gives.mk (by rw [HE.out, HS.out, HW.out]; rfl) hW
end Go.Proofs.Ytiifibmahomdhaa
