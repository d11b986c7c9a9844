/- The program seeks a pair of terms. -/
import Derived.Test.YtooocakkjdhfiaaDoorGq
import Derived.Test.YtooocakkjdhfiaaDoorSame
import Derived.Test.YtooocakkjdhfiaaDoorHw
namespace Go.Proofs.YtooocakkjdhfiaaDoor
set_option maxRecDepth 100000
open Go.RowKit

/-- where the pair stands, or -1 -/
def idxI (l : List Pr) (t u : Tm) : Int := if idxP l t u < l.length then (idxP l t u : Int) else -1
theorem idxI_at {l : List Pr} {t u : Tm} {k : Nat} (hk : k < l.length) (h : idxP l t u = k) : idxI l t u = k := by rw [idxI, h, if_pos hk]
theorem idxI_no {l : List Pr} {t u : Tm} (h : idxP l t u = l.length) : idxI l t u = -1 := by rw [idxI, h, if_neg (by omega)]
set_option maxHeartbeats 1000000 in
theorem pairEq_any {x : Pr} {t u : Tm} {S : Nat → Prop} {c0 c1 d0 d1 e0 e1 f0 f1 : Value} {A A2 : Nat} {w : World} (hx : Tm.at S w c0 c1 x.1) (hy : Tm.at S w d0 d1 x.2) (bA : Box w A [e0, e1]) (bB : Box w A2 [f0, f1]) (ht : Tm.at S w e0 e1 t) (hu : Tm.at S w f0 f1 u) :
    Calls Tryd.prog 29 #[.agg #[c0, c1, d0, d1], .pointer (some ⟨A, 0, none⟩), .pointer (some ⟨A2, 0, none⟩)] w (Gives w (.bool (eqP x t u))) := by
  obtain ⟨rfl, -, xa, xc, rfl⟩ := Tm.at_form hx
  obtain ⟨rfl, -, ya, yc, rfl⟩ := Tm.at_form hy
  obtain ⟨rfl, -, ta, tc, rfl⟩ := Tm.at_form ht
  obtain ⟨rfl, -, ua, uc, rfl⟩ := Tm.at_form hu
  have hW : Below w.heap.size w (w.alloc (.cells #[.string x.1.name, .slice xa x.1.args.length xc, .string x.2.name, .slice ya x.2.args.length yc] 52)) := (Below.refl _ _).alloc (Nat.le_refl _) _
  have bX : Box (w.alloc (.cells #[.string x.1.name, .slice xa x.1.args.length xc, .string x.2.name, .slice ya x.2.args.length yc] 52)) w.heap.size [.string x.1.name, .slice xa x.1.args.length xc, .string x.2.name, .slice ya x.2.args.length yc] := Box.new _ _ _
  have HX := hid (Tm.at_keep (Keeps.all hW) hx)
  have HY := hid (Tm.at_keep (Keeps.all hW) hy)
  have HT := hid (Tm.at_keep (Keeps.all hW) ht)
  have HU := hid (Tm.at_keep (Keeps.all hW) hu)
  replace bA := bA.keep hW
  replace bB := bB.keep hW
  clear hx hy ht hu
  have h1 := equalTerms_any x.1 t
  have h2 := equalTerms_any x.2 u
  unfold Tells at h1 h2
  obtain ⟨E1, HE1⟩ : ∃ E1, Hid (Tm.eqb x.1 t = E1) := ⟨_, hid rfl⟩
  obtain ⟨E2, HE2⟩ : ∃ E2, Hid (Tm.eqb x.2 u = E2) := ⟨_, hid rfl⟩
  rw [HE1.out] at h1
  rw [HE2.out] at h2
  have HE := hid (eqP_of HE1.out HE2.out)
  rw [HE.out]
  have H1 := hid h1
  have H2 := hid h2
  clear h1 h2
  have x0 := bX.c0
  have x1 := bX.c1
  have x2 := bX.c2
  have x3 : (w.alloc (.cells #[.string x.1.name, .slice xa x.1.args.length xc, .string x.2.name, .slice ya x.2.args.length yc] 52)).cell? ⟨w.heap.size, 2 + 1, none⟩ = some (.slice ya x.2.args.length yc) := bX.cell 3 (by simp)
  have a0 := bA.c0
  have a1 := bA.c1
  have g0 := bB.c0
  have g1 := bB.c1
  go_enter Tryd.func29, Tryd.ntmps29
  go_wp2_with fail
  clear x0 x1 x2 x3 a0 a1 g0 g1
  generalize (w.alloc (.cells #[.string x.1.name, .slice xa x.1.args.length xc, .string x.2.name, .slice ya x.2.args.length yc] 52)) = w0 at *
  refine (H1.out _ _ _ _ _ _ HX.out HT.out).mono ?_
  rintro e w1 ⟨rfl, hb⟩
  replace hW := hW.trans (hb.mono hW.size)
  replace bX := bX.keep hb
  replace bA := bA.keep hb
  replace bB := bB.keep hb
  replace HY := hid (Tm.at_keep (Keeps.all hb) HY.out)
  replace HU := hid (Tm.at_keep (Keeps.all hb) HU.out)
  clear hb
  cases E1 with
  | true =>
    have x2 := bX.c2
    have x3 : w1.cell? ⟨w.heap.size, 2 + 1, none⟩ = some (.slice ya x.2.args.length yc) := bX.cell 3 (by simp)
    have g0 := bB.c0
    have g1 := bB.c1
    go_wp2_with fail
    refine (H2.out _ _ _ _ _ _ HY.out HU.out).mono ?_
    rintro e w2 ⟨rfl, hb⟩
    replace hW := hW.trans (hb.mono hW.size)
    clear x2 x3 g0 g1
    go_wp2_with fail
    go_ret
    exact Gives.mk rfl hW
  | false =>
    go_wp2_with fail
    go_ret
    exact Gives.mk rfl hW
set_option maxHeartbeats 1000000 in
theorem indexPair_any {l : List Pr} {t u : Tm} {S S2 : Nat → Prop} {v e0 e1 f0 f1 : Value} {A A2 : Nat} {w : World} (hs : D.rd S2 w v (slOf prCs l)) (bA : Box w A [e0, e1]) (bB : Box w A2 [f0, f1]) (ht : Tm.at S w e0 e1 t) (hu : Tm.at S w f0 f1 u) :
    Calls Tryd.prog 28 #[v, .func (.func 29) #[] #[.pointer (some ⟨A, 0, none⟩), .pointer (some ⟨A2, 0, none⟩)]] w (Gives w (.int .i64 (idxI l t u))) := by
  obtain ⟨a, cap, rfl, hlen, hcap⟩ := slOf_form hs
  unfold big at hlen
  have HT := hid (Tm.at_all ht)
  have HU := hid (Tm.at_all hu)
  clear ht hu
  go_enter Tryd.func28, Tryd.ntmps28
  go_wp2_with fail
  go_loopw [5, 8] (fun _ i wr => ∃ k : Nat, k ≤ l.length ∧ i = .int .i64 k ∧ Hid (∀ j (h : j < l.length), j < k → eqP l[j] t u = false) ∧ Below w.heap.size w wr) (fun _ i _ => l.length - (intOf i).toNat)
  case atStart => exact ⟨0, Nat.zero_le _, rfl, fun j h h' => absurd h' (by omega), Below.refl _ _⟩
  case round =>
    obtain ⟨k, hk, rfl, HX, hb⟩ := hrel
    by_cases hlt : k < l.length
    · have hne : l ≠ [] := by intro e; subst e; simp at hlt
      obtain ⟨b, off, rfl, hS, hbl, hrr⟩ := pr_get hs hne
      obtain ⟨c0, c1, d0, d1, q0, q1, q2, q3, qx, qy⟩ := hrr k hlt
      have hq := pairEq_any (x := l[k]) (Tm.at_all (Tm.at_keep (Keeps.all hb) qx)) (Tm.at_all (Tm.at_keep (Keeps.all hb) qy)) (bA.keep hb) (bB.keep hb) (Tm.at_keep (Keeps.all hb) HT.out) (Tm.at_keep (Keeps.all hb) HU.out)
      obtain ⟨rfl, -, xa, xc, rfl⟩ := Tm.at_form qx
      obtain ⟨rfl, -, ya, yc, rfl⟩ := Tm.at_form qy
      replace q0 := (hb.cell (p := ⟨b, off + k * 4, none⟩) hbl).trans q0
      replace q1 := (hb.cell (p := ⟨b, off + k * 4 + 1, none⟩) hbl).trans q1
      replace q2 := (hb.cell (p := ⟨b, off + k * 4 + 2, none⟩) hbl).trans q2
      replace q3 := (hb.cell (p := ⟨b, off + k * 4 + 3, none⟩) hbl).trans q3
      have HQ := hid hq
      clear hrr qx qy hs hq
      go_wp2_with fail
      refine HQ.out.mono ?_
      rintro e w2 ⟨_, rfl, hb2, rfl⟩
      have hb3 := hb.trans (hb2.mono hb.size)
      by_cases hp : eqP l[k] t u = true
      · have HV : Hid (idxI l t u = (k : Int)) := idxI_at hlt (idxP_at hk HX.out (fun _ => hp))
        rw [hp]
        clear hp
        go_wp2_with fail
        go_ret
        exact Gives.mk (by rw [HV.out]; rfl) hb3
      · replace hp : eqP l[k] t u = false := by simpa using hp
        have HZ : Hid (∀ j (h : j < l.length), j < k + 1 → eqP l[j] t u = false) := fun j h h' => by
          by_cases hjk : j < k
          · exact HX.out j h hjk
          · obtain rfl : j = k := by omega
            exact hp
        rw [hp]
        clear hp
        go_wp2_with fail
        go_roundw
        case rel => exact ⟨k + 1, by omega, by go_num, HZ, hb3⟩
        case measure => simp [intOf]; omega
    · obtain rfl : k = l.length := by omega
      have HV : Hid (idxI l t u = -1) := idxI_no (idxP_end HX.out)
      go_wp2_with fail
      go_ret
      exact Gives.mk (by rw [HV.out]; rfl) hb
end Go.Proofs.YtooocakkjdhfiaaDoor
