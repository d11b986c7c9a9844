/- Lists of lists of ints: compared, marked, held. -/
import Derived.Test.YtoekonkpephocaaM3
import Derived.Test.YtoekonkpephocaaHw
namespace Go.Proofs.Ytoekonkpephocaa
set_option maxRecDepth 100000
open Go.RowKit

def issE (p : List Int) : List D := [slOf intE p]
theorem issE_wide : Wide issE 1 := fun _ => rfl
theorem iss_get {S : Nat → Prop} {w : World} {a : Option Addr} {n cap : Nat} {ps : List (List Int)} (h : D.rd S w (.slice a n cap) (slOf issE ps)) (hne : ps ≠ []) : ∃ b off, a = some ⟨b, off, none⟩ ∧ S b ∧ b < w.heap.size ∧ ∀ k (hk : k < ps.length), ∃ v, w.cell? ⟨b, off + k, none⟩ = some v ∧ D.rd S w v (slOf intE ps[k]) := by
  obtain ⟨b, off, e, h1, h2, h3⟩ := slOf_get issE_wide (by decide) h hne
  refine ⟨b, off, e, h1, h2, fun k hk => ?_⟩
  obtain ⟨v, q0, q1⟩ := h3 k hk 0 (slOf intE ps[k]) rfl
  exact ⟨v, by simpa using q0, q1⟩
set_option maxHeartbeats 1000000 in
theorem eqIntSS_refl {ps : List (List Int)} {S : Nat → Prop} {v u : Value} {w : World} (hr : D.rd S w v (slOf issE ps)) (hr' : D.rd S w u (slOf issE ps)) : Calls Try.prog 22 #[v, u] w (Gives w (.bool true)) := by
  obtain ⟨a, cap, rfl, hlen, hcap⟩ := slOf_form hr
  obtain ⟨a', cap', rfl, hlen', hcap'⟩ := slOf_form hr'
  unfold big at hlen
  have hq1 : ((ps.length : Int) != ps.length) = false := by simp
  go_enter Try.func22, Try.ntmps22
  go_wp2_with fail
  go_loopw [5] (fun i wr => ∃ k : Nat, k ≤ ps.length ∧ i = .int .i64 k ∧ Below w.heap.size w wr) (fun i _ => ps.length - (intOf i).toNat)
  case atStart => exact ⟨0, Nat.zero_le _, rfl, Below.refl _ _⟩
  case round =>
    obtain ⟨k, hk, rfl, hb⟩ := hrel
    by_cases hlt : k < ps.length
    · have hne : ps ≠ [] := by intro e; subst e; simp at hlt
      obtain ⟨b, off, rfl, -, hbl, hrr⟩ := iss_get (D.rd_keep (Keeps.all hb) _ _ hr) hne
      obtain ⟨b', off', rfl, -, hbl', hrr'⟩ := iss_get (D.rd_keep (Keeps.all hb) _ _ hr') hne
      obtain ⟨x, q0, q1⟩ := hrr k hlt
      obtain ⟨y, r0, r1⟩ := hrr' k hlt
      obtain ⟨xa, xc, rfl, -, -⟩ := slOf_form q1
      obtain ⟨ya, yc, rfl, -, -⟩ := slOf_form r1
      clear hrr hrr'
      go_wp2_with fail
      refine wp_region_B [fun v _ => v = .slice (some ⟨b, off, none⟩) ps.length cap, fun v _ => v = .int .i64 k, fun v _ => v = .pointer (some ⟨b, off + k, none⟩), fun v _ => v = .slice xa ps[k].length xc, fun v _ => v = .slice (some ⟨b', off', none⟩) ps.length cap', fun v _ => v = .int .i64 k, fun v _ => v = .pointer (some ⟨b', off' + k, none⟩), fun v _ => v = .slice ya ps[k].length yc, fun v _ => v = .bool true, fun v _ => v = .bool false] _ (fun V => by simp [putAll, Act.put]; rfl) (by kernel_rfl) (by decide) (by simp) (by kernel_rfl) ?_ ?_ ?_
      · intro F hF
        simp only [List.mem_cons, List.not_mem_nil, or_false] at hF
        rcases hF with rfl | rfl | rfl | rfl | rfl | rfl | rfl | rfl | rfl | rfl
        · exact stable_eq
        · exact stable_eq
        · exact stable_eq
        · exact stable_eq
        · exact stable_eq
        · exact stable_eq
        · exact stable_eq
        · exact stable_eq
        · exact stable_eq
        · exact stable_eq
      · refine ⟨?_, ?_, ?_, ?_, ?_, ?_, ?_, ?_, ?_, ?_, trivial⟩
        · intro V w1 hbR _
          unfold Does
          go_simp
          exact ⟨Below.refl _ _, rfl⟩
        · intro V w1 hbR _
          unfold Does
          go_simp
          exact ⟨Below.refl _ _, rfl⟩
        · intro V w1 hbR ⟨f0, f1, _⟩
          replace f0 : V 0 = .slice (some ⟨b, off, none⟩) ps.length cap := f0
          replace f1 : V 1 = .int .i64 k := f1
          unfold Does
          go_simp
          exact ⟨Below.refl _ _, rfl⟩
        · intro V w1 hbR ⟨f2, _⟩
          replace f2 : V 2 = .pointer (some ⟨b, off + k, none⟩) := f2
          obtain ⟨hc, hf⟩ := bcell hbR
          try simp only [World.size_alloc, World.size_setCell] at hc hf
          unfold Does
          go_simp
          exact ⟨Below.refl _ _, rfl⟩
        · intro V w1 hbR _
          unfold Does
          go_simp
          exact ⟨Below.refl _ _, rfl⟩
        · intro V w1 hbR _
          unfold Does
          go_simp
          exact ⟨Below.refl _ _, rfl⟩
        · intro V w1 hbR ⟨f4, f5, _⟩
          replace f4 : V 4 = .slice (some ⟨b', off', none⟩) ps.length cap' := f4
          replace f5 : V 5 = .int .i64 k := f5
          unfold Does
          go_simp
          exact ⟨Below.refl _ _, rfl⟩
        · intro V w1 hbR ⟨f6, _⟩
          replace f6 : V 6 = .pointer (some ⟨b', off' + k, none⟩) := f6
          obtain ⟨hc, hf⟩ := bcell hbR
          try simp only [World.size_alloc, World.size_setCell] at hc hf
          unfold Does
          go_simp
          exact ⟨Below.refl _ _, rfl⟩
        · intro V w1 hbR ⟨f3, f7, _⟩
          replace f3 : V 3 = .slice xa ps[k].length xc := f3
          replace f7 : V 7 = .slice ya ps[k].length yc := f7
          obtain ⟨hc, hf⟩ := bcell hbR
          try simp only [World.size_alloc, World.size_setCell] at hc hf
          unfold Does
          go_simp
          exact eqIntS_refl (D.rd_keep (Keeps.all hbR) _ _ q1) (D.rd_keep (Keeps.all hbR) _ _ r1)
        · intro V w1 hbR ⟨f8, _⟩
          replace f8 : V 8 = .bool true := f8
          unfold Does
          go_simp
          exact ⟨Below.refl _ _, rfl⟩
      intro V w3 hbR hfR
      obtain ⟨f0, f1, f2, f3, f4, f5, f6, f7, f8, f9, _⟩ := hfR
      replace f0 : V 0 = .slice (some ⟨b, off, none⟩) ps.length cap := f0
      replace f1 : V 1 = .int .i64 k := f1
      replace f2 : V 2 = .pointer (some ⟨b, off + k, none⟩) := f2
      replace f3 : V 3 = .slice xa ps[k].length xc := f3
      replace f4 : V 4 = .slice (some ⟨b', off', none⟩) ps.length cap' := f4
      replace f5 : V 5 = .int .i64 k := f5
      replace f6 : V 6 = .pointer (some ⟨b', off' + k, none⟩) := f6
      replace f7 : V 7 = .slice ya ps[k].length yc := f7
      replace f8 : V 8 = .bool true := f8
      replace f9 : V 9 = .bool false := f9
      simp only [f0, f1, f2, f3, f4, f5, f6, f7, f8, f9]
      clear f0 f1 f2 f3 f4 f5 f6 f7 f8 f9
      go_wp2_with fail
      go_roundw
      case rel => exact ⟨k + 1, by omega, by go_num, hb.trans (hbR.mono hb.size)⟩
      case measure => simp [intOf]; omega
    · obtain rfl : k = ps.length := by omega
      go_wp2_with fail
      go_ret
      exact Gives.mk rfl hb

def lens : List (List Int) → Nat
  | [] => 0
  | p :: ps => p.length + lens ps
/-- the lists' data with marks from k on -/
def m1 : List (List Int) → Nat → List D
  | [], _ => []
  | p :: ps, k => slOf intE (mixI p k p.length) :: m1 ps (k + p.length)
theorem m1_length : ∀ (ps : List (List Int)) (k : Nat), (m1 ps k).length = ps.length
  | [], _ => rfl
  | p :: ps, k => by rw [m1]; simp [m1_length ps]
theorem m1_snoc : ∀ (ps : List (List Int)) (p : List Int) (k : Nat), m1 (ps ++ [p]) k = m1 ps k ++ [slOf intE (mixI p (k + lens ps) p.length)]
  | [], p, k => by simp [m1, lens]
  | q :: ps, p, k => by
    rw [List.cons_append, m1, m1_snoc ps p, m1, lens, List.cons_append]
    rw [show k + q.length + lens ps = k + (q.length + lens ps) by omega]
theorem lens_take : ∀ (ps : List (List Int)) (j : Nat) (h : j < ps.length), lens (ps.take (j + 1)) = lens (ps.take j) + ps[j].length
  | [], j, h => absurd h (by simp)
  | p :: ps, 0, _ => by simp [lens]
  | p :: ps, j + 1, h => by
    have := lens_take ps j (by simpa using h)
    simp only [List.take_succ_cons, lens, List.getElem_cons_succ]
    rw [this]; omega
theorem lens_le : ∀ (ps : List (List Int)) (j : Nat), lens (ps.take j) ≤ lens ps
  | [], j => by simp
  | p :: ps, 0 => by simp [lens]
  | p :: ps, j + 1 => by
    have := lens_le ps j
    simp only [List.take_succ_cons, lens]; omega
theorem m1_get : ∀ (ps : List (List Int)) (k j : Nat) (h : j < ps.length), (m1 ps k)[j]? = some (slOf intE (mixI ps[j] (k + lens (ps.take j)) ps[j].length))
  | [], _, j, h => absurd h (by simp)
  | p :: ps, k, 0, _ => by simp [m1, lens]
  | p :: ps, k, j + 1, h => by
    have := m1_get ps (k + p.length) j (by simpa using h)
    simp only [m1, List.getElem?_cons_succ, List.take_succ_cons, lens, List.getElem_cons_succ]
    rw [this, Nat.add_assoc]
theorem flat_iss (ps : List (List Int)) : ps.flatMap issE = ps.map (slOf intE) := by
  induction ps with
  | nil => rfl
  | cons p ps ih => rw [List.flatMap_cons, ih]; rfl

set_option maxHeartbeats 2000000 in
theorem markIntSS_any (ps : List (List Int)) (k : Nat) {v : Value} {F : List Nat} {w : World} (hk : k + lens ps ≤ 1099511627776) (ho : D.own w v (slOf issE ps) F) :
    Calls Try.prog 23 #[v, .int .i64 k] w fun e w' => e = .returned (.int .i64 (k + lens ps : Nat)) ∧ Mk F w w' ∧ D.own w' v (.sl ps.length (m1 ps k)) F := by
  obtain ⟨a, cap, rfl, hlen, hcap⟩ := slOf_form (D.own_rd _ _ _ ho)
  unfold big at hlen
  go_enter Try.func23, Try.ntmps23
  go_wp2_with fail
  go_loopw [1, 5] (fun x i wr => ∃ j : Nat, j ≤ ps.length ∧ i = .int .i64 j ∧ x = .int .i64 (k + lens (ps.take j) : Nat) ∧ Hid (D.own wr (.slice a ps.length cap) (.sl ps.length (m1 (ps.take j) k ++ (ps.drop j).map (slOf intE))) F) ∧ Mk F w wr) (fun _ i _ => ps.length - (intOf i).toNat)
  case atStart => exact ⟨0, Nat.zero_le _, rfl, by simp [lens], by rw [List.take_zero, m1, List.nil_append, List.drop_zero, ← flat_iss]; exact ho, Mk.refl _ _⟩
  case round =>
    obtain ⟨j, hj, rfl, rfl, HO, hm⟩ := hrel
    by_cases hlt : j < ps.length
    · have hst := lens_take ps j hlt
      have hsl := lens_le ps (j + 1)
      obtain ⟨q, HQ⟩ : ∃ q, Hid (k + lens (ps.take j) = q) := ⟨_, hid rfl⟩
      rw [HQ.out]
      obtain ⟨A, HA⟩ : ∃ A, Hid (m1 (ps.take j) k = A) := ⟨_, hid rfl⟩
      have HAl : Hid (j = A.length) := by rw [Hid, ← HA.out, m1_length, List.length_take]; omega
      obtain ⟨R, HR⟩ : ∃ R, Hid ((ps.drop (j + 1)).map (slOf intE) = R) := ⟨_, hid rfl⟩
      have h0 := HO.out
      rw [HA.out, List.drop_eq_getElem_cons hlt, List.map_cons, HR.out] at h0
      obtain ⟨b, off, F', rfl, rfl⟩ := own_at h0 (by simp)
      obtain ⟨Fj, vj, y0, y1, hsub, hbj, hup⟩ := D.own_sub h0 (j := j) (by have := HAl.out; simp; omega)
      rw [get_mid HAl.out] at y1
      have HU := hid hup
      have hq : q + ps[j].length ≤ 1099511627776 := by have := HQ.out; omega
      have HE : Hid (q + ps[j].length = k + lens (ps.take (j + 1))) := by rw [Hid, hst, ← HQ.out]; omega
      have HRT := markIntS_any ps[j] q hq y1
      clear hup hst hsl h0
      go_wp2_with fail
      refine HRT.mono ?_
      rintro e w2 ⟨rfl, hm2, ho2⟩
      have HX := hid (HU.out w2 _ ho2 hm2.1)
      have HM2 := hid (hm.trans (hm2.mono hsub))
      have HN2 : Hid (D.own w2 (.slice (some ⟨b, off, none⟩) ps.length cap) (.sl ps.length (m1 (ps.take (j + 1)) k ++ (ps.drop (j + 1)).map (slOf intE))) (b :: F')) := by
        have h1 := HX.out
        rw [set_mid HAl.out] at h1
        rw [Hid, List.take_succ_eq_append_getElem hlt, m1_snoc, HA.out, HQ.out, HR.out]
        simpa using h1
      rw [HE.out]
      clear HRT hm2 ho2 HX
      go_wp2_with fail
      go_roundw
      case rel => exact ⟨j + 1, by omega, by go_num, rfl, HN2, HM2.out⟩
      case measure => simp [intOf]; omega
    · obtain rfl : j = ps.length := by omega
      go_wp2_with fail
      go_ret
      refine ⟨ret_i64 (by rw [List.take_length]), hm, ?_⟩
      have := HO.out
      rw [List.take_length, List.drop_length, List.map_nil, List.append_nil] at this
      exact this
set_option maxHeartbeats 2000000 in
theorem heldIntSS_any (ps : List (List Int)) (k : Nat) {S : Nat → Prop} {v : Value} {w : World} (hk : k + lens ps ≤ 1099511627776) (hr : D.rd S w v (.sl ps.length (m1 ps k))) :
    Calls Try.prog 24 #[v, .int .i64 k] w (Gives w (.int .i64 (k + lens ps : Nat))) := by
  obtain ⟨a, cap, rfl, hlen, hn4⟩ : ∃ a cap, v = .slice a ps.length cap ∧ ps.length ≤ big ∧ (m1 ps k ≠ [] → ∃ b off, a = some ⟨b, off, none⟩ ∧ S b ∧ b < w.heap.size ∧ D.rds S w b off (m1 ps k)) := by
    rw [D.rd] at hr; obtain ⟨a, cap, e, h1, _, _, h4⟩ := hr; exact ⟨a, cap, e, h1, h4⟩
  unfold big at hlen
  have H4 := hid hn4
  clear hn4
  go_enter Try.func24, Try.ntmps24
  go_wp2_with fail
  go_loopw [1, 5] (fun x i wr => ∃ j : Nat, j ≤ ps.length ∧ i = .int .i64 j ∧ x = .int .i64 (k + lens (ps.take j) : Nat) ∧ Below w.heap.size w wr) (fun _ i _ => ps.length - (intOf i).toNat)
  case atStart => exact ⟨0, Nat.zero_le _, rfl, by simp [lens], Below.refl _ _⟩
  case round =>
    obtain ⟨j, hj, rfl, rfl, hb⟩ := hrel
    by_cases hlt : j < ps.length
    · have hst := lens_take ps j hlt
      have hsl := lens_le ps (j + 1)
      obtain ⟨q, HQ⟩ : ∃ q, Hid (k + lens (ps.take j) = q) := ⟨_, hid rfl⟩
      have hq : q + ps[j].length ≤ 1099511627776 := by have := HQ.out; omega
      have HE : Hid (q + ps[j].length = k + lens (ps.take (j + 1))) := by rw [Hid, hst, ← HQ.out]; omega
      obtain ⟨b, off, rfl, -, hbl, hrds⟩ := H4.out (by intro e; have := m1_length ps k; rw [e] at this; simp at this; omega)
      obtain ⟨x, q0, q1⟩ := D.rds_get hrds (m1_get ps k j hlt)
      rw [HQ.out] at q1 ⊢
      obtain ⟨xa, xc, rfl, -, -⟩ := slOf_form q1
      rw [mixI_length] at q0 q1
      replace q0 := (hb.cell (p := ⟨b, off + j, none⟩) hbl).trans q0
      have hq2 := heldIntS_any (mixI ps[j] q ps[j].length) q (v := .slice xa ps[j].length xc) (w := wr) (by rw [mixI_length]; exact hq) (D.rd_keep (Keeps.all hb) _ _ q1) (fun i hi => mixI_get ps[j] q _ i hi (by rw [mixI_length] at hi; exact hi))
      rw [mixI_length, HE.out] at hq2
      have hn0 : ¬ ((k + lens (ps.take (j + 1)) : Nat) : Int) < 0 := by omega
      clear hst hsl hrds
      go_wp2_with fail
      refine hq2.mono ?_
      rintro e w2 ⟨_, rfl, hb2, rfl⟩
      clear hq2
      go_wp2_with fail
      go_roundw
      case rel => exact ⟨j + 1, by omega, by go_num, rfl, hb.trans (hb2.mono hb.size)⟩
      case measure => simp [intOf]; omega
    · obtain rfl : j = ps.length := by omega
      go_wp2_with fail
      go_ret
      exact Gives.mk (ret_i64 (by rw [List.take_length])) hb
end Go.Proofs.Ytoekonkpephocaa
