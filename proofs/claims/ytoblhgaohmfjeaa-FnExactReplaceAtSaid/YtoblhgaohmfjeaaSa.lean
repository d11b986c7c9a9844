/- The subterm at a position. -/
import Derived.Test.YtoblhgaohmfjeaaHw
import Derived.Test.YtoblhgaohmfjeaaSo
import Derived.Test.YtoblhgaohmfjeaaCo
import Derived.Test.YtoblhgaohmfjeaaTv
namespace Go.Proofs.Ytoblhgaohmfjeaa
set_option maxRecDepth 100000
open Go.RowKit

/-- the subterm at a position -/
def Tm.sub : Tm → List Int → Option Tm
  | t, [] => some t
  | t, k :: p => if h : 0 ≤ k ∧ k.toNat < t.args.length then Tm.sub t.args[k.toNat] p else none
def noTm : Tm := .node ByteArray.empty []
def subR (t : Tm) (p : List Int) : Tm := if t.expr = true then (t.sub p).getD noTm else noTm
def subOk (t : Tm) (p : List Int) : Bool := t.expr && (t.sub p).isSome
theorem Tm.sub_yes {t : Tm} {p : List Int} {i : Nat} {k : Nat} (hi : i < p.length) (h : p[i] = (k : Int)) (hk : k < t.args.length) : t.sub (p.drop i) = t.args[k].sub (p.drop (i + 1)) := by
  rw [List.drop_eq_getElem_cons hi, Tm.sub, h]
  rw [dif_pos ⟨by omega, by simpa using hk⟩]
  simp
theorem Tm.sub_no {t : Tm} {p : List Int} {i : Nat} (hi : i < p.length) (h : p[i] < 0 ∨ (t.args.length : Int) ≤ p[i]) : t.sub (p.drop i) = .none := by
  rw [List.drop_eq_getElem_cons hi, Tm.sub, dif_neg (by omega)]

def AtR (t : Tm) (p : List Int) (w : World) (e : Ending) (w' : World) : Prop := ∃ c1, e = .returned (.tuple #[.agg #[.string ((t.sub p).getD noTm).name, c1], .bool (t.sub p).isSome]) ∧ Below w.heap.size w w' ∧ Tm.at (fun _ => True) w' (.string ((t.sub p).getD noTm).name) c1 ((t.sub p).getD noTm)
theorem Tm.sub_bulk : ∀ (p : List Int) (t u : Tm), t.sub p = some u → u.bulk ≤ t.bulk
  | [], t, u, h => by rw [Tm.sub] at h; injection h with h; subst h; exact Nat.le_refl _
  | k :: p, t, u, h => by
    rw [Tm.sub] at h
    split at h
    · rename_i hk
      have h1 := Tm.sub_bulk p _ _ h
      have h2 := Tm.bulk_mem (List.getElem_mem hk.2)
      have h3 := Tm.args_bulk t
      omega
    · cases h
theorem noTm_at {S : Nat → Prop} {w : World} : Tm.at S w (.string ByteArray.empty) (.slice .none 0 0) noTm := by
  refine ⟨D.rd_str (by decide), ?_⟩
  rw [noTm, Tm.args, Tm.sd, D.rd]
  exact ⟨_, _, rfl, by simp, by simp, by simp, by simp [Tm.css]⟩

/-- a term that the call owns, and a bool -/
def OutT (t : Tm) (ok : Bool) (w : World) (e : Ending) (w' : World) : Prop := ∃ v F, e = .returned (.tuple #[.agg #[.string t.name, v], .bool ok]) ∧ D.own w' v (Tm.sd t.args) F ∧ (∀ x ∈ F, w.heap.size ≤ x) ∧ Below w.heap.size w w'
/-- a term that reads, and a bool -/
def RdT (t : Tm) (ok : Bool) (w : World) (e : Ending) (w' : World) : Prop := ∃ v, e = .returned (.tuple #[.agg #[.string t.name, v], .bool ok]) ∧ Tm.at (fun _ => True) w' (.string t.name) v t ∧ Below w.heap.size w w'
theorem noTm_own {w : World} : D.own w (.slice none 0 0) (Tm.sd noTm.args) [] := D.own_nil _ _

set_option maxHeartbeats 2000000 in
theorem at_any (t : Tm) (p : List Int) {S S' : Nat → Prop} {c0 c1 v : Value} {w : World} (hT : Tm.at S w c0 c1 t) (hp : D.rd S' w v (slOf intE p)) (hl : p.length ≤ 1048576) : Calls Try.prog 34 #[.agg #[c0, c1], v] w (AtR t p w) := by
  obtain ⟨rfl, hn, a, cap, rfl⟩ := Tm.at_form hT
  obtain ⟨pa, pc, rfl, hlen, hcap⟩ := slOf_form hp
  unfold big at hlen
  go_enter Try.func34, Try.ntmps34
  go_wp2_with fail
  go_loopw [10] (fun i wr => ∃ (j : Nat) (u : Tm) (a : Option Addr) (cap : Nat), j ≤ p.length ∧ i = .int .i64 j ∧ Hid (t.sub p = u.sub (p.drop j)) ∧ Tm.at S w (.string u.name) (.slice a u.args.length cap) u ∧ wr.cell? ⟨w.heap.size, 0, .none⟩ = some (.string u.name) ∧ wr.cell? ⟨w.heap.size, 1, .none⟩ = some (.slice a u.args.length cap) ∧ (∀ p, wr.frozen? ⟨w.heap.size, p, .none⟩ = false) ∧ wr.cell? ⟨w.heap.size + 1, 0, .none⟩ = some (.string ByteArray.empty) ∧ wr.cell? ⟨w.heap.size + 1, 1, .none⟩ = some (.slice .none 0 0) ∧ (∀ p, wr.frozen? ⟨w.heap.size + 1, p, .none⟩ = false) ∧ w.heap.size + 1 + 1 ≤ wr.heap.size ∧ Below w.heap.size w wr) (fun i _ => p.length - (intOf i).toNat)
  case atStart =>
    refine ⟨0, t, a, cap, Nat.zero_le _, rfl, by simp [Hid], hT, (box2 w _ _ _ _ 0).1, (box2 w _ _ _ _ 1).1, fun p => ?_, (box2 w _ _ _ _ 0).2, (box2 w _ _ _ _ 1).2, fun p => frz1 _ _ _ _ _ (by simp), by simp, ((Below.refl _ _).alloc (Nat.le_refl _) _).alloc (by simp) _⟩
    exact (World.frozen?_alloc_past _ _ p (by simp)).trans (frz1 _ _ _ _ _ rfl)
  case round =>
    obtain ⟨j, u, a, cap, hj, rfl, HX, hU, x0, x1, xf, r0, r1, rf, hz, hb⟩ := hrel
    have hu := hU.2
    obtain ⟨_, _, e, hul, -⟩ := Tm.sd_form hu
    unfold big at hul
    clear e
    have rf0 := rf 0
    have rf1 := rf 1
    have xf0 := xf 0
    have xf1 := xf 1
    by_cases hlt : j < p.length
    · have hne : p ≠ [] := by intro e; subst e; simp at hlt
      obtain ⟨pb, poff, rfl, -, hpb, hrr⟩ := ints_get hp hne
      obtain ⟨q0, qz⟩ := hrr j hlt
      replace q0 := (hb.cell (p := ⟨pb, poff + j, .none⟩) hpb).trans q0
      clear hrr
      by_cases hin : 0 ≤ p[j] ∧ p[j] < u.args.length
      · obtain ⟨k, hk⟩ : ∃ k : Nat, p[j] = (k : Int) := ⟨p[j].toNat, by omega⟩
        have hkl : k < u.args.length := by omega
        have HS := hid (Tm.sub_yes hlt hk hkl)
        have HW := hid (inB_yes (n := (k : Int)) (lo := 0) (hi := (u.args.length : Int) - 1) (by omega) (by omega))
        have hune : u.args ≠ [] := by intro e; rw [e] at hkl; simp at hkl
        obtain ⟨b, off, rfl, hS, hbl, hrr⟩ := Tm.sd_get hu hune
        obtain ⟨c0, c1, y0, y1, y2⟩ := hrr k hkl
        replace y0 := (hb.cell (p := ⟨b, off + k * 2, .none⟩) hbl).trans y0
        replace y1 := (hb.cell (p := ⟨b, off + k * 2 + 1, .none⟩) hbl).trans y1
        obtain ⟨rfl, -, a2, cap2, rfl⟩ := Tm.at_form y2
        rw [hk] at q0
        clear hin hk hrr
        go_wp2_with fail
        refine (within_any _ _ _ _).mono ?_
        rintro e w1 ⟨rfl, rfl⟩
        rw [HW.out]
        clear HW
        go_wp2_with fail
        go_roundw
        case rel =>
          refine ⟨j + 1, u.args[k], a2, cap2, by omega, by go_num, hid (HX.out.trans HS.out), y2, ?_, ?_, ?_, ?_, ?_, ?_, ?_, ?_⟩
          · rw [World.cell?_setCell_other _ _ _ _ (by intro e; injection e with _ e; omega)]; exact World.cell?_setCell_same _ _ _ x0
          · exact World.cell?_setCell_same _ _ _ (by rw [World.cell?_setCell_other _ _ _ _ (by intro e; injection e with _ e; omega)]; exact x1)
          · intro p; rw [World.frozen?_setCell, World.frozen?_setCell]; exact xf p
          · rw [World.cell?_setCell_other _ _ _ _ (by intro e; injection e with e; omega), World.cell?_setCell_other _ _ _ _ (by intro e; injection e with e; omega)]; exact r0
          · rw [World.cell?_setCell_other _ _ _ _ (by intro e; injection e with e; omega), World.cell?_setCell_other _ _ _ _ (by intro e; injection e with e; omega)]; exact r1
          · intro p; rw [World.frozen?_setCell, World.frozen?_setCell]; exact rf p
          · rw [World.size_setCell, World.size_setCell]; exact hz
          · exact (hb.setCell (Nat.le_refl _) _).setCell (Nat.le_refl _) _
        case measure => simp [intOf]; omega
      · have HS := hid (Tm.sub_no (t := u) hlt (by omega))
        have HW := hid (inB_no (n := p[j]) (lo := 0) (hi := (u.args.length : Int) - 1) (by omega))
        obtain ⟨z, Hz⟩ : ∃ z, Hid (p[j] = z) := ⟨_, hid rfl⟩
        rw [Hz.out] at q0 HW qz
        obtain ⟨qz1, qz2⟩ := qz
        have HR : Hid (t.sub p = .none) := HX.out.trans HS.out
        clear hin
        go_wp2_with fail
        refine (within_any _ _ _ _).mono ?_
        rintro e w1 ⟨rfl, rfl⟩
        rw [HW.out]
        clear HW
        go_wp2_with fail
        refine bodyPost_ret (v := .tuple #[.agg #[.string ByteArray.empty, .slice .none 0 0], .bool false]) (by simp [results, Try.results34, go_sem, r0, r1]; rfl) rfl ?_
        unfold AtR
        rw [HR.out]
        exact ⟨_, rfl, (hb.setCell (by simp) _).setCell (by simp) _, noTm_at⟩
    · obtain rfl : j = p.length := by omega
      have HR : Hid (t.sub p = some u) := by rw [Hid, HX.out, List.drop_length, Tm.sub]
      go_wp2_with fail
      refine bodyPost_ret (v := .tuple #[.agg #[.string u.name, .slice a u.args.length cap], .bool true]) (by simp [results, Try.results34, go_sem, r0, r1]) rfl ?_
      unfold AtR
      rw [HR.out]
      have hbe := (hb.setCell (p := ⟨w.heap.size + 1, 0, .none⟩) (by simp) (.string u.name)).setCell (p := ⟨w.heap.size + 1, 1, .none⟩) (by simp) (.slice a u.args.length cap)
      exact ⟨_, rfl, hbe, Tm.at_mono (fun _ _ => trivial) (Tm.at_keep (Keeps.all hbe) hU)⟩

set_option maxHeartbeats 2000000 in
theorem l2At_any (t : Tm) (p : List Int) (hbk : t.bulk ≤ 1048576) {S S' : Nat → Prop} {c0 c1 v : Value} {w : World} (hT : Tm.at S w c0 c1 t) (hp : D.rd S' w v (slOf intE p)) (hl : p.length ≤ 1048576) : Calls Try.prog 29 #[.agg #[c0, c1], v] w (OutT ((t.sub p).getD noTm) (t.sub p).isSome w) := by
  obtain ⟨rfl, hn, a, cap, rfl⟩ := Tm.at_form hT
  obtain ⟨pa, pc, rfl, hlen, hcap⟩ := slOf_form hp
  unfold big at hlen
  go_enter Try.func29, Try.ntmps29
  go_wp2_with fail
  go_loopw [6] (fun i wr => ∃ (j : Nat) (u : Tm) (a : Option Addr) (cap : Nat), j ≤ p.length ∧ i = .int .i64 j ∧ Hid (t.sub p = u.sub (p.drop j)) ∧ Tm.at S w (.string u.name) (.slice a u.args.length cap) u ∧ wr.cell? ⟨w.heap.size, 0, .none⟩ = some (.string u.name) ∧ wr.cell? ⟨w.heap.size, 1, .none⟩ = some (.slice a u.args.length cap) ∧ (∀ p, wr.frozen? ⟨w.heap.size, p, .none⟩ = false) ∧ wr.cell? ⟨w.heap.size + 1, 0, .none⟩ = some (.string ByteArray.empty) ∧ wr.cell? ⟨w.heap.size + 1, 1, .none⟩ = some (.slice .none 0 0) ∧ (∀ p, wr.frozen? ⟨w.heap.size + 1, p, .none⟩ = false) ∧ w.heap.size + 1 + 1 ≤ wr.heap.size ∧ Below w.heap.size w wr) (fun i _ => p.length - (intOf i).toNat)
  case atStart =>
    refine ⟨0, t, a, cap, Nat.zero_le _, rfl, by simp [Hid], hT, (box2 w _ _ _ _ 0).1, (box2 w _ _ _ _ 1).1, fun p => ?_, (box2 w _ _ _ _ 0).2, (box2 w _ _ _ _ 1).2, fun p => frz1 _ _ _ _ _ (by simp), by simp, ((Below.refl _ _).alloc (Nat.le_refl _) _).alloc (by simp) _⟩
    exact (World.frozen?_alloc_past _ _ p (by simp)).trans (frz1 _ _ _ _ _ rfl)
  case round =>
    obtain ⟨j, u, a, cap, hj, rfl, HX, hU, x0, x1, xf, r0, r1, rf, hz, hb⟩ := hrel
    have hu := hU.2
    obtain ⟨_, _, e, hul, -⟩ := Tm.sd_form hu
    unfold big at hul
    clear e
    have rf0 := rf 0
    have rf1 := rf 1
    have xf0 := xf 0
    have xf1 := xf 1
    by_cases hlt : j < p.length
    · have hne : p ≠ [] := by intro e; subst e; simp at hlt
      obtain ⟨pb, poff, rfl, -, hpb, hrr⟩ := ints_get hp hne
      obtain ⟨q0, qz⟩ := hrr j hlt
      replace q0 := (hb.cell (p := ⟨pb, poff + j, .none⟩) hpb).trans q0
      clear hrr
      by_cases hin : 0 ≤ p[j] ∧ p[j] < u.args.length
      · obtain ⟨k, hk⟩ : ∃ k : Nat, p[j] = (k : Int) := ⟨p[j].toNat, by omega⟩
        have hkl : k < u.args.length := by omega
        have HS := hid (Tm.sub_yes hlt hk hkl)
        have HW := hid (inB_yes (n := (k : Int)) (lo := 0) (hi := (u.args.length : Int) - 1) (by omega) (by omega))
        have hune : u.args ≠ [] := by intro e; rw [e] at hkl; simp at hkl
        obtain ⟨b, off, rfl, hS, hbl, hrr⟩ := Tm.sd_get hu hune
        obtain ⟨c0, c1, y0, y1, y2⟩ := hrr k hkl
        replace y0 := (hb.cell (p := ⟨b, off + k * 2, .none⟩) hbl).trans y0
        replace y1 := (hb.cell (p := ⟨b, off + k * 2 + 1, .none⟩) hbl).trans y1
        obtain ⟨rfl, -, a2, cap2, rfl⟩ := Tm.at_form y2
        rw [hk] at q0
        have hWb : w.heap.size < wr.heap.size := by omega
        have hpb2 : pb < wr.heap.size := by omega
        have hul1 : (u.args.length : Int) - 1 ≤ 9223372036854775807 := by omega
        have hul2 : (-9223372036854775808 : Int) ≤ (u.args.length : Int) - 1 := by omega
        clear hin hk hrr
        go_wp2_with fail
        refine wp_region_B [fun v _ => v = .slice (some ⟨pb, poff, none⟩) p.length pc, fun v _ => v = .int .i64 j, fun v _ => v = .pointer (some ⟨pb, poff + j, none⟩), fun v _ => v = .int .i64 k, fun v _ => v = .pointer (some ⟨w.heap.size, 1, none⟩), fun v _ => v = .slice (some ⟨b, off, none⟩) u.args.length cap, fun v _ => v = .int .i64 u.args.length, fun v _ => v = .int .i64 ((u.args.length : Int) - 1), fun v _ => v = .bool true, fun v _ => v = .bool false] _ (fun V => by simp [putAll, Act.put]; rfl) (by kernel_rfl) (by decide) (by simp) (by kernel_rfl) ?_ ?_ ?_
        · intro F hF
          simp only [List.mem_cons, List.not_mem_nil, or_false] at hF
          rcases hF with rfl | rfl | rfl | rfl | rfl | rfl | rfl | rfl | rfl | rfl
          · exact stable_eq
          · exact stable_eq
          · exact stable_eq
          · exact stable_eq
          · exact stable_eq
          · exact stable_eq
          · exact stable_eq
          · exact stable_eq
          · exact stable_eq
          · exact stable_eq
        · refine ⟨?_, ?_, ?_, ?_, ?_, ?_, ?_, ?_, ?_, ?_, trivial⟩
          · intro V w1 hbR _
            unfold Does
            go_simp
            exact ⟨Below.refl _ _, rfl⟩
          · intro V w1 hbR _
            unfold Does
            go_simp
            exact ⟨Below.refl _ _, rfl⟩
          · intro V w1 hbR ⟨f0, f1, _⟩
            replace f0 : V 0 = .slice (some ⟨pb, poff, none⟩) p.length pc := f0
            replace f1 : V 1 = .int .i64 j := f1
            unfold Does
            go_simp
            exact ⟨Below.refl _ _, rfl⟩
          · intro V w1 hbR ⟨f2, _⟩
            replace f2 : V 2 = .pointer (some ⟨pb, poff + j, none⟩) := f2
            obtain ⟨hc, hf⟩ := bcell hbR
            try simp only [World.size_alloc, World.size_setCell] at hc hf
            unfold Does
            go_simp
            exact ⟨Below.refl _ _, rfl⟩
          · intro V w1 hbR _
            unfold Does
            go_simp
            exact ⟨Below.refl _ _, rfl⟩
          · intro V w1 hbR ⟨f4, _⟩
            replace f4 : V 4 = .pointer (some ⟨w.heap.size, 1, none⟩) := f4
            obtain ⟨hc, hf⟩ := bcell hbR
            try simp only [World.size_alloc, World.size_setCell] at hc hf
            unfold Does
            go_simp
            exact ⟨Below.refl _ _, rfl⟩
          · intro V w1 hbR ⟨f5, _⟩
            replace f5 : V 5 = .slice (some ⟨b, off, none⟩) u.args.length cap := f5
            obtain ⟨hc, hf⟩ := bcell hbR
            try simp only [World.size_alloc, World.size_setCell] at hc hf
            unfold Does
            go_simp
            exact ⟨Below.refl _ _, rfl⟩
          · intro V w1 hbR ⟨f6, _⟩
            replace f6 : V 6 = .int .i64 u.args.length := f6
            unfold Does
            go_simp
            exact ⟨Below.refl _ _, by congr 1; rw [IntKind.wrap_i64]; omega⟩
          · intro V w1 hbR ⟨f3, f7, _⟩
            replace f3 : V 3 = .int .i64 k := f3
            replace f7 : V 7 = .int .i64 ((u.args.length : Int) - 1) := f7
            obtain ⟨hc, hf⟩ := bcell hbR
            try simp only [World.size_alloc, World.size_setCell] at hc hf
            unfold Does
            go_simp
            refine (l1In_any _ _ _ _).mono ?_; rintro e w2 ⟨rfl, rfl⟩; rw [HW.out]; exact ⟨_, rfl, Below.refl _ _, rfl⟩
          · intro V w1 hbR ⟨f8, _⟩
            replace f8 : V 8 = .bool true := f8
            unfold Does
            go_simp
            exact ⟨Below.refl _ _, rfl⟩
        intro V w3 hbR hfR
        obtain ⟨f0, f1, f2, f3, f4, f5, f6, f7, f8, f9, _⟩ := hfR
        replace f0 : V 0 = .slice (some ⟨pb, poff, none⟩) p.length pc := f0
        replace f1 : V 1 = .int .i64 j := f1
        replace f2 : V 2 = .pointer (some ⟨pb, poff + j, none⟩) := f2
        replace f3 : V 3 = .int .i64 k := f3
        replace f4 : V 4 = .pointer (some ⟨w.heap.size, 1, none⟩) := f4
        replace f5 : V 5 = .slice (some ⟨b, off, none⟩) u.args.length cap := f5
        replace f6 : V 6 = .int .i64 u.args.length := f6
        replace f7 : V 7 = .int .i64 ((u.args.length : Int) - 1) := f7
        replace f8 : V 8 = .bool true := f8
        replace f9 : V 9 = .bool false := f9
        simp only [f0, f1, f2, f3, f4, f5, f6, f7, f8, f9]
        clear f0 f1 f2 f3 f4 f5 f6 f7 f8 f9
        obtain ⟨hc3, hf3⟩ := bcell hbR
        replace x0 := (hc3 _ 0 hWb).trans x0
        replace x1 := (hc3 _ 1 hWb).trans x1
        replace xf := fun p => (hf3 _ p hWb).trans (xf p)
        replace r0 := (hc3 (w.heap.size + 1) 0 (by omega)).trans r0
        replace r1 := (hc3 (w.heap.size + 1) 1 (by omega)).trans r1
        replace rf := fun p => (hf3 (w.heap.size + 1) p (by omega)).trans (rf p)
        replace rf0 := rf 0
        replace rf1 := rf 1
        replace xf0 := xf 0
        replace xf1 := xf 1
        replace q0 := (hc3 pb (poff + j) hpb2).trans q0
        replace hb := hb.trans (hbR.mono hb.size)
        replace hz := Nat.le_trans hz hbR.size
        replace y0 := (hc3 b (off + k * 2) (by omega)).trans y0
        replace y1 := (hc3 b (off + k * 2 + 1) (by omega)).trans y1
        clear hc3 hf3 hbR
        have hpw : pb ≠ w.heap.size := by omega
        have hbw : b ≠ w.heap.size := by omega
        go_wp2_with fail
        go_region
        all_goals go_wp2_with fail
        all_goals
          go_roundw
          case rel =>
            refine ⟨j + 1, u.args[k], a2, cap2, by omega, by go_num, hid (HX.out.trans HS.out), y2, ?_, ?_, ?_, ?_, ?_, ?_, ?_, ?_⟩
            all_goals try simp only [World.cell?_drew, World.frozen?_drew, World.size_drew]
            · rw [World.cell?_setCell_other _ _ _ _ (by intro e; injection e with _ e; omega)]; exact World.cell?_setCell_same _ _ _ x0
            · exact World.cell?_setCell_same _ _ _ (by rw [World.cell?_setCell_other _ _ _ _ (by intro e; injection e with _ e; omega)]; exact x1)
            · intro p; rw [World.frozen?_setCell, World.frozen?_setCell]; exact xf p
            · rw [World.cell?_setCell_other _ _ _ _ (by intro e; injection e with e; omega), World.cell?_setCell_other _ _ _ _ (by intro e; injection e with e; omega)]; exact r0
            · rw [World.cell?_setCell_other _ _ _ _ (by intro e; injection e with e; omega), World.cell?_setCell_other _ _ _ _ (by intro e; injection e with e; omega)]; exact r1
            · intro p; rw [World.frozen?_setCell, World.frozen?_setCell]; exact rf p
            · rw [World.size_setCell, World.size_setCell]; exact hz
            · exact ((hb.setCell (Nat.le_refl _) _).setCell (Nat.le_refl _) _).drew
          case measure => simp [intOf]; omega
      · have HS := hid (Tm.sub_no (t := u) hlt (by omega))
        have HW := hid (inB_no (n := p[j]) (lo := 0) (hi := (u.args.length : Int) - 1) (by omega))
        obtain ⟨z, Hz⟩ : ∃ z, Hid (p[j] = z) := ⟨_, hid rfl⟩
        rw [Hz.out] at q0 HW qz
        obtain ⟨qz1, qz2⟩ := qz
        have HR : Hid (t.sub p = .none) := HX.out.trans HS.out
        have hWb : w.heap.size < wr.heap.size := by omega
        have hpb2 : pb < wr.heap.size := by omega
        clear hin
        go_wp2_with fail
        refine wp_region_B [fun v _ => v = .slice (some ⟨pb, poff, none⟩) p.length pc, fun v _ => v = .int .i64 j, fun v _ => v = .pointer (some ⟨pb, poff + j, none⟩), fun v _ => v = .int .i64 z, fun v _ => v = .pointer (some ⟨w.heap.size, 1, none⟩), fun v _ => v = .slice a u.args.length cap, fun v _ => v = .int .i64 u.args.length, fun v _ => v = .int .i64 ((u.args.length : Int) - 1), fun v _ => v = .bool false, fun v _ => v = .bool true] _ (fun V => by simp [putAll, Act.put]; rfl) (by kernel_rfl) (by decide) (by simp) (by kernel_rfl) ?_ ?_ ?_
        · intro F hF
          simp only [List.mem_cons, List.not_mem_nil, or_false] at hF
          rcases hF with rfl | rfl | rfl | rfl | rfl | rfl | rfl | rfl | rfl | rfl
          · exact stable_eq
          · exact stable_eq
          · exact stable_eq
          · exact stable_eq
          · exact stable_eq
          · exact stable_eq
          · exact stable_eq
          · exact stable_eq
          · exact stable_eq
          · exact stable_eq
        · refine ⟨?_, ?_, ?_, ?_, ?_, ?_, ?_, ?_, ?_, ?_, trivial⟩
          · intro V w1 hbR _
            unfold Does
            go_simp
            exact ⟨Below.refl _ _, rfl⟩
          · intro V w1 hbR _
            unfold Does
            go_simp
            exact ⟨Below.refl _ _, rfl⟩
          · intro V w1 hbR ⟨f0, f1, _⟩
            replace f0 : V 0 = .slice (some ⟨pb, poff, none⟩) p.length pc := f0
            replace f1 : V 1 = .int .i64 j := f1
            unfold Does
            go_simp
            exact ⟨Below.refl _ _, rfl⟩
          · intro V w1 hbR ⟨f2, _⟩
            replace f2 : V 2 = .pointer (some ⟨pb, poff + j, none⟩) := f2
            obtain ⟨hc, hf⟩ := bcell hbR
            try simp only [World.size_alloc, World.size_setCell] at hc hf
            unfold Does
            go_simp
            exact ⟨Below.refl _ _, rfl⟩
          · intro V w1 hbR _
            unfold Does
            go_simp
            exact ⟨Below.refl _ _, rfl⟩
          · intro V w1 hbR ⟨f4, _⟩
            replace f4 : V 4 = .pointer (some ⟨w.heap.size, 1, none⟩) := f4
            obtain ⟨hc, hf⟩ := bcell hbR
            try simp only [World.size_alloc, World.size_setCell] at hc hf
            unfold Does
            go_simp
            exact ⟨Below.refl _ _, rfl⟩
          · intro V w1 hbR ⟨f5, _⟩
            replace f5 : V 5 = .slice a u.args.length cap := f5
            obtain ⟨hc, hf⟩ := bcell hbR
            try simp only [World.size_alloc, World.size_setCell] at hc hf
            unfold Does
            go_simp
            exact ⟨Below.refl _ _, rfl⟩
          · intro V w1 hbR ⟨f6, _⟩
            replace f6 : V 6 = .int .i64 u.args.length := f6
            unfold Does
            go_simp
            exact ⟨Below.refl _ _, by congr 1; rw [IntKind.wrap_i64]; omega⟩
          · intro V w1 hbR ⟨f3, f7, _⟩
            replace f3 : V 3 = .int .i64 z := f3
            replace f7 : V 7 = .int .i64 ((u.args.length : Int) - 1) := f7
            obtain ⟨hc, hf⟩ := bcell hbR
            try simp only [World.size_alloc, World.size_setCell] at hc hf
            unfold Does
            go_simp
            refine (l1In_any _ _ _ _).mono ?_; rintro e w2 ⟨rfl, rfl⟩; rw [HW.out]; exact ⟨_, rfl, Below.refl _ _, rfl⟩
          · intro V w1 hbR ⟨f8, _⟩
            replace f8 : V 8 = .bool false := f8
            unfold Does
            go_simp
            exact ⟨Below.refl _ _, rfl⟩
        intro V w3 hbR hfR
        obtain ⟨f0, f1, f2, f3, f4, f5, f6, f7, f8, f9, _⟩ := hfR
        replace f0 : V 0 = .slice (some ⟨pb, poff, none⟩) p.length pc := f0
        replace f1 : V 1 = .int .i64 j := f1
        replace f2 : V 2 = .pointer (some ⟨pb, poff + j, none⟩) := f2
        replace f3 : V 3 = .int .i64 z := f3
        replace f4 : V 4 = .pointer (some ⟨w.heap.size, 1, none⟩) := f4
        replace f5 : V 5 = .slice a u.args.length cap := f5
        replace f6 : V 6 = .int .i64 u.args.length := f6
        replace f7 : V 7 = .int .i64 ((u.args.length : Int) - 1) := f7
        replace f8 : V 8 = .bool false := f8
        replace f9 : V 9 = .bool true := f9
        simp only [f0, f1, f2, f3, f4, f5, f6, f7, f8, f9]
        clear f0 f1 f2 f3 f4 f5 f6 f7 f8 f9
        obtain ⟨hc3, hf3⟩ := bcell hbR
        replace x0 := (hc3 _ 0 hWb).trans x0
        replace x1 := (hc3 _ 1 hWb).trans x1
        replace xf := fun p => (hf3 _ p hWb).trans (xf p)
        replace r0 := (hc3 (w.heap.size + 1) 0 (by omega)).trans r0
        replace r1 := (hc3 (w.heap.size + 1) 1 (by omega)).trans r1
        replace rf := fun p => (hf3 (w.heap.size + 1) p (by omega)).trans (rf p)
        replace rf0 := rf 0
        replace rf1 := rf 1
        replace xf0 := xf 0
        replace xf1 := xf 1
        replace q0 := (hc3 pb (poff + j) hpb2).trans q0
        replace hb := hb.trans (hbR.mono hb.size)
        replace hz := Nat.le_trans hz hbR.size
        clear hc3 hf3 hbR
        go_wp2_with fail
        refine bodyPost_ret (v := .tuple #[.agg #[.string ByteArray.empty, .slice .none 0 0], .bool false]) (by simp [results, Try.results29, go_sem, r0, r1]; rfl) rfl ?_
        rw [HR.out]
        exact ⟨_, [], rfl, noTm_own, by simp, (hb.setCell (by simp) _).setCell (by simp) _⟩
    · obtain rfl : j = p.length := by omega
      have HR : Hid (t.sub p = some u) := by rw [Hid, HX.out, List.drop_length, Tm.sub]
      have hub : u.bulk ≤ 1048576 := Nat.le_trans (Tm.sub_bulk _ _ _ HR.out) hbk
      have hq := ownT_any u _ _ _ _ (Tm.at_keep (Keeps.all hb) hU) hub
      go_wp2_with fail
      refine hq.mono ?_
      rintro e w1 ⟨v, F, rfl, ho, hF, hb1⟩
      obtain ⟨a2, cap2, rfl⟩ := Tm.sd_own_form ho
      obtain ⟨hc1, hf1⟩ := bcell hb1
      replace r0 := (hc1 (w.heap.size + 1) 0 (by omega)).trans r0
      replace r1 := (hc1 (w.heap.size + 1) 1 (by omega)).trans r1
      replace rf0 := (hf1 (w.heap.size + 1) 0 (by omega)).trans rf0
      replace rf1 := (hf1 (w.heap.size + 1) 1 (by omega)).trans rf1
      have hb2 := hb.trans (hb1.mono hb.size)
      have hz1 := hb1.size
      clear hc1 hf1
      go_wp2_with fail
      refine bodyPost_ret (v := .tuple #[.agg #[.string u.name, .slice a2 u.args.length cap2], .bool true]) (by simp [results, Try.results29, go_sem, r0, r1]) rfl ?_
      rw [HR.out]
      have hbe := (hb2.setCell (p := ⟨w.heap.size + 1, 0, none⟩) (by simp) (.string u.name)).setCell (p := ⟨w.heap.size + 1, 1, none⟩) (by simp) (.slice a2 u.args.length cap2)
      refine ⟨_, F, rfl, D.own_keep _ _ _ ?_ ho, fun x hx => by have := hF x hx; omega, hbe⟩
      exact ((Keeps.refl _ _).set_lt hF (by simp; omega) _).set_lt hF (by simp; omega) _
end Go.Proofs.Ytoblhgaohmfjeaa
