/- The variables of a term are put into a list (the reference's). -/
import Derived.Test.YtominpdaipaioaaPu
namespace Go.Proofs.Ytominpdaipaioaa
set_option maxRecDepth 100000
open Go.RowKit

def SpecInto (t : Tm) : Prop := ∀ (ss : List ByteArray) (v : Value) (S : Nat → Prop) (c0 c1 : Value) (w : World), Lst w v ss → ss.length + t.size ≤ 1073741824 → Tm.at S w c0 c1 t → t.bulk ≤ 1048576 → Calls Try.prog 123 #[v, .agg #[c0, c1]] w (Yields w fun u w' => Lst w' u (Tm.into t ss))
set_option maxHeartbeats 1000000 in
theorem SpecInto_of (n : ByteArray) (ts : List Tm) (h : ∀ t ∈ ts, SpecInto t) : SpecInto (.node n ts) := by
  intro ss v S c0 c1 w HL hss hr hbk
  obtain ⟨rfl, hn, a, cap, rfl⟩ := Tm.at_form hr
  have hs := hr.2
  simp only [Tm.name, Tm.args] at hs hn ⊢
  clear hr
  obtain ⟨a', cap', he, hlen, hcap⟩ := Tm.sd_form hs
  injection he with e0 e1 e2
  subst e0 e2
  clear e1
  unfold big at hlen
  have hsz : Hid ((Tm.node n ts).size = 1 + Tm.sizes ts) := by rw [Hid, Tm.size]
  have hLL := hid HL
  clear HL
  have hB : Below w.heap.size w (w.alloc (.cells #[.string n, .slice a ts.length cap] 29)) := (Below.refl _ _).alloc (Nat.le_refl _) _
  by_cases hv : varName n = true
  · have HP : Hid (Tm.into (.node n ts) ss = putStr ss n) := by rw [Hid, Tm.into, if_pos hv]
    go_enter Try.func123, Try.ntmps123
    go_wp2_with fail
    refine (l2Var_any _ hn _).mono ?_
    rintro e w1 ⟨rfl, rfl⟩
    rw [hv]
    clear hv
    have hq := l2Put_any (hLL.out.keep hB) hn (by have := hsz.out; omega)
    go_wp2_with fail
    refine hq.mono ?_
    rintro e w2 ⟨u, rfl, hb2, hL2⟩
    go_wp2_with fail
    go_ret
    exact ⟨_, rfl, hB.trans (hb2.mono hB.size), by rw [HP.out]; exact hL2⟩
  · replace hv : varName n = false := by simpa using hv
    have HP : Hid (Tm.into (.node n ts) ss = Tm.intos ts ss) := by rw [Hid, Tm.into, if_neg (by rw [hv]; simp)]
    go_enter Try.func123, Try.ntmps123
    go_wp2_with fail
    refine (l2Var_any _ hn _).mono ?_
    rintro e w1 ⟨rfl, rfl⟩
    rw [hv]
    clear hv
    go_wp2_with fail
    go_loopw [0, 5] (fun x i wr => ∃ k : Nat, k ≤ ts.length ∧ i = .int .i64 k ∧ Hid (Lst wr x (Tm.intos (ts.take k) ss)) ∧ Below (w.heap.size + 1) (w.alloc (.cells #[.string n, .slice a ts.length cap] 29)) wr) (fun _ i _ => ts.length - (intOf i).toNat)
    case atStart => exact ⟨0, Nat.zero_le _, rfl, by rw [List.take_zero, Tm.intos]; exact hLL.out.keep hB, Below.refl _ _⟩
    case round =>
      obtain ⟨k, hk, rfl, HX, hb⟩ := hrel
      have hbw : Below w.heap.size w wr := ((Below.refl _ _).alloc (Nat.le_refl _) _).trans (hb.mono (by omega))
      have hz := hb.size
      simp only [World.size_alloc] at hz
      have hz0 : w.heap.size < wr.heap.size := by omega
      have e10 : wr.cell? ⟨w.heap.size, 0, none⟩ = some (.string n) := (hb.cell (by simp)).trans (box1 _ _ _ _)
      have e11 : wr.cell? ⟨w.heap.size, 1, none⟩ = some (.slice a ts.length cap) := (hb.cell (by simp)).trans (box1 _ _ _ _)
      by_cases hlt : k < ts.length
      · have hne : ts ≠ [] := by intro e; subst e; simp at hlt
        obtain ⟨b, off, rfl, hS, hbl, hrr⟩ := Tm.sd_get hs hne
        obtain ⟨c0, c1, q0, q1, q2⟩ := hrr k hlt
        obtain ⟨rfl, -, x, xc, rfl⟩ := Tm.at_form q2
        replace q0 := (hbw.cell (p := ⟨b, off + k * 2, none⟩) hbl).trans q0
        replace q1 := (hbw.cell (p := ⟨b, off + k * 2 + 1, none⟩) hbl).trans q1
        replace q2 := Tm.at_keep (Keeps.all hbw) q2
        have hmem := h ts[k] (List.getElem_mem hlt)
        clear hs hrr
        have hst := Tm.intos_take ts ss k hlt
        have hsl := Tm.intos_length (ts.take k) ss
        have hsb := Tm.sizes_take ts k hlt
        have hsc := Tm.sizes_le ts (k + 1)
        have hbm : ts[k].bulk ≤ 1048576 := by have := Tm.bulk_mem (List.getElem_mem hlt); rw [Tm.bulk] at hbk; omega
        have hq := hmem _ _ _ _ _ _ HX.out (by have := hsz.out; omega) q2 hbm
        rw [← hst] at hq
        clear hst hsl hsb hsc
        go_wp2_with fail
        refine hq.mono ?_
        rintro e w2 ⟨u, rfl, hb3, hL3⟩
        have HX3 := hid hL3
        clear hL3 hq
        go_wp2_with fail
        go_roundw
        case rel => exact ⟨k + 1, by omega, by go_num, HX3, hb.trans (hb3.mono hz)⟩
        case measure => simp [intOf]; omega
      · obtain rfl : k = ts.length := by omega
        go_wp2_with fail
        go_ret
        exact ⟨_, rfl, hbw, by rw [HP.out]; have := HX.out; rwa [List.take_length] at this⟩
theorem SpecInto_any (t : Tm) : SpecInto t := Tm.ind (fun n ts h => SpecInto_of n ts h) t

set_option maxHeartbeats 1000000 in
theorem l2Vars_any (t : Tm) {S : Nat → Prop} {c0 c1 : Value} {w : World} (hT : Tm.at S w c0 c1 t) (hbk : t.bulk ≤ 1048576) : Calls Try.prog 108 #[.agg #[c0, c1]] w (Yields w fun u w' => Lst w' u (Tm.into t [])) := by
  have hsb := Tm.size_bulk t
  obtain ⟨rfl, hn, a, cap, rfl⟩ := Tm.at_form hT
  have hW : Below w.heap.size w ((w.alloc (.cells #[.string t.name, .slice a t.args.length cap] 29)).alloc (.cells #[] 9)) := ((Below.refl _ _).alloc (Nat.le_refl _) _).alloc (by simp) _
  have hq := SpecInto_any t [] _ S _ _ _ (Lst.made (w.alloc (.cells #[.string t.name, .slice a t.args.length cap] 29))) (by simp; omega) (Tm.at_keep (Keeps.all hW) hT) hbk
  simp only [World.size_alloc] at hq
  go_enter Try.func108, Try.ntmps108
  go_wp2_with fail
  all_goals
    refine hq.mono ?_
    rintro e w2 ⟨u, rfl, hb, hL⟩
    go_wp2_with fail
    go_ret
    exact ⟨_, rfl, hW.trans (hb.mono hW.size), hL⟩

set_option maxHeartbeats 1000000 in
theorem l2In_any {ss : List ByteArray} {s : ByteArray} {v : Value} {w : World} (hv : Lst w v ss) : Calls Try.prog 50 #[v, .string s] w fun e w' => e = .returned (.bool (hasStr ss s)) ∧ w = w' := by
  obtain ⟨b, off, cap, rfl, hbl, hcap, hcm, hrr⟩ := hv
  have HR := hid hrr
  clear hrr
  unfold maxLen at hcm
  go_enter Try.func50, Try.ntmps50
  go_wp2_with fail
  go_loop [5] (fun i => ∃ k : Nat, k ≤ ss.length ∧ i = .int .i64 k ∧ Hid (∀ j (h : j < k) (hj : j < ss.length), ss[j] ≠ s)) (fun i => ss.length - (intOf i).toNat)
  case atStart => exact ⟨0, Nat.zero_le _, rfl, fun j h => absurd h (by omega)⟩
  case round =>
    obtain ⟨k, hk, rfl, HK⟩ := hrel
    by_cases hlt : k < ss.length
    · obtain ⟨q0, -⟩ := HR.out k hlt
      by_cases he : ss[k] = s
      · have HP : Hid (hasStr ss s = true) := (hasStr_iff _ _).2 (he ▸ List.getElem_mem hlt)
        have hq := show (ss[k].toList == s.toList) = true by rw [he]; simp
        clear he
        go_wp2_with fail
        go_ret
        exact ⟨by rw [HP.out]; rfl, rfl⟩
      · have HS : Hid (∀ j (h : j < k + 1) (hj : j < ss.length), ss[j] ≠ s) := fun j h hj => by
          by_cases hjk : j < k
          · exact HK.out j hjk hj
          · obtain rfl : j = k := by omega
            exact he
        have hq := toList_ne he
        clear he
        go_wp2_with fail
        go_round
        case rel => exact ⟨k + 1, by omega, by go_num, HS⟩
        case measure => simp [intOf]; omega
    · obtain rfl : k = ss.length := by omega
      have HP : Hid (hasStr ss s = false) := by
        rw [Hid, Bool.eq_false_iff, Ne, hasStr_iff]
        intro hm
        obtain ⟨j, hj, e⟩ := List.mem_iff_getElem.1 hm
        exact HK.out j hj hj e
      go_wp2_with fail
      go_ret
      exact ⟨by rw [HP.out]; rfl, rfl⟩
end Go.Proofs.Ytominpdaipaioaa
