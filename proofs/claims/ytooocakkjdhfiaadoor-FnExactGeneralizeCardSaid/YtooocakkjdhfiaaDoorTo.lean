/- A term is copied into memory of its own. -/
import Derived.Test.YtooocakkjdhfiaaDoorRows
import Derived.Test.YtooocakkjdhfiaaDoorTm
import Derived.Test.YtooocakkjdhfiaaDoorReg
import Derived.WalkSpells
import Derived.WalkLawsBesides
namespace Go.Proofs.YtooocakkjdhfiaaDoor
set_option maxRecDepth 100000
open Go.RowKit

def MadeT (t : Tm) (w : World) (e : Ending) (w' : World) : Prop := ∃ v F, e = .returned (.agg #[.string t.name, v]) ∧ D.own w' v (Tm.sd t.args) F ∧ (∀ x ∈ F, w.heap.size ≤ x) ∧ Below w.heap.size w w'
def MadeS (ts : List Tm) (w : World) (e : Ending) (w' : World) : Prop := ∃ v F, e = .returned v ∧ D.own w' v (Tm.sd ts) F ∧ (∀ x ∈ F, w.heap.size ≤ x) ∧ Below w.heap.size w w'

def ToTerm (t : Tm) : Prop := ∀ (S : Nat → Prop) (c0 c1 : Value) (w : World), Tm.at S w c0 c1 t → t.bulk ≤ 1048576 → Calls Tryd.prog 6 #[.agg #[c0, c1]] w (MadeT t w)
def ToTermS (ts : List Tm) : Prop := ∀ (S : Nat → Prop) (v : Value) (w : World), D.rd S w v (Tm.sd ts) → ts.length + Tm.bulks ts ≤ 1048576 → Calls Tryd.prog 14 #[v] w (MadeS ts w)

theorem infoTerm : (Tryd.prog.info? 28).map (fun i => (i.zero, i.size, i.bytes)) = some (some (.agg #[.string ByteArray.empty, .slice none 0 0]), 2, 40) := by kernel_rfl

set_option maxHeartbeats 400000 in
theorem toTerm_of (n : ByteArray) (ts : List Tm) (h : ToTermS ts) : ToTerm (.node n ts) := by
  intro S c0 c1 w hr hbk
  obtain ⟨rfl, hn, a, cap, rfl⟩ := Tm.at_form hr
  have hs := hr.2
  rw [Tm.bulk] at hbk
  simp only [Tm.name, Tm.args] at hn hs ⊢
  clear hr
  go_enter Tryd.func6, Tryd.ntmps6
  go_wp2_with fail
  refine (h S _ _ (D.rd_keep ((((Keeps.refl _ _).alloc _).alloc _).alloc _) _ _ hs) (by omega)).mono ?_
  rintro e w1 ⟨v, F, rfl, ho, hF, hb⟩
  obtain ⟨a', cap', rfl⟩ := Tm.sd_own_form ho
  obtain ⟨hc, hf⟩ := bcell hb
  have hz := hb.size
  simp only [World.size_alloc] at hc hf hz hF
  go_wp2_with fail
  refine bodyPost_ret (v := .agg #[.string n, .slice a' ts.length cap']) (by simp [results, Tryd.results6, go_sem, hc]) rfl ?_
  refine ⟨_, F, rfl, D.own_keep _ _ _ ?_ ho, fun x hx => by have := hF x hx; omega, ?_⟩
  · exact ((((Keeps.refl _ _).set_lt hF (by simp) _).set_lt hF (by simp) _).set_lt hF (by simp) _)
  · exact (((((((Below.refl _ _).alloc (Nat.le_refl _) _).alloc (by simp) _).alloc (by simp; omega) _).trans (hb.mono (by simp; omega))).setCell (by simp; omega) _).setCell (by simp) _).setCell (by simp) _
set_option maxHeartbeats 400000 in
theorem toTermS_of (ts : List Tm) (h : ∀ t ∈ ts, ToTerm t) : ToTermS ts := by
  intro S v w hr hbk
  obtain ⟨a, cap, rfl, hlen, hcap⟩ := Tm.sd_form hr
  have hmk := run_mk (P := Tryd.prog) Tryd.underlying26 infoTerm ts.length (by omega) hlen
  unfold big at hlen
  go_enter Tryd.func14, Tryd.ntmps14
  go_wp2_with fail
  go_loopw [4] (fun i wr => ∃ (k : Nat) (F : List Nat), k ≤ ts.length ∧ i = .int .i64 k ∧ Filled wr w.heap.size 28 (ts.length * 2) (Tm.css (ts.take k)) F ∧ (∀ x ∈ F, w.heap.size < x) ∧ Below w.heap.size w wr) (fun i _ => ts.length - (intOf i).toNat)
  case atStart =>
    refine ⟨0, [], Nat.zero_le _, rfl, ?_, by simp, (Below.refl _ _).alloc (Nat.le_refl _) _⟩
    have := Filled.made w (madeCells #[Value.string ByteArray.empty, Value.slice none 0 0] (ts.length * 2)) 28
    rw [size_madeCells] at this
    simpa [Tm.css] using this
  case round =>
    obtain ⟨k, F, hk, rfl, hfl, hF, hb⟩ := hrel
    by_cases hlt : k < ts.length
    · have hne : ts ≠ [] := by intro e; subst e; simp at hlt
      obtain ⟨b, off, rfl, hS, hbl, hrr⟩ := Tm.sd_get hr hne
      obtain ⟨c0, c1, q0, q1, q2⟩ := hrr k hlt
      have q0' := (hb.cell (p := ⟨b, off + k * 2, none⟩) hbl).trans q0
      have q1' := (hb.cell (p := ⟨b, off + k * 2 + 1, none⟩) hbl).trans q1
      have q2' := Tm.at_keep (Keeps.all hb) q2
      have hmem := h ts[k] (List.getElem_mem hlt)
      have hbk' := Tm.bulk_mem (List.getElem_mem hlt)
      clear q0 q1 q2 hr hrr
      go_wp2_with fail
      refine (hmem _ _ _ _ q2' (by omega)).mono ?_
      rintro e w1 ⟨v, G, rfl, ho, hG, hb1⟩
      obtain ⟨a', cap', rfl⟩ := Tm.sd_own_form ho
      have hfl1 := hfl.keep (Keeps.all hb1)
      obtain ⟨x0, hx0⟩ := hfl1.cell (p := k * 2) (by omega)
      obtain ⟨x1, hx1⟩ := hfl1.cell (p := k * 2 + 1) (by omega)
      have hf0 := hfl1.free (k * 2)
      have hf1 := hfl1.free (k * 2 + 1)
      go_wp2_with fail
      go_roundw
      case rel =>
        have hB := hb.size
        have hBl := hfl.lt
        have hG' : w.heap.size ∉ G := fun q => by have := hG _ q; omega
        refine ⟨k + 1, F ++ G, by omega, by go_num, ?_, fun x hx => ?_, ((hb.trans (hb1.mono hB)).setCell (Nat.le_refl _) _).setCell (Nat.le_refl _) _⟩
        · rw [Tm.css_take_succ ts k hlt]
          have hl : (Tm.css (ts.take k)).length = k * 2 := by rw [Tm.css_length, List.length_take, Nat.min_eq_left hk]
          have hsz : ts[k].name.size ≤ maxLen := (Tm.at_form q2').2.1
          have hd : ∀ x ∈ F, x ∉ G := fun x hx hx' => by have := hG x hx'; have := hfl.ltF x hx; omega
          have s1 := hfl1.set (v := .string ts[k].name) (G := []) hl.symm (by omega) (D.own_str hsz) (by simp) (by simp)
          have s2 := s1.set (p := k * 2 + 1) (v := .slice a' ts[k].args.length cap') (G := G) (d := Tm.sd ts[k].args) (by simp [hl]) (by omega) (D.own_keep _ _ _ ((Keeps.refl _ _).setCell (fun q _ => hG' q) _) ho) hG' (by simpa using hd)
          simpa using s2
        · rcases List.mem_append.1 hx with hx | hx
          · exact hF x hx
          · have := hG x hx; omega
      case measure => simp [intOf]; omega
    · obtain rfl : k = ts.length := by omega
      go_wp2_with fail
      go_ret
      rw [List.take_length] at hfl
      by_cases hne : ts = []
      · subst hne
        exact ⟨_, [], rfl, D.own_nil _ _, by simp, hb⟩
      · exact ⟨_, _ :: F, rfl, hfl.own (Tm.css_ne hne) (by unfold big; omega) (Nat.le_refl _), fun x hx => by rcases List.mem_cons.1 hx with rfl | hx; exact Nat.le_refl _; exact Nat.le_of_lt (hF x hx), hb⟩

theorem toTerm_any (t : Tm) : ToTerm t := Tm.ind (fun n ts h => toTerm_of n ts (toTermS_of ts h)) t
theorem toTermS_any (ts : List Tm) : ToTermS ts := toTermS_of ts fun t _ => toTerm_any t

/-- the value is a term that reads as t -/
def Is (t : Tm) (v : Value) (w : World) : Prop := ∃ v', v = .agg #[.string t.name, v'] ∧ Tm.at (fun _ => True) w (.string t.name) v' t
theorem Is.form {t : Tm} {v : Value} {w : World} (h : Is t v w) : ∃ a cap, v = .agg #[.string t.name, .slice a t.args.length cap] ∧ Tm.at (fun _ => True) w (.string t.name) (.slice a t.args.length cap) t := by
  obtain ⟨v', rfl, h⟩ := h
  obtain ⟨-, -, a, cap, rfl⟩ := Tm.at_form h
  exact ⟨a, cap, rfl, h⟩
theorem Is.stable {t : Tm} {w : World} : ∀ v w1 w2, Below w.heap.size w w1 → Below w1.heap.size w1 w2 → Is t v w1 → Is t v w2 :=
  fun _ _ _ _ hb ⟨v', e, h⟩ => ⟨v', e, Tm.at_keep (Keeps.all hb) h⟩
theorem toTerm_is {t : Tm} {S : Nat → Prop} {c0 c1 : Value} {w : World} (h : Tm.at S w c0 c1 t) (hb : t.bulk ≤ 1048576) :
    Calls Tryd.prog 6 #[.agg #[c0, c1]] w (Yields w (Is t)) :=
  (toTerm_any t S c0 c1 w h hb).mono fun _ _ ⟨v, _, he, ho, _, hbl⟩ => ⟨_, he, hbl, v, rfl, D.rd_str (Tm.at_form h).2.1, D.rd_mono (fun _ _ => trivial) _ _ (D.own_rd _ _ _ ho)⟩
end Go.Proofs.YtooocakkjdhfiaaDoor
