/- A subterm is replaced: the program's and the reference's. -/
import Derived.Test.YtoblhgaohmfjeaaRw
import Derived.Deep.RegionHeld3
namespace Go.Proofs.Ytoblhgaohmfjeaa
set_option maxRecDepth 100000
open Go.RowKit

/-- the term with the subterm at a position replaced -/
def Tm.put : Tm → List Int → Tm → Tm
  | _, [], s => s
  | t, k :: p, s => if h : 0 ≤ k ∧ k.toNat < t.args.length then .node t.name (t.args.set k.toNat (Tm.put t.args[k.toNat] p s)) else t
theorem Tm.put_name (t s : Tm) (p : List Int) (ht : t.name.size ≤ maxLen) (hs : s.name.size ≤ maxLen) : (t.put p s).name.size ≤ maxLen := by
  cases p with
  | nil => rw [Tm.put]; exact hs
  | cons k p =>
    rw [Tm.put]
    split
    · exact ht
    · exact ht

theorem rd_tail {S : Nat → Prop} {w : World} {pb poff n pc : Nat} {z : Int} {p : List Int} (h : D.rd S w (.slice (some ⟨pb, poff, none⟩) n pc) (slOf intE (z :: p))) (hc : p.length + 1 ≤ pc) :
    D.rd S w (.slice (if pc = 1 then some ⟨pb, poff, none⟩ else some ⟨pb, poff + 1, none⟩) p.length (pc - 1)) (slOf intE p) := by
  rw [slOf, D.rd] at h ⊢
  obtain ⟨a, c, e, h1, h2, h3, h4⟩ := h
  obtain ⟨b, off, q0, q1, q2, q3⟩ := h4 (by simp [intE])
  injection e with e0 _ e2
  subst e2
  rw [q0] at e0
  injection e0 with e0; injection e0 with e3 e4; subst e3 e4
  rw [List.flatMap_cons, show intE z = [D.num z] from rfl, List.singleton_append, D.rds] at q3
  refine ⟨_, _, rfl, ?_, by omega, fun h0 => flat_ne intE_wide (by decide) (by intro e; subst e; simp at h0), fun hne => ?_⟩
  · simp at h1; omega
  · have hp : p ≠ [] := by intro e; subst e; simp at hne
    have : pc ≠ 1 := by have := List.length_pos_iff.2 hp; omega
    rw [if_neg this]
    exact ⟨pb, poff + 1, rfl, q1, q2, q3.2⟩

def RepIs (f : FuncId) (p : List Int) : Prop := ∀ (t s : Tm) (S S' S'' : Nat → Prop) (c0 c1 d0 d1 v : Value) (w : World), Tm.at S w c0 c1 t → Tm.at S'' w d0 d1 s → D.rd S' w v (slOf intE p) → t.bulk ≤ 1048576 → s.bulk ≤ 1048576 → p.length ≤ 1048576 → (t.sub p).isSome = true → Calls Try.prog f #[.agg #[c0, c1], v, .agg #[d0, d1]] w (MadeT (t.put p s) w)
set_option maxHeartbeats 2000000 in
theorem repIs_nil_I : RepIs 35 [] := by
  intro t s S S' S'' c0 c1 d0 d1 v w ht hs hp hbt hbs hpl hok
  obtain ⟨pa, pc, rfl, hlen, hcap⟩ := slOf_form hp
  rw [Tm.put]
  have hq0 := fun w' hk => copyTerm_any s S'' d0 d1 w' (Tm.at_keep hk hs) hbs
  clear hq0
  obtain ⟨rfl, tn, ta, tc, rfl⟩ := Tm.at_form ht
  obtain ⟨rfl, sn, sa, sc, rfl⟩ := Tm.at_form hs
  have hW : Below w.heap.size w (((w.alloc (.cells #[.string t.name, .slice ta t.args.length tc] 29)).alloc (.cells #[.string s.name, .slice sa s.args.length sc] 29)).alloc (.cells #[.string ⟨#[]⟩, .slice none 0 0] 29)) := (((Below.refl _ _).alloc (Nat.le_refl _) _).alloc (by simp) _).alloc (by simp; omega) _
  have bt : Box (((w.alloc (.cells #[.string t.name, .slice ta t.args.length tc] 29)).alloc (.cells #[.string s.name, .slice sa s.args.length sc] 29)).alloc (.cells #[.string ⟨#[]⟩, .slice none 0 0] 29)) (w.heap.size) [.string t.name, .slice ta t.args.length tc] := by
    have := (((Box.new w [.string t.name, .slice ta t.args.length tc] 29).alloc (.cells #[.string s.name, .slice sa s.args.length sc] 29)).alloc (.cells #[.string ⟨#[]⟩, .slice none 0 0] 29))
    simpa only [World.size_alloc] using this
  have bs : Box (((w.alloc (.cells #[.string t.name, .slice ta t.args.length tc] 29)).alloc (.cells #[.string s.name, .slice sa s.args.length sc] 29)).alloc (.cells #[.string ⟨#[]⟩, .slice none 0 0] 29)) (w.heap.size + 1) [.string s.name, .slice sa s.args.length sc] := by
    have := ((Box.new (w.alloc (.cells #[.string t.name, .slice ta t.args.length tc] 29)) [.string s.name, .slice sa s.args.length sc] 29).alloc (.cells #[.string ⟨#[]⟩, .slice none 0 0] 29))
    simpa only [World.size_alloc] using this
  have rb : Box (((w.alloc (.cells #[.string t.name, .slice ta t.args.length tc] 29)).alloc (.cells #[.string s.name, .slice sa s.args.length sc] 29)).alloc (.cells #[.string ⟨#[]⟩, .slice none 0 0] 29)) (w.heap.size + 1 + 1) [.string ⟨#[]⟩, .slice none 0 0] := by
    have := (Box.new ((w.alloc (.cells #[.string t.name, .slice ta t.args.length tc] 29)).alloc (.cells #[.string s.name, .slice sa s.args.length sc] 29)) [.string ⟨#[]⟩, .slice none 0 0] 29)
    simpa only [World.size_alloc] using this
  have rf : ∀ p, (((w.alloc (.cells #[.string t.name, .slice ta t.args.length tc] 29)).alloc (.cells #[.string s.name, .slice sa s.args.length sc] 29)).alloc (.cells #[.string ⟨#[]⟩, .slice none 0 0] 29)).frozen? ⟨w.heap.size + 1 + 1, p, none⟩ = false := fun p => World.frozen?_alloc_at _ _ _ p (by simp)
  replace ht := Tm.at_keep (Keeps.all hW) ht
  replace hs := Tm.at_keep (Keeps.all hW) hs
  replace hp := D.rd_keep (Keeps.all hW) _ _ hp
  have et0 := bt.c0
  have et1 := bt.c1
  have lt := bt.lt
  have es0 := bs.c0
  have es1 := bs.c1
  have ls := bs.lt
  have re0 := rb.c0
  have rf0 := rf 0
  have re1 := rb.c1
  have rf1 := rf 1
  have rl := rb.lt
  go_enter Try.func35, Try.ntmps35
  go_wp2_with fail
  clear et0 et1 lt es0 es1 ls re0 rf0 re1 rf1 rl
  have Hw0 : Hid ((((w.alloc (.cells #[.string t.name, .slice ta t.args.length tc] 29)).alloc (.cells #[.string s.name, .slice sa s.args.length sc] 29)).alloc (.cells #[.string ⟨#[]⟩, .slice none 0 0] 29)).heap.size = w.heap.size + 1 + 1 + 1) := by simp [Hid]
  generalize (((w.alloc (.cells #[.string t.name, .slice ta t.args.length tc] 29)).alloc (.cells #[.string s.name, .slice sa s.args.length sc] 29)).alloc (.cells #[.string ⟨#[]⟩, .slice none 0 0] 29)) = w0 at *
  have hq := copyTerm_any s _ _ _ _ hs hbs
  refine hq.mono ?_
  rintro e w1 ⟨v1, F1, rfl, ho1, hF1, hb⟩
  replace hW := hW.trans (hb.mono hW.size)
  replace bt := bt.keep hb
  replace ht := Tm.at_keep (Keeps.all hb) ht
  replace bs := bs.keep hb
  replace hs := Tm.at_keep (Keeps.all hb) hs
  replace rf := fun p => (hb.frozen (p := ⟨_, p, none⟩) rb.lt).trans (rf p)
  replace rb := rb.keep hb
  replace hp := D.rd_keep (Keeps.all hb) _ _ hp
  obtain ⟨va, vc, rfl⟩ := Tm.sd_own_form ho1
  have hwz := hW.size
  have hH0 := Hw0.out
  clear hb hq
  have et0 := bt.c0
  have et1 := bt.c1
  have lt := bt.lt
  have es0 := bs.c0
  have es1 := bs.c1
  have ls := bs.lt
  have re0 := rb.c0
  have rf0 := rf 0
  have re1 := rb.c1
  have rf1 := rf 1
  have rl := rb.lt
  go_wp2_with fail
  refine bodyPost_ret (v := .agg #[.string s.name, .slice va s.args.length vc]) (by simp [results, Try.results35, go_sem, rb.c0, rb.c1]; try rfl) rfl ?_
  refine ⟨_, F1, rfl, D.own_keep _ _ _ (((Keeps.refl _ _).set_lt hF1 (by simp; omega) _).set_lt hF1 (by simp; omega) _) ho1, fun x hx => by have := hF1 x hx; omega, (hW.setCell (by simp; omega) _).setCell (by simp; omega) _⟩
set_option maxHeartbeats 4000000 in
theorem repIs_cons_I (k : Int) (p : List Int) (ih : RepIs 35 p) : RepIs 35 (k :: p) := by
  intro t s S S' S'' c0 c1 d0 d1 v w ht hs hp hbt hbs hpl hok
  obtain ⟨pa, pc, rfl, hlen, hcap⟩ := slOf_form hp
  obtain ⟨pb, poff, rfl, -, hpb, hprr⟩ := ints_get hp (by simp)
  rw [Tm.sub] at hok
  split at hok
  · rename_i hk
    obtain ⟨kn, hkn⟩ : ∃ n : Nat, k = (n : Int) := ⟨k.toNat, by omega⟩
    subst hkn
    have hkl : kn < t.args.length := by simpa using hk.2
    have hok2 : (t.args[kn].sub p).isSome = true := by simpa using hok
    have HPUT : Hid (t.put ((kn : Int) :: p) s = .node t.name (t.args.set kn (Tm.put t.args[kn] p s))) := by rw [Hid, Tm.put, dif_pos hk]; simp
    have hz0 : (((p.length + 1 : Nat) : Int) == 0) = false := by simp; omega
    rw [HPUT.out]
    have HP := hid hp
    have HT0 := hid ht.2
    clear hok hk
    simp only [List.length_cons] at *
    obtain ⟨rfl, tn, ta, tc, rfl⟩ := Tm.at_form ht
    obtain ⟨rfl, sn, sa, sc, rfl⟩ := Tm.at_form hs
    have hW : Below w.heap.size w (((w.alloc (.cells #[.string t.name, .slice ta t.args.length tc] 29)).alloc (.cells #[.string s.name, .slice sa s.args.length sc] 29)).alloc (.cells #[.string ⟨#[]⟩, .slice none 0 0] 29)) := (((Below.refl _ _).alloc (Nat.le_refl _) _).alloc (by simp) _).alloc (by simp; omega) _
    have bt : Box (((w.alloc (.cells #[.string t.name, .slice ta t.args.length tc] 29)).alloc (.cells #[.string s.name, .slice sa s.args.length sc] 29)).alloc (.cells #[.string ⟨#[]⟩, .slice none 0 0] 29)) (w.heap.size) [.string t.name, .slice ta t.args.length tc] := by
      have := (((Box.new w [.string t.name, .slice ta t.args.length tc] 29).alloc (.cells #[.string s.name, .slice sa s.args.length sc] 29)).alloc (.cells #[.string ⟨#[]⟩, .slice none 0 0] 29))
      simpa only [World.size_alloc] using this
    have bs : Box (((w.alloc (.cells #[.string t.name, .slice ta t.args.length tc] 29)).alloc (.cells #[.string s.name, .slice sa s.args.length sc] 29)).alloc (.cells #[.string ⟨#[]⟩, .slice none 0 0] 29)) (w.heap.size + 1) [.string s.name, .slice sa s.args.length sc] := by
      have := ((Box.new (w.alloc (.cells #[.string t.name, .slice ta t.args.length tc] 29)) [.string s.name, .slice sa s.args.length sc] 29).alloc (.cells #[.string ⟨#[]⟩, .slice none 0 0] 29))
      simpa only [World.size_alloc] using this
    have rb : Box (((w.alloc (.cells #[.string t.name, .slice ta t.args.length tc] 29)).alloc (.cells #[.string s.name, .slice sa s.args.length sc] 29)).alloc (.cells #[.string ⟨#[]⟩, .slice none 0 0] 29)) (w.heap.size + 1 + 1) [.string ⟨#[]⟩, .slice none 0 0] := by
      have := (Box.new ((w.alloc (.cells #[.string t.name, .slice ta t.args.length tc] 29)).alloc (.cells #[.string s.name, .slice sa s.args.length sc] 29)) [.string ⟨#[]⟩, .slice none 0 0] 29)
      simpa only [World.size_alloc] using this
    have rf : ∀ p, (((w.alloc (.cells #[.string t.name, .slice ta t.args.length tc] 29)).alloc (.cells #[.string s.name, .slice sa s.args.length sc] 29)).alloc (.cells #[.string ⟨#[]⟩, .slice none 0 0] 29)).frozen? ⟨w.heap.size + 1 + 1, p, none⟩ = false := fun p => World.frozen?_alloc_at _ _ _ p (by simp)
    replace ht := Tm.at_keep (Keeps.all hW) ht
    replace hs := Tm.at_keep (Keeps.all hW) hs
    replace hp := D.rd_keep (Keeps.all hW) _ _ hp
    have et0 := bt.c0
    have et1 := bt.c1
    have lt := bt.lt
    have es0 := bs.c0
    have es1 := bs.c1
    have ls := bs.lt
    have re0 := rb.c0
    have rf0 := rf 0
    have re1 := rb.c1
    have rf1 := rf 1
    have rl := rb.lt
    go_enter Try.func35, Try.ntmps35
    go_wp2_with fail
    clear et0 et1 lt es0 es1 ls re0 rf0 re1 rf1 rl
    have Hw0 : Hid ((((w.alloc (.cells #[.string t.name, .slice ta t.args.length tc] 29)).alloc (.cells #[.string s.name, .slice sa s.args.length sc] 29)).alloc (.cells #[.string ⟨#[]⟩, .slice none 0 0] 29)).heap.size = w.heap.size + 1 + 1 + 1) := by simp [Hid]
    generalize (((w.alloc (.cells #[.string t.name, .slice ta t.args.length tc] 29)).alloc (.cells #[.string s.name, .slice sa s.args.length sc] 29)).alloc (.cells #[.string ⟨#[]⟩, .slice none 0 0] 29)) = w0 at *
    have hq := copyTerm_any t _ _ _ _ ht hbt
    refine hq.mono ?_
    rintro e w1 ⟨v1, F1, rfl, ho1, hF1, hb⟩
    replace hW := hW.trans (hb.mono hW.size)
    replace bt := bt.keep hb
    replace ht := Tm.at_keep (Keeps.all hb) ht
    replace bs := bs.keep hb
    replace hs := Tm.at_keep (Keeps.all hb) hs
    replace rf := fun p => (hb.frozen (p := ⟨_, p, none⟩) rb.lt).trans (rf p)
    replace rb := rb.keep hb
    replace hp := D.rd_keep (Keeps.all hb) _ _ hp
    clear hb hq
    have HF1 := hid (D.own_lt _ _ _ ho1)
    obtain ⟨va, vc, rfl⟩ := Tm.sd_own_form ho1
    have hb : Below w1.heap.size w1 (w1.alloc (.cells #[.string t.name, .slice va t.args.length vc] 29)) := (Below.refl _ _).alloc (Nat.le_refl _) _
    have b7 : Box (w1.alloc (.cells #[.string t.name, .slice va t.args.length vc] 29)) w1.heap.size [.string t.name, .slice va t.args.length vc] := Box.new _ _ _
    have et0 := bt.c0
    have et1 := bt.c1
    have lt := bt.lt
    have es0 := bs.c0
    have es1 := bs.c1
    have ls := bs.lt
    have re0 := rb.c0
    have rf0 := rf 0
    have re1 := rb.c1
    have rf1 := rf 1
    have rl := rb.lt
    go_wp2_with fail
    clear et0 et1 lt es0 es1 ls re0 rf0 re1 rf1 rl
    replace ho1 := D.own_keep _ _ _ (Keeps.all hb) ho1
    replace hW := hW.trans (hb.mono hW.size)
    replace bt := bt.keep hb
    replace ht := Tm.at_keep (Keeps.all hb) ht
    replace bs := bs.keep hb
    replace hs := Tm.at_keep (Keeps.all hb) hs
    replace rf := fun p => (hb.frozen (p := ⟨_, p, none⟩) rb.lt).trans (rf p)
    replace rb := rb.keep hb
    replace hp := D.rd_keep (Keeps.all hb) _ _ hp
    have hw12 := hb.size
    clear hb
    have HW2 : Hid (w1.heap.size < (w1.alloc (.cells #[.string t.name, .slice va t.args.length vc] 29)).heap.size) := by simp [Hid]
    generalize w1.alloc (.cells #[.string t.name, .slice va t.args.length vc] 29) = w2 at *
    have hne : t.args ≠ [] := by intro e; rw [e] at hkl; simp at hkl
    obtain ⟨b1, off1, F1', rfl, rfl⟩ := own_at ho1 (Tm.css_ne hne)
    obtain ⟨⟨o0, z0⟩, fz0⟩ := own_cell ho1 (i := kn * 2) (by rw [Tm.css_len]; omega)
    obtain ⟨⟨o1, z1⟩, fz1⟩ := own_cell ho1 (i := kn * 2 + 1) (by rw [Tm.css_len]; omega)
    rw [← Nat.add_assoc] at z1 fz1
    obtain ⟨b, off, rfl, -, hbl, hrr⟩ := Tm.sd_get HT0.out hne
    obtain ⟨e0, e1, y0, y1, y2⟩ := hrr kn hkl
    replace y0 := (hW.cell (p := ⟨b, off + kn * 2, none⟩) hbl).trans y0
    replace y1 := (hW.cell (p := ⟨b, off + kn * 2 + 1, none⟩) hbl).trans y1
    replace y2 := Tm.at_keep (Keeps.all hW) y2
    obtain ⟨rfl, -, ya, yc, rfl⟩ := Tm.at_form y2
    obtain ⟨pb', poff', ep, -, hpb2, hprr2⟩ := ints_get hp (by simp)
    obtain ⟨rfl, rfl⟩ : pb = pb' ∧ poff = poff' := by injection ep with ep; injection ep with e1 e2; exact ⟨e1, e2⟩
    have p0 : w2.cell? ⟨pb, poff, none⟩ = some (.int .i64 kn) := (hprr2 0 (by simp)).1
    have hkn1 : (kn : Int) < t.args.length := by omega
    have hkn0 : (0 : Int) ≤ kn := by omega
    have hp1 : (1 : Int) ≤ (p.length : Int) + 1 := by omega
    have hp2 : (p.length : Int) + 1 ≤ pc := by omega
    have hpt := rd_tail hp (by omega)
    have hD : Below w2.heap.size w2 w2.drew := (Below.refl _ _).drew
    have hbk2 : t.args[kn].bulk ≤ 1048576 := by have := Tm.bulk_mem (List.getElem_mem hkl); have := Tm.args_bulk t; omega
    have hpl2 : p.length ≤ 1048576 := by omega
    have hH0 := Hw0.out
    have hb11 := hF1 b1 (by simp)
    have hb12 : b1 < w2.heap.size := D.own_lt _ _ _ ho1 b1 (by simp)
    have hb13 : b1 < w1.heap.size := HF1.out b1 (by simp)
    have hwz2 := hW.size
    have hbsl := bs.lt
    have hHW2 := HW2.out
    have hx1 := bt.c1
    have hs0 := bs.c0
    have hs1 := bs.c1
    have h71 := b7.c1
    by_cases hpc : pc = 1
    rotate_left
    · have hpc' := hpc
      rw [if_neg hpc] at hpt
      clear hrr hprr hprr2
      go_region_held3 (fun w' => w'.cell? ⟨w1.heap.size, 1, none⟩ = some (.slice (some ⟨b1, off1, none⟩) t.args.length vc) ∧ w'.cell? ⟨w.heap.size, 1, none⟩ = some (.slice (some ⟨b, off, none⟩) t.args.length tc) ∧ w'.cell? ⟨pb, poff, none⟩ = some (.int .i64 kn) ∧ w'.cell? ⟨b, off + kn * 2, none⟩ = some (.string t.args[kn].name) ∧ w'.cell? ⟨b, off + kn * 2 + 1, none⟩ = some (.slice ya t.args[kn].args.length yc) ∧ w'.cell? ⟨w.heap.size + 1, 0, none⟩ = some (.string s.name) ∧ w'.cell? ⟨w.heap.size + 1, 1, none⟩ = some (.slice sa s.args.length sc))
        (first | assumption | go_keep | (refine ⟨?_, ?_, ?_, ?_, ?_, ?_, ?_⟩ <;> (rw [World.cell?_setCell_other _ _ _ _ (by intro e; injection e with e; omega), World.cell?_setCell_other _ _ _ _ (by intro e; injection e with e; omega)]; first | exact hS.1 | exact hS.2.1 | exact hS.2.2.1 | exact hS.2.2.2.1 | exact hS.2.2.2.2.1 | exact hS.2.2.2.2.2.1 | exact hS.2.2.2.2.2.2)))
        (first | (go_at_call 35
                  go_must (
                    refine (ih t.args[kn] s S S' S'' _ _ _ _ _ _ (Tm.at_keep (Keeps.all hD) y2) (Tm.at_keep (Keeps.all hD) hs) (D.rd_keep (Keeps.all hD) _ _ hpt) hbk2 hbs hpl2 hok2).mono ?_
                    rintro e w3 ⟨v3, F3, rfl, ho3, hF3, hb3⟩
                    obtain ⟨ra, rc, rfl⟩ := Tm.sd_own_form ho3
                    have hbw3 : Below w2.heap.size w2 w3 := hD.trans (hb3.mono hD.size)
                    have hz3 := hbw3.size
                    have hS : _ ∧ _ ∧ _ ∧ _ ∧ _ ∧ _ ∧ _ := ⟨(hbw3.cell (p := ⟨w1.heap.size, 1, none⟩) HW2.out).trans h71, (hbw3.cell (p := ⟨w.heap.size, 1, none⟩) (by simp; omega)).trans hx1, (hbw3.cell (p := ⟨pb, poff, none⟩) (by simp; omega)).trans p0, (hbw3.cell (p := ⟨b, off + kn * 2, none⟩) (by simp; omega)).trans y0, (hbw3.cell (p := ⟨b, off + kn * 2 + 1, none⟩) (by simp; omega)).trans y1, (hbw3.cell (p := ⟨w.heap.size + 1, 0, none⟩) (by simp; omega)).trans hs0, (hbw3.cell (p := ⟨w.heap.size + 1, 1, none⟩) (by simp; omega)).trans hs1⟩
                    have z0' := (hbw3.cell (p := ⟨b1, off1 + kn * 2, none⟩) hb12).trans z0
                    have z1' := (hbw3.cell (p := ⟨b1, off1 + kn * 2 + 1, none⟩) hb12).trans z1
                    have fz0' := (hbw3.frozen (p := ⟨b1, off1 + kn * 2, none⟩) hb12).trans fz0
                    have fz1' := (hbw3.frozen (p := ⟨b1, off1 + kn * 2 + 1, none⟩) hb12).trans fz1)))
      obtain ⟨F', hoF, hF'⟩ := own_term_set (D.own_keep _ _ _ (Keeps.all hbw3) ho1) hkl ho3 (Tm.put_name _ _ _ (Tm.at_form y2).2.1 sn) (fun x hx q => by have := hF3 x hx; have := D.own_lt _ _ _ ho1 x q; have := hD.size; omega)
      have HB4 := hid hbw3
      obtain ⟨hc4, hf4, hbel4⟩ := set2_keep (w := w3) (b := b1) (o := off1 + kn * 2) (o' := off1 + kn * 2 + 1) (u := .string (t.args[kn].put p s).name) (u' := .slice ra (t.args[kn].put p s).args.length rc)
      have hB4 : Below w.heap.size w _ := (hW.trans (HB4.out.mono hwz2)).trans (hbel4 w.heap.size (by omega))
      have hFL : ∀ x ∈ F', w.heap.size + 1 + 1 + 1 ≤ x := fun x hx => by
        rcases hF' x hx with q | q
        · have := hF1 x q; omega
        · have := hF3 x q; have := hD.size; omega
      have e70 := (hc4 w1.heap.size 0 (by omega)).trans ((HB4.out.cell (p := ⟨w1.heap.size, 0, none⟩) hHW2).trans b7.c0)
      have e71 := (hc4 w1.heap.size 1 (by omega)).trans ((HB4.out.cell (p := ⟨w1.heap.size, 1, none⟩) hHW2).trans b7.c1)
      have r60 := (hc4 (w.heap.size + 1 + 1) 0 (by omega)).trans ((HB4.out.cell (p := ⟨w.heap.size + 1 + 1, 0, none⟩) rb.lt).trans rb.c0)
      have r61 := (hc4 (w.heap.size + 1 + 1) 1 (by omega)).trans ((HB4.out.cell (p := ⟨w.heap.size + 1 + 1, 1, none⟩) rb.lt).trans rb.c1)
      have f6 := fun p => (hf4 ⟨w.heap.size + 1 + 1, p, none⟩).trans ((HB4.out.frozen (p := ⟨w.heap.size + 1 + 1, p, none⟩) rb.lt).trans (rf p))
      have f60 := f6 0
      have f61 := f6 1
      have HPE := HPUT.out
      clear hS hc4 hf4 hbel4 f6
      generalize (w3.setCell ⟨b1, off1 + kn * 2, none⟩ (.string (t.args[kn].put p s).name)).setCell ⟨b1, off1 + kn * 2 + 1, none⟩ (.slice ra (t.args[kn].put p s).args.length rc) = w4 at *
      go_wp2_with fail
      refine bodyPost_ret (v := .agg #[.string t.name, .slice (some ⟨b1, off1, none⟩) t.args.length vc]) (by simp [results, Try.results35, go_sem, r60, r61]; try rfl) rfl ?_
      refine ⟨_, F', rfl, ?_, fun x hx => by have := hFL x hx; omega, (hB4.setCell (by simp; omega) _).setCell (by simp; omega) _⟩
      have hl : (t.args.set kn (t.args[kn].put p s)).length = t.args.length := List.length_set ..
      rw [show (Tm.node t.name (t.args.set kn (t.args[kn].put p s))).args = t.args.set kn (t.args[kn].put p s) from rfl, Tm.sd, hl]
      exact D.own_keep _ _ _ (((Keeps.refl _ _).set_lt hFL (by simp) _).set_lt hFL (by simp) _) hoF
    · rw [if_pos hpc] at hpt
      subst hpc
      obtain rfl : p = [] := List.length_eq_zero_iff.1 (by omega)
      simp only [List.length_nil, Nat.sub_self] at hpt
      clear hrr hprr hprr2
      go_region_held3 (fun w' => w'.cell? ⟨w1.heap.size, 1, none⟩ = some (.slice (some ⟨b1, off1, none⟩) t.args.length vc) ∧ w'.cell? ⟨w.heap.size, 1, none⟩ = some (.slice (some ⟨b, off, none⟩) t.args.length tc) ∧ w'.cell? ⟨pb, poff, none⟩ = some (.int .i64 kn) ∧ w'.cell? ⟨b, off + kn * 2, none⟩ = some (.string t.args[kn].name) ∧ w'.cell? ⟨b, off + kn * 2 + 1, none⟩ = some (.slice ya t.args[kn].args.length yc) ∧ w'.cell? ⟨w.heap.size + 1, 0, none⟩ = some (.string s.name) ∧ w'.cell? ⟨w.heap.size + 1, 1, none⟩ = some (.slice sa s.args.length sc))
        (first | assumption | go_keep | (refine ⟨?_, ?_, ?_, ?_, ?_, ?_, ?_⟩ <;> (rw [World.cell?_setCell_other _ _ _ _ (by intro e; injection e with e; omega), World.cell?_setCell_other _ _ _ _ (by intro e; injection e with e; omega)]; first | exact hS.1 | exact hS.2.1 | exact hS.2.2.1 | exact hS.2.2.2.1 | exact hS.2.2.2.2.1 | exact hS.2.2.2.2.2.1 | exact hS.2.2.2.2.2.2)))
        (first | (go_at_call 35
                  go_must (
                    refine (ih t.args[kn] s S S' S'' _ _ _ _ _ _ (Tm.at_keep (Keeps.all hD) y2) (Tm.at_keep (Keeps.all hD) hs) (D.rd_keep (Keeps.all hD) _ _ hpt) hbk2 hbs hpl2 hok2).mono ?_
                    rintro e w3 ⟨v3, F3, rfl, ho3, hF3, hb3⟩
                    obtain ⟨ra, rc, rfl⟩ := Tm.sd_own_form ho3
                    have hbw3 : Below w2.heap.size w2 w3 := hD.trans (hb3.mono hD.size)
                    have hz3 := hbw3.size
                    have hS : _ ∧ _ ∧ _ ∧ _ ∧ _ ∧ _ ∧ _ := ⟨(hbw3.cell (p := ⟨w1.heap.size, 1, none⟩) HW2.out).trans h71, (hbw3.cell (p := ⟨w.heap.size, 1, none⟩) (by simp; omega)).trans hx1, (hbw3.cell (p := ⟨pb, poff, none⟩) (by simp; omega)).trans p0, (hbw3.cell (p := ⟨b, off + kn * 2, none⟩) (by simp; omega)).trans y0, (hbw3.cell (p := ⟨b, off + kn * 2 + 1, none⟩) (by simp; omega)).trans y1, (hbw3.cell (p := ⟨w.heap.size + 1, 0, none⟩) (by simp; omega)).trans hs0, (hbw3.cell (p := ⟨w.heap.size + 1, 1, none⟩) (by simp; omega)).trans hs1⟩
                    have z0' := (hbw3.cell (p := ⟨b1, off1 + kn * 2, none⟩) hb12).trans z0
                    have z1' := (hbw3.cell (p := ⟨b1, off1 + kn * 2 + 1, none⟩) hb12).trans z1
                    have fz0' := (hbw3.frozen (p := ⟨b1, off1 + kn * 2, none⟩) hb12).trans fz0
                    have fz1' := (hbw3.frozen (p := ⟨b1, off1 + kn * 2 + 1, none⟩) hb12).trans fz1)))
      obtain ⟨F', hoF, hF'⟩ := own_term_set (D.own_keep _ _ _ (Keeps.all hbw3) ho1) hkl ho3 (Tm.put_name _ _ _ (Tm.at_form y2).2.1 sn) (fun x hx q => by have := hF3 x hx; have := D.own_lt _ _ _ ho1 x q; have := hD.size; omega)
      have HB4 := hid hbw3
      obtain ⟨hc4, hf4, hbel4⟩ := set2_keep (w := w3) (b := b1) (o := off1 + kn * 2) (o' := off1 + kn * 2 + 1) (u := .string (t.args[kn].put [] s).name) (u' := .slice ra (t.args[kn].put [] s).args.length rc)
      have hB4 : Below w.heap.size w _ := (hW.trans (HB4.out.mono hwz2)).trans (hbel4 w.heap.size (by omega))
      have hFL : ∀ x ∈ F', w.heap.size + 1 + 1 + 1 ≤ x := fun x hx => by
        rcases hF' x hx with q | q
        · have := hF1 x q; omega
        · have := hF3 x q; have := hD.size; omega
      have e70 := (hc4 w1.heap.size 0 (by omega)).trans ((HB4.out.cell (p := ⟨w1.heap.size, 0, none⟩) hHW2).trans b7.c0)
      have e71 := (hc4 w1.heap.size 1 (by omega)).trans ((HB4.out.cell (p := ⟨w1.heap.size, 1, none⟩) hHW2).trans b7.c1)
      have r60 := (hc4 (w.heap.size + 1 + 1) 0 (by omega)).trans ((HB4.out.cell (p := ⟨w.heap.size + 1 + 1, 0, none⟩) rb.lt).trans rb.c0)
      have r61 := (hc4 (w.heap.size + 1 + 1) 1 (by omega)).trans ((HB4.out.cell (p := ⟨w.heap.size + 1 + 1, 1, none⟩) rb.lt).trans rb.c1)
      have f6 := fun p => (hf4 ⟨w.heap.size + 1 + 1, p, none⟩).trans ((HB4.out.frozen (p := ⟨w.heap.size + 1 + 1, p, none⟩) rb.lt).trans (rf p))
      have f60 := f6 0
      have f61 := f6 1
      have HPE := HPUT.out
      clear hS hc4 hf4 hbel4 f6
      generalize (w3.setCell ⟨b1, off1 + kn * 2, none⟩ (.string (t.args[kn].put [] s).name)).setCell ⟨b1, off1 + kn * 2 + 1, none⟩ (.slice ra (t.args[kn].put [] s).args.length rc) = w4 at *
      go_wp2_with fail
      refine bodyPost_ret (v := .agg #[.string t.name, .slice (some ⟨b1, off1, none⟩) t.args.length vc]) (by simp [results, Try.results35, go_sem, r60, r61]; try rfl) rfl ?_
      refine ⟨_, F', rfl, ?_, fun x hx => by have := hFL x hx; omega, (hB4.setCell (by simp; omega) _).setCell (by simp; omega) _⟩
      have hl : (t.args.set kn (t.args[kn].put [] s)).length = t.args.length := List.length_set ..
      rw [show (Tm.node t.name (t.args.set kn (t.args[kn].put [] s))).args = t.args.set kn (t.args[kn].put [] s) from rfl, Tm.sd, hl]
      exact D.own_keep _ _ _ (((Keeps.refl _ _).set_lt hFL (by simp) _).set_lt hFL (by simp) _) hoF
  · cases hok
theorem repIs_any_I : ∀ p : List Int, RepIs 35 p
  | [] => repIs_nil_I
  | k :: p => repIs_cons_I k p (repIs_any_I p)
set_option maxHeartbeats 2000000 in
theorem repIs_nil_S : RepIs 30 [] := by
  intro t s S S' S'' c0 c1 d0 d1 v w ht hs hp hbt hbs hpl hok
  obtain ⟨pa, pc, rfl, hlen, hcap⟩ := slOf_form hp
  rw [Tm.put]
  have hq0 := fun w' hk => ownT_any s S'' d0 d1 w' (Tm.at_keep hk hs) hbs
  clear hq0
  obtain ⟨rfl, tn, ta, tc, rfl⟩ := Tm.at_form ht
  obtain ⟨rfl, sn, sa, sc, rfl⟩ := Tm.at_form hs
  have hW : Below w.heap.size w (((w.alloc (.cells #[.string t.name, .slice ta t.args.length tc] 29)).alloc (.cells #[.string s.name, .slice sa s.args.length sc] 29)).alloc (.cells #[.string ⟨#[]⟩, .slice none 0 0] 29)) := (((Below.refl _ _).alloc (Nat.le_refl _) _).alloc (by simp) _).alloc (by simp; omega) _
  have bt : Box (((w.alloc (.cells #[.string t.name, .slice ta t.args.length tc] 29)).alloc (.cells #[.string s.name, .slice sa s.args.length sc] 29)).alloc (.cells #[.string ⟨#[]⟩, .slice none 0 0] 29)) (w.heap.size) [.string t.name, .slice ta t.args.length tc] := by
    have := (((Box.new w [.string t.name, .slice ta t.args.length tc] 29).alloc (.cells #[.string s.name, .slice sa s.args.length sc] 29)).alloc (.cells #[.string ⟨#[]⟩, .slice none 0 0] 29))
    simpa only [World.size_alloc] using this
  have bs : Box (((w.alloc (.cells #[.string t.name, .slice ta t.args.length tc] 29)).alloc (.cells #[.string s.name, .slice sa s.args.length sc] 29)).alloc (.cells #[.string ⟨#[]⟩, .slice none 0 0] 29)) (w.heap.size + 1) [.string s.name, .slice sa s.args.length sc] := by
    have := ((Box.new (w.alloc (.cells #[.string t.name, .slice ta t.args.length tc] 29)) [.string s.name, .slice sa s.args.length sc] 29).alloc (.cells #[.string ⟨#[]⟩, .slice none 0 0] 29))
    simpa only [World.size_alloc] using this
  have rb : Box (((w.alloc (.cells #[.string t.name, .slice ta t.args.length tc] 29)).alloc (.cells #[.string s.name, .slice sa s.args.length sc] 29)).alloc (.cells #[.string ⟨#[]⟩, .slice none 0 0] 29)) (w.heap.size + 1 + 1) [.string ⟨#[]⟩, .slice none 0 0] := by
    have := (Box.new ((w.alloc (.cells #[.string t.name, .slice ta t.args.length tc] 29)).alloc (.cells #[.string s.name, .slice sa s.args.length sc] 29)) [.string ⟨#[]⟩, .slice none 0 0] 29)
    simpa only [World.size_alloc] using this
  have rf : ∀ p, (((w.alloc (.cells #[.string t.name, .slice ta t.args.length tc] 29)).alloc (.cells #[.string s.name, .slice sa s.args.length sc] 29)).alloc (.cells #[.string ⟨#[]⟩, .slice none 0 0] 29)).frozen? ⟨w.heap.size + 1 + 1, p, none⟩ = false := fun p => World.frozen?_alloc_at _ _ _ p (by simp)
  replace ht := Tm.at_keep (Keeps.all hW) ht
  replace hs := Tm.at_keep (Keeps.all hW) hs
  replace hp := D.rd_keep (Keeps.all hW) _ _ hp
  have et0 := bt.c0
  have et1 := bt.c1
  have lt := bt.lt
  have es0 := bs.c0
  have es1 := bs.c1
  have ls := bs.lt
  have re0 := rb.c0
  have rf0 := rf 0
  have re1 := rb.c1
  have rf1 := rf 1
  have rl := rb.lt
  go_enter Try.func30, Try.ntmps30
  go_wp2_with fail
  clear et0 et1 lt es0 es1 ls re0 rf0 re1 rf1 rl
  have Hw0 : Hid ((((w.alloc (.cells #[.string t.name, .slice ta t.args.length tc] 29)).alloc (.cells #[.string s.name, .slice sa s.args.length sc] 29)).alloc (.cells #[.string ⟨#[]⟩, .slice none 0 0] 29)).heap.size = w.heap.size + 1 + 1 + 1) := by simp [Hid]
  generalize (((w.alloc (.cells #[.string t.name, .slice ta t.args.length tc] 29)).alloc (.cells #[.string s.name, .slice sa s.args.length sc] 29)).alloc (.cells #[.string ⟨#[]⟩, .slice none 0 0] 29)) = w0 at *
  have hq := ownT_any s _ _ _ _ hs hbs
  refine hq.mono ?_
  rintro e w1 ⟨v1, F1, rfl, ho1, hF1, hb⟩
  replace hW := hW.trans (hb.mono hW.size)
  replace bt := bt.keep hb
  replace ht := Tm.at_keep (Keeps.all hb) ht
  replace bs := bs.keep hb
  replace hs := Tm.at_keep (Keeps.all hb) hs
  replace rf := fun p => (hb.frozen (p := ⟨_, p, none⟩) rb.lt).trans (rf p)
  replace rb := rb.keep hb
  replace hp := D.rd_keep (Keeps.all hb) _ _ hp
  obtain ⟨va, vc, rfl⟩ := Tm.sd_own_form ho1
  have hwz := hW.size
  have hH0 := Hw0.out
  clear hb hq
  have et0 := bt.c0
  have et1 := bt.c1
  have lt := bt.lt
  have es0 := bs.c0
  have es1 := bs.c1
  have ls := bs.lt
  have re0 := rb.c0
  have rf0 := rf 0
  have re1 := rb.c1
  have rf1 := rf 1
  have rl := rb.lt
  go_wp2_with fail
  refine bodyPost_ret (v := .agg #[.string s.name, .slice va s.args.length vc]) (by simp [results, Try.results30, go_sem, rb.c0, rb.c1]; try rfl) rfl ?_
  refine ⟨_, F1, rfl, D.own_keep _ _ _ (((Keeps.refl _ _).set_lt hF1 (by simp; omega) _).set_lt hF1 (by simp; omega) _) ho1, fun x hx => by have := hF1 x hx; omega, (hW.setCell (by simp; omega) _).setCell (by simp; omega) _⟩
set_option maxHeartbeats 4000000 in
theorem repIs_cons_S (k : Int) (p : List Int) (ih : RepIs 30 p) : RepIs 30 (k :: p) := by
  intro t s S S' S'' c0 c1 d0 d1 v w ht hs hp hbt hbs hpl hok
  obtain ⟨pa, pc, rfl, hlen, hcap⟩ := slOf_form hp
  obtain ⟨pb, poff, rfl, -, hpb, hprr⟩ := ints_get hp (by simp)
  rw [Tm.sub] at hok
  split at hok
  · rename_i hk
    obtain ⟨kn, hkn⟩ : ∃ n : Nat, k = (n : Int) := ⟨k.toNat, by omega⟩
    subst hkn
    have hkl : kn < t.args.length := by simpa using hk.2
    have hok2 : (t.args[kn].sub p).isSome = true := by simpa using hok
    have HPUT : Hid (t.put ((kn : Int) :: p) s = .node t.name (t.args.set kn (Tm.put t.args[kn] p s))) := by rw [Hid, Tm.put, dif_pos hk]; simp
    have hz0 : (((p.length + 1 : Nat) : Int) == 0) = false := by simp; omega
    rw [HPUT.out]
    have HP := hid hp
    have HT0 := hid ht.2
    clear hok hk
    simp only [List.length_cons] at *
    obtain ⟨rfl, tn, ta, tc, rfl⟩ := Tm.at_form ht
    obtain ⟨rfl, sn, sa, sc, rfl⟩ := Tm.at_form hs
    have hW : Below w.heap.size w (((w.alloc (.cells #[.string t.name, .slice ta t.args.length tc] 29)).alloc (.cells #[.string s.name, .slice sa s.args.length sc] 29)).alloc (.cells #[.string ⟨#[]⟩, .slice none 0 0] 29)) := (((Below.refl _ _).alloc (Nat.le_refl _) _).alloc (by simp) _).alloc (by simp; omega) _
    have bt : Box (((w.alloc (.cells #[.string t.name, .slice ta t.args.length tc] 29)).alloc (.cells #[.string s.name, .slice sa s.args.length sc] 29)).alloc (.cells #[.string ⟨#[]⟩, .slice none 0 0] 29)) (w.heap.size) [.string t.name, .slice ta t.args.length tc] := by
      have := (((Box.new w [.string t.name, .slice ta t.args.length tc] 29).alloc (.cells #[.string s.name, .slice sa s.args.length sc] 29)).alloc (.cells #[.string ⟨#[]⟩, .slice none 0 0] 29))
      simpa only [World.size_alloc] using this
    have bs : Box (((w.alloc (.cells #[.string t.name, .slice ta t.args.length tc] 29)).alloc (.cells #[.string s.name, .slice sa s.args.length sc] 29)).alloc (.cells #[.string ⟨#[]⟩, .slice none 0 0] 29)) (w.heap.size + 1) [.string s.name, .slice sa s.args.length sc] := by
      have := ((Box.new (w.alloc (.cells #[.string t.name, .slice ta t.args.length tc] 29)) [.string s.name, .slice sa s.args.length sc] 29).alloc (.cells #[.string ⟨#[]⟩, .slice none 0 0] 29))
      simpa only [World.size_alloc] using this
    have rb : Box (((w.alloc (.cells #[.string t.name, .slice ta t.args.length tc] 29)).alloc (.cells #[.string s.name, .slice sa s.args.length sc] 29)).alloc (.cells #[.string ⟨#[]⟩, .slice none 0 0] 29)) (w.heap.size + 1 + 1) [.string ⟨#[]⟩, .slice none 0 0] := by
      have := (Box.new ((w.alloc (.cells #[.string t.name, .slice ta t.args.length tc] 29)).alloc (.cells #[.string s.name, .slice sa s.args.length sc] 29)) [.string ⟨#[]⟩, .slice none 0 0] 29)
      simpa only [World.size_alloc] using this
    have rf : ∀ p, (((w.alloc (.cells #[.string t.name, .slice ta t.args.length tc] 29)).alloc (.cells #[.string s.name, .slice sa s.args.length sc] 29)).alloc (.cells #[.string ⟨#[]⟩, .slice none 0 0] 29)).frozen? ⟨w.heap.size + 1 + 1, p, none⟩ = false := fun p => World.frozen?_alloc_at _ _ _ p (by simp)
    replace ht := Tm.at_keep (Keeps.all hW) ht
    replace hs := Tm.at_keep (Keeps.all hW) hs
    replace hp := D.rd_keep (Keeps.all hW) _ _ hp
    have et0 := bt.c0
    have et1 := bt.c1
    have lt := bt.lt
    have es0 := bs.c0
    have es1 := bs.c1
    have ls := bs.lt
    have re0 := rb.c0
    have rf0 := rf 0
    have re1 := rb.c1
    have rf1 := rf 1
    have rl := rb.lt
    go_enter Try.func30, Try.ntmps30
    go_wp2_with fail
    clear et0 et1 lt es0 es1 ls re0 rf0 re1 rf1 rl
    have Hw0 : Hid ((((w.alloc (.cells #[.string t.name, .slice ta t.args.length tc] 29)).alloc (.cells #[.string s.name, .slice sa s.args.length sc] 29)).alloc (.cells #[.string ⟨#[]⟩, .slice none 0 0] 29)).heap.size = w.heap.size + 1 + 1 + 1) := by simp [Hid]
    generalize (((w.alloc (.cells #[.string t.name, .slice ta t.args.length tc] 29)).alloc (.cells #[.string s.name, .slice sa s.args.length sc] 29)).alloc (.cells #[.string ⟨#[]⟩, .slice none 0 0] 29)) = w0 at *
    have hq := ownT_any t _ _ _ _ ht hbt
    refine hq.mono ?_
    rintro e w1 ⟨v1, F1, rfl, ho1, hF1, hb⟩
    replace hW := hW.trans (hb.mono hW.size)
    replace bt := bt.keep hb
    replace ht := Tm.at_keep (Keeps.all hb) ht
    replace bs := bs.keep hb
    replace hs := Tm.at_keep (Keeps.all hb) hs
    replace rf := fun p => (hb.frozen (p := ⟨_, p, none⟩) rb.lt).trans (rf p)
    replace rb := rb.keep hb
    replace hp := D.rd_keep (Keeps.all hb) _ _ hp
    clear hb hq
    have HF1 := hid (D.own_lt _ _ _ ho1)
    obtain ⟨va, vc, rfl⟩ := Tm.sd_own_form ho1
    have hb : Below w1.heap.size w1 (w1.alloc (.cells #[.string t.name, .slice va t.args.length vc] 29)) := (Below.refl _ _).alloc (Nat.le_refl _) _
    have b7 : Box (w1.alloc (.cells #[.string t.name, .slice va t.args.length vc] 29)) w1.heap.size [.string t.name, .slice va t.args.length vc] := Box.new _ _ _
    have et0 := bt.c0
    have et1 := bt.c1
    have lt := bt.lt
    have es0 := bs.c0
    have es1 := bs.c1
    have ls := bs.lt
    have re0 := rb.c0
    have rf0 := rf 0
    have re1 := rb.c1
    have rf1 := rf 1
    have rl := rb.lt
    go_wp2_with fail
    clear et0 et1 lt es0 es1 ls re0 rf0 re1 rf1 rl
    replace ho1 := D.own_keep _ _ _ (Keeps.all hb) ho1
    replace hW := hW.trans (hb.mono hW.size)
    replace bt := bt.keep hb
    replace ht := Tm.at_keep (Keeps.all hb) ht
    replace bs := bs.keep hb
    replace hs := Tm.at_keep (Keeps.all hb) hs
    replace rf := fun p => (hb.frozen (p := ⟨_, p, none⟩) rb.lt).trans (rf p)
    replace rb := rb.keep hb
    replace hp := D.rd_keep (Keeps.all hb) _ _ hp
    have hw12 := hb.size
    clear hb
    have HW2 : Hid (w1.heap.size < (w1.alloc (.cells #[.string t.name, .slice va t.args.length vc] 29)).heap.size) := by simp [Hid]
    generalize w1.alloc (.cells #[.string t.name, .slice va t.args.length vc] 29) = w2 at *
    have hne : t.args ≠ [] := by intro e; rw [e] at hkl; simp at hkl
    obtain ⟨b1, off1, F1', rfl, rfl⟩ := own_at ho1 (Tm.css_ne hne)
    obtain ⟨⟨o0, z0⟩, fz0⟩ := own_cell ho1 (i := kn * 2) (by rw [Tm.css_len]; omega)
    obtain ⟨⟨o1, z1⟩, fz1⟩ := own_cell ho1 (i := kn * 2 + 1) (by rw [Tm.css_len]; omega)
    rw [← Nat.add_assoc] at z1 fz1
    obtain ⟨b, off, rfl, -, hbl, hrr⟩ := Tm.sd_get HT0.out hne
    obtain ⟨e0, e1, y0, y1, y2⟩ := hrr kn hkl
    replace y0 := (hW.cell (p := ⟨b, off + kn * 2, none⟩) hbl).trans y0
    replace y1 := (hW.cell (p := ⟨b, off + kn * 2 + 1, none⟩) hbl).trans y1
    replace y2 := Tm.at_keep (Keeps.all hW) y2
    obtain ⟨rfl, -, ya, yc, rfl⟩ := Tm.at_form y2
    obtain ⟨pb', poff', ep, -, hpb2, hprr2⟩ := ints_get hp (by simp)
    obtain ⟨rfl, rfl⟩ : pb = pb' ∧ poff = poff' := by injection ep with ep; injection ep with e1 e2; exact ⟨e1, e2⟩
    have p0 : w2.cell? ⟨pb, poff, none⟩ = some (.int .i64 kn) := (hprr2 0 (by simp)).1
    have hkn1 : (kn : Int) < t.args.length := by omega
    have hkn0 : (0 : Int) ≤ kn := by omega
    have hp1 : (1 : Int) ≤ (p.length : Int) + 1 := by omega
    have hp2 : (p.length : Int) + 1 ≤ pc := by omega
    have hpt := rd_tail hp (by omega)
    have hD : Below w2.heap.size w2 w2.drew := (Below.refl _ _).drew
    have hbk2 : t.args[kn].bulk ≤ 1048576 := by have := Tm.bulk_mem (List.getElem_mem hkl); have := Tm.args_bulk t; omega
    have hpl2 : p.length ≤ 1048576 := by omega
    have hH0 := Hw0.out
    have hb11 := hF1 b1 (by simp)
    have hb12 : b1 < w2.heap.size := D.own_lt _ _ _ ho1 b1 (by simp)
    have hb13 : b1 < w1.heap.size := HF1.out b1 (by simp)
    have hwz2 := hW.size
    have hbsl := bs.lt
    have hHW2 := HW2.out
    have hx1 := bt.c1
    have hs0 := bs.c0
    have hs1 := bs.c1
    have h71 := b7.c1
    by_cases hpc : pc = 1
    rotate_left
    · have hpc' := hpc
      rw [if_neg hpc] at hpt
      clear hrr hprr hprr2
      go_region_held3 (fun w' => w'.cell? ⟨w1.heap.size, 1, none⟩ = some (.slice (some ⟨b1, off1, none⟩) t.args.length vc) ∧ w'.cell? ⟨w.heap.size, 1, none⟩ = some (.slice (some ⟨b, off, none⟩) t.args.length tc) ∧ w'.cell? ⟨pb, poff, none⟩ = some (.int .i64 kn) ∧ w'.cell? ⟨b, off + kn * 2, none⟩ = some (.string t.args[kn].name) ∧ w'.cell? ⟨b, off + kn * 2 + 1, none⟩ = some (.slice ya t.args[kn].args.length yc) ∧ w'.cell? ⟨w.heap.size + 1, 0, none⟩ = some (.string s.name) ∧ w'.cell? ⟨w.heap.size + 1, 1, none⟩ = some (.slice sa s.args.length sc))
        (first | assumption | go_keep | (refine ⟨?_, ?_, ?_, ?_, ?_, ?_, ?_⟩ <;> (rw [World.cell?_setCell_other _ _ _ _ (by intro e; injection e with e; omega), World.cell?_setCell_other _ _ _ _ (by intro e; injection e with e; omega)]; first | exact hS.1 | exact hS.2.1 | exact hS.2.2.1 | exact hS.2.2.2.1 | exact hS.2.2.2.2.1 | exact hS.2.2.2.2.2.1 | exact hS.2.2.2.2.2.2)))
        (first | (go_at_call 30
                  go_must (
                    refine (ih t.args[kn] s S S' S'' _ _ _ _ _ _ (Tm.at_keep (Keeps.all hD) y2) (Tm.at_keep (Keeps.all hD) hs) (D.rd_keep (Keeps.all hD) _ _ hpt) hbk2 hbs hpl2 hok2).mono ?_
                    rintro e w3 ⟨v3, F3, rfl, ho3, hF3, hb3⟩
                    obtain ⟨ra, rc, rfl⟩ := Tm.sd_own_form ho3
                    have hbw3 : Below w2.heap.size w2 w3 := hD.trans (hb3.mono hD.size)
                    have hz3 := hbw3.size
                    have hS : _ ∧ _ ∧ _ ∧ _ ∧ _ ∧ _ ∧ _ := ⟨(hbw3.cell (p := ⟨w1.heap.size, 1, none⟩) HW2.out).trans h71, (hbw3.cell (p := ⟨w.heap.size, 1, none⟩) (by simp; omega)).trans hx1, (hbw3.cell (p := ⟨pb, poff, none⟩) (by simp; omega)).trans p0, (hbw3.cell (p := ⟨b, off + kn * 2, none⟩) (by simp; omega)).trans y0, (hbw3.cell (p := ⟨b, off + kn * 2 + 1, none⟩) (by simp; omega)).trans y1, (hbw3.cell (p := ⟨w.heap.size + 1, 0, none⟩) (by simp; omega)).trans hs0, (hbw3.cell (p := ⟨w.heap.size + 1, 1, none⟩) (by simp; omega)).trans hs1⟩
                    have z0' := (hbw3.cell (p := ⟨b1, off1 + kn * 2, none⟩) hb12).trans z0
                    have z1' := (hbw3.cell (p := ⟨b1, off1 + kn * 2 + 1, none⟩) hb12).trans z1
                    have fz0' := (hbw3.frozen (p := ⟨b1, off1 + kn * 2, none⟩) hb12).trans fz0
                    have fz1' := (hbw3.frozen (p := ⟨b1, off1 + kn * 2 + 1, none⟩) hb12).trans fz1)))
      obtain ⟨F', hoF, hF'⟩ := own_term_set (D.own_keep _ _ _ (Keeps.all hbw3) ho1) hkl ho3 (Tm.put_name _ _ _ (Tm.at_form y2).2.1 sn) (fun x hx q => by have := hF3 x hx; have := D.own_lt _ _ _ ho1 x q; have := hD.size; omega)
      have HB4 := hid hbw3
      obtain ⟨hc4, hf4, hbel4⟩ := set2_keep (w := w3) (b := b1) (o := off1 + kn * 2) (o' := off1 + kn * 2 + 1) (u := .string (t.args[kn].put p s).name) (u' := .slice ra (t.args[kn].put p s).args.length rc)
      have hB4 : Below w.heap.size w _ := (hW.trans (HB4.out.mono hwz2)).trans (hbel4 w.heap.size (by omega))
      have hFL : ∀ x ∈ F', w.heap.size + 1 + 1 + 1 ≤ x := fun x hx => by
        rcases hF' x hx with q | q
        · have := hF1 x q; omega
        · have := hF3 x q; have := hD.size; omega
      have e70 := (hc4 w1.heap.size 0 (by omega)).trans ((HB4.out.cell (p := ⟨w1.heap.size, 0, none⟩) hHW2).trans b7.c0)
      have e71 := (hc4 w1.heap.size 1 (by omega)).trans ((HB4.out.cell (p := ⟨w1.heap.size, 1, none⟩) hHW2).trans b7.c1)
      have r60 := (hc4 (w.heap.size + 1 + 1) 0 (by omega)).trans ((HB4.out.cell (p := ⟨w.heap.size + 1 + 1, 0, none⟩) rb.lt).trans rb.c0)
      have r61 := (hc4 (w.heap.size + 1 + 1) 1 (by omega)).trans ((HB4.out.cell (p := ⟨w.heap.size + 1 + 1, 1, none⟩) rb.lt).trans rb.c1)
      have f6 := fun p => (hf4 ⟨w.heap.size + 1 + 1, p, none⟩).trans ((HB4.out.frozen (p := ⟨w.heap.size + 1 + 1, p, none⟩) rb.lt).trans (rf p))
      have f60 := f6 0
      have f61 := f6 1
      have HPE := HPUT.out
      clear hS hc4 hf4 hbel4 f6
      generalize (w3.setCell ⟨b1, off1 + kn * 2, none⟩ (.string (t.args[kn].put p s).name)).setCell ⟨b1, off1 + kn * 2 + 1, none⟩ (.slice ra (t.args[kn].put p s).args.length rc) = w4 at *
      go_wp2_with fail
      refine bodyPost_ret (v := .agg #[.string t.name, .slice (some ⟨b1, off1, none⟩) t.args.length vc]) (by simp [results, Try.results30, go_sem, r60, r61]; try rfl) rfl ?_
      refine ⟨_, F', rfl, ?_, fun x hx => by have := hFL x hx; omega, (hB4.setCell (by simp; omega) _).setCell (by simp; omega) _⟩
      have hl : (t.args.set kn (t.args[kn].put p s)).length = t.args.length := List.length_set ..
      rw [show (Tm.node t.name (t.args.set kn (t.args[kn].put p s))).args = t.args.set kn (t.args[kn].put p s) from rfl, Tm.sd, hl]
      exact D.own_keep _ _ _ (((Keeps.refl _ _).set_lt hFL (by simp) _).set_lt hFL (by simp) _) hoF
    · rw [if_pos hpc] at hpt
      subst hpc
      obtain rfl : p = [] := List.length_eq_zero_iff.1 (by omega)
      simp only [List.length_nil, Nat.sub_self] at hpt
      clear hrr hprr hprr2
      go_region_held3 (fun w' => w'.cell? ⟨w1.heap.size, 1, none⟩ = some (.slice (some ⟨b1, off1, none⟩) t.args.length vc) ∧ w'.cell? ⟨w.heap.size, 1, none⟩ = some (.slice (some ⟨b, off, none⟩) t.args.length tc) ∧ w'.cell? ⟨pb, poff, none⟩ = some (.int .i64 kn) ∧ w'.cell? ⟨b, off + kn * 2, none⟩ = some (.string t.args[kn].name) ∧ w'.cell? ⟨b, off + kn * 2 + 1, none⟩ = some (.slice ya t.args[kn].args.length yc) ∧ w'.cell? ⟨w.heap.size + 1, 0, none⟩ = some (.string s.name) ∧ w'.cell? ⟨w.heap.size + 1, 1, none⟩ = some (.slice sa s.args.length sc))
        (first | assumption | go_keep | (refine ⟨?_, ?_, ?_, ?_, ?_, ?_, ?_⟩ <;> (rw [World.cell?_setCell_other _ _ _ _ (by intro e; injection e with e; omega), World.cell?_setCell_other _ _ _ _ (by intro e; injection e with e; omega)]; first | exact hS.1 | exact hS.2.1 | exact hS.2.2.1 | exact hS.2.2.2.1 | exact hS.2.2.2.2.1 | exact hS.2.2.2.2.2.1 | exact hS.2.2.2.2.2.2)))
        (first | (go_at_call 30
                  go_must (
                    refine (ih t.args[kn] s S S' S'' _ _ _ _ _ _ (Tm.at_keep (Keeps.all hD) y2) (Tm.at_keep (Keeps.all hD) hs) (D.rd_keep (Keeps.all hD) _ _ hpt) hbk2 hbs hpl2 hok2).mono ?_
                    rintro e w3 ⟨v3, F3, rfl, ho3, hF3, hb3⟩
                    obtain ⟨ra, rc, rfl⟩ := Tm.sd_own_form ho3
                    have hbw3 : Below w2.heap.size w2 w3 := hD.trans (hb3.mono hD.size)
                    have hz3 := hbw3.size
                    have hS : _ ∧ _ ∧ _ ∧ _ ∧ _ ∧ _ ∧ _ := ⟨(hbw3.cell (p := ⟨w1.heap.size, 1, none⟩) HW2.out).trans h71, (hbw3.cell (p := ⟨w.heap.size, 1, none⟩) (by simp; omega)).trans hx1, (hbw3.cell (p := ⟨pb, poff, none⟩) (by simp; omega)).trans p0, (hbw3.cell (p := ⟨b, off + kn * 2, none⟩) (by simp; omega)).trans y0, (hbw3.cell (p := ⟨b, off + kn * 2 + 1, none⟩) (by simp; omega)).trans y1, (hbw3.cell (p := ⟨w.heap.size + 1, 0, none⟩) (by simp; omega)).trans hs0, (hbw3.cell (p := ⟨w.heap.size + 1, 1, none⟩) (by simp; omega)).trans hs1⟩
                    have z0' := (hbw3.cell (p := ⟨b1, off1 + kn * 2, none⟩) hb12).trans z0
                    have z1' := (hbw3.cell (p := ⟨b1, off1 + kn * 2 + 1, none⟩) hb12).trans z1
                    have fz0' := (hbw3.frozen (p := ⟨b1, off1 + kn * 2, none⟩) hb12).trans fz0
                    have fz1' := (hbw3.frozen (p := ⟨b1, off1 + kn * 2 + 1, none⟩) hb12).trans fz1)))
      obtain ⟨F', hoF, hF'⟩ := own_term_set (D.own_keep _ _ _ (Keeps.all hbw3) ho1) hkl ho3 (Tm.put_name _ _ _ (Tm.at_form y2).2.1 sn) (fun x hx q => by have := hF3 x hx; have := D.own_lt _ _ _ ho1 x q; have := hD.size; omega)
      have HB4 := hid hbw3
      obtain ⟨hc4, hf4, hbel4⟩ := set2_keep (w := w3) (b := b1) (o := off1 + kn * 2) (o' := off1 + kn * 2 + 1) (u := .string (t.args[kn].put [] s).name) (u' := .slice ra (t.args[kn].put [] s).args.length rc)
      have hB4 : Below w.heap.size w _ := (hW.trans (HB4.out.mono hwz2)).trans (hbel4 w.heap.size (by omega))
      have hFL : ∀ x ∈ F', w.heap.size + 1 + 1 + 1 ≤ x := fun x hx => by
        rcases hF' x hx with q | q
        · have := hF1 x q; omega
        · have := hF3 x q; have := hD.size; omega
      have e70 := (hc4 w1.heap.size 0 (by omega)).trans ((HB4.out.cell (p := ⟨w1.heap.size, 0, none⟩) hHW2).trans b7.c0)
      have e71 := (hc4 w1.heap.size 1 (by omega)).trans ((HB4.out.cell (p := ⟨w1.heap.size, 1, none⟩) hHW2).trans b7.c1)
      have r60 := (hc4 (w.heap.size + 1 + 1) 0 (by omega)).trans ((HB4.out.cell (p := ⟨w.heap.size + 1 + 1, 0, none⟩) rb.lt).trans rb.c0)
      have r61 := (hc4 (w.heap.size + 1 + 1) 1 (by omega)).trans ((HB4.out.cell (p := ⟨w.heap.size + 1 + 1, 1, none⟩) rb.lt).trans rb.c1)
      have f6 := fun p => (hf4 ⟨w.heap.size + 1 + 1, p, none⟩).trans ((HB4.out.frozen (p := ⟨w.heap.size + 1 + 1, p, none⟩) rb.lt).trans (rf p))
      have f60 := f6 0
      have f61 := f6 1
      have HPE := HPUT.out
      clear hS hc4 hf4 hbel4 f6
      generalize (w3.setCell ⟨b1, off1 + kn * 2, none⟩ (.string (t.args[kn].put [] s).name)).setCell ⟨b1, off1 + kn * 2 + 1, none⟩ (.slice ra (t.args[kn].put [] s).args.length rc) = w4 at *
      go_wp2_with fail
      refine bodyPost_ret (v := .agg #[.string t.name, .slice (some ⟨b1, off1, none⟩) t.args.length vc]) (by simp [results, Try.results30, go_sem, r60, r61]; try rfl) rfl ?_
      refine ⟨_, F', rfl, ?_, fun x hx => by have := hFL x hx; omega, (hB4.setCell (by simp; omega) _).setCell (by simp; omega) _⟩
      have hl : (t.args.set kn (t.args[kn].put [] s)).length = t.args.length := List.length_set ..
      rw [show (Tm.node t.name (t.args.set kn (t.args[kn].put [] s))).args = t.args.set kn (t.args[kn].put [] s) from rfl, Tm.sd, hl]
      exact D.own_keep _ _ _ (((Keeps.refl _ _).set_lt hFL (by simp) _).set_lt hFL (by simp) _) hoF
  · cases hok
theorem repIs_any_S : ∀ p : List Int, RepIs 30 p
  | [] => repIs_nil_S
  | k :: p => repIs_cons_S k p (repIs_any_S p)
end Go.Proofs.Ytoblhgaohmfjeaa
