/- ReplaceAt: the program's and the reference's. -/
import Derived.Test.YtoblhgaohmfjeaaRx
namespace Go.Proofs.Ytoblhgaohmfjeaa
set_option maxRecDepth 100000
open Go.RowKit

theorem Tm.bulks_set (u : Tm) : ∀ (ts : List Tm) (k : Nat) (h : k < ts.length), Tm.bulks (ts.set k u) + ts[k].bulk = Tm.bulks ts + u.bulk
  | [], k, h => absurd h (by simp)
  | t :: ts, 0, _ => by simp [Tm.bulks]; omega
  | t :: ts, k + 1, h => by
    have := Tm.bulks_set u ts k (by simpa using h)
    simp only [List.set_cons_succ, Tm.bulks, List.getElem_cons_succ]; omega
theorem Tm.put_bulk (s : Tm) : ∀ (p : List Int) (t : Tm), (t.put p s).bulk ≤ t.bulk + s.bulk
  | [], t => by rw [Tm.put]; omega
  | k :: p, t => by
    rw [Tm.put]
    split
    · rename_i h
      have ih := Tm.put_bulk s p (t.args[k.toNat]'h.2)
      have hb := Tm.bulks_set ((t.args[k.toNat]'h.2).put p s) t.args k.toNat h.2
      cases t
      simp only [Tm.bulk, Tm.name, Tm.args, List.length_set] at *
      omega
    · omega
def repOk (t : Tm) (p : List Int) (s : Tm) : Bool := t.expr && s.valid && (t.sub p).isSome && (t.put p s).expr
def repR (t : Tm) (p : List Int) (s : Tm) : Tm := if repOk t p s = true then t.put p s else noTm
theorem repR_bulk (t : Tm) (p : List Int) (s : Tm) (h : t.bulk + s.bulk ≤ 1048576) : (repR t p s).bulk ≤ 1048576 := by
  unfold repR
  split
  · have := Tm.put_bulk s p t; omega
  · simp [noTm, Tm.bulk, Tm.bulks]

set_option maxHeartbeats 4000000 in
theorem impl_ReplaceAt {t s : Tm} {p : List Int} {S S' S'' : Nat → Prop} {c0 c1 d0 d1 v : Value} {w : World} (ht : Tm.at S w c0 c1 t) (hbt : t.bulk ≤ 1048576) (hp : D.rd S' w v (slOf intE p)) (hl : p.length ≤ 1048576) (hs : Tm.at S'' w d0 d1 s) (hbs : s.bulk ≤ 1048576) (hsum : t.bulk + s.bulk ≤ 1048576) :
    Calls Try.prog 9 #[.agg #[c0, c1], v, .agg #[d0, d1]] w (OutT (repR t p s) (repOk t p s) w) := by
  obtain ⟨pa, pc, rfl, hlen, hcap⟩ := slOf_form hp
  obtain ⟨r0, Hr0⟩ : ∃ r, Hid ((t.sub p).getD noTm = r) := ⟨_, hid rfl⟩
  by_cases h1 : t.expr = true
  rotate_left
  · have HX := hid (Bool.eq_false_iff.2 h1)
    have HK : Hid (repOk t p s = false) := by rw [Hid, repOk]; simp [HX.out]
    have HR : Hid (repR t p s = noTm) := by rw [Hid, repR, if_neg (by rw [HK.out]; simp)]
    rw [HK.out, HR.out]
    clear h1
    obtain ⟨rfl, tn, ta, tc, rfl⟩ := Tm.at_form ht
    obtain ⟨rfl, sn, sa, sc, rfl⟩ := Tm.at_form hs
    have hW : Below w.heap.size w (((w.alloc (.cells #[.string t.name, .slice ta t.args.length tc] 29)).alloc (.cells #[.string s.name, .slice sa s.args.length sc] 29)).alloc (.cells #[.string ⟨#[]⟩, .slice none 0 0] 29)) := (((Below.refl _ _).alloc (Nat.le_refl _) _).alloc (by simp) _).alloc (by simp; omega) _
    have bt : Box (((w.alloc (.cells #[.string t.name, .slice ta t.args.length tc] 29)).alloc (.cells #[.string s.name, .slice sa s.args.length sc] 29)).alloc (.cells #[.string ⟨#[]⟩, .slice none 0 0] 29)) (w.heap.size) [.string t.name, .slice ta t.args.length tc] := by
      have := (((Box.new w [.string t.name, .slice ta t.args.length tc] 29).alloc (.cells #[.string s.name, .slice sa s.args.length sc] 29)).alloc (.cells #[.string ⟨#[]⟩, .slice none 0 0] 29))
      simpa only [World.size_alloc] using this
    have bs : Box (((w.alloc (.cells #[.string t.name, .slice ta t.args.length tc] 29)).alloc (.cells #[.string s.name, .slice sa s.args.length sc] 29)).alloc (.cells #[.string ⟨#[]⟩, .slice none 0 0] 29)) (w.heap.size + 1) [.string s.name, .slice sa s.args.length sc] := by
      have := ((Box.new (w.alloc (.cells #[.string t.name, .slice ta t.args.length tc] 29)) [.string s.name, .slice sa s.args.length sc] 29).alloc (.cells #[.string ⟨#[]⟩, .slice none 0 0] 29))
      simpa only [World.size_alloc] using this
    have rb : Box (((w.alloc (.cells #[.string t.name, .slice ta t.args.length tc] 29)).alloc (.cells #[.string s.name, .slice sa s.args.length sc] 29)).alloc (.cells #[.string ⟨#[]⟩, .slice none 0 0] 29)) (w.heap.size + 1 + 1) [.string ⟨#[]⟩, .slice none 0 0] := by
      have := (Box.new ((w.alloc (.cells #[.string t.name, .slice ta t.args.length tc] 29)).alloc (.cells #[.string s.name, .slice sa s.args.length sc] 29)) [.string ⟨#[]⟩, .slice none 0 0] 29)
      simpa only [World.size_alloc] using this
    have rf : ∀ p, (((w.alloc (.cells #[.string t.name, .slice ta t.args.length tc] 29)).alloc (.cells #[.string s.name, .slice sa s.args.length sc] 29)).alloc (.cells #[.string ⟨#[]⟩, .slice none 0 0] 29)).frozen? ⟨w.heap.size + 1 + 1, p, none⟩ = false := fun p => World.frozen?_alloc_at _ _ _ p (by simp)
    replace ht := Tm.at_keep (Keeps.all hW) ht
    replace hs := Tm.at_keep (Keeps.all hW) hs
    replace hp := D.rd_keep (Keeps.all hW) _ _ hp
    have et0 := bt.c0
    have et1 := bt.c1
    have lt := bt.lt
    have es0 := bs.c0
    have es1 := bs.c1
    have ls := bs.lt
    have re0 := rb.c0
    have rf0 := rf 0
    have re1 := rb.c1
    have rf1 := rf 1
    have rl := rb.lt
    go_enter Try.func9, Try.ntmps9
    go_wp2_with fail
    clear et0 et1 lt es0 es1 ls re0 rf0 re1 rf1 rl
    have Hw0 : Hid ((((w.alloc (.cells #[.string t.name, .slice ta t.args.length tc] 29)).alloc (.cells #[.string s.name, .slice sa s.args.length sc] 29)).alloc (.cells #[.string ⟨#[]⟩, .slice none 0 0] 29)).heap.size = w.heap.size + 1 + 1 + 1) := by simp [Hid]
    generalize (((w.alloc (.cells #[.string t.name, .slice ta t.args.length tc] 29)).alloc (.cells #[.string s.name, .slice sa s.args.length sc] 29)).alloc (.cells #[.string ⟨#[]⟩, .slice none 0 0] 29)) = w0 at *
    refine (isExpression_any t ht hbt).mono ?_
    rintro e w1 ⟨_, rfl, hb, rfl⟩
    replace hW := hW.trans (hb.mono hW.size)
    replace bt := bt.keep hb
    replace ht := Tm.at_keep (Keeps.all hb) ht
    replace bs := bs.keep hb
    replace hs := Tm.at_keep (Keeps.all hb) hs
    replace rf := fun p => (hb.frozen (p := ⟨_, p, none⟩) rb.lt).trans (rf p)
    replace rb := rb.keep hb
    replace hp := D.rd_keep (Keeps.all hb) _ _ hp
    clear hb
    rw [HX.out]
    have et0 := bt.c0
    have et1 := bt.c1
    have lt := bt.lt
    have es0 := bs.c0
    have es1 := bs.c1
    have ls := bs.lt
    have re0 := rb.c0
    have rf0 := rf 0
    have re1 := rb.c1
    have rf1 := rf 1
    have rl := rb.lt
    go_wp2_with fail
    clear et0 et1 lt es0 es1 ls re0 rf0 re1 rf1 rl
    refine bodyPost_ret (v := .tuple #[.agg #[.string ByteArray.empty, .slice none 0 0], .bool false]) (by simp [results, Try.results9, go_sem, rb.c0, rb.c1]; try rfl) rfl ?_
    exact ⟨_, [], rfl, noTm_own, by simp, (hW.setCell (by simp; omega) _).setCell (by simp; omega) _⟩
  have HE := hid h1
  clear h1
  by_cases h2 : s.valid = true
  rotate_left
  · have HX := hid (Bool.eq_false_iff.2 h2)
    have HK : Hid (repOk t p s = false) := by rw [Hid, repOk]; simp [HX.out]
    have HR : Hid (repR t p s = noTm) := by rw [Hid, repR, if_neg (by rw [HK.out]; simp)]
    rw [HK.out, HR.out]
    clear h2
    obtain ⟨rfl, tn, ta, tc, rfl⟩ := Tm.at_form ht
    obtain ⟨rfl, sn, sa, sc, rfl⟩ := Tm.at_form hs
    have hW : Below w.heap.size w (((w.alloc (.cells #[.string t.name, .slice ta t.args.length tc] 29)).alloc (.cells #[.string s.name, .slice sa s.args.length sc] 29)).alloc (.cells #[.string ⟨#[]⟩, .slice none 0 0] 29)) := (((Below.refl _ _).alloc (Nat.le_refl _) _).alloc (by simp) _).alloc (by simp; omega) _
    have bt : Box (((w.alloc (.cells #[.string t.name, .slice ta t.args.length tc] 29)).alloc (.cells #[.string s.name, .slice sa s.args.length sc] 29)).alloc (.cells #[.string ⟨#[]⟩, .slice none 0 0] 29)) (w.heap.size) [.string t.name, .slice ta t.args.length tc] := by
      have := (((Box.new w [.string t.name, .slice ta t.args.length tc] 29).alloc (.cells #[.string s.name, .slice sa s.args.length sc] 29)).alloc (.cells #[.string ⟨#[]⟩, .slice none 0 0] 29))
      simpa only [World.size_alloc] using this
    have bs : Box (((w.alloc (.cells #[.string t.name, .slice ta t.args.length tc] 29)).alloc (.cells #[.string s.name, .slice sa s.args.length sc] 29)).alloc (.cells #[.string ⟨#[]⟩, .slice none 0 0] 29)) (w.heap.size + 1) [.string s.name, .slice sa s.args.length sc] := by
      have := ((Box.new (w.alloc (.cells #[.string t.name, .slice ta t.args.length tc] 29)) [.string s.name, .slice sa s.args.length sc] 29).alloc (.cells #[.string ⟨#[]⟩, .slice none 0 0] 29))
      simpa only [World.size_alloc] using this
    have rb : Box (((w.alloc (.cells #[.string t.name, .slice ta t.args.length tc] 29)).alloc (.cells #[.string s.name, .slice sa s.args.length sc] 29)).alloc (.cells #[.string ⟨#[]⟩, .slice none 0 0] 29)) (w.heap.size + 1 + 1) [.string ⟨#[]⟩, .slice none 0 0] := by
      have := (Box.new ((w.alloc (.cells #[.string t.name, .slice ta t.args.length tc] 29)).alloc (.cells #[.string s.name, .slice sa s.args.length sc] 29)) [.string ⟨#[]⟩, .slice none 0 0] 29)
      simpa only [World.size_alloc] using this
    have rf : ∀ p, (((w.alloc (.cells #[.string t.name, .slice ta t.args.length tc] 29)).alloc (.cells #[.string s.name, .slice sa s.args.length sc] 29)).alloc (.cells #[.string ⟨#[]⟩, .slice none 0 0] 29)).frozen? ⟨w.heap.size + 1 + 1, p, none⟩ = false := fun p => World.frozen?_alloc_at _ _ _ p (by simp)
    replace ht := Tm.at_keep (Keeps.all hW) ht
    replace hs := Tm.at_keep (Keeps.all hW) hs
    replace hp := D.rd_keep (Keeps.all hW) _ _ hp
    have et0 := bt.c0
    have et1 := bt.c1
    have lt := bt.lt
    have es0 := bs.c0
    have es1 := bs.c1
    have ls := bs.lt
    have re0 := rb.c0
    have rf0 := rf 0
    have re1 := rb.c1
    have rf1 := rf 1
    have rl := rb.lt
    go_enter Try.func9, Try.ntmps9
    go_wp2_with fail
    clear et0 et1 lt es0 es1 ls re0 rf0 re1 rf1 rl
    have Hw0 : Hid ((((w.alloc (.cells #[.string t.name, .slice ta t.args.length tc] 29)).alloc (.cells #[.string s.name, .slice sa s.args.length sc] 29)).alloc (.cells #[.string ⟨#[]⟩, .slice none 0 0] 29)).heap.size = w.heap.size + 1 + 1 + 1) := by simp [Hid]
    generalize (((w.alloc (.cells #[.string t.name, .slice ta t.args.length tc] 29)).alloc (.cells #[.string s.name, .slice sa s.args.length sc] 29)).alloc (.cells #[.string ⟨#[]⟩, .slice none 0 0] 29)) = w0 at *
    refine (isExpression_any t ht hbt).mono ?_
    rintro e w1 ⟨_, rfl, hb, rfl⟩
    replace hW := hW.trans (hb.mono hW.size)
    replace bt := bt.keep hb
    replace ht := Tm.at_keep (Keeps.all hb) ht
    replace bs := bs.keep hb
    replace hs := Tm.at_keep (Keeps.all hb) hs
    replace rf := fun p => (hb.frozen (p := ⟨_, p, none⟩) rb.lt).trans (rf p)
    replace rb := rb.keep hb
    replace hp := D.rd_keep (Keeps.all hb) _ _ hp
    clear hb
    rw [HE.out]
    have et0 := bt.c0
    have et1 := bt.c1
    have lt := bt.lt
    have es0 := bs.c0
    have es1 := bs.c1
    have ls := bs.lt
    have re0 := rb.c0
    have rf0 := rf 0
    have re1 := rb.c1
    have rf1 := rf 1
    have rl := rb.lt
    go_wp2_with fail
    clear et0 et1 lt es0 es1 ls re0 rf0 re1 rf1 rl
    refine (isValidTerm_any s hs hbs).mono ?_
    rintro e w1 ⟨_, rfl, hb, rfl⟩
    replace hW := hW.trans (hb.mono hW.size)
    replace bt := bt.keep hb
    replace ht := Tm.at_keep (Keeps.all hb) ht
    replace bs := bs.keep hb
    replace hs := Tm.at_keep (Keeps.all hb) hs
    replace rf := fun p => (hb.frozen (p := ⟨_, p, none⟩) rb.lt).trans (rf p)
    replace rb := rb.keep hb
    replace hp := D.rd_keep (Keeps.all hb) _ _ hp
    clear hb
    rw [HX.out]
    have et0 := bt.c0
    have et1 := bt.c1
    have lt := bt.lt
    have es0 := bs.c0
    have es1 := bs.c1
    have ls := bs.lt
    have re0 := rb.c0
    have rf0 := rf 0
    have re1 := rb.c1
    have rf1 := rf 1
    have rl := rb.lt
    go_wp2_with fail
    clear et0 et1 lt es0 es1 ls re0 rf0 re1 rf1 rl
    refine bodyPost_ret (v := .tuple #[.agg #[.string ByteArray.empty, .slice none 0 0], .bool false]) (by simp [results, Try.results9, go_sem, rb.c0, rb.c1]; try rfl) rfl ?_
    exact ⟨_, [], rfl, noTm_own, by simp, (hW.setCell (by simp; omega) _).setCell (by simp; omega) _⟩
  have HV := hid h2
  clear h2
  by_cases h3 : (t.sub p).isSome = true
  rotate_left
  · have HX := hid (Bool.eq_false_iff.2 h3)
    have Ho0 := HX
    have HK : Hid (repOk t p s = false) := by rw [Hid, repOk]; simp [HX.out]
    have HR : Hid (repR t p s = noTm) := by rw [Hid, repR, if_neg (by rw [HK.out]; simp)]
    rw [HK.out, HR.out]
    clear h3
    obtain ⟨rfl, tn, ta, tc, rfl⟩ := Tm.at_form ht
    obtain ⟨rfl, sn, sa, sc, rfl⟩ := Tm.at_form hs
    have hW : Below w.heap.size w (((w.alloc (.cells #[.string t.name, .slice ta t.args.length tc] 29)).alloc (.cells #[.string s.name, .slice sa s.args.length sc] 29)).alloc (.cells #[.string ⟨#[]⟩, .slice none 0 0] 29)) := (((Below.refl _ _).alloc (Nat.le_refl _) _).alloc (by simp) _).alloc (by simp; omega) _
    have bt : Box (((w.alloc (.cells #[.string t.name, .slice ta t.args.length tc] 29)).alloc (.cells #[.string s.name, .slice sa s.args.length sc] 29)).alloc (.cells #[.string ⟨#[]⟩, .slice none 0 0] 29)) (w.heap.size) [.string t.name, .slice ta t.args.length tc] := by
      have := (((Box.new w [.string t.name, .slice ta t.args.length tc] 29).alloc (.cells #[.string s.name, .slice sa s.args.length sc] 29)).alloc (.cells #[.string ⟨#[]⟩, .slice none 0 0] 29))
      simpa only [World.size_alloc] using this
    have bs : Box (((w.alloc (.cells #[.string t.name, .slice ta t.args.length tc] 29)).alloc (.cells #[.string s.name, .slice sa s.args.length sc] 29)).alloc (.cells #[.string ⟨#[]⟩, .slice none 0 0] 29)) (w.heap.size + 1) [.string s.name, .slice sa s.args.length sc] := by
      have := ((Box.new (w.alloc (.cells #[.string t.name, .slice ta t.args.length tc] 29)) [.string s.name, .slice sa s.args.length sc] 29).alloc (.cells #[.string ⟨#[]⟩, .slice none 0 0] 29))
      simpa only [World.size_alloc] using this
    have rb : Box (((w.alloc (.cells #[.string t.name, .slice ta t.args.length tc] 29)).alloc (.cells #[.string s.name, .slice sa s.args.length sc] 29)).alloc (.cells #[.string ⟨#[]⟩, .slice none 0 0] 29)) (w.heap.size + 1 + 1) [.string ⟨#[]⟩, .slice none 0 0] := by
      have := (Box.new ((w.alloc (.cells #[.string t.name, .slice ta t.args.length tc] 29)).alloc (.cells #[.string s.name, .slice sa s.args.length sc] 29)) [.string ⟨#[]⟩, .slice none 0 0] 29)
      simpa only [World.size_alloc] using this
    have rf : ∀ p, (((w.alloc (.cells #[.string t.name, .slice ta t.args.length tc] 29)).alloc (.cells #[.string s.name, .slice sa s.args.length sc] 29)).alloc (.cells #[.string ⟨#[]⟩, .slice none 0 0] 29)).frozen? ⟨w.heap.size + 1 + 1, p, none⟩ = false := fun p => World.frozen?_alloc_at _ _ _ p (by simp)
    replace ht := Tm.at_keep (Keeps.all hW) ht
    replace hs := Tm.at_keep (Keeps.all hW) hs
    replace hp := D.rd_keep (Keeps.all hW) _ _ hp
    have et0 := bt.c0
    have et1 := bt.c1
    have lt := bt.lt
    have es0 := bs.c0
    have es1 := bs.c1
    have ls := bs.lt
    have re0 := rb.c0
    have rf0 := rf 0
    have re1 := rb.c1
    have rf1 := rf 1
    have rl := rb.lt
    go_enter Try.func9, Try.ntmps9
    go_wp2_with fail
    clear et0 et1 lt es0 es1 ls re0 rf0 re1 rf1 rl
    have Hw0 : Hid ((((w.alloc (.cells #[.string t.name, .slice ta t.args.length tc] 29)).alloc (.cells #[.string s.name, .slice sa s.args.length sc] 29)).alloc (.cells #[.string ⟨#[]⟩, .slice none 0 0] 29)).heap.size = w.heap.size + 1 + 1 + 1) := by simp [Hid]
    generalize (((w.alloc (.cells #[.string t.name, .slice ta t.args.length tc] 29)).alloc (.cells #[.string s.name, .slice sa s.args.length sc] 29)).alloc (.cells #[.string ⟨#[]⟩, .slice none 0 0] 29)) = w0 at *
    refine (isExpression_any t ht hbt).mono ?_
    rintro e w1 ⟨_, rfl, hb, rfl⟩
    replace hW := hW.trans (hb.mono hW.size)
    replace bt := bt.keep hb
    replace ht := Tm.at_keep (Keeps.all hb) ht
    replace bs := bs.keep hb
    replace hs := Tm.at_keep (Keeps.all hb) hs
    replace rf := fun p => (hb.frozen (p := ⟨_, p, none⟩) rb.lt).trans (rf p)
    replace rb := rb.keep hb
    replace hp := D.rd_keep (Keeps.all hb) _ _ hp
    clear hb
    rw [HE.out]
    have et0 := bt.c0
    have et1 := bt.c1
    have lt := bt.lt
    have es0 := bs.c0
    have es1 := bs.c1
    have ls := bs.lt
    have re0 := rb.c0
    have rf0 := rf 0
    have re1 := rb.c1
    have rf1 := rf 1
    have rl := rb.lt
    go_wp2_with fail
    clear et0 et1 lt es0 es1 ls re0 rf0 re1 rf1 rl
    refine (isValidTerm_any s hs hbs).mono ?_
    rintro e w1 ⟨_, rfl, hb, rfl⟩
    replace hW := hW.trans (hb.mono hW.size)
    replace bt := bt.keep hb
    replace ht := Tm.at_keep (Keeps.all hb) ht
    replace bs := bs.keep hb
    replace hs := Tm.at_keep (Keeps.all hb) hs
    replace rf := fun p => (hb.frozen (p := ⟨_, p, none⟩) rb.lt).trans (rf p)
    replace rb := rb.keep hb
    replace hp := D.rd_keep (Keeps.all hb) _ _ hp
    clear hb
    rw [HV.out]
    have et0 := bt.c0
    have et1 := bt.c1
    have lt := bt.lt
    have es0 := bs.c0
    have es1 := bs.c1
    have ls := bs.lt
    have re0 := rb.c0
    have rf0 := rf 0
    have re1 := rb.c1
    have rf1 := rf 1
    have rl := rb.lt
    go_wp2_with fail
    clear et0 et1 lt es0 es1 ls re0 rf0 re1 rf1 rl
    have hq := at_any t p ht hp hl
    unfold AtR at hq
    rw [Hr0.out, Ho0.out] at hq
    refine hq.mono ?_
    rintro e w2 ⟨d1, rfl, hb, hr⟩
    clear hq
    replace hW := hW.trans (hb.mono hW.size)
    replace bt := bt.keep hb
    replace ht := Tm.at_keep (Keeps.all hb) ht
    replace bs := bs.keep hb
    replace hs := Tm.at_keep (Keeps.all hb) hs
    replace rf := fun p => (hb.frozen (p := ⟨_, p, none⟩) rb.lt).trans (rf p)
    replace rb := rb.keep hb
    replace hp := D.rd_keep (Keeps.all hb) _ _ hp
    clear hb
    obtain ⟨-, hrn0, ra, rc, rfl⟩ := Tm.at_form hr
    have hb : Below w2.heap.size w2 (w2.alloc (.cells #[.string r0.name, .slice ra r0.args.length rc] 29)) := (Below.refl _ _).alloc (Nat.le_refl _) _
    have et0 := bt.c0
    have et1 := bt.c1
    have lt := bt.lt
    have es0 := bs.c0
    have es1 := bs.c1
    have ls := bs.lt
    have re0 := rb.c0
    have rf0 := rf 0
    have re1 := rb.c1
    have rf1 := rf 1
    have rl := rb.lt
    go_wp2_with fail
    clear et0 et1 lt es0 es1 ls re0 rf0 re1 rf1 rl
    have q0 : (((w2.setCell ⟨w.heap.size + 1 + 1, 0, none⟩ (.string ⟨#[]⟩)).setCell ⟨w.heap.size + 1 + 1, 1, none⟩ (.slice none 0 0)).alloc (.cells #[.string r0.name, .slice ra r0.args.length rc] 29)).cell? ⟨w.heap.size + 1 + 1, 0, none⟩ = some (.string ⟨#[]⟩) := cell_alloc ((World.cell?_setCell_other _ _ _ _ (by intro e; injection e with _ e; omega)).trans (World.cell?_setCell_same _ _ _ rb.c0)) _
    have q1 : (((w2.setCell ⟨w.heap.size + 1 + 1, 0, none⟩ (.string ⟨#[]⟩)).setCell ⟨w.heap.size + 1 + 1, 1, none⟩ (.slice none 0 0)).alloc (.cells #[.string r0.name, .slice ra r0.args.length rc] 29)).cell? ⟨w.heap.size + 1 + 1, 1, none⟩ = some (.slice none 0 0) := cell_alloc (World.cell?_setCell_same _ _ _ ((World.cell?_setCell_other _ _ _ _ (by intro e; injection e with _ e; omega)).trans rb.c1)) _
    have hzw := hW.size
    refine bodyPost_ret (v := .tuple #[.agg #[.string ⟨#[]⟩, .slice none 0 0], .bool false]) (by simp [results, Try.results9, go_sem, q0, q1]; try rfl) rfl ?_
    exact ⟨_, [], rfl, noTm_own, by simp, ((hW.setCell (p := ⟨w.heap.size + 1 + 1, 0, none⟩) (by show w.heap.size ≤ w.heap.size + 1 + 1; omega) _).setCell (p := ⟨w.heap.size + 1 + 1, 1, none⟩) (by show w.heap.size ≤ w.heap.size + 1 + 1; omega) _).alloc (by simp; omega) _⟩
  have Ho0 := hid h3
  clear h3
  obtain ⟨r, Hr⟩ : ∃ r, Hid (t.put p s = r) := ⟨_, hid rfl⟩
  have hrb : r.bulk ≤ 1048576 := by rw [← Hr.out]; have := Tm.put_bulk s p t; omega
  have hrn := Tm.name_le hrb
  by_cases h4 : r.expr = true
  · have HX := hid h4
    have HK : Hid (repOk t p s = true) := by rw [Hid, repOk, HE.out, HV.out, Ho0.out, Hr.out, HX.out]; rfl
    have HR : Hid (repR t p s = r) := by rw [Hid, repR, if_pos HK.out, Hr.out]
    rw [HK.out, HR.out]
    clear h4
    obtain ⟨rfl, tn, ta, tc, rfl⟩ := Tm.at_form ht
    obtain ⟨rfl, sn, sa, sc, rfl⟩ := Tm.at_form hs
    have hW : Below w.heap.size w (((w.alloc (.cells #[.string t.name, .slice ta t.args.length tc] 29)).alloc (.cells #[.string s.name, .slice sa s.args.length sc] 29)).alloc (.cells #[.string ⟨#[]⟩, .slice none 0 0] 29)) := (((Below.refl _ _).alloc (Nat.le_refl _) _).alloc (by simp) _).alloc (by simp; omega) _
    have bt : Box (((w.alloc (.cells #[.string t.name, .slice ta t.args.length tc] 29)).alloc (.cells #[.string s.name, .slice sa s.args.length sc] 29)).alloc (.cells #[.string ⟨#[]⟩, .slice none 0 0] 29)) (w.heap.size) [.string t.name, .slice ta t.args.length tc] := by
      have := (((Box.new w [.string t.name, .slice ta t.args.length tc] 29).alloc (.cells #[.string s.name, .slice sa s.args.length sc] 29)).alloc (.cells #[.string ⟨#[]⟩, .slice none 0 0] 29))
      simpa only [World.size_alloc] using this
    have bs : Box (((w.alloc (.cells #[.string t.name, .slice ta t.args.length tc] 29)).alloc (.cells #[.string s.name, .slice sa s.args.length sc] 29)).alloc (.cells #[.string ⟨#[]⟩, .slice none 0 0] 29)) (w.heap.size + 1) [.string s.name, .slice sa s.args.length sc] := by
      have := ((Box.new (w.alloc (.cells #[.string t.name, .slice ta t.args.length tc] 29)) [.string s.name, .slice sa s.args.length sc] 29).alloc (.cells #[.string ⟨#[]⟩, .slice none 0 0] 29))
      simpa only [World.size_alloc] using this
    have rb : Box (((w.alloc (.cells #[.string t.name, .slice ta t.args.length tc] 29)).alloc (.cells #[.string s.name, .slice sa s.args.length sc] 29)).alloc (.cells #[.string ⟨#[]⟩, .slice none 0 0] 29)) (w.heap.size + 1 + 1) [.string ⟨#[]⟩, .slice none 0 0] := by
      have := (Box.new ((w.alloc (.cells #[.string t.name, .slice ta t.args.length tc] 29)).alloc (.cells #[.string s.name, .slice sa s.args.length sc] 29)) [.string ⟨#[]⟩, .slice none 0 0] 29)
      simpa only [World.size_alloc] using this
    have rf : ∀ p, (((w.alloc (.cells #[.string t.name, .slice ta t.args.length tc] 29)).alloc (.cells #[.string s.name, .slice sa s.args.length sc] 29)).alloc (.cells #[.string ⟨#[]⟩, .slice none 0 0] 29)).frozen? ⟨w.heap.size + 1 + 1, p, none⟩ = false := fun p => World.frozen?_alloc_at _ _ _ p (by simp)
    replace ht := Tm.at_keep (Keeps.all hW) ht
    replace hs := Tm.at_keep (Keeps.all hW) hs
    replace hp := D.rd_keep (Keeps.all hW) _ _ hp
    have et0 := bt.c0
    have et1 := bt.c1
    have lt := bt.lt
    have es0 := bs.c0
    have es1 := bs.c1
    have ls := bs.lt
    have re0 := rb.c0
    have rf0 := rf 0
    have re1 := rb.c1
    have rf1 := rf 1
    have rl := rb.lt
    go_enter Try.func9, Try.ntmps9
    go_wp2_with fail
    clear et0 et1 lt es0 es1 ls re0 rf0 re1 rf1 rl
    have Hw0 : Hid ((((w.alloc (.cells #[.string t.name, .slice ta t.args.length tc] 29)).alloc (.cells #[.string s.name, .slice sa s.args.length sc] 29)).alloc (.cells #[.string ⟨#[]⟩, .slice none 0 0] 29)).heap.size = w.heap.size + 1 + 1 + 1) := by simp [Hid]
    generalize (((w.alloc (.cells #[.string t.name, .slice ta t.args.length tc] 29)).alloc (.cells #[.string s.name, .slice sa s.args.length sc] 29)).alloc (.cells #[.string ⟨#[]⟩, .slice none 0 0] 29)) = w0 at *
    refine (isExpression_any t ht hbt).mono ?_
    rintro e w1 ⟨_, rfl, hb, rfl⟩
    replace hW := hW.trans (hb.mono hW.size)
    replace bt := bt.keep hb
    replace ht := Tm.at_keep (Keeps.all hb) ht
    replace bs := bs.keep hb
    replace hs := Tm.at_keep (Keeps.all hb) hs
    replace rf := fun p => (hb.frozen (p := ⟨_, p, none⟩) rb.lt).trans (rf p)
    replace rb := rb.keep hb
    replace hp := D.rd_keep (Keeps.all hb) _ _ hp
    clear hb
    rw [HE.out]
    have et0 := bt.c0
    have et1 := bt.c1
    have lt := bt.lt
    have es0 := bs.c0
    have es1 := bs.c1
    have ls := bs.lt
    have re0 := rb.c0
    have rf0 := rf 0
    have re1 := rb.c1
    have rf1 := rf 1
    have rl := rb.lt
    go_wp2_with fail
    clear et0 et1 lt es0 es1 ls re0 rf0 re1 rf1 rl
    refine (isValidTerm_any s hs hbs).mono ?_
    rintro e w1 ⟨_, rfl, hb, rfl⟩
    replace hW := hW.trans (hb.mono hW.size)
    replace bt := bt.keep hb
    replace ht := Tm.at_keep (Keeps.all hb) ht
    replace bs := bs.keep hb
    replace hs := Tm.at_keep (Keeps.all hb) hs
    replace rf := fun p => (hb.frozen (p := ⟨_, p, none⟩) rb.lt).trans (rf p)
    replace rb := rb.keep hb
    replace hp := D.rd_keep (Keeps.all hb) _ _ hp
    clear hb
    rw [HV.out]
    have et0 := bt.c0
    have et1 := bt.c1
    have lt := bt.lt
    have es0 := bs.c0
    have es1 := bs.c1
    have ls := bs.lt
    have re0 := rb.c0
    have rf0 := rf 0
    have re1 := rb.c1
    have rf1 := rf 1
    have rl := rb.lt
    go_wp2_with fail
    clear et0 et1 lt es0 es1 ls re0 rf0 re1 rf1 rl
    have hq := at_any t p ht hp hl
    unfold AtR at hq
    rw [Hr0.out, Ho0.out] at hq
    refine hq.mono ?_
    rintro e w2 ⟨d1, rfl, hb, hr⟩
    clear hq
    replace hW := hW.trans (hb.mono hW.size)
    replace bt := bt.keep hb
    replace ht := Tm.at_keep (Keeps.all hb) ht
    replace bs := bs.keep hb
    replace hs := Tm.at_keep (Keeps.all hb) hs
    replace rf := fun p => (hb.frozen (p := ⟨_, p, none⟩) rb.lt).trans (rf p)
    replace rb := rb.keep hb
    replace hp := D.rd_keep (Keeps.all hb) _ _ hp
    clear hb
    obtain ⟨-, hrn0, ra, rc, rfl⟩ := Tm.at_form hr
    have hb : Below w2.heap.size w2 (w2.alloc (.cells #[.string r0.name, .slice ra r0.args.length rc] 29)) := (Below.refl _ _).alloc (Nat.le_refl _) _
    have et0 := bt.c0
    have et1 := bt.c1
    have lt := bt.lt
    have es0 := bs.c0
    have es1 := bs.c1
    have ls := bs.lt
    have re0 := rb.c0
    have rf0 := rf 0
    have re1 := rb.c1
    have rf1 := rf 1
    have rl := rb.lt
    go_wp2_with fail
    clear et0 et1 lt es0 es1 ls re0 rf0 re1 rf1 rl
    replace hW := hW.trans (hb.mono hW.size)
    replace bt := bt.keep hb
    replace ht := Tm.at_keep (Keeps.all hb) ht
    replace bs := bs.keep hb
    replace hs := Tm.at_keep (Keeps.all hb) hs
    replace rf := fun p => (hb.frozen (p := ⟨_, p, none⟩) rb.lt).trans (rf p)
    replace rb := rb.keep hb
    replace hp := D.rd_keep (Keeps.all hb) _ _ hp
    clear hb
    generalize w2.alloc (.cells #[.string r0.name, .slice ra r0.args.length rc] 29) = w3 at *
    have hrl3 := rb.lt
    have hwz3 := hW.size
    have hq := repIs_any_I p t s _ _ _ _ _ _ _ _ _ ht hs hp hbt hbs hl Ho0.out
    rw [Hr.out] at hq
    refine hq.mono ?_
    rintro e w4 ⟨v, F, rfl, ho, hF, hb⟩
    clear hq
    replace hW := hW.trans (hb.mono hW.size)
    replace bt := bt.keep hb
    replace ht := Tm.at_keep (Keeps.all hb) ht
    replace bs := bs.keep hb
    replace hs := Tm.at_keep (Keeps.all hb) hs
    replace rf := fun p => (hb.frozen (p := ⟨_, p, none⟩) rb.lt).trans (rf p)
    replace rb := rb.keep hb
    replace hp := D.rd_keep (Keeps.all hb) _ _ hp
    clear hb
    obtain ⟨va, vc, rfl⟩ := Tm.sd_own_form ho
    have hb : Below w4.heap.size w4 (w4.alloc (.cells #[.string r.name, .slice va r.args.length vc] 29)) := (Below.refl _ _).alloc (Nat.le_refl _) _
    have bO : Box (w4.alloc (.cells #[.string r.name, .slice va r.args.length vc] 29)) w4.heap.size [.string r.name, .slice va r.args.length vc] := Box.new _ _ _
    have et0 := bt.c0
    have et1 := bt.c1
    have lt := bt.lt
    have es0 := bs.c0
    have es1 := bs.c1
    have ls := bs.lt
    have re0 := rb.c0
    have rf0 := rf 0
    have re1 := rb.c1
    have rf1 := rf 1
    have rl := rb.lt
    go_wp2_with fail
    clear et0 et1 lt es0 es1 ls re0 rf0 re1 rf1 rl
    replace ho := D.own_keep _ _ _ (Keeps.all hb) ho
    replace hW := hW.trans (hb.mono hW.size)
    replace bt := bt.keep hb
    replace ht := Tm.at_keep (Keeps.all hb) ht
    replace bs := bs.keep hb
    replace hs := Tm.at_keep (Keeps.all hb) hs
    replace rf := fun p => (hb.frozen (p := ⟨_, p, none⟩) rb.lt).trans (rf p)
    replace rb := rb.keep hb
    replace hp := D.rd_keep (Keeps.all hb) _ _ hp
    clear hb
    generalize w4.alloc (.cells #[.string r.name, .slice va r.args.length vc] 29) = w5 at *
    refine (isExpression_any r (Tm.at_of hrn ho) hrb).mono ?_
    rintro e w6 ⟨_, rfl, hb, rfl⟩
    replace ho := D.own_keep _ _ _ (Keeps.all hb) ho
    replace bO := bO.keep hb
    replace hW := hW.trans (hb.mono hW.size)
    replace bt := bt.keep hb
    replace ht := Tm.at_keep (Keeps.all hb) ht
    replace bs := bs.keep hb
    replace hs := Tm.at_keep (Keeps.all hb) hs
    replace rf := fun p => (hb.frozen (p := ⟨_, p, none⟩) rb.lt).trans (rf p)
    replace rb := rb.keep hb
    replace hp := D.rd_keep (Keeps.all hb) _ _ hp
    clear hb
    rw [HX.out]
    have eO0 := bO.c0
    have eO1 := bO.c1
    have lO := bO.lt
    have hrl6 := rb.lt
    have et0 := bt.c0
    have et1 := bt.c1
    have lt := bt.lt
    have es0 := bs.c0
    have es1 := bs.c1
    have ls := bs.lt
    have re0 := rb.c0
    have rf0 := rf 0
    have re1 := rb.c1
    have rf1 := rf 1
    have rl := rb.lt
    go_wp2_with fail
    refine bodyPost_ret (v := .tuple #[.agg #[.string r.name, .slice va r.args.length vc], .bool true]) (by simp [results, Try.results9, go_sem, rb.c0, rb.c1]; try rfl) rfl ?_
    refine ⟨_, F, rfl, D.own_keep _ _ _ (((Keeps.refl _ _).set_lt hF hrl3 _).set_lt hF hrl3 _) ho, fun x hx => by have := hF x hx; omega, (hW.setCell (by simp; omega) _).setCell (by simp; omega) _⟩
  · have HX := hid (Bool.eq_false_iff.2 h4)
    have HK : Hid (repOk t p s = false) := by rw [Hid, repOk, Hr.out, HX.out]; simp
    have HR : Hid (repR t p s = noTm) := by rw [Hid, repR, if_neg (by rw [HK.out]; simp)]
    rw [HK.out, HR.out]
    clear h4
    obtain ⟨rfl, tn, ta, tc, rfl⟩ := Tm.at_form ht
    obtain ⟨rfl, sn, sa, sc, rfl⟩ := Tm.at_form hs
    have hW : Below w.heap.size w (((w.alloc (.cells #[.string t.name, .slice ta t.args.length tc] 29)).alloc (.cells #[.string s.name, .slice sa s.args.length sc] 29)).alloc (.cells #[.string ⟨#[]⟩, .slice none 0 0] 29)) := (((Below.refl _ _).alloc (Nat.le_refl _) _).alloc (by simp) _).alloc (by simp; omega) _
    have bt : Box (((w.alloc (.cells #[.string t.name, .slice ta t.args.length tc] 29)).alloc (.cells #[.string s.name, .slice sa s.args.length sc] 29)).alloc (.cells #[.string ⟨#[]⟩, .slice none 0 0] 29)) (w.heap.size) [.string t.name, .slice ta t.args.length tc] := by
      have := (((Box.new w [.string t.name, .slice ta t.args.length tc] 29).alloc (.cells #[.string s.name, .slice sa s.args.length sc] 29)).alloc (.cells #[.string ⟨#[]⟩, .slice none 0 0] 29))
      simpa only [World.size_alloc] using this
    have bs : Box (((w.alloc (.cells #[.string t.name, .slice ta t.args.length tc] 29)).alloc (.cells #[.string s.name, .slice sa s.args.length sc] 29)).alloc (.cells #[.string ⟨#[]⟩, .slice none 0 0] 29)) (w.heap.size + 1) [.string s.name, .slice sa s.args.length sc] := by
      have := ((Box.new (w.alloc (.cells #[.string t.name, .slice ta t.args.length tc] 29)) [.string s.name, .slice sa s.args.length sc] 29).alloc (.cells #[.string ⟨#[]⟩, .slice none 0 0] 29))
      simpa only [World.size_alloc] using this
    have rb : Box (((w.alloc (.cells #[.string t.name, .slice ta t.args.length tc] 29)).alloc (.cells #[.string s.name, .slice sa s.args.length sc] 29)).alloc (.cells #[.string ⟨#[]⟩, .slice none 0 0] 29)) (w.heap.size + 1 + 1) [.string ⟨#[]⟩, .slice none 0 0] := by
      have := (Box.new ((w.alloc (.cells #[.string t.name, .slice ta t.args.length tc] 29)).alloc (.cells #[.string s.name, .slice sa s.args.length sc] 29)) [.string ⟨#[]⟩, .slice none 0 0] 29)
      simpa only [World.size_alloc] using this
    have rf : ∀ p, (((w.alloc (.cells #[.string t.name, .slice ta t.args.length tc] 29)).alloc (.cells #[.string s.name, .slice sa s.args.length sc] 29)).alloc (.cells #[.string ⟨#[]⟩, .slice none 0 0] 29)).frozen? ⟨w.heap.size + 1 + 1, p, none⟩ = false := fun p => World.frozen?_alloc_at _ _ _ p (by simp)
    replace ht := Tm.at_keep (Keeps.all hW) ht
    replace hs := Tm.at_keep (Keeps.all hW) hs
    replace hp := D.rd_keep (Keeps.all hW) _ _ hp
    have et0 := bt.c0
    have et1 := bt.c1
    have lt := bt.lt
    have es0 := bs.c0
    have es1 := bs.c1
    have ls := bs.lt
    have re0 := rb.c0
    have rf0 := rf 0
    have re1 := rb.c1
    have rf1 := rf 1
    have rl := rb.lt
    go_enter Try.func9, Try.ntmps9
    go_wp2_with fail
    clear et0 et1 lt es0 es1 ls re0 rf0 re1 rf1 rl
    have Hw0 : Hid ((((w.alloc (.cells #[.string t.name, .slice ta t.args.length tc] 29)).alloc (.cells #[.string s.name, .slice sa s.args.length sc] 29)).alloc (.cells #[.string ⟨#[]⟩, .slice none 0 0] 29)).heap.size = w.heap.size + 1 + 1 + 1) := by simp [Hid]
    generalize (((w.alloc (.cells #[.string t.name, .slice ta t.args.length tc] 29)).alloc (.cells #[.string s.name, .slice sa s.args.length sc] 29)).alloc (.cells #[.string ⟨#[]⟩, .slice none 0 0] 29)) = w0 at *
    refine (isExpression_any t ht hbt).mono ?_
    rintro e w1 ⟨_, rfl, hb, rfl⟩
    replace hW := hW.trans (hb.mono hW.size)
    replace bt := bt.keep hb
    replace ht := Tm.at_keep (Keeps.all hb) ht
    replace bs := bs.keep hb
    replace hs := Tm.at_keep (Keeps.all hb) hs
    replace rf := fun p => (hb.frozen (p := ⟨_, p, none⟩) rb.lt).trans (rf p)
    replace rb := rb.keep hb
    replace hp := D.rd_keep (Keeps.all hb) _ _ hp
    clear hb
    rw [HE.out]
    have et0 := bt.c0
    have et1 := bt.c1
    have lt := bt.lt
    have es0 := bs.c0
    have es1 := bs.c1
    have ls := bs.lt
    have re0 := rb.c0
    have rf0 := rf 0
    have re1 := rb.c1
    have rf1 := rf 1
    have rl := rb.lt
    go_wp2_with fail
    clear et0 et1 lt es0 es1 ls re0 rf0 re1 rf1 rl
    refine (isValidTerm_any s hs hbs).mono ?_
    rintro e w1 ⟨_, rfl, hb, rfl⟩
    replace hW := hW.trans (hb.mono hW.size)
    replace bt := bt.keep hb
    replace ht := Tm.at_keep (Keeps.all hb) ht
    replace bs := bs.keep hb
    replace hs := Tm.at_keep (Keeps.all hb) hs
    replace rf := fun p => (hb.frozen (p := ⟨_, p, none⟩) rb.lt).trans (rf p)
    replace rb := rb.keep hb
    replace hp := D.rd_keep (Keeps.all hb) _ _ hp
    clear hb
    rw [HV.out]
    have et0 := bt.c0
    have et1 := bt.c1
    have lt := bt.lt
    have es0 := bs.c0
    have es1 := bs.c1
    have ls := bs.lt
    have re0 := rb.c0
    have rf0 := rf 0
    have re1 := rb.c1
    have rf1 := rf 1
    have rl := rb.lt
    go_wp2_with fail
    clear et0 et1 lt es0 es1 ls re0 rf0 re1 rf1 rl
    have hq := at_any t p ht hp hl
    unfold AtR at hq
    rw [Hr0.out, Ho0.out] at hq
    refine hq.mono ?_
    rintro e w2 ⟨d1, rfl, hb, hr⟩
    clear hq
    replace hW := hW.trans (hb.mono hW.size)
    replace bt := bt.keep hb
    replace ht := Tm.at_keep (Keeps.all hb) ht
    replace bs := bs.keep hb
    replace hs := Tm.at_keep (Keeps.all hb) hs
    replace rf := fun p => (hb.frozen (p := ⟨_, p, none⟩) rb.lt).trans (rf p)
    replace rb := rb.keep hb
    replace hp := D.rd_keep (Keeps.all hb) _ _ hp
    clear hb
    obtain ⟨-, hrn0, ra, rc, rfl⟩ := Tm.at_form hr
    have hb : Below w2.heap.size w2 (w2.alloc (.cells #[.string r0.name, .slice ra r0.args.length rc] 29)) := (Below.refl _ _).alloc (Nat.le_refl _) _
    have et0 := bt.c0
    have et1 := bt.c1
    have lt := bt.lt
    have es0 := bs.c0
    have es1 := bs.c1
    have ls := bs.lt
    have re0 := rb.c0
    have rf0 := rf 0
    have re1 := rb.c1
    have rf1 := rf 1
    have rl := rb.lt
    go_wp2_with fail
    clear et0 et1 lt es0 es1 ls re0 rf0 re1 rf1 rl
    replace hW := hW.trans (hb.mono hW.size)
    replace bt := bt.keep hb
    replace ht := Tm.at_keep (Keeps.all hb) ht
    replace bs := bs.keep hb
    replace hs := Tm.at_keep (Keeps.all hb) hs
    replace rf := fun p => (hb.frozen (p := ⟨_, p, none⟩) rb.lt).trans (rf p)
    replace rb := rb.keep hb
    replace hp := D.rd_keep (Keeps.all hb) _ _ hp
    clear hb
    generalize w2.alloc (.cells #[.string r0.name, .slice ra r0.args.length rc] 29) = w3 at *
    have hrl3 := rb.lt
    have hwz3 := hW.size
    have hq := repIs_any_I p t s _ _ _ _ _ _ _ _ _ ht hs hp hbt hbs hl Ho0.out
    rw [Hr.out] at hq
    refine hq.mono ?_
    rintro e w4 ⟨v, F, rfl, ho, hF, hb⟩
    clear hq
    replace hW := hW.trans (hb.mono hW.size)
    replace bt := bt.keep hb
    replace ht := Tm.at_keep (Keeps.all hb) ht
    replace bs := bs.keep hb
    replace hs := Tm.at_keep (Keeps.all hb) hs
    replace rf := fun p => (hb.frozen (p := ⟨_, p, none⟩) rb.lt).trans (rf p)
    replace rb := rb.keep hb
    replace hp := D.rd_keep (Keeps.all hb) _ _ hp
    clear hb
    obtain ⟨va, vc, rfl⟩ := Tm.sd_own_form ho
    have hb : Below w4.heap.size w4 (w4.alloc (.cells #[.string r.name, .slice va r.args.length vc] 29)) := (Below.refl _ _).alloc (Nat.le_refl _) _
    have bO : Box (w4.alloc (.cells #[.string r.name, .slice va r.args.length vc] 29)) w4.heap.size [.string r.name, .slice va r.args.length vc] := Box.new _ _ _
    have et0 := bt.c0
    have et1 := bt.c1
    have lt := bt.lt
    have es0 := bs.c0
    have es1 := bs.c1
    have ls := bs.lt
    have re0 := rb.c0
    have rf0 := rf 0
    have re1 := rb.c1
    have rf1 := rf 1
    have rl := rb.lt
    go_wp2_with fail
    clear et0 et1 lt es0 es1 ls re0 rf0 re1 rf1 rl
    replace ho := D.own_keep _ _ _ (Keeps.all hb) ho
    replace hW := hW.trans (hb.mono hW.size)
    replace bt := bt.keep hb
    replace ht := Tm.at_keep (Keeps.all hb) ht
    replace bs := bs.keep hb
    replace hs := Tm.at_keep (Keeps.all hb) hs
    replace rf := fun p => (hb.frozen (p := ⟨_, p, none⟩) rb.lt).trans (rf p)
    replace rb := rb.keep hb
    replace hp := D.rd_keep (Keeps.all hb) _ _ hp
    clear hb
    generalize w4.alloc (.cells #[.string r.name, .slice va r.args.length vc] 29) = w5 at *
    refine (isExpression_any r (Tm.at_of hrn ho) hrb).mono ?_
    rintro e w6 ⟨_, rfl, hb, rfl⟩
    replace ho := D.own_keep _ _ _ (Keeps.all hb) ho
    replace bO := bO.keep hb
    replace hW := hW.trans (hb.mono hW.size)
    replace bt := bt.keep hb
    replace ht := Tm.at_keep (Keeps.all hb) ht
    replace bs := bs.keep hb
    replace hs := Tm.at_keep (Keeps.all hb) hs
    replace rf := fun p => (hb.frozen (p := ⟨_, p, none⟩) rb.lt).trans (rf p)
    replace rb := rb.keep hb
    replace hp := D.rd_keep (Keeps.all hb) _ _ hp
    clear hb
    rw [HX.out]
    have eO0 := bO.c0
    have eO1 := bO.c1
    have lO := bO.lt
    have hrl6 := rb.lt
    have et0 := bt.c0
    have et1 := bt.c1
    have lt := bt.lt
    have es0 := bs.c0
    have es1 := bs.c1
    have ls := bs.lt
    have re0 := rb.c0
    have rf0 := rf 0
    have re1 := rb.c1
    have rf1 := rf 1
    have rl := rb.lt
    go_wp2_with fail
    refine bodyPost_ret (v := .tuple #[.agg #[.string ByteArray.empty, .slice none 0 0], .bool false]) (by simp [results, Try.results9, go_sem, rb.c0, rb.c1]; try rfl) rfl ?_
    exact ⟨_, [], rfl, noTm_own, by simp, (hW.setCell (by simp; omega) _).setCell (by simp; omega) _⟩
set_option maxHeartbeats 4000000 in
theorem spec_ReplaceAt {t s : Tm} {p : List Int} {S S' S'' : Nat → Prop} {c0 c1 d0 d1 v : Value} {w : World} (ht : Tm.at S w c0 c1 t) (hbt : t.bulk ≤ 1048576) (hp : D.rd S' w v (slOf intE p)) (hl : p.length ≤ 1048576) (hs : Tm.at S'' w d0 d1 s) (hbs : s.bulk ≤ 1048576) (hsum : t.bulk + s.bulk ≤ 1048576) :
    Calls Try.prog 6 #[.agg #[c0, c1], v, .agg #[d0, d1]] w (OutT (repR t p s) (repOk t p s) w) := by
  obtain ⟨pa, pc, rfl, hlen, hcap⟩ := slOf_form hp
  obtain ⟨r0, Hr0⟩ : ∃ r, Hid ((t.sub p).getD noTm = r) := ⟨_, hid rfl⟩
  by_cases h1 : t.expr = true
  rotate_left
  · have HX := hid (Bool.eq_false_iff.2 h1)
    have HK : Hid (repOk t p s = false) := by rw [Hid, repOk]; simp [HX.out]
    have HR : Hid (repR t p s = noTm) := by rw [Hid, repR, if_neg (by rw [HK.out]; simp)]
    rw [HK.out, HR.out]
    clear h1
    obtain ⟨rfl, tn, ta, tc, rfl⟩ := Tm.at_form ht
    obtain ⟨rfl, sn, sa, sc, rfl⟩ := Tm.at_form hs
    have hW : Below w.heap.size w (((w.alloc (.cells #[.string t.name, .slice ta t.args.length tc] 29)).alloc (.cells #[.string s.name, .slice sa s.args.length sc] 29)).alloc (.cells #[.string ⟨#[]⟩, .slice none 0 0] 29)) := (((Below.refl _ _).alloc (Nat.le_refl _) _).alloc (by simp) _).alloc (by simp; omega) _
    have bt : Box (((w.alloc (.cells #[.string t.name, .slice ta t.args.length tc] 29)).alloc (.cells #[.string s.name, .slice sa s.args.length sc] 29)).alloc (.cells #[.string ⟨#[]⟩, .slice none 0 0] 29)) (w.heap.size) [.string t.name, .slice ta t.args.length tc] := by
      have := (((Box.new w [.string t.name, .slice ta t.args.length tc] 29).alloc (.cells #[.string s.name, .slice sa s.args.length sc] 29)).alloc (.cells #[.string ⟨#[]⟩, .slice none 0 0] 29))
      simpa only [World.size_alloc] using this
    have bs : Box (((w.alloc (.cells #[.string t.name, .slice ta t.args.length tc] 29)).alloc (.cells #[.string s.name, .slice sa s.args.length sc] 29)).alloc (.cells #[.string ⟨#[]⟩, .slice none 0 0] 29)) (w.heap.size + 1) [.string s.name, .slice sa s.args.length sc] := by
      have := ((Box.new (w.alloc (.cells #[.string t.name, .slice ta t.args.length tc] 29)) [.string s.name, .slice sa s.args.length sc] 29).alloc (.cells #[.string ⟨#[]⟩, .slice none 0 0] 29))
      simpa only [World.size_alloc] using this
    have rb : Box (((w.alloc (.cells #[.string t.name, .slice ta t.args.length tc] 29)).alloc (.cells #[.string s.name, .slice sa s.args.length sc] 29)).alloc (.cells #[.string ⟨#[]⟩, .slice none 0 0] 29)) (w.heap.size + 1 + 1) [.string ⟨#[]⟩, .slice none 0 0] := by
      have := (Box.new ((w.alloc (.cells #[.string t.name, .slice ta t.args.length tc] 29)).alloc (.cells #[.string s.name, .slice sa s.args.length sc] 29)) [.string ⟨#[]⟩, .slice none 0 0] 29)
      simpa only [World.size_alloc] using this
    have rf : ∀ p, (((w.alloc (.cells #[.string t.name, .slice ta t.args.length tc] 29)).alloc (.cells #[.string s.name, .slice sa s.args.length sc] 29)).alloc (.cells #[.string ⟨#[]⟩, .slice none 0 0] 29)).frozen? ⟨w.heap.size + 1 + 1, p, none⟩ = false := fun p => World.frozen?_alloc_at _ _ _ p (by simp)
    replace ht := Tm.at_keep (Keeps.all hW) ht
    replace hs := Tm.at_keep (Keeps.all hW) hs
    replace hp := D.rd_keep (Keeps.all hW) _ _ hp
    have et0 := bt.c0
    have et1 := bt.c1
    have lt := bt.lt
    have es0 := bs.c0
    have es1 := bs.c1
    have ls := bs.lt
    have re0 := rb.c0
    have rf0 := rf 0
    have re1 := rb.c1
    have rf1 := rf 1
    have rl := rb.lt
    go_enter Try.func6, Try.ntmps6
    go_wp2_with fail
    clear et0 et1 lt es0 es1 ls re0 rf0 re1 rf1 rl
    have Hw0 : Hid ((((w.alloc (.cells #[.string t.name, .slice ta t.args.length tc] 29)).alloc (.cells #[.string s.name, .slice sa s.args.length sc] 29)).alloc (.cells #[.string ⟨#[]⟩, .slice none 0 0] 29)).heap.size = w.heap.size + 1 + 1 + 1) := by simp [Hid]
    generalize (((w.alloc (.cells #[.string t.name, .slice ta t.args.length tc] 29)).alloc (.cells #[.string s.name, .slice sa s.args.length sc] 29)).alloc (.cells #[.string ⟨#[]⟩, .slice none 0 0] 29)) = w0 at *
    refine (l2Any_any t ht hbt).mono ?_
    rintro e w1 ⟨_, rfl, hb, rfl⟩
    replace hW := hW.trans (hb.mono hW.size)
    replace bt := bt.keep hb
    replace ht := Tm.at_keep (Keeps.all hb) ht
    replace bs := bs.keep hb
    replace hs := Tm.at_keep (Keeps.all hb) hs
    replace rf := fun p => (hb.frozen (p := ⟨_, p, none⟩) rb.lt).trans (rf p)
    replace rb := rb.keep hb
    replace hp := D.rd_keep (Keeps.all hb) _ _ hp
    clear hb
    rw [HX.out]
    have et0 := bt.c0
    have et1 := bt.c1
    have lt := bt.lt
    have es0 := bs.c0
    have es1 := bs.c1
    have ls := bs.lt
    have re0 := rb.c0
    have rf0 := rf 0
    have re1 := rb.c1
    have rf1 := rf 1
    have rl := rb.lt
    go_wp2_with fail
    clear et0 et1 lt es0 es1 ls re0 rf0 re1 rf1 rl
    refine bodyPost_ret (v := .tuple #[.agg #[.string ByteArray.empty, .slice none 0 0], .bool false]) (by simp [results, Try.results6, go_sem, rb.c0, rb.c1]; try rfl) rfl ?_
    exact ⟨_, [], rfl, noTm_own, by simp, (hW.setCell (by simp; omega) _).setCell (by simp; omega) _⟩
  have HE := hid h1
  clear h1
  by_cases h2 : s.valid = true
  rotate_left
  · have HX := hid (Bool.eq_false_iff.2 h2)
    have HK : Hid (repOk t p s = false) := by rw [Hid, repOk]; simp [HX.out]
    have HR : Hid (repR t p s = noTm) := by rw [Hid, repR, if_neg (by rw [HK.out]; simp)]
    rw [HK.out, HR.out]
    clear h2
    obtain ⟨rfl, tn, ta, tc, rfl⟩ := Tm.at_form ht
    obtain ⟨rfl, sn, sa, sc, rfl⟩ := Tm.at_form hs
    have hW : Below w.heap.size w (((w.alloc (.cells #[.string t.name, .slice ta t.args.length tc] 29)).alloc (.cells #[.string s.name, .slice sa s.args.length sc] 29)).alloc (.cells #[.string ⟨#[]⟩, .slice none 0 0] 29)) := (((Below.refl _ _).alloc (Nat.le_refl _) _).alloc (by simp) _).alloc (by simp; omega) _
    have bt : Box (((w.alloc (.cells #[.string t.name, .slice ta t.args.length tc] 29)).alloc (.cells #[.string s.name, .slice sa s.args.length sc] 29)).alloc (.cells #[.string ⟨#[]⟩, .slice none 0 0] 29)) (w.heap.size) [.string t.name, .slice ta t.args.length tc] := by
      have := (((Box.new w [.string t.name, .slice ta t.args.length tc] 29).alloc (.cells #[.string s.name, .slice sa s.args.length sc] 29)).alloc (.cells #[.string ⟨#[]⟩, .slice none 0 0] 29))
      simpa only [World.size_alloc] using this
    have bs : Box (((w.alloc (.cells #[.string t.name, .slice ta t.args.length tc] 29)).alloc (.cells #[.string s.name, .slice sa s.args.length sc] 29)).alloc (.cells #[.string ⟨#[]⟩, .slice none 0 0] 29)) (w.heap.size + 1) [.string s.name, .slice sa s.args.length sc] := by
      have := ((Box.new (w.alloc (.cells #[.string t.name, .slice ta t.args.length tc] 29)) [.string s.name, .slice sa s.args.length sc] 29).alloc (.cells #[.string ⟨#[]⟩, .slice none 0 0] 29))
      simpa only [World.size_alloc] using this
    have rb : Box (((w.alloc (.cells #[.string t.name, .slice ta t.args.length tc] 29)).alloc (.cells #[.string s.name, .slice sa s.args.length sc] 29)).alloc (.cells #[.string ⟨#[]⟩, .slice none 0 0] 29)) (w.heap.size + 1 + 1) [.string ⟨#[]⟩, .slice none 0 0] := by
      have := (Box.new ((w.alloc (.cells #[.string t.name, .slice ta t.args.length tc] 29)).alloc (.cells #[.string s.name, .slice sa s.args.length sc] 29)) [.string ⟨#[]⟩, .slice none 0 0] 29)
      simpa only [World.size_alloc] using this
    have rf : ∀ p, (((w.alloc (.cells #[.string t.name, .slice ta t.args.length tc] 29)).alloc (.cells #[.string s.name, .slice sa s.args.length sc] 29)).alloc (.cells #[.string ⟨#[]⟩, .slice none 0 0] 29)).frozen? ⟨w.heap.size + 1 + 1, p, none⟩ = false := fun p => World.frozen?_alloc_at _ _ _ p (by simp)
    replace ht := Tm.at_keep (Keeps.all hW) ht
    replace hs := Tm.at_keep (Keeps.all hW) hs
    replace hp := D.rd_keep (Keeps.all hW) _ _ hp
    have et0 := bt.c0
    have et1 := bt.c1
    have lt := bt.lt
    have es0 := bs.c0
    have es1 := bs.c1
    have ls := bs.lt
    have re0 := rb.c0
    have rf0 := rf 0
    have re1 := rb.c1
    have rf1 := rf 1
    have rl := rb.lt
    go_enter Try.func6, Try.ntmps6
    go_wp2_with fail
    clear et0 et1 lt es0 es1 ls re0 rf0 re1 rf1 rl
    have Hw0 : Hid ((((w.alloc (.cells #[.string t.name, .slice ta t.args.length tc] 29)).alloc (.cells #[.string s.name, .slice sa s.args.length sc] 29)).alloc (.cells #[.string ⟨#[]⟩, .slice none 0 0] 29)).heap.size = w.heap.size + 1 + 1 + 1) := by simp [Hid]
    generalize (((w.alloc (.cells #[.string t.name, .slice ta t.args.length tc] 29)).alloc (.cells #[.string s.name, .slice sa s.args.length sc] 29)).alloc (.cells #[.string ⟨#[]⟩, .slice none 0 0] 29)) = w0 at *
    refine (l2Any_any t ht hbt).mono ?_
    rintro e w1 ⟨_, rfl, hb, rfl⟩
    replace hW := hW.trans (hb.mono hW.size)
    replace bt := bt.keep hb
    replace ht := Tm.at_keep (Keeps.all hb) ht
    replace bs := bs.keep hb
    replace hs := Tm.at_keep (Keeps.all hb) hs
    replace rf := fun p => (hb.frozen (p := ⟨_, p, none⟩) rb.lt).trans (rf p)
    replace rb := rb.keep hb
    replace hp := D.rd_keep (Keeps.all hb) _ _ hp
    clear hb
    rw [HE.out]
    have et0 := bt.c0
    have et1 := bt.c1
    have lt := bt.lt
    have es0 := bs.c0
    have es1 := bs.c1
    have ls := bs.lt
    have re0 := rb.c0
    have rf0 := rf 0
    have re1 := rb.c1
    have rf1 := rf 1
    have rl := rb.lt
    go_wp2_with fail
    clear et0 et1 lt es0 es1 ls re0 rf0 re1 rf1 rl
    refine (l2Good_any s hs hbs).mono ?_
    rintro e w1 ⟨_, rfl, hb, rfl⟩
    replace hW := hW.trans (hb.mono hW.size)
    replace bt := bt.keep hb
    replace ht := Tm.at_keep (Keeps.all hb) ht
    replace bs := bs.keep hb
    replace hs := Tm.at_keep (Keeps.all hb) hs
    replace rf := fun p => (hb.frozen (p := ⟨_, p, none⟩) rb.lt).trans (rf p)
    replace rb := rb.keep hb
    replace hp := D.rd_keep (Keeps.all hb) _ _ hp
    clear hb
    rw [HX.out]
    have et0 := bt.c0
    have et1 := bt.c1
    have lt := bt.lt
    have es0 := bs.c0
    have es1 := bs.c1
    have ls := bs.lt
    have re0 := rb.c0
    have rf0 := rf 0
    have re1 := rb.c1
    have rf1 := rf 1
    have rl := rb.lt
    go_wp2_with fail
    clear et0 et1 lt es0 es1 ls re0 rf0 re1 rf1 rl
    refine bodyPost_ret (v := .tuple #[.agg #[.string ByteArray.empty, .slice none 0 0], .bool false]) (by simp [results, Try.results6, go_sem, rb.c0, rb.c1]; try rfl) rfl ?_
    exact ⟨_, [], rfl, noTm_own, by simp, (hW.setCell (by simp; omega) _).setCell (by simp; omega) _⟩
  have HV := hid h2
  clear h2
  by_cases h3 : (t.sub p).isSome = true
  rotate_left
  · have HX := hid (Bool.eq_false_iff.2 h3)
    have Ho0 := HX
    have HK : Hid (repOk t p s = false) := by rw [Hid, repOk]; simp [HX.out]
    have HR : Hid (repR t p s = noTm) := by rw [Hid, repR, if_neg (by rw [HK.out]; simp)]
    rw [HK.out, HR.out]
    clear h3
    obtain ⟨rfl, tn, ta, tc, rfl⟩ := Tm.at_form ht
    obtain ⟨rfl, sn, sa, sc, rfl⟩ := Tm.at_form hs
    have hW : Below w.heap.size w (((w.alloc (.cells #[.string t.name, .slice ta t.args.length tc] 29)).alloc (.cells #[.string s.name, .slice sa s.args.length sc] 29)).alloc (.cells #[.string ⟨#[]⟩, .slice none 0 0] 29)) := (((Below.refl _ _).alloc (Nat.le_refl _) _).alloc (by simp) _).alloc (by simp; omega) _
    have bt : Box (((w.alloc (.cells #[.string t.name, .slice ta t.args.length tc] 29)).alloc (.cells #[.string s.name, .slice sa s.args.length sc] 29)).alloc (.cells #[.string ⟨#[]⟩, .slice none 0 0] 29)) (w.heap.size) [.string t.name, .slice ta t.args.length tc] := by
      have := (((Box.new w [.string t.name, .slice ta t.args.length tc] 29).alloc (.cells #[.string s.name, .slice sa s.args.length sc] 29)).alloc (.cells #[.string ⟨#[]⟩, .slice none 0 0] 29))
      simpa only [World.size_alloc] using this
    have bs : Box (((w.alloc (.cells #[.string t.name, .slice ta t.args.length tc] 29)).alloc (.cells #[.string s.name, .slice sa s.args.length sc] 29)).alloc (.cells #[.string ⟨#[]⟩, .slice none 0 0] 29)) (w.heap.size + 1) [.string s.name, .slice sa s.args.length sc] := by
      have := ((Box.new (w.alloc (.cells #[.string t.name, .slice ta t.args.length tc] 29)) [.string s.name, .slice sa s.args.length sc] 29).alloc (.cells #[.string ⟨#[]⟩, .slice none 0 0] 29))
      simpa only [World.size_alloc] using this
    have rb : Box (((w.alloc (.cells #[.string t.name, .slice ta t.args.length tc] 29)).alloc (.cells #[.string s.name, .slice sa s.args.length sc] 29)).alloc (.cells #[.string ⟨#[]⟩, .slice none 0 0] 29)) (w.heap.size + 1 + 1) [.string ⟨#[]⟩, .slice none 0 0] := by
      have := (Box.new ((w.alloc (.cells #[.string t.name, .slice ta t.args.length tc] 29)).alloc (.cells #[.string s.name, .slice sa s.args.length sc] 29)) [.string ⟨#[]⟩, .slice none 0 0] 29)
      simpa only [World.size_alloc] using this
    have rf : ∀ p, (((w.alloc (.cells #[.string t.name, .slice ta t.args.length tc] 29)).alloc (.cells #[.string s.name, .slice sa s.args.length sc] 29)).alloc (.cells #[.string ⟨#[]⟩, .slice none 0 0] 29)).frozen? ⟨w.heap.size + 1 + 1, p, none⟩ = false := fun p => World.frozen?_alloc_at _ _ _ p (by simp)
    replace ht := Tm.at_keep (Keeps.all hW) ht
    replace hs := Tm.at_keep (Keeps.all hW) hs
    replace hp := D.rd_keep (Keeps.all hW) _ _ hp
    have et0 := bt.c0
    have et1 := bt.c1
    have lt := bt.lt
    have es0 := bs.c0
    have es1 := bs.c1
    have ls := bs.lt
    have re0 := rb.c0
    have rf0 := rf 0
    have re1 := rb.c1
    have rf1 := rf 1
    have rl := rb.lt
    go_enter Try.func6, Try.ntmps6
    go_wp2_with fail
    clear et0 et1 lt es0 es1 ls re0 rf0 re1 rf1 rl
    have Hw0 : Hid ((((w.alloc (.cells #[.string t.name, .slice ta t.args.length tc] 29)).alloc (.cells #[.string s.name, .slice sa s.args.length sc] 29)).alloc (.cells #[.string ⟨#[]⟩, .slice none 0 0] 29)).heap.size = w.heap.size + 1 + 1 + 1) := by simp [Hid]
    generalize (((w.alloc (.cells #[.string t.name, .slice ta t.args.length tc] 29)).alloc (.cells #[.string s.name, .slice sa s.args.length sc] 29)).alloc (.cells #[.string ⟨#[]⟩, .slice none 0 0] 29)) = w0 at *
    refine (l2Any_any t ht hbt).mono ?_
    rintro e w1 ⟨_, rfl, hb, rfl⟩
    replace hW := hW.trans (hb.mono hW.size)
    replace bt := bt.keep hb
    replace ht := Tm.at_keep (Keeps.all hb) ht
    replace bs := bs.keep hb
    replace hs := Tm.at_keep (Keeps.all hb) hs
    replace rf := fun p => (hb.frozen (p := ⟨_, p, none⟩) rb.lt).trans (rf p)
    replace rb := rb.keep hb
    replace hp := D.rd_keep (Keeps.all hb) _ _ hp
    clear hb
    rw [HE.out]
    have et0 := bt.c0
    have et1 := bt.c1
    have lt := bt.lt
    have es0 := bs.c0
    have es1 := bs.c1
    have ls := bs.lt
    have re0 := rb.c0
    have rf0 := rf 0
    have re1 := rb.c1
    have rf1 := rf 1
    have rl := rb.lt
    go_wp2_with fail
    clear et0 et1 lt es0 es1 ls re0 rf0 re1 rf1 rl
    refine (l2Good_any s hs hbs).mono ?_
    rintro e w1 ⟨_, rfl, hb, rfl⟩
    replace hW := hW.trans (hb.mono hW.size)
    replace bt := bt.keep hb
    replace ht := Tm.at_keep (Keeps.all hb) ht
    replace bs := bs.keep hb
    replace hs := Tm.at_keep (Keeps.all hb) hs
    replace rf := fun p => (hb.frozen (p := ⟨_, p, none⟩) rb.lt).trans (rf p)
    replace rb := rb.keep hb
    replace hp := D.rd_keep (Keeps.all hb) _ _ hp
    clear hb
    rw [HV.out]
    have et0 := bt.c0
    have et1 := bt.c1
    have lt := bt.lt
    have es0 := bs.c0
    have es1 := bs.c1
    have ls := bs.lt
    have re0 := rb.c0
    have rf0 := rf 0
    have re1 := rb.c1
    have rf1 := rf 1
    have rl := rb.lt
    go_wp2_with fail
    clear et0 et1 lt es0 es1 ls re0 rf0 re1 rf1 rl
    have hq := l2At_any t p hbt ht hp hl
    rw [Hr0.out, Ho0.out] at hq
    refine hq.mono ?_
    rintro e w2 ⟨d1, F0, rfl, ho0, hF0, hb⟩
    clear hq
    replace hW := hW.trans (hb.mono hW.size)
    replace bt := bt.keep hb
    replace ht := Tm.at_keep (Keeps.all hb) ht
    replace bs := bs.keep hb
    replace hs := Tm.at_keep (Keeps.all hb) hs
    replace rf := fun p => (hb.frozen (p := ⟨_, p, none⟩) rb.lt).trans (rf p)
    replace rb := rb.keep hb
    replace hp := D.rd_keep (Keeps.all hb) _ _ hp
    clear hb
    obtain ⟨ra, rc, rfl⟩ := Tm.sd_own_form ho0
    have hb : Below w2.heap.size w2 (w2.alloc (.cells #[.string r0.name, .slice ra r0.args.length rc] 29)) := (Below.refl _ _).alloc (Nat.le_refl _) _
    have et0 := bt.c0
    have et1 := bt.c1
    have lt := bt.lt
    have es0 := bs.c0
    have es1 := bs.c1
    have ls := bs.lt
    have re0 := rb.c0
    have rf0 := rf 0
    have re1 := rb.c1
    have rf1 := rf 1
    have rl := rb.lt
    go_wp2_with fail
    clear et0 et1 lt es0 es1 ls re0 rf0 re1 rf1 rl
    have q0 : (((w2.setCell ⟨w.heap.size + 1 + 1, 0, none⟩ (.string ⟨#[]⟩)).setCell ⟨w.heap.size + 1 + 1, 1, none⟩ (.slice none 0 0)).alloc (.cells #[.string r0.name, .slice ra r0.args.length rc] 29)).cell? ⟨w.heap.size + 1 + 1, 0, none⟩ = some (.string ⟨#[]⟩) := cell_alloc ((World.cell?_setCell_other _ _ _ _ (by intro e; injection e with _ e; omega)).trans (World.cell?_setCell_same _ _ _ rb.c0)) _
    have q1 : (((w2.setCell ⟨w.heap.size + 1 + 1, 0, none⟩ (.string ⟨#[]⟩)).setCell ⟨w.heap.size + 1 + 1, 1, none⟩ (.slice none 0 0)).alloc (.cells #[.string r0.name, .slice ra r0.args.length rc] 29)).cell? ⟨w.heap.size + 1 + 1, 1, none⟩ = some (.slice none 0 0) := cell_alloc (World.cell?_setCell_same _ _ _ ((World.cell?_setCell_other _ _ _ _ (by intro e; injection e with _ e; omega)).trans rb.c1)) _
    have hzw := hW.size
    refine bodyPost_ret (v := .tuple #[.agg #[.string ⟨#[]⟩, .slice none 0 0], .bool false]) (by simp [results, Try.results6, go_sem, q0, q1]; try rfl) rfl ?_
    exact ⟨_, [], rfl, noTm_own, by simp, ((hW.setCell (p := ⟨w.heap.size + 1 + 1, 0, none⟩) (by show w.heap.size ≤ w.heap.size + 1 + 1; omega) _).setCell (p := ⟨w.heap.size + 1 + 1, 1, none⟩) (by show w.heap.size ≤ w.heap.size + 1 + 1; omega) _).alloc (by simp; omega) _⟩
  have Ho0 := hid h3
  clear h3
  obtain ⟨r, Hr⟩ : ∃ r, Hid (t.put p s = r) := ⟨_, hid rfl⟩
  have hrb : r.bulk ≤ 1048576 := by rw [← Hr.out]; have := Tm.put_bulk s p t; omega
  have hrn := Tm.name_le hrb
  by_cases h4 : r.expr = true
  · have HX := hid h4
    have HK : Hid (repOk t p s = true) := by rw [Hid, repOk, HE.out, HV.out, Ho0.out, Hr.out, HX.out]; rfl
    have HR : Hid (repR t p s = r) := by rw [Hid, repR, if_pos HK.out, Hr.out]
    rw [HK.out, HR.out]
    clear h4
    obtain ⟨rfl, tn, ta, tc, rfl⟩ := Tm.at_form ht
    obtain ⟨rfl, sn, sa, sc, rfl⟩ := Tm.at_form hs
    have hW : Below w.heap.size w (((w.alloc (.cells #[.string t.name, .slice ta t.args.length tc] 29)).alloc (.cells #[.string s.name, .slice sa s.args.length sc] 29)).alloc (.cells #[.string ⟨#[]⟩, .slice none 0 0] 29)) := (((Below.refl _ _).alloc (Nat.le_refl _) _).alloc (by simp) _).alloc (by simp; omega) _
    have bt : Box (((w.alloc (.cells #[.string t.name, .slice ta t.args.length tc] 29)).alloc (.cells #[.string s.name, .slice sa s.args.length sc] 29)).alloc (.cells #[.string ⟨#[]⟩, .slice none 0 0] 29)) (w.heap.size) [.string t.name, .slice ta t.args.length tc] := by
      have := (((Box.new w [.string t.name, .slice ta t.args.length tc] 29).alloc (.cells #[.string s.name, .slice sa s.args.length sc] 29)).alloc (.cells #[.string ⟨#[]⟩, .slice none 0 0] 29))
      simpa only [World.size_alloc] using this
    have bs : Box (((w.alloc (.cells #[.string t.name, .slice ta t.args.length tc] 29)).alloc (.cells #[.string s.name, .slice sa s.args.length sc] 29)).alloc (.cells #[.string ⟨#[]⟩, .slice none 0 0] 29)) (w.heap.size + 1) [.string s.name, .slice sa s.args.length sc] := by
      have := ((Box.new (w.alloc (.cells #[.string t.name, .slice ta t.args.length tc] 29)) [.string s.name, .slice sa s.args.length sc] 29).alloc (.cells #[.string ⟨#[]⟩, .slice none 0 0] 29))
      simpa only [World.size_alloc] using this
    have rb : Box (((w.alloc (.cells #[.string t.name, .slice ta t.args.length tc] 29)).alloc (.cells #[.string s.name, .slice sa s.args.length sc] 29)).alloc (.cells #[.string ⟨#[]⟩, .slice none 0 0] 29)) (w.heap.size + 1 + 1) [.string ⟨#[]⟩, .slice none 0 0] := by
      have := (Box.new ((w.alloc (.cells #[.string t.name, .slice ta t.args.length tc] 29)).alloc (.cells #[.string s.name, .slice sa s.args.length sc] 29)) [.string ⟨#[]⟩, .slice none 0 0] 29)
      simpa only [World.size_alloc] using this
    have rf : ∀ p, (((w.alloc (.cells #[.string t.name, .slice ta t.args.length tc] 29)).alloc (.cells #[.string s.name, .slice sa s.args.length sc] 29)).alloc (.cells #[.string ⟨#[]⟩, .slice none 0 0] 29)).frozen? ⟨w.heap.size + 1 + 1, p, none⟩ = false := fun p => World.frozen?_alloc_at _ _ _ p (by simp)
    replace ht := Tm.at_keep (Keeps.all hW) ht
    replace hs := Tm.at_keep (Keeps.all hW) hs
    replace hp := D.rd_keep (Keeps.all hW) _ _ hp
    have et0 := bt.c0
    have et1 := bt.c1
    have lt := bt.lt
    have es0 := bs.c0
    have es1 := bs.c1
    have ls := bs.lt
    have re0 := rb.c0
    have rf0 := rf 0
    have re1 := rb.c1
    have rf1 := rf 1
    have rl := rb.lt
    go_enter Try.func6, Try.ntmps6
    go_wp2_with fail
    clear et0 et1 lt es0 es1 ls re0 rf0 re1 rf1 rl
    have Hw0 : Hid ((((w.alloc (.cells #[.string t.name, .slice ta t.args.length tc] 29)).alloc (.cells #[.string s.name, .slice sa s.args.length sc] 29)).alloc (.cells #[.string ⟨#[]⟩, .slice none 0 0] 29)).heap.size = w.heap.size + 1 + 1 + 1) := by simp [Hid]
    generalize (((w.alloc (.cells #[.string t.name, .slice ta t.args.length tc] 29)).alloc (.cells #[.string s.name, .slice sa s.args.length sc] 29)).alloc (.cells #[.string ⟨#[]⟩, .slice none 0 0] 29)) = w0 at *
    refine (l2Any_any t ht hbt).mono ?_
    rintro e w1 ⟨_, rfl, hb, rfl⟩
    replace hW := hW.trans (hb.mono hW.size)
    replace bt := bt.keep hb
    replace ht := Tm.at_keep (Keeps.all hb) ht
    replace bs := bs.keep hb
    replace hs := Tm.at_keep (Keeps.all hb) hs
    replace rf := fun p => (hb.frozen (p := ⟨_, p, none⟩) rb.lt).trans (rf p)
    replace rb := rb.keep hb
    replace hp := D.rd_keep (Keeps.all hb) _ _ hp
    clear hb
    rw [HE.out]
    have et0 := bt.c0
    have et1 := bt.c1
    have lt := bt.lt
    have es0 := bs.c0
    have es1 := bs.c1
    have ls := bs.lt
    have re0 := rb.c0
    have rf0 := rf 0
    have re1 := rb.c1
    have rf1 := rf 1
    have rl := rb.lt
    go_wp2_with fail
    clear et0 et1 lt es0 es1 ls re0 rf0 re1 rf1 rl
    refine (l2Good_any s hs hbs).mono ?_
    rintro e w1 ⟨_, rfl, hb, rfl⟩
    replace hW := hW.trans (hb.mono hW.size)
    replace bt := bt.keep hb
    replace ht := Tm.at_keep (Keeps.all hb) ht
    replace bs := bs.keep hb
    replace hs := Tm.at_keep (Keeps.all hb) hs
    replace rf := fun p => (hb.frozen (p := ⟨_, p, none⟩) rb.lt).trans (rf p)
    replace rb := rb.keep hb
    replace hp := D.rd_keep (Keeps.all hb) _ _ hp
    clear hb
    rw [HV.out]
    have et0 := bt.c0
    have et1 := bt.c1
    have lt := bt.lt
    have es0 := bs.c0
    have es1 := bs.c1
    have ls := bs.lt
    have re0 := rb.c0
    have rf0 := rf 0
    have re1 := rb.c1
    have rf1 := rf 1
    have rl := rb.lt
    go_wp2_with fail
    clear et0 et1 lt es0 es1 ls re0 rf0 re1 rf1 rl
    have hq := l2At_any t p hbt ht hp hl
    rw [Hr0.out, Ho0.out] at hq
    refine hq.mono ?_
    rintro e w2 ⟨d1, F0, rfl, ho0, hF0, hb⟩
    clear hq
    replace hW := hW.trans (hb.mono hW.size)
    replace bt := bt.keep hb
    replace ht := Tm.at_keep (Keeps.all hb) ht
    replace bs := bs.keep hb
    replace hs := Tm.at_keep (Keeps.all hb) hs
    replace rf := fun p => (hb.frozen (p := ⟨_, p, none⟩) rb.lt).trans (rf p)
    replace rb := rb.keep hb
    replace hp := D.rd_keep (Keeps.all hb) _ _ hp
    clear hb
    obtain ⟨ra, rc, rfl⟩ := Tm.sd_own_form ho0
    have hb : Below w2.heap.size w2 (w2.alloc (.cells #[.string r0.name, .slice ra r0.args.length rc] 29)) := (Below.refl _ _).alloc (Nat.le_refl _) _
    have et0 := bt.c0
    have et1 := bt.c1
    have lt := bt.lt
    have es0 := bs.c0
    have es1 := bs.c1
    have ls := bs.lt
    have re0 := rb.c0
    have rf0 := rf 0
    have re1 := rb.c1
    have rf1 := rf 1
    have rl := rb.lt
    go_wp2_with fail
    clear et0 et1 lt es0 es1 ls re0 rf0 re1 rf1 rl
    replace hW := hW.trans (hb.mono hW.size)
    replace bt := bt.keep hb
    replace ht := Tm.at_keep (Keeps.all hb) ht
    replace bs := bs.keep hb
    replace hs := Tm.at_keep (Keeps.all hb) hs
    replace rf := fun p => (hb.frozen (p := ⟨_, p, none⟩) rb.lt).trans (rf p)
    replace rb := rb.keep hb
    replace hp := D.rd_keep (Keeps.all hb) _ _ hp
    clear hb
    generalize w2.alloc (.cells #[.string r0.name, .slice ra r0.args.length rc] 29) = w3 at *
    have hrl3 := rb.lt
    have hwz3 := hW.size
    have hq := repIs_any_S p t s _ _ _ _ _ _ _ _ _ ht hs hp hbt hbs hl Ho0.out
    rw [Hr.out] at hq
    refine hq.mono ?_
    rintro e w4 ⟨v, F, rfl, ho, hF, hb⟩
    clear hq
    replace hW := hW.trans (hb.mono hW.size)
    replace bt := bt.keep hb
    replace ht := Tm.at_keep (Keeps.all hb) ht
    replace bs := bs.keep hb
    replace hs := Tm.at_keep (Keeps.all hb) hs
    replace rf := fun p => (hb.frozen (p := ⟨_, p, none⟩) rb.lt).trans (rf p)
    replace rb := rb.keep hb
    replace hp := D.rd_keep (Keeps.all hb) _ _ hp
    clear hb
    obtain ⟨va, vc, rfl⟩ := Tm.sd_own_form ho
    have hb : Below w4.heap.size w4 (w4.alloc (.cells #[.string r.name, .slice va r.args.length vc] 29)) := (Below.refl _ _).alloc (Nat.le_refl _) _
    have bO : Box (w4.alloc (.cells #[.string r.name, .slice va r.args.length vc] 29)) w4.heap.size [.string r.name, .slice va r.args.length vc] := Box.new _ _ _
    have et0 := bt.c0
    have et1 := bt.c1
    have lt := bt.lt
    have es0 := bs.c0
    have es1 := bs.c1
    have ls := bs.lt
    have re0 := rb.c0
    have rf0 := rf 0
    have re1 := rb.c1
    have rf1 := rf 1
    have rl := rb.lt
    go_wp2_with fail
    clear et0 et1 lt es0 es1 ls re0 rf0 re1 rf1 rl
    replace ho := D.own_keep _ _ _ (Keeps.all hb) ho
    replace hW := hW.trans (hb.mono hW.size)
    replace bt := bt.keep hb
    replace ht := Tm.at_keep (Keeps.all hb) ht
    replace bs := bs.keep hb
    replace hs := Tm.at_keep (Keeps.all hb) hs
    replace rf := fun p => (hb.frozen (p := ⟨_, p, none⟩) rb.lt).trans (rf p)
    replace rb := rb.keep hb
    replace hp := D.rd_keep (Keeps.all hb) _ _ hp
    clear hb
    generalize w4.alloc (.cells #[.string r.name, .slice va r.args.length vc] 29) = w5 at *
    refine (l2Any_any r (Tm.at_of hrn ho) hrb).mono ?_
    rintro e w6 ⟨_, rfl, hb, rfl⟩
    replace ho := D.own_keep _ _ _ (Keeps.all hb) ho
    replace bO := bO.keep hb
    replace hW := hW.trans (hb.mono hW.size)
    replace bt := bt.keep hb
    replace ht := Tm.at_keep (Keeps.all hb) ht
    replace bs := bs.keep hb
    replace hs := Tm.at_keep (Keeps.all hb) hs
    replace rf := fun p => (hb.frozen (p := ⟨_, p, none⟩) rb.lt).trans (rf p)
    replace rb := rb.keep hb
    replace hp := D.rd_keep (Keeps.all hb) _ _ hp
    clear hb
    rw [HX.out]
    have eO0 := bO.c0
    have eO1 := bO.c1
    have lO := bO.lt
    have hrl6 := rb.lt
    have et0 := bt.c0
    have et1 := bt.c1
    have lt := bt.lt
    have es0 := bs.c0
    have es1 := bs.c1
    have ls := bs.lt
    have re0 := rb.c0
    have rf0 := rf 0
    have re1 := rb.c1
    have rf1 := rf 1
    have rl := rb.lt
    go_wp2_with fail
    refine bodyPost_ret (v := .tuple #[.agg #[.string r.name, .slice va r.args.length vc], .bool true]) (by simp [results, Try.results6, go_sem, rb.c0, rb.c1]; try rfl) rfl ?_
    refine ⟨_, F, rfl, D.own_keep _ _ _ (((Keeps.refl _ _).set_lt hF hrl3 _).set_lt hF hrl3 _) ho, fun x hx => by have := hF x hx; omega, (hW.setCell (by simp; omega) _).setCell (by simp; omega) _⟩
  · have HX := hid (Bool.eq_false_iff.2 h4)
    have HK : Hid (repOk t p s = false) := by rw [Hid, repOk, Hr.out, HX.out]; simp
    have HR : Hid (repR t p s = noTm) := by rw [Hid, repR, if_neg (by rw [HK.out]; simp)]
    rw [HK.out, HR.out]
    clear h4
    obtain ⟨rfl, tn, ta, tc, rfl⟩ := Tm.at_form ht
    obtain ⟨rfl, sn, sa, sc, rfl⟩ := Tm.at_form hs
    have hW : Below w.heap.size w (((w.alloc (.cells #[.string t.name, .slice ta t.args.length tc] 29)).alloc (.cells #[.string s.name, .slice sa s.args.length sc] 29)).alloc (.cells #[.string ⟨#[]⟩, .slice none 0 0] 29)) := (((Below.refl _ _).alloc (Nat.le_refl _) _).alloc (by simp) _).alloc (by simp; omega) _
    have bt : Box (((w.alloc (.cells #[.string t.name, .slice ta t.args.length tc] 29)).alloc (.cells #[.string s.name, .slice sa s.args.length sc] 29)).alloc (.cells #[.string ⟨#[]⟩, .slice none 0 0] 29)) (w.heap.size) [.string t.name, .slice ta t.args.length tc] := by
      have := (((Box.new w [.string t.name, .slice ta t.args.length tc] 29).alloc (.cells #[.string s.name, .slice sa s.args.length sc] 29)).alloc (.cells #[.string ⟨#[]⟩, .slice none 0 0] 29))
      simpa only [World.size_alloc] using this
    have bs : Box (((w.alloc (.cells #[.string t.name, .slice ta t.args.length tc] 29)).alloc (.cells #[.string s.name, .slice sa s.args.length sc] 29)).alloc (.cells #[.string ⟨#[]⟩, .slice none 0 0] 29)) (w.heap.size + 1) [.string s.name, .slice sa s.args.length sc] := by
      have := ((Box.new (w.alloc (.cells #[.string t.name, .slice ta t.args.length tc] 29)) [.string s.name, .slice sa s.args.length sc] 29).alloc (.cells #[.string ⟨#[]⟩, .slice none 0 0] 29))
      simpa only [World.size_alloc] using this
    have rb : Box (((w.alloc (.cells #[.string t.name, .slice ta t.args.length tc] 29)).alloc (.cells #[.string s.name, .slice sa s.args.length sc] 29)).alloc (.cells #[.string ⟨#[]⟩, .slice none 0 0] 29)) (w.heap.size + 1 + 1) [.string ⟨#[]⟩, .slice none 0 0] := by
      have := (Box.new ((w.alloc (.cells #[.string t.name, .slice ta t.args.length tc] 29)).alloc (.cells #[.string s.name, .slice sa s.args.length sc] 29)) [.string ⟨#[]⟩, .slice none 0 0] 29)
      simpa only [World.size_alloc] using this
    have rf : ∀ p, (((w.alloc (.cells #[.string t.name, .slice ta t.args.length tc] 29)).alloc (.cells #[.string s.name, .slice sa s.args.length sc] 29)).alloc (.cells #[.string ⟨#[]⟩, .slice none 0 0] 29)).frozen? ⟨w.heap.size + 1 + 1, p, none⟩ = false := fun p => World.frozen?_alloc_at _ _ _ p (by simp)
    replace ht := Tm.at_keep (Keeps.all hW) ht
    replace hs := Tm.at_keep (Keeps.all hW) hs
    replace hp := D.rd_keep (Keeps.all hW) _ _ hp
    have et0 := bt.c0
    have et1 := bt.c1
    have lt := bt.lt
    have es0 := bs.c0
    have es1 := bs.c1
    have ls := bs.lt
    have re0 := rb.c0
    have rf0 := rf 0
    have re1 := rb.c1
    have rf1 := rf 1
    have rl := rb.lt
    go_enter Try.func6, Try.ntmps6
    go_wp2_with fail
    clear et0 et1 lt es0 es1 ls re0 rf0 re1 rf1 rl
    have Hw0 : Hid ((((w.alloc (.cells #[.string t.name, .slice ta t.args.length tc] 29)).alloc (.cells #[.string s.name, .slice sa s.args.length sc] 29)).alloc (.cells #[.string ⟨#[]⟩, .slice none 0 0] 29)).heap.size = w.heap.size + 1 + 1 + 1) := by simp [Hid]
    generalize (((w.alloc (.cells #[.string t.name, .slice ta t.args.length tc] 29)).alloc (.cells #[.string s.name, .slice sa s.args.length sc] 29)).alloc (.cells #[.string ⟨#[]⟩, .slice none 0 0] 29)) = w0 at *
    refine (l2Any_any t ht hbt).mono ?_
    rintro e w1 ⟨_, rfl, hb, rfl⟩
    replace hW := hW.trans (hb.mono hW.size)
    replace bt := bt.keep hb
    replace ht := Tm.at_keep (Keeps.all hb) ht
    replace bs := bs.keep hb
    replace hs := Tm.at_keep (Keeps.all hb) hs
    replace rf := fun p => (hb.frozen (p := ⟨_, p, none⟩) rb.lt).trans (rf p)
    replace rb := rb.keep hb
    replace hp := D.rd_keep (Keeps.all hb) _ _ hp
    clear hb
    rw [HE.out]
    have et0 := bt.c0
    have et1 := bt.c1
    have lt := bt.lt
    have es0 := bs.c0
    have es1 := bs.c1
    have ls := bs.lt
    have re0 := rb.c0
    have rf0 := rf 0
    have re1 := rb.c1
    have rf1 := rf 1
    have rl := rb.lt
    go_wp2_with fail
    clear et0 et1 lt es0 es1 ls re0 rf0 re1 rf1 rl
    refine (l2Good_any s hs hbs).mono ?_
    rintro e w1 ⟨_, rfl, hb, rfl⟩
    replace hW := hW.trans (hb.mono hW.size)
    replace bt := bt.keep hb
    replace ht := Tm.at_keep (Keeps.all hb) ht
    replace bs := bs.keep hb
    replace hs := Tm.at_keep (Keeps.all hb) hs
    replace rf := fun p => (hb.frozen (p := ⟨_, p, none⟩) rb.lt).trans (rf p)
    replace rb := rb.keep hb
    replace hp := D.rd_keep (Keeps.all hb) _ _ hp
    clear hb
    rw [HV.out]
    have et0 := bt.c0
    have et1 := bt.c1
    have lt := bt.lt
    have es0 := bs.c0
    have es1 := bs.c1
    have ls := bs.lt
    have re0 := rb.c0
    have rf0 := rf 0
    have re1 := rb.c1
    have rf1 := rf 1
    have rl := rb.lt
    go_wp2_with fail
    clear et0 et1 lt es0 es1 ls re0 rf0 re1 rf1 rl
    have hq := l2At_any t p hbt ht hp hl
    rw [Hr0.out, Ho0.out] at hq
    refine hq.mono ?_
    rintro e w2 ⟨d1, F0, rfl, ho0, hF0, hb⟩
    clear hq
    replace hW := hW.trans (hb.mono hW.size)
    replace bt := bt.keep hb
    replace ht := Tm.at_keep (Keeps.all hb) ht
    replace bs := bs.keep hb
    replace hs := Tm.at_keep (Keeps.all hb) hs
    replace rf := fun p => (hb.frozen (p := ⟨_, p, none⟩) rb.lt).trans (rf p)
    replace rb := rb.keep hb
    replace hp := D.rd_keep (Keeps.all hb) _ _ hp
    clear hb
    obtain ⟨ra, rc, rfl⟩ := Tm.sd_own_form ho0
    have hb : Below w2.heap.size w2 (w2.alloc (.cells #[.string r0.name, .slice ra r0.args.length rc] 29)) := (Below.refl _ _).alloc (Nat.le_refl _) _
    have et0 := bt.c0
    have et1 := bt.c1
    have lt := bt.lt
    have es0 := bs.c0
    have es1 := bs.c1
    have ls := bs.lt
    have re0 := rb.c0
    have rf0 := rf 0
    have re1 := rb.c1
    have rf1 := rf 1
    have rl := rb.lt
    go_wp2_with fail
    clear et0 et1 lt es0 es1 ls re0 rf0 re1 rf1 rl
    replace hW := hW.trans (hb.mono hW.size)
    replace bt := bt.keep hb
    replace ht := Tm.at_keep (Keeps.all hb) ht
    replace bs := bs.keep hb
    replace hs := Tm.at_keep (Keeps.all hb) hs
    replace rf := fun p => (hb.frozen (p := ⟨_, p, none⟩) rb.lt).trans (rf p)
    replace rb := rb.keep hb
    replace hp := D.rd_keep (Keeps.all hb) _ _ hp
    clear hb
    generalize w2.alloc (.cells #[.string r0.name, .slice ra r0.args.length rc] 29) = w3 at *
    have hrl3 := rb.lt
    have hwz3 := hW.size
    have hq := repIs_any_S p t s _ _ _ _ _ _ _ _ _ ht hs hp hbt hbs hl Ho0.out
    rw [Hr.out] at hq
    refine hq.mono ?_
    rintro e w4 ⟨v, F, rfl, ho, hF, hb⟩
    clear hq
    replace hW := hW.trans (hb.mono hW.size)
    replace bt := bt.keep hb
    replace ht := Tm.at_keep (Keeps.all hb) ht
    replace bs := bs.keep hb
    replace hs := Tm.at_keep (Keeps.all hb) hs
    replace rf := fun p => (hb.frozen (p := ⟨_, p, none⟩) rb.lt).trans (rf p)
    replace rb := rb.keep hb
    replace hp := D.rd_keep (Keeps.all hb) _ _ hp
    clear hb
    obtain ⟨va, vc, rfl⟩ := Tm.sd_own_form ho
    have hb : Below w4.heap.size w4 (w4.alloc (.cells #[.string r.name, .slice va r.args.length vc] 29)) := (Below.refl _ _).alloc (Nat.le_refl _) _
    have bO : Box (w4.alloc (.cells #[.string r.name, .slice va r.args.length vc] 29)) w4.heap.size [.string r.name, .slice va r.args.length vc] := Box.new _ _ _
    have et0 := bt.c0
    have et1 := bt.c1
    have lt := bt.lt
    have es0 := bs.c0
    have es1 := bs.c1
    have ls := bs.lt
    have re0 := rb.c0
    have rf0 := rf 0
    have re1 := rb.c1
    have rf1 := rf 1
    have rl := rb.lt
    go_wp2_with fail
    clear et0 et1 lt es0 es1 ls re0 rf0 re1 rf1 rl
    replace ho := D.own_keep _ _ _ (Keeps.all hb) ho
    replace hW := hW.trans (hb.mono hW.size)
    replace bt := bt.keep hb
    replace ht := Tm.at_keep (Keeps.all hb) ht
    replace bs := bs.keep hb
    replace hs := Tm.at_keep (Keeps.all hb) hs
    replace rf := fun p => (hb.frozen (p := ⟨_, p, none⟩) rb.lt).trans (rf p)
    replace rb := rb.keep hb
    replace hp := D.rd_keep (Keeps.all hb) _ _ hp
    clear hb
    generalize w4.alloc (.cells #[.string r.name, .slice va r.args.length vc] 29) = w5 at *
    refine (l2Any_any r (Tm.at_of hrn ho) hrb).mono ?_
    rintro e w6 ⟨_, rfl, hb, rfl⟩
    replace ho := D.own_keep _ _ _ (Keeps.all hb) ho
    replace bO := bO.keep hb
    replace hW := hW.trans (hb.mono hW.size)
    replace bt := bt.keep hb
    replace ht := Tm.at_keep (Keeps.all hb) ht
    replace bs := bs.keep hb
    replace hs := Tm.at_keep (Keeps.all hb) hs
    replace rf := fun p => (hb.frozen (p := ⟨_, p, none⟩) rb.lt).trans (rf p)
    replace rb := rb.keep hb
    replace hp := D.rd_keep (Keeps.all hb) _ _ hp
    clear hb
    rw [HX.out]
    have eO0 := bO.c0
    have eO1 := bO.c1
    have lO := bO.lt
    have hrl6 := rb.lt
    have et0 := bt.c0
    have et1 := bt.c1
    have lt := bt.lt
    have es0 := bs.c0
    have es1 := bs.c1
    have ls := bs.lt
    have re0 := rb.c0
    have rf0 := rf 0
    have re1 := rb.c1
    have rf1 := rf 1
    have rl := rb.lt
    go_wp2_with fail
    refine bodyPost_ret (v := .tuple #[.agg #[.string ByteArray.empty, .slice none 0 0], .bool false]) (by simp [results, Try.results6, go_sem, rb.c0, rb.c1]; try rfl) rfl ?_
    exact ⟨_, [], rfl, noTm_own, by simp, (hW.setCell (by simp; omega) _).setCell (by simp; omega) _⟩
end Go.Proofs.Ytoblhgaohmfjeaa
