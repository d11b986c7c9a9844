/- The program generalizes two terms. -/
import Derived.Test.YtooocakkjdhfiaaDoorGq
import Derived.Test.YtooocakkjdhfiaaDoorIp
import Derived.Test.YtooocakkjdhfiaaDoorIv
import Derived.Test.YtooocakkjdhfiaaDoorNw
import Derived.Test.YtooocakkjdhfiaaDoorZb
import Derived.Test.YtooocakkjdhfiaaDoorLd
import Derived.Test.YtooocakkjdhfiaaDoorTo
namespace Go.Proofs.YtooocakkjdhfiaaDoor
set_option maxRecDepth 100000
open Go.RowKit

theorem infoPair : (Tryd.prog.info? 52).map (fun i => (i.zero, i.size, i.bytes)) = some (some (.agg #[.string ByteArray.empty, .slice none 0 0, .string ByteArray.empty, .slice none 0 0]), 4, 80) := by kernel_rfl
/-- all blocks but P and two rows are as they were -/
def KX (P : Nat) (r s : Option Nat) (W w : World) : Prop := Keeps (fun x => ¬ x = P ∧ ¬ r = some x ∧ ¬ s = some x) W w
theorem KX.refl (P : Nat) (r s : Option Nat) (w : World) : KX P r s w w := Keeps.refl _ _
theorem KX.of_below {P : Nat} {r s : Option Nat} {w w' : World} (h : Below w.heap.size w w') : KX P r s w w' := Keeps.all h
theorem KX.drew {P : Nat} {r s : Option Nat} (w : World) : KX P r s w w.drew := KX.of_below ((Below.refl _ _).drew)
theorem KX.alloc {P : Nat} {r s : Option Nat} (w : World) (o : Obj) : KX P r s w (w.alloc o) := KX.of_below ((Below.refl _ _).alloc (Nat.le_refl _) _)
theorem KX.trans {P : Nat} {r s : Option Nat} {W w w' : World} (h : KX P r s W w) (k : KX P r s w w') : KX P r s W w' :=
  ⟨Nat.le_trans h.size k.size, fun b hS hl => (k.block b hS (Nat.lt_of_lt_of_le hl h.size)).trans (h.block b hS hl)⟩
theorem KX.grown {P : Nat} {r s r' : Option Nat} {W w w' : World} (h : KX P r s W w) (hg : w.grownBy w' r') (hr : ∀ x, r' = some x → r = some x ∨ s = some x ∨ x = P ∨ W.heap.size ≤ x) : KX P r s W w' :=
  ⟨Nat.le_trans h.size hg.size, fun b hS hl => (hg.block b (Nat.lt_of_lt_of_le hl h.size) (fun e => by
    rcases hr b e.symm with q | q | q | q
    · exact hS.2.1 q
    · exact hS.2.2 q
    · exact hS.1 q
    · omega)).trans (h.block b hS hl)⟩
theorem KX.kx {P : Nat} {r s r' : Option Nat} {W w w' : World} (h : KX P r s W w) (k : KX P r' none w w') (hr : ∀ x, r' = some x → r = some x ∨ s = some x ∨ W.heap.size ≤ x) : KX P r s W w' :=
  ⟨Nat.le_trans h.size k.size, fun b hS hl => (k.block b ⟨hS.1, fun e => by
    rcases hr b e with q | q | q
    · exact hS.2.1 q
    · exact hS.2.2 q
    · omega, by simp⟩ (Nat.lt_of_lt_of_le hl h.size)).trans (h.block b hS hl)⟩
theorem KX.cell {P : Nat} {r s : Option Nat} {W w : World} {b o : Nat} (h : KX P r s W w) (hl : b < W.heap.size) (h1 : ¬ b = P) (h2 : ¬ r = some b) (h3 : ¬ s = some b) : w.cell? ⟨b, o, none⟩ = W.cell? ⟨b, o, none⟩ := World.cell?_of_block (a := ⟨b, o, none⟩) (h.block b ⟨h1, h2, h3⟩ hl)
theorem KX.frozen {P : Nat} {r s : Option Nat} {W w : World} {b o : Nat} (h : KX P r s W w) (hl : b < W.heap.size) (h1 : ¬ b = P) (h2 : ¬ r = some b) (h3 : ¬ s = some b) : w.frozen? ⟨b, o, none⟩ = W.frozen? ⟨b, o, none⟩ := World.frozen?_of_block (a := ⟨b, o, none⟩) (h.block b ⟨h1, h2, h3⟩ hl)
theorem bcellK {P : Nat} {r s : Option Nat} {W w1 : World} (h : KX P r s W w1) : (∀ b o, b < W.heap.size → ¬ b = P → ¬ r = some b → ¬ s = some b → w1.cell? ⟨b, o, none⟩ = W.cell? ⟨b, o, none⟩) ∧ (∀ b o, b < W.heap.size → ¬ b = P → ¬ r = some b → ¬ s = some b → w1.frozen? ⟨b, o, none⟩ = W.frozen? ⟨b, o, none⟩) :=
  ⟨fun _ _ hl h1 h2 h3 => h.cell hl h1 h2 h3, fun _ _ hl h1 h2 h3 => h.frozen hl h1 h2 h3⟩
theorem Box.kx {P : Nat} {r s : Option Nat} {W w : World} {b : Nat} {cs : List Value} (h : Box W b cs) (hk : KX P r s W w) (h1 : ¬ b = P) (h2 : ¬ r = some b) (h3 : ¬ s = some b) : Box w b cs :=
  ⟨Nat.lt_of_lt_of_le h.lt hk.size, fun i hi => (hk.cell h.lt h1 h2 h3).trans (h.cell i hi)⟩

theorem ownsRow_kp {w w' : World} {B : Nat} {e : TypeId} {m : Nat} {v : Value} {n : Nat} {vs : List Value} {S : Nat → Prop} (h : w.ownsRow B e m v n vs) (hk : Keeps S w w') (h1 : ∀ x, v.ownBlock = some x → S x) : w'.ownsRow B e m v n vs := by
  refine ⟨h.1, ?_⟩
  rcases h.2 with q | ⟨g, cap, cur, rfl, hb, hg, hr⟩
  · exact .inl q
  · exact .inr ⟨g, cap, cur, rfl, hb, (hk.block g (h1 g rfl) (lt_of_heap hg)).trans hg, hr⟩
theorem Gr.kp {w w' : World} {B : Nat} {e : TypeId} {m : Nat} {v : Value} {n : Nat} {cs : List D} {F : List Nat} {S : Nat → Prop} (h : Gr w B e m v n cs F) (hk : Keeps S w w') (h1 : ∀ x, v.ownBlock = some x → S x) (h2 : ∀ x ∈ F, S x) : Gr w' B e m v n cs F := by
  obtain ⟨vs, h0, h3, h4, h5⟩ := h
  exact ⟨vs, ownsRow_kp h0 hk h1, h3.keep (hk.mono h2), h4, h5⟩

/-- what generalizing comes to: the pairs lie behind P -/
def GenOutI (r : Tm × List Pr) (v : Value) (P B : Nat) (S : Nat → Prop) (w : World) (e : Ending) (w' : World) : Prop :=
  ∃ v1 F v', e = .returned (.agg #[.string r.1.name, v1]) ∧ D.own w' v1 (Tm.sd r.1.args) F ∧ (∀ x ∈ F, w.heap.size ≤ x) ∧ (∀ x, v'.ownBlock = some x → x ∉ F ∧ x ≠ P) ∧ Rv S w' B 52 4 v' r.2.length (prCss r.2) ∧ w'.cell? ⟨P, 0, none⟩ = some v' ∧ w'.frozen? ⟨P, 0, none⟩ = false ∧ Below B w w' ∧ KX P v.ownBlock none w w' ∧ Goes w v v'
def GenI (t : Tm) : Prop := ∀ (u : Tm) (l : List Pr) (v : Value) (P B : Nat) (S : Nat → Prop) (c0 c1 d0 d1 : Value) (w : World), Rv S w B 52 4 v l.length (prCss l) → w.cell? ⟨P, 0, none⟩ = some v → w.frozen? ⟨P, 0, none⟩ = false → P < w.heap.size → B ≤ P → (∀ x, v.ownBlock = some x → x ≠ P) → (∀ x, S x → x < B) → Tm.at S w c0 c1 t → Tm.at S w d0 d1 u → t.nice = true → u.nice = true → l.length + t.size ≤ 999999 → t.bulk ≤ 1048576 → (∀ w', Below B w w' → TabF w') →
  Calls Tryd.prog 16 #[.pointer (some ⟨P, 0, none⟩), .agg #[c0, c1], .agg #[d0, d1]] w (GenOutI (Tm.gen t u l) v P B S w)

set_option maxHeartbeats 8000000 in
theorem genI_of (t : Tm) (ih : ∀ a ∈ t.args, GenI a) : GenI t := by
  intro u l v P B S c0 c1 d0 d1 w hv hp0 fp0 lP hBP hvp hS ht hu hnt hnu hsz hbk hT
  have hBle : B ≤ w.heap.size := by omega
  have hvl := hv.lt
  obtain ⟨va, vc, rfl, hvn, hvc⟩ := hv.form
  unfold big at hvn
  have HV := hid hv
  have HS := hid hS
  have HVL := hid hvl
  have HVP := hid hvp
  have HTF := hid hT
  have HBP := hid hBP
  have HP0 := hid hp0
  have HFP0 := hid fp0
  have HLP0 := hid lP
  have HNT := hid hnt
  have HNU := hid hnu
  clear hv hvl hS hvp hT hBP hnt hnu
  have hts := Tm.size_pos t
  have htl : t.args.length ≤ 9223372036854775807 := by obtain ⟨_, _, _, q, _⟩ := Tm.sd_form ht.2; exact q
  have hul : u.args.length ≤ 9223372036854775807 := by obtain ⟨_, _, _, q, _⟩ := Tm.sd_form hu.2; exact q
  obtain ⟨R, HR⟩ : ∃ R, Hid (Tm.gen t u l = R) := ⟨_, hid rfl⟩
  rw [HR.out]
  by_cases hvt : varName t.name = true
  · have HN := hid hvt
    have HGO : Hid (R = (genVar l t u, addP l t u)) := by rw [Hid, ← HR.out]; exact Tm.gen_out l (fun q => by rw [hvt] at q; cases q.1)
    clear hvt ih
    obtain ⟨rfl, tn, ta, tc, rfl⟩ := Tm.at_form ht
    obtain ⟨rfl, un, ua, uc, rfl⟩ := Tm.at_form hu
    have hW : Below w.heap.size w (((w.alloc (.cells #[.string t.name, .slice ta t.args.length tc] 28)).alloc (.cells #[.string u.name, .slice ua u.args.length uc] 28)).alloc (.cells #[.string ⟨#[]⟩, .slice none 0 0] 28)) := (((Below.refl _ _).alloc (Nat.le_refl _) _).alloc (by simp) _).alloc (by simp; omega) _
    have bt : Box (((w.alloc (.cells #[.string t.name, .slice ta t.args.length tc] 28)).alloc (.cells #[.string u.name, .slice ua u.args.length uc] 28)).alloc (.cells #[.string ⟨#[]⟩, .slice none 0 0] 28)) (w.heap.size) [.string t.name, .slice ta t.args.length tc] := by
      have := (((Box.new w [.string t.name, .slice ta t.args.length tc] 28).alloc (.cells #[.string u.name, .slice ua u.args.length uc] 28)).alloc (.cells #[.string ⟨#[]⟩, .slice none 0 0] 28))
      simpa only [World.size_alloc] using this
    have bu : Box (((w.alloc (.cells #[.string t.name, .slice ta t.args.length tc] 28)).alloc (.cells #[.string u.name, .slice ua u.args.length uc] 28)).alloc (.cells #[.string ⟨#[]⟩, .slice none 0 0] 28)) (w.heap.size + 1) [.string u.name, .slice ua u.args.length uc] := by
      have := ((Box.new (w.alloc (.cells #[.string t.name, .slice ta t.args.length tc] 28)) [.string u.name, .slice ua u.args.length uc] 28).alloc (.cells #[.string ⟨#[]⟩, .slice none 0 0] 28))
      simpa only [World.size_alloc] using this
    have rb : Box (((w.alloc (.cells #[.string t.name, .slice ta t.args.length tc] 28)).alloc (.cells #[.string u.name, .slice ua u.args.length uc] 28)).alloc (.cells #[.string ⟨#[]⟩, .slice none 0 0] 28)) (w.heap.size + 1 + 1) [.string ⟨#[]⟩, .slice none 0 0] := by
      have := (Box.new ((w.alloc (.cells #[.string t.name, .slice ta t.args.length tc] 28)).alloc (.cells #[.string u.name, .slice ua u.args.length uc] 28)) [.string ⟨#[]⟩, .slice none 0 0] 28)
      simpa only [World.size_alloc] using this
    have rf : ∀ p, (((w.alloc (.cells #[.string t.name, .slice ta t.args.length tc] 28)).alloc (.cells #[.string u.name, .slice ua u.args.length uc] 28)).alloc (.cells #[.string ⟨#[]⟩, .slice none 0 0] 28)).frozen? ⟨w.heap.size + 1 + 1, p, none⟩ = false := fun p => World.frozen?_alloc_at _ _ _ p (by simp)
    replace ht := Tm.at_keep (Keeps.all hW) ht
    replace hu := Tm.at_keep (Keeps.all hW) hu
    replace hp0 := (hW.cell (p := ⟨P, 0, none⟩) lP).trans hp0
    replace fp0 := (hW.frozen (p := ⟨P, 0, none⟩) lP).trans fp0
    replace lP := Nat.lt_of_lt_of_le lP hW.size
    have et0 := bt.c0
    have et1 := bt.c1
    have lt := bt.lt
    have eu0 := bu.c0
    have eu1 := bu.c1
    have lu := bu.lt
    have re0 := rb.c0
    have rf0 := rf 0
    have re1 := rb.c1
    have rf1 := rf 1
    have rl := rb.lt
    go_enter Tryd.func16, Tryd.ntmps16
    go_wp2_with fail
    clear et0 et1 lt eu0 eu1 lu re0 rf0 re1 rf1 rl
    have Hw0 : Hid ((((w.alloc (.cells #[.string t.name, .slice ta t.args.length tc] 28)).alloc (.cells #[.string u.name, .slice ua u.args.length uc] 28)).alloc (.cells #[.string ⟨#[]⟩, .slice none 0 0] 28)).heap.size = w.heap.size + 1 + 1 + 1) := by simp [Hid]
    generalize (((w.alloc (.cells #[.string t.name, .slice ta t.args.length tc] 28)).alloc (.cells #[.string u.name, .slice ua u.args.length uc] 28)).alloc (.cells #[.string ⟨#[]⟩, .slice none 0 0] 28)) = w0 at *
    have HZR : Hid (w.heap.size + 1 + 1 < w0.heap.size) := rb.lt
    refine (isVarT_any HNT.out ht).mono ?_
    rintro e w1 ⟨_, rfl, hb, rfl⟩
    replace hW := hW.trans (hb.mono hW.size)
    replace bt := bt.keep hb
    replace ht := Tm.at_keep (Keeps.all hb) ht
    replace bu := bu.keep hb
    replace hu := Tm.at_keep (Keeps.all hb) hu
    replace rf := fun p => (hb.frozen (p := ⟨_, p, none⟩) rb.lt).trans (rf p)
    replace rb := rb.keep hb
    replace hp0 := (hb.cell (p := ⟨P, 0, none⟩) lP).trans hp0
    replace fp0 := (hb.frozen (p := ⟨P, 0, none⟩) lP).trans fp0
    replace lP := Nat.lt_of_lt_of_le lP hb.size
    clear hb
    rw [HN.out]
    have et0 := bt.c0
    have et1 := bt.c1
    have lt := bt.lt
    have eu0 := bu.c0
    have eu1 := bu.c1
    have lu := bu.lt
    have re0 := rb.c0
    have rf0 := rf 0
    have re1 := rb.c1
    have rf1 := rf 1
    have rl := rb.lt
    go_wp2_with fail
    clear et0 et1 lt eu0 eu1 lu re0 rf0 re1 rf1 rl
    rename World => wx
    have HBle := hid hBle
    refine (indexPair_any (l := l) (t := t) (u := u) (pr_rd (HV.out.keep hW)) bt bu ht hu).mono ?_
    rintro e wi ⟨_, rfl, hb, rfl⟩
    replace hW := hW.trans (hb.mono hW.size)
    replace bt := bt.keep hb
    replace ht := Tm.at_keep (Keeps.all hb) ht
    replace bu := bu.keep hb
    replace hu := Tm.at_keep (Keeps.all hb) hu
    replace rf := fun p => (hb.frozen (p := ⟨_, p, none⟩) rb.lt).trans (rf p)
    replace rb := rb.keep hb
    replace hp0 := (hb.cell (p := ⟨P, 0, none⟩) lP).trans hp0
    replace fp0 := (hb.frozen (p := ⟨P, 0, none⟩) lP).trans fp0
    replace lP := Nat.lt_of_lt_of_le lP hb.size
    clear hb
    by_cases hin : idxP l t u < l.length
    · have HI : Hid (idxI l t u = (idxP l t u : Int)) := idxI_at hin rfl
      have HRR : Hid (R = (.node (⟨#[71]⟩ ++ itoaB (idxP l t u : Int)) [], l)) := by rw [Hid, HGO.out, genVar, addP, if_pos hin]; rfl
      rw [HI.out]
      obtain ⟨k, Hk⟩ : ∃ k, Hid (idxP l t u = k) := ⟨_, hid rfl⟩
      rw [Hk.out] at hin HRR ⊢
      have hzi := itoaB_size (n := (k : Int)) (by omega) (by omega)
      have g4 : ¬ 9223372036854775807 < 1 + (itoaB (k : Int)).size := by omega
      have hkn : ¬ (k : Int) < 0 := by omega
      have et0 := bt.c0
      have et1 := bt.c1
      have lt := bt.lt
      have eu0 := bu.c0
      have eu1 := bu.c1
      have lu := bu.lt
      have re0 := rb.c0
      have rf0 := rf 0
      have re1 := rb.c1
      have rf1 := rf 1
      have rl := rb.lt
      go_wp2_with fail
      clear et0 et1 lt eu0 eu1 lu re0 rf0 re1 rf1 rl
      refine (itoa_any (n := (k : Int)) (by omega) (by omega) (HTF.out _ (hW.mono HBle.out))).mono ?_
      rintro e w5 ⟨_, rfl, hb, rfl⟩
      replace hW := hW.trans (hb.mono hW.size)
      replace bt := bt.keep hb
      replace ht := Tm.at_keep (Keeps.all hb) ht
      replace bu := bu.keep hb
      replace hu := Tm.at_keep (Keeps.all hb) hu
      replace rf := fun p => (hb.frozen (p := ⟨_, p, none⟩) rb.lt).trans (rf p)
      replace rb := rb.keep hb
      replace hp0 := (hb.cell (p := ⟨P, 0, none⟩) lP).trans hp0
      replace fp0 := (hb.frozen (p := ⟨P, 0, none⟩) lP).trans fp0
      replace lP := Nat.lt_of_lt_of_le lP hb.size
      clear hb
      have et0 := bt.c0
      have et1 := bt.c1
      have lt := bt.lt
      have eu0 := bu.c0
      have eu1 := bu.c1
      have lu := bu.lt
      have re0 := rb.c0
      have rf0 := rf 0
      have re1 := rb.c1
      have rf1 := rf 1
      have rl := rb.lt
      go_wp2_with fail
      refine bodyPost_ret (v := .agg #[.string (⟨#[71]⟩ ++ itoaB (k : Int)), .slice none 0 0]) (by simp [results, Tryd.results16, go_sem, rb.c0, rb.c1]; try rfl) rfl ?_
      have HWF := hid ((hW.setCell (p := ⟨w.heap.size + 1 + 1, 0, none⟩) (by show w.heap.size ≤ w.heap.size + 1 + 1; omega) (.string (⟨#[71]⟩ ++ itoaB (k : Int)))).setCell (p := ⟨w.heap.size + 1 + 1, 1, none⟩) (by show w.heap.size ≤ w.heap.size + 1 + 1; omega) (.slice none 0 0))
      rw [HRR.out]
      exact ⟨.slice none 0 0, [], _, rfl, D.own_nil _ _, by simp, fun y hy => ⟨by simp, HVP.out y hy⟩, HV.out.keep HWF.out, (HWF.out.cell (p := ⟨P, 0, none⟩) HLP0.out).trans HP0.out, (HWF.out.frozen (p := ⟨P, 0, none⟩) HLP0.out).trans HFP0.out, HWF.out.mono HBle.out, KX.of_below HWF.out, Goes.refl _ _⟩
    · have HI : Hid (idxI l t u = -1) := idxI_no (by have := idxP_le l t u; omega)
      have HRR : Hid (R = (.node (⟨#[71]⟩ ++ itoaB (l.length : Int)) [], l ++ [(t, u)])) := by
        have hil : idxP l t u = l.length := by have := idxP_le l t u; omega
        rw [Hid, HGO.out, genVar, addP, hil, if_neg (by omega)]; rfl
      rw [HI.out]
      clear hin
      have hzi := itoaB_size (n := (l.length : Int)) (by omega) (by omega)
      have g4 : ¬ 9223372036854775807 < 1 + (itoaB (l.length : Int)).size := by omega
      obtain ⟨r, Hr⟩ : ∃ r, Hid ((Value.slice va l.length vc).ownBlock = r) := ⟨_, hid rfl⟩
      have HL : Hid (∀ y, r = some y → B ≤ y ∧ y < w.heap.size ∧ y ≠ P) := fun y hy => ⟨(HVL.out y (Hr.out.trans hy)).1, (HVL.out y (Hr.out.trans hy)).2, HVP.out y (Hr.out.trans hy)⟩
      have nP : ¬ r = some P := fun e => (HL.out _ e).2.2 rfl
      have nR : ¬ r = some (w.heap.size + 1 + 1) := fun e => by have := (HL.out _ e).2.1; omega
      have nT : ¬ r = some w.heap.size := fun e => by have := (HL.out _ e).2.1; omega
      have nU : ¬ r = some (w.heap.size + 1) := fun e => by have := (HL.out _ e).2.1; omega
      have HRV := hid (HV.out.keep hW)
      have HNS : Hid (∀ y, (Value.slice va l.length vc).ownBlock = some y → ¬ S y) := fun y hy q => by have h1 := (HVL.out y hy).1; have h2 := HS.out y q; omega
      have HCR : Hid (CellsRd S wi [.string t.name, .slice ta t.args.length tc, .string u.name, .slice ua u.args.length uc] (prCs (t, u))) := ⟨ht.1, ht.2, hu.1, hu.2, trivial⟩
      have hwz := hW.size
      have HWI := hid hW
      have et0 := bt.c0
      have et1 := bt.c1
      have lt := bt.lt
      have eu0 := bu.c0
      have eu1 := bu.c1
      have lu := bu.lt
      have re0 := rb.c0
      have rf0 := rf 0
      have re1 := rb.c1
      have rf1 := rf 1
      have rl := rb.lt
      go_wp2_with fail
      refine region_late (l := [_, _, _, _, _, _, _, _, _, _]) (tl := [_]) (S := fun w1 => (wi).grownBy w1 (r)) (n := 10) rfl rfl (by kernel_rfl) (by kernel_rfl) (grown_of_below ((Below.refl _ _).drew) _) (fun hQL hS => ?_)
      refine late_take (i := 0) (d := some 72) (v := .pointer (some ⟨P, 0, none⟩)) rfl rfl (by kernel_rfl) (by kernel_rfl) (by kernel_rfl) hQL (by rfl) (fun w1 _ => (by go_simp)) hS ?_
      try simp only [Act.put, List.setIfInBounds_toArray, List.set_cons_zero, List.set_cons_succ]
      refine late_take (i := 1) (d := some 73) (v := .pointer (some ⟨P, 0, none⟩)) rfl rfl (by kernel_rfl) (by kernel_rfl) (by kernel_rfl) hQL (by rfl) (fun w1 _ => (by go_simp)) hS ?_
      try simp only [Act.put, List.setIfInBounds_toArray, List.set_cons_zero, List.set_cons_succ]
      refine late_take (i := 2) (d := some 74) (v := .pointer (some ⟨P, 0, none⟩)) rfl rfl (by kernel_rfl) (by kernel_rfl) (by kernel_rfl) hQL (by rfl) (fun w1 _ => (by go_simp)) hS ?_
      try simp only [Act.put, List.setIfInBounds_toArray, List.set_cons_zero, List.set_cons_succ]
      refine late_take (i := 3) (d := some 75) (v := .slice va l.length vc) rfl rfl (by kernel_rfl) (by kernel_rfl) (by kernel_rfl) hQL (by rfl) (fun w1 hS1 => (by obtain ⟨hc, hf⟩ := bcellG hS1; go_simp)) hS ?_
      try simp only [Act.put, List.setIfInBounds_toArray, List.set_cons_zero, List.set_cons_succ]
      refine late_take (i := 4) (d := some 76) (v := .agg #[.string t.name, .slice ta t.args.length tc]) rfl rfl (by kernel_rfl) (by kernel_rfl) (by kernel_rfl) hQL (by rfl) (fun w1 hS1 => (by obtain ⟨hc, hf⟩ := bcellG hS1; go_simp)) hS ?_
      try simp only [Act.put, List.setIfInBounds_toArray, List.set_cons_zero, List.set_cons_succ]
      refine late_take (i := 5) (d := some 77) (v := .agg #[.string u.name, .slice ua u.args.length uc]) rfl rfl (by kernel_rfl) (by kernel_rfl) (by kernel_rfl) hQL (by rfl) (fun w1 hS1 => (by obtain ⟨hc, hf⟩ := bcellG hS1; go_simp)) hS ?_
      try simp only [Act.put, List.setIfInBounds_toArray, List.set_cons_zero, List.set_cons_succ]
      refine late_take (i := 6) (d := some 78) (v := .agg #[.string t.name, .slice ta t.args.length tc, .string u.name, .slice ua u.args.length uc]) rfl rfl (by kernel_rfl) (by kernel_rfl) (by kernel_rfl) hQL (by rfl) (fun w1 _ => (by go_simp)) hS ?_
      try simp only [Act.put, List.setIfInBounds_toArray, List.set_cons_zero, List.set_cons_succ]
      refine wpAnyH_ready (rs := [7]) (by kernel_rfl) (by simp) ?_
      refine AllReadyH.cons rfl (fun K hK => ?_) AllReadyH.nil
      go_simp
      refine hK.out _ _ (World.grownBy.trans hS (World.grownBy_alloc _ _ _)) (fun hS => ?_)
      try show wpAnyH _ _ _ _ _ _ _ (Act.put _ (some 79) _) _
      try simp only [Act.put, List.setIfInBounds_toArray, List.set_cons_zero, List.set_cons_succ]
      refine wpAnyH_ready (rs := [8]) (by kernel_rfl) (by simp) ?_
      refine AllReadyH.cons rfl (fun K hK => ?_) AllReadyH.nil
      have HBN : Hid (Below wi.heap.size wi (wi.drew.alloc (.cells #[.string t.name, .slice ta t.args.length tc, .string u.name, .slice ua u.args.length uc] 52))) := ((Below.refl wi.heap.size wi).drew).alloc (Nat.le_refl _) _
      refine step_append_rv (S := S) (B := B) (k := 1) (off := 0) (news := [.string t.name, .slice ta t.args.length tc, .string u.name, .slice ua u.args.length uc]) (es := prCs (t, u)) Tryd.underlying43 infoPair rfl (by decide) (by decide) rfl _ _ (by rfl) (by rfl) (by rfl) (HRV.out.keep HBN.out) HNS.out rfl (by intro j u hj; rw [Nat.zero_add]; exact (box1 wi.drew _ _ j).trans (by simpa using hj)) (HCR.out.keep (Keeps.all HBN.out)) (by omega) (Nat.le_trans (Nat.le_trans HBle.out HWI.out.size) HBN.out.size) ?_
      intro v2 wg hrow hgr hgo
      obtain ⟨v2a, v2c, rfl, -, -⟩ := hrow.form
      rw [Hr.out] at hgr
      have HRF := hid hrow
      have HGO2 : Hid (Goes wi (.slice va l.length vc) (.slice v2a (l.length + 1) v2c)) := fun y hy => by
        rcases hgo with q | q
        · exact .inl (q.symm.trans hy)
        · right; rw [q] at hy; injection hy with hy; rw [← hy]; exact HBN.out.size
      clear hrow hgo
      refine hK.out _ _ (World.grownBy.trans hS hgr) (fun hS => ?_)
      try show wpAnyH _ _ _ _ _ _ _ (Act.put _ (some 80) _) _
      try simp only [Act.put, List.setIfInBounds_toArray, List.set_cons_zero, List.set_cons_succ]
      refine late_take (i := 9) (d := some 81) (v := .pointer (some ⟨P, 0, none⟩)) rfl rfl (by kernel_rfl) (by kernel_rfl) (by kernel_rfl) hQL (by rfl) (fun w1 _ => (by go_simp)) hS ?_
      try simp only [Act.put, List.setIfInBounds_toArray, List.set_cons_zero, List.set_cons_succ]
      refine wpAnyH_done (by kernel_rfl) ?_ _
      show wpTail _ _ _ _ _
      refine wpTail_step rfl (fun K hK => ?_)
      obtain ⟨hc, hf⟩ := bcellG hS
      go_simp
      refine hK.out _ _ ?_
      try clear hc hf
      refine wpTail_nil ?_
      clear et0 et1 lt eu0 eu1 lu re0 rf0 re1 rf1 rl
      have pg0 := ((bcellG hS).1 P 0 lP nP).trans hp0
      have pf0 := ((bcellG hS).2 P 0 lP nP).trans fp0
      have HGW : Hid (wi.grownBy wg r) := hid hS
      have HZG := hid hS.size
      have HV2 : Hid (∀ y, (Value.slice v2a (l.length + 1) v2c).ownBlock = some y → y ≠ P ∧ B ≤ y ∧ (y < w.heap.size ∨ wi.heap.size ≤ y)) := fun y hy => by
        rcases HGO2.out y hy with q | q
        · exact ⟨HVP.out y q, (HVL.out y q).1, .inl (HVL.out y q).2⟩
        · exact ⟨by omega, by have := HBle.out; omega, .inr q⟩
      have HGS : Hid (wg.grownBy (wg.setCell ⟨P, 0, none⟩ (.slice v2a (l.length + 1) v2c)) (some P)) := grown_setCell wg ⟨P, 0, none⟩ (.slice v2a (l.length + 1) v2c)
      have HKI : Hid (KX P r none wi (wg.setCell ⟨P, 0, none⟩ (.slice v2a (l.length + 1) v2c))) := ((KX.refl P r none wi).grown HGW.out (fun y hy => .inl hy)).grown HGS.out (fun y hy => by injection hy with hy; exact .inr (.inr (.inl hy.symm)))
      have HKS : Hid (KX P r none w (wg.setCell ⟨P, 0, none⟩ (.slice v2a (l.length + 1) v2c))) := ((KX.of_below HWI.out).grown HGW.out (fun y hy => .inl hy)).grown HGS.out (fun y hy => by injection hy with hy; exact .inr (.inr (.inl hy.symm)))
      have HBS : Hid (Below B w (wg.setCell ⟨P, 0, none⟩ (.slice v2a (l.length + 1) v2c))) := ((HWI.out.mono HBle.out).grown HGW.out (by have := HBle.out; omega) (fun y hy => (HL.out y hy).1)).setCell (p := ⟨P, 0, none⟩) HBP.out _
      have hPw := HLP0.out
      have HZI := hid rb.lt
      have rbS := rb.kx HKI.out (by omega) nR (by simp)
      have rfS := fun p => (HKI.out.frozen (b := w.heap.size + 1 + 1) (o := p) rb.lt (by omega) nR (by simp)).trans (rf p)
      have cP : (wg.setCell ⟨P, 0, none⟩ (.slice v2a (l.length + 1) v2c)).cell? ⟨P, 0, none⟩ = some (.slice v2a (l.length + 1) v2c) := World.cell?_setCell_same _ _ _ pg0
      have fP : (wg.setCell ⟨P, 0, none⟩ (.slice v2a (l.length + 1) v2c)).frozen? ⟨P, 0, none⟩ = false := by rw [World.frozen?_setCell]; exact pf0
      have lPS : P < (wg.setCell ⟨P, 0, none⟩ (.slice v2a (l.length + 1) v2c)).heap.size := by rw [World.size_setCell]; have := HZG.out; omega
      have HRS := hid (HRF.out.apart HGS.out (fun y hy e => by injection e with e; exact (HV2.out y hy).1 e.symm) (fun y hy e => by injection e with e; have h1 := HS.out y hy; have h2 := HBP.out; omega))
      have HCP := hid cP
      have HFP := hid fP
      clear hS hW bt bu rb rf ht hu hp0 fp0 pg0 pf0 HGW HGS HKI HRF HRV HCR cP fP lP hwz
      generalize (wg.setCell ⟨P, 0, none⟩ (.slice v2a (l.length + 1) v2c)) = wS at *
      go_wp2_with fail
      refine (itoa_any (n := (l.length : Int)) (by omega) (by omega) (HTF.out _ HBS.out)).mono ?_
      rintro e w6 ⟨_, rfl, hb, rfl⟩
      have rb6 := rbS.keep hb
      have s0 := rb6.c0
      have s1 := rb6.c1
      have sl := rb6.lt
      have t0' := (hb.frozen (p := ⟨w.heap.size + 1 + 1, 0, none⟩) rbS.lt).trans (rfS 0)
      have t1' := (hb.frozen (p := ⟨w.heap.size + 1 + 1, 1, none⟩) rbS.lt).trans (rfS 1)
      have HB6 := hid hb
      have c6 := (hb.cell (p := ⟨P, 0, none⟩) lPS).trans HCP.out
      have f6 := (hb.frozen (p := ⟨P, 0, none⟩) lPS).trans HFP.out
      have HC6 := hid c6
      have HF6 := hid f6
      clear hb c6 f6
      go_wp2_with fail
      refine bodyPost_ret (v := .agg #[.string (⟨#[71]⟩ ++ itoaB (l.length : Int)), .slice none 0 0]) (by simp [results, Tryd.results16, go_sem, s0, s1]; try rfl) rfl ?_
      have HG7 : Hid (w6.grownBy ((w6.setCell ⟨w.heap.size + 1 + 1, 0, none⟩ (.string (⟨#[71]⟩ ++ itoaB (l.length : Int)))).setCell ⟨w.heap.size + 1 + 1, 1, none⟩ (.slice none 0 0)) (some (w.heap.size + 1 + 1))) := World.grownBy.trans (grown_setCell w6 ⟨w.heap.size + 1 + 1, 0, none⟩ _) (grown_setCell _ ⟨w.heap.size + 1 + 1, 1, none⟩ _)
      have hPR : ¬ P = w.heap.size + 1 + 1 := by have := HLP0.out; omega
      rw [HRR.out]
      refine ⟨.slice none 0 0, [], .slice v2a (l.length + 1) v2c, rfl, D.own_nil _ _, by simp, fun y hy => ⟨by simp, (HV2.out y hy).1⟩, ?_, ?_, ?_, ?_, ?_, Goes.trans (Goes.refl w _) HWI.out.size HGO2.out⟩
      · have HF2 := (HRS.out.keep HB6.out).apart HG7.out (fun y hy e => by
          injection e with e
          have h1 := (HV2.out y hy).2.2
          have h2 := HWI.out.size
          have h3 := HZI.out
          omega) (fun y hy e => by injection e with e; have h1 := HS.out y hy; have h2 := HBle.out; omega)
        rw [List.length_append, prCss_snoc]
        exact HF2
      · rw [World.cell?_setCell_other _ _ _ _ (by intro e; injection e with e; omega), World.cell?_setCell_other _ _ _ _ (by intro e; injection e with e; omega)]
        exact HC6.out
      · rw [World.frozen?_setCell, World.frozen?_setCell]; exact HF6.out
      · exact ((HBS.out.trans (HB6.out.mono (by have := HBS.out.size; have := HBle.out; omega))).setCell (p := ⟨w.heap.size + 1 + 1, 0, none⟩) (by show B ≤ w.heap.size + 1 + 1; have := HBle.out; omega) _).setCell (p := ⟨w.heap.size + 1 + 1, 1, none⟩) (by show B ≤ w.heap.size + 1 + 1; have := HBle.out; omega) _
      · rw [Hr.out]
        exact (KX.trans HKS.out (KX.of_below HB6.out)).grown HG7.out (fun y hy => by injection hy with hy; exact .inr (.inr (.inr (by omega))))
  · have HN := hid (Bool.eq_false_iff.2 hvt)
    by_cases hvu : varName u.name = true
    · have HN2 := hid hvu
      have HGO : Hid (R = (genVar l t u, addP l t u)) := by rw [Hid, ← HR.out]; exact Tm.gen_out l (fun q => by rw [q.2.1] at hvt; exact hvt hvu)
      clear hvt hvu ih
      obtain ⟨rfl, tn, ta, tc, rfl⟩ := Tm.at_form ht
      obtain ⟨rfl, un, ua, uc, rfl⟩ := Tm.at_form hu
      have hW : Below w.heap.size w (((w.alloc (.cells #[.string t.name, .slice ta t.args.length tc] 28)).alloc (.cells #[.string u.name, .slice ua u.args.length uc] 28)).alloc (.cells #[.string ⟨#[]⟩, .slice none 0 0] 28)) := (((Below.refl _ _).alloc (Nat.le_refl _) _).alloc (by simp) _).alloc (by simp; omega) _
      have bt : Box (((w.alloc (.cells #[.string t.name, .slice ta t.args.length tc] 28)).alloc (.cells #[.string u.name, .slice ua u.args.length uc] 28)).alloc (.cells #[.string ⟨#[]⟩, .slice none 0 0] 28)) (w.heap.size) [.string t.name, .slice ta t.args.length tc] := by
        have := (((Box.new w [.string t.name, .slice ta t.args.length tc] 28).alloc (.cells #[.string u.name, .slice ua u.args.length uc] 28)).alloc (.cells #[.string ⟨#[]⟩, .slice none 0 0] 28))
        simpa only [World.size_alloc] using this
      have bu : Box (((w.alloc (.cells #[.string t.name, .slice ta t.args.length tc] 28)).alloc (.cells #[.string u.name, .slice ua u.args.length uc] 28)).alloc (.cells #[.string ⟨#[]⟩, .slice none 0 0] 28)) (w.heap.size + 1) [.string u.name, .slice ua u.args.length uc] := by
        have := ((Box.new (w.alloc (.cells #[.string t.name, .slice ta t.args.length tc] 28)) [.string u.name, .slice ua u.args.length uc] 28).alloc (.cells #[.string ⟨#[]⟩, .slice none 0 0] 28))
        simpa only [World.size_alloc] using this
      have rb : Box (((w.alloc (.cells #[.string t.name, .slice ta t.args.length tc] 28)).alloc (.cells #[.string u.name, .slice ua u.args.length uc] 28)).alloc (.cells #[.string ⟨#[]⟩, .slice none 0 0] 28)) (w.heap.size + 1 + 1) [.string ⟨#[]⟩, .slice none 0 0] := by
        have := (Box.new ((w.alloc (.cells #[.string t.name, .slice ta t.args.length tc] 28)).alloc (.cells #[.string u.name, .slice ua u.args.length uc] 28)) [.string ⟨#[]⟩, .slice none 0 0] 28)
        simpa only [World.size_alloc] using this
      have rf : ∀ p, (((w.alloc (.cells #[.string t.name, .slice ta t.args.length tc] 28)).alloc (.cells #[.string u.name, .slice ua u.args.length uc] 28)).alloc (.cells #[.string ⟨#[]⟩, .slice none 0 0] 28)).frozen? ⟨w.heap.size + 1 + 1, p, none⟩ = false := fun p => World.frozen?_alloc_at _ _ _ p (by simp)
      replace ht := Tm.at_keep (Keeps.all hW) ht
      replace hu := Tm.at_keep (Keeps.all hW) hu
      replace hp0 := (hW.cell (p := ⟨P, 0, none⟩) lP).trans hp0
      replace fp0 := (hW.frozen (p := ⟨P, 0, none⟩) lP).trans fp0
      replace lP := Nat.lt_of_lt_of_le lP hW.size
      have et0 := bt.c0
      have et1 := bt.c1
      have lt := bt.lt
      have eu0 := bu.c0
      have eu1 := bu.c1
      have lu := bu.lt
      have re0 := rb.c0
      have rf0 := rf 0
      have re1 := rb.c1
      have rf1 := rf 1
      have rl := rb.lt
      go_enter Tryd.func16, Tryd.ntmps16
      go_wp2_with fail
      clear et0 et1 lt eu0 eu1 lu re0 rf0 re1 rf1 rl
      have Hw0 : Hid ((((w.alloc (.cells #[.string t.name, .slice ta t.args.length tc] 28)).alloc (.cells #[.string u.name, .slice ua u.args.length uc] 28)).alloc (.cells #[.string ⟨#[]⟩, .slice none 0 0] 28)).heap.size = w.heap.size + 1 + 1 + 1) := by simp [Hid]
      generalize (((w.alloc (.cells #[.string t.name, .slice ta t.args.length tc] 28)).alloc (.cells #[.string u.name, .slice ua u.args.length uc] 28)).alloc (.cells #[.string ⟨#[]⟩, .slice none 0 0] 28)) = w0 at *
      have HZR : Hid (w.heap.size + 1 + 1 < w0.heap.size) := rb.lt
      refine (isVarT_any HNT.out ht).mono ?_
      rintro e w1 ⟨_, rfl, hb, rfl⟩
      replace hW := hW.trans (hb.mono hW.size)
      replace bt := bt.keep hb
      replace ht := Tm.at_keep (Keeps.all hb) ht
      replace bu := bu.keep hb
      replace hu := Tm.at_keep (Keeps.all hb) hu
      replace rf := fun p => (hb.frozen (p := ⟨_, p, none⟩) rb.lt).trans (rf p)
      replace rb := rb.keep hb
      replace hp0 := (hb.cell (p := ⟨P, 0, none⟩) lP).trans hp0
      replace fp0 := (hb.frozen (p := ⟨P, 0, none⟩) lP).trans fp0
      replace lP := Nat.lt_of_lt_of_le lP hb.size
      clear hb
      rw [HN.out]
      have et0 := bt.c0
      have et1 := bt.c1
      have lt := bt.lt
      have eu0 := bu.c0
      have eu1 := bu.c1
      have lu := bu.lt
      have re0 := rb.c0
      have rf0 := rf 0
      have re1 := rb.c1
      have rf1 := rf 1
      have rl := rb.lt
      go_wp2_with fail
      clear et0 et1 lt eu0 eu1 lu re0 rf0 re1 rf1 rl
      refine (isVarT_any HNU.out hu).mono ?_
      rintro e w1 ⟨_, rfl, hb, rfl⟩
      replace hW := hW.trans (hb.mono hW.size)
      replace bt := bt.keep hb
      replace ht := Tm.at_keep (Keeps.all hb) ht
      replace bu := bu.keep hb
      replace hu := Tm.at_keep (Keeps.all hb) hu
      replace rf := fun p => (hb.frozen (p := ⟨_, p, none⟩) rb.lt).trans (rf p)
      replace rb := rb.keep hb
      replace hp0 := (hb.cell (p := ⟨P, 0, none⟩) lP).trans hp0
      replace fp0 := (hb.frozen (p := ⟨P, 0, none⟩) lP).trans fp0
      replace lP := Nat.lt_of_lt_of_le lP hb.size
      clear hb
      rw [HN2.out]
      have et0 := bt.c0
      have et1 := bt.c1
      have lt := bt.lt
      have eu0 := bu.c0
      have eu1 := bu.c1
      have lu := bu.lt
      have re0 := rb.c0
      have rf0 := rf 0
      have re1 := rb.c1
      have rf1 := rf 1
      have rl := rb.lt
      go_wp2_with fail
      clear et0 et1 lt eu0 eu1 lu re0 rf0 re1 rf1 rl
      rename World => wx
      have HBle := hid hBle
      refine (indexPair_any (l := l) (t := t) (u := u) (pr_rd (HV.out.keep hW)) bt bu ht hu).mono ?_
      rintro e wi ⟨_, rfl, hb, rfl⟩
      replace hW := hW.trans (hb.mono hW.size)
      replace bt := bt.keep hb
      replace ht := Tm.at_keep (Keeps.all hb) ht
      replace bu := bu.keep hb
      replace hu := Tm.at_keep (Keeps.all hb) hu
      replace rf := fun p => (hb.frozen (p := ⟨_, p, none⟩) rb.lt).trans (rf p)
      replace rb := rb.keep hb
      replace hp0 := (hb.cell (p := ⟨P, 0, none⟩) lP).trans hp0
      replace fp0 := (hb.frozen (p := ⟨P, 0, none⟩) lP).trans fp0
      replace lP := Nat.lt_of_lt_of_le lP hb.size
      clear hb
      by_cases hin : idxP l t u < l.length
      · have HI : Hid (idxI l t u = (idxP l t u : Int)) := idxI_at hin rfl
        have HRR : Hid (R = (.node (⟨#[71]⟩ ++ itoaB (idxP l t u : Int)) [], l)) := by rw [Hid, HGO.out, genVar, addP, if_pos hin]; rfl
        rw [HI.out]
        obtain ⟨k, Hk⟩ : ∃ k, Hid (idxP l t u = k) := ⟨_, hid rfl⟩
        rw [Hk.out] at hin HRR ⊢
        have hzi := itoaB_size (n := (k : Int)) (by omega) (by omega)
        have g4 : ¬ 9223372036854775807 < 1 + (itoaB (k : Int)).size := by omega
        have hkn : ¬ (k : Int) < 0 := by omega
        have et0 := bt.c0
        have et1 := bt.c1
        have lt := bt.lt
        have eu0 := bu.c0
        have eu1 := bu.c1
        have lu := bu.lt
        have re0 := rb.c0
        have rf0 := rf 0
        have re1 := rb.c1
        have rf1 := rf 1
        have rl := rb.lt
        go_wp2_with fail
        clear et0 et1 lt eu0 eu1 lu re0 rf0 re1 rf1 rl
        refine (itoa_any (n := (k : Int)) (by omega) (by omega) (HTF.out _ (hW.mono HBle.out))).mono ?_
        rintro e w5 ⟨_, rfl, hb, rfl⟩
        replace hW := hW.trans (hb.mono hW.size)
        replace bt := bt.keep hb
        replace ht := Tm.at_keep (Keeps.all hb) ht
        replace bu := bu.keep hb
        replace hu := Tm.at_keep (Keeps.all hb) hu
        replace rf := fun p => (hb.frozen (p := ⟨_, p, none⟩) rb.lt).trans (rf p)
        replace rb := rb.keep hb
        replace hp0 := (hb.cell (p := ⟨P, 0, none⟩) lP).trans hp0
        replace fp0 := (hb.frozen (p := ⟨P, 0, none⟩) lP).trans fp0
        replace lP := Nat.lt_of_lt_of_le lP hb.size
        clear hb
        have et0 := bt.c0
        have et1 := bt.c1
        have lt := bt.lt
        have eu0 := bu.c0
        have eu1 := bu.c1
        have lu := bu.lt
        have re0 := rb.c0
        have rf0 := rf 0
        have re1 := rb.c1
        have rf1 := rf 1
        have rl := rb.lt
        go_wp2_with fail
        refine bodyPost_ret (v := .agg #[.string (⟨#[71]⟩ ++ itoaB (k : Int)), .slice none 0 0]) (by simp [results, Tryd.results16, go_sem, rb.c0, rb.c1]; try rfl) rfl ?_
        have HWF := hid ((hW.setCell (p := ⟨w.heap.size + 1 + 1, 0, none⟩) (by show w.heap.size ≤ w.heap.size + 1 + 1; omega) (.string (⟨#[71]⟩ ++ itoaB (k : Int)))).setCell (p := ⟨w.heap.size + 1 + 1, 1, none⟩) (by show w.heap.size ≤ w.heap.size + 1 + 1; omega) (.slice none 0 0))
        rw [HRR.out]
        exact ⟨.slice none 0 0, [], _, rfl, D.own_nil _ _, by simp, fun y hy => ⟨by simp, HVP.out y hy⟩, HV.out.keep HWF.out, (HWF.out.cell (p := ⟨P, 0, none⟩) HLP0.out).trans HP0.out, (HWF.out.frozen (p := ⟨P, 0, none⟩) HLP0.out).trans HFP0.out, HWF.out.mono HBle.out, KX.of_below HWF.out, Goes.refl _ _⟩
      · have HI : Hid (idxI l t u = -1) := idxI_no (by have := idxP_le l t u; omega)
        have HRR : Hid (R = (.node (⟨#[71]⟩ ++ itoaB (l.length : Int)) [], l ++ [(t, u)])) := by
          have hil : idxP l t u = l.length := by have := idxP_le l t u; omega
          rw [Hid, HGO.out, genVar, addP, hil, if_neg (by omega)]; rfl
        rw [HI.out]
        clear hin
        have hzi := itoaB_size (n := (l.length : Int)) (by omega) (by omega)
        have g4 : ¬ 9223372036854775807 < 1 + (itoaB (l.length : Int)).size := by omega
        obtain ⟨r, Hr⟩ : ∃ r, Hid ((Value.slice va l.length vc).ownBlock = r) := ⟨_, hid rfl⟩
        have HL : Hid (∀ y, r = some y → B ≤ y ∧ y < w.heap.size ∧ y ≠ P) := fun y hy => ⟨(HVL.out y (Hr.out.trans hy)).1, (HVL.out y (Hr.out.trans hy)).2, HVP.out y (Hr.out.trans hy)⟩
        have nP : ¬ r = some P := fun e => (HL.out _ e).2.2 rfl
        have nR : ¬ r = some (w.heap.size + 1 + 1) := fun e => by have := (HL.out _ e).2.1; omega
        have nT : ¬ r = some w.heap.size := fun e => by have := (HL.out _ e).2.1; omega
        have nU : ¬ r = some (w.heap.size + 1) := fun e => by have := (HL.out _ e).2.1; omega
        have HRV := hid (HV.out.keep hW)
        have HNS : Hid (∀ y, (Value.slice va l.length vc).ownBlock = some y → ¬ S y) := fun y hy q => by have h1 := (HVL.out y hy).1; have h2 := HS.out y q; omega
        have HCR : Hid (CellsRd S wi [.string t.name, .slice ta t.args.length tc, .string u.name, .slice ua u.args.length uc] (prCs (t, u))) := ⟨ht.1, ht.2, hu.1, hu.2, trivial⟩
        have hwz := hW.size
        have HWI := hid hW
        have et0 := bt.c0
        have et1 := bt.c1
        have lt := bt.lt
        have eu0 := bu.c0
        have eu1 := bu.c1
        have lu := bu.lt
        have re0 := rb.c0
        have rf0 := rf 0
        have re1 := rb.c1
        have rf1 := rf 1
        have rl := rb.lt
        go_wp2_with fail
        refine region_late (l := [_, _, _, _, _, _, _, _, _, _]) (tl := [_]) (S := fun w1 => (wi).grownBy w1 (r)) (n := 10) rfl rfl (by kernel_rfl) (by kernel_rfl) (grown_of_below ((Below.refl _ _).drew) _) (fun hQL hS => ?_)
        refine late_take (i := 0) (d := some 72) (v := .pointer (some ⟨P, 0, none⟩)) rfl rfl (by kernel_rfl) (by kernel_rfl) (by kernel_rfl) hQL (by rfl) (fun w1 _ => (by go_simp)) hS ?_
        try simp only [Act.put, List.setIfInBounds_toArray, List.set_cons_zero, List.set_cons_succ]
        refine late_take (i := 1) (d := some 73) (v := .pointer (some ⟨P, 0, none⟩)) rfl rfl (by kernel_rfl) (by kernel_rfl) (by kernel_rfl) hQL (by rfl) (fun w1 _ => (by go_simp)) hS ?_
        try simp only [Act.put, List.setIfInBounds_toArray, List.set_cons_zero, List.set_cons_succ]
        refine late_take (i := 2) (d := some 74) (v := .pointer (some ⟨P, 0, none⟩)) rfl rfl (by kernel_rfl) (by kernel_rfl) (by kernel_rfl) hQL (by rfl) (fun w1 _ => (by go_simp)) hS ?_
        try simp only [Act.put, List.setIfInBounds_toArray, List.set_cons_zero, List.set_cons_succ]
        refine late_take (i := 3) (d := some 75) (v := .slice va l.length vc) rfl rfl (by kernel_rfl) (by kernel_rfl) (by kernel_rfl) hQL (by rfl) (fun w1 hS1 => (by obtain ⟨hc, hf⟩ := bcellG hS1; go_simp)) hS ?_
        try simp only [Act.put, List.setIfInBounds_toArray, List.set_cons_zero, List.set_cons_succ]
        refine late_take (i := 4) (d := some 76) (v := .agg #[.string t.name, .slice ta t.args.length tc]) rfl rfl (by kernel_rfl) (by kernel_rfl) (by kernel_rfl) hQL (by rfl) (fun w1 hS1 => (by obtain ⟨hc, hf⟩ := bcellG hS1; go_simp)) hS ?_
        try simp only [Act.put, List.setIfInBounds_toArray, List.set_cons_zero, List.set_cons_succ]
        refine late_take (i := 5) (d := some 77) (v := .agg #[.string u.name, .slice ua u.args.length uc]) rfl rfl (by kernel_rfl) (by kernel_rfl) (by kernel_rfl) hQL (by rfl) (fun w1 hS1 => (by obtain ⟨hc, hf⟩ := bcellG hS1; go_simp)) hS ?_
        try simp only [Act.put, List.setIfInBounds_toArray, List.set_cons_zero, List.set_cons_succ]
        refine late_take (i := 6) (d := some 78) (v := .agg #[.string t.name, .slice ta t.args.length tc, .string u.name, .slice ua u.args.length uc]) rfl rfl (by kernel_rfl) (by kernel_rfl) (by kernel_rfl) hQL (by rfl) (fun w1 _ => (by go_simp)) hS ?_
        try simp only [Act.put, List.setIfInBounds_toArray, List.set_cons_zero, List.set_cons_succ]
        refine wpAnyH_ready (rs := [7]) (by kernel_rfl) (by simp) ?_
        refine AllReadyH.cons rfl (fun K hK => ?_) AllReadyH.nil
        go_simp
        refine hK.out _ _ (World.grownBy.trans hS (World.grownBy_alloc _ _ _)) (fun hS => ?_)
        try show wpAnyH _ _ _ _ _ _ _ (Act.put _ (some 79) _) _
        try simp only [Act.put, List.setIfInBounds_toArray, List.set_cons_zero, List.set_cons_succ]
        refine wpAnyH_ready (rs := [8]) (by kernel_rfl) (by simp) ?_
        refine AllReadyH.cons rfl (fun K hK => ?_) AllReadyH.nil
        have HBN : Hid (Below wi.heap.size wi (wi.drew.alloc (.cells #[.string t.name, .slice ta t.args.length tc, .string u.name, .slice ua u.args.length uc] 52))) := ((Below.refl wi.heap.size wi).drew).alloc (Nat.le_refl _) _
        refine step_append_rv (S := S) (B := B) (k := 1) (off := 0) (news := [.string t.name, .slice ta t.args.length tc, .string u.name, .slice ua u.args.length uc]) (es := prCs (t, u)) Tryd.underlying43 infoPair rfl (by decide) (by decide) rfl _ _ (by rfl) (by rfl) (by rfl) (HRV.out.keep HBN.out) HNS.out rfl (by intro j u hj; rw [Nat.zero_add]; exact (box1 wi.drew _ _ j).trans (by simpa using hj)) (HCR.out.keep (Keeps.all HBN.out)) (by omega) (Nat.le_trans (Nat.le_trans HBle.out HWI.out.size) HBN.out.size) ?_
        intro v2 wg hrow hgr hgo
        obtain ⟨v2a, v2c, rfl, -, -⟩ := hrow.form
        rw [Hr.out] at hgr
        have HRF := hid hrow
        have HGO2 : Hid (Goes wi (.slice va l.length vc) (.slice v2a (l.length + 1) v2c)) := fun y hy => by
          rcases hgo with q | q
          · exact .inl (q.symm.trans hy)
          · right; rw [q] at hy; injection hy with hy; rw [← hy]; exact HBN.out.size
        clear hrow hgo
        refine hK.out _ _ (World.grownBy.trans hS hgr) (fun hS => ?_)
        try show wpAnyH _ _ _ _ _ _ _ (Act.put _ (some 80) _) _
        try simp only [Act.put, List.setIfInBounds_toArray, List.set_cons_zero, List.set_cons_succ]
        refine late_take (i := 9) (d := some 81) (v := .pointer (some ⟨P, 0, none⟩)) rfl rfl (by kernel_rfl) (by kernel_rfl) (by kernel_rfl) hQL (by rfl) (fun w1 _ => (by go_simp)) hS ?_
        try simp only [Act.put, List.setIfInBounds_toArray, List.set_cons_zero, List.set_cons_succ]
        refine wpAnyH_done (by kernel_rfl) ?_ _
        show wpTail _ _ _ _ _
        refine wpTail_step rfl (fun K hK => ?_)
        obtain ⟨hc, hf⟩ := bcellG hS
        go_simp
        refine hK.out _ _ ?_
        try clear hc hf
        refine wpTail_nil ?_
        clear et0 et1 lt eu0 eu1 lu re0 rf0 re1 rf1 rl
        have pg0 := ((bcellG hS).1 P 0 lP nP).trans hp0
        have pf0 := ((bcellG hS).2 P 0 lP nP).trans fp0
        have HGW : Hid (wi.grownBy wg r) := hid hS
        have HZG := hid hS.size
        have HV2 : Hid (∀ y, (Value.slice v2a (l.length + 1) v2c).ownBlock = some y → y ≠ P ∧ B ≤ y ∧ (y < w.heap.size ∨ wi.heap.size ≤ y)) := fun y hy => by
          rcases HGO2.out y hy with q | q
          · exact ⟨HVP.out y q, (HVL.out y q).1, .inl (HVL.out y q).2⟩
          · exact ⟨by omega, by have := HBle.out; omega, .inr q⟩
        have HGS : Hid (wg.grownBy (wg.setCell ⟨P, 0, none⟩ (.slice v2a (l.length + 1) v2c)) (some P)) := grown_setCell wg ⟨P, 0, none⟩ (.slice v2a (l.length + 1) v2c)
        have HKI : Hid (KX P r none wi (wg.setCell ⟨P, 0, none⟩ (.slice v2a (l.length + 1) v2c))) := ((KX.refl P r none wi).grown HGW.out (fun y hy => .inl hy)).grown HGS.out (fun y hy => by injection hy with hy; exact .inr (.inr (.inl hy.symm)))
        have HKS : Hid (KX P r none w (wg.setCell ⟨P, 0, none⟩ (.slice v2a (l.length + 1) v2c))) := ((KX.of_below HWI.out).grown HGW.out (fun y hy => .inl hy)).grown HGS.out (fun y hy => by injection hy with hy; exact .inr (.inr (.inl hy.symm)))
        have HBS : Hid (Below B w (wg.setCell ⟨P, 0, none⟩ (.slice v2a (l.length + 1) v2c))) := ((HWI.out.mono HBle.out).grown HGW.out (by have := HBle.out; omega) (fun y hy => (HL.out y hy).1)).setCell (p := ⟨P, 0, none⟩) HBP.out _
        have hPw := HLP0.out
        have HZI := hid rb.lt
        have rbS := rb.kx HKI.out (by omega) nR (by simp)
        have rfS := fun p => (HKI.out.frozen (b := w.heap.size + 1 + 1) (o := p) rb.lt (by omega) nR (by simp)).trans (rf p)
        have cP : (wg.setCell ⟨P, 0, none⟩ (.slice v2a (l.length + 1) v2c)).cell? ⟨P, 0, none⟩ = some (.slice v2a (l.length + 1) v2c) := World.cell?_setCell_same _ _ _ pg0
        have fP : (wg.setCell ⟨P, 0, none⟩ (.slice v2a (l.length + 1) v2c)).frozen? ⟨P, 0, none⟩ = false := by rw [World.frozen?_setCell]; exact pf0
        have lPS : P < (wg.setCell ⟨P, 0, none⟩ (.slice v2a (l.length + 1) v2c)).heap.size := by rw [World.size_setCell]; have := HZG.out; omega
        have HRS := hid (HRF.out.apart HGS.out (fun y hy e => by injection e with e; exact (HV2.out y hy).1 e.symm) (fun y hy e => by injection e with e; have h1 := HS.out y hy; have h2 := HBP.out; omega))
        have HCP := hid cP
        have HFP := hid fP
        clear hS hW bt bu rb rf ht hu hp0 fp0 pg0 pf0 HGW HGS HKI HRF HRV HCR cP fP lP hwz
        generalize (wg.setCell ⟨P, 0, none⟩ (.slice v2a (l.length + 1) v2c)) = wS at *
        go_wp2_with fail
        refine (itoa_any (n := (l.length : Int)) (by omega) (by omega) (HTF.out _ HBS.out)).mono ?_
        rintro e w6 ⟨_, rfl, hb, rfl⟩
        have rb6 := rbS.keep hb
        have s0 := rb6.c0
        have s1 := rb6.c1
        have sl := rb6.lt
        have t0' := (hb.frozen (p := ⟨w.heap.size + 1 + 1, 0, none⟩) rbS.lt).trans (rfS 0)
        have t1' := (hb.frozen (p := ⟨w.heap.size + 1 + 1, 1, none⟩) rbS.lt).trans (rfS 1)
        have HB6 := hid hb
        have c6 := (hb.cell (p := ⟨P, 0, none⟩) lPS).trans HCP.out
        have f6 := (hb.frozen (p := ⟨P, 0, none⟩) lPS).trans HFP.out
        have HC6 := hid c6
        have HF6 := hid f6
        clear hb c6 f6
        go_wp2_with fail
        refine bodyPost_ret (v := .agg #[.string (⟨#[71]⟩ ++ itoaB (l.length : Int)), .slice none 0 0]) (by simp [results, Tryd.results16, go_sem, s0, s1]; try rfl) rfl ?_
        have HG7 : Hid (w6.grownBy ((w6.setCell ⟨w.heap.size + 1 + 1, 0, none⟩ (.string (⟨#[71]⟩ ++ itoaB (l.length : Int)))).setCell ⟨w.heap.size + 1 + 1, 1, none⟩ (.slice none 0 0)) (some (w.heap.size + 1 + 1))) := World.grownBy.trans (grown_setCell w6 ⟨w.heap.size + 1 + 1, 0, none⟩ _) (grown_setCell _ ⟨w.heap.size + 1 + 1, 1, none⟩ _)
        have hPR : ¬ P = w.heap.size + 1 + 1 := by have := HLP0.out; omega
        rw [HRR.out]
        refine ⟨.slice none 0 0, [], .slice v2a (l.length + 1) v2c, rfl, D.own_nil _ _, by simp, fun y hy => ⟨by simp, (HV2.out y hy).1⟩, ?_, ?_, ?_, ?_, ?_, Goes.trans (Goes.refl w _) HWI.out.size HGO2.out⟩
        · have HF2 := (HRS.out.keep HB6.out).apart HG7.out (fun y hy e => by
            injection e with e
            have h1 := (HV2.out y hy).2.2
            have h2 := HWI.out.size
            have h3 := HZI.out
            omega) (fun y hy e => by injection e with e; have h1 := HS.out y hy; have h2 := HBle.out; omega)
          rw [List.length_append, prCss_snoc]
          exact HF2
        · rw [World.cell?_setCell_other _ _ _ _ (by intro e; injection e with e; omega), World.cell?_setCell_other _ _ _ _ (by intro e; injection e with e; omega)]
          exact HC6.out
        · rw [World.frozen?_setCell, World.frozen?_setCell]; exact HF6.out
        · exact ((HBS.out.trans (HB6.out.mono (by have := HBS.out.size; have := HBle.out; omega))).setCell (p := ⟨w.heap.size + 1 + 1, 0, none⟩) (by show B ≤ w.heap.size + 1 + 1; have := HBle.out; omega) _).setCell (p := ⟨w.heap.size + 1 + 1, 1, none⟩) (by show B ≤ w.heap.size + 1 + 1; have := HBle.out; omega) _
        · rw [Hr.out]
          exact (KX.trans HKS.out (KX.of_below HB6.out)).grown HG7.out (fun y hy => by injection hy with hy; exact .inr (.inr (.inr (by omega))))
    · have HN2 := hid (Bool.eq_false_iff.2 hvu)
      by_cases hnn : t.name = u.name
      · have hq := show (t.name.toList == u.name.toList) = true by rw [hnn]; simp
        by_cases hll : t.args.length = u.args.length
        · have hqj : ((t.args.length : Int) == (u.args.length : Int)) = true := by simp [hll]
          have HLL := hid hll
          have HGI : Hid (R = (.node t.name (Tm.gens t.args u.args l).1, (Tm.gens t.args u.args l).2)) := by rw [Hid, ← HR.out]; exact Tm.gen_in l HN.out hnn hll
          clear hnn hll hvt hvu
          have HRN : Hid (∀ k (h : k < t.args.length) l1, l1.length ≤ 999999 → (Tm.gen t.args[k] (u.args[k]'(by have := HLL.out; omega)) l1).1.name.size ≤ maxLen) := fun k h l1 hl1 => by
            have h1 := gen_name t.args[k] (u.args[k]'(by have := HLL.out; omega)) l1 hl1
            have h2 := genNm_bulk t.args[k]
            have h3 := Tm.bulk_mem (List.getElem_mem h)
            have h4 := Tm.args_bulk t
            unfold maxLen
            omega
          obtain ⟨rfl, tn, ta, tc, rfl⟩ := Tm.at_form ht
          obtain ⟨rfl, un, ua, uc, rfl⟩ := Tm.at_form hu
          have hW : Below w.heap.size w (((w.alloc (.cells #[.string t.name, .slice ta t.args.length tc] 28)).alloc (.cells #[.string u.name, .slice ua u.args.length uc] 28)).alloc (.cells #[.string ⟨#[]⟩, .slice none 0 0] 28)) := (((Below.refl _ _).alloc (Nat.le_refl _) _).alloc (by simp) _).alloc (by simp; omega) _
          have bt : Box (((w.alloc (.cells #[.string t.name, .slice ta t.args.length tc] 28)).alloc (.cells #[.string u.name, .slice ua u.args.length uc] 28)).alloc (.cells #[.string ⟨#[]⟩, .slice none 0 0] 28)) (w.heap.size) [.string t.name, .slice ta t.args.length tc] := by
            have := (((Box.new w [.string t.name, .slice ta t.args.length tc] 28).alloc (.cells #[.string u.name, .slice ua u.args.length uc] 28)).alloc (.cells #[.string ⟨#[]⟩, .slice none 0 0] 28))
            simpa only [World.size_alloc] using this
          have bu : Box (((w.alloc (.cells #[.string t.name, .slice ta t.args.length tc] 28)).alloc (.cells #[.string u.name, .slice ua u.args.length uc] 28)).alloc (.cells #[.string ⟨#[]⟩, .slice none 0 0] 28)) (w.heap.size + 1) [.string u.name, .slice ua u.args.length uc] := by
            have := ((Box.new (w.alloc (.cells #[.string t.name, .slice ta t.args.length tc] 28)) [.string u.name, .slice ua u.args.length uc] 28).alloc (.cells #[.string ⟨#[]⟩, .slice none 0 0] 28))
            simpa only [World.size_alloc] using this
          have rb : Box (((w.alloc (.cells #[.string t.name, .slice ta t.args.length tc] 28)).alloc (.cells #[.string u.name, .slice ua u.args.length uc] 28)).alloc (.cells #[.string ⟨#[]⟩, .slice none 0 0] 28)) (w.heap.size + 1 + 1) [.string ⟨#[]⟩, .slice none 0 0] := by
            have := (Box.new ((w.alloc (.cells #[.string t.name, .slice ta t.args.length tc] 28)).alloc (.cells #[.string u.name, .slice ua u.args.length uc] 28)) [.string ⟨#[]⟩, .slice none 0 0] 28)
            simpa only [World.size_alloc] using this
          have rf : ∀ p, (((w.alloc (.cells #[.string t.name, .slice ta t.args.length tc] 28)).alloc (.cells #[.string u.name, .slice ua u.args.length uc] 28)).alloc (.cells #[.string ⟨#[]⟩, .slice none 0 0] 28)).frozen? ⟨w.heap.size + 1 + 1, p, none⟩ = false := fun p => World.frozen?_alloc_at _ _ _ p (by simp)
          replace ht := Tm.at_keep (Keeps.all hW) ht
          replace hu := Tm.at_keep (Keeps.all hW) hu
          replace hp0 := (hW.cell (p := ⟨P, 0, none⟩) lP).trans hp0
          replace fp0 := (hW.frozen (p := ⟨P, 0, none⟩) lP).trans fp0
          replace lP := Nat.lt_of_lt_of_le lP hW.size
          have et0 := bt.c0
          have et1 := bt.c1
          have lt := bt.lt
          have eu0 := bu.c0
          have eu1 := bu.c1
          have lu := bu.lt
          have re0 := rb.c0
          have rf0 := rf 0
          have re1 := rb.c1
          have rf1 := rf 1
          have rl := rb.lt
          go_enter Tryd.func16, Tryd.ntmps16
          go_wp2_with fail
          clear et0 et1 lt eu0 eu1 lu re0 rf0 re1 rf1 rl
          have Hw0 : Hid ((((w.alloc (.cells #[.string t.name, .slice ta t.args.length tc] 28)).alloc (.cells #[.string u.name, .slice ua u.args.length uc] 28)).alloc (.cells #[.string ⟨#[]⟩, .slice none 0 0] 28)).heap.size = w.heap.size + 1 + 1 + 1) := by simp [Hid]
          generalize (((w.alloc (.cells #[.string t.name, .slice ta t.args.length tc] 28)).alloc (.cells #[.string u.name, .slice ua u.args.length uc] 28)).alloc (.cells #[.string ⟨#[]⟩, .slice none 0 0] 28)) = w0 at *
          refine (isVarT_any HNT.out ht).mono ?_
          rintro e w1 ⟨_, rfl, hb, rfl⟩
          replace hW := hW.trans (hb.mono hW.size)
          replace bt := bt.keep hb
          replace ht := Tm.at_keep (Keeps.all hb) ht
          replace bu := bu.keep hb
          replace hu := Tm.at_keep (Keeps.all hb) hu
          replace rf := fun p => (hb.frozen (p := ⟨_, p, none⟩) rb.lt).trans (rf p)
          replace rb := rb.keep hb
          replace hp0 := (hb.cell (p := ⟨P, 0, none⟩) lP).trans hp0
          replace fp0 := (hb.frozen (p := ⟨P, 0, none⟩) lP).trans fp0
          replace lP := Nat.lt_of_lt_of_le lP hb.size
          clear hb
          rw [HN.out]
          have et0 := bt.c0
          have et1 := bt.c1
          have lt := bt.lt
          have eu0 := bu.c0
          have eu1 := bu.c1
          have lu := bu.lt
          have re0 := rb.c0
          have rf0 := rf 0
          have re1 := rb.c1
          have rf1 := rf 1
          have rl := rb.lt
          go_wp2_with fail
          clear et0 et1 lt eu0 eu1 lu re0 rf0 re1 rf1 rl
          refine (isVarT_any HNU.out hu).mono ?_
          rintro e wx ⟨_, rfl, hb, rfl⟩
          replace hW := hW.trans (hb.mono hW.size)
          replace bt := bt.keep hb
          replace ht := Tm.at_keep (Keeps.all hb) ht
          replace bu := bu.keep hb
          replace hu := Tm.at_keep (Keeps.all hb) hu
          replace rf := fun p => (hb.frozen (p := ⟨_, p, none⟩) rb.lt).trans (rf p)
          replace rb := rb.keep hb
          replace hp0 := (hb.cell (p := ⟨P, 0, none⟩) lP).trans hp0
          replace fp0 := (hb.frozen (p := ⟨P, 0, none⟩) lP).trans fp0
          replace lP := Nat.lt_of_lt_of_le lP hb.size
          clear hb
          rw [HN2.out]
          have HWW := hid hW
          have HBle := hid hBle
          have bt0 := bt
          have bu0 := bu
          have rb0 := rb
          have rf0 := rf
          have HT0 := hid ht
          have HU0 := hid hu
          have HZX := hid rb.lt
          have hA0 : Below wx.heap.size wx (wx.alloc (.cells #[.string t.name, .slice none 0 0] 28)) := (Below.refl _ _).alloc (Nat.le_refl _) _
          have oB : Box (wx.alloc (.cells #[.string t.name, .slice none 0 0] 28)) wx.heap.size [.string t.name, .slice none 0 0] := Box.new _ _ _
          have oF : ∀ p, (wx.alloc (.cells #[.string t.name, .slice none 0 0] 28)).frozen? ⟨wx.heap.size, p, none⟩ = false := fun p => World.frozen?_alloc_at _ _ _ p (by simp)
          have HPL := hid ((hA0.cell (p := ⟨P, 0, none⟩) lP).trans hp0)
          have HFL := hid ((hA0.frozen (p := ⟨P, 0, none⟩) lP).trans fp0)
          have hzA : (wx.alloc (.cells #[.string t.name, .slice none 0 0] 28)).heap.size = wx.heap.size + 1 := by simp
          have HZA := hid hzA
          have HLX := hid lP
          clear hzA
          have et0 := bt.c0
          have et1 := bt.c1
          have lt := bt.lt
          have eu0 := bu.c0
          have eu1 := bu.c1
          have lu := bu.lt
          have re0 := rb.c0
          have rf0 := rf 0
          have re1 := rb.c1
          have rf1 := rf 1
          have rl := rb.lt
          go_wp2_with fail
          clear et0 et1 lt eu0 eu1 lu re0 rf0 re1 rf1 rl
          clear hq hqj
          have HA0 := hid hA0
          have HWL := hid (hW.trans (hA0.mono hW.size))
          have HOF := hid oF
          clear hW bt bu rb rf ht hu hA0 oF hp0 fp0 lP
          generalize (wx.alloc (.cells #[.string t.name, .slice none 0 0] 28)) = wl at *
          have hzl := HZA.out
          have hzx := HZX.out
          obtain ⟨O, HOO⟩ : ∃ O, Hid (wx.heap.size = O) := ⟨_, hid rfl⟩
          rw [HOO.out] at hzl oB HOF hzx
          rw [HOO.out]
          have oc0 := oB.c0
          have oc1 := oB.c1
          have hPO : ¬ O = P := by have := HLP0.out; omega
          go_loopw [41] (fun i wr => ∃ (k : Nat) (l1 : List Pr) (F : List Nat) (av pv : Value), k ≤ t.args.length ∧ i = .int .i64 k ∧ Hid ((Tm.gens (t.args.take k) u.args l).2 = l1) ∧ Hid (Rv S wr B 52 4 pv l1.length (prCss l1)) ∧ Hid (Gr wr (O + 1) 28 2 av k (Tm.css (Tm.gens (t.args.take k) u.args l).1) F) ∧ Hid (wr.cell? ⟨P, 0, none⟩ = some pv) ∧ Hid (wr.frozen? ⟨P, 0, none⟩ = false) ∧ wr.cell? ⟨O, 0, none⟩ = some (.string t.name) ∧ wr.cell? ⟨O, 1, none⟩ = some av ∧ Hid (∀ p, wr.frozen? ⟨O, p, none⟩ = false) ∧ O + 1 ≤ wr.heap.size ∧ Hid (KX P (Value.slice va l.length vc).ownBlock none wx wr) ∧ Hid (Below B w wr) ∧ Hid (Goes wl (.slice va l.length vc) pv) ∧ Hid (∀ y, pv.ownBlock = some y → y ∉ F ∧ ¬ av.ownBlock = some y ∧ y ≠ P) ∧ l1.length ≤ l.length + Tm.sizes (t.args.take k)) (fun i _ => t.args.length - (intOf i).toNat)
          case atStart => exact ⟨0, l, [], .slice none 0 0, .slice va l.length vc, Nat.zero_le _, rfl, by rw [List.take_zero, Tm.gens]; exact hid rfl, hid (HV.out.keep HWL.out), by rw [List.take_zero, Tm.gens, Tm.css]; exact hid (Gr.nil _ _ _ _), HPL, HFL, oc0, oc1, HOF, by omega, hid (KX.of_below HA0.out), hid (HWL.out.mono HBle.out), Goes.refl _ _, fun y hy => ⟨(by simp), (by intro e; cases e), HVP.out y hy⟩, by omega⟩
          case round =>
            obtain ⟨k, l1, F, av, pv, hk, rfl, HMK, HRV, HG, HPC, HPF, y0, y1, HYF, hz, HKX, HBB, HGO, HAP, hl1⟩ := hrel
            have hwO : w.heap.size + 1 + 1 + 1 ≤ O := by omega
            have hkb := genLen_bulk t
            have hwxO := HOO.out
            have hPw := HLP0.out
            have hBw := HBle.out
            have hP0 : ¬ w.heap.size = P := by omega
            have hP1 : ¬ w.heap.size + 1 = P := by omega
            have hP2 : ¬ w.heap.size + 1 + 1 = P := by omega
            have n1 : ¬ (Value.slice va l.length vc).ownBlock = some (w.heap.size + 1) := fun e => by have := (HVL.out _ e).2; omega
            have n2 : ¬ (Value.slice va l.length vc).ownBlock = some (w.heap.size + 1 + 1) := fun e => by have := (HVL.out _ e).2; omega
            have eu0 := (HKX.out.cell (b := w.heap.size + 1) (o := 0) (by omega) hP1 n1 (by simp)).trans bu0.c0
            have eu1 := (HKX.out.cell (b := w.heap.size + 1) (o := 1) (by omega) hP1 n1 (by simp)).trans bu0.c1
            have er0 := (HKX.out.cell (b := w.heap.size + 1 + 1) (o := 0) (by omega) hP2 n2 (by simp)).trans rb0.c0
            have er1 := (HKX.out.cell (b := w.heap.size + 1 + 1) (o := 1) (by omega) hP2 n2 (by simp)).trans rb0.c1
            have fr0 := (HKX.out.frozen (b := w.heap.size + 1 + 1) (o := 0) (by omega) hP2 n2 (by simp)).trans (rf0 0)
            have fr1 := (HKX.out.frozen (b := w.heap.size + 1 + 1) (o := 1) (by omega) hP2 n2 (by simp)).trans (rf0 1)
            have lu : w.heap.size + 1 < wr.heap.size := by omega
            have lr : w.heap.size + 1 + 1 < wr.heap.size := by omega
            have lO : O < wr.heap.size := hz
            have hkS : Keeps S wx wr := ⟨HKX.out.size, fun y hy hl => HKX.out.block y ⟨fun e => by have := HS.out y hy; have := HBP.out; omega, fun e => by have h1 := (HVL.out y e).1; have h2 := HS.out y hy; omega, by simp⟩ hl⟩
            have htr := Tm.at_keep hkS HT0.out
            have hur := Tm.at_keep hkS HU0.out
            by_cases hlt : k < t.args.length
            · have hlu : k < u.args.length := by have := HLL.out; omega
              have hne : t.args ≠ [] := by intro e; rw [e] at hlt; simp at hlt
              have hneu : u.args ≠ [] := by intro e; rw [e] at hlu; simp at hlu
              obtain ⟨b, off, rfl, hSb, hbl, hrr⟩ := Tm.sd_get htr.2 hne
              obtain ⟨x0, x1, q0, q1, qx⟩ := hrr k hlt
              obtain ⟨b', off', rfl, hSb', hbl', hrr'⟩ := Tm.sd_get hur.2 hneu
              obtain ⟨z0, z1, r0, r1, rx⟩ := hrr' k hlu
              have hqx := hid qx
              have hrx := hid rx
              obtain ⟨rfl, -, xa, xc, rfl⟩ := Tm.at_form qx
              obtain ⟨rfl, -, ya, yc, rfl⟩ := Tm.at_form rx
              have hT0 : (0 : Int) ≤ (k : Int) := by omega
              obtain ⟨r, Hr⟩ : ∃ r, Hid (pv.ownBlock = r) := ⟨_, hid rfl⟩
              obtain ⟨s, Hs⟩ : ∃ s, Hid (av.ownBlock = s) := ⟨_, hid rfl⟩
              have HL : Hid (∀ y, r = some y → B ≤ y ∧ y < wr.heap.size) := fun y hy => HRV.out.lt y (Hr.out.trans hy)
              have HLs : Hid (∀ y, s = some y → O + 1 ≤ y ∧ y < wr.heap.size) := fun y hy => HG.out.lt y (Hs.out.trans hy)
              have HL3 : Hid (∀ y, r = some y → y < w.heap.size ∨ O + 1 ≤ y) := fun y hy => by
                rcases HGO.out y (Hr.out.trans hy) with q | q
                · exact .inl (HVL.out y q).2
                · right; omega
              have m1 : ¬ r = some (w.heap.size + 1) := fun e => by have := HL3.out _ e; omega
              have mO : ¬ r = some O := fun e => by have := HL3.out _ e; omega
              have mX : ¬ r = some wr.heap.size := fun e => by have := (HL.out _ e).2; omega
              have mb' : ¬ r = some b' := fun e => by have h1 := (HL.out _ e).1; have h2 := HS.out _ hSb'; omega
              have s1 : ¬ s = some (w.heap.size + 1) := fun e => by have := (HLs.out _ e).1; omega
              have sO : ¬ s = some O := fun e => by have := (HLs.out _ e).1; omega
              have sX : ¬ s = some wr.heap.size := fun e => by have := (HLs.out _ e).2; omega
              have sb' : ¬ s = some b' := fun e => by have h1 := (HLs.out _ e).1; have h2 := HS.out _ hSb'; omega
              have pX : ¬ wr.heap.size = P := by omega
              have pb' : ¬ b' = P := fun e => by have h2 := HS.out _ hSb'; have := HBP.out; omega
              have hst := Tm.sizes_take t.args k hlt
              have hsl := Tm.sizes_le t.args (k + 1)
              have hts2 : t.size = 1 + Tm.sizes t.args := by cases t; rw [Tm.size]; rfl
              have hbm := Tm.bulk_mem (List.getElem_mem hlt)
              have hba := Tm.args_bulk t
              have HNT1 : Hid (t.args[k].nice = true) := ((Tm.nice_iff t).1 HNT.out).2.2 _ (List.getElem_mem hlt)
              have HNU1 : Hid (u.args[k].nice = true) := ((Tm.nice_iff u).1 HNU.out).2.2 _ (List.getElem_mem hlu)
              have HIH : Hid (∀ wy, Below wr.heap.size wr wy → Calls Tryd.prog 16 #[.pointer (some ⟨P, 0, none⟩), .agg #[.string t.args[k].name, .slice xa t.args[k].args.length xc], .agg #[.string u.args[k].name, .slice ya u.args[k].args.length yc]] wy (GenOutI (Tm.gen t.args[k] u.args[k] l1) pv P B S wy)) := fun wy hby =>
                ih t.args[k] (List.getElem_mem hlt) u.args[k] l1 pv P B S _ _ _ _ wy (HRV.out.keep hby) ((hby.cell (p := ⟨P, 0, none⟩) (by show P < _; omega)).trans HPC.out) ((hby.frozen (p := ⟨P, 0, none⟩) (by show P < _; omega)).trans HPF.out) (by have := hby.size; omega) HBP.out (fun y hy => (HAP.out y hy).2.2) HS.out (Tm.at_keep (Keeps.all hby) hqx.out) (Tm.at_keep (Keeps.all hby) hrx.out) HNT1.out HNU1.out (by omega) (by omega) (fun w' hb' => HTF.out w' ((HBB.out.trans (hby.mono (by omega))).trans hb'))
              have HST := hid (Tm.gens_take t.args u.args l k hlt hlu)
              rw [HMK.out] at HST
              have HNM := hid (HRN.out k hlt l1 (by omega))
              have hgs := Tm.gen_sizes t.args[k] u.args[k] l1
              obtain ⟨R1, HR1⟩ : ∃ R1, Hid (Tm.gen t.args[k] u.args[k] l1 = R1) := ⟨_, hid rfl⟩
              rw [HR1.out] at HST HNM HIH hgs
              have HSZ : Hid (R1.2.length ≤ l.length + Tm.sizes (t.args.take (k + 1))) := by rw [Hid]; omega
              clear hrr hrr' qx rx hst hsl htr hur hkS hgs hbm hba
              go_wp2_with fail
              have HAX : Hid (Below wr.heap.size wr (wr.alloc (.cells #[.string t.args[k].name, .slice xa t.args[k].args.length xc] 28))) := (Below.refl _ _).alloc (Nat.le_refl _) _
              have bE : Box (wr.alloc (.cells #[.string t.args[k].name, .slice xa t.args[k].args.length xc] 28)) wr.heap.size [.string t.args[k].name, .slice xa t.args[k].args.length xc] := Box.new _ _ _
              have hzb : wr.heap.size + 1 = (wr.alloc (.cells #[.string t.args[k].name, .slice xa t.args[k].args.length xc] 28)).heap.size := by simp
              replace y0 := (HAX.out.cell (p := ⟨O, 0, none⟩) lO).trans y0
              replace y1 := (HAX.out.cell (p := ⟨O, 1, none⟩) lO).trans y1
              replace HYF : Hid (∀ p, (wr.alloc (.cells #[.string t.args[k].name, .slice xa t.args[k].args.length xc] 28)).frozen? ⟨O, p, none⟩ = false) := fun p => (HAX.out.frozen (p := ⟨O, p, none⟩) lO).trans (HYF.out p)
              replace eu0 := (HAX.out.cell (p := ⟨w.heap.size + 1, 0, none⟩) lu).trans eu0
              replace eu1 := (HAX.out.cell (p := ⟨w.heap.size + 1, 1, none⟩) lu).trans eu1
              replace r0 := (HAX.out.cell (p := ⟨b', off' + k * 2, none⟩) hbl').trans r0
              replace r1 := (HAX.out.cell (p := ⟨b', off' + k * 2 + 1, none⟩) hbl').trans r1
              clear q0 q1 er0 er1 fr0 fr1
              generalize wr.alloc (.cells #[.string t.args[k].name, .slice xa t.args[k].args.length xc] 28) = wb at *
              have e0 := bE.c0
              have e1 := bE.c1
              have lE := bE.lt
              have lOb : O < wb.heap.size := by omega
              have lub : w.heap.size + 1 < wb.heap.size := by omega
              have lbb : b' < wb.heap.size := by omega
              have y2 := HYF.out 1
              refine region_late (l := [_, _, _, _, _, _, _, _, _, _, _, _, _]) (tl := [_]) (S := fun w1 => KX P r s (wb) w1) (n := 13) rfl rfl (by kernel_rfl) (by kernel_rfl) (KX.drew _) (fun hQL hS => ?_)
              refine late_take (i := 0) (d := some 46) (v := .pointer (some ⟨O, 1, none⟩)) rfl rfl (by kernel_rfl) (by kernel_rfl) (by kernel_rfl) hQL (by rfl) (fun w1 _ => (by go_simp)) hS ?_
              try simp only [Act.put, List.setIfInBounds_toArray, List.set_cons_zero, List.set_cons_succ]
              refine late_take (i := 1) (d := some 47) (v := av) rfl rfl (by kernel_rfl) (by kernel_rfl) (by kernel_rfl) hQL (by rfl) (fun w1 hS1 => (by obtain ⟨hc, hf⟩ := bcellK hS1; go_simp)) hS ?_
              try simp only [Act.put, List.setIfInBounds_toArray, List.set_cons_zero, List.set_cons_succ]
              refine late_take (i := 2) (d := some 48) (v := .pointer (some ⟨P, 0, none⟩)) rfl rfl (by kernel_rfl) (by kernel_rfl) (by kernel_rfl) hQL (by rfl) (fun w1 _ => (by go_simp)) hS ?_
              try simp only [Act.put, List.setIfInBounds_toArray, List.set_cons_zero, List.set_cons_succ]
              refine late_take (i := 3) (d := some 49) (v := .agg #[.string t.args[k].name, .slice xa t.args[k].args.length xc]) rfl rfl (by kernel_rfl) (by kernel_rfl) (by kernel_rfl) hQL (by rfl) (fun w1 hS1 => (by obtain ⟨hc, hf⟩ := bcellK hS1; go_simp)) hS ?_
              try simp only [Act.put, List.setIfInBounds_toArray, List.set_cons_zero, List.set_cons_succ]
              refine late_take (i := 4) (d := some 50) (v := .pointer (some ⟨(w.heap.size + 1), 1, none⟩)) rfl rfl (by kernel_rfl) (by kernel_rfl) (by kernel_rfl) hQL (by rfl) (fun w1 _ => (by go_simp)) hS ?_
              try simp only [Act.put, List.setIfInBounds_toArray, List.set_cons_zero, List.set_cons_succ]
              refine late_take (i := 5) (d := some 51) (v := .slice (some ⟨b', off', none⟩) u.args.length uc) rfl rfl (by kernel_rfl) (by kernel_rfl) (by kernel_rfl) hQL (by rfl) (fun w1 hS1 => (by obtain ⟨hc, hf⟩ := bcellK hS1; go_simp)) hS ?_
              try simp only [Act.put, List.setIfInBounds_toArray, List.set_cons_zero, List.set_cons_succ]
              refine late_take (i := 6) (d := some 52) (v := .int .i64 k) rfl rfl (by kernel_rfl) (by kernel_rfl) (by kernel_rfl) hQL (by rfl) (fun w1 _ => (by go_simp)) hS ?_
              try simp only [Act.put, List.setIfInBounds_toArray, List.set_cons_zero, List.set_cons_succ]
              refine late_take (i := 7) (d := some 53) (v := .pointer (some ⟨b', off' + k * 2, none⟩)) rfl rfl (by kernel_rfl) (by kernel_rfl) (by kernel_rfl) hQL (by rfl) (fun w1 _ => (by go_simp)) hS ?_
              try simp only [Act.put, List.setIfInBounds_toArray, List.set_cons_zero, List.set_cons_succ]
              refine late_take (i := 8) (d := some 54) (v := .agg #[.string u.args[k].name, .slice ya u.args[k].args.length yc]) rfl rfl (by kernel_rfl) (by kernel_rfl) (by kernel_rfl) hQL (by rfl) (fun w1 hS1 => (by obtain ⟨hc, hf⟩ := bcellK hS1; go_simp)) hS ?_
              try simp only [Act.put, List.setIfInBounds_toArray, List.set_cons_zero, List.set_cons_succ]
              refine wpAnyH_ready (rs := [9]) (by kernel_rfl) (by simp) ?_
              refine AllReadyH.cons rfl (fun K hK => ?_) AllReadyH.nil
              refine step_does rfl ?_
              unfold Does
              go_simp
              go_at_call 16
              refine (HIH.out _ (HAX.out.trans (((Below.refl wb.heap.size wb).drew).mono (by omega)))).mono ?_
              rintro e w1 ⟨o1, F1, v1, rfl, ho1, hF1, hn1, hrv1, hc1, hf1, hb1, hk1, hgo1⟩
              obtain ⟨a1, c1, rfl⟩ := Tm.sd_own_form ho1
              rw [Hr.out] at hk1
              have HO1 := hid ho1
              have HF1 : Hid (∀ y ∈ F1, wb.heap.size ≤ y) := hF1
              have HN1 := hid hn1
              have HRV1 := hid hrv1
              have HC1 := hid hc1
              have HFP1 := hid hf1
              have HB1 : Hid (Below B wb w1) := ((Below.refl B wb).drew).trans hb1
              have HK1 : Hid (KX P r none wb w1) := KX.trans (KX.drew wb) hk1
              have HGO1 : Hid (Goes wb pv v1) := hgo1
              have HGW := hid ((HG.out.keep HAX.out).kp HK1.out (fun y hy => ⟨fun e => by have := (HLs.out y (Hs.out.symm.trans hy)).1; omega, fun e => (HAP.out y (Hr.out.trans e)).2.1 hy, by simp⟩) (fun y hy => ⟨fun e => by have := HG.out.leF y hy; omega, fun e => (HAP.out y (Hr.out.trans e)).1 hy, by simp⟩))
              have hz1 : wb.heap.size ≤ w1.heap.size := HK1.out.size
              clear ho1 hF1 hn1 hrv1 hc1 hf1 hb1 hgo1
              refine ⟨_, rfl, ?_⟩
              refine hK.out _ _ (KX.kx hS hk1 (fun y h => .inl h)) (fun hS => ?_)
              try show wpAnyH _ _ _ _ _ _ _ (Act.put _ (some 55) _) _
              try simp only [Act.put, List.setIfInBounds_toArray, List.set_cons_zero, List.set_cons_succ]
              refine wpAnyH_ready (rs := [10]) (by kernel_rfl) (by simp) ?_
              refine AllReadyH.cons rfl (fun K hK => ?_) AllReadyH.nil
              go_simp
              refine hK.out _ _ (KX.trans hS (KX.alloc _ _)) (fun hS => ?_)
              try show wpAnyH _ _ _ _ _ _ _ (Act.put _ (some 56) _) _
              try simp only [Act.put, List.setIfInBounds_toArray, List.set_cons_zero, List.set_cons_succ]
              refine wpAnyH_ready (rs := [11]) (by kernel_rfl) (by simp) ?_
              refine AllReadyH.cons rfl (fun K hK => ?_) AllReadyH.nil
              refine step_append_gr (news := [.string R1.1.name, .slice a1 R1.1.args.length c1]) (G := F1) (ds := R1.1.cs) Tryd.underlying26 infoTerm rfl (by decide) (by decide) rfl _ _ (by rfl) (by rfl) (by rfl) (HGW.out.keep ((Below.refl _ _).alloc (Nat.le_refl _) _)) rfl (by intro j u hj; rw [box1]; simpa using hj) (by simp [Value.oneCell']) ((Tm.own_item HNM.out HO1.out).keep (Keeps.all ((Below.refl _ _).alloc (Nat.le_refl _) _))) (fun y hy => by have := HF1.out y hy; omega) (fun y hy hy' => by have := HF1.out y hy'; have := HG.out.ltF y hy; omega) (fun y hy hy' => by have := HF1.out y hy'; have := HG.out.lt y hy; omega) (by omega) (by rw [World.size_alloc]; omega) ?_
              intro g capg wg hg hgr hgo hglt
              rw [Hs.out] at hgr
              have HGR := hid hgr
              have HGG := hid hg
              have HGH : Hid (av.ownBlock = some g ∨ w1.heap.size ≤ g) := by
                rcases hgo with q | q
                · exact .inl q
                · right; rw [World.size_alloc] at q; omega
              clear hg hgo
              refine hK.out _ _ (KX.grown hS hgr (fun y h => .inr (.inl h))) (fun hS => ?_)
              try show wpAnyH _ _ _ _ _ _ _ (Act.put _ (some 57) _) _
              try simp only [Act.put, List.setIfInBounds_toArray, List.set_cons_zero, List.set_cons_succ]
              refine late_take (i := 12) (d := some 58) (v := .pointer (some ⟨O, 1, none⟩)) rfl rfl (by kernel_rfl) (by kernel_rfl) (by kernel_rfl) hQL (by rfl) (fun w1 _ => (by go_simp)) hS ?_
              try simp only [Act.put, List.setIfInBounds_toArray, List.set_cons_zero, List.set_cons_succ]
              refine wpAnyH_done (by kernel_rfl) ?_ _
              show wpTail _ _ _ _ _
              refine wpTail_step rfl (fun K hK => ?_)
              obtain ⟨hc, hf⟩ := bcellK hS
              go_simp
              refine hK.out _ _ ?_
              try clear hc hf
              refine wpTail_nil ?_
              have zO0 := ((bcellK hS).1 O 0 lOb hPO mO sO).trans y0
              have zO1 := ((bcellK hS).1 O 1 lOb hPO mO sO).trans y1
              have HZF : Hid (∀ p, wg.frozen? ⟨O, p, none⟩ = false) := fun p => ((bcellK hS).2 O p lOb hPO mO sO).trans (HYF.out p)
              have hzg := hS.size
              have hzg1 := HGR.out.size
              rw [World.size_alloc] at hzg1
              have lPg : P < w1.heap.size := by omega
              have HGW2 : Hid (w1.grownBy wg s) := World.grownBy.trans (World.grownBy_alloc _ _ _) HGR.out
              have hsP : ¬ s = some P := fun e => by have := (HLs.out _ e).1; omega
              have HCG := hid (((bcellG HGW2.out).1 P 0 lPg hsP).trans HC1.out)
              have HFG := hid (((bcellG HGW2.out).2 P 0 lPg hsP).trans HFP1.out)
              have HSD : Hid (∀ y, v1.ownBlock = some y → ¬ s = some y) := fun y hy e => by
                rcases HGO1.out y hy with q | q
                · exact (HAP.out y q).2.1 (Hs.out.trans e)
                · have := HLs.out y e; omega
              have HLV : Hid (∀ y, v1.ownBlock = some y → y < w1.heap.size) := fun y hy => (HRV1.out.lt y hy).2
              have HVO : Hid (∀ y, v1.ownBlock = some y → y ≠ O) := fun y hy e => by
                subst e
                rcases HGO1.out y hy with q | q
                · exact mO (Hr.out.symm.trans q)
                · omega
              have HKXw : Hid (KX P (Value.slice va l.length vc).ownBlock none wx wg) := ((KX.trans HKX.out (KX.of_below HAX.out)).kx HK1.out (fun y hy => by
                rcases HGO.out y (Hr.out.trans hy) with q | q
                · exact .inl q
                · right; right; omega)).grown HGW2.out (fun y hy => by have := (HLs.out y hy).1; exact .inr (.inr (.inr (by omega))))
              have HBW : Hid (Below B w wg) := ((HBB.out.trans (HAX.out.mono (by omega))).trans HB1.out).grown HGW2.out (by omega) (fun y hy => by have := (HLs.out y hy).1; omega)
              clear hS
              go_wp2_with fail
              go_roundw
              case rel =>
                refine ⟨k + 1, R1.2, F ++ F1, .slice (some ⟨g, 0, none⟩) (k + 1) capg, v1, by omega, by go_num, hid ?_, hid ?_, hid ?_, hid ?_, hid ?_, ?_, ?_, hid ?_, ?_, hid ?_, hid ?_, hid ?_, hid ?_, HSZ.out⟩
                · rw [HST.out]
                · exact (HRV1.out.apart HGW2.out (fun y hy e => HSD.out y hy e) (fun y hy e => by have h1 := HLs.out y e; have h2 := HS.out y hy; omega)).apart (grown_setCell wg ⟨O, 1, none⟩ _) (fun y hy e => by injection e with e; exact HVO.out y hy e.symm) (fun y hy e => by injection e with e; have h2 := HS.out y hy; have e2 : O = y := e; omega)
                · rw [HST.out]
                  show Gr _ _ _ _ _ _ (Tm.css (_ ++ [R1.1])) _
                  rw [genCss_snoc]
                  exact HGG.out.setCell (by show O < O + 1; omega) _
                · rw [World.cell?_setCell_other _ _ _ _ (by intro e; injection e with e; omega)]; exact HCG.out
                · rw [World.frozen?_setCell]; exact HFG.out
                · rw [World.cell?_setCell_other _ _ _ _ (by intro e; injection e with _ e; omega)]; exact zO0
                · exact World.cell?_setCell_same _ _ _ zO1
                · intro p; rw [World.frozen?_setCell]; exact HZF.out p
                · rw [World.size_setCell]; omega
                · exact HKXw.out.grown (grown_setCell wg ⟨O, 1, none⟩ _) (fun y hy => by injection hy with hy; have e2 : O = y := hy; exact .inr (.inr (.inr (by omega))))
                · exact HBW.out.setCell (p := ⟨O, 1, none⟩) (by show B ≤ O; omega) _
                · exact Goes.trans HGO.out (by omega) HGO1.out
                · intro y hy
                  refine ⟨fun q => ?_, fun e => ?_, (HN1.out y hy).2⟩
                  · rcases List.mem_append.1 q with q | q
                    · rcases HGO1.out y hy with p | p
                      · exact (HAP.out y p).1 q
                      · have := HG.out.ltF y q; omega
                    · exact (HN1.out y hy).1 q
                  · have e2 : g = y := Option.some.inj e
                    subst e2
                    rcases HGH.out with q | q
                    · exact HSD.out _ hy (Hs.out.symm.trans q)
                    · have := HLV.out _ hy; omega
              case measure => simp [intOf]; omega
            · obtain rfl : k = t.args.length := by omega
              have HG' := HG.out
              have HMK' := HMK.out
              rw [List.take_length] at HG' HMK'
              obtain ⟨Gf, hO, hGf⟩ := Gr.own2 HG' (by decide)
              have hgl := Tm.gens_length t.args u.args l HLL.out
              obtain ⟨G1, HG1⟩ : ∃ G1, Hid ((Tm.gens t.args u.args l).1 = G1) := ⟨_, hid rfl⟩
              have HRR : Hid (R = (.node t.name G1, l1)) := by rw [Hid, HGI.out, HG1.out, HMK']
              rw [HG1.out] at hO hgl
              rw [← hgl] at hO
              have hO2 : D.own wr av (Tm.sd G1) Gf := hO
              have HLG : Hid (∀ y ∈ Gf, O + 1 ≤ y) := fun y hy => by
                rcases hGf y hy with q | q
                · exact (HG.out.lt y q).1
                · exact HG.out.leF y q
              have HAG : Hid (∀ y, pv.ownBlock = some y → y ∉ Gf ∧ y ≠ P) := fun y hy => ⟨fun q => by
                rcases hGf y q with q | q
                · exact (HAP.out y hy).2.1 q
                · exact (HAP.out y hy).1 q, (HAP.out y hy).2.2⟩
              clear hO hGf HG' HMK' HG HAP
              obtain ⟨a2, c2, rfl⟩ := Tm.sd_own_form hO2
              have HO2 := hid hO2
              have HGN : Hid (wr.grownBy ((wr.setCell ⟨w.heap.size + 1 + 1, 0, none⟩ (.string t.name)).setCell ⟨w.heap.size + 1 + 1, 1, none⟩ (.slice a2 G1.length c2)) (some (w.heap.size + 1 + 1))) := World.grownBy.trans (grown_setCell wr ⟨w.heap.size + 1 + 1, 0, none⟩ _) (grown_setCell _ ⟨w.heap.size + 1 + 1, 1, none⟩ _)
              have hltn : ¬ (t.args.length : Int) < (t.args.length : Int) := by omega
              have y2 := HYF.out 0
              clear hO2 hgl htr hur hkS
              go_wp2_with fail
              refine bodyPost_ret (v := .agg #[.string t.name, .slice a2 G1.length c2]) (by simp [results, Tryd.results16, go_sem, er0, er1]; try rfl) rfl ?_
              rw [HRR.out]
              have nG : w.heap.size + 1 + 1 ∉ Gf := fun q => by have := HLG.out _ q; omega
              refine ⟨_, Gf, pv, rfl, D.own_keep _ _ _ (((Keeps.refl (· ∈ Gf) wr).setCell (p := ⟨w.heap.size + 1 + 1, 0, none⟩) (fun q _ => nG q) _).setCell (p := ⟨w.heap.size + 1 + 1, 1, none⟩) (fun q _ => nG q) _) HO2.out, fun y hy => by have := HLG.out y hy; omega, HAG.out, ?_, ?_, ?_, ?_, ?_, Goes.trans (Goes.refl w _) HWL.out.size HGO.out⟩
              · exact HRV.out.apart HGN.out (fun y hy e => by
                  injection e with e
                  rcases HGO.out y hy with q | q
                  · have := (HVL.out y q).2; omega
                  · omega) (fun y hy e => by injection e with e; have := HS.out y hy; omega)
              · rw [World.cell?_setCell_other _ _ _ _ (by intro e; injection e with e; omega), World.cell?_setCell_other _ _ _ _ (by intro e; injection e with e; omega)]
                exact HPC.out
              · rw [World.frozen?_setCell, World.frozen?_setCell]; exact HPF.out
              · exact (HBB.out.setCell (p := ⟨w.heap.size + 1 + 1, 0, none⟩) (by show B ≤ w.heap.size + 1 + 1; omega) _).setCell (p := ⟨w.heap.size + 1 + 1, 1, none⟩) (by show B ≤ w.heap.size + 1 + 1; omega) _
              · exact (KX.trans (KX.of_below HWW.out) HKX.out).grown HGN.out (fun y hy => by injection hy with hy; exact .inr (.inr (.inr (by omega))))
        · have hqj : ((t.args.length : Int) == (u.args.length : Int)) = false := by simp; omega
          have HGO : Hid (R = (genVar l t u, addP l t u)) := by rw [Hid, ← HR.out]; exact Tm.gen_out l (fun q => hll q.2.2)
          clear hnn hll hvt hvu ih
          obtain ⟨rfl, tn, ta, tc, rfl⟩ := Tm.at_form ht
          obtain ⟨rfl, un, ua, uc, rfl⟩ := Tm.at_form hu
          have hW : Below w.heap.size w (((w.alloc (.cells #[.string t.name, .slice ta t.args.length tc] 28)).alloc (.cells #[.string u.name, .slice ua u.args.length uc] 28)).alloc (.cells #[.string ⟨#[]⟩, .slice none 0 0] 28)) := (((Below.refl _ _).alloc (Nat.le_refl _) _).alloc (by simp) _).alloc (by simp; omega) _
          have bt : Box (((w.alloc (.cells #[.string t.name, .slice ta t.args.length tc] 28)).alloc (.cells #[.string u.name, .slice ua u.args.length uc] 28)).alloc (.cells #[.string ⟨#[]⟩, .slice none 0 0] 28)) (w.heap.size) [.string t.name, .slice ta t.args.length tc] := by
            have := (((Box.new w [.string t.name, .slice ta t.args.length tc] 28).alloc (.cells #[.string u.name, .slice ua u.args.length uc] 28)).alloc (.cells #[.string ⟨#[]⟩, .slice none 0 0] 28))
            simpa only [World.size_alloc] using this
          have bu : Box (((w.alloc (.cells #[.string t.name, .slice ta t.args.length tc] 28)).alloc (.cells #[.string u.name, .slice ua u.args.length uc] 28)).alloc (.cells #[.string ⟨#[]⟩, .slice none 0 0] 28)) (w.heap.size + 1) [.string u.name, .slice ua u.args.length uc] := by
            have := ((Box.new (w.alloc (.cells #[.string t.name, .slice ta t.args.length tc] 28)) [.string u.name, .slice ua u.args.length uc] 28).alloc (.cells #[.string ⟨#[]⟩, .slice none 0 0] 28))
            simpa only [World.size_alloc] using this
          have rb : Box (((w.alloc (.cells #[.string t.name, .slice ta t.args.length tc] 28)).alloc (.cells #[.string u.name, .slice ua u.args.length uc] 28)).alloc (.cells #[.string ⟨#[]⟩, .slice none 0 0] 28)) (w.heap.size + 1 + 1) [.string ⟨#[]⟩, .slice none 0 0] := by
            have := (Box.new ((w.alloc (.cells #[.string t.name, .slice ta t.args.length tc] 28)).alloc (.cells #[.string u.name, .slice ua u.args.length uc] 28)) [.string ⟨#[]⟩, .slice none 0 0] 28)
            simpa only [World.size_alloc] using this
          have rf : ∀ p, (((w.alloc (.cells #[.string t.name, .slice ta t.args.length tc] 28)).alloc (.cells #[.string u.name, .slice ua u.args.length uc] 28)).alloc (.cells #[.string ⟨#[]⟩, .slice none 0 0] 28)).frozen? ⟨w.heap.size + 1 + 1, p, none⟩ = false := fun p => World.frozen?_alloc_at _ _ _ p (by simp)
          replace ht := Tm.at_keep (Keeps.all hW) ht
          replace hu := Tm.at_keep (Keeps.all hW) hu
          replace hp0 := (hW.cell (p := ⟨P, 0, none⟩) lP).trans hp0
          replace fp0 := (hW.frozen (p := ⟨P, 0, none⟩) lP).trans fp0
          replace lP := Nat.lt_of_lt_of_le lP hW.size
          have et0 := bt.c0
          have et1 := bt.c1
          have lt := bt.lt
          have eu0 := bu.c0
          have eu1 := bu.c1
          have lu := bu.lt
          have re0 := rb.c0
          have rf0 := rf 0
          have re1 := rb.c1
          have rf1 := rf 1
          have rl := rb.lt
          go_enter Tryd.func16, Tryd.ntmps16
          go_wp2_with fail
          clear et0 et1 lt eu0 eu1 lu re0 rf0 re1 rf1 rl
          have Hw0 : Hid ((((w.alloc (.cells #[.string t.name, .slice ta t.args.length tc] 28)).alloc (.cells #[.string u.name, .slice ua u.args.length uc] 28)).alloc (.cells #[.string ⟨#[]⟩, .slice none 0 0] 28)).heap.size = w.heap.size + 1 + 1 + 1) := by simp [Hid]
          generalize (((w.alloc (.cells #[.string t.name, .slice ta t.args.length tc] 28)).alloc (.cells #[.string u.name, .slice ua u.args.length uc] 28)).alloc (.cells #[.string ⟨#[]⟩, .slice none 0 0] 28)) = w0 at *
          have HZR : Hid (w.heap.size + 1 + 1 < w0.heap.size) := rb.lt
          refine (isVarT_any HNT.out ht).mono ?_
          rintro e w1 ⟨_, rfl, hb, rfl⟩
          replace hW := hW.trans (hb.mono hW.size)
          replace bt := bt.keep hb
          replace ht := Tm.at_keep (Keeps.all hb) ht
          replace bu := bu.keep hb
          replace hu := Tm.at_keep (Keeps.all hb) hu
          replace rf := fun p => (hb.frozen (p := ⟨_, p, none⟩) rb.lt).trans (rf p)
          replace rb := rb.keep hb
          replace hp0 := (hb.cell (p := ⟨P, 0, none⟩) lP).trans hp0
          replace fp0 := (hb.frozen (p := ⟨P, 0, none⟩) lP).trans fp0
          replace lP := Nat.lt_of_lt_of_le lP hb.size
          clear hb
          rw [HN.out]
          have et0 := bt.c0
          have et1 := bt.c1
          have lt := bt.lt
          have eu0 := bu.c0
          have eu1 := bu.c1
          have lu := bu.lt
          have re0 := rb.c0
          have rf0 := rf 0
          have re1 := rb.c1
          have rf1 := rf 1
          have rl := rb.lt
          go_wp2_with fail
          clear et0 et1 lt eu0 eu1 lu re0 rf0 re1 rf1 rl
          refine (isVarT_any HNU.out hu).mono ?_
          rintro e w1 ⟨_, rfl, hb, rfl⟩
          replace hW := hW.trans (hb.mono hW.size)
          replace bt := bt.keep hb
          replace ht := Tm.at_keep (Keeps.all hb) ht
          replace bu := bu.keep hb
          replace hu := Tm.at_keep (Keeps.all hb) hu
          replace rf := fun p => (hb.frozen (p := ⟨_, p, none⟩) rb.lt).trans (rf p)
          replace rb := rb.keep hb
          replace hp0 := (hb.cell (p := ⟨P, 0, none⟩) lP).trans hp0
          replace fp0 := (hb.frozen (p := ⟨P, 0, none⟩) lP).trans fp0
          replace lP := Nat.lt_of_lt_of_le lP hb.size
          clear hb
          rw [HN2.out]
          have et0 := bt.c0
          have et1 := bt.c1
          have lt := bt.lt
          have eu0 := bu.c0
          have eu1 := bu.c1
          have lu := bu.lt
          have re0 := rb.c0
          have rf0 := rf 0
          have re1 := rb.c1
          have rf1 := rf 1
          have rl := rb.lt
          go_wp2_with fail
          clear et0 et1 lt eu0 eu1 lu re0 rf0 re1 rf1 rl
          clear hq hqj
          rename World => wx
          have HBle := hid hBle
          refine (indexPair_any (l := l) (t := t) (u := u) (pr_rd (HV.out.keep hW)) bt bu ht hu).mono ?_
          rintro e wi ⟨_, rfl, hb, rfl⟩
          replace hW := hW.trans (hb.mono hW.size)
          replace bt := bt.keep hb
          replace ht := Tm.at_keep (Keeps.all hb) ht
          replace bu := bu.keep hb
          replace hu := Tm.at_keep (Keeps.all hb) hu
          replace rf := fun p => (hb.frozen (p := ⟨_, p, none⟩) rb.lt).trans (rf p)
          replace rb := rb.keep hb
          replace hp0 := (hb.cell (p := ⟨P, 0, none⟩) lP).trans hp0
          replace fp0 := (hb.frozen (p := ⟨P, 0, none⟩) lP).trans fp0
          replace lP := Nat.lt_of_lt_of_le lP hb.size
          clear hb
          by_cases hin : idxP l t u < l.length
          · have HI : Hid (idxI l t u = (idxP l t u : Int)) := idxI_at hin rfl
            have HRR : Hid (R = (.node (⟨#[71]⟩ ++ itoaB (idxP l t u : Int)) [], l)) := by rw [Hid, HGO.out, genVar, addP, if_pos hin]; rfl
            rw [HI.out]
            obtain ⟨k, Hk⟩ : ∃ k, Hid (idxP l t u = k) := ⟨_, hid rfl⟩
            rw [Hk.out] at hin HRR ⊢
            have hzi := itoaB_size (n := (k : Int)) (by omega) (by omega)
            have g4 : ¬ 9223372036854775807 < 1 + (itoaB (k : Int)).size := by omega
            have hkn : ¬ (k : Int) < 0 := by omega
            have et0 := bt.c0
            have et1 := bt.c1
            have lt := bt.lt
            have eu0 := bu.c0
            have eu1 := bu.c1
            have lu := bu.lt
            have re0 := rb.c0
            have rf0 := rf 0
            have re1 := rb.c1
            have rf1 := rf 1
            have rl := rb.lt
            go_wp2_with fail
            clear et0 et1 lt eu0 eu1 lu re0 rf0 re1 rf1 rl
            refine (itoa_any (n := (k : Int)) (by omega) (by omega) (HTF.out _ (hW.mono HBle.out))).mono ?_
            rintro e w5 ⟨_, rfl, hb, rfl⟩
            replace hW := hW.trans (hb.mono hW.size)
            replace bt := bt.keep hb
            replace ht := Tm.at_keep (Keeps.all hb) ht
            replace bu := bu.keep hb
            replace hu := Tm.at_keep (Keeps.all hb) hu
            replace rf := fun p => (hb.frozen (p := ⟨_, p, none⟩) rb.lt).trans (rf p)
            replace rb := rb.keep hb
            replace hp0 := (hb.cell (p := ⟨P, 0, none⟩) lP).trans hp0
            replace fp0 := (hb.frozen (p := ⟨P, 0, none⟩) lP).trans fp0
            replace lP := Nat.lt_of_lt_of_le lP hb.size
            clear hb
            have et0 := bt.c0
            have et1 := bt.c1
            have lt := bt.lt
            have eu0 := bu.c0
            have eu1 := bu.c1
            have lu := bu.lt
            have re0 := rb.c0
            have rf0 := rf 0
            have re1 := rb.c1
            have rf1 := rf 1
            have rl := rb.lt
            go_wp2_with fail
            refine bodyPost_ret (v := .agg #[.string (⟨#[71]⟩ ++ itoaB (k : Int)), .slice none 0 0]) (by simp [results, Tryd.results16, go_sem, rb.c0, rb.c1]; try rfl) rfl ?_
            have HWF := hid ((hW.setCell (p := ⟨w.heap.size + 1 + 1, 0, none⟩) (by show w.heap.size ≤ w.heap.size + 1 + 1; omega) (.string (⟨#[71]⟩ ++ itoaB (k : Int)))).setCell (p := ⟨w.heap.size + 1 + 1, 1, none⟩) (by show w.heap.size ≤ w.heap.size + 1 + 1; omega) (.slice none 0 0))
            rw [HRR.out]
            exact ⟨.slice none 0 0, [], _, rfl, D.own_nil _ _, by simp, fun y hy => ⟨by simp, HVP.out y hy⟩, HV.out.keep HWF.out, (HWF.out.cell (p := ⟨P, 0, none⟩) HLP0.out).trans HP0.out, (HWF.out.frozen (p := ⟨P, 0, none⟩) HLP0.out).trans HFP0.out, HWF.out.mono HBle.out, KX.of_below HWF.out, Goes.refl _ _⟩
          · have HI : Hid (idxI l t u = -1) := idxI_no (by have := idxP_le l t u; omega)
            have HRR : Hid (R = (.node (⟨#[71]⟩ ++ itoaB (l.length : Int)) [], l ++ [(t, u)])) := by
              have hil : idxP l t u = l.length := by have := idxP_le l t u; omega
              rw [Hid, HGO.out, genVar, addP, hil, if_neg (by omega)]; rfl
            rw [HI.out]
            clear hin
            have hzi := itoaB_size (n := (l.length : Int)) (by omega) (by omega)
            have g4 : ¬ 9223372036854775807 < 1 + (itoaB (l.length : Int)).size := by omega
            obtain ⟨r, Hr⟩ : ∃ r, Hid ((Value.slice va l.length vc).ownBlock = r) := ⟨_, hid rfl⟩
            have HL : Hid (∀ y, r = some y → B ≤ y ∧ y < w.heap.size ∧ y ≠ P) := fun y hy => ⟨(HVL.out y (Hr.out.trans hy)).1, (HVL.out y (Hr.out.trans hy)).2, HVP.out y (Hr.out.trans hy)⟩
            have nP : ¬ r = some P := fun e => (HL.out _ e).2.2 rfl
            have nR : ¬ r = some (w.heap.size + 1 + 1) := fun e => by have := (HL.out _ e).2.1; omega
            have nT : ¬ r = some w.heap.size := fun e => by have := (HL.out _ e).2.1; omega
            have nU : ¬ r = some (w.heap.size + 1) := fun e => by have := (HL.out _ e).2.1; omega
            have HRV := hid (HV.out.keep hW)
            have HNS : Hid (∀ y, (Value.slice va l.length vc).ownBlock = some y → ¬ S y) := fun y hy q => by have h1 := (HVL.out y hy).1; have h2 := HS.out y q; omega
            have HCR : Hid (CellsRd S wi [.string t.name, .slice ta t.args.length tc, .string u.name, .slice ua u.args.length uc] (prCs (t, u))) := ⟨ht.1, ht.2, hu.1, hu.2, trivial⟩
            have hwz := hW.size
            have HWI := hid hW
            have et0 := bt.c0
            have et1 := bt.c1
            have lt := bt.lt
            have eu0 := bu.c0
            have eu1 := bu.c1
            have lu := bu.lt
            have re0 := rb.c0
            have rf0 := rf 0
            have re1 := rb.c1
            have rf1 := rf 1
            have rl := rb.lt
            go_wp2_with fail
            refine region_late (l := [_, _, _, _, _, _, _, _, _, _]) (tl := [_]) (S := fun w1 => (wi).grownBy w1 (r)) (n := 10) rfl rfl (by kernel_rfl) (by kernel_rfl) (grown_of_below ((Below.refl _ _).drew) _) (fun hQL hS => ?_)
            refine late_take (i := 0) (d := some 72) (v := .pointer (some ⟨P, 0, none⟩)) rfl rfl (by kernel_rfl) (by kernel_rfl) (by kernel_rfl) hQL (by rfl) (fun w1 _ => (by go_simp)) hS ?_
            try simp only [Act.put, List.setIfInBounds_toArray, List.set_cons_zero, List.set_cons_succ]
            refine late_take (i := 1) (d := some 73) (v := .pointer (some ⟨P, 0, none⟩)) rfl rfl (by kernel_rfl) (by kernel_rfl) (by kernel_rfl) hQL (by rfl) (fun w1 _ => (by go_simp)) hS ?_
            try simp only [Act.put, List.setIfInBounds_toArray, List.set_cons_zero, List.set_cons_succ]
            refine late_take (i := 2) (d := some 74) (v := .pointer (some ⟨P, 0, none⟩)) rfl rfl (by kernel_rfl) (by kernel_rfl) (by kernel_rfl) hQL (by rfl) (fun w1 _ => (by go_simp)) hS ?_
            try simp only [Act.put, List.setIfInBounds_toArray, List.set_cons_zero, List.set_cons_succ]
            refine late_take (i := 3) (d := some 75) (v := .slice va l.length vc) rfl rfl (by kernel_rfl) (by kernel_rfl) (by kernel_rfl) hQL (by rfl) (fun w1 hS1 => (by obtain ⟨hc, hf⟩ := bcellG hS1; go_simp)) hS ?_
            try simp only [Act.put, List.setIfInBounds_toArray, List.set_cons_zero, List.set_cons_succ]
            refine late_take (i := 4) (d := some 76) (v := .agg #[.string t.name, .slice ta t.args.length tc]) rfl rfl (by kernel_rfl) (by kernel_rfl) (by kernel_rfl) hQL (by rfl) (fun w1 hS1 => (by obtain ⟨hc, hf⟩ := bcellG hS1; go_simp)) hS ?_
            try simp only [Act.put, List.setIfInBounds_toArray, List.set_cons_zero, List.set_cons_succ]
            refine late_take (i := 5) (d := some 77) (v := .agg #[.string u.name, .slice ua u.args.length uc]) rfl rfl (by kernel_rfl) (by kernel_rfl) (by kernel_rfl) hQL (by rfl) (fun w1 hS1 => (by obtain ⟨hc, hf⟩ := bcellG hS1; go_simp)) hS ?_
            try simp only [Act.put, List.setIfInBounds_toArray, List.set_cons_zero, List.set_cons_succ]
            refine late_take (i := 6) (d := some 78) (v := .agg #[.string t.name, .slice ta t.args.length tc, .string u.name, .slice ua u.args.length uc]) rfl rfl (by kernel_rfl) (by kernel_rfl) (by kernel_rfl) hQL (by rfl) (fun w1 _ => (by go_simp)) hS ?_
            try simp only [Act.put, List.setIfInBounds_toArray, List.set_cons_zero, List.set_cons_succ]
            refine wpAnyH_ready (rs := [7]) (by kernel_rfl) (by simp) ?_
            refine AllReadyH.cons rfl (fun K hK => ?_) AllReadyH.nil
            go_simp
            refine hK.out _ _ (World.grownBy.trans hS (World.grownBy_alloc _ _ _)) (fun hS => ?_)
            try show wpAnyH _ _ _ _ _ _ _ (Act.put _ (some 79) _) _
            try simp only [Act.put, List.setIfInBounds_toArray, List.set_cons_zero, List.set_cons_succ]
            refine wpAnyH_ready (rs := [8]) (by kernel_rfl) (by simp) ?_
            refine AllReadyH.cons rfl (fun K hK => ?_) AllReadyH.nil
            have HBN : Hid (Below wi.heap.size wi (wi.drew.alloc (.cells #[.string t.name, .slice ta t.args.length tc, .string u.name, .slice ua u.args.length uc] 52))) := ((Below.refl wi.heap.size wi).drew).alloc (Nat.le_refl _) _
            refine step_append_rv (S := S) (B := B) (k := 1) (off := 0) (news := [.string t.name, .slice ta t.args.length tc, .string u.name, .slice ua u.args.length uc]) (es := prCs (t, u)) Tryd.underlying43 infoPair rfl (by decide) (by decide) rfl _ _ (by rfl) (by rfl) (by rfl) (HRV.out.keep HBN.out) HNS.out rfl (by intro j u hj; rw [Nat.zero_add]; exact (box1 wi.drew _ _ j).trans (by simpa using hj)) (HCR.out.keep (Keeps.all HBN.out)) (by omega) (Nat.le_trans (Nat.le_trans HBle.out HWI.out.size) HBN.out.size) ?_
            intro v2 wg hrow hgr hgo
            obtain ⟨v2a, v2c, rfl, -, -⟩ := hrow.form
            rw [Hr.out] at hgr
            have HRF := hid hrow
            have HGO2 : Hid (Goes wi (.slice va l.length vc) (.slice v2a (l.length + 1) v2c)) := fun y hy => by
              rcases hgo with q | q
              · exact .inl (q.symm.trans hy)
              · right; rw [q] at hy; injection hy with hy; rw [← hy]; exact HBN.out.size
            clear hrow hgo
            refine hK.out _ _ (World.grownBy.trans hS hgr) (fun hS => ?_)
            try show wpAnyH _ _ _ _ _ _ _ (Act.put _ (some 80) _) _
            try simp only [Act.put, List.setIfInBounds_toArray, List.set_cons_zero, List.set_cons_succ]
            refine late_take (i := 9) (d := some 81) (v := .pointer (some ⟨P, 0, none⟩)) rfl rfl (by kernel_rfl) (by kernel_rfl) (by kernel_rfl) hQL (by rfl) (fun w1 _ => (by go_simp)) hS ?_
            try simp only [Act.put, List.setIfInBounds_toArray, List.set_cons_zero, List.set_cons_succ]
            refine wpAnyH_done (by kernel_rfl) ?_ _
            show wpTail _ _ _ _ _
            refine wpTail_step rfl (fun K hK => ?_)
            obtain ⟨hc, hf⟩ := bcellG hS
            go_simp
            refine hK.out _ _ ?_
            try clear hc hf
            refine wpTail_nil ?_
            clear et0 et1 lt eu0 eu1 lu re0 rf0 re1 rf1 rl
            have pg0 := ((bcellG hS).1 P 0 lP nP).trans hp0
            have pf0 := ((bcellG hS).2 P 0 lP nP).trans fp0
            have HGW : Hid (wi.grownBy wg r) := hid hS
            have HZG := hid hS.size
            have HV2 : Hid (∀ y, (Value.slice v2a (l.length + 1) v2c).ownBlock = some y → y ≠ P ∧ B ≤ y ∧ (y < w.heap.size ∨ wi.heap.size ≤ y)) := fun y hy => by
              rcases HGO2.out y hy with q | q
              · exact ⟨HVP.out y q, (HVL.out y q).1, .inl (HVL.out y q).2⟩
              · exact ⟨by omega, by have := HBle.out; omega, .inr q⟩
            have HGS : Hid (wg.grownBy (wg.setCell ⟨P, 0, none⟩ (.slice v2a (l.length + 1) v2c)) (some P)) := grown_setCell wg ⟨P, 0, none⟩ (.slice v2a (l.length + 1) v2c)
            have HKI : Hid (KX P r none wi (wg.setCell ⟨P, 0, none⟩ (.slice v2a (l.length + 1) v2c))) := ((KX.refl P r none wi).grown HGW.out (fun y hy => .inl hy)).grown HGS.out (fun y hy => by injection hy with hy; exact .inr (.inr (.inl hy.symm)))
            have HKS : Hid (KX P r none w (wg.setCell ⟨P, 0, none⟩ (.slice v2a (l.length + 1) v2c))) := ((KX.of_below HWI.out).grown HGW.out (fun y hy => .inl hy)).grown HGS.out (fun y hy => by injection hy with hy; exact .inr (.inr (.inl hy.symm)))
            have HBS : Hid (Below B w (wg.setCell ⟨P, 0, none⟩ (.slice v2a (l.length + 1) v2c))) := ((HWI.out.mono HBle.out).grown HGW.out (by have := HBle.out; omega) (fun y hy => (HL.out y hy).1)).setCell (p := ⟨P, 0, none⟩) HBP.out _
            have hPw := HLP0.out
            have HZI := hid rb.lt
            have rbS := rb.kx HKI.out (by omega) nR (by simp)
            have rfS := fun p => (HKI.out.frozen (b := w.heap.size + 1 + 1) (o := p) rb.lt (by omega) nR (by simp)).trans (rf p)
            have cP : (wg.setCell ⟨P, 0, none⟩ (.slice v2a (l.length + 1) v2c)).cell? ⟨P, 0, none⟩ = some (.slice v2a (l.length + 1) v2c) := World.cell?_setCell_same _ _ _ pg0
            have fP : (wg.setCell ⟨P, 0, none⟩ (.slice v2a (l.length + 1) v2c)).frozen? ⟨P, 0, none⟩ = false := by rw [World.frozen?_setCell]; exact pf0
            have lPS : P < (wg.setCell ⟨P, 0, none⟩ (.slice v2a (l.length + 1) v2c)).heap.size := by rw [World.size_setCell]; have := HZG.out; omega
            have HRS := hid (HRF.out.apart HGS.out (fun y hy e => by injection e with e; exact (HV2.out y hy).1 e.symm) (fun y hy e => by injection e with e; have h1 := HS.out y hy; have h2 := HBP.out; omega))
            have HCP := hid cP
            have HFP := hid fP
            clear hS hW bt bu rb rf ht hu hp0 fp0 pg0 pf0 HGW HGS HKI HRF HRV HCR cP fP lP hwz
            generalize (wg.setCell ⟨P, 0, none⟩ (.slice v2a (l.length + 1) v2c)) = wS at *
            go_wp2_with fail
            refine (itoa_any (n := (l.length : Int)) (by omega) (by omega) (HTF.out _ HBS.out)).mono ?_
            rintro e w6 ⟨_, rfl, hb, rfl⟩
            have rb6 := rbS.keep hb
            have s0 := rb6.c0
            have s1 := rb6.c1
            have sl := rb6.lt
            have t0' := (hb.frozen (p := ⟨w.heap.size + 1 + 1, 0, none⟩) rbS.lt).trans (rfS 0)
            have t1' := (hb.frozen (p := ⟨w.heap.size + 1 + 1, 1, none⟩) rbS.lt).trans (rfS 1)
            have HB6 := hid hb
            have c6 := (hb.cell (p := ⟨P, 0, none⟩) lPS).trans HCP.out
            have f6 := (hb.frozen (p := ⟨P, 0, none⟩) lPS).trans HFP.out
            have HC6 := hid c6
            have HF6 := hid f6
            clear hb c6 f6
            go_wp2_with fail
            refine bodyPost_ret (v := .agg #[.string (⟨#[71]⟩ ++ itoaB (l.length : Int)), .slice none 0 0]) (by simp [results, Tryd.results16, go_sem, s0, s1]; try rfl) rfl ?_
            have HG7 : Hid (w6.grownBy ((w6.setCell ⟨w.heap.size + 1 + 1, 0, none⟩ (.string (⟨#[71]⟩ ++ itoaB (l.length : Int)))).setCell ⟨w.heap.size + 1 + 1, 1, none⟩ (.slice none 0 0)) (some (w.heap.size + 1 + 1))) := World.grownBy.trans (grown_setCell w6 ⟨w.heap.size + 1 + 1, 0, none⟩ _) (grown_setCell _ ⟨w.heap.size + 1 + 1, 1, none⟩ _)
            have hPR : ¬ P = w.heap.size + 1 + 1 := by have := HLP0.out; omega
            rw [HRR.out]
            refine ⟨.slice none 0 0, [], .slice v2a (l.length + 1) v2c, rfl, D.own_nil _ _, by simp, fun y hy => ⟨by simp, (HV2.out y hy).1⟩, ?_, ?_, ?_, ?_, ?_, Goes.trans (Goes.refl w _) HWI.out.size HGO2.out⟩
            · have HF2 := (HRS.out.keep HB6.out).apart HG7.out (fun y hy e => by
                injection e with e
                have h1 := (HV2.out y hy).2.2
                have h2 := HWI.out.size
                have h3 := HZI.out
                omega) (fun y hy e => by injection e with e; have h1 := HS.out y hy; have h2 := HBle.out; omega)
              rw [List.length_append, prCss_snoc]
              exact HF2
            · rw [World.cell?_setCell_other _ _ _ _ (by intro e; injection e with e; omega), World.cell?_setCell_other _ _ _ _ (by intro e; injection e with e; omega)]
              exact HC6.out
            · rw [World.frozen?_setCell, World.frozen?_setCell]; exact HF6.out
            · exact ((HBS.out.trans (HB6.out.mono (by have := HBS.out.size; have := HBle.out; omega))).setCell (p := ⟨w.heap.size + 1 + 1, 0, none⟩) (by show B ≤ w.heap.size + 1 + 1; have := HBle.out; omega) _).setCell (p := ⟨w.heap.size + 1 + 1, 1, none⟩) (by show B ≤ w.heap.size + 1 + 1; have := HBle.out; omega) _
            · rw [Hr.out]
              exact (KX.trans HKS.out (KX.of_below HB6.out)).grown HG7.out (fun y hy => by injection hy with hy; exact .inr (.inr (.inr (by omega))))
      · have HGO : Hid (R = (genVar l t u, addP l t u)) := by rw [Hid, ← HR.out]; exact Tm.gen_out l (fun q => hnn q.2.1)
        have hq := toList_ne hnn
        clear hnn hvt hvu ih
        obtain ⟨rfl, tn, ta, tc, rfl⟩ := Tm.at_form ht
        obtain ⟨rfl, un, ua, uc, rfl⟩ := Tm.at_form hu
        have hW : Below w.heap.size w (((w.alloc (.cells #[.string t.name, .slice ta t.args.length tc] 28)).alloc (.cells #[.string u.name, .slice ua u.args.length uc] 28)).alloc (.cells #[.string ⟨#[]⟩, .slice none 0 0] 28)) := (((Below.refl _ _).alloc (Nat.le_refl _) _).alloc (by simp) _).alloc (by simp; omega) _
        have bt : Box (((w.alloc (.cells #[.string t.name, .slice ta t.args.length tc] 28)).alloc (.cells #[.string u.name, .slice ua u.args.length uc] 28)).alloc (.cells #[.string ⟨#[]⟩, .slice none 0 0] 28)) (w.heap.size) [.string t.name, .slice ta t.args.length tc] := by
          have := (((Box.new w [.string t.name, .slice ta t.args.length tc] 28).alloc (.cells #[.string u.name, .slice ua u.args.length uc] 28)).alloc (.cells #[.string ⟨#[]⟩, .slice none 0 0] 28))
          simpa only [World.size_alloc] using this
        have bu : Box (((w.alloc (.cells #[.string t.name, .slice ta t.args.length tc] 28)).alloc (.cells #[.string u.name, .slice ua u.args.length uc] 28)).alloc (.cells #[.string ⟨#[]⟩, .slice none 0 0] 28)) (w.heap.size + 1) [.string u.name, .slice ua u.args.length uc] := by
          have := ((Box.new (w.alloc (.cells #[.string t.name, .slice ta t.args.length tc] 28)) [.string u.name, .slice ua u.args.length uc] 28).alloc (.cells #[.string ⟨#[]⟩, .slice none 0 0] 28))
          simpa only [World.size_alloc] using this
        have rb : Box (((w.alloc (.cells #[.string t.name, .slice ta t.args.length tc] 28)).alloc (.cells #[.string u.name, .slice ua u.args.length uc] 28)).alloc (.cells #[.string ⟨#[]⟩, .slice none 0 0] 28)) (w.heap.size + 1 + 1) [.string ⟨#[]⟩, .slice none 0 0] := by
          have := (Box.new ((w.alloc (.cells #[.string t.name, .slice ta t.args.length tc] 28)).alloc (.cells #[.string u.name, .slice ua u.args.length uc] 28)) [.string ⟨#[]⟩, .slice none 0 0] 28)
          simpa only [World.size_alloc] using this
        have rf : ∀ p, (((w.alloc (.cells #[.string t.name, .slice ta t.args.length tc] 28)).alloc (.cells #[.string u.name, .slice ua u.args.length uc] 28)).alloc (.cells #[.string ⟨#[]⟩, .slice none 0 0] 28)).frozen? ⟨w.heap.size + 1 + 1, p, none⟩ = false := fun p => World.frozen?_alloc_at _ _ _ p (by simp)
        replace ht := Tm.at_keep (Keeps.all hW) ht
        replace hu := Tm.at_keep (Keeps.all hW) hu
        replace hp0 := (hW.cell (p := ⟨P, 0, none⟩) lP).trans hp0
        replace fp0 := (hW.frozen (p := ⟨P, 0, none⟩) lP).trans fp0
        replace lP := Nat.lt_of_lt_of_le lP hW.size
        have et0 := bt.c0
        have et1 := bt.c1
        have lt := bt.lt
        have eu0 := bu.c0
        have eu1 := bu.c1
        have lu := bu.lt
        have re0 := rb.c0
        have rf0 := rf 0
        have re1 := rb.c1
        have rf1 := rf 1
        have rl := rb.lt
        go_enter Tryd.func16, Tryd.ntmps16
        go_wp2_with fail
        clear et0 et1 lt eu0 eu1 lu re0 rf0 re1 rf1 rl
        have Hw0 : Hid ((((w.alloc (.cells #[.string t.name, .slice ta t.args.length tc] 28)).alloc (.cells #[.string u.name, .slice ua u.args.length uc] 28)).alloc (.cells #[.string ⟨#[]⟩, .slice none 0 0] 28)).heap.size = w.heap.size + 1 + 1 + 1) := by simp [Hid]
        generalize (((w.alloc (.cells #[.string t.name, .slice ta t.args.length tc] 28)).alloc (.cells #[.string u.name, .slice ua u.args.length uc] 28)).alloc (.cells #[.string ⟨#[]⟩, .slice none 0 0] 28)) = w0 at *
        have HZR : Hid (w.heap.size + 1 + 1 < w0.heap.size) := rb.lt
        refine (isVarT_any HNT.out ht).mono ?_
        rintro e w1 ⟨_, rfl, hb, rfl⟩
        replace hW := hW.trans (hb.mono hW.size)
        replace bt := bt.keep hb
        replace ht := Tm.at_keep (Keeps.all hb) ht
        replace bu := bu.keep hb
        replace hu := Tm.at_keep (Keeps.all hb) hu
        replace rf := fun p => (hb.frozen (p := ⟨_, p, none⟩) rb.lt).trans (rf p)
        replace rb := rb.keep hb
        replace hp0 := (hb.cell (p := ⟨P, 0, none⟩) lP).trans hp0
        replace fp0 := (hb.frozen (p := ⟨P, 0, none⟩) lP).trans fp0
        replace lP := Nat.lt_of_lt_of_le lP hb.size
        clear hb
        rw [HN.out]
        have et0 := bt.c0
        have et1 := bt.c1
        have lt := bt.lt
        have eu0 := bu.c0
        have eu1 := bu.c1
        have lu := bu.lt
        have re0 := rb.c0
        have rf0 := rf 0
        have re1 := rb.c1
        have rf1 := rf 1
        have rl := rb.lt
        go_wp2_with fail
        clear et0 et1 lt eu0 eu1 lu re0 rf0 re1 rf1 rl
        refine (isVarT_any HNU.out hu).mono ?_
        rintro e w1 ⟨_, rfl, hb, rfl⟩
        replace hW := hW.trans (hb.mono hW.size)
        replace bt := bt.keep hb
        replace ht := Tm.at_keep (Keeps.all hb) ht
        replace bu := bu.keep hb
        replace hu := Tm.at_keep (Keeps.all hb) hu
        replace rf := fun p => (hb.frozen (p := ⟨_, p, none⟩) rb.lt).trans (rf p)
        replace rb := rb.keep hb
        replace hp0 := (hb.cell (p := ⟨P, 0, none⟩) lP).trans hp0
        replace fp0 := (hb.frozen (p := ⟨P, 0, none⟩) lP).trans fp0
        replace lP := Nat.lt_of_lt_of_le lP hb.size
        clear hb
        rw [HN2.out]
        have et0 := bt.c0
        have et1 := bt.c1
        have lt := bt.lt
        have eu0 := bu.c0
        have eu1 := bu.c1
        have lu := bu.lt
        have re0 := rb.c0
        have rf0 := rf 0
        have re1 := rb.c1
        have rf1 := rf 1
        have rl := rb.lt
        go_wp2_with fail
        clear et0 et1 lt eu0 eu1 lu re0 rf0 re1 rf1 rl
        clear hq
        rename World => wx
        have HBle := hid hBle
        refine (indexPair_any (l := l) (t := t) (u := u) (pr_rd (HV.out.keep hW)) bt bu ht hu).mono ?_
        rintro e wi ⟨_, rfl, hb, rfl⟩
        replace hW := hW.trans (hb.mono hW.size)
        replace bt := bt.keep hb
        replace ht := Tm.at_keep (Keeps.all hb) ht
        replace bu := bu.keep hb
        replace hu := Tm.at_keep (Keeps.all hb) hu
        replace rf := fun p => (hb.frozen (p := ⟨_, p, none⟩) rb.lt).trans (rf p)
        replace rb := rb.keep hb
        replace hp0 := (hb.cell (p := ⟨P, 0, none⟩) lP).trans hp0
        replace fp0 := (hb.frozen (p := ⟨P, 0, none⟩) lP).trans fp0
        replace lP := Nat.lt_of_lt_of_le lP hb.size
        clear hb
        by_cases hin : idxP l t u < l.length
        · have HI : Hid (idxI l t u = (idxP l t u : Int)) := idxI_at hin rfl
          have HRR : Hid (R = (.node (⟨#[71]⟩ ++ itoaB (idxP l t u : Int)) [], l)) := by rw [Hid, HGO.out, genVar, addP, if_pos hin]; rfl
          rw [HI.out]
          obtain ⟨k, Hk⟩ : ∃ k, Hid (idxP l t u = k) := ⟨_, hid rfl⟩
          rw [Hk.out] at hin HRR ⊢
          have hzi := itoaB_size (n := (k : Int)) (by omega) (by omega)
          have g4 : ¬ 9223372036854775807 < 1 + (itoaB (k : Int)).size := by omega
          have hkn : ¬ (k : Int) < 0 := by omega
          have et0 := bt.c0
          have et1 := bt.c1
          have lt := bt.lt
          have eu0 := bu.c0
          have eu1 := bu.c1
          have lu := bu.lt
          have re0 := rb.c0
          have rf0 := rf 0
          have re1 := rb.c1
          have rf1 := rf 1
          have rl := rb.lt
          go_wp2_with fail
          clear et0 et1 lt eu0 eu1 lu re0 rf0 re1 rf1 rl
          refine (itoa_any (n := (k : Int)) (by omega) (by omega) (HTF.out _ (hW.mono HBle.out))).mono ?_
          rintro e w5 ⟨_, rfl, hb, rfl⟩
          replace hW := hW.trans (hb.mono hW.size)
          replace bt := bt.keep hb
          replace ht := Tm.at_keep (Keeps.all hb) ht
          replace bu := bu.keep hb
          replace hu := Tm.at_keep (Keeps.all hb) hu
          replace rf := fun p => (hb.frozen (p := ⟨_, p, none⟩) rb.lt).trans (rf p)
          replace rb := rb.keep hb
          replace hp0 := (hb.cell (p := ⟨P, 0, none⟩) lP).trans hp0
          replace fp0 := (hb.frozen (p := ⟨P, 0, none⟩) lP).trans fp0
          replace lP := Nat.lt_of_lt_of_le lP hb.size
          clear hb
          have et0 := bt.c0
          have et1 := bt.c1
          have lt := bt.lt
          have eu0 := bu.c0
          have eu1 := bu.c1
          have lu := bu.lt
          have re0 := rb.c0
          have rf0 := rf 0
          have re1 := rb.c1
          have rf1 := rf 1
          have rl := rb.lt
          go_wp2_with fail
          refine bodyPost_ret (v := .agg #[.string (⟨#[71]⟩ ++ itoaB (k : Int)), .slice none 0 0]) (by simp [results, Tryd.results16, go_sem, rb.c0, rb.c1]; try rfl) rfl ?_
          have HWF := hid ((hW.setCell (p := ⟨w.heap.size + 1 + 1, 0, none⟩) (by show w.heap.size ≤ w.heap.size + 1 + 1; omega) (.string (⟨#[71]⟩ ++ itoaB (k : Int)))).setCell (p := ⟨w.heap.size + 1 + 1, 1, none⟩) (by show w.heap.size ≤ w.heap.size + 1 + 1; omega) (.slice none 0 0))
          rw [HRR.out]
          exact ⟨.slice none 0 0, [], _, rfl, D.own_nil _ _, by simp, fun y hy => ⟨by simp, HVP.out y hy⟩, HV.out.keep HWF.out, (HWF.out.cell (p := ⟨P, 0, none⟩) HLP0.out).trans HP0.out, (HWF.out.frozen (p := ⟨P, 0, none⟩) HLP0.out).trans HFP0.out, HWF.out.mono HBle.out, KX.of_below HWF.out, Goes.refl _ _⟩
        · have HI : Hid (idxI l t u = -1) := idxI_no (by have := idxP_le l t u; omega)
          have HRR : Hid (R = (.node (⟨#[71]⟩ ++ itoaB (l.length : Int)) [], l ++ [(t, u)])) := by
            have hil : idxP l t u = l.length := by have := idxP_le l t u; omega
            rw [Hid, HGO.out, genVar, addP, hil, if_neg (by omega)]; rfl
          rw [HI.out]
          clear hin
          have hzi := itoaB_size (n := (l.length : Int)) (by omega) (by omega)
          have g4 : ¬ 9223372036854775807 < 1 + (itoaB (l.length : Int)).size := by omega
          obtain ⟨r, Hr⟩ : ∃ r, Hid ((Value.slice va l.length vc).ownBlock = r) := ⟨_, hid rfl⟩
          have HL : Hid (∀ y, r = some y → B ≤ y ∧ y < w.heap.size ∧ y ≠ P) := fun y hy => ⟨(HVL.out y (Hr.out.trans hy)).1, (HVL.out y (Hr.out.trans hy)).2, HVP.out y (Hr.out.trans hy)⟩
          have nP : ¬ r = some P := fun e => (HL.out _ e).2.2 rfl
          have nR : ¬ r = some (w.heap.size + 1 + 1) := fun e => by have := (HL.out _ e).2.1; omega
          have nT : ¬ r = some w.heap.size := fun e => by have := (HL.out _ e).2.1; omega
          have nU : ¬ r = some (w.heap.size + 1) := fun e => by have := (HL.out _ e).2.1; omega
          have HRV := hid (HV.out.keep hW)
          have HNS : Hid (∀ y, (Value.slice va l.length vc).ownBlock = some y → ¬ S y) := fun y hy q => by have h1 := (HVL.out y hy).1; have h2 := HS.out y q; omega
          have HCR : Hid (CellsRd S wi [.string t.name, .slice ta t.args.length tc, .string u.name, .slice ua u.args.length uc] (prCs (t, u))) := ⟨ht.1, ht.2, hu.1, hu.2, trivial⟩
          have hwz := hW.size
          have HWI := hid hW
          have et0 := bt.c0
          have et1 := bt.c1
          have lt := bt.lt
          have eu0 := bu.c0
          have eu1 := bu.c1
          have lu := bu.lt
          have re0 := rb.c0
          have rf0 := rf 0
          have re1 := rb.c1
          have rf1 := rf 1
          have rl := rb.lt
          go_wp2_with fail
          refine region_late (l := [_, _, _, _, _, _, _, _, _, _]) (tl := [_]) (S := fun w1 => (wi).grownBy w1 (r)) (n := 10) rfl rfl (by kernel_rfl) (by kernel_rfl) (grown_of_below ((Below.refl _ _).drew) _) (fun hQL hS => ?_)
          refine late_take (i := 0) (d := some 72) (v := .pointer (some ⟨P, 0, none⟩)) rfl rfl (by kernel_rfl) (by kernel_rfl) (by kernel_rfl) hQL (by rfl) (fun w1 _ => (by go_simp)) hS ?_
          try simp only [Act.put, List.setIfInBounds_toArray, List.set_cons_zero, List.set_cons_succ]
          refine late_take (i := 1) (d := some 73) (v := .pointer (some ⟨P, 0, none⟩)) rfl rfl (by kernel_rfl) (by kernel_rfl) (by kernel_rfl) hQL (by rfl) (fun w1 _ => (by go_simp)) hS ?_
          try simp only [Act.put, List.setIfInBounds_toArray, List.set_cons_zero, List.set_cons_succ]
          refine late_take (i := 2) (d := some 74) (v := .pointer (some ⟨P, 0, none⟩)) rfl rfl (by kernel_rfl) (by kernel_rfl) (by kernel_rfl) hQL (by rfl) (fun w1 _ => (by go_simp)) hS ?_
          try simp only [Act.put, List.setIfInBounds_toArray, List.set_cons_zero, List.set_cons_succ]
          refine late_take (i := 3) (d := some 75) (v := .slice va l.length vc) rfl rfl (by kernel_rfl) (by kernel_rfl) (by kernel_rfl) hQL (by rfl) (fun w1 hS1 => (by obtain ⟨hc, hf⟩ := bcellG hS1; go_simp)) hS ?_
          try simp only [Act.put, List.setIfInBounds_toArray, List.set_cons_zero, List.set_cons_succ]
          refine late_take (i := 4) (d := some 76) (v := .agg #[.string t.name, .slice ta t.args.length tc]) rfl rfl (by kernel_rfl) (by kernel_rfl) (by kernel_rfl) hQL (by rfl) (fun w1 hS1 => (by obtain ⟨hc, hf⟩ := bcellG hS1; go_simp)) hS ?_
          try simp only [Act.put, List.setIfInBounds_toArray, List.set_cons_zero, List.set_cons_succ]
          refine late_take (i := 5) (d := some 77) (v := .agg #[.string u.name, .slice ua u.args.length uc]) rfl rfl (by kernel_rfl) (by kernel_rfl) (by kernel_rfl) hQL (by rfl) (fun w1 hS1 => (by obtain ⟨hc, hf⟩ := bcellG hS1; go_simp)) hS ?_
          try simp only [Act.put, List.setIfInBounds_toArray, List.set_cons_zero, List.set_cons_succ]
          refine late_take (i := 6) (d := some 78) (v := .agg #[.string t.name, .slice ta t.args.length tc, .string u.name, .slice ua u.args.length uc]) rfl rfl (by kernel_rfl) (by kernel_rfl) (by kernel_rfl) hQL (by rfl) (fun w1 _ => (by go_simp)) hS ?_
          try simp only [Act.put, List.setIfInBounds_toArray, List.set_cons_zero, List.set_cons_succ]
          refine wpAnyH_ready (rs := [7]) (by kernel_rfl) (by simp) ?_
          refine AllReadyH.cons rfl (fun K hK => ?_) AllReadyH.nil
          go_simp
          refine hK.out _ _ (World.grownBy.trans hS (World.grownBy_alloc _ _ _)) (fun hS => ?_)
          try show wpAnyH _ _ _ _ _ _ _ (Act.put _ (some 79) _) _
          try simp only [Act.put, List.setIfInBounds_toArray, List.set_cons_zero, List.set_cons_succ]
          refine wpAnyH_ready (rs := [8]) (by kernel_rfl) (by simp) ?_
          refine AllReadyH.cons rfl (fun K hK => ?_) AllReadyH.nil
          have HBN : Hid (Below wi.heap.size wi (wi.drew.alloc (.cells #[.string t.name, .slice ta t.args.length tc, .string u.name, .slice ua u.args.length uc] 52))) := ((Below.refl wi.heap.size wi).drew).alloc (Nat.le_refl _) _
          refine step_append_rv (S := S) (B := B) (k := 1) (off := 0) (news := [.string t.name, .slice ta t.args.length tc, .string u.name, .slice ua u.args.length uc]) (es := prCs (t, u)) Tryd.underlying43 infoPair rfl (by decide) (by decide) rfl _ _ (by rfl) (by rfl) (by rfl) (HRV.out.keep HBN.out) HNS.out rfl (by intro j u hj; rw [Nat.zero_add]; exact (box1 wi.drew _ _ j).trans (by simpa using hj)) (HCR.out.keep (Keeps.all HBN.out)) (by omega) (Nat.le_trans (Nat.le_trans HBle.out HWI.out.size) HBN.out.size) ?_
          intro v2 wg hrow hgr hgo
          obtain ⟨v2a, v2c, rfl, -, -⟩ := hrow.form
          rw [Hr.out] at hgr
          have HRF := hid hrow
          have HGO2 : Hid (Goes wi (.slice va l.length vc) (.slice v2a (l.length + 1) v2c)) := fun y hy => by
            rcases hgo with q | q
            · exact .inl (q.symm.trans hy)
            · right; rw [q] at hy; injection hy with hy; rw [← hy]; exact HBN.out.size
          clear hrow hgo
          refine hK.out _ _ (World.grownBy.trans hS hgr) (fun hS => ?_)
          try show wpAnyH _ _ _ _ _ _ _ (Act.put _ (some 80) _) _
          try simp only [Act.put, List.setIfInBounds_toArray, List.set_cons_zero, List.set_cons_succ]
          refine late_take (i := 9) (d := some 81) (v := .pointer (some ⟨P, 0, none⟩)) rfl rfl (by kernel_rfl) (by kernel_rfl) (by kernel_rfl) hQL (by rfl) (fun w1 _ => (by go_simp)) hS ?_
          try simp only [Act.put, List.setIfInBounds_toArray, List.set_cons_zero, List.set_cons_succ]
          refine wpAnyH_done (by kernel_rfl) ?_ _
          show wpTail _ _ _ _ _
          refine wpTail_step rfl (fun K hK => ?_)
          obtain ⟨hc, hf⟩ := bcellG hS
          go_simp
          refine hK.out _ _ ?_
          try clear hc hf
          refine wpTail_nil ?_
          clear et0 et1 lt eu0 eu1 lu re0 rf0 re1 rf1 rl
          have pg0 := ((bcellG hS).1 P 0 lP nP).trans hp0
          have pf0 := ((bcellG hS).2 P 0 lP nP).trans fp0
          have HGW : Hid (wi.grownBy wg r) := hid hS
          have HZG := hid hS.size
          have HV2 : Hid (∀ y, (Value.slice v2a (l.length + 1) v2c).ownBlock = some y → y ≠ P ∧ B ≤ y ∧ (y < w.heap.size ∨ wi.heap.size ≤ y)) := fun y hy => by
            rcases HGO2.out y hy with q | q
            · exact ⟨HVP.out y q, (HVL.out y q).1, .inl (HVL.out y q).2⟩
            · exact ⟨by omega, by have := HBle.out; omega, .inr q⟩
          have HGS : Hid (wg.grownBy (wg.setCell ⟨P, 0, none⟩ (.slice v2a (l.length + 1) v2c)) (some P)) := grown_setCell wg ⟨P, 0, none⟩ (.slice v2a (l.length + 1) v2c)
          have HKI : Hid (KX P r none wi (wg.setCell ⟨P, 0, none⟩ (.slice v2a (l.length + 1) v2c))) := ((KX.refl P r none wi).grown HGW.out (fun y hy => .inl hy)).grown HGS.out (fun y hy => by injection hy with hy; exact .inr (.inr (.inl hy.symm)))
          have HKS : Hid (KX P r none w (wg.setCell ⟨P, 0, none⟩ (.slice v2a (l.length + 1) v2c))) := ((KX.of_below HWI.out).grown HGW.out (fun y hy => .inl hy)).grown HGS.out (fun y hy => by injection hy with hy; exact .inr (.inr (.inl hy.symm)))
          have HBS : Hid (Below B w (wg.setCell ⟨P, 0, none⟩ (.slice v2a (l.length + 1) v2c))) := ((HWI.out.mono HBle.out).grown HGW.out (by have := HBle.out; omega) (fun y hy => (HL.out y hy).1)).setCell (p := ⟨P, 0, none⟩) HBP.out _
          have hPw := HLP0.out
          have HZI := hid rb.lt
          have rbS := rb.kx HKI.out (by omega) nR (by simp)
          have rfS := fun p => (HKI.out.frozen (b := w.heap.size + 1 + 1) (o := p) rb.lt (by omega) nR (by simp)).trans (rf p)
          have cP : (wg.setCell ⟨P, 0, none⟩ (.slice v2a (l.length + 1) v2c)).cell? ⟨P, 0, none⟩ = some (.slice v2a (l.length + 1) v2c) := World.cell?_setCell_same _ _ _ pg0
          have fP : (wg.setCell ⟨P, 0, none⟩ (.slice v2a (l.length + 1) v2c)).frozen? ⟨P, 0, none⟩ = false := by rw [World.frozen?_setCell]; exact pf0
          have lPS : P < (wg.setCell ⟨P, 0, none⟩ (.slice v2a (l.length + 1) v2c)).heap.size := by rw [World.size_setCell]; have := HZG.out; omega
          have HRS := hid (HRF.out.apart HGS.out (fun y hy e => by injection e with e; exact (HV2.out y hy).1 e.symm) (fun y hy e => by injection e with e; have h1 := HS.out y hy; have h2 := HBP.out; omega))
          have HCP := hid cP
          have HFP := hid fP
          clear hS hW bt bu rb rf ht hu hp0 fp0 pg0 pf0 HGW HGS HKI HRF HRV HCR cP fP lP hwz
          generalize (wg.setCell ⟨P, 0, none⟩ (.slice v2a (l.length + 1) v2c)) = wS at *
          go_wp2_with fail
          refine (itoa_any (n := (l.length : Int)) (by omega) (by omega) (HTF.out _ HBS.out)).mono ?_
          rintro e w6 ⟨_, rfl, hb, rfl⟩
          have rb6 := rbS.keep hb
          have s0 := rb6.c0
          have s1 := rb6.c1
          have sl := rb6.lt
          have t0' := (hb.frozen (p := ⟨w.heap.size + 1 + 1, 0, none⟩) rbS.lt).trans (rfS 0)
          have t1' := (hb.frozen (p := ⟨w.heap.size + 1 + 1, 1, none⟩) rbS.lt).trans (rfS 1)
          have HB6 := hid hb
          have c6 := (hb.cell (p := ⟨P, 0, none⟩) lPS).trans HCP.out
          have f6 := (hb.frozen (p := ⟨P, 0, none⟩) lPS).trans HFP.out
          have HC6 := hid c6
          have HF6 := hid f6
          clear hb c6 f6
          go_wp2_with fail
          refine bodyPost_ret (v := .agg #[.string (⟨#[71]⟩ ++ itoaB (l.length : Int)), .slice none 0 0]) (by simp [results, Tryd.results16, go_sem, s0, s1]; try rfl) rfl ?_
          have HG7 : Hid (w6.grownBy ((w6.setCell ⟨w.heap.size + 1 + 1, 0, none⟩ (.string (⟨#[71]⟩ ++ itoaB (l.length : Int)))).setCell ⟨w.heap.size + 1 + 1, 1, none⟩ (.slice none 0 0)) (some (w.heap.size + 1 + 1))) := World.grownBy.trans (grown_setCell w6 ⟨w.heap.size + 1 + 1, 0, none⟩ _) (grown_setCell _ ⟨w.heap.size + 1 + 1, 1, none⟩ _)
          have hPR : ¬ P = w.heap.size + 1 + 1 := by have := HLP0.out; omega
          rw [HRR.out]
          refine ⟨.slice none 0 0, [], .slice v2a (l.length + 1) v2c, rfl, D.own_nil _ _, by simp, fun y hy => ⟨by simp, (HV2.out y hy).1⟩, ?_, ?_, ?_, ?_, ?_, Goes.trans (Goes.refl w _) HWI.out.size HGO2.out⟩
          · have HF2 := (HRS.out.keep HB6.out).apart HG7.out (fun y hy e => by
              injection e with e
              have h1 := (HV2.out y hy).2.2
              have h2 := HWI.out.size
              have h3 := HZI.out
              omega) (fun y hy e => by injection e with e; have h1 := HS.out y hy; have h2 := HBle.out; omega)
            rw [List.length_append, prCss_snoc]
            exact HF2
          · rw [World.cell?_setCell_other _ _ _ _ (by intro e; injection e with e; omega), World.cell?_setCell_other _ _ _ _ (by intro e; injection e with e; omega)]
            exact HC6.out
          · rw [World.frozen?_setCell, World.frozen?_setCell]; exact HF6.out
          · exact ((HBS.out.trans (HB6.out.mono (by have := HBS.out.size; have := HBle.out; omega))).setCell (p := ⟨w.heap.size + 1 + 1, 0, none⟩) (by show B ≤ w.heap.size + 1 + 1; have := HBle.out; omega) _).setCell (p := ⟨w.heap.size + 1 + 1, 1, none⟩) (by show B ≤ w.heap.size + 1 + 1; have := HBle.out; omega) _
          · rw [Hr.out]
            exact (KX.trans HKS.out (KX.of_below HB6.out)).grown HG7.out (fun y hy => by injection hy with hy; exact .inr (.inr (.inr (by omega))))
theorem genI_any (t : Tm) : GenI t := Tm.ind (fun n ts h => genI_of (.node n ts) h) t
end Go.Proofs.YtooocakkjdhfiaaDoor
