/- Several texts in one file. -/
import Derived.Test.YtooocakkjdhfiaaGreatDoorQ04
import GoSem.Op.String
import Derived.Test.YtooocakkjdhfiaaGreatDoorQ02
import Derived.Test.YtooocakkjdhfiaaGreatDoorQ01
import Derived.Deep.AppendLies
import Derived.Laws.NewBlocks
/- Literals that a call marked are found marked. -/
namespace Go.Proofs.YtooocakkjdhfiaaGreatDoor
set_option maxRecDepth 100000
open Go.RowKit Go.ChangeShapes Go.WideShapes

set_option maxHeartbeats 2000000 in
theorem heldLitS_any (us : List (List Tm)) (k : Nat) {S : Nat → Prop} {v : Value} {w : World} (hk : k + c3 us ≤ 1099511627776) (hr : D.rd S w v (.sl us.length (m3 litHd us k))) :
    Calls Tryz.prog 23 #[v, .int .i64 k] w (Gives w (.int .i64 (k + c3 us : Nat))) := by
  rw [D.rd] at hr
  obtain ⟨a, cap, rfl, hlen, hcap, -, hr⟩ := hr
  unfold big at hlen
  have HR0 := hid hr
  clear hr
  go_enter Tryz.func23, Tryz.ntmps23
  go_wp2_with fail
  go_loopw [1, 5] (fun x i wr => ∃ j : Nat, j ≤ us.length ∧ i = .int .i64 j ∧ x = .int .i64 (k + c3 (us.take j) : Nat) ∧ Below w.heap.size w wr) (fun _ i _ => us.length - (intOf i).toNat)
  case atStart => exact ⟨0, Nat.zero_le _, rfl, by simp [c3], Below.refl _ _⟩
  case round =>
    obtain ⟨j, hj, rfl, rfl, hb⟩ := hrel
    by_cases hlt : j < us.length
    · have hst := c3_take us j hlt
      have hsl := c3_le us (j + 1)
      obtain ⟨g0, g1, g2⟩ := m3_get litHd us k j hlt
      obtain ⟨q, HQ⟩ : ∃ q, Hid (k + c3 (us.take j) = q) := ⟨_, hid rfl⟩
      rw [HQ.out] at g0 g1 g2 ⊢
      have hq : q + 2 + Tm.sizes us[j] ≤ 1099511627776 := by have := HQ.out; omega
      have HE : Hid (q + 2 + Tm.sizes us[j] = k + c3 (us.take (j + 1))) := by have := HQ.out; show _ = _; omega
      have hne : m3 litHd us k ≠ [] := by intro e; rw [e] at g0; simp at g0
      obtain ⟨b, off, rfl, hS, hbl, hrr⟩ := HR0.out hne
      obtain ⟨c0, q0, r0⟩ := D.rds_get hrr g0
      obtain ⟨c1, q1, r1⟩ := D.rds_get hrr g1
      obtain ⟨c2, q2, r2⟩ := D.rds_get hrr g2
      obtain ⟨ts, HTS⟩ : ∃ ts, Hid (Tm.mks us[j] (q + 2) = ts) := ⟨_, hid rfl⟩
      rw [HTS.out] at r2
      obtain ⟨x, xc, rfl, -, -⟩ := Tm.sd_form r2
      obtain rfl : c0 = .bool (decide (q % 3 = 0)) := by rw [litHd, D.rd] at r0; exact r0
      obtain rfl : c1 = .string (bs (mtext (q + 1))) := by rw [D.rd] at r1; exact r1.1
      rw [← Nat.add_assoc] at q1 q2
      replace q0 := (hb.cell (p := ⟨b, off + j * 3, none⟩) hbl).trans q0
      replace q1 := (hb.cell (p := ⟨b, off + j * 3 + 1, none⟩) hbl).trans q1
      replace q2 := (hb.cell (p := ⟨b, off + j * 3 + 2, none⟩) hbl).trans q2
      have q3 := D.rd_keep (Keeps.all hb) _ _ r2
      have hbr : b < wr.heap.size := Nat.lt_of_lt_of_le hbl hb.size
      clear hst hsl g0 g1 g2 hrr r0 r1 r2 hne
      have hpb : (decide (q % 3 = 0)) = ((q : Int) % 3 == 0) := by rw [Bool.eq_iff_iff]; simp; omega
      rw [hpb] at q0
      clear hpb
      have hbr3 := hbr
      have HMT := markText_any (q + 1) (by omega)
      rw [show ((q + 1 : Nat) : Int) = (q : Int) + 1 from by omega] at HMT
      go_wp2_with fail
      clear q0
      refine wp_region_B [fun v _ => v = .slice (some ⟨b, off, none⟩) us.length cap, fun v _ => v = .int .i64 j, fun v _ => v = .pointer (some ⟨b, off + j * 3, none⟩), fun v _ => v = .pointer (some ⟨b, off + j * 3 + 1, none⟩), fun v _ => v = .pointer (some ⟨b, off + j * 3 + 1, none⟩), fun v _ => v = .string (bs (mtext (q + 1))), fun v _ => v = .int .i64 ((q : Int) + 1), fun v _ => v = .string (bs (mtext (q + 1))), fun v _ => v = .bool false] _ (fun V => by simp [putAll, Act.put]; rfl) (by kernel_rfl) (by decide) (by simp) (by kernel_rfl) ?_ ?_ ?_
      · intro F hF
        simp only [List.mem_cons, List.not_mem_nil, or_false] at hF
        rcases hF with rfl | rfl | rfl | rfl | rfl | rfl | rfl | rfl | rfl
        · exact stable_eq
        · exact stable_eq
        · exact stable_eq
        · exact stable_eq
        · exact stable_eq
        · exact stable_eq
        · exact stable_eq
        · exact stable_eq
        · exact stable_eq
      · refine ⟨?_, ?_, ?_, ?_, ?_, ?_, ?_, ?_, ?_, trivial⟩
        · intro V w1 hbR _
          unfold Does
          go_simp
          exact ⟨Below.refl _ _, rfl⟩
        · intro V w1 hbR _
          unfold Does
          go_simp
          exact ⟨Below.refl _ _, rfl⟩
        · intro V w1 hbR ⟨f0, f1, _⟩
          replace f0 : V 0 = .slice (some ⟨b, off, none⟩) us.length cap := f0
          replace f1 : V 1 = .int .i64 j := f1
          unfold Does
          go_simp
          exact ⟨Below.refl _ _, rfl⟩
        · intro V w1 hbR ⟨f2, _⟩
          replace f2 : V 2 = .pointer (some ⟨b, off + j * 3, none⟩) := f2
          unfold Does
          go_simp
          exact ⟨Below.refl _ _, rfl⟩
        · intro V w1 hbR ⟨f3, _⟩
          replace f3 : V 3 = .pointer (some ⟨b, off + j * 3 + 1, none⟩) := f3
          unfold Does
          go_simp
          exact ⟨Below.refl _ _, rfl⟩
        · intro V w1 hbR ⟨f4, _⟩
          replace f4 : V 4 = .pointer (some ⟨b, off + j * 3 + 1, none⟩) := f4
          obtain ⟨hc, hf⟩ := bcell hbR
          try simp only [World.size_alloc, World.size_setCell] at hc hf
          unfold Does
          go_simp
          exact ⟨Below.refl _ _, rfl⟩
        · intro V w1 hbR _
          unfold Does
          go_simp
          exact ⟨Below.refl _ _, rfl⟩
        · intro V w1 hbR ⟨f6, _⟩
          replace f6 : V 6 = .int .i64 ((q : Int) + 1) := f6
          obtain ⟨hc, hf⟩ := bcell hbR
          try simp only [World.size_alloc, World.size_setCell] at hc hf
          unfold Does
          go_simp
          exact HMT w1
        · intro V w1 hbR ⟨f5, f7, _⟩
          replace f5 : V 5 = .string (bs (mtext (q + 1))) := f5
          replace f7 : V 7 = .string (bs (mtext (q + 1))) := f7
          unfold Does
          go_simp
          exact ⟨Below.refl _ _, rfl⟩
      intro V w4 hbR hfR
      obtain ⟨f0, f1, f2, f3, f4, f5, f6, f7, f8, _⟩ := hfR
      replace f0 : V 0 = .slice (some ⟨b, off, none⟩) us.length cap := f0
      replace f1 : V 1 = .int .i64 j := f1
      replace f2 : V 2 = .pointer (some ⟨b, off + j * 3, none⟩) := f2
      replace f3 : V 3 = .pointer (some ⟨b, off + j * 3 + 1, none⟩) := f3
      replace f4 : V 4 = .pointer (some ⟨b, off + j * 3 + 1, none⟩) := f4
      replace f5 : V 5 = .string (bs (mtext (q + 1))) := f5
      replace f6 : V 6 = .int .i64 ((q : Int) + 1) := f6
      replace f7 : V 7 = .string (bs (mtext (q + 1))) := f7
      replace f8 : V 8 = .bool false := f8
      simp only [f0, f1, f2, f3, f4, f5, f6, f7, f8]
      clear f0 f1 f2 f3 f4 f5 f6 f7 f8
      replace hb := hb.trans (hbR.mono hb.size)
      replace q2 := (hbR.cell (p := ⟨b, off + j * 3 + 2, none⟩) hbr3).trans q2
      replace q3 := D.rd_keep (Keeps.all hbR) _ _ q3
      have HR := heldTermS_any us[j] (q + 2) _ (.slice x ts.length xc) w4 (by omega) (by rw [HTS.out]; exact q3)
      rw [show ((q + 2 : Nat) : Int) = (q : Int) + 1 + 1 from by omega] at HR
      clear q1 hbR HMT
      go_wp2_with fail
      refine HR.mono ?_
      rintro e w5 ⟨_, rfl, hb2, rfl⟩
      rw [HE.out]
      clear HR q3 q2
      go_wp2_with fail
      go_roundw
      case rel => exact ⟨j + 1, by omega, by go_num, rfl, hb.trans (hb2.mono hb.size)⟩
      case measure => simp [intOf]; omega
    · obtain rfl : j = us.length := by omega
      go_wp2_with fail
      go_ret
      exact Gives.mk (by rw [List.take_length]; rfl) hb
set_option maxHeartbeats 1000000 in
theorem heldCl_any (ls : List Lit) (k : Nat) {S : Nat → Prop} {v : Value} {w : World} (hk : k + c3 (litAs ls) ≤ 1099511627776) (hr : D.rd S w v (.sl ls.length (m3 litHd (litAs ls) k))) :
    Calls Tryz.prog 11 #[.agg #[v], .int .i64 k] w (Gives w (.int .i64 (k + c3 (litAs ls) : Nat))) := by
  rw [← litAs_length ls] at hr
  obtain ⟨a, cap, rfl⟩ : ∃ a cap, v = .slice a (litAs ls).length cap := by rw [D.rd] at hr; obtain ⟨a, cap, e, _⟩ := hr; exact ⟨a, cap, e⟩
  have hW : Below w.heap.size w (w.alloc (.cells #[.slice a (litAs ls).length cap] 28)) := (Below.refl _ _).alloc (Nat.le_refl _) _
  have hq := heldLitS_any (litAs ls) k hk (D.rd_keep (Keeps.all hW) _ _ hr)
  have h0 : ¬ ((k + c3 (litAs ls) : Nat) : Int) < 0 := by omega
  go_enter Tryz.func11, Tryz.ntmps11
  go_wp2_with fail
  refine hq.mono ?_
  rintro e w1 ⟨_, rfl, hb, rfl⟩
  go_wp2_with fail
  go_ret
  exact Gives.mk rfl (hW.trans (hb.mono hW.size))
/-- the size that a law measures -/
def litBulk (xs : List Lit) : Nat := xs.length + Lit.bulks xs
theorem c3_litBulk (xs : List Lit) : c3 (litAs xs) ≤ 2 * litBulk xs := by
  have := c3_bulk xs
  rw [litBulk]; omega
theorem szLitS_b (xs : List Lit) {S : Nat → Prop} {v : Value} {left : Int} {w : World} (h : D.rd S w v (Lit.sd xs)) (h0 : 0 ≤ left) (h1 : left ≤ 1048576) :
    Calls Tryz.prog 14 #[v, .int .i64 left] w fun e w' => e = .returned (.int .i64 (after (litBulk xs) left)) ∧ Below w.heap.size w w' := szLitS_any xs _ _ _ _ h h0 h1
/-- the value reads as the literals -/
def IsLS (xs : List Lit) (v : Value) (w : World) : Prop := D.rd (fun _ => True) w v (Lit.sd xs)
theorem IsLS.form {xs : List Lit} {v : Value} {w : World} (h : IsLS xs v w) : ∃ a cap, v = .slice a xs.length cap ∧ D.rd (fun _ => True) w (.slice a xs.length cap) (Lit.sd xs) := by
  obtain ⟨a, cap, rfl, _, _⟩ := Lit.sd_form h
  exact ⟨a, cap, rfl, h⟩
theorem IsLS.stable {xs : List Lit} {w : World} : ∀ v w1 w2, Below w.heap.size w w1 → Below w1.heap.size w1 w2 → IsLS xs v w1 → IsLS xs v w2 :=
  fun _ _ _ _ hb h => D.rd_keep (Keeps.all hb) _ _ h
theorem toLitS_is {xs : List Lit} {S : Nat → Prop} {v : Value} {w : World} (h : D.rd S w v (Lit.sd xs)) (hb : litBulk xs ≤ 1048576) : Calls Tryz.prog 18 #[v] w (Yields w (IsLS xs)) :=
  (toLitS_any xs S v w h hb).mono fun _ _ ⟨_, _, he, ho, _, hbl⟩ => ⟨_, he, hbl, D.rd_mono (fun _ _ => trivial) _ _ (D.own_rd _ _ _ ho)⟩
theorem eqLitS_refl {xs : List Lit} {S : Nat → Prop} {v u : Value} {w : World} (h : D.rd S w v (Lit.sd xs)) (k : D.rd S w u (Lit.sd xs)) : Calls Tryz.prog 21 #[v, u] w (Gives w (.bool true)) :=
  (eqLitS_any xs xs S v u w h k).mono fun _ _ ⟨he, hb⟩ => Gives.mk (by rw [he, (Lit.eqbs_iff xs xs).2 rfl]) hb
section
variable {H : Type} {enc' : TypeId × Value → H} {w : World}
theorem open_LiteralS {r : Reach} {b0 : Nat} {v : Value} {d : DataW H} {p : List MemPlace} (hv : Value.okWide Tryz.prog w r b0 22 v) (h : DataW.Trod enc' Tryz.prog w 0 (fun _ => true) true 22 v d p) :
    ∃ xs, D.rd (fun _ => True) w v (Lit.sd xs) := by
  obtain ⟨a, len, cap, rfl⟩ := okWide_slice Tryz.underlying22 hv
  obtain ⟨fuel, hf⟩ := h
  obtain ⟨u, xs, hu, hr⟩ := open_slOf Lit.wide (by decide) Tryz.underlying22 cellsLLiteral (fun m cs' x' _ hx => read_lit m cs' x' hx) hf
  obtain rfl : Value.slice a len cap = u := by simpa [Value.cells] using hu
  exact ⟨xs, hr⟩
end
end Go.Proofs.YtooocakkjdhfiaaGreatDoor
/- A box that is laid before the value that fills it: clauses. -/
namespace Go.Proofs.YtooocakkjdhfiaaGreatDoor
set_option maxRecDepth 100000
open Go.RowKit

/-- a box that is not filled yet -/
def ZBoxC (w : World) (b : Nat) : Prop := b < w.heap.size ∧ w.cell? ⟨b, 0, none⟩ = some (.slice none 0 0) ∧ w.frozen? ⟨b, 0, none⟩ = false
theorem ZBoxC.keep {w w' : World} {b : Nat} (h : ZBoxC w b) (hb : Below w.heap.size w w') : ZBoxC w' b :=
  ⟨Nat.lt_of_lt_of_le h.1 hb.size, (hb.cell (p := ⟨b, 0, none⟩) h.1).trans h.2.1, (hb.frozen (p := ⟨b, 0, none⟩) h.1).trans h.2.2⟩
theorem ZBoxC.new (w : World) : ZBoxC (w.alloc (.cells #[.slice none 0 0] 28)) w.heap.size :=
  ⟨by rw [World.size_alloc]; exact Nat.lt_succ_self _, by rw [box1]; rfl, World.frozen?_alloc_at _ _ _ 0 rfl⟩
theorem ZBoxC.notin {w : World} {b : Nat} {F : List Nat} (h : ZBoxC w b) (hF : ∀ x ∈ F, w.heap.size ≤ x) : b ∉ F := fun q => absurd (hF _ q) (Nat.not_le.2 h.1)
def ZEndC (W : World) (r : Cl) (ok : Bool) (v8 v9 : Value) (wc : World) : Prop := ∃ (b : Nat) (ra : Option Addr) (rc : Nat), v8 = .pointer (some ⟨b, 0, none⟩) ∧ v9 = .bool ok ∧ Hid (b + 1 ≤ wc.heap.size) ∧ Hid (Box wc b [.slice ra r.ls.length rc]) ∧ Hid (Cl.at (fun _ => True) wc (.slice ra r.ls.length rc) r) ∧ Below W.heap.size W wc
theorem ZEndC.filled {W x : World} {b : Nat} {r : Cl} {ok : Bool} {a : Option Addr} {c : Nat} {F : List Nat} (zb : ZBoxC x b) (hB : Below W.heap.size W x) (hb : W.heap.size ≤ b) (o : D.own x (.slice a r.ls.length c) (Lit.sd r.ls) F) (hn : b ∉ F) :
    ZEndC W r ok (.pointer (some ⟨b, 0, none⟩)) (.bool ok) (x.setCell ⟨b, 0, none⟩ (.slice a r.ls.length c)) := by
  have hl : b < (x.setCell ⟨b, 0, none⟩ (.slice a r.ls.length c)).heap.size := by rw [World.size_setCell]; exact zb.1
  refine ⟨b, a, c, rfl, rfl, hid hl, hid ⟨hl, fun i hi => ?_⟩, hid ?_, hB.setCell (p := ⟨b, 0, none⟩) hb _⟩
  · match i, hi with
    | 0, _ => exact World.cell?_setCell_same (u := .slice none 0 0) _ _ _ zb.2.1
  · exact D.rd_mono (fun _ _ => trivial) _ _ (D.own_rd _ _ _ (D.own_keep _ _ _ ((Keeps.refl (· ∈ F) x).setCell (fun q _ => hn q) _) o))
theorem ZEndC.last {W x : World} {r : Cl} {ok : Bool} {a : Option Addr} {c : Nat} {F : List Nat} (hB : Below W.heap.size W x) (o : D.own x (.slice a r.ls.length c) (Lit.sd r.ls) F) :
    ZEndC W r ok (.pointer (some ⟨x.heap.size, 0, none⟩)) (.bool ok) (x.alloc (.cells #[.slice a r.ls.length c] 28)) :=
  ⟨x.heap.size, a, c, rfl, rfl, hid (by rw [World.size_alloc]; exact Nat.le_refl _), hid (Box.new x [.slice a r.ls.length c] _), hid (D.rd_keep (Keeps.all ((Below.refl _ _).alloc (Nat.le_refl _) _)) _ _ (D.rd_all (D.own_rd _ _ _ o))), hB.alloc hB.size _⟩
/-- the same where the result is only known to read in blocks from B on -/
theorem ZEndC.filledR {W x : World} {b B : Nat} {r : Cl} {ok : Bool} {a : Option Addr} {c : Nat} (zb : ZBoxC x b) (hB : Below W.heap.size W x) (hb : W.heap.size ≤ b) (o : D.rd (fun y => B ≤ y) x (.slice a r.ls.length c) (Lit.sd r.ls)) (hn : b < B) :
    ZEndC W r ok (.pointer (some ⟨b, 0, none⟩)) (.bool ok) (x.setCell ⟨b, 0, none⟩ (.slice a r.ls.length c)) := by
  have hl : b < (x.setCell ⟨b, 0, none⟩ (.slice a r.ls.length c)).heap.size := by rw [World.size_setCell]; exact zb.1
  refine ⟨b, a, c, rfl, rfl, hid hl, hid ⟨hl, fun i hi => ?_⟩, hid ?_, hB.setCell (p := ⟨b, 0, none⟩) hb _⟩
  · match i, hi with
    | 0, _ => exact World.cell?_setCell_same (u := .slice none 0 0) _ _ _ zb.2.1
  · exact D.rd_all (D.rd_keep ((Keeps.refl (fun y => B ≤ y) x).setCell (fun q e => by have q' : B ≤ b := q; omega) _) _ _ o)
theorem ZEndC.lastR {W x : World} {B : Nat} {r : Cl} {ok : Bool} {a : Option Addr} {c : Nat} (hB : Below W.heap.size W x) (o : D.rd (fun y => B ≤ y) x (.slice a r.ls.length c) (Lit.sd r.ls)) :
    ZEndC W r ok (.pointer (some ⟨x.heap.size, 0, none⟩)) (.bool ok) (x.alloc (.cells #[.slice a r.ls.length c] 28)) :=
  ⟨x.heap.size, a, c, rfl, rfl, hid (by rw [World.size_alloc]; exact Nat.le_refl _), hid (Box.new x [.slice a r.ls.length c] _), hid (D.rd_keep (Keeps.all ((Below.refl _ _).alloc (Nat.le_refl _) _)) _ _ (D.rd_all o)), hB.alloc hB.size _⟩
end Go.Proofs.YtooocakkjdhfiaaGreatDoor
/- The order of strings, plain. -/
namespace Go.Proofs.YtooocakkjdhfiaaGreatDoor
set_option maxRecDepth 100000

theorem u8_lt_irrefl (a : UInt8) : ¬ a < a := by rw [UInt8.lt_iff_toNat_lt]; omega
theorem u8_tri {a b : UInt8} (h : ¬ a < b) (h' : ¬ b < a) : a = b := by rw [UInt8.lt_iff_toNat_lt] at h h'; exact UInt8.toNat_inj.1 (by omega)
theorem u8_asymm {a b : UInt8} (h : a < b) : ¬ b < a := by rw [UInt8.lt_iff_toNat_lt] at h ⊢; omega

/-- one of two strings is less, or they are one -/
theorem bl_tri : ∀ x y : List UInt8, Op.bytesLess x y = !(Op.bytesLess y x || y == x)
  | [], [] => by simp [Op.bytesLess]
  | [], b :: y => by simp [Op.bytesLess]
  | a :: x, [] => by simp [Op.bytesLess]
  | a :: x, b :: y => by
    have ih := bl_tri x y
    by_cases h : a < b
    · have h2 := u8_asymm h
      have h3 : a ≠ b := fun e => u8_lt_irrefl b (e ▸ h)
      simp [Op.bytesLess, h, h2, h3.symm]
    · by_cases h2 : b < a
      · have h3 : a ≠ b := fun e => u8_lt_irrefl b (e ▸ h2)
        simp [Op.bytesLess, h, h2, h3]
      · have h3 := u8_tri h h2
        subst h3
        simp [Op.bytesLess, h, ih]
theorem bl_irrefl (x : List UInt8) : Op.bytesLess x x = false := by
  have := bl_tri x x
  simpa using this
/-- less in one sense: not less, nor the same, in the other -/
theorem bl_lt {x y : List UInt8} (h : Op.bytesLess x y = true) : Op.bytesLess y x = false ∧ (y == x) = false := by
  have := bl_tri x y
  rw [h] at this
  simpa using this.symm
theorem bl_ge {x y : List UInt8} (h : Op.bytesLess x y = false) : (Op.bytesLess y x || y == x) = true := by
  have := bl_tri x y
  rw [h] at this
  cases h1 : Op.bytesLess y x || y == x
  · rw [h1] at this; exact absurd this (by simp)
  · rfl
end Go.Proofs.YtooocakkjdhfiaaGreatDoor
/- Lists of names: a name is put into its place; the names of variables of a term. Plain. -/
namespace Go.Proofs.YtooocakkjdhfiaaGreatDoor
set_option maxRecDepth 100000
open Go.RowKit

/-- a name is put into an ascending list, unless it is there -/
def putStr : List ByteArray → ByteArray → List ByteArray
  | [], s => [s]
  | x :: l, s => if Op.bytesLess x.toList s.toList = true then x :: putStr l s else if x = s then x :: l else s :: x :: l

theorem putStr_mem (l : List ByteArray) (s m : ByteArray) : m ∈ putStr l s ↔ m = s ∨ m ∈ l := by
  induction l with
  | nil => simp [putStr]
  | cons x l ih =>
    rw [putStr]
    split
    · simp only [List.mem_cons, ih]
      constructor
      · rintro (h | h | h)
        · exact .inr (.inl h)
        · exact .inl h
        · exact .inr (.inr h)
      · rintro (h | h | h)
        · exact .inr (.inl h)
        · exact .inl h
        · exact .inr (.inr h)
    · split
      · rename_i h; subst h; simp
      · simp
theorem putStr_length (l : List ByteArray) (s : ByteArray) : (putStr l s).length ≤ l.length + 1 := by
  induction l with
  | nil => simp [putStr]
  | cons x l ih =>
    rw [putStr]
    split
    · simp; omega
    · split <;> simp
theorem putStr_there {l : List ByteArray} {s : ByteArray} {i : Nat} (hi : i < l.length) (hlt : ∀ j (h : j < i), Op.bytesLess (l[j]'(by omega)).toList s.toList = true) (hge : Op.bytesLess l[i].toList s.toList = false) (he : l[i] = s) : putStr l s = l := by
  induction l generalizing i with
  | nil => exact absurd hi (by simp)
  | cons x l ih =>
    cases i with
    | zero =>
      have hge' : Op.bytesLess x.toList s.toList = false := hge
      have he' : x = s := he
      rw [putStr, if_neg (by rw [hge']; simp), if_pos he']
    | succ i =>
      have h0 : Op.bytesLess x.toList s.toList = true := hlt 0 (by omega)
      rw [putStr, if_pos h0, ih (by simpa using hi) (fun j h => hlt (j + 1) (by omega)) hge he]
theorem putStr_new {l : List ByteArray} {s : ByteArray} {i : Nat} (hi : i ≤ l.length) (hlt : ∀ j (h : j < i), Op.bytesLess (l[j]'(by omega)).toList s.toList = true) (hge : ∀ h : i < l.length, Op.bytesLess l[i].toList s.toList = false ∧ l[i] ≠ s) : putStr l s = l.take i ++ [s] ++ l.drop i := by
  induction l generalizing i with
  | nil => simp [putStr]
  | cons x l ih =>
    cases i with
    | zero =>
      obtain ⟨h1, h2⟩ := hge (by simp)
      have h1' : Op.bytesLess x.toList s.toList = false := h1
      have h2' : x ≠ s := h2
      rw [putStr, if_neg (by rw [h1']; simp), if_neg h2']; simp
    | succ i =>
      have h0 : Op.bytesLess x.toList s.toList = true := hlt 0 (by omega)
      rw [putStr, if_pos h0, ih (by simpa using hi) (fun j h => hlt (j + 1) (by omega)) (fun h => hge (by simpa using h))]
      simp

mutual
/-- the names of a term's variables are put into a list -/
def Tm.into : Tm → List ByteArray → List ByteArray
  | .node n ts, l => if varName n = true then putStr l n else Tm.intos ts l
def Tm.intos : List Tm → List ByteArray → List ByteArray
  | [], l => l
  | t :: ts, l => Tm.intos ts (Tm.into t l)
end
mutual
/-- does the variable occur? -/
def Tm.hasVar (m : ByteArray) : Tm → Prop
  | .node n ts => if varName n = true then n = m else Tm.haveVar m ts
def Tm.haveVar (m : ByteArray) : List Tm → Prop
  | [] => False
  | t :: ts => Tm.hasVar m t ∨ Tm.haveVar m ts
end
theorem Tm.intos_take (ts : List Tm) (l : List ByteArray) (k : Nat) (hk : k < ts.length) : Tm.intos (ts.take (k + 1)) l = Tm.into ts[k] (Tm.intos (ts.take k) l) := by
  induction ts generalizing l k with
  | nil => exact absurd hk (by simp)
  | cons t ts ih =>
    cases k with
    | zero => simp [Tm.intos]
    | succ k => simpa [Tm.intos] using ih (Tm.into t l) k (by simpa using hk)
theorem Tm.into_mem (m : ByteArray) (t : Tm) : ∀ l, m ∈ Tm.into t l ↔ m ∈ l ∨ Tm.hasVar m t := by
  refine Tm.ind (P := fun t => ∀ l, m ∈ Tm.into t l ↔ m ∈ l ∨ Tm.hasVar m t) (fun n ts ih l => ?_) t
  rw [Tm.into, Tm.hasVar]
  split
  · rw [putStr_mem, or_comm, @eq_comm _ m n]
  · have key : ∀ ts : List Tm, (∀ a ∈ ts, ∀ l, m ∈ Tm.into a l ↔ m ∈ l ∨ Tm.hasVar m a) → ∀ l, m ∈ Tm.intos ts l ↔ m ∈ l ∨ Tm.haveVar m ts := by
      intro ts
      induction ts with
      | nil => intro _ l; simp [Tm.intos, Tm.haveVar]
      | cons t ts iht =>
        intro h l
        rw [Tm.intos, Tm.haveVar, iht (fun a ha => h a (by simp [ha])), h t (by simp), or_assoc]
    exact key ts ih l
theorem Tm.into_length (t : Tm) : ∀ l, (Tm.into t l).length ≤ l.length + t.size := by
  refine Tm.ind (P := fun t => ∀ l, (Tm.into t l).length ≤ l.length + t.size) (fun n ts ih l => ?_) t
  rw [Tm.into, Tm.size]
  split
  · have := putStr_length l n; omega
  · have key : ∀ ts : List Tm, (∀ a ∈ ts, ∀ l, (Tm.into a l).length ≤ l.length + a.size) → ∀ l, (Tm.intos ts l).length ≤ l.length + Tm.sizes ts := by
      intro ts
      induction ts with
      | nil => intro _ l; simp [Tm.intos]
      | cons t ts iht =>
        intro h l
        have h0 := h t (by simp) l
        have h1 := iht (fun a ha => h a (by simp [ha])) (Tm.into t l)
        rw [Tm.intos, Tm.sizes]; omega
    have := key ts ih l
    omega
theorem Tm.intos_length (ts : List Tm) : ∀ l, (Tm.intos ts l).length ≤ l.length + Tm.sizes ts := by
  induction ts with
  | nil => intro l; simp [Tm.intos]
  | cons t ts iht =>
    intro l
    have h0 := Tm.into_length t l
    have h1 := iht (Tm.into t l)
    rw [Tm.intos, Tm.sizes]; omega
end Go.Proofs.YtooocakkjdhfiaaGreatDoor
/- Lists of items that grow at their end, of which the call owns all memory. -/
namespace Go.Proofs.YtooocakkjdhfiaaGreatDoor
set_option maxRecDepth 100000
open Go.RowKit

/-- cells own their data, the blocks F among them -/
def OwnsL (w : World) : List Value → List D → List Nat → Prop
  | [], [], F => F = []
  | v :: vs, d :: ds, F => ∃ F1 F2, F = F1 ++ F2 ∧ (∀ x ∈ F1, x ∉ F2) ∧ D.own w v d F1 ∧ OwnsL w vs ds F2
  | _, _, _ => False

theorem OwnsL.length {w : World} : ∀ {vs : List Value} {ds : List D} {F : List Nat}, OwnsL w vs ds F → vs.length = ds.length
  | [], [], _, _ => rfl
  | [], _ :: _, _, h => by rw [OwnsL] at h; exact h.elim; all_goals simp
  | _ :: _, [], _, h => by rw [OwnsL] at h; exact h.elim; all_goals simp
  | v :: vs, d :: ds, F, h => by
    rw [OwnsL] at h
    obtain ⟨F1, F2, _, _, _, h⟩ := h
    simp [OwnsL.length h]
theorem OwnsL.keep {w w' : World} : ∀ {vs : List Value} {ds : List D} {F : List Nat}, OwnsL w vs ds F → Keeps (· ∈ F) w w' → OwnsL w' vs ds F
  | [], [], _, h, _ => by rw [OwnsL] at h ⊢; exact h
  | [], _ :: _, _, h, _ => by rw [OwnsL] at h; exact h.elim; all_goals simp
  | _ :: _, [], _, h, _ => by rw [OwnsL] at h; exact h.elim; all_goals simp
  | v :: vs, d :: ds, F, h, hk => by
    rw [OwnsL] at h ⊢
    obtain ⟨F1, F2, rfl, h1, h2, h3⟩ := h
    exact ⟨F1, F2, rfl, h1, D.own_keep _ _ _ (hk.mono fun x hx => by simp [show x ∈ F1 from hx]) h2, h3.keep (hk.mono fun x hx => by simp [show x ∈ F2 from hx])⟩
theorem OwnsL.lt {w : World} : ∀ {vs : List Value} {ds : List D} {F : List Nat}, OwnsL w vs ds F → ∀ x ∈ F, x < w.heap.size
  | [], [], _, h => by rw [OwnsL] at h; subst h; simp
  | [], _ :: _, _, h => by rw [OwnsL] at h; exact h.elim; all_goals simp
  | _ :: _, [], _, h => by rw [OwnsL] at h; exact h.elim; all_goals simp
  | v :: vs, d :: ds, F, h => by
    rw [OwnsL] at h
    obtain ⟨F1, F2, rfl, h1, h2, h3⟩ := h
    intro x hx
    rcases List.mem_append.1 hx with q | q
    · exact D.own_lt _ _ _ h2 x q
    · exact h3.lt x q
theorem OwnsL.append {w : World} : ∀ {vs : List Value} {ds : List D} {F : List Nat} {us : List Value} {es : List D} {G : List Nat}, OwnsL w vs ds F → OwnsL w us es G → (∀ x ∈ F, x ∉ G) → OwnsL w (vs ++ us) (ds ++ es) (F ++ G)
  | [], [], _, _, _, _, h, k, _ => by rw [OwnsL] at h; subst h; exact k
  | [], _ :: _, _, _, _, _, h, _, _ => by rw [OwnsL] at h; exact h.elim; all_goals simp
  | _ :: _, [], _, _, _, _, h, _, _ => by rw [OwnsL] at h; exact h.elim; all_goals simp
  | v :: vs, d :: ds, F, us, es, G, h, k, hd => by
    rw [OwnsL] at h
    obtain ⟨F1, F2, rfl, h1, h2, h3⟩ := h
    rw [List.cons_append, List.cons_append, OwnsL]
    refine ⟨F1, F2 ++ G, by simp, fun x hx => ?_, h2, h3.append k fun x hx => hd x (by simp [hx])⟩
    rw [List.mem_append]; rintro (q | q)
    · exact h1 x hx q
    · exact hd x (by simp [hx]) q
theorem OwnsL.owns {w : World} {b : Nat} : ∀ {vs : List Value} {ds : List D} {F : List Nat} (off : Nat), OwnsL w vs ds F → (∀ i (h : i < vs.length), w.cell? ⟨b, off + i, none⟩ = some vs[i]) → D.owns w b off ds F
  | [], [], _, _, h, _ => by rw [OwnsL] at h; rw [D.owns]; exact h
  | [], _ :: _, _, _, h, _ => by rw [OwnsL] at h; exact h.elim; all_goals simp
  | _ :: _, [], _, _, h, _ => by rw [OwnsL] at h; exact h.elim; all_goals simp
  | v :: vs, d :: ds, F, off, h, hc => by
    rw [OwnsL] at h
    obtain ⟨F1, F2, rfl, h1, h2, h3⟩ := h
    rw [D.owns]
    refine ⟨F1, F2, rfl, h1, ⟨v, hc 0 (by simp), h2⟩, h3.owns (off + 1) fun i hi => ?_⟩
    have := hc (i + 1) (by simpa using hi)
    rw [show off + (i + 1) = off + 1 + i by omega] at this
    simpa using this
theorem OwnsL.nil (w : World) : OwnsL w [] [] [] := by rw [OwnsL]
theorem OwnsL.cons {w : World} {v : Value} {d : D} {F G : List Nat} {vs : List Value} {ds : List D} (h : D.own w v d F) (k : OwnsL w vs ds G) (hd : ∀ x ∈ F, x ∉ G) : OwnsL w (v :: vs) (d :: ds) (F ++ G) := by
  rw [OwnsL]; exact ⟨F, G, rfl, hd, h, k⟩

/-- a list that grows and that the call owns: items of m cells of type e, its row in a block from B on -/
def Gr (w : World) (B : Nat) (e : TypeId) (m : Nat) (v : Value) (n : Nat) (cs : List D) (F : List Nat) : Prop :=
  ∃ vs, w.ownsRow B e m v n vs ∧ OwnsL w vs cs F ∧ (∀ x ∈ F, B ≤ x) ∧ ∀ x, v.ownBlock = some x → x ∉ F

theorem Gr.nil (w : World) (B : Nat) (e : TypeId) (m : Nat) : Gr w B e m (.slice none 0 0) 0 [] [] := ⟨[], World.ownsRow_nil w B e m, OwnsL.nil w, by simp, by simp⟩
theorem Gr.made {w : World} {B n : Nat} (e : TypeId) (m : Nat) (hn : n = w.heap.size) (hB : B ≤ w.heap.size) : Gr (w.alloc (.cells #[] e)) B e m (.slice (some ⟨n, 0, none⟩) 0 0) 0 [] [] := by
  subst hn
  exact ⟨[], World.ownsRow_made w #[] 0 hB (by decide) (by simp), OwnsL.nil _, by simp, by simp⟩
theorem Gr.keep {w w' : World} {B : Nat} {e : TypeId} {m : Nat} {v : Value} {n : Nat} {cs : List D} {F : List Nat} (h : Gr w B e m v n cs F) (hb : Below w.heap.size w w') : Gr w' B e m v n cs F := by
  obtain ⟨vs, h0, h1, h2, h3⟩ := h
  refine ⟨vs, h0.kept ⟨hb.os, hb.tape, hb.output, hb.size, fun k hk _ => hb.block k hk⟩ (row := none) (by cases v.ownBlock <;> simp), h1.keep (Keeps.all hb), h2, h3⟩
theorem Gr.form {w : World} {B : Nat} {e : TypeId} {m : Nat} {v : Value} {n : Nat} {cs : List D} {F : List Nat} (h : Gr w B e m v n cs F) : ∃ a cap, v = .slice a n cap ∧ n ≤ big ∧ n ≤ cap := by
  obtain ⟨vs, h0, _⟩ := h
  rcases h0.2 with ⟨rfl, h1⟩ | ⟨g, cap, cur, rfl, hb, hg, hc, hm, _⟩
  · exact ⟨none, 0, by rw [h1], by omega, by omega⟩
  · exact ⟨_, cap, rfl, Nat.le_trans hc hm, hc⟩
theorem Gr.lt {w : World} {B : Nat} {e : TypeId} {m : Nat} {v : Value} {n : Nat} {cs : List D} {F : List Nat} (h : Gr w B e m v n cs F) : ∀ k, v.ownBlock = some k → B ≤ k ∧ k < w.heap.size := by
  obtain ⟨vs, h0, _⟩ := h; exact h0.lt
theorem Gr.ltF {w : World} {B : Nat} {e : TypeId} {m : Nat} {v : Value} {n : Nat} {cs : List D} {F : List Nat} (h : Gr w B e m v n cs F) : ∀ x ∈ F, x < w.heap.size := by
  obtain ⟨vs, h0, h1, _⟩ := h; exact h1.lt
theorem Gr.leF {w : World} {B : Nat} {e : TypeId} {m : Nat} {v : Value} {n : Nat} {cs : List D} {F : List Nat} (h : Gr w B e m v n cs F) : ∀ x ∈ F, B ≤ x := by
  obtain ⟨vs, h0, h1, h2, _⟩ := h; exact h2
theorem Gr.cell {w : World} {B : Nat} {e : TypeId} {m : Nat} {g n cap : Nat} {vs : List Value} (h : w.ownsRow B e m (.slice (some ⟨g, 0, none⟩) n cap) n vs) : ∀ i (hi : i < vs.length), w.cell? ⟨g, 0 + i, none⟩ = some vs[i] := by
  rcases h.2 with ⟨h1, _⟩ | ⟨g', cap', cur, e1, hb, hg, hc, hm, hs, htk⟩
  · cases h1
  · injection e1 with e1 _ e2
    injection e1 with e1
    injection e1 with e1
    subst e1
    intro i hi
    rw [World.cell?, Nat.zero_add, hg]
    have : (cur.toList.take (n * m))[i]? = some vs[i] := by rw [htk]; simp
    rw [List.getElem?_take] at this
    split at this
    · simpa using this
    · exact absurd this (by simp)
/-- a grown list is owned as a slice -/
theorem Gr.own {w : World} {B : Nat} {e : TypeId} {m : Nat} {v : Value} {n : Nat} {cs : List D} {F : List Nat} (h : Gr w B e m v n cs F) (hm : 0 < m) : ∃ G, D.own w v (.sl n cs) G ∧ ∀ x ∈ G, B ≤ x := by
  obtain ⟨vs, h0, h1, h2, h3⟩ := h
  have hl := h1.length
  have hn := h0.1
  by_cases hc : cs = []
  · subst hc
    have hv : vs = [] := List.length_eq_zero_iff.1 (by simpa using hl)
    subst hv
    have hn0 : n = 0 := by
      have : n * m = 0 := by simpa using hn.symm
      rcases Nat.mul_eq_zero.1 this with q | q <;> omega
    subst hn0
    rcases h0.2 with ⟨rfl, _⟩ | ⟨g, cap, cur, rfl, _⟩
    · exact ⟨[], D.own_nil _ _, by simp⟩
    · exact ⟨[], D.own_nil _ _, by simp⟩
  · rcases h0.2 with ⟨rfl, h4⟩ | ⟨g, cap, cur, rfl, hb, hg, hcp, hmx, hs, htk⟩
    · subst h4
      have : vs = [] := List.length_eq_zero_iff.1 (by simpa using hn)
      subst this
      exact absurd (List.length_eq_zero_iff.1 (by simpa using hl.symm)) hc
    · refine ⟨g :: F, ?_, fun x hx => ?_⟩
      · rw [D.own]
        exact ⟨_, _, rfl, Nat.le_trans hcp hmx, hcp, fun _ => hc, .inr ⟨hc, g, 0, F, cur, e, rfl, hg, rfl, h3 g rfl, h1.owns 0 (Gr.cell h0)⟩⟩
      · rcases List.mem_cons.1 hx with rfl | hx
        · exact hb
        · exact h2 x hx
theorem keeps_grown {w w' : World} {v : Value} {F : List Nat} (hg : w.grownBy w' v.ownBlock) (h : ∀ x, v.ownBlock = some x → x ∉ F) : Keeps (· ∈ F) w w' :=
  ⟨hg.size, fun b hb hl => hg.block b hl fun e => h b e.symm hb⟩

theorem info_split {P : Program} {e : TypeId} {z : Value} {size bytes : Nat} (hinfo : (P.info? e).map (fun i => (i.zero, i.size, i.bytes)) = some (some z, size, bytes)) : ∃ i, P.info? e = some i ∧ i.zero = some z ∧ i.size = size ∧ i.bytes = bytes := by
  cases h : P.info? e with
  | none => rw [h] at hinfo; cases hinfo
  | some i =>
    rw [h] at hinfo
    injection hinfo with hz
    injection hz with h0 h1; injection h1 with h1 h2
    exact ⟨i, rfl, h0, h1, h2⟩
/-- append(list, item): the item lies in a block of its own -/
theorem run_append_gr {P : Program} {w : World} {B : Nat} {t e ty : TypeId} {m bytes : Nat} {z : Value} (ht : P.underlying t = some (.slice e)) (hinfo : (P.info? e).map (fun i => (i.zero, i.size, i.bytes)) = some (some z, m, bytes)) (hzs : z.cells.size = m) (hm : 0 < m) (hbytes : bytes ≤ 1000)
    {v : Value} {n : Nat} {cs : List D} {F : List Nat} (hrow : Gr w B e m v n cs F) {b : Nat} {news : List Value} {ds : List D} {G : List Nat} (hl : news.length = m) (hcell : ∀ j u, news[j]? = some u → w.cell? ⟨b, j, none⟩ = some u) (h1 : ∀ u ∈ news, u.oneCell' = true)
    (hO : OwnsL w news ds G) (hG : ∀ x ∈ G, B ≤ x) (hd : ∀ x ∈ F, x ∉ G) (hv : ∀ x, v.ownBlock = some x → x ∉ G) (hn : n ≤ 4294967296) (hB : B ≤ w.heap.size) :
    ∃ g cap w', (Builtin.append_ #[t, t] ty #[v, .slice (some ⟨b, 0, none⟩) 1 1]).run P w = .ok (.slice (some ⟨g, 0, none⟩) (n + 1) cap) w' ∧
      Gr w' B e m (.slice (some ⟨g, 0, none⟩) (n + 1) cap) (n + 1) (cs ++ ds) (F ++ G) ∧ w.grownBy w' v.ownBlock ∧ (v.ownBlock = some g ∨ g = w.heap.size) ∧ g < w'.heap.size := by
  obtain ⟨i, hi, hz0, hz1, hz2⟩ := info_split hinfo
  obtain ⟨vs, r0, r1, r2, r3⟩ := hrow
  obtain ⟨g, cap, w', q1, q2, q3, q4, q5⟩ := run_append_lies (P := P) w t ty B e i z m bytes ht hi hz0 hz1 hz2 hzs hm v n vs r0 ⟨b, 0, none⟩ 1 1 news (by rw [hl, Nat.one_mul])
    (fun j u hj => by
      have := hcell j u hj
      unfold Addr.add
      split
      · rename_i h0; subst h0; exact this
      · simpa using this) h1 (by decide) (by unfold maxLen; omega) (Nat.le_trans (Nat.mul_le_mul_left _ hbytes) (by omega)) hB _ rfl
  have hkF := keeps_grown (F := F) q3 r3
  have hkG := keeps_grown (F := G) q3 hv
  refine ⟨g, cap, w', q1, ⟨_, q2, (r1.keep hkF).append (hO.keep hkG) hd, fun x hx => ?_, fun x hx => ?_⟩, q3, q4, q5⟩
  · rcases List.mem_append.1 hx with q | q
    · exact r2 x q
    · exact hG x q
  · simp only [Value.ownBlock, Option.some.injEq] at hx
    subst hx
    rw [List.mem_append]
    rcases q4 with q | q
    · rintro (p | p)
      · exact r3 _ q p
      · exact hv _ q p
    · rintro (p | p)
      · have := r1.lt _ p; omega
      · have := hO.lt _ p; omega
/-- .. at the list of a plain region's operations -/
theorem wpList_append_gr {P : Program} {ops : Array Oper} {rest : List Oper} {o : Oper} {a : Act} {w : World} {Q : Exit → Act → World → Prop} {B : Nat} {t e : TypeId} {m bytes : Nat} {z : Value} (ht : P.underlying t = some (.slice e)) (hinfo : (P.info? e).map (fun i => (i.zero, i.size, i.bytes)) = some (some z, m, bytes)) (hzs : z.cells.size = m) (hm : 0 < m) (hbytes : bytes ≤ 1000)
    (hgd : o.guard = none) (s x : Operand) (ho : o.op = .call { callee := .builtin .append, args := #[s, x], argTypes := #[t, t] })
    {v : Value} {n : Nat} {cs : List D} {F : List Nat} {b : Nat} {news : List Value} {ds : List D} {G : List Nat} (hs : a.eval s = v) (hx : a.eval x = .slice (some ⟨b, 0, none⟩) 1 1) (hrow : Gr w B e m v n cs F) (hl : news.length = m) (hcell : ∀ j u, news[j]? = some u → w.cell? ⟨b, j, none⟩ = some u) (h1 : ∀ u ∈ news, u.oneCell' = true)
    (hO : OwnsL w news ds G) (hG : ∀ x ∈ G, B ≤ x) (hd : ∀ x ∈ F, x ∉ G) (hv : ∀ x, v.ownBlock = some x → x ∉ G) (hn : n ≤ 4294967296) (hB : B ≤ w.heap.size)
    (h : ∀ g cap w', Gr w' B e m (.slice (some ⟨g, 0, none⟩) (n + 1) cap) (n + 1) (cs ++ ds) (F ++ G) → w.grownBy w' v.ownBlock → (v.ownBlock = some g ∨ g = w.heap.size) → g < w'.heap.size → wpList P ops Q rest (a.put o.dst (.slice (some ⟨g, 0, none⟩) (n + 1) cap)) w') : wpList P ops Q (o :: rest) a w := by
  obtain ⟨g, cap, w', hr, h2, h3, h4, h5⟩ := run_append_gr (ty := o.type) ht hinfo hzs hm hbytes hrow hl hcell h1 hO hG hd hv hn hB
  refine wpList_plain hgd fun _ hK => ?_
  unfold Oper.wp execOp
  simp only [ho, resolve, invoke, builtin, Sem.run_bind, Sem.run_pure, Result.andThen_ok, List.map_toArray, List.map_cons, List.map_nil, hs, hx, hr]
  exact hK _ _ (h g cap w' h2 h3 h4 h5)
/-- .. at a step of a region that draws its order -/
theorem step_append_gr {P : Program} {ops : Array Oper} {o : Oper} {a : Act} {w : World} {K : Act → World → Prop} {Q : Exit → Act → World → Prop} {E : Prop} {B : Nat} {t e : TypeId} {m bytes : Nat} {z : Value} (ht : P.underlying t = some (.slice e)) (hinfo : (P.info? e).map (fun i => (i.zero, i.size, i.bytes)) = some (some z, m, bytes)) (hzs : z.cells.size = m) (hm : 0 < m) (hbytes : bytes ≤ 1000)
    (hgd : o.guard = none) (s x : Operand) (ho : o.op = .call { callee := .builtin .append, args := #[s, x], argTypes := #[t, t] })
    {v : Value} {n : Nat} {cs : List D} {F : List Nat} {b : Nat} {news : List Value} {ds : List D} {G : List Nat} (hs : a.eval s = v) (hx : a.eval x = .slice (some ⟨b, 0, none⟩) 1 1) (hrow : Gr w B e m v n cs F) (hl : news.length = m) (hcell : ∀ j u, news[j]? = some u → w.cell? ⟨b, j, none⟩ = some u) (h1 : ∀ u ∈ news, u.oneCell' = true)
    (hO : OwnsL w news ds G) (hG : ∀ x ∈ G, B ≤ x) (hd : ∀ x ∈ F, x ∉ G) (hv : ∀ x, v.ownBlock = some x → x ∉ G) (hn : n ≤ 4294967296) (hB : B ≤ w.heap.size)
    (h : ∀ g cap w', Gr w' B e m (.slice (some ⟨g, 0, none⟩) (n + 1) cap) (n + 1) (cs ++ ds) (F ++ G) → w.grownBy w' v.ownBlock → (v.ownBlock = some g ∨ g = w.heap.size) → g < w'.heap.size → K (a.put o.dst (.slice (some ⟨g, 0, none⟩) (n + 1) cap)) w') :
    if Region.wanted o (yielded ops a.tmps) = true then Oper.wp P o a w K Q else E := by
  have hw : Region.wanted o (yielded ops a.tmps) = true := by simp [Region.wanted, hgd]
  rw [if_pos hw]
  obtain ⟨g, cap, w', hr, h2, h3, h4, h5⟩ := run_append_gr (ty := o.type) ht hinfo hzs hm hbytes hrow hl hcell h1 hO hG hd hv hn hB
  unfold Oper.wp execOp
  simp only [ho, resolve, invoke, builtin, Sem.run_bind, Sem.run_pure, Result.andThen_ok, List.map_toArray, List.map_cons, List.map_nil, hs, hx, hr]
  exact h g cap w' h2 h3 h4 h5
theorem Gr.setCell {w : World} {B : Nat} {e : TypeId} {m : Nat} {v : Value} {n : Nat} {cs : List D} {F : List Nat} (h : Gr w B e m v n cs F) {p : Addr} (hp : p.block < B) (u : Value) : Gr (w.setCell p u) B e m v n cs F := by
  obtain ⟨vs, h0, h1, h2, h3⟩ := h
  refine ⟨vs, h0.kept (row := some p.block) ⟨rfl, rfl, rfl, by simp [World.setCell], fun k hk hne => Below.heap_setCell _ _ _ _ (fun e => hne (by rw [e]))⟩ ?_, h1.keep ((Keeps.refl _ _).setCell (fun q _ => by have := h2 _ q; omega) _), h2, h3⟩
  rcases hv : v.ownBlock with _ | x
  · exact .inl rfl
  · right; intro e; injection e with e; have := (h0.lt x hv).1; omega
/-- behind an append: what the region's world keeps of an elder one -/
theorem below_grown {B : Nat} {W w w' : World} {v : Value} (h : Below B W w) (hg : w.grownBy w' v.ownBlock) (hB : B ≤ w.heap.size) (hv : ∀ k, v.ownBlock = some k → B ≤ k) : Below B W w' := Below.grown h hg hB hv
theorem frz1 (w : World) (c0 : Array Value) (t0 : TypeId) (i n : Nat) (hn : n = w.heap.size) : (w.alloc (.cells c0 t0)).frozen? ⟨n, i, none⟩ = false := World.frozen?_alloc_at c0 t0 n i hn
/-- behind growth: other blocks' cells and marks -/
theorem grown_cell {w w' : World} {v : Value} (hg : w.grownBy w' v.ownBlock) {b : Nat} (hb : b < w.heap.size) (hne : ∀ x, v.ownBlock = some x → x ≠ b) : (∀ o, w'.cell? ⟨b, o, none⟩ = w.cell? ⟨b, o, none⟩) ∧ (∀ o, w'.frozen? ⟨b, o, none⟩ = w.frozen? ⟨b, o, none⟩) := by
  have := hg.block b hb fun e => hne b e.symm rfl
  exact ⟨fun o => World.cell?_of_block (a := ⟨b, o, none⟩) this, fun o => World.frozen?_of_block (a := ⟨b, o, none⟩) this⟩
/-- a step of a region that draws its order, by what it does -/
theorem step_does {P : Program} {ops : Array Oper} {o : Oper} {a : Act} {w : World} {K : Act → World → Prop} {Q : Exit → Act → World → Prop} {E : Prop} (hgd : o.guard = none) (h : Does P o a.eval w fun v w' => K (a.put o.dst v) w') :
    if Region.wanted o (yielded ops a.tmps) = true then Oper.wp P o a w K Q else E := by
  have hw : Region.wanted o (yielded ops a.tmps) = true := by simp [Region.wanted, hgd]
  rw [if_pos hw]
  exact Does.wp h fun _ _ h => h
/-- append(list, src...): the source's cells lie in a row -/
theorem run_append_grs {P : Program} {w : World} {B : Nat} {t e ty : TypeId} {m bytes : Nat} {z : Value} (ht : P.underlying t = some (.slice e)) (hinfo : (P.info? e).map (fun i => (i.zero, i.size, i.bytes)) = some (some z, m, bytes)) (hzs : z.cells.size = m) (hm : 0 < m) (hbytes : bytes ≤ 1000)
    {v : Value} {n : Nat} {cs : List D} {F : List Nat} (hrow : Gr w B e m v n cs F) {b off k c : Nat} {news : List Value} {ds : List D} {G : List Nat} (hl : news.length = k * m) (hcell : ∀ j u, news[j]? = some u → w.cell? ⟨b, off + j, none⟩ = some u) (h1 : ∀ u ∈ news, u.oneCell' = true)
    (hO : OwnsL w news ds G) (hG : ∀ x ∈ G, B ≤ x) (hd : ∀ x ∈ F, x ∉ G) (hv : ∀ x, v.ownBlock = some x → x ∉ G) (hn : n + k ≤ 4294967296) (hB : B ≤ w.heap.size) :
    ∃ v' w', (Builtin.append_ #[t, t] ty #[v, .slice (some ⟨b, off, none⟩) k c]).run P w = .ok v' w' ∧
      Gr w' B e m v' (n + k) (cs ++ ds) (F ++ G) ∧ w.grownBy w' v.ownBlock ∧ (v'.ownBlock = v.ownBlock ∨ v'.ownBlock = some w.heap.size) ∧ (v ≠ .slice none 0 0 → v' ≠ .slice none 0 0) := by
  obtain ⟨i, hi, hz0, hz1, hz2⟩ := info_split hinfo
  obtain ⟨vs, r0, r1, r2, r3⟩ := hrow
  obtain ⟨v', w', q1, q2, q3, q4, q5⟩ := run_append_own_at (P := P) w B t ty e i z m bytes ht hi hz0 hz1 hz2 hzs hm v n vs r0 ⟨b, off, none⟩ k c news hl
    (fun j u hj => by
      have := hcell j u hj
      unfold Addr.add
      split
      · rename_i h0; subst h0; exact this
      · simpa using this) h1 (by unfold maxLen; omega) (Nat.le_trans (Nat.mul_le_mul_left _ hbytes) (by omega)) hB
  have hkF := keeps_grown (F := F) q3 r3
  have hkG := keeps_grown (F := G) q3 hv
  refine ⟨v', w', q1, ⟨_, q2, (r1.keep hkF).append (hO.keep hkG) hd, fun x hx => ?_, fun x hx => ?_⟩, q3, q5, fun hne hn => hne (q4.1 hn).1⟩
  · rcases List.mem_append.1 hx with q | q
    · exact r2 x q
    · exact hG x q
  · rw [List.mem_append]
    rcases q5 with q | q
    · rw [q] at hx
      rintro (p | p)
      · exact r3 _ hx p
      · exact hv _ hx p
    · rw [q] at hx
      injection hx with hx
      rintro (p | p)
      · have := r1.lt _ p; omega
      · have := hO.lt _ p; omega
/-- .. at the list of a plain region's operations -/
theorem wpList_append_grs {P : Program} {ops : Array Oper} {rest : List Oper} {o : Oper} {a : Act} {w : World} {Q : Exit → Act → World → Prop} {B : Nat} {t e : TypeId} {m bytes : Nat} {z : Value} (ht : P.underlying t = some (.slice e)) (hinfo : (P.info? e).map (fun i => (i.zero, i.size, i.bytes)) = some (some z, m, bytes)) (hzs : z.cells.size = m) (hm : 0 < m) (hbytes : bytes ≤ 1000)
    (hgd : o.guard = none) (s x : Operand) (ho : o.op = .call { callee := .builtin .append, args := #[s, x], argTypes := #[t, t] })
    {v : Value} {n : Nat} {cs : List D} {F : List Nat} {b off k c : Nat} {news : List Value} {ds : List D} {G : List Nat} (hs : a.eval s = v) (hx : a.eval x = .slice (some ⟨b, off, none⟩) k c) (hrow : Gr w B e m v n cs F) (hl : news.length = k * m) (hcell : ∀ j u, news[j]? = some u → w.cell? ⟨b, off + j, none⟩ = some u) (h1 : ∀ u ∈ news, u.oneCell' = true)
    (hO : OwnsL w news ds G) (hG : ∀ x ∈ G, B ≤ x) (hd : ∀ x ∈ F, x ∉ G) (hv : ∀ x, v.ownBlock = some x → x ∉ G) (hn : n + k ≤ 4294967296) (hB : B ≤ w.heap.size)
    (h : ∀ v' w', Gr w' B e m v' (n + k) (cs ++ ds) (F ++ G) → w.grownBy w' v.ownBlock → (v'.ownBlock = v.ownBlock ∨ v'.ownBlock = some w.heap.size) → (v ≠ .slice none 0 0 → v' ≠ .slice none 0 0) → wpList P ops Q rest (a.put o.dst v') w') : wpList P ops Q (o :: rest) a w := by
  obtain ⟨v', w', hr, h2, h3, h4, h5⟩ := run_append_grs (ty := o.type) (c := c) ht hinfo hzs hm hbytes hrow hl hcell h1 hO hG hd hv hn hB
  refine wpList_plain hgd fun _ hK => ?_
  unfold Oper.wp execOp
  simp only [ho, resolve, invoke, builtin, Sem.run_bind, Sem.run_pure, Result.andThen_ok, List.map_toArray, List.map_cons, List.map_nil, hs, hx, hr]
  exact hK _ _ (h v' w' h2 h3 h4 h5)
/-- .. at a step of a region that draws its order -/
theorem step_append_grs {P : Program} {ops : Array Oper} {o : Oper} {a : Act} {w : World} {K : Act → World → Prop} {Q : Exit → Act → World → Prop} {E : Prop} {B : Nat} {t e : TypeId} {m bytes : Nat} {z : Value} (ht : P.underlying t = some (.slice e)) (hinfo : (P.info? e).map (fun i => (i.zero, i.size, i.bytes)) = some (some z, m, bytes)) (hzs : z.cells.size = m) (hm : 0 < m) (hbytes : bytes ≤ 1000)
    (hgd : o.guard = none) (s x : Operand) (ho : o.op = .call { callee := .builtin .append, args := #[s, x], argTypes := #[t, t] })
    {v : Value} {n : Nat} {cs : List D} {F : List Nat} {b off k c : Nat} {news : List Value} {ds : List D} {G : List Nat} (hs : a.eval s = v) (hx : a.eval x = .slice (some ⟨b, off, none⟩) k c) (hrow : Gr w B e m v n cs F) (hl : news.length = k * m) (hcell : ∀ j u, news[j]? = some u → w.cell? ⟨b, off + j, none⟩ = some u) (h1 : ∀ u ∈ news, u.oneCell' = true)
    (hO : OwnsL w news ds G) (hG : ∀ x ∈ G, B ≤ x) (hd : ∀ x ∈ F, x ∉ G) (hv : ∀ x, v.ownBlock = some x → x ∉ G) (hn : n + k ≤ 4294967296) (hB : B ≤ w.heap.size)
    (h : ∀ v' w', Gr w' B e m v' (n + k) (cs ++ ds) (F ++ G) → w.grownBy w' v.ownBlock → (v'.ownBlock = v.ownBlock ∨ v'.ownBlock = some w.heap.size) → (v ≠ .slice none 0 0 → v' ≠ .slice none 0 0) → K (a.put o.dst v') w') :
    if Region.wanted o (yielded ops a.tmps) = true then Oper.wp P o a w K Q else E := by
  have hw : Region.wanted o (yielded ops a.tmps) = true := by simp [Region.wanted, hgd]
  rw [if_pos hw]
  obtain ⟨v', w', hr, h2, h3, h4, h5⟩ := run_append_grs (ty := o.type) (c := c) ht hinfo hzs hm hbytes hrow hl hcell h1 hO hG hd hv hn hB
  unfold Oper.wp execOp
  simp only [ho, resolve, invoke, builtin, Sem.run_bind, Sem.run_pure, Result.andThen_ok, List.map_toArray, List.map_cons, List.map_nil, hs, hx, hr]
  exact h v' w' h2 h3 h4 h5
/-- a made row of known cells -/
theorem Gr.lit {w : World} {B N : Nat} (e : TypeId) {m n : Nat} {vs : List Value} {cs : List D} {F : List Nat} (hN : N = w.heap.size) (hB : B ≤ w.heap.size) (hl : vs.length = n * m) (hn : n ≤ maxLen) (h : OwnsL w vs cs F) (hF : ∀ x ∈ F, B ≤ x) :
    Gr (w.alloc (.cells vs.toArray e)) B e m (.slice (some ⟨N, 0, none⟩) n n) n cs F := by
  subst hN
  refine ⟨vs, ⟨hl, .inr ⟨w.heap.size, n, vs.toArray, rfl, hB, heap_alloc_new w _, Nat.le_refl _, hn, by simp [hl], ?_⟩⟩, h.keep ((Keeps.refl _ _).alloc _), hF, fun x hx => ?_⟩
  · simp [← hl]
  · injection hx with hx; subst hx; exact fun q => Nat.lt_irrefl _ (h.lt _ q)
/-- a list that is owned as a slice is a grown one -/
theorem Gr.item {w : World} {B : Nat} {e : TypeId} {m : Nat} {g n cap : Nat} {cs : List D} {F : List Nat} (h : Gr w B e m (.slice (some ⟨g, 0, none⟩) n cap) n cs F) : ∃ vs, vs.length = n * m ∧ (∀ i (hi : i < vs.length), w.cell? ⟨g, 0 + i, none⟩ = some vs[i]) ∧ OwnsL w vs cs F := by
  obtain ⟨vs, h0, h1, _⟩ := h
  exact ⟨vs, h0.1, Gr.cell h0, h1⟩
end Go.Proofs.YtooocakkjdhfiaaGreatDoor
