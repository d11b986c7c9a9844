/- A box that is laid before the value that fills it: terms. -/
import Derived.Test.YtooocakkjdhfiaaDoorMw
import Derived.Test.YtooocakkjdhfiaaDoorHw
namespace Go.Proofs.YtooocakkjdhfiaaDoor
set_option maxRecDepth 100000
open Go.RowKit

/-- a box that is not filled yet -/
def ZBox (w : World) (b : Nat) : Prop := b < w.heap.size ∧ w.cell? ⟨b, 0, none⟩ = some (.string ⟨#[]⟩) ∧ w.cell? ⟨b, 1, none⟩ = some (.slice none 0 0) ∧ w.frozen? ⟨b, 0, none⟩ = false ∧ w.frozen? ⟨b, 1, none⟩ = false
theorem ZBox.keep {w w' : World} {b : Nat} (h : ZBox w b) (hb : Below w.heap.size w w') : ZBox w' b :=
  ⟨Nat.lt_of_lt_of_le h.1 hb.size, (hb.cell (p := ⟨b, 0, none⟩) h.1).trans h.2.1, (hb.cell (p := ⟨b, 1, none⟩) h.1).trans h.2.2.1, (hb.frozen (p := ⟨b, 0, none⟩) h.1).trans h.2.2.2.1, (hb.frozen (p := ⟨b, 1, none⟩) h.1).trans h.2.2.2.2⟩
theorem ZBox.new (w : World) : ZBox (w.alloc (.cells #[.string ⟨#[]⟩, .slice none 0 0] 28)) w.heap.size :=
  ⟨by rw [World.size_alloc]; exact Nat.lt_succ_self _, by rw [box1]; rfl, by rw [box1]; rfl, World.frozen?_alloc_at _ _ _ 0 rfl, World.frozen?_alloc_at _ _ _ 1 rfl⟩
theorem ZBox.notin {w : World} {b : Nat} {F : List Nat} (h : ZBox w b) (hF : ∀ x ∈ F, w.heap.size ≤ x) : b ∉ F := fun q => absurd (hF _ q) (Nat.not_le.2 h.1)
theorem ZBox.fill {w : World} {b : Nat} (h : ZBox w b) (u0 u1 : Value) : b + 1 ≤ ((w.setCell ⟨b, 0, none⟩ u0).setCell ⟨b, 1, none⟩ u1).heap.size ∧ Box ((w.setCell ⟨b, 0, none⟩ u0).setCell ⟨b, 1, none⟩ u1) b [u0, u1] := by
  have hl : b < ((w.setCell ⟨b, 0, none⟩ u0).setCell ⟨b, 1, none⟩ u1).heap.size := by rw [World.size_setCell, World.size_setCell]; exact h.1
  refine ⟨hl, hl, fun i hi => ?_⟩
  match i, hi with
  | 0, _ =>
    rw [World.cell?_setCell_other _ _ _ _ (by intro e; injection e with _ e; cases e)]
    exact World.cell?_setCell_same (u := .string ⟨#[]⟩) _ _ _ h.2.1
  | 1, _ =>
    refine World.cell?_setCell_same (u := .slice none 0 0) _ _ _ ?_
    rw [World.cell?_setCell_other _ _ _ _ (by intro e; injection e with _ e; cases e)]
    exact h.2.2.1
theorem ZBox.fillOwn {w : World} {b : Nat} {v u0 u1 : Value} {d : D} {F : List Nat} (h : D.own w v d F) (hb : b ∉ F) : D.rd (fun _ => True) ((w.setCell ⟨b, 0, none⟩ u0).setCell ⟨b, 1, none⟩ u1) v d :=
  D.rd_mono (fun _ _ => trivial) _ _ (D.own_rd _ _ _ (D.own_keep _ _ _ (((Keeps.refl (· ∈ F) w).setCell (fun q _ => hb q) _).setCell (fun q _ => hb q) _) h))
/-- what a drawn region that lays and fills the box comes to -/
def ZEnd (W : World) (r : Tm) (ok : Bool) (v8 v9 : Value) (wc : World) : Prop := ∃ (b : Nat) (ra : Option Addr) (rc : Nat), v8 = .pointer (some ⟨b, 0, none⟩) ∧ v9 = .bool ok ∧ Hid (b + 1 ≤ wc.heap.size) ∧ Hid (Box wc b [.string r.name, .slice ra r.args.length rc]) ∧ Hid (Tm.at (fun _ => True) wc (.string r.name) (.slice ra r.args.length rc) r) ∧ Below W.heap.size W wc
theorem ZEnd.filled {W x : World} {b : Nat} {r : Tm} {ok : Bool} {a : Option Addr} {c : Nat} {F : List Nat} (zb : ZBox x b) (hB : Below W.heap.size W x) (hb : W.heap.size ≤ b) (hnr : r.name.size ≤ maxLen) (o : D.own x (.slice a r.args.length c) (Tm.sd r.args) F) (hn : b ∉ F) :
    ZEnd W r ok (.pointer (some ⟨b, 0, none⟩)) (.bool ok) ((x.setCell ⟨b, 0, none⟩ (.string r.name)).setCell ⟨b, 1, none⟩ (.slice a r.args.length c)) :=
  ⟨b, a, c, rfl, rfl, hid (zb.fill _ _).1, hid (zb.fill _ _).2, hid ⟨D.rd_str hnr, ZBox.fillOwn o hn⟩, (hB.setCell (p := ⟨b, 0, none⟩) hb _).setCell (p := ⟨b, 1, none⟩) hb _⟩
theorem ZEnd.last {W x : World} {r : Tm} {ok : Bool} {a : Option Addr} {c : Nat} {F : List Nat} (hB : Below W.heap.size W x) (hnr : r.name.size ≤ maxLen) (o : D.own x (.slice a r.args.length c) (Tm.sd r.args) F) :
    ZEnd W r ok (.pointer (some ⟨x.heap.size, 0, none⟩)) (.bool ok) (x.alloc (.cells #[.string r.name, .slice a r.args.length c] 28)) :=
  ⟨x.heap.size, a, c, rfl, rfl, hid (by rw [World.size_alloc]; exact Nat.le_refl _), hid (Box.new x [.string r.name, .slice a r.args.length c] _), hid ⟨D.rd_str hnr, D.rd_keep (Keeps.all ((Below.refl _ _).alloc (Nat.le_refl _) _)) _ _ (D.rd_all (D.own_rd _ _ _ o))⟩, hB.alloc hB.size _⟩
end Go.Proofs.YtooocakkjdhfiaaDoor
