/- Terms are compared: the walk of the program. -/
import Derived.Test.YtglhbaigigdeeaaDoorCw
namespace Go.Proofs.YtglhbaigigdeeaaDoor
set_option maxRecDepth 100000
open Go.RowKit


/-- the value is a slice of the two numbers -/
def TwoInts (x y : Int) (v : Value) (w : World) : Prop := ∃ b, v = .slice (some ⟨b, 0, none⟩) 2 2 ∧ b < w.heap.size ∧ w.cell? ⟨b, 0, none⟩ = some (.int .i64 x) ∧ w.cell? ⟨b, 1, none⟩ = some (.int .i64 y)
theorem TwoInts.stable {x y : Int} {w : World} : ∀ v w1 w2, Below w.heap.size w w1 → Below w1.heap.size w1 w2 → TwoInts x y v w1 → TwoInts x y v w2 :=
  fun _ _ _ _ hb ⟨b, e, hl, h0, h1⟩ => ⟨b, e, Nat.lt_of_lt_of_le hl hb.size, (hb.cell (p := ⟨b, 0, none⟩) hl).trans h0, (hb.cell (p := ⟨b, 1, none⟩) hl).trans h1⟩


theorem isVar_any {t : Tm} (hni : t.nice = true) {S : Nat → Prop} {c0 c1 : Value} {w : World} (hT : Tm.at S w c0 c1 t) : Calls Tryd.prog 38 #[.agg #[c0, c1]] w (Gives w (.bool (varName t.name))) := by
  obtain ⟨h1, h2, _⟩ := (Tm.nice_iff t).1 hni
  have hlt : 0 < t.name.size := h1
  have hbe := byteAt_eq hlt
  have H2 := hid h2
  have hlt0 : (0 : Int) < t.name.size := by omega
  clear h2
  obtain ⟨rfl, hn, a, cap, rfl⟩ := Tm.at_form hT
  have hW : Below w.heap.size w (w.alloc (.cells #[.string t.name, .slice a t.args.length cap] 28)) := (Below.refl _ _).alloc (Nat.le_refl _) _
  have bT : Box (w.alloc (.cells #[.string t.name, .slice a t.args.length cap] 28)) w.heap.size [.string t.name, .slice a t.args.length cap] := Box.new w _ _
  replace hT := Tm.at_keep (Keeps.all hW) hT
  go_enter Tryd.func38, Tryd.ntmps38
  go_wp2_with fail
  generalize (w.alloc (.cells #[.string t.name, .slice a t.args.length cap] 28)) = w0 at *
  refine (isUpper_any (byteAt t.name 0) _).mono ?_
  rintro e w1 ⟨rfl, rfl⟩
  go_wp2_with fail
  go_ret
  exact Gives.mk (ret_bool H2.out) hW

/-- f compares two terms whose names tell by their first bytes -/
def CmpsN (f : FuncId) (t : Tm) : Prop := ∀ ⦃u : Tm⦄ ⦃S : Nat → Prop⦄ ⦃c0 c1 d0 d1 : Value⦄ ⦃w : World⦄, t.nice = true → u.nice = true → Tm.at S w c0 c1 t → Tm.at S w d0 d1 u → Calls Tryd.prog f #[.agg #[c0, c1], .agg #[d0, d1]] w (Gives w (.int .i64 (Tm.cmp t u)))

end Go.Proofs.YtglhbaigigdeeaaDoor
