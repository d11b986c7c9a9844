/- Is a literal valid? -/
import Derived.Test.YtoekonkpephocaaTv
import Derived.Test.YtoekonkpephocaaLit
namespace Go.Proofs.Ytoekonkpephocaa
set_option maxRecDepth 100000
open Go.RowKit

set_option maxHeartbeats 1000000 in
theorem impl_IsValidLiteral {t : Lit} {S : Nat → Prop} {c0 c1 c2 : Value} {w : World} (hT : Lit.at S w c0 c1 c2 t) (hbk : t.bulk ≤ 1048576) : Calls Try.prog 138 #[.agg #[c0, c1, c2]] w (Gives w (.bool t.atom.atom)) := by
  obtain ⟨rfl, rfl, a, cap, rfl⟩ := Lit.at_form hT
  have hW : Below w.heap.size w (w.alloc (.cells #[.bool t.pos, .string t.atom.name, .slice a t.atom.args.length cap] 126)) := (Below.refl _ _).alloc (Nat.le_refl _) _
  have bT : Box (w.alloc (.cells #[.bool t.pos, .string t.atom.name, .slice a t.atom.args.length cap] 126)) w.heap.size [.bool t.pos, .string t.atom.name, .slice a t.atom.args.length cap] := Box.new w _ _
  replace hT := Lit.at_keep (Keeps.all hW) hT
  go_enter Try.func138, Try.ntmps138
  go_wp2_with fail
  generalize (w.alloc (.cells #[.bool t.pos, .string t.atom.name, .slice a t.atom.args.length cap] 126)) = w0 at *
  refine (isValidAtom_any t.atom (Lit.at_atom hT) hbk).mono ?_
  rintro e w1 ⟨_, rfl, hb, rfl⟩
  replace hW := hW.trans (hb.mono hW.size)
  replace bT := bT.keep hb
  replace hT := Lit.at_keep (Keeps.all hb) hT
  clear hb
  have eT0 := bT.c0
  have eT1 := bT.c1
  have eT2 := bT.c2
  have lT := bT.lt
  go_wp2_with fail
  clear eT0 eT1 eT2 lT
  go_ret
  exact Gives.mk rfl hW
end Go.Proofs.Ytoekonkpephocaa
