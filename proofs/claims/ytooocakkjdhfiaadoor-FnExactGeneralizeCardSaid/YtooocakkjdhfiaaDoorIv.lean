/- Is a term a variable: the program's. -/
import Derived.Test.YtooocakkjdhfiaaDoorCp
import Derived.Test.YtooocakkjdhfiaaDoorTv
namespace Go.Proofs.YtooocakkjdhfiaaDoor
set_option maxRecDepth 100000
open Go.RowKit

theorem isVarT_any {t : Tm} (hni : t.nice = true) {S : Nat → Prop} {c0 c1 : Value} {w : World} (hT : Tm.at S w c0 c1 t) : Calls Tryd.prog 27 #[.agg #[c0, c1]] w (Gives w (.bool (varName t.name))) := by
  obtain ⟨h1, h2, _⟩ := (Tm.nice_iff t).1 hni
  have hlt : 0 < t.name.size := h1
  have hbe := byteAt_eq hlt
  have H2 := hid h2
  have hlt0 : (0 : Int) < t.name.size := by omega
  clear h2
  obtain ⟨rfl, hn, a, cap, rfl⟩ := Tm.at_form hT
  have hW : Below w.heap.size w (w.alloc (.cells #[.string t.name, .slice a t.args.length cap] 28)) := (Below.refl _ _).alloc (Nat.le_refl _) _
  have bT : Box (w.alloc (.cells #[.string t.name, .slice a t.args.length cap] 28)) w.heap.size [.string t.name, .slice a t.args.length cap] := Box.new w _ _
  replace hT := Tm.at_keep (Keeps.all hW) hT
  go_enter Tryd.func27, Tryd.ntmps27
  go_wp2_with fail
  generalize (w.alloc (.cells #[.string t.name, .slice a t.args.length cap] 28)) = w0 at *
  refine (isUpper_any (byteAt t.name 0) _).mono ?_
  rintro e w1 ⟨rfl, rfl⟩
  go_wp2_with fail
  go_ret
  exact Gives.mk (ret_bool H2.out) hW
end Go.Proofs.YtooocakkjdhfiaaDoor
