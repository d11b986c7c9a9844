/-
  NARROWER THAN 'FOR EVERY INPUT', by the rows' own cells (each row's printed sentence says how): FnExactMatchTerms: loops · FnExactIsInstance: loops · FnExactAreVariants: loops.
  DERIVED. THE GIVEN ROWS OF THIS SEAT. 3 by the template 'for every input the law returns true; each argument reads behind the call as it read before'; 0 by the template 'total and deterministic' (their statements: YtglhbaigigdeeaaTotals.lean).
  GIVEN WITH THE SEED: the statements are not yours to turn. If you find one false, say at which input.
  Laid BY PROGRAM, IN A SANDBOX (cutbox-rows.mjs): the forced cells as the released guide's own fill.sh prints them over the translation d7840fd056746ca6… (all of the seat's roots in one cut). By AI agents, Wed Nov 11 2026. No macro, syntax, notation, axiom, sorry.
-/
import Derived.Test.YtglhbaigigdeeaaChecked
import GoSem.Claim
import GoSem.ClaimJoined
import GoSem.ClaimMapViews
import Derived.JoinedTies
import Derived.KernelRfl
namespace Go.Proofs.Ytglhbaigigdeeaa
/- THE CELL 'sum', in the pinned program and in every row, IS THE sha256 OF THE DUMP (.gsa) THAT YtglhbaigigdeeaaProg.lean LOADS. Nothing in Lean hashes anything: it is a label: what it is worth is what the hold of that sum in a sandbox is worth. -/
noncomputable def Try.pinned : Pinned := { name := "ytglhbaigigdeeaa", sum := "d7840fd056746ca6a0597e0f62dcf1f8f6710f1656ba32f52925b0b0986cdd54", checked := Try.checked }
namespace Rows
def none {H : Type} : Left H := { results := [], args := [] }

/-- 'laws.FnExactMatchTerms': WHATEVER THE INPUT: true; the input reads as it did. -/
def fnExactMatchTermsSpec : ChangeSpec := { name := "fnExactMatchTerms", fn := fun _ => fun
  | [d1, d2] => { results := [.lit (.bool true)], args := [d1, d2] }
  | _ => none }
def fnExactMatchTermsRow : OpenClaim := { program := "ytglhbaigigdeeaa", sum := "d7840fd056746ca6a0597e0f62dcf1f8f6710f1656ba32f52925b0b0986cdd54", func := "loop.example/g00892/laws.FnExactMatchTerms", spec := "fnExactMatchTerms", unfollowed := true, recurses := true, loops := true, apart := false }
def FnExactMatchTermsSaid : Prop := fnExactMatchTermsRow.holds Try.pinned (OpenSpec.ofChange fnExactMatchTermsSpec)

/-- ITS FALSE NEIGHBOUR: 'it returns false'. Refute it at one input. -/
def fnExactMatchTermsWrong : ChangeSpec := { name := "fnExactMatchTerms", fn := fun _ => fun
  | [d1, d2] => { results := [.lit (.bool false)], args := [d1, d2] }
  | _ => none }
def FnExactMatchTermsWrongFalsely : Prop := fnExactMatchTermsRow.holds Try.pinned (OpenSpec.ofChange fnExactMatchTermsWrong)

/-- 'laws.FnExactIsInstance': WHATEVER THE INPUT: true; the input reads as it did. -/
def fnExactIsInstanceSpec : ChangeSpec := { name := "fnExactIsInstance", fn := fun _ => fun
  | [d1, d2] => { results := [.lit (.bool true)], args := [d1, d2] }
  | _ => none }
def fnExactIsInstanceRow : OpenClaim := { program := "ytglhbaigigdeeaa", sum := "d7840fd056746ca6a0597e0f62dcf1f8f6710f1656ba32f52925b0b0986cdd54", func := "loop.example/g00892/laws.FnExactIsInstance", spec := "fnExactIsInstance", unfollowed := true, recurses := true, loops := true, apart := false }
def FnExactIsInstanceSaid : Prop := fnExactIsInstanceRow.holds Try.pinned (OpenSpec.ofChange fnExactIsInstanceSpec)

/-- ITS FALSE NEIGHBOUR: 'it returns false'. Refute it at one input. -/
def fnExactIsInstanceWrong : ChangeSpec := { name := "fnExactIsInstance", fn := fun _ => fun
  | [d1, d2] => { results := [.lit (.bool false)], args := [d1, d2] }
  | _ => none }
def FnExactIsInstanceWrongFalsely : Prop := fnExactIsInstanceRow.holds Try.pinned (OpenSpec.ofChange fnExactIsInstanceWrong)

/-- 'laws.FnExactAreVariants': WHATEVER THE INPUT: true; the input reads as it did. -/
def fnExactAreVariantsSpec : ChangeSpec := { name := "fnExactAreVariants", fn := fun _ => fun
  | [d1, d2] => { results := [.lit (.bool true)], args := [d1, d2] }
  | _ => none }
def fnExactAreVariantsRow : OpenClaim := { program := "ytglhbaigigdeeaa", sum := "d7840fd056746ca6a0597e0f62dcf1f8f6710f1656ba32f52925b0b0986cdd54", func := "loop.example/g00892/laws.FnExactAreVariants", spec := "fnExactAreVariants", unfollowed := true, recurses := true, loops := true, apart := false }
def FnExactAreVariantsSaid : Prop := fnExactAreVariantsRow.holds Try.pinned (OpenSpec.ofChange fnExactAreVariantsSpec)

/-- ITS FALSE NEIGHBOUR: 'it returns false'. Refute it at one input. -/
def fnExactAreVariantsWrong : ChangeSpec := { name := "fnExactAreVariants", fn := fun _ => fun
  | [d1, d2] => { results := [.lit (.bool false)], args := [d1, d2] }
  | _ => none }
def FnExactAreVariantsWrongFalsely : Prop := fnExactAreVariantsRow.holds Try.pinned (OpenSpec.ofChange fnExactAreVariantsWrong)

/- THE SECOND FORM. 'bulk': how many values and letters a reading holds, each counted each time it is reached (what is shared counts as often as it is met; a slice's spare places count too). A statement '..UptoSaid' is the law's where the arguments, and the package variables that the reading takes, are together of bulk at most 1048576: NARROWER than '..Said'. Prove '..Said' where nothing that the law and all that it calls make is longer than what came in: it says more and counts as full. Else prove '..UptoSaid'. A law counts once. -/
mutual
def uptoBulk {H : Type} : DataW H → Nat
  | .lit (.string bytes) => bytes.length + 1
  | .lit _ => 1
  | .nil => 1
  | .ptr d => uptoBulk d + 1
  | .slice elems spare => uptoBulkAll elems + uptoBulkAll spare + 1
  | .agg parts => uptoBulkAll parts + 1
  | .iface _ d => uptoBulk d + 1
  | .map entries => uptoBulkEntries entries + 1
  | .held _ => 1
def uptoBulkAll {H : Type} : List (DataW H) → Nat
  | [] => 0
  | d :: r => uptoBulk d + uptoBulkAll r
def uptoBulkEntries {H : Type} : List (Lit × DataW H) → Nat
  | [] => 0
  | x :: r => uptoBulkEntry x + uptoBulkEntries r
def uptoBulkEntry {H : Type} : Lit × DataW H → Nat
  | (.string bytes, d) => bytes.length + uptoBulk d + 1
  | (_, d) => uptoBulk d + 1
 end
def uptoSmall : (H : Type) → List (DataW H) → Bool := fun _ ds => decide (uptoBulkAll ds ≤ 1048576)
def OpenSpec.upto (s : _root_.Go.ChangeSpec) : _root_.Go.OpenSpec := { _root_.Go.OpenSpec.ofChange s with cond := some uptoSmall }

/-- 'laws.FnExactMatchTerms', WHERE WHAT IT READS IS OF BULK AT MOST 1048576: true; the input reads as it did. -/
def fnExactMatchTermsUptoRow : OpenClaim := { program := "ytglhbaigigdeeaa", sum := "d7840fd056746ca6a0597e0f62dcf1f8f6710f1656ba32f52925b0b0986cdd54", func := "loop.example/g00892/laws.FnExactMatchTerms", spec := "fnExactMatchTerms", unfollowed := true, recurses := true, loops := true, apart := false, narrowed := true }
def FnExactMatchTermsUptoSaid : Prop := fnExactMatchTermsUptoRow.holds Try.pinned (OpenSpec.upto fnExactMatchTermsSpec)

/-- 'laws.FnExactIsInstance', WHERE WHAT IT READS IS OF BULK AT MOST 1048576: true; the input reads as it did. -/
def fnExactIsInstanceUptoRow : OpenClaim := { program := "ytglhbaigigdeeaa", sum := "d7840fd056746ca6a0597e0f62dcf1f8f6710f1656ba32f52925b0b0986cdd54", func := "loop.example/g00892/laws.FnExactIsInstance", spec := "fnExactIsInstance", unfollowed := true, recurses := true, loops := true, apart := false, narrowed := true }
def FnExactIsInstanceUptoSaid : Prop := fnExactIsInstanceUptoRow.holds Try.pinned (OpenSpec.upto fnExactIsInstanceSpec)

/-- 'laws.FnExactAreVariants', WHERE WHAT IT READS IS OF BULK AT MOST 1048576: true; the input reads as it did. -/
def fnExactAreVariantsUptoRow : OpenClaim := { program := "ytglhbaigigdeeaa", sum := "d7840fd056746ca6a0597e0f62dcf1f8f6710f1656ba32f52925b0b0986cdd54", func := "loop.example/g00892/laws.FnExactAreVariants", spec := "fnExactAreVariants", unfollowed := true, recurses := true, loops := true, apart := false, narrowed := true }
def FnExactAreVariantsUptoSaid : Prop := fnExactAreVariantsUptoRow.holds Try.pinned (OpenSpec.upto fnExactAreVariantsSpec)

end Rows
end Go.Proofs.Ytglhbaigigdeeaa
