/-
  NARROWER THAN 'FOR EVERY INPUT', by the rows' own cells (each row's printed sentence says how): FnExactEqualTerms: loops · FnExactIsValidTerm: loops · FnExactIsValidAtom: loops · FnExactTermDepth: loops · FnExactTermSize: loops · FnExactIsValidLiteral: loops · FnExactCountSymbol: loops · FnExactOccursIn: loops · FnExactCompareTerms: loops · FnExactCompareLiterals: loops · FnExactIsValidSubstitution: loops · FnExactIsValidFormula: loops.
  DERIVED. THE GIVEN ROWS OF THIS SEAT. 12 by the template 'for every input the law returns true; each argument reads behind the call as it read before'; 0 by the template 'total and deterministic' (their statements: YtbbagaiolmbcnaaTotals.lean).
  GIVEN WITH THE SEED: the statements are not yours to turn. If you find one false, say at which input.
  Laid BY PROGRAM, IN A SANDBOX (cutbox-rows.mjs): the forced cells as the released guide's own fill.sh prints them over the translation b54538a2830f9885… (all of the seat's roots in one cut). By AI agents, Wed Nov 11 2026. No macro, syntax, notation, axiom, sorry.
-/
import Derived.Test.YtbbagaiolmbcnaaChecked
import GoSem.Claim
import GoSem.ClaimJoined
import GoSem.ClaimMapViews
import Derived.JoinedTies
import Derived.KernelRfl
namespace Go.Proofs.Ytbbagaiolmbcnaa
/- THE CELL 'sum', in the pinned program and in every row, IS THE sha256 OF THE DUMP (.gsa) THAT YtbbagaiolmbcnaaProg.lean LOADS. Nothing in Lean hashes anything: it is a label: what it is worth is what the hold of that sum in a sandbox is worth. -/
noncomputable def Try.pinned : Pinned := { name := "ytbbagaiolmbcnaa", sum := "b54538a2830f9885715a5149fac3caf4d5b70ef63e2b2cf8fa1aa69c173a6185", checked := Try.checked }
namespace Rows
def none {H : Type} : Left H := { results := [], args := [] }

/-- 'laws.FnExactEqualTerms': WHATEVER THE INPUT: true; the input reads as it did. -/
def fnExactEqualTermsSpec : ChangeSpec := { name := "fnExactEqualTerms", fn := fun _ => fun
  | [d1, d2] => { results := [.lit (.bool true)], args := [d1, d2] }
  | _ => none }
def fnExactEqualTermsRow : OpenClaim := { program := "ytbbagaiolmbcnaa", sum := "b54538a2830f9885715a5149fac3caf4d5b70ef63e2b2cf8fa1aa69c173a6185", func := "loop.example/g00892/laws.FnExactEqualTerms", spec := "fnExactEqualTerms", unfollowed := true, recurses := true, loops := true, apart := false }
def FnExactEqualTermsSaid : Prop := fnExactEqualTermsRow.holds Try.pinned (OpenSpec.ofChange fnExactEqualTermsSpec)

/-- ITS FALSE NEIGHBOUR: 'it returns false'. Refute it at one input. -/
def fnExactEqualTermsWrong : ChangeSpec := { name := "fnExactEqualTerms", fn := fun _ => fun
  | [d1, d2] => { results := [.lit (.bool false)], args := [d1, d2] }
  | _ => none }
def FnExactEqualTermsWrongFalsely : Prop := fnExactEqualTermsRow.holds Try.pinned (OpenSpec.ofChange fnExactEqualTermsWrong)

/-- 'laws.FnExactIsValidTerm': WHATEVER THE INPUT: true; the input reads as it did. -/
def fnExactIsValidTermSpec : ChangeSpec := { name := "fnExactIsValidTerm", fn := fun _ => fun
  | [d] => { results := [.lit (.bool true)], args := [d] }
  | _ => none }
def fnExactIsValidTermRow : OpenClaim := { program := "ytbbagaiolmbcnaa", sum := "b54538a2830f9885715a5149fac3caf4d5b70ef63e2b2cf8fa1aa69c173a6185", func := "loop.example/g00892/laws.FnExactIsValidTerm", spec := "fnExactIsValidTerm", unfollowed := true, recurses := true, loops := true, apart := false }
def FnExactIsValidTermSaid : Prop := fnExactIsValidTermRow.holds Try.pinned (OpenSpec.ofChange fnExactIsValidTermSpec)

/-- ITS FALSE NEIGHBOUR: 'it returns false'. Refute it at one input. -/
def fnExactIsValidTermWrong : ChangeSpec := { name := "fnExactIsValidTerm", fn := fun _ => fun
  | [d] => { results := [.lit (.bool false)], args := [d] }
  | _ => none }
def FnExactIsValidTermWrongFalsely : Prop := fnExactIsValidTermRow.holds Try.pinned (OpenSpec.ofChange fnExactIsValidTermWrong)

/-- 'laws.FnExactIsValidAtom': WHATEVER THE INPUT: true; the input reads as it did. -/
def fnExactIsValidAtomSpec : ChangeSpec := { name := "fnExactIsValidAtom", fn := fun _ => fun
  | [d] => { results := [.lit (.bool true)], args := [d] }
  | _ => none }
def fnExactIsValidAtomRow : OpenClaim := { program := "ytbbagaiolmbcnaa", sum := "b54538a2830f9885715a5149fac3caf4d5b70ef63e2b2cf8fa1aa69c173a6185", func := "loop.example/g00892/laws.FnExactIsValidAtom", spec := "fnExactIsValidAtom", unfollowed := true, recurses := true, loops := true, apart := false }
def FnExactIsValidAtomSaid : Prop := fnExactIsValidAtomRow.holds Try.pinned (OpenSpec.ofChange fnExactIsValidAtomSpec)

/-- ITS FALSE NEIGHBOUR: 'it returns false'. Refute it at one input. -/
def fnExactIsValidAtomWrong : ChangeSpec := { name := "fnExactIsValidAtom", fn := fun _ => fun
  | [d] => { results := [.lit (.bool false)], args := [d] }
  | _ => none }
def FnExactIsValidAtomWrongFalsely : Prop := fnExactIsValidAtomRow.holds Try.pinned (OpenSpec.ofChange fnExactIsValidAtomWrong)

/-- 'laws.FnExactTermDepth': WHATEVER THE INPUT: true; the input reads as it did. -/
def fnExactTermDepthSpec : ChangeSpec := { name := "fnExactTermDepth", fn := fun _ => fun
  | [d] => { results := [.lit (.bool true)], args := [d] }
  | _ => none }
def fnExactTermDepthRow : OpenClaim := { program := "ytbbagaiolmbcnaa", sum := "b54538a2830f9885715a5149fac3caf4d5b70ef63e2b2cf8fa1aa69c173a6185", func := "loop.example/g00892/laws.FnExactTermDepth", spec := "fnExactTermDepth", unfollowed := true, recurses := true, loops := true, apart := false }
def FnExactTermDepthSaid : Prop := fnExactTermDepthRow.holds Try.pinned (OpenSpec.ofChange fnExactTermDepthSpec)

/-- ITS FALSE NEIGHBOUR: 'it returns false'. Refute it at one input. -/
def fnExactTermDepthWrong : ChangeSpec := { name := "fnExactTermDepth", fn := fun _ => fun
  | [d] => { results := [.lit (.bool false)], args := [d] }
  | _ => none }
def FnExactTermDepthWrongFalsely : Prop := fnExactTermDepthRow.holds Try.pinned (OpenSpec.ofChange fnExactTermDepthWrong)

/-- 'laws.FnExactTermSize': WHATEVER THE INPUT: true; the input reads as it did. -/
def fnExactTermSizeSpec : ChangeSpec := { name := "fnExactTermSize", fn := fun _ => fun
  | [d] => { results := [.lit (.bool true)], args := [d] }
  | _ => none }
def fnExactTermSizeRow : OpenClaim := { program := "ytbbagaiolmbcnaa", sum := "b54538a2830f9885715a5149fac3caf4d5b70ef63e2b2cf8fa1aa69c173a6185", func := "loop.example/g00892/laws.FnExactTermSize", spec := "fnExactTermSize", unfollowed := true, recurses := true, loops := true, apart := false }
def FnExactTermSizeSaid : Prop := fnExactTermSizeRow.holds Try.pinned (OpenSpec.ofChange fnExactTermSizeSpec)

/-- ITS FALSE NEIGHBOUR: 'it returns false'. Refute it at one input. -/
def fnExactTermSizeWrong : ChangeSpec := { name := "fnExactTermSize", fn := fun _ => fun
  | [d] => { results := [.lit (.bool false)], args := [d] }
  | _ => none }
def FnExactTermSizeWrongFalsely : Prop := fnExactTermSizeRow.holds Try.pinned (OpenSpec.ofChange fnExactTermSizeWrong)

/-- 'laws.FnExactIsValidLiteral': WHATEVER THE INPUT: true; the input reads as it did. -/
def fnExactIsValidLiteralSpec : ChangeSpec := { name := "fnExactIsValidLiteral", fn := fun _ => fun
  | [d] => { results := [.lit (.bool true)], args := [d] }
  | _ => none }
def fnExactIsValidLiteralRow : OpenClaim := { program := "ytbbagaiolmbcnaa", sum := "b54538a2830f9885715a5149fac3caf4d5b70ef63e2b2cf8fa1aa69c173a6185", func := "loop.example/g00892/laws.FnExactIsValidLiteral", spec := "fnExactIsValidLiteral", unfollowed := true, recurses := true, loops := true, apart := false }
def FnExactIsValidLiteralSaid : Prop := fnExactIsValidLiteralRow.holds Try.pinned (OpenSpec.ofChange fnExactIsValidLiteralSpec)

/-- ITS FALSE NEIGHBOUR: 'it returns false'. Refute it at one input. -/
def fnExactIsValidLiteralWrong : ChangeSpec := { name := "fnExactIsValidLiteral", fn := fun _ => fun
  | [d] => { results := [.lit (.bool false)], args := [d] }
  | _ => none }
def FnExactIsValidLiteralWrongFalsely : Prop := fnExactIsValidLiteralRow.holds Try.pinned (OpenSpec.ofChange fnExactIsValidLiteralWrong)

/-- 'laws.FnExactCountSymbol': WHATEVER THE INPUT: true; the input reads as it did. -/
def fnExactCountSymbolSpec : ChangeSpec := { name := "fnExactCountSymbol", fn := fun _ => fun
  | [d1, d2] => { results := [.lit (.bool true)], args := [d1, d2] }
  | _ => none }
def fnExactCountSymbolRow : OpenClaim := { program := "ytbbagaiolmbcnaa", sum := "b54538a2830f9885715a5149fac3caf4d5b70ef63e2b2cf8fa1aa69c173a6185", func := "loop.example/g00892/laws.FnExactCountSymbol", spec := "fnExactCountSymbol", unfollowed := true, recurses := true, loops := true, apart := false }
def FnExactCountSymbolSaid : Prop := fnExactCountSymbolRow.holds Try.pinned (OpenSpec.ofChange fnExactCountSymbolSpec)

/-- ITS FALSE NEIGHBOUR: 'it returns false'. Refute it at one input. -/
def fnExactCountSymbolWrong : ChangeSpec := { name := "fnExactCountSymbol", fn := fun _ => fun
  | [d1, d2] => { results := [.lit (.bool false)], args := [d1, d2] }
  | _ => none }
def FnExactCountSymbolWrongFalsely : Prop := fnExactCountSymbolRow.holds Try.pinned (OpenSpec.ofChange fnExactCountSymbolWrong)

/-- 'laws.FnExactOccursIn': WHATEVER THE INPUT: true; the input reads as it did. -/
def fnExactOccursInSpec : ChangeSpec := { name := "fnExactOccursIn", fn := fun _ => fun
  | [d1, d2] => { results := [.lit (.bool true)], args := [d1, d2] }
  | _ => none }
def fnExactOccursInRow : OpenClaim := { program := "ytbbagaiolmbcnaa", sum := "b54538a2830f9885715a5149fac3caf4d5b70ef63e2b2cf8fa1aa69c173a6185", func := "loop.example/g00892/laws.FnExactOccursIn", spec := "fnExactOccursIn", unfollowed := true, recurses := true, loops := true, apart := false }
def FnExactOccursInSaid : Prop := fnExactOccursInRow.holds Try.pinned (OpenSpec.ofChange fnExactOccursInSpec)

/-- ITS FALSE NEIGHBOUR: 'it returns false'. Refute it at one input. -/
def fnExactOccursInWrong : ChangeSpec := { name := "fnExactOccursIn", fn := fun _ => fun
  | [d1, d2] => { results := [.lit (.bool false)], args := [d1, d2] }
  | _ => none }
def FnExactOccursInWrongFalsely : Prop := fnExactOccursInRow.holds Try.pinned (OpenSpec.ofChange fnExactOccursInWrong)

/-- 'laws.FnExactCompareTerms': WHATEVER THE INPUT: true; the input reads as it did. -/
def fnExactCompareTermsSpec : ChangeSpec := { name := "fnExactCompareTerms", fn := fun _ => fun
  | [d1, d2] => { results := [.lit (.bool true)], args := [d1, d2] }
  | _ => none }
def fnExactCompareTermsRow : OpenClaim := { program := "ytbbagaiolmbcnaa", sum := "b54538a2830f9885715a5149fac3caf4d5b70ef63e2b2cf8fa1aa69c173a6185", func := "loop.example/g00892/laws.FnExactCompareTerms", spec := "fnExactCompareTerms", unfollowed := true, recurses := true, loops := true, apart := false }
def FnExactCompareTermsSaid : Prop := fnExactCompareTermsRow.holds Try.pinned (OpenSpec.ofChange fnExactCompareTermsSpec)

/-- ITS FALSE NEIGHBOUR: 'it returns false'. Refute it at one input. -/
def fnExactCompareTermsWrong : ChangeSpec := { name := "fnExactCompareTerms", fn := fun _ => fun
  | [d1, d2] => { results := [.lit (.bool false)], args := [d1, d2] }
  | _ => none }
def FnExactCompareTermsWrongFalsely : Prop := fnExactCompareTermsRow.holds Try.pinned (OpenSpec.ofChange fnExactCompareTermsWrong)

/-- 'laws.FnExactCompareLiterals': WHATEVER THE INPUT: true; the input reads as it did. -/
def fnExactCompareLiteralsSpec : ChangeSpec := { name := "fnExactCompareLiterals", fn := fun _ => fun
  | [d1, d2] => { results := [.lit (.bool true)], args := [d1, d2] }
  | _ => none }
def fnExactCompareLiteralsRow : OpenClaim := { program := "ytbbagaiolmbcnaa", sum := "b54538a2830f9885715a5149fac3caf4d5b70ef63e2b2cf8fa1aa69c173a6185", func := "loop.example/g00892/laws.FnExactCompareLiterals", spec := "fnExactCompareLiterals", unfollowed := true, recurses := true, loops := true, apart := false }
def FnExactCompareLiteralsSaid : Prop := fnExactCompareLiteralsRow.holds Try.pinned (OpenSpec.ofChange fnExactCompareLiteralsSpec)

/-- ITS FALSE NEIGHBOUR: 'it returns false'. Refute it at one input. -/
def fnExactCompareLiteralsWrong : ChangeSpec := { name := "fnExactCompareLiterals", fn := fun _ => fun
  | [d1, d2] => { results := [.lit (.bool false)], args := [d1, d2] }
  | _ => none }
def FnExactCompareLiteralsWrongFalsely : Prop := fnExactCompareLiteralsRow.holds Try.pinned (OpenSpec.ofChange fnExactCompareLiteralsWrong)

/-- 'laws.FnExactIsValidSubstitution': WHATEVER THE INPUT: true; the input reads as it did. -/
def fnExactIsValidSubstitutionSpec : ChangeSpec := { name := "fnExactIsValidSubstitution", fn := fun _ => fun
  | [d] => { results := [.lit (.bool true)], args := [d] }
  | _ => none }
def fnExactIsValidSubstitutionRow : OpenClaim := { program := "ytbbagaiolmbcnaa", sum := "b54538a2830f9885715a5149fac3caf4d5b70ef63e2b2cf8fa1aa69c173a6185", func := "loop.example/g00892/laws.FnExactIsValidSubstitution", spec := "fnExactIsValidSubstitution", unfollowed := true, recurses := true, loops := true, apart := false }
def FnExactIsValidSubstitutionSaid : Prop := fnExactIsValidSubstitutionRow.holds Try.pinned (OpenSpec.ofChange fnExactIsValidSubstitutionSpec)

/-- ITS FALSE NEIGHBOUR: 'it returns false'. Refute it at one input. -/
def fnExactIsValidSubstitutionWrong : ChangeSpec := { name := "fnExactIsValidSubstitution", fn := fun _ => fun
  | [d] => { results := [.lit (.bool false)], args := [d] }
  | _ => none }
def FnExactIsValidSubstitutionWrongFalsely : Prop := fnExactIsValidSubstitutionRow.holds Try.pinned (OpenSpec.ofChange fnExactIsValidSubstitutionWrong)

/-- 'laws.FnExactIsValidFormula': WHATEVER THE INPUT: true; the input reads as it did. -/
def fnExactIsValidFormulaSpec : ChangeSpec := { name := "fnExactIsValidFormula", fn := fun _ => fun
  | [d] => { results := [.lit (.bool true)], args := [d] }
  | _ => none }
def fnExactIsValidFormulaRow : OpenClaim := { program := "ytbbagaiolmbcnaa", sum := "b54538a2830f9885715a5149fac3caf4d5b70ef63e2b2cf8fa1aa69c173a6185", func := "loop.example/g00892/laws.FnExactIsValidFormula", spec := "fnExactIsValidFormula", unfollowed := true, recurses := true, loops := true, apart := false }
def FnExactIsValidFormulaSaid : Prop := fnExactIsValidFormulaRow.holds Try.pinned (OpenSpec.ofChange fnExactIsValidFormulaSpec)

/-- ITS FALSE NEIGHBOUR: 'it returns false'. Refute it at one input. -/
def fnExactIsValidFormulaWrong : ChangeSpec := { name := "fnExactIsValidFormula", fn := fun _ => fun
  | [d] => { results := [.lit (.bool false)], args := [d] }
  | _ => none }
def FnExactIsValidFormulaWrongFalsely : Prop := fnExactIsValidFormulaRow.holds Try.pinned (OpenSpec.ofChange fnExactIsValidFormulaWrong)

/- THE SECOND FORM. 'bulk': how many values and letters a reading holds, each counted each time it is reached (what is shared counts as often as it is met; a slice's spare places count too). A statement '..UptoSaid' is the law's where the arguments, and the package variables that the reading takes, are together of bulk at most 1048576: NARROWER than '..Said'. Prove '..Said' where nothing that the law and all that it calls make is longer than what came in: it says more and counts as full. Else prove '..UptoSaid'. A law counts once. -/
mutual
def uptoBulk {H : Type} : DataW H → Nat
  | .lit (.string bytes) => bytes.length + 1
  | .lit _ => 1
  | .nil => 1
  | .ptr d => uptoBulk d + 1
  | .slice elems spare => uptoBulkAll elems + uptoBulkAll spare + 1
  | .agg parts => uptoBulkAll parts + 1
  | .iface _ d => uptoBulk d + 1
  | .map entries => uptoBulkEntries entries + 1
  | .held _ => 1
def uptoBulkAll {H : Type} : List (DataW H) → Nat
  | [] => 0
  | d :: r => uptoBulk d + uptoBulkAll r
def uptoBulkEntries {H : Type} : List (Lit × DataW H) → Nat
  | [] => 0
  | x :: r => uptoBulkEntry x + uptoBulkEntries r
def uptoBulkEntry {H : Type} : Lit × DataW H → Nat
  | (.string bytes, d) => bytes.length + uptoBulk d + 1
  | (_, d) => uptoBulk d + 1
 end
def uptoSmall : (H : Type) → List (DataW H) → Bool := fun _ ds => decide (uptoBulkAll ds ≤ 1048576)
def OpenSpec.upto (s : _root_.Go.ChangeSpec) : _root_.Go.OpenSpec := { _root_.Go.OpenSpec.ofChange s with cond := some uptoSmall }

/-- 'laws.FnExactEqualTerms', WHERE WHAT IT READS IS OF BULK AT MOST 1048576: true; the input reads as it did. -/
def fnExactEqualTermsUptoRow : OpenClaim := { program := "ytbbagaiolmbcnaa", sum := "b54538a2830f9885715a5149fac3caf4d5b70ef63e2b2cf8fa1aa69c173a6185", func := "loop.example/g00892/laws.FnExactEqualTerms", spec := "fnExactEqualTerms", unfollowed := true, recurses := true, loops := true, apart := false, narrowed := true }
def FnExactEqualTermsUptoSaid : Prop := fnExactEqualTermsUptoRow.holds Try.pinned (OpenSpec.upto fnExactEqualTermsSpec)

/-- 'laws.FnExactIsValidTerm', WHERE WHAT IT READS IS OF BULK AT MOST 1048576: true; the input reads as it did. -/
def fnExactIsValidTermUptoRow : OpenClaim := { program := "ytbbagaiolmbcnaa", sum := "b54538a2830f9885715a5149fac3caf4d5b70ef63e2b2cf8fa1aa69c173a6185", func := "loop.example/g00892/laws.FnExactIsValidTerm", spec := "fnExactIsValidTerm", unfollowed := true, recurses := true, loops := true, apart := false, narrowed := true }
def FnExactIsValidTermUptoSaid : Prop := fnExactIsValidTermUptoRow.holds Try.pinned (OpenSpec.upto fnExactIsValidTermSpec)

/-- 'laws.FnExactIsValidAtom', WHERE WHAT IT READS IS OF BULK AT MOST 1048576: true; the input reads as it did. -/
def fnExactIsValidAtomUptoRow : OpenClaim := { program := "ytbbagaiolmbcnaa", sum := "b54538a2830f9885715a5149fac3caf4d5b70ef63e2b2cf8fa1aa69c173a6185", func := "loop.example/g00892/laws.FnExactIsValidAtom", spec := "fnExactIsValidAtom", unfollowed := true, recurses := true, loops := true, apart := false, narrowed := true }
def FnExactIsValidAtomUptoSaid : Prop := fnExactIsValidAtomUptoRow.holds Try.pinned (OpenSpec.upto fnExactIsValidAtomSpec)

/-- 'laws.FnExactTermDepth', WHERE WHAT IT READS IS OF BULK AT MOST 1048576: true; the input reads as it did. -/
def fnExactTermDepthUptoRow : OpenClaim := { program := "ytbbagaiolmbcnaa", sum := "b54538a2830f9885715a5149fac3caf4d5b70ef63e2b2cf8fa1aa69c173a6185", func := "loop.example/g00892/laws.FnExactTermDepth", spec := "fnExactTermDepth", unfollowed := true, recurses := true, loops := true, apart := false, narrowed := true }
def FnExactTermDepthUptoSaid : Prop := fnExactTermDepthUptoRow.holds Try.pinned (OpenSpec.upto fnExactTermDepthSpec)

/-- 'laws.FnExactTermSize', WHERE WHAT IT READS IS OF BULK AT MOST 1048576: true; the input reads as it did. -/
def fnExactTermSizeUptoRow : OpenClaim := { program := "ytbbagaiolmbcnaa", sum := "b54538a2830f9885715a5149fac3caf4d5b70ef63e2b2cf8fa1aa69c173a6185", func := "loop.example/g00892/laws.FnExactTermSize", spec := "fnExactTermSize", unfollowed := true, recurses := true, loops := true, apart := false, narrowed := true }
def FnExactTermSizeUptoSaid : Prop := fnExactTermSizeUptoRow.holds Try.pinned (OpenSpec.upto fnExactTermSizeSpec)

/-- 'laws.FnExactIsValidLiteral', WHERE WHAT IT READS IS OF BULK AT MOST 1048576: true; the input reads as it did. -/
def fnExactIsValidLiteralUptoRow : OpenClaim := { program := "ytbbagaiolmbcnaa", sum := "b54538a2830f9885715a5149fac3caf4d5b70ef63e2b2cf8fa1aa69c173a6185", func := "loop.example/g00892/laws.FnExactIsValidLiteral", spec := "fnExactIsValidLiteral", unfollowed := true, recurses := true, loops := true, apart := false, narrowed := true }
def FnExactIsValidLiteralUptoSaid : Prop := fnExactIsValidLiteralUptoRow.holds Try.pinned (OpenSpec.upto fnExactIsValidLiteralSpec)

/-- 'laws.FnExactCountSymbol', WHERE WHAT IT READS IS OF BULK AT MOST 1048576: true; the input reads as it did. -/
def fnExactCountSymbolUptoRow : OpenClaim := { program := "ytbbagaiolmbcnaa", sum := "b54538a2830f9885715a5149fac3caf4d5b70ef63e2b2cf8fa1aa69c173a6185", func := "loop.example/g00892/laws.FnExactCountSymbol", spec := "fnExactCountSymbol", unfollowed := true, recurses := true, loops := true, apart := false, narrowed := true }
def FnExactCountSymbolUptoSaid : Prop := fnExactCountSymbolUptoRow.holds Try.pinned (OpenSpec.upto fnExactCountSymbolSpec)

/-- 'laws.FnExactOccursIn', WHERE WHAT IT READS IS OF BULK AT MOST 1048576: true; the input reads as it did. -/
def fnExactOccursInUptoRow : OpenClaim := { program := "ytbbagaiolmbcnaa", sum := "b54538a2830f9885715a5149fac3caf4d5b70ef63e2b2cf8fa1aa69c173a6185", func := "loop.example/g00892/laws.FnExactOccursIn", spec := "fnExactOccursIn", unfollowed := true, recurses := true, loops := true, apart := false, narrowed := true }
def FnExactOccursInUptoSaid : Prop := fnExactOccursInUptoRow.holds Try.pinned (OpenSpec.upto fnExactOccursInSpec)

/-- 'laws.FnExactCompareTerms', WHERE WHAT IT READS IS OF BULK AT MOST 1048576: true; the input reads as it did. -/
def fnExactCompareTermsUptoRow : OpenClaim := { program := "ytbbagaiolmbcnaa", sum := "b54538a2830f9885715a5149fac3caf4d5b70ef63e2b2cf8fa1aa69c173a6185", func := "loop.example/g00892/laws.FnExactCompareTerms", spec := "fnExactCompareTerms", unfollowed := true, recurses := true, loops := true, apart := false, narrowed := true }
def FnExactCompareTermsUptoSaid : Prop := fnExactCompareTermsUptoRow.holds Try.pinned (OpenSpec.upto fnExactCompareTermsSpec)

/-- 'laws.FnExactCompareLiterals', WHERE WHAT IT READS IS OF BULK AT MOST 1048576: true; the input reads as it did. -/
def fnExactCompareLiteralsUptoRow : OpenClaim := { program := "ytbbagaiolmbcnaa", sum := "b54538a2830f9885715a5149fac3caf4d5b70ef63e2b2cf8fa1aa69c173a6185", func := "loop.example/g00892/laws.FnExactCompareLiterals", spec := "fnExactCompareLiterals", unfollowed := true, recurses := true, loops := true, apart := false, narrowed := true }
def FnExactCompareLiteralsUptoSaid : Prop := fnExactCompareLiteralsUptoRow.holds Try.pinned (OpenSpec.upto fnExactCompareLiteralsSpec)

/-- 'laws.FnExactIsValidSubstitution', WHERE WHAT IT READS IS OF BULK AT MOST 1048576: true; the input reads as it did. -/
def fnExactIsValidSubstitutionUptoRow : OpenClaim := { program := "ytbbagaiolmbcnaa", sum := "b54538a2830f9885715a5149fac3caf4d5b70ef63e2b2cf8fa1aa69c173a6185", func := "loop.example/g00892/laws.FnExactIsValidSubstitution", spec := "fnExactIsValidSubstitution", unfollowed := true, recurses := true, loops := true, apart := false, narrowed := true }
def FnExactIsValidSubstitutionUptoSaid : Prop := fnExactIsValidSubstitutionUptoRow.holds Try.pinned (OpenSpec.upto fnExactIsValidSubstitutionSpec)

/-- 'laws.FnExactIsValidFormula', WHERE WHAT IT READS IS OF BULK AT MOST 1048576: true; the input reads as it did. -/
def fnExactIsValidFormulaUptoRow : OpenClaim := { program := "ytbbagaiolmbcnaa", sum := "b54538a2830f9885715a5149fac3caf4d5b70ef63e2b2cf8fa1aa69c173a6185", func := "loop.example/g00892/laws.FnExactIsValidFormula", spec := "fnExactIsValidFormula", unfollowed := true, recurses := true, loops := true, apart := false, narrowed := true }
def FnExactIsValidFormulaUptoSaid : Prop := fnExactIsValidFormulaUptoRow.holds Try.pinned (OpenSpec.upto fnExactIsValidFormulaSpec)

end Rows
end Go.Proofs.Ytbbagaiolmbcnaa
