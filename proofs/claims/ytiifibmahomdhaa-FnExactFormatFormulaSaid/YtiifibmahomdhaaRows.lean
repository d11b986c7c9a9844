/-
  NARROWER THAN 'FOR EVERY INPUT', by the rows' own cells (each row's printed sentence says how): FnExactFormatTerm: loops · FnExactFormatLiteral: loops · FnExactFormatSubstitution: loops · FnExactFormatFormula: loops · FnExactFormatClause: loops · FnExactIsRenaming: loops · FnExactIsValidClause: loops · FnExactClauseWeight: loops · FnExactIsTautology: loops · FnExactFormulaSize: loops · FnExactCountQuantifiers: loops · FnExactAlphaEqual: loops.
  DERIVED. THE GIVEN ROWS OF THIS SEAT. 12 by the template 'for every input the law returns true; each argument reads behind the call as it read before'; 0 by the template 'total and deterministic' (their statements: YtiifibmahomdhaaTotals.lean).
  GIVEN WITH THE SEED: the statements are not yours to turn. If you find one false, say at which input.
  Laid BY PROGRAM, IN A SANDBOX (cutbox-rows.mjs): the forced cells as the released guide's own fill.sh prints them over the translation a5e63b88b0a113a5… (all of the seat's roots in one cut). By AI agents, Wed Nov 11 2026. No macro, syntax, notation, axiom, sorry.
-/
import Derived.Test.YtiifibmahomdhaaChecked
import GoSem.Claim
import GoSem.ClaimJoined
import GoSem.ClaimMapViews
import Derived.JoinedTies
import Derived.KernelRfl
namespace Go.Proofs.Ytiifibmahomdhaa
/- THE CELL 'sum', in the pinned program and in every row, IS THE sha256 OF THE DUMP (.gsa) THAT YtiifibmahomdhaaProg.lean LOADS. Nothing in Lean hashes anything: it is a label: what it is worth is what the hold of that sum in a sandbox is worth. -/
noncomputable def Try.pinned : Pinned := { name := "ytiifibmahomdhaa", sum := "a5e63b88b0a113a5037cb32119ce96bc205a092b34bba7dfbdce6bff90a4e835", checked := Try.checked }
namespace Rows
def none {H : Type} : Left H := { results := [], args := [] }

/-- 'laws.FnExactFormatTerm': WHATEVER THE INPUT: true; the input reads as it did. -/
def fnExactFormatTermSpec : ChangeSpec := { name := "fnExactFormatTerm", fn := fun _ => fun
  | [d] => { results := [.lit (.bool true)], args := [d] }
  | _ => none }
def fnExactFormatTermRow : OpenClaim := { program := "ytiifibmahomdhaa", sum := "a5e63b88b0a113a5037cb32119ce96bc205a092b34bba7dfbdce6bff90a4e835", func := "loop.example/g00892/laws.FnExactFormatTerm", spec := "fnExactFormatTerm", inPlace := ["internal/abi.NoEscape", "internal/bytealg.MakeNoZero"], unfollowed := true, recurses := true, loops := true, apart := false }
def FnExactFormatTermSaid : Prop := fnExactFormatTermRow.holds Try.pinned (OpenSpec.ofChange fnExactFormatTermSpec)

/-- ITS FALSE NEIGHBOUR: 'it returns false'. Refute it at one input. -/
def fnExactFormatTermWrong : ChangeSpec := { name := "fnExactFormatTerm", fn := fun _ => fun
  | [d] => { results := [.lit (.bool false)], args := [d] }
  | _ => none }
def FnExactFormatTermWrongFalsely : Prop := fnExactFormatTermRow.holds Try.pinned (OpenSpec.ofChange fnExactFormatTermWrong)

/-- 'laws.FnExactFormatLiteral': WHATEVER THE INPUT: true; the input reads as it did. -/
def fnExactFormatLiteralSpec : ChangeSpec := { name := "fnExactFormatLiteral", fn := fun _ => fun
  | [d] => { results := [.lit (.bool true)], args := [d] }
  | _ => none }
def fnExactFormatLiteralRow : OpenClaim := { program := "ytiifibmahomdhaa", sum := "a5e63b88b0a113a5037cb32119ce96bc205a092b34bba7dfbdce6bff90a4e835", func := "loop.example/g00892/laws.FnExactFormatLiteral", spec := "fnExactFormatLiteral", inPlace := ["internal/abi.NoEscape", "internal/bytealg.MakeNoZero"], unfollowed := true, recurses := true, loops := true, apart := false }
def FnExactFormatLiteralSaid : Prop := fnExactFormatLiteralRow.holds Try.pinned (OpenSpec.ofChange fnExactFormatLiteralSpec)

/-- ITS FALSE NEIGHBOUR: 'it returns false'. Refute it at one input. -/
def fnExactFormatLiteralWrong : ChangeSpec := { name := "fnExactFormatLiteral", fn := fun _ => fun
  | [d] => { results := [.lit (.bool false)], args := [d] }
  | _ => none }
def FnExactFormatLiteralWrongFalsely : Prop := fnExactFormatLiteralRow.holds Try.pinned (OpenSpec.ofChange fnExactFormatLiteralWrong)

/-- 'laws.FnExactFormatSubstitution': WHATEVER THE INPUT: true; the input reads as it did. -/
def fnExactFormatSubstitutionSpec : ChangeSpec := { name := "fnExactFormatSubstitution", fn := fun _ => fun
  | [d] => { results := [.lit (.bool true)], args := [d] }
  | _ => none }
def fnExactFormatSubstitutionRow : OpenClaim := { program := "ytiifibmahomdhaa", sum := "a5e63b88b0a113a5037cb32119ce96bc205a092b34bba7dfbdce6bff90a4e835", func := "loop.example/g00892/laws.FnExactFormatSubstitution", spec := "fnExactFormatSubstitution", inPlace := ["internal/abi.NoEscape", "internal/bytealg.MakeNoZero"], unfollowed := true, recurses := true, loops := true, apart := false }
def FnExactFormatSubstitutionSaid : Prop := fnExactFormatSubstitutionRow.holds Try.pinned (OpenSpec.ofChange fnExactFormatSubstitutionSpec)

/-- ITS FALSE NEIGHBOUR: 'it returns false'. Refute it at one input. -/
def fnExactFormatSubstitutionWrong : ChangeSpec := { name := "fnExactFormatSubstitution", fn := fun _ => fun
  | [d] => { results := [.lit (.bool false)], args := [d] }
  | _ => none }
def FnExactFormatSubstitutionWrongFalsely : Prop := fnExactFormatSubstitutionRow.holds Try.pinned (OpenSpec.ofChange fnExactFormatSubstitutionWrong)

/-- 'laws.FnExactFormatFormula': WHATEVER THE INPUT: true; the input reads as it did. -/
def fnExactFormatFormulaSpec : ChangeSpec := { name := "fnExactFormatFormula", fn := fun _ => fun
  | [d] => { results := [.lit (.bool true)], args := [d] }
  | _ => none }
def fnExactFormatFormulaRow : OpenClaim := { program := "ytiifibmahomdhaa", sum := "a5e63b88b0a113a5037cb32119ce96bc205a092b34bba7dfbdce6bff90a4e835", func := "loop.example/g00892/laws.FnExactFormatFormula", spec := "fnExactFormatFormula", inPlace := ["internal/abi.NoEscape", "internal/bytealg.MakeNoZero"], unfollowed := true, recurses := true, loops := true, apart := false }
def FnExactFormatFormulaSaid : Prop := fnExactFormatFormulaRow.holds Try.pinned (OpenSpec.ofChange fnExactFormatFormulaSpec)

/-- ITS FALSE NEIGHBOUR: 'it returns false'. Refute it at one input. -/
def fnExactFormatFormulaWrong : ChangeSpec := { name := "fnExactFormatFormula", fn := fun _ => fun
  | [d] => { results := [.lit (.bool false)], args := [d] }
  | _ => none }
def FnExactFormatFormulaWrongFalsely : Prop := fnExactFormatFormulaRow.holds Try.pinned (OpenSpec.ofChange fnExactFormatFormulaWrong)

/-- 'laws.FnExactFormatClause': WHATEVER THE INPUT: true; the input reads as it did. -/
def fnExactFormatClauseSpec : ChangeSpec := { name := "fnExactFormatClause", fn := fun _ => fun
  | [d] => { results := [.lit (.bool true)], args := [d] }
  | _ => none }
def fnExactFormatClauseRow : OpenClaim := { program := "ytiifibmahomdhaa", sum := "a5e63b88b0a113a5037cb32119ce96bc205a092b34bba7dfbdce6bff90a4e835", func := "loop.example/g00892/laws.FnExactFormatClause", spec := "fnExactFormatClause", inPlace := ["internal/abi.NoEscape", "internal/bytealg.MakeNoZero"], unfollowed := true, recurses := true, loops := true, apart := false }
def FnExactFormatClauseSaid : Prop := fnExactFormatClauseRow.holds Try.pinned (OpenSpec.ofChange fnExactFormatClauseSpec)

/-- ITS FALSE NEIGHBOUR: 'it returns false'. Refute it at one input. -/
def fnExactFormatClauseWrong : ChangeSpec := { name := "fnExactFormatClause", fn := fun _ => fun
  | [d] => { results := [.lit (.bool false)], args := [d] }
  | _ => none }
def FnExactFormatClauseWrongFalsely : Prop := fnExactFormatClauseRow.holds Try.pinned (OpenSpec.ofChange fnExactFormatClauseWrong)

/-- 'laws.FnExactIsRenaming': WHATEVER THE INPUT: true; the input reads as it did. -/
def fnExactIsRenamingSpec : ChangeSpec := { name := "fnExactIsRenaming", fn := fun _ => fun
  | [d] => { results := [.lit (.bool true)], args := [d] }
  | _ => none }
def fnExactIsRenamingRow : OpenClaim := { program := "ytiifibmahomdhaa", sum := "a5e63b88b0a113a5037cb32119ce96bc205a092b34bba7dfbdce6bff90a4e835", func := "loop.example/g00892/laws.FnExactIsRenaming", spec := "fnExactIsRenaming", unfollowed := true, recurses := true, loops := true, apart := false }
def FnExactIsRenamingSaid : Prop := fnExactIsRenamingRow.holds Try.pinned (OpenSpec.ofChange fnExactIsRenamingSpec)

/-- ITS FALSE NEIGHBOUR: 'it returns false'. Refute it at one input. -/
def fnExactIsRenamingWrong : ChangeSpec := { name := "fnExactIsRenaming", fn := fun _ => fun
  | [d] => { results := [.lit (.bool false)], args := [d] }
  | _ => none }
def FnExactIsRenamingWrongFalsely : Prop := fnExactIsRenamingRow.holds Try.pinned (OpenSpec.ofChange fnExactIsRenamingWrong)

/-- 'laws.FnExactIsValidClause': WHATEVER THE INPUT: true; the input reads as it did. -/
def fnExactIsValidClauseSpec : ChangeSpec := { name := "fnExactIsValidClause", fn := fun _ => fun
  | [d] => { results := [.lit (.bool true)], args := [d] }
  | _ => none }
def fnExactIsValidClauseRow : OpenClaim := { program := "ytiifibmahomdhaa", sum := "a5e63b88b0a113a5037cb32119ce96bc205a092b34bba7dfbdce6bff90a4e835", func := "loop.example/g00892/laws.FnExactIsValidClause", spec := "fnExactIsValidClause", unfollowed := true, recurses := true, loops := true, apart := false }
def FnExactIsValidClauseSaid : Prop := fnExactIsValidClauseRow.holds Try.pinned (OpenSpec.ofChange fnExactIsValidClauseSpec)

/-- ITS FALSE NEIGHBOUR: 'it returns false'. Refute it at one input. -/
def fnExactIsValidClauseWrong : ChangeSpec := { name := "fnExactIsValidClause", fn := fun _ => fun
  | [d] => { results := [.lit (.bool false)], args := [d] }
  | _ => none }
def FnExactIsValidClauseWrongFalsely : Prop := fnExactIsValidClauseRow.holds Try.pinned (OpenSpec.ofChange fnExactIsValidClauseWrong)

/-- 'laws.FnExactClauseWeight': WHATEVER THE INPUT: true; the input reads as it did. -/
def fnExactClauseWeightSpec : ChangeSpec := { name := "fnExactClauseWeight", fn := fun _ => fun
  | [d] => { results := [.lit (.bool true)], args := [d] }
  | _ => none }
def fnExactClauseWeightRow : OpenClaim := { program := "ytiifibmahomdhaa", sum := "a5e63b88b0a113a5037cb32119ce96bc205a092b34bba7dfbdce6bff90a4e835", func := "loop.example/g00892/laws.FnExactClauseWeight", spec := "fnExactClauseWeight", unfollowed := true, recurses := true, loops := true, apart := false }
def FnExactClauseWeightSaid : Prop := fnExactClauseWeightRow.holds Try.pinned (OpenSpec.ofChange fnExactClauseWeightSpec)

/-- ITS FALSE NEIGHBOUR: 'it returns false'. Refute it at one input. -/
def fnExactClauseWeightWrong : ChangeSpec := { name := "fnExactClauseWeight", fn := fun _ => fun
  | [d] => { results := [.lit (.bool false)], args := [d] }
  | _ => none }
def FnExactClauseWeightWrongFalsely : Prop := fnExactClauseWeightRow.holds Try.pinned (OpenSpec.ofChange fnExactClauseWeightWrong)

/-- 'laws.FnExactIsTautology': WHATEVER THE INPUT: true; the input reads as it did. -/
def fnExactIsTautologySpec : ChangeSpec := { name := "fnExactIsTautology", fn := fun _ => fun
  | [d] => { results := [.lit (.bool true)], args := [d] }
  | _ => none }
def fnExactIsTautologyRow : OpenClaim := { program := "ytiifibmahomdhaa", sum := "a5e63b88b0a113a5037cb32119ce96bc205a092b34bba7dfbdce6bff90a4e835", func := "loop.example/g00892/laws.FnExactIsTautology", spec := "fnExactIsTautology", unfollowed := true, recurses := true, loops := true, apart := false }
def FnExactIsTautologySaid : Prop := fnExactIsTautologyRow.holds Try.pinned (OpenSpec.ofChange fnExactIsTautologySpec)

/-- ITS FALSE NEIGHBOUR: 'it returns false'. Refute it at one input. -/
def fnExactIsTautologyWrong : ChangeSpec := { name := "fnExactIsTautology", fn := fun _ => fun
  | [d] => { results := [.lit (.bool false)], args := [d] }
  | _ => none }
def FnExactIsTautologyWrongFalsely : Prop := fnExactIsTautologyRow.holds Try.pinned (OpenSpec.ofChange fnExactIsTautologyWrong)

/-- 'laws.FnExactFormulaSize': WHATEVER THE INPUT: true; the input reads as it did. -/
def fnExactFormulaSizeSpec : ChangeSpec := { name := "fnExactFormulaSize", fn := fun _ => fun
  | [d] => { results := [.lit (.bool true)], args := [d] }
  | _ => none }
def fnExactFormulaSizeRow : OpenClaim := { program := "ytiifibmahomdhaa", sum := "a5e63b88b0a113a5037cb32119ce96bc205a092b34bba7dfbdce6bff90a4e835", func := "loop.example/g00892/laws.FnExactFormulaSize", spec := "fnExactFormulaSize", unfollowed := true, recurses := true, loops := true, apart := false }
def FnExactFormulaSizeSaid : Prop := fnExactFormulaSizeRow.holds Try.pinned (OpenSpec.ofChange fnExactFormulaSizeSpec)

/-- ITS FALSE NEIGHBOUR: 'it returns false'. Refute it at one input. -/
def fnExactFormulaSizeWrong : ChangeSpec := { name := "fnExactFormulaSize", fn := fun _ => fun
  | [d] => { results := [.lit (.bool false)], args := [d] }
  | _ => none }
def FnExactFormulaSizeWrongFalsely : Prop := fnExactFormulaSizeRow.holds Try.pinned (OpenSpec.ofChange fnExactFormulaSizeWrong)

/-- 'laws.FnExactCountQuantifiers': WHATEVER THE INPUT: true; the input reads as it did. -/
def fnExactCountQuantifiersSpec : ChangeSpec := { name := "fnExactCountQuantifiers", fn := fun _ => fun
  | [d] => { results := [.lit (.bool true)], args := [d] }
  | _ => none }
def fnExactCountQuantifiersRow : OpenClaim := { program := "ytiifibmahomdhaa", sum := "a5e63b88b0a113a5037cb32119ce96bc205a092b34bba7dfbdce6bff90a4e835", func := "loop.example/g00892/laws.FnExactCountQuantifiers", spec := "fnExactCountQuantifiers", unfollowed := true, recurses := true, loops := true, apart := false }
def FnExactCountQuantifiersSaid : Prop := fnExactCountQuantifiersRow.holds Try.pinned (OpenSpec.ofChange fnExactCountQuantifiersSpec)

/-- ITS FALSE NEIGHBOUR: 'it returns false'. Refute it at one input. -/
def fnExactCountQuantifiersWrong : ChangeSpec := { name := "fnExactCountQuantifiers", fn := fun _ => fun
  | [d] => { results := [.lit (.bool false)], args := [d] }
  | _ => none }
def FnExactCountQuantifiersWrongFalsely : Prop := fnExactCountQuantifiersRow.holds Try.pinned (OpenSpec.ofChange fnExactCountQuantifiersWrong)

/-- 'laws.FnExactAlphaEqual': WHATEVER THE INPUT: true; the input reads as it did. -/
def fnExactAlphaEqualSpec : ChangeSpec := { name := "fnExactAlphaEqual", fn := fun _ => fun
  | [d1, d2] => { results := [.lit (.bool true)], args := [d1, d2] }
  | _ => none }
def fnExactAlphaEqualRow : OpenClaim := { program := "ytiifibmahomdhaa", sum := "a5e63b88b0a113a5037cb32119ce96bc205a092b34bba7dfbdce6bff90a4e835", func := "loop.example/g00892/laws.FnExactAlphaEqual", spec := "fnExactAlphaEqual", unfollowed := true, recurses := true, loops := true, apart := false }
def FnExactAlphaEqualSaid : Prop := fnExactAlphaEqualRow.holds Try.pinned (OpenSpec.ofChange fnExactAlphaEqualSpec)

/-- ITS FALSE NEIGHBOUR: 'it returns false'. Refute it at one input. -/
def fnExactAlphaEqualWrong : ChangeSpec := { name := "fnExactAlphaEqual", fn := fun _ => fun
  | [d1, d2] => { results := [.lit (.bool false)], args := [d1, d2] }
  | _ => none }
def FnExactAlphaEqualWrongFalsely : Prop := fnExactAlphaEqualRow.holds Try.pinned (OpenSpec.ofChange fnExactAlphaEqualWrong)

/- THE SECOND FORM. 'bulk': how many values and letters a reading holds, each counted each time it is reached (what is shared counts as often as it is met; a slice's spare places count too). A statement '..UptoSaid' is the law's where the arguments, and the package variables that the reading takes, are together of bulk at most 1048576: NARROWER than '..Said'. Prove '..Said' where nothing that the law and all that it calls make is longer than what came in: it says more and counts as full. Else prove '..UptoSaid'. A law counts once. -/
mutual
def uptoBulk {H : Type} : DataW H → Nat
  | .lit (.string bytes) => bytes.length + 1
  | .lit _ => 1
  | .nil => 1
  | .ptr d => uptoBulk d + 1
  | .slice elems spare => uptoBulkAll elems + uptoBulkAll spare + 1
  | .agg parts => uptoBulkAll parts + 1
  | .iface _ d => uptoBulk d + 1
  | .map entries => uptoBulkEntries entries + 1
  | .held _ => 1
def uptoBulkAll {H : Type} : List (DataW H) → Nat
  | [] => 0
  | d :: r => uptoBulk d + uptoBulkAll r
def uptoBulkEntries {H : Type} : List (Lit × DataW H) → Nat
  | [] => 0
  | x :: r => uptoBulkEntry x + uptoBulkEntries r
def uptoBulkEntry {H : Type} : Lit × DataW H → Nat
  | (.string bytes, d) => bytes.length + uptoBulk d + 1
  | (_, d) => uptoBulk d + 1
 end
def uptoSmall : (H : Type) → List (DataW H) → Bool := fun _ ds => decide (uptoBulkAll ds ≤ 1048576)
def OpenSpec.upto (s : _root_.Go.ChangeSpec) : _root_.Go.OpenSpec := { _root_.Go.OpenSpec.ofChange s with cond := some uptoSmall }

/-- 'laws.FnExactFormatTerm', WHERE WHAT IT READS IS OF BULK AT MOST 1048576: true; the input reads as it did. -/
def fnExactFormatTermUptoRow : OpenClaim := { program := "ytiifibmahomdhaa", sum := "a5e63b88b0a113a5037cb32119ce96bc205a092b34bba7dfbdce6bff90a4e835", func := "loop.example/g00892/laws.FnExactFormatTerm", spec := "fnExactFormatTerm", inPlace := ["internal/abi.NoEscape", "internal/bytealg.MakeNoZero"], unfollowed := true, recurses := true, loops := true, apart := false, narrowed := true }
def FnExactFormatTermUptoSaid : Prop := fnExactFormatTermUptoRow.holds Try.pinned (OpenSpec.upto fnExactFormatTermSpec)

/-- 'laws.FnExactFormatLiteral', WHERE WHAT IT READS IS OF BULK AT MOST 1048576: true; the input reads as it did. -/
def fnExactFormatLiteralUptoRow : OpenClaim := { program := "ytiifibmahomdhaa", sum := "a5e63b88b0a113a5037cb32119ce96bc205a092b34bba7dfbdce6bff90a4e835", func := "loop.example/g00892/laws.FnExactFormatLiteral", spec := "fnExactFormatLiteral", inPlace := ["internal/abi.NoEscape", "internal/bytealg.MakeNoZero"], unfollowed := true, recurses := true, loops := true, apart := false, narrowed := true }
def FnExactFormatLiteralUptoSaid : Prop := fnExactFormatLiteralUptoRow.holds Try.pinned (OpenSpec.upto fnExactFormatLiteralSpec)

/-- 'laws.FnExactFormatSubstitution', WHERE WHAT IT READS IS OF BULK AT MOST 1048576: true; the input reads as it did. -/
def fnExactFormatSubstitutionUptoRow : OpenClaim := { program := "ytiifibmahomdhaa", sum := "a5e63b88b0a113a5037cb32119ce96bc205a092b34bba7dfbdce6bff90a4e835", func := "loop.example/g00892/laws.FnExactFormatSubstitution", spec := "fnExactFormatSubstitution", inPlace := ["internal/abi.NoEscape", "internal/bytealg.MakeNoZero"], unfollowed := true, recurses := true, loops := true, apart := false, narrowed := true }
def FnExactFormatSubstitutionUptoSaid : Prop := fnExactFormatSubstitutionUptoRow.holds Try.pinned (OpenSpec.upto fnExactFormatSubstitutionSpec)

/-- 'laws.FnExactFormatFormula', WHERE WHAT IT READS IS OF BULK AT MOST 1048576: true; the input reads as it did. -/
def fnExactFormatFormulaUptoRow : OpenClaim := { program := "ytiifibmahomdhaa", sum := "a5e63b88b0a113a5037cb32119ce96bc205a092b34bba7dfbdce6bff90a4e835", func := "loop.example/g00892/laws.FnExactFormatFormula", spec := "fnExactFormatFormula", inPlace := ["internal/abi.NoEscape", "internal/bytealg.MakeNoZero"], unfollowed := true, recurses := true, loops := true, apart := false, narrowed := true }
def FnExactFormatFormulaUptoSaid : Prop := fnExactFormatFormulaUptoRow.holds Try.pinned (OpenSpec.upto fnExactFormatFormulaSpec)

/-- 'laws.FnExactFormatClause', WHERE WHAT IT READS IS OF BULK AT MOST 1048576: true; the input reads as it did. -/
def fnExactFormatClauseUptoRow : OpenClaim := { program := "ytiifibmahomdhaa", sum := "a5e63b88b0a113a5037cb32119ce96bc205a092b34bba7dfbdce6bff90a4e835", func := "loop.example/g00892/laws.FnExactFormatClause", spec := "fnExactFormatClause", inPlace := ["internal/abi.NoEscape", "internal/bytealg.MakeNoZero"], unfollowed := true, recurses := true, loops := true, apart := false, narrowed := true }
def FnExactFormatClauseUptoSaid : Prop := fnExactFormatClauseUptoRow.holds Try.pinned (OpenSpec.upto fnExactFormatClauseSpec)

/-- 'laws.FnExactIsRenaming', WHERE WHAT IT READS IS OF BULK AT MOST 1048576: true; the input reads as it did. -/
def fnExactIsRenamingUptoRow : OpenClaim := { program := "ytiifibmahomdhaa", sum := "a5e63b88b0a113a5037cb32119ce96bc205a092b34bba7dfbdce6bff90a4e835", func := "loop.example/g00892/laws.FnExactIsRenaming", spec := "fnExactIsRenaming", unfollowed := true, recurses := true, loops := true, apart := false, narrowed := true }
def FnExactIsRenamingUptoSaid : Prop := fnExactIsRenamingUptoRow.holds Try.pinned (OpenSpec.upto fnExactIsRenamingSpec)

/-- 'laws.FnExactIsValidClause', WHERE WHAT IT READS IS OF BULK AT MOST 1048576: true; the input reads as it did. -/
def fnExactIsValidClauseUptoRow : OpenClaim := { program := "ytiifibmahomdhaa", sum := "a5e63b88b0a113a5037cb32119ce96bc205a092b34bba7dfbdce6bff90a4e835", func := "loop.example/g00892/laws.FnExactIsValidClause", spec := "fnExactIsValidClause", unfollowed := true, recurses := true, loops := true, apart := false, narrowed := true }
def FnExactIsValidClauseUptoSaid : Prop := fnExactIsValidClauseUptoRow.holds Try.pinned (OpenSpec.upto fnExactIsValidClauseSpec)

/-- 'laws.FnExactClauseWeight', WHERE WHAT IT READS IS OF BULK AT MOST 1048576: true; the input reads as it did. -/
def fnExactClauseWeightUptoRow : OpenClaim := { program := "ytiifibmahomdhaa", sum := "a5e63b88b0a113a5037cb32119ce96bc205a092b34bba7dfbdce6bff90a4e835", func := "loop.example/g00892/laws.FnExactClauseWeight", spec := "fnExactClauseWeight", unfollowed := true, recurses := true, loops := true, apart := false, narrowed := true }
def FnExactClauseWeightUptoSaid : Prop := fnExactClauseWeightUptoRow.holds Try.pinned (OpenSpec.upto fnExactClauseWeightSpec)

/-- 'laws.FnExactIsTautology', WHERE WHAT IT READS IS OF BULK AT MOST 1048576: true; the input reads as it did. -/
def fnExactIsTautologyUptoRow : OpenClaim := { program := "ytiifibmahomdhaa", sum := "a5e63b88b0a113a5037cb32119ce96bc205a092b34bba7dfbdce6bff90a4e835", func := "loop.example/g00892/laws.FnExactIsTautology", spec := "fnExactIsTautology", unfollowed := true, recurses := true, loops := true, apart := false, narrowed := true }
def FnExactIsTautologyUptoSaid : Prop := fnExactIsTautologyUptoRow.holds Try.pinned (OpenSpec.upto fnExactIsTautologySpec)

/-- 'laws.FnExactFormulaSize', WHERE WHAT IT READS IS OF BULK AT MOST 1048576: true; the input reads as it did. -/
def fnExactFormulaSizeUptoRow : OpenClaim := { program := "ytiifibmahomdhaa", sum := "a5e63b88b0a113a5037cb32119ce96bc205a092b34bba7dfbdce6bff90a4e835", func := "loop.example/g00892/laws.FnExactFormulaSize", spec := "fnExactFormulaSize", unfollowed := true, recurses := true, loops := true, apart := false, narrowed := true }
def FnExactFormulaSizeUptoSaid : Prop := fnExactFormulaSizeUptoRow.holds Try.pinned (OpenSpec.upto fnExactFormulaSizeSpec)

/-- 'laws.FnExactCountQuantifiers', WHERE WHAT IT READS IS OF BULK AT MOST 1048576: true; the input reads as it did. -/
def fnExactCountQuantifiersUptoRow : OpenClaim := { program := "ytiifibmahomdhaa", sum := "a5e63b88b0a113a5037cb32119ce96bc205a092b34bba7dfbdce6bff90a4e835", func := "loop.example/g00892/laws.FnExactCountQuantifiers", spec := "fnExactCountQuantifiers", unfollowed := true, recurses := true, loops := true, apart := false, narrowed := true }
def FnExactCountQuantifiersUptoSaid : Prop := fnExactCountQuantifiersUptoRow.holds Try.pinned (OpenSpec.upto fnExactCountQuantifiersSpec)

/-- 'laws.FnExactAlphaEqual', WHERE WHAT IT READS IS OF BULK AT MOST 1048576: true; the input reads as it did. -/
def fnExactAlphaEqualUptoRow : OpenClaim := { program := "ytiifibmahomdhaa", sum := "a5e63b88b0a113a5037cb32119ce96bc205a092b34bba7dfbdce6bff90a4e835", func := "loop.example/g00892/laws.FnExactAlphaEqual", spec := "fnExactAlphaEqual", unfollowed := true, recurses := true, loops := true, apart := false, narrowed := true }
def FnExactAlphaEqualUptoSaid : Prop := fnExactAlphaEqualUptoRow.holds Try.pinned (OpenSpec.upto fnExactAlphaEqualSpec)

end Rows
end Go.Proofs.Ytiifibmahomdhaa
