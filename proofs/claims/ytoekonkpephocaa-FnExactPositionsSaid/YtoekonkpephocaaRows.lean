/-
  NARROWER THAN 'FOR EVERY INPUT', by the rows' own cells (each row's printed sentence says how): FnExactDisagreement: loops · FnExactPositions: loops · FnExactSubtermAt: loops · FnExactReplaceAt: loops · FnExactTermVariables: loops · FnExactRestrictSubstitution: loops · FnExactFreeVariables: loops · FnExactClauseVariables: loops.
  DERIVED. THE GIVEN ROWS OF THIS SEAT. 8 by the template 'for every input the law returns true; each argument reads behind the call as it read before'; 0 by the template 'total and deterministic' (their statements: YtoekonkpephocaaTotals.lean).
  GIVEN WITH THE SEED: the statements are not yours to turn. If you find one false, say at which input.
  Laid BY PROGRAM, IN A SANDBOX (cutbox-rows.mjs): the forced cells as the released guide's own fill.sh prints them over the translation 0b7186df1d6f4b2d… (all of the seat's roots in one cut). By AI agents, Wed Nov 11 2026. No macro, syntax, notation, axiom, sorry.
-/
import Derived.Test.YtoekonkpephocaaChecked
import GoSem.Claim
import GoSem.ClaimJoined
import GoSem.ClaimMapViews
import Derived.JoinedTies
import Derived.KernelRfl
namespace Go.Proofs.Ytoekonkpephocaa
/- THE CELL 'sum', in the pinned program and in every row, IS THE sha256 OF THE DUMP (.gsa) THAT YtoekonkpephocaaProg.lean LOADS. Nothing in Lean hashes anything: it is a label: what it is worth is what the hold of that sum in a sandbox is worth. -/
noncomputable def Try.pinned : Pinned := { name := "ytoekonkpephocaa", sum := "0b7186df1d6f4b2dc483a592c76a9cb37c0367e5295794918a164882ddde5243", checked := Try.checked }
namespace Rows
def none {H : Type} : Left H := { results := [], args := [] }

/-- 'laws.FnExactDisagreement': WHATEVER THE INPUT: true; the input reads as it did. -/
def fnExactDisagreementSpec : ChangeSpec := { name := "fnExactDisagreement", fn := fun _ => fun
  | [d1, d2] => { results := [.lit (.bool true)], args := [d1, d2] }
  | _ => none }
def fnExactDisagreementRow : OpenClaim := { program := "ytoekonkpephocaa", sum := "0b7186df1d6f4b2dc483a592c76a9cb37c0367e5295794918a164882ddde5243", func := "loop.example/g00892/laws.FnExactDisagreement", spec := "fnExactDisagreement", unfollowed := true, recurses := true, loops := true, apart := false }
def FnExactDisagreementSaid : Prop := fnExactDisagreementRow.holds Try.pinned (OpenSpec.ofChange fnExactDisagreementSpec)

/-- ITS FALSE NEIGHBOUR: 'it returns false'. Refute it at one input. -/
def fnExactDisagreementWrong : ChangeSpec := { name := "fnExactDisagreement", fn := fun _ => fun
  | [d1, d2] => { results := [.lit (.bool false)], args := [d1, d2] }
  | _ => none }
def FnExactDisagreementWrongFalsely : Prop := fnExactDisagreementRow.holds Try.pinned (OpenSpec.ofChange fnExactDisagreementWrong)

/-- 'laws.FnExactPositions': WHATEVER THE INPUT: true; the input reads as it did. -/
def fnExactPositionsSpec : ChangeSpec := { name := "fnExactPositions", fn := fun _ => fun
  | [d] => { results := [.lit (.bool true)], args := [d] }
  | _ => none }
def fnExactPositionsRow : OpenClaim := { program := "ytoekonkpephocaa", sum := "0b7186df1d6f4b2dc483a592c76a9cb37c0367e5295794918a164882ddde5243", func := "loop.example/g00892/laws.FnExactPositions", spec := "fnExactPositions", unfollowed := true, recurses := true, loops := true, apart := false }
def FnExactPositionsSaid : Prop := fnExactPositionsRow.holds Try.pinned (OpenSpec.ofChange fnExactPositionsSpec)

/-- ITS FALSE NEIGHBOUR: 'it returns false'. Refute it at one input. -/
def fnExactPositionsWrong : ChangeSpec := { name := "fnExactPositions", fn := fun _ => fun
  | [d] => { results := [.lit (.bool false)], args := [d] }
  | _ => none }
def FnExactPositionsWrongFalsely : Prop := fnExactPositionsRow.holds Try.pinned (OpenSpec.ofChange fnExactPositionsWrong)

/-- 'laws.FnExactSubtermAt': WHATEVER THE INPUT: true; the input reads as it did. -/
def fnExactSubtermAtSpec : ChangeSpec := { name := "fnExactSubtermAt", fn := fun _ => fun
  | [d1, d2] => { results := [.lit (.bool true)], args := [d1, d2] }
  | _ => none }
def fnExactSubtermAtRow : OpenClaim := { program := "ytoekonkpephocaa", sum := "0b7186df1d6f4b2dc483a592c76a9cb37c0367e5295794918a164882ddde5243", func := "loop.example/g00892/laws.FnExactSubtermAt", spec := "fnExactSubtermAt", unfollowed := true, recurses := true, loops := true, apart := false }
def FnExactSubtermAtSaid : Prop := fnExactSubtermAtRow.holds Try.pinned (OpenSpec.ofChange fnExactSubtermAtSpec)

/-- ITS FALSE NEIGHBOUR: 'it returns false'. Refute it at one input. -/
def fnExactSubtermAtWrong : ChangeSpec := { name := "fnExactSubtermAt", fn := fun _ => fun
  | [d1, d2] => { results := [.lit (.bool false)], args := [d1, d2] }
  | _ => none }
def FnExactSubtermAtWrongFalsely : Prop := fnExactSubtermAtRow.holds Try.pinned (OpenSpec.ofChange fnExactSubtermAtWrong)

/-- 'laws.FnExactReplaceAt': WHATEVER THE INPUT: true; the input reads as it did. -/
def fnExactReplaceAtSpec : ChangeSpec := { name := "fnExactReplaceAt", fn := fun _ => fun
  | [d1, d2, d3] => { results := [.lit (.bool true)], args := [d1, d2, d3] }
  | _ => none }
def fnExactReplaceAtRow : OpenClaim := { program := "ytoekonkpephocaa", sum := "0b7186df1d6f4b2dc483a592c76a9cb37c0367e5295794918a164882ddde5243", func := "loop.example/g00892/laws.FnExactReplaceAt", spec := "fnExactReplaceAt", unfollowed := true, recurses := true, loops := true, apart := false }
def FnExactReplaceAtSaid : Prop := fnExactReplaceAtRow.holds Try.pinned (OpenSpec.ofChange fnExactReplaceAtSpec)

/-- ITS FALSE NEIGHBOUR: 'it returns false'. Refute it at one input. -/
def fnExactReplaceAtWrong : ChangeSpec := { name := "fnExactReplaceAt", fn := fun _ => fun
  | [d1, d2, d3] => { results := [.lit (.bool false)], args := [d1, d2, d3] }
  | _ => none }
def FnExactReplaceAtWrongFalsely : Prop := fnExactReplaceAtRow.holds Try.pinned (OpenSpec.ofChange fnExactReplaceAtWrong)

/-- 'laws.FnExactTermVariables': WHATEVER THE INPUT: true; the input reads as it did. -/
def fnExactTermVariablesSpec : ChangeSpec := { name := "fnExactTermVariables", fn := fun _ => fun
  | [d] => { results := [.lit (.bool true)], args := [d] }
  | _ => none }
def fnExactTermVariablesRow : OpenClaim := { program := "ytoekonkpephocaa", sum := "0b7186df1d6f4b2dc483a592c76a9cb37c0367e5295794918a164882ddde5243", func := "loop.example/g00892/laws.FnExactTermVariables", spec := "fnExactTermVariables", unfollowed := true, recurses := true, loops := true, apart := false }
def FnExactTermVariablesSaid : Prop := fnExactTermVariablesRow.holds Try.pinned (OpenSpec.ofChange fnExactTermVariablesSpec)

/-- ITS FALSE NEIGHBOUR: 'it returns false'. Refute it at one input. -/
def fnExactTermVariablesWrong : ChangeSpec := { name := "fnExactTermVariables", fn := fun _ => fun
  | [d] => { results := [.lit (.bool false)], args := [d] }
  | _ => none }
def FnExactTermVariablesWrongFalsely : Prop := fnExactTermVariablesRow.holds Try.pinned (OpenSpec.ofChange fnExactTermVariablesWrong)

/-- 'laws.FnExactRestrictSubstitution': WHATEVER THE INPUT: true; the input reads as it did. -/
def fnExactRestrictSubstitutionSpec : ChangeSpec := { name := "fnExactRestrictSubstitution", fn := fun _ => fun
  | [d1, d2] => { results := [.lit (.bool true)], args := [d1, d2] }
  | _ => none }
def fnExactRestrictSubstitutionRow : OpenClaim := { program := "ytoekonkpephocaa", sum := "0b7186df1d6f4b2dc483a592c76a9cb37c0367e5295794918a164882ddde5243", func := "loop.example/g00892/laws.FnExactRestrictSubstitution", spec := "fnExactRestrictSubstitution", unfollowed := true, recurses := true, loops := true, apart := false }
def FnExactRestrictSubstitutionSaid : Prop := fnExactRestrictSubstitutionRow.holds Try.pinned (OpenSpec.ofChange fnExactRestrictSubstitutionSpec)

/-- ITS FALSE NEIGHBOUR: 'it returns false'. Refute it at one input. -/
def fnExactRestrictSubstitutionWrong : ChangeSpec := { name := "fnExactRestrictSubstitution", fn := fun _ => fun
  | [d1, d2] => { results := [.lit (.bool false)], args := [d1, d2] }
  | _ => none }
def FnExactRestrictSubstitutionWrongFalsely : Prop := fnExactRestrictSubstitutionRow.holds Try.pinned (OpenSpec.ofChange fnExactRestrictSubstitutionWrong)

/-- 'laws.FnExactFreeVariables': WHATEVER THE INPUT: true; the input reads as it did. -/
def fnExactFreeVariablesSpec : ChangeSpec := { name := "fnExactFreeVariables", fn := fun _ => fun
  | [d] => { results := [.lit (.bool true)], args := [d] }
  | _ => none }
def fnExactFreeVariablesRow : OpenClaim := { program := "ytoekonkpephocaa", sum := "0b7186df1d6f4b2dc483a592c76a9cb37c0367e5295794918a164882ddde5243", func := "loop.example/g00892/laws.FnExactFreeVariables", spec := "fnExactFreeVariables", unfollowed := true, recurses := true, loops := true, apart := false }
def FnExactFreeVariablesSaid : Prop := fnExactFreeVariablesRow.holds Try.pinned (OpenSpec.ofChange fnExactFreeVariablesSpec)

/-- ITS FALSE NEIGHBOUR: 'it returns false'. Refute it at one input. -/
def fnExactFreeVariablesWrong : ChangeSpec := { name := "fnExactFreeVariables", fn := fun _ => fun
  | [d] => { results := [.lit (.bool false)], args := [d] }
  | _ => none }
def FnExactFreeVariablesWrongFalsely : Prop := fnExactFreeVariablesRow.holds Try.pinned (OpenSpec.ofChange fnExactFreeVariablesWrong)

/-- 'laws.FnExactClauseVariables': WHATEVER THE INPUT: true; the input reads as it did. -/
def fnExactClauseVariablesSpec : ChangeSpec := { name := "fnExactClauseVariables", fn := fun _ => fun
  | [d] => { results := [.lit (.bool true)], args := [d] }
  | _ => none }
def fnExactClauseVariablesRow : OpenClaim := { program := "ytoekonkpephocaa", sum := "0b7186df1d6f4b2dc483a592c76a9cb37c0367e5295794918a164882ddde5243", func := "loop.example/g00892/laws.FnExactClauseVariables", spec := "fnExactClauseVariables", unfollowed := true, recurses := true, loops := true, apart := false }
def FnExactClauseVariablesSaid : Prop := fnExactClauseVariablesRow.holds Try.pinned (OpenSpec.ofChange fnExactClauseVariablesSpec)

/-- ITS FALSE NEIGHBOUR: 'it returns false'. Refute it at one input. -/
def fnExactClauseVariablesWrong : ChangeSpec := { name := "fnExactClauseVariables", fn := fun _ => fun
  | [d] => { results := [.lit (.bool false)], args := [d] }
  | _ => none }
def FnExactClauseVariablesWrongFalsely : Prop := fnExactClauseVariablesRow.holds Try.pinned (OpenSpec.ofChange fnExactClauseVariablesWrong)

/- THE SECOND FORM. 'bulk': how many values and letters a reading holds, each counted each time it is reached (what is shared counts as often as it is met; a slice's spare places count too). A statement '..UptoSaid' is the law's where the arguments, and the package variables that the reading takes, are together of bulk at most 1048576: NARROWER than '..Said'. Prove '..Said' where nothing that the law and all that it calls make is longer than what came in: it says more and counts as full. Else prove '..UptoSaid'. A law counts once. -/
mutual
def uptoBulk {H : Type} : DataW H → Nat
  | .lit (.string bytes) => bytes.length + 1
  | .lit _ => 1
  | .nil => 1
  | .ptr d => uptoBulk d + 1
  | .slice elems spare => uptoBulkAll elems + uptoBulkAll spare + 1
  | .agg parts => uptoBulkAll parts + 1
  | .iface _ d => uptoBulk d + 1
  | .map entries => uptoBulkEntries entries + 1
  | .held _ => 1
def uptoBulkAll {H : Type} : List (DataW H) → Nat
  | [] => 0
  | d :: r => uptoBulk d + uptoBulkAll r
def uptoBulkEntries {H : Type} : List (Lit × DataW H) → Nat
  | [] => 0
  | x :: r => uptoBulkEntry x + uptoBulkEntries r
def uptoBulkEntry {H : Type} : Lit × DataW H → Nat
  | (.string bytes, d) => bytes.length + uptoBulk d + 1
  | (_, d) => uptoBulk d + 1
 end
def uptoSmall : (H : Type) → List (DataW H) → Bool := fun _ ds => decide (uptoBulkAll ds ≤ 1048576)
def OpenSpec.upto (s : _root_.Go.ChangeSpec) : _root_.Go.OpenSpec := { _root_.Go.OpenSpec.ofChange s with cond := some uptoSmall }

/-- 'laws.FnExactDisagreement', WHERE WHAT IT READS IS OF BULK AT MOST 1048576: true; the input reads as it did. -/
def fnExactDisagreementUptoRow : OpenClaim := { program := "ytoekonkpephocaa", sum := "0b7186df1d6f4b2dc483a592c76a9cb37c0367e5295794918a164882ddde5243", func := "loop.example/g00892/laws.FnExactDisagreement", spec := "fnExactDisagreement", unfollowed := true, recurses := true, loops := true, apart := false, narrowed := true }
def FnExactDisagreementUptoSaid : Prop := fnExactDisagreementUptoRow.holds Try.pinned (OpenSpec.upto fnExactDisagreementSpec)

/-- 'laws.FnExactPositions', WHERE WHAT IT READS IS OF BULK AT MOST 1048576: true; the input reads as it did. -/
def fnExactPositionsUptoRow : OpenClaim := { program := "ytoekonkpephocaa", sum := "0b7186df1d6f4b2dc483a592c76a9cb37c0367e5295794918a164882ddde5243", func := "loop.example/g00892/laws.FnExactPositions", spec := "fnExactPositions", unfollowed := true, recurses := true, loops := true, apart := false, narrowed := true }
def FnExactPositionsUptoSaid : Prop := fnExactPositionsUptoRow.holds Try.pinned (OpenSpec.upto fnExactPositionsSpec)

/-- 'laws.FnExactSubtermAt', WHERE WHAT IT READS IS OF BULK AT MOST 1048576: true; the input reads as it did. -/
def fnExactSubtermAtUptoRow : OpenClaim := { program := "ytoekonkpephocaa", sum := "0b7186df1d6f4b2dc483a592c76a9cb37c0367e5295794918a164882ddde5243", func := "loop.example/g00892/laws.FnExactSubtermAt", spec := "fnExactSubtermAt", unfollowed := true, recurses := true, loops := true, apart := false, narrowed := true }
def FnExactSubtermAtUptoSaid : Prop := fnExactSubtermAtUptoRow.holds Try.pinned (OpenSpec.upto fnExactSubtermAtSpec)

/-- 'laws.FnExactReplaceAt', WHERE WHAT IT READS IS OF BULK AT MOST 1048576: true; the input reads as it did. -/
def fnExactReplaceAtUptoRow : OpenClaim := { program := "ytoekonkpephocaa", sum := "0b7186df1d6f4b2dc483a592c76a9cb37c0367e5295794918a164882ddde5243", func := "loop.example/g00892/laws.FnExactReplaceAt", spec := "fnExactReplaceAt", unfollowed := true, recurses := true, loops := true, apart := false, narrowed := true }
def FnExactReplaceAtUptoSaid : Prop := fnExactReplaceAtUptoRow.holds Try.pinned (OpenSpec.upto fnExactReplaceAtSpec)

/-- 'laws.FnExactTermVariables', WHERE WHAT IT READS IS OF BULK AT MOST 1048576: true; the input reads as it did. -/
def fnExactTermVariablesUptoRow : OpenClaim := { program := "ytoekonkpephocaa", sum := "0b7186df1d6f4b2dc483a592c76a9cb37c0367e5295794918a164882ddde5243", func := "loop.example/g00892/laws.FnExactTermVariables", spec := "fnExactTermVariables", unfollowed := true, recurses := true, loops := true, apart := false, narrowed := true }
def FnExactTermVariablesUptoSaid : Prop := fnExactTermVariablesUptoRow.holds Try.pinned (OpenSpec.upto fnExactTermVariablesSpec)

/-- 'laws.FnExactRestrictSubstitution', WHERE WHAT IT READS IS OF BULK AT MOST 1048576: true; the input reads as it did. -/
def fnExactRestrictSubstitutionUptoRow : OpenClaim := { program := "ytoekonkpephocaa", sum := "0b7186df1d6f4b2dc483a592c76a9cb37c0367e5295794918a164882ddde5243", func := "loop.example/g00892/laws.FnExactRestrictSubstitution", spec := "fnExactRestrictSubstitution", unfollowed := true, recurses := true, loops := true, apart := false, narrowed := true }
def FnExactRestrictSubstitutionUptoSaid : Prop := fnExactRestrictSubstitutionUptoRow.holds Try.pinned (OpenSpec.upto fnExactRestrictSubstitutionSpec)

/-- 'laws.FnExactFreeVariables', WHERE WHAT IT READS IS OF BULK AT MOST 1048576: true; the input reads as it did. -/
def fnExactFreeVariablesUptoRow : OpenClaim := { program := "ytoekonkpephocaa", sum := "0b7186df1d6f4b2dc483a592c76a9cb37c0367e5295794918a164882ddde5243", func := "loop.example/g00892/laws.FnExactFreeVariables", spec := "fnExactFreeVariables", unfollowed := true, recurses := true, loops := true, apart := false, narrowed := true }
def FnExactFreeVariablesUptoSaid : Prop := fnExactFreeVariablesUptoRow.holds Try.pinned (OpenSpec.upto fnExactFreeVariablesSpec)

/-- 'laws.FnExactClauseVariables', WHERE WHAT IT READS IS OF BULK AT MOST 1048576: true; the input reads as it did. -/
def fnExactClauseVariablesUptoRow : OpenClaim := { program := "ytoekonkpephocaa", sum := "0b7186df1d6f4b2dc483a592c76a9cb37c0367e5295794918a164882ddde5243", func := "loop.example/g00892/laws.FnExactClauseVariables", spec := "fnExactClauseVariables", unfollowed := true, recurses := true, loops := true, apart := false, narrowed := true }
def FnExactClauseVariablesUptoSaid : Prop := fnExactClauseVariablesUptoRow.holds Try.pinned (OpenSpec.upto fnExactClauseVariablesSpec)

end Rows
end Go.Proofs.Ytoekonkpephocaa
