/-
  DERIVED. GIVEN WITH THE SEED: THE CARDS: each row of YtglhbaigigdeeaaDoorRows.lean that lists a variable, with what it lists TIED to the program's text (the seventh form; the later family's looks); each row that meets fmt, with fmt's text TOLD by the authors' own Lean function (tested against real Go, not proved from fmt's source: count such statements apart). THE CARD IS WHAT COUNTS. Prove the row's statement (the work); the ties are given (YtglhbaigigdeeaaDoorTie.lean); close each card by the builder's one call (the guide's Derived/Test/ToyasCard.lean, 'card_holds'). Laid BY PROGRAM, IN A SANDBOX (cutbox-door.mjs). By AI agents, Wed Nov 11 2026. No macro, syntax, notation, axiom, sorry.
-/
import Derived.Test.YtglhbaigigdeeaaDoorRows
import GoSem.ClaimSeven
namespace Go.Proofs.YtglhbaigigdeeaaDoor
namespace Rows

/-- THE TIED CARD OF 'laws.FnExactGeneralize'. -/
def fnExactGeneralizeCard : Claim7 := { stood := { row := fnExactGeneralizeRow, standIns := [], harness := (true, "9cf9cf26721c3e143c63f35acd06cbb4f0b3ce9c02b9f991a64d254a5efdb5c4"), looks := false }, kinds := [], alts := [], laidByText := true, laidKinds := [.data, .data, .data], laidTests := true, laidLooks := .later }
def FnExactGeneralizeCardSaid : Prop := Claim7.holds Tryd.pinned (.plain (OpenSpec.ofChange fnExactGeneralizeSpec)) fnExactGeneralizeCard

/-- THE TIED CARD OF 'laws.FnExactRenameVariables'. -/
def fnExactRenameVariablesCard : Claim7 := { stood := { row := fnExactRenameVariablesRow, standIns := [], harness := (true, "9cf9cf26721c3e143c63f35acd06cbb4f0b3ce9c02b9f991a64d254a5efdb5c4"), looks := false }, kinds := [], alts := [], laidByText := true, laidKinds := [.data, .data, .data], laidTests := true, laidLooks := .later }
def FnExactRenameVariablesCardSaid : Prop := Claim7.holds Tryd.pinned (.plain (OpenSpec.ofChange fnExactRenameVariablesSpec)) fnExactRenameVariablesCard

/-- THE SECOND FORM's CARD OF 'laws.FnExactGeneralize'. -/
def fnExactGeneralizeUptoCard : Claim7 := { stood := { row := fnExactGeneralizeUptoRow, standIns := [], harness := (true, "9cf9cf26721c3e143c63f35acd06cbb4f0b3ce9c02b9f991a64d254a5efdb5c4"), looks := false }, kinds := [], alts := [], laidByText := true, laidKinds := [.data, .data, .data], laidTests := true, laidLooks := .later }
def FnExactGeneralizeUptoCardSaid : Prop := Claim7.holds Tryd.pinned (.plain (OpenSpec.upto fnExactGeneralizeSpec)) fnExactGeneralizeUptoCard

/-- THE SECOND FORM's CARD OF 'laws.FnExactRenameVariables'. -/
def fnExactRenameVariablesUptoCard : Claim7 := { stood := { row := fnExactRenameVariablesUptoRow, standIns := [], harness := (true, "9cf9cf26721c3e143c63f35acd06cbb4f0b3ce9c02b9f991a64d254a5efdb5c4"), looks := false }, kinds := [], alts := [], laidByText := true, laidKinds := [.data, .data, .data], laidTests := true, laidLooks := .later }
def FnExactRenameVariablesUptoCardSaid : Prop := Claim7.holds Tryd.pinned (.plain (OpenSpec.upto fnExactRenameVariablesSpec)) fnExactRenameVariablesUptoCard
end Rows
end Go.Proofs.YtglhbaigigdeeaaDoor
