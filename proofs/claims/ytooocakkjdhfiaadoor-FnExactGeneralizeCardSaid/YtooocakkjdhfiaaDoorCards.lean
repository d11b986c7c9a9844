/-
  DERIVED. GIVEN WITH THE SEED: THE CARDS: each row of YtooocakkjdhfiaaDoorRows.lean that lists a variable, with what it lists TIED to the program's text (the seventh form; the later family's looks); each row that meets fmt, with fmt's text TOLD by the authors' own Lean function (tested against real Go, not proved from fmt's source: count such statements apart). THE CARD IS WHAT COUNTS. Prove the row's statement (the work); the ties are given (YtooocakkjdhfiaaDoorTie.lean); close each card by the builder's one call (the guide's Derived/Test/ToyasCard.lean, 'card_holds'). Laid BY PROGRAM, IN A SANDBOX (cutbox-door.mjs). By AI agents, Wed Nov 11 2026. No macro, syntax, notation, axiom, sorry.
-/
import Derived.Test.YtooocakkjdhfiaaDoorRows
import GoSem.ClaimSeven
namespace Go.Proofs.YtooocakkjdhfiaaDoor
namespace Rows

/-- THE TIED CARD OF 'laws.FnExactGeneralize'. -/
def fnExactGeneralizeCard : Claim7 := { stood := { row := fnExactGeneralizeRow, standIns := [], harness := (true, "8c0cb5f828b2205c1a5021b9421154f261f3283adb051614270caa8771ff4f3e"), looks := false }, kinds := [], alts := [], laidByText := true, laidKinds := [.data, .data, .data], laidTests := true, laidLooks := .later }
def FnExactGeneralizeCardSaid : Prop := Claim7.holds Tryd.pinned (.plain (OpenSpec.ofChange fnExactGeneralizeSpec)) fnExactGeneralizeCard

/-- THE SECOND FORM's CARD OF 'laws.FnExactGeneralize'. -/
def fnExactGeneralizeUptoCard : Claim7 := { stood := { row := fnExactGeneralizeUptoRow, standIns := [], harness := (true, "8c0cb5f828b2205c1a5021b9421154f261f3283adb051614270caa8771ff4f3e"), looks := false }, kinds := [], alts := [], laidByText := true, laidKinds := [.data, .data, .data], laidTests := true, laidLooks := .later }
def FnExactGeneralizeUptoCardSaid : Prop := Claim7.holds Tryd.pinned (.plain (OpenSpec.upto fnExactGeneralizeSpec)) fnExactGeneralizeUptoCard
end Rows
end Go.Proofs.YtooocakkjdhfiaaDoor
