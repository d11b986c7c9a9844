/-
  DERIVED. GIVEN WITH THE SEED: THE CARDS: each row of YtooocakkjdhfiaaGreatDoorRows.lean that lists a variable, with what it lists TIED to the program's text (the seventh form; the later family's looks); each row that meets fmt, with fmt's text TOLD by the authors' own Lean function (tested against real Go, not proved from fmt's source: count such statements apart). THE CARD IS WHAT COUNTS. Prove the row's statement (the work); the ties are given (YtooocakkjdhfiaaGreatDoorTie.lean); close each card by the builder's one call (the guide's Derived/Test/ToyasCard.lean, 'card_holds'). Laid BY PROGRAM, IN A SANDBOX (cutbox-door.mjs). By AI agents, Wed Nov 11 2026. No macro, syntax, notation, axiom, sorry.
-/
import Derived.Test.YtooocakkjdhfiaaGreatDoorRows
import GoSem.ClaimSeven
namespace Go.Proofs.YtooocakkjdhfiaaGreatDoor
namespace Rows

/-- THE TIED CARD OF 'laws.FnExactRenameApart'. -/
def fnExactRenameApartCard : Claim7 := { stood := { row := fnExactRenameApartRow, standIns := [], harness := (true, "e32883067352f922dd002b394b3b7ba78c5ebfb4aea6e1f5e72d14f449f683fa"), looks := false }, kinds := [], alts := [], laidByText := true, laidKinds := [.data, .data, .data], laidTests := true, laidLooks := .later }
def FnExactRenameApartCardSaid : Prop := Claim7.holds Tryz.pinned (.plain (OpenSpec.ofChange fnExactRenameApartSpec)) fnExactRenameApartCard

/-- THE TIED CARD OF 'laws.FnExactNormalizeClause'. -/
def fnExactNormalizeClauseCard : Claim7 := { stood := { row := fnExactNormalizeClauseRow, standIns := [], harness := (true, "e32883067352f922dd002b394b3b7ba78c5ebfb4aea6e1f5e72d14f449f683fa"), looks := false }, kinds := [], alts := [], laidByText := true, laidKinds := [.data, .data, .data], laidTests := true, laidLooks := .later }
def FnExactNormalizeClauseCardSaid : Prop := Claim7.holds Tryz.pinned (.plain (OpenSpec.ofChange fnExactNormalizeClauseSpec)) fnExactNormalizeClauseCard

/-- THE SECOND FORM's CARD OF 'laws.FnExactRenameApart'. -/
def fnExactRenameApartUptoCard : Claim7 := { stood := { row := fnExactRenameApartUptoRow, standIns := [], harness := (true, "e32883067352f922dd002b394b3b7ba78c5ebfb4aea6e1f5e72d14f449f683fa"), looks := false }, kinds := [], alts := [], laidByText := true, laidKinds := [.data, .data, .data], laidTests := true, laidLooks := .later }
def FnExactRenameApartUptoCardSaid : Prop := Claim7.holds Tryz.pinned (.plain (OpenSpec.upto fnExactRenameApartSpec)) fnExactRenameApartUptoCard

/-- THE SECOND FORM's CARD OF 'laws.FnExactNormalizeClause'. -/
def fnExactNormalizeClauseUptoCard : Claim7 := { stood := { row := fnExactNormalizeClauseUptoRow, standIns := [], harness := (true, "e32883067352f922dd002b394b3b7ba78c5ebfb4aea6e1f5e72d14f449f683fa"), looks := false }, kinds := [], alts := [], laidByText := true, laidKinds := [.data, .data, .data], laidTests := true, laidLooks := .later }
def FnExactNormalizeClauseUptoCardSaid : Prop := Claim7.holds Tryz.pinned (.plain (OpenSpec.upto fnExactNormalizeClauseSpec)) fnExactNormalizeClauseUptoCard
end Rows
end Go.Proofs.YtooocakkjdhfiaaGreatDoor
