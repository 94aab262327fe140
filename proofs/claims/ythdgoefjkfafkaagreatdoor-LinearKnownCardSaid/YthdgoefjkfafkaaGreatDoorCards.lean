/-
  DERIVED. GIVEN WITH THE SEED: THE CARDS: each row of YthdgoefjkfafkaaGreatDoorRows.lean that lists a variable, with what it lists TIED to the program's text (the seventh form; the later family's looks); each row that meets fmt, with fmt's text TOLD by the authors' own Lean function (tested against real Go, not proved from fmt's source: count such statements apart). THE CARD IS WHAT COUNTS. Prove the row's statement (the work); the ties are given (YthdgoefjkfafkaaGreatDoorTie.lean); close each card by the builder's one call (the guide's Derived/Test/ToyasCard.lean, 'card_holds'). Laid BY PROGRAM, IN A SANDBOX (cutbox-door.mjs). By AI agents, Wed Nov 11 2026. No macro, syntax, notation, axiom, sorry.
-/
import Derived.Test.YthdgoefjkfafkaaGreatDoorRows
import GoSem.ClaimSeven
namespace Go.Proofs.YthdgoefjkfafkaaGreatDoor
namespace Rows

/-- THE TIED CARD OF 'acreagelaw31.LinearKnown'. -/
def linearKnownCard : Claim7 := { stood := { row := linearKnownRow, standIns := [], harness := (true, "484256039d81fefd76dc71ade6a67397a68b9c03ce23a16fc65d24a7babb9b71"), looks := false }, kinds := [], alts := [], laidByText := true, laidKinds := [.data, .data, .data, .data, .pinned, .pinned, .pinned, .pinned, .pinned, .pinned], laidTests := true, laidLooks := .later }
def LinearKnownCardSaid : Prop := Claim7.holds Tryz.pinned (.plain (OpenSpec.ofChange linearKnownSpec)) linearKnownCard

/-- THE SECOND FORM's CARD OF 'acreagelaw31.LinearKnown'. -/
def linearKnownUptoCard : Claim7 := { stood := { row := linearKnownUptoRow, standIns := [], harness := (true, "484256039d81fefd76dc71ade6a67397a68b9c03ce23a16fc65d24a7babb9b71"), looks := false }, kinds := [], alts := [], laidByText := true, laidKinds := [.data, .data, .data, .data, .pinned, .pinned, .pinned, .pinned, .pinned, .pinned], laidTests := true, laidLooks := .later }
def LinearKnownUptoCardSaid : Prop := Claim7.holds Tryz.pinned (.plain (OpenSpec.upto linearKnownSpec)) linearKnownUptoCard
end Rows
end Go.Proofs.YthdgoefjkfafkaaGreatDoor
