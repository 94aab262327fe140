/-
  DERIVED. GIVEN WITH THE SEED: THE CARDS: each row of YtkpehdhkhmomoaaDoorRows.lean that lists a variable, with what it lists TIED to the program's text (the seventh form; the later family's looks); each row that meets fmt, with fmt's text TOLD by the authors' own Lean function (tested against real Go, not proved from fmt's source: count such statements apart). THE CARD IS WHAT COUNTS. Prove the row's statement (the work); the ties are given (YtkpehdhkhmomoaaDoorTie.lean); close each card by the builder's one call (the guide's Derived/Test/ToyasCard.lean, 'card_holds'). Laid BY PROGRAM, IN A SANDBOX (cutbox-door.mjs). By AI agents, Wed Nov 11 2026. No macro, syntax, notation, axiom, sorry.
-/
import Derived.Test.YtkpehdhkhmomoaaDoorRows
import GoSem.ClaimSeven
namespace Go.Proofs.YtkpehdhkhmomoaaDoor
namespace Rows

/-- THE TIED CARD OF 'acreagelaw17.SessionLooks'. -/
def sessionLooksCard : Claim7 := { stood := { row := sessionLooksRow, standIns := [], harness := (true, "86a443761ad0776022b9c62c0af105b71390d91c21818a50d8bb9ac13c4a9387"), looks := false }, kinds := [], alts := [], laidByText := true, laidKinds := [.data, .data, .data], laidTests := true, laidLooks := .later }
def SessionLooksCardSaid : Prop := Claim7.holds Tryd.pinned (.plain (OpenSpec.ofChange sessionLooksSpec)) sessionLooksCard

/-- THE TIED CARD OF 'acreagelaw17.SessionKnown'. -/
def sessionKnownCard : Claim7 := { stood := { row := sessionKnownRow, standIns := [], harness := (true, "86a443761ad0776022b9c62c0af105b71390d91c21818a50d8bb9ac13c4a9387"), looks := false }, kinds := [], alts := [], laidByText := true, laidKinds := [.data, .data, .data], laidTests := true, laidLooks := .later }
def SessionKnownCardSaid : Prop := Claim7.holds Tryd.pinned (.plain (OpenSpec.ofChange sessionKnownSpec)) sessionKnownCard

/-- THE SECOND FORM's CARD OF 'acreagelaw17.SessionLooks'. -/
def sessionLooksUptoCard : Claim7 := { stood := { row := sessionLooksUptoRow, standIns := [], harness := (true, "86a443761ad0776022b9c62c0af105b71390d91c21818a50d8bb9ac13c4a9387"), looks := false }, kinds := [], alts := [], laidByText := true, laidKinds := [.data, .data, .data], laidTests := true, laidLooks := .later }
def SessionLooksUptoCardSaid : Prop := Claim7.holds Tryd.pinned (.plain (OpenSpec.upto sessionLooksSpec)) sessionLooksUptoCard

/-- THE SECOND FORM's CARD OF 'acreagelaw17.SessionKnown'. -/
def sessionKnownUptoCard : Claim7 := { stood := { row := sessionKnownUptoRow, standIns := [], harness := (true, "86a443761ad0776022b9c62c0af105b71390d91c21818a50d8bb9ac13c4a9387"), looks := false }, kinds := [], alts := [], laidByText := true, laidKinds := [.data, .data, .data], laidTests := true, laidLooks := .later }
def SessionKnownUptoCardSaid : Prop := Claim7.holds Tryd.pinned (.plain (OpenSpec.upto sessionKnownSpec)) sessionKnownUptoCard
end Rows
end Go.Proofs.YtkpehdhkhmomoaaDoor
