/-
  DERIVED. GIVEN WITH THE SEED: THE CARDS: each row of YtnbjfeelokgnlacDoorRows.lean that lists a variable, with what it lists TIED to the program's text (the seventh form; the later family's looks); each row that meets fmt, with fmt's text TOLD by the authors' own Lean function (tested against real Go, not proved from fmt's source: count such statements apart). THE CARD IS WHAT COUNTS. Prove the row's statement (the work); the ties are given (YtnbjfeelokgnlacDoorTie.lean); close each card by the builder's one call (the guide's Derived/Test/ToyasCard.lean, 'card_holds'). Laid BY PROGRAM, IN A SANDBOX (cutbox-door.mjs). By AI agents, Wed Nov 11 2026. No macro, syntax, notation, axiom, sorry.
-/
import Derived.Test.YtnbjfeelokgnlacDoorRows
import GoSem.ClaimSeven
namespace Go.Proofs.YtnbjfeelokgnlacDoor
namespace Rows

/-- THE TIED CARD OF 'laws.FnExactIsEvent'. -/
def fnExactIsEventCard : Claim7 := { stood := { row := fnExactIsEventRow, standIns := [], harness := (true, "cb78c231f7852ad222d411cb2125199302fbec6fa39056312ee4a86e4a3714b7"), looks := false }, kinds := [], alts := [], laidByText := true, laidKinds := [.data], laidTests := true, laidLooks := .later }
def FnExactIsEventCardSaid : Prop := Claim7.holds Tryd.pinned (.plain (OpenSpec.ofChange fnExactIsEventSpec)) fnExactIsEventCard

/-- THE SECOND FORM's CARD OF 'laws.FnExactIsEvent'. -/
def fnExactIsEventUptoCard : Claim7 := { stood := { row := fnExactIsEventUptoRow, standIns := [], harness := (true, "cb78c231f7852ad222d411cb2125199302fbec6fa39056312ee4a86e4a3714b7"), looks := false }, kinds := [], alts := [], laidByText := true, laidKinds := [.data], laidTests := true, laidLooks := .later }
def FnExactIsEventUptoCardSaid : Prop := Claim7.holds Tryd.pinned (.plain (OpenSpec.upto fnExactIsEventSpec)) fnExactIsEventUptoCard
end Rows
end Go.Proofs.YtnbjfeelokgnlacDoor
