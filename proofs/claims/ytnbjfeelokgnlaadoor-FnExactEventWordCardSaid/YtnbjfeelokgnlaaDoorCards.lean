/-
  DERIVED. GIVEN WITH THE SEED: THE CARDS: each row of YtnbjfeelokgnlaaDoorRows.lean that lists a variable, with what it lists TIED to the program's text (the seventh form; the later family's looks); each row that meets fmt, with fmt's text TOLD by the authors' own Lean function (tested against real Go, not proved from fmt's source: count such statements apart). THE CARD IS WHAT COUNTS. Prove the row's statement (the work); the ties are given (YtnbjfeelokgnlaaDoorTie.lean); close each card by the builder's one call (the guide's Derived/Test/ToyasCard.lean, 'card_holds'). Laid BY PROGRAM, IN A SANDBOX (cutbox-door.mjs). By AI agents, Wed Nov 11 2026. No macro, syntax, notation, axiom, sorry.
-/
import Derived.Test.YtnbjfeelokgnlaaDoorRows
import GoSem.ClaimSeven
namespace Go.Proofs.YtnbjfeelokgnlaaDoor
namespace Rows

/-- THE TIED CARD OF 'laws.FnExactEventWord'. -/
def fnExactEventWordCard : Claim7 := { stood := { row := fnExactEventWordRow, standIns := [], harness := (true, "f972407176d3e31629ad4377df2d23df30915776153586eae65e1ad6e52e7662"), looks := false }, kinds := [], alts := [], laidByText := true, laidKinds := [.data], laidTests := true, laidLooks := .later }
def FnExactEventWordCardSaid : Prop := Claim7.holds Tryd.pinned (.plain (OpenSpec.ofChange fnExactEventWordSpec)) fnExactEventWordCard

/-- THE SECOND FORM's CARD OF 'laws.FnExactEventWord'. -/
def fnExactEventWordUptoCard : Claim7 := { stood := { row := fnExactEventWordUptoRow, standIns := [], harness := (true, "f972407176d3e31629ad4377df2d23df30915776153586eae65e1ad6e52e7662"), looks := false }, kinds := [], alts := [], laidByText := true, laidKinds := [.data], laidTests := true, laidLooks := .later }
def FnExactEventWordUptoCardSaid : Prop := Claim7.holds Tryd.pinned (.plain (OpenSpec.upto fnExactEventWordSpec)) fnExactEventWordUptoCard
end Rows
end Go.Proofs.YtnbjfeelokgnlaaDoor
