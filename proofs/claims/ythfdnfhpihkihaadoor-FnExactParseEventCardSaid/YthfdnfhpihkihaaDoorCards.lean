/-
  DERIVED. GIVEN WITH THE SEED: THE CARDS: each row of YthfdnfhpihkihaaDoorRows.lean that lists a variable, with what it lists TIED to the program's text (the seventh form; the later family's looks); each row that meets fmt, with fmt's text TOLD by the authors' own Lean function (tested against real Go, not proved from fmt's source: count such statements apart). THE CARD IS WHAT COUNTS. Prove the row's statement (the work); the ties are given (YthfdnfhpihkihaaDoorTie.lean); close each card by the builder's one call (the guide's Derived/Test/ToyasCard.lean, 'card_holds'). Laid BY PROGRAM, IN A SANDBOX (cutbox-door.mjs). By AI agents, Wed Nov 11 2026. No macro, syntax, notation, axiom, sorry.
-/
import Derived.Test.YthfdnfhpihkihaaDoorRows
import GoSem.ClaimSeven
namespace Go.Proofs.YthfdnfhpihkihaaDoor
namespace Rows

/-- THE TIED CARD OF 'laws.FnExactFormatEvent'. -/
def fnExactFormatEventCard : Claim7 := { stood := { row := fnExactFormatEventRow, standIns := [], harness := (true, "390245b07da8cf2596e1a98a3066efe19a961502be3ad227c6392bc4dd7c9e71"), looks := true }, kinds := [], alts := [], laidByText := true, laidKinds := [.data, .data, .data, .data], laidTests := true, laidLooks := .later }
def FnExactFormatEventCardSaid : Prop := Claim7.holds Tryd.pinned (.plain (OpenSpec.ofChange fnExactFormatEventSpec)) fnExactFormatEventCard

/-- THE TIED CARD OF 'laws.FnExactParseEvent'. -/
def fnExactParseEventCard : Claim7 := { stood := { row := fnExactParseEventRow, standIns := [], harness := (true, "390245b07da8cf2596e1a98a3066efe19a961502be3ad227c6392bc4dd7c9e71"), looks := true }, kinds := [], alts := [], laidByText := true, laidKinds := [.data, .data, .data, .sentinel, .sentinel, .data], laidTests := true, laidLooks := .later }
def FnExactParseEventCardSaid : Prop := Claim7.holds Tryd.pinned (.plain (OpenSpec.ofChange fnExactParseEventSpec)) fnExactParseEventCard

/-- THE SECOND FORM's CARD OF 'laws.FnExactFormatEvent'. -/
def fnExactFormatEventUptoCard : Claim7 := { stood := { row := fnExactFormatEventUptoRow, standIns := [], harness := (true, "390245b07da8cf2596e1a98a3066efe19a961502be3ad227c6392bc4dd7c9e71"), looks := true }, kinds := [], alts := [], laidByText := true, laidKinds := [.data, .data, .data, .data], laidTests := true, laidLooks := .later }
def FnExactFormatEventUptoCardSaid : Prop := Claim7.holds Tryd.pinned (.plain (OpenSpec.upto fnExactFormatEventSpec)) fnExactFormatEventUptoCard

/-- THE SECOND FORM's CARD OF 'laws.FnExactParseEvent'. -/
def fnExactParseEventUptoCard : Claim7 := { stood := { row := fnExactParseEventUptoRow, standIns := [], harness := (true, "390245b07da8cf2596e1a98a3066efe19a961502be3ad227c6392bc4dd7c9e71"), looks := true }, kinds := [], alts := [], laidByText := true, laidKinds := [.data, .data, .data, .sentinel, .sentinel, .data], laidTests := true, laidLooks := .later }
def FnExactParseEventUptoCardSaid : Prop := Claim7.holds Tryd.pinned (.plain (OpenSpec.upto fnExactParseEventSpec)) fnExactParseEventUptoCard
end Rows
end Go.Proofs.YthfdnfhpihkihaaDoor
