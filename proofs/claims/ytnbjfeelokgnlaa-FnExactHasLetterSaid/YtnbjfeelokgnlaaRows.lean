/-
  No cell of these rows narrows 'for every input' (looked for: loops, veiled, ifaces, maps, wideKeys, modest, calm, conditions, laid).
  DERIVED. THE GIVEN ROWS OF THIS SEAT. 5 by the template 'for every input the law returns true; each argument reads behind the call as it read before'; 0 by the template 'total and deterministic' (their statements: YtnbjfeelokgnlaaTotals.lean).
  GIVEN WITH THE SEED: the statements are not yours to turn. If you find one false, say at which input.
  Laid BY PROGRAM, IN A SANDBOX (cutbox-rows.mjs): the forced cells as the released guide's own fill.sh prints them over the translation f1cc4f170d3e2937… (all of the seat's roots in one cut). By AI agents, Wed Nov 11 2026. No macro, syntax, notation, axiom, sorry.
-/
import Derived.Test.YtnbjfeelokgnlaaChecked
import GoSem.Claim
import GoSem.ClaimJoined
import GoSem.ClaimMapViews
import Derived.JoinedTies
import Derived.KernelRfl
namespace Go.Proofs.Ytnbjfeelokgnlaa
/- THE CELL 'sum', in the pinned program and in every row, IS THE sha256 OF THE DUMP (.gsa) THAT YtnbjfeelokgnlaaProg.lean LOADS. Nothing in Lean hashes anything: it is a label: what it is worth is what the hold of that sum in a sandbox is worth. -/
noncomputable def Try.pinned : Pinned := { name := "ytnbjfeelokgnlaa", sum := "f1cc4f170d3e2937524992282bf398637fc5b878661bf64aee329431454c2621", checked := Try.checked }
namespace Rows
def none {H : Type} : Left H := { results := [], args := [] }

/-- 'laws.FnExactNewCells': WHATEVER THE INPUT: true; the input reads as it did. -/
def fnExactNewCellsSpec : ChangeSpec := { name := "fnExactNewCells", fn := fun _ => fun
  | [] => { results := [.lit (.bool true)], args := [] }
  | _ => none }
def fnExactNewCellsRow : OpenClaim := { program := "ytnbjfeelokgnlaa", sum := "f1cc4f170d3e2937524992282bf398637fc5b878661bf64aee329431454c2621", func := "loop.example/g01633/laws.FnExactNewCells", spec := "fnExactNewCells", apart := false }
def FnExactNewCellsSaid : Prop := fnExactNewCellsRow.holds Try.pinned (OpenSpec.ofChange fnExactNewCellsSpec)

/-- ITS FALSE NEIGHBOUR: 'it returns false'. Refute it at one input. -/
def fnExactNewCellsWrong : ChangeSpec := { name := "fnExactNewCells", fn := fun _ => fun
  | [] => { results := [.lit (.bool false)], args := [] }
  | _ => none }
def FnExactNewCellsWrongFalsely : Prop := fnExactNewCellsRow.holds Try.pinned (OpenSpec.ofChange fnExactNewCellsWrong)

/-- 'laws.FnExactIsCells': WHATEVER THE INPUT: true; the input reads as it did. -/
def fnExactIsCellsSpec : ChangeSpec := { name := "fnExactIsCells", fn := fun _ => fun
  | [d] => { results := [.lit (.bool true)], args := [d] }
  | _ => none }
def fnExactIsCellsRow : OpenClaim := { program := "ytnbjfeelokgnlaa", sum := "f1cc4f170d3e2937524992282bf398637fc5b878661bf64aee329431454c2621", func := "loop.example/g01633/laws.FnExactIsCells", spec := "fnExactIsCells", apart := false }
def FnExactIsCellsSaid : Prop := fnExactIsCellsRow.holds Try.pinned (OpenSpec.ofChange fnExactIsCellsSpec)

/-- ITS FALSE NEIGHBOUR: 'it returns false'. Refute it at one input. -/
def fnExactIsCellsWrong : ChangeSpec := { name := "fnExactIsCells", fn := fun _ => fun
  | [d] => { results := [.lit (.bool false)], args := [d] }
  | _ => none }
def FnExactIsCellsWrongFalsely : Prop := fnExactIsCellsRow.holds Try.pinned (OpenSpec.ofChange fnExactIsCellsWrong)

/-- 'laws.FnExactEqualCells': WHATEVER THE INPUT: true; the input reads as it did. -/
def fnExactEqualCellsSpec : ChangeSpec := { name := "fnExactEqualCells", fn := fun _ => fun
  | [d1, d2] => { results := [.lit (.bool true)], args := [d1, d2] }
  | _ => none }
def fnExactEqualCellsRow : OpenClaim := { program := "ytnbjfeelokgnlaa", sum := "f1cc4f170d3e2937524992282bf398637fc5b878661bf64aee329431454c2621", func := "loop.example/g01633/laws.FnExactEqualCells", spec := "fnExactEqualCells", apart := false }
def FnExactEqualCellsSaid : Prop := fnExactEqualCellsRow.holds Try.pinned (OpenSpec.ofChange fnExactEqualCellsSpec)

/-- ITS FALSE NEIGHBOUR: 'it returns false'. Refute it at one input. -/
def fnExactEqualCellsWrong : ChangeSpec := { name := "fnExactEqualCells", fn := fun _ => fun
  | [d1, d2] => { results := [.lit (.bool false)], args := [d1, d2] }
  | _ => none }
def FnExactEqualCellsWrongFalsely : Prop := fnExactEqualCellsRow.holds Try.pinned (OpenSpec.ofChange fnExactEqualCellsWrong)

/-- 'laws.FnExactHasLetter': WHATEVER THE INPUT: true; the input reads as it did. -/
def fnExactHasLetterSpec : ChangeSpec := { name := "fnExactHasLetter", fn := fun _ => fun
  | [d1, d2] => { results := [.lit (.bool true)], args := [d1, d2] }
  | _ => none }
def fnExactHasLetterRow : OpenClaim := { program := "ytnbjfeelokgnlaa", sum := "f1cc4f170d3e2937524992282bf398637fc5b878661bf64aee329431454c2621", func := "loop.example/g01633/laws.FnExactHasLetter", spec := "fnExactHasLetter", unfollowed := true, recurses := true, apart := false }
def FnExactHasLetterSaid : Prop := fnExactHasLetterRow.holds Try.pinned (OpenSpec.ofChange fnExactHasLetterSpec)

/-- ITS FALSE NEIGHBOUR: 'it returns false'. Refute it at one input. -/
def fnExactHasLetterWrong : ChangeSpec := { name := "fnExactHasLetter", fn := fun _ => fun
  | [d1, d2] => { results := [.lit (.bool false)], args := [d1, d2] }
  | _ => none }
def FnExactHasLetterWrongFalsely : Prop := fnExactHasLetterRow.holds Try.pinned (OpenSpec.ofChange fnExactHasLetterWrong)

/-- 'laws.FnExactSameLetters': WHATEVER THE INPUT: true; the input reads as it did. -/
def fnExactSameLettersSpec : ChangeSpec := { name := "fnExactSameLetters", fn := fun _ => fun
  | [d1, d2] => { results := [.lit (.bool true)], args := [d1, d2] }
  | _ => none }
def fnExactSameLettersRow : OpenClaim := { program := "ytnbjfeelokgnlaa", sum := "f1cc4f170d3e2937524992282bf398637fc5b878661bf64aee329431454c2621", func := "loop.example/g01633/laws.FnExactSameLetters", spec := "fnExactSameLetters", apart := false }
def FnExactSameLettersSaid : Prop := fnExactSameLettersRow.holds Try.pinned (OpenSpec.ofChange fnExactSameLettersSpec)

/-- ITS FALSE NEIGHBOUR: 'it returns false'. Refute it at one input. -/
def fnExactSameLettersWrong : ChangeSpec := { name := "fnExactSameLetters", fn := fun _ => fun
  | [d1, d2] => { results := [.lit (.bool false)], args := [d1, d2] }
  | _ => none }
def FnExactSameLettersWrongFalsely : Prop := fnExactSameLettersRow.holds Try.pinned (OpenSpec.ofChange fnExactSameLettersWrong)

/- THE SECOND FORM. 'bulk': how many values and letters a reading holds, each counted each time it is reached (what is shared counts as often as it is met; a slice's spare places count too). A statement '..UptoSaid' is the law's where the arguments, and the package variables that the reading takes, are together of bulk at most 1048576: NARROWER than '..Said'. Prove '..Said' where nothing that the law and all that it calls make is longer than what came in: it says more and counts as full. Else prove '..UptoSaid'. A law counts once. -/
mutual
def uptoBulk {H : Type} : DataW H → Nat
  | .lit (.string bytes) => bytes.length + 1
  | .lit _ => 1
  | .nil => 1
  | .ptr d => uptoBulk d + 1
  | .slice elems spare => uptoBulkAll elems + uptoBulkAll spare + 1
  | .agg parts => uptoBulkAll parts + 1
  | .iface _ d => uptoBulk d + 1
  | .map entries => uptoBulkEntries entries + 1
  | .held _ => 1
def uptoBulkAll {H : Type} : List (DataW H) → Nat
  | [] => 0
  | d :: r => uptoBulk d + uptoBulkAll r
def uptoBulkEntries {H : Type} : List (Lit × DataW H) → Nat
  | [] => 0
  | x :: r => uptoBulkEntry x + uptoBulkEntries r
def uptoBulkEntry {H : Type} : Lit × DataW H → Nat
  | (.string bytes, d) => bytes.length + uptoBulk d + 1
  | (_, d) => uptoBulk d + 1
 end
def uptoSmall : (H : Type) → List (DataW H) → Bool := fun _ ds => decide (uptoBulkAll ds ≤ 1048576)
def OpenSpec.upto (s : _root_.Go.ChangeSpec) : _root_.Go.OpenSpec := { _root_.Go.OpenSpec.ofChange s with cond := some uptoSmall }

/-- 'laws.FnExactNewCells', WHERE WHAT IT READS IS OF BULK AT MOST 1048576: true; the input reads as it did. -/
def fnExactNewCellsUptoRow : OpenClaim := { program := "ytnbjfeelokgnlaa", sum := "f1cc4f170d3e2937524992282bf398637fc5b878661bf64aee329431454c2621", func := "loop.example/g01633/laws.FnExactNewCells", spec := "fnExactNewCells", apart := false, narrowed := true }
def FnExactNewCellsUptoSaid : Prop := fnExactNewCellsUptoRow.holds Try.pinned (OpenSpec.upto fnExactNewCellsSpec)

/-- 'laws.FnExactIsCells', WHERE WHAT IT READS IS OF BULK AT MOST 1048576: true; the input reads as it did. -/
def fnExactIsCellsUptoRow : OpenClaim := { program := "ytnbjfeelokgnlaa", sum := "f1cc4f170d3e2937524992282bf398637fc5b878661bf64aee329431454c2621", func := "loop.example/g01633/laws.FnExactIsCells", spec := "fnExactIsCells", apart := false, narrowed := true }
def FnExactIsCellsUptoSaid : Prop := fnExactIsCellsUptoRow.holds Try.pinned (OpenSpec.upto fnExactIsCellsSpec)

/-- 'laws.FnExactEqualCells', WHERE WHAT IT READS IS OF BULK AT MOST 1048576: true; the input reads as it did. -/
def fnExactEqualCellsUptoRow : OpenClaim := { program := "ytnbjfeelokgnlaa", sum := "f1cc4f170d3e2937524992282bf398637fc5b878661bf64aee329431454c2621", func := "loop.example/g01633/laws.FnExactEqualCells", spec := "fnExactEqualCells", apart := false, narrowed := true }
def FnExactEqualCellsUptoSaid : Prop := fnExactEqualCellsUptoRow.holds Try.pinned (OpenSpec.upto fnExactEqualCellsSpec)

/-- 'laws.FnExactHasLetter', WHERE WHAT IT READS IS OF BULK AT MOST 1048576: true; the input reads as it did. -/
def fnExactHasLetterUptoRow : OpenClaim := { program := "ytnbjfeelokgnlaa", sum := "f1cc4f170d3e2937524992282bf398637fc5b878661bf64aee329431454c2621", func := "loop.example/g01633/laws.FnExactHasLetter", spec := "fnExactHasLetter", unfollowed := true, recurses := true, apart := false, narrowed := true }
def FnExactHasLetterUptoSaid : Prop := fnExactHasLetterUptoRow.holds Try.pinned (OpenSpec.upto fnExactHasLetterSpec)

/-- 'laws.FnExactSameLetters', WHERE WHAT IT READS IS OF BULK AT MOST 1048576: true; the input reads as it did. -/
def fnExactSameLettersUptoRow : OpenClaim := { program := "ytnbjfeelokgnlaa", sum := "f1cc4f170d3e2937524992282bf398637fc5b878661bf64aee329431454c2621", func := "loop.example/g01633/laws.FnExactSameLetters", spec := "fnExactSameLetters", apart := false, narrowed := true }
def FnExactSameLettersUptoSaid : Prop := fnExactSameLettersUptoRow.holds Try.pinned (OpenSpec.upto fnExactSameLettersSpec)

end Rows
end Go.Proofs.Ytnbjfeelokgnlaa
