/-
  No cell of these rows narrows 'for every input' (looked for: loops, veiled, ifaces, maps, wideKeys, modest, calm, conditions, laid).
  DERIVED. THE GIVEN ROWS OF THIS SEAT. 6 by the template 'for every input the law returns true; each argument reads behind the call as it read before'; 0 by the template 'total and deterministic' (their statements: YtnbjfeelokgnlabTotals.lean).
  GIVEN WITH THE SEED: the statements are not yours to turn. If you find one false, say at which input.
  Laid BY PROGRAM, IN A SANDBOX (cutbox-rows.mjs): the forced cells as the released guide's own fill.sh prints them over the translation dfdaf58621534c71… (all of the seat's roots in one cut). By AI agents, Wed Nov 11 2026. No macro, syntax, notation, axiom, sorry.
-/
import Derived.Test.YtnbjfeelokgnlabChecked
import GoSem.Claim
import GoSem.ClaimJoined
import GoSem.ClaimMapViews
import Derived.JoinedTies
import Derived.KernelRfl
namespace Go.Proofs.Ytnbjfeelokgnlab
/- THE CELL 'sum', in the pinned program and in every row, IS THE sha256 OF THE DUMP (.gsa) THAT YtnbjfeelokgnlabProg.lean LOADS. Nothing in Lean hashes anything: it is a label: what it is worth is what the hold of that sum in a sandbox is worth. -/
noncomputable def Try.pinned : Pinned := { name := "ytnbjfeelokgnlab", sum := "dfdaf58621534c71668028fb2ff671f5d02db372ce4704cec5edb30b691ae008", checked := Try.checked }
namespace Rows
def none {H : Type} : Left H := { results := [], args := [] }

/-- 'laws.FnExactAreLetters': WHATEVER THE INPUT: true; the input reads as it did. -/
def fnExactAreLettersSpec : ChangeSpec := { name := "fnExactAreLetters", fn := fun _ => fun
  | [d] => { results := [.lit (.bool true)], args := [d] }
  | _ => none }
def fnExactAreLettersRow : OpenClaim := { program := "ytnbjfeelokgnlab", sum := "dfdaf58621534c71668028fb2ff671f5d02db372ce4704cec5edb30b691ae008", func := "loop.example/g01633/laws.FnExactAreLetters", spec := "fnExactAreLetters", unfollowed := true, recurses := true, apart := false }
def FnExactAreLettersSaid : Prop := fnExactAreLettersRow.holds Try.pinned (OpenSpec.ofChange fnExactAreLettersSpec)

/-- ITS FALSE NEIGHBOUR: 'it returns false'. Refute it at one input. -/
def fnExactAreLettersWrong : ChangeSpec := { name := "fnExactAreLetters", fn := fun _ => fun
  | [d] => { results := [.lit (.bool false)], args := [d] }
  | _ => none }
def FnExactAreLettersWrongFalsely : Prop := fnExactAreLettersRow.holds Try.pinned (OpenSpec.ofChange fnExactAreLettersWrong)

/-- 'laws.FnCells': WHATEVER THE INPUT: true; the input reads as it did. -/
def fnCellsSpec : ChangeSpec := { name := "fnCells", fn := fun _ => fun
  | [d] => { results := [.lit (.bool true)], args := [d] }
  | _ => none }
def fnCellsRow : OpenClaim := { program := "ytnbjfeelokgnlab", sum := "dfdaf58621534c71668028fb2ff671f5d02db372ce4704cec5edb30b691ae008", func := "loop.example/g01633/laws.FnCells", spec := "fnCells", unfollowed := true, recurses := true, apart := false }
def FnCellsSaid : Prop := fnCellsRow.holds Try.pinned (OpenSpec.ofChange fnCellsSpec)

/-- ITS FALSE NEIGHBOUR: 'it returns false'. Refute it at one input. -/
def fnCellsWrong : ChangeSpec := { name := "fnCells", fn := fun _ => fun
  | [d] => { results := [.lit (.bool false)], args := [d] }
  | _ => none }
def FnCellsWrongFalsely : Prop := fnCellsRow.holds Try.pinned (OpenSpec.ofChange fnCellsWrong)

/-- 'laws.FnExactPutLetter': WHATEVER THE INPUT: true; the input reads as it did. -/
def fnExactPutLetterSpec : ChangeSpec := { name := "fnExactPutLetter", fn := fun _ => fun
  | [d1, d2] => { results := [.lit (.bool true)], args := [d1, d2] }
  | _ => none }
def fnExactPutLetterRow : OpenClaim := { program := "ytnbjfeelokgnlab", sum := "dfdaf58621534c71668028fb2ff671f5d02db372ce4704cec5edb30b691ae008", func := "loop.example/g01633/laws.FnExactPutLetter", spec := "fnExactPutLetter", apart := false }
def FnExactPutLetterSaid : Prop := fnExactPutLetterRow.holds Try.pinned (OpenSpec.ofChange fnExactPutLetterSpec)

/-- ITS FALSE NEIGHBOUR: 'it returns false'. Refute it at one input. -/
def fnExactPutLetterWrong : ChangeSpec := { name := "fnExactPutLetter", fn := fun _ => fun
  | [d1, d2] => { results := [.lit (.bool false)], args := [d1, d2] }
  | _ => none }
def FnExactPutLetterWrongFalsely : Prop := fnExactPutLetterRow.holds Try.pinned (OpenSpec.ofChange fnExactPutLetterWrong)

/-- 'laws.FnExactCopyLetter': WHATEVER THE INPUT: true; the input reads as it did. -/
def fnExactCopyLetterSpec : ChangeSpec := { name := "fnExactCopyLetter", fn := fun _ => fun
  | [d1, d2] => { results := [.lit (.bool true)], args := [d1, d2] }
  | _ => none }
def fnExactCopyLetterRow : OpenClaim := { program := "ytnbjfeelokgnlab", sum := "dfdaf58621534c71668028fb2ff671f5d02db372ce4704cec5edb30b691ae008", func := "loop.example/g01633/laws.FnExactCopyLetter", spec := "fnExactCopyLetter", apart := false }
def FnExactCopyLetterSaid : Prop := fnExactCopyLetterRow.holds Try.pinned (OpenSpec.ofChange fnExactCopyLetterSpec)

/-- ITS FALSE NEIGHBOUR: 'it returns false'. Refute it at one input. -/
def fnExactCopyLetterWrong : ChangeSpec := { name := "fnExactCopyLetter", fn := fun _ => fun
  | [d1, d2] => { results := [.lit (.bool false)], args := [d1, d2] }
  | _ => none }
def FnExactCopyLetterWrongFalsely : Prop := fnExactCopyLetterRow.holds Try.pinned (OpenSpec.ofChange fnExactCopyLetterWrong)

/-- 'laws.FnExactTakeLetter': WHATEVER THE INPUT: true; the input reads as it did. -/
def fnExactTakeLetterSpec : ChangeSpec := { name := "fnExactTakeLetter", fn := fun _ => fun
  | [d1, d2] => { results := [.lit (.bool true)], args := [d1, d2] }
  | _ => none }
def fnExactTakeLetterRow : OpenClaim := { program := "ytnbjfeelokgnlab", sum := "dfdaf58621534c71668028fb2ff671f5d02db372ce4704cec5edb30b691ae008", func := "loop.example/g01633/laws.FnExactTakeLetter", spec := "fnExactTakeLetter", apart := false }
def FnExactTakeLetterSaid : Prop := fnExactTakeLetterRow.holds Try.pinned (OpenSpec.ofChange fnExactTakeLetterSpec)

/-- ITS FALSE NEIGHBOUR: 'it returns false'. Refute it at one input. -/
def fnExactTakeLetterWrong : ChangeSpec := { name := "fnExactTakeLetter", fn := fun _ => fun
  | [d1, d2] => { results := [.lit (.bool false)], args := [d1, d2] }
  | _ => none }
def FnExactTakeLetterWrongFalsely : Prop := fnExactTakeLetterRow.holds Try.pinned (OpenSpec.ofChange fnExactTakeLetterWrong)

/-- 'laws.FnExactPutCells': WHATEVER THE INPUT: true; the input reads as it did. -/
def fnExactPutCellsSpec : ChangeSpec := { name := "fnExactPutCells", fn := fun _ => fun
  | [d1, d2, d3] => { results := [.lit (.bool true)], args := [d1, d2, d3] }
  | _ => none }
def fnExactPutCellsRow : OpenClaim := { program := "ytnbjfeelokgnlab", sum := "dfdaf58621534c71668028fb2ff671f5d02db372ce4704cec5edb30b691ae008", func := "loop.example/g01633/laws.FnExactPutCells", spec := "fnExactPutCells", apart := false }
def FnExactPutCellsSaid : Prop := fnExactPutCellsRow.holds Try.pinned (OpenSpec.ofChange fnExactPutCellsSpec)

/-- ITS FALSE NEIGHBOUR: 'it returns false'. Refute it at one input. -/
def fnExactPutCellsWrong : ChangeSpec := { name := "fnExactPutCells", fn := fun _ => fun
  | [d1, d2, d3] => { results := [.lit (.bool false)], args := [d1, d2, d3] }
  | _ => none }
def FnExactPutCellsWrongFalsely : Prop := fnExactPutCellsRow.holds Try.pinned (OpenSpec.ofChange fnExactPutCellsWrong)

/- THE SECOND FORM. 'bulk': how many values and letters a reading holds, each counted each time it is reached (what is shared counts as often as it is met; a slice's spare places count too). A statement '..UptoSaid' is the law's where the arguments, and the package variables that the reading takes, are together of bulk at most 1048576: NARROWER than '..Said'. Prove '..Said' where nothing that the law and all that it calls make is longer than what came in: it says more and counts as full. Else prove '..UptoSaid'. A law counts once. -/
mutual
def uptoBulk {H : Type} : DataW H → Nat
  | .lit (.string bytes) => bytes.length + 1
  | .lit _ => 1
  | .nil => 1
  | .ptr d => uptoBulk d + 1
  | .slice elems spare => uptoBulkAll elems + uptoBulkAll spare + 1
  | .agg parts => uptoBulkAll parts + 1
  | .iface _ d => uptoBulk d + 1
  | .map entries => uptoBulkEntries entries + 1
  | .held _ => 1
def uptoBulkAll {H : Type} : List (DataW H) → Nat
  | [] => 0
  | d :: r => uptoBulk d + uptoBulkAll r
def uptoBulkEntries {H : Type} : List (Lit × DataW H) → Nat
  | [] => 0
  | x :: r => uptoBulkEntry x + uptoBulkEntries r
def uptoBulkEntry {H : Type} : Lit × DataW H → Nat
  | (.string bytes, d) => bytes.length + uptoBulk d + 1
  | (_, d) => uptoBulk d + 1
 end
def uptoSmall : (H : Type) → List (DataW H) → Bool := fun _ ds => decide (uptoBulkAll ds ≤ 1048576)
def OpenSpec.upto (s : _root_.Go.ChangeSpec) : _root_.Go.OpenSpec := { _root_.Go.OpenSpec.ofChange s with cond := some uptoSmall }

/-- 'laws.FnExactAreLetters', WHERE WHAT IT READS IS OF BULK AT MOST 1048576: true; the input reads as it did. -/
def fnExactAreLettersUptoRow : OpenClaim := { program := "ytnbjfeelokgnlab", sum := "dfdaf58621534c71668028fb2ff671f5d02db372ce4704cec5edb30b691ae008", func := "loop.example/g01633/laws.FnExactAreLetters", spec := "fnExactAreLetters", unfollowed := true, recurses := true, apart := false, narrowed := true }
def FnExactAreLettersUptoSaid : Prop := fnExactAreLettersUptoRow.holds Try.pinned (OpenSpec.upto fnExactAreLettersSpec)

/-- 'laws.FnCells', WHERE WHAT IT READS IS OF BULK AT MOST 1048576: true; the input reads as it did. -/
def fnCellsUptoRow : OpenClaim := { program := "ytnbjfeelokgnlab", sum := "dfdaf58621534c71668028fb2ff671f5d02db372ce4704cec5edb30b691ae008", func := "loop.example/g01633/laws.FnCells", spec := "fnCells", unfollowed := true, recurses := true, apart := false, narrowed := true }
def FnCellsUptoSaid : Prop := fnCellsUptoRow.holds Try.pinned (OpenSpec.upto fnCellsSpec)

/-- 'laws.FnExactPutLetter', WHERE WHAT IT READS IS OF BULK AT MOST 1048576: true; the input reads as it did. -/
def fnExactPutLetterUptoRow : OpenClaim := { program := "ytnbjfeelokgnlab", sum := "dfdaf58621534c71668028fb2ff671f5d02db372ce4704cec5edb30b691ae008", func := "loop.example/g01633/laws.FnExactPutLetter", spec := "fnExactPutLetter", apart := false, narrowed := true }
def FnExactPutLetterUptoSaid : Prop := fnExactPutLetterUptoRow.holds Try.pinned (OpenSpec.upto fnExactPutLetterSpec)

/-- 'laws.FnExactCopyLetter', WHERE WHAT IT READS IS OF BULK AT MOST 1048576: true; the input reads as it did. -/
def fnExactCopyLetterUptoRow : OpenClaim := { program := "ytnbjfeelokgnlab", sum := "dfdaf58621534c71668028fb2ff671f5d02db372ce4704cec5edb30b691ae008", func := "loop.example/g01633/laws.FnExactCopyLetter", spec := "fnExactCopyLetter", apart := false, narrowed := true }
def FnExactCopyLetterUptoSaid : Prop := fnExactCopyLetterUptoRow.holds Try.pinned (OpenSpec.upto fnExactCopyLetterSpec)

/-- 'laws.FnExactTakeLetter', WHERE WHAT IT READS IS OF BULK AT MOST 1048576: true; the input reads as it did. -/
def fnExactTakeLetterUptoRow : OpenClaim := { program := "ytnbjfeelokgnlab", sum := "dfdaf58621534c71668028fb2ff671f5d02db372ce4704cec5edb30b691ae008", func := "loop.example/g01633/laws.FnExactTakeLetter", spec := "fnExactTakeLetter", apart := false, narrowed := true }
def FnExactTakeLetterUptoSaid : Prop := fnExactTakeLetterUptoRow.holds Try.pinned (OpenSpec.upto fnExactTakeLetterSpec)

/-- 'laws.FnExactPutCells', WHERE WHAT IT READS IS OF BULK AT MOST 1048576: true; the input reads as it did. -/
def fnExactPutCellsUptoRow : OpenClaim := { program := "ytnbjfeelokgnlab", sum := "dfdaf58621534c71668028fb2ff671f5d02db372ce4704cec5edb30b691ae008", func := "loop.example/g01633/laws.FnExactPutCells", spec := "fnExactPutCells", apart := false, narrowed := true }
def FnExactPutCellsUptoSaid : Prop := fnExactPutCellsUptoRow.holds Try.pinned (OpenSpec.upto fnExactPutCellsSpec)

end Rows
end Go.Proofs.Ytnbjfeelokgnlab
