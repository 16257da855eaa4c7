/-
  No cell of these rows narrows 'for every input' (looked for: loops, veiled, ifaces, maps, wideKeys, modest, calm, conditions, laid).
  DERIVED. THE GIVEN ROWS OF THIS SEAT. 7 by the template 'for every input the law returns true; each argument reads behind the call as it read before'; 0 by the template 'total and deterministic' (their statements: YtgflikakblfdpaaTotals.lean).
  GIVEN WITH THE SEED: the statements are not yours to turn. If you find one false, say at which input.
  Laid BY PROGRAM, IN A SANDBOX (cutbox-rows.mjs): the forced cells as the released guide's own fill.sh prints them over the translation 1f4347cb19c4b693… (all of the seat's roots in one cut). By AI agents, Wed Nov 11 2026. No macro, syntax, notation, axiom, sorry.
-/
import Derived.Test.YtgflikakblfdpaaChecked
import GoSem.Claim
import GoSem.ClaimJoined
import GoSem.ClaimMapViews
import Derived.JoinedTies
import Derived.KernelRfl
namespace Go.Proofs.Ytgflikakblfdpaa
/- THE CELL 'sum', in the pinned program and in every row, IS THE sha256 OF THE DUMP (.gsa) THAT YtgflikakblfdpaaProg.lean LOADS. Nothing in Lean hashes anything: it is a label: what it is worth is what the hold of that sum in a sandbox is worth. -/
noncomputable def Try.pinned : Pinned := { name := "ytgflikakblfdpaa", sum := "1f4347cb19c4b69325b489e1fcba34fceb46785689cc9f64b06653767bf36883", checked := Try.checked }
namespace Rows
def none {H : Type} : Left H := { results := [], args := [] }

/-- 'laws.FnLetters': WHATEVER THE INPUT: true; the input reads as it did. -/
def fnLettersSpec : ChangeSpec := { name := "fnLetters", fn := fun _ => fun
  | [d] => { results := [.lit (.bool true)], args := [d] }
  | _ => none }
def fnLettersRow : OpenClaim := { program := "ytgflikakblfdpaa", sum := "1f4347cb19c4b69325b489e1fcba34fceb46785689cc9f64b06653767bf36883", func := "loop.example/g01633/laws.FnLetters", spec := "fnLetters", unfollowed := true, recurses := true, apart := false }
def FnLettersSaid : Prop := fnLettersRow.holds Try.pinned (OpenSpec.ofChange fnLettersSpec)

/-- ITS FALSE NEIGHBOUR: 'it returns false'. Refute it at one input. -/
def fnLettersWrong : ChangeSpec := { name := "fnLetters", fn := fun _ => fun
  | [d] => { results := [.lit (.bool false)], args := [d] }
  | _ => none }
def FnLettersWrongFalsely : Prop := fnLettersRow.holds Try.pinned (OpenSpec.ofChange fnLettersWrong)

/-- 'laws.FnExactKnownRanges': WHATEVER THE INPUT: true; the input reads as it did. -/
def fnExactKnownRangesSpec : ChangeSpec := { name := "fnExactKnownRanges", fn := fun _ => fun
  | [d] => { results := [.lit (.bool true)], args := [d] }
  | _ => none }
def fnExactKnownRangesRow : OpenClaim := { program := "ytgflikakblfdpaa", sum := "1f4347cb19c4b69325b489e1fcba34fceb46785689cc9f64b06653767bf36883", func := "loop.example/g01633/laws.FnExactKnownRanges", spec := "fnExactKnownRanges", apart := false }
def FnExactKnownRangesSaid : Prop := fnExactKnownRangesRow.holds Try.pinned (OpenSpec.ofChange fnExactKnownRangesSpec)

/-- ITS FALSE NEIGHBOUR: 'it returns false'. Refute it at one input. -/
def fnExactKnownRangesWrong : ChangeSpec := { name := "fnExactKnownRanges", fn := fun _ => fun
  | [d] => { results := [.lit (.bool false)], args := [d] }
  | _ => none }
def FnExactKnownRangesWrongFalsely : Prop := fnExactKnownRangesRow.holds Try.pinned (OpenSpec.ofChange fnExactKnownRangesWrong)

/-- 'laws.FnExactCellsOf': WHATEVER THE INPUT: true; the input reads as it did. -/
def fnExactCellsOfSpec : ChangeSpec := { name := "fnExactCellsOf", fn := fun _ => fun
  | [d] => { results := [.lit (.bool true)], args := [d] }
  | _ => none }
def fnExactCellsOfRow : OpenClaim := { program := "ytgflikakblfdpaa", sum := "1f4347cb19c4b69325b489e1fcba34fceb46785689cc9f64b06653767bf36883", func := "loop.example/g01633/laws.FnExactCellsOf", spec := "fnExactCellsOf", apart := false }
def FnExactCellsOfSaid : Prop := fnExactCellsOfRow.holds Try.pinned (OpenSpec.ofChange fnExactCellsOfSpec)

/-- ITS FALSE NEIGHBOUR: 'it returns false'. Refute it at one input. -/
def fnExactCellsOfWrong : ChangeSpec := { name := "fnExactCellsOf", fn := fun _ => fun
  | [d] => { results := [.lit (.bool false)], args := [d] }
  | _ => none }
def FnExactCellsOfWrongFalsely : Prop := fnExactCellsOfRow.holds Try.pinned (OpenSpec.ofChange fnExactCellsOfWrong)

/-- 'laws.FnExactTrackOf': WHATEVER THE INPUT: true; the input reads as it did. -/
def fnExactTrackOfSpec : ChangeSpec := { name := "fnExactTrackOf", fn := fun _ => fun
  | [d1, d2, d3] => { results := [.lit (.bool true)], args := [d1, d2, d3] }
  | _ => none }
def fnExactTrackOfRow : OpenClaim := { program := "ytgflikakblfdpaa", sum := "1f4347cb19c4b69325b489e1fcba34fceb46785689cc9f64b06653767bf36883", func := "loop.example/g01633/laws.FnExactTrackOf", spec := "fnExactTrackOf", unfollowed := true, recurses := true, apart := false }
def FnExactTrackOfSaid : Prop := fnExactTrackOfRow.holds Try.pinned (OpenSpec.ofChange fnExactTrackOfSpec)

/-- ITS FALSE NEIGHBOUR: 'it returns false'. Refute it at one input. -/
def fnExactTrackOfWrong : ChangeSpec := { name := "fnExactTrackOf", fn := fun _ => fun
  | [d1, d2, d3] => { results := [.lit (.bool false)], args := [d1, d2, d3] }
  | _ => none }
def FnExactTrackOfWrongFalsely : Prop := fnExactTrackOfRow.holds Try.pinned (OpenSpec.ofChange fnExactTrackOfWrong)

/-- 'laws.FnExactPacketOf': WHATEVER THE INPUT: true; the input reads as it did. -/
def fnExactPacketOfSpec : ChangeSpec := { name := "fnExactPacketOf", fn := fun _ => fun
  | [d1, d2] => { results := [.lit (.bool true)], args := [d1, d2] }
  | _ => none }
def fnExactPacketOfRow : OpenClaim := { program := "ytgflikakblfdpaa", sum := "1f4347cb19c4b69325b489e1fcba34fceb46785689cc9f64b06653767bf36883", func := "loop.example/g01633/laws.FnExactPacketOf", spec := "fnExactPacketOf", unfollowed := true, recurses := true, apart := false }
def FnExactPacketOfSaid : Prop := fnExactPacketOfRow.holds Try.pinned (OpenSpec.ofChange fnExactPacketOfSpec)

/-- ITS FALSE NEIGHBOUR: 'it returns false'. Refute it at one input. -/
def fnExactPacketOfWrong : ChangeSpec := { name := "fnExactPacketOf", fn := fun _ => fun
  | [d1, d2] => { results := [.lit (.bool false)], args := [d1, d2] }
  | _ => none }
def FnExactPacketOfWrongFalsely : Prop := fnExactPacketOfRow.holds Try.pinned (OpenSpec.ofChange fnExactPacketOfWrong)

/-- 'laws.FnExactNewPair': WHATEVER THE INPUT: true; the input reads as it did. -/
def fnExactNewPairSpec : ChangeSpec := { name := "fnExactNewPair", fn := fun _ => fun
  | [d1, d2] => { results := [.lit (.bool true)], args := [d1, d2] }
  | _ => none }
def fnExactNewPairRow : OpenClaim := { program := "ytgflikakblfdpaa", sum := "1f4347cb19c4b69325b489e1fcba34fceb46785689cc9f64b06653767bf36883", func := "loop.example/g01633/laws.FnExactNewPair", spec := "fnExactNewPair", apart := false }
def FnExactNewPairSaid : Prop := fnExactNewPairRow.holds Try.pinned (OpenSpec.ofChange fnExactNewPairSpec)

/-- ITS FALSE NEIGHBOUR: 'it returns false'. Refute it at one input. -/
def fnExactNewPairWrong : ChangeSpec := { name := "fnExactNewPair", fn := fun _ => fun
  | [d1, d2] => { results := [.lit (.bool false)], args := [d1, d2] }
  | _ => none }
def FnExactNewPairWrongFalsely : Prop := fnExactNewPairRow.holds Try.pinned (OpenSpec.ofChange fnExactNewPairWrong)

/-- 'laws.FnExactLettersTo': WHATEVER THE INPUT: true; the input reads as it did. -/
def fnExactLettersToSpec : ChangeSpec := { name := "fnExactLettersTo", fn := fun _ => fun
  | [d1, d2] => { results := [.lit (.bool true)], args := [d1, d2] }
  | _ => none }
def fnExactLettersToRow : OpenClaim := { program := "ytgflikakblfdpaa", sum := "1f4347cb19c4b69325b489e1fcba34fceb46785689cc9f64b06653767bf36883", func := "loop.example/g01633/laws.FnExactLettersTo", spec := "fnExactLettersTo", apart := false }
def FnExactLettersToSaid : Prop := fnExactLettersToRow.holds Try.pinned (OpenSpec.ofChange fnExactLettersToSpec)

/-- ITS FALSE NEIGHBOUR: 'it returns false'. Refute it at one input. -/
def fnExactLettersToWrong : ChangeSpec := { name := "fnExactLettersTo", fn := fun _ => fun
  | [d1, d2] => { results := [.lit (.bool false)], args := [d1, d2] }
  | _ => none }
def FnExactLettersToWrongFalsely : Prop := fnExactLettersToRow.holds Try.pinned (OpenSpec.ofChange fnExactLettersToWrong)

/- THE SECOND FORM. 'bulk': how many values and letters a reading holds, each counted each time it is reached (what is shared counts as often as it is met; a slice's spare places count too). A statement '..UptoSaid' is the law's where the arguments, and the package variables that the reading takes, are together of bulk at most 1048576: NARROWER than '..Said'. Prove '..Said' where nothing that the law and all that it calls make is longer than what came in: it says more and counts as full. Else prove '..UptoSaid'. A law counts once. -/
mutual
def uptoBulk {H : Type} : DataW H → Nat
  | .lit (.string bytes) => bytes.length + 1
  | .lit _ => 1
  | .nil => 1
  | .ptr d => uptoBulk d + 1
  | .slice elems spare => uptoBulkAll elems + uptoBulkAll spare + 1
  | .agg parts => uptoBulkAll parts + 1
  | .iface _ d => uptoBulk d + 1
  | .map entries => uptoBulkEntries entries + 1
  | .held _ => 1
def uptoBulkAll {H : Type} : List (DataW H) → Nat
  | [] => 0
  | d :: r => uptoBulk d + uptoBulkAll r
def uptoBulkEntries {H : Type} : List (Lit × DataW H) → Nat
  | [] => 0
  | x :: r => uptoBulkEntry x + uptoBulkEntries r
def uptoBulkEntry {H : Type} : Lit × DataW H → Nat
  | (.string bytes, d) => bytes.length + uptoBulk d + 1
  | (_, d) => uptoBulk d + 1
 end
def uptoSmall : (H : Type) → List (DataW H) → Bool := fun _ ds => decide (uptoBulkAll ds ≤ 1048576)
def OpenSpec.upto (s : _root_.Go.ChangeSpec) : _root_.Go.OpenSpec := { _root_.Go.OpenSpec.ofChange s with cond := some uptoSmall }

/-- 'laws.FnLetters', WHERE WHAT IT READS IS OF BULK AT MOST 1048576: true; the input reads as it did. -/
def fnLettersUptoRow : OpenClaim := { program := "ytgflikakblfdpaa", sum := "1f4347cb19c4b69325b489e1fcba34fceb46785689cc9f64b06653767bf36883", func := "loop.example/g01633/laws.FnLetters", spec := "fnLetters", unfollowed := true, recurses := true, apart := false, narrowed := true }
def FnLettersUptoSaid : Prop := fnLettersUptoRow.holds Try.pinned (OpenSpec.upto fnLettersSpec)

/-- 'laws.FnExactKnownRanges', WHERE WHAT IT READS IS OF BULK AT MOST 1048576: true; the input reads as it did. -/
def fnExactKnownRangesUptoRow : OpenClaim := { program := "ytgflikakblfdpaa", sum := "1f4347cb19c4b69325b489e1fcba34fceb46785689cc9f64b06653767bf36883", func := "loop.example/g01633/laws.FnExactKnownRanges", spec := "fnExactKnownRanges", apart := false, narrowed := true }
def FnExactKnownRangesUptoSaid : Prop := fnExactKnownRangesUptoRow.holds Try.pinned (OpenSpec.upto fnExactKnownRangesSpec)

/-- 'laws.FnExactCellsOf', WHERE WHAT IT READS IS OF BULK AT MOST 1048576: true; the input reads as it did. -/
def fnExactCellsOfUptoRow : OpenClaim := { program := "ytgflikakblfdpaa", sum := "1f4347cb19c4b69325b489e1fcba34fceb46785689cc9f64b06653767bf36883", func := "loop.example/g01633/laws.FnExactCellsOf", spec := "fnExactCellsOf", apart := false, narrowed := true }
def FnExactCellsOfUptoSaid : Prop := fnExactCellsOfUptoRow.holds Try.pinned (OpenSpec.upto fnExactCellsOfSpec)

/-- 'laws.FnExactTrackOf', WHERE WHAT IT READS IS OF BULK AT MOST 1048576: true; the input reads as it did. -/
def fnExactTrackOfUptoRow : OpenClaim := { program := "ytgflikakblfdpaa", sum := "1f4347cb19c4b69325b489e1fcba34fceb46785689cc9f64b06653767bf36883", func := "loop.example/g01633/laws.FnExactTrackOf", spec := "fnExactTrackOf", unfollowed := true, recurses := true, apart := false, narrowed := true }
def FnExactTrackOfUptoSaid : Prop := fnExactTrackOfUptoRow.holds Try.pinned (OpenSpec.upto fnExactTrackOfSpec)

/-- 'laws.FnExactPacketOf', WHERE WHAT IT READS IS OF BULK AT MOST 1048576: true; the input reads as it did. -/
def fnExactPacketOfUptoRow : OpenClaim := { program := "ytgflikakblfdpaa", sum := "1f4347cb19c4b69325b489e1fcba34fceb46785689cc9f64b06653767bf36883", func := "loop.example/g01633/laws.FnExactPacketOf", spec := "fnExactPacketOf", unfollowed := true, recurses := true, apart := false, narrowed := true }
def FnExactPacketOfUptoSaid : Prop := fnExactPacketOfUptoRow.holds Try.pinned (OpenSpec.upto fnExactPacketOfSpec)

/-- 'laws.FnExactNewPair', WHERE WHAT IT READS IS OF BULK AT MOST 1048576: true; the input reads as it did. -/
def fnExactNewPairUptoRow : OpenClaim := { program := "ytgflikakblfdpaa", sum := "1f4347cb19c4b69325b489e1fcba34fceb46785689cc9f64b06653767bf36883", func := "loop.example/g01633/laws.FnExactNewPair", spec := "fnExactNewPair", apart := false, narrowed := true }
def FnExactNewPairUptoSaid : Prop := fnExactNewPairUptoRow.holds Try.pinned (OpenSpec.upto fnExactNewPairSpec)

/-- 'laws.FnExactLettersTo', WHERE WHAT IT READS IS OF BULK AT MOST 1048576: true; the input reads as it did. -/
def fnExactLettersToUptoRow : OpenClaim := { program := "ytgflikakblfdpaa", sum := "1f4347cb19c4b69325b489e1fcba34fceb46785689cc9f64b06653767bf36883", func := "loop.example/g01633/laws.FnExactLettersTo", spec := "fnExactLettersTo", apart := false, narrowed := true }
def FnExactLettersToUptoSaid : Prop := fnExactLettersToUptoRow.holds Try.pinned (OpenSpec.upto fnExactLettersToSpec)

end Rows
end Go.Proofs.Ytgflikakblfdpaa
