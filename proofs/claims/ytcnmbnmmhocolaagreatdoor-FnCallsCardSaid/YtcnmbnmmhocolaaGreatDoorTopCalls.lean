/-
  'laws.FnCalls' returns true, for every input, and leaves what it was handed as it was. Conditions: none beyond the statement's own.
-/
import Derived.Test.YtcnmbnmmhocolaaGreatDoorTopCallsA
import Derived.Test.YtcnmbnmmhocolaaGreatDoorRows
import Derived.ProofKit
import Derived.Below
import Derived.ChangeSame
import Derived.Test.YtcnmbnmmhocolaaGreatDoorCards
import Derived.Test.YtcnmbnmmhocolaaGreatDoorTie
import Derived.LaidMore
import Derived.OpenShut
import Derived.ChangeArms
import Derived.Stop.Joined
import Derived.Lib.LaidTab
import Derived.Stop.LaidErr
import Derived.SevenTiedAt
import Derived.Lay
import GoSem.ClaimChange
namespace Go.Proofs.YtcnmbnmmhocolaaGreatDoor
open Go.ChangeShapes Go.WideShapes Go.ChangeAt Go.RowKit
theorem cl_lk : false = Tryz.prog.looks [] := by kernel_rfl
theorem cl_go : false = Rows.fnCallsRow.goesBy Tryz.prog := by kernel_rfl
theorem cl_fn : Tryz.prog.funcNamed "loop.example/g01633/laws.FnCalls" = some 3 := by kernel_rfl
theorem cl_ws : ([22].all fun u => !Tryz.prog.wantsStandIn u) = true := by kernel_rfl
theorem cl_mn : Tryz.prog.mainIs = some (true, "fc6054442c5a1aa24ef38df4a39e1d175c6d0f308c9b1c551f798e3323370302".toList) := by kernel_rfl
theorem cl_wf : Rows.fnCallsRow.wfByText (OpenSpec.ofChange Rows.fnCallsSpec) = true := by kernel_rfl
theorem calls_holds : Rows.FnCallsCardSaid :=
  Claim7.holds_tied_plain_at .later [] [.data, .pinned] true (true, "fc6054442c5a1aa24ef38df4a39e1d175c6d0f308c9b1c551f798e3323370302") false
    calls_row (fun _ h => by cases h) cl_wf (fun _ h => by cases h) fnCalls_row_tie rfl ⟨rfl, rfl⟩ cl_mn rfl
    (fun f fn hf hfn => by
      obtain rfl : f = 3 := Option.some.inj (cl_fn.symm.trans hf) |>.symm
      obtain rfl : fn = Tryz.f3 := (Option.some.inj (Tryz.func3.symm.trans hfn)).symm
      exact ⟨cl_lk, fun j t ht => by
        rw [Tryz.params3] at ht
        have hm : t ∈ [22] := by simpa using Array.mem_of_getElem? ht
        exact (show Tryz.prog.wantsStandIn t = false by simpa using List.all_eq_true.1 cl_ws t hm)⟩)
    cl_go
end Go.Proofs.YtcnmbnmmhocolaaGreatDoor
