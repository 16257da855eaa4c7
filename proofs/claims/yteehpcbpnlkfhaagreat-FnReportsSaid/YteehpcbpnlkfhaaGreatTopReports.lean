/-
  'laws.FnReports' returns true, for every input, and leaves what it was handed as it was. Conditions: none beyond the statement's own.
-/
import Derived.Test.YteehpcbpnlkfhaaGreatTopReportsA
import Derived.Test.YteehpcbpnlkfhaaGreatRows
import Derived.ProofKit
import Derived.Below
import Derived.ChangeSame
import GoSem.ClaimChange
namespace Go.Proofs.YteehpcbpnlkfhaaGreat
open Go.ChangeShapes Go.WideShapes Go.ChangeAt Go.RowKit
theorem jf_ip : (Rows.fnReportsRow.inPlace == Tryz.prog.inPlace 3) = true := by kernel_rfl
theorem jf_uf : (Rows.fnReportsRow.unfollowed == Tryz.prog.unfollowed 3) = true := by kernel_rfl
theorem jf_rc : (Rows.fnReportsRow.recurses == Tryz.prog.recurses 3) = true := by kernel_rfl
theorem jf_nm : (Rows.fnReportsRow.named == Tryz.prog.varsNamed 3) = true := by kernel_rfl
theorem jf : joinedFacts Tryz.prog 3 Tryz.f3 Rows.fnReportsSpec Rows.fnReportsRow = true := by
  unfold joinedFacts
  simp only [Bool.and_eq_true]
  repeat' apply And.intro
  all_goals first | with_reducible exact jf_ip | with_reducible exact jf_uf | with_reducible exact jf_rc | with_reducible exact jf_nm | with_reducible exact Tryz.laidOut | (as_aux_lemma => kernel_rfl)
theorem reports_holds : Rows.FnReportsSaid :=
  OpenClaim.holds_of_wide 3 Tryz.f3 rfl rfl rfl rfl rfl rfl rfl ⟨rfl, rfl, rfl, rfl, rfl⟩ rfl rfl rfl rfl rfl (by kernel_rfl) Tryz.func3 jf
    (of_decide_eq_true (by kernel_rfl)) (by unfold Func.isWrapper; first | (rw [if_pos (by decide +kernel)]; kernel_rfl) | (rw [if_neg (by decide +kernel)]; exact ⟨rfl, rfl⟩))
    (fun os started H enc _ => fnReports_lifted os started H enc)
end Go.Proofs.YteehpcbpnlkfhaaGreat
