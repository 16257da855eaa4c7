/-
  The law 'laws.FnExactEventWord', as a function.
-/
import Derived.Test.YtnbjfeelokgnlaaDoorEventWord
namespace Gv
open Go Go.Proofs

set_option maxRecDepth 100000 in
theorem laws_FnExactEventWord (x0 : Int) : PureCall Tryd.prog 3 [.one (.int .i64 x0)] [.one (.bool true)] := by
  refine pure_ev Tryd.func3 rfl Tryd.call3 Tryd.checked.mixed [.d (.int .i64 x0), .junk, .junk, .junk, .junk, .junk, .junk, .junk, .junk, .junk, .junk, .junk] rfl [.tmp 2] rfl ?_
  intro ok
  simp only [go_sem, List.length_map]
  try simp only [go_sem, List.length_map]
  repeat' (first
    | (refine CallS.intro (by first | (apply spec_EventWord <;> first | assumption | omega) | (apply impl_EventWord <;> first | assumption | omega)) ?_; simp only [go_sem, List.length_map])
    | (refine CallK.intro (by first | (apply spec_EventWord <;> first | assumption | omega) | (apply impl_EventWord <;> first | assumption | omega)) ?_; simp only [go_sem, List.length_map])
    | (with_reducible refine gTrueS ?_; simp only [go_sem, List.length_map]) | (with_reducible refine gFalseS ?_; simp only [go_sem, List.length_map]) | (with_reducible refine gTrue ?_; simp only [go_sem, List.length_map]) | (with_reducible refine gFalse ?_; simp only [go_sem, List.length_map])
    | (refine gSymS ?_; simp only [go_sem, List.length_map]) | (refine gSym ?_; simp only [go_sem, List.length_map])
    | (refine cSplit (fun h => ?_) (fun h => ?_) <;> simp only [go_sem, List.length_map])
    | (with_reducible refine And.intro ?_ ?_; (focus (first | omega | (exact ⟨by omega, by omega⟩) | (simp; done)))))
  all_goals simp_all
end Gv
