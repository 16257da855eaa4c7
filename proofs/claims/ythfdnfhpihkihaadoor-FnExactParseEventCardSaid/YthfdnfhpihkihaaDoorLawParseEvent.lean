/-
  The law 'laws.FnExactParseEvent', as a function.
-/
import Derived.Test.YthfdnfhpihkihaaDoorParRt
namespace Gv
open Go Go.Proofs

set_option maxRecDepth 100000 in
theorem laws_FnExactParseEvent (x0 : List UInt8) : PureCall Tryd.prog 4 [.one (.str x0)] [.one (.bool true)] := by
  refine pure_ev Tryd.func4 rfl Tryd.call4 Tryd.checked.mixed [.d (.str x0), .junk, .junk, .junk, .junk, .junk, .junk, .junk, .junk, .junk, .junk, .junk, .junk, .junk, .junk, .junk, .junk, .junk, .junk, .junk, .junk, .junk, .junk, .junk, .junk, .junk, .junk, .junk, .junk] rfl [.tmp 2] rfl ?_
  intro ok
  simp only [go_sem]
  refine cSplit (fun h => ?_) (fun h => ?_)
  · simp only [go_sem]
  have hl : x0.length ≤ 1048576 := by have := of_decide_eq_false h; omega
  have g1 := spec_ParseEvent x0 hl
  rw [agree] at g1
  have g2 := impl_ParseEvent x0 hl
  generalize impPE x0 = r at g1 g2
  simp only [go_sem]
  try simp only [go_sem]
  repeat' (first
    | (refine CallS.intro (by first | assumption | (apply spec_ParseEvent <;> first | assumption | omega) | (apply impl_ParseEvent <;> first | assumption | omega) | (apply laws_eqEvent <;> first | assumption | omega)) ?_; simp only [go_sem])
    | (refine CallK.intro (by first | assumption | (apply spec_ParseEvent <;> first | assumption | omega) | (apply impl_ParseEvent <;> first | assumption | omega) | (apply laws_eqEvent <;> first | assumption | omega)) ?_; simp only [go_sem])
    | (with_reducible refine gTrueS ?_; simp only [go_sem]) | (with_reducible refine gFalseS ?_; simp only [go_sem]) | (with_reducible refine gTrue ?_; simp only [go_sem]) | (with_reducible refine gFalse ?_; simp only [go_sem])
    | (refine gSymS ?_; simp only [go_sem]) | (refine gSym ?_; simp only [go_sem])
    | (refine cSplit (fun h => ?_) (fun h => ?_) <;> simp only [go_sem])
    | (with_reducible refine And.intro ?_ ?_; (focus (first | omega | (exact ⟨by omega, by omega⟩) | (simp; done) | (simp; omega)))))
  simp at h
end Gv
