/-
  The law 'laws.FnExactAreLetters', as a function.
-/
import Derived.Test.YtnbjfeelokgnlabLetters2
namespace Gv
open Go Go.Proofs

set_option maxRecDepth 100000 in
theorem laws_FnExactAreLetters (x0 : List TLetter) : PureCall Try.prog 3 [.one (.sl 2 (x0.map TLetter.enc))] [.one (.bool true)] := by
  refine pure_ev Try.func3 rfl Try.call3 Try.checked.mixed [.d (.sl 2 (x0.map TLetter.enc)), .junk, .junk, .junk, .junk, .junk, .junk, .junk, .junk, .junk, .junk, .junk, .junk, .junk, .junk, .junk, .junk, .junk, .junk, .junk, .junk, .junk, .junk, .junk, .junk, .junk, .junk] rfl [.tmp 2] rfl ?_
  intro ok
  simp only [go_sem, List.length_map]
  refine CallS.intro (laws_szLetterS x0 (1048576) (by omega)) ?_
  simp only [go_sem, List.length_map]
  refine cSplit (fun h => ?_) (fun h => ?_)
  · simp only [go_sem]
  obtain ⟨e0, hb0⟩ := szB_pos (of_decide_eq_false h); clear h
  simp only [e0]
  simp only [go_sem, List.length_map]
  try simp only [go_sem, List.length_map]
  repeat' (first
    | (refine CallS.intro (by first | (apply laws_szLetterS <;> first | assumption | omega) | (apply laws_toLetterS <;> first | assumption | omega) | (apply spec_AreLetters <;> first | assumption | omega) | (apply impl_AreLetters <;> first | assumption | omega) | (apply laws_eqLetterS <;> first | assumption | omega)) ?_; simp only [go_sem, List.length_map])
    | (refine CallK.intro (by first | (apply laws_szLetterS <;> first | assumption | omega) | (apply laws_toLetterS <;> first | assumption | omega) | (apply spec_AreLetters <;> first | assumption | omega) | (apply impl_AreLetters <;> first | assumption | omega) | (apply laws_eqLetterS <;> first | assumption | omega)) ?_; simp only [go_sem, List.length_map])
    | (with_reducible refine gTrueS ?_; simp only [go_sem, List.length_map]) | (with_reducible refine gFalseS ?_; simp only [go_sem, List.length_map])
    | (refine gSymS ?_; simp only [go_sem, List.length_map]) | (refine gSym ?_; simp only [go_sem, List.length_map])
    | (refine cSplit (fun h => ?_) (fun h => ?_) <;> simp only [go_sem, List.length_map])
    | (with_reducible refine And.intro ?_ ?_; (focus (first | omega | (exact ⟨by omega, by omega⟩) | (simp; done)))))
  all_goals simp_all
end Gv
