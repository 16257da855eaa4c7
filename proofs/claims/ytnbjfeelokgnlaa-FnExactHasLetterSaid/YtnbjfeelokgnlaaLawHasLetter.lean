/-
  The law 'laws.FnExactHasLetter', as a function.
-/
import Derived.Test.YtnbjfeelokgnlaaLetters
namespace Gv
open Go Go.Proofs

set_option maxRecDepth 100000 in
theorem laws_FnExactHasLetter (x0 : List TLetter) (x1 : Int) : PureCall Try.prog 6 [.one (.sl 2 (x0.map TLetter.enc)), .one (.int .i64 x1)] [.one (.bool true)] := by
  refine pure_ev Try.func6 rfl Try.call6 Try.checked.mixed [.d (.sl 2 (x0.map TLetter.enc)), .d (.int .i64 x1), .junk, .junk, .junk, .junk, .junk, .junk, .junk, .junk, .junk, .junk, .junk, .junk, .junk, .junk, .junk, .junk, .junk, .junk, .junk, .junk, .junk, .junk, .junk, .junk, .junk, .junk, .junk, .junk, .junk] rfl [.tmp 4] rfl ?_
  intro ok
  simp only [go_sem, List.length_map]
  refine CallS.intro (laws_szLetterS x0 (1048576) (by omega)) ?_
  simp only [go_sem, List.length_map]
  refine cSplit (fun h => ?_) (fun h => ?_)
  · simp only [go_sem]
  obtain ⟨e0, hb0⟩ := szB_pos (of_decide_eq_false h); clear h
  simp only [e0]
  simp only [go_sem, List.length_map]
  try simp only [go_sem, List.length_map]
  repeat' (first
    | (refine CallS.intro (by first | (apply laws_szLetterS <;> first | assumption | omega) | (apply laws_toLetterS <;> first | assumption | omega) | (apply spec_HasLetter <;> first | assumption | omega) | (apply impl_HasLetter <;> first | assumption | omega) | (apply laws_eqLetterS <;> first | assumption | omega)) ?_; simp only [go_sem, List.length_map])
    | (refine CallK.intro (by first | (apply laws_szLetterS <;> first | assumption | omega) | (apply laws_toLetterS <;> first | assumption | omega) | (apply spec_HasLetter <;> first | assumption | omega) | (apply impl_HasLetter <;> first | assumption | omega) | (apply laws_eqLetterS <;> first | assumption | omega)) ?_; simp only [go_sem, List.length_map])
    | (with_reducible refine gTrueS ?_; simp only [go_sem, List.length_map]) | (with_reducible refine gFalseS ?_; simp only [go_sem, List.length_map])
    | (refine gSymS ?_; simp only [go_sem, List.length_map]) | (refine gSym ?_; simp only [go_sem, List.length_map])
    | (refine cSplit (fun h => ?_) (fun h => ?_) <;> simp only [go_sem, List.length_map])
    | (with_reducible refine And.intro (by first | omega | exact ⟨by omega, by omega⟩) ?_))
  all_goals simp_all
end Gv
