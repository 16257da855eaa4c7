/-
  The law 'laws.FnExactCopyLetter', as a function.
-/
import Derived.Test.YtnbjfeelokgnlabLetters2
namespace Gv
open Go Go.Proofs

set_option maxRecDepth 100000 in
theorem laws_FnExactCopyLetter (x0 : List TLetter) (x1 : Int) : PureCall Try.prog 6 [.one (.sl 2 (x0.map TLetter.enc)), .one (.int .i64 x1)] [.one (.bool true)] := by
  refine pure_ev Try.func6 rfl Try.call6 Try.checked.mixed [.d (.sl 2 (x0.map TLetter.enc)), .d (.int .i64 x1), .junk, .junk, .junk, .junk, .junk, .junk, .junk, .junk, .junk, .junk, .junk, .junk, .junk, .junk, .junk, .junk, .junk, .junk, .junk, .junk, .junk, .junk, .junk, .junk, .junk, .junk, .junk, .junk, .junk, .junk, .junk, .junk, .junk, .junk, .junk, .junk, .junk, .junk, .junk, .junk, .junk, .junk, .junk, .junk, .junk, .junk, .junk, .junk, .junk, .junk, .junk, .junk, .junk, .junk, .junk, .junk, .junk, .junk, .junk, .junk, .junk, .junk, .junk, .junk, .junk, .junk, .junk, .junk, .junk, .junk, .junk, .junk, .junk, .junk, .junk, .junk, .junk, .junk, .junk, .junk, .junk, .junk, .junk, .junk, .junk, .junk, .junk, .junk, .junk, .junk, .junk, .junk, .junk, .junk, .junk, .junk, .junk, .junk, .junk] rfl [.tmp 4] rfl ?_
  intro ok
  simp only [go_sem, List.length_map]
  refine CallS.intro (laws_szLetterS x0 (1048576) (by omega)) ?_
  simp only [go_sem, List.length_map]
  refine cSplit (fun h => ?_) (fun h => ?_)
  · simp only [go_sem]
  obtain ⟨e0, hb0⟩ := szB_pos (of_decide_eq_false h); clear h
  simp only [e0]
  simp only [go_sem, List.length_map]
  have q0 := nxs_nn (n := 2 * x0.length) (by omega)
  have hpl := copyL_len x0 x1
  have q1 := nxs_nn (n := 2 * (copyL x0 x1).1.length) (by omega)
  try simp only [go_sem, List.length_map, q0, q1]
  repeat' (first
    | (refine CallS.intro (by first | (apply laws_szLetterS <;> first | assumption | omega) | (apply laws_toLetterS <;> first | assumption | omega) | (apply spec_CopyLetter <;> first | assumption | omega) | (apply impl_CopyLetter <;> first | assumption | omega) | (apply laws_eqLetterS <;> first | assumption | omega) | (apply laws_heldLetterS <;> first | assumption | omega)) ?_; simp only [go_sem, List.length_map, q0, q1])
    | (refine CallS.mu (by first | apply laws_markLetterS) ?_; simp only [go_sem, List.length_map, q0, q1]; try (with_reducible refine And.intro ?_ ?_; (focus (first | omega | (simp; done))); simp only [go_sem, List.length_map, q0, q1]))
    | (refine CallK.intro (by first | (apply laws_szLetterS <;> first | assumption | omega) | (apply laws_toLetterS <;> first | assumption | omega) | (apply spec_CopyLetter <;> first | assumption | omega) | (apply impl_CopyLetter <;> first | assumption | omega) | (apply laws_eqLetterS <;> first | assumption | omega) | (apply laws_heldLetterS <;> first | assumption | omega)) ?_; simp only [go_sem, List.length_map, q0, q1])
    | (with_reducible refine gTrueS ?_; simp only [go_sem, List.length_map, q0, q1]) | (with_reducible refine gFalseS ?_; simp only [go_sem, List.length_map, q0, q1])
    | (refine gSymS ?_; simp only [go_sem, List.length_map, q0, q1]) | (refine gSym ?_; simp only [go_sem, List.length_map, q0, q1])
    | (refine cSplit (fun h => ?_) (fun h => ?_) <;> simp only [go_sem, List.length_map, q0, q1])
    | (with_reducible refine And.intro ?_ ?_; (focus (first | omega | (exact ⟨by omega, by omega⟩) | (simp; done)))))
  all_goals simp_all
end Gv
