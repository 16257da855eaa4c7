/-
  The law 'laws.FnExactPutLetter', as a function.
-/
import Derived.Test.YtnbjfeelokgnlabLetters2
namespace Gv
open Go Go.Proofs

set_option maxRecDepth 100000 in
theorem laws_FnExactPutLetter (x0 : List TLetter) (x1 : TLetter) : PureCall Try.prog 5 [.one (.sl 2 (x0.map TLetter.enc)), .agg [.int .i64 x1.number, .str x1.payload]] [.one (.bool true)] := by
  refine pure_ev Try.func5 rfl Try.call5 Try.checked.mixed [.d (.sl 2 (x0.map TLetter.enc)), .agg [.d (.int .i64 x1.number), .d (.str x1.payload)], .junk, .junk, .junk, .junk, .junk, .junk, .junk, .junk, .junk, .junk, .junk, .junk, .junk, .junk, .junk, .junk, .junk, .junk, .junk, .junk, .junk, .junk, .junk, .junk, .junk, .junk, .junk, .junk, .junk, .junk, .junk, .junk, .junk, .junk, .junk, .junk, .junk, .junk, .junk, .junk, .junk, .junk, .junk, .junk, .junk, .junk, .junk, .junk, .junk, .junk, .junk, .junk, .junk, .junk, .junk, .junk, .junk, .junk, .junk, .junk, .junk, .junk, .junk, .junk, .junk, .junk, .junk, .junk, .junk, .junk, .junk, .junk, .junk, .junk, .junk, .junk, .junk, .junk, .junk, .junk, .junk, .junk, .junk, .junk, .junk, .junk, .junk, .junk, .junk, .junk, .junk, .junk, .junk, .junk, .junk, .junk, .junk, .junk, .junk, .junk, .junk, .junk, .junk, .junk, .junk, .junk, .junk] rfl [.tmp 4] rfl ?_
  intro ok
  simp only [go_sem, List.length_map]
  refine CallS.intro (laws_szLetterS x0 (1048576) (by omega)) ?_
  simp only [go_sem, List.length_map]
  refine cSplit (fun h => ?_) (fun h => ?_)
  · simp only [go_sem]
  obtain ⟨e0, hb0⟩ := szB_pos (of_decide_eq_false h); clear h
  simp only [e0]
  simp only [go_sem, List.length_map]
  refine CallS.intro (laws_szLetter x1 (1048576 - (((x0.length + sumB TLetter.bulk x0) : Nat) : Int)) (by omega)) ?_
  simp only [go_sem, List.length_map]
  refine cSplit (fun h => ?_) (fun h => ?_)
  · simp only [go_sem]
  obtain ⟨e1, hb1⟩ := szB_pos (of_decide_eq_false h); clear h
  simp only [e1]
  simp only [go_sem, List.length_map]
  have q0 := nxs_nn (n := 2 * x0.length) (by omega)
  have hpl : (putL x0 ⟨x1.number, x1.payload⟩).length ≤ x0.length + 1 := by unfold putL; split <;> simp
  have q1 := nxs_nn (n := 2 * (putL x0 ⟨x1.number, x1.payload⟩).length) (by omega)
  try simp only [go_sem, List.length_map, q0, q1]
  repeat' (first
    | (refine CallS.intro (by first | (apply laws_szLetterS <;> first | assumption | omega) | (apply laws_szLetter <;> first | assumption | omega) | (apply laws_toLetterS <;> first | assumption | omega) | (apply laws_toLetter <;> first | assumption | omega) | (apply spec_PutLetter <;> first | assumption | omega) | (apply impl_PutLetter <;> first | assumption | omega) | (apply laws_eqLetterS <;> first | assumption | omega) | (apply laws_heldLetterS <;> first | assumption | omega)) ?_; simp only [go_sem, List.length_map, q0, q1])
    | (refine CallS.mu (by first | apply laws_markLetterS) ?_; simp only [go_sem, List.length_map, q0, q1]; try (with_reducible refine And.intro ?_ ?_; (focus (first | omega | (simp; done))); simp only [go_sem, List.length_map, q0, q1]))
    | (refine CallK.intro (by first | (apply laws_szLetterS <;> first | assumption | omega) | (apply laws_szLetter <;> first | assumption | omega) | (apply laws_toLetterS <;> first | assumption | omega) | (apply laws_toLetter <;> first | assumption | omega) | (apply spec_PutLetter <;> first | assumption | omega) | (apply impl_PutLetter <;> first | assumption | omega) | (apply laws_eqLetterS <;> first | assumption | omega) | (apply laws_heldLetterS <;> first | assumption | omega)) ?_; simp only [go_sem, List.length_map, q0, q1])
    | (with_reducible refine gTrueS ?_; simp only [go_sem, List.length_map, q0, q1]) | (with_reducible refine gFalseS ?_; simp only [go_sem, List.length_map, q0, q1])
    | (refine gSymS ?_; simp only [go_sem, List.length_map, q0, q1]) | (refine gSym ?_; simp only [go_sem, List.length_map, q0, q1])
    | (refine drawE_intro [[.post, .post, .un, .post, .post, .post, .post, .post, .post, .post], [.pre, .post, .un, .post, .post, .post, .post, .post, .post, .post], [.un, .un, .post, .post, .post, .post, .post, .post, .post, .post], [.pre, .pre, .pre, .post, .post, .post, .post, .post, .post, .post], [.pre, .pre, .pre, .pre, .post, .post, .post, .post, .post, .post], [.pre, .pre, .pre, .pre, .pre, .post, .post, .post, .post, .post], [.pre, .pre, .pre, .pre, .pre, .pre, .post, .un, .post, .post], [.pre, .pre, .pre, .pre, .pre, .pre, .un, .post, .un, .post], [.pre, .pre, .pre, .pre, .pre, .pre, .pre, .un, .post, .post], [.pre, .pre, .pre, .pre, .pre, .pre, .pre, .pre, .pre, .post]] (by kernel_rfl) (by rfl) ?_; simp only [go_sem, List.length_map, q0, q1])
    | (refine cSplit (fun h => ?_) (fun h => ?_) <;> simp only [go_sem, List.length_map, q0, q1])
    | (with_reducible refine And.intro ?_ ?_; (focus (first | omega | (exact ⟨by omega, by omega⟩) | (simp; done)))))
  all_goals simp_all
end Gv
