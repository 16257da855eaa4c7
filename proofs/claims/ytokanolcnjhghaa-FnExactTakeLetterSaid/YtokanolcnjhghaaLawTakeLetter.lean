/-
  The law 'laws.FnExactTakeLetter', as a function.
-/
import Derived.Test.YtokanolcnjhghaaTake
import Derived.Test.YtokanolcnjhghaaMarks
namespace Gv
open Go Go.Proofs

theorem tkRest_len (xs : List TLetter) (k : Int) : (tkRest xs k).length ≤ xs.length := by
  unfold tkRest
  split
  · simp; omega
  · exact Nat.le_refl _

set_option maxRecDepth 100000 in
theorem laws_FnExactTakeLetter (x0 : List TLetter) (x1 : Int) : PureCall Try.prog 3 [.one (.sl 2 (x0.map TLetter.enc)), .one (.int .i64 x1)] [.one (.bool true)] := by
  refine pure_ev Try.func3 rfl Try.call3 Try.checked.mixed [.d (.sl 2 (x0.map TLetter.enc)), .d (.int .i64 x1), .junk, .junk, .junk, .junk, .junk, .junk, .junk, .junk, .junk, .junk, .junk, .junk, .junk, .junk, .junk, .junk, .junk, .junk, .junk, .junk, .junk, .junk, .junk, .junk, .junk, .junk, .junk, .junk, .junk, .junk, .junk, .junk, .junk, .junk, .junk, .junk, .junk, .junk, .junk, .junk, .junk, .junk, .junk, .junk, .junk, .junk, .junk, .junk, .junk, .junk, .junk, .junk, .junk, .junk, .junk, .junk, .junk, .junk, .junk, .junk, .junk, .junk, .junk, .junk, .junk, .junk, .junk, .junk, .junk, .junk, .junk, .junk, .junk, .junk, .junk, .junk, .junk, .junk, .junk, .junk, .junk, .junk, .junk, .junk, .junk, .junk, .junk, .junk, .junk, .junk, .junk, .junk, .junk, .junk, .junk, .junk, .junk, .junk, .junk, .junk, .junk, .junk, .junk, .junk, .junk, .junk, .junk, .junk, .junk, .junk, .junk, .junk, .junk, .junk, .junk, .junk, .junk, .junk, .junk, .junk, .junk, .junk, .junk] rfl [.tmp 4] rfl ?_
  intro ok
  simp only [go_sem]
  refine CallS.intro (laws_szLetterS x0 (1048576) (by omega)) ?_
  simp only [go_sem]
  refine cSplit (fun h => ?_) (fun h => ?_)
  · simp only [go_sem]
  obtain ⟨e0, hb0⟩ := szB_pos (of_decide_eq_false h); clear h
  simp only [e0]
  simp only [go_sem]
  have q0 := nxs_nn (n := 2 * x0.length) (by omega)
  have hpl := tkRest_len x0 x1
  generalize hg : tkRest x0 x1 = g at *
  have q1 := nxs_nn (n := 2 * g.length) (by omega)
  try simp only [go_sem, List.length_map, q0, q1, hg, TLetter.enc]
  repeat' (first
    | (refine CallS.cln (by first | assumption | (apply laws_szLetterS <;> first | assumption | omega) | (apply laws_toLetterS <;> first | assumption | omega) | (apply spec_TakeLetter <;> first | assumption | omega) | (apply impl_TakeLetter <;> first | assumption | omega) | (apply laws_eqLetter <;> first | assumption | omega) | (apply laws_eqLetterS <;> first | assumption | omega) | (apply laws_heldLetterS <;> first | assumption | omega)) ?_; simp only [go_sem, List.length_map, q1, hg, TLetter.enc])
    | (refine CallS.mu (by first | apply laws_markLetterS) ?_; simp only [go_sem, List.length_map, q0]; try (with_reducible refine And.intro ?_ ?_; (focus (first | omega | (simp; done))); simp only [go_sem, List.length_map, q0, q1, hg, TLetter.enc]))
    | (refine CallK.cln (by first | assumption | (apply laws_szLetterS <;> first | assumption | omega) | (apply laws_toLetterS <;> first | assumption | omega) | (apply spec_TakeLetter <;> first | assumption | omega) | (apply impl_TakeLetter <;> first | assumption | omega) | (apply laws_eqLetter <;> first | assumption | omega) | (apply laws_eqLetterS <;> first | assumption | omega) | (apply laws_heldLetterS <;> first | assumption | omega)) ?_; simp only [go_sem, List.length_map, q0, q1, hg, TLetter.enc])
    | (with_reducible refine gTrueS ?_; simp only [go_sem, List.length_map]) | (with_reducible refine gFalseS ?_; simp only [go_sem, List.length_map, q0, q1, hg, TLetter.enc]) | (with_reducible refine gTrue ?_; simp only [go_sem, List.length_map, q0, q1, hg, TLetter.enc]) | (with_reducible refine gFalse ?_; simp only [go_sem, List.length_map, q0, q1, hg, TLetter.enc])
    | (refine gSymS ?_; simp only [go_sem, List.length_map, q0, q1, hg, TLetter.enc]) | (refine gSym ?_; simp only [go_sem, List.length_map, q0, q1, hg, TLetter.enc])
    | (refine cSplit (fun h => ?_) (fun h => ?_) <;> simp only [go_sem, List.length_map])
    | (with_reducible refine And.intro ?_ ?_; (focus (first | omega | (exact ⟨by omega, by omega⟩) | (simp; done) | (simp; omega)))))
  all_goals simp_all
end Gv
