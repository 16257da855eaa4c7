/-
  The law 'laws.FnExactKnownRanges', as a function.
-/
import Derived.Test.YtgflikakblfdpaaKnown
namespace Gv
open Go Go.Proofs

set_option maxRecDepth 100000 in
theorem laws_FnExactKnownRanges (x0 : TCells) : PureCall Try.prog 4 [.agg [.sl 1 (x0.bytes.map eI), .int .i64 x0.read]] [.one (.bool true)] := by
  refine pure_ev Try.func4 rfl Try.call4 Try.checked.mixed [.agg [.d (.sl 1 (x0.bytes.map eI)), .d (.int .i64 x0.read)], .junk, .junk, .junk, .junk, .junk, .junk, .junk, .junk, .junk, .junk, .junk, .junk, .junk, .junk, .junk, .junk, .junk, .junk, .junk, .junk, .junk, .junk, .junk, .junk, .junk, .junk, .junk, .junk, .junk, .junk, .junk, .junk, .junk, .junk, .junk, .junk, .junk, .junk, .junk, .junk, .junk, .junk, .junk, .junk, .junk, .junk, .junk, .junk, .junk, .junk, .junk, .junk, .junk, .junk, .junk, .junk, .junk, .junk, .junk, .junk, .junk, .junk, .junk, .junk, .junk, .junk, .junk, .junk] rfl [.tmp 2] rfl ?_
  intro ok
  simp only [go_sem]
  refine CallS.intro (laws_szCells x0 (1048576) (by omega)) ?_
  simp only [go_sem]
  refine cSplit (fun h => ?_) (fun h => ?_)
  · simp only [go_sem]
  obtain ⟨e0, hb0⟩ := szB_pos (of_decide_eq_false h); clear h
  simp only [e0]
  simp only [go_sem]
  have hkl := knownR_len x0
  have q0 := TCells.adv_nn x0 (by simp only [TCells.cnt]; have := hb0; simp only [TCells.bulk] at this; omega)
  have q1 : ¬ nxs (2 * (knownR x0).length) 1 < 0 := nxs_nn (by omega)
  try simp only [go_sem, List.length_map, q0, q1]
  repeat' (first
    | (refine CallS.intro (by first | (apply laws_szCells <;> first | assumption | omega) | (apply laws_toCells <;> first | assumption | omega) | (apply spec_KnownRanges <;> first | assumption | omega) | (apply impl_KnownRanges <;> first | assumption | omega) | (apply laws_eqRangeS <;> first | assumption | omega) | (apply laws_eqCells <;> first | assumption | omega) | (apply laws_heldRangeS <;> first | assumption | omega)) ?_; simp only [go_sem, List.length_map, q1])
    | (refine CallS.mu (by first | apply laws_markCells | apply laws_markRangeS) ?_; simp only [go_sem, List.length_map, q0]; try (with_reducible refine And.intro ?_ ?_; (focus (first | omega | (simp; done))); simp only [go_sem, List.length_map, q0, q1]))
    | (refine CallK.intro (by first | (apply laws_szCells <;> first | assumption | omega) | (apply laws_toCells <;> first | assumption | omega) | (apply spec_KnownRanges <;> first | assumption | omega) | (apply impl_KnownRanges <;> first | assumption | omega) | (apply laws_eqRangeS <;> first | assumption | omega) | (apply laws_eqCells <;> first | assumption | omega) | (apply laws_heldRangeS <;> first | assumption | omega)) ?_; simp only [go_sem, List.length_map])
    | (with_reducible refine gTrueS ?_; simp only [go_sem, List.length_map]) | (with_reducible refine gFalseS ?_; simp only [go_sem, List.length_map, q0, q1]) | (with_reducible refine gTrue ?_; simp only [go_sem, List.length_map, q0, q1]) | (with_reducible refine gFalse ?_; simp only [go_sem, List.length_map, q0, q1])
    | (refine gSymS ?_; simp only [go_sem, List.length_map, q0, q1]) | (refine gSym ?_; simp only [go_sem, List.length_map, q0, q1])
    | (refine drawE_intro [[.post, .un, .un, .post, .post], [.un, .post, .post, .post, .post], [.un, .pre, .post, .post, .post], [.pre, .pre, .pre, .post, .post], [.pre, .pre, .pre, .pre, .post]] (by kernel_rfl) (by rfl) ?_; simp only [go_sem])
    | (refine cSplit (fun h => ?_) (fun h => ?_) <;> simp only [go_sem])
    | (with_reducible refine And.intro ?_ ?_; (focus (first | omega | (exact ⟨by omega, by omega⟩) | (simp; done) | (simp; omega)))))
  all_goals simp_all
end Gv
