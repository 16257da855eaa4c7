/-
  The law 'laws.FnExactPutCells', as a function.
-/
import Derived.Test.YtnbjfeelokgnlabPutCells
namespace Gv
open Go Go.Proofs

set_option maxRecDepth 100000 in
theorem laws_FnExactPutCells (x0 : TCells) (x1 : Int) (x2 : List UInt8) : PureCall Try.prog 8 [.agg [.sl 1 (x0.bytes.map eI), .int .i64 x0.read], .one (.int .i64 x1), .one (.str x2)] [.one (.bool true)] := by
  refine pure_ev Try.func8 rfl Try.call8 Try.checked.mixed [.agg [.d (.sl 1 (x0.bytes.map eI)), .d (.int .i64 x0.read)], .d (.int .i64 x1), .d (.str x2), .junk, .junk, .junk, .junk, .junk, .junk, .junk, .junk, .junk, .junk, .junk, .junk, .junk, .junk, .junk, .junk, .junk, .junk, .junk, .junk, .junk, .junk, .junk, .junk, .junk, .junk, .junk, .junk, .junk, .junk, .junk, .junk, .junk, .junk, .junk, .junk, .junk, .junk, .junk, .junk, .junk, .junk, .junk, .junk, .junk, .junk, .junk, .junk, .junk, .junk, .junk, .junk, .junk, .junk, .junk, .junk, .junk, .junk, .junk, .junk, .junk, .junk, .junk, .junk, .junk, .junk, .junk, .junk, .junk, .junk, .junk, .junk, .junk, .junk, .junk, .junk, .junk, .junk, .junk] rfl [.tmp 6] rfl ?_
  intro ok
  simp only [go_sem, List.length_map]
  refine cSplit (fun h => ?_) (fun h => ?_)
  · simp only [go_sem]
  simp only [decide_eq_false_iff_not] at h
  have hbx2 : x2.length ≤ 1048576 := by omega
  simp only [go_sem, List.length_map]
  refine CallS.intro (laws_szCells x0 (1048576) (by omega)) ?_
  simp only [go_sem, List.length_map]
  refine cSplit (fun h => ?_) (fun h => ?_)
  · simp only [go_sem]
  obtain ⟨e0, hb0⟩ := szB_pos (of_decide_eq_false h); clear h
  simp only [e0]
  simp only [go_sem, List.length_map]
  have hxl : x0.bytes.length ≤ 1048576 := by have := hb0; simp only [TCells.bulk] at this; omega
  have hpl := putCells_len x0 x1 x2
  have q0 := TCells.adv_nn x0 (by simp only [TCells.cnt]; omega)
  have q1 := TCells.adv_nn (putCells x0 x1 x2) (by simp only [TCells.cnt]; omega)
  have r1 := TCells.held_one (putCells x0 x1 x2) (by simp only [TCells.cnt]; omega)
  try simp only [go_sem, List.length_map, q0, q1, r1]
  repeat' (first
    | (refine CallS.intro (by first | (apply laws_szCells <;> first | assumption | omega) | (apply laws_toCells <;> first | assumption | omega) | (apply spec_PutCells <;> first | assumption | omega) | (apply impl_PutCells <;> first | assumption | omega) | (apply laws_eqCells <;> first | assumption | omega) | (apply laws_heldCells <;> first | assumption | omega)) ?_; simp only [go_sem, List.length_map, q0, q1, r1])
    | (refine CallS.mu (by first | apply laws_markCells) ?_; simp only [go_sem, List.length_map, q0, q1, r1]; try (with_reducible refine And.intro ?_ ?_; (focus (first | omega | (simp; done))); simp only [go_sem, List.length_map, q0, q1, r1]))
    | (refine CallK.intro (by first | (apply laws_szCells <;> first | assumption | omega) | (apply laws_toCells <;> first | assumption | omega) | (apply spec_PutCells <;> first | assumption | omega) | (apply impl_PutCells <;> first | assumption | omega) | (apply laws_eqCells <;> first | assumption | omega) | (apply laws_heldCells <;> first | assumption | omega)) ?_; simp only [go_sem, List.length_map, q0, q1, r1])
    | (with_reducible refine gTrueS ?_; simp only [go_sem, List.length_map, q0, q1, r1]) | (with_reducible refine gFalseS ?_; simp only [go_sem, List.length_map, q0, q1, r1])
    | (refine gSymS ?_; simp only [go_sem, List.length_map, q0, q1, r1]) | (refine gSym ?_; simp only [go_sem, List.length_map, q0, q1, r1])
    | (refine drawE_intro [[.post, .un, .un, .post, .post], [.un, .post, .post, .post, .post], [.un, .pre, .post, .post, .post], [.pre, .pre, .pre, .post, .post], [.pre, .pre, .pre, .pre, .post]] (by kernel_rfl) (by rfl) ?_; simp only [go_sem, List.length_map, q0, q1, r1])
    | (refine cSplit (fun h => ?_) (fun h => ?_) <;> simp only [go_sem, List.length_map, q0, q1, r1])
    | (with_reducible refine And.intro ?_ ?_; (focus (first | omega | (exact ⟨by omega, by omega⟩) | (simp; done)))))
  all_goals simp_all
end Gv
