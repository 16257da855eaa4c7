/-
  The law 'laws.FnExactCellsOf', as a function.
-/
import Derived.Test.YtgflikakblfdpaaCellsOf
namespace Gv
open Go Go.Proofs

set_option maxRecDepth 100000 in
theorem laws_FnExactCellsOf (x0 : TBuffer) : PureCall Try.prog 5 [.agg [.int .i64 x0.next, .sl 2 (x0.chunks.map TChunk.enc)]] [.one (.bool true)] := by
  refine pure_ev Try.func5 rfl Try.call5 Try.checked.mixed [.agg [.d (.int .i64 x0.next), .d (.sl 2 (x0.chunks.map TChunk.enc))], .junk, .junk, .junk, .junk, .junk, .junk, .junk, .junk, .junk, .junk, .junk, .junk, .junk, .junk, .junk, .junk, .junk, .junk, .junk, .junk, .junk, .junk, .junk, .junk, .junk, .junk, .junk, .junk, .junk, .junk, .junk, .junk, .junk, .junk, .junk, .junk, .junk, .junk, .junk, .junk, .junk, .junk, .junk, .junk, .junk, .junk, .junk, .junk, .junk, .junk, .junk, .junk, .junk, .junk, .junk, .junk, .junk, .junk, .junk, .junk, .junk, .junk, .junk, .junk, .junk, .junk, .junk, .junk, .junk, .junk, .junk, .junk, .junk, .junk, .junk, .junk, .junk, .junk, .junk, .junk, .junk, .junk, .junk, .junk, .junk, .junk, .junk, .junk, .junk, .junk, .junk, .junk, .junk, .junk, .junk] rfl [.tmp 2] rfl ?_
  intro ok
  simp only [go_sem]
  refine CallS.intro (laws_szBuffer x0 (1048576) (by omega)) ?_
  simp only [go_sem]
  refine cSplit (fun h => ?_) (fun h => ?_)
  · simp only [go_sem]
  obtain ⟨e0, hb0⟩ := szB_pos (of_decide_eq_false h); clear h
  simp only [e0]
  simp only [go_sem]
  have hbb := hb0
  simp only [TBuffer.bulk] at hbb
  have hx : x0.chunks.length ≤ 1048576 := by omega
  have hb : ∀ c ∈ x0.chunks, c.data.length ≤ 1048576 := fun c hc => by
    obtain ⟨i, hi, rfl⟩ := List.getElem_of_mem hc
    have := sumB_at TChunk.bulk x0.chunks i hi
    simp only [TChunk.bulk] at this
    omega
  have hcl := cOf_len x0
  have q0 := TBuffer.adv_nn x0 (by simp only [TBuffer.cnt]; omega)
  have q1 := TCells.adv_nn (cOf x0) (by simp only [TCells.cnt]; omega)
  have r1 := TCells.held_one (cOf x0) (by simp only [TCells.cnt]; omega)
  try simp only [go_sem, List.length_map, q0, q1, r1]
  repeat' (first
    | (refine CallS.intro (by first | (apply laws_szBuffer <;> first | assumption | omega) | (apply laws_toBuffer <;> first | assumption | omega) | (apply spec_CellsOf <;> first | assumption | omega) | (apply impl_CellsOf <;> first | assumption | omega) | (apply laws_eqCells <;> first | assumption | omega) | (apply laws_eqBuffer <;> first | assumption | omega) | (apply laws_heldCells <;> first | assumption | omega)) ?_; simp only [go_sem, List.length_map, q1, r1])
    | (refine CallS.mu (by first | apply laws_markBuffer | apply laws_markCells) ?_; simp only [go_sem, List.length_map, q0]; try (with_reducible refine And.intro ?_ ?_; (focus (first | omega | (simp; done))); simp only [go_sem, List.length_map, q0, q1, r1]))
    | (refine CallK.intro (by first | (apply laws_szBuffer <;> first | assumption | omega) | (apply laws_toBuffer <;> first | assumption | omega) | (apply spec_CellsOf <;> first | assumption | omega) | (apply impl_CellsOf <;> first | assumption | omega) | (apply laws_eqCells <;> first | assumption | omega) | (apply laws_eqBuffer <;> first | assumption | omega) | (apply laws_heldCells <;> first | assumption | omega)) ?_; simp only [go_sem, List.length_map])
    | (with_reducible refine gTrueS ?_; simp only [go_sem, List.length_map]) | (with_reducible refine gFalseS ?_; simp only [go_sem, List.length_map, q0, q1, r1]) | (with_reducible refine gTrue ?_; simp only [go_sem, List.length_map, q0, q1, r1]) | (with_reducible refine gFalse ?_; simp only [go_sem, List.length_map, q0, q1, r1])
    | (refine gSymS ?_; simp only [go_sem, List.length_map, q0, q1, r1]) | (refine gSym ?_; simp only [go_sem, List.length_map, q0, q1, r1])
    | (refine drawE_intro [[.post, .un, .un, .post, .post], [.un, .post, .post, .post, .post], [.un, .pre, .post, .post, .post], [.pre, .pre, .pre, .post, .post], [.pre, .pre, .pre, .pre, .post]] (by kernel_rfl) (by rfl) ?_; simp only [go_sem])
    | (refine cSplit (fun h => ?_) (fun h => ?_) <;> simp only [go_sem, List.length_map])
    | (with_reducible refine And.intro ?_ ?_; (focus (first | omega | (exact ⟨by omega, by omega⟩) | (simp; done) | (simp; omega)))))
  all_goals simp_all
end Gv
