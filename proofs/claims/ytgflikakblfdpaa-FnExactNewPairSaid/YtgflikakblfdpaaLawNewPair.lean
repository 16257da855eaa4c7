/-
  The law 'laws.FnExactNewPair', as a function.
-/
import Derived.Test.YtgflikakblfdpaaNewPair
import Derived.Test.YtgflikakblfdpaaMarks
namespace Gv
open Go Go.Proofs

set_option maxHeartbeats 8000000 in
set_option maxRecDepth 100000 in
theorem laws_FnExactNewPair (x0 : TConf) (x1 : TConf) : PureCall Try.prog 8 [.agg [.int .i64 x0.ring, .int .i64 x0.window, .int .i64 x0.windowMost, .int .i64 x0.total, .int .i64 x0.totalMost, .int .i64 x0.bidi, .int .i64 x0.uni, .int .i64 x0.trip], .agg [.int .i64 x1.ring, .int .i64 x1.window, .int .i64 x1.windowMost, .int .i64 x1.total, .int .i64 x1.totalMost, .int .i64 x1.bidi, .int .i64 x1.uni, .int .i64 x1.trip]] [.one (.bool true)] := by
  refine pure_ev Try.func8 rfl Try.call8 Try.checked.mixed [.agg [.d (.int .i64 x0.ring), .d (.int .i64 x0.window), .d (.int .i64 x0.windowMost), .d (.int .i64 x0.total), .d (.int .i64 x0.totalMost), .d (.int .i64 x0.bidi), .d (.int .i64 x0.uni), .d (.int .i64 x0.trip)], .agg [.d (.int .i64 x1.ring), .d (.int .i64 x1.window), .d (.int .i64 x1.windowMost), .d (.int .i64 x1.total), .d (.int .i64 x1.totalMost), .d (.int .i64 x1.bidi), .d (.int .i64 x1.uni), .d (.int .i64 x1.trip)], .junk, .junk, .junk, .junk, .junk, .junk, .junk, .junk, .junk, .junk, .junk, .junk, .junk, .junk, .junk, .junk, .junk, .junk, .junk, .junk, .junk, .junk, .junk, .junk, .junk, .junk, .junk, .junk, .junk, .junk, .junk, .junk, .junk, .junk, .junk, .junk, .junk, .junk, .junk, .junk, .junk, .junk, .junk, .junk, .junk, .junk, .junk, .junk, .junk, .junk, .junk, .junk, .junk, .junk, .junk, .junk, .junk, .junk, .junk, .junk, .junk, .junk, .junk, .junk, .junk, .junk, .junk, .junk, .junk, .junk, .junk, .junk] rfl [.tmp 4] rfl ?_
  intro ok; clear ok
  simp only [go_sem]
  have hc := newPair_cnt x0 x1
  have he0 := eta_TConf x0
  have he1 := eta_TConf x1
  generalize hg : newPair x0 x1 = g at *
  obtain ⟨c1, c2, c3, c4, c5⟩ := hc
  simp only [TConn.cntx] at c1 c2
  have d1 : g.client.streams = [] := List.eq_nil_of_length_eq_zero (by omega)
  have d2 : g.client.packets = [] := List.eq_nil_of_length_eq_zero (by omega)
  have d3 : g.server.streams = [] := List.eq_nil_of_length_eq_zero (by omega)
  have d4 : g.server.packets = [] := List.eq_nil_of_length_eq_zero (by omega)
  have hcnt : TPair.cnt g = 0 := by simp [TPair.cnt, TConn.cnt, d1, d2, d3, d4, c3, c4, c5, sumB]
  clear d1 d2 d3 d4 c1 c2 c3 c4 c5
  have q1 := TPair.adv_nn g (by omega)
  have r1 := TPair.held_one g (by omega)
  have hh := laws_heldPair (TPair.mkd 1 g) 1
  try simp only [go_sem, List.length_map, q1, r1, he0, he1, hg]
  repeat' (first
    | (refine CallS.cln (by first | assumption | (apply laws_toConf <;> first | assumption | omega) | (apply spec_NewPair <;> first | assumption | omega) | (apply impl_NewPair <;> first | assumption | omega) | (apply laws_eqPair <;> first | assumption | omega) | (apply laws_heldPair <;> first | assumption | omega)) ?_; simp only [go_sem, q1, r1])
    | (refine CallS.mu (by first | apply laws_markPair) ?_; simp only [go_sem, List.length_map]; try (with_reducible refine And.intro ?_ ?_; (focus (first | omega | (simp; done))); simp only [go_sem, List.length_map, q1, r1, he0, he1, hg]))
    | (refine CallK.cln (by first | assumption | (apply laws_toConf <;> first | assumption | omega) | (apply spec_NewPair <;> first | assumption | omega) | (apply impl_NewPair <;> first | assumption | omega) | (apply laws_eqPair <;> first | assumption | omega) | (apply laws_heldPair <;> first | assumption | omega)) ?_; simp only [go_sem, List.length_map, he0, he1, hg])
    | (with_reducible refine gTrueS ?_; simp only [go_sem]) | (with_reducible refine gFalseS ?_; simp only [go_sem, List.length_map, q1, r1, he0, he1, hg]) | (with_reducible refine gTrue ?_; simp only [go_sem, List.length_map, q1, r1, he0, he1, hg]) | (with_reducible refine gFalse ?_; simp only [go_sem, List.length_map, q1, r1, he0, he1, hg])
    | (refine gSymS ?_; simp only [go_sem, List.length_map, q1, r1, he0, he1, hg]) | (refine gSym ?_; simp only [go_sem, List.length_map, q1, r1, he0, he1, hg])
    | (refine drawE_intro [[.post, .post, .un, .post, .post, .post, .post, .post, .un, .post, .post], [.pre, .post, .un, .post, .post, .post, .post, .post, .un, .post, .post], [.un, .un, .post, .post, .post, .post, .post, .post, .un, .post, .post], [.pre, .pre, .pre, .post, .post, .post, .post, .post, .un, .post, .post], [.pre, .pre, .pre, .pre, .post, .post, .post, .post, .un, .post, .post], [.pre, .pre, .pre, .pre, .pre, .post, .post, .post, .un, .post, .post], [.pre, .pre, .pre, .pre, .pre, .pre, .post, .un, .un, .post, .post], [.pre, .pre, .pre, .pre, .pre, .pre, .un, .post, .un, .un, .post], [.un, .un, .un, .un, .un, .un, .un, .un, .post, .post, .post], [.pre, .pre, .pre, .pre, .pre, .pre, .pre, .un, .pre, .post, .post], [.pre, .pre, .pre, .pre, .pre, .pre, .pre, .pre, .pre, .pre, .post]] (by kernel_rfl) (by rfl) ?_; simp only [go_sem])
    | (refine cSplit (fun h => ?_) (fun h => ?_) <;> simp only [go_sem, List.length_map])
    | (with_reducible refine And.intro ?_ ?_; (focus (first | omega | (exact ⟨by omega, by omega⟩) | (simp; done) | (simp; omega)))))
  all_goals simp_all
end Gv
