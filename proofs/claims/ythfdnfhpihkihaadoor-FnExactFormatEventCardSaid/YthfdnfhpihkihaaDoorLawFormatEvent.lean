/-
  The law 'laws.FnExactFormatEvent', as a function.
-/
import Derived.Test.YthfdnfhpihkihaaDoorFmt
namespace Gv
open Go Go.Proofs

set_option maxRecDepth 100000 in
theorem laws_FnExactFormatEvent (x0 : TEvent) : PureCall Tryd.prog 3 [.agg [.int .i64 x0.kind, .int .i64 x0.id, .int .i64 x0.n, .str x0.text]] [.one (.bool true)] := by
  refine pure_ev Tryd.func3 rfl Tryd.call3 Tryd.checked.mixed [.agg [.d (.int .i64 x0.kind), .d (.int .i64 x0.id), .d (.int .i64 x0.n), .d (.str x0.text)], .junk, .junk, .junk, .junk, .junk, .junk, .junk, .junk, .junk, .junk, .junk, .junk, .junk, .junk, .junk, .junk, .junk, .junk, .junk] rfl [.tmp 2] rfl ?_
  intro ok
  simp only [go_sem]
  refine CallS.intro (laws_szEvent x0 (1048576) (by omega)) ?_
  simp only [go_sem]
  refine cSplit (fun h => ?_) (fun h => ?_)
  · simp only [go_sem]
  obtain ⟨e0, hb0⟩ := szB_pos (of_decide_eq_false h); clear h
  simp only [e0]
  simp only [go_sem]
  have hxl : x0.text.length ≤ 1048576 := by have := hb0; simp only [TEvent.bulk] at this; omega
  try simp only [go_sem, List.length_map]
  repeat' (first
    | (refine CallS.intro (by first | assumption | (apply laws_szEvent <;> first | assumption | omega) | (apply laws_toEvent <;> first | assumption | omega) | (apply spec_FormatEvent <;> first | assumption | omega) | (apply impl_FormatEvent <;> first | assumption | omega)) ?_; simp only [go_sem])
    | (refine CallK.intro (by first | assumption | (apply laws_szEvent <;> first | assumption | omega) | (apply laws_toEvent <;> first | assumption | omega) | (apply spec_FormatEvent <;> first | assumption | omega) | (apply impl_FormatEvent <;> first | assumption | omega)) ?_; simp only [go_sem, List.length_map])
    | (with_reducible refine gTrueS ?_; simp only [go_sem, List.length_map]) | (with_reducible refine gFalseS ?_; simp only [go_sem, List.length_map]) | (with_reducible refine gTrue ?_; simp only [go_sem, List.length_map]) | (with_reducible refine gFalse ?_; simp only [go_sem, List.length_map])
    | (refine gSymS ?_; simp only [go_sem, List.length_map]) | (refine gSym ?_; simp only [go_sem, List.length_map])
    | (refine cSplit (fun h => ?_) (fun h => ?_) <;> simp only [go_sem])
    | (with_reducible refine And.intro ?_ ?_; (focus (first | omega | (exact ⟨by omega, by omega⟩) | (simp; done) | (simp; omega)))))
  all_goals simp_all
end Gv
