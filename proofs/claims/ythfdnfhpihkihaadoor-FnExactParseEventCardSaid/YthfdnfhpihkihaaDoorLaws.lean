/-
  The laws of the helper functions of the statements: copying, counting, comparing. Printed by a program of ours.
-/
import Derived.Test.YthfdnfhpihkihaaDoorLawKit
namespace Gv
open Go Go.Proofs

def TEvent.bulk (x : TEvent) : Nat := x.text.length
set_option maxRecDepth 100000 in
theorem laws_eqEvent (x y : TEvent) : PureCall Tryd.prog 11 [.agg [.int .i64 x.kind, .int .i64 x.id, .int .i64 x.n, .str x.text], .agg [.int .i64 y.kind, .int .i64 y.id, .int .i64 y.n, .str y.text]] [.one (.bool (decide (x = y)))] := by
  refine pure_ev Tryd.func11 rfl Tryd.call11 Tryd.checked.mixed [.agg [.d (.int .i64 x.kind), .d (.int .i64 x.id), .d (.int .i64 x.n), .d (.str x.text)], .agg [.d (.int .i64 y.kind), .d (.int .i64 y.id), .d (.int .i64 y.n), .d (.str y.text)], .junk, .junk, .junk, .junk, .junk, .junk, .junk, .junk, .junk, .junk, .junk, .junk, .junk, .junk, .junk, .junk, .junk, .junk, .junk, .junk, .junk, .junk, .junk] rfl [.tmp 4] rfl ?_
  obtain ⟨a0, a1, a2, a3⟩ := x
  obtain ⟨b0, b1, b2, b3⟩ := y
  simp only [TEvent.mk.injEq]
  intro _
  try simp only [go_sem]
  repeat' (first
    | (with_reducible refine gTrueS ?_; simp only [go_sem, List.length_map]) | (with_reducible refine gFalseS ?_; simp only [go_sem, List.length_map]) | (with_reducible refine gTrue ?_; simp only [go_sem, List.length_map]) | (with_reducible refine gFalse ?_; simp only [go_sem, List.length_map])
    | (refine gSymS ?_; simp only [go_sem, List.length_map]) | (refine gSym ?_; simp only [go_sem, List.length_map])
    | (refine cSplit (fun h => ?_) (fun h => ?_) <;> simp only [go_sem])
    | (with_reducible refine And.intro ?_ ?_; (focus (first | omega | (exact ⟨by omega, by omega⟩) | (simp; done) | (simp; omega)))))
  all_goals simp_all
end Gv
