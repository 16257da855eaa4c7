/-
  The laws of the helper functions of the statements: copying, counting, comparing. Printed by a program of ours.
-/
import Derived.Test.YthfdnfhpihkihaaDoorLawKit
namespace Gv
open Go Go.Proofs

def TEvent.bulk (x : TEvent) : Nat := x.text.length
set_option maxRecDepth 100000 in
theorem laws_szEvent (x : TEvent) (left : Int) (hl : 0 ≤ left ∧ left ≤ 1048576) : PureCall Tryd.prog 5 [.agg [.int .i64 x.kind, .int .i64 x.id, .int .i64 x.n, .str x.text], .one (.int .i64 left)] [.one (.int .i64 (szB (TEvent.bulk x) left))] := by
  refine pure_ev Tryd.func5 rfl Tryd.call5 Tryd.checked.mixed [.agg [.d (.int .i64 x.kind), .d (.int .i64 x.id), .d (.int .i64 x.n), .d (.str x.text)], .d (.int .i64 left), .junk, .junk, .junk, .junk, .junk, .junk, .junk, .junk, .junk, .junk, .junk] rfl [.tmp 4] rfl ?_
  intro ok
  have hw0 : IntKind.i64.wrap (left - (x.text.length : Int)) = left - (x.text.length : Int) := wsub (by omega) (ok.1.2.2.2.1)
  simp only [go_sem, hw0]
  refine cSplit (fun h => ?_) (fun h => ?_)
  · simp only [decide_eq_true_eq] at h; simp only [go_sem]; rw [szB_lt (by simp only [TEvent.bulk]; omega)]
  simp only [decide_eq_false_iff_not] at h
  try simp only [go_sem]
  rw [show szB (TEvent.bulk x) left = left - ((x.text.length : Nat) : Int) from by rw [szB_ge (by simp only [TEvent.bulk]; omega)]; simp only [TEvent.bulk]; try omega]
set_option maxRecDepth 100000 in
theorem laws_toEvent (x : TEvent) : PureCall Tryd.prog 7 [.agg [.int .i64 x.kind, .int .i64 x.id, .int .i64 x.n, .str x.text]] [.agg [.int .i64 x.kind, .int .i64 x.id, .int .i64 x.n, .str x.text]] := by
  refine pure_ev Tryd.func7 rfl Tryd.call7 Tryd.checked.mixed [.agg [.d (.int .i64 x.kind), .d (.int .i64 x.id), .d (.int .i64 x.n), .d (.str x.text)], .junk, .junk, .junk, .junk, .junk, .junk, .junk, .junk, .junk, .junk, .junk, .junk, .junk, .junk, .junk, .junk] rfl [.cell 2 26] rfl ?_
  intro _
  try simp only [go_sem]
  repeat' (first
    | (with_reducible refine gTrueS ?_; simp only [go_sem, List.length_map, List.take_length, List.length_take, Nat.min_self]) | (with_reducible refine gFalseS ?_; simp only [go_sem, List.length_map, List.take_length, List.length_take, Nat.min_self]) | (with_reducible refine gTrue ?_; simp only [go_sem, List.length_map, List.take_length, List.length_take, Nat.min_self]) | (with_reducible refine gFalse ?_; simp only [go_sem, List.length_map, List.take_length, List.length_take, Nat.min_self])
    | (refine gSymS ?_; simp only [go_sem, List.length_map, List.take_length, List.length_take, Nat.min_self]) | (refine gSym ?_; simp only [go_sem, List.length_map, List.take_length, List.length_take, Nat.min_self])
    | (refine cSplit (fun h => ?_) (fun h => ?_) <;> simp only [go_sem, List.length_map, List.take_length, List.length_take, Nat.min_self])
    | (with_reducible refine And.intro ?_ ?_; (focus (first | omega | (exact ⟨by omega, by omega⟩) | (simp; done) | (simp; omega)))))
  all_goals simp
end Gv
