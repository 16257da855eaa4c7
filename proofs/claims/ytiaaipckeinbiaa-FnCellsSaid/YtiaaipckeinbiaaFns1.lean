/-
  The laws of small functions.
-/
import Derived.Test.YtiaaipckeinbiaaLaws
namespace Gv
open Go Go.Proofs
def inB (n lo hi : Int) : Bool := decide (lo ≤ n) && decide (n ≤ hi)

set_option maxRecDepth 100000 in
theorem spec_l1In (n lo hi : Int) : PureCall Try.prog 52 [.one (.int .i64 n), .one (.int .i64 lo), .one (.int .i64 hi)] [.one (.bool (inB n lo hi))] := by
  refine pure_ev Try.func52 rfl Try.call52 Try.checked.mixed [.d (.int .i64 n), .d (.int .i64 lo), .d (.int .i64 hi), .junk, .junk, .junk, .junk, .junk, .junk, .junk, .junk, .junk, .junk, .junk, .junk] rfl [.tmp 6] rfl ?_
  intro _
  simp only [go_sem]
  repeat ((first | refine gSymS ?_ | refine gSym ?_); simp only [go_sem])
  simp [inB]

set_option maxRecDepth 100000 in
theorem impl_within (n lo hi : Int) : PureCall Try.prog 51 [.one (.int .i64 n), .one (.int .i64 lo), .one (.int .i64 hi)] [.one (.bool (inB n lo hi))] := by
  refine pure_ev Try.func51 rfl Try.call51 Try.checked.mixed [.d (.int .i64 n), .d (.int .i64 lo), .d (.int .i64 hi), .junk, .junk, .junk, .junk, .junk, .junk, .junk, .junk, .junk, .junk, .junk, .junk] rfl [.tmp 6] rfl ?_
  intro _
  simp only [go_sem]
  repeat ((first | refine gSymS ?_ | refine gSym ?_); simp only [go_sem])
  simp [inB]

end Gv
