/-
  What the types of this program are. Printed by a program of ours.
-/
import Derived.Test.YtnbjfeelokgnlacGvEval
import Derived.Test.YtnbjfeelokgnlacChecked
namespace Gv
open Go Go.Proofs

@[go_sem] theorem ty3 : tyI Try.prog 3 = some (1, false) := by kernel_rfl
@[go_sem] theorem el3 : elI Try.prog 3 = none := by kernel_rfl
@[go_sem] theorem st3 : isStrI Try.prog 3 = false := by kernel_rfl
@[go_sem] theorem bo3 : isBoolI Try.prog 3 = false := by kernel_rfl
@[go_sem] theorem in3 : intI Try.prog 3 = some .i64 := by kernel_rfl
@[go_sem] theorem ty4 : tyI Try.prog 4 = some (1, false) := by kernel_rfl
@[go_sem] theorem el4 : elI Try.prog 4 = none := by kernel_rfl
@[go_sem] theorem st4 : isStrI Try.prog 4 = false := by kernel_rfl
@[go_sem] theorem bo4 : isBoolI Try.prog 4 = true := by kernel_rfl
@[go_sem] theorem in4 : intI Try.prog 4 = none := by kernel_rfl
@[go_sem] theorem ty5 : tyI Try.prog 5 = some (1, false) := by kernel_rfl
@[go_sem] theorem el5 : elI Try.prog 5 = none := by kernel_rfl
@[go_sem] theorem st5 : isStrI Try.prog 5 = false := by kernel_rfl
@[go_sem] theorem bo5 : isBoolI Try.prog 5 = false := by kernel_rfl
@[go_sem] theorem in5 : intI Try.prog 5 = some .u8 := by kernel_rfl
@[go_sem] theorem ty9 : tyI Try.prog 9 = some (1, false) := by kernel_rfl
@[go_sem] theorem el9 : elI Try.prog 9 = none := by kernel_rfl
@[go_sem] theorem st9 : isStrI Try.prog 9 = true := by kernel_rfl
@[go_sem] theorem bo9 : isBoolI Try.prog 9 = false := by kernel_rfl
@[go_sem] theorem in9 : intI Try.prog 9 = none := by kernel_rfl
@[go_sem] theorem ty22 : tyI Try.prog 22 = some (1, false) := by kernel_rfl
@[go_sem] theorem el22 : elI Try.prog 22 = some (3, 1, 8) := by kernel_rfl
@[go_sem] theorem st22 : isStrI Try.prog 22 = false := by kernel_rfl
@[go_sem] theorem bo22 : isBoolI Try.prog 22 = false := by kernel_rfl
@[go_sem] theorem in22 : intI Try.prog 22 = none := by kernel_rfl
@[go_sem] theorem ty24 : tyI Try.prog 24 = some (2, true) := by kernel_rfl
@[go_sem] theorem el24 : elI Try.prog 24 = none := by kernel_rfl
@[go_sem] theorem st24 : isStrI Try.prog 24 = false := by kernel_rfl
@[go_sem] theorem bo24 : isBoolI Try.prog 24 = false := by kernel_rfl
@[go_sem] theorem in24 : intI Try.prog 24 = none := by kernel_rfl
@[go_sem] theorem ty26 : tyI Try.prog 26 = some (2, true) := by kernel_rfl
@[go_sem] theorem el26 : elI Try.prog 26 = none := by kernel_rfl
@[go_sem] theorem st26 : isStrI Try.prog 26 = false := by kernel_rfl
@[go_sem] theorem bo26 : isBoolI Try.prog 26 = false := by kernel_rfl
@[go_sem] theorem in26 : intI Try.prog 26 = none := by kernel_rfl
@[go_sem] theorem ty38 : tyI Try.prog 38 = some (1, false) := by kernel_rfl
@[go_sem] theorem el38 : elI Try.prog 38 = some (5, 1, 1) := by kernel_rfl
@[go_sem] theorem st38 : isStrI Try.prog 38 = false := by kernel_rfl
@[go_sem] theorem bo38 : isBoolI Try.prog 38 = false := by kernel_rfl
@[go_sem] theorem in38 : intI Try.prog 38 = none := by kernel_rfl
@[go_sem] theorem fd24_0 : fdI Try.prog 24 0 = some 0 := by kernel_rfl
@[go_sem] theorem fd24_1 : fdI Try.prog 24 1 = some 1 := by kernel_rfl
@[go_sem] theorem fd26_0 : fdI Try.prog 26 0 = some 0 := by kernel_rfl
@[go_sem] theorem fd26_1 : fdI Try.prog 26 1 = some 1 := by kernel_rfl
@[go_sem] theorem zr3 : zrI Try.prog 3 = some [.d (.int .i64 0)] := by kernel_rfl
@[go_sem] theorem zr5 : zrI Try.prog 5 = some [.d (.int .u8 0)] := by kernel_rfl
@[go_sem] theorem zr26 : zrI Try.prog 26 = some [.nils 1, .d (.int .i64 0)] := by kernel_rfl
@[go_sem] theorem pl26 : plI Try.prog 26 = some fun j => ([(0, 1), (1, 1)] : List (Nat × Nat))[j]? := by kernel_rfl

end Gv
