/-
  What the types of this program are. Printed by a program of ours.
-/
import Derived.Test.YtipnobdgmbohkaaGvEval
import Derived.Test.YtipnobdgmbohkaaChecked
namespace Gv
open Go Go.Proofs

@[go_sem] theorem ty3 : tyI Try.prog 3 = some (1, false) := by kernel_rfl
@[go_sem] theorem el3 : elI Try.prog 3 = none := by kernel_rfl
@[go_sem] theorem st3 : isStrI Try.prog 3 = false := by kernel_rfl
@[go_sem] theorem bo3 : isBoolI Try.prog 3 = false := by kernel_rfl
@[go_sem] theorem in3 : intI Try.prog 3 = some .i64 := by kernel_rfl
@[go_sem] theorem ty4 : tyI Try.prog 4 = some (1, false) := by kernel_rfl
@[go_sem] theorem el4 : elI Try.prog 4 = none := by kernel_rfl
@[go_sem] theorem st4 : isStrI Try.prog 4 = false := by kernel_rfl
@[go_sem] theorem bo4 : isBoolI Try.prog 4 = true := by kernel_rfl
@[go_sem] theorem in4 : intI Try.prog 4 = none := by kernel_rfl
@[go_sem] theorem ty5 : tyI Try.prog 5 = some (1, false) := by kernel_rfl
@[go_sem] theorem el5 : elI Try.prog 5 = none := by kernel_rfl
@[go_sem] theorem st5 : isStrI Try.prog 5 = false := by kernel_rfl
@[go_sem] theorem bo5 : isBoolI Try.prog 5 = false := by kernel_rfl
@[go_sem] theorem in5 : intI Try.prog 5 = some .u8 := by kernel_rfl
@[go_sem] theorem ty9 : tyI Try.prog 9 = some (1, false) := by kernel_rfl
@[go_sem] theorem el9 : elI Try.prog 9 = none := by kernel_rfl
@[go_sem] theorem st9 : isStrI Try.prog 9 = true := by kernel_rfl
@[go_sem] theorem bo9 : isBoolI Try.prog 9 = false := by kernel_rfl
@[go_sem] theorem in9 : intI Try.prog 9 = none := by kernel_rfl
@[go_sem] theorem ty22 : tyI Try.prog 22 = some (1, false) := by kernel_rfl
@[go_sem] theorem el22 : elI Try.prog 22 = some (5, 1, 1) := by kernel_rfl
@[go_sem] theorem st22 : isStrI Try.prog 22 = false := by kernel_rfl
@[go_sem] theorem bo22 : isBoolI Try.prog 22 = false := by kernel_rfl
@[go_sem] theorem in22 : intI Try.prog 22 = none := by kernel_rfl
@[go_sem] theorem ty24 : tyI Try.prog 24 = some (1, false) := by kernel_rfl
@[go_sem] theorem el24 : elI Try.prog 24 = some (26, 2, 24) := by kernel_rfl
@[go_sem] theorem st24 : isStrI Try.prog 24 = false := by kernel_rfl
@[go_sem] theorem bo24 : isBoolI Try.prog 24 = false := by kernel_rfl
@[go_sem] theorem in24 : intI Try.prog 24 = none := by kernel_rfl
@[go_sem] theorem ty26 : tyI Try.prog 26 = some (2, true) := by kernel_rfl
@[go_sem] theorem el26 : elI Try.prog 26 = none := by kernel_rfl
@[go_sem] theorem st26 : isStrI Try.prog 26 = false := by kernel_rfl
@[go_sem] theorem bo26 : isBoolI Try.prog 26 = false := by kernel_rfl
@[go_sem] theorem in26 : intI Try.prog 26 = none := by kernel_rfl
@[go_sem] theorem ty42 : tyI Try.prog 42 = some (1, false) := by kernel_rfl
@[go_sem] theorem ty54 : tyI Try.prog 54 = some (3, true) := by kernel_rfl
@[go_sem] theorem el54 : elI Try.prog 54 = none := by kernel_rfl
@[go_sem] theorem st54 : isStrI Try.prog 54 = false := by kernel_rfl
@[go_sem] theorem bo54 : isBoolI Try.prog 54 = false := by kernel_rfl
@[go_sem] theorem in54 : intI Try.prog 54 = none := by kernel_rfl
@[go_sem] theorem ty56 : tyI Try.prog 56 = some (1, false) := by kernel_rfl
@[go_sem] theorem el56 : elI Try.prog 56 = some (3, 1, 8) := by kernel_rfl
@[go_sem] theorem st56 : isStrI Try.prog 56 = false := by kernel_rfl
@[go_sem] theorem bo56 : isBoolI Try.prog 56 = false := by kernel_rfl
@[go_sem] theorem in56 : intI Try.prog 56 = none := by kernel_rfl
@[go_sem] theorem ty59 : tyI Try.prog 59 = some (1, false) := by kernel_rfl
@[go_sem] theorem el59 : elI Try.prog 59 = some (9, 1, 16) := by kernel_rfl
@[go_sem] theorem st59 : isStrI Try.prog 59 = false := by kernel_rfl
@[go_sem] theorem bo59 : isBoolI Try.prog 59 = false := by kernel_rfl
@[go_sem] theorem in59 : intI Try.prog 59 = none := by kernel_rfl
@[go_sem] theorem fd26_0 : fdI Try.prog 26 0 = some 0 := by kernel_rfl
@[go_sem] theorem fd26_1 : fdI Try.prog 26 1 = some 1 := by kernel_rfl
@[go_sem] theorem fd54_0 : fdI Try.prog 54 0 = some 0 := by kernel_rfl
@[go_sem] theorem fd54_1 : fdI Try.prog 54 1 = some 1 := by kernel_rfl
@[go_sem] theorem fd54_2 : fdI Try.prog 54 2 = some 2 := by kernel_rfl
@[go_sem] theorem zr3 : zrI Try.prog 3 = some [.d (.int .i64 0)] := by kernel_rfl
@[go_sem] theorem zr5 : zrI Try.prog 5 = some [.d (.int .u8 0)] := by kernel_rfl
@[go_sem] theorem zr9 : zrI Try.prog 9 = some [.d (.str [])] := by kernel_rfl
@[go_sem] theorem zr26 : zrI Try.prog 26 = some [.d (.int .i64 0), .d (.str [])] := by kernel_rfl
@[go_sem] theorem zr54 : zrI Try.prog 54 = some [.nils 1, .d (.int .i64 0), .d (.int .i64 0)] := by kernel_rfl
@[go_sem] theorem pl26 : plI Try.prog 26 = some fun j => ([(0, 1), (1, 1)] : List (Nat × Nat))[j]? := by kernel_rfl
@[go_sem] theorem pl54 : plI Try.prog 54 = some fun j => ([(0, 1), (1, 1), (2, 1)] : List (Nat × Nat))[j]? := by kernel_rfl
@[go_sem] theorem eq26 : EqOK Try.prog 26 [.i .i64, .s] = True := eq_true (EqOK_of (by kernel_rfl) (by kernel_rfl) (by kernel_rfl) (by kernel_rfl) (by kernel_rfl))

end Gv
