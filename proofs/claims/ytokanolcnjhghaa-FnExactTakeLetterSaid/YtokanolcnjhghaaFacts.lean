/-
  What the types of this program are. Printed by a program of ours.
-/
import Derived.Test.YtokanolcnjhghaaGvEval
import Derived.Test.YtokanolcnjhghaaChecked
namespace Gv
open Go Go.Proofs

@[go_sem] theorem ty3 : tyI Try.prog 3 = some (1, false) := by kernel_rfl
@[go_sem] theorem el3 : elI Try.prog 3 = none := by kernel_rfl
@[go_sem] theorem st3 : isStrI Try.prog 3 = false := by kernel_rfl
@[go_sem] theorem bo3 : isBoolI Try.prog 3 = false := by kernel_rfl
@[go_sem] theorem in3 : intI Try.prog 3 = some .i64 := by kernel_rfl
@[go_sem] theorem ty4 : tyI Try.prog 4 = some (1, false) := by kernel_rfl
@[go_sem] theorem el4 : elI Try.prog 4 = none := by kernel_rfl
@[go_sem] theorem st4 : isStrI Try.prog 4 = false := by kernel_rfl
@[go_sem] theorem bo4 : isBoolI Try.prog 4 = true := by kernel_rfl
@[go_sem] theorem in4 : intI Try.prog 4 = none := by kernel_rfl
@[go_sem] theorem ty5 : tyI Try.prog 5 = some (1, false) := by kernel_rfl
@[go_sem] theorem el5 : elI Try.prog 5 = none := by kernel_rfl
@[go_sem] theorem st5 : isStrI Try.prog 5 = false := by kernel_rfl
@[go_sem] theorem bo5 : isBoolI Try.prog 5 = false := by kernel_rfl
@[go_sem] theorem in5 : intI Try.prog 5 = some .u8 := by kernel_rfl
@[go_sem] theorem ty9 : tyI Try.prog 9 = some (1, false) := by kernel_rfl
@[go_sem] theorem el9 : elI Try.prog 9 = none := by kernel_rfl
@[go_sem] theorem st9 : isStrI Try.prog 9 = true := by kernel_rfl
@[go_sem] theorem bo9 : isBoolI Try.prog 9 = false := by kernel_rfl
@[go_sem] theorem in9 : intI Try.prog 9 = none := by kernel_rfl
@[go_sem] theorem ty22 : tyI Try.prog 22 = some (1, false) := by kernel_rfl
@[go_sem] theorem el22 : elI Try.prog 22 = some (35, 2, 24) := by kernel_rfl
@[go_sem] theorem st22 : isStrI Try.prog 22 = false := by kernel_rfl
@[go_sem] theorem bo22 : isBoolI Try.prog 22 = false := by kernel_rfl
@[go_sem] theorem in22 : intI Try.prog 22 = none := by kernel_rfl
@[go_sem] theorem ty25 : tyI Try.prog 25 = some (2, true) := by kernel_rfl
@[go_sem] theorem el25 : elI Try.prog 25 = none := by kernel_rfl
@[go_sem] theorem st25 : isStrI Try.prog 25 = false := by kernel_rfl
@[go_sem] theorem bo25 : isBoolI Try.prog 25 = false := by kernel_rfl
@[go_sem] theorem in25 : intI Try.prog 25 = none := by kernel_rfl
@[go_sem] theorem ty26 : tyI Try.prog 26 = some (1, false) := by kernel_rfl
@[go_sem] theorem el26 : elI Try.prog 26 = some (25, 2, 24) := by kernel_rfl
@[go_sem] theorem st26 : isStrI Try.prog 26 = false := by kernel_rfl
@[go_sem] theorem bo26 : isBoolI Try.prog 26 = false := by kernel_rfl
@[go_sem] theorem in26 : intI Try.prog 26 = none := by kernel_rfl
@[go_sem] theorem ty35 : tyI Try.prog 35 = some (2, true) := by kernel_rfl
@[go_sem] theorem el35 : elI Try.prog 35 = none := by kernel_rfl
@[go_sem] theorem st35 : isStrI Try.prog 35 = false := by kernel_rfl
@[go_sem] theorem bo35 : isBoolI Try.prog 35 = false := by kernel_rfl
@[go_sem] theorem in35 : intI Try.prog 35 = none := by kernel_rfl
@[go_sem] theorem ty41 : tyI Try.prog 41 = some (1, false) := by kernel_rfl
@[go_sem] theorem el41 : elI Try.prog 41 = some (5, 1, 1) := by kernel_rfl
@[go_sem] theorem st41 : isStrI Try.prog 41 = false := by kernel_rfl
@[go_sem] theorem bo41 : isBoolI Try.prog 41 = false := by kernel_rfl
@[go_sem] theorem in41 : intI Try.prog 41 = none := by kernel_rfl
@[go_sem] theorem fd25_0 : fdI Try.prog 25 0 = some 0 := by kernel_rfl
@[go_sem] theorem fd25_1 : fdI Try.prog 25 1 = some 1 := by kernel_rfl
@[go_sem] theorem fd35_0 : fdI Try.prog 35 0 = some 0 := by kernel_rfl
@[go_sem] theorem fd35_1 : fdI Try.prog 35 1 = some 1 := by kernel_rfl
@[go_sem] theorem zr5 : zrI Try.prog 5 = some [.d (.int .u8 0)] := by kernel_rfl
@[go_sem] theorem zr25 : zrI Try.prog 25 = some [.d (.int .i64 0), .d (.str [])] := by kernel_rfl
@[go_sem] theorem zr35 : zrI Try.prog 35 = some [.d (.int .i64 0), .d (.str [])] := by kernel_rfl
@[go_sem] theorem pl25 : plI Try.prog 25 = some fun j => ([(0, 1), (1, 1)] : List (Nat × Nat))[j]? := by kernel_rfl
@[go_sem] theorem pl35 : plI Try.prog 35 = some fun j => ([(0, 1), (1, 1)] : List (Nat × Nat))[j]? := by kernel_rfl

end Gv
