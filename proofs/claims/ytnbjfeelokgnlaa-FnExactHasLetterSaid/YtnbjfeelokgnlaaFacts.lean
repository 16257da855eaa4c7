/-
  What the types of this program are. Printed by a program of ours.
-/
import Derived.Test.YtnbjfeelokgnlaaGvEval
import Derived.Test.YtnbjfeelokgnlaaChecked
namespace Gv
open Go Go.Proofs

@[go_sem] theorem ty3 : tyI Try.prog 3 = some (1, false) := by kernel_rfl
@[go_sem] theorem el3 : elI Try.prog 3 = none := by kernel_rfl
@[go_sem] theorem st3 : isStrI Try.prog 3 = false := by kernel_rfl
@[go_sem] theorem bo3 : isBoolI Try.prog 3 = false := by kernel_rfl
@[go_sem] theorem in3 : intI Try.prog 3 = some .i64 := by kernel_rfl
@[go_sem] theorem ty4 : tyI Try.prog 4 = some (1, false) := by kernel_rfl
@[go_sem] theorem el4 : elI Try.prog 4 = none := by kernel_rfl
@[go_sem] theorem st4 : isStrI Try.prog 4 = false := by kernel_rfl
@[go_sem] theorem bo4 : isBoolI Try.prog 4 = true := by kernel_rfl
@[go_sem] theorem in4 : intI Try.prog 4 = none := by kernel_rfl
@[go_sem] theorem ty9 : tyI Try.prog 9 = some (1, false) := by kernel_rfl
@[go_sem] theorem el9 : elI Try.prog 9 = none := by kernel_rfl
@[go_sem] theorem st9 : isStrI Try.prog 9 = true := by kernel_rfl
@[go_sem] theorem bo9 : isBoolI Try.prog 9 = false := by kernel_rfl
@[go_sem] theorem in9 : intI Try.prog 9 = none := by kernel_rfl
@[go_sem] theorem ty22 : tyI Try.prog 22 = some (1, false) := by kernel_rfl
@[go_sem] theorem el22 : elI Try.prog 22 = some (3, 1, 8) := by kernel_rfl
@[go_sem] theorem st22 : isStrI Try.prog 22 = false := by kernel_rfl
@[go_sem] theorem bo22 : isBoolI Try.prog 22 = false := by kernel_rfl
@[go_sem] theorem in22 : intI Try.prog 22 = none := by kernel_rfl
@[go_sem] theorem ty24 : tyI Try.prog 24 = some (2, true) := by kernel_rfl
@[go_sem] theorem el24 : elI Try.prog 24 = none := by kernel_rfl
@[go_sem] theorem st24 : isStrI Try.prog 24 = false := by kernel_rfl
@[go_sem] theorem bo24 : isBoolI Try.prog 24 = false := by kernel_rfl
@[go_sem] theorem in24 : intI Try.prog 24 = none := by kernel_rfl
@[go_sem] theorem ty29 : tyI Try.prog 29 = some (2, true) := by kernel_rfl
@[go_sem] theorem el29 : elI Try.prog 29 = none := by kernel_rfl
@[go_sem] theorem st29 : isStrI Try.prog 29 = false := by kernel_rfl
@[go_sem] theorem bo29 : isBoolI Try.prog 29 = false := by kernel_rfl
@[go_sem] theorem in29 : intI Try.prog 29 = none := by kernel_rfl
@[go_sem] theorem ty35 : tyI Try.prog 35 = some (1, false) := by kernel_rfl
@[go_sem] theorem el35 : elI Try.prog 35 = some (49, 2, 24) := by kernel_rfl
@[go_sem] theorem st35 : isStrI Try.prog 35 = false := by kernel_rfl
@[go_sem] theorem bo35 : isBoolI Try.prog 35 = false := by kernel_rfl
@[go_sem] theorem in35 : intI Try.prog 35 = none := by kernel_rfl
@[go_sem] theorem ty38 : tyI Try.prog 38 = some (1, false) := by kernel_rfl
@[go_sem] theorem el38 : elI Try.prog 38 = some (50, 2, 24) := by kernel_rfl
@[go_sem] theorem st38 : isStrI Try.prog 38 = false := by kernel_rfl
@[go_sem] theorem bo38 : isBoolI Try.prog 38 = false := by kernel_rfl
@[go_sem] theorem in38 : intI Try.prog 38 = none := by kernel_rfl
@[go_sem] theorem ty49 : tyI Try.prog 49 = some (2, true) := by kernel_rfl
@[go_sem] theorem el49 : elI Try.prog 49 = none := by kernel_rfl
@[go_sem] theorem st49 : isStrI Try.prog 49 = false := by kernel_rfl
@[go_sem] theorem bo49 : isBoolI Try.prog 49 = false := by kernel_rfl
@[go_sem] theorem in49 : intI Try.prog 49 = none := by kernel_rfl
@[go_sem] theorem ty50 : tyI Try.prog 50 = some (2, true) := by kernel_rfl
@[go_sem] theorem el50 : elI Try.prog 50 = none := by kernel_rfl
@[go_sem] theorem st50 : isStrI Try.prog 50 = false := by kernel_rfl
@[go_sem] theorem bo50 : isBoolI Try.prog 50 = false := by kernel_rfl
@[go_sem] theorem in50 : intI Try.prog 50 = none := by kernel_rfl
@[go_sem] theorem fd24_0 : fdI Try.prog 24 0 = some 0 := by kernel_rfl
@[go_sem] theorem fd24_1 : fdI Try.prog 24 1 = some 1 := by kernel_rfl
@[go_sem] theorem fd29_0 : fdI Try.prog 29 0 = some 0 := by kernel_rfl
@[go_sem] theorem fd29_1 : fdI Try.prog 29 1 = some 1 := by kernel_rfl
@[go_sem] theorem fd49_0 : fdI Try.prog 49 0 = some 0 := by kernel_rfl
@[go_sem] theorem fd49_1 : fdI Try.prog 49 1 = some 1 := by kernel_rfl
@[go_sem] theorem fd50_0 : fdI Try.prog 50 0 = some 0 := by kernel_rfl
@[go_sem] theorem fd50_1 : fdI Try.prog 50 1 = some 1 := by kernel_rfl
@[go_sem] theorem zr3 : zrI Try.prog 3 = some [.d (.int .i64 0)] := by kernel_rfl
@[go_sem] theorem zr24 : zrI Try.prog 24 = some [.nils 1, .d (.int .i64 0)] := by kernel_rfl
@[go_sem] theorem zr49 : zrI Try.prog 49 = some [.d (.int .i64 0), .d (.str [])] := by kernel_rfl
@[go_sem] theorem zr50 : zrI Try.prog 50 = some [.d (.int .i64 0), .d (.str [])] := by kernel_rfl
@[go_sem] theorem pl24 : plI Try.prog 24 = some fun j => ([(0, 1), (1, 1)] : List (Nat × Nat))[j]? := by kernel_rfl
@[go_sem] theorem pl49 : plI Try.prog 49 = some fun j => ([(0, 1), (1, 1)] : List (Nat × Nat))[j]? := by kernel_rfl
@[go_sem] theorem pl50 : plI Try.prog 50 = some fun j => ([(0, 1), (1, 1)] : List (Nat × Nat))[j]? := by kernel_rfl
@[go_sem] theorem eq50 : EqOK Try.prog 50 [.i .i64, .s] = True := eq_true (EqOK_of (by kernel_rfl) (by kernel_rfl) (by kernel_rfl) (by kernel_rfl) (by kernel_rfl))

end Gv
