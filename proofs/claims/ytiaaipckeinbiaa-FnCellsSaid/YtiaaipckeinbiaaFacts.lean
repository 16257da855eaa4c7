/-
  What the types of this program are. Printed by a program of ours.
-/
import Derived.Test.YtiaaipckeinbiaaGvEval
import Derived.Test.YtiaaipckeinbiaaChecked
namespace Gv
open Go Go.Proofs

@[go_sem] theorem ty3 : tyI Try.prog 3 = some (1, false) := by kernel_rfl
@[go_sem] theorem el3 : elI Try.prog 3 = none := by kernel_rfl
@[go_sem] theorem st3 : isStrI Try.prog 3 = false := by kernel_rfl
@[go_sem] theorem bo3 : isBoolI Try.prog 3 = false := by kernel_rfl
@[go_sem] theorem in3 : intI Try.prog 3 = some .i64 := by kernel_rfl
@[go_sem] theorem ty4 : tyI Try.prog 4 = some (1, false) := by kernel_rfl
@[go_sem] theorem el4 : elI Try.prog 4 = none := by kernel_rfl
@[go_sem] theorem st4 : isStrI Try.prog 4 = false := by kernel_rfl
@[go_sem] theorem bo4 : isBoolI Try.prog 4 = true := by kernel_rfl
@[go_sem] theorem in4 : intI Try.prog 4 = none := by kernel_rfl
@[go_sem] theorem ty5 : tyI Try.prog 5 = some (1, false) := by kernel_rfl
@[go_sem] theorem el5 : elI Try.prog 5 = none := by kernel_rfl
@[go_sem] theorem st5 : isStrI Try.prog 5 = false := by kernel_rfl
@[go_sem] theorem bo5 : isBoolI Try.prog 5 = false := by kernel_rfl
@[go_sem] theorem in5 : intI Try.prog 5 = some .u8 := by kernel_rfl
@[go_sem] theorem ty9 : tyI Try.prog 9 = some (1, false) := by kernel_rfl
@[go_sem] theorem el9 : elI Try.prog 9 = none := by kernel_rfl
@[go_sem] theorem st9 : isStrI Try.prog 9 = true := by kernel_rfl
@[go_sem] theorem bo9 : isBoolI Try.prog 9 = false := by kernel_rfl
@[go_sem] theorem in9 : intI Try.prog 9 = none := by kernel_rfl
@[go_sem] theorem ty22 : tyI Try.prog 22 = some (1, false) := by kernel_rfl
@[go_sem] theorem el22 : elI Try.prog 22 = some (5, 1, 1) := by kernel_rfl
@[go_sem] theorem st22 : isStrI Try.prog 22 = false := by kernel_rfl
@[go_sem] theorem bo22 : isBoolI Try.prog 22 = false := by kernel_rfl
@[go_sem] theorem in22 : intI Try.prog 22 = none := by kernel_rfl
@[go_sem] theorem ty24 : tyI Try.prog 24 = some (1, false) := by kernel_rfl
@[go_sem] theorem el24 : elI Try.prog 24 = some (56, 2, 24) := by kernel_rfl
@[go_sem] theorem st24 : isStrI Try.prog 24 = false := by kernel_rfl
@[go_sem] theorem bo24 : isBoolI Try.prog 24 = false := by kernel_rfl
@[go_sem] theorem in24 : intI Try.prog 24 = none := by kernel_rfl
@[go_sem] theorem ty26 : tyI Try.prog 26 = some (2, true) := by kernel_rfl
@[go_sem] theorem el26 : elI Try.prog 26 = none := by kernel_rfl
@[go_sem] theorem st26 : isStrI Try.prog 26 = false := by kernel_rfl
@[go_sem] theorem bo26 : isBoolI Try.prog 26 = false := by kernel_rfl
@[go_sem] theorem in26 : intI Try.prog 26 = none := by kernel_rfl
@[go_sem] theorem ty27 : tyI Try.prog 27 = some (1, false) := by kernel_rfl
@[go_sem] theorem el27 : elI Try.prog 27 = some (3, 1, 8) := by kernel_rfl
@[go_sem] theorem st27 : isStrI Try.prog 27 = false := by kernel_rfl
@[go_sem] theorem bo27 : isBoolI Try.prog 27 = false := by kernel_rfl
@[go_sem] theorem in27 : intI Try.prog 27 = none := by kernel_rfl
@[go_sem] theorem ty29 : tyI Try.prog 29 = some (2, true) := by kernel_rfl
@[go_sem] theorem el29 : elI Try.prog 29 = none := by kernel_rfl
@[go_sem] theorem st29 : isStrI Try.prog 29 = false := by kernel_rfl
@[go_sem] theorem bo29 : isBoolI Try.prog 29 = false := by kernel_rfl
@[go_sem] theorem in29 : intI Try.prog 29 = none := by kernel_rfl
@[go_sem] theorem ty42 : tyI Try.prog 42 = some (1, false) := by kernel_rfl
@[go_sem] theorem el42 : elI Try.prog 42 = some (65, 2, 16) := by kernel_rfl
@[go_sem] theorem st42 : isStrI Try.prog 42 = false := by kernel_rfl
@[go_sem] theorem bo42 : isBoolI Try.prog 42 = false := by kernel_rfl
@[go_sem] theorem in42 : intI Try.prog 42 = none := by kernel_rfl
@[go_sem] theorem ty56 : tyI Try.prog 56 = some (2, true) := by kernel_rfl
@[go_sem] theorem el56 : elI Try.prog 56 = none := by kernel_rfl
@[go_sem] theorem st56 : isStrI Try.prog 56 = false := by kernel_rfl
@[go_sem] theorem bo56 : isBoolI Try.prog 56 = false := by kernel_rfl
@[go_sem] theorem in56 : intI Try.prog 56 = none := by kernel_rfl
@[go_sem] theorem ty65 : tyI Try.prog 65 = some (2, true) := by kernel_rfl
@[go_sem] theorem el65 : elI Try.prog 65 = none := by kernel_rfl
@[go_sem] theorem st65 : isStrI Try.prog 65 = false := by kernel_rfl
@[go_sem] theorem bo65 : isBoolI Try.prog 65 = false := by kernel_rfl
@[go_sem] theorem in65 : intI Try.prog 65 = none := by kernel_rfl
@[go_sem] theorem ty67 : tyI Try.prog 67 = some (1, false) := by kernel_rfl
@[go_sem] theorem ty82 : tyI Try.prog 82 = some (1, false) := by kernel_rfl
@[go_sem] theorem el82 : elI Try.prog 82 = none := by kernel_rfl
@[go_sem] theorem st82 : isStrI Try.prog 82 = false := by kernel_rfl
@[go_sem] theorem bo82 : isBoolI Try.prog 82 = false := by kernel_rfl
@[go_sem] theorem in82 : intI Try.prog 82 = some .u64 := by kernel_rfl
@[go_sem] theorem ty87 : tyI Try.prog 87 = some (3, true) := by kernel_rfl
@[go_sem] theorem el87 : elI Try.prog 87 = none := by kernel_rfl
@[go_sem] theorem st87 : isStrI Try.prog 87 = false := by kernel_rfl
@[go_sem] theorem bo87 : isBoolI Try.prog 87 = false := by kernel_rfl
@[go_sem] theorem in87 : intI Try.prog 87 = none := by kernel_rfl
@[go_sem] theorem ty89 : tyI Try.prog 89 = some (1, false) := by kernel_rfl
@[go_sem] theorem el89 : elI Try.prog 89 = some (9, 1, 16) := by kernel_rfl
@[go_sem] theorem st89 : isStrI Try.prog 89 = false := by kernel_rfl
@[go_sem] theorem bo89 : isBoolI Try.prog 89 = false := by kernel_rfl
@[go_sem] theorem in89 : intI Try.prog 89 = none := by kernel_rfl
@[go_sem] theorem ty93 : tyI Try.prog 93 = some (1, false) := by kernel_rfl
@[go_sem] theorem el93 : elI Try.prog 93 = none := by kernel_rfl
@[go_sem] theorem st93 : isStrI Try.prog 93 = false := by kernel_rfl
@[go_sem] theorem bo93 : isBoolI Try.prog 93 = false := by kernel_rfl
@[go_sem] theorem in93 : intI Try.prog 93 = some .i64 := by kernel_rfl
@[go_sem] theorem ty101 : tyI Try.prog 101 = some (1, false) := by kernel_rfl
@[go_sem] theorem el101 : elI Try.prog 101 = none := by kernel_rfl
@[go_sem] theorem st101 : isStrI Try.prog 101 = false := by kernel_rfl
@[go_sem] theorem bo101 : isBoolI Try.prog 101 = false := by kernel_rfl
@[go_sem] theorem in101 : intI Try.prog 101 = some .u32 := by kernel_rfl
@[go_sem] theorem ty103 : tyI Try.prog 103 = some (1, false) := by kernel_rfl
@[go_sem] theorem el103 : elI Try.prog 103 = none := by kernel_rfl
@[go_sem] theorem st103 : isStrI Try.prog 103 = false := by kernel_rfl
@[go_sem] theorem bo103 : isBoolI Try.prog 103 = false := by kernel_rfl
@[go_sem] theorem in103 : intI Try.prog 103 = some .u64 := by kernel_rfl
@[go_sem] theorem ty104 : tyI Try.prog 104 = some (1, false) := by kernel_rfl
@[go_sem] theorem el104 : elI Try.prog 104 = none := by kernel_rfl
@[go_sem] theorem st104 : isStrI Try.prog 104 = false := by kernel_rfl
@[go_sem] theorem bo104 : isBoolI Try.prog 104 = false := by kernel_rfl
@[go_sem] theorem in104 : intI Try.prog 104 = some .u64 := by kernel_rfl
@[go_sem] theorem ty108 : tyI Try.prog 108 = some (1, false) := by kernel_rfl
@[go_sem] theorem ty110 : tyI Try.prog 110 = some (1, false) := by kernel_rfl
@[go_sem] theorem fd26_0 : fdI Try.prog 26 0 = some 0 := by kernel_rfl
@[go_sem] theorem fd26_1 : fdI Try.prog 26 1 = some 1 := by kernel_rfl
@[go_sem] theorem fd29_0 : fdI Try.prog 29 0 = some 0 := by kernel_rfl
@[go_sem] theorem fd29_1 : fdI Try.prog 29 1 = some 1 := by kernel_rfl
@[go_sem] theorem fd56_0 : fdI Try.prog 56 0 = some 0 := by kernel_rfl
@[go_sem] theorem fd56_1 : fdI Try.prog 56 1 = some 1 := by kernel_rfl
@[go_sem] theorem fd65_0 : fdI Try.prog 65 0 = some 0 := by kernel_rfl
@[go_sem] theorem fd65_1 : fdI Try.prog 65 1 = some 1 := by kernel_rfl
@[go_sem] theorem fd87_0 : fdI Try.prog 87 0 = some 0 := by kernel_rfl
@[go_sem] theorem fd87_1 : fdI Try.prog 87 1 = some 1 := by kernel_rfl
@[go_sem] theorem fd87_2 : fdI Try.prog 87 2 = some 2 := by kernel_rfl
@[go_sem] theorem zr3 : zrI Try.prog 3 = some [.d (.int .i64 0)] := by kernel_rfl
@[go_sem] theorem zr5 : zrI Try.prog 5 = some [.d (.int .u8 0)] := by kernel_rfl
@[go_sem] theorem zr9 : zrI Try.prog 9 = some [.d (.str [])] := by kernel_rfl
@[go_sem] theorem zr24 : zrI Try.prog 24 = some [.nils 2] := by kernel_rfl
@[go_sem] theorem zr26 : zrI Try.prog 26 = some [.d (.int .i64 0), .nils 2] := by kernel_rfl
@[go_sem] theorem zr29 : zrI Try.prog 29 = some [.nils 1, .d (.int .i64 0)] := by kernel_rfl
@[go_sem] theorem zr56 : zrI Try.prog 56 = some [.d (.int .i64 0), .d (.str [])] := by kernel_rfl
@[go_sem] theorem zr65 : zrI Try.prog 65 = some [.d (.int .i64 0), .d (.int .i64 0)] := by kernel_rfl
@[go_sem] theorem zr87 : zrI Try.prog 87 = some [.nils 1, .d (.int .i64 0), .d (.int .i64 0)] := by kernel_rfl
@[go_sem] theorem zr104 : zrI Try.prog 104 = some [.d (.int .u64 0)] := by kernel_rfl
@[go_sem] theorem pl26 : plI Try.prog 26 = some fun j => ([(0, 1), (1, 1)] : List (Nat × Nat))[j]? := by kernel_rfl
@[go_sem] theorem pl29 : plI Try.prog 29 = some fun j => ([(0, 1), (1, 1)] : List (Nat × Nat))[j]? := by kernel_rfl
@[go_sem] theorem pl56 : plI Try.prog 56 = some fun j => ([(0, 1), (1, 1)] : List (Nat × Nat))[j]? := by kernel_rfl
@[go_sem] theorem pl65 : plI Try.prog 65 = some fun j => ([(0, 1), (1, 1)] : List (Nat × Nat))[j]? := by kernel_rfl
@[go_sem] theorem pl87 : plI Try.prog 87 = some fun j => ([(0, 1), (1, 1), (2, 1)] : List (Nat × Nat))[j]? := by kernel_rfl
@[go_sem] theorem eq65 : EqOK Try.prog 65 [.i .i64, .i .i64] = True := eq_true (EqOK_of (by kernel_rfl) (by kernel_rfl) (by kernel_rfl) (by kernel_rfl) (by kernel_rfl))

end Gv
