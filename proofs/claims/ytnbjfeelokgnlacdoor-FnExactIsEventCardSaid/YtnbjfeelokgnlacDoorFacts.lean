/-
  What the types of this program are. Printed by a program of ours.
-/
import Derived.Test.YtnbjfeelokgnlacDoorGvEval
import Derived.Test.YtnbjfeelokgnlacDoorChecked
namespace Gv
open Go Go.Proofs

@[go_sem] theorem ty3 : tyI Tryd.prog 3 = some (1, false) := by kernel_rfl
@[go_sem] theorem el3 : elI Tryd.prog 3 = none := by kernel_rfl
@[go_sem] theorem st3 : isStrI Tryd.prog 3 = false := by kernel_rfl
@[go_sem] theorem bo3 : isBoolI Tryd.prog 3 = false := by kernel_rfl
@[go_sem] theorem in3 : intI Tryd.prog 3 = some .i64 := by kernel_rfl
@[go_sem] theorem ty4 : tyI Tryd.prog 4 = some (1, false) := by kernel_rfl
@[go_sem] theorem el4 : elI Tryd.prog 4 = none := by kernel_rfl
@[go_sem] theorem st4 : isStrI Tryd.prog 4 = false := by kernel_rfl
@[go_sem] theorem bo4 : isBoolI Tryd.prog 4 = true := by kernel_rfl
@[go_sem] theorem in4 : intI Tryd.prog 4 = none := by kernel_rfl
@[go_sem] theorem ty5 : tyI Tryd.prog 5 = some (1, false) := by kernel_rfl
@[go_sem] theorem el5 : elI Tryd.prog 5 = none := by kernel_rfl
@[go_sem] theorem st5 : isStrI Tryd.prog 5 = false := by kernel_rfl
@[go_sem] theorem bo5 : isBoolI Tryd.prog 5 = false := by kernel_rfl
@[go_sem] theorem in5 : intI Tryd.prog 5 = some .u8 := by kernel_rfl
@[go_sem] theorem ty9 : tyI Tryd.prog 9 = some (1, false) := by kernel_rfl
@[go_sem] theorem el9 : elI Tryd.prog 9 = none := by kernel_rfl
@[go_sem] theorem st9 : isStrI Tryd.prog 9 = true := by kernel_rfl
@[go_sem] theorem bo9 : isBoolI Tryd.prog 9 = false := by kernel_rfl
@[go_sem] theorem in9 : intI Tryd.prog 9 = none := by kernel_rfl
@[go_sem] theorem ty23 : tyI Tryd.prog 23 = some (4, true) := by kernel_rfl
@[go_sem] theorem el23 : elI Tryd.prog 23 = none := by kernel_rfl
@[go_sem] theorem st23 : isStrI Tryd.prog 23 = false := by kernel_rfl
@[go_sem] theorem bo23 : isBoolI Tryd.prog 23 = false := by kernel_rfl
@[go_sem] theorem in23 : intI Tryd.prog 23 = none := by kernel_rfl
@[go_sem] theorem ty26 : tyI Tryd.prog 26 = some (4, true) := by kernel_rfl
@[go_sem] theorem el26 : elI Tryd.prog 26 = none := by kernel_rfl
@[go_sem] theorem st26 : isStrI Tryd.prog 26 = false := by kernel_rfl
@[go_sem] theorem bo26 : isBoolI Tryd.prog 26 = false := by kernel_rfl
@[go_sem] theorem in26 : intI Tryd.prog 26 = none := by kernel_rfl
@[go_sem] theorem ty37 : tyI Tryd.prog 37 = some (1, false) := by kernel_rfl
@[go_sem] theorem el37 : elI Tryd.prog 37 = some (9, 1, 16) := by kernel_rfl
@[go_sem] theorem st37 : isStrI Tryd.prog 37 = false := by kernel_rfl
@[go_sem] theorem bo37 : isBoolI Tryd.prog 37 = false := by kernel_rfl
@[go_sem] theorem in37 : intI Tryd.prog 37 = none := by kernel_rfl
@[go_sem] theorem ty38 : tyI Tryd.prog 38 = some (1, false) := by kernel_rfl
@[go_sem] theorem el38 : elI Tryd.prog 38 = some (5, 1, 1) := by kernel_rfl
@[go_sem] theorem st38 : isStrI Tryd.prog 38 = false := by kernel_rfl
@[go_sem] theorem bo38 : isBoolI Tryd.prog 38 = false := by kernel_rfl
@[go_sem] theorem in38 : intI Tryd.prog 38 = none := by kernel_rfl
@[go_sem] theorem ty40 : tyI Tryd.prog 40 = some (13, true) := by kernel_rfl
@[go_sem] theorem el40 : elI Tryd.prog 40 = none := by kernel_rfl
@[go_sem] theorem ar40 : arI Tryd.prog 40 = some (13, 1) := by kernel_rfl
@[go_sem] theorem st40 : isStrI Tryd.prog 40 = false := by kernel_rfl
@[go_sem] theorem bo40 : isBoolI Tryd.prog 40 = false := by kernel_rfl
@[go_sem] theorem in40 : intI Tryd.prog 40 = none := by kernel_rfl
@[go_sem] theorem fd23_0 : fdI Tryd.prog 23 0 = some 0 := by kernel_rfl
@[go_sem] theorem fd23_1 : fdI Tryd.prog 23 1 = some 1 := by kernel_rfl
@[go_sem] theorem fd23_2 : fdI Tryd.prog 23 2 = some 2 := by kernel_rfl
@[go_sem] theorem fd23_3 : fdI Tryd.prog 23 3 = some 3 := by kernel_rfl
@[go_sem] theorem fd26_0 : fdI Tryd.prog 26 0 = some 0 := by kernel_rfl
@[go_sem] theorem fd26_1 : fdI Tryd.prog 26 1 = some 1 := by kernel_rfl
@[go_sem] theorem fd26_2 : fdI Tryd.prog 26 2 = some 2 := by kernel_rfl
@[go_sem] theorem fd26_3 : fdI Tryd.prog 26 3 = some 3 := by kernel_rfl
@[go_sem] theorem zr5 : zrI Tryd.prog 5 = some [.d (.int .u8 0)] := by kernel_rfl
@[go_sem] theorem zr9 : zrI Tryd.prog 9 = some [.d (.str [])] := by kernel_rfl
@[go_sem] theorem zr26 : zrI Tryd.prog 26 = some [.d (.int .i64 0), .d (.int .i64 0), .d (.int .i64 0), .d (.str [])] := by kernel_rfl
@[go_sem] theorem zr40 : zrI Tryd.prog 40 = some [.d (.str []), .d (.str []), .d (.str []), .d (.str []), .d (.str []), .d (.str []), .d (.str []), .d (.str []), .d (.str []), .d (.str []), .d (.str []), .d (.str []), .d (.str [])] := by kernel_rfl
@[go_sem] theorem pl26 : plI Tryd.prog 26 = some fun j => ([(0, 1), (1, 1), (2, 1), (3, 1)] : List (Nat × Nat))[j]? := by kernel_rfl
@[go_sem] theorem eq26 : EqOK Tryd.prog 26 [.i .i64, .i .i64, .i .i64, .s] = True := eq_true (EqOK_of (by kernel_rfl) (by kernel_rfl) (by kernel_rfl) (by kernel_rfl) (by kernel_rfl))
@[go_sem] theorem gl0 (σ : St) : σ.ev (.global 0) = .rp [.str [], .str [111, 112, 101, 110], .str [119, 114, 105, 116, 101], .str [102, 105, 110, 105, 115, 104], .str [114, 101, 97, 100], .str [114, 101, 115, 101, 116], .str [115, 116, 111, 112], .str [112, 114, 105, 111, 114, 105, 116, 121], .str [101, 109, 105, 116], .str [97, 99, 107], .str [108, 111, 115, 101], .str [112, 97, 121, 108, 111, 97, 100], .str [116, 105, 109, 101]] 0 := rfl

end Gv
