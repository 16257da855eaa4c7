/-
  What the types of this program are. Printed by a program of ours.
-/
import Derived.Test.YthfdnfhpihkihaaDoorGvEval
import Derived.Test.YthfdnfhpihkihaaDoorChecked
namespace Gv
open Go Go.Proofs

@[go_sem] theorem ty2 : tyI Tryd.prog 2 = some (1, false) := by kernel_rfl
@[go_sem] theorem el2 : elI Tryd.prog 2 = none := by kernel_rfl
@[go_sem] theorem st2 : isStrI Tryd.prog 2 = false := by kernel_rfl
@[go_sem] theorem bo2 : isBoolI Tryd.prog 2 = false := by kernel_rfl
@[go_sem] theorem in2 : intI Tryd.prog 2 = some .i64 := by kernel_rfl
@[go_sem] theorem ty3 : tyI Tryd.prog 3 = some (1, false) := by kernel_rfl
@[go_sem] theorem el3 : elI Tryd.prog 3 = none := by kernel_rfl
@[go_sem] theorem st3 : isStrI Tryd.prog 3 = false := by kernel_rfl
@[go_sem] theorem bo3 : isBoolI Tryd.prog 3 = false := by kernel_rfl
@[go_sem] theorem in3 : intI Tryd.prog 3 = some .i64 := by kernel_rfl
@[go_sem] theorem ty4 : tyI Tryd.prog 4 = some (1, false) := by kernel_rfl
@[go_sem] theorem el4 : elI Tryd.prog 4 = none := by kernel_rfl
@[go_sem] theorem st4 : isStrI Tryd.prog 4 = false := by kernel_rfl
@[go_sem] theorem bo4 : isBoolI Tryd.prog 4 = true := by kernel_rfl
@[go_sem] theorem in4 : intI Tryd.prog 4 = none := by kernel_rfl
@[go_sem] theorem ty5 : tyI Tryd.prog 5 = some (1, false) := by kernel_rfl
@[go_sem] theorem el5 : elI Tryd.prog 5 = none := by kernel_rfl
@[go_sem] theorem st5 : isStrI Tryd.prog 5 = false := by kernel_rfl
@[go_sem] theorem bo5 : isBoolI Tryd.prog 5 = false := by kernel_rfl
@[go_sem] theorem in5 : intI Tryd.prog 5 = some .u8 := by kernel_rfl
@[go_sem] theorem ty9 : tyI Tryd.prog 9 = some (1, false) := by kernel_rfl
@[go_sem] theorem el9 : elI Tryd.prog 9 = none := by kernel_rfl
@[go_sem] theorem st9 : isStrI Tryd.prog 9 = true := by kernel_rfl
@[go_sem] theorem bo9 : isBoolI Tryd.prog 9 = false := by kernel_rfl
@[go_sem] theorem in9 : intI Tryd.prog 9 = none := by kernel_rfl
@[go_sem] theorem ty21 : tyI Tryd.prog 21 = some (1, false) := by kernel_rfl
@[go_sem] theorem el21 : elI Tryd.prog 21 = none := by kernel_rfl
@[go_sem] theorem st21 : isStrI Tryd.prog 21 = false := by kernel_rfl
@[go_sem] theorem bo21 : isBoolI Tryd.prog 21 = false := by kernel_rfl
@[go_sem] theorem in21 : intI Tryd.prog 21 = some .i32 := by kernel_rfl
@[go_sem] theorem ty23 : tyI Tryd.prog 23 = some (4, true) := by kernel_rfl
@[go_sem] theorem el23 : elI Tryd.prog 23 = none := by kernel_rfl
@[go_sem] theorem st23 : isStrI Tryd.prog 23 = false := by kernel_rfl
@[go_sem] theorem bo23 : isBoolI Tryd.prog 23 = false := by kernel_rfl
@[go_sem] theorem in23 : intI Tryd.prog 23 = none := by kernel_rfl
@[go_sem] theorem ty26 : tyI Tryd.prog 26 = some (4, true) := by kernel_rfl
@[go_sem] theorem el26 : elI Tryd.prog 26 = none := by kernel_rfl
@[go_sem] theorem st26 : isStrI Tryd.prog 26 = false := by kernel_rfl
@[go_sem] theorem bo26 : isBoolI Tryd.prog 26 = false := by kernel_rfl
@[go_sem] theorem in26 : intI Tryd.prog 26 = none := by kernel_rfl
@[go_sem] theorem ty42 : tyI Tryd.prog 42 = some (1, false) := by kernel_rfl
@[go_sem] theorem pt42 : isPtrI Tryd.prog 42 = true := by kernel_rfl
@[go_sem] theorem ty43 : tyI Tryd.prog 43 = some (1, false) := by kernel_rfl
@[go_sem] theorem el43 : elI Tryd.prog 43 = some (42, 1, 8) := by kernel_rfl
@[go_sem] theorem st43 : isStrI Tryd.prog 43 = false := by kernel_rfl
@[go_sem] theorem bo43 : isBoolI Tryd.prog 43 = false := by kernel_rfl
@[go_sem] theorem in43 : intI Tryd.prog 43 = none := by kernel_rfl
@[go_sem] theorem ty50 : tyI Tryd.prog 50 = some (1, false) := by kernel_rfl
@[go_sem] theorem el50 : elI Tryd.prog 50 = some (9, 1, 16) := by kernel_rfl
@[go_sem] theorem st50 : isStrI Tryd.prog 50 = false := by kernel_rfl
@[go_sem] theorem bo50 : isBoolI Tryd.prog 50 = false := by kernel_rfl
@[go_sem] theorem in50 : intI Tryd.prog 50 = none := by kernel_rfl
@[go_sem] theorem ty51 : tyI Tryd.prog 51 = some (1, false) := by kernel_rfl
@[go_sem] theorem el51 : elI Tryd.prog 51 = some (5, 1, 1) := by kernel_rfl
@[go_sem] theorem st51 : isStrI Tryd.prog 51 = false := by kernel_rfl
@[go_sem] theorem bo51 : isBoolI Tryd.prog 51 = false := by kernel_rfl
@[go_sem] theorem in51 : intI Tryd.prog 51 = none := by kernel_rfl
@[go_sem] theorem ty52 : tyI Tryd.prog 52 = some (13, true) := by kernel_rfl
@[go_sem] theorem el52 : elI Tryd.prog 52 = none := by kernel_rfl
@[go_sem] theorem ar52 : arI Tryd.prog 52 = some (13, 1) := by kernel_rfl
@[go_sem] theorem st52 : isStrI Tryd.prog 52 = false := by kernel_rfl
@[go_sem] theorem bo52 : isBoolI Tryd.prog 52 = false := by kernel_rfl
@[go_sem] theorem in52 : intI Tryd.prog 52 = none := by kernel_rfl
@[go_sem] theorem ty65 : tyI Tryd.prog 65 = some (1, false) := by kernel_rfl
@[go_sem] theorem el65 : elI Tryd.prog 65 = none := by kernel_rfl
@[go_sem] theorem st65 : isStrI Tryd.prog 65 = false := by kernel_rfl
@[go_sem] theorem bo65 : isBoolI Tryd.prog 65 = false := by kernel_rfl
@[go_sem] theorem in65 : intI Tryd.prog 65 = some .u64 := by kernel_rfl
@[go_sem] theorem ty69 : tyI Tryd.prog 69 = some (1, false) := by kernel_rfl
@[go_sem] theorem ty72 : tyI Tryd.prog 72 = some (24, true) := by kernel_rfl
@[go_sem] theorem el72 : elI Tryd.prog 72 = none := by kernel_rfl
@[go_sem] theorem ar72 : arI Tryd.prog 72 = some (24, 1) := by kernel_rfl
@[go_sem] theorem st72 : isStrI Tryd.prog 72 = false := by kernel_rfl
@[go_sem] theorem bo72 : isBoolI Tryd.prog 72 = false := by kernel_rfl
@[go_sem] theorem in72 : intI Tryd.prog 72 = none := by kernel_rfl
@[go_sem] theorem ty73 : tyI Tryd.prog 73 = some (1, false) := by kernel_rfl
@[go_sem] theorem el73 : elI Tryd.prog 73 = none := by kernel_rfl
@[go_sem] theorem st73 : isStrI Tryd.prog 73 = false := by kernel_rfl
@[go_sem] theorem bo73 : isBoolI Tryd.prog 73 = false := by kernel_rfl
@[go_sem] theorem in73 : intI Tryd.prog 73 = some .u64 := by kernel_rfl
@[go_sem] theorem ty78 : tyI Tryd.prog 78 = some (1, false) := by kernel_rfl
@[go_sem] theorem el78 : elI Tryd.prog 78 = none := by kernel_rfl
@[go_sem] theorem st78 : isStrI Tryd.prog 78 = false := by kernel_rfl
@[go_sem] theorem bo78 : isBoolI Tryd.prog 78 = false := by kernel_rfl
@[go_sem] theorem in78 : intI Tryd.prog 78 = some .u32 := by kernel_rfl
@[go_sem] theorem ty85 : tyI Tryd.prog 85 = some (3, true) := by kernel_rfl
@[go_sem] theorem el85 : elI Tryd.prog 85 = none := by kernel_rfl
@[go_sem] theorem st85 : isStrI Tryd.prog 85 = false := by kernel_rfl
@[go_sem] theorem bo85 : isBoolI Tryd.prog 85 = false := by kernel_rfl
@[go_sem] theorem in85 : intI Tryd.prog 85 = none := by kernel_rfl
@[go_sem] theorem ty88 : tyI Tryd.prog 88 = some (20, true) := by kernel_rfl
@[go_sem] theorem el88 : elI Tryd.prog 88 = none := by kernel_rfl
@[go_sem] theorem ar88 : arI Tryd.prog 88 = some (20, 1) := by kernel_rfl
@[go_sem] theorem st88 : isStrI Tryd.prog 88 = false := by kernel_rfl
@[go_sem] theorem bo88 : isBoolI Tryd.prog 88 = false := by kernel_rfl
@[go_sem] theorem in88 : intI Tryd.prog 88 = none := by kernel_rfl
@[go_sem] theorem ty89 : tyI Tryd.prog 89 = some (65, true) := by kernel_rfl
@[go_sem] theorem el89 : elI Tryd.prog 89 = none := by kernel_rfl
@[go_sem] theorem ar89 : arI Tryd.prog 89 = some (65, 1) := by kernel_rfl
@[go_sem] theorem st89 : isStrI Tryd.prog 89 = false := by kernel_rfl
@[go_sem] theorem bo89 : isBoolI Tryd.prog 89 = false := by kernel_rfl
@[go_sem] theorem in89 : intI Tryd.prog 89 = none := by kernel_rfl
@[go_sem] theorem ty93 : tyI Tryd.prog 93 = some (1, false) := by kernel_rfl
@[go_sem] theorem ty94 : tyI Tryd.prog 94 = some (1, false) := by kernel_rfl
@[go_sem] theorem ty96 : tyI Tryd.prog 96 = some (1, true) := by kernel_rfl
@[go_sem] theorem el96 : elI Tryd.prog 96 = none := by kernel_rfl
@[go_sem] theorem st96 : isStrI Tryd.prog 96 = false := by kernel_rfl
@[go_sem] theorem bo96 : isBoolI Tryd.prog 96 = false := by kernel_rfl
@[go_sem] theorem in96 : intI Tryd.prog 96 = none := by kernel_rfl
@[go_sem] theorem ty98 : tyI Tryd.prog 98 = some (32, true) := by kernel_rfl
@[go_sem] theorem el98 : elI Tryd.prog 98 = none := by kernel_rfl
@[go_sem] theorem ar98 : arI Tryd.prog 98 = some (32, 1) := by kernel_rfl
@[go_sem] theorem st98 : isStrI Tryd.prog 98 = false := by kernel_rfl
@[go_sem] theorem bo98 : isBoolI Tryd.prog 98 = false := by kernel_rfl
@[go_sem] theorem in98 : intI Tryd.prog 98 = none := by kernel_rfl
@[go_sem] theorem ty99 : tyI Tryd.prog 99 = some (64, true) := by kernel_rfl
@[go_sem] theorem el99 : elI Tryd.prog 99 = none := by kernel_rfl
@[go_sem] theorem ar99 : arI Tryd.prog 99 = some (64, 1) := by kernel_rfl
@[go_sem] theorem st99 : isStrI Tryd.prog 99 = false := by kernel_rfl
@[go_sem] theorem bo99 : isBoolI Tryd.prog 99 = false := by kernel_rfl
@[go_sem] theorem in99 : intI Tryd.prog 99 = none := by kernel_rfl
@[go_sem] theorem fd23_0 : fdI Tryd.prog 23 0 = some 0 := by kernel_rfl
@[go_sem] theorem fd23_1 : fdI Tryd.prog 23 1 = some 1 := by kernel_rfl
@[go_sem] theorem fd23_2 : fdI Tryd.prog 23 2 = some 2 := by kernel_rfl
@[go_sem] theorem fd23_3 : fdI Tryd.prog 23 3 = some 3 := by kernel_rfl
@[go_sem] theorem fd26_0 : fdI Tryd.prog 26 0 = some 0 := by kernel_rfl
@[go_sem] theorem fd26_1 : fdI Tryd.prog 26 1 = some 1 := by kernel_rfl
@[go_sem] theorem fd26_2 : fdI Tryd.prog 26 2 = some 2 := by kernel_rfl
@[go_sem] theorem fd26_3 : fdI Tryd.prog 26 3 = some 3 := by kernel_rfl
@[go_sem] theorem zr5 : zrI Tryd.prog 5 = some [.d (.int .u8 0)] := by kernel_rfl
@[go_sem] theorem zr9 : zrI Tryd.prog 9 = some [.d (.str [])] := by kernel_rfl
@[go_sem] theorem zr26 : zrI Tryd.prog 26 = some [.d (.int .i64 0), .d (.int .i64 0), .d (.int .i64 0), .d (.str [])] := by kernel_rfl
@[go_sem] theorem zr42 : zrI Tryd.prog 42 = some [.junk] := by kernel_rfl
@[go_sem] theorem zr52 : zrI Tryd.prog 52 = some [.d (.str []), .d (.str []), .d (.str []), .d (.str []), .d (.str []), .d (.str []), .d (.str []), .d (.str []), .d (.str []), .d (.str []), .d (.str []), .d (.str []), .d (.str [])] := by kernel_rfl
@[go_sem] theorem zr72 : zrI Tryd.prog 72 = some [.d (.int .u8 0), .d (.int .u8 0), .d (.int .u8 0), .d (.int .u8 0), .d (.int .u8 0), .d (.int .u8 0), .d (.int .u8 0), .d (.int .u8 0), .d (.int .u8 0), .d (.int .u8 0), .d (.int .u8 0), .d (.int .u8 0), .d (.int .u8 0), .d (.int .u8 0), .d (.int .u8 0), .d (.int .u8 0), .d (.int .u8 0), .d (.int .u8 0), .d (.int .u8 0), .d (.int .u8 0), .d (.int .u8 0), .d (.int .u8 0), .d (.int .u8 0), .d (.int .u8 0)] := by kernel_rfl
@[go_sem] theorem zr88 : zrI Tryd.prog 88 = some [.d (.int .u64 0), .d (.int .u64 0), .d (.int .u64 0), .d (.int .u64 0), .d (.int .u64 0), .d (.int .u64 0), .d (.int .u64 0), .d (.int .u64 0), .d (.int .u64 0), .d (.int .u64 0), .d (.int .u64 0), .d (.int .u64 0), .d (.int .u64 0), .d (.int .u64 0), .d (.int .u64 0), .d (.int .u64 0), .d (.int .u64 0), .d (.int .u64 0), .d (.int .u64 0), .d (.int .u64 0)] := by kernel_rfl
@[go_sem] theorem zr89 : zrI Tryd.prog 89 = some [.d (.int .u8 0), .d (.int .u8 0), .d (.int .u8 0), .d (.int .u8 0), .d (.int .u8 0), .d (.int .u8 0), .d (.int .u8 0), .d (.int .u8 0), .d (.int .u8 0), .d (.int .u8 0), .d (.int .u8 0), .d (.int .u8 0), .d (.int .u8 0), .d (.int .u8 0), .d (.int .u8 0), .d (.int .u8 0), .d (.int .u8 0), .d (.int .u8 0), .d (.int .u8 0), .d (.int .u8 0), .d (.int .u8 0), .d (.int .u8 0), .d (.int .u8 0), .d (.int .u8 0), .d (.int .u8 0), .d (.int .u8 0), .d (.int .u8 0), .d (.int .u8 0), .d (.int .u8 0), .d (.int .u8 0), .d (.int .u8 0), .d (.int .u8 0), .d (.int .u8 0), .d (.int .u8 0), .d (.int .u8 0), .d (.int .u8 0), .d (.int .u8 0), .d (.int .u8 0), .d (.int .u8 0), .d (.int .u8 0), .d (.int .u8 0), .d (.int .u8 0), .d (.int .u8 0), .d (.int .u8 0), .d (.int .u8 0), .d (.int .u8 0), .d (.int .u8 0), .d (.int .u8 0), .d (.int .u8 0), .d (.int .u8 0), .d (.int .u8 0), .d (.int .u8 0), .d (.int .u8 0), .d (.int .u8 0), .d (.int .u8 0), .d (.int .u8 0), .d (.int .u8 0), .d (.int .u8 0), .d (.int .u8 0), .d (.int .u8 0), .d (.int .u8 0), .d (.int .u8 0), .d (.int .u8 0), .d (.int .u8 0), .d (.int .u8 0)] := by kernel_rfl
@[go_sem] theorem zr96 : zrI Tryd.prog 96 = some [.d (.str [])] := by kernel_rfl
@[go_sem] theorem zr98 : zrI Tryd.prog 98 = some [.d (.int .u8 0), .d (.int .u8 0), .d (.int .u8 0), .d (.int .u8 0), .d (.int .u8 0), .d (.int .u8 0), .d (.int .u8 0), .d (.int .u8 0), .d (.int .u8 0), .d (.int .u8 0), .d (.int .u8 0), .d (.int .u8 0), .d (.int .u8 0), .d (.int .u8 0), .d (.int .u8 0), .d (.int .u8 0), .d (.int .u8 0), .d (.int .u8 0), .d (.int .u8 0), .d (.int .u8 0), .d (.int .u8 0), .d (.int .u8 0), .d (.int .u8 0), .d (.int .u8 0), .d (.int .u8 0), .d (.int .u8 0), .d (.int .u8 0), .d (.int .u8 0), .d (.int .u8 0), .d (.int .u8 0), .d (.int .u8 0), .d (.int .u8 0)] := by kernel_rfl
@[go_sem] theorem zr99 : zrI Tryd.prog 99 = some [.d (.int .u8 0), .d (.int .u8 0), .d (.int .u8 0), .d (.int .u8 0), .d (.int .u8 0), .d (.int .u8 0), .d (.int .u8 0), .d (.int .u8 0), .d (.int .u8 0), .d (.int .u8 0), .d (.int .u8 0), .d (.int .u8 0), .d (.int .u8 0), .d (.int .u8 0), .d (.int .u8 0), .d (.int .u8 0), .d (.int .u8 0), .d (.int .u8 0), .d (.int .u8 0), .d (.int .u8 0), .d (.int .u8 0), .d (.int .u8 0), .d (.int .u8 0), .d (.int .u8 0), .d (.int .u8 0), .d (.int .u8 0), .d (.int .u8 0), .d (.int .u8 0), .d (.int .u8 0), .d (.int .u8 0), .d (.int .u8 0), .d (.int .u8 0), .d (.int .u8 0), .d (.int .u8 0), .d (.int .u8 0), .d (.int .u8 0), .d (.int .u8 0), .d (.int .u8 0), .d (.int .u8 0), .d (.int .u8 0), .d (.int .u8 0), .d (.int .u8 0), .d (.int .u8 0), .d (.int .u8 0), .d (.int .u8 0), .d (.int .u8 0), .d (.int .u8 0), .d (.int .u8 0), .d (.int .u8 0), .d (.int .u8 0), .d (.int .u8 0), .d (.int .u8 0), .d (.int .u8 0), .d (.int .u8 0), .d (.int .u8 0), .d (.int .u8 0), .d (.int .u8 0), .d (.int .u8 0), .d (.int .u8 0), .d (.int .u8 0), .d (.int .u8 0), .d (.int .u8 0), .d (.int .u8 0), .d (.int .u8 0)] := by kernel_rfl
@[go_sem] theorem pl26 : plI Tryd.prog 26 = some fun j => ([(0, 1), (1, 1), (2, 1), (3, 1)] : List (Nat × Nat))[j]? := by kernel_rfl
@[go_sem] theorem pl52 : plI Tryd.prog 52 = some fun j => some (j * 1, 1) := by kernel_rfl
@[go_sem] theorem pl72 : plI Tryd.prog 72 = some fun j => some (j * 1, 1) := by kernel_rfl
@[go_sem] theorem pl85 : plI Tryd.prog 85 = some fun j => ([(0, 1), (1, 1), (2, 1)] : List (Nat × Nat))[j]? := by kernel_rfl
@[go_sem] theorem pl88 : plI Tryd.prog 88 = some fun j => some (j * 1, 1) := by kernel_rfl
@[go_sem] theorem pl89 : plI Tryd.prog 89 = some fun j => some (j * 1, 1) := by kernel_rfl
@[go_sem] theorem pl96 : plI Tryd.prog 96 = some fun j => ([(0, 1)] : List (Nat × Nat))[j]? := by kernel_rfl
@[go_sem] theorem pl98 : plI Tryd.prog 98 = some fun j => some (j * 1, 1) := by kernel_rfl
@[go_sem] theorem pl99 : plI Tryd.prog 99 = some fun j => some (j * 1, 1) := by kernel_rfl
@[go_sem] theorem eq26 : EqOK Tryd.prog 26 [.i .i64, .i .i64, .i .i64, .s] = True := eq_true (EqOK_of (by kernel_rfl) (by kernel_rfl) (by kernel_rfl) (by kernel_rfl) (by kernel_rfl))
@[go_sem] theorem gl0 (σ : St) : σ.ev (.global 0) = .rp [.str [], .str [111, 112, 101, 110], .str [119, 114, 105, 116, 101], .str [102, 105, 110, 105, 115, 104], .str [114, 101, 97, 100], .str [114, 101, 115, 101, 116], .str [115, 116, 111, 112], .str [112, 114, 105, 111, 114, 105, 116, 121], .str [101, 109, 105, 116], .str [97, 99, 107], .str [108, 111, 115, 101], .str [112, 97, 121, 108, 111, 97, 100], .str [116, 105, 109, 101]] 0 := rfl

end Gv
