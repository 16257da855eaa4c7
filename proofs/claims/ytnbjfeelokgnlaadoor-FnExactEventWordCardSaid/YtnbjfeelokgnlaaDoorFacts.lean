/-
  What the types of this program are. Printed by a program of ours.
-/
import Derived.Test.YtnbjfeelokgnlaaDoorGvEval
import Derived.Test.YtnbjfeelokgnlaaDoorChecked
namespace Gv
open Go Go.Proofs

@[go_sem] theorem ty3 : tyI Tryd.prog 3 = some (1, false) := by kernel_rfl
@[go_sem] theorem el3 : elI Tryd.prog 3 = none := by kernel_rfl
@[go_sem] theorem st3 : isStrI Tryd.prog 3 = false := by kernel_rfl
@[go_sem] theorem bo3 : isBoolI Tryd.prog 3 = false := by kernel_rfl
@[go_sem] theorem in3 : intI Tryd.prog 3 = some .i64 := by kernel_rfl
@[go_sem] theorem ty4 : tyI Tryd.prog 4 = some (1, false) := by kernel_rfl
@[go_sem] theorem el4 : elI Tryd.prog 4 = none := by kernel_rfl
@[go_sem] theorem st4 : isStrI Tryd.prog 4 = false := by kernel_rfl
@[go_sem] theorem bo4 : isBoolI Tryd.prog 4 = true := by kernel_rfl
@[go_sem] theorem in4 : intI Tryd.prog 4 = none := by kernel_rfl
@[go_sem] theorem ty9 : tyI Tryd.prog 9 = some (1, false) := by kernel_rfl
@[go_sem] theorem el9 : elI Tryd.prog 9 = none := by kernel_rfl
@[go_sem] theorem st9 : isStrI Tryd.prog 9 = true := by kernel_rfl
@[go_sem] theorem bo9 : isBoolI Tryd.prog 9 = false := by kernel_rfl
@[go_sem] theorem in9 : intI Tryd.prog 9 = none := by kernel_rfl
@[go_sem] theorem ty25 : tyI Tryd.prog 25 = some (1, false) := by kernel_rfl
@[go_sem] theorem el25 : elI Tryd.prog 25 = some (9, 1, 16) := by kernel_rfl
@[go_sem] theorem st25 : isStrI Tryd.prog 25 = false := by kernel_rfl
@[go_sem] theorem bo25 : isBoolI Tryd.prog 25 = false := by kernel_rfl
@[go_sem] theorem in25 : intI Tryd.prog 25 = none := by kernel_rfl
@[go_sem] theorem ty26 : tyI Tryd.prog 26 = some (13, true) := by kernel_rfl
@[go_sem] theorem el26 : elI Tryd.prog 26 = none := by kernel_rfl
@[go_sem] theorem ar26 : arI Tryd.prog 26 = some (13, 1) := by kernel_rfl
@[go_sem] theorem st26 : isStrI Tryd.prog 26 = false := by kernel_rfl
@[go_sem] theorem bo26 : isBoolI Tryd.prog 26 = false := by kernel_rfl
@[go_sem] theorem in26 : intI Tryd.prog 26 = none := by kernel_rfl
@[go_sem] theorem zr9 : zrI Tryd.prog 9 = some [.d (.str [])] := by kernel_rfl
@[go_sem] theorem zr26 : zrI Tryd.prog 26 = some [.d (.str []), .d (.str []), .d (.str []), .d (.str []), .d (.str []), .d (.str []), .d (.str []), .d (.str []), .d (.str []), .d (.str []), .d (.str []), .d (.str []), .d (.str [])] := by kernel_rfl
@[go_sem] theorem gl0 (σ : St) : σ.ev (.global 0) = .rp [.str [], .str [111, 112, 101, 110], .str [119, 114, 105, 116, 101], .str [102, 105, 110, 105, 115, 104], .str [114, 101, 97, 100], .str [114, 101, 115, 101, 116], .str [115, 116, 111, 112], .str [112, 114, 105, 111, 114, 105, 116, 121], .str [101, 109, 105, 116], .str [97, 99, 107], .str [108, 111, 115, 101], .str [112, 97, 121, 108, 111, 97, 100], .str [116, 105, 109, 101]] 0 := rfl

end Gv
