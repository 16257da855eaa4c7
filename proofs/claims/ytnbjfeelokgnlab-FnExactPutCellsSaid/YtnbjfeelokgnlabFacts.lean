/-
  What the types of this program are. Printed by a program of ours.
-/
import Derived.Test.YtnbjfeelokgnlabGvEval
import Derived.Test.YtnbjfeelokgnlabChecked
namespace Gv
open Go Go.Proofs

@[go_sem] theorem ty3 : tyI Try.prog 3 = some (1, false) := by kernel_rfl
@[go_sem] theorem el3 : elI Try.prog 3 = none := by kernel_rfl
@[go_sem] theorem st3 : isStrI Try.prog 3 = false := by kernel_rfl
@[go_sem] theorem bo3 : isBoolI Try.prog 3 = false := by kernel_rfl
@[go_sem] theorem in3 : intI Try.prog 3 = some .i64 := by kernel_rfl
@[go_sem] theorem ty4 : tyI Try.prog 4 = some (1, false) := by kernel_rfl
@[go_sem] theorem el4 : elI Try.prog 4 = none := by kernel_rfl
@[go_sem] theorem st4 : isStrI Try.prog 4 = false := by kernel_rfl
@[go_sem] theorem bo4 : isBoolI Try.prog 4 = true := by kernel_rfl
@[go_sem] theorem in4 : intI Try.prog 4 = none := by kernel_rfl
@[go_sem] theorem ty5 : tyI Try.prog 5 = some (1, false) := by kernel_rfl
@[go_sem] theorem el5 : elI Try.prog 5 = none := by kernel_rfl
@[go_sem] theorem st5 : isStrI Try.prog 5 = false := by kernel_rfl
@[go_sem] theorem bo5 : isBoolI Try.prog 5 = false := by kernel_rfl
@[go_sem] theorem in5 : intI Try.prog 5 = some .u8 := by kernel_rfl
@[go_sem] theorem ty9 : tyI Try.prog 9 = some (1, false) := by kernel_rfl
@[go_sem] theorem el9 : elI Try.prog 9 = none := by kernel_rfl
@[go_sem] theorem st9 : isStrI Try.prog 9 = true := by kernel_rfl
@[go_sem] theorem bo9 : isBoolI Try.prog 9 = false := by kernel_rfl
@[go_sem] theorem in9 : intI Try.prog 9 = none := by kernel_rfl
@[go_sem] theorem ty22 : tyI Try.prog 22 = some (1, false) := by kernel_rfl
@[go_sem] theorem el22 : elI Try.prog 22 = some (61, 2, 24) := by kernel_rfl
@[go_sem] theorem st22 : isStrI Try.prog 22 = false := by kernel_rfl
@[go_sem] theorem bo22 : isBoolI Try.prog 22 = false := by kernel_rfl
@[go_sem] theorem in22 : intI Try.prog 22 = none := by kernel_rfl
@[go_sem] theorem ty25 : tyI Try.prog 25 = some (1, false) := by kernel_rfl
@[go_sem] theorem el25 : elI Try.prog 25 = some (65, 2, 24) := by kernel_rfl
@[go_sem] theorem st25 : isStrI Try.prog 25 = false := by kernel_rfl
@[go_sem] theorem bo25 : isBoolI Try.prog 25 = false := by kernel_rfl
@[go_sem] theorem in25 : intI Try.prog 25 = none := by kernel_rfl
@[go_sem] theorem ty29 : tyI Try.prog 29 = some (1, false) := by kernel_rfl
@[go_sem] theorem el29 : elI Try.prog 29 = some (5, 1, 1) := by kernel_rfl
@[go_sem] theorem st29 : isStrI Try.prog 29 = false := by kernel_rfl
@[go_sem] theorem bo29 : isBoolI Try.prog 29 = false := by kernel_rfl
@[go_sem] theorem in29 : intI Try.prog 29 = none := by kernel_rfl
@[go_sem] theorem ty31 : tyI Try.prog 31 = some (1, false) := by kernel_rfl
@[go_sem] theorem el31 : elI Try.prog 31 = some (85, 2, 24) := by kernel_rfl
@[go_sem] theorem st31 : isStrI Try.prog 31 = false := by kernel_rfl
@[go_sem] theorem bo31 : isBoolI Try.prog 31 = false := by kernel_rfl
@[go_sem] theorem in31 : intI Try.prog 31 = none := by kernel_rfl
@[go_sem] theorem ty33 : tyI Try.prog 33 = some (2, true) := by kernel_rfl
@[go_sem] theorem el33 : elI Try.prog 33 = none := by kernel_rfl
@[go_sem] theorem st33 : isStrI Try.prog 33 = false := by kernel_rfl
@[go_sem] theorem bo33 : isBoolI Try.prog 33 = false := by kernel_rfl
@[go_sem] theorem in33 : intI Try.prog 33 = none := by kernel_rfl
@[go_sem] theorem ty34 : tyI Try.prog 34 = some (1, false) := by kernel_rfl
@[go_sem] theorem el34 : elI Try.prog 34 = some (3, 1, 8) := by kernel_rfl
@[go_sem] theorem st34 : isStrI Try.prog 34 = false := by kernel_rfl
@[go_sem] theorem bo34 : isBoolI Try.prog 34 = false := by kernel_rfl
@[go_sem] theorem in34 : intI Try.prog 34 = none := by kernel_rfl
@[go_sem] theorem ty36 : tyI Try.prog 36 = some (2, true) := by kernel_rfl
@[go_sem] theorem el36 : elI Try.prog 36 = none := by kernel_rfl
@[go_sem] theorem st36 : isStrI Try.prog 36 = false := by kernel_rfl
@[go_sem] theorem bo36 : isBoolI Try.prog 36 = false := by kernel_rfl
@[go_sem] theorem in36 : intI Try.prog 36 = none := by kernel_rfl
@[go_sem] theorem ty49 : tyI Try.prog 49 = some (1, false) := by kernel_rfl
@[go_sem] theorem el49 : elI Try.prog 49 = some (94, 2, 16) := by kernel_rfl
@[go_sem] theorem st49 : isStrI Try.prog 49 = false := by kernel_rfl
@[go_sem] theorem bo49 : isBoolI Try.prog 49 = false := by kernel_rfl
@[go_sem] theorem in49 : intI Try.prog 49 = none := by kernel_rfl
@[go_sem] theorem ty61 : tyI Try.prog 61 = some (2, true) := by kernel_rfl
@[go_sem] theorem el61 : elI Try.prog 61 = none := by kernel_rfl
@[go_sem] theorem st61 : isStrI Try.prog 61 = false := by kernel_rfl
@[go_sem] theorem bo61 : isBoolI Try.prog 61 = false := by kernel_rfl
@[go_sem] theorem in61 : intI Try.prog 61 = none := by kernel_rfl
@[go_sem] theorem ty65 : tyI Try.prog 65 = some (2, true) := by kernel_rfl
@[go_sem] theorem el65 : elI Try.prog 65 = none := by kernel_rfl
@[go_sem] theorem st65 : isStrI Try.prog 65 = false := by kernel_rfl
@[go_sem] theorem bo65 : isBoolI Try.prog 65 = false := by kernel_rfl
@[go_sem] theorem in65 : intI Try.prog 65 = none := by kernel_rfl
@[go_sem] theorem ty74 : tyI Try.prog 74 = some (2, true) := by kernel_rfl
@[go_sem] theorem el74 : elI Try.prog 74 = none := by kernel_rfl
@[go_sem] theorem st74 : isStrI Try.prog 74 = false := by kernel_rfl
@[go_sem] theorem bo74 : isBoolI Try.prog 74 = false := by kernel_rfl
@[go_sem] theorem in74 : intI Try.prog 74 = none := by kernel_rfl
@[go_sem] theorem ty85 : tyI Try.prog 85 = some (2, true) := by kernel_rfl
@[go_sem] theorem el85 : elI Try.prog 85 = none := by kernel_rfl
@[go_sem] theorem st85 : isStrI Try.prog 85 = false := by kernel_rfl
@[go_sem] theorem bo85 : isBoolI Try.prog 85 = false := by kernel_rfl
@[go_sem] theorem in85 : intI Try.prog 85 = none := by kernel_rfl
@[go_sem] theorem ty94 : tyI Try.prog 94 = some (2, true) := by kernel_rfl
@[go_sem] theorem el94 : elI Try.prog 94 = none := by kernel_rfl
@[go_sem] theorem st94 : isStrI Try.prog 94 = false := by kernel_rfl
@[go_sem] theorem bo94 : isBoolI Try.prog 94 = false := by kernel_rfl
@[go_sem] theorem in94 : intI Try.prog 94 = none := by kernel_rfl
@[go_sem] theorem ty96 : tyI Try.prog 96 = some (1, false) := by kernel_rfl
@[go_sem] theorem ty115 : tyI Try.prog 115 = some (1, false) := by kernel_rfl
@[go_sem] theorem el115 : elI Try.prog 115 = none := by kernel_rfl
@[go_sem] theorem st115 : isStrI Try.prog 115 = false := by kernel_rfl
@[go_sem] theorem bo115 : isBoolI Try.prog 115 = false := by kernel_rfl
@[go_sem] theorem in115 : intI Try.prog 115 = some .u64 := by kernel_rfl
@[go_sem] theorem ty120 : tyI Try.prog 120 = some (3, true) := by kernel_rfl
@[go_sem] theorem el120 : elI Try.prog 120 = none := by kernel_rfl
@[go_sem] theorem st120 : isStrI Try.prog 120 = false := by kernel_rfl
@[go_sem] theorem bo120 : isBoolI Try.prog 120 = false := by kernel_rfl
@[go_sem] theorem in120 : intI Try.prog 120 = none := by kernel_rfl
@[go_sem] theorem ty122 : tyI Try.prog 122 = some (1, false) := by kernel_rfl
@[go_sem] theorem el122 : elI Try.prog 122 = some (9, 1, 16) := by kernel_rfl
@[go_sem] theorem st122 : isStrI Try.prog 122 = false := by kernel_rfl
@[go_sem] theorem bo122 : isBoolI Try.prog 122 = false := by kernel_rfl
@[go_sem] theorem in122 : intI Try.prog 122 = none := by kernel_rfl
@[go_sem] theorem ty126 : tyI Try.prog 126 = some (1, false) := by kernel_rfl
@[go_sem] theorem el126 : elI Try.prog 126 = none := by kernel_rfl
@[go_sem] theorem st126 : isStrI Try.prog 126 = false := by kernel_rfl
@[go_sem] theorem bo126 : isBoolI Try.prog 126 = false := by kernel_rfl
@[go_sem] theorem in126 : intI Try.prog 126 = some .i64 := by kernel_rfl
@[go_sem] theorem ty134 : tyI Try.prog 134 = some (1, false) := by kernel_rfl
@[go_sem] theorem el134 : elI Try.prog 134 = none := by kernel_rfl
@[go_sem] theorem st134 : isStrI Try.prog 134 = false := by kernel_rfl
@[go_sem] theorem bo134 : isBoolI Try.prog 134 = false := by kernel_rfl
@[go_sem] theorem in134 : intI Try.prog 134 = some .u32 := by kernel_rfl
@[go_sem] theorem ty136 : tyI Try.prog 136 = some (1, false) := by kernel_rfl
@[go_sem] theorem el136 : elI Try.prog 136 = none := by kernel_rfl
@[go_sem] theorem st136 : isStrI Try.prog 136 = false := by kernel_rfl
@[go_sem] theorem bo136 : isBoolI Try.prog 136 = false := by kernel_rfl
@[go_sem] theorem in136 : intI Try.prog 136 = some .u64 := by kernel_rfl
@[go_sem] theorem ty137 : tyI Try.prog 137 = some (1, false) := by kernel_rfl
@[go_sem] theorem el137 : elI Try.prog 137 = none := by kernel_rfl
@[go_sem] theorem st137 : isStrI Try.prog 137 = false := by kernel_rfl
@[go_sem] theorem bo137 : isBoolI Try.prog 137 = false := by kernel_rfl
@[go_sem] theorem in137 : intI Try.prog 137 = some .u64 := by kernel_rfl
@[go_sem] theorem ty141 : tyI Try.prog 141 = some (1, false) := by kernel_rfl
@[go_sem] theorem ty143 : tyI Try.prog 143 = some (1, false) := by kernel_rfl
@[go_sem] theorem fd33_0 : fdI Try.prog 33 0 = some 0 := by kernel_rfl
@[go_sem] theorem fd33_1 : fdI Try.prog 33 1 = some 1 := by kernel_rfl
@[go_sem] theorem fd36_0 : fdI Try.prog 36 0 = some 0 := by kernel_rfl
@[go_sem] theorem fd36_1 : fdI Try.prog 36 1 = some 1 := by kernel_rfl
@[go_sem] theorem fd61_0 : fdI Try.prog 61 0 = some 0 := by kernel_rfl
@[go_sem] theorem fd61_1 : fdI Try.prog 61 1 = some 1 := by kernel_rfl
@[go_sem] theorem fd65_0 : fdI Try.prog 65 0 = some 0 := by kernel_rfl
@[go_sem] theorem fd65_1 : fdI Try.prog 65 1 = some 1 := by kernel_rfl
@[go_sem] theorem fd74_0 : fdI Try.prog 74 0 = some 0 := by kernel_rfl
@[go_sem] theorem fd74_1 : fdI Try.prog 74 1 = some 1 := by kernel_rfl
@[go_sem] theorem fd85_0 : fdI Try.prog 85 0 = some 0 := by kernel_rfl
@[go_sem] theorem fd85_1 : fdI Try.prog 85 1 = some 1 := by kernel_rfl
@[go_sem] theorem fd94_0 : fdI Try.prog 94 0 = some 0 := by kernel_rfl
@[go_sem] theorem fd94_1 : fdI Try.prog 94 1 = some 1 := by kernel_rfl
@[go_sem] theorem fd120_0 : fdI Try.prog 120 0 = some 0 := by kernel_rfl
@[go_sem] theorem fd120_1 : fdI Try.prog 120 1 = some 1 := by kernel_rfl
@[go_sem] theorem fd120_2 : fdI Try.prog 120 2 = some 2 := by kernel_rfl
@[go_sem] theorem zr3 : zrI Try.prog 3 = some [.d (.int .i64 0)] := by kernel_rfl
@[go_sem] theorem zr5 : zrI Try.prog 5 = some [.d (.int .u8 0)] := by kernel_rfl
@[go_sem] theorem zr9 : zrI Try.prog 9 = some [.d (.str [])] := by kernel_rfl
@[go_sem] theorem zr31 : zrI Try.prog 31 = some [.nils 2] := by kernel_rfl
@[go_sem] theorem zr33 : zrI Try.prog 33 = some [.d (.int .i64 0), .nils 2] := by kernel_rfl
@[go_sem] theorem zr36 : zrI Try.prog 36 = some [.nils 1, .d (.int .i64 0)] := by kernel_rfl
@[go_sem] theorem zr61 : zrI Try.prog 61 = some [.d (.int .i64 0), .d (.str [])] := by kernel_rfl
@[go_sem] theorem zr65 : zrI Try.prog 65 = some [.d (.int .i64 0), .d (.str [])] := by kernel_rfl
@[go_sem] theorem zr85 : zrI Try.prog 85 = some [.d (.int .i64 0), .d (.str [])] := by kernel_rfl
@[go_sem] theorem zr94 : zrI Try.prog 94 = some [.d (.int .i64 0), .d (.int .i64 0)] := by kernel_rfl
@[go_sem] theorem zr120 : zrI Try.prog 120 = some [.nils 1, .d (.int .i64 0), .d (.int .i64 0)] := by kernel_rfl
@[go_sem] theorem zr137 : zrI Try.prog 137 = some [.d (.int .u64 0)] := by kernel_rfl
@[go_sem] theorem pl33 : plI Try.prog 33 = some fun j => ([(0, 1), (1, 1)] : List (Nat × Nat))[j]? := by kernel_rfl
@[go_sem] theorem pl36 : plI Try.prog 36 = some fun j => ([(0, 1), (1, 1)] : List (Nat × Nat))[j]? := by kernel_rfl
@[go_sem] theorem pl61 : plI Try.prog 61 = some fun j => ([(0, 1), (1, 1)] : List (Nat × Nat))[j]? := by kernel_rfl
@[go_sem] theorem pl65 : plI Try.prog 65 = some fun j => ([(0, 1), (1, 1)] : List (Nat × Nat))[j]? := by kernel_rfl
@[go_sem] theorem pl85 : plI Try.prog 85 = some fun j => ([(0, 1), (1, 1)] : List (Nat × Nat))[j]? := by kernel_rfl
@[go_sem] theorem pl94 : plI Try.prog 94 = some fun j => ([(0, 1), (1, 1)] : List (Nat × Nat))[j]? := by kernel_rfl
@[go_sem] theorem pl120 : plI Try.prog 120 = some fun j => ([(0, 1), (1, 1), (2, 1)] : List (Nat × Nat))[j]? := by kernel_rfl
@[go_sem] theorem eq94 : EqOK Try.prog 94 [.i .i64, .i .i64] = True := eq_true (EqOK_of (by kernel_rfl) (by kernel_rfl) (by kernel_rfl) (by kernel_rfl) (by kernel_rfl))

end Gv
