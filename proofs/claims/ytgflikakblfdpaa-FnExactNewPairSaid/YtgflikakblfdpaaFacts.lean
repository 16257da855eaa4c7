/-
  What the types of this program are. Printed by a program of ours.
-/
import Derived.Test.YtgflikakblfdpaaGvEval
import Derived.Test.YtgflikakblfdpaaChecked
namespace Gv
open Go Go.Proofs

@[go_sem] theorem ty3 : tyI Try.prog 3 = some (1, false) := by kernel_rfl
@[go_sem] theorem el3 : elI Try.prog 3 = none := by kernel_rfl
@[go_sem] theorem st3 : isStrI Try.prog 3 = false := by kernel_rfl
@[go_sem] theorem bo3 : isBoolI Try.prog 3 = false := by kernel_rfl
@[go_sem] theorem in3 : intI Try.prog 3 = some .i64 := by kernel_rfl
@[go_sem] theorem ty4 : tyI Try.prog 4 = some (1, false) := by kernel_rfl
@[go_sem] theorem el4 : elI Try.prog 4 = none := by kernel_rfl
@[go_sem] theorem st4 : isStrI Try.prog 4 = false := by kernel_rfl
@[go_sem] theorem bo4 : isBoolI Try.prog 4 = true := by kernel_rfl
@[go_sem] theorem in4 : intI Try.prog 4 = none := by kernel_rfl
@[go_sem] theorem ty5 : tyI Try.prog 5 = some (1, false) := by kernel_rfl
@[go_sem] theorem el5 : elI Try.prog 5 = none := by kernel_rfl
@[go_sem] theorem st5 : isStrI Try.prog 5 = false := by kernel_rfl
@[go_sem] theorem bo5 : isBoolI Try.prog 5 = false := by kernel_rfl
@[go_sem] theorem in5 : intI Try.prog 5 = some .u8 := by kernel_rfl
@[go_sem] theorem ty9 : tyI Try.prog 9 = some (1, false) := by kernel_rfl
@[go_sem] theorem el9 : elI Try.prog 9 = none := by kernel_rfl
@[go_sem] theorem st9 : isStrI Try.prog 9 = true := by kernel_rfl
@[go_sem] theorem bo9 : isBoolI Try.prog 9 = false := by kernel_rfl
@[go_sem] theorem in9 : intI Try.prog 9 = none := by kernel_rfl
@[go_sem] theorem ty22 : tyI Try.prog 22 = some (1, false) := by kernel_rfl
@[go_sem] theorem el22 : elI Try.prog 22 = some (5, 1, 1) := by kernel_rfl
@[go_sem] theorem st22 : isStrI Try.prog 22 = false := by kernel_rfl
@[go_sem] theorem bo22 : isBoolI Try.prog 22 = false := by kernel_rfl
@[go_sem] theorem in22 : intI Try.prog 22 = none := by kernel_rfl
@[go_sem] theorem ty24 : tyI Try.prog 24 = some (1, false) := by kernel_rfl
@[go_sem] theorem el24 : elI Try.prog 24 = some (26, 2, 24) := by kernel_rfl
@[go_sem] theorem st24 : isStrI Try.prog 24 = false := by kernel_rfl
@[go_sem] theorem bo24 : isBoolI Try.prog 24 = false := by kernel_rfl
@[go_sem] theorem in24 : intI Try.prog 24 = none := by kernel_rfl
@[go_sem] theorem ty26 : tyI Try.prog 26 = some (2, true) := by kernel_rfl
@[go_sem] theorem el26 : elI Try.prog 26 = none := by kernel_rfl
@[go_sem] theorem st26 : isStrI Try.prog 26 = false := by kernel_rfl
@[go_sem] theorem bo26 : isBoolI Try.prog 26 = false := by kernel_rfl
@[go_sem] theorem in26 : intI Try.prog 26 = none := by kernel_rfl
@[go_sem] theorem ty42 : tyI Try.prog 42 = some (1, false) := by kernel_rfl
@[go_sem] theorem el42 : elI Try.prog 42 = some (3, 1, 8) := by kernel_rfl
@[go_sem] theorem st42 : isStrI Try.prog 42 = false := by kernel_rfl
@[go_sem] theorem bo42 : isBoolI Try.prog 42 = false := by kernel_rfl
@[go_sem] theorem in42 : intI Try.prog 42 = none := by kernel_rfl
@[go_sem] theorem ty44 : tyI Try.prog 44 = some (2, true) := by kernel_rfl
@[go_sem] theorem el44 : elI Try.prog 44 = none := by kernel_rfl
@[go_sem] theorem st44 : isStrI Try.prog 44 = false := by kernel_rfl
@[go_sem] theorem bo44 : isBoolI Try.prog 44 = false := by kernel_rfl
@[go_sem] theorem in44 : intI Try.prog 44 = none := by kernel_rfl
@[go_sem] theorem ty46 : tyI Try.prog 46 = some (1, false) := by kernel_rfl
@[go_sem] theorem el46 : elI Try.prog 46 = some (142, 2, 16) := by kernel_rfl
@[go_sem] theorem st46 : isStrI Try.prog 46 = false := by kernel_rfl
@[go_sem] theorem bo46 : isBoolI Try.prog 46 = false := by kernel_rfl
@[go_sem] theorem in46 : intI Try.prog 46 = none := by kernel_rfl
@[go_sem] theorem ty48 : tyI Try.prog 48 = some (2, true) := by kernel_rfl
@[go_sem] theorem el48 : elI Try.prog 48 = none := by kernel_rfl
@[go_sem] theorem st48 : isStrI Try.prog 48 = false := by kernel_rfl
@[go_sem] theorem bo48 : isBoolI Try.prog 48 = false := by kernel_rfl
@[go_sem] theorem in48 : intI Try.prog 48 = none := by kernel_rfl
@[go_sem] theorem ty55 : tyI Try.prog 55 = some (1, false) := by kernel_rfl
@[go_sem] theorem el55 : elI Try.prog 55 = some (200, 2, 24) := by kernel_rfl
@[go_sem] theorem st55 : isStrI Try.prog 55 = false := by kernel_rfl
@[go_sem] theorem bo55 : isBoolI Try.prog 55 = false := by kernel_rfl
@[go_sem] theorem in55 : intI Try.prog 55 = none := by kernel_rfl
@[go_sem] theorem ty57 : tyI Try.prog 57 = some (2, true) := by kernel_rfl
@[go_sem] theorem el57 : elI Try.prog 57 = none := by kernel_rfl
@[go_sem] theorem st57 : isStrI Try.prog 57 = false := by kernel_rfl
@[go_sem] theorem bo57 : isBoolI Try.prog 57 = false := by kernel_rfl
@[go_sem] theorem in57 : intI Try.prog 57 = none := by kernel_rfl
@[go_sem] theorem ty61 : tyI Try.prog 61 = some (1, false) := by kernel_rfl
@[go_sem] theorem el61 : elI Try.prog 61 = some (152, 2, 24) := by kernel_rfl
@[go_sem] theorem st61 : isStrI Try.prog 61 = false := by kernel_rfl
@[go_sem] theorem bo61 : isBoolI Try.prog 61 = false := by kernel_rfl
@[go_sem] theorem in61 : intI Try.prog 61 = none := by kernel_rfl
@[go_sem] theorem ty63 : tyI Try.prog 63 = some (2, true) := by kernel_rfl
@[go_sem] theorem el63 : elI Try.prog 63 = none := by kernel_rfl
@[go_sem] theorem st63 : isStrI Try.prog 63 = false := by kernel_rfl
@[go_sem] theorem bo63 : isBoolI Try.prog 63 = false := by kernel_rfl
@[go_sem] theorem in63 : intI Try.prog 63 = none := by kernel_rfl
@[go_sem] theorem ty69 : tyI Try.prog 69 = some (8, true) := by kernel_rfl
@[go_sem] theorem el69 : elI Try.prog 69 = none := by kernel_rfl
@[go_sem] theorem st69 : isStrI Try.prog 69 = false := by kernel_rfl
@[go_sem] theorem bo69 : isBoolI Try.prog 69 = false := by kernel_rfl
@[go_sem] theorem in69 : intI Try.prog 69 = none := by kernel_rfl
@[go_sem] theorem ty70 : tyI Try.prog 70 = some (1, false) := by kernel_rfl
@[go_sem] theorem el70 : elI Try.prog 70 = some (225, 39, 352) := by kernel_rfl
@[go_sem] theorem st70 : isStrI Try.prog 70 = false := by kernel_rfl
@[go_sem] theorem bo70 : isBoolI Try.prog 70 = false := by kernel_rfl
@[go_sem] theorem in70 : intI Try.prog 70 = none := by kernel_rfl
@[go_sem] theorem ty72 : tyI Try.prog 72 = some (4, true) := by kernel_rfl
@[go_sem] theorem el72 : elI Try.prog 72 = none := by kernel_rfl
@[go_sem] theorem st72 : isStrI Try.prog 72 = false := by kernel_rfl
@[go_sem] theorem bo72 : isBoolI Try.prog 72 = false := by kernel_rfl
@[go_sem] theorem in72 : intI Try.prog 72 = none := by kernel_rfl
@[go_sem] theorem ty74 : tyI Try.prog 74 = some (6, true) := by kernel_rfl
@[go_sem] theorem el74 : elI Try.prog 74 = none := by kernel_rfl
@[go_sem] theorem st74 : isStrI Try.prog 74 = false := by kernel_rfl
@[go_sem] theorem bo74 : isBoolI Try.prog 74 = false := by kernel_rfl
@[go_sem] theorem in74 : intI Try.prog 74 = none := by kernel_rfl
@[go_sem] theorem ty76 : tyI Try.prog 76 = some (3, true) := by kernel_rfl
@[go_sem] theorem el76 : elI Try.prog 76 = none := by kernel_rfl
@[go_sem] theorem st76 : isStrI Try.prog 76 = false := by kernel_rfl
@[go_sem] theorem bo76 : isBoolI Try.prog 76 = false := by kernel_rfl
@[go_sem] theorem in76 : intI Try.prog 76 = none := by kernel_rfl
@[go_sem] theorem ty78 : tyI Try.prog 78 = some (4, true) := by kernel_rfl
@[go_sem] theorem el78 : elI Try.prog 78 = none := by kernel_rfl
@[go_sem] theorem st78 : isStrI Try.prog 78 = false := by kernel_rfl
@[go_sem] theorem bo78 : isBoolI Try.prog 78 = false := by kernel_rfl
@[go_sem] theorem in78 : intI Try.prog 78 = none := by kernel_rfl
@[go_sem] theorem ty79 : tyI Try.prog 79 = some (1, false) := by kernel_rfl
@[go_sem] theorem el79 : elI Try.prog 79 = some (229, 2, 32) := by kernel_rfl
@[go_sem] theorem st79 : isStrI Try.prog 79 = false := by kernel_rfl
@[go_sem] theorem bo79 : isBoolI Try.prog 79 = false := by kernel_rfl
@[go_sem] theorem in79 : intI Try.prog 79 = none := by kernel_rfl
@[go_sem] theorem ty81 : tyI Try.prog 81 = some (50, true) := by kernel_rfl
@[go_sem] theorem el81 : elI Try.prog 81 = none := by kernel_rfl
@[go_sem] theorem st81 : isStrI Try.prog 81 = false := by kernel_rfl
@[go_sem] theorem bo81 : isBoolI Try.prog 81 = false := by kernel_rfl
@[go_sem] theorem in81 : intI Try.prog 81 = none := by kernel_rfl
@[go_sem] theorem ty82 : tyI Try.prog 82 = some (1, false) := by kernel_rfl
@[go_sem] theorem el82 : elI Try.prog 82 = some (207, 2, 24) := by kernel_rfl
@[go_sem] theorem st82 : isStrI Try.prog 82 = false := by kernel_rfl
@[go_sem] theorem bo82 : isBoolI Try.prog 82 = false := by kernel_rfl
@[go_sem] theorem in82 : intI Try.prog 82 = none := by kernel_rfl
@[go_sem] theorem ty83 : tyI Try.prog 83 = some (1, false) := by kernel_rfl
@[go_sem] theorem el83 : elI Try.prog 83 = some (209, 7, 56) := by kernel_rfl
@[go_sem] theorem st83 : isStrI Try.prog 83 = false := by kernel_rfl
@[go_sem] theorem bo83 : isBoolI Try.prog 83 = false := by kernel_rfl
@[go_sem] theorem in83 : intI Try.prog 83 = none := by kernel_rfl
@[go_sem] theorem ty85 : tyI Try.prog 85 = some (103, true) := by kernel_rfl
@[go_sem] theorem el85 : elI Try.prog 85 = none := by kernel_rfl
@[go_sem] theorem st85 : isStrI Try.prog 85 = false := by kernel_rfl
@[go_sem] theorem bo85 : isBoolI Try.prog 85 = false := by kernel_rfl
@[go_sem] theorem in85 : intI Try.prog 85 = none := by kernel_rfl
@[go_sem] theorem ty88 : tyI Try.prog 88 = some (7, true) := by kernel_rfl
@[go_sem] theorem el88 : elI Try.prog 88 = none := by kernel_rfl
@[go_sem] theorem st88 : isStrI Try.prog 88 = false := by kernel_rfl
@[go_sem] theorem bo88 : isBoolI Try.prog 88 = false := by kernel_rfl
@[go_sem] theorem in88 : intI Try.prog 88 = none := by kernel_rfl
@[go_sem] theorem ty91 : tyI Try.prog 91 = some (8, true) := by kernel_rfl
@[go_sem] theorem el91 : elI Try.prog 91 = none := by kernel_rfl
@[go_sem] theorem st91 : isStrI Try.prog 91 = false := by kernel_rfl
@[go_sem] theorem bo91 : isBoolI Try.prog 91 = false := by kernel_rfl
@[go_sem] theorem in91 : intI Try.prog 91 = none := by kernel_rfl
@[go_sem] theorem ty92 : tyI Try.prog 92 = some (1, false) := by kernel_rfl
@[go_sem] theorem el92 : elI Try.prog 92 = some (237, 39, 352) := by kernel_rfl
@[go_sem] theorem st92 : isStrI Try.prog 92 = false := by kernel_rfl
@[go_sem] theorem bo92 : isBoolI Try.prog 92 = false := by kernel_rfl
@[go_sem] theorem in92 : intI Try.prog 92 = none := by kernel_rfl
@[go_sem] theorem ty93 : tyI Try.prog 93 = some (4, true) := by kernel_rfl
@[go_sem] theorem el93 : elI Try.prog 93 = none := by kernel_rfl
@[go_sem] theorem st93 : isStrI Try.prog 93 = false := by kernel_rfl
@[go_sem] theorem bo93 : isBoolI Try.prog 93 = false := by kernel_rfl
@[go_sem] theorem in93 : intI Try.prog 93 = none := by kernel_rfl
@[go_sem] theorem ty94 : tyI Try.prog 94 = some (6, true) := by kernel_rfl
@[go_sem] theorem el94 : elI Try.prog 94 = none := by kernel_rfl
@[go_sem] theorem st94 : isStrI Try.prog 94 = false := by kernel_rfl
@[go_sem] theorem bo94 : isBoolI Try.prog 94 = false := by kernel_rfl
@[go_sem] theorem in94 : intI Try.prog 94 = none := by kernel_rfl
@[go_sem] theorem ty95 : tyI Try.prog 95 = some (3, true) := by kernel_rfl
@[go_sem] theorem el95 : elI Try.prog 95 = none := by kernel_rfl
@[go_sem] theorem st95 : isStrI Try.prog 95 = false := by kernel_rfl
@[go_sem] theorem bo95 : isBoolI Try.prog 95 = false := by kernel_rfl
@[go_sem] theorem in95 : intI Try.prog 95 = none := by kernel_rfl
@[go_sem] theorem ty96 : tyI Try.prog 96 = some (4, true) := by kernel_rfl
@[go_sem] theorem el96 : elI Try.prog 96 = none := by kernel_rfl
@[go_sem] theorem st96 : isStrI Try.prog 96 = false := by kernel_rfl
@[go_sem] theorem bo96 : isBoolI Try.prog 96 = false := by kernel_rfl
@[go_sem] theorem in96 : intI Try.prog 96 = none := by kernel_rfl
@[go_sem] theorem ty97 : tyI Try.prog 97 = some (1, false) := by kernel_rfl
@[go_sem] theorem el97 : elI Try.prog 97 = some (110, 2, 32) := by kernel_rfl
@[go_sem] theorem st97 : isStrI Try.prog 97 = false := by kernel_rfl
@[go_sem] theorem bo97 : isBoolI Try.prog 97 = false := by kernel_rfl
@[go_sem] theorem in97 : intI Try.prog 97 = none := by kernel_rfl
@[go_sem] theorem ty99 : tyI Try.prog 99 = some (50, true) := by kernel_rfl
@[go_sem] theorem el99 : elI Try.prog 99 = none := by kernel_rfl
@[go_sem] theorem st99 : isStrI Try.prog 99 = false := by kernel_rfl
@[go_sem] theorem bo99 : isBoolI Try.prog 99 = false := by kernel_rfl
@[go_sem] theorem in99 : intI Try.prog 99 = none := by kernel_rfl
@[go_sem] theorem ty100 : tyI Try.prog 100 = some (1, false) := by kernel_rfl
@[go_sem] theorem el100 : elI Try.prog 100 = some (88, 7, 56) := by kernel_rfl
@[go_sem] theorem st100 : isStrI Try.prog 100 = false := by kernel_rfl
@[go_sem] theorem bo100 : isBoolI Try.prog 100 = false := by kernel_rfl
@[go_sem] theorem in100 : intI Try.prog 100 = none := by kernel_rfl
@[go_sem] theorem ty102 : tyI Try.prog 102 = some (103, true) := by kernel_rfl
@[go_sem] theorem el102 : elI Try.prog 102 = none := by kernel_rfl
@[go_sem] theorem st102 : isStrI Try.prog 102 = false := by kernel_rfl
@[go_sem] theorem bo102 : isBoolI Try.prog 102 = false := by kernel_rfl
@[go_sem] theorem in102 : intI Try.prog 102 = none := by kernel_rfl
@[go_sem] theorem ty108 : tyI Try.prog 108 = some (1, false) := by kernel_rfl
@[go_sem] theorem el108 : elI Try.prog 108 = some (244, 9, 80) := by kernel_rfl
@[go_sem] theorem st108 : isStrI Try.prog 108 = false := by kernel_rfl
@[go_sem] theorem bo108 : isBoolI Try.prog 108 = false := by kernel_rfl
@[go_sem] theorem in108 : intI Try.prog 108 = none := by kernel_rfl
@[go_sem] theorem ty110 : tyI Try.prog 110 = some (2, true) := by kernel_rfl
@[go_sem] theorem el110 : elI Try.prog 110 = none := by kernel_rfl
@[go_sem] theorem st110 : isStrI Try.prog 110 = false := by kernel_rfl
@[go_sem] theorem bo110 : isBoolI Try.prog 110 = false := by kernel_rfl
@[go_sem] theorem in110 : intI Try.prog 110 = none := by kernel_rfl
@[go_sem] theorem ty127 : tyI Try.prog 127 = some (1, false) := by kernel_rfl
@[go_sem] theorem ty142 : tyI Try.prog 142 = some (2, true) := by kernel_rfl
@[go_sem] theorem el142 : elI Try.prog 142 = none := by kernel_rfl
@[go_sem] theorem st142 : isStrI Try.prog 142 = false := by kernel_rfl
@[go_sem] theorem bo142 : isBoolI Try.prog 142 = false := by kernel_rfl
@[go_sem] theorem in142 : intI Try.prog 142 = none := by kernel_rfl
@[go_sem] theorem ty152 : tyI Try.prog 152 = some (2, true) := by kernel_rfl
@[go_sem] theorem el152 : elI Try.prog 152 = none := by kernel_rfl
@[go_sem] theorem st152 : isStrI Try.prog 152 = false := by kernel_rfl
@[go_sem] theorem bo152 : isBoolI Try.prog 152 = false := by kernel_rfl
@[go_sem] theorem in152 : intI Try.prog 152 = none := by kernel_rfl
@[go_sem] theorem ty185 : tyI Try.prog 185 = some (1, false) := by kernel_rfl
@[go_sem] theorem ty190 : tyI Try.prog 190 = some (3, true) := by kernel_rfl
@[go_sem] theorem el190 : elI Try.prog 190 = none := by kernel_rfl
@[go_sem] theorem st190 : isStrI Try.prog 190 = false := by kernel_rfl
@[go_sem] theorem bo190 : isBoolI Try.prog 190 = false := by kernel_rfl
@[go_sem] theorem in190 : intI Try.prog 190 = none := by kernel_rfl
@[go_sem] theorem ty194 : tyI Try.prog 194 = some (1, false) := by kernel_rfl
@[go_sem] theorem el194 : elI Try.prog 194 = some (9, 1, 16) := by kernel_rfl
@[go_sem] theorem st194 : isStrI Try.prog 194 = false := by kernel_rfl
@[go_sem] theorem bo194 : isBoolI Try.prog 194 = false := by kernel_rfl
@[go_sem] theorem in194 : intI Try.prog 194 = none := by kernel_rfl
@[go_sem] theorem ty200 : tyI Try.prog 200 = some (2, true) := by kernel_rfl
@[go_sem] theorem el200 : elI Try.prog 200 = none := by kernel_rfl
@[go_sem] theorem st200 : isStrI Try.prog 200 = false := by kernel_rfl
@[go_sem] theorem bo200 : isBoolI Try.prog 200 = false := by kernel_rfl
@[go_sem] theorem in200 : intI Try.prog 200 = none := by kernel_rfl
@[go_sem] theorem ty207 : tyI Try.prog 207 = some (2, true) := by kernel_rfl
@[go_sem] theorem el207 : elI Try.prog 207 = none := by kernel_rfl
@[go_sem] theorem st207 : isStrI Try.prog 207 = false := by kernel_rfl
@[go_sem] theorem bo207 : isBoolI Try.prog 207 = false := by kernel_rfl
@[go_sem] theorem in207 : intI Try.prog 207 = none := by kernel_rfl
@[go_sem] theorem ty209 : tyI Try.prog 209 = some (7, true) := by kernel_rfl
@[go_sem] theorem el209 : elI Try.prog 209 = none := by kernel_rfl
@[go_sem] theorem st209 : isStrI Try.prog 209 = false := by kernel_rfl
@[go_sem] theorem bo209 : isBoolI Try.prog 209 = false := by kernel_rfl
@[go_sem] theorem in209 : intI Try.prog 209 = none := by kernel_rfl
@[go_sem] theorem ty216 : tyI Try.prog 216 = some (4, true) := by kernel_rfl
@[go_sem] theorem el216 : elI Try.prog 216 = none := by kernel_rfl
@[go_sem] theorem st216 : isStrI Try.prog 216 = false := by kernel_rfl
@[go_sem] theorem bo216 : isBoolI Try.prog 216 = false := by kernel_rfl
@[go_sem] theorem in216 : intI Try.prog 216 = none := by kernel_rfl
@[go_sem] theorem ty217 : tyI Try.prog 217 = some (1, false) := by kernel_rfl
@[go_sem] theorem el217 : elI Try.prog 217 = some (276, 2, 16) := by kernel_rfl
@[go_sem] theorem st217 : isStrI Try.prog 217 = false := by kernel_rfl
@[go_sem] theorem bo217 : isBoolI Try.prog 217 = false := by kernel_rfl
@[go_sem] theorem in217 : intI Try.prog 217 = none := by kernel_rfl
@[go_sem] theorem ty219 : tyI Try.prog 219 = some (12, true) := by kernel_rfl
@[go_sem] theorem el219 : elI Try.prog 219 = none := by kernel_rfl
@[go_sem] theorem st219 : isStrI Try.prog 219 = false := by kernel_rfl
@[go_sem] theorem bo219 : isBoolI Try.prog 219 = false := by kernel_rfl
@[go_sem] theorem in219 : intI Try.prog 219 = none := by kernel_rfl
@[go_sem] theorem ty221 : tyI Try.prog 221 = some (6, true) := by kernel_rfl
@[go_sem] theorem el221 : elI Try.prog 221 = none := by kernel_rfl
@[go_sem] theorem st221 : isStrI Try.prog 221 = false := by kernel_rfl
@[go_sem] theorem bo221 : isBoolI Try.prog 221 = false := by kernel_rfl
@[go_sem] theorem in221 : intI Try.prog 221 = none := by kernel_rfl
@[go_sem] theorem ty223 : tyI Try.prog 223 = some (2, true) := by kernel_rfl
@[go_sem] theorem el223 : elI Try.prog 223 = none := by kernel_rfl
@[go_sem] theorem st223 : isStrI Try.prog 223 = false := by kernel_rfl
@[go_sem] theorem bo223 : isBoolI Try.prog 223 = false := by kernel_rfl
@[go_sem] theorem in223 : intI Try.prog 223 = none := by kernel_rfl
@[go_sem] theorem ty225 : tyI Try.prog 225 = some (39, true) := by kernel_rfl
@[go_sem] theorem el225 : elI Try.prog 225 = none := by kernel_rfl
@[go_sem] theorem st225 : isStrI Try.prog 225 = false := by kernel_rfl
@[go_sem] theorem bo225 : isBoolI Try.prog 225 = false := by kernel_rfl
@[go_sem] theorem in225 : intI Try.prog 225 = none := by kernel_rfl
@[go_sem] theorem ty227 : tyI Try.prog 227 = some (1, false) := by kernel_rfl
@[go_sem] theorem el227 : elI Try.prog 227 = some (270, 9, 80) := by kernel_rfl
@[go_sem] theorem st227 : isStrI Try.prog 227 = false := by kernel_rfl
@[go_sem] theorem bo227 : isBoolI Try.prog 227 = false := by kernel_rfl
@[go_sem] theorem in227 : intI Try.prog 227 = none := by kernel_rfl
@[go_sem] theorem ty229 : tyI Try.prog 229 = some (2, true) := by kernel_rfl
@[go_sem] theorem el229 : elI Try.prog 229 = none := by kernel_rfl
@[go_sem] theorem st229 : isStrI Try.prog 229 = false := by kernel_rfl
@[go_sem] theorem bo229 : isBoolI Try.prog 229 = false := by kernel_rfl
@[go_sem] theorem in229 : intI Try.prog 229 = none := by kernel_rfl
@[go_sem] theorem ty230 : tyI Try.prog 230 = some (4, true) := by kernel_rfl
@[go_sem] theorem el230 : elI Try.prog 230 = none := by kernel_rfl
@[go_sem] theorem st230 : isStrI Try.prog 230 = false := by kernel_rfl
@[go_sem] theorem bo230 : isBoolI Try.prog 230 = false := by kernel_rfl
@[go_sem] theorem in230 : intI Try.prog 230 = none := by kernel_rfl
@[go_sem] theorem ty232 : tyI Try.prog 232 = some (12, true) := by kernel_rfl
@[go_sem] theorem el232 : elI Try.prog 232 = none := by kernel_rfl
@[go_sem] theorem st232 : isStrI Try.prog 232 = false := by kernel_rfl
@[go_sem] theorem bo232 : isBoolI Try.prog 232 = false := by kernel_rfl
@[go_sem] theorem in232 : intI Try.prog 232 = none := by kernel_rfl
@[go_sem] theorem ty234 : tyI Try.prog 234 = some (6, true) := by kernel_rfl
@[go_sem] theorem el234 : elI Try.prog 234 = none := by kernel_rfl
@[go_sem] theorem st234 : isStrI Try.prog 234 = false := by kernel_rfl
@[go_sem] theorem bo234 : isBoolI Try.prog 234 = false := by kernel_rfl
@[go_sem] theorem in234 : intI Try.prog 234 = none := by kernel_rfl
@[go_sem] theorem ty235 : tyI Try.prog 235 = some (2, true) := by kernel_rfl
@[go_sem] theorem el235 : elI Try.prog 235 = none := by kernel_rfl
@[go_sem] theorem st235 : isStrI Try.prog 235 = false := by kernel_rfl
@[go_sem] theorem bo235 : isBoolI Try.prog 235 = false := by kernel_rfl
@[go_sem] theorem in235 : intI Try.prog 235 = none := by kernel_rfl
@[go_sem] theorem ty237 : tyI Try.prog 237 = some (39, true) := by kernel_rfl
@[go_sem] theorem el237 : elI Try.prog 237 = none := by kernel_rfl
@[go_sem] theorem st237 : isStrI Try.prog 237 = false := by kernel_rfl
@[go_sem] theorem bo237 : isBoolI Try.prog 237 = false := by kernel_rfl
@[go_sem] theorem in237 : intI Try.prog 237 = none := by kernel_rfl
@[go_sem] theorem ty244 : tyI Try.prog 244 = some (9, true) := by kernel_rfl
@[go_sem] theorem el244 : elI Try.prog 244 = none := by kernel_rfl
@[go_sem] theorem st244 : isStrI Try.prog 244 = false := by kernel_rfl
@[go_sem] theorem bo244 : isBoolI Try.prog 244 = false := by kernel_rfl
@[go_sem] theorem in244 : intI Try.prog 244 = none := by kernel_rfl
@[go_sem] theorem ty255 : tyI Try.prog 255 = some (1, false) := by kernel_rfl
@[go_sem] theorem ty270 : tyI Try.prog 270 = some (9, true) := by kernel_rfl
@[go_sem] theorem el270 : elI Try.prog 270 = none := by kernel_rfl
@[go_sem] theorem st270 : isStrI Try.prog 270 = false := by kernel_rfl
@[go_sem] theorem bo270 : isBoolI Try.prog 270 = false := by kernel_rfl
@[go_sem] theorem in270 : intI Try.prog 270 = none := by kernel_rfl
@[go_sem] theorem ty276 : tyI Try.prog 276 = some (2, true) := by kernel_rfl
@[go_sem] theorem el276 : elI Try.prog 276 = none := by kernel_rfl
@[go_sem] theorem st276 : isStrI Try.prog 276 = false := by kernel_rfl
@[go_sem] theorem bo276 : isBoolI Try.prog 276 = false := by kernel_rfl
@[go_sem] theorem in276 : intI Try.prog 276 = none := by kernel_rfl
@[go_sem] theorem fd26_0 : fdI Try.prog 26 0 = some 0 := by kernel_rfl
@[go_sem] theorem fd26_1 : fdI Try.prog 26 1 = some 1 := by kernel_rfl
@[go_sem] theorem fd44_0 : fdI Try.prog 44 0 = some 0 := by kernel_rfl
@[go_sem] theorem fd44_1 : fdI Try.prog 44 1 = some 1 := by kernel_rfl
@[go_sem] theorem fd48_0 : fdI Try.prog 48 0 = some 0 := by kernel_rfl
@[go_sem] theorem fd48_1 : fdI Try.prog 48 1 = some 1 := by kernel_rfl
@[go_sem] theorem fd57_0 : fdI Try.prog 57 0 = some 0 := by kernel_rfl
@[go_sem] theorem fd57_1 : fdI Try.prog 57 1 = some 1 := by kernel_rfl
@[go_sem] theorem fd63_0 : fdI Try.prog 63 0 = some 0 := by kernel_rfl
@[go_sem] theorem fd63_1 : fdI Try.prog 63 1 = some 1 := by kernel_rfl
@[go_sem] theorem fd69_0 : fdI Try.prog 69 0 = some 0 := by kernel_rfl
@[go_sem] theorem fd69_1 : fdI Try.prog 69 1 = some 1 := by kernel_rfl
@[go_sem] theorem fd69_2 : fdI Try.prog 69 2 = some 2 := by kernel_rfl
@[go_sem] theorem fd69_3 : fdI Try.prog 69 3 = some 3 := by kernel_rfl
@[go_sem] theorem fd69_4 : fdI Try.prog 69 4 = some 4 := by kernel_rfl
@[go_sem] theorem fd69_5 : fdI Try.prog 69 5 = some 5 := by kernel_rfl
@[go_sem] theorem fd69_6 : fdI Try.prog 69 6 = some 6 := by kernel_rfl
@[go_sem] theorem fd69_7 : fdI Try.prog 69 7 = some 7 := by kernel_rfl
@[go_sem] theorem fd72_0 : fdI Try.prog 72 0 = some 0 := by kernel_rfl
@[go_sem] theorem fd72_1 : fdI Try.prog 72 1 = some 1 := by kernel_rfl
@[go_sem] theorem fd72_2 : fdI Try.prog 72 2 = some 2 := by kernel_rfl
@[go_sem] theorem fd72_3 : fdI Try.prog 72 3 = some 3 := by kernel_rfl
@[go_sem] theorem fd74_0 : fdI Try.prog 74 0 = some 0 := by kernel_rfl
@[go_sem] theorem fd74_1 : fdI Try.prog 74 1 = some 1 := by kernel_rfl
@[go_sem] theorem fd74_2 : fdI Try.prog 74 2 = some 2 := by kernel_rfl
@[go_sem] theorem fd74_3 : fdI Try.prog 74 3 = some 3 := by kernel_rfl
@[go_sem] theorem fd74_4 : fdI Try.prog 74 4 = some 4 := by kernel_rfl
@[go_sem] theorem fd74_5 : fdI Try.prog 74 5 = some 5 := by kernel_rfl
@[go_sem] theorem fd76_0 : fdI Try.prog 76 0 = some 0 := by kernel_rfl
@[go_sem] theorem fd76_1 : fdI Try.prog 76 1 = some 1 := by kernel_rfl
@[go_sem] theorem fd76_2 : fdI Try.prog 76 2 = some 2 := by kernel_rfl
@[go_sem] theorem fd78_0 : fdI Try.prog 78 0 = some 0 := by kernel_rfl
@[go_sem] theorem fd78_1 : fdI Try.prog 78 1 = some 1 := by kernel_rfl
@[go_sem] theorem fd78_2 : fdI Try.prog 78 2 = some 2 := by kernel_rfl
@[go_sem] theorem fd78_3 : fdI Try.prog 78 3 = some 3 := by kernel_rfl
@[go_sem] theorem fd81_0 : fdI Try.prog 81 0 = some 0 := by kernel_rfl
@[go_sem] theorem fd81_1 : fdI Try.prog 81 1 = some 1 := by kernel_rfl
@[go_sem] theorem fd81_2 : fdI Try.prog 81 2 = some 9 := by kernel_rfl
@[go_sem] theorem fd81_3 : fdI Try.prog 81 3 = some 17 := by kernel_rfl
@[go_sem] theorem fd81_4 : fdI Try.prog 81 4 = some 18 := by kernel_rfl
@[go_sem] theorem fd81_5 : fdI Try.prog 81 5 = some 22 := by kernel_rfl
@[go_sem] theorem fd81_6 : fdI Try.prog 81 6 = some 28 := by kernel_rfl
@[go_sem] theorem fd81_7 : fdI Try.prog 81 7 = some 31 := by kernel_rfl
@[go_sem] theorem fd81_8 : fdI Try.prog 81 8 = some 34 := by kernel_rfl
@[go_sem] theorem fd81_9 : fdI Try.prog 81 9 = some 38 := by kernel_rfl
@[go_sem] theorem fd81_10 : fdI Try.prog 81 10 = some 42 := by kernel_rfl
@[go_sem] theorem fd81_11 : fdI Try.prog 81 11 = some 43 := by kernel_rfl
@[go_sem] theorem fd81_12 : fdI Try.prog 81 12 = some 44 := by kernel_rfl
@[go_sem] theorem fd81_13 : fdI Try.prog 81 13 = some 45 := by kernel_rfl
@[go_sem] theorem fd81_14 : fdI Try.prog 81 14 = some 46 := by kernel_rfl
@[go_sem] theorem fd81_15 : fdI Try.prog 81 15 = some 47 := by kernel_rfl
@[go_sem] theorem fd81_16 : fdI Try.prog 81 16 = some 48 := by kernel_rfl
@[go_sem] theorem fd81_17 : fdI Try.prog 81 17 = some 49 := by kernel_rfl
@[go_sem] theorem fd85_0 : fdI Try.prog 85 0 = some 0 := by kernel_rfl
@[go_sem] theorem fd85_1 : fdI Try.prog 85 1 = some 50 := by kernel_rfl
@[go_sem] theorem fd85_2 : fdI Try.prog 85 2 = some 100 := by kernel_rfl
@[go_sem] theorem fd85_3 : fdI Try.prog 85 3 = some 101 := by kernel_rfl
@[go_sem] theorem fd85_4 : fdI Try.prog 85 4 = some 102 := by kernel_rfl
@[go_sem] theorem fd88_0 : fdI Try.prog 88 0 = some 0 := by kernel_rfl
@[go_sem] theorem fd88_1 : fdI Try.prog 88 1 = some 1 := by kernel_rfl
@[go_sem] theorem fd88_2 : fdI Try.prog 88 2 = some 2 := by kernel_rfl
@[go_sem] theorem fd88_3 : fdI Try.prog 88 3 = some 3 := by kernel_rfl
@[go_sem] theorem fd88_4 : fdI Try.prog 88 4 = some 4 := by kernel_rfl
@[go_sem] theorem fd88_5 : fdI Try.prog 88 5 = some 5 := by kernel_rfl
@[go_sem] theorem fd88_6 : fdI Try.prog 88 6 = some 6 := by kernel_rfl
@[go_sem] theorem fd91_0 : fdI Try.prog 91 0 = some 0 := by kernel_rfl
@[go_sem] theorem fd91_1 : fdI Try.prog 91 1 = some 1 := by kernel_rfl
@[go_sem] theorem fd91_2 : fdI Try.prog 91 2 = some 2 := by kernel_rfl
@[go_sem] theorem fd91_3 : fdI Try.prog 91 3 = some 3 := by kernel_rfl
@[go_sem] theorem fd91_4 : fdI Try.prog 91 4 = some 4 := by kernel_rfl
@[go_sem] theorem fd91_5 : fdI Try.prog 91 5 = some 5 := by kernel_rfl
@[go_sem] theorem fd91_6 : fdI Try.prog 91 6 = some 6 := by kernel_rfl
@[go_sem] theorem fd91_7 : fdI Try.prog 91 7 = some 7 := by kernel_rfl
@[go_sem] theorem fd93_0 : fdI Try.prog 93 0 = some 0 := by kernel_rfl
@[go_sem] theorem fd93_1 : fdI Try.prog 93 1 = some 1 := by kernel_rfl
@[go_sem] theorem fd93_2 : fdI Try.prog 93 2 = some 2 := by kernel_rfl
@[go_sem] theorem fd93_3 : fdI Try.prog 93 3 = some 3 := by kernel_rfl
@[go_sem] theorem fd94_0 : fdI Try.prog 94 0 = some 0 := by kernel_rfl
@[go_sem] theorem fd94_1 : fdI Try.prog 94 1 = some 1 := by kernel_rfl
@[go_sem] theorem fd94_2 : fdI Try.prog 94 2 = some 2 := by kernel_rfl
@[go_sem] theorem fd94_3 : fdI Try.prog 94 3 = some 3 := by kernel_rfl
@[go_sem] theorem fd94_4 : fdI Try.prog 94 4 = some 4 := by kernel_rfl
@[go_sem] theorem fd94_5 : fdI Try.prog 94 5 = some 5 := by kernel_rfl
@[go_sem] theorem fd95_0 : fdI Try.prog 95 0 = some 0 := by kernel_rfl
@[go_sem] theorem fd95_1 : fdI Try.prog 95 1 = some 1 := by kernel_rfl
@[go_sem] theorem fd95_2 : fdI Try.prog 95 2 = some 2 := by kernel_rfl
@[go_sem] theorem fd96_0 : fdI Try.prog 96 0 = some 0 := by kernel_rfl
@[go_sem] theorem fd96_1 : fdI Try.prog 96 1 = some 1 := by kernel_rfl
@[go_sem] theorem fd96_2 : fdI Try.prog 96 2 = some 2 := by kernel_rfl
@[go_sem] theorem fd96_3 : fdI Try.prog 96 3 = some 3 := by kernel_rfl
@[go_sem] theorem fd99_0 : fdI Try.prog 99 0 = some 0 := by kernel_rfl
@[go_sem] theorem fd99_1 : fdI Try.prog 99 1 = some 1 := by kernel_rfl
@[go_sem] theorem fd99_2 : fdI Try.prog 99 2 = some 9 := by kernel_rfl
@[go_sem] theorem fd99_3 : fdI Try.prog 99 3 = some 17 := by kernel_rfl
@[go_sem] theorem fd99_4 : fdI Try.prog 99 4 = some 18 := by kernel_rfl
@[go_sem] theorem fd99_5 : fdI Try.prog 99 5 = some 22 := by kernel_rfl
@[go_sem] theorem fd99_6 : fdI Try.prog 99 6 = some 28 := by kernel_rfl
@[go_sem] theorem fd99_7 : fdI Try.prog 99 7 = some 31 := by kernel_rfl
@[go_sem] theorem fd99_8 : fdI Try.prog 99 8 = some 34 := by kernel_rfl
@[go_sem] theorem fd99_9 : fdI Try.prog 99 9 = some 38 := by kernel_rfl
@[go_sem] theorem fd99_10 : fdI Try.prog 99 10 = some 42 := by kernel_rfl
@[go_sem] theorem fd99_11 : fdI Try.prog 99 11 = some 43 := by kernel_rfl
@[go_sem] theorem fd99_12 : fdI Try.prog 99 12 = some 44 := by kernel_rfl
@[go_sem] theorem fd99_13 : fdI Try.prog 99 13 = some 45 := by kernel_rfl
@[go_sem] theorem fd99_14 : fdI Try.prog 99 14 = some 46 := by kernel_rfl
@[go_sem] theorem fd99_15 : fdI Try.prog 99 15 = some 47 := by kernel_rfl
@[go_sem] theorem fd99_16 : fdI Try.prog 99 16 = some 48 := by kernel_rfl
@[go_sem] theorem fd99_17 : fdI Try.prog 99 17 = some 49 := by kernel_rfl
@[go_sem] theorem fd102_0 : fdI Try.prog 102 0 = some 0 := by kernel_rfl
@[go_sem] theorem fd102_1 : fdI Try.prog 102 1 = some 50 := by kernel_rfl
@[go_sem] theorem fd102_2 : fdI Try.prog 102 2 = some 100 := by kernel_rfl
@[go_sem] theorem fd102_3 : fdI Try.prog 102 3 = some 101 := by kernel_rfl
@[go_sem] theorem fd102_4 : fdI Try.prog 102 4 = some 102 := by kernel_rfl
@[go_sem] theorem fd110_0 : fdI Try.prog 110 0 = some 0 := by kernel_rfl
@[go_sem] theorem fd110_1 : fdI Try.prog 110 1 = some 1 := by kernel_rfl
@[go_sem] theorem fd142_0 : fdI Try.prog 142 0 = some 0 := by kernel_rfl
@[go_sem] theorem fd142_1 : fdI Try.prog 142 1 = some 1 := by kernel_rfl
@[go_sem] theorem fd152_0 : fdI Try.prog 152 0 = some 0 := by kernel_rfl
@[go_sem] theorem fd152_1 : fdI Try.prog 152 1 = some 1 := by kernel_rfl
@[go_sem] theorem fd190_0 : fdI Try.prog 190 0 = some 0 := by kernel_rfl
@[go_sem] theorem fd190_1 : fdI Try.prog 190 1 = some 1 := by kernel_rfl
@[go_sem] theorem fd190_2 : fdI Try.prog 190 2 = some 2 := by kernel_rfl
@[go_sem] theorem fd200_0 : fdI Try.prog 200 0 = some 0 := by kernel_rfl
@[go_sem] theorem fd200_1 : fdI Try.prog 200 1 = some 1 := by kernel_rfl
@[go_sem] theorem fd207_0 : fdI Try.prog 207 0 = some 0 := by kernel_rfl
@[go_sem] theorem fd207_1 : fdI Try.prog 207 1 = some 1 := by kernel_rfl
@[go_sem] theorem fd209_0 : fdI Try.prog 209 0 = some 0 := by kernel_rfl
@[go_sem] theorem fd209_1 : fdI Try.prog 209 1 = some 1 := by kernel_rfl
@[go_sem] theorem fd209_2 : fdI Try.prog 209 2 = some 2 := by kernel_rfl
@[go_sem] theorem fd209_3 : fdI Try.prog 209 3 = some 3 := by kernel_rfl
@[go_sem] theorem fd209_4 : fdI Try.prog 209 4 = some 4 := by kernel_rfl
@[go_sem] theorem fd209_5 : fdI Try.prog 209 5 = some 5 := by kernel_rfl
@[go_sem] theorem fd209_6 : fdI Try.prog 209 6 = some 6 := by kernel_rfl
@[go_sem] theorem fd216_0 : fdI Try.prog 216 0 = some 0 := by kernel_rfl
@[go_sem] theorem fd216_1 : fdI Try.prog 216 1 = some 1 := by kernel_rfl
@[go_sem] theorem fd216_2 : fdI Try.prog 216 2 = some 2 := by kernel_rfl
@[go_sem] theorem fd216_3 : fdI Try.prog 216 3 = some 3 := by kernel_rfl
@[go_sem] theorem fd219_0 : fdI Try.prog 219 0 = some 0 := by kernel_rfl
@[go_sem] theorem fd219_1 : fdI Try.prog 219 1 = some 1 := by kernel_rfl
@[go_sem] theorem fd219_2 : fdI Try.prog 219 2 = some 5 := by kernel_rfl
@[go_sem] theorem fd219_3 : fdI Try.prog 219 3 = some 6 := by kernel_rfl
@[go_sem] theorem fd219_4 : fdI Try.prog 219 4 = some 7 := by kernel_rfl
@[go_sem] theorem fd219_5 : fdI Try.prog 219 5 = some 8 := by kernel_rfl
@[go_sem] theorem fd219_6 : fdI Try.prog 219 6 = some 9 := by kernel_rfl
@[go_sem] theorem fd219_7 : fdI Try.prog 219 7 = some 10 := by kernel_rfl
@[go_sem] theorem fd219_8 : fdI Try.prog 219 8 = some 11 := by kernel_rfl
@[go_sem] theorem fd221_0 : fdI Try.prog 221 0 = some 0 := by kernel_rfl
@[go_sem] theorem fd221_1 : fdI Try.prog 221 1 = some 1 := by kernel_rfl
@[go_sem] theorem fd221_2 : fdI Try.prog 221 2 = some 3 := by kernel_rfl
@[go_sem] theorem fd221_3 : fdI Try.prog 221 3 = some 4 := by kernel_rfl
@[go_sem] theorem fd221_4 : fdI Try.prog 221 4 = some 5 := by kernel_rfl
@[go_sem] theorem fd223_0 : fdI Try.prog 223 0 = some 0 := by kernel_rfl
@[go_sem] theorem fd223_1 : fdI Try.prog 223 1 = some 1 := by kernel_rfl
@[go_sem] theorem fd225_0 : fdI Try.prog 225 0 = some 0 := by kernel_rfl
@[go_sem] theorem fd225_1 : fdI Try.prog 225 1 = some 1 := by kernel_rfl
@[go_sem] theorem fd225_2 : fdI Try.prog 225 2 = some 13 := by kernel_rfl
@[go_sem] theorem fd225_3 : fdI Try.prog 225 3 = some 17 := by kernel_rfl
@[go_sem] theorem fd225_4 : fdI Try.prog 225 4 = some 23 := by kernel_rfl
@[go_sem] theorem fd225_5 : fdI Try.prog 225 5 = some 29 := by kernel_rfl
@[go_sem] theorem fd225_6 : fdI Try.prog 225 6 = some 31 := by kernel_rfl
@[go_sem] theorem fd225_7 : fdI Try.prog 225 7 = some 32 := by kernel_rfl
@[go_sem] theorem fd225_8 : fdI Try.prog 225 8 = some 33 := by kernel_rfl
@[go_sem] theorem fd225_9 : fdI Try.prog 225 9 = some 34 := by kernel_rfl
@[go_sem] theorem fd225_10 : fdI Try.prog 225 10 = some 35 := by kernel_rfl
@[go_sem] theorem fd225_11 : fdI Try.prog 225 11 = some 36 := by kernel_rfl
@[go_sem] theorem fd225_12 : fdI Try.prog 225 12 = some 37 := by kernel_rfl
@[go_sem] theorem fd225_13 : fdI Try.prog 225 13 = some 38 := by kernel_rfl
@[go_sem] theorem fd229_0 : fdI Try.prog 229 0 = some 0 := by kernel_rfl
@[go_sem] theorem fd229_1 : fdI Try.prog 229 1 = some 1 := by kernel_rfl
@[go_sem] theorem fd230_0 : fdI Try.prog 230 0 = some 0 := by kernel_rfl
@[go_sem] theorem fd230_1 : fdI Try.prog 230 1 = some 1 := by kernel_rfl
@[go_sem] theorem fd230_2 : fdI Try.prog 230 2 = some 2 := by kernel_rfl
@[go_sem] theorem fd230_3 : fdI Try.prog 230 3 = some 3 := by kernel_rfl
@[go_sem] theorem fd232_0 : fdI Try.prog 232 0 = some 0 := by kernel_rfl
@[go_sem] theorem fd232_1 : fdI Try.prog 232 1 = some 1 := by kernel_rfl
@[go_sem] theorem fd232_2 : fdI Try.prog 232 2 = some 5 := by kernel_rfl
@[go_sem] theorem fd232_3 : fdI Try.prog 232 3 = some 6 := by kernel_rfl
@[go_sem] theorem fd232_4 : fdI Try.prog 232 4 = some 7 := by kernel_rfl
@[go_sem] theorem fd232_5 : fdI Try.prog 232 5 = some 8 := by kernel_rfl
@[go_sem] theorem fd232_6 : fdI Try.prog 232 6 = some 9 := by kernel_rfl
@[go_sem] theorem fd232_7 : fdI Try.prog 232 7 = some 10 := by kernel_rfl
@[go_sem] theorem fd232_8 : fdI Try.prog 232 8 = some 11 := by kernel_rfl
@[go_sem] theorem fd234_0 : fdI Try.prog 234 0 = some 0 := by kernel_rfl
@[go_sem] theorem fd234_1 : fdI Try.prog 234 1 = some 1 := by kernel_rfl
@[go_sem] theorem fd234_2 : fdI Try.prog 234 2 = some 3 := by kernel_rfl
@[go_sem] theorem fd234_3 : fdI Try.prog 234 3 = some 4 := by kernel_rfl
@[go_sem] theorem fd234_4 : fdI Try.prog 234 4 = some 5 := by kernel_rfl
@[go_sem] theorem fd235_0 : fdI Try.prog 235 0 = some 0 := by kernel_rfl
@[go_sem] theorem fd235_1 : fdI Try.prog 235 1 = some 1 := by kernel_rfl
@[go_sem] theorem fd237_0 : fdI Try.prog 237 0 = some 0 := by kernel_rfl
@[go_sem] theorem fd237_1 : fdI Try.prog 237 1 = some 1 := by kernel_rfl
@[go_sem] theorem fd237_2 : fdI Try.prog 237 2 = some 13 := by kernel_rfl
@[go_sem] theorem fd237_3 : fdI Try.prog 237 3 = some 17 := by kernel_rfl
@[go_sem] theorem fd237_4 : fdI Try.prog 237 4 = some 23 := by kernel_rfl
@[go_sem] theorem fd237_5 : fdI Try.prog 237 5 = some 29 := by kernel_rfl
@[go_sem] theorem fd237_6 : fdI Try.prog 237 6 = some 31 := by kernel_rfl
@[go_sem] theorem fd237_7 : fdI Try.prog 237 7 = some 32 := by kernel_rfl
@[go_sem] theorem fd237_8 : fdI Try.prog 237 8 = some 33 := by kernel_rfl
@[go_sem] theorem fd237_9 : fdI Try.prog 237 9 = some 34 := by kernel_rfl
@[go_sem] theorem fd237_10 : fdI Try.prog 237 10 = some 35 := by kernel_rfl
@[go_sem] theorem fd237_11 : fdI Try.prog 237 11 = some 36 := by kernel_rfl
@[go_sem] theorem fd237_12 : fdI Try.prog 237 12 = some 37 := by kernel_rfl
@[go_sem] theorem fd237_13 : fdI Try.prog 237 13 = some 38 := by kernel_rfl
@[go_sem] theorem fd244_0 : fdI Try.prog 244 0 = some 0 := by kernel_rfl
@[go_sem] theorem fd244_1 : fdI Try.prog 244 1 = some 1 := by kernel_rfl
@[go_sem] theorem fd244_2 : fdI Try.prog 244 2 = some 2 := by kernel_rfl
@[go_sem] theorem fd244_3 : fdI Try.prog 244 3 = some 3 := by kernel_rfl
@[go_sem] theorem fd244_4 : fdI Try.prog 244 4 = some 4 := by kernel_rfl
@[go_sem] theorem fd244_5 : fdI Try.prog 244 5 = some 5 := by kernel_rfl
@[go_sem] theorem fd244_6 : fdI Try.prog 244 6 = some 6 := by kernel_rfl
@[go_sem] theorem fd244_7 : fdI Try.prog 244 7 = some 7 := by kernel_rfl
@[go_sem] theorem fd244_8 : fdI Try.prog 244 8 = some 8 := by kernel_rfl
@[go_sem] theorem fd270_0 : fdI Try.prog 270 0 = some 0 := by kernel_rfl
@[go_sem] theorem fd270_1 : fdI Try.prog 270 1 = some 1 := by kernel_rfl
@[go_sem] theorem fd270_2 : fdI Try.prog 270 2 = some 2 := by kernel_rfl
@[go_sem] theorem fd270_3 : fdI Try.prog 270 3 = some 3 := by kernel_rfl
@[go_sem] theorem fd270_4 : fdI Try.prog 270 4 = some 4 := by kernel_rfl
@[go_sem] theorem fd270_5 : fdI Try.prog 270 5 = some 5 := by kernel_rfl
@[go_sem] theorem fd270_6 : fdI Try.prog 270 6 = some 6 := by kernel_rfl
@[go_sem] theorem fd270_7 : fdI Try.prog 270 7 = some 7 := by kernel_rfl
@[go_sem] theorem fd270_8 : fdI Try.prog 270 8 = some 8 := by kernel_rfl
@[go_sem] theorem fd276_0 : fdI Try.prog 276 0 = some 0 := by kernel_rfl
@[go_sem] theorem fd276_1 : fdI Try.prog 276 1 = some 1 := by kernel_rfl
@[go_sem] theorem zr3 : zrI Try.prog 3 = some [.d (.int .i64 0)] := by kernel_rfl
@[go_sem] theorem zr5 : zrI Try.prog 5 = some [.d (.int .u8 0)] := by kernel_rfl
@[go_sem] theorem zr9 : zrI Try.prog 9 = some [.d (.str [])] := by kernel_rfl
@[go_sem] theorem zr26 : zrI Try.prog 26 = some [.d (.int .i64 0), .d (.str [])] := by kernel_rfl
@[go_sem] theorem zr48 : zrI Try.prog 48 = some [.nils 1, .d (.int .i64 0)] := by kernel_rfl
@[go_sem] theorem zr63 : zrI Try.prog 63 = some [.d (.int .i64 0), .nils 2] := by kernel_rfl
@[go_sem] theorem zr88 : zrI Try.prog 88 = some [.d (.int .i64 0), .d (.bool false), .d (.str []), .d (.str []), .d (.bool false), .d (.bool false), .d (.bool false)] := by kernel_rfl
@[go_sem] theorem zr91 : zrI Try.prog 91 = some [.d (.int .i64 0), .d (.int .i64 0), .d (.int .i64 0), .d (.int .i64 0), .d (.int .i64 0), .d (.int .i64 0), .d (.int .i64 0), .d (.int .i64 0)] := by kernel_rfl
@[go_sem] theorem zr93 : zrI Try.prog 93 = some [.d (.int .i64 0), .d (.int .i64 0), .d (.int .i64 0), .d (.int .i64 0)] := by kernel_rfl
@[go_sem] theorem zr94 : zrI Try.prog 94 = some [.d (.int .i64 0), .d (.int .i64 0), .d (.int .i64 0), .d (.int .i64 0), .d (.int .i64 0), .d (.int .i64 0)] := by kernel_rfl
@[go_sem] theorem zr95 : zrI Try.prog 95 = some [.d (.int .i64 0), .d (.int .i64 0), .d (.int .i64 0)] := by kernel_rfl
@[go_sem] theorem zr96 : zrI Try.prog 96 = some [.d (.int .i64 0), .d (.int .i64 0), .d (.int .i64 0), .d (.int .i64 0)] := by kernel_rfl
@[go_sem] theorem zr99 : zrI Try.prog 99 = some [.d (.bool false), .d (.int .i64 0), .d (.int .i64 0), .d (.int .i64 0), .d (.int .i64 0), .d (.int .i64 0), .d (.int .i64 0), .d (.int .i64 0), .d (.int .i64 0), .d (.int .i64 0), .d (.int .i64 0), .d (.int .i64 0), .d (.int .i64 0), .d (.int .i64 0), .d (.int .i64 0), .d (.int .i64 0), .d (.int .i64 0), .nils 39, .d (.int .i64 0), .d (.int .i64 0), .d (.int .i64 0), .d (.int .i64 0), .d (.int .i64 0), .d (.int .i64 0), .d (.int .i64 0), .d (.int .i64 0), .d (.int .i64 0), .d (.int .i64 0), .d (.int .i64 0), .d (.int .i64 0), .d (.int .i64 0), .d (.int .i64 0), .d (.int .i64 0), .d (.int .i64 0), .d (.int .i64 0), .d (.int .i64 0), .d (.int .i64 0), .d (.int .i64 0), .d (.int .i64 0), .d (.int .i64 0), .d (.int .i64 0), .d (.int .i64 0), .d (.bool false), .d (.bool false), .d (.bool false), .d (.int .i64 0), .d (.int .i64 0), .nils 2, .d (.int .i64 0), .d (.int .i64 0)] := by kernel_rfl
@[go_sem] theorem zr102 : zrI Try.prog 102 = some [.d (.bool false), .d (.int .i64 0), .d (.int .i64 0), .d (.int .i64 0), .d (.int .i64 0), .d (.int .i64 0), .d (.int .i64 0), .d (.int .i64 0), .d (.int .i64 0), .d (.int .i64 0), .d (.int .i64 0), .d (.int .i64 0), .d (.int .i64 0), .d (.int .i64 0), .d (.int .i64 0), .d (.int .i64 0), .d (.int .i64 0), .nils 39, .d (.int .i64 0), .d (.int .i64 0), .d (.int .i64 0), .d (.int .i64 0), .d (.int .i64 0), .d (.int .i64 0), .d (.int .i64 0), .d (.int .i64 0), .d (.int .i64 0), .d (.int .i64 0), .d (.int .i64 0), .d (.int .i64 0), .d (.int .i64 0), .d (.int .i64 0), .d (.int .i64 0), .d (.int .i64 0), .d (.int .i64 0), .d (.int .i64 0), .d (.int .i64 0), .d (.int .i64 0), .d (.int .i64 0), .d (.int .i64 0), .d (.int .i64 0), .d (.int .i64 0), .d (.bool false), .d (.bool false), .d (.bool false), .d (.int .i64 0), .d (.int .i64 0), .nils 2, .d (.int .i64 0), .d (.int .i64 0), .d (.bool false), .d (.int .i64 0), .d (.int .i64 0), .d (.int .i64 0), .d (.int .i64 0), .d (.int .i64 0), .d (.int .i64 0), .d (.int .i64 0), .d (.int .i64 0), .d (.int .i64 0), .d (.int .i64 0), .d (.int .i64 0), .d (.int .i64 0), .d (.int .i64 0), .d (.int .i64 0), .d (.int .i64 0), .d (.int .i64 0), .nils 39, .d (.int .i64 0), .d (.int .i64 0), .d (.int .i64 0), .d (.int .i64 0), .d (.int .i64 0), .d (.int .i64 0), .d (.int .i64 0), .d (.int .i64 0), .d (.int .i64 0), .d (.int .i64 0), .d (.int .i64 0), .d (.int .i64 0), .d (.int .i64 0), .d (.int .i64 0), .d (.int .i64 0), .d (.int .i64 0), .d (.int .i64 0), .d (.int .i64 0), .d (.int .i64 0), .d (.int .i64 0), .d (.int .i64 0), .d (.int .i64 0), .d (.int .i64 0), .d (.int .i64 0), .d (.bool false), .d (.bool false), .d (.bool false), .d (.int .i64 0), .d (.int .i64 0), .nils 2, .d (.int .i64 0), .d (.int .i64 0), .nils 2, .nils 2, .nils 7] := by kernel_rfl
@[go_sem] theorem zr110 : zrI Try.prog 110 = some [.d (.int .i64 0), .nils 9] := by kernel_rfl
@[go_sem] theorem zr142 : zrI Try.prog 142 = some [.d (.int .i64 0), .d (.int .i64 0)] := by kernel_rfl
@[go_sem] theorem zr152 : zrI Try.prog 152 = some [.d (.int .i64 0), .d (.str [])] := by kernel_rfl
@[go_sem] theorem zr190 : zrI Try.prog 190 = some [.nils 1, .d (.int .i64 0), .d (.int .i64 0)] := by kernel_rfl
@[go_sem] theorem zr200 : zrI Try.prog 200 = some [.d (.int .i64 0), .d (.str [])] := by kernel_rfl
@[go_sem] theorem zr207 : zrI Try.prog 207 = some [.d (.int .i64 0), .d (.str [])] := by kernel_rfl
@[go_sem] theorem zr209 : zrI Try.prog 209 = some [.d (.int .i64 0), .d (.bool false), .d (.str []), .d (.str []), .d (.bool false), .d (.bool false), .d (.bool false)] := by kernel_rfl
@[go_sem] theorem zr225 : zrI Try.prog 225 = some [.d (.int .i64 0), .d (.int .i64 0), .d (.int .i64 0), .d (.int .i64 0), .d (.int .i64 0), .nils 1, .nils 2, .nils 2, .nils 2, .d (.int .i64 0), .d (.int .i64 0), .d (.int .i64 0), .d (.int .i64 0), .d (.int .i64 0), .d (.int .i64 0), .d (.int .i64 0), .d (.int .i64 0), .d (.int .i64 0), .d (.int .i64 0), .nils 2, .d (.int .i64 0), .d (.int .i64 0), .d (.int .i64 0), .d (.int .i64 0), .d (.int .i64 0), .d (.int .i64 0), .d (.int .i64 0), .d (.int .i64 0), .d (.int .i64 0), .d (.int .i64 0), .d (.bool false), .d (.bool false), .d (.bool false), .d (.bool false), .d (.bool false), .d (.bool false), .d (.bool false), .d (.int .i64 0), .d (.bool false)] := by kernel_rfl
@[go_sem] theorem zr229 : zrI Try.prog 229 = some [.d (.int .i64 0), .nils 9] := by kernel_rfl
@[go_sem] theorem zr230 : zrI Try.prog 230 = some [.d (.int .i64 0), .d (.int .i64 0), .d (.int .i64 0), .nils 1] := by kernel_rfl
@[go_sem] theorem zr232 : zrI Try.prog 232 = some [.d (.int .i64 0), .d (.int .i64 0), .d (.int .i64 0), .d (.int .i64 0), .nils 1, .nils 2, .nils 2, .nils 2, .d (.int .i64 0), .d (.int .i64 0), .d (.int .i64 0), .d (.int .i64 0)] := by kernel_rfl
@[go_sem] theorem zr234 : zrI Try.prog 234 = some [.d (.int .i64 0), .d (.int .i64 0), .nils 2, .d (.int .i64 0), .d (.int .i64 0), .d (.int .i64 0)] := by kernel_rfl
@[go_sem] theorem zr235 : zrI Try.prog 235 = some [.d (.int .i64 0), .d (.bool false)] := by kernel_rfl
@[go_sem] theorem zr237 : zrI Try.prog 237 = some [.d (.int .i64 0), .d (.int .i64 0), .d (.int .i64 0), .d (.int .i64 0), .d (.int .i64 0), .nils 1, .nils 2, .nils 2, .nils 2, .d (.int .i64 0), .d (.int .i64 0), .d (.int .i64 0), .d (.int .i64 0), .d (.int .i64 0), .d (.int .i64 0), .d (.int .i64 0), .d (.int .i64 0), .d (.int .i64 0), .d (.int .i64 0), .nils 2, .d (.int .i64 0), .d (.int .i64 0), .d (.int .i64 0), .d (.int .i64 0), .d (.int .i64 0), .d (.int .i64 0), .d (.int .i64 0), .d (.int .i64 0), .d (.int .i64 0), .d (.int .i64 0), .d (.bool false), .d (.bool false), .d (.bool false), .d (.bool false), .d (.bool false), .d (.bool false), .d (.bool false), .d (.int .i64 0), .d (.bool false)] := by kernel_rfl
@[go_sem] theorem zr244 : zrI Try.prog 244 = some [.d (.int .i64 0), .d (.int .i64 0), .d (.int .i64 0), .d (.str []), .d (.bool false), .d (.int .i64 0), .d (.int .i64 0), .d (.int .i64 0), .d (.bool false)] := by kernel_rfl
@[go_sem] theorem zr270 : zrI Try.prog 270 = some [.d (.int .i64 0), .d (.int .i64 0), .d (.int .i64 0), .d (.str []), .d (.bool false), .d (.int .i64 0), .d (.int .i64 0), .d (.int .i64 0), .d (.bool false)] := by kernel_rfl
@[go_sem] theorem zr276 : zrI Try.prog 276 = some [.d (.int .i64 0), .d (.int .i64 0)] := by kernel_rfl
@[go_sem] theorem pl26 : plI Try.prog 26 = some fun j => ([(0, 1), (1, 1)] : List (Nat × Nat))[j]? := by kernel_rfl
@[go_sem] theorem pl48 : plI Try.prog 48 = some fun j => ([(0, 1), (1, 1)] : List (Nat × Nat))[j]? := by kernel_rfl
@[go_sem] theorem pl63 : plI Try.prog 63 = some fun j => ([(0, 1), (1, 1)] : List (Nat × Nat))[j]? := by kernel_rfl
@[go_sem] theorem pl88 : plI Try.prog 88 = some fun j => ([(0, 1), (1, 1), (2, 1), (3, 1), (4, 1), (5, 1), (6, 1)] : List (Nat × Nat))[j]? := by kernel_rfl
@[go_sem] theorem pl91 : plI Try.prog 91 = some fun j => ([(0, 1), (1, 1), (2, 1), (3, 1), (4, 1), (5, 1), (6, 1), (7, 1)] : List (Nat × Nat))[j]? := by kernel_rfl
@[go_sem] theorem pl93 : plI Try.prog 93 = some fun j => ([(0, 1), (1, 1), (2, 1), (3, 1)] : List (Nat × Nat))[j]? := by kernel_rfl
@[go_sem] theorem pl94 : plI Try.prog 94 = some fun j => ([(0, 1), (1, 1), (2, 1), (3, 1), (4, 1), (5, 1)] : List (Nat × Nat))[j]? := by kernel_rfl
@[go_sem] theorem pl95 : plI Try.prog 95 = some fun j => ([(0, 1), (1, 1), (2, 1)] : List (Nat × Nat))[j]? := by kernel_rfl
@[go_sem] theorem pl96 : plI Try.prog 96 = some fun j => ([(0, 1), (1, 1), (2, 1), (3, 1)] : List (Nat × Nat))[j]? := by kernel_rfl
@[go_sem] theorem pl99 : plI Try.prog 99 = some fun j => ([(0, 1), (1, 8), (9, 8), (17, 1), (18, 4), (22, 6), (28, 3), (31, 3), (34, 4), (38, 4), (42, 1), (43, 1), (44, 1), (45, 1), (46, 1), (47, 1), (48, 1), (49, 1)] : List (Nat × Nat))[j]? := by kernel_rfl
@[go_sem] theorem pl102 : plI Try.prog 102 = some fun j => ([(0, 50), (50, 50), (100, 1), (101, 1), (102, 1)] : List (Nat × Nat))[j]? := by kernel_rfl
@[go_sem] theorem pl110 : plI Try.prog 110 = some fun j => ([(0, 1), (1, 1)] : List (Nat × Nat))[j]? := by kernel_rfl
@[go_sem] theorem pl142 : plI Try.prog 142 = some fun j => ([(0, 1), (1, 1)] : List (Nat × Nat))[j]? := by kernel_rfl
@[go_sem] theorem pl152 : plI Try.prog 152 = some fun j => ([(0, 1), (1, 1)] : List (Nat × Nat))[j]? := by kernel_rfl
@[go_sem] theorem pl190 : plI Try.prog 190 = some fun j => ([(0, 1), (1, 1), (2, 1)] : List (Nat × Nat))[j]? := by kernel_rfl
@[go_sem] theorem pl200 : plI Try.prog 200 = some fun j => ([(0, 1), (1, 1)] : List (Nat × Nat))[j]? := by kernel_rfl
@[go_sem] theorem pl207 : plI Try.prog 207 = some fun j => ([(0, 1), (1, 1)] : List (Nat × Nat))[j]? := by kernel_rfl
@[go_sem] theorem pl209 : plI Try.prog 209 = some fun j => ([(0, 1), (1, 1), (2, 1), (3, 1), (4, 1), (5, 1), (6, 1)] : List (Nat × Nat))[j]? := by kernel_rfl
@[go_sem] theorem pl225 : plI Try.prog 225 = some fun j => ([(0, 1), (1, 12), (13, 4), (17, 6), (23, 6), (29, 2), (31, 1), (32, 1), (33, 1), (34, 1), (35, 1), (36, 1), (37, 1), (38, 1)] : List (Nat × Nat))[j]? := by kernel_rfl
@[go_sem] theorem pl229 : plI Try.prog 229 = some fun j => ([(0, 1), (1, 1)] : List (Nat × Nat))[j]? := by kernel_rfl
@[go_sem] theorem pl230 : plI Try.prog 230 = some fun j => ([(0, 1), (1, 1), (2, 1), (3, 1)] : List (Nat × Nat))[j]? := by kernel_rfl
@[go_sem] theorem pl232 : plI Try.prog 232 = some fun j => ([(0, 1), (1, 4), (5, 1), (6, 1), (7, 1), (8, 1), (9, 1), (10, 1), (11, 1)] : List (Nat × Nat))[j]? := by kernel_rfl
@[go_sem] theorem pl234 : plI Try.prog 234 = some fun j => ([(0, 1), (1, 2), (3, 1), (4, 1), (5, 1)] : List (Nat × Nat))[j]? := by kernel_rfl
@[go_sem] theorem pl235 : plI Try.prog 235 = some fun j => ([(0, 1), (1, 1)] : List (Nat × Nat))[j]? := by kernel_rfl
@[go_sem] theorem pl237 : plI Try.prog 237 = some fun j => ([(0, 1), (1, 12), (13, 4), (17, 6), (23, 6), (29, 2), (31, 1), (32, 1), (33, 1), (34, 1), (35, 1), (36, 1), (37, 1), (38, 1)] : List (Nat × Nat))[j]? := by kernel_rfl
@[go_sem] theorem pl244 : plI Try.prog 244 = some fun j => ([(0, 1), (1, 1), (2, 1), (3, 1), (4, 1), (5, 1), (6, 1), (7, 1), (8, 1)] : List (Nat × Nat))[j]? := by kernel_rfl
@[go_sem] theorem pl270 : plI Try.prog 270 = some fun j => ([(0, 1), (1, 1), (2, 1), (3, 1), (4, 1), (5, 1), (6, 1), (7, 1), (8, 1)] : List (Nat × Nat))[j]? := by kernel_rfl
@[go_sem] theorem pl276 : plI Try.prog 276 = some fun j => ([(0, 1), (1, 1)] : List (Nat × Nat))[j]? := by kernel_rfl
@[go_sem] theorem eq26 : EqOK Try.prog 26 [.i .i64, .s] = True := eq_true (EqOK_of (by kernel_rfl) (by kernel_rfl) (by kernel_rfl) (by kernel_rfl) (by kernel_rfl))

end Gv
