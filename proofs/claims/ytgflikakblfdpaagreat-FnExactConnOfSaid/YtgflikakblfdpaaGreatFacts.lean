/-
  What the types of this program are. Printed by a program of ours.
-/
import Derived.Test.YtgflikakblfdpaaGreatGvEval
import Derived.Test.YtgflikakblfdpaaGreatChecked
namespace Gv
open Go Go.Proofs

@[go_sem] theorem ty3 : tyI Tryz.prog 3 = some (1, false) := by kernel_rfl
@[go_sem] theorem el3 : elI Tryz.prog 3 = none := by kernel_rfl
@[go_sem] theorem st3 : isStrI Tryz.prog 3 = false := by kernel_rfl
@[go_sem] theorem bo3 : isBoolI Tryz.prog 3 = false := by kernel_rfl
@[go_sem] theorem in3 : intI Tryz.prog 3 = some .i64 := by kernel_rfl
@[go_sem] theorem ty4 : tyI Tryz.prog 4 = some (1, false) := by kernel_rfl
@[go_sem] theorem el4 : elI Tryz.prog 4 = none := by kernel_rfl
@[go_sem] theorem st4 : isStrI Tryz.prog 4 = false := by kernel_rfl
@[go_sem] theorem bo4 : isBoolI Tryz.prog 4 = true := by kernel_rfl
@[go_sem] theorem in4 : intI Tryz.prog 4 = none := by kernel_rfl
@[go_sem] theorem ty5 : tyI Tryz.prog 5 = some (1, false) := by kernel_rfl
@[go_sem] theorem el5 : elI Tryz.prog 5 = none := by kernel_rfl
@[go_sem] theorem st5 : isStrI Tryz.prog 5 = false := by kernel_rfl
@[go_sem] theorem bo5 : isBoolI Tryz.prog 5 = false := by kernel_rfl
@[go_sem] theorem in5 : intI Tryz.prog 5 = some .u8 := by kernel_rfl
@[go_sem] theorem ty9 : tyI Tryz.prog 9 = some (1, false) := by kernel_rfl
@[go_sem] theorem el9 : elI Tryz.prog 9 = none := by kernel_rfl
@[go_sem] theorem st9 : isStrI Tryz.prog 9 = true := by kernel_rfl
@[go_sem] theorem bo9 : isBoolI Tryz.prog 9 = false := by kernel_rfl
@[go_sem] theorem in9 : intI Tryz.prog 9 = none := by kernel_rfl
@[go_sem] theorem ty23 : tyI Tryz.prog 23 = some (8, true) := by kernel_rfl
@[go_sem] theorem el23 : elI Tryz.prog 23 = none := by kernel_rfl
@[go_sem] theorem st23 : isStrI Tryz.prog 23 = false := by kernel_rfl
@[go_sem] theorem bo23 : isBoolI Tryz.prog 23 = false := by kernel_rfl
@[go_sem] theorem in23 : intI Tryz.prog 23 = none := by kernel_rfl
@[go_sem] theorem ty24 : tyI Tryz.prog 24 = some (1, false) := by kernel_rfl
@[go_sem] theorem el24 : elI Tryz.prog 24 = some (147, 39, 352) := by kernel_rfl
@[go_sem] theorem st24 : isStrI Tryz.prog 24 = false := by kernel_rfl
@[go_sem] theorem bo24 : isBoolI Tryz.prog 24 = false := by kernel_rfl
@[go_sem] theorem in24 : intI Tryz.prog 24 = none := by kernel_rfl
@[go_sem] theorem ty26 : tyI Tryz.prog 26 = some (4, true) := by kernel_rfl
@[go_sem] theorem el26 : elI Tryz.prog 26 = none := by kernel_rfl
@[go_sem] theorem st26 : isStrI Tryz.prog 26 = false := by kernel_rfl
@[go_sem] theorem bo26 : isBoolI Tryz.prog 26 = false := by kernel_rfl
@[go_sem] theorem in26 : intI Tryz.prog 26 = none := by kernel_rfl
@[go_sem] theorem ty28 : tyI Tryz.prog 28 = some (6, true) := by kernel_rfl
@[go_sem] theorem el28 : elI Tryz.prog 28 = none := by kernel_rfl
@[go_sem] theorem st28 : isStrI Tryz.prog 28 = false := by kernel_rfl
@[go_sem] theorem bo28 : isBoolI Tryz.prog 28 = false := by kernel_rfl
@[go_sem] theorem in28 : intI Tryz.prog 28 = none := by kernel_rfl
@[go_sem] theorem ty30 : tyI Tryz.prog 30 = some (3, true) := by kernel_rfl
@[go_sem] theorem el30 : elI Tryz.prog 30 = none := by kernel_rfl
@[go_sem] theorem st30 : isStrI Tryz.prog 30 = false := by kernel_rfl
@[go_sem] theorem bo30 : isBoolI Tryz.prog 30 = false := by kernel_rfl
@[go_sem] theorem in30 : intI Tryz.prog 30 = none := by kernel_rfl
@[go_sem] theorem ty32 : tyI Tryz.prog 32 = some (4, true) := by kernel_rfl
@[go_sem] theorem el32 : elI Tryz.prog 32 = none := by kernel_rfl
@[go_sem] theorem st32 : isStrI Tryz.prog 32 = false := by kernel_rfl
@[go_sem] theorem bo32 : isBoolI Tryz.prog 32 = false := by kernel_rfl
@[go_sem] theorem in32 : intI Tryz.prog 32 = none := by kernel_rfl
@[go_sem] theorem ty33 : tyI Tryz.prog 33 = some (1, false) := by kernel_rfl
@[go_sem] theorem el33 : elI Tryz.prog 33 = some (151, 2, 32) := by kernel_rfl
@[go_sem] theorem st33 : isStrI Tryz.prog 33 = false := by kernel_rfl
@[go_sem] theorem bo33 : isBoolI Tryz.prog 33 = false := by kernel_rfl
@[go_sem] theorem in33 : intI Tryz.prog 33 = none := by kernel_rfl
@[go_sem] theorem ty35 : tyI Tryz.prog 35 = some (50, true) := by kernel_rfl
@[go_sem] theorem el35 : elI Tryz.prog 35 = none := by kernel_rfl
@[go_sem] theorem st35 : isStrI Tryz.prog 35 = false := by kernel_rfl
@[go_sem] theorem bo35 : isBoolI Tryz.prog 35 = false := by kernel_rfl
@[go_sem] theorem in35 : intI Tryz.prog 35 = none := by kernel_rfl
@[go_sem] theorem ty36 : tyI Tryz.prog 36 = some (1, false) := by kernel_rfl
@[go_sem] theorem el36 : elI Tryz.prog 36 = some (90, 2, 24) := by kernel_rfl
@[go_sem] theorem st36 : isStrI Tryz.prog 36 = false := by kernel_rfl
@[go_sem] theorem bo36 : isBoolI Tryz.prog 36 = false := by kernel_rfl
@[go_sem] theorem in36 : intI Tryz.prog 36 = none := by kernel_rfl
@[go_sem] theorem ty37 : tyI Tryz.prog 37 = some (1, false) := by kernel_rfl
@[go_sem] theorem el37 : elI Tryz.prog 37 = some (92, 7, 56) := by kernel_rfl
@[go_sem] theorem st37 : isStrI Tryz.prog 37 = false := by kernel_rfl
@[go_sem] theorem bo37 : isBoolI Tryz.prog 37 = false := by kernel_rfl
@[go_sem] theorem in37 : intI Tryz.prog 37 = none := by kernel_rfl
@[go_sem] theorem ty39 : tyI Tryz.prog 39 = some (103, true) := by kernel_rfl
@[go_sem] theorem el39 : elI Tryz.prog 39 = none := by kernel_rfl
@[go_sem] theorem st39 : isStrI Tryz.prog 39 = false := by kernel_rfl
@[go_sem] theorem bo39 : isBoolI Tryz.prog 39 = false := by kernel_rfl
@[go_sem] theorem in39 : intI Tryz.prog 39 = none := by kernel_rfl
@[go_sem] theorem ty42 : tyI Tryz.prog 42 = some (8, true) := by kernel_rfl
@[go_sem] theorem el42 : elI Tryz.prog 42 = none := by kernel_rfl
@[go_sem] theorem st42 : isStrI Tryz.prog 42 = false := by kernel_rfl
@[go_sem] theorem bo42 : isBoolI Tryz.prog 42 = false := by kernel_rfl
@[go_sem] theorem in42 : intI Tryz.prog 42 = none := by kernel_rfl
@[go_sem] theorem ty43 : tyI Tryz.prog 43 = some (1, false) := by kernel_rfl
@[go_sem] theorem el43 : elI Tryz.prog 43 = some (124, 39, 352) := by kernel_rfl
@[go_sem] theorem st43 : isStrI Tryz.prog 43 = false := by kernel_rfl
@[go_sem] theorem bo43 : isBoolI Tryz.prog 43 = false := by kernel_rfl
@[go_sem] theorem in43 : intI Tryz.prog 43 = none := by kernel_rfl
@[go_sem] theorem ty44 : tyI Tryz.prog 44 = some (4, true) := by kernel_rfl
@[go_sem] theorem el44 : elI Tryz.prog 44 = none := by kernel_rfl
@[go_sem] theorem st44 : isStrI Tryz.prog 44 = false := by kernel_rfl
@[go_sem] theorem bo44 : isBoolI Tryz.prog 44 = false := by kernel_rfl
@[go_sem] theorem in44 : intI Tryz.prog 44 = none := by kernel_rfl
@[go_sem] theorem ty45 : tyI Tryz.prog 45 = some (6, true) := by kernel_rfl
@[go_sem] theorem el45 : elI Tryz.prog 45 = none := by kernel_rfl
@[go_sem] theorem st45 : isStrI Tryz.prog 45 = false := by kernel_rfl
@[go_sem] theorem bo45 : isBoolI Tryz.prog 45 = false := by kernel_rfl
@[go_sem] theorem in45 : intI Tryz.prog 45 = none := by kernel_rfl
@[go_sem] theorem ty46 : tyI Tryz.prog 46 = some (3, true) := by kernel_rfl
@[go_sem] theorem el46 : elI Tryz.prog 46 = none := by kernel_rfl
@[go_sem] theorem st46 : isStrI Tryz.prog 46 = false := by kernel_rfl
@[go_sem] theorem bo46 : isBoolI Tryz.prog 46 = false := by kernel_rfl
@[go_sem] theorem in46 : intI Tryz.prog 46 = none := by kernel_rfl
@[go_sem] theorem ty47 : tyI Tryz.prog 47 = some (4, true) := by kernel_rfl
@[go_sem] theorem el47 : elI Tryz.prog 47 = none := by kernel_rfl
@[go_sem] theorem st47 : isStrI Tryz.prog 47 = false := by kernel_rfl
@[go_sem] theorem bo47 : isBoolI Tryz.prog 47 = false := by kernel_rfl
@[go_sem] theorem in47 : intI Tryz.prog 47 = none := by kernel_rfl
@[go_sem] theorem ty48 : tyI Tryz.prog 48 = some (1, false) := by kernel_rfl
@[go_sem] theorem el48 : elI Tryz.prog 48 = some (106, 2, 32) := by kernel_rfl
@[go_sem] theorem st48 : isStrI Tryz.prog 48 = false := by kernel_rfl
@[go_sem] theorem bo48 : isBoolI Tryz.prog 48 = false := by kernel_rfl
@[go_sem] theorem in48 : intI Tryz.prog 48 = none := by kernel_rfl
@[go_sem] theorem ty50 : tyI Tryz.prog 50 = some (50, true) := by kernel_rfl
@[go_sem] theorem el50 : elI Tryz.prog 50 = none := by kernel_rfl
@[go_sem] theorem st50 : isStrI Tryz.prog 50 = false := by kernel_rfl
@[go_sem] theorem bo50 : isBoolI Tryz.prog 50 = false := by kernel_rfl
@[go_sem] theorem in50 : intI Tryz.prog 50 = none := by kernel_rfl
@[go_sem] theorem ty51 : tyI Tryz.prog 51 = some (1, false) := by kernel_rfl
@[go_sem] theorem el51 : elI Tryz.prog 51 = some (93, 2, 24) := by kernel_rfl
@[go_sem] theorem st51 : isStrI Tryz.prog 51 = false := by kernel_rfl
@[go_sem] theorem bo51 : isBoolI Tryz.prog 51 = false := by kernel_rfl
@[go_sem] theorem in51 : intI Tryz.prog 51 = none := by kernel_rfl
@[go_sem] theorem ty52 : tyI Tryz.prog 52 = some (1, false) := by kernel_rfl
@[go_sem] theorem el52 : elI Tryz.prog 52 = some (67, 7, 56) := by kernel_rfl
@[go_sem] theorem st52 : isStrI Tryz.prog 52 = false := by kernel_rfl
@[go_sem] theorem bo52 : isBoolI Tryz.prog 52 = false := by kernel_rfl
@[go_sem] theorem in52 : intI Tryz.prog 52 = none := by kernel_rfl
@[go_sem] theorem ty54 : tyI Tryz.prog 54 = some (103, true) := by kernel_rfl
@[go_sem] theorem el54 : elI Tryz.prog 54 = none := by kernel_rfl
@[go_sem] theorem st54 : isStrI Tryz.prog 54 = false := by kernel_rfl
@[go_sem] theorem bo54 : isBoolI Tryz.prog 54 = false := by kernel_rfl
@[go_sem] theorem in54 : intI Tryz.prog 54 = none := by kernel_rfl
@[go_sem] theorem ty67 : tyI Tryz.prog 67 = some (7, true) := by kernel_rfl
@[go_sem] theorem el67 : elI Tryz.prog 67 = none := by kernel_rfl
@[go_sem] theorem st67 : isStrI Tryz.prog 67 = false := by kernel_rfl
@[go_sem] theorem bo67 : isBoolI Tryz.prog 67 = false := by kernel_rfl
@[go_sem] theorem in67 : intI Tryz.prog 67 = none := by kernel_rfl
@[go_sem] theorem ty73 : tyI Tryz.prog 73 = some (1, false) := by kernel_rfl
@[go_sem] theorem ty90 : tyI Tryz.prog 90 = some (2, true) := by kernel_rfl
@[go_sem] theorem el90 : elI Tryz.prog 90 = none := by kernel_rfl
@[go_sem] theorem st90 : isStrI Tryz.prog 90 = false := by kernel_rfl
@[go_sem] theorem bo90 : isBoolI Tryz.prog 90 = false := by kernel_rfl
@[go_sem] theorem in90 : intI Tryz.prog 90 = none := by kernel_rfl
@[go_sem] theorem ty92 : tyI Tryz.prog 92 = some (7, true) := by kernel_rfl
@[go_sem] theorem el92 : elI Tryz.prog 92 = none := by kernel_rfl
@[go_sem] theorem st92 : isStrI Tryz.prog 92 = false := by kernel_rfl
@[go_sem] theorem bo92 : isBoolI Tryz.prog 92 = false := by kernel_rfl
@[go_sem] theorem in92 : intI Tryz.prog 92 = none := by kernel_rfl
@[go_sem] theorem ty93 : tyI Tryz.prog 93 = some (2, true) := by kernel_rfl
@[go_sem] theorem el93 : elI Tryz.prog 93 = none := by kernel_rfl
@[go_sem] theorem st93 : isStrI Tryz.prog 93 = false := by kernel_rfl
@[go_sem] theorem bo93 : isBoolI Tryz.prog 93 = false := by kernel_rfl
@[go_sem] theorem in93 : intI Tryz.prog 93 = none := by kernel_rfl
@[go_sem] theorem ty104 : tyI Tryz.prog 104 = some (1, false) := by kernel_rfl
@[go_sem] theorem el104 : elI Tryz.prog 104 = some (153, 9, 80) := by kernel_rfl
@[go_sem] theorem st104 : isStrI Tryz.prog 104 = false := by kernel_rfl
@[go_sem] theorem bo104 : isBoolI Tryz.prog 104 = false := by kernel_rfl
@[go_sem] theorem in104 : intI Tryz.prog 104 = none := by kernel_rfl
@[go_sem] theorem ty106 : tyI Tryz.prog 106 = some (2, true) := by kernel_rfl
@[go_sem] theorem el106 : elI Tryz.prog 106 = none := by kernel_rfl
@[go_sem] theorem st106 : isStrI Tryz.prog 106 = false := by kernel_rfl
@[go_sem] theorem bo106 : isBoolI Tryz.prog 106 = false := by kernel_rfl
@[go_sem] theorem in106 : intI Tryz.prog 106 = none := by kernel_rfl
@[go_sem] theorem ty110 : tyI Tryz.prog 110 = some (1, false) := by kernel_rfl
@[go_sem] theorem el110 : elI Tryz.prog 110 = some (3, 1, 8) := by kernel_rfl
@[go_sem] theorem st110 : isStrI Tryz.prog 110 = false := by kernel_rfl
@[go_sem] theorem bo110 : isBoolI Tryz.prog 110 = false := by kernel_rfl
@[go_sem] theorem in110 : intI Tryz.prog 110 = none := by kernel_rfl
@[go_sem] theorem ty112 : tyI Tryz.prog 112 = some (4, true) := by kernel_rfl
@[go_sem] theorem el112 : elI Tryz.prog 112 = none := by kernel_rfl
@[go_sem] theorem st112 : isStrI Tryz.prog 112 = false := by kernel_rfl
@[go_sem] theorem bo112 : isBoolI Tryz.prog 112 = false := by kernel_rfl
@[go_sem] theorem in112 : intI Tryz.prog 112 = none := by kernel_rfl
@[go_sem] theorem ty113 : tyI Tryz.prog 113 = some (1, false) := by kernel_rfl
@[go_sem] theorem el113 : elI Tryz.prog 113 = some (165, 2, 16) := by kernel_rfl
@[go_sem] theorem st113 : isStrI Tryz.prog 113 = false := by kernel_rfl
@[go_sem] theorem bo113 : isBoolI Tryz.prog 113 = false := by kernel_rfl
@[go_sem] theorem in113 : intI Tryz.prog 113 = none := by kernel_rfl
@[go_sem] theorem ty115 : tyI Tryz.prog 115 = some (12, true) := by kernel_rfl
@[go_sem] theorem el115 : elI Tryz.prog 115 = none := by kernel_rfl
@[go_sem] theorem st115 : isStrI Tryz.prog 115 = false := by kernel_rfl
@[go_sem] theorem bo115 : isBoolI Tryz.prog 115 = false := by kernel_rfl
@[go_sem] theorem in115 : intI Tryz.prog 115 = none := by kernel_rfl
@[go_sem] theorem ty116 : tyI Tryz.prog 116 = some (1, false) := by kernel_rfl
@[go_sem] theorem el116 : elI Tryz.prog 116 = some (167, 2, 24) := by kernel_rfl
@[go_sem] theorem st116 : isStrI Tryz.prog 116 = false := by kernel_rfl
@[go_sem] theorem bo116 : isBoolI Tryz.prog 116 = false := by kernel_rfl
@[go_sem] theorem in116 : intI Tryz.prog 116 = none := by kernel_rfl
@[go_sem] theorem ty118 : tyI Tryz.prog 118 = some (2, true) := by kernel_rfl
@[go_sem] theorem el118 : elI Tryz.prog 118 = none := by kernel_rfl
@[go_sem] theorem st118 : isStrI Tryz.prog 118 = false := by kernel_rfl
@[go_sem] theorem bo118 : isBoolI Tryz.prog 118 = false := by kernel_rfl
@[go_sem] theorem in118 : intI Tryz.prog 118 = none := by kernel_rfl
@[go_sem] theorem ty120 : tyI Tryz.prog 120 = some (6, true) := by kernel_rfl
@[go_sem] theorem el120 : elI Tryz.prog 120 = none := by kernel_rfl
@[go_sem] theorem st120 : isStrI Tryz.prog 120 = false := by kernel_rfl
@[go_sem] theorem bo120 : isBoolI Tryz.prog 120 = false := by kernel_rfl
@[go_sem] theorem in120 : intI Tryz.prog 120 = none := by kernel_rfl
@[go_sem] theorem ty122 : tyI Tryz.prog 122 = some (2, true) := by kernel_rfl
@[go_sem] theorem el122 : elI Tryz.prog 122 = none := by kernel_rfl
@[go_sem] theorem st122 : isStrI Tryz.prog 122 = false := by kernel_rfl
@[go_sem] theorem bo122 : isBoolI Tryz.prog 122 = false := by kernel_rfl
@[go_sem] theorem in122 : intI Tryz.prog 122 = none := by kernel_rfl
@[go_sem] theorem ty124 : tyI Tryz.prog 124 = some (39, true) := by kernel_rfl
@[go_sem] theorem el124 : elI Tryz.prog 124 = none := by kernel_rfl
@[go_sem] theorem st124 : isStrI Tryz.prog 124 = false := by kernel_rfl
@[go_sem] theorem bo124 : isBoolI Tryz.prog 124 = false := by kernel_rfl
@[go_sem] theorem in124 : intI Tryz.prog 124 = none := by kernel_rfl
@[go_sem] theorem ty128 : tyI Tryz.prog 128 = some (1, false) := by kernel_rfl
@[go_sem] theorem ty136 : tyI Tryz.prog 136 = some (4, true) := by kernel_rfl
@[go_sem] theorem el136 : elI Tryz.prog 136 = none := by kernel_rfl
@[go_sem] theorem st136 : isStrI Tryz.prog 136 = false := by kernel_rfl
@[go_sem] theorem bo136 : isBoolI Tryz.prog 136 = false := by kernel_rfl
@[go_sem] theorem in136 : intI Tryz.prog 136 = none := by kernel_rfl
@[go_sem] theorem ty137 : tyI Tryz.prog 137 = some (1, false) := by kernel_rfl
@[go_sem] theorem el137 : elI Tryz.prog 137 = some (199, 2, 16) := by kernel_rfl
@[go_sem] theorem st137 : isStrI Tryz.prog 137 = false := by kernel_rfl
@[go_sem] theorem bo137 : isBoolI Tryz.prog 137 = false := by kernel_rfl
@[go_sem] theorem in137 : intI Tryz.prog 137 = none := by kernel_rfl
@[go_sem] theorem ty139 : tyI Tryz.prog 139 = some (12, true) := by kernel_rfl
@[go_sem] theorem el139 : elI Tryz.prog 139 = none := by kernel_rfl
@[go_sem] theorem st139 : isStrI Tryz.prog 139 = false := by kernel_rfl
@[go_sem] theorem bo139 : isBoolI Tryz.prog 139 = false := by kernel_rfl
@[go_sem] theorem in139 : intI Tryz.prog 139 = none := by kernel_rfl
@[go_sem] theorem ty140 : tyI Tryz.prog 140 = some (1, false) := by kernel_rfl
@[go_sem] theorem el140 : elI Tryz.prog 140 = some (203, 2, 24) := by kernel_rfl
@[go_sem] theorem st140 : isStrI Tryz.prog 140 = false := by kernel_rfl
@[go_sem] theorem bo140 : isBoolI Tryz.prog 140 = false := by kernel_rfl
@[go_sem] theorem in140 : intI Tryz.prog 140 = none := by kernel_rfl
@[go_sem] theorem ty142 : tyI Tryz.prog 142 = some (2, true) := by kernel_rfl
@[go_sem] theorem el142 : elI Tryz.prog 142 = none := by kernel_rfl
@[go_sem] theorem st142 : isStrI Tryz.prog 142 = false := by kernel_rfl
@[go_sem] theorem bo142 : isBoolI Tryz.prog 142 = false := by kernel_rfl
@[go_sem] theorem in142 : intI Tryz.prog 142 = none := by kernel_rfl
@[go_sem] theorem ty144 : tyI Tryz.prog 144 = some (6, true) := by kernel_rfl
@[go_sem] theorem el144 : elI Tryz.prog 144 = none := by kernel_rfl
@[go_sem] theorem st144 : isStrI Tryz.prog 144 = false := by kernel_rfl
@[go_sem] theorem bo144 : isBoolI Tryz.prog 144 = false := by kernel_rfl
@[go_sem] theorem in144 : intI Tryz.prog 144 = none := by kernel_rfl
@[go_sem] theorem ty145 : tyI Tryz.prog 145 = some (2, true) := by kernel_rfl
@[go_sem] theorem el145 : elI Tryz.prog 145 = none := by kernel_rfl
@[go_sem] theorem st145 : isStrI Tryz.prog 145 = false := by kernel_rfl
@[go_sem] theorem bo145 : isBoolI Tryz.prog 145 = false := by kernel_rfl
@[go_sem] theorem in145 : intI Tryz.prog 145 = none := by kernel_rfl
@[go_sem] theorem ty147 : tyI Tryz.prog 147 = some (39, true) := by kernel_rfl
@[go_sem] theorem el147 : elI Tryz.prog 147 = none := by kernel_rfl
@[go_sem] theorem st147 : isStrI Tryz.prog 147 = false := by kernel_rfl
@[go_sem] theorem bo147 : isBoolI Tryz.prog 147 = false := by kernel_rfl
@[go_sem] theorem in147 : intI Tryz.prog 147 = none := by kernel_rfl
@[go_sem] theorem ty149 : tyI Tryz.prog 149 = some (1, false) := by kernel_rfl
@[go_sem] theorem el149 : elI Tryz.prog 149 = some (188, 9, 80) := by kernel_rfl
@[go_sem] theorem st149 : isStrI Tryz.prog 149 = false := by kernel_rfl
@[go_sem] theorem bo149 : isBoolI Tryz.prog 149 = false := by kernel_rfl
@[go_sem] theorem in149 : intI Tryz.prog 149 = none := by kernel_rfl
@[go_sem] theorem ty151 : tyI Tryz.prog 151 = some (2, true) := by kernel_rfl
@[go_sem] theorem el151 : elI Tryz.prog 151 = none := by kernel_rfl
@[go_sem] theorem st151 : isStrI Tryz.prog 151 = false := by kernel_rfl
@[go_sem] theorem bo151 : isBoolI Tryz.prog 151 = false := by kernel_rfl
@[go_sem] theorem in151 : intI Tryz.prog 151 = none := by kernel_rfl
@[go_sem] theorem ty153 : tyI Tryz.prog 153 = some (9, true) := by kernel_rfl
@[go_sem] theorem el153 : elI Tryz.prog 153 = none := by kernel_rfl
@[go_sem] theorem st153 : isStrI Tryz.prog 153 = false := by kernel_rfl
@[go_sem] theorem bo153 : isBoolI Tryz.prog 153 = false := by kernel_rfl
@[go_sem] theorem in153 : intI Tryz.prog 153 = none := by kernel_rfl
@[go_sem] theorem ty163 : tyI Tryz.prog 163 = some (1, false) := by kernel_rfl
@[go_sem] theorem el163 : elI Tryz.prog 163 = some (5, 1, 1) := by kernel_rfl
@[go_sem] theorem st163 : isStrI Tryz.prog 163 = false := by kernel_rfl
@[go_sem] theorem bo163 : isBoolI Tryz.prog 163 = false := by kernel_rfl
@[go_sem] theorem in163 : intI Tryz.prog 163 = none := by kernel_rfl
@[go_sem] theorem ty165 : tyI Tryz.prog 165 = some (2, true) := by kernel_rfl
@[go_sem] theorem el165 : elI Tryz.prog 165 = none := by kernel_rfl
@[go_sem] theorem st165 : isStrI Tryz.prog 165 = false := by kernel_rfl
@[go_sem] theorem bo165 : isBoolI Tryz.prog 165 = false := by kernel_rfl
@[go_sem] theorem in165 : intI Tryz.prog 165 = none := by kernel_rfl
@[go_sem] theorem ty167 : tyI Tryz.prog 167 = some (2, true) := by kernel_rfl
@[go_sem] theorem el167 : elI Tryz.prog 167 = none := by kernel_rfl
@[go_sem] theorem st167 : isStrI Tryz.prog 167 = false := by kernel_rfl
@[go_sem] theorem bo167 : isBoolI Tryz.prog 167 = false := by kernel_rfl
@[go_sem] theorem in167 : intI Tryz.prog 167 = none := by kernel_rfl
@[go_sem] theorem ty175 : tyI Tryz.prog 175 = some (7, true) := by kernel_rfl
@[go_sem] theorem el175 : elI Tryz.prog 175 = none := by kernel_rfl
@[go_sem] theorem ar175 : arI Tryz.prog 175 = some (7, 1) := by kernel_rfl
@[go_sem] theorem st175 : isStrI Tryz.prog 175 = false := by kernel_rfl
@[go_sem] theorem bo175 : isBoolI Tryz.prog 175 = false := by kernel_rfl
@[go_sem] theorem in175 : intI Tryz.prog 175 = none := by kernel_rfl
@[go_sem] theorem ty188 : tyI Tryz.prog 188 = some (9, true) := by kernel_rfl
@[go_sem] theorem el188 : elI Tryz.prog 188 = none := by kernel_rfl
@[go_sem] theorem st188 : isStrI Tryz.prog 188 = false := by kernel_rfl
@[go_sem] theorem bo188 : isBoolI Tryz.prog 188 = false := by kernel_rfl
@[go_sem] theorem in188 : intI Tryz.prog 188 = none := by kernel_rfl
@[go_sem] theorem ty199 : tyI Tryz.prog 199 = some (2, true) := by kernel_rfl
@[go_sem] theorem el199 : elI Tryz.prog 199 = none := by kernel_rfl
@[go_sem] theorem st199 : isStrI Tryz.prog 199 = false := by kernel_rfl
@[go_sem] theorem bo199 : isBoolI Tryz.prog 199 = false := by kernel_rfl
@[go_sem] theorem in199 : intI Tryz.prog 199 = none := by kernel_rfl
@[go_sem] theorem ty203 : tyI Tryz.prog 203 = some (2, true) := by kernel_rfl
@[go_sem] theorem el203 : elI Tryz.prog 203 = none := by kernel_rfl
@[go_sem] theorem st203 : isStrI Tryz.prog 203 = false := by kernel_rfl
@[go_sem] theorem bo203 : isBoolI Tryz.prog 203 = false := by kernel_rfl
@[go_sem] theorem in203 : intI Tryz.prog 203 = none := by kernel_rfl
@[go_sem] theorem fd23_0 : fdI Tryz.prog 23 0 = some 0 := by kernel_rfl
@[go_sem] theorem fd23_1 : fdI Tryz.prog 23 1 = some 1 := by kernel_rfl
@[go_sem] theorem fd23_2 : fdI Tryz.prog 23 2 = some 2 := by kernel_rfl
@[go_sem] theorem fd23_3 : fdI Tryz.prog 23 3 = some 3 := by kernel_rfl
@[go_sem] theorem fd23_4 : fdI Tryz.prog 23 4 = some 4 := by kernel_rfl
@[go_sem] theorem fd23_5 : fdI Tryz.prog 23 5 = some 5 := by kernel_rfl
@[go_sem] theorem fd23_6 : fdI Tryz.prog 23 6 = some 6 := by kernel_rfl
@[go_sem] theorem fd23_7 : fdI Tryz.prog 23 7 = some 7 := by kernel_rfl
@[go_sem] theorem fd26_0 : fdI Tryz.prog 26 0 = some 0 := by kernel_rfl
@[go_sem] theorem fd26_1 : fdI Tryz.prog 26 1 = some 1 := by kernel_rfl
@[go_sem] theorem fd26_2 : fdI Tryz.prog 26 2 = some 2 := by kernel_rfl
@[go_sem] theorem fd26_3 : fdI Tryz.prog 26 3 = some 3 := by kernel_rfl
@[go_sem] theorem fd28_0 : fdI Tryz.prog 28 0 = some 0 := by kernel_rfl
@[go_sem] theorem fd28_1 : fdI Tryz.prog 28 1 = some 1 := by kernel_rfl
@[go_sem] theorem fd28_2 : fdI Tryz.prog 28 2 = some 2 := by kernel_rfl
@[go_sem] theorem fd28_3 : fdI Tryz.prog 28 3 = some 3 := by kernel_rfl
@[go_sem] theorem fd28_4 : fdI Tryz.prog 28 4 = some 4 := by kernel_rfl
@[go_sem] theorem fd28_5 : fdI Tryz.prog 28 5 = some 5 := by kernel_rfl
@[go_sem] theorem fd30_0 : fdI Tryz.prog 30 0 = some 0 := by kernel_rfl
@[go_sem] theorem fd30_1 : fdI Tryz.prog 30 1 = some 1 := by kernel_rfl
@[go_sem] theorem fd30_2 : fdI Tryz.prog 30 2 = some 2 := by kernel_rfl
@[go_sem] theorem fd32_0 : fdI Tryz.prog 32 0 = some 0 := by kernel_rfl
@[go_sem] theorem fd32_1 : fdI Tryz.prog 32 1 = some 1 := by kernel_rfl
@[go_sem] theorem fd32_2 : fdI Tryz.prog 32 2 = some 2 := by kernel_rfl
@[go_sem] theorem fd32_3 : fdI Tryz.prog 32 3 = some 3 := by kernel_rfl
@[go_sem] theorem fd35_0 : fdI Tryz.prog 35 0 = some 0 := by kernel_rfl
@[go_sem] theorem fd35_1 : fdI Tryz.prog 35 1 = some 1 := by kernel_rfl
@[go_sem] theorem fd35_2 : fdI Tryz.prog 35 2 = some 9 := by kernel_rfl
@[go_sem] theorem fd35_3 : fdI Tryz.prog 35 3 = some 17 := by kernel_rfl
@[go_sem] theorem fd35_4 : fdI Tryz.prog 35 4 = some 18 := by kernel_rfl
@[go_sem] theorem fd35_5 : fdI Tryz.prog 35 5 = some 22 := by kernel_rfl
@[go_sem] theorem fd35_6 : fdI Tryz.prog 35 6 = some 28 := by kernel_rfl
@[go_sem] theorem fd35_7 : fdI Tryz.prog 35 7 = some 31 := by kernel_rfl
@[go_sem] theorem fd35_8 : fdI Tryz.prog 35 8 = some 34 := by kernel_rfl
@[go_sem] theorem fd35_9 : fdI Tryz.prog 35 9 = some 38 := by kernel_rfl
@[go_sem] theorem fd35_10 : fdI Tryz.prog 35 10 = some 42 := by kernel_rfl
@[go_sem] theorem fd35_11 : fdI Tryz.prog 35 11 = some 43 := by kernel_rfl
@[go_sem] theorem fd35_12 : fdI Tryz.prog 35 12 = some 44 := by kernel_rfl
@[go_sem] theorem fd35_13 : fdI Tryz.prog 35 13 = some 45 := by kernel_rfl
@[go_sem] theorem fd35_14 : fdI Tryz.prog 35 14 = some 46 := by kernel_rfl
@[go_sem] theorem fd35_15 : fdI Tryz.prog 35 15 = some 47 := by kernel_rfl
@[go_sem] theorem fd35_16 : fdI Tryz.prog 35 16 = some 48 := by kernel_rfl
@[go_sem] theorem fd35_17 : fdI Tryz.prog 35 17 = some 49 := by kernel_rfl
@[go_sem] theorem fd39_0 : fdI Tryz.prog 39 0 = some 0 := by kernel_rfl
@[go_sem] theorem fd39_1 : fdI Tryz.prog 39 1 = some 50 := by kernel_rfl
@[go_sem] theorem fd39_2 : fdI Tryz.prog 39 2 = some 100 := by kernel_rfl
@[go_sem] theorem fd39_3 : fdI Tryz.prog 39 3 = some 101 := by kernel_rfl
@[go_sem] theorem fd39_4 : fdI Tryz.prog 39 4 = some 102 := by kernel_rfl
@[go_sem] theorem fd42_0 : fdI Tryz.prog 42 0 = some 0 := by kernel_rfl
@[go_sem] theorem fd42_1 : fdI Tryz.prog 42 1 = some 1 := by kernel_rfl
@[go_sem] theorem fd42_2 : fdI Tryz.prog 42 2 = some 2 := by kernel_rfl
@[go_sem] theorem fd42_3 : fdI Tryz.prog 42 3 = some 3 := by kernel_rfl
@[go_sem] theorem fd42_4 : fdI Tryz.prog 42 4 = some 4 := by kernel_rfl
@[go_sem] theorem fd42_5 : fdI Tryz.prog 42 5 = some 5 := by kernel_rfl
@[go_sem] theorem fd42_6 : fdI Tryz.prog 42 6 = some 6 := by kernel_rfl
@[go_sem] theorem fd42_7 : fdI Tryz.prog 42 7 = some 7 := by kernel_rfl
@[go_sem] theorem fd44_0 : fdI Tryz.prog 44 0 = some 0 := by kernel_rfl
@[go_sem] theorem fd44_1 : fdI Tryz.prog 44 1 = some 1 := by kernel_rfl
@[go_sem] theorem fd44_2 : fdI Tryz.prog 44 2 = some 2 := by kernel_rfl
@[go_sem] theorem fd44_3 : fdI Tryz.prog 44 3 = some 3 := by kernel_rfl
@[go_sem] theorem fd45_0 : fdI Tryz.prog 45 0 = some 0 := by kernel_rfl
@[go_sem] theorem fd45_1 : fdI Tryz.prog 45 1 = some 1 := by kernel_rfl
@[go_sem] theorem fd45_2 : fdI Tryz.prog 45 2 = some 2 := by kernel_rfl
@[go_sem] theorem fd45_3 : fdI Tryz.prog 45 3 = some 3 := by kernel_rfl
@[go_sem] theorem fd45_4 : fdI Tryz.prog 45 4 = some 4 := by kernel_rfl
@[go_sem] theorem fd45_5 : fdI Tryz.prog 45 5 = some 5 := by kernel_rfl
@[go_sem] theorem fd46_0 : fdI Tryz.prog 46 0 = some 0 := by kernel_rfl
@[go_sem] theorem fd46_1 : fdI Tryz.prog 46 1 = some 1 := by kernel_rfl
@[go_sem] theorem fd46_2 : fdI Tryz.prog 46 2 = some 2 := by kernel_rfl
@[go_sem] theorem fd47_0 : fdI Tryz.prog 47 0 = some 0 := by kernel_rfl
@[go_sem] theorem fd47_1 : fdI Tryz.prog 47 1 = some 1 := by kernel_rfl
@[go_sem] theorem fd47_2 : fdI Tryz.prog 47 2 = some 2 := by kernel_rfl
@[go_sem] theorem fd47_3 : fdI Tryz.prog 47 3 = some 3 := by kernel_rfl
@[go_sem] theorem fd50_0 : fdI Tryz.prog 50 0 = some 0 := by kernel_rfl
@[go_sem] theorem fd50_1 : fdI Tryz.prog 50 1 = some 1 := by kernel_rfl
@[go_sem] theorem fd50_2 : fdI Tryz.prog 50 2 = some 9 := by kernel_rfl
@[go_sem] theorem fd50_3 : fdI Tryz.prog 50 3 = some 17 := by kernel_rfl
@[go_sem] theorem fd50_4 : fdI Tryz.prog 50 4 = some 18 := by kernel_rfl
@[go_sem] theorem fd50_5 : fdI Tryz.prog 50 5 = some 22 := by kernel_rfl
@[go_sem] theorem fd50_6 : fdI Tryz.prog 50 6 = some 28 := by kernel_rfl
@[go_sem] theorem fd50_7 : fdI Tryz.prog 50 7 = some 31 := by kernel_rfl
@[go_sem] theorem fd50_8 : fdI Tryz.prog 50 8 = some 34 := by kernel_rfl
@[go_sem] theorem fd50_9 : fdI Tryz.prog 50 9 = some 38 := by kernel_rfl
@[go_sem] theorem fd50_10 : fdI Tryz.prog 50 10 = some 42 := by kernel_rfl
@[go_sem] theorem fd50_11 : fdI Tryz.prog 50 11 = some 43 := by kernel_rfl
@[go_sem] theorem fd50_12 : fdI Tryz.prog 50 12 = some 44 := by kernel_rfl
@[go_sem] theorem fd50_13 : fdI Tryz.prog 50 13 = some 45 := by kernel_rfl
@[go_sem] theorem fd50_14 : fdI Tryz.prog 50 14 = some 46 := by kernel_rfl
@[go_sem] theorem fd50_15 : fdI Tryz.prog 50 15 = some 47 := by kernel_rfl
@[go_sem] theorem fd50_16 : fdI Tryz.prog 50 16 = some 48 := by kernel_rfl
@[go_sem] theorem fd50_17 : fdI Tryz.prog 50 17 = some 49 := by kernel_rfl
@[go_sem] theorem fd54_0 : fdI Tryz.prog 54 0 = some 0 := by kernel_rfl
@[go_sem] theorem fd54_1 : fdI Tryz.prog 54 1 = some 50 := by kernel_rfl
@[go_sem] theorem fd54_2 : fdI Tryz.prog 54 2 = some 100 := by kernel_rfl
@[go_sem] theorem fd54_3 : fdI Tryz.prog 54 3 = some 101 := by kernel_rfl
@[go_sem] theorem fd54_4 : fdI Tryz.prog 54 4 = some 102 := by kernel_rfl
@[go_sem] theorem fd67_0 : fdI Tryz.prog 67 0 = some 0 := by kernel_rfl
@[go_sem] theorem fd67_1 : fdI Tryz.prog 67 1 = some 1 := by kernel_rfl
@[go_sem] theorem fd67_2 : fdI Tryz.prog 67 2 = some 2 := by kernel_rfl
@[go_sem] theorem fd67_3 : fdI Tryz.prog 67 3 = some 3 := by kernel_rfl
@[go_sem] theorem fd67_4 : fdI Tryz.prog 67 4 = some 4 := by kernel_rfl
@[go_sem] theorem fd67_5 : fdI Tryz.prog 67 5 = some 5 := by kernel_rfl
@[go_sem] theorem fd67_6 : fdI Tryz.prog 67 6 = some 6 := by kernel_rfl
@[go_sem] theorem fd90_0 : fdI Tryz.prog 90 0 = some 0 := by kernel_rfl
@[go_sem] theorem fd90_1 : fdI Tryz.prog 90 1 = some 1 := by kernel_rfl
@[go_sem] theorem fd92_0 : fdI Tryz.prog 92 0 = some 0 := by kernel_rfl
@[go_sem] theorem fd92_1 : fdI Tryz.prog 92 1 = some 1 := by kernel_rfl
@[go_sem] theorem fd92_2 : fdI Tryz.prog 92 2 = some 2 := by kernel_rfl
@[go_sem] theorem fd92_3 : fdI Tryz.prog 92 3 = some 3 := by kernel_rfl
@[go_sem] theorem fd92_4 : fdI Tryz.prog 92 4 = some 4 := by kernel_rfl
@[go_sem] theorem fd92_5 : fdI Tryz.prog 92 5 = some 5 := by kernel_rfl
@[go_sem] theorem fd92_6 : fdI Tryz.prog 92 6 = some 6 := by kernel_rfl
@[go_sem] theorem fd93_0 : fdI Tryz.prog 93 0 = some 0 := by kernel_rfl
@[go_sem] theorem fd93_1 : fdI Tryz.prog 93 1 = some 1 := by kernel_rfl
@[go_sem] theorem fd106_0 : fdI Tryz.prog 106 0 = some 0 := by kernel_rfl
@[go_sem] theorem fd106_1 : fdI Tryz.prog 106 1 = some 1 := by kernel_rfl
@[go_sem] theorem fd112_0 : fdI Tryz.prog 112 0 = some 0 := by kernel_rfl
@[go_sem] theorem fd112_1 : fdI Tryz.prog 112 1 = some 1 := by kernel_rfl
@[go_sem] theorem fd112_2 : fdI Tryz.prog 112 2 = some 2 := by kernel_rfl
@[go_sem] theorem fd112_3 : fdI Tryz.prog 112 3 = some 3 := by kernel_rfl
@[go_sem] theorem fd115_0 : fdI Tryz.prog 115 0 = some 0 := by kernel_rfl
@[go_sem] theorem fd115_1 : fdI Tryz.prog 115 1 = some 1 := by kernel_rfl
@[go_sem] theorem fd115_2 : fdI Tryz.prog 115 2 = some 5 := by kernel_rfl
@[go_sem] theorem fd115_3 : fdI Tryz.prog 115 3 = some 6 := by kernel_rfl
@[go_sem] theorem fd115_4 : fdI Tryz.prog 115 4 = some 7 := by kernel_rfl
@[go_sem] theorem fd115_5 : fdI Tryz.prog 115 5 = some 8 := by kernel_rfl
@[go_sem] theorem fd115_6 : fdI Tryz.prog 115 6 = some 9 := by kernel_rfl
@[go_sem] theorem fd115_7 : fdI Tryz.prog 115 7 = some 10 := by kernel_rfl
@[go_sem] theorem fd115_8 : fdI Tryz.prog 115 8 = some 11 := by kernel_rfl
@[go_sem] theorem fd118_0 : fdI Tryz.prog 118 0 = some 0 := by kernel_rfl
@[go_sem] theorem fd118_1 : fdI Tryz.prog 118 1 = some 1 := by kernel_rfl
@[go_sem] theorem fd120_0 : fdI Tryz.prog 120 0 = some 0 := by kernel_rfl
@[go_sem] theorem fd120_1 : fdI Tryz.prog 120 1 = some 1 := by kernel_rfl
@[go_sem] theorem fd120_2 : fdI Tryz.prog 120 2 = some 3 := by kernel_rfl
@[go_sem] theorem fd120_3 : fdI Tryz.prog 120 3 = some 4 := by kernel_rfl
@[go_sem] theorem fd120_4 : fdI Tryz.prog 120 4 = some 5 := by kernel_rfl
@[go_sem] theorem fd122_0 : fdI Tryz.prog 122 0 = some 0 := by kernel_rfl
@[go_sem] theorem fd122_1 : fdI Tryz.prog 122 1 = some 1 := by kernel_rfl
@[go_sem] theorem fd124_0 : fdI Tryz.prog 124 0 = some 0 := by kernel_rfl
@[go_sem] theorem fd124_1 : fdI Tryz.prog 124 1 = some 1 := by kernel_rfl
@[go_sem] theorem fd124_2 : fdI Tryz.prog 124 2 = some 13 := by kernel_rfl
@[go_sem] theorem fd124_3 : fdI Tryz.prog 124 3 = some 17 := by kernel_rfl
@[go_sem] theorem fd124_4 : fdI Tryz.prog 124 4 = some 23 := by kernel_rfl
@[go_sem] theorem fd124_5 : fdI Tryz.prog 124 5 = some 29 := by kernel_rfl
@[go_sem] theorem fd124_6 : fdI Tryz.prog 124 6 = some 31 := by kernel_rfl
@[go_sem] theorem fd124_7 : fdI Tryz.prog 124 7 = some 32 := by kernel_rfl
@[go_sem] theorem fd124_8 : fdI Tryz.prog 124 8 = some 33 := by kernel_rfl
@[go_sem] theorem fd124_9 : fdI Tryz.prog 124 9 = some 34 := by kernel_rfl
@[go_sem] theorem fd124_10 : fdI Tryz.prog 124 10 = some 35 := by kernel_rfl
@[go_sem] theorem fd124_11 : fdI Tryz.prog 124 11 = some 36 := by kernel_rfl
@[go_sem] theorem fd124_12 : fdI Tryz.prog 124 12 = some 37 := by kernel_rfl
@[go_sem] theorem fd124_13 : fdI Tryz.prog 124 13 = some 38 := by kernel_rfl
@[go_sem] theorem fd136_0 : fdI Tryz.prog 136 0 = some 0 := by kernel_rfl
@[go_sem] theorem fd136_1 : fdI Tryz.prog 136 1 = some 1 := by kernel_rfl
@[go_sem] theorem fd136_2 : fdI Tryz.prog 136 2 = some 2 := by kernel_rfl
@[go_sem] theorem fd136_3 : fdI Tryz.prog 136 3 = some 3 := by kernel_rfl
@[go_sem] theorem fd139_0 : fdI Tryz.prog 139 0 = some 0 := by kernel_rfl
@[go_sem] theorem fd139_1 : fdI Tryz.prog 139 1 = some 1 := by kernel_rfl
@[go_sem] theorem fd139_2 : fdI Tryz.prog 139 2 = some 5 := by kernel_rfl
@[go_sem] theorem fd139_3 : fdI Tryz.prog 139 3 = some 6 := by kernel_rfl
@[go_sem] theorem fd139_4 : fdI Tryz.prog 139 4 = some 7 := by kernel_rfl
@[go_sem] theorem fd139_5 : fdI Tryz.prog 139 5 = some 8 := by kernel_rfl
@[go_sem] theorem fd139_6 : fdI Tryz.prog 139 6 = some 9 := by kernel_rfl
@[go_sem] theorem fd139_7 : fdI Tryz.prog 139 7 = some 10 := by kernel_rfl
@[go_sem] theorem fd139_8 : fdI Tryz.prog 139 8 = some 11 := by kernel_rfl
@[go_sem] theorem fd142_0 : fdI Tryz.prog 142 0 = some 0 := by kernel_rfl
@[go_sem] theorem fd142_1 : fdI Tryz.prog 142 1 = some 1 := by kernel_rfl
@[go_sem] theorem fd144_0 : fdI Tryz.prog 144 0 = some 0 := by kernel_rfl
@[go_sem] theorem fd144_1 : fdI Tryz.prog 144 1 = some 1 := by kernel_rfl
@[go_sem] theorem fd144_2 : fdI Tryz.prog 144 2 = some 3 := by kernel_rfl
@[go_sem] theorem fd144_3 : fdI Tryz.prog 144 3 = some 4 := by kernel_rfl
@[go_sem] theorem fd144_4 : fdI Tryz.prog 144 4 = some 5 := by kernel_rfl
@[go_sem] theorem fd145_0 : fdI Tryz.prog 145 0 = some 0 := by kernel_rfl
@[go_sem] theorem fd145_1 : fdI Tryz.prog 145 1 = some 1 := by kernel_rfl
@[go_sem] theorem fd147_0 : fdI Tryz.prog 147 0 = some 0 := by kernel_rfl
@[go_sem] theorem fd147_1 : fdI Tryz.prog 147 1 = some 1 := by kernel_rfl
@[go_sem] theorem fd147_2 : fdI Tryz.prog 147 2 = some 13 := by kernel_rfl
@[go_sem] theorem fd147_3 : fdI Tryz.prog 147 3 = some 17 := by kernel_rfl
@[go_sem] theorem fd147_4 : fdI Tryz.prog 147 4 = some 23 := by kernel_rfl
@[go_sem] theorem fd147_5 : fdI Tryz.prog 147 5 = some 29 := by kernel_rfl
@[go_sem] theorem fd147_6 : fdI Tryz.prog 147 6 = some 31 := by kernel_rfl
@[go_sem] theorem fd147_7 : fdI Tryz.prog 147 7 = some 32 := by kernel_rfl
@[go_sem] theorem fd147_8 : fdI Tryz.prog 147 8 = some 33 := by kernel_rfl
@[go_sem] theorem fd147_9 : fdI Tryz.prog 147 9 = some 34 := by kernel_rfl
@[go_sem] theorem fd147_10 : fdI Tryz.prog 147 10 = some 35 := by kernel_rfl
@[go_sem] theorem fd147_11 : fdI Tryz.prog 147 11 = some 36 := by kernel_rfl
@[go_sem] theorem fd147_12 : fdI Tryz.prog 147 12 = some 37 := by kernel_rfl
@[go_sem] theorem fd147_13 : fdI Tryz.prog 147 13 = some 38 := by kernel_rfl
@[go_sem] theorem fd151_0 : fdI Tryz.prog 151 0 = some 0 := by kernel_rfl
@[go_sem] theorem fd151_1 : fdI Tryz.prog 151 1 = some 1 := by kernel_rfl
@[go_sem] theorem fd153_0 : fdI Tryz.prog 153 0 = some 0 := by kernel_rfl
@[go_sem] theorem fd153_1 : fdI Tryz.prog 153 1 = some 1 := by kernel_rfl
@[go_sem] theorem fd153_2 : fdI Tryz.prog 153 2 = some 2 := by kernel_rfl
@[go_sem] theorem fd153_3 : fdI Tryz.prog 153 3 = some 3 := by kernel_rfl
@[go_sem] theorem fd153_4 : fdI Tryz.prog 153 4 = some 4 := by kernel_rfl
@[go_sem] theorem fd153_5 : fdI Tryz.prog 153 5 = some 5 := by kernel_rfl
@[go_sem] theorem fd153_6 : fdI Tryz.prog 153 6 = some 6 := by kernel_rfl
@[go_sem] theorem fd153_7 : fdI Tryz.prog 153 7 = some 7 := by kernel_rfl
@[go_sem] theorem fd153_8 : fdI Tryz.prog 153 8 = some 8 := by kernel_rfl
@[go_sem] theorem fd165_0 : fdI Tryz.prog 165 0 = some 0 := by kernel_rfl
@[go_sem] theorem fd165_1 : fdI Tryz.prog 165 1 = some 1 := by kernel_rfl
@[go_sem] theorem fd167_0 : fdI Tryz.prog 167 0 = some 0 := by kernel_rfl
@[go_sem] theorem fd167_1 : fdI Tryz.prog 167 1 = some 1 := by kernel_rfl
@[go_sem] theorem fd188_0 : fdI Tryz.prog 188 0 = some 0 := by kernel_rfl
@[go_sem] theorem fd188_1 : fdI Tryz.prog 188 1 = some 1 := by kernel_rfl
@[go_sem] theorem fd188_2 : fdI Tryz.prog 188 2 = some 2 := by kernel_rfl
@[go_sem] theorem fd188_3 : fdI Tryz.prog 188 3 = some 3 := by kernel_rfl
@[go_sem] theorem fd188_4 : fdI Tryz.prog 188 4 = some 4 := by kernel_rfl
@[go_sem] theorem fd188_5 : fdI Tryz.prog 188 5 = some 5 := by kernel_rfl
@[go_sem] theorem fd188_6 : fdI Tryz.prog 188 6 = some 6 := by kernel_rfl
@[go_sem] theorem fd188_7 : fdI Tryz.prog 188 7 = some 7 := by kernel_rfl
@[go_sem] theorem fd188_8 : fdI Tryz.prog 188 8 = some 8 := by kernel_rfl
@[go_sem] theorem fd199_0 : fdI Tryz.prog 199 0 = some 0 := by kernel_rfl
@[go_sem] theorem fd199_1 : fdI Tryz.prog 199 1 = some 1 := by kernel_rfl
@[go_sem] theorem fd203_0 : fdI Tryz.prog 203 0 = some 0 := by kernel_rfl
@[go_sem] theorem fd203_1 : fdI Tryz.prog 203 1 = some 1 := by kernel_rfl
@[go_sem] theorem zr3 : zrI Tryz.prog 3 = some [.d (.int .i64 0)] := by kernel_rfl
@[go_sem] theorem zr5 : zrI Tryz.prog 5 = some [.d (.int .u8 0)] := by kernel_rfl
@[go_sem] theorem zr42 : zrI Tryz.prog 42 = some [.d (.int .i64 0), .d (.int .i64 0), .d (.int .i64 0), .d (.int .i64 0), .d (.int .i64 0), .d (.int .i64 0), .d (.int .i64 0), .d (.int .i64 0)] := by kernel_rfl
@[go_sem] theorem zr44 : zrI Tryz.prog 44 = some [.d (.int .i64 0), .d (.int .i64 0), .d (.int .i64 0), .d (.int .i64 0)] := by kernel_rfl
@[go_sem] theorem zr45 : zrI Tryz.prog 45 = some [.d (.int .i64 0), .d (.int .i64 0), .d (.int .i64 0), .d (.int .i64 0), .d (.int .i64 0), .d (.int .i64 0)] := by kernel_rfl
@[go_sem] theorem zr46 : zrI Tryz.prog 46 = some [.d (.int .i64 0), .d (.int .i64 0), .d (.int .i64 0)] := by kernel_rfl
@[go_sem] theorem zr47 : zrI Tryz.prog 47 = some [.d (.int .i64 0), .d (.int .i64 0), .d (.int .i64 0), .d (.int .i64 0)] := by kernel_rfl
@[go_sem] theorem zr50 : zrI Tryz.prog 50 = some [.d (.bool false), .d (.int .i64 0), .d (.int .i64 0), .d (.int .i64 0), .d (.int .i64 0), .d (.int .i64 0), .d (.int .i64 0), .d (.int .i64 0), .d (.int .i64 0), .d (.int .i64 0), .d (.int .i64 0), .d (.int .i64 0), .d (.int .i64 0), .d (.int .i64 0), .d (.int .i64 0), .d (.int .i64 0), .d (.int .i64 0), .nils 39, .d (.int .i64 0), .d (.int .i64 0), .d (.int .i64 0), .d (.int .i64 0), .d (.int .i64 0), .d (.int .i64 0), .d (.int .i64 0), .d (.int .i64 0), .d (.int .i64 0), .d (.int .i64 0), .d (.int .i64 0), .d (.int .i64 0), .d (.int .i64 0), .d (.int .i64 0), .d (.int .i64 0), .d (.int .i64 0), .d (.int .i64 0), .d (.int .i64 0), .d (.int .i64 0), .d (.int .i64 0), .d (.int .i64 0), .d (.int .i64 0), .d (.int .i64 0), .d (.int .i64 0), .d (.bool false), .d (.bool false), .d (.bool false), .d (.int .i64 0), .d (.int .i64 0), .nils 2, .d (.int .i64 0), .d (.int .i64 0)] := by kernel_rfl
@[go_sem] theorem zr54 : zrI Tryz.prog 54 = some [.d (.bool false), .d (.int .i64 0), .d (.int .i64 0), .d (.int .i64 0), .d (.int .i64 0), .d (.int .i64 0), .d (.int .i64 0), .d (.int .i64 0), .d (.int .i64 0), .d (.int .i64 0), .d (.int .i64 0), .d (.int .i64 0), .d (.int .i64 0), .d (.int .i64 0), .d (.int .i64 0), .d (.int .i64 0), .d (.int .i64 0), .nils 39, .d (.int .i64 0), .d (.int .i64 0), .d (.int .i64 0), .d (.int .i64 0), .d (.int .i64 0), .d (.int .i64 0), .d (.int .i64 0), .d (.int .i64 0), .d (.int .i64 0), .d (.int .i64 0), .d (.int .i64 0), .d (.int .i64 0), .d (.int .i64 0), .d (.int .i64 0), .d (.int .i64 0), .d (.int .i64 0), .d (.int .i64 0), .d (.int .i64 0), .d (.int .i64 0), .d (.int .i64 0), .d (.int .i64 0), .d (.int .i64 0), .d (.int .i64 0), .d (.int .i64 0), .d (.bool false), .d (.bool false), .d (.bool false), .d (.int .i64 0), .d (.int .i64 0), .nils 2, .d (.int .i64 0), .d (.int .i64 0), .d (.bool false), .d (.int .i64 0), .d (.int .i64 0), .d (.int .i64 0), .d (.int .i64 0), .d (.int .i64 0), .d (.int .i64 0), .d (.int .i64 0), .d (.int .i64 0), .d (.int .i64 0), .d (.int .i64 0), .d (.int .i64 0), .d (.int .i64 0), .d (.int .i64 0), .d (.int .i64 0), .d (.int .i64 0), .d (.int .i64 0), .nils 39, .d (.int .i64 0), .d (.int .i64 0), .d (.int .i64 0), .d (.int .i64 0), .d (.int .i64 0), .d (.int .i64 0), .d (.int .i64 0), .d (.int .i64 0), .d (.int .i64 0), .d (.int .i64 0), .d (.int .i64 0), .d (.int .i64 0), .d (.int .i64 0), .d (.int .i64 0), .d (.int .i64 0), .d (.int .i64 0), .d (.int .i64 0), .d (.int .i64 0), .d (.int .i64 0), .d (.int .i64 0), .d (.int .i64 0), .d (.int .i64 0), .d (.int .i64 0), .d (.int .i64 0), .d (.bool false), .d (.bool false), .d (.bool false), .d (.int .i64 0), .d (.int .i64 0), .nils 2, .d (.int .i64 0), .d (.int .i64 0), .nils 2, .nils 2, .nils 7] := by kernel_rfl
@[go_sem] theorem zr67 : zrI Tryz.prog 67 = some [.d (.int .i64 0), .d (.bool false), .d (.str []), .d (.str []), .d (.bool false), .d (.bool false), .d (.bool false)] := by kernel_rfl
@[go_sem] theorem zr90 : zrI Tryz.prog 90 = some [.d (.int .i64 0), .d (.str [])] := by kernel_rfl
@[go_sem] theorem zr92 : zrI Tryz.prog 92 = some [.d (.int .i64 0), .d (.bool false), .d (.str []), .d (.str []), .d (.bool false), .d (.bool false), .d (.bool false)] := by kernel_rfl
@[go_sem] theorem zr93 : zrI Tryz.prog 93 = some [.d (.int .i64 0), .d (.str [])] := by kernel_rfl
@[go_sem] theorem zr106 : zrI Tryz.prog 106 = some [.d (.int .i64 0), .nils 9] := by kernel_rfl
@[go_sem] theorem zr112 : zrI Tryz.prog 112 = some [.d (.int .i64 0), .d (.int .i64 0), .d (.int .i64 0), .nils 1] := by kernel_rfl
@[go_sem] theorem zr115 : zrI Tryz.prog 115 = some [.d (.int .i64 0), .d (.int .i64 0), .d (.int .i64 0), .d (.int .i64 0), .nils 1, .nils 2, .nils 2, .nils 2, .d (.int .i64 0), .d (.int .i64 0), .d (.int .i64 0), .d (.int .i64 0)] := by kernel_rfl
@[go_sem] theorem zr118 : zrI Tryz.prog 118 = some [.d (.int .i64 0), .nils 2] := by kernel_rfl
@[go_sem] theorem zr120 : zrI Tryz.prog 120 = some [.d (.int .i64 0), .d (.int .i64 0), .nils 2, .d (.int .i64 0), .d (.int .i64 0), .d (.int .i64 0)] := by kernel_rfl
@[go_sem] theorem zr122 : zrI Tryz.prog 122 = some [.d (.int .i64 0), .d (.bool false)] := by kernel_rfl
@[go_sem] theorem zr124 : zrI Tryz.prog 124 = some [.d (.int .i64 0), .d (.int .i64 0), .d (.int .i64 0), .d (.int .i64 0), .d (.int .i64 0), .nils 1, .nils 2, .nils 2, .nils 2, .d (.int .i64 0), .d (.int .i64 0), .d (.int .i64 0), .d (.int .i64 0), .d (.int .i64 0), .d (.int .i64 0), .d (.int .i64 0), .d (.int .i64 0), .d (.int .i64 0), .d (.int .i64 0), .nils 2, .d (.int .i64 0), .d (.int .i64 0), .d (.int .i64 0), .d (.int .i64 0), .d (.int .i64 0), .d (.int .i64 0), .d (.int .i64 0), .d (.int .i64 0), .d (.int .i64 0), .d (.int .i64 0), .d (.bool false), .d (.bool false), .d (.bool false), .d (.bool false), .d (.bool false), .d (.bool false), .d (.bool false), .d (.int .i64 0), .d (.bool false)] := by kernel_rfl
@[go_sem] theorem zr147 : zrI Tryz.prog 147 = some [.d (.int .i64 0), .d (.int .i64 0), .d (.int .i64 0), .d (.int .i64 0), .d (.int .i64 0), .nils 1, .nils 2, .nils 2, .nils 2, .d (.int .i64 0), .d (.int .i64 0), .d (.int .i64 0), .d (.int .i64 0), .d (.int .i64 0), .d (.int .i64 0), .d (.int .i64 0), .d (.int .i64 0), .d (.int .i64 0), .d (.int .i64 0), .nils 2, .d (.int .i64 0), .d (.int .i64 0), .d (.int .i64 0), .d (.int .i64 0), .d (.int .i64 0), .d (.int .i64 0), .d (.int .i64 0), .d (.int .i64 0), .d (.int .i64 0), .d (.int .i64 0), .d (.bool false), .d (.bool false), .d (.bool false), .d (.bool false), .d (.bool false), .d (.bool false), .d (.bool false), .d (.int .i64 0), .d (.bool false)] := by kernel_rfl
@[go_sem] theorem zr151 : zrI Tryz.prog 151 = some [.d (.int .i64 0), .nils 9] := by kernel_rfl
@[go_sem] theorem zr153 : zrI Tryz.prog 153 = some [.d (.int .i64 0), .d (.int .i64 0), .d (.int .i64 0), .d (.str []), .d (.bool false), .d (.int .i64 0), .d (.int .i64 0), .d (.int .i64 0), .d (.bool false)] := by kernel_rfl
@[go_sem] theorem zr165 : zrI Tryz.prog 165 = some [.d (.int .i64 0), .d (.int .i64 0)] := by kernel_rfl
@[go_sem] theorem zr167 : zrI Tryz.prog 167 = some [.d (.int .i64 0), .d (.str [])] := by kernel_rfl
@[go_sem] theorem zr175 : zrI Tryz.prog 175 = some [.d (.bool false), .d (.bool false), .d (.bool false), .d (.bool false), .d (.bool false), .d (.bool false), .d (.bool false)] := by kernel_rfl
@[go_sem] theorem zr188 : zrI Tryz.prog 188 = some [.d (.int .i64 0), .d (.int .i64 0), .d (.int .i64 0), .d (.str []), .d (.bool false), .d (.int .i64 0), .d (.int .i64 0), .d (.int .i64 0), .d (.bool false)] := by kernel_rfl
@[go_sem] theorem zr199 : zrI Tryz.prog 199 = some [.d (.int .i64 0), .d (.int .i64 0)] := by kernel_rfl
@[go_sem] theorem zr203 : zrI Tryz.prog 203 = some [.d (.int .i64 0), .d (.str [])] := by kernel_rfl
@[go_sem] theorem pl42 : plI Tryz.prog 42 = some fun j => ([(0, 1), (1, 1), (2, 1), (3, 1), (4, 1), (5, 1), (6, 1), (7, 1)] : List (Nat × Nat))[j]? := by kernel_rfl
@[go_sem] theorem pl44 : plI Tryz.prog 44 = some fun j => ([(0, 1), (1, 1), (2, 1), (3, 1)] : List (Nat × Nat))[j]? := by kernel_rfl
@[go_sem] theorem pl45 : plI Tryz.prog 45 = some fun j => ([(0, 1), (1, 1), (2, 1), (3, 1), (4, 1), (5, 1)] : List (Nat × Nat))[j]? := by kernel_rfl
@[go_sem] theorem pl46 : plI Tryz.prog 46 = some fun j => ([(0, 1), (1, 1), (2, 1)] : List (Nat × Nat))[j]? := by kernel_rfl
@[go_sem] theorem pl47 : plI Tryz.prog 47 = some fun j => ([(0, 1), (1, 1), (2, 1), (3, 1)] : List (Nat × Nat))[j]? := by kernel_rfl
@[go_sem] theorem pl50 : plI Tryz.prog 50 = some fun j => ([(0, 1), (1, 8), (9, 8), (17, 1), (18, 4), (22, 6), (28, 3), (31, 3), (34, 4), (38, 4), (42, 1), (43, 1), (44, 1), (45, 1), (46, 1), (47, 1), (48, 1), (49, 1)] : List (Nat × Nat))[j]? := by kernel_rfl
@[go_sem] theorem pl54 : plI Tryz.prog 54 = some fun j => ([(0, 50), (50, 50), (100, 1), (101, 1), (102, 1)] : List (Nat × Nat))[j]? := by kernel_rfl
@[go_sem] theorem pl67 : plI Tryz.prog 67 = some fun j => ([(0, 1), (1, 1), (2, 1), (3, 1), (4, 1), (5, 1), (6, 1)] : List (Nat × Nat))[j]? := by kernel_rfl
@[go_sem] theorem pl90 : plI Tryz.prog 90 = some fun j => ([(0, 1), (1, 1)] : List (Nat × Nat))[j]? := by kernel_rfl
@[go_sem] theorem pl92 : plI Tryz.prog 92 = some fun j => ([(0, 1), (1, 1), (2, 1), (3, 1), (4, 1), (5, 1), (6, 1)] : List (Nat × Nat))[j]? := by kernel_rfl
@[go_sem] theorem pl93 : plI Tryz.prog 93 = some fun j => ([(0, 1), (1, 1)] : List (Nat × Nat))[j]? := by kernel_rfl
@[go_sem] theorem pl106 : plI Tryz.prog 106 = some fun j => ([(0, 1), (1, 1)] : List (Nat × Nat))[j]? := by kernel_rfl
@[go_sem] theorem pl112 : plI Tryz.prog 112 = some fun j => ([(0, 1), (1, 1), (2, 1), (3, 1)] : List (Nat × Nat))[j]? := by kernel_rfl
@[go_sem] theorem pl115 : plI Tryz.prog 115 = some fun j => ([(0, 1), (1, 4), (5, 1), (6, 1), (7, 1), (8, 1), (9, 1), (10, 1), (11, 1)] : List (Nat × Nat))[j]? := by kernel_rfl
@[go_sem] theorem pl118 : plI Tryz.prog 118 = some fun j => ([(0, 1), (1, 1)] : List (Nat × Nat))[j]? := by kernel_rfl
@[go_sem] theorem pl120 : plI Tryz.prog 120 = some fun j => ([(0, 1), (1, 2), (3, 1), (4, 1), (5, 1)] : List (Nat × Nat))[j]? := by kernel_rfl
@[go_sem] theorem pl122 : plI Tryz.prog 122 = some fun j => ([(0, 1), (1, 1)] : List (Nat × Nat))[j]? := by kernel_rfl
@[go_sem] theorem pl124 : plI Tryz.prog 124 = some fun j => ([(0, 1), (1, 12), (13, 4), (17, 6), (23, 6), (29, 2), (31, 1), (32, 1), (33, 1), (34, 1), (35, 1), (36, 1), (37, 1), (38, 1)] : List (Nat × Nat))[j]? := by kernel_rfl
@[go_sem] theorem pl147 : plI Tryz.prog 147 = some fun j => ([(0, 1), (1, 12), (13, 4), (17, 6), (23, 6), (29, 2), (31, 1), (32, 1), (33, 1), (34, 1), (35, 1), (36, 1), (37, 1), (38, 1)] : List (Nat × Nat))[j]? := by kernel_rfl
@[go_sem] theorem pl151 : plI Tryz.prog 151 = some fun j => ([(0, 1), (1, 1)] : List (Nat × Nat))[j]? := by kernel_rfl
@[go_sem] theorem pl153 : plI Tryz.prog 153 = some fun j => ([(0, 1), (1, 1), (2, 1), (3, 1), (4, 1), (5, 1), (6, 1), (7, 1), (8, 1)] : List (Nat × Nat))[j]? := by kernel_rfl
@[go_sem] theorem pl165 : plI Tryz.prog 165 = some fun j => ([(0, 1), (1, 1)] : List (Nat × Nat))[j]? := by kernel_rfl
@[go_sem] theorem pl167 : plI Tryz.prog 167 = some fun j => ([(0, 1), (1, 1)] : List (Nat × Nat))[j]? := by kernel_rfl
@[go_sem] theorem pl175 : plI Tryz.prog 175 = some fun j => some (j * 1, 1) := by kernel_rfl
@[go_sem] theorem pl188 : plI Tryz.prog 188 = some fun j => ([(0, 1), (1, 1), (2, 1), (3, 1), (4, 1), (5, 1), (6, 1), (7, 1), (8, 1)] : List (Nat × Nat))[j]? := by kernel_rfl
@[go_sem] theorem pl199 : plI Tryz.prog 199 = some fun j => ([(0, 1), (1, 1)] : List (Nat × Nat))[j]? := by kernel_rfl
@[go_sem] theorem pl203 : plI Tryz.prog 203 = some fun j => ([(0, 1), (1, 1)] : List (Nat × Nat))[j]? := by kernel_rfl
@[go_sem] theorem eq42 : EqOK Tryz.prog 42 [.i .i64, .i .i64, .i .i64, .i .i64, .i .i64, .i .i64, .i .i64, .i .i64] = True := eq_true (EqOK_of (by kernel_rfl) (by kernel_rfl) (by kernel_rfl) (by kernel_rfl) (by kernel_rfl))
@[go_sem] theorem eq44 : EqOK Tryz.prog 44 [.i .i64, .i .i64, .i .i64, .i .i64] = True := eq_true (EqOK_of (by kernel_rfl) (by kernel_rfl) (by kernel_rfl) (by kernel_rfl) (by kernel_rfl))
@[go_sem] theorem eq45 : EqOK Tryz.prog 45 [.i .i64, .i .i64, .i .i64, .i .i64, .i .i64, .i .i64] = True := eq_true (EqOK_of (by kernel_rfl) (by kernel_rfl) (by kernel_rfl) (by kernel_rfl) (by kernel_rfl))
@[go_sem] theorem eq46 : EqOK Tryz.prog 46 [.i .i64, .i .i64, .i .i64] = True := eq_true (EqOK_of (by kernel_rfl) (by kernel_rfl) (by kernel_rfl) (by kernel_rfl) (by kernel_rfl))
@[go_sem] theorem eq47 : EqOK Tryz.prog 47 [.i .i64, .i .i64, .i .i64, .i .i64] = True := eq_true (EqOK_of (by kernel_rfl) (by kernel_rfl) (by kernel_rfl) (by kernel_rfl) (by kernel_rfl))
@[go_sem] theorem eq67 : EqOK Tryz.prog 67 [.i .i64, .b, .s, .s, .b, .b, .b] = True := eq_true (EqOK_of (by kernel_rfl) (by kernel_rfl) (by kernel_rfl) (by kernel_rfl) (by kernel_rfl))
@[go_sem] theorem eq93 : EqOK Tryz.prog 93 [.i .i64, .s] = True := eq_true (EqOK_of (by kernel_rfl) (by kernel_rfl) (by kernel_rfl) (by kernel_rfl) (by kernel_rfl))
@[go_sem] theorem eq122 : EqOK Tryz.prog 122 [.i .i64, .b] = True := eq_true (EqOK_of (by kernel_rfl) (by kernel_rfl) (by kernel_rfl) (by kernel_rfl) (by kernel_rfl))
@[go_sem] theorem eq153 : EqOK Tryz.prog 153 [.i .i64, .i .i64, .i .i64, .s, .b, .i .i64, .i .i64, .i .i64, .b] = True := eq_true (EqOK_of (by kernel_rfl) (by kernel_rfl) (by kernel_rfl) (by kernel_rfl) (by kernel_rfl))
@[go_sem] theorem eq165 : EqOK Tryz.prog 165 [.i .i64, .i .i64] = True := eq_true (EqOK_of (by kernel_rfl) (by kernel_rfl) (by kernel_rfl) (by kernel_rfl) (by kernel_rfl))
@[go_sem] theorem eq167 : EqOK Tryz.prog 167 [.i .i64, .s] = True := eq_true (EqOK_of (by kernel_rfl) (by kernel_rfl) (by kernel_rfl) (by kernel_rfl) (by kernel_rfl))
@[go_sem] theorem eq175 : EqOK Tryz.prog 175 [.b, .b, .b, .b, .b, .b, .b] = True := eq_true (EqOK_of (by kernel_rfl) (by kernel_rfl) (by kernel_rfl) (by kernel_rfl) (by kernel_rfl))

end Gv
