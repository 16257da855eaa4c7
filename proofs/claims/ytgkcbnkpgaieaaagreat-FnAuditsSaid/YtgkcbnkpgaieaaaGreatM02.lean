/-
  Part of the proof: the machine, what functions compute, and the plain laws.
-/
import Derived.Test.YtgkcbnkpgaieaaaGreatM01
import Derived.Test.YtgkcbnkpgaieaaaGreatChecked
namespace Gv
open Go Go.Proofs
theorem lM {α:Type _} {β:Type _} {xs:List α} (f:α→β):(List.map f xs).length=xs.length:=List.length_map f
theorem tN (n:Nat):((n:Int)).toNat=n:=Int.toNat_natCast n
theorem gE {α:Type _} {l:List α} {i:Nat} (h:i < l.length):l[i]?=some l[i]:=List.getElem?_eq_getElem h
theorem dF {p:Prop} [Decidable p] (h:¬p):decide p=false:=decide_eq_false h
theorem dT {p:Prop} [Decidable p] (h:p):decide p=true:=decide_eq_true h
theorem oT {p:Prop} [Decidable p] (h:decide p=true):p:=of_decide_eq_true h
theorem oF {p:Prop} [Decidable p] (h:decide p=false):¬p:=of_decide_eq_false h
theorem cA {α:Type _} {a:α} {xs ys:List α}:(a::xs)++ys=a::(xs++ys):=List.cons_append
theorem nA {α:Type _} (xs:List α):[]++xs=xs:=List.nil_append xs
theorem tL {α:Type _} {l:List α}:l.take l.length=l:=List.take_length
@[go_sem] theorem ty3:tyI Tryz.prog 3=some (1,false):=by kernel_rfl
@[go_sem] theorem in3:intI Tryz.prog 3=some .i64:=by kernel_rfl
@[go_sem] theorem ty4:tyI Tryz.prog 4=some (1,false):=by kernel_rfl
@[go_sem] theorem bo4:isBoolI Tryz.prog 4=true:=by kernel_rfl
@[go_sem] theorem ty5:tyI Tryz.prog 5=some (1,false):=by kernel_rfl
@[go_sem] theorem in5:intI Tryz.prog 5=some .u8:=by kernel_rfl
@[go_sem] theorem ty9:tyI Tryz.prog 9=some (1,false):=by kernel_rfl
@[go_sem] theorem st9:isStrI Tryz.prog 9=true:=by kernel_rfl
@[go_sem] theorem ty22:tyI Tryz.prog 22=some (1,false):=by kernel_rfl
@[go_sem] theorem el22:elI Tryz.prog 22=some (5,1,1):=by kernel_rfl
@[go_sem] theorem ty25:tyI Tryz.prog 25=some (8,true):=by kernel_rfl
@[go_sem] theorem ty26:tyI Tryz.prog 26=some (1,false):=by kernel_rfl
@[go_sem] theorem el26:elI Tryz.prog 26=some (55,39,352):=by kernel_rfl
@[go_sem] theorem ty28:tyI Tryz.prog 28=some (4,true):=by kernel_rfl
@[go_sem] theorem ty30:tyI Tryz.prog 30=some (6,true):=by kernel_rfl
@[go_sem] theorem ty32:tyI Tryz.prog 32=some (3,true):=by kernel_rfl
@[go_sem] theorem ty34:tyI Tryz.prog 34=some (4,true):=by kernel_rfl
@[go_sem] theorem ty35:tyI Tryz.prog 35=some (1,false):=by kernel_rfl
@[go_sem] theorem el35:elI Tryz.prog 35=some (83,2,32):=by kernel_rfl
@[go_sem] theorem ty37:tyI Tryz.prog 37=some (50,true):=by kernel_rfl
@[go_sem] theorem ty41:tyI Tryz.prog 41=some (1,false):=by kernel_rfl
@[go_sem] theorem el41:elI Tryz.prog 41=some (3,1,8):=by kernel_rfl
@[go_sem] theorem ty43:tyI Tryz.prog 43=some (4,true):=by kernel_rfl
@[go_sem] theorem ty44:tyI Tryz.prog 44=some (1,false):=by kernel_rfl
@[go_sem] theorem el44:elI Tryz.prog 44=some (86,2,16):=by kernel_rfl
@[go_sem] theorem ty46:tyI Tryz.prog 46=some (12,true):=by kernel_rfl
@[go_sem] theorem ty47:tyI Tryz.prog 47=some (1,false):=by kernel_rfl
@[go_sem] theorem el47:elI Tryz.prog 47=some (152,2,24):=by kernel_rfl
@[go_sem] theorem ty49:tyI Tryz.prog 49=some (2,true):=by kernel_rfl
@[go_sem] theorem ty51:tyI Tryz.prog 51=some (6,true):=by kernel_rfl
@[go_sem] theorem ty53:tyI Tryz.prog 53=some (2,true):=by kernel_rfl
@[go_sem] theorem ty55:tyI Tryz.prog 55=some (39,true):=by kernel_rfl
@[go_sem] theorem ty60:tyI Tryz.prog 60=some (2,true):=by kernel_rfl
@[go_sem] theorem ar60:arI Tryz.prog 60=some (2,1):=by kernel_rfl
@[go_sem] theorem ty81:tyI Tryz.prog 81=some (1,false):=by kernel_rfl
@[go_sem] theorem el81:elI Tryz.prog 81=some (88,9,80):=by kernel_rfl
@[go_sem] theorem ty83:tyI Tryz.prog 83=some (2,true):=by kernel_rfl
@[go_sem] theorem ty86:tyI Tryz.prog 86=some (2,true):=by kernel_rfl
@[go_sem] theorem ty88:tyI Tryz.prog 88=some (9,true):=by kernel_rfl
@[go_sem] theorem el142:elI Tryz.prog 142=some (9,1,16):=by kernel_rfl
@[go_sem] theorem ty152:tyI Tryz.prog 152=some (2,true):=by kernel_rfl
@[go_sem] theorem el201:elI Tryz.prog 201=some (228,3,24):=by kernel_rfl
@[go_sem] theorem ty206:tyI Tryz.prog 206=some (3,true):=by kernel_rfl
@[go_sem] theorem ty228:tyI Tryz.prog 228=some (3,true):=by kernel_rfl
@[go_sem] theorem fd25_0:fdI Tryz.prog 25 0=some 0:=by kernel_rfl
@[go_sem] theorem fd25_1:fdI Tryz.prog 25 1=some 1:=by kernel_rfl
@[go_sem] theorem fd25_2:fdI Tryz.prog 25 2=some 2:=by kernel_rfl
@[go_sem] theorem fd25_3:fdI Tryz.prog 25 3=some 3:=by kernel_rfl
@[go_sem] theorem fd25_4:fdI Tryz.prog 25 4=some 4:=by kernel_rfl
@[go_sem] theorem fd25_5:fdI Tryz.prog 25 5=some 5:=by kernel_rfl
@[go_sem] theorem fd25_6:fdI Tryz.prog 25 6=some 6:=by kernel_rfl
@[go_sem] theorem fd25_7:fdI Tryz.prog 25 7=some 7:=by kernel_rfl
@[go_sem] theorem fd28_0:fdI Tryz.prog 28 0=some 0:=by kernel_rfl
@[go_sem] theorem fd28_1:fdI Tryz.prog 28 1=some 1:=by kernel_rfl
@[go_sem] theorem fd28_2:fdI Tryz.prog 28 2=some 2:=by kernel_rfl
@[go_sem] theorem fd28_3:fdI Tryz.prog 28 3=some 3:=by kernel_rfl
@[go_sem] theorem fd30_0:fdI Tryz.prog 30 0=some 0:=by kernel_rfl
@[go_sem] theorem fd30_1:fdI Tryz.prog 30 1=some 1:=by kernel_rfl
@[go_sem] theorem fd30_2:fdI Tryz.prog 30 2=some 2:=by kernel_rfl
@[go_sem] theorem fd30_3:fdI Tryz.prog 30 3=some 3:=by kernel_rfl
@[go_sem] theorem fd30_4:fdI Tryz.prog 30 4=some 4:=by kernel_rfl
@[go_sem] theorem fd30_5:fdI Tryz.prog 30 5=some 5:=by kernel_rfl
@[go_sem] theorem fd32_0:fdI Tryz.prog 32 0=some 0:=by kernel_rfl
@[go_sem] theorem fd32_1:fdI Tryz.prog 32 1=some 1:=by kernel_rfl
@[go_sem] theorem fd32_2:fdI Tryz.prog 32 2=some 2:=by kernel_rfl
@[go_sem] theorem fd34_0:fdI Tryz.prog 34 0=some 0:=by kernel_rfl
@[go_sem] theorem fd34_1:fdI Tryz.prog 34 1=some 1:=by kernel_rfl
@[go_sem] theorem fd34_2:fdI Tryz.prog 34 2=some 2:=by kernel_rfl
@[go_sem] theorem fd34_3:fdI Tryz.prog 34 3=some 3:=by kernel_rfl
@[go_sem] theorem fd37_0:fdI Tryz.prog 37 0=some 0:=by kernel_rfl
@[go_sem] theorem fd37_1:fdI Tryz.prog 37 1=some 1:=by kernel_rfl
@[go_sem] theorem fd37_2:fdI Tryz.prog 37 2=some 9:=by kernel_rfl
@[go_sem] theorem fd37_3:fdI Tryz.prog 37 3=some 17:=by kernel_rfl
@[go_sem] theorem fd37_4:fdI Tryz.prog 37 4=some 18:=by kernel_rfl
@[go_sem] theorem fd37_5:fdI Tryz.prog 37 5=some 22:=by kernel_rfl
@[go_sem] theorem fd37_6:fdI Tryz.prog 37 6=some 28:=by kernel_rfl
@[go_sem] theorem fd37_7:fdI Tryz.prog 37 7=some 31:=by kernel_rfl
@[go_sem] theorem fd37_8:fdI Tryz.prog 37 8=some 34:=by kernel_rfl
@[go_sem] theorem fd37_9:fdI Tryz.prog 37 9=some 38:=by kernel_rfl
@[go_sem] theorem fd37_10:fdI Tryz.prog 37 10=some 42:=by kernel_rfl
@[go_sem] theorem fd37_11:fdI Tryz.prog 37 11=some 43:=by kernel_rfl
@[go_sem] theorem fd37_12:fdI Tryz.prog 37 12=some 44:=by kernel_rfl
@[go_sem] theorem fd37_13:fdI Tryz.prog 37 13=some 45:=by kernel_rfl
@[go_sem] theorem fd37_14:fdI Tryz.prog 37 14=some 46:=by kernel_rfl
@[go_sem] theorem fd37_15:fdI Tryz.prog 37 15=some 47:=by kernel_rfl
@[go_sem] theorem fd37_16:fdI Tryz.prog 37 16=some 48:=by kernel_rfl
@[go_sem] theorem fd37_17:fdI Tryz.prog 37 17=some 49:=by kernel_rfl
@[go_sem] theorem fd43_0:fdI Tryz.prog 43 0=some 0:=by kernel_rfl
@[go_sem] theorem fd43_1:fdI Tryz.prog 43 1=some 1:=by kernel_rfl
@[go_sem] theorem fd43_2:fdI Tryz.prog 43 2=some 2:=by kernel_rfl
@[go_sem] theorem fd43_3:fdI Tryz.prog 43 3=some 3:=by kernel_rfl
@[go_sem] theorem fd46_0:fdI Tryz.prog 46 0=some 0:=by kernel_rfl
@[go_sem] theorem fd46_1:fdI Tryz.prog 46 1=some 1:=by kernel_rfl
@[go_sem] theorem fd46_2:fdI Tryz.prog 46 2=some 5:=by kernel_rfl
@[go_sem] theorem fd46_3:fdI Tryz.prog 46 3=some 6:=by kernel_rfl
@[go_sem] theorem fd46_4:fdI Tryz.prog 46 4=some 7:=by kernel_rfl
@[go_sem] theorem fd46_5:fdI Tryz.prog 46 5=some 8:=by kernel_rfl
@[go_sem] theorem fd46_6:fdI Tryz.prog 46 6=some 9:=by kernel_rfl
@[go_sem] theorem fd46_7:fdI Tryz.prog 46 7=some 10:=by kernel_rfl
@[go_sem] theorem fd46_8:fdI Tryz.prog 46 8=some 11:=by kernel_rfl
@[go_sem] theorem fd49_0:fdI Tryz.prog 49 0=some 0:=by kernel_rfl
@[go_sem] theorem fd49_1:fdI Tryz.prog 49 1=some 1:=by kernel_rfl
@[go_sem] theorem fd51_0:fdI Tryz.prog 51 0=some 0:=by kernel_rfl
@[go_sem] theorem fd51_1:fdI Tryz.prog 51 1=some 1:=by kernel_rfl
@[go_sem] theorem fd51_2:fdI Tryz.prog 51 2=some 3:=by kernel_rfl
@[go_sem] theorem fd51_3:fdI Tryz.prog 51 3=some 4:=by kernel_rfl
@[go_sem] theorem fd51_4:fdI Tryz.prog 51 4=some 5:=by kernel_rfl
@[go_sem] theorem fd53_0:fdI Tryz.prog 53 0=some 0:=by kernel_rfl
@[go_sem] theorem fd53_1:fdI Tryz.prog 53 1=some 1:=by kernel_rfl
@[go_sem] theorem fd55_0:fdI Tryz.prog 55 0=some 0:=by kernel_rfl
@[go_sem] theorem fd55_1:fdI Tryz.prog 55 1=some 1:=by kernel_rfl
@[go_sem] theorem fd55_2:fdI Tryz.prog 55 2=some 13:=by kernel_rfl
@[go_sem] theorem fd55_3:fdI Tryz.prog 55 3=some 17:=by kernel_rfl
@[go_sem] theorem fd55_4:fdI Tryz.prog 55 4=some 23:=by kernel_rfl
@[go_sem] theorem fd55_5:fdI Tryz.prog 55 5=some 29:=by kernel_rfl
@[go_sem] theorem fd55_6:fdI Tryz.prog 55 6=some 31:=by kernel_rfl
@[go_sem] theorem fd55_7:fdI Tryz.prog 55 7=some 32:=by kernel_rfl
@[go_sem] theorem fd55_8:fdI Tryz.prog 55 8=some 33:=by kernel_rfl
@[go_sem] theorem fd55_9:fdI Tryz.prog 55 9=some 34:=by kernel_rfl
@[go_sem] theorem fd55_10:fdI Tryz.prog 55 10=some 35:=by kernel_rfl
@[go_sem] theorem fd55_11:fdI Tryz.prog 55 11=some 36:=by kernel_rfl
@[go_sem] theorem fd55_12:fdI Tryz.prog 55 12=some 37:=by kernel_rfl
@[go_sem] theorem fd55_13:fdI Tryz.prog 55 13=some 38:=by kernel_rfl
@[go_sem] theorem fd83_0:fdI Tryz.prog 83 0=some 0:=by kernel_rfl
@[go_sem] theorem fd83_1:fdI Tryz.prog 83 1=some 1:=by kernel_rfl
@[go_sem] theorem fd86_0:fdI Tryz.prog 86 0=some 0:=by kernel_rfl
@[go_sem] theorem fd86_1:fdI Tryz.prog 86 1=some 1:=by kernel_rfl
@[go_sem] theorem fd88_0:fdI Tryz.prog 88 0=some 0:=by kernel_rfl
@[go_sem] theorem fd88_1:fdI Tryz.prog 88 1=some 1:=by kernel_rfl
@[go_sem] theorem fd88_2:fdI Tryz.prog 88 2=some 2:=by kernel_rfl
@[go_sem] theorem fd88_3:fdI Tryz.prog 88 3=some 3:=by kernel_rfl
@[go_sem] theorem fd88_4:fdI Tryz.prog 88 4=some 4:=by kernel_rfl
@[go_sem] theorem fd88_5:fdI Tryz.prog 88 5=some 5:=by kernel_rfl
@[go_sem] theorem fd88_6:fdI Tryz.prog 88 6=some 6:=by kernel_rfl
@[go_sem] theorem fd88_7:fdI Tryz.prog 88 7=some 7:=by kernel_rfl
@[go_sem] theorem fd88_8:fdI Tryz.prog 88 8=some 8:=by kernel_rfl
@[go_sem] theorem fd91_0:fdI Tryz.prog 91 0=some 0:=by kernel_rfl
@[go_sem] theorem fd91_1:fdI Tryz.prog 91 1=some 1:=by kernel_rfl
@[go_sem] theorem fd91_2:fdI Tryz.prog 91 2=some 2:=by kernel_rfl
@[go_sem] theorem fd152_0:fdI Tryz.prog 152 0=some 0:=by kernel_rfl
@[go_sem] theorem fd152_1:fdI Tryz.prog 152 1=some 1:=by kernel_rfl
@[go_sem] theorem fd206_0:fdI Tryz.prog 206 0=some 0:=by kernel_rfl
@[go_sem] theorem fd206_1:fdI Tryz.prog 206 1=some 1:=by kernel_rfl
@[go_sem] theorem fd206_2:fdI Tryz.prog 206 2=some 2:=by kernel_rfl
@[go_sem] theorem fd228_0:fdI Tryz.prog 228 0=some 0:=by kernel_rfl
@[go_sem] theorem fd228_1:fdI Tryz.prog 228 1=some 1:=by kernel_rfl
@[go_sem] theorem zr3:zrI Tryz.prog 3=some [.d (.int .i64 0)]:=by kernel_rfl
@[go_sem] theorem zr5:zrI Tryz.prog 5=some [.d (.int .u8 0)]:=by kernel_rfl
@[go_sem] theorem zr9:zrI Tryz.prog 9=some [.d (.str [])]:=by kernel_rfl
@[go_sem] theorem zr25:zrI Tryz.prog 25=some [.d (.int .i64 0),.d (.int .i64 0),.d (.int .i64 0),.d (.int .i64 0),.d (.int .i64 0),.d (.int .i64 0),.d (.int .i64 0),.d (.int .i64 0)]:=by kernel_rfl
@[go_sem] theorem zr28:zrI Tryz.prog 28=some [.d (.int .i64 0),.d (.int .i64 0),.d (.int .i64 0),.d (.int .i64 0)]:=by kernel_rfl
@[go_sem] theorem zr30:zrI Tryz.prog 30=some [.d (.int .i64 0),.d (.int .i64 0),.d (.int .i64 0),.d (.int .i64 0),.d (.int .i64 0),.d (.int .i64 0)]:=by kernel_rfl
@[go_sem] theorem zr32:zrI Tryz.prog 32=some [.d (.int .i64 0),.d (.int .i64 0),.d (.int .i64 0)]:=by kernel_rfl
@[go_sem] theorem zr34:zrI Tryz.prog 34=some [.d (.int .i64 0),.d (.int .i64 0),.d (.int .i64 0),.d (.int .i64 0)]:=by kernel_rfl
@[go_sem] theorem zr37:zrI Tryz.prog 37=some [.d (.bool false),.d (.int .i64 0),.d (.int .i64 0),.d (.int .i64 0),.d (.int .i64 0),.d (.int .i64 0),.d (.int .i64 0),.d (.int .i64 0),.d (.int .i64 0),.d (.int .i64 0),.d (.int .i64 0),.d (.int .i64 0),.d (.int .i64 0),.d (.int .i64 0),.d (.int .i64 0),.d (.int .i64 0),.d (.int .i64 0),.nils 39,.d (.int .i64 0),.d (.int .i64 0),.d (.int .i64 0),.d (.int .i64 0),.d (.int .i64 0),.d (.int .i64 0),.d (.int .i64 0),.d (.int .i64 0),.d (.int .i64 0),.d (.int .i64 0),.d (.int .i64 0),.d (.int .i64 0),.d (.int .i64 0),.d (.int .i64 0),.d (.int .i64 0),.d (.int .i64 0),.d (.int .i64 0),.d (.int .i64 0),.d (.int .i64 0),.d (.int .i64 0),.d (.int .i64 0),.d (.int .i64 0),.d (.int .i64 0),.d (.int .i64 0),.d (.bool false),.d (.bool false),.d (.bool false),.d (.int .i64 0),.d (.int .i64 0),.nils 2,.d (.int .i64 0),.d (.int .i64 0)]:=by kernel_rfl
@[go_sem] theorem zr43:zrI Tryz.prog 43=some [.d (.int .i64 0),.d (.int .i64 0),.d (.int .i64 0),.nils 1]:=by kernel_rfl
@[go_sem] theorem zr46:zrI Tryz.prog 46=some [.d (.int .i64 0),.d (.int .i64 0),.d (.int .i64 0),.d (.int .i64 0),.nils 1,.nils 2,.nils 2,.nils 2,.d (.int .i64 0),.d (.int .i64 0),.d (.int .i64 0),.d (.int .i64 0)]:=by kernel_rfl
@[go_sem] theorem zr49:zrI Tryz.prog 49=some [.d (.int .i64 0),.nils 2]:=by kernel_rfl
@[go_sem] theorem zr51:zrI Tryz.prog 51=some [.d (.int .i64 0),.d (.int .i64 0),.nils 2,.d (.int .i64 0),.d (.int .i64 0),.d (.int .i64 0)]:=by kernel_rfl
@[go_sem] theorem zr53:zrI Tryz.prog 53=some [.d (.int .i64 0),.d (.bool false)]:=by kernel_rfl
@[go_sem] theorem zr55:zrI Tryz.prog 55=some [.d (.int .i64 0),.d (.int .i64 0),.d (.int .i64 0),.d (.int .i64 0),.d (.int .i64 0),.nils 1,.nils 2,.nils 2,.nils 2,.d (.int .i64 0),.d (.int .i64 0),.d (.int .i64 0),.d (.int .i64 0),.d (.int .i64 0),.d (.int .i64 0),.d (.int .i64 0),.d (.int .i64 0),.d (.int .i64 0),.d (.int .i64 0),.nils 2,.d (.int .i64 0),.d (.int .i64 0),.d (.int .i64 0),.d (.int .i64 0),.d (.int .i64 0),.d (.int .i64 0),.d (.int .i64 0),.d (.int .i64 0),.d (.int .i64 0),.d (.int .i64 0),.d (.bool false),.d (.bool false),.d (.bool false),.d (.bool false),.d (.bool false),.d (.bool false),.d (.bool false),.d (.int .i64 0),.d (.bool false)]:=by kernel_rfl
@[go_sem] theorem zr60:zrI Tryz.prog 60=some [.d (.int .i64 0),.d (.int .i64 0)]:=by kernel_rfl
@[go_sem] theorem zr83:zrI Tryz.prog 83=some [.d (.int .i64 0),.nils 9]:=by kernel_rfl
@[go_sem] theorem zr86:zrI Tryz.prog 86=some [.d (.int .i64 0),.d (.int .i64 0)]:=by kernel_rfl
@[go_sem] theorem zr88:zrI Tryz.prog 88=some [.d (.int .i64 0),.d (.int .i64 0),.d (.int .i64 0),.d (.str []),.d (.bool false),.d (.int .i64 0),.d (.int .i64 0),.d (.int .i64 0),.d (.bool false)]:=by kernel_rfl
@[go_sem] theorem zr91:zrI Tryz.prog 91=some [.nils 1,.d (.int .i64 0),.d (.int .i64 0)]:=by kernel_rfl
@[go_sem] theorem zr152:zrI Tryz.prog 152=some [.d (.int .i64 0),.d (.str [])]:=by kernel_rfl
@[go_sem] theorem zr206:zrI Tryz.prog 206=some [.d (.int .i64 0),.d (.str []),.d (.bool false)]:=by kernel_rfl
@[go_sem] theorem zr228:zrI Tryz.prog 228=some [.d (.int .i64 0),.d (.int .i64 0),.d (.bool false)]:=by kernel_rfl
@[go_sem] theorem pl25:plI Tryz.prog 25=some fun j=>([(0,1),(1,1),(2,1),(3,1),(4,1),(5,1),(6,1),(7,1)]:List (Nat×Nat))[j]?:=by kernel_rfl
@[go_sem] theorem pl28:plI Tryz.prog 28=some fun j=>([(0,1),(1,1),(2,1),(3,1)]:List (Nat×Nat))[j]?:=by kernel_rfl
@[go_sem] theorem pl30:plI Tryz.prog 30=some fun j=>([(0,1),(1,1),(2,1),(3,1),(4,1),(5,1)]:List (Nat×Nat))[j]?:=by kernel_rfl
@[go_sem] theorem pl32:plI Tryz.prog 32=some fun j=>([(0,1),(1,1),(2,1)]:List (Nat×Nat))[j]?:=by kernel_rfl
@[go_sem] theorem pl34:plI Tryz.prog 34=some fun j=>([(0,1),(1,1),(2,1),(3,1)]:List (Nat×Nat))[j]?:=by kernel_rfl
@[go_sem] theorem pl37:plI Tryz.prog 37=some fun j=>([(0,1),(1,8),(9,8),(17,1),(18,4),(22,6),(28,3),(31,3),(34,4),(38,4),(42,1),(43,1),(44,1),(45,1),(46,1),(47,1),(48,1),(49,1)]:List (Nat×Nat))[j]?:=by kernel_rfl
@[go_sem] theorem pl43:plI Tryz.prog 43=some fun j=>([(0,1),(1,1),(2,1),(3,1)]:List (Nat×Nat))[j]?:=by kernel_rfl
@[go_sem] theorem pl46:plI Tryz.prog 46=some fun j=>([(0,1),(1,4),(5,1),(6,1),(7,1),(8,1),(9,1),(10,1),(11,1)]:List (Nat×Nat))[j]?:=by kernel_rfl
@[go_sem] theorem pl49:plI Tryz.prog 49=some fun j=>([(0,1),(1,1)]:List (Nat×Nat))[j]?:=by kernel_rfl
@[go_sem] theorem pl51:plI Tryz.prog 51=some fun j=>([(0,1),(1,2),(3,1),(4,1),(5,1)]:List (Nat×Nat))[j]?:=by kernel_rfl
@[go_sem] theorem pl53:plI Tryz.prog 53=some fun j=>([(0,1),(1,1)]:List (Nat×Nat))[j]?:=by kernel_rfl
@[go_sem] theorem pl55:plI Tryz.prog 55=some fun j=>([(0,1),(1,12),(13,4),(17,6),(23,6),(29,2),(31,1),(32,1),(33,1),(34,1),(35,1),(36,1),(37,1),(38,1)]:List (Nat×Nat))[j]?:=by kernel_rfl
@[go_sem] theorem pl60:plI Tryz.prog 60=some fun j=>some (j * 1,1):=by kernel_rfl
@[go_sem] theorem pl83:plI Tryz.prog 83=some fun j=>([(0,1),(1,1)]:List (Nat×Nat))[j]?:=by kernel_rfl
@[go_sem] theorem pl86:plI Tryz.prog 86=some fun j=>([(0,1),(1,1)]:List (Nat×Nat))[j]?:=by kernel_rfl
@[go_sem] theorem pl88:plI Tryz.prog 88=some fun j=>([(0,1),(1,1),(2,1),(3,1),(4,1),(5,1),(6,1),(7,1),(8,1)]:List (Nat×Nat))[j]?:=by kernel_rfl
@[go_sem] theorem pl91:plI Tryz.prog 91=some fun j=>([(0,1),(1,1),(2,1)]:List (Nat×Nat))[j]?:=by kernel_rfl
@[go_sem] theorem pl152:plI Tryz.prog 152=some fun j=>([(0,1),(1,1)]:List (Nat×Nat))[j]?:=by kernel_rfl
@[go_sem] theorem pl206:plI Tryz.prog 206=some fun j=>([(0,1),(1,1),(2,1)]:List (Nat×Nat))[j]?:=by kernel_rfl
@[go_sem] theorem pl228:plI Tryz.prog 228=some fun j=>([(0,1),(1,2)]:List (Nat×Nat))[j]?:=by kernel_rfl
@[go_sem] theorem eq60:EqOK Tryz.prog 60 [.i .i64,.i .i64]=True:=eq_true (EqOK_of (by kernel_rfl) (by kernel_rfl) (by kernel_rfl) (by kernel_rfl) (by kernel_rfl))
@[go_sem] theorem eq86:EqOK Tryz.prog 86 [.i .i64,.i .i64]=True:=eq_true (EqOK_of (by kernel_rfl) (by kernel_rfl) (by kernel_rfl) (by kernel_rfl) (by kernel_rfl))
@[go_sem] theorem eq88:EqOK Tryz.prog 88 [.i .i64,.i .i64,.i .i64,.s,.b,.i .i64,.i .i64,.i .i64,.b]=True:=eq_true (EqOK_of (by kernel_rfl) (by kernel_rfl) (by kernel_rfl) (by kernel_rfl) (by kernel_rfl))
set_option maxRecDepth 100000 in
theorem pureT {f:FuncId} {fn:Func} {c:Code} {args res:List AD} (n:Nat) (hf:Tryz.prog.funcs[f]?=some fn) (hcall:∀ (args:Array Value) (w:World),(callFunc f args).run Tryz.prog w=.ok (.enter f args) w) (rs:List ResultVar) (h:adOks args→codeE Tryz.prog [] c ⟨ts0 args n,[]⟩ (hide (retE Tryz.prog rs res) .mk) [] (hide (retE Tryz.prog rs res) .mk)) (hb:fn.body=some c:=by rfl) (hn:fn.ntmps=n:=by rfl) (hr:fn.results.toList=rs:=by rfl):PureCall Tryz.prog f args res:=
 pure_ev hf hb hcall Tryz.checked.mixed _ (by rw [hn];exact ts0_eq args n) rs hr h
def eI (n:Int):List D:=[.int .i64 n]
def eS (s:List UInt8):List D:=[.str s]
def eU8 (n:Int):List D:=[.int .u8 n]
theorem flat_map {α:Type} {f:α→List D} (h:∀ a,(f a).all D.flat=true) (xs:List α):flatE (xs.map f)=true:=by simp [flatE,h]
@[go_sem] theorem flat_eI (xs:List Int):flatE (xs.map eI)=true:=flat_map (fun _=>rfl) xs
@[go_sem] theorem flat_eS (xs:List (List UInt8)):flatE (xs.map eS)=true:=flat_map (fun _=>rfl) xs
structure TConf where
 ring:Int
 window:Int
 windowMost:Int
 total:Int
 totalMost:Int
 bidi:Int
 uni:Int
 trip:Int
 deriving DecidableEq
def TConf.enc (x:TConf):List D:=[.int .i64 x.ring,.int .i64 x.window,.int .i64 x.windowMost,.int .i64 x.total,.int .i64 x.totalMost,.int .i64 x.bidi,.int .i64 x.uni,.int .i64 x.trip]
@[go_sem] theorem flat_TConf (xs:List TConf):flatE (xs.map TConf.enc)=true:=flat_map (fun _=>rfl) xs
structure TRing where
 size:Int
 base:Int
 end':Int
 cells:List Int
 deriving DecidableEq
def TRing.enc (x:TRing):List D:=[.int .i64 x.size,.int .i64 x.base,.int .i64 x.end',.sl 1 (x.cells.map eI)]
structure TRange where
 low:Int
 high:Int
 deriving DecidableEq
def TRange.enc (x:TRange):List D:=[.int .i64 x.low,.int .i64 x.high]
@[go_sem] theorem flat_TRange (xs:List TRange):flatE (xs.map TRange.enc)=true:=flat_map (fun _=>rfl) xs
structure TSender where
 state:Int
 ring:TRing
 pending:List TRange
 flight:List TRange
 acked:List TRange
 final:Int
 fin:Int
 sent:Int
 code:Int
 deriving DecidableEq
def TSender.enc (x:TSender):List D:=[.int .i64 x.state,.int .i64 x.ring.size,.int .i64 x.ring.base,.int .i64 x.ring.end',.sl 1 (x.ring.cells.map eI),.sl 2 (x.pending.map TRange.enc),.sl 2 (x.flight.map TRange.enc),.sl 2 (x.acked.map TRange.enc),.int .i64 x.final,.int .i64 x.fin,.int .i64 x.sent,.int .i64 x.code]
structure TCredit where
 limit:Int
 used:Int
 blocked:Int
 told:Int
 deriving DecidableEq
def TCredit.enc (x:TCredit):List D:=[.int .i64 x.limit,.int .i64 x.used,.int .i64 x.blocked,.int .i64 x.told]
@[go_sem] theorem flat_TCredit (xs:List TCredit):flatE (xs.map TCredit.enc)=true:=flat_map (fun _=>rfl) xs
structure TChunk where
 offset:Int
 data:List UInt8
 deriving DecidableEq
def TChunk.enc (x:TChunk):List D:=[.int .i64 x.offset,.str x.data]
@[go_sem] theorem flat_TChunk (xs:List TChunk):flatE (xs.map TChunk.enc)=true:=flat_map (fun _=>rfl) xs
structure TBuffer where
 next:Int
 chunks:List TChunk
 deriving DecidableEq
def TBuffer.enc (x:TBuffer):List D:=[.int .i64 x.next,.sl 2 (x.chunks.map TChunk.enc)]
structure TReceiver where
 state:Int
 buffer:TBuffer
 final:Int
 highest:Int
 code:Int
 deriving DecidableEq
def TReceiver.enc (x:TReceiver):List D:=[.int .i64 x.state,.int .i64 x.buffer.next,.sl 2 (x.buffer.chunks.map TChunk.enc),.int .i64 x.final,.int .i64 x.highest,.int .i64 x.code]
structure TWindow where
 size:Int
 most:Int
 limit:Int
 seen:Int
 read:Int
 since:Int
 deriving DecidableEq
def TWindow.enc (x:TWindow):List D:=[.int .i64 x.size,.int .i64 x.most,.int .i64 x.limit,.int .i64 x.seen,.int .i64 x.read,.int .i64 x.since]
@[go_sem] theorem flat_TWindow (xs:List TWindow):flatE (xs.map TWindow.enc)=true:=flat_map (fun _=>rfl) xs
structure TPriority where
 urgency:Int
 incremental:Bool
 deriving DecidableEq
def TPriority.enc (x:TPriority):List D:=[.int .i64 x.urgency,.bool x.incremental]
@[go_sem] theorem flat_TPriority (xs:List TPriority):flatE (xs.map TPriority.enc)=true:=flat_map (fun _=>rfl) xs
structure TStream where
 id:Int
 send:TSender
 credit:TCredit
 recv:TReceiver
 window:TWindow
 priority:TPriority
 canSend:Bool
 canRecv:Bool
 tellReset:Bool
 tellStop:Bool
 tellMost:Bool
 stopped:Bool
 stopCode:Int
 counted:Bool
 deriving DecidableEq
def TStream.enc (x:TStream):List D:=[.int .i64 x.id,.int .i64 x.send.state,.int .i64 x.send.ring.size,.int .i64 x.send.ring.base,.int .i64 x.send.ring.end',.sl 1 (x.send.ring.cells.map eI),.sl 2 (x.send.pending.map TRange.enc),.sl 2 (x.send.flight.map TRange.enc),.sl 2 (x.send.acked.map TRange.enc),.int .i64 x.send.final,.int .i64 x.send.fin,.int .i64 x.send.sent,.int .i64 x.send.code,.int .i64 x.credit.limit,.int .i64 x.credit.used,.int .i64 x.credit.blocked,.int .i64 x.credit.told,.int .i64 x.recv.state,.int .i64 x.recv.buffer.next,.sl 2 (x.recv.buffer.chunks.map TChunk.enc),.int .i64 x.recv.final,.int .i64 x.recv.highest,.int .i64 x.recv.code,.int .i64 x.window.size,.int .i64 x.window.most,.int .i64 x.window.limit,.int .i64 x.window.seen,.int .i64 x.window.read,.int .i64 x.window.since,.int .i64 x.priority.urgency,.bool x.priority.incremental,.bool x.canSend,.bool x.canRecv,.bool x.tellReset,.bool x.tellStop,.bool x.tellMost,.bool x.stopped,.int .i64 x.stopCode,.bool x.counted]
structure TCount where
 limit:Int
 opened:Int
 blocked:Int
 deriving DecidableEq
def TCount.enc (x:TCount):List D:=[.int .i64 x.limit,.int .i64 x.opened,.int .i64 x.blocked]
@[go_sem] theorem flat_TCount (xs:List TCount):flatE (xs.map TCount.enc)=true:=flat_map (fun _=>rfl) xs
structure TAllow where
 most:Int
 limit:Int
 seen:Int
 closed:Int
 deriving DecidableEq
def TAllow.enc (x:TAllow):List D:=[.int .i64 x.most,.int .i64 x.limit,.int .i64 x.seen,.int .i64 x.closed]
@[go_sem] theorem flat_TAllow (xs:List TAllow):flatE (xs.map TAllow.enc)=true:=flat_map (fun _=>rfl) xs
structure TFrame where
 kind:Int
 stream:Int
 offset:Int
 data:List UInt8
 fin:Bool
 code:Int
 limit:Int
 final:Int
 uni:Bool
 deriving DecidableEq
def TFrame.enc (x:TFrame):List D:=[.int .i64 x.kind,.int .i64 x.stream,.int .i64 x.offset,.str x.data,.bool x.fin,.int .i64 x.code,.int .i64 x.limit,.int .i64 x.final,.bool x.uni]
@[go_sem] theorem flat_TFrame (xs:List TFrame):flatE (xs.map TFrame.enc)=true:=flat_map (fun _=>rfl) xs
structure TPacket where
 number:Int
 frames:List TFrame
 deriving DecidableEq
def TPacket.enc (x:TPacket):List D:=[.int .i64 x.number,.sl 9 (x.frames.map TFrame.enc)]
structure TConn where
 server:Bool
 own:TConf
 peer:TConf
 streams:List TStream
 total:TCredit
 inflow:TWindow
 openBidi:TCount
 openUni:TCount
 allowBidi:TAllow
 allowUni:TAllow
 tellTotal:Bool
 tellBidi:Bool
 tellUni:Bool
 last:Int
 number:Int
 packets:List TPacket
 now:Int
 closed:Int
 deriving DecidableEq
def TConn.enc (x:TConn):List D:=[.bool x.server,.int .i64 x.own.ring,.int .i64 x.own.window,.int .i64 x.own.windowMost,.int .i64 x.own.total,.int .i64 x.own.totalMost,.int .i64 x.own.bidi,.int .i64 x.own.uni,.int .i64 x.own.trip,.int .i64 x.peer.ring,.int .i64 x.peer.window,.int .i64 x.peer.windowMost,.int .i64 x.peer.total,.int .i64 x.peer.totalMost,.int .i64 x.peer.bidi,.int .i64 x.peer.uni,.int .i64 x.peer.trip,.sl 39 (x.streams.map TStream.enc),.int .i64 x.total.limit,.int .i64 x.total.used,.int .i64 x.total.blocked,.int .i64 x.total.told,.int .i64 x.inflow.size,.int .i64 x.inflow.most,.int .i64 x.inflow.limit,.int .i64 x.inflow.seen,.int .i64 x.inflow.read,.int .i64 x.inflow.since,.int .i64 x.openBidi.limit,.int .i64 x.openBidi.opened,.int .i64 x.openBidi.blocked,.int .i64 x.openUni.limit,.int .i64 x.openUni.opened,.int .i64 x.openUni.blocked,.int .i64 x.allowBidi.most,.int .i64 x.allowBidi.limit,.int .i64 x.allowBidi.seen,.int .i64 x.allowBidi.closed,.int .i64 x.allowUni.most,.int .i64 x.allowUni.limit,.int .i64 x.allowUni.seen,.int .i64 x.allowUni.closed,.bool x.tellTotal,.bool x.tellBidi,.bool x.tellUni,.int .i64 x.last,.int .i64 x.number,.sl 2 (x.packets.map TPacket.enc),.int .i64 x.now,.int .i64 x.closed]
structure TCandidate where
 id:Int
 priority:TPriority
 deriving DecidableEq
def TCandidate.enc (x:TCandidate):List D:=[.int .i64 x.id,.int .i64 x.priority.urgency,.bool x.priority.incremental]
@[go_sem] theorem flat_TCandidate (xs:List TCandidate):flatE (xs.map TCandidate.enc)=true:=flat_map (fun _=>rfl) xs
structure TPiece where
 offset:Int
 data:List UInt8
 fin:Bool
 deriving DecidableEq
def TPiece.enc (x:TPiece):List D:=[.int .i64 x.offset,.str x.data,.bool x.fin]
@[go_sem] theorem flat_TPiece (xs:List TPiece):flatE (xs.map TPiece.enc)=true:=flat_map (fun _=>rfl) xs
def TConn.ve (x:TConn):List V:=[.d (.bool x.server),.d (.int .i64 x.own.ring),.d (.int .i64 x.own.window),.d (.int .i64 x.own.windowMost),.d (.int .i64 x.own.total),.d (.int .i64 x.own.totalMost),.d (.int .i64 x.own.bidi),.d (.int .i64 x.own.uni),.d (.int .i64 x.own.trip),.d (.int .i64 x.peer.ring),.d (.int .i64 x.peer.window),.d (.int .i64 x.peer.windowMost),.d (.int .i64 x.peer.total),.d (.int .i64 x.peer.totalMost),.d (.int .i64 x.peer.bidi),.d (.int .i64 x.peer.uni),.d (.int .i64 x.peer.trip),.d (.sl 39 (x.streams.map TStream.enc)),.d (.int .i64 x.total.limit),.d (.int .i64 x.total.used),.d (.int .i64 x.total.blocked),.d (.int .i64 x.total.told),.d (.int .i64 x.inflow.size),.d (.int .i64 x.inflow.most),.d (.int .i64 x.inflow.limit),.d (.int .i64 x.inflow.seen),.d (.int .i64 x.inflow.read),.d (.int .i64 x.inflow.since),.d (.int .i64 x.openBidi.limit),.d (.int .i64 x.openBidi.opened),.d (.int .i64 x.openBidi.blocked),.d (.int .i64 x.openUni.limit),.d (.int .i64 x.openUni.opened),.d (.int .i64 x.openUni.blocked),.d (.int .i64 x.allowBidi.most),.d (.int .i64 x.allowBidi.limit),.d (.int .i64 x.allowBidi.seen),.d (.int .i64 x.allowBidi.closed),.d (.int .i64 x.allowUni.most),.d (.int .i64 x.allowUni.limit),.d (.int .i64 x.allowUni.seen),.d (.int .i64 x.allowUni.closed),.d (.bool x.tellTotal),.d (.bool x.tellBidi),.d (.bool x.tellUni),.d (.int .i64 x.last),.d (.int .i64 x.number),.d (.sl 2 (x.packets.map TPacket.enc)),.d (.int .i64 x.now),.d (.int .i64 x.closed)]
def TConn.vc (x:TConn) (a0 a1:V):List V:=[.d (.bool x.server),.d (.int .i64 x.own.ring),.d (.int .i64 x.own.window),.d (.int .i64 x.own.windowMost),.d (.int .i64 x.own.total),.d (.int .i64 x.own.totalMost),.d (.int .i64 x.own.bidi),.d (.int .i64 x.own.uni),.d (.int .i64 x.own.trip),.d (.int .i64 x.peer.ring),.d (.int .i64 x.peer.window),.d (.int .i64 x.peer.windowMost),.d (.int .i64 x.peer.total),.d (.int .i64 x.peer.totalMost),.d (.int .i64 x.peer.bidi),.d (.int .i64 x.peer.uni),.d (.int .i64 x.peer.trip),a0,.d (.int .i64 x.total.limit),.d (.int .i64 x.total.used),.d (.int .i64 x.total.blocked),.d (.int .i64 x.total.told),.d (.int .i64 x.inflow.size),.d (.int .i64 x.inflow.most),.d (.int .i64 x.inflow.limit),.d (.int .i64 x.inflow.seen),.d (.int .i64 x.inflow.read),.d (.int .i64 x.inflow.since),.d (.int .i64 x.openBidi.limit),.d (.int .i64 x.openBidi.opened),.d (.int .i64 x.openBidi.blocked),.d (.int .i64 x.openUni.limit),.d (.int .i64 x.openUni.opened),.d (.int .i64 x.openUni.blocked),.d (.int .i64 x.allowBidi.most),.d (.int .i64 x.allowBidi.limit),.d (.int .i64 x.allowBidi.seen),.d (.int .i64 x.allowBidi.closed),.d (.int .i64 x.allowUni.most),.d (.int .i64 x.allowUni.limit),.d (.int .i64 x.allowUni.seen),.d (.int .i64 x.allowUni.closed),.d (.bool x.tellTotal),.d (.bool x.tellBidi),.d (.bool x.tellUni),.d (.int .i64 x.last),.d (.int .i64 x.number),a1,.d (.int .i64 x.now),.d (.int .i64 x.closed)]
def TConn.zc:List V:=[.d (.bool false),.d (.int .i64 0),.d (.int .i64 0),.d (.int .i64 0),.d (.int .i64 0),.d (.int .i64 0),.d (.int .i64 0),.d (.int .i64 0),.d (.int .i64 0),.d (.int .i64 0),.d (.int .i64 0),.d (.int .i64 0),.d (.int .i64 0),.d (.int .i64 0),.d (.int .i64 0),.d (.int .i64 0),.d (.int .i64 0),.nils 39,.d (.int .i64 0),.d (.int .i64 0),.d (.int .i64 0),.d (.int .i64 0),.d (.int .i64 0),.d (.int .i64 0),.d (.int .i64 0),.d (.int .i64 0),.d (.int .i64 0),.d (.int .i64 0),.d (.int .i64 0),.d (.int .i64 0),.d (.int .i64 0),.d (.int .i64 0),.d (.int .i64 0),.d (.int .i64 0),.d (.int .i64 0),.d (.int .i64 0),.d (.int .i64 0),.d (.int .i64 0),.d (.int .i64 0),.d (.int .i64 0),.d (.int .i64 0),.d (.int .i64 0),.d (.bool false),.d (.bool false),.d (.bool false),.d (.int .i64 0),.d (.int .i64 0),.nils 2,.d (.int .i64 0),.d (.int .i64 0)]
attribute [go_sem,simp] TConn.enc TConn.ve TConn.vc TConn.zc
def TStream.ve (x:TStream):List V:=[.d (.int .i64 x.id),.d (.int .i64 x.send.state),.d (.int .i64 x.send.ring.size),.d (.int .i64 x.send.ring.base),.d (.int .i64 x.send.ring.end'),.d (.sl 1 (x.send.ring.cells.map eI)),.d (.sl 2 (x.send.pending.map TRange.enc)),.d (.sl 2 (x.send.flight.map TRange.enc)),.d (.sl 2 (x.send.acked.map TRange.enc)),.d (.int .i64 x.send.final),.d (.int .i64 x.send.fin),.d (.int .i64 x.send.sent),.d (.int .i64 x.send.code),.d (.int .i64 x.credit.limit),.d (.int .i64 x.credit.used),.d (.int .i64 x.credit.blocked),.d (.int .i64 x.credit.told),.d (.int .i64 x.recv.state),.d (.int .i64 x.recv.buffer.next),.d (.sl 2 (x.recv.buffer.chunks.map TChunk.enc)),.d (.int .i64 x.recv.final),.d (.int .i64 x.recv.highest),.d (.int .i64 x.recv.code),.d (.int .i64 x.window.size),.d (.int .i64 x.window.most),.d (.int .i64 x.window.limit),.d (.int .i64 x.window.seen),.d (.int .i64 x.window.read),.d (.int .i64 x.window.since),.d (.int .i64 x.priority.urgency),.d (.bool x.priority.incremental),.d (.bool x.canSend),.d (.bool x.canRecv),.d (.bool x.tellReset),.d (.bool x.tellStop),.d (.bool x.tellMost),.d (.bool x.stopped),.d (.int .i64 x.stopCode),.d (.bool x.counted)]
def TStream.vc (x:TStream) (a0 a1 a2 a3 a4:V):List V:=[.d (.int .i64 x.id),.d (.int .i64 x.send.state),.d (.int .i64 x.send.ring.size),.d (.int .i64 x.send.ring.base),.d (.int .i64 x.send.ring.end'),a0,a1,a2,a3,.d (.int .i64 x.send.final),.d (.int .i64 x.send.fin),.d (.int .i64 x.send.sent),.d (.int .i64 x.send.code),.d (.int .i64 x.credit.limit),.d (.int .i64 x.credit.used),.d (.int .i64 x.credit.blocked),.d (.int .i64 x.credit.told),.d (.int .i64 x.recv.state),.d (.int .i64 x.recv.buffer.next),a4,.d (.int .i64 x.recv.final),.d (.int .i64 x.recv.highest),.d (.int .i64 x.recv.code),.d (.int .i64 x.window.size),.d (.int .i64 x.window.most),.d (.int .i64 x.window.limit),.d (.int .i64 x.window.seen),.d (.int .i64 x.window.read),.d (.int .i64 x.window.since),.d (.int .i64 x.priority.urgency),.d (.bool x.priority.incremental),.d (.bool x.canSend),.d (.bool x.canRecv),.d (.bool x.tellReset),.d (.bool x.tellStop),.d (.bool x.tellMost),.d (.bool x.stopped),.d (.int .i64 x.stopCode),.d (.bool x.counted)]
def TStream.zc:List V:=[.d (.int .i64 0),.d (.int .i64 0),.d (.int .i64 0),.d (.int .i64 0),.d (.int .i64 0),.nils 1,.nils 2,.nils 2,.nils 2,.d (.int .i64 0),.d (.int .i64 0),.d (.int .i64 0),.d (.int .i64 0),.d (.int .i64 0),.d (.int .i64 0),.d (.int .i64 0),.d (.int .i64 0),.d (.int .i64 0),.d (.int .i64 0),.nils 2,.d (.int .i64 0),.d (.int .i64 0),.d (.int .i64 0),.d (.int .i64 0),.d (.int .i64 0),.d (.int .i64 0),.d (.int .i64 0),.d (.int .i64 0),.d (.int .i64 0),.d (.int .i64 0),.d (.bool false),.d (.bool false),.d (.bool false),.d (.bool false),.d (.bool false),.d (.bool false),.d (.bool false),.d (.int .i64 0),.d (.bool false)]
attribute [go_sem,simp] TStream.enc TStream.ve TStream.vc TStream.zc
def TSender.ve (x:TSender):List V:=[.d (.int .i64 x.state),.d (.int .i64 x.ring.size),.d (.int .i64 x.ring.base),.d (.int .i64 x.ring.end'),.d (.sl 1 (x.ring.cells.map eI)),.d (.sl 2 (x.pending.map TRange.enc)),.d (.sl 2 (x.flight.map TRange.enc)),.d (.sl 2 (x.acked.map TRange.enc)),.d (.int .i64 x.final),.d (.int .i64 x.fin),.d (.int .i64 x.sent),.d (.int .i64 x.code)]
def TSender.vc (x:TSender) (a0 a1 a2 a3:V):List V:=[.d (.int .i64 x.state),.d (.int .i64 x.ring.size),.d (.int .i64 x.ring.base),.d (.int .i64 x.ring.end'),a0,a1,a2,a3,.d (.int .i64 x.final),.d (.int .i64 x.fin),.d (.int .i64 x.sent),.d (.int .i64 x.code)]
def TSender.zc:List V:=[.d (.int .i64 0),.d (.int .i64 0),.d (.int .i64 0),.d (.int .i64 0),.nils 1,.nils 2,.nils 2,.nils 2,.d (.int .i64 0),.d (.int .i64 0),.d (.int .i64 0),.d (.int .i64 0)]
attribute [go_sem,simp] TSender.enc TSender.ve TSender.vc TSender.zc
def TReceiver.ve (x:TReceiver):List V:=[.d (.int .i64 x.state),.d (.int .i64 x.buffer.next),.d (.sl 2 (x.buffer.chunks.map TChunk.enc)),.d (.int .i64 x.final),.d (.int .i64 x.highest),.d (.int .i64 x.code)]
def TReceiver.vc (x:TReceiver) (a0:V):List V:=[.d (.int .i64 x.state),.d (.int .i64 x.buffer.next),a0,.d (.int .i64 x.final),.d (.int .i64 x.highest),.d (.int .i64 x.code)]
def TReceiver.zc:List V:=[.d (.int .i64 0),.d (.int .i64 0),.nils 2,.d (.int .i64 0),.d (.int .i64 0),.d (.int .i64 0)]
attribute [go_sem,simp] TReceiver.enc TReceiver.ve TReceiver.vc TReceiver.zc
def TFrame.ve (x:TFrame):List V:=[.d (.int .i64 x.kind),.d (.int .i64 x.stream),.d (.int .i64 x.offset),.d (.str x.data),.d (.bool x.fin),.d (.int .i64 x.code),.d (.int .i64 x.limit),.d (.int .i64 x.final),.d (.bool x.uni)]
def TFrame.zc:List V:=[.d (.int .i64 0),.d (.int .i64 0),.d (.int .i64 0),.d (.str []),.d (.bool false),.d (.int .i64 0),.d (.int .i64 0),.d (.int .i64 0),.d (.bool false)]
attribute [go_sem,simp] TFrame.enc TFrame.ve TFrame.zc
def TWindow.ve (x:TWindow):List V:=[.d (.int .i64 x.size),.d (.int .i64 x.most),.d (.int .i64 x.limit),.d (.int .i64 x.seen),.d (.int .i64 x.read),.d (.int .i64 x.since)]
def TWindow.zc:List V:=[.d (.int .i64 0),.d (.int .i64 0),.d (.int .i64 0),.d (.int .i64 0),.d (.int .i64 0),.d (.int .i64 0)]
attribute [go_sem,simp] TWindow.enc TWindow.ve TWindow.zc
def TConf.ve (x:TConf):List V:=[.d (.int .i64 x.ring),.d (.int .i64 x.window),.d (.int .i64 x.windowMost),.d (.int .i64 x.total),.d (.int .i64 x.totalMost),.d (.int .i64 x.bidi),.d (.int .i64 x.uni),.d (.int .i64 x.trip)]
def TConf.zc:List V:=[.d (.int .i64 0),.d (.int .i64 0),.d (.int .i64 0),.d (.int .i64 0),.d (.int .i64 0),.d (.int .i64 0),.d (.int .i64 0),.d (.int .i64 0)]
attribute [go_sem,simp] TConf.enc TConf.ve TConf.zc
theorem map_at {α:Type} (f:α→List D) (xs:List α) (i:Nat) (h:i < xs.length):(xs.map f)[i]?=some (f xs[i]):=by simp [h]
theorem inc {i m:Nat} (h:i < m) (hm:m≤maxLen):IntKind.i64.wrap ((i:Int) + 1)=((i + 1:Nat):Int):=by
 simp only [maxLen] at hm
 rw [w64]<;>omega
theorem i64_of {n:Int} (h:dOk (.int .i64 n)):-9223372036854775808≤n∧n≤9223372036854775807:=by
 have h1:IntKind.i64.min=-9223372036854775808:=by decide
 have h2:IntKind.i64.max=9223372036854775807:=by decide
 simp only [dOk,h1,h2] at h;exact h
theorem take_eq {α:Type} {xs ys:List α} {i:Nat} (he:xs.take i=ys.take i) (hx:i < xs.length) (hy:i < ys.length) (h:xs[i]=ys[i]):xs.take (i + 1)=ys.take (i + 1):=by
 rw [List.take_add_one,List.take_add_one,he,gE hx,gE hy,h]
theorem len_of {α:Type} {e:α→List D} {sz:Nat} {xs:List α} {rs:List AD} (h:adOks (.one (.sl sz (xs.map e))::rs)):xs.length≤maxLen:=by
 have:=h.1.1;rwa [lM] at this
def nx (k:Int):Int:=IntKind.i64.wrap (k + 1)
def nxs:Nat→Int→Int
 |0,k=>k
 |n + 1,k=>nx (nxs n k)
theorem nxs_add (b:Nat) (k:Int):∀ a,nxs (a + b) k=nxs a (nxs b k)
 |0=>by simp [nxs]
 |a + 1=>by rw [Nat.add_right_comm,nxs,nxs_add b k a];rfl
section
variable {α:Type} (mk:Int→α) (c:Nat)
def mkL (k:Int) (xs:List α) (i:Nat):List α:=(List.range i).map (fun j=>mk (nxs (c * j) k))++xs.drop i
theorem mkL_len (k:Int) (xs:List α) (i:Nat) (h:i≤xs.length):(mkL mk c k xs i).length=xs.length:=by simp [mkL];omega
@[go_sem] theorem mkL_len_self (k:Int) (xs:List α):(mkL mk c k xs xs.length).length=xs.length:=mkL_len mk c k xs _ (Nat.le_refl _)
@[go_sem] theorem mkL_take_self (e:α→List D) (k:Int) (xs:List α):((mkL mk c k xs xs.length).map e).take xs.length=(mkL mk c k xs xs.length).map e:=List.take_of_length_le (by simp [mkL_len_self])
def heldL [DecidableEq α]:Int→List α→Int
 |k,[]=>k
 |k,x::xs=>if x=mk k then heldL (nxs c k) xs else -1
theorem held_mk [DecidableEq α]:∀ (n:Nat) (k:Int),heldL mk c k ((List.range n).map fun j=>mk (nxs (c * j) k))=nxs (c * n) k
 |0,k=>by simp [heldL,nxs]
 |n + 1,k=>by
  rw [List.range_succ_eq_map,List.map_cons,List.map_map,heldL,if_pos (by simp [nxs])]
  have:((fun j=>mk (nxs (c * j) k)) ∘ Nat.succ)=fun j=>mk (nxs (c * j) (nxs c k)):=by
   funext j
   simp only [Function.comp,Nat.succ_eq_add_one,Nat.mul_add,Nat.mul_one,nxs_add]
  rw [this,held_mk n (nxs c k),← nxs_add,Nat.mul_add,Nat.mul_one]
theorem held_all [DecidableEq α] (k:Int) (xs:List α):heldL mk c k (mkL mk c k xs xs.length)=nxs (c * xs.length) k:=by
 unfold mkL;rw [List.drop_length,List.append_nil];exact held_mk mk c _ _
attribute [go_sem] held_all
end
section
variable {α:Type}
end
def sumB {α:Type} (f:α→Nat) (xs:List α):Nat:=(xs.map f).sum
theorem sumB_take {α:Type} (f:α→Nat) (xs:List α) (i:Nat) (h:i < xs.length):sumB f (xs.take (i + 1))=sumB f (xs.take i) + f xs[i]:=by
 unfold sumB
 rw [List.take_add_one,gE h]
 simp only [Option.toList_some,List.map_append,List.map_cons,List.map_nil,List.sum_append,List.sum_cons,List.sum_nil,Nat.add_zero]
theorem sumB_take_le {α:Type} (f:α→Nat) (xs:List α) (i:Nat):sumB f (xs.take i)≤sumB f xs:=by
 unfold sumB
 conv=>rhs;rw [← List.take_append_drop i xs]
 simp only [List.map_append,List.sum_append];omega
theorem sumB_at {α:Type} (f:α→Nat) (xs:List α) (i:Nat) (h:i < xs.length):f xs[i]≤sumB f xs:=by
 have h1:=sumB_take f xs i h
 have h2:=sumB_take_le f xs (i + 1)
 omega
section
variable {α:Type}
def mkN (mk:Int→α→α) (adv:Int→α→Int):Int→List α→List α
 |_,[]=>[]
 |k,x::xs=>mk k x::mkN mk adv (adv k x) xs
variable (mk:Int→α→α) (adv:Int→α→Int)
theorem mkN_len:∀ (xs:List α) (k:Int),(mkN mk adv k xs).length=xs.length
 |[],_=>rfl
 |x::xs,k=>by simp [mkN,mkN_len xs]
@[go_sem] theorem mkN_len_self (k:Int) (xs:List α):(mkN mk adv k xs).length=xs.length:=mkN_len mk adv xs k
@[go_sem] theorem mkN_take_self (e:α→List D) (k:Int) (xs:List α):((mkN mk adv k xs).map e).take xs.length=(mkN mk adv k xs).map e:=List.take_of_length_le (by simp [mkN_len])
end
theorem bif_and (a b:Bool):(bif a then b else false)=(a && b):=by cases a<;>rfl
theorem bif_or (a b:Bool):(bif a then true else b)=(a || b):=by cases a<;>rfl
theorem one_bool {a b:Bool} (h:a=true↔b=true):[AD.one (D.bool a)]=[AD.one (D.bool b)]:=by
 have:a=b:=by cases a<;>cases b<;>simp_all
 rw [this]
@[go_sem] theorem ofVal_ptrnil:ofVal (.pointer none)=.junk:=rfl
def TRing.bulk (x:TRing):Nat:=x.cells.length
def TSender.bulk (x:TSender):Nat:=TRing.bulk x.ring + x.pending.length + x.flight.length + x.acked.length
def TChunk.bulk (x:TChunk):Nat:=x.data.length
def TBuffer.bulk (x:TBuffer):Nat:=(x.chunks.length + sumB TChunk.bulk x.chunks)
def TReceiver.bulk (x:TReceiver):Nat:=TBuffer.bulk x.buffer
def TStream.bulk (x:TStream):Nat:=TSender.bulk x.send + TReceiver.bulk x.recv
def TFrame.bulk (x:TFrame):Nat:=x.data.length
def TPacket.bulk (x:TPacket):Nat:=(x.frames.length + sumB TFrame.bulk x.frames)
def TConn.bulk (x:TConn):Nat:=(x.streams.length + sumB TStream.bulk x.streams) + (x.packets.length + sumB TPacket.bulk x.packets)
structure TCells where
 bytes:List Int
 read:Int
 deriving DecidableEq
set_option maxRecDepth 100000
def inB (n lo hi:Int):Bool:=decide (lo≤n) && decide (n≤hi)
theorem spec_l1In (n lo hi:Int):PureCall Tryz.prog 57 [.one (.int .i64 n),.one (.int .i64 lo),.one (.int .i64 hi)] [.one (.bool (inB n lo hi))]:=by
 refine pureT 15 Tryz.func57 Tryz.call57 [.tmp 6] ?_
 intro _
 simp only [go_sem]
 repeat ((first|refine gSymS ?_|refine gSym ?_);simp only [go_sem])
 simp [inB]
theorem impl_within (n lo hi:Int):PureCall Tryz.prog 47 [.one (.int .i64 n),.one (.int .i64 lo),.one (.int .i64 hi)] [.one (.bool (inB n lo hi))]:=by
 refine pureT 15 Tryz.func47 Tryz.call47 [.tmp 6] ?_
 intro _
 simp only [go_sem]
 repeat ((first|refine gSymS ?_|refine gSym ?_);simp only [go_sem])
 simp [inB]
section
variable {P:Program}
/-- A function that reads its arguments, changes nothing that was there, and gives new memory: one of the results that Q allows. -/
def NdCall (P:Program) (f:FuncId) (args:List AD) (Q:List AD→Prop):Prop:=
 ∀ (w:World) (us:List Value) (F:List Nat),GOk w.heap→areps w.heap false args us F→Does P f us.toArray w fun v w'=>
  ∃ res,Q res∧∃ F',Bel (fun b=>w.heap.size≤b) w w'∧trep w'.heap true res v F'∧F'.Nodup∧∀ b ∈ F',w.heap.size≤b
def retX (P:Program) (rs:List ResultVar) (Q:List AD→Prop) (σ:St):Prop:=∃ res,Q res∧retE P rs res σ
theorem nd_ev {f:FuncId} {fn:Func} {c:Code} {args:List AD} {Q:List AD→Prop} (hf:P.funcs[f]?=some fn) (hb:fn.body=some c) (hcall:∀ (args:Array Value) (w:World),(callFunc f args).run P w=.ok (.enter f args) w) (hm:P.follows .mixedOrders=true) (ts:List V)
  (hn:args.map AD.toV++List.replicate (fn.ntmps - args.length) .junk=ts) (rs:List ResultVar) (hr:fn.results.toList=rs) (h0:adOks args→codeE P [] c ⟨ts,[]⟩ (hide (retX P rs Q) .mk) [] (hide (retX P rs Q) .mk)):NdCall P f args Q:=by
 intro w us F hg ha
 have h:=h0 (areps_ok _ _ _ ha)
 clear h0
 subst hr;subst hn
 have hlen:us.length=args.length:=(aVs_len args us F 0 ha).1
 have fin:∀ (σ:St) (a:Act) (w':World),retX P fn.results.toList Q σ→RR (fun b=>w.heap.size≤b) w [] σ a w'→a.defers=[]∧∃ v,(results fn a.tmps).run P w'=.ok v w' ∧
   ∃ res,Q res∧∃ F',Bel (fun b=>w.heap.size≤b) w w'∧trep w'.heap true res v F'∧F'.Nodup∧∀ b ∈ F',w.heap.size≤b:=by
  rintro σ a w' ⟨res,hq,hret⟩ ⟨Dm,φ,r,_⟩
  obtain ⟨v,F',h1,h2,h3,h4⟩:=retE_ok r hret
  exact ⟨r.de,v,h1,res,hq,F',r.bel,h2,h3,fun b hb=>(h4 b hb).1⟩
 refine Does.enter (hcall _ _) (calls_of_wp hf hb ?_)
 refine codeE_ok (B:=fun b=>w.heap.size≤b) (w0:=w) (kp:=[]) (kv:=[]) rfl hm c _ (retX P fn.results.toList Q) [] (retX P fn.results.toList Q) _ _ w (fun σ a w' h' r'=>?_) (fun id σ a w' h' _=>h'.elim) (fun σ a w' h' r'=>?_) h ?_
 ·exact fin σ a w' h' r'
 ·exact fin σ a w' h' r'
 ·have:=init_R hg ha (fn.ntmps - args.length) [] (by simp)
  have hs:us.toArray.size=args.length:=by rw [List.size_toArray,hlen]
  rw [hs];exact this
theorem NdCall.inl {f:FuncId} {ads:List AD} {Q:List AD→Prop} {kv:List V} {hs:List H} {vs:List V} {K:V→List H→Prop} (h:NdCall P f ads Q) (hE:toADs hs vs=some ads) (hk:∀ rs,Q rs→K (tV rs hs.length) (hnew hs hs.length (aHs rs))):InlCall P f kv hs vs K:=by
 intro B w0 kp us w hkv hR
 obtain ⟨Dm,φ,r,hD⟩:=hR
 obtain ⟨F,hF⟩:=toADs_rel (St.le.refl ⟨vs,hs⟩) r vs ads us hE (by simpa using r.tm)
 refine (h w us F r.gok hF).mono ?_
 rintro v w' ⟨res,hq,F',e1,e2,e3,e4⟩
 obtain ⟨bl,l1,l2⟩:=tV_rel e2
 have hDm:∀ i,hs.length≤i→i < hs.length + (aHs res).length→¬ Dm i:=fun i hi _ hd=>by have:=hD i hd;simp at this;omega
 obtain ⟨φ',hA,hR'⟩:=R_news (n:=hs.length) r (fun i hi h2=>hDm i hi h2) e1 ⟨l1.1,l1.2.1,l1.2.2.1⟩ e3 e4
 refine ⟨_,_,hk res hq,_,φ',⟨?_,hR'.kp,hR'.hp,hR'.o1,hR'.o2,hR'.o3,hR'.dm,hR'.bel,hR'.bs,rfl,hR'.gb⟩,?_⟩
 ·simp only [VRels]
  exact ⟨v,[],rfl,l2 φ' hs.length _ hA,rfl⟩
 ·intro i hi
  have h1:=hnew_length (aHs res) hs hs.length
  rcases hi with hi|hi
  ·have:=hD i hi;simp at this ⊢;omega
  ·rcases h1.2 with h2|h2
   ·rw [h2] at hi;simp at hi;omega
   ·simp at hi ⊢;omega
theorem CallS.nd {kv:List V} {σ:St} {dst:Option Tmp} {K:St→Prop} {f:FuncId} {vs:List V} {ao:Option (List AD)} {ads:List AD} {Q:List AD→Prop} (h:NdCall P f ads Q) (hE:toADs σ.heap vs=some ads)
  (hk:∀ rs,Q rs→K ⟨setD σ.tmps dst (tV rs σ.heap.length),hnew σ.heap σ.heap.length (aHs rs)⟩):CallS P kv σ dst f [] ao vs K:=
 CallS.inl (by rw [List.append_nil];exact NdCall.inl h hE hk)
end
section
variable {P:Program} {kv:List V} {c:Code} {σ:St} {K K2:St→Prop} {X:List (Nat×(St→Prop))} {Rt:St→Prop}
def headC:Nat→Code→Code
 |k + 1,.seq a b=>.seq a (headC k b)
 |_,_=>.skip
def tailC:Nat→Code→Code
 |k + 1,.seq _ b=>tailC k b
 |_,c=>c
@[go_sem] theorem headC_succ (k:Nat) (a b:Code):headC (k + 1) (.seq a b)=.seq a (headC k b):=by rw [headC]
@[go_sem] theorem headC_zero (c:Code):headC 0 c=.skip:=by cases c<;>rfl
@[go_sem] theorem tailC_succ (k:Nat) (a b:Code):tailC (k + 1) (.seq a b)=tailC k b:=by rw [tailC]
@[go_sem] theorem tailC_zero (c:Code):tailC 0 c=c:=by cases c<;>rfl
/-- What the code does, without the way in which it is shown. -/
def codeG (P:Program) (kv:List V) (c:Code) (σ:St) (K:St→Prop) (X:List (Nat×(St→Prop))) (Rt:St→Prop):Prop:=
 ∀ (B:Nat→Prop) (w0:World) (kp:List (V×Value)) (Q:Exit→Act→World→Prop) (a:Act) (w:World),kp.map (·.1)=kv→
  (∀ σ a w,K σ→RR B w0 kp σ a w→Q .normal a w)→Outs B w0 kp Q X→(∀ σ a w,Rt σ→RR B w0 kp σ a w→Q .ret a w)→RR B w0 kp σ a w→c.wp P Q a w
theorem codeG_of (hm:P.follows .mixedOrders=true) (h:codeE P kv c σ K X Rt):codeG P kv c σ K X Rt:=fun _ _ _ Q a w hkv hK hX hR r=>codeE_ok hkv hm c σ K X Rt Q a w hK hX hR h r
/-- The first k steps; then the rest. -/
theorem codeG_cut (hm:P.follows .mixedOrders=true):∀ (k:Nat) (c:Code) (σ:St),codeE P kv (headC k c) σ K2 X Rt→(∀ σ',K2 σ'→codeG P kv (tailC k c) σ' K X Rt)→codeG P kv c σ K X Rt
 |0,c,σ,h1,h2=>by rw [headC_zero] at h1;have:=h2 σ h1;rwa [tailC_zero] at this
 |k + 1,c,σ,h1,h2=>by
  cases c with
  |seq a b=>
   rw [headC_succ] at h1
   intro B w0 kp Q u w hkv hK hX hR r
   refine wp_seq (codeE_ok hkv hm a σ (fun σ'=>codeE P kv (headC k b) σ' K2 X Rt) X Rt _ u w (fun σ' a' w' h' r'=>?_) (fun id σ' a' w' h' r'=>hX id σ' a' w' h' r') (fun σ' a' w' h' r'=>hR σ' a' w' h' r') h1 r)
   exact codeG_cut hm k b σ' h' (fun σ2 hk=>by have:=h2 σ2 hk;rwa [tailC_succ] at this) B w0 kp Q a' w' hkv hK hX hR r'
  |_=>exact h2 σ h1
theorem codeG_see {ρ:List Nat} {σ':St} (hs:seeE kv ρ σ σ') (h:codeG P kv c σ' K X Rt):codeG P kv c σ K X Rt:=fun B w0 kp Q a w hkv hK hX hR r=>h B w0 kp Q a w hkv hK hX hR (seeE_ok hkv hs r)
/-- A state that is, seen otherwise, one of a family. -/
def SeeTo {α:Type} (kv:List V) (I:α→St) (Pre:α→Prop) (σ:St):Prop:=∃ x ρ,Pre x∧seeE kv ρ σ (I x)
theorem SeeTo.intro {α:Type} {I:α→St} {Pre:α→Prop} (x:α) (ρ:List Nat) (h1:Pre x) (h2:seeE kv ρ σ (I x)):SeeTo kv I Pre σ:=⟨x,ρ,h1,h2⟩
theorem codeG_step {α:Type} (hm:P.follows .mixedOrders=true) (k:Nat) (I:α→St) (Pre:α→Prop) (h1:codeE P kv (headC k c) σ (hide (SeeTo kv I Pre) .mk) X Rt) (h2:∀ x,Pre x→codeG P kv (tailC k c) (I x) K X Rt):codeG P kv c σ K X Rt:=
 codeG_cut hm k c σ h1 fun _ ⟨x,_,hp,hs⟩=>codeG_see hs (h2 x hp)
theorem codeG_block {id:Nat} (h:codeG P kv c σ K ((id,K)::X) Rt):codeG P kv (.block id c) σ K X Rt:=by
 intro B w0 kp Q a w hkv hK hX hR r
 refine wp_block (h B w0 kp _ a w hkv (fun σ' a' w' h' r'=>hK σ' a' w' h' r') (fun id' σ' a' w' h' r'=>?_) (fun σ' a' w' h' r'=>hR σ' a' w' h' r') r)
 simp only [outE] at h'
 simp only [Exit.inBlock]
 by_cases hi:id'=id
 ·rw [if_pos hi];rw [if_pos hi] at h';exact hK σ' a' w' h' r'
 ·rw [if_neg hi];rw [if_neg hi] at h';exact hX id' σ' a' w' h' r'
end
section
variable {P:Program}
theorem pure_evG {f:FuncId} {fn:Func} {c:Code} {args res:List AD} (hf:P.funcs[f]?=some fn) (hb:fn.body=some c) (hcall:∀ (args:Array Value) (w:World),(callFunc f args).run P w=.ok (.enter f args) w) (ts:List V)
  (hn:args.map AD.toV++List.replicate (fn.ntmps - args.length) .junk=ts) (rs:List ResultVar) (hr:fn.results.toList=rs) (h0:adOks args→codeG P [] c ⟨ts,[]⟩ (hide (retE P rs res) .mk) [] (hide (retE P rs res) .mk)):PureCall P f args res:=by
 intro w us F hg ha
 have h:=h0 (areps_ok _ _ _ ha)
 clear h0
 subst hr;subst hn
 have hlen:us.length=args.length:=(aVs_len args us F 0 ha).1
 have fin:∀ (σ:St) (a:Act) (w':World),retE P fn.results.toList res σ→RR (fun b=>w.heap.size≤b) w [] σ a w'→a.defers=[]∧∃ v,(results fn a.tmps).run P w'=.ok v w' ∧
   ∃ F',Bel (fun b=>w.heap.size≤b) w w'∧trep w'.heap true res v F'∧F'.Nodup∧∀ b ∈ F',w.heap.size≤b:=by
  rintro σ a w' hret ⟨Dm,φ,r,_⟩
  obtain ⟨v,F',h1,h2,h3,h4⟩:=retE_ok r hret
  exact ⟨r.de,v,h1,F',r.bel,h2,h3,fun b hb=>(h4 b hb).1⟩
 refine Does.enter (hcall _ _) (calls_of_wp hf hb ?_)
 refine h (fun b=>w.heap.size≤b) w [] _ _ w rfl (fun σ a w' h' r'=>?_) (fun id σ a w' h' _=>h'.elim) (fun σ a w' h' r'=>?_) ?_
 ·exact fin σ a w' h' r'
 ·exact fin σ a w' h' r'
 ·have:=init_R hg ha (fn.ntmps - args.length) [] (by simp)
  have hs:us.toArray.size=args.length:=by rw [List.size_toArray,hlen]
  rw [hs];exact this
end
theorem pureTG {P:Program} {f:FuncId} {fn:Func} {c:Code} {args res:List AD} (n:Nat) (hf:P.funcs[f]?=some fn) (hcall:∀ (args:Array Value) (w:World),(callFunc f args).run P w=.ok (.enter f args) w) (rs:List ResultVar)
  (h:adOks args→codeG P [] c ⟨ts0 args n,[]⟩ (hide (retE P rs res) .mk) [] (hide (retE P rs res) .mk)) (hb:fn.body=some c:=by rfl) (hn:fn.ntmps=n:=by rfl) (hr:fn.results.toList=rs:=by rfl):PureCall P f args res:=
 pure_evG hf hb hcall _ (by rw [hn];exact ts0_eq args n) rs hr h
section
variable {P:Program} {kv:List V} {c:Code} {σ:St} {K:St→Prop} {X:List (Nat×(St→Prop))} {Rt:St→Prop}
/-- An array into whose elements nobody looked may be looked into. -/
theorem RR_look {B:Nat→Prop} {w0:World} {kp:List (V×Value)} {a:Act} {w:World} {id sz:Nat} {xs:List (List D)} (h:hget σ.heap id=.cln sz xs) (r:RR B w0 kp σ a w):RR B w0 kp ⟨σ.tmps,hput σ.heap id (.arr sz xs true)⟩ a w:=by
 obtain ⟨Dm,φ,r,hD⟩:=r
 have hg:∀ i,i≠id→hget (hput σ.heap id (.arr sz xs true)) i=hget σ.heap i:=fun i hi=>by rw [hget_hput,if_neg hi]
 have hg0:hget (hput σ.heap id (.arr sz xs true)) id=.arr sz xs true:=by rw [hget_hput,if_pos rfl]
 refine ⟨Dm,φ,R_change r (fun i=>i=id) Dm φ _ w (fun i hi=>⟨hg i hi,rfl⟩) (Le.refl φ) (Nat.le_refl _) (fun _ _ _=>rfl) ?_ ?_ (fun i j b hi hj _ _=>hi.trans hj.symm) ?_ ?_ r.dm r.bel,fun i hi=>Nat.lt_of_lt_of_le (hD i hi) (hput_length _ _ _).1⟩
 ·rintro i rfl b ⟨β,e,ho⟩
  refine Or.inr ⟨i,rfl,β,e,?_⟩
  rw [hg0] at ho
  rw [h]
  exact ho.imp (fun q=>⟨rfl,q.2⟩) (fun q=>⟨rfl,q.2⟩)
 ·rintro i rfl β e b ht
  refine Or.inr ⟨i,β,rfl,e,?_⟩
  rw [hg0] at ht
  rw [h]
  rcases ht with ⟨_,q⟩|⟨q,_⟩
  ·exact Or.inl ⟨rfl,q⟩
  ·cases q
 ·rintro i β rfl e _
  exact r.o2 i β e (by rw [h];rfl)
 ·rintro i rfl
  rcases r.hp i with hd|⟨β,e,hr⟩
  ·rw [h] at hd;cases hd
  ·refine Or.inr ⟨β,e,?_⟩
   rw [hg0]
   rw [h] at hr
   simp only [HRel] at hr ⊢
   obtain ⟨q,hr⟩:=hr
   refine ⟨q,hr.imp id ?_⟩
   rintro ⟨b,r1,r2,r3,r4⟩
   exact ⟨b,β.nest,r1,r2,r3,r4,fun _=>rfl,fun q=>by cases q⟩
theorem codeG_look (id:Nat) {sz:Nat} {xs:List (List D)} (h:hget σ.heap id=.cln sz xs) (hg:codeG P kv c ⟨σ.tmps,hput σ.heap id (.arr sz xs true)⟩ K X Rt):codeG P kv c σ K X Rt:=fun B w0 kp Q a w hkv hK hX hR r=>hg B w0 kp Q a w hkv hK hX hR (RR_look h r)
end
theorem ofv33:ofVal (.int .u64 33)=.d (.int .u64 33):=rfl
theorem ofv45:ofVal (.int .u64 45)=.d (.int .u64 45):=rfl
theorem shr_eq (k:IntKind) (x y:Int):shI .shr k x y=some (0≤y,.d (.int k (x.fdiv (2 ^ min y.toNat k.bits)))):=rfl
theorem and255 (x:Int):0≤bitI .and .i64 x 255∧bitI .and .i64 x 255≤255:=by
 have h:((BitVec.ofInt IntKind.i64.bits x &&& BitVec.ofInt IntKind.i64.bits 255).toNat:Int)≤255:=by
  have:(BitVec.ofInt IntKind.i64.bits x &&& BitVec.ofInt IntKind.i64.bits 255).toNat≤255:=by
   rw [BitVec.toNat_and]
   exact Nat.le_trans Nat.and_le_right (by decide)
  omega
 have e:bitI .and .i64 x 255=((BitVec.ofInt IntKind.i64.bits x &&& BitVec.ofInt IntKind.i64.bits 255).toNat:Int):=by
  unfold bitI
  simp only
  rw [w64]<;>omega
 rw [e]
 omega
/-- A cursor: its bytes, its place, its number. -/
def curB (bs:List Int) (i:Nat) (h:Int):H:=.box [.d (.sl 1 (bs.map eU8)),.d (.int .i64 i),.d (.int .i64 h)]
theorem hput_end (hs:List H) (x:H):hput hs hs.length x=hs++[x]:=by unfold hput;simp
theorem hput_endN (hs ys:List H) (n:Nat) (x:H):hput (hs++ys) (hs.length + n) x=hs++hput ys n x:=by
 unfold hput
 by_cases h:n < ys.length
 ·simp [h]
 ·simp [h,Nat.add_sub_add_left]
theorem hput_end0 (hs ys:List H) (x:H):hput (hs++ys) hs.length x=hs++hput ys 0 x:=hput_endN hs ys 0 x
theorem hget_endN (hs ys:List H) (n:Nat):hget (hs++ys) (hs.length + n)=hget ys n:=by
 unfold hget
 rw [List.getD_eq_getElem?_getD,List.getD_eq_getElem?_getD,List.getElem?_append_right (by omega),Nat.add_sub_cancel_left]
theorem hget_end0 (hs ys:List H):hget (hs++ys) hs.length=hget ys 0:=hget_endN hs ys 0
/-- A renaming that leaves the first m entries where they are. -/
def Fix (ρ:List Nat) (m:Nat):Prop:=∀ i,i < m→ρ.getD i 0=i
theorem fix_range {m n:Nat} (h:m≤n):Fix (List.range n) m:=fun i hi=>by
 have:i < n:=by omega
 simp [this]
theorem fix_range_app {m n:Nat} (h:m≤n) (r:List Nat):Fix (List.range n++r) m:=fun i hi=>by
 have:i < n:=by omega
 rw [List.getD_eq_getElem?_getD,List.getElem?_append_left (by simpa using this)]
 simp [this]
mutual
theorem ren_fix {ρ:List Nat} {m:Nat} (hf:Fix ρ m):∀ (v:V),vok m v→ren ρ v=v
 |.junk,_=>rfl
 |.d _,_=>rfl
 |.nils _,_=>rfl
 |.agg vs,h=>by simp only [vok] at h;simp only [ren,rens_fix hf vs h]
 |.ptr id _ _,h=>by simp only [vok] at h;simp only [ren,hf id h]
 |.rp _ _,_=>rfl
 |.sl id _ _,h=>by simp only [vok] at h;simp only [ren,hf id h]
 |.fn _ vs,h=>by simp only [vok] at h;simp only [ren,rens_fix hf vs h]
 |.tup vs,h=>by simp only [vok] at h;simp only [ren,rens_fix hf vs h]
 |.gd _ v,h=>by simp only [vok] at h;simp only [ren,ren_fix hf v h]
theorem rens_fix {ρ:List Nat} {m:Nat} (hf:Fix ρ m):∀ (vs:List V),voks m vs→rens ρ vs=vs
 |[],_=>rfl
 |v::vs,h=>by simp only [voks] at h;simp only [rens,ren_fix hf v h.1,rens_fix hf vs h.2]
end
mutual
theorem vok_mono {m n:Nat} (h:m≤n):∀ (v:V),vok m v→vok n v
 |.junk,_=>by simp [vok]
 |.d _,_=>by simp [vok]
 |.nils _,_=>by simp [vok]
 |.agg vs,k=>by simp only [vok] at k ⊢;exact voks_mono h vs k
 |.ptr id _ _,k=>by simp only [vok] at k ⊢;omega
 |.rp _ _,_=>by simp [vok]
 |.sl id _ _,k=>by simp only [vok] at k ⊢;omega
 |.fn _ vs,k=>by simp only [vok] at k ⊢;exact voks_mono h vs k
 |.tup vs,k=>by simp only [vok] at k ⊢;exact voks_mono h vs k
 |.gd _ v,k=>by simp only [vok] at k ⊢;exact vok_mono h v k
theorem voks_mono {m n:Nat} (h:m≤n):∀ (vs:List V),voks m vs→voks n vs
 |[],_=>by simp [voks]
 |v::vs,k=>by simp only [voks] at k ⊢;exact ⟨vok_mono h v k.1,voks_mono h vs k.2⟩
end
theorem voks_append {m:Nat}:∀ {xs ys:List V},voks m xs→voks m ys→voks m (xs++ys)
 |[],_,_,h=>h
 |x::xs,ys,h,k=>by simp only [voks] at h;simp only [cA,voks];exact ⟨h.1,voks_append h.2 k⟩
/-- Entries that may be handed on as they are. -/
def rok (m:Nat):H→Prop
 |.box cs=>voks m cs
 |.win _ _ _ _=>False
 |_=>True
def roks (m:Nat):List H→Prop
 |[]=>True
 |x::xs=>rok m x∧roks m xs
theorem rok_mono {m n:Nat} (h:m≤n) (x:H) (k:rok m x):rok n x:=by
 unfold rok at *
 split at k
 ·exact voks_mono h _ k
 ·exact k.elim
 ·trivial
theorem roks_mono {m n:Nat} (h:m≤n):∀ {xs:List H},roks m xs→roks n xs
 |[],_=>trivial
 |x::_xs,k=>⟨rok_mono h x k.1,roks_mono h k.2⟩
theorem roks_append {m:Nat}:∀ {xs ys:List H},roks m xs→roks m ys→roks m (xs++ys)
 |[],_,_,h=>h
 |_x::_xs,_ys,h,k=>⟨h.1,roks_append h.2 k⟩
theorem roks_allOk {m:Nat}:∀ {xs:List H},roks m xs→allOk m xs
 |[],_=>trivial
 |x::xs,k=>⟨by cases x<;>first|exact k.1|trivial,roks_allOk k.2⟩
theorem vsee_fix {ρ:List Nat} {m:Nat} (hf:Fix ρ m) {v:V} (h:vok m v):vsee ρ v v:=by
 unfold vsee
 split
 ·trivial
 ·exact ren_fix hf _ h
theorem kvOk_fix {ρ:List Nat} {m n:Nat} (hf:Fix ρ m) (hn:m≤n):∀ {kv:List V},voks m kv→kvOk ρ n kv
 |[],_=>trivial
 |v::vs,h=>by
  simp only [voks] at h
  exact ⟨⟨vsee_fix hf h.1,vok_mono hn v h.1⟩,kvOk_fix hf hn h.2⟩
theorem vsees_fix {ρ:List Nat} {m:Nat} (hf:Fix ρ m):∀ {vs:List V},voks m vs→vsees ρ vs vs
 |[],_=>trivial
 |v::vs,h=>by simp only [voks] at h;exact ⟨vsee_fix hf h.1,vsees_fix hf h.2⟩
theorem hsee_fix {ρ:List Nat} {m:Nat} (hf:Fix ρ m):∀ {x:H},rok m x→hsee ρ x x
 |.dead,_=>trivial
 |.box cs,h=>by simp only [hsee];exact vsees_fix hf h
 |.arr _ _ _,_=>⟨rfl,rfl,rfl⟩
 |.ro _ _,_=>⟨rfl,rfl⟩
 |.cln _ _,_=>⟨rfl,rfl⟩
theorem hsees_fix {ρ:List Nat} {m:Nat} (hf:Fix ρ m) (hs:List H):∀ (is:List Nat) (xs:List H),is.length=xs.length→(∀ k,k < xs.length→∃ x,xs[k]?=some x∧hget hs (is.getD k 0)=x∧rok m x)→hsees ρ hs is xs
 |[],[],_,_=>trivial
 |i::is,x::xs,hl,h=>by
  refine ⟨?_,hsees_fix hf hs is xs (by simpa using hl) fun k hk=>?_⟩
  ·obtain ⟨y,h1,h2,h3⟩:=h 0 (by simp)
   simp only [List.getElem?_cons_zero,Option.some.injEq] at h1
   subst h1
   simp only [List.getD_cons_zero] at h2
   rw [h2];exact hsee_fix hf h3
  ·obtain ⟨y,h1,h2,h3⟩:=h (k + 1) (by simpa using hk)
   exact ⟨y,by simpa using h1,by simpa using h2,h3⟩
theorem roks_at {m:Nat}:∀ {xs:List H} {k:Nat} {x:H},roks m xs→xs[k]?=some x→rok m x
 |[],_,_,_,h=>by simp at h
 |y::ys,0,x,k,h=>by simp at h;subst h;exact k.1
 |y::ys,n + 1,x,k,h=>roks_at (xs:=ys) k.2 (by simpa using h)
theorem hget_some {hs:List H} {i:Nat} {x:H} (h:hs[i]?=some x):hget hs i=x:=by unfold hget;rw [List.getD_eq_getElem?_getD,h];rfl
/-- What came behind is forgotten. -/
theorem see_keep {kv ts ts':List V} {hs ex:List H} (hr:roks hs.length hs) (hkv:voks hs.length kv) (ht:vsees (List.range hs.length) ts' ts) (ht':voks hs.length ts'):seeE kv (List.range hs.length) ⟨ts,hs++ex⟩ ⟨ts',hs⟩:=by
 have hf:Fix (List.range hs.length) hs.length:=fix_range (Nat.le_refl _)
 refine ⟨List.nodup_range,ht,hsees_fix hf _ _ _ (by simp) fun k hk=>?_,ht',roks_allOk hr,kvOk_fix hf (Nat.le_refl _) hkv⟩
 refine ⟨hs[k],gE hk,?_,roks_at hr (gE hk)⟩
 have:(List.range hs.length).getD k 0=k:=hf k hk
 rw [this]
 exact hget_some (by rw [List.getElem?_append_left hk];exact gE hk)
theorem see_keep0 {kv ts ts':List V} {hs:List H} (hr:roks hs.length hs) (hkv:voks hs.length kv) (ht:vsees (List.range hs.length) ts' ts) (ht':voks hs.length ts'):seeE kv (List.range hs.length) ⟨ts,hs⟩ ⟨ts',hs⟩:=by
 have:=see_keep (ex:=[]) hr hkv ht ht'
 rwa [List.append_nil] at this
theorem rok_cur (m:Nat) (bs:List Int) (i:Nat) (h:Int):rok m (curB bs i h):=by simp [curB,rok,voks,vok]
theorem see_cur {bs:List Int} {i:Nat} {h:Int} {pre rest ex:List H} {kv ts ts':List V} (hr:roks (pre.length + (rest.length + 1)) pre∧roks (pre.length + (rest.length + 1)) rest) (hkv:voks (pre.length + (rest.length + 1)) kv) (ht:vsees (List.range (pre.length + (rest.length + 1))) ts' ts) (ht':voks (pre.length + (rest.length + 1)) ts'):seeE kv (List.range (pre.length + (rest.length + 1))) ⟨ts,pre++curB bs i h::(rest++ex)⟩ ⟨ts',pre++curB bs i h::rest⟩:=by
 have e:(pre++curB bs i h::rest).length=pre.length + (rest.length + 1):=by simp
 have:=see_keep (hs:=pre++curB bs i h::rest) (ex:=ex) (ts:=ts) (ts':=ts') (kv:=kv) (by rw [e];exact roks_append hr.1 ⟨rok_cur _ _ _ _,hr.2⟩) (by rw [e];exact hkv) (by rw [e];exact ht) (by rw [e];exact ht')
 rw [e,List.append_assoc] at this
 exact this
theorem see_cur0 {bs:List Int} {i:Nat} {h:Int} {pre rest:List H} {kv ts ts':List V} (hr:roks (pre.length + (rest.length + 1)) pre∧roks (pre.length + (rest.length + 1)) rest) (hkv:voks (pre.length + (rest.length + 1)) kv) (ht:vsees (List.range (pre.length + (rest.length + 1))) ts' ts) (ht':voks (pre.length + (rest.length + 1)) ts'):seeE kv (List.range (pre.length + (rest.length + 1))) ⟨ts,pre++curB bs i h::rest⟩ ⟨ts',pre++curB bs i h::rest⟩:=by
 have:=see_cur (bs:=bs) (i:=i) (h:=h) (ex:=[]) hr hkv ht ht'
 rwa [List.append_nil] at this
theorem rangeA1 (n k:Nat) (l:List Nat):(List.range n++k::l).getD n 0=k:=by
 rw [List.getD_eq_getElem?_getD,List.getElem?_append_right (by simp)];simp
def SeeX (kv:List V) (K:V→List H→Prop) (x:V) (hs':List H):Prop:=∃ ρ x2 hs2,seeE kv ρ ⟨[x],hs'⟩ ⟨[x2],hs2⟩∧K x2 hs2
/-- What a call leaves may be seen otherwise. -/
theorem InlCall.see {P:Program} {f:FuncId} {kv:List V} {hs:List H} {vs:List V} {K:V→List H→Prop} (h:InlCall P f kv hs vs (SeeX kv K)):InlCall P f kv hs vs K:=by
 intro B w0 kp us w hkv hR
 exact (h B w0 kp us w hkv hR).mono fun v w' ⟨x,hs',⟨ρ,x2,hs2,h1,h2⟩,h3⟩=>⟨x2,hs2,h2,seeE_ok hkv h1 h3⟩
set_option maxRecDepth 100000
def mxCurFn0:List (List Rl):=mxD 13 [1564919,1564917,1564911,1564893,1564839,1594201,1593715,1592257,1587883,1574761,1535274,1417176,1062882]
def mxCurFn1:List (List Rl):=mxD 10 [49247,49245,49239,49221,59008,58846,58360,56902,52528,39366]
def mxCurFn2:List (List Rl):=mxD 15 [14083187,14339185,14339179,14339161,14339107,14348785,14348299,14346841,14342467,14329225,14289859,14171761,13817466,12754584,9565938]
attribute [go_sem] mxCurFn0 mxCurFn1 mxCurFn2
theorem l1Byte_inl (bs:List Int) (hm:bs.length≤maxLen) (i:Nat) (h:Int) (pre rest:List H) (kv:List V) (K:V→List H→Prop) (hi:i≤bs.length)
  (hk:∀ (i':Nat) (h' x:Int),i'≤bs.length→0≤x→x≤255→K (.d (.int .i64 x)) (pre++curB bs i' h'::rest)):InlCall Tryz.prog 75 kv (pre++curB bs i h::rest) [.ptr pre.length 0 0] K:=by
 refine (inl_ev (n:=58) (rs:=[.tmp 2]) Tryz.func75 rfl Tryz.call75 Tryz.checked.mixed rfl rfl ?_)
 simp only [curB] at hk ⊢
 simp only [go_sem,hget_end0,hput_end0]
 try simp only [go_sem,hget_end0,hput_end0,lM,ofv33,ofv45,shr_eq]
 repeat' ((first|refine drawE_intro mxCurFn0 (by kernel_rfl) (by rfl) ?_|refine drawE_intro mxCurFn1 (by kernel_rfl) (by rfl) ?_|refine drawE_intro mxCurFn2 (by kernel_rfl) (by rfl) ?_|refine cSplit (fun h=>?_) (fun h=>?_))<;>simp only [go_sem,hget_end0,lM,ofv33,ofv45,shr_eq])
 ·have hlt:i < bs.length:=by
   have:=oT h
   omega
  have hxi:=map_at eU8 bs i hlt
  try simp only [go_sem,hget_end0,hput_end0,tN,hxi,eU8]
  repeat' (first|(with_reducible refine sideI ?_)|fail)
  rw [inc hlt hm]
  exact hk _ _ _ (by omega) (and255 _).1 (and255 _).2
 ·exact hk _ _ _ hi (and255 _).1 (and255 _).2
theorem tmod_in {x n:Int} (hx:0≤x) (hn:0 < n):0≤x.tmod n∧x.tmod n < n:=⟨Int.tmod_nonneg _ hx,Int.tmod_lt_of_pos _ hn⟩
theorem l1Below_inl (bs:List Int) (hm:bs.length≤maxLen) (i:Nat) (h:Int) (pre rest:List H) (kv:List V) (n:Int) (hn:0 < n) (hn2:n≤4294967296) (K:V→List H→Prop) (hi:i≤bs.length)
  (hk:∀ (i':Nat) (h' x:Int),i'≤bs.length→0≤x→x < n→K (.d (.int .i64 x)) (pre++curB bs i' h'::rest)):InlCall Tryz.prog 39 kv (pre++curB bs i h::rest) [.ptr pre.length 0 0,.d (.int .i64 n)] K:=by
 refine (inl_ev (n:=37) (rs:=[.tmp 4]) Tryz.func39 rfl Tryz.call39 Tryz.checked.mixed rfl rfl ?_)
 simp only [go_sem]
 refine cSplit (fun h1=>?_) (fun _=>?_)
 ·have:=oT h1;omega
 simp only [go_sem]
 refine cSplit (fun _=>?_) (fun h1=>?_)
 ·simp only [go_sem]
  refine CallS.inl (l1Byte_inl bs hm i h pre rest _ _ hi fun i1 h1 x1 a1 b1 c1=>?_)
  simp only [go_sem]
  refine ⟨by omega,?_⟩
  have:=tmod_in b1 hn
  exact hk _ _ _ a1 this.1 this.2
 ·have hb:=oF h1
  simp only [go_sem]
  refine CallS.inl (l1Byte_inl bs hm i h pre rest _ _ hi fun i1 h1 x1 a1 b1 c1=>?_)
  simp only [go_sem]
  refine CallS.inl (l1Byte_inl bs hm i1 h1 pre rest _ _ a1 fun i2 h2 x2 a2 b2 c2=>?_)
  simp only [go_sem]
  refine CallS.inl (l1Byte_inl bs hm i2 h2 pre rest _ _ a2 fun i3 h3 x3 a3 b3 c3=>?_)
  simp only [go_sem]
  refine CallS.inl (l1Byte_inl bs hm i3 h3 pre rest _ _ a3 fun i4 h4 x4 a4 b4 c4=>?_)
  simp only [go_sem]
  refine ⟨by omega,?_⟩
  rw [w64 (n:=x1 * 16777216) (by omega) (by omega),w64 (n:=x2 * 65536) (by omega) (by omega),w64 (n:=x3 * 256) (by omega) (by omega),w64 (n:=x1 * 16777216 + x2 * 65536) (by omega) (by omega),w64 (n:=x1 * 16777216 + x2 * 65536 + x3 * 256) (by omega) (by omega),w64 (n:=x1 * 16777216 + x2 * 65536 + x3 * 256 + x4) (by omega) (by omega)]
  have:=tmod_in (x:=x1 * 16777216 + x2 * 65536 + x3 * 256 + x4) (by omega) hn
  exact hk _ _ _ a4 this.1 this.2
theorem l1Once_inl (bs:List Int) (hm:bs.length≤maxLen) (i:Nat) (h:Int) (pre rest:List H) (kv:List V) (n:Int) (hn:0 < n) (hn2:n≤4294967296) (K:V→List H→Prop) (hi:i≤bs.length)
  (hk:∀ (i':Nat) (h':Int) (b:Bool),i'≤bs.length→K (.d (.bool b)) (pre++curB bs i' h'::rest)):InlCall Tryz.prog 38 kv (pre++curB bs i h::rest) [.ptr pre.length 0 0,.d (.int .i64 n)] K:=by
 refine (inl_ev (n:=9) (rs:=[.tmp 4]) Tryz.func38 rfl Tryz.call38 Tryz.checked.mixed rfl rfl ?_)
 simp only [go_sem]
 refine CallS.inl (l1Below_inl bs hm i h pre rest _ n hn hn2 _ hi fun i1 h1 x1 a1 b1 c1=>?_)
 simp only [go_sem]
 exact hk _ _ _ a1
theorem l1PickInt_inl (bs:List Int) (hm:bs.length≤maxLen) (i:Nat) (h:Int) (pre rest:List H) (kv:List V) (id:Nat) (xs:List Int) (he:hget rest id=.arr 1 (xs.map eI) true) (hn:0 < xs.length) (hn2:xs.length≤1000) (K:V→List H→Prop) (hi:i≤bs.length)
  (hk:∀ (i':Nat) (h' x:Int),i'≤bs.length→x ∈ xs→K (.d (.int .i64 x)) (pre++curB bs i' h'::rest)):InlCall Tryz.prog 74 kv (pre++curB bs i h::rest) [.ptr pre.length 0 0,.sl (pre.length + (id + 1)) 0 xs.length] K:=by
 refine (inl_ev (n:=12) (rs:=[.tmp 4]) Tryz.func74 rfl Tryz.call74 Tryz.checked.mixed rfl rfl ?_)
 simp only [go_sem]
 refine CallS.inl (l1Below_inl bs hm i h pre rest _ xs.length (by omega) (by omega) _ hi fun i1 h1 x1 a1 b1 c1=>?_)
 obtain ⟨k,rfl⟩:=Int.eq_ofNat_of_zero_le b1
 have hlt:k < xs.length:=by omega
 have hxi:=map_at eI xs k hlt
 simp only [go_sem,hget_endN,he,hxi,tN,lM,eI]
 refine ⟨⟨by omega,by omega⟩,?_⟩
 exact ⟨hlt,hk _ _ _ a1 (List.getElem_mem hlt)⟩
theorem l1Pick_inl (bs:List Int) (hm:bs.length≤maxLen) (i:Nat) (h:Int) (pre rest:List H) (kv:List V) (id:Nat) (xs:List (List UInt8)) (he:hget rest id=.arr 1 (xs.map eS) true) (hn:0 < xs.length) (hn2:xs.length≤1000) (K:V→List H→Prop) (hi:i≤bs.length)
  (hk:∀ (i':Nat) (h':Int) (x:List UInt8),i'≤bs.length→x ∈ xs→K (.d (.str x)) (pre++curB bs i' h'::rest)):InlCall Tryz.prog 136 kv (pre++curB bs i h::rest) [.ptr pre.length 0 0,.sl (pre.length + (id + 1)) 0 xs.length] K:=by
 refine (inl_ev (n:=12) (rs:=[.tmp 4]) Tryz.func136 rfl Tryz.call136 Tryz.checked.mixed rfl rfl ?_)
 simp only [go_sem]
 refine CallS.inl (l1Below_inl bs hm i h pre rest _ xs.length (by omega) (by omega) _ hi fun i1 h1 x1 a1 b1 c1=>?_)
 obtain ⟨k,rfl⟩:=Int.eq_ofNat_of_zero_le b1
 have hlt:k < xs.length:=by omega
 have hxi:=map_at eS xs k hlt
 simp only [go_sem,hget_endN,he,hxi,tN,lM,eS]
 refine ⟨⟨by omega,by omega⟩,?_⟩
 exact ⟨hlt,hk _ _ _ a1 (List.getElem_mem hlt)⟩
theorem len_le_of_mem {x:List UInt8} (h:x ∈ [[97],[98],[99],[100]]):x.length=1:=by
 simp only [List.mem_cons,List.not_mem_nil,or_false] at h
 rcases h with rfl|rfl|rfl|rfl<;>rfl
theorem l4Data_inl (bs:List Int) (hm:bs.length≤maxLen) (i:Nat) (h:Int) (pre rest:List H) (kv:List V) (most:Nat) (hr:roks (pre.length + (rest.length + 1)) pre∧roks (pre.length + (rest.length + 1)) rest) (hkv:voks (pre.length + (rest.length + 1)) kv) (hb:most≤1000) (K:V→List H→Prop) (hi:i≤bs.length)
  (hk:∀ (i':Nat) (h':Int) (s:List UInt8),i'≤bs.length→s.length≤most→K (.d (.str s)) (pre++curB bs i' h'::rest)):InlCall Tryz.prog 131 kv (pre++curB bs i h::rest) [.ptr pre.length 0 0,.d (.int .i64 most)] K:=by
 refine (inl_ev (n:=21) (rs:=[.tmp 4]) Tryz.func131 rfl Tryz.call131 Tryz.checked.mixed rfl rfl ?_)
 simp only [go_sem]
 rw [w64 (n:=(most:Int) + 1) (by omega) (by omega)]
 refine CallS.inl (l1Below_inl bs hm i h pre rest _ ((most:Int) + 1) (by omega) (by omega) _ hi fun i1 h1 x1 a1 b1 c1=>?_)
 obtain ⟨k,rfl⟩:=Int.eq_ofNat_of_zero_le b1
 simp only [go_sem]
 refine LoopK.intro (α:=Nat×Int×Nat×List UInt8) (fun y=>⟨(.ptr pre.length 0 0::.d (.int .i64 most)::.junk::.junk::.d (.str [])::.d (.str y.2.2.2)::.d (.int .i64 y.2.2.1)::jn 14 []),pre++curB bs y.1 y.2.1::rest⟩)
  (fun y=>y.2.2.1) (fun y=>y.1≤bs.length∧y.2.2.1 + y.2.2.2.length≤most) (i1,h1,k,[]) (List.range (pre.length + (rest.length + 1))) ⟨a1,by simp;omega⟩ ?_ ?_
 ·exact see_cur0 hr hkv (by simp [vsees,vsee,ren]) (by simp [voks,vok])
 ·rintro ⟨i2,h2,n,s⟩ ⟨hi2,hs⟩
  simp only at hs
  simp only [go_sem]
  refine cSplit (fun q=>?_) (fun q=>?_)
  ·have hn:=oT q
   simp only [go_sem,hput_end,hput_endN]
   refine CallS.inl (l1Pick_inl bs hm i2 h2 pre (rest++[.arr 1 ([[97],[98],[99],[100]].map eS) true]) _ rest.length [[97],[98],[99],[100]] (by rw [hget_end0];rfl) (by decide) (by decide) _ hi2 fun i3 h3 x a3 b3=>?_)
   have hl:=len_le_of_mem b3
   simp only [go_sem]
   refine ⟨by simp only [maxLen];omega,?_⟩
   rw [w64 (n:=(n:Int) - 1) (by omega) (by omega)]
   refine RoundE.intro (i3,h3,n - 1,s++x) (List.range (pre.length + (rest.length + 1))) ⟨a3,by simp only [List.length_append];omega⟩ (show n - 1 < n by omega) ?_
   have e:((n - 1:Nat):Int)=(n:Int) - 1:=by omega
   simp only [e]
   exact see_cur hr hkv (by simp [vsees,vsee,ren]) (by simp [voks,vok])
  ·simp only [go_sem]
   exact hk _ _ _ hi2 (by omega)
theorem l1New_inl (bs:List Int) (hm:bs.length≤maxLen) (pre:List H) (kv:List V) (hr:roks pre.length pre) (hkv:voks pre.length kv) (K:V→List H→Prop)
  (hk:∀ (h':Int),K (.ptr pre.length 0 0) (pre++[curB bs 0 h'])):InlCall Tryz.prog 36 kv pre [.d (.sl 1 (bs.map eU8))] K:=by
 refine (inl_ev (n:=32) (rs:=[.tmp 2]) Tryz.func36 rfl Tryz.call36 Tryz.checked.mixed rfl rfl ?_)
 simp only [go_sem,lM]
 refine LoopK.intro (α:=Nat×Int) (fun y=>⟨(.d (.sl 1 (bs.map eU8))::.junk::.junk::.d (.int .i64 y.2)::.d (.int .i64 y.1)::jn 27 []),pre⟩)
  (fun y=>bs.length - y.1) (fun y=>y.1≤bs.length) (0,IntKind.i64.wrap (10101 + (bs.length:Int))) (List.range pre.length) (by simp) ?_ ?_
 ·exact see_keep0 hr hkv (by simp [vsees,vsee,ren]) (by simp [voks,vok])
 ·rintro ⟨i,g⟩ hi
  simp only at hi
  simp only [go_sem,lM]
  try simp only [go_sem,lM]
  repeat' ((first|refine gSymS ?_|refine cSplit (fun h=>?_) (fun h=>?_))<;>simp only [go_sem,lM])
  ·have hlt:i < bs.length:=by
    rcases Nat.lt_or_ge i bs.length with hlt|hge
    ·exact hlt
    ·rw [dF (by omega)] at h;cases h
   have hxi:=map_at eU8 bs i hlt
   try simp only [go_sem,hxi,tN,eU8]
   repeat' (first|(with_reducible refine sideI ?_)|fail)
   rw [inc hlt hm]
   refine RoundE.intro (i + 1,bitI .and .i64 (IntKind.i64.wrap (IntKind.i64.wrap (IntKind.i64.wrap (g * 131) + IntKind.i64.wrap bs[i]) + 7)) 1073741823) (List.range pre.length) (show i + 1≤bs.length by omega) (show bs.length - (i + 1) < bs.length - i by omega) ?_
   exact see_keep0 hr hkv (by simp [vsees,vsee,ren]) (by simp [voks,vok])
  ·rw [hput_end];exact hk _
theorem hsees_append {ρ:List Nat} {hs:List H}:∀ {is js:List Nat} {xs ys:List H},hsees ρ hs is xs→hsees ρ hs js ys→hsees ρ hs (is++js) (xs++ys)
 |[],js,[],ys,_,h=>h
 |[],_,_::_,_,h,_=>by simp [hsees] at h
 |_::_,_,[],_,h,_=>by simp [hsees] at h
 |i::is,js,x::xs,ys,h,k=>by
  simp only [hsees] at h
  exact ⟨h.1,hsees_append h.2 k⟩
theorem allOk_append {m:Nat}:∀ {xs ys:List H},allOk m xs→allOk m ys→allOk m (xs++ys)
 |[],_,_,h=>h
 |_x::_xs,_ys,h,k=>⟨h.1,allOk_append h.2 k⟩
theorem rangeAN (n j:Nat) (l:List Nat):(List.range n++l).getD (n + j) 0=l.getD j 0:=by
 rw [List.getD_eq_getElem?_getD,List.getElem?_append_right (by simp),List.getD_eq_getElem?_getD];simp
theorem see_keepN {kv ts ts':List V} {hs ex ex':List H} (ρ2:List Nat) (hnd:ρ2.Nodup) (hge:∀ k ∈ ρ2,hs.length≤k) (hr:roks hs.length hs) (hx:hsees (List.range hs.length++ρ2) (hs++ex) ρ2 ex') (hro:allOk (hs.length + ex'.length) ex') (hkv:voks hs.length kv) (ht:vsees (List.range hs.length++ρ2) ts' ts) (ht':voks (hs.length + ex'.length) ts') :
  seeE kv (List.range hs.length++ρ2) ⟨ts,hs++ex⟩ ⟨ts',hs++ex'⟩:=by
 have hf:Fix (List.range hs.length++ρ2) hs.length:=fix_range_app (Nat.le_refl _) _
 have hl:(hs++ex').length=hs.length + ex'.length:=by simp
 refine ⟨?_,ht,hsees_append (hsees_fix hf _ _ _ (by simp) fun j hj=>?_) hx,by rw [hl];exact ht',?_,by rw [hl];exact kvOk_fix hf (by omega) hkv⟩
 ·rw [List.nodup_append]
  refine ⟨List.nodup_range,hnd,fun a ha b hb=>?_⟩
  have:=hge b hb
  simp at ha;omega
 ·refine ⟨hs[j],gE hj,?_,roks_at hr (gE hj)⟩
  have:(List.range hs.length).getD j 0=j:=fix_range (Nat.le_refl _) j hj
  rw [this]
  exact hget_some (by rw [List.getElem?_append_left hj];exact gE hj)
 ·rw [hl]
  exact allOk_append (roks_allOk (roks_mono (by omega) hr)) hro
theorem vsees_junk (ρ:List Nat):∀ tl:List V,vsees ρ (List.replicate tl.length .junk) tl
 |[]=>trivial
 |_v::tl=>⟨trivial,vsees_junk ρ tl⟩
theorem voks_junk (m:Nat):∀ k,voks m (List.replicate k .junk)
 |0=>trivial
 |k + 1=>⟨trivial,voks_junk m k⟩
theorem inl_evG {P:Program} {f:FuncId} {fn:Func} {c:Code} {kv:List V} {hs:List H} {vs:List V} {K:V→List H→Prop} {n:Nat} (hf:P.funcs[f]?=some fn) (hb:fn.body=some c) (hcall:∀ (args:Array Value) (w:World),(callFunc f args).run P w=.ok (.enter f args) w)
  (hn:fn.ntmps=n) {rs:List ResultVar} (hr:fn.results.toList=rs) (h:codeG P kv c ⟨vs++List.replicate (n - vs.length) .junk,hs⟩ (hide (inlRet P rs (hide2 K .mk)) .mk) [] (hide (inlRet P rs (hide2 K .mk)) .mk)):InlCall P f kv hs vs K:=by
 intro B w0 kp us w hkv hR
 subst hr;subst hn
 have hlen:us.length=vs.length:=by
  obtain ⟨Dm,φ,r,_⟩:=hR
  have:=VRels_len _ _ r.tm
  simpa using this
 have fin:∀ (σ:St) (a:Act) (w':World),inlRet P fn.results.toList K σ→RR B w0 kp σ a w'→a.defers=[]∧∃ v,(results fn a.tmps).run P w'=.ok v w' ∧
   ∃ x hs',K x hs'∧RR B w0 kp ⟨[x],hs'⟩ ⟨#[v],[]⟩ w':=by
  rintro σ a w' hret ⟨Dm,φ,r,hD⟩
  obtain ⟨xs,ws,g1,hv,hu⟩:=rvsE_ok r _ _ hret
  refine ⟨r.de,if h:ws.length=1 then ws[0] else .tuple ws.toArray,?_,_,_,g1,Dm,φ,⟨?_,r.kp,r.hp,r.o1,r.o2,r.o3,r.dm,r.bel,r.bs,rfl,r.gb⟩,hD⟩
  ·rw [results_eq,Array.mapM_eq_mapM_toList]
   simp only [Sem.run_bind,Sem.run_map,hu]
   simp only [Result.andThen,List.size_toArray,Sem.run_pure]
   split<;>simp_all
  ·simp only [VRels]
   exact ⟨_,_,rfl,kp_vrels hv,rfl⟩
 refine Does.enter (hcall _ _) (calls_of_wp hf hb ?_)
 refine h B w0 kp _ _ w hkv (fun σ a w' h' r'=>?_) (fun id σ a w' h' _=>h'.elim) (fun σ a w' h' r'=>?_) ?_
 ·exact fin σ a w' h' r'
 ·exact fin σ a w' h' r'
 ·obtain ⟨Dm,φ,r,hD⟩:=hR
  have hs':us.toArray.size=vs.length:=by rw [List.size_toArray,hlen]
  refine ⟨Dm,φ,⟨?_,r.kp,r.hp,r.o1,r.o2,r.o3,r.dm,r.bel,r.bs,rfl,r.gb⟩,hD⟩
  have:=VRels_append r.tm (VRels_replicate (φ:=φ) (T:=NotTop φ hs) (h:=w.heap) (v:=.junk) (u:=undef) (by simp [VRel]) (fn.ntmps - vs.length))
  rw [hs'];simpa using this
/-- What a call leaves may be looked into. -/
theorem InlCall.look {P:Program} {f:FuncId} {kv:List V} {hs:List H} {vs:List V} {K:V→List H→Prop} (h:InlCall P f kv hs vs (fun x hs'=>K x hs'∨∃ id sz xs,hget hs' id=.cln sz xs∧K x (hput hs' id (.arr sz xs true)))):InlCall P f kv hs vs K:=by
 intro B w0 kp us w hkv hR
 refine (h B w0 kp us w hkv hR).mono fun v w' ⟨x,hs',h1,h2⟩=>?_
 rcases h1 with h1|⟨id,sz,xs,hg,h1⟩
 ·exact ⟨x,hs',h1,h2⟩
 ·exact ⟨x,_,h1,RR_look (σ:=⟨[x],hs'⟩) hg h2⟩
theorem vok_bif {n:Nat} {b:Bool} {x y:V}:vok n (bif b then x else y)↔((b=true→vok n x)∧(b=false→vok n y)):=by cases b<;>simp
theorem allE_of {F:Oper→List Bool→Prop}:∀ {l:List (Oper×List Bool)},(∀ x ∈ l,F x.1 x.2)→allE l F
 |[],_=>trivial
 |x::l,h=>⟨h x (by simp),allE_of fun y hy=>h y (by simp [hy])⟩
def predsE (o:Oper):List Nat:=(o.after.toList.filter (Region.binds .any)).map (·.on)
def topoE:Nat→List Oper→Bool
 |_,[]=>true
 |k,o::os=>(predsE o).all (fun j=>decide (j < k)) && topoE (k + 1) os
theorem topoE_at:∀ (os:List Oper) (k i:Nat) (o:Oper),topoE k os=true→os[i]?=some o→∀ j ∈ predsE o,j < k + i
 |[],_,_,_,_,h,_,_=>by simp at h
 |x::os,k,0,o,h,h1,j,hj=>by
  simp only [List.getElem?_cons_zero,Option.some.injEq] at h1
  subst h1
  simp only [topoE,Bool.and_eq_true,List.all_eq_true,decide_eq_true_eq] at h
  have:=h.1 j hj
  omega
 |x::os,k,i + 1,o,h,h1,j,hj=>by
  simp only [topoE,Bool.and_eq_true] at h
  have:=topoE_at os (k + 1) i o h.2 (by simpa using h1) j hj
  omega
theorem rdyE_none {ops:List Oper} {S:List Bool} (ht:topoE 0 ops=true) (hl:S.length=ops.length) (h:rdyE S ops [] S=[]) (i:Nat):i < ops.length→S[i]?=some true:=by
 induction i using Nat.strongRecOn with
 |_ i ih=>
  intro hi
  have hb:S[i]?=some S[i]:=gE (by omega)
  cases hv:S[i] with
  |true=>rw [hb,hv]
  |false=>
   rw [hv] at hb
   have ho:ops[i]?=some ops[i]:=gE hi
   have:=rdyE_at (S:=S) ops [] S i ops[i] ho hb fun e he hx=>by
    have hm:e.on ∈ predsE ops[i]:=List.mem_map.2 ⟨e,List.mem_filter.2 ⟨by simpa using he,hx⟩,rfl⟩
    have hlt:=topoE_at ops 0 i _ ht ho _ hm
    have hq:=ih e.on (by omega) (by omega)
    rw [List.getD_eq_getElem?_getD,hq];rfl
   rw [h] at this
   cases this
theorem cntF_set:∀ (S:List Bool) (i:Nat),S[i]?=some false→(S.set i true).count false + 1=S.count false
 |[],_,h=>by simp at h
 |b::S,0,h=>by
  simp only [List.getElem?_cons_zero,Option.some.injEq] at h
  subst h
  simp
 |b::S,i + 1,h=>by
  have:=cntF_set S i (by simpa using h)
  rw [List.set_cons_succ,List.count_cons,List.count_cons]
  omega
def symE (F:Nat→Oper→Prop):Nat→List Oper→Prop
 |_,[]=>True
 |k,o::os=>F k o∧symE F (k + 1) os
theorem symE_cons {F:Nat→Oper→Prop} {k:Nat} {o:Oper} {os:List Oper} (h:F k o) (hr:symE F (k + 1) os):symE F k (o::os):=⟨h,hr⟩
theorem symE_nil {F:Nat→Oper→Prop} {k:Nat}:symE F k []:=trivial
theorem symE_at {F:Nat→Oper→Prop}:∀ (os:List Oper) (k i:Nat) (o:Oper),symE F k os→os[i]?=some o→F (k + i) o
 |[],_,_,_,_,h=>by simp at h
 |x::os,k,0,o,h,h1=>by
  simp only [List.getElem?_cons_zero,Option.some.injEq] at h1
  subst h1
  exact h.1
 |x::os,k,i + 1,o,h,h1=>by
  have:=symE_at os (k + 1) i o h.2 (by simpa using h1)
  rwa [show k + (i + 1)=k + 1 + i from by omega]
/-- what waits for an operation that is not done is not done -/
def clsE (ops:List Oper) (S:List Bool):Prop:=∀ (i j:Nat) (o:Oper),ops[j]?=some o→i ∈ predsE o→S[i]?=some false→S[j]?=some false
/-- what operation k asks: its own mark is off, those it waits for are on -/
def opSym (P:Program) (kv:List V) (ops:List Oper) (Inv:List Bool→St→Prop) (k:Nat) (o:Oper):Prop:=
 ∀ (S:List Bool) (σ:St) (F:St→Prop),S.length=ops.length→S[k]?=some false→(predsE o).all (fun j=>S.getD j false)=true→clsE ops S→Inv S σ→(∀ σ',Inv (S.set k true) σ'→F σ')→seqE P kv ops σ o (hide (fun σ'=>F σ') .mk)
theorem exE_sym {P:Program} {kv:List V} {ops:List Oper} (Inv:List Bool→St→Prop) {N:Nat} (hN:ops.length=N) (ht:topoE 0 ops=true) {σ:St} (h0:Inv (List.replicate N false) σ) (h1:symE (opSym P kv ops Inv) 0 ops) :
  exE P kv ops ops.length (List.replicate ops.length false) σ (fun σ'=>Inv (List.replicate N true) σ'):=by
 subst hN
 have main:∀ (n:Nat) (S:List Bool) (σ:St),S.length=ops.length→S.count false=n→clsE ops S→Inv S σ→exE P kv ops n S σ (fun σ'=>Inv (List.replicate ops.length true) σ'):=by
  intro n
  induction n with
  |zero=>
   intro S σ hl hc hcl hI
   have hall:∀ b ∈ S,b=true:=fun b hb=>by
    cases b with
    |true=>rfl
    |false=>have:=List.count_pos_iff.2 hb;omega
   have hS:S=List.replicate ops.length true:=by
    rw [← hl];exact List.eq_replicate_iff.2 ⟨rfl,hall⟩
   refine ⟨?_,hS ▸ hI⟩
   rw [List.eq_nil_iff_forall_not_mem]
   intro x hx
   obtain ⟨i,_,h2,_⟩:=rdyE_sub ops [] S x hx
   have:=hall false (List.mem_of_getElem? h2)
   cases this
  |succ n ih=>
   intro S σ hl hc hcl hI
   refine ⟨fun h=>?_,allE_of fun x hx=>?_⟩
   ·have hall:=rdyE_none ht hl h
    have:false ∈ S:=List.count_pos_iff.1 (by omega)
    obtain ⟨i,hi,he⟩:=List.getElem_of_mem this
    have:=hall i (by omega)
    rw [gE hi,he] at this
    cases this
   ·obtain ⟨i,h2,h3,h4,h5⟩:=rdyE_sub ops [] S x hx
    have hq:=symE_at ops 0 i x.1 h1 h2
    rw [Nat.zero_add] at hq
    refine hq S σ (fun σ'=>exE P kv ops n x.2 σ' _) hl h3 ?_ hcl hI fun σ' hI'=>?_
    ·rw [List.all_eq_true]
     intro j hj
     obtain ⟨e,he,rfl⟩:=List.mem_map.1 hj
     obtain ⟨he1,he2⟩:=List.mem_filter.1 he
     exact h5 e (by simpa using he1) he2
    ·rw [h4,nA]
     have:=cntF_set S i h3
     refine ih (S.set i true) σ' (by simpa using hl) (by omega) (fun a b o ho ha hb=>?_) hI'
     have hai:i≠a:=fun e=>by
      subst e
      have:i < S.length:=by
       have:=List.getElem?_eq_some_iff.1 h3
       exact this.1
      rw [List.getElem?_set_self this] at hb
      cases hb
     rw [List.getElem?_set_ne hai] at hb
     have hne:i≠b:=fun e=>by
      subst e
      rw [h2] at ho
      cases ho
      obtain ⟨e,he,rfl⟩:=List.mem_map.1 ha
      obtain ⟨he1,he2⟩:=List.mem_filter.1 he
      have:=h5 e (by simpa using he1) he2
      rw [List.getD_eq_getElem?_getD,hb] at this
      cases this
     rw [List.getElem?_set_ne hne]
     exact hcl a b o ho ha hb
 refine main ops.length _ σ (by simp) (by simp) (fun a b o ho ha hb=>?_) h0
 have:b < ops.length:=(List.getElem?_eq_some_iff.1 ho).1
 simp [this]
set_option maxRecDepth 100000
def mxRanges0:List (List Rl):=mxD 18 [387420488,387420486,387420480,387420462,387420408,387420246,387419760,380253690,380249316,387173358,387389871,387271773,386897796,385834914,382646268,373071582,344373768,258280326]
def mxRanges1:List (List Rl):=mxD 24 [282429536477,282429536479,282429536472,282429536454,282429536400,282429536238,282429535752,282429534294,282429529920,282429516798,277220115603,277220765142,277220410848,277219288917,277216100271,277206534333,282278843433,282364936875,282063609828,281288768850,278964245916,271969183278,251048476872,188286357654]
def mxRanges2:List (List Rl):=mxD 9 [18707,18709,18702,18684,18630,19561,19075,17496,13122]
def mxRanges3:List (List Rl):=mxD 10 [57959,57957,59017,59035,58972,58810,58324,56862,52488,39366]
attribute [go_sem] mxRanges0 mxRanges1 mxRanges2 mxRanges3
def rOk (r:TRange):Bool:=decide (0≤r.low) && decide (r.low < r.high) && decide (r.high≤4611686018427387903)
def rAt (xs:List TRange) (i:Nat):Bool:=
 match xs[i]? with
 |some x=>rOk x && (match i with|0=>true|j + 1=>match xs[j]? with|some p=>decide (p.high < x.low)|none=>true)
 |none=>true
def areR (xs:List TRange):Bool:=(List.range xs.length).all (rAt xs)
theorem areR_bad (xs:List TRange) (i:Nat) (h:i < xs.length) (h2:rAt xs i=false):areR xs=false:=by
 unfold areR;rw [List.all_eq_false];exact ⟨i,List.mem_range.2 h,by simp [h2]⟩
theorem range_step {p:Nat→Bool} {i:Nat} (h:(List.range i).all p=true) (h2:p i=true):(List.range (i + 1)).all p=true:=by
 rw [List.range_succ,List.all_append,h];simp [h2]
def minI (a b:Int):Int:=if b < a then b else a
def maxI (a b:Int):Int:=if b > a then b else a
def arStep (s:List TRange×Bool×TRange) (x:TRange):List TRange×Bool×TRange:=
 if x.high < s.2.2.low then (s.1++[x],s.2.1,s.2.2)
 else if s.2.2.high < x.low then ((if s.2.1=true then s.1 else s.1++[s.2.2])++[x],true,s.2.2)
 else (s.1,s.2.1,⟨minI s.2.2.low x.low,maxI s.2.2.high x.high⟩)
def arS (xs:List TRange) (r:TRange):Nat→List TRange×Bool×TRange
 |0=>([],false,r)
 |i + 1=>match xs[i]? with|some x=>arStep (arS xs r i) x|none=>arS xs r i
theorem arS_step (xs:List TRange) (r:TRange) (i:Nat) (h:i < xs.length):arS xs r (i + 1)=arStep (arS xs r i) xs[i]:=by
 rw [arS,gE h]
theorem arS_len (xs:List TRange) (r:TRange):∀ i,(arS xs r i).1.length≤i + (if (arS xs r i).2.1=true then 1 else 0)
 |0=>by simp [arS]
 |i + 1=>by
  have:=arS_len xs r i
  rw [arS]
  split
  ·unfold arStep
   by_cases h1:(arS xs r i).2.1=true
   ·simp only [h1,if_true] at this ⊢
    split
    ·simp;omega
    ·split
     ·simp;omega
     ·simp;omega
   ·simp only [h1] at this ⊢
    split
    ·simp at this ⊢;omega
    ·split
     ·simp at this ⊢;omega
     ·simp at this ⊢;omega
  ·by_cases h1:(arS xs r i).2.1=true
   ·simp only [h1,if_true] at this ⊢;omega
   ·simp [h1] at this ⊢;omega
def addR (xs:List TRange) (r:TRange):List TRange:=
 if areR xs && rOk r=true then (if (arS xs r xs.length).2.1=true then (arS xs r xs.length).1 else (arS xs r xs.length).1++[(arS xs r xs.length).2.2]) else xs
theorem addR_len (xs:List TRange) (r:TRange):(addR xs r).length≤xs.length + 1:=by
 have:=arS_len xs r xs.length
 unfold addR
 split
 ·split
  ·rename_i h;rw [if_pos h] at this;exact this
  ·rename_i h;rw [if_neg h] at this;simp;omega
 ·omega
theorem rAt_zero (xs:List TRange) (h:0 < xs.length):rAt xs 0=rOk xs[0]:=by
 unfold rAt;rw [gE h];simp
theorem rAt_succ (xs:List TRange) (j:Nat) (h:j + 1 < xs.length):rAt xs (j + 1)=(rOk xs[j + 1] && decide (xs[j].high < xs[j + 1].low)):=by
 unfold rAt;rw [gE h];simp only [gE (show j < xs.length by omega)]
theorem impl_isRange (l h:Int):PureCall Tryz.prog 86 [.agg [.int .i64 l,.int .i64 h]] [.one (.bool (rOk ⟨l,h⟩))]:=by
 refine pureT 18 Tryz.func86 Tryz.call86 [.tmp 2] ?_
 intro _
 try simp only [go_sem]
 repeat' (refine gSymS ?_<;>simp only [go_sem])
 all_goals (simp [rOk];try (cases decide (0≤l)<;>cases decide (l < h)<;>simp))
theorem impl_copyRanges (xs:List TRange) (hx:xs.length≤8388608):PureCall Tryz.prog 87 [.one (.sl 2 (xs.map TRange.enc))] [.one (.sl 2 (xs.map TRange.enc))]:=by
 refine pureT 6 Tryz.func87 Tryz.call87 [.tmp 2] ?_
 intro _
 try simp only [go_sem,lM]
 repeat' (first|(with_reducible refine sideI ?_)|fail)
 all_goals simp
theorem impl_IsRanges (xs:List TRange):PureCall Tryz.prog 85 [.one (.sl 2 (xs.map TRange.enc))] [.one (.bool (areR xs))]:=by
 refine pureT 31 Tryz.func85 Tryz.call85 [.tmp 2] ?_
 intro ok
 have hm:=len_of ok
 simp only [go_sem,lM]
 refine LoopK.intro (fun i:Nat=>⟨(.d (.sl 2 (xs.map TRange.enc))::.junk::.d (.bool false)::.junk::.junk::.d (.sl 2 (xs.map TRange.enc))::.d (.int .i64 xs.length)::.d (.int .i64 i)::jn 23 []),[]⟩)
   (fun i=>xs.length - i) (fun i=>i≤xs.length∧(List.range i).all (rAt xs)=true) 0 [] ⟨by omega,by simp⟩ ?_ ?_
 ·simp only [go_sem];simp
 ·rintro i ⟨hi,he⟩
  simp only [go_sem]
  refine cSplit (fun h1=>?_) (fun h1=>?_)
  ·have h1':=oT h1
   have hlt:i < xs.length:=by omega
   have hxi:=map_at TRange.enc xs i hlt
   have hw:=inc hlt hm
   have hbad:=areR_bad xs i hlt
   have hgood:rAt xs i=true→(List.range (i + 1)).all (rAt xs)=true:=range_step he
   cases i with
   |zero=>
    rw [rAt_zero xs hlt] at hbad hgood
    have hr:rOk ⟨xs[0].low,xs[0].high⟩=rOk xs[0]:=rfl
    have hw0:IntKind.i64.wrap (0 + 1)=((1:Nat):Int):=by rw [w64]<;>omega
    try simp only [go_sem,lM,hxi,TRange.enc,Int.toNat_zero,Int.natCast_zero]
    repeat' (first|((first|refine CallK.intro (by apply impl_isRange) ?_|with_reducible refine gFalse ?_|refine gSym ?_|refine drawE_intro mxRanges0 (by kernel_rfl) (by rfl) ?_|refine cSplit (fun h=>?_) (fun h=>?_))<;>simp only [go_sem,Int.lt_irrefl,decide_false])|(with_reducible refine sideI ?_)|fail)
    all_goals first
     |(rw [hr] at h;rw [hbad (by revert h;cases rOk xs[0]<;>simp)])
     |(rw [hr] at h;refine RoundE.intro 1 [] ⟨by omega,hgood (by revert h;cases rOk xs[0]<;>simp)⟩ (by omega) ?_;simp only [go_sem,hw0])
   |succ j=>
    rw [rAt_succ xs j hlt] at hbad hgood
    have hxj:=map_at TRange.enc xs j (by omega)
    have hs:IntKind.i64.wrap (((j + 1:Nat):Int) - 1)=(j:Int):=by simp only [maxLen] at hm;rw [w64]<;>omega
    have hg:decide ((0:Int) < ((j + 1:Nat):Int))=true:=dT (by omega)
    have hr:rOk ⟨xs[j + 1].low,xs[j + 1].high⟩=rOk xs[j + 1]:=rfl
    have hd:decide (xs[j + 1].low≤xs[j].high)=!decide (xs[j].high < xs[j + 1].low):=by by_cases hx:xs[j].high < xs[j + 1].low<;>simp [hx]<;>omega
    try simp only [go_sem,lM,tN,hxi,TRange.enc]
    repeat' (first|((first|refine CallK.intro (by apply impl_isRange) ?_|refine gSym ?_|refine drawE_intro mxRanges0 (by kernel_rfl) (by rfl) ?_|refine cSplit (fun h=>?_) (fun h=>?_))<;>simp only [go_sem,lM,tN,hxj,TRange.enc,hs,hg])|(with_reducible refine sideI ?_)|fail)
    all_goals first
     |(rw [hr,hd] at h;rw [hbad (by revert h;cases rOk xs[j + 1]<;>cases decide (xs[j].high < xs[j + 1].low)<;>simp)])
     |(rw [hr,hd] at h;refine RoundE.intro (j + 1 + 1) [] ⟨by omega,hgood (by revert h;cases rOk xs[j + 1]<;>cases decide (xs[j].high < xs[j + 1].low)<;>simp)⟩ (by omega) ?_;simp only [go_sem,hw])
  ·have h1':=oF h1
   have hi2:i=xs.length:=by omega
   subst hi2
   simp only [go_sem]
   simp [areR,he]
theorem spec_l3Fine (l h:Int):PureCall Tryz.prog 89 [.agg [.int .i64 l,.int .i64 h]] [.one (.bool (rOk ⟨l,h⟩))]:=by
 refine pureT 18 Tryz.func89 Tryz.call89 [.tmp 2] ?_
 intro _
 try simp only [go_sem]
 repeat' (refine gSymS ?_<;>simp only [go_sem])
 all_goals (simp [rOk];try (cases decide (0≤l)<;>cases decide (l < h)<;>simp))
theorem spec_l3Copy (xs:List TRange) (hx:xs.length≤8388608):PureCall Tryz.prog 90 [.one (.sl 2 (xs.map TRange.enc))] [.one (.sl 2 (xs.map TRange.enc))]:=by
 refine pureT 6 Tryz.func90 Tryz.call90 [.tmp 2] ?_
 intro _
 try simp only [go_sem,lM]
 repeat' (first|(with_reducible refine sideI ?_)|fail)
 all_goals simp
theorem spec_IsRanges (xs:List TRange):PureCall Tryz.prog 88 [.one (.sl 2 (xs.map TRange.enc))] [.one (.bool (areR xs))]:=by
 refine pureT 34 Tryz.func88 Tryz.call88 [.tmp 2] ?_
 intro ok
 have hm:=len_of ok
 simp only [go_sem]
 refine LoopK.intro (fun i:Nat=>⟨(.d (.sl 2 (xs.map TRange.enc))::.junk::.d (.bool false)::.d (.int .i64 i)::jn 30 []),[]⟩)
   (fun i=>xs.length - i) (fun i=>i≤xs.length∧(List.range i).all (rAt xs)=true) 0 [] ⟨by omega,by simp⟩ ?_ ?_
 ·simp only [go_sem];simp
 ·rintro i ⟨hi,he⟩
  simp only [go_sem,lM]
  refine cSplit (fun h1=>?_) (fun h1=>?_)
  ·have h1':=oT h1
   have hlt:i < xs.length:=by omega
   have hxi:=map_at TRange.enc xs i hlt
   have hw:=inc hlt hm
   have hbad:=areR_bad xs i hlt
   have hgood:rAt xs i=true→(List.range (i + 1)).all (rAt xs)=true:=range_step he
   cases i with
   |zero=>
    rw [rAt_zero xs hlt] at hbad hgood
    have hr:rOk ⟨xs[0].low,xs[0].high⟩=rOk xs[0]:=rfl
    have hw0:IntKind.i64.wrap (0 + 1)=((1:Nat):Int):=by rw [w64]<;>omega
    try simp only [go_sem,Int.natCast_zero]
    repeat' (first|((first|refine CallK.intro (by apply spec_l3Fine) ?_|with_reducible refine gFalse ?_|refine gSym ?_|refine drawE_intro mxRanges1 (by kernel_rfl) (by rfl) ?_|refine cSplit (fun h=>?_) (fun h=>?_))<;>simp only [go_sem,lM,hxi,TRange.enc,Int.toNat_zero,Int.lt_irrefl,decide_false])|(with_reducible refine sideI ?_)|fail)
    all_goals first
     |(rw [hr] at h;rw [hbad (by revert h;cases rOk xs[0]<;>simp)])
     |(rw [hr] at h;refine RoundE.intro 1 [] ⟨by omega,hgood (by revert h;cases rOk xs[0]<;>simp)⟩ (by omega) ?_;simp only [go_sem,hw0])
   |succ j=>
    rw [rAt_succ xs j hlt] at hbad hgood
    have hxj:=map_at TRange.enc xs j (by omega)
    have hs:IntKind.i64.wrap (((j + 1:Nat):Int) - 1)=(j:Int):=by simp only [maxLen] at hm;rw [w64]<;>omega
    have hg:decide ((0:Int) < ((j + 1:Nat):Int))=true:=dT (by omega)
    have hr:rOk ⟨xs[j + 1].low,xs[j + 1].high⟩=rOk xs[j + 1]:=rfl
    have hd:decide (xs[j + 1].low≤xs[j].high)=!decide (xs[j].high < xs[j + 1].low):=by by_cases hx:xs[j].high < xs[j + 1].low<;>simp [hx]<;>omega
    try simp only [go_sem]
    repeat' (first|((first|refine CallK.intro (by apply spec_l3Fine) ?_|refine gSym ?_|refine drawE_intro mxRanges1 (by kernel_rfl) (by rfl) ?_|refine cSplit (fun h=>?_) (fun h=>?_))<;>simp only [go_sem,lM,tN,hxi,hxj,TRange.enc,hs,hg])|(with_reducible refine sideI ?_)|fail)
    all_goals first
     |(rw [hr,hd] at h;rw [hbad (by revert h;cases rOk xs[j + 1]<;>cases decide (xs[j].high < xs[j + 1].low)<;>simp)])
     |(rw [hr,hd] at h;refine RoundE.intro (j + 1 + 1) [] ⟨by omega,hgood (by revert h;cases rOk xs[j + 1]<;>cases decide (xs[j].high < xs[j + 1].low)<;>simp)⟩ (by omega) ?_;simp only [go_sem,hw])
  ·have h1':=oF h1
   have hi2:i=xs.length:=by omega
   subst hi2
   simp only [go_sem]
   simp [areR,he]
theorem impl_AddRange (xs:List TRange) (l h:Int) (hx:xs.length≤1048576):PureCall Tryz.prog 61 [.one (.sl 2 (xs.map TRange.enc)),.agg [.int .i64 l,.int .i64 h]] [.one (.sl 2 ((addR xs ⟨l,h⟩).map TRange.enc))]:=by
 refine pureT 71 Tryz.func61 Tryz.call61 [.tmp 4] ?_
 intro ok
 have hm:=len_of ok
 simp only [go_sem]
 refine CallS.intro (impl_IsRanges xs) ?_
 simp only [go_sem]
 repeat' (first
  |(refine CallS.intro (impl_isRange l h) ?_;simp only [go_sem,lM])
  |(refine CallK.intro (impl_isRange l h) ?_;simp only [go_sem])
  |(refine gSymS ?_;simp only [go_sem])|(refine gSym ?_;simp only [go_sem,lM]))
 have hz:(bif !areR xs then true else !rOk ⟨l,h⟩)=!(areR xs && rOk ⟨l,h⟩):=by cases areR xs<;>cases rOk ⟨l,h⟩<;>rfl
 rw [hz]
 refine cSplit (fun h0=>?_) (fun h0=>?_)
 ·have h5:(areR xs && rOk ⟨l,h⟩)=false:=by cases hq:(areR xs && rOk ⟨l,h⟩) with|false=>rfl|true=>rw [hq] at h0;cases h0
  have htk:(xs.map TRange.enc).take xs.length=xs.map TRange.enc:=List.take_of_length_le (by simp)
  simp only [go_sem]
  refine CallS.intro (impl_copyRanges xs (by omega)) ?_
  simp only [go_sem]
  simp [addR,h5,htk]
 ·have h5:(areR xs && rOk ⟨l,h⟩)=true:=by cases hq:(areR xs && rOk ⟨l,h⟩) with|true=>rfl|false=>rw [hq] at h0;cases h0
  simp only [go_sem]
  refine LoopK.intro (fun i:Nat=>⟨(.d (.sl 2 (xs.map TRange.enc))::.junk::.junk::.ptr 0 0 0::.nils 2::.sl 1 0 (arS xs ⟨l,h⟩ i).1.length::.d (.bool (arS xs ⟨l,h⟩ i).2.1)::jn 13 (.d (.sl 2 (xs.map TRange.enc))::.d (.int .i64 xs.length)::.d (.int .i64 i)::jn 48 [])),[.box [.d (.int .i64 (arS xs ⟨l,h⟩ i).2.2.low),.d (.int .i64 (arS xs ⟨l,h⟩ i).2.2.high)],.arr 2 ((arS xs ⟨l,h⟩ i).1.map TRange.enc) true]⟩)
   (fun i=>xs.length - i) (fun i=>i≤xs.length) 0 [0,1] (by omega) ?_ ?_
  ·simp only [go_sem];simp [arS]
  ·intro i hi
   have hal:=arS_len xs ⟨l,h⟩ i
   have hal2:(arS xs ⟨l,h⟩ i).1.length≤i + 1:=by split at hal<;>omega
   simp only [go_sem]
   refine cSplit (fun h1=>?_) (fun h1=>?_)
   ·have h1':=oT h1
    have hlt:i < xs.length:=by omega
    have hxi:=map_at TRange.enc xs i hlt
    have hw:=inc hlt hm
    have hst:=arS_step xs ⟨l,h⟩ i hlt
    generalize hs:arS xs ⟨l,h⟩ i=s at hst hal2
    obtain ⟨o,p,⟨rl,rh⟩⟩:=s
    simp only at hal2
    by_cases hA:xs[i].high < rl
    ·have hA':=dT hA
     simp only [arStep,hA,if_true] at hst
     try simp only [go_sem,lM,tN,hxi,TRange.enc,hA']
     repeat' (first|(with_reducible refine sideI ?_)|fail)
     all_goals (refine RoundE.intro (i + 1) [0,4] (by omega) (by omega) ?_;simp only [go_sem,hw,hst];simp [TRange.enc])
    ·have hA':=dF hA
     by_cases hB:rh < xs[i].low
     ·have hB':=dT hB
      simp only [arStep,hA,hB,if_true,if_false] at hst
      cases p with
      |true=>
       try simp only [go_sem,lM,tN,hxi,TRange.enc,hA',hB']
       repeat' (first|(with_reducible refine sideI ?_)|fail)
       all_goals (refine RoundE.intro (i + 1) [0,4] (by omega) (by omega) ?_;simp only [go_sem,hw,hst];simp [TRange.enc])
      |false=>
       try simp only [go_sem,lM,tN,hxi,TRange.enc,hA',hB']
       repeat' (first|(with_reducible refine sideI ?_)|fail)
       all_goals (refine RoundE.intro (i + 1) [0,6] (by omega) (by omega) ?_;simp only [go_sem,hw,hst];simp [TRange.enc])
     ·have hB':=dF hB
      simp only [arStep,hA,hB,if_false] at hst
      try simp only [go_sem,lM,tN,hxi,TRange.enc,hA',hB']
      repeat' (first|(with_reducible refine sideI ?_)|fail)
      all_goals (refine RoundE.intro (i + 1) [0,1] (by omega) (by omega) ?_;simp only [go_sem,hw,hst];simp [minI,maxI])
   ·have h1':=oF h1
    have hi2:i=xs.length:=by omega
    subst hi2
    generalize hs:arS xs ⟨l,h⟩ xs.length=s at hal2
    obtain ⟨o,p,⟨rl,rh⟩⟩:=s
    simp only at hal2
    cases p with
    |true=>
     try simp only [go_sem,lM]
     repeat' (first|(with_reducible refine sideI ?_)|fail)
     all_goals simp [addR,h5,hs]
    |false=>
     try simp only [go_sem,lM]
     repeat' (first|(with_reducible refine sideI ?_)|fail)
     all_goals (simp [addR,h5,hs,TRange.enc];try exact List.take_of_length_le (by simp))
theorem spec_AddRange (xs:List TRange) (l h:Int) (hx:xs.length≤1048576):PureCall Tryz.prog 62 [.one (.sl 2 (xs.map TRange.enc)),.agg [.int .i64 l,.int .i64 h]] [.one (.sl 2 ((addR xs ⟨l,h⟩).map TRange.enc))]:=by
 refine pureT 88 Tryz.func62 Tryz.call62 [.tmp 4] ?_
 intro ok
 have hm:=len_of ok
 simp only [go_sem]
 refine CallS.intro (spec_IsRanges xs) ?_
 simp only [go_sem]
 repeat' (first
  |(refine CallS.intro (spec_l3Fine l h) ?_;simp only [go_sem,lM])
  |(refine CallK.intro (spec_l3Fine l h) ?_;simp only [go_sem])
  |(refine gSymS ?_;simp only [go_sem])|(refine gSym ?_;simp only [go_sem,lM]))
 have hz:(bif !areR xs then true else !rOk ⟨l,h⟩)=!(areR xs && rOk ⟨l,h⟩):=by cases areR xs<;>cases rOk ⟨l,h⟩<;>rfl
 rw [hz]
 refine cSplit (fun h0=>?_) (fun h0=>?_)
 ·have h5:(areR xs && rOk ⟨l,h⟩)=false:=by cases hq:(areR xs && rOk ⟨l,h⟩) with|false=>rfl|true=>rw [hq] at h0;cases h0
  have htk:(xs.map TRange.enc).take xs.length=xs.map TRange.enc:=List.take_of_length_le (by simp)
  simp only [go_sem]
  refine CallS.intro (spec_l3Copy xs (by omega)) ?_
  simp only [go_sem]
  simp [addR,h5,htk]
 ·have h5:(areR xs && rOk ⟨l,h⟩)=true:=by cases hq:(areR xs && rOk ⟨l,h⟩) with|true=>rfl|false=>rw [hq] at h0;cases h0
  simp only [go_sem]
  refine LoopK.intro (fun i:Nat=>⟨(.d (.sl 2 (xs.map TRange.enc))::.junk::.junk::.ptr 0 0 0::.nils 2::.sl 1 0 (arS xs ⟨l,h⟩ i).1.length::.d (.bool (arS xs ⟨l,h⟩ i).2.1)::.d (.int .i64 i)::jn 80 []),[.box [.d (.int .i64 (arS xs ⟨l,h⟩ i).2.2.low),.d (.int .i64 (arS xs ⟨l,h⟩ i).2.2.high)],.arr 2 ((arS xs ⟨l,h⟩ i).1.map TRange.enc) true]⟩)
   (fun i=>xs.length - i) (fun i=>i≤xs.length) 0 [0,1] (by omega) ?_ ?_
  ·simp only [go_sem];simp [arS]
  ·intro i hi
   have hal:=arS_len xs ⟨l,h⟩ i
   have hal2:(arS xs ⟨l,h⟩ i).1.length≤i + 1:=by split at hal<;>omega
   simp only [go_sem,lM]
   refine cSplit (fun h1=>?_) (fun h1=>?_)
   ·have h1':=oT h1
    have hlt:i < xs.length:=by omega
    have hxi:=map_at TRange.enc xs i hlt
    have hw:=inc hlt hm
    have hst:=arS_step xs ⟨l,h⟩ i hlt
    generalize hs:arS xs ⟨l,h⟩ i=s at hst hal2
    obtain ⟨o,p,⟨rl,rh⟩⟩:=s
    simp only at hal2
    by_cases hA:xs[i].high < rl
    ·have hA':=dT hA
     simp only [arStep,hA,if_true] at hst
     try simp only [go_sem]
     repeat' (first|(refine drawE_intro mxRanges2 (by kernel_rfl) (by rfl) ?_<;>simp only [go_sem,lM,tN,hxi,TRange.enc,hA'])|(with_reducible refine sideI ?_)|fail)
     all_goals (refine RoundE.intro (i + 1) [0,3] (by omega) (by omega) ?_;simp only [go_sem,hw,hst];simp [TRange.enc])
    ·have hA':=dF hA
     by_cases hB:rh < xs[i].low
     ·have hB':=dT hB
      simp only [arStep,hA,hB,if_true,if_false] at hst
      cases p with
      |true=>
       try simp only [go_sem]
       repeat' (first|(refine drawE_intro mxRanges2 (by kernel_rfl) (by rfl) ?_<;>simp only [go_sem,lM,tN,hxi,TRange.enc,hA',hB'])|(with_reducible refine sideI ?_)|fail)
       all_goals (refine RoundE.intro (i + 1) [0,3] (by omega) (by omega) ?_;simp only [go_sem,hw,hst];simp [TRange.enc])
      |false=>
       try simp only [go_sem]
       repeat' (first|(refine drawE_intro mxRanges2 (by kernel_rfl) (by rfl) ?_<;>simp only [go_sem,lM,tN,hxi,TRange.enc,hA',hB'])|(with_reducible refine sideI ?_)|fail)
       all_goals (refine RoundE.intro (i + 1) [0,5] (by omega) (by omega) ?_;simp only [go_sem,hw,hst];simp [TRange.enc])
     ·have hB':=dF hB
      simp only [arStep,hA,hB,if_false] at hst
      try simp only [go_sem]
      repeat' (first|((first|refine drawE_intro mxRanges2 (by kernel_rfl) (by rfl) ?_|refine drawE_intro mxRanges3 (by kernel_rfl) (by rfl) ?_)<;>simp only [go_sem,lM,tN,hxi,TRange.enc,hA',hB'])|(with_reducible refine sideI ?_)|fail)
      all_goals (refine RoundE.intro (i + 1) [0,1] (by omega) (by omega) ?_;simp only [go_sem,hw,hst];simp [minI,maxI])
   ·have h1':=oF h1
    have hi2:i=xs.length:=by omega
    subst hi2
    generalize hs:arS xs ⟨l,h⟩ xs.length=s at hal2
    obtain ⟨o,p,⟨rl,rh⟩⟩:=s
    simp only at hal2
    cases p with
    |true=>
     try simp only [go_sem,lM]
     repeat' (first|(with_reducible refine sideI ?_)|fail)
     all_goals simp [addR,h5,hs]
    |false=>
     try simp only [go_sem,lM]
     repeat' (first|(with_reducible refine sideI ?_)|fail)
     all_goals (simp [addR,h5,hs,TRange.enc];try exact List.take_of_length_le (by simp))
set_option maxRecDepth 100000
def isQ (n:Int):Bool:=inB n 0 4611686018427387903
theorem impl_isQuic (n:Int):PureCall Tryz.prog 79 [.one (.int .i64 n)] [.one (.bool (isQ n))]:=by
 refine pureT 5 Tryz.func79 Tryz.call79 [.tmp 2] ?_
 intro _
 try simp only [go_sem]
 repeat' (refine CallS.intro (by apply impl_within) ?_<;>simp only [go_sem])
 all_goals simp [isQ]
theorem spec_l4Quic (n:Int):PureCall Tryz.prog 68 [.one (.int .i64 n)] [.one (.bool (isQ n))]:=by
 refine pureT 5 Tryz.func68 Tryz.call68 [.tmp 2] ?_
 intro _
 try simp only [go_sem]
 repeat' (refine CallS.intro (by apply spec_l1In) ?_<;>simp only [go_sem])
 all_goals simp [isQ]
def isRS (n:Int):Bool:=inB n 1 64 && decide (bitI .and .i64 n (IntKind.i64.wrap (n - 1))=0)
theorem impl_isRingSize (n:Int):PureCall Tryz.prog 78 [.one (.int .i64 n)] [.one (.bool (isRS n))]:=by
 refine pureT 12 Tryz.func78 Tryz.call78 [.tmp 2] ?_
 intro _
 try simp only [go_sem]
 repeat' ((first|refine CallS.intro (by apply impl_within) ?_|refine gSymS ?_)<;>simp only [go_sem])
 all_goals (refine one_bool ?_;simp [isRS,inB])
theorem spec_l8Power (n:Int):PureCall Tryz.prog 83 [.one (.int .i64 n)] [.one (.bool (isRS n))]:=by
 refine pureT 16 Tryz.func83 Tryz.call83 [.tmp 2] ?_
 intro _
 try simp only [go_sem]
 repeat' (refine gSymS ?_<;>simp only [go_sem])
 all_goals (refine one_bool ?_;simp [isRS,inB];try omega)
def isConf (c:TConf):Bool:=isRS c.ring && inB c.windowMost 1 4096 && inB c.totalMost 1 4096 && inB c.window 1 c.windowMost && inB c.total 1 c.totalMost && inB c.bidi 0 1000 && inB c.uni 0 1000 && inB c.trip 1 1000
theorem impl_IsConf (eH eJ eK eL eM eN eO eP:Int):PureCall Tryz.prog 41 [.agg [.int .i64 eH,.int .i64 eJ,.int .i64 eK,.int .i64 eL,.int .i64 eM,.int .i64 eN,.int .i64 eO,.int .i64 eP]] [.one (.bool (isConf (⟨eH,eJ,eK,eL,eM,eN,eO,eP⟩:TConf)))]:=by
 refine pureT 45 Tryz.func41 Tryz.call41 [.tmp 2] ?_
 intro _
 try simp only [go_sem]
 repeat' ((first|refine CallS.intro (by apply impl_isRingSize) ?_|refine CallK.intro (by apply impl_within) ?_|refine gSymS ?_)<;>simp only [go_sem])
 all_goals (refine one_bool ?_;simp [isConf,and_assoc,and_comm,and_left_comm])
theorem spec_IsConf (eH eJ eK eL eM eN eO eP:Int):PureCall Tryz.prog 51 [.agg [.int .i64 eH,.int .i64 eJ,.int .i64 eK,.int .i64 eL,.int .i64 eM,.int .i64 eN,.int .i64 eO,.int .i64 eP]] [.one (.bool (isConf (⟨eH,eJ,eK,eL,eM,eN,eO,eP⟩:TConf)))]:=by
 refine pureT 45 Tryz.func51 Tryz.call51 [.tmp 2] ?_
 intro _
 try simp only [go_sem]
 repeat' ((first|refine CallS.intro (by apply spec_l8Power) ?_|refine CallK.intro (by apply spec_l1In) ?_|refine gSymS ?_)<;>simp only [go_sem])
 all_goals (refine one_bool ?_;simp [isConf,and_assoc,and_comm,and_left_comm])
def newCredit (l:Int):TCredit:=if isQ l then ⟨l,0,-1,-1⟩ else ⟨0,0,0,0⟩
theorem spec_NewCredit (l:Int):PureCall Tryz.prog 124 [.one (.int .i64 l)] [.agg [.int .i64 (newCredit l).limit,.int .i64 (newCredit l).used,.int .i64 (newCredit l).blocked,.int .i64 (newCredit l).told],.one (.bool (isQ l))]:=by
 refine pureT 10 Tryz.func124 Tryz.call124 [.cell 2 28,.tmp 3] ?_
 intro _
 try simp only [go_sem]
 repeat' ((first|refine CallS.intro (by apply spec_l4Quic) ?_|refine cSplit (fun h=>?_) (fun h=>?_))<;>simp only [go_sem])
 all_goals simp_all [newCredit]
def okWin (size most:Int):Bool:=inB most 1 4096 && inB size 1 most
def newWindow (size most:Int):TWindow:=if okWin size most then ⟨size,most,size,0,0,0⟩ else ⟨0,0,0,0,0,0⟩
theorem spec_NewWindow (s m:Int):PureCall Tryz.prog 125 [.one (.int .i64 s),.one (.int .i64 m)] [.agg (TWindow.enc (newWindow s m)),.one (.bool (okWin s m))]:=by
 refine pureT 20 Tryz.func125 Tryz.call125 [.cell 4 30,.tmp 5] ?_
 intro _
 try simp only [go_sem]
 repeat' ((first|refine CallS.intro (by apply spec_l1In) ?_|refine CallK.intro (by apply spec_l1In) ?_|refine gSymS ?_|refine cSplit (fun h=>?_) (fun h=>?_))<;>simp only [go_sem])
 all_goals (cases h1:inB m 1 4096<;>cases h2:inB s 1 m<;>simp_all [newWindow,okWin])
def newCount (l:Int):TCount:=if inB l 0 1152921504606846976 then ⟨l,0,-1⟩ else ⟨0,0,0⟩
theorem spec_NewCount (l:Int):PureCall Tryz.prog 126 [.one (.int .i64 l)] [.agg [.int .i64 (newCount l).limit,.int .i64 (newCount l).opened,.int .i64 (newCount l).blocked],.one (.bool (inB l 0 1152921504606846976))]:=by
 refine pureT 10 Tryz.func126 Tryz.call126 [.cell 2 32,.tmp 3] ?_
 intro _
 try simp only [go_sem]
 repeat' ((first|refine CallS.intro (by apply spec_l1In) ?_|refine cSplit (fun h=>?_) (fun h=>?_))<;>simp only [go_sem])
 all_goals simp_all [newCount]
def newAllow (m:Int):TAllow:=if inB m 0 1000 then ⟨m,m,0,0⟩ else ⟨0,0,0,0⟩
theorem spec_NewAllow (m:Int):PureCall Tryz.prog 127 [.one (.int .i64 m)] [.agg [.int .i64 (newAllow m).most,.int .i64 (newAllow m).limit,.int .i64 (newAllow m).seen,.int .i64 (newAllow m).closed],.one (.bool (inB m 0 1000))]:=by
 refine pureT 11 Tryz.func127 Tryz.call127 [.cell 2 34,.tmp 3] ?_
 intro _
 try simp only [go_sem]
 repeat' ((first|refine CallS.intro (by apply spec_l1In) ?_|refine cSplit (fun h=>?_) (fun h=>?_))<;>simp only [go_sem])
 all_goals simp_all [newAllow]
set_option maxRecDepth 100000
def isSrv (n:Int):Bool:=isQ n && decide (bitI .and .i64 n 1=1)
def isUni (n:Int):Bool:=isQ n && decide (bitI .and .i64 n 2=2)
def isOwn (s:Bool) (n:Int):Bool:=isQ n && decide (isSrv n=s)
def canSend (s:Bool) (n:Int):Bool:=isQ n && (!isUni n || isOwn s n)
def canRecv (s:Bool) (n:Int):Bool:=isQ n && (!isUni n || !isOwn s n)
theorem impl_IsStreamId (n:Int):PureCall Tryz.prog 63 [.one (.int .i64 n)] [.one (.bool (isQ n))]:=by
 refine pureT 5 Tryz.func63 Tryz.call63 [.tmp 2] ?_
 intro _
 try simp only [go_sem]
 repeat' (refine CallS.intro (by apply impl_isQuic) ?_<;>simp only [go_sem])
 all_goals simp
theorem impl_IsServerId (n:Int):PureCall Tryz.prog 64 [.one (.int .i64 n)] [.one (.bool (isSrv n))]:=by
 refine pureT 10 Tryz.func64 Tryz.call64 [.tmp 2] ?_
 intro _
 try simp only [go_sem]
 repeat' ((first|refine CallS.intro (by apply impl_IsStreamId) ?_|refine gSymS ?_)<;>simp only [go_sem])
 all_goals (refine one_bool ?_;simp [isSrv])
theorem spec_IsServerId (n:Int):PureCall Tryz.prog 69 [.one (.int .i64 n)] [.one (.bool (isSrv n))]:=by
 refine pureT 10 Tryz.func69 Tryz.call69 [.tmp 2] ?_
 intro _
 try simp only [go_sem]
 repeat' ((first|refine CallS.intro (by apply spec_l4Quic) ?_|refine gSymS ?_)<;>simp only [go_sem])
 all_goals (refine one_bool ?_;simp [isSrv])
theorem impl_IsUniId (n:Int):PureCall Tryz.prog 32 [.one (.int .i64 n)] [.one (.bool (isUni n))]:=by
 refine pureT 10 Tryz.func32 Tryz.call32 [.tmp 2] ?_
 intro _
 try simp only [go_sem]
 repeat' ((first|refine CallS.intro (by apply impl_IsStreamId) ?_|refine gSymS ?_)<;>simp only [go_sem])
 all_goals (refine one_bool ?_;simp [isUni])
theorem spec_IsUniId (n:Int):PureCall Tryz.prog 35 [.one (.int .i64 n)] [.one (.bool (isUni n))]:=by
 refine pureT 10 Tryz.func35 Tryz.call35 [.tmp 2] ?_
 intro _
 try simp only [go_sem]
 repeat' ((first|refine CallS.intro (by apply spec_l4Quic) ?_|refine gSymS ?_)<;>simp only [go_sem])
 all_goals (refine one_bool ?_;simp [isUni])
theorem impl_IsOwn (s:Bool) (n:Int):PureCall Tryz.prog 29 [.one (.bool s),.one (.int .i64 n)] [.one (.bool (isOwn s n))]:=by
 refine pureT 13 Tryz.func29 Tryz.call29 [.tmp 4] ?_
 intro _
 try simp only [go_sem]
 repeat' ((first|refine CallS.intro (by apply impl_IsStreamId) ?_|refine CallK.intro (by apply impl_IsServerId) ?_|refine gSymS ?_)<;>simp only [go_sem])
 all_goals (refine one_bool ?_;simp [isOwn])
theorem spec_IsOwn (s:Bool) (n:Int):PureCall Tryz.prog 33 [.one (.bool s),.one (.int .i64 n)] [.one (.bool (isOwn s n))]:=by
 refine pureT 13 Tryz.func33 Tryz.call33 [.tmp 4] ?_
 intro _
 try simp only [go_sem]
 repeat' ((first|refine CallS.intro (by apply spec_l4Quic) ?_|refine CallK.intro (by apply spec_IsServerId) ?_|refine gSymS ?_)<;>simp only [go_sem])
 all_goals (refine one_bool ?_;simp [isOwn])
theorem spec_CanSendOn (s:Bool) (n:Int):PureCall Tryz.prog 182 [.one (.bool s),.one (.int .i64 n)] [.one (.bool (canSend s n))]:=by
 refine pureT 17 Tryz.func182 Tryz.call182 [.tmp 4] ?_
 intro _
 try simp only [go_sem]
 repeat' ((first|refine CallS.intro (by apply spec_l4Quic) ?_|refine CallK.intro (by first|apply spec_IsUniId|apply spec_IsOwn) ?_|refine gSymS ?_)<;>simp only [go_sem])
 all_goals (refine one_bool ?_;simp [canSend])
theorem spec_CanReceiveOn (s:Bool) (n:Int):PureCall Tryz.prog 183 [.one (.bool s),.one (.int .i64 n)] [.one (.bool (canRecv s n))]:=by
 refine pureT 18 Tryz.func183 Tryz.call183 [.tmp 4] ?_
 intro _
 try simp only [go_sem]
 repeat' ((first|refine CallS.intro (by apply spec_l4Quic) ?_|refine CallK.intro (by first|apply spec_IsUniId|apply spec_IsOwn) ?_|refine gSymS ?_)<;>simp only [go_sem])
 all_goals (refine one_bool ?_;simp [canRecv])
theorem ofv_u2:ofVal (.int .u64 2)=.d (.int .u64 2):=rfl
theorem shr2 (x:Int):shI .shr .i64 x 2=some ((0:Int)≤2,.d (.int .i64 (x.fdiv 4))):=rfl
theorem shl2 (x:Int):shI .shl .i64 x 2=some ((0:Int)≤2,.d (.int .i64 (IntKind.i64.wrap (x * 4)))):=rfl
def indexOf (n:Int):Int:=if isQ n then n.fdiv 4 else -1
theorem spec_IndexOf (n:Int):PureCall Tryz.prog 233 [.one (.int .i64 n)] [.one (.int .i64 (indexOf n))]:=by
 refine pureT 8 Tryz.func233 Tryz.call233 [.tmp 2] ?_
 intro _
 try simp only [go_sem]
 repeat' ((first|refine CallS.intro (by apply spec_l4Quic) ?_|refine cSplit (fun h=>?_) (fun h=>?_))<;>simp only [go_sem,ofv_u2,shr2])
 all_goals simp_all [indexOf]
def makeId (n:Int) (s u:Bool):Int:=
 if inB n 0 1152921504606846975 then (if u then IntKind.i64.wrap ((if s then IntKind.i64.wrap (IntKind.i64.wrap (n * 4) + 1) else IntKind.i64.wrap (n * 4)) + 2) else (if s then IntKind.i64.wrap (IntKind.i64.wrap (n * 4) + 1) else IntKind.i64.wrap (n * 4))) else -1
theorem spec_MakeId (n:Int) (s u:Bool):PureCall Tryz.prog 154 [.one (.int .i64 n),.one (.bool s),.one (.bool u)] [.one (.int .i64 (makeId n s u))]:=by
 refine pureT 20 Tryz.func154 Tryz.call154 [.tmp 6] ?_
 intro _
 try simp only [go_sem]
 repeat' ((first|refine CallS.intro (by apply spec_l1In) ?_|refine cSplit (fun h=>?_) (fun h=>?_))<;>simp only [go_sem,ofv_u2,shl2])
 all_goals simp_all [makeId]
def isCredit (c:TCredit):Bool:=isQ c.limit && inB c.used 0 c.limit && inB c.blocked (-1) c.limit && inB c.told (-1) c.limit
theorem impl_IsCredit (bB bL bC bM:Int):PureCall Tryz.prog 43 [.agg [.int .i64 bB,.int .i64 bL,.int .i64 bC,.int .i64 bM]] [.one (.bool (isCredit (⟨bB,bL,bC,bM⟩:TCredit)))]:=by
 refine pureT 27 Tryz.func43 Tryz.call43 [.tmp 2] ?_
 intro _
 try simp only [go_sem]
 repeat' ((first|refine CallS.intro (by apply impl_isQuic) ?_|refine CallK.intro (by apply impl_within) ?_|refine gSymS ?_)<;>simp only [go_sem])
 all_goals (refine one_bool ?_;simp [isCredit])
theorem spec_IsCredit (bB bL bC bM:Int):PureCall Tryz.prog 53 [.agg [.int .i64 bB,.int .i64 bL,.int .i64 bC,.int .i64 bM]] [.one (.bool (isCredit (⟨bB,bL,bC,bM⟩:TCredit)))]:=by
 refine pureT 27 Tryz.func53 Tryz.call53 [.tmp 2] ?_
 intro _
 try simp only [go_sem]
 repeat' ((first|refine CallS.intro (by apply spec_l4Quic) ?_|refine CallK.intro (by apply spec_l1In) ?_|refine gSymS ?_)<;>simp only [go_sem])
 all_goals (refine one_bool ?_;simp [isCredit])
def credLeft (c:TCredit):Int:=if isCredit c then IntKind.i64.wrap (c.limit - c.used) else 0
theorem spec_CreditLeft (bB bL bC bM:Int):PureCall Tryz.prog 227 [.agg [.int .i64 bB,.int .i64 bL,.int .i64 bC,.int .i64 bM]] [.one (.int .i64 (credLeft (⟨bB,bL,bC,bM⟩:TCredit)))]:=by
 refine pureT 11 Tryz.func227 Tryz.call227 [.tmp 2] ?_
 intro _
 try simp only [go_sem]
 repeat' ((first|refine CallS.intro (by apply spec_IsCredit) ?_|refine cSplit (fun h=>?_) (fun h=>?_))<;>simp only [go_sem])
 all_goals simp_all [credLeft]
def useOk (c:TCredit) (n:Int):Bool:=isCredit c && decide (0≤n) && decide (n≤IntKind.i64.wrap (c.limit - c.used))
def useCr (c:TCredit) (n:Int):TCredit:=if useOk c n then { c with used:=IntKind.i64.wrap (c.used + n) } else c
theorem spec_UseCredit (bB bL bC bM n:Int):PureCall Tryz.prog 231 [.agg [.int .i64 bB,.int .i64 bL,.int .i64 bC,.int .i64 bM],.one (.int .i64 n)] [.agg [.int .i64 (useCr (⟨bB,bL,bC,bM⟩:TCredit) n).limit,.int .i64 (useCr (⟨bB,bL,bC,bM⟩:TCredit) n).used,.int .i64 (useCr (⟨bB,bL,bC,bM⟩:TCredit) n).blocked,.int .i64 (useCr (⟨bB,bL,bC,bM⟩:TCredit) n).told],.one (.bool (useOk (⟨bB,bL,bC,bM⟩:TCredit) n))]:=by
 refine pureT 29 Tryz.func231 Tryz.call231 [.cell 4 28,.tmp 5] ?_
 intro _
 try simp only [go_sem]
 repeat' ((first|refine CallS.intro (by apply spec_IsCredit) ?_|refine gSymS ?_|refine cSplit (fun h=>?_) (fun h=>?_))<;>simp only [go_sem])
 all_goals (cases hc:useOk (⟨bB,bL,bC,bM⟩:TCredit) n<;>first|(simp [useCr,hc];done)|(simp [useCr,hc];simp_all;done)|((try (simp only [decide_eq_true_eq,decide_eq_false_iff_not] at *));simp [useCr, *];done)|(exfalso;simp [useOk] at hc h;first|(simp_all;done)|(simp_all;omega)|omega|grind)|(exfalso;simp [useOk,bif_or,bif_and] at *;first|(simp_all;done)|(simp_all;omega)|omega|grind))
def raiseOk (c:TCredit) (l:Int):Bool:=isCredit c && isQ l && decide (c.limit < l)
def raiseCr (c:TCredit) (l:Int):TCredit:=if raiseOk c l then { c with limit:=l,blocked:=-1 } else c
theorem spec_RaiseLimit (bB bL bC bM l:Int):PureCall Tryz.prog 209 [.agg [.int .i64 bB,.int .i64 bL,.int .i64 bC,.int .i64 bM],.one (.int .i64 l)] [.agg [.int .i64 (raiseCr (⟨bB,bL,bC,bM⟩:TCredit) l).limit,.int .i64 (raiseCr (⟨bB,bL,bC,bM⟩:TCredit) l).used,.int .i64 (raiseCr (⟨bB,bL,bC,bM⟩:TCredit) l).blocked,.int .i64 (raiseCr (⟨bB,bL,bC,bM⟩:TCredit) l).told]]:=by
 refine pureT 24 Tryz.func209 Tryz.call209 [.cell 4 28] ?_
 intro _
 try simp only [go_sem]
 repeat' ((first|refine CallS.intro (by apply spec_IsCredit) ?_|refine CallK.intro (by apply spec_l4Quic) ?_|refine gSymS ?_|refine cSplit (fun h=>?_) (fun h=>?_))<;>simp only [go_sem])
 all_goals (cases hc:raiseOk (⟨bB,bL,bC,bM⟩:TCredit) l<;>first|(simp [raiseCr,hc];done)|(simp [raiseCr,hc];simp_all;done)|((try (simp only [decide_eq_true_eq,decide_eq_false_iff_not] at *));simp [raiseCr, *];done)|(exfalso;simp [raiseOk] at hc h;first|(simp_all;done)|(simp_all;omega)|omega|grind)|(exfalso;simp [raiseOk,bif_or,bif_and] at *;first|(simp_all;done)|(simp_all;omega)|omega|grind))
def noteOk (c:TCredit):Bool:=isCredit c && decide (c.used=c.limit) && decide (c.blocked=-1) && decide (c.told≠c.limit)
def noteCr (c:TCredit):TCredit:=if noteOk c then { c with blocked:=c.limit } else c
theorem spec_NoteBlocked (bB bL bC bM:Int):PureCall Tryz.prog 229 [.agg [.int .i64 bB,.int .i64 bL,.int .i64 bC,.int .i64 bM]] [.agg [.int .i64 (noteCr (⟨bB,bL,bC,bM⟩:TCredit)).limit,.int .i64 (noteCr (⟨bB,bL,bC,bM⟩:TCredit)).used,.int .i64 (noteCr (⟨bB,bL,bC,bM⟩:TCredit)).blocked,.int .i64 (noteCr (⟨bB,bL,bC,bM⟩:TCredit)).told]]:=by
 refine pureT 28 Tryz.func229 Tryz.call229 [.cell 2 28] ?_
 intro _
 try simp only [go_sem]
 repeat' ((first|refine CallS.intro (by apply spec_IsCredit) ?_|refine gSymS ?_|refine cSplit (fun h=>?_) (fun h=>?_))<;>simp only [go_sem])
 all_goals (cases hc:noteOk (⟨bB,bL,bC,bM⟩:TCredit)<;>first|(simp [noteCr,hc];done)|(simp [noteCr,hc];simp_all;done)|((try (simp only [decide_eq_true_eq,decide_eq_false_iff_not] at *));simp [noteCr, *];done)|(exfalso;simp [noteOk] at hc h;first|(simp_all;done)|(simp_all;omega)|omega|grind)|(exfalso;simp [noteOk,bif_or,bif_and] at *;first|(simp_all;done)|(simp_all;omega)|omega|grind))
def mustTell (c:TCredit):Bool:=isCredit c && decide (c.blocked=c.limit)
theorem spec_MustTell (bB bL bC bM:Int):PureCall Tryz.prog 194 [.agg [.int .i64 bB,.int .i64 bL,.int .i64 bC,.int .i64 bM]] [.one (.bool (mustTell (⟨bB,bL,bC,bM⟩:TCredit)))]:=by
 refine pureT 12 Tryz.func194 Tryz.call194 [.tmp 2] ?_
 intro _
 try simp only [go_sem]
 repeat' ((first|refine CallS.intro (by apply spec_IsCredit) ?_|refine gSymS ?_)<;>simp only [go_sem])
 all_goals (refine one_bool ?_;simp [mustTell])
def clearOk (c:TCredit):Bool:=isCredit c && decide (c.blocked≠-1)
def clearCr (c:TCredit):TCredit:=if clearOk c then { c with told:=c.blocked,blocked:=-1 } else c
theorem spec_ClearBlocked (bB bL bC bM:Int):PureCall Tryz.prog 196 [.agg [.int .i64 bB,.int .i64 bL,.int .i64 bC,.int .i64 bM]] [.agg [.int .i64 (clearCr (⟨bB,bL,bC,bM⟩:TCredit)).limit,.int .i64 (clearCr (⟨bB,bL,bC,bM⟩:TCredit)).used,.int .i64 (clearCr (⟨bB,bL,bC,bM⟩:TCredit)).blocked,.int .i64 (clearCr (⟨bB,bL,bC,bM⟩:TCredit)).told]]:=by
 refine pureT 15 Tryz.func196 Tryz.call196 [.cell 2 28] ?_
 intro _
 try simp only [go_sem]
 repeat' ((first|refine CallS.intro (by apply spec_IsCredit) ?_|refine gSymS ?_|refine cSplit (fun h=>?_) (fun h=>?_))<;>simp only [go_sem])
 all_goals (cases hc:clearOk (⟨bB,bL,bC,bM⟩:TCredit)<;>first|(simp [clearCr,hc];done)|(simp [clearCr,hc];simp_all;done)|((try (simp only [decide_eq_true_eq,decide_eq_false_iff_not] at *));simp [clearCr, *];done)|(exfalso;simp [clearOk] at hc h;first|(simp_all;done)|(simp_all;omega)|omega|grind)|(exfalso;simp [clearOk,bif_or,bif_and] at *;first|(simp_all;done)|(simp_all;omega)|omega|grind))
def isWin (w:TWindow):Bool:=inB w.most 1 4096 && inB w.size 1 w.most && inB w.limit 1 4611686018427387903 && inB w.seen 0 w.limit && inB w.read 0 w.seen && decide (w.limit≤IntKind.i64.wrap (w.read + w.size)) && inB w.since 0 1000000
theorem impl_IsWindow (dG dH dJ dK dL dM:Int):PureCall Tryz.prog 44 [.agg [.int .i64 dG,.int .i64 dH,.int .i64 dJ,.int .i64 dK,.int .i64 dL,.int .i64 dM]] [.one (.bool (isWin (⟨dG,dH,dJ,dK,dL,dM⟩:TWindow)))]:=by
 refine pureT 47 Tryz.func44 Tryz.call44 [.tmp 2] ?_
 intro _
 try simp only [go_sem]
 repeat' ((first|refine CallS.intro (by apply impl_within) ?_|refine CallK.intro (by apply impl_within) ?_|refine gSymS ?_)<;>simp only [go_sem])
 all_goals (refine one_bool ?_;simp [isWin])
theorem spec_IsWindow (dG dH dJ dK dL dM:Int):PureCall Tryz.prog 54 [.agg [.int .i64 dG,.int .i64 dH,.int .i64 dJ,.int .i64 dK,.int .i64 dL,.int .i64 dM]] [.one (.bool (isWin (⟨dG,dH,dJ,dK,dL,dM⟩:TWindow)))]:=by
 refine pureT 47 Tryz.func54 Tryz.call54 [.tmp 2] ?_
 intro _
 try simp only [go_sem]
 repeat' ((first|refine CallS.intro (by apply spec_l1In) ?_|refine CallK.intro (by apply spec_l1In) ?_|refine gSymS ?_)<;>simp only [go_sem])
 all_goals (refine one_bool ?_;simp [isWin])
def seeOk (w:TWindow) (n:Int):Bool:=isWin w && decide (0≤n) && decide (n≤IntKind.i64.wrap (w.limit - w.seen))
def seeW (w:TWindow) (n:Int):TWindow:=if seeOk w n then { w with seen:=IntKind.i64.wrap (w.seen + n) } else w
theorem spec_SeeBytes (dG dH dJ dK dL dM n:Int):PureCall Tryz.prog 238 [.agg [.int .i64 dG,.int .i64 dH,.int .i64 dJ,.int .i64 dK,.int .i64 dL,.int .i64 dM],.one (.int .i64 n)] [.agg (TWindow.enc (seeW (⟨dG,dH,dJ,dK,dL,dM⟩:TWindow) n)),.one (.bool (seeOk (⟨dG,dH,dJ,dK,dL,dM⟩:TWindow) n))]:=by
 refine pureT 29 Tryz.func238 Tryz.call238 [.cell 4 30,.tmp 5] ?_
 intro _
 try simp only [go_sem]
 repeat' ((first|refine CallS.intro (by apply spec_IsWindow) ?_|refine gSymS ?_|refine cSplit (fun h=>?_) (fun h=>?_))<;>simp only [go_sem])
 all_goals (cases hc:seeOk (⟨dG,dH,dJ,dK,dL,dM⟩:TWindow) n<;>first|(simp [seeW,hc];done)|(simp [seeW,hc];simp_all;done)|((try (simp only [decide_eq_true_eq,decide_eq_false_iff_not] at *));simp [seeW, *];done)|(exfalso;simp [seeOk] at hc h;first|(simp_all;done)|(simp_all;omega)|omega|grind)|(exfalso;simp [seeOk,bif_or,bif_and] at *;first|(simp_all;done)|(simp_all;omega)|omega|grind))
def rdOk (w:TWindow) (n:Int):Bool:=isWin w && decide (0≤n) && decide (n≤IntKind.i64.wrap (w.seen - w.read))
def rdW (w:TWindow) (n:Int):TWindow:=if rdOk w n then { w with read:=IntKind.i64.wrap (w.read + n) } else w
theorem spec_ReadBytes (dG dH dJ dK dL dM n:Int):PureCall Tryz.prog 187 [.agg [.int .i64 dG,.int .i64 dH,.int .i64 dJ,.int .i64 dK,.int .i64 dL,.int .i64 dM],.one (.int .i64 n)] [.agg (TWindow.enc (rdW (⟨dG,dH,dJ,dK,dL,dM⟩:TWindow) n)),.one (.bool (rdOk (⟨dG,dH,dJ,dK,dL,dM⟩:TWindow) n))]:=by
 refine pureT 29 Tryz.func187 Tryz.call187 [.cell 4 30,.tmp 5] ?_
 intro _
 try simp only [go_sem]
 repeat' ((first|refine CallS.intro (by apply spec_IsWindow) ?_|refine gSymS ?_|refine cSplit (fun h=>?_) (fun h=>?_))<;>simp only [go_sem])
 all_goals (cases hc:rdOk (⟨dG,dH,dJ,dK,dL,dM⟩:TWindow) n<;>first|(simp [rdW,hc];done)|(simp [rdW,hc];simp_all;done)|((try (simp only [decide_eq_true_eq,decide_eq_false_iff_not] at *));simp [rdW, *];done)|(exfalso;simp [rdOk] at hc h;first|(simp_all;done)|(simp_all;omega)|omega|grind)|(exfalso;simp [rdOk,bif_or,bif_and] at *;first|(simp_all;done)|(simp_all;omega)|omega|grind))
def mustRaise (w:TWindow):Bool:=isWin w && decide (w.limit < 4611686018427387903) && decide (IntKind.i64.wrap ((IntKind.i64.wrap (w.size + 1)).tdiv 2)≤IntKind.i64.wrap (IntKind.i64.wrap (w.read + w.size) - w.limit))
theorem spec_MustRaise (dG dH dJ dK dL dM:Int):PureCall Tryz.prog 219 [.agg [.int .i64 dG,.int .i64 dH,.int .i64 dJ,.int .i64 dK,.int .i64 dL,.int .i64 dM]] [.one (.bool (mustRaise (⟨dG,dH,dJ,dK,dL,dM⟩:TWindow)))]:=by
 refine pureT 25 Tryz.func219 Tryz.call219 [.tmp 2] ?_
 intro _
 try simp only [go_sem]
 repeat' ((first|refine CallS.intro (by apply spec_IsWindow) ?_|refine gSymS ?_)<;>simp only [go_sem])
 all_goals (refine one_bool ?_;simp [mustRaise])
def rwOk (w:TWindow) (now trip:Int):Bool:=mustRaise w && inB now w.since 1000000 && inB trip 1 1000
def rwSize (w:TWindow) (now trip:Int):Int:=if IntKind.i64.wrap (now - w.since) < IntKind.i64.wrap (2 * trip) then minI (IntKind.i64.wrap (2 * w.size)) w.most else w.size
def raiseW (w:TWindow) (now trip:Int):TWindow:=if rwOk w now trip then { w with size:=rwSize w now trip,limit:=minI (IntKind.i64.wrap (w.read + rwSize w now trip)) 4611686018427387903,since:=now } else w
theorem spec_RaiseWindow (dG dH dJ dK dL dM n t:Int):PureCall Tryz.prog 220 [.agg [.int .i64 dG,.int .i64 dH,.int .i64 dJ,.int .i64 dK,.int .i64 dL,.int .i64 dM],.one (.int .i64 n),.one (.int .i64 t)] [.agg (TWindow.enc (raiseW (⟨dG,dH,dJ,dK,dL,dM⟩:TWindow) n t)),.one (.bool (rwOk (⟨dG,dH,dJ,dK,dL,dM⟩:TWindow) n t))]:=by
 refine pureT 48 Tryz.func220 Tryz.call220 [.cell 6 30,.tmp 7] ?_
 intro _
 try simp only [go_sem]
 repeat' ((first|refine CallS.intro (by apply spec_MustRaise) ?_|refine CallK.intro (by apply spec_l1In) ?_|refine gSymS ?_|refine cSplit (fun h=>?_) (fun h=>?_))<;>simp only [go_sem])
 all_goals (cases hc:rwOk (⟨dG,dH,dJ,dK,dL,dM⟩:TWindow) n t<;>first|(simp [raiseW,rwSize,minI,hc];done)|(simp [raiseW,rwSize,minI,hc];simp_all;done)|((try (simp only [decide_eq_true_eq,decide_eq_false_iff_not] at *));simp [raiseW,rwSize,minI, *];done)|(exfalso;simp [rwOk] at hc h;first|(simp_all;done)|(simp_all;omega)|omega|grind)|(exfalso;simp [rwOk,bif_or,bif_and] at *;first|(simp_all;done)|(simp_all;omega)|omega|grind))
def isCount (c:TCount):Bool:=inB c.limit 0 1152921504606846976 && inB c.opened 0 c.limit && inB c.blocked (-1) c.limit
theorem impl_IsCount (bB dN bC:Int):PureCall Tryz.prog 45 [.agg [.int .i64 bB,.int .i64 dN,.int .i64 bC]] [.one (.bool (isCount (⟨bB,dN,bC⟩:TCount)))]:=by
 refine pureT 20 Tryz.func45 Tryz.call45 [.tmp 2] ?_
 intro _
 try simp only [go_sem]
 repeat' ((first|refine CallS.intro (by apply impl_within) ?_|refine CallK.intro (by apply impl_within) ?_|refine gSymS ?_)<;>simp only [go_sem])
 all_goals (refine one_bool ?_;simp [isCount])
theorem spec_IsCount (bB dN bC:Int):PureCall Tryz.prog 55 [.agg [.int .i64 bB,.int .i64 dN,.int .i64 bC]] [.one (.bool (isCount (⟨bB,dN,bC⟩:TCount)))]:=by
 refine pureT 20 Tryz.func55 Tryz.call55 [.tmp 2] ?_
 intro _
 try simp only [go_sem]
 repeat' ((first|refine CallS.intro (by apply spec_l1In) ?_|refine CallK.intro (by apply spec_l1In) ?_|refine gSymS ?_)<;>simp only [go_sem])
 all_goals (refine one_bool ?_;simp [isCount])
def openOk (c:TCount):Bool:=isCount c && decide (c.opened≠c.limit)
def openIx (c:TCount):Int:=if openOk c then c.opened else -1
def openC (c:TCount):TCount:=if openOk c then { c with opened:=IntKind.i64.wrap (c.opened + 1) } else if isCount c then { c with blocked:=c.limit } else c
theorem spec_OpenNext (bB dN bC:Int):PureCall Tryz.prog 153 [.agg [.int .i64 bB,.int .i64 dN,.int .i64 bC]] [.one (.int .i64 (openIx (⟨bB,dN,bC⟩:TCount))),.agg [.int .i64 (openC (⟨bB,dN,bC⟩:TCount)).limit,.int .i64 (openC (⟨bB,dN,bC⟩:TCount)).opened,.int .i64 (openC (⟨bB,dN,bC⟩:TCount)).blocked],.one (.bool (openOk (⟨bB,dN,bC⟩:TCount)))]:=by
 refine pureT 26 Tryz.func153 Tryz.call153 [.tmp 2,.cell 3 32,.tmp 4] ?_
 intro _
 try simp only [go_sem]
 repeat' ((first|refine CallS.intro (by apply spec_IsCount) ?_|refine drawE_intro [[.post,.un,.post,.post],[.un,.post,.post,.post],[.pre,.pre,.post,.post],[.pre,.pre,.pre,.post]] (by kernel_rfl) (by rfl) ?_|refine drawE_intro [[.post,.un,.post,.post,.post],[.un,.post,.un,.post,.post],[.pre,.un,.post,.post,.post],[.pre,.pre,.pre,.post,.post],[.pre,.pre,.pre,.pre,.post]] (by kernel_rfl) (by rfl) ?_|refine cSplit (fun h=>?_) (fun h=>?_))<;>simp only [go_sem])
 all_goals (cases hc:openOk (⟨bB,dN,bC⟩:TCount)<;>first|(simp [openIx,openC,hc];done)|(simp [openIx,openC,hc];simp_all;done)|((try (simp only [decide_eq_true_eq,decide_eq_false_iff_not] at *));simp [openIx,openC, *];done)|(exfalso;simp [openOk] at hc h;first|(simp_all;done)|(simp_all;omega)|omega|grind)|(exfalso;simp [openOk,bif_or,bif_and] at *;first|(simp_all;done)|(simp_all;omega)|omega|grind))
def rcOk (c:TCount) (l:Int):Bool:=isCount c && decide (c.limit < l) && decide (l≤1152921504606846976)
def raiseC (c:TCount) (l:Int):TCount:=if rcOk c l then { c with limit:=l,blocked:=-1 } else c
theorem spec_RaiseCount (bB dN bC l:Int):PureCall Tryz.prog 210 [.agg [.int .i64 bB,.int .i64 dN,.int .i64 bC],.one (.int .i64 l)] [.agg [.int .i64 (raiseC (⟨bB,dN,bC⟩:TCount) l).limit,.int .i64 (raiseC (⟨bB,dN,bC⟩:TCount) l).opened,.int .i64 (raiseC (⟨bB,dN,bC⟩:TCount) l).blocked]]:=by
 refine pureT 23 Tryz.func210 Tryz.call210 [.cell 4 32] ?_
 intro _
 try simp only [go_sem]
 repeat' ((first|refine CallS.intro (by apply spec_IsCount) ?_|refine gSymS ?_|refine cSplit (fun h=>?_) (fun h=>?_))<;>simp only [go_sem])
 all_goals (cases hc:rcOk (⟨bB,dN,bC⟩:TCount) l<;>first|(simp [raiseC,hc];done)|(simp [raiseC,hc];simp_all;done)|((try (simp only [decide_eq_true_eq,decide_eq_false_iff_not] at *));simp [raiseC, *];done)|(exfalso;simp [rcOk] at hc h;first|(simp_all;done)|(simp_all;omega)|omega|grind)|(exfalso;simp [rcOk,bif_or,bif_and] at *;first|(simp_all;done)|(simp_all;omega)|omega|grind))
def isAllow (a:TAllow):Bool:=inB a.most 0 1000 && inB a.limit a.most 1152921504606846976 && inB a.seen 0 a.limit && inB a.closed 0 a.seen && decide (a.limit≤IntKind.i64.wrap (a.closed + a.most))
theorem impl_IsAllow (bN bO bP bQ:Int):PureCall Tryz.prog 46 [.agg [.int .i64 bN,.int .i64 bO,.int .i64 bP,.int .i64 bQ]] [.one (.bool (isAllow (⟨bN,bO,bP,bQ⟩:TAllow)))]:=by
 refine pureT 37 Tryz.func46 Tryz.call46 [.tmp 2] ?_
 intro _
 try simp only [go_sem]
 repeat' ((first|refine CallS.intro (by apply impl_within) ?_|refine CallK.intro (by apply impl_within) ?_|refine gSymS ?_)<;>simp only [go_sem])
 all_goals (refine one_bool ?_;simp [isAllow])
theorem spec_IsAllow (bN bO bP bQ:Int):PureCall Tryz.prog 56 [.agg [.int .i64 bN,.int .i64 bO,.int .i64 bP,.int .i64 bQ]] [.one (.bool (isAllow (⟨bN,bO,bP,bQ⟩:TAllow)))]:=by
 refine pureT 37 Tryz.func56 Tryz.call56 [.tmp 2] ?_
 intro _
 try simp only [go_sem]
 repeat' ((first|refine CallS.intro (by apply spec_l1In) ?_|refine CallK.intro (by apply spec_l1In) ?_|refine gSymS ?_)<;>simp only [go_sem])
 all_goals (refine one_bool ?_;simp [isAllow])
def siOk (a:TAllow) (i:Int):Bool:=isAllow a && decide (0≤i) && decide (i < a.limit)
def siN (a:TAllow) (i:Int):Int:=if siOk a i then maxI 0 (IntKind.i64.wrap (IntKind.i64.wrap (i + 1) - a.seen)) else 0
def siA (a:TAllow) (i:Int):TAllow:=if siOk a i then { a with seen:=IntKind.i64.wrap (a.seen + siN a i) } else a
theorem spec_SeeIndex (bN bO bP bQ i:Int):PureCall Tryz.prog 232 [.agg [.int .i64 bN,.int .i64 bO,.int .i64 bP,.int .i64 bQ],.one (.int .i64 i)] [.agg [.int .i64 (siA (⟨bN,bO,bP,bQ⟩:TAllow) i).most,.int .i64 (siA (⟨bN,bO,bP,bQ⟩:TAllow) i).limit,.int .i64 (siA (⟨bN,bO,bP,bQ⟩:TAllow) i).seen,.int .i64 (siA (⟨bN,bO,bP,bQ⟩:TAllow) i).closed],.one (.int .i64 (siN (⟨bN,bO,bP,bQ⟩:TAllow) i)),.one (.bool (siOk (⟨bN,bO,bP,bQ⟩:TAllow) i))]:=by
 refine pureT 35 Tryz.func232 Tryz.call232 [.cell 4 34,.tmp 5,.tmp 6] ?_
 intro _
 try simp only [go_sem]
 repeat' ((first|refine CallS.intro (by apply spec_IsAllow) ?_|refine gSymS ?_|refine cSplit (fun h=>?_) (fun h=>?_))<;>simp only [go_sem])
 all_goals (cases hc:siOk (⟨bN,bO,bP,bQ⟩:TAllow) i<;>first|(simp [siA,siN,maxI,hc];done)|(simp [siA,siN,maxI,hc];simp_all;done)|((try (simp only [decide_eq_true_eq,decide_eq_false_iff_not] at *));simp [siA,siN,maxI, *];done)|(exfalso;simp [siOk] at hc h;first|(simp_all;done)|(simp_all;omega)|omega|grind)|(exfalso;simp [siOk,bif_or,bif_and] at *;first|(simp_all;done)|(simp_all;omega)|omega|grind))
def coOk (a:TAllow):Bool:=isAllow a && decide (a.closed≠a.seen)
def closeA (a:TAllow):TAllow:=if coOk a then { a with closed:=IntKind.i64.wrap (a.closed + 1) } else a
theorem spec_CloseOne (bN bO bP bQ:Int):PureCall Tryz.prog 218 [.agg [.int .i64 bN,.int .i64 bO,.int .i64 bP,.int .i64 bQ]] [.agg [.int .i64 (closeA (⟨bN,bO,bP,bQ⟩:TAllow)).most,.int .i64 (closeA (⟨bN,bO,bP,bQ⟩:TAllow)).limit,.int .i64 (closeA (⟨bN,bO,bP,bQ⟩:TAllow)).seen,.int .i64 (closeA (⟨bN,bO,bP,bQ⟩:TAllow)).closed],.one (.bool (coOk (⟨bN,bO,bP,bQ⟩:TAllow)))]:=by
 refine pureT 20 Tryz.func218 Tryz.call218 [.cell 2 34,.tmp 3] ?_
 intro _
 try simp only [go_sem]
 repeat' ((first|refine CallS.intro (by apply spec_IsAllow) ?_|refine gSymS ?_|refine cSplit (fun h=>?_) (fun h=>?_))<;>simp only [go_sem])
 all_goals (cases hc:coOk (⟨bN,bO,bP,bQ⟩:TAllow)<;>first|(simp [closeA,hc];done)|(simp [closeA,hc];simp_all;done)|((try (simp only [decide_eq_true_eq,decide_eq_false_iff_not] at *));simp [closeA, *];done)|(exfalso;simp [coOk] at hc h;first|(simp_all;done)|(simp_all;omega)|omega|grind)|(exfalso;simp [coOk,bif_or,bif_and] at *;first|(simp_all;done)|(simp_all;omega)|omega|grind))
def mustAllow (a:TAllow):Bool:=isAllow a && decide (IntKind.i64.wrap ((IntKind.i64.wrap (a.most + 1)).tdiv 2)≤IntKind.i64.wrap (IntKind.i64.wrap (a.closed + a.most) - a.limit)) && decide (0 < a.most)
theorem spec_MustAllow (bN bO bP bQ:Int):PureCall Tryz.prog 221 [.agg [.int .i64 bN,.int .i64 bO,.int .i64 bP,.int .i64 bQ]] [.one (.bool (mustAllow (⟨bN,bO,bP,bQ⟩:TAllow)))]:=by
 refine pureT 25 Tryz.func221 Tryz.call221 [.tmp 2] ?_
 intro _
 try simp only [go_sem]
 repeat' ((first|refine CallS.intro (by apply spec_IsAllow) ?_|refine gSymS ?_)<;>simp only [go_sem])
 all_goals (refine one_bool ?_;simp [mustAllow])
def raOk (a:TAllow):Bool:=mustAllow a && decide (IntKind.i64.wrap (a.closed + a.most)≤1152921504606846976)
def raiseA (a:TAllow):TAllow:=if raOk a then { a with limit:=IntKind.i64.wrap (a.closed + a.most) } else a
theorem spec_RaiseAllow (bN bO bP bQ:Int):PureCall Tryz.prog 222 [.agg [.int .i64 bN,.int .i64 bO,.int .i64 bP,.int .i64 bQ]] [.agg [.int .i64 (raiseA (⟨bN,bO,bP,bQ⟩:TAllow)).most,.int .i64 (raiseA (⟨bN,bO,bP,bQ⟩:TAllow)).limit,.int .i64 (raiseA (⟨bN,bO,bP,bQ⟩:TAllow)).seen,.int .i64 (raiseA (⟨bN,bO,bP,bQ⟩:TAllow)).closed],.one (.bool (raOk (⟨bN,bO,bP,bQ⟩:TAllow)))]:=by
 refine pureT 23 Tryz.func222 Tryz.call222 [.cell 2 34,.tmp 3] ?_
 intro _
 try simp only [go_sem]
 repeat' ((first|refine CallS.intro (by apply spec_MustAllow) ?_|refine gSymS ?_|refine cSplit (fun h=>?_) (fun h=>?_))<;>simp only [go_sem])
 all_goals (cases hc:raOk (⟨bN,bO,bP,bQ⟩:TAllow)<;>first|(simp [raiseA,hc];done)|(simp [raiseA,hc];simp_all;done)|((try (simp only [decide_eq_true_eq,decide_eq_false_iff_not] at *));simp [raiseA, *];done)|(exfalso;simp [raOk] at hc h;first|(simp_all;done)|(simp_all;omega)|omega|grind)|(exfalso;simp [raOk,bif_or,bif_and] at *;first|(simp_all;done)|(simp_all;omega)|omega|grind))
def isPri (p:TPriority):Bool:=inB p.urgency 0 7
theorem impl_IsPriority (dO:Int) (dP:Bool):PureCall Tryz.prog 93 [.agg [.int .i64 dO,.bool dP]] [.one (.bool (isPri (⟨dO,dP⟩:TPriority)))]:=by
 refine pureT 6 Tryz.func93 Tryz.call93 [.tmp 2] ?_
 intro _
 try simp only [go_sem]
 repeat' (refine CallS.intro (by apply impl_within) ?_<;>simp only [go_sem])
 all_goals simp [isPri]
theorem spec_IsPriority (dO:Int) (dP:Bool):PureCall Tryz.prog 97 [.agg [.int .i64 dO,.bool dP]] [.one (.bool (isPri (⟨dO,dP⟩:TPriority)))]:=by
 refine pureT 6 Tryz.func97 Tryz.call97 [.tmp 2] ?_
 intro _
 try simp only [go_sem]
 repeat' (refine CallS.intro (by apply spec_l1In) ?_<;>simp only [go_sem])
 all_goals simp [isPri]
def defPri:TPriority:=⟨3,false⟩
theorem spec_DefaultPriority :PureCall Tryz.prog 180 [] [.agg [.int .i64 (defPri).urgency,.bool (defPri).incremental]]:=by
 refine pureT 2 Tryz.func180 Tryz.call180 [.cell 0 53] ?_
 intro _
 try simp only [go_sem]
 all_goals simp [defPri]
def defConf:TConf:=⟨16,8,32,16,64,2,2,4⟩
theorem spec_DefaultConf :PureCall Tryz.prog 128 [] [.agg (TConf.enc (defConf))]:=by
 refine pureT 2 Tryz.func128 Tryz.call128 [.cell 0 25] ?_
 intro _
 try simp only [go_sem]
 all_goals simp [defConf]
set_option maxRecDepth 100000
def mxRngB0:List (List Rl):=mxD 14 [4517978,4518331,4518337,4518316,4518262,4518100,4517613,4775314,4779688,4764379,4725013,4606915,4251528,3188646]
def mxRngB1:List (List Rl):=mxD 14 [3985925,3985927,3985920,3985902,3985848,4545922,4546408,4544707,4540333,4527211,4753444,4635346,4251649,3188646]
def mxRngB2:List (List Rl):=mxD 18 [365897129,385029358,385029364,385029343,385029289,385029127,386709349,386710807,386705704,386692582,386653216,387331915,386977621,385826530,382637521,373071583,344373768,258280326]
def mxRngB3:List (List Rl):=mxD 14 [3988112,3988114,3988107,3988089,3988035,3988966,3988480,3986901,4760005,4773127,4727200,4609102,4254808,3188646]
def mxRngB4:List (List Rl):=mxD 18 [365897129,385035919,385035925,385035904,385035850,385035688,385038481,385037023,385032286,387351598,387390964,387253183,386898889,385836007,382637521,373071583,344373768,258280326]
def mxRngB5:List (List Rl):=mxD 25 [737454959978,737454959980,737454959973,737454959955,737454959901,737454988534,737454989020,737454987319,737454982945,737454969823,737454930336,747936157360,747936511654,747935271625,747932082979,747922517041,752994767092,753080860534,752779533487,752004692509,749680169575,742685165986,721764371007,800217020029,564859072962]
attribute [go_sem] mxRngB0 mxRngB1 mxRngB2 mxRngB3 mxRngB4 mxRngB5
theorem areR_iff (xs:List TRange):areR xs=true↔(∀ x ∈ xs,rOk x=true)∧xs.Pairwise (fun a b=>a.high < b.low):=by
 constructor
 ·intro h
  have hat:∀ i (hi:i < xs.length),rAt xs i=true:=fun i hi=>by
   unfold areR at h;rw [List.all_eq_true] at h;exact h i (List.mem_range.2 hi)
  have hok:∀ i (hi:i < xs.length),rOk xs[i]=true:=fun i hi=>by
   cases i with
   |zero=>rw [← rAt_zero xs hi];exact hat 0 hi
   |succ j=>have:=hat (j + 1) hi;rw [rAt_succ xs j hi,Bool.and_eq_true] at this;exact this.1
  have hst:∀ j (hj:j + 1 < xs.length),xs[j].high < xs[j + 1].low:=fun j hj=>by
   have:=hat (j + 1) hj;rw [rAt_succ xs j hj,Bool.and_eq_true] at this;exact oT this.2
  refine ⟨fun x hx=>?_,?_⟩
  ·obtain ⟨i,hi,rfl⟩:=List.getElem_of_mem hx;exact hok i hi
  ·rw [List.pairwise_iff_getElem]
   intro i j hi hj hij
   obtain ⟨d,rfl⟩:∃ d,j=i + 1 + d:=⟨j - i - 1,by omega⟩
   clear hij
   induction d with
   |zero=>exact hst i (by omega)
   |succ d ih=>
    have h1:=ih (by omega)
    have h2:=hst (i + 1 + d) (by omega)
    have h3:=hok (i + 1 + d) (by omega)
    simp only [rOk,Bool.and_eq_true,decide_eq_true_eq] at h3
    have e:xs[i + 1 + (d + 1)].low=xs[i + 1 + d + 1].low:=rfl
    omega
 ·rintro ⟨h1,h2⟩
  unfold areR
  rw [List.all_eq_true]
  intro i hi
  have hi:=List.mem_range.1 hi
  cases i with
  |zero=>rw [rAt_zero xs hi];exact h1 _ (List.getElem_mem hi)
  |succ j=>
   rw [rAt_succ xs j hi,Bool.and_eq_true]
   exact ⟨h1 _ (List.getElem_mem hi),dT ((List.pairwise_iff_getElem.1 h2) j (j + 1) (by omega) hi (by omega))⟩
theorem rOk_iff (r:TRange):rOk r=true↔0≤r.low∧r.low < r.high∧r.high≤4611686018427387903:=by
 simp only [rOk,Bool.and_eq_true,decide_eq_true_eq,and_assoc]
theorem foldl_take {α β:Type} (g:β→α→β) (a:β) (xs:List α) (i:Nat) (h:i < xs.length):(xs.take (i + 1)).foldl g a=g ((xs.take i).foldl g a) xs[i]:=by
 rw [List.take_add_one,gE h,Option.toList_some,List.foldl_append];rfl
theorem flatMap_take {α β:Type} (f:α→List β) (xs:List α) (i:Nat) (h:i < xs.length):(xs.take (i + 1)).flatMap f=(xs.take i).flatMap f++f xs[i]:=by
 rw [List.take_add_one,gE h,Option.toList_some,List.flatMap_append];simp
def cntN (xs:List TRange):Int:=xs.foldl (fun n r=>n + (r.high - r.low)) 0
theorem cntN_take {xs:List TRange} (h:areR xs=true):∀ i,(hi:i < xs.length)→0≤cntN (xs.take i)∧cntN (xs.take i)≤xs[i].low
 |0,hi=>by
  have h1:=(rOk_iff _).1 (((areR_iff xs).1 h).1 _ (List.getElem_mem hi))
  simp only [List.take_zero,cntN,List.foldl_nil];omega
 |i + 1,hi=>by
  obtain ⟨h1,h2⟩:=cntN_take h i (by omega)
  have h3:=(List.pairwise_iff_getElem.1 ((areR_iff xs).1 h).2) i (i + 1) (by omega) hi (by omega)
  have h4:=(rOk_iff _).1 (((areR_iff xs).1 h).1 _ (List.getElem_mem (show i < xs.length by omega)))
  have e:cntN (xs.take (i + 1))=cntN (xs.take i) + (xs[i].high - xs[i].low):=foldl_take _ _ _ _ _
  omega
def cntR (xs:List TRange):Int:=if areR xs then cntN xs else -1
theorem spec_CountNumbers (xs:List TRange):PureCall Tryz.prog 118 [.one (.sl 2 (xs.map TRange.enc))] [.one (.int .i64 (cntR xs))]:=by
 refine pureT 28 Tryz.func118 Tryz.call118 [.tmp 2] ?_
 intro ok
 have hm:=len_of ok
 cases hA:areR xs with
 |false=>
  try simp only [go_sem]
  repeat' (refine CallS.intro (by apply spec_IsRanges) ?_<;>simp only [go_sem,hA])
  all_goals simp [cntR,hA]
 |true=>
  simp only [go_sem]
  refine CallS.intro (spec_IsRanges xs) ?_
  simp only [go_sem,hA]
  refine LoopK.intro (fun i:Nat=>⟨(.d (.sl 2 (xs.map TRange.enc))::.junk::.d (.int .i64 0)::.d (.int .i64 (cntN (xs.take i)))::.d (.int .i64 i)::jn 23 []),[]⟩)
   (fun i=>xs.length - i) (fun i=>i≤xs.length) 0 [] (by omega) ?_ ?_
  ·simp only [go_sem];simp [cntN]
  ·intro i hi
   by_cases h1:i < xs.length
   ·have h1':decide ((i:Int) < (xs.length:Int))=true:=dT (by omega)
    have hxi:=map_at TRange.enc xs i h1
    have hw:=inc h1 hm
    have hb:=cntN_take hA i h1
    have h4:=(rOk_iff _).1 (((areR_iff xs).1 hA).1 _ (List.getElem_mem h1))
    have e:cntN (xs.take (i + 1))=cntN (xs.take i) + (xs[i].high - xs[i].low):=foldl_take _ _ _ _ _
    have w1:IntKind.i64.wrap (cntN (xs.take i) + xs[i].high)=cntN (xs.take i) + xs[i].high:=by rw [w64]<;>omega
    have w2:IntKind.i64.wrap (cntN (xs.take i) + xs[i].high - xs[i].low)=cntN (xs.take (i + 1)):=by rw [w64]<;>omega
    try simp only [go_sem,lM,h1']
    repeat' (first|(refine drawE_intro mxRngB0 (by kernel_rfl) (by rfl) ?_<;>simp only [go_sem,lM,tN,hxi,TRange.enc,w1,w2])|(with_reducible refine sideI ?_)|fail)
    all_goals (refine RoundE.intro (i + 1) [] (by omega) (by omega) ?_;simp only [go_sem,hw];try simp)
   ·have h1':decide ((i:Int) < (xs.length:Int))=false:=dF (by omega)
    obtain rfl:i=xs.length:=by omega
    simp only [go_sem,lM,h1',tL]
    simp [cntR,hA]
theorem impl_CountNumbers (xs:List TRange):PureCall Tryz.prog 148 [.one (.sl 2 (xs.map TRange.enc))] [.one (.int .i64 (cntR xs))]:=by
 refine pureT 24 Tryz.func148 Tryz.call148 [.tmp 2] ?_
 intro ok
 have hm:=len_of ok
 cases hA:areR xs with
 |false=>
  try simp only [go_sem]
  repeat' (refine CallS.intro (by apply impl_IsRanges) ?_<;>simp only [go_sem,hA])
  all_goals simp [cntR,hA]
 |true=>
  simp only [go_sem]
  refine CallS.intro (impl_IsRanges xs) ?_
  simp only [go_sem,lM,hA]
  refine LoopK.intro (fun i:Nat=>⟨(.d (.sl 2 (xs.map TRange.enc))::.junk::.d (.int .i64 0)::.d (.int .i64 (cntN (xs.take i)))::jn 5 (.d (.sl 2 (xs.map TRange.enc))::.d (.int .i64 xs.length)::.d (.int .i64 i)::jn 12 [])),[]⟩)
   (fun i=>xs.length - i) (fun i=>i≤xs.length) 0 [] (by omega) ?_ ?_
  ·simp only [go_sem];simp [cntN]
  ·intro i hi
   by_cases h1:i < xs.length
   ·have h1':decide ((i:Int) < (xs.length:Int))=true:=dT (by omega)
    have hxi:=map_at TRange.enc xs i h1
    have hw:=inc h1 hm
    have hb:=cntN_take hA i h1
    have h4:=(rOk_iff _).1 (((areR_iff xs).1 hA).1 _ (List.getElem_mem h1))
    have e:cntN (xs.take (i + 1))=cntN (xs.take i) + (xs[i].high - xs[i].low):=foldl_take _ _ _ _ _
    have w1:IntKind.i64.wrap (xs[i].high - xs[i].low)=xs[i].high - xs[i].low:=by rw [w64]<;>omega
    have w2:IntKind.i64.wrap (cntN (xs.take i) + (xs[i].high - xs[i].low))=cntN (xs.take (i + 1)):=by rw [w64]<;>omega
    try simp only [go_sem,lM,tN,hxi,TRange.enc,h1',w1,w2]
    repeat' (first|(with_reducible refine sideI ?_)|fail)
    all_goals (refine RoundE.intro (i + 1) [] (by omega) (by omega) ?_;simp only [go_sem,hw];try simp)
   ·have h1':decide ((i:Int) < (xs.length:Int))=false:=dF (by omega)
    obtain rfl:i=xs.length:=by omega
    simp only [go_sem,h1',tL]
    simp [cntR,hA]
def gapS (f:Int) (r:TRange):Int:=if r.low≤f∧f < r.high then r.high else f
def gapOk (xs:List TRange) (f:Int):Bool:=areR xs && decide (0≤f)
def gapR (xs:List TRange) (f:Int):Int:=if gapOk xs f then xs.foldl gapS f else -1
theorem spec_FirstGap (xs:List TRange) (f:Int):PureCall Tryz.prog 119 [.one (.sl 2 (xs.map TRange.enc)),.one (.int .i64 f)] [.one (.int .i64 (gapR xs f))]:=by
 refine pureT 41 Tryz.func119 Tryz.call119 [.tmp 4] ?_
 intro ok
 have hm:=len_of ok
 try simp only [go_sem]
 repeat' ((first|refine CallS.intro (by apply spec_IsRanges) ?_|refine gSymS ?_)<;>simp only [go_sem])
 refine cSplit (fun h0=>?_) (fun h0=>?_)
 ·simp only [go_sem]
  have:gapOk xs f=false:=by revert h0;simp only [gapOk];cases areR xs<;>simp
  simp [gapR,this]
 ·have hg:gapOk xs f=true:=by revert h0;simp only [gapOk];cases areR xs<;>simp
  simp only [go_sem]
  refine LoopK.intro (fun i:Nat=>⟨(.d (.sl 2 (xs.map TRange.enc))::.d (.int .i64 ((xs.take i).foldl gapS f))::jn 3 (.d (.int .i64 i)::jn 35 [])),[]⟩)
   (fun i=>xs.length - i) (fun i=>i≤xs.length) 0 [] (by omega) ?_ ?_
  ·simp only [go_sem];simp
  ·intro i hi
   by_cases h1:i < xs.length
   ·have h1':decide ((i:Int) < (xs.length:Int))=true:=dT (by omega)
    have hxi:=map_at TRange.enc xs i h1
    have hw:=inc h1 hm
    have e:=foldl_take gapS f xs i h1
    by_cases c1:xs[i].low≤(xs.take i).foldl gapS f
    ·have c1':decide (xs[i].low≤(xs.take i).foldl gapS f)=true:=dT c1
     by_cases c2:(xs.take i).foldl gapS f < xs[i].high
     ·have c2':decide ((xs.take i).foldl gapS f < xs[i].high)=true:=dT c2
      rw [gapS,if_pos ⟨c1,c2⟩] at e
      try simp only [go_sem,lM,tN,hxi,TRange.enc,h1',c1']
      repeat' (first|(with_reducible refine gTrueS ?_<;>simp only [go_sem,lM,tN,hxi,TRange.enc,c2'])|(with_reducible refine sideI ?_)|fail)
      all_goals (refine RoundE.intro (i + 1) [] (by omega) (by omega) ?_;simp only [go_sem,hw,e])
     ·have c2':decide ((xs.take i).foldl gapS f < xs[i].high)=false:=dF c2
      rw [gapS,if_neg (fun g=>c2 g.2)] at e
      try simp only [go_sem,lM,tN,hxi,TRange.enc,h1',c1']
      repeat' (first|(with_reducible refine gTrueS ?_<;>simp only [go_sem,lM,tN,hxi,TRange.enc,c2'])|(with_reducible refine sideI ?_)|fail)
      all_goals (refine RoundE.intro (i + 1) [] (by omega) (by omega) ?_;simp only [go_sem,hw,e])
    ·have c1':decide (xs[i].low≤(xs.take i).foldl gapS f)=false:=dF c1
     rw [gapS,if_neg (fun g=>c1 g.1)] at e
     try simp only [go_sem,lM,tN,hxi,TRange.enc,h1',c1']
     repeat' (first|(with_reducible refine gFalseS ?_<;>simp only [go_sem])|(with_reducible refine sideI ?_)|fail)
     all_goals (refine RoundE.intro (i + 1) [] (by omega) (by omega) ?_;simp only [go_sem,hw,e])
   ·have h1':decide ((i:Int) < (xs.length:Int))=false:=dF (by omega)
    obtain rfl:i=xs.length:=by omega
    simp only [go_sem,lM,h1',tL]
    simp [gapR,hg]
theorem impl_FirstGap (xs:List TRange) (f:Int):PureCall Tryz.prog 111 [.one (.sl 2 (xs.map TRange.enc)),.one (.int .i64 f)] [.one (.int .i64 (gapR xs f))]:=by
 refine pureT 34 Tryz.func111 Tryz.call111 [.tmp 4] ?_
 intro ok
 have hm:=len_of ok
 try simp only [go_sem]
 repeat' ((first|refine CallS.intro (by apply impl_IsRanges) ?_|refine gSymS ?_)<;>simp only [go_sem])
 refine cSplit (fun h0=>?_) (fun h0=>?_)
 ·simp only [go_sem]
  have:gapOk xs f=false:=by revert h0;simp only [gapOk];cases areR xs<;>simp
  simp [gapR,this]
 ·have hg:gapOk xs f=true:=by revert h0;simp only [gapOk];cases areR xs<;>simp
  simp only [go_sem,lM]
  refine LoopK.intro (fun i:Nat=>⟨(.d (.sl 2 (xs.map TRange.enc))::.d (.int .i64 ((xs.take i).foldl gapS f))::jn 12 (.d (.sl 2 (xs.map TRange.enc))::.d (.int .i64 xs.length)::.d (.int .i64 i)::jn 17 [])),[]⟩)
   (fun i=>xs.length - i) (fun i=>i≤xs.length) 0 [] (by omega) ?_ ?_
  ·simp only [go_sem];simp
  ·intro i hi
   by_cases h1:i < xs.length
   ·have h1':decide ((i:Int) < (xs.length:Int))=true:=dT (by omega)
    have hxi:=map_at TRange.enc xs i h1
    have hw:=inc h1 hm
    have e:=foldl_take gapS f xs i h1
    by_cases c1:xs[i].low≤(xs.take i).foldl gapS f
    ·have c1':decide (xs[i].low≤(xs.take i).foldl gapS f)=true:=dT c1
     by_cases c2:(xs.take i).foldl gapS f < xs[i].high
     ·have c2':decide ((xs.take i).foldl gapS f < xs[i].high)=true:=dT c2
      rw [gapS,if_pos ⟨c1,c2⟩] at e
      try simp only [go_sem,lM,tN,hxi,TRange.enc,h1',c1']
      repeat' (first|(with_reducible refine gTrueS ?_<;>simp only [go_sem,c2'])|(with_reducible refine sideI ?_)|fail)
      all_goals (refine RoundE.intro (i + 1) [] (by omega) (by omega) ?_;simp only [go_sem,hw,e])
     ·have c2':decide ((xs.take i).foldl gapS f < xs[i].high)=false:=dF c2
      rw [gapS,if_neg (fun g=>c2 g.2)] at e
      try simp only [go_sem,lM,tN,hxi,TRange.enc,h1',c1']
      repeat' (first|(with_reducible refine gTrueS ?_<;>simp only [go_sem,c2'])|(with_reducible refine sideI ?_)|fail)
      all_goals (refine RoundE.intro (i + 1) [] (by omega) (by omega) ?_;simp only [go_sem,hw,e])
    ·have c1':decide (xs[i].low≤(xs.take i).foldl gapS f)=false:=dF c1
     rw [gapS,if_neg (fun g=>c1 g.1)] at e
     try simp only [go_sem,lM,tN,hxi,TRange.enc,h1',c1']
     repeat' (first|(with_reducible refine gFalseS ?_<;>simp only [go_sem])|(with_reducible refine sideI ?_)|fail)
     all_goals (refine RoundE.intro (i + 1) [] (by omega) (by omega) ?_;simp only [go_sem,hw,e])
   ·have h1':decide ((i:Int) < (xs.length:Int))=false:=dF (by omega)
    obtain rfl:i=xs.length:=by omega
    simp only [go_sem,h1',tL]
    simp [gapR,hg]
def rmF (r x:TRange):List TRange:=
 (if x.low < minI x.high r.low then [⟨x.low,minI x.high r.low⟩] else [])++(if maxI x.low r.high < x.high then [⟨maxI x.low r.high,x.high⟩] else [])
def rmR (xs:List TRange) (r:TRange):List TRange:=if areR xs && rOk r then xs.flatMap (rmF r) else xs
theorem rmF_len (r x:TRange):(rmF r x).length≤2:=by unfold rmF;split<;>split<;>simp
theorem flatMap_len {α β:Type} (f:α→List β) (k:Nat) (h:∀ x,(f x).length≤k):∀ xs:List α,(xs.flatMap f).length≤k * xs.length
 |[]=>by simp
 |x::xs=>by
  have:=flatMap_len f k h xs
  have:=h x
  simp only [List.flatMap_cons,List.length_append,List.length_cons,Nat.mul_add];omega
set_option maxHeartbeats 1000000 in
theorem spec_RemoveRange_raw (xs:List TRange) (l h:Int) (hx:xs.length≤1048576):PureCall Tryz.prog 242 [.one (.sl 2 (xs.map TRange.enc)),.agg [.int .i64 l,.int .i64 h]] [.one (.sl 2 ((rmR xs ⟨l,h⟩).map TRange.enc))]:=by
 refine pureT 87 Tryz.func242 Tryz.call242 [.tmp 4] ?_
 intro ok
 have hm:=len_of ok
 try simp only [go_sem]
 repeat' ((first|refine CallS.intro (by apply spec_IsRanges) ?_|refine CallK.intro (by apply spec_l3Fine) ?_|refine gSymS ?_)<;>simp only [go_sem])
 refine cSplit (fun h0=>?_) (fun h0=>?_)
 ·have hg:(areR xs && rOk ⟨l,h⟩)=false:=by revert h0;cases areR xs<;>cases rOk ⟨l,h⟩<;>simp
  try simp only [go_sem]
  repeat' (first|(refine CallS.intro (by (apply spec_l3Copy<;>first|assumption|omega)) ?_<;>simp only [go_sem,lM])|(with_reducible refine sideI ?_)|fail)
  all_goals simp [rmR,hg]
 ·have hg:(areR xs && rOk ⟨l,h⟩)=true:=by revert h0;cases areR xs<;>cases rOk ⟨l,h⟩<;>simp
  simp only [go_sem]
  refine LoopK.intro (fun i:Nat=>⟨(.d (.sl 2 (xs.map TRange.enc))::.junk::.junk::.ptr 0 0 0::.junk::.sl 1 0 ((xs.take i).flatMap (rmF ⟨l,h⟩)).length::.d (.int .i64 i)::jn 80 []),[.box [.d (.int .i64 l),.d (.int .i64 h)],.arr 2 (((xs.take i).flatMap (rmF ⟨l,h⟩)).map TRange.enc) true]⟩)
   (fun i=>xs.length - i) (fun i=>i≤xs.length) 0 [0,1] (by omega) ?_ ?_
  ·simp only [go_sem];simp
  ·intro i hi
   by_cases h1:i < xs.length
   ·have h1':decide ((i:Int) < (xs.length:Int))=true:=dT (by omega)
    have hxi:=map_at TRange.enc xs i h1
    have hw:=inc h1 hm
    have e:=flatMap_take (rmF ⟨l,h⟩) xs i h1
    have hL:=flatMap_len (rmF ⟨l,h⟩) 2 (rmF_len _) (xs.take i)
    have hT:(xs.take i).length=i:=by simp;omega
    generalize hq:(xs.take i).flatMap (rmF ⟨l,h⟩)=acc at e hL
    try simp only [go_sem,lM,h1']
    repeat' (first|((first|refine drawE_intro mxRngB1 (by decide) (by rfl) ?_|refine drawE_intro mxRngB2 (by decide) (by rfl) ?_|refine drawE_intro mxRngB3 (by decide) (by rfl) ?_|refine drawE_intro mxRngB4 (by decide) (by rfl) ?_|refine cSplit (fun h=>?_) (fun h=>?_))<;>simp only [go_sem,lM,tN,hxi,TRange.enc])|(with_reducible refine sideI ?_)|fail)
    all_goals (simp only [decide_eq_true_eq,decide_eq_false_iff_not] at *)
    all_goals rename_i h2
    all_goals first
     |(refine RoundE.intro (i + 1) [0,5] (by omega) (by omega) ?_;simp only [go_sem,hw,e,rmF,minI,maxI];rw [if_pos h2,if_pos h];simp [TRange.enc];done)
     |(refine RoundE.intro (i + 1) [0,3] (by omega) (by omega) ?_;simp only [go_sem,hw,e,rmF,minI,maxI];rw [if_pos h2,if_neg h];simp [TRange.enc];done)
     |(refine RoundE.intro (i + 1) [0,3] (by omega) (by omega) ?_;simp only [go_sem,hw,e,rmF,minI,maxI];rw [if_neg h2,if_pos h];simp [TRange.enc];done)
     |(refine RoundE.intro (i + 1) [0,1] (by omega) (by omega) ?_;simp only [go_sem,hw,e,rmF,minI,maxI];rw [if_neg h2,if_neg h];simp;done)
   ·have h1':decide ((i:Int) < (xs.length:Int))=false:=dF (by omega)
    obtain rfl:i=xs.length:=by omega
    simp only [go_sem,lM,h1',tL]
    simp [rmR,hg]
def cmF (x y:TRange):List TRange:=if maxI x.low y.low < minI x.high y.high then [⟨maxI x.low y.low,minI x.high y.high⟩] else []
def cmR (xs ys:List TRange):List TRange:=if areR xs && areR ys then xs.flatMap fun x=>ys.flatMap (cmF x) else []
theorem cmF_len (x y:TRange):(cmF x y).length≤1:=by unfold cmF;split<;>simp
set_option maxHeartbeats 1000000 in
theorem spec_CommonRanges (xs ys:List TRange) (hx:xs.length≤1048576) (hy:ys.length≤8):PureCall Tryz.prog 240 [.one (.sl 2 (xs.map TRange.enc)),.one (.sl 2 (ys.map TRange.enc))] [.one (.sl 2 ((cmR xs ys).map TRange.enc))]:=by
 refine pureT 63 Tryz.func240 Tryz.call240 [.tmp 4] ?_
 intro ok
 have hm:=len_of ok
 have f1:=spec_IsRanges xs
 have f2:=spec_IsRanges ys
 simp only [go_sem]
 refine LoopK.intro (fun i:Nat=>⟨(.d (.sl 2 (xs.map TRange.enc))::.d (.sl 2 (ys.map TRange.enc))::jn 3 (.sl 0 0 ((xs.take i).flatMap fun x=>ys.flatMap (cmF x)).length::.d (.int .i64 i)::jn 56 [])),[.arr 2 (((xs.take i).flatMap fun x=>ys.flatMap (cmF x)).map TRange.enc) true]⟩)
   (fun i=>xs.length - i) (fun i=>i≤xs.length∧((areR xs && areR ys)=false→i=0)) 0 [0] ⟨by omega,fun _=>rfl⟩ ?_ ?_
 ·simp only [go_sem];simp
 ·rintro i ⟨hi,hz⟩
  by_cases h1:i < xs.length
  ·have h1':decide ((i:Int) < (xs.length:Int))=true:=dT (by omega)
   have hxi:=map_at TRange.enc xs i h1
   have hw:=inc h1 hm
   have e:=flatMap_take (fun x=>ys.flatMap (cmF x)) xs i h1
   have hL:=flatMap_len (fun x=>ys.flatMap (cmF x)) ys.length (fun x=>by have:=flatMap_len (cmF x) 1 (cmF_len x) ys;omega) (xs.take i)
   have hT:(xs.take i).length=i:=by simp;omega
   have hL2:((xs.take i).flatMap fun x=>ys.flatMap (cmF x)).length≤8388608:=by
    have:ys.length * (xs.take i).length≤8 * 1048576:=Nat.mul_le_mul hy (by omega)
    omega
   cases hg:(areR xs && areR ys) with
   |false=>
    obtain rfl:=hz hg
    cases hg1:areR xs with
    |false=>
     try simp only [go_sem,lM,h1']
     repeat' (first|((first|refine CallS.intro (by assumption) ?_|refine CallK.intro (by assumption) ?_|with_reducible refine gTrueS ?_|with_reducible refine gFalseS ?_)<;>simp only [go_sem,lM,hg1])|(with_reducible refine sideI ?_)|fail)
     all_goals simp [cmR,hg]
    |true=>
     have hg2:areR ys=false:=by revert hg;rw [hg1];simp
     try simp only [go_sem,lM,h1']
     repeat' (first|((first|refine CallS.intro (by assumption) ?_|refine CallK.intro (by assumption) ?_|with_reducible refine gTrueS ?_)<;>simp only [go_sem,lM,hg1,hg2])|(with_reducible refine sideI ?_)|fail)
     all_goals simp [cmR,hg]
   |true=>
    have hg1:areR xs=true:=by revert hg;cases areR xs<;>simp
    have hg2:areR ys=true:=by revert hg;rw [hg1];simp
    generalize hq:((xs.take i).flatMap fun x=>ys.flatMap (cmF x))=acc at e hL hL2
    try simp only [go_sem,lM,h1']
    repeat' ((first|refine CallS.intro (by assumption) ?_|refine CallK.intro (by assumption) ?_|with_reducible refine gTrueS ?_)<;>simp only [go_sem,hg1,hg2])
    refine LoopK.intro (fun k:Nat=>⟨(.d (.sl 2 (xs.map TRange.enc))::.d (.sl 2 (ys.map TRange.enc))::jn 3 (.sl 0 0 (acc++(ys.take k).flatMap (cmF xs[i])).length::.d (.int .i64 i)::.d (.int .i64 k)::jn 55 [])),[.arr 2 ((acc++(ys.take k).flatMap (cmF xs[i])).map TRange.enc) true]⟩)
     (fun k=>ys.length - k) (fun k=>k≤ys.length) 0 [0] (by omega) ?_ ?_
    ·simp only [go_sem];simp
    ·intro k hk
     by_cases h2:k < ys.length
     ·have h2':decide ((k:Int) < (ys.length:Int))=true:=dT (by omega)
      have hyi:=map_at TRange.enc ys k h2
      have hw2:=inc (m:=8) (i:=k) (by omega) (by simp [maxLen])
      have e2:=flatMap_take (cmF xs[i]) ys k h2
      have hL3:=flatMap_len (cmF xs[i]) 1 (cmF_len _) (ys.take k)
      have hT2:(ys.take k).length=k:=by simp;omega
      generalize hq2:acc++(ys.take k).flatMap (cmF xs[i])=acc2
      have hA2:acc2.length≤8388616:=by rw [← hq2,List.length_append];omega
      have e3:acc++(ys.take (k + 1)).flatMap (cmF xs[i])=acc2++cmF xs[i] ys[k]:=by rw [e2,← List.append_assoc,hq2]
      try simp only [go_sem,lM,h2']
      repeat' (first|((first|refine CallS.intro (by assumption) ?_|refine CallK.intro (by assumption) ?_|refine drawE_intro mxRngB5 (by kernel_rfl) (by rfl) ?_|refine cSplit (fun h=>?_) (fun h=>?_))<;>simp only [go_sem,lM,tN,hxi,hyi,TRange.enc])|(with_reducible refine sideI ?_)|fail)
      ·have hc:cmF xs[i] ys[k]=[⟨maxI xs[i].low ys[k].low,minI xs[i].high ys[k].high⟩]:=by unfold cmF;exact if_pos (oT h)
       rw [hc] at e3
       have e4:=congrArg List.length e3
       simp only [List.length_append,List.length_singleton] at e4
       refine RoundE.intro (k + 1) [3] (by omega) (by omega) ?_
       simp only [go_sem,hw2,e3,e4]
       simp [TRange.enc,minI,maxI]
      ·have hc:cmF xs[i] ys[k]=[]:=by unfold cmF;exact if_neg (oF h)
       rw [hc,List.append_nil] at e3
       have e4:=congrArg List.length e3
       simp only [List.length_append] at e4
       refine RoundE.intro (k + 1) [0] (by omega) (by omega) ?_
       simp only [go_sem,hw2,e3,e4]
       simp
     ·have h2':decide ((k:Int) < (ys.length:Int))=false:=dF (by omega)
      obtain rfl:k=ys.length:=by omega
      simp only [go_sem,lM,h2',tL]
      refine RoundE.intro (i + 1) [0] (by omega) (by omega) ?_
      simp only [go_sem,hw,e]
      simp
  ·have h1':decide ((i:Int) < (xs.length:Int))=false:=dF (by omega)
   obtain rfl:i=xs.length:=by omega
   have hr:(xs.flatMap fun x=>ys.flatMap (cmF x))=cmR xs ys:=by
    unfold cmR
    split
    ·rfl
    ·rename_i hg
     have:=hz (by simpa using hg)
     rw [List.length_eq_zero_iff.1 this];rfl
   try simp only [go_sem,lM,h1',tL,hr]
   repeat' ((first|refine CallS.intro (by assumption) ?_|refine CallK.intro (by assumption) ?_|with_reducible refine gFalseS ?_)<;>simp only [go_sem,lM])
   all_goals simp
end Gv

namespace Gv
open Go Go.Proofs
set_option maxRecDepth 100000
def byI (n:Int):UInt8:=UInt8.ofNat n.toNat
def stEnc (n:Int):Nat→St
 |0=>⟨(.d (.int .i64 n)::.d (.int .i64 1)::.junk::.junk::.d (.str [])::.d (.str [])::.d (.int .i64 0)::jn 24 []),[]⟩
 |i + 1=>⟨(.d (.int .i64 0)::.d (.int .i64 1)::.junk::.junk::.d (.str [])::.d (.str [byI n])::.d (.int .i64 ((i + 1:Nat):Int))::jn 24 []),[]⟩
theorem spec_EncodeFixed_one (n:Int) (h:0≤n∧n≤255):PureCall Tryz.prog 251 [.one (.int .i64 n),.one (.int .i64 1)] [.one (.str [byI n])]:=by
 refine pureT 31 Tryz.func251 Tryz.call251 [.tmp 4] ?_
 intro _
 have h1:¬ n < 0:=by omega
 have h2:n.tmod 256=n:=by rw [Int.tmod_eq_emod_of_nonneg (by omega)];omega
 have h3:n.tdiv 256=0:=by rw [Int.tdiv_eq_ediv_of_nonneg (by omega)];omega
 have h4:IntKind.u8.wrap n=n:=w8 h.1 h.2
 have h5:IntKind.i64.wrap 0=0:=by decide
 simp only [go_sem]
 refine CallS.intro (spec_l1In 1 1 7) ?_
 simp only [go_sem]
 repeat (refine gSymS ?_;simp only [go_sem])
 have hz:(bif !inB 1 1 7 then true else decide (n < 0))=false:=by simp [inB,h1]
 rw [hz]
 simp only [go_sem]
 refine LoopK.intro (stEnc n) (fun i=>1 - i) (fun i=>i≤1) 0 [] (by omega) ?_ ?_
 ·simp only [stEnc,go_sem]
 ·intro i hi
  cases i with
  |zero=>
   simp only [stEnc,go_sem,h2,h3,h4,h5]
   refine RoundE.intro 1 [] (by omega) (by omega) ?_
   simp only [stEnc,go_sem]
   simp [byI,w64]
  |succ i=>
   have hi0:i=0:=by omega
   subst hi0
   simp only [stEnc,go_sem]
   refine cSplit (fun h6=>absurd (oT h6) (by omega)) (fun _=>?_)
   simp only [go_sem]
theorem and255_n {n:Int} (h:0≤n∧n≤255):bitI .and .i64 n 255=n:=by
 have key:∀ m:Fin 256,bitI .and .i64 (m.val:Int) 255=(m.val:Int):=by decide +kernel
 have:=key ⟨n.toNat,by omega⟩
 simpa [show (n.toNat:Int)=n from by omega] using this
theorem spec_l2Byte_one (n:Int) (h:0≤n∧n≤255):PureCall Tryz.prog 250 [.one (.int .i64 n)] [.one (.str [byI n])]:=by
 refine pureT 6 Tryz.func250 Tryz.call250 [.tmp 2] ?_
 intro _
 simp only [go_sem,and255_n h]
 refine CallS.intro (spec_EncodeFixed_one n h) ?_
 simp only [go_sem]
set_option maxRecDepth 100000
def mxCopies0:List (List Rl):=mxD 12 [501920,501918,501952,501934,502240,502078,522328,530347,525973,512122,472392,354294]
def mxCopies1:List (List Rl):=mxD 8 [6200,6198,6448,6547,6493,6322,5832,4374]
def mxCopies2:List (List Rl):=mxD 13 [1505753,1505751,1505866,1505848,1505794,1506721,1506235,1514497,1510123,1584481,1545115,1417176,1062882]
def mxCopies3:List (List Rl):=mxD 24 [266739006680,266739006678,266740662352,266740662334,266740662280,266740663207,266740662721,266740661146,266740686292,266740673170,266740630528,266741309587,266740955293,266739803842,266758138552,266748572614,266911193560,266825100118,268288688632,267513847654,280686144280,273712575478,251048476872,188286357654]
def mxCopies4:List (List Rl):=mxD 17 [121965710,128343355,128343361,128343340,128343286,128343124,128875171,129132508,129136882,129121573,129082207,128964109,128609086,127545841,124357195,114791256,86093442]
attribute [go_sem] mxCopies0 mxCopies1 mxCopies2 mxCopies3 mxCopies4
theorem take_map_self {α:Type} (e:α→List D) (l:List α):(l.map e).take l.length=l.map e:=List.take_of_length_le (by simp)
theorem take_map_succ {α:Type} (e:α→List D) (xs:List α) (i:Nat) (h:i < xs.length):(xs.take (i + 1)).map e=(xs.take i).map e++[e xs[i]]:=by
 rw [List.take_add_one,gE h,Option.toList_some,List.map_append];rfl
theorem spec_l8Copy (aS aP aT:Int) (aN:List Int) (hx:aN.length≤8388608):PureCall Tryz.prog 142 [.agg [.int .i64 aS,.int .i64 aP,.int .i64 aT,.sl 1 (aN.map eI)]] [.agg [.int .i64 ((⟨aS,aP,aT,aN⟩:TRing)).size,.int .i64 ((⟨aS,aP,aT,aN⟩:TRing)).base,.int .i64 ((⟨aS,aP,aT,aN⟩:TRing)).end',.sl 1 (((⟨aS,aP,aT,aN⟩:TRing)).cells.map eI)]]:=by
 refine pureT 14 Tryz.func142 Tryz.call142 [.cell 2 43] ?_
 intro _
 try simp only [go_sem]
 repeat' (first|(refine drawE_intro mxCopies0 (by kernel_rfl) (by rfl) ?_<;>simp only [go_sem,lM])|(with_reducible refine sideI ?_)|fail)
 all_goals simp
theorem spec_l6Copy (fM:Int) (eQ:List TChunk) (hx:eQ.length≤8388608):PureCall Tryz.prog 143 [.agg [.int .i64 fM,.sl 2 (eQ.map TChunk.enc)]] [.agg [.int .i64 ((⟨fM,eQ⟩:TBuffer)).next,.sl 2 (((⟨fM,eQ⟩:TBuffer)).chunks.map TChunk.enc)]]:=by
 refine pureT 10 Tryz.func143 Tryz.call143 [.cell 2 49] ?_
 intro _
 try simp only [go_sem]
 repeat' (first|(refine drawE_intro mxCopies1 (by kernel_rfl) (by rfl) ?_<;>simp only [go_sem,lM])|(with_reducible refine sideI ?_)|fail)
 all_goals simp
theorem spec_l7Copy (aU aR:Int) (aO:List TChunk) (bA aX aY:Int) (hx:aO.length≤8388608):PureCall Tryz.prog 103 [.agg [.int .i64 aU,.int .i64 aR,.sl 2 (aO.map TChunk.enc),.int .i64 bA,.int .i64 aX,.int .i64 aY]] [.agg (TReceiver.enc ((⟨aU,⟨aR,aO⟩,bA,aX,aY⟩:TReceiver)))]:=by
 refine pureT 15 Tryz.func103 Tryz.call103 [.cell 2 51] ?_
 intro _
 try simp only [go_sem]
 repeat' ((first|refine CallK.intro (by (apply spec_l6Copy<;>first|assumption|omega)) ?_|refine drawE_intro mxCopies2 (by kernel_rfl) (by rfl) ?_)<;>simp only [go_sem,lM])
 all_goals simp
theorem spec_l9Copy (aF aK aL aI:Int) (aE:List Int) (aB aA aC:List TRange) (aJ aG aD aM:Int) (h1:aE.length≤8388608) (h2:aB.length≤8388608) (h3:aA.length≤8388608) (h4:aC.length≤8388608):PureCall Tryz.prog 102 [.agg [.int .i64 aF,.int .i64 aK,.int .i64 aL,.int .i64 aI,.sl 1 (aE.map eI),.sl 2 (aB.map TRange.enc),.sl 2 (aA.map TRange.enc),.sl 2 (aC.map TRange.enc),.int .i64 aJ,.int .i64 aG,.int .i64 aD,.int .i64 aM]] [.agg (TSender.enc ((⟨aF,⟨aK,aL,aI,aE⟩,aB,aA,aC,aJ,aG,aD,aM⟩:TSender)))]:=by
 refine pureT 26 Tryz.func102 Tryz.call102 [.cell 2 46] ?_
 intro _
 try simp only [go_sem]
 repeat' ((first|refine CallK.intro (by first|(apply spec_l8Copy<;>first|assumption|omega)|(apply spec_l3Copy<;>first|assumption|omega)) ?_|refine drawE_intro mxCopies3 (by kernel_rfl) (by rfl) ?_)<;>simp only [go_sem,lM])
 all_goals simp
theorem spec_l15Copy (bX bY bZ cA cB:Int) (bW:List Int) (bT bU bV:List TRange) (cC cD cE cF cG cH cI cJ cK cL:Int) (bS:List TChunk) (cM cN cO cP cQ cR cS cT cU cV:Int) (cW cX cY cZ dA dC dD:Bool) (dE:Int) (dF:Bool) (h1:bW.length≤8388608) (h2:bT.length≤8388608) (h3:bU.length≤8388608) (h4:bV.length≤8388608) (h5:bS.length≤8388608):PureCall Tryz.prog 77 [.agg [.int .i64 bX,.int .i64 bY,.int .i64 bZ,.int .i64 cA,.int .i64 cB,.sl 1 (bW.map eI),.sl 2 (bT.map TRange.enc),.sl 2 (bU.map TRange.enc),.sl 2 (bV.map TRange.enc),.int .i64 cC,.int .i64 cD,.int .i64 cE,.int .i64 cF,.int .i64 cG,.int .i64 cH,.int .i64 cI,.int .i64 cJ,.int .i64 cK,.int .i64 cL,.sl 2 (bS.map TChunk.enc),.int .i64 cM,.int .i64 cN,.int .i64 cO,.int .i64 cP,.int .i64 cQ,.int .i64 cR,.int .i64 cS,.int .i64 cT,.int .i64 cU,.int .i64 cV,.bool cW,.bool cX,.bool cY,.bool cZ,.bool dA,.bool dC,.bool dD,.int .i64 dE,.bool dF]] [.agg (TStream.enc ((⟨bX,⟨bY,⟨bZ,cA,cB,bW⟩,bT,bU,bV,cC,cD,cE,cF⟩,⟨cG,cH,cI,cJ⟩,⟨cK,⟨cL,bS⟩,cM,cN,cO⟩,⟨cP,cQ,cR,cS,cT,cU⟩,⟨cV,cW⟩,cX,cY,cZ,dA,dC,dD,dE,dF⟩:TStream)))]:=by
 refine pureT 14 Tryz.func77 Tryz.call77 [.cell 2 55] ?_
 intro _
 try simp only [go_sem]
 repeat' (refine CallS.intro (by first|(apply spec_l9Copy<;>first|assumption|omega)|(apply spec_l7Copy<;>first|assumption|omega)) ?_<;>simp only [go_sem,lM])
 all_goals simp
theorem spec_l17Packets (xs:List TPacket) (hx:(xs.length + sumB TPacket.bulk xs)≤4194304):PureCall Tryz.prog 178 [.one (.sl 2 (xs.map TPacket.enc))] [.one (.sl 2 (xs.map TPacket.enc))]:=by
 refine pureT 29 Tryz.func178 Tryz.call178 [.tmp 2] ?_
 intro ok
 have hm:=len_of ok
 clear ok
 simp only [go_sem]
 refine LoopK.intro (fun i:Nat=>⟨(.d (.sl 2 (xs.map TPacket.enc))::.junk::.nils 2::.sl 0 0 i::.d (.int .i64 i)::jn 24 []),[.arr 2 ((xs.take i).map TPacket.enc) true]⟩)
   (fun i=>xs.length - i) (fun i=>i≤xs.length) 0 [0] (by omega) ?_ ?_
 ·simp only [go_sem];simp
 ·intro i hi
  have hl:(xs.take i).length=i:=by simp;omega
  simp only [go_sem,lM]
  refine cSplit (fun h1=>?_) (fun h1=>?_)
  ·simp only [decide_eq_true_eq] at h1
   have hlt:i < xs.length:=by omega
   have hxi:=map_at TPacket.enc xs i hlt
   have hw:=inc hlt hm
   have hb:=sumB_at TPacket.bulk xs i hlt
   simp only [TPacket.bulk] at hb
   simp only [TPacket.enc] at hxi
   have htk:((xs.take i).map TPacket.enc).take i=(xs.take i).map TPacket.enc:=List.take_of_length_le (by rw [lM,hl];exact Nat.le_refl _)
   have hst:=take_map_succ TPacket.enc xs i hlt
   simp only [TPacket.enc] at hst
   try simp only [go_sem]
   repeat' (first|(refine drawE_intro mxCopies4 (by kernel_rfl) (by rfl) ?_<;>simp only [go_sem,lM,tN,hxi,hl,htk])|(with_reducible refine sideI ?_)|fail)
   all_goals (refine RoundE.intro (i + 1) [4] (by omega) (by omega) ?_;simp only [go_sem,hw];simp [hst])
  ·simp only [decide_eq_false_iff_not] at h1
   have hi2:i=xs.length:=by omega
   subst hi2
   simp only [go_sem,tL]
   simp [outOA]
set_option maxRecDepth 100000
def mxRing0:List (List Rl):=mxD 15 [13551749,13551747,13558585,13558567,13558630,13558432,13561222,13559764,13555030,14280016,14319382,14181601,13827307,12754584,9565938]
def mxRing1:List (List Rl):=mxD 8 [6200,6198,6448,6547,6493,6322,5832,4374]
def mxRing2:List (List Rl):=mxD 14 [4517249,4773139,4773133,4779958,4780012,4779823,4782604,4781146,4776421,4763287,4723921,4605823,4251528,3188646]
attribute [go_sem] mxRing0 mxRing1 mxRing2
def bytesOk (xs:List Int) (i:Nat):Bool:=(xs.take i).all fun b=>inB b 0 255
theorem bytesOk_succ (xs:List Int) (i:Nat) (h:i < xs.length):bytesOk xs (i + 1)=(bytesOk xs i && inB xs[i] 0 255):=by
 unfold bytesOk;rw [List.take_add_one,gE h,Option.toList_some,List.all_append];simp
theorem bytesOk_false (xs:List Int) (i:Nat) (h:i < xs.length) (hb:inB xs[i] 0 255=false):bytesOk xs xs.length=false:=by
 unfold bytesOk
 rw [tL,List.all_eq_false]
 exact ⟨xs[i],List.getElem_mem h,by simp [hb]⟩
def isRingH (r:TRing):Bool:=isRS r.size && decide ((r.cells.length:Int)=r.size) && decide (0≤r.base) && decide (r.base≤r.end') && decide (IntKind.i64.wrap (r.end' - r.base)≤r.size) && decide (r.end'≤4611686018427387903)
def isRing (r:TRing):Bool:=isRingH r && bytesOk r.cells r.cells.length
theorem isRS_iff {n:Int} (h:isRS n=true):1≤n∧n≤64:=by
 simp only [isRS,inB,Bool.and_eq_true,decide_eq_true_eq] at h;exact h.1
theorem isRing_iff {r:TRing} (h:isRing r=true):1≤r.size∧r.size≤64∧(r.cells.length:Int)=r.size∧0≤r.base∧r.base≤r.end'∧r.end' - r.base≤r.size∧r.end'≤4611686018427387903∧isRS r.size=true∧∀ i (hi:i < r.cells.length),0≤r.cells[i]∧r.cells[i]≤255:=by
 simp only [isRing,isRingH,Bool.and_eq_true,decide_eq_true_eq] at h
 obtain ⟨⟨⟨⟨⟨⟨h1,h2⟩,h3⟩,h4⟩,h5⟩,h6⟩,h7⟩:=h
 have hs:=isRS_iff h1
 rw [w64] at h5<;>try omega
 refine ⟨hs.1,hs.2,h2,h3,h4,h5,h6,h1,fun i hi=>?_⟩
 unfold bytesOk at h7
 rw [tL,List.all_eq_true] at h7
 have:=h7 _ (List.getElem_mem hi)
 simpa [inB] using this
theorem spec_IsRing (aS aP aT:Int) (aN:List Int):PureCall Tryz.prog 117 [.agg [.int .i64 aS,.int .i64 aP,.int .i64 aT,.sl 1 (aN.map eI)]] [.one (.bool (isRing (⟨aS,aP,aT,aN⟩:TRing)))]:=by
 refine pureT 57 Tryz.func117 Tryz.call117 [.tmp 2] ?_
 intro ok
 have hm:aN.length≤maxLen:=by have:=ok.1.2.2.2.1.1;rwa [lM] at this
 try simp only [go_sem]
 repeat' ((first|refine CallS.intro (by apply spec_l8Power) ?_|refine gSymS ?_)<;>simp only [go_sem,lM])
 refine cSplit (fun h0=>?_) (fun h0=>?_)
 ·simp only [go_sem]
  have:isRingH (⟨aS,aP,aT,aN⟩:TRing)=false:=by
   revert h0;simp only [isRingH,bif_or]
   cases isRS aS<;>simp<;>intros<;>omega
  simp [isRing,this]
 ·have hH:isRingH (⟨aS,aP,aT,aN⟩:TRing)=true:=by
   revert h0;simp only [isRingH,bif_or]
   cases isRS aS<;>simp<;>intros<;>omega
  simp only [go_sem]
  refine LoopK.intro (fun i:Nat=>⟨(.junk::.ptr 0 0 0::.d (.bool false)::.d (.int .i64 i)::jn 53 []),[.box [.d (.int .i64 aS),.d (.int .i64 aP),.d (.int .i64 aT),.d (.sl 1 (aN.map eI))]]⟩)
   (fun i=>aN.length - i) (fun i=>i≤aN.length∧bytesOk aN i=true) 0 [0] ⟨by omega,by simp [bytesOk]⟩ ?_ ?_
  ·simp only [go_sem];simp
  ·rintro i ⟨hi,he⟩
   by_cases h1:i < aN.length
   ·have h1':decide ((i:Int) < (aN.length:Int))=true:=dT (by omega)
    have hxi:=map_at eI aN i h1
    have hw:=inc h1 hm
    have hs:=bytesOk_succ aN i h1
    have hf:=bytesOk_false aN i h1
    try simp only [go_sem,lM,tN,hxi,eI,h1']
    repeat' (first|((first|refine CallS.intro (by apply spec_l1In) ?_|refine cSplit (fun h=>?_) (fun h=>?_))<;>simp only [go_sem])|(with_reducible refine sideI ?_)|fail)
    ·have:=hf (by simpa using h)
     simp [isRing,this]
    ·have h3:inB aN[i] 0 255=true:=by simpa using h
     refine RoundE.intro (i + 1) [0] ⟨by omega,by rw [hs,he,h3];rfl⟩ (by omega) ?_
     simp only [go_sem,hw];simp
   ·have h1':decide ((i:Int) < (aN.length:Int))=false:=dF (by omega)
    obtain rfl:i=aN.length:=by omega
    simp only [go_sem,lM,h1']
    simp [isRing,hH,he]
theorem bytesOk_take {xs:List Int} {i:Nat} (h:i < xs.length) (he:bytesOk xs i=true) (hb:inB xs[i] 0 255=true):bytesOk xs (i + 1)=true:=by rw [bytesOk_succ xs i h,he,hb];rfl
set_option maxHeartbeats 1000000 in
theorem impl_IsRing (aS aP aT:Int) (aN:List Int):PureCall Tryz.prog 109 [.agg [.int .i64 aS,.int .i64 aP,.int .i64 aT,.sl 1 (aN.map eI)]] [.one (.bool (isRing (⟨aS,aP,aT,aN⟩:TRing)))]:=by
 refine pureT 36 Tryz.func109 Tryz.call109 [.tmp 2] ?_
 intro ok
 have hm:aN.length≤maxLen:=by have:=ok.1.2.2.2.1.1;rwa [lM] at this
 have hbz:=i64_of ok.1.2.1
 have hez:=i64_of ok.1.2.2.1
 cases e1:isRS aS with
 |false=>
  try simp only [go_sem]
  repeat' ((first|refine CallS.intro (by first|apply impl_isRingSize|apply impl_isQuic) ?_|refine CallK.intro (by apply impl_within) ?_|with_reducible refine gFalseS ?_|refine gSymS ?_)<;>simp only [go_sem,e1])
  all_goals simp [isRing,isRingH,e1]
 |true=>
  have hs:=isRS_iff e1
  cases e2:decide ((aN.length:Int)≠aS) with
  |true=>
   have e2':¬ (aN.length:Int)=aS:=oT e2
   try simp only [go_sem]
   repeat' ((first|refine CallS.intro (by apply impl_isRingSize) ?_|with_reducible refine gTrueS ?_|with_reducible refine gFalseS ?_)<;>simp only [go_sem,lM,e1,e2])
   all_goals simp [isRing,isRingH,e2']
  |false=>
   have e2':(aN.length:Int)=aS:=by have:=oF e2;omega
   try simp only [go_sem]
   repeat' ((first|refine CallS.intro (by apply impl_isRingSize) ?_|with_reducible refine gTrueS ?_)<;>simp only [go_sem,lM,e1,e2])
   refine CallS.inl (inl_ev (n:=9) (rs:=[.tmp 4]) Tryz.func146 rfl Tryz.call146 Tryz.checked.mixed rfl rfl ?_)
   simp only [go_sem]
   refine CallS.inl (inl_ev (n:=19) (rs:=[.tmp 4]) Tryz.func177 rfl Tryz.call177 Tryz.checked.mixed rfl rfl ?_)
   simp only [go_sem,lM]
   refine LoopK.intro (fun i:Nat=>⟨(.d (.sl 1 (aN.map eI))::.fn 147 []::.junk::.junk::.d (.int .i64 0)::.junk::.junk::.d (.int .i64 aN.length)::.d (.int .i64 i)::jn 10 []),[.box [.d (.int .i64 aS),.d (.int .i64 aP),.d (.int .i64 aT),.d (.sl 1 (aN.map eI))]]⟩)
    (fun i=>aN.length - i) (fun i=>i≤aN.length∧bytesOk aN i=true) 0 [0] ⟨by omega,by simp [bytesOk]⟩ ?_ ?_
   ·simp only [go_sem];simp
   ·rintro i ⟨hi,he⟩
    by_cases h1:i < aN.length
    ·have h1':decide ((i:Int) < (aN.length:Int))=true:=dT (by omega)
     have hxi:=map_at eI aN i h1
     have hw:=inc h1 hm
     have hf:=bytesOk_false aN i h1
     simp only [go_sem,lM,tN,hxi,eI,h1']
     refine ⟨⟨by omega,by omega⟩,?_⟩
     refine CallS.inl (inl_ev (n:=6) (rs:=[.tmp 2]) Tryz.func147 rfl Tryz.call147 Tryz.checked.mixed rfl rfl ?_)
     simp only [go_sem]
     refine CallS.intro (impl_within aN[i] 0 255) ?_
     simp only [go_sem]
     refine cSplit (fun h2=>?_) (fun h2=>?_)
     ·have:=hf (by simpa using h2)
      have h3:decide ((0:Int)≤i)=true:=dT (by omega)
      simp only [go_sem,h3]
      simp [isRing,this]
     ·have h3:inB aN[i] 0 255=true:=by simpa using h2
      simp only [go_sem,hw]
      refine RoundE.intro (i + 1) [0] ⟨by omega,bytesOk_take h1 he h3⟩ (by omega) ?_
      simp only [go_sem];simp
    ·have h1':decide ((i:Int) < (aN.length:Int))=false:=dF (by omega)
     obtain rfl:i=aN.length:=by omega
     have h3:decide ((0:Int)≤-1)=false:=by decide
     simp only [go_sem,h1']
     have hq:isRingH (⟨aS,aP,aT,aN⟩:TRing)=(isQ aP && inB aT aP (minI (IntKind.i64.wrap (aP + aS)) 4611686018427387903)):=by
      rw [Bool.eq_iff_iff]
      simp only [isRingH,isQ,inB,minI,e1,Bool.true_and,Bool.and_eq_true,decide_eq_true_eq]
      by_cases hb0:0≤aP∧aP≤4611686018427387903
      ·rw [w64 (n:=aP + aS) (by omega) (by omega)]
       constructor
       ·rintro ⟨⟨⟨⟨_,h2⟩,h3⟩,h4⟩,h5⟩
        rw [w64 (n:=aT - aP) (by omega) (by omega)] at h4
        refine ⟨hb0,h3,dT ?_⟩
        split<;>omega
       ·rintro ⟨_,h3,h4⟩
        have h4:=oT h4
        have:aT≤aP + aS∧aT≤4611686018427387903:=by split at h4<;>omega
        rw [w64 (n:=aT - aP) (by omega) (by omega)]
        omega
      ·constructor
       ·rintro ⟨⟨⟨⟨_,h2⟩,h3⟩,h4⟩,h5⟩;omega
       ·rintro ⟨h,_⟩;exact absurd h hb0
     try simp only [go_sem,lM,e1,e2]
     repeat' ((first|refine CallS.intro (by first|apply impl_isRingSize|apply impl_isQuic) ?_|refine CallK.intro (by apply impl_within) ?_|with_reducible refine gFalseS ?_|refine gSymS ?_)<;>simp only [go_sem])
     all_goals (simp only [isRing,he,Bool.and_true,hq,minI];simp)
def roomOf (r:TRing):Int:=if isRing r then minI (r.size - (r.end' - r.base)) (4611686018427387903 - r.end') else 0
theorem spec_RoomOf (aS aP aT:Int) (aN:List Int):PureCall Tryz.prog 217 [.agg [.int .i64 aS,.int .i64 aP,.int .i64 aT,.sl 1 (aN.map eI)]] [.one (.int .i64 (roomOf (⟨aS,aP,aT,aN⟩:TRing)))]:=by
 refine pureT 18 Tryz.func217 Tryz.call217 [.tmp 2] ?_
 intro _
 cases hI:isRing (⟨aS,aP,aT,aN⟩:TRing) with
 |false=>
  try simp only [go_sem]
  repeat' (refine CallS.intro (by apply spec_IsRing) ?_<;>simp only [go_sem,hI])
  all_goals simp [roomOf,hI]
 |true=>
  obtain ⟨h1,h2,h3,h4,h5,h6,h7,h8,h9⟩:=isRing_iff hI
  simp only at h1 h2 h3 h4 h5 h6 h7
  have w1:IntKind.i64.wrap (aT - aP)=aT - aP:=by rw [w64]<;>omega
  have w2:IntKind.i64.wrap (aS - (aT - aP))=aS - (aT - aP):=by rw [w64]<;>omega
  have w3:IntKind.i64.wrap (4611686018427387903 - aT)=4611686018427387903 - aT:=by rw [w64]<;>omega
  try simp only [go_sem]
  repeat' (refine CallS.intro (by apply spec_IsRing) ?_<;>simp only [go_sem,hI,w1,w2,w3])
  all_goals simp [roomOf,hI,minI]
def newRing (n:Int):TRing:=if isRS n then ⟨n,0,0,List.replicate n.toNat 0⟩ else ⟨0,0,0,[]⟩
theorem spec_NewRing (n:Int):PureCall Tryz.prog 216 [.one (.int .i64 n)] [.agg [.int .i64 (newRing n).size,.int .i64 (newRing n).base,.int .i64 (newRing n).end',.sl 1 ((newRing n).cells.map eI)],.one (.bool (isRS n))]:=by
 refine pureT 12 Tryz.func216 Tryz.call216 [.cell 2 43,.tmp 3] ?_
 intro _
 cases hI:isRS n with
 |false=>
  try simp only [go_sem]
  repeat' (refine CallS.intro (by apply spec_l8Power) ?_<;>simp only [go_sem,hI])
  all_goals simp [newRing,hI]
 |true=>
  have hn:=isRS_iff hI
  try simp only [go_sem]
  repeat' (first|(refine CallS.intro (by apply spec_l8Power) ?_<;>simp only [go_sem,hI])|(with_reducible refine sideI ?_)|fail)
  all_goals simp [newRing,hI,eI]
def wrS (cs:List Int) (e sz:Int) (d:List UInt8):Nat→List Int
 |0=>cs
 |k + 1=>(wrS cs e sz d k).set ((e + (k:Int)).tmod sz).toNat ((d[k]?.getD 0).toNat:Int)
theorem wrS_len (cs:List Int) (e sz:Int) (d:List UInt8):∀ k,(wrS cs e sz d k).length=cs.length
 |0=>rfl
 |k + 1=>by rw [wrS,List.length_set,wrS_len cs e sz d k]
def wrN (r:TRing) (d:List UInt8):Nat:=(minI (roomOf r) d.length).toNat
def writeR (r:TRing) (d:List UInt8):TRing:=⟨r.size,r.base,IntKind.i64.wrap (r.end' + (wrN r d:Int)),wrS r.cells r.end' r.size d (wrN r d)⟩
theorem roomOf_in (r:TRing):0≤roomOf r∧(0 < roomOf r→isRing r=true∧roomOf r≤r.size - (r.end' - r.base)∧r.end' + roomOf r≤4611686018427387903):=by
 unfold roomOf minI
 split
 ·rename_i h
  obtain ⟨h1,h2,h3,h4,h5,h6,h7,h8,h9⟩:=isRing_iff h
  split<;>exact ⟨by omega,fun _=>⟨h,by omega,by omega⟩⟩
 ·exact ⟨by omega,fun g=>by omega⟩
theorem wbyte (b:UInt8):IntKind.i64.wrap ((b.toNat:Nat):Int)=((b.toNat:Nat):Int):=by
 have:=b.toNat_lt
 rw [w64]<;>omega
set_option maxHeartbeats 1000000 in
theorem spec_WriteRing (aS aP aT:Int) (aN:List Int) (d:List UInt8) (hc:aN.length≤8388608) (hd:d.length≤1048576):PureCall Tryz.prog 185 [.agg [.int .i64 aS,.int .i64 aP,.int .i64 aT,.sl 1 (aN.map eI)],.one (.str d)] [.agg [.int .i64 (writeR (⟨aS,aP,aT,aN⟩:TRing) d).size,.int .i64 (writeR (⟨aS,aP,aT,aN⟩:TRing) d).base,.int .i64 (writeR (⟨aS,aP,aT,aN⟩:TRing) d).end',.sl 1 ((writeR (⟨aS,aP,aT,aN⟩:TRing) d).cells.map eI)],.one (.int .i64 ((wrN (⟨aS,aP,aT,aN⟩:TRing) d:Int)))]:=by
 refine pureT 42 Tryz.func185 Tryz.call185 [.cell 4 43,.tmp 5] ?_
 intro ok
 have hr:=roomOf_in (⟨aS,aP,aT,aN⟩:TRing)
 have hN:(wrN (⟨aS,aP,aT,aN⟩:TRing) d:Int)=minI (roomOf (⟨aS,aP,aT,aN⟩:TRing)) d.length:=by unfold wrN minI;split<;>omega
 have hND:wrN (⟨aS,aP,aT,aN⟩:TRing) d≤d.length:=by have:=hN;unfold minI at this;split at this<;>omega
 have hNR:(wrN (⟨aS,aP,aT,aN⟩:TRing) d:Int)≤roomOf (⟨aS,aP,aT,aN⟩:TRing):=by have:=hN;unfold minI at this;split at this<;>omega
 generalize hn:wrN (⟨aS,aP,aT,aN⟩:TRing) d=n at *
 have hmn:(if ((d.length:Nat):Int) < roomOf (⟨aS,aP,aT,aN⟩:TRing) then ((d.length:Nat):Int) else roomOf (⟨aS,aP,aT,aN⟩:TRing))=(n:Int):=by rw [hN];rfl
 try simp only [go_sem]
 repeat' (refine CallS.intro (by first|(apply spec_l8Copy<;>first|assumption|omega)|apply spec_RoomOf) ?_<;>simp only [go_sem,lM,hmn])
 refine LoopK.intro (fun k:Nat=>⟨(.junk::.d (.str d)::.ptr 0 0 0::.junk::.ptr 1 0 0::.d (.int .i64 0)::.ptr 3 0 0::.d (.int .i64 n)::.d (.int .i64 k)::jn 33 []),[.box [.d (.int .i64 aS),.d (.int .i64 aP),.d (.int .i64 aT),.d (.sl 1 (aN.map eI))],.box [.d (.int .i64 0),.d (.int .i64 0),.d (.int .i64 0),.nils 1],.arr 1 ((wrS aN aT aS d k).map eI) true,.box [.d (.int .i64 aS),.d (.int .i64 aP),.d (.int .i64 aT),.sl 2 0 aN.length]]⟩)
  (fun k=>n - k) (fun k=>k≤n) 0 [0,1,2,3] (by omega) ?_ ?_
 ·simp only [go_sem]
  simp [wrS]
 ·intro k hk
  by_cases h1:k < n
  ·have h1':decide ((k:Int) < (n:Int))=true:=dT (by omega)
   obtain ⟨hI,hs1,hs2⟩:=hr.2 (by omega)
   obtain ⟨g1,g2,g3,g4,g5,g6,g7,g8,g9⟩:=isRing_iff hI
   simp only at g1 g2 g3 g4 g5 g6 g7 hs1 hs2
   have hw:=inc (i:=k) (m:=d.length) (by omega) (by simp only [maxLen];omega)
   have w1:IntKind.i64.wrap (aT + (k:Int))=aT + (k:Int):=by rw [w64]<;>omega
   have t1:=Int.tmod_nonneg aS (show (0:Int)≤aT + (k:Int) by omega)
   have t2:=Int.tmod_lt_of_pos (aT + (k:Int)) (show 0 < aS by omega)
   have hl:=wrS_len aN aT aS d k
   obtain ⟨j,tj⟩:=Int.eq_ofNat_of_zero_le t1
   rw [tj] at t2
   have hj:j < (wrS aN aT aS d k).length:=by omega
   have hgj:=map_at eI _ j hj
   have hst:wrS aN aT aS d (k + 1)=(wrS aN aT aS d k).set j ((d[k]?.getD 0).toNat:Int):=by rw [wrS,tj,tN]
   try simp only [go_sem,h1']
   repeat' (first|(refine drawE_intro mxRing0 (by kernel_rfl) (by rfl) ?_<;>simp only [go_sem,lM,tN,w1,tj,hgj,eI,wbyte,Option.getD_some])|(with_reducible refine sideI ?_)|fail)
   all_goals (first|(refine ⟨⟨hj,by simp,by simp⟩,?_⟩)|skip)
   all_goals (refine RoundE.intro (k + 1) [0,1,2,3] (by omega) (by omega) ?_;simp only [go_sem,hw,hst];simp [eI])
  ·have h1':decide ((k:Int) < (n:Int))=false:=dF (by omega)
   obtain rfl:k=n:=by omega
   try simp only [go_sem,lM,h1']
   all_goals simp [outOA,writeR,hn,wrS_len,List.take_of_length_le]
def drS (cs:List Int) (b sz:Int):Nat→List Int
 |0=>cs
 |k + 1=>(drS cs b sz k).set ((b + (k:Int)).tmod sz).toNat 0
theorem drS_len (cs:List Int) (b sz:Int):∀ k,(drS cs b sz k).length=cs.length
 |0=>rfl
 |k + 1=>by rw [drS,List.length_set,drS_len cs b sz k]
def dropOk (r:TRing) (t:Int):Bool:=isRing r && decide (r.base≤t) && decide (t≤r.end')
def dropR (r:TRing) (t:Int):TRing:=if dropOk r t then ⟨r.size,t,r.end',drS r.cells r.base r.size (t - r.base).toNat⟩ else r
set_option maxHeartbeats 1000000 in
theorem spec_DropRing (aS aP aT:Int) (aN:List Int) (t:Int) (hc:aN.length≤8388608):PureCall Tryz.prog 243 [.agg [.int .i64 aS,.int .i64 aP,.int .i64 aT,.sl 1 (aN.map eI)],.one (.int .i64 t)] [.agg [.int .i64 (dropR (⟨aS,aP,aT,aN⟩:TRing) t).size,.int .i64 (dropR (⟨aS,aP,aT,aN⟩:TRing) t).base,.int .i64 (dropR (⟨aS,aP,aT,aN⟩:TRing) t).end',.sl 1 ((dropR (⟨aS,aP,aT,aN⟩:TRing) t).cells.map eI)],.one (.bool (dropOk (⟨aS,aP,aT,aN⟩:TRing) t))]:=by
 refine pureT 43 Tryz.func243 Tryz.call243 [.cell 4 43,.tmp 5] ?_
 intro ok
 cases hD:dropOk (⟨aS,aP,aT,aN⟩:TRing) t with
 |false=>
  try simp only [go_sem]
  repeat' ((first|refine CallS.intro (by first|(apply spec_l8Copy<;>first|assumption|omega)|apply spec_IsRing) ?_|refine gSymS ?_)<;>simp only [go_sem,lM])
  refine cSplit (fun h0=>?_) (fun h0=>?_)
  ·simp only [go_sem,lM]
   simp [dropR,hD]
  ·exfalso
   simp [dropOk] at hD h0
   grind
 |true=>
  have hI:isRing (⟨aS,aP,aT,aN⟩:TRing)=true∧aP≤t∧t≤aT:=by
   simp only [dropOk,Bool.and_eq_true,decide_eq_true_eq,and_assoc] at hD;exact hD
  obtain ⟨hI,hb,he⟩:=hI
  obtain ⟨g1,g2,g3,g4,g5,g6,g7,g8,g9⟩:=isRing_iff hI
  simp only at g1 g2 g3 g4 g5 g6 g7
  have e1:decide (t < aP)=false:=dF (by omega)
  have e2:decide (aT < t)=false:=dF (by omega)
  try simp only [go_sem]
  repeat' ((first|refine CallS.intro (by first|(apply spec_l8Copy<;>first|assumption|omega)|apply spec_IsRing) ?_|with_reducible refine gTrueS ?_)<;>simp only [go_sem,lM,hI,e1,e2])
  refine LoopK.intro (fun k:Nat=>⟨(.junk::.d (.int .i64 t)::.ptr 0 0 0::.junk::.ptr 1 0 0::.d (.bool false)::.ptr 3 0 0::.d (.int .i64 (aP + (k:Int)))::jn 35 []),[.box [.d (.int .i64 aS),.d (.int .i64 aP),.d (.int .i64 aT),.d (.sl 1 (aN.map eI))],.box [.d (.int .i64 0),.d (.int .i64 0),.d (.int .i64 0),.nils 1],.arr 1 ((drS aN aP aS k).map eI) true,.box [.d (.int .i64 aS),.d (.int .i64 aP),.d (.int .i64 aT),.sl 2 0 aN.length]]⟩)
   (fun k=>(t - aP).toNat - k) (fun k=>(k:Int)≤t - aP) 0 [0,1,2,3] (by omega) ?_ ?_
  ·simp only [go_sem]
   simp [drS]
  ·intro k hk
   by_cases h1:(k:Int) < t - aP
   ·have h1':decide (aP + (k:Int) < t)=true:=dT (by omega)
    have hw:IntKind.i64.wrap (aP + (k:Int) + 1)=aP + ((k + 1:Nat):Int):=by rw [w64]<;>omega
    have t1:=Int.tmod_nonneg aS (show (0:Int)≤aP + (k:Int) by omega)
    have t2:=Int.tmod_lt_of_pos (aP + (k:Int)) (show 0 < aS by omega)
    have hl:=drS_len aN aP aS k
    obtain ⟨j,tj⟩:=Int.eq_ofNat_of_zero_le t1
    rw [tj] at t2
    have hj:j < (drS aN aP aS k).length:=by omega
    have hgj:=map_at eI _ j hj
    have hst:drS aN aP aS (k + 1)=(drS aN aP aS k).set j 0:=by rw [drS,tj,tN]
    try simp only [go_sem,h1']
    repeat' (first|(refine drawE_intro mxRing1 (by kernel_rfl) (by rfl) ?_<;>simp only [go_sem,lM,tN,tj,hgj,eI,Option.getD_some])|(with_reducible refine sideI ?_)|fail)
    all_goals (first|(refine ⟨⟨hj,by simp,by simp⟩,?_⟩)|skip)
    all_goals (refine RoundE.intro (k + 1) [0,1,2,3] (by omega) (by omega) ?_;simp only [go_sem,hw,hst];simp [eI])
   ·have h1':decide (aP + (k:Int) < t)=false:=dF (by omega)
    have hk2:(t - aP).toNat=k:=by omega
    try simp only [go_sem,lM,h1']
    all_goals simp [outOA,dropR,hD,hk2,drS_len,List.take_of_length_le]
def peekOk (r:TRing) (o n:Int):Bool:=isRing r && decide (r.base≤o) && decide (0≤n) && decide (o≤r.end') && decide (n≤IntKind.i64.wrap (r.end' - o))
def pkS (r:TRing) (o:Int) (k:Nat):List UInt8:=(List.range k).map fun j=>byI (r.cells[((o + (j:Nat)).tmod r.size).toNat]?.getD 0)
def peekR (r:TRing) (o n:Int):List UInt8:=if peekOk r o n then pkS r o n.toNat else []
theorem pkS_succ (r:TRing) (o:Int) (k:Nat):pkS r o (k + 1)=pkS r o k++[byI (r.cells[((o + (k:Nat)).tmod r.size).toNat]?.getD 0)]:=by
 simp [pkS,List.range_succ]
theorem pkS_len (r:TRing) (o:Int) (k:Nat):(pkS r o k).length=k:=by simp [pkS]
set_option maxHeartbeats 1000000 in
theorem spec_PeekRing (aS aP aT:Int) (aN:List Int) (o n:Int):PureCall Tryz.prog 247 [.agg [.int .i64 aS,.int .i64 aP,.int .i64 aT,.sl 1 (aN.map eI)],.one (.int .i64 o),.one (.int .i64 n)] [.one (.str (peekR (⟨aS,aP,aT,aN⟩:TRing) o n)),.one (.bool (peekOk (⟨aS,aP,aT,aN⟩:TRing) o n))]:=by
 refine pureT 56 Tryz.func247 Tryz.call247 [.tmp 6,.tmp 7] ?_
 intro ok
 cases hD:peekOk (⟨aS,aP,aT,aN⟩:TRing) o n with
 |false=>
  try simp only [go_sem]
  repeat' ((first|refine CallS.intro (by apply spec_IsRing) ?_|refine gSymS ?_)<;>simp only [go_sem])
  refine cSplit (fun h0=>?_) (fun h0=>?_)
  ·simp only [go_sem]
   simp [peekR,hD]
  ·exfalso
   simp [peekOk] at hD h0
   grind
 |true=>
  have hI:isRing (⟨aS,aP,aT,aN⟩:TRing)=true∧aP≤o∧0≤n∧o≤aT∧n≤IntKind.i64.wrap (aT - o):=by
   simp only [peekOk,Bool.and_eq_true,decide_eq_true_eq,and_assoc] at hD;exact hD
  obtain ⟨hI,hb,hn0,he,hn⟩:=hI
  obtain ⟨g1,g2,g3,g4,g5,g6,g7,g8,g9⟩:=isRing_iff hI
  simp only at g1 g2 g3 g4 g5 g6 g7 g9
  have e1:decide (o < aP)=false:=dF (by omega)
  have e2:decide (aT < o)=false:=dF (by omega)
  have e3:decide (n < 0)=false:=dF (by omega)
  have e4:decide (IntKind.i64.wrap (aT - o) < n)=false:=dF (by omega)
  rw [w64 (n:=aT - o) (by omega) (by omega)] at hn
  obtain ⟨m,rfl⟩:=Int.eq_ofNat_of_zero_le hn0
  try simp only [go_sem]
  repeat' ((first|refine CallS.intro (by apply spec_IsRing) ?_|with_reducible refine gTrueS ?_)<;>simp only [go_sem,hI,e1,e2,e3,e4])
  refine LoopK.intro (fun k:Nat=>⟨(.junk::.d (.int .i64 o)::.d (.int .i64 m)::.ptr 0 0 0::.junk::.junk::.d (.str [])::.d (.bool false)::.d (.str (pkS (⟨aS,aP,aT,aN⟩:TRing) o k))::.d (.int .i64 k)::jn 46 []),[.box [.d (.int .i64 aS),.d (.int .i64 aP),.d (.int .i64 aT),.d (.sl 1 (aN.map eI))]]⟩)
   (fun k=>m - k) (fun k=>k≤m) 0 [0] (by omega) ?_ ?_
  ·simp only [go_sem]
   simp [pkS]
  ·intro k hk
   by_cases h1:k < m
   ·have h1':decide ((k:Int) < (m:Int))=true:=dT (by omega)
    have hw:=inc (i:=k) (m:=100) (by omega) (by simp [maxLen])
    have w1:IntKind.i64.wrap (o + (k:Int))=o + (k:Int):=by rw [w64]<;>omega
    have t1:=Int.tmod_nonneg aS (show (0:Int)≤o + (k:Int) by omega)
    have t2:=Int.tmod_lt_of_pos (o + (k:Int)) (show 0 < aS by omega)
    obtain ⟨j,tj⟩:=Int.eq_ofNat_of_zero_le t1
    rw [tj] at t2
    have hj:j < aN.length:=by omega
    have hgj:=map_at eI _ j hj
    have hpl:=pkS_len (⟨aS,aP,aT,aN⟩:TRing) o k
    have hst:pkS (⟨aS,aP,aT,aN⟩:TRing) o (k + 1)=pkS (⟨aS,aP,aT,aN⟩:TRing) o k++[byI aN[j]]:=by rw [pkS_succ];simp only [tj,tN,gE hj,Option.getD_some]
    have f1:=spec_l2Byte_one aN[j] (g9 j hj)
    try simp only [go_sem,h1']
    repeat' (first|((first|refine CallS.intro (by assumption) ?_|refine CallK.intro (by assumption) ?_|refine drawE_intro mxRing2 (by kernel_rfl) (by rfl) ?_)<;>simp only [go_sem,lM,tN,w1,tj,hgj,eI,Option.getD_some])|(with_reducible refine sideI ?_)|fail)
    all_goals (refine RoundE.intro (k + 1) [0] (by omega) (by omega) ?_;simp only [go_sem,hw,hst];simp)
   ·have h1':decide ((k:Int) < (m:Int))=false:=dF (by omega)
    obtain rfl:k=m:=by omega
    try simp only [go_sem,h1']
    all_goals simp [peekR,hD]
def sndC:Code→Code
 |.seq _ b=>b
 |c=>c
def restC:Nat→Code→Code
 |0,c=>c
 |k + 1,c=>restC k (sndC c)
def bodyOf (f:Func):Code:=f.body.getD .skip
theorem cutK {P:Program} {kv:List V} {a b:Code} {σ:St} {K:St→Prop} {X:List (Nat×(St→Prop))} {Rt:St→Prop} (h:∀ K':St→Prop,(∀ σ',codeE P kv b σ' K X Rt→K' σ')→codeE P kv a σ K' X Rt):codeE P kv (.seq a b) σ K X Rt:=by
 rw [codeE_seq]
 exact h _ fun _ g=>g
def insR:List TRange→TRange→List TRange
 |[],r=>[r]
 |x::xs,r=>if x.high < r.low then x::insR xs r else if r.high < x.low then r::x::xs else insR xs ⟨minI r.low x.low,maxI r.high x.high⟩
def finS (s:List TRange×Bool×TRange):List TRange:=if s.2.1=true then s.1 else s.1++[s.2.2]
theorem arS_foldl (xs:List TRange) (r:TRange):∀ i,i≤xs.length→arS xs r i=(xs.take i).foldl arStep ([],false,r)
 |0,_=>rfl
 |i + 1,h=>by rw [arS_step xs r i (by omega),arS_foldl xs r i (by omega),foldl_take arStep _ xs i (by omega)]
theorem step_placed {r:TRange} (hr:rOk r=true):∀ (xs out:List TRange),(∀ x ∈ xs,rOk x=true∧r.high < x.low)→xs.foldl arStep (out,true,r)=(out++xs,true,r)
 |[],out,_=>by simp
 |x::xs,out,h=>by
  have h1:=h x (by simp)
  have h2:=(rOk_iff _).1 h1.1
  have h3:=(rOk_iff _).1 hr
  have e:arStep (out,true,r) x=(out++[x],true,r):=by
   unfold arStep
   rw [if_neg (show ¬ x.high < r.low by omega),if_pos h1.2];simp
  rw [List.foldl_cons,e,step_placed hr xs _ (fun y hy=>h y (by simp [hy])),List.append_assoc];rfl
theorem step_ins:∀ (xs out:List TRange) (r:TRange),(∀ x ∈ xs,rOk x=true)→xs.Pairwise (fun a b=>a.high < b.low)→rOk r=true→finS (xs.foldl arStep (out,false,r))=out++insR xs r
 |[],out,r,_,_,_=>by simp [finS,insR]
 |x::xs,out,r,h1,h2,hr=>by
  have hx:=(rOk_iff _).1 (h1 x (by simp))
  have hr':=(rOk_iff _).1 hr
  have h2':=List.pairwise_cons.1 h2
  rw [List.foldl_cons,insR]
  by_cases c1:x.high < r.low
  ·have e:arStep (out,false,r) x=(out++[x],false,r):=by unfold arStep;rw [if_pos c1]
   rw [e,if_pos c1,step_ins xs _ r (fun y hy=>h1 y (by simp [hy])) h2'.2 hr,List.append_assoc];rfl
  ·by_cases c2:r.high < x.low
   ·have e:arStep (out,false,r) x=(out++[r]++[x],true,r):=by unfold arStep;rw [if_neg c1,if_pos c2];simp
    rw [e,if_neg c1,if_pos c2,step_placed hr xs _ (fun y hy=>⟨h1 y (by simp [hy]),by have:=h2'.1 y hy;omega⟩)]
    simp [finS]
   ·have e:arStep (out,false,r) x=(out,false,⟨minI r.low x.low,maxI r.high x.high⟩):=by unfold arStep;rw [if_neg c1,if_neg c2]
    have hm:rOk ⟨minI r.low x.low,maxI r.high x.high⟩=true:=by
     rw [rOk_iff];simp only [minI,maxI];refine ⟨?_,?_,?_⟩<;>(repeat' split)<;>omega
    rw [e,if_neg c1,if_neg c2]
    exact step_ins xs out _ (fun y hy=>h1 y (by simp [hy])) h2'.2 hm
theorem addR_ins {xs:List TRange} {r:TRange} (h:areR xs=true) (hr:rOk r=true):addR xs r=insR xs r:=by
 have h1:=(areR_iff xs).1 h
 have h2:=step_ins xs [] r h1.1 h1.2 hr
 have h3:=arS_foldl xs r xs.length (Nat.le_refl _)
 rw [tL] at h3
 unfold addR
 rw [h,hr,h3]
 simp only
 exact h2
theorem insR_low {B:Int}:∀ (xs:List TRange) (r:TRange),B < r.low→(∀ x ∈ xs,B < x.low)→∀ y ∈ insR xs r,B < y.low
 |[],r,hr,_,y,hy=>by simp only [insR,List.mem_singleton] at hy;rw [hy];exact hr
 |x::xs,r,hr,hx,y,hy=>by
  rw [insR] at hy
  split at hy
  ·rcases List.mem_cons.1 hy with rfl|hy
   ·exact hx _ (by simp)
   ·exact insR_low xs r hr (fun z hz=>hx z (by simp [hz])) y hy
  ·split at hy
   ·rcases List.mem_cons.1 hy with rfl|hy
    ·exact hr
    ·exact hx y hy
   ·refine insR_low xs _ ?_ (fun z hz=>hx z (by simp [hz])) y hy
    have:=hx x (by simp)
    simp only [minI];split<;>omega
theorem insR_ok:∀ (xs:List TRange) (r:TRange),(∀ x ∈ xs,rOk x=true)→xs.Pairwise (fun a b=>a.high < b.low)→rOk r=true→(∀ x ∈ insR xs r,rOk x=true)∧(insR xs r).Pairwise (fun a b=>a.high < b.low)
 |[],r,_,_,hr=>by simp [insR,hr]
 |x::xs,r,h1,h2,hr=>by
  have hx:=(rOk_iff _).1 (h1 x (by simp))
  have hr':=(rOk_iff _).1 hr
  have h2':=List.pairwise_cons.1 h2
  have hxs:∀ y ∈ xs,rOk y=true:=fun y hy=>h1 y (by simp [hy])
  rw [insR]
  split
  ·rename_i c1
   obtain ⟨g1,g2⟩:=insR_ok xs r hxs h2'.2 hr
   refine ⟨fun y hy=>?_,List.pairwise_cons.2 ⟨fun y hy=>insR_low xs r c1 h2'.1 y hy,g2⟩⟩
   rcases List.mem_cons.1 hy with rfl|hy
   ·exact h1 _ (by simp)
   ·exact g1 y hy
  ·split
   ·rename_i c1 c2
    refine ⟨fun y hy=>?_,List.pairwise_cons.2 ⟨fun y hy=>?_,h2⟩⟩
    ·rcases List.mem_cons.1 hy with rfl|hy
     ·exact hr
     ·exact h1 y hy
    ·rcases List.mem_cons.1 hy with rfl|hy
     ·exact c2
     ·have:=h2'.1 y hy;omega
   ·refine insR_ok xs _ hxs h2'.2 ?_
    rw [rOk_iff];simp only [minI,maxI];refine ⟨?_,?_,?_⟩<;>(repeat' split)<;>omega
theorem insR_ne:∀ (xs:List TRange) (r:TRange),insR xs r≠[]
 |[],r=>by simp [insR]
 |x::xs,r=>by
  rw [insR]
  split
  ·simp
  ·split
   ·simp
   ·exact insR_ne xs _
theorem areR_addR {xs:List TRange} {r:TRange} (h:areR xs=true) (hr:rOk r=true):areR (addR xs r)=true:=by
 rw [addR_ins h hr,areR_iff]
 have h1:=(areR_iff xs).1 h
 exact insR_ok xs r h1.1 h1.2 hr
theorem addR_ne {xs:List TRange} {r:TRange} (h:areR xs=true) (hr:rOk r=true):addR xs r≠[]:=by rw [addR_ins h hr];exact insR_ne _ _
def foldA (xs ys:List TRange):List TRange:=ys.foldl addR xs
theorem foldA_len:∀ (ys xs:List TRange),(foldA xs ys).length≤xs.length + ys.length
 |[],xs=>by simp [foldA]
 |y::ys,xs=>by
  have h1:=foldA_len ys (addR xs y)
  have h2:=addR_len xs y
  have e:foldA xs (y::ys)=foldA (addR xs y) ys:=rfl
  rw [e,List.length_cons];omega
theorem foldA_take (xs ys:List TRange) (i:Nat) (h:i < ys.length):foldA xs (ys.take (i + 1))=addR (foldA xs (ys.take i)) ys[i]:=foldl_take addR xs ys i h
theorem areR_foldA:∀ (ys xs:List TRange),areR xs=true→(∀ y ∈ ys,rOk y=true)→areR (foldA xs ys)=true∧(ys≠[]∨xs≠[]→foldA xs ys≠[])
 |[],xs,h,_=>⟨h,fun g=>by rcases g with g|g;exact absurd rfl g;exact g⟩
 |y::ys,xs,h,hy=>by
  have h1:=areR_addR h (hy y (by simp))
  have h2:=addR_ne h (hy y (by simp))
  have h3:=areR_foldA ys (addR xs y) h1 (fun z hz=>hy z (by simp [hz]))
  exact ⟨h3.1,fun _=>h3.2 (.inr h2)⟩
theorem foldA_ne {p f a X:List TRange} (hp:areR p=true) (hf:areR f=true) (ha:areR a=true) (h:f≠[]∨a≠[]) (hX:X=foldA (foldA p f) a):X≠[]:=by
 have h1:=areR_foldA f p hp ((areR_iff f).1 hf).1
 have h2:=areR_foldA a _ h1.1 ((areR_iff a).1 ha).1
 rw [hX]
 rcases h with h|h
 ·exact h2.2 (.inr (h1.2 (.inl h)))
 ·exact h2.2 (.inl h)
def hi0 (xs:List TRange):Int:=(xs[0]?.getD (⟨0,0⟩:TRange)).high
/-- Ranges within an end that count as many numbers as lie below it are one range. -/
theorem cnt_full {xs:List TRange} {E:Int} (h:areR xs=true) (hE:∀ x ∈ xs,x.high≤E) (hc:cntR xs=E) (hp:0 < E):hi0 xs=E:=by
 unfold cntR at hc
 rw [if_pos h] at hc
 cases hl:xs.length with
 |zero=>rw [List.length_eq_zero_iff.1 hl] at hc;simp [cntN] at hc;omega
 |succ n=>
  have hi:n < xs.length:=by omega
  have h1:=cntN_take h n hi
  have h2:=foldl_take (fun (n:Int) (r:TRange)=>n + (r.high - r.low)) 0 xs n hi
  have e:cntN xs=cntN (xs.take n) + (xs[n].high - xs[n].low):=by
   rw [← hl,tL] at h2;exact h2
  have h4:=hE _ (List.getElem_mem hi)
  cases n with
  |zero=>
   simp only [List.take_zero,cntN,List.foldl_nil] at e h1
   have h5:=(rOk_iff _).1 (((areR_iff xs).1 h).1 _ (List.getElem_mem hi))
   unfold hi0
   rw [gE hi,Option.getD_some]
   simp only [cntN] at hc e
   omega
  |succ m=>
   exfalso
   have hm:m < xs.length:=by omega
   have h5:=cntN_take h m hm
   have h6:cntN (xs.take (m + 1))=cntN (xs.take m) + (xs[m].high - xs[m].low):=foldl_take _ _ _ _ _
   have h7:=(List.pairwise_iff_getElem.1 ((areR_iff xs).1 h).2) m (m + 1) hm hi (by omega)
   omega
set_option maxRecDepth 100000
def mxSndT0:List (List Rl):=mxD 12 [522584,522582,522576,522679,522625,522450,502281,530347,525973,512487,472392,354294]
def mxSndT1:List (List Rl):=mxD 43 [328256967394537077509,328256967394537077507,328256967394537077622,328256967394537077604,328256967394537077550,328256967394537077384,328256967394537076898,328256967394536990147,328256967394537073253,328256967394537060131,328256967394537020765,328256967394536900480,328256967394536546186,328256967394535483304,328256967394532294658,328256967394522728720,328256967394494030906,328256967394407937464,328256967394149657138,328256966169513491409,328256966167188968475,328256966160215399673,328256966139294693267,328256967346884357480,328256967158597999826,328256966593738926864,328256964852671249298,328256959768939592640,328256944517744622666,328256898764159712744,328184493716039761179,328184081933775571881,328182846586983003987,328254084918687752541,328242966797554641495,328209612434155308357,328106872759240078506,327806683488646080264,326906115676864085538,324204412241518101360,316099301935480148826,291783971017366291224,218837978263024718418]
def mxSndT2:List (List Rl):=mxD 9 [16757,16755,16762,16740,16686,16524,19318,17860,13122]
def mxSndT3:List (List Rl):=mxD 6 [692,690,724,706,648,486]
attribute [go_sem] mxSndT0 mxSndT1 mxSndT2 mxSndT3
def stOf (s:TSender):Int:=
 if s.fin=3∧s.ring.base=s.ring.end' then 3
 else if 1 < s.fin∨(s.fin=1∧s.state=2) then 2
 else if 0 < s.sent∨(s.fin=1∧s.state=1) then 1 else 0
theorem spec_l9State (aF aK aL aI:Int) (aE:List Int) (aB aA aC:List TRange) (aJ aG aD aM:Int):PureCall Tryz.prog 120 [.agg [.int .i64 aF,.int .i64 aK,.int .i64 aL,.int .i64 aI,.sl 1 (aE.map eI),.sl 2 (aB.map TRange.enc),.sl 2 (aA.map TRange.enc),.sl 2 (aC.map TRange.enc),.int .i64 aJ,.int .i64 aG,.int .i64 aD,.int .i64 aM]] [.one (.int .i64 (stOf (⟨aF,⟨aK,aL,aI,aE⟩,aB,aA,aC,aJ,aG,aD,aM⟩:TSender)))]:=by
 refine pureT 44 Tryz.func120 Tryz.call120 [.tmp 2] ?_
 intro _
 try simp only [go_sem]
 repeat' ((first|refine gSymS ?_|refine cSplit (fun h=>?_) (fun h=>?_))<;>simp only [go_sem])
 all_goals (simp at *;simp only [stOf];repeat' split)
 all_goals first|rfl|(exfalso;grind)
def sndHead (s:TSender):Bool:=isRing s.ring && areR s.pending && areR s.flight && areR s.acked && inB s.sent 0 s.ring.end' && isQ s.code && inB s.fin 0 3
def isRst (s:TSender):Bool:=decide (s.state=4) || decide (s.state=5)
def rstOk (s:TSender):Bool:=decide (s.ring.base=s.ring.end') && decide ((s.pending.length:Int)=0) && decide ((s.flight.length:Int)=0) && decide ((s.acked.length:Int)=0) && decide (s.final=s.sent) && decide (s.fin=0) && decide (s.sent=s.ring.end')
def allR (s:TSender):List TRange:=foldA (foldA s.pending s.flight) s.acked
def sumR (s:TSender):Int:=IntKind.i64.wrap (IntKind.i64.wrap (cntR s.pending + cntR s.flight) + cntR s.acked)
def midOk (s:TSender):Bool:=decide (cntR (allR s)=s.ring.end') && decide (sumR s=s.ring.end') && !(decide (0 < s.ring.end') && decide (hi0 (allR s)≠s.ring.end')) && decide (gapR s.acked 0=s.ring.base) && decide (s.code=0)
def below (xs:List TRange) (n:Int):Bool:=xs.all fun r=>decide (r.high≤n)
def finOk (s:TSender):Bool:=(decide (s.fin=0) == decide (s.final=-1)) && !(decide (s.final≠-1) && decide (s.final≠s.ring.end'))
def isSndS (s:TSender):Bool:=sndHead s && (if isRst s then rstOk s else midOk s && below s.flight s.sent && below s.acked s.sent && finOk s && decide (s.state=stOf s))
theorem below_succ (xs:List TRange) (n:Int) (i:Nat) (h:i < xs.length):below (xs.take (i + 1)) n=(below (xs.take i) n && decide (xs[i].high≤n)):=by
 unfold below;rw [List.take_add_one,gE h,Option.toList_some,List.all_append];simp
theorem below_false (xs:List TRange) (n:Int) (i:Nat) (h:i < xs.length) (hb:n < xs[i].high):below xs n=false:=by
 unfold below;rw [List.all_eq_false];exact ⟨xs[i],List.getElem_mem h,by simp;omega⟩
set_option maxHeartbeats 8000000 in
theorem isSender_tail (aF aK aL aI:Int) (aE:List Int) (aB aA aC:List TRange) (aJ aG aD aM:Int) (hm3:aA.length≤maxLen) (hm4:aC.length≤maxLen) (hH:sndHead (⟨aF,⟨aK,aL,aI,aE⟩,aB,aA,aC,aJ,aG,aD,aM⟩:TSender)=true) (hR':isRst (⟨aF,⟨aK,aL,aI,aE⟩,aB,aA,aC,aJ,aG,aD,aM⟩:TSender)=false) (hM:midOk (⟨aF,⟨aK,aL,aI,aE⟩,aB,aA,aC,aJ,aG,aD,aM⟩:TSender)=true) {u0 u3 u4 u5 u6 u7 u8 u9 u10 u11 u12 u13 u14 u15 u16 u17 u18 u19 u20 u21 u22 u23 u24 u25 u26 u27 u28 u29 u30 u31 u32 u33 u34 u35 u36 u37 u38 u39 u40 u41 u42 u43 u44 u45 u46 u47 u48 u49 u50 u51 u52 u53 u54 u55 u56 u57 u58 u59 u60 u61 u62 u63 u64 u65 u66 u67 u68 u69 u70 u71 u72 u73 u74 u75 u76 u77 u78 u79 u80 u81 u82 u83 u84 u85 u86 u87 u88 u89 u90 u91 u92 u93 u94 u95 u96 u97 u98 u99 u100 u101 u102 u103 u104 u105 u106 u107 u108 u109 u110 u111 u112 u113 u114 u115 u116 u117 u118 u119 u120 u121 u122 u123 u124 u125 u126 u127 u128 u129 u130 u131 u132 u133 u134 u135 u136 u137 u138 u139 u140 u141 u142 u143 u144 u145 u146 u147 u148 u149 u150 u151 u152 u153 u154 u155 u156 u157 u158 u159 u160 u161 u162 u163 u164 u165 u166 u167 u168 u169 u170 u171 u172 u173 u174 u175 u176 u177 u178 u179 u180 u181 u182 u183 u184 u185 u186 u187 u188 u189 u190 u191 u192 u193 u194 u195 u196 u197 u198 u199 u200 u201 u202 u203 u204 u205 u206 u207 u208 u209 u210 u211 u212 u213 u214 u215 u216 u217 u218 u219 u220 u221 u222 u223 u224 u225 u226 u227 u228 u229 u230 u231 u232 u233 u234 u235 u236 u237 u238 u239 u240 u241 u242 u243 u244 u245:V} (ex:List H) :
  codeE Tryz.prog [] (restC 8 (bodyOf Tryz.f95)) ⟨[u0,.ptr 0 0 0,.d (.bool false),u3,u4,u5,u6,u7,u8,u9,u10,u11,u12,u13,u14,u15,u16,u17,u18,u19,u20,u21,u22,u23,u24,u25,u26,u27,u28,u29,u30,u31,u32,u33,u34,u35,u36,u37,u38,u39,u40,u41,u42,u43,u44,u45,u46,u47,u48,u49,u50,u51,u52,u53,u54,u55,u56,u57,u58,u59,u60,u61,u62,u63,u64,u65,u66,u67,u68,u69,u70,u71,u72,u73,u74,u75,u76,u77,u78,u79,u80,u81,u82,u83,u84,u85,u86,u87,u88,u89,u90,u91,u92,u93,u94,u95,u96,u97,u98,u99,u100,u101,u102,u103,u104,u105,u106,u107,u108,u109,u110,u111,u112,u113,u114,u115,u116,u117,u118,u119,u120,u121,u122,u123,u124,u125,u126,u127,u128,u129,u130,u131,u132,u133,u134,u135,u136,u137,u138,u139,u140,u141,u142,u143,u144,u145,u146,u147,u148,u149,u150,u151,u152,u153,u154,u155,u156,u157,u158,u159,u160,u161,u162,u163,u164,u165,u166,u167,u168,u169,u170,u171,u172,u173,u174,u175,u176,u177,u178,u179,u180,u181,u182,u183,u184,u185,u186,u187,u188,u189,u190,u191,u192,u193,u194,u195,u196,u197,u198,u199,u200,u201,u202,u203,u204,u205,u206,u207,u208,u209,u210,u211,u212,u213,u214,u215,u216,u217,u218,u219,u220,u221,u222,u223,u224,u225,u226,u227,u228,u229,u230,u231,u232,u233,u234,u235,u236,u237,u238,u239,u240,u241,u242,u243,u244,u245],.box [.d (.int .i64 aF),.d (.int .i64 aK),.d (.int .i64 aL),.d (.int .i64 aI),.d (.sl 1 (aE.map eI)),.d (.sl 2 (aB.map TRange.enc)),.d (.sl 2 (aA.map TRange.enc)),.d (.sl 2 (aC.map TRange.enc)),.d (.int .i64 aJ),.d (.int .i64 aG),.d (.int .i64 aD),.d (.int .i64 aM)]::ex⟩ (hide (retE Tryz.prog [.tmp 2] [.one (.bool (isSndS (⟨aF,⟨aK,aL,aI,aE⟩,aB,aA,aC,aJ,aG,aD,aM⟩:TSender)))]) .mk) [] (hide (retE Tryz.prog [.tmp 2] [.one (.bool (isSndS (⟨aF,⟨aK,aL,aI,aE⟩,aB,aA,aC,aJ,aG,aD,aM⟩:TSender)))]) .mk):=by
 conv=>arg 3;whnf
 simp only [go_sem]
 refine LoopK.intro (fun i:Nat=>⟨(.junk::.ptr 0 0 0::.d (.bool false)::jn 4 (.d (.int .i64 i)::jn 238 [])),[.box [.d (.int .i64 aF),.d (.int .i64 aK),.d (.int .i64 aL),.d (.int .i64 aI),.d (.sl 1 (aE.map eI)),.d (.sl 2 (aB.map TRange.enc)),.d (.sl 2 (aA.map TRange.enc)),.d (.sl 2 (aC.map TRange.enc)),.d (.int .i64 aJ),.d (.int .i64 aG),.d (.int .i64 aD),.d (.int .i64 aM)]]⟩)
  (fun i=>aA.length - i) (fun i=>i≤aA.length∧below (aA.take i) aD=true) 0 [0] ⟨by omega,rfl⟩ ?_ ?_
 ·simp only [go_sem];simp
 ·rintro i ⟨hi,he⟩
  by_cases h1:i < aA.length
  ·have h1':decide ((i:Int) < (aA.length:Int))=true:=dT (by omega)
   have hxi:=map_at TRange.enc aA i h1
   have hw:=inc h1 hm3
   have hs:=below_succ aA aD i h1
   cases e5:decide (aD < aA[i].high) with
   |true=>
    try simp only [go_sem,lM,h1']
    repeat' (first|((first|refine CallK.intro (by first|apply spec_CountNumbers|apply spec_FirstGap) ?_|with_reducible refine gFalse ?_|refine gSym ?_|refine drawE_intro mxSndT0 (by kernel_rfl) (by rfl) ?_|refine drawE_intro mxSndT1 (by kernel_rfl) (by rfl) ?_|refine drawE_intro mxSndT2 (by kernel_rfl) (by rfl) ?_)<;>simp only [go_sem,lM,tN,hxi,TRange.enc,e5])|(with_reducible refine sideI ?_)|fail)
    have:=below_false aA aD i h1 (oT e5)
    simp [isSndS,hR',this]
   |false=>
    have h5:decide (aA[i].high≤aD)=true:=dT (by have:=oF e5;omega)
    try simp only [go_sem,lM,h1']
    repeat' (first|((first|refine CallK.intro (by first|apply spec_CountNumbers|apply spec_FirstGap) ?_|with_reducible refine gTrue ?_|with_reducible refine gFalse ?_|refine gSym ?_|refine drawE_intro mxSndT0 (by kernel_rfl) (by rfl) ?_|refine drawE_intro mxSndT1 (by kernel_rfl) (by rfl) ?_|refine drawE_intro mxSndT2 (by kernel_rfl) (by rfl) ?_)<;>simp only [go_sem,lM,tN,hxi,TRange.enc,e5])|(with_reducible refine sideI ?_)|fail)
    refine RoundE.intro (i + 1) [0] ⟨by omega,by rw [hs,he,h5];rfl⟩ (by omega) ?_
    simp only [go_sem,hw];simp
  ·have h1':decide ((i:Int) < (aA.length:Int))=false:=dF (by omega)
   obtain rfl:i=aA.length:=by omega
   rw [tL] at he
   have hb3:=he
   simp only [go_sem,lM,h1']
   refine LoopK.intro (fun i:Nat=>⟨(.junk::.ptr 0 0 0::.d (.bool false)::jn 5 (.d (.int .i64 i)::jn 237 [])),[.box [.d (.int .i64 aF),.d (.int .i64 aK),.d (.int .i64 aL),.d (.int .i64 aI),.d (.sl 1 (aE.map eI)),.d (.sl 2 (aB.map TRange.enc)),.d (.sl 2 (aA.map TRange.enc)),.d (.sl 2 (aC.map TRange.enc)),.d (.int .i64 aJ),.d (.int .i64 aG),.d (.int .i64 aD),.d (.int .i64 aM)]]⟩)
    (fun i=>aC.length - i) (fun i=>i≤aC.length∧below (aC.take i) aD=true) 0 [0] ⟨by omega,rfl⟩ ?_ ?_
   ·simp only [go_sem];simp
   ·rintro i ⟨hi,he⟩
    by_cases h1:i < aC.length
    ·have h1':decide ((i:Int) < (aC.length:Int))=true:=dT (by omega)
     have hxi:=map_at TRange.enc aC i h1
     have hw:=inc h1 hm4
     have hs:=below_succ aC aD i h1
     cases e5:decide (aD < aC[i].high) with
     |true=>
      try simp only [go_sem,lM,h1']
      repeat' (first|((first|refine CallK.intro (by first|apply spec_CountNumbers|apply spec_FirstGap) ?_|refine gSym ?_|refine drawE_intro mxSndT0 (by kernel_rfl) (by rfl) ?_|refine drawE_intro mxSndT1 (by kernel_rfl) (by rfl) ?_|refine drawE_intro mxSndT2 (by kernel_rfl) (by rfl) ?_)<;>simp only [go_sem,lM,tN,hxi,TRange.enc,e5])|(with_reducible refine sideI ?_)|fail)
      have:=below_false aC aD i h1 (oT e5)
      simp [isSndS,hR',this]
     |false=>
      have h5:decide (aC[i].high≤aD)=true:=dT (by have:=oF e5;omega)
      try simp only [go_sem,lM,h1']
      repeat' (first|(refine drawE_intro mxSndT2 (by kernel_rfl) (by rfl) ?_<;>simp only [go_sem,lM,tN,hxi,TRange.enc,e5])|(with_reducible refine sideI ?_)|fail)
      refine RoundE.intro (i + 1) [0] ⟨by omega,by rw [hs,he,h5];rfl⟩ (by omega) ?_
      simp only [go_sem,hw];simp
    ·have h1':decide ((i:Int) < (aC.length:Int))=false:=dF (by omega)
     obtain rfl:i=aC.length:=by omega
     rw [tL] at he
     have hb4:=he
     try simp only [go_sem,lM,h1']
     repeat' (refine gSymS ?_<;>simp only [go_sem])
     refine cSplit (fun h6=>?_) (fun h6=>?_)
     ·simp only [go_sem]
      have:finOk (⟨aF,⟨aK,aL,aI,aE⟩,aB,aA,aC,aJ,aG,aD,aM⟩:TSender)=false:=by simp [finOk] at h6 ⊢;grind
      simp [isSndS,hR',this]
     ·have hF:finOk (⟨aF,⟨aK,aL,aI,aE⟩,aB,aA,aC,aJ,aG,aD,aM⟩:TSender)=true:=by simp [finOk] at h6 ⊢;grind
      simp only [go_sem]
      try simp only [go_sem,lM]
      repeat' ((first|refine CallK.intro (by apply spec_l9State) ?_|refine drawE_intro mxSndT3 (by kernel_rfl) (by rfl) ?_)<;>simp only [go_sem])
      all_goals simp [isSndS,hH,hR',hM,hb3,hb4,hF]
set_option maxHeartbeats 8000000 in
theorem isSender_mid1 (aF aK aL aI:Int) (aE:List Int) (aB aA aC:List TRange) (aJ aG aD aM:Int) (_hc:aB.length + aA.length + aC.length≤524288) (hm3:aA.length≤maxLen) (hm4:aC.length≤maxLen) (hH:sndHead (⟨aF,⟨aK,aL,aI,aE⟩,aB,aA,aC,aJ,aG,aD,aM⟩:TSender)=true) (hR':isRst (⟨aF,⟨aK,aL,aI,aE⟩,aB,aA,aC,aJ,aG,aD,aM⟩:TSender)=false) (hA:allR (⟨aF,⟨aK,aL,aI,aE⟩,aB,aA,aC,aJ,aG,aD,aM⟩:TSender)=aB) {u0 u4 u5 u6 u7 u8 u9 u10 u11 u12 u13 u14 u15 u16 u17 u18 u19 u20 u21 u22 u23 u24 u25 u26 u27 u28 u29 u30 u31 u32 u33 u34 u35 u36 u37 u38 u39 u40 u41 u42 u43 u44 u45 u46 u47 u48 u49 u50 u51 u52 u53 u54 u55 u56 u57 u58 u59 u60 u61 u62 u63 u64 u65 u66 u67 u68 u69 u70 u71 u72 u73 u74 u75 u76 u77 u78 u79 u80 u81 u82 u83 u84 u85 u86 u87 u88 u89 u90 u91 u92 u93 u94 u95 u96 u97 u98 u99 u100 u101 u102 u103 u104 u105 u106 u107 u108 u109 u110 u111 u112 u113 u114 u115 u116 u117 u118 u119 u120 u121 u122 u123 u124 u125 u126 u127 u128 u129 u130 u131 u132 u133 u134 u135 u136 u137 u138 u139 u140 u141 u142 u143 u144 u145 u146 u147 u148 u149 u150 u151 u152 u153 u154 u155 u156 u157 u158 u159 u160 u161 u162 u163 u164 u165 u166 u167 u168 u169 u170 u171 u172 u173 u174 u175 u176 u177 u178 u179 u180 u181 u182 u183 u184 u185 u186 u187 u188 u189 u190 u191 u192 u193 u194 u195 u196 u197 u198 u199 u200 u201 u202 u203 u204 u205 u206 u207 u208 u209 u210 u211 u212 u213 u214 u215 u216 u217 u218 u219 u220 u221 u222 u223 u224 u225 u226 u227 u228 u229 u230 u231 u232 u233 u234 u235 u236 u237 u238 u239 u240 u241 u242 u243 u244 u245:V} :
  codeE Tryz.prog [] (restC 6 (bodyOf Tryz.f95)) ⟨[u0,.ptr 0 0 0,.d (.bool false),.d (.sl 2 (aB.map TRange.enc)),u4,u5,u6,u7,u8,u9,u10,u11,u12,u13,u14,u15,u16,u17,u18,u19,u20,u21,u22,u23,u24,u25,u26,u27,u28,u29,u30,u31,u32,u33,u34,u35,u36,u37,u38,u39,u40,u41,u42,u43,u44,u45,u46,u47,u48,u49,u50,u51,u52,u53,u54,u55,u56,u57,u58,u59,u60,u61,u62,u63,u64,u65,u66,u67,u68,u69,u70,u71,u72,u73,u74,u75,u76,u77,u78,u79,u80,u81,u82,u83,u84,u85,u86,u87,u88,u89,u90,u91,u92,u93,u94,u95,u96,u97,u98,u99,u100,u101,u102,u103,u104,u105,u106,u107,u108,u109,u110,u111,u112,u113,u114,u115,u116,u117,u118,u119,u120,u121,u122,u123,u124,u125,u126,u127,u128,u129,u130,u131,u132,u133,u134,u135,u136,u137,u138,u139,u140,u141,u142,u143,u144,u145,u146,u147,u148,u149,u150,u151,u152,u153,u154,u155,u156,u157,u158,u159,u160,u161,u162,u163,u164,u165,u166,u167,u168,u169,u170,u171,u172,u173,u174,u175,u176,u177,u178,u179,u180,u181,u182,u183,u184,u185,u186,u187,u188,u189,u190,u191,u192,u193,u194,u195,u196,u197,u198,u199,u200,u201,u202,u203,u204,u205,u206,u207,u208,u209,u210,u211,u212,u213,u214,u215,u216,u217,u218,u219,u220,u221,u222,u223,u224,u225,u226,u227,u228,u229,u230,u231,u232,u233,u234,u235,u236,u237,u238,u239,u240,u241,u242,u243,u244,u245],[.box [.d (.int .i64 aF),.d (.int .i64 aK),.d (.int .i64 aL),.d (.int .i64 aI),.d (.sl 1 (aE.map eI)),.d (.sl 2 (aB.map TRange.enc)),.d (.sl 2 (aA.map TRange.enc)),.d (.sl 2 (aC.map TRange.enc)),.d (.int .i64 aJ),.d (.int .i64 aG),.d (.int .i64 aD),.d (.int .i64 aM)]]⟩ (hide (retE Tryz.prog [.tmp 2] [.one (.bool (isSndS (⟨aF,⟨aK,aL,aI,aE⟩,aB,aA,aC,aJ,aG,aD,aM⟩:TSender)))]) .mk) [] (hide (retE Tryz.prog [.tmp 2] [.one (.bool (isSndS (⟨aF,⟨aK,aL,aI,aE⟩,aB,aA,aC,aJ,aG,aD,aM⟩:TSender)))]) .mk):=by
 conv=>arg 3;whnf
 simp only [go_sem]
 by_cases hX:aB=[]
 ·have hl0:aB.length=0:=by rw [hX];rfl
  have hc0:cntR aB=0:=by rw [hX];rfl
  cases e1:decide (cntR aB≠aI) with
  |true=>
   have e1':=oT e1
   try simp only [go_sem,lM,e1]
   repeat' (first|((first|refine CallK.intro (by first|apply spec_CountNumbers|apply spec_FirstGap) ?_|with_reducible refine gFalse ?_|refine gSym ?_|refine drawE_intro mxSndT0 (by kernel_rfl) (by rfl) ?_|refine drawE_intro mxSndT1 (by kernel_rfl) (by rfl) ?_|refine drawE_intro mxSndT2 (by kernel_rfl) (by rfl) ?_)<;>simp only [go_sem,e1])|(with_reducible refine sideI ?_)|fail)
   all_goals simp [isSndS,hR',midOk,hA,e1']
  |false=>
   have e1':cntR aB=aI:=by have:=oF e1;omega
   have e3:decide (0 < aI)=false:=dF (by omega)
   try simp only [go_sem,lM,e1,e3]
   repeat' (first|((first|refine CallK.intro (by first|apply spec_CountNumbers|apply spec_FirstGap) ?_|with_reducible refine gTrue ?_|with_reducible refine gFalse ?_|refine gSym ?_|refine drawE_intro mxSndT0 (by kernel_rfl) (by rfl) ?_|refine drawE_intro mxSndT1 (by kernel_rfl) (by rfl) ?_|refine drawE_intro mxSndT2 (by kernel_rfl) (by rfl) ?_)<;>simp only [go_sem,e1,e3])|(with_reducible refine sideI ?_)|fail)
   refine cSplit (fun h4=>?_) (fun h4=>?_)
   ·simp only [go_sem]
    have:midOk (⟨aF,⟨aK,aL,aI,aE⟩,aB,aA,aC,aJ,aG,aD,aM⟩:TSender)=false:=by
     simp [midOk,hA,sumR,hi0] at h4 e3 ⊢;grind
    simp [isSndS,hR',this]
   ·have hM:midOk (⟨aF,⟨aK,aL,aI,aE⟩,aB,aA,aC,aJ,aG,aD,aM⟩:TSender)=true:=by
     simp [midOk,hA,sumR,hi0] at h4 e3 ⊢;grind
    exact isSender_tail _ _ _ _ _ _ _ _ _ _ _ _ hm3 hm4 hH hR' hM _
 ·skip
  have hp:0 < aB.length:=List.length_pos_iff.2 hX
  have hx0:=map_at TRange.enc aB 0 hp
  try simp only [go_sem,lM,hx0,TRange.enc,Int.toNat_zero]
  repeat' (first|((first|refine CallK.intro (by first|apply spec_CountNumbers|apply spec_FirstGap) ?_|refine gSym ?_|refine drawE_intro mxSndT0 (by kernel_rfl) (by rfl) ?_|refine drawE_intro mxSndT1 (by kernel_rfl) (by rfl) ?_|refine drawE_intro mxSndT2 (by kernel_rfl) (by rfl) ?_)<;>simp only [go_sem,lM,hx0,TRange.enc,Int.toNat_zero])|(with_reducible refine sideI ?_)|fail)
  refine cSplit (fun h4=>?_) (fun h4=>?_)
  ·simp only [go_sem]
   have:midOk (⟨aF,⟨aK,aL,aI,aE⟩,aB,aA,aC,aJ,aG,aD,aM⟩:TSender)=false:=by
    simp [midOk,hA,sumR,hi0,hp] at h4 ⊢;grind
   simp [isSndS,hR',this]
  ·have hM:midOk (⟨aF,⟨aK,aL,aI,aE⟩,aB,aA,aC,aJ,aG,aD,aM⟩:TSender)=true:=by
    simp [midOk,hA,sumR,hi0,hp] at h4 ⊢;grind
   exact isSender_tail _ _ _ _ _ _ _ _ _ _ _ _ hm3 hm4 hH hR' hM _
set_option maxHeartbeats 8000000 in
theorem isSender_mid2 (aF aK aL aI:Int) (aE:List Int) (aB aA aC:List TRange) (aJ aG aD aM:Int) (_hc:aB.length + aA.length + aC.length≤524288) (hm3:aA.length≤maxLen) (hm4:aC.length≤maxLen) (hH:sndHead (⟨aF,⟨aK,aL,aI,aE⟩,aB,aA,aC,aJ,aG,aD,aM⟩:TSender)=true) (hR':isRst (⟨aF,⟨aK,aL,aI,aE⟩,aB,aA,aC,aJ,aG,aD,aM⟩:TSender)=false) (X:List TRange) (hA:allR (⟨aF,⟨aK,aL,aI,aE⟩,aB,aA,aC,aJ,aG,aD,aM⟩:TSender)=X) (hXl:X.length≤1048576) (hX:X≠[]) {u0 u4 u5 u6 u7 u8 u9 u10 u11 u12 u13 u14 u15 u16 u17 u18 u19 u20 u21 u22 u23 u24 u25 u26 u27 u28 u29 u30 u31 u32 u33 u34 u35 u36 u37 u38 u39 u40 u41 u42 u43 u44 u45 u46 u47 u48 u49 u50 u51 u52 u53 u54 u55 u56 u57 u58 u59 u60 u61 u62 u63 u64 u65 u66 u67 u68 u69 u70 u71 u72 u73 u74 u75 u76 u77 u78 u79 u80 u81 u82 u83 u84 u85 u86 u87 u88 u89 u90 u91 u92 u93 u94 u95 u96 u97 u98 u99 u100 u101 u102 u103 u104 u105 u106 u107 u108 u109 u110 u111 u112 u113 u114 u115 u116 u117 u118 u119 u120 u121 u122 u123 u124 u125 u126 u127 u128 u129 u130 u131 u132 u133 u134 u135 u136 u137 u138 u139 u140 u141 u142 u143 u144 u145 u146 u147 u148 u149 u150 u151 u152 u153 u154 u155 u156 u157 u158 u159 u160 u161 u162 u163 u164 u165 u166 u167 u168 u169 u170 u171 u172 u173 u174 u175 u176 u177 u178 u179 u180 u181 u182 u183 u184 u185 u186 u187 u188 u189 u190 u191 u192 u193 u194 u195 u196 u197 u198 u199 u200 u201 u202 u203 u204 u205 u206 u207 u208 u209 u210 u211 u212 u213 u214 u215 u216 u217 u218 u219 u220 u221 u222 u223 u224 u225 u226 u227 u228 u229 u230 u231 u232 u233 u234 u235 u236 u237 u238 u239 u240 u241 u242 u243 u244 u245:V} :
  codeE Tryz.prog [] (restC 6 (bodyOf Tryz.f95)) ⟨[u0,.ptr 0 0 0,.d (.bool false),.sl 1 0 X.length,u4,u5,u6,u7,u8,u9,u10,u11,u12,u13,u14,u15,u16,u17,u18,u19,u20,u21,u22,u23,u24,u25,u26,u27,u28,u29,u30,u31,u32,u33,u34,u35,u36,u37,u38,u39,u40,u41,u42,u43,u44,u45,u46,u47,u48,u49,u50,u51,u52,u53,u54,u55,u56,u57,u58,u59,u60,u61,u62,u63,u64,u65,u66,u67,u68,u69,u70,u71,u72,u73,u74,u75,u76,u77,u78,u79,u80,u81,u82,u83,u84,u85,u86,u87,u88,u89,u90,u91,u92,u93,u94,u95,u96,u97,u98,u99,u100,u101,u102,u103,u104,u105,u106,u107,u108,u109,u110,u111,u112,u113,u114,u115,u116,u117,u118,u119,u120,u121,u122,u123,u124,u125,u126,u127,u128,u129,u130,u131,u132,u133,u134,u135,u136,u137,u138,u139,u140,u141,u142,u143,u144,u145,u146,u147,u148,u149,u150,u151,u152,u153,u154,u155,u156,u157,u158,u159,u160,u161,u162,u163,u164,u165,u166,u167,u168,u169,u170,u171,u172,u173,u174,u175,u176,u177,u178,u179,u180,u181,u182,u183,u184,u185,u186,u187,u188,u189,u190,u191,u192,u193,u194,u195,u196,u197,u198,u199,u200,u201,u202,u203,u204,u205,u206,u207,u208,u209,u210,u211,u212,u213,u214,u215,u216,u217,u218,u219,u220,u221,u222,u223,u224,u225,u226,u227,u228,u229,u230,u231,u232,u233,u234,u235,u236,u237,u238,u239,u240,u241,u242,u243,u244,u245],[.box [.d (.int .i64 aF),.d (.int .i64 aK),.d (.int .i64 aL),.d (.int .i64 aI),.d (.sl 1 (aE.map eI)),.d (.sl 2 (aB.map TRange.enc)),.d (.sl 2 (aA.map TRange.enc)),.d (.sl 2 (aC.map TRange.enc)),.d (.int .i64 aJ),.d (.int .i64 aG),.d (.int .i64 aD),.d (.int .i64 aM)],.arr 2 (X.map TRange.enc) true]⟩ (hide (retE Tryz.prog [.tmp 2] [.one (.bool (isSndS (⟨aF,⟨aK,aL,aI,aE⟩,aB,aA,aC,aJ,aG,aD,aM⟩:TSender)))]) .mk) [] (hide (retE Tryz.prog [.tmp 2] [.one (.bool (isSndS (⟨aF,⟨aK,aL,aI,aE⟩,aB,aA,aC,aJ,aG,aD,aM⟩:TSender)))]) .mk):=by
 conv=>arg 3;whnf
 simp only [go_sem]
 have hp:0 < X.length:=List.length_pos_iff.2 hX
 have hx0:=map_at TRange.enc X 0 hp
 try simp only [go_sem,lM,hx0,TRange.enc,Int.toNat_zero]
 repeat' (first|((first|refine CallK.intro (by first|apply spec_CountNumbers|apply spec_FirstGap) ?_|with_reducible refine gFalse ?_|refine gSym ?_|refine drawE_intro mxSndT0 (by kernel_rfl) (by rfl) ?_|refine drawE_intro mxSndT1 (by kernel_rfl) (by rfl) ?_|refine drawE_intro mxSndT2 (by kernel_rfl) (by rfl) ?_)<;>simp only [go_sem,lM,hx0,TRange.enc,Int.toNat_zero])|(with_reducible refine sideI ?_)|fail)
 refine cSplit (fun h4=>?_) (fun h4=>?_)
 ·simp only [go_sem]
  have:midOk (⟨aF,⟨aK,aL,aI,aE⟩,aB,aA,aC,aJ,aG,aD,aM⟩:TSender)=false:=by
   simp [midOk,hA,sumR,hi0,hp] at h4 ⊢;grind
  simp [isSndS,hR',this]
 ·have hM:midOk (⟨aF,⟨aK,aL,aI,aE⟩,aB,aA,aC,aJ,aG,aD,aM⟩:TSender)=true:=by
   simp [midOk,hA,sumR,hi0,hp] at h4 ⊢;grind
  exact isSender_tail _ _ _ _ _ _ _ _ _ _ _ _ hm3 hm4 hH hR' hM _
end Gv

namespace Gv
open Go Go.Proofs
def chk:Int→List TChunk→Bool
 |_,[]=>true
 |lo,c::cs=>(decide (c.data≠[]) && decide (lo≤c.offset) && decide (c.offset≤4611686018427387903 - (c.data.length:Int))) && chk (c.offset + c.data.length + 1) cs
theorem chk_cons {lo:Int} {c:TChunk} {cs:List TChunk} (h:chk lo (c::cs)=true) :
  c.data≠[]∧lo≤c.offset∧c.offset≤4611686018427387903 - (c.data.length:Int)∧chk (c.offset + c.data.length + 1) cs=true:=by
 simp only [chk,Bool.and_eq_true,decide_eq_true_eq] at h
 exact ⟨h.1.1.1,h.1.1.2,h.1.2,h.2⟩
def isBuf (b:TBuffer):Bool:=inB b.next 0 4611686018427387903 && chk b.next b.chunks
def endOf (b:TBuffer):Int:=if isBuf b=true then (match b.chunks.getLast? with|some c=>c.offset + c.data.length|none=>b.next) else b.next
def hitB (o:Int) (c:TChunk):Bool:=decide (0≤o) && decide (0≤c.offset) && decide (c.offset≤o) && decide (o - c.offset < c.data.length)
def byteAt:List TChunk→Int→Int
 |[],_=>-1
 |c::cs,o=>if hitB o c=true then ((((c.data[(o - c.offset).toNat]?).getD 0).toNat:Nat):Int) else byteAt cs o
theorem chk_mem:∀ (cs:List TChunk) (lo:Int),chk lo cs=true→∀ c ∈ cs,lo≤c.offset∧c.offset≤4611686018427387903 - (c.data.length:Int)
 |[],_,_,c,hc=>by cases hc
 |d::cs,lo,h,c,hc=>by
  obtain ⟨h1,h2,h3,h4⟩:=chk_cons h
  rcases List.mem_cons.1 hc with rfl|hc
  ·exact ⟨h2,h3⟩
  ·have:=chk_mem cs _ h4 c hc;omega
theorem chk_last:∀ (cs:List TChunk) (lo:Int) (l:TChunk),chk lo cs=true→cs.getLast?=some l→∀ c ∈ cs,c.offset + (c.data.length:Int)≤l.offset + (l.data.length:Int)
 |[],_,_,_,_,c,hc=>by cases hc
 |[d],lo,l,h,hl,c,hc=>by
  simp only [List.getLast?_singleton,Option.some.injEq] at hl
  simp only [List.mem_singleton] at hc
  subst hl;subst hc;omega
 |d::e::cs,lo,l,h,hl,c,hc=>by
  rw [List.getLast?_cons_cons] at hl
  obtain ⟨h1,h2,h3,h4⟩:=chk_cons h
  have hr:=chk_last (e::cs) _ l h4 hl
  rcases List.mem_cons.1 hc with rfl|hc
  ·have h5:=chk_mem _ _ h4 l (List.mem_of_getLast? hl)
   omega
  ·exact hr c hc
theorem hitB_iff (o:Int) (c:TChunk):hitB o c=true↔0≤o∧0≤c.offset∧c.offset≤o∧o - c.offset < c.data.length:=by
 simp only [hitB,Bool.and_eq_true,decide_eq_true_eq,and_assoc]
def cellsOf (b:TBuffer):TCells:=⟨(List.range 64).map fun j=>byteAt b.chunks (j:Nat),b.next⟩
set_option maxRecDepth 100000
theorem impl_Chunk_end (o:Int) (d:List UInt8) (h:0≤o∧o≤4611686018427387903 - (d.length:Int)):PureCall Tryz.prog 149 [.agg [.int .i64 o,.str d]] [.one (.int .i64 (o + d.length))]:=by
 refine pureT 9 Tryz.func149 Tryz.call149 [.tmp 2] ?_
 intro _
 have hw:IntKind.i64.wrap (o + d.length)=o + d.length:=by rw [w64]<;>omega
 try simp only [go_sem,hw]
 all_goals simp
def chOk (lo:Int) (c:TChunk):Bool:=decide (c.data≠[]) && decide (lo≤c.offset) && decide (c.offset≤4611686018427387903 - (c.data.length:Int))
theorem chk_drop (lo:Int) (xs:List TChunk) (i:Nat) (h:i < xs.length):chk lo (xs.drop i)=(chOk lo xs[i] && chk (xs[i].offset + xs[i].data.length + 1) (xs.drop (i + 1))):=by
 rw [List.drop_eq_getElem_cons h];rfl
theorem byteAt_drop (xs:List TChunk) (o:Int) (i:Nat) (h:i < xs.length):byteAt (xs.drop i) o=if hitB o xs[i]=true then ((((xs[i].data[(o - xs[i].offset).toNat]?).getD 0).toNat:Nat):Int) else byteAt (xs.drop (i + 1)) o:=by
 rw [List.drop_eq_getElem_cons h];rfl
theorem isBuf_of {n:Int} {xs:List TChunk} (h:inB n 0 4611686018427387903=true):isBuf ⟨n,xs⟩=chk n xs:=by
 show (inB n 0 4611686018427387903 && chk n xs)=_;rw [h];rfl
theorem isBuf_no {n:Int} {xs:List TChunk} (h:inB n 0 4611686018427387903=false):isBuf ⟨n,xs⟩=false:=by
 show (inB n 0 4611686018427387903 && chk n xs)=_;rw [h];rfl
theorem chOk_iff (lo:Int) (c:TChunk):chOk lo c=true↔c.data≠[]∧lo≤c.offset∧c.offset≤4611686018427387903 - (c.data.length:Int):=by
 simp only [chOk,Bool.and_eq_true,decide_eq_true_eq,and_assoc]
theorem dl0 (d:List UInt8):decide ((d.length:Int)=0)=decide (d=[]):=by cases d<;>simp;omega
theorem impl_IsBuffer (n:Int) (xs:List TChunk) (hb:∀ c ∈ xs,c.data.length≤1048576) (hx:xs.length≤1048576):PureCall Tryz.prog 114 [.agg [.int .i64 n,.sl 2 (xs.map TChunk.enc)]] [.one (.bool (isBuf ⟨n,xs⟩))]:=by
 refine pureT 42 Tryz.func114 Tryz.call114 [.tmp 2] ?_
 intro ok
 simp only [go_sem]
 refine CallS.intro (impl_isQuic n) ?_
 simp only [isQ]
 simp only [go_sem]
 refine cSplit (fun h0=>?_) (fun h0=>?_)
 ·have hq:inB n 0 4611686018427387903=false:=by simpa using h0
  simp only [go_sem]
  rw [isBuf_no hq]
 ·have hq:inB n 0 4611686018427387903=true:=by simpa using h0
  have hq2:0≤n∧n≤4611686018427387903:=by simpa [inB] using hq
  simp only [go_sem,lM]
  refine LoopK.intro (fun p:Nat×Int=>⟨(.junk::.ptr 0 0 0::.d (.bool false)::.d (.int .i64 p.2)::jn 9 (.d (.sl 2 (xs.map TChunk.enc))::.d (.int .i64 xs.length)::.d (.int .i64 p.1)::jn 26 [])),[.box [.d (.int .i64 n),.d (.sl 2 (xs.map TChunk.enc))]]⟩)
   (fun p=>xs.length - p.1) (fun p=>p.1≤xs.length∧0≤p.2∧p.2≤4611686018427387904∧chk p.2 (xs.drop p.1)=chk n xs) (0,n) [0] ⟨by simp,by omega,by omega,rfl⟩ ?_ ?_
  ·simp only [go_sem];simp
  ·rintro ⟨i,lo⟩ ⟨hi,hlo,hlo2,he⟩
   simp only at hi hlo hlo2 he
   simp only [go_sem]
   refine cSplit (fun h1=>?_) (fun h1=>?_)
   ·have h1':=oT h1
    have hlt:i < xs.length:=by omega
    have hxi:=map_at TChunk.enc xs i hlt
    have hw:=inc (i:=i) (m:=xs.length) hlt (by simp only [maxLen];omega)
    have hdl:=hb xs[i] (List.getElem_mem hlt)
    have hws:IntKind.i64.wrap (4611686018427387903 - (xs[i].data.length:Int))=4611686018427387903 - (xs[i].data.length:Int):=by rw [w64]<;>omega
    have hcd:=chk_drop lo xs i hlt
    by_cases hok:chOk lo xs[i]=true
    ·rw [hok,Bool.true_and] at hcd
     obtain ⟨f1,f2,f3⟩:=(chOk_iff _ _).1 hok
     have hne:xs[i].data.length≠0:=by simpa using f1
     have e1:decide ((xs[i].data.length:Int)=0)=false:=dF (by omega)
     have e2:decide (xs[i].offset < lo)=false:=dF (by omega)
     have e3:decide (4611686018427387903 - (xs[i].data.length:Int) < xs[i].offset)=false:=dF (by omega)
     have hwe:IntKind.i64.wrap (xs[i].offset + (xs[i].data.length:Int) + 1)=xs[i].offset + (xs[i].data.length:Int) + 1:=by rw [w64]<;>omega
     have hend:0≤xs[i].offset∧xs[i].offset≤4611686018427387903 - (xs[i].data.length:Int):=⟨by omega,by omega⟩
     try simp only [go_sem,lM,tN,hxi,TChunk.enc,e1]
     repeat' (first|((first|refine CallS.intro (by (apply impl_Chunk_end<;>first|assumption|omega)) ?_|with_reducible refine gTrueS ?_)<;>simp only [go_sem,hws,e2,e3])|(with_reducible refine sideI ?_)|fail)
     all_goals (refine RoundE.intro (i + 1,xs[i].offset + (xs[i].data.length:Int) + 1) [0] ⟨by simp only;omega,by simp only;omega,by simp only;omega,by rw [← he,hcd]⟩ (by simp only;omega) ?_;simp only [go_sem,hw,hwe];try simp)
    ·have hok2:chOk lo xs[i]=false:=by simpa using hok
     rw [hok2,Bool.false_and] at hcd
     have hz:(bif bif decide ((xs[i].data.length:Int)=0) then true else decide (xs[i].offset < lo) then true else decide (4611686018427387903 - (xs[i].data.length:Int) < xs[i].offset))=true:=by
      rw [dl0]
      by_cases g1:xs[i].data=[]
      ·simp [g1]
      ·by_cases g2:xs[i].offset < lo
       ·simp [g1,g2]
       ·by_cases g3:4611686018427387903 - (xs[i].data.length:Int) < xs[i].offset
        ·simp [g3]
        ·exact absurd ((chOk_iff _ _).2 ⟨g1,by omega,by omega⟩) hok
     try simp only [go_sem,lM,tN,hxi,TChunk.enc]
     repeat' (first|(refine gSymS ?_<;>simp only [go_sem,hws,hz])|(with_reducible refine sideI ?_)|fail)
     all_goals (rw [isBuf_of hq,← he,hcd])
   ·have h1':=oF h1
    have hi2:i=xs.length:=by omega
    subst hi2
    simp only [go_sem]
    rw [isBuf_of hq,← he,List.drop_length];rfl
theorem spec_IsBuffer (n:Int) (xs:List TChunk) (hb:∀ c ∈ xs,c.data.length≤1048576) (hx:xs.length≤1048576):PureCall Tryz.prog 121 [.agg [.int .i64 n,.sl 2 (xs.map TChunk.enc)]] [.one (.bool (isBuf ⟨n,xs⟩))]:=by
 refine pureT 48 Tryz.func121 Tryz.call121 [.tmp 2] ?_
 intro ok
 simp only [go_sem]
 have hn0:inB n 0 4611686018427387903=true→0≤n∧n≤4611686018427387903:=fun h=>by simpa [inB] using h
 have hini:inB n 0 4611686018427387903=true→-1≤IntKind.i64.wrap (n - 1)∧IntKind.i64.wrap (n - 1)≤4611686018427387903∧chk (IntKind.i64.wrap (n - 1) + 1) (xs.drop 0)=chk n xs:=by
  intro hq
  have:=hn0 hq
  have hw1:IntKind.i64.wrap (n - 1)=n - 1:=by rw [w64]<;>omega
  rw [hw1]
  exact ⟨by omega,by omega,by rw [show n - 1 + 1=n from by omega,List.drop_zero]⟩
 refine LoopK.intro (fun p:Nat×Int=>⟨(.junk::.ptr 0 0 0::.d (.bool false)::.d (.int .i64 p.2)::.d (.int .i64 p.1)::jn 43 []),[.box [.d (.int .i64 n),.d (.sl 2 (xs.map TChunk.enc))]]⟩)
   (fun p=>xs.length - p.1) (fun p=>p.1≤xs.length∧(inB n 0 4611686018427387903=true→-1≤p.2∧p.2≤4611686018427387903∧chk (p.2 + 1) (xs.drop p.1)=chk n xs)) (0,IntKind.i64.wrap (n - 1)) [0] ⟨by simp,hini⟩ ?_ ?_
 ·simp only [go_sem];simp
 ·rintro ⟨i,e⟩ ⟨hi,hq⟩
  simp only at hi hq
  simp only [go_sem,lM]
  refine cSplit (fun h1=>?_) (fun h1=>?_)
  ·have h1':=oT h1
   have hlt:i < xs.length:=by omega
   have hxi:=map_at TChunk.enc xs i hlt
   have hw:=inc (i:=i) (m:=xs.length) hlt (by simp only [maxLen];omega)
   have hdl:=hb xs[i] (List.getElem_mem hlt)
   have hws:IntKind.i64.wrap (4611686018427387903 - (xs[i].data.length:Int))=4611686018427387903 - (xs[i].data.length:Int):=by rw [w64]<;>omega
   have hcd:=chk_drop (e + 1) xs i hlt
   have hz:(bif bif decide (xs[i].offset≤e) then true else decide (xs[i].data=[]) then true else decide (4611686018427387903 - (xs[i].data.length:Int) < xs[i].offset))=!chOk (e + 1) xs[i]:=by
    have hf1:decide (e + 1≤xs[i].offset)=!decide (xs[i].offset≤e):=by by_cases g:xs[i].offset≤e<;>simp [g]<;>omega
    have hf2:decide (xs[i].data≠[])=!decide (xs[i].data=[]):=by simp
    have hf3:decide (xs[i].offset≤4611686018427387903 - (xs[i].data.length:Int))=!decide (4611686018427387903 - (xs[i].data.length:Int) < xs[i].offset):=by by_cases g:4611686018427387903 - (xs[i].data.length:Int) < xs[i].offset<;>simp [g]<;>omega
    unfold chOk
    rw [hf1,hf2,hf3]
    cases decide (xs[i].offset≤e)<;>cases decide (xs[i].data=[])<;>cases decide (4611686018427387903 - (xs[i].data.length:Int) < xs[i].offset)<;>rfl
   cases hok:chOk (e + 1) xs[i] with
   |true=>
    rw [hok] at hz hcd
    simp only [Bool.true_and,Bool.not_true] at hz hcd
    obtain ⟨f1,f2,f3⟩:=(chOk_iff _ _).1 hok
    try simp only [go_sem,lM,tN,hxi,TChunk.enc]
    repeat' (first|(refine gSymS ?_<;>simp only [go_sem,hws,hz])|(with_reducible refine sideI ?_)|fail)
    all_goals (refine RoundE.intro (i + 1,IntKind.i64.wrap (xs[i].offset + (xs[i].data.length:Int))) [0] ⟨by simp only;omega,fun hqq=>?_⟩ (by simp only;omega) ?_)
    all_goals first
     |(simp only [go_sem,hw];done)
     |(simp only [go_sem,hw];simp;done)
     |(obtain ⟨he1,he2,he⟩:=hq hqq;have hw2:IntKind.i64.wrap (xs[i].offset + (xs[i].data.length:Int))=xs[i].offset + (xs[i].data.length:Int):=(by rw [w64]<;>omega);simp only [hw2];exact ⟨by omega,by omega,by rw [← he,hcd]⟩)
   |false=>
    rw [hok] at hz hcd
    simp only [Bool.false_and,Bool.not_false] at hz hcd
    try simp only [go_sem,lM,tN,hxi,TChunk.enc]
    repeat' (first|(refine gSymS ?_<;>simp only [go_sem,hws,hz])|(with_reducible refine sideI ?_)|fail)
    all_goals (cases hqq:inB n 0 4611686018427387903 with|false=>rw [isBuf_no hqq]|true=>rw [isBuf_of hqq,← (hq hqq).2.2,hcd])
  ·have h1':=oF h1
   have hi2:i=xs.length:=by omega
   subst hi2
   simp only [go_sem]
   refine CallS.intro (spec_l4Quic n) ?_
   simp only [isQ]
   simp only [go_sem]
   cases hqq:inB n 0 4611686018427387903 with
   |false=>rw [isBuf_no hqq]
   |true=>rw [isBuf_of hqq,← (hq hqq).2.2,List.drop_length];rfl
theorem impl_EndOf (n:Int) (xs:List TChunk) (hb:∀ c ∈ xs,c.data.length≤1048576) (hx:xs.length≤1048576):PureCall Tryz.prog 115 [.agg [.int .i64 n,.sl 2 (xs.map TChunk.enc)]] [.one (.int .i64 (endOf ⟨n,xs⟩))]:=by
 refine pureT 23 Tryz.func115 Tryz.call115 [.tmp 2] ?_
 intro ok
 cases hI:isBuf ⟨n,xs⟩ with
 |false=>
  have hbl:∀ b:Bool,(bif b then true else true)=true:=fun b=>by cases b<;>rfl
  try simp only [go_sem]
  repeat' ((first|refine CallS.intro (by (apply impl_IsBuffer<;>first|assumption|omega)) ?_|with_reducible refine gFalseS ?_)<;>simp only [go_sem,hI])
  all_goals simp [endOf,hI]
 |true=>
  cases hxs:xs with
  |nil=>
   rw [← hxs]
   have e1:decide ((xs.length:Int)=0)=true:=by rw [hxs];rfl
   have hln:xs.getLast?=none:=by rw [hxs];rfl
   try simp only [go_sem]
   repeat' ((first|refine CallS.intro (by (apply impl_IsBuffer<;>first|assumption|omega)) ?_|with_reducible refine gTrueS ?_)<;>simp only [go_sem,lM,hI,e1])
   all_goals simp [endOf,hI,hln]
  |cons c0 cs0=>
   rw [← hxs]
   have hlen:0 < xs.length:=by rw [hxs];simp
   obtain ⟨m,hm⟩:∃ m,xs.length=m + 1:=⟨xs.length - 1,by omega⟩
   have hlt:m < xs.length:=by omega
   have hxi:=map_at TChunk.enc xs m hlt
   have hl:xs.getLast?=some xs[m]:=by rw [List.getLast?_eq_getElem?,hm,Nat.add_sub_cancel,gE]
   have e1:decide ((xs.length:Int)=0)=false:=dF (by omega)
   have hw:IntKind.i64.wrap ((xs.length:Int) - 1)=(m:Int):=by rw [w64]<;>omega
   have hq:=hI
   have hnn:0≤n∧chk n xs=true:=by
    simp only [isBuf,Bool.and_eq_true,inB,decide_eq_true_eq] at hq;exact ⟨hq.1.1,hq.2⟩
   have hc:=chk_mem xs n hnn.2 xs[m] (List.getElem_mem hlt)
   have hend:0≤xs[m].offset∧xs[m].offset≤4611686018427387903 - (xs[m].data.length:Int):=⟨by omega,hc.2⟩
   have hwe:IntKind.i64.wrap (xs[m].offset + (xs[m].data.length:Int))=xs[m].offset + (xs[m].data.length:Int):=by rw [w64]<;>omega
   try simp only [go_sem]
   repeat' (first|((first|refine CallS.intro (by first|(apply impl_IsBuffer<;>first|assumption|omega)|(apply impl_Chunk_end<;>first|assumption|omega)) ?_|with_reducible refine gTrueS ?_)<;>simp only [go_sem,lM,tN,hxi,TChunk.enc,hI,e1,hw])|(with_reducible refine sideI ?_)|fail)
   all_goals simp [endOf,hI,hl]
theorem spec_EndOf (n:Int) (xs:List TChunk) (hb:∀ c ∈ xs,c.data.length≤1048576) (hx:xs.length≤1048576):PureCall Tryz.prog 122 [.agg [.int .i64 n,.sl 2 (xs.map TChunk.enc)]] [.one (.int .i64 (endOf ⟨n,xs⟩))]:=by
 refine pureT 29 Tryz.func122 Tryz.call122 [.tmp 2] ?_
 intro ok
 cases hI:isBuf ⟨n,xs⟩ with
 |false=>
  have hbl:∀ b:Bool,(bif b then true else true)=true:=fun b=>by cases b<;>rfl
  try simp only [go_sem,lM]
  repeat' ((first|refine CallK.intro (by (apply spec_IsBuffer<;>first|assumption|omega)) ?_|refine gSymS ?_)<;>simp only [go_sem,hI,hbl])
  all_goals simp [endOf,hI]
 |true=>
  cases hxs:xs with
  |nil=>
   rw [← hxs]
   have e1:decide ((xs.length:Int)=0)=true:=by rw [hxs];rfl
   have hln:xs.getLast?=none:=by rw [hxs];rfl
   try simp only [go_sem,lM,e1]
   repeat' (first|(with_reducible refine gFalseS ?_<;>simp only [go_sem]))
   all_goals simp [endOf,hI,hln]
  |cons c0 cs0=>
   rw [← hxs]
   have hlen:0 < xs.length:=by rw [hxs];simp
   obtain ⟨m,hm⟩:∃ m,xs.length=m + 1:=⟨xs.length - 1,by omega⟩
   have hlt:m < xs.length:=by omega
   have hxi:=map_at TChunk.enc xs m hlt
   have hl:xs.getLast?=some xs[m]:=by rw [List.getLast?_eq_getElem?,hm,Nat.add_sub_cancel,gE]
   have e1:decide ((xs.length:Int)=0)=false:=dF (by omega)
   have hw:IntKind.i64.wrap ((xs.length:Int) - 1)=(m:Int):=by rw [w64]<;>omega
   have hq:=hI
   have hnn:0≤n∧chk n xs=true:=by
    simp only [isBuf,Bool.and_eq_true,inB,decide_eq_true_eq] at hq;exact ⟨hq.1.1,hq.2⟩
   have hc:=chk_mem xs n hnn.2 xs[m] (List.getElem_mem hlt)
   have hend:0≤xs[m].offset∧xs[m].offset≤4611686018427387903 - (xs[m].data.length:Int):=⟨by omega,hc.2⟩
   have hwe:IntKind.i64.wrap (xs[m].offset + (xs[m].data.length:Int))=xs[m].offset + (xs[m].data.length:Int):=by rw [w64]<;>omega
   try simp only [go_sem,lM,e1]
   repeat' (first|((first|refine CallS.intro (by (apply spec_IsBuffer<;>first|assumption|omega)) ?_|with_reducible refine gTrueS ?_)<;>simp only [go_sem,lM,tN,hxi,TChunk.enc,hI,hw,hwe])|(with_reducible refine sideI ?_)|fail)
   all_goals simp [endOf,hI,hl]
theorem spec_ByteAt (n:Int) (xs:List TChunk) (o:Int) (hb:∀ c ∈ xs,c.data.length≤1048576) (hx:xs.length≤1048576):PureCall Tryz.prog 249 [.agg [.int .i64 n,.sl 2 (xs.map TChunk.enc)],.one (.int .i64 o)] [.one (.int .i64 (byteAt xs o))]:=by
 refine pureT 57 Tryz.func249 Tryz.call249 [.tmp 4] ?_
 intro ok
 have ho:=i64_of ok.2.1
 simp only [go_sem]
 refine LoopK.intro (fun i:Nat=>⟨(.junk::.d (.int .i64 o)::.ptr 0 0 0::.junk::.d (.int .i64 0)::.d (.int .i64 i)::jn 51 []),[.box [.d (.int .i64 n),.d (.sl 2 (xs.map TChunk.enc))]]⟩)
   (fun i=>xs.length - i) (fun i=>i≤xs.length∧byteAt (xs.drop i) o=byteAt xs o) 0 [0] ⟨by omega,rfl⟩ ?_ ?_
 ·simp only [go_sem];simp
 ·rintro i ⟨hi,he⟩
  simp only [go_sem,lM]
  refine cSplit (fun h1=>?_) (fun h1=>?_)
  ·have h1':=oT h1
   have hlt:i < xs.length:=by omega
   have hxi:=map_at TChunk.enc xs i hlt
   have hw:=inc (i:=i) (m:=xs.length) hlt (by simp only [maxLen];omega)
   have hdl:=hb xs[i] (List.getElem_mem hlt)
   have hbd:=byteAt_drop xs o i hlt
   by_cases hh:hitB o xs[i]=true
   ·rw [if_pos hh] at hbd
    obtain ⟨f1,f2,f3,f4⟩:=(hitB_iff _ _).1 hh
    obtain ⟨k,hk⟩:=Int.eq_ofNat_of_zero_le (show 0≤o - xs[i].offset by omega)
    have hwk:IntKind.i64.wrap (o - xs[i].offset)=(k:Int):=by rw [w64]<;>omega
    have hkl:k < xs[i].data.length:=by omega
    have hdk:xs[i].data[k]?=some xs[i].data[k]:=gE hkl
    have hbt:IntKind.i64.wrap ((xs[i].data[k].toNat:Nat):Int)=((xs[i].data[k].toNat:Nat):Int):=by have:=xs[i].data[k].toNat_lt;rw [w64]<;>omega
    have e1:decide (0≤o)=true:=dT f1
    have e2:decide (0≤xs[i].offset)=true:=dT f2
    have e3:decide ((0:Int)≤(k:Int))=true:=dT (by omega)
    have e4:decide ((k:Int) < (xs[i].data.length:Int))=true:=dT (by omega)
    rw [hk,tN,hdk,Option.getD_some] at hbd
    try simp only [go_sem,lM,tN,hxi,TChunk.enc,hwk,e1,Option.getD_some]
    repeat' (first|(with_reducible refine gTrueS ?_<;>simp only [go_sem,lM,tN,hxi,TChunk.enc,e2,e3,e4,hdk,hbt,Option.getD_some])|(with_reducible refine sideI ?_)|fail)
    all_goals (rw [← he,hbd])
   ·rw [if_neg hh] at hbd
    have hz:(bif bif bif decide (0≤o) then decide (0≤xs[i].offset) else false then decide (0≤IntKind.i64.wrap (o - xs[i].offset)) else false then decide (IntKind.i64.wrap (o - xs[i].offset) < (xs[i].data.length:Int)) else false)=false:=by
     by_cases g1:0≤o
     ·by_cases g2:0≤xs[i].offset
      ·have hof:=i64_of (n:=o - xs[i].offset) (by
        have h1:IntKind.i64.min=-9223372036854775808:=by decide
        have h2:IntKind.i64.max=9223372036854775807:=by decide
        have h3:=eOk_at ok.1.2.1.2 _ (List.mem_map.2 ⟨xs[i],List.getElem_mem hlt,rfl⟩)
        have h4:=i64_of h3.1
        simp only [dOk,h1,h2];omega)
       have hwk:IntKind.i64.wrap (o - xs[i].offset)=o - xs[i].offset:=by rw [w64]<;>omega
       rw [hwk]
       by_cases g3:0≤o - xs[i].offset
       ·have g4:¬ o - xs[i].offset < (xs[i].data.length:Int):=fun g4=>hh ((hitB_iff _ _).2 ⟨g1,g2,by omega,g4⟩)
        simp [g4]
       ·simp [show ¬ xs[i].offset≤o from by omega]
      ·simp [g2]
     ·simp [g1]
    try simp only [go_sem,lM,tN,hxi,TChunk.enc]
    repeat' (first|(refine gSymS ?_<;>simp only [go_sem,lM,tN,hxi,TChunk.enc,hz])|(with_reducible refine sideI ?_)|fail)
    all_goals (refine RoundE.intro (i + 1) [0] ⟨by omega,by rw [← he,hbd]⟩ (by omega) ?_;simp only [go_sem,hw];try simp)
  ·have h1':=oF h1
   have hi2:i=xs.length:=by omega
   subst hi2
   simp only [go_sem]
   rw [← he,List.drop_length];rfl
set_option maxRecDepth 100000
def mxBufFn0:List (List Rl):=mxD 19 [1162261466,1162261464,1162261458,1162261440,1162261386,1162261224,1162260738,1162259280,1162254906,1162241784,1104806790,1104688692,1104334398,1103271516,1100082870,1155057489,1126359675,1033121304,774840978]
attribute [go_sem] mxBufFn0
def readyB (n:Int):List TChunk→Nat
 |[]=>0
 |c::_=>if c.offset=n then c.data.length else 0
def readB (n:Int) (xs:List TChunk):Nat:=if isBuf ⟨n,xs⟩=true then readyB n xs else 0
def rngB (xs:List TChunk):List TRange:=xs.map fun c=>⟨c.offset,c.offset + c.data.length⟩
def rngsB (n:Int) (xs:List TChunk):List TRange:=if isBuf ⟨n,xs⟩=true then rngB xs else []
theorem impl_ReadyBytes (n:Int) (xs:List TChunk) (hb:∀ c ∈ xs,c.data.length≤1048576) (hx:xs.length≤1048576):PureCall Tryz.prog 150 [.agg [.int .i64 n,.sl 2 (xs.map TChunk.enc)]] [.one (.int .i64 (readB n xs))]:=by
 refine pureT 28 Tryz.func150 Tryz.call150 [.tmp 2] ?_
 intro ok
 cases hI:isBuf ⟨n,xs⟩ with
 |false=>
  try simp only [go_sem]
  repeat' ((first|refine CallK.intro (by (apply impl_IsBuffer<;>first|assumption|omega)) ?_|with_reducible refine gFalse ?_|refine drawE_intro mxBufFn0 (by kernel_rfl) (by rfl) ?_)<;>simp only [go_sem,hI])
  all_goals simp [readB,hI]
 |true=>
  by_cases hl:xs.length=0
  ·have e1:decide ((xs.length:Int)=0)=true:=dT (by omega)
   try simp only [go_sem]
   repeat' ((first|refine CallK.intro (by (apply impl_IsBuffer<;>first|assumption|omega)) ?_|with_reducible refine gTrue ?_|with_reducible refine gFalse ?_|refine drawE_intro mxBufFn0 (by kernel_rfl) (by rfl) ?_)<;>simp only [go_sem,lM,hI,e1])
   all_goals simp [readB,readyB,List.length_eq_zero_iff.1 hl]
  ·have hlt:0 < xs.length:=by omega
   have e1:decide ((xs.length:Int)=0)=false:=dF (by omega)
   have hxi:=map_at TChunk.enc xs 0 hlt
   have hr:readB n xs=if xs[0].offset=n then xs[0].data.length else 0:=by
    unfold readB;rw [if_pos hI]
    cases xs with
    |nil=>exact absurd rfl hl
    |cons c cs=>rfl
   by_cases hc:xs[0].offset=n
   ·have e2:decide (xs[0].offset≠n)=false:=dF (by simpa using hc)
    try simp only [go_sem]
    repeat' (first|((first|refine CallK.intro (by (apply impl_IsBuffer<;>first|assumption|omega)) ?_|with_reducible refine gTrue ?_|refine drawE_intro mxBufFn0 (by kernel_rfl) (by rfl) ?_)<;>simp only [go_sem,lM,hI,hxi,TChunk.enc,e1,e2,Int.toNat_zero])|(with_reducible refine sideI ?_)|fail)
    all_goals simp [hr,hc]
   ·have e2:decide (xs[0].offset≠n)=true:=dT hc
    try simp only [go_sem]
    repeat' (first|((first|refine CallK.intro (by (apply impl_IsBuffer<;>first|assumption|omega)) ?_|with_reducible refine gTrue ?_|refine drawE_intro mxBufFn0 (by kernel_rfl) (by rfl) ?_)<;>simp only [go_sem,lM,hI,hxi,TChunk.enc,e1,e2,Int.toNat_zero])|(with_reducible refine sideI ?_)|fail)
    all_goals simp [hr,hc]
theorem spec_ReadyBytes (n:Int) (xs:List TChunk) (hb:∀ c ∈ xs,c.data.length≤1048576) (hx:xs.length≤1048576):PureCall Tryz.prog 123 [.agg [.int .i64 n,.sl 2 (xs.map TChunk.enc)]] [.one (.int .i64 (readB n xs))]:=by
 refine pureT 28 Tryz.func123 Tryz.call123 [.tmp 2] ?_
 intro ok
 cases hI:isBuf ⟨n,xs⟩ with
 |false=>
  try simp only [go_sem]
  repeat' ((first|refine CallK.intro (by (apply spec_IsBuffer<;>first|assumption|omega)) ?_|with_reducible refine gFalse ?_|refine drawE_intro mxBufFn0 (by kernel_rfl) (by rfl) ?_)<;>simp only [go_sem,hI])
  all_goals simp [readB,hI]
 |true=>
  by_cases hl:xs.length=0
  ·have e1:decide ((xs.length:Int)=0)=true:=dT (by omega)
   try simp only [go_sem]
   repeat' ((first|refine CallK.intro (by (apply spec_IsBuffer<;>first|assumption|omega)) ?_|with_reducible refine gTrue ?_|with_reducible refine gFalse ?_|refine drawE_intro mxBufFn0 (by kernel_rfl) (by rfl) ?_)<;>simp only [go_sem,lM,hI,e1])
   all_goals simp [readB,readyB,List.length_eq_zero_iff.1 hl]
  ·have hlt:0 < xs.length:=by omega
   have e1:decide ((xs.length:Int)=0)=false:=dF (by omega)
   have hxi:=map_at TChunk.enc xs 0 hlt
   have hr:readB n xs=if xs[0].offset=n then xs[0].data.length else 0:=by
    unfold readB;rw [if_pos hI]
    cases xs with
    |nil=>exact absurd rfl hl
    |cons c cs=>rfl
   by_cases hc:xs[0].offset=n
   ·have e2:decide (xs[0].offset≠n)=false:=dF (by simpa using hc)
    try simp only [go_sem]
    repeat' (first|((first|refine CallK.intro (by (apply spec_IsBuffer<;>first|assumption|omega)) ?_|with_reducible refine gTrue ?_|refine drawE_intro mxBufFn0 (by kernel_rfl) (by rfl) ?_)<;>simp only [go_sem,lM,hI,hxi,TChunk.enc,e1,e2,Int.toNat_zero])|(with_reducible refine sideI ?_)|fail)
    all_goals simp [hr,hc]
   ·have e2:decide (xs[0].offset≠n)=true:=dT hc
    try simp only [go_sem]
    repeat' (first|((first|refine CallK.intro (by (apply spec_IsBuffer<;>first|assumption|omega)) ?_|with_reducible refine gTrue ?_|refine drawE_intro mxBufFn0 (by kernel_rfl) (by rfl) ?_)<;>simp only [go_sem,lM,hI,hxi,TChunk.enc,e1,e2,Int.toNat_zero])|(with_reducible refine sideI ?_)|fail)
    all_goals simp [hr,hc]
set_option maxRecDepth 100000
def mxBufTake0:List (List Rl):=mxD 10 [55772,55770,57991,57973,58765,58927,58360,56866,52488,39366]
def mxBufTake1:List (List Rl):=mxD 6 [698,700,693,634,675,486]
attribute [go_sem] mxBufTake0 mxBufTake1
def tkN (n:Int) (xs:List TChunk) (most:Int):Nat:=min (readB n xs) most.toNat
def tkD (xs:List TChunk):List UInt8:=(xs.getD 0 ⟨0,[]⟩).data
def tkS (n:Int) (xs:List TChunk) (most:Int):List UInt8:=(tkD xs).take (tkN n xs most)
def tkX (n:Int) (xs:List TChunk) (most:Int):List TChunk:=
 if tkN n xs most=0 then xs else if tkN n xs most=(tkD xs).length then xs.drop 1 else ⟨n + tkN n xs most,(tkD xs).drop (tkN n xs most)⟩::xs.drop 1
theorem readB_pos {n:Int} {xs:List TChunk} (h:readB n xs≠0):isBuf ⟨n,xs⟩=true∧∃ hl:0 < xs.length,xs[0].offset=n∧readB n xs=xs[0].data.length∧tkD xs=xs[0].data:=by
 unfold readB at h ⊢
 by_cases hI:isBuf ⟨n,xs⟩=true
 ·rw [if_pos hI] at h ⊢
  cases xs with
  |nil=>exact absurd rfl h
  |cons c cs=>
   simp only [readyB] at h ⊢
   by_cases hc:c.offset=n
   ·rw [if_pos hc];exact ⟨hI,by simp,hc,rfl,rfl⟩
   ·rw [if_neg hc] at h;exact absurd rfl h
 ·rw [if_neg hI] at h;exact absurd rfl h
theorem isBuf_n {n:Int} {xs:List TChunk} (h:isBuf ⟨n,xs⟩=true):0≤n∧n≤4611686018427387903∧chk n xs=true:=by
 simp only [isBuf,Bool.and_eq_true,inB,decide_eq_true_eq] at h;exact ⟨h.1.1,h.1.2,h.2⟩
theorem tl_cons {α β:Type} (f:α→β) (xs:List α) (y:β) (h:0 < xs.length):(xs.map f).set 0 y=y::(xs.drop 1).map f:=by
 cases xs with
 |nil=>simp at h
 |cons x xs=>rfl
theorem spec_TakeBytes_raw (n:Int) (xs:List TChunk) (most:Int) (hb:∀ c ∈ xs,c.data.length≤1048576) (hx:xs.length≤1048576):PureCall Tryz.prog 186 [.agg [.int .i64 n,.sl 2 (xs.map TChunk.enc)],.one (.int .i64 most)] [.one (.str (tkS n xs most)),.agg [.int .i64 (n + tkN n xs most),.sl 2 ((tkX n xs most).map TChunk.enc)]]:=by
 refine pureT 53 Tryz.func186 Tryz.call186 [.tmp 4,.cell 5 49] ?_
 intro ok
 have hx1:xs.length≤1048577:=by omega
 cases hk:tkN n xs most with
 |zero=>
  have hm:(if (if most < 0 then 0 else most) < (readB n xs:Int) then (if most < 0 then 0 else most) else (readB n xs:Int))=0:=by
   unfold tkN at hk
   split<;>split<;>omega
  try simp only [go_sem]
  repeat' (first|((first|refine CallS.intro (by first|(apply spec_ReadyBytes<;>first|assumption|omega)|(apply spec_l6Copy<;>first|assumption|omega)) ?_|refine drawE_intro [[.post,.un,.post],[.un,.post,.post],[.pre,.pre,.post]] (by kernel_rfl) (by rfl) ?_)<;>simp only [go_sem,lM,hm])|(with_reducible refine sideI ?_)|fail)
  all_goals simp [tkS,tkX,hk]
 |succ k=>
  have hr:readB n xs≠0:=by unfold tkN at hk;omega
  obtain ⟨hI,hlt,ho,hrl,htd⟩:=readB_pos hr
  obtain ⟨hn0,hn1,hc⟩:=isBuf_n hI
  have hm:(if (if most < 0 then 0 else most) < (readB n xs:Int) then (if most < 0 then 0 else most) else (readB n xs:Int))=((k + 1:Nat):Int):=by
   unfold tkN at hk
   split<;>split<;>omega
  have hm0:decide (((k + 1:Nat):Int)=0)=false:=dF (by omega)
  have hxi:=map_at TChunk.enc xs 0 hlt
  have hdl:=hb xs[0] (List.getElem_mem hlt)
  have hkl:k + 1≤xs[0].data.length:=by unfold tkN at hk;omega
  have hcm:=chk_mem xs n hc xs[0] (List.getElem_mem hlt)
  have hw:IntKind.i64.wrap (n + ((k + 1:Nat):Int))=n + ((k + 1:Nat):Int):=by rw [w64]<;>omega
  have hsl:xs[0].data.take (k + 1)=tkS n xs most:=by unfold tkS;rw [htd,hk]
  by_cases hq:k + 1=xs[0].data.length
  ·have e1:decide (((k + 1:Nat):Int)=(xs[0].data.length:Int))=true:=dT (by omega)
   have hX:tkX n xs most=xs.drop 1:=by unfold tkX;rw [hk,htd,if_neg (by omega),if_pos hq]
   try simp only [go_sem]
   repeat' (first|(refine CallS.intro (by first|(apply spec_ReadyBytes<;>first|assumption|omega)|(apply spec_l6Copy<;>first|assumption|omega)) ?_<;>simp only [go_sem,lM,hm,hm0,hxi,TChunk.enc,Int.toNat_zero,hw,e1])|(with_reducible refine sideI ?_)|fail)
   have hle:1 + (xs.length - 1)≤xs.length:=by omega
   have ht:List.take (xs.length - 1) (List.drop 1 (List.map TChunk.enc xs))=(xs.drop 1).map TChunk.enc:=by
    rw [List.take_of_length_le (by simp),List.map_drop]
   rw [if_pos hle,ht]
   refine CallS.intro (spec_l6Copy (n + ((k + 1:Nat):Int)) (xs.drop 1) (by simp;omega)) ?_
   try simp only [go_sem,lM]
   repeat' (first|(with_reducible refine sideI ?_)|fail)
   all_goals (
    have htk:tkS n xs most=xs[0].data:=by rw [← hsl,hq];exact tL
    rw [htk,hX])
  ·have e1:decide (((k + 1:Nat):Int)=(xs[0].data.length:Int))=false:=dF (by omega)
   have hX:tkX n xs most=⟨n + ((k + 1:Nat):Int),xs[0].data.drop (k + 1)⟩::xs.drop 1:=by unfold tkX;rw [hk,htd,if_neg (by omega),if_neg hq]
   try simp only [go_sem]
   repeat' (first|((first|refine CallS.intro (by first|(apply spec_ReadyBytes<;>first|assumption|omega)|(apply spec_l6Copy<;>first|assumption|omega)) ?_|refine drawE_intro mxBufTake0 (by kernel_rfl) (by rfl) ?_|refine drawE_intro mxBufTake1 (by kernel_rfl) (by rfl) ?_)<;>simp only [go_sem,lM,hm,hm0,hxi,TChunk.enc,Int.toNat_zero,tN,hw,e1])|(with_reducible refine sideI ?_)|fail)
   all_goals (
    have ht1:List.take (xs[0].data.length - (k + 1)) (List.drop (k + 1) xs[0].data)=List.drop (k + 1) xs[0].data:=List.take_of_length_le (by simp)
    rw [ht1,tl_cons TChunk.enc xs _ hlt]
    have hln:xs.length=(([D.int .i64 (n + ((k + 1:Nat):Int)),D.str (List.drop (k + 1) xs[0].data)]:List D)::(xs.drop 1).map TChunk.enc).length:=by simp;omega
    rw [if_pos (Nat.le_of_eq hln),List.take_of_length_le (Nat.le_of_eq hln.symm),Nat.sub_zero,hsl,hX];simp [outOA,TChunk.enc])
set_option maxRecDepth 100000
def mxBufRng0:List (List Rl):=mxD 25 [800217020030,842058433906,842058433900,842058433921,842058433855,842058433693,842058433207,845545993627,845545989253,845546004562,845545956448,845545838350,845545484056,847273463374,847270274728,847281434989,847246359883,847160266441,846901986115,846127145137,843801826135,836828256241,815907549835,753145430616,564859072962]
def mxBufRng1:List (List Rl):=mxD 9 [16439,16441,16434,16416,19399,19561,18994,17536,13122]
attribute [go_sem] mxBufRng0 mxBufRng1
theorem rngB_step (xs:List TChunk) (i:Nat) (h:i < xs.length):rngB (xs.take (i + 1))=rngB (xs.take i)++[⟨xs[i].offset,xs[i].offset + xs[i].data.length⟩]:=by
 unfold rngB;rw [List.take_add_one,gE h,Option.toList_some,List.map_append];rfl
theorem rngB_len (xs:List TChunk):(rngB xs).length=xs.length:=by simp [rngB]
theorem spec_BufferRanges (n:Int) (xs:List TChunk) (hb:∀ c ∈ xs,c.data.length≤1048576) (hx:xs.length≤1048576):PureCall Tryz.prog 248 [.agg [.int .i64 n,.sl 2 (xs.map TChunk.enc)]] [.one (.sl 2 ((rngsB n xs).map TRange.enc))]:=by
 refine pureT 42 Tryz.func248 Tryz.call248 [.tmp 2] ?_
 intro ok
 cases hI:isBuf ⟨n,xs⟩ with
 |false=>
  try simp only [go_sem]
  refine LoopK.intro (fun _:Unit=>⟨(.junk::.ptr 0 0 0::.nils 2::.sl 1 0 0::.d (.int .i64 0)::jn 37 []),[.box [.d (.int .i64 n),.d (.sl 2 (xs.map TChunk.enc))],.arr 2 [] true]⟩)
   (fun _=>0) (fun _=>True) () [0,1] trivial ?_ ?_
  ·simp only [go_sem];simp
  ·rintro _ _
   have hbf:∀ b:Bool,(bif b then false else false)=false:=fun b=>by cases b<;>rfl
   try simp only [go_sem,lM]
   repeat' (first|((first|refine CallK.intro (by (apply spec_IsBuffer<;>first|assumption|omega)) ?_|refine gSymS ?_)<;>simp only [go_sem,hI,hbf])|(with_reducible refine sideI ?_)|fail)
   all_goals simp [rngsB,hI]
 |true=>
  obtain ⟨hn0,hn1,hck⟩:=isBuf_n hI
  have hR:rngsB n xs=rngB xs:=by unfold rngsB;rw [if_pos hI]
  try simp only [go_sem]
  refine LoopK.intro (fun i:Nat=>⟨(.junk::.ptr 0 0 0::.nils 2::.sl 1 0 (rngB (xs.take i)).length::.d (.int .i64 i)::jn 37 []),[.box [.d (.int .i64 n),.d (.sl 2 (xs.map TChunk.enc))],.arr 2 ((rngB (xs.take i)).map TRange.enc) true]⟩)
   (fun i=>xs.length - i) (fun i=>i≤xs.length) 0 [0,1] (by omega) ?_ ?_
  ·simp only [go_sem];simp [rngB]
  ·intro i hi
   have hrl:(rngB (xs.take i)).length≤1048576:=by rw [rngB_len,List.length_take];omega
   by_cases hlt:i < xs.length
   ·have hxi:=map_at TChunk.enc xs i hlt
    have hw:=inc (i:=i) (m:=xs.length) hlt (by simp only [maxLen];omega)
    have hcm:=chk_mem _ _ hck xs[i] (List.getElem_mem hlt)
    have hdl:=hb xs[i] (List.getElem_mem hlt)
    have hwe:IntKind.i64.wrap (xs[i].offset + (xs[i].data.length:Int))=xs[i].offset + (xs[i].data.length:Int):=by rw [w64]<;>omega
    have hs:=rngB_step xs i hlt
    have e1:decide ((i:Int) < (xs.length:Int))=true:=dT (by omega)
    try simp only [go_sem,lM,e1]
    repeat' (first|((first|refine CallS.intro (by (apply spec_IsBuffer<;>first|assumption|omega)) ?_|with_reducible refine gTrueS ?_|refine drawE_intro mxBufRng0 (by kernel_rfl) (by rfl) ?_)<;>simp only [go_sem,lM,tN,hxi,TChunk.enc,hw,hwe,hI])|(with_reducible refine sideI ?_)|fail)
    all_goals (refine RoundE.intro (i + 1) [0,3] (by omega) (by omega) ?_;simp only [go_sem,hs];simp [TRange.enc])
   ·have e1:decide ((i:Int) < (xs.length:Int))=false:=dF (by omega)
    have hi2:i=xs.length:=by omega
    try simp only [go_sem,lM,e1]
    repeat' (first|(with_reducible refine gFalseS ?_<;>simp only [go_sem,lM])|(with_reducible refine sideI ?_)|fail)
    all_goals (rw [hi2,tL,hR];try simp [outOA,List.take_of_length_le])
theorem spec_EqualRanges (xs ys:List TRange):PureCall Tryz.prog 27 [.one (.sl 2 (xs.map TRange.enc)),.one (.sl 2 (ys.map TRange.enc))] [.one (.bool (decide (xs=ys)))]:=by
 refine pureT 26 Tryz.func27 Tryz.call27 [.tmp 4] ?_
 intro ok
 have hm:=len_of ok
 by_cases hl:xs.length=ys.length
 ·have e0:decide ((xs.length:Int)≠(ys.length:Int))=false:=dF (by omega)
  try simp only [go_sem,lM,e0]
  refine LoopK.intro (fun i:Nat=>⟨(.d (.sl 2 (xs.map TRange.enc))::.d (.sl 2 (ys.map TRange.enc))::.junk::.junk::.d (.bool false)::.d (.int .i64 i)::jn 20 []),[]⟩)
   (fun i=>xs.length - i) (fun i=>i≤xs.length∧xs.take i=ys.take i) 0 [] ⟨by omega,by simp⟩ ?_ ?_
  ·simp only [go_sem];simp
  ·rintro i ⟨hi,he⟩
   simp only [go_sem,lM]
   refine cSplit (fun h1=>?_) (fun h1=>?_)
   ·have h1':=oT h1
    have hlt:i < xs.length:=by omega
    have hlt2:i < ys.length:=by omega
    have hxi:=map_at TRange.enc xs i hlt
    have hyi:=map_at TRange.enc ys i hlt2
    have hw:=inc hlt hm
    by_cases hq:xs[i]=ys[i]
    ·have hst:xs.take (i + 1)=ys.take (i + 1):=by
      rw [List.take_add_one,List.take_add_one,he,gE hlt,gE hlt2,hq]
     try simp only [go_sem]
     repeat' (first|(refine drawE_intro mxBufRng1 (by kernel_rfl) (by rfl) ?_<;>simp only [go_sem,lM,tN,hxi,hyi,hq,TRange.enc,hw])|(with_reducible refine sideI ?_)|fail)
     all_goals (refine RoundE.intro (i + 1) [] ⟨by omega,hst⟩ (by omega) ?_;simp only [go_sem])
    ·have hnx:xs≠ys:=fun h=>hq (by simp only [h])
     have hne:(!(decide (xs[i].low=ys[i].low) && decide (xs[i].high=ys[i].high)))=true:=by
      have:¬ (xs[i].low=ys[i].low∧xs[i].high=ys[i].high):=fun h=>hq (by
       have e1:=h.1;have e2:=h.2
       generalize xs[i]=a at e1 e2;generalize ys[i]=b at e1 e2
       cases a;cases b;simp only at e1 e2;rw [e1,e2])
      rw [← Bool.decide_and,dF this];rfl
     try simp only [go_sem]
     repeat' (first|(refine drawE_intro mxBufRng1 (by kernel_rfl) (by rfl) ?_<;>simp only [go_sem,lM,tN,hxi,hyi,TRange.enc,hne])|(with_reducible refine sideI ?_)|fail)
     all_goals simp [hnx]
   ·have h1':=oF h1
    have hi2:i=xs.length:=by omega
    rw [List.take_of_length_le (by omega),List.take_of_length_le (by omega)] at he
    simp only [go_sem]
    simp [he]
 ·have e0:decide ((xs.length:Int)≠(ys.length:Int))=true:=dT (by omega)
  have hne:xs≠ys:=fun h=>hl (by rw [h])
  try simp only [go_sem,lM,e0]
  all_goals simp [hne]
def byteC (o:Int) (c:TChunk):Int:=if hitB o c=true then ((((c.data[(o - c.offset).toNat]?).getD 0).toNat:Nat):Int) else -1
theorem byteC_hit {o:Int} {c:TChunk} (h:byteC o c≠-1):0≤o∧0≤c.offset∧c.offset≤o∧o - c.offset < c.data.length:=by
 unfold byteC at h
 by_cases g:hitB o c=true
 ·exact (hitB_iff _ _).1 g
 ·rw [if_neg g] at h;exact absurd rfl h
theorem byteC_no {o:Int} {c:TChunk} (h:¬ (0≤o∧0≤c.offset∧c.offset≤o∧o - c.offset < c.data.length)):byteC o c=-1:=by
 unfold byteC;rw [if_neg (fun g=>h ((hitB_iff _ _).1 g))]
theorem byteC_in {o:Int} {c:TChunk} (h:0≤o∧0≤c.offset∧c.offset≤o∧o - c.offset < c.data.length):byteC o c=((((c.data[(o - c.offset).toNat]?).getD 0).toNat:Nat):Int):=by
 unfold byteC;rw [if_pos ((hitB_iff _ _).2 h)]
theorem byteAt_snoc (o:Int) (c:TChunk):∀ cs,byteAt (cs++[c]) o=if byteAt cs o=-1 then byteC o c else byteAt cs o
 |[]=>by simp [byteAt,byteC]
 |d::cs=>by
  rw [cA,byteAt,byteAt]
  by_cases h:hitB o d=true
  ·rw [if_pos h,if_pos h,if_neg (by omega)]
  ·rw [if_neg h,if_neg h];exact byteAt_snoc o c cs
theorem chk_snoc (c:TChunk):∀ (cs:List TChunk) (lo:Int),chk lo cs=true→(∀ d ∈ cs,d.offset + (d.data.length:Int) < c.offset)→lo≤c.offset→c.data≠[]→c.offset≤4611686018427387903 - (c.data.length:Int)→chk lo (cs++[c])=true
 |[],lo,_,_,h1,h2,h3=>by simp only [nA,chk,Bool.and_eq_true,decide_eq_true_eq,and_true];exact ⟨⟨h2,h1⟩,h3⟩
 |d::cs,lo,h,hd,h1,h2,h3=>by
  obtain ⟨k1,k2,k3,k4⟩:=chk_cons h
  have:=hd d (by simp)
  simp only [cA,chk,Bool.and_eq_true,decide_eq_true_eq]
  exact ⟨⟨⟨k1,k2⟩,k3⟩,chk_snoc c cs _ k4 (fun e he=>hd e (by simp [he])) (by omega) h2 h3⟩
theorem chk_grow (l:TChunk) (x:List UInt8):∀ (cs:List TChunk) (lo:Int),chk lo (cs++[l])=true→l.offset≤4611686018427387903 - ((l.data++x).length:Int)→chk lo (cs++[⟨l.offset,l.data++x⟩])=true
 |[],lo,h,h1=>by
  obtain ⟨k1,k2,k3,k4⟩:=chk_cons h
  simp only [nA,chk,Bool.and_eq_true,decide_eq_true_eq,and_true]
  exact ⟨⟨by simp [k1],k2⟩,h1⟩
 |d::cs,lo,h,h1=>by
  obtain ⟨k1,k2,k3,k4⟩:=chk_cons h
  simp only [cA,chk,Bool.and_eq_true,decide_eq_true_eq]
  exact ⟨⟨⟨k1,k2⟩,k3⟩,chk_grow l x cs _ k4 h1⟩
/-- One chunk joined to the end. -/
def joinS (out:List TChunk) (c:TChunk):List TChunk:=
 match out.getLast? with
 |some l=>if l.offset + l.data.length=c.offset then out.dropLast++[⟨l.offset,l.data++c.data⟩] else out++[c]
 |none=>out++[c]
def joinL (xs:List TChunk):List TChunk:=xs.foldl joinS []
theorem joinL_snoc (xs:List TChunk) (c:TChunk):joinL (xs++[c])=joinS (joinL xs) c:=by
 unfold joinL;rw [List.foldl_append];rfl
theorem last_split {out:List TChunk} {l:TChunk} (h:out.getLast?=some l):out=out.dropLast++[l]:=by
 obtain ⟨ys,e⟩:=List.getLast?_eq_some_iff.1 h
 rw [e];simp
theorem joinS_len (out:List TChunk) (c:TChunk):(joinS out c).length≤out.length + 1:=by
 unfold joinS
 split
 ·split<;>simp
 ·simp
/-- What holds of the joined chunks: canonical, all ends within e, the last end (if any) is e'. -/
structure JP (lo e:Int) (out:List TChunk) (f:Int→Int):Prop where
 ck:chk lo out=true
 en:∀ c ∈ out,c.offset + (c.data.length:Int)≤e
 by':∀ o,byteAt out o=f o
theorem JP.step {lo e:Int} {out:List TChunk} {f:Int→Int} (h:JP lo e out f) (c:TChunk) (h0:0≤lo) (hl:lo≤c.offset) (he:e≤c.offset) (hd:c.data≠[]) (hm:c.offset≤4611686018427387903 - (c.data.length:Int)) :
  JP lo (c.offset + c.data.length) (joinS out c) (fun o=>if f o=-1 then byteC o c else f o):=by
 unfold joinS
 split
 ·rename_i l hl'
  have hs:=last_split hl'
  have hlm:l ∈ out:=List.mem_of_getLast? hl'
  have hle:=h.en l hlm
  have hlc:=chk_mem _ _ h.ck l hlm
  split
  ·rename_i heq
   have hb:∀ o,byteAt (out.dropLast++[⟨l.offset,l.data++c.data⟩]) o=byteAt (out++[c]) o:=by
    intro o
    rw [byteAt_snoc,byteAt_snoc]
    conv=>rhs;rw [hs]
    rw [byteAt_snoc]
    by_cases g:byteAt out.dropLast o=-1
    ·simp only [if_pos g]
     by_cases g1:byteC o l=-1
     ·rw [if_pos g1]
      by_cases g2:byteC o c=-1
      ·rw [g2]
       refine byteC_no fun k=>?_
       simp only [List.length_append,Int.natCast_add] at k
       by_cases g3:o - l.offset < l.data.length
       ·rw [byteC_in (by omega)] at g1;omega
       ·rw [byteC_in (by omega)] at g2;omega
      ·have k:=byteC_hit g2
       rw [byteC_in k,byteC_in (by simp only [List.length_append,Int.natCast_add];omega)]
       simp only
       rw [List.getElem?_append_right (by omega)]
       have:(o - l.offset).toNat - l.data.length=(o - c.offset).toNat:=by omega
       rw [this]
     ·rw [if_neg g1]
      have k:=byteC_hit g1
      rw [byteC_in k,byteC_in (by simp only [List.length_append,Int.natCast_add];omega)]
      simp only
      rw [List.getElem?_append_left (by omega)]
    ·simp only [if_neg g]
   refine ⟨?_,?_,?_⟩
   ·refine chk_grow l c.data _ _ (hs ▸ h.ck) ?_
    simp only [List.length_append,Int.natCast_add];omega
   ·intro d hd2
    rcases List.mem_append.1 hd2 with hd2|hd2
    ·have:=h.en d (List.dropLast_subset _ hd2);omega
    ·rw [List.mem_singleton.1 hd2];simp only [List.length_append,Int.natCast_add];omega
   ·intro o;rw [hb o,byteAt_snoc,h.by' o]
  ·rename_i hne
   refine ⟨chk_snoc c out lo h.ck (fun d hd2=>?_) hl hd hm,?_,fun o=>by rw [byteAt_snoc,h.by' o]⟩
   ·have:=chk_last _ _ _ h.ck hl' d hd2;omega
   ·intro d hd2
    rcases List.mem_append.1 hd2 with hd2|hd2
    ·have:=h.en d hd2;omega
    ·rw [List.mem_singleton.1 hd2];omega
 ·rename_i hn
  have hnil:out=[]:=List.getLast?_eq_none_iff.1 hn
  refine ⟨chk_snoc c out lo h.ck (fun d hd2=>by rw [hnil] at hd2;cases hd2) hl hd hm,?_,fun o=>by rw [byteAt_snoc,h.by' o]⟩
  intro d hd2
  rw [hnil] at hd2
  rw [List.mem_singleton.1 hd2];omega
/-- In order, none empty, none over another; all within e. -/
def asc (e:Int):Int→List TChunk→Bool
 |lo,[]=>decide (lo≤e)
 |lo,c::cs=>decide (c.data≠[]) && decide (lo≤c.offset) && asc e (c.offset + c.data.length) cs
theorem asc_cons {e lo:Int} {c:TChunk} {cs:List TChunk} (h:asc e lo (c::cs)=true):c.data≠[]∧lo≤c.offset∧asc e (c.offset + c.data.length) cs=true:=by
 simp only [asc,Bool.and_eq_true,decide_eq_true_eq] at h;exact ⟨h.1.1,h.1.2,h.2⟩
theorem asc_le {e:Int}:∀ {cs:List TChunk} {lo:Int},asc e lo cs=true→lo≤e
 |[],lo,h=>by simpa [asc] using h
 |c::cs,lo,h=>by obtain ⟨h1,h2,h3⟩:=asc_cons h;have:=asc_le h3;omega
def byteD (off:Int) (data:List UInt8) (o:Int):Int:=(((data[(o - off).toNat]?).getD 0).toNat:Nat)
def pcOf (off:Int) (data:List UInt8) (low m:Int):TChunk:=⟨low,(data.drop (low - off).toNat).take ((m - off).toNat - (low - off).toNat)⟩
def putP (off hi:Int) (data:List UInt8) (low lim:Int) (ps:List TChunk):List TChunk:=
 if low < (if hi < lim then hi else lim) then ps++[pcOf off data low (if hi < lim then hi else lim)] else ps
def pSt (off hi:Int) (data:List UInt8) (s:Int×List TChunk) (c:TChunk):Int×List TChunk:=
 (if c.offset + (c.data.length:Int) > s.1 then c.offset + (c.data.length:Int) else s.1,putP off hi data s.1 c.offset s.2++[c])
theorem pcOf_len {off:Int} {data:List UInt8} {low m:Int} (h1:off≤low) (h2:low≤m) (h3:m≤off + data.length):((pcOf off data low m).data.length:Int)=m - low:=by
 simp only [pcOf,List.length_take,List.length_drop];omega
theorem pcOf_byte {off:Int} {data:List UInt8} {low m:Int} (h0:0≤off) (h1:off≤low) (h2:low≤m) (h3:m≤off + data.length) (o:Int):byteC o (pcOf off data low m)=if low≤o∧o < m then byteD off data o else -1:=by
 have hl:=pcOf_len h1 h2 h3
 have ho:(pcOf off data low m).offset=low:=rfl
 by_cases h:low≤o∧o < m
 ·rw [if_pos h,byteC_in (by rw [hl,ho];omega),ho]
  unfold byteD
  show (((((data.drop (low - off).toNat).take ((m - off).toNat - (low - off).toNat))[(o - low).toNat]?).getD 0).toNat:Int)=_
  rw [List.getElem?_take,if_pos (by omega),List.getElem?_drop]
  rw [show (low - off).toNat + (o - low).toNat=(o - off).toNat from by omega]
 ·rw [if_neg h,byteC_no (by rw [hl,ho];omega)]
theorem asc_snoc {e0 e:Int} (c:TChunk):∀ (ps:List TChunk) (lo:Int),asc e0 lo ps=true→e0≤c.offset→c.data≠[]→c.offset + (c.data.length:Int)≤e→asc e lo (ps++[c])=true
 |[],lo,h,h1,h2,h3=>by
  have:=asc_le h
  simp only [nA,asc,Bool.and_eq_true,decide_eq_true_eq];exact ⟨⟨h2,by omega⟩,h3⟩
 |d::ps,lo,h,h1,h2,h3=>by
  obtain ⟨k1,k2,k3⟩:=asc_cons h
  simp only [cA,asc,Bool.and_eq_true,decide_eq_true_eq]
  exact ⟨⟨k1,k2⟩,asc_snoc c ps _ k3 h1 h2 h3⟩
theorem joinS_last (out:List TChunk) (c:TChunk):∃ l,(joinS out c).getLast?=some l∧l.offset + (l.data.length:Int)=c.offset + (c.data.length:Int):=by
 unfold joinS
 split
 ·split
  ·rename_i l hl h;exact ⟨⟨l.offset,l.data++c.data⟩,by simp,by simp only [List.length_append,Int.natCast_add];omega⟩
  ·exact ⟨c,by simp,rfl⟩
 ·exact ⟨c,by simp,rfl⟩
theorem joinS_same {out:List TChunk} {c l:TChunk} (h:out.getLast?=some l) (h2:l.offset + (l.data.length:Int)=c.offset):(joinS out c).length=out.length:=by
 unfold joinS;rw [h];simp only [if_pos h2]
 have:=congrArg List.length (last_split h)
 simp only [List.length_append,List.length_singleton] at this ⊢
 omega
structure PI (n off hi lo0:Int) (data:List UInt8) (ys:List TChunk) (en low:Int) (ps:List TChunk):Prop where
 as':asc en n ps=true
 el:en≤low
 ll:low=lo0∨lo0 < low∧low=en
 by':∀ o,byteAt ps o=if byteAt ys o=-1 then (if lo0≤o∧o < low∧o < hi then byteD off data o else -1) else byteAt ys o
 ct:((ps.length:Int) - ys.length) * 2≤low - lo0∧((ps.length:Int) - ys.length) * 2≤hi + 1 - lo0
 jl:low=lo0→(joinL ps).length≤ys.length
 jg:(joinL ps).length≤ys.length + 1
 jt:lo0 < low→∃ l,(joinL ps).getLast?=some l∧l.offset + (l.data.length:Int)=low
/-- One piece put: the list, its bytes, its joined length. -/
theorem PI.piece {n off hi lo0:Int} {data:List UInt8} {ys:List TChunk} {en low:Int} {ps:List TChunk} (h:PI n off hi lo0 data ys en low ps) (h0:0≤off) (hlo:off≤lo0) (hhi:hi≤off + data.length) {m:Int} (hm:low < m) (hm2:m≤hi) :
  asc m n (ps++[pcOf off data low m])=true∧(∀ o,byteAt (ps++[pcOf off data low m]) o=if byteAt ys o=-1 then (if lo0≤o∧o < m then byteD off data o else -1) else byteAt ys o) ∧
  (joinL (ps++[pcOf off data low m])).length≤ys.length + 1∧∃ l,(joinL (ps++[pcOf off data low m])).getLast?=some l∧l.offset + (l.data.length:Int)=m:=by
 have hl0:lo0≤low:=by rcases h.ll with h|h<;>omega
 have hpl:((pcOf off data low m).data.length:Int)=m - low:=pcOf_len (by omega) (by omega) (by omega)
 have hpo:(pcOf off data low m).offset=low:=rfl
 refine ⟨asc_snoc _ ps n h.as' (by rw [hpo];exact h.el) (fun g=>by rw [g] at hpl;simp at hpl;omega) (by rw [hpl,hpo];omega),fun o=>?_,?_,?_⟩
 ·rw [byteAt_snoc,h.by' o,pcOf_byte h0 (by omega) (by omega) (by omega)]
  by_cases g:byteAt ys o=-1
  ·simp only [if_pos g]
   by_cases g1:lo0≤o∧o < low∧o < hi
   ·have:byteD off data o≠-1:=by unfold byteD;omega
    rw [if_pos g1,if_neg this,if_pos ⟨g1.1,by omega⟩]
   ·rw [if_neg g1,if_pos rfl]
    by_cases g2:low≤o∧o < m
    ·rw [if_pos g2,if_pos (by omega)]
    ·rw [if_neg g2,if_neg (by omega)]
  ·simp only [if_neg g]
 ·rw [joinL_snoc]
  rcases h.ll with hq|hq
  ·have:=h.jl hq;have:=joinS_len (joinL ps) (pcOf off data low m);omega
  ·obtain ⟨l,e1,e2⟩:=h.jt hq.1
   rw [joinS_same e1 (by rw [e2,hpo])];exact h.jg
 ·obtain ⟨l,e1,e2⟩:=joinS_last (joinL ps) (pcOf off data low m)
  exact ⟨l,by rw [joinL_snoc];exact e1,by rw [e2,hpl,hpo];omega⟩
theorem PI.step {n off hi lo0:Int} {data:List UInt8} {ys:List TChunk} {en low:Int} {ps:List TChunk} (h:PI n off hi lo0 data ys en low ps) (h0:0≤off) (hlo:off≤lo0) (hhi:hi≤off + data.length) (hn:0≤n)
  (c:TChunk) (hc:en≤c.offset) (hd:c.data≠[]) :
  PI n off hi lo0 data (ys++[c]) (c.offset + c.data.length) (pSt off hi data (low,ps) c).1 (pSt off hi data (low,ps) c).2:=by
 have hl0:lo0≤low:=by rcases h.ll with h|h<;>omega
 have hdl:0 < c.data.length:=List.length_pos_iff.2 hd
 have hne:n≤en:=asc_le h.as'
 unfold pSt putP
 simp only
 generalize hm:(if hi < c.offset then hi else c.offset)=m
 have hmh:m≤hi∧m≤c.offset∧(m=hi∨m=c.offset):=by rw [← hm];split<;>omega
 have hlw:(if c.offset + (c.data.length:Int) > low then c.offset + (c.data.length:Int) else low)=max low (c.offset + c.data.length):=by split<;>omega
 rw [hlw]
 by_cases hp:low < m
 ·rw [if_pos hp]
  obtain ⟨p1,p2,p3,l,p4,p5⟩:=h.piece h0 hlo hhi hp hmh.1
  have hql:(ps++[pcOf off data low m]).length=ps.length + 1:=by simp
  generalize ps++[pcOf off data low m]=qs at p1 p2 p3 p4 hql ⊢
  have hmx:max low (c.offset + c.data.length)=c.offset + c.data.length:=by omega
  rw [hmx]
  refine ⟨asc_snoc c qs n p1 (by omega) hd (Int.le_refl _),by omega,.inr ⟨by omega,rfl⟩,fun o=>?_,?_,fun g=>by omega,?_,fun _=>?_⟩
  ·rw [byteAt_snoc,byteAt_snoc,p2 o]
   by_cases g:byteAt ys o=-1
   ·simp only [if_pos g]
    by_cases g1:lo0≤o∧o < m
    ·have hD:byteD off data o≠-1:=by unfold byteD;omega
     rw [if_pos g1,if_neg hD,byteC_no (by omega),if_pos rfl,if_pos (by omega)]
    ·rw [if_neg g1,if_pos rfl]
     by_cases g2:byteC o c=-1
     ·rw [if_pos g2,g2,if_neg]
      intro g3
      rw [byteC_in (by omega)] at g2
      omega
     ·rw [if_neg g2]
   ·simp only [if_neg g]
  ·have:=h.ct
   simp only [List.length_append,List.length_singleton,hql]
   omega
  ·rw [joinL_snoc]
   have:=joinS_len (joinL qs) c
   simp only [List.length_append,List.length_singleton];omega
  ·rw [joinL_snoc];exact joinS_last _ _
 ·rw [if_neg hp]
  refine ⟨asc_snoc c ps n h.as' hc hd (Int.le_refl _),by omega,?_,fun o=>?_,?_,fun g=>?_,?_,fun g=>?_⟩
  ·by_cases g:low < c.offset + c.data.length
   ·right;omega
   ·left;rcases h.ll with g2|g2<;>omega
  ·rw [byteAt_snoc,byteAt_snoc,h.by' o]
   by_cases g:byteAt ys o=-1
   ·simp only [if_pos g]
    by_cases g1:lo0≤o∧o < low∧o < hi
    ·have hD:byteD off data o≠-1:=by unfold byteD;omega
     rw [if_pos g1,if_neg hD,byteC_no (by rcases h.ll with g2|g2<;>omega),if_pos rfl,if_pos (by omega)]
    ·rw [if_neg g1,if_pos rfl]
     by_cases g2:byteC o c=-1
     ·rw [if_pos g2,g2,if_neg]
      intro g3
      rw [byteC_in (by omega)] at g2
      omega
     ·rw [if_neg g2]
   ·simp only [if_neg g]
  ·have:=h.ct
   simp only [List.length_append,List.length_singleton]
   omega
  ·rw [joinL_snoc]
   have:=joinS_len (joinL ps) c
   have:=h.jl (by omega)
   simp only [List.length_append,List.length_singleton];omega
  ·rw [joinL_snoc]
   have:=joinS_len (joinL ps) c
   have:=h.jg
   simp only [List.length_append,List.length_singleton];omega
  ·rw [joinL_snoc]
   obtain ⟨l,e1,e2⟩:=joinS_last (joinL ps) c
   exact ⟨l,e1,by rcases h.ll with g2|g2<;>omega⟩
end Gv
