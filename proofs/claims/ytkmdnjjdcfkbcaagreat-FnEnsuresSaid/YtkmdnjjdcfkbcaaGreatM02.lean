/-
  Part of the proof: the machine, what functions compute, and the plain laws.
-/
import Derived.Test.YtkmdnjjdcfkbcaaGreatM01
import Derived.Test.YtkmdnjjdcfkbcaaGreatChecked
set_option maxHeartbeats 80000000
set_option maxRecDepth 100000
namespace Gv
open Go Go.Proofs
theorem b1:Tryz.prog.follows .mixedOrders=true:=Tryz.checked.mixed
theorem aP{p:Prop}(h:p:=by first|assumption|omega):p:=h
abbrev aJ(f:FuncId)(a r:List AD):Prop:=PureCall Tryz.prog f a r
abbrev V.i(x:Int):V:=.d (.int .i64 x)
def ay(S:List Bool)(k:Nat)(a:V):V:=bif S.getD k false then a else .ak
attribute [go_sem,simp] V.i ay
@[go_sem] theorem ahD:tyI Tryz.prog 3=some (1,false):=by kernel_rfl
@[go_sem] theorem ahE:intI Tryz.prog 3=some .i64:=by kernel_rfl
@[go_sem] theorem ahF:tyI Tryz.prog 4=some (1,false):=by kernel_rfl
@[go_sem] theorem ahG:isBoolI Tryz.prog 4=true:=by kernel_rfl
@[go_sem] theorem ahH:tyI Tryz.prog 5=some (1,false):=by kernel_rfl
@[go_sem] theorem ahI:intI Tryz.prog 5=some .u8:=by kernel_rfl
@[go_sem] theorem ahJ:tyI Tryz.prog 9=some (1,false):=by kernel_rfl
@[go_sem] theorem ahK:isStrI Tryz.prog 9=true:=by kernel_rfl
@[go_sem] theorem ahL:tyI Tryz.prog 22=some (1,false):=by kernel_rfl
@[go_sem] theorem ahM:elI Tryz.prog 22=some (5,1,1):=by kernel_rfl
@[go_sem] theorem ahN:tyI Tryz.prog 25=some (8,true):=by kernel_rfl
@[go_sem] theorem ahO:tyI Tryz.prog 26=some (1,false):=by kernel_rfl
@[go_sem] theorem ahP:elI Tryz.prog 26=some (63,39,352):=by kernel_rfl
@[go_sem] theorem ahQ:tyI Tryz.prog 28=some (4,true):=by kernel_rfl
@[go_sem] theorem ahR:tyI Tryz.prog 30=some (6,true):=by kernel_rfl
@[go_sem] theorem ahS:tyI Tryz.prog 32=some (3,true):=by kernel_rfl
@[go_sem] theorem ahT:tyI Tryz.prog 34=some (4,true):=by kernel_rfl
@[go_sem] theorem ahU:tyI Tryz.prog 35=some (1,false):=by kernel_rfl
@[go_sem] theorem ahV:elI Tryz.prog 35=some (94,2,32):=by kernel_rfl
@[go_sem] theorem ahW:tyI Tryz.prog 37=some (50,true):=by kernel_rfl
@[go_sem] theorem ahX:tyI Tryz.prog 49=some (1,false):=by kernel_rfl
@[go_sem] theorem ahY:elI Tryz.prog 49=some (3,1,8):=by kernel_rfl
@[go_sem] theorem ahZ:tyI Tryz.prog 51=some (4,true):=by kernel_rfl
@[go_sem] theorem ah0:tyI Tryz.prog 52=some (1,false):=by kernel_rfl
@[go_sem] theorem ah1:elI Tryz.prog 52=some (172,2,16):=by kernel_rfl
@[go_sem] theorem ah2:tyI Tryz.prog 54=some (12,true):=by kernel_rfl
@[go_sem] theorem ah3:tyI Tryz.prog 55=some (1,false):=by kernel_rfl
@[go_sem] theorem ah4:elI Tryz.prog 55=some (174,2,24):=by kernel_rfl
@[go_sem] theorem ah5:tyI Tryz.prog 57=some (2,true):=by kernel_rfl
@[go_sem] theorem ah6:tyI Tryz.prog 59=some (6,true):=by kernel_rfl
@[go_sem] theorem ah7:tyI Tryz.prog 61=some (2,true):=by kernel_rfl
@[go_sem] theorem ah8:tyI Tryz.prog 63=some (39,true):=by kernel_rfl
@[go_sem] theorem ah9:tyI Tryz.prog 92=some (1,false):=by kernel_rfl
@[go_sem] theorem aia:elI Tryz.prog 92=some (125,9,80):=by kernel_rfl
@[go_sem] theorem aib:tyI Tryz.prog 94=some (2,true):=by kernel_rfl
@[go_sem] theorem aic:tyI Tryz.prog 125=some (9,true):=by kernel_rfl
@[go_sem] theorem aid:elI Tryz.prog 159=some (217,3,24):=by kernel_rfl
@[go_sem] theorem aie:tyI Tryz.prog 162=some (3,true):=by kernel_rfl
@[go_sem] theorem aif:tyI Tryz.prog 172=some (2,true):=by kernel_rfl
@[go_sem] theorem aih:tyI Tryz.prog 174=some (2,true):=by kernel_rfl
@[go_sem] theorem aii:tyI Tryz.prog 175=some (7,true):=by kernel_rfl
@[go_sem] theorem aij:elI Tryz.prog 188=some (9,1,16):=by kernel_rfl
@[go_sem] theorem aik:tyI Tryz.prog 217=some (3,true):=by kernel_rfl
@[go_sem] theorem ail:fdI Tryz.prog 25 0=some 0:=by kernel_rfl
@[go_sem] theorem aim:fdI Tryz.prog 25 1=some 1:=by kernel_rfl
@[go_sem] theorem ain:fdI Tryz.prog 25 2=some 2:=by kernel_rfl
@[go_sem] theorem aio:fdI Tryz.prog 25 3=some 3:=by kernel_rfl
@[go_sem] theorem aip:fdI Tryz.prog 25 4=some 4:=by kernel_rfl
@[go_sem] theorem aiq:fdI Tryz.prog 25 5=some 5:=by kernel_rfl
@[go_sem] theorem air:fdI Tryz.prog 25 6=some 6:=by kernel_rfl
@[go_sem] theorem ais:fdI Tryz.prog 25 7=some 7:=by kernel_rfl
@[go_sem] theorem ait:fdI Tryz.prog 28 0=some 0:=by kernel_rfl
@[go_sem] theorem aiu:fdI Tryz.prog 28 1=some 1:=by kernel_rfl
@[go_sem] theorem aiv:fdI Tryz.prog 28 2=some 2:=by kernel_rfl
@[go_sem] theorem aiw:fdI Tryz.prog 28 3=some 3:=by kernel_rfl
@[go_sem] theorem aix:fdI Tryz.prog 30 0=some 0:=by kernel_rfl
@[go_sem] theorem aiy:fdI Tryz.prog 30 1=some 1:=by kernel_rfl
@[go_sem] theorem aiz:fdI Tryz.prog 30 2=some 2:=by kernel_rfl
@[go_sem] theorem aiA:fdI Tryz.prog 30 3=some 3:=by kernel_rfl
@[go_sem] theorem aiB:fdI Tryz.prog 30 4=some 4:=by kernel_rfl
@[go_sem] theorem aiC:fdI Tryz.prog 30 5=some 5:=by kernel_rfl
@[go_sem] theorem aiD:fdI Tryz.prog 32 0=some 0:=by kernel_rfl
@[go_sem] theorem aiE:fdI Tryz.prog 32 1=some 1:=by kernel_rfl
@[go_sem] theorem aiF:fdI Tryz.prog 32 2=some 2:=by kernel_rfl
@[go_sem] theorem aiG:fdI Tryz.prog 34 0=some 0:=by kernel_rfl
@[go_sem] theorem aiH:fdI Tryz.prog 34 1=some 1:=by kernel_rfl
@[go_sem] theorem aiI:fdI Tryz.prog 34 2=some 2:=by kernel_rfl
@[go_sem] theorem aiJ:fdI Tryz.prog 34 3=some 3:=by kernel_rfl
@[go_sem] theorem aiK:fdI Tryz.prog 37 0=some 0:=by kernel_rfl
@[go_sem] theorem aiL:fdI Tryz.prog 37 1=some 1:=by kernel_rfl
@[go_sem] theorem aiM:fdI Tryz.prog 37 2=some 9:=by kernel_rfl
@[go_sem] theorem aiN:fdI Tryz.prog 37 3=some 17:=by kernel_rfl
@[go_sem] theorem aiO:fdI Tryz.prog 37 4=some 18:=by kernel_rfl
@[go_sem] theorem aiP:fdI Tryz.prog 37 5=some 22:=by kernel_rfl
@[go_sem] theorem aiQ:fdI Tryz.prog 37 6=some 28:=by kernel_rfl
@[go_sem] theorem aiR:fdI Tryz.prog 37 7=some 31:=by kernel_rfl
@[go_sem] theorem aiS:fdI Tryz.prog 37 8=some 34:=by kernel_rfl
@[go_sem] theorem aiT:fdI Tryz.prog 37 9=some 38:=by kernel_rfl
@[go_sem] theorem aiU:fdI Tryz.prog 37 10=some 42:=by kernel_rfl
@[go_sem] theorem aiV:fdI Tryz.prog 37 11=some 43:=by kernel_rfl
@[go_sem] theorem aiW:fdI Tryz.prog 37 12=some 44:=by kernel_rfl
@[go_sem] theorem aiX:fdI Tryz.prog 37 13=some 45:=by kernel_rfl
@[go_sem] theorem aiY:fdI Tryz.prog 37 14=some 46:=by kernel_rfl
@[go_sem] theorem aiZ:fdI Tryz.prog 37 15=some 47:=by kernel_rfl
@[go_sem] theorem ai0:fdI Tryz.prog 37 16=some 48:=by kernel_rfl
@[go_sem] theorem ai1:fdI Tryz.prog 37 17=some 49:=by kernel_rfl
@[go_sem] theorem ai2:fdI Tryz.prog 51 0=some 0:=by kernel_rfl
@[go_sem] theorem ai3:fdI Tryz.prog 51 1=some 1:=by kernel_rfl
@[go_sem] theorem ai4:fdI Tryz.prog 51 2=some 2:=by kernel_rfl
@[go_sem] theorem ai5:fdI Tryz.prog 51 3=some 3:=by kernel_rfl
@[go_sem] theorem ai6:fdI Tryz.prog 54 0=some 0:=by kernel_rfl
@[go_sem] theorem ai7:fdI Tryz.prog 54 1=some 1:=by kernel_rfl
@[go_sem] theorem ai8:fdI Tryz.prog 54 2=some 5:=by kernel_rfl
@[go_sem] theorem ai9:fdI Tryz.prog 54 3=some 6:=by kernel_rfl
@[go_sem] theorem aja:fdI Tryz.prog 54 4=some 7:=by kernel_rfl
@[go_sem] theorem ajb:fdI Tryz.prog 54 5=some 8:=by kernel_rfl
@[go_sem] theorem ajc:fdI Tryz.prog 54 6=some 9:=by kernel_rfl
@[go_sem] theorem ajd:fdI Tryz.prog 54 7=some 10:=by kernel_rfl
@[go_sem] theorem aje:fdI Tryz.prog 54 8=some 11:=by kernel_rfl
@[go_sem] theorem ajf:fdI Tryz.prog 57 0=some 0:=by kernel_rfl
@[go_sem] theorem ajg:fdI Tryz.prog 57 1=some 1:=by kernel_rfl
@[go_sem] theorem ajh:fdI Tryz.prog 59 0=some 0:=by kernel_rfl
@[go_sem] theorem aji:fdI Tryz.prog 59 1=some 1:=by kernel_rfl
@[go_sem] theorem ajj:fdI Tryz.prog 59 2=some 3:=by kernel_rfl
@[go_sem] theorem ajk:fdI Tryz.prog 59 3=some 4:=by kernel_rfl
@[go_sem] theorem ajl:fdI Tryz.prog 59 4=some 5:=by kernel_rfl
@[go_sem] theorem ajm:fdI Tryz.prog 61 0=some 0:=by kernel_rfl
@[go_sem] theorem ajn:fdI Tryz.prog 61 1=some 1:=by kernel_rfl
@[go_sem] theorem ajo:fdI Tryz.prog 63 0=some 0:=by kernel_rfl
@[go_sem] theorem ajp:fdI Tryz.prog 63 1=some 1:=by kernel_rfl
@[go_sem] theorem ajq:fdI Tryz.prog 63 2=some 13:=by kernel_rfl
@[go_sem] theorem ajr:fdI Tryz.prog 63 3=some 17:=by kernel_rfl
@[go_sem] theorem ajs:fdI Tryz.prog 63 4=some 23:=by kernel_rfl
@[go_sem] theorem ajt:fdI Tryz.prog 63 5=some 29:=by kernel_rfl
@[go_sem] theorem aju:fdI Tryz.prog 63 6=some 31:=by kernel_rfl
@[go_sem] theorem ajv:fdI Tryz.prog 63 7=some 32:=by kernel_rfl
@[go_sem] theorem ajw:fdI Tryz.prog 63 8=some 33:=by kernel_rfl
@[go_sem] theorem ajx:fdI Tryz.prog 63 9=some 34:=by kernel_rfl
@[go_sem] theorem ajy:fdI Tryz.prog 63 10=some 35:=by kernel_rfl
@[go_sem] theorem ajz:fdI Tryz.prog 63 11=some 36:=by kernel_rfl
@[go_sem] theorem ajA:fdI Tryz.prog 63 12=some 37:=by kernel_rfl
@[go_sem] theorem ajB:fdI Tryz.prog 63 13=some 38:=by kernel_rfl
@[go_sem] theorem ajC:fdI Tryz.prog 94 0=some 0:=by kernel_rfl
@[go_sem] theorem ajD:fdI Tryz.prog 94 1=some 1:=by kernel_rfl
@[go_sem] theorem ajE:fdI Tryz.prog 116 0=some 0:=by kernel_rfl
@[go_sem] theorem ajF:fdI Tryz.prog 116 1=some 1:=by kernel_rfl
@[go_sem] theorem ajG:fdI Tryz.prog 116 2=some 2:=by kernel_rfl
@[go_sem] theorem ajH:fdI Tryz.prog 125 0=some 0:=by kernel_rfl
@[go_sem] theorem ajI:fdI Tryz.prog 125 1=some 1:=by kernel_rfl
@[go_sem] theorem ajJ:fdI Tryz.prog 125 2=some 2:=by kernel_rfl
@[go_sem] theorem ajK:fdI Tryz.prog 125 3=some 3:=by kernel_rfl
@[go_sem] theorem ajL:fdI Tryz.prog 125 4=some 4:=by kernel_rfl
@[go_sem] theorem ajM:fdI Tryz.prog 125 5=some 5:=by kernel_rfl
@[go_sem] theorem ajN:fdI Tryz.prog 125 6=some 6:=by kernel_rfl
@[go_sem] theorem ajO:fdI Tryz.prog 125 7=some 7:=by kernel_rfl
@[go_sem] theorem ajP:fdI Tryz.prog 125 8=some 8:=by kernel_rfl
@[go_sem] theorem ajQ:fdI Tryz.prog 162 0=some 0:=by kernel_rfl
@[go_sem] theorem ajR:fdI Tryz.prog 162 1=some 1:=by kernel_rfl
@[go_sem] theorem ajS:fdI Tryz.prog 162 2=some 2:=by kernel_rfl
@[go_sem] theorem ajT:fdI Tryz.prog 172 0=some 0:=by kernel_rfl
@[go_sem] theorem ajU:fdI Tryz.prog 172 1=some 1:=by kernel_rfl
@[go_sem] theorem ajV:fdI Tryz.prog 174 0=some 0:=by kernel_rfl
@[go_sem] theorem ajW:fdI Tryz.prog 174 1=some 1:=by kernel_rfl
@[go_sem] theorem ajX:fdI Tryz.prog 217 0=some 0:=by kernel_rfl
@[go_sem] theorem ajY:fdI Tryz.prog 217 1=some 1:=by kernel_rfl
@[go_sem] theorem ajZ:zrI Tryz.prog 3=some [.d (.int .i64 0)]:=by kernel_rfl
@[go_sem] theorem aj0:zrI Tryz.prog 5=some [.d (.int .u8 0)]:=by kernel_rfl
@[go_sem] theorem aj1:zrI Tryz.prog 9=some [.d (.str [])]:=by kernel_rfl
@[go_sem] theorem aj2:zrI Tryz.prog 25=some [.d (.int .i64 0),.d (.int .i64 0),.d (.int .i64 0),.d (.int .i64 0),.d (.int .i64 0),.d (.int .i64 0),.d (.int .i64 0),.d (.int .i64 0)]:=by kernel_rfl
@[go_sem] theorem aj3:zrI Tryz.prog 28=some [.d (.int .i64 0),.d (.int .i64 0),.d (.int .i64 0),.d (.int .i64 0)]:=by kernel_rfl
@[go_sem] theorem aj4:zrI Tryz.prog 30=some [.d (.int .i64 0),.d (.int .i64 0),.d (.int .i64 0),.d (.int .i64 0),.d (.int .i64 0),.d (.int .i64 0)]:=by kernel_rfl
@[go_sem] theorem aj5:zrI Tryz.prog 32=some [.d (.int .i64 0),.d (.int .i64 0),.d (.int .i64 0)]:=by kernel_rfl
@[go_sem] theorem aj6:zrI Tryz.prog 34=some [.d (.int .i64 0),.d (.int .i64 0),.d (.int .i64 0),.d (.int .i64 0)]:=by kernel_rfl
@[go_sem] theorem aj7:zrI Tryz.prog 37=some [.d (.bool false),.d (.int .i64 0),.d (.int .i64 0),.d (.int .i64 0),.d (.int .i64 0),.d (.int .i64 0),.d (.int .i64 0),.d (.int .i64 0),.d (.int .i64 0),.d (.int .i64 0),.d (.int .i64 0),.d (.int .i64 0),.d (.int .i64 0),.d (.int .i64 0),.d (.int .i64 0),.d (.int .i64 0),.d (.int .i64 0),.dw 39,.d (.int .i64 0),.d (.int .i64 0),.d (.int .i64 0),.d (.int .i64 0),.d (.int .i64 0),.d (.int .i64 0),.d (.int .i64 0),.d (.int .i64 0),.d (.int .i64 0),.d (.int .i64 0),.d (.int .i64 0),.d (.int .i64 0),.d (.int .i64 0),.d (.int .i64 0),.d (.int .i64 0),.d (.int .i64 0),.d (.int .i64 0),.d (.int .i64 0),.d (.int .i64 0),.d (.int .i64 0),.d (.int .i64 0),.d (.int .i64 0),.d (.int .i64 0),.d (.int .i64 0),.d (.bool false),.d (.bool false),.d (.bool false),.d (.int .i64 0),.d (.int .i64 0),.dw 2,.d (.int .i64 0),.d (.int .i64 0)]:=by kernel_rfl
@[go_sem] theorem aj8:zrI Tryz.prog 51=some [.d (.int .i64 0),.d (.int .i64 0),.d (.int .i64 0),.dw 1]:=by kernel_rfl
@[go_sem] theorem aj9:zrI Tryz.prog 54=some [.d (.int .i64 0),.d (.int .i64 0),.d (.int .i64 0),.d (.int .i64 0),.dw 1,.dw 2,.dw 2,.dw 2,.d (.int .i64 0),.d (.int .i64 0),.d (.int .i64 0),.d (.int .i64 0)]:=by kernel_rfl
@[go_sem] theorem aka:zrI Tryz.prog 57=some [.d (.int .i64 0),.dw 2]:=by kernel_rfl
@[go_sem] theorem akb:zrI Tryz.prog 59=some [.d (.int .i64 0),.d (.int .i64 0),.dw 2,.d (.int .i64 0),.d (.int .i64 0),.d (.int .i64 0)]:=by kernel_rfl
@[go_sem] theorem akc:zrI Tryz.prog 61=some [.d (.int .i64 0),.d (.bool false)]:=by kernel_rfl
@[go_sem] theorem akd:zrI Tryz.prog 63=some [.d (.int .i64 0),.d (.int .i64 0),.d (.int .i64 0),.d (.int .i64 0),.d (.int .i64 0),.dw 1,.dw 2,.dw 2,.dw 2,.d (.int .i64 0),.d (.int .i64 0),.d (.int .i64 0),.d (.int .i64 0),.d (.int .i64 0),.d (.int .i64 0),.d (.int .i64 0),.d (.int .i64 0),.d (.int .i64 0),.d (.int .i64 0),.dw 2,.d (.int .i64 0),.d (.int .i64 0),.d (.int .i64 0),.d (.int .i64 0),.d (.int .i64 0),.d (.int .i64 0),.d (.int .i64 0),.d (.int .i64 0),.d (.int .i64 0),.d (.int .i64 0),.d (.bool false),.d (.bool false),.d (.bool false),.d (.bool false),.d (.bool false),.d (.bool false),.d (.bool false),.d (.int .i64 0),.d (.bool false)]:=by kernel_rfl
@[go_sem] theorem ake:zrI Tryz.prog 94=some [.d (.int .i64 0),.dw 9]:=by kernel_rfl
@[go_sem] theorem akf:zrI Tryz.prog 116=some [.dw 1,.d (.int .i64 0),.d (.int .i64 0)]:=by kernel_rfl
@[go_sem] theorem akg:zrI Tryz.prog 125=some [.d (.int .i64 0),.d (.int .i64 0),.d (.int .i64 0),.d (.str []),.d (.bool false),.d (.int .i64 0),.d (.int .i64 0),.d (.int .i64 0),.d (.bool false)]:=by kernel_rfl
@[go_sem] theorem akh:zrI Tryz.prog 162=some [.d (.int .i64 0),.d (.str []),.d (.bool false)]:=by kernel_rfl
@[go_sem] theorem aki:zrI Tryz.prog 172=some [.d (.int .i64 0),.d (.int .i64 0)]:=by kernel_rfl
@[go_sem] theorem akj:zrI Tryz.prog 174=some [.d (.int .i64 0),.d (.str [])]:=by kernel_rfl
@[go_sem] theorem akk:zrI Tryz.prog 175=some [.d (.bool false),.d (.bool false),.d (.bool false),.d (.bool false),.d (.bool false),.d (.bool false),.d (.bool false)]:=by kernel_rfl
@[go_sem] theorem akl:zrI Tryz.prog 217=some [.d (.int .i64 0),.d (.int .i64 0),.d (.bool false)]:=by kernel_rfl
@[go_sem] theorem akm:plI Tryz.prog 25=some fun j=>([(0,1),(1,1),(2,1),(3,1),(4,1),(5,1),(6,1),(7,1)]:List (Nat×Nat))[j]?:=by kernel_rfl
@[go_sem] theorem akn:plI Tryz.prog 28=some fun j=>([(0,1),(1,1),(2,1),(3,1)]:List (Nat×Nat))[j]?:=by kernel_rfl
@[go_sem] theorem ako:plI Tryz.prog 30=some fun j=>([(0,1),(1,1),(2,1),(3,1),(4,1),(5,1)]:List (Nat×Nat))[j]?:=by kernel_rfl
@[go_sem] theorem akp:plI Tryz.prog 32=some fun j=>([(0,1),(1,1),(2,1)]:List (Nat×Nat))[j]?:=by kernel_rfl
@[go_sem] theorem akq:plI Tryz.prog 34=some fun j=>([(0,1),(1,1),(2,1),(3,1)]:List (Nat×Nat))[j]?:=by kernel_rfl
@[go_sem] theorem akr:plI Tryz.prog 37=some fun j=>([(0,1),(1,8),(9,8),(17,1),(18,4),(22,6),(28,3),(31,3),(34,4),(38,4),(42,1),(43,1),(44,1),(45,1),(46,1),(47,1),(48,1),(49,1)]:List (Nat×Nat))[j]?:=by kernel_rfl
@[go_sem] theorem aks:plI Tryz.prog 51=some fun j=>([(0,1),(1,1),(2,1),(3,1)]:List (Nat×Nat))[j]?:=by kernel_rfl
@[go_sem] theorem akt:plI Tryz.prog 54=some fun j=>([(0,1),(1,4),(5,1),(6,1),(7,1),(8,1),(9,1),(10,1),(11,1)]:List (Nat×Nat))[j]?:=by kernel_rfl
@[go_sem] theorem aku:plI Tryz.prog 57=some fun j=>([(0,1),(1,1)]:List (Nat×Nat))[j]?:=by kernel_rfl
@[go_sem] theorem akv:plI Tryz.prog 59=some fun j=>([(0,1),(1,2),(3,1),(4,1),(5,1)]:List (Nat×Nat))[j]?:=by kernel_rfl
@[go_sem] theorem akw:plI Tryz.prog 61=some fun j=>([(0,1),(1,1)]:List (Nat×Nat))[j]?:=by kernel_rfl
@[go_sem] theorem akx:plI Tryz.prog 63=some fun j=>([(0,1),(1,12),(13,4),(17,6),(23,6),(29,2),(31,1),(32,1),(33,1),(34,1),(35,1),(36,1),(37,1),(38,1)]:List (Nat×Nat))[j]?:=by kernel_rfl
@[go_sem] theorem aky:plI Tryz.prog 94=some fun j=>([(0,1),(1,1)]:List (Nat×Nat))[j]?:=by kernel_rfl
@[go_sem] theorem akz:plI Tryz.prog 116=some fun j=>([(0,1),(1,1),(2,1)]:List (Nat×Nat))[j]?:=by kernel_rfl
@[go_sem] theorem akA:plI Tryz.prog 125=some fun j=>([(0,1),(1,1),(2,1),(3,1),(4,1),(5,1),(6,1),(7,1),(8,1)]:List (Nat×Nat))[j]?:=by kernel_rfl
@[go_sem] theorem akB:plI Tryz.prog 162=some fun j=>([(0,1),(1,1),(2,1)]:List (Nat×Nat))[j]?:=by kernel_rfl
@[go_sem] theorem akC:plI Tryz.prog 172=some fun j=>([(0,1),(1,1)]:List (Nat×Nat))[j]?:=by kernel_rfl
@[go_sem] theorem akD:plI Tryz.prog 174=some fun j=>([(0,1),(1,1)]:List (Nat×Nat))[j]?:=by kernel_rfl
@[go_sem] theorem akE:plI Tryz.prog 175=some fun j=>some (j * 1,1):=by kernel_rfl
@[go_sem] theorem akF:plI Tryz.prog 217=some fun j=>([(0,1),(1,2)]:List (Nat×Nat))[j]?:=by kernel_rfl
@[go_sem] theorem akG:nV Tryz.prog 25 [.i .i64,.i .i64,.i .i64,.i .i64,.i .i64,.i .i64,.i .i64,.i .i64]=True:=eq_true (EqOK_of (by kernel_rfl) (by kernel_rfl) (by kernel_rfl) (by kernel_rfl) (by kernel_rfl))
@[go_sem] theorem akH:nV Tryz.prog 28 [.i .i64,.i .i64,.i .i64,.i .i64]=True:=eq_true (EqOK_of (by kernel_rfl) (by kernel_rfl) (by kernel_rfl) (by kernel_rfl) (by kernel_rfl))
@[go_sem] theorem akI:nV Tryz.prog 30 [.i .i64,.i .i64,.i .i64,.i .i64,.i .i64,.i .i64]=True:=eq_true (EqOK_of (by kernel_rfl) (by kernel_rfl) (by kernel_rfl) (by kernel_rfl) (by kernel_rfl))
@[go_sem] theorem akJ:nV Tryz.prog 32 [.i .i64,.i .i64,.i .i64]=True:=eq_true (EqOK_of (by kernel_rfl) (by kernel_rfl) (by kernel_rfl) (by kernel_rfl) (by kernel_rfl))
@[go_sem] theorem akK:nV Tryz.prog 34 [.i .i64,.i .i64,.i .i64,.i .i64]=True:=eq_true (EqOK_of (by kernel_rfl) (by kernel_rfl) (by kernel_rfl) (by kernel_rfl) (by kernel_rfl))
@[go_sem] theorem akL:nV Tryz.prog 61 [.i .i64,.b]=True:=eq_true (EqOK_of (by kernel_rfl) (by kernel_rfl) (by kernel_rfl) (by kernel_rfl) (by kernel_rfl))
@[go_sem] theorem akM:nV Tryz.prog 125 [.i .i64,.i .i64,.i .i64,.s,.b,.i .i64,.i .i64,.i .i64,.b]=True:=eq_true (EqOK_of (by kernel_rfl) (by kernel_rfl) (by kernel_rfl) (by kernel_rfl) (by kernel_rfl))
@[go_sem] theorem akN:nV Tryz.prog 172 [.i .i64,.i .i64]=True:=eq_true (EqOK_of (by kernel_rfl) (by kernel_rfl) (by kernel_rfl) (by kernel_rfl) (by kernel_rfl))
@[go_sem] theorem akO:nV Tryz.prog 174 [.i .i64,.s]=True:=eq_true (EqOK_of (by kernel_rfl) (by kernel_rfl) (by kernel_rfl) (by kernel_rfl) (by kernel_rfl))
@[go_sem] theorem akP:nV Tryz.prog 175 [.b,.b,.b,.b,.b,.b,.b]=True:=eq_true (EqOK_of (by kernel_rfl) (by kernel_rfl) (by kernel_rfl) (by kernel_rfl) (by kernel_rfl))
theorem aN{f:FuncId}{fn:Func}{c:Code}{args res:List AD}(n:Nat)(hf:Tryz.prog.funcs[f]?=some fn)(hcall:∀(args:Array Value) (w:World),(callFunc f args).run Tryz.prog w=.ok (.enter f args) w)(rs:List ResultVar)(h:um args→codeE Tryz.prog [] c ⟨ts0 args n,[]⟩ (bG (gM Tryz.prog rs res) .mk) [] (bG (gM Tryz.prog rs res) .mk))(hb:fn.body=some c:=by rfl)(hn:fn.ntmps=n:=by rfl)(hr:fn.results.toList=rs:=by rfl):PureCall Tryz.prog f args res:=
 Z1 hf hb hcall b1 _ (by rw[hn];exact LG args n) rs hr h
def aW(n:Int):List D:=[.int .i64 n]
def mu(s:List UInt8):List D:=[.str s]
def eU8(n:Int):List D:=[.int .u8 n]
theorem ua{α:Type}{f:α→List D}(h:∀a,(f a).all D.flat=true)(xs:List α):gy (xs.map f)=true:=by simp[gy,h]
@[go_sem] theorem apj(xs:List Int):gy (xs.map aW)=true:=ua (fun _=>rfl) xs
@[go_sem] theorem apk(xs:List (List UInt8)):gy (xs.map mu)=true:=ua (fun _=>rfl) xs
structure bW where
 ring:Int
 bX:Int
 iK:Int
 cY:Int
 kl:Int
 jE:Int
 ey:Int
 g7:Int
 deriving DecidableEq
def bW.enc(x:bW):List D:=[.int .i64 x.ring,.int .i64 x.bX,.int .i64 x.iK,.int .i64 x.cY,.int .i64 x.kl,.int .i64 x.jE,.int .i64 x.ey,.int .i64 x.g7]
@[go_sem] theorem apl(xs:List bW):gy (xs.map bW.enc)=true:=ua (fun _=>rfl) xs
structure dm where
 size:Int
 base:Int
 cv:Int
 cells:List Int
 deriving DecidableEq
def dm.enc(x:dm):List D:=[.int .i64 x.size,.int .i64 x.base,.int .i64 x.cv,.sl 1 (x.cells.map aW)]
structure aa where
 low:Int
 high:Int
 deriving DecidableEq
def aa.enc(x:aa):List D:=[.int .i64 x.low,.int .i64 x.high]
@[go_sem] theorem apm(xs:List aa):gy (xs.map aa.enc)=true:=ua (fun _=>rfl) xs
structure aO where
 state:Int
 ring:dm
 pending:List aa
 flight:List aa
 cG:List aa
 bn:Int
 a2:Int
 sent:Int
 code:Int
 deriving DecidableEq
def aO.enc(x:aO):List D:=[.int .i64 x.state,.int .i64 x.ring.size,.int .i64 x.ring.base,.int .i64 x.ring.cv,.sl 1 (x.ring.cells.map aW),.sl 2 (x.pending.map aa.enc),.sl 2 (x.flight.map aa.enc),.sl 2 (x.cG.map aa.enc),.int .i64 x.bn,.int .i64 x.a2,.int .i64 x.sent,.int .i64 x.code]
structure eJ where
 aR:Int
 used:Int
 blocked:Int
 told:Int
 deriving DecidableEq
def eJ.enc(x:eJ):List D:=[.int .i64 x.aR,.int .i64 x.used,.int .i64 x.blocked,.int .i64 x.told]
@[go_sem] theorem apn(xs:List eJ):gy (xs.map eJ.enc)=true:=ua (fun _=>rfl) xs
structure aA where
 offset:Int
 data:List UInt8
 deriving DecidableEq
def aA.enc(x:aA):List D:=[.int .i64 x.offset,.str x.data]
@[go_sem] theorem apo(xs:List aA):gy (xs.map aA.enc)=true:=ua (fun _=>rfl) xs
structure kC where
 next:Int
 bO:List aA
 deriving DecidableEq
def kC.enc(x:kC):List D:=[.int .i64 x.next,.sl 2 (x.bO.map aA.enc)]
structure bL where
 state:Int
 buffer:kC
 bn:Int
 fO:Int
 code:Int
 deriving DecidableEq
def bL.enc(x:bL):List D:=[.int .i64 x.state,.int .i64 x.buffer.next,.sl 2 (x.buffer.bO.map aA.enc),.int .i64 x.bn,.int .i64 x.fO,.int .i64 x.code]
structure ep where
 size:Int
 most:Int
 aR:Int
 seen:Int
 read:Int
 jP:Int
 deriving DecidableEq
def ep.enc(x:ep):List D:=[.int .i64 x.size,.int .i64 x.most,.int .i64 x.aR,.int .i64 x.seen,.int .i64 x.read,.int .i64 x.jP]
@[go_sem] theorem apq(xs:List ep):gy (xs.map ep.enc)=true:=ua (fun _=>rfl) xs
structure ie where
 iw:Int
 hR:Bool
 deriving DecidableEq
def ie.enc(x:ie):List D:=[.int .i64 x.iw,.bool x.hR]
@[go_sem] theorem apr(xs:List ie):gy (xs.map ie.enc)=true:=ua (fun _=>rfl) xs
structure ae where
 id:Int
 send:aO
 dL:eJ
 recv:bL
 bX:ep
 priority:ie
 eU:Bool
 fC:Bool
 iJ:Bool
 iM:Bool
 mx:Bool
 lG:Bool
 nr:Int
 counted:Bool
 deriving DecidableEq
def ae.enc(x:ae):List D:=[.int .i64 x.id,.int .i64 x.send.state,.int .i64 x.send.ring.size,.int .i64 x.send.ring.base,.int .i64 x.send.ring.cv,.sl 1 (x.send.ring.cells.map aW),.sl 2 (x.send.pending.map aa.enc),.sl 2 (x.send.flight.map aa.enc),.sl 2 (x.send.cG.map aa.enc),.int .i64 x.send.bn,.int .i64 x.send.a2,.int .i64 x.send.sent,.int .i64 x.send.code,.int .i64 x.dL.aR,.int .i64 x.dL.used,.int .i64 x.dL.blocked,.int .i64 x.dL.told,.int .i64 x.recv.state,.int .i64 x.recv.buffer.next,.sl 2 (x.recv.buffer.bO.map aA.enc),.int .i64 x.recv.bn,.int .i64 x.recv.fO,.int .i64 x.recv.code,.int .i64 x.bX.size,.int .i64 x.bX.most,.int .i64 x.bX.aR,.int .i64 x.bX.seen,.int .i64 x.bX.read,.int .i64 x.bX.jP,.int .i64 x.priority.iw,.bool x.priority.hR,.bool x.eU,.bool x.fC,.bool x.iJ,.bool x.iM,.bool x.mx,.bool x.lG,.int .i64 x.nr,.bool x.counted]
structure gZ where
 aR:Int
 opened:Int
 blocked:Int
 deriving DecidableEq
def gZ.enc(x:gZ):List D:=[.int .i64 x.aR,.int .i64 x.opened,.int .i64 x.blocked]
@[go_sem] theorem aps(xs:List gZ):gy (xs.map gZ.enc)=true:=ua (fun _=>rfl) xs
structure dB where
 most:Int
 aR:Int
 seen:Int
 closed:Int
 deriving DecidableEq
def dB.enc(x:dB):List D:=[.int .i64 x.most,.int .i64 x.aR,.int .i64 x.seen,.int .i64 x.closed]
@[go_sem] theorem apt(xs:List dB):gy (xs.map dB.enc)=true:=ua (fun _=>rfl) xs
structure ao where
 kind:Int
 stream:Int
 offset:Int
 data:List UInt8
 a2:Bool
 code:Int
 aR:Int
 bn:Int
 ey:Bool
 deriving DecidableEq
def ao.enc(x:ao):List D:=[.int .i64 x.kind,.int .i64 x.stream,.int .i64 x.offset,.str x.data,.bool x.a2,.int .i64 x.code,.int .i64 x.aR,.int .i64 x.bn,.bool x.ey]
@[go_sem] theorem apu(xs:List ao):gy (xs.map ao.enc)=true:=ua (fun _=>rfl) xs
structure aD where
 number:Int
 frames:List ao
 deriving DecidableEq
def aD.enc(x:aD):List D:=[.int .i64 x.number,.sl 9 (x.frames.map ao.enc)]
structure J where
 bV:Bool
 own:bW
 peer:bW
 streams:List ae
 cY:eJ
 dO:ep
 e7:gZ
 e6:gZ
 cu:dB
 ct:dB
 vr:Bool
 mW:Bool
 mX:Bool
 fq:Int
 number:Int
 packets:List aD
 h8:Int
 closed:Int
 deriving DecidableEq
def J.enc(x:J):List D:=[.bool x.bV,.int .i64 x.own.ring,.int .i64 x.own.bX,.int .i64 x.own.iK,.int .i64 x.own.cY,.int .i64 x.own.kl,.int .i64 x.own.jE,.int .i64 x.own.ey,.int .i64 x.own.g7,.int .i64 x.peer.ring,.int .i64 x.peer.bX,.int .i64 x.peer.iK,.int .i64 x.peer.cY,.int .i64 x.peer.kl,.int .i64 x.peer.jE,.int .i64 x.peer.ey,.int .i64 x.peer.g7,.sl 39 (x.streams.map ae.enc),.int .i64 x.cY.aR,.int .i64 x.cY.used,.int .i64 x.cY.blocked,.int .i64 x.cY.told,.int .i64 x.dO.size,.int .i64 x.dO.most,.int .i64 x.dO.aR,.int .i64 x.dO.seen,.int .i64 x.dO.read,.int .i64 x.dO.jP,.int .i64 x.e7.aR,.int .i64 x.e7.opened,.int .i64 x.e7.blocked,.int .i64 x.e6.aR,.int .i64 x.e6.opened,.int .i64 x.e6.blocked,.int .i64 x.cu.most,.int .i64 x.cu.aR,.int .i64 x.cu.seen,.int .i64 x.cu.closed,.int .i64 x.ct.most,.int .i64 x.ct.aR,.int .i64 x.ct.seen,.int .i64 x.ct.closed,.bool x.vr,.bool x.mW,.bool x.mX,.int .i64 x.fq,.int .i64 x.number,.sl 2 (x.packets.map aD.enc),.int .i64 x.h8,.int .i64 x.closed]
structure dD where
 id:Int
 priority:ie
 deriving DecidableEq
def dD.enc(x:dD):List D:=[.int .i64 x.id,.int .i64 x.priority.iw,.bool x.priority.hR]
@[go_sem] theorem apv(xs:List dD):gy (xs.map dD.enc)=true:=ua (fun _=>rfl) xs
structure cf where
 offset:Int
 data:List UInt8
 a2:Bool
 deriving DecidableEq
def cf.enc(x:cf):List D:=[.int .i64 x.offset,.str x.data,.bool x.a2]
@[go_sem] theorem apw(xs:List cf):gy (xs.map cf.enc)=true:=ua (fun _=>rfl) xs
def J.bE(x:J):List V:=[.d (.bool x.bV),.i x.own.ring,.i x.own.bX,.i x.own.iK,.i x.own.cY,.i x.own.kl,.i x.own.jE,.i x.own.ey,.i x.own.g7,.i x.peer.ring,.i x.peer.bX,.i x.peer.iK,.i x.peer.cY,.i x.peer.kl,.i x.peer.jE,.i x.peer.ey,.i x.peer.g7,.d (.sl 39 (x.streams.map ae.enc)),.i x.cY.aR,.i x.cY.used,.i x.cY.blocked,.i x.cY.told,.i x.dO.size,.i x.dO.most,.i x.dO.aR,.i x.dO.seen,.i x.dO.read,.i x.dO.jP,.i x.e7.aR,.i x.e7.opened,.i x.e7.blocked,.i x.e6.aR,.i x.e6.opened,.i x.e6.blocked,.i x.cu.most,.i x.cu.aR,.i x.cu.seen,.i x.cu.closed,.i x.ct.most,.i x.ct.aR,.i x.ct.seen,.i x.ct.closed,.d (.bool x.vr),.d (.bool x.mW),.d (.bool x.mX),.i x.fq,.i x.number,.d (.sl 2 (x.packets.map aD.enc)),.i x.h8,.i x.closed]
def J.vc(x:J)(fX cm:V):List V:=[.d (.bool x.bV),.i x.own.ring,.i x.own.bX,.i x.own.iK,.i x.own.cY,.i x.own.kl,.i x.own.jE,.i x.own.ey,.i x.own.g7,.i x.peer.ring,.i x.peer.bX,.i x.peer.iK,.i x.peer.cY,.i x.peer.kl,.i x.peer.jE,.i x.peer.ey,.i x.peer.g7,fX,.i x.cY.aR,.i x.cY.used,.i x.cY.blocked,.i x.cY.told,.i x.dO.size,.i x.dO.most,.i x.dO.aR,.i x.dO.seen,.i x.dO.read,.i x.dO.jP,.i x.e7.aR,.i x.e7.opened,.i x.e7.blocked,.i x.e6.aR,.i x.e6.opened,.i x.e6.blocked,.i x.cu.most,.i x.cu.aR,.i x.cu.seen,.i x.cu.closed,.i x.ct.most,.i x.ct.aR,.i x.ct.seen,.i x.ct.closed,.d (.bool x.vr),.d (.bool x.mW),.d (.bool x.mX),.i x.fq,.i x.number,cm,.i x.h8,.i x.closed]
def J.bw:List V:=[.d (.bool false),.i 0,.i 0,.i 0,.i 0,.i 0,.i 0,.i 0,.i 0,.i 0,.i 0,.i 0,.i 0,.i 0,.i 0,.i 0,.i 0,.dw 39,.i 0,.i 0,.i 0,.i 0,.i 0,.i 0,.i 0,.i 0,.i 0,.i 0,.i 0,.i 0,.i 0,.i 0,.i 0,.i 0,.i 0,.i 0,.i 0,.i 0,.i 0,.i 0,.i 0,.i 0,.d (.bool false),.d (.bool false),.d (.bool false),.i 0,.i 0,.dw 2,.i 0,.i 0]
attribute [go_sem,simp] J.enc J.bE J.vc J.bw
def ae.bE(x:ae):List V:=[.i x.id,.i x.send.state,.i x.send.ring.size,.i x.send.ring.base,.i x.send.ring.cv,.d (.sl 1 (x.send.ring.cells.map aW)),.d (.sl 2 (x.send.pending.map aa.enc)),.d (.sl 2 (x.send.flight.map aa.enc)),.d (.sl 2 (x.send.cG.map aa.enc)),.i x.send.bn,.i x.send.a2,.i x.send.sent,.i x.send.code,.i x.dL.aR,.i x.dL.used,.i x.dL.blocked,.i x.dL.told,.i x.recv.state,.i x.recv.buffer.next,.d (.sl 2 (x.recv.buffer.bO.map aA.enc)),.i x.recv.bn,.i x.recv.fO,.i x.recv.code,.i x.bX.size,.i x.bX.most,.i x.bX.aR,.i x.bX.seen,.i x.bX.read,.i x.bX.jP,.i x.priority.iw,.d (.bool x.priority.hR),.d (.bool x.eU),.d (.bool x.fC),.d (.bool x.iJ),.d (.bool x.iM),.d (.bool x.mx),.d (.bool x.lG),.i x.nr,.d (.bool x.counted)]
def ae.vc(x:ae)(fX cm cB cx e0:V):List V:=[.i x.id,.i x.send.state,.i x.send.ring.size,.i x.send.ring.base,.i x.send.ring.cv,fX,cm,cB,cx,.i x.send.bn,.i x.send.a2,.i x.send.sent,.i x.send.code,.i x.dL.aR,.i x.dL.used,.i x.dL.blocked,.i x.dL.told,.i x.recv.state,.i x.recv.buffer.next,e0,.i x.recv.bn,.i x.recv.fO,.i x.recv.code,.i x.bX.size,.i x.bX.most,.i x.bX.aR,.i x.bX.seen,.i x.bX.read,.i x.bX.jP,.i x.priority.iw,.d (.bool x.priority.hR),.d (.bool x.eU),.d (.bool x.fC),.d (.bool x.iJ),.d (.bool x.iM),.d (.bool x.mx),.d (.bool x.lG),.i x.nr,.d (.bool x.counted)]
def ae.bw:List V:=[.i 0,.i 0,.i 0,.i 0,.i 0,.dw 1,.dw 2,.dw 2,.dw 2,.i 0,.i 0,.i 0,.i 0,.i 0,.i 0,.i 0,.i 0,.i 0,.i 0,.dw 2,.i 0,.i 0,.i 0,.i 0,.i 0,.i 0,.i 0,.i 0,.i 0,.i 0,.d (.bool false),.d (.bool false),.d (.bool false),.d (.bool false),.d (.bool false),.d (.bool false),.d (.bool false),.i 0,.d (.bool false)]
attribute [go_sem,simp] ae.enc ae.bE ae.vc ae.bw
def aO.bE(x:aO):List V:=[.i x.state,.i x.ring.size,.i x.ring.base,.i x.ring.cv,.d (.sl 1 (x.ring.cells.map aW)),.d (.sl 2 (x.pending.map aa.enc)),.d (.sl 2 (x.flight.map aa.enc)),.d (.sl 2 (x.cG.map aa.enc)),.i x.bn,.i x.a2,.i x.sent,.i x.code]
def aO.vc(x:aO)(fX cm cB cx:V):List V:=[.i x.state,.i x.ring.size,.i x.ring.base,.i x.ring.cv,fX,cm,cB,cx,.i x.bn,.i x.a2,.i x.sent,.i x.code]
def aO.bw:List V:=[.i 0,.i 0,.i 0,.i 0,.dw 1,.dw 2,.dw 2,.dw 2,.i 0,.i 0,.i 0,.i 0]
attribute [go_sem,simp] aO.enc aO.bE aO.vc aO.bw
def bL.bE(x:bL):List V:=[.i x.state,.i x.buffer.next,.d (.sl 2 (x.buffer.bO.map aA.enc)),.i x.bn,.i x.fO,.i x.code]
def bL.vc(x:bL)(fX:V):List V:=[.i x.state,.i x.buffer.next,fX,.i x.bn,.i x.fO,.i x.code]
def bL.bw:List V:=[.i 0,.i 0,.dw 2,.i 0,.i 0,.i 0]
attribute [go_sem,simp] bL.enc bL.bE bL.vc bL.bw
def ao.bE(x:ao):List V:=[.i x.kind,.i x.stream,.i x.offset,.d (.str x.data),.d (.bool x.a2),.i x.code,.i x.aR,.i x.bn,.d (.bool x.ey)]
def ao.bw:List V:=[.i 0,.i 0,.i 0,.d (.str []),.d (.bool false),.i 0,.i 0,.i 0,.d (.bool false)]
attribute [go_sem,simp] ao.enc ao.bE ao.bw
def ep.bE(x:ep):List V:=[.i x.size,.i x.most,.i x.aR,.i x.seen,.i x.read,.i x.jP]
def ep.bw:List V:=[.i 0,.i 0,.i 0,.i 0,.i 0,.i 0]
attribute [go_sem,simp] ep.enc ep.bE ep.bw
def bW.bE(x:bW):List V:=[.i x.ring,.i x.bX,.i x.iK,.i x.cY,.i x.kl,.i x.jE,.i x.ey,.i x.g7]
def bW.bw:List V:=[.i 0,.i 0,.i 0,.i 0,.i 0,.i 0,.i 0,.i 0]
attribute [go_sem,simp] bW.enc bW.bE bW.bw
theorem b5{α:Type}(f:α→List D)(xs:List α)(i:Nat)(h:i<xs.length):(xs.map f)[i]?=some (f xs[i]):=by simp[h]
theorem dK{i m:Nat}(h:i<m)(hm:m≤maxLen):IntKind.i64.wrap ((i:Int)+1)=((i+1:Nat):Int):=by
 simp only[maxLen]at hm;rw[bz]<;>omega
theorem DM{n:Int}(h:dOk (.int .i64 n)):-9223372036854775808≤n∧n≤9223372036854775807:=by
 have h1:IntKind.i64.min=-9223372036854775808:=by decide
 have h2:IntKind.i64.max=9223372036854775807:=by decide
 simp only[dOk,h1,h2]at h;exact h
theorem u'{α:Type}{xs ys:List α}{i:Nat}(he:xs.take i=ys.take i)(hx:i<xs.length)(hy:i<ys.length)(h:xs[i]=ys[i]):xs.take (i+1)=ys.take (i+1):=by
 rw[hj,hj,he,b8 hx,b8 hy,h]
theorem fr{α:Type}{e:α→List D}{sz:Nat}{xs:List α}{rs:List AD}(h:um (.one (.sl sz (xs.map e))::rs)):xs.length≤maxLen:=by
 have:=h.1.1;rwa [I]at this
def aeM(k:Int):Int:=IntKind.i64.wrap (k+1)
def nxs:Nat→Int→Int
 |0,k=>k
 |n+1,k=>aeM (nxs n k)
theorem N'(b:Nat)(k:Int):∀a,nxs (a+b) k=nxs a (nxs b k)
 |0=>by simp[nxs]
 |a+1=>by rw[Nat.add_right_comm,nxs,N' b k a];rfl
section
variable {α:Type} (mk:Int→α) (c:Nat)
def BC(k:Int)(xs:List α)(i:Nat):List α:=(List.range i).map (fun j=>mk (nxs (c * j) k))++xs.drop i
theorem aeN(k:Int)(xs:List α)(i:Nat)(h:i≤xs.length):(BC mk c k xs i).length=xs.length:=by simp[BC];omega
@[go_sem] theorem aeO(k:Int)(xs:List α):(BC mk c k xs xs.length).length=xs.length:=aeN mk c k xs _ (Nat.le_refl _)
@[go_sem] theorem aoK(e:α→List D)(k:Int)(xs:List α):((BC mk c k xs xs.length).map e).take xs.length=(BC mk c k xs xs.length).map e:=dH (by simp[aeO])
def heldL [DecidableEq α]:Int→List α→Int
 |k,[]=>k
 |k,x::xs=>if x=mk k then heldL (nxs c k) xs else -1
theorem Va [DecidableEq α]:∀(n:Nat) (k:Int),heldL mk c k ((List.range n).map fun j=>mk (nxs (c * j) k))=nxs (c * n) k
 |0,k=>by simp[heldL,nxs]
 |n+1,k=>by
  rw[List.range_succ_eq_map,List.map_cons,List.map_map,heldL,if_pos (by simp[nxs])];have:((fun j=>mk (nxs (c * j) k))∘Nat.succ)=fun j=>mk (nxs (c * j) (nxs c k)):=by
   funext j
   simp only[Function.comp,Nat.succ_eq_add_one,Nat.mul_add,Nat.mul_one,N']
  rw[this,Va n (nxs c k),←N',Nat.mul_add,Nat.mul_one]
theorem aeP [DecidableEq α](k:Int)(xs:List α):heldL mk c k (BC mk c k xs xs.length)=nxs (c * xs.length) k:=by
 unfold BC;rw[List.drop_length,List.append_nil];exact Va mk c _ _
attribute [go_sem] aeP
end
section
variable {α:Type}
end
def kZ{α:Type}(f:α→Nat)(xs:List α):Nat:=(xs.map f).sum
theorem aeQ{α:Type}(f:α→Nat)(xs:List α)(i:Nat)(h:i<xs.length):kZ f (xs.take (i+1))=kZ f (xs.take i)+f xs[i]:=by
 unfold kZ;rw[hj,b8 h];simp only[Option.toList_some,List.map_append,List.map_cons,List.map_nil,List.sum_append,List.sum_cons,List.sum_nil,Nat.add_zero]
theorem aeR{α:Type}(f:α→Nat)(xs:List α)(i:Nat):kZ f (xs.take i)≤kZ f xs:=by
 unfold kZ
 conv=>rhs;rw[←List.take_append_drop i xs]
 simp only[List.map_append,List.sum_append];omega
theorem GP{α:Type}(f:α→Nat)(xs:List α)(i:Nat)(h:i<xs.length):f xs[i]≤kZ f xs:=by
 have h1:=aeQ f xs i h;have h2:=aeR f xs (i+1);omega
section
variable {α:Type}
def Df(mk:Int→α→α)(Aa:Int→α→Int):Int→List α→List α
 |_,[]=>[]
 |k,x::xs=>mk k x::Df mk Aa (Aa k x) xs
def Uh(r:Option Int)(K:Int→Int):Int:=match r with|none=>-1|some k=>K k
variable (mk:Int→α→α) (Aa:Int→α→Int)
theorem Oa:∀(xs:List α) (k:Int),(Df mk Aa k xs).length=xs.length
 |[],_=>rfl
 |x::xs,k=>by simp[Df,Oa xs]
@[go_sem] theorem aoL(k:Int)(xs:List α):(Df mk Aa k xs).length=xs.length:=Oa mk Aa xs k
@[go_sem] theorem aoM(e:α→List D)(k:Int)(xs:List α):((Df mk Aa k xs).map e).take xs.length=(Df mk Aa k xs).map e:=dH (by simp[Oa])
end
theorem cw(a b:Bool):(bif a then b else false)=(a&&b):=by cases a<;>rfl
theorem c0(a b:Bool):(bif a then true else b)=(a||b):=by cases a<;>rfl
theorem eo{a b:Bool}(h:a=true↔b=true):[AD.one (D.bool a)]=[AD.one (D.bool b)]:=by
 have:a=b:=by cases a<;>cases b<;>simp_all
 rw[this]
@[go_sem] theorem aoN:ofVal (.pointer none)=.ak:=rfl
def dm.er(x:dm):Nat:=x.cells.length
def aO.er(x:aO):Nat:=dm.er x.ring+x.pending.length+x.flight.length+x.cG.length
def aA.er(x:aA):Nat:=x.data.length
def kC.er(x:kC):Nat:=(x.bO.length+kZ aA.er x.bO)
def bL.er(x:bL):Nat:=kC.er x.buffer
def ae.er(x:ae):Nat:=aO.er x.send+bL.er x.recv
def ao.er(x:ao):Nat:=x.data.length
def aD.er(x:aD):Nat:=(x.frames.length+kZ ao.er x.frames)
def J.er(x:J):Nat:=(x.streams.length+kZ ae.er x.streams)+(x.packets.length+kZ aD.er x.packets)
structure XA where
 bytes:List Int
 read:Int
 deriving DecidableEq
set_option maxRecDepth 100000
def bK(n ca hi:Int):Bool:=decide (ca≤n)&&decide (n≤hi)
theorem h_(n ca hi:Int):aJ 59 [.one (.int .i64 n),.one (.int .i64 ca),.one (.int .i64 hi)] [.one (.bool (bK n ca hi))]:=by
 refine aN 15 Tryz.func59 Tryz.call59 [.tmp 6] ?_;intro _;simp only[go_sem]
 repeat((first|refine a7 ?_|refine e8 ?_);simp only[go_sem])
 simp[bK]
theorem il(n ca hi:Int):aJ 49 [.one (.int .i64 n),.one (.int .i64 ca),.one (.int .i64 hi)] [.one (.bool (bK n ca hi))]:=by
 refine aN 15 Tryz.func49 Tryz.call49 [.tmp 6] ?_;intro _;simp only[go_sem]
 repeat((first|refine a7 ?_|refine e8 ?_);simp only[go_sem])
 simp[bK]
section
variable {P:Program}
def vl(P:Program)(f:FuncId)(args:List AD)(Q:List AD→Prop):Prop:=
 ∀(w:World) (us:List Value) (F:List Nat),GOk w.heap→areps w.heap false args us F→Does P f us.toArray w fun v w'=>
  ∃res,Q res∧∃F',Bel (fun b=>w.heap.size≤b) w w'∧trep w'.heap true res v F'∧F'.Nodup∧∀b∈F',w.heap.size≤b
def zh(P:Program)(rs:List ResultVar)(Q:List AD→Prop)(σ:St):Prop:=∃res,Q res∧gM P rs res σ
theorem G'{f:FuncId}{fn:Func}{c:Code}{args:List AD}{Q:List AD→Prop}(hf:P.funcs[f]?=some fn)(hb:fn.body=some c)(hcall:∀(args:Array Value) (w:World),(callFunc f args).run P w=.ok (.enter f args) w)(hm:P.follows .mixedOrders=true)(ts:List V)
  (hn:args.map AD.py++List.replicate (fn.ntmps-args.length) .ak=ts) (rs:List ResultVar) (hr:fn.results.toList=rs) (h0:um args→codeE P [] c ⟨ts,[]⟩ (bG (zh P rs Q) .mk) [] (bG (zh P rs Q) .mk)):vl P f args Q:=by
 intro w us F hg ha;have h:=h0 (D6 _ _ _ ha);clear h0;subst hr;subst hn;have ff:us.length=args.length:=(Ha args us F 0 ha).1;have a2:∀(σ:St) (a:Act) (w':World),zh P fn.results.toList Q σ→eQ (fun b=>w.heap.size≤b) w [] σ a w'→a.defers=[]∧∃v,(results fn a.tmps).run P w'=.ok v w'∧
   ∃res,Q res∧∃F',Bel (fun b=>w.heap.size≤b) w w'∧trep w'.heap true res v F'∧F'.Nodup∧∀b∈F',w.heap.size≤b:=by
  rintro σ a w' ⟨res,hq,vm⟩ ⟨aK,φ,r,_⟩;obtain⟨v,F',h1,h2,aj,aE⟩:=Hb r vm;exact⟨r.mV,v,h1,res,hq,F',r.fP,h2,aj,fun b hb=>(aE b hb).1⟩
 refine Does.enter (hcall _ _) (calls_of_wp hf hb ?_);refine Fi (B:=fun b=>w.heap.size≤b) (w0:=w) (kp:=[]) (kv:=[]) rfl hm c _ (zh P fn.results.toList Q) [] (zh P fn.results.toList Q) _ _ w (fun σ a w' h' c4=>?_) (fun id σ a w' h' _=>h'.elim) (fun σ a w' h' c4=>?_) h ?_
 ·exact a2 σ a w' h' c4
 ·exact a2 σ a w' h' c4
 ·have:=Hc hg ha (fn.ntmps-args.length) [] (by simp);have hs:us.toArray.size=args.length:=by rw[List.size_toArray,ff]
  rw[hs];exact this
theorem vl.inl{f:FuncId}{Dj:List AD}{Q:List AD→Prop}{kv:List V}{hs:List H}{vs:List V}{K:V→List H→Prop}(h:vl P f Dj Q)(ag:toADs hs vs=some Dj)(hk:∀rs,Q rs→K (m4 rs hs.length) (hnew hs hs.length (aHs rs))):dx P f kv hs vs K:=by
 intro B w0 kp us w bu aQ;obtain⟨aK,φ,r,b4⟩:=aQ;obtain⟨F,cd⟩:=H5 (St.le.refl ⟨vs,hs⟩) r vs Dj us ag (by simpa using r.g8);refine(h w us F r.Mc cd).mono ?_;rintro v w' ⟨res,hq,F',ah,ai,aX,br⟩;obtain⟨bl,gl,gW⟩:=L9 ai;have iR:∀i,hs.length≤i→i<hs.length+(aHs res).length→¬aK i:=fun i hi _ hd=>by have:=b4 i hd;simp at this;omega
 obtain⟨cV,hA,eK⟩:=L' (n:=hs.length) r (fun i hi h2=>iR i hi h2) ah ⟨gl.1,gl.2.1,gl.2.2.1⟩ aX br;refine⟨_,_,hk res hq,_,cV,⟨?_,eK.kp,eK.hp,eK.dJ,eK.e9,eK.e_,eK.fU,eK.fP,eK.bs,rfl,eK.ko⟩,?_⟩
 ·simp only[VRels];exact⟨v,[],rfl,gW cV hs.length _ hA,rfl⟩
 ·intro i hi;have h1:=ED (aHs res) hs hs.length;rcases hi with hi|hi
  ·have:=b4 i hi;simp at this⊢;omega
  ·rcases h1.2 with h2|h2
   ·rw[h2]at hi;simp at hi;omega
   ·simp at hi⊢;omega
theorem ab.lL{kv:List V}{σ:St}{dst:Option Tmp}{K:St→Prop}{f:FuncId}{vs:List V}{yt:Option (List AD)}{Dj:List AD}{Q:List AD→Prop}(h:vl P f Dj Q)(ag:toADs σ.heap vs=some Dj)
  (hk:∀rs,Q rs→K ⟨fT σ.tmps dst (m4 rs σ.heap.length),hnew σ.heap σ.heap.length (aHs rs)⟩):ab P kv σ dst f [] yt vs K:=
 ab.inl (by rw[List.append_nil];exact vl.inl h ag hk)
end
section
variable {P:Program} {kv:List V} {c:Code} {σ:St} {K K2:St→Prop} {bY:List (Nat×(St→Prop))} {cE:St→Prop}
def headC:Nat→Code→Code
 |k+1,.seq a b=>.seq a (headC k b)
 |_,_=>.skip
def Ak:Nat→Code→Code
 |k+1,.seq _ b=>Ak k b
 |_,c=>c
@[go_sem] theorem agN(k:Nat)(a b:Code):headC (k+1) (.seq a b)=.seq a (headC k b):=by rw[headC]
@[go_sem] theorem agO(c:Code):headC 0 c=.skip:=by cases c<;>rfl
@[go_sem] theorem zp(k:Nat)(a b:Code):Ak (k+1) (.seq a b)=Ak k b:=by rw[Ak]
@[go_sem] theorem zq(c:Code):Ak 0 c=c:=by cases c<;>rfl
def gL(P:Program)(kv:List V)(c:Code)(σ:St)(K:St→Prop)(bY:List (Nat×(St→Prop)))(cE:St→Prop):Prop:=
 ∀(B:Nat→Prop) (w0:World) (kp:List (V×Value)) (Q:Exit→Act→World→Prop) (a:Act) (w:World),kp.map (·.1)=kv→
  (∀σ a w,K σ→eQ B w0 kp σ a w→Q .normal a w)→TP B w0 kp Q bY→(∀σ a w,cE σ→eQ B w0 kp σ a w→Q .ret a w)→eQ B w0 kp σ a w→c.wp P Q a w
theorem ng(hm:P.follows .mixedOrders=true)(h:codeE P kv c σ K bY cE):gL P kv c σ K bY cE:=fun _ _ _ Q a w bu b6 dk aQ r=>Fi bu hm c σ K bY cE Q a w b6 dk aQ h r
theorem O3(hm:P.follows .mixedOrders=true):∀(k:Nat) (c:Code) (σ:St),codeE P kv (headC k c) σ K2 bY cE→(∀σ',K2 σ'→gL P kv (Ak k c) σ' K bY cE)→gL P kv c σ K bY cE
 |0,c,σ,h1,h2=>by rw[agO]at h1;have:=h2 σ h1;rwa [zq]at this
 |k+1,c,σ,h1,h2=>by
  cases c with
  |seq a b=>
   rw[agN]at h1;intro B w0 kp Q u w bu b6 dk aQ r;refine wp_seq (Fi bu hm a σ (fun σ'=>codeE P kv (headC k b) σ' K2 bY cE) bY cE _ u w (fun σ' a' w' h' c4=>?_) (fun id σ' a' w' h' c4=>dk id σ' a' w' h' c4) (fun σ' a' w' h' c4=>aQ σ' a' w' h' c4) h1 r);exact O3 hm k b σ' h' (fun pN hk=>by have:=h2 pN hk;rwa [zp]at this) B w0 kp Q a' w' bu b6 dk aQ c4
  |_=>exact h2 σ h1
theorem Q2{ρ:List Nat}{σ':St}(hs:kk kv ρ σ σ')(h:gL P kv c σ' K bY cE):gL P kv c σ K bY cE:=fun B w0 kp Q a w bu b6 dk aQ r=>h B w0 kp Q a w bu b6 dk aQ (D2 bu hs r)
def dS{α:Type}(kv:List V)(g_:α→St)(h7:α→Prop)(σ:St):Prop:=∃x ρ,h7 x∧kk kv ρ σ (g_ x)
theorem dS.intro{α:Type}{g_:α→St}{h7:α→Prop}(x:α)(ρ:List Nat)(h1:h7 x)(h2:kk kv ρ σ (g_ x)):dS kv g_ h7 σ:=⟨x,ρ,h1,h2⟩
theorem fi{α:Type}(hm:P.follows .mixedOrders=true)(k:Nat)(g_:α→St)(h7:α→Prop)(h1:codeE P kv (headC k c) σ (bG (dS kv g_ h7) .mk) bY cE)(h2:∀x,h7 x→gL P kv (Ak k c) (g_ x) K bY cE):gL P kv c σ K bY cE:=
 O3 hm k c σ h1 fun _ ⟨x,_,hp,hs⟩=>Q2 hs (h2 x hp)
theorem Y_{id:Nat}(h:gL P kv c σ K ((id,K)::bY) cE):gL P kv (.block id c) σ K bY cE:=by
 intro B w0 kp Q a w bu b6 dk aQ r;refine wp_block (h B w0 kp _ a w bu (fun σ' a' w' h' c4=>b6 σ' a' w' h' c4) (fun oO σ' a' w' h' c4=>?_) (fun σ' a' w' h' c4=>aQ σ' a' w' h' c4) r);simp only[outE]at h';simp only[Exit.inBlock];by_cases hi:oO=id
 ·rw[if_pos hi];rw[if_pos hi]at h';exact b6 σ' a' w' h' c4
 ·rw[if_neg hi];rw[if_neg hi]at h';exact dk oO σ' a' w' h' c4
end
section
variable {P:Program}
theorem agP{f:FuncId}{fn:Func}{c:Code}{args res:List AD}(hf:P.funcs[f]?=some fn)(hb:fn.body=some c)(hcall:∀(args:Array Value) (w:World),(callFunc f args).run P w=.ok (.enter f args) w)(ts:List V)
  (hn:args.map AD.py++List.replicate (fn.ntmps-args.length) .ak=ts) (rs:List ResultVar) (hr:fn.results.toList=rs) (h0:um args→gL P [] c ⟨ts,[]⟩ (bG (gM P rs res) .mk) [] (bG (gM P rs res) .mk)):PureCall P f args res:=by
 intro w us F hg ha;have h:=h0 (D6 _ _ _ ha);clear h0;subst hr;subst hn;have ff:us.length=args.length:=(Ha args us F 0 ha).1;have a2:∀(σ:St) (a:Act) (w':World),gM P fn.results.toList res σ→eQ (fun b=>w.heap.size≤b) w [] σ a w'→a.defers=[]∧∃v,(results fn a.tmps).run P w'=.ok v w'∧
   ∃F',Bel (fun b=>w.heap.size≤b) w w'∧trep w'.heap true res v F'∧F'.Nodup∧∀b∈F',w.heap.size≤b:=by
  rintro σ a w' vm ⟨aK,φ,r,_⟩;obtain⟨v,F',h1,h2,aj,aE⟩:=Hb r vm;exact⟨r.mV,v,h1,F',r.fP,h2,aj,fun b hb=>(aE b hb).1⟩
 refine Does.enter (hcall _ _) (calls_of_wp hf hb ?_);refine h (fun b=>w.heap.size≤b) w [] _ _ w rfl (fun σ a w' h' c4=>?_) (fun id σ a w' h' _=>h'.elim) (fun σ a w' h' c4=>?_) ?_
 ·exact a2 σ a w' h' c4
 ·exact a2 σ a w' h' c4
 ·have:=Hc hg ha (fn.ntmps-args.length) [] (by simp);have hs:us.toArray.size=args.length:=by rw[List.size_toArray,ff]
  rw[hs];exact this
end
theorem ub{P:Program}{f:FuncId}{fn:Func}{c:Code}{args res:List AD}(n:Nat)(hf:P.funcs[f]?=some fn)(hcall:∀(args:Array Value) (w:World),(callFunc f args).run P w=.ok (.enter f args) w)(rs:List ResultVar)
  (h:um args→gL P [] c ⟨ts0 args n,[]⟩ (bG (gM P rs res) .mk) [] (bG (gM P rs res) .mk)) (hb:fn.body=some c:=by rfl) (hn:fn.ntmps=n:=by rfl) (hr:fn.results.toList=rs:=by rfl):PureCall P f args res:=
 agP hf hb hcall _ (by rw[hn];exact LG args n) rs hr h
section
variable {P:Program} {kv:List V} {c:Code} {σ:St} {K:St→Prop} {bY:List (Nat×(St→Prop))} {cE:St→Prop}
theorem Vb{B:Nat→Prop}{w0:World}{kp:List (V×Value)}{a:Act}{w:World}{id sz:Nat}{xs:List (List D)}(h:aL σ.heap id=.af sz xs)(r:eQ B w0 kp σ a w):eQ B w0 kp ⟨σ.tmps,b_ σ.heap id (.ar sz xs true)⟩ a w:=by
 obtain⟨aK,φ,r,b4⟩:=r;have hg:∀i,i≠id→aL (b_ σ.heap id (.ar sz xs true)) i=aL σ.heap i:=fun i hi=>by rw[hH,if_neg hi]
 have C':aL (b_ σ.heap id (.ar sz xs true)) id=.ar sz xs true:=by rw[hH,if_pos rfl]
 refine⟨aK,φ,wP r (fun i=>i=id) aK φ _ w (fun i hi=>⟨hg i hi,rfl⟩) (nq.refl φ) (Nat.le_refl _) (fun _ _ _=>rfl) ?_ ?_ (fun i j b hi al _ _=>hi.trans al.symm) ?_ ?_ r.fU r.fP,fun i hi=>Nat.lt_of_lt_of_le (b4 i hi) (EU _ _ _).1⟩
 ·rintro i rfl b ⟨β,e,av⟩;refine Or.inr ⟨i,rfl,β,e,?_⟩;rw[C']at av;rw[h];exact av.imp (fun q=>⟨rfl,q.2⟩) (fun q=>⟨rfl,q.2⟩)
 ·rintro i rfl β e b ht;refine Or.inr ⟨i,β,rfl,e,?_⟩;rw[C']at ht;rw[h];rcases ht with ⟨_,q⟩|⟨q,_⟩
  ·exact Or.inl ⟨rfl,q⟩
  ·cases q
 ·rintro i β rfl e _;exact r.e9 i β e (by rw[h];rfl)
 ·rintro i rfl;rcases r.hp i with hd|⟨β,e,hr⟩
  ·rw[h]at hd;cases hd
  ·refine Or.inr ⟨β,e,?_⟩;rw[C'];rw[h]at hr;simp only[dX]at hr⊢;obtain⟨q,hr⟩:=hr;refine⟨q,hr.imp id ?_⟩;rintro⟨b,aM,bc,cq,cI⟩;exact⟨b,β.c_,aM,bc,cq,cI,fun _=>rfl,fun q=>by cases q⟩
theorem JX(id:Nat){sz:Nat}{xs:List (List D)}(h:aL σ.heap id=.af sz xs)(hg:gL P kv c ⟨σ.tmps,b_ σ.heap id (.ar sz xs true)⟩ K bY cE):gL P kv c σ K bY cE:=fun B w0 kp Q a w bu b6 dk aQ r=>hg B w0 kp Q a w bu b6 dk aQ (Vb h r)
end
theorem KP:ofVal (.int .u64 33)=.d (.int .u64 33):=rfl
theorem KQ:ofVal (.int .u64 45)=.d (.int .u64 45):=rfl
theorem KR(k:IntKind)(x y:Int):shI .shr k x y=some (0≤y,.d (.int k (x.fdiv (2^min y.toNat k.bits)))):=rfl
theorem D1(x:Int):0≤bitI .and .i64 x 255∧bitI .and .i64 x 255≤255:=by
 have h:((BitVec.ofInt IntKind.i64.bits x &&& BitVec.ofInt IntKind.i64.bits 255).toNat:Int)≤255:=by
  have:(BitVec.ofInt IntKind.i64.bits x &&& BitVec.ofInt IntKind.i64.bits 255).toNat≤255:=by
   rw[BitVec.toNat_and];exact Nat.le_trans Nat.and_le_right (by decide)
  omega
 have e:bitI .and .i64 x 255=((BitVec.ofInt IntKind.i64.bits x &&& BitVec.ofInt IntKind.i64.bits 255).toNat:Int):=by
  unfold bitI;simp only;rw[bz]<;>omega
 rw[e];omega
def cD(bs:List Int)(i:Nat)(h:Int):H:=.box [.d (.sl 1 (bs.map eU8)),.i i,.i h]
theorem gm(hs:List H)(x:H):b_ hs hs.length x=hs++[x]:=by unfold b_;simp
theorem ez(hs ys:List H)(n:Nat)(x:H):b_ (hs++ys) (hs.length+n) x=hs++b_ ys n x:=by
 unfold b_;by_cases h:n<ys.length
 ·simp[h]
 ·simp[h,Nat.add_sub_add_left]
theorem fG(hs ys:List H)(x:H):b_ (hs++ys) hs.length x=hs++b_ ys 0 x:=ez hs ys 0 x
theorem dU(hs ys:List H)(n:Nat):aL (hs++ys) (hs.length+n)=aL ys n:=by
 unfold aL;rw[ib,ib,List.getElem?_append_right (by omega),Nat.add_sub_cancel_left]
theorem eY(hs ys:List H):aL (hs++ys) hs.length=aL ys 0:=dU hs ys 0
def mQ(ρ:List Nat)(m:Nat):Prop:=∀i,i<m→ρ.getD i 0=i
theorem v_{m n:Nat}(h:m≤n):mQ (List.range n) m:=fun i hi=>by
 have:i<n:=by omega
 simp[this]
theorem KS{m n:Nat}(h:m≤n)(r:List Nat):mQ (List.range n++r) m:=fun i hi=>by
 have:i<n:=by omega
 rw[ib,List.getElem?_append_left (by simpa using this)];simp[this]
mutual
theorem KT{ρ:List Nat}{m:Nat}(hf:mQ ρ m):∀(v:V),vok m v→ren ρ v=v
 |.ak,_=>rfl
 |.d _,_=>rfl
 |.dw _,_=>rfl
 |.agg vs,h=>by simp only[vok]at h;simp only[ren,G5 hf vs h]
 |.ptr id _ _,h=>by simp only[vok]at h;simp only[ren,hf id h]
 |.fo _ _,_=>rfl
 |.sl id _ _,h=>by simp only[vok]at h;simp only[ren,hf id h]
 |.fn _ vs,h=>by simp only[vok]at h;simp only[ren,G5 hf vs h]
 |.dV vs,h=>by simp only[vok]at h;simp only[ren,G5 hf vs h]
 |.bC _ v,h=>by simp only[vok]at h;simp only[ren,KT hf v h]
theorem G5{ρ:List Nat}{m:Nat}(hf:mQ ρ m):∀(vs:List V),bg m vs→rens ρ vs=vs
 |[],_=>rfl
 |v::vs,h=>by simp only[bg]at h;simp only[rens,KT hf v h.1,G5 hf vs h.2]
end
mutual
theorem KU{m n:Nat}(h:m≤n):∀(v:V),vok m v→vok n v
 |.ak,_=>by simp[vok]
 |.d _,_=>by simp[vok]
 |.dw _,_=>by simp[vok]
 |.agg vs,k=>by simp only[vok]at k⊢;exact kV h vs k
 |.ptr id _ _,k=>by simp only[vok]at k⊢;omega
 |.fo _ _,_=>by simp[vok]
 |.sl id _ _,k=>by simp only[vok]at k⊢;omega
 |.fn _ vs,k=>by simp only[vok]at k⊢;exact kV h vs k
 |.dV vs,k=>by simp only[vok]at k⊢;exact kV h vs k
 |.bC _ v,k=>by simp only[vok]at k⊢;exact KU h v k
theorem kV{m n:Nat}(h:m≤n):∀(vs:List V),bg m vs→bg n vs
 |[],_=>by simp[bg]
 |v::vs,k=>by simp only[bg]at k⊢;exact⟨KU h v k.1,kV h vs k.2⟩
end
theorem BX{m:Nat}:∀{xs ys:List V},bg m xs→bg m ys→bg m (xs++ys)
 |[],_,_,h=>h
 |x::xs,ys,h,k=>by simp only[bg]at h;simp only[bB,bg];exact⟨h.1,BX h.2 k⟩
def rok(m:Nat):H→Prop
 |.box cs=>bg m cs
 |.g1 _ _ _ _=>False
 |_=>True
def roks(m:Nat):List H→Prop
 |[]=>True
 |x::xs=>rok m x∧roks m xs
theorem fe{m n:Nat}(h:m≤n)(x:H)(k:rok m x):rok n x:=by
 unfold rok at *;split at k
 ·exact kV h _ k
 ·exact k.elim
 ·trivial
theorem x9{m n:Nat}(h:m≤n):∀{xs:List H},roks m xs→roks n xs
 |[],_=>trivial
 |x::_,k=>⟨fe h x k.1,x9 h k.2⟩
theorem Ca{m:Nat}:∀{xs ys:List H},roks m xs→roks m ys→roks m (xs++ys)
 |[],_,_,h=>h
 |_::_,_,h,k=>⟨h.1,Ca h.2 k⟩
theorem y1{m:Nat}:∀{xs:List H},roks m xs→allOk m xs
 |[],_=>trivial
 |x::xs,k=>⟨by cases x<;>first|exact k.1|trivial,y1 k.2⟩
theorem Qw{ρ:List Nat}{m:Nat}(hf:mQ ρ m){v:V}(h:vok m v):vsee ρ v v:=by
 unfold vsee;split
 ·trivial
 ·exact KT hf _ h
theorem pf{ρ:List Nat}{m n:Nat}(hf:mQ ρ m)(hn:m≤n):∀{kv:List V},bg m kv→u_ ρ n kv
 |[],_=>trivial
 |v::vs,h=>by
  simp only[bg]at h;exact⟨⟨Qw hf h.1,KU hn v h.1⟩,pf hf hn h.2⟩
theorem Qx{ρ:List Nat}{m:Nat}(hf:mQ ρ m):∀{vs:List V},bg m vs→vsees ρ vs vs
 |[],_=>trivial
 |v::vs,h=>by simp only[bg]at h;exact⟨Qw hf h.1,Qx hf h.2⟩
theorem nK{ρ:List Nat}{m:Nat}(hf:mQ ρ m):∀{x:H},rok m x→hsee ρ x x
 |.b',_=>trivial
 |.box cs,h=>by simp only[hsee];exact Qx hf h
 |.ar _ _ _,_=>⟨rfl,rfl,rfl⟩
 |.ic _ _,_=>⟨rfl,rfl⟩
 |.af _ _,_=>⟨rfl,rfl⟩
theorem G6{ρ:List Nat}{m:Nat}(hf:mQ ρ m)(hs:List H):∀(is:List Nat) (xs:List H),is.length=xs.length→(∀k,k<xs.length→∃x,xs[k]?=some x∧aL hs (is.getD k 0)=x∧rok m x)→hsees ρ hs is xs
 |[],[],_,_=>trivial
 |i::is,x::xs,hl,h=>by
  refine⟨?_,G6 hf hs is xs (by simpa using hl) fun k hk=>?_⟩
  ·obtain⟨y,h1,h2,aj⟩:=h 0 (by simp);simp only[iG,bF]at h1;subst h1;simp only[e1]at h2;rw[h2];exact nK hf aj
  ·obtain⟨y,h1,h2,aj⟩:=h (k+1) (by simpa using hk);exact⟨y,by simpa using h1,by simpa using h2,aj⟩
theorem G7{m:Nat}:∀{xs:List H} {k:Nat} {x:H},roks m xs→xs[k]?=some x→rok m x
 |[],_,_,_,h=>by simp at h
 |y::ys,0,x,k,h=>by simp at h;subst h;exact k.1
 |y::ys,n+1,x,k,h=>G7 (xs:=ys) k.2 (by simpa using h)
theorem G8{hs:List H}{i:Nat}{x:H}(h:hs[i]?=some x):aL hs i=x:=by unfold aL;rw[ib,h];rfl
theorem BZ{kv ts ts':List V}{hs ex:List H}(hr:roks hs.length hs)(bu:bg hs.length kv)(ht:vsees (List.range hs.length) ts' ts)(l5:bg hs.length ts'):kk kv (List.range hs.length) ⟨ts,hs++ex⟩ ⟨ts',hs⟩:=by
 have hf:mQ (List.range hs.length) hs.length:=v_ (Nat.le_refl _);refine⟨List.nodup_range,ht,G6 hf _ _ _ (by simp) fun k hk=>?_,l5,y1 hr,pf hf (Nat.le_refl _) bu⟩;refine⟨hs[k],b8 hk,?_,G7 hr (b8 hk)⟩;have:(List.range hs.length).getD k 0=k:=hf k hk;rw[this];exact G8 (by rw[List.getElem?_append_left hk];exact b8 hk)
theorem GX{kv ts ts':List V}{hs:List H}(hr:roks hs.length hs)(bu:bg hs.length kv)(ht:vsees (List.range hs.length) ts' ts)(l5:bg hs.length ts'):kk kv (List.range hs.length) ⟨ts,hs⟩ ⟨ts',hs⟩:=by
 have:=BZ (ex:=[]) hr bu ht l5
 rwa [List.append_nil]at this
theorem DG(m:Nat)(bs:List Int)(i:Nat)(h:Int):rok m (cD bs i h):=by simp[cD,rok,bg,vok]
theorem Cb{bs:List Int}{i:Nat}{h:Int}{pre a6 ex:List H}{kv ts ts':List V}(hr:roks (pre.length+(a6.length+1)) pre∧roks (pre.length+(a6.length+1)) a6)(bu:bg (pre.length+(a6.length+1)) kv)(ht:vsees (List.range (pre.length+(a6.length+1))) ts' ts)(l5:bg (pre.length+(a6.length+1)) ts'):kk kv (List.range (pre.length+(a6.length+1))) ⟨ts,pre++cD bs i h::(a6++ex)⟩ ⟨ts',pre++cD bs i h::a6⟩:=by
 have e:(pre++cD bs i h::a6).length=pre.length+(a6.length+1):=by simp
 have:=BZ (hs:=pre++cD bs i h::a6) (ex:=ex) (ts:=ts) (ts':=ts') (kv:=kv) (by rw[e];exact Ca hr.1 ⟨DG _ _ _ _,hr.2⟩) (by rw[e];exact bu) (by rw[e];exact ht) (by rw[e];exact l5);rw[e,List.append_assoc]at this;exact this
theorem Yj{bs:List Int}{i:Nat}{h:Int}{pre a6:List H}{kv ts ts':List V}(hr:roks (pre.length+(a6.length+1)) pre∧roks (pre.length+(a6.length+1)) a6)(bu:bg (pre.length+(a6.length+1)) kv)(ht:vsees (List.range (pre.length+(a6.length+1))) ts' ts)(l5:bg (pre.length+(a6.length+1)) ts'):kk kv (List.range (pre.length+(a6.length+1))) ⟨ts,pre++cD bs i h::a6⟩ ⟨ts',pre++cD bs i h::a6⟩:=by
 have:=Cb (bs:=bs) (i:=i) (h:=h) (ex:=[]) hr bu ht l5
 rwa [List.append_nil]at this
theorem Qy(p r:Nat):(List.range (p+(r+1))).getD p 0=p:=v_ (Nat.le_refl _) p (by omega)
theorem Qz(n k:Nat)(l:List Nat):(List.range n++k::l).getD n 0=k:=by
 rw[ib,List.getElem?_append_right (by simp)];simp
def pe(kv:List V)(K:V→List H→Prop)(x:V)(hs':List H):Prop:=∃ρ x2 nm,kk kv ρ ⟨[x],hs'⟩ ⟨[x2],nm⟩∧K x2 nm
theorem dx.nh{P:Program}{f:FuncId}{kv:List V}{hs:List H}{vs:List V}{K:V→List H→Prop}(h:dx P f kv hs vs (pe kv K)):dx P f kv hs vs K:=by
 intro B w0 kp us w bu aQ;exact(h B w0 kp us w bu aQ).mono fun v w' ⟨x,hs',⟨ρ,x2,nm,h1,h2⟩,aj⟩=>⟨x2,nm,h2,D2 bu h1 aj⟩
set_option maxRecDepth 100000
def QA:List (List bH):=cP 13 [1564919,1564917,1564911,1564893,1564839,1594201,1593715,1592257,1587883,1574761,1535274,1417176,1062882]
def QB:List (List bH):=cP 10 [49247,49245,49239,49221,59008,58846,58360,56902,52528,39366]
def QC:List (List bH):=cP 15 [14083187,14339185,14339179,14339161,14339107,14348785,14348299,14346841,14342467,14329225,14289859,14171761,13817466,12754584,9565938]
attribute [go_sem] QA QB QC
theorem D3(bs:List Int)(hm:bs.length≤maxLen)(i:Nat)(h:Int)(pre a6:List H)(kv:List V)(K:V→List H→Prop)(hi:i≤bs.length)
  (hk:∀(cr:Nat) (h' x:Int),cr≤bs.length→0≤x→x≤255→K (.i x) (pre++cD bs cr h'::a6)):dx Tryz.prog 112 kv (pre++cD bs i h::a6) [.ptr pre.length 0 0] K:=by
 refine(fc (n:=58) (rs:=[.tmp 2]) Tryz.func112 rfl Tryz.call112 b1 rfl rfl ?_);simp only[cD]at hk⊢;simp only[go_sem,eY,fG]
 try simp only[go_sem,eY,fG,I,KP,KQ,KR]
 repeat'((first|refine ba QA (by kernel_rfl) (by rfl) ?_|refine ba QB (by kernel_rfl) (by rfl) ?_|refine ba QC (by kernel_rfl) (by rfl) ?_|refine bt (fun h=>?_) (fun h=>?_))<;>simp only[go_sem,eY,I,KP,KQ,KR])
 ·have hlt:i<bs.length:=by
   have:=cO h;omega
  have aq:=b5 eU8 bs i hlt
  try simp only[go_sem,eY,fG,aC,aq,eU8]
  repeat'(first|(with_reducible refine aw ?_)|fail)
  rw[dK hlt hm];exact hk _ _ _ (by omega) (D1 _).1 (D1 _).2
 ·exact hk _ _ _ hi (D1 _).1 (D1 _).2
theorem QD{x n:Int}(hx:0≤x)(hn:0<n):0≤x.tmod n∧x.tmod n<n:=⟨Int.tmod_nonneg _ hx,Int.tmod_lt_of_pos _ hn⟩
theorem kc(bs:List Int)(hm:bs.length≤maxLen)(i:Nat)(h:Int)(pre a6:List H)(kv:List V)(n:Int)(hn:0<n)(mq:n≤4294967296)(K:V→List H→Prop)(hi:i≤bs.length)
  (hk:∀(cr:Nat) (h' x:Int),cr≤bs.length→0≤x→x<n→K (.i x) (pre++cD bs cr h'::a6)):dx Tryz.prog 76 kv (pre++cD bs i h::a6) [.ptr pre.length 0 0,.i n] K:=by
 refine(fc (n:=37) (rs:=[.tmp 4]) Tryz.func76 rfl Tryz.call76 b1 rfl rfl ?_);simp only[go_sem];refine bt (fun h1=>?_) (fun _=>?_)
 ·have:=cO h1;omega
 simp only[go_sem];refine bt (fun _=>?_) (fun h1=>?_)
 ·simp only[go_sem];refine ab.inl (D3 bs hm i h pre a6 _ _ hi fun fm h1 x1 cm eF cM=>?_);simp only[go_sem];refine⟨by omega,?_⟩;have:=QD eF hn;exact hk _ _ _ cm this.1 this.2
 ·have hb:=c9 h1;simp only[go_sem];refine ab.inl (D3 bs hm i h pre a6 _ _ hi fun fm h1 x1 cm eF cM=>?_);simp only[go_sem];refine ab.inl (D3 bs hm fm h1 pre a6 _ _ cm fun dM h2 x2 cB eS dI=>?_);simp only[go_sem];refine ab.inl (D3 bs hm dM h2 pre a6 _ _ cB fun ek aj gj cx ew jj=>?_);simp only[go_sem];refine ab.inl (D3 bs hm ek aj pre a6 _ _ cx fun iL aE QE e0 oH uj=>?_);simp only[go_sem];refine⟨by omega,?_⟩;rw[bz (n:=x1 * 16777216) (by omega) (by omega),bz (n:=x2 * 65536) (by omega) (by omega),bz (n:=gj * 256) (by omega) (by omega),bz (n:=x1 * 16777216+x2 * 65536) (by omega) (by omega),bz (n:=x1 * 16777216+x2 * 65536+gj * 256) (by omega) (by omega),bz (n:=x1 * 16777216+x2 * 65536+gj * 256+QE) (by omega) (by omega)];have:=QD (x:=x1 * 16777216+x2 * 65536+gj * 256+QE) (by omega) hn;exact hk _ _ _ e0 this.1 this.2
theorem wm(bs:List Int)(hm:bs.length≤maxLen)(i:Nat)(h:Int)(pre a6:List H)(kv:List V)(n:Int)(hn:0<n)(mq:n≤4294967296)(K:V→List H→Prop)(hi:i≤bs.length)
  (hk:∀(cr:Nat) (h':Int) (b:Bool),cr≤bs.length→K (.d (.bool b)) (pre++cD bs cr h'::a6)):dx Tryz.prog 66 kv (pre++cD bs i h::a6) [.ptr pre.length 0 0,.i n] K:=by
 refine(fc (n:=9) (rs:=[.tmp 4]) Tryz.func66 rfl Tryz.call66 b1 rfl rfl ?_);simp only[go_sem];refine ab.inl (kc bs hm i h pre a6 _ n hn mq _ hi fun fm h1 x1 cm eF cM=>?_);simp only[go_sem];exact hk _ _ _ cm
theorem v8(bs:List Int)(hm:bs.length≤maxLen)(i:Nat)(h:Int)(pre a6:List H)(kv:List V)(id:Nat)(xs:List Int)(he:aL a6 id=.ar 1 (xs.map aW) true)(hn:0<xs.length)(mq:xs.length≤1000)(K:V→List H→Prop)(hi:i≤bs.length)
  (hk:∀(cr:Nat) (h' x:Int),cr≤bs.length→x∈xs→K (.i x) (pre++cD bs cr h'::a6)):dx Tryz.prog 79 kv (pre++cD bs i h::a6) [.ptr pre.length 0 0,.sl (pre.length+(id+1)) 0 xs.length] K:=by
 refine(fc (n:=12) (rs:=[.tmp 4]) Tryz.func79 rfl Tryz.call79 b1 rfl rfl ?_);simp only[go_sem];refine ab.inl (kc bs hm i h pre a6 _ xs.length (by omega) (by omega) _ hi fun fm h1 x1 cm eF cM=>?_);obtain⟨k,rfl⟩:=mj eF;have hlt:k<xs.length:=by omega
 have aq:=b5 aW xs k hlt;simp only[go_sem,dU,he,aq,aC,I,aW];refine⟨⟨by omega,by omega⟩,?_⟩;exact⟨hlt,hk _ _ _ cm (eR hlt)⟩
theorem QF(bs:List Int)(hm:bs.length≤maxLen)(i:Nat)(h:Int)(pre a6:List H)(kv:List V)(id:Nat)(xs:List (List UInt8))(he:aL a6 id=.ar 1 (xs.map mu) true)(hn:0<xs.length)(mq:xs.length≤1000)(K:V→List H→Prop)(hi:i≤bs.length)
  (hk:∀(cr:Nat) (h':Int) (x:List UInt8),cr≤bs.length→x∈xs→K (.d (.str x)) (pre++cD bs cr h'::a6)):dx Tryz.prog 178 kv (pre++cD bs i h::a6) [.ptr pre.length 0 0,.sl (pre.length+(id+1)) 0 xs.length] K:=by
 refine(fc (n:=12) (rs:=[.tmp 4]) Tryz.func178 rfl Tryz.call178 b1 rfl rfl ?_);simp only[go_sem];refine ab.inl (kc bs hm i h pre a6 _ xs.length (by omega) (by omega) _ hi fun fm h1 x1 cm eF cM=>?_);obtain⟨k,rfl⟩:=mj eF;have hlt:k<xs.length:=by omega
 have aq:=b5 mu xs k hlt;simp only[go_sem,dU,he,aq,aC,I,mu];refine⟨⟨by omega,by omega⟩,?_⟩;exact⟨hlt,hk _ _ _ cm (eR hlt)⟩
theorem Yk{x:List UInt8}(h:x∈[[97],[98],[99],[100]]):x.length=1:=by
 simp only[List.mem_cons,List.not_mem_nil,or_false]at h;rcases h with rfl|rfl|rfl|rfl<;>rfl
theorem KV(bs:List Int)(hm:bs.length≤maxLen)(i:Nat)(h:Int)(pre a6:List H)(kv:List V)(most:Nat)(hr:roks (pre.length+(a6.length+1)) pre∧roks (pre.length+(a6.length+1)) a6)(bu:bg (pre.length+(a6.length+1)) kv)(hb:most≤1000)(K:V→List H→Prop)(hi:i≤bs.length)
  (hk:∀(cr:Nat) (h':Int) (s:List UInt8),cr≤bs.length→s.length≤most→K (.d (.str s)) (pre++cD bs cr h'::a6)):dx Tryz.prog 173 kv (pre++cD bs i h::a6) [.ptr pre.length 0 0,.i most] K:=by
 refine(fc (n:=21) (rs:=[.tmp 4]) Tryz.func173 rfl Tryz.call173 b1 rfl rfl ?_);simp only[go_sem];rw[bz (n:=(most:Int)+1) (by omega) (by omega)];refine ab.inl (kc bs hm i h pre a6 _ ((most:Int)+1) (by omega) (by omega) _ hi fun fm h1 x1 cm eF cM=>?_);obtain⟨k,rfl⟩:=mj eF;simp only[go_sem];refine b7.intro (α:=Nat×Int×Nat×List UInt8) (fun y=>⟨(.ptr pre.length 0 0::.i most::.ak::.ak::.d (.str [])::.d (.str y.2.2.2)::.i y.2.2.1::jn 14 []),pre++cD bs y.1 y.2.1::a6⟩)
  (fun y=>y.2.2.1) (fun y=>y.1≤bs.length∧y.2.2.1+y.2.2.2.length≤most) (fm,h1,k,[]) (List.range (pre.length+(a6.length+1))) ⟨cm,by simp;omega⟩ ?_ ?_
 ·exact Yj hr bu (by simp[vsees,vsee,ren]) (by simp[bg,vok])
 ·rintro⟨dM,h2,n,s⟩ ⟨hM,hs⟩;simp only at hs;simp only[go_sem];refine bt (fun q=>?_) (fun q=>?_)
  ·have hn:=cO q;simp only[go_sem,gm,ez];refine ab.inl (QF bs hm dM h2 pre (a6++[.ar 1 ([[97],[98],[99],[100]].map mu) true]) _ a6.length [[97],[98],[99],[100]] (by rw[eY];rfl) (by decide) (by decide) _ hM fun ek aj x cx ew=>?_);have hl:=Yk ew;simp only[go_sem];refine⟨by simp only[maxLen];omega,?_⟩;rw[bz (n:=(n:Int)-1) (by omega) (by omega)];refine bA.intro (ek,aj,n-1,s++x) (List.range (pre.length+(a6.length+1))) ⟨cx,by simp only[eG];omega⟩ (show n-1<n by omega) ?_;have e:((n-1:Nat):Int)=(n:Int)-1:=by omega
   simp only[e];exact Cb hr bu (by simp[vsees,vsee,ren]) (by simp[bg,vok])
  ·simp only[go_sem];exact hk _ _ _ hM (by omega)
theorem D4(bs:List Int)(hm:bs.length≤maxLen)(pre:List H)(kv:List V)(hr:roks pre.length pre)(bu:bg pre.length kv)(K:V→List H→Prop)
  (hk:∀(h':Int),K (.ptr pre.length 0 0) (pre++[cD bs 0 h'])):dx Tryz.prog 28 kv pre [.d (.sl 1 (bs.map eU8))] K:=by
 refine(fc (n:=32) (rs:=[.tmp 2]) Tryz.func28 rfl Tryz.call28 b1 rfl rfl ?_);simp only[go_sem,I];refine b7.intro (α:=Nat×Int) (fun y=>⟨(.d (.sl 1 (bs.map eU8))::.ak::.ak::.i y.2::.i y.1::jn 27 []),pre⟩)
  (fun y=>bs.length-y.1) (fun y=>y.1≤bs.length) (0,IntKind.i64.wrap (10101+(bs.length:Int))) (List.range pre.length) (by simp) ?_ ?_
 ·exact GX hr bu (by simp[vsees,vsee,ren]) (by simp[bg,vok])
 ·rintro⟨i,g⟩ hi;simp only at hi;simp only[go_sem,I]
  try simp only[go_sem,I]
  repeat'((first|refine a7 ?_|refine bt (fun h=>?_) (fun h=>?_))<;>simp only[go_sem,I])
  ·have hlt:i<bs.length:=by
    rcases Nat.lt_or_ge i bs.length with hlt|px
    ·exact hlt
    ·rw[bo (by omega)]at h;cases h
   have aq:=b5 eU8 bs i hlt
   try simp only[go_sem,aq,aC,eU8]
   repeat'(first|(with_reducible refine aw ?_)|fail)
   rw[dK hlt hm];refine bA.intro (i+1,bitI .and .i64 (IntKind.i64.wrap (IntKind.i64.wrap (IntKind.i64.wrap (g * 131)+IntKind.i64.wrap bs[i])+7)) 1073741823) (List.range pre.length) (show i+1≤bs.length by omega) (show bs.length-(i+1)<bs.length-i by omega) ?_;exact GX hr bu (by simp[vsees,vsee,ren]) (by simp[bg,vok])
  ·rw[gm];exact hk _
theorem KW{ρ:List Nat}{hs:List H}:∀{is G9:List Nat} {xs ys:List H},hsees ρ hs is xs→hsees ρ hs G9 ys→hsees ρ hs (is++G9) (xs++ys)
 |[],G9,[],ys,_,h=>h
 |[],_,_::_,_,h,_=>by simp[hsees]at h
 |_::_,_,[],_,h,_=>by simp[hsees]at h
 |i::is,G9,x::xs,ys,h,k=>by
  simp only[hsees]at h;exact⟨h.1,KW h.2 k⟩
theorem KX{m:Nat}:∀{xs ys:List H},allOk m xs→allOk m ys→allOk m (xs++ys)
 |[],_,_,h=>h
 |_::_,_,h,k=>⟨h.1,KX h.2 k⟩
theorem nP(n j:Nat)(l:List Nat):(List.range n++l).getD (n+j) 0=l.getD j 0:=by
 rw[ib,List.getElem?_append_right (by simp),ib];simp
theorem Kx{kv ts ts':List V}{hs ex ex':List H}(nn:List Nat)(hnd:nn.Nodup)(px:∀k∈nn,hs.length≤k)(hr:roks hs.length hs)(hx:hsees (List.range hs.length++nn) (hs++ex) nn ex')(D5:allOk (hs.length+ex'.length) ex')(bu:bg hs.length kv)(ht:vsees (List.range hs.length++nn) ts' ts)(l5:bg (hs.length+ex'.length) ts') :
  kk kv (List.range hs.length++nn) ⟨ts,hs++ex⟩ ⟨ts',hs++ex'⟩:=by
 have hf:mQ (List.range hs.length++nn) hs.length:=KS (Nat.le_refl _) _;have hl:(hs++ex').length=hs.length+ex'.length:=by simp
 refine⟨?_,ht,KW (G6 hf _ _ _ (by simp) fun j al=>?_) hx,by rw[hl];exact l5,?_,by rw[hl];exact pf hf (by omega) bu⟩
 ·rw[List.nodup_append];refine⟨List.nodup_range,hnd,fun a ha b hb=>?_⟩;have:=px b hb;simp at ha;omega
 ·refine⟨hs[j],b8 al,?_,G7 hr (b8 al)⟩;have:(List.range hs.length).getD j 0=j:=v_ (Nat.le_refl _) j al;rw[this];exact G8 (by rw[List.getElem?_append_left al];exact b8 al)
 ·rw[hl];exact KX (y1 (x9 (by omega) hr)) D5
theorem Qb(ρ:List Nat):∀G_:List V,vsees ρ (List.replicate G_.length .ak) G_
 |[]=>trivial
 |_::G_=>⟨trivial,Qb ρ G_⟩
theorem Ky(m:Nat):∀k,bg m (List.replicate k .ak)
 |0=>trivial
 |k+1=>⟨trivial,Ky m k⟩
theorem agQ{P:Program}{f:FuncId}{fn:Func}{c:Code}{kv:List V}{hs:List H}{vs:List V}{K:V→List H→Prop}{n:Nat}(hf:P.funcs[f]?=some fn)(hb:fn.body=some c)(hcall:∀(args:Array Value) (w:World),(callFunc f args).run P w=.ok (.enter f args) w)
  (hn:fn.ntmps=n) {rs:List ResultVar} (hr:fn.results.toList=rs) (h:gL P kv c ⟨vs++List.replicate (n-vs.length) .ak,hs⟩ (bG (vJ P rs (kN K .mk)) .mk) [] (bG (vJ P rs (kN K .mk)) .mk)):dx P f kv hs vs K:=by
 intro B w0 kp us w bu aQ;subst hr;subst hn;have ff:us.length=vs.length:=by
  obtain⟨aK,φ,r,_⟩:=aQ;have:=jR _ _ r.g8;simpa using this
 have a2:∀(σ:St) (a:Act) (w':World),vJ P fn.results.toList K σ→eQ B w0 kp σ a w'→a.defers=[]∧∃v,(results fn a.tmps).run P w'=.ok v w'∧
   ∃x hs',K x hs'∧eQ B w0 kp ⟨[x],hs'⟩ ⟨#[v],[]⟩ w':=by
  rintro σ a w' vm ⟨aK,φ,r,b4⟩;obtain⟨xs,gu,cC,hv,hu⟩:=IG r _ _ vm;refine⟨r.mV,if h:gu.length=1 then gu[0]else .tuple gu.toArray,?_,_,_,cC,aK,φ,⟨?_,r.kp,r.hp,r.dJ,r.e9,r.e_,r.fU,r.fP,r.bs,rfl,r.ko⟩,b4⟩
  ·rw[M8,Array.mapM_eq_mapM_toList];simp only[Sem.run_bind,Sem.run_map,hu];simp only[Result.andThen,List.size_toArray,Sem.run_pure];split<;>simp_all
  ·simp only[VRels];exact⟨_,_,rfl,TS hv,rfl⟩
 refine Does.enter (hcall _ _) (calls_of_wp hf hb ?_);refine h B w0 kp _ _ w bu (fun σ a w' h' c4=>?_) (fun id σ a w' h' _=>h'.elim) (fun σ a w' h' c4=>?_) ?_
 ·exact a2 σ a w' h' c4
 ·exact a2 σ a w' h' c4
 ·obtain⟨aK,φ,r,b4⟩:=aQ;have hs':us.toArray.size=vs.length:=by rw[List.size_toArray,ff]
  refine⟨aK,φ,⟨?_,r.kp,r.hp,r.dJ,r.e9,r.e_,r.fU,r.fP,r.bs,rfl,r.ko⟩,b4⟩;have:=CS r.g8 (My (φ:=φ) (T:=cz φ hs) (h:=w.heap) (v:=.ak) (u:=undef) (by simp[VRel]) (fn.ntmps-vs.length));rw[hs'];simpa using this
theorem dx.WL{P:Program}{f:FuncId}{kv:List V}{hs:List H}{vs:List V}{K:V→List H→Prop}(h:dx P f kv hs vs (fun x hs'=>K x hs'∨∃id sz xs,aL hs' id=.af sz xs∧K x (b_ hs' id (.ar sz xs true)))):dx P f kv hs vs K:=by
 intro B w0 kp us w bu aQ;refine(h B w0 kp us w bu aQ).mono fun v w' ⟨x,hs',h1,h2⟩=>?_;rcases h1 with h1|⟨id,sz,xs,hg,h1⟩
 ·exact⟨x,hs',h1,h2⟩
 ·exact⟨x,_,h1,Vb (σ:=⟨[x],hs'⟩) hg h2⟩
theorem Az{n:Nat}{b:Bool}{x y:V}:vok n (bif b then x else y)↔((b=true→vok n x)∧(b=false→vok n y)):=by cases b<;>simp
theorem W5{F:Oper→List Bool→Prop}:∀{l:List (Oper×List Bool)},(∀x∈l,F x.1 x.2)→vj l F
 |[],_=>trivial
 |x::l,h=>⟨h x (by simp),W5 fun y hy=>h y (by simp[hy])⟩
def iH(o:Oper):List Nat:=(o.after.toList.filter (Region.binds .any)).map (·.on)
def topoE:Nat→List Oper→Bool
 |_,[]=>true
 |k,o::os=>(iH o).all (fun j=>decide (j<k))&&topoE (k+1) os
theorem W6:∀(os:List Oper) (k i:Nat) (o:Oper),topoE k os=true→os[i]?=some o→∀j∈iH o,j<k+i
 |[],_,_,_,_,h,_,_=>by simp at h
 |x::os,k,0,o,h,h1,j,al=>by
  simp only[iG,bF]at h1;subst h1;simp only[topoE,bP,List.all_eq_true,b2]at h;have:=h.1 j al;omega
 |x::os,k,i+1,o,h,h1,j,al=>by
  simp only[topoE,bP]at h;have:=W6 os (k+1) i o h.2 (by simpa using h1) j al;omega
theorem ahe{az:List Oper}{S:List Bool}(ht:topoE 0 az=true)(hl:S.length=az.length)(h:rdyE S az [] S=[])(i:Nat):i<az.length→S[i]?=some true:=by
 induction i using Nat.strongRecOn with
 |_ i dW=>
  intro hi;have hb:S[i]?=some S[i]:=b8 (by omega)
  cases hv:S[i]with
  |true=>rw[hb,hv]
  |false=>
   rw[hv]at hb;have av:az[i]?=some az[i]:=b8 hi;have:=HQ (S:=S) az [] S i az[i] av hb fun e he hx=>by
    have hm:e.on∈iH az[i]:=List.mem_map.2 ⟨e,List.mem_filter.2 ⟨by simpa using he,hx⟩,rfl⟩;have hlt:=W6 az 0 i _ ht av _ hm;have hq:=dW e.on (by omega) (by omega);rw[ib,hq];rfl
   rw[h]at this
   cases this
theorem W7:∀(S:List Bool) (i:Nat),S[i]?=some false→(S.set i true).count false+1=S.count false
 |[],_,h=>by simp at h
 |b::S,0,h=>by
  simp only[iG,bF]at h;subst h;simp
 |b::S,i+1,h=>by
  have:=W7 S i (by simpa using h);rw[List.set_cons_succ,List.count_cons,List.count_cons];omega
def DB(F:Nat→Oper→Prop):Nat→List Oper→Prop
 |_,[]=>True
 |k,o::os=>F k o∧DB F (k+1) os
theorem kB{F:Nat→Oper→Prop}{k:Nat}{o:Oper}{os:List Oper}(h:F k o)(hr:DB F (k+1) os):DB F k (o::os):=⟨h,hr⟩
theorem kA{F:Nat→Oper→Prop}{k:Nat}:DB F k []:=trivial
theorem W8{F:Nat→Oper→Prop}:∀(os:List Oper) (k i:Nat) (o:Oper),DB F k os→os[i]?=some o→F (k+i) o
 |[],_,_,_,_,h=>by simp at h
 |x::os,k,0,o,h,h1=>by
  simp only[iG,bF]at h1;subst h1;exact h.1
 |x::os,k,i+1,o,h,h1=>by
  have:=W8 os (k+1) i o h.2 (by simpa using h1)
  rwa [show k+(i+1)=k+1+i from by omega]
def W9(az:List Oper)(S:List Bool):Prop:=∀(i j:Nat) (o:Oper),az[j]?=some o→i∈iH o→S[i]?=some false→S[j]?=some false
def ahf(P:Program)(kv:List V)(az:List Oper)(Inv:List Bool→St→Prop)(k:Nat)(o:Oper):Prop:=
 ∀(S:List Bool) (σ:St) (F:St→Prop),S.length=az.length→S[k]?=some false→(iH o).all (fun j=>S.getD j false)=true→W9 az S→Inv S σ→(∀σ',Inv (S.set k true) σ'→F σ')→vk P kv az σ o (bG (fun σ'=>F σ') .mk)
theorem kz{P:Program}{kv:List V}{az:List Oper}(Inv:List Bool→St→Prop){N:Nat}(bT:az.length=N)(ht:topoE 0 az=true){σ:St}(h0:Inv (List.replicate N false) σ)(h1:DB (ahf P kv az Inv) 0 az) :
  exE P kv az az.length (List.replicate az.length false) σ (fun σ'=>Inv (List.replicate N true) σ'):=by
 subst bT;have ahg:∀(n:Nat) (S:List Bool) (σ:St),S.length=az.length→S.count false=n→W9 az S→Inv S σ→exE P kv az n S σ (fun σ'=>Inv (List.replicate az.length true) σ'):=by
  intro n
  induction n with
  |zero=>
   intro S σ hl hc hcl aU;have A7:∀b∈S,b=true:=fun b hb=>by
    cases b with
    |true=>rfl
    |false=>have:=List.count_pos_iff.2 hb;omega
   have aT:S=List.replicate az.length true:=by
    rw[←hl];exact List.eq_replicate_iff.2 ⟨rfl,A7⟩
   refine⟨?_,aT▸aU⟩;rw[List.eq_nil_iff_forall_not_mem];intro x hx;obtain⟨i,_,h2,_⟩:=HR az [] S x hx;have:=A7 false (List.mem_of_getElem? h2)
   cases this
  |succ n dW=>
   intro S σ hl hc hcl aU;refine⟨fun h=>?_,W5 fun x hx=>?_⟩
   ·have A7:=ahe ht hl h;have:false∈S:=List.count_pos_iff.1 (by omega);obtain⟨i,hi,he⟩:=List.getElem_of_mem this;have:=A7 i (by omega);rw[b8 hi,he]at this
    cases this
   ·obtain⟨i,h2,aj,aE,b3⟩:=HR az [] S x hx;have hq:=W8 az 0 i x.1 h1 h2;rw[Nat.zero_add]at hq;refine hq S σ (fun σ'=>exE P kv az n x.2 σ' _) hl aj ?_ hcl aU fun σ' ahh=>?_
    ·rw[List.all_eq_true];intro j al;obtain⟨e,he,rfl⟩:=List.mem_map.1 al;obtain⟨GJ,AA⟩:=List.mem_filter.1 he;exact b3 e (by simpa using GJ) AA
    ·rw[aE,bx];have:=W7 S i aj;refine dW (S.set i true) σ' (by simpa using hl) (by omega) (fun a b o av ha hb=>?_) ahh;have ahi:i≠a:=fun e=>by
      subst e;have:i<S.length:=by
       have:=List.getElem?_eq_some_iff.1 aj;exact this.1
      rw[List.getElem?_set_self this]at hb
      cases hb
     rw[List.getElem?_set_ne ahi]at hb;have hne:i≠b:=fun e=>by
      subst e;rw[h2]at av
      cases av
      obtain⟨e,he,rfl⟩:=List.mem_map.1 ha;obtain⟨GJ,AA⟩:=List.mem_filter.1 he;have:=b3 e (by simpa using GJ) AA;rw[ib,hb]at this
      cases this
     rw[List.getElem?_set_ne hne];exact hcl a b o av ha hb
 refine ahg az.length _ σ (by simp) (by simp) (fun a b o av ha hb=>?_) h0;have:b<az.length:=(List.getElem?_eq_some_iff.1 av).1;simp[this]
set_option maxRecDepth 100000
def OH:List (List bH):=cP 18 [387420488,387420486,387420480,387420462,387420408,387420246,387419760,380253690,380249316,387173358,387389871,387271773,386897796,385834914,382646268,373071582,344373768,258280326]
def OI:List (List bH):=cP 24 [282429536477,282429536479,282429536472,282429536454,282429536400,282429536238,282429535752,282429534294,282429529920,282429516798,277220115603,277220765142,277220410848,277219288917,277216100271,277206534333,282278843433,282364936875,282063609828,281288768850,278964245916,271969183278,251048476872,188286357654]
def F2:List (List bH):=cP 9 [18707,18709,18702,18684,18630,19561,19075,17496,13122]
def V1:List (List bH):=cP 10 [57959,57957,59017,59035,58972,58810,58324,56862,52488,39366]
attribute [go_sem] OH OI F2 V1
def dj(r:aa):Bool:=decide (0≤r.low)&&decide (r.low<r.high)&&decide (r.high≤4611686018427387903)
def rAt(xs:List aa)(i:Nat):Bool:=
 match xs[i]? with
 |some x=>dj x&&(match i with|0=>true|j+1=>match xs[j]? with|some p=>decide (p.high<x.low)|none=>true)
 |none=>true
def cX(xs:List aa):Bool:=(List.range xs.length).all (rAt xs)
theorem V2(xs:List aa)(i:Nat)(h:i<xs.length)(h2:rAt xs i=false):cX xs=false:=by
 unfold cX;rw[List.all_eq_false];exact⟨i,List.mem_range.2 h,by simp[h2]⟩
theorem V3{p:Nat→Bool}{i:Nat}(h:(List.range i).all p=true)(h2:p i=true):(List.range (i+1)).all p=true:=by
 rw[List.range_succ,List.all_append,h];simp[h2]
def dG(a b:Int):Int:=if b<a then b else a
def eb(a b:Int):Int:=if b>a then b else a
def ku(s:List aa×Bool×aa)(x:aa):List aa×Bool×aa:=
 if x.high<s.2.2.low then(s.1++[x],s.2.1,s.2.2)
 else if s.2.2.high<x.low then((if s.2.1=true then s.1 else s.1++[s.2.2])++[x],true,s.2.2)
 else(s.1,s.2.1,⟨dG s.2.2.low x.low,eb s.2.2.high x.high⟩)
def gw(xs:List aa)(r:aa):Nat→List aa×Bool×aa
 |0=>([],false,r)
 |i+1=>match xs[i]? with|some x=>ku (gw xs r i) x|none=>gw xs r i
theorem OJ(xs:List aa)(r:aa)(i:Nat)(h:i<xs.length):gw xs r (i+1)=ku (gw xs r i) xs[i]:=by
 rw[gw,b8 h]
theorem Jq(xs:List aa)(r:aa):∀i,(gw xs r i).1.length≤i+(if(gw xs r i).2.1=true then 1 else 0)
 |0=>by simp[gw]
 |i+1=>by
  have:=Jq xs r i;rw[gw];split
  ·unfold ku;by_cases h1:(gw xs r i).2.1=true
   ·simp only[h1,if_true]at this⊢;split
    ·simp;omega
    ·split
     ·simp;omega
     ·simp;omega
   ·simp only[h1]at this⊢;split
    ·simp at this⊢;omega
    ·split
     ·simp at this⊢;omega
     ·simp at this⊢;omega
  ·by_cases h1:(gw xs r i).2.1=true
   ·simp only[h1,if_true]at this⊢;omega
   ·simp[h1]at this⊢;omega
def gv(xs:List aa)(r:aa):List aa:=
 if cX xs&&dj r=true then(if(gw xs r xs.length).2.1=true then(gw xs r xs.length).1 else(gw xs r xs.length).1++[(gw xs r xs.length).2.2])else xs
theorem Ks(xs:List aa)(r:aa):(gv xs r).length≤xs.length+1:=by
 have:=Jq xs r xs.length;unfold gv;split
 ·split
  ·rename_i h;rw[if_pos h]at this;exact this
  ·rename_i h;rw[if_neg h]at this;simp;omega
 ·omega
theorem Jr(xs:List aa)(h:0<xs.length):rAt xs 0=dj xs[0]:=by
 unfold rAt;rw[b8 h];simp
theorem F3(xs:List aa)(j:Nat)(h:j+1<xs.length):rAt xs (j+1)=(dj xs[j+1]&&decide (xs[j].high<xs[j+1].low)):=by
 unfold rAt;rw[b8 h];simp only[b8 (show j<xs.length by omega)]
theorem Js(l h:Int):aJ 255 [.agg [.int .i64 l,.int .i64 h]] [.one (.bool (dj ⟨l,h⟩))]:=by
 refine aN 18 Tryz.func255 Tryz.call255 [.tmp 2] ?_;intro _
 try simp only[go_sem]
 repeat'(refine a7 ?_<;>simp only[go_sem])
 all_goals(simp[dj];try(cases decide (0≤l)<;>cases decide (l<h)<;>simp))
theorem KN(xs:List aa)(hx:xs.length≤8388608):aJ 152 [.one (.sl 2 (xs.map aa.enc))] [.one (.sl 2 (xs.map aa.enc))]:=by
 refine aN 6 Tryz.func152 Tryz.call152 [.tmp 2] ?_;intro _
 try simp only[go_sem,I]
 repeat'(first|(with_reducible refine aw ?_)|fail)
 all_goals simp
theorem F4(xs:List aa):aJ 189 [.one (.sl 2 (xs.map aa.enc))] [.one (.bool (cX xs))]:=by
 refine aN 31 Tryz.func189 Tryz.call189 [.tmp 2] ?_;intro ok;have hm:=fr ok;simp only[go_sem,I];refine b7.intro (fun i:Nat=>⟨(.d (.sl 2 (xs.map aa.enc))::.ak::.d (.bool false)::.ak::.ak::.d (.sl 2 (xs.map aa.enc))::.i xs.length::.i i::jn 23 []),[]⟩)
   (fun i=>xs.length-i) (fun i=>i≤xs.length∧(List.range i).all (rAt xs)=true) 0 [] ⟨by omega,by simp⟩ ?_ ?_
 ·simp only[go_sem];simp
 ·rintro i ⟨hi,he⟩;simp only[go_sem];refine bt (fun h1=>?_) (fun h1=>?_)
  ·have ax:=cO h1;have hlt:i<xs.length:=by omega
   have aq:=b5 aa.enc xs i hlt;have hw:=dK hlt hm;have yU:=V2 xs i hlt;have yV:rAt xs i=true→(List.range (i+1)).all (rAt xs)=true:=V3 he
   cases i with
   |zero=>
    rw[Jr xs hlt]at yU yV;have hr:dj ⟨xs[0].low,xs[0].high⟩=dj xs[0]:=rfl;have BO:IntKind.i64.wrap (0+1)=((1:Nat):Int):=by rw[bz]<;>omega
    try simp only[go_sem,I,aq,aa.enc,Int.toNat_zero,Int.natCast_zero]
    repeat'(first|((first|refine au.intro (by apply Js) ?_|with_reducible refine j1 ?_|refine e8 ?_|refine ba OH (by kernel_rfl) (by rfl) ?_|refine bt (fun h=>?_) (fun h=>?_))<;>simp only[go_sem,Int.lt_irrefl,decide_false])|(with_reducible refine aw ?_)|fail)
    all_goals first
     |(rw[hr]at h;rw[yU (by revert h;cases dj xs[0]<;>simp)])
     |(rw[hr]at h;refine bA.intro 1 [] ⟨by omega,yV (by revert h;cases dj xs[0]<;>simp)⟩ (by omega) ?_;simp only[go_sem,BO])
   |succ j=>
    rw[F3 xs j hlt]at yU yV;have gT:=b5 aa.enc xs j (by omega);have hs:IntKind.i64.wrap (((j+1:Nat):Int)-1)=(j:Int):=by simp only[maxLen]at hm;rw[bz]<;>omega
    have hg:decide ((0:Int)<((j+1:Nat):Int))=true:=bp (by omega);have hr:dj ⟨xs[j+1].low,xs[j+1].high⟩=dj xs[j+1]:=rfl;have hd:decide (xs[j+1].low≤xs[j].high)=!decide (xs[j].high<xs[j+1].low):=by by_cases hx:xs[j].high<xs[j+1].low<;>simp[hx]<;>omega
    try simp only[go_sem,I,aC,aq,aa.enc]
    repeat'(first|((first|refine au.intro (by apply Js) ?_|refine e8 ?_|refine ba OH (by kernel_rfl) (by rfl) ?_|refine bt (fun h=>?_) (fun h=>?_))<;>simp only[go_sem,I,aC,gT,aa.enc,hs,hg])|(with_reducible refine aw ?_)|fail)
    all_goals first
     |(rw[hr,hd]at h;rw[yU (by revert h;cases dj xs[j+1]<;>cases decide (xs[j].high<xs[j+1].low)<;>simp)])
     |(rw[hr,hd]at h;refine bA.intro (j+1+1) [] ⟨by omega,yV (by revert h;cases dj xs[j+1]<;>cases decide (xs[j].high<xs[j+1].low)<;>simp)⟩ (by omega) ?_;simp only[go_sem,hw])
  ·have ax:=c9 h1;have hM:i=xs.length:=by omega
   subst hM;simp only[go_sem];simp[cX,he]
theorem F5(l h:Int):aJ 260 [.agg [.int .i64 l,.int .i64 h]] [.one (.bool (dj ⟨l,h⟩))]:=by
 refine aN 18 Tryz.func260 Tryz.call260 [.tmp 2] ?_;intro _
 try simp only[go_sem]
 repeat'(refine a7 ?_<;>simp only[go_sem])
 all_goals(simp[dj];try(cases decide (0≤l)<;>cases decide (l<h)<;>simp))
theorem KO(xs:List aa)(hx:xs.length≤8388608):aJ 155 [.one (.sl 2 (xs.map aa.enc))] [.one (.sl 2 (xs.map aa.enc))]:=by
 refine aN 6 Tryz.func155 Tryz.call155 [.tmp 2] ?_;intro _
 try simp only[go_sem,I]
 repeat'(first|(with_reducible refine aw ?_)|fail)
 all_goals simp
theorem vY(xs:List aa):aJ 199 [.one (.sl 2 (xs.map aa.enc))] [.one (.bool (cX xs))]:=by
 refine aN 34 Tryz.func199 Tryz.call199 [.tmp 2] ?_;intro ok;have hm:=fr ok;simp only[go_sem];refine b7.intro (fun i:Nat=>⟨(.d (.sl 2 (xs.map aa.enc))::.ak::.d (.bool false)::.i i::jn 30 []),[]⟩)
   (fun i=>xs.length-i) (fun i=>i≤xs.length∧(List.range i).all (rAt xs)=true) 0 [] ⟨by omega,by simp⟩ ?_ ?_
 ·simp only[go_sem];simp
 ·rintro i ⟨hi,he⟩;simp only[go_sem,I];refine bt (fun h1=>?_) (fun h1=>?_)
  ·have ax:=cO h1;have hlt:i<xs.length:=by omega
   have aq:=b5 aa.enc xs i hlt;have hw:=dK hlt hm;have yU:=V2 xs i hlt;have yV:rAt xs i=true→(List.range (i+1)).all (rAt xs)=true:=V3 he
   cases i with
   |zero=>
    rw[Jr xs hlt]at yU yV;have hr:dj ⟨xs[0].low,xs[0].high⟩=dj xs[0]:=rfl;have BO:IntKind.i64.wrap (0+1)=((1:Nat):Int):=by rw[bz]<;>omega
    try simp only[go_sem,Int.natCast_zero]
    repeat'(first|((first|refine au.intro (by apply F5) ?_|with_reducible refine j1 ?_|refine e8 ?_|refine ba OI (by kernel_rfl) (by rfl) ?_|refine bt (fun h=>?_) (fun h=>?_))<;>simp only[go_sem,I,aq,aa.enc,Int.toNat_zero,Int.lt_irrefl,decide_false])|(with_reducible refine aw ?_)|fail)
    all_goals first
     |(rw[hr]at h;rw[yU (by revert h;cases dj xs[0]<;>simp)])
     |(rw[hr]at h;refine bA.intro 1 [] ⟨by omega,yV (by revert h;cases dj xs[0]<;>simp)⟩ (by omega) ?_;simp only[go_sem,BO])
   |succ j=>
    rw[F3 xs j hlt]at yU yV;have gT:=b5 aa.enc xs j (by omega);have hs:IntKind.i64.wrap (((j+1:Nat):Int)-1)=(j:Int):=by simp only[maxLen]at hm;rw[bz]<;>omega
    have hg:decide ((0:Int)<((j+1:Nat):Int))=true:=bp (by omega);have hr:dj ⟨xs[j+1].low,xs[j+1].high⟩=dj xs[j+1]:=rfl;have hd:decide (xs[j+1].low≤xs[j].high)=!decide (xs[j].high<xs[j+1].low):=by by_cases hx:xs[j].high<xs[j+1].low<;>simp[hx]<;>omega
    try simp only[go_sem]
    repeat'(first|((first|refine au.intro (by apply F5) ?_|refine e8 ?_|refine ba OI (by kernel_rfl) (by rfl) ?_|refine bt (fun h=>?_) (fun h=>?_))<;>simp only[go_sem,I,aC,aq,gT,aa.enc,hs,hg])|(with_reducible refine aw ?_)|fail)
    all_goals first
     |(rw[hr,hd]at h;rw[yU (by revert h;cases dj xs[j+1]<;>cases decide (xs[j].high<xs[j+1].low)<;>simp)])
     |(rw[hr,hd]at h;refine bA.intro (j+1+1) [] ⟨by omega,yV (by revert h;cases dj xs[j+1]<;>cases decide (xs[j].high<xs[j+1].low)<;>simp)⟩ (by omega) ?_;simp only[go_sem,hw])
  ·have ax:=c9 h1;have hM:i=xs.length:=by omega
   subst hM;simp only[go_sem];simp[cX,he]
theorem agi(xs:List aa)(l h:Int)(hx:xs.length≤1048576):aJ 257 [.one (.sl 2 (xs.map aa.enc)),.agg [.int .i64 l,.int .i64 h]] [.one (.sl 2 ((gv xs ⟨l,h⟩).map aa.enc))]:=by
 refine aN 71 Tryz.func257 Tryz.call257 [.tmp 4] ?_;intro ok;have hm:=fr ok;simp only[go_sem];refine ab.intro (F4 xs) ?_;simp only[go_sem]
 repeat'(first
  |(refine ab.intro (Js l h) ?_;simp only[go_sem,I])
  |(refine au.intro (Js l h) ?_;simp only[go_sem])
  |(refine a7 ?_;simp only[go_sem])|(refine e8 ?_;simp only[go_sem,I]))
 have hz:(bif !cX xs then true else !dj ⟨l,h⟩)=!(cX xs&&dj ⟨l,h⟩):=by cases cX xs<;>cases dj ⟨l,h⟩<;>rfl
 rw[hz];refine bt (fun h0=>?_) (fun h0=>?_)
 ·have b3:(cX xs&&dj ⟨l,h⟩)=false:=by cases hq:(cX xs&&dj ⟨l,h⟩)with|false=>rfl|true=>rw[hq]at h0;cases h0
  have kD:(xs.map aa.enc).take xs.length=xs.map aa.enc:=dH (by simp);simp only[go_sem];refine ab.intro (KN xs (by omega)) ?_;simp only[go_sem];simp[gv,b3,kD]
 ·have b3:(cX xs&&dj ⟨l,h⟩)=true:=by cases hq:(cX xs&&dj ⟨l,h⟩)with|true=>rfl|false=>rw[hq]at h0;cases h0
  simp only[go_sem];refine b7.intro (fun i:Nat=>⟨(.d (.sl 2 (xs.map aa.enc))::.ak::.ak::.ptr 0 0 0::.dw 2::.sl 1 0 (gw xs ⟨l,h⟩ i).1.length::.d (.bool (gw xs ⟨l,h⟩ i).2.1)::jn 13 (.d (.sl 2 (xs.map aa.enc))::.i xs.length::.i i::jn 48 [])),[.box [.d (.int .i64 (gw xs ⟨l,h⟩ i).2.2.low),.d (.int .i64 (gw xs ⟨l,h⟩ i).2.2.high)],.ar 2 ((gw xs ⟨l,h⟩ i).1.map aa.enc) true]⟩)
   (fun i=>xs.length-i) (fun i=>i≤xs.length) 0 [0,1] (by omega) ?_ ?_
  ·simp only[go_sem];simp[gw]
  ·intro i hi;have BL:=Jq xs ⟨l,h⟩ i;have o6:(gw xs ⟨l,h⟩ i).1.length≤i+1:=by split at BL<;>omega
   simp only[go_sem];refine bt (fun h1=>?_) (fun h1=>?_)
   ·have ax:=cO h1;have hlt:i<xs.length:=by omega
    have aq:=b5 aa.enc xs i hlt;have hw:=dK hlt hm;have cW:=OJ xs ⟨l,h⟩ i hlt;generalize hs:gw xs ⟨l,h⟩ i=s at cW o6;obtain⟨o,p,⟨vz,F6⟩⟩:=s;simp only at o6;by_cases hA:xs[i].high<vz
    ·have ov:=bp hA;simp only[ku,hA,if_true]at cW
     try simp only[go_sem,I,aC,aq,aa.enc,ov]
     repeat'(first|(with_reducible refine aw ?_)|fail)
     all_goals(refine bA.intro (i+1) [0,4] (by omega) (by omega) ?_;simp only[go_sem,hw,cW];simp[aa.enc])
    ·have ov:=bo hA;by_cases hB:F6<xs[i].low
     ·have u2:=bp hB;simp only[ku,hA,hB,if_true,if_false]at cW
      cases p with
      |true=>
       try simp only[go_sem,I,aC,aq,aa.enc,ov,u2]
       repeat'(first|(with_reducible refine aw ?_)|fail)
       all_goals(refine bA.intro (i+1) [0,4] (by omega) (by omega) ?_;simp only[go_sem,hw,cW];simp[aa.enc])
      |false=>
       try simp only[go_sem,I,aC,aq,aa.enc,ov,u2]
       repeat'(first|(with_reducible refine aw ?_)|fail)
       all_goals(refine bA.intro (i+1) [0,6] (by omega) (by omega) ?_;simp only[go_sem,hw,cW];simp[aa.enc])
     ·have u2:=bo hB;simp only[ku,hA,hB,if_false]at cW
      try simp only[go_sem,I,aC,aq,aa.enc,ov,u2]
      repeat'(first|(with_reducible refine aw ?_)|fail)
      all_goals(refine bA.intro (i+1) [0,1] (by omega) (by omega) ?_;simp only[go_sem,hw,cW];simp[dG,eb])
   ·have ax:=c9 h1;have hM:i=xs.length:=by omega
    subst hM;generalize hs:gw xs ⟨l,h⟩ xs.length=s at o6;obtain⟨o,p,⟨vz,F6⟩⟩:=s;simp only at o6
    cases p with
    |true=>
     try simp only[go_sem,I]
     repeat'(first|(with_reducible refine aw ?_)|fail)
     all_goals simp[gv,b3,hs]
    |false=>
     try simp only[go_sem,I]
     repeat'(first|(with_reducible refine aw ?_)|fail)
     all_goals(simp[gv,b3,hs,aa.enc];try exact dH (by simp))
theorem uX(xs:List aa)(l h:Int)(hx:xs.length≤1048576):aJ 200 [.one (.sl 2 (xs.map aa.enc)),.agg [.int .i64 l,.int .i64 h]] [.one (.sl 2 ((gv xs ⟨l,h⟩).map aa.enc))]:=by
 refine aN 88 Tryz.func200 Tryz.call200 [.tmp 4] ?_;intro ok;have hm:=fr ok;simp only[go_sem];refine ab.intro (vY xs) ?_;simp only[go_sem]
 repeat'(first
  |(refine ab.intro (F5 l h) ?_;simp only[go_sem,I])
  |(refine au.intro (F5 l h) ?_;simp only[go_sem])
  |(refine a7 ?_;simp only[go_sem])|(refine e8 ?_;simp only[go_sem,I]))
 have hz:(bif !cX xs then true else !dj ⟨l,h⟩)=!(cX xs&&dj ⟨l,h⟩):=by cases cX xs<;>cases dj ⟨l,h⟩<;>rfl
 rw[hz];refine bt (fun h0=>?_) (fun h0=>?_)
 ·have b3:(cX xs&&dj ⟨l,h⟩)=false:=by cases hq:(cX xs&&dj ⟨l,h⟩)with|false=>rfl|true=>rw[hq]at h0;cases h0
  have kD:(xs.map aa.enc).take xs.length=xs.map aa.enc:=dH (by simp);simp only[go_sem];refine ab.intro (KO xs (by omega)) ?_;simp only[go_sem];simp[gv,b3,kD]
 ·have b3:(cX xs&&dj ⟨l,h⟩)=true:=by cases hq:(cX xs&&dj ⟨l,h⟩)with|true=>rfl|false=>rw[hq]at h0;cases h0
  simp only[go_sem];refine b7.intro (fun i:Nat=>⟨(.d (.sl 2 (xs.map aa.enc))::.ak::.ak::.ptr 0 0 0::.dw 2::.sl 1 0 (gw xs ⟨l,h⟩ i).1.length::.d (.bool (gw xs ⟨l,h⟩ i).2.1)::.i i::jn 80 []),[.box [.d (.int .i64 (gw xs ⟨l,h⟩ i).2.2.low),.d (.int .i64 (gw xs ⟨l,h⟩ i).2.2.high)],.ar 2 ((gw xs ⟨l,h⟩ i).1.map aa.enc) true]⟩)
   (fun i=>xs.length-i) (fun i=>i≤xs.length) 0 [0,1] (by omega) ?_ ?_
  ·simp only[go_sem];simp[gw]
  ·intro i hi;have BL:=Jq xs ⟨l,h⟩ i;have o6:(gw xs ⟨l,h⟩ i).1.length≤i+1:=by split at BL<;>omega
   simp only[go_sem,I];refine bt (fun h1=>?_) (fun h1=>?_)
   ·have ax:=cO h1;have hlt:i<xs.length:=by omega
    have aq:=b5 aa.enc xs i hlt;have hw:=dK hlt hm;have cW:=OJ xs ⟨l,h⟩ i hlt;generalize hs:gw xs ⟨l,h⟩ i=s at cW o6;obtain⟨o,p,⟨vz,F6⟩⟩:=s;simp only at o6;by_cases hA:xs[i].high<vz
    ·have ov:=bp hA;simp only[ku,hA,if_true]at cW
     try simp only[go_sem]
     repeat'(first|(refine ba F2 (by kernel_rfl) (by rfl) ?_<;>simp only[go_sem,I,aC,aq,aa.enc,ov])|(with_reducible refine aw ?_)|fail)
     all_goals(refine bA.intro (i+1) [0,3] (by omega) (by omega) ?_;simp only[go_sem,hw,cW];simp[aa.enc])
    ·have ov:=bo hA;by_cases hB:F6<xs[i].low
     ·have u2:=bp hB;simp only[ku,hA,hB,if_true,if_false]at cW
      cases p with
      |true=>
       try simp only[go_sem]
       repeat'(first|(refine ba F2 (by kernel_rfl) (by rfl) ?_<;>simp only[go_sem,I,aC,aq,aa.enc,ov,u2])|(with_reducible refine aw ?_)|fail)
       all_goals(refine bA.intro (i+1) [0,3] (by omega) (by omega) ?_;simp only[go_sem,hw,cW];simp[aa.enc])
      |false=>
       try simp only[go_sem]
       repeat'(first|(refine ba F2 (by kernel_rfl) (by rfl) ?_<;>simp only[go_sem,I,aC,aq,aa.enc,ov,u2])|(with_reducible refine aw ?_)|fail)
       all_goals(refine bA.intro (i+1) [0,5] (by omega) (by omega) ?_;simp only[go_sem,hw,cW];simp[aa.enc])
     ·have u2:=bo hB;simp only[ku,hA,hB,if_false]at cW
      try simp only[go_sem]
      repeat'(first|((first|refine ba F2 (by kernel_rfl) (by rfl) ?_|refine ba V1 (by kernel_rfl) (by rfl) ?_)<;>simp only[go_sem,I,aC,aq,aa.enc,ov,u2])|(with_reducible refine aw ?_)|fail)
      all_goals(refine bA.intro (i+1) [0,1] (by omega) (by omega) ?_;simp only[go_sem,hw,cW];simp[dG,eb])
   ·have ax:=c9 h1;have hM:i=xs.length:=by omega
    subst hM;generalize hs:gw xs ⟨l,h⟩ xs.length=s at o6;obtain⟨o,p,⟨vz,F6⟩⟩:=s;simp only at o6
    cases p with
    |true=>
     try simp only[go_sem,I]
     repeat'(first|(with_reducible refine aw ?_)|fail)
     all_goals simp[gv,b3,hs]
    |false=>
     try simp only[go_sem,I]
     repeat'(first|(with_reducible refine aw ?_)|fail)
     all_goals(simp[gv,b3,hs,aa.enc];try exact dH (by simp))
set_option maxRecDepth 100000
def bN(n:Int):Bool:=bK n 0 4611686018427387903
theorem uc(n:Int):aJ 88 [.one (.int .i64 n)] [.one (.bool (bN n))]:=by
 refine aN 5 Tryz.func88 Tryz.call88 [.tmp 2] ?_;intro _
 try simp only[go_sem]
 repeat'(refine ab.intro (by apply il) ?_<;>simp only[go_sem])
 all_goals simp[bN]
theorem h9(n:Int):aJ 35 [.one (.int .i64 n)] [.one (.bool (bN n))]:=by
 refine aN 5 Tryz.func35 Tryz.call35 [.tmp 2] ?_;intro _
 try simp only[go_sem]
 repeat'(refine ab.intro (by apply h_) ?_<;>simp only[go_sem])
 all_goals simp[bN]
def jw(n:Int):Bool:=bK n 1 64&&decide (bitI .and .i64 n (IntKind.i64.wrap (n-1))=0)
theorem BH(n:Int):aJ 100 [.one (.int .i64 n)] [.one (.bool (jw n))]:=by
 refine aN 12 Tryz.func100 Tryz.call100 [.tmp 2] ?_;intro _
 try simp only[go_sem]
 repeat'((first|refine ab.intro (by apply il) ?_|refine a7 ?_)<;>simp only[go_sem])
 all_goals(refine eo ?_;simp[jw,bK])
theorem Jw(n:Int):aJ 108 [.one (.int .i64 n)] [.one (.bool (jw n))]:=by
 refine aN 16 Tryz.func108 Tryz.call108 [.tmp 2] ?_;intro _
 try simp only[go_sem]
 repeat'(refine a7 ?_<;>simp only[go_sem])
 all_goals(refine eo ?_;simp[jw,bK];try omega)
def eV(c:bW):Bool:=jw c.ring&&bK c.iK 1 4096&&bK c.kl 1 4096&&bK c.bX 1 c.iK&&bK c.cY 1 c.kl&&bK c.jE 0 1000&&bK c.ey 0 1000&&bK c.g7 1 1000
theorem DU(Gi Gj Gk Gl Gm Gn Gp Gq:Int):aJ 43 [.agg [.int .i64 Gi,.int .i64 Gj,.int .i64 Gk,.int .i64 Gl,.int .i64 Gm,.int .i64 Gn,.int .i64 Gp,.int .i64 Gq]] [.one (.bool (eV (⟨Gi,Gj,Gk,Gl,Gm,Gn,Gp,Gq⟩:bW)))]:=by
 refine aN 45 Tryz.func43 Tryz.call43 [.tmp 2] ?_;intro _
 try simp only[go_sem]
 repeat'((first|refine ab.intro (by apply BH) ?_|refine au.intro (by apply il) ?_|refine a7 ?_)<;>simp only[go_sem])
 all_goals(refine eo ?_;simp[eV,and_assoc,and_comm,and_left_comm])
theorem DX(Gi Gj Gk Gl Gm Gn Gp Gq:Int):aJ 53 [.agg [.int .i64 Gi,.int .i64 Gj,.int .i64 Gk,.int .i64 Gl,.int .i64 Gm,.int .i64 Gn,.int .i64 Gp,.int .i64 Gq]] [.one (.bool (eV (⟨Gi,Gj,Gk,Gl,Gm,Gn,Gp,Gq⟩:bW)))]:=by
 refine aN 45 Tryz.func53 Tryz.call53 [.tmp 2] ?_;intro _
 try simp only[go_sem]
 repeat'((first|refine ab.intro (by apply Jw) ?_|refine au.intro (by apply h_) ?_|refine a7 ?_)<;>simp only[go_sem])
 all_goals(refine eo ?_;simp[eV,and_assoc,and_comm,and_left_comm])
def jW(l:Int):eJ:=if bN l then⟨l,0,-1,-1⟩else⟨0,0,0,0⟩
theorem P_(l:Int):aJ 68 [.one (.int .i64 l)] [.agg [.int .i64 (jW l).aR,.int .i64 (jW l).used,.int .i64 (jW l).blocked,.int .i64 (jW l).told],.one (.bool (bN l))]:=by
 refine aN 10 Tryz.func68 Tryz.call68 [.cell 2 28,.tmp 3] ?_;intro _
 try simp only[go_sem]
 repeat'((first|refine ab.intro (by apply uc) ?_|refine bt (fun h=>?_) (fun h=>?_))<;>simp only[go_sem])
 all_goals simp_all [jW]
theorem Vd(l:Int):aJ 72 [.one (.int .i64 l)] [.agg [.int .i64 (jW l).aR,.int .i64 (jW l).used,.int .i64 (jW l).blocked,.int .i64 (jW l).told],.one (.bool (bN l))]:=by
 refine aN 10 Tryz.func72 Tryz.call72 [.cell 2 28,.tmp 3] ?_;intro _
 try simp only[go_sem]
 repeat'((first|refine ab.intro (by apply h9) ?_|refine bt (fun h=>?_) (fun h=>?_))<;>simp only[go_sem])
 all_goals simp_all [jW]
def Ac(size most:Int):Bool:=bK most 1 4096&&bK size 1 most
def mM(size most:Int):ep:=if Ac size most then⟨size,most,size,0,0,0⟩else⟨0,0,0,0,0,0⟩
theorem P'(s m:Int):aJ 69 [.one (.int .i64 s),.one (.int .i64 m)] [.agg (ep.enc (mM s m)),.one (.bool (Ac s m))]:=by
 refine aN 20 Tryz.func69 Tryz.call69 [.cell 4 30,.tmp 5] ?_;intro _
 try simp only[go_sem]
 repeat'((first|refine ab.intro (by apply il) ?_|refine au.intro (by apply il) ?_|refine a7 ?_|refine bt (fun h=>?_) (fun h=>?_))<;>simp only[go_sem])
 all_goals(cases h1:bK m 1 4096<;>cases h2:bK s 1 m<;>simp_all [mM,Ac])
theorem Ve(s m:Int):aJ 73 [.one (.int .i64 s),.one (.int .i64 m)] [.agg (ep.enc (mM s m)),.one (.bool (Ac s m))]:=by
 refine aN 20 Tryz.func73 Tryz.call73 [.cell 4 30,.tmp 5] ?_;intro _
 try simp only[go_sem]
 repeat'((first|refine ab.intro (by apply h_) ?_|refine au.intro (by apply h_) ?_|refine a7 ?_|refine bt (fun h=>?_) (fun h=>?_))<;>simp only[go_sem])
 all_goals(cases h1:bK m 1 4096<;>cases h2:bK s 1 m<;>simp_all [mM,Ac])
def n5(l:Int):gZ:=if bK l 0 1152921504606846976 then⟨l,0,-1⟩else⟨0,0,0⟩
theorem XX(l:Int):aJ 70 [.one (.int .i64 l)] [.agg [.int .i64 (n5 l).aR,.int .i64 (n5 l).opened,.int .i64 (n5 l).blocked],.one (.bool (bK l 0 1152921504606846976))]:=by
 refine aN 10 Tryz.func70 Tryz.call70 [.cell 2 32,.tmp 3] ?_;intro _
 try simp only[go_sem]
 repeat'((first|refine ab.intro (by apply il) ?_|refine bt (fun h=>?_) (fun h=>?_))<;>simp only[go_sem])
 all_goals simp_all [n5]
theorem aeS(l:Int):aJ 74 [.one (.int .i64 l)] [.agg [.int .i64 (n5 l).aR,.int .i64 (n5 l).opened,.int .i64 (n5 l).blocked],.one (.bool (bK l 0 1152921504606846976))]:=by
 refine aN 10 Tryz.func74 Tryz.call74 [.cell 2 32,.tmp 3] ?_;intro _
 try simp only[go_sem]
 repeat'((first|refine ab.intro (by apply h_) ?_|refine bt (fun h=>?_) (fun h=>?_))<;>simp only[go_sem])
 all_goals simp_all [n5]
def mN(m:Int):dB:=if bK m 0 1000 then⟨m,m,0,0⟩else⟨0,0,0,0⟩
theorem XY(m:Int):aJ 71 [.one (.int .i64 m)] [.agg [.int .i64 (mN m).most,.int .i64 (mN m).aR,.int .i64 (mN m).seen,.int .i64 (mN m).closed],.one (.bool (bK m 0 1000))]:=by
 refine aN 11 Tryz.func71 Tryz.call71 [.cell 2 34,.tmp 3] ?_;intro _
 try simp only[go_sem]
 repeat'((first|refine ab.intro (by apply il) ?_|refine bt (fun h=>?_) (fun h=>?_))<;>simp only[go_sem])
 all_goals simp_all [mN]
theorem aeT(m:Int):aJ 75 [.one (.int .i64 m)] [.agg [.int .i64 (mN m).most,.int .i64 (mN m).aR,.int .i64 (mN m).seen,.int .i64 (mN m).closed],.one (.bool (bK m 0 1000))]:=by
 refine aN 11 Tryz.func75 Tryz.call75 [.cell 2 34,.tmp 3] ?_;intro _
 try simp only[go_sem]
 repeat'((first|refine ab.intro (by apply h_) ?_|refine bt (fun h=>?_) (fun h=>?_))<;>simp only[go_sem])
 all_goals simp_all [mN]
set_option maxRecDepth 100000
def BG(n:Int):Bool:=bN n&&decide (bitI .and .i64 n 1=1)
def j3(n:Int):Bool:=bN n&&decide (bitI .and .i64 n 2=2)
def im(s:Bool)(n:Int):Bool:=bN n&&decide (BG n=s)
def eU(s:Bool)(n:Int):Bool:=bN n&&(!j3 n||im s n)
def fC(s:Bool)(n:Int):Bool:=bN n&&(!j3 n||!im s n)
theorem yj(n:Int):aJ 31 [.one (.int .i64 n)] [.one (.bool (bN n))]:=by
 refine aN 5 Tryz.func31 Tryz.call31 [.tmp 2] ?_;intro _
 try simp only[go_sem]
 repeat'(refine ab.intro (by apply uc) ?_<;>simp only[go_sem])
 all_goals simp
theorem aeU(n:Int):aJ 125 [.one (.int .i64 n)] [.one (.bool (BG n))]:=by
 refine aN 10 Tryz.func125 Tryz.call125 [.tmp 2] ?_;intro _
 try simp only[go_sem]
 repeat'((first|refine ab.intro (by apply yj) ?_|refine a7 ?_)<;>simp only[go_sem])
 all_goals(refine eo ?_;simp[BG])
theorem aeV(n:Int):aJ 65 [.one (.int .i64 n)] [.one (.bool (BG n))]:=by
 refine aN 10 Tryz.func65 Tryz.call65 [.tmp 2] ?_;intro _
 try simp only[go_sem]
 repeat'((first|refine ab.intro (by apply h9) ?_|refine a7 ?_)<;>simp only[go_sem])
 all_goals(refine eo ?_;simp[BG])
theorem Lu(n:Int):aJ 126 [.one (.int .i64 n)] [.one (.bool (j3 n))]:=by
 refine aN 10 Tryz.func126 Tryz.call126 [.tmp 2] ?_;intro _
 try simp only[go_sem]
 repeat'((first|refine ab.intro (by apply yj) ?_|refine a7 ?_)<;>simp only[go_sem])
 all_goals(refine eo ?_;simp[j3])
theorem AG(n:Int):aJ 37 [.one (.int .i64 n)] [.one (.bool (j3 n))]:=by
 refine aN 10 Tryz.func37 Tryz.call37 [.tmp 2] ?_;intro _
 try simp only[go_sem]
 repeat'((first|refine ab.intro (by apply h9) ?_|refine a7 ?_)<;>simp only[go_sem])
 all_goals(refine eo ?_;simp[j3])
theorem Lx(s:Bool)(n:Int):aJ 91 [.one (.bool s),.one (.int .i64 n)] [.one (.bool (im s n))]:=by
 refine aN 13 Tryz.func91 Tryz.call91 [.tmp 4] ?_;intro _
 try simp only[go_sem]
 repeat'((first|refine ab.intro (by apply yj) ?_|refine au.intro (by apply aeU) ?_|refine a7 ?_)<;>simp only[go_sem])
 all_goals(refine eo ?_;simp[im])
theorem B8(s:Bool)(n:Int):aJ 12 [.one (.bool s),.one (.int .i64 n)] [.one (.bool (im s n))]:=by
 refine aN 13 Tryz.func12 Tryz.call12 [.tmp 4] ?_;intro _
 try simp only[go_sem]
 repeat'((first|refine ab.intro (by apply h9) ?_|refine au.intro (by apply aeV) ?_|refine a7 ?_)<;>simp only[go_sem])
 all_goals(refine eo ?_;simp[im])
theorem Nd(s:Bool)(n:Int):aJ 136 [.one (.bool s),.one (.int .i64 n)] [.one (.bool (eU s n))]:=by
 refine aN 17 Tryz.func136 Tryz.call136 [.tmp 4] ?_;intro _
 try simp only[go_sem]
 repeat'((first|refine ab.intro (by apply h9) ?_|refine au.intro (by first|apply AG|apply B8) ?_|refine a7 ?_)<;>simp only[go_sem])
 all_goals(refine eo ?_;simp[eU])
theorem II(s:Bool)(n:Int):aJ 137 [.one (.bool s),.one (.int .i64 n)] [.one (.bool (fC s n))]:=by
 refine aN 18 Tryz.func137 Tryz.call137 [.tmp 4] ?_;intro _
 try simp only[go_sem]
 repeat'((first|refine ab.intro (by apply h9) ?_|refine au.intro (by first|apply AG|apply B8) ?_|refine a7 ?_)<;>simp only[go_sem])
 all_goals(refine eo ?_;simp[fC])
theorem Ja:ofVal (.int .u64 2)=.d (.int .u64 2):=rfl
theorem Vf(x:Int):shI .shr .i64 x 2=some ((0:Int)≤2,.i (x.fdiv 4)):=rfl
theorem Vg(x:Int):shI .shl .i64 x 2=some ((0:Int)≤2,.i (IntKind.i64.wrap (x * 4))):=rfl
def bZ(n:Int):Int:=if bN n then n.fdiv 4 else -1
theorem Qf(n:Int):aJ 39 [.one (.int .i64 n)] [.one (.int .i64 (bZ n))]:=by
 refine aN 8 Tryz.func39 Tryz.call39 [.tmp 2] ?_;intro _
 try simp only[go_sem]
 repeat'((first|refine ab.intro (by apply h9) ?_|refine bt (fun h=>?_) (fun h=>?_))<;>simp only[go_sem,Ja,Vf])
 all_goals simp_all [bZ]
def ve(n:Int)(s u:Bool):Int:=
 if bK n 0 1152921504606846975 then(if u then IntKind.i64.wrap ((if s then IntKind.i64.wrap (IntKind.i64.wrap (n * 4)+1)else IntKind.i64.wrap (n * 4))+2)else(if s then IntKind.i64.wrap (IntKind.i64.wrap (n * 4)+1)else IntKind.i64.wrap (n * 4)))else -1
theorem P0(n:Int)(s u:Bool):aJ 231 [.one (.int .i64 n),.one (.bool s),.one (.bool u)] [.one (.int .i64 (ve n s u))]:=by
 refine aN 20 Tryz.func231 Tryz.call231 [.tmp 6] ?_;intro _
 try simp only[go_sem]
 repeat'((first|refine ab.intro (by apply h_) ?_|refine bt (fun h=>?_) (fun h=>?_))<;>simp only[go_sem,Ja,Vg])
 all_goals simp_all [ve]
def jI(c:eJ):Bool:=bN c.aR&&bK c.used 0 c.aR&&bK c.blocked (-1) c.aR&&bK c.told (-1) c.aR
theorem Nk(dY fE dZ fF:Int):aJ 45 [.agg [.int .i64 dY,.int .i64 fE,.int .i64 dZ,.int .i64 fF]] [.one (.bool (jI (⟨dY,fE,dZ,fF⟩:eJ)))]:=by
 refine aN 27 Tryz.func45 Tryz.call45 [.tmp 2] ?_;intro _
 try simp only[go_sem]
 repeat'((first|refine ab.intro (by apply uc) ?_|refine au.intro (by apply il) ?_|refine a7 ?_)<;>simp only[go_sem])
 all_goals(refine eo ?_;simp[jI])
theorem zf(dY fE dZ fF:Int):aJ 55 [.agg [.int .i64 dY,.int .i64 fE,.int .i64 dZ,.int .i64 fF]] [.one (.bool (jI (⟨dY,fE,dZ,fF⟩:eJ)))]:=by
 refine aN 27 Tryz.func55 Tryz.call55 [.tmp 2] ?_;intro _
 try simp only[go_sem]
 repeat'((first|refine ab.intro (by apply h9) ?_|refine au.intro (by apply h_) ?_|refine a7 ?_)<;>simp only[go_sem])
 all_goals(refine eo ?_;simp[jI])
def Ct(c:eJ):Int:=if jI c then IntKind.i64.wrap (c.aR-c.used)else 0
theorem ZA(dY fE dZ fF:Int):aJ 321 [.agg [.int .i64 dY,.int .i64 fE,.int .i64 dZ,.int .i64 fF]] [.one (.int .i64 (Ct (⟨dY,fE,dZ,fF⟩:eJ)))]:=by
 refine aN 11 Tryz.func321 Tryz.call321 [.tmp 2] ?_;intro _
 try simp only[go_sem]
 repeat'((first|refine ab.intro (by apply zf) ?_|refine bt (fun h=>?_) (fun h=>?_))<;>simp only[go_sem])
 all_goals simp_all [Ct]
def vw(c:eJ)(n:Int):Bool:=jI c&&decide (0≤n)&&decide (n≤IntKind.i64.wrap (c.aR-c.used))
def wD(c:eJ)(n:Int):eJ:=if vw c n then {c with used:=IntKind.i64.wrap (c.used+n)}else c
theorem Zz(dY fE dZ fF n:Int):aJ 325 [.agg [.int .i64 dY,.int .i64 fE,.int .i64 dZ,.int .i64 fF],.one (.int .i64 n)] [.agg [.int .i64 (wD (⟨dY,fE,dZ,fF⟩:eJ) n).aR,.int .i64 (wD (⟨dY,fE,dZ,fF⟩:eJ) n).used,.int .i64 (wD (⟨dY,fE,dZ,fF⟩:eJ) n).blocked,.int .i64 (wD (⟨dY,fE,dZ,fF⟩:eJ) n).told],.one (.bool (vw (⟨dY,fE,dZ,fF⟩:eJ) n))]:=by
 refine aN 29 Tryz.func325 Tryz.call325 [.cell 4 28,.tmp 5] ?_;intro _
 try simp only[go_sem]
 repeat'((first|refine ab.intro (by apply zf) ?_|refine a7 ?_|refine bt (fun h=>?_) (fun h=>?_))<;>simp only[go_sem])
 all_goals(cases hc:vw (⟨dY,fE,dZ,fF⟩:eJ) n<;>first|(simp[wD,hc];done)|(simp[wD,hc];simp_all;done)|((try(simp only[b2,dN]at *));simp[wD, *];done)|(exfalso;simp[vw]at hc h;first|(simp_all;done)|(simp_all;omega)|omega|grind)|(exfalso;simp[vw,c0,cw]at *;first|(simp_all;done)|(simp_all;omega)|omega|grind))
def Jb(c:eJ)(l:Int):Bool:=jI c&&bN l&&decide (c.aR<l)
def w7(c:eJ)(l:Int):eJ:=if Jb c l then {c with aR:=l,blocked:=-1}else c
theorem T0(dY fE dZ fF l:Int):aJ 300 [.agg [.int .i64 dY,.int .i64 fE,.int .i64 dZ,.int .i64 fF],.one (.int .i64 l)] [.agg [.int .i64 (w7 (⟨dY,fE,dZ,fF⟩:eJ) l).aR,.int .i64 (w7 (⟨dY,fE,dZ,fF⟩:eJ) l).used,.int .i64 (w7 (⟨dY,fE,dZ,fF⟩:eJ) l).blocked,.int .i64 (w7 (⟨dY,fE,dZ,fF⟩:eJ) l).told]]:=by
 refine aN 24 Tryz.func300 Tryz.call300 [.cell 4 28] ?_;intro _
 try simp only[go_sem]
 repeat'((first|refine ab.intro (by apply zf) ?_|refine au.intro (by apply h9) ?_|refine a7 ?_|refine bt (fun h=>?_) (fun h=>?_))<;>simp only[go_sem])
 all_goals(cases hc:Jb (⟨dY,fE,dZ,fF⟩:eJ) l<;>first|(simp[w7,hc];done)|(simp[w7,hc];simp_all;done)|((try(simp only[b2,dN]at *));simp[w7, *];done)|(exfalso;simp[Jb]at hc h;first|(simp_all;done)|(simp_all;omega)|omega|grind)|(exfalso;simp[Jb,c0,cw]at *;first|(simp_all;done)|(simp_all;omega)|omega|grind))
def Jc(c:eJ):Bool:=jI c&&decide (c.used=c.aR)&&decide (c.blocked=-1)&&decide (c.told≠c.aR)
def wC(c:eJ):eJ:=if Jc c then {c with blocked:=c.aR}else c
theorem Zp(dY fE dZ fF:Int):aJ 323 [.agg [.int .i64 dY,.int .i64 fE,.int .i64 dZ,.int .i64 fF]] [.agg [.int .i64 (wC (⟨dY,fE,dZ,fF⟩:eJ)).aR,.int .i64 (wC (⟨dY,fE,dZ,fF⟩:eJ)).used,.int .i64 (wC (⟨dY,fE,dZ,fF⟩:eJ)).blocked,.int .i64 (wC (⟨dY,fE,dZ,fF⟩:eJ)).told]]:=by
 refine aN 28 Tryz.func323 Tryz.call323 [.cell 2 28] ?_;intro _
 try simp only[go_sem]
 repeat'((first|refine ab.intro (by apply zf) ?_|refine a7 ?_|refine bt (fun h=>?_) (fun h=>?_))<;>simp only[go_sem])
 all_goals(cases hc:Jc (⟨dY,fE,dZ,fF⟩:eJ)<;>first|(simp[wC,hc];done)|(simp[wC,hc];simp_all;done)|((try(simp only[b2,dN]at *));simp[wC, *];done)|(exfalso;simp[Jc]at hc h;first|(simp_all;done)|(simp_all;omega)|omega|grind)|(exfalso;simp[Jc,c0,cw]at *;first|(simp_all;done)|(simp_all;omega)|omega|grind))
def mw(c:eJ):Bool:=jI c&&decide (c.blocked=c.aR)
theorem Q0(dY fE dZ fF:Int):aJ 286 [.agg [.int .i64 dY,.int .i64 fE,.int .i64 dZ,.int .i64 fF]] [.one (.bool (mw (⟨dY,fE,dZ,fF⟩:eJ)))]:=by
 refine aN 12 Tryz.func286 Tryz.call286 [.tmp 2] ?_;intro _
 try simp only[go_sem]
 repeat'((first|refine ab.intro (by apply zf) ?_|refine a7 ?_)<;>simp only[go_sem])
 all_goals(refine eo ?_;simp[mw])
def Jd(c:eJ):Bool:=jI c&&decide (c.blocked≠-1)
def wy(c:eJ):eJ:=if Jd c then {c with told:=c.blocked,blocked:=-1}else c
theorem Q1(dY fE dZ fF:Int):aJ 288 [.agg [.int .i64 dY,.int .i64 fE,.int .i64 dZ,.int .i64 fF]] [.agg [.int .i64 (wy (⟨dY,fE,dZ,fF⟩:eJ)).aR,.int .i64 (wy (⟨dY,fE,dZ,fF⟩:eJ)).used,.int .i64 (wy (⟨dY,fE,dZ,fF⟩:eJ)).blocked,.int .i64 (wy (⟨dY,fE,dZ,fF⟩:eJ)).told]]:=by
 refine aN 15 Tryz.func288 Tryz.call288 [.cell 2 28] ?_;intro _
 try simp only[go_sem]
 repeat'((first|refine ab.intro (by apply zf) ?_|refine a7 ?_|refine bt (fun h=>?_) (fun h=>?_))<;>simp only[go_sem])
 all_goals(cases hc:Jd (⟨dY,fE,dZ,fF⟩:eJ)<;>first|(simp[wy,hc];done)|(simp[wy,hc];simp_all;done)|((try(simp only[b2,dN]at *));simp[wy, *];done)|(exfalso;simp[Jd]at hc h;first|(simp_all;done)|(simp_all;omega)|omega|grind)|(exfalso;simp[Jd,c0,cw]at *;first|(simp_all;done)|(simp_all;omega)|omega|grind))
def kG(w:ep):Bool:=bK w.most 1 4096&&bK w.size 1 w.most&&bK w.aR 1 4611686018427387903&&bK w.seen 0 w.aR&&bK w.read 0 w.seen&&decide (w.aR≤IntKind.i64.wrap (w.read+w.size))&&bK w.jP 0 1000000
theorem Nj(iT iU iV iW iX iY:Int):aJ 46 [.agg [.int .i64 iT,.int .i64 iU,.int .i64 iV,.int .i64 iW,.int .i64 iX,.int .i64 iY]] [.one (.bool (kG (⟨iT,iU,iV,iW,iX,iY⟩:ep)))]:=by
 refine aN 47 Tryz.func46 Tryz.call46 [.tmp 2] ?_;intro _
 try simp only[go_sem]
 repeat'((first|refine ab.intro (by apply il) ?_|refine au.intro (by apply il) ?_|refine a7 ?_)<;>simp only[go_sem])
 all_goals(refine eo ?_;simp[kG])
theorem DZ(iT iU iV iW iX iY:Int):aJ 56 [.agg [.int .i64 iT,.int .i64 iU,.int .i64 iV,.int .i64 iW,.int .i64 iX,.int .i64 iY]] [.one (.bool (kG (⟨iT,iU,iV,iW,iX,iY⟩:ep)))]:=by
 refine aN 47 Tryz.func56 Tryz.call56 [.tmp 2] ?_;intro _
 try simp only[go_sem]
 repeat'((first|refine ab.intro (by apply h_) ?_|refine au.intro (by apply h_) ?_|refine a7 ?_)<;>simp only[go_sem])
 all_goals(refine eo ?_;simp[kG])
def iB(w:ep)(n:Int):Bool:=kG w&&decide (0≤n)&&decide (n≤IntKind.i64.wrap (w.aR-w.seen))
def oV(w:ep)(n:Int):ep:=if iB w n then {w with seen:=IntKind.i64.wrap (w.seen+n)}else w
theorem TZ(iT iU iV iW iX iY n:Int):aJ 329 [.agg [.int .i64 iT,.int .i64 iU,.int .i64 iV,.int .i64 iW,.int .i64 iX,.int .i64 iY],.one (.int .i64 n)] [.agg (ep.enc (oV (⟨iT,iU,iV,iW,iX,iY⟩:ep) n)),.one (.bool (iB (⟨iT,iU,iV,iW,iX,iY⟩:ep) n))]:=by
 refine aN 29 Tryz.func329 Tryz.call329 [.cell 4 30,.tmp 5] ?_;intro _
 try simp only[go_sem]
 repeat'((first|refine ab.intro (by apply DZ) ?_|refine a7 ?_|refine bt (fun h=>?_) (fun h=>?_))<;>simp only[go_sem])
 all_goals(cases hc:iB (⟨iT,iU,iV,iW,iX,iY⟩:ep) n<;>first|(simp[oV,hc];done)|(simp[oV,hc];simp_all;done)|((try(simp only[b2,dN]at *));simp[oV, *];done)|(exfalso;simp[iB]at hc h;first|(simp_all;done)|(simp_all;omega)|omega|grind)|(exfalso;simp[iB,c0,cw]at *;first|(simp_all;done)|(simp_all;omega)|omega|grind))
def FU(w:ep)(n:Int):Bool:=kG w&&decide (0≤n)&&decide (n≤IntKind.i64.wrap (w.seen-w.read))
def Di(w:ep)(n:Int):ep:=if FU w n then {w with read:=IntKind.i64.wrap (w.read+n)}else w
theorem T4(iT iU iV iW iX iY n:Int):aJ 279 [.agg [.int .i64 iT,.int .i64 iU,.int .i64 iV,.int .i64 iW,.int .i64 iX,.int .i64 iY],.one (.int .i64 n)] [.agg (ep.enc (Di (⟨iT,iU,iV,iW,iX,iY⟩:ep) n)),.one (.bool (FU (⟨iT,iU,iV,iW,iX,iY⟩:ep) n))]:=by
 refine aN 29 Tryz.func279 Tryz.call279 [.cell 4 30,.tmp 5] ?_;intro _
 try simp only[go_sem]
 repeat'((first|refine ab.intro (by apply DZ) ?_|refine a7 ?_|refine bt (fun h=>?_) (fun h=>?_))<;>simp only[go_sem])
 all_goals(cases hc:FU (⟨iT,iU,iV,iW,iX,iY⟩:ep) n<;>first|(simp[Di,hc];done)|(simp[Di,hc];simp_all;done)|((try(simp only[b2,dN]at *));simp[Di, *];done)|(exfalso;simp[FU]at hc h;first|(simp_all;done)|(simp_all;omega)|omega|grind)|(exfalso;simp[FU,c0,cw]at *;first|(simp_all;done)|(simp_all;omega)|omega|grind))
def oK(w:ep):Bool:=kG w&&decide (w.aR<4611686018427387903)&&decide (IntKind.i64.wrap ((IntKind.i64.wrap (w.size+1)).tdiv 2)≤IntKind.i64.wrap (IntKind.i64.wrap (w.read+w.size)-w.aR))
theorem Li(iT iU iV iW iX iY:Int):aJ 313 [.agg [.int .i64 iT,.int .i64 iU,.int .i64 iV,.int .i64 iW,.int .i64 iX,.int .i64 iY]] [.one (.bool (oK (⟨iT,iU,iV,iW,iX,iY⟩:ep)))]:=by
 refine aN 25 Tryz.func313 Tryz.call313 [.tmp 2] ?_;intro _
 try simp only[go_sem]
 repeat'((first|refine ab.intro (by apply DZ) ?_|refine a7 ?_)<;>simp only[go_sem])
 all_goals(refine eo ?_;simp[oK])
def BD(w:ep)(h8 g7:Int):Bool:=oK w&&bK h8 w.jP 1000000&&bK g7 1 1000
def FV(w:ep)(h8 g7:Int):Int:=if IntKind.i64.wrap (h8-w.jP)<IntKind.i64.wrap (2 * g7)then dG (IntKind.i64.wrap (2 * w.size)) w.most else w.size
def Dg(w:ep)(h8 g7:Int):ep:=if BD w h8 g7 then {w with size:=FV w h8 g7,aR:=dG (IntKind.i64.wrap (w.read+FV w h8 g7)) 4611686018427387903,jP:=h8}else w
theorem QX(iT iU iV iW iX iY n t:Int):aJ 314 [.agg [.int .i64 iT,.int .i64 iU,.int .i64 iV,.int .i64 iW,.int .i64 iX,.int .i64 iY],.one (.int .i64 n),.one (.int .i64 t)] [.agg (ep.enc (Dg (⟨iT,iU,iV,iW,iX,iY⟩:ep) n t)),.one (.bool (BD (⟨iT,iU,iV,iW,iX,iY⟩:ep) n t))]:=by
 refine aN 48 Tryz.func314 Tryz.call314 [.cell 6 30,.tmp 7] ?_;intro _
 try simp only[go_sem]
 repeat'((first|refine ab.intro (by apply Li) ?_|refine au.intro (by apply h_) ?_|refine a7 ?_|refine bt (fun h=>?_) (fun h=>?_))<;>simp only[go_sem])
 all_goals(cases hc:BD (⟨iT,iU,iV,iW,iX,iY⟩:ep) n t<;>first|(simp[Dg,FV,dG,hc];done)|(simp[Dg,FV,dG,hc];simp_all;done)|((try(simp only[b2,dN]at *));simp[Dg,FV,dG, *];done)|(exfalso;simp[BD]at hc h;first|(simp_all;done)|(simp_all;omega)|omega|grind)|(exfalso;simp[BD,c0,cw]at *;first|(simp_all;done)|(simp_all;omega)|omega|grind))
def jf(c:gZ):Bool:=bK c.aR 0 1152921504606846976&&bK c.opened 0 c.aR&&bK c.blocked (-1) c.aR
theorem U2(dY mf dZ:Int):aJ 47 [.agg [.int .i64 dY,.int .i64 mf,.int .i64 dZ]] [.one (.bool (jf (⟨dY,mf,dZ⟩:gZ)))]:=by
 refine aN 20 Tryz.func47 Tryz.call47 [.tmp 2] ?_;intro _
 try simp only[go_sem]
 repeat'((first|refine ab.intro (by apply il) ?_|refine au.intro (by apply il) ?_|refine a7 ?_)<;>simp only[go_sem])
 all_goals(refine eo ?_;simp[jf])
theorem KL(dY mf dZ:Int):aJ 57 [.agg [.int .i64 dY,.int .i64 mf,.int .i64 dZ]] [.one (.bool (jf (⟨dY,mf,dZ⟩:gZ)))]:=by
 refine aN 20 Tryz.func57 Tryz.call57 [.tmp 2] ?_;intro _
 try simp only[go_sem]
 repeat'((first|refine ab.intro (by apply h_) ?_|refine au.intro (by apply h_) ?_|refine a7 ?_)<;>simp only[go_sem])
 all_goals(refine eo ?_;simp[jf])
def mn(c:gZ):Bool:=jf c&&decide (c.opened≠c.aR)
def pj(c:gZ):Int:=if mn c then c.opened else -1
def oG(c:gZ):gZ:=if mn c then {c with opened:=IntKind.i64.wrap (c.opened+1)}else if jf c then {c with blocked:=c.aR}else c
theorem PZ(dY mf dZ:Int):aJ 230 [.agg [.int .i64 dY,.int .i64 mf,.int .i64 dZ]] [.one (.int .i64 (pj (⟨dY,mf,dZ⟩:gZ))),.agg [.int .i64 (oG (⟨dY,mf,dZ⟩:gZ)).aR,.int .i64 (oG (⟨dY,mf,dZ⟩:gZ)).opened,.int .i64 (oG (⟨dY,mf,dZ⟩:gZ)).blocked],.one (.bool (mn (⟨dY,mf,dZ⟩:gZ)))]:=by
 refine aN 26 Tryz.func230 Tryz.call230 [.tmp 2,.cell 3 32,.tmp 4] ?_;intro _
 try simp only[go_sem]
 repeat'((first|refine ab.intro (by apply KL) ?_|refine ba [[.post,.dv,.post,.post],[.dv,.post,.post,.post],[.pre,.pre,.post,.post],[.pre,.pre,.pre,.post]] (by kernel_rfl) (by rfl) ?_|refine ba [[.post,.dv,.post,.post,.post],[.dv,.post,.dv,.post,.post],[.pre,.dv,.post,.post,.post],[.pre,.pre,.pre,.post,.post],[.pre,.pre,.pre,.pre,.post]] (by kernel_rfl) (by rfl) ?_|refine bt (fun h=>?_) (fun h=>?_))<;>simp only[go_sem])
 all_goals(cases hc:mn (⟨dY,mf,dZ⟩:gZ)<;>first|(simp[pj,oG,hc];done)|(simp[pj,oG,hc];simp_all;done)|((try(simp only[b2,dN]at *));simp[pj,oG, *];done)|(exfalso;simp[mn]at hc h;first|(simp_all;done)|(simp_all;omega)|omega|grind)|(exfalso;simp[mn,c0,cw]at *;first|(simp_all;done)|(simp_all;omega)|omega|grind))
def Je(c:gZ)(l:Int):Bool:=jf c&&decide (c.aR<l)&&decide (l≤1152921504606846976)
def xj(c:gZ)(l:Int):gZ:=if Je c l then {c with aR:=l,blocked:=-1}else c
theorem T1(dY mf dZ l:Int):aJ 301 [.agg [.int .i64 dY,.int .i64 mf,.int .i64 dZ],.one (.int .i64 l)] [.agg [.int .i64 (xj (⟨dY,mf,dZ⟩:gZ) l).aR,.int .i64 (xj (⟨dY,mf,dZ⟩:gZ) l).opened,.int .i64 (xj (⟨dY,mf,dZ⟩:gZ) l).blocked]]:=by
 refine aN 23 Tryz.func301 Tryz.call301 [.cell 4 32] ?_;intro _
 try simp only[go_sem]
 repeat'((first|refine ab.intro (by apply KL) ?_|refine a7 ?_|refine bt (fun h=>?_) (fun h=>?_))<;>simp only[go_sem])
 all_goals(cases hc:Je (⟨dY,mf,dZ⟩:gZ) l<;>first|(simp[xj,hc];done)|(simp[xj,hc];simp_all;done)|((try(simp only[b2,dN]at *));simp[xj, *];done)|(exfalso;simp[Je]at hc h;first|(simp_all;done)|(simp_all;omega)|omega|grind)|(exfalso;simp[Je,c0,cw]at *;first|(simp_all;done)|(simp_all;omega)|omega|grind))
def g0(a:dB):Bool:=bK a.most 0 1000&&bK a.aR a.most 1152921504606846976&&bK a.seen 0 a.aR&&bK a.closed 0 a.seen&&decide (a.aR≤IntKind.i64.wrap (a.closed+a.most))
theorem Fx(eA ei eB eC:Int):aJ 48 [.agg [.int .i64 eA,.int .i64 ei,.int .i64 eB,.int .i64 eC]] [.one (.bool (g0 (⟨eA,ei,eB,eC⟩:dB)))]:=by
 refine aN 37 Tryz.func48 Tryz.call48 [.tmp 2] ?_;intro _
 try simp only[go_sem]
 repeat'((first|refine ab.intro (by apply il) ?_|refine au.intro (by apply il) ?_|refine a7 ?_)<;>simp only[go_sem])
 all_goals(refine eo ?_;simp[g0])
theorem G3(eA ei eB eC:Int):aJ 58 [.agg [.int .i64 eA,.int .i64 ei,.int .i64 eB,.int .i64 eC]] [.one (.bool (g0 (⟨eA,ei,eB,eC⟩:dB)))]:=by
 refine aN 37 Tryz.func58 Tryz.call58 [.tmp 2] ?_;intro _
 try simp only[go_sem]
 repeat'((first|refine ab.intro (by apply h_) ?_|refine au.intro (by apply h_) ?_|refine a7 ?_)<;>simp only[go_sem])
 all_goals(refine eo ?_;simp[g0])
def ia(a:dB)(i:Int):Bool:=g0 a&&decide (0≤i)&&decide (i<a.aR)
def fj(a:dB)(i:Int):Int:=if ia a i then eb 0 (IntKind.i64.wrap (IntKind.i64.wrap (i+1)-a.seen))else 0
def dd(a:dB)(i:Int):dB:=if ia a i then {a with seen:=IntKind.i64.wrap (a.seen+fj a i)}else a
theorem Qg(eA ei eB eC i:Int):aJ 38 [.agg [.int .i64 eA,.int .i64 ei,.int .i64 eB,.int .i64 eC],.one (.int .i64 i)] [.agg [.int .i64 (dd (⟨eA,ei,eB,eC⟩:dB) i).most,.int .i64 (dd (⟨eA,ei,eB,eC⟩:dB) i).aR,.int .i64 (dd (⟨eA,ei,eB,eC⟩:dB) i).seen,.int .i64 (dd (⟨eA,ei,eB,eC⟩:dB) i).closed],.one (.int .i64 (fj (⟨eA,ei,eB,eC⟩:dB) i)),.one (.bool (ia (⟨eA,ei,eB,eC⟩:dB) i))]:=by
 refine aN 35 Tryz.func38 Tryz.call38 [.cell 4 34,.tmp 5,.tmp 6] ?_;intro _
 try simp only[go_sem]
 repeat'((first|refine ab.intro (by apply G3) ?_|refine a7 ?_|refine bt (fun h=>?_) (fun h=>?_))<;>simp only[go_sem])
 all_goals(cases hc:ia (⟨eA,ei,eB,eC⟩:dB) i<;>first|(simp[dd,fj,eb,hc];done)|(simp[dd,fj,eb,hc];simp_all;done)|((try(simp only[b2,dN]at *));simp[dd,fj,eb, *];done)|(exfalso;simp[ia]at hc h;first|(simp_all;done)|(simp_all;omega)|omega|grind)|(exfalso;simp[ia,c0,cw]at *;first|(simp_all;done)|(simp_all;omega)|omega|grind))
def FW(a:dB):Bool:=g0 a&&decide (a.closed≠a.seen)
def po(a:dB):dB:=if FW a then {a with closed:=IntKind.i64.wrap (a.closed+1)}else a
theorem GV(eA ei eB eC:Int):aJ 312 [.agg [.int .i64 eA,.int .i64 ei,.int .i64 eB,.int .i64 eC]] [.agg [.int .i64 (po (⟨eA,ei,eB,eC⟩:dB)).most,.int .i64 (po (⟨eA,ei,eB,eC⟩:dB)).aR,.int .i64 (po (⟨eA,ei,eB,eC⟩:dB)).seen,.int .i64 (po (⟨eA,ei,eB,eC⟩:dB)).closed],.one (.bool (FW (⟨eA,ei,eB,eC⟩:dB)))]:=by
 refine aN 20 Tryz.func312 Tryz.call312 [.cell 2 34,.tmp 3] ?_;intro _
 try simp only[go_sem]
 repeat'((first|refine ab.intro (by apply G3) ?_|refine a7 ?_|refine bt (fun h=>?_) (fun h=>?_))<;>simp only[go_sem])
 all_goals(cases hc:FW (⟨eA,ei,eB,eC⟩:dB)<;>first|(simp[po,hc];done)|(simp[po,hc];simp_all;done)|((try(simp only[b2,dN]at *));simp[po, *];done)|(exfalso;simp[FW]at hc h;first|(simp_all;done)|(simp_all;omega)|omega|grind)|(exfalso;simp[FW,c0,cw]at *;first|(simp_all;done)|(simp_all;omega)|omega|grind))
def uT(a:dB):Bool:=g0 a&&decide (IntKind.i64.wrap ((IntKind.i64.wrap (a.most+1)).tdiv 2)≤IntKind.i64.wrap (IntKind.i64.wrap (a.closed+a.most)-a.aR))&&decide (0<a.most)
theorem QY(eA ei eB eC:Int):aJ 315 [.agg [.int .i64 eA,.int .i64 ei,.int .i64 eB,.int .i64 eC]] [.one (.bool (uT (⟨eA,ei,eB,eC⟩:dB)))]:=by
 refine aN 25 Tryz.func315 Tryz.call315 [.tmp 2] ?_;intro _
 try simp only[go_sem]
 repeat'((first|refine ab.intro (by apply G3) ?_|refine a7 ?_)<;>simp only[go_sem])
 all_goals(refine eo ?_;simp[uT])
def Dh(a:dB):Bool:=uT a&&decide (IntKind.i64.wrap (a.closed+a.most)≤1152921504606846976)
def xi(a:dB):dB:=if Dh a then {a with aR:=IntKind.i64.wrap (a.closed+a.most)}else a
theorem YZ(eA ei eB eC:Int):aJ 316 [.agg [.int .i64 eA,.int .i64 ei,.int .i64 eB,.int .i64 eC]] [.agg [.int .i64 (xi (⟨eA,ei,eB,eC⟩:dB)).most,.int .i64 (xi (⟨eA,ei,eB,eC⟩:dB)).aR,.int .i64 (xi (⟨eA,ei,eB,eC⟩:dB)).seen,.int .i64 (xi (⟨eA,ei,eB,eC⟩:dB)).closed],.one (.bool (Dh (⟨eA,ei,eB,eC⟩:dB)))]:=by
 refine aN 23 Tryz.func316 Tryz.call316 [.cell 2 34,.tmp 3] ?_;intro _
 try simp only[go_sem]
 repeat'((first|refine ab.intro (by apply QY) ?_|refine a7 ?_|refine bt (fun h=>?_) (fun h=>?_))<;>simp only[go_sem])
 all_goals(cases hc:Dh (⟨eA,ei,eB,eC⟩:dB)<;>first|(simp[xi,hc];done)|(simp[xi,hc];simp_all;done)|((try(simp only[b2,dN]at *));simp[xi, *];done)|(exfalso;simp[Dh]at hc h;first|(simp_all;done)|(simp_all;omega)|omega|grind)|(exfalso;simp[Dh,c0,cw]at *;first|(simp_all;done)|(simp_all;omega)|omega|grind))
def mO(p:ie):Bool:=bK p.iw 0 7
theorem aeW(n6:Int)(n7:Bool):aJ 141 [.agg [.int .i64 n6,.bool n7]] [.one (.bool (mO (⟨n6,n7⟩:ie)))]:=by
 refine aN 6 Tryz.func141 Tryz.call141 [.tmp 2] ?_;intro _
 try simp only[go_sem]
 repeat'(refine ab.intro (by apply il) ?_<;>simp only[go_sem])
 all_goals simp[mO]
theorem FX(n6:Int)(n7:Bool):aJ 147 [.agg [.int .i64 n6,.bool n7]] [.one (.bool (mO (⟨n6,n7⟩:ie)))]:=by
 refine aN 6 Tryz.func147 Tryz.call147 [.tmp 2] ?_;intro _
 try simp only[go_sem]
 repeat'(refine ab.intro (by apply h_) ?_<;>simp only[go_sem])
 all_goals simp[mO]
def n8:ie:=⟨3,false⟩
theorem Vh :aJ 134 [] [.agg [.int .i64 (n8).iw,.bool (n8).hR]]:=by
 refine aN 2 Tryz.func134 Tryz.call134 [.cell 0 61] ?_;intro _
 try simp only[go_sem]
 all_goals simp[n8]
def Cc:bW:=⟨16,8,32,16,64,2,2,4⟩
theorem Yu :aJ 150 [] [.agg (bW.enc (Cc))]:=by
 refine aN 2 Tryz.func150 Tryz.call150 [.cell 0 25] ?_;intro _
 try simp only[go_sem]
 all_goals simp[Cc]
set_option maxRecDepth 100000
def Wn:List (List bH):=cP 14 [4517978,4518331,4518337,4518316,4518262,4518100,4517613,4775314,4779688,4764379,4725013,4606915,4251528,3188646]
def Wo:List (List bH):=cP 14 [3985925,3985927,3985920,3985902,3985848,4545922,4546408,4544707,4540333,4527211,4753444,4635346,4251649,3188646]
def Wp:List (List bH):=cP 18 [365897129,385029358,385029364,385029343,385029289,385029127,386709349,386710807,386705704,386692582,386653216,387331915,386977621,385826530,382637521,373071583,344373768,258280326]
def Wq:List (List bH):=cP 14 [3988112,3988114,3988107,3988089,3988035,3988966,3988480,3986901,4760005,4773127,4727200,4609102,4254808,3188646]
def Wr:List (List bH):=cP 18 [365897129,385035919,385035925,385035904,385035850,385035688,385038481,385037023,385032286,387351598,387390964,387253183,386898889,385836007,382637521,373071583,344373768,258280326]
def Ws:List (List bH):=cP 25 [737454959978,737454959980,737454959973,737454959955,737454959901,737454988534,737454989020,737454987319,737454982945,737454969823,737454930336,747936157360,747936511654,747935271625,747932082979,747922517041,752994767092,753080860534,752779533487,752004692509,749680169575,742685165986,721764371007,800217020029,564859072962]
attribute [go_sem] Wn Wo Wp Wq Wr Ws
theorem kx(xs:List aa):cX xs=true↔(∀x∈xs,dj x=true)∧xs.Pairwise (fun a b=>a.high<b.low):=by
 constructor
 ·intro h;have OO:∀i (hi:i<xs.length),rAt xs i=true:=fun i hi=>by
   unfold cX at h;rw[List.all_eq_true]at h;exact h i (List.mem_range.2 hi)
  have hok:∀i (hi:i<xs.length),dj xs[i]=true:=fun i hi=>by
   cases i with
   |zero=>rw[←Jr xs hi];exact OO 0 hi
   |succ j=>have:=OO (j+1) hi;rw[F3 xs j hi,bP]at this;exact this.1
  have cW:∀j (al:j+1<xs.length),xs[j].high<xs[j+1].low:=fun j al=>by
   have:=OO (j+1) al;rw[F3 xs j al,bP]at this;exact cO this.2
  refine⟨fun x hx=>?_,?_⟩
  ·obtain⟨i,hi,rfl⟩:=List.getElem_of_mem hx;exact hok i hi
  ·rw[List.pairwise_iff_getElem];intro i j hi al mz;obtain⟨d,rfl⟩:∃d,j=i+1+d:=⟨j-i-1,by omega⟩;clear mz
   induction d with
   |zero=>exact cW i (by omega)
   |succ d dW=>
    have h1:=dW (by omega);have h2:=cW (i+1+d) (by omega);have aj:=hok (i+1+d) (by omega);simp only[dj,bP,b2]at aj;have e:xs[i+1+(d+1)].low=xs[i+1+d+1].low:=rfl;omega
 ·rintro⟨h1,h2⟩;unfold cX;rw[List.all_eq_true];intro i hi;have hi:=List.mem_range.1 hi
  cases i with
  |zero=>rw[Jr xs hi];exact h1 _ (eR hi)
  |succ j=>
   rw[F3 xs j hi,bP];exact⟨h1 _ (eR hi),bp ((List.pairwise_iff_getElem.1 h2) j (j+1) (by omega) hi (by omega))⟩
theorem hU(r:aa):dj r=true↔0≤r.low∧r.low<r.high∧r.high≤4611686018427387903:=by
 simp only[dj,bP,b2,and_assoc]
theorem xu{α β:Type}(g:β→α→β)(a:β)(xs:List α)(i:Nat)(h:i<xs.length):(xs.take (i+1)).foldl g a=g ((xs.take i).foldl g a) xs[i]:=by
 rw[hj,b8 h,Option.toList_some,List.foldl_append];rfl
theorem OP{α β:Type}(f:α→List β)(xs:List α)(i:Nat)(h:i<xs.length):(xs.take (i+1)).flatMap f=(xs.take i).flatMap f++f xs[i]:=by
 rw[hj,b8 h,Option.toList_some,List.flatMap_append];simp
def ig(xs:List aa):Int:=xs.foldl (fun n r=>n+(r.high-r.low)) 0
theorem Gf{xs:List aa}(h:cX xs=true):∀i,(hi:i<xs.length)→0≤ig (xs.take i)∧ig (xs.take i)≤xs[i].low
 |0,hi=>by
  have h1:=(hU _).1 (((kx xs).1 h).1 _ (eR hi));simp only[List.take_zero,ig,List.foldl_nil];omega
 |i+1,hi=>by
  obtain⟨h1,h2⟩:=Gf h i (by omega);have aj:=(List.pairwise_iff_getElem.1 ((kx xs).1 h).2) i (i+1) (by omega) hi (by omega);have aE:=(hU _).1 (((kx xs).1 h).1 _ (eR (show i<xs.length by omega)));have e:ig (xs.take (i+1))=ig (xs.take i)+(xs[i].high-xs[i].low):=xu _ _ _ _ _;omega
def iC(xs:List aa):Int:=if cX xs then ig xs else -1
theorem BT(xs:List aa):aJ 201 [.one (.sl 2 (xs.map aa.enc))] [.one (.int .i64 (iC xs))]:=by
 refine aN 28 Tryz.func201 Tryz.call201 [.tmp 2] ?_;intro ok;have hm:=fr ok
 cases hA:cX xs with
 |false=>
  try simp only[go_sem]
  repeat'(refine ab.intro (by apply vY) ?_<;>simp only[go_sem,hA])
  all_goals simp[iC,hA]
 |true=>
  simp only[go_sem];refine ab.intro (vY xs) ?_;simp only[go_sem,hA];refine b7.intro (fun i:Nat=>⟨(.d (.sl 2 (xs.map aa.enc))::.ak::.i 0::.i (ig (xs.take i))::.i i::jn 23 []),[]⟩)
   (fun i=>xs.length-i) (fun i=>i≤xs.length) 0 [] (by omega) ?_ ?_
  ·simp only[go_sem];simp[ig]
  ·intro i hi;by_cases h1:i<xs.length
   ·have ax:decide ((i:Int)<(xs.length:Int))=true:=bp (by omega);have aq:=b5 aa.enc xs i h1;have hw:=dK h1 hm;have hb:=Gf hA i h1;have aE:=(hU _).1 (((kx xs).1 hA).1 _ (eR h1));have e:ig (xs.take (i+1))=ig (xs.take i)+(xs[i].high-xs[i].low):=xu _ _ _ _ _;have gh:IntKind.i64.wrap (ig (xs.take i)+xs[i].high)=ig (xs.take i)+xs[i].high:=by rw[bz]<;>omega
    have h3:IntKind.i64.wrap (ig (xs.take i)+xs[i].high-xs[i].low)=ig (xs.take (i+1)):=by rw[bz]<;>omega
    try simp only[go_sem,I,ax]
    repeat'(first|(refine ba Wn (by kernel_rfl) (by rfl) ?_<;>simp only[go_sem,I,aC,aq,aa.enc,gh,h3])|(with_reducible refine aw ?_)|fail)
    all_goals(refine bA.intro (i+1) [] (by omega) (by omega) ?_;simp only[go_sem,hw];try simp)
   ·have ax:decide ((i:Int)<(xs.length:Int))=false:=bo (by omega);obtain rfl:i=xs.length:=by omega
    simp only[go_sem,I,ax,d_];simp[iC,hA]
theorem OQ(xs:List aa):aJ 256 [.one (.sl 2 (xs.map aa.enc))] [.one (.int .i64 (iC xs))]:=by
 refine aN 24 Tryz.func256 Tryz.call256 [.tmp 2] ?_;intro ok;have hm:=fr ok
 cases hA:cX xs with
 |false=>
  try simp only[go_sem]
  repeat'(refine ab.intro (by apply F4) ?_<;>simp only[go_sem,hA])
  all_goals simp[iC,hA]
 |true=>
  simp only[go_sem];refine ab.intro (F4 xs) ?_;simp only[go_sem,I,hA];refine b7.intro (fun i:Nat=>⟨(.d (.sl 2 (xs.map aa.enc))::.ak::.i 0::.i (ig (xs.take i))::jn 5 (.d (.sl 2 (xs.map aa.enc))::.i xs.length::.i i::jn 12 [])),[]⟩)
   (fun i=>xs.length-i) (fun i=>i≤xs.length) 0 [] (by omega) ?_ ?_
  ·simp only[go_sem];simp[ig]
  ·intro i hi;by_cases h1:i<xs.length
   ·have ax:decide ((i:Int)<(xs.length:Int))=true:=bp (by omega);have aq:=b5 aa.enc xs i h1;have hw:=dK h1 hm;have hb:=Gf hA i h1;have aE:=(hU _).1 (((kx xs).1 hA).1 _ (eR h1));have e:ig (xs.take (i+1))=ig (xs.take i)+(xs[i].high-xs[i].low):=xu _ _ _ _ _;have gh:IntKind.i64.wrap (xs[i].high-xs[i].low)=xs[i].high-xs[i].low:=by rw[bz]<;>omega
    have h3:IntKind.i64.wrap (ig (xs.take i)+(xs[i].high-xs[i].low))=ig (xs.take (i+1)):=by rw[bz]<;>omega
    try simp only[go_sem,I,aC,aq,aa.enc,ax,gh,h3]
    repeat'(first|(with_reducible refine aw ?_)|fail)
    all_goals(refine bA.intro (i+1) [] (by omega) (by omega) ?_;simp only[go_sem,hw];try simp)
   ·have ax:decide ((i:Int)<(xs.length:Int))=false:=bo (by omega);obtain rfl:i=xs.length:=by omega
    simp only[go_sem,ax,d_];simp[iC,hA]
def ka(f:Int)(r:aa):Int:=if r.low≤f∧f<r.high then r.high else f
def xk(xs:List aa)(f:Int):Bool:=cX xs&&decide (0≤f)
def o2(xs:List aa)(f:Int):Int:=if xk xs f then xs.foldl ka f else -1
theorem yW(xs:List aa)(f:Int):aJ 202 [.one (.sl 2 (xs.map aa.enc)),.one (.int .i64 f)] [.one (.int .i64 (o2 xs f))]:=by
 refine aN 41 Tryz.func202 Tryz.call202 [.tmp 4] ?_;intro ok;have hm:=fr ok
 try simp only[go_sem]
 repeat'((first|refine ab.intro (by apply vY) ?_|refine a7 ?_)<;>simp only[go_sem])
 refine bt (fun h0=>?_) (fun h0=>?_)
 ·simp only[go_sem];have:xk xs f=false:=by revert h0;simp only[xk];cases cX xs<;>simp
  simp[o2,this]
 ·have hg:xk xs f=true:=by revert h0;simp only[xk];cases cX xs<;>simp
  simp only[go_sem];refine b7.intro (fun i:Nat=>⟨(.d (.sl 2 (xs.map aa.enc))::.i ((xs.take i).foldl ka f)::jn 3 (.i i::jn 35 [])),[]⟩)
   (fun i=>xs.length-i) (fun i=>i≤xs.length) 0 [] (by omega) ?_ ?_
  ·simp only[go_sem];simp
  ·intro i hi;by_cases h1:i<xs.length
   ·have ax:decide ((i:Int)<(xs.length:Int))=true:=bp (by omega);have aq:=b5 aa.enc xs i h1;have hw:=dK h1 hm;have e:=xu ka f xs i h1;by_cases cM:xs[i].low≤(xs.take i).foldl ka f
    ·have ow:decide (xs[i].low≤(xs.take i).foldl ka f)=true:=bp cM;by_cases dI:(xs.take i).foldl ka f<xs[i].high
     ·have vZ:decide ((xs.take i).foldl ka f<xs[i].high)=true:=bp dI;rw[ka,if_pos ⟨cM,dI⟩]at e
      try simp only[go_sem,I,aC,aq,aa.enc,ax,ow]
      repeat'(first|(with_reducible refine du ?_<;>simp only[go_sem,I,aC,aq,aa.enc,vZ])|(with_reducible refine aw ?_)|fail)
      all_goals(refine bA.intro (i+1) [] (by omega) (by omega) ?_;simp only[go_sem,hw,e])
     ·have vZ:decide ((xs.take i).foldl ka f<xs[i].high)=false:=bo dI;rw[ka,if_neg (fun g=>dI g.2)]at e
      try simp only[go_sem,I,aC,aq,aa.enc,ax,ow]
      repeat'(first|(with_reducible refine du ?_<;>simp only[go_sem,I,aC,aq,aa.enc,vZ])|(with_reducible refine aw ?_)|fail)
      all_goals(refine bA.intro (i+1) [] (by omega) (by omega) ?_;simp only[go_sem,hw,e])
    ·have ow:decide (xs[i].low≤(xs.take i).foldl ka f)=false:=bo cM;rw[ka,if_neg (fun g=>cM g.1)]at e
     try simp only[go_sem,I,aC,aq,aa.enc,ax,ow]
     repeat'(first|(with_reducible refine e5 ?_<;>simp only[go_sem])|(with_reducible refine aw ?_)|fail)
     all_goals(refine bA.intro (i+1) [] (by omega) (by omega) ?_;simp only[go_sem,hw,e])
   ·have ax:decide ((i:Int)<(xs.length:Int))=false:=bo (by omega);obtain rfl:i=xs.length:=by omega
    simp only[go_sem,I,ax,d_];simp[o2,hg]
theorem Wt(xs:List aa)(f:Int):aJ 191 [.one (.sl 2 (xs.map aa.enc)),.one (.int .i64 f)] [.one (.int .i64 (o2 xs f))]:=by
 refine aN 34 Tryz.func191 Tryz.call191 [.tmp 4] ?_;intro ok;have hm:=fr ok
 try simp only[go_sem]
 repeat'((first|refine ab.intro (by apply F4) ?_|refine a7 ?_)<;>simp only[go_sem])
 refine bt (fun h0=>?_) (fun h0=>?_)
 ·simp only[go_sem];have:xk xs f=false:=by revert h0;simp only[xk];cases cX xs<;>simp
  simp[o2,this]
 ·have hg:xk xs f=true:=by revert h0;simp only[xk];cases cX xs<;>simp
  simp only[go_sem,I];refine b7.intro (fun i:Nat=>⟨(.d (.sl 2 (xs.map aa.enc))::.i ((xs.take i).foldl ka f)::jn 12 (.d (.sl 2 (xs.map aa.enc))::.i xs.length::.i i::jn 17 [])),[]⟩)
   (fun i=>xs.length-i) (fun i=>i≤xs.length) 0 [] (by omega) ?_ ?_
  ·simp only[go_sem];simp
  ·intro i hi;by_cases h1:i<xs.length
   ·have ax:decide ((i:Int)<(xs.length:Int))=true:=bp (by omega);have aq:=b5 aa.enc xs i h1;have hw:=dK h1 hm;have e:=xu ka f xs i h1;by_cases cM:xs[i].low≤(xs.take i).foldl ka f
    ·have ow:decide (xs[i].low≤(xs.take i).foldl ka f)=true:=bp cM;by_cases dI:(xs.take i).foldl ka f<xs[i].high
     ·have vZ:decide ((xs.take i).foldl ka f<xs[i].high)=true:=bp dI;rw[ka,if_pos ⟨cM,dI⟩]at e
      try simp only[go_sem,I,aC,aq,aa.enc,ax,ow]
      repeat'(first|(with_reducible refine du ?_<;>simp only[go_sem,vZ])|(with_reducible refine aw ?_)|fail)
      all_goals(refine bA.intro (i+1) [] (by omega) (by omega) ?_;simp only[go_sem,hw,e])
     ·have vZ:decide ((xs.take i).foldl ka f<xs[i].high)=false:=bo dI;rw[ka,if_neg (fun g=>dI g.2)]at e
      try simp only[go_sem,I,aC,aq,aa.enc,ax,ow]
      repeat'(first|(with_reducible refine du ?_<;>simp only[go_sem,vZ])|(with_reducible refine aw ?_)|fail)
      all_goals(refine bA.intro (i+1) [] (by omega) (by omega) ?_;simp only[go_sem,hw,e])
    ·have ow:decide (xs[i].low≤(xs.take i).foldl ka f)=false:=bo cM;rw[ka,if_neg (fun g=>cM g.1)]at e
     try simp only[go_sem,I,aC,aq,aa.enc,ax,ow]
     repeat'(first|(with_reducible refine e5 ?_<;>simp only[go_sem])|(with_reducible refine aw ?_)|fail)
     all_goals(refine bA.intro (i+1) [] (by omega) (by omega) ?_;simp only[go_sem,hw,e])
   ·have ax:decide ((i:Int)<(xs.length:Int))=false:=bo (by omega);obtain rfl:i=xs.length:=by omega
    simp only[go_sem,ax,d_];simp[o2,hg]
def ky(r x:aa):List aa:=
 (if x.low<dG x.high r.low then [⟨x.low,dG x.high r.low⟩]else [])++(if eb x.low r.high<x.high then [⟨eb x.low r.high,x.high⟩]else [])
def n4(xs:List aa)(r:aa):List aa:=if cX xs&&dj r then xs.flatMap (ky r)else xs
theorem Wu(r x:aa):(ky r x).length≤2:=by unfold ky;split<;>split<;>simp
theorem Dw{α β:Type}(f:α→List β)(k:Nat)(h:∀x,(f x).length≤k):∀xs:List α,(xs.flatMap f).length≤k * xs.length
 |[]=>by simp
 |x::xs=>by
  have:=Dw f k h xs;have:=h x;simp only[List.flatMap_cons,eG,eW,Nat.mul_add];omega
theorem OR(xs:List aa)(l h:Int)(hx:xs.length≤1048576):aJ 333 [.one (.sl 2 (xs.map aa.enc)),.agg [.int .i64 l,.int .i64 h]] [.one (.sl 2 ((n4 xs ⟨l,h⟩).map aa.enc))]:=by
 refine aN 87 Tryz.func333 Tryz.call333 [.tmp 4] ?_;intro ok;have hm:=fr ok
 try simp only[go_sem]
 repeat'((first|refine ab.intro (by apply vY) ?_|refine au.intro (by apply F5) ?_|refine a7 ?_)<;>simp only[go_sem])
 refine bt (fun h0=>?_) (fun h0=>?_)
 ·have hg:(cX xs&&dj ⟨l,h⟩)=false:=by revert h0;cases cX xs<;>cases dj ⟨l,h⟩<;>simp
  try simp only[go_sem]
  repeat'(first|(refine ab.intro (by(apply KO<;>exact aP)) ?_<;>simp only[go_sem,I])|(with_reducible refine aw ?_)|fail)
  all_goals simp[n4,hg]
 ·have hg:(cX xs&&dj ⟨l,h⟩)=true:=by revert h0;cases cX xs<;>cases dj ⟨l,h⟩<;>simp
  simp only[go_sem];refine b7.intro (fun i:Nat=>⟨(.d (.sl 2 (xs.map aa.enc))::.ak::.ak::.ptr 0 0 0::.ak::.sl 1 0 ((xs.take i).flatMap (ky ⟨l,h⟩)).length::.i i::jn 80 []),[.box [.i l,.i h],.ar 2 (((xs.take i).flatMap (ky ⟨l,h⟩)).map aa.enc) true]⟩)
   (fun i=>xs.length-i) (fun i=>i≤xs.length) 0 [0,1] (by omega) ?_ ?_
  ·simp only[go_sem];simp
  ·intro i hi;by_cases h1:i<xs.length
   ·have ax:decide ((i:Int)<(xs.length:Int))=true:=bp (by omega);have aq:=b5 aa.enc xs i h1;have hw:=dK h1 hm;have e:=OP (ky ⟨l,h⟩) xs i h1;have h4:=Dw (ky ⟨l,h⟩) 2 (Wu _) (xs.take i);have cR:(xs.take i).length=i:=by simp;omega
    generalize hq:(xs.take i).flatMap (ky ⟨l,h⟩)=jx at e h4
    try simp only[go_sem,I,ax]
    repeat'(first|((first|refine ba Wo (by decide) (by rfl) ?_|refine ba Wp (by decide) (by rfl) ?_|refine ba Wq (by decide) (by rfl) ?_|refine ba Wr (by decide) (by rfl) ?_|refine bt (fun h=>?_) (fun h=>?_))<;>simp only[go_sem,I,aC,aq,aa.enc])|(with_reducible refine aw ?_)|fail)
    all_goals(simp only[b2,dN]at *)
    all_goals rename_i h2
    all_goals first
     |(refine bA.intro (i+1) [0,5] (by omega) (by omega) ?_;simp only[go_sem,hw,e,ky,dG,eb];rw[if_pos h2,if_pos h];simp[aa.enc];done)
     |(refine bA.intro (i+1) [0,3] (by omega) (by omega) ?_;simp only[go_sem,hw,e,ky,dG,eb];rw[if_pos h2,if_neg h];simp[aa.enc];done)
     |(refine bA.intro (i+1) [0,3] (by omega) (by omega) ?_;simp only[go_sem,hw,e,ky,dG,eb];rw[if_neg h2,if_pos h];simp[aa.enc];done)
     |(refine bA.intro (i+1) [0,1] (by omega) (by omega) ?_;simp only[go_sem,hw,e,ky,dG,eb];rw[if_neg h2,if_neg h];simp;done)
   ·have ax:decide ((i:Int)<(xs.length:Int))=false:=bo (by omega);obtain rfl:i=xs.length:=by omega
    simp only[go_sem,I,ax,d_];simp[n4,hg]
def iD(x y:aa):List aa:=if eb x.low y.low<dG x.high y.high then [⟨eb x.low y.low,dG x.high y.high⟩]else []
def j_(xs ys:List aa):List aa:=if cX xs&&cX ys then xs.flatMap fun x=>ys.flatMap (iD x)else []
theorem OS(x y:aa):(iD x y).length≤1:=by unfold iD;split<;>simp
theorem OT(xs ys:List aa)(hx:xs.length≤1048576)(hy:ys.length≤8):aJ 331 [.one (.sl 2 (xs.map aa.enc)),.one (.sl 2 (ys.map aa.enc))] [.one (.sl 2 ((j_ xs ys).map aa.enc))]:=by
 refine aN 63 Tryz.func331 Tryz.call331 [.tmp 4] ?_;intro ok;have hm:=fr ok;have dA:=vY xs;have fN:=vY ys;simp only[go_sem];refine b7.intro (fun i:Nat=>⟨(.d (.sl 2 (xs.map aa.enc))::.d (.sl 2 (ys.map aa.enc))::jn 3 (.sl 0 0 ((xs.take i).flatMap fun x=>ys.flatMap (iD x)).length::.i i::jn 56 [])),[.ar 2 (((xs.take i).flatMap fun x=>ys.flatMap (iD x)).map aa.enc) true]⟩)
   (fun i=>xs.length-i) (fun i=>i≤xs.length∧((cX xs&&cX ys)=false→i=0)) 0 [0] ⟨by omega,fun _=>rfl⟩ ?_ ?_
 ·simp only[go_sem];simp
 ·rintro i ⟨hi,hz⟩;by_cases h1:i<xs.length
  ·have ax:decide ((i:Int)<(xs.length:Int))=true:=bp (by omega);have aq:=b5 aa.enc xs i h1;have hw:=dK h1 hm;have e:=OP (fun x=>ys.flatMap (iD x)) xs i h1;have h4:=Dw (fun x=>ys.flatMap (iD x)) ys.length (fun x=>by have:=Dw (iD x) 1 (OS x) ys;omega) (xs.take i);have cR:(xs.take i).length=i:=by simp;omega
   have agA:((xs.take i).flatMap fun x=>ys.flatMap (iD x)).length≤8388608:=by
    have:ys.length * (xs.take i).length≤8 * 1048576:=Nat.mul_le_mul hy (by omega);omega
   cases hg:(cX xs&&cX ys)with
   |false=>
    obtain rfl:=hz hg
    cases lT:cX xs with
    |false=>
     try simp only[go_sem,I,ax]
     repeat'(first|((first|refine ab.intro (by assumption) ?_|refine au.intro (by assumption) ?_|with_reducible refine du ?_|with_reducible refine e5 ?_)<;>simp only[go_sem,I,lT])|(with_reducible refine aw ?_)|fail)
     all_goals simp[j_,hg]
    |true=>
     have lN:cX ys=false:=by revert hg;rw[lT];simp
     try simp only[go_sem,I,ax]
     repeat'(first|((first|refine ab.intro (by assumption) ?_|refine au.intro (by assumption) ?_|with_reducible refine du ?_)<;>simp only[go_sem,I,lT,lN])|(with_reducible refine aw ?_)|fail)
     all_goals simp[j_,hg]
   |true=>
    have lT:cX xs=true:=by revert hg;cases cX xs<;>simp
    have lN:cX ys=true:=by revert hg;rw[lT];simp
    generalize hq:((xs.take i).flatMap fun x=>ys.flatMap (iD x))=jx at e h4 agA
    try simp only[go_sem,I,ax]
    repeat'((first|refine ab.intro (by assumption) ?_|refine au.intro (by assumption) ?_|with_reducible refine du ?_)<;>simp only[go_sem,lT,lN])
    refine b7.intro (fun k:Nat=>⟨(.d (.sl 2 (xs.map aa.enc))::.d (.sl 2 (ys.map aa.enc))::jn 3 (.sl 0 0 (jx++(ys.take k).flatMap (iD xs[i])).length::.i i::.i k::jn 55 [])),[.ar 2 ((jx++(ys.take k).flatMap (iD xs[i])).map aa.enc) true]⟩)
     (fun k=>ys.length-k) (fun k=>k≤ys.length) 0 [0] (by omega) ?_ ?_
    ·simp only[go_sem];simp
    ·intro k hk;by_cases h2:k<ys.length
     ·have hF:decide ((k:Int)<(ys.length:Int))=true:=bp (by omega);have dz:=b5 aa.enc ys k h2;have mT:=dK (m:=8) (i:=k) (by omega) (by simp[maxLen]);have ai:=OP (iD xs[i]) ys k h2;have ao9:=Dw (iD xs[i]) 1 (OS _) (ys.take k);have Wv:(ys.take k).length=k:=by simp;omega
      generalize DL:jx++(ys.take k).flatMap (iD xs[i])=Ww;have OU:Ww.length≤8388616:=by rw[←DL,eG];omega
      have aX:jx++(ys.take (k+1)).flatMap (iD xs[i])=Ww++iD xs[i] ys[k]:=by rw[ai,←List.append_assoc,DL]
      try simp only[go_sem,I,hF]
      repeat'(first|((first|refine ab.intro (by assumption) ?_|refine au.intro (by assumption) ?_|refine ba Ws (by kernel_rfl) (by rfl) ?_|refine bt (fun h=>?_) (fun h=>?_))<;>simp only[go_sem,I,aC,aq,dz,aa.enc])|(with_reducible refine aw ?_)|fail)
      ·have hc:iD xs[i] ys[k]=[⟨eb xs[i].low ys[k].low,dG xs[i].high ys[k].high⟩]:=by unfold iD;exact if_pos (cO h)
       rw[hc]at aX;have br:=congrArg List.length aX;simp only[eG,List.length_singleton]at br;refine bA.intro (k+1) [3] (by omega) (by omega) ?_;simp only[go_sem,mT,aX,br];simp[aa.enc,dG,eb]
      ·have hc:iD xs[i] ys[k]=[]:=by unfold iD;exact if_neg (c9 h)
       rw[hc,List.append_nil]at aX;have br:=congrArg List.length aX;simp only[eG]at br;refine bA.intro (k+1) [0] (by omega) (by omega) ?_;simp only[go_sem,mT,aX,br];simp
     ·have hF:decide ((k:Int)<(ys.length:Int))=false:=bo (by omega);obtain rfl:k=ys.length:=by omega
      simp only[go_sem,I,hF,d_];refine bA.intro (i+1) [0] (by omega) (by omega) ?_;simp only[go_sem,hw,e];simp
  ·have ax:decide ((i:Int)<(xs.length:Int))=false:=bo (by omega);obtain rfl:i=xs.length:=by omega
   have hr:(xs.flatMap fun x=>ys.flatMap (iD x))=j_ xs ys:=by
    unfold j_;split
    ·rfl
    ·rename_i hg;have:=hz (by simpa using hg);rw[List.length_eq_zero_iff.1 this];rfl
   try simp only[go_sem,I,ax,d_,hr]
   repeat'((first|refine ab.intro (by assumption) ?_|refine au.intro (by assumption) ?_|with_reducible refine e5 ?_)<;>simp only[go_sem,I])
   all_goals simp
end Gv

namespace Gv
open Go Go.Proofs
set_option maxRecDepth 100000
def uV(n:Int):UInt8:=UInt8.ofNat n.toNat
def F8(n:Int):Nat→St
 |0=>⟨(.i n::.i 1::.ak::.ak::.d (.str [])::.d (.str [])::.i 0::jn 24 []),[]⟩
 |i+1=>⟨(.i 0::.i 1::.ak::.ak::.d (.str [])::.d (.str [uV n])::.i ((i+1:Nat):Int)::jn 24 []),[]⟩
theorem VY(n:Int)(h:0≤n∧n≤255):aJ 345 [.one (.int .i64 n),.one (.int .i64 1)] [.one (.str [uV n])]:=by
 refine aN 31 Tryz.func345 Tryz.call345 [.tmp 4] ?_;intro _;have h1:¬n<0:=by omega
 have h2:n.tmod 256=n:=by rw[Int.tmod_eq_emod_of_nonneg (by omega)];omega
 have aj:n.tdiv 256=0:=by rw[Int.tdiv_eq_ediv_of_nonneg (by omega)];omega
 have aE:IntKind.u8.wrap n=n:=Ms h.1 h.2;have b3:IntKind.i64.wrap 0=0:=by decide
 simp only[go_sem];refine ab.intro (h_ 1 1 7) ?_;simp only[go_sem]
 repeat(refine a7 ?_;simp only[go_sem])
 have hz:(bif !bK 1 1 7 then true else decide (n<0))=false:=by simp[bK,h1]
 rw[hz];simp only[go_sem];refine b7.intro (F8 n) (fun i=>1-i) (fun i=>i≤1) 0 [] (by omega) ?_ ?_
 ·simp only[F8,go_sem]
 ·intro i hi
  cases i with
  |zero=>
   simp only[F8,go_sem,h2,aj,aE,b3];refine bA.intro 1 [] (by omega) (by omega) ?_;simp only[F8,go_sem];simp[uV,bz]
  |succ i=>
   have jU:i=0:=by omega
   subst jU;simp only[F8,go_sem];refine bt (fun e2=>absurd (cO e2) (by omega)) (fun _=>?_);simp only[go_sem]
theorem agq{n:Int}(h:0≤n∧n≤255):bitI .and .i64 n 255=n:=by
 have key:∀m:Fin 256,bitI .and .i64 (m.val:Int) 255=(m.val:Int):=by decide +kernel
 have:=key ⟨n.toNat,by omega⟩;simpa [show(n.toNat:Int)=n from by omega]using this
theorem FL(n:Int)(h:0≤n∧n≤255):aJ 343 [.one (.int .i64 n)] [.one (.str [uV n])]:=by
 refine aN 6 Tryz.func343 Tryz.call343 [.tmp 2] ?_;intro _;simp only[go_sem,agq h];refine ab.intro (VY n h) ?_;simp only[go_sem]
set_option maxRecDepth 100000
def Qo:List (List bH):=cP 12 [501920,501918,501952,501934,502240,502078,522328,530347,525973,512122,472392,354294]
def KM:List (List bH):=cP 8 [6200,6198,6448,6547,6493,6322,5832,4374]
def Qp:List (List bH):=cP 13 [1505753,1505751,1505866,1505848,1505794,1506721,1506235,1514497,1510123,1584481,1545115,1417176,1062882]
def Qq:List (List bH):=cP 15 [14345882,14345880,14345874,14345977,14345923,14326065,14348542,14347084,14322663,14336028,14289858,14171760,13817466,12754584,9565938]
def Qr:List (List bH):=cP 24 [266739006680,266739006678,266740662352,266740662334,266740662280,266740663207,266740662721,266740661146,266740686292,266740673170,266740630528,266741309587,266740955293,266739803842,266758138552,266748572614,266911193560,266825100118,268288688632,267513847654,280686144280,273712575478,251048476872,188286357654]
def Qs:List (List bH):=cP 10 [58940,58938,58932,59035,58981,58077,58563,56862,52488,39366]
def Qt:List (List bH):=cP 11 [167306,176065,176059,176809,177106,176944,176431,174961,170587,157464,118098]
def Qu:List (List bH):=cP 17 [121965710,128343355,128343361,128343340,128343286,128343124,128875171,129132508,129136882,129121573,129082207,128964109,128609086,127545841,124357195,114791256,86093442]
attribute [go_sem] Qo KM Qp Qq Qr Qs Qt Qu
theorem gx{α:Type}(e:α→List D)(l:List α):(l.map e).take l.length=l.map e:=dH (by simp)
theorem GQ{α:Type}(e:α→List D)(xs:List α)(i:Nat)(h:i<xs.length):(xs.take (i+1)).map e=(xs.take i).map e++[e xs[i]]:=by
 rw[hj,b8 h,Option.toList_some,List.map_append];rfl
theorem Yd(cK cy cL:Int)(cb:List Int)(hx:cb.length≤8388608):aJ 151 [.agg [.int .i64 cK,.int .i64 cy,.int .i64 cL,.sl 1 (cb.map aW)]] [.agg [.int .i64 ((⟨cK,cy,cL,cb⟩:dm)).size,.int .i64 ((⟨cK,cy,cL,cb⟩:dm)).base,.int .i64 ((⟨cK,cy,cL,cb⟩:dm)).cv,.sl 1 (((⟨cK,cy,cL,cb⟩:dm)).cells.map aW)]]:=by
 refine aN 9 Tryz.func151 Tryz.call151 [.cell 2 51] ?_;intro _
 try simp only[go_sem,I]
 repeat'(first|(with_reducible refine aw ?_)|fail)
 all_goals simp
theorem G4(cK cy cL:Int)(cb:List Int)(hx:cb.length≤8388608):aJ 154 [.agg [.int .i64 cK,.int .i64 cy,.int .i64 cL,.sl 1 (cb.map aW)]] [.agg [.int .i64 ((⟨cK,cy,cL,cb⟩:dm)).size,.int .i64 ((⟨cK,cy,cL,cb⟩:dm)).base,.int .i64 ((⟨cK,cy,cL,cb⟩:dm)).cv,.sl 1 (((⟨cK,cy,cL,cb⟩:dm)).cells.map aW)]]:=by
 refine aN 14 Tryz.func154 Tryz.call154 [.cell 2 51] ?_;intro _
 try simp only[go_sem]
 repeat'(first|(refine ba Qo (by kernel_rfl) (by rfl) ?_<;>simp only[go_sem,I])|(with_reducible refine aw ?_)|fail)
 all_goals simp
theorem Ye(AO:Int)(x8:List aA)(hx:x8.length≤8388608):aJ 153 [.agg [.int .i64 AO,.sl 2 (x8.map aA.enc)]] [.agg [.int .i64 ((⟨AO,x8⟩:kC)).next,.sl 2 (((⟨AO,x8⟩:kC)).bO.map aA.enc)]]:=by
 refine aN 10 Tryz.func153 Tryz.call153 [.cell 2 57] ?_;intro _
 try simp only[go_sem]
 repeat'(first|(refine ba KM (by kernel_rfl) (by rfl) ?_<;>simp only[go_sem,I])|(with_reducible refine aw ?_)|fail)
 all_goals simp
theorem y8(AO:Int)(x8:List aA)(hx:x8.length≤8388608):aJ 156 [.agg [.int .i64 AO,.sl 2 (x8.map aA.enc)]] [.agg [.int .i64 ((⟨AO,x8⟩:kC)).next,.sl 2 (((⟨AO,x8⟩:kC)).bO.map aA.enc)]]:=by
 refine aN 10 Tryz.func156 Tryz.call156 [.cell 2 57] ?_;intro _
 try simp only[go_sem]
 repeat'(first|(refine ba KM (by kernel_rfl) (by rfl) ?_<;>simp only[go_sem,I])|(with_reducible refine aw ?_)|fail)
 all_goals simp
theorem Yf(c3 cU:Int)(cn:List aA)(dn df dg:Int)(hx:cn.length≤8388608):aJ 114 [.agg [.int .i64 c3,.int .i64 cU,.sl 2 (cn.map aA.enc),.int .i64 dn,.int .i64 df,.int .i64 dg]] [.agg (bL.enc ((⟨c3,⟨cU,cn⟩,dn,df,dg⟩:bL)))]:=by
 refine aN 8 Tryz.func114 Tryz.call114 [.cell 2 59] ?_;intro _
 try simp only[go_sem]
 repeat'(refine ab.intro (by(apply Ye<;>exact aP)) ?_<;>simp only[go_sem,I])
 all_goals simp
theorem zg(c3 cU:Int)(cn:List aA)(dn df dg:Int)(hx:cn.length≤8388608):aJ 116 [.agg [.int .i64 c3,.int .i64 cU,.sl 2 (cn.map aA.enc),.int .i64 dn,.int .i64 df,.int .i64 dg]] [.agg (bL.enc ((⟨c3,⟨cU,cn⟩,dn,df,dg⟩:bL)))]:=by
 refine aN 15 Tryz.func116 Tryz.call116 [.cell 2 59] ?_;intro _
 try simp only[go_sem]
 repeat'((first|refine au.intro (by(apply y8<;>exact aP)) ?_|refine ba Qp (by kernel_rfl) (by rfl) ?_)<;>simp only[go_sem,I])
 all_goals simp
theorem Yg(a5 bh bj bd:Int)(aZ:List Int)(aF aB aG:List aa)(bf a8 a1 bk:Int)(h1:aZ.length≤8388608)(h2:aF.length≤8388608)(aj:aB.length≤8388608)(aE:aG.length≤8388608):aJ 113 [.agg [.int .i64 a5,.int .i64 bh,.int .i64 bj,.int .i64 bd,.sl 1 (aZ.map aW),.sl 2 (aF.map aa.enc),.sl 2 (aB.map aa.enc),.sl 2 (aG.map aa.enc),.int .i64 bf,.int .i64 a8,.int .i64 a1,.int .i64 bk]] [.agg (aO.enc ((⟨a5,⟨bh,bj,bd,aZ⟩,aF,aB,aG,bf,a8,a1,bk⟩:aO)))]:=by
 refine aN 20 Tryz.func113 Tryz.call113 [.cell 2 54] ?_;intro _
 try simp only[go_sem]
 repeat'((first|refine ab.intro (by(apply Yd<;>exact aP)) ?_|refine au.intro (by(apply KN<;>exact aP)) ?_|refine ba Qq (by kernel_rfl) (by rfl) ?_)<;>simp only[go_sem,I])
 all_goals simp
theorem pw(a5 bh bj bd:Int)(aZ:List Int)(aF aB aG:List aa)(bf a8 a1 bk:Int)(h1:aZ.length≤8388608)(h2:aF.length≤8388608)(aj:aB.length≤8388608)(aE:aG.length≤8388608):aJ 115 [.agg [.int .i64 a5,.int .i64 bh,.int .i64 bj,.int .i64 bd,.sl 1 (aZ.map aW),.sl 2 (aF.map aa.enc),.sl 2 (aB.map aa.enc),.sl 2 (aG.map aa.enc),.int .i64 bf,.int .i64 a8,.int .i64 a1,.int .i64 bk]] [.agg (aO.enc ((⟨a5,⟨bh,bj,bd,aZ⟩,aF,aB,aG,bf,a8,a1,bk⟩:aO)))]:=by
 refine aN 26 Tryz.func115 Tryz.call115 [.cell 2 54] ?_;intro _
 try simp only[go_sem]
 repeat'((first|refine au.intro (by first|(apply G4<;>exact aP)|(apply KO<;>exact aP)) ?_|refine ba Qr (by kernel_rfl) (by rfl) ?_)<;>simp only[go_sem,I])
 all_goals simp
theorem D0(k0 k3 k4 k5 k6:Int)(km:List Int)(jg jh ji:List aa)(k7 k8 k9 k_ k' la lb ld lf lg:Int)(hO:List aA)(lh lj lk ll ln lo lp lq lr lu:Int)(lv lx ly lz lA lB lC:Bool)(lD:Int)(lE:Bool)(h1:km.length≤8388608)(h2:jg.length≤8388608)(aj:jh.length≤8388608)(aE:ji.length≤8388608)(b3:hO.length≤8388608):aJ 77 [.agg [.int .i64 k0,.int .i64 k3,.int .i64 k4,.int .i64 k5,.int .i64 k6,.sl 1 (km.map aW),.sl 2 (jg.map aa.enc),.sl 2 (jh.map aa.enc),.sl 2 (ji.map aa.enc),.int .i64 k7,.int .i64 k8,.int .i64 k9,.int .i64 k_,.int .i64 k',.int .i64 la,.int .i64 lb,.int .i64 ld,.int .i64 lf,.int .i64 lg,.sl 2 (hO.map aA.enc),.int .i64 lh,.int .i64 lj,.int .i64 lk,.int .i64 ll,.int .i64 ln,.int .i64 lo,.int .i64 lp,.int .i64 lq,.int .i64 lr,.int .i64 lu,.bool lv,.bool lx,.bool ly,.bool lz,.bool lA,.bool lB,.bool lC,.int .i64 lD,.bool lE]] [.agg (ae.enc ((⟨k0,⟨k3,⟨k4,k5,k6,km⟩,jg,jh,ji,k7,k8,k9,k_⟩,⟨k',la,lb,ld⟩,⟨lf,⟨lg,hO⟩,lh,lj,lk⟩,⟨ll,ln,lo,lp,lq,lr⟩,⟨lu,lv⟩,lx,ly,lz,lA,lB,lC,lD,lE⟩:ae)))]:=by
 refine aN 12 Tryz.func77 Tryz.call77 [.cell 2 63] ?_;intro _
 try simp only[go_sem]
 repeat'((first|refine au.intro (by first|(apply Yg<;>exact aP)|(apply Yf<;>exact aP)) ?_|refine ba Qs (by kernel_rfl) (by rfl) ?_)<;>simp only[go_sem,I])
 all_goals simp
theorem y9(k0 k3 k4 k5 k6:Int)(km:List Int)(jg jh ji:List aa)(k7 k8 k9 k_ k' la lb ld lf lg:Int)(hO:List aA)(lh lj lk ll ln lo lp lq lr lu:Int)(lv lx ly lz lA lB lC:Bool)(lD:Int)(lE:Bool)(h1:km.length≤8388608)(h2:jg.length≤8388608)(aj:jh.length≤8388608)(aE:ji.length≤8388608)(b3:hO.length≤8388608):aJ 78 [.agg [.int .i64 k0,.int .i64 k3,.int .i64 k4,.int .i64 k5,.int .i64 k6,.sl 1 (km.map aW),.sl 2 (jg.map aa.enc),.sl 2 (jh.map aa.enc),.sl 2 (ji.map aa.enc),.int .i64 k7,.int .i64 k8,.int .i64 k9,.int .i64 k_,.int .i64 k',.int .i64 la,.int .i64 lb,.int .i64 ld,.int .i64 lf,.int .i64 lg,.sl 2 (hO.map aA.enc),.int .i64 lh,.int .i64 lj,.int .i64 lk,.int .i64 ll,.int .i64 ln,.int .i64 lo,.int .i64 lp,.int .i64 lq,.int .i64 lr,.int .i64 lu,.bool lv,.bool lx,.bool ly,.bool lz,.bool lA,.bool lB,.bool lC,.int .i64 lD,.bool lE]] [.agg (ae.enc ((⟨k0,⟨k3,⟨k4,k5,k6,km⟩,jg,jh,ji,k7,k8,k9,k_⟩,⟨k',la,lb,ld⟩,⟨lf,⟨lg,hO⟩,lh,lj,lk⟩,⟨ll,ln,lo,lp,lq,lr⟩,⟨lu,lv⟩,lx,ly,lz,lA,lB,lC,lD,lE⟩:ae)))]:=by
 refine aN 14 Tryz.func78 Tryz.call78 [.cell 2 63] ?_;intro _
 try simp only[go_sem]
 repeat'(refine ab.intro (by first|(apply pw<;>exact aP)|(apply zg<;>exact aP)) ?_<;>simp only[go_sem,I])
 all_goals simp
theorem XK(xs:List aD)(hx:(xs.length+kZ aD.er xs)≤4194304):aJ 90 [.one (.sl 2 (xs.map aD.enc))] [.one (.sl 2 (xs.map aD.enc))]:=by
 refine aN 25 Tryz.func90 Tryz.call90 [.tmp 2] ?_;intro ok;have hm:=fr ok;clear ok;simp only[go_sem,I];refine b7.intro (fun i:Nat=>⟨(.ak::.ak::.dw 2::.sl 0 0 i::jn 3 (.d (.sl 2 (xs.map aD.enc))::.i xs.length::.i i::jn 15 [])),[.ar 2 ((xs.take i).map aD.enc) true]⟩)
   (fun i=>xs.length-i) (fun i=>i≤xs.length) 0 [0] (by omega) ?_ ?_
 ·simp only[go_sem];simp
 ·intro i hi;have hl:(xs.take i).length=i:=by simp;omega
  simp only[go_sem];refine bt (fun h1=>?_) (fun h1=>?_)
  ·simp only[b2]at h1;have hlt:i<xs.length:=by omega
   have aq:=b5 aD.enc xs i hlt;have hw:=dK hlt hm;have hb:=GP aD.er xs i hlt;simp only[aD.er]at hb;simp only[aD.enc]at aq;have kD:((xs.take i).map aD.enc).take i=(xs.take i).map aD.enc:=dH (by rw[I,hl];exact Nat.le_refl _);have cW:=GQ aD.enc xs i hlt;simp only[aD.enc]at cW
   try simp only[go_sem,I,aC,aq]
   repeat'(first|(refine ba Qt (by kernel_rfl) (by rfl) ?_<;>simp only[go_sem,I,hl,kD])|(with_reducible refine aw ?_)|fail)
   all_goals(refine bA.intro (i+1) [5] (by omega) (by omega) ?_;simp only[go_sem,hw];simp[cW])
  ·simp only[dN]at h1;have hM:i=xs.length:=by omega
   subst hM;simp only[go_sem,d_];simp[outOA]
theorem XL(xs:List aD)(hx:(xs.length+kZ aD.er xs)≤4194304):aJ 97 [.one (.sl 2 (xs.map aD.enc))] [.one (.sl 2 (xs.map aD.enc))]:=by
 refine aN 29 Tryz.func97 Tryz.call97 [.tmp 2] ?_;intro ok;have hm:=fr ok;clear ok;simp only[go_sem];refine b7.intro (fun i:Nat=>⟨(.d (.sl 2 (xs.map aD.enc))::.ak::.dw 2::.sl 0 0 i::.i i::jn 24 []),[.ar 2 ((xs.take i).map aD.enc) true]⟩)
   (fun i=>xs.length-i) (fun i=>i≤xs.length) 0 [0] (by omega) ?_ ?_
 ·simp only[go_sem];simp
 ·intro i hi;have hl:(xs.take i).length=i:=by simp;omega
  simp only[go_sem,I];refine bt (fun h1=>?_) (fun h1=>?_)
  ·simp only[b2]at h1;have hlt:i<xs.length:=by omega
   have aq:=b5 aD.enc xs i hlt;have hw:=dK hlt hm;have hb:=GP aD.er xs i hlt;simp only[aD.er]at hb;simp only[aD.enc]at aq;have kD:((xs.take i).map aD.enc).take i=(xs.take i).map aD.enc:=dH (by rw[I,hl];exact Nat.le_refl _);have cW:=GQ aD.enc xs i hlt;simp only[aD.enc]at cW
   try simp only[go_sem]
   repeat'(first|(refine ba Qu (by kernel_rfl) (by rfl) ?_<;>simp only[go_sem,I,aC,aq,hl,kD])|(with_reducible refine aw ?_)|fail)
   all_goals(refine bA.intro (i+1) [4] (by omega) (by omega) ?_;simp only[go_sem,hw];simp[cW])
  ·simp only[dN]at h1;have hM:i=xs.length:=by omega
   subst hM;simp only[go_sem,d_];simp[outOA]
theorem PY(xs:List ae)(hx:(xs.length+kZ ae.er xs)≤4194304):aJ 89 [.one (.sl 39 (xs.map ae.enc))] [.one (.sl 39 (xs.map ae.enc))]:=by
 refine aN 20 Tryz.func89 Tryz.call89 [.tmp 2] ?_;intro ok;have hm:=fr ok;clear ok;simp only[go_sem,I];refine b7.intro (fun i:Nat=>⟨(.ak::.ak::.dw 39::.sl 0 0 i::jn 3 (.d (.sl 39 (xs.map ae.enc))::.i xs.length::.i i::jn 10 [])),[.ar 39 ((xs.take i).map ae.enc) true]⟩)
   (fun i=>xs.length-i) (fun i=>i≤xs.length) 0 [0] (by omega) ?_ ?_
 ·simp only[go_sem];simp
 ·intro i hi;have hl:(xs.take i).length=i:=by simp;omega
  simp only[go_sem];refine bt (fun h1=>?_) (fun h1=>?_)
  ·simp only[b2]at h1;have hlt:i<xs.length:=by omega
   have aq:=b5 ae.enc xs i hlt;have hw:=dK hlt hm;have hb:=GP ae.er xs i hlt;simp only[ae.er,aO.er,dm.er,bL.er,kC.er]at hb;simp only[ae.enc]at aq;have kD:((xs.take i).map ae.enc).take i=(xs.take i).map ae.enc:=dH (by rw[I,hl];exact Nat.le_refl _);have cW:=GQ ae.enc xs i hlt;simp only[ae.enc]at cW
   try simp only[go_sem,I,aC,aq]
   repeat'(first|(refine ab.intro (by(apply D0<;>exact aP)) ?_<;>simp only[go_sem,I,hl,kD])|(with_reducible refine aw ?_)|fail)
   all_goals(refine bA.intro (i+1) [8] (by omega) (by omega) ?_;simp only[go_sem,hw];simp[cW])
  ·simp only[dN]at h1;have hM:i=xs.length:=by omega
   subst hM;simp only[go_sem,d_];simp[outOA]
set_option maxRecDepth 100000
def Wb:List (List bH):=cP 15 [13551749,13551747,13558585,13558567,13558630,13558432,13561222,13559764,13555030,14280016,14319382,14181601,13827307,12754584,9565938]
def Wc:List (List bH):=cP 8 [6200,6198,6448,6547,6493,6322,5832,4374]
def Wd:List (List bH):=cP 14 [4517249,4773139,4773133,4779958,4780012,4779823,4782604,4781146,4776421,4763287,4723921,4605823,4251528,3188646]
attribute [go_sem] Wb Wc Wd
def oq(xs:List Int)(i:Nat):Bool:=(xs.take i).all fun b=>bK b 0 255
theorem We(xs:List Int)(i:Nat)(h:i<xs.length):oq xs (i+1)=(oq xs i&&bK xs[i] 0 255):=by
 unfold oq;rw[hj,b8 h,Option.toList_some,List.all_append];simp
theorem Wf(xs:List Int)(i:Nat)(h:i<xs.length)(hb:bK xs[i] 0 255=false):oq xs xs.length=false:=by
 unfold oq;rw[d_,List.all_eq_false];exact⟨xs[i],eR h,by simp[hb]⟩
def vW(r:dm):Bool:=jw r.size&&decide ((r.cells.length:Int)=r.size)&&decide (0≤r.base)&&decide (r.base≤r.cv)&&decide (IntKind.i64.wrap (r.cv-r.base)≤r.size)&&decide (r.cv≤4611686018427387903)
def iZ(r:dm):Bool:=vW r&&oq r.cells r.cells.length
theorem x5{n:Int}(h:jw n=true):1≤n∧n≤64:=by
 simp only[jw,bK,bP,b2]at h;exact h.1
theorem vV{r:dm}(h:iZ r=true):1≤r.size∧r.size≤64∧(r.cells.length:Int)=r.size∧0≤r.base∧r.base≤r.cv∧r.cv-r.base≤r.size∧r.cv≤4611686018427387903∧jw r.size=true∧∀i (hi:i<r.cells.length),0≤r.cells[i]∧r.cells[i]≤255:=by
 simp only[iZ,vW,bP,b2]at h;obtain⟨⟨⟨⟨⟨⟨h1,h2⟩,aj⟩,aE⟩,b3⟩,e2⟩,j4⟩:=h;have hs:=x5 h1;rw[bz]at b3<;>try omega
 refine⟨hs.1,hs.2,h2,aj,aE,b3,e2,h1,fun i hi=>?_⟩;unfold oq at j4;rw[d_,List.all_eq_true]at j4;have:=j4 _ (eR hi);simpa [bK]using this
theorem xq(cK cy cL:Int)(cb:List Int):aJ 198 [.agg [.int .i64 cK,.int .i64 cy,.int .i64 cL,.sl 1 (cb.map aW)]] [.one (.bool (iZ (⟨cK,cy,cL,cb⟩:dm)))]:=by
 refine aN 57 Tryz.func198 Tryz.call198 [.tmp 2] ?_;intro ok;have hm:cb.length≤maxLen:=by have:=ok.1.2.2.2.1.1;rwa [I]at this
 try simp only[go_sem]
 repeat'((first|refine ab.intro (by apply Jw) ?_|refine a7 ?_)<;>simp only[go_sem,I])
 refine bt (fun h0=>?_) (fun h0=>?_)
 ·simp only[go_sem];have:vW (⟨cK,cy,cL,cb⟩:dm)=false:=by
   revert h0;simp only[vW,c0]
   cases jw cK<;>simp<;>intros<;>omega
  simp[iZ,this]
 ·have dF:vW (⟨cK,cy,cL,cb⟩:dm)=true:=by
   revert h0;simp only[vW,c0]
   cases jw cK<;>simp<;>intros<;>omega
  simp only[go_sem];refine b7.intro (fun i:Nat=>⟨(.ak::.ptr 0 0 0::.d (.bool false)::.i i::jn 53 []),[.box [.i cK,.i cy,.i cL,.d (.sl 1 (cb.map aW))]]⟩)
   (fun i=>cb.length-i) (fun i=>i≤cb.length∧oq cb i=true) 0 [0] ⟨by omega,by simp[oq]⟩ ?_ ?_
  ·simp only[go_sem];simp
  ·rintro i ⟨hi,he⟩;by_cases h1:i<cb.length
   ·have ax:decide ((i:Int)<(cb.length:Int))=true:=bp (by omega);have aq:=b5 aW cb i h1;have hw:=dK h1 hm;have hs:=We cb i h1;have hf:=Wf cb i h1
    try simp only[go_sem,I,aC,aq,aW,ax]
    repeat'(first|((first|refine ab.intro (by apply h_) ?_|refine bt (fun h=>?_) (fun h=>?_))<;>simp only[go_sem])|(with_reducible refine aw ?_)|fail)
    ·have:=hf (by simpa using h);simp[iZ,this]
    ·have aj:bK cb[i] 0 255=true:=by simpa using h
     refine bA.intro (i+1) [0] ⟨by omega,by rw[hs,he,aj];rfl⟩ (by omega) ?_;simp only[go_sem,hw];simp
   ·have ax:decide ((i:Int)<(cb.length:Int))=false:=bo (by omega);obtain rfl:i=cb.length:=by omega
    simp only[go_sem,I,ax];simp[iZ,dF,he]
theorem agv{xs:List Int}{i:Nat}(h:i<xs.length)(he:oq xs i=true)(hb:bK xs[i] 0 255=true):oq xs (i+1)=true:=by rw[We xs i h,he,hb];rfl
theorem agw(cK cy cL:Int)(cb:List Int):aJ 188 [.agg [.int .i64 cK,.int .i64 cy,.int .i64 cL,.sl 1 (cb.map aW)]] [.one (.bool (iZ (⟨cK,cy,cL,cb⟩:dm)))]:=by
 refine aN 36 Tryz.func188 Tryz.call188 [.tmp 2] ?_;intro ok;have hm:cb.length≤maxLen:=by have:=ok.1.2.2.2.1.1;rwa [I]at this
 have ao5:=DM ok.1.2.1;have ao6:=DM ok.1.2.2.1
 cases ah:jw cK with
 |false=>
  try simp only[go_sem]
  repeat'((first|refine ab.intro (by first|apply BH|apply uc) ?_|refine au.intro (by apply il) ?_|with_reducible refine e5 ?_|refine a7 ?_)<;>simp only[go_sem,ah])
  all_goals simp[iZ,vW,ah]
 |true=>
  have hs:=x5 ah
  cases ai:decide ((cb.length:Int)≠cK)with
  |true=>
   have Wg:¬(cb.length:Int)=cK:=cO ai
   try simp only[go_sem]
   repeat'((first|refine ab.intro (by apply BH) ?_|with_reducible refine du ?_|with_reducible refine e5 ?_)<;>simp only[go_sem,I,ah,ai])
   all_goals simp[iZ,vW,Wg]
  |false=>
   have Wg:(cb.length:Int)=cK:=by have:=c9 ai;omega
   try simp only[go_sem]
   repeat'((first|refine ab.intro (by apply BH) ?_|with_reducible refine du ?_)<;>simp only[go_sem,I,ah,ai])
   refine ab.inl (fc (n:=9) (rs:=[.tmp 4]) Tryz.func253 rfl Tryz.call253 b1 rfl rfl ?_);simp only[go_sem];refine ab.inl (fc (n:=19) (rs:=[.tmp 4]) Tryz.func308 rfl Tryz.call308 b1 rfl rfl ?_);simp only[go_sem,I];refine b7.intro (fun i:Nat=>⟨(.d (.sl 1 (cb.map aW))::.fn 254 []::.ak::.ak::.i 0::.ak::.ak::.i cb.length::.i i::jn 10 []),[.box [.i cK,.i cy,.i cL,.d (.sl 1 (cb.map aW))]]⟩)
    (fun i=>cb.length-i) (fun i=>i≤cb.length∧oq cb i=true) 0 [0] ⟨by omega,by simp[oq]⟩ ?_ ?_
   ·simp only[go_sem];simp
   ·rintro i ⟨hi,he⟩;by_cases h1:i<cb.length
    ·have ax:decide ((i:Int)<(cb.length:Int))=true:=bp (by omega);have aq:=b5 aW cb i h1;have hw:=dK h1 hm;have hf:=Wf cb i h1;simp only[go_sem,I,aC,aq,aW,ax];refine⟨⟨by omega,by omega⟩,?_⟩;refine ab.inl (fc (n:=6) (rs:=[.tmp 2]) Tryz.func254 rfl Tryz.call254 b1 rfl rfl ?_);simp only[go_sem];refine ab.intro (il cb[i] 0 255) ?_;simp only[go_sem];refine bt (fun h2=>?_) (fun h2=>?_)
     ·have:=hf (by simpa using h2);have aj:decide ((0:Int)≤i)=true:=bp (by omega);simp only[go_sem,aj];simp[iZ,this]
     ·have aj:bK cb[i] 0 255=true:=by simpa using h2
      simp only[go_sem,hw];refine bA.intro (i+1) [0] ⟨by omega,agv h1 he aj⟩ (by omega) ?_;simp only[go_sem];simp
    ·have ax:decide ((i:Int)<(cb.length:Int))=false:=bo (by omega);obtain rfl:i=cb.length:=by omega
     have aj:decide ((0:Int)≤-1)=false:=by decide
     simp only[go_sem,ax];have hq:vW (⟨cK,cy,cL,cb⟩:dm)=(bN cy&&bK cL cy (dG (IntKind.i64.wrap (cy+cK)) 4611686018427387903)):=by
      rw[Bool.eq_iff_iff];simp only[vW,bN,bK,dG,ah,Bool.true_and,bP,b2];by_cases ik:0≤cy∧cy≤4611686018427387903
      ·rw[bz (n:=cy+cK) (by omega) (by omega)];constructor
       ·rintro⟨⟨⟨⟨_,h2⟩,aj⟩,aE⟩,b3⟩;rw[bz (n:=cL-cy) (by omega) (by omega)]at aE;refine⟨ik,aj,bp ?_⟩;split<;>omega
       ·rintro⟨_,aj,aE⟩;have aE:=cO aE;have:cL≤cy+cK∧cL≤4611686018427387903:=by split at aE<;>omega
        rw[bz (n:=cL-cy) (by omega) (by omega)];omega
      ·constructor
       ·rintro⟨⟨⟨⟨_,h2⟩,aj⟩,aE⟩,b3⟩;omega
       ·rintro⟨h,_⟩;exact absurd h ik
     try simp only[go_sem,I,ah,ai]
     repeat'((first|refine ab.intro (by first|apply BH|apply uc) ?_|refine au.intro (by apply il) ?_|with_reducible refine e5 ?_|refine a7 ?_)<;>simp only[go_sem])
     all_goals(simp only[iZ,he,Bool.and_true,hq,dG];simp)
def mL(r:dm):Int:=if iZ r then dG (r.size-(r.cv-r.base)) (4611686018427387903-r.cv)else 0
theorem agx(cK cy cL:Int)(cb:List Int):aJ 310 [.agg [.int .i64 cK,.int .i64 cy,.int .i64 cL,.sl 1 (cb.map aW)]] [.one (.int .i64 (mL (⟨cK,cy,cL,cb⟩:dm)))]:=by
 refine aN 18 Tryz.func310 Tryz.call310 [.tmp 2] ?_;intro _
 cases aU:iZ (⟨cK,cy,cL,cb⟩:dm)with
 |false=>
  try simp only[go_sem]
  repeat'(refine ab.intro (by apply xq) ?_<;>simp only[go_sem,aU])
  all_goals simp[mL,aU]
 |true=>
  obtain⟨h1,h2,aj,aE,b3,e2,j4,fY,wo⟩:=vV aU;simp only at h1 h2 aj aE b3 e2 j4;have gh:IntKind.i64.wrap (cL-cy)=cL-cy:=by rw[bz]<;>omega
  have h3:IntKind.i64.wrap (cK-(cL-cy))=cK-(cL-cy):=by rw[bz]<;>omega
  have pn:IntKind.i64.wrap (4611686018427387903-cL)=4611686018427387903-cL:=by rw[bz]<;>omega
  try simp only[go_sem]
  repeat'(refine ab.intro (by apply xq) ?_<;>simp only[go_sem,aU,gh,h3,pn])
  all_goals simp[mL,aU,dG]
def ja(n:Int):dm:=if jw n then⟨n,0,0,List.replicate n.toNat 0⟩else⟨0,0,0,[]⟩
theorem Wh(n:Int):aJ 187 [.one (.int .i64 n)] [.agg [.int .i64 (ja n).size,.int .i64 (ja n).base,.int .i64 (ja n).cv,.sl 1 ((ja n).cells.map aW)],.one (.bool (jw n))]:=by
 refine aN 12 Tryz.func187 Tryz.call187 [.cell 2 51,.tmp 3] ?_;intro _
 cases aU:jw n with
 |false=>
  try simp only[go_sem]
  repeat'(refine ab.intro (by apply Jw) ?_<;>simp only[go_sem,aU])
  all_goals simp[ja,aU]
 |true=>
  have hn:=x5 aU
  try simp only[go_sem]
  repeat'(first|(refine ab.intro (by apply Jw) ?_<;>simp only[go_sem,aU])|(with_reducible refine aw ?_)|fail)
  all_goals simp[ja,aU,aW]
def wrS(cs:List Int)(e sz:Int)(d:List UInt8):Nat→List Int
 |0=>cs
 |k+1=>(wrS cs e sz d k).set ((e+(k:Int)).tmod sz).toNat ((d[k]?.getD 0).toNat:Int)
theorem I2(cs:List Int)(e sz:Int)(d:List UInt8):∀k,(wrS cs e sz d k).length=cs.length
 |0=>rfl
 |k+1=>by rw[wrS,List.length_set,I2 cs e sz d k]
def mc(r:dm)(d:List UInt8):Nat:=(dG (mL r) d.length).toNat
def uY(r:dm)(d:List UInt8):dm:=⟨r.size,r.base,IntKind.i64.wrap (r.cv+(mc r d:Int)),wrS r.cells r.cv r.size d (mc r d)⟩
theorem UF(r:dm):0≤mL r∧(0<mL r→iZ r=true∧mL r≤r.size-(r.cv-r.base)∧r.cv+mL r≤4611686018427387903):=by
 unfold mL dG;split
 ·rename_i h;obtain⟨h1,h2,aj,aE,b3,e2,j4,fY,wo⟩:=vV h;split<;>exact⟨by omega,fun _=>⟨h,by omega,by omega⟩⟩
 ·exact⟨by omega,fun g=>by omega⟩
theorem Wi(b:UInt8):IntKind.i64.wrap ((b.toNat:Nat):Int)=((b.toNat:Nat):Int):=by
 have:=b.toNat_lt;rw[bz]<;>omega
theorem agy(cK cy cL:Int)(cb:List Int)(d:List UInt8)(hc:cb.length≤8388608)(hd:d.length≤1048576):aJ 277 [.agg [.int .i64 cK,.int .i64 cy,.int .i64 cL,.sl 1 (cb.map aW)],.one (.str d)] [.agg [.int .i64 (uY (⟨cK,cy,cL,cb⟩:dm) d).size,.int .i64 (uY (⟨cK,cy,cL,cb⟩:dm) d).base,.int .i64 (uY (⟨cK,cy,cL,cb⟩:dm) d).cv,.sl 1 ((uY (⟨cK,cy,cL,cb⟩:dm) d).cells.map aW)],.one (.int .i64 ((mc (⟨cK,cy,cL,cb⟩:dm) d:Int)))]:=by
 refine aN 42 Tryz.func277 Tryz.call277 [.cell 4 51,.tmp 5] ?_;intro ok;have hr:=UF (⟨cK,cy,cL,cb⟩:dm);have bT:(mc (⟨cK,cy,cL,cb⟩:dm) d:Int)=dG (mL (⟨cK,cy,cL,cb⟩:dm)) d.length:=by unfold mc dG;split<;>omega
 have ao7:mc (⟨cK,cy,cL,cb⟩:dm) d≤d.length:=by have:=bT;unfold dG at this;split at this<;>omega
 have ao8:(mc (⟨cK,cy,cL,cb⟩:dm) d:Int)≤mL (⟨cK,cy,cL,cb⟩:dm):=by have:=bT;unfold dG at this;split at this<;>omega
 generalize hn:mc (⟨cK,cy,cL,cb⟩:dm) d=n at *;have Wj:(if((d.length:Nat):Int)<mL (⟨cK,cy,cL,cb⟩:dm)then((d.length:Nat):Int)else mL (⟨cK,cy,cL,cb⟩:dm))=(n:Int):=by rw[bT];rfl
 try simp only[go_sem]
 repeat'(refine ab.intro (by first|(apply G4<;>exact aP)|apply agx) ?_<;>simp only[go_sem,I,Wj])
 refine b7.intro (fun k:Nat=>⟨(.ak::.d (.str d)::.ptr 0 0 0::.ak::.ptr 1 0 0::.i 0::.ptr 3 0 0::.i n::.i k::jn 33 []),[.box [.i cK,.i cy,.i cL,.d (.sl 1 (cb.map aW))],.box [.i 0,.i 0,.i 0,.dw 1],.ar 1 ((wrS cb cL cK d k).map aW) true,.box [.i cK,.i cy,.i cL,.sl 2 0 cb.length]]⟩)
  (fun k=>n-k) (fun k=>k≤n) 0 [0,1,2,3] (by omega) ?_ ?_
 ·simp only[go_sem];simp[wrS]
 ·intro k hk;by_cases h1:k<n
  ·have ax:decide ((k:Int)<(n:Int))=true:=bp (by omega);obtain⟨aU,F_,nm⟩:=hr.2 (by omega);obtain⟨cC,c8,fs,l2,Ga,Gb,Gc,Wk,Jx⟩:=vV aU;simp only at cC c8 fs l2 Ga Gb Gc F_ nm;have hw:=dK (i:=k) (m:=d.length) (by omega) (by simp only[maxLen];omega);have gh:IntKind.i64.wrap (cL+(k:Int))=cL+(k:Int):=by rw[bz]<;>omega
   have f_:=Int.tmod_nonneg cK (show(0:Int)≤cL+(k:Int)by omega);have gA:=Int.tmod_lt_of_pos (cL+(k:Int)) (show 0<cK by omega);have hl:=I2 cb cL cK d k;obtain⟨j,pb⟩:=mj f_;rw[pb]at gA;have al:j<(wrS cb cL cK d k).length:=by omega
   have Ai:=b5 aW _ j al;have cW:wrS cb cL cK d (k+1)=(wrS cb cL cK d k).set j ((d[k]?.getD 0).toNat:Int):=by rw[wrS,pb,aC]
   try simp only[go_sem,ax]
   repeat'(first|(refine ba Wb (by kernel_rfl) (by rfl) ?_<;>simp only[go_sem,I,aC,gh,pb,Ai,aW,Wi,Option.getD_some])|(with_reducible refine aw ?_)|fail)
   all_goals(first|(refine⟨⟨al,by simp,by simp⟩,?_⟩)|skip)
   all_goals(refine bA.intro (k+1) [0,1,2,3] (by omega) (by omega) ?_;simp only[go_sem,hw,cW];simp[aW])
  ·have ax:decide ((k:Int)<(n:Int))=false:=bo (by omega);obtain rfl:k=n:=by omega
   try simp only[go_sem,I,ax]
   all_goals simp[outOA,uY,hn,I2,dH]
def xr(cs:List Int)(b sz:Int):Nat→List Int
 |0=>cs
 |k+1=>(xr cs b sz k).set ((b+(k:Int)).tmod sz).toNat 0
theorem I3(cs:List Int)(b sz:Int):∀k,(xr cs b sz k).length=cs.length
 |0=>rfl
 |k+1=>by rw[xr,List.length_set,I3 cs b sz k]
def Gd(r:dm)(t:Int):Bool:=iZ r&&decide (r.base≤t)&&decide (t≤r.cv)
def xf(r:dm)(t:Int):dm:=if Gd r t then⟨r.size,t,r.cv,xr r.cells r.base r.size (t-r.base).toNat⟩else r
theorem Wl(cK cy cL:Int)(cb:List Int)(t:Int)(hc:cb.length≤8388608):aJ 334 [.agg [.int .i64 cK,.int .i64 cy,.int .i64 cL,.sl 1 (cb.map aW)],.one (.int .i64 t)] [.agg [.int .i64 (xf (⟨cK,cy,cL,cb⟩:dm) t).size,.int .i64 (xf (⟨cK,cy,cL,cb⟩:dm) t).base,.int .i64 (xf (⟨cK,cy,cL,cb⟩:dm) t).cv,.sl 1 ((xf (⟨cK,cy,cL,cb⟩:dm) t).cells.map aW)],.one (.bool (Gd (⟨cK,cy,cL,cb⟩:dm) t))]:=by
 refine aN 43 Tryz.func334 Tryz.call334 [.cell 4 51,.tmp 5] ?_;intro ok
 cases b4:Gd (⟨cK,cy,cL,cb⟩:dm) t with
 |false=>
  try simp only[go_sem]
  repeat'((first|refine ab.intro (by first|(apply G4<;>exact aP)|apply xq) ?_|refine a7 ?_)<;>simp only[go_sem,I])
  refine bt (fun h0=>?_) (fun h0=>?_)
  ·simp only[go_sem,I];simp[xf,b4]
  ·exfalso;simp[Gd]at b4 h0;grind
 |true=>
  have aU:iZ (⟨cK,cy,cL,cb⟩:dm)=true∧cy≤t∧t≤cL:=by
   simp only[Gd,bP,b2,and_assoc]at b4;exact b4
  obtain⟨aU,hb,he⟩:=aU;obtain⟨cC,c8,fs,l2,Ga,Gb,Gc,Wk,Jx⟩:=vV aU;simp only at cC c8 fs l2 Ga Gb Gc;have ah:decide (t<cy)=false:=bo (by omega);have ai:decide (cL<t)=false:=bo (by omega)
  try simp only[go_sem]
  repeat'((first|refine ab.intro (by first|(apply G4<;>exact aP)|apply xq) ?_|with_reducible refine du ?_)<;>simp only[go_sem,I,aU,ah,ai])
  refine b7.intro (fun k:Nat=>⟨(.ak::.i t::.ptr 0 0 0::.ak::.ptr 1 0 0::.d (.bool false)::.ptr 3 0 0::.i (cy+(k:Int))::jn 35 []),[.box [.i cK,.i cy,.i cL,.d (.sl 1 (cb.map aW))],.box [.i 0,.i 0,.i 0,.dw 1],.ar 1 ((xr cb cy cK k).map aW) true,.box [.i cK,.i cy,.i cL,.sl 2 0 cb.length]]⟩)
   (fun k=>(t-cy).toNat-k) (fun k=>(k:Int)≤t-cy) 0 [0,1,2,3] (by omega) ?_ ?_
  ·simp only[go_sem];simp[xr]
  ·intro k hk;by_cases h1:(k:Int)<t-cy
   ·have ax:decide (cy+(k:Int)<t)=true:=bp (by omega);have hw:IntKind.i64.wrap (cy+(k:Int)+1)=cy+((k+1:Nat):Int):=by rw[bz]<;>omega
    have f_:=Int.tmod_nonneg cK (show(0:Int)≤cy+(k:Int)by omega);have gA:=Int.tmod_lt_of_pos (cy+(k:Int)) (show 0<cK by omega);have hl:=I3 cb cy cK k;obtain⟨j,pb⟩:=mj f_;rw[pb]at gA;have al:j<(xr cb cy cK k).length:=by omega
    have Ai:=b5 aW _ j al;have cW:xr cb cy cK (k+1)=(xr cb cy cK k).set j 0:=by rw[xr,pb,aC]
    try simp only[go_sem,ax]
    repeat'(first|(refine ba Wc (by kernel_rfl) (by rfl) ?_<;>simp only[go_sem,I,aC,pb,Ai,aW,Option.getD_some])|(with_reducible refine aw ?_)|fail)
    all_goals(first|(refine⟨⟨al,by simp,by simp⟩,?_⟩)|skip)
    all_goals(refine bA.intro (k+1) [0,1,2,3] (by omega) (by omega) ?_;simp only[go_sem,hw,cW];simp[aW])
   ·have ax:decide (cy+(k:Int)<t)=false:=bo (by omega);have pr:(t-cy).toNat=k:=by omega
    try simp only[go_sem,I,ax]
    all_goals simp[outOA,xf,b4,pr,I3,dH]
def Ge(r:dm)(o n:Int):Bool:=iZ r&&decide (r.base≤o)&&decide (0≤n)&&decide (o≤r.cv)&&decide (n≤IntKind.i64.wrap (r.cv-o))
def xt(r:dm)(o:Int)(k:Nat):List UInt8:=(List.range k).map fun j=>uV (r.cells[((o+(j:Nat)).tmod r.size).toNat]?.getD 0)
def BA(r:dm)(o n:Int):List UInt8:=if Ge r o n then xt r o n.toNat else []
theorem agz(r:dm)(o:Int)(k:Nat):xt r o (k+1)=xt r o k++[uV (r.cells[((o+(k:Nat)).tmod r.size).toNat]?.getD 0)]:=by
 simp[xt,List.range_succ]
theorem UN(r:dm)(o:Int)(k:Nat):(xt r o k).length=k:=by simp[xt]
theorem Wm(cK cy cL:Int)(cb:List Int)(o n:Int):aJ 340 [.agg [.int .i64 cK,.int .i64 cy,.int .i64 cL,.sl 1 (cb.map aW)],.one (.int .i64 o),.one (.int .i64 n)] [.one (.str (BA (⟨cK,cy,cL,cb⟩:dm) o n)),.one (.bool (Ge (⟨cK,cy,cL,cb⟩:dm) o n))]:=by
 refine aN 56 Tryz.func340 Tryz.call340 [.tmp 6,.tmp 7] ?_;intro ok
 cases b4:Ge (⟨cK,cy,cL,cb⟩:dm) o n with
 |false=>
  try simp only[go_sem]
  repeat'((first|refine ab.intro (by apply xq) ?_|refine a7 ?_)<;>simp only[go_sem])
  refine bt (fun h0=>?_) (fun h0=>?_)
  ·simp only[go_sem];simp[BA,b4]
  ·exfalso;simp[Ge]at b4 h0;grind
 |true=>
  have aU:iZ (⟨cK,cy,cL,cb⟩:dm)=true∧cy≤o∧0≤n∧o≤cL∧n≤IntKind.i64.wrap (cL-o):=by
   simp only[Ge,bP,b2,and_assoc]at b4;exact b4
  obtain⟨aU,hb,B0,he,hn⟩:=aU;obtain⟨cC,c8,fs,l2,Ga,Gb,Gc,Wk,Jx⟩:=vV aU;simp only at cC c8 fs l2 Ga Gb Gc Jx;have ah:decide (o<cy)=false:=bo (by omega);have ai:decide (cL<o)=false:=bo (by omega);have aX:decide (n<0)=false:=bo (by omega);have br:decide (IntKind.i64.wrap (cL-o)<n)=false:=bo (by omega);rw[bz (n:=cL-o) (by omega) (by omega)]at hn;obtain⟨m,rfl⟩:=mj B0
  try simp only[go_sem]
  repeat'((first|refine ab.intro (by apply xq) ?_|with_reducible refine du ?_)<;>simp only[go_sem,aU,ah,ai,aX,br])
  refine b7.intro (fun k:Nat=>⟨(.ak::.i o::.i m::.ptr 0 0 0::.ak::.ak::.d (.str [])::.d (.bool false)::.d (.str (xt (⟨cK,cy,cL,cb⟩:dm) o k))::.i k::jn 46 []),[.box [.i cK,.i cy,.i cL,.d (.sl 1 (cb.map aW))]]⟩)
   (fun k=>m-k) (fun k=>k≤m) 0 [0] (by omega) ?_ ?_
  ·simp only[go_sem];simp[xt]
  ·intro k hk;by_cases h1:k<m
   ·have ax:decide ((k:Int)<(m:Int))=true:=bp (by omega);have hw:=dK (i:=k) (m:=100) (by omega) (by simp[maxLen]);have gh:IntKind.i64.wrap (o+(k:Int))=o+(k:Int):=by rw[bz]<;>omega
    have f_:=Int.tmod_nonneg cK (show(0:Int)≤o+(k:Int)by omega);have gA:=Int.tmod_lt_of_pos (o+(k:Int)) (show 0<cK by omega);obtain⟨j,pb⟩:=mj f_;rw[pb]at gA;have al:j<cb.length:=by omega
    have Ai:=b5 aW _ j al;have gd:=UN (⟨cK,cy,cL,cb⟩:dm) o k;have cW:xt (⟨cK,cy,cL,cb⟩:dm) o (k+1)=xt (⟨cK,cy,cL,cb⟩:dm) o k++[uV cb[j]]:=by rw[agz];simp only[pb,aC,b8 al,Option.getD_some]
    have dA:=FL cb[j] (Jx j al)
    try simp only[go_sem,ax]
    repeat'(first|((first|refine ab.intro (by assumption) ?_|refine au.intro (by assumption) ?_|refine ba Wd (by kernel_rfl) (by rfl) ?_)<;>simp only[go_sem,I,aC,gh,pb,Ai,aW,Option.getD_some])|(with_reducible refine aw ?_)|fail)
    all_goals(refine bA.intro (k+1) [0] (by omega) (by omega) ?_;simp only[go_sem,hw,cW];simp)
   ·have ax:decide ((k:Int)<(m:Int))=false:=bo (by omega);obtain rfl:k=m:=by omega
    try simp only[go_sem,ax]
    all_goals simp[BA,b4]
def agu:Code→Code
 |.seq _ b=>b
 |c=>c
def Ah:Nat→Code→Code
 |0,c=>c
 |k+1,c=>Ah k (agu c)
def BS(f:Func):Code:=f.body.getD .skip
theorem xp{P:Program}{kv:List V}{a b:Code}{σ:St}{K:St→Prop}{bY:List (Nat×(St→Prop))}{cE:St→Prop}(h:∀gp:St→Prop,(∀σ',codeE P kv b σ' K bY cE→gp σ')→codeE P kv a σ gp bY cE):codeE P kv (.seq a b) σ K bY cE:=by
 rw[abm];exact h _ fun _ g=>g
def insR:List aa→aa→List aa
 |[],r=>[r]
 |x::xs,r=>if x.high<r.low then x::insR xs r else if r.high<x.low then r::x::xs else insR xs ⟨dG r.low x.low,eb r.high x.high⟩
def OV(s:List aa×Bool×aa):List aa:=if s.2.1=true then s.1 else s.1++[s.2.2]
theorem Wx(xs:List aa)(r:aa):∀i,i≤xs.length→gw xs r i=(xs.take i).foldl ku ([],false,r)
 |0,_=>rfl
 |i+1,h=>by rw[OJ xs r i (by omega),Wx xs r i (by omega),xu ku _ xs i (by omega)]
theorem Wy{r:aa}(hr:dj r=true):∀(xs out:List aa),(∀x∈xs,dj x=true∧r.high<x.low)→xs.foldl ku (out,true,r)=(out++xs,true,r)
 |[],out,_=>by simp
 |x::xs,out,h=>by
  have h1:=h x (by simp);have h2:=(hU _).1 h1.1;have aj:=(hU _).1 hr;have e:ku (out,true,r) x=(out++[x],true,r):=by
   unfold ku;rw[if_neg (show ¬x.high<r.low by omega),if_pos h1.2];simp
  rw[List.foldl_cons,e,Wy hr xs _ (fun y hy=>h y (by simp[hy])),List.append_assoc];rfl
theorem OW:∀(xs out:List aa) (r:aa),(∀x∈xs,dj x=true)→xs.Pairwise (fun a b=>a.high<b.low)→dj r=true→OV (xs.foldl ku (out,false,r))=out++insR xs r
 |[],out,r,_,_,_=>by simp[OV,insR]
 |x::xs,out,r,h1,h2,hr=>by
  have hx:=(hU _).1 (h1 x (by simp));have jK:=(hU _).1 hr;have hF:=List.pairwise_cons.1 h2;rw[List.foldl_cons,insR];by_cases cM:x.high<r.low
  ·have e:ku (out,false,r) x=(out++[x],false,r):=by unfold ku;rw[if_pos cM]
   rw[e,if_pos cM,OW xs _ r (fun y hy=>h1 y (by simp[hy])) hF.2 hr,List.append_assoc];rfl
  ·by_cases dI:r.high<x.low
   ·have e:ku (out,false,r) x=(out++[r]++[x],true,r):=by unfold ku;rw[if_neg cM,if_pos dI];simp
    rw[e,if_neg cM,if_pos dI,Wy hr xs _ (fun y hy=>⟨h1 y (by simp[hy]),by have:=hF.1 y hy;omega⟩)];simp[OV]
   ·have e:ku (out,false,r) x=(out,false,⟨dG r.low x.low,eb r.high x.high⟩):=by unfold ku;rw[if_neg cM,if_neg dI]
    have hm:dj ⟨dG r.low x.low,eb r.high x.high⟩=true:=by
     rw[hU];simp only[dG,eb];refine⟨?_,?_,?_⟩<;>(repeat' split)<;>omega
    rw[e,if_neg cM,if_neg dI];exact OW xs out _ (fun y hy=>h1 y (by simp[hy])) hF.2 hm
theorem Wz{xs:List aa}{r:aa}(h:cX xs=true)(hr:dj r=true):gv xs r=insR xs r:=by
 have h1:=(kx xs).1 h;have h2:=OW xs [] r h1.1 h1.2 hr;have aj:=Wx xs r xs.length (Nat.le_refl _);rw[d_]at aj;unfold gv;rw[h,hr,aj];simp only;exact h2
theorem OX{B:Int}:∀(xs:List aa) (r:aa),B<r.low→(∀x∈xs,B<x.low)→∀y∈insR xs r,B<y.low
 |[],r,hr,_,y,hy=>by simp only[insR,List.mem_singleton]at hy;rw[hy];exact hr
 |x::xs,r,hr,hx,y,hy=>by
  rw[insR]at hy;split at hy
  ·rcases List.mem_cons.1 hy with rfl|hy
   ·exact hx _ (by simp)
   ·exact OX xs r hr (fun z hz=>hx z (by simp[hz])) y hy
  ·split at hy
   ·rcases List.mem_cons.1 hy with rfl|hy
    ·exact hr
    ·exact hx y hy
   ·refine OX xs _ ?_ (fun z hz=>hx z (by simp[hz])) y hy;have:=hx x (by simp);simp only[dG];split<;>omega
theorem OY:∀(xs:List aa) (r:aa),(∀x∈xs,dj x=true)→xs.Pairwise (fun a b=>a.high<b.low)→dj r=true→(∀x∈insR xs r,dj x=true)∧(insR xs r).Pairwise (fun a b=>a.high<b.low)
 |[],r,_,_,hr=>by simp[insR,hr]
 |x::xs,r,h1,h2,hr=>by
  have hx:=(hU _).1 (h1 x (by simp));have jK:=(hU _).1 hr;have hF:=List.pairwise_cons.1 h2;have l1:∀y∈xs,dj y=true:=fun y hy=>h1 y (by simp[hy]);rw[insR];split
  ·rename_i cM;obtain⟨cC,c8⟩:=OY xs r l1 hF.2 hr;refine⟨fun y hy=>?_,List.pairwise_cons.2 ⟨fun y hy=>OX xs r cM hF.1 y hy,c8⟩⟩;rcases List.mem_cons.1 hy with rfl|hy
   ·exact h1 _ (by simp)
   ·exact cC y hy
  ·split
   ·rename_i cM dI;refine⟨fun y hy=>?_,List.pairwise_cons.2 ⟨fun y hy=>?_,h2⟩⟩
    ·rcases List.mem_cons.1 hy with rfl|hy
     ·exact hr
     ·exact h1 y hy
    ·rcases List.mem_cons.1 hy with rfl|hy
     ·exact dI
     ·have:=hF.1 y hy;omega
   ·refine OY xs _ l1 hF.2 ?_;rw[hU];simp only[dG,eb];refine⟨?_,?_,?_⟩<;>(repeat' split)<;>omega
theorem WA:∀(xs:List aa) (r:aa),insR xs r≠[]
 |[],r=>by simp[insR]
 |x::xs,r=>by
  rw[insR];split
  ·simp
  ·split
   ·simp
   ·exact WA xs _
theorem NL{xs:List aa}{r:aa}(h:cX xs=true)(hr:dj r=true):cX (gv xs r)=true:=by
 rw[Wz h hr,kx];have h1:=(kx xs).1 h;exact OY xs r h1.1 h1.2 hr
theorem agB{xs:List aa}{r:aa}(h:cX xs=true)(hr:dj r=true):gv xs r≠[]:=by rw[Wz h hr];exact WA _ _
def eL(xs ys:List aa):List aa:=ys.foldl gv xs
theorem pc:∀(ys xs:List aa),(eL xs ys).length≤xs.length+ys.length
 |[],xs=>by simp[eL]
 |y::ys,xs=>by
  have h1:=pc ys (gv xs y);have h2:=Ks xs y;have e:eL xs (y::ys)=eL (gv xs y) ys:=rfl;rw[e,eW];omega
theorem Aj(xs ys:List aa)(i:Nat)(h:i<ys.length):eL xs (ys.take (i+1))=gv (eL xs (ys.take i)) ys[i]:=xu gv xs ys i h
theorem Gg:∀(ys xs:List aa),cX xs=true→(∀y∈ys,dj y=true)→cX (eL xs ys)=true∧(ys≠[]∨xs≠[]→eL xs ys≠[])
 |[],xs,h,_=>⟨h,fun g=>by rcases g with g|g;exact absurd rfl g;exact g⟩
 |y::ys,xs,h,hy=>by
  have h1:=NL h (hy y (by simp));have h2:=agB h (hy y (by simp));have aj:=Gg ys (gv xs y) h1 (fun z hz=>hy z (by simp[hz]));exact⟨aj.1,fun _=>aj.2 (.inr h2)⟩
theorem WB{p f a bY:List aa}(hp:cX p=true)(hf:cX f=true)(ha:cX a=true)(h:f≠[]∨a≠[])(dk:bY=eL (eL p f) a):bY≠[]:=by
 have h1:=Gg f p hp ((kx f).1 hf).1;have h2:=Gg a _ h1.1 ((kx a).1 ha).1;rw[dk];rcases h with h|h
 ·exact h2.2 (.inr (h1.2 (.inl h)))
 ·exact h2.2 (.inl h)
def jU(xs:List aa):Int:=(xs[0]?.getD (⟨0,0⟩:aa)).high
theorem agC{xs:List aa}{E:Int}(h:cX xs=true)(ag:∀x∈xs,x.high≤E)(hc:iC xs=E)(hp:0<E):jU xs=E:=by
 unfold iC at hc;rw[if_pos h]at hc
 cases hl:xs.length with
 |zero=>rw[List.length_eq_zero_iff.1 hl]at hc;simp[ig]at hc;omega
 |succ n=>
  have hi:n<xs.length:=by omega
  have h1:=Gf h n hi;have h2:=xu (fun(n:Int) (r:aa)=>n+(r.high-r.low)) 0 xs n hi;have e:ig xs=ig (xs.take n)+(xs[n].high-xs[n].low):=by
   rw[←hl,d_]at h2;exact h2
  have aE:=ag _ (eR hi)
  cases n with
  |zero=>
   simp only[List.take_zero,ig,List.foldl_nil]at e h1;have b3:=(hU _).1 (((kx xs).1 h).1 _ (eR hi));unfold jU;rw[b8 hi,Option.getD_some];simp only[ig]at hc e;omega
  |succ m=>
   exfalso;have hm:m<xs.length:=by omega
   have b3:=Gf h m hm;have e2:ig (xs.take (m+1))=ig (xs.take m)+(xs[m].high-xs[m].low):=xu _ _ _ _ _;have j4:=(List.pairwise_iff_getElem.1 ((kx xs).1 h).2) m (m+1) hm hi (by omega);omega
set_option maxRecDepth 100000
def Ao:List (List bH):=cP 12 [522584,522582,522576,522679,522625,522450,502281,530347,525973,512487,472392,354294]
def Ap:List (List bH):=cP 43 [328256967394537077509,328256967394537077507,328256967394537077622,328256967394537077604,328256967394537077550,328256967394537077384,328256967394537076898,328256967394536990147,328256967394537073253,328256967394537060131,328256967394537020765,328256967394536900480,328256967394536546186,328256967394535483304,328256967394532294658,328256967394522728720,328256967394494030906,328256967394407937464,328256967394149657138,328256966169513491409,328256966167188968475,328256966160215399673,328256966139294693267,328256967346884357480,328256967158597999826,328256966593738926864,328256964852671249298,328256959768939592640,328256944517744622666,328256898764159712744,328184493716039761179,328184081933775571881,328182846586983003987,328254084918687752541,328242966797554641495,328209612434155308357,328106872759240078506,327806683488646080264,326906115676864085538,324204412241518101360,316099301935480148826,291783971017366291224,218837978263024718418]
def yY:List (List bH):=cP 9 [16757,16755,16762,16740,16686,16524,19318,17860,13122]
def WY:List (List bH):=cP 6 [692,690,724,706,648,486]
attribute [go_sem] Ao Ap yY WY
def BI(s:aO):Int:=
 if s.a2=3∧s.ring.base=s.ring.cv then 3
 else if 1<s.a2∨(s.a2=1∧s.state=2)then 2
 else if 0<s.sent∨(s.a2=1∧s.state=1)then 1 else 0
theorem BW(a5 bh bj bd:Int)(aZ:List Int)(aF aB aG:List aa)(bf a8 a1 bk:Int):aJ 203 [.agg [.int .i64 a5,.int .i64 bh,.int .i64 bj,.int .i64 bd,.sl 1 (aZ.map aW),.sl 2 (aF.map aa.enc),.sl 2 (aB.map aa.enc),.sl 2 (aG.map aa.enc),.int .i64 bf,.int .i64 a8,.int .i64 a1,.int .i64 bk]] [.one (.int .i64 (BI (⟨a5,⟨bh,bj,bd,aZ⟩,aF,aB,aG,bf,a8,a1,bk⟩:aO)))]:=by
 refine aN 44 Tryz.func203 Tryz.call203 [.tmp 2] ?_;intro _
 try simp only[go_sem]
 repeat'((first|refine a7 ?_|refine bt (fun h=>?_) (fun h=>?_))<;>simp only[go_sem])
 all_goals(simp at *;simp only[BI];repeat' split)
 all_goals first|rfl|(exfalso;grind)
def jV(s:aO):Bool:=iZ s.ring&&cX s.pending&&cX s.flight&&cX s.cG&&bK s.sent 0 s.ring.cv&&bN s.code&&bK s.a2 0 3
def mg(s:aO):Bool:=decide (s.state=4)||decide (s.state=5)
def JE(s:aO):Bool:=decide (s.ring.base=s.ring.cv)&&decide ((s.pending.length:Int)=0)&&decide ((s.flight.length:Int)=0)&&decide ((s.cG.length:Int)=0)&&decide (s.bn=s.sent)&&decide (s.a2=0)&&decide (s.sent=s.ring.cv)
def nF(s:aO):List aa:=eL (eL s.pending s.flight) s.cG
def yQ(s:aO):Int:=IntKind.i64.wrap (IntKind.i64.wrap (iC s.pending+iC s.flight)+iC s.cG)
def mP(s:aO):Bool:=decide (iC (nF s)=s.ring.cv)&&decide (yQ s=s.ring.cv)&&!(decide (0<s.ring.cv)&&decide (jU (nF s)≠s.ring.cv))&&decide (o2 s.cG 0=s.ring.base)&&decide (s.code=0)
def below(xs:List aa)(n:Int):Bool:=xs.all fun r=>decide (r.high≤n)
def Ab(s:aO):Bool:=(decide (s.a2=0) == decide (s.bn=-1))&&!(decide (s.bn≠-1)&&decide (s.bn≠s.ring.cv))
def fl(s:aO):Bool:=jV s&&(if mg s then JE s else mP s&&below s.flight s.sent&&below s.cG s.sent&&Ab s&&decide (s.state=BI s))
theorem WZ(xs:List aa)(n:Int)(i:Nat)(h:i<xs.length):below (xs.take (i+1)) n=(below (xs.take i) n&&decide (xs[i].high≤n)):=by
 unfold below;rw[hj,b8 h,Option.toList_some,List.all_append];simp
theorem W0(xs:List aa)(n:Int)(i:Nat)(h:i<xs.length)(hb:n<xs[i].high):below xs n=false:=by
 unfold below;rw[List.all_eq_false];exact⟨xs[i],eR h,by simp;omega⟩
theorem Pe(a5 bh bj bd:Int)(aZ:List Int)(aF aB aG:List aa)(bf a8 a1 bk:Int)(lY:aB.length≤maxLen)(kS:aG.length≤maxLen)(dF:jV (⟨a5,⟨bh,bj,bd,aZ⟩,aF,aB,aG,bf,a8,a1,bk⟩:aO)=true)(eK:mg (⟨a5,⟨bh,bj,bd,aZ⟩,aF,aB,aG,bf,a8,a1,bk⟩:aO)=false)(pO:mP (⟨a5,⟨bh,bj,bd,aZ⟩,aF,aB,aG,bf,a8,a1,bk⟩:aO)=true){pV jl pW pX pY pZ u8 p0 p1 p2 p3 p4 p5 p6 u16 p7 p8 p9 p_ p' qa qb qc qd qe qf qg qh qi qj u32 qk ql qm qn qo qp qq qs qt qu qv qw qx qy qz qA qB qC qD qE qF qG qH qI qJ qK qL qM qN qO qP u64 qQ qR qS qT qU qV qW qX qY qZ q0 q1 q2 q3 q4 q5 q6 q7 q8 q9 q_ q' ra rb re rf rh ri rj rk rl rm rn rp rq rr ru rv ry rz rA rB rC rE rF rG rH rI rJ rK rM rN rO rP rQ rR rS rT rU rW rX rY rZ r1 r2 r3 r4 r5 r6 r7 r8 r9 r_ r' sa sb sc sd se sf sg sh si sj sk sm sn sq sr ss su sv sw sx sy sA sB sC sD sE sF sG sH sI sJ sK sL sM sN sO sP sQ sR sS sT sU sV sW sX sY sZ s0 s3 s4 s5 s6 s7 s8 s9 s_ s' ta tb tc td tf tg th ti tj tk tl tm tn tp tq tr tt tu tv tw tx tz tA tB tC tD tE tF tG tH tI tJ tK tL tM tN tO tP tQ tR tS tT tU tV tW tX tY tZ t_ t':V}(ex:List H) :
  codeE Tryz.prog [] (Ah 8 (BS Tryz.f145)) ⟨[pV,.ptr 0 0 0,.d (.bool false),jl,pW,pX,pY,pZ,u8,p0,p1,p2,p3,p4,p5,p6,u16,p7,p8,p9,p_,p',qa,qb,qc,qd,qe,qf,qg,qh,qi,qj,u32,qk,ql,qm,qn,qo,qp,qq,qs,qt,qu,qv,qw,qx,qy,qz,qA,qB,qC,qD,qE,qF,qG,qH,qI,qJ,qK,qL,qM,qN,qO,qP,u64,qQ,qR,qS,qT,qU,qV,qW,qX,qY,qZ,q0,q1,q2,q3,q4,q5,q6,q7,q8,q9,q_,q',ra,rb,re,rf,rh,ri,rj,rk,rl,rm,rn,rp,rq,rr,ru,rv,ry,rz,rA,rB,rC,rE,rF,rG,rH,rI,rJ,rK,rM,rN,rO,rP,rQ,rR,rS,rT,rU,rW,rX,rY,rZ,r1,r2,r3,r4,r5,r6,r7,r8,r9,r_,r',sa,sb,sc,sd,se,sf,sg,sh,si,sj,sk,sm,sn,sq,sr,ss,su,sv,sw,sx,sy,sA,sB,sC,sD,sE,sF,sG,sH,sI,sJ,sK,sL,sM,sN,sO,sP,sQ,sR,sS,sT,sU,sV,sW,sX,sY,sZ,s0,s3,s4,s5,s6,s7,s8,s9,s_,s',ta,tb,tc,td,tf,tg,th,ti,tj,tk,tl,tm,tn,tp,tq,tr,tt,tu,tv,tw,tx,tz,tA,tB,tC,tD,tE,tF,tG,tH,tI,tJ,tK,tL,tM,tN,tO,tP,tQ,tR,tS,tT,tU,tV,tW,tX,tY,tZ,t_,t'],.box [.i a5,.i bh,.i bj,.i bd,.d (.sl 1 (aZ.map aW)),.d (.sl 2 (aF.map aa.enc)),.d (.sl 2 (aB.map aa.enc)),.d (.sl 2 (aG.map aa.enc)),.i bf,.i a8,.i a1,.i bk]::ex⟩ (bG (gM Tryz.prog [.tmp 2] [.one (.bool (fl (⟨a5,⟨bh,bj,bd,aZ⟩,aF,aB,aG,bf,a8,a1,bk⟩:aO)))]) .mk) [] (bG (gM Tryz.prog [.tmp 2] [.one (.bool (fl (⟨a5,⟨bh,bj,bd,aZ⟩,aF,aB,aG,bf,a8,a1,bk⟩:aO)))]) .mk):=by
 conv=>arg 3;whnf
 simp only[go_sem];refine b7.intro (fun i:Nat=>⟨(.ak::.ptr 0 0 0::.d (.bool false)::jn 4 (.i i::jn 238 [])),[.box [.i a5,.i bh,.i bj,.i bd,.d (.sl 1 (aZ.map aW)),.d (.sl 2 (aF.map aa.enc)),.d (.sl 2 (aB.map aa.enc)),.d (.sl 2 (aG.map aa.enc)),.i bf,.i a8,.i a1,.i bk]]⟩)
  (fun i=>aB.length-i) (fun i=>i≤aB.length∧below (aB.take i) a1=true) 0 [0] ⟨by omega,rfl⟩ ?_ ?_
 ·simp only[go_sem];simp
 ·rintro i ⟨hi,he⟩;by_cases h1:i<aB.length
  ·have ax:decide ((i:Int)<(aB.length:Int))=true:=bp (by omega);have aq:=b5 aa.enc aB i h1;have hw:=dK h1 lY;have hs:=WZ aB a1 i h1
   cases cF:decide (a1<aB[i].high)with
   |true=>
    try simp only[go_sem,I,ax]
    repeat'(first|((first|refine au.intro (by first|apply BT|apply yW) ?_|with_reducible refine j1 ?_|refine e8 ?_|refine ba Ao (by kernel_rfl) (by rfl) ?_|refine ba Ap (by kernel_rfl) (by rfl) ?_|refine ba yY (by kernel_rfl) (by rfl) ?_)<;>simp only[go_sem,I,aC,aq,aa.enc,cF])|(with_reducible refine aw ?_)|fail)
    have:=W0 aB a1 i h1 (cO cF);simp[fl,eK,this]
   |false=>
    have b3:decide (aB[i].high≤a1)=true:=bp (by have:=c9 cF;omega)
    try simp only[go_sem,I,ax]
    repeat'(first|((first|refine au.intro (by first|apply BT|apply yW) ?_|with_reducible refine kf ?_|with_reducible refine j1 ?_|refine e8 ?_|refine ba Ao (by kernel_rfl) (by rfl) ?_|refine ba Ap (by kernel_rfl) (by rfl) ?_|refine ba yY (by kernel_rfl) (by rfl) ?_)<;>simp only[go_sem,I,aC,aq,aa.enc,cF])|(with_reducible refine aw ?_)|fail)
    refine bA.intro (i+1) [0] ⟨by omega,by rw[hs,he,b3];rfl⟩ (by omega) ?_;simp only[go_sem,hw];simp
  ·have ax:decide ((i:Int)<(aB.length:Int))=false:=bo (by omega);obtain rfl:i=aB.length:=by omega
   rw[d_]at he;have FA:=he;simp only[go_sem,I,ax];refine b7.intro (fun i:Nat=>⟨(.ak::.ptr 0 0 0::.d (.bool false)::jn 5 (.i i::jn 237 [])),[.box [.i a5,.i bh,.i bj,.i bd,.d (.sl 1 (aZ.map aW)),.d (.sl 2 (aF.map aa.enc)),.d (.sl 2 (aB.map aa.enc)),.d (.sl 2 (aG.map aa.enc)),.i bf,.i a8,.i a1,.i bk]]⟩)
    (fun i=>aG.length-i) (fun i=>i≤aG.length∧below (aG.take i) a1=true) 0 [0] ⟨by omega,rfl⟩ ?_ ?_
   ·simp only[go_sem];simp
   ·rintro i ⟨hi,he⟩;by_cases h1:i<aG.length
    ·have ax:decide ((i:Int)<(aG.length:Int))=true:=bp (by omega);have aq:=b5 aa.enc aG i h1;have hw:=dK h1 kS;have hs:=WZ aG a1 i h1
     cases cF:decide (a1<aG[i].high)with
     |true=>
      try simp only[go_sem,I,ax]
      repeat'(first|((first|refine au.intro (by first|apply BT|apply yW) ?_|refine e8 ?_|refine ba Ao (by kernel_rfl) (by rfl) ?_|refine ba Ap (by kernel_rfl) (by rfl) ?_|refine ba yY (by kernel_rfl) (by rfl) ?_)<;>simp only[go_sem,I,aC,aq,aa.enc,cF])|(with_reducible refine aw ?_)|fail)
      have:=W0 aG a1 i h1 (cO cF);simp[fl,eK,this]
     |false=>
      have b3:decide (aG[i].high≤a1)=true:=bp (by have:=c9 cF;omega)
      try simp only[go_sem,I,ax]
      repeat'(first|(refine ba yY (by kernel_rfl) (by rfl) ?_<;>simp only[go_sem,I,aC,aq,aa.enc,cF])|(with_reducible refine aw ?_)|fail)
      refine bA.intro (i+1) [0] ⟨by omega,by rw[hs,he,b3];rfl⟩ (by omega) ?_;simp only[go_sem,hw];simp
    ·have ax:decide ((i:Int)<(aG.length:Int))=false:=bo (by omega);obtain rfl:i=aG.length:=by omega
     rw[d_]at he;have Ub:=he
     try simp only[go_sem,I,ax]
     repeat'(refine a7 ?_<;>simp only[go_sem])
     refine bt (fun e2=>?_) (fun e2=>?_)
     ·simp only[go_sem];have:Ab (⟨a5,⟨bh,bj,bd,aZ⟩,aF,aB,aG,bf,a8,a1,bk⟩:aO)=false:=by simp[Ab]at e2⊢;grind
      simp[fl,eK,this]
     ·have cd:Ab (⟨a5,⟨bh,bj,bd,aZ⟩,aF,aB,aG,bf,a8,a1,bk⟩:aO)=true:=by simp[Ab]at e2⊢;grind
      simp only[go_sem]
      try simp only[go_sem,I]
      repeat'((first|refine au.intro (by apply BW) ?_|refine ba WY (by kernel_rfl) (by rfl) ?_)<;>simp only[go_sem])
      all_goals simp[fl,dF,eK,pO,FA,Ub,cd]
theorem agS(a5 bh bj bd:Int)(aZ:List Int)(aF aB aG:List aa)(bf a8 a1 bk:Int)(_:aF.length+aB.length+aG.length≤524288)(lY:aB.length≤maxLen)(kS:aG.length≤maxLen)(dF:jV (⟨a5,⟨bh,bj,bd,aZ⟩,aF,aB,aG,bf,a8,a1,bk⟩:aO)=true)(eK:mg (⟨a5,⟨bh,bj,bd,aZ⟩,aF,aB,aG,bf,a8,a1,bk⟩:aO)=false)(hA:nF (⟨a5,⟨bh,bj,bd,aZ⟩,aF,aB,aG,bf,a8,a1,bk⟩:aO)=aF){pV pW pX pY pZ u8 p0 p1 p2 p3 p4 p5 p6 u16 p7 p8 p9 p_ p' qa qb qc qd qe qf qg qh qi qj u32 qk ql qm qn qo qp qq qs qt qu qv qw qx qy qz qA qB qC qD qE qF qG qH qI qJ qK qL qM qN qO qP u64 qQ qR qS qT qU qV qW qX qY qZ q0 q1 q2 q3 q4 q5 q6 q7 q8 q9 q_ q' ra rb re rf rh ri rj rk rl rm rn rp rq rr ru rv ry rz rA rB rC rE rF rG rH rI rJ rK rM rN rO rP rQ rR rS rT rU rW rX rY rZ r1 r2 r3 r4 r5 r6 r7 r8 r9 r_ r' sa sb sc sd se sf sg sh si sj sk sm sn sq sr ss su sv sw sx sy sA sB sC sD sE sF sG sH sI sJ sK sL sM sN sO sP sQ sR sS sT sU sV sW sX sY sZ s0 s3 s4 s5 s6 s7 s8 s9 s_ s' ta tb tc td tf tg th ti tj tk tl tm tn tp tq tr tt tu tv tw tx tz tA tB tC tD tE tF tG tH tI tJ tK tL tM tN tO tP tQ tR tS tT tU tV tW tX tY tZ t_ t':V} :
  codeE Tryz.prog [] (Ah 6 (BS Tryz.f145)) ⟨[pV,.ptr 0 0 0,.d (.bool false),.d (.sl 2 (aF.map aa.enc)),pW,pX,pY,pZ,u8,p0,p1,p2,p3,p4,p5,p6,u16,p7,p8,p9,p_,p',qa,qb,qc,qd,qe,qf,qg,qh,qi,qj,u32,qk,ql,qm,qn,qo,qp,qq,qs,qt,qu,qv,qw,qx,qy,qz,qA,qB,qC,qD,qE,qF,qG,qH,qI,qJ,qK,qL,qM,qN,qO,qP,u64,qQ,qR,qS,qT,qU,qV,qW,qX,qY,qZ,q0,q1,q2,q3,q4,q5,q6,q7,q8,q9,q_,q',ra,rb,re,rf,rh,ri,rj,rk,rl,rm,rn,rp,rq,rr,ru,rv,ry,rz,rA,rB,rC,rE,rF,rG,rH,rI,rJ,rK,rM,rN,rO,rP,rQ,rR,rS,rT,rU,rW,rX,rY,rZ,r1,r2,r3,r4,r5,r6,r7,r8,r9,r_,r',sa,sb,sc,sd,se,sf,sg,sh,si,sj,sk,sm,sn,sq,sr,ss,su,sv,sw,sx,sy,sA,sB,sC,sD,sE,sF,sG,sH,sI,sJ,sK,sL,sM,sN,sO,sP,sQ,sR,sS,sT,sU,sV,sW,sX,sY,sZ,s0,s3,s4,s5,s6,s7,s8,s9,s_,s',ta,tb,tc,td,tf,tg,th,ti,tj,tk,tl,tm,tn,tp,tq,tr,tt,tu,tv,tw,tx,tz,tA,tB,tC,tD,tE,tF,tG,tH,tI,tJ,tK,tL,tM,tN,tO,tP,tQ,tR,tS,tT,tU,tV,tW,tX,tY,tZ,t_,t'],[.box [.i a5,.i bh,.i bj,.i bd,.d (.sl 1 (aZ.map aW)),.d (.sl 2 (aF.map aa.enc)),.d (.sl 2 (aB.map aa.enc)),.d (.sl 2 (aG.map aa.enc)),.i bf,.i a8,.i a1,.i bk]]⟩ (bG (gM Tryz.prog [.tmp 2] [.one (.bool (fl (⟨a5,⟨bh,bj,bd,aZ⟩,aF,aB,aG,bf,a8,a1,bk⟩:aO)))]) .mk) [] (bG (gM Tryz.prog [.tmp 2] [.one (.bool (fl (⟨a5,⟨bh,bj,bd,aZ⟩,aF,aB,aG,bf,a8,a1,bk⟩:aO)))]) .mk):=by
 conv=>arg 3;whnf
 simp only[go_sem];by_cases dk:aF=[]
 ·have Od:aF.length=0:=by rw[dk];rfl
  have w2:iC aF=0:=by rw[dk];rfl
  cases ah:decide (iC aF≠bd)with
  |true=>
   have gr:=cO ah
   try simp only[go_sem,I,ah]
   repeat'(first|((first|refine au.intro (by first|apply BT|apply yW) ?_|with_reducible refine j1 ?_|refine e8 ?_|refine ba Ao (by kernel_rfl) (by rfl) ?_|refine ba Ap (by kernel_rfl) (by rfl) ?_|refine ba yY (by kernel_rfl) (by rfl) ?_)<;>simp only[go_sem,ah])|(with_reducible refine aw ?_)|fail)
   all_goals simp[fl,eK,mP,hA,gr]
  |false=>
   have gr:iC aF=bd:=by have:=c9 ah;omega
   have aX:decide (0<bd)=false:=bo (by omega)
   try simp only[go_sem,I,ah,aX]
   repeat'(first|((first|refine au.intro (by first|apply BT|apply yW) ?_|with_reducible refine kf ?_|with_reducible refine j1 ?_|refine e8 ?_|refine ba Ao (by kernel_rfl) (by rfl) ?_|refine ba Ap (by kernel_rfl) (by rfl) ?_|refine ba yY (by kernel_rfl) (by rfl) ?_)<;>simp only[go_sem,ah,aX])|(with_reducible refine aw ?_)|fail)
   refine bt (fun aE=>?_) (fun aE=>?_)
   ·simp only[go_sem];have:mP (⟨a5,⟨bh,bj,bd,aZ⟩,aF,aB,aG,bf,a8,a1,bk⟩:aO)=false:=by
     simp[mP,hA,yQ,jU]at aE aX⊢;grind
    simp[fl,eK,this]
   ·have pO:mP (⟨a5,⟨bh,bj,bd,aZ⟩,aF,aB,aG,bf,a8,a1,bk⟩:aO)=true:=by
     simp[mP,hA,yQ,jU]at aE aX⊢;grind
    exact Pe _ _ _ _ _ _ _ _ _ _ _ _ lY kS dF eK pO _
 ·skip
  have hp:0<aF.length:=List.length_pos_iff.2 dk;have hI:=b5 aa.enc aF 0 hp
  try simp only[go_sem,I,hI,aa.enc,Int.toNat_zero]
  repeat'(first|((first|refine au.intro (by first|apply BT|apply yW) ?_|refine e8 ?_|refine ba Ao (by kernel_rfl) (by rfl) ?_|refine ba Ap (by kernel_rfl) (by rfl) ?_|refine ba yY (by kernel_rfl) (by rfl) ?_)<;>simp only[go_sem,I,hI,aa.enc,Int.toNat_zero])|(with_reducible refine aw ?_)|fail)
  refine bt (fun aE=>?_) (fun aE=>?_)
  ·simp only[go_sem];have:mP (⟨a5,⟨bh,bj,bd,aZ⟩,aF,aB,aG,bf,a8,a1,bk⟩:aO)=false:=by
    simp[mP,hA,yQ,jU,hp]at aE⊢;grind
   simp[fl,eK,this]
  ·have pO:mP (⟨a5,⟨bh,bj,bd,aZ⟩,aF,aB,aG,bf,a8,a1,bk⟩:aO)=true:=by
    simp[mP,hA,yQ,jU,hp]at aE⊢;grind
   exact Pe _ _ _ _ _ _ _ _ _ _ _ _ lY kS dF eK pO _
theorem WO(a5 bh bj bd:Int)(aZ:List Int)(aF aB aG:List aa)(bf a8 a1 bk:Int)(_:aF.length+aB.length+aG.length≤524288)(lY:aB.length≤maxLen)(kS:aG.length≤maxLen)(dF:jV (⟨a5,⟨bh,bj,bd,aZ⟩,aF,aB,aG,bf,a8,a1,bk⟩:aO)=true)(eK:mg (⟨a5,⟨bh,bj,bd,aZ⟩,aF,aB,aG,bf,a8,a1,bk⟩:aO)=false)(bY:List aa)(hA:nF (⟨a5,⟨bh,bj,bd,aZ⟩,aF,aB,aG,bf,a8,a1,bk⟩:aO)=bY)(j2:bY.length≤1048576)(dk:bY≠[]){pV pW pX pY pZ u8 p0 p1 p2 p3 p4 p5 p6 u16 p7 p8 p9 p_ p' qa qb qc qd qe qf qg qh qi qj u32 qk ql qm qn qo qp qq qs qt qu qv qw qx qy qz qA qB qC qD qE qF qG qH qI qJ qK qL qM qN qO qP u64 qQ qR qS qT qU qV qW qX qY qZ q0 q1 q2 q3 q4 q5 q6 q7 q8 q9 q_ q' ra rb re rf rh ri rj rk rl rm rn rp rq rr ru rv ry rz rA rB rC rE rF rG rH rI rJ rK rM rN rO rP rQ rR rS rT rU rW rX rY rZ r1 r2 r3 r4 r5 r6 r7 r8 r9 r_ r' sa sb sc sd se sf sg sh si sj sk sm sn sq sr ss su sv sw sx sy sA sB sC sD sE sF sG sH sI sJ sK sL sM sN sO sP sQ sR sS sT sU sV sW sX sY sZ s0 s3 s4 s5 s6 s7 s8 s9 s_ s' ta tb tc td tf tg th ti tj tk tl tm tn tp tq tr tt tu tv tw tx tz tA tB tC tD tE tF tG tH tI tJ tK tL tM tN tO tP tQ tR tS tT tU tV tW tX tY tZ t_ t':V} :
  codeE Tryz.prog [] (Ah 6 (BS Tryz.f145)) ⟨[pV,.ptr 0 0 0,.d (.bool false),.sl 1 0 bY.length,pW,pX,pY,pZ,u8,p0,p1,p2,p3,p4,p5,p6,u16,p7,p8,p9,p_,p',qa,qb,qc,qd,qe,qf,qg,qh,qi,qj,u32,qk,ql,qm,qn,qo,qp,qq,qs,qt,qu,qv,qw,qx,qy,qz,qA,qB,qC,qD,qE,qF,qG,qH,qI,qJ,qK,qL,qM,qN,qO,qP,u64,qQ,qR,qS,qT,qU,qV,qW,qX,qY,qZ,q0,q1,q2,q3,q4,q5,q6,q7,q8,q9,q_,q',ra,rb,re,rf,rh,ri,rj,rk,rl,rm,rn,rp,rq,rr,ru,rv,ry,rz,rA,rB,rC,rE,rF,rG,rH,rI,rJ,rK,rM,rN,rO,rP,rQ,rR,rS,rT,rU,rW,rX,rY,rZ,r1,r2,r3,r4,r5,r6,r7,r8,r9,r_,r',sa,sb,sc,sd,se,sf,sg,sh,si,sj,sk,sm,sn,sq,sr,ss,su,sv,sw,sx,sy,sA,sB,sC,sD,sE,sF,sG,sH,sI,sJ,sK,sL,sM,sN,sO,sP,sQ,sR,sS,sT,sU,sV,sW,sX,sY,sZ,s0,s3,s4,s5,s6,s7,s8,s9,s_,s',ta,tb,tc,td,tf,tg,th,ti,tj,tk,tl,tm,tn,tp,tq,tr,tt,tu,tv,tw,tx,tz,tA,tB,tC,tD,tE,tF,tG,tH,tI,tJ,tK,tL,tM,tN,tO,tP,tQ,tR,tS,tT,tU,tV,tW,tX,tY,tZ,t_,t'],[.box [.i a5,.i bh,.i bj,.i bd,.d (.sl 1 (aZ.map aW)),.d (.sl 2 (aF.map aa.enc)),.d (.sl 2 (aB.map aa.enc)),.d (.sl 2 (aG.map aa.enc)),.i bf,.i a8,.i a1,.i bk],.ar 2 (bY.map aa.enc) true]⟩ (bG (gM Tryz.prog [.tmp 2] [.one (.bool (fl (⟨a5,⟨bh,bj,bd,aZ⟩,aF,aB,aG,bf,a8,a1,bk⟩:aO)))]) .mk) [] (bG (gM Tryz.prog [.tmp 2] [.one (.bool (fl (⟨a5,⟨bh,bj,bd,aZ⟩,aF,aB,aG,bf,a8,a1,bk⟩:aO)))]) .mk):=by
 conv=>arg 3;whnf
 simp only[go_sem];have hp:0<bY.length:=List.length_pos_iff.2 dk;have hI:=b5 aa.enc bY 0 hp
 try simp only[go_sem,I,hI,aa.enc,Int.toNat_zero]
 repeat'(first|((first|refine au.intro (by first|apply BT|apply yW) ?_|with_reducible refine j1 ?_|refine e8 ?_|refine ba Ao (by kernel_rfl) (by rfl) ?_|refine ba Ap (by kernel_rfl) (by rfl) ?_|refine ba yY (by kernel_rfl) (by rfl) ?_)<;>simp only[go_sem,I,hI,aa.enc,Int.toNat_zero])|(with_reducible refine aw ?_)|fail)
 refine bt (fun aE=>?_) (fun aE=>?_)
 ·simp only[go_sem];have:mP (⟨a5,⟨bh,bj,bd,aZ⟩,aF,aB,aG,bf,a8,a1,bk⟩:aO)=false:=by
   simp[mP,hA,yQ,jU,hp]at aE⊢;grind
  simp[fl,eK,this]
 ·have pO:mP (⟨a5,⟨bh,bj,bd,aZ⟩,aF,aB,aG,bf,a8,a1,bk⟩:aO)=true:=by
   simp[mP,hA,yQ,jU,hp]at aE⊢;grind
  exact Pe _ _ _ _ _ _ _ _ _ _ _ _ lY kS dF eK pO _
end Gv

namespace Gv
open Go Go.Proofs
def chk:Int→List aA→Bool
 |_,[]=>true
 |ca,c::cs=>(decide (c.data≠[])&&decide (ca≤c.offset)&&decide (c.offset≤4611686018427387903-(c.data.length:Int)))&&chk (c.offset+c.data.length+1) cs
theorem DQ{ca:Int}{c:aA}{cs:List aA}(h:chk ca (c::cs)=true) :
  c.data≠[]∧ca≤c.offset∧c.offset≤4611686018427387903-(c.data.length:Int)∧chk (c.offset+c.data.length+1) cs=true:=by
 simp only[chk,bP,b2]at h;exact⟨h.1.1.1,h.1.1.2,h.1.2,h.2⟩
def iI(b:kC):Bool:=bK b.next 0 4611686018427387903&&chk b.next b.bO
def oD(b:kC):Int:=if iI b=true then(match b.bO.getLast? with|some c=>c.offset+c.data.length|none=>b.next)else b.next
def xC(o:Int)(c:aA):Bool:=decide (0≤o)&&decide (0≤c.offset)&&decide (c.offset≤o)&&decide (o-c.offset<c.data.length)
def byteAt:List aA→Int→Int
 |[],_=>-1
 |c::cs,o=>if xC o c=true then((((c.data[(o-c.offset).toNat]?).getD 0).toNat:Nat):Int)else byteAt cs o
theorem wj:∀(cs:List aA) (ca:Int),chk ca cs=true→∀c∈cs,ca≤c.offset∧c.offset≤4611686018427387903-(c.data.length:Int)
 |[],_,_,c,hc=>by cases hc
 |d::cs,ca,h,c,hc=>by
  obtain⟨h1,h2,aj,aE⟩:=DQ h;rcases List.mem_cons.1 hc with rfl|hc
  ·exact⟨h2,aj⟩
  ·have:=wj cs _ aE c hc;omega
theorem PO:∀(cs:List aA) (ca:Int) (l:aA),chk ca cs=true→cs.getLast?=some l→∀c∈cs,c.offset+(c.data.length:Int)≤l.offset+(l.data.length:Int)
 |[],_,_,_,_,c,hc=>by cases hc
 |[d],ca,l,h,hl,c,hc=>by
  simp only[List.getLast?_singleton,bF]at hl;simp only[List.mem_singleton]at hc;subst hl;subst hc;omega
 |d::e::cs,ca,l,h,hl,c,hc=>by
  rw[List.getLast?_cons_cons]at hl;obtain⟨h1,h2,aj,aE⟩:=DQ h;have hr:=PO (e::cs) _ l aE hl;rcases List.mem_cons.1 hc with rfl|hc
  ·have b3:=wj _ _ aE l (List.mem_of_getLast? hl);omega
  ·exact hr c hc
theorem B1(o:Int)(c:aA):xC o c=true↔0≤o∧0≤c.offset∧c.offset≤o∧o-c.offset<c.data.length:=by
 simp only[xC,bP,b2,and_assoc]
def cellsOf(b:kC):XA:=⟨(List.range 64).map fun j=>byteAt b.bO (j:Nat),b.next⟩
set_option maxRecDepth 100000
theorem PI(o:Int)(d:List UInt8)(h:0≤o∧o≤4611686018427387903-(d.length:Int)):aJ 258 [.agg [.int .i64 o,.str d]] [.one (.int .i64 (o+d.length))]:=by
 refine aN 9 Tryz.func258 Tryz.call258 [.tmp 2] ?_;intro _;have hw:IntKind.i64.wrap (o+d.length)=o+d.length:=by rw[bz]<;>omega
 try simp only[go_sem,hw]
 all_goals simp
def y3(ca:Int)(c:aA):Bool:=decide (c.data≠[])&&decide (ca≤c.offset)&&decide (c.offset≤4611686018427387903-(c.data.length:Int))
theorem PJ(ca:Int)(xs:List aA)(i:Nat)(h:i<xs.length):chk ca (xs.drop i)=(y3 ca xs[i]&&chk (xs[i].offset+xs[i].data.length+1) (xs.drop (i+1))):=by
 rw[List.drop_eq_getElem_cons h];rfl
theorem Xs(xs:List aA)(o:Int)(i:Nat)(h:i<xs.length):byteAt (xs.drop i) o=if xC o xs[i]=true then((((xs[i].data[(o-xs[i].offset).toNat]?).getD 0).toNat:Nat):Int)else byteAt (xs.drop (i+1)) o:=by
 rw[List.drop_eq_getElem_cons h];rfl
theorem GI{n:Int}{xs:List aA}(h:bK n 0 4611686018427387903=true):iI ⟨n,xs⟩=chk n xs:=by
 show(bK n 0 4611686018427387903&&chk n xs)=_;rw[h];rfl
theorem Kl{n:Int}{xs:List aA}(h:bK n 0 4611686018427387903=false):iI ⟨n,xs⟩=false:=by
 show(bK n 0 4611686018427387903&&chk n xs)=_;rw[h];rfl
theorem Km(ca:Int)(c:aA):y3 ca c=true↔c.data≠[]∧ca≤c.offset∧c.offset≤4611686018427387903-(c.data.length:Int):=by
 simp only[y3,bP,b2,and_assoc]
theorem Xt(d:List UInt8):decide ((d.length:Int)=0)=decide (d=[]):=by cases d<;>simp;omega
theorem xD(n:Int)(xs:List aA)(hb:∀c∈xs,c.data.length≤1048576)(hx:xs.length≤1048576):aJ 194 [.agg [.int .i64 n,.sl 2 (xs.map aA.enc)]] [.one (.bool (iI ⟨n,xs⟩))]:=by
 refine aN 42 Tryz.func194 Tryz.call194 [.tmp 2] ?_;intro ok;simp only[go_sem];refine ab.intro (uc n) ?_;simp only[bN];simp only[go_sem];refine bt (fun h0=>?_) (fun h0=>?_)
 ·have hq:bK n 0 4611686018427387903=false:=by simpa using h0
  simp only[go_sem];rw[Kl hq]
 ·have hq:bK n 0 4611686018427387903=true:=by simpa using h0
  have DL:0≤n∧n≤4611686018427387903:=by simpa [bK]using hq
  simp only[go_sem,I];refine b7.intro (fun p:Nat×Int=>⟨(.ak::.ptr 0 0 0::.d (.bool false)::.i p.2::jn 9 (.d (.sl 2 (xs.map aA.enc))::.i xs.length::.i p.1::jn 26 [])),[.box [.i n,.d (.sl 2 (xs.map aA.enc))]]⟩)
   (fun p=>xs.length-p.1) (fun p=>p.1≤xs.length∧0≤p.2∧p.2≤4611686018427387904∧chk p.2 (xs.drop p.1)=chk n xs) (0,n) [0] ⟨by simp,by omega,by omega,rfl⟩ ?_ ?_
  ·simp only[go_sem];simp
  ·rintro⟨i,ca⟩ ⟨hi,y4,Xu,he⟩;simp only at hi y4 Xu he;simp only[go_sem];refine bt (fun h1=>?_) (fun h1=>?_)
   ·have ax:=cO h1;have hlt:i<xs.length:=by omega
    have aq:=b5 aA.enc xs i hlt;have hw:=dK (i:=i) (m:=xs.length) hlt (by simp only[maxLen];omega);have jZ:=hb xs[i] (eR hlt);have nL:IntKind.i64.wrap (4611686018427387903-(xs[i].data.length:Int))=4611686018427387903-(xs[i].data.length:Int):=by rw[bz]<;>omega
    have pg:=PJ ca xs i hlt;by_cases hok:y3 ca xs[i]=true
    ·rw[hok,Bool.true_and]at pg;obtain⟨dA,fN,f3⟩:=(Km _ _).1 hok;have hne:xs[i].data.length≠0:=by simpa using dA
     have ah:decide ((xs[i].data.length:Int)=0)=false:=bo (by omega);have ai:decide (xs[i].offset<ca)=false:=bo (by omega);have aX:decide (4611686018427387903-(xs[i].data.length:Int)<xs[i].offset)=false:=bo (by omega);have wh:IntKind.i64.wrap (xs[i].offset+(xs[i].data.length:Int)+1)=xs[i].offset+(xs[i].data.length:Int)+1:=by rw[bz]<;>omega
     have PK:0≤xs[i].offset∧xs[i].offset≤4611686018427387903-(xs[i].data.length:Int):=⟨by omega,by omega⟩
     try simp only[go_sem,I,aC,aq,aA.enc,ah]
     repeat'(first|((first|refine ab.intro (by(apply PI<;>exact aP)) ?_|with_reducible refine du ?_)<;>simp only[go_sem,nL,ai,aX])|(with_reducible refine aw ?_)|fail)
     all_goals(refine bA.intro (i+1,xs[i].offset+(xs[i].data.length:Int)+1) [0] ⟨by simp only;omega,by simp only;omega,by simp only;omega,by rw[←he,pg]⟩ (by simp only;omega) ?_;simp only[go_sem,hw,wh];try simp)
    ·have Xv:y3 ca xs[i]=false:=by simpa using hok
     rw[Xv,Bool.false_and]at pg;have hz:(bif bif decide ((xs[i].data.length:Int)=0)then true else decide (xs[i].offset<ca)then true else decide (4611686018427387903-(xs[i].data.length:Int)<xs[i].offset))=true:=by
      rw[Xt];by_cases cC:xs[i].data=[]
      ·simp[cC]
      ·by_cases c8:xs[i].offset<ca
       ·simp[cC,c8]
       ·by_cases fs:4611686018427387903-(xs[i].data.length:Int)<xs[i].offset
        ·simp[fs]
        ·exact absurd ((Km _ _).2 ⟨cC,by omega,by omega⟩) hok
     try simp only[go_sem,I,aC,aq,aA.enc]
     repeat'(first|(refine a7 ?_<;>simp only[go_sem,nL,hz])|(with_reducible refine aw ?_)|fail)
     all_goals(rw[GI hq,←he,pg])
   ·have ax:=c9 h1;have hM:i=xs.length:=by omega
    subst hM;simp only[go_sem];rw[GI hq,←he,List.drop_length];rfl
theorem oC(n:Int)(xs:List aA)(hb:∀c∈xs,c.data.length≤1048576)(hx:xs.length≤1048576):aJ 204 [.agg [.int .i64 n,.sl 2 (xs.map aA.enc)]] [.one (.bool (iI ⟨n,xs⟩))]:=by
 refine aN 48 Tryz.func204 Tryz.call204 [.tmp 2] ?_;intro ok;simp only[go_sem];have B0:bK n 0 4611686018427387903=true→0≤n∧n≤4611686018427387903:=fun h=>by simpa [bK]using h
 have Xw:bK n 0 4611686018427387903=true→-1≤IntKind.i64.wrap (n-1)∧IntKind.i64.wrap (n-1)≤4611686018427387903∧chk (IntKind.i64.wrap (n-1)+1) (xs.drop 0)=chk n xs:=by
  intro hq;have:=B0 hq;have y5:IntKind.i64.wrap (n-1)=n-1:=by rw[bz]<;>omega
  rw[y5];exact⟨by omega,by omega,by rw[show n-1+1=n from by omega,List.drop_zero]⟩
 refine b7.intro (fun p:Nat×Int=>⟨(.ak::.ptr 0 0 0::.d (.bool false)::.i p.2::.i p.1::jn 43 []),[.box [.i n,.d (.sl 2 (xs.map aA.enc))]]⟩)
   (fun p=>xs.length-p.1) (fun p=>p.1≤xs.length∧(bK n 0 4611686018427387903=true→-1≤p.2∧p.2≤4611686018427387903∧chk (p.2+1) (xs.drop p.1)=chk n xs)) (0,IntKind.i64.wrap (n-1)) [0] ⟨by simp,Xw⟩ ?_ ?_
 ·simp only[go_sem];simp
 ·rintro⟨i,e⟩ ⟨hi,hq⟩;simp only at hi hq;simp only[go_sem,I];refine bt (fun h1=>?_) (fun h1=>?_)
  ·have ax:=cO h1;have hlt:i<xs.length:=by omega
   have aq:=b5 aA.enc xs i hlt;have hw:=dK (i:=i) (m:=xs.length) hlt (by simp only[maxLen];omega);have jZ:=hb xs[i] (eR hlt);have nL:IntKind.i64.wrap (4611686018427387903-(xs[i].data.length:Int))=4611686018427387903-(xs[i].data.length:Int):=by rw[bz]<;>omega
   have pg:=PJ (e+1) xs i hlt;have hz:(bif bif decide (xs[i].offset≤e)then true else decide (xs[i].data=[])then true else decide (4611686018427387903-(xs[i].data.length:Int)<xs[i].offset))=!y3 (e+1) xs[i]:=by
    have j0:decide (e+1≤xs[i].offset)=!decide (xs[i].offset≤e):=by by_cases g:xs[i].offset≤e<;>simp[g]<;>omega
    have Kn:decide (xs[i].data≠[])=!decide (xs[i].data=[]):=by simp
    have Xx:decide (xs[i].offset≤4611686018427387903-(xs[i].data.length:Int))=!decide (4611686018427387903-(xs[i].data.length:Int)<xs[i].offset):=by by_cases g:4611686018427387903-(xs[i].data.length:Int)<xs[i].offset<;>simp[g]<;>omega
    unfold y3;rw[j0,Kn,Xx]
    cases decide (xs[i].offset≤e)<;>cases decide (xs[i].data=[])<;>cases decide (4611686018427387903-(xs[i].data.length:Int)<xs[i].offset)<;>rfl
   cases hok:y3 (e+1) xs[i]with
   |true=>
    rw[hok]at hz pg;simp only[Bool.true_and,bS]at hz pg;obtain⟨dA,fN,f3⟩:=(Km _ _).1 hok
    try simp only[go_sem,I,aC,aq,aA.enc]
    repeat'(first|(refine a7 ?_<;>simp only[go_sem,nL,hz])|(with_reducible refine aw ?_)|fail)
    all_goals(refine bA.intro (i+1,IntKind.i64.wrap (xs[i].offset+(xs[i].data.length:Int))) [0] ⟨by simp only;omega,fun wi=>?_⟩ (by simp only;omega) ?_)
    all_goals first
     |(simp only[go_sem,hw];done)
     |(simp only[go_sem,hw];simp;done)
     |(obtain⟨GJ,AA,he⟩:=hq wi;have mT:IntKind.i64.wrap (xs[i].offset+(xs[i].data.length:Int))=xs[i].offset+(xs[i].data.length:Int):=(by rw[bz]<;>omega);simp only[mT];exact⟨by omega,by omega,by rw[←he,pg]⟩)
   |false=>
    rw[hok]at hz pg;simp only[Bool.false_and,cc]at hz pg
    try simp only[go_sem,I,aC,aq,aA.enc]
    repeat'(first|(refine a7 ?_<;>simp only[go_sem,nL,hz])|(with_reducible refine aw ?_)|fail)
    all_goals(cases wi:bK n 0 4611686018427387903 with|false=>rw[Kl wi]|true=>rw[GI wi,←(hq wi).2.2,pg])
  ·have ax:=c9 h1;have hM:i=xs.length:=by omega
   subst hM;simp only[go_sem];refine ab.intro (h9 n) ?_;simp only[bN];simp only[go_sem]
   cases wi:bK n 0 4611686018427387903 with
   |false=>rw[Kl wi]
   |true=>rw[GI wi,←(hq wi).2.2,List.drop_length];rfl
theorem PL(n:Int)(xs:List aA)(hb:∀c∈xs,c.data.length≤1048576)(hx:xs.length≤1048576):aJ 195 [.agg [.int .i64 n,.sl 2 (xs.map aA.enc)]] [.one (.int .i64 (oD ⟨n,xs⟩))]:=by
 refine aN 23 Tryz.func195 Tryz.call195 [.tmp 2] ?_;intro ok
 cases aU:iI ⟨n,xs⟩with
 |false=>
  have ph:∀b:Bool,(bif b then true else true)=true:=fun b=>by cases b<;>rfl
  try simp only[go_sem]
  repeat'((first|refine ab.intro (by(apply xD<;>exact aP)) ?_|with_reducible refine e5 ?_)<;>simp only[go_sem,aU])
  all_goals simp[oD,aU]
 |true=>
  cases l1:xs with
  |nil=>
   rw[←l1];have ah:decide ((xs.length:Int)=0)=true:=by rw[l1];rfl
   have mi:xs.getLast?=none:=by rw[l1];rfl
   try simp only[go_sem]
   repeat'((first|refine ab.intro (by(apply xD<;>exact aP)) ?_|with_reducible refine du ?_)<;>simp only[go_sem,I,aU,ah])
   all_goals simp[oD,aU,mi]
  |cons Ko Xy=>
   rw[←l1];have ff:0<xs.length:=by rw[l1];simp
   obtain⟨m,hm⟩:∃m,xs.length=m+1:=⟨xs.length-1,by omega⟩;have hlt:m<xs.length:=by omega
   have aq:=b5 aA.enc xs m hlt;have hl:xs.getLast?=some xs[m]:=by rw[List.getLast?_eq_getElem?,hm,Nat.add_sub_cancel,b8]
   have ah:decide ((xs.length:Int)=0)=false:=bo (by omega);have hw:IntKind.i64.wrap ((xs.length:Int)-1)=(m:Int):=by rw[bz]<;>omega
   have hq:=aU;have GK:0≤n∧chk n xs=true:=by
    simp only[iI,bP,bK,b2]at hq;exact⟨hq.1.1,hq.2⟩
   have hc:=wj xs n GK.2 xs[m] (eR hlt);have PK:0≤xs[m].offset∧xs[m].offset≤4611686018427387903-(xs[m].data.length:Int):=⟨by omega,hc.2⟩;have wh:IntKind.i64.wrap (xs[m].offset+(xs[m].data.length:Int))=xs[m].offset+(xs[m].data.length:Int):=by rw[bz]<;>omega
   try simp only[go_sem]
   repeat'(first|((first|refine ab.intro (by first|(apply xD<;>exact aP)|(apply PI<;>exact aP)) ?_|with_reducible refine du ?_)<;>simp only[go_sem,I,aC,aq,aA.enc,aU,ah,hw])|(with_reducible refine aw ?_)|fail)
   all_goals simp[oD,aU,hl]
theorem PM(n:Int)(xs:List aA)(hb:∀c∈xs,c.data.length≤1048576)(hx:xs.length≤1048576):aJ 205 [.agg [.int .i64 n,.sl 2 (xs.map aA.enc)]] [.one (.int .i64 (oD ⟨n,xs⟩))]:=by
 refine aN 29 Tryz.func205 Tryz.call205 [.tmp 2] ?_;intro ok
 cases aU:iI ⟨n,xs⟩with
 |false=>
  have ph:∀b:Bool,(bif b then true else true)=true:=fun b=>by cases b<;>rfl
  try simp only[go_sem,I]
  repeat'((first|refine au.intro (by(apply oC<;>exact aP)) ?_|refine a7 ?_)<;>simp only[go_sem,aU,ph])
  all_goals simp[oD,aU]
 |true=>
  cases l1:xs with
  |nil=>
   rw[←l1];have ah:decide ((xs.length:Int)=0)=true:=by rw[l1];rfl
   have mi:xs.getLast?=none:=by rw[l1];rfl
   try simp only[go_sem,I,ah]
   repeat'(first|(with_reducible refine e5 ?_<;>simp only[go_sem]))
   all_goals simp[oD,aU,mi]
  |cons Ko Xy=>
   rw[←l1];have ff:0<xs.length:=by rw[l1];simp
   obtain⟨m,hm⟩:∃m,xs.length=m+1:=⟨xs.length-1,by omega⟩;have hlt:m<xs.length:=by omega
   have aq:=b5 aA.enc xs m hlt;have hl:xs.getLast?=some xs[m]:=by rw[List.getLast?_eq_getElem?,hm,Nat.add_sub_cancel,b8]
   have ah:decide ((xs.length:Int)=0)=false:=bo (by omega);have hw:IntKind.i64.wrap ((xs.length:Int)-1)=(m:Int):=by rw[bz]<;>omega
   have hq:=aU;have GK:0≤n∧chk n xs=true:=by
    simp only[iI,bP,bK,b2]at hq;exact⟨hq.1.1,hq.2⟩
   have hc:=wj xs n GK.2 xs[m] (eR hlt);have PK:0≤xs[m].offset∧xs[m].offset≤4611686018427387903-(xs[m].data.length:Int):=⟨by omega,hc.2⟩;have wh:IntKind.i64.wrap (xs[m].offset+(xs[m].data.length:Int))=xs[m].offset+(xs[m].data.length:Int):=by rw[bz]<;>omega
   try simp only[go_sem,I,ah]
   repeat'(first|((first|refine ab.intro (by(apply oC<;>exact aP)) ?_|with_reducible refine du ?_)<;>simp only[go_sem,I,aC,aq,aA.enc,aU,hw,wh])|(with_reducible refine aw ?_)|fail)
   all_goals simp[oD,aU,hl]
theorem PN(n:Int)(xs:List aA)(o:Int)(hb:∀c∈xs,c.data.length≤1048576)(hx:xs.length≤1048576):aJ 342 [.agg [.int .i64 n,.sl 2 (xs.map aA.enc)],.one (.int .i64 o)] [.one (.int .i64 (byteAt xs o))]:=by
 refine aN 57 Tryz.func342 Tryz.call342 [.tmp 4] ?_;intro ok;have av:=DM ok.2.1;simp only[go_sem];refine b7.intro (fun i:Nat=>⟨(.ak::.i o::.ptr 0 0 0::.ak::.i 0::.i i::jn 51 []),[.box [.i n,.d (.sl 2 (xs.map aA.enc))]]⟩)
   (fun i=>xs.length-i) (fun i=>i≤xs.length∧byteAt (xs.drop i) o=byteAt xs o) 0 [0] ⟨by omega,rfl⟩ ?_ ?_
 ·simp only[go_sem];simp
 ·rintro i ⟨hi,he⟩;simp only[go_sem,I];refine bt (fun h1=>?_) (fun h1=>?_)
  ·have ax:=cO h1;have hlt:i<xs.length:=by omega
   have aq:=b5 aA.enc xs i hlt;have hw:=dK (i:=i) (m:=xs.length) hlt (by simp only[maxLen];omega);have jZ:=hb xs[i] (eR hlt);have DN:=Xs xs o i hlt;by_cases hh:xC o xs[i]=true
   ·rw[if_pos hh]at DN;obtain⟨dA,fN,f3,f4⟩:=(B1 _ _).1 hh;obtain⟨k,hk⟩:=mj (show 0≤o-xs[i].offset by omega);have xE:IntKind.i64.wrap (o-xs[i].offset)=(k:Int):=by rw[bz]<;>omega
    have ni:k<xs[i].data.length:=by omega
    have DO:xs[i].data[k]?=some xs[i].data[k]:=b8 ni;have B2:IntKind.i64.wrap ((xs[i].data[k].toNat:Nat):Int)=((xs[i].data[k].toNat:Nat):Int):=by have:=xs[i].data[k].toNat_lt;rw[bz]<;>omega
    have ah:decide (0≤o)=true:=bp dA;have ai:decide (0≤xs[i].offset)=true:=bp fN;have aX:decide ((0:Int)≤(k:Int))=true:=bp (by omega);have br:decide ((k:Int)<(xs[i].data.length:Int))=true:=bp (by omega);rw[hk,aC,DO,Option.getD_some]at DN
    try simp only[go_sem,I,aC,aq,aA.enc,xE,ah,Option.getD_some]
    repeat'(first|(with_reducible refine du ?_<;>simp only[go_sem,I,aC,aq,aA.enc,ai,aX,br,DO,B2,Option.getD_some])|(with_reducible refine aw ?_)|fail)
    all_goals(rw[←he,DN])
   ·rw[if_neg hh]at DN;have hz:(bif bif bif decide (0≤o)then decide (0≤xs[i].offset)else false then decide (0≤IntKind.i64.wrap (o-xs[i].offset))else false then decide (IntKind.i64.wrap (o-xs[i].offset)<(xs[i].data.length:Int))else false)=false:=by
     by_cases cC:0≤o
     ·by_cases c8:0≤xs[i].offset
      ·have ahl:=DM (n:=o-xs[i].offset) (by
        have h1:IntKind.i64.min=-9223372036854775808:=by decide
        have h2:IntKind.i64.max=9223372036854775807:=by decide
        have aj:=Kp ok.1.2.1.2 _ (List.mem_map.2 ⟨xs[i],eR hlt,rfl⟩);have aE:=DM aj.1;simp only[dOk,h1,h2];omega)
       have xE:IntKind.i64.wrap (o-xs[i].offset)=o-xs[i].offset:=by rw[bz]<;>omega
       rw[xE];by_cases fs:0≤o-xs[i].offset
       ·have l2:¬o-xs[i].offset<(xs[i].data.length:Int):=fun l2=>hh ((B1 _ _).2 ⟨cC,c8,by omega,l2⟩);simp[l2]
       ·simp[show ¬xs[i].offset≤o from by omega]
      ·simp[c8]
     ·simp[cC]
    try simp only[go_sem,I,aC,aq,aA.enc]
    repeat'(first|(refine a7 ?_<;>simp only[go_sem,I,aC,aq,aA.enc,hz])|(with_reducible refine aw ?_)|fail)
    all_goals(refine bA.intro (i+1) [0] ⟨by omega,by rw[←he,DN]⟩ (by omega) ?_;simp only[go_sem,hw];try simp)
  ·have ax:=c9 h1;have hM:i=xs.length:=by omega
   subst hM;simp only[go_sem];rw[←he,List.drop_length];rfl
set_option maxRecDepth 100000
def xF:List (List bH):=cP 19 [1162261466,1162261464,1162261458,1162261440,1162261386,1162261224,1162260738,1162259280,1162254906,1162241784,1104806790,1104688692,1104334398,1103271516,1100082870,1155057489,1126359675,1033121304,774840978]
attribute [go_sem] xF
def GL(n:Int):List aA→Nat
 |[]=>0
 |c::_=>if c.offset=n then c.data.length else 0
def jC(n:Int)(xs:List aA):Nat:=if iI ⟨n,xs⟩=true then GL n xs else 0
def kX(xs:List aA):List aa:=xs.map fun c=>⟨c.offset,c.offset+c.data.length⟩
def B3(n:Int)(xs:List aA):List aa:=if iI ⟨n,xs⟩=true then kX xs else []
theorem Xz(n:Int)(xs:List aA)(hb:∀c∈xs,c.data.length≤1048576)(hx:xs.length≤1048576):aJ 259 [.agg [.int .i64 n,.sl 2 (xs.map aA.enc)]] [.one (.int .i64 (jC n xs))]:=by
 refine aN 28 Tryz.func259 Tryz.call259 [.tmp 2] ?_;intro ok
 cases aU:iI ⟨n,xs⟩with
 |false=>
  try simp only[go_sem]
  repeat'((first|refine au.intro (by(apply xD<;>exact aP)) ?_|with_reducible refine j1 ?_|refine ba xF (by kernel_rfl) (by rfl) ?_)<;>simp only[go_sem,aU])
  all_goals simp[jC,aU]
 |true=>
  by_cases hl:xs.length=0
  ·have ah:decide ((xs.length:Int)=0)=true:=bp (by omega)
   try simp only[go_sem]
   repeat'((first|refine au.intro (by(apply xD<;>exact aP)) ?_|with_reducible refine kf ?_|with_reducible refine j1 ?_|refine ba xF (by kernel_rfl) (by rfl) ?_)<;>simp only[go_sem,I,aU,ah])
   all_goals simp[jC,GL,List.length_eq_zero_iff.1 hl]
  ·have hlt:0<xs.length:=by omega
   have ah:decide ((xs.length:Int)=0)=false:=bo (by omega);have aq:=b5 aA.enc xs 0 hlt;have hr:jC n xs=if xs[0].offset=n then xs[0].data.length else 0:=by
    unfold jC;rw[if_pos aU]
    cases xs with
    |nil=>exact absurd rfl hl
    |cons c cs=>rfl
   by_cases hc:xs[0].offset=n
   ·have ai:decide (xs[0].offset≠n)=false:=bo (by simpa using hc)
    try simp only[go_sem]
    repeat'(first|((first|refine au.intro (by(apply xD<;>exact aP)) ?_|with_reducible refine kf ?_|refine ba xF (by kernel_rfl) (by rfl) ?_)<;>simp only[go_sem,I,aU,aq,aA.enc,ah,ai,Int.toNat_zero])|(with_reducible refine aw ?_)|fail)
    all_goals simp[hr,hc]
   ·have ai:decide (xs[0].offset≠n)=true:=bp hc
    try simp only[go_sem]
    repeat'(first|((first|refine au.intro (by(apply xD<;>exact aP)) ?_|with_reducible refine kf ?_|refine ba xF (by kernel_rfl) (by rfl) ?_)<;>simp only[go_sem,I,aU,aq,aA.enc,ah,ai,Int.toNat_zero])|(with_reducible refine aw ?_)|fail)
    all_goals simp[hr,hc]
theorem DP(n:Int)(xs:List aA)(hb:∀c∈xs,c.data.length≤1048576)(hx:xs.length≤1048576):aJ 206 [.agg [.int .i64 n,.sl 2 (xs.map aA.enc)]] [.one (.int .i64 (jC n xs))]:=by
 refine aN 28 Tryz.func206 Tryz.call206 [.tmp 2] ?_;intro ok
 cases aU:iI ⟨n,xs⟩with
 |false=>
  try simp only[go_sem]
  repeat'((first|refine au.intro (by(apply oC<;>exact aP)) ?_|with_reducible refine j1 ?_|refine ba xF (by kernel_rfl) (by rfl) ?_)<;>simp only[go_sem,aU])
  all_goals simp[jC,aU]
 |true=>
  by_cases hl:xs.length=0
  ·have ah:decide ((xs.length:Int)=0)=true:=bp (by omega)
   try simp only[go_sem]
   repeat'((first|refine au.intro (by(apply oC<;>exact aP)) ?_|with_reducible refine kf ?_|with_reducible refine j1 ?_|refine ba xF (by kernel_rfl) (by rfl) ?_)<;>simp only[go_sem,I,aU,ah])
   all_goals simp[jC,GL,List.length_eq_zero_iff.1 hl]
  ·have hlt:0<xs.length:=by omega
   have ah:decide ((xs.length:Int)=0)=false:=bo (by omega);have aq:=b5 aA.enc xs 0 hlt;have hr:jC n xs=if xs[0].offset=n then xs[0].data.length else 0:=by
    unfold jC;rw[if_pos aU]
    cases xs with
    |nil=>exact absurd rfl hl
    |cons c cs=>rfl
   by_cases hc:xs[0].offset=n
   ·have ai:decide (xs[0].offset≠n)=false:=bo (by simpa using hc)
    try simp only[go_sem]
    repeat'(first|((first|refine au.intro (by(apply oC<;>exact aP)) ?_|with_reducible refine kf ?_|refine ba xF (by kernel_rfl) (by rfl) ?_)<;>simp only[go_sem,I,aU,aq,aA.enc,ah,ai,Int.toNat_zero])|(with_reducible refine aw ?_)|fail)
    all_goals simp[hr,hc]
   ·have ai:decide (xs[0].offset≠n)=true:=bp hc
    try simp only[go_sem]
    repeat'(first|((first|refine au.intro (by(apply oC<;>exact aP)) ?_|with_reducible refine kf ?_|refine ba xF (by kernel_rfl) (by rfl) ?_)<;>simp only[go_sem,I,aU,aq,aA.enc,ah,ai,Int.toNat_zero])|(with_reducible refine aw ?_)|fail)
    all_goals simp[hr,hc]
set_option maxRecDepth 100000
def PV:List (List bH):=cP 10 [55772,55770,57991,57973,58765,58927,58360,56866,52488,39366]
def PW:List (List bH):=cP 6 [698,700,693,634,675,486]
attribute [go_sem] PV PW
def ml(n:Int)(xs:List aA)(most:Int):Nat:=min (jC n xs) most.toNat
def GN(xs:List aA):List UInt8:=(xs.getD 0 ⟨0,[]⟩).data
def AE(n:Int)(xs:List aA)(most:Int):List UInt8:=(GN xs).take (ml n xs most)
def ue(n:Int)(xs:List aA)(most:Int):List aA:=
 if ml n xs most=0 then xs else if ml n xs most=(GN xs).length then xs.drop 1 else⟨n+ml n xs most,(GN xs).drop (ml n xs most)⟩::xs.drop 1
theorem Kt{n:Int}{xs:List aA}(h:jC n xs≠0):iI ⟨n,xs⟩=true∧∃hl:0<xs.length,xs[0].offset=n∧jC n xs=xs[0].data.length∧GN xs=xs[0].data:=by
 unfold jC at h⊢;by_cases aU:iI ⟨n,xs⟩=true
 ·rw[if_pos aU]at h⊢
  cases xs with
  |nil=>exact absurd rfl h
  |cons c cs=>
   simp only[GL]at h⊢;by_cases hc:c.offset=n
   ·rw[if_pos hc];exact⟨aU,by simp,hc,rfl,rfl⟩
   ·rw[if_neg hc]at h;exact absurd rfl h
 ·rw[if_neg aU]at h;exact absurd rfl h
theorem Kv{n:Int}{xs:List aA}(h:iI ⟨n,xs⟩=true):0≤n∧n≤4611686018427387903∧chk n xs=true:=by
 simp only[iI,bP,bK,b2]at h;exact⟨h.1.1,h.1.2,h.2⟩
theorem XH{α β:Type}(f:α→β)(xs:List α)(y:β)(h:0<xs.length):(xs.map f).set 0 y=y::(xs.drop 1).map f:=by
 cases xs with
 |nil=>simp at h
 |cons x xs=>rfl
theorem XI(n:Int)(xs:List aA)(most:Int)(hb:∀c∈xs,c.data.length≤1048576)(hx:xs.length≤1048576):aJ 278 [.agg [.int .i64 n,.sl 2 (xs.map aA.enc)],.one (.int .i64 most)] [.one (.str (AE n xs most)),.agg [.int .i64 (n+ml n xs most),.sl 2 ((ue n xs most).map aA.enc)]]:=by
 refine aN 53 Tryz.func278 Tryz.call278 [.tmp 4,.cell 5 57] ?_;intro ok;have GO:xs.length≤1048577:=by omega
 cases hk:ml n xs most with
 |zero=>
  have hm:(if(if most<0 then 0 else most)<(jC n xs:Int)then(if most<0 then 0 else most)else(jC n xs:Int))=0:=by
   unfold ml at hk;split<;>split<;>omega
  try simp only[go_sem]
  repeat'(first|((first|refine ab.intro (by first|(apply DP<;>exact aP)|(apply y8<;>exact aP)) ?_|refine ba [[.post,.dv,.post],[.dv,.post,.post],[.pre,.pre,.post]] (by kernel_rfl) (by rfl) ?_)<;>simp only[go_sem,I,hm])|(with_reducible refine aw ?_)|fail)
  all_goals simp[AE,ue,hk]
 |succ k=>
  have hr:jC n xs≠0:=by unfold ml at hk;omega
  obtain⟨aU,hlt,av,nN,DR⟩:=Kt hr;obtain⟨B0,kg,hc⟩:=Kv aU;have hm:(if(if most<0 then 0 else most)<(jC n xs:Int)then(if most<0 then 0 else most)else(jC n xs:Int))=((k+1:Nat):Int):=by
   unfold ml at hk;split<;>split<;>omega
  have DS:decide (((k+1:Nat):Int)=0)=false:=bo (by omega);have aq:=b5 aA.enc xs 0 hlt;have jZ:=hb xs[0] (eR hlt);have ni:k+1≤xs[0].data.length:=by unfold ml at hk;omega
  have AB:=wj xs n hc xs[0] (eR hlt);have hw:IntKind.i64.wrap (n+((k+1:Nat):Int))=n+((k+1:Nat):Int):=by rw[bz]<;>omega
  have xG:xs[0].data.take (k+1)=AE n xs most:=by unfold AE;rw[DR,hk]
  by_cases hq:k+1=xs[0].data.length
  ·have ah:decide (((k+1:Nat):Int)=(xs[0].data.length:Int))=true:=bp (by omega);have dk:ue n xs most=xs.drop 1:=by unfold ue;rw[hk,DR,if_neg (by omega),if_pos hq]
   try simp only[go_sem]
   repeat'(first|(refine ab.intro (by first|(apply DP<;>exact aP)|(apply y8<;>exact aP)) ?_<;>simp only[go_sem,I,hm,DS,aq,aA.enc,Int.toNat_zero,hw,ah])|(with_reducible refine aw ?_)|fail)
   have aY:1+(xs.length-1)≤xs.length:=by omega
   have ht:List.take (xs.length-1) (List.drop 1 (List.map aA.enc xs))=(xs.drop 1).map aA.enc:=by
    rw[dH (by simp),List.map_drop]
   rw[if_pos aY,ht];refine ab.intro (y8 (n+((k+1:Nat):Int)) (xs.drop 1) (by simp;omega)) ?_
   try simp only[go_sem,I]
   repeat'(first|(with_reducible refine aw ?_)|fail)
   all_goals(
    have kD:AE n xs most=xs[0].data:=by rw[←xG,hq];exact d_
    rw[kD,dk])
  ·have ah:decide (((k+1:Nat):Int)=(xs[0].data.length:Int))=false:=bo (by omega);have dk:ue n xs most=⟨n+((k+1:Nat):Int),xs[0].data.drop (k+1)⟩::xs.drop 1:=by unfold ue;rw[hk,DR,if_neg (by omega),if_neg hq]
   try simp only[go_sem]
   repeat'(first|((first|refine ab.intro (by first|(apply DP<;>exact aP)|(apply y8<;>exact aP)) ?_|refine ba PV (by kernel_rfl) (by rfl) ?_|refine ba PW (by kernel_rfl) (by rfl) ?_)<;>simp only[go_sem,I,hm,DS,aq,aA.enc,Int.toNat_zero,aC,hw,ah])|(with_reducible refine aw ?_)|fail)
   all_goals(
    have XJ:List.take (xs[0].data.length-(k+1)) (List.drop (k+1) xs[0].data)=List.drop (k+1) xs[0].data:=dH (by simp);rw[XJ,XH aA.enc xs _ hlt];have mi:xs.length=(([D.int .i64 (n+((k+1:Nat):Int)),D.str (List.drop (k+1) xs[0].data)]:List D)::(xs.drop 1).map aA.enc).length:=by simp;omega
    rw[if_pos (Nat.le_of_eq mi),dH (Nat.le_of_eq mi.symm),Nat.sub_zero,xG,dk];simp[outOA,aA.enc])
set_option maxRecDepth 100000
def PS:List (List bH):=cP 25 [800217020030,842058433906,842058433900,842058433921,842058433855,842058433693,842058433207,845545993627,845545989253,845546004562,845545956448,845545838350,845545484056,847273463374,847270274728,847281434989,847246359883,847160266441,846901986115,846127145137,843801826135,836828256241,815907549835,753145430616,564859072962]
def Ku:List (List bH):=cP 9 [16439,16441,16434,16416,19399,19561,18994,17536,13122]
attribute [go_sem] PS Ku
theorem XD(xs:List aA)(i:Nat)(h:i<xs.length):kX (xs.take (i+1))=kX (xs.take i)++[⟨xs[i].offset,xs[i].offset+xs[i].data.length⟩]:=by
 unfold kX;rw[hj,b8 h,Option.toList_some,List.map_append];rfl
theorem GM(xs:List aA):(kX xs).length=xs.length:=by simp[kX]
theorem XE(n:Int)(xs:List aA)(hb:∀c∈xs,c.data.length≤1048576)(hx:xs.length≤1048576):aJ 341 [.agg [.int .i64 n,.sl 2 (xs.map aA.enc)]] [.one (.sl 2 ((B3 n xs).map aa.enc))]:=by
 refine aN 42 Tryz.func341 Tryz.call341 [.tmp 2] ?_;intro ok
 cases aU:iI ⟨n,xs⟩with
 |false=>
  try simp only[go_sem]
  refine b7.intro (fun _:Unit=>⟨(.ak::.ptr 0 0 0::.dw 2::.sl 1 0 0::.i 0::jn 37 []),[.box [.i n,.d (.sl 2 (xs.map aA.enc))],.ar 2 [] true]⟩)
   (fun _=>0) (fun _=>True) () [0,1] trivial ?_ ?_
  ·simp only[go_sem];simp
  ·rintro _ _;have PT:∀b:Bool,(bif b then false else false)=false:=fun b=>by cases b<;>rfl
   try simp only[go_sem,I]
   repeat'(first|((first|refine au.intro (by(apply oC<;>exact aP)) ?_|refine a7 ?_)<;>simp only[go_sem,aU,PT])|(with_reducible refine aw ?_)|fail)
   all_goals simp[B3,aU]
 |true=>
  obtain⟨B0,kg,y7⟩:=Kv aU;have aQ:B3 n xs=kX xs:=by unfold B3;rw[if_pos aU]
  try simp only[go_sem]
  refine b7.intro (fun i:Nat=>⟨(.ak::.ptr 0 0 0::.dw 2::.sl 1 0 (kX (xs.take i)).length::.i i::jn 37 []),[.box [.i n,.d (.sl 2 (xs.map aA.enc))],.ar 2 ((kX (xs.take i)).map aa.enc) true]⟩)
   (fun i=>xs.length-i) (fun i=>i≤xs.length) 0 [0,1] (by omega) ?_ ?_
  ·simp only[go_sem];simp[kX]
  ·intro i hi;have nN:(kX (xs.take i)).length≤1048576:=by rw[GM,List.length_take];omega
   by_cases hlt:i<xs.length
   ·have aq:=b5 aA.enc xs i hlt;have hw:=dK (i:=i) (m:=xs.length) hlt (by simp only[maxLen];omega);have AB:=wj _ _ y7 xs[i] (eR hlt);have jZ:=hb xs[i] (eR hlt);have wh:IntKind.i64.wrap (xs[i].offset+(xs[i].data.length:Int))=xs[i].offset+(xs[i].data.length:Int):=by rw[bz]<;>omega
    have hs:=XD xs i hlt;have ah:decide ((i:Int)<(xs.length:Int))=true:=bp (by omega)
    try simp only[go_sem,I,ah]
    repeat'(first|((first|refine ab.intro (by(apply oC<;>exact aP)) ?_|with_reducible refine du ?_|refine ba PS (by kernel_rfl) (by rfl) ?_)<;>simp only[go_sem,I,aC,aq,aA.enc,hw,wh,aU])|(with_reducible refine aw ?_)|fail)
    all_goals(refine bA.intro (i+1) [0,3] (by omega) (by omega) ?_;simp only[go_sem,hs];simp[aa.enc])
   ·have ah:decide ((i:Int)<(xs.length:Int))=false:=bo (by omega);have hM:i=xs.length:=by omega
    try simp only[go_sem,I,ah]
    repeat'(first|(with_reducible refine e5 ?_<;>simp only[go_sem,I])|(with_reducible refine aw ?_)|fail)
    all_goals(rw[hM,d_,aQ];try simp[outOA,dH])
theorem XF(xs ys:List aa):aJ 119 [.one (.sl 2 (xs.map aa.enc)),.one (.sl 2 (ys.map aa.enc))] [.one (.bool (decide (xs=ys)))]:=by
 refine aN 26 Tryz.func119 Tryz.call119 [.tmp 4] ?_;intro ok;have hm:=fr ok;by_cases hl:xs.length=ys.length
 ·have dR:decide ((xs.length:Int)≠(ys.length:Int))=false:=bo (by omega)
  try simp only[go_sem,I,dR]
  refine b7.intro (fun i:Nat=>⟨(.d (.sl 2 (xs.map aa.enc))::.d (.sl 2 (ys.map aa.enc))::.ak::.ak::.d (.bool false)::.i i::jn 20 []),[]⟩)
   (fun i=>xs.length-i) (fun i=>i≤xs.length∧xs.take i=ys.take i) 0 [] ⟨by omega,by simp⟩ ?_ ?_
  ·simp only[go_sem];simp
  ·rintro i ⟨hi,he⟩;simp only[go_sem,I];refine bt (fun h1=>?_) (fun h1=>?_)
   ·have ax:=cO h1;have hlt:i<xs.length:=by omega
    have PU:i<ys.length:=by omega
    have aq:=b5 aa.enc xs i hlt;have dz:=b5 aa.enc ys i PU;have hw:=dK hlt hm;by_cases hq:xs[i]=ys[i]
    ·have cW:xs.take (i+1)=ys.take (i+1):=by
      rw[hj,hj,he,b8 hlt,b8 PU,hq]
     try simp only[go_sem]
     repeat'(first|(refine ba Ku (by kernel_rfl) (by rfl) ?_<;>simp only[go_sem,I,aC,aq,dz,hq,aa.enc,hw])|(with_reducible refine aw ?_)|fail)
     all_goals(refine bA.intro (i+1) [] ⟨by omega,cW⟩ (by omega) ?_;simp only[go_sem])
    ·have XG:xs≠ys:=fun h=>hq (by simp only[h]);have hne:(!(decide (xs[i].low=ys[i].low)&&decide (xs[i].high=ys[i].high)))=true:=by
      have:¬(xs[i].low=ys[i].low∧xs[i].high=ys[i].high):=fun h=>hq (by
       have ah:=h.1;have ai:=h.2;generalize xs[i]=a at ah ai;generalize ys[i]=b at ah ai
       cases a;cases b;simp only at ah ai;rw[ah,ai])
      rw[←Bool.decide_and,bo this];rfl
     try simp only[go_sem]
     repeat'(first|(refine ba Ku (by kernel_rfl) (by rfl) ?_<;>simp only[go_sem,I,aC,aq,dz,aa.enc,hne])|(with_reducible refine aw ?_)|fail)
     all_goals simp[XG]
   ·have ax:=c9 h1;have hM:i=xs.length:=by omega
    rw[dH (by omega),dH (by omega)]at he;simp only[go_sem];simp[he]
 ·have dR:decide ((xs.length:Int)≠(ys.length:Int))=true:=bp (by omega);have hne:xs≠ys:=fun h=>hl (by rw[h])
  try simp only[go_sem,I,dR]
  all_goals simp[hne]
def o4(o:Int)(c:aA):Int:=if xC o c=true then((((c.data[(o-c.offset).toNat]?).getD 0).toNat:Nat):Int)else -1
theorem U3{o:Int}{c:aA}(h:o4 o c≠-1):0≤o∧0≤c.offset∧c.offset≤o∧o-c.offset<c.data.length:=by
 unfold o4 at h;by_cases g:xC o c=true
 ·exact(B1 _ _).1 g
 ·rw[if_neg g]at h;exact absurd rfl h
theorem I_{o:Int}{c:aA}(h:¬(0≤o∧0≤c.offset∧c.offset≤o∧o-c.offset<c.data.length)):o4 o c=-1:=by
 unfold o4;rw[if_neg (fun g=>h ((B1 _ _).1 g))]
theorem yP{o:Int}{c:aA}(h:0≤o∧0≤c.offset∧c.offset≤o∧o-c.offset<c.data.length):o4 o c=((((c.data[(o-c.offset).toNat]?).getD 0).toNat:Nat):Int):=by
 unfold o4;rw[if_pos ((B1 _ _).2 h)]
theorem uZ(o:Int)(c:aA):∀cs,byteAt (cs++[c]) o=if byteAt cs o=-1 then o4 o c else byteAt cs o
 |[]=>by simp[byteAt,o4]
 |d::cs=>by
  rw[bB,byteAt,byteAt];by_cases h:xC o d=true
  ·rw[if_pos h,if_pos h,if_neg (by omega)]
  ·rw[if_neg h,if_neg h];exact uZ o c cs
theorem N0(c:aA):∀(cs:List aA) (ca:Int),chk ca cs=true→(∀d∈cs,d.offset+(d.data.length:Int)<c.offset)→ca≤c.offset→c.data≠[]→c.offset≤4611686018427387903-(c.data.length:Int)→chk ca (cs++[c])=true
 |[],ca,_,_,h1,h2,aj=>by simp only[bx,chk,bP,b2,and_true];exact⟨⟨h2,h1⟩,aj⟩
 |d::cs,ca,h,hd,h1,h2,aj=>by
  obtain⟨k1,k2,ee,ix⟩:=DQ h;have:=hd d (by simp);simp only[bB,chk,bP,b2];exact⟨⟨⟨k1,k2⟩,ee⟩,N0 c cs _ ix (fun e he=>hd e (by simp[he])) (by omega) h2 aj⟩
theorem U4(l:aA)(x:List UInt8):∀(cs:List aA) (ca:Int),chk ca (cs++[l])=true→l.offset≤4611686018427387903-((l.data++x).length:Int)→chk ca (cs++[⟨l.offset,l.data++x⟩])=true
 |[],ca,h,h1=>by
  obtain⟨k1,k2,ee,ix⟩:=DQ h;simp only[bx,chk,bP,b2,and_true];exact⟨⟨by simp[k1],k2⟩,h1⟩
 |d::cs,ca,h,h1=>by
  obtain⟨k1,k2,ee,ix⟩:=DQ h;simp only[bB,chk,bP,b2];exact⟨⟨⟨k1,k2⟩,ee⟩,U4 l x cs _ ix h1⟩
def joinS(out:List aA)(c:aA):List aA:=
 match out.getLast? with
 |some l=>if l.offset+l.data.length=c.offset then out.dropLast++[⟨l.offset,l.data++c.data⟩]else out++[c]
 |none=>out++[c]
def o5(xs:List aA):List aA:=xs.foldl joinS []
theorem BB(xs:List aA)(c:aA):o5 (xs++[c])=joinS (o5 xs) c:=by
 unfold o5;rw[List.foldl_append];rfl
theorem U5{out:List aA}{l:aA}(h:out.getLast?=some l):out=out.dropLast++[l]:=by
 obtain⟨ys,e⟩:=List.getLast?_eq_some_iff.1 h;rw[e];simp
theorem I'(out:List aA)(c:aA):(joinS out c).length≤out.length+1:=by
 unfold joinS;split
 ·split<;>simp
 ·simp
structure N1(ca e:Int)(out:List aA)(f:Int→Int):Prop where
 FT:chk ca out=true
 pT:∀c∈out,c.offset+(c.data.length:Int)≤e
 De:∀o,byteAt out o=f o
theorem N1.step{ca e:Int}{out:List aA}{f:Int→Int}(h:N1 ca e out f)(c:aA)(h0:0≤ca)(hl:ca≤c.offset)(he:e≤c.offset)(hd:c.data≠[])(hm:c.offset≤4611686018427387903-(c.data.length:Int)) :
  N1 ca (c.offset+c.data.length) (joinS out c) (fun o=>if f o=-1 then o4 o c else f o):=by
 unfold joinS;split
 ·rename_i l iP;have hs:=U5 iP;have EH:l∈out:=List.mem_of_getLast? iP;have aY:=h.pT l EH;have Fk:=wj _ _ h.FT l EH;split
  ·rename_i aoE;have hb:∀o,byteAt (out.dropLast++[⟨l.offset,l.data++c.data⟩]) o=byteAt (out++[c]) o:=by
    intro o;rw[uZ,uZ]
    conv=>rhs;rw[hs]
    rw[uZ];by_cases g:byteAt out.dropLast o=-1
    ·simp only[if_pos g];by_cases cC:o4 o l=-1
     ·rw[if_pos cC];by_cases c8:o4 o c=-1
      ·rw[c8];refine I_ fun k=>?_;simp only[eG,Int.natCast_add]at k;by_cases fs:o-l.offset<l.data.length
       ·rw[yP (by omega)]at cC;omega
       ·rw[yP (by omega)]at c8;omega
      ·have k:=U3 c8;rw[yP k,yP (by simp only[eG,Int.natCast_add];omega)];simp only;rw[List.getElem?_append_right (by omega)];have:(o-l.offset).toNat-l.data.length=(o-c.offset).toNat:=by omega
       rw[this]
     ·rw[if_neg cC];have k:=U3 cC;rw[yP k,yP (by simp only[eG,Int.natCast_add];omega)];simp only;rw[List.getElem?_append_left (by omega)]
    ·simp only[if_neg g]
   refine⟨?_,?_,?_⟩
   ·refine U4 l c.data _ _ (hs▸h.FT) ?_;simp only[eG,Int.natCast_add];omega
   ·intro d me;rcases et.1 me with me|me
    ·have:=h.pT d (List.dropLast_subset _ me);omega
    ·rw[List.mem_singleton.1 me];simp only[eG,Int.natCast_add];omega
   ·intro o;rw[hb o,uZ,h.De o]
  ·rename_i hne;refine⟨N0 c out ca h.FT (fun d me=>?_) hl hd hm,?_,fun o=>by rw[uZ,h.De o]⟩
   ·have:=PO _ _ _ h.FT iP d me;omega
   ·intro d me;rcases et.1 me with me|me
    ·have:=h.pT d me;omega
    ·rw[List.mem_singleton.1 me];omega
 ·rename_i hn;have Ba:out=[]:=List.getLast?_eq_none_iff.1 hn;refine⟨N0 c out ca h.FT (fun d me=>by rw[Ba]at me;cases me) hl hd hm,?_,fun o=>by rw[uZ,h.De o]⟩;intro d me;rw[Ba]at me;rw[List.mem_singleton.1 me];omega
def asc(e:Int):Int→List aA→Bool
 |ca,[]=>decide (ca≤e)
 |ca,c::cs=>decide (c.data≠[])&&decide (ca≤c.offset)&&asc e (c.offset+c.data.length) cs
theorem U6{e ca:Int}{c:aA}{cs:List aA}(h:asc e ca (c::cs)=true):c.data≠[]∧ca≤c.offset∧asc e (c.offset+c.data.length) cs=true:=by
 simp only[asc,bP,b2]at h;exact⟨h.1.1,h.1.2,h.2⟩
theorem N2{e:Int}:∀{cs:List aA} {ca:Int},asc e ca cs=true→ca≤e
 |[],ca,h=>by simpa [asc]using h
 |c::cs,ca,h=>by obtain⟨h1,h2,aj⟩:=U6 h;have:=N2 aj;omega
def oZ(off:Int)(data:List UInt8)(o:Int):Int:=(((data[(o-off).toNat]?).getD 0).toNat:Nat)
def om(off:Int)(data:List UInt8)(low m:Int):aA:=⟨low,(data.drop (low-off).toNat).take ((m-off).toNat-(low-off).toNat)⟩
def Vk(off hi:Int)(data:List UInt8)(low kK:Int)(ps:List aA):List aA:=
 if low<(if hi<kK then hi else kK)then ps++[om off data low (if hi<kK then hi else kK)]else ps
def Ob(off hi:Int)(data:List UInt8)(s:Int×List aA)(c:aA):Int×List aA:=
 (if c.offset+(c.data.length:Int)>s.1 then c.offset+(c.data.length:Int)else s.1,Vk off hi data s.1 c.offset s.2++[c])
theorem Vl{off:Int}{data:List UInt8}{low m:Int}(h1:off≤low)(h2:low≤m)(aj:m≤off+data.length):((om off data low m).data.length:Int)=m-low:=by
 simp only[om,List.length_take,List.length_drop];omega
theorem ae2{off:Int}{data:List UInt8}{low m:Int}(h0:0≤off)(h1:off≤low)(h2:low≤m)(aj:m≤off+data.length)(o:Int):o4 o (om off data low m)=if low≤o∧o<m then oZ off data o else -1:=by
 have hl:=Vl h1 h2 aj;have av:(om off data low m).offset=low:=rfl;by_cases h:low≤o∧o<m
 ·rw[if_pos h,yP (by rw[hl,av];omega),av];unfold oZ
  show(((((data.drop (low-off).toNat).take ((m-off).toNat-(low-off).toNat))[(o-low).toNat]?).getD 0).toNat:Int)=_
  rw[List.getElem?_take,if_pos (by omega),List.getElem?_drop];rw[show(low-off).toNat+(o-low).toNat=(o-off).toNat from by omega]
 ·rw[if_neg h,I_ (by rw[hl,av];omega)]
theorem Jf{dR e:Int}(c:aA):∀(ps:List aA) (ca:Int),asc dR ca ps=true→dR≤c.offset→c.data≠[]→c.offset+(c.data.length:Int)≤e→asc e ca (ps++[c])=true
 |[],ca,h,h1,h2,aj=>by
  have:=N2 h;simp only[bx,asc,bP,b2];exact⟨⟨h2,by omega⟩,aj⟩
 |d::ps,ca,h,h1,h2,aj=>by
  obtain⟨k1,k2,ee⟩:=U6 h;simp only[bB,asc,bP,b2];exact⟨⟨k1,k2⟩,Jf c ps _ ee h1 h2 aj⟩
theorem Oc(out:List aA)(c:aA):∃l,(joinS out c).getLast?=some l∧l.offset+(l.data.length:Int)=c.offset+(c.data.length:Int):=by
 unfold joinS;split
 ·split
  ·rename_i l hl h;exact⟨⟨l.offset,l.data++c.data⟩,by simp,by simp only[eG,Int.natCast_add];omega⟩
  ·exact⟨c,by simp,rfl⟩
 ·exact⟨c,by simp,rfl⟩
theorem ae3{out:List aA}{c l:aA}(h:out.getLast?=some l)(h2:l.offset+(l.data.length:Int)=c.offset):(joinS out c).length=out.length:=by
 unfold joinS;rw[h];simp only[if_pos h2];have:=congrArg List.length (U5 h);simp only[eG,List.length_singleton]at this⊢;omega
structure FY(n off hi lW:Int)(data:List UInt8)(ys:List aA)(pT low:Int)(ps:List aA):Prop where
 yp:asc pT n ps=true
 MV:pT≤low
 Dk:low=lW∨lW<low∧low=pT
 De:∀o,byteAt ps o=if byteAt ys o=-1 then(if lW≤o∧o<low∧o<hi then oZ off data o else -1)else byteAt ys o
 Vm:((ps.length:Int)-ys.length) * 2≤low-lW∧((ps.length:Int)-ys.length) * 2≤hi+1-lW
 Vn:low=lW→(o5 ps).length≤ys.length
 Vo:(o5 ps).length≤ys.length+1
 ae4:lW<low→∃l,(o5 ps).getLast?=some l∧l.offset+(l.data.length:Int)=low
theorem FY.piece{n off hi lW:Int}{data:List UInt8}{ys:List aA}{pT low:Int}{ps:List aA}(h:FY n off hi lW data ys pT low ps)(h0:0≤off)(y4:off≤lW)(Vp:hi≤off+data.length){m:Int}(hm:low<m)(zd:m≤hi) :
  asc m n (ps++[om off data low m])=true∧(∀o,byteAt (ps++[om off data low m]) o=if byteAt ys o=-1 then(if lW≤o∧o<m then oZ off data o else -1)else byteAt ys o)∧
  (o5 (ps++[om off data low m])).length≤ys.length+1∧∃l,(o5 (ps++[om off data low m])).getLast?=some l∧l.offset+(l.data.length:Int)=m:=by
 have Od:lW≤low:=by rcases h.Dk with h|h<;>omega
 have gd:((om off data low m).data.length:Int)=m-low:=Vl (by omega) (by omega) (by omega);have Jg:(om off data low m).offset=low:=rfl;refine⟨Jf _ ps n h.yp (by rw[Jg];exact h.MV) (fun g=>by rw[g]at gd;simp at gd;omega) (by rw[gd,Jg];omega),fun o=>?_,?_,?_⟩
 ·rw[uZ,h.De o,ae2 h0 (by omega) (by omega) (by omega)];by_cases g:byteAt ys o=-1
  ·simp only[if_pos g];by_cases cC:lW≤o∧o<low∧o<hi
   ·have:oZ off data o≠-1:=by unfold oZ;omega
    rw[if_pos cC,if_neg this,if_pos ⟨cC.1,by omega⟩]
   ·rw[if_neg cC,if_pos rfl];by_cases c8:low≤o∧o<m
    ·rw[if_pos c8,if_pos (by omega)]
    ·rw[if_neg c8,if_neg (by omega)]
  ·simp only[if_neg g]
 ·rw[BB];rcases h.Dk with hq|hq
  ·have:=h.Vn hq;have:=I' (o5 ps) (om off data low m);omega
  ·obtain⟨l,ah,ai⟩:=h.ae4 hq.1;rw[ae3 ah (by rw[ai,Jg])];exact h.Vo
 ·obtain⟨l,ah,ai⟩:=Oc (o5 ps) (om off data low m);exact⟨l,by rw[BB];exact ah,by rw[ai,gd,Jg];omega⟩
theorem FY.step{n off hi lW:Int}{data:List UInt8}{ys:List aA}{pT low:Int}{ps:List aA}(h:FY n off hi lW data ys pT low ps)(h0:0≤off)(y4:off≤lW)(Vp:hi≤off+data.length)(hn:0≤n)
  (c:aA) (hc:pT≤c.offset) (hd:c.data≠[]) :
  FY n off hi lW data (ys++[c]) (c.offset+c.data.length) (Ob off hi data (low,ps) c).1 (Ob off hi data (low,ps) c).2:=by
 have Od:lW≤low:=by rcases h.Dk with h|h<;>omega
 have jZ:0<c.data.length:=List.length_pos_iff.2 hd;have hne:n≤pT:=N2 h.yp;unfold Ob Vk;simp only;generalize hm:(if hi<c.offset then hi else c.offset)=m;have ae5:m≤hi∧m≤c.offset∧(m=hi∨m=c.offset):=by rw[←hm];split<;>omega
 have ae6:(if c.offset+(c.data.length:Int)>low then c.offset+(c.data.length:Int)else low)=max low (c.offset+c.data.length):=by split<;>omega
 rw[ae6];by_cases hp:low<m
 ·rw[if_pos hp];obtain⟨dp,da,gk,l,iy,nX⟩:=h.piece h0 y4 Vp hp ae5.1;have H3:(ps++[om off data low m]).length=ps.length+1:=by simp
  generalize ps++[om off data low m]=cj at dp da gk iy H3⊢;have Mz:max low (c.offset+c.data.length)=c.offset+c.data.length:=by omega
  rw[Mz];refine⟨Jf c cj n dp (by omega) hd (Int.le_refl _),by omega,.inr ⟨by omega,rfl⟩,fun o=>?_,?_,fun g=>by omega,?_,fun _=>?_⟩
  ·rw[uZ,uZ,da o];by_cases g:byteAt ys o=-1
   ·simp only[if_pos g];by_cases cC:lW≤o∧o<m
    ·have b4:oZ off data o≠-1:=by unfold oZ;omega
     rw[if_pos cC,if_neg b4,I_ (by omega),if_pos rfl,if_pos (by omega)]
    ·rw[if_neg cC,if_pos rfl];by_cases c8:o4 o c=-1
     ·rw[if_pos c8,c8,if_neg];intro fs;rw[yP (by omega)]at c8;omega
     ·rw[if_neg c8]
   ·simp only[if_neg g]
  ·have:=h.Vm;simp only[eG,List.length_singleton,H3];omega
  ·rw[BB];have:=I' (o5 cj) c;simp only[eG,List.length_singleton];omega
  ·rw[BB];exact Oc _ _
 ·rw[if_neg hp];refine⟨Jf c ps n h.yp hc hd (Int.le_refl _),by omega,?_,fun o=>?_,?_,fun g=>?_,?_,fun g=>?_⟩
  ·by_cases g:low<c.offset+c.data.length
   ·right;omega
   ·left;rcases h.Dk with c8|c8<;>omega
  ·rw[uZ,uZ,h.De o];by_cases g:byteAt ys o=-1
   ·simp only[if_pos g];by_cases cC:lW≤o∧o<low∧o<hi
    ·have b4:oZ off data o≠-1:=by unfold oZ;omega
     rw[if_pos cC,if_neg b4,I_ (by rcases h.Dk with c8|c8<;>omega),if_pos rfl,if_pos (by omega)]
    ·rw[if_neg cC,if_pos rfl];by_cases c8:o4 o c=-1
     ·rw[if_pos c8,c8,if_neg];intro fs;rw[yP (by omega)]at c8;omega
     ·rw[if_neg c8]
   ·simp only[if_neg g]
  ·have:=h.Vm;simp only[eG,List.length_singleton];omega
  ·rw[BB];have:=I' (o5 ps) c;have:=h.Vn (by omega);simp only[eG,List.length_singleton];omega
  ·rw[BB];have:=I' (o5 ps) c;have:=h.Vo;simp only[eG,List.length_singleton];omega
  ·rw[BB];obtain⟨l,ah,ai⟩:=Oc (o5 ps) c;exact⟨l,ah,by rcases h.Dk with c8|c8<;>omega⟩
set_option maxRecDepth 100000
def Nz:List (List bH):=cP 13 [1564802,1564800,1592104,1592122,1592059,1591897,1591411,1593229,1587766,1574644,1535274,1417176,1062882]
attribute [go_sem] Nz
def oE(n off:Int):Int:=if n>off then n else off
def n3(xs:List aA)(off:Int)(data:List UInt8)(o:Int):Int:=if byteAt xs o<0 then oZ off data o else byteAt xs o
def nM(xs:List aA)(off:Int)(data:List UInt8)(ca:Int)(k:Nat):List UInt8:=(List.range k).map fun j=>uV (n3 xs off data (ca+(j:Nat)))
def uW(xs:List aA)(off:Int)(data:List UInt8)(r:aa):aA:=⟨r.low,nM xs off data r.low (r.high-r.low).toNat⟩
def xd(n:Int)(xs:List aA)(off:Int)(data:List UInt8):List aa:=gv (kX xs) ⟨oE n off,off+data.length⟩
def B4(n:Int)(xs:List aA)(off:Int)(data:List UInt8):Bool:=iI ⟨n,xs⟩&&decide (data≠[])&&decide (oE n off<off+data.length)
def nj(n:Int)(xs:List aA)(off:Int)(data:List UInt8):List aA:=
 if B4 n xs off data=true then(xd n xs off data).map (uW xs off data)else xs
theorem Ut(xs:List aA)(off:Int)(data:List UInt8)(ca:Int)(k:Nat):nM xs off data ca (k+1)=nM xs off data ca k++[uV (n3 xs off data (ca+(k:Nat)))]:=by
 simp[nM,List.range_succ]
theorem Kr(xs:List aA)(off:Int)(data:List UInt8)(ca:Int)(k:Nat):(nM xs off data ca k).length=k:=by simp[nM]
def Uu(rs:List aa)(q y:aa):Prop:=∀a,y.low≤a→a<y.high→(∃x∈rs,x.low≤a∧a<x.high)∨(q.low≤a∧a<q.high)
def y6(E:Int)(y:aa):Prop:=0≤y.low∧y.low≤E∧y.high≤E
theorem Uv(Q:aa→Prop)(rs:List aa)(q:aa)(hq:Q q)(hx:∀x∈rs,Q x)(hm:∀a b:aa,Q a→Q b→¬b.high<a.low→¬a.high<b.low→Q ⟨dG a.low b.low,eb a.high b.high⟩) :
  ∀i,(∀y∈(gw rs q i).1,Q y)∧Q (gw rs q i).2.2
 |0=>⟨(fun y hy=>by cases hy),hq⟩
 |i+1=>by
  obtain⟨h1,h2⟩:=Uv Q rs q hq hx hm i;rw[gw];split
  ·rename_i x he;have NA:=hx x (List.mem_of_getElem? he);unfold ku;split
   ·refine⟨fun y hy=>?_,h2⟩;rcases et.1 hy with hy|hy
    ·exact h1 y hy
    ·rw[List.mem_singleton.1 hy];exact NA
   ·rename_i cC;split
    ·refine⟨fun y hy=>?_,h2⟩;rcases et.1 hy with hy|hy
     ·split at hy
      ·exact h1 y hy
      ·rcases et.1 hy with hy|hy
       ·exact h1 y hy
       ·rw[List.mem_singleton.1 hy];exact h2
     ·rw[List.mem_singleton.1 hy];exact NA
    ·rename_i c8;exact⟨h1,hm _ _ h2 NA cC c8⟩
  ·exact⟨h1,h2⟩
theorem NB(Q:aa→Prop)(rs:List aa)(q:aa)(hq:Q q)(hx:∀x∈rs,Q x)(hm:∀a b:aa,Q a→Q b→¬b.high<a.low→¬a.high<b.low→Q ⟨dG a.low b.low,eb a.high b.high⟩):∀y∈gv rs q,Q y:=by
 obtain⟨h1,h2⟩:=Uv Q rs q hq hx hm rs.length;unfold gv;split
 ·split
  ·exact h1
  ·intro y hy;rcases et.1 hy with hy|hy
   ·exact h1 y hy
   ·rw[List.mem_singleton.1 hy];exact h2
 ·exact hx
theorem adQ(rs:List aa)(q:aa):∀y∈gv rs q,Uu rs q y:=by
 refine NB _ rs q (fun a h1 h2=>.inr ⟨h1,h2⟩) (fun x hx a h1 h2=>.inl ⟨x,hx,h1,h2⟩) fun a b ha hb cC c8 c h1 h2=>?_;simp only[dG,eb]at h1 h2;by_cases k:a.low≤c∧c<a.high
 ·exact ha c k.1 k.2
 ·refine hb c ?_ ?_<;>(split at h1<;>split at h2<;>omega)
theorem Kq(E:Int)(rs:List aa)(q:aa)(hq:y6 E q)(hx:∀x∈rs,y6 E x):∀y∈gv rs q,y6 E y:=by
 refine NB _ rs q hq hx fun a b ha hb cC c8=>?_;simp only[y6,dG,eb]at *;refine⟨?_,?_,?_⟩<;>split<;>omega
theorem NC(o:Int):∀(cs:List aA),(∀c∈cs,0≤c.offset)→∀x∈kX cs,x.low≤o→o<x.high→0≤byteAt cs o
 |[],_,x,hx,_,_=>by cases hx
 |c::cs,h0,x,hx,h1,h2=>by
  rw[byteAt];by_cases g:xC o c=true
  ·rw[if_pos g];omega
  ·rw[if_neg g];rcases List.mem_cons.1 hx with rfl|hx
   ·exact absurd ((B1 _ _).2 ⟨by have:=h0 c (by simp);simp only at h1;omega,h0 c (by simp),h1,by simp only at h2;omega⟩) g
   ·exact NC o cs (fun d hd=>h0 d (by simp[hd])) x hx h1 h2
theorem Uw(o:Int):∀(cs:List aA),byteAt cs o<256
 |[]=>by simp[byteAt]
 |c::cs=>by
  rw[byteAt];split
  ·have:=((c.data[(o-c.offset).toNat]?).getD 0).toNat_lt;omega
  ·exact Uw o cs
theorem IW(xs:List aA)(off:Int)(data:List UInt8)(o:Int):0≤n3 xs off data o∧n3 xs off data o≤255:=by
 unfold n3;have:=Uw o xs;split
 ·unfold oZ;have:=((data[(o-off).toNat]?).getD 0).toNat_lt;omega
 ·omega
theorem adR(n:Int)(xs:List aA)(off:Int)(data:List UInt8)(hb:∀c∈xs,c.data.length≤1048576)(hx:xs.length≤1048575)(ag:∀c∈xs,c.offset≤1000∧c.offset+(c.data.length:Int)≤1000)(hd:data.length≤8)(av:0≤off)(gf:off+(data.length:Int)≤1000):aJ 327 [.agg [.int .i64 n,.sl 2 (xs.map aA.enc)],.one (.int .i64 off),.one (.str data)] [.agg [.int .i64 n,.sl 2 ((nj n xs off data).map aA.enc)]]:=by
 refine aN 105 Tryz.func327 Tryz.call327 [.cell 6 57] ?_;intro ok;have GO:xs.length≤1048576:=by omega
 have zC:xs.length≤1048577:=by omega
 have ai:decide (off<0)=false:=bo (by omega);have hw:IntKind.i64.wrap (4611686018427387903-(data.length:Int))=4611686018427387903-(data.length:Int):=by rw[bz]<;>omega
 have aX:decide (4611686018427387903-(data.length:Int)<off)=false:=bo (by omega);have mT:IntKind.i64.wrap (off+(data.length:Int))=off+(data.length:Int):=by rw[bz]<;>omega
 cases aU:iI ⟨n,xs⟩with
 |false=>
  have dk:nj n xs off data=xs:=by unfold nj B4;rw[aU];rfl
  try simp only[go_sem]
  repeat'(first|((first|refine ab.intro (by first|(apply oC<;>exact aP)|(apply y8<;>exact aP)) ?_|with_reducible refine e5 ?_)<;>simp only[go_sem,I,aU])|(with_reducible refine aw ?_)|fail)
  all_goals(rw[dk];try simp)
 |true=>
 obtain⟨B0,kg,y7⟩:=Kv aU;by_cases Bh:data=[]
 ·have ah:decide (data=[])=true:=bp Bh;have dk:nj n xs off data=xs:=by unfold nj B4;simp[Bh]
  try simp only[go_sem]
  repeat'(first|((first|refine ab.intro (by first|(apply oC<;>exact aP)|(apply y8<;>exact aP)) ?_|with_reducible refine du ?_|with_reducible refine e5 ?_)<;>simp only[go_sem,I,aU,ah])|(with_reducible refine aw ?_)|fail)
  all_goals(rw[dk];try simp)
 ·have ah:decide (data=[])=false:=bo Bh;obtain⟨low,h4⟩:∃low,(if n>off then n else off)=low:=⟨_,rfl⟩;have y4:off≤low∧0≤low:=by rw[←h4];split<;>omega
  by_cases aY:off+(data.length:Int)≤low
  ·have br:decide (off+(data.length:Int)≤low)=true:=bp aY;have dk:nj n xs off data=xs:=by unfold nj B4 oE;rw[h4,bo (show ¬low<off+(data.length:Int)by omega)];simp
   try simp only[go_sem]
   repeat'(first|((first|refine ab.intro (by first|(apply oC<;>exact aP)|(apply y8<;>exact aP)) ?_|with_reducible refine du ?_)<;>simp only[go_sem,I,aU,ah,ai,hw,aX,mT,h4,br])|(with_reducible refine aw ?_)|fail)
   all_goals(rw[dk];try simp)
  ·have br:decide (off+(data.length:Int)≤low)=false:=bo aY;have dk:nj n xs off data=(xd n xs off data).map (uW xs off data):=by
    unfold nj B4 oE;rw[h4,aU,bp Bh,bp (show low<off+(data.length:Int)by omega)];rfl
   have Nr:(xd n xs off data).length≤1048576:=by
    have:=Ks (kX xs) ⟨oE n off,off+data.length⟩;rw[GM]at this;unfold xd;omega
   have ND:∀y∈xd n xs off data,Uu (kX xs) ⟨low,off+data.length⟩ y:=by
    unfold xd oE;rw[h4];exact adQ _ _
   have NF:∀y∈xd n xs off data,y6 1000 y:=by
    refine Kq 1000 _ _ ⟨by unfold oE;rw[h4];exact y4.2,by unfold oE;rw[h4];show low≤1000;omega,gf⟩ fun x hx=>?_;obtain⟨c,hc,rfl⟩:=List.mem_map.1 hx;have:=wj _ _ y7 c hc;have:=ag c hc;exact⟨by show 0≤c.offset;omega,this.1,this.2⟩
   have Ux:gv (kX xs) ⟨low,off+(data.length:Int)⟩=xd n xs off data:=by unfold xd oE;rw[h4]
   have Uy:B3 n xs=kX xs:=by unfold B3;rw[if_pos aU]
   have nN:(kX xs).length≤1048576:=by rw[GM];omega
   try simp only[go_sem]
   repeat'((first|refine ab.intro (by first|(apply oC<;>exact aP)|(apply XE<;>exact aP)|(apply uX<;>exact aP)) ?_|with_reducible refine du ?_)<;>simp only[go_sem,I,aU,ah,ai,hw,aX,mT,h4,br,Uy,Ux])
   generalize xd n xs off data=R at dk Nr ND NF;refine b7.intro (fun i:Nat=>match i with
     |0=>⟨(.agg [.i n,.d (.sl 2 (xs.map aA.enc))]::.i off::.d (.str data)::.ptr 0 0 0::.ak::.ak::.ptr 1 0 0::.i low::.i (off+(data.length:Int))::.ptr 2 0 0::.sl 3 0 R.length::.i 0::jn 93 []),[.box [.i n,.d (.sl 2 (xs.map aA.enc))],.box [.i 0,.dw 2],.box [.i n,.dw 2],.ar 2 (R.map aa.enc) true]⟩
     |i+1=>⟨(.agg [.i n,.d (.sl 2 (xs.map aA.enc))]::.i off::.d (.str data)::.ptr 0 0 0::.ak::.ak::.ptr 1 0 0::.i low::.i (off+(data.length:Int))::.ptr 2 0 0::.sl 3 0 R.length::.i ((i+1:Nat):Int)::jn 93 []),[.box [.i n,.d (.sl 2 (xs.map aA.enc))],.box [.i 0,.dw 2],.box [.i n,.sl 4 0 (i+1)],.ar 2 (R.map aa.enc) true,.ar 2 (((R.take (i+1)).map (uW xs off data)).map aA.enc) true]⟩)
    (fun i=>R.length-i) (fun i=>i≤R.length) 0 [0,1,2,4] (by omega) ?_ ?_
   ·simp only[go_sem];simp
   ·intro i hi
    cases i with
    |zero=>
     simp only[go_sem];refine bt (fun h1=>?_) (fun h1=>?_)
     ·have ax:=cO h1;have hlt:0<R.length:=by omega
      have yM:=b5 aa.enc R 0 hlt;have NG:=NF R[0] (eR hlt);have NH:=ND R[0] (eR hlt);have FI:=dK (i:=0) (m:=R.length) hlt (by simp only[maxLen];omega);obtain⟨mJ,NI⟩:∃mJ,(R[0].high-R[0].low).toNat=mJ:=⟨_,rfl⟩;have hin:=NG;simp only[y6]at hin;simp only[go_sem,I,Int.toNat_zero,yM,aa.enc]
      repeat(with_reducible refine And.intro (by omega) ?_)
      try simp only[go_sem]
      refine b7.intro (fun k:Nat=>⟨(.agg [.i n,.d (.sl 2 (xs.map aA.enc))]::.i off::.d (.str data)::.ptr 0 0 0::.ak::.ak::.ptr 1 0 0::.i low::.i (off+(data.length:Int))::.ptr 2 0 0::.sl 3 0 R.length::.i 0::.d (.str (nM xs off data R[0].low k))::.i (R[0].low+(k:Nat))::jn 91 []),[.box [.i n,.d (.sl 2 (xs.map aA.enc))],.box [.i 0,.dw 2],.box [.i n,.dw 2],.ar 2 (R.map aa.enc) true]⟩)
       (fun k=>mJ-k) (fun k=>k≤mJ) 0 [0,1,2,3] (by omega) ?_ ?_
      ·simp only[go_sem];simp[nM]
      ·intro k hk;simp only[go_sem,I,Int.toNat_zero,yM,aa.enc]
       repeat(with_reducible refine And.intro (by omega) ?_)
       try simp only[go_sem]
       have ph:=Kr xs off data R[0].low k;refine bt (fun aj=>?_) (fun aj=>?_)
       ·have C1:=cO aj;have FJ:=Ut xs off data R[0].low k;have nL:IntKind.i64.wrap (R[0].low+(k:Int)+1)=R[0].low+((k+1:Nat):Int):=by rw[bz]<;>omega
        simp only[go_sem];refine ab.intro (PN n xs (R[0].low+(k:Int)) hb GO) ?_;simp only[go_sem];refine bt (fun aE=>?_) (fun aE=>?_)
        ·have ju:=cO aE;have IX:low≤R[0].low+(k:Int)∧R[0].low+(k:Int)<off+(data.length:Int):=by
          rcases NH (R[0].low+(k:Int)) (by omega) (by omega)with ⟨x,NJ,cC,c8⟩|g
          ·have:=NC (R[0].low+(k:Int)) xs (fun c hc=>by have:=wj _ _ y7 c hc;omega) x NJ cC c8;omega
          ·exact g
         have Em:IntKind.i64.wrap (R[0].low+(k:Int)-off)=(((R[0].low+(k:Int)-off).toNat:Nat):Int):=by rw[bz]<;>omega
         have yA:(R[0].low+(k:Int)-off).toNat<data.length:=by omega
         have FK:data[(R[0].low+(k:Int)-off).toNat]?=some data[(R[0].low+(k:Int)-off).toNat]:=b8 yA;have hv:((data[(R[0].low+(k:Int)-off).toNat].toNat:Nat):Int)=n3 xs off data (R[0].low+(k:Int)):=by unfold n3 oZ;rw[if_pos ju,FK];rfl
         have B2:IntKind.i64.wrap ((data[(R[0].low+(k:Int)-off).toNat].toNat:Nat):Int)=n3 xs off data (R[0].low+(k:Int)):=by
          have:=data[(R[0].low+(k:Int)-off).toNat].toNat_lt;rw[←hv,bz]<;>omega
         try simp only[go_sem,Em,FK,B2,aC,Option.getD_some]
         repeat'(first|(with_reducible refine aw ?_)|fail)
         refine ab.intro (FL _ (IW xs off data _)) ?_
         try simp only[go_sem,nL,ph]
         repeat'(first|(with_reducible refine aw ?_)|fail)
         all_goals(
          try(with_reducible refine And.intro (by simp only[maxLen];omega) ?_)
          refine bA.intro (k+1) [0,1,2,3] (by omega) (by omega) ?_;simp only[go_sem,FJ]
          try simp)
        ·have ju:=c9 aE;have hv:byteAt xs (R[0].low+(k:Int))=n3 xs off data (R[0].low+(k:Int)):=by unfold n3;rw[if_neg ju]
         simp only[go_sem,hv];refine ab.intro (FL _ (IW xs off data _)) ?_
         try simp only[go_sem,nL,ph]
         repeat'(first|(with_reducible refine aw ?_)|fail)
         all_goals(
          try(with_reducible refine And.intro (by simp only[maxLen];omega) ?_)
          refine bA.intro (k+1) [0,1,2,3] (by omega) (by omega) ?_;simp only[go_sem,FJ]
          try simp)
       ·have C1:=c9 aj;have Da:k=mJ:=by omega
        have Fl:uW xs off data R[0]=⟨R[0].low,nM xs off data R[0].low k⟩:=by unfold uW;rw[NI,Da]
        have cW:((R.take (0+1)).map (uW xs off data)).map aA.enc=((R.take 0).map (uW xs off data)).map aA.enc++[[.int .i64 R[0].low,.str (nM xs off data R[0].low k)]]:=by
         rw[hj,b8 hlt,Option.toList_some,List.map_append,List.map_append,List.map_singleton,List.map_singleton,Fl];rfl
        try simp only[go_sem]
        repeat'(first|(refine ba Nz (by kernel_rfl) (by rfl) ?_<;>simp only[go_sem,I,Int.toNat_zero,yM,aa.enc])|(with_reducible refine aw ?_)|fail)
        all_goals(
         refine bA.intro (0+1) [0,1,2,3,5] (by omega) (by omega) ?_;simp only[go_sem,cW];simp
         try first|decide|omega)
     ·have ax:=c9 h1
      try simp only[go_sem]
      all_goals(have IY:R=[]:=List.length_eq_zero_iff.1 (by omega);rw[dk,IY];try simp)
    |succ i=>
     simp only[go_sem];refine bt (fun h1=>?_) (fun h1=>?_)
     ·have ax:=cO h1;have hlt:i+1<R.length:=by omega
      have yM:=b5 aa.enc R (i+1) hlt;have NG:=NF R[i+1] (eR hlt);have NH:=ND R[i+1] (eR hlt);have FI:=dK (i:=(i+1)) (m:=R.length) hlt (by simp only[maxLen];omega);obtain⟨mJ,NI⟩:∃mJ,(R[i+1].high-R[i+1].low).toNat=mJ:=⟨_,rfl⟩;have hin:=NG;simp only[y6]at hin;simp only[go_sem,I,aC,yM,aa.enc]
      repeat(with_reducible refine And.intro (by omega) ?_)
      try simp only[go_sem]
      refine b7.intro (fun k:Nat=>⟨(.agg [.i n,.d (.sl 2 (xs.map aA.enc))]::.i off::.d (.str data)::.ptr 0 0 0::.ak::.ak::.ptr 1 0 0::.i low::.i (off+(data.length:Int))::.ptr 2 0 0::.sl 3 0 R.length::.i ((i+1:Nat):Int)::.d (.str (nM xs off data R[i+1].low k))::.i (R[i+1].low+(k:Nat))::jn 91 []),[.box [.i n,.d (.sl 2 (xs.map aA.enc))],.box [.i 0,.dw 2],.box [.i n,.sl 4 0 (i+1)],.ar 2 (R.map aa.enc) true,.ar 2 (((R.take (i+1)).map (uW xs off data)).map aA.enc) true]⟩)
       (fun k=>mJ-k) (fun k=>k≤mJ) 0 [0,1,2,3,4] (by omega) ?_ ?_
      ·simp only[go_sem];simp[nM]
      ·intro k hk;simp only[go_sem,I,aC,yM,aa.enc]
       repeat(with_reducible refine And.intro (by omega) ?_)
       try simp only[go_sem]
       have ph:=Kr xs off data R[i+1].low k;refine bt (fun aj=>?_) (fun aj=>?_)
       ·have C1:=cO aj;have FJ:=Ut xs off data R[i+1].low k;have nL:IntKind.i64.wrap (R[i+1].low+(k:Int)+1)=R[i+1].low+((k+1:Nat):Int):=by rw[bz]<;>omega
        simp only[go_sem];refine ab.intro (PN n xs (R[i+1].low+(k:Int)) hb GO) ?_;simp only[go_sem];refine bt (fun aE=>?_) (fun aE=>?_)
        ·have ju:=cO aE;have IX:low≤R[i+1].low+(k:Int)∧R[i+1].low+(k:Int)<off+(data.length:Int):=by
          rcases NH (R[i+1].low+(k:Int)) (by omega) (by omega)with ⟨x,NJ,cC,c8⟩|g
          ·have:=NC (R[i+1].low+(k:Int)) xs (fun c hc=>by have:=wj _ _ y7 c hc;omega) x NJ cC c8;omega
          ·exact g
         have Em:IntKind.i64.wrap (R[i+1].low+(k:Int)-off)=(((R[i+1].low+(k:Int)-off).toNat:Nat):Int):=by rw[bz]<;>omega
         have yA:(R[i+1].low+(k:Int)-off).toNat<data.length:=by omega
         have FK:data[(R[i+1].low+(k:Int)-off).toNat]?=some data[(R[i+1].low+(k:Int)-off).toNat]:=b8 yA;have hv:((data[(R[i+1].low+(k:Int)-off).toNat].toNat:Nat):Int)=n3 xs off data (R[i+1].low+(k:Int)):=by unfold n3 oZ;rw[if_pos ju,FK];rfl
         have B2:IntKind.i64.wrap ((data[(R[i+1].low+(k:Int)-off).toNat].toNat:Nat):Int)=n3 xs off data (R[i+1].low+(k:Int)):=by
          have:=data[(R[i+1].low+(k:Int)-off).toNat].toNat_lt;rw[←hv,bz]<;>omega
         try simp only[go_sem,Em,FK,B2,aC,Option.getD_some]
         repeat'(first|(with_reducible refine aw ?_)|fail)
         refine ab.intro (FL _ (IW xs off data _)) ?_
         try simp only[go_sem,nL,ph]
         repeat'(first|(with_reducible refine aw ?_)|fail)
         all_goals(
          try(with_reducible refine And.intro (by simp only[maxLen];omega) ?_)
          refine bA.intro (k+1) [0,1,2,3,4] (by omega) (by omega) ?_;simp only[go_sem,FJ]
          try simp)
        ·have ju:=c9 aE;have hv:byteAt xs (R[i+1].low+(k:Int))=n3 xs off data (R[i+1].low+(k:Int)):=by unfold n3;rw[if_neg ju]
         simp only[go_sem,hv];refine ab.intro (FL _ (IW xs off data _)) ?_
         try simp only[go_sem,nL,ph]
         repeat'(first|(with_reducible refine aw ?_)|fail)
         all_goals(
          try(with_reducible refine And.intro (by simp only[maxLen];omega) ?_)
          refine bA.intro (k+1) [0,1,2,3,4] (by omega) (by omega) ?_;simp only[go_sem,FJ]
          try simp)
       ·have C1:=c9 aj;have Da:k=mJ:=by omega
        have Fl:uW xs off data R[i+1]=⟨R[i+1].low,nM xs off data R[i+1].low k⟩:=by unfold uW;rw[NI,Da]
        have cW:((R.take ((i+1)+1)).map (uW xs off data)).map aA.enc=((R.take (i+1)).map (uW xs off data)).map aA.enc++[[.int .i64 R[i+1].low,.str (nM xs off data R[i+1].low k)]]:=by
         rw[hj,b8 hlt,Option.toList_some,List.map_append,List.map_append,List.map_singleton,List.map_singleton,Fl];rfl
        try simp only[go_sem,I,FI]
        repeat'(first|(refine ba Nz (by kernel_rfl) (by rfl) ?_<;>simp only[go_sem,I,aC,yM,aa.enc,FI])|(with_reducible refine aw ?_)|fail)
        all_goals(
         refine bA.intro (i+1+1) [0,1,2,3,6] (by omega) (by omega) ?_;simp only[go_sem,cW];simp
         try first|decide|omega)
     ·have ax:=c9 h1
      try simp only[go_sem]
      all_goals(have IY:R.length=i+1:=(by omega);rw[dH (Nat.le_of_eq IY),dk];try simp[outOA,IY,dH])
set_option maxRecDepth 100000
def O7:List (List bH):=cP 54 [58149737003040059690380331,58149737003040059690380329,58149737003040059690380363,58149737003040059690380345,58149737003040059690380651,58149737003040059690380489,58149737003040059690389804,58149737003040059690388346,58149737003040059690383972,58149737003040059690370486,58149737003040059690331120,58149737003040059628034425,58149737003040059627680131,58149737003040059626617249,58149737003040059687910111,58149737003040059678344173,58149737003040059649646359,58149737003040059561250006,58149737003040059302969680,58149737003040058528128702,58149737003039930679367332,58149737003039923705798530,58149737003040042256468164,58149737003039979494348946,58149737003039777260853688,58149737003039212401780726,58149737003037517824561840,58149737003032434092905182,58149737002193618369556612,58149737002147864784646690,58149737002925675728115364,58149737002513893463926066,58149737001187039501538328,58149736997480999123834646,58149736986362877990723600,58149736953008514591390462,58149736852945424393391048,58149736552756153799392806,58149735652188342017398080,58149732950484906671413902,58149724845374600633461368,58149372273076287982526139,58149299327083533640953333,58149554638058173836458154,58148752232137876079157288,58146782690333508856691526,58140874064920407189294240,57165950871758632068742050,57112773243040717062166476,58016792931245272173951234,57538194272784037114771068,55996043039964501924079422,51688655113813386391457928,38766491335360039793593446]
attribute [go_sem] O7
def Gt(s:aO):Int:=
 if s.a2=3∧s.ring.base=s.ring.cv then 3
 else if(s.a2=2∨s.a2=3)∨(s.a2=1∧s.state=2)then 2
 else if 0<s.sent∨(s.a2=1∧s.state=1)then 1 else 0
theorem WR(a5 bh bj bd:Int)(aZ:List Int)(aF aB aG:List aa)(bf a8 a1 bk:Int):aJ 193 [.agg [.int .i64 a5,.int .i64 bh,.int .i64 bj,.int .i64 bd,.sl 1 (aZ.map aW),.sl 2 (aF.map aa.enc),.sl 2 (aB.map aa.enc),.sl 2 (aG.map aa.enc),.int .i64 bf,.int .i64 a8,.int .i64 a1,.int .i64 bk]] [.one (.int .i64 (Gt (⟨a5,⟨bh,bj,bd,aZ⟩,aF,aB,aG,bf,a8,a1,bk⟩:aO)))]:=by
 refine aN 49 Tryz.func193 Tryz.call193 [.tmp 2] ?_;intro _
 try simp only[go_sem]
 repeat'((first|refine a7 ?_|refine bt (fun h=>?_) (fun h=>?_))<;>simp only[go_sem])
 all_goals(simp at *;simp only[Gt];repeat' split)
 all_goals first|rfl|(exfalso;grind)
def v5(xs:List aa)(p:Int):Bool:=match xs.getLast? with|some r=>decide (p<r.high)|none=>false
theorem O8(xs:List aa)(p:Int):aJ 192 [.one (.sl 2 (xs.map aa.enc)),.one (.int .i64 p)] [.one (.bool (v5 xs p))]:=by
 refine aN 19 Tryz.func192 Tryz.call192 [.tmp 4] ?_;intro ok;have hm:=fr ok;by_cases h:xs.length=0
 ·have ah:decide ((0:Int)<(xs.length:Int))=false:=bo (by omega)
  try simp only[go_sem,I,ah]
  repeat'(first|(with_reducible refine e5 ?_<;>simp only[go_sem]))
  all_goals simp[v5,List.length_eq_zero_iff.1 h]
 ·have ah:decide ((0:Int)<(xs.length:Int))=true:=bp (by omega);have hl:xs.length-1<xs.length:=by omega
  have aq:=b5 aa.enc xs (xs.length-1) hl;have gh:IntKind.i64.wrap ((xs.length:Int)-1)=((xs.length-1:Nat):Int):=by simp only[maxLen]at hm;rw[bz]<;>omega
  have O9:xs.getLast?=some xs[xs.length-1]:=by rw[List.getLast?_eq_getElem?,b8 hl]
  try simp only[go_sem,I,ah]
  repeat'(first|(with_reducible refine du ?_<;>simp only[go_sem,I,gh,aq,aa.enc,aC])|(with_reducible refine aw ?_)|fail)
  all_goals simp[v5,O9]
def BV(a b c:List aa)(e:Int):Bool:=
 decide (IntKind.i64.wrap (IntKind.i64.wrap (iC a+iC b)+iC c)=e)&&decide (iC (eL a (b++c))=e)&&!v5 (eL a (b++c)) e
theorem WS(a b c:List aa)(e:Int)(hc:a.length+b.length+c.length≤524288):aJ 190 [.one (.sl 2 (a.map aa.enc)),.one (.sl 2 (b.map aa.enc)),.one (.sl 2 (c.map aa.enc)),.one (.int .i64 e)] [.one (.bool (BV a b c e))]:=by
 refine aN 47 Tryz.func190 Tryz.call190 [.tmp 8] ?_;intro ok
 cases ah:decide (IntKind.i64.wrap (IntKind.i64.wrap (iC a+iC b)+iC c)≠e)with
 |true=>
  have gr:=cO ah
  try simp only[go_sem]
  repeat'(refine ab.intro (by apply OQ) ?_<;>simp only[go_sem,ah])
  all_goals simp[BV,gr]
 |false=>
  have gr:IntKind.i64.wrap (IntKind.i64.wrap (iC a+iC b)+iC c)=e:=by have:=c9 ah;omega
  try simp only[go_sem]
  repeat'(first|(refine ab.intro (by first|apply OQ|(apply KN<;>exact aP)) ?_<;>simp only[go_sem,I,ah])|(with_reducible refine aw ?_)|fail)
  refine b7.intro (fun i:Nat=>⟨(jn 3 (.i e::jn 4 (.d (.bool false)::.sl 0 0 (eL a ((b++c).take i)).length::jn 17 (.sl 1 0 (b++c).length::.d (.int .i64 (b++c).length)::.i i::jn 17 [])))),[.ar 2 ((eL a ((b++c).take i)).map aa.enc) true,.ar 2 ((b++c).map aa.enc) true]⟩)
   (fun i=>(b++c).length-i) (fun i=>i≤(b++c).length) 0 [0,2] (by omega) ?_ ?_
  ·simp only[go_sem];simp[eL]
  ·intro i hi;generalize zQ:b++c=l at *;have hl:l.length=b.length+c.length:=by rw[←zQ];simp
   have h4:=pc (l.take i) a;have cR:(l.take i).length=i:=by simp;omega
   by_cases h1:i<l.length
   ·have ax:decide ((i:Int)<(l.length:Int))=true:=bp (by omega);have aq:=b5 aa.enc l i h1;have hw:=dK (i:=i) (m:=524288) (by omega) (by simp[maxLen]);have cW:=Aj a l i h1;generalize hq:eL a (l.take i)=jx at *
    try simp only[go_sem,I,aC,aq,aa.enc,ax]
    repeat'(first|(refine ab.intro (by(apply agi<;>exact aP)) ?_<;>simp only[go_sem,I])|(with_reducible refine aw ?_)|fail)
    refine bA.intro (i+1) [3,1] (by omega) (by omega) ?_;simp only[go_sem,hw,cW];simp
   ·have ax:decide ((i:Int)<(l.length:Int))=false:=bo (by omega);obtain rfl:i=l.length:=by omega
    try simp only[go_sem,I,ax,d_]
    repeat'((first|refine ab.intro (by apply OQ) ?_|refine au.intro (by apply O8) ?_|refine a7 ?_)<;>simp only[go_sem,I])
    all_goals(refine eo ?_;simp[BV,zQ,gr])
def Dx(s:aO):Int:=if s.a2=0 then -1 else s.ring.cv
def JF(s:aO):Bool:=BV s.pending s.flight s.cG s.ring.cv&&decide (o2 s.cG 0=s.ring.base)&&!v5 s.flight s.sent&&!v5 s.cG s.sent&&decide (s.code=0)&&decide (s.bn=Dx s)&&decide (s.state=Gt s)
def Al(s:aO):Bool:=jV s&&(if mg s then JE s else JF s)
theorem agY(a5 bh bj bd:Int)(aZ:List Int)(aF aB aG:List aa)(bf a8 a1 bk:Int)(hc:aF.length+aB.length+aG.length≤524288):aJ 139 [.agg [.int .i64 a5,.int .i64 bh,.int .i64 bj,.int .i64 bd,.sl 1 (aZ.map aW),.sl 2 (aF.map aa.enc),.sl 2 (aB.map aa.enc),.sl 2 (aG.map aa.enc),.int .i64 bf,.int .i64 a8,.int .i64 a1,.int .i64 bk]] [.one (.bool (Al (⟨a5,⟨bh,bj,bd,aZ⟩,aF,aB,aG,bf,a8,a1,bk⟩:aO)))]:=by
 refine aN 161 Tryz.func139 Tryz.call139 [.tmp 2] ?_;intro ok;refine xp fun K1 JB=>?_;simp only[go_sem];refine JB _ (xp fun K2 JC=>?_)
 try simp only[go_sem]
 repeat'((first|refine ab.intro (by apply agw) ?_|refine au.intro (by first|apply F4|apply il|apply uc) ?_|refine a7 ?_)<;>simp only[go_sem])
 refine bt (fun h0=>?_) (fun h0=>?_)
 ·simp only[go_sem];have:jV (⟨a5,⟨bh,bj,bd,aZ⟩,aF,aB,aG,bf,a8,a1,bk⟩:aO)=false:=by
   rw[Bool.eq_false_iff];intro g;simp[jV]at h0 g;simp_all
  simp[Al,this]
 ·have dF:jV (⟨a5,⟨bh,bj,bd,aZ⟩,aF,aB,aG,bf,a8,a1,bk⟩:aO)=true:=by
   simp[jV]at h0⊢;simp_all
  simp only[go_sem];refine JC _ (xp fun agX JD=>?_)
  try simp only[go_sem]
  repeat'(refine a7 ?_<;>simp only[go_sem])
  refine bt (fun aQ=>?_) (fun aQ=>?_)
  ·have eK:mg (⟨a5,⟨bh,bj,bd,aZ⟩,aF,aB,aG,bf,a8,a1,bk⟩:aO)=true:=by simpa [mg,c0]using aQ
   simp only[go_sem,I]
   try simp only[go_sem,I]
   repeat'(refine a7 ?_<;>simp only[go_sem,I])
   all_goals(refine eo ?_;simp[Al,dF,eK,JE];grind)
  ·have eK:mg (⟨a5,⟨bh,bj,bd,aZ⟩,aF,aB,aG,bf,a8,a1,bk⟩:aO)=false:=by simpa [mg,c0]using aQ
   simp only[go_sem];refine JD _ ?_
   cases ah:decide (a8=0)with
   |true=>
    have gr:=cO ah;clear JB JC JD
    try simp only[go_sem,ah]
    repeat'((first|refine au.intro (by first|(apply WS<;>exact aP)|apply Wt|apply O8|apply WR) ?_|refine e8 ?_|refine ba O7 (by kernel_rfl) (by rfl) ?_)<;>simp only[go_sem])
    all_goals(subst gr;refine eo ?_;simp[Al,dF,eK,JF,Dx,and_assoc])
   |false=>
    have gr:¬a8=0:=c9 ah
    try simp only[go_sem,ah]
    repeat'((first|refine au.intro (by first|(apply WS<;>exact aP)|apply Wt|apply O8|apply WR) ?_|refine e8 ?_|refine ba O7 (by kernel_rfl) (by rfl) ?_)<;>simp only[go_sem])
    all_goals(refine eo ?_;simp[Al,dF,eK,JF,Dx,gr,and_assoc])
def AM(s:aO):Prop:=∀r,r∈s.pending∨r∈s.flight∨r∈s.cG→r.high≤s.ring.cv
theorem O_{xs:List aa}{p:Int}(h:cX xs=true):below xs p=!v5 xs p:=by
 have hs:=(kx xs).1 h;rw[Bool.eq_iff_iff];unfold below v5
 cases hl:xs.getLast? with
 |none=>rw[List.getLast?_eq_none_iff.1 hl];simp
 |some r=>
  have hr:=List.mem_of_getLast? hl;simp only[List.all_eq_true,b2,Bool.not_eq_true',dN,Int.not_lt];constructor
  ·intro g;exact g r hr
  ·intro g x hx;obtain⟨i,hi,rfl⟩:=List.getElem_of_mem hx;have O9:xs.getLast?=some (xs[xs.length-1]'(by omega)):=by rw[List.getLast?_eq_getElem?,b8 (by omega)]
   have AA:xs[xs.length-1]'(by omega)=r:=aI (O9.symm.trans hl);by_cases he:i=xs.length-1
   ·subst he;rw[AA];exact g
   ·have h1:=(List.pairwise_iff_getElem.1 hs.2) i (xs.length-1) hi (by omega) (by omega);have h2:=(hU _).1 (hs.1 _ hr);rw[AA]at h1;omega
theorem O'{E:Int}:∀(ys xs:List aa),cX xs=true→(∀y∈ys,dj y=true)→(∀x∈xs,x.high≤E)→(∀y∈ys,y.high≤E)→∀z∈eL xs ys,z.high≤E
 |[],xs,_,_,hx,_,z,hz=>hx z hz
 |y::ys,xs,h,hy,hx,hh,z,hz=>by
  have h1:=NL h (hy y (by simp));refine O' ys (gv xs y) h1 (fun w hw=>hy w (by simp[hw])) ?_ (fun w hw=>hh w (by simp[hw])) z hz;have:=Kq E xs y ?_ ?_
  ·intro w hw;exact(this w hw).2.2
  ·have g:=(hU _).1 (hy y (by simp));have:=hh y (by simp);exact⟨by omega,by omega,by omega⟩
  ·intro w hw;have g:=(hU _).1 (((kx xs).1 h).1 w hw);have:=hx w hw;exact⟨by omega,by omega,by omega⟩
theorem agZ{s:aO}(hn:AM s):fl s=Al s:=by
 unfold fl Al
 cases dF:jV s with
 |false=>rfl
 |true=>
  simp only[Bool.true_and]
  cases aQ:mg s with
  |true=>rfl
  |false=>
   simp only[Bool.false_eq_true,if_false];have hh:=dF;simp only[jV,bP,and_assoc]at hh;obtain⟨h1,h2,aj,aE,b3,e2,j4⟩:=hh;have hg:=vV h1;have hf:=(kx s.flight).1 aj;have ha:=(kx s.cG).1 aE;have WT:=Gg s.flight s.pending h2 hf.1;have OU:=Gg s.cG _ WT.1 ha.1;have LS:eL s.pending (s.flight++s.cG)=nF s:=by unfold nF eL;rw[List.foldl_append]
   have Bw:=O' (E:=s.ring.cv) s.flight s.pending h2 hf.1 (fun x hx=>hn x (.inl hx)) (fun x hx=>hn x (.inr (.inl hx)));have hM:=O' (E:=s.ring.cv) s.cG _ WT.1 ha.1 Bw (fun x hx=>hn x (.inr (.inr hx)));have ag:v5 (nF s) s.ring.cv=false:=by
    have fY:=O_ (p:=s.ring.cv) OU.1;have wo:below (nF s) s.ring.cv=true:=by
     unfold below;rw[List.all_eq_true];intro x hx;exact bp (hM x hx)
    unfold nF at wo⊢;rw[wo]at fY;simpa using fY.symm
   have ag0:Gt s=BI s:=by
    simp only[bK,bP,b2]at j4;unfold Gt BI;by_cases cM:s.a2=3∧s.ring.base=s.ring.cv
    ·rw[if_pos cM,if_pos cM]
    ·rw[if_neg cM,if_neg cM];have:((s.a2=2∨s.a2=3)∨(s.a2=1∧s.state=2))↔(1<s.a2∨(s.a2=1∧s.state=2)):=by omega
     simp only[this]
   have ag1:Ab s=decide (s.bn=Dx s):=by
    have:=hg.2.2.2.1;have:=hg.2.2.2.2.1;unfold Ab Dx;by_cases cM:s.a2=0<;>by_cases dI:s.bn=-1<;>simp[cM,dI]<;>omega
   have ag2:mP s=(BV s.pending s.flight s.cG s.ring.cv&&decide (o2 s.cG 0=s.ring.base)&&decide (s.code=0)):=by
    unfold mP BV yQ;rw[LS,ag];have ag3:iC (nF s)=s.ring.cv→0<s.ring.cv→jU (nF s)=s.ring.cv:=agC OU.1 hM;rw[Bool.eq_iff_iff];simp only[bP,b2,Bool.not_eq_true',Bool.and_eq_false_iff,dN,cc,and_true];constructor
    ·rintro⟨⟨⟨⟨a,b⟩,c⟩,d⟩,e⟩;exact⟨⟨⟨b,a⟩,d⟩,e⟩
    ·rintro⟨⟨⟨b,a⟩,d⟩,e⟩;refine⟨⟨⟨⟨a,b⟩,?_⟩,d⟩,e⟩;by_cases c:0<s.ring.cv
     ·right;intro g;exact g (ag3 a c)
     ·left;exact c
   unfold JF;rw[ag2,ag1,ag0,O_ aj,O_ aE]
   cases BV s.pending s.flight s.cG s.ring.cv<;>cases decide (o2 s.cG 0=s.ring.base)<;>cases decide (s.code=0)<;>cases v5 s.flight s.sent<;>cases v5 s.cG s.sent<;>cases decide (s.bn=Dx s)<;>simp
def ud(c:aA):Prop:=0≤c.offset∧c.offset≤1000∧c.offset+(c.data.length:Int)≤1000
theorem PQ{n:Int}{xs:List aA}{off:Int}{data:List UInt8}(h:∀c∈xs,ud c)(av:0≤off)(gf:off+(data.length:Int)≤1000):∀c∈nj n xs off data,ud c:=by
 unfold nj;split
 ·rename_i hk;intro c hc;obtain⟨r,hr,rfl⟩:=List.mem_map.1 hc;simp only[B4,bP,b2]at hk;have y4:0≤oE n off:=by unfold oE;split<;>omega
  have hin:=Kq 1000 (kX xs) ⟨oE n off,off+data.length⟩ ⟨y4,by show oE n off≤1000;omega,gf⟩ (fun x hx=>by
   obtain⟨d,hd,rfl⟩:=List.mem_map.1 hx;exact h d hd) r hr
  simp only[y6]at hin;refine⟨hin.1,hin.2.1,?_⟩
  show r.low+((nM xs off data r.low (r.high-r.low).toNat).length:Int)≤1000
  rw[Kr];omega
 ·exact h
theorem PR(n:Int)(xs:List aA)(off:Int)(data:List UInt8):(nj n xs off data).length≤xs.length+1:=by
 unfold nj;split
 ·rw[I];have:=Ks (kX xs) ⟨oE n off,off+data.length⟩;rw[GM]at this;exact this
 ·omega
theorem XB{n:Int}{xs:List aA}{most:Int}(h:∀c∈xs,ud c):∀c∈ue n xs most,ud c:=by
 unfold ue;split
 ·exact h
 ·rename_i h1;split
  ·exact fun c hc=>h c (List.mem_of_mem_drop hc)
  ·rename_i h2;have hr:jC n xs≠0:=by unfold ml at h1;omega
   obtain⟨_,hlt,av,nN,DR⟩:=Kt hr;have hk:ml n xs most≤xs[0].data.length:=by unfold ml;omega
   have hx:=h xs[0] (eR hlt);intro c hc;rcases List.mem_cons.1 hc with rfl|hc
   ·simp only[ud]at hx⊢;rw[DR,List.length_drop];omega
   ·exact h c (List.mem_of_mem_drop hc)
theorem XC(n:Int)(xs:List aA)(most:Int):(ue n xs most).length≤xs.length:=by
 unfold ue;split
 ·omega
 ·rename_i h1;have hr:jC n xs≠0:=by unfold ml at h1;omega
  obtain⟨_,hlt,_⟩:=Kt hr;split
  ·simp
  ·simp;omega
set_option maxRecDepth 100000
def OK:List (List bH):=cP 46 [8862938119652501095928,8862938119652501095926,8862938119652501095920,8862938119652501095902,8862938119652501095848,8862938119652501095686,8862938119652501095200,8862938119652501093742,8862938119652501089368,8862938119652501076246,8862938119652501036880,8862938119652481786906,8862938119652481432612,8862938119652480369730,8862938119652498615871,8862938119652489049933,8862938119652458049208,8862938119652371955766,8862938119652113675440,8862938119651338834462,8862938119649014311528,8862938119642040742726,8862938119621120036320,8862938119558357917102,8862938119370071559448,8862938118805212486486,8862938117110635267600,8862938112026903610942,8862938096775708640968,8862935580328538595258,8862935443067783865492,8862937776500614271514,8862936541153821703620,8862932560591934540406,8862921442470801429360,8862888088107402096222,8862788025017204096808,8862487835746610098566,8861587267934828103840,8858885564499482119662,8850780454193444167128,8826465123275330309526,8753519130520988736720,8534681152257964018302,7878167217468889863048,5908625413101667397286]
def V4:List (List bH):=cP 16 [43046720,43046718,43046712,43046694,42309621,42309459,42308973,42336999,42332625,42319503,42279084,42958107,42603813,41452398,38263752,28697814]
attribute [go_sem] OK V4
def yR(r:bL):Bool:=iI r.buffer&&bN r.fO&&!decide (r.fO<oD r.buffer)&&bN r.code&&!(decide (r.bn≠-1)&&decide (r.bn<r.fO))&&!decide (4611686018427387903<r.bn)&&!decide (r.bn < -1)
def Dr(r:bL):Bool:=decide (r.bn≠-1)&&decide (IntKind.i64.wrap (r.buffer.next+(jC r.buffer.next r.buffer.bO:Int))=r.bn)
def Ds(r:bL):Bool:=
 if r.state=0 then decide (r.bn=-1)&&decide (r.code=0)
 else if r.state=1 then decide (r.bn≠-1)&&!Dr r&&decide (r.code=0)
 else if r.state=2 then Dr r&&decide (r.code=0)
 else if r.state=3 then Dr r&&decide ((r.buffer.bO.length:Int)=0)&&decide (r.code=0)
 else if r.state=4∨r.state=5 then decide (r.bn≠-1)&&decide (r.fO=r.bn)&&decide ((r.buffer.bO.length:Int)=0)
 else false
def i_(r:bL):Bool:=yR r&&Ds r
theorem agj(r:bL):(bif bif bif bif bif bif !iI r.buffer then true else !bN r.fO then true else decide (r.fO<oD r.buffer)then true else !bN r.code then true else bif decide (r.bn≠-1)then decide (r.bn<r.fO)else false then true else decide (4611686018427387903<r.bn)then true else decide (r.bn < -1))=!yR r:=by
 unfold yR
 cases iI r.buffer<;>cases bN r.fO<;>cases decide (r.fO<oD r.buffer)<;>cases bN r.code<;>cases decide (r.bn≠-1)<;>cases decide (r.bn<r.fO)<;>cases decide (4611686018427387903<r.bn)<;>cases decide (r.bn < -1)<;>rfl
theorem xn(c3 cU:Int)(cn:List aA)(dn df dg:Int)(hb:∀c∈cn,c.data.length≤1048576)(hx:cn.length≤1048576):aJ 146 [.agg [.int .i64 c3,.int .i64 cU,.sl 2 (cn.map aA.enc),.int .i64 dn,.int .i64 df,.int .i64 dg]] [.one (.bool (i_ (⟨c3,⟨cU,cn⟩,dn,df,dg⟩:bL)))]:=by
 refine aN 134 Tryz.func146 Tryz.call146 [.tmp 2] ?_;intro _;have ag:=agj (⟨c3,⟨cU,cn⟩,dn,df,dg⟩:bL)
 cases dF:yR (⟨c3,⟨cU,cn⟩,dn,df,dg⟩:bL)with
 |false=>
  rw[dF]at ag
  try simp only[go_sem]
  repeat'((first|refine au.intro (by first|(apply oC<;>exact aP)|apply h9|(apply PM<;>exact aP)) ?_|refine e8 ?_|refine ba OK (by kernel_rfl) (by rfl) ?_)<;>simp only[go_sem])
  rw[ag];simp only[go_sem,cc];simp[i_,dF]
 |true=>
  rw[dF]at ag
  try simp only[go_sem]
  repeat'((first|refine au.intro (by first|(apply oC<;>exact aP)|apply h9|(apply PM<;>exact aP)) ?_|refine e8 ?_|refine ba OK (by kernel_rfl) (by rfl) ?_)<;>simp only[go_sem])
  rw[ag];simp only[go_sem,bS]
  try simp only[go_sem,I]
  repeat'((first|refine au.intro (by(apply DP<;>exact aP)) ?_|refine a7 ?_|refine e8 ?_|refine ba V4 (by kernel_rfl) (by rfl) ?_|refine bt (fun h=>?_) (fun h=>?_))<;>simp only[go_sem,I])
  all_goals(rw[show i_ (⟨c3,⟨cU,cn⟩,dn,df,dg⟩:bL)=Ds (⟨c3,⟨cU,cn⟩,dn,df,dg⟩:bL)from by unfold i_;rw[dF];rfl];clear dF ag;simp only[b2,dN]at *;first|(exfalso;omega)|(simp[Ds,Dr, *]))
def oI:bL:=⟨0,⟨0,[]⟩,-1,0,0⟩
theorem agk :aJ 135 [] [.agg (bL.enc (oI))]:=by
 refine aN 2 Tryz.func135 Tryz.call135 [.cell 0 59] ?_;intro _
 try simp only[go_sem]
 all_goals simp[oI]
def g6(r:bL)(e:Int):Int:=if i_ r&&bN e then eb 0 (IntKind.i64.wrap (e-r.fO))else 0
theorem TY(c3 cU:Int)(cn:List aA)(dn df dg e:Int)(hb:∀c∈cn,c.data.length≤1048576)(hx:cn.length≤1048576):aJ 328 [.agg [.int .i64 c3,.int .i64 cU,.sl 2 (cn.map aA.enc),.int .i64 dn,.int .i64 df,.int .i64 dg],.one (.int .i64 e)] [.one (.int .i64 (g6 (⟨c3,⟨cU,cn⟩,dn,df,dg⟩:bL) e))]:=by
 refine aN 18 Tryz.func328 Tryz.call328 [.tmp 4] ?_;intro _
 try simp only[go_sem]
 repeat'((first|refine ab.intro (by(apply xn<;>exact aP)) ?_|refine au.intro (by apply h9) ?_|refine a7 ?_|refine bt (fun h=>?_) (fun h=>?_))<;>simp only[go_sem])
 all_goals(cases h1:i_ (⟨c3,⟨cU,cn⟩,dn,df,dg⟩:bL)<;>cases h2:bN e<;>simp_all [g6,eb])
def OL(r:bL):Bool:=i_ r&&(decide (r.state=3)||decide (r.state=5))
theorem agl(c3 cU:Int)(cn:List aA)(dn df dg:Int)(hb:∀c∈cn,c.data.length≤1048576)(hx:cn.length≤1048576):aJ 344 [.agg [.int .i64 c3,.int .i64 cU,.sl 2 (cn.map aA.enc),.int .i64 dn,.int .i64 df,.int .i64 dg]] [.one (.bool (OL (⟨c3,⟨cU,cn⟩,dn,df,dg⟩:bL)))]:=by
 refine aN 15 Tryz.func344 Tryz.call344 [.tmp 2] ?_;intro _
 try simp only[go_sem]
 repeat'((first|refine ab.intro (by(apply xn<;>exact aP)) ?_|refine a7 ?_)<;>simp only[go_sem])
 all_goals(refine eo ?_;simp[OL])
def xo(r:bL)(e:Int)(f:Bool):Int:=
 if((decide (r.bn≠-1)&&(decide (r.bn<e)||(f&&decide (e≠r.bn))))||(f&&decide (e<r.fO)))=true then 6 else 0
theorem V5(c3 cU:Int)(cn:List aA)(dn df dg e:Int)(f:Bool)(_:cn.length≤1048576):aJ 326 [.agg [.int .i64 c3,.int .i64 cU,.sl 2 (cn.map aA.enc),.int .i64 dn,.int .i64 df,.int .i64 dg],.one (.int .i64 e),.one (.bool f)] [.one (.int .i64 (xo (⟨c3,⟨cU,cn⟩,dn,df,dg⟩:bL) e f))]:=by
 refine aN 34 Tryz.func326 Tryz.call326 [.tmp 6] ?_;intro _
 try simp only[go_sem]
 repeat'((first|refine a7 ?_|refine bt (fun h=>?_) (fun h=>?_))<;>simp only[go_sem])
 ·simp only[cw,c0]at h;unfold xo;rw[if_pos h]
 ·simp only[cw,c0]at h;unfold xo;rw[if_neg (by rw[h];simp)]
set_option maxRecDepth 100000
def Dt(r:bL)(m:Int):Int:=if r.state=2∧r.buffer.next+(ml r.buffer.next r.buffer.bO m:Int)=r.bn then 3 else r.state
def xa(r:bL)(m:Int):bL:=
 if i_ r then(if r.state=4 then {r with state:=5}else {r with state:=Dt r m,buffer:=⟨r.buffer.next+(ml r.buffer.next r.buffer.bO m:Int),ue r.buffer.next r.buffer.bO m⟩})else r
def vS(r:bL)(m:Int):List UInt8:=if i_ r&&!decide (r.state=4)then AE r.buffer.next r.buffer.bO m else []
theorem ac4(c3 cU:Int)(cn:List aA)(dn df dg m:Int)(hb:∀c∈cn,c.data.length≤1048576)(hx:cn.length≤1048576):aJ 234 [.agg [.int .i64 c3,.int .i64 cU,.sl 2 (cn.map aA.enc),.int .i64 dn,.int .i64 df,.int .i64 dg],.one (.int .i64 m)] [.one (.str (vS (⟨c3,⟨cU,cn⟩,dn,df,dg⟩:bL) m)),.agg (bL.enc (xa (⟨c3,⟨cU,cn⟩,dn,df,dg⟩:bL) m))]:=by
 refine aN 42 Tryz.func234 Tryz.call234 [.tmp 4,.cell 5 59] ?_;intro _;have Nm:=XI cU cn m hb hx
 cases aU:i_ (⟨c3,⟨cU,cn⟩,dn,df,dg⟩:bL)with
 |false=>
  try simp only[go_sem]
  repeat'(first|((first|refine ab.intro (by first|assumption|(apply zg<;>exact aP)|(apply xn<;>exact aP)) ?_|refine au.intro (by assumption) ?_|refine ba [[.post,.dv,.post],[.dv,.post,.post],[.pre,.pre,.post]] (by kernel_rfl) (by rfl) ?_)<;>simp only[go_sem,I,aU])|(with_reducible refine aw ?_)|fail)
  all_goals simp[xa,vS,aU]
 |true=>
  by_cases aE:c3=4
  ·have ah:decide (c3=4)=true:=bp aE;have aQ:xa (⟨c3,⟨cU,cn⟩,dn,df,dg⟩:bL) m={(⟨c3,⟨cU,cn⟩,dn,df,dg⟩:bL)with state:=5}:=by unfold xa;rw[if_pos aU];exact if_pos aE
   have aT:vS (⟨c3,⟨cU,cn⟩,dn,df,dg⟩:bL) m=[]:=by unfold vS;rw[aU];simp[aE]
   try simp only[go_sem]
   repeat'(first|((first|refine ab.intro (by first|assumption|(apply zg<;>exact aP)|(apply xn<;>exact aP)) ?_|refine au.intro (by assumption) ?_|refine ba [[.post,.dv,.post],[.dv,.post,.post],[.pre,.pre,.post]] (by kernel_rfl) (by rfl) ?_)<;>simp only[go_sem,I,aU,ah])|(with_reducible refine aw ?_)|fail)
   all_goals(rw[aQ,aT];try simp[outOA,gx])
  ·have ah:decide (c3=4)=false:=bo aE;have aQ:xa (⟨c3,⟨cU,cn⟩,dn,df,dg⟩:bL) m={(⟨c3,⟨cU,cn⟩,dn,df,dg⟩:bL)with state:=Dt (⟨c3,⟨cU,cn⟩,dn,df,dg⟩:bL) m,buffer:=⟨cU+(ml cU cn m:Int),ue cU cn m⟩}:=by unfold xa;rw[if_pos aU];exact if_neg aE
   have aT:vS (⟨c3,⟨cU,cn⟩,dn,df,dg⟩:bL) m=AE cU cn m:=by unfold vS;rw[aU];simp[aE]
   try simp only[go_sem]
   repeat'(first|((first|refine ab.intro (by first|assumption|(apply zg<;>exact aP)|(apply xn<;>exact aP)) ?_|refine au.intro (by assumption) ?_|refine a7 ?_|refine ba [[.post,.dv,.post,.post],[.dv,.post,.dv,.post],[.pre,.dv,.post,.post],[.pre,.pre,.pre,.post]] (by kernel_rfl) (by rfl) ?_|refine bt (fun h=>?_) (fun h=>?_))<;>simp only[go_sem,I,aU,ah])|(with_reducible refine aw ?_)|fail)
   ·simp only[cw,bP,b2]at h;have hq:Dt (⟨c3,⟨cU,cn⟩,dn,df,dg⟩:bL) m=3:=by unfold Dt;exact if_pos h
    rw[aQ,aT,hq]
    try simp[outOA,gx]
   ·have hq:Dt (⟨c3,⟨cU,cn⟩,dn,df,dg⟩:bL) m=c3:=by
     unfold Dt;refine if_neg fun g=>?_;rw[bp g.1,bp g.2]at h;cases h
    rw[aQ,aT,hq]
    try simp[outOA,gx]
def F7(r:bL)(c f:Int):Bool:=i_ r&&bN c&&bN f
def xc(r:bL)(c f:Int):Int:=if F7 r c f then xo r f true else 7
def BP(r:bL)(c f:Int):Bool:=F7 r c f&&!(decide (xo r f true≠0)||decide (1<r.state))
def vT(r:bL)(c f:Int):bL:=if BP r c f then⟨4,⟨r.buffer.next,[]⟩,f,f,c⟩else r
theorem ac5(c3 cU:Int)(cn:List aA)(dn df dg c f:Int)(hb:∀c∈cn,c.data.length≤1048576)(hx:cn.length≤1048576):aJ 299 [.agg [.int .i64 c3,.int .i64 cU,.sl 2 (cn.map aA.enc),.int .i64 dn,.int .i64 df,.int .i64 dg],.one (.int .i64 c),.one (.int .i64 f)] [.agg (bL.enc (vT (⟨c3,⟨cU,cn⟩,dn,df,dg⟩:bL) c f)),.one (.int .i64 (xc (⟨c3,⟨cU,cn⟩,dn,df,dg⟩:bL) c f))]:=by
 refine aN 46 Tryz.func299 Tryz.call299 [.cell 6 59,.tmp 7] ?_;intro _
 cases cT:F7 (⟨c3,⟨cU,cn⟩,dn,df,dg⟩:bL) c f with
 |false=>
  have bM:BP (⟨c3,⟨cU,cn⟩,dn,df,dg⟩:bL) c f=false:=by simp[BP,cT]
  have ag:(bif bif !i_ (⟨c3,⟨cU,cn⟩,dn,df,dg⟩:bL)then true else !bN c then true else !bN f)=true:=by
   have:=cT;unfold F7 at this
   revert this;cases i_ (⟨c3,⟨cU,cn⟩,dn,df,dg⟩:bL)<;>cases bN c<;>cases bN f<;>simp
  try simp only[go_sem]
  repeat'((first|refine ab.intro (by first|(apply zg<;>exact aP)|(apply xn<;>exact aP)) ?_|refine au.intro (by apply h9) ?_|refine a7 ?_)<;>simp only[go_sem,I])
  rw[ag];simp only[go_sem,I];simp[vT,bM,xc,cT]
 |true=>
  have ag:(bif bif !i_ (⟨c3,⟨cU,cn⟩,dn,df,dg⟩:bL)then true else !bN c then true else !bN f)=false:=by
   have:=cT;unfold F7 at this
   revert this;cases i_ (⟨c3,⟨cU,cn⟩,dn,df,dg⟩:bL)<;>cases bN c<;>cases bN f<;>simp
  try simp only[go_sem]
  repeat'((first|refine ab.intro (by first|(apply zg<;>exact aP)|(apply xn<;>exact aP)) ?_|refine au.intro (by apply h9) ?_|refine a7 ?_)<;>simp only[go_sem,I])
  rw[ag];simp only[go_sem]
  try simp only[go_sem,I]
  repeat'((first|refine ab.intro (by(apply V5<;>exact aP)) ?_|refine a7 ?_)<;>simp only[go_sem])
  refine bt (fun h=>?_) (fun h=>?_)
  ·have bM:BP (⟨c3,⟨cU,cn⟩,dn,df,dg⟩:bL) c f=false:=by unfold BP;simp only[c0]at h;rw[cT,h];rfl
   simp only[go_sem,I];simp[vT,bM,xc,cT]
  ·have bM:BP (⟨c3,⟨cU,cn⟩,dn,df,dg⟩:bL) c f=true:=by unfold BP;simp only[c0]at h;rw[cT,h];rfl
   have h0:xo (⟨c3,⟨cU,cn⟩,dn,df,dg⟩:bL) f true=0:=by
    simp only[c0,Bool.or_eq_false_iff,dN]at h;omega
   simp only[go_sem]
   try simp only[go_sem,I]
   all_goals simp[vT,bM,xc,cT,h0]
end Gv
