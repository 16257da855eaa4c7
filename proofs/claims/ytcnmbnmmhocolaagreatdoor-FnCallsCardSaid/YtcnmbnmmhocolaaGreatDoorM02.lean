/-
  Part of the proof: the machine, what functions compute, and the plain laws.
-/
import Derived.Test.YtcnmbnmmhocolaaGreatDoorM01
import Derived.Test.YtcnmbnmmhocolaaGreatDoorChecked
namespace Gv
open Go Go.Proofs
theorem lM{α:Type _}{β:Type _}{xs:List α}(f:α→β):(List.map f xs).length=xs.length:=List.length_map f
theorem aF(n:Nat):((n:Int)).toNat=n:=Int.toNat_natCast n
theorem dg{α:Type _}{l:List α}{i:Nat}(h:i<l.length):l[i]?=some l[i]:=List.getElem?_eq_getElem h
theorem a_{p:Prop}[Decidable p](h:¬p):decide p=false:=decide_eq_false h
theorem bc{p:Prop}[Decidable p](h:p):decide p=true:=decide_eq_true h
theorem ch{p:Prop}[Decidable p](h:decide p=true):p:=of_decide_eq_true h
theorem cD{p:Prop}[Decidable p](h:decide p=false):¬p:=of_decide_eq_false h
theorem bf{α:Type _}{a:α}{xs ys:List α}:(a::xs)++ys=a::(xs++ys):=List.cons_append
theorem bn{α:Type _}(xs:List α):[]++xs=xs:=List.nil_append xs
theorem dB{α:Type _}{l:List α}:l.take l.length=l:=List.take_length
theorem ob{α:Type _}{a b:α}(h:some a=some b):a=b:=Option.some.inj h
theorem uB{α:Type _}(a b:α):(some a=some b)=(a=b):=Option.some.injEq a b
theorem cX(a b:Bool):((a&&b)=true)=(a=true∧b=true):=Bool.and_eq_true a b
theorem il{p:Prop}[Decidable p]:(decide p=true)=p:=decide_eq_true_eq
theorem kk{p:Prop}{_:Decidable p}:decide p=false↔¬p:=decide_eq_false_iff_not
theorem oV{α:Type _}{x:α}{xs:List α}{d:α}:(x::xs).getD 0 d=x:=List.getD_cons_zero
theorem pG{α:Type _}{x:α}{xs:List α}{n:Nat}{d:α}:(x::xs).getD (n+1) d=xs.getD n d:=List.getD_cons_succ
theorem N3{α:Type _}{β:Type _}(a:α)(b:β)(c:α)(d:β):((a,b)=(c,d))=(a=c∧b=d):=Prod.mk.injEq a b c d
theorem oW{α:Type _}{a:α}{l:List α}:(a::l).length=l.length+1:=List.length_cons
theorem hZ:Tryz.prog.follows .mixedOrders=true:=Tryz.checked.mixed
@[go_sem] theorem aho:tyI Tryz.prog 3=some (1,false):=by kernel_rfl
@[go_sem] theorem ahp:intI Tryz.prog 3=some .i64:=by kernel_rfl
@[go_sem] theorem ahq:tyI Tryz.prog 4=some (1,false):=by kernel_rfl
@[go_sem] theorem ahr:isBoolI Tryz.prog 4=true:=by kernel_rfl
@[go_sem] theorem ahs:tyI Tryz.prog 5=some (1,false):=by kernel_rfl
@[go_sem] theorem aht:intI Tryz.prog 5=some .u8:=by kernel_rfl
@[go_sem] theorem ahu:tyI Tryz.prog 9=some (1,false):=by kernel_rfl
@[go_sem] theorem ahv:isStrI Tryz.prog 9=true:=by kernel_rfl
@[go_sem] theorem ahw:tyI Tryz.prog 22=some (1,false):=by kernel_rfl
@[go_sem] theorem ahx:elI Tryz.prog 22=some (5,1,1):=by kernel_rfl
@[go_sem] theorem ahy:tyI Tryz.prog 25=some (8,true):=by kernel_rfl
@[go_sem] theorem ahz:tyI Tryz.prog 26=some (1,false):=by kernel_rfl
@[go_sem] theorem ahA:elI Tryz.prog 26=some (67,39,352):=by kernel_rfl
@[go_sem] theorem ahB:tyI Tryz.prog 28=some (4,true):=by kernel_rfl
@[go_sem] theorem ahC:tyI Tryz.prog 30=some (6,true):=by kernel_rfl
@[go_sem] theorem ahD:tyI Tryz.prog 32=some (3,true):=by kernel_rfl
@[go_sem] theorem ahE:tyI Tryz.prog 34=some (4,true):=by kernel_rfl
@[go_sem] theorem ahF:tyI Tryz.prog 35=some (1,false):=by kernel_rfl
@[go_sem] theorem ahG:elI Tryz.prog 35=some (132,2,32):=by kernel_rfl
@[go_sem] theorem ahH:tyI Tryz.prog 37=some (50,true):=by kernel_rfl
@[go_sem] theorem ahI:tyI Tryz.prog 53=some (1,false):=by kernel_rfl
@[go_sem] theorem ahJ:elI Tryz.prog 53=some (3,1,8):=by kernel_rfl
@[go_sem] theorem ahK:tyI Tryz.prog 55=some (4,true):=by kernel_rfl
@[go_sem] theorem ahL:tyI Tryz.prog 56=some (1,false):=by kernel_rfl
@[go_sem] theorem ahM:elI Tryz.prog 56=some (144,2,16):=by kernel_rfl
@[go_sem] theorem ahN:tyI Tryz.prog 58=some (12,true):=by kernel_rfl
@[go_sem] theorem ahO:tyI Tryz.prog 59=some (1,false):=by kernel_rfl
@[go_sem] theorem ahP:elI Tryz.prog 59=some (184,2,24):=by kernel_rfl
@[go_sem] theorem ahQ:tyI Tryz.prog 61=some (2,true):=by kernel_rfl
@[go_sem] theorem ahR:tyI Tryz.prog 63=some (6,true):=by kernel_rfl
@[go_sem] theorem ahS:tyI Tryz.prog 65=some (2,true):=by kernel_rfl
@[go_sem] theorem ahT:tyI Tryz.prog 67=some (39,true):=by kernel_rfl
@[go_sem] theorem ahU:tyI Tryz.prog 130=some (1,false):=by kernel_rfl
@[go_sem] theorem ahV:elI Tryz.prog 130=some (134,9,80):=by kernel_rfl
@[go_sem] theorem ahW:tyI Tryz.prog 132=some (2,true):=by kernel_rfl
@[go_sem] theorem ahX:tyI Tryz.prog 134=some (9,true):=by kernel_rfl
@[go_sem] theorem ahY:elI Tryz.prog 137=some (9,1,16):=by kernel_rfl
@[go_sem] theorem ahZ:tyI Tryz.prog 144=some (2,true):=by kernel_rfl
@[go_sem] theorem ah0:tyI Tryz.prog 184=some (2,true):=by kernel_rfl
@[go_sem] theorem ah1:elI Tryz.prog 246=some (277,3,24):=by kernel_rfl
@[go_sem] theorem ah2:tyI Tryz.prog 251=some (3,true):=by kernel_rfl
@[go_sem] theorem ah3:tyI Tryz.prog 277=some (3,true):=by kernel_rfl
@[go_sem] theorem ah4:fdI Tryz.prog 25 0=some 0:=by kernel_rfl
@[go_sem] theorem ah5:fdI Tryz.prog 25 1=some 1:=by kernel_rfl
@[go_sem] theorem ah6:fdI Tryz.prog 25 2=some 2:=by kernel_rfl
@[go_sem] theorem ah7:fdI Tryz.prog 25 3=some 3:=by kernel_rfl
@[go_sem] theorem ah8:fdI Tryz.prog 25 4=some 4:=by kernel_rfl
@[go_sem] theorem ah9:fdI Tryz.prog 25 5=some 5:=by kernel_rfl
@[go_sem] theorem aia:fdI Tryz.prog 25 6=some 6:=by kernel_rfl
@[go_sem] theorem aib:fdI Tryz.prog 25 7=some 7:=by kernel_rfl
@[go_sem] theorem aic:fdI Tryz.prog 28 0=some 0:=by kernel_rfl
@[go_sem] theorem aid:fdI Tryz.prog 28 1=some 1:=by kernel_rfl
@[go_sem] theorem aie:fdI Tryz.prog 28 2=some 2:=by kernel_rfl
@[go_sem] theorem aif:fdI Tryz.prog 28 3=some 3:=by kernel_rfl
@[go_sem] theorem aih:fdI Tryz.prog 30 0=some 0:=by kernel_rfl
@[go_sem] theorem aii:fdI Tryz.prog 30 1=some 1:=by kernel_rfl
@[go_sem] theorem aij:fdI Tryz.prog 30 2=some 2:=by kernel_rfl
@[go_sem] theorem aik:fdI Tryz.prog 30 3=some 3:=by kernel_rfl
@[go_sem] theorem ail:fdI Tryz.prog 30 4=some 4:=by kernel_rfl
@[go_sem] theorem aim:fdI Tryz.prog 30 5=some 5:=by kernel_rfl
@[go_sem] theorem ain:fdI Tryz.prog 32 0=some 0:=by kernel_rfl
@[go_sem] theorem aio:fdI Tryz.prog 32 1=some 1:=by kernel_rfl
@[go_sem] theorem aip:fdI Tryz.prog 32 2=some 2:=by kernel_rfl
@[go_sem] theorem aiq:fdI Tryz.prog 34 0=some 0:=by kernel_rfl
@[go_sem] theorem air:fdI Tryz.prog 34 1=some 1:=by kernel_rfl
@[go_sem] theorem ais:fdI Tryz.prog 34 2=some 2:=by kernel_rfl
@[go_sem] theorem ait:fdI Tryz.prog 34 3=some 3:=by kernel_rfl
@[go_sem] theorem aiu:fdI Tryz.prog 37 0=some 0:=by kernel_rfl
@[go_sem] theorem aiv:fdI Tryz.prog 37 1=some 1:=by kernel_rfl
@[go_sem] theorem aiw:fdI Tryz.prog 37 2=some 9:=by kernel_rfl
@[go_sem] theorem aix:fdI Tryz.prog 37 3=some 17:=by kernel_rfl
@[go_sem] theorem aiy:fdI Tryz.prog 37 4=some 18:=by kernel_rfl
@[go_sem] theorem aiz:fdI Tryz.prog 37 5=some 22:=by kernel_rfl
@[go_sem] theorem aiA:fdI Tryz.prog 37 6=some 28:=by kernel_rfl
@[go_sem] theorem aiB:fdI Tryz.prog 37 7=some 31:=by kernel_rfl
@[go_sem] theorem aiC:fdI Tryz.prog 37 8=some 34:=by kernel_rfl
@[go_sem] theorem aiD:fdI Tryz.prog 37 9=some 38:=by kernel_rfl
@[go_sem] theorem aiE:fdI Tryz.prog 37 10=some 42:=by kernel_rfl
@[go_sem] theorem aiF:fdI Tryz.prog 37 11=some 43:=by kernel_rfl
@[go_sem] theorem aiG:fdI Tryz.prog 37 12=some 44:=by kernel_rfl
@[go_sem] theorem aiH:fdI Tryz.prog 37 13=some 45:=by kernel_rfl
@[go_sem] theorem aiI:fdI Tryz.prog 37 14=some 46:=by kernel_rfl
@[go_sem] theorem aiJ:fdI Tryz.prog 37 15=some 47:=by kernel_rfl
@[go_sem] theorem aiK:fdI Tryz.prog 37 16=some 48:=by kernel_rfl
@[go_sem] theorem aiL:fdI Tryz.prog 37 17=some 49:=by kernel_rfl
@[go_sem] theorem aiM:fdI Tryz.prog 55 0=some 0:=by kernel_rfl
@[go_sem] theorem aiN:fdI Tryz.prog 55 1=some 1:=by kernel_rfl
@[go_sem] theorem aiO:fdI Tryz.prog 55 2=some 2:=by kernel_rfl
@[go_sem] theorem aiP:fdI Tryz.prog 55 3=some 3:=by kernel_rfl
@[go_sem] theorem aiQ:fdI Tryz.prog 58 0=some 0:=by kernel_rfl
@[go_sem] theorem aiR:fdI Tryz.prog 58 1=some 1:=by kernel_rfl
@[go_sem] theorem aiS:fdI Tryz.prog 58 2=some 5:=by kernel_rfl
@[go_sem] theorem aiT:fdI Tryz.prog 58 3=some 6:=by kernel_rfl
@[go_sem] theorem aiU:fdI Tryz.prog 58 4=some 7:=by kernel_rfl
@[go_sem] theorem aiV:fdI Tryz.prog 58 5=some 8:=by kernel_rfl
@[go_sem] theorem aiW:fdI Tryz.prog 58 6=some 9:=by kernel_rfl
@[go_sem] theorem aiX:fdI Tryz.prog 58 7=some 10:=by kernel_rfl
@[go_sem] theorem aiY:fdI Tryz.prog 58 8=some 11:=by kernel_rfl
@[go_sem] theorem aiZ:fdI Tryz.prog 61 0=some 0:=by kernel_rfl
@[go_sem] theorem ai0:fdI Tryz.prog 61 1=some 1:=by kernel_rfl
@[go_sem] theorem ai1:fdI Tryz.prog 63 0=some 0:=by kernel_rfl
@[go_sem] theorem ai2:fdI Tryz.prog 63 1=some 1:=by kernel_rfl
@[go_sem] theorem ai3:fdI Tryz.prog 63 2=some 3:=by kernel_rfl
@[go_sem] theorem ai4:fdI Tryz.prog 63 3=some 4:=by kernel_rfl
@[go_sem] theorem ai5:fdI Tryz.prog 63 4=some 5:=by kernel_rfl
@[go_sem] theorem ai6:fdI Tryz.prog 65 0=some 0:=by kernel_rfl
@[go_sem] theorem ai7:fdI Tryz.prog 65 1=some 1:=by kernel_rfl
@[go_sem] theorem ai8:fdI Tryz.prog 67 0=some 0:=by kernel_rfl
@[go_sem] theorem ai9:fdI Tryz.prog 67 1=some 1:=by kernel_rfl
@[go_sem] theorem aja:fdI Tryz.prog 67 2=some 13:=by kernel_rfl
@[go_sem] theorem ajb:fdI Tryz.prog 67 3=some 17:=by kernel_rfl
@[go_sem] theorem ajc:fdI Tryz.prog 67 4=some 23:=by kernel_rfl
@[go_sem] theorem ajd:fdI Tryz.prog 67 5=some 29:=by kernel_rfl
@[go_sem] theorem aje:fdI Tryz.prog 67 6=some 31:=by kernel_rfl
@[go_sem] theorem ajf:fdI Tryz.prog 67 7=some 32:=by kernel_rfl
@[go_sem] theorem ajg:fdI Tryz.prog 67 8=some 33:=by kernel_rfl
@[go_sem] theorem ajh:fdI Tryz.prog 67 9=some 34:=by kernel_rfl
@[go_sem] theorem aji:fdI Tryz.prog 67 10=some 35:=by kernel_rfl
@[go_sem] theorem ajj:fdI Tryz.prog 67 11=some 36:=by kernel_rfl
@[go_sem] theorem ajk:fdI Tryz.prog 67 12=some 37:=by kernel_rfl
@[go_sem] theorem ajl:fdI Tryz.prog 67 13=some 38:=by kernel_rfl
@[go_sem] theorem ajm:fdI Tryz.prog 115 0=some 0:=by kernel_rfl
@[go_sem] theorem ajn:fdI Tryz.prog 115 1=some 1:=by kernel_rfl
@[go_sem] theorem ajo:fdI Tryz.prog 115 2=some 2:=by kernel_rfl
@[go_sem] theorem ajp:fdI Tryz.prog 132 0=some 0:=by kernel_rfl
@[go_sem] theorem ajq:fdI Tryz.prog 132 1=some 1:=by kernel_rfl
@[go_sem] theorem ajr:fdI Tryz.prog 134 0=some 0:=by kernel_rfl
@[go_sem] theorem ajs:fdI Tryz.prog 134 1=some 1:=by kernel_rfl
@[go_sem] theorem ajt:fdI Tryz.prog 134 2=some 2:=by kernel_rfl
@[go_sem] theorem aju:fdI Tryz.prog 134 3=some 3:=by kernel_rfl
@[go_sem] theorem ajv:fdI Tryz.prog 134 4=some 4:=by kernel_rfl
@[go_sem] theorem ajw:fdI Tryz.prog 134 5=some 5:=by kernel_rfl
@[go_sem] theorem ajx:fdI Tryz.prog 134 6=some 6:=by kernel_rfl
@[go_sem] theorem ajy:fdI Tryz.prog 134 7=some 7:=by kernel_rfl
@[go_sem] theorem ajz:fdI Tryz.prog 134 8=some 8:=by kernel_rfl
@[go_sem] theorem ajA:fdI Tryz.prog 144 0=some 0:=by kernel_rfl
@[go_sem] theorem ajB:fdI Tryz.prog 144 1=some 1:=by kernel_rfl
@[go_sem] theorem ajC:fdI Tryz.prog 184 0=some 0:=by kernel_rfl
@[go_sem] theorem ajD:fdI Tryz.prog 184 1=some 1:=by kernel_rfl
@[go_sem] theorem ajE:fdI Tryz.prog 251 0=some 0:=by kernel_rfl
@[go_sem] theorem ajF:fdI Tryz.prog 251 1=some 1:=by kernel_rfl
@[go_sem] theorem ajG:fdI Tryz.prog 251 2=some 2:=by kernel_rfl
@[go_sem] theorem ajH:fdI Tryz.prog 277 0=some 0:=by kernel_rfl
@[go_sem] theorem ajI:fdI Tryz.prog 277 1=some 1:=by kernel_rfl
@[go_sem] theorem ajJ:zrI Tryz.prog 3=some [.d (.int .i64 0)]:=by kernel_rfl
@[go_sem] theorem ajK:zrI Tryz.prog 5=some [.d (.int .u8 0)]:=by kernel_rfl
@[go_sem] theorem ajL:zrI Tryz.prog 9=some [.d (.str [])]:=by kernel_rfl
@[go_sem] theorem ajM:zrI Tryz.prog 25=some [.d (.int .i64 0),.d (.int .i64 0),.d (.int .i64 0),.d (.int .i64 0),.d (.int .i64 0),.d (.int .i64 0),.d (.int .i64 0),.d (.int .i64 0)]:=by kernel_rfl
@[go_sem] theorem ajN:zrI Tryz.prog 28=some [.d (.int .i64 0),.d (.int .i64 0),.d (.int .i64 0),.d (.int .i64 0)]:=by kernel_rfl
@[go_sem] theorem ajO:zrI Tryz.prog 30=some [.d (.int .i64 0),.d (.int .i64 0),.d (.int .i64 0),.d (.int .i64 0),.d (.int .i64 0),.d (.int .i64 0)]:=by kernel_rfl
@[go_sem] theorem ajP:zrI Tryz.prog 32=some [.d (.int .i64 0),.d (.int .i64 0),.d (.int .i64 0)]:=by kernel_rfl
@[go_sem] theorem ajQ:zrI Tryz.prog 34=some [.d (.int .i64 0),.d (.int .i64 0),.d (.int .i64 0),.d (.int .i64 0)]:=by kernel_rfl
@[go_sem] theorem ajR:zrI Tryz.prog 37=some [.d (.bool false),.d (.int .i64 0),.d (.int .i64 0),.d (.int .i64 0),.d (.int .i64 0),.d (.int .i64 0),.d (.int .i64 0),.d (.int .i64 0),.d (.int .i64 0),.d (.int .i64 0),.d (.int .i64 0),.d (.int .i64 0),.d (.int .i64 0),.d (.int .i64 0),.d (.int .i64 0),.d (.int .i64 0),.d (.int .i64 0),.c7 39,.d (.int .i64 0),.d (.int .i64 0),.d (.int .i64 0),.d (.int .i64 0),.d (.int .i64 0),.d (.int .i64 0),.d (.int .i64 0),.d (.int .i64 0),.d (.int .i64 0),.d (.int .i64 0),.d (.int .i64 0),.d (.int .i64 0),.d (.int .i64 0),.d (.int .i64 0),.d (.int .i64 0),.d (.int .i64 0),.d (.int .i64 0),.d (.int .i64 0),.d (.int .i64 0),.d (.int .i64 0),.d (.int .i64 0),.d (.int .i64 0),.d (.int .i64 0),.d (.int .i64 0),.d (.bool false),.d (.bool false),.d (.bool false),.d (.int .i64 0),.d (.int .i64 0),.c7 2,.d (.int .i64 0),.d (.int .i64 0)]:=by kernel_rfl
@[go_sem] theorem ajS:zrI Tryz.prog 55=some [.d (.int .i64 0),.d (.int .i64 0),.d (.int .i64 0),.c7 1]:=by kernel_rfl
@[go_sem] theorem ajT:zrI Tryz.prog 58=some [.d (.int .i64 0),.d (.int .i64 0),.d (.int .i64 0),.d (.int .i64 0),.c7 1,.c7 2,.c7 2,.c7 2,.d (.int .i64 0),.d (.int .i64 0),.d (.int .i64 0),.d (.int .i64 0)]:=by kernel_rfl
@[go_sem] theorem ajU:zrI Tryz.prog 61=some [.d (.int .i64 0),.c7 2]:=by kernel_rfl
@[go_sem] theorem ajV:zrI Tryz.prog 63=some [.d (.int .i64 0),.d (.int .i64 0),.c7 2,.d (.int .i64 0),.d (.int .i64 0),.d (.int .i64 0)]:=by kernel_rfl
@[go_sem] theorem ajW:zrI Tryz.prog 65=some [.d (.int .i64 0),.d (.bool false)]:=by kernel_rfl
@[go_sem] theorem ajX:zrI Tryz.prog 67=some [.d (.int .i64 0),.d (.int .i64 0),.d (.int .i64 0),.d (.int .i64 0),.d (.int .i64 0),.c7 1,.c7 2,.c7 2,.c7 2,.d (.int .i64 0),.d (.int .i64 0),.d (.int .i64 0),.d (.int .i64 0),.d (.int .i64 0),.d (.int .i64 0),.d (.int .i64 0),.d (.int .i64 0),.d (.int .i64 0),.d (.int .i64 0),.c7 2,.d (.int .i64 0),.d (.int .i64 0),.d (.int .i64 0),.d (.int .i64 0),.d (.int .i64 0),.d (.int .i64 0),.d (.int .i64 0),.d (.int .i64 0),.d (.int .i64 0),.d (.int .i64 0),.d (.bool false),.d (.bool false),.d (.bool false),.d (.bool false),.d (.bool false),.d (.bool false),.d (.bool false),.d (.int .i64 0),.d (.bool false)]:=by kernel_rfl
@[go_sem] theorem ajY:zrI Tryz.prog 115=some [.c7 1,.d (.int .i64 0),.d (.int .i64 0)]:=by kernel_rfl
@[go_sem] theorem ajZ:zrI Tryz.prog 132=some [.d (.int .i64 0),.c7 9]:=by kernel_rfl
@[go_sem] theorem aj0:zrI Tryz.prog 134=some [.d (.int .i64 0),.d (.int .i64 0),.d (.int .i64 0),.d (.str []),.d (.bool false),.d (.int .i64 0),.d (.int .i64 0),.d (.int .i64 0),.d (.bool false)]:=by kernel_rfl
@[go_sem] theorem aj1:zrI Tryz.prog 144=some [.d (.int .i64 0),.d (.int .i64 0)]:=by kernel_rfl
@[go_sem] theorem aj2:zrI Tryz.prog 184=some [.d (.int .i64 0),.d (.str [])]:=by kernel_rfl
@[go_sem] theorem aj3:zrI Tryz.prog 251=some [.d (.int .i64 0),.d (.str []),.d (.bool false)]:=by kernel_rfl
@[go_sem] theorem aj4:zrI Tryz.prog 277=some [.d (.int .i64 0),.d (.int .i64 0),.d (.bool false)]:=by kernel_rfl
@[go_sem] theorem aj5:plI Tryz.prog 25=some fun j=>([(0,1),(1,1),(2,1),(3,1),(4,1),(5,1),(6,1),(7,1)]:List (Nat×Nat))[j]?:=by kernel_rfl
@[go_sem] theorem aj6:plI Tryz.prog 28=some fun j=>([(0,1),(1,1),(2,1),(3,1)]:List (Nat×Nat))[j]?:=by kernel_rfl
@[go_sem] theorem aj7:plI Tryz.prog 30=some fun j=>([(0,1),(1,1),(2,1),(3,1),(4,1),(5,1)]:List (Nat×Nat))[j]?:=by kernel_rfl
@[go_sem] theorem aj8:plI Tryz.prog 32=some fun j=>([(0,1),(1,1),(2,1)]:List (Nat×Nat))[j]?:=by kernel_rfl
@[go_sem] theorem aj9:plI Tryz.prog 34=some fun j=>([(0,1),(1,1),(2,1),(3,1)]:List (Nat×Nat))[j]?:=by kernel_rfl
@[go_sem] theorem aka:plI Tryz.prog 37=some fun j=>([(0,1),(1,8),(9,8),(17,1),(18,4),(22,6),(28,3),(31,3),(34,4),(38,4),(42,1),(43,1),(44,1),(45,1),(46,1),(47,1),(48,1),(49,1)]:List (Nat×Nat))[j]?:=by kernel_rfl
@[go_sem] theorem akb:plI Tryz.prog 55=some fun j=>([(0,1),(1,1),(2,1),(3,1)]:List (Nat×Nat))[j]?:=by kernel_rfl
@[go_sem] theorem akc:plI Tryz.prog 58=some fun j=>([(0,1),(1,4),(5,1),(6,1),(7,1),(8,1),(9,1),(10,1),(11,1)]:List (Nat×Nat))[j]?:=by kernel_rfl
@[go_sem] theorem akd:plI Tryz.prog 61=some fun j=>([(0,1),(1,1)]:List (Nat×Nat))[j]?:=by kernel_rfl
@[go_sem] theorem ake:plI Tryz.prog 63=some fun j=>([(0,1),(1,2),(3,1),(4,1),(5,1)]:List (Nat×Nat))[j]?:=by kernel_rfl
@[go_sem] theorem akf:plI Tryz.prog 65=some fun j=>([(0,1),(1,1)]:List (Nat×Nat))[j]?:=by kernel_rfl
@[go_sem] theorem akg:plI Tryz.prog 67=some fun j=>([(0,1),(1,12),(13,4),(17,6),(23,6),(29,2),(31,1),(32,1),(33,1),(34,1),(35,1),(36,1),(37,1),(38,1)]:List (Nat×Nat))[j]?:=by kernel_rfl
@[go_sem] theorem akh:plI Tryz.prog 115=some fun j=>([(0,1),(1,1),(2,1)]:List (Nat×Nat))[j]?:=by kernel_rfl
@[go_sem] theorem aki:plI Tryz.prog 132=some fun j=>([(0,1),(1,1)]:List (Nat×Nat))[j]?:=by kernel_rfl
@[go_sem] theorem akj:plI Tryz.prog 134=some fun j=>([(0,1),(1,1),(2,1),(3,1),(4,1),(5,1),(6,1),(7,1),(8,1)]:List (Nat×Nat))[j]?:=by kernel_rfl
@[go_sem] theorem akk:plI Tryz.prog 144=some fun j=>([(0,1),(1,1)]:List (Nat×Nat))[j]?:=by kernel_rfl
@[go_sem] theorem akl:plI Tryz.prog 184=some fun j=>([(0,1),(1,1)]:List (Nat×Nat))[j]?:=by kernel_rfl
@[go_sem] theorem akm:plI Tryz.prog 251=some fun j=>([(0,1),(1,1),(2,1)]:List (Nat×Nat))[j]?:=by kernel_rfl
@[go_sem] theorem akn:plI Tryz.prog 277=some fun j=>([(0,1),(1,2)]:List (Nat×Nat))[j]?:=by kernel_rfl
@[go_sem] theorem ako:oE Tryz.prog 25 [.i .i64,.i .i64,.i .i64,.i .i64,.i .i64,.i .i64,.i .i64,.i .i64]=True:=eq_true (EqOK_of (by kernel_rfl) (by kernel_rfl) (by kernel_rfl) (by kernel_rfl) (by kernel_rfl))
@[go_sem] theorem akp:oE Tryz.prog 28 [.i .i64,.i .i64,.i .i64,.i .i64]=True:=eq_true (EqOK_of (by kernel_rfl) (by kernel_rfl) (by kernel_rfl) (by kernel_rfl) (by kernel_rfl))
@[go_sem] theorem akq:oE Tryz.prog 30 [.i .i64,.i .i64,.i .i64,.i .i64,.i .i64,.i .i64]=True:=eq_true (EqOK_of (by kernel_rfl) (by kernel_rfl) (by kernel_rfl) (by kernel_rfl) (by kernel_rfl))
@[go_sem] theorem akr:oE Tryz.prog 32 [.i .i64,.i .i64,.i .i64]=True:=eq_true (EqOK_of (by kernel_rfl) (by kernel_rfl) (by kernel_rfl) (by kernel_rfl) (by kernel_rfl))
@[go_sem] theorem aks:oE Tryz.prog 34 [.i .i64,.i .i64,.i .i64,.i .i64]=True:=eq_true (EqOK_of (by kernel_rfl) (by kernel_rfl) (by kernel_rfl) (by kernel_rfl) (by kernel_rfl))
@[go_sem] theorem akt:oE Tryz.prog 65 [.i .i64,.b]=True:=eq_true (EqOK_of (by kernel_rfl) (by kernel_rfl) (by kernel_rfl) (by kernel_rfl) (by kernel_rfl))
@[go_sem] theorem aku:oE Tryz.prog 134 [.i .i64,.i .i64,.i .i64,.s,.b,.i .i64,.i .i64,.i .i64,.b]=True:=eq_true (EqOK_of (by kernel_rfl) (by kernel_rfl) (by kernel_rfl) (by kernel_rfl) (by kernel_rfl))
@[go_sem] theorem akv:oE Tryz.prog 144 [.i .i64,.i .i64]=True:=eq_true (EqOK_of (by kernel_rfl) (by kernel_rfl) (by kernel_rfl) (by kernel_rfl) (by kernel_rfl))
@[go_sem] theorem akw:oE Tryz.prog 184 [.i .i64,.s]=True:=eq_true (EqOK_of (by kernel_rfl) (by kernel_rfl) (by kernel_rfl) (by kernel_rfl) (by kernel_rfl))
set_option maxRecDepth 100000 in
theorem aL{f:FuncId}{fn:Func}{c:Code}{args res:List AD}(n:Nat)(hf:Tryz.prog.funcs[f]?=some fn)(hcall:∀(args:Array Value) (w:World),(callFunc f args).run Tryz.prog w=.ok (.enter f args) w)(rs:List ResultVar)(h:wh args→codeE Tryz.prog [] c ⟨ts0 args n,[]⟩ (bx (f_ Tryz.prog rs res) .mk) [] (bx (f_ Tryz.prog rs res) .mk))(hb:fn.body=some c:=by rfl)(hn:fn.ntmps=n:=by rfl)(hr:fn.results.toList=rs:=by rfl):PureCall Tryz.prog f args res:=
 Z8 hf hb hcall hZ _ (by rw[hn];exact LN args n) rs hr h
def aW(n:Int):List D:=[.int .i64 n]
def eS(s:List UInt8):List D:=[.str s]
def eU8(n:Int):List D:=[.int .u8 n]
theorem tB{α:Type}{f:α→List D}(h:∀a,(f a).all D.flat=true)(xs:List α):fP (xs.map f)=true:=by simp[fP,h]
@[go_sem] theorem aoF(xs:List Int):fP (xs.map aW)=true:=tB (fun _=>rfl) xs
@[go_sem] theorem aoG(xs:List (List UInt8)):fP (xs.map eS)=true:=tB (fun _=>rfl) xs
structure da where
 ring:Int
 bP:Int
 mT:Int
 c8:Int
 mU:Int
 l0:Int
 fy:Int
 iF:Int
 deriving DecidableEq
def da.enc(x:da):List D:=[.int .i64 x.ring,.int .i64 x.bP,.int .i64 x.mT,.int .i64 x.c8,.int .i64 x.mU,.int .i64 x.l0,.int .i64 x.fy,.int .i64 x.iF]
@[go_sem] theorem aoH(xs:List da):fP (xs.map da.enc)=true:=tB (fun _=>rfl) xs
structure cl where
 size:Int
 base:Int
 b':Int
 cells:List Int
 deriving DecidableEq
def cl.enc(x:cl):List D:=[.int .i64 x.size,.int .i64 x.base,.int .i64 x.b',.sl 1 (x.cells.map aW)]
structure ab where
 low:Int
 high:Int
 deriving DecidableEq
def ab.enc(x:ab):List D:=[.int .i64 x.low,.int .i64 x.high]
@[go_sem] theorem aoI(xs:List ab):fP (xs.map ab.enc)=true:=tB (fun _=>rfl) xs
structure az where
 state:Int
 ring:cl
 pending:List ab
 flight:List ab
 bK:List ab
 bj:Int
 bd:Int
 sent:Int
 code:Int
 deriving DecidableEq
def az.enc(x:az):List D:=[.int .i64 x.state,.int .i64 x.ring.size,.int .i64 x.ring.base,.int .i64 x.ring.b',.sl 1 (x.ring.cells.map aW),.sl 2 (x.pending.map ab.enc),.sl 2 (x.flight.map ab.enc),.sl 2 (x.bK.map ab.enc),.int .i64 x.bj,.int .i64 x.bd,.int .i64 x.sent,.int .i64 x.code]
structure ei where
 a8:Int
 used:Int
 blocked:Int
 told:Int
 deriving DecidableEq
def ei.enc(x:ei):List D:=[.int .i64 x.a8,.int .i64 x.used,.int .i64 x.blocked,.int .i64 x.told]
@[go_sem] theorem aoJ(xs:List ei):fP (xs.map ei.enc)=true:=tB (fun _=>rfl) xs
structure aB where
 offset:Int
 data:List UInt8
 deriving DecidableEq
def aB.enc(x:aB):List D:=[.int .i64 x.offset,.str x.data]
@[go_sem] theorem aoK(xs:List aB):fP (xs.map aB.enc)=true:=tB (fun _=>rfl) xs
structure k3 where
 next:Int
 bu:List aB
 deriving DecidableEq
def k3.enc(x:k3):List D:=[.int .i64 x.next,.sl 2 (x.bu.map aB.enc)]
structure bA where
 state:Int
 buffer:k3
 bj:Int
 fc:Int
 code:Int
 deriving DecidableEq
def bA.enc(x:bA):List D:=[.int .i64 x.state,.int .i64 x.buffer.next,.sl 2 (x.buffer.bu.map aB.enc),.int .i64 x.bj,.int .i64 x.fc,.int .i64 x.code]
structure eh where
 size:Int
 most:Int
 a8:Int
 seen:Int
 read:Int
 j6:Int
 deriving DecidableEq
def eh.enc(x:eh):List D:=[.int .i64 x.size,.int .i64 x.most,.int .i64 x.a8,.int .i64 x.seen,.int .i64 x.read,.int .i64 x.j6]
@[go_sem] theorem aoL(xs:List eh):fP (xs.map eh.enc)=true:=tB (fun _=>rfl) xs
structure fN where
 fB:Int
 eW:Bool
 deriving DecidableEq
def fN.enc(x:fN):List D:=[.int .i64 x.fB,.bool x.eW]
@[go_sem] theorem aoM(xs:List fN):fP (xs.map fN.enc)=true:=tB (fun _=>rfl) xs
structure aa where
 id:Int
 send:az
 cV:ei
 recv:bA
 bP:eh
 priority:fN
 ee:Bool
 eD:Bool
 ix:Bool
 iy:Bool
 k6:Bool
 jo:Bool
 lW:Int
 counted:Bool
 deriving DecidableEq
def aa.enc(x:aa):List D:=[.int .i64 x.id,.int .i64 x.send.state,.int .i64 x.send.ring.size,.int .i64 x.send.ring.base,.int .i64 x.send.ring.b',.sl 1 (x.send.ring.cells.map aW),.sl 2 (x.send.pending.map ab.enc),.sl 2 (x.send.flight.map ab.enc),.sl 2 (x.send.bK.map ab.enc),.int .i64 x.send.bj,.int .i64 x.send.bd,.int .i64 x.send.sent,.int .i64 x.send.code,.int .i64 x.cV.a8,.int .i64 x.cV.used,.int .i64 x.cV.blocked,.int .i64 x.cV.told,.int .i64 x.recv.state,.int .i64 x.recv.buffer.next,.sl 2 (x.recv.buffer.bu.map aB.enc),.int .i64 x.recv.bj,.int .i64 x.recv.fc,.int .i64 x.recv.code,.int .i64 x.bP.size,.int .i64 x.bP.most,.int .i64 x.bP.a8,.int .i64 x.bP.seen,.int .i64 x.bP.read,.int .i64 x.bP.j6,.int .i64 x.priority.fB,.bool x.priority.eW,.bool x.ee,.bool x.eD,.bool x.ix,.bool x.iy,.bool x.k6,.bool x.jo,.int .i64 x.lW,.bool x.counted]
structure fz where
 a8:Int
 opened:Int
 blocked:Int
 deriving DecidableEq
def fz.enc(x:fz):List D:=[.int .i64 x.a8,.int .i64 x.opened,.int .i64 x.blocked]
@[go_sem] theorem aoN(xs:List fz):fP (xs.map fz.enc)=true:=tB (fun _=>rfl) xs
structure du where
 most:Int
 a8:Int
 seen:Int
 closed:Int
 deriving DecidableEq
def du.enc(x:du):List D:=[.int .i64 x.most,.int .i64 x.a8,.int .i64 x.seen,.int .i64 x.closed]
@[go_sem] theorem aoO(xs:List du):fP (xs.map du.enc)=true:=tB (fun _=>rfl) xs
structure aq where
 kind:Int
 stream:Int
 offset:Int
 data:List UInt8
 bd:Bool
 code:Int
 a8:Int
 bj:Int
 fy:Bool
 deriving DecidableEq
def aq.enc(x:aq):List D:=[.int .i64 x.kind,.int .i64 x.stream,.int .i64 x.offset,.str x.data,.bool x.bd,.int .i64 x.code,.int .i64 x.a8,.int .i64 x.bj,.bool x.fy]
@[go_sem] theorem aoP(xs:List aq):fP (xs.map aq.enc)=true:=tB (fun _=>rfl) xs
structure aC where
 number:Int
 frames:List aq
 deriving DecidableEq
def aC.enc(x:aC):List D:=[.int .i64 x.number,.sl 9 (x.frames.map aq.enc)]
structure I where
 cr:Bool
 own:da
 peer:da
 streams:List aa
 c8:ei
 dA:eh
 eC:fz
 eB:fz
 dH:du
 dI:du
 xA:Bool
 nN:Bool
 nO:Bool
 fk:Int
 number:Int
 packets:List aC
 gh:Int
 closed:Int
 deriving DecidableEq
def I.enc(x:I):List D:=[.bool x.cr,.int .i64 x.own.ring,.int .i64 x.own.bP,.int .i64 x.own.mT,.int .i64 x.own.c8,.int .i64 x.own.mU,.int .i64 x.own.l0,.int .i64 x.own.fy,.int .i64 x.own.iF,.int .i64 x.peer.ring,.int .i64 x.peer.bP,.int .i64 x.peer.mT,.int .i64 x.peer.c8,.int .i64 x.peer.mU,.int .i64 x.peer.l0,.int .i64 x.peer.fy,.int .i64 x.peer.iF,.sl 39 (x.streams.map aa.enc),.int .i64 x.c8.a8,.int .i64 x.c8.used,.int .i64 x.c8.blocked,.int .i64 x.c8.told,.int .i64 x.dA.size,.int .i64 x.dA.most,.int .i64 x.dA.a8,.int .i64 x.dA.seen,.int .i64 x.dA.read,.int .i64 x.dA.j6,.int .i64 x.eC.a8,.int .i64 x.eC.opened,.int .i64 x.eC.blocked,.int .i64 x.eB.a8,.int .i64 x.eB.opened,.int .i64 x.eB.blocked,.int .i64 x.dH.most,.int .i64 x.dH.a8,.int .i64 x.dH.seen,.int .i64 x.dH.closed,.int .i64 x.dI.most,.int .i64 x.dI.a8,.int .i64 x.dI.seen,.int .i64 x.dI.closed,.bool x.xA,.bool x.nN,.bool x.nO,.int .i64 x.fk,.int .i64 x.number,.sl 2 (x.packets.map aC.enc),.int .i64 x.gh,.int .i64 x.closed]
structure db where
 id:Int
 priority:fN
 deriving DecidableEq
def db.enc(x:db):List D:=[.int .i64 x.id,.int .i64 x.priority.fB,.bool x.priority.eW]
@[go_sem] theorem aoQ(xs:List db):fP (xs.map db.enc)=true:=tB (fun _=>rfl) xs
structure b2 where
 offset:Int
 data:List UInt8
 bd:Bool
 deriving DecidableEq
def b2.enc(x:b2):List D:=[.int .i64 x.offset,.str x.data,.bool x.bd]
@[go_sem] theorem aoR(xs:List b2):fP (xs.map b2.enc)=true:=tB (fun _=>rfl) xs
def I.bM(x:I):List V:=[.d (.bool x.cr),.d (.int .i64 x.own.ring),.d (.int .i64 x.own.bP),.d (.int .i64 x.own.mT),.d (.int .i64 x.own.c8),.d (.int .i64 x.own.mU),.d (.int .i64 x.own.l0),.d (.int .i64 x.own.fy),.d (.int .i64 x.own.iF),.d (.int .i64 x.peer.ring),.d (.int .i64 x.peer.bP),.d (.int .i64 x.peer.mT),.d (.int .i64 x.peer.c8),.d (.int .i64 x.peer.mU),.d (.int .i64 x.peer.l0),.d (.int .i64 x.peer.fy),.d (.int .i64 x.peer.iF),.d (.sl 39 (x.streams.map aa.enc)),.d (.int .i64 x.c8.a8),.d (.int .i64 x.c8.used),.d (.int .i64 x.c8.blocked),.d (.int .i64 x.c8.told),.d (.int .i64 x.dA.size),.d (.int .i64 x.dA.most),.d (.int .i64 x.dA.a8),.d (.int .i64 x.dA.seen),.d (.int .i64 x.dA.read),.d (.int .i64 x.dA.j6),.d (.int .i64 x.eC.a8),.d (.int .i64 x.eC.opened),.d (.int .i64 x.eC.blocked),.d (.int .i64 x.eB.a8),.d (.int .i64 x.eB.opened),.d (.int .i64 x.eB.blocked),.d (.int .i64 x.dH.most),.d (.int .i64 x.dH.a8),.d (.int .i64 x.dH.seen),.d (.int .i64 x.dH.closed),.d (.int .i64 x.dI.most),.d (.int .i64 x.dI.a8),.d (.int .i64 x.dI.seen),.d (.int .i64 x.dI.closed),.d (.bool x.xA),.d (.bool x.nN),.d (.bool x.nO),.d (.int .i64 x.fk),.d (.int .i64 x.number),.d (.sl 2 (x.packets.map aC.enc)),.d (.int .i64 x.gh),.d (.int .i64 x.closed)]
def I.vc(x:I)(a0 bD:V):List V:=[.d (.bool x.cr),.d (.int .i64 x.own.ring),.d (.int .i64 x.own.bP),.d (.int .i64 x.own.mT),.d (.int .i64 x.own.c8),.d (.int .i64 x.own.mU),.d (.int .i64 x.own.l0),.d (.int .i64 x.own.fy),.d (.int .i64 x.own.iF),.d (.int .i64 x.peer.ring),.d (.int .i64 x.peer.bP),.d (.int .i64 x.peer.mT),.d (.int .i64 x.peer.c8),.d (.int .i64 x.peer.mU),.d (.int .i64 x.peer.l0),.d (.int .i64 x.peer.fy),.d (.int .i64 x.peer.iF),a0,.d (.int .i64 x.c8.a8),.d (.int .i64 x.c8.used),.d (.int .i64 x.c8.blocked),.d (.int .i64 x.c8.told),.d (.int .i64 x.dA.size),.d (.int .i64 x.dA.most),.d (.int .i64 x.dA.a8),.d (.int .i64 x.dA.seen),.d (.int .i64 x.dA.read),.d (.int .i64 x.dA.j6),.d (.int .i64 x.eC.a8),.d (.int .i64 x.eC.opened),.d (.int .i64 x.eC.blocked),.d (.int .i64 x.eB.a8),.d (.int .i64 x.eB.opened),.d (.int .i64 x.eB.blocked),.d (.int .i64 x.dH.most),.d (.int .i64 x.dH.a8),.d (.int .i64 x.dH.seen),.d (.int .i64 x.dH.closed),.d (.int .i64 x.dI.most),.d (.int .i64 x.dI.a8),.d (.int .i64 x.dI.seen),.d (.int .i64 x.dI.closed),.d (.bool x.xA),.d (.bool x.nN),.d (.bool x.nO),.d (.int .i64 x.fk),.d (.int .i64 x.number),bD,.d (.int .i64 x.gh),.d (.int .i64 x.closed)]
def I.bH:List V:=[.d (.bool false),.d (.int .i64 0),.d (.int .i64 0),.d (.int .i64 0),.d (.int .i64 0),.d (.int .i64 0),.d (.int .i64 0),.d (.int .i64 0),.d (.int .i64 0),.d (.int .i64 0),.d (.int .i64 0),.d (.int .i64 0),.d (.int .i64 0),.d (.int .i64 0),.d (.int .i64 0),.d (.int .i64 0),.d (.int .i64 0),.c7 39,.d (.int .i64 0),.d (.int .i64 0),.d (.int .i64 0),.d (.int .i64 0),.d (.int .i64 0),.d (.int .i64 0),.d (.int .i64 0),.d (.int .i64 0),.d (.int .i64 0),.d (.int .i64 0),.d (.int .i64 0),.d (.int .i64 0),.d (.int .i64 0),.d (.int .i64 0),.d (.int .i64 0),.d (.int .i64 0),.d (.int .i64 0),.d (.int .i64 0),.d (.int .i64 0),.d (.int .i64 0),.d (.int .i64 0),.d (.int .i64 0),.d (.int .i64 0),.d (.int .i64 0),.d (.bool false),.d (.bool false),.d (.bool false),.d (.int .i64 0),.d (.int .i64 0),.c7 2,.d (.int .i64 0),.d (.int .i64 0)]
attribute [go_sem,simp] I.enc I.bM I.vc I.bH
def aa.bM(x:aa):List V:=[.d (.int .i64 x.id),.d (.int .i64 x.send.state),.d (.int .i64 x.send.ring.size),.d (.int .i64 x.send.ring.base),.d (.int .i64 x.send.ring.b'),.d (.sl 1 (x.send.ring.cells.map aW)),.d (.sl 2 (x.send.pending.map ab.enc)),.d (.sl 2 (x.send.flight.map ab.enc)),.d (.sl 2 (x.send.bK.map ab.enc)),.d (.int .i64 x.send.bj),.d (.int .i64 x.send.bd),.d (.int .i64 x.send.sent),.d (.int .i64 x.send.code),.d (.int .i64 x.cV.a8),.d (.int .i64 x.cV.used),.d (.int .i64 x.cV.blocked),.d (.int .i64 x.cV.told),.d (.int .i64 x.recv.state),.d (.int .i64 x.recv.buffer.next),.d (.sl 2 (x.recv.buffer.bu.map aB.enc)),.d (.int .i64 x.recv.bj),.d (.int .i64 x.recv.fc),.d (.int .i64 x.recv.code),.d (.int .i64 x.bP.size),.d (.int .i64 x.bP.most),.d (.int .i64 x.bP.a8),.d (.int .i64 x.bP.seen),.d (.int .i64 x.bP.read),.d (.int .i64 x.bP.j6),.d (.int .i64 x.priority.fB),.d (.bool x.priority.eW),.d (.bool x.ee),.d (.bool x.eD),.d (.bool x.ix),.d (.bool x.iy),.d (.bool x.k6),.d (.bool x.jo),.d (.int .i64 x.lW),.d (.bool x.counted)]
def aa.vc(x:aa)(a0 bD bR a3 a4:V):List V:=[.d (.int .i64 x.id),.d (.int .i64 x.send.state),.d (.int .i64 x.send.ring.size),.d (.int .i64 x.send.ring.base),.d (.int .i64 x.send.ring.b'),a0,bD,bR,a3,.d (.int .i64 x.send.bj),.d (.int .i64 x.send.bd),.d (.int .i64 x.send.sent),.d (.int .i64 x.send.code),.d (.int .i64 x.cV.a8),.d (.int .i64 x.cV.used),.d (.int .i64 x.cV.blocked),.d (.int .i64 x.cV.told),.d (.int .i64 x.recv.state),.d (.int .i64 x.recv.buffer.next),a4,.d (.int .i64 x.recv.bj),.d (.int .i64 x.recv.fc),.d (.int .i64 x.recv.code),.d (.int .i64 x.bP.size),.d (.int .i64 x.bP.most),.d (.int .i64 x.bP.a8),.d (.int .i64 x.bP.seen),.d (.int .i64 x.bP.read),.d (.int .i64 x.bP.j6),.d (.int .i64 x.priority.fB),.d (.bool x.priority.eW),.d (.bool x.ee),.d (.bool x.eD),.d (.bool x.ix),.d (.bool x.iy),.d (.bool x.k6),.d (.bool x.jo),.d (.int .i64 x.lW),.d (.bool x.counted)]
def aa.bH:List V:=[.d (.int .i64 0),.d (.int .i64 0),.d (.int .i64 0),.d (.int .i64 0),.d (.int .i64 0),.c7 1,.c7 2,.c7 2,.c7 2,.d (.int .i64 0),.d (.int .i64 0),.d (.int .i64 0),.d (.int .i64 0),.d (.int .i64 0),.d (.int .i64 0),.d (.int .i64 0),.d (.int .i64 0),.d (.int .i64 0),.d (.int .i64 0),.c7 2,.d (.int .i64 0),.d (.int .i64 0),.d (.int .i64 0),.d (.int .i64 0),.d (.int .i64 0),.d (.int .i64 0),.d (.int .i64 0),.d (.int .i64 0),.d (.int .i64 0),.d (.int .i64 0),.d (.bool false),.d (.bool false),.d (.bool false),.d (.bool false),.d (.bool false),.d (.bool false),.d (.bool false),.d (.int .i64 0),.d (.bool false)]
attribute [go_sem,simp] aa.enc aa.bM aa.vc aa.bH
def az.bM(x:az):List V:=[.d (.int .i64 x.state),.d (.int .i64 x.ring.size),.d (.int .i64 x.ring.base),.d (.int .i64 x.ring.b'),.d (.sl 1 (x.ring.cells.map aW)),.d (.sl 2 (x.pending.map ab.enc)),.d (.sl 2 (x.flight.map ab.enc)),.d (.sl 2 (x.bK.map ab.enc)),.d (.int .i64 x.bj),.d (.int .i64 x.bd),.d (.int .i64 x.sent),.d (.int .i64 x.code)]
def az.vc(x:az)(a0 bD bR a3:V):List V:=[.d (.int .i64 x.state),.d (.int .i64 x.ring.size),.d (.int .i64 x.ring.base),.d (.int .i64 x.ring.b'),a0,bD,bR,a3,.d (.int .i64 x.bj),.d (.int .i64 x.bd),.d (.int .i64 x.sent),.d (.int .i64 x.code)]
def az.bH:List V:=[.d (.int .i64 0),.d (.int .i64 0),.d (.int .i64 0),.d (.int .i64 0),.c7 1,.c7 2,.c7 2,.c7 2,.d (.int .i64 0),.d (.int .i64 0),.d (.int .i64 0),.d (.int .i64 0)]
attribute [go_sem,simp] az.enc az.bM az.vc az.bH
def bA.bM(x:bA):List V:=[.d (.int .i64 x.state),.d (.int .i64 x.buffer.next),.d (.sl 2 (x.buffer.bu.map aB.enc)),.d (.int .i64 x.bj),.d (.int .i64 x.fc),.d (.int .i64 x.code)]
def bA.vc(x:bA)(a0:V):List V:=[.d (.int .i64 x.state),.d (.int .i64 x.buffer.next),a0,.d (.int .i64 x.bj),.d (.int .i64 x.fc),.d (.int .i64 x.code)]
def bA.bH:List V:=[.d (.int .i64 0),.d (.int .i64 0),.c7 2,.d (.int .i64 0),.d (.int .i64 0),.d (.int .i64 0)]
attribute [go_sem,simp] bA.enc bA.bM bA.vc bA.bH
def aq.bM(x:aq):List V:=[.d (.int .i64 x.kind),.d (.int .i64 x.stream),.d (.int .i64 x.offset),.d (.str x.data),.d (.bool x.bd),.d (.int .i64 x.code),.d (.int .i64 x.a8),.d (.int .i64 x.bj),.d (.bool x.fy)]
def aq.bH:List V:=[.d (.int .i64 0),.d (.int .i64 0),.d (.int .i64 0),.d (.str []),.d (.bool false),.d (.int .i64 0),.d (.int .i64 0),.d (.int .i64 0),.d (.bool false)]
attribute [go_sem,simp] aq.enc aq.bM aq.bH
def eh.bM(x:eh):List V:=[.d (.int .i64 x.size),.d (.int .i64 x.most),.d (.int .i64 x.a8),.d (.int .i64 x.seen),.d (.int .i64 x.read),.d (.int .i64 x.j6)]
def eh.bH:List V:=[.d (.int .i64 0),.d (.int .i64 0),.d (.int .i64 0),.d (.int .i64 0),.d (.int .i64 0),.d (.int .i64 0)]
attribute [go_sem,simp] eh.enc eh.bM eh.bH
def da.bM(x:da):List V:=[.d (.int .i64 x.ring),.d (.int .i64 x.bP),.d (.int .i64 x.mT),.d (.int .i64 x.c8),.d (.int .i64 x.mU),.d (.int .i64 x.l0),.d (.int .i64 x.fy),.d (.int .i64 x.iF)]
def da.bH:List V:=[.d (.int .i64 0),.d (.int .i64 0),.d (.int .i64 0),.d (.int .i64 0),.d (.int .i64 0),.d (.int .i64 0),.d (.int .i64 0),.d (.int .i64 0)]
attribute [go_sem,simp] da.enc da.bM da.bH
theorem bZ{α:Type}(f:α→List D)(xs:List α)(i:Nat)(h:i<xs.length):(xs.map f)[i]?=some (f xs[i]):=by simp[h]
theorem dv{i m:Nat}(h:i<m)(hm:m≤maxLen):IntKind.i64.wrap ((i:Int)+1)=((i+1:Nat):Int):=by
 simp only[maxLen]at hm;rw[bC]<;>omega
theorem Dn{n:Int}(h:dOk (.int .i64 n)):-9223372036854775808≤n∧n≤9223372036854775807:=by
 have h1:IntKind.i64.min=-9223372036854775808:=by decide
 have h2:IntKind.i64.max=9223372036854775807:=by decide
 simp only[dOk,h1,h2]at h;exact h
theorem fj{α:Type}{e:α→List D}{sz:Nat}{xs:List α}{rs:List AD}(h:wh (.one (.sl sz (xs.map e))::rs)):xs.length≤maxLen:=by
 have:=h.1.1;rwa [lM]at this
def aeK(k:Int):Int:=IntKind.i64.wrap (k+1)
def nxs:Nat→Int→Int
 |0,k=>k
 |n+1,k=>aeK (nxs n k)
section
variable {α:Type} (mk:Int→α) (c:Nat)
def A4(k:Int)(xs:List α)(i:Nat):List α:=(List.range i).map (fun j=>mk (nxs (c * j) k))++xs.drop i
theorem aeL(k:Int)(xs:List α)(i:Nat)(h:i≤xs.length):(A4 mk c k xs i).length=xs.length:=by simp[A4];omega
@[go_sem] theorem aeM(k:Int)(xs:List α):(A4 mk c k xs xs.length).length=xs.length:=aeL mk c k xs _ (Nat.le_refl _)
@[go_sem] theorem aoo(e:α→List D)(k:Int)(xs:List α):((A4 mk c k xs xs.length).map e).take xs.length=(A4 mk c k xs xs.length).map e:=List.take_of_length_le (by simp[aeM])
end
section
variable {α:Type}
end
def k_{α:Type}(f:α→Nat)(xs:List α):Nat:=(xs.map f).sum
theorem aeO{α:Type}(f:α→Nat)(xs:List α)(i:Nat)(h:i<xs.length):k_ f (xs.take (i+1))=k_ f (xs.take i)+f xs[i]:=by
 unfold k_;rw[List.take_add_one,dg h];simp only[Option.toList_some,List.map_append,List.map_cons,List.map_nil,List.sum_append,List.sum_cons,List.sum_nil,Nat.add_zero]
theorem aeP{α:Type}(f:α→Nat)(xs:List α)(i:Nat):k_ f (xs.take i)≤k_ f xs:=by
 unfold k_
 conv=>rhs;rw[←List.take_append_drop i xs]
 simp only[List.map_append,List.sum_append];omega
theorem Gp{α:Type}(f:α→Nat)(xs:List α)(i:Nat)(h:i<xs.length):f xs[i]≤k_ f xs:=by
 have h1:=aeO f xs i h;have h2:=aeP f xs (i+1);omega
section
variable {α:Type}
def CU(mk:Int→α→α)(zy:Int→α→Int):Int→List α→List α
 |_,[]=>[]
 |k,x::xs=>mk k x::CU mk zy (zy k x) xs
def Ua(r:Option Int)(K:Int→Int):Int:=match r with|none=>-1|some k=>K k
variable (mk:Int→α→α) (zy:Int→α→Int)
theorem Oa:∀(xs:List α) (k:Int),(CU mk zy k xs).length=xs.length
 |[],_=>rfl
 |x::xs,k=>by simp[CU,Oa xs]
@[go_sem] theorem aop(k:Int)(xs:List α):(CU mk zy k xs).length=xs.length:=Oa mk zy xs k
@[go_sem] theorem aoq(e:α→List D)(k:Int)(xs:List α):((CU mk zy k xs).map e).take xs.length=(CU mk zy k xs).map e:=List.take_of_length_le (by simp[Oa])
end
theorem cf(a b:Bool):(bif a then b else false)=(a&&b):=by cases a<;>rfl
theorem c3(a b:Bool):(bif a then true else b)=(a||b):=by cases a<;>rfl
theorem d'{a b:Bool}(h:a=true↔b=true):[AD.one (D.bool a)]=[AD.one (D.bool b)]:=by
 have:a=b:=by cases a<;>cases b<;>simp_all
 rw[this]
@[go_sem] theorem aor:ofVal (.pointer none)=.J:=rfl
def cl.dO(x:cl):Nat:=x.cells.length
def az.dO(x:az):Nat:=cl.dO x.ring+x.pending.length+x.flight.length+x.bK.length
def aB.dO(x:aB):Nat:=x.data.length
def k3.dO(x:k3):Nat:=(x.bu.length+k_ aB.dO x.bu)
def bA.dO(x:bA):Nat:=k3.dO x.buffer
def aa.dO(x:aa):Nat:=az.dO x.send+bA.dO x.recv
def aq.dO(x:aq):Nat:=x.data.length
def aC.dO(x:aC):Nat:=(x.frames.length+k_ aq.dO x.frames)
def I.dO(x:I):Nat:=(x.streams.length+k_ aa.dO x.streams)+(x.packets.length+k_ aC.dO x.packets)
structure Xu where
 bytes:List Int
 read:Int
 deriving DecidableEq
set_option maxRecDepth 100000
def bN(n b0 hi:Int):Bool:=decide (b0≤n)&&decide (n≤hi)
theorem iE(n b0 hi:Int):PureCall Tryz.prog 81 [.one (.int .i64 n),.one (.int .i64 b0),.one (.int .i64 hi)] [.one (.bool (bN n b0 hi))]:=by
 refine aL 15 Tryz.func81 Tryz.call81 [.tmp 6] ?_;intro _;simp only[go_sem]
 repeat((first|refine bb ?_|refine eJ ?_);simp only[go_sem])
 simp[bN]
theorem iS(n b0 hi:Int):PureCall Tryz.prog 80 [.one (.int .i64 n),.one (.int .i64 b0),.one (.int .i64 hi)] [.one (.bool (bN n b0 hi))]:=by
 refine aL 15 Tryz.func80 Tryz.call80 [.tmp 6] ?_;intro _;simp only[go_sem]
 repeat((first|refine bb ?_|refine eJ ?_);simp only[go_sem])
 simp[bN]
section
variable {P:Program}
def tP(P:Program)(f:FuncId)(args:List AD)(Q:List AD→Prop):Prop:=
 ∀(w:World) (us:List Value) (F:List Nat),GOk w.heap→areps w.heap false args us F→Does P f us.toArray w fun v w'=>
  ∃res,Q res∧∃F',Bel (fun b=>w.heap.size≤b) w w'∧trep w'.heap true res v F'∧F'.Nodup∧∀b∈F',w.heap.size≤b
def Fp(P:Program)(rs:List ResultVar)(Q:List AD→Prop)(σ:St):Prop:=∃res,Q res∧f_ P rs res σ
theorem Af{f:FuncId}{fn:Func}{c:Code}{args:List AD}{Q:List AD→Prop}(hf:P.funcs[f]?=some fn)(hb:fn.body=some c)(hcall:∀(args:Array Value) (w:World),(callFunc f args).run P w=.ok (.enter f args) w)(hm:P.follows .mixedOrders=true)(ts:List V)
  (hn:args.map AD.uo++List.replicate (fn.ntmps-args.length) .J=ts) (rs:List ResultVar) (hr:fn.results.toList=rs) (h0:wh args→codeE P [] c ⟨ts,[]⟩ (bx (Fp P rs Q) .mk) [] (bx (Fp P rs Q) .mk)):tP P f args Q:=by
 intro w us F hg ha;have h:=h0 (Ii _ _ _ ha);clear h0;subst hr;subst hn;have hlen:us.length=args.length:=(Nf args us F 0 ha).1;have bd:∀(σ:St) (a:Act) (w':World),Fp P fn.results.toList Q σ→ef (fun b=>w.heap.size≤b) w [] σ a w'→a.defers=[]∧∃v,(results fn a.tmps).run P w'=.ok v w'∧
   ∃res,Q res∧∃F',Bel (fun b=>w.heap.size≤b) w w'∧trep w'.heap true res v F'∧F'.Nodup∧∀b∈F',w.heap.size≤b:=by
  rintro σ a w' ⟨res,hq,xY⟩ ⟨aJ,φ,r,_⟩;obtain⟨v,F',h1,h2,aj,aD⟩:=Nb r xY;exact⟨r.mZ,v,h1,res,hq,F',r.fm,h2,aj,fun b hb=>(aD b hb).1⟩
 refine Does.enter (hcall _ _) (calls_of_wp hf hb ?_);refine ES (B:=fun b=>w.heap.size≤b) (w0:=w) (kp:=[]) (kv:=[]) rfl hm c _ (Fp P fn.results.toList Q) [] (Fp P fn.results.toList Q) _ _ w (fun σ a w' h' cW=>?_) (fun id σ a w' h' _=>h'.elim) (fun σ a w' h' cW=>?_) h ?_
 ·exact bd σ a w' h' cW
 ·exact bd σ a w' h' cW
 ·have:=Nd hg ha (fn.ntmps-args.length) [] (by simp);have hs:us.toArray.size=args.length:=by rw[List.size_toArray,hlen]
  rw[hs];exact this
theorem tP.inl{f:FuncId}{CZ:List AD}{Q:List AD→Prop}{kv:List V}{hs:List H}{vs:List V}{K:V→List H→Prop}(h:tP P f CZ Q)(ah:toADs hs vs=some CZ)(hk:∀rs,Q rs→K (mC rs hs.length) (hnew hs hs.length (aHs rs))):dj P f kv hs vs K:=by
 intro B w0 kp us w br aI;obtain⟨aJ,φ,r,bz⟩:=aI;obtain⟨F,aZ⟩:=HG (St.le.refl ⟨vs,hs⟩) r vs CZ us ah (by simpa using r.gJ);refine(h w us F r.Mj aZ).mono ?_;rintro v w' ⟨res,hq,F',ag,e2,aY,bk⟩;obtain⟨bl,fR,gw⟩:=Me e2;have jh:∀i,hs.length≤i→i<hs.length+(aHs res).length→¬aJ i:=fun i hi _ hd=>by have:=bz i hd;simp at this;omega
 obtain⟨cv,hA,dX⟩:=Mg (n:=hs.length) r (fun i hi h2=>jh i hi h2) ag ⟨fR.1,fR.2.1,fR.2.2.1⟩ aY bk;refine⟨_,_,hk res hq,_,cv,⟨?_,dX.kp,dX.hp,dX.dy,dX.eK,dX.eL,dX.fl,dX.fm,dX.bs,rfl,dX.kE⟩,?_⟩
 ·simp only[VRels];exact⟨v,[],rfl,gw cv hs.length _ hA,rfl⟩
 ·intro i hi;have h1:=Ec (aHs res) hs hs.length;rcases hi with hi|hi
  ·have:=bz i hi;simp at this⊢;omega
  ·rcases h1.2 with h2|h2
   ·rw[h2]at hi;simp at hi;omega
   ·simp at hi⊢;omega
theorem ae.j'{kv:List V}{σ:St}{dst:Option Tmp}{K:St→Prop}{f:FuncId}{vs:List V}{xP:Option (List AD)}{CZ:List AD}{Q:List AD→Prop}(h:tP P f CZ Q)(ah:toADs σ.heap vs=some CZ)
  (hk:∀rs,Q rs→K ⟨ep σ.tmps dst (mC rs σ.heap.length),hnew σ.heap σ.heap.length (aHs rs)⟩):ae P kv σ dst f [] xP vs K:=
 ae.inl (by rw[List.append_nil];exact tP.inl h ah hk)
end
section
variable {P:Program} {kv:List V} {c:Code} {σ:St} {K K2:St→Prop} {X:List (Nat×(St→Prop))} {cc:St→Prop}
def headC:Nat→Code→Code
 |k+1,.seq a b=>.seq a (headC k b)
 |_,_=>.skip
def w1:Nat→Code→Code
 |k+1,.seq _ b=>w1 k b
 |_,c=>c
@[go_sem] theorem ags(k:Nat)(a b:Code):headC (k+1) (.seq a b)=.seq a (headC k b):=by rw[headC]
@[go_sem] theorem agt(c:Code):headC 0 c=.skip:=by cases c<;>rfl
@[go_sem] theorem yS(k:Nat)(a b:Code):w1 (k+1) (.seq a b)=w1 k b:=by rw[w1]
@[go_sem] theorem yT(c:Code):w1 0 c=c:=by cases c<;>rfl
def gk(P:Program)(kv:List V)(c:Code)(σ:St)(K:St→Prop)(X:List (Nat×(St→Prop)))(cc:St→Prop):Prop:=
 ∀(B:Nat→Prop) (w0:World) (kp:List (V×Value)) (Q:Exit→Act→World→Prop) (a:Act) (w:World),kp.map (·.1)=kv→
  (∀σ a w,K σ→ef B w0 kp σ a w→Q .normal a w)→TL B w0 kp Q X→(∀σ a w,cc σ→ef B w0 kp σ a w→Q .ret a w)→ef B w0 kp σ a w→c.wp P Q a w
theorem gO(hm:P.follows .mixedOrders=true)(h:codeE P kv c σ K X cc):gk P kv c σ K X cc:=fun _ _ _ Q a w br bF b_ aI r=>ES br hm c σ K X cc Q a w bF b_ aI h r
theorem OT(hm:P.follows .mixedOrders=true):∀(k:Nat) (c:Code) (σ:St),codeE P kv (headC k c) σ K2 X cc→(∀σ',K2 σ'→gk P kv (w1 k c) σ' K X cc)→gk P kv c σ K X cc
 |0,c,σ,h1,h2=>by rw[agt]at h1;have:=h2 σ h1;rwa [yT]at this
 |k+1,c,σ,h1,h2=>by
  cases c with
  |seq a b=>
   rw[ags]at h1;intro B w0 kp Q u w br bF b_ aI r;refine wp_seq (ES br hm a σ (fun σ'=>codeE P kv (headC k b) σ' K2 X cc) X cc _ u w (fun σ' a' w' h' cW=>?_) (fun id σ' a' w' h' cW=>b_ id σ' a' w' h' cW) (fun σ' a' w' h' cW=>aI σ' a' w' h' cW) h1 r);exact OT hm k b σ' h' (fun pB hk=>by have:=h2 pB hk;rwa [yS]at this) B w0 kp Q a' w' br bF b_ aI cW
  |_=>exact h2 σ h1
theorem Q6{ρ:List Nat}{σ':St}(hs:kQ kv ρ σ σ')(h:gk P kv c σ' K X cc):gk P kv c σ K X cc:=fun B w0 kp Q a w br bF b_ aI r=>h B w0 kp Q a w br bF b_ aI (DM br hs r)
def di{α:Type}(kv:List V)(gL:α→St)(iu:α→Prop)(σ:St):Prop:=∃x ρ,iu x∧kQ kv ρ σ (gL x)
theorem di.intro{α:Type}{gL:α→St}{iu:α→Prop}(x:α)(ρ:List Nat)(h1:iu x)(h2:kQ kv ρ σ (gL x)):di kv gL iu σ:=⟨x,ρ,h1,h2⟩
theorem ej{α:Type}(hm:P.follows .mixedOrders=true)(k:Nat)(gL:α→St)(iu:α→Prop)(h1:codeE P kv (headC k c) σ (bx (di kv gL iu) .mk) X cc)(h2:∀x,iu x→gk P kv (w1 k c) (gL x) K X cc):gk P kv c σ K X cc:=
 OT hm k c σ h1 fun _ ⟨x,_,hp,hs⟩=>Q6 hs (h2 x hp)
theorem Zu{id:Nat}(h:gk P kv c σ K ((id,K)::X) cc):gk P kv (.block id c) σ K X cc:=by
 intro B w0 kp Q a w br bF b_ aI r;refine wp_block (h B w0 kp _ a w br (fun σ' a' w' h' cW=>bF σ' a' w' h' cW) (fun oF σ' a' w' h' cW=>?_) (fun σ' a' w' h' cW=>aI σ' a' w' h' cW) r);simp only[outE]at h';simp only[Exit.inBlock];by_cases hi:oF=id
 ·rw[if_pos hi];rw[if_pos hi]at h';exact bF σ' a' w' h' cW
 ·rw[if_neg hi];rw[if_neg hi]at h';exact b_ oF σ' a' w' h' cW
end
section
variable {P:Program}
theorem agu{f:FuncId}{fn:Func}{c:Code}{args res:List AD}(hf:P.funcs[f]?=some fn)(hb:fn.body=some c)(hcall:∀(args:Array Value) (w:World),(callFunc f args).run P w=.ok (.enter f args) w)(ts:List V)
  (hn:args.map AD.uo++List.replicate (fn.ntmps-args.length) .J=ts) (rs:List ResultVar) (hr:fn.results.toList=rs) (h0:wh args→gk P [] c ⟨ts,[]⟩ (bx (f_ P rs res) .mk) [] (bx (f_ P rs res) .mk)):PureCall P f args res:=by
 intro w us F hg ha;have h:=h0 (Ii _ _ _ ha);clear h0;subst hr;subst hn;have hlen:us.length=args.length:=(Nf args us F 0 ha).1;have bd:∀(σ:St) (a:Act) (w':World),f_ P fn.results.toList res σ→ef (fun b=>w.heap.size≤b) w [] σ a w'→a.defers=[]∧∃v,(results fn a.tmps).run P w'=.ok v w'∧
   ∃F',Bel (fun b=>w.heap.size≤b) w w'∧trep w'.heap true res v F'∧F'.Nodup∧∀b∈F',w.heap.size≤b:=by
  rintro σ a w' xY ⟨aJ,φ,r,_⟩;obtain⟨v,F',h1,h2,aj,aD⟩:=Nb r xY;exact⟨r.mZ,v,h1,F',r.fm,h2,aj,fun b hb=>(aD b hb).1⟩
 refine Does.enter (hcall _ _) (calls_of_wp hf hb ?_);refine h (fun b=>w.heap.size≤b) w [] _ _ w rfl (fun σ a w' h' cW=>?_) (fun id σ a w' h' _=>h'.elim) (fun σ a w' h' cW=>?_) ?_
 ·exact bd σ a w' h' cW
 ·exact bd σ a w' h' cW
 ·have:=Nd hg ha (fn.ntmps-args.length) [] (by simp);have hs:us.toArray.size=args.length:=by rw[List.size_toArray,hlen]
  rw[hs];exact this
end
theorem tC{P:Program}{f:FuncId}{fn:Func}{c:Code}{args res:List AD}(n:Nat)(hf:P.funcs[f]?=some fn)(hcall:∀(args:Array Value) (w:World),(callFunc f args).run P w=.ok (.enter f args) w)(rs:List ResultVar)
  (h:wh args→gk P [] c ⟨ts0 args n,[]⟩ (bx (f_ P rs res) .mk) [] (bx (f_ P rs res) .mk)) (hb:fn.body=some c:=by rfl) (hn:fn.ntmps=n:=by rfl) (hr:fn.results.toList=rs:=by rfl):PureCall P f args res:=
 agu hf hb hcall _ (by rw[hn];exact LN args n) rs hr h
section
variable {P:Program} {kv:List V} {c:Code} {σ:St} {K:St→Prop} {X:List (Nat×(St→Prop))} {cc:St→Prop}
theorem U5{B:Nat→Prop}{w0:World}{kp:List (V×Value)}{a:Act}{w:World}{id sz:Nat}{xs:List (List D)}(h:aG σ.heap id=.af sz xs)(r:ef B w0 kp σ a w):ef B w0 kp ⟨σ.tmps,bI σ.heap id (.ai sz xs true)⟩ a w:=by
 obtain⟨aJ,φ,r,bz⟩:=r;have hg:∀i,i≠id→aG (bI σ.heap id (.ai sz xs true)) i=aG σ.heap i:=fun i hi=>by rw[gF,if_neg hi]
 have CM:aG (bI σ.heap id (.ai sz xs true)) id=.ai sz xs true:=by rw[gF,if_pos rfl]
 refine⟨aJ,φ,wx r (fun i=>i=id) aJ φ _ w (fun i hi=>⟨hg i hi,rfl⟩) (mY.refl φ) (Nat.le_refl _) (fun _ _ _=>rfl) ?_ ?_ (fun i j b hi ak _ _=>hi.trans ak.symm) ?_ ?_ r.fl r.fm,fun i hi=>Nat.lt_of_lt_of_le (bz i hi) (Es _ _ _).1⟩
 ·rintro i rfl b ⟨β,e,ax⟩;refine Or.inr ⟨i,rfl,β,e,?_⟩;rw[CM]at ax;rw[h];exact ax.imp (fun q=>⟨rfl,q.2⟩) (fun q=>⟨rfl,q.2⟩)
 ·rintro i rfl β e b ht;refine Or.inr ⟨i,β,rfl,e,?_⟩;rw[CM]at ht;rw[h];rcases ht with ⟨_,q⟩|⟨q,_⟩
  ·exact Or.inl ⟨rfl,q⟩
  ·cases q
 ·rintro i β rfl e _;exact r.eK i β e (by rw[h];rfl)
 ·rintro i rfl;rcases r.hp i with hd|⟨β,e,hr⟩
  ·rw[h]at hd;cases hd
  ·refine Or.inr ⟨β,e,?_⟩;rw[CM];rw[h]at hr;simp only[dD]at hr⊢;obtain⟨q,hr⟩:=hr;refine⟨q,hr.imp id ?_⟩;rintro⟨b,aK,a7,b8,cj⟩;exact⟨b,β.cN,aK,a7,b8,cj,fun _=>rfl,fun q=>by cases q⟩
theorem JT(id:Nat){sz:Nat}{xs:List (List D)}(h:aG σ.heap id=.af sz xs)(hg:gk P kv c ⟨σ.tmps,bI σ.heap id (.ai sz xs true)⟩ K X cc):gk P kv c σ K X cc:=fun B w0 kp Q a w br bF b_ aI r=>hg B w0 kp Q a w br bF b_ aI (U5 h r)
end
theorem K6:ofVal (.int .u64 33)=.d (.int .u64 33):=rfl
theorem K7:ofVal (.int .u64 45)=.d (.int .u64 45):=rfl
theorem K8(k:IntKind)(x y:Int):shI .shr k x y=some (0≤y,.d (.int k (x.fdiv (2^min y.toNat k.bits)))):=rfl
theorem DK(x:Int):0≤bitI .and .i64 x 255∧bitI .and .i64 x 255≤255:=by
 have h:((BitVec.ofInt IntKind.i64.bits x &&& BitVec.ofInt IntKind.i64.bits 255).toNat:Int)≤255:=by
  have:(BitVec.ofInt IntKind.i64.bits x &&& BitVec.ofInt IntKind.i64.bits 255).toNat≤255:=by
   rw[BitVec.toNat_and];exact Nat.le_trans Nat.and_le_right (by decide)
  omega
 have e:bitI .and .i64 x 255=((BitVec.ofInt IntKind.i64.bits x &&& BitVec.ofInt IntKind.i64.bits 255).toNat:Int):=by
  unfold bitI;simp only;rw[bC]<;>omega
 rw[e];omega
def cE(bs:List Int)(i:Nat)(h:Int):H:=.box [.d (.sl 1 (bs.map eU8)),.d (.int .i64 i),.d (.int .i64 h)]
theorem fu(hs:List H)(x:H):bI hs hs.length x=hs++[x]:=by unfold bI;simp
theorem dN(hs ys:List H)(n:Nat)(x:H):bI (hs++ys) (hs.length+n) x=hs++bI ys n x:=by
 unfold bI;by_cases h:n<ys.length
 ·simp[h]
 ·simp[h,Nat.add_sub_add_left]
theorem eX(hs ys:List H)(x:H):bI (hs++ys) hs.length x=hs++bI ys 0 x:=dN hs ys 0 x
theorem dz(hs ys:List H)(n:Nat):aG (hs++ys) (hs.length+n)=aG ys n:=by
 unfold aG;rw[List.getD_eq_getElem?_getD,List.getD_eq_getElem?_getD,List.getElem?_append_right (by omega),Nat.add_sub_cancel_left]
theorem d_(hs ys:List H):aG (hs++ys) hs.length=aG ys 0:=dz hs ys 0
def nF(ρ:List Nat)(m:Nat):Prop:=∀i,i<m→ρ.getD i 0=i
theorem yr{m n:Nat}(h:m≤n):nF (List.range n) m:=fun i hi=>by
 have:i<n:=by omega
 simp[this]
theorem K9{m n:Nat}(h:m≤n)(r:List Nat):nF (List.range n++r) m:=fun i hi=>by
 have:i<n:=by omega
 rw[List.getD_eq_getElem?_getD,List.getElem?_append_left (by simpa using this)];simp[this]
mutual
theorem K_{ρ:List Nat}{m:Nat}(hf:nF ρ m):∀(v:V),vok m v→ren ρ v=v
 |.J,_=>rfl
 |.d _,_=>rfl
 |.c7 _,_=>rfl
 |.agg vs,h=>by simp only[vok]at h;simp only[ren,GP hf vs h]
 |.ptr id _ _,h=>by simp only[vok]at h;simp only[ren,hf id h]
 |.eN _ _,_=>rfl
 |.sl id _ _,h=>by simp only[vok]at h;simp only[ren,hf id h]
 |.fn _ vs,h=>by simp only[vok]at h;simp only[ren,GP hf vs h]
 |.c6 vs,h=>by simp only[vok]at h;simp only[ren,GP hf vs h]
 |.bq _ v,h=>by simp only[vok]at h;simp only[ren,K_ hf v h]
theorem GP{ρ:List Nat}{m:Nat}(hf:nF ρ m):∀(vs:List V),a6 m vs→rens ρ vs=vs
 |[],_=>rfl
 |v::vs,h=>by simp only[a6]at h;simp only[rens,K_ hf v h.1,GP hf vs h.2]
end
mutual
theorem K'{m n:Nat}(h:m≤n):∀(v:V),vok m v→vok n v
 |.J,_=>by simp[vok]
 |.d _,_=>by simp[vok]
 |.c7 _,_=>by simp[vok]
 |.agg vs,k=>by simp only[vok]at k⊢;exact mj h vs k
 |.ptr id _ _,k=>by simp only[vok]at k⊢;omega
 |.eN _ _,_=>by simp[vok]
 |.sl id _ _,k=>by simp only[vok]at k⊢;omega
 |.fn _ vs,k=>by simp only[vok]at k⊢;exact mj h vs k
 |.c6 vs,k=>by simp only[vok]at k⊢;exact mj h vs k
 |.bq _ v,k=>by simp only[vok]at k⊢;exact K' h v k
theorem mj{m n:Nat}(h:m≤n):∀(vs:List V),a6 m vs→a6 n vs
 |[],_=>by simp[a6]
 |v::vs,k=>by simp only[a6]at k⊢;exact⟨K' h v k.1,mj h vs k.2⟩
end
theorem zP{m:Nat}:∀{xs ys:List V},a6 m xs→a6 m ys→a6 m (xs++ys)
 |[],_,_,h=>h
 |x::xs,ys,h,k=>by simp only[a6]at h;simp only[bf,a6];exact⟨h.1,zP h.2 k⟩
def rok(m:Nat):H→Prop
 |.box cs=>a6 m cs
 |.fA _ _ _ _=>False
 |_=>True
def roks(m:Nat):List H→Prop
 |[]=>True
 |x::xs=>rok m x∧roks m xs
theorem nd{m n:Nat}(h:m≤n)(x:H)(k:rok m x):rok n x:=by
 unfold rok at *;split at k
 ·exact mj h _ k
 ·exact k.elim
 ·trivial
theorem Ab{m n:Nat}(h:m≤n):∀{xs:List H},roks m xs→roks n xs
 |[],_=>trivial
 |x::_KM,k=>⟨nd h x k.1,Ab h k.2⟩
theorem DL{m:Nat}:∀{xs ys:List H},roks m xs→roks m ys→roks m (xs++ys)
 |[],_,_,h=>h
 |_Qa::_KM,_YA,h,k=>⟨h.1,DL h.2 k⟩
theorem BH{m:Nat}:∀{xs:List H},roks m xs→allOk m xs
 |[],_=>trivial
 |x::xs,k=>⟨by cases x<;>first|exact k.1|trivial,BH k.2⟩
theorem Qy{ρ:List Nat}{m:Nat}(hf:nF ρ m){v:V}(h:vok m v):vsee ρ v v:=by
 unfold vsee;split
 ·trivial
 ·exact K_ hf _ h
theorem uM{ρ:List Nat}{m n:Nat}(hf:nF ρ m)(hn:m≤n):∀{kv:List V},a6 m kv→uL ρ n kv
 |[],_=>trivial
 |v::vs,h=>by
  simp only[a6]at h;exact⟨⟨Qy hf h.1,K' hn v h.1⟩,uM hf hn h.2⟩
theorem Qz{ρ:List Nat}{m:Nat}(hf:nF ρ m):∀{vs:List V},a6 m vs→vsees ρ vs vs
 |[],_=>trivial
 |v::vs,h=>by simp only[a6]at h;exact⟨Qy hf h.1,Qz hf h.2⟩
theorem BG{ρ:List Nat}{m:Nat}(hf:nF ρ m):∀{x:H},rok m x→hsee ρ x x
 |.cF,_=>trivial
 |.box cs,h=>by simp only[hsee];exact Qz hf h
 |.ai _ _ _,_=>⟨rfl,rfl,rfl⟩
 |.iA _ _,_=>⟨rfl,rfl⟩
 |.af _ _,_=>⟨rfl,rfl⟩
theorem GQ{ρ:List Nat}{m:Nat}(hf:nF ρ m)(hs:List H):∀(is:List Nat) (xs:List H),is.length=xs.length→(∀k,k<xs.length→∃x,xs[k]?=some x∧aG hs (is.getD k 0)=x∧rok m x)→hsees ρ hs is xs
 |[],[],_,_=>trivial
 |i::is,x::xs,hl,h=>by
  refine⟨?_,GQ hf hs is xs (by simpa using hl) fun k hk=>?_⟩
  ·obtain⟨y,h1,h2,aj⟩:=h 0 (by simp);simp only[List.getElem?_cons_zero,uB]at h1;subst h1;simp only[oV]at h2;rw[h2];exact BG hf aj
  ·obtain⟨y,h1,h2,aj⟩:=h (k+1) (by simpa using hk);exact⟨y,by simpa using h1,by simpa using h2,aj⟩
theorem GR{m:Nat}:∀{xs:List H} {k:Nat} {x:H},roks m xs→xs[k]?=some x→rok m x
 |[],_,_,_,h=>by simp at h
 |y::ys,0,x,k,h=>by simp at h;subst h;exact k.1
 |y::ys,n+1,x,k,h=>GR (xs:=ys) k.2 (by simpa using h)
theorem GS{hs:List H}{i:Nat}{x:H}(h:hs[i]?=some x):aG hs i=x:=by unfold aG;rw[List.getD_eq_getElem?_getD,h];rfl
theorem zR{kv ts ts':List V}{hs ex:List H}(hr:roks hs.length hs)(br:a6 hs.length kv)(ht:vsees (List.range hs.length) ts' ts)(lE:a6 hs.length ts'):kQ kv (List.range hs.length) ⟨ts,hs++ex⟩ ⟨ts',hs⟩:=by
 have hf:nF (List.range hs.length) hs.length:=yr (Nat.le_refl _);refine⟨List.nodup_range,ht,GQ hf _ _ _ (by simp) fun k hk=>?_,lE,BH hr,uM hf (Nat.le_refl _) br⟩;refine⟨hs[k],dg hk,?_,GR hr (dg hk)⟩;have:(List.range hs.length).getD k 0=k:=hf k hk;rw[this];exact GS (by rw[List.getElem?_append_left hk];exact dg hk)
theorem GG{kv ts ts':List V}{hs:List H}(hr:roks hs.length hs)(br:a6 hs.length kv)(ht:vsees (List.range hs.length) ts' ts)(lE:a6 hs.length ts'):kQ kv (List.range hs.length) ⟨ts,hs⟩ ⟨ts',hs⟩:=by
 have:=zR (ex:=[]) hr br ht lE
 rwa [List.append_nil]at this
theorem YB(m:Nat)(bs:List Int)(i:Nat)(h:Int):rok m (cE bs i h):=by simp[cE,rok,a6,vok]
theorem Ac{bs:List Int}{i:Nat}{h:Int}{pre rest ex:List H}{kv ts ts':List V}(hr:roks (pre.length+(rest.length+1)) pre∧roks (pre.length+(rest.length+1)) rest)(br:a6 (pre.length+(rest.length+1)) kv)(ht:vsees (List.range (pre.length+(rest.length+1))) ts' ts)(lE:a6 (pre.length+(rest.length+1)) ts'):kQ kv (List.range (pre.length+(rest.length+1))) ⟨ts,pre++cE bs i h::(rest++ex)⟩ ⟨ts',pre++cE bs i h::rest⟩:=by
 have e:(pre++cE bs i h::rest).length=pre.length+(rest.length+1):=by simp
 have:=zR (hs:=pre++cE bs i h::rest) (ex:=ex) (ts:=ts) (ts':=ts') (kv:=kv) (by rw[e];exact DL hr.1 ⟨YB _ _ _ _,hr.2⟩) (by rw[e];exact br) (by rw[e];exact ht) (by rw[e];exact lE);rw[e,List.append_assoc]at this;exact this
theorem QA{bs:List Int}{i:Nat}{h:Int}{pre rest:List H}{kv ts ts':List V}(hr:roks (pre.length+(rest.length+1)) pre∧roks (pre.length+(rest.length+1)) rest)(br:a6 (pre.length+(rest.length+1)) kv)(ht:vsees (List.range (pre.length+(rest.length+1))) ts' ts)(lE:a6 (pre.length+(rest.length+1)) ts'):kQ kv (List.range (pre.length+(rest.length+1))) ⟨ts,pre++cE bs i h::rest⟩ ⟨ts',pre++cE bs i h::rest⟩:=by
 have:=Ac (bs:=bs) (i:=i) (h:=h) (ex:=[]) hr br ht lE
 rwa [List.append_nil]at this
theorem QB(p r:Nat):(List.range (p+(r+1))).getD p 0=p:=yr (Nat.le_refl _) p (by omega)
theorem QC(n k:Nat)(l:List Nat):(List.range n++k::l).getD n 0=k:=by
 rw[List.getD_eq_getElem?_getD,List.getElem?_append_right (by simp)];simp
def o2(kv:List V)(K:V→List H→Prop)(x:V)(hs':List H):Prop:=∃ρ x2 jN,kQ kv ρ ⟨[x],hs'⟩ ⟨[x2],jN⟩∧K x2 jN
theorem dj.oq{P:Program}{f:FuncId}{kv:List V}{hs:List H}{vs:List V}{K:V→List H→Prop}(h:dj P f kv hs vs (o2 kv K)):dj P f kv hs vs K:=by
 intro B w0 kp us w br aI;exact(h B w0 kp us w br aI).mono fun v w' ⟨x,hs',⟨ρ,x2,jN,h1,h2⟩,aj⟩=>⟨x2,jN,h2,DM br h1 aj⟩
set_option maxRecDepth 100000
def QD:List (List bt):=ct 13 [1564919,1564917,1564911,1564893,1564839,1594201,1593715,1592257,1587883,1574761,1535274,1417176,1062882]
def QE:List (List bt):=ct 10 [49247,49245,49239,49221,59008,58846,58360,56902,52528,39366]
def QF:List (List bt):=ct 15 [14083187,14339185,14339179,14339161,14339107,14348785,14348299,14346841,14342467,14329225,14289859,14171761,13817466,12754584,9565938]
attribute [go_sem] QD QE QF
theorem DN(bs:List Int)(hm:bs.length≤maxLen)(i:Nat)(h:Int)(pre rest:List H)(kv:List V)(K:V→List H→Prop)(hi:i≤bs.length)
  (hk:∀(cz:Nat) (h' x:Int),cz≤bs.length→0≤x→x≤255→K (.d (.int .i64 x)) (pre++cE bs cz h'::rest)):dj Tryz.prog 128 kv (pre++cE bs i h::rest) [.ptr pre.length 0 0] K:=by
 refine(en (n:=58) (rs:=[.tmp 2]) Tryz.func128 rfl Tryz.call128 hZ rfl rfl ?_);simp only[cE]at hk⊢;simp only[go_sem,d_,eX]
 try simp only[go_sem,d_,eX,lM,K6,K7,K8]
 repeat'((first|refine ba QD (by kernel_rfl) (by rfl) ?_|refine ba QE (by kernel_rfl) (by rfl) ?_|refine ba QF (by kernel_rfl) (by rfl) ?_|refine bp (fun h=>?_) (fun h=>?_))<;>simp only[go_sem,d_,lM,K6,K7,K8])
 ·have hlt:i<bs.length:=by
   have:=ch h;omega
  have av:=bZ eU8 bs i hlt
  try simp only[go_sem,d_,eX,aF,av,eU8]
  repeat'(first|(with_reducible refine al ?_)|fail)
  rw[dv hlt hm];exact hk _ _ _ (by omega) (DK _).1 (DK _).2
 ·exact hk _ _ _ hi (DK _).1 (DK _).2
theorem QG{x n:Int}(hx:0≤x)(hn:0<n):0≤x.tmod n∧x.tmod n<n:=⟨Int.tmod_nonneg _ hx,Int.tmod_lt_of_pos _ hn⟩
theorem j0(bs:List Int)(hm:bs.length≤maxLen)(i:Nat)(h:Int)(pre rest:List H)(kv:List V)(n:Int)(hn:0<n)(tO:n≤4294967296)(K:V→List H→Prop)(hi:i≤bs.length)
  (hk:∀(cz:Nat) (h' x:Int),cz≤bs.length→0≤x→x<n→K (.d (.int .i64 x)) (pre++cE bs cz h'::rest)):dj Tryz.prog 66 kv (pre++cE bs i h::rest) [.ptr pre.length 0 0,.d (.int .i64 n)] K:=by
 refine(en (n:=37) (rs:=[.tmp 4]) Tryz.func66 rfl Tryz.call66 hZ rfl rfl ?_);simp only[go_sem];refine bp (fun h1=>?_) (fun _=>?_)
 ·have:=ch h1;omega
 simp only[go_sem];refine bp (fun _=>?_) (fun h1=>?_)
 ·simp only[go_sem];refine ae.inl (DN bs hm i h pre rest _ _ hi fun eo h1 x1 bD dx c1=>?_);simp only[go_sem];refine⟨by omega,?_⟩;have:=QG dx hn;exact hk _ _ _ bD this.1 this.2
 ·have hb:=cD h1;simp only[go_sem];refine ae.inl (DN bs hm i h pre rest _ _ hi fun eo h1 x1 bD dx c1=>?_);simp only[go_sem];refine ae.inl (DN bs hm eo h1 pre rest _ _ bD fun dk h2 x2 bR dt c2=>?_);simp only[go_sem];refine ae.inl (DN bs hm dk h2 pre rest _ _ bR fun dQ aj fe a3 dq ja=>?_);simp only[go_sem];refine ae.inl (DN bs hm dQ aj pre rest _ _ a3 fun g_ aD DO a4 oA tN=>?_);simp only[go_sem];refine⟨by omega,?_⟩;rw[bC (n:=x1 * 16777216) (by omega) (by omega),bC (n:=x2 * 65536) (by omega) (by omega),bC (n:=fe * 256) (by omega) (by omega),bC (n:=x1 * 16777216+x2 * 65536) (by omega) (by omega),bC (n:=x1 * 16777216+x2 * 65536+fe * 256) (by omega) (by omega),bC (n:=x1 * 16777216+x2 * 65536+fe * 256+DO) (by omega) (by omega)];have:=QG (x:=x1 * 16777216+x2 * 65536+fe * 256+DO) (by omega) hn;exact hk _ _ _ a4 this.1 this.2
theorem vU(bs:List Int)(hm:bs.length≤maxLen)(i:Nat)(h:Int)(pre rest:List H)(kv:List V)(n:Int)(hn:0<n)(tO:n≤4294967296)(K:V→List H→Prop)(hi:i≤bs.length)
  (hk:∀(cz:Nat) (h':Int) (b:Bool),cz≤bs.length→K (.d (.bool b)) (pre++cE bs cz h'::rest)):dj Tryz.prog 33 kv (pre++cE bs i h::rest) [.ptr pre.length 0 0,.d (.int .i64 n)] K:=by
 refine(en (n:=9) (rs:=[.tmp 4]) Tryz.func33 rfl Tryz.call33 hZ rfl rfl ?_);simp only[go_sem];refine ae.inl (j0 bs hm i h pre rest _ n hn tO _ hi fun eo h1 x1 bD dx c1=>?_);simp only[go_sem];exact hk _ _ _ bD
theorem zQ(bs:List Int)(hm:bs.length≤maxLen)(i:Nat)(h:Int)(pre rest:List H)(kv:List V)(id:Nat)(xs:List Int)(he:aG rest id=.ai 1 (xs.map aW) true)(hn:0<xs.length)(tO:xs.length≤1000)(K:V→List H→Prop)(hi:i≤bs.length)
  (hk:∀(cz:Nat) (h' x:Int),cz≤bs.length→x∈xs→K (.d (.int .i64 x)) (pre++cE bs cz h'::rest)):dj Tryz.prog 79 kv (pre++cE bs i h::rest) [.ptr pre.length 0 0,.sl (pre.length+(id+1)) 0 xs.length] K:=by
 refine(en (n:=12) (rs:=[.tmp 4]) Tryz.func79 rfl Tryz.call79 hZ rfl rfl ?_);simp only[go_sem];refine ae.inl (j0 bs hm i h pre rest _ xs.length (by omega) (by omega) _ hi fun eo h1 x1 bD dx c1=>?_);obtain⟨k,rfl⟩:=Int.eq_ofNat_of_zero_le dx;have hlt:k<xs.length:=by omega
 have av:=bZ aW xs k hlt;simp only[go_sem,dz,he,av,aF,lM,aW];refine⟨⟨by omega,by omega⟩,?_⟩;exact⟨hlt,hk _ _ _ bD (List.getElem_mem hlt)⟩
theorem GU(bs:List Int)(hm:bs.length≤maxLen)(i:Nat)(h:Int)(pre rest:List H)(kv:List V)(id:Nat)(xs:List (List UInt8))(he:aG rest id=.ai 1 (xs.map eS) true)(hn:0<xs.length)(tO:xs.length≤1000)(K:V→List H→Prop)(hi:i≤bs.length)
  (hk:∀(cz:Nat) (h':Int) (x:List UInt8),cz≤bs.length→x∈xs→K (.d (.str x)) (pre++cE bs cz h'::rest)):dj Tryz.prog 115 kv (pre++cE bs i h::rest) [.ptr pre.length 0 0,.sl (pre.length+(id+1)) 0 xs.length] K:=by
 refine(en (n:=12) (rs:=[.tmp 4]) Tryz.func115 rfl Tryz.call115 hZ rfl rfl ?_);simp only[go_sem];refine ae.inl (j0 bs hm i h pre rest _ xs.length (by omega) (by omega) _ hi fun eo h1 x1 bD dx c1=>?_);obtain⟨k,rfl⟩:=Int.eq_ofNat_of_zero_le dx;have hlt:k<xs.length:=by omega
 have av:=bZ eS xs k hlt;simp only[go_sem,dz,he,av,aF,lM,eS];refine⟨⟨by omega,by omega⟩,?_⟩;exact⟨hlt,hk _ _ _ bD (List.getElem_mem hlt)⟩
theorem YC{x:List UInt8}(h:x∈[[97],[98],[99],[100]]):x.length=1:=by
 simp only[List.mem_cons,List.not_mem_nil,or_false]at h;rcases h with rfl|rfl|rfl|rfl<;>rfl
theorem GV(bs:List Int)(hm:bs.length≤maxLen)(i:Nat)(h:Int)(pre rest:List H)(kv:List V)(most:Nat)(hr:roks (pre.length+(rest.length+1)) pre∧roks (pre.length+(rest.length+1)) rest)(br:a6 (pre.length+(rest.length+1)) kv)(hb:most≤1000)(K:V→List H→Prop)(hi:i≤bs.length)
  (hk:∀(cz:Nat) (h':Int) (s:List UInt8),cz≤bs.length→s.length≤most→K (.d (.str s)) (pre++cE bs cz h'::rest)):dj Tryz.prog 54 kv (pre++cE bs i h::rest) [.ptr pre.length 0 0,.d (.int .i64 most)] K:=by
 refine(en (n:=21) (rs:=[.tmp 4]) Tryz.func54 rfl Tryz.call54 hZ rfl rfl ?_);simp only[go_sem];rw[bC (n:=(most:Int)+1) (by omega) (by omega)];refine ae.inl (j0 bs hm i h pre rest _ ((most:Int)+1) (by omega) (by omega) _ hi fun eo h1 x1 bD dx c1=>?_);obtain⟨k,rfl⟩:=Int.eq_ofNat_of_zero_le dx;simp only[go_sem];refine b5.intro (α:=Nat×Int×Nat×List UInt8) (fun y=>⟨(.ptr pre.length 0 0::.d (.int .i64 most)::.J::.J::.d (.str [])::.d (.str y.2.2.2)::.d (.int .i64 y.2.2.1)::jn 14 []),pre++cE bs y.1 y.2.1::rest⟩)
  (fun y=>y.2.2.1) (fun y=>y.1≤bs.length∧y.2.2.1+y.2.2.2.length≤most) (eo,h1,k,[]) (List.range (pre.length+(rest.length+1))) ⟨bD,by simp;omega⟩ ?_ ?_
 ·exact QA hr br (by simp[vsees,vsee,ren]) (by simp[a6,vok])
 ·rintro⟨dk,h2,n,s⟩ ⟨gD,hs⟩;simp only at hs;simp only[go_sem];refine bp (fun q=>?_) (fun q=>?_)
  ·have hn:=ch q;simp only[go_sem,fu,dN];refine ae.inl (GU bs hm dk h2 pre (rest++[.ai 1 ([[97],[98],[99],[100]].map eS) true]) _ rest.length [[97],[98],[99],[100]] (by rw[d_];rfl) (by decide) (by decide) _ gD fun dQ aj x a3 dq=>?_);have hl:=YC dq;simp only[go_sem];refine⟨by simp only[maxLen];omega,?_⟩;rw[bC (n:=(n:Int)-1) (by omega) (by omega)];refine bm.intro (dQ,aj,n-1,s++x) (List.range (pre.length+(rest.length+1))) ⟨a3,by simp only[List.length_append];omega⟩ (show n-1<n by omega) ?_;have e:((n-1:Nat):Int)=(n:Int)-1:=by omega
   simp only[e];exact Ac hr br (by simp[vsees,vsee,ren]) (by simp[a6,vok])
  ·simp only[go_sem];exact hk _ _ _ gD (by omega)
theorem BM(bs:List Int)(hm:bs.length≤maxLen)(pre:List H)(kv:List V)(hr:roks pre.length pre)(br:a6 pre.length kv)(K:V→List H→Prop)
  (hk:∀(h':Int),K (.ptr pre.length 0 0) (pre++[cE bs 0 h'])):dj Tryz.prog 31 kv pre [.d (.sl 1 (bs.map eU8))] K:=by
 refine(en (n:=32) (rs:=[.tmp 2]) Tryz.func31 rfl Tryz.call31 hZ rfl rfl ?_);simp only[go_sem,lM];refine b5.intro (α:=Nat×Int) (fun y=>⟨(.d (.sl 1 (bs.map eU8))::.J::.J::.d (.int .i64 y.2)::.d (.int .i64 y.1)::jn 27 []),pre⟩)
  (fun y=>bs.length-y.1) (fun y=>y.1≤bs.length) (0,IntKind.i64.wrap (10101+(bs.length:Int))) (List.range pre.length) (by simp) ?_ ?_
 ·exact GG hr br (by simp[vsees,vsee,ren]) (by simp[a6,vok])
 ·rintro⟨i,g⟩ hi;simp only at hi;simp only[go_sem,lM]
  try simp only[go_sem,lM]
  repeat'((first|refine bb ?_|refine bp (fun h=>?_) (fun h=>?_))<;>simp only[go_sem,lM])
  ·have hlt:i<bs.length:=by
    rcases Nat.lt_or_ge i bs.length with hlt|nK
    ·exact hlt
    ·rw[a_ (by omega)]at h;cases h
   have av:=bZ eU8 bs i hlt
   try simp only[go_sem,av,aF,eU8]
   repeat'(first|(with_reducible refine al ?_)|fail)
   rw[dv hlt hm];refine bm.intro (i+1,bitI .and .i64 (IntKind.i64.wrap (IntKind.i64.wrap (IntKind.i64.wrap (g * 131)+IntKind.i64.wrap bs[i])+7)) 1073741823) (List.range pre.length) (show i+1≤bs.length by omega) (show bs.length-(i+1)<bs.length-i by omega) ?_;exact GG hr br (by simp[vsees,vsee,ren]) (by simp[a6,vok])
  ·rw[fu];exact hk _
theorem La{ρ:List Nat}{hs:List H}:∀{is GW:List Nat} {xs ys:List H},hsees ρ hs is xs→hsees ρ hs GW ys→hsees ρ hs (is++GW) (xs++ys)
 |[],GW,[],ys,_,h=>h
 |[],_,_::_,_,h,_=>by simp[hsees]at h
 |_::_,_,[],_,h,_=>by simp[hsees]at h
 |i::is,GW,x::xs,ys,h,k=>by
  simp only[hsees]at h;exact⟨h.1,La h.2 k⟩
theorem Lb{m:Nat}:∀{xs ys:List H},allOk m xs→allOk m ys→allOk m (xs++ys)
 |[],_,_,h=>h
 |_Qa::_KM,_YA,h,k=>⟨h.1,Lb h.2 k⟩
theorem nE(n j:Nat)(l:List Nat):(List.range n++l).getD (n+j) 0=l.getD j 0:=by
 rw[List.getD_eq_getElem?_getD,List.getElem?_append_right (by simp),List.getD_eq_getElem?_getD];simp
theorem KN{kv ts ts':List V}{hs ex ex':List H}(mW:List Nat)(hnd:mW.Nodup)(nK:∀k∈mW,hs.length≤k)(hr:roks hs.length hs)(hx:hsees (List.range hs.length++mW) (hs++ex) mW ex')(DP:allOk (hs.length+ex'.length) ex')(br:a6 hs.length kv)(ht:vsees (List.range hs.length++mW) ts' ts)(lE:a6 (hs.length+ex'.length) ts') :
  kQ kv (List.range hs.length++mW) ⟨ts,hs++ex⟩ ⟨ts',hs++ex'⟩:=by
 have hf:nF (List.range hs.length++mW) hs.length:=K9 (Nat.le_refl _) _;have hl:(hs++ex').length=hs.length+ex'.length:=by simp
 refine⟨?_,ht,La (GQ hf _ _ _ (by simp) fun j ak=>?_) hx,by rw[hl];exact lE,?_,by rw[hl];exact uM hf (by omega) br⟩
 ·rw[List.nodup_append];refine⟨List.nodup_range,hnd,fun a ha b hb=>?_⟩;have:=nK b hb;simp at ha;omega
 ·refine⟨hs[j],dg ak,?_,GR hr (dg ak)⟩;have:(List.range hs.length).getD j 0=j:=yr (Nat.le_refl _) j ak;rw[this];exact GS (by rw[List.getElem?_append_left ak];exact dg ak)
 ·rw[hl];exact Lb (BH (Ab (by omega) hr)) DP
theorem Qb(ρ:List Nat):∀GX:List V,vsees ρ (List.replicate GX.length .J) GX
 |[]=>trivial
 |_ahb::GX=>⟨trivial,Qb ρ GX⟩
theorem KO(m:Nat):∀k,a6 m (List.replicate k .J)
 |0=>trivial
 |k+1=>⟨trivial,KO m k⟩
theorem yA{P:Program}{f:FuncId}{fn:Func}{c:Code}{kv:List V}{hs:List H}{vs:List V}{K:V→List H→Prop}{n:Nat}(hf:P.funcs[f]?=some fn)(hb:fn.body=some c)(hcall:∀(args:Array Value) (w:World),(callFunc f args).run P w=.ok (.enter f args) w)
  (hn:fn.ntmps=n) {rs:List ResultVar} (hr:fn.results.toList=rs) (h:gk P kv c ⟨vs++List.replicate (n-vs.length) .J,hs⟩ (bx (vm P rs (lk K .mk)) .mk) [] (bx (vm P rs (lk K .mk)) .mk)):dj P f kv hs vs K:=by
 intro B w0 kp us w br aI;subst hr;subst hn;have hlen:us.length=vs.length:=by
  obtain⟨aJ,φ,r,_⟩:=aI;have:=jW _ _ r.gJ;simpa using this
 have bd:∀(σ:St) (a:Act) (w':World),vm P fn.results.toList K σ→ef B w0 kp σ a w'→a.defers=[]∧∃v,(results fn a.tmps).run P w'=.ok v w'∧
   ∃x hs',K x hs'∧ef B w0 kp ⟨[x],hs'⟩ ⟨#[v],[]⟩ w':=by
  rintro σ a w' xY ⟨aJ,φ,r,bz⟩;obtain⟨xs,fJ,g1,hv,hu⟩:=Ih r _ _ xY;refine⟨r.mZ,if h:fJ.length=1 then fJ[0]else .tuple fJ.toArray,?_,_,_,g1,aJ,φ,⟨?_,r.kp,r.hp,r.dy,r.eK,r.eL,r.fl,r.fm,r.bs,rfl,r.kE⟩,bz⟩
  ·rw[Na,Array.mapM_eq_mapM_toList];simp only[Sem.run_bind,Sem.run_map,hu];simp only[Result.andThen,List.size_toArray,Sem.run_pure];split<;>simp_all
  ·simp only[VRels];exact⟨_,_,rfl,TO hv,rfl⟩
 refine Does.enter (hcall _ _) (calls_of_wp hf hb ?_);refine h B w0 kp _ _ w br (fun σ a w' h' cW=>?_) (fun id σ a w' h' _=>h'.elim) (fun σ a w' h' cW=>?_) ?_
 ·exact bd σ a w' h' cW
 ·exact bd σ a w' h' cW
 ·obtain⟨aJ,φ,r,bz⟩:=aI;have hs':us.toArray.size=vs.length:=by rw[List.size_toArray,hlen]
  refine⟨aJ,φ,⟨?_,r.kp,r.hp,r.dy,r.eK,r.eL,r.fl,r.fm,r.bs,rfl,r.kE⟩,bz⟩;have:=Cs r.gJ (MD (φ:=φ) (T:=cb φ hs) (h:=w.heap) (v:=.J) (u:=undef) (by simp[VRel]) (fn.ntmps-vs.length));rw[hs'];simpa using this
theorem dj.Wz{P:Program}{f:FuncId}{kv:List V}{hs:List H}{vs:List V}{K:V→List H→Prop}(h:dj P f kv hs vs (fun x hs'=>K x hs'∨∃id sz xs,aG hs' id=.af sz xs∧K x (bI hs' id (.ai sz xs true)))):dj P f kv hs vs K:=by
 intro B w0 kp us w br aI;refine(h B w0 kp us w br aI).mono fun v w' ⟨x,hs',h1,h2⟩=>?_;rcases h1 with h1|⟨id,sz,xs,hg,h1⟩
 ·exact⟨x,hs',h1,h2⟩
 ·exact⟨x,_,h1,U5 (σ:=⟨[x],hs'⟩) hg h2⟩
theorem Bq{n:Nat}{b:Bool}{x y:V}:vok n (bif b then x else y)↔((b=true→vok n x)∧(b=false→vok n y)):=by cases b<;>simp
theorem W0{F:Oper→List Bool→Prop}:∀{l:List (Oper×List Bool)},(∀x∈l,F x.1 x.2)→uX l F
 |[],_=>trivial
 |x::l,h=>⟨h x (by simp),W0 fun y hy=>h y (by simp[hy])⟩
def gQ(o:Oper):List Nat:=(o.after.toList.filter (Region.binds .any)).map (·.on)
def topoE:Nat→List Oper→Bool
 |_,[]=>true
 |k,o::os=>(gQ o).all (fun j=>decide (j<k))&&topoE (k+1) os
theorem W1:∀(os:List Oper) (k i:Nat) (o:Oper),topoE k os=true→os[i]?=some o→∀j∈gQ o,j<k+i
 |[],_,_,_,_,h,_,_=>by simp at h
 |x::os,k,0,o,h,h1,j,ak=>by
  simp only[List.getElem?_cons_zero,uB]at h1;subst h1;simp only[topoE,cX,List.all_eq_true,il]at h;have:=h.1 j ak;omega
 |x::os,k,i+1,o,h,h1,j,ak=>by
  simp only[topoE,cX]at h;have:=W1 os (k+1) i o h.2 (by simpa using h1) j ak;omega
theorem agV{aA:List Oper}{S:List Bool}(ht:topoE 0 aA=true)(hl:S.length=aA.length)(h:rdyE S aA [] S=[])(i:Nat):i<aA.length→S[i]?=some true:=by
 induction i using Nat.strongRecOn with
 |_ i dr=>
  intro hi;have hb:S[i]?=some S[i]:=dg (by omega)
  cases hv:S[i]with
  |true=>rw[hb,hv]
  |false=>
   rw[hv]at hb;have ax:aA[i]?=some aA[i]:=dg hi;have:=Hr (S:=S) aA [] S i aA[i] ax hb fun e he hx=>by
    have hm:e.on∈gQ aA[i]:=List.mem_map.2 ⟨e,List.mem_filter.2 ⟨by simpa using he,hx⟩,rfl⟩;have hlt:=W1 aA 0 i _ ht ax _ hm;have hq:=dr e.on (by omega) (by omega);rw[List.getD_eq_getElem?_getD,hq];rfl
   rw[h]at this
   cases this
theorem W2:∀(S:List Bool) (i:Nat),S[i]?=some false→(S.set i true).count false+1=S.count false
 |[],_,h=>by simp at h
 |b::S,0,h=>by
  simp only[List.getElem?_cons_zero,uB]at h;subst h;simp
 |b::S,i+1,h=>by
  have:=W2 S i (by simpa using h);rw[List.set_cons_succ,List.count_cons,List.count_cons];omega
def De(F:Nat→Oper→Prop):Nat→List Oper→Prop
 |_,[]=>True
 |k,o::os=>F k o∧De F (k+1) os
theorem iV{F:Nat→Oper→Prop}{k:Nat}{o:Oper}{os:List Oper}(h:F k o)(hr:De F (k+1) os):De F k (o::os):=⟨h,hr⟩
theorem iU{F:Nat→Oper→Prop}{k:Nat}:De F k []:=trivial
theorem W3{F:Nat→Oper→Prop}:∀(os:List Oper) (k i:Nat) (o:Oper),De F k os→os[i]?=some o→F (k+i) o
 |[],_,_,_,_,h=>by simp at h
 |x::os,k,0,o,h,h1=>by
  simp only[List.getElem?_cons_zero,uB]at h1;subst h1;exact h.1
 |x::os,k,i+1,o,h,h1=>by
  have:=W3 os (k+1) i o h.2 (by simpa using h1)
  rwa [show k+(i+1)=k+1+i from by omega]
def W4(aA:List Oper)(S:List Bool):Prop:=∀(i j:Nat) (o:Oper),aA[j]?=some o→i∈gQ o→S[i]?=some false→S[j]?=some false
def agW(P:Program)(kv:List V)(aA:List Oper)(Inv:List Bool→St→Prop)(k:Nat)(o:Oper):Prop:=
 ∀(S:List Bool) (σ:St) (F:St→Prop),S.length=aA.length→S[k]?=some false→(gQ o).all (fun j=>S.getD j false)=true→W4 aA S→Inv S σ→(∀σ',Inv (S.set k true) σ'→F σ')→uY P kv aA σ o (bx (fun σ'=>F σ') .mk)
theorem iT{P:Program}{kv:List V}{aA:List Oper}(Inv:List Bool→St→Prop){N:Nat}(bo:aA.length=N)(ht:topoE 0 aA=true){σ:St}(h0:Inv (List.replicate N false) σ)(h1:De (agW P kv aA Inv) 0 aA) :
  exE P kv aA aA.length (List.replicate aA.length false) σ (fun σ'=>Inv (List.replicate N true) σ'):=by
 subst bo;have agX:∀(n:Nat) (S:List Bool) (σ:St),S.length=aA.length→S.count false=n→W4 aA S→Inv S σ→exE P kv aA n S σ (fun σ'=>Inv (List.replicate aA.length true) σ'):=by
  intro n
  induction n with
  |zero=>
   intro S σ hl hc hcl hI;have Av:∀b∈S,b=true:=fun b hb=>by
    cases b with
    |true=>rfl
    |false=>have:=List.count_pos_iff.2 hb;omega
   have aX:S=List.replicate aA.length true:=by
    rw[←hl];exact List.eq_replicate_iff.2 ⟨rfl,Av⟩
   refine⟨?_,aX▸hI⟩;rw[List.eq_nil_iff_forall_not_mem];intro x hx;obtain⟨i,_,h2,_⟩:=Hs aA [] S x hx;have:=Av false (List.mem_of_getElem? h2)
   cases this
  |succ n dr=>
   intro S σ hl hc hcl hI;refine⟨fun h=>?_,W0 fun x hx=>?_⟩
   ·have Av:=agV ht hl h;have:false∈S:=List.count_pos_iff.1 (by omega);obtain⟨i,hi,he⟩:=List.getElem_of_mem this;have:=Av i (by omega);rw[dg hi,he]at this
    cases this
   ·obtain⟨i,h2,aj,aD,bX⟩:=Hs aA [] S x hx;have hq:=W3 aA 0 i x.1 h1 h2;rw[Nat.zero_add]at hq;refine hq S σ (fun σ'=>exE P kv aA n x.2 σ' _) hl aj ?_ hcl hI fun σ' agY=>?_
    ·rw[List.all_eq_true];intro j ak;obtain⟨e,he,rfl⟩:=List.mem_map.1 ak;obtain⟨Gj,zS⟩:=List.mem_filter.1 he;exact bX e (by simpa using Gj) zS
    ·rw[aD,bn];have:=W2 S i aj;refine dr (S.set i true) σ' (by simpa using hl) (by omega) (fun a b o ax ha hb=>?_) agY;have agZ:i≠a:=fun e=>by
      subst e;have:i<S.length:=by
       have:=List.getElem?_eq_some_iff.1 aj;exact this.1
      rw[List.getElem?_set_self this]at hb
      cases hb
     rw[List.getElem?_set_ne agZ]at hb;have hne:i≠b:=fun e=>by
      subst e;rw[h2]at ax
      cases ax
      obtain⟨e,he,rfl⟩:=List.mem_map.1 ha;obtain⟨Gj,zS⟩:=List.mem_filter.1 he;have:=bX e (by simpa using Gj) zS;rw[List.getD_eq_getElem?_getD,hb]at this
      cases this
     rw[List.getElem?_set_ne hne];exact hcl a b o ax ha hb
 refine agX aA.length _ σ (by simp) (by simp) (fun a b o ax ha hb=>?_) h0;have:b<aA.length:=(List.getElem?_eq_some_iff.1 ax).1;simp[this]
set_option maxRecDepth 100000
def Ow:List (List bt):=ct 18 [387420488,387420486,387420480,387420462,387420408,387420246,387419760,380253690,380249316,387173358,387389871,387271773,386897796,385834914,382646268,373071582,344373768,258280326]
def Ox:List (List bt):=ct 24 [282429536477,282429536479,282429536472,282429536454,282429536400,282429536238,282429535752,282429534294,282429529920,282429516798,277220115603,277220765142,277220410848,277219288917,277216100271,277206534333,282278843433,282364936875,282063609828,281288768850,278964245916,271969183278,251048476872,188286357654]
def Fz:List (List bt):=ct 9 [18707,18709,18702,18684,18630,19561,19075,17496,13122]
def VQ:List (List bt):=ct 10 [57959,57957,59017,59035,58972,58810,58324,56862,52488,39366]
attribute [go_sem] Ow Ox Fz VQ
def cT(r:ab):Bool:=decide (0≤r.low)&&decide (r.low<r.high)&&decide (r.high≤4611686018427387903)
def rAt(xs:List ab)(i:Nat):Bool:=
 match xs[i]? with
 |some x=>cT x&&(match i with|0=>true|j+1=>match xs[j]? with|some p=>decide (p.high<x.low)|none=>true)
 |none=>true
def cy(xs:List ab):Bool:=(List.range xs.length).all (rAt xs)
theorem VR(xs:List ab)(i:Nat)(h:i<xs.length)(h2:rAt xs i=false):cy xs=false:=by
 unfold cy;rw[List.all_eq_false];exact⟨i,List.mem_range.2 h,by simp[h2]⟩
theorem VS{p:Nat→Bool}{i:Nat}(h:(List.range i).all p=true)(h2:p i=true):(List.range (i+1)).all p=true:=by
 rw[List.range_succ,List.all_append,h];simp[h2]
def cG(a b:Int):Int:=if b<a then b else a
def dL(a b:Int):Int:=if b>a then b else a
def kI(s:List ab×Bool×ab)(x:ab):List ab×Bool×ab:=
 if x.high<s.2.2.low then(s.1++[x],s.2.1,s.2.2)
 else if s.2.2.high<x.low then((if s.2.1=true then s.1 else s.1++[s.2.2])++[x],true,s.2.2)
 else(s.1,s.2.1,⟨cG s.2.2.low x.low,dL s.2.2.high x.high⟩)
def fK(xs:List ab)(r:ab):Nat→List ab×Bool×ab
 |0=>([],false,r)
 |i+1=>match xs[i]? with|some x=>kI (fK xs r i) x|none=>fK xs r i
theorem Oy(xs:List ab)(r:ab)(i:Nat)(h:i<xs.length):fK xs r (i+1)=kI (fK xs r i) xs[i]:=by
 rw[fK,dg h]
theorem Jj(xs:List ab)(r:ab):∀i,(fK xs r i).1.length≤i+(if(fK xs r i).2.1=true then 1 else 0)
 |0=>by simp[fK]
 |i+1=>by
  have:=Jj xs r i;rw[fK];split
  ·unfold kI;by_cases h1:(fK xs r i).2.1=true
   ·simp only[h1,if_true]at this⊢;split
    ·simp;omega
    ·split
     ·simp;omega
     ·simp;omega
   ·simp only[h1]at this⊢;split
    ·simp at this⊢;omega
    ·split
     ·simp at this⊢;omega
     ·simp at this⊢;omega
  ·by_cases h1:(fK xs r i).2.1=true
   ·simp only[h1,if_true]at this⊢;omega
   ·simp[h1]at this⊢;omega
def fh(xs:List ab)(r:ab):List ab:=
 if cy xs&&cT r=true then(if(fK xs r xs.length).2.1=true then(fK xs r xs.length).1 else(fK xs r xs.length).1++[(fK xs r xs.length).2.2])else xs
theorem Kp(xs:List ab)(r:ab):(fh xs r).length≤xs.length+1:=by
 have:=Jj xs r xs.length;unfold fh;split
 ·split
  ·rename_i h;rw[if_pos h]at this;exact this
  ·rename_i h;rw[if_neg h]at this;simp;omega
 ·omega
theorem Jk(xs:List ab)(h:0<xs.length):rAt xs 0=cT xs[0]:=by
 unfold rAt;rw[dg h];simp
theorem FA(xs:List ab)(j:Nat)(h:j+1<xs.length):rAt xs (j+1)=(cT xs[j+1]&&decide (xs[j].high<xs[j+1].low)):=by
 unfold rAt;rw[dg h];simp only[dg (show j<xs.length by omega)]
theorem Jl(l h:Int):PureCall Tryz.prog 172 [.agg [.int .i64 l,.int .i64 h]] [.one (.bool (cT ⟨l,h⟩))]:=by
 refine aL 18 Tryz.func172 Tryz.call172 [.tmp 2] ?_;intro _
 try simp only[go_sem]
 repeat'(refine bb ?_<;>simp only[go_sem])
 all_goals(simp[cT];try(cases decide (0≤l)<;>cases decide (l<h)<;>simp))
theorem K4(xs:List ab)(hx:xs.length≤8388608):PureCall Tryz.prog 168 [.one (.sl 2 (xs.map ab.enc))] [.one (.sl 2 (xs.map ab.enc))]:=by
 refine aL 6 Tryz.func168 Tryz.call168 [.tmp 2] ?_;intro _
 try simp only[go_sem,lM]
 repeat'(first|(with_reducible refine al ?_)|fail)
 all_goals simp
theorem FB(xs:List ab):PureCall Tryz.prog 171 [.one (.sl 2 (xs.map ab.enc))] [.one (.bool (cy xs))]:=by
 refine aL 31 Tryz.func171 Tryz.call171 [.tmp 2] ?_;intro ok;have hm:=fj ok;simp only[go_sem,lM];refine b5.intro (fun i:Nat=>⟨(.d (.sl 2 (xs.map ab.enc))::.J::.d (.bool false)::.J::.J::.d (.sl 2 (xs.map ab.enc))::.d (.int .i64 xs.length)::.d (.int .i64 i)::jn 23 []),[]⟩)
   (fun i=>xs.length-i) (fun i=>i≤xs.length∧(List.range i).all (rAt xs)=true) 0 [] ⟨by omega,by simp⟩ ?_ ?_
 ·simp only[go_sem];simp
 ·rintro i ⟨hi,he⟩;simp only[go_sem];refine bp (fun h1=>?_) (fun h1=>?_)
  ·have ar:=ch h1;have hlt:i<xs.length:=by omega
   have av:=bZ ab.enc xs i hlt;have hw:=dv hlt hm;have yh:=VR xs i hlt;have yi:rAt xs i=true→(List.range (i+1)).all (rAt xs)=true:=VS he
   cases i with
   |zero=>
    rw[Jk xs hlt]at yh yi;have hr:cT ⟨xs[0].low,xs[0].high⟩=cT xs[0]:=rfl;have Bc:IntKind.i64.wrap (0+1)=((1:Nat):Int):=by rw[bC]<;>omega
    try simp only[go_sem,lM,av,ab.enc,Int.toNat_zero,Int.natCast_zero]
    repeat'(first|((first|refine ao.intro (by apply Jl) ?_|with_reducible refine kt ?_|refine eJ ?_|refine ba Ow (by kernel_rfl) (by rfl) ?_|refine bp (fun h=>?_) (fun h=>?_))<;>simp only[go_sem,Int.lt_irrefl,decide_false])|(with_reducible refine al ?_)|fail)
    all_goals first
     |(rw[hr]at h;rw[yh (by revert h;cases cT xs[0]<;>simp)])
     |(rw[hr]at h;refine bm.intro 1 [] ⟨by omega,yi (by revert h;cases cT xs[0]<;>simp)⟩ (by omega) ?_;simp only[go_sem,Bc])
   |succ j=>
    rw[FA xs j hlt]at yh yi;have gi:=bZ ab.enc xs j (by omega);have hs:IntKind.i64.wrap (((j+1:Nat):Int)-1)=(j:Int):=by simp only[maxLen]at hm;rw[bC]<;>omega
    have hg:decide ((0:Int)<((j+1:Nat):Int))=true:=bc (by omega);have hr:cT ⟨xs[j+1].low,xs[j+1].high⟩=cT xs[j+1]:=rfl;have hd:decide (xs[j+1].low≤xs[j].high)=!decide (xs[j].high<xs[j+1].low):=by by_cases hx:xs[j].high<xs[j+1].low<;>simp[hx]<;>omega
    try simp only[go_sem,lM,aF,av,ab.enc]
    repeat'(first|((first|refine ao.intro (by apply Jl) ?_|refine eJ ?_|refine ba Ow (by kernel_rfl) (by rfl) ?_|refine bp (fun h=>?_) (fun h=>?_))<;>simp only[go_sem,lM,aF,gi,ab.enc,hs,hg])|(with_reducible refine al ?_)|fail)
    all_goals first
     |(rw[hr,hd]at h;rw[yh (by revert h;cases cT xs[j+1]<;>cases decide (xs[j].high<xs[j+1].low)<;>simp)])
     |(rw[hr,hd]at h;refine bm.intro (j+1+1) [] ⟨by omega,yi (by revert h;cases cT xs[j+1]<;>cases decide (xs[j].high<xs[j+1].low)<;>simp)⟩ (by omega) ?_;simp only[go_sem,hw])
  ·have ar:=cD h1;have gD:i=xs.length:=by omega
   subst gD;simp only[go_sem];simp[cy,he]
theorem FC(l h:Int):PureCall Tryz.prog 181 [.agg [.int .i64 l,.int .i64 h]] [.one (.bool (cT ⟨l,h⟩))]:=by
 refine aL 18 Tryz.func181 Tryz.call181 [.tmp 2] ?_;intro _
 try simp only[go_sem]
 repeat'(refine bb ?_<;>simp only[go_sem])
 all_goals(simp[cT];try(cases decide (0≤l)<;>cases decide (l<h)<;>simp))
theorem K5(xs:List ab)(hx:xs.length≤8388608):PureCall Tryz.prog 174 [.one (.sl 2 (xs.map ab.enc))] [.one (.sl 2 (xs.map ab.enc))]:=by
 refine aL 6 Tryz.func174 Tryz.call174 [.tmp 2] ?_;intro _
 try simp only[go_sem,lM]
 repeat'(first|(with_reducible refine al ?_)|fail)
 all_goals simp
theorem vC(xs:List ab):PureCall Tryz.prog 176 [.one (.sl 2 (xs.map ab.enc))] [.one (.bool (cy xs))]:=by
 refine aL 34 Tryz.func176 Tryz.call176 [.tmp 2] ?_;intro ok;have hm:=fj ok;simp only[go_sem];refine b5.intro (fun i:Nat=>⟨(.d (.sl 2 (xs.map ab.enc))::.J::.d (.bool false)::.d (.int .i64 i)::jn 30 []),[]⟩)
   (fun i=>xs.length-i) (fun i=>i≤xs.length∧(List.range i).all (rAt xs)=true) 0 [] ⟨by omega,by simp⟩ ?_ ?_
 ·simp only[go_sem];simp
 ·rintro i ⟨hi,he⟩;simp only[go_sem,lM];refine bp (fun h1=>?_) (fun h1=>?_)
  ·have ar:=ch h1;have hlt:i<xs.length:=by omega
   have av:=bZ ab.enc xs i hlt;have hw:=dv hlt hm;have yh:=VR xs i hlt;have yi:rAt xs i=true→(List.range (i+1)).all (rAt xs)=true:=VS he
   cases i with
   |zero=>
    rw[Jk xs hlt]at yh yi;have hr:cT ⟨xs[0].low,xs[0].high⟩=cT xs[0]:=rfl;have Bc:IntKind.i64.wrap (0+1)=((1:Nat):Int):=by rw[bC]<;>omega
    try simp only[go_sem,Int.natCast_zero]
    repeat'(first|((first|refine ao.intro (by apply FC) ?_|with_reducible refine kt ?_|refine eJ ?_|refine ba Ox (by kernel_rfl) (by rfl) ?_|refine bp (fun h=>?_) (fun h=>?_))<;>simp only[go_sem,lM,av,ab.enc,Int.toNat_zero,Int.lt_irrefl,decide_false])|(with_reducible refine al ?_)|fail)
    all_goals first
     |(rw[hr]at h;rw[yh (by revert h;cases cT xs[0]<;>simp)])
     |(rw[hr]at h;refine bm.intro 1 [] ⟨by omega,yi (by revert h;cases cT xs[0]<;>simp)⟩ (by omega) ?_;simp only[go_sem,Bc])
   |succ j=>
    rw[FA xs j hlt]at yh yi;have gi:=bZ ab.enc xs j (by omega);have hs:IntKind.i64.wrap (((j+1:Nat):Int)-1)=(j:Int):=by simp only[maxLen]at hm;rw[bC]<;>omega
    have hg:decide ((0:Int)<((j+1:Nat):Int))=true:=bc (by omega);have hr:cT ⟨xs[j+1].low,xs[j+1].high⟩=cT xs[j+1]:=rfl;have hd:decide (xs[j+1].low≤xs[j].high)=!decide (xs[j].high<xs[j+1].low):=by by_cases hx:xs[j].high<xs[j+1].low<;>simp[hx]<;>omega
    try simp only[go_sem]
    repeat'(first|((first|refine ao.intro (by apply FC) ?_|refine eJ ?_|refine ba Ox (by kernel_rfl) (by rfl) ?_|refine bp (fun h=>?_) (fun h=>?_))<;>simp only[go_sem,lM,aF,av,gi,ab.enc,hs,hg])|(with_reducible refine al ?_)|fail)
    all_goals first
     |(rw[hr,hd]at h;rw[yh (by revert h;cases cT xs[j+1]<;>cases decide (xs[j].high<xs[j+1].low)<;>simp)])
     |(rw[hr,hd]at h;refine bm.intro (j+1+1) [] ⟨by omega,yi (by revert h;cases cT xs[j+1]<;>cases decide (xs[j].high<xs[j+1].low)<;>simp)⟩ (by omega) ?_;simp only[go_sem,hw])
  ·have ar:=cD h1;have gD:i=xs.length:=by omega
   subst gD;simp only[go_sem];simp[cy,he]
theorem VT(xs:List ab)(l h:Int)(hx:xs.length≤1048576):PureCall Tryz.prog 119 [.one (.sl 2 (xs.map ab.enc)),.agg [.int .i64 l,.int .i64 h]] [.one (.sl 2 ((fh xs ⟨l,h⟩).map ab.enc))]:=by
 refine aL 71 Tryz.func119 Tryz.call119 [.tmp 4] ?_;intro ok;have hm:=fj ok;simp only[go_sem];refine ae.intro (FB xs) ?_;simp only[go_sem]
 repeat'(first
  |(refine ae.intro (Jl l h) ?_;simp only[go_sem,lM])
  |(refine ao.intro (Jl l h) ?_;simp only[go_sem])
  |(refine bb ?_;simp only[go_sem])|(refine eJ ?_;simp only[go_sem,lM]))
 have hz:(bif !cy xs then true else !cT ⟨l,h⟩)=!(cy xs&&cT ⟨l,h⟩):=by cases cy xs<;>cases cT ⟨l,h⟩<;>rfl
 rw[hz];refine bp (fun h0=>?_) (fun h0=>?_)
 ·have bX:(cy xs&&cT ⟨l,h⟩)=false:=by cases hq:(cy xs&&cT ⟨l,h⟩)with|false=>rfl|true=>rw[hq]at h0;cases h0
  have kO:(xs.map ab.enc).take xs.length=xs.map ab.enc:=List.take_of_length_le (by simp);simp only[go_sem];refine ae.intro (K4 xs (by omega)) ?_;simp only[go_sem];simp[fh,bX,kO]
 ·have bX:(cy xs&&cT ⟨l,h⟩)=true:=by cases hq:(cy xs&&cT ⟨l,h⟩)with|true=>rfl|false=>rw[hq]at h0;cases h0
  simp only[go_sem];refine b5.intro (fun i:Nat=>⟨(.d (.sl 2 (xs.map ab.enc))::.J::.J::.ptr 0 0 0::.c7 2::.sl 1 0 (fK xs ⟨l,h⟩ i).1.length::.d (.bool (fK xs ⟨l,h⟩ i).2.1)::jn 13 (.d (.sl 2 (xs.map ab.enc))::.d (.int .i64 xs.length)::.d (.int .i64 i)::jn 48 [])),[.box [.d (.int .i64 (fK xs ⟨l,h⟩ i).2.2.low),.d (.int .i64 (fK xs ⟨l,h⟩ i).2.2.high)],.ai 2 ((fK xs ⟨l,h⟩ i).1.map ab.enc) true]⟩)
   (fun i=>xs.length-i) (fun i=>i≤xs.length) 0 [0,1] (by omega) ?_ ?_
  ·simp only[go_sem];simp[fK]
  ·intro i hi;have Fx:=Jj xs ⟨l,h⟩ i;have vB:(fK xs ⟨l,h⟩ i).1.length≤i+1:=by split at Fx<;>omega
   simp only[go_sem];refine bp (fun h1=>?_) (fun h1=>?_)
   ·have ar:=ch h1;have hlt:i<xs.length:=by omega
    have av:=bZ ab.enc xs i hlt;have hw:=dv hlt hm;have cw:=Oy xs ⟨l,h⟩ i hlt;generalize hs:fK xs ⟨l,h⟩ i=s at cw vB;obtain⟨o,p,⟨u',FD⟩⟩:=s;simp only at vB;by_cases hA:xs[i].high<u'
    ·have oe:=bc hA;simp only[kI,hA,if_true]at cw
     try simp only[go_sem,lM,aF,av,ab.enc,oe]
     repeat'(first|(with_reducible refine al ?_)|fail)
     all_goals(refine bm.intro (i+1) [0,4] (by omega) (by omega) ?_;simp only[go_sem,hw,cw];simp[ab.enc])
    ·have oe:=a_ hA;by_cases hB:FD<xs[i].low
     ·have uD:=bc hB;simp only[kI,hA,hB,if_true,if_false]at cw
      cases p with
      |true=>
       try simp only[go_sem,lM,aF,av,ab.enc,oe,uD]
       repeat'(first|(with_reducible refine al ?_)|fail)
       all_goals(refine bm.intro (i+1) [0,4] (by omega) (by omega) ?_;simp only[go_sem,hw,cw];simp[ab.enc])
      |false=>
       try simp only[go_sem,lM,aF,av,ab.enc,oe,uD]
       repeat'(first|(with_reducible refine al ?_)|fail)
       all_goals(refine bm.intro (i+1) [0,6] (by omega) (by omega) ?_;simp only[go_sem,hw,cw];simp[ab.enc])
     ·have uD:=a_ hB;simp only[kI,hA,hB,if_false]at cw
      try simp only[go_sem,lM,aF,av,ab.enc,oe,uD]
      repeat'(first|(with_reducible refine al ?_)|fail)
      all_goals(refine bm.intro (i+1) [0,1] (by omega) (by omega) ?_;simp only[go_sem,hw,cw];simp[cG,dL])
   ·have ar:=cD h1;have gD:i=xs.length:=by omega
    subst gD;generalize hs:fK xs ⟨l,h⟩ xs.length=s at vB;obtain⟨o,p,⟨u',FD⟩⟩:=s;simp only at vB
    cases p with
    |true=>
     try simp only[go_sem,lM]
     repeat'(first|(with_reducible refine al ?_)|fail)
     all_goals simp[fh,bX,hs]
    |false=>
     try simp only[go_sem,lM]
     repeat'(first|(with_reducible refine al ?_)|fail)
     all_goals(simp[fh,bX,hs,ab.enc];try exact List.take_of_length_le (by simp))
theorem uz(xs:List ab)(l h:Int)(hx:xs.length≤1048576):PureCall Tryz.prog 123 [.one (.sl 2 (xs.map ab.enc)),.agg [.int .i64 l,.int .i64 h]] [.one (.sl 2 ((fh xs ⟨l,h⟩).map ab.enc))]:=by
 refine aL 88 Tryz.func123 Tryz.call123 [.tmp 4] ?_;intro ok;have hm:=fj ok;simp only[go_sem];refine ae.intro (vC xs) ?_;simp only[go_sem]
 repeat'(first
  |(refine ae.intro (FC l h) ?_;simp only[go_sem,lM])
  |(refine ao.intro (FC l h) ?_;simp only[go_sem])
  |(refine bb ?_;simp only[go_sem])|(refine eJ ?_;simp only[go_sem,lM]))
 have hz:(bif !cy xs then true else !cT ⟨l,h⟩)=!(cy xs&&cT ⟨l,h⟩):=by cases cy xs<;>cases cT ⟨l,h⟩<;>rfl
 rw[hz];refine bp (fun h0=>?_) (fun h0=>?_)
 ·have bX:(cy xs&&cT ⟨l,h⟩)=false:=by cases hq:(cy xs&&cT ⟨l,h⟩)with|false=>rfl|true=>rw[hq]at h0;cases h0
  have kO:(xs.map ab.enc).take xs.length=xs.map ab.enc:=List.take_of_length_le (by simp);simp only[go_sem];refine ae.intro (K5 xs (by omega)) ?_;simp only[go_sem];simp[fh,bX,kO]
 ·have bX:(cy xs&&cT ⟨l,h⟩)=true:=by cases hq:(cy xs&&cT ⟨l,h⟩)with|true=>rfl|false=>rw[hq]at h0;cases h0
  simp only[go_sem];refine b5.intro (fun i:Nat=>⟨(.d (.sl 2 (xs.map ab.enc))::.J::.J::.ptr 0 0 0::.c7 2::.sl 1 0 (fK xs ⟨l,h⟩ i).1.length::.d (.bool (fK xs ⟨l,h⟩ i).2.1)::.d (.int .i64 i)::jn 80 []),[.box [.d (.int .i64 (fK xs ⟨l,h⟩ i).2.2.low),.d (.int .i64 (fK xs ⟨l,h⟩ i).2.2.high)],.ai 2 ((fK xs ⟨l,h⟩ i).1.map ab.enc) true]⟩)
   (fun i=>xs.length-i) (fun i=>i≤xs.length) 0 [0,1] (by omega) ?_ ?_
  ·simp only[go_sem];simp[fK]
  ·intro i hi;have Fx:=Jj xs ⟨l,h⟩ i;have vB:(fK xs ⟨l,h⟩ i).1.length≤i+1:=by split at Fx<;>omega
   simp only[go_sem,lM];refine bp (fun h1=>?_) (fun h1=>?_)
   ·have ar:=ch h1;have hlt:i<xs.length:=by omega
    have av:=bZ ab.enc xs i hlt;have hw:=dv hlt hm;have cw:=Oy xs ⟨l,h⟩ i hlt;generalize hs:fK xs ⟨l,h⟩ i=s at cw vB;obtain⟨o,p,⟨u',FD⟩⟩:=s;simp only at vB;by_cases hA:xs[i].high<u'
    ·have oe:=bc hA;simp only[kI,hA,if_true]at cw
     try simp only[go_sem]
     repeat'(first|(refine ba Fz (by kernel_rfl) (by rfl) ?_<;>simp only[go_sem,lM,aF,av,ab.enc,oe])|(with_reducible refine al ?_)|fail)
     all_goals(refine bm.intro (i+1) [0,3] (by omega) (by omega) ?_;simp only[go_sem,hw,cw];simp[ab.enc])
    ·have oe:=a_ hA;by_cases hB:FD<xs[i].low
     ·have uD:=bc hB;simp only[kI,hA,hB,if_true,if_false]at cw
      cases p with
      |true=>
       try simp only[go_sem]
       repeat'(first|(refine ba Fz (by kernel_rfl) (by rfl) ?_<;>simp only[go_sem,lM,aF,av,ab.enc,oe,uD])|(with_reducible refine al ?_)|fail)
       all_goals(refine bm.intro (i+1) [0,3] (by omega) (by omega) ?_;simp only[go_sem,hw,cw];simp[ab.enc])
      |false=>
       try simp only[go_sem]
       repeat'(first|(refine ba Fz (by kernel_rfl) (by rfl) ?_<;>simp only[go_sem,lM,aF,av,ab.enc,oe,uD])|(with_reducible refine al ?_)|fail)
       all_goals(refine bm.intro (i+1) [0,5] (by omega) (by omega) ?_;simp only[go_sem,hw,cw];simp[ab.enc])
     ·have uD:=a_ hB;simp only[kI,hA,hB,if_false]at cw
      try simp only[go_sem]
      repeat'(first|((first|refine ba Fz (by kernel_rfl) (by rfl) ?_|refine ba VQ (by kernel_rfl) (by rfl) ?_)<;>simp only[go_sem,lM,aF,av,ab.enc,oe,uD])|(with_reducible refine al ?_)|fail)
      all_goals(refine bm.intro (i+1) [0,1] (by omega) (by omega) ?_;simp only[go_sem,hw,cw];simp[cG,dL])
   ·have ar:=cD h1;have gD:i=xs.length:=by omega
    subst gD;generalize hs:fK xs ⟨l,h⟩ xs.length=s at vB;obtain⟨o,p,⟨u',FD⟩⟩:=s;simp only at vB
    cases p with
    |true=>
     try simp only[go_sem,lM]
     repeat'(first|(with_reducible refine al ?_)|fail)
     all_goals simp[fh,bX,hs]
    |false=>
     try simp only[go_sem,lM]
     repeat'(first|(with_reducible refine al ?_)|fail)
     all_goals(simp[fh,bX,hs,ab.enc];try exact List.take_of_length_le (by simp))
set_option maxRecDepth 100000
def bJ(n:Int):Bool:=bN n 0 4611686018427387903
theorem ng(n:Int):PureCall Tryz.prog 74 [.one (.int .i64 n)] [.one (.bool (bJ n))]:=by
 refine aL 5 Tryz.func74 Tryz.call74 [.tmp 2] ?_;intro _
 try simp only[go_sem]
 repeat'(refine ae.intro (by apply iS) ?_<;>simp only[go_sem])
 all_goals simp[bJ]
theorem hJ(n:Int):PureCall Tryz.prog 49 [.one (.int .i64 n)] [.one (.bool (bJ n))]:=by
 refine aL 5 Tryz.func49 Tryz.call49 [.tmp 2] ?_;intro _
 try simp only[go_sem]
 repeat'(refine ae.intro (by apply iE) ?_<;>simp only[go_sem])
 all_goals simp[bJ]
def kK(n:Int):Bool:=bN n 1 64&&decide (bitI .and .i64 n (IntKind.i64.wrap (n-1))=0)
theorem A9(n:Int):PureCall Tryz.prog 152 [.one (.int .i64 n)] [.one (.bool (kK n))]:=by
 refine aL 12 Tryz.func152 Tryz.call152 [.tmp 2] ?_;intro _
 try simp only[go_sem]
 repeat'((first|refine ae.intro (by apply iS) ?_|refine bb ?_)<;>simp only[go_sem])
 all_goals(refine d' ?_;simp[kK,bN])
theorem Jp(n:Int):PureCall Tryz.prog 165 [.one (.int .i64 n)] [.one (.bool (kK n))]:=by
 refine aL 16 Tryz.func165 Tryz.call165 [.tmp 2] ?_;intro _
 try simp only[go_sem]
 repeat'(refine bb ?_<;>simp only[go_sem])
 all_goals(refine d' ?_;simp[kK,bN];try omega)
def gG(c:da):Bool:=kK c.ring&&bN c.mT 1 4096&&bN c.mU 1 4096&&bN c.bP 1 c.mT&&bN c.c8 1 c.mU&&bN c.l0 0 1000&&bN c.fy 0 1000&&bN c.iF 1 1000
theorem N1(FX IT IU IV IW IX IY IZ:Int):PureCall Tryz.prog 90 [.agg [.int .i64 FX,.int .i64 IT,.int .i64 IU,.int .i64 IV,.int .i64 IW,.int .i64 IX,.int .i64 IY,.int .i64 IZ]] [.one (.bool (gG (⟨FX,IT,IU,IV,IW,IX,IY,IZ⟩:da)))]:=by
 refine aL 45 Tryz.func90 Tryz.call90 [.tmp 2] ?_;intro _
 try simp only[go_sem]
 repeat'((first|refine ae.intro (by apply A9) ?_|refine ao.intro (by apply iS) ?_|refine bb ?_)<;>simp only[go_sem])
 all_goals(refine d' ?_;simp[gG,and_assoc,and_comm,and_left_comm])
theorem DG(FX IT IU IV IW IX IY IZ:Int):PureCall Tryz.prog 105 [.agg [.int .i64 FX,.int .i64 IT,.int .i64 IU,.int .i64 IV,.int .i64 IW,.int .i64 IX,.int .i64 IY,.int .i64 IZ]] [.one (.bool (gG (⟨FX,IT,IU,IV,IW,IX,IY,IZ⟩:da)))]:=by
 refine aL 45 Tryz.func105 Tryz.call105 [.tmp 2] ?_;intro _
 try simp only[go_sem]
 repeat'((first|refine ae.intro (by apply Jp) ?_|refine ao.intro (by apply iE) ?_|refine bb ?_)<;>simp only[go_sem])
 all_goals(refine d' ?_;simp[gG,and_assoc,and_comm,and_left_comm])
def oX(l:Int):ei:=if bJ l then⟨l,0,-1,-1⟩else⟨0,0,0,0⟩
theorem aeY(l:Int):PureCall Tryz.prog 96 [.one (.int .i64 l)] [.agg [.int .i64 (oX l).a8,.int .i64 (oX l).used,.int .i64 (oX l).blocked,.int .i64 (oX l).told],.one (.bool (bJ l))]:=by
 refine aL 10 Tryz.func96 Tryz.call96 [.cell 2 28,.tmp 3] ?_;intro _
 try simp only[go_sem]
 repeat'((first|refine ae.intro (by apply ng) ?_|refine bp (fun h=>?_) (fun h=>?_))<;>simp only[go_sem])
 all_goals simp_all [oX]
theorem U7(l:Int):PureCall Tryz.prog 111 [.one (.int .i64 l)] [.agg [.int .i64 (oX l).a8,.int .i64 (oX l).used,.int .i64 (oX l).blocked,.int .i64 (oX l).told],.one (.bool (bJ l))]:=by
 refine aL 10 Tryz.func111 Tryz.call111 [.cell 2 28,.tmp 3] ?_;intro _
 try simp only[go_sem]
 repeat'((first|refine ae.intro (by apply hJ) ?_|refine bp (fun h=>?_) (fun h=>?_))<;>simp only[go_sem])
 all_goals simp_all [oX]
def FY(size most:Int):Bool:=bN most 1 4096&&bN size 1 most
def zz(size most:Int):eh:=if FY size most then⟨size,most,size,0,0,0⟩else⟨0,0,0,0,0,0⟩
theorem aeZ(s m:Int):PureCall Tryz.prog 97 [.one (.int .i64 s),.one (.int .i64 m)] [.agg (eh.enc (zz s m)),.one (.bool (FY s m))]:=by
 refine aL 20 Tryz.func97 Tryz.call97 [.cell 4 30,.tmp 5] ?_;intro _
 try simp only[go_sem]
 repeat'((first|refine ae.intro (by apply iS) ?_|refine ao.intro (by apply iS) ?_|refine bb ?_|refine bp (fun h=>?_) (fun h=>?_))<;>simp only[go_sem])
 all_goals(cases h1:bN m 1 4096<;>cases h2:bN s 1 m<;>simp_all [zz,FY])
theorem U8(s m:Int):PureCall Tryz.prog 112 [.one (.int .i64 s),.one (.int .i64 m)] [.agg (eh.enc (zz s m)),.one (.bool (FY s m))]:=by
 refine aL 20 Tryz.func112 Tryz.call112 [.cell 4 30,.tmp 5] ?_;intro _
 try simp only[go_sem]
 repeat'((first|refine ae.intro (by apply iE) ?_|refine ao.intro (by apply iE) ?_|refine bb ?_|refine bp (fun h=>?_) (fun h=>?_))<;>simp only[go_sem])
 all_goals(cases h1:bN m 1 4096<;>cases h2:bN s 1 m<;>simp_all [zz,FY])
def CY(l:Int):fz:=if bN l 0 1152921504606846976 then⟨l,0,-1⟩else⟨0,0,0⟩
theorem aeQ(l:Int):PureCall Tryz.prog 197 [.one (.int .i64 l)] [.agg [.int .i64 (CY l).a8,.int .i64 (CY l).opened,.int .i64 (CY l).blocked],.one (.bool (bN l 0 1152921504606846976))]:=by
 refine aL 10 Tryz.func197 Tryz.call197 [.cell 2 32,.tmp 3] ?_;intro _
 try simp only[go_sem]
 repeat'((first|refine ae.intro (by apply iE) ?_|refine bp (fun h=>?_) (fun h=>?_))<;>simp only[go_sem])
 all_goals simp_all [CY]
def yg(m:Int):du:=if bN m 0 1000 then⟨m,m,0,0⟩else⟨0,0,0,0⟩
theorem aeR(m:Int):PureCall Tryz.prog 198 [.one (.int .i64 m)] [.agg [.int .i64 (yg m).most,.int .i64 (yg m).a8,.int .i64 (yg m).seen,.int .i64 (yg m).closed],.one (.bool (bN m 0 1000))]:=by
 refine aL 11 Tryz.func198 Tryz.call198 [.cell 2 34,.tmp 3] ?_;intro _
 try simp only[go_sem]
 repeat'((first|refine ae.intro (by apply iE) ?_|refine bp (fun h=>?_) (fun h=>?_))<;>simp only[go_sem])
 all_goals simp_all [yg]
set_option maxRecDepth 100000
def A8(n:Int):Bool:=bJ n&&decide (bitI .and .i64 n 1=1)
def k7(n:Int):Bool:=bJ n&&decide (bitI .and .i64 n 2=2)
def lB(s:Bool)(n:Int):Bool:=bJ n&&decide (A8 n=s)
def ee(s:Bool)(n:Int):Bool:=bJ n&&(!k7 n||lB s n)
def eD(s:Bool)(n:Int):Bool:=bJ n&&(!k7 n||!lB s n)
theorem C0(n:Int):PureCall Tryz.prog 89 [.one (.int .i64 n)] [.one (.bool (bJ n))]:=by
 refine aL 5 Tryz.func89 Tryz.call89 [.tmp 2] ?_;intro _
 try simp only[go_sem]
 repeat'(refine ae.intro (by apply ng) ?_<;>simp only[go_sem])
 all_goals simp
theorem aeS(n:Int):PureCall Tryz.prog 183 [.one (.int .i64 n)] [.one (.bool (A8 n))]:=by
 refine aL 10 Tryz.func183 Tryz.call183 [.tmp 2] ?_;intro _
 try simp only[go_sem]
 repeat'((first|refine ae.intro (by apply C0) ?_|refine bb ?_)<;>simp only[go_sem])
 all_goals(refine d' ?_;simp[A8])
theorem aeT(n:Int):PureCall Tryz.prog 50 [.one (.int .i64 n)] [.one (.bool (A8 n))]:=by
 refine aL 10 Tryz.func50 Tryz.call50 [.tmp 2] ?_;intro _
 try simp only[go_sem]
 repeat'((first|refine ae.intro (by apply hJ) ?_|refine bb ?_)<;>simp only[go_sem])
 all_goals(refine d' ?_;simp[A8])
theorem BA(n:Int):PureCall Tryz.prog 153 [.one (.int .i64 n)] [.one (.bool (k7 n))]:=by
 refine aL 10 Tryz.func153 Tryz.call153 [.tmp 2] ?_;intro _
 try simp only[go_sem]
 repeat'((first|refine ae.intro (by apply C0) ?_|refine bb ?_)<;>simp only[go_sem])
 all_goals(refine d' ?_;simp[k7])
theorem yG(n:Int):PureCall Tryz.prog 10 [.one (.int .i64 n)] [.one (.bool (k7 n))]:=by
 refine aL 10 Tryz.func10 Tryz.call10 [.tmp 2] ?_;intro _
 try simp only[go_sem]
 repeat'((first|refine ae.intro (by apply hJ) ?_|refine bb ?_)<;>simp only[go_sem])
 all_goals(refine d' ?_;simp[k7])
theorem Bz(s:Bool)(n:Int):PureCall Tryz.prog 131 [.one (.bool s),.one (.int .i64 n)] [.one (.bool (lB s n))]:=by
 refine aL 13 Tryz.func131 Tryz.call131 [.tmp 4] ?_;intro _
 try simp only[go_sem]
 repeat'((first|refine ae.intro (by apply C0) ?_|refine ao.intro (by apply aeS) ?_|refine bb ?_)<;>simp only[go_sem])
 all_goals(refine d' ?_;simp[lB])
theorem BD(s:Bool)(n:Int):PureCall Tryz.prog 9 [.one (.bool s),.one (.int .i64 n)] [.one (.bool (lB s n))]:=by
 refine aL 13 Tryz.func9 Tryz.call9 [.tmp 4] ?_;intro _
 try simp only[go_sem]
 repeat'((first|refine ae.intro (by apply hJ) ?_|refine ao.intro (by apply aeT) ?_|refine bb ?_)<;>simp only[go_sem])
 all_goals(refine d' ?_;simp[lB])
theorem Nl(s:Bool)(n:Int):PureCall Tryz.prog 108 [.one (.bool s),.one (.int .i64 n)] [.one (.bool (ee s n))]:=by
 refine aL 17 Tryz.func108 Tryz.call108 [.tmp 4] ?_;intro _
 try simp only[go_sem]
 repeat'((first|refine ae.intro (by apply hJ) ?_|refine ao.intro (by first|apply yG|apply BD) ?_|refine bb ?_)<;>simp only[go_sem])
 all_goals(refine d' ?_;simp[ee])
theorem Ik(s:Bool)(n:Int):PureCall Tryz.prog 109 [.one (.bool s),.one (.int .i64 n)] [.one (.bool (eD s n))]:=by
 refine aL 18 Tryz.func109 Tryz.call109 [.tmp 4] ?_;intro _
 try simp only[go_sem]
 repeat'((first|refine ae.intro (by apply hJ) ?_|refine ao.intro (by first|apply yG|apply BD) ?_|refine bb ?_)<;>simp only[go_sem])
 all_goals(refine d' ?_;simp[eD])
theorem I9:ofVal (.int .u64 2)=.d (.int .u64 2):=rfl
theorem U9(x:Int):shI .shr .i64 x 2=some ((0:Int)≤2,.d (.int .i64 (x.fdiv 4))):=rfl
theorem U_(x:Int):shI .shl .i64 x 2=some ((0:Int)≤2,.d (.int .i64 (IntKind.i64.wrap (x * 4)))):=rfl
def fD(n:Int):Int:=if bJ n then n.fdiv 4 else -1
theorem Qh(n:Int):PureCall Tryz.prog 322 [.one (.int .i64 n)] [.one (.int .i64 (fD n))]:=by
 refine aL 8 Tryz.func322 Tryz.call322 [.tmp 2] ?_;intro _
 try simp only[go_sem]
 repeat'((first|refine ae.intro (by apply hJ) ?_|refine bp (fun h=>?_) (fun h=>?_))<;>simp only[go_sem,I9,U9])
 all_goals simp_all [fD]
def mn(n:Int)(s u:Bool):Int:=
 if bN n 0 1152921504606846975 then(if u then IntKind.i64.wrap ((if s then IntKind.i64.wrap (IntKind.i64.wrap (n * 4)+1)else IntKind.i64.wrap (n * 4))+2)else(if s then IntKind.i64.wrap (IntKind.i64.wrap (n * 4)+1)else IntKind.i64.wrap (n * 4)))else -1
theorem PW(n:Int)(s u:Bool):PureCall Tryz.prog 44 [.one (.int .i64 n),.one (.bool s),.one (.bool u)] [.one (.int .i64 (mn n s u))]:=by
 refine aL 20 Tryz.func44 Tryz.call44 [.tmp 6] ?_;intro _
 try simp only[go_sem]
 repeat'((first|refine ae.intro (by apply iE) ?_|refine bp (fun h=>?_) (fun h=>?_))<;>simp only[go_sem,I9,U_])
 all_goals simp_all [mn]
def mu(c:ei):Bool:=bJ c.a8&&bN c.used 0 c.a8&&bN c.blocked (-1) c.a8&&bN c.told (-1) c.a8
theorem US(dp fr dP fp:Int):PureCall Tryz.prog 146 [.agg [.int .i64 dp,.int .i64 fr,.int .i64 dP,.int .i64 fp]] [.one (.bool (mu (⟨dp,fr,dP,fp⟩:ei)))]:=by
 refine aL 27 Tryz.func146 Tryz.call146 [.tmp 2] ?_;intro _
 try simp only[go_sem]
 repeat'((first|refine ae.intro (by apply ng) ?_|refine ao.intro (by apply iS) ?_|refine bb ?_)<;>simp only[go_sem])
 all_goals(refine d' ?_;simp[mu])
theorem yJ(dp fr dP fp:Int):PureCall Tryz.prog 159 [.agg [.int .i64 dp,.int .i64 fr,.int .i64 dP,.int .i64 fp]] [.one (.bool (mu (⟨dp,fr,dP,fp⟩:ei)))]:=by
 refine aL 27 Tryz.func159 Tryz.call159 [.tmp 2] ?_;intro _
 try simp only[go_sem]
 repeat'((first|refine ae.intro (by apply hJ) ?_|refine ao.intro (by apply iE) ?_|refine bb ?_)<;>simp only[go_sem])
 all_goals(refine d' ?_;simp[mu])
def B4(c:ei):Int:=if mu c then IntKind.i64.wrap (c.a8-c.used)else 0
theorem ZW(dp fr dP fp:Int):PureCall Tryz.prog 316 [.agg [.int .i64 dp,.int .i64 fr,.int .i64 dP,.int .i64 fp]] [.one (.int .i64 (B4 (⟨dp,fr,dP,fp⟩:ei)))]:=by
 refine aL 11 Tryz.func316 Tryz.call316 [.tmp 2] ?_;intro _
 try simp only[go_sem]
 repeat'((first|refine ae.intro (by apply yJ) ?_|refine bp (fun h=>?_) (fun h=>?_))<;>simp only[go_sem])
 all_goals simp_all [B4]
def u7(c:ei)(n:Int):Bool:=mu c&&decide (0≤n)&&decide (n≤IntKind.i64.wrap (c.a8-c.used))
def wc(c:ei)(n:Int):ei:=if u7 c n then {c with used:=IntKind.i64.wrap (c.used+n)}else c
theorem ZV(dp fr dP fp n:Int):PureCall Tryz.prog 320 [.agg [.int .i64 dp,.int .i64 fr,.int .i64 dP,.int .i64 fp],.one (.int .i64 n)] [.agg [.int .i64 (wc (⟨dp,fr,dP,fp⟩:ei) n).a8,.int .i64 (wc (⟨dp,fr,dP,fp⟩:ei) n).used,.int .i64 (wc (⟨dp,fr,dP,fp⟩:ei) n).blocked,.int .i64 (wc (⟨dp,fr,dP,fp⟩:ei) n).told],.one (.bool (u7 (⟨dp,fr,dP,fp⟩:ei) n))]:=by
 refine aL 29 Tryz.func320 Tryz.call320 [.cell 4 28,.tmp 5] ?_;intro _
 try simp only[go_sem]
 repeat'((first|refine ae.intro (by apply yJ) ?_|refine bb ?_|refine bp (fun h=>?_) (fun h=>?_))<;>simp only[go_sem])
 all_goals(cases hc:u7 (⟨dp,fr,dP,fp⟩:ei) n<;>first|(simp[wc,hc];done)|(simp[wc,hc];simp_all;done)|((try(simp only[il,kk]at *));simp[wc, *];done)|(exfalso;simp[u7]at hc h;first|(simp_all;done)|(simp_all;omega)|omega|grind)|(exfalso;simp[u7,c3,cf]at *;first|(simp_all;done)|(simp_all;omega)|omega|grind))
def I_(c:ei)(l:Int):Bool:=mu c&&bJ l&&decide (c.a8<l)
def wN(c:ei)(l:Int):ei:=if I_ c l then {c with a8:=l,blocked:=-1}else c
theorem TW(dp fr dP fp l:Int):PureCall Tryz.prog 288 [.agg [.int .i64 dp,.int .i64 fr,.int .i64 dP,.int .i64 fp],.one (.int .i64 l)] [.agg [.int .i64 (wN (⟨dp,fr,dP,fp⟩:ei) l).a8,.int .i64 (wN (⟨dp,fr,dP,fp⟩:ei) l).used,.int .i64 (wN (⟨dp,fr,dP,fp⟩:ei) l).blocked,.int .i64 (wN (⟨dp,fr,dP,fp⟩:ei) l).told]]:=by
 refine aL 24 Tryz.func288 Tryz.call288 [.cell 4 28] ?_;intro _
 try simp only[go_sem]
 repeat'((first|refine ae.intro (by apply yJ) ?_|refine ao.intro (by apply hJ) ?_|refine bb ?_|refine bp (fun h=>?_) (fun h=>?_))<;>simp only[go_sem])
 all_goals(cases hc:I_ (⟨dp,fr,dP,fp⟩:ei) l<;>first|(simp[wN,hc];done)|(simp[wN,hc];simp_all;done)|((try(simp only[il,kk]at *));simp[wN, *];done)|(exfalso;simp[I_]at hc h;first|(simp_all;done)|(simp_all;omega)|omega|grind)|(exfalso;simp[I_,c3,cf]at *;first|(simp_all;done)|(simp_all;omega)|omega|grind))
def I'(c:ei):Bool:=mu c&&decide (c.used=c.a8)&&decide (c.blocked=-1)&&decide (c.told≠c.a8)
def wb(c:ei):ei:=if I' c then {c with blocked:=c.a8}else c
theorem ZL(dp fr dP fp:Int):PureCall Tryz.prog 318 [.agg [.int .i64 dp,.int .i64 fr,.int .i64 dP,.int .i64 fp]] [.agg [.int .i64 (wb (⟨dp,fr,dP,fp⟩:ei)).a8,.int .i64 (wb (⟨dp,fr,dP,fp⟩:ei)).used,.int .i64 (wb (⟨dp,fr,dP,fp⟩:ei)).blocked,.int .i64 (wb (⟨dp,fr,dP,fp⟩:ei)).told]]:=by
 refine aL 28 Tryz.func318 Tryz.call318 [.cell 2 28] ?_;intro _
 try simp only[go_sem]
 repeat'((first|refine ae.intro (by apply yJ) ?_|refine bb ?_|refine bp (fun h=>?_) (fun h=>?_))<;>simp only[go_sem])
 all_goals(cases hc:I' (⟨dp,fr,dP,fp⟩:ei)<;>first|(simp[wb,hc];done)|(simp[wb,hc];simp_all;done)|((try(simp only[il,kk]at *));simp[wb, *];done)|(exfalso;simp[I']at hc h;first|(simp_all;done)|(simp_all;omega)|omega|grind)|(exfalso;simp[I',c3,cf]at *;first|(simp_all;done)|(simp_all;omega)|omega|grind))
def tV(c:ei):Bool:=mu c&&decide (c.blocked=c.a8)
theorem Q4(dp fr dP fp:Int):PureCall Tryz.prog 272 [.agg [.int .i64 dp,.int .i64 fr,.int .i64 dP,.int .i64 fp]] [.one (.bool (tV (⟨dp,fr,dP,fp⟩:ei)))]:=by
 refine aL 12 Tryz.func272 Tryz.call272 [.tmp 2] ?_;intro _
 try simp only[go_sem]
 repeat'((first|refine ae.intro (by apply yJ) ?_|refine bb ?_)<;>simp only[go_sem])
 all_goals(refine d' ?_;simp[tV])
def Ja(c:ei):Bool:=mu c&&decide (c.blocked≠-1)
def v8(c:ei):ei:=if Ja c then {c with told:=c.blocked,blocked:=-1}else c
theorem Q5(dp fr dP fp:Int):PureCall Tryz.prog 274 [.agg [.int .i64 dp,.int .i64 fr,.int .i64 dP,.int .i64 fp]] [.agg [.int .i64 (v8 (⟨dp,fr,dP,fp⟩:ei)).a8,.int .i64 (v8 (⟨dp,fr,dP,fp⟩:ei)).used,.int .i64 (v8 (⟨dp,fr,dP,fp⟩:ei)).blocked,.int .i64 (v8 (⟨dp,fr,dP,fp⟩:ei)).told]]:=by
 refine aL 15 Tryz.func274 Tryz.call274 [.cell 2 28] ?_;intro _
 try simp only[go_sem]
 repeat'((first|refine ae.intro (by apply yJ) ?_|refine bb ?_|refine bp (fun h=>?_) (fun h=>?_))<;>simp only[go_sem])
 all_goals(cases hc:Ja (⟨dp,fr,dP,fp⟩:ei)<;>first|(simp[v8,hc];done)|(simp[v8,hc];simp_all;done)|((try(simp only[il,kk]at *));simp[v8, *];done)|(exfalso;simp[Ja]at hc h;first|(simp_all;done)|(simp_all;omega)|omega|grind)|(exfalso;simp[Ja,c3,cf]at *;first|(simp_all;done)|(simp_all;omega)|omega|grind))
def oB(w:eh):Bool:=bN w.most 1 4096&&bN w.size 1 w.most&&bN w.a8 1 4611686018427387903&&bN w.seen 0 w.a8&&bN w.read 0 w.seen&&decide (w.a8≤IntKind.i64.wrap (w.read+w.size))&&bN w.j6 0 1000000
theorem UT(mH mI mJ n1 n2 n3:Int):PureCall Tryz.prog 147 [.agg [.int .i64 mH,.int .i64 mI,.int .i64 mJ,.int .i64 n1,.int .i64 n2,.int .i64 n3]] [.one (.bool (oB (⟨mH,mI,mJ,n1,n2,n3⟩:eh)))]:=by
 refine aL 47 Tryz.func147 Tryz.call147 [.tmp 2] ?_;intro _
 try simp only[go_sem]
 repeat'((first|refine ae.intro (by apply iS) ?_|refine ao.intro (by apply iS) ?_|refine bb ?_)<;>simp only[go_sem])
 all_goals(refine d' ?_;simp[oB])
theorem DI(mH mI mJ n1 n2 n3:Int):PureCall Tryz.prog 160 [.agg [.int .i64 mH,.int .i64 mI,.int .i64 mJ,.int .i64 n1,.int .i64 n2,.int .i64 n3]] [.one (.bool (oB (⟨mH,mI,mJ,n1,n2,n3⟩:eh)))]:=by
 refine aL 47 Tryz.func160 Tryz.call160 [.tmp 2] ?_;intro _
 try simp only[go_sem]
 repeat'((first|refine ae.intro (by apply iE) ?_|refine ao.intro (by apply iE) ?_|refine bb ?_)<;>simp only[go_sem])
 all_goals(refine d' ?_;simp[oB])
def iN(w:eh)(n:Int):Bool:=oB w&&decide (0≤n)&&decide (n≤IntKind.i64.wrap (w.a8-w.seen))
def oM(w:eh)(n:Int):eh:=if iN w n then {w with seen:=IntKind.i64.wrap (w.seen+n)}else w
theorem TV(mH mI mJ n1 n2 n3 n:Int):PureCall Tryz.prog 327 [.agg [.int .i64 mH,.int .i64 mI,.int .i64 mJ,.int .i64 n1,.int .i64 n2,.int .i64 n3],.one (.int .i64 n)] [.agg (eh.enc (oM (⟨mH,mI,mJ,n1,n2,n3⟩:eh) n)),.one (.bool (iN (⟨mH,mI,mJ,n1,n2,n3⟩:eh) n))]:=by
 refine aL 29 Tryz.func327 Tryz.call327 [.cell 4 30,.tmp 5] ?_;intro _
 try simp only[go_sem]
 repeat'((first|refine ae.intro (by apply DI) ?_|refine bb ?_|refine bp (fun h=>?_) (fun h=>?_))<;>simp only[go_sem])
 all_goals(cases hc:iN (⟨mH,mI,mJ,n1,n2,n3⟩:eh) n<;>first|(simp[oM,hc];done)|(simp[oM,hc];simp_all;done)|((try(simp only[il,kk]at *));simp[oM, *];done)|(exfalso;simp[iN]at hc h;first|(simp_all;done)|(simp_all;omega)|omega|grind)|(exfalso;simp[iN,c3,cf]at *;first|(simp_all;done)|(simp_all;omega)|omega|grind))
def Fq(w:eh)(n:Int):Bool:=oB w&&decide (0≤n)&&decide (n≤IntKind.i64.wrap (w.seen-w.read))
def CX(w:eh)(n:Int):eh:=if Fq w n then {w with read:=IntKind.i64.wrap (w.read+n)}else w
theorem T0(mH mI mJ n1 n2 n3 n:Int):PureCall Tryz.prog 268 [.agg [.int .i64 mH,.int .i64 mI,.int .i64 mJ,.int .i64 n1,.int .i64 n2,.int .i64 n3],.one (.int .i64 n)] [.agg (eh.enc (CX (⟨mH,mI,mJ,n1,n2,n3⟩:eh) n)),.one (.bool (Fq (⟨mH,mI,mJ,n1,n2,n3⟩:eh) n))]:=by
 refine aL 29 Tryz.func268 Tryz.call268 [.cell 4 30,.tmp 5] ?_;intro _
 try simp only[go_sem]
 repeat'((first|refine ae.intro (by apply DI) ?_|refine bb ?_|refine bp (fun h=>?_) (fun h=>?_))<;>simp only[go_sem])
 all_goals(cases hc:Fq (⟨mH,mI,mJ,n1,n2,n3⟩:eh) n<;>first|(simp[CX,hc];done)|(simp[CX,hc];simp_all;done)|((try(simp only[il,kk]at *));simp[CX, *];done)|(exfalso;simp[Fq]at hc h;first|(simp_all;done)|(simp_all;omega)|omega|grind)|(exfalso;simp[Fq,c3,cf]at *;first|(simp_all;done)|(simp_all;omega)|omega|grind))
def Ai(w:eh):Bool:=oB w&&decide (w.a8<4611686018427387903)&&decide (IntKind.i64.wrap ((IntKind.i64.wrap (w.size+1)).tdiv 2)≤IntKind.i64.wrap (IntKind.i64.wrap (w.read+w.size)-w.a8))
theorem LA(mH mI mJ n1 n2 n3:Int):PureCall Tryz.prog 308 [.agg [.int .i64 mH,.int .i64 mI,.int .i64 mJ,.int .i64 n1,.int .i64 n2,.int .i64 n3]] [.one (.bool (Ai (⟨mH,mI,mJ,n1,n2,n3⟩:eh)))]:=by
 refine aL 25 Tryz.func308 Tryz.call308 [.tmp 2] ?_;intro _
 try simp only[go_sem]
 repeat'((first|refine ae.intro (by apply DI) ?_|refine bb ?_)<;>simp only[go_sem])
 all_goals(refine d' ?_;simp[Ai])
def A5(w:eh)(gh iF:Int):Bool:=Ai w&&bN gh w.j6 1000000&&bN iF 1 1000
def Fs(w:eh)(gh iF:Int):Int:=if IntKind.i64.wrap (gh-w.j6)<IntKind.i64.wrap (2 * iF)then cG (IntKind.i64.wrap (2 * w.size)) w.most else w.size
def CV(w:eh)(gh iF:Int):eh:=if A5 w gh iF then {w with size:=Fs w gh iF,a8:=cG (IntKind.i64.wrap (w.read+Fs w gh iF)) 4611686018427387903,j6:=gh}else w
theorem Q1(mH mI mJ n1 n2 n3 n t:Int):PureCall Tryz.prog 309 [.agg [.int .i64 mH,.int .i64 mI,.int .i64 mJ,.int .i64 n1,.int .i64 n2,.int .i64 n3],.one (.int .i64 n),.one (.int .i64 t)] [.agg (eh.enc (CV (⟨mH,mI,mJ,n1,n2,n3⟩:eh) n t)),.one (.bool (A5 (⟨mH,mI,mJ,n1,n2,n3⟩:eh) n t))]:=by
 refine aL 48 Tryz.func309 Tryz.call309 [.cell 6 30,.tmp 7] ?_;intro _
 try simp only[go_sem]
 repeat'((first|refine ae.intro (by apply LA) ?_|refine ao.intro (by apply iE) ?_|refine bb ?_|refine bp (fun h=>?_) (fun h=>?_))<;>simp only[go_sem])
 all_goals(cases hc:A5 (⟨mH,mI,mJ,n1,n2,n3⟩:eh) n t<;>first|(simp[CV,Fs,cG,hc];done)|(simp[CV,Fs,cG,hc];simp_all;done)|((try(simp only[il,kk]at *));simp[CV,Fs,cG, *];done)|(exfalso;simp[A5]at hc h;first|(simp_all;done)|(simp_all;omega)|omega|grind)|(exfalso;simp[A5,c3,cf]at *;first|(simp_all;done)|(simp_all;omega)|omega|grind))
def j_(c:fz):Bool:=bN c.a8 0 1152921504606846976&&bN c.opened 0 c.a8&&bN c.blocked (-1) c.a8
theorem Fk(dp fX dP:Int):PureCall Tryz.prog 87 [.agg [.int .i64 dp,.int .i64 fX,.int .i64 dP]] [.one (.bool (j_ (⟨dp,fX,dP⟩:fz)))]:=by
 refine aL 20 Tryz.func87 Tryz.call87 [.tmp 2] ?_;intro _
 try simp only[go_sem]
 repeat'((first|refine ae.intro (by apply iS) ?_|refine ao.intro (by apply iS) ?_|refine bb ?_)<;>simp only[go_sem])
 all_goals(refine d' ?_;simp[j_])
theorem K0(dp fX dP:Int):PureCall Tryz.prog 104 [.agg [.int .i64 dp,.int .i64 fX,.int .i64 dP]] [.one (.bool (j_ (⟨dp,fX,dP⟩:fz)))]:=by
 refine aL 20 Tryz.func104 Tryz.call104 [.tmp 2] ?_;intro _
 try simp only[go_sem]
 repeat'((first|refine ae.intro (by apply iE) ?_|refine ao.intro (by apply iE) ?_|refine bb ?_)<;>simp only[go_sem])
 all_goals(refine d' ?_;simp[j_])
def iY(c:fz):Bool:=j_ c&&decide (c.opened≠c.a8)
def k5(c:fz):Int:=if iY c then c.opened else -1
def kx(c:fz):fz:=if iY c then {c with opened:=IntKind.i64.wrap (c.opened+1)}else if j_ c then {c with blocked:=c.a8}else c
theorem PV(dp fX dP:Int):PureCall Tryz.prog 43 [.agg [.int .i64 dp,.int .i64 fX,.int .i64 dP]] [.one (.int .i64 (k5 (⟨dp,fX,dP⟩:fz))),.agg [.int .i64 (kx (⟨dp,fX,dP⟩:fz)).a8,.int .i64 (kx (⟨dp,fX,dP⟩:fz)).opened,.int .i64 (kx (⟨dp,fX,dP⟩:fz)).blocked],.one (.bool (iY (⟨dp,fX,dP⟩:fz)))]:=by
 refine aL 26 Tryz.func43 Tryz.call43 [.tmp 2,.cell 3 32,.tmp 4] ?_;intro _
 try simp only[go_sem]
 repeat'((first|refine ae.intro (by apply K0) ?_|refine ba [[.post,.cA,.post,.post],[.cA,.post,.post,.post],[.pre,.pre,.post,.post],[.pre,.pre,.pre,.post]] (by kernel_rfl) (by rfl) ?_|refine ba [[.post,.cA,.post,.post,.post],[.cA,.post,.cA,.post,.post],[.pre,.cA,.post,.post,.post],[.pre,.pre,.pre,.post,.post],[.pre,.pre,.pre,.pre,.post]] (by kernel_rfl) (by rfl) ?_|refine bp (fun h=>?_) (fun h=>?_))<;>simp only[go_sem])
 all_goals(cases hc:iY (⟨dp,fX,dP⟩:fz)<;>first|(simp[k5,kx,hc];done)|(simp[k5,kx,hc];simp_all;done)|((try(simp only[il,kk]at *));simp[k5,kx, *];done)|(exfalso;simp[iY]at hc h;first|(simp_all;done)|(simp_all;omega)|omega|grind)|(exfalso;simp[iY,c3,cf]at *;first|(simp_all;done)|(simp_all;omega)|omega|grind))
def Jb(c:fz)(l:Int):Bool:=j_ c&&decide (c.a8<l)&&decide (l≤1152921504606846976)
def w3(c:fz)(l:Int):fz:=if Jb c l then {c with a8:=l,blocked:=-1}else c
theorem TX(dp fX dP l:Int):PureCall Tryz.prog 289 [.agg [.int .i64 dp,.int .i64 fX,.int .i64 dP],.one (.int .i64 l)] [.agg [.int .i64 (w3 (⟨dp,fX,dP⟩:fz) l).a8,.int .i64 (w3 (⟨dp,fX,dP⟩:fz) l).opened,.int .i64 (w3 (⟨dp,fX,dP⟩:fz) l).blocked]]:=by
 refine aL 23 Tryz.func289 Tryz.call289 [.cell 4 32] ?_;intro _
 try simp only[go_sem]
 repeat'((first|refine ae.intro (by apply K0) ?_|refine bb ?_|refine bp (fun h=>?_) (fun h=>?_))<;>simp only[go_sem])
 all_goals(cases hc:Jb (⟨dp,fX,dP⟩:fz) l<;>first|(simp[w3,hc];done)|(simp[w3,hc];simp_all;done)|((try(simp only[il,kk]at *));simp[w3, *];done)|(exfalso;simp[Jb]at hc h;first|(simp_all;done)|(simp_all;omega)|omega|grind)|(exfalso;simp[Jb,c3,cf]at *;first|(simp_all;done)|(simp_all;omega)|omega|grind))
def kB(a:du):Bool:=bN a.most 0 1000&&bN a.a8 a.most 1152921504606846976&&bN a.seen 0 a.a8&&bN a.closed 0 a.seen&&decide (a.a8≤IntKind.i64.wrap (a.closed+a.most))
theorem UU(et eu ew eF:Int):PureCall Tryz.prog 148 [.agg [.int .i64 et,.int .i64 eu,.int .i64 ew,.int .i64 eF]] [.one (.bool (kB (⟨et,eu,ew,eF⟩:du)))]:=by
 refine aL 37 Tryz.func148 Tryz.call148 [.tmp 2] ?_;intro _
 try simp only[go_sem]
 repeat'((first|refine ae.intro (by apply iS) ?_|refine ao.intro (by apply iS) ?_|refine bb ?_)<;>simp only[go_sem])
 all_goals(refine d' ?_;simp[kB])
theorem GN(et eu ew eF:Int):PureCall Tryz.prog 161 [.agg [.int .i64 et,.int .i64 eu,.int .i64 ew,.int .i64 eF]] [.one (.bool (kB (⟨et,eu,ew,eF⟩:du)))]:=by
 refine aL 37 Tryz.func161 Tryz.call161 [.tmp 2] ?_;intro _
 try simp only[go_sem]
 repeat'((first|refine ae.intro (by apply iE) ?_|refine ao.intro (by apply iE) ?_|refine bb ?_)<;>simp only[go_sem])
 all_goals(refine d' ?_;simp[kB])
def uU(a:du)(i:Int):Bool:=kB a&&decide (0≤i)&&decide (i<a.a8)
def k9(a:du)(i:Int):Int:=if uU a i then dL 0 (IntKind.i64.wrap (IntKind.i64.wrap (i+1)-a.seen))else 0
def iz(a:du)(i:Int):du:=if uU a i then {a with seen:=IntKind.i64.wrap (a.seen+k9 a i)}else a
theorem Qi(et eu ew eF i:Int):PureCall Tryz.prog 321 [.agg [.int .i64 et,.int .i64 eu,.int .i64 ew,.int .i64 eF],.one (.int .i64 i)] [.agg [.int .i64 (iz (⟨et,eu,ew,eF⟩:du) i).most,.int .i64 (iz (⟨et,eu,ew,eF⟩:du) i).a8,.int .i64 (iz (⟨et,eu,ew,eF⟩:du) i).seen,.int .i64 (iz (⟨et,eu,ew,eF⟩:du) i).closed],.one (.int .i64 (k9 (⟨et,eu,ew,eF⟩:du) i)),.one (.bool (uU (⟨et,eu,ew,eF⟩:du) i))]:=by
 refine aL 35 Tryz.func321 Tryz.call321 [.cell 4 34,.tmp 5,.tmp 6] ?_;intro _
 try simp only[go_sem]
 repeat'((first|refine ae.intro (by apply GN) ?_|refine bb ?_|refine bp (fun h=>?_) (fun h=>?_))<;>simp only[go_sem])
 all_goals(cases hc:uU (⟨et,eu,ew,eF⟩:du) i<;>first|(simp[iz,k9,dL,hc];done)|(simp[iz,k9,dL,hc];simp_all;done)|((try(simp only[il,kk]at *));simp[iz,k9,dL, *];done)|(exfalso;simp[uU]at hc h;first|(simp_all;done)|(simp_all;omega)|omega|grind)|(exfalso;simp[uU,c3,cf]at *;first|(simp_all;done)|(simp_all;omega)|omega|grind))
def vS(a:du):Bool:=kB a&&decide (a.closed≠a.seen)
def i_(a:du):du:=if vS a then {a with closed:=IntKind.i64.wrap (a.closed+1)}else a
theorem GC(et eu ew eF:Int):PureCall Tryz.prog 188 [.agg [.int .i64 et,.int .i64 eu,.int .i64 ew,.int .i64 eF]] [.agg [.int .i64 (i_ (⟨et,eu,ew,eF⟩:du)).most,.int .i64 (i_ (⟨et,eu,ew,eF⟩:du)).a8,.int .i64 (i_ (⟨et,eu,ew,eF⟩:du)).seen,.int .i64 (i_ (⟨et,eu,ew,eF⟩:du)).closed],.one (.bool (vS (⟨et,eu,ew,eF⟩:du)))]:=by
 refine aL 20 Tryz.func188 Tryz.call188 [.cell 2 34,.tmp 3] ?_;intro _
 try simp only[go_sem]
 repeat'((first|refine ae.intro (by apply GN) ?_|refine bb ?_|refine bp (fun h=>?_) (fun h=>?_))<;>simp only[go_sem])
 all_goals(cases hc:vS (⟨et,eu,ew,eF⟩:du)<;>first|(simp[i_,hc];done)|(simp[i_,hc];simp_all;done)|((try(simp only[il,kk]at *));simp[i_, *];done)|(exfalso;simp[vS]at hc h;first|(simp_all;done)|(simp_all;omega)|omega|grind)|(exfalso;simp[vS,c3,cf]at *;first|(simp_all;done)|(simp_all;omega)|omega|grind))
def IS(a:du):Bool:=kB a&&decide (IntKind.i64.wrap ((IntKind.i64.wrap (a.most+1)).tdiv 2)≤IntKind.i64.wrap (IntKind.i64.wrap (a.closed+a.most)-a.a8))&&decide (0<a.most)
theorem Q2(et eu ew eF:Int):PureCall Tryz.prog 310 [.agg [.int .i64 et,.int .i64 eu,.int .i64 ew,.int .i64 eF]] [.one (.bool (IS (⟨et,eu,ew,eF⟩:du)))]:=by
 refine aL 25 Tryz.func310 Tryz.call310 [.tmp 2] ?_;intro _
 try simp only[go_sem]
 repeat'((first|refine ae.intro (by apply GN) ?_|refine bb ?_)<;>simp only[go_sem])
 all_goals(refine d' ?_;simp[IS])
def CW(a:du):Bool:=IS a&&decide (IntKind.i64.wrap (a.closed+a.most)≤1152921504606846976)
def w2(a:du):du:=if CW a then {a with a8:=IntKind.i64.wrap (a.closed+a.most)}else a
theorem Zj(et eu ew eF:Int):PureCall Tryz.prog 311 [.agg [.int .i64 et,.int .i64 eu,.int .i64 ew,.int .i64 eF]] [.agg [.int .i64 (w2 (⟨et,eu,ew,eF⟩:du)).most,.int .i64 (w2 (⟨et,eu,ew,eF⟩:du)).a8,.int .i64 (w2 (⟨et,eu,ew,eF⟩:du)).seen,.int .i64 (w2 (⟨et,eu,ew,eF⟩:du)).closed],.one (.bool (CW (⟨et,eu,ew,eF⟩:du)))]:=by
 refine aL 23 Tryz.func311 Tryz.call311 [.cell 2 34,.tmp 3] ?_;intro _
 try simp only[go_sem]
 repeat'((first|refine ae.intro (by apply Q2) ?_|refine bb ?_|refine bp (fun h=>?_) (fun h=>?_))<;>simp only[go_sem])
 all_goals(cases hc:CW (⟨et,eu,ew,eF⟩:du)<;>first|(simp[w2,hc];done)|(simp[w2,hc];simp_all;done)|((try(simp only[il,kk]at *));simp[w2, *];done)|(exfalso;simp[CW]at hc h;first|(simp_all;done)|(simp_all;omega)|omega|grind)|(exfalso;simp[CW,c3,cf]at *;first|(simp_all;done)|(simp_all;omega)|omega|grind))
def lR(p:fN):Bool:=bN p.fB 0 7
theorem Ob(km:Int)(kn:Bool):PureCall Tryz.prog 136 [.agg [.int .i64 km,.bool kn]] [.one (.bool (lR (⟨km,kn⟩:fN)))]:=by
 refine aL 6 Tryz.func136 Tryz.call136 [.tmp 2] ?_;intro _
 try simp only[go_sem]
 repeat'(refine ae.intro (by apply iS) ?_<;>simp only[go_sem])
 all_goals simp[lR]
theorem Ft(km:Int)(kn:Bool):PureCall Tryz.prog 139 [.agg [.int .i64 km,.bool kn]] [.one (.bool (lR (⟨km,kn⟩:fN)))]:=by
 refine aL 6 Tryz.func139 Tryz.call139 [.tmp 2] ?_;intro _
 try simp only[go_sem]
 repeat'(refine ae.intro (by apply iE) ?_<;>simp only[go_sem])
 all_goals simp[lR]
def mg:fN:=⟨3,false⟩
theorem U' :PureCall Tryz.prog 106 [] [.agg [.int .i64 (mg).fB,.bool (mg).eW]]:=by
 refine aL 2 Tryz.func106 Tryz.call106 [.cell 0 65] ?_;intro _
 try simp only[go_sem]
 all_goals simp[mg]
def BN:da:=⟨16,8,32,16,64,2,2,4⟩
theorem YD :PureCall Tryz.prog 199 [] [.agg (da.enc (BN))]:=by
 refine aL 2 Tryz.func199 Tryz.call199 [.cell 0 25] ?_;intro _
 try simp only[go_sem]
 all_goals simp[BN]
set_option maxRecDepth 100000
def Wc:List (List bt):=ct 14 [4517978,4518331,4518337,4518316,4518262,4518100,4517613,4775314,4779688,4764379,4725013,4606915,4251528,3188646]
def Wd:List (List bt):=ct 14 [3985925,3985927,3985920,3985902,3985848,4545922,4546408,4544707,4540333,4527211,4753444,4635346,4251649,3188646]
def We:List (List bt):=ct 18 [365897129,385029358,385029364,385029343,385029289,385029127,386709349,386710807,386705704,386692582,386653216,387331915,386977621,385826530,382637521,373071583,344373768,258280326]
def Wf:List (List bt):=ct 14 [3988112,3988114,3988107,3988089,3988035,3988966,3988480,3986901,4760005,4773127,4727200,4609102,4254808,3188646]
def Wg:List (List bt):=ct 18 [365897129,385035919,385035925,385035904,385035850,385035688,385038481,385037023,385032286,387351598,387390964,387253183,386898889,385836007,382637521,373071583,344373768,258280326]
def Wh:List (List bt):=ct 25 [737454959978,737454959980,737454959973,737454959955,737454959901,737454988534,737454989020,737454987319,737454982945,737454969823,737454930336,747936157360,747936511654,747935271625,747932082979,747922517041,752994767092,753080860534,752779533487,752004692509,749680169575,742685165986,721764371007,800217020029,564859072962]
attribute [go_sem] Wc Wd We Wf Wg Wh
theorem kJ(xs:List ab):cy xs=true↔(∀x∈xs,cT x=true)∧xs.Pairwise (fun a b=>a.high<b.low):=by
 constructor
 ·intro h;have OE:∀i (hi:i<xs.length),rAt xs i=true:=fun i hi=>by
   unfold cy at h;rw[List.all_eq_true]at h;exact h i (List.mem_range.2 hi)
  have hok:∀i (hi:i<xs.length),cT xs[i]=true:=fun i hi=>by
   cases i with
   |zero=>rw[←Jk xs hi];exact OE 0 hi
   |succ j=>have:=OE (j+1) hi;rw[FA xs j hi,cX]at this;exact this.1
  have cw:∀j (ak:j+1<xs.length),xs[j].high<xs[j+1].low:=fun j ak=>by
   have:=OE (j+1) ak;rw[FA xs j ak,cX]at this;exact ch this.2
  refine⟨fun x hx=>?_,?_⟩
  ·obtain⟨i,hi,rfl⟩:=List.getElem_of_mem hx;exact hok i hi
  ·rw[List.pairwise_iff_getElem];intro i j hi ak lg;obtain⟨d,rfl⟩:∃d,j=i+1+d:=⟨j-i-1,by omega⟩;clear lg
   induction d with
   |zero=>exact cw i (by omega)
   |succ d dr=>
    have h1:=dr (by omega);have h2:=cw (i+1+d) (by omega);have aj:=hok (i+1+d) (by omega);simp only[cT,cX,il]at aj;have e:xs[i+1+(d+1)].low=xs[i+1+d+1].low:=rfl;omega
 ·rintro⟨h1,h2⟩;unfold cy;rw[List.all_eq_true];intro i hi;have hi:=List.mem_range.1 hi
  cases i with
  |zero=>rw[Jk xs hi];exact h1 _ (List.getElem_mem hi)
  |succ j=>
   rw[FA xs j hi,cX];exact⟨h1 _ (List.getElem_mem hi),bc ((List.pairwise_iff_getElem.1 h2) j (j+1) (by omega) hi (by omega))⟩
theorem gM(r:ab):cT r=true↔0≤r.low∧r.low<r.high∧r.high≤4611686018427387903:=by
 simp only[cT,cX,il,and_assoc]
theorem xb{α β:Type}(g:β→α→β)(a:β)(xs:List α)(i:Nat)(h:i<xs.length):(xs.take (i+1)).foldl g a=g ((xs.take i).foldl g a) xs[i]:=by
 rw[List.take_add_one,dg h,Option.toList_some,List.foldl_append];rfl
theorem OF{α β:Type}(f:α→List β)(xs:List α)(i:Nat)(h:i<xs.length):(xs.take (i+1)).flatMap f=(xs.take i).flatMap f++f xs[i]:=by
 rw[List.take_add_one,dg h,Option.toList_some,List.flatMap_append];simp
def iO(xs:List ab):Int:=xs.foldl (fun n r=>n+(r.high-r.low)) 0
theorem FM{xs:List ab}(h:cy xs=true):∀i,(hi:i<xs.length)→0≤iO (xs.take i)∧iO (xs.take i)≤xs[i].low
 |0,hi=>by
  have h1:=(gM _).1 (((kJ xs).1 h).1 _ (List.getElem_mem hi));simp only[List.take_zero,iO,List.foldl_nil];omega
 |i+1,hi=>by
  obtain⟨h1,h2⟩:=FM h i (by omega);have aj:=(List.pairwise_iff_getElem.1 ((kJ xs).1 h).2) i (i+1) (by omega) hi (by omega);have aD:=(gM _).1 (((kJ xs).1 h).1 _ (List.getElem_mem (show i<xs.length by omega)));have e:iO (xs.take (i+1))=iO (xs.take i)+(xs[i].high-xs[i].low):=xb _ _ _ _ _;omega
def jj(xs:List ab):Int:=if cy xs then iO xs else -1
theorem Bj(xs:List ab):PureCall Tryz.prog 177 [.one (.sl 2 (xs.map ab.enc))] [.one (.int .i64 (jj xs))]:=by
 refine aL 28 Tryz.func177 Tryz.call177 [.tmp 2] ?_;intro ok;have hm:=fj ok
 cases hA:cy xs with
 |false=>
  try simp only[go_sem]
  repeat'(refine ae.intro (by apply vC) ?_<;>simp only[go_sem,hA])
  all_goals simp[jj,hA]
 |true=>
  simp only[go_sem];refine ae.intro (vC xs) ?_;simp only[go_sem,hA];refine b5.intro (fun i:Nat=>⟨(.d (.sl 2 (xs.map ab.enc))::.J::.d (.int .i64 0)::.d (.int .i64 (iO (xs.take i)))::.d (.int .i64 i)::jn 23 []),[]⟩)
   (fun i=>xs.length-i) (fun i=>i≤xs.length) 0 [] (by omega) ?_ ?_
  ·simp only[go_sem];simp[iO]
  ·intro i hi;by_cases h1:i<xs.length
   ·have ar:decide ((i:Int)<(xs.length:Int))=true:=bc (by omega);have av:=bZ ab.enc xs i h1;have hw:=dv h1 hm;have hb:=FM hA i h1;have aD:=(gM _).1 (((kJ xs).1 hA).1 _ (List.getElem_mem h1));have e:iO (xs.take (i+1))=iO (xs.take i)+(xs[i].high-xs[i].low):=xb _ _ _ _ _;have eI:IntKind.i64.wrap (iO (xs.take i)+xs[i].high)=iO (xs.take i)+xs[i].high:=by rw[bC]<;>omega
    have gj:IntKind.i64.wrap (iO (xs.take i)+xs[i].high-xs[i].low)=iO (xs.take (i+1)):=by rw[bC]<;>omega
    try simp only[go_sem,lM,ar]
    repeat'(first|(refine ba Wc (by kernel_rfl) (by rfl) ?_<;>simp only[go_sem,lM,aF,av,ab.enc,eI,gj])|(with_reducible refine al ?_)|fail)
    all_goals(refine bm.intro (i+1) [] (by omega) (by omega) ?_;simp only[go_sem,hw];try simp)
   ·have ar:decide ((i:Int)<(xs.length:Int))=false:=a_ (by omega);obtain rfl:i=xs.length:=by omega
    simp only[go_sem,lM,ar,dB];simp[jj,hA]
theorem OG(xs:List ab):PureCall Tryz.prog 256 [.one (.sl 2 (xs.map ab.enc))] [.one (.int .i64 (jj xs))]:=by
 refine aL 24 Tryz.func256 Tryz.call256 [.tmp 2] ?_;intro ok;have hm:=fj ok
 cases hA:cy xs with
 |false=>
  try simp only[go_sem]
  repeat'(refine ae.intro (by apply FB) ?_<;>simp only[go_sem,hA])
  all_goals simp[jj,hA]
 |true=>
  simp only[go_sem];refine ae.intro (FB xs) ?_;simp only[go_sem,lM,hA];refine b5.intro (fun i:Nat=>⟨(.d (.sl 2 (xs.map ab.enc))::.J::.d (.int .i64 0)::.d (.int .i64 (iO (xs.take i)))::jn 5 (.d (.sl 2 (xs.map ab.enc))::.d (.int .i64 xs.length)::.d (.int .i64 i)::jn 12 [])),[]⟩)
   (fun i=>xs.length-i) (fun i=>i≤xs.length) 0 [] (by omega) ?_ ?_
  ·simp only[go_sem];simp[iO]
  ·intro i hi;by_cases h1:i<xs.length
   ·have ar:decide ((i:Int)<(xs.length:Int))=true:=bc (by omega);have av:=bZ ab.enc xs i h1;have hw:=dv h1 hm;have hb:=FM hA i h1;have aD:=(gM _).1 (((kJ xs).1 hA).1 _ (List.getElem_mem h1));have e:iO (xs.take (i+1))=iO (xs.take i)+(xs[i].high-xs[i].low):=xb _ _ _ _ _;have eI:IntKind.i64.wrap (xs[i].high-xs[i].low)=xs[i].high-xs[i].low:=by rw[bC]<;>omega
    have gj:IntKind.i64.wrap (iO (xs.take i)+(xs[i].high-xs[i].low))=iO (xs.take (i+1)):=by rw[bC]<;>omega
    try simp only[go_sem,lM,aF,av,ab.enc,ar,eI,gj]
    repeat'(first|(with_reducible refine al ?_)|fail)
    all_goals(refine bm.intro (i+1) [] (by omega) (by omega) ?_;simp only[go_sem,hw];try simp)
   ·have ar:decide ((i:Int)<(xs.length:Int))=false:=a_ (by omega);obtain rfl:i=xs.length:=by omega
    simp only[go_sem,ar,dB];simp[jj,hA]
def kr(f:Int)(r:ab):Int:=if r.low≤f∧f<r.high then r.high else f
def yj(xs:List ab)(f:Int):Bool:=cy xs&&decide (0≤f)
def uA(xs:List ab)(f:Int):Int:=if yj xs f then xs.foldl kr f else -1
theorem yk(xs:List ab)(f:Int):PureCall Tryz.prog 178 [.one (.sl 2 (xs.map ab.enc)),.one (.int .i64 f)] [.one (.int .i64 (uA xs f))]:=by
 refine aL 41 Tryz.func178 Tryz.call178 [.tmp 4] ?_;intro ok;have hm:=fj ok
 try simp only[go_sem]
 repeat'((first|refine ae.intro (by apply vC) ?_|refine bb ?_)<;>simp only[go_sem])
 refine bp (fun h0=>?_) (fun h0=>?_)
 ·simp only[go_sem];have:yj xs f=false:=by revert h0;simp only[yj];cases cy xs<;>simp
  simp[uA,this]
 ·have hg:yj xs f=true:=by revert h0;simp only[yj];cases cy xs<;>simp
  simp only[go_sem];refine b5.intro (fun i:Nat=>⟨(.d (.sl 2 (xs.map ab.enc))::.d (.int .i64 ((xs.take i).foldl kr f))::jn 3 (.d (.int .i64 i)::jn 35 [])),[]⟩)
   (fun i=>xs.length-i) (fun i=>i≤xs.length) 0 [] (by omega) ?_ ?_
  ·simp only[go_sem];simp
  ·intro i hi;by_cases h1:i<xs.length
   ·have ar:decide ((i:Int)<(xs.length:Int))=true:=bc (by omega);have av:=bZ ab.enc xs i h1;have hw:=dv h1 hm;have e:=xb kr f xs i h1;by_cases c1:xs[i].low≤(xs.take i).foldl kr f
    ·have og:decide (xs[i].low≤(xs.take i).foldl kr f)=true:=bc c1;by_cases c2:(xs.take i).foldl kr f<xs[i].high
     ·have vE:decide ((xs.take i).foldl kr f<xs[i].high)=true:=bc c2;rw[kr,if_pos ⟨c1,c2⟩]at e
      try simp only[go_sem,lM,aF,av,ab.enc,ar,og]
      repeat'(first|(with_reducible refine b9 ?_<;>simp only[go_sem,lM,aF,av,ab.enc,vE])|(with_reducible refine al ?_)|fail)
      all_goals(refine bm.intro (i+1) [] (by omega) (by omega) ?_;simp only[go_sem,hw,e])
     ·have vE:decide ((xs.take i).foldl kr f<xs[i].high)=false:=a_ c2;rw[kr,if_neg (fun g=>c2 g.2)]at e
      try simp only[go_sem,lM,aF,av,ab.enc,ar,og]
      repeat'(first|(with_reducible refine b9 ?_<;>simp only[go_sem,lM,aF,av,ab.enc,vE])|(with_reducible refine al ?_)|fail)
      all_goals(refine bm.intro (i+1) [] (by omega) (by omega) ?_;simp only[go_sem,hw,e])
    ·have og:decide (xs[i].low≤(xs.take i).foldl kr f)=false:=a_ c1;rw[kr,if_neg (fun g=>c1 g.1)]at e
     try simp only[go_sem,lM,aF,av,ab.enc,ar,og]
     repeat'(first|(with_reducible refine de ?_<;>simp only[go_sem])|(with_reducible refine al ?_)|fail)
     all_goals(refine bm.intro (i+1) [] (by omega) (by omega) ?_;simp only[go_sem,hw,e])
   ·have ar:decide ((i:Int)<(xs.length:Int))=false:=a_ (by omega);obtain rfl:i=xs.length:=by omega
    simp only[go_sem,lM,ar,dB];simp[uA,hg]
theorem Wi(xs:List ab)(f:Int):PureCall Tryz.prog 218 [.one (.sl 2 (xs.map ab.enc)),.one (.int .i64 f)] [.one (.int .i64 (uA xs f))]:=by
 refine aL 34 Tryz.func218 Tryz.call218 [.tmp 4] ?_;intro ok;have hm:=fj ok
 try simp only[go_sem]
 repeat'((first|refine ae.intro (by apply FB) ?_|refine bb ?_)<;>simp only[go_sem])
 refine bp (fun h0=>?_) (fun h0=>?_)
 ·simp only[go_sem];have:yj xs f=false:=by revert h0;simp only[yj];cases cy xs<;>simp
  simp[uA,this]
 ·have hg:yj xs f=true:=by revert h0;simp only[yj];cases cy xs<;>simp
  simp only[go_sem,lM];refine b5.intro (fun i:Nat=>⟨(.d (.sl 2 (xs.map ab.enc))::.d (.int .i64 ((xs.take i).foldl kr f))::jn 12 (.d (.sl 2 (xs.map ab.enc))::.d (.int .i64 xs.length)::.d (.int .i64 i)::jn 17 [])),[]⟩)
   (fun i=>xs.length-i) (fun i=>i≤xs.length) 0 [] (by omega) ?_ ?_
  ·simp only[go_sem];simp
  ·intro i hi;by_cases h1:i<xs.length
   ·have ar:decide ((i:Int)<(xs.length:Int))=true:=bc (by omega);have av:=bZ ab.enc xs i h1;have hw:=dv h1 hm;have e:=xb kr f xs i h1;by_cases c1:xs[i].low≤(xs.take i).foldl kr f
    ·have og:decide (xs[i].low≤(xs.take i).foldl kr f)=true:=bc c1;by_cases c2:(xs.take i).foldl kr f<xs[i].high
     ·have vE:decide ((xs.take i).foldl kr f<xs[i].high)=true:=bc c2;rw[kr,if_pos ⟨c1,c2⟩]at e
      try simp only[go_sem,lM,aF,av,ab.enc,ar,og]
      repeat'(first|(with_reducible refine b9 ?_<;>simp only[go_sem,vE])|(with_reducible refine al ?_)|fail)
      all_goals(refine bm.intro (i+1) [] (by omega) (by omega) ?_;simp only[go_sem,hw,e])
     ·have vE:decide ((xs.take i).foldl kr f<xs[i].high)=false:=a_ c2;rw[kr,if_neg (fun g=>c2 g.2)]at e
      try simp only[go_sem,lM,aF,av,ab.enc,ar,og]
      repeat'(first|(with_reducible refine b9 ?_<;>simp only[go_sem,vE])|(with_reducible refine al ?_)|fail)
      all_goals(refine bm.intro (i+1) [] (by omega) (by omega) ?_;simp only[go_sem,hw,e])
    ·have og:decide (xs[i].low≤(xs.take i).foldl kr f)=false:=a_ c1;rw[kr,if_neg (fun g=>c1 g.1)]at e
     try simp only[go_sem,lM,aF,av,ab.enc,ar,og]
     repeat'(first|(with_reducible refine de ?_<;>simp only[go_sem])|(with_reducible refine al ?_)|fail)
     all_goals(refine bm.intro (i+1) [] (by omega) (by omega) ?_;simp only[go_sem,hw,e])
   ·have ar:decide ((i:Int)<(xs.length:Int))=false:=a_ (by omega);obtain rfl:i=xs.length:=by omega
    simp only[go_sem,ar,dB];simp[uA,hg]
def kL(r x:ab):List ab:=
 (if x.low<cG x.high r.low then [⟨x.low,cG x.high r.low⟩]else [])++(if dL x.low r.high<x.high then [⟨dL x.low r.high,x.high⟩]else [])
def nY(xs:List ab)(r:ab):List ab:=if cy xs&&cT r then xs.flatMap (kL r)else xs
theorem Wj(r x:ab):(kL r x).length≤2:=by unfold kL;split<;>split<;>simp
theorem C_{α β:Type}(f:α→List β)(k:Nat)(h:∀x,(f x).length≤k):∀xs:List α,(xs.flatMap f).length≤k * xs.length
 |[]=>by simp
 |x::xs=>by
  have:=C_ f k h xs;have:=h x;simp only[List.flatMap_cons,List.length_append,oW,Nat.mul_add];omega
set_option maxHeartbeats 1000000 in
theorem OH(xs:List ab)(l h:Int)(hx:xs.length≤1048576):PureCall Tryz.prog 331 [.one (.sl 2 (xs.map ab.enc)),.agg [.int .i64 l,.int .i64 h]] [.one (.sl 2 ((nY xs ⟨l,h⟩).map ab.enc))]:=by
 refine aL 87 Tryz.func331 Tryz.call331 [.tmp 4] ?_;intro ok;have hm:=fj ok
 try simp only[go_sem]
 repeat'((first|refine ae.intro (by apply vC) ?_|refine ao.intro (by apply FC) ?_|refine bb ?_)<;>simp only[go_sem])
 refine bp (fun h0=>?_) (fun h0=>?_)
 ·have hg:(cy xs&&cT ⟨l,h⟩)=false:=by revert h0;cases cy xs<;>cases cT ⟨l,h⟩<;>simp
  try simp only[go_sem]
  repeat'(first|(refine ae.intro (by(apply K5<;>first|assumption|omega)) ?_<;>simp only[go_sem,lM])|(with_reducible refine al ?_)|fail)
  all_goals simp[nY,hg]
 ·have hg:(cy xs&&cT ⟨l,h⟩)=true:=by revert h0;cases cy xs<;>cases cT ⟨l,h⟩<;>simp
  simp only[go_sem];refine b5.intro (fun i:Nat=>⟨(.d (.sl 2 (xs.map ab.enc))::.J::.J::.ptr 0 0 0::.J::.sl 1 0 ((xs.take i).flatMap (kL ⟨l,h⟩)).length::.d (.int .i64 i)::jn 80 []),[.box [.d (.int .i64 l),.d (.int .i64 h)],.ai 2 (((xs.take i).flatMap (kL ⟨l,h⟩)).map ab.enc) true]⟩)
   (fun i=>xs.length-i) (fun i=>i≤xs.length) 0 [0,1] (by omega) ?_ ?_
  ·simp only[go_sem];simp
  ·intro i hi;by_cases h1:i<xs.length
   ·have ar:decide ((i:Int)<(xs.length:Int))=true:=bc (by omega);have av:=bZ ab.enc xs i h1;have hw:=dv h1 hm;have e:=OF (kL ⟨l,h⟩) xs i h1;have hL:=C_ (kL ⟨l,h⟩) 2 (Wj _) (xs.take i);have cn:(xs.take i).length=i:=by simp;omega
    generalize hq:(xs.take i).flatMap (kL ⟨l,h⟩)=jF at e hL
    try simp only[go_sem,lM,ar]
    repeat'(first|((first|refine ba Wd (by decide) (by rfl) ?_|refine ba We (by decide) (by rfl) ?_|refine ba Wf (by decide) (by rfl) ?_|refine ba Wg (by decide) (by rfl) ?_|refine bp (fun h=>?_) (fun h=>?_))<;>simp only[go_sem,lM,aF,av,ab.enc])|(with_reducible refine al ?_)|fail)
    all_goals(simp only[il,kk]at *)
    all_goals rename_i h2
    all_goals first
     |(refine bm.intro (i+1) [0,5] (by omega) (by omega) ?_;simp only[go_sem,hw,e,kL,cG,dL];rw[if_pos h2,if_pos h];simp[ab.enc];done)
     |(refine bm.intro (i+1) [0,3] (by omega) (by omega) ?_;simp only[go_sem,hw,e,kL,cG,dL];rw[if_pos h2,if_neg h];simp[ab.enc];done)
     |(refine bm.intro (i+1) [0,3] (by omega) (by omega) ?_;simp only[go_sem,hw,e,kL,cG,dL];rw[if_neg h2,if_pos h];simp[ab.enc];done)
     |(refine bm.intro (i+1) [0,1] (by omega) (by omega) ?_;simp only[go_sem,hw,e,kL,cG,dL];rw[if_neg h2,if_neg h];simp;done)
   ·have ar:decide ((i:Int)<(xs.length:Int))=false:=a_ (by omega);obtain rfl:i=xs.length:=by omega
    simp only[go_sem,lM,ar,dB];simp[nY,hg]
def iP(x y:ab):List ab:=if dL x.low y.low<cG x.high y.high then [⟨dL x.low y.low,cG x.high y.high⟩]else []
def kf(xs ys:List ab):List ab:=if cy xs&&cy ys then xs.flatMap fun x=>ys.flatMap (iP x)else []
theorem OI(x y:ab):(iP x y).length≤1:=by unfold iP;split<;>simp
set_option maxHeartbeats 1000000 in
theorem OJ(xs ys:List ab)(hx:xs.length≤1048576)(hy:ys.length≤8):PureCall Tryz.prog 329 [.one (.sl 2 (xs.map ab.enc)),.one (.sl 2 (ys.map ab.enc))] [.one (.sl 2 ((kf xs ys).map ab.enc))]:=by
 refine aL 63 Tryz.func329 Tryz.call329 [.tmp 4] ?_;intro ok;have hm:=fj ok;have dw:=vC xs;have fs:=vC ys;simp only[go_sem];refine b5.intro (fun i:Nat=>⟨(.d (.sl 2 (xs.map ab.enc))::.d (.sl 2 (ys.map ab.enc))::jn 3 (.sl 0 0 ((xs.take i).flatMap fun x=>ys.flatMap (iP x)).length::.d (.int .i64 i)::jn 56 [])),[.ai 2 (((xs.take i).flatMap fun x=>ys.flatMap (iP x)).map ab.enc) true]⟩)
   (fun i=>xs.length-i) (fun i=>i≤xs.length∧((cy xs&&cy ys)=false→i=0)) 0 [0] ⟨by omega,fun _=>rfl⟩ ?_ ?_
 ·simp only[go_sem];simp
 ·rintro i ⟨hi,hz⟩;by_cases h1:i<xs.length
  ·have ar:decide ((i:Int)<(xs.length:Int))=true:=bc (by omega);have av:=bZ ab.enc xs i h1;have hw:=dv h1 hm;have e:=OF (fun x=>ys.flatMap (iP x)) xs i h1;have hL:=C_ (fun x=>ys.flatMap (iP x)) ys.length (fun x=>by have:=C_ (iP x) 1 (OI x) ys;omega) (xs.take i);have cn:(xs.take i).length=i:=by simp;omega
   have age:((xs.take i).flatMap fun x=>ys.flatMap (iP x)).length≤8388608:=by
    have:ys.length * (xs.take i).length≤8 * 1048576:=Nat.mul_le_mul hy (by omega);omega
   cases hg:(cy xs&&cy ys)with
   |false=>
    obtain rfl:=hz hg
    cases lr:cy xs with
    |false=>
     try simp only[go_sem,lM,ar]
     repeat'(first|((first|refine ae.intro (by assumption) ?_|refine ao.intro (by assumption) ?_|with_reducible refine b9 ?_|with_reducible refine de ?_)<;>simp only[go_sem,lM,lr])|(with_reducible refine al ?_)|fail)
     all_goals simp[kf,hg]
    |true=>
     have lj:cy ys=false:=by revert hg;rw[lr];simp
     try simp only[go_sem,lM,ar]
     repeat'(first|((first|refine ae.intro (by assumption) ?_|refine ao.intro (by assumption) ?_|with_reducible refine b9 ?_)<;>simp only[go_sem,lM,lr,lj])|(with_reducible refine al ?_)|fail)
     all_goals simp[kf,hg]
   |true=>
    have lr:cy xs=true:=by revert hg;cases cy xs<;>simp
    have lj:cy ys=true:=by revert hg;rw[lr];simp
    generalize hq:((xs.take i).flatMap fun x=>ys.flatMap (iP x))=jF at e hL age
    try simp only[go_sem,lM,ar]
    repeat'((first|refine ae.intro (by assumption) ?_|refine ao.intro (by assumption) ?_|with_reducible refine b9 ?_)<;>simp only[go_sem,lr,lj])
    refine b5.intro (fun k:Nat=>⟨(.d (.sl 2 (xs.map ab.enc))::.d (.sl 2 (ys.map ab.enc))::jn 3 (.sl 0 0 (jF++(ys.take k).flatMap (iP xs[i])).length::.d (.int .i64 i)::.d (.int .i64 k)::jn 55 [])),[.ai 2 ((jF++(ys.take k).flatMap (iP xs[i])).map ab.enc) true]⟩)
     (fun k=>ys.length-k) (fun k=>k≤ys.length) 0 [0] (by omega) ?_ ?_
    ·simp only[go_sem];simp
    ·intro k hk;by_cases h2:k<ys.length
     ·have gW:decide ((k:Int)<(ys.length:Int))=true:=bc (by omega);have vM:=bZ ab.enc ys k h2;have ml:=dv (m:=8) (i:=k) (by omega) (by simp[maxLen]);have e2:=OF (iP xs[i]) ys k h2;have aov:=C_ (iP xs[i]) 1 (OI _) (ys.take k);have Wk:(ys.take k).length=k:=by simp;omega
      generalize Dm:jF++(ys.take k).flatMap (iP xs[i])=Wl;have OK:Wl.length≤8388616:=by rw[←Dm,List.length_append];omega
      have aY:jF++(ys.take (k+1)).flatMap (iP xs[i])=Wl++iP xs[i] ys[k]:=by rw[e2,←List.append_assoc,Dm]
      try simp only[go_sem,lM,gW]
      repeat'(first|((first|refine ae.intro (by assumption) ?_|refine ao.intro (by assumption) ?_|refine ba Wh (by kernel_rfl) (by rfl) ?_|refine bp (fun h=>?_) (fun h=>?_))<;>simp only[go_sem,lM,aF,av,vM,ab.enc])|(with_reducible refine al ?_)|fail)
      ·have hc:iP xs[i] ys[k]=[⟨dL xs[i].low ys[k].low,cG xs[i].high ys[k].high⟩]:=by unfold iP;exact if_pos (ch h)
       rw[hc]at aY;have bk:=congrArg List.length aY;simp only[List.length_append,List.length_singleton]at bk;refine bm.intro (k+1) [3] (by omega) (by omega) ?_;simp only[go_sem,ml,aY,bk];simp[ab.enc,cG,dL]
      ·have hc:iP xs[i] ys[k]=[]:=by unfold iP;exact if_neg (cD h)
       rw[hc,List.append_nil]at aY;have bk:=congrArg List.length aY;simp only[List.length_append]at bk;refine bm.intro (k+1) [0] (by omega) (by omega) ?_;simp only[go_sem,ml,aY,bk];simp
     ·have gW:decide ((k:Int)<(ys.length:Int))=false:=a_ (by omega);obtain rfl:k=ys.length:=by omega
      simp only[go_sem,lM,gW,dB];refine bm.intro (i+1) [0] (by omega) (by omega) ?_;simp only[go_sem,hw,e];simp
  ·have ar:decide ((i:Int)<(xs.length:Int))=false:=a_ (by omega);obtain rfl:i=xs.length:=by omega
   have hr:(xs.flatMap fun x=>ys.flatMap (iP x))=kf xs ys:=by
    unfold kf;split
    ·rfl
    ·rename_i hg;have:=hz (by simpa using hg);rw[List.length_eq_zero_iff.1 this];rfl
   try simp only[go_sem,lM,ar,dB,hr]
   repeat'((first|refine ae.intro (by assumption) ?_|refine ao.intro (by assumption) ?_|with_reducible refine de ?_)<;>simp only[go_sem,lM])
   all_goals simp
end Gv

namespace Gv
open Go Go.Proofs
set_option maxRecDepth 100000
def ux(n:Int):UInt8:=UInt8.ofNat n.toNat
def FG(n:Int):Nat→St
 |0=>⟨(.d (.int .i64 n)::.d (.int .i64 1)::.J::.J::.d (.str [])::.d (.str [])::.d (.int .i64 0)::jn 24 []),[]⟩
 |i+1=>⟨(.d (.int .i64 0)::.d (.int .i64 1)::.J::.J::.d (.str [])::.d (.str [ux n])::.d (.int .i64 ((i+1:Nat):Int))::jn 24 []),[]⟩
theorem VO(n:Int)(h:0≤n∧n≤255):PureCall Tryz.prog 342 [.one (.int .i64 n),.one (.int .i64 1)] [.one (.str [ux n])]:=by
 refine aL 31 Tryz.func342 Tryz.call342 [.tmp 4] ?_;intro _;have h1:¬n<0:=by omega
 have h2:n.tmod 256=n:=by rw[Int.tmod_eq_emod_of_nonneg (by omega)];omega
 have aj:n.tdiv 256=0:=by rw[Int.tdiv_eq_ediv_of_nonneg (by omega)];omega
 have aD:IntKind.u8.wrap n=n:=EB h.1 h.2;have bX:IntKind.i64.wrap 0=0:=by decide
 simp only[go_sem];refine ae.intro (iE 1 1 7) ?_;simp only[go_sem]
 repeat(refine bb ?_;simp only[go_sem])
 have hz:(bif !bN 1 1 7 then true else decide (n<0))=false:=by simp[bN,h1]
 rw[hz];simp only[go_sem];refine b5.intro (FG n) (fun i=>1-i) (fun i=>i≤1) 0 [] (by omega) ?_ ?_
 ·simp only[FG,go_sem]
 ·intro i hi
  cases i with
  |zero=>
   simp only[FG,go_sem,h2,aj,aD,bX];refine bm.intro 1 [] (by omega) (by omega) ?_;simp only[FG,go_sem];simp[ux,bC]
  |succ i=>
   have ke:i=0:=by omega
   subst ke;simp only[FG,go_sem];refine bp (fun eR=>absurd (ch eR) (by omega)) (fun _=>?_);simp only[go_sem]
theorem af3{n:Int}(h:0≤n∧n≤255):bitI .and .i64 n 255=n:=by
 have key:∀m:Fin 256,bitI .and .i64 (m.val:Int) 255=(m.val:Int):=by decide +kernel
 have:=key ⟨n.toNat,by omega⟩;simpa [show(n.toNat:Int)=n from by omega]using this
theorem Fe(n:Int)(h:0≤n∧n≤255):PureCall Tryz.prog 341 [.one (.int .i64 n)] [.one (.str [ux n])]:=by
 refine aL 6 Tryz.func341 Tryz.call341 [.tmp 2] ?_;intro _;simp only[go_sem,af3 h];refine ae.intro (VO n h) ?_;simp only[go_sem]
set_option maxRecDepth 100000
def Qq:List (List bt):=ct 12 [501920,501918,501952,501934,502240,502078,522328,530347,525973,512122,472392,354294]
def K3:List (List bt):=ct 8 [6200,6198,6448,6547,6493,6322,5832,4374]
def Qr:List (List bt):=ct 13 [1505753,1505751,1505866,1505848,1505794,1506721,1506235,1514497,1510123,1584481,1545115,1417176,1062882]
def Qs:List (List bt):=ct 15 [14345882,14345880,14345874,14345977,14345923,14326065,14348542,14347084,14322663,14336028,14289858,14171760,13817466,12754584,9565938]
def Qt:List (List bt):=ct 24 [266739006680,266739006678,266740662352,266740662334,266740662280,266740663207,266740662721,266740661146,266740686292,266740673170,266740630528,266741309587,266740955293,266739803842,266758138552,266748572614,266911193560,266825100118,268288688632,267513847654,280686144280,273712575478,251048476872,188286357654]
def Qu:List (List bt):=ct 10 [58940,58938,58932,59035,58981,58077,58563,56862,52488,39366]
def Qv:List (List bt):=ct 11 [167306,176065,176059,176809,177106,176944,176431,174961,170587,157464,118098]
def Qw:List (List bt):=ct 17 [121965710,128343355,128343361,128343340,128343286,128343124,128875171,129132508,129136882,129121573,129082207,128964109,128609086,127545841,124357195,114791256,86093442]
attribute [go_sem] Qq K3 Qr Qs Qt Qu Qv Qw
theorem fa{α:Type}(e:α→List D)(l:List α):(l.map e).take l.length=l.map e:=List.take_of_length_le (by simp)
theorem Gq{α:Type}(e:α→List D)(xs:List α)(i:Nat)(h:i<xs.length):(xs.take (i+1)).map e=(xs.take i).map e++[e xs[i]]:=by
 rw[List.take_add_one,dg h,Option.toList_some,List.map_append];rfl
theorem Qx(bS bQ bL:Int)(bB:List Int)(hx:bB.length≤8388608):PureCall Tryz.prog 167 [.agg [.int .i64 bS,.int .i64 bQ,.int .i64 bL,.sl 1 (bB.map aW)]] [.agg [.int .i64 ((⟨bS,bQ,bL,bB⟩:cl)).size,.int .i64 ((⟨bS,bQ,bL,bB⟩:cl)).base,.int .i64 ((⟨bS,bQ,bL,bB⟩:cl)).b',.sl 1 (((⟨bS,bQ,bL,bB⟩:cl)).cells.map aW)]]:=by
 refine aL 9 Tryz.func167 Tryz.call167 [.cell 2 55] ?_;intro _
 try simp only[go_sem,lM]
 repeat'(first|(with_reducible refine al ?_)|fail)
 all_goals simp
theorem GO(bS bQ bL:Int)(bB:List Int)(hx:bB.length≤8388608):PureCall Tryz.prog 173 [.agg [.int .i64 bS,.int .i64 bQ,.int .i64 bL,.sl 1 (bB.map aW)]] [.agg [.int .i64 ((⟨bS,bQ,bL,bB⟩:cl)).size,.int .i64 ((⟨bS,bQ,bL,bB⟩:cl)).base,.int .i64 ((⟨bS,bQ,bL,bB⟩:cl)).b',.sl 1 (((⟨bS,bQ,bL,bB⟩:cl)).cells.map aW)]]:=by
 refine aL 14 Tryz.func173 Tryz.call173 [.cell 2 55] ?_;intro _
 try simp only[go_sem]
 repeat'(first|(refine ba Qq (by kernel_rfl) (by rfl) ?_<;>simp only[go_sem,lM])|(with_reducible refine al ?_)|fail)
 all_goals simp
theorem Yy(FW:Int)(FV:List aB)(hx:FV.length≤8388608):PureCall Tryz.prog 182 [.agg [.int .i64 FW,.sl 2 (FV.map aB.enc)]] [.agg [.int .i64 ((⟨FW,FV⟩:k3)).next,.sl 2 (((⟨FW,FV⟩:k3)).bu.map aB.enc)]]:=by
 refine aL 10 Tryz.func182 Tryz.call182 [.cell 2 61] ?_;intro _
 try simp only[go_sem]
 repeat'(first|(refine ba K3 (by kernel_rfl) (by rfl) ?_<;>simp only[go_sem,lM])|(with_reducible refine al ?_)|fail)
 all_goals simp
theorem yy(FW:Int)(FV:List aB)(hx:FV.length≤8388608):PureCall Tryz.prog 213 [.agg [.int .i64 FW,.sl 2 (FV.map aB.enc)]] [.agg [.int .i64 ((⟨FW,FV⟩:k3)).next,.sl 2 (((⟨FW,FV⟩:k3)).bu.map aB.enc)]]:=by
 refine aL 10 Tryz.func213 Tryz.call213 [.cell 2 61] ?_;intro _
 try simp only[go_sem]
 repeat'(first|(refine ba K3 (by kernel_rfl) (by rfl) ?_<;>simp only[go_sem,lM])|(with_reducible refine al ?_)|fail)
 all_goals simp
theorem Yz(cC cm:Int)(b3:List aB)(cQ cI cM:Int)(hx:b3.length≤8388608):PureCall Tryz.prog 124 [.agg [.int .i64 cC,.int .i64 cm,.sl 2 (b3.map aB.enc),.int .i64 cQ,.int .i64 cI,.int .i64 cM]] [.agg (bA.enc ((⟨cC,⟨cm,b3⟩,cQ,cI,cM⟩:bA)))]:=by
 refine aL 8 Tryz.func124 Tryz.call124 [.cell 2 63] ?_;intro _
 try simp only[go_sem]
 repeat'(refine ae.intro (by(apply Yy<;>first|assumption|omega)) ?_<;>simp only[go_sem,lM])
 all_goals simp
theorem yK(cC cm:Int)(b3:List aB)(cQ cI cM:Int)(hx:b3.length≤8388608):PureCall Tryz.prog 157 [.agg [.int .i64 cC,.int .i64 cm,.sl 2 (b3.map aB.enc),.int .i64 cQ,.int .i64 cI,.int .i64 cM]] [.agg (bA.enc ((⟨cC,⟨cm,b3⟩,cQ,cI,cM⟩:bA)))]:=by
 refine aL 15 Tryz.func157 Tryz.call157 [.cell 2 63] ?_;intro _
 try simp only[go_sem]
 repeat'((first|refine ao.intro (by(apply yy<;>first|assumption|omega)) ?_|refine ba Qr (by kernel_rfl) (by rfl) ?_)<;>simp only[go_sem,lM])
 all_goals simp
theorem BL(aO aS aT aP:Int)(aM:List Int)(aw au ay:List ab)(aR aQ aN aU:Int)(h1:aM.length≤8388608)(h2:aw.length≤8388608)(aj:au.length≤8388608)(aD:ay.length≤8388608):PureCall Tryz.prog 116 [.agg [.int .i64 aO,.int .i64 aS,.int .i64 aT,.int .i64 aP,.sl 1 (aM.map aW),.sl 2 (aw.map ab.enc),.sl 2 (au.map ab.enc),.sl 2 (ay.map ab.enc),.int .i64 aR,.int .i64 aQ,.int .i64 aN,.int .i64 aU]] [.agg (az.enc ((⟨aO,⟨aS,aT,aP,aM⟩,aw,au,ay,aR,aQ,aN,aU⟩:az)))]:=by
 refine aL 20 Tryz.func116 Tryz.call116 [.cell 2 58] ?_;intro _
 try simp only[go_sem]
 repeat'((first|refine ae.intro (by(apply Qx<;>first|assumption|omega)) ?_|refine ao.intro (by(apply K4<;>first|assumption|omega)) ?_|refine ba Qs (by kernel_rfl) (by rfl) ?_)<;>simp only[go_sem,lM])
 all_goals simp
theorem pf(aO aS aT aP:Int)(aM:List Int)(aw au ay:List ab)(aR aQ aN aU:Int)(h1:aM.length≤8388608)(h2:aw.length≤8388608)(aj:au.length≤8388608)(aD:ay.length≤8388608):PureCall Tryz.prog 120 [.agg [.int .i64 aO,.int .i64 aS,.int .i64 aT,.int .i64 aP,.sl 1 (aM.map aW),.sl 2 (aw.map ab.enc),.sl 2 (au.map ab.enc),.sl 2 (ay.map ab.enc),.int .i64 aR,.int .i64 aQ,.int .i64 aN,.int .i64 aU]] [.agg (az.enc ((⟨aO,⟨aS,aT,aP,aM⟩,aw,au,ay,aR,aQ,aN,aU⟩:az)))]:=by
 refine aL 26 Tryz.func120 Tryz.call120 [.cell 2 58] ?_;intro _
 try simp only[go_sem]
 repeat'((first|refine ao.intro (by first|(apply GO<;>first|assumption|omega)|(apply K5<;>first|assumption|omega)) ?_|refine ba Qt (by kernel_rfl) (by rfl) ?_)<;>simp only[go_sem,lM])
 all_goals simp
theorem DJ(hM hN hO hP hQ:Int)(hK:List Int)(fY fZ gU:List ab)(hR hS hT hU hX hY h3 h4 h5 h6:Int)(e4:List aB)(h7 h8 h9 h_ ia ib ic ie ig ih:Int)(ij ik im iq jD jE ki:Bool)(kj:Int)(kl:Bool)(h1:hK.length≤8388608)(h2:fY.length≤8388608)(aj:fZ.length≤8388608)(aD:gU.length≤8388608)(bX:e4.length≤8388608):PureCall Tryz.prog 63 [.agg [.int .i64 hM,.int .i64 hN,.int .i64 hO,.int .i64 hP,.int .i64 hQ,.sl 1 (hK.map aW),.sl 2 (fY.map ab.enc),.sl 2 (fZ.map ab.enc),.sl 2 (gU.map ab.enc),.int .i64 hR,.int .i64 hS,.int .i64 hT,.int .i64 hU,.int .i64 hX,.int .i64 hY,.int .i64 h3,.int .i64 h4,.int .i64 h5,.int .i64 h6,.sl 2 (e4.map aB.enc),.int .i64 h7,.int .i64 h8,.int .i64 h9,.int .i64 h_,.int .i64 ia,.int .i64 ib,.int .i64 ic,.int .i64 ie,.int .i64 ig,.int .i64 ih,.bool ij,.bool ik,.bool im,.bool iq,.bool jD,.bool jE,.bool ki,.int .i64 kj,.bool kl]] [.agg (aa.enc ((⟨hM,⟨hN,⟨hO,hP,hQ,hK⟩,fY,fZ,gU,hR,hS,hT,hU⟩,⟨hX,hY,h3,h4⟩,⟨h5,⟨h6,e4⟩,h7,h8,h9⟩,⟨h_,ia,ib,ic,ie,ig⟩,⟨ih,ij⟩,ik,im,iq,jD,jE,ki,kj,kl⟩:aa)))]:=by
 refine aL 12 Tryz.func63 Tryz.call63 [.cell 2 67] ?_;intro _
 try simp only[go_sem]
 repeat'((first|refine ao.intro (by first|(apply BL<;>first|assumption|omega)|(apply Yz<;>first|assumption|omega)) ?_|refine ba Qu (by kernel_rfl) (by rfl) ?_)<;>simp only[go_sem,lM])
 all_goals simp
theorem yz(hM hN hO hP hQ:Int)(hK:List Int)(fY fZ gU:List ab)(hR hS hT hU hX hY h3 h4 h5 h6:Int)(e4:List aB)(h7 h8 h9 h_ ia ib ic ie ig ih:Int)(ij ik im iq jD jE ki:Bool)(kj:Int)(kl:Bool)(h1:hK.length≤8388608)(h2:fY.length≤8388608)(aj:fZ.length≤8388608)(aD:gU.length≤8388608)(bX:e4.length≤8388608):PureCall Tryz.prog 100 [.agg [.int .i64 hM,.int .i64 hN,.int .i64 hO,.int .i64 hP,.int .i64 hQ,.sl 1 (hK.map aW),.sl 2 (fY.map ab.enc),.sl 2 (fZ.map ab.enc),.sl 2 (gU.map ab.enc),.int .i64 hR,.int .i64 hS,.int .i64 hT,.int .i64 hU,.int .i64 hX,.int .i64 hY,.int .i64 h3,.int .i64 h4,.int .i64 h5,.int .i64 h6,.sl 2 (e4.map aB.enc),.int .i64 h7,.int .i64 h8,.int .i64 h9,.int .i64 h_,.int .i64 ia,.int .i64 ib,.int .i64 ic,.int .i64 ie,.int .i64 ig,.int .i64 ih,.bool ij,.bool ik,.bool im,.bool iq,.bool jD,.bool jE,.bool ki,.int .i64 kj,.bool kl]] [.agg (aa.enc ((⟨hM,⟨hN,⟨hO,hP,hQ,hK⟩,fY,fZ,gU,hR,hS,hT,hU⟩,⟨hX,hY,h3,h4⟩,⟨h5,⟨h6,e4⟩,h7,h8,h9⟩,⟨h_,ia,ib,ic,ie,ig⟩,⟨ih,ij⟩,ik,im,iq,jD,jE,ki,kj,kl⟩:aa)))]:=by
 refine aL 14 Tryz.func100 Tryz.call100 [.cell 2 67] ?_;intro _
 try simp only[go_sem]
 repeat'(refine ae.intro (by first|(apply pf<;>first|assumption|omega)|(apply yK<;>first|assumption|omega)) ?_<;>simp only[go_sem,lM])
 all_goals simp
theorem XE(xs:List aC)(hx:(xs.length+k_ aC.dO xs)≤4194304):PureCall Tryz.prog 84 [.one (.sl 2 (xs.map aC.enc))] [.one (.sl 2 (xs.map aC.enc))]:=by
 refine aL 25 Tryz.func84 Tryz.call84 [.tmp 2] ?_;intro ok;have hm:=fj ok;clear ok;simp only[go_sem,lM];refine b5.intro (fun i:Nat=>⟨(.J::.J::.c7 2::.sl 0 0 i::jn 3 (.d (.sl 2 (xs.map aC.enc))::.d (.int .i64 xs.length)::.d (.int .i64 i)::jn 15 [])),[.ai 2 ((xs.take i).map aC.enc) true]⟩)
   (fun i=>xs.length-i) (fun i=>i≤xs.length) 0 [0] (by omega) ?_ ?_
 ·simp only[go_sem];simp
 ·intro i hi;have hl:(xs.take i).length=i:=by simp;omega
  simp only[go_sem];refine bp (fun h1=>?_) (fun h1=>?_)
  ·simp only[il]at h1;have hlt:i<xs.length:=by omega
   have av:=bZ aC.enc xs i hlt;have hw:=dv hlt hm;have hb:=Gp aC.dO xs i hlt;simp only[aC.dO]at hb;simp only[aC.enc]at av;have kO:((xs.take i).map aC.enc).take i=(xs.take i).map aC.enc:=List.take_of_length_le (by rw[lM,hl];exact Nat.le_refl _);have cw:=Gq aC.enc xs i hlt;simp only[aC.enc]at cw
   try simp only[go_sem,lM,aF,av]
   repeat'(first|(refine ba Qv (by kernel_rfl) (by rfl) ?_<;>simp only[go_sem,lM,hl,kO])|(with_reducible refine al ?_)|fail)
   all_goals(refine bm.intro (i+1) [5] (by omega) (by omega) ?_;simp only[go_sem,hw];simp[cw])
  ·simp only[kk]at h1;have gD:i=xs.length:=by omega
   subst gD;simp only[go_sem,dB];simp[outOA]
theorem XF(xs:List aC)(hx:(xs.length+k_ aC.dO xs)≤4194304):PureCall Tryz.prog 101 [.one (.sl 2 (xs.map aC.enc))] [.one (.sl 2 (xs.map aC.enc))]:=by
 refine aL 29 Tryz.func101 Tryz.call101 [.tmp 2] ?_;intro ok;have hm:=fj ok;clear ok;simp only[go_sem];refine b5.intro (fun i:Nat=>⟨(.d (.sl 2 (xs.map aC.enc))::.J::.c7 2::.sl 0 0 i::.d (.int .i64 i)::jn 24 []),[.ai 2 ((xs.take i).map aC.enc) true]⟩)
   (fun i=>xs.length-i) (fun i=>i≤xs.length) 0 [0] (by omega) ?_ ?_
 ·simp only[go_sem];simp
 ·intro i hi;have hl:(xs.take i).length=i:=by simp;omega
  simp only[go_sem,lM];refine bp (fun h1=>?_) (fun h1=>?_)
  ·simp only[il]at h1;have hlt:i<xs.length:=by omega
   have av:=bZ aC.enc xs i hlt;have hw:=dv hlt hm;have hb:=Gp aC.dO xs i hlt;simp only[aC.dO]at hb;simp only[aC.enc]at av;have kO:((xs.take i).map aC.enc).take i=(xs.take i).map aC.enc:=List.take_of_length_le (by rw[lM,hl];exact Nat.le_refl _);have cw:=Gq aC.enc xs i hlt;simp only[aC.enc]at cw
   try simp only[go_sem]
   repeat'(first|(refine ba Qw (by kernel_rfl) (by rfl) ?_<;>simp only[go_sem,lM,aF,av,hl,kO])|(with_reducible refine al ?_)|fail)
   all_goals(refine bm.intro (i+1) [4] (by omega) (by omega) ?_;simp only[go_sem,hw];simp[cw])
  ·simp only[kk]at h1;have gD:i=xs.length:=by omega
   subst gD;simp only[go_sem,dB];simp[outOA]
set_option maxHeartbeats 1000000 in
theorem PQ(xs:List aa)(hx:(xs.length+k_ aa.dO xs)≤4194304):PureCall Tryz.prog 83 [.one (.sl 39 (xs.map aa.enc))] [.one (.sl 39 (xs.map aa.enc))]:=by
 refine aL 20 Tryz.func83 Tryz.call83 [.tmp 2] ?_;intro ok;have hm:=fj ok;clear ok;simp only[go_sem,lM];refine b5.intro (fun i:Nat=>⟨(.J::.J::.c7 39::.sl 0 0 i::jn 3 (.d (.sl 39 (xs.map aa.enc))::.d (.int .i64 xs.length)::.d (.int .i64 i)::jn 10 [])),[.ai 39 ((xs.take i).map aa.enc) true]⟩)
   (fun i=>xs.length-i) (fun i=>i≤xs.length) 0 [0] (by omega) ?_ ?_
 ·simp only[go_sem];simp
 ·intro i hi;have hl:(xs.take i).length=i:=by simp;omega
  simp only[go_sem];refine bp (fun h1=>?_) (fun h1=>?_)
  ·simp only[il]at h1;have hlt:i<xs.length:=by omega
   have av:=bZ aa.enc xs i hlt;have hw:=dv hlt hm;have hb:=Gp aa.dO xs i hlt;simp only[aa.dO,az.dO,cl.dO,bA.dO,k3.dO]at hb;simp only[aa.enc]at av;have kO:((xs.take i).map aa.enc).take i=(xs.take i).map aa.enc:=List.take_of_length_le (by rw[lM,hl];exact Nat.le_refl _);have cw:=Gq aa.enc xs i hlt;simp only[aa.enc]at cw
   try simp only[go_sem,lM,aF,av]
   repeat'(first|(refine ae.intro (by(apply DJ<;>first|assumption|omega)) ?_<;>simp only[go_sem,lM,hl,kO])|(with_reducible refine al ?_)|fail)
   all_goals(refine bm.intro (i+1) [8] (by omega) (by omega) ?_;simp only[go_sem,hw];simp[cw])
  ·simp only[kk]at h1;have gD:i=xs.length:=by omega
   subst gD;simp only[go_sem,dB];simp[outOA]
set_option maxRecDepth 100000
def V5:List (List bt):=ct 15 [13551749,13551747,13558585,13558567,13558630,13558432,13561222,13559764,13555030,14280016,14319382,14181601,13827307,12754584,9565938]
def V6:List (List bt):=ct 8 [6200,6198,6448,6547,6493,6322,5832,4374]
def V7:List (List bt):=ct 14 [4517249,4773139,4773133,4779958,4780012,4779823,4782604,4781146,4776421,4763287,4723921,4605823,4251528,3188646]
attribute [go_sem] V5 V6 V7
def pI(xs:List Int)(i:Nat):Bool:=(xs.take i).all fun b=>bN b 0 255
theorem V8(xs:List Int)(i:Nat)(h:i<xs.length):pI xs (i+1)=(pI xs i&&bN xs[i] 0 255):=by
 unfold pI;rw[List.take_add_one,dg h,Option.toList_some,List.all_append];simp
theorem V9(xs:List Int)(i:Nat)(h:i<xs.length)(hb:bN xs[i] 0 255=false):pI xs xs.length=false:=by
 unfold pI;rw[dB,List.all_eq_false];exact⟨xs[i],List.getElem_mem h,by simp[hb]⟩
def w8(r:cl):Bool:=kK r.size&&decide ((r.cells.length:Int)=r.size)&&decide (0≤r.base)&&decide (r.base≤r.b')&&decide (IntKind.i64.wrap (r.b'-r.base)≤r.size)&&decide (r.b'≤4611686018427387903)
def jC(r:cl):Bool:=w8 r&&pI r.cells r.cells.length
theorem yH{n:Int}(h:kK n=true):1≤n∧n≤64:=by
 simp only[kK,bN,cX,il]at h;exact h.1
theorem nZ{r:cl}(h:jC r=true):1≤r.size∧r.size≤64∧(r.cells.length:Int)=r.size∧0≤r.base∧r.base≤r.b'∧r.b'-r.base≤r.size∧r.b'≤4611686018427387903∧kK r.size=true∧∀i (hi:i<r.cells.length),0≤r.cells[i]∧r.cells[i]≤255:=by
 simp only[jC,w8,cX,il]at h;obtain⟨⟨⟨⟨⟨⟨h1,h2⟩,aj⟩,aD⟩,bX⟩,eR⟩,l2⟩:=h;have hs:=yH h1;rw[bC]at bX<;>try omega
 refine⟨hs.1,hs.2,h2,aj,aD,bX,eR,h1,fun i hi=>?_⟩;unfold pI at l2;rw[dB,List.all_eq_true]at l2;have:=l2 _ (List.getElem_mem hi);simpa [bN]using this
theorem w9(bS bQ bL:Int)(bB:List Int):PureCall Tryz.prog 175 [.agg [.int .i64 bS,.int .i64 bQ,.int .i64 bL,.sl 1 (bB.map aW)]] [.one (.bool (jC (⟨bS,bQ,bL,bB⟩:cl)))]:=by
 refine aL 57 Tryz.func175 Tryz.call175 [.tmp 2] ?_;intro ok;have hm:bB.length≤maxLen:=by have:=ok.1.2.2.2.1.1;rwa [lM]at this
 try simp only[go_sem]
 repeat'((first|refine ae.intro (by apply Jp) ?_|refine bb ?_)<;>simp only[go_sem,lM])
 refine bp (fun h0=>?_) (fun h0=>?_)
 ·simp only[go_sem];have:w8 (⟨bS,bQ,bL,bB⟩:cl)=false:=by
   revert h0;simp only[w8,c3]
   cases kK bS<;>simp<;>intros<;>omega
  simp[jC,this]
 ·have df:w8 (⟨bS,bQ,bL,bB⟩:cl)=true:=by
   revert h0;simp only[w8,c3]
   cases kK bS<;>simp<;>intros<;>omega
  simp only[go_sem];refine b5.intro (fun i:Nat=>⟨(.J::.ptr 0 0 0::.d (.bool false)::.d (.int .i64 i)::jn 53 []),[.box [.d (.int .i64 bS),.d (.int .i64 bQ),.d (.int .i64 bL),.d (.sl 1 (bB.map aW))]]⟩)
   (fun i=>bB.length-i) (fun i=>i≤bB.length∧pI bB i=true) 0 [0] ⟨by omega,by simp[pI]⟩ ?_ ?_
  ·simp only[go_sem];simp
  ·rintro i ⟨hi,he⟩;by_cases h1:i<bB.length
   ·have ar:decide ((i:Int)<(bB.length:Int))=true:=bc (by omega);have av:=bZ aW bB i h1;have hw:=dv h1 hm;have hs:=V8 bB i h1;have hf:=V9 bB i h1
    try simp only[go_sem,lM,aF,av,aW,ar]
    repeat'(first|((first|refine ae.intro (by apply iE) ?_|refine bp (fun h=>?_) (fun h=>?_))<;>simp only[go_sem])|(with_reducible refine al ?_)|fail)
    ·have:=hf (by simpa using h);simp[jC,this]
    ·have aj:bN bB[i] 0 255=true:=by simpa using h
     refine bm.intro (i+1) [0] ⟨by omega,by rw[hs,he,aj];rfl⟩ (by omega) ?_;simp only[go_sem,hw];simp
   ·have ar:decide ((i:Int)<(bB.length:Int))=false:=a_ (by omega);obtain rfl:i=bB.length:=by omega
    simp only[go_sem,lM,ar];simp[jC,df,he]
theorem af8{xs:List Int}{i:Nat}(h:i<xs.length)(he:pI xs i=true)(hb:bN xs[i] 0 255=true):pI xs (i+1)=true:=by rw[V8 xs i h,he,hb];rfl
set_option maxHeartbeats 1000000 in
theorem OC(bS bQ bL:Int)(bB:List Int):PureCall Tryz.prog 216 [.agg [.int .i64 bS,.int .i64 bQ,.int .i64 bL,.sl 1 (bB.map aW)]] [.one (.bool (jC (⟨bS,bQ,bL,bB⟩:cl)))]:=by
 refine aL 36 Tryz.func216 Tryz.call216 [.tmp 2] ?_;intro ok;have hm:bB.length≤maxLen:=by have:=ok.1.2.2.2.1.1;rwa [lM]at this
 have aot:=Dn ok.1.2.1;have aou:=Dn ok.1.2.2.1
 cases ag:kK bS with
 |false=>
  try simp only[go_sem]
  repeat'((first|refine ae.intro (by first|apply A9|apply ng) ?_|refine ao.intro (by apply iS) ?_|with_reducible refine de ?_|refine bb ?_)<;>simp only[go_sem,ag])
  all_goals simp[jC,w8,ag]
 |true=>
  have hs:=yH ag
  cases e2:decide ((bB.length:Int)≠bS)with
  |true=>
   have V_:¬(bB.length:Int)=bS:=ch e2
   try simp only[go_sem]
   repeat'((first|refine ae.intro (by apply A9) ?_|with_reducible refine b9 ?_|with_reducible refine de ?_)<;>simp only[go_sem,lM,ag,e2])
   all_goals simp[jC,w8,V_]
  |false=>
   have V_:(bB.length:Int)=bS:=by have:=cD e2;omega
   try simp only[go_sem]
   repeat'((first|refine ae.intro (by apply A9) ?_|with_reducible refine b9 ?_)<;>simp only[go_sem,lM,ag,e2])
   refine ae.inl (en (n:=9) (rs:=[.tmp 4]) Tryz.func254 rfl Tryz.call254 hZ rfl rfl ?_);simp only[go_sem];refine ae.inl (en (n:=19) (rs:=[.tmp 4]) Tryz.func299 rfl Tryz.call299 hZ rfl rfl ?_);simp only[go_sem,lM];refine b5.intro (fun i:Nat=>⟨(.d (.sl 1 (bB.map aW))::.fn 255 []::.J::.J::.d (.int .i64 0)::.J::.J::.d (.int .i64 bB.length)::.d (.int .i64 i)::jn 10 []),[.box [.d (.int .i64 bS),.d (.int .i64 bQ),.d (.int .i64 bL),.d (.sl 1 (bB.map aW))]]⟩)
    (fun i=>bB.length-i) (fun i=>i≤bB.length∧pI bB i=true) 0 [0] ⟨by omega,by simp[pI]⟩ ?_ ?_
   ·simp only[go_sem];simp
   ·rintro i ⟨hi,he⟩;by_cases h1:i<bB.length
    ·have ar:decide ((i:Int)<(bB.length:Int))=true:=bc (by omega);have av:=bZ aW bB i h1;have hw:=dv h1 hm;have hf:=V9 bB i h1;simp only[go_sem,lM,aF,av,aW,ar];refine⟨⟨by omega,by omega⟩,?_⟩;refine ae.inl (en (n:=6) (rs:=[.tmp 2]) Tryz.func255 rfl Tryz.call255 hZ rfl rfl ?_);simp only[go_sem];refine ae.intro (iS bB[i] 0 255) ?_;simp only[go_sem];refine bp (fun h2=>?_) (fun h2=>?_)
     ·have:=hf (by simpa using h2);have aj:decide ((0:Int)≤i)=true:=bc (by omega);simp only[go_sem,aj];simp[jC,this]
     ·have aj:bN bB[i] 0 255=true:=by simpa using h2
      simp only[go_sem,hw];refine bm.intro (i+1) [0] ⟨by omega,af8 h1 he aj⟩ (by omega) ?_;simp only[go_sem];simp
    ·have ar:decide ((i:Int)<(bB.length:Int))=false:=a_ (by omega);obtain rfl:i=bB.length:=by omega
     have aj:decide ((0:Int)≤-1)=false:=by decide
     simp only[go_sem,ar];have hq:w8 (⟨bS,bQ,bL,bB⟩:cl)=(bJ bQ&&bN bL bQ (cG (IntKind.i64.wrap (bQ+bS)) 4611686018427387903)):=by
      rw[Bool.eq_iff_iff];simp only[w8,bJ,bN,cG,ag,Bool.true_and,cX,il];by_cases iC:0≤bQ∧bQ≤4611686018427387903
      ·rw[bC (n:=bQ+bS) (by omega) (by omega)];constructor
       ·rintro⟨⟨⟨⟨_,h2⟩,aj⟩,aD⟩,bX⟩;rw[bC (n:=bL-bQ) (by omega) (by omega)]at aD;refine⟨iC,aj,bc ?_⟩;split<;>omega
       ·rintro⟨_,aj,aD⟩;have aD:=ch aD;have:bL≤bQ+bS∧bL≤4611686018427387903:=by split at aD<;>omega
        rw[bC (n:=bL-bQ) (by omega) (by omega)];omega
      ·constructor
       ·rintro⟨⟨⟨⟨_,h2⟩,aj⟩,aD⟩,bX⟩;omega
       ·rintro⟨h,_⟩;exact absurd h iC
     try simp only[go_sem,lM,ag,e2]
     repeat'((first|refine ae.intro (by first|apply A9|apply ng) ?_|refine ao.intro (by apply iS) ?_|with_reducible refine de ?_|refine bb ?_)<;>simp only[go_sem])
     all_goals(simp only[jC,he,Bool.and_true,hq,cG];simp)
def hE(r:cl):Int:=if jC r then cG (r.size-(r.b'-r.base)) (4611686018427387903-r.b')else 0
theorem af9(bS bQ bL:Int)(bB:List Int):PureCall Tryz.prog 180 [.agg [.int .i64 bS,.int .i64 bQ,.int .i64 bL,.sl 1 (bB.map aW)]] [.one (.int .i64 (hE (⟨bS,bQ,bL,bB⟩:cl)))]:=by
 refine aL 18 Tryz.func180 Tryz.call180 [.tmp 2] ?_;intro _
 cases hI:jC (⟨bS,bQ,bL,bB⟩:cl)with
 |false=>
  try simp only[go_sem]
  repeat'(refine ae.intro (by apply w9) ?_<;>simp only[go_sem,hI])
  all_goals simp[hE,hI]
 |true=>
  obtain⟨h1,h2,aj,aD,bX,eR,l2,fO,Ae⟩:=nZ hI;simp only at h1 h2 aj aD bX eR l2;have eI:IntKind.i64.wrap (bL-bQ)=bL-bQ:=by rw[bC]<;>omega
  have gj:IntKind.i64.wrap (bS-(bL-bQ))=bS-(bL-bQ):=by rw[bC]<;>omega
  have lY:IntKind.i64.wrap (4611686018427387903-bL)=4611686018427387903-bL:=by rw[bC]<;>omega
  try simp only[go_sem]
  repeat'(refine ae.intro (by apply w9) ?_<;>simp only[go_sem,hI,eI,gj,lY])
  all_goals simp[hE,hI,cG]
def lC(n:Int):cl:=if kK n then⟨n,0,0,List.replicate n.toNat 0⟩else⟨0,0,0,[]⟩
theorem V'(n:Int):PureCall Tryz.prog 166 [.one (.int .i64 n)] [.agg [.int .i64 (lC n).size,.int .i64 (lC n).base,.int .i64 (lC n).b',.sl 1 ((lC n).cells.map aW)],.one (.bool (kK n))]:=by
 refine aL 12 Tryz.func166 Tryz.call166 [.cell 2 55,.tmp 3] ?_;intro _
 cases hI:kK n with
 |false=>
  try simp only[go_sem]
  repeat'(refine ae.intro (by apply Jp) ?_<;>simp only[go_sem,hI])
  all_goals simp[lC,hI]
 |true=>
  have hn:=yH hI
  try simp only[go_sem]
  repeat'(first|(refine ae.intro (by apply Jp) ?_<;>simp only[go_sem,hI])|(with_reducible refine al ?_)|fail)
  all_goals simp[lC,hI,aW]
def wrS(cs:List Int)(e sz:Int)(d:List UInt8):Nat→List Int
 |0=>cs
 |k+1=>(wrS cs e sz d k).set ((e+(k:Int)).tmod sz).toNat ((d[k]?.getD 0).toNat:Int)
theorem AX(cs:List Int)(e sz:Int)(d:List UInt8):∀k,(wrS cs e sz d k).length=cs.length
 |0=>rfl
 |k+1=>by rw[wrS,List.length_set,AX cs e sz d k]
def fL(r:cl)(d:List UInt8):Nat:=(cG (hE r) d.length).toNat
def kh(r:cl)(d:List UInt8):cl:=⟨r.size,r.base,IntKind.i64.wrap (r.b'+(fL r d:Int)),wrS r.cells r.b' r.size d (fL r d)⟩
theorem IB(r:cl):0≤hE r∧(0<hE r→jC r=true∧hE r≤r.size-(r.b'-r.base)∧r.b'+hE r≤4611686018427387903):=by
 unfold hE cG;split
 ·rename_i h;obtain⟨h1,h2,aj,aD,bX,eR,l2,fO,Ae⟩:=nZ h;split<;>exact⟨by omega,fun _=>⟨h,by omega,by omega⟩⟩
 ·exact⟨by omega,fun g=>by omega⟩
theorem Jq(b:UInt8):IntKind.i64.wrap ((b.toNat:Nat):Int)=((b.toNat:Nat):Int):=by
 have:=b.toNat_lt;rw[bC]<;>omega
set_option maxHeartbeats 1000000 in
theorem aga(bS bQ bL:Int)(bB:List Int)(d:List UInt8)(hc:bB.length≤8388608)(hd:d.length≤1048576):PureCall Tryz.prog 122 [.agg [.int .i64 bS,.int .i64 bQ,.int .i64 bL,.sl 1 (bB.map aW)],.one (.str d)] [.agg [.int .i64 (kh (⟨bS,bQ,bL,bB⟩:cl) d).size,.int .i64 (kh (⟨bS,bQ,bL,bB⟩:cl) d).base,.int .i64 (kh (⟨bS,bQ,bL,bB⟩:cl) d).b',.sl 1 ((kh (⟨bS,bQ,bL,bB⟩:cl) d).cells.map aW)],.one (.int .i64 ((fL (⟨bS,bQ,bL,bB⟩:cl) d:Int)))]:=by
 refine aL 42 Tryz.func122 Tryz.call122 [.cell 4 55,.tmp 5] ?_;intro ok;have hr:=IB (⟨bS,bQ,bL,bB⟩:cl);have bo:(fL (⟨bS,bQ,bL,bB⟩:cl) d:Int)=cG (hE (⟨bS,bQ,bL,bB⟩:cl)) d.length:=by unfold fL cG;split<;>omega
 have agb:fL (⟨bS,bQ,bL,bB⟩:cl) d≤d.length:=by have:=bo;unfold cG at this;split at this<;>omega
 have agc:(fL (⟨bS,bQ,bL,bB⟩:cl) d:Int)≤hE (⟨bS,bQ,bL,bB⟩:cl):=by have:=bo;unfold cG at this;split at this<;>omega
 generalize hn:fL (⟨bS,bQ,bL,bB⟩:cl) d=n at *;have FI:(if((d.length:Nat):Int)<hE (⟨bS,bQ,bL,bB⟩:cl)then((d.length:Nat):Int)else hE (⟨bS,bQ,bL,bB⟩:cl))=(n:Int):=by rw[bo];rfl
 try simp only[go_sem]
 repeat'(refine ae.intro (by first|(apply GO<;>first|assumption|omega)|apply af9) ?_<;>simp only[go_sem,lM,FI])
 refine b5.intro (fun k:Nat=>⟨(.J::.d (.str d)::.ptr 0 0 0::.J::.ptr 1 0 0::.d (.int .i64 0)::.ptr 3 0 0::.d (.int .i64 n)::.d (.int .i64 k)::jn 33 []),[.box [.d (.int .i64 bS),.d (.int .i64 bQ),.d (.int .i64 bL),.d (.sl 1 (bB.map aW))],.box [.d (.int .i64 0),.d (.int .i64 0),.d (.int .i64 0),.c7 1],.ai 1 ((wrS bB bL bS d k).map aW) true,.box [.d (.int .i64 bS),.d (.int .i64 bQ),.d (.int .i64 bL),.sl 2 0 bB.length]]⟩)
  (fun k=>n-k) (fun k=>k≤n) 0 [0,1,2,3] (by omega) ?_ ?_
 ·simp only[go_sem];simp[wrS]
 ·intro k hk;by_cases h1:k<n
  ·have ar:decide ((k:Int)<(n:Int))=true:=bc (by omega);obtain⟨hI,pc,jN⟩:=hr.2 (by omega);obtain⟨g1,cx,g3,g4,Bg,Bh,Bi,OD,FJ⟩:=nZ hI;simp only at g1 cx g3 g4 Bg Bh Bi pc jN;have hw:=dv (i:=k) (m:=d.length) (by omega) (by simp only[maxLen];omega);have eI:IntKind.i64.wrap (bL+(k:Int))=bL+(k:Int):=by rw[bC]<;>omega
   have fF:=Int.tmod_nonneg bS (show(0:Int)≤bL+(k:Int)by omega);have gm:=Int.tmod_lt_of_pos (bL+(k:Int)) (show 0<bS by omega);have hl:=AX bB bL bS d k;obtain⟨j,lS⟩:=Int.eq_ofNat_of_zero_le fF;rw[lS]at gm;have ak:j<(wrS bB bL bS d k).length:=by omega
   have vD:=bZ aW _ j ak;have cw:wrS bB bL bS d (k+1)=(wrS bB bL bS d k).set j ((d[k]?.getD 0).toNat:Int):=by rw[wrS,lS,aF]
   try simp only[go_sem,ar]
   repeat'(first|(refine ba V5 (by kernel_rfl) (by rfl) ?_<;>simp only[go_sem,lM,aF,eI,lS,vD,aW,Jq,Option.getD_some])|(with_reducible refine al ?_)|fail)
   all_goals(first|(refine⟨⟨ak,by simp,by simp⟩,?_⟩)|skip)
   all_goals(refine bm.intro (k+1) [0,1,2,3] (by omega) (by omega) ?_;simp only[go_sem,hw,cw];simp[aW])
  ·have ar:decide ((k:Int)<(n:Int))=false:=a_ (by omega);obtain rfl:k=n:=by omega
   try simp only[go_sem,lM,ar]
   all_goals simp[outOA,kh,hn,AX,List.take_of_length_le]
def w_(cs:List Int)(b sz:Int):Nat→List Int
 |0=>cs
 |k+1=>(w_ cs b sz k).set ((b+(k:Int)).tmod sz).toNat 0
theorem IC(cs:List Int)(b sz:Int):∀k,(w_ cs b sz k).length=cs.length
 |0=>rfl
 |k+1=>by rw[w_,List.length_set,IC cs b sz k]
def FK(r:cl)(t:Int):Bool:=jC r&&decide (r.base≤t)&&decide (t≤r.b')
def wX(r:cl)(t:Int):cl:=if FK r t then⟨r.size,t,r.b',w_ r.cells r.base r.size (t-r.base).toNat⟩else r
set_option maxHeartbeats 1000000 in
theorem Wa(bS bQ bL:Int)(bB:List Int)(t:Int)(hc:bB.length≤8388608):PureCall Tryz.prog 332 [.agg [.int .i64 bS,.int .i64 bQ,.int .i64 bL,.sl 1 (bB.map aW)],.one (.int .i64 t)] [.agg [.int .i64 (wX (⟨bS,bQ,bL,bB⟩:cl) t).size,.int .i64 (wX (⟨bS,bQ,bL,bB⟩:cl) t).base,.int .i64 (wX (⟨bS,bQ,bL,bB⟩:cl) t).b',.sl 1 ((wX (⟨bS,bQ,bL,bB⟩:cl) t).cells.map aW)],.one (.bool (FK (⟨bS,bQ,bL,bB⟩:cl) t))]:=by
 refine aL 43 Tryz.func332 Tryz.call332 [.cell 4 55,.tmp 5] ?_;intro ok
 cases bz:FK (⟨bS,bQ,bL,bB⟩:cl) t with
 |false=>
  try simp only[go_sem]
  repeat'((first|refine ae.intro (by first|(apply GO<;>first|assumption|omega)|apply w9) ?_|refine bb ?_)<;>simp only[go_sem,lM])
  refine bp (fun h0=>?_) (fun h0=>?_)
  ·simp only[go_sem,lM];simp[wX,bz]
  ·exfalso;simp[FK]at bz h0;grind
 |true=>
  have hI:jC (⟨bS,bQ,bL,bB⟩:cl)=true∧bQ≤t∧t≤bL:=by
   simp only[FK,cX,il,and_assoc]at bz;exact bz
  obtain⟨hI,hb,he⟩:=hI;obtain⟨g1,cx,g3,g4,Bg,Bh,Bi,OD,FJ⟩:=nZ hI;simp only at g1 cx g3 g4 Bg Bh Bi;have ag:decide (t<bQ)=false:=a_ (by omega);have e2:decide (bL<t)=false:=a_ (by omega)
  try simp only[go_sem]
  repeat'((first|refine ae.intro (by first|(apply GO<;>first|assumption|omega)|apply w9) ?_|with_reducible refine b9 ?_)<;>simp only[go_sem,lM,hI,ag,e2])
  refine b5.intro (fun k:Nat=>⟨(.J::.d (.int .i64 t)::.ptr 0 0 0::.J::.ptr 1 0 0::.d (.bool false)::.ptr 3 0 0::.d (.int .i64 (bQ+(k:Int)))::jn 35 []),[.box [.d (.int .i64 bS),.d (.int .i64 bQ),.d (.int .i64 bL),.d (.sl 1 (bB.map aW))],.box [.d (.int .i64 0),.d (.int .i64 0),.d (.int .i64 0),.c7 1],.ai 1 ((w_ bB bQ bS k).map aW) true,.box [.d (.int .i64 bS),.d (.int .i64 bQ),.d (.int .i64 bL),.sl 2 0 bB.length]]⟩)
   (fun k=>(t-bQ).toNat-k) (fun k=>(k:Int)≤t-bQ) 0 [0,1,2,3] (by omega) ?_ ?_
  ·simp only[go_sem];simp[w_]
  ·intro k hk;by_cases h1:(k:Int)<t-bQ
   ·have ar:decide (bQ+(k:Int)<t)=true:=bc (by omega);have hw:IntKind.i64.wrap (bQ+(k:Int)+1)=bQ+((k+1:Nat):Int):=by rw[bC]<;>omega
    have fF:=Int.tmod_nonneg bS (show(0:Int)≤bQ+(k:Int)by omega);have gm:=Int.tmod_lt_of_pos (bQ+(k:Int)) (show 0<bS by omega);have hl:=IC bB bQ bS k;obtain⟨j,lS⟩:=Int.eq_ofNat_of_zero_le fF;rw[lS]at gm;have ak:j<(w_ bB bQ bS k).length:=by omega
    have vD:=bZ aW _ j ak;have cw:w_ bB bQ bS (k+1)=(w_ bB bQ bS k).set j 0:=by rw[w_,lS,aF]
    try simp only[go_sem,ar]
    repeat'(first|(refine ba V6 (by kernel_rfl) (by rfl) ?_<;>simp only[go_sem,lM,aF,lS,vD,aW,Option.getD_some])|(with_reducible refine al ?_)|fail)
    all_goals(first|(refine⟨⟨ak,by simp,by simp⟩,?_⟩)|skip)
    all_goals(refine bm.intro (k+1) [0,1,2,3] (by omega) (by omega) ?_;simp only[go_sem,hw,cw];simp[aW])
   ·have ar:decide (bQ+(k:Int)<t)=false:=a_ (by omega);have z_:(t-bQ).toNat=k:=by omega
    try simp only[go_sem,lM,ar]
    all_goals simp[outOA,wX,bz,z_,IC,List.take_of_length_le]
def FL(r:cl)(o n:Int):Bool:=jC r&&decide (r.base≤o)&&decide (0≤n)&&decide (o≤r.b')&&decide (n≤IntKind.i64.wrap (r.b'-o))
def xa(r:cl)(o:Int)(k:Nat):List UInt8:=(List.range k).map fun j=>ux (r.cells[((o+(j:Nat)).tmod r.size).toNat]?.getD 0)
def A0(r:cl)(o n:Int):List UInt8:=if FL r o n then xa r o n.toNat else []
theorem agd(r:cl)(o:Int)(k:Nat):xa r o (k+1)=xa r o k++[ux (r.cells[((o+(k:Nat)).tmod r.size).toNat]?.getD 0)]:=by
 simp[xa,List.range_succ]
theorem UD(r:cl)(o:Int)(k:Nat):(xa r o k).length=k:=by simp[xa]
set_option maxHeartbeats 1000000 in
theorem Wb(bS bQ bL:Int)(bB:List Int)(o n:Int):PureCall Tryz.prog 338 [.agg [.int .i64 bS,.int .i64 bQ,.int .i64 bL,.sl 1 (bB.map aW)],.one (.int .i64 o),.one (.int .i64 n)] [.one (.str (A0 (⟨bS,bQ,bL,bB⟩:cl) o n)),.one (.bool (FL (⟨bS,bQ,bL,bB⟩:cl) o n))]:=by
 refine aL 56 Tryz.func338 Tryz.call338 [.tmp 6,.tmp 7] ?_;intro ok
 cases bz:FL (⟨bS,bQ,bL,bB⟩:cl) o n with
 |false=>
  try simp only[go_sem]
  repeat'((first|refine ae.intro (by apply w9) ?_|refine bb ?_)<;>simp only[go_sem])
  refine bp (fun h0=>?_) (fun h0=>?_)
  ·simp only[go_sem];simp[A0,bz]
  ·exfalso;simp[FL]at bz h0;grind
 |true=>
  have hI:jC (⟨bS,bQ,bL,bB⟩:cl)=true∧bQ≤o∧0≤n∧o≤bL∧n≤IntKind.i64.wrap (bL-o):=by
   simp only[FL,cX,il,and_assoc]at bz;exact bz
  obtain⟨hI,hb,Br,he,hn⟩:=hI;obtain⟨g1,cx,g3,g4,Bg,Bh,Bi,OD,FJ⟩:=nZ hI;simp only at g1 cx g3 g4 Bg Bh Bi FJ;have ag:decide (o<bQ)=false:=a_ (by omega);have e2:decide (bL<o)=false:=a_ (by omega);have aY:decide (n<0)=false:=a_ (by omega);have bk:decide (IntKind.i64.wrap (bL-o)<n)=false:=a_ (by omega);rw[bC (n:=bL-o) (by omega) (by omega)]at hn;obtain⟨m,rfl⟩:=Int.eq_ofNat_of_zero_le Br
  try simp only[go_sem]
  repeat'((first|refine ae.intro (by apply w9) ?_|with_reducible refine b9 ?_)<;>simp only[go_sem,hI,ag,e2,aY,bk])
  refine b5.intro (fun k:Nat=>⟨(.J::.d (.int .i64 o)::.d (.int .i64 m)::.ptr 0 0 0::.J::.J::.d (.str [])::.d (.bool false)::.d (.str (xa (⟨bS,bQ,bL,bB⟩:cl) o k))::.d (.int .i64 k)::jn 46 []),[.box [.d (.int .i64 bS),.d (.int .i64 bQ),.d (.int .i64 bL),.d (.sl 1 (bB.map aW))]]⟩)
   (fun k=>m-k) (fun k=>k≤m) 0 [0] (by omega) ?_ ?_
  ·simp only[go_sem];simp[xa]
  ·intro k hk;by_cases h1:k<m
   ·have ar:decide ((k:Int)<(m:Int))=true:=bc (by omega);have hw:=dv (i:=k) (m:=100) (by omega) (by simp[maxLen]);have eI:IntKind.i64.wrap (o+(k:Int))=o+(k:Int):=by rw[bC]<;>omega
    have fF:=Int.tmod_nonneg bS (show(0:Int)≤o+(k:Int)by omega);have gm:=Int.tmod_lt_of_pos (o+(k:Int)) (show 0<bS by omega);obtain⟨j,lS⟩:=Int.eq_ofNat_of_zero_le fF;rw[lS]at gm;have ak:j<bB.length:=by omega
    have vD:=bZ aW _ j ak;have fx:=UD (⟨bS,bQ,bL,bB⟩:cl) o k;have cw:xa (⟨bS,bQ,bL,bB⟩:cl) o (k+1)=xa (⟨bS,bQ,bL,bB⟩:cl) o k++[ux bB[j]]:=by rw[agd];simp only[lS,aF,dg ak,Option.getD_some]
    have dw:=Fe bB[j] (FJ j ak)
    try simp only[go_sem,ar]
    repeat'(first|((first|refine ae.intro (by assumption) ?_|refine ao.intro (by assumption) ?_|refine ba V7 (by kernel_rfl) (by rfl) ?_)<;>simp only[go_sem,lM,aF,eI,lS,vD,aW,Option.getD_some])|(with_reducible refine al ?_)|fail)
    all_goals(refine bm.intro (k+1) [0] (by omega) (by omega) ?_;simp only[go_sem,hw,cw];simp)
   ·have ar:decide ((k:Int)<(m:Int))=false:=a_ (by omega);obtain rfl:k=m:=by omega
    try simp only[go_sem,ar]
    all_goals simp[A0,bz]
def af7:Code→Code
 |.seq _ b=>b
 |c=>c
def zE:Nat→Code→Code
 |0,c=>c
 |k+1,c=>zE k (af7 c)
def zx(f:Func):Code:=f.body.getD .skip
theorem w7{P:Program}{kv:List V}{a b:Code}{σ:St}{K:St→Prop}{X:List (Nat×(St→Prop))}{cc:St→Prop}(h:∀fG:St→Prop,(∀σ',codeE P kv b σ' K X cc→fG σ')→codeE P kv a σ fG X cc):codeE P kv (.seq a b) σ K X cc:=by
 rw[abx];exact h _ fun _ g=>g
def insR:List ab→ab→List ab
 |[],r=>[r]
 |x::xs,r=>if x.high<r.low then x::insR xs r else if r.high<x.low then r::x::xs else insR xs ⟨cG r.low x.low,dL r.high x.high⟩
def OL(s:List ab×Bool×ab):List ab:=if s.2.1=true then s.1 else s.1++[s.2.2]
theorem Wm(xs:List ab)(r:ab):∀i,i≤xs.length→fK xs r i=(xs.take i).foldl kI ([],false,r)
 |0,_=>rfl
 |i+1,h=>by rw[Oy xs r i (by omega),Wm xs r i (by omega),xb kI _ xs i (by omega)]
theorem Wn{r:ab}(hr:cT r=true):∀(xs out:List ab),(∀x∈xs,cT x=true∧r.high<x.low)→xs.foldl kI (out,true,r)=(out++xs,true,r)
 |[],out,_=>by simp
 |x::xs,out,h=>by
  have h1:=h x (by simp);have h2:=(gM _).1 h1.1;have aj:=(gM _).1 hr;have e:kI (out,true,r) x=(out++[x],true,r):=by
   unfold kI;rw[if_neg (show ¬x.high<r.low by omega),if_pos h1.2];simp
  rw[List.foldl_cons,e,Wn hr xs _ (fun y hy=>h y (by simp[hy])),List.append_assoc];rfl
theorem OM:∀(xs out:List ab) (r:ab),(∀x∈xs,cT x=true)→xs.Pairwise (fun a b=>a.high<b.low)→cT r=true→OL (xs.foldl kI (out,false,r))=out++insR xs r
 |[],out,r,_,_,_=>by simp[OL,insR]
 |x::xs,out,r,h1,h2,hr=>by
  have hx:=(gM _).1 (h1 x (by simp));have jP:=(gM _).1 hr;have gW:=List.pairwise_cons.1 h2;rw[List.foldl_cons,insR];by_cases c1:x.high<r.low
  ·have e:kI (out,false,r) x=(out++[x],false,r):=by unfold kI;rw[if_pos c1]
   rw[e,if_pos c1,OM xs _ r (fun y hy=>h1 y (by simp[hy])) gW.2 hr,List.append_assoc];rfl
  ·by_cases c2:r.high<x.low
   ·have e:kI (out,false,r) x=(out++[r]++[x],true,r):=by unfold kI;rw[if_neg c1,if_pos c2];simp
    rw[e,if_neg c1,if_pos c2,Wn hr xs _ (fun y hy=>⟨h1 y (by simp[hy]),by have:=gW.1 y hy;omega⟩)];simp[OL]
   ·have e:kI (out,false,r) x=(out,false,⟨cG r.low x.low,dL r.high x.high⟩):=by unfold kI;rw[if_neg c1,if_neg c2]
    have hm:cT ⟨cG r.low x.low,dL r.high x.high⟩=true:=by
     rw[gM];simp only[cG,dL];refine⟨?_,?_,?_⟩<;>(repeat' split)<;>omega
    rw[e,if_neg c1,if_neg c2];exact OM xs out _ (fun y hy=>h1 y (by simp[hy])) gW.2 hm
theorem Wo{xs:List ab}{r:ab}(h:cy xs=true)(hr:cT r=true):fh xs r=insR xs r:=by
 have h1:=(kJ xs).1 h;have h2:=OM xs [] r h1.1 h1.2 hr;have aj:=Wm xs r xs.length (Nat.le_refl _);rw[dB]at aj;unfold fh;rw[h,hr,aj];simp only;exact h2
theorem ON{B:Int}:∀(xs:List ab) (r:ab),B<r.low→(∀x∈xs,B<x.low)→∀y∈insR xs r,B<y.low
 |[],r,hr,_,y,hy=>by simp only[insR,List.mem_singleton]at hy;rw[hy];exact hr
 |x::xs,r,hr,hx,y,hy=>by
  rw[insR]at hy;split at hy
  ·rcases List.mem_cons.1 hy with rfl|hy
   ·exact hx _ (by simp)
   ·exact ON xs r hr (fun z hz=>hx z (by simp[hz])) y hy
  ·split at hy
   ·rcases List.mem_cons.1 hy with rfl|hy
    ·exact hr
    ·exact hx y hy
   ·refine ON xs _ ?_ (fun z hz=>hx z (by simp[hz])) y hy;have:=hx x (by simp);simp only[cG];split<;>omega
theorem OO:∀(xs:List ab) (r:ab),(∀x∈xs,cT x=true)→xs.Pairwise (fun a b=>a.high<b.low)→cT r=true→(∀x∈insR xs r,cT x=true)∧(insR xs r).Pairwise (fun a b=>a.high<b.low)
 |[],r,_,_,hr=>by simp[insR,hr]
 |x::xs,r,h1,h2,hr=>by
  have hx:=(gM _).1 (h1 x (by simp));have jP:=(gM _).1 hr;have gW:=List.pairwise_cons.1 h2;have lA:∀y∈xs,cT y=true:=fun y hy=>h1 y (by simp[hy]);rw[insR];split
  ·rename_i c1;obtain⟨g1,cx⟩:=OO xs r lA gW.2 hr;refine⟨fun y hy=>?_,List.pairwise_cons.2 ⟨fun y hy=>ON xs r c1 gW.1 y hy,cx⟩⟩;rcases List.mem_cons.1 hy with rfl|hy
   ·exact h1 _ (by simp)
   ·exact g1 y hy
  ·split
   ·rename_i c1 c2;refine⟨fun y hy=>?_,List.pairwise_cons.2 ⟨fun y hy=>?_,h2⟩⟩
    ·rcases List.mem_cons.1 hy with rfl|hy
     ·exact hr
     ·exact h1 y hy
    ·rcases List.mem_cons.1 hy with rfl|hy
     ·exact c2
     ·have:=gW.1 y hy;omega
   ·refine OO xs _ lA gW.2 ?_;rw[gM];simp only[cG,dL];refine⟨?_,?_,?_⟩<;>(repeat' split)<;>omega
theorem Wp:∀(xs:List ab) (r:ab),insR xs r≠[]
 |[],r=>by simp[insR]
 |x::xs,r=>by
  rw[insR];split
  ·simp
  ·split
   ·simp
   ·exact Wp xs _
theorem NM{xs:List ab}{r:ab}(h:cy xs=true)(hr:cT r=true):cy (fh xs r)=true:=by
 rw[Wo h hr,kJ];have h1:=(kJ xs).1 h;exact OO xs r h1.1 h1.2 hr
theorem agf{xs:List ab}{r:ab}(h:cy xs=true)(hr:cT r=true):fh xs r≠[]:=by rw[Wo h hr];exact Wp _ _
def eb(xs ys:List ab):List ab:=ys.foldl fh xs
theorem o0:∀(ys xs:List ab),(eb xs ys).length≤xs.length+ys.length
 |[],xs=>by simp[eb]
 |y::ys,xs=>by
  have h1:=o0 ys (fh xs y);have h2:=Kp xs y;have e:eb xs (y::ys)=eb (fh xs y) ys:=rfl;rw[e,oW];omega
theorem zF(xs ys:List ab)(i:Nat)(h:i<ys.length):eb xs (ys.take (i+1))=fh (eb xs (ys.take i)) ys[i]:=xb fh xs ys i h
theorem FN:∀(ys xs:List ab),cy xs=true→(∀y∈ys,cT y=true)→cy (eb xs ys)=true∧(ys≠[]∨xs≠[]→eb xs ys≠[])
 |[],xs,h,_=>⟨h,fun g=>by rcases g with g|g;exact absurd rfl g;exact g⟩
 |y::ys,xs,h,hy=>by
  have h1:=NM h (hy y (by simp));have h2:=agf h (hy y (by simp));have aj:=FN ys (fh xs y) h1 (fun z hz=>hy z (by simp[hz]));exact⟨aj.1,fun _=>aj.2 (.inr h2)⟩
theorem Wq{p f a X:List ab}(hp:cy p=true)(hf:cy f=true)(ha:cy a=true)(h:f≠[]∨a≠[])(b_:X=eb (eb p f) a):X≠[]:=by
 have h1:=FN f p hp ((kJ f).1 hf).1;have h2:=FN a _ h1.1 ((kJ a).1 ha).1;rw[b_];rcases h with h|h
 ·exact h2.2 (.inr (h1.2 (.inl h)))
 ·exact h2.2 (.inl h)
def ke(xs:List ab):Int:=(xs[0]?.getD (⟨0,0⟩:ab)).high
theorem agh{xs:List ab}{E:Int}(h:cy xs=true)(ah:∀x∈xs,x.high≤E)(hc:jj xs=E)(hp:0<E):ke xs=E:=by
 unfold jj at hc;rw[if_pos h]at hc
 cases hl:xs.length with
 |zero=>rw[List.length_eq_zero_iff.1 hl]at hc;simp[iO]at hc;omega
 |succ n=>
  have hi:n<xs.length:=by omega
  have h1:=FM h n hi;have h2:=xb (fun(n:Int) (r:ab)=>n+(r.high-r.low)) 0 xs n hi;have e:iO xs=iO (xs.take n)+(xs[n].high-xs[n].low):=by
   rw[←hl,dB]at h2;exact h2
  have aD:=ah _ (List.getElem_mem hi)
  cases n with
  |zero=>
   simp only[List.take_zero,iO,List.foldl_nil]at e h1;have bX:=(gM _).1 (((kJ xs).1 h).1 _ (List.getElem_mem hi));unfold ke;rw[dg hi,Option.getD_some];simp only[iO]at hc e;omega
  |succ m=>
   exfalso;have hm:m<xs.length:=by omega
   have bX:=FM h m hm;have eR:iO (xs.take (m+1))=iO (xs.take m)+(xs[m].high-xs[m].low):=xb _ _ _ _ _;have l2:=(List.pairwise_iff_getElem.1 ((kJ xs).1 h).2) m (m+1) hm hi (by omega);omega
set_option maxRecDepth 100000
def zI:List (List bt):=ct 12 [522584,522582,522576,522679,522625,522450,502281,530347,525973,512487,472392,354294]
def zJ:List (List bt):=ct 43 [328256967394537077509,328256967394537077507,328256967394537077622,328256967394537077604,328256967394537077550,328256967394537077384,328256967394537076898,328256967394536990147,328256967394537073253,328256967394537060131,328256967394537020765,328256967394536900480,328256967394536546186,328256967394535483304,328256967394532294658,328256967394522728720,328256967394494030906,328256967394407937464,328256967394149657138,328256966169513491409,328256966167188968475,328256966160215399673,328256966139294693267,328256967346884357480,328256967158597999826,328256966593738926864,328256964852671249298,328256959768939592640,328256944517744622666,328256898764159712744,328184493716039761179,328184081933775571881,328182846586983003987,328254084918687752541,328242966797554641495,328209612434155308357,328106872759240078506,327806683488646080264,326906115676864085538,324204412241518101360,316099301935480148826,291783971017366291224,218837978263024718418]
def ym:List (List bt):=ct 9 [16757,16755,16762,16740,16686,16524,19318,17860,13122]
def WM:List (List bt):=ct 6 [692,690,724,706,648,486]
attribute [go_sem] zI zJ ym WM
def vG(s:az):Int:=
 if s.bd=3∧s.ring.base=s.ring.b' then 3
 else if 1<s.bd∨(s.bd=1∧s.state=2)then 2
 else if 0<s.sent∨(s.bd=1∧s.state=1)then 1 else 0
theorem Bn(aO aS aT aP:Int)(aM:List Int)(aw au ay:List ab)(aR aQ aN aU:Int):PureCall Tryz.prog 179 [.agg [.int .i64 aO,.int .i64 aS,.int .i64 aT,.int .i64 aP,.sl 1 (aM.map aW),.sl 2 (aw.map ab.enc),.sl 2 (au.map ab.enc),.sl 2 (ay.map ab.enc),.int .i64 aR,.int .i64 aQ,.int .i64 aN,.int .i64 aU]] [.one (.int .i64 (vG (⟨aO,⟨aS,aT,aP,aM⟩,aw,au,ay,aR,aQ,aN,aU⟩:az)))]:=by
 refine aL 44 Tryz.func179 Tryz.call179 [.tmp 2] ?_;intro _
 try simp only[go_sem]
 repeat'((first|refine bb ?_|refine bp (fun h=>?_) (fun h=>?_))<;>simp only[go_sem])
 all_goals(simp at *;simp only[vG];repeat' split)
 all_goals first|rfl|(exfalso;grind)
def kg(s:az):Bool:=jC s.ring&&cy s.pending&&cy s.flight&&cy s.bK&&bN s.sent 0 s.ring.b'&&bJ s.code&&bN s.bd 0 3
def lT(s:az):Bool:=decide (s.state=4)||decide (s.state=5)
def Jx(s:az):Bool:=decide (s.ring.base=s.ring.b')&&decide ((s.pending.length:Int)=0)&&decide ((s.flight.length:Int)=0)&&decide ((s.bK.length:Int)=0)&&decide (s.bj=s.sent)&&decide (s.bd=0)&&decide (s.sent=s.ring.b')
def oh(s:az):List ab:=eb (eb s.pending s.flight) s.bK
def zG(s:az):Int:=IntKind.i64.wrap (IntKind.i64.wrap (jj s.pending+jj s.flight)+jj s.bK)
def mL(s:az):Bool:=decide (jj (oh s)=s.ring.b')&&decide (zG s=s.ring.b')&&!(decide (0<s.ring.b')&&decide (ke (oh s)≠s.ring.b'))&&decide (uA s.bK 0=s.ring.base)&&decide (s.code=0)
def below(xs:List ab)(n:Int):Bool:=xs.all fun r=>decide (r.high≤n)
def Bm(s:az):Bool:=(decide (s.bd=0) == decide (s.bj=-1))&&!(decide (s.bj≠-1)&&decide (s.bj≠s.ring.b'))
def eA(s:az):Bool:=kg s&&(if lT s then Jx s else mL s&&below s.flight s.sent&&below s.bK s.sent&&Bm s&&decide (s.state=vG s))
theorem WN(xs:List ab)(n:Int)(i:Nat)(h:i<xs.length):below (xs.take (i+1)) n=(below (xs.take i) n&&decide (xs[i].high≤n)):=by
 unfold below;rw[List.take_add_one,dg h,Option.toList_some,List.all_append];simp
theorem WO(xs:List ab)(n:Int)(i:Nat)(h:i<xs.length)(hb:n<xs[i].high):below xs n=false:=by
 unfold below;rw[List.all_eq_false];exact⟨xs[i],List.getElem_mem h,by simp;omega⟩
set_option maxHeartbeats 8000000 in
theorem O7(aO aS aT aP:Int)(aM:List Int)(aw au ay:List ab)(aR aQ aN aU:Int)(lx:au.length≤maxLen)(kX:ay.length≤maxLen)(df:kg (⟨aO,⟨aS,aT,aP,aM⟩,aw,au,ay,aR,aQ,aN,aU⟩:az)=true)(dX:lT (⟨aO,⟨aS,aT,aP,aM⟩,aw,au,ay,aR,aQ,aN,aU⟩:az)=false)(xW:mL (⟨aO,⟨aS,aT,aP,aM⟩,aw,au,ay,aR,aQ,aN,aU⟩:az)=true){pJ js pK pL np nq u8 nr ns nt nu nv nw nx u16 ny nz nA nB nC nD pM pN pO pP pQ pR pS pT pU u32 pV pW pX pY pZ p0 p1 p2 p3 p4 p5 p6 p7 p8 p9 p_ p' qa qb qc qd qe qf qg qh qi qj qk ql qm qn u64 qo qp qq qs qt qu qv qw qx qy qz qA qB qC qD qE qF qG qH qI qJ qK qL qM qN qO qP qQ qR qS qT qU qV qW qX qY qZ q0 q1 q2 q3 q4 q5 q6 q7 q8 q9 q_ q' ra rb re rf rh ri rj rk rl rm rn rp rq rr ru rv ry rz rA rB rC rE rF rG rH rI rJ rK rM rN rO rP rQ rR rS rT rU rW rX rY rZ r1 r2 r3 r4 r5 r6 r7 r8 r9 r_ r' sa sb sc sd se sf sg sh si sj sk sm sn sq sr ss su sv sw sx sy sA sB sC sD sE sF sG sH sI sJ sK sL sM sN sO sP sQ sR sS sT sU sV sW sX sY sZ s0 s3 s4 s5 s6 s7 s8 s9 s_ s' ta tb tc td tf tg th ti tj tk tl tm tn tp tq tr tt tu tv tw tx tz tA:V}(ex:List H) :
  codeE Tryz.prog [] (zE 8 (zx Tryz.f121)) ⟨[pJ,.ptr 0 0 0,.d (.bool false),js,pK,pL,np,nq,u8,nr,ns,nt,nu,nv,nw,nx,u16,ny,nz,nA,nB,nC,nD,pM,pN,pO,pP,pQ,pR,pS,pT,pU,u32,pV,pW,pX,pY,pZ,p0,p1,p2,p3,p4,p5,p6,p7,p8,p9,p_,p',qa,qb,qc,qd,qe,qf,qg,qh,qi,qj,qk,ql,qm,qn,u64,qo,qp,qq,qs,qt,qu,qv,qw,qx,qy,qz,qA,qB,qC,qD,qE,qF,qG,qH,qI,qJ,qK,qL,qM,qN,qO,qP,qQ,qR,qS,qT,qU,qV,qW,qX,qY,qZ,q0,q1,q2,q3,q4,q5,q6,q7,q8,q9,q_,q',ra,rb,re,rf,rh,ri,rj,rk,rl,rm,rn,rp,rq,rr,ru,rv,ry,rz,rA,rB,rC,rE,rF,rG,rH,rI,rJ,rK,rM,rN,rO,rP,rQ,rR,rS,rT,rU,rW,rX,rY,rZ,r1,r2,r3,r4,r5,r6,r7,r8,r9,r_,r',sa,sb,sc,sd,se,sf,sg,sh,si,sj,sk,sm,sn,sq,sr,ss,su,sv,sw,sx,sy,sA,sB,sC,sD,sE,sF,sG,sH,sI,sJ,sK,sL,sM,sN,sO,sP,sQ,sR,sS,sT,sU,sV,sW,sX,sY,sZ,s0,s3,s4,s5,s6,s7,s8,s9,s_,s',ta,tb,tc,td,tf,tg,th,ti,tj,tk,tl,tm,tn,tp,tq,tr,tt,tu,tv,tw,tx,tz,tA],.box [.d (.int .i64 aO),.d (.int .i64 aS),.d (.int .i64 aT),.d (.int .i64 aP),.d (.sl 1 (aM.map aW)),.d (.sl 2 (aw.map ab.enc)),.d (.sl 2 (au.map ab.enc)),.d (.sl 2 (ay.map ab.enc)),.d (.int .i64 aR),.d (.int .i64 aQ),.d (.int .i64 aN),.d (.int .i64 aU)]::ex⟩ (bx (f_ Tryz.prog [.tmp 2] [.one (.bool (eA (⟨aO,⟨aS,aT,aP,aM⟩,aw,au,ay,aR,aQ,aN,aU⟩:az)))]) .mk) [] (bx (f_ Tryz.prog [.tmp 2] [.one (.bool (eA (⟨aO,⟨aS,aT,aP,aM⟩,aw,au,ay,aR,aQ,aN,aU⟩:az)))]) .mk):=by
 conv=>arg 3;whnf
 simp only[go_sem];refine b5.intro (fun i:Nat=>⟨(.J::.ptr 0 0 0::.d (.bool false)::jn 4 (.d (.int .i64 i)::jn 238 [])),[.box [.d (.int .i64 aO),.d (.int .i64 aS),.d (.int .i64 aT),.d (.int .i64 aP),.d (.sl 1 (aM.map aW)),.d (.sl 2 (aw.map ab.enc)),.d (.sl 2 (au.map ab.enc)),.d (.sl 2 (ay.map ab.enc)),.d (.int .i64 aR),.d (.int .i64 aQ),.d (.int .i64 aN),.d (.int .i64 aU)]]⟩)
  (fun i=>au.length-i) (fun i=>i≤au.length∧below (au.take i) aN=true) 0 [0] ⟨by omega,rfl⟩ ?_ ?_
 ·simp only[go_sem];simp
 ·rintro i ⟨hi,he⟩;by_cases h1:i<au.length
  ·have ar:decide ((i:Int)<(au.length:Int))=true:=bc (by omega);have av:=bZ ab.enc au i h1;have hw:=dv h1 lx;have hs:=WN au aN i h1
   cases cg:decide (aN<au[i].high)with
   |true=>
    try simp only[go_sem,lM,ar]
    repeat'(first|((first|refine ao.intro (by first|apply Bj|apply yk) ?_|with_reducible refine kt ?_|refine eJ ?_|refine ba zI (by kernel_rfl) (by rfl) ?_|refine ba zJ (by kernel_rfl) (by rfl) ?_|refine ba ym (by kernel_rfl) (by rfl) ?_)<;>simp only[go_sem,lM,aF,av,ab.enc,cg])|(with_reducible refine al ?_)|fail)
    have:=WO au aN i h1 (ch cg);simp[eA,dX,this]
   |false=>
    have bX:decide (au[i].high≤aN)=true:=bc (by have:=cD cg;omega)
    try simp only[go_sem,lM,ar]
    repeat'(first|((first|refine ao.intro (by first|apply Bj|apply yk) ?_|with_reducible refine kN ?_|with_reducible refine kt ?_|refine eJ ?_|refine ba zI (by kernel_rfl) (by rfl) ?_|refine ba zJ (by kernel_rfl) (by rfl) ?_|refine ba ym (by kernel_rfl) (by rfl) ?_)<;>simp only[go_sem,lM,aF,av,ab.enc,cg])|(with_reducible refine al ?_)|fail)
    refine bm.intro (i+1) [0] ⟨by omega,by rw[hs,he,bX];rfl⟩ (by omega) ?_;simp only[go_sem,hw];simp
  ·have ar:decide ((i:Int)<(au.length:Int))=false:=a_ (by omega);obtain rfl:i=au.length:=by omega
   rw[dB]at he;have E6:=he;simp only[go_sem,lM,ar];refine b5.intro (fun i:Nat=>⟨(.J::.ptr 0 0 0::.d (.bool false)::jn 5 (.d (.int .i64 i)::jn 237 [])),[.box [.d (.int .i64 aO),.d (.int .i64 aS),.d (.int .i64 aT),.d (.int .i64 aP),.d (.sl 1 (aM.map aW)),.d (.sl 2 (aw.map ab.enc)),.d (.sl 2 (au.map ab.enc)),.d (.sl 2 (ay.map ab.enc)),.d (.int .i64 aR),.d (.int .i64 aQ),.d (.int .i64 aN),.d (.int .i64 aU)]]⟩)
    (fun i=>ay.length-i) (fun i=>i≤ay.length∧below (ay.take i) aN=true) 0 [0] ⟨by omega,rfl⟩ ?_ ?_
   ·simp only[go_sem];simp
   ·rintro i ⟨hi,he⟩;by_cases h1:i<ay.length
    ·have ar:decide ((i:Int)<(ay.length:Int))=true:=bc (by omega);have av:=bZ ab.enc ay i h1;have hw:=dv h1 kX;have hs:=WN ay aN i h1
     cases cg:decide (aN<ay[i].high)with
     |true=>
      try simp only[go_sem,lM,ar]
      repeat'(first|((first|refine ao.intro (by first|apply Bj|apply yk) ?_|refine eJ ?_|refine ba zI (by kernel_rfl) (by rfl) ?_|refine ba zJ (by kernel_rfl) (by rfl) ?_|refine ba ym (by kernel_rfl) (by rfl) ?_)<;>simp only[go_sem,lM,aF,av,ab.enc,cg])|(with_reducible refine al ?_)|fail)
      have:=WO ay aN i h1 (ch cg);simp[eA,dX,this]
     |false=>
      have bX:decide (ay[i].high≤aN)=true:=bc (by have:=cD cg;omega)
      try simp only[go_sem,lM,ar]
      repeat'(first|(refine ba ym (by kernel_rfl) (by rfl) ?_<;>simp only[go_sem,lM,aF,av,ab.enc,cg])|(with_reducible refine al ?_)|fail)
      refine bm.intro (i+1) [0] ⟨by omega,by rw[hs,he,bX];rfl⟩ (by omega) ?_;simp only[go_sem,hw];simp
    ·have ar:decide ((i:Int)<(ay.length:Int))=false:=a_ (by omega);obtain rfl:i=ay.length:=by omega
     rw[dB]at he;have T6:=he
     try simp only[go_sem,lM,ar]
     repeat'(refine bb ?_<;>simp only[go_sem])
     refine bp (fun eR=>?_) (fun eR=>?_)
     ·simp only[go_sem];have:Bm (⟨aO,⟨aS,aT,aP,aM⟩,aw,au,ay,aR,aQ,aN,aU⟩:az)=false:=by simp[Bm]at eR⊢;grind
      simp[eA,dX,this]
     ·have aZ:Bm (⟨aO,⟨aS,aT,aP,aM⟩,aw,au,ay,aR,aQ,aN,aU⟩:az)=true:=by simp[Bm]at eR⊢;grind
      simp only[go_sem]
      try simp only[go_sem,lM]
      repeat'((first|refine ao.intro (by apply Bn) ?_|refine ba WM (by kernel_rfl) (by rfl) ?_)<;>simp only[go_sem])
      all_goals simp[eA,df,dX,xW,E6,T6,aZ]
set_option maxHeartbeats 8000000 in
theorem agw(aO aS aT aP:Int)(aM:List Int)(aw au ay:List ab)(aR aQ aN aU:Int)(_:aw.length+au.length+ay.length≤524288)(lx:au.length≤maxLen)(kX:ay.length≤maxLen)(df:kg (⟨aO,⟨aS,aT,aP,aM⟩,aw,au,ay,aR,aQ,aN,aU⟩:az)=true)(dX:lT (⟨aO,⟨aS,aT,aP,aM⟩,aw,au,ay,aR,aQ,aN,aU⟩:az)=false)(hA:oh (⟨aO,⟨aS,aT,aP,aM⟩,aw,au,ay,aR,aQ,aN,aU⟩:az)=aw){pJ pK pL np nq u8 nr ns nt nu nv nw nx u16 ny nz nA nB nC nD pM pN pO pP pQ pR pS pT pU u32 pV pW pX pY pZ p0 p1 p2 p3 p4 p5 p6 p7 p8 p9 p_ p' qa qb qc qd qe qf qg qh qi qj qk ql qm qn u64 qo qp qq qs qt qu qv qw qx qy qz qA qB qC qD qE qF qG qH qI qJ qK qL qM qN qO qP qQ qR qS qT qU qV qW qX qY qZ q0 q1 q2 q3 q4 q5 q6 q7 q8 q9 q_ q' ra rb re rf rh ri rj rk rl rm rn rp rq rr ru rv ry rz rA rB rC rE rF rG rH rI rJ rK rM rN rO rP rQ rR rS rT rU rW rX rY rZ r1 r2 r3 r4 r5 r6 r7 r8 r9 r_ r' sa sb sc sd se sf sg sh si sj sk sm sn sq sr ss su sv sw sx sy sA sB sC sD sE sF sG sH sI sJ sK sL sM sN sO sP sQ sR sS sT sU sV sW sX sY sZ s0 s3 s4 s5 s6 s7 s8 s9 s_ s' ta tb tc td tf tg th ti tj tk tl tm tn tp tq tr tt tu tv tw tx tz tA:V} :
  codeE Tryz.prog [] (zE 6 (zx Tryz.f121)) ⟨[pJ,.ptr 0 0 0,.d (.bool false),.d (.sl 2 (aw.map ab.enc)),pK,pL,np,nq,u8,nr,ns,nt,nu,nv,nw,nx,u16,ny,nz,nA,nB,nC,nD,pM,pN,pO,pP,pQ,pR,pS,pT,pU,u32,pV,pW,pX,pY,pZ,p0,p1,p2,p3,p4,p5,p6,p7,p8,p9,p_,p',qa,qb,qc,qd,qe,qf,qg,qh,qi,qj,qk,ql,qm,qn,u64,qo,qp,qq,qs,qt,qu,qv,qw,qx,qy,qz,qA,qB,qC,qD,qE,qF,qG,qH,qI,qJ,qK,qL,qM,qN,qO,qP,qQ,qR,qS,qT,qU,qV,qW,qX,qY,qZ,q0,q1,q2,q3,q4,q5,q6,q7,q8,q9,q_,q',ra,rb,re,rf,rh,ri,rj,rk,rl,rm,rn,rp,rq,rr,ru,rv,ry,rz,rA,rB,rC,rE,rF,rG,rH,rI,rJ,rK,rM,rN,rO,rP,rQ,rR,rS,rT,rU,rW,rX,rY,rZ,r1,r2,r3,r4,r5,r6,r7,r8,r9,r_,r',sa,sb,sc,sd,se,sf,sg,sh,si,sj,sk,sm,sn,sq,sr,ss,su,sv,sw,sx,sy,sA,sB,sC,sD,sE,sF,sG,sH,sI,sJ,sK,sL,sM,sN,sO,sP,sQ,sR,sS,sT,sU,sV,sW,sX,sY,sZ,s0,s3,s4,s5,s6,s7,s8,s9,s_,s',ta,tb,tc,td,tf,tg,th,ti,tj,tk,tl,tm,tn,tp,tq,tr,tt,tu,tv,tw,tx,tz,tA],[.box [.d (.int .i64 aO),.d (.int .i64 aS),.d (.int .i64 aT),.d (.int .i64 aP),.d (.sl 1 (aM.map aW)),.d (.sl 2 (aw.map ab.enc)),.d (.sl 2 (au.map ab.enc)),.d (.sl 2 (ay.map ab.enc)),.d (.int .i64 aR),.d (.int .i64 aQ),.d (.int .i64 aN),.d (.int .i64 aU)]]⟩ (bx (f_ Tryz.prog [.tmp 2] [.one (.bool (eA (⟨aO,⟨aS,aT,aP,aM⟩,aw,au,ay,aR,aQ,aN,aU⟩:az)))]) .mk) [] (bx (f_ Tryz.prog [.tmp 2] [.one (.bool (eA (⟨aO,⟨aS,aT,aP,aM⟩,aw,au,ay,aR,aQ,aN,aU⟩:az)))]) .mk):=by
 conv=>arg 3;whnf
 simp only[go_sem];by_cases b_:aw=[]
 ·have Oe:aw.length=0:=by rw[b_];rfl
  have wJ:jj aw=0:=by rw[b_];rfl
  cases ag:decide (jj aw≠aP)with
  |true=>
   have fI:=ch ag
   try simp only[go_sem,lM,ag]
   repeat'(first|((first|refine ao.intro (by first|apply Bj|apply yk) ?_|with_reducible refine kt ?_|refine eJ ?_|refine ba zI (by kernel_rfl) (by rfl) ?_|refine ba zJ (by kernel_rfl) (by rfl) ?_|refine ba ym (by kernel_rfl) (by rfl) ?_)<;>simp only[go_sem,ag])|(with_reducible refine al ?_)|fail)
   all_goals simp[eA,dX,mL,hA,fI]
  |false=>
   have fI:jj aw=aP:=by have:=cD ag;omega
   have aY:decide (0<aP)=false:=a_ (by omega)
   try simp only[go_sem,lM,ag,aY]
   repeat'(first|((first|refine ao.intro (by first|apply Bj|apply yk) ?_|with_reducible refine kN ?_|with_reducible refine kt ?_|refine eJ ?_|refine ba zI (by kernel_rfl) (by rfl) ?_|refine ba zJ (by kernel_rfl) (by rfl) ?_|refine ba ym (by kernel_rfl) (by rfl) ?_)<;>simp only[go_sem,ag,aY])|(with_reducible refine al ?_)|fail)
   refine bp (fun aD=>?_) (fun aD=>?_)
   ·simp only[go_sem];have:mL (⟨aO,⟨aS,aT,aP,aM⟩,aw,au,ay,aR,aQ,aN,aU⟩:az)=false:=by
     simp[mL,hA,zG,ke]at aD aY⊢;grind
    simp[eA,dX,this]
   ·have xW:mL (⟨aO,⟨aS,aT,aP,aM⟩,aw,au,ay,aR,aQ,aN,aU⟩:az)=true:=by
     simp[mL,hA,zG,ke]at aD aY⊢;grind
    exact O7 _ _ _ _ _ _ _ _ _ _ _ _ lx kX df dX xW _
 ·skip
  have hp:0<aw.length:=List.length_pos_iff.2 b_;have gv:=bZ ab.enc aw 0 hp
  try simp only[go_sem,lM,gv,ab.enc,Int.toNat_zero]
  repeat'(first|((first|refine ao.intro (by first|apply Bj|apply yk) ?_|refine eJ ?_|refine ba zI (by kernel_rfl) (by rfl) ?_|refine ba zJ (by kernel_rfl) (by rfl) ?_|refine ba ym (by kernel_rfl) (by rfl) ?_)<;>simp only[go_sem,lM,gv,ab.enc,Int.toNat_zero])|(with_reducible refine al ?_)|fail)
  refine bp (fun aD=>?_) (fun aD=>?_)
  ·simp only[go_sem];have:mL (⟨aO,⟨aS,aT,aP,aM⟩,aw,au,ay,aR,aQ,aN,aU⟩:az)=false:=by
    simp[mL,hA,zG,ke,hp]at aD⊢;grind
   simp[eA,dX,this]
  ·have xW:mL (⟨aO,⟨aS,aT,aP,aM⟩,aw,au,ay,aR,aQ,aN,aU⟩:az)=true:=by
    simp[mL,hA,zG,ke,hp]at aD⊢;grind
   exact O7 _ _ _ _ _ _ _ _ _ _ _ _ lx kX df dX xW _
set_option maxHeartbeats 8000000 in
theorem WC(aO aS aT aP:Int)(aM:List Int)(aw au ay:List ab)(aR aQ aN aU:Int)(_:aw.length+au.length+ay.length≤524288)(lx:au.length≤maxLen)(kX:ay.length≤maxLen)(df:kg (⟨aO,⟨aS,aT,aP,aM⟩,aw,au,ay,aR,aQ,aN,aU⟩:az)=true)(dX:lT (⟨aO,⟨aS,aT,aP,aM⟩,aw,au,ay,aR,aQ,aN,aU⟩:az)=false)(X:List ab)(hA:oh (⟨aO,⟨aS,aT,aP,aM⟩,aw,au,ay,aR,aQ,aN,aU⟩:az)=X)(j7:X.length≤1048576)(b_:X≠[]){pJ pK pL np nq u8 nr ns nt nu nv nw nx u16 ny nz nA nB nC nD pM pN pO pP pQ pR pS pT pU u32 pV pW pX pY pZ p0 p1 p2 p3 p4 p5 p6 p7 p8 p9 p_ p' qa qb qc qd qe qf qg qh qi qj qk ql qm qn u64 qo qp qq qs qt qu qv qw qx qy qz qA qB qC qD qE qF qG qH qI qJ qK qL qM qN qO qP qQ qR qS qT qU qV qW qX qY qZ q0 q1 q2 q3 q4 q5 q6 q7 q8 q9 q_ q' ra rb re rf rh ri rj rk rl rm rn rp rq rr ru rv ry rz rA rB rC rE rF rG rH rI rJ rK rM rN rO rP rQ rR rS rT rU rW rX rY rZ r1 r2 r3 r4 r5 r6 r7 r8 r9 r_ r' sa sb sc sd se sf sg sh si sj sk sm sn sq sr ss su sv sw sx sy sA sB sC sD sE sF sG sH sI sJ sK sL sM sN sO sP sQ sR sS sT sU sV sW sX sY sZ s0 s3 s4 s5 s6 s7 s8 s9 s_ s' ta tb tc td tf tg th ti tj tk tl tm tn tp tq tr tt tu tv tw tx tz tA:V} :
  codeE Tryz.prog [] (zE 6 (zx Tryz.f121)) ⟨[pJ,.ptr 0 0 0,.d (.bool false),.sl 1 0 X.length,pK,pL,np,nq,u8,nr,ns,nt,nu,nv,nw,nx,u16,ny,nz,nA,nB,nC,nD,pM,pN,pO,pP,pQ,pR,pS,pT,pU,u32,pV,pW,pX,pY,pZ,p0,p1,p2,p3,p4,p5,p6,p7,p8,p9,p_,p',qa,qb,qc,qd,qe,qf,qg,qh,qi,qj,qk,ql,qm,qn,u64,qo,qp,qq,qs,qt,qu,qv,qw,qx,qy,qz,qA,qB,qC,qD,qE,qF,qG,qH,qI,qJ,qK,qL,qM,qN,qO,qP,qQ,qR,qS,qT,qU,qV,qW,qX,qY,qZ,q0,q1,q2,q3,q4,q5,q6,q7,q8,q9,q_,q',ra,rb,re,rf,rh,ri,rj,rk,rl,rm,rn,rp,rq,rr,ru,rv,ry,rz,rA,rB,rC,rE,rF,rG,rH,rI,rJ,rK,rM,rN,rO,rP,rQ,rR,rS,rT,rU,rW,rX,rY,rZ,r1,r2,r3,r4,r5,r6,r7,r8,r9,r_,r',sa,sb,sc,sd,se,sf,sg,sh,si,sj,sk,sm,sn,sq,sr,ss,su,sv,sw,sx,sy,sA,sB,sC,sD,sE,sF,sG,sH,sI,sJ,sK,sL,sM,sN,sO,sP,sQ,sR,sS,sT,sU,sV,sW,sX,sY,sZ,s0,s3,s4,s5,s6,s7,s8,s9,s_,s',ta,tb,tc,td,tf,tg,th,ti,tj,tk,tl,tm,tn,tp,tq,tr,tt,tu,tv,tw,tx,tz,tA],[.box [.d (.int .i64 aO),.d (.int .i64 aS),.d (.int .i64 aT),.d (.int .i64 aP),.d (.sl 1 (aM.map aW)),.d (.sl 2 (aw.map ab.enc)),.d (.sl 2 (au.map ab.enc)),.d (.sl 2 (ay.map ab.enc)),.d (.int .i64 aR),.d (.int .i64 aQ),.d (.int .i64 aN),.d (.int .i64 aU)],.ai 2 (X.map ab.enc) true]⟩ (bx (f_ Tryz.prog [.tmp 2] [.one (.bool (eA (⟨aO,⟨aS,aT,aP,aM⟩,aw,au,ay,aR,aQ,aN,aU⟩:az)))]) .mk) [] (bx (f_ Tryz.prog [.tmp 2] [.one (.bool (eA (⟨aO,⟨aS,aT,aP,aM⟩,aw,au,ay,aR,aQ,aN,aU⟩:az)))]) .mk):=by
 conv=>arg 3;whnf
 simp only[go_sem];have hp:0<X.length:=List.length_pos_iff.2 b_;have gv:=bZ ab.enc X 0 hp
 try simp only[go_sem,lM,gv,ab.enc,Int.toNat_zero]
 repeat'(first|((first|refine ao.intro (by first|apply Bj|apply yk) ?_|with_reducible refine kt ?_|refine eJ ?_|refine ba zI (by kernel_rfl) (by rfl) ?_|refine ba zJ (by kernel_rfl) (by rfl) ?_|refine ba ym (by kernel_rfl) (by rfl) ?_)<;>simp only[go_sem,lM,gv,ab.enc,Int.toNat_zero])|(with_reducible refine al ?_)|fail)
 refine bp (fun aD=>?_) (fun aD=>?_)
 ·simp only[go_sem];have:mL (⟨aO,⟨aS,aT,aP,aM⟩,aw,au,ay,aR,aQ,aN,aU⟩:az)=false:=by
   simp[mL,hA,zG,ke,hp]at aD⊢;grind
  simp[eA,dX,this]
 ·have xW:mL (⟨aO,⟨aS,aT,aP,aM⟩,aw,au,ay,aR,aQ,aN,aU⟩:az)=true:=by
   simp[mL,hA,zG,ke,hp]at aD⊢;grind
  exact O7 _ _ _ _ _ _ _ _ _ _ _ _ lx kX df dX xW _
end Gv

namespace Gv
open Go Go.Proofs
def chk:Int→List aB→Bool
 |_,[]=>true
 |b0,c::cs=>(decide (c.data≠[])&&decide (b0≤c.offset)&&decide (c.offset≤4611686018427387903-(c.data.length:Int)))&&chk (c.offset+c.data.length+1) cs
theorem Ds{b0:Int}{c:aB}{cs:List aB}(h:chk b0 (c::cs)=true) :
  c.data≠[]∧b0≤c.offset∧c.offset≤4611686018427387903-(c.data.length:Int)∧chk (c.offset+c.data.length+1) cs=true:=by
 simp only[chk,cX,il]at h;exact⟨h.1.1.1,h.1.1.2,h.1.2,h.2⟩
def iW(b:k3):Bool:=bN b.next 0 4611686018427387903&&chk b.next b.bu
def ou(b:k3):Int:=if iW b=true then(match b.bu.getLast? with|some c=>c.offset+c.data.length|none=>b.next)else b.next
def xj(o:Int)(c:aB):Bool:=decide (0≤o)&&decide (0≤c.offset)&&decide (c.offset≤o)&&decide (o-c.offset<c.data.length)
def byteAt:List aB→Int→Int
 |[],_=>-1
 |c::cs,o=>if xj o c=true then((((c.data[(o-c.offset).toNat]?).getD 0).toNat:Nat):Int)else byteAt cs o
theorem vL:∀(cs:List aB) (b0:Int),chk b0 cs=true→∀c∈cs,b0≤c.offset∧c.offset≤4611686018427387903-(c.data.length:Int)
 |[],_,_,c,hc=>by cases hc
 |d::cs,b0,h,c,hc=>by
  obtain⟨h1,h2,aj,aD⟩:=Ds h;rcases List.mem_cons.1 hc with rfl|hc
  ·exact⟨h2,aj⟩
  ·have:=vL cs _ aD c hc;omega
theorem Bs(o:Int)(c:aB):xj o c=true↔0≤o∧0≤c.offset∧c.offset≤o∧o-c.offset<c.data.length:=by
 simp only[xj,cX,il,and_assoc]
def cellsOf(b:k3):Xu:=⟨(List.range 64).map fun j=>byteAt b.bu (j:Nat),b.next⟩
set_option maxRecDepth 100000
theorem PA(o:Int)(d:List UInt8)(h:0≤o∧o≤4611686018427387903-(d.length:Int)):PureCall Tryz.prog 300 [.agg [.int .i64 o,.str d]] [.one (.int .i64 (o+d.length))]:=by
 refine aL 9 Tryz.func300 Tryz.call300 [.tmp 2] ?_;intro _;have hw:IntKind.i64.wrap (o+d.length)=o+d.length:=by rw[bC]<;>omega
 try simp only[go_sem,hw]
 all_goals simp
def yt(b0:Int)(c:aB):Bool:=decide (c.data≠[])&&decide (b0≤c.offset)&&decide (c.offset≤4611686018427387903-(c.data.length:Int))
theorem PB(b0:Int)(xs:List aB)(i:Nat)(h:i<xs.length):chk b0 (xs.drop i)=(yt b0 xs[i]&&chk (xs[i].offset+xs[i].data.length+1) (xs.drop (i+1))):=by
 rw[List.drop_eq_getElem_cons h];rfl
theorem Xl(xs:List aB)(o:Int)(i:Nat)(h:i<xs.length):byteAt (xs.drop i) o=if xj o xs[i]=true then((((xs[i].data[(o-xs[i].offset).toNat]?).getD 0).toNat:Nat):Int)else byteAt (xs.drop (i+1)) o:=by
 rw[List.drop_eq_getElem_cons h];rfl
theorem Gi{n:Int}{xs:List aB}(h:bN n 0 4611686018427387903=true):iW ⟨n,xs⟩=chk n xs:=by
 show(bN n 0 4611686018427387903&&chk n xs)=_;rw[h];rfl
theorem Kj{n:Int}{xs:List aB}(h:bN n 0 4611686018427387903=false):iW ⟨n,xs⟩=false:=by
 show(bN n 0 4611686018427387903&&chk n xs)=_;rw[h];rfl
theorem Kk(b0:Int)(c:aB):yt b0 c=true↔c.data≠[]∧b0≤c.offset∧c.offset≤4611686018427387903-(c.data.length:Int):=by
 simp only[yt,cX,il,and_assoc]
theorem Xm(d:List UInt8):decide ((d.length:Int)=0)=decide (d=[]):=by cases d<;>simp;omega
theorem xk(n:Int)(xs:List aB)(hb:∀c∈xs,c.data.length≤1048576)(hx:xs.length≤1048576):PureCall Tryz.prog 257 [.agg [.int .i64 n,.sl 2 (xs.map aB.enc)]] [.one (.bool (iW ⟨n,xs⟩))]:=by
 refine aL 42 Tryz.func257 Tryz.call257 [.tmp 2] ?_;intro ok;simp only[go_sem];refine ae.intro (ng n) ?_;simp only[bJ];simp only[go_sem];refine bp (fun h0=>?_) (fun h0=>?_)
 ·have hq:bN n 0 4611686018427387903=false:=by simpa using h0
  simp only[go_sem];rw[Kj hq]
 ·have hq:bN n 0 4611686018427387903=true:=by simpa using h0
  have Dm:0≤n∧n≤4611686018427387903:=by simpa [bN]using hq
  simp only[go_sem,lM];refine b5.intro (fun p:Nat×Int=>⟨(.J::.ptr 0 0 0::.d (.bool false)::.d (.int .i64 p.2)::jn 9 (.d (.sl 2 (xs.map aB.enc))::.d (.int .i64 xs.length)::.d (.int .i64 p.1)::jn 26 [])),[.box [.d (.int .i64 n),.d (.sl 2 (xs.map aB.enc))]]⟩)
   (fun p=>xs.length-p.1) (fun p=>p.1≤xs.length∧0≤p.2∧p.2≤4611686018427387904∧chk p.2 (xs.drop p.1)=chk n xs) (0,n) [0] ⟨by simp,by omega,by omega,rfl⟩ ?_ ?_
  ·simp only[go_sem];simp
  ·rintro⟨i,b0⟩ ⟨hi,yu,Xn,he⟩;simp only at hi yu Xn he;simp only[go_sem];refine bp (fun h1=>?_) (fun h1=>?_)
   ·have ar:=ch h1;have hlt:i<xs.length:=by omega
    have av:=bZ aB.enc xs i hlt;have hw:=dv (i:=i) (m:=xs.length) hlt (by simp only[maxLen];omega);have iX:=hb xs[i] (List.getElem_mem hlt);have nh:IntKind.i64.wrap (4611686018427387903-(xs[i].data.length:Int))=4611686018427387903-(xs[i].data.length:Int):=by rw[bC]<;>omega
    have o3:=PB b0 xs i hlt;by_cases hok:yt b0 xs[i]=true
    ·rw[hok,Bool.true_and]at o3;obtain⟨dw,fs,f3⟩:=(Kk _ _).1 hok;have hne:xs[i].data.length≠0:=by simpa using dw
     have ag:decide ((xs[i].data.length:Int)=0)=false:=a_ (by omega);have e2:decide (xs[i].offset<b0)=false:=a_ (by omega);have aY:decide (4611686018427387903-(xs[i].data.length:Int)<xs[i].offset)=false:=a_ (by omega);have vJ:IntKind.i64.wrap (xs[i].offset+(xs[i].data.length:Int)+1)=xs[i].offset+(xs[i].data.length:Int)+1:=by rw[bC]<;>omega
     have PC:0≤xs[i].offset∧xs[i].offset≤4611686018427387903-(xs[i].data.length:Int):=⟨by omega,by omega⟩
     try simp only[go_sem,lM,aF,av,aB.enc,ag]
     repeat'(first|((first|refine ae.intro (by(apply PA<;>first|assumption|omega)) ?_|with_reducible refine b9 ?_)<;>simp only[go_sem,nh,e2,aY])|(with_reducible refine al ?_)|fail)
     all_goals(refine bm.intro (i+1,xs[i].offset+(xs[i].data.length:Int)+1) [0] ⟨by simp only;omega,by simp only;omega,by simp only;omega,by rw[←he,o3]⟩ (by simp only;omega) ?_;simp only[go_sem,hw,vJ];try simp)
    ·have Xo:yt b0 xs[i]=false:=by simpa using hok
     rw[Xo,Bool.false_and]at o3;have hz:(bif bif decide ((xs[i].data.length:Int)=0)then true else decide (xs[i].offset<b0)then true else decide (4611686018427387903-(xs[i].data.length:Int)<xs[i].offset))=true:=by
      rw[Xm];by_cases g1:xs[i].data=[]
      ·simp[g1]
      ·by_cases cx:xs[i].offset<b0
       ·simp[g1,cx]
       ·by_cases g3:4611686018427387903-(xs[i].data.length:Int)<xs[i].offset
        ·simp[g3]
        ·exact absurd ((Kk _ _).2 ⟨g1,by omega,by omega⟩) hok
     try simp only[go_sem,lM,aF,av,aB.enc]
     repeat'(first|(refine bb ?_<;>simp only[go_sem,nh,hz])|(with_reducible refine al ?_)|fail)
     all_goals(rw[Gi hq,←he,o3])
   ·have ar:=cD h1;have gD:i=xs.length:=by omega
    subst gD;simp only[go_sem];rw[Gi hq,←he,List.drop_length];rfl
theorem ot(n:Int)(xs:List aB)(hb:∀c∈xs,c.data.length≤1048576)(hx:xs.length≤1048576):PureCall Tryz.prog 296 [.agg [.int .i64 n,.sl 2 (xs.map aB.enc)]] [.one (.bool (iW ⟨n,xs⟩))]:=by
 refine aL 48 Tryz.func296 Tryz.call296 [.tmp 2] ?_;intro ok;simp only[go_sem];have Br:bN n 0 4611686018427387903=true→0≤n∧n≤4611686018427387903:=fun h=>by simpa [bN]using h
 have Xp:bN n 0 4611686018427387903=true→-1≤IntKind.i64.wrap (n-1)∧IntKind.i64.wrap (n-1)≤4611686018427387903∧chk (IntKind.i64.wrap (n-1)+1) (xs.drop 0)=chk n xs:=by
  intro hq;have:=Br hq;have yv:IntKind.i64.wrap (n-1)=n-1:=by rw[bC]<;>omega
  rw[yv];exact⟨by omega,by omega,by rw[show n-1+1=n from by omega,List.drop_zero]⟩
 refine b5.intro (fun p:Nat×Int=>⟨(.J::.ptr 0 0 0::.d (.bool false)::.d (.int .i64 p.2)::.d (.int .i64 p.1)::jn 43 []),[.box [.d (.int .i64 n),.d (.sl 2 (xs.map aB.enc))]]⟩)
   (fun p=>xs.length-p.1) (fun p=>p.1≤xs.length∧(bN n 0 4611686018427387903=true→-1≤p.2∧p.2≤4611686018427387903∧chk (p.2+1) (xs.drop p.1)=chk n xs)) (0,IntKind.i64.wrap (n-1)) [0] ⟨by simp,Xp⟩ ?_ ?_
 ·simp only[go_sem];simp
 ·rintro⟨i,e⟩ ⟨hi,hq⟩;simp only at hi hq;simp only[go_sem,lM];refine bp (fun h1=>?_) (fun h1=>?_)
  ·have ar:=ch h1;have hlt:i<xs.length:=by omega
   have av:=bZ aB.enc xs i hlt;have hw:=dv (i:=i) (m:=xs.length) hlt (by simp only[maxLen];omega);have iX:=hb xs[i] (List.getElem_mem hlt);have nh:IntKind.i64.wrap (4611686018427387903-(xs[i].data.length:Int))=4611686018427387903-(xs[i].data.length:Int):=by rw[bC]<;>omega
   have o3:=PB (e+1) xs i hlt;have hz:(bif bif decide (xs[i].offset≤e)then true else decide (xs[i].data=[])then true else decide (4611686018427387903-(xs[i].data.length:Int)<xs[i].offset))=!yt (e+1) xs[i]:=by
    have j5:decide (e+1≤xs[i].offset)=!decide (xs[i].offset≤e):=by by_cases g:xs[i].offset≤e<;>simp[g]<;>omega
    have Kl:decide (xs[i].data≠[])=!decide (xs[i].data=[]):=by simp
    have Xq:decide (xs[i].offset≤4611686018427387903-(xs[i].data.length:Int))=!decide (4611686018427387903-(xs[i].data.length:Int)<xs[i].offset):=by by_cases g:4611686018427387903-(xs[i].data.length:Int)<xs[i].offset<;>simp[g]<;>omega
    unfold yt;rw[j5,Kl,Xq]
    cases decide (xs[i].offset≤e)<;>cases decide (xs[i].data=[])<;>cases decide (4611686018427387903-(xs[i].data.length:Int)<xs[i].offset)<;>rfl
   cases hok:yt (e+1) xs[i]with
   |true=>
    rw[hok]at hz o3;simp only[Bool.true_and,Bool.not_true]at hz o3;obtain⟨dw,fs,f3⟩:=(Kk _ _).1 hok
    try simp only[go_sem,lM,aF,av,aB.enc]
    repeat'(first|(refine bb ?_<;>simp only[go_sem,nh,hz])|(with_reducible refine al ?_)|fail)
    all_goals(refine bm.intro (i+1,IntKind.i64.wrap (xs[i].offset+(xs[i].data.length:Int))) [0] ⟨by simp only;omega,fun vK=>?_⟩ (by simp only;omega) ?_)
    all_goals first
     |(simp only[go_sem,hw];done)
     |(simp only[go_sem,hw];simp;done)
     |(obtain⟨Gj,zS,he⟩:=hq vK;have ml:IntKind.i64.wrap (xs[i].offset+(xs[i].data.length:Int))=xs[i].offset+(xs[i].data.length:Int):=(by rw[bC]<;>omega);simp only[ml];exact⟨by omega,by omega,by rw[←he,o3]⟩)
   |false=>
    rw[hok]at hz o3;simp only[Bool.false_and,Bool.not_false]at hz o3
    try simp only[go_sem,lM,aF,av,aB.enc]
    repeat'(first|(refine bb ?_<;>simp only[go_sem,nh,hz])|(with_reducible refine al ?_)|fail)
    all_goals(cases vK:bN n 0 4611686018427387903 with|false=>rw[Kj vK]|true=>rw[Gi vK,←(hq vK).2.2,o3])
  ·have ar:=cD h1;have gD:i=xs.length:=by omega
   subst gD;simp only[go_sem];refine ae.intro (hJ n) ?_;simp only[bJ];simp only[go_sem]
   cases vK:bN n 0 4611686018427387903 with
   |false=>rw[Kj vK]
   |true=>rw[Gi vK,←(hq vK).2.2,List.drop_length];rfl
theorem PD(n:Int)(xs:List aB)(hb:∀c∈xs,c.data.length≤1048576)(hx:xs.length≤1048576):PureCall Tryz.prog 258 [.agg [.int .i64 n,.sl 2 (xs.map aB.enc)]] [.one (.int .i64 (ou ⟨n,xs⟩))]:=by
 refine aL 23 Tryz.func258 Tryz.call258 [.tmp 2] ?_;intro ok
 cases hI:iW ⟨n,xs⟩with
 |false=>
  have o4:∀b:Bool,(bif b then true else true)=true:=fun b=>by cases b<;>rfl
  try simp only[go_sem]
  repeat'((first|refine ae.intro (by(apply xk<;>first|assumption|omega)) ?_|with_reducible refine de ?_)<;>simp only[go_sem,hI])
  all_goals simp[ou,hI]
 |true=>
  cases lA:xs with
  |nil=>
   rw[←lA];have ag:decide ((xs.length:Int)=0)=true:=by rw[lA];rfl
   have lU:xs.getLast?=none:=by rw[lA];rfl
   try simp only[go_sem]
   repeat'((first|refine ae.intro (by(apply xk<;>first|assumption|omega)) ?_|with_reducible refine b9 ?_)<;>simp only[go_sem,lM,hI,ag])
   all_goals simp[ou,hI,lU]
  |cons Xr Xs=>
   rw[←lA];have hlen:0<xs.length:=by rw[lA];simp
   obtain⟨m,hm⟩:∃m,xs.length=m+1:=⟨xs.length-1,by omega⟩;have hlt:m<xs.length:=by omega
   have av:=bZ aB.enc xs m hlt;have hl:xs.getLast?=some xs[m]:=by rw[List.getLast?_eq_getElem?,hm,Nat.add_sub_cancel,dg]
   have ag:decide ((xs.length:Int)=0)=false:=a_ (by omega);have hw:IntKind.i64.wrap ((xs.length:Int)-1)=(m:Int):=by rw[bC]<;>omega
   have hq:=hI;have Gk:0≤n∧chk n xs=true:=by
    simp only[iW,cX,bN,il]at hq;exact⟨hq.1.1,hq.2⟩
   have hc:=vL xs n Gk.2 xs[m] (List.getElem_mem hlt);have PC:0≤xs[m].offset∧xs[m].offset≤4611686018427387903-(xs[m].data.length:Int):=⟨by omega,hc.2⟩;have vJ:IntKind.i64.wrap (xs[m].offset+(xs[m].data.length:Int))=xs[m].offset+(xs[m].data.length:Int):=by rw[bC]<;>omega
   try simp only[go_sem]
   repeat'(first|((first|refine ae.intro (by first|(apply xk<;>first|assumption|omega)|(apply PA<;>first|assumption|omega)) ?_|with_reducible refine b9 ?_)<;>simp only[go_sem,lM,aF,av,aB.enc,hI,ag,hw])|(with_reducible refine al ?_)|fail)
   all_goals simp[ou,hI,hl]
theorem PE(n:Int)(xs:List aB)(hb:∀c∈xs,c.data.length≤1048576)(hx:xs.length≤1048576):PureCall Tryz.prog 297 [.agg [.int .i64 n,.sl 2 (xs.map aB.enc)]] [.one (.int .i64 (ou ⟨n,xs⟩))]:=by
 refine aL 29 Tryz.func297 Tryz.call297 [.tmp 2] ?_;intro ok
 cases hI:iW ⟨n,xs⟩with
 |false=>
  have o4:∀b:Bool,(bif b then true else true)=true:=fun b=>by cases b<;>rfl
  try simp only[go_sem,lM]
  repeat'((first|refine ao.intro (by(apply ot<;>first|assumption|omega)) ?_|refine bb ?_)<;>simp only[go_sem,hI,o4])
  all_goals simp[ou,hI]
 |true=>
  cases lA:xs with
  |nil=>
   rw[←lA];have ag:decide ((xs.length:Int)=0)=true:=by rw[lA];rfl
   have lU:xs.getLast?=none:=by rw[lA];rfl
   try simp only[go_sem,lM,ag]
   repeat'(first|(with_reducible refine de ?_<;>simp only[go_sem]))
   all_goals simp[ou,hI,lU]
  |cons Xr Xs=>
   rw[←lA];have hlen:0<xs.length:=by rw[lA];simp
   obtain⟨m,hm⟩:∃m,xs.length=m+1:=⟨xs.length-1,by omega⟩;have hlt:m<xs.length:=by omega
   have av:=bZ aB.enc xs m hlt;have hl:xs.getLast?=some xs[m]:=by rw[List.getLast?_eq_getElem?,hm,Nat.add_sub_cancel,dg]
   have ag:decide ((xs.length:Int)=0)=false:=a_ (by omega);have hw:IntKind.i64.wrap ((xs.length:Int)-1)=(m:Int):=by rw[bC]<;>omega
   have hq:=hI;have Gk:0≤n∧chk n xs=true:=by
    simp only[iW,cX,bN,il]at hq;exact⟨hq.1.1,hq.2⟩
   have hc:=vL xs n Gk.2 xs[m] (List.getElem_mem hlt);have PC:0≤xs[m].offset∧xs[m].offset≤4611686018427387903-(xs[m].data.length:Int):=⟨by omega,hc.2⟩;have vJ:IntKind.i64.wrap (xs[m].offset+(xs[m].data.length:Int))=xs[m].offset+(xs[m].data.length:Int):=by rw[bC]<;>omega
   try simp only[go_sem,lM,ag]
   repeat'(first|((first|refine ae.intro (by(apply ot<;>first|assumption|omega)) ?_|with_reducible refine b9 ?_)<;>simp only[go_sem,lM,aF,av,aB.enc,hI,hw,vJ])|(with_reducible refine al ?_)|fail)
   all_goals simp[ou,hI,hl]
theorem PF(n:Int)(xs:List aB)(o:Int)(hb:∀c∈xs,c.data.length≤1048576)(hx:xs.length≤1048576):PureCall Tryz.prog 340 [.agg [.int .i64 n,.sl 2 (xs.map aB.enc)],.one (.int .i64 o)] [.one (.int .i64 (byteAt xs o))]:=by
 refine aL 57 Tryz.func340 Tryz.call340 [.tmp 4] ?_;intro ok;have ax:=Dn ok.2.1;simp only[go_sem];refine b5.intro (fun i:Nat=>⟨(.J::.d (.int .i64 o)::.ptr 0 0 0::.J::.d (.int .i64 0)::.d (.int .i64 i)::jn 51 []),[.box [.d (.int .i64 n),.d (.sl 2 (xs.map aB.enc))]]⟩)
   (fun i=>xs.length-i) (fun i=>i≤xs.length∧byteAt (xs.drop i) o=byteAt xs o) 0 [0] ⟨by omega,rfl⟩ ?_ ?_
 ·simp only[go_sem];simp
 ·rintro i ⟨hi,he⟩;simp only[go_sem,lM];refine bp (fun h1=>?_) (fun h1=>?_)
  ·have ar:=ch h1;have hlt:i<xs.length:=by omega
   have av:=bZ aB.enc xs i hlt;have hw:=dv (i:=i) (m:=xs.length) hlt (by simp only[maxLen];omega);have iX:=hb xs[i] (List.getElem_mem hlt);have Dp:=Xl xs o i hlt;by_cases hh:xj o xs[i]=true
   ·rw[if_pos hh]at Dp;obtain⟨dw,fs,f3,f4⟩:=(Bs _ _).1 hh;obtain⟨k,hk⟩:=Int.eq_ofNat_of_zero_le (show 0≤o-xs[i].offset by omega);have xl:IntKind.i64.wrap (o-xs[i].offset)=(k:Int):=by rw[bC]<;>omega
    have tF:k<xs[i].data.length:=by omega
    have Dq:xs[i].data[k]?=some xs[i].data[k]:=dg tF;have Bt:IntKind.i64.wrap ((xs[i].data[k].toNat:Nat):Int)=((xs[i].data[k].toNat:Nat):Int):=by have:=xs[i].data[k].toNat_lt;rw[bC]<;>omega
    have ag:decide (0≤o)=true:=bc dw;have e2:decide (0≤xs[i].offset)=true:=bc fs;have aY:decide ((0:Int)≤(k:Int))=true:=bc (by omega);have bk:decide ((k:Int)<(xs[i].data.length:Int))=true:=bc (by omega);rw[hk,aF,Dq,Option.getD_some]at Dp
    try simp only[go_sem,lM,aF,av,aB.enc,xl,ag,Option.getD_some]
    repeat'(first|(with_reducible refine b9 ?_<;>simp only[go_sem,lM,aF,av,aB.enc,e2,aY,bk,Dq,Bt,Option.getD_some])|(with_reducible refine al ?_)|fail)
    all_goals(rw[←he,Dp])
   ·rw[if_neg hh]at Dp;have hz:(bif bif bif decide (0≤o)then decide (0≤xs[i].offset)else false then decide (0≤IntKind.i64.wrap (o-xs[i].offset))else false then decide (IntKind.i64.wrap (o-xs[i].offset)<(xs[i].data.length:Int))else false)=false:=by
     by_cases g1:0≤o
     ·by_cases cx:0≤xs[i].offset
      ·have ag6:=Dn (n:=o-xs[i].offset) (by
        have h1:IntKind.i64.min=-9223372036854775808:=by decide
        have h2:IntKind.i64.max=9223372036854775807:=by decide
        have aj:=Km ok.1.2.1.2 _ (List.mem_map.2 ⟨xs[i],List.getElem_mem hlt,rfl⟩);have aD:=Dn aj.1;simp only[dOk,h1,h2];omega)
       have xl:IntKind.i64.wrap (o-xs[i].offset)=o-xs[i].offset:=by rw[bC]<;>omega
       rw[xl];by_cases g3:0≤o-xs[i].offset
       ·have g4:¬o-xs[i].offset<(xs[i].data.length:Int):=fun g4=>hh ((Bs _ _).2 ⟨g1,cx,by omega,g4⟩);simp[g4]
       ·simp[show ¬xs[i].offset≤o from by omega]
      ·simp[cx]
     ·simp[g1]
    try simp only[go_sem,lM,aF,av,aB.enc]
    repeat'(first|(refine bb ?_<;>simp only[go_sem,lM,aF,av,aB.enc,hz])|(with_reducible refine al ?_)|fail)
    all_goals(refine bm.intro (i+1) [0] ⟨by omega,by rw[←he,Dp]⟩ (by omega) ?_;simp only[go_sem,hw];try simp)
  ·have ar:=cD h1;have gD:i=xs.length:=by omega
   subst gD;simp only[go_sem];rw[←he,List.drop_length];rfl
set_option maxRecDepth 100000
def xm:List (List bt):=ct 19 [1162261466,1162261464,1162261458,1162261440,1162261386,1162261224,1162260738,1162259280,1162254906,1162241784,1104806790,1104688692,1104334398,1103271516,1100082870,1155057489,1126359675,1033121304,774840978]
attribute [go_sem] xm
def Gl(n:Int):List aB→Nat
 |[]=>0
 |c::_=>if c.offset=n then c.data.length else 0
def jJ(n:Int)(xs:List aB):Nat:=if iW ⟨n,xs⟩=true then Gl n xs else 0
def k0(xs:List aB):List ab:=xs.map fun c=>⟨c.offset,c.offset+c.data.length⟩
def Bu(n:Int)(xs:List aB):List ab:=if iW ⟨n,xs⟩=true then k0 xs else []
theorem Xt(n:Int)(xs:List aB)(hb:∀c∈xs,c.data.length≤1048576)(hx:xs.length≤1048576):PureCall Tryz.prog 301 [.agg [.int .i64 n,.sl 2 (xs.map aB.enc)]] [.one (.int .i64 (jJ n xs))]:=by
 refine aL 28 Tryz.func301 Tryz.call301 [.tmp 2] ?_;intro ok
 cases hI:iW ⟨n,xs⟩with
 |false=>
  try simp only[go_sem]
  repeat'((first|refine ao.intro (by(apply xk<;>first|assumption|omega)) ?_|with_reducible refine kt ?_|refine ba xm (by kernel_rfl) (by rfl) ?_)<;>simp only[go_sem,hI])
  all_goals simp[jJ,hI]
 |true=>
  by_cases hl:xs.length=0
  ·have ag:decide ((xs.length:Int)=0)=true:=bc (by omega)
   try simp only[go_sem]
   repeat'((first|refine ao.intro (by(apply xk<;>first|assumption|omega)) ?_|with_reducible refine kN ?_|with_reducible refine kt ?_|refine ba xm (by kernel_rfl) (by rfl) ?_)<;>simp only[go_sem,lM,hI,ag])
   all_goals simp[jJ,Gl,List.length_eq_zero_iff.1 hl]
  ·have hlt:0<xs.length:=by omega
   have ag:decide ((xs.length:Int)=0)=false:=a_ (by omega);have av:=bZ aB.enc xs 0 hlt;have hr:jJ n xs=if xs[0].offset=n then xs[0].data.length else 0:=by
    unfold jJ;rw[if_pos hI]
    cases xs with
    |nil=>exact absurd rfl hl
    |cons c cs=>rfl
   by_cases hc:xs[0].offset=n
   ·have e2:decide (xs[0].offset≠n)=false:=a_ (by simpa using hc)
    try simp only[go_sem]
    repeat'(first|((first|refine ao.intro (by(apply xk<;>first|assumption|omega)) ?_|with_reducible refine kN ?_|refine ba xm (by kernel_rfl) (by rfl) ?_)<;>simp only[go_sem,lM,hI,av,aB.enc,ag,e2,Int.toNat_zero])|(with_reducible refine al ?_)|fail)
    all_goals simp[hr,hc]
   ·have e2:decide (xs[0].offset≠n)=true:=bc hc
    try simp only[go_sem]
    repeat'(first|((first|refine ao.intro (by(apply xk<;>first|assumption|omega)) ?_|with_reducible refine kN ?_|refine ba xm (by kernel_rfl) (by rfl) ?_)<;>simp only[go_sem,lM,hI,av,aB.enc,ag,e2,Int.toNat_zero])|(with_reducible refine al ?_)|fail)
    all_goals simp[hr,hc]
theorem Dr(n:Int)(xs:List aB)(hb:∀c∈xs,c.data.length≤1048576)(hx:xs.length≤1048576):PureCall Tryz.prog 298 [.agg [.int .i64 n,.sl 2 (xs.map aB.enc)]] [.one (.int .i64 (jJ n xs))]:=by
 refine aL 28 Tryz.func298 Tryz.call298 [.tmp 2] ?_;intro ok
 cases hI:iW ⟨n,xs⟩with
 |false=>
  try simp only[go_sem]
  repeat'((first|refine ao.intro (by(apply ot<;>first|assumption|omega)) ?_|with_reducible refine kt ?_|refine ba xm (by kernel_rfl) (by rfl) ?_)<;>simp only[go_sem,hI])
  all_goals simp[jJ,hI]
 |true=>
  by_cases hl:xs.length=0
  ·have ag:decide ((xs.length:Int)=0)=true:=bc (by omega)
   try simp only[go_sem]
   repeat'((first|refine ao.intro (by(apply ot<;>first|assumption|omega)) ?_|with_reducible refine kN ?_|with_reducible refine kt ?_|refine ba xm (by kernel_rfl) (by rfl) ?_)<;>simp only[go_sem,lM,hI,ag])
   all_goals simp[jJ,Gl,List.length_eq_zero_iff.1 hl]
  ·have hlt:0<xs.length:=by omega
   have ag:decide ((xs.length:Int)=0)=false:=a_ (by omega);have av:=bZ aB.enc xs 0 hlt;have hr:jJ n xs=if xs[0].offset=n then xs[0].data.length else 0:=by
    unfold jJ;rw[if_pos hI]
    cases xs with
    |nil=>exact absurd rfl hl
    |cons c cs=>rfl
   by_cases hc:xs[0].offset=n
   ·have e2:decide (xs[0].offset≠n)=false:=a_ (by simpa using hc)
    try simp only[go_sem]
    repeat'(first|((first|refine ao.intro (by(apply ot<;>first|assumption|omega)) ?_|with_reducible refine kN ?_|refine ba xm (by kernel_rfl) (by rfl) ?_)<;>simp only[go_sem,lM,hI,av,aB.enc,ag,e2,Int.toNat_zero])|(with_reducible refine al ?_)|fail)
    all_goals simp[hr,hc]
   ·have e2:decide (xs[0].offset≠n)=true:=bc hc
    try simp only[go_sem]
    repeat'(first|((first|refine ao.intro (by(apply ot<;>first|assumption|omega)) ?_|with_reducible refine kN ?_|refine ba xm (by kernel_rfl) (by rfl) ?_)<;>simp only[go_sem,lM,hI,av,aB.enc,ag,e2,Int.toNat_zero])|(with_reducible refine al ?_)|fail)
    all_goals simp[hr,hc]
set_option maxRecDepth 100000
def PM:List (List bt):=ct 10 [55772,55770,57991,57973,58765,58927,58360,56866,52488,39366]
def PN:List (List bt):=ct 6 [698,700,693,634,675,486]
attribute [go_sem] PM PN
def lV(n:Int)(xs:List aB)(most:Int):Nat:=min (jJ n xs) most.toNat
def Gn(xs:List aB):List UInt8:=(xs.getD 0 ⟨0,[]⟩).data
def zU(n:Int)(xs:List aB)(most:Int):List UInt8:=(Gn xs).take (lV n xs most)
def tH(n:Int)(xs:List aB)(most:Int):List aB:=
 if lV n xs most=0 then xs else if lV n xs most=(Gn xs).length then xs.drop 1 else⟨n+lV n xs most,(Gn xs).drop (lV n xs most)⟩::xs.drop 1
theorem Kq{n:Int}{xs:List aB}(h:jJ n xs≠0):iW ⟨n,xs⟩=true∧∃hl:0<xs.length,xs[0].offset=n∧jJ n xs=xs[0].data.length∧Gn xs=xs[0].data:=by
 unfold jJ at h⊢;by_cases hI:iW ⟨n,xs⟩=true
 ·rw[if_pos hI]at h⊢
  cases xs with
  |nil=>exact absurd rfl h
  |cons c cs=>
   simp only[Gl]at h⊢;by_cases hc:c.offset=n
   ·rw[if_pos hc];exact⟨hI,by simp,hc,rfl,rfl⟩
   ·rw[if_neg hc]at h;exact absurd rfl h
 ·rw[if_neg hI]at h;exact absurd rfl h
theorem Ks{n:Int}{xs:List aB}(h:iW ⟨n,xs⟩=true):0≤n∧n≤4611686018427387903∧chk n xs=true:=by
 simp only[iW,cX,bN,il]at h;exact⟨h.1.1,h.1.2,h.2⟩
theorem XB{α β:Type}(f:α→β)(xs:List α)(y:β)(h:0<xs.length):(xs.map f).set 0 y=y::(xs.drop 1).map f:=by
 cases xs with
 |nil=>simp at h
 |cons x xs=>rfl
theorem XC(n:Int)(xs:List aB)(most:Int)(hb:∀c∈xs,c.data.length≤1048576)(hx:xs.length≤1048576):PureCall Tryz.prog 267 [.agg [.int .i64 n,.sl 2 (xs.map aB.enc)],.one (.int .i64 most)] [.one (.str (zU n xs most)),.agg [.int .i64 (n+lV n xs most),.sl 2 ((tH n xs most).map aB.enc)]]:=by
 refine aL 53 Tryz.func267 Tryz.call267 [.tmp 4,.cell 5 61] ?_;intro ok;have Du:xs.length≤1048577:=by omega
 cases hk:lV n xs most with
 |zero=>
  have hm:(if(if most<0 then 0 else most)<(jJ n xs:Int)then(if most<0 then 0 else most)else(jJ n xs:Int))=0:=by
   unfold lV at hk;split<;>split<;>omega
  try simp only[go_sem]
  repeat'(first|((first|refine ae.intro (by first|(apply Dr<;>first|assumption|omega)|(apply yy<;>first|assumption|omega)) ?_|refine ba [[.post,.cA,.post],[.cA,.post,.post],[.pre,.pre,.post]] (by kernel_rfl) (by rfl) ?_)<;>simp only[go_sem,lM,hm])|(with_reducible refine al ?_)|fail)
  all_goals simp[zU,tH,hk]
 |succ k=>
  have hr:jJ n xs≠0:=by unfold lV at hk;omega
  obtain⟨hI,hlt,ax,nj,Dt⟩:=Kq hr;obtain⟨Br,o5,hc⟩:=Ks hI;have hm:(if(if most<0 then 0 else most)<(jJ n xs:Int)then(if most<0 then 0 else most)else(jJ n xs:Int))=((k+1:Nat):Int):=by
   unfold lV at hk;split<;>split<;>omega
  have Dv:decide (((k+1:Nat):Int)=0)=false:=a_ (by omega);have av:=bZ aB.enc xs 0 hlt;have iX:=hb xs[0] (List.getElem_mem hlt);have tF:k+1≤xs[0].data.length:=by unfold lV at hk;omega
  have zT:=vL xs n hc xs[0] (List.getElem_mem hlt);have hw:IntKind.i64.wrap (n+((k+1:Nat):Int))=n+((k+1:Nat):Int):=by rw[bC]<;>omega
  have vN:xs[0].data.take (k+1)=zU n xs most:=by unfold zU;rw[Dt,hk]
  by_cases hq:k+1=xs[0].data.length
  ·have ag:decide (((k+1:Nat):Int)=(xs[0].data.length:Int))=true:=bc (by omega);have b_:tH n xs most=xs.drop 1:=by unfold tH;rw[hk,Dt,if_neg (by omega),if_pos hq]
   try simp only[go_sem]
   repeat'(first|(refine ae.intro (by first|(apply Dr<;>first|assumption|omega)|(apply yy<;>first|assumption|omega)) ?_<;>simp only[go_sem,lM,hm,Dv,av,aB.enc,Int.toNat_zero,hw,ag])|(with_reducible refine al ?_)|fail)
   have hle:1+(xs.length-1)≤xs.length:=by omega
   have ht:List.take (xs.length-1) (List.drop 1 (List.map aB.enc xs))=(xs.drop 1).map aB.enc:=by
    rw[List.take_of_length_le (by simp),List.map_drop]
   rw[if_pos hle,ht];refine ae.intro (yy (n+((k+1:Nat):Int)) (xs.drop 1) (by simp;omega)) ?_
   try simp only[go_sem,lM]
   repeat'(first|(with_reducible refine al ?_)|fail)
   all_goals(
    have kO:zU n xs most=xs[0].data:=by rw[←vN,hq];exact dB
    rw[kO,b_])
  ·have ag:decide (((k+1:Nat):Int)=(xs[0].data.length:Int))=false:=a_ (by omega);have b_:tH n xs most=⟨n+((k+1:Nat):Int),xs[0].data.drop (k+1)⟩::xs.drop 1:=by unfold tH;rw[hk,Dt,if_neg (by omega),if_neg hq]
   try simp only[go_sem]
   repeat'(first|((first|refine ae.intro (by first|(apply Dr<;>first|assumption|omega)|(apply yy<;>first|assumption|omega)) ?_|refine ba PM (by kernel_rfl) (by rfl) ?_|refine ba PN (by kernel_rfl) (by rfl) ?_)<;>simp only[go_sem,lM,hm,Dv,av,aB.enc,Int.toNat_zero,aF,hw,ag])|(with_reducible refine al ?_)|fail)
   all_goals(
    have XD:List.take (xs[0].data.length-(k+1)) (List.drop (k+1) xs[0].data)=List.drop (k+1) xs[0].data:=List.take_of_length_le (by simp);rw[XD,XB aB.enc xs _ hlt];have lU:xs.length=(([D.int .i64 (n+((k+1:Nat):Int)),D.str (List.drop (k+1) xs[0].data)]:List D)::(xs.drop 1).map aB.enc).length:=by simp;omega
    rw[if_pos (Nat.le_of_eq lU),List.take_of_length_le (Nat.le_of_eq lU.symm),Nat.sub_zero,vN,b_];simp[outOA,aB.enc])
set_option maxRecDepth 100000
def PJ:List (List bt):=ct 25 [800217020030,842058433906,842058433900,842058433921,842058433855,842058433693,842058433207,845545993627,845545989253,845546004562,845545956448,845545838350,845545484056,847273463374,847270274728,847281434989,847246359883,847160266441,846901986115,846127145137,843801826135,836828256241,815907549835,753145430616,564859072962]
def Kr:List (List bt):=ct 9 [16439,16441,16434,16416,19399,19561,18994,17536,13122]
attribute [go_sem] PJ Kr
theorem Xx(xs:List aB)(i:Nat)(h:i<xs.length):k0 (xs.take (i+1))=k0 (xs.take i)++[⟨xs[i].offset,xs[i].offset+xs[i].data.length⟩]:=by
 unfold k0;rw[List.take_add_one,dg h,Option.toList_some,List.map_append];rfl
theorem Gm(xs:List aB):(k0 xs).length=xs.length:=by simp[k0]
theorem Xy(n:Int)(xs:List aB)(hb:∀c∈xs,c.data.length≤1048576)(hx:xs.length≤1048576):PureCall Tryz.prog 339 [.agg [.int .i64 n,.sl 2 (xs.map aB.enc)]] [.one (.sl 2 ((Bu n xs).map ab.enc))]:=by
 refine aL 42 Tryz.func339 Tryz.call339 [.tmp 2] ?_;intro ok
 cases hI:iW ⟨n,xs⟩with
 |false=>
  try simp only[go_sem]
  refine b5.intro (fun _:Unit=>⟨(.J::.ptr 0 0 0::.c7 2::.sl 1 0 0::.d (.int .i64 0)::jn 37 []),[.box [.d (.int .i64 n),.d (.sl 2 (xs.map aB.enc))],.ai 2 [] true]⟩)
   (fun _=>0) (fun _=>True) () [0,1] trivial ?_ ?_
  ·simp only[go_sem];simp
  ·rintro _ _;have PK:∀b:Bool,(bif b then false else false)=false:=fun b=>by cases b<;>rfl
   try simp only[go_sem,lM]
   repeat'(first|((first|refine ao.intro (by(apply ot<;>first|assumption|omega)) ?_|refine bb ?_)<;>simp only[go_sem,hI,PK])|(with_reducible refine al ?_)|fail)
   all_goals simp[Bu,hI]
 |true=>
  obtain⟨Br,o5,yx⟩:=Ks hI;have aI:Bu n xs=k0 xs:=by unfold Bu;rw[if_pos hI]
  try simp only[go_sem]
  refine b5.intro (fun i:Nat=>⟨(.J::.ptr 0 0 0::.c7 2::.sl 1 0 (k0 (xs.take i)).length::.d (.int .i64 i)::jn 37 []),[.box [.d (.int .i64 n),.d (.sl 2 (xs.map aB.enc))],.ai 2 ((k0 (xs.take i)).map ab.enc) true]⟩)
   (fun i=>xs.length-i) (fun i=>i≤xs.length) 0 [0,1] (by omega) ?_ ?_
  ·simp only[go_sem];simp[k0]
  ·intro i hi;have nj:(k0 (xs.take i)).length≤1048576:=by rw[Gm,List.length_take];omega
   by_cases hlt:i<xs.length
   ·have av:=bZ aB.enc xs i hlt;have hw:=dv (i:=i) (m:=xs.length) hlt (by simp only[maxLen];omega);have zT:=vL _ _ yx xs[i] (List.getElem_mem hlt);have iX:=hb xs[i] (List.getElem_mem hlt);have vJ:IntKind.i64.wrap (xs[i].offset+(xs[i].data.length:Int))=xs[i].offset+(xs[i].data.length:Int):=by rw[bC]<;>omega
    have hs:=Xx xs i hlt;have ag:decide ((i:Int)<(xs.length:Int))=true:=bc (by omega)
    try simp only[go_sem,lM,ag]
    repeat'(first|((first|refine ae.intro (by(apply ot<;>first|assumption|omega)) ?_|with_reducible refine b9 ?_|refine ba PJ (by kernel_rfl) (by rfl) ?_)<;>simp only[go_sem,lM,aF,av,aB.enc,hw,vJ,hI])|(with_reducible refine al ?_)|fail)
    all_goals(refine bm.intro (i+1) [0,3] (by omega) (by omega) ?_;simp only[go_sem,hs];simp[ab.enc])
   ·have ag:decide ((i:Int)<(xs.length:Int))=false:=a_ (by omega);have gD:i=xs.length:=by omega
    try simp only[go_sem,lM,ag]
    repeat'(first|(with_reducible refine de ?_<;>simp only[go_sem,lM])|(with_reducible refine al ?_)|fail)
    all_goals(rw[gD,dB,aI];try simp[outOA,List.take_of_length_le])
theorem Xz(xs ys:List ab):PureCall Tryz.prog 126 [.one (.sl 2 (xs.map ab.enc)),.one (.sl 2 (ys.map ab.enc))] [.one (.bool (decide (xs=ys)))]:=by
 refine aL 26 Tryz.func126 Tryz.call126 [.tmp 4] ?_;intro ok;have hm:=fj ok;by_cases hl:xs.length=ys.length
 ·have dE:decide ((xs.length:Int)≠(ys.length:Int))=false:=a_ (by omega)
  try simp only[go_sem,lM,dE]
  refine b5.intro (fun i:Nat=>⟨(.d (.sl 2 (xs.map ab.enc))::.d (.sl 2 (ys.map ab.enc))::.J::.J::.d (.bool false)::.d (.int .i64 i)::jn 20 []),[]⟩)
   (fun i=>xs.length-i) (fun i=>i≤xs.length∧xs.take i=ys.take i) 0 [] ⟨by omega,by simp⟩ ?_ ?_
  ·simp only[go_sem];simp
  ·rintro i ⟨hi,he⟩;simp only[go_sem,lM];refine bp (fun h1=>?_) (fun h1=>?_)
   ·have ar:=ch h1;have hlt:i<xs.length:=by omega
    have PL:i<ys.length:=by omega
    have av:=bZ ab.enc xs i hlt;have vM:=bZ ab.enc ys i PL;have hw:=dv hlt hm;by_cases hq:xs[i]=ys[i]
    ·have cw:xs.take (i+1)=ys.take (i+1):=by
      rw[List.take_add_one,List.take_add_one,he,dg hlt,dg PL,hq]
     try simp only[go_sem]
     repeat'(first|(refine ba Kr (by kernel_rfl) (by rfl) ?_<;>simp only[go_sem,lM,aF,av,vM,hq,ab.enc,hw])|(with_reducible refine al ?_)|fail)
     all_goals(refine bm.intro (i+1) [] ⟨by omega,cw⟩ (by omega) ?_;simp only[go_sem])
    ·have XA:xs≠ys:=fun h=>hq (by simp only[h]);have hne:(!(decide (xs[i].low=ys[i].low)&&decide (xs[i].high=ys[i].high)))=true:=by
      have:¬(xs[i].low=ys[i].low∧xs[i].high=ys[i].high):=fun h=>hq (by
       have ag:=h.1;have e2:=h.2;generalize xs[i]=a at ag e2;generalize ys[i]=b at ag e2
       cases a;cases b;simp only at ag e2;rw[ag,e2])
      rw[←Bool.decide_and,a_ this];rfl
     try simp only[go_sem]
     repeat'(first|(refine ba Kr (by kernel_rfl) (by rfl) ?_<;>simp only[go_sem,lM,aF,av,vM,ab.enc,hne])|(with_reducible refine al ?_)|fail)
     all_goals simp[XA]
   ·have ar:=cD h1;have gD:i=xs.length:=by omega
    rw[List.take_of_length_le (by omega),List.take_of_length_le (by omega)]at he;simp only[go_sem];simp[he]
 ·have dE:decide ((xs.length:Int)≠(ys.length:Int))=true:=bc (by omega);have hne:xs≠ys:=fun h=>hl (by rw[h])
  try simp only[go_sem,lM,dE]
  all_goals simp[hne]
end Gv

namespace Gv
open Go Go.Proofs
def oQ(off:Int)(data:List UInt8)(o:Int):Int:=(((data[(o-off).toNat]?).getD 0).toNat:Nat)
set_option maxRecDepth 100000
def NC:List (List bt):=ct 13 [1564802,1564800,1592104,1592122,1592059,1591897,1591411,1593229,1587766,1574644,1535274,1417176,1062882]
attribute [go_sem] NC
def ov(n off:Int):Int:=if n>off then n else off
def nX(xs:List aB)(off:Int)(data:List UInt8)(o:Int):Int:=if byteAt xs o<0 then oQ off data o else byteAt xs o
def ni(xs:List aB)(off:Int)(data:List UInt8)(b0:Int)(k:Nat):List UInt8:=(List.range k).map fun j=>ux (nX xs off data (b0+(j:Nat)))
def uy(xs:List aB)(off:Int)(data:List UInt8)(r:ab):aB:=⟨r.low,ni xs off data r.low (r.high-r.low).toNat⟩
def wU(n:Int)(xs:List aB)(off:Int)(data:List UInt8):List ab:=fh (k0 xs) ⟨ov n off,off+data.length⟩
def Bv(n:Int)(xs:List aB)(off:Int)(data:List UInt8):Bool:=iW ⟨n,xs⟩&&decide (data≠[])&&decide (ov n off<off+data.length)
def mP(n:Int)(xs:List aB)(off:Int)(data:List UInt8):List aB:=
 if Bv n xs off data=true then(wU n xs off data).map (uy xs off data)else xs
theorem Um(xs:List aB)(off:Int)(data:List UInt8)(b0:Int)(k:Nat):ni xs off data b0 (k+1)=ni xs off data b0 k++[ux (nX xs off data (b0+(k:Nat)))]:=by
 simp[ni,List.range_succ]
theorem Ko(xs:List aB)(off:Int)(data:List UInt8)(b0:Int)(k:Nat):(ni xs off data b0 k).length=k:=by simp[ni]
def Un(rs:List ab)(q y:ab):Prop:=∀a,y.low≤a→a<y.high→(∃x∈rs,x.low≤a∧a<x.high)∨(q.low≤a∧a<q.high)
def yw(E:Int)(y:ab):Prop:=0≤y.low∧y.low≤E∧y.high≤E
theorem Uo(Q:ab→Prop)(rs:List ab)(q:ab)(hq:Q q)(hx:∀x∈rs,Q x)(hm:∀a b:ab,Q a→Q b→¬b.high<a.low→¬a.high<b.low→Q ⟨cG a.low b.low,dL a.high b.high⟩) :
  ∀i,(∀y∈(fK rs q i).1,Q y)∧Q (fK rs q i).2.2
 |0=>⟨(fun y hy=>by cases hy),hq⟩
 |i+1=>by
  obtain⟨h1,h2⟩:=Uo Q rs q hq hx hm i;rw[fK];split
  ·rename_i x he;have ND:=hx x (List.mem_of_getElem? he);unfold kI;split
   ·refine⟨fun y hy=>?_,h2⟩;rcases List.mem_append.1 hy with hy|hy
    ·exact h1 y hy
    ·rw[List.mem_singleton.1 hy];exact ND
   ·rename_i g1;split
    ·refine⟨fun y hy=>?_,h2⟩;rcases List.mem_append.1 hy with hy|hy
     ·split at hy
      ·exact h1 y hy
      ·rcases List.mem_append.1 hy with hy|hy
       ·exact h1 y hy
       ·rw[List.mem_singleton.1 hy];exact h2
     ·rw[List.mem_singleton.1 hy];exact ND
    ·rename_i cx;exact⟨h1,hm _ _ h2 ND g1 cx⟩
  ·exact⟨h1,h2⟩
theorem NF(Q:ab→Prop)(rs:List ab)(q:ab)(hq:Q q)(hx:∀x∈rs,Q x)(hm:∀a b:ab,Q a→Q b→¬b.high<a.low→¬a.high<b.low→Q ⟨cG a.low b.low,dL a.high b.high⟩):∀y∈fh rs q,Q y:=by
 obtain⟨h1,h2⟩:=Uo Q rs q hq hx hm rs.length;unfold fh;split
 ·split
  ·exact h1
  ·intro y hy;rcases List.mem_append.1 hy with hy|hy
   ·exact h1 y hy
   ·rw[List.mem_singleton.1 hy];exact h2
 ·exact hx
theorem adI(rs:List ab)(q:ab):∀y∈fh rs q,Un rs q y:=by
 refine NF _ rs q (fun a h1 h2=>.inr ⟨h1,h2⟩) (fun x hx a h1 h2=>.inl ⟨x,hx,h1,h2⟩) fun a b ha hb g1 cx c h1 h2=>?_;simp only[cG,dL]at h1 h2;by_cases k:a.low≤c∧c<a.high
 ·exact ha c k.1 k.2
 ·refine hb c ?_ ?_<;>(split at h1<;>split at h2<;>omega)
theorem Kn(E:Int)(rs:List ab)(q:ab)(hq:yw E q)(hx:∀x∈rs,yw E x):∀y∈fh rs q,yw E y:=by
 refine NF _ rs q hq hx fun a b ha hb g1 cx=>?_;simp only[yw,cG,dL]at *;refine⟨?_,?_,?_⟩<;>split<;>omega
theorem NG(o:Int):∀(cs:List aB),(∀c∈cs,0≤c.offset)→∀x∈k0 cs,x.low≤o→o<x.high→0≤byteAt cs o
 |[],_,x,hx,_,_=>by cases hx
 |c::cs,h0,x,hx,h1,h2=>by
  rw[byteAt];by_cases g:xj o c=true
  ·rw[if_pos g];omega
  ·rw[if_neg g];rcases List.mem_cons.1 hx with rfl|hx
   ·exact absurd ((Bs _ _).2 ⟨by have:=h0 c (by simp);simp only at h1;omega,h0 c (by simp),h1,by simp only at h2;omega⟩) g
   ·exact NG o cs (fun d hd=>h0 d (by simp[hd])) x hx h1 h2
theorem Up(o:Int):∀(cs:List aB),byteAt cs o<256
 |[]=>by simp[byteAt]
 |c::cs=>by
  rw[byteAt];split
  ·have:=((c.data[(o-c.offset).toNat]?).getD 0).toNat_lt;omega
  ·exact Up o cs
theorem Iv(xs:List aB)(off:Int)(data:List UInt8)(o:Int):0≤nX xs off data o∧nX xs off data o≤255:=by
 unfold nX;have:=Up o xs;split
 ·unfold oQ;have:=((data[(o-off).toNat]?).getD 0).toNat_lt;omega
 ·omega
set_option maxHeartbeats 4000000 in
theorem adJ(n:Int)(xs:List aB)(off:Int)(data:List UInt8)(hb:∀c∈xs,c.data.length≤1048576)(hx:xs.length≤1048575)(ah:∀c∈xs,c.offset≤1000∧c.offset+(c.data.length:Int)≤1000)(hd:data.length≤8)(ax:0≤off)(fW:off+(data.length:Int)≤1000):PureCall Tryz.prog 325 [.agg [.int .i64 n,.sl 2 (xs.map aB.enc)],.one (.int .i64 off),.one (.str data)] [.agg [.int .i64 n,.sl 2 ((mP n xs off data).map aB.enc)]]:=by
 refine aL 105 Tryz.func325 Tryz.call325 [.cell 6 61] ?_;intro ok;have Du:xs.length≤1048576:=by omega
 have y2:xs.length≤1048577:=by omega
 have e2:decide (off<0)=false:=a_ (by omega);have hw:IntKind.i64.wrap (4611686018427387903-(data.length:Int))=4611686018427387903-(data.length:Int):=by rw[bC]<;>omega
 have aY:decide (4611686018427387903-(data.length:Int)<off)=false:=a_ (by omega);have ml:IntKind.i64.wrap (off+(data.length:Int))=off+(data.length:Int):=by rw[bC]<;>omega
 cases hI:iW ⟨n,xs⟩with
 |false=>
  have b_:mP n xs off data=xs:=by unfold mP Bv;rw[hI];rfl
  try simp only[go_sem]
  repeat'(first|((first|refine ae.intro (by first|(apply ot<;>first|assumption|omega)|(apply yy<;>first|assumption|omega)) ?_|with_reducible refine de ?_)<;>simp only[go_sem,lM,hI])|(with_reducible refine al ?_)|fail)
  all_goals(rw[b_];try simp)
 |true=>
 obtain⟨Br,o5,yx⟩:=Ks hI;by_cases AI:data=[]
 ·have ag:decide (data=[])=true:=bc AI;have b_:mP n xs off data=xs:=by unfold mP Bv;simp[AI]
  try simp only[go_sem]
  repeat'(first|((first|refine ae.intro (by first|(apply ot<;>first|assumption|omega)|(apply yy<;>first|assumption|omega)) ?_|with_reducible refine b9 ?_|with_reducible refine de ?_)<;>simp only[go_sem,lM,hI,ag])|(with_reducible refine al ?_)|fail)
  all_goals(rw[b_];try simp)
 ·have ag:decide (data=[])=false:=a_ AI;obtain⟨low,hL⟩:∃low,(if n>off then n else off)=low:=⟨_,rfl⟩;have yu:off≤low∧0≤low:=by rw[←hL];split<;>omega
  by_cases hle:off+(data.length:Int)≤low
  ·have bk:decide (off+(data.length:Int)≤low)=true:=bc hle;have b_:mP n xs off data=xs:=by unfold mP Bv ov;rw[hL,a_ (show ¬low<off+(data.length:Int)by omega)];simp
   try simp only[go_sem]
   repeat'(first|((first|refine ae.intro (by first|(apply ot<;>first|assumption|omega)|(apply yy<;>first|assumption|omega)) ?_|with_reducible refine b9 ?_)<;>simp only[go_sem,lM,hI,ag,e2,hw,aY,ml,hL,bk])|(with_reducible refine al ?_)|fail)
   all_goals(rw[b_];try simp)
  ·have bk:decide (off+(data.length:Int)≤low)=false:=a_ hle;have b_:mP n xs off data=(wU n xs off data).map (uy xs off data):=by
    unfold mP Bv ov;rw[hL,hI,bc AI,bc (show low<off+(data.length:Int)by omega)];rfl
   have Nu:(wU n xs off data).length≤1048576:=by
    have:=Kp (k0 xs) ⟨ov n off,off+data.length⟩;rw[Gm]at this;unfold wU;omega
   have NH:∀y∈wU n xs off data,Un (k0 xs) ⟨low,off+data.length⟩ y:=by
    unfold wU ov;rw[hL];exact adI _ _
   have NI:∀y∈wU n xs off data,yw 1000 y:=by
    refine Kn 1000 _ _ ⟨by unfold ov;rw[hL];exact yu.2,by unfold ov;rw[hL];show low≤1000;omega,fW⟩ fun x hx=>?_;obtain⟨c,hc,rfl⟩:=List.mem_map.1 hx;have:=vL _ _ yx c hc;have:=ah c hc;exact⟨by show 0≤c.offset;omega,this.1,this.2⟩
   have Uq:fh (k0 xs) ⟨low,off+(data.length:Int)⟩=wU n xs off data:=by unfold wU ov;rw[hL]
   have Ur:Bu n xs=k0 xs:=by unfold Bu;rw[if_pos hI]
   have nj:(k0 xs).length≤1048576:=by rw[Gm];omega
   try simp only[go_sem]
   repeat'((first|refine ae.intro (by first|(apply ot<;>first|assumption|omega)|(apply Xy<;>first|assumption|omega)|(apply uz<;>first|assumption|omega)) ?_|with_reducible refine b9 ?_)<;>simp only[go_sem,lM,hI,ag,e2,hw,aY,ml,hL,bk,Ur,Uq])
   generalize wU n xs off data=R at b_ Nu NH NI;refine b5.intro (fun i:Nat=>match i with
     |0=>⟨(.agg [.d (.int .i64 n),.d (.sl 2 (xs.map aB.enc))]::.d (.int .i64 off)::.d (.str data)::.ptr 0 0 0::.J::.J::.ptr 1 0 0::.d (.int .i64 low)::.d (.int .i64 (off+(data.length:Int)))::.ptr 2 0 0::.sl 3 0 R.length::.d (.int .i64 0)::jn 93 []),[.box [.d (.int .i64 n),.d (.sl 2 (xs.map aB.enc))],.box [.d (.int .i64 0),.c7 2],.box [.d (.int .i64 n),.c7 2],.ai 2 (R.map ab.enc) true]⟩
     |i+1=>⟨(.agg [.d (.int .i64 n),.d (.sl 2 (xs.map aB.enc))]::.d (.int .i64 off)::.d (.str data)::.ptr 0 0 0::.J::.J::.ptr 1 0 0::.d (.int .i64 low)::.d (.int .i64 (off+(data.length:Int)))::.ptr 2 0 0::.sl 3 0 R.length::.d (.int .i64 ((i+1:Nat):Int))::jn 93 []),[.box [.d (.int .i64 n),.d (.sl 2 (xs.map aB.enc))],.box [.d (.int .i64 0),.c7 2],.box [.d (.int .i64 n),.sl 4 0 (i+1)],.ai 2 (R.map ab.enc) true,.ai 2 (((R.take (i+1)).map (uy xs off data)).map aB.enc) true]⟩)
    (fun i=>R.length-i) (fun i=>i≤R.length) 0 [0,1,2,4] (by omega) ?_ ?_
   ·simp only[go_sem];simp
   ·intro i hi
    cases i with
    |zero=>
     simp only[go_sem];refine bp (fun h1=>?_) (fun h1=>?_)
     ·have ar:=ch h1;have hlt:0<R.length:=by omega
      have ya:=bZ ab.enc R 0 hlt;have NJ:=NI R[0] (List.getElem_mem hlt);have NK:=NH R[0] (List.getElem_mem hlt);have wV:=dv (i:=0) (m:=R.length) hlt (by simp only[maxLen];omega);obtain⟨vz,NL⟩:∃vz,(R[0].high-R[0].low).toNat=vz:=⟨_,rfl⟩;have hin:=NJ;simp only[yw]at hin;simp only[go_sem,lM,Int.toNat_zero,ya,ab.enc]
      repeat(with_reducible refine And.intro (by omega) ?_)
      try simp only[go_sem]
      refine b5.intro (fun k:Nat=>⟨(.agg [.d (.int .i64 n),.d (.sl 2 (xs.map aB.enc))]::.d (.int .i64 off)::.d (.str data)::.ptr 0 0 0::.J::.J::.ptr 1 0 0::.d (.int .i64 low)::.d (.int .i64 (off+(data.length:Int)))::.ptr 2 0 0::.sl 3 0 R.length::.d (.int .i64 0)::.d (.str (ni xs off data R[0].low k))::.d (.int .i64 (R[0].low+(k:Nat)))::jn 91 []),[.box [.d (.int .i64 n),.d (.sl 2 (xs.map aB.enc))],.box [.d (.int .i64 0),.c7 2],.box [.d (.int .i64 n),.c7 2],.ai 2 (R.map ab.enc) true]⟩)
       (fun k=>vz-k) (fun k=>k≤vz) 0 [0,1,2,3] (by omega) ?_ ?_
      ·simp only[go_sem];simp[ni]
      ·intro k hk;simp only[go_sem,lM,Int.toNat_zero,ya,ab.enc]
       repeat(with_reducible refine And.intro (by omega) ?_)
       try simp only[go_sem]
       have o4:=Ko xs off data R[0].low k;refine bp (fun aj=>?_) (fun aj=>?_)
       ·have CB:=ch aj;have Fb:=Um xs off data R[0].low k;have nh:IntKind.i64.wrap (R[0].low+(k:Int)+1)=R[0].low+((k+1:Nat):Int):=by rw[bC]<;>omega
        simp only[go_sem];refine ae.intro (PF n xs (R[0].low+(k:Int)) hb Du) ?_;simp only[go_sem];refine bp (fun aD=>?_) (fun aD=>?_)
        ·have jA:=ch aD;have Iw:low≤R[0].low+(k:Int)∧R[0].low+(k:Int)<off+(data.length:Int):=by
          rcases NK (R[0].low+(k:Int)) (by omega) (by omega)with ⟨x,G1,g1,cx⟩|g
          ·have:=NG (R[0].low+(k:Int)) xs (fun c hc=>by have:=vL _ _ yx c hc;omega) x G1 g1 cx;omega
          ·exact g
         have D3:IntKind.i64.wrap (R[0].low+(k:Int)-off)=(((R[0].low+(k:Int)-off).toNat:Nat):Int):=by rw[bC]<;>omega
         have xX:(R[0].low+(k:Int)-off).toNat<data.length:=by omega
         have Fc:data[(R[0].low+(k:Int)-off).toNat]?=some data[(R[0].low+(k:Int)-off).toNat]:=dg xX;have hv:((data[(R[0].low+(k:Int)-off).toNat].toNat:Nat):Int)=nX xs off data (R[0].low+(k:Int)):=by unfold nX oQ;rw[if_pos jA,Fc];rfl
         have Bt:IntKind.i64.wrap ((data[(R[0].low+(k:Int)-off).toNat].toNat:Nat):Int)=nX xs off data (R[0].low+(k:Int)):=by
          have:=data[(R[0].low+(k:Int)-off).toNat].toNat_lt;rw[←hv,bC]<;>omega
         try simp only[go_sem,D3,Fc,Bt,aF,Option.getD_some]
         repeat'(first|(with_reducible refine al ?_)|fail)
         refine ae.intro (Fe _ (Iv xs off data _)) ?_
         try simp only[go_sem,nh,o4]
         repeat'(first|(with_reducible refine al ?_)|fail)
         all_goals(
          try(with_reducible refine And.intro (by simp only[maxLen];omega) ?_)
          refine bm.intro (k+1) [0,1,2,3] (by omega) (by omega) ?_;simp only[go_sem,Fb]
          try simp)
        ·have jA:=cD aD;have hv:byteAt xs (R[0].low+(k:Int))=nX xs off data (R[0].low+(k:Int)):=by unfold nX;rw[if_neg jA]
         simp only[go_sem,hv];refine ae.intro (Fe _ (Iv xs off data _)) ?_
         try simp only[go_sem,nh,o4]
         repeat'(first|(with_reducible refine al ?_)|fail)
         all_goals(
          try(with_reducible refine And.intro (by simp only[maxLen];omega) ?_)
          refine bm.intro (k+1) [0,1,2,3] (by omega) (by omega) ?_;simp only[go_sem,Fb]
          try simp)
       ·have CB:=cD aj;have CN:k=vz:=by omega
        have EV:uy xs off data R[0]=⟨R[0].low,ni xs off data R[0].low k⟩:=by unfold uy;rw[NL,CN]
        have cw:((R.take (0+1)).map (uy xs off data)).map aB.enc=((R.take 0).map (uy xs off data)).map aB.enc++[[.int .i64 R[0].low,.str (ni xs off data R[0].low k)]]:=by
         rw[List.take_add_one,dg hlt,Option.toList_some,List.map_append,List.map_append,List.map_singleton,List.map_singleton,EV];rfl
        try simp only[go_sem]
        repeat'(first|(refine ba NC (by kernel_rfl) (by rfl) ?_<;>simp only[go_sem,lM,Int.toNat_zero,ya,ab.enc])|(with_reducible refine al ?_)|fail)
        all_goals(
         refine bm.intro (0+1) [0,1,2,3,5] (by omega) (by omega) ?_;simp only[go_sem,cw];simp
         try first|decide|omega)
     ·have ar:=cD h1
      try simp only[go_sem]
      all_goals(have Ix:R=[]:=List.length_eq_zero_iff.1 (by omega);rw[b_,Ix];try simp)
    |succ i=>
     simp only[go_sem];refine bp (fun h1=>?_) (fun h1=>?_)
     ·have ar:=ch h1;have hlt:i+1<R.length:=by omega
      have ya:=bZ ab.enc R (i+1) hlt;have NJ:=NI R[i+1] (List.getElem_mem hlt);have NK:=NH R[i+1] (List.getElem_mem hlt);have wV:=dv (i:=(i+1)) (m:=R.length) hlt (by simp only[maxLen];omega);obtain⟨vz,NL⟩:∃vz,(R[i+1].high-R[i+1].low).toNat=vz:=⟨_,rfl⟩;have hin:=NJ;simp only[yw]at hin;simp only[go_sem,lM,aF,ya,ab.enc]
      repeat(with_reducible refine And.intro (by omega) ?_)
      try simp only[go_sem]
      refine b5.intro (fun k:Nat=>⟨(.agg [.d (.int .i64 n),.d (.sl 2 (xs.map aB.enc))]::.d (.int .i64 off)::.d (.str data)::.ptr 0 0 0::.J::.J::.ptr 1 0 0::.d (.int .i64 low)::.d (.int .i64 (off+(data.length:Int)))::.ptr 2 0 0::.sl 3 0 R.length::.d (.int .i64 ((i+1:Nat):Int))::.d (.str (ni xs off data R[i+1].low k))::.d (.int .i64 (R[i+1].low+(k:Nat)))::jn 91 []),[.box [.d (.int .i64 n),.d (.sl 2 (xs.map aB.enc))],.box [.d (.int .i64 0),.c7 2],.box [.d (.int .i64 n),.sl 4 0 (i+1)],.ai 2 (R.map ab.enc) true,.ai 2 (((R.take (i+1)).map (uy xs off data)).map aB.enc) true]⟩)
       (fun k=>vz-k) (fun k=>k≤vz) 0 [0,1,2,3,4] (by omega) ?_ ?_
      ·simp only[go_sem];simp[ni]
      ·intro k hk;simp only[go_sem,lM,aF,ya,ab.enc]
       repeat(with_reducible refine And.intro (by omega) ?_)
       try simp only[go_sem]
       have o4:=Ko xs off data R[i+1].low k;refine bp (fun aj=>?_) (fun aj=>?_)
       ·have CB:=ch aj;have Fb:=Um xs off data R[i+1].low k;have nh:IntKind.i64.wrap (R[i+1].low+(k:Int)+1)=R[i+1].low+((k+1:Nat):Int):=by rw[bC]<;>omega
        simp only[go_sem];refine ae.intro (PF n xs (R[i+1].low+(k:Int)) hb Du) ?_;simp only[go_sem];refine bp (fun aD=>?_) (fun aD=>?_)
        ·have jA:=ch aD;have Iw:low≤R[i+1].low+(k:Int)∧R[i+1].low+(k:Int)<off+(data.length:Int):=by
          rcases NK (R[i+1].low+(k:Int)) (by omega) (by omega)with ⟨x,G1,g1,cx⟩|g
          ·have:=NG (R[i+1].low+(k:Int)) xs (fun c hc=>by have:=vL _ _ yx c hc;omega) x G1 g1 cx;omega
          ·exact g
         have D3:IntKind.i64.wrap (R[i+1].low+(k:Int)-off)=(((R[i+1].low+(k:Int)-off).toNat:Nat):Int):=by rw[bC]<;>omega
         have xX:(R[i+1].low+(k:Int)-off).toNat<data.length:=by omega
         have Fc:data[(R[i+1].low+(k:Int)-off).toNat]?=some data[(R[i+1].low+(k:Int)-off).toNat]:=dg xX;have hv:((data[(R[i+1].low+(k:Int)-off).toNat].toNat:Nat):Int)=nX xs off data (R[i+1].low+(k:Int)):=by unfold nX oQ;rw[if_pos jA,Fc];rfl
         have Bt:IntKind.i64.wrap ((data[(R[i+1].low+(k:Int)-off).toNat].toNat:Nat):Int)=nX xs off data (R[i+1].low+(k:Int)):=by
          have:=data[(R[i+1].low+(k:Int)-off).toNat].toNat_lt;rw[←hv,bC]<;>omega
         try simp only[go_sem,D3,Fc,Bt,aF,Option.getD_some]
         repeat'(first|(with_reducible refine al ?_)|fail)
         refine ae.intro (Fe _ (Iv xs off data _)) ?_
         try simp only[go_sem,nh,o4]
         repeat'(first|(with_reducible refine al ?_)|fail)
         all_goals(
          try(with_reducible refine And.intro (by simp only[maxLen];omega) ?_)
          refine bm.intro (k+1) [0,1,2,3,4] (by omega) (by omega) ?_;simp only[go_sem,Fb]
          try simp)
        ·have jA:=cD aD;have hv:byteAt xs (R[i+1].low+(k:Int))=nX xs off data (R[i+1].low+(k:Int)):=by unfold nX;rw[if_neg jA]
         simp only[go_sem,hv];refine ae.intro (Fe _ (Iv xs off data _)) ?_
         try simp only[go_sem,nh,o4]
         repeat'(first|(with_reducible refine al ?_)|fail)
         all_goals(
          try(with_reducible refine And.intro (by simp only[maxLen];omega) ?_)
          refine bm.intro (k+1) [0,1,2,3,4] (by omega) (by omega) ?_;simp only[go_sem,Fb]
          try simp)
       ·have CB:=cD aj;have CN:k=vz:=by omega
        have EV:uy xs off data R[i+1]=⟨R[i+1].low,ni xs off data R[i+1].low k⟩:=by unfold uy;rw[NL,CN]
        have cw:((R.take ((i+1)+1)).map (uy xs off data)).map aB.enc=((R.take (i+1)).map (uy xs off data)).map aB.enc++[[.int .i64 R[i+1].low,.str (ni xs off data R[i+1].low k)]]:=by
         rw[List.take_add_one,dg hlt,Option.toList_some,List.map_append,List.map_append,List.map_singleton,List.map_singleton,EV];rfl
        try simp only[go_sem,lM,wV]
        repeat'(first|(refine ba NC (by kernel_rfl) (by rfl) ?_<;>simp only[go_sem,lM,aF,ya,ab.enc,wV])|(with_reducible refine al ?_)|fail)
        all_goals(
         refine bm.intro (i+1+1) [0,1,2,3,6] (by omega) (by omega) ?_;simp only[go_sem,cw];simp
         try first|decide|omega)
     ·have ar:=cD h1
      try simp only[go_sem]
      all_goals(have Ix:R.length=i+1:=(by omega);rw[List.take_of_length_le (Nat.le_of_eq Ix),b_];try simp[outOA,Ix,List.take_of_length_le])
set_option maxRecDepth 100000
def OX:List (List bt):=ct 54 [58149737003040059690380331,58149737003040059690380329,58149737003040059690380363,58149737003040059690380345,58149737003040059690380651,58149737003040059690380489,58149737003040059690389804,58149737003040059690388346,58149737003040059690383972,58149737003040059690370486,58149737003040059690331120,58149737003040059628034425,58149737003040059627680131,58149737003040059626617249,58149737003040059687910111,58149737003040059678344173,58149737003040059649646359,58149737003040059561250006,58149737003040059302969680,58149737003040058528128702,58149737003039930679367332,58149737003039923705798530,58149737003040042256468164,58149737003039979494348946,58149737003039777260853688,58149737003039212401780726,58149737003037517824561840,58149737003032434092905182,58149737002193618369556612,58149737002147864784646690,58149737002925675728115364,58149737002513893463926066,58149737001187039501538328,58149736997480999123834646,58149736986362877990723600,58149736953008514591390462,58149736852945424393391048,58149736552756153799392806,58149735652188342017398080,58149732950484906671413902,58149724845374600633461368,58149372273076287982526139,58149299327083533640953333,58149554638058173836458154,58148752232137876079157288,58146782690333508856691526,58140874064920407189294240,57165950871758632068742050,57112773243040717062166476,58016792931245272173951234,57538194272784037114771068,55996043039964501924079422,51688655113813386391457928,38766491335360039793593446]
attribute [go_sem] OX
def F5(s:az):Int:=
 if s.bd=3∧s.ring.base=s.ring.b' then 3
 else if(s.bd=2∨s.bd=3)∨(s.bd=1∧s.state=2)then 2
 else if 0<s.sent∨(s.bd=1∧s.state=1)then 1 else 0
theorem WE(aO aS aT aP:Int)(aM:List Int)(aw au ay:List ab)(aR aQ aN aU:Int):PureCall Tryz.prog 220 [.agg [.int .i64 aO,.int .i64 aS,.int .i64 aT,.int .i64 aP,.sl 1 (aM.map aW),.sl 2 (aw.map ab.enc),.sl 2 (au.map ab.enc),.sl 2 (ay.map ab.enc),.int .i64 aR,.int .i64 aQ,.int .i64 aN,.int .i64 aU]] [.one (.int .i64 (F5 (⟨aO,⟨aS,aT,aP,aM⟩,aw,au,ay,aR,aQ,aN,aU⟩:az)))]:=by
 refine aL 49 Tryz.func220 Tryz.call220 [.tmp 2] ?_;intro _
 try simp only[go_sem]
 repeat'((first|refine bb ?_|refine bp (fun h=>?_) (fun h=>?_))<;>simp only[go_sem])
 all_goals(simp at *;simp only[F5];repeat' split)
 all_goals first|rfl|(exfalso;grind)
def vF(xs:List ab)(p:Int):Bool:=match xs.getLast? with|some r=>decide (p<r.high)|none=>false
theorem OY(xs:List ab)(p:Int):PureCall Tryz.prog 219 [.one (.sl 2 (xs.map ab.enc)),.one (.int .i64 p)] [.one (.bool (vF xs p))]:=by
 refine aL 19 Tryz.func219 Tryz.call219 [.tmp 4] ?_;intro ok;have hm:=fj ok;by_cases h:xs.length=0
 ·have ag:decide ((0:Int)<(xs.length:Int))=false:=a_ (by omega)
  try simp only[go_sem,lM,ag]
  repeat'(first|(with_reducible refine de ?_<;>simp only[go_sem]))
  all_goals simp[vF,List.length_eq_zero_iff.1 h]
 ·have ag:decide ((0:Int)<(xs.length:Int))=true:=bc (by omega);have hl:xs.length-1<xs.length:=by omega
  have av:=bZ ab.enc xs (xs.length-1) hl;have eI:IntKind.i64.wrap ((xs.length:Int)-1)=((xs.length-1:Nat):Int):=by simp only[maxLen]at hm;rw[bC]<;>omega
  have OZ:xs.getLast?=some xs[xs.length-1]:=by rw[List.getLast?_eq_getElem?,dg hl]
  try simp only[go_sem,lM,ag]
  repeat'(first|(with_reducible refine b9 ?_<;>simp only[go_sem,lM,eI,av,ab.enc,aF])|(with_reducible refine al ?_)|fail)
  all_goals simp[vF,OZ]
def Bl(a b c:List ab)(e:Int):Bool:=
 decide (IntKind.i64.wrap (IntKind.i64.wrap (jj a+jj b)+jj c)=e)&&decide (jj (eb a (b++c))=e)&&!vF (eb a (b++c)) e
set_option maxHeartbeats 1000000 in
theorem WG(a b c:List ab)(e:Int)(hc:a.length+b.length+c.length≤524288):PureCall Tryz.prog 217 [.one (.sl 2 (a.map ab.enc)),.one (.sl 2 (b.map ab.enc)),.one (.sl 2 (c.map ab.enc)),.one (.int .i64 e)] [.one (.bool (Bl a b c e))]:=by
 refine aL 47 Tryz.func217 Tryz.call217 [.tmp 8] ?_;intro ok
 cases ag:decide (IntKind.i64.wrap (IntKind.i64.wrap (jj a+jj b)+jj c)≠e)with
 |true=>
  have fI:=ch ag
  try simp only[go_sem]
  repeat'(refine ae.intro (by apply OG) ?_<;>simp only[go_sem,ag])
  all_goals simp[Bl,fI]
 |false=>
  have fI:IntKind.i64.wrap (IntKind.i64.wrap (jj a+jj b)+jj c)=e:=by have:=cD ag;omega
  try simp only[go_sem]
  repeat'(first|(refine ae.intro (by first|apply OG|(apply K4<;>first|assumption|omega)) ?_<;>simp only[go_sem,lM,ag])|(with_reducible refine al ?_)|fail)
  refine b5.intro (fun i:Nat=>⟨(jn 3 (.d (.int .i64 e)::jn 4 (.d (.bool false)::.sl 0 0 (eb a ((b++c).take i)).length::jn 17 (.sl 1 0 (b++c).length::.d (.int .i64 (b++c).length)::.d (.int .i64 i)::jn 17 [])))),[.ai 2 ((eb a ((b++c).take i)).map ab.enc) true,.ai 2 ((b++c).map ab.enc) true]⟩)
   (fun i=>(b++c).length-i) (fun i=>i≤(b++c).length) 0 [0,2] (by omega) ?_ ?_
  ·simp only[go_sem];simp[eb]
  ·intro i hi;generalize zd:b++c=l at *;have hl:l.length=b.length+c.length:=by rw[←zd];simp
   have hL:=o0 (l.take i) a;have cn:(l.take i).length=i:=by simp;omega
   by_cases h1:i<l.length
   ·have ar:decide ((i:Int)<(l.length:Int))=true:=bc (by omega);have av:=bZ ab.enc l i h1;have hw:=dv (i:=i) (m:=524288) (by omega) (by simp[maxLen]);have cw:=zF a l i h1;generalize hq:eb a (l.take i)=jF at *
    try simp only[go_sem,lM,aF,av,ab.enc,ar]
    repeat'(first|(refine ae.intro (by(apply VT<;>first|assumption|omega)) ?_<;>simp only[go_sem,lM])|(with_reducible refine al ?_)|fail)
    refine bm.intro (i+1) [3,1] (by omega) (by omega) ?_;simp only[go_sem,hw,cw];simp
   ·have ar:decide ((i:Int)<(l.length:Int))=false:=a_ (by omega);obtain rfl:i=l.length:=by omega
    try simp only[go_sem,lM,ar,dB]
    repeat'((first|refine ae.intro (by apply OG) ?_|refine ao.intro (by apply OY) ?_|refine bb ?_)<;>simp only[go_sem,lM])
    all_goals(refine d' ?_;simp[Bl,zd,fI])
def C'(s:az):Int:=if s.bd=0 then -1 else s.ring.b'
def Jy(s:az):Bool:=Bl s.pending s.flight s.bK s.ring.b'&&decide (uA s.bK 0=s.ring.base)&&!vF s.flight s.sent&&!vF s.bK s.sent&&decide (s.code=0)&&decide (s.bj=C' s)&&decide (s.state=F5 s)
def uH(s:az):Bool:=kg s&&(if lT s then Jx s else Jy s)
set_option maxHeartbeats 8000000 in
theorem O0(aO aS aT aP:Int)(aM:List Int)(aw au ay:List ab)(aR aQ aN aU:Int)(hc:aw.length+au.length+ay.length≤524288):PureCall Tryz.prog 169 [.agg [.int .i64 aO,.int .i64 aS,.int .i64 aT,.int .i64 aP,.sl 1 (aM.map aW),.sl 2 (aw.map ab.enc),.sl 2 (au.map ab.enc),.sl 2 (ay.map ab.enc),.int .i64 aR,.int .i64 aQ,.int .i64 aN,.int .i64 aU]] [.one (.bool (uH (⟨aO,⟨aS,aT,aP,aM⟩,aw,au,ay,aR,aQ,aN,aU⟩:az)))]:=by
 refine aL 161 Tryz.func169 Tryz.call169 [.tmp 2] ?_;intro ok;refine w7 fun K1 Ju=>?_;simp only[go_sem];refine Ju _ (w7 fun K2 Jv=>?_)
 try simp only[go_sem]
 repeat'((first|refine ae.intro (by apply OC) ?_|refine ao.intro (by first|apply FB|apply iS|apply ng) ?_|refine bb ?_)<;>simp only[go_sem])
 refine bp (fun h0=>?_) (fun h0=>?_)
 ·simp only[go_sem];have:kg (⟨aO,⟨aS,aT,aP,aM⟩,aw,au,ay,aR,aQ,aN,aU⟩:az)=false:=by
   rw[Bool.eq_false_iff];intro g;simp[kg]at h0 g;simp_all
  simp[uH,this]
 ·have df:kg (⟨aO,⟨aS,aT,aP,aM⟩,aw,au,ay,aR,aQ,aN,aU⟩:az)=true:=by
   simp[kg]at h0⊢;simp_all
  simp only[go_sem];refine Jv _ (w7 fun agB Jw=>?_)
  try simp only[go_sem]
  repeat'(refine bb ?_<;>simp only[go_sem])
  refine bp (fun aI=>?_) (fun aI=>?_)
  ·have dX:lT (⟨aO,⟨aS,aT,aP,aM⟩,aw,au,ay,aR,aQ,aN,aU⟩:az)=true:=by simpa [lT,c3]using aI
   simp only[go_sem,lM]
   try simp only[go_sem,lM]
   repeat'(refine bb ?_<;>simp only[go_sem,lM])
   all_goals(refine d' ?_;simp[uH,df,dX,Jx];grind)
  ·have dX:lT (⟨aO,⟨aS,aT,aP,aM⟩,aw,au,ay,aR,aQ,aN,aU⟩:az)=false:=by simpa [lT,c3]using aI
   simp only[go_sem];refine Jw _ ?_
   cases ag:decide (aQ=0)with
   |true=>
    have fI:=ch ag;clear Ju Jv Jw
    try simp only[go_sem,ag]
    repeat'((first|refine ao.intro (by first|(apply WG<;>first|assumption|omega)|apply Wi|apply OY|apply WE) ?_|refine eJ ?_|refine ba OX (by kernel_rfl) (by rfl) ?_)<;>simp only[go_sem])
    all_goals(subst fI;refine d' ?_;simp[uH,df,dX,Jy,C',and_assoc])
   |false=>
    have fI:¬aQ=0:=cD ag
    try simp only[go_sem,ag]
    repeat'((first|refine ao.intro (by first|(apply WG<;>first|assumption|omega)|apply Wi|apply OY|apply WE) ?_|refine eJ ?_|refine ba OX (by kernel_rfl) (by rfl) ?_)<;>simp only[go_sem])
    all_goals(refine d' ?_;simp[uH,df,dX,Jy,C',fI,and_assoc])
def jm(s:az):Prop:=∀r,r∈s.pending∨r∈s.flight∨r∈s.bK→r.high≤s.ring.b'
theorem O1{xs:List ab}{p:Int}(h:cy xs=true):below xs p=!vF xs p:=by
 have hs:=(kJ xs).1 h;rw[Bool.eq_iff_iff];unfold below vF
 cases hl:xs.getLast? with
 |none=>rw[List.getLast?_eq_none_iff.1 hl];simp
 |some r=>
  have hr:=List.mem_of_getLast? hl;simp only[List.all_eq_true,il,Bool.not_eq_true',kk,Int.not_lt];constructor
  ·intro g;exact g r hr
  ·intro g x hx;obtain⟨i,hi,rfl⟩:=List.getElem_of_mem hx;have OZ:xs.getLast?=some (xs[xs.length-1]'(by omega)):=by rw[List.getLast?_eq_getElem?,dg (by omega)]
   have zS:xs[xs.length-1]'(by omega)=r:=ob (OZ.symm.trans hl);by_cases he:i=xs.length-1
   ·subst he;rw[zS];exact g
   ·have h1:=(List.pairwise_iff_getElem.1 hs.2) i (xs.length-1) hi (by omega) (by omega);have h2:=(gM _).1 (hs.1 _ hr);rw[zS]at h1;omega
theorem O2{E:Int}:∀(ys xs:List ab),cy xs=true→(∀y∈ys,cT y=true)→(∀x∈xs,x.high≤E)→(∀y∈ys,y.high≤E)→∀z∈eb xs ys,z.high≤E
 |[],xs,_,_,hx,_,z,hz=>hx z hz
 |y::ys,xs,h,hy,hx,hh,z,hz=>by
  have h1:=NM h (hy y (by simp));refine O2 ys (fh xs y) h1 (fun w hw=>hy w (by simp[hw])) ?_ (fun w hw=>hh w (by simp[hw])) z hz;have:=Kn E xs y ?_ ?_
  ·intro w hw;exact(this w hw).2.2
  ·have g:=(gM _).1 (hy y (by simp));have:=hh y (by simp);exact⟨by omega,by omega,by omega⟩
  ·intro w hw;have g:=(gM _).1 (((kJ xs).1 h).1 w hw);have:=hx w hw;exact⟨by omega,by omega,by omega⟩
theorem F6{s:az}(hn:jm s):eA s=uH s:=by
 unfold eA uH
 cases df:kg s with
 |false=>rfl
 |true=>
  simp only[Bool.true_and]
  cases aI:lT s with
  |true=>rfl
  |false=>
   simp only[Bool.false_eq_true,if_false];have hh:=df;simp only[kg,cX,and_assoc]at hh;obtain⟨h1,h2,aj,aD,bX,eR,l2⟩:=hh;have hg:=nZ h1;have hf:=(kJ s.flight).1 aj;have ha:=(kJ s.bK).1 aD;have WH:=FN s.flight s.pending h2 hf.1;have OK:=FN s.bK _ WH.1 ha.1;have L1:eb s.pending (s.flight++s.bK)=oh s:=by unfold oh eb;rw[List.foldl_append]
   have AW:=O2 (E:=s.ring.b') s.flight s.pending h2 hf.1 (fun x hx=>hn x (.inl hx)) (fun x hx=>hn x (.inr (.inl hx)));have gD:=O2 (E:=s.ring.b') s.bK _ WH.1 ha.1 AW (fun x hx=>hn x (.inr (.inr hx)));have ah:vF (oh s) s.ring.b'=false:=by
    have fO:=O1 (p:=s.ring.b') OK.1;have Ae:below (oh s) s.ring.b'=true:=by
     unfold below;rw[List.all_eq_true];intro x hx;exact bc (gD x hx)
    unfold oh at Ae⊢;rw[Ae]at fO;simpa using fO.symm
   have agC:F5 s=vG s:=by
    simp only[bN,cX,il]at l2;unfold F5 vG;by_cases c1:s.bd=3∧s.ring.base=s.ring.b'
    ·rw[if_pos c1,if_pos c1]
    ·rw[if_neg c1,if_neg c1];have:((s.bd=2∨s.bd=3)∨(s.bd=1∧s.state=2))↔(1<s.bd∨(s.bd=1∧s.state=2)):=by omega
     simp only[this]
   have agD:Bm s=decide (s.bj=C' s):=by
    have:=hg.2.2.2.1;have:=hg.2.2.2.2.1;unfold Bm C';by_cases c1:s.bd=0<;>by_cases c2:s.bj=-1<;>simp[c1,c2]<;>omega
   have agE:mL s=(Bl s.pending s.flight s.bK s.ring.b'&&decide (uA s.bK 0=s.ring.base)&&decide (s.code=0)):=by
    unfold mL Bl zG;rw[L1,ah];have agF:jj (oh s)=s.ring.b'→0<s.ring.b'→ke (oh s)=s.ring.b':=agh OK.1 gD;rw[Bool.eq_iff_iff];simp only[cX,il,Bool.not_eq_true',Bool.and_eq_false_iff,kk,Bool.not_false,and_true];constructor
    ·rintro⟨⟨⟨⟨a,b⟩,c⟩,d⟩,e⟩;exact⟨⟨⟨b,a⟩,d⟩,e⟩
    ·rintro⟨⟨⟨b,a⟩,d⟩,e⟩;refine⟨⟨⟨⟨a,b⟩,?_⟩,d⟩,e⟩;by_cases c:0<s.ring.b'
     ·right;intro g;exact g (agF a c)
     ·left;exact c
   unfold Jy;rw[agE,agD,agC,O1 aj,O1 aD]
   cases Bl s.pending s.flight s.bK s.ring.b'<;>cases decide (uA s.bK 0=s.ring.base)<;>cases decide (s.code=0)<;>cases vF s.flight s.sent<;>cases vF s.bK s.sent<;>cases decide (s.bj=C' s)<;>simp
def tG(c:aB):Prop:=0≤c.offset∧c.offset≤1000∧c.offset+(c.data.length:Int)≤1000
theorem PH{n:Int}{xs:List aB}{off:Int}{data:List UInt8}(h:∀c∈xs,tG c)(ax:0≤off)(fW:off+(data.length:Int)≤1000):∀c∈mP n xs off data,tG c:=by
 unfold mP;split
 ·rename_i hk;intro c hc;obtain⟨r,hr,rfl⟩:=List.mem_map.1 hc;simp only[Bv,cX,il]at hk;have yu:0≤ov n off:=by unfold ov;split<;>omega
  have hin:=Kn 1000 (k0 xs) ⟨ov n off,off+data.length⟩ ⟨yu,by show ov n off≤1000;omega,fW⟩ (fun x hx=>by
   obtain⟨d,hd,rfl⟩:=List.mem_map.1 hx;exact h d hd) r hr
  simp only[yw]at hin;refine⟨hin.1,hin.2.1,?_⟩
  show r.low+((ni xs off data r.low (r.high-r.low).toNat).length:Int)≤1000
  rw[Ko];omega
 ·exact h
theorem PI(n:Int)(xs:List aB)(off:Int)(data:List UInt8):(mP n xs off data).length≤xs.length+1:=by
 unfold mP;split
 ·rw[lM];have:=Kp (k0 xs) ⟨ov n off,off+data.length⟩;rw[Gm]at this;exact this
 ·omega
theorem Xv{n:Int}{xs:List aB}{most:Int}(h:∀c∈xs,tG c):∀c∈tH n xs most,tG c:=by
 unfold tH;split
 ·exact h
 ·rename_i h1;split
  ·exact fun c hc=>h c (List.mem_of_mem_drop hc)
  ·rename_i h2;have hr:jJ n xs≠0:=by unfold lV at h1;omega
   obtain⟨_,hlt,ax,nj,Dt⟩:=Kq hr;have hk:lV n xs most≤xs[0].data.length:=by unfold lV;omega
   have hx:=h xs[0] (List.getElem_mem hlt);intro c hc;rcases List.mem_cons.1 hc with rfl|hc
   ·simp only[tG]at hx⊢;rw[Dt,List.length_drop];omega
   ·exact h c (List.mem_of_mem_drop hc)
theorem Xw(n:Int)(xs:List aB)(most:Int):(tH n xs most).length≤xs.length:=by
 unfold tH;split
 ·omega
 ·rename_i h1;have hr:jJ n xs≠0:=by unfold lV at h1;omega
  obtain⟨_,hlt,_⟩:=Kq hr;split
  ·simp
  ·simp;omega
set_option maxRecDepth 100000
def Oz:List (List bt):=ct 46 [8862938119652501095928,8862938119652501095926,8862938119652501095920,8862938119652501095902,8862938119652501095848,8862938119652501095686,8862938119652501095200,8862938119652501093742,8862938119652501089368,8862938119652501076246,8862938119652501036880,8862938119652481786906,8862938119652481432612,8862938119652480369730,8862938119652498615871,8862938119652489049933,8862938119652458049208,8862938119652371955766,8862938119652113675440,8862938119651338834462,8862938119649014311528,8862938119642040742726,8862938119621120036320,8862938119558357917102,8862938119370071559448,8862938118805212486486,8862938117110635267600,8862938112026903610942,8862938096775708640968,8862935580328538595258,8862935443067783865492,8862937776500614271514,8862936541153821703620,8862932560591934540406,8862921442470801429360,8862888088107402096222,8862788025017204096808,8862487835746610098566,8861587267934828103840,8858885564499482119662,8850780454193444167128,8826465123275330309526,8753519130520988736720,8534681152257964018302,7878167217468889863048,5908625413101667397286]
def VU:List (List bt):=ct 16 [43046720,43046718,43046712,43046694,42309621,42309459,42308973,42336999,42332625,42319503,42279084,42958107,42603813,41452398,38263752,28697814]
attribute [go_sem] Oz VU
def zB(r:bA):Bool:=iW r.buffer&&bJ r.fc&&!decide (r.fc<ou r.buffer)&&bJ r.code&&!(decide (r.bj≠-1)&&decide (r.bj<r.fc))&&!decide (4611686018427387903<r.bj)&&!decide (r.bj < -1)
def C6(r:bA):Bool:=decide (r.bj≠-1)&&decide (IntKind.i64.wrap (r.buffer.next+(jJ r.buffer.next r.buffer.bu:Int))=r.bj)
def A2(r:bA):Bool:=
 if r.state=0 then decide (r.bj=-1)&&decide (r.code=0)
 else if r.state=1 then decide (r.bj≠-1)&&!C6 r&&decide (r.code=0)
 else if r.state=2 then C6 r&&decide (r.code=0)
 else if r.state=3 then C6 r&&decide ((r.buffer.bu.length:Int)=0)&&decide (r.code=0)
 else if r.state=4∨r.state=5 then decide (r.bj≠-1)&&decide (r.fc=r.bj)&&decide ((r.buffer.bu.length:Int)=0)
 else false
def jZ(r:bA):Bool:=zB r&&A2 r
theorem afV(r:bA):(bif bif bif bif bif bif !iW r.buffer then true else !bJ r.fc then true else decide (r.fc<ou r.buffer)then true else !bJ r.code then true else bif decide (r.bj≠-1)then decide (r.bj<r.fc)else false then true else decide (4611686018427387903<r.bj)then true else decide (r.bj < -1))=!zB r:=by
 unfold zB
 cases iW r.buffer<;>cases bJ r.fc<;>cases decide (r.fc<ou r.buffer)<;>cases bJ r.code<;>cases decide (r.bj≠-1)<;>cases decide (r.bj<r.fc)<;>cases decide (4611686018427387903<r.bj)<;>cases decide (r.bj < -1)<;>rfl
set_option maxHeartbeats 4000000 in
theorem w5(cC cm:Int)(b3:List aB)(cQ cI cM:Int)(hb:∀c∈b3,c.data.length≤1048576)(hx:b3.length≤1048576):PureCall Tryz.prog 252 [.agg [.int .i64 cC,.int .i64 cm,.sl 2 (b3.map aB.enc),.int .i64 cQ,.int .i64 cI,.int .i64 cM]] [.one (.bool (jZ (⟨cC,⟨cm,b3⟩,cQ,cI,cM⟩:bA)))]:=by
 refine aL 134 Tryz.func252 Tryz.call252 [.tmp 2] ?_;intro _;have ah:=afV (⟨cC,⟨cm,b3⟩,cQ,cI,cM⟩:bA)
 cases df:zB (⟨cC,⟨cm,b3⟩,cQ,cI,cM⟩:bA)with
 |false=>
  rw[df]at ah
  try simp only[go_sem]
  repeat'((first|refine ao.intro (by first|(apply ot<;>first|assumption|omega)|apply hJ|(apply PE<;>first|assumption|omega)) ?_|refine eJ ?_|refine ba Oz (by kernel_rfl) (by rfl) ?_)<;>simp only[go_sem])
  rw[ah];simp only[go_sem,Bool.not_false];simp[jZ,df]
 |true=>
  rw[df]at ah
  try simp only[go_sem]
  repeat'((first|refine ao.intro (by first|(apply ot<;>first|assumption|omega)|apply hJ|(apply PE<;>first|assumption|omega)) ?_|refine eJ ?_|refine ba Oz (by kernel_rfl) (by rfl) ?_)<;>simp only[go_sem])
  rw[ah];simp only[go_sem,Bool.not_true]
  try simp only[go_sem,lM]
  repeat'((first|refine ao.intro (by(apply Dr<;>first|assumption|omega)) ?_|refine bb ?_|refine eJ ?_|refine ba VU (by kernel_rfl) (by rfl) ?_|refine bp (fun h=>?_) (fun h=>?_))<;>simp only[go_sem,lM])
  all_goals(rw[show jZ (⟨cC,⟨cm,b3⟩,cQ,cI,cM⟩:bA)=A2 (⟨cC,⟨cm,b3⟩,cQ,cI,cM⟩:bA)from by unfold jZ;rw[df];rfl];clear df ah;simp only[il,kk]at *;first|(exfalso;omega)|(simp[A2,C6, *]))
def uS:bA:=⟨0,⟨0,[]⟩,-1,0,0⟩
theorem afW :PureCall Tryz.prog 107 [] [.agg (bA.enc (uS))]:=by
 refine aL 2 Tryz.func107 Tryz.call107 [.cell 0 63] ?_;intro _
 try simp only[go_sem]
 all_goals simp[uS]
def gA(r:bA)(e:Int):Int:=if jZ r&&bJ e then dL 0 (IntKind.i64.wrap (e-r.fc))else 0
theorem TU(cC cm:Int)(b3:List aB)(cQ cI cM e:Int)(hb:∀c∈b3,c.data.length≤1048576)(hx:b3.length≤1048576):PureCall Tryz.prog 326 [.agg [.int .i64 cC,.int .i64 cm,.sl 2 (b3.map aB.enc),.int .i64 cQ,.int .i64 cI,.int .i64 cM],.one (.int .i64 e)] [.one (.int .i64 (gA (⟨cC,⟨cm,b3⟩,cQ,cI,cM⟩:bA) e))]:=by
 refine aL 18 Tryz.func326 Tryz.call326 [.tmp 4] ?_;intro _
 try simp only[go_sem]
 repeat'((first|refine ae.intro (by(apply w5<;>first|assumption|omega)) ?_|refine ao.intro (by apply hJ) ?_|refine bb ?_|refine bp (fun h=>?_) (fun h=>?_))<;>simp only[go_sem])
 all_goals(cases h1:jZ (⟨cC,⟨cm,b3⟩,cQ,cI,cM⟩:bA)<;>cases h2:bJ e<;>simp_all [gA,dL])
def FE(r:bA):Bool:=jZ r&&(decide (r.state=3)||decide (r.state=5))
theorem afX(cC cm:Int)(b3:List aB)(cQ cI cM:Int)(hb:∀c∈b3,c.data.length≤1048576)(hx:b3.length≤1048576):PureCall Tryz.prog 260 [.agg [.int .i64 cC,.int .i64 cm,.sl 2 (b3.map aB.enc),.int .i64 cQ,.int .i64 cI,.int .i64 cM]] [.one (.bool (FE (⟨cC,⟨cm,b3⟩,cQ,cI,cM⟩:bA)))]:=by
 refine aL 15 Tryz.func260 Tryz.call260 [.tmp 2] ?_;intro _
 try simp only[go_sem]
 repeat'((first|refine ae.intro (by(apply w5<;>first|assumption|omega)) ?_|refine bb ?_)<;>simp only[go_sem])
 all_goals(refine d' ?_;simp[FE])
def w6(r:bA)(e:Int)(f:Bool):Int:=
 if((decide (r.bj≠-1)&&(decide (r.bj<e)||(f&&decide (e≠r.bj))))||(f&&decide (e<r.fc)))=true then 6 else 0
theorem VV(cC cm:Int)(b3:List aB)(cQ cI cM e:Int)(f:Bool)(_:b3.length≤1048576):PureCall Tryz.prog 324 [.agg [.int .i64 cC,.int .i64 cm,.sl 2 (b3.map aB.enc),.int .i64 cQ,.int .i64 cI,.int .i64 cM],.one (.int .i64 e),.one (.bool f)] [.one (.int .i64 (w6 (⟨cC,⟨cm,b3⟩,cQ,cI,cM⟩:bA) e f))]:=by
 refine aL 34 Tryz.func324 Tryz.call324 [.tmp 6] ?_;intro _
 try simp only[go_sem]
 repeat'((first|refine bb ?_|refine bp (fun h=>?_) (fun h=>?_))<;>simp only[go_sem])
 ·simp only[cf,c3]at h;unfold w6;rw[if_pos h]
 ·simp only[cf,c3]at h;unfold w6;rw[if_neg (by rw[h];simp)]
set_option maxRecDepth 100000
def C7(r:bA)(m:Int):Int:=if r.state=2∧r.buffer.next+(lV r.buffer.next r.buffer.bu m:Int)=r.bj then 3 else r.state
def wR(r:bA)(m:Int):bA:=
 if jZ r then(if r.state=4 then {r with state:=5}else {r with state:=C7 r m,buffer:=⟨r.buffer.next+(lV r.buffer.next r.buffer.bu m:Int),tH r.buffer.next r.buffer.bu m⟩})else r
def vw(r:bA)(m:Int):List UInt8:=if jZ r&&!decide (r.state=4)then zU r.buffer.next r.buffer.bu m else []
set_option maxHeartbeats 4000000 in
theorem adf(cC cm:Int)(b3:List aB)(cQ cI cM m:Int)(hb:∀c∈b3,c.data.length≤1048576)(hx:b3.length≤1048576):PureCall Tryz.prog 232 [.agg [.int .i64 cC,.int .i64 cm,.sl 2 (b3.map aB.enc),.int .i64 cQ,.int .i64 cI,.int .i64 cM],.one (.int .i64 m)] [.one (.str (vw (⟨cC,⟨cm,b3⟩,cQ,cI,cM⟩:bA) m)),.agg (bA.enc (wR (⟨cC,⟨cm,b3⟩,cQ,cI,cM⟩:bA) m))]:=by
 refine aL 42 Tryz.func232 Tryz.call232 [.tmp 4,.cell 5 63] ?_;intro _;have aos:=XC cm b3 m hb hx
 cases hI:jZ (⟨cC,⟨cm,b3⟩,cQ,cI,cM⟩:bA)with
 |false=>
  try simp only[go_sem]
  repeat'(first|((first|refine ae.intro (by first|assumption|(apply yK<;>first|assumption|omega)|(apply w5<;>first|assumption|omega)) ?_|refine ao.intro (by assumption) ?_|refine ba [[.post,.cA,.post],[.cA,.post,.post],[.pre,.pre,.post]] (by kernel_rfl) (by rfl) ?_)<;>simp only[go_sem,lM,hI])|(with_reducible refine al ?_)|fail)
  all_goals simp[wR,vw,hI]
 |true=>
  by_cases aD:cC=4
  ·have ag:decide (cC=4)=true:=bc aD;have aI:wR (⟨cC,⟨cm,b3⟩,cQ,cI,cM⟩:bA) m={(⟨cC,⟨cm,b3⟩,cQ,cI,cM⟩:bA)with state:=5}:=by unfold wR;rw[if_pos hI];exact if_pos aD
   have aX:vw (⟨cC,⟨cm,b3⟩,cQ,cI,cM⟩:bA) m=[]:=by unfold vw;rw[hI];simp[aD]
   try simp only[go_sem]
   repeat'(first|((first|refine ae.intro (by first|assumption|(apply yK<;>first|assumption|omega)|(apply w5<;>first|assumption|omega)) ?_|refine ao.intro (by assumption) ?_|refine ba [[.post,.cA,.post],[.cA,.post,.post],[.pre,.pre,.post]] (by kernel_rfl) (by rfl) ?_)<;>simp only[go_sem,lM,hI,ag])|(with_reducible refine al ?_)|fail)
   all_goals(rw[aI,aX];try simp[outOA,fa])
  ·have ag:decide (cC=4)=false:=a_ aD;have aI:wR (⟨cC,⟨cm,b3⟩,cQ,cI,cM⟩:bA) m={(⟨cC,⟨cm,b3⟩,cQ,cI,cM⟩:bA)with state:=C7 (⟨cC,⟨cm,b3⟩,cQ,cI,cM⟩:bA) m,buffer:=⟨cm+(lV cm b3 m:Int),tH cm b3 m⟩}:=by unfold wR;rw[if_pos hI];exact if_neg aD
   have aX:vw (⟨cC,⟨cm,b3⟩,cQ,cI,cM⟩:bA) m=zU cm b3 m:=by unfold vw;rw[hI];simp[aD]
   try simp only[go_sem]
   repeat'(first|((first|refine ae.intro (by first|assumption|(apply yK<;>first|assumption|omega)|(apply w5<;>first|assumption|omega)) ?_|refine ao.intro (by assumption) ?_|refine bb ?_|refine ba [[.post,.cA,.post,.post],[.cA,.post,.cA,.post],[.pre,.cA,.post,.post],[.pre,.pre,.pre,.post]] (by kernel_rfl) (by rfl) ?_|refine bp (fun h=>?_) (fun h=>?_))<;>simp only[go_sem,lM,hI,ag])|(with_reducible refine al ?_)|fail)
   ·simp only[cf,cX,il]at h;have hq:C7 (⟨cC,⟨cm,b3⟩,cQ,cI,cM⟩:bA) m=3:=by unfold C7;exact if_pos h
    rw[aI,aX,hq]
    try simp[outOA,fa]
   ·have hq:C7 (⟨cC,⟨cm,b3⟩,cQ,cI,cM⟩:bA) m=cC:=by
     unfold C7;refine if_neg fun g=>?_;rw[bc g.1,bc g.2]at h;cases h
    rw[aI,aX,hq]
    try simp[outOA,fa]
def FF(r:bA)(c f:Int):Bool:=jZ r&&bJ c&&bJ f
def wT(r:bA)(c f:Int):Int:=if FF r c f then w6 r f true else 7
def Bd(r:bA)(c f:Int):Bool:=FF r c f&&!(decide (w6 r f true≠0)||decide (1<r.state))
def vx(r:bA)(c f:Int):bA:=if Bd r c f then⟨4,⟨r.buffer.next,[]⟩,f,f,c⟩else r
set_option maxHeartbeats 4000000 in
theorem adg(cC cm:Int)(b3:List aB)(cQ cI cM c f:Int)(hb:∀c∈b3,c.data.length≤1048576)(hx:b3.length≤1048576):PureCall Tryz.prog 287 [.agg [.int .i64 cC,.int .i64 cm,.sl 2 (b3.map aB.enc),.int .i64 cQ,.int .i64 cI,.int .i64 cM],.one (.int .i64 c),.one (.int .i64 f)] [.agg (bA.enc (vx (⟨cC,⟨cm,b3⟩,cQ,cI,cM⟩:bA) c f)),.one (.int .i64 (wT (⟨cC,⟨cm,b3⟩,cQ,cI,cM⟩:bA) c f))]:=by
 refine aL 46 Tryz.func287 Tryz.call287 [.cell 6 63,.tmp 7] ?_;intro _
 cases b1:FF (⟨cC,⟨cm,b3⟩,cQ,cI,cM⟩:bA) c f with
 |false=>
  have bw:Bd (⟨cC,⟨cm,b3⟩,cQ,cI,cM⟩:bA) c f=false:=by simp[Bd,b1]
  have ah:(bif bif !jZ (⟨cC,⟨cm,b3⟩,cQ,cI,cM⟩:bA)then true else !bJ c then true else !bJ f)=true:=by
   have:=b1;unfold FF at this
   revert this;cases jZ (⟨cC,⟨cm,b3⟩,cQ,cI,cM⟩:bA)<;>cases bJ c<;>cases bJ f<;>simp
  try simp only[go_sem]
  repeat'((first|refine ae.intro (by first|(apply yK<;>first|assumption|omega)|(apply w5<;>first|assumption|omega)) ?_|refine ao.intro (by apply hJ) ?_|refine bb ?_)<;>simp only[go_sem,lM])
  rw[ah];simp only[go_sem,lM];simp[vx,bw,wT,b1]
 |true=>
  have ah:(bif bif !jZ (⟨cC,⟨cm,b3⟩,cQ,cI,cM⟩:bA)then true else !bJ c then true else !bJ f)=false:=by
   have:=b1;unfold FF at this
   revert this;cases jZ (⟨cC,⟨cm,b3⟩,cQ,cI,cM⟩:bA)<;>cases bJ c<;>cases bJ f<;>simp
  try simp only[go_sem]
  repeat'((first|refine ae.intro (by first|(apply yK<;>first|assumption|omega)|(apply w5<;>first|assumption|omega)) ?_|refine ao.intro (by apply hJ) ?_|refine bb ?_)<;>simp only[go_sem,lM])
  rw[ah];simp only[go_sem]
  try simp only[go_sem,lM]
  repeat'((first|refine ae.intro (by(apply VV<;>first|assumption|omega)) ?_|refine bb ?_)<;>simp only[go_sem])
  refine bp (fun h=>?_) (fun h=>?_)
  ·have bw:Bd (⟨cC,⟨cm,b3⟩,cQ,cI,cM⟩:bA) c f=false:=by unfold Bd;simp only[c3]at h;rw[b1,h];rfl
   simp only[go_sem,lM];simp[vx,bw,wT,b1]
  ·have bw:Bd (⟨cC,⟨cm,b3⟩,cQ,cI,cM⟩:bA) c f=true:=by unfold Bd;simp only[c3]at h;rw[b1,h];rfl
   have h0:w6 (⟨cC,⟨cm,b3⟩,cQ,cI,cM⟩:bA) f true=0:=by
    simp only[c3,Bool.or_eq_false_iff,kk]at h;omega
   simp only[go_sem]
   try simp only[go_sem,lM]
   all_goals simp[vx,bw,wT,b1,h0]
set_option maxRecDepth 100000
def VW:List (List bt):=ct 6 [692,690,724,706,648,486]
def OA:List (List bt):=ct 37 [450283905890997362,450283905890997360,450283905890997354,450283905890997336,450283905890997282,450283905890970876,450283905890970390,450283905890968932,450283905890993961,450283905890980839,450283905890938314,450283905890820216,450283905890465922,450283905889403040,450283905886214394,450283905876648456,450283905847950642,450283905761857200,450283905503576874,450283904728735896,450283902404212962,450283895430644160,450283874509937754,450283811747818536,450283623461460882,450283058602387920,450281364025169034,450276280293512376,450261029098542402,447744581928496692,447607321173766926,449940754004172948,448705407211605054,444724845324441840,433606724191330794,400252360791997656,300189270593998242]
def VX:List (List bt):=ct 12 [531440,531438,531432,531414,522612,522450,521964,530307,525933,511758,472392,354294]
attribute [go_sem] VW OA VX
theorem afY(n:Int)(xs:List aB)(hb:∀c∈xs,c.data.length≤1048576)(hx:xs.length≤1048576):PureCall Tryz.prog 259 [.agg [.int .i64 n,.sl 2 (xs.map aB.enc)]] [.one (.int .i64 (IntKind.i64.wrap (n+(jJ n xs:Int))))]:=by
 refine aL 8 Tryz.func259 Tryz.call259 [.tmp 2] ?_;intro _
 try simp only[go_sem]
 repeat'((first|refine ao.intro (by(apply Xt<;>first|assumption|omega)) ?_|refine ba VW (by kernel_rfl) (by rfl) ?_)<;>simp only[go_sem])
 all_goals simp
def Jm(r:bA):Bool:=iW r.buffer&&!decide (r.fc<ou r.buffer)&&bJ r.fc&&bJ r.code&&!(decide (r.bj≠-1)&&!bN r.bj r.fc 4611686018427387903)
theorem afZ(r:bA):(bif bif bif bif !iW r.buffer then true else decide (r.fc<ou r.buffer)then true else !bJ r.fc then true else !bJ r.code then true else bif decide (r.bj≠-1)then !bN r.bj r.fc 4611686018427387903 else false)=!Jm r:=by
 unfold Jm
 cases iW r.buffer<;>cases bJ r.fc<;>cases decide (r.fc<ou r.buffer)<;>cases bJ r.code<;>cases decide (r.bj≠-1)<;>cases bN r.bj r.fc 4611686018427387903<;>rfl
theorem af0(r:bA):Jm r=zB r:=by
 rw[Bool.eq_iff_iff];simp only[Jm,zB,bJ,bN,cX,Bool.not_eq_true',il,kk,Bool.and_eq_false_iff,Bool.not_eq_false'];constructor
 ·rintro⟨⟨⟨⟨h1,h2⟩,aj⟩,aD⟩,bX⟩;refine⟨⟨⟨⟨⟨⟨h1,aj⟩,h2⟩,aD⟩,?_⟩,?_⟩,?_⟩<;>omega
 ·rintro⟨⟨⟨⟨⟨⟨h1,aj⟩,h2⟩,aD⟩,bX⟩,eR⟩,l2⟩;refine⟨⟨⟨⟨h1,h2⟩,aj⟩,aD⟩,?_⟩;omega
set_option maxHeartbeats 4000000 in
theorem VY(cC cm:Int)(b3:List aB)(cQ cI cM:Int)(hb:∀c∈b3,c.data.length≤1048576)(hx:b3.length≤1048576):PureCall Tryz.prog 221 [.agg [.int .i64 cC,.int .i64 cm,.sl 2 (b3.map aB.enc),.int .i64 cQ,.int .i64 cI,.int .i64 cM]] [.one (.bool (jZ (⟨cC,⟨cm,b3⟩,cQ,cI,cM⟩:bA)))]:=by
 refine aL 116 Tryz.func221 Tryz.call221 [.tmp 2] ?_;intro _;have ah:=afZ (⟨cC,⟨cm,b3⟩,cQ,cI,cM⟩:bA);rw[af0]at ah
 cases df:zB (⟨cC,⟨cm,b3⟩,cQ,cI,cM⟩:bA)with
 |false=>
  rw[df]at ah
  try simp only[go_sem]
  repeat'((first|refine ao.intro (by first|(apply xk<;>first|assumption|omega)|(apply PD<;>first|assumption|omega)|apply ng|apply iS) ?_|refine eJ ?_|refine ba OA (by kernel_rfl) (by rfl) ?_)<;>simp only[go_sem])
  rw[ah];simp only[go_sem,Bool.not_false];simp[jZ,df]
 |true=>
  have h0:0≤cI:=by
   have:=df;simp only[zB,bJ,bN,cX,il,and_assoc]at this;exact this.2.1
  rw[df]at ah
  try simp only[go_sem]
  repeat'((first|refine ao.intro (by first|(apply xk<;>first|assumption|omega)|(apply PD<;>first|assumption|omega)|apply ng|apply iS) ?_|refine eJ ?_|refine ba OA (by kernel_rfl) (by rfl) ?_)<;>simp only[go_sem])
  rw[ah];simp only[go_sem,Bool.not_true]
  try simp only[go_sem,lM]
  repeat'((first|refine ao.intro (by(apply afY<;>first|assumption|omega)) ?_|refine bb ?_|refine eJ ?_|refine ba VX (by kernel_rfl) (by rfl) ?_|refine bp (fun h=>?_) (fun h=>?_))<;>simp only[go_sem,lM])
  all_goals(rw[show jZ (⟨cC,⟨cm,b3⟩,cQ,cI,cM⟩:bA)=A2 (⟨cC,⟨cm,b3⟩,cQ,cI,cM⟩:bA)from by unfold jZ;rw[df];rfl];clear df ah;simp only[il,kk]at *;first|(exfalso;omega)|(refine d' ?_;simp[A2,C6, *];done)|(refine d' ?_;simp[A2,C6, *];grind))
theorem af1(cC cm:Int)(b3:List aB)(cQ cI cM:Int)(hb:∀c∈b3,c.data.length≤1048576)(hx:b3.length≤1048576):PureCall Tryz.prog 222 [.agg [.int .i64 cC,.int .i64 cm,.sl 2 (b3.map aB.enc),.int .i64 cQ,.int .i64 cI,.int .i64 cM]] [.one (.bool (FE (⟨cC,⟨cm,b3⟩,cQ,cI,cM⟩:bA)))]:=by
 refine aL 15 Tryz.func222 Tryz.call222 [.tmp 2] ?_;intro _
 try simp only[go_sem]
 repeat'((first|refine ae.intro (by(apply VY<;>first|assumption|omega)) ?_|refine bb ?_)<;>simp only[go_sem])
 all_goals(refine d' ?_;simp[FE])
end Gv
