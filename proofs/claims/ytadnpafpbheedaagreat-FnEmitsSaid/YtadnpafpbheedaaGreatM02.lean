/-
  Part of the proof: the machine, what functions compute, and the plain laws.
-/
import Derived.Test.YtadnpafpbheedaaGreatM01
import Derived.Test.YtadnpafpbheedaaGreatChecked
set_option maxHeartbeats 80000000
set_option maxRecDepth 100000
namespace Gv
open Go Go.Proofs Tryz IntKind
theorem χ{p:Prop}(h:p:=by kernel_rfl):p:=h
theorem b2:prog.follows .mixedOrders=true:=checked.mixed
theorem a6{p:Prop}(h:p:=by first|assumption|omega):p:=h
abbrev aL(f:FuncId)(a r:List AD):Prop:=PureCall prog f a r
abbrev V.i(x:Int):V:=.d (.int .i64 x)
def aw(S:List Bool)(k:Nat)(a:V):V:=bif S.getD k false then a else .al
attribute [go_sem,simp] V.i aw
@[go_sem] theorem alL:tyI prog 3=some (1,false):=by kernel_rfl
@[go_sem] theorem alM:intI prog 3=some .i64:=by kernel_rfl
@[go_sem] theorem alN:tyI prog 4=some (1,false):=by kernel_rfl
@[go_sem] theorem alO:isBoolI prog 4=true:=by kernel_rfl
@[go_sem] theorem alP:tyI prog 5=some (1,false):=by kernel_rfl
@[go_sem] theorem alQ:intI prog 5=some .u8:=by kernel_rfl
@[go_sem] theorem alR:tyI prog 9=some (1,false):=by kernel_rfl
@[go_sem] theorem alS:isStrI prog 9=true:=by kernel_rfl
@[go_sem] theorem alT:tyI prog 22=some (1,false):=by kernel_rfl
@[go_sem] theorem alU:elI prog 22=some (5,1,1):=by kernel_rfl
@[go_sem] theorem alV:tyI prog 25=some (8,true):=by kernel_rfl
@[go_sem] theorem alW:tyI prog 26=some (1,false):=by kernel_rfl
@[go_sem] theorem alX:elI prog 26=some (66,39,352):=by kernel_rfl
@[go_sem] theorem alY:tyI prog 28=some (4,true):=by kernel_rfl
@[go_sem] theorem alZ:tyI prog 30=some (6,true):=by kernel_rfl
@[go_sem] theorem al0:tyI prog 32=some (3,true):=by kernel_rfl
@[go_sem] theorem al1:tyI prog 34=some (4,true):=by kernel_rfl
@[go_sem] theorem al2:tyI prog 35=some (1,false):=by kernel_rfl
@[go_sem] theorem al3:elI prog 35=some (47,2,32):=by kernel_rfl
@[go_sem] theorem al4:tyI prog 37=some (50,true):=by kernel_rfl
@[go_sem] theorem al5:tyI prog 43=some (1,false):=by kernel_rfl
@[go_sem] theorem al6:elI prog 43=some (82,9,80):=by kernel_rfl
@[go_sem] theorem al7:tyI prog 47=some (2,true):=by kernel_rfl
@[go_sem] theorem al8:tyI prog 52=some (1,false):=by kernel_rfl
@[go_sem] theorem al9:elI prog 52=some (3,1,8):=by kernel_rfl
@[go_sem] theorem ama:tyI prog 54=some (4,true):=by kernel_rfl
@[go_sem] theorem amb:tyI prog 55=some (1,false):=by kernel_rfl
@[go_sem] theorem amc:elI prog 55=some (175,2,16):=by kernel_rfl
@[go_sem] theorem amd:tyI prog 57=some (12,true):=by kernel_rfl
@[go_sem] theorem ame:tyI prog 58=some (1,false):=by kernel_rfl
@[go_sem] theorem amf:elI prog 58=some (259,2,24):=by kernel_rfl
@[go_sem] theorem amg:tyI prog 60=some (2,true):=by kernel_rfl
@[go_sem] theorem amh:tyI prog 62=some (6,true):=by kernel_rfl
@[go_sem] theorem ami:tyI prog 64=some (2,true):=by kernel_rfl
@[go_sem] theorem amj:tyI prog 66=some (39,true):=by kernel_rfl
@[go_sem] theorem amk:tyI prog 70=some (3,true):=by kernel_rfl
@[go_sem] theorem aml:tyI prog 82=some (9,true):=by kernel_rfl
@[go_sem] theorem amm:elI prog 93=some (148,3,24):=by kernel_rfl
@[go_sem] theorem amn:tyI prog 148=some (3,true):=by kernel_rfl
@[go_sem] theorem amo:tyI prog 175=some (2,true):=by kernel_rfl
@[go_sem] theorem amp:elI prog 211=some (9,1,16):=by kernel_rfl
@[go_sem] theorem amq:tyI prog 259=some (2,true):=by kernel_rfl
@[go_sem] theorem amr:fdI prog 25 0=some 0:=by kernel_rfl
@[go_sem] theorem ams:fdI prog 25 1=some 1:=by kernel_rfl
@[go_sem] theorem amt:fdI prog 25 2=some 2:=by kernel_rfl
@[go_sem] theorem amu:fdI prog 25 3=some 3:=by kernel_rfl
@[go_sem] theorem amv:fdI prog 25 4=some 4:=by kernel_rfl
@[go_sem] theorem amw:fdI prog 25 5=some 5:=by kernel_rfl
@[go_sem] theorem amx:fdI prog 25 6=some 6:=by kernel_rfl
@[go_sem] theorem amy:fdI prog 25 7=some 7:=by kernel_rfl
@[go_sem] theorem amz:fdI prog 28 0=some 0:=by kernel_rfl
@[go_sem] theorem amA:fdI prog 28 1=some 1:=by kernel_rfl
@[go_sem] theorem amB:fdI prog 28 2=some 2:=by kernel_rfl
@[go_sem] theorem amC:fdI prog 28 3=some 3:=by kernel_rfl
@[go_sem] theorem amD:fdI prog 30 0=some 0:=by kernel_rfl
@[go_sem] theorem amE:fdI prog 30 1=some 1:=by kernel_rfl
@[go_sem] theorem amF:fdI prog 30 2=some 2:=by kernel_rfl
@[go_sem] theorem amG:fdI prog 30 3=some 3:=by kernel_rfl
@[go_sem] theorem amH:fdI prog 30 4=some 4:=by kernel_rfl
@[go_sem] theorem amI:fdI prog 30 5=some 5:=by kernel_rfl
@[go_sem] theorem amJ:fdI prog 32 0=some 0:=by kernel_rfl
@[go_sem] theorem amK:fdI prog 32 1=some 1:=by kernel_rfl
@[go_sem] theorem amL:fdI prog 32 2=some 2:=by kernel_rfl
@[go_sem] theorem amM:fdI prog 34 0=some 0:=by kernel_rfl
@[go_sem] theorem amN:fdI prog 34 1=some 1:=by kernel_rfl
@[go_sem] theorem amO:fdI prog 34 2=some 2:=by kernel_rfl
@[go_sem] theorem amP:fdI prog 34 3=some 3:=by kernel_rfl
@[go_sem] theorem amQ:fdI prog 37 0=some 0:=by kernel_rfl
@[go_sem] theorem amR:fdI prog 37 1=some 1:=by kernel_rfl
@[go_sem] theorem amS:fdI prog 37 2=some 9:=by kernel_rfl
@[go_sem] theorem amT:fdI prog 37 3=some 17:=by kernel_rfl
@[go_sem] theorem amU:fdI prog 37 4=some 18:=by kernel_rfl
@[go_sem] theorem amV:fdI prog 37 5=some 22:=by kernel_rfl
@[go_sem] theorem amW:fdI prog 37 6=some 28:=by kernel_rfl
@[go_sem] theorem amX:fdI prog 37 7=some 31:=by kernel_rfl
@[go_sem] theorem amY:fdI prog 37 8=some 34:=by kernel_rfl
@[go_sem] theorem amZ:fdI prog 37 9=some 38:=by kernel_rfl
@[go_sem] theorem am0:fdI prog 37 10=some 42:=by kernel_rfl
@[go_sem] theorem am1:fdI prog 37 11=some 43:=by kernel_rfl
@[go_sem] theorem am2:fdI prog 37 12=some 44:=by kernel_rfl
@[go_sem] theorem am3:fdI prog 37 13=some 45:=by kernel_rfl
@[go_sem] theorem am4:fdI prog 37 14=some 46:=by kernel_rfl
@[go_sem] theorem am5:fdI prog 37 15=some 47:=by kernel_rfl
@[go_sem] theorem am6:fdI prog 37 16=some 48:=by kernel_rfl
@[go_sem] theorem am7:fdI prog 37 17=some 49:=by kernel_rfl
@[go_sem] theorem am8:fdI prog 47 0=some 0:=by kernel_rfl
@[go_sem] theorem am9:fdI prog 47 1=some 1:=by kernel_rfl
@[go_sem] theorem ana:fdI prog 54 0=some 0:=by kernel_rfl
@[go_sem] theorem anb:fdI prog 54 1=some 1:=by kernel_rfl
@[go_sem] theorem anc:fdI prog 54 2=some 2:=by kernel_rfl
@[go_sem] theorem ane:fdI prog 54 3=some 3:=by kernel_rfl
@[go_sem] theorem anf:fdI prog 57 0=some 0:=by kernel_rfl
@[go_sem] theorem ang:fdI prog 57 1=some 1:=by kernel_rfl
@[go_sem] theorem anh:fdI prog 57 2=some 5:=by kernel_rfl
@[go_sem] theorem ani:fdI prog 57 3=some 6:=by kernel_rfl
@[go_sem] theorem anj:fdI prog 57 4=some 7:=by kernel_rfl
@[go_sem] theorem ank:fdI prog 57 5=some 8:=by kernel_rfl
@[go_sem] theorem anl:fdI prog 57 6=some 9:=by kernel_rfl
@[go_sem] theorem anm:fdI prog 57 7=some 10:=by kernel_rfl
@[go_sem] theorem ann:fdI prog 57 8=some 11:=by kernel_rfl
@[go_sem] theorem ano:fdI prog 60 0=some 0:=by kernel_rfl
@[go_sem] theorem anp:fdI prog 60 1=some 1:=by kernel_rfl
@[go_sem] theorem anq:fdI prog 62 0=some 0:=by kernel_rfl
@[go_sem] theorem anr:fdI prog 62 1=some 1:=by kernel_rfl
@[go_sem] theorem ans:fdI prog 62 2=some 3:=by kernel_rfl
@[go_sem] theorem ant:fdI prog 62 3=some 4:=by kernel_rfl
@[go_sem] theorem anu:fdI prog 62 4=some 5:=by kernel_rfl
@[go_sem] theorem anv:fdI prog 64 0=some 0:=by kernel_rfl
@[go_sem] theorem anw:fdI prog 64 1=some 1:=by kernel_rfl
@[go_sem] theorem anx:fdI prog 66 0=some 0:=by kernel_rfl
@[go_sem] theorem anz:fdI prog 66 1=some 1:=by kernel_rfl
@[go_sem] theorem anA:fdI prog 66 2=some 13:=by kernel_rfl
@[go_sem] theorem anB:fdI prog 66 3=some 17:=by kernel_rfl
@[go_sem] theorem anC:fdI prog 66 4=some 23:=by kernel_rfl
@[go_sem] theorem anD:fdI prog 66 5=some 29:=by kernel_rfl
@[go_sem] theorem anE:fdI prog 66 6=some 31:=by kernel_rfl
@[go_sem] theorem anF:fdI prog 66 7=some 32:=by kernel_rfl
@[go_sem] theorem anG:fdI prog 66 8=some 33:=by kernel_rfl
@[go_sem] theorem anH:fdI prog 66 9=some 34:=by kernel_rfl
@[go_sem] theorem anI:fdI prog 66 10=some 35:=by kernel_rfl
@[go_sem] theorem anJ:fdI prog 66 11=some 36:=by kernel_rfl
@[go_sem] theorem anK:fdI prog 66 12=some 37:=by kernel_rfl
@[go_sem] theorem anL:fdI prog 66 13=some 38:=by kernel_rfl
@[go_sem] theorem anM:fdI prog 70 0=some 0:=by kernel_rfl
@[go_sem] theorem anN:fdI prog 70 1=some 1:=by kernel_rfl
@[go_sem] theorem anO:fdI prog 70 2=some 2:=by kernel_rfl
@[go_sem] theorem anP:fdI prog 82 0=some 0:=by kernel_rfl
@[go_sem] theorem anQ:fdI prog 82 1=some 1:=by kernel_rfl
@[go_sem] theorem anR:fdI prog 82 2=some 2:=by kernel_rfl
@[go_sem] theorem anS:fdI prog 82 3=some 3:=by kernel_rfl
@[go_sem] theorem anT:fdI prog 82 4=some 4:=by kernel_rfl
@[go_sem] theorem anU:fdI prog 82 5=some 5:=by kernel_rfl
@[go_sem] theorem anV:fdI prog 82 6=some 6:=by kernel_rfl
@[go_sem] theorem anW:fdI prog 82 7=some 7:=by kernel_rfl
@[go_sem] theorem anX:fdI prog 82 8=some 8:=by kernel_rfl
@[go_sem] theorem anY:fdI prog 131 0=some 0:=by kernel_rfl
@[go_sem] theorem anZ:fdI prog 131 1=some 1:=by kernel_rfl
@[go_sem] theorem an0:fdI prog 131 2=some 2:=by kernel_rfl
@[go_sem] theorem an1:fdI prog 148 0=some 0:=by kernel_rfl
@[go_sem] theorem an2:fdI prog 148 1=some 1:=by kernel_rfl
@[go_sem] theorem an3:fdI prog 175 0=some 0:=by kernel_rfl
@[go_sem] theorem an4:fdI prog 175 1=some 1:=by kernel_rfl
@[go_sem] theorem an5:fdI prog 259 0=some 0:=by kernel_rfl
@[go_sem] theorem an6:fdI prog 259 1=some 1:=by kernel_rfl
@[go_sem] theorem an7:zrI prog 3=some [.d (.int .i64 0)]:=by kernel_rfl
@[go_sem] theorem an8:zrI prog 5=some [.d (.int .u8 0)]:=by kernel_rfl
@[go_sem] theorem an9:zrI prog 9=some [.d (.str [])]:=by kernel_rfl
@[go_sem] theorem aoa:zrI prog 25=some [.d (.int .i64 0),.d (.int .i64 0),.d (.int .i64 0),.d (.int .i64 0),.d (.int .i64 0),.d (.int .i64 0),.d (.int .i64 0),.d (.int .i64 0)]:=by kernel_rfl
@[go_sem] theorem aob:zrI prog 28=some [.d (.int .i64 0),.d (.int .i64 0),.d (.int .i64 0),.d (.int .i64 0)]:=by kernel_rfl
@[go_sem] theorem aoc:zrI prog 30=some [.d (.int .i64 0),.d (.int .i64 0),.d (.int .i64 0),.d (.int .i64 0),.d (.int .i64 0),.d (.int .i64 0)]:=by kernel_rfl
@[go_sem] theorem aod:zrI prog 32=some [.d (.int .i64 0),.d (.int .i64 0),.d (.int .i64 0)]:=by kernel_rfl
@[go_sem] theorem aoe:zrI prog 34=some [.d (.int .i64 0),.d (.int .i64 0),.d (.int .i64 0),.d (.int .i64 0)]:=by kernel_rfl
@[go_sem] theorem aof:zrI prog 37=some [.d (.bool false),.d (.int .i64 0),.d (.int .i64 0),.d (.int .i64 0),.d (.int .i64 0),.d (.int .i64 0),.d (.int .i64 0),.d (.int .i64 0),.d (.int .i64 0),.d (.int .i64 0),.d (.int .i64 0),.d (.int .i64 0),.d (.int .i64 0),.d (.int .i64 0),.d (.int .i64 0),.d (.int .i64 0),.d (.int .i64 0),.ee 39,.d (.int .i64 0),.d (.int .i64 0),.d (.int .i64 0),.d (.int .i64 0),.d (.int .i64 0),.d (.int .i64 0),.d (.int .i64 0),.d (.int .i64 0),.d (.int .i64 0),.d (.int .i64 0),.d (.int .i64 0),.d (.int .i64 0),.d (.int .i64 0),.d (.int .i64 0),.d (.int .i64 0),.d (.int .i64 0),.d (.int .i64 0),.d (.int .i64 0),.d (.int .i64 0),.d (.int .i64 0),.d (.int .i64 0),.d (.int .i64 0),.d (.int .i64 0),.d (.int .i64 0),.d (.bool false),.d (.bool false),.d (.bool false),.d (.int .i64 0),.d (.int .i64 0),.ee 2,.d (.int .i64 0),.d (.int .i64 0)]:=by kernel_rfl
@[go_sem] theorem aog:zrI prog 47=some [.d (.int .i64 0),.ee 9]:=by kernel_rfl
@[go_sem] theorem aoh:zrI prog 54=some [.d (.int .i64 0),.d (.int .i64 0),.d (.int .i64 0),.ee 1]:=by kernel_rfl
@[go_sem] theorem aoi:zrI prog 57=some [.d (.int .i64 0),.d (.int .i64 0),.d (.int .i64 0),.d (.int .i64 0),.ee 1,.ee 2,.ee 2,.ee 2,.d (.int .i64 0),.d (.int .i64 0),.d (.int .i64 0),.d (.int .i64 0)]:=by kernel_rfl
@[go_sem] theorem aoj:zrI prog 60=some [.d (.int .i64 0),.ee 2]:=by kernel_rfl
@[go_sem] theorem aok:zrI prog 62=some [.d (.int .i64 0),.d (.int .i64 0),.ee 2,.d (.int .i64 0),.d (.int .i64 0),.d (.int .i64 0)]:=by kernel_rfl
@[go_sem] theorem aol:zrI prog 64=some [.d (.int .i64 0),.d (.bool false)]:=by kernel_rfl
@[go_sem] theorem aom:zrI prog 66=some [.d (.int .i64 0),.d (.int .i64 0),.d (.int .i64 0),.d (.int .i64 0),.d (.int .i64 0),.ee 1,.ee 2,.ee 2,.ee 2,.d (.int .i64 0),.d (.int .i64 0),.d (.int .i64 0),.d (.int .i64 0),.d (.int .i64 0),.d (.int .i64 0),.d (.int .i64 0),.d (.int .i64 0),.d (.int .i64 0),.d (.int .i64 0),.ee 2,.d (.int .i64 0),.d (.int .i64 0),.d (.int .i64 0),.d (.int .i64 0),.d (.int .i64 0),.d (.int .i64 0),.d (.int .i64 0),.d (.int .i64 0),.d (.int .i64 0),.d (.int .i64 0),.d (.bool false),.d (.bool false),.d (.bool false),.d (.bool false),.d (.bool false),.d (.bool false),.d (.bool false),.d (.int .i64 0),.d (.bool false)]:=by kernel_rfl
@[go_sem] theorem aon:zrI prog 70=some [.d (.int .i64 0),.d (.str []),.d (.bool false)]:=by kernel_rfl
@[go_sem] theorem aoo:zrI prog 82=some [.d (.int .i64 0),.d (.int .i64 0),.d (.int .i64 0),.d (.str []),.d (.bool false),.d (.int .i64 0),.d (.int .i64 0),.d (.int .i64 0),.d (.bool false)]:=by kernel_rfl
@[go_sem] theorem aop:zrI prog 131=some [.ee 1,.d (.int .i64 0),.d (.int .i64 0)]:=by kernel_rfl
@[go_sem] theorem aoq:zrI prog 148=some [.d (.int .i64 0),.d (.int .i64 0),.d (.bool false)]:=by kernel_rfl
@[go_sem] theorem aor:zrI prog 175=some [.d (.int .i64 0),.d (.int .i64 0)]:=by kernel_rfl
@[go_sem] theorem aos:zrI prog 259=some [.d (.int .i64 0),.d (.str [])]:=by kernel_rfl
@[go_sem] theorem aot:plI prog 25=some fun j=>([(0,1),(1,1),(2,1),(3,1),(4,1),(5,1),(6,1),(7,1)]:List (Nat×Nat))[j]?:=by kernel_rfl
@[go_sem] theorem aou:plI prog 28=some fun j=>([(0,1),(1,1),(2,1),(3,1)]:List (Nat×Nat))[j]?:=by kernel_rfl
@[go_sem] theorem aov:plI prog 30=some fun j=>([(0,1),(1,1),(2,1),(3,1),(4,1),(5,1)]:List (Nat×Nat))[j]?:=by kernel_rfl
@[go_sem] theorem aow:plI prog 32=some fun j=>([(0,1),(1,1),(2,1)]:List (Nat×Nat))[j]?:=by kernel_rfl
@[go_sem] theorem aox:plI prog 34=some fun j=>([(0,1),(1,1),(2,1),(3,1)]:List (Nat×Nat))[j]?:=by kernel_rfl
@[go_sem] theorem aoy:plI prog 37=some fun j=>([(0,1),(1,8),(9,8),(17,1),(18,4),(22,6),(28,3),(31,3),(34,4),(38,4),(42,1),(43,1),(44,1),(45,1),(46,1),(47,1),(48,1),(49,1)]:List (Nat×Nat))[j]?:=by kernel_rfl
@[go_sem] theorem aoz:plI prog 47=some fun j=>([(0,1),(1,1)]:List (Nat×Nat))[j]?:=by kernel_rfl
@[go_sem] theorem aoA:plI prog 54=some fun j=>([(0,1),(1,1),(2,1),(3,1)]:List (Nat×Nat))[j]?:=by kernel_rfl
@[go_sem] theorem aoB:plI prog 57=some fun j=>([(0,1),(1,4),(5,1),(6,1),(7,1),(8,1),(9,1),(10,1),(11,1)]:List (Nat×Nat))[j]?:=by kernel_rfl
@[go_sem] theorem aoC:plI prog 60=some fun j=>([(0,1),(1,1)]:List (Nat×Nat))[j]?:=by kernel_rfl
@[go_sem] theorem aoD:plI prog 62=some fun j=>([(0,1),(1,2),(3,1),(4,1),(5,1)]:List (Nat×Nat))[j]?:=by kernel_rfl
@[go_sem] theorem aoE:plI prog 64=some fun j=>([(0,1),(1,1)]:List (Nat×Nat))[j]?:=by kernel_rfl
@[go_sem] theorem aoF:plI prog 66=some fun j=>([(0,1),(1,12),(13,4),(17,6),(23,6),(29,2),(31,1),(32,1),(33,1),(34,1),(35,1),(36,1),(37,1),(38,1)]:List (Nat×Nat))[j]?:=by kernel_rfl
@[go_sem] theorem aoG:plI prog 70=some fun j=>([(0,1),(1,1),(2,1)]:List (Nat×Nat))[j]?:=by kernel_rfl
@[go_sem] theorem aoH:plI prog 82=some fun j=>([(0,1),(1,1),(2,1),(3,1),(4,1),(5,1),(6,1),(7,1),(8,1)]:List (Nat×Nat))[j]?:=by kernel_rfl
@[go_sem] theorem aoI:plI prog 131=some fun j=>([(0,1),(1,1),(2,1)]:List (Nat×Nat))[j]?:=by kernel_rfl
@[go_sem] theorem aoJ:plI prog 148=some fun j=>([(0,1),(1,2)]:List (Nat×Nat))[j]?:=by kernel_rfl
@[go_sem] theorem aoK:plI prog 175=some fun j=>([(0,1),(1,1)]:List (Nat×Nat))[j]?:=by kernel_rfl
@[go_sem] theorem aoL:plI prog 259=some fun j=>([(0,1),(1,1)]:List (Nat×Nat))[j]?:=by kernel_rfl
@[go_sem] theorem aoM:pM prog 25 [.i .i64,.i .i64,.i .i64,.i .i64,.i .i64,.i .i64,.i .i64,.i .i64]=True:=eq_true (EqOK_of χ χ χ χ χ)
@[go_sem] theorem aoN:pM prog 28 [.i .i64,.i .i64,.i .i64,.i .i64]=True:=eq_true (EqOK_of χ χ χ χ χ)
@[go_sem] theorem aoO:pM prog 30 [.i .i64,.i .i64,.i .i64,.i .i64,.i .i64,.i .i64]=True:=eq_true (EqOK_of χ χ χ χ χ)
@[go_sem] theorem aoP:pM prog 32 [.i .i64,.i .i64,.i .i64]=True:=eq_true (EqOK_of χ χ χ χ χ)
@[go_sem] theorem aoQ:pM prog 34 [.i .i64,.i .i64,.i .i64,.i .i64]=True:=eq_true (EqOK_of χ χ χ χ χ)
@[go_sem] theorem aoR:pM prog 64 [.i .i64,.b]=True:=eq_true (EqOK_of χ χ χ χ χ)
@[go_sem] theorem aoS:pM prog 70 [.i .i64,.s,.b]=True:=eq_true (EqOK_of χ χ χ χ χ)
@[go_sem] theorem aoT:pM prog 82 [.i .i64,.i .i64,.i .i64,.s,.b,.i .i64,.i .i64,.i .i64,.b]=True:=eq_true (EqOK_of χ χ χ χ χ)
@[go_sem] theorem aoU:pM prog 175 [.i .i64,.i .i64]=True:=eq_true (EqOK_of χ χ χ χ χ)
@[go_sem] theorem aoV:pM prog 259 [.i .i64,.s]=True:=eq_true (EqOK_of χ χ χ χ χ)
theorem a3{f:FuncId}{fn:Func}{c:Code}{args res:List AD}(n:Nat)(hf:prog.funcs[f]?=some fn)(hcall:∀(args:Array Value) (w:World),(callFunc f args).run prog w=.ok (.enter f args) w)(rs:List ResultVar)(h:wG args→codeE prog [] c ⟨B4 args n,[]⟩ (b3 (g8 prog rs res) .mk) [] (b3 (g8 prog rs res) .mk))(hb:fn.body=some c:=by rfl)(hn:fn.ntmps=n:=by rfl)(hr:fn.results.toList=rs:=by rfl):PureCall prog f args res:=
 adK hf hb hcall b2 _ (by rw[hn];exact NN args n) rs hr h
def aR(n:Int):List D:=[.int .i64 n]
def n8(s:List UInt8):List D:=[.str s]
def eU8(n:Int):List D:=[.int .u8 n]
theorem u5{α:Type}{f:α→List D}(h:∀a,(f a).all D.flat=true)(xs:List α):ig (xs.map f)=true:=by simp[ig,h]
@[go_sem] theorem ats(xs:List Int):ig (xs.map aR)=true:=u5 (fun _=>rfl) xs
@[go_sem] theorem att(xs:List (List UInt8)):ig (xs.map n8)=true:=u5 (fun _=>rfl) xs
structure ff where
 av:Int
 b1:Int
 lW:Int
 cm:Int
 lX:Int
 k8:Int
 ft:Int
 eP:Int
 deriving DecidableEq
def ff.enc(x:ff):List D:=[.int .i64 x.av,.int .i64 x.b1,.int .i64 x.lW,.int .i64 x.cm,.int .i64 x.lX,.int .i64 x.k8,.int .i64 x.ft,.int .i64 x.eP]
@[go_sem] theorem atu(xs:List ff):ig (xs.map ff.enc)=true:=u5 (fun _=>rfl) xs
structure dd where
 size:Int
 base:Int
 cu:Int
 cells:List Int
 deriving DecidableEq
def dd.enc(x:dd):List D:=[.int .i64 x.size,.int .i64 x.base,.int .i64 x.cu,.sl 1 (x.cells.map aR)]
structure J where
 low:Int
 high:Int
 deriving DecidableEq
def J.enc(x:J):List D:=[.int .i64 x.low,.int .i64 x.high]
@[go_sem] theorem atv(xs:List J):ig (xs.map J.enc)=true:=u5 (fun _=>rfl) xs
structure au where
 b0:Int
 av:dd
 aP:List J
 aM:List J
 a0:List J
 br:Int
 aW:Int
 cw:Int
 c4:Int
 deriving DecidableEq
def au.enc(x:au):List D:=[.int .i64 x.b0,.int .i64 x.av.size,.int .i64 x.av.base,.int .i64 x.av.cu,.sl 1 (x.av.cells.map aR),.sl 2 (x.aP.map J.enc),.sl 2 (x.aM.map J.enc),.sl 2 (x.a0.map J.enc),.int .i64 x.br,.int .i64 x.aW,.int .i64 x.cw,.int .i64 x.c4]
structure dU where
 aZ:Int
 eg:Int
 blocked:Int
 gr:Int
 deriving DecidableEq
def dU.enc(x:dU):List D:=[.int .i64 x.aZ,.int .i64 x.eg,.int .i64 x.blocked,.int .i64 x.gr]
@[go_sem] theorem atw(xs:List dU):ig (xs.map dU.enc)=true:=u5 (fun _=>rfl) xs
structure aU where
 aH:Int
 data:List UInt8
 deriving DecidableEq
def aU.enc(x:aU):List D:=[.int .i64 x.aH,.str x.data]
@[go_sem] theorem atx(xs:List aU):ig (xs.map aU.enc)=true:=u5 (fun _=>rfl) xs
structure mr where
 next:Int
 cp:List aU
 deriving DecidableEq
def mr.enc(x:mr):List D:=[.int .i64 x.next,.sl 2 (x.cp.map aU.enc)]
structure b' where
 b0:Int
 bV:mr
 br:Int
 gw:Int
 c4:Int
 deriving DecidableEq
def b'.enc(x:b'):List D:=[.int .i64 x.b0,.int .i64 x.bV.next,.sl 2 (x.bV.cp.map aU.enc),.int .i64 x.br,.int .i64 x.gw,.int .i64 x.c4]
structure eD where
 size:Int
 ck:Int
 aZ:Int
 seen:Int
 gF:Int
 kk:Int
 deriving DecidableEq
def eD.enc(x:eD):List D:=[.int .i64 x.size,.int .i64 x.ck,.int .i64 x.aZ,.int .i64 x.seen,.int .i64 x.gF,.int .i64 x.kk]
@[go_sem] theorem aty(xs:List eD):ig (xs.map eD.enc)=true:=u5 (fun _=>rfl) xs
structure j6 where
 ew:Int
 hO:Bool
 deriving DecidableEq
def j6.enc(x:j6):List D:=[.int .i64 x.ew,.bool x.hO]
@[go_sem] theorem atz(xs:List j6):ig (xs.map j6.enc)=true:=u5 (fun _=>rfl) xs
structure af where
 id:Int
 ak:au
 cV:dU
 a2:b'
 b1:eD
 cL:j6
 fF:Bool
 gO:Bool
 jG:Bool
 hL:Bool
 k_:Bool
 j2:Bool
 oB:Int
 nz:Bool
 deriving DecidableEq
def af.enc(x:af):List D:=[.int .i64 x.id,.int .i64 x.ak.b0,.int .i64 x.ak.av.size,.int .i64 x.ak.av.base,.int .i64 x.ak.av.cu,.sl 1 (x.ak.av.cells.map aR),.sl 2 (x.ak.aP.map J.enc),.sl 2 (x.ak.aM.map J.enc),.sl 2 (x.ak.a0.map J.enc),.int .i64 x.ak.br,.int .i64 x.ak.aW,.int .i64 x.ak.cw,.int .i64 x.ak.c4,.int .i64 x.cV.aZ,.int .i64 x.cV.eg,.int .i64 x.cV.blocked,.int .i64 x.cV.gr,.int .i64 x.a2.b0,.int .i64 x.a2.bV.next,.sl 2 (x.a2.bV.cp.map aU.enc),.int .i64 x.a2.br,.int .i64 x.a2.gw,.int .i64 x.a2.c4,.int .i64 x.b1.size,.int .i64 x.b1.ck,.int .i64 x.b1.aZ,.int .i64 x.b1.seen,.int .i64 x.b1.gF,.int .i64 x.b1.kk,.int .i64 x.cL.ew,.bool x.cL.hO,.bool x.fF,.bool x.gO,.bool x.jG,.bool x.hL,.bool x.k_,.bool x.j2,.int .i64 x.oB,.bool x.nz]
structure iy where
 aZ:Int
 jO:Int
 blocked:Int
 deriving DecidableEq
def iy.enc(x:iy):List D:=[.int .i64 x.aZ,.int .i64 x.jO,.int .i64 x.blocked]
@[go_sem] theorem atA(xs:List iy):ig (xs.map iy.enc)=true:=u5 (fun _=>rfl) xs
structure eL where
 ck:Int
 aZ:Int
 seen:Int
 d9:Int
 deriving DecidableEq
def eL.enc(x:eL):List D:=[.int .i64 x.ck,.int .i64 x.aZ,.int .i64 x.seen,.int .i64 x.d9]
@[go_sem] theorem atB(xs:List eL):ig (xs.map eL.enc)=true:=u5 (fun _=>rfl) xs
structure aq where
 bp:Int
 aC:Int
 aH:Int
 data:List UInt8
 aW:Bool
 c4:Int
 aZ:Int
 br:Int
 ft:Bool
 deriving DecidableEq
def aq.enc(x:aq):List D:=[.int .i64 x.bp,.int .i64 x.aC,.int .i64 x.aH,.str x.data,.bool x.aW,.int .i64 x.c4,.int .i64 x.aZ,.int .i64 x.br,.bool x.ft]
@[go_sem] theorem atC(xs:List aq):ig (xs.map aq.enc)=true:=u5 (fun _=>rfl) xs
structure aT where
 bO:Int
 c0:List aq
 deriving DecidableEq
def aT.enc(x:aT):List D:=[.int .i64 x.bO,.sl 9 (x.c0.map aq.enc)]
structure aa where
 eO:Bool
 own:ff
 da:ff
 ab:List af
 cm:dU
 dq:eD
 fe:iy
 fc:iy
 eo:eL
 en:eL
 pF:Bool
 lF:Bool
 lG:Bool
 dE:Int
 bO:Int
 an:List aT
 ef:Int
 d9:Int
 deriving DecidableEq
def aa.enc(x:aa):List D:=[.bool x.eO,.int .i64 x.own.av,.int .i64 x.own.b1,.int .i64 x.own.lW,.int .i64 x.own.cm,.int .i64 x.own.lX,.int .i64 x.own.k8,.int .i64 x.own.ft,.int .i64 x.own.eP,.int .i64 x.da.av,.int .i64 x.da.b1,.int .i64 x.da.lW,.int .i64 x.da.cm,.int .i64 x.da.lX,.int .i64 x.da.k8,.int .i64 x.da.ft,.int .i64 x.da.eP,.sl 39 (x.ab.map af.enc),.int .i64 x.cm.aZ,.int .i64 x.cm.eg,.int .i64 x.cm.blocked,.int .i64 x.cm.gr,.int .i64 x.dq.size,.int .i64 x.dq.ck,.int .i64 x.dq.aZ,.int .i64 x.dq.seen,.int .i64 x.dq.gF,.int .i64 x.dq.kk,.int .i64 x.fe.aZ,.int .i64 x.fe.jO,.int .i64 x.fe.blocked,.int .i64 x.fc.aZ,.int .i64 x.fc.jO,.int .i64 x.fc.blocked,.int .i64 x.eo.ck,.int .i64 x.eo.aZ,.int .i64 x.eo.seen,.int .i64 x.eo.d9,.int .i64 x.en.ck,.int .i64 x.en.aZ,.int .i64 x.en.seen,.int .i64 x.en.d9,.bool x.pF,.bool x.lF,.bool x.lG,.int .i64 x.dE,.int .i64 x.bO,.sl 2 (x.an.map aT.enc),.int .i64 x.ef,.int .i64 x.d9]
structure bL where
 aH:Int
 data:List UInt8
 aW:Bool
 deriving DecidableEq
def bL.enc(x:bL):List D:=[.int .i64 x.aH,.str x.data,.bool x.aW]
@[go_sem] theorem atD(xs:List bL):ig (xs.map bL.enc)=true:=u5 (fun _=>rfl) xs
structure b9 where
 id:Int
 cL:j6
 deriving DecidableEq
def b9.enc(x:b9):List D:=[.int .i64 x.id,.int .i64 x.cL.ew,.bool x.cL.hO]
@[go_sem] theorem atE(xs:List b9):ig (xs.map b9.enc)=true:=u5 (fun _=>rfl) xs
def aa.bT(x:aa):List V:=[.d (.bool x.eO),.i x.own.av,.i x.own.b1,.i x.own.lW,.i x.own.cm,.i x.own.lX,.i x.own.k8,.i x.own.ft,.i x.own.eP,.i x.da.av,.i x.da.b1,.i x.da.lW,.i x.da.cm,.i x.da.lX,.i x.da.k8,.i x.da.ft,.i x.da.eP,.d (.sl 39 (x.ab.map af.enc)),.i x.cm.aZ,.i x.cm.eg,.i x.cm.blocked,.i x.cm.gr,.i x.dq.size,.i x.dq.ck,.i x.dq.aZ,.i x.dq.seen,.i x.dq.gF,.i x.dq.kk,.i x.fe.aZ,.i x.fe.jO,.i x.fe.blocked,.i x.fc.aZ,.i x.fc.jO,.i x.fc.blocked,.i x.eo.ck,.i x.eo.aZ,.i x.eo.seen,.i x.eo.d9,.i x.en.ck,.i x.en.aZ,.i x.en.seen,.i x.en.d9,.d (.bool x.pF),.d (.bool x.lF),.d (.bool x.lG),.i x.dE,.i x.bO,.d (.sl 2 (x.an.map aT.enc)),.i x.ef,.i x.d9]
def aa.aG(x:aa)(e8 cB:V):List V:=[.d (.bool x.eO),.i x.own.av,.i x.own.b1,.i x.own.lW,.i x.own.cm,.i x.own.lX,.i x.own.k8,.i x.own.ft,.i x.own.eP,.i x.da.av,.i x.da.b1,.i x.da.lW,.i x.da.cm,.i x.da.lX,.i x.da.k8,.i x.da.ft,.i x.da.eP,e8,.i x.cm.aZ,.i x.cm.eg,.i x.cm.blocked,.i x.cm.gr,.i x.dq.size,.i x.dq.ck,.i x.dq.aZ,.i x.dq.seen,.i x.dq.gF,.i x.dq.kk,.i x.fe.aZ,.i x.fe.jO,.i x.fe.blocked,.i x.fc.aZ,.i x.fc.jO,.i x.fc.blocked,.i x.eo.ck,.i x.eo.aZ,.i x.eo.seen,.i x.eo.d9,.i x.en.ck,.i x.en.aZ,.i x.en.seen,.i x.en.d9,.d (.bool x.pF),.d (.bool x.lF),.d (.bool x.lG),.i x.dE,.i x.bO,cB,.i x.ef,.i x.d9]
def aa.cc:List V:=[.d (.bool false),.i 0,.i 0,.i 0,.i 0,.i 0,.i 0,.i 0,.i 0,.i 0,.i 0,.i 0,.i 0,.i 0,.i 0,.i 0,.i 0,.ee 39,.i 0,.i 0,.i 0,.i 0,.i 0,.i 0,.i 0,.i 0,.i 0,.i 0,.i 0,.i 0,.i 0,.i 0,.i 0,.i 0,.i 0,.i 0,.i 0,.i 0,.i 0,.i 0,.i 0,.i 0,.d (.bool false),.d (.bool false),.d (.bool false),.i 0,.i 0,.ee 2,.i 0,.i 0]
attribute [go_sem,simp] aa.enc aa.bT aa.aG aa.cc
def af.bT(x:af):List V:=[.i x.id,.i x.ak.b0,.i x.ak.av.size,.i x.ak.av.base,.i x.ak.av.cu,.d (.sl 1 (x.ak.av.cells.map aR)),.d (.sl 2 (x.ak.aP.map J.enc)),.d (.sl 2 (x.ak.aM.map J.enc)),.d (.sl 2 (x.ak.a0.map J.enc)),.i x.ak.br,.i x.ak.aW,.i x.ak.cw,.i x.ak.c4,.i x.cV.aZ,.i x.cV.eg,.i x.cV.blocked,.i x.cV.gr,.i x.a2.b0,.i x.a2.bV.next,.d (.sl 2 (x.a2.bV.cp.map aU.enc)),.i x.a2.br,.i x.a2.gw,.i x.a2.c4,.i x.b1.size,.i x.b1.ck,.i x.b1.aZ,.i x.b1.seen,.i x.b1.gF,.i x.b1.kk,.i x.cL.ew,.d (.bool x.cL.hO),.d (.bool x.fF),.d (.bool x.gO),.d (.bool x.jG),.d (.bool x.hL),.d (.bool x.k_),.d (.bool x.j2),.i x.oB,.d (.bool x.nz)]
def af.aG(x:af)(e8 cB cJ ct eA:V):List V:=[.i x.id,.i x.ak.b0,.i x.ak.av.size,.i x.ak.av.base,.i x.ak.av.cu,e8,cB,cJ,ct,.i x.ak.br,.i x.ak.aW,.i x.ak.cw,.i x.ak.c4,.i x.cV.aZ,.i x.cV.eg,.i x.cV.blocked,.i x.cV.gr,.i x.a2.b0,.i x.a2.bV.next,eA,.i x.a2.br,.i x.a2.gw,.i x.a2.c4,.i x.b1.size,.i x.b1.ck,.i x.b1.aZ,.i x.b1.seen,.i x.b1.gF,.i x.b1.kk,.i x.cL.ew,.d (.bool x.cL.hO),.d (.bool x.fF),.d (.bool x.gO),.d (.bool x.jG),.d (.bool x.hL),.d (.bool x.k_),.d (.bool x.j2),.i x.oB,.d (.bool x.nz)]
def af.cc:List V:=[.i 0,.i 0,.i 0,.i 0,.i 0,.ee 1,.ee 2,.ee 2,.ee 2,.i 0,.i 0,.i 0,.i 0,.i 0,.i 0,.i 0,.i 0,.i 0,.i 0,.ee 2,.i 0,.i 0,.i 0,.i 0,.i 0,.i 0,.i 0,.i 0,.i 0,.i 0,.d (.bool false),.d (.bool false),.d (.bool false),.d (.bool false),.d (.bool false),.d (.bool false),.d (.bool false),.i 0,.d (.bool false)]
attribute [go_sem,simp] af.enc af.bT af.aG af.cc
def au.bT(x:au):List V:=[.i x.b0,.i x.av.size,.i x.av.base,.i x.av.cu,.d (.sl 1 (x.av.cells.map aR)),.d (.sl 2 (x.aP.map J.enc)),.d (.sl 2 (x.aM.map J.enc)),.d (.sl 2 (x.a0.map J.enc)),.i x.br,.i x.aW,.i x.cw,.i x.c4]
def au.aG(x:au)(e8 cB cJ ct:V):List V:=[.i x.b0,.i x.av.size,.i x.av.base,.i x.av.cu,e8,cB,cJ,ct,.i x.br,.i x.aW,.i x.cw,.i x.c4]
def au.cc:List V:=[.i 0,.i 0,.i 0,.i 0,.ee 1,.ee 2,.ee 2,.ee 2,.i 0,.i 0,.i 0,.i 0]
attribute [go_sem,simp] au.enc au.bT au.aG au.cc
def b'.bT(x:b'):List V:=[.i x.b0,.i x.bV.next,.d (.sl 2 (x.bV.cp.map aU.enc)),.i x.br,.i x.gw,.i x.c4]
def b'.aG(x:b')(e8:V):List V:=[.i x.b0,.i x.bV.next,e8,.i x.br,.i x.gw,.i x.c4]
def b'.cc:List V:=[.i 0,.i 0,.ee 2,.i 0,.i 0,.i 0]
attribute [go_sem,simp] b'.enc b'.bT b'.aG b'.cc
def aq.bT(x:aq):List V:=[.i x.bp,.i x.aC,.i x.aH,.d (.str x.data),.d (.bool x.aW),.i x.c4,.i x.aZ,.i x.br,.d (.bool x.ft)]
def aq.cc:List V:=[.i 0,.i 0,.i 0,.d (.str []),.d (.bool false),.i 0,.i 0,.i 0,.d (.bool false)]
attribute [go_sem,simp] aq.enc aq.bT aq.cc
def eD.bT(x:eD):List V:=[.i x.size,.i x.ck,.i x.aZ,.i x.seen,.i x.gF,.i x.kk]
def eD.cc:List V:=[.i 0,.i 0,.i 0,.i 0,.i 0,.i 0]
attribute [go_sem,simp] eD.enc eD.bT eD.cc
def ff.bT(x:ff):List V:=[.i x.av,.i x.b1,.i x.lW,.i x.cm,.i x.lX,.i x.k8,.i x.ft,.i x.eP]
def ff.cc:List V:=[.i 0,.i 0,.i 0,.i 0,.i 0,.i 0,.i 0,.i 0]
attribute [go_sem,simp] ff.enc ff.bT ff.cc
theorem cq{α:Type}(f:α→List D)(xs:List α)(i:Nat)(h:i<xs.length):(xs.map f)[i]?=some (f xs[i]):=by simp[h]
theorem dX{i m:Nat}(h:i<m)(hm:m≤maxLen):i64.wrap ((i:Int)+1)=((i+1:Nat):Int):=by
 simp only[maxLen]at hm;rw[bA]<;>omega
theorem EY{n:Int}(h:dOk (.int .i64 n)):-9223372036854775808≤n∧n≤9223372036854775807:=by
 have h1:IntKind.i64.min=-9223372036854775808:=by decide
 have h2:IntKind.i64.max=9223372036854775807:=by decide
 simp only[dOk,h1,h2]at h;exact h
theorem aaF{α:Type}{xs ys:List α}{i:Nat}(he:xs.take i=ys.take i)(hx:i<xs.length)(hy:i<ys.length)(h:xs[i]=ys[i]):xs.take (i+1)=ys.take (i+1):=by
 rw[gV,gV,he,cD hx,cD hy,h]
theorem fI{α:Type}{e:α→List D}{sz:Nat}{xs:List α}{rs:List AD}(h:wG (.one (.sl sz (xs.map e))::rs)):xs.length≤maxLen:=by
 have:=h.1.1;rwa [I]at this
def aio(k:Int):Int:=i64.wrap (k+1)
def oQ:Nat→Int→Int
 |0,k=>k
 |n+1,k=>aio (oQ n k)
theorem P2(b:Nat)(k:Int):∀a,oQ (a+b) k=oQ a (oQ b k)
 |0=>by simp[oQ]
 |a+1=>by rw[Nat.add_right_comm,oQ,P2 b k a];rfl
section
variable {α:Type} (mk:Int→α) (c:Nat)
def Cx(k:Int)(xs:List α)(i:Nat):List α:=(List.range i).map (fun j=>mk (oQ (c * j) k))++xs.drop i
theorem aip(k:Int)(xs:List α)(i:Nat)(h:i≤xs.length):(Cx mk c k xs i).length=xs.length:=by simp[Cx];omega
@[go_sem] theorem aiq(k:Int)(xs:List α):(Cx mk c k xs xs.length).length=xs.length:=aip mk c k xs _ (fE _)
@[go_sem] theorem as0(e:α→List D)(k:Int)(xs:List α):((Cx mk c k xs xs.length).map e).take xs.length=(Cx mk c k xs xs.length).map e:=e7 (by simp[aiq])
def Hz [DecidableEq α]:Int→List α→Int
 |k,[]=>k
 |k,x::xs=>if x=mk k then Hz (oQ c k) xs else -1
theorem XP [DecidableEq α]:∀(n:Nat) (k:Int),Hz mk c k ((List.range n).map fun j=>mk (oQ (c * j) k))=oQ (c * n) k
 |0,k=>by simp[Hz,oQ]
 |n+1,k=>by
  rw[List.range_succ_eq_map,eT,List.map_map,Hz,if_pos (by simp[oQ])];have:((fun j=>mk (oQ (c * j) k))∘Nat.succ)=fun j=>mk (oQ (c * j) (oQ c k)):=by
   funext j
   simp only[Function.comp,Nat.succ_eq_add_one,Nat.mul_add,Nat.mul_one,P2]
  rw[this,XP n (oQ c k),←P2,Nat.mul_add,Nat.mul_one]
theorem air [DecidableEq α](k:Int)(xs:List α):Hz mk c k (Cx mk c k xs xs.length)=oQ (c * xs.length) k:=by
 unfold Cx;rw[List.drop_length,gm];exact XP mk c _ _
attribute [go_sem] air
end
section
variable {α:Type}
end
def mc{α:Type}(f:α→Nat)(xs:List α):Nat:=(xs.map f).sum
theorem ais{α:Type}(f:α→Nat)(xs:List α)(i:Nat)(h:i<xs.length):mc f (xs.take (i+1))=mc f (xs.take i)+f xs[i]:=by
 unfold mc;rw[gV,cD h];simp only[Option.toList_some,List.map_append,eT,List.map_nil,List.sum_append,List.sum_cons,List.sum_nil,Nat.add_zero]
theorem ait{α:Type}(f:α→Nat)(xs:List α)(i:Nat):mc f (xs.take i)≤mc f xs:=by
 unfold mc
 conv=>rhs;rw[←List.take_append_drop i xs]
 simp only[List.map_append,List.sum_append];omega
theorem E5{α:Type}(f:α→Nat)(xs:List α)(i:Nat)(h:i<xs.length):f xs[i]≤mc f xs:=by
 have h1:=ais f xs i h;have h2:=ait f xs (i+1);omega
section
variable {α:Type}
def Eu(mk:Int→α→α)(A6:Int→α→Int):Int→List α→List α
 |_,[]=>[]
 |k,x::xs=>mk k x::Eu mk A6 (A6 k x) xs
variable (mk:Int→α→α) (A6:Int→α→Int)
theorem P3:∀(xs:List α) (k:Int),(Eu mk A6 k xs).length=xs.length
 |[],_=>rfl
 |x::xs,k=>by simp[Eu,P3 xs]
@[go_sem] theorem as1(k:Int)(xs:List α):(Eu mk A6 k xs).length=xs.length:=P3 mk A6 xs k
@[go_sem] theorem as2(e:α→List D)(k:Int)(xs:List α):((Eu mk A6 k xs).map e).take xs.length=(Eu mk A6 k xs).map e:=e7 (by simp[P3])
end
theorem di(a b:Bool):(bif a then b else false)=(a&&b):=by cases a<;>rfl
theorem d5(a b:Bool):(bif a then true else b)=(a||b):=by cases a<;>rfl
theorem gd{a b:Bool}(h:a=true↔b=true):[AD.one (D.bool a)]=[AD.one (D.bool b)]:=by
 have:a=b:=by cases a<;>cases b<;>simp_all
 rw[this]
@[go_sem] theorem as3:ofVal (.pointer none)=.al:=rfl
def dd.fo(x:dd):Nat:=x.cells.length
def au.fo(x:au):Nat:=dd.fo x.av+x.aP.length+x.aM.length+x.a0.length
def aU.fo(x:aU):Nat:=x.data.length
def mr.fo(x:mr):Nat:=(x.cp.length+mc aU.fo x.cp)
def b'.fo(x:b'):Nat:=mr.fo x.bV
def af.fo(x:af):Nat:=au.fo x.ak+b'.fo x.a2
def aq.fo(x:aq):Nat:=x.data.length
def aT.fo(x:aT):Nat:=(x.c0.length+mc aq.fo x.c0)
def aa.fo(x:aa):Nat:=(x.ab.length+mc af.fo x.ab)+(x.an.length+mc aT.fo x.an)
structure aaS where
 bytes:List Int
 gF:Int
 deriving DecidableEq
def ca(n cU hi:Int):Bool:=decide (cU≤n)&&decide (n≤hi)
theorem j1(n cU hi:Int):aL 41 [.one (.int .i64 n),.one (.int .i64 cU),.one (.int .i64 hi)] [.one (.bool (ca n cU hi))]:=by
 refine a3 15 func41 call41 [.tmp 6] ?_;intro _;simp only[go_sem]
 repeat((first|refine bw ?_|refine f' ?_);simp only[go_sem])
 simp[ca]
theorem jt(n cU hi:Int):aL 31 [.one (.int .i64 n),.one (.int .i64 cU),.one (.int .i64 hi)] [.one (.bool (ca n cU hi))]:=by
 refine a3 15 func31 call31 [.tmp 6] ?_;intro _;simp only[go_sem]
 repeat((first|refine bw ?_|refine f' ?_);simp only[go_sem])
 simp[ca]
def QS:List (List bR):=cS 18 [387420488,387420486,387420480,387420462,387420408,387420246,387419760,380253690,380249316,387173358,387389871,387271773,386897796,385834914,382646268,373071582,344373768,258280326]
def QT:List (List bR):=cS 24 [282429536477,282429536479,282429536472,282429536454,282429536400,282429536238,282429535752,282429534294,282429529920,282429516798,277220115603,277220765142,277220410848,277219288917,277216100271,277206534333,282278843433,282364936875,282063609828,281288768850,278964245916,271969183278,251048476872,188286357654]
def HR:List (List bR):=cS 9 [18707,18709,18702,18684,18630,19561,19075,17496,13122]
def Zj:List (List bR):=cS 10 [57959,57957,59017,59035,58972,58810,58324,56862,52488,39366]
attribute [go_sem] QS QT HR Zj
def dj(r:J):Bool:=decide (0≤r.low)&&decide (r.low<r.high)&&decide (r.high≤4611686018427387903)
def rq(xs:List J)(i:Nat):Bool:=
 match xs[i]? with
 |some x=>dj x&&(match i with|0=>true|j+1=>match xs[j]? with|some p=>decide (p.high<x.low)|none=>true)
 |none=>true
def cY(xs:List J):Bool:=(List.range xs.length).all (rq xs)
theorem Zk(xs:List J)(i:Nat)(h:i<xs.length)(h2:rq xs i=false):cY xs=false:=by
 unfold cY;rw[List.all_eq_false];exact⟨i,List.mem_range.2 h,by simp[h2]⟩
theorem Zl{p:Nat→Bool}{i:Nat}(h:(List.range i).all p=true)(h2:p i=true):(List.range (i+1)).all p=true:=by
 rw[List.range_succ,List.all_append,h];simp[h2]
def cj(a b:Int):Int:=if b<a then b else a
def dp(a b:Int):Int:=if b>a then b else a
def l_(s:List J×Bool×J)(x:J):List J×Bool×J:=
 if x.high<s.2.2.low then(s.1++[x],s.2.1,s.2.2)
 else if s.2.2.high<x.low then((if s.2.1=true then s.1 else s.1++[s.2.2])++[x],true,s.2.2)
 else(s.1,s.2.1,⟨cj s.2.2.low x.low,dp s.2.2.high x.high⟩)
def hj(xs:List J)(r:J):Nat→List J×Bool×J
 |0=>([],false,r)
 |i+1=>match xs[i]? with|some x=>l_ (hj xs r i) x|none=>hj xs r i
theorem QU(xs:List J)(r:J)(i:Nat)(h:i<xs.length):hj xs r (i+1)=l_ (hj xs r i) xs[i]:=by
 rw[hj,cD h]
theorem Lv(xs:List J)(r:J):∀i,(hj xs r i).1.length≤i+(if(hj xs r i).2.1=true then 1 else 0)
 |0=>by simp[hj]
 |i+1=>by
  have:=Lv xs r i;rw[hj];split
  ·unfold l_;by_cases h1:(hj xs r i).2.1=true
   ·simp only[h1,if_true]at this⊢;split
    ·simp;omega
    ·split
     ·simp;omega
     ·simp;omega
   ·simp only[h1]at this⊢;split
    ·simp at this⊢;omega
    ·split
     ·simp at this⊢;omega
     ·simp at this⊢;omega
  ·by_cases h1:(hj xs r i).2.1=true
   ·simp only[h1,if_true]at this⊢;omega
   ·simp[h1]at this⊢;omega
def gT(xs:List J)(r:J):List J:=
 if cY xs&&dj r=true then(if(hj xs r xs.length).2.1=true then(hj xs r xs.length).1 else(hj xs r xs.length).1++[(hj xs r xs.length).2.2])else xs
theorem Mp(xs:List J)(r:J):(gT xs r).length≤xs.length+1:=by
 have:=Lv xs r xs.length;unfold gT;split
 ·split
  ·rename_i h;rw[if_pos h]at this;exact this
  ·rename_i h;rw[if_neg h]at this;simp;omega
 ·omega
theorem Lw(xs:List J)(h:0<xs.length):rq xs 0=dj xs[0]:=by
 unfold rq;rw[cD h];simp
theorem HS(xs:List J)(j:Nat)(h:j+1<xs.length):rq xs (j+1)=(dj xs[j+1]&&decide (xs[j].high<xs[j+1].low)):=by
 unfold rq;rw[cD h];simp only[cD (show j<xs.length by omega)]
theorem HT(l h:Int):aL 206 [.agg [.int .i64 l,.int .i64 h]] [.one (.bool (dj ⟨l,h⟩))]:=by
 refine a3 18 func206 call206 [.tmp 2] ?_;intro _
 try simp only[go_sem]
 repeat'(refine bw ?_<;>simp only[go_sem])
 all_goals(simp[dj];try(cases decide (0≤l)<;>cases decide (l<h)<;>simp))
theorem IM(xs:List J)(hx:xs.length≤8388608):aL 203 [.one (.sl 2 (xs.map J.enc))] [.one (.sl 2 (xs.map J.enc))]:=by
 refine a3 6 func203 call203 [.tmp 2] ?_;intro _
 try simp only[go_sem,I]
 repeat'(first|(with_reducible refine az ?_)|fail)
 all_goals simp
theorem Bd(xs:List J):aL 205 [.one (.sl 2 (xs.map J.enc))] [.one (.bool (cY xs))]:=by
 refine a3 31 func205 call205 [.tmp 2] ?_;intro ok;have hm:=fI ok;simp only[go_sem,I];refine cr.intro (fun i:Nat=>⟨(.d (.sl 2 (xs.map J.enc))::.al::.d (.bool false)::.al::.al::.d (.sl 2 (xs.map J.enc))::.i xs.length::.i i::aA 23 []),[]⟩)
   (fun i=>xs.length-i) (fun i=>i≤xs.length∧(List.range i).all (rq xs)=true) 0 [] ⟨by omega,by simp⟩ ?_ ?_
 ·simp only[go_sem];simp
 ·rintro i ⟨hi,he⟩;simp only[go_sem];refine bP (fun h1=>?_) (fun h1=>?_)
  ·have ax:=cQ h1;have hlt:i<xs.length:=by omega
   have aB:=cq J.enc xs i hlt;have hw:=dX hlt hm;have zE:=Zk xs i hlt;have zF:rq xs i=true→(List.range (i+1)).all (rq xs)=true:=Zl he
   cases i with
   |zero=>
    rw[Lw xs hlt]at zE zF;have hr:dj ⟨xs[0].low,xs[0].high⟩=dj xs[0]:=rfl;have q2:i64.wrap (0+1)=((1:Nat):Int):=by rw[bA]<;>omega
    try simp only[go_sem,I,aB,J.enc,el,Int.natCast_zero]
    repeat'(first|((first|refine ay.intro (by apply HT) ?_|with_reducible refine lR ?_|refine f' ?_|refine bo QS χ ψ ?_|refine bP (fun h=>?_) (fun h=>?_))<;>simp only[go_sem,Int.lt_irrefl,eQ])|(with_reducible refine az ?_)|fail)
    all_goals first
     |(rw[hr]at h;rw[zE (by revert h;cases dj xs[0]<;>simp)])
     |(rw[hr]at h;refine bE.intro 1 [] ⟨by omega,zF (by revert h;cases dj xs[0]<;>simp)⟩ ω ?_;simp only[go_sem,q2])
   |succ j=>
    rw[HS xs j hlt]at zE zF;have g3:=cq J.enc xs j ω;have hs:i64.wrap (((j+1:Nat):Int)-1)=(j:Int):=by simp only[maxLen]at hm;rw[bA]<;>omega
    have hg:=bC (p:=(0:Int)<((j+1:Nat):Int)) ω;have hr:dj ⟨xs[j+1].low,xs[j+1].high⟩=dj xs[j+1]:=rfl;have hd:decide (xs[j+1].low≤xs[j].high)=!decide (xs[j].high<xs[j+1].low):=by by_cases hx:xs[j].high<xs[j+1].low<;>simp[hx]<;>omega
    try simp only[go_sem,I,aE,aB,J.enc]
    repeat'(first|((first|refine ay.intro (by apply HT) ?_|refine f' ?_|refine bo QS χ ψ ?_|refine bP (fun h=>?_) (fun h=>?_))<;>simp only[go_sem,I,aE,g3,J.enc,hs,hg])|(with_reducible refine az ?_)|fail)
    all_goals first
     |(rw[hr,hd]at h;rw[zE (by revert h;cases dj xs[j+1]<;>cases decide (xs[j].high<xs[j+1].low)<;>simp)])
     |(rw[hr,hd]at h;refine bE.intro (j+1+1) [] ⟨by omega,zF (by revert h;cases dj xs[j+1]<;>cases decide (xs[j].high<xs[j+1].low)<;>simp)⟩ ω ?_;simp only[go_sem,hw])
  ·have ax:=c2 h1;have hC:i=xs.length:=by omega
   subst hC;simp only[go_sem];simp[cY,he]
theorem HU(l h:Int):aL 209 [.agg [.int .i64 l,.int .i64 h]] [.one (.bool (dj ⟨l,h⟩))]:=by
 refine a3 18 func209 call209 [.tmp 2] ?_;intro _
 try simp only[go_sem]
 repeat'(refine bw ?_<;>simp only[go_sem])
 all_goals(simp[dj];try(cases decide (0≤l)<;>cases decide (l<h)<;>simp))
theorem ML(xs:List J)(hx:xs.length≤8388608):aL 208 [.one (.sl 2 (xs.map J.enc))] [.one (.sl 2 (xs.map J.enc))]:=by
 refine a3 6 func208 call208 [.tmp 2] ?_;intro _
 try simp only[go_sem,I]
 repeat'(first|(with_reducible refine az ?_)|fail)
 all_goals simp
theorem xb(xs:List J):aL 196 [.one (.sl 2 (xs.map J.enc))] [.one (.bool (cY xs))]:=by
 refine a3 34 func196 call196 [.tmp 2] ?_;intro ok;have hm:=fI ok;simp only[go_sem];refine cr.intro (fun i:Nat=>⟨(.d (.sl 2 (xs.map J.enc))::.al::.d (.bool false)::.i i::aA 30 []),[]⟩)
   (fun i=>xs.length-i) (fun i=>i≤xs.length∧(List.range i).all (rq xs)=true) 0 [] ⟨by omega,by simp⟩ ?_ ?_
 ·simp only[go_sem];simp
 ·rintro i ⟨hi,he⟩;simp only[go_sem,I];refine bP (fun h1=>?_) (fun h1=>?_)
  ·have ax:=cQ h1;have hlt:i<xs.length:=by omega
   have aB:=cq J.enc xs i hlt;have hw:=dX hlt hm;have zE:=Zk xs i hlt;have zF:rq xs i=true→(List.range (i+1)).all (rq xs)=true:=Zl he
   cases i with
   |zero=>
    rw[Lw xs hlt]at zE zF;have hr:dj ⟨xs[0].low,xs[0].high⟩=dj xs[0]:=rfl;have q2:i64.wrap (0+1)=((1:Nat):Int):=by rw[bA]<;>omega
    try simp only[go_sem,Int.natCast_zero]
    repeat'(first|((first|refine ay.intro (by apply HU) ?_|with_reducible refine lR ?_|refine f' ?_|refine bo QT χ ψ ?_|refine bP (fun h=>?_) (fun h=>?_))<;>simp only[go_sem,I,aB,J.enc,el,Int.lt_irrefl,eQ])|(with_reducible refine az ?_)|fail)
    all_goals first
     |(rw[hr]at h;rw[zE (by revert h;cases dj xs[0]<;>simp)])
     |(rw[hr]at h;refine bE.intro 1 [] ⟨by omega,zF (by revert h;cases dj xs[0]<;>simp)⟩ ω ?_;simp only[go_sem,q2])
   |succ j=>
    rw[HS xs j hlt]at zE zF;have g3:=cq J.enc xs j ω;have hs:i64.wrap (((j+1:Nat):Int)-1)=(j:Int):=by simp only[maxLen]at hm;rw[bA]<;>omega
    have hg:=bC (p:=(0:Int)<((j+1:Nat):Int)) ω;have hr:dj ⟨xs[j+1].low,xs[j+1].high⟩=dj xs[j+1]:=rfl;have hd:decide (xs[j+1].low≤xs[j].high)=!decide (xs[j].high<xs[j+1].low):=by by_cases hx:xs[j].high<xs[j+1].low<;>simp[hx]<;>omega
    try simp only[go_sem]
    repeat'(first|((first|refine ay.intro (by apply HU) ?_|refine f' ?_|refine bo QT χ ψ ?_|refine bP (fun h=>?_) (fun h=>?_))<;>simp only[go_sem,I,aE,aB,g3,J.enc,hs,hg])|(with_reducible refine az ?_)|fail)
    all_goals first
     |(rw[hr,hd]at h;rw[zE (by revert h;cases dj xs[j+1]<;>cases decide (xs[j].high<xs[j+1].low)<;>simp)])
     |(rw[hr,hd]at h;refine bE.intro (j+1+1) [] ⟨by omega,zF (by revert h;cases dj xs[j+1]<;>cases decide (xs[j].high<xs[j+1].low)<;>simp)⟩ ω ?_;simp only[go_sem,hw])
  ·have ax:=c2 h1;have hC:i=xs.length:=by omega
   subst hC;simp only[go_sem];simp[cY,he]
theorem Zm(xs:List J)(l h:Int)(hx:xs.length≤1048576):aL 150 [.one (.sl 2 (xs.map J.enc)),.agg [.int .i64 l,.int .i64 h]] [.one (.sl 2 ((gT xs ⟨l,h⟩).map J.enc))]:=by
 refine a3 71 func150 call150 [.tmp 4] ?_;intro ok;have hm:=fI ok;simp only[go_sem];refine ae.intro (Bd xs) ?_;simp only[go_sem]
 repeat'(first
  |(refine ae.intro (HT l h) ?_;simp only[go_sem,I])
  |(refine ay.intro (HT l h) ?_;simp only[go_sem])
  |(refine bw ?_;simp only[go_sem])|(refine f' ?_;simp only[go_sem,I]))
 have hz:(bif !cY xs then true else !dj ⟨l,h⟩)=!(cY xs&&dj ⟨l,h⟩):=by cases cY xs<;>cases dj ⟨l,h⟩<;>rfl
 rw[hz];refine bP (fun h0=>?_) (fun h0=>?_)
 ·have b6:(cY xs&&dj ⟨l,h⟩)=false:=by cases hq:(cY xs&&dj ⟨l,h⟩)with|false=>rfl|true=>rw[hq]at h0;cases h0
  have mb:(xs.map J.enc).take xs.length=xs.map J.enc:=e7 ξ;simp only[go_sem];refine ae.intro (IM xs ω) ?_;simp only[go_sem];simp[gT,b6,mb]
 ·have b6:(cY xs&&dj ⟨l,h⟩)=true:=by cases hq:(cY xs&&dj ⟨l,h⟩)with|true=>rfl|false=>rw[hq]at h0;cases h0
  simp only[go_sem];refine cr.intro (fun i:Nat=>⟨(.d (.sl 2 (xs.map J.enc))::.al::.al::.ptr 0 0 0::.ee 2::.sl 1 0 (hj xs ⟨l,h⟩ i).1.length::.d (.bool (hj xs ⟨l,h⟩ i).2.1)::aA 13 (.d (.sl 2 (xs.map J.enc))::.i xs.length::.i i::aA 48 [])),[.box [.d (.int .i64 (hj xs ⟨l,h⟩ i).2.2.low),.d (.int .i64 (hj xs ⟨l,h⟩ i).2.2.high)],.ah 2 ((hj xs ⟨l,h⟩ i).1.map J.enc) true]⟩)
   (fun i=>xs.length-i) (fun i=>i≤xs.length) 0 [0,1] ω ?_ ?_
  ·simp only[go_sem];simp[hj]
  ·intro i hi;have QV:=Lv xs ⟨l,h⟩ i;have zG:(hj xs ⟨l,h⟩ i).1.length≤i+1:=by split at QV<;>omega
   simp only[go_sem];refine bP (fun h1=>?_) (fun h1=>?_)
   ·have ax:=cQ h1;have hlt:i<xs.length:=by omega
    have aB:=cq J.enc xs i hlt;have hw:=dX hlt hm;have dx:=QU xs ⟨l,h⟩ i hlt;generalize hs:hj xs ⟨l,h⟩ i=s at dx zG;obtain⟨o,p,⟨wJ,HV⟩⟩:=s;simp only at zG;by_cases hA:xs[i].high<wJ
    ·have p4:=bC hA;simp only[l_,hA,if_true]at dx
     try simp only[go_sem,I,aE,aB,J.enc,p4]
     repeat'(first|(with_reducible refine az ?_)|fail)
     all_goals(refine bE.intro (i+1) [0,4] ω ω ?_;simp only[go_sem,hw,dx];simp[J.enc])
    ·have p4:=bm hA;by_cases hB:HV<xs[i].low
     ·have v3:=bC hB;simp only[l_,hA,hB,if_true,if_false]at dx
      cases p with
      |true=>
       try simp only[go_sem,I,aE,aB,J.enc,p4,v3]
       repeat'(first|(with_reducible refine az ?_)|fail)
       all_goals(refine bE.intro (i+1) [0,4] ω ω ?_;simp only[go_sem,hw,dx];simp[J.enc])
      |false=>
       try simp only[go_sem,I,aE,aB,J.enc,p4,v3]
       repeat'(first|(with_reducible refine az ?_)|fail)
       all_goals(refine bE.intro (i+1) [0,6] ω ω ?_;simp only[go_sem,hw,dx];simp[J.enc])
     ·have v3:=bm hB;simp only[l_,hA,hB,if_false]at dx
      try simp only[go_sem,I,aE,aB,J.enc,p4,v3]
      repeat'(first|(with_reducible refine az ?_)|fail)
      all_goals(refine bE.intro (i+1) [0,1] ω ω ?_;simp only[go_sem,hw,dx];simp[cj,dp])
   ·have ax:=c2 h1;have hC:i=xs.length:=by omega
    subst hC;generalize hs:hj xs ⟨l,h⟩ xs.length=s at zG;obtain⟨o,p,⟨wJ,HV⟩⟩:=s;simp only at zG
    cases p with
    |true=>
     try simp only[go_sem,I]
     repeat'(first|(with_reducible refine az ?_)|fail)
     all_goals simp[gT,b6,hs]
    |false=>
     try simp only[go_sem,I]
     repeat'(first|(with_reducible refine az ?_)|fail)
     all_goals(simp[gT,b6,hs,J.enc];try exact e7 ξ)
theorem vS(xs:List J)(l h:Int)(hx:xs.length≤1048576):aL 157 [.one (.sl 2 (xs.map J.enc)),.agg [.int .i64 l,.int .i64 h]] [.one (.sl 2 ((gT xs ⟨l,h⟩).map J.enc))]:=by
 refine a3 88 func157 call157 [.tmp 4] ?_;intro ok;have hm:=fI ok;simp only[go_sem];refine ae.intro (xb xs) ?_;simp only[go_sem]
 repeat'(first
  |(refine ae.intro (HU l h) ?_;simp only[go_sem,I])
  |(refine ay.intro (HU l h) ?_;simp only[go_sem])
  |(refine bw ?_;simp only[go_sem])|(refine f' ?_;simp only[go_sem,I]))
 have hz:(bif !cY xs then true else !dj ⟨l,h⟩)=!(cY xs&&dj ⟨l,h⟩):=by cases cY xs<;>cases dj ⟨l,h⟩<;>rfl
 rw[hz];refine bP (fun h0=>?_) (fun h0=>?_)
 ·have b6:(cY xs&&dj ⟨l,h⟩)=false:=by cases hq:(cY xs&&dj ⟨l,h⟩)with|false=>rfl|true=>rw[hq]at h0;cases h0
  have mb:(xs.map J.enc).take xs.length=xs.map J.enc:=e7 ξ;simp only[go_sem];refine ae.intro (ML xs ω) ?_;simp only[go_sem];simp[gT,b6,mb]
 ·have b6:(cY xs&&dj ⟨l,h⟩)=true:=by cases hq:(cY xs&&dj ⟨l,h⟩)with|true=>rfl|false=>rw[hq]at h0;cases h0
  simp only[go_sem];refine cr.intro (fun i:Nat=>⟨(.d (.sl 2 (xs.map J.enc))::.al::.al::.ptr 0 0 0::.ee 2::.sl 1 0 (hj xs ⟨l,h⟩ i).1.length::.d (.bool (hj xs ⟨l,h⟩ i).2.1)::.i i::aA 80 []),[.box [.d (.int .i64 (hj xs ⟨l,h⟩ i).2.2.low),.d (.int .i64 (hj xs ⟨l,h⟩ i).2.2.high)],.ah 2 ((hj xs ⟨l,h⟩ i).1.map J.enc) true]⟩)
   (fun i=>xs.length-i) (fun i=>i≤xs.length) 0 [0,1] ω ?_ ?_
  ·simp only[go_sem];simp[hj]
  ·intro i hi;have QV:=Lv xs ⟨l,h⟩ i;have zG:(hj xs ⟨l,h⟩ i).1.length≤i+1:=by split at QV<;>omega
   simp only[go_sem,I];refine bP (fun h1=>?_) (fun h1=>?_)
   ·have ax:=cQ h1;have hlt:i<xs.length:=by omega
    have aB:=cq J.enc xs i hlt;have hw:=dX hlt hm;have dx:=QU xs ⟨l,h⟩ i hlt;generalize hs:hj xs ⟨l,h⟩ i=s at dx zG;obtain⟨o,p,⟨wJ,HV⟩⟩:=s;simp only at zG;by_cases hA:xs[i].high<wJ
    ·have p4:=bC hA;simp only[l_,hA,if_true]at dx
     try simp only[go_sem]
     repeat'(first|(refine bo HR χ ψ ?_<;>simp only[go_sem,I,aE,aB,J.enc,p4])|(with_reducible refine az ?_)|fail)
     all_goals(refine bE.intro (i+1) [0,3] ω ω ?_;simp only[go_sem,hw,dx];simp[J.enc])
    ·have p4:=bm hA;by_cases hB:HV<xs[i].low
     ·have v3:=bC hB;simp only[l_,hA,hB,if_true,if_false]at dx
      cases p with
      |true=>
       try simp only[go_sem]
       repeat'(first|(refine bo HR χ ψ ?_<;>simp only[go_sem,I,aE,aB,J.enc,p4,v3])|(with_reducible refine az ?_)|fail)
       all_goals(refine bE.intro (i+1) [0,3] ω ω ?_;simp only[go_sem,hw,dx];simp[J.enc])
      |false=>
       try simp only[go_sem]
       repeat'(first|(refine bo HR χ ψ ?_<;>simp only[go_sem,I,aE,aB,J.enc,p4,v3])|(with_reducible refine az ?_)|fail)
       all_goals(refine bE.intro (i+1) [0,5] ω ω ?_;simp only[go_sem,hw,dx];simp[J.enc])
     ·have v3:=bm hB;simp only[l_,hA,hB,if_false]at dx
      try simp only[go_sem]
      repeat'(first|((first|refine bo HR χ ψ ?_|refine bo Zj χ ψ ?_)<;>simp only[go_sem,I,aE,aB,J.enc,p4,v3])|(with_reducible refine az ?_)|fail)
      all_goals(refine bE.intro (i+1) [0,1] ω ω ?_;simp only[go_sem,hw,dx];simp[cj,dp])
   ·have ax:=c2 h1;have hC:i=xs.length:=by omega
    subst hC;generalize hs:hj xs ⟨l,h⟩ xs.length=s at zG;obtain⟨o,p,⟨wJ,HV⟩⟩:=s;simp only at zG
    cases p with
    |true=>
     try simp only[go_sem,I]
     repeat'(first|(with_reducible refine az ?_)|fail)
     all_goals simp[gT,b6,hs]
    |false=>
     try simp only[go_sem,I]
     repeat'(first|(with_reducible refine az ?_)|fail)
     all_goals(simp[gT,b6,hs,J.enc];try exact e7 ξ)
def bQ(n:Int):Bool:=ca n 0 4611686018427387903
theorem pt(n:Int):aL 117 [.one (.int .i64 n)] [.one (.bool (bQ n))]:=by
 refine a3 5 func117 call117 [.tmp 2] ?_;intro _
 try simp only[go_sem]
 repeat'(refine ae.intro (by apply jt) ?_<;>simp only[go_sem])
 all_goals simp[bQ]
theorem jF(n:Int):aL 188 [.one (.int .i64 n)] [.one (.bool (bQ n))]:=by
 refine a3 5 func188 call188 [.tmp 2] ?_;intro _
 try simp only[go_sem]
 repeat'(refine ae.intro (by apply j1) ?_<;>simp only[go_sem])
 all_goals simp[bQ]
def nS(n:Int):Bool:=ca n 1 64&&decide (bitI .and .i64 n (i64.wrap (n-1))=0)
theorem HZ(n:Int):aL 115 [.one (.int .i64 n)] [.one (.bool (nS n))]:=by
 refine a3 12 func115 call115 [.tmp 2] ?_;intro _
 try simp only[go_sem]
 repeat'((first|refine ae.intro (by apply jt) ?_|refine bw ?_)<;>simp only[go_sem])
 all_goals(refine gd ?_;simp[nS,ca])
theorem Lz(n:Int):aL 193 [.one (.int .i64 n)] [.one (.bool (nS n))]:=by
 refine a3 16 func193 call193 [.tmp 2] ?_;intro _
 try simp only[go_sem]
 repeat'(refine bw ?_<;>simp only[go_sem])
 all_goals(refine gd ?_;simp[nS,ca];try omega)
def jg(c:ff):Bool:=nS c.av&&ca c.lW 1 4096&&ca c.lX 1 4096&&ca c.b1 1 c.lW&&ca c.cm 1 c.lX&&ca c.k8 0 1000&&ca c.ft 0 1000&&ca c.eP 1 1000
theorem Xu(H7 H8 H9 H_ H' Ia Ib Ic:Int):aL 52 [.agg [.int .i64 H7,.int .i64 H8,.int .i64 H9,.int .i64 H_,.int .i64 H',.int .i64 Ia,.int .i64 Ib,.int .i64 Ic]] [.one (.bool (jg (⟨H7,H8,H9,H_,H',Ia,Ib,Ic⟩:ff)))]:=by
 refine a3 45 func52 call52 [.tmp 2] ?_;intro _
 try simp only[go_sem]
 repeat'((first|refine ae.intro (by apply HZ) ?_|refine ay.intro (by apply jt) ?_|refine bw ?_)<;>simp only[go_sem])
 all_goals(refine gd ?_;simp[jg,fJ,and_comm,and_left_comm])
theorem Fg(H7 H8 H9 H_ H' Ia Ib Ic:Int):aL 132 [.agg [.int .i64 H7,.int .i64 H8,.int .i64 H9,.int .i64 H_,.int .i64 H',.int .i64 Ia,.int .i64 Ib,.int .i64 Ic]] [.one (.bool (jg (⟨H7,H8,H9,H_,H',Ia,Ib,Ic⟩:ff)))]:=by
 refine a3 45 func132 call132 [.tmp 2] ?_;intro _
 try simp only[go_sem]
 repeat'((first|refine ae.intro (by apply Lz) ?_|refine ay.intro (by apply j1) ?_|refine bw ?_)<;>simp only[go_sem])
 all_goals(refine gd ?_;simp[jg,fJ,and_comm,and_left_comm])
def A8(l:Int):dU:=if bQ l then⟨l,0,-1,-1⟩else⟨0,0,0,0⟩
theorem X3(l:Int):aL 211 [.one (.int .i64 l)] [.agg [.int .i64 (A8 l).aZ,.int .i64 (A8 l).eg,.int .i64 (A8 l).blocked,.int .i64 (A8 l).gr],.one (.bool (bQ l))]:=by
 refine a3 10 func211 call211 [.cell 2 28,.tmp 3] ?_;intro _
 try simp only[go_sem]
 repeat'((first|refine ae.intro (by apply jF) ?_|refine bP (fun h=>?_) (fun h=>?_))<;>simp only[go_sem])
 all_goals simp_all [A8]
def Rg(size ck:Int):Bool:=ca ck 1 4096&&ca size 1 ck
def HE(size ck:Int):eD:=if Rg size ck then⟨size,ck,size,0,0,0⟩else⟨0,0,0,0,0,0⟩
theorem X4(s m:Int):aL 212 [.one (.int .i64 s),.one (.int .i64 m)] [.agg (eD.enc (HE s m)),.one (.bool (Rg s m))]:=by
 refine a3 20 func212 call212 [.cell 4 30,.tmp 5] ?_;intro _
 try simp only[go_sem]
 repeat'((first|refine ae.intro (by apply j1) ?_|refine ay.intro (by apply j1) ?_|refine bw ?_|refine bP (fun h=>?_) (fun h=>?_))<;>simp only[go_sem])
 all_goals(cases h1:ca m 1 4096<;>cases h2:ca s 1 m<;>simp_all [HE,Rg])
def Ex(l:Int):iy:=if ca l 0 1152921504606846976 then⟨l,0,-1⟩else⟨0,0,0⟩
theorem aiG(l:Int):aL 213 [.one (.int .i64 l)] [.agg [.int .i64 (Ex l).aZ,.int .i64 (Ex l).jO,.int .i64 (Ex l).blocked],.one (.bool (ca l 0 1152921504606846976))]:=by
 refine a3 10 func213 call213 [.cell 2 32,.tmp 3] ?_;intro _
 try simp only[go_sem]
 repeat'((first|refine ae.intro (by apply j1) ?_|refine bP (fun h=>?_) (fun h=>?_))<;>simp only[go_sem])
 all_goals simp_all [Ex]
def CB(m:Int):eL:=if ca m 0 1000 then⟨m,m,0,0⟩else⟨0,0,0,0⟩
theorem aiH(m:Int):aL 214 [.one (.int .i64 m)] [.agg [.int .i64 (CB m).ck,.int .i64 (CB m).aZ,.int .i64 (CB m).seen,.int .i64 (CB m).d9],.one (.bool (ca m 0 1000))]:=by
 refine a3 11 func214 call214 [.cell 2 34,.tmp 3] ?_;intro _
 try simp only[go_sem]
 repeat'((first|refine ae.intro (by apply j1) ?_|refine bP (fun h=>?_) (fun h=>?_))<;>simp only[go_sem])
 all_goals simp_all [CB]
def P8(n:Int):Bool:=bQ n&&decide (bitI .and .i64 n 1=1)
def ve(n:Int):Bool:=bQ n&&decide (bitI .and .i64 n 2=2)
def qW(s:Bool)(n:Int):Bool:=bQ n&&decide (P8 n=s)
def fF(s:Bool)(n:Int):Bool:=bQ n&&(!ve n||qW s n)
def gO(s:Bool)(n:Int):Bool:=bQ n&&(!ve n||!qW s n)
theorem aiI(n:Int):aL 310 [.one (.int .i64 n)] [.one (.bool (P8 n))]:=by
 refine a3 10 func310 call310 [.tmp 2] ?_;intro _
 try simp only[go_sem]
 repeat'((first|refine ae.intro (by apply jF) ?_|refine bw ?_)<;>simp only[go_sem])
 all_goals(refine gd ?_;simp[P8])
theorem BB(n:Int):aL 298 [.one (.int .i64 n)] [.one (.bool (ve n))]:=by
 refine a3 10 func298 call298 [.tmp 2] ?_;intro _
 try simp only[go_sem]
 repeat'((first|refine ae.intro (by apply jF) ?_|refine bw ?_)<;>simp only[go_sem])
 all_goals(refine gd ?_;simp[ve])
theorem E'(s:Bool)(n:Int):aL 299 [.one (.bool s),.one (.int .i64 n)] [.one (.bool (qW s n))]:=by
 refine a3 13 func299 call299 [.tmp 4] ?_;intro _
 try simp only[go_sem]
 repeat'((first|refine ae.intro (by apply jF) ?_|refine ay.intro (by apply aiI) ?_|refine bw ?_)<;>simp only[go_sem])
 all_goals(refine gd ?_;simp[qW])
theorem Pj(s:Bool)(n:Int):aL 280 [.one (.bool s),.one (.int .i64 n)] [.one (.bool (fF s n))]:=by
 refine a3 17 func280 call280 [.tmp 4] ?_;intro _
 try simp only[go_sem]
 repeat'((first|refine ae.intro (by apply jF) ?_|refine ay.intro (by first|apply BB|apply E') ?_|refine bw ?_)<;>simp only[go_sem])
 all_goals(refine gd ?_;simp[fF])
theorem Ko(s:Bool)(n:Int):aL 281 [.one (.bool s),.one (.int .i64 n)] [.one (.bool (gO s n))]:=by
 refine a3 18 func281 call281 [.tmp 4] ?_;intro _
 try simp only[go_sem]
 repeat'((first|refine ae.intro (by apply jF) ?_|refine ay.intro (by first|apply BB|apply E') ?_|refine bw ?_)<;>simp only[go_sem])
 all_goals(refine gd ?_;simp[gO])
theorem K5:ofVal (.int .u64 2)=.d (.int .u64 2):=rfl
theorem X5(x:Int):shI .shr .i64 x 2=some ((0:Int)≤2,.i (x.fdiv 4)):=rfl
theorem X6(x:Int):shI .shl .i64 x 2=some ((0:Int)≤2,.i (i64.wrap (x * 4))):=rfl
def jI(n:Int):Int:=if bQ n then n.fdiv 4 else -1
theorem Su(n:Int):aL 304 [.one (.int .i64 n)] [.one (.int .i64 (jI n))]:=by
 refine a3 8 func304 call304 [.tmp 2] ?_;intro _
 try simp only[go_sem]
 repeat'((first|refine ae.intro (by apply jF) ?_|refine bP (fun h=>?_) (fun h=>?_))<;>simp only[go_sem,K5,X5])
 all_goals simp_all [jI]
def z2(n:Int)(s u:Bool):Int:=
 if ca n 0 1152921504606846975 then(if u then i64.wrap ((if s then i64.wrap (i64.wrap (n * 4)+1)else i64.wrap (n * 4))+2)else(if s then i64.wrap (i64.wrap (n * 4)+1)else i64.wrap (n * 4)))else -1
theorem Sh(n:Int)(s u:Bool):aL 249 [.one (.int .i64 n),.one (.bool s),.one (.bool u)] [.one (.int .i64 (z2 n s u))]:=by
 refine a3 20 func249 call249 [.tmp 6] ?_;intro _
 try simp only[go_sem]
 repeat'((first|refine ae.intro (by apply j1) ?_|refine bP (fun h=>?_) (fun h=>?_))<;>simp only[go_sem,K5,X6])
 all_goals simp_all [z2]
def ju(c:dU):Bool:=bQ c.aZ&&ca c.eg 0 c.aZ&&ca c.blocked (-1) c.aZ&&ca c.gr (-1) c.aZ
theorem yc(dk ej dr ey:Int):aL 54 [.agg [.int .i64 dk,.int .i64 ej,.int .i64 dr,.int .i64 ey]] [.one (.bool (ju (⟨dk,ej,dr,ey⟩:dU)))]:=by
 refine a3 27 func54 call54 [.tmp 2] ?_;intro _
 try simp only[go_sem]
 repeat'((first|refine ae.intro (by apply pt) ?_|refine ay.intro (by apply jt) ?_|refine bw ?_)<;>simp only[go_sem])
 all_goals(refine gd ?_;simp[ju])
theorem z8(dk ej dr ey:Int):aL 134 [.agg [.int .i64 dk,.int .i64 ej,.int .i64 dr,.int .i64 ey]] [.one (.bool (ju (⟨dk,ej,dr,ey⟩:dU)))]:=by
 refine a3 27 func134 call134 [.tmp 2] ?_;intro _
 try simp only[go_sem]
 repeat'((first|refine ae.intro (by apply jF) ?_|refine ay.intro (by apply j1) ?_|refine bw ?_)<;>simp only[go_sem])
 all_goals(refine gd ?_;simp[ju])
def wE(c:dU):Int:=if ju c then i64.wrap (c.aZ-c.eg)else 0
theorem adz(dk ej dr ey:Int):aL 68 [.agg [.int .i64 dk,.int .i64 ej,.int .i64 dr,.int .i64 ey]] [.one (.int .i64 (wE (⟨dk,ej,dr,ey⟩:dU)))]:=by
 refine a3 11 func68 call68 [.tmp 2] ?_;intro _
 try simp only[go_sem]
 repeat'((first|refine ae.intro (by apply z8) ?_|refine bP (fun h=>?_) (fun h=>?_))<;>simp only[go_sem])
 all_goals simp_all [wE]
def lJ(c:dU)(n:Int):Bool:=ju c&&decide (0≤n)&&decide (n≤i64.wrap (c.aZ-c.eg))
def hP(c:dU)(n:Int):dU:=if lJ c n then {c with eg:=i64.wrap (c.eg+n)}else c
theorem ady(dk ej dr ey n:Int):aL 74 [.agg [.int .i64 dk,.int .i64 ej,.int .i64 dr,.int .i64 ey],.one (.int .i64 n)] [.agg [.int .i64 (hP (⟨dk,ej,dr,ey⟩:dU) n).aZ,.int .i64 (hP (⟨dk,ej,dr,ey⟩:dU) n).eg,.int .i64 (hP (⟨dk,ej,dr,ey⟩:dU) n).blocked,.int .i64 (hP (⟨dk,ej,dr,ey⟩:dU) n).gr],.one (.bool (lJ (⟨dk,ej,dr,ey⟩:dU) n))]:=by
 refine a3 29 func74 call74 [.cell 4 28,.tmp 5] ?_;intro _
 try simp only[go_sem]
 repeat'((first|refine ae.intro (by apply z8) ?_|refine bw ?_|refine bP (fun h=>?_) (fun h=>?_))<;>simp only[go_sem])
 all_goals(cases hc:lJ (⟨dk,ej,dr,ey⟩:dU) n<;>first|(simp[hP,hc];done)|(simp[hP,hc];simp_all;done)|((try(simp only[b8,eG]at *));simp[hP, *];done)|(exfalso;simp[lJ]at hc h;first|(simp_all;done)|(simp_all;omega)|omega|grind)|(exfalso;simp[lJ,d5,di]at *;first|(simp_all;done)|(simp_all;omega)|omega|grind))
def K6(c:dU)(l:Int):Bool:=ju c&&bQ l&&decide (c.aZ<l)
def x3(c:dU)(l:Int):dU:=if K6 c l then {c with aZ:=l,blocked:=-1}else c
theorem WN(dk ej dr ey l:Int):aL 292 [.agg [.int .i64 dk,.int .i64 ej,.int .i64 dr,.int .i64 ey],.one (.int .i64 l)] [.agg [.int .i64 (x3 (⟨dk,ej,dr,ey⟩:dU) l).aZ,.int .i64 (x3 (⟨dk,ej,dr,ey⟩:dU) l).eg,.int .i64 (x3 (⟨dk,ej,dr,ey⟩:dU) l).blocked,.int .i64 (x3 (⟨dk,ej,dr,ey⟩:dU) l).gr]]:=by
 refine a3 24 func292 call292 [.cell 4 28] ?_;intro _
 try simp only[go_sem]
 repeat'((first|refine ae.intro (by apply z8) ?_|refine ay.intro (by apply jF) ?_|refine bw ?_|refine bP (fun h=>?_) (fun h=>?_))<;>simp only[go_sem])
 all_goals(cases hc:K6 (⟨dk,ej,dr,ey⟩:dU) l<;>first|(simp[x3,hc];done)|(simp[x3,hc];simp_all;done)|((try(simp only[b8,eG]at *));simp[x3, *];done)|(exfalso;simp[K6]at hc h;first|(simp_all;done)|(simp_all;omega)|omega|grind)|(exfalso;simp[K6,d5,di]at *;first|(simp_all;done)|(simp_all;omega)|omega|grind))
def CC(c:dU):Bool:=ju c&&decide (c.eg=c.aZ)&&decide (c.blocked=-1)&&decide (c.gr≠c.aZ)
def kB(c:dU):dU:=if CC c then {c with blocked:=c.aZ}else c
theorem ac3(dk ej dr ey:Int):aL 182 [.agg [.int .i64 dk,.int .i64 ej,.int .i64 dr,.int .i64 ey]] [.agg [.int .i64 (kB (⟨dk,ej,dr,ey⟩:dU)).aZ,.int .i64 (kB (⟨dk,ej,dr,ey⟩:dU)).eg,.int .i64 (kB (⟨dk,ej,dr,ey⟩:dU)).blocked,.int .i64 (kB (⟨dk,ej,dr,ey⟩:dU)).gr]]:=by
 refine a3 28 func182 call182 [.cell 2 28] ?_;intro _
 try simp only[go_sem]
 repeat'((first|refine ae.intro (by apply z8) ?_|refine bw ?_|refine bP (fun h=>?_) (fun h=>?_))<;>simp only[go_sem])
 all_goals(cases hc:CC (⟨dk,ej,dr,ey⟩:dU)<;>first|(simp[kB,hc];done)|(simp[kB,hc];simp_all;done)|((try(simp only[b8,eG]at *));simp[kB, *];done)|(exfalso;simp[CC]at hc h;first|(simp_all;done)|(simp_all;omega)|omega|grind)|(exfalso;simp[CC,d5,di]at *;first|(simp_all;done)|(simp_all;omega)|omega|grind))
def n6(c:dU):Bool:=ju c&&decide (c.blocked=c.aZ)
theorem TK(dk ej dr ey:Int):aL 101 [.agg [.int .i64 dk,.int .i64 ej,.int .i64 dr,.int .i64 ey]] [.one (.bool (n6 (⟨dk,ej,dr,ey⟩:dU)))]:=by
 refine a3 12 func101 call101 [.tmp 2] ?_;intro _
 try simp only[go_sem]
 repeat'((first|refine ae.intro (by apply z8) ?_|refine bw ?_)<;>simp only[go_sem])
 all_goals(refine gd ?_;simp[n6])
def CD(c:dU):Bool:=ju c&&decide (c.blocked≠-1)
def kl(c:dU):dU:=if CD c then {c with gr:=c.blocked,blocked:=-1}else c
theorem TL(dk ej dr ey:Int):aL 103 [.agg [.int .i64 dk,.int .i64 ej,.int .i64 dr,.int .i64 ey]] [.agg [.int .i64 (kl (⟨dk,ej,dr,ey⟩:dU)).aZ,.int .i64 (kl (⟨dk,ej,dr,ey⟩:dU)).eg,.int .i64 (kl (⟨dk,ej,dr,ey⟩:dU)).blocked,.int .i64 (kl (⟨dk,ej,dr,ey⟩:dU)).gr]]:=by
 refine a3 15 func103 call103 [.cell 2 28] ?_;intro _
 try simp only[go_sem]
 repeat'((first|refine ae.intro (by apply z8) ?_|refine bw ?_|refine bP (fun h=>?_) (fun h=>?_))<;>simp only[go_sem])
 all_goals(cases hc:CD (⟨dk,ej,dr,ey⟩:dU)<;>first|(simp[kl,hc];done)|(simp[kl,hc];simp_all;done)|((try(simp only[b8,eG]at *));simp[kl, *];done)|(exfalso;simp[CD]at hc h;first|(simp_all;done)|(simp_all;omega)|omega|grind)|(exfalso;simp[CD,d5,di]at *;first|(simp_all;done)|(simp_all;omega)|omega|grind))
def k9(w:eD):Bool:=ca w.ck 1 4096&&ca w.size 1 w.ck&&ca w.aZ 1 4611686018427387903&&ca w.seen 0 w.aZ&&ca w.gF 0 w.seen&&decide (w.aZ≤i64.wrap (w.gF+w.size))&&ca w.kk 0 1000000
theorem PF(i5 i6 i7 i9 i_ i':Int):aL 55 [.agg [.int .i64 i5,.int .i64 i6,.int .i64 i7,.int .i64 i9,.int .i64 i_,.int .i64 i']] [.one (.bool (k9 (⟨i5,i6,i7,i9,i_,i'⟩:eD)))]:=by
 refine a3 47 func55 call55 [.tmp 2] ?_;intro _
 try simp only[go_sem]
 repeat'((first|refine ae.intro (by apply jt) ?_|refine ay.intro (by apply jt) ?_|refine bw ?_)<;>simp only[go_sem])
 all_goals(refine gd ?_;simp[k9])
theorem Fi(i5 i6 i7 i9 i_ i':Int):aL 135 [.agg [.int .i64 i5,.int .i64 i6,.int .i64 i7,.int .i64 i9,.int .i64 i_,.int .i64 i']] [.one (.bool (k9 (⟨i5,i6,i7,i9,i_,i'⟩:eD)))]:=by
 refine a3 47 func135 call135 [.tmp 2] ?_;intro _
 try simp only[go_sem]
 repeat'((first|refine ae.intro (by apply j1) ?_|refine ay.intro (by apply j1) ?_|refine bw ?_)<;>simp only[go_sem])
 all_goals(refine gd ?_;simp[k9])
def j9(w:eD)(n:Int):Bool:=k9 w&&decide (0≤n)&&decide (n≤i64.wrap (w.aZ-w.seen))
def qx(w:eD)(n:Int):eD:=if j9 w n then {w with seen:=i64.wrap (w.seen+n)}else w
theorem WM(i5 i6 i7 i9 i_ i' n:Int):aL 309 [.agg [.int .i64 i5,.int .i64 i6,.int .i64 i7,.int .i64 i9,.int .i64 i_,.int .i64 i'],.one (.int .i64 n)] [.agg (eD.enc (qx (⟨i5,i6,i7,i9,i_,i'⟩:eD) n)),.one (.bool (j9 (⟨i5,i6,i7,i9,i_,i'⟩:eD) n))]:=by
 refine a3 29 func309 call309 [.cell 4 30,.tmp 5] ?_;intro _
 try simp only[go_sem]
 repeat'((first|refine ae.intro (by apply Fi) ?_|refine bw ?_|refine bP (fun h=>?_) (fun h=>?_))<;>simp only[go_sem])
 all_goals(cases hc:j9 (⟨i5,i6,i7,i9,i_,i'⟩:eD) n<;>first|(simp[qx,hc];done)|(simp[qx,hc];simp_all;done)|((try(simp only[b8,eG]at *));simp[qx, *];done)|(exfalso;simp[j9]at hc h;first|(simp_all;done)|(simp_all;omega)|omega|grind)|(exfalso;simp[j9,d5,di]at *;first|(simp_all;done)|(simp_all;omega)|omega|grind))
def HG(w:eD)(n:Int):Bool:=k9 w&&decide (0≤n)&&decide (n≤i64.wrap (w.seen-w.gF))
def Ew(w:eD)(n:Int):eD:=if HG w n then {w with gF:=i64.wrap (w.gF+n)}else w
theorem WT(i5 i6 i7 i9 i_ i' n:Int):aL 284 [.agg [.int .i64 i5,.int .i64 i6,.int .i64 i7,.int .i64 i9,.int .i64 i_,.int .i64 i'],.one (.int .i64 n)] [.agg (eD.enc (Ew (⟨i5,i6,i7,i9,i_,i'⟩:eD) n)),.one (.bool (HG (⟨i5,i6,i7,i9,i_,i'⟩:eD) n))]:=by
 refine a3 29 func284 call284 [.cell 4 30,.tmp 5] ?_;intro _
 try simp only[go_sem]
 repeat'((first|refine ae.intro (by apply Fi) ?_|refine bw ?_|refine bP (fun h=>?_) (fun h=>?_))<;>simp only[go_sem])
 all_goals(cases hc:HG (⟨i5,i6,i7,i9,i_,i'⟩:eD) n<;>first|(simp[Ew,hc];done)|(simp[Ew,hc];simp_all;done)|((try(simp only[b8,eG]at *));simp[Ew, *];done)|(exfalso;simp[HG]at hc h;first|(simp_all;done)|(simp_all;omega)|omega|grind)|(exfalso;simp[HG,d5,di]at *;first|(simp_all;done)|(simp_all;omega)|omega|grind))
def qd(w:eD):Bool:=k9 w&&decide (w.aZ<4611686018427387903)&&decide (i64.wrap ((i64.wrap (w.size+1)).tdiv 2)≤i64.wrap (i64.wrap (w.gF+w.size)-w.aZ))
theorem Ni(i5 i6 i7 i9 i_ i':Int):aL 174 [.agg [.int .i64 i5,.int .i64 i6,.int .i64 i7,.int .i64 i9,.int .i64 i_,.int .i64 i']] [.one (.bool (qd (⟨i5,i6,i7,i9,i_,i'⟩:eD)))]:=by
 refine a3 25 func174 call174 [.tmp 2] ?_;intro _
 try simp only[go_sem]
 repeat'((first|refine ae.intro (by apply Fi) ?_|refine bw ?_)<;>simp only[go_sem])
 all_goals(refine gd ?_;simp[qd])
def lZ(w:eD)(ef eP:Int):Bool:=qd w&&ca ef w.kk 1000000&&ca eP 1 1000
def vY(w:eD)(ef eP:Int):Int:=if i64.wrap (ef-w.kk)<i64.wrap (2 * eP)then cj (i64.wrap (2 * w.size)) w.ck else w.size
def iJ(w:eD)(ef eP:Int):eD:=if lZ w ef eP then {w with size:=vY w ef eP,aZ:=cj (i64.wrap (w.gF+vY w ef eP)) 4611686018427387903,kk:=ef}else w
theorem TH(i5 i6 i7 i9 i_ i' n t:Int):aL 175 [.agg [.int .i64 i5,.int .i64 i6,.int .i64 i7,.int .i64 i9,.int .i64 i_,.int .i64 i'],.one (.int .i64 n),.one (.int .i64 t)] [.agg (eD.enc (iJ (⟨i5,i6,i7,i9,i_,i'⟩:eD) n t)),.one (.bool (lZ (⟨i5,i6,i7,i9,i_,i'⟩:eD) n t))]:=by
 refine a3 48 func175 call175 [.cell 6 30,.tmp 7] ?_;intro _
 try simp only[go_sem]
 repeat'((first|refine ae.intro (by apply Ni) ?_|refine ay.intro (by apply j1) ?_|refine bw ?_|refine bP (fun h=>?_) (fun h=>?_))<;>simp only[go_sem])
 all_goals(cases hc:lZ (⟨i5,i6,i7,i9,i_,i'⟩:eD) n t<;>first|(simp[iJ,vY,cj,hc];done)|(simp[iJ,vY,cj,hc];simp_all;done)|((try(simp only[b8,eG]at *));simp[iJ,vY,cj, *];done)|(exfalso;simp[lZ]at hc h;first|(simp_all;done)|(simp_all;omega)|omega|grind)|(exfalso;simp[lZ,d5,di]at *;first|(simp_all;done)|(simp_all;omega)|omega|grind))
def kx(c:iy):Bool:=ca c.aZ 0 1152921504606846976&&ca c.jO 0 c.aZ&&ca c.blocked (-1) c.aZ
theorem Xv(dk nX dr:Int):aL 56 [.agg [.int .i64 dk,.int .i64 nX,.int .i64 dr]] [.one (.bool (kx (⟨dk,nX,dr⟩:iy)))]:=by
 refine a3 20 func56 call56 [.tmp 2] ?_;intro _
 try simp only[go_sem]
 repeat'((first|refine ae.intro (by apply jt) ?_|refine ay.intro (by apply jt) ?_|refine bw ?_)<;>simp only[go_sem])
 all_goals(refine gd ?_;simp[kx])
theorem MI(dk nX dr:Int):aL 136 [.agg [.int .i64 dk,.int .i64 nX,.int .i64 dr]] [.one (.bool (kx (⟨dk,nX,dr⟩:iy)))]:=by
 refine a3 20 func136 call136 [.tmp 2] ?_;intro _
 try simp only[go_sem]
 repeat'((first|refine ae.intro (by apply j1) ?_|refine ay.intro (by apply j1) ?_|refine bw ?_)<;>simp only[go_sem])
 all_goals(refine gd ?_;simp[kx])
def vd(c:iy):Bool:=kx c&&decide (c.jO≠c.aZ)
def xl(c:iy):Int:=if vd c then c.jO else -1
def xk(c:iy):iy:=if vd c then {c with jO:=i64.wrap (c.jO+1)}else if kx c then {c with blocked:=c.aZ}else c
theorem Sg(dk nX dr:Int):aL 248 [.agg [.int .i64 dk,.int .i64 nX,.int .i64 dr]] [.one (.int .i64 (xl (⟨dk,nX,dr⟩:iy))),.agg [.int .i64 (xk (⟨dk,nX,dr⟩:iy)).aZ,.int .i64 (xk (⟨dk,nX,dr⟩:iy)).jO,.int .i64 (xk (⟨dk,nX,dr⟩:iy)).blocked],.one (.bool (vd (⟨dk,nX,dr⟩:iy)))]:=by
 refine a3 26 func248 call248 [.tmp 2,.cell 3 32,.tmp 4] ?_;intro _
 try simp only[go_sem]
 repeat'((first|refine ae.intro (by apply MI) ?_|refine bo [[.post,.dN,.post,.post],[.dN,.post,.post,.post],[.pre,.pre,.post,.post],[.pre,.pre,.pre,.post]] χ ψ ?_|refine bo [[.post,.dN,.post,.post,.post],[.dN,.post,.dN,.post,.post],[.pre,.dN,.post,.post,.post],[.pre,.pre,.pre,.post,.post],[.pre,.pre,.pre,.pre,.post]] χ ψ ?_|refine bP (fun h=>?_) (fun h=>?_))<;>simp only[go_sem])
 all_goals(cases hc:vd (⟨dk,nX,dr⟩:iy)<;>first|(simp[xl,xk,hc];done)|(simp[xl,xk,hc];simp_all;done)|((try(simp only[b8,eG]at *));simp[xl,xk, *];done)|(exfalso;simp[vd]at hc h;first|(simp_all;done)|(simp_all;omega)|omega|grind)|(exfalso;simp[vd,d5,di]at *;first|(simp_all;done)|(simp_all;omega)|omega|grind))
def K7(c:iy)(l:Int):Bool:=kx c&&decide (c.aZ<l)&&decide (l≤1152921504606846976)
def A7(c:iy)(l:Int):iy:=if K7 c l then {c with aZ:=l,blocked:=-1}else c
theorem WO(dk nX dr l:Int):aL 293 [.agg [.int .i64 dk,.int .i64 nX,.int .i64 dr],.one (.int .i64 l)] [.agg [.int .i64 (A7 (⟨dk,nX,dr⟩:iy) l).aZ,.int .i64 (A7 (⟨dk,nX,dr⟩:iy) l).jO,.int .i64 (A7 (⟨dk,nX,dr⟩:iy) l).blocked]]:=by
 refine a3 23 func293 call293 [.cell 4 32] ?_;intro _
 try simp only[go_sem]
 repeat'((first|refine ae.intro (by apply MI) ?_|refine bw ?_|refine bP (fun h=>?_) (fun h=>?_))<;>simp only[go_sem])
 all_goals(cases hc:K7 (⟨dk,nX,dr⟩:iy) l<;>first|(simp[A7,hc];done)|(simp[A7,hc];simp_all;done)|((try(simp only[b8,eG]at *));simp[A7, *];done)|(exfalso;simp[K7]at hc h;first|(simp_all;done)|(simp_all;omega)|omega|grind)|(exfalso;simp[K7,d5,di]at *;first|(simp_all;done)|(simp_all;omega)|omega|grind))
def jJ(a:eL):Bool:=ca a.ck 0 1000&&ca a.aZ a.ck 1152921504606846976&&ca a.seen 0 a.aZ&&ca a.d9 0 a.seen&&decide (a.aZ≤i64.wrap (a.d9+a.ck))
theorem Xw(fN fO fP fQ:Int):aL 57 [.agg [.int .i64 fN,.int .i64 fO,.int .i64 fP,.int .i64 fQ]] [.one (.bool (jJ (⟨fN,fO,fP,fQ⟩:eL)))]:=by
 refine a3 37 func57 call57 [.tmp 2] ?_;intro _
 try simp only[go_sem]
 repeat'((first|refine ae.intro (by apply jt) ?_|refine ay.intro (by apply jt) ?_|refine bw ?_)<;>simp only[go_sem])
 all_goals(refine gd ?_;simp[jJ])
theorem IK(fN fO fP fQ:Int):aL 137 [.agg [.int .i64 fN,.int .i64 fO,.int .i64 fP,.int .i64 fQ]] [.one (.bool (jJ (⟨fN,fO,fP,fQ⟩:eL)))]:=by
 refine a3 37 func137 call137 [.tmp 2] ?_;intro _
 try simp only[go_sem]
 repeat'((first|refine ae.intro (by apply j1) ?_|refine ay.intro (by apply j1) ?_|refine bw ?_)<;>simp only[go_sem])
 all_goals(refine gd ?_;simp[jJ])
def xp(a:eL)(i:Int):Bool:=jJ a&&decide (0≤i)&&decide (i<a.aZ)
def ot(a:eL)(i:Int):Int:=if xp a i then dp 0 (i64.wrap (i64.wrap (i+1)-a.seen))else 0
def mu(a:eL)(i:Int):eL:=if xp a i then {a with seen:=i64.wrap (a.seen+ot a i)}else a
theorem Sv(fN fO fP fQ i:Int):aL 303 [.agg [.int .i64 fN,.int .i64 fO,.int .i64 fP,.int .i64 fQ],.one (.int .i64 i)] [.agg [.int .i64 (mu (⟨fN,fO,fP,fQ⟩:eL) i).ck,.int .i64 (mu (⟨fN,fO,fP,fQ⟩:eL) i).aZ,.int .i64 (mu (⟨fN,fO,fP,fQ⟩:eL) i).seen,.int .i64 (mu (⟨fN,fO,fP,fQ⟩:eL) i).d9],.one (.int .i64 (ot (⟨fN,fO,fP,fQ⟩:eL) i)),.one (.bool (xp (⟨fN,fO,fP,fQ⟩:eL) i))]:=by
 refine a3 35 func303 call303 [.cell 4 34,.tmp 5,.tmp 6] ?_;intro _
 try simp only[go_sem]
 repeat'((first|refine ae.intro (by apply IK) ?_|refine bw ?_|refine bP (fun h=>?_) (fun h=>?_))<;>simp only[go_sem])
 all_goals(cases hc:xp (⟨fN,fO,fP,fQ⟩:eL) i<;>first|(simp[mu,ot,dp,hc];done)|(simp[mu,ot,dp,hc];simp_all;done)|((try(simp only[b8,eG]at *));simp[mu,ot,dp, *];done)|(exfalso;simp[xp]at hc h;first|(simp_all;done)|(simp_all;omega)|omega|grind)|(exfalso;simp[xp,d5,di]at *;first|(simp_all;done)|(simp_all;omega)|omega|grind))
def HH(a:eL):Bool:=jJ a&&decide (a.d9≠a.seen)
def wi(a:eL):eL:=if HH a then {a with d9:=i64.wrap (a.d9+1)}else a
theorem IE(fN fO fP fQ:Int):aL 302 [.agg [.int .i64 fN,.int .i64 fO,.int .i64 fP,.int .i64 fQ]] [.agg [.int .i64 (wi (⟨fN,fO,fP,fQ⟩:eL)).ck,.int .i64 (wi (⟨fN,fO,fP,fQ⟩:eL)).aZ,.int .i64 (wi (⟨fN,fO,fP,fQ⟩:eL)).seen,.int .i64 (wi (⟨fN,fO,fP,fQ⟩:eL)).d9],.one (.bool (HH (⟨fN,fO,fP,fQ⟩:eL)))]:=by
 refine a3 20 func302 call302 [.cell 2 34,.tmp 3] ?_;intro _
 try simp only[go_sem]
 repeat'((first|refine ae.intro (by apply IK) ?_|refine bw ?_|refine bP (fun h=>?_) (fun h=>?_))<;>simp only[go_sem])
 all_goals(cases hc:HH (⟨fN,fO,fP,fQ⟩:eL)<;>first|(simp[wi,hc];done)|(simp[wi,hc];simp_all;done)|((try(simp only[b8,eG]at *));simp[wi, *];done)|(exfalso;simp[HH]at hc h;first|(simp_all;done)|(simp_all;omega)|omega|grind)|(exfalso;simp[HH,d5,di]at *;first|(simp_all;done)|(simp_all;omega)|omega|grind))
def yU(a:eL):Bool:=jJ a&&decide (i64.wrap ((i64.wrap (a.ck+1)).tdiv 2)≤i64.wrap (i64.wrap (a.d9+a.ck)-a.aZ))&&decide (0<a.ck)
theorem TI(fN fO fP fQ:Int):aL 176 [.agg [.int .i64 fN,.int .i64 fO,.int .i64 fP,.int .i64 fQ]] [.one (.bool (yU (⟨fN,fO,fP,fQ⟩:eL)))]:=by
 refine a3 25 func176 call176 [.tmp 2] ?_;intro _
 try simp only[go_sem]
 repeat'((first|refine ae.intro (by apply IK) ?_|refine bw ?_)<;>simp only[go_sem])
 all_goals(refine gd ?_;simp[yU])
def qe(a:eL):Bool:=yU a&&decide (i64.wrap (a.d9+a.ck)≤1152921504606846976)
def kf(a:eL):eL:=if qe a then {a with aZ:=i64.wrap (a.d9+a.ck)}else a
theorem acH(fN fO fP fQ:Int):aL 177 [.agg [.int .i64 fN,.int .i64 fO,.int .i64 fP,.int .i64 fQ]] [.agg [.int .i64 (kf (⟨fN,fO,fP,fQ⟩:eL)).ck,.int .i64 (kf (⟨fN,fO,fP,fQ⟩:eL)).aZ,.int .i64 (kf (⟨fN,fO,fP,fQ⟩:eL)).seen,.int .i64 (kf (⟨fN,fO,fP,fQ⟩:eL)).d9],.one (.bool (qe (⟨fN,fO,fP,fQ⟩:eL)))]:=by
 refine a3 23 func177 call177 [.cell 2 34,.tmp 3] ?_;intro _
 try simp only[go_sem]
 repeat'((first|refine ae.intro (by apply TI) ?_|refine bw ?_|refine bP (fun h=>?_) (fun h=>?_))<;>simp only[go_sem])
 all_goals(cases hc:qe (⟨fN,fO,fP,fQ⟩:eL)<;>first|(simp[kf,hc];done)|(simp[kf,hc];simp_all;done)|((try(simp only[b8,eG]at *));simp[kf, *];done)|(exfalso;simp[qe]at hc h;first|(simp_all;done)|(simp_all;omega)|omega|grind)|(exfalso;simp[qe,d5,di]at *;first|(simp_all;done)|(simp_all;omega)|omega|grind))
def lu(p:j6):Bool:=ca p.ew 0 7
theorem P9(pW:Int)(pX:Bool):aL 169 [.agg [.int .i64 pW,.bool pX]] [.one (.bool (lu (⟨pW,pX⟩:j6)))]:=by
 refine a3 6 func169 call169 [.tmp 2] ?_;intro _
 try simp only[go_sem]
 repeat'(refine ae.intro (by apply jt) ?_<;>simp only[go_sem])
 all_goals simp[lu]
theorem HI(pW:Int)(pX:Bool):aL 244 [.agg [.int .i64 pW,.bool pX]] [.one (.bool (lu (⟨pW,pX⟩:j6)))]:=by
 refine a3 6 func244 call244 [.tmp 2] ?_;intro _
 try simp only[go_sem]
 repeat'(refine ae.intro (by apply j1) ?_<;>simp only[go_sem])
 all_goals simp[lu]
def yg:j6:=⟨3,false⟩
theorem X7 :aL 278 [] [.agg [.int .i64 (yg).ew,.bool (yg).hO]]:=by
 refine a3 2 func278 call278 [.cell 0 64] ?_;intro _
 try simp only[go_sem]
 all_goals simp[yg]
def Dp:ff:=⟨16,8,32,16,64,2,2,4⟩
theorem ab6 :aL 215 [] [.agg (ff.enc (Dp))]:=by
 refine a3 2 func215 call215 [.cell 0 25] ?_;intro _
 try simp only[go_sem]
 all_goals simp[Dp]
def ZG:List (List bR):=cS 14 [4517978,4518331,4518337,4518316,4518262,4518100,4517613,4775314,4779688,4764379,4725013,4606915,4251528,3188646]
def ZH:List (List bR):=cS 14 [3985925,3985927,3985920,3985902,3985848,4545922,4546408,4544707,4540333,4527211,4753444,4635346,4251649,3188646]
def ZI:List (List bR):=cS 18 [365897129,385029358,385029364,385029343,385029289,385029127,386709349,386710807,386705704,386692582,386653216,387331915,386977621,385826530,382637521,373071583,344373768,258280326]
def ZJ:List (List bR):=cS 14 [3988112,3988114,3988107,3988089,3988035,3988966,3988480,3986901,4760005,4773127,4727200,4609102,4254808,3188646]
def ZK:List (List bR):=cS 18 [365897129,385035919,385035925,385035904,385035850,385035688,385038481,385037023,385032286,387351598,387390964,387253183,386898889,385836007,382637521,373071583,344373768,258280326]
def ZL:List (List bR):=cS 25 [737454959978,737454959980,737454959973,737454959955,737454959901,737454988534,737454989020,737454987319,737454982945,737454969823,737454930336,747936157360,747936511654,747935271625,747932082979,747922517041,752994767092,753080860534,752779533487,752004692509,749680169575,742685165986,721764371007,800217020029,564859072962]
attribute [go_sem] ZG ZH ZI ZJ ZK ZL
theorem h_(xs:List J):cY xs=true↔(∀x∈xs,dj x=true)∧xs.Pairwise (fun a b=>a.high<b.low):=by
 constructor
 ·intro h;have Q2:∀i (hi:i<xs.length),rq xs i=true:=fun i hi=>by
   unfold cY at h;rw[List.all_eq_true]at h;exact h i (List.mem_range.2 hi)
  have hok:∀i (hi:i<xs.length),dj xs[i]=true:=fun i hi=>by
   cases i with
   |zero=>rw[←Lw xs hi];exact Q2 0 hi
   |succ j=>have:=Q2 (j+1) hi;rw[HS xs j hi,bW]at this;exact this.1
  have dx:∀j (aK:j+1<xs.length),xs[j].high<xs[j+1].low:=fun j aK=>by
   have:=Q2 (j+1) aK;rw[HS xs j aK,bW]at this;exact cQ this.2
  refine⟨fun x hx=>?_,?_⟩
  ·obtain⟨i,hi,rfl⟩:=List.getElem_of_mem hx;exact hok i hi
  ·rw[List.pairwise_iff_getElem];intro i j hi aK oa;obtain⟨d,rfl⟩:∃d,j=i+1+d:=⟨j-i-1,by omega⟩;clear oa
   induction d with
   |zero=>exact dx i ω
   |succ d df=>
    have h1:=df ω;have h2:=dx (i+1+d) ω;have ao:=hok (i+1+d) ω;simp only[dj,bW,b8]at ao;have e:xs[i+1+(d+1)].low=xs[i+1+d+1].low:=rfl;omega
 ·rintro⟨h1,h2⟩;unfold cY;rw[List.all_eq_true];intro i hi;have hi:=List.mem_range.1 hi
  cases i with
  |zero=>rw[Lw xs hi];exact h1 _ (eS hi)
  |succ j=>
   rw[HS xs j hi,bW];exact⟨h1 _ (eS hi),bC ((List.pairwise_iff_getElem.1 h2) j (j+1) ω hi ω)⟩
theorem gI(r:J):dj r=true↔0≤r.low∧r.low<r.high∧r.high≤4611686018427387903:=by
 simp only[dj,bW,b8,fJ]
theorem yt{α β:Type}(g:β→α→β)(a:β)(xs:List α)(i:Nat)(h:i<xs.length):(xs.take (i+1)).foldl g a=g ((xs.take i).foldl g a) xs[i]:=by
 rw[gV,cD h,Option.toList_some,List.foldl_append];rfl
theorem EJ{α β:Type}(f:α→List β)(xs:List α)(i:Nat)(h:i<xs.length):(xs.take (i+1)).flatMap f=(xs.take i).flatMap f++f xs[i]:=by
 rw[gV,cD h,Option.toList_some,List.flatMap_append];simp
def hY(xs:List J):Int:=xs.foldl (fun n r=>n+(r.high-r.low)) 0
theorem H2{xs:List J}(h:cY xs=true):∀i,(hi:i<xs.length)→0≤hY (xs.take i)∧hY (xs.take i)≤xs[i].low
 |0,hi=>by
  have h1:=(gI _).1 (((h_ xs).1 h).1 _ (eS hi));simp only[List.take_zero,hY,List.foldl_nil];omega
 |i+1,hi=>by
  obtain⟨h1,h2⟩:=H2 h i ω;have ao:=(List.pairwise_iff_getElem.1 ((h_ xs).1 h).2) i (i+1) ω hi ω;have aN:=(gI _).1 (((h_ xs).1 h).1 _ (eS (show i<xs.length by omega)));have e:hY (xs.take (i+1))=hY (xs.take i)+(xs[i].high-xs[i].low):=yt _ _ _ _ _;omega
def jq(xs:List J):Int:=if cY xs then hY xs else -1
theorem CU(xs:List J):aL 197 [.one (.sl 2 (xs.map J.enc))] [.one (.int .i64 (jq xs))]:=by
 refine a3 28 func197 call197 [.tmp 2] ?_;intro ok;have hm:=fI ok
 cases hA:cY xs with
 |false=>
  try simp only[go_sem]
  repeat'(refine ae.intro (by apply xb) ?_<;>simp only[go_sem,hA])
  all_goals simp[jq,hA]
 |true=>
  simp only[go_sem];refine ae.intro (xb xs) ?_;simp only[go_sem,hA];refine cr.intro (fun i:Nat=>⟨(.d (.sl 2 (xs.map J.enc))::.al::.i 0::.i (hY (xs.take i))::.i i::aA 23 []),[]⟩)
   (fun i=>xs.length-i) (fun i=>i≤xs.length) 0 [] ω ?_ ?_
  ·simp only[go_sem];simp[hY]
  ·intro i hi;by_cases h1:i<xs.length
   ·have ax:=bC (p:=(i:Int)<(xs.length:Int)) ω;have aB:=cq J.enc xs i h1;have hw:=dX h1 hm;have hb:=H2 hA i h1;have aN:=(gI _).1 (((h_ xs).1 hA).1 _ (eS h1));have e:hY (xs.take (i+1))=hY (xs.take i)+(xs[i].high-xs[i].low):=yt _ _ _ _ _;have cE:i64.wrap (hY (xs.take i)+xs[i].high)=hY (xs.take i)+xs[i].high:=by rw[bA]<;>omega
    have fZ:i64.wrap (hY (xs.take i)+xs[i].high-xs[i].low)=hY (xs.take (i+1)):=by rw[bA]<;>omega
    try simp only[go_sem,I,ax]
    repeat'(first|(refine bo ZG χ ψ ?_<;>simp only[go_sem,I,aE,aB,J.enc,cE,fZ])|(with_reducible refine az ?_)|fail)
    all_goals(refine bE.intro (i+1) [] ω ω ?_;simp only[go_sem,hw];try simp)
   ·have ax:=bm (p:=(i:Int)<(xs.length:Int)) ω;obtain rfl:i=xs.length:=by omega
    simp only[go_sem,I,ax,d3];simp[jq,hA]
theorem Q3(xs:List J):aL 267 [.one (.sl 2 (xs.map J.enc))] [.one (.int .i64 (jq xs))]:=by
 refine a3 24 func267 call267 [.tmp 2] ?_;intro ok;have hm:=fI ok
 cases hA:cY xs with
 |false=>
  try simp only[go_sem]
  repeat'(refine ae.intro (by apply Bd) ?_<;>simp only[go_sem,hA])
  all_goals simp[jq,hA]
 |true=>
  simp only[go_sem];refine ae.intro (Bd xs) ?_;simp only[go_sem,I,hA];refine cr.intro (fun i:Nat=>⟨(.d (.sl 2 (xs.map J.enc))::.al::.i 0::.i (hY (xs.take i))::aA 5 (.d (.sl 2 (xs.map J.enc))::.i xs.length::.i i::aA 12 [])),[]⟩)
   (fun i=>xs.length-i) (fun i=>i≤xs.length) 0 [] ω ?_ ?_
  ·simp only[go_sem];simp[hY]
  ·intro i hi;by_cases h1:i<xs.length
   ·have ax:=bC (p:=(i:Int)<(xs.length:Int)) ω;have aB:=cq J.enc xs i h1;have hw:=dX h1 hm;have hb:=H2 hA i h1;have aN:=(gI _).1 (((h_ xs).1 hA).1 _ (eS h1));have e:hY (xs.take (i+1))=hY (xs.take i)+(xs[i].high-xs[i].low):=yt _ _ _ _ _;have cE:i64.wrap (xs[i].high-xs[i].low)=xs[i].high-xs[i].low:=by rw[bA]<;>omega
    have fZ:i64.wrap (hY (xs.take i)+(xs[i].high-xs[i].low))=hY (xs.take (i+1)):=by rw[bA]<;>omega
    try simp only[go_sem,I,aE,aB,J.enc,ax,cE,fZ]
    repeat'(first|(with_reducible refine az ?_)|fail)
    all_goals(refine bE.intro (i+1) [] ω ω ?_;simp only[go_sem,hw];try simp)
   ·have ax:=bm (p:=(i:Int)<(xs.length:Int)) ω;obtain rfl:i=xs.length:=by omega
    simp only[go_sem,ax,d3];simp[jq,hA]
def lM(f:Int)(r:J):Int:=if r.low≤f∧f<r.high then r.high else f
def zJ(xs:List J)(f:Int):Bool:=cY xs&&decide (0≤f)
def rk(xs:List J)(f:Int):Int:=if zJ xs f then xs.foldl lM f else -1
theorem zK(xs:List J)(f:Int):aL 198 [.one (.sl 2 (xs.map J.enc)),.one (.int .i64 f)] [.one (.int .i64 (rk xs f))]:=by
 refine a3 41 func198 call198 [.tmp 4] ?_;intro ok;have hm:=fI ok
 try simp only[go_sem]
 repeat'((first|refine ae.intro (by apply xb) ?_|refine bw ?_)<;>simp only[go_sem])
 refine bP (fun h0=>?_) (fun h0=>?_)
 ·simp only[go_sem];have:zJ xs f=false:=by revert h0;simp only[zJ];cases cY xs<;>simp
  simp[rk,this]
 ·have hg:zJ xs f=true:=by revert h0;simp only[zJ];cases cY xs<;>simp
  simp only[go_sem];refine cr.intro (fun i:Nat=>⟨(.d (.sl 2 (xs.map J.enc))::.i ((xs.take i).foldl lM f)::aA 3 (.i i::aA 35 [])),[]⟩)
   (fun i=>xs.length-i) (fun i=>i≤xs.length) 0 [] ω ?_ ?_
  ·simp only[go_sem];simp
  ·intro i hi;by_cases h1:i<xs.length
   ·have ax:=bC (p:=(i:Int)<(xs.length:Int)) ω;have aB:=cq J.enc xs i h1;have hw:=dX h1 hm;have e:=yt lM f xs i h1;by_cases ep:xs[i].low≤(xs.take i).foldl lM f
    ·have p5:=bC (p:=xs[i].low≤(xs.take i).foldl lM f) ep;by_cases eE:(xs.take i).foldl lM f<xs[i].high
     ·have pZ:=bC (p:=(xs.take i).foldl lM f<xs[i].high) eE;rw[lM,if_pos ⟨ep,eE⟩]at e
      try simp only[go_sem,I,aE,aB,J.enc,ax,p5]
      repeat'(first|(with_reducible refine cN ?_<;>simp only[go_sem,I,aE,aB,J.enc,pZ])|(with_reducible refine az ?_)|fail)
      all_goals(refine bE.intro (i+1) [] ω ω ?_;simp only[go_sem,hw,e])
     ·have pZ:=bm (p:=(xs.take i).foldl lM f<xs[i].high) eE;rw[lM,if_neg (fun g=>eE g.2)]at e
      try simp only[go_sem,I,aE,aB,J.enc,ax,p5]
      repeat'(first|(with_reducible refine cN ?_<;>simp only[go_sem,I,aE,aB,J.enc,pZ])|(with_reducible refine az ?_)|fail)
      all_goals(refine bE.intro (i+1) [] ω ω ?_;simp only[go_sem,hw,e])
    ·have p5:=bm (p:=xs[i].low≤(xs.take i).foldl lM f) ep;rw[lM,if_neg (fun g=>ep g.1)]at e
     try simp only[go_sem,I,aE,aB,J.enc,ax,p5]
     repeat'(first|(with_reducible refine eB ?_<;>simp only[go_sem])|(with_reducible refine az ?_)|fail)
     all_goals(refine bE.intro (i+1) [] ω ω ?_;simp only[go_sem,hw,e])
   ·have ax:=bm (p:=(i:Int)<(xs.length:Int)) ω;obtain rfl:i=xs.length:=by omega
    simp only[go_sem,I,ax,d3];simp[rk,hg]
theorem ZM(xs:List J)(f:Int):aL 236 [.one (.sl 2 (xs.map J.enc)),.one (.int .i64 f)] [.one (.int .i64 (rk xs f))]:=by
 refine a3 34 func236 call236 [.tmp 4] ?_;intro ok;have hm:=fI ok
 try simp only[go_sem]
 repeat'((first|refine ae.intro (by apply Bd) ?_|refine bw ?_)<;>simp only[go_sem])
 refine bP (fun h0=>?_) (fun h0=>?_)
 ·simp only[go_sem];have:zJ xs f=false:=by revert h0;simp only[zJ];cases cY xs<;>simp
  simp[rk,this]
 ·have hg:zJ xs f=true:=by revert h0;simp only[zJ];cases cY xs<;>simp
  simp only[go_sem,I];refine cr.intro (fun i:Nat=>⟨(.d (.sl 2 (xs.map J.enc))::.i ((xs.take i).foldl lM f)::aA 12 (.d (.sl 2 (xs.map J.enc))::.i xs.length::.i i::aA 17 [])),[]⟩)
   (fun i=>xs.length-i) (fun i=>i≤xs.length) 0 [] ω ?_ ?_
  ·simp only[go_sem];simp
  ·intro i hi;by_cases h1:i<xs.length
   ·have ax:=bC (p:=(i:Int)<(xs.length:Int)) ω;have aB:=cq J.enc xs i h1;have hw:=dX h1 hm;have e:=yt lM f xs i h1;by_cases ep:xs[i].low≤(xs.take i).foldl lM f
    ·have p5:=bC (p:=xs[i].low≤(xs.take i).foldl lM f) ep;by_cases eE:(xs.take i).foldl lM f<xs[i].high
     ·have pZ:=bC (p:=(xs.take i).foldl lM f<xs[i].high) eE;rw[lM,if_pos ⟨ep,eE⟩]at e
      try simp only[go_sem,I,aE,aB,J.enc,ax,p5]
      repeat'(first|(with_reducible refine cN ?_<;>simp only[go_sem,pZ])|(with_reducible refine az ?_)|fail)
      all_goals(refine bE.intro (i+1) [] ω ω ?_;simp only[go_sem,hw,e])
     ·have pZ:=bm (p:=(xs.take i).foldl lM f<xs[i].high) eE;rw[lM,if_neg (fun g=>eE g.2)]at e
      try simp only[go_sem,I,aE,aB,J.enc,ax,p5]
      repeat'(first|(with_reducible refine cN ?_<;>simp only[go_sem,pZ])|(with_reducible refine az ?_)|fail)
      all_goals(refine bE.intro (i+1) [] ω ω ?_;simp only[go_sem,hw,e])
    ·have p5:=bm (p:=xs[i].low≤(xs.take i).foldl lM f) ep;rw[lM,if_neg (fun g=>ep g.1)]at e
     try simp only[go_sem,I,aE,aB,J.enc,ax,p5]
     repeat'(first|(with_reducible refine eB ?_<;>simp only[go_sem])|(with_reducible refine az ?_)|fail)
     all_goals(refine bE.intro (i+1) [] ω ω ?_;simp only[go_sem,hw,e])
   ·have ax:=bm (p:=(i:Int)<(xs.length:Int)) ω;obtain rfl:i=xs.length:=by omega
    simp only[go_sem,ax,d3];simp[rk,hg]
def ir(r x:J):List J:=
 (if x.low<cj x.high r.low then [⟨x.low,cj x.high r.low⟩]else [])++(if dp x.low r.high<x.high then [⟨dp x.low r.high,x.high⟩]else [])
def mh(xs:List J)(r:J):List J:=if cY xs&&dj r then xs.flatMap (ir r)else xs
theorem Q4(r x:J):(ir r x).length≤2:=by unfold ir;split<;>split<;>simp
theorem yu{α β:Type}(f:α→List β)(k:Nat)(h:∀x,(f x).length≤k):∀xs:List α,(xs.flatMap f).length≤k * xs.length
 |[]=>by simp
 |x::xs=>by
  have:=yu f k h xs;have:=h x;simp only[List.flatMap_cons,dY,dA,Nat.mul_add];omega
theorem Q5(xs:List J)(l h:Int)(hx:xs.length≤1048576):aL 156 [.one (.sl 2 (xs.map J.enc)),.agg [.int .i64 l,.int .i64 h]] [.one (.sl 2 ((mh xs ⟨l,h⟩).map J.enc))]:=by
 refine a3 87 func156 call156 [.tmp 4] ?_;intro ok;have hm:=fI ok
 try simp only[go_sem]
 repeat'((first|refine ae.intro (by apply xb) ?_|refine ay.intro (by apply HU) ?_|refine bw ?_)<;>simp only[go_sem])
 refine bP (fun h0=>?_) (fun h0=>?_)
 ·have hg:(cY xs&&dj ⟨l,h⟩)=false:=by revert h0;cases cY xs<;>cases dj ⟨l,h⟩<;>simp
  try simp only[go_sem]
  repeat'(first|(refine ae.intro (by(apply ML<;>exact a6)) ?_<;>simp only[go_sem,I])|(with_reducible refine az ?_)|fail)
  all_goals simp[mh,hg]
 ·have hg:(cY xs&&dj ⟨l,h⟩)=true:=by revert h0;cases cY xs<;>cases dj ⟨l,h⟩<;>simp
  simp only[go_sem];refine cr.intro (fun i:Nat=>⟨(.d (.sl 2 (xs.map J.enc))::.al::.al::.ptr 0 0 0::.al::.sl 1 0 ((xs.take i).flatMap (ir ⟨l,h⟩)).length::.i i::aA 80 []),[.box [.i l,.i h],.ah 2 (((xs.take i).flatMap (ir ⟨l,h⟩)).map J.enc) true]⟩)
   (fun i=>xs.length-i) (fun i=>i≤xs.length) 0 [0,1] ω ?_ ?_
  ·simp only[go_sem];simp
  ·intro i hi;by_cases h1:i<xs.length
   ·have ax:=bC (p:=(i:Int)<(xs.length:Int)) ω;have aB:=cq J.enc xs i h1;have hw:=dX h1 hm;have e:=EJ (ir ⟨l,h⟩) xs i h1;have g6:=yu (ir ⟨l,h⟩) 2 (Q4 _) (xs.take i);have cM:(xs.take i).length=i:=by simp;omega
    generalize hq:(xs.take i).flatMap (ir ⟨l,h⟩)=hF at e g6
    try simp only[go_sem,I,ax]
    repeat'(first|((first|refine bo ZH ζ ψ ?_|refine bo ZI ζ ψ ?_|refine bo ZJ ζ ψ ?_|refine bo ZK ζ ψ ?_|refine bP (fun h=>?_) (fun h=>?_))<;>simp only[go_sem,I,aE,aB,J.enc])|(with_reducible refine az ?_)|fail)
    all_goals(simp only[b8,eG]at *)
    all_goals rename_i h2
    all_goals first
     |(refine bE.intro (i+1) [0,5] ω ω ?_;simp only[go_sem,hw,e,ir,cj,dp];rw[if_pos h2,if_pos h];simp[J.enc];done)
     |(refine bE.intro (i+1) [0,3] ω ω ?_;simp only[go_sem,hw,e,ir,cj,dp];rw[if_pos h2,if_neg h];simp[J.enc];done)
     |(refine bE.intro (i+1) [0,3] ω ω ?_;simp only[go_sem,hw,e,ir,cj,dp];rw[if_neg h2,if_pos h];simp[J.enc];done)
     |(refine bE.intro (i+1) [0,1] ω ω ?_;simp only[go_sem,hw,e,ir,cj,dp];rw[if_neg h2,if_neg h];simp;done)
   ·have ax:=bm (p:=(i:Int)<(xs.length:Int)) ω;obtain rfl:i=xs.length:=by omega
    simp only[go_sem,I,ax,d3];simp[mh,hg]
def f1(x y:J):List J:=if dp x.low y.low<cj x.high y.high then [⟨dp x.low y.low,cj x.high y.high⟩]else []
def iE(xs ys:List J):List J:=if cY xs&&cY ys then xs.flatMap fun x=>ys.flatMap (f1 x)else []
theorem H3(x y:J):(f1 x y).length≤1:=by unfold f1;split<;>simp
theorem Q6(xs ys:List J)(hx:xs.length≤1048576)(hy:ys.length≤8):aL 155 [.one (.sl 2 (xs.map J.enc)),.one (.sl 2 (ys.map J.enc))] [.one (.sl 2 ((iE xs ys).map J.enc))]:=by
 refine a3 63 func155 call155 [.tmp 4] ?_;intro ok;have hm:=fI ok;have eH:=xb xs;have fU:=xb ys;simp only[go_sem];refine cr.intro (fun i:Nat=>⟨(.d (.sl 2 (xs.map J.enc))::.d (.sl 2 (ys.map J.enc))::aA 3 (.sl 0 0 ((xs.take i).flatMap fun x=>ys.flatMap (f1 x)).length::.i i::aA 56 [])),[.ah 2 (((xs.take i).flatMap fun x=>ys.flatMap (f1 x)).map J.enc) true]⟩)
   (fun i=>xs.length-i) (fun i=>i≤xs.length∧((cY xs&&cY ys)=false→i=0)) 0 [0] ⟨by omega,fun _=>rfl⟩ ?_ ?_
 ·simp only[go_sem];simp
 ·rintro i ⟨hi,hz⟩;by_cases h1:i<xs.length
  ·have ax:=bC (p:=(i:Int)<(xs.length:Int)) ω;have aB:=cq J.enc xs i h1;have hw:=dX h1 hm;have e:=EJ (fun x=>ys.flatMap (f1 x)) xs i h1;have g6:=yu (fun x=>ys.flatMap (f1 x)) ys.length (fun x=>by have:=yu (f1 x) 1 (H3 x) ys;omega) (xs.take i);have cM:(xs.take i).length=i:=by simp;omega
   have Q7:((xs.take i).flatMap fun x=>ys.flatMap (f1 x)).length≤8388608:=by
    have:ys.length * (xs.take i).length≤8 * 1048576:=Nat.mul_le_mul hy ω;omega
   cases hg:(cY xs&&cY ys)with
   |false=>
    obtain rfl:=hz hg
    cases pV:cY xs with
    |false=>
     try simp only[go_sem,I,ax]
     repeat'(first|((first|refine ae.intro ‹_› ?_|refine ay.intro ‹_› ?_|with_reducible refine cN ?_|with_reducible refine eB ?_)<;>simp only[go_sem,I,pV])|(with_reducible refine az ?_)|fail)
     all_goals simp[iE,hg]
    |true=>
     have oK:cY ys=false:=by revert hg;rw[pV];simp
     try simp only[go_sem,I,ax]
     repeat'(first|((first|refine ae.intro ‹_› ?_|refine ay.intro ‹_› ?_|with_reducible refine cN ?_)<;>simp only[go_sem,I,pV,oK])|(with_reducible refine az ?_)|fail)
     all_goals simp[iE,hg]
   |true=>
    have pV:cY xs=true:=by revert hg;cases cY xs<;>simp
    have oK:cY ys=true:=by revert hg;rw[pV];simp
    generalize hq:((xs.take i).flatMap fun x=>ys.flatMap (f1 x))=hF at e g6 Q7
    try simp only[go_sem,I,ax]
    repeat'((first|refine ae.intro ‹_› ?_|refine ay.intro ‹_› ?_|with_reducible refine cN ?_)<;>simp only[go_sem,pV,oK])
    refine cr.intro (fun k:Nat=>⟨(.d (.sl 2 (xs.map J.enc))::.d (.sl 2 (ys.map J.enc))::aA 3 (.sl 0 0 (hF++(ys.take k).flatMap (f1 xs[i])).length::.i i::.i k::aA 55 [])),[.ah 2 ((hF++(ys.take k).flatMap (f1 xs[i])).map J.enc) true]⟩)
     (fun k=>ys.length-k) (fun k=>k≤ys.length) 0 [0] ω ?_ ?_
    ·simp only[go_sem];simp
    ·intro k hk;by_cases h2:k<ys.length
     ·have g7:=bC (p:=(k:Int)<(ys.length:Int)) ω;have n3:=cq J.enc ys k h2;have lQ:=dX (m:=8) (i:=k) ω (by simp[maxLen]);have ar:=EJ (f1 xs[i]) ys k h2;have akl:=yu (f1 xs[i]) 1 (H3 _) (ys.take k);have Ao:(ys.take k).length=k:=by simp;omega
      generalize zU:hF++(ys.take k).flatMap (f1 xs[i])=H4;have LB:H4.length≤8388616:=by rw[←zU,dY];omega
      have ba:hF++(ys.take (k+1)).flatMap (f1 xs[i])=H4++f1 xs[i] ys[k]:=by rw[ar,←List.append_assoc,zU]
      try simp only[go_sem,I,g7]
      repeat'(first|((first|refine ae.intro ‹_› ?_|refine ay.intro ‹_› ?_|refine bo ZL χ ψ ?_|refine bP (fun h=>?_) (fun h=>?_))<;>simp only[go_sem,I,aE,aB,n3,J.enc])|(with_reducible refine az ?_)|fail)
      ·have hc:f1 xs[i] ys[k]=[⟨dp xs[i].low ys[k].low,cj xs[i].high ys[k].high⟩]:=by unfold f1;exact if_pos (cQ h)
       rw[hc]at ba;have bF:=congrArg List.length ba;simp only[dY,List.length_singleton]at bF;refine bE.intro (k+1) [3] ω ω ?_;simp only[go_sem,lQ,ba,bF];simp[J.enc,cj,dp]
      ·have hc:f1 xs[i] ys[k]=[]:=by unfold f1;exact if_neg (c2 h)
       rw[hc,gm]at ba;have bF:=congrArg List.length ba;simp only[dY]at bF;refine bE.intro (k+1) [0] ω ω ?_;simp only[go_sem,lQ,ba,bF];simp
     ·have g7:=bm (p:=(k:Int)<(ys.length:Int)) ω;obtain rfl:k=ys.length:=by omega
      simp only[go_sem,I,g7,d3];refine bE.intro (i+1) [0] ω ω ?_;simp only[go_sem,hw,e];simp
  ·have ax:=bm (p:=(i:Int)<(xs.length:Int)) ω;obtain rfl:i=xs.length:=by omega
   have hr:(xs.flatMap fun x=>ys.flatMap (f1 x))=iE xs ys:=by
    unfold iE;split
    ·rfl
    ·rename_i hg;have:=hz (by simpa using hg);rw[List.length_eq_zero_iff.1 this];rfl
   try simp only[go_sem,I,ax,d3,hr]
   repeat'((first|refine ae.intro ‹_› ?_|refine ay.intro ‹_› ?_|with_reducible refine eB ?_)<;>simp only[go_sem,I])
   all_goals simp
def o3(n:Int):UInt8:=UInt8.ofNat n.toNat
theorem Zr:∀(l:List Int),bytesL (l.map eU8)=some (l.map o3)
 |[]=>rfl
 |n::l=>by simp only[eT,bytesL,eU8,byte1,Zr l];rfl
def HX(n:Int):Nat→St
 |0=>⟨(.i n::.i 1::.al::.al::.d (.str [])::.d (.str [])::.i 0::aA 24 []),[]⟩
 |i+1=>⟨(.i 0::.i 1::.al::.al::.d (.str [])::.d (.str [o3 n])::.i ((i+1:Nat):Int)::aA 24 []),[]⟩
theorem Zh(n:Int)(h:0≤n∧n≤255):aL 245 [.one (.int .i64 n),.one (.int .i64 1)] [.one (.str [o3 n])]:=by
 refine a3 31 func245 call245 [.tmp 4] ?_;intro _;have h1:¬n<0:=by omega
 have h2:n.tmod 256=n:=by rw[Int.tmod_eq_emod_of_nonneg ω];omega
 have ao:n.tdiv 256=0:=by rw[Int.tdiv_eq_ediv_of_nonneg ω];omega
 have aN:IntKind.u8.wrap n=n:=OF h.1 h.2;have b6:i64.wrap 0=0:=by decide
 simp only[go_sem];refine ae.intro (j1 1 1 7) ?_;simp only[go_sem]
 repeat(refine bw ?_;simp only[go_sem])
 have hz:(bif !ca 1 1 7 then true else decide (n<0))=false:=by simp[ca,h1]
 rw[hz];simp only[go_sem];refine cr.intro (HX n) (fun i=>1-i) (fun i=>i≤1) 0 [] ω ?_ ?_
 ·simp only[HX,go_sem]
 ·intro i hi
  cases i with
  |zero=>
   simp only[HX,go_sem,h2,ao,aN,b6];refine bE.intro 1 [] ω ω ?_;simp only[HX,go_sem];simp[o3,bA]
  |succ i=>
   have p2:i=0:=by omega
   subst p2;simp only[HX,go_sem];refine bP (fun dP=>absurd (cQ dP) ω) (fun _=>?_);simp only[go_sem]
theorem ake{n:Int}(h:0≤n∧n≤255):bitI .and .i64 n 255=n:=by
 have key:∀m:Fin 256,bitI .and .i64 (m.val:Int) 255=(m.val:Int):=by decide +kernel
 have:=key ⟨n.toNat,by omega⟩;simpa [show(n.toNat:Int)=n from by omega]using this
theorem Hk(n:Int)(h:0≤n∧n≤255):aL 199 [.one (.int .i64 n)] [.one (.str [o3 n])]:=by
 refine a3 6 func199 call199 [.tmp 2] ?_;intro _;simp only[go_sem,ake h];refine ae.intro (Zh n h) ?_;simp only[go_sem]
def SD:List (List bR):=cS 12 [501920,501918,501952,501934,502240,502078,522328,530347,525973,512122,472392,354294]
def MJ:List (List bR):=cS 8 [6200,6198,6448,6547,6493,6322,5832,4374]
def SE:List (List bR):=cS 13 [1505753,1505751,1505866,1505848,1505794,1506721,1506235,1514497,1510123,1584481,1545115,1417176,1062882]
def SF:List (List bR):=cS 15 [14345882,14345880,14345874,14345977,14345923,14326065,14348542,14347084,14322663,14336028,14289858,14171760,13817466,12754584,9565938]
def SG:List (List bR):=cS 24 [266739006680,266739006678,266740662352,266740662334,266740662280,266740663207,266740662721,266740661146,266740686292,266740673170,266740630528,266741309587,266740955293,266739803842,266758138552,266748572614,266911193560,266825100118,268288688632,267513847654,280686144280,273712575478,251048476872,188286357654]
def SH:List (List bR):=cS 10 [58940,58938,58932,59035,58981,58077,58563,56862,52488,39366]
def SI:List (List bR):=cS 11 [167306,176065,176059,176809,177106,176944,176431,174961,170587,157464,118098]
def SJ:List (List bR):=cS 17 [121965710,128343355,128343361,128343340,128343286,128343124,128875171,129132508,129136882,129121573,129082207,128964109,128609086,127545841,124357195,114791256,86093442]
attribute [go_sem] SD MJ SE SF SG SH SI SJ
theorem gW{α:Type}(e:α→List D)(l:List α):(l.map e).take l.length=l.map e:=e7 ξ
theorem Ix{α:Type}(e:α→List D)(xs:List α)(i:Nat)(h:i<xs.length):(xs.take (i+1)).map e=(xs.take i).map e++[e xs[i]]:=by
 rw[gV,cD h,Option.toList_some,List.map_append];rfl
theorem abv(cK cC cH:Int)(cg:List Int)(hx:cg.length≤8388608):aL 202 [.agg [.int .i64 cK,.int .i64 cC,.int .i64 cH,.sl 1 (cg.map aR)]] [.agg [.int .i64 ((⟨cK,cC,cH,cg⟩:dd)).size,.int .i64 ((⟨cK,cC,cH,cg⟩:dd)).base,.int .i64 ((⟨cK,cC,cH,cg⟩:dd)).cu,.sl 1 (((⟨cK,cC,cH,cg⟩:dd)).cells.map aR)]]:=by
 refine a3 9 func202 call202 [.cell 2 54] ?_;intro _
 try simp only[go_sem,I]
 repeat'(first|(with_reducible refine az ?_)|fail)
 all_goals simp
theorem IL(cK cC cH:Int)(cg:List Int)(hx:cg.length≤8388608):aL 207 [.agg [.int .i64 cK,.int .i64 cC,.int .i64 cH,.sl 1 (cg.map aR)]] [.agg [.int .i64 ((⟨cK,cC,cH,cg⟩:dd)).size,.int .i64 ((⟨cK,cC,cH,cg⟩:dd)).base,.int .i64 ((⟨cK,cC,cH,cg⟩:dd)).cu,.sl 1 (((⟨cK,cC,cH,cg⟩:dd)).cells.map aR)]]:=by
 refine a3 14 func207 call207 [.cell 2 54] ?_;intro _
 try simp only[go_sem]
 repeat'(first|(refine bo SD χ ψ ?_<;>simp only[go_sem,I])|(with_reducible refine az ?_)|fail)
 all_goals simp
theorem abw(BM:Int)(yT:List aU)(hx:yT.length≤8388608):aL 266 [.agg [.int .i64 BM,.sl 2 (yT.map aU.enc)]] [.agg [.int .i64 ((⟨BM,yT⟩:mr)).next,.sl 2 (((⟨BM,yT⟩:mr)).cp.map aU.enc)]]:=by
 refine a3 10 func266 call266 [.cell 2 60] ?_;intro _
 try simp only[go_sem]
 repeat'(first|(refine bo MJ χ ψ ?_<;>simp only[go_sem,I])|(with_reducible refine az ?_)|fail)
 all_goals simp
theorem zY(BM:Int)(yT:List aU)(hx:yT.length≤8388608):aL 227 [.agg [.int .i64 BM,.sl 2 (yT.map aU.enc)]] [.agg [.int .i64 ((⟨BM,yT⟩:mr)).next,.sl 2 (((⟨BM,yT⟩:mr)).cp.map aU.enc)]]:=by
 refine a3 10 func227 call227 [.cell 2 60] ?_;intro _
 try simp only[go_sem]
 repeat'(first|(refine bo MJ χ ψ ?_<;>simp only[go_sem,I])|(with_reducible refine az ?_)|fail)
 all_goals simp
theorem abx(dH du:Int)(cZ:List aU)(dT dO dQ:Int)(hx:cZ.length≤8388608):aL 226 [.agg [.int .i64 dH,.int .i64 du,.sl 2 (cZ.map aU.enc),.int .i64 dT,.int .i64 dO,.int .i64 dQ]] [.agg (b'.enc ((⟨dH,⟨du,cZ⟩,dT,dO,dQ⟩:b')))]:=by
 refine a3 8 func226 call226 [.cell 2 62] ?_;intro _
 try simp only[go_sem]
 repeat'(refine ae.intro (by(apply abw<;>exact a6)) ?_<;>simp only[go_sem,I])
 all_goals simp
theorem z9(dH du:Int)(cZ:List aU)(dT dO dQ:Int)(hx:cZ.length≤8388608):aL 173 [.agg [.int .i64 dH,.int .i64 du,.sl 2 (cZ.map aU.enc),.int .i64 dT,.int .i64 dO,.int .i64 dQ]] [.agg (b'.enc ((⟨dH,⟨du,cZ⟩,dT,dO,dQ⟩:b')))]:=by
 refine a3 15 func173 call173 [.cell 2 62] ?_;intro _
 try simp only[go_sem]
 repeat'((first|refine ay.intro (by(apply zY<;>exact a6)) ?_|refine bo SE χ ψ ?_)<;>simp only[go_sem,I])
 all_goals simp
theorem MK(a' bf bg a_:Int)(a7:List Int)(aF aD aI:List J)(bc a9 a8 bh:Int)(h1:a7.length≤8388608)(h2:aF.length≤8388608)(ao:aD.length≤8388608)(aN:aI.length≤8388608):aL 145 [.agg [.int .i64 a',.int .i64 bf,.int .i64 bg,.int .i64 a_,.sl 1 (a7.map aR),.sl 2 (aF.map J.enc),.sl 2 (aD.map J.enc),.sl 2 (aI.map J.enc),.int .i64 bc,.int .i64 a9,.int .i64 a8,.int .i64 bh]] [.agg (au.enc ((⟨a',⟨bf,bg,a_,a7⟩,aF,aD,aI,bc,a9,a8,bh⟩:au)))]:=by
 refine a3 20 func145 call145 [.cell 2 57] ?_;intro _
 try simp only[go_sem]
 repeat'((first|refine ae.intro (by(apply abv<;>exact a6)) ?_|refine ay.intro (by(apply IM<;>exact a6)) ?_|refine bo SF χ ψ ?_)<;>simp only[go_sem,I])
 all_goals simp
theorem q0(a' bf bg a_:Int)(a7:List Int)(aF aD aI:List J)(bc a9 a8 bh:Int)(h1:a7.length≤8388608)(h2:aF.length≤8388608)(ao:aD.length≤8388608)(aN:aI.length≤8388608):aL 152 [.agg [.int .i64 a',.int .i64 bf,.int .i64 bg,.int .i64 a_,.sl 1 (a7.map aR),.sl 2 (aF.map J.enc),.sl 2 (aD.map J.enc),.sl 2 (aI.map J.enc),.int .i64 bc,.int .i64 a9,.int .i64 a8,.int .i64 bh]] [.agg (au.enc ((⟨a',⟨bf,bg,a_,a7⟩,aF,aD,aI,bc,a9,a8,bh⟩:au)))]:=by
 refine a3 26 func152 call152 [.cell 2 57] ?_;intro _
 try simp only[go_sem]
 repeat'((first|refine ay.intro (by first|(apply IL<;>exact a6)|(apply ML<;>exact a6)) ?_|refine bo SG χ ψ ?_)<;>simp only[go_sem,I])
 all_goals simp
theorem aby(mv mw mx my mz:Int)(lY:List Int)(ky kz kA:List J)(mA mB mC mD mE mF mG mH mI mJ:Int)(jh:List aU)(mK mL mM mN mO mP mQ mR mS mT:Int)(mU mV mW mX mY mZ m0:Bool)(m1:Int)(m2:Bool)(h1:lY.length≤8388608)(h2:ky.length≤8388608)(ao:kz.length≤8388608)(aN:kA.length≤8388608)(b6:jh.length≤8388608):aL 165 [.agg [.int .i64 mv,.int .i64 mw,.int .i64 mx,.int .i64 my,.int .i64 mz,.sl 1 (lY.map aR),.sl 2 (ky.map J.enc),.sl 2 (kz.map J.enc),.sl 2 (kA.map J.enc),.int .i64 mA,.int .i64 mB,.int .i64 mC,.int .i64 mD,.int .i64 mE,.int .i64 mF,.int .i64 mG,.int .i64 mH,.int .i64 mI,.int .i64 mJ,.sl 2 (jh.map aU.enc),.int .i64 mK,.int .i64 mL,.int .i64 mM,.int .i64 mN,.int .i64 mO,.int .i64 mP,.int .i64 mQ,.int .i64 mR,.int .i64 mS,.int .i64 mT,.bool mU,.bool mV,.bool mW,.bool mX,.bool mY,.bool mZ,.bool m0,.int .i64 m1,.bool m2]] [.agg (af.enc ((⟨mv,⟨mw,⟨mx,my,mz,lY⟩,ky,kz,kA,mA,mB,mC,mD⟩,⟨mE,mF,mG,mH⟩,⟨mI,⟨mJ,jh⟩,mK,mL,mM⟩,⟨mN,mO,mP,mQ,mR,mS⟩,⟨mT,mU⟩,mV,mW,mX,mY,mZ,m0,m1,m2⟩:af)))]:=by
 refine a3 12 func165 call165 [.cell 2 66] ?_;intro _
 try simp only[go_sem]
 repeat'((first|refine ay.intro (by first|(apply MK<;>exact a6)|(apply abx<;>exact a6)) ?_|refine bo SH χ ψ ?_)<;>simp only[go_sem,I])
 all_goals simp
theorem zZ(mv mw mx my mz:Int)(lY:List Int)(ky kz kA:List J)(mA mB mC mD mE mF mG mH mI mJ:Int)(jh:List aU)(mK mL mM mN mO mP mQ mR mS mT:Int)(mU mV mW mX mY mZ m0:Bool)(m1:Int)(m2:Bool)(h1:lY.length≤8388608)(h2:ky.length≤8388608)(ao:kz.length≤8388608)(aN:kA.length≤8388608)(b6:jh.length≤8388608):aL 95 [.agg [.int .i64 mv,.int .i64 mw,.int .i64 mx,.int .i64 my,.int .i64 mz,.sl 1 (lY.map aR),.sl 2 (ky.map J.enc),.sl 2 (kz.map J.enc),.sl 2 (kA.map J.enc),.int .i64 mA,.int .i64 mB,.int .i64 mC,.int .i64 mD,.int .i64 mE,.int .i64 mF,.int .i64 mG,.int .i64 mH,.int .i64 mI,.int .i64 mJ,.sl 2 (jh.map aU.enc),.int .i64 mK,.int .i64 mL,.int .i64 mM,.int .i64 mN,.int .i64 mO,.int .i64 mP,.int .i64 mQ,.int .i64 mR,.int .i64 mS,.int .i64 mT,.bool mU,.bool mV,.bool mW,.bool mX,.bool mY,.bool mZ,.bool m0,.int .i64 m1,.bool m2]] [.agg (af.enc ((⟨mv,⟨mw,⟨mx,my,mz,lY⟩,ky,kz,kA,mA,mB,mC,mD⟩,⟨mE,mF,mG,mH⟩,⟨mI,⟨mJ,jh⟩,mK,mL,mM⟩,⟨mN,mO,mP,mQ,mR,mS⟩,⟨mT,mU⟩,mV,mW,mX,mY,mZ,m0,m1,m2⟩:af)))]:=by
 refine a3 14 func95 call95 [.cell 2 66] ?_;intro _
 try simp only[go_sem]
 repeat'(refine ae.intro (by first|(apply q0<;>exact a6)|(apply z9<;>exact a6)) ?_<;>simp only[go_sem,I])
 all_goals simp
theorem Se(xs:List aT)(hx:(xs.length+mc aT.fo xs)≤4194304):aL 51 [.one (.sl 2 (xs.map aT.enc))] [.one (.sl 2 (xs.map aT.enc))]:=by
 refine a3 25 func51 call51 [.tmp 2] ?_;intro ok;have hm:=fI ok;clear ok;simp only[go_sem,I];refine cr.intro (fun i:Nat=>⟨(.al::.al::.ee 2::.sl 0 0 i::aA 3 (.d (.sl 2 (xs.map aT.enc))::.i xs.length::.i i::aA 15 [])),[.ah 2 ((xs.take i).map aT.enc) true]⟩)
   (fun i=>xs.length-i) (fun i=>i≤xs.length) 0 [0] ω ?_ ?_
 ·simp only[go_sem];simp
 ·intro i hi;have hl:(xs.take i).length=i:=by simp;omega
  simp only[go_sem];refine bP (fun h1=>?_) (fun h1=>?_)
  ·simp only[b8]at h1;have hlt:i<xs.length:=by omega
   have aB:=cq aT.enc xs i hlt;have hw:=dX hlt hm;have hb:=E5 aT.fo xs i hlt;simp only[aT.fo]at hb;simp only[aT.enc]at aB;have mb:((xs.take i).map aT.enc).take i=(xs.take i).map aT.enc:=e7 (by rw[I,hl];exact fE _);have dx:=Ix aT.enc xs i hlt;simp only[aT.enc]at dx
   try simp only[go_sem,I,aE,aB]
   repeat'(first|(refine bo SI χ ψ ?_<;>simp only[go_sem,I,hl])|(with_reducible refine az ?_)|fail)
   all_goals(refine bE.intro (i+1) [5] ω ω ?_;simp only[go_sem,hw];simp[dx])
  ·simp only[eG]at h1;have hC:i=xs.length:=by omega
   subst hC;simp only[go_sem,d3];simp[outOA]
theorem aa3(xs:List aT)(hx:(xs.length+mc aT.fo xs)≤4194304):aL 96 [.one (.sl 2 (xs.map aT.enc))] [.one (.sl 2 (xs.map aT.enc))]:=by
 refine a3 29 func96 call96 [.tmp 2] ?_;intro ok;have hm:=fI ok;clear ok;simp only[go_sem];refine cr.intro (fun i:Nat=>⟨(.d (.sl 2 (xs.map aT.enc))::.al::.ee 2::.sl 0 0 i::.i i::aA 24 []),[.ah 2 ((xs.take i).map aT.enc) true]⟩)
   (fun i=>xs.length-i) (fun i=>i≤xs.length) 0 [0] ω ?_ ?_
 ·simp only[go_sem];simp
 ·intro i hi;have hl:(xs.take i).length=i:=by simp;omega
  simp only[go_sem,I];refine bP (fun h1=>?_) (fun h1=>?_)
  ·simp only[b8]at h1;have hlt:i<xs.length:=by omega
   have aB:=cq aT.enc xs i hlt;have hw:=dX hlt hm;have hb:=E5 aT.fo xs i hlt;simp only[aT.fo]at hb;simp only[aT.enc]at aB;have mb:((xs.take i).map aT.enc).take i=(xs.take i).map aT.enc:=e7 (by rw[I,hl];exact fE _);have dx:=Ix aT.enc xs i hlt;simp only[aT.enc]at dx
   try simp only[go_sem]
   repeat'(first|(refine bo SJ χ ψ ?_<;>simp only[go_sem,I,aE,aB,hl])|(with_reducible refine az ?_)|fail)
   all_goals(refine bE.intro (i+1) [4] ω ω ?_;simp only[go_sem,hw];simp[dx])
  ·simp only[eG]at h1;have hC:i=xs.length:=by omega
   subst hC;simp only[go_sem,d3];simp[outOA]
theorem aa2(xs:List af)(hx:(xs.length+mc af.fo xs)≤4194304):aL 78 [.one (.sl 39 (xs.map af.enc))] [.one (.sl 39 (xs.map af.enc))]:=by
 refine a3 20 func78 call78 [.tmp 2] ?_;intro ok;have hm:=fI ok;clear ok;simp only[go_sem,I];refine cr.intro (fun i:Nat=>⟨(.al::.al::.ee 39::.sl 0 0 i::aA 3 (.d (.sl 39 (xs.map af.enc))::.i xs.length::.i i::aA 10 [])),[.ah 39 ((xs.take i).map af.enc) true]⟩)
   (fun i=>xs.length-i) (fun i=>i≤xs.length) 0 [0] ω ?_ ?_
 ·simp only[go_sem];simp
 ·intro i hi;have hl:(xs.take i).length=i:=by simp;omega
  simp only[go_sem];refine bP (fun h1=>?_) (fun h1=>?_)
  ·simp only[b8]at h1;have hlt:i<xs.length:=by omega
   have aB:=cq af.enc xs i hlt;have hw:=dX hlt hm;have hb:=E5 af.fo xs i hlt;simp only[af.fo,au.fo,dd.fo,b'.fo,mr.fo]at hb;simp only[af.enc]at aB;have mb:((xs.take i).map af.enc).take i=(xs.take i).map af.enc:=e7 (by rw[I,hl];exact fE _);have dx:=Ix af.enc xs i hlt;simp only[af.enc]at dx
   try simp only[go_sem,I,aE,aB]
   repeat'(first|(refine ae.intro (by(apply aby<;>exact a6)) ?_<;>simp only[go_sem,I,hl])|(with_reducible refine az ?_)|fail)
   all_goals(refine bE.intro (i+1) [8] ω ω ?_;simp only[go_sem,hw];simp[dx])
  ·simp only[eG]at h1;have hC:i=xs.length:=by omega
   subst hC;simp only[go_sem,d3];simp[outOA]
def Zx:List (List bR):=cS 15 [13551749,13551747,13558585,13558567,13558630,13558432,13561222,13559764,13555030,14280016,14319382,14181601,13827307,12754584,9565938]
def Zy:List (List bR):=cS 8 [6200,6198,6448,6547,6493,6322,5832,4374]
def Zz:List (List bR):=cS 14 [4517249,4773139,4773133,4779958,4780012,4779823,4782604,4781146,4776421,4763287,4723921,4605823,4251528,3188646]
attribute [go_sem] Zx Zy Zz
def ru(xs:List Int)(i:Nat):Bool:=(xs.take i).all fun b=>ca b 0 255
theorem ZA(xs:List Int)(i:Nat)(h:i<xs.length):ru xs (i+1)=(ru xs i&&ca xs[i] 0 255):=by
 unfold ru;rw[gV,cD h,Option.toList_some,List.all_append];simp
theorem ZB(xs:List Int)(i:Nat)(h:i<xs.length)(hb:ca xs[i] 0 255=false):ru xs xs.length=false:=by
 unfold ru;rw[d3,List.all_eq_false];exact⟨xs[i],eS h,by simp[hb]⟩
def yo(r:dd):Bool:=nS r.size&&decide ((r.cells.length:Int)=r.size)&&decide (0≤r.base)&&decide (r.base≤r.cu)&&decide (i64.wrap (r.cu-r.base)≤r.size)&&decide (r.cu≤4611686018427387903)
def kr(r:dd):Bool:=yo r&&ru r.cells r.cells.length
theorem Dg{n:Int}(h:nS n=true):1≤n∧n≤64:=by
 simp only[nS,ca,bW,b8]at h;exact h.1
theorem qz{r:dd}(h:kr r=true):1≤r.size∧r.size≤64∧(r.cells.length:Int)=r.size∧0≤r.base∧r.base≤r.cu∧r.cu-r.base≤r.size∧r.cu≤4611686018427387903∧nS r.size=true∧∀i (hi:i<r.cells.length),0≤r.cells[i]∧r.cells[i]≤255:=by
 simp only[kr,yo,bW,b8]at h;obtain⟨⟨⟨⟨⟨⟨h1,h2⟩,ao⟩,aN⟩,b6⟩,dP⟩,gY⟩:=h;have hs:=Dg h1;rw[bA]at b6<;>try omega
 refine⟨hs.1,hs.2,h2,ao,aN,b6,dP,h1,fun i hi=>?_⟩;unfold ru at gY;rw[d3,List.all_eq_true]at gY;have:=gY _ (eS hi);simpa [ca]using this
theorem yp(cK cC cH:Int)(cg:List Int):aL 195 [.agg [.int .i64 cK,.int .i64 cC,.int .i64 cH,.sl 1 (cg.map aR)]] [.one (.bool (kr (⟨cK,cC,cH,cg⟩:dd)))]:=by
 refine a3 57 func195 call195 [.tmp 2] ?_;intro ok;have hm:cg.length≤maxLen:=by have:=ok.1.2.2.2.1.1;rwa [I]at this
 try simp only[go_sem]
 repeat'((first|refine ae.intro (by apply Lz) ?_|refine bw ?_)<;>simp only[go_sem,I])
 refine bP (fun h0=>?_) (fun h0=>?_)
 ·simp only[go_sem];have:yo (⟨cK,cC,cH,cg⟩:dd)=false:=by
   revert h0;simp only[yo,d5]
   cases nS cK<;>simp<;>intros<;>omega
  simp[kr,this]
 ·have er:yo (⟨cK,cC,cH,cg⟩:dd)=true:=by
   revert h0;simp only[yo,d5]
   cases nS cK<;>simp<;>intros<;>omega
  simp only[go_sem];refine cr.intro (fun i:Nat=>⟨(.al::.ptr 0 0 0::.d (.bool false)::.i i::aA 53 []),[.box [.i cK,.i cC,.i cH,.d (.sl 1 (cg.map aR))]]⟩)
   (fun i=>cg.length-i) (fun i=>i≤cg.length∧ru cg i=true) 0 [0] ⟨by omega,by simp[ru]⟩ ?_ ?_
  ·simp only[go_sem];simp
  ·rintro i ⟨hi,he⟩;by_cases h1:i<cg.length
   ·have ax:=bC (p:=(i:Int)<(cg.length:Int)) ω;have aB:=cq aR cg i h1;have hw:=dX h1 hm;have hs:=ZA cg i h1;have hf:=ZB cg i h1
    try simp only[go_sem,I,aE,aB,aR,ax]
    repeat'(first|((first|refine ae.intro (by apply j1) ?_|refine bP (fun h=>?_) (fun h=>?_))<;>simp only[go_sem])|(with_reducible refine az ?_)|fail)
    ·have:=hf (by simpa using h);simp[kr,this]
    ·have ao:ca cg[i] 0 255=true:=by simpa using h
     refine bE.intro (i+1) [0] ⟨by omega,by rw[hs,he,ao];rfl⟩ ω ?_;simp only[go_sem,hw];simp
   ·have ax:=bm (p:=(i:Int)<(cg.length:Int)) ω;obtain rfl:i=cg.length:=by omega
    simp only[go_sem,I,ax];simp[kr,er,he]
theorem akh{xs:List Int}{i:Nat}(h:i<xs.length)(he:ru xs i=true)(hb:ca xs[i] 0 255=true):ru xs (i+1)=true:=by rw[ZA xs i h,he,hb];rfl
theorem Q1(cK cC cH:Int)(cg:List Int):aL 192 [.agg [.int .i64 cK,.int .i64 cC,.int .i64 cH,.sl 1 (cg.map aR)]] [.one (.bool (kr (⟨cK,cC,cH,cg⟩:dd)))]:=by
 refine a3 36 func192 call192 [.tmp 2] ?_;intro ok;have hm:cg.length≤maxLen:=by have:=ok.1.2.2.2.1.1;rwa [I]at this
 have atd:=EY ok.1.2.1;have ate:=EY ok.1.2.2.1
 cases ag:nS cK with
 |false=>
  try simp only[go_sem]
  repeat'((first|refine ae.intro (by first|apply HZ|apply pt) ?_|refine ay.intro (by apply jt) ?_|with_reducible refine eB ?_|refine bw ?_)<;>simp only[go_sem,ag])
  all_goals simp[kr,yo,ag]
 |true=>
  have hs:=Dg ag
  cases ar:decide ((cg.length:Int)≠cK)with
  |true=>
   have ZC:¬(cg.length:Int)=cK:=cQ ar
   try simp only[go_sem]
   repeat'((first|refine ae.intro (by apply HZ) ?_|with_reducible refine cN ?_|with_reducible refine eB ?_)<;>simp only[go_sem,I,ag,ar])
   all_goals simp[kr,yo,ZC]
  |false=>
   have ZC:(cg.length:Int)=cK:=by have:=c2 ar;omega
   try simp only[go_sem]
   repeat'((first|refine ae.intro (by apply HZ) ?_|with_reducible refine cN ?_)<;>simp only[go_sem,I,ag,ar])
   refine ae.inl (fY (n:=9) (rs:=[.tmp 4]) func241 rfl call241 b2 rfl rfl ?_);simp only[go_sem];refine ae.inl (fY (n:=19) (rs:=[.tmp 4]) func270 rfl call270 b2 rfl rfl ?_);simp only[go_sem,I];refine cr.intro (fun i:Nat=>⟨(.d (.sl 1 (cg.map aR))::.fn 242 []::.al::.al::.i 0::.al::.al::.i cg.length::.i i::aA 10 []),[.box [.i cK,.i cC,.i cH,.d (.sl 1 (cg.map aR))]]⟩)
    (fun i=>cg.length-i) (fun i=>i≤cg.length∧ru cg i=true) 0 [0] ⟨by omega,by simp[ru]⟩ ?_ ?_
   ·simp only[go_sem];simp
   ·rintro i ⟨hi,he⟩;by_cases h1:i<cg.length
    ·have ax:=bC (p:=(i:Int)<(cg.length:Int)) ω;have aB:=cq aR cg i h1;have hw:=dX h1 hm;have hf:=ZB cg i h1;simp only[go_sem,I,aE,aB,aR,ax];refine⟨⟨by omega,by omega⟩,?_⟩;refine ae.inl (fY (n:=6) (rs:=[.tmp 2]) func242 rfl call242 b2 rfl rfl ?_);simp only[go_sem];refine ae.intro (jt cg[i] 0 255) ?_;simp only[go_sem];refine bP (fun h2=>?_) (fun h2=>?_)
     ·have:=hf (by simpa using h2);have ao:=bC (p:=(0:Int)≤i) ω;simp only[go_sem,ao];simp[kr,this]
     ·have ao:ca cg[i] 0 255=true:=by simpa using h2
      simp only[go_sem,hw];refine bE.intro (i+1) [0] ⟨by omega,akh h1 he ao⟩ ω ?_;simp only[go_sem];simp
    ·have ax:=bm (p:=(i:Int)<(cg.length:Int)) ω;obtain rfl:i=cg.length:=by omega
     have ao:decide ((0:Int)≤-1)=false:=by decide
     simp only[go_sem,ax];have hq:yo (⟨cK,cC,cH,cg⟩:dd)=(bQ cC&&ca cH cC (cj (i64.wrap (cC+cK)) 4611686018427387903)):=by
      rw[Bool.eq_iff_iff];simp only[yo,bQ,ca,cj,ag,Bool.true_and,bW,b8];by_cases lO:0≤cC∧cC≤4611686018427387903
      ·rw[bA (n:=cC+cK) ω ω];constructor
       ·rintro⟨⟨⟨⟨_,h2⟩,ao⟩,aN⟩,b6⟩;rw[bA (n:=cH-cC) ω ω]at aN;refine⟨lO,ao,bC ?_⟩;split<;>omega
       ·rintro⟨_,ao,aN⟩;have aN:=cQ aN;have:cH≤cC+cK∧cH≤4611686018427387903:=by split at aN<;>omega
        rw[bA (n:=cH-cC) ω ω];omega
      ·constructor
       ·rintro⟨⟨⟨⟨_,h2⟩,ao⟩,aN⟩,b6⟩;omega
       ·rintro⟨h,_⟩;exact absurd h lO
     try simp only[go_sem,I,ag,ar]
     repeat'((first|refine ae.intro (by first|apply HZ|apply pt) ?_|refine ay.intro (by apply jt) ?_|with_reducible refine eB ?_|refine bw ?_)<;>simp only[go_sem])
     all_goals(simp only[kr,he,Bool.and_true,hq,cj];simp)
def oi(r:dd):Int:=if kr r then cj (r.size-(r.cu-r.base)) (4611686018427387903-r.cu)else 0
theorem aki(cK cC cH:Int)(cg:List Int):aL 300 [.agg [.int .i64 cK,.int .i64 cC,.int .i64 cH,.sl 1 (cg.map aR)]] [.one (.int .i64 (oi (⟨cK,cC,cH,cg⟩:dd)))]:=by
 refine a3 18 func300 call300 [.tmp 2] ?_;intro _
 cases aS:kr (⟨cK,cC,cH,cg⟩:dd)with
 |false=>
  try simp only[go_sem]
  repeat'(refine ae.intro (by apply yp) ?_<;>simp only[go_sem,aS])
  all_goals simp[oi,aS]
 |true=>
  obtain⟨h1,h2,ao,aN,b6,dP,gY,e9,j4⟩:=qz aS;simp only at h1 h2 ao aN b6 dP gY;have cE:i64.wrap (cH-cC)=cH-cC:=by rw[bA]<;>omega
  have fZ:i64.wrap (cK-(cH-cC))=cK-(cH-cC):=by rw[bA]<;>omega
  have ny:i64.wrap (4611686018427387903-cH)=4611686018427387903-cH:=by rw[bA]<;>omega
  try simp only[go_sem]
  repeat'(refine ae.intro (by apply yp) ?_<;>simp only[go_sem,aS,cE,fZ,ny])
  all_goals simp[oi,aS,cj]
def vg(n:Int):dd:=if nS n then⟨n,0,0,List.replicate n.toNat 0⟩else⟨0,0,0,[]⟩
theorem ZD(n:Int):aL 274 [.one (.int .i64 n)] [.agg [.int .i64 (vg n).size,.int .i64 (vg n).base,.int .i64 (vg n).cu,.sl 1 ((vg n).cells.map aR)],.one (.bool (nS n))]:=by
 refine a3 12 func274 call274 [.cell 2 54,.tmp 3] ?_;intro _
 cases aS:nS n with
 |false=>
  try simp only[go_sem]
  repeat'(refine ae.intro (by apply Lz) ?_<;>simp only[go_sem,aS])
  all_goals simp[vg,aS]
 |true=>
  have hn:=Dg aS
  try simp only[go_sem]
  repeat'(first|(refine ae.intro (by apply Lz) ?_<;>simp only[go_sem,aS])|(with_reducible refine az ?_)|fail)
  all_goals simp[vg,aS,aR]
def yq(cs:List Int)(e sz:Int)(d:List UInt8):Nat→List Int
 |0=>cs
 |k+1=>(yq cs e sz d k).set ((e+(k:Int)).tmod sz).toNat ((d[k]?.getD 0).toNat:Int)
theorem Ky(cs:List Int)(e sz:Int)(d:List UInt8):∀k,(yq cs e sz d k).length=cs.length
 |0=>rfl
 |k+1=>by rw[yq,List.length_set,Ky cs e sz d k]
def nQ(r:dd)(d:List UInt8):Nat:=(cj (oi r) d.length).toNat
def vT(r:dd)(d:List UInt8):dd:=⟨r.size,r.base,i64.wrap (r.cu+(nQ r d:Int)),yq r.cells r.cu r.size d (nQ r d)⟩
theorem W_(r:dd):0≤oi r∧(0<oi r→kr r=true∧oi r≤r.size-(r.cu-r.base)∧r.cu+oi r≤4611686018427387903):=by
 unfold oi cj;split
 ·rename_i h;obtain⟨h1,h2,ao,aN,b6,dP,gY,e9,j4⟩:=qz h;split<;>exact⟨by omega,fun _=>⟨h,by omega,by omega⟩⟩
 ·exact⟨by omega,fun g=>by omega⟩
theorem ZE(b:UInt8):i64.wrap ((b.toNat:Nat):Int)=((b.toNat:Nat):Int):=by
 have:=b.toNat_lt;rw[bA]<;>omega
theorem akj(cK cC cH:Int)(cg:List Int)(d:List UInt8)(hc:cg.length≤8388608)(hd:d.length≤1048576):aL 282 [.agg [.int .i64 cK,.int .i64 cC,.int .i64 cH,.sl 1 (cg.map aR)],.one (.str d)] [.agg [.int .i64 (vT (⟨cK,cC,cH,cg⟩:dd) d).size,.int .i64 (vT (⟨cK,cC,cH,cg⟩:dd) d).base,.int .i64 (vT (⟨cK,cC,cH,cg⟩:dd) d).cu,.sl 1 ((vT (⟨cK,cC,cH,cg⟩:dd) d).cells.map aR)],.one (.int .i64 ((nQ (⟨cK,cC,cH,cg⟩:dd) d:Int)))]:=by
 refine a3 42 func282 call282 [.cell 4 54,.tmp 5] ?_;intro ok;have hr:=W_ (⟨cK,cC,cH,cg⟩:dd);have bH:(nQ (⟨cK,cC,cH,cg⟩:dd) d:Int)=cj (oi (⟨cK,cC,cH,cg⟩:dd)) d.length:=by unfold nQ cj;split<;>omega
 have atf:nQ (⟨cK,cC,cH,cg⟩:dd) d≤d.length:=by have:=bH;unfold cj at this;split at this<;>omega
 have atg:(nQ (⟨cK,cC,cH,cg⟩:dd) d:Int)≤oi (⟨cK,cC,cH,cg⟩:dd):=by have:=bH;unfold cj at this;split at this<;>omega
 generalize hn:nQ (⟨cK,cC,cH,cg⟩:dd) d=n at *;have KN:(if((d.length:Nat):Int)<oi (⟨cK,cC,cH,cg⟩:dd)then((d.length:Nat):Int)else oi (⟨cK,cC,cH,cg⟩:dd))=(n:Int):=by rw[bH];rfl
 try simp only[go_sem]
 repeat'(refine ae.intro (by first|(apply IL<;>exact a6)|apply aki) ?_<;>simp only[go_sem,I,KN])
 refine cr.intro (fun k:Nat=>⟨(.al::.d (.str d)::.ptr 0 0 0::.al::.ptr 1 0 0::.i 0::.ptr 3 0 0::.i n::.i k::aA 33 []),[.box [.i cK,.i cC,.i cH,.d (.sl 1 (cg.map aR))],.box [.i 0,.i 0,.i 0,.ee 1],.ah 1 ((yq cg cH cK d k).map aR) true,.box [.i cK,.i cC,.i cH,.sl 2 0 cg.length]]⟩)
  (fun k=>n-k) (fun k=>k≤n) 0 [0,1,2,3] ω ?_ ?_
 ·simp only[go_sem];simp[yq]
 ·intro k hk;by_cases h1:k<n
  ·have ax:=bC (p:=(k:Int)<(n:Int)) ω;obtain⟨aS,CM,qg⟩:=hr.2 ω;obtain⟨cn,cG,d4,ic,la,vX,zH,LA,zI⟩:=qz aS;simp only at cn cG d4 ic la vX zH CM qg;have hw:=dX (i:=k) (m:=d.length) ω (by simp only[maxLen];omega);have cE:i64.wrap (cH+(k:Int))=cH+(k:Int):=by rw[bA]<;>omega
   have ih:=Int.tmod_nonneg cK (show(0:Int)≤cH+(k:Int)by omega);have hQ:=Int.tmod_lt_of_pos (cH+(k:Int)) (show 0<cK by omega);have hl:=Ky cg cH cK d k;obtain⟨j,n1⟩:=kt ih;rw[n1]at hQ;have aK:j<(yq cg cH cK d k).length:=by omega
   have xc:=cq aR _ j aK;have dx:yq cg cH cK d (k+1)=(yq cg cH cK d k).set j ((d[k]?.getD 0).toNat:Int):=by rw[yq,n1,aE]
   try simp only[go_sem,ax]
   repeat'(first|(refine bo Zx χ ψ ?_<;>simp only[go_sem,I,aE,cE,n1,xc,aR,ZE,fh])|(with_reducible refine az ?_)|fail)
   all_goals(first|(refine⟨⟨aK,by simp,by simp⟩,?_⟩)|skip)
   all_goals(refine bE.intro (k+1) [0,1,2,3] ω ω ?_;simp only[go_sem,hw,dx];simp[aR])
  ·have ax:=bm (p:=(k:Int)<(n:Int)) ω;obtain rfl:k=n:=by omega
   try simp only[go_sem,I,ax]
   all_goals simp[outOA,vT,hn,Ky,e7]
def yr(cs:List Int)(b sz:Int):Nat→List Int
 |0=>cs
 |k+1=>(yr cs b sz k).set ((b+(k:Int)).tmod sz).toNat 0
theorem KA(cs:List Int)(b sz:Int):∀k,(yr cs b sz k).length=cs.length
 |0=>rfl
 |k+1=>by rw[yr,List.length_set,KA cs b sz k]
def H0(r:dd)(t:Int):Bool:=kr r&&decide (r.base≤t)&&decide (t≤r.cu)
def ya(r:dd)(t:Int):dd:=if H0 r t then⟨r.size,t,r.cu,yr r.cells r.base r.size (t-r.base).toNat⟩else r
theorem ZF(cK cC cH:Int)(cg:List Int)(t:Int)(hc:cg.length≤8388608):aL 297 [.agg [.int .i64 cK,.int .i64 cC,.int .i64 cH,.sl 1 (cg.map aR)],.one (.int .i64 t)] [.agg [.int .i64 (ya (⟨cK,cC,cH,cg⟩:dd) t).size,.int .i64 (ya (⟨cK,cC,cH,cg⟩:dd) t).base,.int .i64 (ya (⟨cK,cC,cH,cg⟩:dd) t).cu,.sl 1 ((ya (⟨cK,cC,cH,cg⟩:dd) t).cells.map aR)],.one (.bool (H0 (⟨cK,cC,cH,cg⟩:dd) t))]:=by
 refine a3 43 func297 call297 [.cell 4 54,.tmp 5] ?_;intro ok
 cases b5:H0 (⟨cK,cC,cH,cg⟩:dd) t with
 |false=>
  try simp only[go_sem]
  repeat'((first|refine ae.intro (by first|(apply IL<;>exact a6)|apply yp) ?_|refine bw ?_)<;>simp only[go_sem,I])
  refine bP (fun h0=>?_) (fun h0=>?_)
  ·simp only[go_sem,I];simp[ya,b5]
  ·exfalso;simp[H0]at b5 h0;grind
 |true=>
  have aS:kr (⟨cK,cC,cH,cg⟩:dd)=true∧cC≤t∧t≤cH:=by
   simp only[H0,bW,b8,fJ]at b5;exact b5
  obtain⟨aS,hb,he⟩:=aS;obtain⟨cn,cG,d4,ic,la,vX,zH,LA,zI⟩:=qz aS;simp only at cn cG d4 ic la vX zH;have ag:=bm (p:=t<cC) ω;have ar:=bm (p:=cH<t) ω
  try simp only[go_sem]
  repeat'((first|refine ae.intro (by first|(apply IL<;>exact a6)|apply yp) ?_|with_reducible refine cN ?_)<;>simp only[go_sem,I,aS,ag,ar])
  refine cr.intro (fun k:Nat=>⟨(.al::.i t::.ptr 0 0 0::.al::.ptr 1 0 0::.d (.bool false)::.ptr 3 0 0::.i (cC+(k:Int))::aA 35 []),[.box [.i cK,.i cC,.i cH,.d (.sl 1 (cg.map aR))],.box [.i 0,.i 0,.i 0,.ee 1],.ah 1 ((yr cg cC cK k).map aR) true,.box [.i cK,.i cC,.i cH,.sl 2 0 cg.length]]⟩)
   (fun k=>(t-cC).toNat-k) (fun k=>(k:Int)≤t-cC) 0 [0,1,2,3] ω ?_ ?_
  ·simp only[go_sem];simp[yr]
  ·intro k hk;by_cases h1:(k:Int)<t-cC
   ·have ax:=bC (p:=cC+(k:Int)<t) ω;have hw:i64.wrap (cC+(k:Int)+1)=cC+((k+1:Nat):Int):=by rw[bA]<;>omega
    have ih:=Int.tmod_nonneg cK (show(0:Int)≤cC+(k:Int)by omega);have hQ:=Int.tmod_lt_of_pos (cC+(k:Int)) (show 0<cK by omega);have hl:=KA cg cC cK k;obtain⟨j,n1⟩:=kt ih;rw[n1]at hQ;have aK:j<(yr cg cC cK k).length:=by omega
    have xc:=cq aR _ j aK;have dx:yr cg cC cK (k+1)=(yr cg cC cK k).set j 0:=by rw[yr,n1,aE]
    try simp only[go_sem,ax]
    repeat'(first|(refine bo Zy χ ψ ?_<;>simp only[go_sem,I,aE,n1,xc,aR,fh])|(with_reducible refine az ?_)|fail)
    all_goals(first|(refine⟨⟨aK,by simp,by simp⟩,?_⟩)|skip)
    all_goals(refine bE.intro (k+1) [0,1,2,3] ω ω ?_;simp only[go_sem,hw,dx];simp[aR])
   ·have ax:=bm (p:=cC+(k:Int)<t) ω;have qZ:(t-cC).toNat=k:=by omega
    try simp only[go_sem,I,ax]
    all_goals simp[outOA,ya,b5,qZ,KA,e7]
def w8(r:dd)(o n:Int):Bool:=kr r&&decide (r.base≤o)&&decide (0≤n)&&decide (o≤r.cu)&&decide (n≤i64.wrap (r.cu-o))
def rv(r:dd)(o:Int)(k:Nat):List UInt8:=(List.range k).map fun j=>o3 (r.cells[((o+(j:Nat)).tmod r.size).toNat]?.getD 0)
def qB(r:dd)(o n:Int):List UInt8:=if w8 r o n then rv r o n.toNat else []
theorem akk(r:dd)(o:Int)(k:Nat):rv r o (k+1)=rv r o k++[o3 (r.cells[((o+(k:Nat)).tmod r.size).toNat]?.getD 0)]:=by
 simp[rv,List.range_succ]
theorem Xn(r:dd)(o:Int)(k:Nat):(rv r o k).length=k:=by simp[rv]
theorem PO(cK cC cH:Int)(cg:List Int)(o n:Int):aL 142 [.agg [.int .i64 cK,.int .i64 cC,.int .i64 cH,.sl 1 (cg.map aR)],.one (.int .i64 o),.one (.int .i64 n)] [.one (.str (qB (⟨cK,cC,cH,cg⟩:dd) o n)),.one (.bool (w8 (⟨cK,cC,cH,cg⟩:dd) o n))]:=by
 refine a3 56 func142 call142 [.tmp 6,.tmp 7] ?_;intro ok
 cases b5:w8 (⟨cK,cC,cH,cg⟩:dd) o n with
 |false=>
  try simp only[go_sem]
  repeat'((first|refine ae.intro (by apply yp) ?_|refine bw ?_)<;>simp only[go_sem])
  refine bP (fun h0=>?_) (fun h0=>?_)
  ·simp only[go_sem];simp[qB,b5]
  ·exfalso;simp[w8]at b5 h0;grind
 |true=>
  have aS:kr (⟨cK,cC,cH,cg⟩:dd)=true∧cC≤o∧0≤n∧o≤cH∧n≤i64.wrap (cH-o):=by
   simp only[w8,bW,b8,fJ]at b5;exact b5
  obtain⟨aS,hb,zV,he,hn⟩:=aS;obtain⟨cn,cG,d4,ic,la,vX,zH,LA,zI⟩:=qz aS;simp only at cn cG d4 ic la vX zH zI;have ag:=bm (p:=o<cC) ω;have ar:=bm (p:=cH<o) ω;have ba:=bm (p:=n<0) ω;have bF:=bm (p:=i64.wrap (cH-o)<n) ω;rw[bA (n:=cH-o) ω ω]at hn;obtain⟨m,rfl⟩:=kt zV
  try simp only[go_sem]
  repeat'((first|refine ae.intro (by apply yp) ?_|with_reducible refine cN ?_)<;>simp only[go_sem,aS,ag,ar,ba,bF])
  refine cr.intro (fun k:Nat=>⟨(.al::.i o::.i m::.ptr 0 0 0::.al::.al::.d (.str [])::.d (.bool false)::.d (.str (rv (⟨cK,cC,cH,cg⟩:dd) o k))::.i k::aA 46 []),[.box [.i cK,.i cC,.i cH,.d (.sl 1 (cg.map aR))]]⟩)
   (fun k=>m-k) (fun k=>k≤m) 0 [0] ω ?_ ?_
  ·simp only[go_sem];simp[rv]
  ·intro k hk;by_cases h1:k<m
   ·have ax:=bC (p:=(k:Int)<(m:Int)) ω;have hw:=dX (i:=k) (m:=100) ω (by simp[maxLen]);have cE:i64.wrap (o+(k:Int))=o+(k:Int):=by rw[bA]<;>omega
    have ih:=Int.tmod_nonneg cK (show(0:Int)≤o+(k:Int)by omega);have hQ:=Int.tmod_lt_of_pos (o+(k:Int)) (show 0<cK by omega);obtain⟨j,n1⟩:=kt ih;rw[n1]at hQ;have aK:j<cg.length:=by omega
    have xc:=cq aR _ j aK;have fD:=Xn (⟨cK,cC,cH,cg⟩:dd) o k;have dx:rv (⟨cK,cC,cH,cg⟩:dd) o (k+1)=rv (⟨cK,cC,cH,cg⟩:dd) o k++[o3 cg[j]]:=by rw[akk];simp only[n1,aE,cD aK,fh]
    have eH:=Hk cg[j] (zI j aK)
    try simp only[go_sem,ax]
    repeat'(first|((first|refine ae.intro ‹_› ?_|refine ay.intro ‹_› ?_|refine bo Zz χ ψ ?_)<;>simp only[go_sem,I,aE,cE,n1,xc,aR,fh])|(with_reducible refine az ?_)|fail)
    all_goals(refine bE.intro (k+1) [0] ω ω ?_;simp only[go_sem,hw,dx];simp)
   ·have ax:=bm (p:=(k:Int)<(m:Int)) ω;obtain rfl:k=m:=by omega
    try simp only[go_sem,ax]
    all_goals simp[qB,b5]
def akg:Code→Code
 |.seq _ b=>b
 |c=>c
def Bg:Nat→Code→Code
 |0,c=>c
 |k+1,c=>Bg k (akg c)
def CT(f:Func):Code:=f.body.getD .skip
theorem yn{P:Program}{kv:List V}{a b:Code}{σ:St}{K:St→Prop}{aX:List (Nat×(St→Prop))}{dh:St→Prop}(h:∀iC:St→Prop,(∀σ',codeE P kv b σ' K aX dh→iC σ')→codeE P kv a σ iC aX dh):codeE P kv (.seq a b) σ K aX dh:=by
 rw[aff];exact h _ fun _ g=>g
def n0:List J→J→List J
 |[],r=>[r]
 |x::xs,r=>if x.high<r.low then x::n0 xs r else if r.high<x.low then r::x::xs else n0 xs ⟨cj r.low x.low,dp r.high x.high⟩
def Q8(s:List J×Bool×J):List J:=if s.2.1=true then s.1 else s.1++[s.2.2]
theorem ZP(xs:List J)(r:J):∀i,i≤xs.length→hj xs r i=(xs.take i).foldl l_ ([],false,r)
 |0,_=>rfl
 |i+1,h=>by rw[QU xs r i ω,ZP xs r i ω,yt l_ _ xs i ω]
theorem ZQ{r:J}(hr:dj r=true):∀(xs ed:List J),(∀x∈xs,dj x=true∧r.high<x.low)→xs.foldl l_ (ed,true,r)=(ed++xs,true,r)
 |[],ed,_=>by simp
 |x::xs,ed,h=>by
  have h1:=h x ξ;have h2:=(gI _).1 h1.1;have ao:=(gI _).1 hr;have e:l_ (ed,true,r) x=(ed++[x],true,r):=by
   unfold l_;rw[if_neg (show ¬x.high<r.low by omega),if_pos h1.2];simp
  rw[List.foldl_cons,e,ZQ hr xs _ (fun y hy=>h y (by simp[hy])),List.append_assoc];rfl
theorem Q9:∀(xs ed:List J) (r:J),(∀x∈xs,dj x=true)→xs.Pairwise (fun a b=>a.high<b.low)→dj r=true→Q8 (xs.foldl l_ (ed,false,r))=ed++n0 xs r
 |[],ed,r,_,_,_=>by simp[Q8,n0]
 |x::xs,ed,r,h1,h2,hr=>by
  have hx:=(gI _).1 (h1 x ξ);have kj:=(gI _).1 hr;have g7:=List.pairwise_cons.1 h2;rw[List.foldl_cons,n0];by_cases ep:x.high<r.low
  ·have e:l_ (ed,false,r) x=(ed++[x],false,r):=by unfold l_;rw[if_pos ep]
   rw[e,if_pos ep,Q9 xs _ r (fun y hy=>h1 y (by simp[hy])) g7.2 hr,List.append_assoc];rfl
  ·by_cases eE:r.high<x.low
   ·have e:l_ (ed,false,r) x=(ed++[r]++[x],true,r):=by unfold l_;rw[if_neg ep,if_pos eE];simp
    rw[e,if_neg ep,if_pos eE,ZQ hr xs _ (fun y hy=>⟨h1 y (by simp[hy]),by have:=g7.1 y hy;omega⟩)];simp[Q8]
   ·have e:l_ (ed,false,r) x=(ed,false,⟨cj r.low x.low,dp r.high x.high⟩):=by unfold l_;rw[if_neg ep,if_neg eE]
    have hm:dj ⟨cj r.low x.low,dp r.high x.high⟩=true:=by
     rw[gI];simp only[cj,dp];refine⟨?_,?_,?_⟩<;>(repeat' split)<;>omega
    rw[e,if_neg ep,if_neg eE];exact Q9 xs ed _ (fun y hy=>h1 y (by simp[hy])) g7.2 hm
theorem Qx{xs:List J}{r:J}(h:cY xs=true)(hr:dj r=true):gT xs r=n0 xs r:=by
 have h1:=(h_ xs).1 h;have h2:=Q9 xs [] r h1.1 h1.2 hr;have ao:=ZP xs r xs.length (fE _);rw[d3]at ao;unfold gT;rw[h,hr,ao];simp only;exact h2
theorem Q_{B:Int}:∀(xs:List J) (r:J),B<r.low→(∀x∈xs,B<x.low)→∀y∈n0 xs r,B<y.low
 |[],r,hr,_,y,hy=>by simp only[n0,List.mem_singleton]at hy;rw[hy];exact hr
 |x::xs,r,hr,hx,y,hy=>by
  rw[n0]at hy;split at hy
  ·rcases List.mem_cons.1 hy with rfl|hy
   ·exact hx _ ξ
   ·exact Q_ xs r hr (fun z hz=>hx z (by simp[hz])) y hy
  ·split at hy
   ·rcases List.mem_cons.1 hy with rfl|hy
    ·exact hr
    ·exact hx y hy
   ·refine Q_ xs _ ?_ (fun z hz=>hx z (by simp[hz])) y hy;have:=hx x ξ;simp only[cj];split<;>omega
theorem Q':∀(xs:List J) (r:J),(∀x∈xs,dj x=true)→xs.Pairwise (fun a b=>a.high<b.low)→dj r=true→(∀x∈n0 xs r,dj x=true)∧(n0 xs r).Pairwise (fun a b=>a.high<b.low)
 |[],r,_,_,hr=>by simp[n0,hr]
 |x::xs,r,h1,h2,hr=>by
  have hx:=(gI _).1 (h1 x ξ);have kj:=(gI _).1 hr;have g7:=List.pairwise_cons.1 h2;have ma:∀y∈xs,dj y=true:=fun y hy=>h1 y (by simp[hy]);rw[n0];split
  ·rename_i ep;obtain⟨cn,cG⟩:=Q' xs r ma g7.2 hr;refine⟨fun y hy=>?_,List.pairwise_cons.2 ⟨fun y hy=>Q_ xs r ep g7.1 y hy,cG⟩⟩;rcases List.mem_cons.1 hy with rfl|hy
   ·exact h1 _ ξ
   ·exact cn y hy
  ·split
   ·rename_i ep eE;refine⟨fun y hy=>?_,List.pairwise_cons.2 ⟨fun y hy=>?_,h2⟩⟩
    ·rcases List.mem_cons.1 hy with rfl|hy
     ·exact hr
     ·exact h1 y hy
    ·rcases List.mem_cons.1 hy with rfl|hy
     ·exact eE
     ·have:=g7.1 y hy;omega
   ·refine Q' xs _ ma g7.2 ?_;rw[gI];simp only[cj,dp];refine⟨?_,?_,?_⟩<;>(repeat' split)<;>omega
theorem ZR:∀(xs:List J) (r:J),n0 xs r≠[]
 |[],r=>by simp[n0]
 |x::xs,r=>by
  rw[n0];split
  ·simp
  ·split
   ·simp
   ·exact ZR xs _
theorem Kw{xs:List J}{r:J}(h:cY xs=true)(hr:dj r=true):cY (gT xs r)=true:=by
 rw[Qx h hr,h_];have h1:=(h_ xs).1 h;exact Q' xs r h1.1 h1.2 hr
theorem akr{xs:List J}{r:J}(h:cY xs=true)(hr:dj r=true):gT xs r≠[]:=by rw[Qx h hr];exact ZR _ _
def fg(xs ys:List J):List J:=ys.foldl gT xs
theorem qQ:∀(ys xs:List J),(fg xs ys).length≤xs.length+ys.length
 |[],xs=>by simp[fg]
 |y::ys,xs=>by
  have h1:=qQ ys (gT xs y);have h2:=Mp xs y;have e:fg xs (y::ys)=fg (gT xs y) ys:=rfl;rw[e,dA];omega
theorem Bh(xs ys:List J)(i:Nat)(h:i<ys.length):fg xs (ys.take (i+1))=gT (fg xs (ys.take i)) ys[i]:=yt gT xs ys i h
theorem H5:∀(ys xs:List J),cY xs=true→(∀y∈ys,dj y=true)→cY (fg xs ys)=true∧(ys≠[]∨xs≠[]→fg xs ys≠[])
 |[],xs,h,_=>⟨h,fun g=>by rcases g with g|g;exact absurd rfl g;exact g⟩
 |y::ys,xs,h,hy=>by
  have h1:=Kw h (hy y ξ);have h2:=akr h (hy y ξ);have ao:=H5 ys (gT xs y) h1 (fun z hz=>hy z (by simp[hz]));exact⟨ao.1,fun _=>ao.2 (.inr h2)⟩
theorem ZS{p f a aX:List J}(hp:cY p=true)(hf:cY f=true)(ha:cY a=true)(h:f≠[]∨a≠[])(dF:aX=fg (fg p f) a):aX≠[]:=by
 have h1:=H5 f p hp ((h_ f).1 hf).1;have h2:=H5 a _ h1.1 ((h_ a).1 ha).1;rw[dF];rcases h with h|h
 ·exact h2.2 (.inr (h1.2 (.inl h)))
 ·exact h2.2 (.inl h)
def p2(xs:List J):Int:=(xs[0]?.getD (⟨0,0⟩:J)).high
theorem YT{xs:List J}{E:Int}(h:cY xs=true)(ai:∀x∈xs,x.high≤E)(hc:jq xs=E)(hp:0<E):p2 xs=E:=by
 unfold jq at hc;rw[if_pos h]at hc
 cases hl:xs.length with
 |zero=>rw[List.length_eq_zero_iff.1 hl]at hc;simp[hY]at hc;omega
 |succ n=>
  have hi:n<xs.length:=by omega
  have h1:=H2 h n hi;have h2:=yt (fun(n:Int) (r:J)=>n+(r.high-r.low)) 0 xs n hi;have e:hY xs=hY (xs.take n)+(xs[n].high-xs[n].low):=by
   rw[←hl,d3]at h2;exact h2
  have aN:=ai _ (eS hi)
  cases n with
  |zero=>
   simp only[List.take_zero,hY,List.foldl_nil]at e h1;have b6:=(gI _).1 (((h_ xs).1 h).1 _ (eS hi));unfold p2;rw[cD hi,fh];simp only[hY]at hc e;omega
  |succ m=>
   exfalso;have hm:m<xs.length:=by omega
   have b6:=H2 h m hm;have dP:hY (xs.take (m+1))=hY (xs.take m)+(xs[m].high-xs[m].low):=yt _ _ _ _ _;have gY:=(List.pairwise_iff_getElem.1 ((h_ xs).1 h).2) m (m+1) hm hi ω;omega
def Bl:List (List bR):=cS 12 [522584,522582,522576,522679,522625,522450,502281,530347,525973,512487,472392,354294]
def Bm:List (List bR):=cS 43 [328256967394537077509,328256967394537077507,328256967394537077622,328256967394537077604,328256967394537077550,328256967394537077384,328256967394537076898,328256967394536990147,328256967394537073253,328256967394537060131,328256967394537020765,328256967394536900480,328256967394536546186,328256967394535483304,328256967394532294658,328256967394522728720,328256967394494030906,328256967394407937464,328256967394149657138,328256966169513491409,328256966167188968475,328256966160215399673,328256966139294693267,328256967346884357480,328256967158597999826,328256966593738926864,328256964852671249298,328256959768939592640,328256944517744622666,328256898764159712744,328184493716039761179,328184081933775571881,328182846586983003987,328254084918687752541,328242966797554641495,328209612434155308357,328106872759240078506,327806683488646080264,326906115676864085538,324204412241518101360,316099301935480148826,291783971017366291224,218837978263024718418]
def zN:List (List bR):=cS 9 [16757,16755,16762,16740,16686,16524,19318,17860,13122]
def aaf:List (List bR):=cS 6 [692,690,724,706,648,486]
attribute [go_sem] Bl Bm zN aaf
def lg(s:au):Int:=
 if s.aW=3∧s.av.base=s.av.cu then 3
 else if 1<s.aW∨(s.aW=1∧s.b0=2)then 2
 else if 0<s.cw∨(s.aW=1∧s.b0=1)then 1 else 0
theorem CW(a' bf bg a_:Int)(a7:List Int)(aF aD aI:List J)(bc a9 a8 bh:Int):aL 158 [.agg [.int .i64 a',.int .i64 bf,.int .i64 bg,.int .i64 a_,.sl 1 (a7.map aR),.sl 2 (aF.map J.enc),.sl 2 (aD.map J.enc),.sl 2 (aI.map J.enc),.int .i64 bc,.int .i64 a9,.int .i64 a8,.int .i64 bh]] [.one (.int .i64 (lg (⟨a',⟨bf,bg,a_,a7⟩,aF,aD,aI,bc,a9,a8,bh⟩:au)))]:=by
 refine a3 44 func158 call158 [.tmp 2] ?_;intro _
 try simp only[go_sem]
 repeat'((first|refine bw ?_|refine bP (fun h=>?_) (fun h=>?_))<;>simp only[go_sem])
 all_goals(simp at *;simp only[lg];repeat' split)
 all_goals first|rfl|(exfalso;grind)
def j'(s:au):Bool:=kr s.av&&cY s.aP&&cY s.aM&&cY s.a0&&ca s.cw 0 s.av.cu&&bQ s.c4&&ca s.aW 0 3
def km(s:au):Bool:=decide (s.b0=4)||decide (s.b0=5)
def LJ(s:au):Bool:=decide (s.av.base=s.av.cu)&&decide ((s.aP.length:Int)=0)&&decide ((s.aM.length:Int)=0)&&decide ((s.a0.length:Int)=0)&&decide (s.br=s.cw)&&decide (s.aW=0)&&decide (s.cw=s.av.cu)
def l'(s:au):List J:=fg (fg s.aP s.aM) s.a0
def yi(s:au):Int:=i64.wrap (i64.wrap (jq s.aP+jq s.aM)+jq s.a0)
def oj(s:au):Bool:=decide (jq (l' s)=s.av.cu)&&decide (yi s=s.av.cu)&&!(decide (0<s.av.cu)&&decide (p2 (l' s)≠s.av.cu))&&decide (rk s.a0 0=s.av.base)&&decide (s.c4=0)
def below(xs:List J)(n:Int):Bool:=xs.all fun r=>decide (r.high≤n)
def zy(s:au):Bool:=(decide (s.aW=0) == decide (s.br=-1))&&!(decide (s.br≠-1)&&decide (s.br≠s.av.cu))
def e1(s:au):Bool:=j' s&&(if km s then LJ s else oj s&&below s.aM s.cw&&below s.a0 s.cw&&zy s&&decide (s.b0=lg s))
theorem aag(xs:List J)(n:Int)(i:Nat)(h:i<xs.length):below (xs.take (i+1)) n=(below (xs.take i) n&&decide (xs[i].high≤n)):=by
 unfold below;rw[gV,cD h,Option.toList_some,List.all_append];simp
theorem aah(xs:List J)(n:Int)(i:Nat)(h:i<xs.length)(hb:n<xs[i].high):below xs n=false:=by
 unfold below;rw[List.all_eq_false];exact⟨xs[i],eS h,by simp;omega⟩
theorem Rv(a' bf bg a_:Int)(a7:List Int)(aF aD aI:List J)(bc a9 a8 bh:Int)(nk:aD.length≤maxLen)(mm:aI.length≤maxLen)(er:j' (⟨a',⟨bf,bg,a_,a7⟩,aF,aD,aI,bc,a9,a8,bh⟩:au)=true)(fz:km (⟨a',⟨bf,bg,a_,a7⟩,aF,aD,aI,bc,a9,a8,bh⟩:au)=false)(vN:oj (⟨a',⟨bf,bg,a_,a7⟩,aF,aD,aI,bc,a9,a8,bh⟩:au)=true){iM pN jM iN iO iP u8 iQ iR iS iT iU jR jS u16 kM kN kO kP kQ kR kS kT kU kV kW kX kY kZ k0 u32 nT nU nV pj ry rz rA rB rC rE rF rG rH rI rJ rK rL rM rN rO rP rQ rR rS rT rU rW rX rY rZ r1 u64 r2 r3 r4 r5 r6 r7 r8 r9 r_ r' sa sb sc sd se sf sg sh si sj sk sm sn so sq sr ss su sv sw sx sy sA sB sC sD sE sF sG sH sI sJ sK sL sM sN sO sP sQ sR sS sT sU sV sW sX sY sZ s0 s3 s4 s5 s6 s7 s8 s9 s_ s' ta tb tc td te tf tg th ti tj tk tl tm tn tp tq tr tt tu tv tw tx tz tA tB tC tD tE tF tG tH tI tJ tK tL tM tN tO tP tQ tR tS tT tU tV tW tX tY tZ t0 t1 t2 t3 t4 t5 t6 t7 t8 t9 t_ t' ua ub uc ud ue uf ug uh ui uj uk um uo uq ur uu uv uw ux uy uz uA uB uC uD uE uF uG uH uI uJ uK uL uM uN uO uP uQ uR uS uT uU uV uW uX uY uZ u0 u1 u2 u3 u4:V}(ex:List H) :
  codeE prog [] (Bg 8 (CT Tryz.f141)) ⟨[iM,.ptr 0 0 0,.d (.bool false),pN,jM,iN,iO,iP,u8,iQ,iR,iS,iT,iU,jR,jS,u16,kM,kN,kO,kP,kQ,kR,kS,kT,kU,kV,kW,kX,kY,kZ,k0,u32,nT,nU,nV,pj,ry,rz,rA,rB,rC,rE,rF,rG,rH,rI,rJ,rK,rL,rM,rN,rO,rP,rQ,rR,rS,rT,rU,rW,rX,rY,rZ,r1,u64,r2,r3,r4,r5,r6,r7,r8,r9,r_,r',sa,sb,sc,sd,se,sf,sg,sh,si,sj,sk,sm,sn,so,sq,sr,ss,su,sv,sw,sx,sy,sA,sB,sC,sD,sE,sF,sG,sH,sI,sJ,sK,sL,sM,sN,sO,sP,sQ,sR,sS,sT,sU,sV,sW,sX,sY,sZ,s0,s3,s4,s5,s6,s7,s8,s9,s_,s',ta,tb,tc,td,te,tf,tg,th,ti,tj,tk,tl,tm,tn,tp,tq,tr,tt,tu,tv,tw,tx,tz,tA,tB,tC,tD,tE,tF,tG,tH,tI,tJ,tK,tL,tM,tN,tO,tP,tQ,tR,tS,tT,tU,tV,tW,tX,tY,tZ,t0,t1,t2,t3,t4,t5,t6,t7,t8,t9,t_,t',ua,ub,uc,ud,ue,uf,ug,uh,ui,uj,uk,um,uo,uq,ur,uu,uv,uw,ux,uy,uz,uA,uB,uC,uD,uE,uF,uG,uH,uI,uJ,uK,uL,uM,uN,uO,uP,uQ,uR,uS,uT,uU,uV,uW,uX,uY,uZ,u0,u1,u2,u3,u4],.box [.i a',.i bf,.i bg,.i a_,.d (.sl 1 (a7.map aR)),.d (.sl 2 (aF.map J.enc)),.d (.sl 2 (aD.map J.enc)),.d (.sl 2 (aI.map J.enc)),.i bc,.i a9,.i a8,.i bh]::ex⟩ (b3 (g8 prog [.tmp 2] [.one (.bool (e1 (⟨a',⟨bf,bg,a_,a7⟩,aF,aD,aI,bc,a9,a8,bh⟩:au)))]) .mk) [] (b3 (g8 prog [.tmp 2] [.one (.bool (e1 (⟨a',⟨bf,bg,a_,a7⟩,aF,aD,aI,bc,a9,a8,bh⟩:au)))]) .mk):=by
 conv=>arg 3;whnf
 simp only[go_sem];refine cr.intro (fun i:Nat=>⟨(.al::.ptr 0 0 0::.d (.bool false)::aA 4 (.i i::aA 238 [])),[.box [.i a',.i bf,.i bg,.i a_,.d (.sl 1 (a7.map aR)),.d (.sl 2 (aF.map J.enc)),.d (.sl 2 (aD.map J.enc)),.d (.sl 2 (aI.map J.enc)),.i bc,.i a9,.i a8,.i bh]]⟩)
  (fun i=>aD.length-i) (fun i=>i≤aD.length∧below (aD.take i) a8=true) 0 [0] ⟨by omega,rfl⟩ ?_ ?_
 ·simp only[go_sem];simp
 ·rintro i ⟨hi,he⟩;by_cases h1:i<aD.length
  ·have ax:=bC (p:=(i:Int)<(aD.length:Int)) ω;have aB:=cq J.enc aD i h1;have hw:=dX h1 nk;have hs:=aag aD a8 i h1
   cases c6:decide (a8<aD[i].high)with
   |true=>
    try simp only[go_sem,I,ax]
    repeat'(first|((first|refine ay.intro (by first|apply CU|apply zK) ?_|with_reducible refine lR ?_|refine f' ?_|refine bo Bl χ ψ ?_|refine bo Bm χ ψ ?_|refine bo zN χ ψ ?_)<;>simp only[go_sem,I,aE,aB,J.enc,c6])|(with_reducible refine az ?_)|fail)
    have:=aah aD a8 i h1 (cQ c6);simp[e1,fz,this]
   |false=>
    have b6:=bC (p:=aD[i].high≤a8) (by have:=c2 c6;omega)
    try simp only[go_sem,I,ax]
    repeat'(first|((first|refine ay.intro (by first|apply CU|apply zK) ?_|with_reducible refine nt ?_|with_reducible refine lR ?_|refine f' ?_|refine bo Bl χ ψ ?_|refine bo Bm χ ψ ?_|refine bo zN χ ψ ?_)<;>simp only[go_sem,I,aE,aB,J.enc,c6])|(with_reducible refine az ?_)|fail)
    refine bE.intro (i+1) [0] ⟨by omega,by rw[hs,he,b6];rfl⟩ ω ?_;simp only[go_sem,hw];simp
  ·have ax:=bm (p:=(i:Int)<(aD.length:Int)) ω;obtain rfl:i=aD.length:=by omega
   rw[d3]at he;have Q0:=he;simp only[go_sem,I,ax];refine cr.intro (fun i:Nat=>⟨(.al::.ptr 0 0 0::.d (.bool false)::aA 5 (.i i::aA 237 [])),[.box [.i a',.i bf,.i bg,.i a_,.d (.sl 1 (a7.map aR)),.d (.sl 2 (aF.map J.enc)),.d (.sl 2 (aD.map J.enc)),.d (.sl 2 (aI.map J.enc)),.i bc,.i a9,.i a8,.i bh]]⟩)
    (fun i=>aI.length-i) (fun i=>i≤aI.length∧below (aI.take i) a8=true) 0 [0] ⟨by omega,rfl⟩ ?_ ?_
   ·simp only[go_sem];simp
   ·rintro i ⟨hi,he⟩;by_cases h1:i<aI.length
    ·have ax:=bC (p:=(i:Int)<(aI.length:Int)) ω;have aB:=cq J.enc aI i h1;have hw:=dX h1 mm;have hs:=aag aI a8 i h1
     cases c6:decide (a8<aI[i].high)with
     |true=>
      try simp only[go_sem,I,ax]
      repeat'(first|((first|refine ay.intro (by first|apply CU|apply zK) ?_|refine f' ?_|refine bo Bl χ ψ ?_|refine bo Bm χ ψ ?_|refine bo zN χ ψ ?_)<;>simp only[go_sem,I,aE,aB,J.enc,c6])|(with_reducible refine az ?_)|fail)
      have:=aah aI a8 i h1 (cQ c6);simp[e1,fz,this]
     |false=>
      have b6:=bC (p:=aI[i].high≤a8) (by have:=c2 c6;omega)
      try simp only[go_sem,I,ax]
      repeat'(first|(refine bo zN χ ψ ?_<;>simp only[go_sem,I,aE,aB,J.enc,c6])|(with_reducible refine az ?_)|fail)
      refine bE.intro (i+1) [0] ⟨by omega,by rw[hs,he,b6];rfl⟩ ω ?_;simp only[go_sem,hw];simp
    ·have ax:=bm (p:=(i:Int)<(aI.length:Int)) ω;obtain rfl:i=aI.length:=by omega
     rw[d3]at he;have akW:=he
     try simp only[go_sem,I,ax]
     repeat'(refine bw ?_<;>simp only[go_sem])
     refine bP (fun dP=>?_) (fun dP=>?_)
     ·simp only[go_sem];have:zy (⟨a',⟨bf,bg,a_,a7⟩,aF,aD,aI,bc,a9,a8,bh⟩:au)=false:=by simp[zy]at dP⊢;grind
      simp[e1,fz,this]
     ·have bB:zy (⟨a',⟨bf,bg,a_,a7⟩,aF,aD,aI,bc,a9,a8,bh⟩:au)=true:=by simp[zy]at dP⊢;grind
      simp only[go_sem]
      try simp only[go_sem,I]
      repeat'((first|refine ay.intro (by apply CW) ?_|refine bo aaf χ ψ ?_)<;>simp only[go_sem])
      all_goals simp[e1,er,fz,vN,Q0,akW,bB]
theorem akG(a' bf bg a_:Int)(a7:List Int)(aF aD aI:List J)(bc a9 a8 bh:Int)(_:aF.length+aD.length+aI.length≤524288)(nk:aD.length≤maxLen)(mm:aI.length≤maxLen)(er:j' (⟨a',⟨bf,bg,a_,a7⟩,aF,aD,aI,bc,a9,a8,bh⟩:au)=true)(fz:km (⟨a',⟨bf,bg,a_,a7⟩,aF,aD,aI,bc,a9,a8,bh⟩:au)=false)(hA:l' (⟨a',⟨bf,bg,a_,a7⟩,aF,aD,aI,bc,a9,a8,bh⟩:au)=aF){iM jM iN iO iP u8 iQ iR iS iT iU jR jS u16 kM kN kO kP kQ kR kS kT kU kV kW kX kY kZ k0 u32 nT nU nV pj ry rz rA rB rC rE rF rG rH rI rJ rK rL rM rN rO rP rQ rR rS rT rU rW rX rY rZ r1 u64 r2 r3 r4 r5 r6 r7 r8 r9 r_ r' sa sb sc sd se sf sg sh si sj sk sm sn so sq sr ss su sv sw sx sy sA sB sC sD sE sF sG sH sI sJ sK sL sM sN sO sP sQ sR sS sT sU sV sW sX sY sZ s0 s3 s4 s5 s6 s7 s8 s9 s_ s' ta tb tc td te tf tg th ti tj tk tl tm tn tp tq tr tt tu tv tw tx tz tA tB tC tD tE tF tG tH tI tJ tK tL tM tN tO tP tQ tR tS tT tU tV tW tX tY tZ t0 t1 t2 t3 t4 t5 t6 t7 t8 t9 t_ t' ua ub uc ud ue uf ug uh ui uj uk um uo uq ur uu uv uw ux uy uz uA uB uC uD uE uF uG uH uI uJ uK uL uM uN uO uP uQ uR uS uT uU uV uW uX uY uZ u0 u1 u2 u3 u4:V} :
  codeE prog [] (Bg 6 (CT Tryz.f141)) ⟨[iM,.ptr 0 0 0,.d (.bool false),.d (.sl 2 (aF.map J.enc)),jM,iN,iO,iP,u8,iQ,iR,iS,iT,iU,jR,jS,u16,kM,kN,kO,kP,kQ,kR,kS,kT,kU,kV,kW,kX,kY,kZ,k0,u32,nT,nU,nV,pj,ry,rz,rA,rB,rC,rE,rF,rG,rH,rI,rJ,rK,rL,rM,rN,rO,rP,rQ,rR,rS,rT,rU,rW,rX,rY,rZ,r1,u64,r2,r3,r4,r5,r6,r7,r8,r9,r_,r',sa,sb,sc,sd,se,sf,sg,sh,si,sj,sk,sm,sn,so,sq,sr,ss,su,sv,sw,sx,sy,sA,sB,sC,sD,sE,sF,sG,sH,sI,sJ,sK,sL,sM,sN,sO,sP,sQ,sR,sS,sT,sU,sV,sW,sX,sY,sZ,s0,s3,s4,s5,s6,s7,s8,s9,s_,s',ta,tb,tc,td,te,tf,tg,th,ti,tj,tk,tl,tm,tn,tp,tq,tr,tt,tu,tv,tw,tx,tz,tA,tB,tC,tD,tE,tF,tG,tH,tI,tJ,tK,tL,tM,tN,tO,tP,tQ,tR,tS,tT,tU,tV,tW,tX,tY,tZ,t0,t1,t2,t3,t4,t5,t6,t7,t8,t9,t_,t',ua,ub,uc,ud,ue,uf,ug,uh,ui,uj,uk,um,uo,uq,ur,uu,uv,uw,ux,uy,uz,uA,uB,uC,uD,uE,uF,uG,uH,uI,uJ,uK,uL,uM,uN,uO,uP,uQ,uR,uS,uT,uU,uV,uW,uX,uY,uZ,u0,u1,u2,u3,u4],[.box [.i a',.i bf,.i bg,.i a_,.d (.sl 1 (a7.map aR)),.d (.sl 2 (aF.map J.enc)),.d (.sl 2 (aD.map J.enc)),.d (.sl 2 (aI.map J.enc)),.i bc,.i a9,.i a8,.i bh]]⟩ (b3 (g8 prog [.tmp 2] [.one (.bool (e1 (⟨a',⟨bf,bg,a_,a7⟩,aF,aD,aI,bc,a9,a8,bh⟩:au)))]) .mk) [] (b3 (g8 prog [.tmp 2] [.one (.bool (e1 (⟨a',⟨bf,bg,a_,a7⟩,aF,aD,aI,bc,a9,a8,bh⟩:au)))]) .mk):=by
 conv=>arg 3;whnf
 simp only[go_sem];by_cases dF:aF=[]
 ·have KK:aF.length=0:=by rw[dF];rfl
  have Eb:jq aF=0:=by rw[dF];rfl
  cases ag:decide (jq aF≠a_)with
  |true=>
   have g':=cQ ag
   try simp only[go_sem,I,ag]
   repeat'(first|((first|refine ay.intro (by first|apply CU|apply zK) ?_|with_reducible refine lR ?_|refine f' ?_|refine bo Bl χ ψ ?_|refine bo Bm χ ψ ?_|refine bo zN χ ψ ?_)<;>simp only[go_sem,ag])|(with_reducible refine az ?_)|fail)
   all_goals simp[e1,fz,oj,hA,g']
  |false=>
   have g':jq aF=a_:=by have:=c2 ag;omega
   have ba:=bm (p:=0<a_) ω
   try simp only[go_sem,I,ag,ba]
   repeat'(first|((first|refine ay.intro (by first|apply CU|apply zK) ?_|with_reducible refine nt ?_|with_reducible refine lR ?_|refine f' ?_|refine bo Bl χ ψ ?_|refine bo Bm χ ψ ?_|refine bo zN χ ψ ?_)<;>simp only[go_sem,ag,ba])|(with_reducible refine az ?_)|fail)
   refine bP (fun aN=>?_) (fun aN=>?_)
   ·simp only[go_sem];have:oj (⟨a',⟨bf,bg,a_,a7⟩,aF,aD,aI,bc,a9,a8,bh⟩:au)=false:=by
     simp[oj,hA,yi,p2]at aN ba⊢;grind
    simp[e1,fz,this]
   ·have vN:oj (⟨a',⟨bf,bg,a_,a7⟩,aF,aD,aI,bc,a9,a8,bh⟩:au)=true:=by
     simp[oj,hA,yi,p2]at aN ba⊢;grind
    exact Rv _ _ _ _ _ _ _ _ _ _ _ _ nk mm er fz vN _
 ·skip
  have hp:0<aF.length:=List.length_pos_iff.2 dF;have iL:=cq J.enc aF 0 hp
  try simp only[go_sem,I,iL,J.enc,el]
  repeat'(first|((first|refine ay.intro (by first|apply CU|apply zK) ?_|refine f' ?_|refine bo Bl χ ψ ?_|refine bo Bm χ ψ ?_|refine bo zN χ ψ ?_)<;>simp only[go_sem,I,iL,J.enc,el])|(with_reducible refine az ?_)|fail)
  refine bP (fun aN=>?_) (fun aN=>?_)
  ·simp only[go_sem];have:oj (⟨a',⟨bf,bg,a_,a7⟩,aF,aD,aI,bc,a9,a8,bh⟩:au)=false:=by
    simp[oj,hA,yi,p2,hp]at aN⊢;grind
   simp[e1,fz,this]
  ·have vN:oj (⟨a',⟨bf,bg,a_,a7⟩,aF,aD,aI,bc,a9,a8,bh⟩:au)=true:=by
    simp[oj,hA,yi,p2,hp]at aN⊢;grind
   exact Rv _ _ _ _ _ _ _ _ _ _ _ _ nk mm er fz vN _
theorem Z8(a' bf bg a_:Int)(a7:List Int)(aF aD aI:List J)(bc a9 a8 bh:Int)(_:aF.length+aD.length+aI.length≤524288)(nk:aD.length≤maxLen)(mm:aI.length≤maxLen)(er:j' (⟨a',⟨bf,bg,a_,a7⟩,aF,aD,aI,bc,a9,a8,bh⟩:au)=true)(fz:km (⟨a',⟨bf,bg,a_,a7⟩,aF,aD,aI,bc,a9,a8,bh⟩:au)=false)(aX:List J)(hA:l' (⟨a',⟨bf,bg,a_,a7⟩,aF,aD,aI,bc,a9,a8,bh⟩:au)=aX)(lB:aX.length≤1048576)(dF:aX≠[]){iM jM iN iO iP u8 iQ iR iS iT iU jR jS u16 kM kN kO kP kQ kR kS kT kU kV kW kX kY kZ k0 u32 nT nU nV pj ry rz rA rB rC rE rF rG rH rI rJ rK rL rM rN rO rP rQ rR rS rT rU rW rX rY rZ r1 u64 r2 r3 r4 r5 r6 r7 r8 r9 r_ r' sa sb sc sd se sf sg sh si sj sk sm sn so sq sr ss su sv sw sx sy sA sB sC sD sE sF sG sH sI sJ sK sL sM sN sO sP sQ sR sS sT sU sV sW sX sY sZ s0 s3 s4 s5 s6 s7 s8 s9 s_ s' ta tb tc td te tf tg th ti tj tk tl tm tn tp tq tr tt tu tv tw tx tz tA tB tC tD tE tF tG tH tI tJ tK tL tM tN tO tP tQ tR tS tT tU tV tW tX tY tZ t0 t1 t2 t3 t4 t5 t6 t7 t8 t9 t_ t' ua ub uc ud ue uf ug uh ui uj uk um uo uq ur uu uv uw ux uy uz uA uB uC uD uE uF uG uH uI uJ uK uL uM uN uO uP uQ uR uS uT uU uV uW uX uY uZ u0 u1 u2 u3 u4:V} :
  codeE prog [] (Bg 6 (CT Tryz.f141)) ⟨[iM,.ptr 0 0 0,.d (.bool false),.sl 1 0 aX.length,jM,iN,iO,iP,u8,iQ,iR,iS,iT,iU,jR,jS,u16,kM,kN,kO,kP,kQ,kR,kS,kT,kU,kV,kW,kX,kY,kZ,k0,u32,nT,nU,nV,pj,ry,rz,rA,rB,rC,rE,rF,rG,rH,rI,rJ,rK,rL,rM,rN,rO,rP,rQ,rR,rS,rT,rU,rW,rX,rY,rZ,r1,u64,r2,r3,r4,r5,r6,r7,r8,r9,r_,r',sa,sb,sc,sd,se,sf,sg,sh,si,sj,sk,sm,sn,so,sq,sr,ss,su,sv,sw,sx,sy,sA,sB,sC,sD,sE,sF,sG,sH,sI,sJ,sK,sL,sM,sN,sO,sP,sQ,sR,sS,sT,sU,sV,sW,sX,sY,sZ,s0,s3,s4,s5,s6,s7,s8,s9,s_,s',ta,tb,tc,td,te,tf,tg,th,ti,tj,tk,tl,tm,tn,tp,tq,tr,tt,tu,tv,tw,tx,tz,tA,tB,tC,tD,tE,tF,tG,tH,tI,tJ,tK,tL,tM,tN,tO,tP,tQ,tR,tS,tT,tU,tV,tW,tX,tY,tZ,t0,t1,t2,t3,t4,t5,t6,t7,t8,t9,t_,t',ua,ub,uc,ud,ue,uf,ug,uh,ui,uj,uk,um,uo,uq,ur,uu,uv,uw,ux,uy,uz,uA,uB,uC,uD,uE,uF,uG,uH,uI,uJ,uK,uL,uM,uN,uO,uP,uQ,uR,uS,uT,uU,uV,uW,uX,uY,uZ,u0,u1,u2,u3,u4],[.box [.i a',.i bf,.i bg,.i a_,.d (.sl 1 (a7.map aR)),.d (.sl 2 (aF.map J.enc)),.d (.sl 2 (aD.map J.enc)),.d (.sl 2 (aI.map J.enc)),.i bc,.i a9,.i a8,.i bh],.ah 2 (aX.map J.enc) true]⟩ (b3 (g8 prog [.tmp 2] [.one (.bool (e1 (⟨a',⟨bf,bg,a_,a7⟩,aF,aD,aI,bc,a9,a8,bh⟩:au)))]) .mk) [] (b3 (g8 prog [.tmp 2] [.one (.bool (e1 (⟨a',⟨bf,bg,a_,a7⟩,aF,aD,aI,bc,a9,a8,bh⟩:au)))]) .mk):=by
 conv=>arg 3;whnf
 simp only[go_sem];have hp:0<aX.length:=List.length_pos_iff.2 dF;have iL:=cq J.enc aX 0 hp
 try simp only[go_sem,I,iL,J.enc,el]
 repeat'(first|((first|refine ay.intro (by first|apply CU|apply zK) ?_|with_reducible refine lR ?_|refine f' ?_|refine bo Bl χ ψ ?_|refine bo Bm χ ψ ?_|refine bo zN χ ψ ?_)<;>simp only[go_sem,I,iL,J.enc,el])|(with_reducible refine az ?_)|fail)
 refine bP (fun aN=>?_) (fun aN=>?_)
 ·simp only[go_sem];have:oj (⟨a',⟨bf,bg,a_,a7⟩,aF,aD,aI,bc,a9,a8,bh⟩:au)=false:=by
   simp[oj,hA,yi,p2,hp]at aN⊢;grind
  simp[e1,fz,this]
 ·have vN:oj (⟨a',⟨bf,bg,a_,a7⟩,aF,aD,aI,bc,a9,a8,bh⟩:au)=true:=by
   simp[oj,hA,yi,p2,hp]at aN⊢;grind
  exact Rv _ _ _ _ _ _ _ _ _ _ _ _ nk mm er fz vN _
theorem akF(a' bf bg a_:Int)(a7:List Int)(aF aD aI:List J)(bc a9 a8 bh:Int)(hc:aF.length+aD.length+aI.length≤524288)(nk:aD.length≤maxLen)(mm:aI.length≤maxLen)(er:j' (⟨a',⟨bf,bg,a_,a7⟩,aF,aD,aI,bc,a9,a8,bh⟩:au)=true)(fz:km (⟨a',⟨bf,bg,a_,a7⟩,aF,aD,aI,bc,a9,a8,bh⟩:au)=false)(yv:cY aF=true)(yw:cY aD=true)(yx:cY aI=true)(e6:aD=[]){iM jM iN iO iP u8 iQ iR iS iT iU jR jS u16 kM kN kO kP kQ kR kS kT kU kV kW kX kY kZ k0 u32 nT nU nV pj ry rz rA rB rC rE rF rG rH rI rJ rK rL rM rN rO rP rQ rR rS rT rU rW rX rY rZ r1 u64 r2 r3 r4 r5 r6 r7 r8 r9 r_ r' sa sb sc sd se sf sg sh si sj sk sm sn so sq sr ss su sv sw sx sy sA sB sC sD sE sF sG sH sI sJ sK sL sM sN sO sP sQ sR sS sT sU sV sW sX sY sZ s0 s3 s4 s5 s6 s7 s8 s9 s_ s' ta tb tc td te tf tg th ti tj tk tl tm tn tp tq tr tt tu tv tw tx tz tA tB tC tD tE tF tG tH tI tJ tK tL tM tN tO tP tQ tR tS tT tU tV tW tX tY tZ t0 t1 t2 t3 t4 t5 t6 t7 t8 t9 t_ t' ua ub uc ud ue uf ug uh ui uj uk um uo uq ur uu uv uw ux uy uz uA uB uC uD uE uF uG uH uI uJ uK uL uM uN uO uP uQ uR uS uT uU uV uW uX uY uZ u0 u1 u2 u3 u4:V} :
  codeE prog [] (Bg 5 (CT Tryz.f141)) ⟨[iM,.ptr 0 0 0,.d (.bool false),.d (.sl 2 (aF.map J.enc)),jM,iN,iO,iP,u8,iQ,iR,iS,iT,iU,jR,jS,u16,kM,kN,kO,kP,kQ,kR,kS,kT,kU,kV,kW,kX,kY,kZ,k0,u32,nT,nU,nV,pj,ry,rz,rA,rB,rC,rE,rF,rG,rH,rI,rJ,rK,rL,rM,rN,rO,rP,rQ,rR,rS,rT,rU,rW,rX,rY,rZ,r1,u64,r2,r3,r4,r5,r6,r7,r8,r9,r_,r',sa,sb,sc,sd,se,sf,sg,sh,si,sj,sk,sm,sn,so,sq,sr,ss,su,sv,sw,sx,sy,sA,sB,sC,sD,sE,sF,sG,sH,sI,sJ,sK,sL,sM,sN,sO,sP,sQ,sR,sS,sT,sU,sV,sW,sX,sY,sZ,s0,s3,s4,s5,s6,s7,s8,s9,s_,s',ta,tb,tc,td,te,tf,tg,th,ti,tj,tk,tl,tm,tn,tp,tq,tr,tt,tu,tv,tw,tx,tz,tA,tB,tC,tD,tE,tF,tG,tH,tI,tJ,tK,tL,tM,tN,tO,tP,tQ,tR,tS,tT,tU,tV,tW,tX,tY,tZ,t0,t1,t2,t3,t4,t5,t6,t7,t8,t9,t_,t',ua,ub,uc,ud,ue,uf,ug,uh,ui,uj,uk,um,uo,uq,ur,uu,uv,uw,ux,uy,uz,uA,uB,uC,uD,uE,uF,uG,uH,uI,uJ,uK,uL,uM,uN,uO,uP,uQ,uR,uS,uT,uU,uV,uW,uX,uY,uZ,u0,u1,u2,u3,u4],[.box [.i a',.i bf,.i bg,.i a_,.d (.sl 1 (a7.map aR)),.d (.sl 2 (aF.map J.enc)),.d (.sl 2 (aD.map J.enc)),.d (.sl 2 (aI.map J.enc)),.i bc,.i a9,.i a8,.i bh]]⟩ (b3 (g8 prog [.tmp 2] [.one (.bool (e1 (⟨a',⟨bf,bg,a_,a7⟩,aF,aD,aI,bc,a9,a8,bh⟩:au)))]) .mk) [] (b3 (g8 prog [.tmp 2] [.one (.bool (e1 (⟨a',⟨bf,bg,a_,a7⟩,aF,aD,aI,bc,a9,a8,bh⟩:au)))]) .mk):=by
 conv=>arg 3;whnf
 refine yn fun Rh cd=>?_;simp only[go_sem];by_cases Ri:aI=[]
 ·skip
  refine cr.intro (fun i:Nat=>⟨(.al::.ptr 0 0 0::.d (.bool false)::.d (.sl 2 (aF.map J.enc))::.al::.i i::aA 240 []),[.box [.i a',.i bf,.i bg,.i a_,.d (.sl 1 (a7.map aR)),.d (.sl 2 (aF.map J.enc)),.d (.sl 2 (aD.map J.enc)),.d (.sl 2 (aI.map J.enc)),.i bc,.i a9,.i a8,.i bh]]⟩)
   (fun _=>0) (fun i=>i=0) 0 [0] rfl ?_ ?_
  ·simp only[go_sem];simp
  ·rintro _ rfl;have ax:=bm (p:=((0:Nat):Int)<(aI.length:Int)) (by rw[Ri];simp);have hA:l' (⟨a',⟨bf,bg,a_,a7⟩,aF,aD,aI,bc,a9,a8,bh⟩:au)=aF:=by unfold l' fg;simp only[e6,Ri,List.foldl_nil]
   simp only[go_sem,I,ax];exact cd _ (akG a' bf bg a_ a7 aF aD aI bc a9 a8 bh hc nk mm er fz hA)
 ·skip
  have wL:aF=fg aF aD:=by rw[e6];rfl
  have Z6:=Ri;refine cr.intro (α:=Nat×Option (List J)) (fun y=>match y.2 with
    |none=>⟨(.al::.ptr 0 0 0::.d (.bool false)::.d (.sl 2 (aF.map J.enc))::.al::.i y.1::aA 240 []),[.box [.i a',.i bf,.i bg,.i a_,.d (.sl 1 (a7.map aR)),.d (.sl 2 (aF.map J.enc)),.d (.sl 2 (aD.map J.enc)),.d (.sl 2 (aI.map J.enc)),.i bc,.i a9,.i a8,.i bh]]⟩
    |some ys=>⟨(.al::.ptr 0 0 0::.d (.bool false)::.sl 1 0 ys.length::.al::.i y.1::aA 240 []),[.box [.i a',.i bf,.i bg,.i a_,.d (.sl 1 (a7.map aR)),.d (.sl 2 (aF.map J.enc)),.d (.sl 2 (aD.map J.enc)),.d (.sl 2 (aI.map J.enc)),.i bc,.i a9,.i a8,.i bh],.ah 2 (ys.map J.enc) true]⟩)
   (fun y=>aI.length-y.1) (fun y=>y.1≤aI.length∧(y.2=none→y.1=0)∧y.2.getD aF=fg (fg aF aD) (aI.take y.1)) (0,none) [0] ⟨by simp,by simp,by simp only[Option.getD_none,List.take_zero];exact wL⟩ ?_ ?_
  ·simp only[go_sem];simp
  ·rintro⟨i,xX⟩ ⟨hi,hz,hy⟩;simp only at hi hz hy;have g6:=qQ (aI.take i) (fg aF aD);have Z7:=qQ aD aF;have cM:(aI.take i).length=i:=by simp;omega
   cases xX with
   |none=>
    have p2:=hz rfl;simp only[Option.getD_none]at hy;by_cases h1:i<aI.length
    ·have ax:=bC (p:=(i:Int)<(aI.length:Int)) ω;have aB:=cq J.enc aI i h1;have hw:=dX h1 mm;have dx:=Bh (fg aF aD) aI i h1;rw[←hy]at dx;have LF:aF.length≤1048576:=by rw[hy];omega
     try simp only[go_sem,I,aE,aB,J.enc,ax]
     repeat'(first|((first|refine ae.intro (by first|apply yp|(apply vS<;>exact a6)) ?_|refine ay.intro (by first|apply xb|apply j1|apply jF) ?_|refine bw ?_)<;>simp only[go_sem,I])|(with_reducible refine az ?_)|fail)
     refine bE.intro (i+1,some (gT aF aI[i])) [0,1] ⟨by omega,by simp,by simp[dx]⟩ (show aI.length-(i+1)<aI.length-i by omega) ?_;simp only[go_sem,hw];simp
    ·exfalso;exact absurd (List.length_pos_iff.2 Z6) ω
   |some ys=>
    skip
    simp only[fh]at hy;by_cases h1:i<aI.length
    ·have ax:=bC (p:=(i:Int)<(aI.length:Int)) ω;have aB:=cq J.enc aI i h1;have hw:=dX h1 mm;have dx:=Bh (fg aF aD) aI i h1;rw[←hy]at dx;have LF:ys.length≤1048576:=by rw[hy];omega
     try simp only[go_sem,I,aE,aB,J.enc,ax]
     repeat'(first|((first|refine ae.intro (by(apply vS<;>exact a6)) ?_|refine bw ?_)<;>simp only[go_sem,I])|(with_reducible refine az ?_)|fail)
     refine bE.intro (i+1,some (gT ys aI[i])) [0,2] ⟨by omega,by simp,by simp[dx]⟩ (show aI.length-(i+1)<aI.length-i by omega) ?_;simp only[go_sem,hw];simp
    ·have ax:=bm (p:=(i:Int)<(aI.length:Int)) ω;obtain rfl:i=aI.length:=by omega
     rw[d3]at hy;have Ie:=hy;have hA:l' (⟨a',⟨bf,bg,a_,a7⟩,aF,aD,aI,bc,a9,a8,bh⟩:au)=ys:=hy.symm;simp only[go_sem,I,ax];exact cd _ (Z8 a' bf bg a_ a7 aF aD aI bc a9 a8 bh hc nk mm er fz ys hA (by rw[Ie];have:=qQ aI (fg aF aD);have:=qQ aD aF;omega) (ZS yv yw yx (.inr Z6) Ie))
theorem akH(a' bf bg a_:Int)(a7:List Int)(aF aD aI:List J)(bc a9 a8 bh:Int)(hc:aF.length+aD.length+aI.length≤524288)(nk:aD.length≤maxLen)(mm:aI.length≤maxLen)(er:j' (⟨a',⟨bf,bg,a_,a7⟩,aF,aD,aI,bc,a9,a8,bh⟩:au)=true)(fz:km (⟨a',⟨bf,bg,a_,a7⟩,aF,aD,aI,bc,a9,a8,bh⟩:au)=false)(yv:cY aF=true)(yw:cY aD=true)(yx:cY aI=true)(e6:aD≠[])(aX:List J)(dF:aX=fg aF aD){iM jM iN iO iP u8 iQ iR iS iT iU jR jS u16 kM kN kO kP kQ kR kS kT kU kV kW kX kY kZ k0 u32 nT nU nV pj ry rz rA rB rC rE rF rG rH rI rJ rK rL rM rN rO rP rQ rR rS rT rU rW rX rY rZ r1 u64 r2 r3 r4 r5 r6 r7 r8 r9 r_ r' sa sb sc sd se sf sg sh si sj sk sm sn so sq sr ss su sv sw sx sy sA sB sC sD sE sF sG sH sI sJ sK sL sM sN sO sP sQ sR sS sT sU sV sW sX sY sZ s0 s3 s4 s5 s6 s7 s8 s9 s_ s' ta tb tc td te tf tg th ti tj tk tl tm tn tp tq tr tt tu tv tw tx tz tA tB tC tD tE tF tG tH tI tJ tK tL tM tN tO tP tQ tR tS tT tU tV tW tX tY tZ t0 t1 t2 t3 t4 t5 t6 t7 t8 t9 t_ t' ua ub uc ud ue uf ug uh ui uj uk um uo uq ur uu uv uw ux uy uz uA uB uC uD uE uF uG uH uI uJ uK uL uM uN uO uP uQ uR uS uT uU uV uW uX uY uZ u0 u1 u2 u3 u4:V} :
  codeE prog [] (Bg 5 (CT Tryz.f141)) ⟨[iM,.ptr 0 0 0,.d (.bool false),.sl 1 0 aX.length,jM,iN,iO,iP,u8,iQ,iR,iS,iT,iU,jR,jS,u16,kM,kN,kO,kP,kQ,kR,kS,kT,kU,kV,kW,kX,kY,kZ,k0,u32,nT,nU,nV,pj,ry,rz,rA,rB,rC,rE,rF,rG,rH,rI,rJ,rK,rL,rM,rN,rO,rP,rQ,rR,rS,rT,rU,rW,rX,rY,rZ,r1,u64,r2,r3,r4,r5,r6,r7,r8,r9,r_,r',sa,sb,sc,sd,se,sf,sg,sh,si,sj,sk,sm,sn,so,sq,sr,ss,su,sv,sw,sx,sy,sA,sB,sC,sD,sE,sF,sG,sH,sI,sJ,sK,sL,sM,sN,sO,sP,sQ,sR,sS,sT,sU,sV,sW,sX,sY,sZ,s0,s3,s4,s5,s6,s7,s8,s9,s_,s',ta,tb,tc,td,te,tf,tg,th,ti,tj,tk,tl,tm,tn,tp,tq,tr,tt,tu,tv,tw,tx,tz,tA,tB,tC,tD,tE,tF,tG,tH,tI,tJ,tK,tL,tM,tN,tO,tP,tQ,tR,tS,tT,tU,tV,tW,tX,tY,tZ,t0,t1,t2,t3,t4,t5,t6,t7,t8,t9,t_,t',ua,ub,uc,ud,ue,uf,ug,uh,ui,uj,uk,um,uo,uq,ur,uu,uv,uw,ux,uy,uz,uA,uB,uC,uD,uE,uF,uG,uH,uI,uJ,uK,uL,uM,uN,uO,uP,uQ,uR,uS,uT,uU,uV,uW,uX,uY,uZ,u0,u1,u2,u3,u4],[.box [.i a',.i bf,.i bg,.i a_,.d (.sl 1 (a7.map aR)),.d (.sl 2 (aF.map J.enc)),.d (.sl 2 (aD.map J.enc)),.d (.sl 2 (aI.map J.enc)),.i bc,.i a9,.i a8,.i bh],.ah 2 (aX.map J.enc) true]⟩ (b3 (g8 prog [.tmp 2] [.one (.bool (e1 (⟨a',⟨bf,bg,a_,a7⟩,aF,aD,aI,bc,a9,a8,bh⟩:au)))]) .mk) [] (b3 (g8 prog [.tmp 2] [.one (.bool (e1 (⟨a',⟨bf,bg,a_,a7⟩,aF,aD,aI,bc,a9,a8,bh⟩:au)))]) .mk):=by
 conv=>arg 3;whnf
 refine yn fun Rh cd=>?_;simp only[go_sem];subst dF;refine cr.intro (α:=Nat×Option (List J)) (fun y=>match y.2 with
   |none=>⟨(.al::.ptr 0 0 0::.d (.bool false)::.d (.sl 2 (aF.map J.enc))::.al::.i y.1::aA 240 []),[.box [.i a',.i bf,.i bg,.i a_,.d (.sl 1 (a7.map aR)),.d (.sl 2 (aF.map J.enc)),.d (.sl 2 (aD.map J.enc)),.d (.sl 2 (aI.map J.enc)),.i bc,.i a9,.i a8,.i bh]]⟩
   |some ys=>⟨(.al::.ptr 0 0 0::.d (.bool false)::.sl 1 0 ys.length::.al::.i y.1::aA 240 []),[.box [.i a',.i bf,.i bg,.i a_,.d (.sl 1 (a7.map aR)),.d (.sl 2 (aF.map J.enc)),.d (.sl 2 (aD.map J.enc)),.d (.sl 2 (aI.map J.enc)),.i bc,.i a9,.i a8,.i bh],.ah 2 (ys.map J.enc) true]⟩)
  (fun y=>aI.length-y.1) (fun y=>y.1≤aI.length∧(y.2=none→False)∧y.2.getD aF=fg (fg aF aD) (aI.take y.1)) (0,some (fg aF aD)) [0,1] ⟨by simp,by simp,by simp[fg]⟩ ?_ ?_
 ·simp only[go_sem];simp
 ·rintro⟨i,xX⟩ ⟨hi,hz,hy⟩;simp only at hi hz hy;have g6:=qQ (aI.take i) (fg aF aD);have Z7:=qQ aD aF;have cM:(aI.take i).length=i:=by simp;omega
  cases xX with
  |none=>exact(hz rfl).elim
  |some ys=>
   skip
   simp only[fh]at hy;by_cases h1:i<aI.length
   ·have ax:=bC (p:=(i:Int)<(aI.length:Int)) ω;have aB:=cq J.enc aI i h1;have hw:=dX h1 mm;have dx:=Bh (fg aF aD) aI i h1;rw[←hy]at dx;have LF:ys.length≤1048576:=by rw[hy];omega
    try simp only[go_sem,I,aE,aB,J.enc,ax]
    repeat'(first|((first|refine ae.intro (by first|apply yp|(apply vS<;>exact a6)) ?_|refine ay.intro (by first|apply xb|apply j1|apply jF) ?_|refine bw ?_)<;>simp only[go_sem,I])|(with_reducible refine az ?_)|fail)
    refine bE.intro (i+1,some (gT ys aI[i])) [0,2] ⟨by omega,by simp,by simp[dx]⟩ (show aI.length-(i+1)<aI.length-i by omega) ?_;simp only[go_sem,hw];simp
   ·have ax:=bm (p:=(i:Int)<(aI.length:Int)) ω;obtain rfl:i=aI.length:=by omega
    rw[d3]at hy;have Ie:=hy;have hA:l' (⟨a',⟨bf,bg,a_,a7⟩,aF,aD,aI,bc,a9,a8,bh⟩:au)=ys:=hy.symm;simp only[go_sem,I,ax];exact cd _ (Z8 a' bf bg a_ a7 aF aD aI bc a9 a8 bh hc nk mm er fz ys hA (by rw[Ie];have:=qQ aI (fg aF aD);have:=qQ aD aF;omega) (ZS yv yw yx (.inl e6) Ie))
theorem akI(a' bf bg a_:Int)(a7:List Int)(aF aD aI:List J)(bc a9 a8 bh:Int)(hc:aF.length+aD.length+aI.length≤524288)(nk:aD.length≤maxLen)(mm:aI.length≤maxLen)(er:j' (⟨a',⟨bf,bg,a_,a7⟩,aF,aD,aI,bc,a9,a8,bh⟩:au)=true)(fz:km (⟨a',⟨bf,bg,a_,a7⟩,aF,aD,aI,bc,a9,a8,bh⟩:au)=false)(yv:cY aF=true)(yw:cY aD=true)(yx:cY aI=true){iM jM iN iO iP u8 iQ iR iS iT iU jR jS u16 kM kN kO kP kQ kR kS kT kU kV kW kX kY kZ k0 u32 nT nU nV pj ry rz rA rB rC rE rF rG rH rI rJ rK rL rM rN rO rP rQ rR rS rT rU rW rX rY rZ r1 u64 r2 r3 r4 r5 r6 r7 r8 r9 r_ r' sa sb sc sd se sf sg sh si sj sk sm sn so sq sr ss su sv sw sx sy sA sB sC sD sE sF sG sH sI sJ sK sL sM sN sO sP sQ sR sS sT sU sV sW sX sY sZ s0 s3 s4 s5 s6 s7 s8 s9 s_ s' ta tb tc td te tf tg th ti tj tk tl tm tn tp tq tr tt tu tv tw tx tz tA tB tC tD tE tF tG tH tI tJ tK tL tM tN tO tP tQ tR tS tT tU tV tW tX tY tZ t0 t1 t2 t3 t4 t5 t6 t7 t8 t9 t_ t' ua ub uc ud ue uf ug uh ui uj uk um uo uq ur uu uv uw ux uy uz uA uB uC uD uE uF uG uH uI uJ uK uL uM uN uO uP uQ uR uS uT uU uV uW uX uY uZ u0 u1 u2 u3 u4:V} :
  codeE prog [] (Bg 4 (CT Tryz.f141)) ⟨[iM,.ptr 0 0 0,.d (.bool false),.d (.sl 2 (aF.map J.enc)),jM,iN,iO,iP,u8,iQ,iR,iS,iT,iU,jR,jS,u16,kM,kN,kO,kP,kQ,kR,kS,kT,kU,kV,kW,kX,kY,kZ,k0,u32,nT,nU,nV,pj,ry,rz,rA,rB,rC,rE,rF,rG,rH,rI,rJ,rK,rL,rM,rN,rO,rP,rQ,rR,rS,rT,rU,rW,rX,rY,rZ,r1,u64,r2,r3,r4,r5,r6,r7,r8,r9,r_,r',sa,sb,sc,sd,se,sf,sg,sh,si,sj,sk,sm,sn,so,sq,sr,ss,su,sv,sw,sx,sy,sA,sB,sC,sD,sE,sF,sG,sH,sI,sJ,sK,sL,sM,sN,sO,sP,sQ,sR,sS,sT,sU,sV,sW,sX,sY,sZ,s0,s3,s4,s5,s6,s7,s8,s9,s_,s',ta,tb,tc,td,te,tf,tg,th,ti,tj,tk,tl,tm,tn,tp,tq,tr,tt,tu,tv,tw,tx,tz,tA,tB,tC,tD,tE,tF,tG,tH,tI,tJ,tK,tL,tM,tN,tO,tP,tQ,tR,tS,tT,tU,tV,tW,tX,tY,tZ,t0,t1,t2,t3,t4,t5,t6,t7,t8,t9,t_,t',ua,ub,uc,ud,ue,uf,ug,uh,ui,uj,uk,um,uo,uq,ur,uu,uv,uw,ux,uy,uz,uA,uB,uC,uD,uE,uF,uG,uH,uI,uJ,uK,uL,uM,uN,uO,uP,uQ,uR,uS,uT,uU,uV,uW,uX,uY,uZ,u0,u1,u2,u3,u4],[.box [.i a',.i bf,.i bg,.i a_,.d (.sl 1 (a7.map aR)),.d (.sl 2 (aF.map J.enc)),.d (.sl 2 (aD.map J.enc)),.d (.sl 2 (aI.map J.enc)),.i bc,.i a9,.i a8,.i bh]]⟩ (b3 (g8 prog [.tmp 2] [.one (.bool (e1 (⟨a',⟨bf,bg,a_,a7⟩,aF,aD,aI,bc,a9,a8,bh⟩:au)))]) .mk) [] (b3 (g8 prog [.tmp 2] [.one (.bool (e1 (⟨a',⟨bf,bg,a_,a7⟩,aF,aD,aI,bc,a9,a8,bh⟩:au)))]) .mk):=by
 conv=>arg 3;whnf
 refine yn fun Rh cd=>?_;simp only[go_sem];by_cases Rj:aD=[]
 ·skip
  refine cr.intro (fun i:Nat=>⟨(.al::.ptr 0 0 0::.d (.bool false)::.d (.sl 2 (aF.map J.enc))::.i i::aA 241 []),[.box [.i a',.i bf,.i bg,.i a_,.d (.sl 1 (a7.map aR)),.d (.sl 2 (aF.map J.enc)),.d (.sl 2 (aD.map J.enc)),.d (.sl 2 (aI.map J.enc)),.i bc,.i a9,.i a8,.i bh]]⟩)
   (fun _=>0) (fun i=>i=0) 0 [0] rfl ?_ ?_
  ·simp only[go_sem];simp
  ·rintro _ rfl;have ax:=bm (p:=((0:Nat):Int)<(aD.length:Int)) (by rw[Rj];simp);simp only[go_sem,I,ax];exact cd _ (akF a' bf bg a_ a7 aF aD aI bc a9 a8 bh hc nk mm er fz yv yw yx Rj)
 ·skip
  have Z9:=Rj;have wL:aF=fg aF []:=rfl;refine cr.intro (α:=Nat×Option (List J)) (fun y=>match y.2 with
    |none=>⟨(.al::.ptr 0 0 0::.d (.bool false)::.d (.sl 2 (aF.map J.enc))::.i y.1::aA 241 []),[.box [.i a',.i bf,.i bg,.i a_,.d (.sl 1 (a7.map aR)),.d (.sl 2 (aF.map J.enc)),.d (.sl 2 (aD.map J.enc)),.d (.sl 2 (aI.map J.enc)),.i bc,.i a9,.i a8,.i bh]]⟩
    |some ys=>⟨(.al::.ptr 0 0 0::.d (.bool false)::.sl 1 0 ys.length::.i y.1::aA 241 []),[.box [.i a',.i bf,.i bg,.i a_,.d (.sl 1 (a7.map aR)),.d (.sl 2 (aF.map J.enc)),.d (.sl 2 (aD.map J.enc)),.d (.sl 2 (aI.map J.enc)),.i bc,.i a9,.i a8,.i bh],.ah 2 (ys.map J.enc) true]⟩)
   (fun y=>aD.length-y.1) (fun y=>y.1≤aD.length∧(y.2=none→y.1=0)∧y.2.getD aF=fg aF (aD.take y.1)) (0,none) [0] ⟨by simp,by simp,by simp only[Option.getD_none,List.take_zero];exact wL⟩ ?_ ?_
  ·simp only[go_sem];simp
  ·rintro⟨i,xX⟩ ⟨hi,hz,hy⟩;simp only at hi hz hy;have g6:=qQ (aD.take i) aF;have Z7:=qQ aD aF;have cM:(aD.take i).length=i:=by simp;omega
   cases xX with
   |none=>
    have p2:=hz rfl;simp only[Option.getD_none]at hy;by_cases h1:i<aD.length
    ·have ax:=bC (p:=(i:Int)<(aD.length:Int)) ω;have aB:=cq J.enc aD i h1;have hw:=dX h1 nk;have dx:=Bh aF aD i h1;rw[←hy]at dx;have LF:aF.length≤1048576:=by rw[hy];omega
     try simp only[go_sem,I,aE,aB,J.enc,ax]
     repeat'(first|((first|refine ae.intro (by first|apply yp|(apply vS<;>exact a6)) ?_|refine ay.intro (by first|apply xb|apply j1|apply jF) ?_|refine bw ?_)<;>simp only[go_sem,I])|(with_reducible refine az ?_)|fail)
     refine bE.intro (i+1,some (gT aF aD[i])) [0,1] ⟨by omega,by simp,by simp[dx]⟩ (show aD.length-(i+1)<aD.length-i by omega) ?_;simp only[go_sem,hw];simp
    ·exfalso;exact absurd (List.length_pos_iff.2 Z9) ω
   |some ys=>
    skip
    simp only[fh]at hy;by_cases h1:i<aD.length
    ·have ax:=bC (p:=(i:Int)<(aD.length:Int)) ω;have aB:=cq J.enc aD i h1;have hw:=dX h1 nk;have dx:=Bh aF aD i h1;rw[←hy]at dx;have LF:ys.length≤1048576:=by rw[hy];omega
     try simp only[go_sem,I,aE,aB,J.enc,ax]
     repeat'(first|((first|refine ae.intro (by(apply vS<;>exact a6)) ?_|refine bw ?_)<;>simp only[go_sem,I])|(with_reducible refine az ?_)|fail)
     refine bE.intro (i+1,some (gT ys aD[i])) [0,2] ⟨by omega,by simp,by simp[dx]⟩ (show aD.length-(i+1)<aD.length-i by omega) ?_;simp only[go_sem,hw];simp
    ·have ax:=bm (p:=(i:Int)<(aD.length:Int)) ω;obtain rfl:i=aD.length:=by omega
     rw[d3]at hy;simp only[go_sem,I,ax];exact cd _ (akH a' bf bg a_ a7 aF aD aI bc a9 a8 bh hc nk mm er fz yv yw yx Z9 ys hy)
theorem akJ(a' bf bg a_:Int)(a7:List Int)(aF aD aI:List J)(bc a9 a8 bh:Int)(hc:aF.length+aD.length+aI.length≤524288)(nk:aD.length≤maxLen)(mm:aI.length≤maxLen)(er:j' (⟨a',⟨bf,bg,a_,a7⟩,aF,aD,aI,bc,a9,a8,bh⟩:au)=true)(fz:km (⟨a',⟨bf,bg,a_,a7⟩,aF,aD,aI,bc,a9,a8,bh⟩:au)=false)(yv:cY aF=true)(yw:cY aD=true)(yx:cY aI=true){iM pN jM iN iO iP u8 iQ iR iS iT iU jR jS u16 kM kN kO kP kQ kR kS kT kU kV kW kX kY kZ k0 u32 nT nU nV pj ry rz rA rB rC rE rF rG rH rI rJ rK rL rM rN rO rP rQ rR rS rT rU rW rX rY rZ r1 u64 r2 r3 r4 r5 r6 r7 r8 r9 r_ r' sa sb sc sd se sf sg sh si sj sk sm sn so sq sr ss su sv sw sx sy sA sB sC sD sE sF sG sH sI sJ sK sL sM sN sO sP sQ sR sS sT sU sV sW sX sY sZ s0 s3 s4 s5 s6 s7 s8 s9 s_ s' ta tb tc td te tf tg th ti tj tk tl tm tn tp tq tr tt tu tv tw tx tz tA tB tC tD tE tF tG tH tI tJ tK tL tM tN tO tP tQ tR tS tT tU tV tW tX tY tZ t0 t1 t2 t3 t4 t5 t6 t7 t8 t9 t_ t' ua ub uc ud ue uf ug uh ui uj uk um uo uq ur uu uv uw ux uy uz uA uB uC uD uE uF uG uH uI uJ uK uL uM uN uO uP uQ uR uS uT uU uV uW uX uY uZ u0 u1 u2 u3 u4:V} :
  codeE prog [] (Bg 3 (CT Tryz.f141)) ⟨[iM,.ptr 0 0 0,.d (.bool false),pN,jM,iN,iO,iP,u8,iQ,iR,iS,iT,iU,jR,jS,u16,kM,kN,kO,kP,kQ,kR,kS,kT,kU,kV,kW,kX,kY,kZ,k0,u32,nT,nU,nV,pj,ry,rz,rA,rB,rC,rE,rF,rG,rH,rI,rJ,rK,rL,rM,rN,rO,rP,rQ,rR,rS,rT,rU,rW,rX,rY,rZ,r1,u64,r2,r3,r4,r5,r6,r7,r8,r9,r_,r',sa,sb,sc,sd,se,sf,sg,sh,si,sj,sk,sm,sn,so,sq,sr,ss,su,sv,sw,sx,sy,sA,sB,sC,sD,sE,sF,sG,sH,sI,sJ,sK,sL,sM,sN,sO,sP,sQ,sR,sS,sT,sU,sV,sW,sX,sY,sZ,s0,s3,s4,s5,s6,s7,s8,s9,s_,s',ta,tb,tc,td,te,tf,tg,th,ti,tj,tk,tl,tm,tn,tp,tq,tr,tt,tu,tv,tw,tx,tz,tA,tB,tC,tD,tE,tF,tG,tH,tI,tJ,tK,tL,tM,tN,tO,tP,tQ,tR,tS,tT,tU,tV,tW,tX,tY,tZ,t0,t1,t2,t3,t4,t5,t6,t7,t8,t9,t_,t',ua,ub,uc,ud,ue,uf,ug,uh,ui,uj,uk,um,uo,uq,ur,uu,uv,uw,ux,uy,uz,uA,uB,uC,uD,uE,uF,uG,uH,uI,uJ,uK,uL,uM,uN,uO,uP,uQ,uR,uS,uT,uU,uV,uW,uX,uY,uZ,u0,u1,u2,u3,u4],[.box [.i a',.i bf,.i bg,.i a_,.d (.sl 1 (a7.map aR)),.d (.sl 2 (aF.map J.enc)),.d (.sl 2 (aD.map J.enc)),.d (.sl 2 (aI.map J.enc)),.i bc,.i a9,.i a8,.i bh]]⟩ (b3 (g8 prog [.tmp 2] [.one (.bool (e1 (⟨a',⟨bf,bg,a_,a7⟩,aF,aD,aI,bc,a9,a8,bh⟩:au)))]) .mk) [] (b3 (g8 prog [.tmp 2] [.one (.bool (e1 (⟨a',⟨bf,bg,a_,a7⟩,aF,aD,aI,bc,a9,a8,bh⟩:au)))]) .mk):=by
 conv=>arg 3;whnf
 refine yn fun Rh cd=>?_;simp only[go_sem];exact cd _ (akI a' bf bg a_ a7 aF aD aI bc a9 a8 bh hc nk mm er fz yv yw yx)
theorem mn(a' bf bg a_:Int)(a7:List Int)(aF aD aI:List J)(bc a9 a8 bh:Int)(hc:aF.length+aD.length+aI.length≤524288):aL 141 [.agg [.int .i64 a',.int .i64 bf,.int .i64 bg,.int .i64 a_,.sl 1 (a7.map aR),.sl 2 (aF.map J.enc),.sl 2 (aD.map J.enc),.sl 2 (aI.map J.enc),.int .i64 bc,.int .i64 a9,.int .i64 a8,.int .i64 bh]] [.one (.bool (e1 (⟨a',⟨bf,bg,a_,a7⟩,aF,aD,aI,bc,a9,a8,bh⟩:au)))]:=by
 refine a3 246 func141 call141 [.tmp 2] ?_;intro ok;have nk:aD.length≤maxLen:=by simp only[maxLen];omega
 have mm:aI.length≤maxLen:=by simp only[maxLen];omega
 refine yn fun akK LG=>?_;simp only[go_sem];refine LG _ (yn fun K2 LH=>?_)
 try simp only[go_sem]
 repeat'(first|((first|refine ae.intro (by first|apply yp|(apply vS<;>exact a6)) ?_|refine ay.intro (by first|apply xb|apply j1|apply jF) ?_|refine bw ?_)<;>simp only[go_sem])|(with_reducible refine az ?_)|fail)
 refine bP (fun h0=>?_) (fun h0=>?_)
 ·simp only[go_sem];have:j' (⟨a',⟨bf,bg,a_,a7⟩,aF,aD,aI,bc,a9,a8,bh⟩:au)=false:=by
   rw[Bool.eq_false_iff];intro g;simp[j']at h0 g;simp_all
  simp[e1,this]
 ·have er:j' (⟨a',⟨bf,bg,a_,a7⟩,aF,aD,aI,bc,a9,a8,bh⟩:au)=true:=by
   simp[j']at h0⊢;simp_all
  have akL:(kr (⟨a',⟨bf,bg,a_,a7⟩,aF,aD,aI,bc,a9,a8,bh⟩:au).av=true∧cY aF=true∧cY aD=true∧cY aI=true):=by
   simp only[j',bW,fJ]at er;exact⟨er.1,er.2.1,er.2.2.1,er.2.2.2.1⟩
  obtain⟨atj,yv,yw,yx⟩:=akL;simp only[go_sem];refine LH _ (yn fun akM LI=>?_)
  try simp only[go_sem]
  repeat'(first|((first|refine ae.intro (by(apply vS<;>exact a6)) ?_|refine bw ?_)<;>simp only[go_sem])|(with_reducible refine az ?_)|fail)
  refine bP (fun bj=>?_) (fun bj=>?_)
  ·have fz:km (⟨a',⟨bf,bg,a_,a7⟩,aF,aD,aI,bc,a9,a8,bh⟩:au)=true:=by simpa [km,d5]using bj
   simp only[go_sem]
   try simp only[go_sem,I]
   repeat'(refine bw ?_<;>simp only[go_sem,I])
   all_goals(refine gd ?_;simp[e1,er,fz,LJ])
  ·have fz:km (⟨a',⟨bf,bg,a_,a7⟩,aF,aD,aI,bc,a9,a8,bh⟩:au)=false:=by simpa [km,d5]using bj
   simp only[go_sem];exact LI _ (akJ a' bf bg a_ a7 aF aD aI bc a9 a8 bh hc nk mm er fz yv yw yx)
def aab:List (List bR):=cS 14 [4162967,4162965,4162959,4163062,4163008,4163926,4163440,4250434,4246060,4232938,4193572,4074381,4517248,3188646]
attribute [go_sem] aab
def MC:au:=⟨0,⟨0,0,0,[]⟩,[],[],[],0,0,0,0⟩
def pD(n:Int):au:=if nS n then⟨0,vg n,[],[],[],-1,0,0,0⟩else MC
theorem XJ(n:Int):aL 246 [.one (.int .i64 n)] [.agg (au.enc (pD n)),.one (.bool (nS n))]:=by
 refine a3 16 func246 call246 [.cell 2 57,.tmp 3] ?_;intro _
 cases aS:nS n with
 |false=>
  try simp only[go_sem]
  repeat'(refine ae.intro (by apply ZD) ?_<;>simp only[go_sem,aS])
  all_goals simp[pD,MC,aS]
 |true=>
  have hn:=Dg aS
  try simp only[go_sem]
  repeat'(first|(refine ae.intro (by apply ZD) ?_<;>simp only[go_sem,aS])|(with_reducible refine az ?_)|fail)
  all_goals simp[pD,vg,aS,aR]
def pz(s:au):Bool:=e1 s&&decide (s.b0≤1)&&decide (s.br=-1)
def g5(s:au)(d:List UInt8):au:=
 if pz s then {s with av:=vT s.av d,aP:=if 0<nQ s.av d then gT s.aP ⟨s.av.cu,(vT s.av d).cu⟩else s.aP}else s
def xm(s:au)(d:List UInt8):Int:=if pz s then(nQ s.av d:Int)else 0
theorem So(a' bf bg a_:Int)(a7:List Int)(aF aD aI:List J)(bc a9 a8 bh:Int)(d:List UInt8)(hc:aF.length+aD.length+aI.length≤524288)(hr:a7.length≤8388608)(hd:d.length≤1048576):aL 251 [.agg [.int .i64 a',.int .i64 bf,.int .i64 bg,.int .i64 a_,.sl 1 (a7.map aR),.sl 2 (aF.map J.enc),.sl 2 (aD.map J.enc),.sl 2 (aI.map J.enc),.int .i64 bc,.int .i64 a9,.int .i64 a8,.int .i64 bh],.one (.str d)] [.agg (au.enc (g5 (⟨a',⟨bf,bg,a_,a7⟩,aF,aD,aI,bc,a9,a8,bh⟩:au) d)),.one (.int .i64 (xm (⟨a',⟨bf,bg,a_,a7⟩,aF,aD,aI,bc,a9,a8,bh⟩:au) d))]:=by
 refine a3 48 func251 call251 [.cell 4 57,.tmp 5] ?_;intro _
 cases hW:pz (⟨a',⟨bf,bg,a_,a7⟩,aF,aD,aI,bc,a9,a8,bh⟩:au)with
 |false=>
  try simp only[go_sem]
  repeat'((first|refine ae.intro (by first|(apply q0<;>exact a6)|(apply mn<;>exact a6)) ?_|refine bw ?_)<;>simp only[go_sem,I])
  refine bP (fun h0=>?_) (fun h0=>?_)
  ·simp only[go_sem,I];simp[g5,xm,hW]
  ·exfalso;simp[pz]at hW h0;grind
 |true=>
  have hw:=hW;simp only[pz,bW,b8,fJ]at hw;have ag:=bm (p:=1<a') ω;have ar:=bm (p:=bc≠-1) ω
  try simp only[go_sem]
  repeat'(first|((first|refine ae.intro (by first|(apply q0<;>exact a6)|(apply mn<;>exact a6)|(apply akj<;>exact a6)|(apply vS<;>exact a6)) ?_|with_reducible refine cN ?_|refine bP (fun h=>?_) (fun h=>?_))<;>simp only[go_sem,I,hw.1,ag,ar])|(with_reducible refine az ?_)|fail)
  ·have h':0<nQ (⟨a',⟨bf,bg,a_,a7⟩,aF,aD,aI,bc,a9,a8,bh⟩:au).av d:=by have:=cQ h;simp only;omega
   simp only[g5,xm,hW,if_true,if_pos h']
   try simp[outOA,gW]
  ·have h':¬0<nQ (⟨a',⟨bf,bg,a_,a7⟩,aF,aD,aI,bc,a9,a8,bh⟩:au).av d:=by have:=c2 h;simp only;omega
   simp only[g5,xm,hW,if_true,if_neg h']
   try simp[outOA,gW]
def wg(s:au):au:=if pz s then {s with br:=s.av.cu,aW:=1}else s
theorem Sf(a' bf bg a_:Int)(a7:List Int)(aF aD aI:List J)(bc a9 a8 bh:Int)(hc:aF.length+aD.length+aI.length≤524288)(hr:a7.length≤8388608):aL 252 [.agg [.int .i64 a',.int .i64 bf,.int .i64 bg,.int .i64 a_,.sl 1 (a7.map aR),.sl 2 (aF.map J.enc),.sl 2 (aD.map J.enc),.sl 2 (aI.map J.enc),.int .i64 bc,.int .i64 a9,.int .i64 a8,.int .i64 bh]] [.agg (au.enc (wg (⟨a',⟨bf,bg,a_,a7⟩,aF,aD,aI,bc,a9,a8,bh⟩:au))),.one (.bool (pz (⟨a',⟨bf,bg,a_,a7⟩,aF,aD,aI,bc,a9,a8,bh⟩:au)))]:=by
 refine a3 27 func252 call252 [.cell 2 57,.tmp 3] ?_;intro _
 cases hW:pz (⟨a',⟨bf,bg,a_,a7⟩,aF,aD,aI,bc,a9,a8,bh⟩:au)with
 |false=>
  try simp only[go_sem]
  repeat'((first|refine ae.intro (by first|(apply q0<;>exact a6)|(apply mn<;>exact a6)) ?_|refine bw ?_)<;>simp only[go_sem,I])
  refine bP (fun h0=>?_) (fun h0=>?_)
  ·simp only[go_sem,I];simp[wg,hW]
  ·exfalso;simp[pz]at hW h0;grind
 |true=>
  have hw:=hW;simp only[pz,bW,b8,fJ]at hw;have ag:=bm (p:=1<a') ω;have ar:=bm (p:=bc≠-1) ω
  try simp only[go_sem]
  repeat'(first|((first|refine ae.intro (by first|(apply q0<;>exact a6)|(apply mn<;>exact a6)) ?_|with_reducible refine cN ?_)<;>simp only[go_sem,I,hw.1,ag,ar])|(with_reducible refine az ?_)|fail)
  all_goals simp[wg,hW]
def oZ(s:au)(c:Int):Bool:=e1 s&&decide (s.b0≤2)&&bQ c
def iz(s:au)(c:Int):au:=if oZ s c then⟨4,⟨s.av.size,s.cw,s.cw,List.replicate s.av.size.toNat 0⟩,[],[],[],s.cw,0,s.cw,c⟩else s
theorem Qb{s:au}(h:e1 s=true):kr s.av=true:=by
 simp only[e1,j',bW,fJ]at h;exact h.1
theorem Mv(a' bf bg a_:Int)(a7:List Int)(aF aD aI:List J)(bc a9 a8 bh c:Int)(hc:aF.length+aD.length+aI.length≤524288)(hr:a7.length≤8388608):aL 256 [.agg [.int .i64 a',.int .i64 bf,.int .i64 bg,.int .i64 a_,.sl 1 (a7.map aR),.sl 2 (aF.map J.enc),.sl 2 (aD.map J.enc),.sl 2 (aI.map J.enc),.int .i64 bc,.int .i64 a9,.int .i64 a8,.int .i64 bh],.one (.int .i64 c)] [.agg (au.enc (iz (⟨a',⟨bf,bg,a_,a7⟩,aF,aD,aI,bc,a9,a8,bh⟩:au) c)),.one (.bool (oZ (⟨a',⟨bf,bg,a_,a7⟩,aF,aD,aI,bc,a9,a8,bh⟩:au) c))]:=by
 refine a3 41 func256 call256 [.cell 4 57,.tmp 5] ?_;intro _
 cases hW:oZ (⟨a',⟨bf,bg,a_,a7⟩,aF,aD,aI,bc,a9,a8,bh⟩:au) c with
 |false=>
  try simp only[go_sem]
  repeat'((first|refine ae.intro (by(apply mn<;>exact a6)) ?_|refine ay.intro (by apply jF) ?_|refine bw ?_)<;>simp only[go_sem])
  refine bP (fun h0=>?_) (fun h0=>?_)
  ·simp only[go_sem]
   try simp only[go_sem,I]
   repeat'(first|(refine ae.intro (by(apply q0<;>exact a6)) ?_<;>simp only[go_sem,I])|(with_reducible refine az ?_)|fail)
   all_goals simp[iz,hW]
  ·exfalso;simp[oZ]at hW h0;grind
 |true=>
  have hw:=hW;simp only[oZ,bW,b8,fJ]at hw;have hg:=qz (Qb hw.1);simp only at hg;have ag:=bm (p:=2<a') ω
  try simp only[go_sem]
  repeat'(first|((first|refine ae.intro (by first|(apply mn<;>exact a6)|apply jF) ?_|with_reducible refine cN ?_|refine bo aab χ ψ ?_)<;>simp only[go_sem,hw.1,ag,hw.2.2])|(with_reducible refine az ?_)|fail)
  all_goals simp[iz,hW,aR]
def CA(s:au):Bool:=e1 s&&decide (s.b0=4)
def En(s:au):au:=if CA s then {s with b0:=5}else s
theorem akf(a' bf bg a_:Int)(a7:List Int)(aF aD aI:List J)(bc a9 a8 bh:Int)(hc:aF.length+aD.length+aI.length≤524288)(hr:a7.length≤8388608):aL 296 [.agg [.int .i64 a',.int .i64 bf,.int .i64 bg,.int .i64 a_,.sl 1 (a7.map aR),.sl 2 (aF.map J.enc),.sl 2 (aD.map J.enc),.sl 2 (aI.map J.enc),.int .i64 bc,.int .i64 a9,.int .i64 a8,.int .i64 bh]] [.agg (au.enc (En (⟨a',⟨bf,bg,a_,a7⟩,aF,aD,aI,bc,a9,a8,bh⟩:au))),.one (.bool (CA (⟨a',⟨bf,bg,a_,a7⟩,aF,aD,aI,bc,a9,a8,bh⟩:au)))]:=by
 refine a3 18 func296 call296 [.cell 2 57,.tmp 3] ?_;intro _
 try simp only[go_sem]
 repeat'(first|((first|refine ae.intro (by first|(apply q0<;>exact a6)|(apply mn<;>exact a6)) ?_|refine bw ?_|refine bP (fun h=>?_) (fun h=>?_))<;>simp only[go_sem,I])|(with_reducible refine az ?_)|fail)
 all_goals(cases hc2:CA (⟨a',⟨bf,bg,a_,a7⟩,aF,aD,aI,bc,a9,a8,bh⟩:au)<;>first|(simp[En,hc2];done)|(exfalso;simp[CA]at *;grind))
def mf:bL:=⟨0,[],false⟩
def nW(s:au):Bool:=e1 s&&decide (s.b0≤2)
def hX(r:J)(ck aZ:Int):Int:=if ck<i64.wrap (cj r.high aZ-r.low)then i64.wrap (r.low+dp ck 0)else cj r.high aZ
def gH(s:au)(ck aZ:Int):Bool:=
 nW s&&(match s.aP[0]? with|some r=>decide (r.low<cj r.high aZ)&&decide (r.low<hX r ck aZ)|none=>decide (s.aW=1))
def eM(s:au)(ck aZ:Int):bL:=
 if gH s ck aZ then(match s.aP[0]? with|some r=>⟨r.low,qB s.av r.low (i64.wrap (hX r ck aZ-r.low)),decide (s.aW=1)&&decide (hX r ck aZ=s.br)⟩|none=>⟨s.br,[],true⟩)else mf
def vA(s:au)(m l:Int):List AD:=[.agg [.int .i64 (eM s m l).aH,.str (eM s m l).data,.bool (eM s m l).aW],.one (.bool (gH s m l))]
theorem CE{s:au}{m l:Int}(h:gH s m l=false):vA s m l=[.agg [.int .i64 0,.str [],.bool false],.one (.bool false)]:=by
 unfold vA eM;rw[h];simp[mf]
theorem Ye{s:au}{m l:Int}(bH:nW s=true)(hp:s.aP=[])(hf:s.aW=1):vA s m l=[.agg [.int .i64 s.br,.str [],.bool true],.one (.bool true)]:=by
 have h:gH s m l=true:=by simp[gH,bH,hp,hf]
 unfold vA eM;rw[h,hp];simp
theorem Qg{s:au}{m l:Int}{r:J}(bH:nW s=true)(hp:s.aP[0]?=some r)(h1:r.low<cj r.high l)(h2:r.low<hX r m l) :
  vA s m l=[.agg [.int .i64 r.low,.str (qB s.av r.low (i64.wrap (hX r m l-r.low))),.bool (decide (s.aW=1)&&decide (hX r m l=s.br))],.one (.bool true)]:=by
 have h:gH s m l=true:=by simp[gH,bH,hp,h1,h2]
 unfold vA eM;rw[h,hp];simp
theorem NH(a' bf bg a_:Int)(a7:List Int)(aF aD aI:List J)(bc a9 a8 bh m l:Int)(hc:aF.length+aD.length+aI.length≤524288):aL 69 [.agg [.int .i64 a',.int .i64 bf,.int .i64 bg,.int .i64 a_,.sl 1 (a7.map aR),.sl 2 (aF.map J.enc),.sl 2 (aD.map J.enc),.sl 2 (aI.map J.enc),.int .i64 bc,.int .i64 a9,.int .i64 a8,.int .i64 bh],.one (.int .i64 m),.one (.int .i64 l)] [.agg [.int .i64 (eM (⟨a',⟨bf,bg,a_,a7⟩,aF,aD,aI,bc,a9,a8,bh⟩:au) m l).aH,.str (eM (⟨a',⟨bf,bg,a_,a7⟩,aF,aD,aI,bc,a9,a8,bh⟩:au) m l).data,.bool (eM (⟨a',⟨bf,bg,a_,a7⟩,aF,aD,aI,bc,a9,a8,bh⟩:au) m l).aW],.one (.bool (gH (⟨a',⟨bf,bg,a_,a7⟩,aF,aD,aI,bc,a9,a8,bh⟩:au) m l))]:=by
 refine a3 90 func69 call69 [.cell 6 70,.tmp 7] ?_;intro _
 show codeE _ _ _ _ (b3 (g8 _ _ (vA (⟨a',⟨bf,bg,a_,a7⟩,aF,aD,aI,bc,a9,a8,bh⟩:au) m l)) .mk) [] (b3 (g8 _ _ (vA (⟨a',⟨bf,bg,a_,a7⟩,aF,aD,aI,bc,a9,a8,bh⟩:au) m l)) .mk)
 cases bH:nW (⟨a',⟨bf,bg,a_,a7⟩,aF,aD,aI,bc,a9,a8,bh⟩:au)with
 |false=>
  rw[CE (by simp[gH,bH])]
  try simp only[go_sem]
  repeat'((first|refine ae.intro (by(apply mn<;>exact a6)) ?_|refine bw ?_)<;>simp only[go_sem])
  refine bP (fun h0=>?_) (fun h0=>?_)
  ·simp only[go_sem]
  ·exfalso;simp[nW]at bH h0;grind
 |true=>
  have hw:=bH;simp only[nW,bW,b8]at hw;have ag:=bm (p:=2<a') ω;by_cases hp:aF=[]
  ·have ar:=bm (p:=(0:Int)<(aF.length:Int)) (by rw[hp];simp);by_cases hf:a9=1
   ·have ba:=bC (p:=a9=1) hf;rw[Ye bH hp hf]
    try simp only[go_sem]
    repeat'((first|refine ae.intro (by(apply mn<;>exact a6)) ?_|with_reducible refine cN ?_)<;>simp only[go_sem,I,hw.1,ag,ar,ba])
   ·have ba:=bm (p:=a9=1) hf;rw[CE (by simp[gH,hp,hf])]
    try simp only[go_sem]
    repeat'((first|refine ae.intro (by(apply mn<;>exact a6)) ?_|with_reducible refine cN ?_)<;>simp only[go_sem,I,hw.1,ag,ar,ba])
  ·have fK:0<aF.length:=List.length_pos_iff.2 hp;have ar:=bC (p:=(0:Int)<(aF.length:Int)) ω;have iL:=cq J.enc aF 0 fK;have hr:aF[0]?=some aF[0]:=cD fK;generalize aF[0]=r at iL hr;by_cases ep:r.low<cj r.high l
   ·have ba:=bm (p:=(if l<r.high then l else r.high)≤r.low) (by unfold cj at ep;omega);by_cases eE:r.low<hX r m l
    ·rw[Qg bH hr ep eE]
     cases bF:decide (m<i64.wrap ((if l<r.high then l else r.high)-r.low))with
     |true=>
      have hn:hX r m l=i64.wrap (r.low+if 0>m then 0 else m):=by unfold hX cj dp;rw[if_pos (cQ bF)]
      rw[hn]at eE⊢;have c6:=bm (p:=i64.wrap (r.low+if 0>m then 0 else m)≤r.low) ω
      try simp only[go_sem]
      repeat'(first|((first|refine ae.intro (by first|(apply mn<;>exact a6)|apply PO) ?_|with_reducible refine cN ?_|refine bw ?_)<;>simp only[go_sem,I,hw.1,ag,ar,iL,J.enc,el,ba,bF,c6])|(with_reducible refine az ?_)|fail)
      all_goals first|omega|(simp only[di])
     |false=>
      have hn:hX r m l=(if l<r.high then l else r.high):=by unfold hX cj;rw[if_neg (c2 bF)]
      rw[hn]at eE⊢
      try simp only[go_sem]
      repeat'(first|((first|refine ae.intro (by first|(apply mn<;>exact a6)|apply PO) ?_|with_reducible refine cN ?_|refine bw ?_)<;>simp only[go_sem,I,hw.1,ag,ar,iL,J.enc,el,ba,bF])|(with_reducible refine az ?_)|fail)
      all_goals first|omega|(simp only[di])
    ·rw[CE (by simp[gH,bH,hr,eE])];have bF:decide (m<i64.wrap ((if l<r.high then l else r.high)-r.low))=true:=by
      refine bC (Classical.byContradiction fun g=>eE ?_);unfold hX cj;rw[if_neg g];exact ep
     have hn:hX r m l=i64.wrap (r.low+if 0>m then 0 else m):=by unfold hX cj dp;rw[if_pos (cQ bF)]
     rw[hn]at eE;have c6:=bC (p:=i64.wrap (r.low+if 0>m then 0 else m)≤r.low) ω
     try simp only[go_sem]
     repeat'((first|refine ae.intro (by(apply mn<;>exact a6)) ?_|with_reducible refine cN ?_)<;>simp only[go_sem,I,hw.1,ag,ar,iL,J.enc,el,ba,bF,c6])
     all_goals omega
   ·have ba:=bC (p:=(if l<r.high then l else r.high)≤r.low) (by unfold cj at ep;omega);rw[CE (by simp[gH,bH,hr,ep])]
    try simp only[go_sem]
    repeat'((first|refine ae.intro (by(apply mn<;>exact a6)) ?_|with_reducible refine cN ?_)<;>simp only[go_sem,I,hw.1,ag,ar,iL,J.enc,el,ba])
    all_goals omega
def eN(p:bL):J:=⟨p.aH,i64.wrap (p.aH+(p.data.length:Int))⟩
theorem Ig(b_:Int)(bZ:List UInt8)(cb:Bool):aL 154 [.agg [.int .i64 b_,.str bZ,.bool cb]] [.agg [.int .i64 (eN (⟨b_,bZ,cb⟩:bL)).low,.int .i64 (eN (⟨b_,bZ,cb⟩:bL)).high]]:=by
 refine a3 12 func154 call154 [.cell 2 175] ?_;intro _
 try simp only[go_sem]
 all_goals simp[eN]
def nd(s:au)(p:bL):Bool:=decide (0≤p.aH)&&decide (p.aH≤s.av.cu)&&decide ((p.data.length:Int)≤i64.wrap (s.av.cu-p.aH))&&(!p.aW||(decide (s.br≠-1)&&decide (i64.wrap (p.aH+(p.data.length:Int))=s.br)))
theorem EM(a' bf bg a_:Int)(a7:List Int)(aF aD aI:List J)(bc a9 a8 bh b_:Int)(bZ:List UInt8)(cb:Bool):aL 153 [.agg [.int .i64 a',.int .i64 bf,.int .i64 bg,.int .i64 a_,.sl 1 (a7.map aR),.sl 2 (aF.map J.enc),.sl 2 (aD.map J.enc),.sl 2 (aI.map J.enc),.int .i64 bc,.int .i64 a9,.int .i64 a8,.int .i64 bh],.agg [.int .i64 b_,.str bZ,.bool cb]] [.one (.bool (nd (⟨a',⟨bf,bg,a_,a7⟩,aF,aD,aI,bc,a9,a8,bh⟩:au) (⟨b_,bZ,cb⟩:bL)))]:=by
 refine a3 49 func153 call153 [.tmp 4] ?_;intro _
 try simp only[go_sem]
 repeat'(refine bw ?_<;>simp only[go_sem])
 all_goals(refine gd ?_;simp[nd,fJ])
theorem ZT{r x y:J}(hr:dj r=true)(hx:dj x=true)(hy:y∈ir r x):dj y=true∧x.low≤y.low∧y.high≤x.high:=by
 have h1:=(gI _).1 hr;have h2:=(gI _).1 hx;unfold ir at hy;rcases fi.1 hy with hy|hy
 ·split at hy
  ·rename_i c;rw[List.mem_singleton.1 hy,gI];simp only[cj]at c⊢;refine⟨⟨by omega,c,?_⟩,by omega,?_⟩<;>split<;>omega
  ·cases hy
 ·split at hy
  ·rename_i c;rw[List.mem_singleton.1 hy,gI];simp only[dp]at c⊢;refine⟨⟨?_,c,by omega⟩,?_,by omega⟩<;>split<;>omega
  ·cases hy
theorem aks{r x:J}(hr:dj r=true):(ir r x).Pairwise (fun a b=>a.high<b.low):=by
 have h1:=(gI _).1 hr;unfold ir;split<;>split<;>simp[cj,dp]<;>(repeat' split)<;>omega
theorem ZU{r:J}(hr:dj r=true):∀(xs:List J),(∀x∈xs,dj x=true)→xs.Pairwise (fun a b=>a.high<b.low)→
  (∀y∈xs.flatMap (ir r),dj y=true∧∃x∈xs,x.low≤y.low∧y.high≤x.high)∧(xs.flatMap (ir r)).Pairwise (fun a b=>a.high<b.low)
 |[],_,_=>by simp
 |x::xs,h1,h2=>by
  have g7:=List.pairwise_cons.1 h2;obtain⟨cn,cG⟩:=ZU hr xs (fun y hy=>h1 y (by simp[hy])) g7.2;rw[List.flatMap_cons];refine⟨fun y hy=>?_,List.pairwise_append.2 ⟨aks hr,cG,fun a ha b hb=>?_⟩⟩
  ·rcases fi.1 hy with hy|hy
   ·have:=ZT hr (h1 x ξ) hy;exact⟨this.1,x,by simp,this.2⟩
   ·obtain⟨bD,z,hz,bX⟩:=cn y hy;exact⟨bD,z,by simp[hz],bX⟩
  ·have bD:=ZT hr (h1 x ξ) ha;obtain⟨_,z,hz,bX⟩:=cn b hb;have:=g7.1 z hz;omega
theorem ZV{r x:J}(h:¬(x.low<r.low∧r.high<x.high)):(ir r x).length≤1:=by
 unfold ir;split<;>split<;>simp;rename_i ep eE;simp only[cj,dp]at ep eE;split at ep<;>split at eE<;>omega
theorem ZW{r:J}:∀(xs:List J),(∀x∈xs,r.low≤x.low)→(xs.flatMap (ir r)).length≤xs.length
 |[],_=>by simp
 |x::xs,h=>by
  have:=ZW xs (fun y hy=>h y (by simp[hy]));have:=ZV (r:=r) (x:=x) (fun g=>by have:=h x ξ;omega);rw[List.flatMap_cons,dY,dA];omega
theorem ZX{r:J}(hr:dj r=true):∀(xs:List J),xs.Pairwise (fun a b=>a.high<b.low)→(xs.flatMap (ir r)).length≤xs.length+1
 |[],_=>by simp
 |x::xs,h=>by
  have h':=List.pairwise_cons.1 h;have kj:=(gI _).1 hr;rw[List.flatMap_cons,dY,dA];by_cases c:x.low<r.low∧r.high<x.high
  ·have:=ZW (r:=r) xs (fun y hy=>by have:=h'.1 y hy;omega);have:=Q4 r x;omega
  ·have:=ZX hr xs h'.2;have:=ZV c;omega
theorem W4{xs:List J}{r:J}(h:cY xs=true):cY (mh xs r)=true∧(mh xs r).length≤xs.length+1∧∀y∈mh xs r,∃x∈xs,x.low≤y.low∧y.high≤x.high:=by
 unfold mh;split
 ·rename_i g;have hr:dj r=true:=by revert g;rw[h];simp
  have hs:=(h_ xs).1 h;obtain⟨cn,cG⟩:=ZU hr xs hs.1 hs.2;exact⟨(h_ _).2 ⟨fun y hy=>(cn y hy).1,cG⟩,ZX hr xs hs.2,fun y hy=>(cn y hy).2⟩
 ·exact⟨h,by omega,fun y hy=>⟨y,hy,by omega,by omega⟩⟩
theorem akt{x y z:J}(hx:dj x=true)(hy:dj y=true)(hz:z∈f1 x y):dj z=true∧x.low≤z.low∧z.high≤x.high:=by
 have h1:=(gI _).1 hx;have h2:=(gI _).1 hy;unfold f1 at hz;split at hz
 ·rename_i c;rw[List.mem_singleton.1 hz,gI];simp only[cj,dp]at c⊢;refine⟨⟨?_,c,?_⟩,?_,?_⟩<;>split<;>omega
 ·cases hz
theorem Pu(xs:List J)(r:J):(iE xs [r]).length≤xs.length∧∀z∈iE xs [r],dj z=true∧∃x∈xs,x.low≤z.low∧z.high≤x.high:=by
 unfold iE;split
 ·rename_i g;simp only[bW]at g;have hs:=(h_ xs).1 g.1;have hr:=((h_ [r]).1 g.2).1 r ξ;have e:(xs.flatMap fun x=>[r].flatMap (f1 x))=xs.flatMap fun x=>f1 x r:=by
   congr 1;funext x;simp
  rw[e];refine⟨by have:=yu (fun x=>f1 x r) 1 (fun x=>H3 x r) xs;omega,fun z hz=>?_⟩;obtain⟨x,hx,hz⟩:=List.mem_flatMap.1 hz;have:=akt (hs.1 x hx) hr hz;exact⟨this.1,x,hx,this.2⟩
 ·exact⟨by simp,fun z hz=>by cases hz⟩
def LM:List (List bR):=cS 10 [59048,59046,59040,59022,56781,56619,56133,57915,52488,39366]
attribute [go_sem] LM
def rj(s:au)(p:bL):Bool:=e1 s&&decide (s.b0≤2)&&nd s p&&!(decide (p.data=[])&&!p.aW)&&!(p.aW&&decide (s.aW≠1))
def h8(s:au)(p:bL):Bool:=rj s p&&(decide (p.data=[])||decide (iE s.aP [eN p]=[eN p]))
def jQ(s:au)(p:bL):au:=if p.data=[]then s else {s with aP:=mh s.aP (eN p),aM:=gT s.aM (eN p),cw:=dp s.cw (eN p).high}
def mj(s:au)(p:bL):au:=if p.aW then {s with aW:=2}else s
def lp(s:au):au:={s with b0:=lg s}
def gv(s:au)(p:bL):au:=if h8 s p then lp (mj (jQ s p) p)else s
theorem T_(a' bf bg a_:Int)(a7:List Int)(aF aD aI:List J)(bc a9 a8 bh b_:Int)(bZ:List UInt8)(cb:Bool)(hc:aF.length+aD.length+aI.length≤524288)(hr:a7.length≤8388608)(_:bZ.length≤1048576):aL 73 [.agg [.int .i64 a',.int .i64 bf,.int .i64 bg,.int .i64 a_,.sl 1 (a7.map aR),.sl 2 (aF.map J.enc),.sl 2 (aD.map J.enc),.sl 2 (aI.map J.enc),.int .i64 bc,.int .i64 a9,.int .i64 a8,.int .i64 bh],.agg [.int .i64 b_,.str bZ,.bool cb]] [.agg (au.enc (gv (⟨a',⟨bf,bg,a_,a7⟩,aF,aD,aI,bc,a9,a8,bh⟩:au) (⟨b_,bZ,cb⟩:bL))),.one (.bool (h8 (⟨a',⟨bf,bg,a_,a7⟩,aF,aD,aI,bc,a9,a8,bh⟩:au) (⟨b_,bZ,cb⟩:bL)))]:=by
 refine a3 89 func73 call73 [.cell 4 57,.tmp 5] ?_;intro _;have ai:(bif bif bif bif !e1 (⟨a',⟨bf,bg,a_,a7⟩,aF,aD,aI,bc,a9,a8,bh⟩:au)then true else decide (2<a')then true else !nd (⟨a',⟨bf,bg,a_,a7⟩,aF,aD,aI,bc,a9,a8,bh⟩:au) (⟨b_,bZ,cb⟩:bL)then true else bif decide (bZ=[])then !cb else false then true else bif cb then decide (a9≠1)else false)=!rj (⟨a',⟨bf,bg,a_,a7⟩,aF,aD,aI,bc,a9,a8,bh⟩:au) (⟨b_,bZ,cb⟩:bL):=by
  have e:decide (2<a')=!decide (a'≤2):=by by_cases h:a'≤2<;>simp[h]<;>omega
  simp only[rj,e]
  cases e1 (⟨a',⟨bf,bg,a_,a7⟩,aF,aD,aI,bc,a9,a8,bh⟩:au)<;>cases decide (a'≤2)<;>cases nd (⟨a',⟨bf,bg,a_,a7⟩,aF,aD,aI,bc,a9,a8,bh⟩:au) (⟨b_,bZ,cb⟩:bL)<;>cases decide (bZ=[])<;>cases cb<;>cases decide (a9≠1)<;>rfl
 cases b7:rj (⟨a',⟨bf,bg,a_,a7⟩,aF,aD,aI,bc,a9,a8,bh⟩:au) (⟨b_,bZ,cb⟩:bL)with
 |false=>
  have c3:h8 (⟨a',⟨bf,bg,a_,a7⟩,aF,aD,aI,bc,a9,a8,bh⟩:au) (⟨b_,bZ,cb⟩:bL)=false:=by simp[h8,b7]
  rw[b7]at ai
  try simp only[go_sem]
  repeat'((first|refine ae.intro (by first|(apply q0<;>exact a6)|(apply mn<;>exact a6)) ?_|refine ay.intro (by apply EM) ?_|refine bw ?_)<;>simp only[go_sem,I])
  rw[ai];simp only[go_sem,cR,I];simp[gv,c3]
 |true=>
  have hw:=b7;simp only[rj,bW,b8,fJ]at hw;obtain⟨Da,lQ,LN,LO,LP⟩:=hw;rw[b7]at ai;have vV:=Q6 aF [eN (⟨b_,bZ,cb⟩:bL)] ω ξ;have h5:=Q5 aF (eN (⟨b_,bZ,cb⟩:bL)).low (eN (⟨b_,bZ,cb⟩:bL)).high ω;have w9:=vS aD (eN (⟨b_,bZ,cb⟩:bL)).low (eN (⟨b_,bZ,cb⟩:bL)).high ω
  try simp only[go_sem]
  repeat'((first|refine ae.intro (by first|assumption|(apply q0<;>exact a6)|(apply mn<;>exact a6)) ?_|refine ay.intro (by first|assumption|apply EM) ?_|refine bw ?_)<;>simp only[go_sem,I])
  rw[ai];simp only[go_sem,bN];by_cases lN:bZ=[]
  ·have ba:=bm (p:=bZ≠[]) (fun h=>h lN);have c3:h8 (⟨a',⟨bf,bg,a_,a7⟩,aF,aD,aI,bc,a9,a8,bh⟩:au) (⟨b_,bZ,cb⟩:bL)=true:=by unfold h8;rw[b7];simp only[lN,eJ,Bool.true_or,Bool.and_self]
   have a1:gv (⟨a',⟨bf,bg,a_,a7⟩,aF,aD,aI,bc,a9,a8,bh⟩:au) (⟨b_,bZ,cb⟩:bL)=lp (mj (jQ (⟨a',⟨bf,bg,a_,a7⟩,aF,aD,aI,bc,a9,a8,bh⟩:au) (⟨b_,bZ,cb⟩:bL)) (⟨b_,bZ,cb⟩:bL)):=by unfold gv;rw[c3];rfl
   have b5:jQ (⟨a',⟨bf,bg,a_,a7⟩,aF,aD,aI,bc,a9,a8,bh⟩:au) (⟨b_,bZ,cb⟩:bL)=(⟨a',⟨bf,bg,a_,a7⟩,aF,aD,aI,bc,a9,a8,bh⟩:au):=by unfold jQ;exact if_pos lN
   rw[b5]at a1;clear ai b7 Da LN LO LP vV h5 w9
   try simp only[go_sem,ba]
   repeat'(first|((first|refine ae.intro (by apply CW) ?_|refine bP (fun h=>?_) (fun h=>?_))<;>simp only[go_sem,I])|(with_reducible refine az ?_)|fail)
   all_goals(rw[a1,c3];subst h;simp only[lp,mj,if_true,Bool.false_eq_true,if_false];try simp[outOA])
  ·have ba:=bC (p:=bZ≠[]) lN;by_cases n5:iE aF [eN (⟨b_,bZ,cb⟩:bL)]=[eN (⟨b_,bZ,cb⟩:bL)]
   ·have c3:h8 (⟨a',⟨bf,bg,a_,a7⟩,aF,aD,aI,bc,a9,a8,bh⟩:au) (⟨b_,bZ,cb⟩:bL)=true:=by unfold h8;rw[b7];simp only[n5,eJ,Bool.or_true,Bool.and_self]
    have a1:gv (⟨a',⟨bf,bg,a_,a7⟩,aF,aD,aI,bc,a9,a8,bh⟩:au) (⟨b_,bZ,cb⟩:bL)=lp (mj (jQ (⟨a',⟨bf,bg,a_,a7⟩,aF,aD,aI,bc,a9,a8,bh⟩:au) (⟨b_,bZ,cb⟩:bL)) (⟨b_,bZ,cb⟩:bL)):=by unfold gv;rw[c3];rfl
    have b5:jQ (⟨a',⟨bf,bg,a_,a7⟩,aF,aD,aI,bc,a9,a8,bh⟩:au) (⟨b_,bZ,cb⟩:bL)={(⟨a',⟨bf,bg,a_,a7⟩,aF,aD,aI,bc,a9,a8,bh⟩:au)with aP:=mh aF (eN (⟨b_,bZ,cb⟩:bL)),aM:=gT aD (eN (⟨b_,bZ,cb⟩:bL)),cw:=dp a8 (eN (⟨b_,bZ,cb⟩:bL)).high}:=by unfold jQ;exact if_neg lN
    rw[b5]at a1;rw[n5]at vV;clear ai b7 Da LN LO LP;have bF:decide (((1:Nat):Int)≠1)=false:=by decide
    try simp only[go_sem,ba,dA,eI]
    repeat'(first|((first|refine ae.intro (by first|assumption|apply Ig|apply CW) ?_|refine ay.intro ‹_› ?_|with_reducible refine nt ?_|refine bo LM χ ψ ?_|refine bP (fun h=>?_) (fun h=>?_))<;>simp only[go_sem,I,bF,J.enc,eT,List.map_nil,dA,eI,el])|(with_reducible refine az ?_)|fail)
    all_goals(rw[a1,c3];subst h;simp only[lp,mj,if_true,Bool.false_eq_true,if_false,dp];try rfl;try simp[outOA])
   ·have c3:h8 (⟨a',⟨bf,bg,a_,a7⟩,aF,aD,aI,bc,a9,a8,bh⟩:au) (⟨b_,bZ,cb⟩:bL)=false:=by unfold h8;rw[b7];simp only[bm lN,bm n5,Bool.or_self,Bool.and_false]
    have a1:gv (⟨a',⟨bf,bg,a_,a7⟩,aF,aD,aI,bc,a9,a8,bh⟩:au) (⟨b_,bZ,cb⟩:bL)=(⟨a',⟨bf,bg,a_,a7⟩,aF,aD,aI,bc,a9,a8,bh⟩:au):=by unfold gv;rw[c3];rfl
    by_cases hl:(iE aF [eN (⟨b_,bZ,cb⟩:bL)]).length=1
    ·obtain⟨y,hy⟩:=List.length_eq_one_iff.1 hl;have bF:decide (((1:Nat):Int)≠1)=false:=by decide
     rw[hy]at vV n5;have hne:¬(y.low=(eN (⟨b_,bZ,cb⟩:bL)).low∧y.high=(eN (⟨b_,bZ,cb⟩:bL)).high):=fun g=>n5 (by rw[show y=eN (⟨b_,bZ,cb⟩:bL)from by cases y;cases g;simp_all]);have c6:(decide (y.low=(eN (⟨b_,bZ,cb⟩:bL)).low)&&decide (y.high=(eN (⟨b_,bZ,cb⟩:bL)).high))=false:=by
      rw[Bool.and_eq_false_iff,eG,eG];exact Classical.not_and_iff_not_or_not.1 hne
     clear ai b7 Da LN LO LP
     try simp only[go_sem,ba,dA,eI]
     repeat'(first|((first|refine ae.intro (by first|assumption|apply Ig) ?_|refine ay.intro ‹_› ?_|with_reducible refine nt ?_|refine bo LM χ ψ ?_)<;>simp only[go_sem,I,bF,c6,J.enc,eT,List.map_nil,dA,eI,el,cR])|(with_reducible refine az ?_)|fail)
     all_goals(rw[a1,c3];try simp[outOA,gW])
    ·have bF:=bC (p:=((iE aF [eN (⟨b_,bZ,cb⟩:bL)]).length:Int)≠1) ω;clear ai b7 Da LN LO LP
     try simp only[go_sem,ba]
     repeat'(first|((first|refine ae.intro (by first|assumption|apply Ig) ?_|refine ay.intro ‹_› ?_|with_reducible refine lR ?_|refine bo LM χ ψ ?_)<;>simp only[go_sem,I,bF])|(with_reducible refine az ?_)|fail)
     all_goals(rw[a1,c3];try simp[outOA,gW])
def Rq:List (List bR):=cS 12 [511640,511638,511753,511735,511681,511515,511029,503010,448335,521599,478953,354294]
def Rr:List (List bR):=cS 7 [2069,2067,2182,2164,2110,1944,1458]
def Rs:List (List bR):=cS 9 [19322,19320,19651,19669,19606,19444,18954,17496,13122]
attribute [go_sem] Rq Rr Rs
def Bk(s:au)(p:bL):Bool:=e1 s&&decide (s.b0≤2)&&nd s p
def mi(kJ c:List J):List J:=c.foldl mh kJ
theorem aac(kJ c:List J)(i:Nat)(h:i<c.length):mi kJ (c.take (i+1))=mh (mi kJ (c.take i)) c[i]:=yt mh kJ c i h
theorem Kx:∀(c kJ:List J),cY kJ=true→cY (mi kJ c)=true∧(mi kJ c).length≤kJ.length+c.length∧∀y∈mi kJ c,∃x∈kJ,x.low≤y.low∧y.high≤x.high
 |[],kJ,h=>⟨h,by simp[mi],fun y hy=>⟨y,hy,by omega,by omega⟩⟩
 |r::c,kJ,h=>by
  obtain⟨cn,cG,d4⟩:=W4 (r:=r) h;obtain⟨bD,bX,bu⟩:=Kx c (mh kJ r) cn;refine⟨bD,by have e:mi kJ (r::c)=mi (mh kJ r) c:=rfl;rw[e,dA];omega,fun y hy=>?_⟩;obtain⟨x,hx,AG⟩:=bu y hy;obtain⟨z,hz,nF⟩:=d4 x hx;exact⟨z,hz,by omega,by omega⟩
def qA(s:au)(p:bL):au:=if p.data=[]then s else {s with aM:=mi s.aM (iE s.aM [eN p]),a0:=fg s.a0 (iE s.aM [eN p])}
def oN(f:Int)(s:au)(p:bL):au:=if(p.aW&&decide (s.aW=2))=true then {s with aW:=f}else s
def Hm(r:dd)(s:au):au:={s with av:=ya r (rk s.a0 0)}
def lq(s:au)(p:bL):au:=if Bk s p then lp (Hm s.av (oN 3 (qA s p) p))else s
theorem aad(s:au)(p:bL):(bif bif !e1 s then true else decide (2<s.b0)then true else !nd s p)=!Bk s p:=by
 have e:decide (2<s.b0)=!decide (s.b0≤2):=by by_cases h:s.b0≤2<;>simp[h]<;>omega
 simp only[Bk,e]
 cases e1 s<;>cases decide (s.b0≤2)<;>cases nd s p<;>rfl
theorem aae{s:au}(h:e1 s=true):cY s.aP=true∧cY s.aM=true∧cY s.a0=true:=by
 simp only[e1,j',bW,fJ]at h;exact⟨h.2.1,h.2.2.1,h.2.2.2.1⟩
theorem XG(a' bf bg a_:Int)(a7:List Int)(aF aD aI:List J)(bc a9 a8 bh b_:Int)(bZ:List UInt8)(cb:Bool)(hc:aF.length+aD.length+aI.length≤262144)(hr:a7.length≤8388608)(_:bZ.length≤1048576):aL 275 [.agg [.int .i64 a',.int .i64 bf,.int .i64 bg,.int .i64 a_,.sl 1 (a7.map aR),.sl 2 (aF.map J.enc),.sl 2 (aD.map J.enc),.sl 2 (aI.map J.enc),.int .i64 bc,.int .i64 a9,.int .i64 a8,.int .i64 bh],.agg [.int .i64 b_,.str bZ,.bool cb]] [.agg (au.enc (lq (⟨a',⟨bf,bg,a_,a7⟩,aF,aD,aI,bc,a9,a8,bh⟩:au) (⟨b_,bZ,cb⟩:bL)))]:=by
 refine a3 81 func275 call275 [.cell 4 57] ?_;intro _;have ai:=aad (⟨a',⟨bf,bg,a_,a7⟩,aF,aD,aI,bc,a9,a8,bh⟩:au) (⟨b_,bZ,cb⟩:bL)
 cases b7:Bk (⟨a',⟨bf,bg,a_,a7⟩,aF,aD,aI,bc,a9,a8,bh⟩:au) (⟨b_,bZ,cb⟩:bL)with
 |false=>
  rw[b7]at ai
  try simp only[go_sem]
  repeat'((first|refine ae.intro (by first|(apply q0<;>exact a6)|(apply mn<;>exact a6)) ?_|refine ay.intro (by apply EM) ?_|refine bw ?_)<;>simp only[go_sem,I])
  rw[ai];simp only[go_sem,cR,I];simp[lq,b7]
 |true=>
  have hw:=b7;simp only[Bk,bW,b8,fJ]at hw;have Ih:=aae hw.1;simp only at Ih;rw[b7]at ai;have a1:lq (⟨a',⟨bf,bg,a_,a7⟩,aF,aD,aI,bc,a9,a8,bh⟩:au) (⟨b_,bZ,cb⟩:bL)=lp (Hm (⟨a',⟨bf,bg,a_,a7⟩,aF,aD,aI,bc,a9,a8,bh⟩:au).av (oN 3 (qA (⟨a',⟨bf,bg,a_,a7⟩,aF,aD,aI,bc,a9,a8,bh⟩:au) (⟨b_,bZ,cb⟩:bL)) (⟨b_,bZ,cb⟩:bL))):=by unfold lq;rw[b7];rfl
  have vV:=Q6 aD [eN (⟨b_,bZ,cb⟩:bL)] ω ξ;have akQ:=Pu aD (eN (⟨b_,bZ,cb⟩:bL))
  try simp only[go_sem]
  repeat'((first|refine ae.intro (by first|assumption|(apply q0<;>exact a6)|(apply mn<;>exact a6)) ?_|refine ay.intro (by first|assumption|apply EM) ?_|refine bw ?_)<;>simp only[go_sem,I])
  rw[ai];simp only[go_sem,bN];by_cases lN:bZ=[]
  ·have ba:=bm (p:=bZ≠[]) (fun h=>h lN);have b5:qA (⟨a',⟨bf,bg,a_,a7⟩,aF,aD,aI,bc,a9,a8,bh⟩:au) (⟨b_,bZ,cb⟩:bL)=(⟨a',⟨bf,bg,a_,a7⟩,aF,aD,aI,bc,a9,a8,bh⟩:au):=by unfold qA;exact if_pos lN
   rw[b5]at a1;clear ai b7 hw
   try simp only[go_sem,ba]
   repeat'(first|((first|refine ae.intro (by first|assumption|apply CW) ?_|refine ay.intro (by first|assumption|apply zK|(apply ZF<;>exact a6)) ?_|refine bw ?_|refine bo Rq χ ψ ?_|refine bP (fun h=>?_) (fun h=>?_))<;>simp only[go_sem,I])|(with_reducible refine az ?_)|fail)
   all_goals(simp only[di]at h;rw[a1];simp only[lp,Hm,oN,h,if_true,Bool.false_eq_true,if_false];try rfl;try simp[outOA])
  ·have ba:=bC (p:=bZ≠[]) lN;clear ai b7 hw
   try simp only[go_sem,ba]
   repeat'((first|refine ae.intro ‹_› ?_|refine ay.intro (by first|assumption|apply Ig) ?_|refine bo Rr χ ψ ?_)<;>simp only[go_sem,I])
   have b5:qA (⟨a',⟨bf,bg,a_,a7⟩,aF,aD,aI,bc,a9,a8,bh⟩:au) (⟨b_,bZ,cb⟩:bL)={(⟨a',⟨bf,bg,a_,a7⟩,aF,aD,aI,bc,a9,a8,bh⟩:au)with aM:=mi aD (iE aD [eN (⟨b_,bZ,cb⟩:bL)]),a0:=fg aI (iE aD [eN (⟨b_,bZ,cb⟩:bL)])}:=by unfold qA;exact if_neg lN
   rw[b5]at a1;generalize hcc:iE aD [eN (⟨b_,bZ,cb⟩:bL)]=c at *;refine cr.intro (fun i:Nat=>⟨(.al::.al::.ptr 0 0 0::.ptr 1 0 0::.ptr 2 0 0::.ptr 7 0 0::.sl 8 0 c.length::.i i::aA 73 []),[.box [.i a',.i bf,.i bg,.i a_,.d (.sl 1 (a7.map aR)),.d (.sl 2 (aF.map J.enc)),.d (.sl 2 (aD.map J.enc)),.d (.sl 2 (aI.map J.enc)),.i bc,.i a9,.i a8,.i bh],.box [.i b_,.d (.str bZ),.d (.bool cb)],.box au.cc,.ah 1 (a7.map aR) true,.ah 2 (aF.map J.enc) true,.ah 2 ((mi aD (c.take i)).map J.enc) true,.ah 2 ((fg aI (c.take i)).map J.enc) true,.box [.i a',.i bf,.i bg,.i a_,.sl 3 0 a7.length,.sl 4 0 aF.length,.sl 5 0 (mi aD (c.take i)).length,.sl 6 0 (fg aI (c.take i)).length,.i bc,.i a9,.i a8,.i bh],.ah 2 (c.map J.enc) true]⟩)
    (fun i=>c.length-i) (fun i=>i≤c.length) 0 [0,1,2,3,4,5,6,7,9] ω ?_ ?_
   ·simp only[go_sem];simp[mi,fg]
   ·intro i hi;have bB:=(Kx (c.take i) aD Ih.2.1).2.1;have hA:=qQ (c.take i) aI;have cM:(c.take i).length=i:=by simp;omega
    by_cases h1:i<c.length
    ·have ax:=bC (p:=(i:Int)<(c.length:Int)) ω;have aB:=cq J.enc c i h1;have lQ:=dX (i:=i) (m:=524288) ω (by simp[maxLen]);have CM:=aac aD c i h1;have qg:=Bh aI c i h1;generalize akR:mi aD (c.take i)=kJ at *;generalize zU:fg aI (c.take i)=akS at *;have h5:=Q5 kJ c[i].low c[i].high ω
     try simp only[go_sem,ax]
     repeat'(first|((first|refine ae.intro ‹_› ?_|refine ay.intro (by first|assumption|(apply vS<;>exact a6)) ?_|refine bo Rs χ ψ ?_)<;>simp only[go_sem,I,aE,aB,J.enc])|(with_reducible refine az ?_)|fail)
     refine bE.intro (i+1) [0,1,2,3,4,9,10,7,8] ω ω ?_;simp only[go_sem,lQ,CM,qg];simp
    ·have ax:=bm (p:=(i:Int)<(c.length:Int)) ω;obtain rfl:i=c.length:=by omega
     rw[d3]at bB hA
     try simp only[go_sem,ax,d3]
     repeat'(first|((first|refine ae.intro (by first|assumption|apply CW) ?_|refine ay.intro (by first|assumption|apply zK|(apply ZF<;>exact a6)) ?_|refine bw ?_|refine bo Rq χ ψ ?_|refine bP (fun h=>?_) (fun h=>?_))<;>simp only[go_sem,I])|(with_reducible refine az ?_)|fail)
     all_goals(simp only[di]at h;rw[a1];simp only[lp,Hm,oN,h,if_true,Bool.false_eq_true,if_false];try rfl;try simp[outOA])
def Ct(s:au)(p:bL):au:=if p.data=[]then s else {s with aM:=mi s.aM (iE s.aM [eN p]),aP:=fg s.aP (iE s.aM [eN p])}
def kK(s:au)(p:bL):au:=if Bk s p then lp (oN 1 (Ct s p) p)else s
theorem XH(a' bf bg a_:Int)(a7:List Int)(aF aD aI:List J)(bc a9 a8 bh b_:Int)(bZ:List UInt8)(cb:Bool)(hc:aF.length+aD.length+aI.length≤262144)(hr:a7.length≤8388608)(_:bZ.length≤1048576):aL 277 [.agg [.int .i64 a',.int .i64 bf,.int .i64 bg,.int .i64 a_,.sl 1 (a7.map aR),.sl 2 (aF.map J.enc),.sl 2 (aD.map J.enc),.sl 2 (aI.map J.enc),.int .i64 bc,.int .i64 a9,.int .i64 a8,.int .i64 bh],.agg [.int .i64 b_,.str bZ,.bool cb]] [.agg (au.enc (kK (⟨a',⟨bf,bg,a_,a7⟩,aF,aD,aI,bc,a9,a8,bh⟩:au) (⟨b_,bZ,cb⟩:bL)))]:=by
 refine a3 68 func277 call277 [.cell 4 57] ?_;intro _;have ai:=aad (⟨a',⟨bf,bg,a_,a7⟩,aF,aD,aI,bc,a9,a8,bh⟩:au) (⟨b_,bZ,cb⟩:bL)
 cases b7:Bk (⟨a',⟨bf,bg,a_,a7⟩,aF,aD,aI,bc,a9,a8,bh⟩:au) (⟨b_,bZ,cb⟩:bL)with
 |false=>
  rw[b7]at ai
  try simp only[go_sem]
  repeat'((first|refine ae.intro (by first|(apply q0<;>exact a6)|(apply mn<;>exact a6)) ?_|refine ay.intro (by apply EM) ?_|refine bw ?_)<;>simp only[go_sem,I])
  rw[ai];simp only[go_sem,cR,I];simp[kK,b7]
 |true=>
  have hw:=b7;simp only[Bk,bW,b8,fJ]at hw;have Ih:=aae hw.1;simp only at Ih;rw[b7]at ai;have a1:kK (⟨a',⟨bf,bg,a_,a7⟩,aF,aD,aI,bc,a9,a8,bh⟩:au) (⟨b_,bZ,cb⟩:bL)=lp (oN 1 (Ct (⟨a',⟨bf,bg,a_,a7⟩,aF,aD,aI,bc,a9,a8,bh⟩:au) (⟨b_,bZ,cb⟩:bL)) (⟨b_,bZ,cb⟩:bL)):=by unfold kK;rw[b7];rfl
  have vV:=Q6 aD [eN (⟨b_,bZ,cb⟩:bL)] ω ξ;have akQ:=Pu aD (eN (⟨b_,bZ,cb⟩:bL))
  try simp only[go_sem]
  repeat'((first|refine ae.intro (by first|assumption|(apply q0<;>exact a6)|(apply mn<;>exact a6)) ?_|refine ay.intro (by first|assumption|apply EM) ?_|refine bw ?_)<;>simp only[go_sem,I])
  rw[ai];simp only[go_sem,bN];by_cases lN:bZ=[]
  ·have ba:=bm (p:=bZ≠[]) (fun h=>h lN);have b5:Ct (⟨a',⟨bf,bg,a_,a7⟩,aF,aD,aI,bc,a9,a8,bh⟩:au) (⟨b_,bZ,cb⟩:bL)=(⟨a',⟨bf,bg,a_,a7⟩,aF,aD,aI,bc,a9,a8,bh⟩:au):=by unfold Ct;exact if_pos lN
   rw[b5]at a1;clear ai b7 hw
   try simp only[go_sem,ba]
   repeat'(first|((first|refine ae.intro (by first|assumption|apply CW) ?_|refine ay.intro ‹_› ?_|refine bw ?_|refine bP (fun h=>?_) (fun h=>?_))<;>simp only[go_sem,I])|(with_reducible refine az ?_)|fail)
   all_goals(simp only[di]at h;rw[a1];simp only[lp,oN,h,if_true,Bool.false_eq_true,if_false];try rfl;try simp[outOA])
  ·have ba:=bC (p:=bZ≠[]) lN;clear ai b7 hw
   try simp only[go_sem,ba]
   repeat'((first|refine ae.intro ‹_› ?_|refine ay.intro (by first|assumption|apply Ig) ?_|refine bo Rr χ ψ ?_)<;>simp only[go_sem,I])
   have b5:Ct (⟨a',⟨bf,bg,a_,a7⟩,aF,aD,aI,bc,a9,a8,bh⟩:au) (⟨b_,bZ,cb⟩:bL)={(⟨a',⟨bf,bg,a_,a7⟩,aF,aD,aI,bc,a9,a8,bh⟩:au)with aM:=mi aD (iE aD [eN (⟨b_,bZ,cb⟩:bL)]),aP:=fg aF (iE aD [eN (⟨b_,bZ,cb⟩:bL)])}:=by unfold Ct;exact if_neg lN
   rw[b5]at a1;generalize hcc:iE aD [eN (⟨b_,bZ,cb⟩:bL)]=c at *;refine cr.intro (fun i:Nat=>⟨(.al::.al::.ptr 0 0 0::.ptr 1 0 0::.ptr 2 0 0::.ptr 7 0 0::.sl 8 0 c.length::.i i::aA 60 []),[.box [.i a',.i bf,.i bg,.i a_,.d (.sl 1 (a7.map aR)),.d (.sl 2 (aF.map J.enc)),.d (.sl 2 (aD.map J.enc)),.d (.sl 2 (aI.map J.enc)),.i bc,.i a9,.i a8,.i bh],.box [.i b_,.d (.str bZ),.d (.bool cb)],.box au.cc,.ah 1 (a7.map aR) true,.ah 2 ((fg aF (c.take i)).map J.enc) true,.ah 2 ((mi aD (c.take i)).map J.enc) true,.ah 2 (aI.map J.enc) true,.box [.i a',.i bf,.i bg,.i a_,.sl 3 0 a7.length,.sl 4 0 (fg aF (c.take i)).length,.sl 5 0 (mi aD (c.take i)).length,.sl 6 0 aI.length,.i bc,.i a9,.i a8,.i bh],.ah 2 (c.map J.enc) true]⟩)
    (fun i=>c.length-i) (fun i=>i≤c.length) 0 [0,1,2,3,4,5,6,7,9] ω ?_ ?_
   ·simp only[go_sem];simp[mi,fg]
   ·intro i hi;have bB:=(Kx (c.take i) aD Ih.2.1).2.1;have hA:=qQ (c.take i) aF;have cM:(c.take i).length=i:=by simp;omega
    by_cases h1:i<c.length
    ·have ax:=bC (p:=(i:Int)<(c.length:Int)) ω;have aB:=cq J.enc c i h1;have lQ:=dX (i:=i) (m:=524288) ω (by simp[maxLen]);have CM:=aac aD c i h1;have qg:=Bh aF c i h1;generalize akR:mi aD (c.take i)=kJ at *;generalize zU:fg aF (c.take i)=akS at *;have h5:=Q5 kJ c[i].low c[i].high ω
     try simp only[go_sem,ax]
     repeat'(first|((first|refine ae.intro ‹_› ?_|refine ay.intro (by first|assumption|(apply vS<;>exact a6)) ?_|refine bo Rs χ ψ ?_)<;>simp only[go_sem,I,aE,aB,J.enc])|(with_reducible refine az ?_)|fail)
     refine bE.intro (i+1) [0,1,2,3,10,9,6,7,8] ω ω ?_;simp only[go_sem,lQ,CM,qg];simp
    ·have ax:=bm (p:=(i:Int)<(c.length:Int)) ω;obtain rfl:i=c.length:=by omega
     rw[d3]at bB hA
     try simp only[go_sem,ax,d3]
     repeat'(first|((first|refine ae.intro (by first|assumption|apply CW) ?_|refine ay.intro ‹_› ?_|refine bw ?_|refine bP (fun h=>?_) (fun h=>?_))<;>simp only[go_sem,I])|(with_reducible refine az ?_)|fail)
     all_goals(simp only[di]at h;rw[a1];simp only[lp,oN,h,if_true,Bool.false_eq_true,if_false];try rfl;try simp[outOA])
section
variable {P:Program}
def wx(P:Program)(f:FuncId)(args:List AD)(Q:List AD→Prop):Prop:=
 ∀(w:World) (us:List Value) (F:List Nat),GOk w.heap→areps w.heap false args us F→Does P f us.toArray w fun v w'=>
  ∃res,Q res∧∃F',Bel (fun b=>w.heap.size≤b) w w'∧trep w'.heap true res v F'∧F'.Nodup∧∀b∈F',w.heap.size≤b
def HF(P:Program)(rs:List ResultVar)(Q:List AD→Prop)(σ:St):Prop:=∃res,Q res∧g8 P rs res σ
theorem Ds{f:FuncId}{fn:Func}{c:Code}{args:List AD}{Q:List AD→Prop}(hf:P.funcs[f]?=some fn)(hb:fn.body=some c)(hcall:∀(args:Array Value) (w:World),(callFunc f args).run P w=.ok (.enter f args) w)(hm:P.follows .mixedOrders=true)(ts:List V)
  (hn:args.map AD.vM++List.replicate (fn.ntmps-args.length) .al=ts) (rs:List ResultVar) (hr:fn.results.toList=rs) (h0:wG args→codeE P [] c ⟨ts,[]⟩ (b3 (HF P rs Q) .mk) [] (b3 (HF P rs Q) .mk)):wx P f args Q:=by
 intro w us F hg ha;have h:=h0 (Km _ _ _ ha);clear h0;subst hr;subst hn;have fK:us.length=args.length:=(Pc args us F 0 ha).1;have aW:∀(σ:St) (a:Act) (w':World),HF P fn.results.toList Q σ→fS (fun b=>w.heap.size≤b) w [] σ a w'→a.defers=[]∧∃v,(results fn a.tmps).run P w'=.ok v w'∧
   ∃res,Q res∧∃F',Bel (fun b=>w.heap.size≤b) w w'∧trep w'.heap true res v F'∧F'.Nodup∧∀b∈F',w.heap.size≤b:=by
  rintro σ a w' ⟨res,hq,zl⟩ ⟨a4,φ,r,_⟩;obtain⟨v,F',h1,h2,ao,aN⟩:=O' r zl;exact⟨r.oz,v,h1,res,hq,F',r.g0,h2,ao,fun b hb=>(aN b hb).1⟩
 refine Does.enter (hcall _ _) (calls_of_wp hf hb ?_);refine GZ (B:=fun b=>w.heap.size≤b) (w0:=w) (kp:=[]) (kv:=[]) rfl hm c _ (HF P fn.results.toList Q) [] (HF P fn.results.toList Q) _ _ w (fun σ a w' h' ei=>?_) (fun id σ a w' h' _=>h'.elim) (fun σ a w' h' ei=>?_) h ?_
 ·exact aW σ a w' h' ei
 ·exact aW σ a w' h' ei
 ·have:=Pb hg ha (fn.ntmps-args.length) [] ξ;have hs:us.toArray.size=args.length:=by rw[List.size_toArray,fK]
  rw[hs];exact this
theorem wx.inl{f:FuncId}{Ey:List AD}{Q:List AD→Prop}{kv:List V}{hs:List H}{vs:List V}{K:V→List H→Prop}(h:wx P f Ey Q)(ai:toADs hs vs=some Ey)(hk:∀rs,Q rs→K (oI rs hs.length) (hnew hs hs.length (aHs rs))):d6 P f kv hs vs K:=by
 intro B w0 kp us w bJ bj;obtain⟨a4,φ,r,b5⟩:=bj;obtain⟨F,bB⟩:=JO (St.le.refl ⟨vs,hs⟩) r vs Ey us ai (by simpa using r.iA);refine(h w us F r.Oj bB).mono ?_;rintro v w' ⟨res,hq,F',ag,ar,ba,bF⟩;obtain⟨bl,jy,j5⟩:=Oe ar;have lj:∀i,hs.length≤i→i<hs.length+(aHs res).length→¬a4 i:=fun i hi _ hd=>by have:=b5 i hd;simp at this;omega
 obtain⟨dw,hA,fz⟩:=Og (n:=hs.length) r (fun i hi h2=>lj i hi h2) ag ⟨jy.1,jy.2.1,jy.2.2.1⟩ ba bF;refine⟨_,_,hk res hq,_,dw,⟨?_,fz.kp,fz.hp,fz.dZ,fz.gu,fz.gZ,fz.h7,fz.g0,fz.bs,rfl,fz.l4⟩,?_⟩
 ·simp only[VRels];exact⟨v,[],rfl,j5 dw hs.length _ hA,rfl⟩
 ·intro i hi;have h1:=Gb (aHs res) hs hs.length;rcases hi with hi|hi
  ·have:=b5 i hi;simp at this⊢;omega
  ·rcases h1.2 with h2|h2
   ·rw[h2]at hi;simp at hi;omega
   ·simp at hi⊢;omega
theorem ae.qo{kv:List V}{σ:St}{dst:Option Tmp}{K:St→Prop}{f:FuncId}{vs:List V}{AQ:Option (List AD)}{Ey:List AD}{Q:List AD→Prop}(h:wx P f Ey Q)(ai:toADs σ.heap vs=some Ey)
  (hk:∀rs,Q rs→K ⟨fM σ.tmps dst (oI rs σ.heap.length),hnew σ.heap σ.heap.length (aHs rs)⟩):ae P kv σ dst f [] AQ vs K:=
 ae.inl (by rw[gm];exact wx.inl h ai hk)
end
theorem MP:ofVal (.int .u64 33)=.d (.int .u64 33):=rfl
theorem MQ:ofVal (.int .u64 45)=.d (.int .u64 45):=rfl
theorem MR(k:IntKind)(x y:Int):shI .shr k x y=some (0≤y,.d (.int k (x.fdiv (2^min y.toNat k.bits)))):=rfl
theorem Fj(x:Int):0≤bitI .and .i64 x 255∧bitI .and .i64 x 255≤255:=by
 have h:((BitVec.ofInt IntKind.i64.bits x &&& BitVec.ofInt IntKind.i64.bits 255).toNat:Int)≤255:=by
  have:(BitVec.ofInt IntKind.i64.bits x &&& BitVec.ofInt IntKind.i64.bits 255).toNat≤255:=by
   rw[BitVec.toNat_and];exact Nat.le_trans Nat.and_le_right ζ
  omega
 have e:bitI .and .i64 x 255=((BitVec.ofInt IntKind.i64.bits x &&& BitVec.ofInt IntKind.i64.bits 255).toNat:Int):=by
  unfold bitI;simp only;rw[bA]<;>omega
 rw[e];omega
def cv(bs:List Int)(i:Nat)(h:Int):H:=.box [.d (.sl 1 (bs.map eU8)),.i i,.i h]
theorem l1(hs:List H)(x:H):cO hs hs.length x=hs++[x]:=by unfold cO;simp
theorem gX(hs ys:List H)(n:Nat)(x:H):cO (hs++ys) (hs.length+n) x=hs++cO ys n x:=by
 unfold cO;by_cases h:n<ys.length
 ·simp[h]
 ·simp[h,Nat.add_sub_add_left]
theorem kh(hs ys:List H)(x:H):cO (hs++ys) hs.length x=hs++cO ys 0 x:=gX hs ys 0 x
theorem gf(hs ys:List H)(n:Nat):a5 (hs++ys) (hs.length+n)=a5 ys n:=by
 unfold a5;rw[j3,j3,List.getElem?_append_right ω,Nat.add_sub_cancel_left]
theorem hM(hs ys:List H):a5 (hs++ys) hs.length=a5 ys 0:=gf hs ys 0
def o0(ρ:List Nat)(m:Nat):Prop:=∀i,i<m→ρ.getD i 0=i
theorem yI{m n:Nat}(h:m≤n):o0 (List.range n) m:=fun i hi=>by
 have:i<n:=by omega
 simp[this]
theorem MS{m n:Nat}(h:m≤n)(r:List Nat):o0 (List.range n++r) m:=fun i hi=>by
 have:i<n:=by omega
 rw[j3,List.getElem?_append_left (by simpa using this)];simp[this]
mutual
theorem MT{ρ:List Nat}{m:Nat}(hf:o0 ρ m):∀(v:V),vok m v→ren ρ v=v
 |.al,_=>rfl
 |.d _,_=>rfl
 |.ee _,_=>rfl
 |.agg vs,h=>by simp only[vok]at h;simp only[ren,IN hf vs h]
 |.ptr id _ _,h=>by simp only[vok]at h;simp only[ren,hf id h]
 |.gj _ _,_=>rfl
 |.sl id _ _,h=>by simp only[vok]at h;simp only[ren,hf id h]
 |.fn _ vs,h=>by simp only[vok]at h;simp only[ren,IN hf vs h]
 |.eh vs,h=>by simp only[vok]at h;simp only[ren,IN hf vs h]
 |.bU _ v,h=>by simp only[vok]at h;simp only[ren,MT hf v h]
theorem IN{ρ:List Nat}{m:Nat}(hf:o0 ρ m):∀(vs:List V),bk m vs→rens ρ vs=vs
 |[],_=>rfl
 |v::vs,h=>by simp only[bk]at h;simp only[rens,MT hf v h.1,IN hf vs h.2]
end
mutual
theorem MU{m n:Nat}(h:m≤n):∀(v:V),vok m v→vok n v
 |.al,_=>by simp[vok]
 |.d _,_=>by simp[vok]
 |.ee _,_=>by simp[vok]
 |.agg vs,k=>by simp only[vok]at k⊢;exact ly h vs k
 |.ptr id _ _,k=>by simp only[vok]at k⊢;omega
 |.gj _ _,_=>by simp[vok]
 |.sl id _ _,k=>by simp only[vok]at k⊢;omega
 |.fn _ vs,k=>by simp only[vok]at k⊢;exact ly h vs k
 |.eh vs,k=>by simp only[vok]at k⊢;exact ly h vs k
 |.bU _ v,k=>by simp only[vok]at k⊢;exact MU h v k
theorem ly{m n:Nat}(h:m≤n):∀(vs:List V),bk m vs→bk n vs
 |[],_=>by simp[bk]
 |v::vs,k=>by simp only[bk]at k⊢;exact⟨MU h v k.1,ly h vs k.2⟩
end
theorem v9{m:Nat}:∀{xs ys:List V},bk m xs→bk m ys→bk m (xs++ys)
 |[],_,_,h=>h
 |x::xs,ys,h,k=>by simp only[bk]at h;simp only[bz,bk];exact⟨h.1,v9 h.2 k⟩
def cA(m:Nat):H→Prop
 |.box cs=>bk m cs
 |.hN _ _ _ _=>False
 |_=>True
def dB(m:Nat):List H→Prop
 |[]=>True
 |x::xs=>cA m x∧dB m xs
theorem jV{m n:Nat}(h:m≤n)(x:H)(k:cA m x):cA n x:=by
 unfold cA at *;split at k
 ·exact ly h _ k
 ·exact k.elim
 ·trivial
theorem BO{m n:Nat}(h:m≤n):∀{xs:List H},dB m xs→dB n xs
 |[],_=>trivial
 |x::_,k=>⟨jV h x k.1,BO h k.2⟩
theorem Fk{m:Nat}:∀{xs ys:List H},dB m xs→dB m ys→dB m (xs++ys)
 |[],_,_,h=>h
 |_::_,_,h,k=>⟨h.1,Fk h.2 k⟩
theorem BE{m:Nat}:∀{xs:List H},dB m xs→lV m xs
 |[],_=>trivial
 |x::xs,k=>⟨by cases x<;>first|exact k.1|trivial,BE k.2⟩
theorem SU{ρ:List Nat}{m:Nat}(hf:o0 ρ m){v:V}(h:vok m v):vsee ρ v v:=by
 unfold vsee;split
 ·trivial
 ·exact MT hf _ h
theorem u_{ρ:List Nat}{m n:Nat}(hf:o0 ρ m)(hn:m≤n):∀{kv:List V},bk m kv→qT ρ n kv
 |[],_=>trivial
 |v::vs,h=>by
  simp only[bk]at h;exact⟨⟨SU hf h.1,MU hn v h.1⟩,u_ hf hn h.2⟩
theorem SV{ρ:List Nat}{m:Nat}(hf:o0 ρ m):∀{vs:List V},bk m vs→vsees ρ vs vs
 |[],_=>trivial
 |v::vs,h=>by simp only[bk]at h;exact⟨SU hf h.1,SV hf h.2⟩
theorem wj{ρ:List Nat}{m:Nat}(hf:o0 ρ m):∀{x:H},cA m x→hsee ρ x x
 |.eb,_=>trivial
 |.box cs,h=>by simp only[hsee];exact SV hf h
 |.ah _ _ _,_=>⟨rfl,rfl,rfl⟩
 |.jK _ _,_=>⟨rfl,rfl⟩
 |.aj _ _,_=>⟨rfl,rfl⟩
theorem IP{ρ:List Nat}{m:Nat}(hf:o0 ρ m)(hs:List H):∀(gl:List Nat) (xs:List H),gl.length=xs.length→(∀k,k<xs.length→∃x,xs[k]?=some x∧a5 hs (gl.getD k 0)=x∧cA m x)→hsees ρ hs gl xs
 |[],[],_,_=>trivial
 |i::gl,x::xs,hl,h=>by
  refine⟨?_,IP hf hs gl xs (by simpa using hl) fun k hk=>?_⟩
  ·obtain⟨y,h1,h2,ao⟩:=h 0 ξ;simp only[eW,b4]at h1;subst h1;simp only[e0]at h2;rw[h2];exact wj hf ao
  ·obtain⟨y,h1,h2,ao⟩:=h (k+1) (by simpa using hk);exact⟨y,by simpa using h1,by simpa using h2,ao⟩
theorem IQ{m:Nat}:∀{xs:List H} {k:Nat} {x:H},dB m xs→xs[k]?=some x→cA m x
 |[],_,_,_,h=>by simp at h
 |y::ys,0,x,k,h=>by simp at h;subst h;exact k.1
 |y::ys,n+1,x,k,h=>IQ (xs:=ys) k.2 (by simpa using h)
theorem IS{hs:List H}{i:Nat}{x:H}(h:hs[i]?=some x):a5 hs i=x:=by unfold a5;rw[j3,h];rfl
theorem zS{kv ts ts':List V}{hs ex:List H}(hr:dB hs.length hs)(bJ:bk hs.length kv)(ht:vsees (List.range hs.length) ts' ts)(pG:bk hs.length ts'):lC kv (List.range hs.length) ⟨ts,hs++ex⟩ ⟨ts',hs⟩:=by
 have hf:o0 (List.range hs.length) hs.length:=yI (fE _);refine⟨List.nodup_range,ht,IP hf _ _ _ ξ fun k hk=>?_,pG,BE hr,u_ hf (fE _) bJ⟩;refine⟨hs[k],cD hk,?_,IQ hr (cD hk)⟩;have:(List.range hs.length).getD k 0=k:=hf k hk;rw[this];exact IS (by rw[List.getElem?_append_left hk];exact cD hk)
theorem Ff{kv ts ts':List V}{hs:List H}(hr:dB hs.length hs)(bJ:bk hs.length kv)(ht:vsees (List.range hs.length) ts' ts)(pG:bk hs.length ts'):lC kv (List.range hs.length) ⟨ts,hs⟩ ⟨ts',hs⟩:=by
 have:=zS (ex:=[]) hr bJ ht pG
 rwa [gm]at this
theorem abG(m:Nat)(bs:List Int)(i:Nat)(h:Int):cA m (cv bs i h):=by simp[cv,cA,bk,vok]
theorem Fl{bs:List Int}{i:Nat}{h:Int}{pre bG ex:List H}{kv ts ts':List V}(hr:dB (pre.length+(bG.length+1)) pre∧dB (pre.length+(bG.length+1)) bG)(bJ:bk (pre.length+(bG.length+1)) kv)(ht:vsees (List.range (pre.length+(bG.length+1))) ts' ts)(pG:bk (pre.length+(bG.length+1)) ts'):lC kv (List.range (pre.length+(bG.length+1))) ⟨ts,pre++cv bs i h::(bG++ex)⟩ ⟨ts',pre++cv bs i h::bG⟩:=by
 have e:(pre++cv bs i h::bG).length=pre.length+(bG.length+1):=by simp
 have:=zS (hs:=pre++cv bs i h::bG) (ex:=ex) (ts:=ts) (ts':=ts') (kv:=kv) (by rw[e];exact Fk hr.1 ⟨abG _ _ _ _,hr.2⟩) (by rw[e];exact bJ) (by rw[e];exact ht) (by rw[e];exact pG);rw[e,List.append_assoc]at this;exact this
theorem abH{bs:List Int}{i:Nat}{h:Int}{pre bG:List H}{kv ts ts':List V}(hr:dB (pre.length+(bG.length+1)) pre∧dB (pre.length+(bG.length+1)) bG)(bJ:bk (pre.length+(bG.length+1)) kv)(ht:vsees (List.range (pre.length+(bG.length+1))) ts' ts)(pG:bk (pre.length+(bG.length+1)) ts'):lC kv (List.range (pre.length+(bG.length+1))) ⟨ts,pre++cv bs i h::bG⟩ ⟨ts',pre++cv bs i h::bG⟩:=by
 have:=Fl (bs:=bs) (i:=i) (h:=h) (ex:=[]) hr bJ ht pG
 rwa [gm]at this
theorem SW(p r:Nat):(List.range (p+(r+1))).getD p 0=p:=yI (fE _) p ω
theorem SX(n k:Nat)(l:List Nat):(List.range n++k::l).getD n 0=k:=by
 rw[j3,List.getElem?_append_right ξ];simp
def oW(kv:List V)(K:V→List H→Prop)(x:V)(hs':List H):Prop:=∃ρ x2 qg,lC kv ρ ⟨[x],hs'⟩ ⟨[x2],qg⟩∧K x2 qg
theorem d6.n2{P:Program}{f:FuncId}{kv:List V}{hs:List H}{vs:List V}{K:V→List H→Prop}(h:d6 P f kv hs vs (oW kv K)):d6 P f kv hs vs K:=by
 intro B w0 kp us w bJ bj;exact(h B w0 kp us w bJ bj).mono fun v w' ⟨x,hs',⟨ρ,x2,qg,h1,h2⟩,ao⟩=>⟨x2,qg,h2,Fm bJ h1 ao⟩
def SY:List (List bR):=cS 13 [1564919,1564917,1564911,1564893,1564839,1594201,1593715,1592257,1587883,1574761,1535274,1417176,1062882]
def SZ:List (List bR):=cS 10 [49247,49245,49239,49221,59008,58846,58360,56902,52528,39366]
def S0:List (List bR):=cS 15 [14083187,14339185,14339179,14339161,14339107,14348785,14348299,14346841,14342467,14329225,14289859,14171761,13817466,12754584,9565938]
attribute [go_sem] SY SZ S0
theorem Fo(bs:List Int)(hm:bs.length≤maxLen)(i:Nat)(h:Int)(pre bG:List H)(kv:List V)(K:V→List H→Prop)(hi:i≤bs.length)
  (hk:∀(cF:Nat) (h' x:Int),cF≤bs.length→0≤x→x≤255→K (.i x) (pre++cv bs cF h'::bG)):d6 prog 125 kv (pre++cv bs i h::bG) [.ptr pre.length 0 0] K:=by
 refine(fY (n:=58) (rs:=[.tmp 2]) func125 rfl call125 b2 rfl rfl ?_);simp only[cv]at hk⊢;simp only[go_sem,hM,kh]
 try simp only[go_sem,hM,kh,I,MP,MQ,MR]
 repeat'((first|refine bo SY χ ψ ?_|refine bo SZ χ ψ ?_|refine bo S0 χ ψ ?_|refine bP (fun h=>?_) (fun h=>?_))<;>simp only[go_sem,hM,I,MP,MQ,MR])
 ·have hlt:i<bs.length:=by
   have:=cQ h;omega
  have aB:=cq eU8 bs i hlt
  try simp only[go_sem,hM,kh,aE,aB,eU8]
  repeat'(first|(with_reducible refine az ?_)|fail)
  rw[dX hlt hm];exact hk _ _ _ ω (Fj _).1 (Fj _).2
 ·exact hk _ _ _ hi (Fj _).1 (Fj _).2
theorem S1{x n:Int}(hx:0≤x)(hn:0<n):0≤x.tmod n∧x.tmod n<n:=⟨Int.tmod_nonneg _ hx,Int.tmod_lt_of_pos _ hn⟩
theorem g1(bs:List Int)(hm:bs.length≤maxLen)(i:Nat)(h:Int)(pre bG:List H)(kv:List V)(n:Int)(hn:0<n)(vh:n≤4294967296)(K:V→List H→Prop)(hi:i≤bs.length)
  (hk:∀(cF:Nat) (h' x:Int),cF≤bs.length→0≤x→x<n→K (.i x) (pre++cv bs cF h'::bG)):d6 prog 62 kv (pre++cv bs i h::bG) [.ptr pre.length 0 0,.i n] K:=by
 refine(fY (n:=37) (rs:=[.tmp 4]) func62 rfl call62 b2 rfl rfl ?_);simp only[go_sem];refine bP (fun h1=>?_) (fun _=>?_)
 ·have:=cQ h1;omega
 simp only[go_sem];refine bP (fun _=>?_) (fun h1=>?_)
 ·simp only[go_sem];refine ae.inl (Fo bs hm i h pre bG _ _ hi fun f2 h1 x1 cB db ep=>?_);simp only[go_sem];refine⟨by omega,?_⟩;have:=S1 db hn;exact hk _ _ _ cB this.1 this.2
 ·have hb:=c2 h1;simp only[go_sem];refine ae.inl (Fo bs hm i h pre bG _ _ hi fun f2 h1 x1 cB db ep=>?_);simp only[go_sem];refine ae.inl (Fo bs hm f2 h1 pre bG _ _ cB fun dG h2 x2 cJ cW eE=>?_);simp only[go_sem];refine ae.inl (Fo bs hm dG h2 pre bG _ _ cJ fun dV ao gx ct c8 hE=>?_);simp only[go_sem];refine ae.inl (Fo bs hm dV ao pre bG _ _ ct fun jH aN S2 eA je qX=>?_);simp only[go_sem];refine⟨by omega,?_⟩;rw[bA (n:=x1 * 16777216) ω ω,bA (n:=x2 * 65536) ω ω,bA (n:=gx * 256) ω ω,bA (n:=x1 * 16777216+x2 * 65536) ω ω,bA (n:=x1 * 16777216+x2 * 65536+gx * 256) ω ω,bA (n:=x1 * 16777216+x2 * 65536+gx * 256+S2) ω ω];have:=S1 (x:=x1 * 16777216+x2 * 65536+gx * 256+S2) ω hn;exact hk _ _ _ eA this.1 this.2
theorem p'(bs:List Int)(hm:bs.length≤maxLen)(i:Nat)(h:Int)(pre bG:List H)(kv:List V)(n:Int)(hn:0<n)(vh:n≤4294967296)(K:V→List H→Prop)(hi:i≤bs.length)
  (hk:∀(cF:Nat) (h':Int) (b:Bool),cF≤bs.length→K (.d (.bool b)) (pre++cv bs cF h'::bG)):d6 prog 123 kv (pre++cv bs i h::bG) [.ptr pre.length 0 0,.i n] K:=by
 refine(fY (n:=9) (rs:=[.tmp 4]) func123 rfl call123 b2 rfl rfl ?_);simp only[go_sem];refine ae.inl (g1 bs hm i h pre bG _ n hn vh _ hi fun f2 h1 x1 cB db ep=>?_);simp only[go_sem];exact hk _ _ _ cB
theorem yB(bs:List Int)(hm:bs.length≤maxLen)(i:Nat)(h:Int)(pre bG:List H)(kv:List V)(id:Nat)(xs:List Int)(he:a5 bG id=.ah 1 (xs.map aR) true)(hn:0<xs.length)(vh:xs.length≤1000)(K:V→List H→Prop)(hi:i≤bs.length)
  (hk:∀(cF:Nat) (h' x:Int),cF≤bs.length→x∈xs→K (.i x) (pre++cv bs cF h'::bG)):d6 prog 28 kv (pre++cv bs i h::bG) [.ptr pre.length 0 0,.sl (pre.length+(id+1)) 0 xs.length] K:=by
 refine(fY (n:=12) (rs:=[.tmp 4]) func28 rfl call28 b2 rfl rfl ?_);simp only[go_sem];refine ae.inl (g1 bs hm i h pre bG _ xs.length ω ω _ hi fun f2 h1 x1 cB db ep=>?_);obtain⟨k,rfl⟩:=kt db;have hlt:k<xs.length:=by omega
 have aB:=cq aR xs k hlt;simp only[go_sem,gf,he,aB,aE,I,aR];refine⟨⟨by omega,by omega⟩,?_⟩;exact⟨hlt,hk _ _ _ cB (eS hlt)⟩
theorem S3(bs:List Int)(hm:bs.length≤maxLen)(i:Nat)(h:Int)(pre bG:List H)(kv:List V)(id:Nat)(xs:List (List UInt8))(he:a5 bG id=.ah 1 (xs.map n8) true)(hn:0<xs.length)(vh:xs.length≤1000)(K:V→List H→Prop)(hi:i≤bs.length)
  (hk:∀(cF:Nat) (h':Int) (x:List UInt8),cF≤bs.length→x∈xs→K (.d (.str x)) (pre++cv bs cF h'::bG)):d6 prog 201 kv (pre++cv bs i h::bG) [.ptr pre.length 0 0,.sl (pre.length+(id+1)) 0 xs.length] K:=by
 refine(fY (n:=12) (rs:=[.tmp 4]) func201 rfl call201 b2 rfl rfl ?_);simp only[go_sem];refine ae.inl (g1 bs hm i h pre bG _ xs.length ω ω _ hi fun f2 h1 x1 cB db ep=>?_);obtain⟨k,rfl⟩:=kt db;have hlt:k<xs.length:=by omega
 have aB:=cq n8 xs k hlt;simp only[go_sem,gf,he,aB,aE,I,n8];refine⟨⟨by omega,by omega⟩,?_⟩;exact⟨hlt,hk _ _ _ cB (eS hlt)⟩
theorem abI{x:List UInt8}(h:x∈[[97],[98],[99],[100]]):x.length=1:=by
 simp only[List.mem_cons,List.not_mem_nil,or_false]at h;rcases h with rfl|rfl|rfl|rfl<;>rfl
theorem IT(bs:List Int)(hm:bs.length≤maxLen)(i:Nat)(h:Int)(pre bG:List H)(kv:List V)(ck:Nat)(hr:dB (pre.length+(bG.length+1)) pre∧dB (pre.length+(bG.length+1)) bG)(bJ:bk (pre.length+(bG.length+1)) kv)(hb:ck≤1000)(K:V→List H→Prop)(hi:i≤bs.length)
  (hk:∀(cF:Nat) (h':Int) (s:List UInt8),cF≤bs.length→s.length≤ck→K (.d (.str s)) (pre++cv bs cF h'::bG)):d6 prog 144 kv (pre++cv bs i h::bG) [.ptr pre.length 0 0,.i ck] K:=by
 refine(fY (n:=21) (rs:=[.tmp 4]) func144 rfl call144 b2 rfl rfl ?_);simp only[go_sem];rw[bA (n:=(ck:Int)+1) ω ω];refine ae.inl (g1 bs hm i h pre bG _ ((ck:Int)+1) ω ω _ hi fun f2 h1 x1 cB db ep=>?_);obtain⟨k,rfl⟩:=kt db;simp only[go_sem];refine cr.intro (α:=Nat×Int×Nat×List UInt8) (fun y=>⟨(.ptr pre.length 0 0::.i ck::.al::.al::.d (.str [])::.d (.str y.2.2.2)::.i y.2.2.1::aA 14 []),pre++cv bs y.1 y.2.1::bG⟩)
  (fun y=>y.2.2.1) (fun y=>y.1≤bs.length∧y.2.2.1+y.2.2.2.length≤ck) (f2,h1,k,[]) (List.range (pre.length+(bG.length+1))) ⟨cB,by simp;omega⟩ ?_ ?_
 ·exact abH hr bJ (by simp[vsees,vsee,ren]) (by simp[bk,vok])
 ·rintro⟨dG,h2,n,s⟩ ⟨hC,hs⟩;simp only at hs;simp only[go_sem];refine bP (fun q=>?_) (fun q=>?_)
  ·have hn:=cQ q;simp only[go_sem,l1,gX];refine ae.inl (S3 bs hm dG h2 pre (bG++[.ah 1 ([[97],[98],[99],[100]].map n8) true]) _ bG.length [[97],[98],[99],[100]] (by rw[hM];rfl) ζ ζ _ hC fun dV ao x ct c8=>?_);have hl:=abI c8;simp only[go_sem];refine⟨by simp only[maxLen];omega,?_⟩;rw[bA (n:=(n:Int)-1) ω ω];refine bE.intro (dV,ao,n-1,s++x) (List.range (pre.length+(bG.length+1))) ⟨ct,by simp only[dY];omega⟩ (show n-1<n by omega) ?_;have e:((n-1:Nat):Int)=(n:Int)-1:=by omega
   simp only[e];exact Fl hr bJ (by simp[vsees,vsee,ren]) (by simp[bk,vok])
  ·simp only[go_sem];exact hk _ _ _ hC ω
theorem Fp(bs:List Int)(hm:bs.length≤maxLen)(pre:List H)(kv:List V)(hr:dB pre.length pre)(bJ:bk pre.length kv)(K:V→List H→Prop)
  (hk:∀(h':Int),K (.ptr pre.length 0 0) (pre++[cv bs 0 h'])):d6 prog 26 kv pre [.d (.sl 1 (bs.map eU8))] K:=by
 refine(fY (n:=32) (rs:=[.tmp 2]) func26 rfl call26 b2 rfl rfl ?_);simp only[go_sem,I];refine cr.intro (α:=Nat×Int) (fun y=>⟨(.d (.sl 1 (bs.map eU8))::.al::.al::.i y.2::.i y.1::aA 27 []),pre⟩)
  (fun y=>bs.length-y.1) (fun y=>y.1≤bs.length) (0,i64.wrap (10101+(bs.length:Int))) (List.range pre.length) ξ ?_ ?_
 ·exact Ff hr bJ (by simp[vsees,vsee,ren]) (by simp[bk,vok])
 ·rintro⟨i,g⟩ hi;simp only at hi;simp only[go_sem,I]
  try simp only[go_sem,I]
  repeat'((first|refine bw ?_|refine bP (fun h=>?_) (fun h=>?_))<;>simp only[go_sem,I])
  ·have hlt:i<bs.length:=by
    rcases Nat.lt_or_ge i bs.length with hlt|pH
    ·exact hlt
    ·rw[bm ω]at h;cases h
   have aB:=cq eU8 bs i hlt
   try simp only[go_sem,aB,aE,eU8]
   repeat'(first|(with_reducible refine az ?_)|fail)
   rw[dX hlt hm];refine bE.intro (i+1,bitI .and .i64 (i64.wrap (i64.wrap (i64.wrap (g * 131)+i64.wrap bs[i])+7)) 1073741823) (List.range pre.length) (show i+1≤bs.length by omega) (show bs.length-(i+1)<bs.length-i by omega) ?_;exact Ff hr bJ (by simp[vsees,vsee,ren]) (by simp[bk,vok])
  ·rw[l1];exact hk _
theorem MV{ρ:List Nat}{hs:List H}:∀{gl IU:List Nat} {xs ys:List H},hsees ρ hs gl xs→hsees ρ hs IU ys→hsees ρ hs (gl++IU) (xs++ys)
 |[],IU,[],ys,_,h=>h
 |[],_,_::_,_,h,_=>by simp[hsees]at h
 |_::_,_,[],_,h,_=>by simp[hsees]at h
 |i::gl,IU,x::xs,ys,h,k=>by
  simp only[hsees]at h;exact⟨h.1,MV h.2 k⟩
theorem MW{m:Nat}:∀{xs ys:List H},lV m xs→lV m ys→lV m (xs++ys)
 |[],_,_,h=>h
 |_::_,_,h,k=>⟨h.1,MW h.2 k⟩
theorem nB(n j:Nat)(l:List Nat):(List.range n++l).getD (n+j) 0=l.getD j 0:=by
 rw[j3,List.getElem?_append_right ξ,j3];simp
theorem BD{kv ts ts':List V}{hs ex ex':List H}(o1:List Nat)(hnd:o1.Nodup)(pH:∀k∈o1,hs.length≤k)(hr:dB hs.length hs)(hx:hsees (List.range hs.length++o1) (hs++ex) o1 ex')(Fq:lV (hs.length+ex'.length) ex')(bJ:bk hs.length kv)(ht:vsees (List.range hs.length++o1) ts' ts)(pG:bk (hs.length+ex'.length) ts') :
  lC kv (List.range hs.length++o1) ⟨ts,hs++ex⟩ ⟨ts',hs++ex'⟩:=by
 have hf:o0 (List.range hs.length++o1) hs.length:=MS (fE _) _;have hl:(hs++ex').length=hs.length+ex'.length:=by simp
 refine⟨?_,ht,MV (IP hf _ _ _ ξ fun j aK=>?_) hx,by rw[hl];exact pG,?_,by rw[hl];exact u_ hf ω bJ⟩
 ·rw[List.nodup_append];refine⟨List.nodup_range,hnd,fun a ha b hb=>?_⟩;have:=pH b hb;simp at ha;omega
 ·refine⟨hs[j],cD aK,?_,IQ hr (cD aK)⟩;have:(List.range hs.length).getD j 0=j:=yI (fE _) j aK;rw[this];exact IS (by rw[List.getElem?_append_left aK];exact cD aK)
 ·rw[hl];exact MW (BE (BO ω hr)) Fq
theorem My(ρ:List Nat):∀z_:List V,vsees ρ (List.replicate z_.length .al) z_
 |[]=>trivial
 |_::z_=>⟨trivial,My ρ z_⟩
theorem Fc(m:Nat):∀k,bk m (List.replicate k .al)
 |0=>trivial
 |k+1=>⟨trivial,Fc m k⟩
section
variable {P:Program} {kv:List V} {c:Code} {σ:St} {K K2:St→Prop} {aX:List (Nat×(St→Prop))} {dh:St→Prop}
def zM:Nat→Code→Code
 |k+1,.seq a b=>.seq a (zM k b)
 |_,_=>.skip
def Bi:Nat→Code→Code
 |k+1,.seq _ b=>Bi k b
 |_,c=>c
@[go_sem] theorem akC(k:Nat)(a b:Code):zM (k+1) (.seq a b)=.seq a (zM k b):=by rw[zM]
@[go_sem] theorem akD(c:Code):zM 0 c=.skip:=by cases c<;>rfl
@[go_sem] theorem Ak(k:Nat)(a b:Code):Bi (k+1) (.seq a b)=Bi k b:=by rw[Bi]
@[go_sem] theorem Al(c:Code):Bi 0 c=c:=by cases c<;>rfl
def iB(P:Program)(kv:List V)(c:Code)(σ:St)(K:St→Prop)(aX:List (Nat×(St→Prop)))(dh:St→Prop):Prop:=
 ∀(B:Nat→Prop) (w0:World) (kp:List (V×Value)) (Q:Exit→Act→World→Prop) (a:Act) (w:World),kp.map (·.1)=kv→
  (∀σ a w,K σ→fS B w0 kp σ a w→Q .normal a w)→WB B w0 kp Q aX→(∀σ a w,dh σ→fS B w0 kp σ a w→Q .ret a w)→fS B w0 kp σ a w→c.wp P Q a w
theorem lx(hm:P.follows .mixedOrders=true)(h:codeE P kv c σ K aX dh):iB P kv c σ K aX dh:=fun _ _ _ Q a w bJ cd dF bj r=>GZ bJ hm c σ K aX dh Q a w cd dF bj h r
theorem Rf(hm:P.follows .mixedOrders=true):∀(k:Nat) (c:Code) (σ:St),codeE P kv (zM k c) σ K2 aX dh→(∀σ',K2 σ'→iB P kv (Bi k c) σ' K aX dh)→iB P kv c σ K aX dh
 |0,c,σ,h1,h2=>by rw[akD]at h1;have:=h2 σ h1;rwa [Al]at this
 |k+1,c,σ,h1,h2=>by
  cases c with
  |seq a b=>
   rw[akC]at h1;intro B w0 kp Q u w bJ cd dF bj r;refine wp_seq (GZ bJ hm a σ (fun σ'=>codeE P kv (zM k b) σ' K2 aX dh) aX dh _ u w (fun σ' gz w' h' ei=>?_) (fun id σ' gz w' h' ei=>dF id σ' gz w' h' ei) (fun σ' gz w' h' ei=>bj σ' gz w' h' ei) h1 r);exact Rf hm k b σ' h' (fun oL hk=>by have:=h2 oL hk;rwa [Ak]at this) B w0 kp Q gz w' bJ cd dF bj ei
  |_=>exact h2 σ h1
theorem TM{ρ:List Nat}{σ':St}(hs:lC kv ρ σ σ')(h:iB P kv c σ' K aX dh):iB P kv c σ K aX dh:=fun B w0 kp Q a w bJ cd dF bj r=>h B w0 kp Q a w bJ cd dF bj (Fm bJ hs r)
def dm{α:Type}(kv:List V)(hU:α→St)(iD:α→Prop)(σ:St):Prop:=∃x ρ,iD x∧lC kv ρ σ (hU x)
theorem dm.intro{α:Type}{hU:α→St}{iD:α→Prop}(x:α)(ρ:List Nat)(h1:iD x)(h2:lC kv ρ σ (hU x)):dm kv hU iD σ:=⟨x,ρ,h1,h2⟩
theorem e2{α:Type}(hm:P.follows .mixedOrders=true)(k:Nat)(hU:α→St)(iD:α→Prop)(h1:codeE P kv (zM k c) σ (b3 (dm kv hU iD) .mk) aX dh)(h2:∀x,iD x→iB P kv (Bi k c) (hU x) K aX dh):iB P kv c σ K aX dh:=
 Rf hm k c σ h1 fun _ ⟨x,_,hp,hs⟩=>TM hs (h2 x hp)
theorem acQ{id:Nat}(h:iB P kv c σ K ((id,K)::aX) dh):iB P kv (.block id c) σ K aX dh:=by
 intro B w0 kp Q a w bJ cd dF bj r;refine wp_block (h B w0 kp _ a w bJ (fun σ' gz w' h' ei=>cd σ' gz w' h' ei) (fun wN σ' gz w' h' ei=>?_) (fun σ' gz w' h' ei=>bj σ' gz w' h' ei) r);simp only[outE]at h';simp only[Exit.inBlock];by_cases hi:wN=id
 ·rw[if_pos hi];rw[if_pos hi]at h';exact cd σ' gz w' h' ei
 ·rw[if_neg hi];rw[if_neg hi]at h';exact dF wN σ' gz w' h' ei
end
section
variable {P:Program}
theorem akE{f:FuncId}{fn:Func}{c:Code}{args res:List AD}(hf:P.funcs[f]?=some fn)(hb:fn.body=some c)(hcall:∀(args:Array Value) (w:World),(callFunc f args).run P w=.ok (.enter f args) w)(ts:List V)
  (hn:args.map AD.vM++List.replicate (fn.ntmps-args.length) .al=ts) (rs:List ResultVar) (hr:fn.results.toList=rs) (h0:wG args→iB P [] c ⟨ts,[]⟩ (b3 (g8 P rs res) .mk) [] (b3 (g8 P rs res) .mk)):PureCall P f args res:=by
 intro w us F hg ha;have h:=h0 (Km _ _ _ ha);clear h0;subst hr;subst hn;have fK:us.length=args.length:=(Pc args us F 0 ha).1;have aW:∀(σ:St) (a:Act) (w':World),g8 P fn.results.toList res σ→fS (fun b=>w.heap.size≤b) w [] σ a w'→a.defers=[]∧∃v,(results fn a.tmps).run P w'=.ok v w'∧
   ∃F',Bel (fun b=>w.heap.size≤b) w w'∧trep w'.heap true res v F'∧F'.Nodup∧∀b∈F',w.heap.size≤b:=by
  rintro σ a w' zl ⟨a4,φ,r,_⟩;obtain⟨v,F',h1,h2,ao,aN⟩:=O' r zl;exact⟨r.oz,v,h1,F',r.g0,h2,ao,fun b hb=>(aN b hb).1⟩
 refine Does.enter (hcall _ _) (calls_of_wp hf hb ?_);refine h (fun b=>w.heap.size≤b) w [] _ _ w rfl (fun σ a w' h' ei=>?_) (fun id σ a w' h' _=>h'.elim) (fun σ a w' h' ei=>?_) ?_
 ·exact aW σ a w' h' ei
 ·exact aW σ a w' h' ei
 ·have:=Pb hg ha (fn.ntmps-args.length) [] ξ;have hs:us.toArray.size=args.length:=by rw[List.size_toArray,fK]
  rw[hs];exact this
end
theorem om{P:Program}{f:FuncId}{fn:Func}{c:Code}{args res:List AD}(n:Nat)(hf:P.funcs[f]?=some fn)(hcall:∀(args:Array Value) (w:World),(callFunc f args).run P w=.ok (.enter f args) w)(rs:List ResultVar)
  (h:wG args→iB P [] c ⟨B4 args n,[]⟩ (b3 (g8 P rs res) .mk) [] (b3 (g8 P rs res) .mk)) (hb:fn.body=some c:=by rfl) (hn:fn.ntmps=n:=by rfl) (hr:fn.results.toList=rs:=by rfl):PureCall P f args res:=
 akE hf hb hcall _ (by rw[hn];exact NN args n) rs hr h
section
variable {P:Program} {kv:List V} {c:Code} {σ:St} {K:St→Prop} {aX:List (Nat×(St→Prop))} {dh:St→Prop}
theorem XQ{B:Nat→Prop}{w0:World}{kp:List (V×Value)}{a:Act}{w:World}{id sz:Nat}{xs:List (List D)}(h:a5 σ.heap id=.aj sz xs)(r:fS B w0 kp σ a w):fS B w0 kp ⟨σ.tmps,cO σ.heap id (.ah sz xs true)⟩ a w:=by
 obtain⟨a4,φ,r,b5⟩:=r;have hg:∀i,i≠id→a5 (cO σ.heap id (.ah sz xs true)) i=a5 σ.heap i:=fun i hi=>by rw[jz,if_neg hi]
 have HA:a5 (cO σ.heap id (.ah sz xs true)) id=.ah sz xs true:=by rw[jz,if_pos rfl]
 refine⟨a4,φ,y_ r (fun i=>i=id) a4 φ _ w (fun i hi=>⟨hg i hi,rfl⟩) (o4.refl φ) (fE _) (fun _ _ _=>rfl) ?_ ?_ (fun i j b hi aK _ _=>hi.trans aK.symm) ?_ ?_ r.h7 r.g0,fun i hi=>Nat.lt_of_lt_of_le (b5 i hi) (Gt _ _ _).1⟩
 ·rintro i rfl b ⟨β,e,aJ⟩;refine Or.inr ⟨i,rfl,β,e,?_⟩;rw[HA]at aJ;rw[h];exact aJ.imp (fun q=>⟨rfl,q.2⟩) (fun q=>⟨rfl,q.2⟩)
 ·rintro i rfl β e b ht;refine Or.inr ⟨i,β,rfl,e,?_⟩;rw[HA]at ht;rw[h];rcases ht with ⟨_,q⟩|⟨q,_⟩
  ·exact Or.inl ⟨rfl,q⟩
  ·cases q
 ·rintro i β rfl e _;exact r.gu i β e (by rw[h];rfl)
 ·rintro i rfl;rcases r.hp i with hd|⟨β,e,hr⟩
  ·rw[h]at hd;cases hd
  ·refine Or.inr ⟨β,e,?_⟩;rw[HA];rw[h]at hr;simp only[fk]at hr⊢;obtain⟨q,hr⟩:=hr;refine⟨q,hr.imp id ?_⟩;rintro⟨b,aY,bn,dg,dz⟩;exact⟨b,β.d7,aY,bn,dg,dz,fun _=>rfl,fun q=>by cases q⟩
theorem Il(id:Nat){sz:Nat}{xs:List (List D)}(h:a5 σ.heap id=.aj sz xs)(hg:iB P kv c ⟨σ.tmps,cO σ.heap id (.ah sz xs true)⟩ K aX dh):iB P kv c σ K aX dh:=fun B w0 kp Q a w bJ cd dF bj r=>hg B w0 kp Q a w bJ cd dF bj (XQ h r)
end
theorem NC{P:Program}{f:FuncId}{fn:Func}{c:Code}{kv:List V}{hs:List H}{vs:List V}{K:V→List H→Prop}{n:Nat}(hf:P.funcs[f]?=some fn)(hb:fn.body=some c)(hcall:∀(args:Array Value) (w:World),(callFunc f args).run P w=.ok (.enter f args) w)
  (hn:fn.ntmps=n) {rs:List ResultVar} (hr:fn.results.toList=rs) (h:iB P kv c ⟨vs++List.replicate (n-vs.length) .al,hs⟩ (b3 (wT P rs (m' K .mk)) .mk) [] (b3 (wT P rs (m' K .mk)) .mk)):d6 P f kv hs vs K:=by
 intro B w0 kp us w bJ bj;subst hr;subst hn;have fK:us.length=vs.length:=by
  obtain⟨a4,φ,r,_⟩:=bj;have:=lk _ _ r.iA;simpa using this
 have aW:∀(σ:St) (a:Act) (w':World),wT P fn.results.toList K σ→fS B w0 kp σ a w'→a.defers=[]∧∃v,(results fn a.tmps).run P w'=.ok v w'∧
   ∃x hs',K x hs'∧fS B w0 kp ⟨[x],hs'⟩ ⟨#[v],[]⟩ w':=by
  rintro σ a w' zl ⟨a4,φ,r,b5⟩;obtain⟨xs,i3,cn,hv,hu⟩:=Kl r _ _ zl;refine⟨r.oz,if h:i3.length=1 then i3[0]else .tuple i3.toArray,?_,_,_,cn,a4,φ,⟨?_,r.kp,r.hp,r.dZ,r.gu,r.gZ,r.h7,r.g0,r.bs,rfl,r.l4⟩,b5⟩
  ·rw[O_,Array.mapM_eq_mapM_toList];simp only[Sem.run_bind,Sem.run_map,hu];simp only[Result.andThen,List.size_toArray,Sem.run_pure];split<;>simp_all
  ·simp only[VRels];exact⟨_,_,rfl,WE hv,rfl⟩
 refine Does.enter (hcall _ _) (calls_of_wp hf hb ?_);refine h B w0 kp _ _ w bJ (fun σ a w' h' ei=>?_) (fun id σ a w' h' _=>h'.elim) (fun σ a w' h' ei=>?_) ?_
 ·exact aW σ a w' h' ei
 ·exact aW σ a w' h' ei
 ·obtain⟨a4,φ,r,b5⟩:=bj;have hs':us.toArray.size=vs.length:=by rw[List.size_toArray,fK]
  refine⟨a4,φ,⟨?_,r.kp,r.hp,r.dZ,r.gu,r.gZ,r.h7,r.g0,r.bs,rfl,r.l4⟩,b5⟩;have:=D9 r.iA (OM (φ:=φ) (T:=c9 φ hs) (h:=w.heap) (v:=.al) (u:=undef) (by simp[VRel]) (fn.ntmps-vs.length));rw[hs'];simpa using this
theorem d6.Z5{P:Program}{f:FuncId}{kv:List V}{hs:List H}{vs:List V}{K:V→List H→Prop}(h:d6 P f kv hs vs (fun x hs'=>K x hs'∨∃id sz xs,a5 hs' id=.aj sz xs∧K x (cO hs' id (.ah sz xs true)))):d6 P f kv hs vs K:=by
 intro B w0 kp us w bJ bj;refine(h B w0 kp us w bJ bj).mono fun v w' ⟨x,hs',h1,h2⟩=>?_;rcases h1 with h1|⟨id,sz,xs,hg,h1⟩
 ·exact⟨x,hs',h1,h2⟩
 ·exact⟨x,_,h1,XQ (σ:=⟨[x],hs'⟩) hg h2⟩
theorem C'{n:Nat}{b:Bool}{x y:V}:vok n (bif b then x else y)↔((b=true→vok n x)∧(b=false→vok n y)):=by cases b<;>simp
theorem aak{F:Oper→List Bool→Prop}:∀{l:List (Oper×List Bool)},(∀x∈l,F x.1 x.2)→wq l F
 |[],_=>trivial
 |x::l,h=>⟨h x ξ,aak fun y hy=>h y (by simp[hy])⟩
def ix(o:Oper):List Nat:=(o.after.toList.filter (Region.binds .any)).map (·.on)
def EN:Nat→List Oper→Bool
 |_,[]=>true
 |k,o::os=>(ix o).all (fun j=>decide (j<k))&&EN (k+1) os
theorem aal:∀(os:List Oper) (k i:Nat) (o:Oper),EN k os=true→os[i]?=some o→∀j∈ix o,j<k+i
 |[],_,_,_,_,h,_,_=>by simp at h
 |x::os,k,0,o,h,h1,j,aK=>by
  simp only[eW,b4]at h1;subst h1;simp only[EN,bW,List.all_eq_true,b8]at h;have:=h.1 j aK;omega
 |x::os,k,i+1,o,h,h1,j,aK=>by
  simp only[EN,bW]at h;have:=aal os (k+1) i o h.2 (by simpa using h1) j aK;omega
theorem alk{aQ:List Oper}{S:List Bool}(ht:EN 0 aQ=true)(hl:S.length=aQ.length)(h:rdyE S aQ [] S=[])(i:Nat):i<aQ.length→S[i]?=some true:=by
 induction i using Nat.strongRecOn with
 |_ i df=>
  intro hi;have hb:S[i]?=some S[i]:=cD ω
  cases hv:S[i]with
  |true=>rw[hb,hv]
  |false=>
   rw[hv]at hb;have aJ:aQ[i]?=some aQ[i]:=cD hi;have:=Jx (S:=S) aQ [] S i aQ[i] aJ hb fun e he hx=>by
    have hm:e.on∈ix aQ[i]:=List.mem_map.2 ⟨e,List.mem_filter.2 ⟨by simpa using he,hx⟩,rfl⟩;have hlt:=aal aQ 0 i _ ht aJ _ hm;have hq:=df e.on ω ω;rw[j3,hq];rfl
   rw[h]at this
   cases this
theorem aam:∀(S:List Bool) (i:Nat),S[i]?=some false→(S.set i true).count false+1=S.count false
 |[],_,h=>by simp at h
 |b::S,0,h=>by
  simp only[eW,b4]at h;subst h;simp
 |b::S,i+1,h=>by
  have:=aam S i (by simpa using h);rw[List.set_cons_succ,List.count_cons,List.count_cons];omega
def EO(F:Nat→Oper→Prop):Nat→List Oper→Prop
 |_,[]=>True
 |k,o::os=>F k o∧EO F (k+1) os
theorem jX{F:Nat→Oper→Prop}{k:Nat}{o:Oper}{os:List Oper}(h:F k o)(hr:EO F (k+1) os):EO F k (o::os):=⟨h,hr⟩
theorem jW{F:Nat→Oper→Prop}{k:Nat}:EO F k []:=trivial
theorem aan{F:Nat→Oper→Prop}:∀(os:List Oper) (k i:Nat) (o:Oper),EO F k os→os[i]?=some o→F (k+i) o
 |[],_,_,_,_,h=>by simp at h
 |x::os,k,0,o,h,h1=>by
  simp only[eW,b4]at h1;subst h1;exact h.1
 |x::os,k,i+1,o,h,h1=>by
  have:=aan os (k+1) i o h.2 (by simpa using h1)
  rwa [show k+(i+1)=k+1+i from by omega]
def aao(aQ:List Oper)(S:List Bool):Prop:=∀(i j:Nat) (o:Oper),aQ[j]?=some o→i∈ix o→S[i]?=some false→S[j]?=some false
def alm(P:Program)(kv:List V)(aQ:List Oper)(Inv:List Bool→St→Prop)(k:Nat)(o:Oper):Prop:=
 ∀(S:List Bool) (σ:St) (F:St→Prop),S.length=aQ.length→S[k]?=some false→(ix o).all (fun j=>S.getD j false)=true→aao aQ S→Inv S σ→(∀σ',Inv (S.set k true) σ'→F σ')→wt P kv aQ σ o (b3 (fun σ'=>F σ') .mk)
theorem ia{P:Program}{kv:List V}{aQ:List Oper}(Inv:List Bool→St→Prop){N:Nat}(bH:aQ.length=N)(ht:EN 0 aQ=true){σ:St}(h0:Inv (List.replicate N false) σ)(h1:EO (alm P kv aQ Inv) 0 aQ) :
  exE P kv aQ aQ.length (List.replicate aQ.length false) σ (fun σ'=>Inv (List.replicate N true) σ'):=by
 subst bH;have aln:∀(n:Nat) (S:List Bool) (σ:St),S.length=aQ.length→S.count false=n→aao aQ S→Inv S σ→exE P kv aQ n S σ (fun σ'=>Inv (List.replicate aQ.length true) σ'):=by
  intro n
  induction n with
  |zero=>
   intro S σ hl hc hcl aS;have B_:∀b∈S,b=true:=fun b hb=>by
    cases b with
    |true=>rfl
    |false=>have:=List.count_pos_iff.2 hb;omega
   have a1:S=List.replicate aQ.length true:=by
    rw[←hl];exact List.eq_replicate_iff.2 ⟨rfl,B_⟩
   refine⟨?_,a1▸aS⟩;rw[List.eq_nil_iff_forall_not_mem];intro x hx;obtain⟨i,_,h2,_⟩:=Jy aQ [] S x hx;have:=B_ false (List.mem_of_getElem? h2)
   cases this
  |succ n df=>
   intro S σ hl hc hcl aS;refine⟨fun h=>?_,aak fun x hx=>?_⟩
   ·have B_:=alk ht hl h;have:false∈S:=List.count_pos_iff.1 ω;obtain⟨i,hi,he⟩:=List.getElem_of_mem this;have:=B_ i ω;rw[cD hi,he]at this
    cases this
   ·obtain⟨i,h2,ao,aN,b6⟩:=Jy aQ [] S x hx;have hq:=aan aQ 0 i x.1 h1 h2;rw[Nat.zero_add]at hq;refine hq S σ (fun σ'=>exE P kv aQ n x.2 σ' _) hl ao ?_ hcl aS fun σ' alo=>?_
    ·rw[List.all_eq_true];intro j aK;obtain⟨e,he,rfl⟩:=List.mem_map.1 aK;obtain⟨It,Bw⟩:=List.mem_filter.1 he;exact b6 e (by simpa using It) Bw
    ·rw[aN,bx];have:=aam S i ao;refine df (S.set i true) σ' (by simpa using hl) ω (fun a b o aJ ha hb=>?_) alo;have alp:i≠a:=fun e=>by
      subst e;have:i<S.length:=by
       have:=List.getElem?_eq_some_iff.1 ao;exact this.1
      rw[List.getElem?_set_self this]at hb
      cases hb
     rw[List.getElem?_set_ne alp]at hb;have hne:i≠b:=fun e=>by
      subst e;rw[h2]at aJ
      cases aJ
      obtain⟨e,he,rfl⟩:=List.mem_map.1 ha;obtain⟨It,Bw⟩:=List.mem_filter.1 he;have:=b6 e (by simpa using It) Bw;rw[j3,hb]at this
      cases this
     rw[List.getElem?_set_ne hne];exact hcl a b o aJ ha hb
 refine aln aQ.length _ σ ξ ξ (fun a b o aJ ha hb=>?_) h0;have:b<aQ.length:=(List.getElem?_eq_some_iff.1 aJ).1;simp[this]
def jc:Int→List aU→Bool
 |_,[]=>true
 |cU,c::cs=>(decide (c.data≠[])&&decide (cU≤c.aH)&&decide (c.aH≤4611686018427387903-(c.data.length:Int)))&&jc (c.aH+c.data.length+1) cs
theorem E1{cU:Int}{c:aU}{cs:List aU}(h:jc cU (c::cs)=true) :
  c.data≠[]∧cU≤c.aH∧c.aH≤4611686018427387903-(c.data.length:Int)∧jc (c.aH+c.data.length+1) cs=true:=by
 simp only[jc,bW,b8]at h;exact⟨h.1.1.1,h.1.1.2,h.1.2,h.2⟩
def kd(b:mr):Bool:=ca b.next 0 4611686018427387903&&jc b.next b.cp
def p8(b:mr):Int:=if kd b=true then(match b.cp.getLast? with|some c=>c.aH+c.data.length|none=>b.next)else b.next
def yJ(o:Int)(c:aU):Bool:=decide (0≤o)&&decide (0≤c.aH)&&decide (c.aH≤o)&&decide (o-c.aH<c.data.length)
def hK:List aU→Int→Int
 |[],_=>-1
 |c::cs,o=>if yJ o c=true then((((c.data[(o-c.aH).toNat]?).getD 0).toNat:Nat):Int)else hK cs o
theorem xj:∀(cs:List aU) (cU:Int),jc cU cs=true→∀c∈cs,cU≤c.aH∧c.aH≤4611686018427387903-(c.data.length:Int)
 |[],_,_,c,hc=>by cases hc
 |d::cs,cU,h,c,hc=>by
  obtain⟨h1,h2,ao,aN⟩:=E1 h;rcases List.mem_cons.1 hc with rfl|hc
  ·exact⟨h2,ao⟩
  ·have:=xj cs _ aN c hc;omega
theorem R7:∀(cs:List aU) (cU:Int) (l:aU),jc cU cs=true→cs.getLast?=some l→∀c∈cs,c.aH+(c.data.length:Int)≤l.aH+(l.data.length:Int)
 |[],_,_,_,_,c,hc=>by cases hc
 |[d],cU,l,h,hl,c,hc=>by
  simp only[List.getLast?_singleton,b4]at hl;simp only[List.mem_singleton]at hc;subst hl;subst hc;omega
 |d::e::cs,cU,l,h,hl,c,hc=>by
  rw[List.getLast?_cons_cons]at hl;obtain⟨h1,h2,ao,aN⟩:=E1 h;have hr:=R7 (e::cs) _ l aN hl;rcases List.mem_cons.1 hc with rfl|hc
  ·have b6:=xj _ _ aN l (List.mem_of_getLast? hl);omega
  ·exact hr c hc
theorem Db(o:Int)(c:aU):yJ o c=true↔0≤o∧0≤c.aH∧c.aH≤o∧o-c.aH<c.data.length:=by
 simp only[yJ,bW,b8,fJ]
def cellsOf(b:mr):aaS:=⟨(List.range 64).map fun j=>hK b.cp (j:Nat),b.next⟩
theorem R1(o:Int)(d:List UInt8)(h:0≤o∧o≤4611686018427387903-(d.length:Int)):aL 268 [.agg [.int .i64 o,.str d]] [.one (.int .i64 (o+d.length))]:=by
 refine a3 9 func268 call268 [.tmp 2] ?_;intro _;have hw:i64.wrap (o+d.length)=o+d.length:=by rw[bA]<;>omega
 try simp only[go_sem,hw]
 all_goals simp
def zT(cU:Int)(c:aU):Bool:=decide (c.data≠[])&&decide (cU≤c.aH)&&decide (c.aH≤4611686018427387903-(c.data.length:Int))
theorem R2(cU:Int)(xs:List aU)(i:Nat)(h:i<xs.length):jc cU (xs.drop i)=(zT cU xs[i]&&jc (xs[i].aH+xs[i].data.length+1) (xs.drop (i+1))):=by
 rw[List.drop_eq_getElem_cons h];rfl
theorem aaI(xs:List aU)(o:Int)(i:Nat)(h:i<xs.length):hK (xs.drop i) o=if yJ o xs[i]=true then((((xs[i].data[(o-xs[i].aH).toNat]?).getD 0).toNat:Nat):Int)else hK (xs.drop (i+1)) o:=by
 rw[List.drop_eq_getElem_cons h];rfl
theorem Is{n:Int}{xs:List aU}(h:ca n 0 4611686018427387903=true):kd ⟨n,xs⟩=jc n xs:=by
 show(ca n 0 4611686018427387903&&jc n xs)=_;rw[h];rfl
theorem Mh{n:Int}{xs:List aU}(h:ca n 0 4611686018427387903=false):kd ⟨n,xs⟩=false:=by
 show(ca n 0 4611686018427387903&&jc n xs)=_;rw[h];rfl
theorem Mi(cU:Int)(c:aU):zT cU c=true↔c.data≠[]∧cU≤c.aH∧c.aH≤4611686018427387903-(c.data.length:Int):=by
 simp only[zT,bW,b8,fJ]
theorem aaJ(d:List UInt8):decide ((d.length:Int)=0)=decide (d=[]):=by cases d<;>simp;omega
theorem yK(n:Int)(xs:List aU)(hb:∀c∈xs,c.data.length≤1048576)(hx:xs.length≤1048576):aL 238 [.agg [.int .i64 n,.sl 2 (xs.map aU.enc)]] [.one (.bool (kd ⟨n,xs⟩))]:=by
 refine a3 42 func238 call238 [.tmp 2] ?_;intro ok;simp only[go_sem];refine ae.intro (pt n) ?_;simp only[bQ];simp only[go_sem];refine bP (fun h0=>?_) (fun h0=>?_)
 ·have hq:ca n 0 4611686018427387903=false:=by simpa using h0
  simp only[go_sem];rw[Mh hq]
 ·have hq:ca n 0 4611686018427387903=true:=by simpa using h0
  have zU:0≤n∧n≤4611686018427387903:=by simpa [ca]using hq
  simp only[go_sem,I];refine cr.intro (fun p:Nat×Int=>⟨(.al::.ptr 0 0 0::.d (.bool false)::.i p.2::aA 9 (.d (.sl 2 (xs.map aU.enc))::.i xs.length::.i p.1::aA 26 [])),[.box [.i n,.d (.sl 2 (xs.map aU.enc))]]⟩)
   (fun p=>xs.length-p.1) (fun p=>p.1≤xs.length∧0≤p.2∧p.2≤4611686018427387904∧jc p.2 (xs.drop p.1)=jc n xs) (0,n) [0] ⟨by simp,by omega,by omega,rfl⟩ ?_ ?_
  ·simp only[go_sem];simp
  ·rintro⟨i,cU⟩ ⟨hi,xg,aaK,he⟩;simp only at hi xg aaK he;simp only[go_sem];refine bP (fun h1=>?_) (fun h1=>?_)
   ·have ax:=cQ h1;have hlt:i<xs.length:=by omega
    have aB:=cq aU.enc xs i hlt;have hw:=dX (i:=i) (m:=xs.length) hlt (by simp only[maxLen];omega);have wb:=hb xs[i] (eS hlt);have pw:i64.wrap (4611686018427387903-(xs[i].data.length:Int))=4611686018427387903-(xs[i].data.length:Int):=by rw[bA]<;>omega
    have px:=R2 cU xs i hlt;by_cases hok:zT cU xs[i]=true
    ·rw[hok,Bool.true_and]at px;obtain⟨eH,fU,f3⟩:=(Mi _ _).1 hok;have hne:xs[i].data.length≠0:=by simpa using eH
     have ag:=bm (p:=(xs[i].data.length:Int)=0) ω;have ar:=bm (p:=xs[i].aH<cU) ω;have ba:=bm (p:=4611686018427387903-(xs[i].data.length:Int)<xs[i].aH) ω;have xh:i64.wrap (xs[i].aH+(xs[i].data.length:Int)+1)=xs[i].aH+(xs[i].data.length:Int)+1:=by rw[bA]<;>omega
     have R3:0≤xs[i].aH∧xs[i].aH≤4611686018427387903-(xs[i].data.length:Int):=⟨by omega,by omega⟩
     try simp only[go_sem,I,aE,aB,aU.enc,ag]
     repeat'(first|((first|refine ae.intro (by(apply R1<;>exact a6)) ?_|with_reducible refine cN ?_)<;>simp only[go_sem,pw,ar,ba])|(with_reducible refine az ?_)|fail)
     all_goals(refine bE.intro (i+1,xs[i].aH+(xs[i].data.length:Int)+1) [0] ⟨by simp only;omega,by simp only;omega,by simp only;omega,by rw[←he,px]⟩ (by simp only;omega) ?_;simp only[go_sem,hw,xh];try simp)
    ·have aaL:zT cU xs[i]=false:=by simpa using hok
     rw[aaL,Bool.false_and]at px;have hz:(bif bif decide ((xs[i].data.length:Int)=0)then true else decide (xs[i].aH<cU)then true else decide (4611686018427387903-(xs[i].data.length:Int)<xs[i].aH))=true:=by
      rw[aaJ];by_cases cn:xs[i].data=[]
      ·simp[cn]
      ·by_cases cG:xs[i].aH<cU
       ·simp[cn,cG]
       ·by_cases d4:4611686018427387903-(xs[i].data.length:Int)<xs[i].aH
        ·simp[d4]
        ·exact absurd ((Mi _ _).2 ⟨cn,by omega,by omega⟩) hok
     try simp only[go_sem,I,aE,aB,aU.enc]
     repeat'(first|(refine bw ?_<;>simp only[go_sem,pw,hz])|(with_reducible refine az ?_)|fail)
     all_goals(rw[Is hq,←he,px])
   ·have ax:=c2 h1;have hC:i=xs.length:=by omega
    subst hC;simp only[go_sem];rw[Is hq,←he,List.drop_length];rfl
theorem p7(n:Int)(xs:List aU)(hb:∀c∈xs,c.data.length≤1048576)(hx:xs.length≤1048576):aL 271 [.agg [.int .i64 n,.sl 2 (xs.map aU.enc)]] [.one (.bool (kd ⟨n,xs⟩))]:=by
 refine a3 48 func271 call271 [.tmp 2] ?_;intro ok;simp only[go_sem];have zV:ca n 0 4611686018427387903=true→0≤n∧n≤4611686018427387903:=fun h=>by simpa [ca]using h
 have aaM:ca n 0 4611686018427387903=true→-1≤i64.wrap (n-1)∧i64.wrap (n-1)≤4611686018427387903∧jc (i64.wrap (n-1)+1) (xs.drop 0)=jc n xs:=by
  intro hq;have:=zV hq;have Da:i64.wrap (n-1)=n-1:=by rw[bA]<;>omega
  rw[Da];exact⟨by omega,by omega,by rw[show n-1+1=n from by omega,List.drop_zero]⟩
 refine cr.intro (fun p:Nat×Int=>⟨(.al::.ptr 0 0 0::.d (.bool false)::.i p.2::.i p.1::aA 43 []),[.box [.i n,.d (.sl 2 (xs.map aU.enc))]]⟩)
   (fun p=>xs.length-p.1) (fun p=>p.1≤xs.length∧(ca n 0 4611686018427387903=true→-1≤p.2∧p.2≤4611686018427387903∧jc (p.2+1) (xs.drop p.1)=jc n xs)) (0,i64.wrap (n-1)) [0] ⟨by simp,aaM⟩ ?_ ?_
 ·simp only[go_sem];simp
 ·rintro⟨i,e⟩ ⟨hi,hq⟩;simp only at hi hq;simp only[go_sem,I];refine bP (fun h1=>?_) (fun h1=>?_)
  ·have ax:=cQ h1;have hlt:i<xs.length:=by omega
   have aB:=cq aU.enc xs i hlt;have hw:=dX (i:=i) (m:=xs.length) hlt (by simp only[maxLen];omega);have wb:=hb xs[i] (eS hlt);have pw:i64.wrap (4611686018427387903-(xs[i].data.length:Int))=4611686018427387903-(xs[i].data.length:Int):=by rw[bA]<;>omega
   have px:=R2 (e+1) xs i hlt;have hz:(bif bif decide (xs[i].aH≤e)then true else decide (xs[i].data=[])then true else decide (4611686018427387903-(xs[i].data.length:Int)<xs[i].aH))=!zT (e+1) xs[i]:=by
    have Mj:decide (e+1≤xs[i].aH)=!decide (xs[i].aH≤e):=by by_cases g:xs[i].aH≤e<;>simp[g]<;>omega
    have aaN:decide (xs[i].data≠[])=!decide (xs[i].data=[]):=by simp
    have aaO:decide (xs[i].aH≤4611686018427387903-(xs[i].data.length:Int))=!decide (4611686018427387903-(xs[i].data.length:Int)<xs[i].aH):=by by_cases g:4611686018427387903-(xs[i].data.length:Int)<xs[i].aH<;>simp[g]<;>omega
    unfold zT;rw[Mj,aaN,aaO]
    cases decide (xs[i].aH≤e)<;>cases decide (xs[i].data=[])<;>cases decide (4611686018427387903-(xs[i].data.length:Int)<xs[i].aH)<;>rfl
   cases hok:zT (e+1) xs[i]with
   |true=>
    rw[hok]at hz px;simp only[Bool.true_and,bN]at hz px;obtain⟨eH,fU,f3⟩:=(Mi _ _).1 hok
    try simp only[go_sem,I,aE,aB,aU.enc]
    repeat'(first|(refine bw ?_<;>simp only[go_sem,pw,hz])|(with_reducible refine az ?_)|fail)
    all_goals(refine bE.intro (i+1,i64.wrap (xs[i].aH+(xs[i].data.length:Int))) [0] ⟨by simp only;omega,fun xi=>?_⟩ (by simp only;omega) ?_)
    all_goals first
     |(simp only[go_sem,hw];done)
     |(simp only[go_sem,hw];simp;done)
     |(obtain⟨It,Bw,he⟩:=hq xi;have lQ:i64.wrap (xs[i].aH+(xs[i].data.length:Int))=xs[i].aH+(xs[i].data.length:Int):=(by rw[bA]<;>omega);simp only[lQ];exact⟨by omega,by omega,by rw[←he,px]⟩)
   |false=>
    rw[hok]at hz px;simp only[Bool.false_and,cR]at hz px
    try simp only[go_sem,I,aE,aB,aU.enc]
    repeat'(first|(refine bw ?_<;>simp only[go_sem,pw,hz])|(with_reducible refine az ?_)|fail)
    all_goals(cases xi:ca n 0 4611686018427387903 with|false=>rw[Mh xi]|true=>rw[Is xi,←(hq xi).2.2,px])
  ·have ax:=c2 h1;have hC:i=xs.length:=by omega
   subst hC;simp only[go_sem];refine ae.intro (jF n) ?_;simp only[bQ];simp only[go_sem]
   cases xi:ca n 0 4611686018427387903 with
   |false=>rw[Mh xi]
   |true=>rw[Is xi,←(hq xi).2.2,List.drop_length];rfl
theorem R4(n:Int)(xs:List aU)(hb:∀c∈xs,c.data.length≤1048576)(hx:xs.length≤1048576):aL 239 [.agg [.int .i64 n,.sl 2 (xs.map aU.enc)]] [.one (.int .i64 (p8 ⟨n,xs⟩))]:=by
 refine a3 23 func239 call239 [.tmp 2] ?_;intro ok
 cases aS:kd ⟨n,xs⟩with
 |false=>
  have qU:∀b:Bool,(bif b then true else true)=true:=fun b=>by cases b<;>rfl
  try simp only[go_sem]
  repeat'((first|refine ae.intro (by(apply yK<;>exact a6)) ?_|with_reducible refine eB ?_)<;>simp only[go_sem,aS])
  all_goals simp[p8,aS]
 |true=>
  cases ma:xs with
  |nil=>
   rw[←ma];have ag:decide ((xs.length:Int)=0)=true:=by rw[ma];rfl
   have mo:xs.getLast?=none:=by rw[ma];rfl
   try simp only[go_sem]
   repeat'((first|refine ae.intro (by(apply yK<;>exact a6)) ?_|with_reducible refine cN ?_)<;>simp only[go_sem,I,aS,ag])
   all_goals simp[p8,aS,mo]
  |cons aaP aaQ=>
   rw[←ma];have fK:0<xs.length:=by rw[ma];simp
   obtain⟨m,hm⟩:∃m,xs.length=m+1:=⟨xs.length-1,by omega⟩;have hlt:m<xs.length:=by omega
   have aB:=cq aU.enc xs m hlt;have hl:xs.getLast?=some xs[m]:=by rw[List.getLast?_eq_getElem?,hm,Nat.add_sub_cancel,cD]
   have ag:=bm (p:=(xs.length:Int)=0) ω;have hw:i64.wrap ((xs.length:Int)-1)=(m:Int):=by rw[bA]<;>omega
   have hq:=aS;have Mk:0≤n∧jc n xs=true:=by
    simp only[kd,bW,ca,b8]at hq;exact⟨hq.1.1,hq.2⟩
   have hc:=xj xs n Mk.2 xs[m] (eS hlt);have R3:0≤xs[m].aH∧xs[m].aH≤4611686018427387903-(xs[m].data.length:Int):=⟨by omega,hc.2⟩;have xh:i64.wrap (xs[m].aH+(xs[m].data.length:Int))=xs[m].aH+(xs[m].data.length:Int):=by rw[bA]<;>omega
   try simp only[go_sem]
   repeat'(first|((first|refine ae.intro (by first|(apply yK<;>exact a6)|(apply R1<;>exact a6)) ?_|with_reducible refine cN ?_)<;>simp only[go_sem,I,aE,aB,aU.enc,aS,ag,hw])|(with_reducible refine az ?_)|fail)
   all_goals simp[p8,aS,hl]
theorem R5(n:Int)(xs:List aU)(hb:∀c∈xs,c.data.length≤1048576)(hx:xs.length≤1048576):aL 272 [.agg [.int .i64 n,.sl 2 (xs.map aU.enc)]] [.one (.int .i64 (p8 ⟨n,xs⟩))]:=by
 refine a3 29 func272 call272 [.tmp 2] ?_;intro ok
 cases aS:kd ⟨n,xs⟩with
 |false=>
  have qU:∀b:Bool,(bif b then true else true)=true:=fun b=>by cases b<;>rfl
  try simp only[go_sem,I]
  repeat'((first|refine ay.intro (by(apply p7<;>exact a6)) ?_|refine bw ?_)<;>simp only[go_sem,aS,qU])
  all_goals simp[p8,aS]
 |true=>
  cases ma:xs with
  |nil=>
   rw[←ma];have ag:decide ((xs.length:Int)=0)=true:=by rw[ma];rfl
   have mo:xs.getLast?=none:=by rw[ma];rfl
   try simp only[go_sem,I,ag]
   repeat'(first|(with_reducible refine eB ?_<;>simp only[go_sem]))
   all_goals simp[p8,aS,mo]
  |cons aaP aaQ=>
   rw[←ma];have fK:0<xs.length:=by rw[ma];simp
   obtain⟨m,hm⟩:∃m,xs.length=m+1:=⟨xs.length-1,by omega⟩;have hlt:m<xs.length:=by omega
   have aB:=cq aU.enc xs m hlt;have hl:xs.getLast?=some xs[m]:=by rw[List.getLast?_eq_getElem?,hm,Nat.add_sub_cancel,cD]
   have ag:=bm (p:=(xs.length:Int)=0) ω;have hw:i64.wrap ((xs.length:Int)-1)=(m:Int):=by rw[bA]<;>omega
   have hq:=aS;have Mk:0≤n∧jc n xs=true:=by
    simp only[kd,bW,ca,b8]at hq;exact⟨hq.1.1,hq.2⟩
   have hc:=xj xs n Mk.2 xs[m] (eS hlt);have R3:0≤xs[m].aH∧xs[m].aH≤4611686018427387903-(xs[m].data.length:Int):=⟨by omega,hc.2⟩;have xh:i64.wrap (xs[m].aH+(xs[m].data.length:Int))=xs[m].aH+(xs[m].data.length:Int):=by rw[bA]<;>omega
   try simp only[go_sem,I,ag]
   repeat'(first|((first|refine ae.intro (by(apply p7<;>exact a6)) ?_|with_reducible refine cN ?_)<;>simp only[go_sem,I,aE,aB,aU.enc,aS,hw,xh])|(with_reducible refine az ?_)|fail)
   all_goals simp[p8,aS,hl]
theorem R6(n:Int)(xs:List aU)(o:Int)(hb:∀c∈xs,c.data.length≤1048576)(hx:xs.length≤1048576):aL 314 [.agg [.int .i64 n,.sl 2 (xs.map aU.enc)],.one (.int .i64 o)] [.one (.int .i64 (hK xs o))]:=by
 refine a3 57 func314 call314 [.tmp 4] ?_;intro ok;have aJ:=EY ok.2.1;simp only[go_sem];refine cr.intro (fun i:Nat=>⟨(.al::.i o::.ptr 0 0 0::.al::.i 0::.i i::aA 51 []),[.box [.i n,.d (.sl 2 (xs.map aU.enc))]]⟩)
   (fun i=>xs.length-i) (fun i=>i≤xs.length∧hK (xs.drop i) o=hK xs o) 0 [0] ⟨by omega,rfl⟩ ?_ ?_
 ·simp only[go_sem];simp
 ·rintro i ⟨hi,he⟩;simp only[go_sem,I];refine bP (fun h1=>?_) (fun h1=>?_)
  ·have ax:=cQ h1;have hlt:i<xs.length:=by omega
   have aB:=cq aU.enc xs i hlt;have hw:=dX (i:=i) (m:=xs.length) hlt (by simp only[maxLen];omega);have wb:=hb xs[i] (eS hlt);have EZ:=aaI xs o i hlt;by_cases hh:yJ o xs[i]=true
   ·rw[if_pos hh]at EZ;obtain⟨eH,fU,f3,Bx⟩:=(Db _ _).1 hh;obtain⟨k,hk⟩:=kt (show 0≤o-xs[i].aH by omega);have yL:i64.wrap (o-xs[i].aH)=(k:Int):=by rw[bA]<;>omega
    have u':k<xs[i].data.length:=by omega
    have Ml:xs[i].data[k]?=some xs[i].data[k]:=cD u';have Dc:i64.wrap ((xs[i].data[k].toNat:Nat):Int)=((xs[i].data[k].toNat:Nat):Int):=by have:=xs[i].data[k].toNat_lt;rw[bA]<;>omega
    have ag:=bC (p:=0≤o) eH;have ar:=bC (p:=0≤xs[i].aH) fU;have ba:=bC (p:=(0:Int)≤(k:Int)) ω;have bF:=bC (p:=(k:Int)<(xs[i].data.length:Int)) ω;rw[hk,aE,Ml,fh]at EZ
    try simp only[go_sem,I,aE,aB,aU.enc,yL,ag,fh]
    repeat'(first|(with_reducible refine cN ?_<;>simp only[go_sem,I,aE,aB,aU.enc,ar,ba,bF,Ml,Dc,fh])|(with_reducible refine az ?_)|fail)
    all_goals(rw[←he,EZ])
   ·rw[if_neg hh]at EZ;have hz:(bif bif bif decide (0≤o)then decide (0≤xs[i].aH)else false then decide (0≤i64.wrap (o-xs[i].aH))else false then decide (i64.wrap (o-xs[i].aH)<(xs[i].data.length:Int))else false)=false:=by
     by_cases cn:0≤o
     ·by_cases cG:0≤xs[i].aH
      ·have alx:=EY (n:=o-xs[i].aH) (by
        have h1:IntKind.i64.min=-9223372036854775808:=by decide
        have h2:IntKind.i64.max=9223372036854775807:=by decide
        have ao:=Mm ok.1.2.1.2 _ (List.mem_map.2 ⟨xs[i],eS hlt,rfl⟩);have aN:=EY ao.1;simp only[dOk,h1,h2];omega)
       have yL:i64.wrap (o-xs[i].aH)=o-xs[i].aH:=by rw[bA]<;>omega
       rw[yL];by_cases d4:0≤o-xs[i].aH
       ·have ic:¬o-xs[i].aH<(xs[i].data.length:Int):=fun ic=>hh ((Db _ _).2 ⟨cn,cG,by omega,ic⟩);simp[ic]
       ·simp[show ¬xs[i].aH≤o from by omega]
      ·simp[cG]
     ·simp[cn]
    try simp only[go_sem,I,aE,aB,aU.enc]
    repeat'(first|(refine bw ?_<;>simp only[go_sem,I,aE,aB,aU.enc,hz])|(with_reducible refine az ?_)|fail)
    all_goals(refine bE.intro (i+1) [0] ⟨by omega,by rw[←he,EZ]⟩ ω ?_;simp only[go_sem,hw];try simp)
  ·have ax:=c2 h1;have hC:i=xs.length:=by omega
   subst hC;simp only[go_sem];rw[←he,List.drop_length];rfl
def yM:List (List bR):=cS 19 [1162261466,1162261464,1162261458,1162261440,1162261386,1162261224,1162260738,1162259280,1162254906,1162241784,1104806790,1104688692,1104334398,1103271516,1100082870,1155057489,1126359675,1033121304,774840978]
attribute [go_sem] yM
def Iu(n:Int):List aU→Nat
 |[]=>0
 |c::_=>if c.aH=n then c.data.length else 0
def k7(n:Int)(xs:List aU):Nat:=if kd ⟨n,xs⟩=true then Iu n xs else 0
def mq(xs:List aU):List J:=xs.map fun c=>⟨c.aH,c.aH+c.data.length⟩
def Dd(n:Int)(xs:List aU):List J:=if kd ⟨n,xs⟩=true then mq xs else []
theorem aaR(n:Int)(xs:List aU)(hb:∀c∈xs,c.data.length≤1048576)(hx:xs.length≤1048576):aL 269 [.agg [.int .i64 n,.sl 2 (xs.map aU.enc)]] [.one (.int .i64 (k7 n xs))]:=by
 refine a3 28 func269 call269 [.tmp 2] ?_;intro ok
 cases aS:kd ⟨n,xs⟩with
 |false=>
  try simp only[go_sem]
  repeat'((first|refine ay.intro (by(apply yK<;>exact a6)) ?_|with_reducible refine lR ?_|refine bo yM χ ψ ?_)<;>simp only[go_sem,aS])
  all_goals simp[k7,aS]
 |true=>
  by_cases hl:xs.length=0
  ·have ag:=bC (p:=(xs.length:Int)=0) ω
   try simp only[go_sem]
   repeat'((first|refine ay.intro (by(apply yK<;>exact a6)) ?_|with_reducible refine nt ?_|with_reducible refine lR ?_|refine bo yM χ ψ ?_)<;>simp only[go_sem,I,aS,ag])
   all_goals simp[k7,Iu,List.length_eq_zero_iff.1 hl]
  ·have hlt:0<xs.length:=by omega
   have ag:=bm (p:=(xs.length:Int)=0) ω;have aB:=cq aU.enc xs 0 hlt;have hr:k7 n xs=if xs[0].aH=n then xs[0].data.length else 0:=by
    unfold k7;rw[if_pos aS]
    cases xs with
    |nil=>exact absurd rfl hl
    |cons c cs=>rfl
   by_cases hc:xs[0].aH=n
   ·have ar:=bm (p:=xs[0].aH≠n) (by simpa using hc)
    try simp only[go_sem]
    repeat'(first|((first|refine ay.intro (by(apply yK<;>exact a6)) ?_|with_reducible refine nt ?_|refine bo yM χ ψ ?_)<;>simp only[go_sem,I,aS,aB,aU.enc,ag,ar,el])|(with_reducible refine az ?_)|fail)
    all_goals simp[hr,hc]
   ·have ar:=bC (p:=xs[0].aH≠n) hc
    try simp only[go_sem]
    repeat'(first|((first|refine ay.intro (by(apply yK<;>exact a6)) ?_|with_reducible refine nt ?_|refine bo yM χ ψ ?_)<;>simp only[go_sem,I,aS,aB,aU.enc,ag,ar,el])|(with_reducible refine az ?_)|fail)
    all_goals simp[hr,hc]
theorem E0(n:Int)(xs:List aU)(hb:∀c∈xs,c.data.length≤1048576)(hx:xs.length≤1048576):aL 273 [.agg [.int .i64 n,.sl 2 (xs.map aU.enc)]] [.one (.int .i64 (k7 n xs))]:=by
 refine a3 28 func273 call273 [.tmp 2] ?_;intro ok
 cases aS:kd ⟨n,xs⟩with
 |false=>
  try simp only[go_sem]
  repeat'((first|refine ay.intro (by(apply p7<;>exact a6)) ?_|with_reducible refine lR ?_|refine bo yM χ ψ ?_)<;>simp only[go_sem,aS])
  all_goals simp[k7,aS]
 |true=>
  by_cases hl:xs.length=0
  ·have ag:=bC (p:=(xs.length:Int)=0) ω
   try simp only[go_sem]
   repeat'((first|refine ay.intro (by(apply p7<;>exact a6)) ?_|with_reducible refine nt ?_|with_reducible refine lR ?_|refine bo yM χ ψ ?_)<;>simp only[go_sem,I,aS,ag])
   all_goals simp[k7,Iu,List.length_eq_zero_iff.1 hl]
  ·have hlt:0<xs.length:=by omega
   have ag:=bm (p:=(xs.length:Int)=0) ω;have aB:=cq aU.enc xs 0 hlt;have hr:k7 n xs=if xs[0].aH=n then xs[0].data.length else 0:=by
    unfold k7;rw[if_pos aS]
    cases xs with
    |nil=>exact absurd rfl hl
    |cons c cs=>rfl
   by_cases hc:xs[0].aH=n
   ·have ar:=bm (p:=xs[0].aH≠n) (by simpa using hc)
    try simp only[go_sem]
    repeat'(first|((first|refine ay.intro (by(apply p7<;>exact a6)) ?_|with_reducible refine nt ?_|refine bo yM χ ψ ?_)<;>simp only[go_sem,I,aS,aB,aU.enc,ag,ar,el])|(with_reducible refine az ?_)|fail)
    all_goals simp[hr,hc]
   ·have ar:=bC (p:=xs[0].aH≠n) hc
    try simp only[go_sem]
    repeat'(first|((first|refine ay.intro (by(apply p7<;>exact a6)) ?_|with_reducible refine nt ?_|refine bo yM χ ψ ?_)<;>simp only[go_sem,I,aS,aB,aU.enc,ag,ar,el])|(with_reducible refine az ?_)|fail)
    all_goals simp[hr,hc]
def Sb:List (List bR):=cS 10 [55772,55770,57991,57973,58765,58927,58360,56866,52488,39366]
def Sc:List (List bR):=cS 6 [698,700,693,634,675,486]
attribute [go_sem] Sb Sc
def n4(n:Int)(xs:List aU)(ck:Int):Nat:=min (k7 n xs) ck.toNat
def Iw(xs:List aU):List UInt8:=(xs.getD 0 ⟨0,[]⟩).data
def By(n:Int)(xs:List aU)(ck:Int):List UInt8:=(Iw xs).take (n4 n xs ck)
def vb(n:Int)(xs:List aU)(ck:Int):List aU:=
 if n4 n xs ck=0 then xs else if n4 n xs ck=(Iw xs).length then xs.drop 1 else⟨n+n4 n xs ck,(Iw xs).drop (n4 n xs ck)⟩::xs.drop 1
theorem Mq{n:Int}{xs:List aU}(h:k7 n xs≠0):kd ⟨n,xs⟩=true∧∃hl:0<xs.length,xs[0].aH=n∧k7 n xs=xs[0].data.length∧Iw xs=xs[0].data:=by
 unfold k7 at h⊢;by_cases aS:kd ⟨n,xs⟩=true
 ·rw[if_pos aS]at h⊢
  cases xs with
  |nil=>exact absurd rfl h
  |cons c cs=>
   simp only[Iu]at h⊢;by_cases hc:c.aH=n
   ·rw[if_pos hc];exact⟨aS,by simp,hc,rfl,rfl⟩
   ·rw[if_neg hc]at h;exact absurd rfl h
 ·rw[if_neg aS]at h;exact absurd rfl h
theorem Ms{n:Int}{xs:List aU}(h:kd ⟨n,xs⟩=true):0≤n∧n≤4611686018427387903∧jc n xs=true:=by
 simp only[kd,bW,ca,b8]at h;exact⟨h.1.1,h.1.2,h.2⟩
theorem aaZ{α β:Type}(f:α→β)(xs:List α)(y:β)(h:0<xs.length):(xs.map f).set 0 y=y::(xs.drop 1).map f:=by
 cases xs with
 |nil=>simp at h
 |cons x xs=>rfl
theorem aa0(n:Int)(xs:List aU)(ck:Int)(hb:∀c∈xs,c.data.length≤1048576)(hx:xs.length≤1048576):aL 283 [.agg [.int .i64 n,.sl 2 (xs.map aU.enc)],.one (.int .i64 ck)] [.one (.str (By n xs ck)),.agg [.int .i64 (n+n4 n xs ck),.sl 2 ((vb n xs ck).map aU.enc)]]:=by
 refine a3 53 func283 call283 [.tmp 4,.cell 5 60] ?_;intro ok;have E3:xs.length≤1048577:=by omega
 cases hk:n4 n xs ck with
 |zero=>
  have hm:(if(if ck<0 then 0 else ck)<(k7 n xs:Int)then(if ck<0 then 0 else ck)else(k7 n xs:Int))=0:=by
   unfold n4 at hk;split<;>split<;>omega
  try simp only[go_sem]
  repeat'(first|((first|refine ae.intro (by first|(apply E0<;>exact a6)|(apply zY<;>exact a6)) ?_|refine bo [[.post,.dN,.post],[.dN,.post,.post],[.pre,.pre,.post]] χ ψ ?_)<;>simp only[go_sem,I,hm])|(with_reducible refine az ?_)|fail)
  all_goals simp[By,vb,hk]
 |succ k=>
  have hr:k7 n xs≠0:=by unfold n4 at hk;omega
  obtain⟨aS,hlt,aJ,wc,E2⟩:=Mq hr;obtain⟨zV,we,hc⟩:=Ms aS;have hm:(if(if ck<0 then 0 else ck)<(k7 n xs:Int)then(if ck<0 then 0 else ck)else(k7 n xs:Int))=((k+1:Nat):Int):=by
   unfold n4 at hk;split<;>split<;>omega
  have E4:=bm (p:=((k+1:Nat):Int)=0) ω;have aB:=cq aU.enc xs 0 hlt;have wb:=hb xs[0] (eS hlt);have u':k+1≤xs[0].data.length:=by unfold n4 at hk;omega
  have n5:=xj xs n hc xs[0] (eS hlt);have hw:i64.wrap (n+((k+1:Nat):Int))=n+((k+1:Nat):Int):=by rw[bA]<;>omega
  have p_:xs[0].data.take (k+1)=By n xs ck:=by unfold By;rw[E2,hk]
  by_cases hq:k+1=xs[0].data.length
  ·have ag:=bC (p:=((k+1:Nat):Int)=(xs[0].data.length:Int)) ω;have dF:vb n xs ck=xs.drop 1:=by unfold vb;rw[hk,E2,if_neg ω,if_pos hq]
   try simp only[go_sem]
   repeat'(first|(refine ae.intro (by first|(apply E0<;>exact a6)|(apply zY<;>exact a6)) ?_<;>simp only[go_sem,I,hm,E4,aB,aU.enc,el,hw,ag])|(with_reducible refine az ?_)|fail)
   have bt:1+(xs.length-1)≤xs.length:=by omega
   have ht:List.take (xs.length-1) (List.drop 1 (List.map aU.enc xs))=(xs.drop 1).map aU.enc:=by
    rw[e7 ξ,List.map_drop]
   rw[if_pos bt,ht];refine ae.intro (zY (n+((k+1:Nat):Int)) (xs.drop 1) (by simp;omega)) ?_
   try simp only[go_sem,I]
   repeat'(first|(with_reducible refine az ?_)|fail)
   all_goals(
    have mb:By n xs ck=xs[0].data:=by rw[←p_,hq];exact d3
    rw[mb,dF])
  ·have ag:=bm (p:=((k+1:Nat):Int)=(xs[0].data.length:Int)) ω;have dF:vb n xs ck=⟨n+((k+1:Nat):Int),xs[0].data.drop (k+1)⟩::xs.drop 1:=by unfold vb;rw[hk,E2,if_neg ω,if_neg hq]
   try simp only[go_sem]
   repeat'(first|((first|refine ae.intro (by first|(apply E0<;>exact a6)|(apply zY<;>exact a6)) ?_|refine bo Sb χ ψ ?_|refine bo Sc χ ψ ?_)<;>simp only[go_sem,I,hm,E4,aB,aU.enc,el,aE,hw,ag])|(with_reducible refine az ?_)|fail)
   all_goals(
    have aa1:List.take (xs[0].data.length-(k+1)) (List.drop (k+1) xs[0].data)=List.drop (k+1) xs[0].data:=e7 ξ;rw[aa1,aaZ aU.enc xs _ hlt];have mo:xs.length=(([D.int .i64 (n+((k+1:Nat):Int)),D.str (List.drop (k+1) xs[0].data)]:List D)::(xs.drop 1).map aU.enc).length:=by simp;omega
    rw[if_pos (Nat.le_of_eq mo),e7 (Nat.le_of_eq mo.symm),Nat.sub_zero,p_,dF];simp[outOA,aU.enc])
def R_:List (List bR):=cS 25 [800217020030,842058433906,842058433900,842058433921,842058433855,842058433693,842058433207,845545993627,845545989253,845546004562,845545956448,845545838350,845545484056,847273463374,847270274728,847281434989,847246359883,847160266441,846901986115,846127145137,843801826135,836828256241,815907549835,753145430616,564859072962]
def Mr:List (List bR):=cS 9 [16439,16441,16434,16416,19399,19561,18994,17536,13122]
attribute [go_sem] R_ Mr
theorem aaV(xs:List aU)(i:Nat)(h:i<xs.length):mq (xs.take (i+1))=mq (xs.take i)++[⟨xs[i].aH,xs[i].aH+xs[i].data.length⟩]:=by
 unfold mq;rw[gV,cD h,Option.toList_some,List.map_append];rfl
theorem Iv(xs:List aU):(mq xs).length=xs.length:=by simp[mq]
theorem aaW(n:Int)(xs:List aU)(hb:∀c∈xs,c.data.length≤1048576)(hx:xs.length≤1048576):aL 313 [.agg [.int .i64 n,.sl 2 (xs.map aU.enc)]] [.one (.sl 2 ((Dd n xs).map J.enc))]:=by
 refine a3 42 func313 call313 [.tmp 2] ?_;intro ok
 cases aS:kd ⟨n,xs⟩with
 |false=>
  try simp only[go_sem]
  refine cr.intro (fun _:Unit=>⟨(.al::.ptr 0 0 0::.ee 2::.sl 1 0 0::.i 0::aA 37 []),[.box [.i n,.d (.sl 2 (xs.map aU.enc))],.ah 2 [] true]⟩)
   (fun _=>0) (fun _=>True) () [0,1] trivial ?_ ?_
  ·simp only[go_sem];simp
  ·rintro _ _;have R':∀b:Bool,(bif b then false else false)=false:=fun b=>by cases b<;>rfl
   try simp only[go_sem,I]
   repeat'(first|((first|refine ay.intro (by(apply p7<;>exact a6)) ?_|refine bw ?_)<;>simp only[go_sem,aS,R'])|(with_reducible refine az ?_)|fail)
   all_goals simp[Dd,aS]
 |true=>
  obtain⟨zV,we,zX⟩:=Ms aS;have bj:Dd n xs=mq xs:=by unfold Dd;rw[if_pos aS]
  try simp only[go_sem]
  refine cr.intro (fun i:Nat=>⟨(.al::.ptr 0 0 0::.ee 2::.sl 1 0 (mq (xs.take i)).length::.i i::aA 37 []),[.box [.i n,.d (.sl 2 (xs.map aU.enc))],.ah 2 ((mq (xs.take i)).map J.enc) true]⟩)
   (fun i=>xs.length-i) (fun i=>i≤xs.length) 0 [0,1] ω ?_ ?_
  ·simp only[go_sem];simp[mq]
  ·intro i hi;have wc:(mq (xs.take i)).length≤1048576:=by rw[Iv,List.length_take];omega
   by_cases hlt:i<xs.length
   ·have aB:=cq aU.enc xs i hlt;have hw:=dX (i:=i) (m:=xs.length) hlt (by simp only[maxLen];omega);have n5:=xj _ _ zX xs[i] (eS hlt);have wb:=hb xs[i] (eS hlt);have xh:i64.wrap (xs[i].aH+(xs[i].data.length:Int))=xs[i].aH+(xs[i].data.length:Int):=by rw[bA]<;>omega
    have hs:=aaV xs i hlt;have ag:=bC (p:=(i:Int)<(xs.length:Int)) ω
    try simp only[go_sem,I,ag]
    repeat'(first|((first|refine ae.intro (by(apply p7<;>exact a6)) ?_|with_reducible refine cN ?_|refine bo R_ χ ψ ?_)<;>simp only[go_sem,I,aE,aB,aU.enc,hw,xh,aS])|(with_reducible refine az ?_)|fail)
    all_goals(refine bE.intro (i+1) [0,3] ω ω ?_;simp only[go_sem,hs];simp[J.enc])
   ·have ag:=bm (p:=(i:Int)<(xs.length:Int)) ω;have hC:i=xs.length:=by omega
    try simp only[go_sem,I,ag]
    repeat'(first|(with_reducible refine eB ?_<;>simp only[go_sem,I])|(with_reducible refine az ?_)|fail)
    all_goals(rw[hC,d3,bj];try simp[outOA,e7])
theorem aaX(xs ys:List J):aL 232 [.one (.sl 2 (xs.map J.enc)),.one (.sl 2 (ys.map J.enc))] [.one (.bool (decide (xs=ys)))]:=by
 refine a3 26 func232 call232 [.tmp 4] ?_;intro ok;have hm:=fI ok;by_cases hl:xs.length=ys.length
 ·have dc:=bm (p:=(xs.length:Int)≠(ys.length:Int)) ω
  try simp only[go_sem,I,dc]
  refine cr.intro (fun i:Nat=>⟨(.d (.sl 2 (xs.map J.enc))::.d (.sl 2 (ys.map J.enc))::.al::.al::.d (.bool false)::.i i::aA 20 []),[]⟩)
   (fun i=>xs.length-i) (fun i=>i≤xs.length∧xs.take i=ys.take i) 0 [] ⟨by omega,by simp⟩ ?_ ?_
  ·simp only[go_sem];simp
  ·rintro i ⟨hi,he⟩;simp only[go_sem,I];refine bP (fun h1=>?_) (fun h1=>?_)
   ·have ax:=cQ h1;have hlt:i<xs.length:=by omega
    have Sa:i<ys.length:=by omega
    have aB:=cq J.enc xs i hlt;have n3:=cq J.enc ys i Sa;have hw:=dX hlt hm;by_cases hq:xs[i]=ys[i]
    ·have dx:xs.take (i+1)=ys.take (i+1):=by
      rw[gV,gV,he,cD hlt,cD Sa,hq]
     try simp only[go_sem]
     repeat'(first|(refine bo Mr χ ψ ?_<;>simp only[go_sem,I,aE,aB,n3,hq,J.enc,hw])|(with_reducible refine az ?_)|fail)
     all_goals(refine bE.intro (i+1) [] ⟨by omega,dx⟩ ω ?_;simp only[go_sem])
    ·have aaY:xs≠ys:=fun h=>hq (by simp only[h]);have hne:(!(decide (xs[i].low=ys[i].low)&&decide (xs[i].high=ys[i].high)))=true:=by
      have:¬(xs[i].low=ys[i].low∧xs[i].high=ys[i].high):=fun h=>hq (by
       have ag:=h.1;have ar:=h.2;generalize xs[i]=a at ag ar;generalize ys[i]=b at ag ar
       cases a;cases b;simp only at ag ar;rw[ag,ar])
      rw[←Bool.decide_and,bm this];rfl
     try simp only[go_sem]
     repeat'(first|(refine bo Mr χ ψ ?_<;>simp only[go_sem,I,aE,aB,n3,J.enc,hne])|(with_reducible refine az ?_)|fail)
     all_goals simp[aaY]
   ·have ax:=c2 h1;have hC:i=xs.length:=by omega
    rw[e7 ω,e7 ω]at he;simp only[go_sem];simp[he]
 ·have dc:=bC (p:=(xs.length:Int)≠(ys.length:Int)) ω;have hne:xs≠ys:=fun h=>hl (by rw[h])
  try simp only[go_sem,I,dc]
  all_goals simp[hne]
def qD(o:Int)(c:aU):Int:=if yJ o c=true then((((c.data[(o-c.aH).toNat]?).getD 0).toNat:Nat):Int)else -1
theorem Xx{o:Int}{c:aU}(h:qD o c≠-1):0≤o∧0≤c.aH∧c.aH≤o∧o-c.aH<c.data.length:=by
 unfold qD at h;by_cases g:yJ o c=true
 ·exact(Db _ _).1 g
 ·rw[if_neg g]at h;exact absurd rfl h
theorem KI{o:Int}{c:aU}(h:¬(0≤o∧0≤c.aH∧c.aH≤o∧o-c.aH<c.data.length)):qD o c=-1:=by
 unfold qD;rw[if_neg (fun g=>h ((Db _ _).1 g))]
theorem zu{o:Int}{c:aU}(h:0≤o∧0≤c.aH∧c.aH≤o∧o-c.aH<c.data.length):qD o c=((((c.data[(o-c.aH).toNat]?).getD 0).toNat:Nat):Int):=by
 unfold qD;rw[if_pos ((Db _ _).2 h)]
theorem vU(o:Int)(c:aU):∀cs,hK (cs++[c]) o=if hK cs o=-1 then qD o c else hK cs o
 |[]=>by simp[hK,qD]
 |d::cs=>by
  rw[bz,hK,hK];by_cases h:yJ o d=true
  ·rw[if_pos h,if_pos h,if_neg ω]
  ·rw[if_neg h,if_neg h];exact vU o c cs
theorem PG(c:aU):∀(cs:List aU) (cU:Int),jc cU cs=true→(∀d∈cs,d.aH+(d.data.length:Int)<c.aH)→cU≤c.aH→c.data≠[]→c.aH≤4611686018427387903-(c.data.length:Int)→jc cU (cs++[c])=true
 |[],cU,_,_,h1,h2,ao=>by simp only[bx,jc,bW,b8,and_true];exact⟨⟨h2,h1⟩,ao⟩
 |d::cs,cU,h,hd,h1,h2,ao=>by
  obtain⟨k1,k2,dR,i1⟩:=E1 h;have:=hd d ξ;simp only[bz,jc,bW,b8];exact⟨⟨⟨k1,k2⟩,dR⟩,PG c cs _ i1 (fun e he=>hd e (by simp[he])) ω h2 ao⟩
theorem Xy(l:aU)(x:List UInt8):∀(cs:List aU) (cU:Int),jc cU (cs++[l])=true→l.aH≤4611686018427387903-((l.data++x).length:Int)→jc cU (cs++[⟨l.aH,l.data++x⟩])=true
 |[],cU,h,h1=>by
  obtain⟨k1,k2,dR,i1⟩:=E1 h;simp only[bx,jc,bW,b8,and_true];exact⟨⟨by simp[k1],k2⟩,h1⟩
 |d::cs,cU,h,h1=>by
  obtain⟨k1,k2,dR,i1⟩:=E1 h;simp only[bz,jc,bW,b8];exact⟨⟨⟨k1,k2⟩,dR⟩,Xy l x cs _ i1 h1⟩
def yd(ed:List aU)(c:aU):List aU:=
 match ed.getLast? with
 |some l=>if l.aH+l.data.length=c.aH then ed.dropLast++[⟨l.aH,l.data++c.data⟩]else ed++[c]
 |none=>ed++[c]
def qE(xs:List aU):List aU:=xs.foldl yd []
theorem Cu(xs:List aU)(c:aU):qE (xs++[c])=yd (qE xs) c:=by
 unfold qE;rw[List.foldl_append];rfl
theorem Xz{ed:List aU}{l:aU}(h:ed.getLast?=some l):ed=ed.dropLast++[l]:=by
 obtain⟨ys,e⟩:=List.getLast?_eq_some_iff.1 h;rw[e];simp
theorem KJ(ed:List aU)(c:aU):(yd ed c).length≤ed.length+1:=by
 unfold yd;split
 ·split<;>simp
 ·simp
structure PH(cU e:Int)(ed:List aU)(f:Int→Int):Prop where
 Ht:jc cU ed=true
 rl:∀c∈ed,c.aH+(c.data.length:Int)≤e
 Es:∀o,hK ed o=f o
theorem PH.step{cU e:Int}{ed:List aU}{f:Int→Int}(h:PH cU e ed f)(c:aU)(h0:0≤cU)(hl:cU≤c.aH)(he:e≤c.aH)(hd:c.data≠[])(hm:c.aH≤4611686018427387903-(c.data.length:Int)) :
  PH cU (c.aH+c.data.length) (yd ed c) (fun o=>if f o=-1 then qD o c else f o):=by
 unfold yd;split
 ·rename_i l q4;have hs:=Xz q4;have Gf:l∈ed:=List.mem_of_getLast? q4;have bt:=h.rl l Gf;have G2:=xj _ _ h.Ht l Gf;split
  ·rename_i asR;have hb:∀o,hK (ed.dropLast++[⟨l.aH,l.data++c.data⟩]) o=hK (ed++[c]) o:=by
    intro o;rw[vU,vU]
    conv=>rhs;rw[hs]
    rw[vU];by_cases g:hK ed.dropLast o=-1
    ·simp only[if_pos g];by_cases cn:qD o l=-1
     ·rw[if_pos cn];by_cases cG:qD o c=-1
      ·rw[cG];refine KI fun k=>?_;simp only[dY,Int.natCast_add]at k;by_cases d4:o-l.aH<l.data.length
       ·rw[zu ω]at cn;omega
       ·rw[zu ω]at cG;omega
      ·have k:=Xx cG;rw[zu k,zu (by simp only[dY,Int.natCast_add];omega)];simp only;rw[List.getElem?_append_right ω];have:(o-l.aH).toNat-l.data.length=(o-c.aH).toNat:=by omega
       rw[this]
     ·rw[if_neg cn];have k:=Xx cn;rw[zu k,zu (by simp only[dY,Int.natCast_add];omega)];simp only;rw[List.getElem?_append_left ω]
    ·simp only[if_neg g]
   refine⟨?_,?_,?_⟩
   ·refine Xy l c.data _ _ (hs▸h.Ht) ?_;simp only[dY,Int.natCast_add];omega
   ·intro d nR;rcases fi.1 nR with nR|nR
    ·have:=h.rl d (List.dropLast_subset _ nR);omega
    ·rw[List.mem_singleton.1 nR];simp only[dY,Int.natCast_add];omega
   ·intro o;rw[hb o,vU,h.Es o]
  ·rename_i hne;refine⟨PG c ed cU h.Ht (fun d nR=>?_) hl hd hm,?_,fun o=>by rw[vU,h.Es o]⟩
   ·have:=R7 _ _ _ h.Ht q4 d nR;omega
   ·intro d nR;rcases fi.1 nR with nR|nR
    ·have:=h.rl d nR;omega
    ·rw[List.mem_singleton.1 nR];omega
 ·rename_i hn;have JN:ed=[]:=List.getLast?_eq_none_iff.1 hn;refine⟨PG c ed cU h.Ht (fun d nR=>by rw[JN]at nR;cases nR) hl hd hm,?_,fun o=>by rw[vU,h.Es o]⟩;intro d nR;rw[JN]at nR;rw[List.mem_singleton.1 nR];omega
def i0(e:Int):Int→List aU→Bool
 |cU,[]=>decide (cU≤e)
 |cU,c::cs=>decide (c.data≠[])&&decide (cU≤c.aH)&&i0 e (c.aH+c.data.length) cs
theorem XA{e cU:Int}{c:aU}{cs:List aU}(h:i0 e cU (c::cs)=true):c.data≠[]∧cU≤c.aH∧i0 e (c.aH+c.data.length) cs=true:=by
 simp only[i0,bW,b8]at h;exact⟨h.1.1,h.1.2,h.2⟩
theorem PI{e:Int}:∀{cs:List aU} {cU:Int},i0 e cU cs=true→cU≤e
 |[],cU,h=>by simpa [i0]using h
 |c::cs,cU,h=>by obtain⟨h1,h2,ao⟩:=XA h;have:=PI ao;omega
end Gv
