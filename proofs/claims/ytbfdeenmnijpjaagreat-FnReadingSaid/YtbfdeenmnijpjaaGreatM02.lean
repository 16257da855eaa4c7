/-
  Part of the proof: the machine, what functions compute, and the plain laws.
-/
import Derived.Test.YtbfdeenmnijpjaaGreatM01
import Derived.Test.YtbfdeenmnijpjaaGreatChecked
namespace Gv
open Go Go.Proofs
theorem I{α:Type _}{β:Type _}{xs:List α}(f:α→β):(List.map f xs).length=xs.length:=List.length_map f
theorem aJ(n:Nat):((n:Int)).toNat=n:=Int.toNat_natCast n
theorem dk{α:Type _}{l:List α}{i:Nat}(h:i<l.length):l[i]?=some l[i]:=List.getElem?_eq_getElem h
theorem bb{p:Prop}[Decidable p](h:¬p):decide p=false:=decide_eq_false h
theorem bk{p:Prop}[Decidable p](h:p):decide p=true:=decide_eq_true h
theorem cl{p:Prop}[Decidable p](h:decide p=true):p:=of_decide_eq_true h
theorem cG{p:Prop}[Decidable p](h:decide p=false):¬p:=of_decide_eq_false h
theorem bx{α:Type _}{a:α}{xs ys:List α}:(a::xs)++ys=a::(xs++ys):=List.cons_append
theorem b1{α:Type _}(xs:List α):[]++xs=xs:=List.nil_append xs
theorem dK{α:Type _}{l:List α}:l.take l.length=l:=List.take_length
@[go_sem] theorem aec:tyI Tryz.prog 3=some (1,false):=by kernel_rfl
@[go_sem] theorem aed:intI Tryz.prog 3=some .i64:=by kernel_rfl
@[go_sem] theorem aee:tyI Tryz.prog 4=some (1,false):=by kernel_rfl
@[go_sem] theorem aef:isBoolI Tryz.prog 4=true:=by kernel_rfl
@[go_sem] theorem aeg:tyI Tryz.prog 5=some (1,false):=by kernel_rfl
@[go_sem] theorem aeh:intI Tryz.prog 5=some .u8:=by kernel_rfl
@[go_sem] theorem aei:tyI Tryz.prog 9=some (1,false):=by kernel_rfl
@[go_sem] theorem aej:isStrI Tryz.prog 9=true:=by kernel_rfl
@[go_sem] theorem aek:tyI Tryz.prog 22=some (1,false):=by kernel_rfl
@[go_sem] theorem ael:elI Tryz.prog 22=some (5,1,1):=by kernel_rfl
@[go_sem] theorem aem:tyI Tryz.prog 25=some (8,true):=by kernel_rfl
@[go_sem] theorem aen:tyI Tryz.prog 26=some (1,false):=by kernel_rfl
@[go_sem] theorem aeo:elI Tryz.prog 26=some (57,39,352):=by kernel_rfl
@[go_sem] theorem aep:tyI Tryz.prog 28=some (4,true):=by kernel_rfl
@[go_sem] theorem aeq:tyI Tryz.prog 30=some (6,true):=by kernel_rfl
@[go_sem] theorem aer:tyI Tryz.prog 32=some (3,true):=by kernel_rfl
@[go_sem] theorem aes:tyI Tryz.prog 34=some (4,true):=by kernel_rfl
@[go_sem] theorem aet:tyI Tryz.prog 35=some (1,false):=by kernel_rfl
@[go_sem] theorem aeu:elI Tryz.prog 35=some (92,2,32):=by kernel_rfl
@[go_sem] theorem aev:tyI Tryz.prog 37=some (50,true):=by kernel_rfl
@[go_sem] theorem aew:tyI Tryz.prog 43=some (1,false):=by kernel_rfl
@[go_sem] theorem aex:elI Tryz.prog 43=some (3,1,8):=by kernel_rfl
@[go_sem] theorem aey:tyI Tryz.prog 45=some (4,true):=by kernel_rfl
@[go_sem] theorem aez:tyI Tryz.prog 46=some (1,false):=by kernel_rfl
@[go_sem] theorem aeA:elI Tryz.prog 46=some (175,2,16):=by kernel_rfl
@[go_sem] theorem aeB:tyI Tryz.prog 48=some (12,true):=by kernel_rfl
@[go_sem] theorem aeC:tyI Tryz.prog 49=some (1,false):=by kernel_rfl
@[go_sem] theorem aeD:elI Tryz.prog 49=some (128,2,24):=by kernel_rfl
@[go_sem] theorem aeE:tyI Tryz.prog 51=some (2,true):=by kernel_rfl
@[go_sem] theorem aeF:tyI Tryz.prog 53=some (6,true):=by kernel_rfl
@[go_sem] theorem aeG:tyI Tryz.prog 55=some (2,true):=by kernel_rfl
@[go_sem] theorem aeH:tyI Tryz.prog 57=some (39,true):=by kernel_rfl
@[go_sem] theorem aeI:tyI Tryz.prog 90=some (1,false):=by kernel_rfl
@[go_sem] theorem aeJ:elI Tryz.prog 90=some (120,9,80):=by kernel_rfl
@[go_sem] theorem aeK:tyI Tryz.prog 92=some (2,true):=by kernel_rfl
@[go_sem] theorem aeL:tyI Tryz.prog 120=some (9,true):=by kernel_rfl
@[go_sem] theorem aeM:tyI Tryz.prog 128=some (2,true):=by kernel_rfl
@[go_sem] theorem aeN:elI Tryz.prog 162=some (9,1,16):=by kernel_rfl
@[go_sem] theorem aeO:tyI Tryz.prog 175=some (2,true):=by kernel_rfl
@[go_sem] theorem aeP:elI Tryz.prog 215=some (242,3,24):=by kernel_rfl
@[go_sem] theorem aeQ:tyI Tryz.prog 220=some (3,true):=by kernel_rfl
@[go_sem] theorem aeR:tyI Tryz.prog 242=some (3,true):=by kernel_rfl
@[go_sem] theorem aeS:fdI Tryz.prog 25 0=some 0:=by kernel_rfl
@[go_sem] theorem aeT:fdI Tryz.prog 25 1=some 1:=by kernel_rfl
@[go_sem] theorem aeU:fdI Tryz.prog 25 2=some 2:=by kernel_rfl
@[go_sem] theorem aeV:fdI Tryz.prog 25 3=some 3:=by kernel_rfl
@[go_sem] theorem aeW:fdI Tryz.prog 25 4=some 4:=by kernel_rfl
@[go_sem] theorem aeX:fdI Tryz.prog 25 5=some 5:=by kernel_rfl
@[go_sem] theorem aeY:fdI Tryz.prog 25 6=some 6:=by kernel_rfl
@[go_sem] theorem aeZ:fdI Tryz.prog 25 7=some 7:=by kernel_rfl
@[go_sem] theorem ae0:fdI Tryz.prog 28 0=some 0:=by kernel_rfl
@[go_sem] theorem ae1:fdI Tryz.prog 28 1=some 1:=by kernel_rfl
@[go_sem] theorem ae2:fdI Tryz.prog 28 2=some 2:=by kernel_rfl
@[go_sem] theorem ae3:fdI Tryz.prog 28 3=some 3:=by kernel_rfl
@[go_sem] theorem ae4:fdI Tryz.prog 30 0=some 0:=by kernel_rfl
@[go_sem] theorem ae5:fdI Tryz.prog 30 1=some 1:=by kernel_rfl
@[go_sem] theorem ae6:fdI Tryz.prog 30 2=some 2:=by kernel_rfl
@[go_sem] theorem ae7:fdI Tryz.prog 30 3=some 3:=by kernel_rfl
@[go_sem] theorem ae8:fdI Tryz.prog 30 4=some 4:=by kernel_rfl
@[go_sem] theorem ae9:fdI Tryz.prog 30 5=some 5:=by kernel_rfl
@[go_sem] theorem afa:fdI Tryz.prog 32 0=some 0:=by kernel_rfl
@[go_sem] theorem afb:fdI Tryz.prog 32 1=some 1:=by kernel_rfl
@[go_sem] theorem afc:fdI Tryz.prog 32 2=some 2:=by kernel_rfl
@[go_sem] theorem afd:fdI Tryz.prog 34 0=some 0:=by kernel_rfl
@[go_sem] theorem afe:fdI Tryz.prog 34 1=some 1:=by kernel_rfl
@[go_sem] theorem aff:fdI Tryz.prog 34 2=some 2:=by kernel_rfl
@[go_sem] theorem afg:fdI Tryz.prog 34 3=some 3:=by kernel_rfl
@[go_sem] theorem afh:fdI Tryz.prog 37 0=some 0:=by kernel_rfl
@[go_sem] theorem afi:fdI Tryz.prog 37 1=some 1:=by kernel_rfl
@[go_sem] theorem afj:fdI Tryz.prog 37 2=some 9:=by kernel_rfl
@[go_sem] theorem afk:fdI Tryz.prog 37 3=some 17:=by kernel_rfl
@[go_sem] theorem afl:fdI Tryz.prog 37 4=some 18:=by kernel_rfl
@[go_sem] theorem afm:fdI Tryz.prog 37 5=some 22:=by kernel_rfl
@[go_sem] theorem afn:fdI Tryz.prog 37 6=some 28:=by kernel_rfl
@[go_sem] theorem afo:fdI Tryz.prog 37 7=some 31:=by kernel_rfl
@[go_sem] theorem afp:fdI Tryz.prog 37 8=some 34:=by kernel_rfl
@[go_sem] theorem afq:fdI Tryz.prog 37 9=some 38:=by kernel_rfl
@[go_sem] theorem afr:fdI Tryz.prog 37 10=some 42:=by kernel_rfl
@[go_sem] theorem afs:fdI Tryz.prog 37 11=some 43:=by kernel_rfl
@[go_sem] theorem aft:fdI Tryz.prog 37 12=some 44:=by kernel_rfl
@[go_sem] theorem afu:fdI Tryz.prog 37 13=some 45:=by kernel_rfl
@[go_sem] theorem afv:fdI Tryz.prog 37 14=some 46:=by kernel_rfl
@[go_sem] theorem afw:fdI Tryz.prog 37 15=some 47:=by kernel_rfl
@[go_sem] theorem afx:fdI Tryz.prog 37 16=some 48:=by kernel_rfl
@[go_sem] theorem afy:fdI Tryz.prog 37 17=some 49:=by kernel_rfl
@[go_sem] theorem afz:fdI Tryz.prog 45 0=some 0:=by kernel_rfl
@[go_sem] theorem afA:fdI Tryz.prog 45 1=some 1:=by kernel_rfl
@[go_sem] theorem afB:fdI Tryz.prog 45 2=some 2:=by kernel_rfl
@[go_sem] theorem afC:fdI Tryz.prog 45 3=some 3:=by kernel_rfl
@[go_sem] theorem afD:fdI Tryz.prog 48 0=some 0:=by kernel_rfl
@[go_sem] theorem afE:fdI Tryz.prog 48 1=some 1:=by kernel_rfl
@[go_sem] theorem afF:fdI Tryz.prog 48 2=some 5:=by kernel_rfl
@[go_sem] theorem afG:fdI Tryz.prog 48 3=some 6:=by kernel_rfl
@[go_sem] theorem afH:fdI Tryz.prog 48 4=some 7:=by kernel_rfl
@[go_sem] theorem afI:fdI Tryz.prog 48 5=some 8:=by kernel_rfl
@[go_sem] theorem afJ:fdI Tryz.prog 48 6=some 9:=by kernel_rfl
@[go_sem] theorem afK:fdI Tryz.prog 48 7=some 10:=by kernel_rfl
@[go_sem] theorem afL:fdI Tryz.prog 48 8=some 11:=by kernel_rfl
@[go_sem] theorem afM:fdI Tryz.prog 51 0=some 0:=by kernel_rfl
@[go_sem] theorem afN:fdI Tryz.prog 51 1=some 1:=by kernel_rfl
@[go_sem] theorem afO:fdI Tryz.prog 53 0=some 0:=by kernel_rfl
@[go_sem] theorem afP:fdI Tryz.prog 53 1=some 1:=by kernel_rfl
@[go_sem] theorem afQ:fdI Tryz.prog 53 2=some 3:=by kernel_rfl
@[go_sem] theorem afR:fdI Tryz.prog 53 3=some 4:=by kernel_rfl
@[go_sem] theorem afS:fdI Tryz.prog 53 4=some 5:=by kernel_rfl
@[go_sem] theorem afT:fdI Tryz.prog 55 0=some 0:=by kernel_rfl
@[go_sem] theorem afU:fdI Tryz.prog 55 1=some 1:=by kernel_rfl
@[go_sem] theorem afV:fdI Tryz.prog 57 0=some 0:=by kernel_rfl
@[go_sem] theorem afW:fdI Tryz.prog 57 1=some 1:=by kernel_rfl
@[go_sem] theorem afX:fdI Tryz.prog 57 2=some 13:=by kernel_rfl
@[go_sem] theorem afY:fdI Tryz.prog 57 3=some 17:=by kernel_rfl
@[go_sem] theorem afZ:fdI Tryz.prog 57 4=some 23:=by kernel_rfl
@[go_sem] theorem af0:fdI Tryz.prog 57 5=some 29:=by kernel_rfl
@[go_sem] theorem af1:fdI Tryz.prog 57 6=some 31:=by kernel_rfl
@[go_sem] theorem af2:fdI Tryz.prog 57 7=some 32:=by kernel_rfl
@[go_sem] theorem af3:fdI Tryz.prog 57 8=some 33:=by kernel_rfl
@[go_sem] theorem af4:fdI Tryz.prog 57 9=some 34:=by kernel_rfl
@[go_sem] theorem af5:fdI Tryz.prog 57 10=some 35:=by kernel_rfl
@[go_sem] theorem af6:fdI Tryz.prog 57 11=some 36:=by kernel_rfl
@[go_sem] theorem af7:fdI Tryz.prog 57 12=some 37:=by kernel_rfl
@[go_sem] theorem af8:fdI Tryz.prog 57 13=some 38:=by kernel_rfl
@[go_sem] theorem af9:fdI Tryz.prog 92 0=some 0:=by kernel_rfl
@[go_sem] theorem aga:fdI Tryz.prog 92 1=some 1:=by kernel_rfl
@[go_sem] theorem agb:fdI Tryz.prog 102 0=some 0:=by kernel_rfl
@[go_sem] theorem agc:fdI Tryz.prog 102 1=some 1:=by kernel_rfl
@[go_sem] theorem agd:fdI Tryz.prog 102 2=some 2:=by kernel_rfl
@[go_sem] theorem age:fdI Tryz.prog 120 0=some 0:=by kernel_rfl
@[go_sem] theorem agf:fdI Tryz.prog 120 1=some 1:=by kernel_rfl
@[go_sem] theorem agh:fdI Tryz.prog 120 2=some 2:=by kernel_rfl
@[go_sem] theorem agi:fdI Tryz.prog 120 3=some 3:=by kernel_rfl
@[go_sem] theorem agj:fdI Tryz.prog 120 4=some 4:=by kernel_rfl
@[go_sem] theorem agk:fdI Tryz.prog 120 5=some 5:=by kernel_rfl
@[go_sem] theorem agl:fdI Tryz.prog 120 6=some 6:=by kernel_rfl
@[go_sem] theorem agm:fdI Tryz.prog 120 7=some 7:=by kernel_rfl
@[go_sem] theorem agn:fdI Tryz.prog 120 8=some 8:=by kernel_rfl
@[go_sem] theorem ago:fdI Tryz.prog 128 0=some 0:=by kernel_rfl
@[go_sem] theorem agp:fdI Tryz.prog 128 1=some 1:=by kernel_rfl
@[go_sem] theorem agq:fdI Tryz.prog 175 0=some 0:=by kernel_rfl
@[go_sem] theorem agr:fdI Tryz.prog 175 1=some 1:=by kernel_rfl
@[go_sem] theorem ags:fdI Tryz.prog 220 0=some 0:=by kernel_rfl
@[go_sem] theorem agt:fdI Tryz.prog 220 1=some 1:=by kernel_rfl
@[go_sem] theorem agu:fdI Tryz.prog 220 2=some 2:=by kernel_rfl
@[go_sem] theorem agv:fdI Tryz.prog 242 0=some 0:=by kernel_rfl
@[go_sem] theorem agw:fdI Tryz.prog 242 1=some 1:=by kernel_rfl
@[go_sem] theorem agx:zrI Tryz.prog 3=some [.d (.int .i64 0)]:=by kernel_rfl
@[go_sem] theorem agy:zrI Tryz.prog 4=some [.d (.bool false)]:=by kernel_rfl
@[go_sem] theorem agz:zrI Tryz.prog 5=some [.d (.int .u8 0)]:=by kernel_rfl
@[go_sem] theorem agA:zrI Tryz.prog 9=some [.d (.str [])]:=by kernel_rfl
@[go_sem] theorem agB:zrI Tryz.prog 25=some [.d (.int .i64 0),.d (.int .i64 0),.d (.int .i64 0),.d (.int .i64 0),.d (.int .i64 0),.d (.int .i64 0),.d (.int .i64 0),.d (.int .i64 0)]:=by kernel_rfl
@[go_sem] theorem agC:zrI Tryz.prog 28=some [.d (.int .i64 0),.d (.int .i64 0),.d (.int .i64 0),.d (.int .i64 0)]:=by kernel_rfl
@[go_sem] theorem agD:zrI Tryz.prog 30=some [.d (.int .i64 0),.d (.int .i64 0),.d (.int .i64 0),.d (.int .i64 0),.d (.int .i64 0),.d (.int .i64 0)]:=by kernel_rfl
@[go_sem] theorem agE:zrI Tryz.prog 32=some [.d (.int .i64 0),.d (.int .i64 0),.d (.int .i64 0)]:=by kernel_rfl
@[go_sem] theorem agF:zrI Tryz.prog 34=some [.d (.int .i64 0),.d (.int .i64 0),.d (.int .i64 0),.d (.int .i64 0)]:=by kernel_rfl
@[go_sem] theorem agG:zrI Tryz.prog 37=some [.d (.bool false),.d (.int .i64 0),.d (.int .i64 0),.d (.int .i64 0),.d (.int .i64 0),.d (.int .i64 0),.d (.int .i64 0),.d (.int .i64 0),.d (.int .i64 0),.d (.int .i64 0),.d (.int .i64 0),.d (.int .i64 0),.d (.int .i64 0),.d (.int .i64 0),.d (.int .i64 0),.d (.int .i64 0),.d (.int .i64 0),.c6 39,.d (.int .i64 0),.d (.int .i64 0),.d (.int .i64 0),.d (.int .i64 0),.d (.int .i64 0),.d (.int .i64 0),.d (.int .i64 0),.d (.int .i64 0),.d (.int .i64 0),.d (.int .i64 0),.d (.int .i64 0),.d (.int .i64 0),.d (.int .i64 0),.d (.int .i64 0),.d (.int .i64 0),.d (.int .i64 0),.d (.int .i64 0),.d (.int .i64 0),.d (.int .i64 0),.d (.int .i64 0),.d (.int .i64 0),.d (.int .i64 0),.d (.int .i64 0),.d (.int .i64 0),.d (.bool false),.d (.bool false),.d (.bool false),.d (.int .i64 0),.d (.int .i64 0),.c6 2,.d (.int .i64 0),.d (.int .i64 0)]:=by kernel_rfl
@[go_sem] theorem agH:zrI Tryz.prog 45=some [.d (.int .i64 0),.d (.int .i64 0),.d (.int .i64 0),.c6 1]:=by kernel_rfl
@[go_sem] theorem agI:zrI Tryz.prog 48=some [.d (.int .i64 0),.d (.int .i64 0),.d (.int .i64 0),.d (.int .i64 0),.c6 1,.c6 2,.c6 2,.c6 2,.d (.int .i64 0),.d (.int .i64 0),.d (.int .i64 0),.d (.int .i64 0)]:=by kernel_rfl
@[go_sem] theorem agJ:zrI Tryz.prog 51=some [.d (.int .i64 0),.c6 2]:=by kernel_rfl
@[go_sem] theorem agK:zrI Tryz.prog 53=some [.d (.int .i64 0),.d (.int .i64 0),.c6 2,.d (.int .i64 0),.d (.int .i64 0),.d (.int .i64 0)]:=by kernel_rfl
@[go_sem] theorem agL:zrI Tryz.prog 55=some [.d (.int .i64 0),.d (.bool false)]:=by kernel_rfl
@[go_sem] theorem agM:zrI Tryz.prog 57=some [.d (.int .i64 0),.d (.int .i64 0),.d (.int .i64 0),.d (.int .i64 0),.d (.int .i64 0),.c6 1,.c6 2,.c6 2,.c6 2,.d (.int .i64 0),.d (.int .i64 0),.d (.int .i64 0),.d (.int .i64 0),.d (.int .i64 0),.d (.int .i64 0),.d (.int .i64 0),.d (.int .i64 0),.d (.int .i64 0),.d (.int .i64 0),.c6 2,.d (.int .i64 0),.d (.int .i64 0),.d (.int .i64 0),.d (.int .i64 0),.d (.int .i64 0),.d (.int .i64 0),.d (.int .i64 0),.d (.int .i64 0),.d (.int .i64 0),.d (.int .i64 0),.d (.bool false),.d (.bool false),.d (.bool false),.d (.bool false),.d (.bool false),.d (.bool false),.d (.bool false),.d (.int .i64 0),.d (.bool false)]:=by kernel_rfl
@[go_sem] theorem agN:zrI Tryz.prog 92=some [.d (.int .i64 0),.c6 9]:=by kernel_rfl
@[go_sem] theorem agO:zrI Tryz.prog 102=some [.c6 1,.d (.int .i64 0),.d (.int .i64 0)]:=by kernel_rfl
@[go_sem] theorem agP:zrI Tryz.prog 120=some [.d (.int .i64 0),.d (.int .i64 0),.d (.int .i64 0),.d (.str []),.d (.bool false),.d (.int .i64 0),.d (.int .i64 0),.d (.int .i64 0),.d (.bool false)]:=by kernel_rfl
@[go_sem] theorem agQ:zrI Tryz.prog 128=some [.d (.int .i64 0),.d (.str [])]:=by kernel_rfl
@[go_sem] theorem agR:zrI Tryz.prog 175=some [.d (.int .i64 0),.d (.int .i64 0)]:=by kernel_rfl
@[go_sem] theorem agS:zrI Tryz.prog 220=some [.d (.int .i64 0),.d (.str []),.d (.bool false)]:=by kernel_rfl
@[go_sem] theorem agT:zrI Tryz.prog 242=some [.d (.int .i64 0),.d (.int .i64 0),.d (.bool false)]:=by kernel_rfl
@[go_sem] theorem agU:plI Tryz.prog 25=some fun j=>([(0,1),(1,1),(2,1),(3,1),(4,1),(5,1),(6,1),(7,1)]:List (Nat×Nat))[j]?:=by kernel_rfl
@[go_sem] theorem agV:plI Tryz.prog 28=some fun j=>([(0,1),(1,1),(2,1),(3,1)]:List (Nat×Nat))[j]?:=by kernel_rfl
@[go_sem] theorem agW:plI Tryz.prog 30=some fun j=>([(0,1),(1,1),(2,1),(3,1),(4,1),(5,1)]:List (Nat×Nat))[j]?:=by kernel_rfl
@[go_sem] theorem agX:plI Tryz.prog 32=some fun j=>([(0,1),(1,1),(2,1)]:List (Nat×Nat))[j]?:=by kernel_rfl
@[go_sem] theorem agY:plI Tryz.prog 34=some fun j=>([(0,1),(1,1),(2,1),(3,1)]:List (Nat×Nat))[j]?:=by kernel_rfl
@[go_sem] theorem agZ:plI Tryz.prog 37=some fun j=>([(0,1),(1,8),(9,8),(17,1),(18,4),(22,6),(28,3),(31,3),(34,4),(38,4),(42,1),(43,1),(44,1),(45,1),(46,1),(47,1),(48,1),(49,1)]:List (Nat×Nat))[j]?:=by kernel_rfl
@[go_sem] theorem ag0:plI Tryz.prog 45=some fun j=>([(0,1),(1,1),(2,1),(3,1)]:List (Nat×Nat))[j]?:=by kernel_rfl
@[go_sem] theorem ag1:plI Tryz.prog 48=some fun j=>([(0,1),(1,4),(5,1),(6,1),(7,1),(8,1),(9,1),(10,1),(11,1)]:List (Nat×Nat))[j]?:=by kernel_rfl
@[go_sem] theorem ag2:plI Tryz.prog 51=some fun j=>([(0,1),(1,1)]:List (Nat×Nat))[j]?:=by kernel_rfl
@[go_sem] theorem ag3:plI Tryz.prog 53=some fun j=>([(0,1),(1,2),(3,1),(4,1),(5,1)]:List (Nat×Nat))[j]?:=by kernel_rfl
@[go_sem] theorem ag4:plI Tryz.prog 55=some fun j=>([(0,1),(1,1)]:List (Nat×Nat))[j]?:=by kernel_rfl
@[go_sem] theorem ag5:plI Tryz.prog 57=some fun j=>([(0,1),(1,12),(13,4),(17,6),(23,6),(29,2),(31,1),(32,1),(33,1),(34,1),(35,1),(36,1),(37,1),(38,1)]:List (Nat×Nat))[j]?:=by kernel_rfl
@[go_sem] theorem ag6:plI Tryz.prog 92=some fun j=>([(0,1),(1,1)]:List (Nat×Nat))[j]?:=by kernel_rfl
@[go_sem] theorem ag7:plI Tryz.prog 102=some fun j=>([(0,1),(1,1),(2,1)]:List (Nat×Nat))[j]?:=by kernel_rfl
@[go_sem] theorem ag8:plI Tryz.prog 120=some fun j=>([(0,1),(1,1),(2,1),(3,1),(4,1),(5,1),(6,1),(7,1),(8,1)]:List (Nat×Nat))[j]?:=by kernel_rfl
@[go_sem] theorem ag9:plI Tryz.prog 128=some fun j=>([(0,1),(1,1)]:List (Nat×Nat))[j]?:=by kernel_rfl
@[go_sem] theorem aha:plI Tryz.prog 175=some fun j=>([(0,1),(1,1)]:List (Nat×Nat))[j]?:=by kernel_rfl
@[go_sem] theorem ahb:plI Tryz.prog 220=some fun j=>([(0,1),(1,1),(2,1)]:List (Nat×Nat))[j]?:=by kernel_rfl
@[go_sem] theorem ahc:plI Tryz.prog 242=some fun j=>([(0,1),(1,2)]:List (Nat×Nat))[j]?:=by kernel_rfl
@[go_sem] theorem ahd:nm Tryz.prog 25 [.i .i64,.i .i64,.i .i64,.i .i64,.i .i64,.i .i64,.i .i64,.i .i64]=True:=eq_true (EqOK_of (by kernel_rfl) (by kernel_rfl) (by kernel_rfl) (by kernel_rfl) (by kernel_rfl))
@[go_sem] theorem ahe:nm Tryz.prog 28 [.i .i64,.i .i64,.i .i64,.i .i64]=True:=eq_true (EqOK_of (by kernel_rfl) (by kernel_rfl) (by kernel_rfl) (by kernel_rfl) (by kernel_rfl))
@[go_sem] theorem ahf:nm Tryz.prog 30 [.i .i64,.i .i64,.i .i64,.i .i64,.i .i64,.i .i64]=True:=eq_true (EqOK_of (by kernel_rfl) (by kernel_rfl) (by kernel_rfl) (by kernel_rfl) (by kernel_rfl))
@[go_sem] theorem ahg:nm Tryz.prog 32 [.i .i64,.i .i64,.i .i64]=True:=eq_true (EqOK_of (by kernel_rfl) (by kernel_rfl) (by kernel_rfl) (by kernel_rfl) (by kernel_rfl))
@[go_sem] theorem ahh:nm Tryz.prog 34 [.i .i64,.i .i64,.i .i64,.i .i64]=True:=eq_true (EqOK_of (by kernel_rfl) (by kernel_rfl) (by kernel_rfl) (by kernel_rfl) (by kernel_rfl))
@[go_sem] theorem ahi:nm Tryz.prog 55 [.i .i64,.b]=True:=eq_true (EqOK_of (by kernel_rfl) (by kernel_rfl) (by kernel_rfl) (by kernel_rfl) (by kernel_rfl))
@[go_sem] theorem ahj:nm Tryz.prog 120 [.i .i64,.i .i64,.i .i64,.s,.b,.i .i64,.i .i64,.i .i64,.b]=True:=eq_true (EqOK_of (by kernel_rfl) (by kernel_rfl) (by kernel_rfl) (by kernel_rfl) (by kernel_rfl))
@[go_sem] theorem ahk:nm Tryz.prog 128 [.i .i64,.s]=True:=eq_true (EqOK_of (by kernel_rfl) (by kernel_rfl) (by kernel_rfl) (by kernel_rfl) (by kernel_rfl))
@[go_sem] theorem ahl:nm Tryz.prog 175 [.i .i64,.i .i64]=True:=eq_true (EqOK_of (by kernel_rfl) (by kernel_rfl) (by kernel_rfl) (by kernel_rfl) (by kernel_rfl))
set_option maxRecDepth 100000 in
theorem aP{f:FuncId}{fn:Func}{c:Code}{args res:List AD}(n:Nat)(hf:Tryz.prog.funcs[f]?=some fn)(hcall:∀(args:Array Value) (w:World),(callFunc f args).run Tryz.prog w=.ok (.enter f args) w)(rs:List ResultVar)(h:uM args→codeE Tryz.prog [] c ⟨yX args n,[]⟩ (bo (fL Tryz.prog rs res) .mk) [] (bo (fL Tryz.prog rs res) .mk))(hb:fn.body=some c:=by rfl)(hn:fn.ntmps=n:=by rfl)(hr:fn.results.toList=rs:=by rfl):PureCall Tryz.prog f args res:=
 Xh hf hb hcall Tryz.checked.mixed _ (by rw[hn];exact JH args n) rs hr h
def a'(n:Int):List D:=[.int .i64 n]
def kW(s:List UInt8):List D:=[.str s]
def eU8(n:Int):List D:=[.int .u8 n]
theorem sy{α:Type}{f:α→List D}(h:∀a,(f a).all D.flat=true)(xs:List α):fv (xs.map f)=true:=by simp[fv,h]
@[go_sem] theorem aln(xs:List Int):fv (xs.map a')=true:=sy (fun _=>rfl) xs
@[go_sem] theorem alo(xs:List (List UInt8)):fv (xs.map kW)=true:=sy (fun _=>rfl) xs
structure du where
 ring:Int
 window:Int
 lu:Int
 c0:Int
 lZ:Int
 kT:Int
 fc:Int
 hD:Int
 deriving DecidableEq
def du.enc(x:du):List D:=[.int .i64 x.ring,.int .i64 x.window,.int .i64 x.lu,.int .i64 x.c0,.int .i64 x.lZ,.int .i64 x.kT,.int .i64 x.fc,.int .i64 x.hD]
@[go_sem] theorem alp(xs:List du):fv (xs.map du.enc)=true:=sy (fun _=>rfl) xs
structure c5 where
 size:Int
 base:Int
 cj:Int
 cells:List Int
 deriving DecidableEq
def c5.enc(x:c5):List D:=[.int .i64 x.size,.int .i64 x.base,.int .i64 x.cj,.sl 1 (x.cells.map a')]
structure aa where
 low:Int
 high:Int
 deriving DecidableEq
def aa.enc(x:aa):List D:=[.int .i64 x.low,.int .i64 x.high]
@[go_sem] theorem alq(xs:List aa):fv (xs.map aa.enc)=true:=sy (fun _=>rfl) xs
structure aM where
 state:Int
 ring:c5
 pending:List aa
 flight:List aa
 cb:List aa
 bg:Int
 ba:Int
 sent:Int
 code:Int
 deriving DecidableEq
def aM.enc(x:aM):List D:=[.int .i64 x.state,.int .i64 x.ring.size,.int .i64 x.ring.base,.int .i64 x.ring.cj,.sl 1 (x.ring.cells.map a'),.sl 2 (x.pending.map aa.enc),.sl 2 (x.flight.map aa.enc),.sl 2 (x.cb.map aa.enc),.int .i64 x.bg,.int .i64 x.ba,.int .i64 x.sent,.int .i64 x.code]
structure d7 where
 a1:Int
 used:Int
 blocked:Int
 i4:Int
 deriving DecidableEq
def d7.enc(x:d7):List D:=[.int .i64 x.a1,.int .i64 x.used,.int .i64 x.blocked,.int .i64 x.i4]
@[go_sem] theorem alr(xs:List d7):fv (xs.map d7.enc)=true:=sy (fun _=>rfl) xs
structure ax where
 offset:Int
 data:List UInt8
 deriving DecidableEq
def ax.enc(x:ax):List D:=[.int .i64 x.offset,.str x.data]
@[go_sem] theorem als(xs:List ax):fv (xs.map ax.enc)=true:=sy (fun _=>rfl) xs
structure ll where
 next:Int
 bd:List ax
 deriving DecidableEq
def ll.enc(x:ll):List D:=[.int .i64 x.next,.sl 2 (x.bd.map ax.enc)]
structure bc where
 state:Int
 buffer:ll
 bg:Int
 d2:Int
 code:Int
 deriving DecidableEq
def bc.enc(x:bc):List D:=[.int .i64 x.state,.int .i64 x.buffer.next,.sl 2 (x.buffer.bd.map ax.enc),.int .i64 x.bg,.int .i64 x.d2,.int .i64 x.code]
structure da where
 size:Int
 most:Int
 a1:Int
 seen:Int
 read:Int
 jU:Int
 deriving DecidableEq
def da.enc(x:da):List D:=[.int .i64 x.size,.int .i64 x.most,.int .i64 x.a1,.int .i64 x.seen,.int .i64 x.read,.int .i64 x.jU]
@[go_sem] theorem alu(xs:List da):fv (xs.map da.enc)=true:=sy (fun _=>rfl) xs
structure hJ where
 iK:Int
 g2:Bool
 deriving DecidableEq
def hJ.enc(x:hJ):List D:=[.int .i64 x.iK,.bool x.g2]
@[go_sem] theorem alv(xs:List hJ):fv (xs.map hJ.enc)=true:=sy (fun _=>rfl) xs
structure ae where
 id:Int
 send:aM
 c2:d7
 recv:bc
 window:da
 priority:hJ
 eo:Bool
 eJ:Bool
 ho:Bool
 hH:Bool
 kb:Bool
 ky:Bool
 lC:Int
 counted:Bool
 deriving DecidableEq
def ae.enc(x:ae):List D:=[.int .i64 x.id,.int .i64 x.send.state,.int .i64 x.send.ring.size,.int .i64 x.send.ring.base,.int .i64 x.send.ring.cj,.sl 1 (x.send.ring.cells.map a'),.sl 2 (x.send.pending.map aa.enc),.sl 2 (x.send.flight.map aa.enc),.sl 2 (x.send.cb.map aa.enc),.int .i64 x.send.bg,.int .i64 x.send.ba,.int .i64 x.send.sent,.int .i64 x.send.code,.int .i64 x.c2.a1,.int .i64 x.c2.used,.int .i64 x.c2.blocked,.int .i64 x.c2.i4,.int .i64 x.recv.state,.int .i64 x.recv.buffer.next,.sl 2 (x.recv.buffer.bd.map ax.enc),.int .i64 x.recv.bg,.int .i64 x.recv.d2,.int .i64 x.recv.code,.int .i64 x.window.size,.int .i64 x.window.most,.int .i64 x.window.a1,.int .i64 x.window.seen,.int .i64 x.window.read,.int .i64 x.window.jU,.int .i64 x.priority.iK,.bool x.priority.g2,.bool x.eo,.bool x.eJ,.bool x.ho,.bool x.hH,.bool x.kb,.bool x.ky,.int .i64 x.lC,.bool x.counted]
structure gp where
 a1:Int
 opened:Int
 blocked:Int
 deriving DecidableEq
def gp.enc(x:gp):List D:=[.int .i64 x.a1,.int .i64 x.opened,.int .i64 x.blocked]
@[go_sem] theorem alw(xs:List gp):fv (xs.map gp.enc)=true:=sy (fun _=>rfl) xs
structure dm where
 most:Int
 a1:Int
 seen:Int
 closed:Int
 deriving DecidableEq
def dm.enc(x:dm):List D:=[.int .i64 x.most,.int .i64 x.a1,.int .i64 x.seen,.int .i64 x.closed]
@[go_sem] theorem alx(xs:List dm):fv (xs.map dm.enc)=true:=sy (fun _=>rfl) xs
structure al where
 bn:Int
 stream:Int
 offset:Int
 data:List UInt8
 ba:Bool
 code:Int
 a1:Int
 bg:Int
 fc:Bool
 deriving DecidableEq
def al.enc(x:al):List D:=[.int .i64 x.bn,.int .i64 x.stream,.int .i64 x.offset,.str x.data,.bool x.ba,.int .i64 x.code,.int .i64 x.a1,.int .i64 x.bg,.bool x.fc]
@[go_sem] theorem aly(xs:List al):fv (xs.map al.enc)=true:=sy (fun _=>rfl) xs
structure aI where
 number:Int
 frames:List al
 deriving DecidableEq
def aI.enc(x:aI):List D:=[.int .i64 x.number,.sl 9 (x.frames.map al.enc)]
structure J where
 df:Bool
 own:du
 dr:du
 streams:List ae
 c0:d7
 bO:da
 eT:gp
 eS:gp
 dA:dm
 dz:dm
 vQ:Bool
 mH:Bool
 mI:Bool
 eZ:Int
 number:Int
 packets:List aI
 hO:Int
 closed:Int
 deriving DecidableEq
def J.enc(x:J):List D:=[.bool x.df,.int .i64 x.own.ring,.int .i64 x.own.window,.int .i64 x.own.lu,.int .i64 x.own.c0,.int .i64 x.own.lZ,.int .i64 x.own.kT,.int .i64 x.own.fc,.int .i64 x.own.hD,.int .i64 x.dr.ring,.int .i64 x.dr.window,.int .i64 x.dr.lu,.int .i64 x.dr.c0,.int .i64 x.dr.lZ,.int .i64 x.dr.kT,.int .i64 x.dr.fc,.int .i64 x.dr.hD,.sl 39 (x.streams.map ae.enc),.int .i64 x.c0.a1,.int .i64 x.c0.used,.int .i64 x.c0.blocked,.int .i64 x.c0.i4,.int .i64 x.bO.size,.int .i64 x.bO.most,.int .i64 x.bO.a1,.int .i64 x.bO.seen,.int .i64 x.bO.read,.int .i64 x.bO.jU,.int .i64 x.eT.a1,.int .i64 x.eT.opened,.int .i64 x.eT.blocked,.int .i64 x.eS.a1,.int .i64 x.eS.opened,.int .i64 x.eS.blocked,.int .i64 x.dA.most,.int .i64 x.dA.a1,.int .i64 x.dA.seen,.int .i64 x.dA.closed,.int .i64 x.dz.most,.int .i64 x.dz.a1,.int .i64 x.dz.seen,.int .i64 x.dz.closed,.bool x.vQ,.bool x.mH,.bool x.mI,.int .i64 x.eZ,.int .i64 x.number,.sl 2 (x.packets.map aI.enc),.int .i64 x.hO,.int .i64 x.closed]
structure c4 where
 id:Int
 priority:hJ
 deriving DecidableEq
def c4.enc(x:c4):List D:=[.int .i64 x.id,.int .i64 x.priority.iK,.bool x.priority.g2]
@[go_sem] theorem alz(xs:List c4):fv (xs.map c4.enc)=true:=sy (fun _=>rfl) xs
structure bS where
 offset:Int
 data:List UInt8
 ba:Bool
 deriving DecidableEq
def bS.enc(x:bS):List D:=[.int .i64 x.offset,.str x.data,.bool x.ba]
@[go_sem] theorem alA(xs:List bS):fv (xs.map bS.enc)=true:=sy (fun _=>rfl) xs
def J.bC(x:J):List V:=[.d (.bool x.df),.d (.int .i64 x.own.ring),.d (.int .i64 x.own.window),.d (.int .i64 x.own.lu),.d (.int .i64 x.own.c0),.d (.int .i64 x.own.lZ),.d (.int .i64 x.own.kT),.d (.int .i64 x.own.fc),.d (.int .i64 x.own.hD),.d (.int .i64 x.dr.ring),.d (.int .i64 x.dr.window),.d (.int .i64 x.dr.lu),.d (.int .i64 x.dr.c0),.d (.int .i64 x.dr.lZ),.d (.int .i64 x.dr.kT),.d (.int .i64 x.dr.fc),.d (.int .i64 x.dr.hD),.d (.sl 39 (x.streams.map ae.enc)),.d (.int .i64 x.c0.a1),.d (.int .i64 x.c0.used),.d (.int .i64 x.c0.blocked),.d (.int .i64 x.c0.i4),.d (.int .i64 x.bO.size),.d (.int .i64 x.bO.most),.d (.int .i64 x.bO.a1),.d (.int .i64 x.bO.seen),.d (.int .i64 x.bO.read),.d (.int .i64 x.bO.jU),.d (.int .i64 x.eT.a1),.d (.int .i64 x.eT.opened),.d (.int .i64 x.eT.blocked),.d (.int .i64 x.eS.a1),.d (.int .i64 x.eS.opened),.d (.int .i64 x.eS.blocked),.d (.int .i64 x.dA.most),.d (.int .i64 x.dA.a1),.d (.int .i64 x.dA.seen),.d (.int .i64 x.dA.closed),.d (.int .i64 x.dz.most),.d (.int .i64 x.dz.a1),.d (.int .i64 x.dz.seen),.d (.int .i64 x.dz.closed),.d (.bool x.vQ),.d (.bool x.mH),.d (.bool x.mI),.d (.int .i64 x.eZ),.d (.int .i64 x.number),.d (.sl 2 (x.packets.map aI.enc)),.d (.int .i64 x.hO),.d (.int .i64 x.closed)]
def J.aK(x:J)(fP b5:V):List V:=[.d (.bool x.df),.d (.int .i64 x.own.ring),.d (.int .i64 x.own.window),.d (.int .i64 x.own.lu),.d (.int .i64 x.own.c0),.d (.int .i64 x.own.lZ),.d (.int .i64 x.own.kT),.d (.int .i64 x.own.fc),.d (.int .i64 x.own.hD),.d (.int .i64 x.dr.ring),.d (.int .i64 x.dr.window),.d (.int .i64 x.dr.lu),.d (.int .i64 x.dr.c0),.d (.int .i64 x.dr.lZ),.d (.int .i64 x.dr.kT),.d (.int .i64 x.dr.fc),.d (.int .i64 x.dr.hD),fP,.d (.int .i64 x.c0.a1),.d (.int .i64 x.c0.used),.d (.int .i64 x.c0.blocked),.d (.int .i64 x.c0.i4),.d (.int .i64 x.bO.size),.d (.int .i64 x.bO.most),.d (.int .i64 x.bO.a1),.d (.int .i64 x.bO.seen),.d (.int .i64 x.bO.read),.d (.int .i64 x.bO.jU),.d (.int .i64 x.eT.a1),.d (.int .i64 x.eT.opened),.d (.int .i64 x.eT.blocked),.d (.int .i64 x.eS.a1),.d (.int .i64 x.eS.opened),.d (.int .i64 x.eS.blocked),.d (.int .i64 x.dA.most),.d (.int .i64 x.dA.a1),.d (.int .i64 x.dA.seen),.d (.int .i64 x.dA.closed),.d (.int .i64 x.dz.most),.d (.int .i64 x.dz.a1),.d (.int .i64 x.dz.seen),.d (.int .i64 x.dz.closed),.d (.bool x.vQ),.d (.bool x.mH),.d (.bool x.mI),.d (.int .i64 x.eZ),.d (.int .i64 x.number),b5,.d (.int .i64 x.hO),.d (.int .i64 x.closed)]
def J.bJ:List V:=[.d (.bool false),.d (.int .i64 0),.d (.int .i64 0),.d (.int .i64 0),.d (.int .i64 0),.d (.int .i64 0),.d (.int .i64 0),.d (.int .i64 0),.d (.int .i64 0),.d (.int .i64 0),.d (.int .i64 0),.d (.int .i64 0),.d (.int .i64 0),.d (.int .i64 0),.d (.int .i64 0),.d (.int .i64 0),.d (.int .i64 0),.c6 39,.d (.int .i64 0),.d (.int .i64 0),.d (.int .i64 0),.d (.int .i64 0),.d (.int .i64 0),.d (.int .i64 0),.d (.int .i64 0),.d (.int .i64 0),.d (.int .i64 0),.d (.int .i64 0),.d (.int .i64 0),.d (.int .i64 0),.d (.int .i64 0),.d (.int .i64 0),.d (.int .i64 0),.d (.int .i64 0),.d (.int .i64 0),.d (.int .i64 0),.d (.int .i64 0),.d (.int .i64 0),.d (.int .i64 0),.d (.int .i64 0),.d (.int .i64 0),.d (.int .i64 0),.d (.bool false),.d (.bool false),.d (.bool false),.d (.int .i64 0),.d (.int .i64 0),.c6 2,.d (.int .i64 0),.d (.int .i64 0)]
attribute [go_sem,simp] J.enc J.bC J.aK J.bJ
def ae.bC(x:ae):List V:=[.d (.int .i64 x.id),.d (.int .i64 x.send.state),.d (.int .i64 x.send.ring.size),.d (.int .i64 x.send.ring.base),.d (.int .i64 x.send.ring.cj),.d (.sl 1 (x.send.ring.cells.map a')),.d (.sl 2 (x.send.pending.map aa.enc)),.d (.sl 2 (x.send.flight.map aa.enc)),.d (.sl 2 (x.send.cb.map aa.enc)),.d (.int .i64 x.send.bg),.d (.int .i64 x.send.ba),.d (.int .i64 x.send.sent),.d (.int .i64 x.send.code),.d (.int .i64 x.c2.a1),.d (.int .i64 x.c2.used),.d (.int .i64 x.c2.blocked),.d (.int .i64 x.c2.i4),.d (.int .i64 x.recv.state),.d (.int .i64 x.recv.buffer.next),.d (.sl 2 (x.recv.buffer.bd.map ax.enc)),.d (.int .i64 x.recv.bg),.d (.int .i64 x.recv.d2),.d (.int .i64 x.recv.code),.d (.int .i64 x.window.size),.d (.int .i64 x.window.most),.d (.int .i64 x.window.a1),.d (.int .i64 x.window.seen),.d (.int .i64 x.window.read),.d (.int .i64 x.window.jU),.d (.int .i64 x.priority.iK),.d (.bool x.priority.g2),.d (.bool x.eo),.d (.bool x.eJ),.d (.bool x.ho),.d (.bool x.hH),.d (.bool x.kb),.d (.bool x.ky),.d (.int .i64 x.lC),.d (.bool x.counted)]
def ae.aK(x:ae)(fP b5 cv cm dY:V):List V:=[.d (.int .i64 x.id),.d (.int .i64 x.send.state),.d (.int .i64 x.send.ring.size),.d (.int .i64 x.send.ring.base),.d (.int .i64 x.send.ring.cj),fP,b5,cv,cm,.d (.int .i64 x.send.bg),.d (.int .i64 x.send.ba),.d (.int .i64 x.send.sent),.d (.int .i64 x.send.code),.d (.int .i64 x.c2.a1),.d (.int .i64 x.c2.used),.d (.int .i64 x.c2.blocked),.d (.int .i64 x.c2.i4),.d (.int .i64 x.recv.state),.d (.int .i64 x.recv.buffer.next),dY,.d (.int .i64 x.recv.bg),.d (.int .i64 x.recv.d2),.d (.int .i64 x.recv.code),.d (.int .i64 x.window.size),.d (.int .i64 x.window.most),.d (.int .i64 x.window.a1),.d (.int .i64 x.window.seen),.d (.int .i64 x.window.read),.d (.int .i64 x.window.jU),.d (.int .i64 x.priority.iK),.d (.bool x.priority.g2),.d (.bool x.eo),.d (.bool x.eJ),.d (.bool x.ho),.d (.bool x.hH),.d (.bool x.kb),.d (.bool x.ky),.d (.int .i64 x.lC),.d (.bool x.counted)]
def ae.bJ:List V:=[.d (.int .i64 0),.d (.int .i64 0),.d (.int .i64 0),.d (.int .i64 0),.d (.int .i64 0),.c6 1,.c6 2,.c6 2,.c6 2,.d (.int .i64 0),.d (.int .i64 0),.d (.int .i64 0),.d (.int .i64 0),.d (.int .i64 0),.d (.int .i64 0),.d (.int .i64 0),.d (.int .i64 0),.d (.int .i64 0),.d (.int .i64 0),.c6 2,.d (.int .i64 0),.d (.int .i64 0),.d (.int .i64 0),.d (.int .i64 0),.d (.int .i64 0),.d (.int .i64 0),.d (.int .i64 0),.d (.int .i64 0),.d (.int .i64 0),.d (.int .i64 0),.d (.bool false),.d (.bool false),.d (.bool false),.d (.bool false),.d (.bool false),.d (.bool false),.d (.bool false),.d (.int .i64 0),.d (.bool false)]
attribute [go_sem,simp] ae.enc ae.bC ae.aK ae.bJ
def aM.bC(x:aM):List V:=[.d (.int .i64 x.state),.d (.int .i64 x.ring.size),.d (.int .i64 x.ring.base),.d (.int .i64 x.ring.cj),.d (.sl 1 (x.ring.cells.map a')),.d (.sl 2 (x.pending.map aa.enc)),.d (.sl 2 (x.flight.map aa.enc)),.d (.sl 2 (x.cb.map aa.enc)),.d (.int .i64 x.bg),.d (.int .i64 x.ba),.d (.int .i64 x.sent),.d (.int .i64 x.code)]
def aM.aK(x:aM)(fP b5 cv cm:V):List V:=[.d (.int .i64 x.state),.d (.int .i64 x.ring.size),.d (.int .i64 x.ring.base),.d (.int .i64 x.ring.cj),fP,b5,cv,cm,.d (.int .i64 x.bg),.d (.int .i64 x.ba),.d (.int .i64 x.sent),.d (.int .i64 x.code)]
def aM.bJ:List V:=[.d (.int .i64 0),.d (.int .i64 0),.d (.int .i64 0),.d (.int .i64 0),.c6 1,.c6 2,.c6 2,.c6 2,.d (.int .i64 0),.d (.int .i64 0),.d (.int .i64 0),.d (.int .i64 0)]
attribute [go_sem,simp] aM.enc aM.bC aM.aK aM.bJ
def bc.bC(x:bc):List V:=[.d (.int .i64 x.state),.d (.int .i64 x.buffer.next),.d (.sl 2 (x.buffer.bd.map ax.enc)),.d (.int .i64 x.bg),.d (.int .i64 x.d2),.d (.int .i64 x.code)]
def bc.aK(x:bc)(fP:V):List V:=[.d (.int .i64 x.state),.d (.int .i64 x.buffer.next),fP,.d (.int .i64 x.bg),.d (.int .i64 x.d2),.d (.int .i64 x.code)]
def bc.bJ:List V:=[.d (.int .i64 0),.d (.int .i64 0),.c6 2,.d (.int .i64 0),.d (.int .i64 0),.d (.int .i64 0)]
attribute [go_sem,simp] bc.enc bc.bC bc.aK bc.bJ
def al.bC(x:al):List V:=[.d (.int .i64 x.bn),.d (.int .i64 x.stream),.d (.int .i64 x.offset),.d (.str x.data),.d (.bool x.ba),.d (.int .i64 x.code),.d (.int .i64 x.a1),.d (.int .i64 x.bg),.d (.bool x.fc)]
def al.bJ:List V:=[.d (.int .i64 0),.d (.int .i64 0),.d (.int .i64 0),.d (.str []),.d (.bool false),.d (.int .i64 0),.d (.int .i64 0),.d (.int .i64 0),.d (.bool false)]
attribute [go_sem,simp] al.enc al.bC al.bJ
def da.bC(x:da):List V:=[.d (.int .i64 x.size),.d (.int .i64 x.most),.d (.int .i64 x.a1),.d (.int .i64 x.seen),.d (.int .i64 x.read),.d (.int .i64 x.jU)]
def da.bJ:List V:=[.d (.int .i64 0),.d (.int .i64 0),.d (.int .i64 0),.d (.int .i64 0),.d (.int .i64 0),.d (.int .i64 0)]
attribute [go_sem,simp] da.enc da.bC da.bJ
def du.bC(x:du):List V:=[.d (.int .i64 x.ring),.d (.int .i64 x.window),.d (.int .i64 x.lu),.d (.int .i64 x.c0),.d (.int .i64 x.lZ),.d (.int .i64 x.kT),.d (.int .i64 x.fc),.d (.int .i64 x.hD)]
def du.bJ:List V:=[.d (.int .i64 0),.d (.int .i64 0),.d (.int .i64 0),.d (.int .i64 0),.d (.int .i64 0),.d (.int .i64 0),.d (.int .i64 0),.d (.int .i64 0)]
attribute [go_sem,simp] du.enc du.bC du.bJ
theorem b4{α:Type}(f:α→List D)(xs:List α)(i:Nat)(h:i<xs.length):(xs.map f)[i]?=some (f xs[i]):=by simp[h]
theorem dE{i m:Nat}(h:i<m)(hm:m≤maxLen):IntKind.i64.wrap ((i:Int)+1)=((i+1:Nat):Int):=by
 simp only[maxLen]at hm;rw[bE]<;>omega
theorem BU{n:Int}(h:dOk (.int .i64 n)):-9223372036854775808≤n∧n≤9223372036854775807:=by
 have h1:IntKind.i64.min=-9223372036854775808:=by decide
 have h2:IntKind.i64.max=9223372036854775807:=by decide
 simp only[dOk,h1,h2]at h;exact h
theorem fZ{α:Type}{e:α→List D}{sz:Nat}{xs:List α}{rs:List AD}(h:uM (.one (.sl sz (xs.map e))::rs)):xs.length≤maxLen:=by
 have:=h.1.1;rwa [I]at this
def abf(k:Int):Int:=IntKind.i64.wrap (k+1)
def lM:Nat→Int→Int
 |0,k=>k
 |n+1,k=>abf (lM n k)
theorem LW(b:Nat)(k:Int):∀a,lM (a+b) k=lM a (lM b k)
 |0=>by simp[lM]
 |a+1=>by rw[Nat.add_right_comm,lM,LW b k a];rfl
section
variable {α:Type} (mk:Int→α) (c:Nat)
def zr(k:Int)(xs:List α)(i:Nat):List α:=(List.range i).map (fun j=>mk (lM (c * j) k))++xs.drop i
theorem abg(k:Int)(xs:List α)(i:Nat)(h:i≤xs.length):(zr mk c k xs i).length=xs.length:=by simp[zr];omega
@[go_sem] theorem abh(k:Int)(xs:List α):(zr mk c k xs xs.length).length=xs.length:=abg mk c k xs _ (Nat.le_refl _)
@[go_sem] theorem akX(e:α→List D)(k:Int)(xs:List α):((zr mk c k xs xs.length).map e).take xs.length=(zr mk c k xs xs.length).map e:=List.take_of_length_le (by simp[abh])
def DN [DecidableEq α]:Int→List α→Int
 |k,[]=>k
 |k,x::xs=>if x=mk k then DN (lM c k) xs else -1
theorem SH [DecidableEq α]:∀(n:Nat) (k:Int),DN mk c k ((List.range n).map fun j=>mk (lM (c * j) k))=lM (c * n) k
 |0,k=>by simp[DN,lM]
 |n+1,k=>by
  rw[List.range_succ_eq_map,List.map_cons,List.map_map,DN,if_pos (by simp[lM])];have:((fun j=>mk (lM (c * j) k))∘Nat.succ)=fun j=>mk (lM (c * j) (lM c k)):=by
   funext j
   simp only[Function.comp,Nat.succ_eq_add_one,Nat.mul_add,Nat.mul_one,LW]
  rw[this,SH n (lM c k),←LW,Nat.mul_add,Nat.mul_one]
theorem abi [DecidableEq α](k:Int)(xs:List α):DN mk c k (zr mk c k xs xs.length)=lM (c * xs.length) k:=by
 unfold zr;rw[List.drop_length,List.append_nil];exact SH mk c _ _
attribute [go_sem] abi
end
section
variable {α:Type}
end
def lA{α:Type}(f:α→Nat)(xs:List α):Nat:=(xs.map f).sum
theorem abj{α:Type}(f:α→Nat)(xs:List α)(i:Nat)(h:i<xs.length):lA f (xs.take (i+1))=lA f (xs.take i)+f xs[i]:=by
 unfold lA;rw[List.take_add_one,dk h];simp only[Option.toList_some,List.map_append,List.map_cons,List.map_nil,List.sum_append,List.sum_cons,List.sum_nil,Nat.add_zero]
theorem abk{α:Type}(f:α→Nat)(xs:List α)(i:Nat):lA f (xs.take i)≤lA f xs:=by
 unfold lA
 conv=>rhs;rw[←List.take_append_drop i xs]
 simp only[List.map_append,List.sum_append];omega
theorem NL{α:Type}(f:α→Nat)(xs:List α)(i:Nat)(h:i<xs.length):f xs[i]≤lA f xs:=by
 have h1:=abj f xs i h;have h2:=abk f xs (i+1);omega
section
variable {α:Type}
def Bo(mk:Int→α→α)(xZ:Int→α→Int):Int→List α→List α
 |_,[]=>[]
 |k,x::xs=>mk k x::Bo mk xZ (xZ k x) xs
variable (mk:Int→α→α) (xZ:Int→α→Int)
theorem LX:∀(xs:List α) (k:Int),(Bo mk xZ k xs).length=xs.length
 |[],_=>rfl
 |x::xs,k=>by simp[Bo,LX xs]
@[go_sem] theorem akY(k:Int)(xs:List α):(Bo mk xZ k xs).length=xs.length:=LX mk xZ xs k
@[go_sem] theorem akZ(e:α→List D)(k:Int)(xs:List α):((Bo mk xZ k xs).map e).take xs.length=(Bo mk xZ k xs).map e:=List.take_of_length_le (by simp[LX])
end
theorem b7(a b:Bool):(bif a then b else false)=(a&&b):=by cases a<;>rfl
theorem cP(a b:Bool):(bif a then true else b)=(a||b):=by cases a<;>rfl
theorem ec{a b:Bool}(h:a=true↔b=true):[AD.one (D.bool a)]=[AD.one (D.bool b)]:=by
 have:a=b:=by cases a<;>cases b<;>simp_all
 rw[this]
@[go_sem] theorem ak0:ofVal (.pointer none)=.ab:=rfl
def c5.eC(x:c5):Nat:=x.cells.length
def aM.eC(x:aM):Nat:=c5.eC x.ring+x.pending.length+x.flight.length+x.cb.length
def ax.eC(x:ax):Nat:=x.data.length
def ll.eC(x:ll):Nat:=(x.bd.length+lA ax.eC x.bd)
def bc.eC(x:bc):Nat:=ll.eC x.buffer
def ae.eC(x:ae):Nat:=aM.eC x.send+bc.eC x.recv
def al.eC(x:al):Nat:=x.data.length
def aI.eC(x:aI):Nat:=(x.frames.length+lA al.eC x.frames)
def J.eC(x:J):Nat:=(x.streams.length+lA ae.eC x.streams)+(x.packets.length+lA aI.eC x.packets)
structure Vc where
 bytes:List Int
 read:Int
 deriving DecidableEq
set_option maxRecDepth 100000
def bz(n bK hi:Int):Bool:=decide (bK≤n)&&decide (n≤hi)
theorem hP(n bK hi:Int):PureCall Tryz.prog 38 [.one (.int .i64 n),.one (.int .i64 bK),.one (.int .i64 hi)] [.one (.bool (bz n bK hi))]:=by
 refine aP 15 Tryz.func38 Tryz.call38 [.tmp 6] ?_;intro _;simp only[go_sem]
 repeat((first|refine a8 ?_|refine en ?_);simp only[go_sem])
 simp[bz]
theorem jM(n bK hi:Int):PureCall Tryz.prog 52 [.one (.int .i64 n),.one (.int .i64 bK),.one (.int .i64 hi)] [.one (.bool (bz n bK hi))]:=by
 refine aP 15 Tryz.func52 Tryz.call52 [.tmp 6] ?_;intro _;simp only[go_sem]
 repeat((first|refine a8 ?_|refine en ?_);simp only[go_sem])
 simp[bz]
section
variable {P:Program}
def Ai(P:Program)(f:FuncId)(args:List AD)(Q:List AD→Prop):Prop:=
 ∀(w:World) (us:List Value) (F:List Nat),GOk w.heap→areps w.heap false args us F→Does P f us.toArray w fun v w'=>
  ∃res,Q res∧∃F',Bel (fun b=>w.heap.size≤b) w w'∧trep w'.heap true res v F'∧F'.Nodup∧∀b∈F',w.heap.size≤b
def DO(P:Program)(rs:List ResultVar)(Q:List AD→Prop)(σ:St):Prop:=∃res,Q res∧fL P rs res σ
theorem V1{f:FuncId}{fn:Func}{c:Code}{args:List AD}{Q:List AD→Prop}(hf:P.funcs[f]?=some fn)(hb:fn.body=some c)(hcall:∀(args:Array Value) (w:World),(callFunc f args).run P w=.ok (.enter f args) w)(hm:P.follows .mixedOrders=true)(ts:List V)
  (hn:args.map AD.s9++List.replicate (fn.ntmps-args.length) .ab=ts) (rs:List ResultVar) (hr:fn.results.toList=rs) (h0:uM args→codeE P [] c ⟨ts,[]⟩ (bo (DO P rs Q) .mk) [] (bo (DO P rs Q) .mk)):Ai P f args Q:=by
 intro w us F hg ha;have h:=h0 (Gy _ _ _ ha);clear h0;subst hr;subst hn;have eB:us.length=args.length:=(Le args us F 0 ha).1;have ba:∀(σ:St) (a:Act) (w':World),DO P fn.results.toList Q σ→d3 (fun b=>w.heap.size≤b) w [] σ a w'→a.defers=[]∧∃v,(results fn a.tmps).run P w'=.ok v w'∧
   ∃res,Q res∧∃F',Bel (fun b=>w.heap.size≤b) w w'∧trep w'.heap true res v F'∧F'.Nodup∧∀b∈F',w.heap.size≤b:=by
  rintro σ a w' ⟨res,hq,wk⟩ ⟨aG,φ,r,_⟩;obtain⟨v,F',h1,h2,ak,aC⟩:=Lb r wk;exact⟨r.l8,v,h1,res,hq,F',r.fg,h2,ak,fun b hb=>(aC b hb).1⟩
 refine Does.enter (hcall _ _) (calls_of_wp hf hb ?_);refine Dq (B:=fun b=>w.heap.size≤b) (w0:=w) (kp:=[]) (kv:=[]) rfl hm c _ (DO P fn.results.toList Q) [] (DO P fn.results.toList Q) _ _ w (fun σ a w' h' c3=>?_) (fun id σ a w' h' _=>h'.elim) (fun σ a w' h' c3=>?_) h ?_
 ·exact ba σ a w' h' c3
 ·exact ba σ a w' h' c3
 ·have:=Ld hg ha (fn.ntmps-args.length) [] (by simp);have hs:us.toArray.size=args.length:=by rw[List.size_toArray,eB]
  rw[hs];exact this
theorem Ai.inl{f:FuncId}{Br:List AD}{Q:List AD→Prop}{kv:List V}{hs:List H}{vs:List V}{K:V→List H→Prop}(h:Ai P f Br Q)(ah:toADs hs vs=some Br)(hk:∀rs,Q rs→K (lH rs hs.length) (hnew hs hs.length (aHs rs))):di P f kv hs vs K:=by
 intro B w0 kp us w bp aL;obtain⟨aG,φ,r,bR⟩:=aL;obtain⟨F,bV⟩:=FU (St.le.refl ⟨vs,hs⟩) r vs Br us ah (by simpa using r.gB);refine(h w us F r.Ke bV).mono ?_;rintro v w' ⟨res,hq,F',ai,aj,aT,bj⟩;obtain⟨bl,gH,gR⟩:=J' aj;have iC:∀i,hs.length≤i→i<hs.length+(aHs res).length→¬aG i:=fun i hi _ hd=>by have:=bR i hd;simp at this;omega
 obtain⟨cu,hA,dV⟩:=Kb (n:=hs.length) r (fun i hi h2=>iC i hi h2) ai ⟨gH.1,gH.2.1,gH.2.2.1⟩ aT bj;refine⟨_,_,hk res hq,_,cu,⟨?_,dV.kp,dV.hp,dV.dy,dV.d_,dV.ej,dV.f1,dV.fg,dV.bs,rfl,dV.jS⟩,?_⟩
 ·simp only[VRels];exact⟨v,[],rfl,gR cu hs.length _ hA,rfl⟩
 ·intro i hi;have h1:=CG (aHs res) hs hs.length;rcases hi with hi|hi
  ·have:=bR i hi;simp at this⊢;omega
  ·rcases h1.2 with h2|h2
   ·rw[h2]at hi;simp at hi;omega
   ·simp at hi⊢;omega
theorem af.CK{kv:List V}{σ:St}{dst:Option Tmp}{K:St→Prop}{f:FuncId}{vs:List V}{xF:Option (List AD)}{Br:List AD}{Q:List AD→Prop}(h:Ai P f Br Q)(ah:toADs σ.heap vs=some Br)
  (hk:∀rs,Q rs→K ⟨gP σ.tmps dst (lH rs σ.heap.length),hnew σ.heap σ.heap.length (aHs rs)⟩):af P kv σ dst f [] xF vs K:=
 af.inl (by rw[List.append_nil];exact Ai.inl h ah hk)
end
section
variable {P:Program} {kv:List V} {c:Code} {σ:St} {K K2:St→Prop} {aS:List (Nat×(St→Prop))} {cq:St→Prop}
def wR:Nat→Code→Code
 |k+1,.seq a b=>.seq a (wR k b)
 |_,_=>.skip
def yg:Nat→Code→Code
 |k+1,.seq _ b=>yg k b
 |_,c=>c
@[go_sem] theorem adj(k:Nat)(a b:Code):wR (k+1) (.seq a b)=.seq a (wR k b):=by rw[wR]
@[go_sem] theorem adk(c:Code):wR 0 c=.skip:=by cases c<;>rfl
@[go_sem] theorem xm(k:Nat)(a b:Code):yg (k+1) (.seq a b)=yg k b:=by rw[yg]
@[go_sem] theorem xn(c:Code):yg 0 c=c:=by cases c<;>rfl
def gQ(P:Program)(kv:List V)(c:Code)(σ:St)(K:St→Prop)(aS:List (Nat×(St→Prop)))(cq:St→Prop):Prop:=
 ∀(B:Nat→Prop) (w0:World) (kp:List (V×Value)) (Q:Exit→Act→World→Prop) (a:Act) (w:World),kp.map (·.1)=kv→
  (∀σ a w,K σ→d3 B w0 kp σ a w→Q .normal a w)→Rx B w0 kp Q aS→(∀σ a w,cq σ→d3 B w0 kp σ a w→Q .ret a w)→d3 B w0 kp σ a w→c.wp P Q a w
theorem jr(hm:P.follows .mixedOrders=true)(h:codeE P kv c σ K aS cq):gQ P kv c σ K aS cq:=fun _ _ _ Q a w bp bU cJ aL r=>Dq bp hm c σ K aS cq Q a w bU cJ aL h r
theorem MQ(hm:P.follows .mixedOrders=true):∀(k:Nat) (c:Code) (σ:St),codeE P kv (wR k c) σ K2 aS cq→(∀σ',K2 σ'→gQ P kv (yg k c) σ' K aS cq)→gQ P kv c σ K aS cq
 |0,c,σ,h1,h2=>by rw[adk]at h1;have:=h2 σ h1;rwa [xn]at this
 |k+1,c,σ,h1,h2=>by
  cases c with
  |seq a b=>
   rw[adj]at h1;intro B w0 kp Q u w bp bU cJ aL r;refine wp_seq (Dq bp hm a σ (fun σ'=>codeE P kv (wR k b) σ' K2 aS cq) aS cq _ u w (fun σ' fh w' h' c3=>?_) (fun id σ' fh w' h' c3=>cJ id σ' fh w' h' c3) (fun σ' fh w' h' c3=>aL σ' fh w' h' c3) h1 r);exact MQ hm k b σ' h' (fun n8 hk=>by have:=h2 n8 hk;rwa [xm]at this) B w0 kp Q fh w' bp bU cJ aL c3
  |_=>exact h2 σ h1
theorem OQ{ρ:List Nat}{σ':St}(hs:jQ kv ρ σ σ')(h:gQ P kv c σ' K aS cq):gQ P kv c σ K aS cq:=fun B w0 kp Q a w bp bU cJ aL r=>h B w0 kp Q a w bp bU cJ aL (B' bp hs r)
def dp{α:Type}(kv:List V)(gk:α→St)(gT:α→Prop)(σ:St):Prop:=∃x ρ,gT x∧jQ kv ρ σ (gk x)
theorem dp.intro{α:Type}{gk:α→St}{gT:α→Prop}(x:α)(ρ:List Nat)(h1:gT x)(h2:jQ kv ρ σ (gk x)):dp kv gk gT σ:=⟨x,ρ,h1,h2⟩
theorem eu{α:Type}(hm:P.follows .mixedOrders=true)(k:Nat)(gk:α→St)(gT:α→Prop)(h1:codeE P kv (wR k c) σ (bo (dp kv gk gT) .mk) aS cq)(h2:∀x,gT x→gQ P kv (yg k c) (gk x) K aS cq):gQ P kv c σ K aS cq:=
 MQ hm k c σ h1 fun _ ⟨x,_,hp,hs⟩=>OQ hs (h2 x hp)
theorem WB{id:Nat}(h:gQ P kv c σ K ((id,K)::aS) cq):gQ P kv (.block id c) σ K aS cq:=by
 intro B w0 kp Q a w bp bU cJ aL r;refine wp_block (h B w0 kp _ a w bp (fun σ' fh w' h' c3=>bU σ' fh w' h' c3) (fun np σ' fh w' h' c3=>?_) (fun σ' fh w' h' c3=>aL σ' fh w' h' c3) r);simp only[outE]at h';simp only[Exit.inBlock];by_cases hi:np=id
 ·rw[if_pos hi];rw[if_pos hi]at h';exact bU σ' fh w' h' c3
 ·rw[if_neg hi];rw[if_neg hi]at h';exact cJ np σ' fh w' h' c3
end
section
variable {P:Program}
theorem adl{f:FuncId}{fn:Func}{c:Code}{args res:List AD}(hf:P.funcs[f]?=some fn)(hb:fn.body=some c)(hcall:∀(args:Array Value) (w:World),(callFunc f args).run P w=.ok (.enter f args) w)(ts:List V)
  (hn:args.map AD.s9++List.replicate (fn.ntmps-args.length) .ab=ts) (rs:List ResultVar) (hr:fn.results.toList=rs) (h0:uM args→gQ P [] c ⟨ts,[]⟩ (bo (fL P rs res) .mk) [] (bo (fL P rs res) .mk)):PureCall P f args res:=by
 intro w us F hg ha;have h:=h0 (Gy _ _ _ ha);clear h0;subst hr;subst hn;have eB:us.length=args.length:=(Le args us F 0 ha).1;have ba:∀(σ:St) (a:Act) (w':World),fL P fn.results.toList res σ→d3 (fun b=>w.heap.size≤b) w [] σ a w'→a.defers=[]∧∃v,(results fn a.tmps).run P w'=.ok v w'∧
   ∃F',Bel (fun b=>w.heap.size≤b) w w'∧trep w'.heap true res v F'∧F'.Nodup∧∀b∈F',w.heap.size≤b:=by
  rintro σ a w' wk ⟨aG,φ,r,_⟩;obtain⟨v,F',h1,h2,ak,aC⟩:=Lb r wk;exact⟨r.l8,v,h1,F',r.fg,h2,ak,fun b hb=>(aC b hb).1⟩
 refine Does.enter (hcall _ _) (calls_of_wp hf hb ?_);refine h (fun b=>w.heap.size≤b) w [] _ _ w rfl (fun σ a w' h' c3=>?_) (fun id σ a w' h' _=>h'.elim) (fun σ a w' h' c3=>?_) ?_
 ·exact ba σ a w' h' c3
 ·exact ba σ a w' h' c3
 ·have:=Ld hg ha (fn.ntmps-args.length) [] (by simp);have hs:us.toArray.size=args.length:=by rw[List.size_toArray,eB]
  rw[hs];exact this
end
theorem ui{P:Program}{f:FuncId}{fn:Func}{c:Code}{args res:List AD}(n:Nat)(hf:P.funcs[f]?=some fn)(hcall:∀(args:Array Value) (w:World),(callFunc f args).run P w=.ok (.enter f args) w)(rs:List ResultVar)
  (h:uM args→gQ P [] c ⟨yX args n,[]⟩ (bo (fL P rs res) .mk) [] (bo (fL P rs res) .mk)) (hb:fn.body=some c:=by rfl) (hn:fn.ntmps=n:=by rfl) (hr:fn.results.toList=rs:=by rfl):PureCall P f args res:=
 adl hf hb hcall _ (by rw[hn];exact JH args n) rs hr h
section
variable {P:Program} {kv:List V} {c:Code} {σ:St} {K:St→Prop} {aS:List (Nat×(St→Prop))} {cq:St→Prop}
theorem SI{B:Nat→Prop}{w0:World}{kp:List (V×Value)}{a:Act}{w:World}{id sz:Nat}{xs:List (List D)}(h:aN σ.heap id=.ag sz xs)(r:d3 B w0 kp σ a w):d3 B w0 kp ⟨σ.tmps,b3 σ.heap id (.ao sz xs true)⟩ a w:=by
 obtain⟨aG,φ,r,bR⟩:=r;have hg:∀i,i≠id→aN (b3 σ.heap id (.ao sz xs true)) i=aN σ.heap i:=fun i hi=>by rw[gS,if_neg hi]
 have LY:aN (b3 σ.heap id (.ao sz xs true)) id=.ao sz xs true:=by rw[gS,if_pos rfl]
 refine⟨aG,φ,v7 r (fun i=>i=id) aG φ _ w (fun i hi=>⟨hg i hi,rfl⟩) (l7.refl φ) (Nat.le_refl _) (fun _ _ _=>rfl) ?_ ?_ (fun i j b hi av _ _=>hi.trans av.symm) ?_ ?_ r.f1 r.fg,fun i hi=>Nat.lt_of_lt_of_le (bR i hi) (CZ _ _ _).1⟩
 ·rintro i rfl b ⟨β,e,az⟩;refine Or.inr ⟨i,rfl,β,e,?_⟩;rw[LY]at az;rw[h];exact az.imp (fun q=>⟨rfl,q.2⟩) (fun q=>⟨rfl,q.2⟩)
 ·rintro i rfl β e b ht;refine Or.inr ⟨i,β,rfl,e,?_⟩;rw[LY]at ht;rw[h];rcases ht with ⟨_,q⟩|⟨q,_⟩
  ·exact Or.inl ⟨rfl,q⟩
  ·cases q
 ·rintro i β rfl e _;exact r.d_ i β e (by rw[h];rfl)
 ·rintro i rfl;rcases r.hp i with hd|⟨β,e,hr⟩
  ·rw[h]at hd;cases hd
  ·refine Or.inr ⟨β,e,?_⟩;rw[LY];rw[h]at hr;simp only[dG]at hr⊢;obtain⟨q,hr⟩:=hr;refine⟨q,hr.imp id ?_⟩;rintro⟨b,aH,aZ,ca,cf⟩;exact⟨b,β.cS,aH,aZ,ca,cf,fun _=>rfl,fun q=>by cases q⟩
theorem H4(id:Nat){sz:Nat}{xs:List (List D)}(h:aN σ.heap id=.ag sz xs)(hg:gQ P kv c ⟨σ.tmps,b3 σ.heap id (.ao sz xs true)⟩ K aS cq):gQ P kv c σ K aS cq:=fun B w0 kp Q a w bp bU cJ aL r=>hg B w0 kp Q a w bp bU cJ aL (SI h r)
end
theorem I3:ofVal (.int .u64 33)=.d (.int .u64 33):=rfl
theorem I4:ofVal (.int .u64 45)=.d (.int .u64 45):=rfl
theorem I5(k:IntKind)(x y:Int):shI .shr k x y=some (0≤y,.d (.int k (x.fdiv (2^min y.toNat k.bits)))):=rfl
theorem B8(x:Int):0≤bitI .and .i64 x 255∧bitI .and .i64 x 255≤255:=by
 have h:((BitVec.ofInt IntKind.i64.bits x &&& BitVec.ofInt IntKind.i64.bits 255).toNat:Int)≤255:=by
  have:(BitVec.ofInt IntKind.i64.bits x &&& BitVec.ofInt IntKind.i64.bits 255).toNat≤255:=by
   rw[BitVec.toNat_and];exact Nat.le_trans Nat.and_le_right (by decide)
  omega
 have e:bitI .and .i64 x 255=((BitVec.ofInt IntKind.i64.bits x &&& BitVec.ofInt IntKind.i64.bits 255).toNat:Int):=by
  unfold bitI;simp only;rw[bE]<;>omega
 rw[e];omega
def cM(bs:List Int)(i:Nat)(h:Int):H:=.box [.d (.sl 1 (bs.map eU8)),.d (.int .i64 i),.d (.int .i64 h)]
theorem jy(hs:List H)(x:H):b3 hs hs.length x=hs++[x]:=by unfold b3;simp
theorem e8(hs ys:List H)(n:Nat)(x:H):b3 (hs++ys) (hs.length+n) x=hs++b3 ys n x:=by
 unfold b3;by_cases h:n<ys.length
 ·simp[h]
 ·simp[h,Nat.add_sub_add_left]
theorem iz(hs ys:List H)(x:H):b3 (hs++ys) hs.length x=hs++b3 ys 0 x:=e8 hs ys 0 x
theorem ei(hs ys:List H)(n:Nat):aN (hs++ys) (hs.length+n)=aN ys n:=by
 unfold aN;rw[List.getD_eq_getElem?_getD,List.getD_eq_getElem?_getD,List.getElem?_append_right (by omega),Nat.add_sub_cancel_left]
theorem fH(hs ys:List H):aN (hs++ys) hs.length=aN ys 0:=ei hs ys 0
def mC(ρ:List Nat)(m:Nat):Prop:=∀i,i<m→ρ.getD i 0=i
theorem wW{m n:Nat}(h:m≤n):mC (List.range n) m:=fun i hi=>by
 have:i<n:=by omega
 simp[this]
theorem I6{m n:Nat}(h:m≤n)(r:List Nat):mC (List.range n++r) m:=fun i hi=>by
 have:i<n:=by omega
 rw[List.getD_eq_getElem?_getD,List.getElem?_append_left (by simpa using this)];simp[this]
mutual
theorem I7{ρ:List Nat}{m:Nat}(hf:mC ρ m):∀(v:V),vok m v→ren ρ v=v
 |.ab,_=>rfl
 |.d _,_=>rfl
 |.c6 _,_=>rfl
 |.agg vs,h=>by simp only[vok]at h;simp only[ren,EZ hf vs h]
 |.ptr id _ _,h=>by simp only[vok]at h;simp only[ren,hf id h]
 |.ep _ _,_=>rfl
 |.sl id _ _,h=>by simp only[vok]at h;simp only[ren,hf id h]
 |.fn _ vs,h=>by simp only[vok]at h;simp only[ren,EZ hf vs h]
 |.dB vs,h=>by simp only[vok]at h;simp only[ren,EZ hf vs h]
 |.bm _ v,h=>by simp only[vok]at h;simp only[ren,I7 hf v h]
theorem EZ{ρ:List Nat}{m:Nat}(hf:mC ρ m):∀(vs:List V),bf m vs→rens ρ vs=vs
 |[],_=>rfl
 |v::vs,h=>by simp only[bf]at h;simp only[rens,I7 hf v h.1,EZ hf vs h.2]
end
mutual
theorem I8{m n:Nat}(h:m≤n):∀(v:V),vok m v→vok n v
 |.ab,_=>by simp[vok]
 |.d _,_=>by simp[vok]
 |.c6 _,_=>by simp[vok]
 |.agg vs,k=>by simp only[vok]at k⊢;exact ld h vs k
 |.ptr id _ _,k=>by simp only[vok]at k⊢;omega
 |.ep _ _,_=>by simp[vok]
 |.sl id _ _,k=>by simp only[vok]at k⊢;omega
 |.fn _ vs,k=>by simp only[vok]at k⊢;exact ld h vs k
 |.dB vs,k=>by simp only[vok]at k⊢;exact ld h vs k
 |.bm _ v,k=>by simp only[vok]at k⊢;exact I8 h v k
theorem ld{m n:Nat}(h:m≤n):∀(vs:List V),bf m vs→bf n vs
 |[],_=>by simp[bf]
 |v::vs,k=>by simp only[bf]at k⊢;exact⟨I8 h v k.1,ld h vs k.2⟩
end
theorem yu{m:Nat}:∀{xs ys:List V},bf m xs→bf m ys→bf m (xs++ys)
 |[],_,_,h=>h
 |x::xs,ys,h,k=>by simp only[bf]at h;simp only[bx,bf];exact⟨h.1,yu h.2 k⟩
def db(m:Nat):H→Prop
 |.box cs=>bf m cs
 |.fR _ _ _ _=>False
 |_=>True
def dd(m:Nat):List H→Prop
 |[]=>True
 |x::xs=>db m x∧dd m xs
theorem mw{m n:Nat}(h:m≤n)(x:H)(k:db m x):db n x:=by
 unfold db at *;split at k
 ·exact ld h _ k
 ·exact k.elim
 ·trivial
theorem yJ{m n:Nat}(h:m≤n):∀{xs:List H},dd m xs→dd n xs
 |[],_=>trivial
 |x::II,k=>⟨mw h x k.1,yJ h k.2⟩
theorem B9{m:Nat}:∀{xs ys:List H},dd m xs→dd m ys→dd m (xs++ys)
 |[],_,_,h=>h
 |NV::II,VN,h,k=>⟨h.1,B9 h.2 k⟩
theorem z_{m:Nat}:∀{xs:List H},dd m xs→kS m xs
 |[],_=>trivial
 |x::xs,k=>⟨by cases x<;>first|exact k.1|trivial,z_ k.2⟩
theorem Og{ρ:List Nat}{m:Nat}(hf:mC ρ m){v:V}(h:vok m v):vsee ρ v v:=by
 unfold vsee;split
 ·trivial
 ·exact I7 hf _ h
theorem tv{ρ:List Nat}{m n:Nat}(hf:mC ρ m)(hn:m≤n):∀{kv:List V},bf m kv→tu ρ n kv
 |[],_=>trivial
 |v::vs,h=>by
  simp only[bf]at h;exact⟨⟨Og hf h.1,I8 hn v h.1⟩,tv hf hn h.2⟩
theorem Oh{ρ:List Nat}{m:Nat}(hf:mC ρ m):∀{vs:List V},bf m vs→vsees ρ vs vs
 |[],_=>trivial
 |v::vs,h=>by simp only[bf]at h;exact⟨Og hf h.1,Oh hf h.2⟩
theorem z9{ρ:List Nat}{m:Nat}(hf:mC ρ m):∀{x:H},db m x→hsee ρ x x
 |.c1,_=>trivial
 |.box cs,h=>by simp only[hsee];exact Oh hf h
 |.ao _ _ _,_=>⟨rfl,rfl,rfl⟩
 |.g1 _ _,_=>⟨rfl,rfl⟩
 |.ag _ _,_=>⟨rfl,rfl⟩
theorem E0{ρ:List Nat}{m:Nat}(hf:mC ρ m)(hs:List H):∀(is:List Nat) (xs:List H),is.length=xs.length→(∀k,k<xs.length→∃x,xs[k]?=some x∧aN hs (is.getD k 0)=x∧db m x)→hsees ρ hs is xs
 |[],[],_,_=>trivial
 |i::is,x::xs,hl,h=>by
  refine⟨?_,E0 hf hs is xs (by simpa using hl) fun k hk=>?_⟩
  ·obtain⟨y,h1,h2,ak⟩:=h 0 (by simp);simp only[List.getElem?_cons_zero,Option.some.injEq]at h1;subst h1;simp only[List.getD_cons_zero]at h2;rw[h2];exact z9 hf ak
  ·obtain⟨y,h1,h2,ak⟩:=h (k+1) (by simpa using hk);exact⟨y,by simpa using h1,by simpa using h2,ak⟩
theorem E1{m:Nat}:∀{xs:List H} {k:Nat} {x:H},dd m xs→xs[k]?=some x→db m x
 |[],_,_,_,h=>by simp at h
 |y::ys,0,x,k,h=>by simp at h;subst h;exact k.1
 |y::ys,n+1,x,k,h=>E1 (xs:=ys) k.2 (by simpa using h)
theorem E2{hs:List H}{i:Nat}{x:H}(h:hs[i]?=some x):aN hs i=x:=by unfold aN;rw[List.getD_eq_getElem?_getD,h];rfl
theorem yw{kv ts ts':List V}{hs ex:List H}(hr:dd hs.length hs)(bp:bf hs.length kv)(ht:vsees (List.range hs.length) ts' ts)(kx:bf hs.length ts'):jQ kv (List.range hs.length) ⟨ts,hs++ex⟩ ⟨ts',hs⟩:=by
 have hf:mC (List.range hs.length) hs.length:=wW (Nat.le_refl _);refine⟨List.nodup_range,ht,E0 hf _ _ _ (by simp) fun k hk=>?_,kx,z_ hr,tv hf (Nat.le_refl _) bp⟩;refine⟨hs[k],dk hk,?_,E1 hr (dk hk)⟩;have:(List.range hs.length).getD k 0=k:=hf k hk;rw[this];exact E2 (by rw[List.getElem?_append_left hk];exact dk hk)
theorem ES{kv ts ts':List V}{hs:List H}(hr:dd hs.length hs)(bp:bf hs.length kv)(ht:vsees (List.range hs.length) ts' ts)(kx:bf hs.length ts'):jQ kv (List.range hs.length) ⟨ts,hs⟩ ⟨ts',hs⟩:=by
 have:=yw (ex:=[]) hr bp ht kx
 rwa [List.append_nil]at this
theorem VO(m:Nat)(bs:List Int)(i:Nat)(h:Int):db m (cM bs i h):=by simp[cM,db,bf,vok]
theorem B_{bs:List Int}{i:Nat}{h:Int}{pre a_ ex:List H}{kv ts ts':List V}(hr:dd (pre.length+(a_.length+1)) pre∧dd (pre.length+(a_.length+1)) a_)(bp:bf (pre.length+(a_.length+1)) kv)(ht:vsees (List.range (pre.length+(a_.length+1))) ts' ts)(kx:bf (pre.length+(a_.length+1)) ts'):jQ kv (List.range (pre.length+(a_.length+1))) ⟨ts,pre++cM bs i h::(a_++ex)⟩ ⟨ts',pre++cM bs i h::a_⟩:=by
 have e:(pre++cM bs i h::a_).length=pre.length+(a_.length+1):=by simp
 have:=yw (hs:=pre++cM bs i h::a_) (ex:=ex) (ts:=ts) (ts':=ts') (kv:=kv) (by rw[e];exact B9 hr.1 ⟨VO _ _ _ _,hr.2⟩) (by rw[e];exact bp) (by rw[e];exact ht) (by rw[e];exact kx);rw[e,List.append_assoc]at this;exact this
theorem VP{bs:List Int}{i:Nat}{h:Int}{pre a_:List H}{kv ts ts':List V}(hr:dd (pre.length+(a_.length+1)) pre∧dd (pre.length+(a_.length+1)) a_)(bp:bf (pre.length+(a_.length+1)) kv)(ht:vsees (List.range (pre.length+(a_.length+1))) ts' ts)(kx:bf (pre.length+(a_.length+1)) ts'):jQ kv (List.range (pre.length+(a_.length+1))) ⟨ts,pre++cM bs i h::a_⟩ ⟨ts',pre++cM bs i h::a_⟩:=by
 have:=B_ (bs:=bs) (i:=i) (h:=h) (ex:=[]) hr bp ht kx
 rwa [List.append_nil]at this
theorem Oi(p r:Nat):(List.range (p+(r+1))).getD p 0=p:=wW (Nat.le_refl _) p (by omega)
theorem Oj(n k:Nat)(l:List Nat):(List.range n++k::l).getD n 0=k:=by
 rw[List.getD_eq_getElem?_getD,List.getElem?_append_right (by simp)];simp
def nN(kv:List V)(K:V→List H→Prop)(x:V)(hs':List H):Prop:=∃ρ x2 nf,jQ kv ρ ⟨[x],hs'⟩ ⟨[x2],nf⟩∧K x2 nf
theorem di.see{P:Program}{f:FuncId}{kv:List V}{hs:List H}{vs:List V}{K:V→List H→Prop}(h:di P f kv hs vs (nN kv K)):di P f kv hs vs K:=by
 intro B w0 kp us w bp aL;exact(h B w0 kp us w bp aL).mono fun v w' ⟨x,hs',⟨ρ,x2,nf,h1,h2⟩,ak⟩=>⟨x2,nf,h2,B' bp h1 ak⟩
set_option maxRecDepth 100000
def Ok:List (List bt):=cE 13 [1564919,1564917,1564911,1564893,1564839,1594201,1593715,1592257,1587883,1574761,1535274,1417176,1062882]
def Ol:List (List bt):=cE 10 [49247,49245,49239,49221,59008,58846,58360,56902,52528,39366]
def Om:List (List bt):=cE 15 [14083187,14339185,14339179,14339161,14339107,14348785,14348299,14346841,14342467,14329225,14289859,14171761,13817466,12754584,9565938]
attribute [go_sem] Ok Ol Om
theorem Ca(bs:List Int)(hm:bs.length≤maxLen)(i:Nat)(h:Int)(pre a_:List H)(kv:List V)(K:V→List H→Prop)(hi:i≤bs.length)
  (hk:∀(cA:Nat) (h' x:Int),cA≤bs.length→0≤x→x≤255→K (.d (.int .i64 x)) (pre++cM bs cA h'::a_)):di Tryz.prog 60 kv (pre++cM bs i h::a_) [.ptr pre.length 0 0] K:=by
 refine(el (n:=58) (rs:=[.tmp 2]) Tryz.func60 rfl Tryz.call60 Tryz.checked.mixed rfl rfl ?_);simp only[cM]at hk⊢;simp only[go_sem,fH,iz]
 try simp only[go_sem,fH,iz,I,I3,I4,I5]
 repeat'((first|refine a9 Ok (by kernel_rfl) (by rfl) ?_|refine a9 Ol (by kernel_rfl) (by rfl) ?_|refine a9 Om (by kernel_rfl) (by rfl) ?_|refine bq (fun h=>?_) (fun h=>?_))<;>simp only[go_sem,fH,I,I3,I4,I5])
 ·have hlt:i<bs.length:=by
   have:=cl h;omega
  have aB:=b4 eU8 bs i hlt
  try simp only[go_sem,fH,iz,aJ,aB,eU8]
  repeat'(first|(with_reducible refine aq ?_)|fail)
  rw[dE hlt hm];exact hk _ _ _ (by omega) (B8 _).1 (B8 _).2
 ·exact hk _ _ _ hi (B8 _).1 (B8 _).2
theorem On{x n:Int}(hx:0≤x)(hn:0<n):0≤x.tmod n∧x.tmod n<n:=⟨Int.tmod_nonneg _ hx,Int.tmod_lt_of_pos _ hn⟩
theorem js(bs:List Int)(hm:bs.length≤maxLen)(i:Nat)(h:Int)(pre a_:List H)(kv:List V)(n:Int)(hn:0<n)(nV:n≤4294967296)(K:V→List H→Prop)(hi:i≤bs.length)
  (hk:∀(cA:Nat) (h' x:Int),cA≤bs.length→0≤x→x<n→K (.d (.int .i64 x)) (pre++cM bs cA h'::a_)):di Tryz.prog 18 kv (pre++cM bs i h::a_) [.ptr pre.length 0 0,.d (.int .i64 n)] K:=by
 refine(el (n:=37) (rs:=[.tmp 4]) Tryz.func18 rfl Tryz.call18 Tryz.checked.mixed rfl rfl ?_);simp only[go_sem];refine bq (fun h1=>?_) (fun _=>?_)
 ·have:=cl h1;omega
 simp only[go_sem];refine bq (fun _=>?_) (fun h1=>?_)
 ·simp only[go_sem];refine af.inl (Ca bs hm i h pre a_ _ _ hi fun ew h1 x1 b5 dF dv=>?_);simp only[go_sem];refine⟨by omega,?_⟩;have:=On dF hn;exact hk _ _ _ b5 this.1 this.2
 ·have hb:=cG h1;simp only[go_sem];refine af.inl (Ca bs hm i h pre a_ _ _ hi fun ew h1 x1 b5 dF dv=>?_);simp only[go_sem];refine af.inl (Ca bs hm ew h1 pre a_ _ _ b5 fun dN h2 x2 cv dO dD=>?_);simp only[go_sem];refine af.inl (Ca bs hm dN h2 pre a_ _ _ cv fun eG ak gy cm dR jz=>?_);simp only[go_sem];refine af.inl (Ca bs hm eG ak pre a_ _ _ cm fun jR aC E3 dY l0 nU=>?_);simp only[go_sem];refine⟨by omega,?_⟩;rw[bE (n:=x1 * 16777216) (by omega) (by omega),bE (n:=x2 * 65536) (by omega) (by omega),bE (n:=gy * 256) (by omega) (by omega),bE (n:=x1 * 16777216+x2 * 65536) (by omega) (by omega),bE (n:=x1 * 16777216+x2 * 65536+gy * 256) (by omega) (by omega),bE (n:=x1 * 16777216+x2 * 65536+gy * 256+E3) (by omega) (by omega)];have:=On (x:=x1 * 16777216+x2 * 65536+gy * 256+E3) (by omega) hn;exact hk _ _ _ dY this.1 this.2
theorem vI(bs:List Int)(hm:bs.length≤maxLen)(i:Nat)(h:Int)(pre a_:List H)(kv:List V)(n:Int)(hn:0<n)(nV:n≤4294967296)(K:V→List H→Prop)(hi:i≤bs.length)
  (hk:∀(cA:Nat) (h':Int) (b:Bool),cA≤bs.length→K (.d (.bool b)) (pre++cM bs cA h'::a_)):di Tryz.prog 58 kv (pre++cM bs i h::a_) [.ptr pre.length 0 0,.d (.int .i64 n)] K:=by
 refine(el (n:=9) (rs:=[.tmp 4]) Tryz.func58 rfl Tryz.call58 Tryz.checked.mixed rfl rfl ?_);simp only[go_sem];refine af.inl (js bs hm i h pre a_ _ n hn nV _ hi fun ew h1 x1 b5 dF dv=>?_);simp only[go_sem];exact hk _ _ _ b5
theorem zY(bs:List Int)(hm:bs.length≤maxLen)(i:Nat)(h:Int)(pre a_:List H)(kv:List V)(id:Nat)(xs:List Int)(he:aN a_ id=.ao 1 (xs.map a') true)(hn:0<xs.length)(nV:xs.length≤1000)(K:V→List H→Prop)(hi:i≤bs.length)
  (hk:∀(cA:Nat) (h' x:Int),cA≤bs.length→x∈xs→K (.d (.int .i64 x)) (pre++cM bs cA h'::a_)):di Tryz.prog 57 kv (pre++cM bs i h::a_) [.ptr pre.length 0 0,.sl (pre.length+(id+1)) 0 xs.length] K:=by
 refine(el (n:=12) (rs:=[.tmp 4]) Tryz.func57 rfl Tryz.call57 Tryz.checked.mixed rfl rfl ?_);simp only[go_sem];refine af.inl (js bs hm i h pre a_ _ xs.length (by omega) (by omega) _ hi fun ew h1 x1 b5 dF dv=>?_);obtain⟨k,rfl⟩:=Int.eq_ofNat_of_zero_le dF;have hlt:k<xs.length:=by omega
 have aB:=b4 a' xs k hlt;simp only[go_sem,ei,he,aB,aJ,I,a'];refine⟨⟨by omega,by omega⟩,?_⟩;exact⟨hlt,hk _ _ _ b5 (List.getElem_mem hlt)⟩
theorem Oo(bs:List Int)(hm:bs.length≤maxLen)(i:Nat)(h:Int)(pre a_:List H)(kv:List V)(id:Nat)(xs:List (List UInt8))(he:aN a_ id=.ao 1 (xs.map kW) true)(hn:0<xs.length)(nV:xs.length≤1000)(K:V→List H→Prop)(hi:i≤bs.length)
  (hk:∀(cA:Nat) (h':Int) (x:List UInt8),cA≤bs.length→x∈xs→K (.d (.str x)) (pre++cM bs cA h'::a_)):di Tryz.prog 141 kv (pre++cM bs i h::a_) [.ptr pre.length 0 0,.sl (pre.length+(id+1)) 0 xs.length] K:=by
 refine(el (n:=12) (rs:=[.tmp 4]) Tryz.func141 rfl Tryz.call141 Tryz.checked.mixed rfl rfl ?_);simp only[go_sem];refine af.inl (js bs hm i h pre a_ _ xs.length (by omega) (by omega) _ hi fun ew h1 x1 b5 dF dv=>?_);obtain⟨k,rfl⟩:=Int.eq_ofNat_of_zero_le dF;have hlt:k<xs.length:=by omega
 have aB:=b4 kW xs k hlt;simp only[go_sem,ei,he,aB,aJ,I,kW];refine⟨⟨by omega,by omega⟩,?_⟩;exact⟨hlt,hk _ _ _ b5 (List.getElem_mem hlt)⟩
theorem VQ{x:List UInt8}(h:x∈[[97],[98],[99],[100]]):x.length=1:=by
 simp only[List.mem_cons,List.not_mem_nil,or_false]at h;rcases h with rfl|rfl|rfl|rfl<;>rfl
theorem I9(bs:List Int)(hm:bs.length≤maxLen)(i:Nat)(h:Int)(pre a_:List H)(kv:List V)(most:Nat)(hr:dd (pre.length+(a_.length+1)) pre∧dd (pre.length+(a_.length+1)) a_)(bp:bf (pre.length+(a_.length+1)) kv)(hb:most≤1000)(K:V→List H→Prop)(hi:i≤bs.length)
  (hk:∀(cA:Nat) (h':Int) (s:List UInt8),cA≤bs.length→s.length≤most→K (.d (.str s)) (pre++cM bs cA h'::a_)):di Tryz.prog 137 kv (pre++cM bs i h::a_) [.ptr pre.length 0 0,.d (.int .i64 most)] K:=by
 refine(el (n:=21) (rs:=[.tmp 4]) Tryz.func137 rfl Tryz.call137 Tryz.checked.mixed rfl rfl ?_);simp only[go_sem];rw[bE (n:=(most:Int)+1) (by omega) (by omega)];refine af.inl (js bs hm i h pre a_ _ ((most:Int)+1) (by omega) (by omega) _ hi fun ew h1 x1 b5 dF dv=>?_);obtain⟨k,rfl⟩:=Int.eq_ofNat_of_zero_le dF;simp only[go_sem];refine b9.intro (α:=Nat×Int×Nat×List UInt8) (fun y=>⟨(.ptr pre.length 0 0::.d (.int .i64 most)::.ab::.ab::.d (.str [])::.d (.str y.2.2.2)::.d (.int .i64 y.2.2.1)::aF 14 []),pre++cM bs y.1 y.2.1::a_⟩)
  (fun y=>y.2.2.1) (fun y=>y.1≤bs.length∧y.2.2.1+y.2.2.2.length≤most) (ew,h1,k,[]) (List.range (pre.length+(a_.length+1))) ⟨b5,by simp;omega⟩ ?_ ?_
 ·exact VP hr bp (by simp[vsees,vsee,ren]) (by simp[bf,vok])
 ·rintro⟨dN,h2,n,s⟩ ⟨gY,hs⟩;simp only at hs;simp only[go_sem];refine bq (fun q=>?_) (fun q=>?_)
  ·have hn:=cl q;simp only[go_sem,jy,e8];refine af.inl (Oo bs hm dN h2 pre (a_++[.ao 1 ([[97],[98],[99],[100]].map kW) true]) _ a_.length [[97],[98],[99],[100]] (by rw[fH];rfl) (by decide) (by decide) _ gY fun eG ak x cm dR=>?_);have hl:=VQ dR;simp only[go_sem];refine⟨by simp only[maxLen];omega,?_⟩;rw[bE (n:=(n:Int)-1) (by omega) (by omega)];refine bu.intro (eG,ak,n-1,s++x) (List.range (pre.length+(a_.length+1))) ⟨cm,by simp only[List.length_append];omega⟩ (show n-1<n by omega) ?_;have e:((n-1:Nat):Int)=(n:Int)-1:=by omega
   simp only[e];exact B_ hr bp (by simp[vsees,vsee,ren]) (by simp[bf,vok])
  ·simp only[go_sem];exact hk _ _ _ gY (by omega)
theorem VR(bs:List Int)(hm:bs.length≤maxLen)(pre:List H)(kv:List V)(hr:dd pre.length pre)(bp:bf pre.length kv)(K:V→List H→Prop)
  (hk:∀(h':Int),K (.ptr pre.length 0 0) (pre++[cM bs 0 h'])):di Tryz.prog 15 kv pre [.d (.sl 1 (bs.map eU8))] K:=by
 refine(el (n:=32) (rs:=[.tmp 2]) Tryz.func15 rfl Tryz.call15 Tryz.checked.mixed rfl rfl ?_);simp only[go_sem,I];refine b9.intro (α:=Nat×Int) (fun y=>⟨(.d (.sl 1 (bs.map eU8))::.ab::.ab::.d (.int .i64 y.2)::.d (.int .i64 y.1)::aF 27 []),pre⟩)
  (fun y=>bs.length-y.1) (fun y=>y.1≤bs.length) (0,IntKind.i64.wrap (10101+(bs.length:Int))) (List.range pre.length) (by simp) ?_ ?_
 ·exact ES hr bp (by simp[vsees,vsee,ren]) (by simp[bf,vok])
 ·rintro⟨i,g⟩ hi;simp only at hi;simp only[go_sem,I]
  try simp only[go_sem,I]
  repeat'((first|refine a8 ?_|refine bq (fun h=>?_) (fun h=>?_))<;>simp only[go_sem,I])
  ·have hlt:i<bs.length:=by
    rcases Nat.lt_or_ge i bs.length with hlt|nX
    ·exact hlt
    ·rw[bb (by omega)]at h;cases h
   have aB:=b4 eU8 bs i hlt
   try simp only[go_sem,aB,aJ,eU8]
   repeat'(first|(with_reducible refine aq ?_)|fail)
   rw[dE hlt hm];refine bu.intro (i+1,bitI .and .i64 (IntKind.i64.wrap (IntKind.i64.wrap (IntKind.i64.wrap (g * 131)+IntKind.i64.wrap bs[i])+7)) 1073741823) (List.range pre.length) (show i+1≤bs.length by omega) (show bs.length-(i+1)<bs.length-i by omega) ?_;exact ES hr bp (by simp[vsees,vsee,ren]) (by simp[bf,vok])
  ·rw[jy];exact hk _
theorem I_{ρ:List Nat}{hs:List H}:∀{is E4:List Nat} {xs ys:List H},hsees ρ hs is xs→hsees ρ hs E4 ys→hsees ρ hs (is++E4) (xs++ys)
 |[],E4,[],ys,_,h=>h
 |[],_,_::_,_,h,_=>by simp[hsees]at h
 |_::_,_,[],_,h,_=>by simp[hsees]at h
 |i::is,E4,x::xs,ys,h,k=>by
  simp only[hsees]at h;exact⟨h.1,I_ h.2 k⟩
theorem I'{m:Nat}:∀{xs ys:List H},kS m xs→kS m ys→kS m (xs++ys)
 |[],_,_,h=>h
 |NV::II,VN,h,k=>⟨h.1,I' h.2 k⟩
theorem mB(n j:Nat)(l:List Nat):(List.range n++l).getD (n+j) 0=l.getD j 0:=by
 rw[List.getD_eq_getElem?_getD,List.getElem?_append_right (by simp),List.getD_eq_getElem?_getD];simp
theorem IJ{kv ts ts':List V}{hs ex ex':List H}(l3:List Nat)(hnd:l3.Nodup)(nX:∀k∈l3,hs.length≤k)(hr:dd hs.length hs)(hx:hsees (List.range hs.length++l3) (hs++ex) l3 ex')(Cb:kS (hs.length+ex'.length) ex')(bp:bf hs.length kv)(ht:vsees (List.range hs.length++l3) ts' ts)(kx:bf (hs.length+ex'.length) ts') :
  jQ kv (List.range hs.length++l3) ⟨ts,hs++ex⟩ ⟨ts',hs++ex'⟩:=by
 have hf:mC (List.range hs.length++l3) hs.length:=I6 (Nat.le_refl _) _;have hl:(hs++ex').length=hs.length+ex'.length:=by simp
 refine⟨?_,ht,I_ (E0 hf _ _ _ (by simp) fun j av=>?_) hx,by rw[hl];exact kx,?_,by rw[hl];exact tv hf (by omega) bp⟩
 ·rw[List.nodup_append];refine⟨List.nodup_range,hnd,fun a ha b hb=>?_⟩;have:=nX b hb;simp at ha;omega
 ·refine⟨hs[j],dk av,?_,E1 hr (dk av)⟩;have:(List.range hs.length).getD j 0=j:=wW (Nat.le_refl _) j av;rw[this];exact E2 (by rw[List.getElem?_append_left av];exact dk av)
 ·rw[hl];exact I' (z_ (yJ (by omega) hr)) Cb
theorem NW(ρ:List Nat):∀E5:List V,vsees ρ (List.replicate E5.length .ab) E5
 |[]=>trivial
 |adX::E5=>⟨trivial,NW ρ E5⟩
theorem IK(m:Nat):∀k,bf m (List.replicate k .ab)
 |0=>trivial
 |k+1=>⟨trivial,IK m k⟩
theorem Hx{P:Program}{f:FuncId}{fn:Func}{c:Code}{kv:List V}{hs:List H}{vs:List V}{K:V→List H→Prop}{n:Nat}(hf:P.funcs[f]?=some fn)(hb:fn.body=some c)(hcall:∀(args:Array Value) (w:World),(callFunc f args).run P w=.ok (.enter f args) w)
  (hn:fn.ntmps=n) {rs:List ResultVar} (hr:fn.results.toList=rs) (h:gQ P kv c ⟨vs++List.replicate (n-vs.length) .ab,hs⟩ (bo (t3 P rs (kg K .mk)) .mk) [] (bo (t3 P rs (kg K .mk)) .mk)):di P f kv hs vs K:=by
 intro B w0 kp us w bp aL;subst hr;subst hn;have eB:us.length=vs.length:=by
  obtain⟨aG,φ,r,_⟩:=aL;have:=i6 _ _ r.gB;simpa using this
 have ba:∀(σ:St) (a:Act) (w':World),t3 P fn.results.toList K σ→d3 B w0 kp σ a w'→a.defers=[]∧∃v,(results fn a.tmps).run P w'=.ok v w'∧
   ∃x hs',K x hs'∧d3 B w0 kp ⟨[x],hs'⟩ ⟨#[v],[]⟩ w':=by
  rintro σ a w' wk ⟨aG,φ,r,bR⟩;obtain⟨xs,fy,cC,hv,hu⟩:=Gx r _ _ wk;refine⟨r.l8,if h:fy.length=1 then fy[0]else .tuple fy.toArray,?_,_,_,cC,aG,φ,⟨?_,r.kp,r.hp,r.dy,r.d_,r.ej,r.f1,r.fg,r.bs,rfl,r.jS⟩,bR⟩
  ·rw[La,Array.mapM_eq_mapM_toList];simp only[Sem.run_bind,Sem.run_map,hu];simp only[Result.andThen,List.size_toArray,Sem.run_pure];split<;>simp_all
  ·simp only[VRels];exact⟨_,_,rfl,RA hv,rfl⟩
 refine Does.enter (hcall _ _) (calls_of_wp hf hb ?_);refine h B w0 kp _ _ w bp (fun σ a w' h' c3=>?_) (fun id σ a w' h' _=>h'.elim) (fun σ a w' h' c3=>?_) ?_
 ·exact ba σ a w' h' c3
 ·exact ba σ a w' h' c3
 ·obtain⟨aG,φ,r,bR⟩:=aL;have hs':us.toArray.size=vs.length:=by rw[List.size_toArray,eB]
  refine⟨aG,φ,⟨?_,r.kp,r.hp,r.dy,r.d_,r.ej,r.f1,r.fg,r.bs,rfl,r.jS⟩,bR⟩;have:=A3 r.gB (KE (φ:=φ) (T:=b8 φ hs) (h:=w.heap) (v:=.ab) (u:=undef) (by simp[VRel]) (fn.ntmps-vs.length));rw[hs'];simpa using this
theorem di.Un{P:Program}{f:FuncId}{kv:List V}{hs:List H}{vs:List V}{K:V→List H→Prop}(h:di P f kv hs vs (fun x hs'=>K x hs'∨∃id sz xs,aN hs' id=.ag sz xs∧K x (b3 hs' id (.ao sz xs true)))):di P f kv hs vs K:=by
 intro B w0 kp us w bp aL;refine(h B w0 kp us w bp aL).mono fun v w' ⟨x,hs',h1,h2⟩=>?_;rcases h1 with h1|⟨id,sz,xs,hg,h1⟩
 ·exact⟨x,hs',h1,h2⟩
 ·exact⟨x,_,h1,SI (σ:=⟨[x],hs'⟩) hg h2⟩
theorem EF{n:Nat}{b:Bool}{x y:V}:vok n (bif b then x else y)↔((b=true→vok n x)∧(b=false→vok n y)):=by cases b<;>simp
theorem UG{F:Oper→List Bool→Prop}:∀{l:List (Oper×List Bool)},(∀x∈l,F x.1 x.2)→tF l F
 |[],_=>trivial
 |x::l,h=>⟨h x (by simp),UG fun y hy=>h y (by simp[hy])⟩
def ju(o:Oper):List Nat:=(o.after.toList.filter (Region.binds .any)).map (·.on)
def BK:Nat→List Oper→Bool
 |_,[]=>true
 |k,o::os=>(ju o).all (fun j=>decide (j<k))&&BK (k+1) os
theorem UH:∀(os:List Oper) (k i:Nat) (o:Oper),BK k os=true→os[i]?=some o→∀j∈ju o,j<k+i
 |[],_,_,_,_,h,_,_=>by simp at h
 |x::os,k,0,o,h,h1,j,av=>by
  simp only[List.getElem?_cons_zero,Option.some.injEq]at h1;subst h1;simp only[BK,Bool.and_eq_true,List.all_eq_true,decide_eq_true_eq]at h;have:=h.1 j av;omega
 |x::os,k,i+1,o,h,h1,j,av=>by
  simp only[BK,Bool.and_eq_true]at h;have:=UH os (k+1) i o h.2 (by simpa using h1) j av;omega
theorem adP{ay:List Oper}{S:List Bool}(ht:BK 0 ay=true)(hl:S.length=ay.length)(h:rdyE S ay [] S=[])(i:Nat):i<ay.length→S[i]?=some true:=by
 induction i using Nat.strongRecOn with
 |_ i dx=>
  intro hi;have hb:S[i]?=some S[i]:=dk (by omega)
  cases hv:S[i]with
  |true=>rw[hb,hv]
  |false=>
   rw[hv]at hb;have az:ay[i]?=some ay[i]:=dk hi;have:=FD (S:=S) ay [] S i ay[i] az hb fun e he hx=>by
    have hm:e.on∈ju ay[i]:=List.mem_map.2 ⟨e,List.mem_filter.2 ⟨by simpa using he,hx⟩,rfl⟩;have hlt:=UH ay 0 i _ ht az _ hm;have hq:=dx e.on (by omega) (by omega);rw[List.getD_eq_getElem?_getD,hq];rfl
   rw[h]at this
   cases this
theorem UI:∀(S:List Bool) (i:Nat),S[i]?=some false→(S.set i true).count false+1=S.count false
 |[],_,h=>by simp at h
 |b::S,0,h=>by
  simp only[List.getElem?_cons_zero,Option.some.injEq]at h;subst h;simp
 |b::S,i+1,h=>by
  have:=UI S i (by simpa using h);rw[List.set_cons_succ,List.count_cons,List.count_cons];omega
def BL(F:Nat→Oper→Prop):Nat→List Oper→Prop
 |_,[]=>True
 |k,o::os=>F k o∧BL F (k+1) os
theorem lh{F:Nat→Oper→Prop}{k:Nat}{o:Oper}{os:List Oper}(h:F k o)(hr:BL F (k+1) os):BL F k (o::os):=⟨h,hr⟩
theorem lg{F:Nat→Oper→Prop}{k:Nat}:BL F k []:=trivial
theorem UJ{F:Nat→Oper→Prop}:∀(os:List Oper) (k i:Nat) (o:Oper),BL F k os→os[i]?=some o→F (k+i) o
 |[],_,_,_,_,h=>by simp at h
 |x::os,k,0,o,h,h1=>by
  simp only[List.getElem?_cons_zero,Option.some.injEq]at h1;subst h1;exact h.1
 |x::os,k,i+1,o,h,h1=>by
  have:=UJ os (k+1) i o h.2 (by simpa using h1)
  rwa [show k+(i+1)=k+1+i from by omega]
def UK(ay:List Oper)(S:List Bool):Prop:=∀(i j:Nat) (o:Oper),ay[j]?=some o→i∈ju o→S[i]?=some false→S[j]?=some false
def adQ(P:Program)(kv:List V)(ay:List Oper)(Inv:List Bool→St→Prop)(k:Nat)(o:Oper):Prop:=
 ∀(S:List Bool) (σ:St) (F:St→Prop),S.length=ay.length→S[k]?=some false→(ju o).all (fun j=>S.getD j false)=true→UK ay S→Inv S σ→(∀σ',Inv (S.set k true) σ'→F σ')→tG P kv ay σ o (bo (fun σ'=>F σ') .mk)
theorem lf{P:Program}{kv:List V}{ay:List Oper}(Inv:List Bool→St→Prop){N:Nat}(bF:ay.length=N)(ht:BK 0 ay=true){σ:St}(h0:Inv (List.replicate N false) σ)(h1:BL (adQ P kv ay Inv) 0 ay) :
  exE P kv ay ay.length (List.replicate ay.length false) σ (fun σ'=>Inv (List.replicate N true) σ'):=by
 subst bF;have adR:∀(n:Nat) (S:List Bool) (σ:St),S.length=ay.length→S.count false=n→UK ay S→Inv S σ→exE P kv ay n S σ (fun σ'=>Inv (List.replicate ay.length true) σ'):=by
  intro n
  induction n with
  |zero=>
   intro S σ hl hc hcl aO;have y1:∀b∈S,b=true:=fun b hb=>by
    cases b with
    |true=>rfl
    |false=>have:=List.count_pos_iff.2 hb;omega
   have aQ:S=List.replicate ay.length true:=by
    rw[←hl];exact List.eq_replicate_iff.2 ⟨rfl,y1⟩
   refine⟨?_,aQ▸aO⟩;rw[List.eq_nil_iff_forall_not_mem];intro x hx;obtain⟨i,_,h2,_⟩:=FE ay [] S x hx;have:=y1 false (List.mem_of_getElem? h2)
   cases this
  |succ n dx=>
   intro S σ hl hc hcl aO;refine⟨fun h=>?_,UG fun x hx=>?_⟩
   ·have y1:=adP ht hl h;have:false∈S:=List.count_pos_iff.1 (by omega);obtain⟨i,hi,he⟩:=List.getElem_of_mem this;have:=y1 i (by omega);rw[dk hi,he]at this
    cases this
   ·obtain⟨i,h2,ak,aC,bL⟩:=FE ay [] S x hx;have hq:=UJ ay 0 i x.1 h1 h2;rw[Nat.zero_add]at hq;refine hq S σ (fun σ'=>exE P kv ay n x.2 σ' _) hl ak ?_ hcl aO fun σ' adS=>?_
    ·rw[List.all_eq_true];intro j av;obtain⟨e,he,rfl⟩:=List.mem_map.1 av;obtain⟨EH,yx⟩:=List.mem_filter.1 he;exact bL e (by simpa using EH) yx
    ·rw[aC,b1];have:=UI S i ak;refine dx (S.set i true) σ' (by simpa using hl) (by omega) (fun a b o az ha hb=>?_) adS;have adT:i≠a:=fun e=>by
      subst e;have:i<S.length:=by
       have:=List.getElem?_eq_some_iff.1 ak;exact this.1
      rw[List.getElem?_set_self this]at hb
      cases hb
     rw[List.getElem?_set_ne adT]at hb;have hne:i≠b:=fun e=>by
      subst e;rw[h2]at az
      cases az
      obtain⟨e,he,rfl⟩:=List.mem_map.1 ha;obtain⟨EH,yx⟩:=List.mem_filter.1 he;have:=bL e (by simpa using EH) yx;rw[List.getD_eq_getElem?_getD,hb]at this
      cases this
     rw[List.getElem?_set_ne hne];exact hcl a b o az ha hb
 refine adR ay.length _ σ (by simp) (by simp) (fun a b o az ha hb=>?_) h0;have:b<ay.length:=(List.getElem?_eq_some_iff.1 az).1;simp[this]
set_option maxRecDepth 100000
def Mo:List (List bt):=cE 18 [387420488,387420486,387420480,387420462,387420408,387420246,387419760,380253690,380249316,387173358,387389871,387271773,386897796,385834914,382646268,373071582,344373768,258280326]
def Mp:List (List bt):=cE 24 [282429536477,282429536479,282429536472,282429536454,282429536400,282429536238,282429535752,282429534294,282429529920,282429516798,277220115603,277220765142,277220410848,277219288917,277216100271,277206534333,282278843433,282364936875,282063609828,281288768850,278964245916,271969183278,251048476872,188286357654]
def DW:List (List bt):=cE 9 [18707,18709,18702,18684,18630,19561,19075,17496,13122]
def Ts:List (List bt):=cE 10 [57959,57957,59017,59035,58972,58810,58324,56862,52488,39366]
attribute [go_sem] Mo Mp DW Ts
def cR(r:aa):Bool:=decide (0≤r.low)&&decide (r.low<r.high)&&decide (r.high≤4611686018427387903)
def oj(xs:List aa)(i:Nat):Bool:=
 match xs[i]? with
 |some x=>cR x&&(match i with|0=>true|j+1=>match xs[j]? with|some p=>decide (p.high<x.low)|none=>true)
 |none=>true
def cx(xs:List aa):Bool:=(List.range xs.length).all (oj xs)
theorem Tt(xs:List aa)(i:Nat)(h:i<xs.length)(h2:oj xs i=false):cx xs=false:=by
 unfold cx;rw[List.all_eq_false];exact⟨i,List.mem_range.2 h,by simp[h2]⟩
theorem Tu{p:Nat→Bool}{i:Nat}(h:(List.range i).all p=true)(h2:p i=true):(List.range (i+1)).all p=true:=by
 rw[List.range_succ,List.all_append,h];simp[h2]
def c7(a b:Int):Int:=if b<a then b else a
def dg(a b:Int):Int:=if b>a then b else a
def jJ(s:List aa×Bool×aa)(x:aa):List aa×Bool×aa:=
 if x.high<s.2.2.low then(s.1++[x],s.2.1,s.2.2)
 else if s.2.2.high<x.low then((if s.2.1=true then s.1 else s.1++[s.2.2])++[x],true,s.2.2)
 else(s.1,s.2.1,⟨c7 s.2.2.low x.low,dg s.2.2.high x.high⟩)
def ft(xs:List aa)(r:aa):Nat→List aa×Bool×aa
 |0=>([],false,r)
 |i+1=>match xs[i]? with|some x=>jJ (ft xs r i) x|none=>ft xs r i
theorem Mq(xs:List aa)(r:aa)(i:Nat)(h:i<xs.length):ft xs r (i+1)=jJ (ft xs r i) xs[i]:=by
 rw[ft,dk h]
theorem Hs(xs:List aa)(r:aa):∀i,(ft xs r i).1.length≤i+(if(ft xs r i).2.1=true then 1 else 0)
 |0=>by simp[ft]
 |i+1=>by
  have:=Hs xs r i;rw[ft];split
  ·unfold jJ;by_cases h1:(ft xs r i).2.1=true
   ·simp only[h1,if_true]at this⊢;split
    ·simp;omega
    ·split
     ·simp;omega
     ·simp;omega
   ·simp only[h1]at this⊢;split
    ·simp at this⊢;omega
    ·split
     ·simp at this⊢;omega
     ·simp at this⊢;omega
  ·by_cases h1:(ft xs r i).2.1=true
   ·simp only[h1,if_true]at this⊢;omega
   ·simp[h1]at this⊢;omega
def fs(xs:List aa)(r:aa):List aa:=
 if cx xs&&cR r=true then(if(ft xs r xs.length).2.1=true then(ft xs r xs.length).1 else(ft xs r xs.length).1++[(ft xs r xs.length).2.2])else xs
theorem ID(xs:List aa)(r:aa):(fs xs r).length≤xs.length+1:=by
 have:=Hs xs r xs.length;unfold fs;split
 ·split
  ·rename_i h;rw[if_pos h]at this;exact this
  ·rename_i h;rw[if_neg h]at this;simp;omega
 ·omega
theorem Ht(xs:List aa)(h:0<xs.length):oj xs 0=cR xs[0]:=by
 unfold oj;rw[dk h];simp
theorem DX(xs:List aa)(j:Nat)(h:j+1<xs.length):oj xs (j+1)=(cR xs[j+1]&&decide (xs[j].high<xs[j+1].low)):=by
 unfold oj;rw[dk h];simp only[dk (show j<xs.length by omega)]
theorem Hu(l h:Int):PureCall Tryz.prog 194 [.agg [.int .i64 l,.int .i64 h]] [.one (.bool (cR ⟨l,h⟩))]:=by
 refine aP 18 Tryz.func194 Tryz.call194 [.tmp 2] ?_;intro _
 try simp only[go_sem]
 repeat'(refine a8 ?_<;>simp only[go_sem])
 all_goals(simp[cR];try(cases decide (0≤l)<;>cases decide (l<h)<;>simp))
theorem Tv(xs:List aa)(hx:xs.length≤8388608):PureCall Tryz.prog 196 [.one (.sl 2 (xs.map aa.enc))] [.one (.sl 2 (xs.map aa.enc))]:=by
 refine aP 6 Tryz.func196 Tryz.call196 [.tmp 2] ?_;intro _
 try simp only[go_sem,I]
 repeat'(first|(with_reducible refine aq ?_)|fail)
 all_goals simp
theorem DY(xs:List aa):PureCall Tryz.prog 163 [.one (.sl 2 (xs.map aa.enc))] [.one (.bool (cx xs))]:=by
 refine aP 31 Tryz.func163 Tryz.call163 [.tmp 2] ?_;intro ok;have hm:=fZ ok;simp only[go_sem,I];refine b9.intro (fun i:Nat=>⟨(.d (.sl 2 (xs.map aa.enc))::.ab::.d (.bool false)::.ab::.ab::.d (.sl 2 (xs.map aa.enc))::.d (.int .i64 xs.length)::.d (.int .i64 i)::aF 23 []),[]⟩)
   (fun i=>xs.length-i) (fun i=>i≤xs.length∧(List.range i).all (oj xs)=true) 0 [] ⟨by omega,by simp⟩ ?_ ?_
 ·simp only[go_sem];simp
 ·rintro i ⟨hi,he⟩;simp only[go_sem];refine bq (fun h1=>?_) (fun h1=>?_)
  ·have au:=cl h1;have hlt:i<xs.length:=by omega
   have aB:=b4 aa.enc xs i hlt;have hw:=dE hlt hm;have wJ:=Tt xs i hlt;have wK:oj xs i=true→(List.range (i+1)).all (oj xs)=true:=Tu he
   cases i with
   |zero=>
    rw[Ht xs hlt]at wJ wK;have hr:cR ⟨xs[0].low,xs[0].high⟩=cR xs[0]:=rfl;have zA:IntKind.i64.wrap (0+1)=((1:Nat):Int):=by rw[bE]<;>omega
    try simp only[go_sem,I,aB,aa.enc,Int.toNat_zero,Int.natCast_zero]
    repeat'(first|((first|refine ar.intro (by apply Hu) ?_|with_reducible refine j9 ?_|refine en ?_|refine a9 Mo (by kernel_rfl) (by rfl) ?_|refine bq (fun h=>?_) (fun h=>?_))<;>simp only[go_sem,Int.lt_irrefl,decide_false])|(with_reducible refine aq ?_)|fail)
    all_goals first
     |(rw[hr]at h;rw[wJ (by revert h;cases cR xs[0]<;>simp)])
     |(rw[hr]at h;refine bu.intro 1 [] ⟨by omega,wK (by revert h;cases cR xs[0]<;>simp)⟩ (by omega) ?_;simp only[go_sem,zA])
   |succ j=>
    rw[DX xs j hlt]at wJ wK;have fQ:=b4 aa.enc xs j (by omega);have hs:IntKind.i64.wrap (((j+1:Nat):Int)-1)=(j:Int):=by simp only[maxLen]at hm;rw[bE]<;>omega
    have hg:decide ((0:Int)<((j+1:Nat):Int))=true:=bk (by omega);have hr:cR ⟨xs[j+1].low,xs[j+1].high⟩=cR xs[j+1]:=rfl;have hd:decide (xs[j+1].low≤xs[j].high)=!decide (xs[j].high<xs[j+1].low):=by by_cases hx:xs[j].high<xs[j+1].low<;>simp[hx]<;>omega
    try simp only[go_sem,I,aJ,aB,aa.enc]
    repeat'(first|((first|refine ar.intro (by apply Hu) ?_|refine en ?_|refine a9 Mo (by kernel_rfl) (by rfl) ?_|refine bq (fun h=>?_) (fun h=>?_))<;>simp only[go_sem,I,aJ,fQ,aa.enc,hs,hg])|(with_reducible refine aq ?_)|fail)
    all_goals first
     |(rw[hr,hd]at h;rw[wJ (by revert h;cases cR xs[j+1]<;>cases decide (xs[j].high<xs[j+1].low)<;>simp)])
     |(rw[hr,hd]at h;refine bu.intro (j+1+1) [] ⟨by omega,wK (by revert h;cases cR xs[j+1]<;>cases decide (xs[j].high<xs[j+1].low)<;>simp)⟩ (by omega) ?_;simp only[go_sem,hw])
  ·have au:=cG h1;have gY:i=xs.length:=by omega
   subst gY;simp only[go_sem];simp[cx,he]
theorem DZ(l h:Int):PureCall Tryz.prog 191 [.agg [.int .i64 l,.int .i64 h]] [.one (.bool (cR ⟨l,h⟩))]:=by
 refine aP 18 Tryz.func191 Tryz.call191 [.tmp 2] ?_;intro _
 try simp only[go_sem]
 repeat'(refine a8 ?_<;>simp only[go_sem])
 all_goals(simp[cR];try(cases decide (0≤l)<;>cases decide (l<h)<;>simp))
theorem I2(xs:List aa)(hx:xs.length≤8388608):PureCall Tryz.prog 120 [.one (.sl 2 (xs.map aa.enc))] [.one (.sl 2 (xs.map aa.enc))]:=by
 refine aP 6 Tryz.func120 Tryz.call120 [.tmp 2] ?_;intro _
 try simp only[go_sem,I]
 repeat'(first|(with_reducible refine aq ?_)|fail)
 all_goals simp
theorem uc(xs:List aa):PureCall Tryz.prog 156 [.one (.sl 2 (xs.map aa.enc))] [.one (.bool (cx xs))]:=by
 refine aP 34 Tryz.func156 Tryz.call156 [.tmp 2] ?_;intro ok;have hm:=fZ ok;simp only[go_sem];refine b9.intro (fun i:Nat=>⟨(.d (.sl 2 (xs.map aa.enc))::.ab::.d (.bool false)::.d (.int .i64 i)::aF 30 []),[]⟩)
   (fun i=>xs.length-i) (fun i=>i≤xs.length∧(List.range i).all (oj xs)=true) 0 [] ⟨by omega,by simp⟩ ?_ ?_
 ·simp only[go_sem];simp
 ·rintro i ⟨hi,he⟩;simp only[go_sem,I];refine bq (fun h1=>?_) (fun h1=>?_)
  ·have au:=cl h1;have hlt:i<xs.length:=by omega
   have aB:=b4 aa.enc xs i hlt;have hw:=dE hlt hm;have wJ:=Tt xs i hlt;have wK:oj xs i=true→(List.range (i+1)).all (oj xs)=true:=Tu he
   cases i with
   |zero=>
    rw[Ht xs hlt]at wJ wK;have hr:cR ⟨xs[0].low,xs[0].high⟩=cR xs[0]:=rfl;have zA:IntKind.i64.wrap (0+1)=((1:Nat):Int):=by rw[bE]<;>omega
    try simp only[go_sem,Int.natCast_zero]
    repeat'(first|((first|refine ar.intro (by apply DZ) ?_|with_reducible refine j9 ?_|refine en ?_|refine a9 Mp (by kernel_rfl) (by rfl) ?_|refine bq (fun h=>?_) (fun h=>?_))<;>simp only[go_sem,I,aB,aa.enc,Int.toNat_zero,Int.lt_irrefl,decide_false])|(with_reducible refine aq ?_)|fail)
    all_goals first
     |(rw[hr]at h;rw[wJ (by revert h;cases cR xs[0]<;>simp)])
     |(rw[hr]at h;refine bu.intro 1 [] ⟨by omega,wK (by revert h;cases cR xs[0]<;>simp)⟩ (by omega) ?_;simp only[go_sem,zA])
   |succ j=>
    rw[DX xs j hlt]at wJ wK;have fQ:=b4 aa.enc xs j (by omega);have hs:IntKind.i64.wrap (((j+1:Nat):Int)-1)=(j:Int):=by simp only[maxLen]at hm;rw[bE]<;>omega
    have hg:decide ((0:Int)<((j+1:Nat):Int))=true:=bk (by omega);have hr:cR ⟨xs[j+1].low,xs[j+1].high⟩=cR xs[j+1]:=rfl;have hd:decide (xs[j+1].low≤xs[j].high)=!decide (xs[j].high<xs[j+1].low):=by by_cases hx:xs[j].high<xs[j+1].low<;>simp[hx]<;>omega
    try simp only[go_sem]
    repeat'(first|((first|refine ar.intro (by apply DZ) ?_|refine en ?_|refine a9 Mp (by kernel_rfl) (by rfl) ?_|refine bq (fun h=>?_) (fun h=>?_))<;>simp only[go_sem,I,aJ,aB,fQ,aa.enc,hs,hg])|(with_reducible refine aq ?_)|fail)
    all_goals first
     |(rw[hr,hd]at h;rw[wJ (by revert h;cases cR xs[j+1]<;>cases decide (xs[j].high<xs[j+1].low)<;>simp)])
     |(rw[hr,hd]at h;refine bu.intro (j+1+1) [] ⟨by omega,wK (by revert h;cases cR xs[j+1]<;>cases decide (xs[j].high<xs[j+1].low)<;>simp)⟩ (by omega) ?_;simp only[go_sem,hw])
  ·have au:=cG h1;have gY:i=xs.length:=by omega
   subst gY;simp only[go_sem];simp[cx,he]
theorem aco(xs:List aa)(l h:Int)(hx:xs.length≤1048576):PureCall Tryz.prog 197 [.one (.sl 2 (xs.map aa.enc)),.agg [.int .i64 l,.int .i64 h]] [.one (.sl 2 ((fs xs ⟨l,h⟩).map aa.enc))]:=by
 refine aP 71 Tryz.func197 Tryz.call197 [.tmp 4] ?_;intro ok;have hm:=fZ ok;simp only[go_sem];refine af.intro (DY xs) ?_;simp only[go_sem]
 repeat'(first
  |(refine af.intro (Hu l h) ?_;simp only[go_sem,I])
  |(refine ar.intro (Hu l h) ?_;simp only[go_sem])
  |(refine a8 ?_;simp only[go_sem])|(refine en ?_;simp only[go_sem,I]))
 have hz:(bif !cx xs then true else !cR ⟨l,h⟩)=!(cx xs&&cR ⟨l,h⟩):=by cases cx xs<;>cases cR ⟨l,h⟩<;>rfl
 rw[hz];refine bq (fun h0=>?_) (fun h0=>?_)
 ·have bL:(cx xs&&cR ⟨l,h⟩)=false:=by cases hq:(cx xs&&cR ⟨l,h⟩)with|false=>rfl|true=>rw[hq]at h0;cases h0
  have mA:(xs.map aa.enc).take xs.length=xs.map aa.enc:=List.take_of_length_le (by simp);simp only[go_sem];refine af.intro (Tv xs (by omega)) ?_;simp only[go_sem];simp[fs,bL,mA]
 ·have bL:(cx xs&&cR ⟨l,h⟩)=true:=by cases hq:(cx xs&&cR ⟨l,h⟩)with|true=>rfl|false=>rw[hq]at h0;cases h0
  simp only[go_sem];refine b9.intro (fun i:Nat=>⟨(.d (.sl 2 (xs.map aa.enc))::.ab::.ab::.ptr 0 0 0::.c6 2::.sl 1 0 (ft xs ⟨l,h⟩ i).1.length::.d (.bool (ft xs ⟨l,h⟩ i).2.1)::aF 13 (.d (.sl 2 (xs.map aa.enc))::.d (.int .i64 xs.length)::.d (.int .i64 i)::aF 48 [])),[.box [.d (.int .i64 (ft xs ⟨l,h⟩ i).2.2.low),.d (.int .i64 (ft xs ⟨l,h⟩ i).2.2.high)],.ao 2 ((ft xs ⟨l,h⟩ i).1.map aa.enc) true]⟩)
   (fun i=>xs.length-i) (fun i=>i≤xs.length) 0 [0,1] (by omega) ?_ ?_
  ·simp only[go_sem];simp[ft]
  ·intro i hi;have Mr:=Hs xs ⟨l,h⟩ i;have wL:(ft xs ⟨l,h⟩ i).1.length≤i+1:=by split at Mr<;>omega
   simp only[go_sem];refine bq (fun h1=>?_) (fun h1=>?_)
   ·have au:=cl h1;have hlt:i<xs.length:=by omega
    have aB:=b4 aa.enc xs i hlt;have hw:=dE hlt hm;have cD:=Mq xs ⟨l,h⟩ i hlt;generalize hs:ft xs ⟨l,h⟩ i=s at cD wL;obtain⟨o,p,⟨tS,D0⟩⟩:=s;simp only at wL;by_cases hA:xs[i].high<tS
    ·have m6:=bk hA;simp only[jJ,hA,if_true]at cD
     try simp only[go_sem,I,aJ,aB,aa.enc,m6]
     repeat'(first|(with_reducible refine aq ?_)|fail)
     all_goals(refine bu.intro (i+1) [0,4] (by omega) (by omega) ?_;simp only[go_sem,hw,cD];simp[aa.enc])
    ·have m6:=bb hA;by_cases hB:D0<xs[i].low
     ·have tl:=bk hB;simp only[jJ,hA,hB,if_true,if_false]at cD
      cases p with
      |true=>
       try simp only[go_sem,I,aJ,aB,aa.enc,m6,tl]
       repeat'(first|(with_reducible refine aq ?_)|fail)
       all_goals(refine bu.intro (i+1) [0,4] (by omega) (by omega) ?_;simp only[go_sem,hw,cD];simp[aa.enc])
      |false=>
       try simp only[go_sem,I,aJ,aB,aa.enc,m6,tl]
       repeat'(first|(with_reducible refine aq ?_)|fail)
       all_goals(refine bu.intro (i+1) [0,6] (by omega) (by omega) ?_;simp only[go_sem,hw,cD];simp[aa.enc])
     ·have tl:=bb hB;simp only[jJ,hA,hB,if_false]at cD
      try simp only[go_sem,I,aJ,aB,aa.enc,m6,tl]
      repeat'(first|(with_reducible refine aq ?_)|fail)
      all_goals(refine bu.intro (i+1) [0,1] (by omega) (by omega) ?_;simp only[go_sem,hw,cD];simp[c7,dg])
   ·have au:=cG h1;have gY:i=xs.length:=by omega
    subst gY;generalize hs:ft xs ⟨l,h⟩ xs.length=s at wL;obtain⟨o,p,⟨tS,D0⟩⟩:=s;simp only at wL
    cases p with
    |true=>
     try simp only[go_sem,I]
     repeat'(first|(with_reducible refine aq ?_)|fail)
     all_goals simp[fs,bL,hs]
    |false=>
     try simp only[go_sem,I]
     repeat'(first|(with_reducible refine aq ?_)|fail)
     all_goals(simp[fs,bL,hs,aa.enc];try exact List.take_of_length_le (by simp))
theorem te(xs:List aa)(l h:Int)(hx:xs.length≤1048576):PureCall Tryz.prog 157 [.one (.sl 2 (xs.map aa.enc)),.agg [.int .i64 l,.int .i64 h]] [.one (.sl 2 ((fs xs ⟨l,h⟩).map aa.enc))]:=by
 refine aP 88 Tryz.func157 Tryz.call157 [.tmp 4] ?_;intro ok;have hm:=fZ ok;simp only[go_sem];refine af.intro (uc xs) ?_;simp only[go_sem]
 repeat'(first
  |(refine af.intro (DZ l h) ?_;simp only[go_sem,I])
  |(refine ar.intro (DZ l h) ?_;simp only[go_sem])
  |(refine a8 ?_;simp only[go_sem])|(refine en ?_;simp only[go_sem,I]))
 have hz:(bif !cx xs then true else !cR ⟨l,h⟩)=!(cx xs&&cR ⟨l,h⟩):=by cases cx xs<;>cases cR ⟨l,h⟩<;>rfl
 rw[hz];refine bq (fun h0=>?_) (fun h0=>?_)
 ·have bL:(cx xs&&cR ⟨l,h⟩)=false:=by cases hq:(cx xs&&cR ⟨l,h⟩)with|false=>rfl|true=>rw[hq]at h0;cases h0
  have mA:(xs.map aa.enc).take xs.length=xs.map aa.enc:=List.take_of_length_le (by simp);simp only[go_sem];refine af.intro (I2 xs (by omega)) ?_;simp only[go_sem];simp[fs,bL,mA]
 ·have bL:(cx xs&&cR ⟨l,h⟩)=true:=by cases hq:(cx xs&&cR ⟨l,h⟩)with|true=>rfl|false=>rw[hq]at h0;cases h0
  simp only[go_sem];refine b9.intro (fun i:Nat=>⟨(.d (.sl 2 (xs.map aa.enc))::.ab::.ab::.ptr 0 0 0::.c6 2::.sl 1 0 (ft xs ⟨l,h⟩ i).1.length::.d (.bool (ft xs ⟨l,h⟩ i).2.1)::.d (.int .i64 i)::aF 80 []),[.box [.d (.int .i64 (ft xs ⟨l,h⟩ i).2.2.low),.d (.int .i64 (ft xs ⟨l,h⟩ i).2.2.high)],.ao 2 ((ft xs ⟨l,h⟩ i).1.map aa.enc) true]⟩)
   (fun i=>xs.length-i) (fun i=>i≤xs.length) 0 [0,1] (by omega) ?_ ?_
  ·simp only[go_sem];simp[ft]
  ·intro i hi;have Mr:=Hs xs ⟨l,h⟩ i;have wL:(ft xs ⟨l,h⟩ i).1.length≤i+1:=by split at Mr<;>omega
   simp only[go_sem,I];refine bq (fun h1=>?_) (fun h1=>?_)
   ·have au:=cl h1;have hlt:i<xs.length:=by omega
    have aB:=b4 aa.enc xs i hlt;have hw:=dE hlt hm;have cD:=Mq xs ⟨l,h⟩ i hlt;generalize hs:ft xs ⟨l,h⟩ i=s at cD wL;obtain⟨o,p,⟨tS,D0⟩⟩:=s;simp only at wL;by_cases hA:xs[i].high<tS
    ·have m6:=bk hA;simp only[jJ,hA,if_true]at cD
     try simp only[go_sem]
     repeat'(first|(refine a9 DW (by kernel_rfl) (by rfl) ?_<;>simp only[go_sem,I,aJ,aB,aa.enc,m6])|(with_reducible refine aq ?_)|fail)
     all_goals(refine bu.intro (i+1) [0,3] (by omega) (by omega) ?_;simp only[go_sem,hw,cD];simp[aa.enc])
    ·have m6:=bb hA;by_cases hB:D0<xs[i].low
     ·have tl:=bk hB;simp only[jJ,hA,hB,if_true,if_false]at cD
      cases p with
      |true=>
       try simp only[go_sem]
       repeat'(first|(refine a9 DW (by kernel_rfl) (by rfl) ?_<;>simp only[go_sem,I,aJ,aB,aa.enc,m6,tl])|(with_reducible refine aq ?_)|fail)
       all_goals(refine bu.intro (i+1) [0,3] (by omega) (by omega) ?_;simp only[go_sem,hw,cD];simp[aa.enc])
      |false=>
       try simp only[go_sem]
       repeat'(first|(refine a9 DW (by kernel_rfl) (by rfl) ?_<;>simp only[go_sem,I,aJ,aB,aa.enc,m6,tl])|(with_reducible refine aq ?_)|fail)
       all_goals(refine bu.intro (i+1) [0,5] (by omega) (by omega) ?_;simp only[go_sem,hw,cD];simp[aa.enc])
     ·have tl:=bb hB;simp only[jJ,hA,hB,if_false]at cD
      try simp only[go_sem]
      repeat'(first|((first|refine a9 DW (by kernel_rfl) (by rfl) ?_|refine a9 Ts (by kernel_rfl) (by rfl) ?_)<;>simp only[go_sem,I,aJ,aB,aa.enc,m6,tl])|(with_reducible refine aq ?_)|fail)
      all_goals(refine bu.intro (i+1) [0,1] (by omega) (by omega) ?_;simp only[go_sem,hw,cD];simp[c7,dg])
   ·have au:=cG h1;have gY:i=xs.length:=by omega
    subst gY;generalize hs:ft xs ⟨l,h⟩ xs.length=s at wL;obtain⟨o,p,⟨tS,D0⟩⟩:=s;simp only at wL
    cases p with
    |true=>
     try simp only[go_sem,I]
     repeat'(first|(with_reducible refine aq ?_)|fail)
     all_goals simp[fs,bL,hs]
    |false=>
     try simp only[go_sem,I]
     repeat'(first|(with_reducible refine aq ?_)|fail)
     all_goals(simp[fs,bL,hs,aa.enc];try exact List.take_of_length_le (by simp))
set_option maxRecDepth 100000
def bM(n:Int):Bool:=bz n 0 4611686018427387903
theorem tw(n:Int):PureCall Tryz.prog 89 [.one (.int .i64 n)] [.one (.bool (bM n))]:=by
 refine aP 5 Tryz.func89 Tryz.call89 [.tmp 2] ?_;intro _
 try simp only[go_sem]
 repeat'(refine af.intro (by apply jM) ?_<;>simp only[go_sem])
 all_goals simp[bM]
theorem gZ(n:Int):PureCall Tryz.prog 81 [.one (.int .i64 n)] [.one (.bool (bM n))]:=by
 refine aP 5 Tryz.func81 Tryz.call81 [.tmp 2] ?_;intro _
 try simp only[go_sem]
 repeat'(refine af.intro (by apply hP) ?_<;>simp only[go_sem])
 all_goals simp[bM]
def la(n:Int):Bool:=bz n 1 64&&decide (bitI .and .i64 n (IntKind.i64.wrap (n-1))=0)
theorem D9(n:Int):PureCall Tryz.prog 87 [.one (.int .i64 n)] [.one (.bool (la n))]:=by
 refine aP 12 Tryz.func87 Tryz.call87 [.tmp 2] ?_;intro _
 try simp only[go_sem]
 repeat'((first|refine af.intro (by apply jM) ?_|refine a8 ?_)<;>simp only[go_sem])
 all_goals(refine ec ?_;simp[la,bz])
theorem HB(n:Int):PureCall Tryz.prog 79 [.one (.int .i64 n)] [.one (.bool (la n))]:=by
 refine aP 16 Tryz.func79 Tryz.call79 [.tmp 2] ?_;intro _
 try simp only[go_sem]
 repeat'(refine a8 ?_<;>simp only[go_sem])
 all_goals(refine ec ?_;simp[la,bz];try omega)
def gO(c:du):Bool:=la c.ring&&bz c.lu 1 4096&&bz c.lZ 1 4096&&bz c.window 1 c.lu&&bz c.c0 1 c.lZ&&bz c.kT 0 1000&&bz c.fc 0 1000&&bz c.hD 1 1000
theorem Ss(Ej Ek El Em En Eo EY GX:Int):PureCall Tryz.prog 46 [.agg [.int .i64 Ej,.int .i64 Ek,.int .i64 El,.int .i64 Em,.int .i64 En,.int .i64 Eo,.int .i64 EY,.int .i64 GX]] [.one (.bool (gO (⟨Ej,Ek,El,Em,En,Eo,EY,GX⟩:du)))]:=by
 refine aP 45 Tryz.func46 Tryz.call46 [.tmp 2] ?_;intro _
 try simp only[go_sem]
 repeat'((first|refine af.intro (by apply D9) ?_|refine ar.intro (by apply jM) ?_|refine a8 ?_)<;>simp only[go_sem])
 all_goals(refine ec ?_;simp[gO,and_assoc,and_comm,and_left_comm])
theorem B5(Ej Ek El Em En Eo EY GX:Int):PureCall Tryz.prog 32 [.agg [.int .i64 Ej,.int .i64 Ek,.int .i64 El,.int .i64 Em,.int .i64 En,.int .i64 Eo,.int .i64 EY,.int .i64 GX]] [.one (.bool (gO (⟨Ej,Ek,El,Em,En,Eo,EY,GX⟩:du)))]:=by
 refine aP 45 Tryz.func32 Tryz.call32 [.tmp 2] ?_;intro _
 try simp only[go_sem]
 repeat'((first|refine af.intro (by apply HB) ?_|refine ar.intro (by apply hP) ?_|refine a8 ?_)<;>simp only[go_sem])
 all_goals(refine ec ?_;simp[gO,and_assoc,and_comm,and_left_comm])
def x5(l:Int):d7:=if bM l then⟨l,0,-1,-1⟩else⟨0,0,0,0⟩
theorem SJ(l:Int):PureCall Tryz.prog 130 [.one (.int .i64 l)] [.agg [.int .i64 (x5 l).a1,.int .i64 (x5 l).used,.int .i64 (x5 l).blocked,.int .i64 (x5 l).i4],.one (.bool (bM l))]:=by
 refine aP 10 Tryz.func130 Tryz.call130 [.cell 2 28,.tmp 3] ?_;intro _
 try simp only[go_sem]
 repeat'((first|refine af.intro (by apply gZ) ?_|refine bq (fun h=>?_) (fun h=>?_))<;>simp only[go_sem])
 all_goals simp_all [x5]
def DV(size most:Int):Bool:=bz most 1 4096&&bz size 1 most
def wF(size most:Int):da:=if DV size most then⟨size,most,size,0,0,0⟩else⟨0,0,0,0,0,0⟩
theorem SK(s m:Int):PureCall Tryz.prog 131 [.one (.int .i64 s),.one (.int .i64 m)] [.agg (da.enc (wF s m)),.one (.bool (DV s m))]:=by
 refine aP 20 Tryz.func131 Tryz.call131 [.cell 4 30,.tmp 5] ?_;intro _
 try simp only[go_sem]
 repeat'((first|refine af.intro (by apply hP) ?_|refine ar.intro (by apply hP) ?_|refine a8 ?_|refine bq (fun h=>?_) (fun h=>?_))<;>simp only[go_sem])
 all_goals(cases h1:bz m 1 4096<;>cases h2:bz s 1 m<;>simp_all [wF,DV])
def Bq(l:Int):gp:=if bz l 0 1152921504606846976 then⟨l,0,-1⟩else⟨0,0,0⟩
theorem abl(l:Int):PureCall Tryz.prog 132 [.one (.int .i64 l)] [.agg [.int .i64 (Bq l).a1,.int .i64 (Bq l).opened,.int .i64 (Bq l).blocked],.one (.bool (bz l 0 1152921504606846976))]:=by
 refine aP 10 Tryz.func132 Tryz.call132 [.cell 2 32,.tmp 3] ?_;intro _
 try simp only[go_sem]
 repeat'((first|refine af.intro (by apply hP) ?_|refine bq (fun h=>?_) (fun h=>?_))<;>simp only[go_sem])
 all_goals simp_all [Bq]
def zw(m:Int):dm:=if bz m 0 1000 then⟨m,m,0,0⟩else⟨0,0,0,0⟩
theorem abm(m:Int):PureCall Tryz.prog 133 [.one (.int .i64 m)] [.agg [.int .i64 (zw m).most,.int .i64 (zw m).a1,.int .i64 (zw m).seen,.int .i64 (zw m).closed],.one (.bool (bz m 0 1000))]:=by
 refine aP 11 Tryz.func133 Tryz.call133 [.cell 2 34,.tmp 3] ?_;intro _
 try simp only[go_sem]
 repeat'((first|refine af.intro (by apply hP) ?_|refine bq (fun h=>?_) (fun h=>?_))<;>simp only[go_sem])
 all_goals simp_all [zw]
set_option maxRecDepth 100000
def DP(n:Int):Bool:=bM n&&decide (bitI .and .i64 n 1=1)
def lp(n:Int):Bool:=bM n&&decide (bitI .and .i64 n 2=2)
def lq(s:Bool)(n:Int):Bool:=bM n&&decide (DP n=s)
def eo(s:Bool)(n:Int):Bool:=bM n&&(!lp n||lq s n)
def eJ(s:Bool)(n:Int):Bool:=bM n&&(!lp n||!lq s n)
theorem LZ(n:Int):PureCall Tryz.prog 109 [.one (.int .i64 n)] [.one (.bool (bM n))]:=by
 refine aP 5 Tryz.func109 Tryz.call109 [.tmp 2] ?_;intro _
 try simp only[go_sem]
 repeat'(refine af.intro (by apply tw) ?_<;>simp only[go_sem])
 all_goals simp
theorem abn(n:Int):PureCall Tryz.prog 110 [.one (.int .i64 n)] [.one (.bool (DP n))]:=by
 refine aP 10 Tryz.func110 Tryz.call110 [.tmp 2] ?_;intro _
 try simp only[go_sem]
 repeat'((first|refine af.intro (by apply LZ) ?_|refine a8 ?_)<;>simp only[go_sem])
 all_goals(refine ec ?_;simp[DP])
theorem abo(n:Int):PureCall Tryz.prog 150 [.one (.int .i64 n)] [.one (.bool (DP n))]:=by
 refine aP 10 Tryz.func150 Tryz.call150 [.tmp 2] ?_;intro _
 try simp only[go_sem]
 repeat'((first|refine af.intro (by apply gZ) ?_|refine a8 ?_)<;>simp only[go_sem])
 all_goals(refine ec ?_;simp[DP])
theorem Hb(n:Int):PureCall Tryz.prog 113 [.one (.int .i64 n)] [.one (.bool (lp n))]:=by
 refine aP 10 Tryz.func113 Tryz.call113 [.tmp 2] ?_;intro _
 try simp only[go_sem]
 repeat'((first|refine af.intro (by apply LZ) ?_|refine a8 ?_)<;>simp only[go_sem])
 all_goals(refine ec ?_;simp[lp])
theorem yD(n:Int):PureCall Tryz.prog 116 [.one (.int .i64 n)] [.one (.bool (lp n))]:=by
 refine aP 10 Tryz.func116 Tryz.call116 [.tmp 2] ?_;intro _
 try simp only[go_sem]
 repeat'((first|refine af.intro (by apply gZ) ?_|refine a8 ?_)<;>simp only[go_sem])
 all_goals(refine ec ?_;simp[lp])
theorem Hc(s:Bool)(n:Int):PureCall Tryz.prog 69 [.one (.bool s),.one (.int .i64 n)] [.one (.bool (lq s n))]:=by
 refine aP 13 Tryz.func69 Tryz.call69 [.tmp 4] ?_;intro _
 try simp only[go_sem]
 repeat'((first|refine af.intro (by apply LZ) ?_|refine ar.intro (by apply abn) ?_|refine a8 ?_)<;>simp only[go_sem])
 all_goals(refine ec ?_;simp[lq])
theorem BZ(s:Bool)(n:Int):PureCall Tryz.prog 114 [.one (.bool s),.one (.int .i64 n)] [.one (.bool (lq s n))]:=by
 refine aP 13 Tryz.func114 Tryz.call114 [.tmp 4] ?_;intro _
 try simp only[go_sem]
 repeat'((first|refine af.intro (by apply gZ) ?_|refine ar.intro (by apply abo) ?_|refine a8 ?_)<;>simp only[go_sem])
 all_goals(refine ec ?_;simp[lq])
theorem Lj(s:Bool)(n:Int):PureCall Tryz.prog 200 [.one (.bool s),.one (.int .i64 n)] [.one (.bool (eo s n))]:=by
 refine aP 17 Tryz.func200 Tryz.call200 [.tmp 4] ?_;intro _
 try simp only[go_sem]
 repeat'((first|refine af.intro (by apply gZ) ?_|refine ar.intro (by first|apply yD|apply BZ) ?_|refine a8 ?_)<;>simp only[go_sem])
 all_goals(refine ec ?_;simp[eo])
theorem GC(s:Bool)(n:Int):PureCall Tryz.prog 201 [.one (.bool s),.one (.int .i64 n)] [.one (.bool (eJ s n))]:=by
 refine aP 18 Tryz.func201 Tryz.call201 [.tmp 4] ?_;intro _
 try simp only[go_sem]
 repeat'((first|refine af.intro (by apply gZ) ?_|refine ar.intro (by first|apply yD|apply BZ) ?_|refine a8 ?_)<;>simp only[go_sem])
 all_goals(refine ec ?_;simp[eJ])
theorem Hd:ofVal (.int .u64 2)=.d (.int .u64 2):=rfl
theorem SL(x:Int):shI .shr .i64 x 2=some ((0:Int)≤2,.d (.int .i64 (x.fdiv 4))):=rfl
theorem SM(x:Int):shI .shl .i64 x 2=some ((0:Int)≤2,.d (.int .i64 (IntKind.i64.wrap (x * 4)))):=rfl
def g0(n:Int):Int:=if bM n then n.fdiv 4 else -1
theorem N2(n:Int):PureCall Tryz.prog 249 [.one (.int .i64 n)] [.one (.int .i64 (g0 n))]:=by
 refine aP 8 Tryz.func249 Tryz.call249 [.tmp 2] ?_;intro _
 try simp only[go_sem]
 repeat'((first|refine af.intro (by apply gZ) ?_|refine bq (fun h=>?_) (fun h=>?_))<;>simp only[go_sem,Hd,SL])
 all_goals simp_all [g0]
def vF(n:Int)(s u:Bool):Int:=
 if bz n 0 1152921504606846975 then(if u then IntKind.i64.wrap ((if s then IntKind.i64.wrap (IntKind.i64.wrap (n * 4)+1)else IntKind.i64.wrap (n * 4))+2)else(if s then IntKind.i64.wrap (IntKind.i64.wrap (n * 4)+1)else IntKind.i64.wrap (n * 4)))else -1
theorem NO(n:Int)(s u:Bool):PureCall Tryz.prog 170 [.one (.int .i64 n),.one (.bool s),.one (.bool u)] [.one (.int .i64 (vF n s u))]:=by
 refine aP 20 Tryz.func170 Tryz.call170 [.tmp 6] ?_;intro _
 try simp only[go_sem]
 repeat'((first|refine af.intro (by apply hP) ?_|refine bq (fun h=>?_) (fun h=>?_))<;>simp only[go_sem,Hd,SM])
 all_goals simp_all [vF]
def lz(c:d7):Bool:=bM c.a1&&bz c.used 0 c.a1&&bz c.blocked (-1) c.a1&&bz c.i4 (-1) c.a1
theorem Su(dI e2 dJ e0:Int):PureCall Tryz.prog 48 [.agg [.int .i64 dI,.int .i64 e2,.int .i64 dJ,.int .i64 e0]] [.one (.bool (lz (⟨dI,e2,dJ,e0⟩:d7)))]:=by
 refine aP 27 Tryz.func48 Tryz.call48 [.tmp 2] ?_;intro _
 try simp only[go_sem]
 repeat'((first|refine af.intro (by apply tw) ?_|refine ar.intro (by apply jM) ?_|refine a8 ?_)<;>simp only[go_sem])
 all_goals(refine ec ?_;simp[lz])
theorem xc(dI e2 dJ e0:Int):PureCall Tryz.prog 34 [.agg [.int .i64 dI,.int .i64 e2,.int .i64 dJ,.int .i64 e0]] [.one (.bool (lz (⟨dI,e2,dJ,e0⟩:d7)))]:=by
 refine aP 27 Tryz.func34 Tryz.call34 [.tmp 2] ?_;intro _
 try simp only[go_sem]
 repeat'((first|refine af.intro (by apply gZ) ?_|refine ar.intro (by apply hP) ?_|refine a8 ?_)<;>simp only[go_sem])
 all_goals(refine ec ?_;simp[lz])
def Ay(c:d7):Int:=if lz c then IntKind.i64.wrap (c.a1-c.used)else 0
theorem W5(dI e2 dJ e0:Int):PureCall Tryz.prog 243 [.agg [.int .i64 dI,.int .i64 e2,.int .i64 dJ,.int .i64 e0]] [.one (.int .i64 (Ay (⟨dI,e2,dJ,e0⟩:d7)))]:=by
 refine aP 11 Tryz.func243 Tryz.call243 [.tmp 2] ?_;intro _
 try simp only[go_sem]
 repeat'((first|refine af.intro (by apply xc) ?_|refine bq (fun h=>?_) (fun h=>?_))<;>simp only[go_sem])
 all_goals simp_all [Ay]
def tO(c:d7)(n:Int):Bool:=lz c&&decide (0≤n)&&decide (n≤IntKind.i64.wrap (c.a1-c.used))
def uJ(c:d7)(n:Int):d7:=if tO c n then {c with used:=IntKind.i64.wrap (c.used+n)}else c
theorem W4(dI e2 dJ e0 n:Int):PureCall Tryz.prog 247 [.agg [.int .i64 dI,.int .i64 e2,.int .i64 dJ,.int .i64 e0],.one (.int .i64 n)] [.agg [.int .i64 (uJ (⟨dI,e2,dJ,e0⟩:d7) n).a1,.int .i64 (uJ (⟨dI,e2,dJ,e0⟩:d7) n).used,.int .i64 (uJ (⟨dI,e2,dJ,e0⟩:d7) n).blocked,.int .i64 (uJ (⟨dI,e2,dJ,e0⟩:d7) n).i4],.one (.bool (tO (⟨dI,e2,dJ,e0⟩:d7) n))]:=by
 refine aP 29 Tryz.func247 Tryz.call247 [.cell 4 28,.tmp 5] ?_;intro _
 try simp only[go_sem]
 repeat'((first|refine af.intro (by apply xc) ?_|refine a8 ?_|refine bq (fun h=>?_) (fun h=>?_))<;>simp only[go_sem])
 all_goals(cases hc:tO (⟨dI,e2,dJ,e0⟩:d7) n<;>first|(simp[uJ,hc];done)|(simp[uJ,hc];simp_all;done)|((try(simp only[decide_eq_true_eq,decide_eq_false_iff_not]at *));simp[uJ, *];done)|(exfalso;simp[tO]at hc h;first|(simp_all;done)|(simp_all;omega)|omega|grind)|(exfalso;simp[tO,cP,b7]at *;first|(simp_all;done)|(simp_all;omega)|omega|grind))
def He(c:d7)(l:Int):Bool:=lz c&&bM l&&decide (c.a1<l)
def u_(c:d7)(l:Int):d7:=if He c l then {c with a1:=l,blocked:=-1}else c
theorem RJ(dI e2 dJ e0 l:Int):PureCall Tryz.prog 224 [.agg [.int .i64 dI,.int .i64 e2,.int .i64 dJ,.int .i64 e0],.one (.int .i64 l)] [.agg [.int .i64 (u_ (⟨dI,e2,dJ,e0⟩:d7) l).a1,.int .i64 (u_ (⟨dI,e2,dJ,e0⟩:d7) l).used,.int .i64 (u_ (⟨dI,e2,dJ,e0⟩:d7) l).blocked,.int .i64 (u_ (⟨dI,e2,dJ,e0⟩:d7) l).i4]]:=by
 refine aP 24 Tryz.func224 Tryz.call224 [.cell 4 28] ?_;intro _
 try simp only[go_sem]
 repeat'((first|refine af.intro (by apply xc) ?_|refine ar.intro (by apply gZ) ?_|refine a8 ?_|refine bq (fun h=>?_) (fun h=>?_))<;>simp only[go_sem])
 all_goals(cases hc:He (⟨dI,e2,dJ,e0⟩:d7) l<;>first|(simp[u_,hc];done)|(simp[u_,hc];simp_all;done)|((try(simp only[decide_eq_true_eq,decide_eq_false_iff_not]at *));simp[u_, *];done)|(exfalso;simp[He]at hc h;first|(simp_all;done)|(simp_all;omega)|omega|grind)|(exfalso;simp[He,cP,b7]at *;first|(simp_all;done)|(simp_all;omega)|omega|grind))
def Hf(c:d7):Bool:=lz c&&decide (c.used=c.a1)&&decide (c.blocked=-1)&&decide (c.i4≠c.a1)
def uI(c:d7):d7:=if Hf c then {c with blocked:=c.a1}else c
theorem WU(dI e2 dJ e0:Int):PureCall Tryz.prog 245 [.agg [.int .i64 dI,.int .i64 e2,.int .i64 dJ,.int .i64 e0]] [.agg [.int .i64 (uI (⟨dI,e2,dJ,e0⟩:d7)).a1,.int .i64 (uI (⟨dI,e2,dJ,e0⟩:d7)).used,.int .i64 (uI (⟨dI,e2,dJ,e0⟩:d7)).blocked,.int .i64 (uI (⟨dI,e2,dJ,e0⟩:d7)).i4]]:=by
 refine aP 28 Tryz.func245 Tryz.call245 [.cell 2 28] ?_;intro _
 try simp only[go_sem]
 repeat'((first|refine af.intro (by apply xc) ?_|refine a8 ?_|refine bq (fun h=>?_) (fun h=>?_))<;>simp only[go_sem])
 all_goals(cases hc:Hf (⟨dI,e2,dJ,e0⟩:d7)<;>first|(simp[uI,hc];done)|(simp[uI,hc];simp_all;done)|((try(simp only[decide_eq_true_eq,decide_eq_false_iff_not]at *));simp[uI, *];done)|(exfalso;simp[Hf]at hc h;first|(simp_all;done)|(simp_all;omega)|omega|grind)|(exfalso;simp[Hf,cP,b7]at *;first|(simp_all;done)|(simp_all;omega)|omega|grind))
def sQ(c:d7):Bool:=lz c&&decide (c.blocked=c.a1)
theorem OO(dI e2 dJ e0:Int):PureCall Tryz.prog 209 [.agg [.int .i64 dI,.int .i64 e2,.int .i64 dJ,.int .i64 e0]] [.one (.bool (sQ (⟨dI,e2,dJ,e0⟩:d7)))]:=by
 refine aP 12 Tryz.func209 Tryz.call209 [.tmp 2] ?_;intro _
 try simp only[go_sem]
 repeat'((first|refine af.intro (by apply xc) ?_|refine a8 ?_)<;>simp only[go_sem])
 all_goals(refine ec ?_;simp[sQ])
def Hg(c:d7):Bool:=lz c&&decide (c.blocked≠-1)
def uE(c:d7):d7:=if Hg c then {c with i4:=c.blocked,blocked:=-1}else c
theorem OP(dI e2 dJ e0:Int):PureCall Tryz.prog 211 [.agg [.int .i64 dI,.int .i64 e2,.int .i64 dJ,.int .i64 e0]] [.agg [.int .i64 (uE (⟨dI,e2,dJ,e0⟩:d7)).a1,.int .i64 (uE (⟨dI,e2,dJ,e0⟩:d7)).used,.int .i64 (uE (⟨dI,e2,dJ,e0⟩:d7)).blocked,.int .i64 (uE (⟨dI,e2,dJ,e0⟩:d7)).i4]]:=by
 refine aP 15 Tryz.func211 Tryz.call211 [.cell 2 28] ?_;intro _
 try simp only[go_sem]
 repeat'((first|refine af.intro (by apply xc) ?_|refine a8 ?_|refine bq (fun h=>?_) (fun h=>?_))<;>simp only[go_sem])
 all_goals(cases hc:Hg (⟨dI,e2,dJ,e0⟩:d7)<;>first|(simp[uE,hc];done)|(simp[uE,hc];simp_all;done)|((try(simp only[decide_eq_true_eq,decide_eq_false_iff_not]at *));simp[uE, *];done)|(exfalso;simp[Hg]at hc h;first|(simp_all;done)|(simp_all;omega)|omega|grind)|(exfalso;simp[Hg,cP,b7]at *;first|(simp_all;done)|(simp_all;omega)|omega|grind))
def fl(w:da):Bool:=bz w.most 1 4096&&bz w.size 1 w.most&&bz w.a1 1 4611686018427387903&&bz w.seen 0 w.a1&&bz w.read 0 w.seen&&decide (w.a1≤IntKind.i64.wrap (w.read+w.size))&&bz w.jU 0 1000000
theorem LO(ir iu iv iw ix iy:Int):PureCall Tryz.prog 49 [.agg [.int .i64 ir,.int .i64 iu,.int .i64 iv,.int .i64 iw,.int .i64 ix,.int .i64 iy]] [.one (.bool (fl (⟨ir,iu,iv,iw,ix,iy⟩:da)))]:=by
 refine aP 47 Tryz.func49 Tryz.call49 [.tmp 2] ?_;intro _
 try simp only[go_sem]
 repeat'((first|refine af.intro (by apply jM) ?_|refine ar.intro (by apply jM) ?_|refine a8 ?_)<;>simp only[go_sem])
 all_goals(refine ec ?_;simp[fl])
theorem B7(ir iu iv iw ix iy:Int):PureCall Tryz.prog 35 [.agg [.int .i64 ir,.int .i64 iu,.int .i64 iv,.int .i64 iw,.int .i64 ix,.int .i64 iy]] [.one (.bool (fl (⟨ir,iu,iv,iw,ix,iy⟩:da)))]:=by
 refine aP 47 Tryz.func35 Tryz.call35 [.tmp 2] ?_;intro _
 try simp only[go_sem]
 repeat'((first|refine af.intro (by apply hP) ?_|refine ar.intro (by apply hP) ?_|refine a8 ?_)<;>simp only[go_sem])
 all_goals(refine ec ?_;simp[fl])
def gD(w:da)(n:Int):Bool:=fl w&&decide (0≤n)&&decide (n≤IntKind.i64.wrap (w.a1-w.seen))
def kl(w:da)(n:Int):da:=if gD w n then {w with seen:=IntKind.i64.wrap (w.seen+n)}else w
theorem RI(ir iu iv iw ix iy n:Int):PureCall Tryz.prog 254 [.agg [.int .i64 ir,.int .i64 iu,.int .i64 iv,.int .i64 iw,.int .i64 ix,.int .i64 iy],.one (.int .i64 n)] [.agg (da.enc (kl (⟨ir,iu,iv,iw,ix,iy⟩:da) n)),.one (.bool (gD (⟨ir,iu,iv,iw,ix,iy⟩:da) n))]:=by
 refine aP 29 Tryz.func254 Tryz.call254 [.cell 4 30,.tmp 5] ?_;intro _
 try simp only[go_sem]
 repeat'((first|refine af.intro (by apply B7) ?_|refine a8 ?_|refine bq (fun h=>?_) (fun h=>?_))<;>simp only[go_sem])
 all_goals(cases hc:gD (⟨ir,iu,iv,iw,ix,iy⟩:da) n<;>first|(simp[kl,hc];done)|(simp[kl,hc];simp_all;done)|((try(simp only[decide_eq_true_eq,decide_eq_false_iff_not]at *));simp[kl, *];done)|(exfalso;simp[gD]at hc h;first|(simp_all;done)|(simp_all;omega)|omega|grind)|(exfalso;simp[gD,cP,b7]at *;first|(simp_all;done)|(simp_all;omega)|omega|grind))
def mZ(w:da)(n:Int):Bool:=fl w&&decide (0≤n)&&decide (n≤IntKind.i64.wrap (w.seen-w.read))
def iR(w:da)(n:Int):da:=if mZ w n then {w with read:=IntKind.i64.wrap (w.read+n)}else w
theorem RP(ir iu iv iw ix iy n:Int):PureCall Tryz.prog 74 [.agg [.int .i64 ir,.int .i64 iu,.int .i64 iv,.int .i64 iw,.int .i64 ix,.int .i64 iy],.one (.int .i64 n)] [.agg (da.enc (iR (⟨ir,iu,iv,iw,ix,iy⟩:da) n)),.one (.bool (mZ (⟨ir,iu,iv,iw,ix,iy⟩:da) n))]:=by
 refine aP 29 Tryz.func74 Tryz.call74 [.cell 4 30,.tmp 5] ?_;intro _
 try simp only[go_sem]
 repeat'((first|refine af.intro (by apply B7) ?_|refine a8 ?_|refine bq (fun h=>?_) (fun h=>?_))<;>simp only[go_sem])
 all_goals(cases hc:mZ (⟨ir,iu,iv,iw,ix,iy⟩:da) n<;>first|(simp[iR,hc];done)|(simp[iR,hc];simp_all;done)|((try(simp only[decide_eq_true_eq,decide_eq_false_iff_not]at *));simp[iR, *];done)|(exfalso;simp[mZ]at hc h;first|(simp_all;done)|(simp_all;omega)|omega|grind)|(exfalso;simp[mZ,cP,b7]at *;first|(simp_all;done)|(simp_all;omega)|omega|grind))
def yN(w:da):Bool:=fl w&&decide (w.a1<4611686018427387903)&&decide (IntKind.i64.wrap ((IntKind.i64.wrap (w.size+1)).tdiv 2)≤IntKind.i64.wrap (IntKind.i64.wrap (w.read+w.size)-w.a1))
theorem Jr(ir iu iv iw ix iy:Int):PureCall Tryz.prog 235 [.agg [.int .i64 ir,.int .i64 iu,.int .i64 iv,.int .i64 iw,.int .i64 ix,.int .i64 iy]] [.one (.bool (yN (⟨ir,iu,iv,iw,ix,iy⟩:da)))]:=by
 refine aP 25 Tryz.func235 Tryz.call235 [.tmp 2] ?_;intro _
 try simp only[go_sem]
 repeat'((first|refine af.intro (by apply B7) ?_|refine a8 ?_)<;>simp only[go_sem])
 all_goals(refine ec ?_;simp[yN])
def zt(w:da)(hO hD:Int):Bool:=yN w&&bz hO w.jU 1000000&&bz hD 1 1000
def DQ(w:da)(hO hD:Int):Int:=if IntKind.i64.wrap (hO-w.jU)<IntKind.i64.wrap (2 * hD)then c7 (IntKind.i64.wrap (2 * w.size)) w.most else w.size
def wE(w:da)(hO hD:Int):da:=if zt w hO hD then {w with size:=DQ w hO hD,a1:=c7 (IntKind.i64.wrap (w.read+DQ w hO hD)) 4611686018427387903,jU:=hO}else w
theorem OL(ir iu iv iw ix iy n t:Int):PureCall Tryz.prog 236 [.agg [.int .i64 ir,.int .i64 iu,.int .i64 iv,.int .i64 iw,.int .i64 ix,.int .i64 iy],.one (.int .i64 n),.one (.int .i64 t)] [.agg (da.enc (wE (⟨ir,iu,iv,iw,ix,iy⟩:da) n t)),.one (.bool (zt (⟨ir,iu,iv,iw,ix,iy⟩:da) n t))]:=by
 refine aP 48 Tryz.func236 Tryz.call236 [.cell 6 30,.tmp 7] ?_;intro _
 try simp only[go_sem]
 repeat'((first|refine af.intro (by apply Jr) ?_|refine ar.intro (by apply hP) ?_|refine a8 ?_|refine bq (fun h=>?_) (fun h=>?_))<;>simp only[go_sem])
 all_goals(cases hc:zt (⟨ir,iu,iv,iw,ix,iy⟩:da) n t<;>first|(simp[wE,DQ,c7,hc];done)|(simp[wE,DQ,c7,hc];simp_all;done)|((try(simp only[decide_eq_true_eq,decide_eq_false_iff_not]at *));simp[wE,DQ,c7, *];done)|(exfalso;simp[zt]at hc h;first|(simp_all;done)|(simp_all;omega)|omega|grind)|(exfalso;simp[zt,cP,b7]at *;first|(simp_all;done)|(simp_all;omega)|omega|grind))
def ku(c:gp):Bool:=bz c.a1 0 1152921504606846976&&bz c.opened 0 c.a1&&bz c.blocked (-1) c.a1
theorem Sv(dI kL dJ:Int):PureCall Tryz.prog 50 [.agg [.int .i64 dI,.int .i64 kL,.int .i64 dJ]] [.one (.bool (ku (⟨dI,kL,dJ⟩:gp)))]:=by
 refine aP 20 Tryz.func50 Tryz.call50 [.tmp 2] ?_;intro _
 try simp only[go_sem]
 repeat'((first|refine af.intro (by apply jM) ?_|refine ar.intro (by apply jM) ?_|refine a8 ?_)<;>simp only[go_sem])
 all_goals(refine ec ?_;simp[ku])
theorem IZ(dI kL dJ:Int):PureCall Tryz.prog 36 [.agg [.int .i64 dI,.int .i64 kL,.int .i64 dJ]] [.one (.bool (ku (⟨dI,kL,dJ⟩:gp)))]:=by
 refine aP 20 Tryz.func36 Tryz.call36 [.tmp 2] ?_;intro _
 try simp only[go_sem]
 repeat'((first|refine af.intro (by apply hP) ?_|refine ar.intro (by apply hP) ?_|refine a8 ?_)<;>simp only[go_sem])
 all_goals(refine ec ?_;simp[ku])
def sG(c:gp):Bool:=ku c&&decide (c.opened≠c.a1)
def tz(c:gp):Int:=if sG c then c.opened else -1
def uw(c:gp):gp:=if sG c then {c with opened:=IntKind.i64.wrap (c.opened+1)}else if ku c then {c with blocked:=c.a1}else c
theorem NN(dI kL dJ:Int):PureCall Tryz.prog 169 [.agg [.int .i64 dI,.int .i64 kL,.int .i64 dJ]] [.one (.int .i64 (tz (⟨dI,kL,dJ⟩:gp))),.agg [.int .i64 (uw (⟨dI,kL,dJ⟩:gp)).a1,.int .i64 (uw (⟨dI,kL,dJ⟩:gp)).opened,.int .i64 (uw (⟨dI,kL,dJ⟩:gp)).blocked],.one (.bool (sG (⟨dI,kL,dJ⟩:gp)))]:=by
 refine aP 26 Tryz.func169 Tryz.call169 [.tmp 2,.cell 3 32,.tmp 4] ?_;intro _
 try simp only[go_sem]
 repeat'((first|refine af.intro (by apply IZ) ?_|refine a9 [[.post,.cY,.post,.post],[.cY,.post,.post,.post],[.pre,.pre,.post,.post],[.pre,.pre,.pre,.post]] (by kernel_rfl) (by rfl) ?_|refine a9 [[.post,.cY,.post,.post,.post],[.cY,.post,.cY,.post,.post],[.pre,.cY,.post,.post,.post],[.pre,.pre,.pre,.post,.post],[.pre,.pre,.pre,.pre,.post]] (by kernel_rfl) (by rfl) ?_|refine bq (fun h=>?_) (fun h=>?_))<;>simp only[go_sem])
 all_goals(cases hc:sG (⟨dI,kL,dJ⟩:gp)<;>first|(simp[tz,uw,hc];done)|(simp[tz,uw,hc];simp_all;done)|((try(simp only[decide_eq_true_eq,decide_eq_false_iff_not]at *));simp[tz,uw, *];done)|(exfalso;simp[sG]at hc h;first|(simp_all;done)|(simp_all;omega)|omega|grind)|(exfalso;simp[sG,cP,b7]at *;first|(simp_all;done)|(simp_all;omega)|omega|grind))
def Hh(c:gp)(l:Int):Bool:=ku c&&decide (c.a1<l)&&decide (l≤1152921504606846976)
def x4(c:gp)(l:Int):gp:=if Hh c l then {c with a1:=l,blocked:=-1}else c
theorem RK(dI kL dJ l:Int):PureCall Tryz.prog 225 [.agg [.int .i64 dI,.int .i64 kL,.int .i64 dJ],.one (.int .i64 l)] [.agg [.int .i64 (x4 (⟨dI,kL,dJ⟩:gp) l).a1,.int .i64 (x4 (⟨dI,kL,dJ⟩:gp) l).opened,.int .i64 (x4 (⟨dI,kL,dJ⟩:gp) l).blocked]]:=by
 refine aP 23 Tryz.func225 Tryz.call225 [.cell 4 32] ?_;intro _
 try simp only[go_sem]
 repeat'((first|refine af.intro (by apply IZ) ?_|refine a8 ?_|refine bq (fun h=>?_) (fun h=>?_))<;>simp only[go_sem])
 all_goals(cases hc:Hh (⟨dI,kL,dJ⟩:gp) l<;>first|(simp[x4,hc];done)|(simp[x4,hc];simp_all;done)|((try(simp only[decide_eq_true_eq,decide_eq_false_iff_not]at *));simp[x4, *];done)|(exfalso;simp[Hh]at hc h;first|(simp_all;done)|(simp_all;omega)|omega|grind)|(exfalso;simp[Hh,cP,b7]at *;first|(simp_all;done)|(simp_all;omega)|omega|grind))
def gN(a:dm):Bool:=bz a.most 0 1000&&bz a.a1 a.most 1152921504606846976&&bz a.seen 0 a.a1&&bz a.closed 0 a.seen&&decide (a.a1≤IntKind.i64.wrap (a.closed+a.most))
theorem Sw(ed ee ef eg:Int):PureCall Tryz.prog 51 [.agg [.int .i64 ed,.int .i64 ee,.int .i64 ef,.int .i64 eg]] [.one (.bool (gN (⟨ed,ee,ef,eg⟩:dm)))]:=by
 refine aP 37 Tryz.func51 Tryz.call51 [.tmp 2] ?_;intro _
 try simp only[go_sem]
 repeat'((first|refine af.intro (by apply jM) ?_|refine ar.intro (by apply jM) ?_|refine a8 ?_)<;>simp only[go_sem])
 all_goals(refine ec ?_;simp[gN])
theorem EW(ed ee ef eg:Int):PureCall Tryz.prog 37 [.agg [.int .i64 ed,.int .i64 ee,.int .i64 ef,.int .i64 eg]] [.one (.bool (gN (⟨ed,ee,ef,eg⟩:dm)))]:=by
 refine aP 37 Tryz.func37 Tryz.call37 [.tmp 2] ?_;intro _
 try simp only[go_sem]
 repeat'((first|refine af.intro (by apply hP) ?_|refine ar.intro (by apply hP) ?_|refine a8 ?_)<;>simp only[go_sem])
 all_goals(refine ec ?_;simp[gN])
def uy(a:dm)(i:Int):Bool:=gN a&&decide (0≤i)&&decide (i<a.a1)
def ly(a:dm)(i:Int):Int:=if uy a i then dg 0 (IntKind.i64.wrap (IntKind.i64.wrap (i+1)-a.seen))else 0
def j_(a:dm)(i:Int):dm:=if uy a i then {a with seen:=IntKind.i64.wrap (a.seen+ly a i)}else a
theorem N3(ed ee ef eg i:Int):PureCall Tryz.prog 248 [.agg [.int .i64 ed,.int .i64 ee,.int .i64 ef,.int .i64 eg],.one (.int .i64 i)] [.agg [.int .i64 (j_ (⟨ed,ee,ef,eg⟩:dm) i).most,.int .i64 (j_ (⟨ed,ee,ef,eg⟩:dm) i).a1,.int .i64 (j_ (⟨ed,ee,ef,eg⟩:dm) i).seen,.int .i64 (j_ (⟨ed,ee,ef,eg⟩:dm) i).closed],.one (.int .i64 (ly (⟨ed,ee,ef,eg⟩:dm) i)),.one (.bool (uy (⟨ed,ee,ef,eg⟩:dm) i))]:=by
 refine aP 35 Tryz.func248 Tryz.call248 [.cell 4 34,.tmp 5,.tmp 6] ?_;intro _
 try simp only[go_sem]
 repeat'((first|refine af.intro (by apply EW) ?_|refine a8 ?_|refine bq (fun h=>?_) (fun h=>?_))<;>simp only[go_sem])
 all_goals(cases hc:uy (⟨ed,ee,ef,eg⟩:dm) i<;>first|(simp[j_,ly,dg,hc];done)|(simp[j_,ly,dg,hc];simp_all;done)|((try(simp only[decide_eq_true_eq,decide_eq_false_iff_not]at *));simp[j_,ly,dg, *];done)|(exfalso;simp[uy]at hc h;first|(simp_all;done)|(simp_all;omega)|omega|grind)|(exfalso;simp[uy,cP,b7]at *;first|(simp_all;done)|(simp_all;omega)|omega|grind))
def ua(a:dm):Bool:=gN a&&decide (a.closed≠a.seen)
def iX(a:dm):dm:=if ua a then {a with closed:=IntKind.i64.wrap (a.closed+1)}else a
theorem EO(ed ee ef eg:Int):PureCall Tryz.prog 117 [.agg [.int .i64 ed,.int .i64 ee,.int .i64 ef,.int .i64 eg]] [.agg [.int .i64 (iX (⟨ed,ee,ef,eg⟩:dm)).most,.int .i64 (iX (⟨ed,ee,ef,eg⟩:dm)).a1,.int .i64 (iX (⟨ed,ee,ef,eg⟩:dm)).seen,.int .i64 (iX (⟨ed,ee,ef,eg⟩:dm)).closed],.one (.bool (ua (⟨ed,ee,ef,eg⟩:dm)))]:=by
 refine aP 20 Tryz.func117 Tryz.call117 [.cell 2 34,.tmp 3] ?_;intro _
 try simp only[go_sem]
 repeat'((first|refine af.intro (by apply EW) ?_|refine a8 ?_|refine bq (fun h=>?_) (fun h=>?_))<;>simp only[go_sem])
 all_goals(cases hc:ua (⟨ed,ee,ef,eg⟩:dm)<;>first|(simp[iX,hc];done)|(simp[iX,hc];simp_all;done)|((try(simp only[decide_eq_true_eq,decide_eq_false_iff_not]at *));simp[iX, *];done)|(exfalso;simp[ua]at hc h;first|(simp_all;done)|(simp_all;omega)|omega|grind)|(exfalso;simp[ua,cP,b7]at *;first|(simp_all;done)|(simp_all;omega)|omega|grind))
def GW(a:dm):Bool:=gN a&&decide (IntKind.i64.wrap ((IntKind.i64.wrap (a.most+1)).tdiv 2)≤IntKind.i64.wrap (IntKind.i64.wrap (a.closed+a.most)-a.a1))&&decide (0<a.most)
theorem OM(ed ee ef eg:Int):PureCall Tryz.prog 237 [.agg [.int .i64 ed,.int .i64 ee,.int .i64 ef,.int .i64 eg]] [.one (.bool (GW (⟨ed,ee,ef,eg⟩:dm)))]:=by
 refine aP 25 Tryz.func237 Tryz.call237 [.tmp 2] ?_;intro _
 try simp only[go_sem]
 repeat'((first|refine af.intro (by apply EW) ?_|refine a8 ?_)<;>simp only[go_sem])
 all_goals(refine ec ?_;simp[GW])
def Bp(a:dm):Bool:=GW a&&decide (IntKind.i64.wrap (a.closed+a.most)≤1152921504606846976)
def x3(a:dm):dm:=if Bp a then {a with a1:=IntKind.i64.wrap (a.closed+a.most)}else a
theorem Wq(ed ee ef eg:Int):PureCall Tryz.prog 238 [.agg [.int .i64 ed,.int .i64 ee,.int .i64 ef,.int .i64 eg]] [.agg [.int .i64 (x3 (⟨ed,ee,ef,eg⟩:dm)).most,.int .i64 (x3 (⟨ed,ee,ef,eg⟩:dm)).a1,.int .i64 (x3 (⟨ed,ee,ef,eg⟩:dm)).seen,.int .i64 (x3 (⟨ed,ee,ef,eg⟩:dm)).closed],.one (.bool (Bp (⟨ed,ee,ef,eg⟩:dm)))]:=by
 refine aP 23 Tryz.func238 Tryz.call238 [.cell 2 34,.tmp 3] ?_;intro _
 try simp only[go_sem]
 repeat'((first|refine af.intro (by apply OM) ?_|refine a8 ?_|refine bq (fun h=>?_) (fun h=>?_))<;>simp only[go_sem])
 all_goals(cases hc:Bp (⟨ed,ee,ef,eg⟩:dm)<;>first|(simp[x3,hc];done)|(simp[x3,hc];simp_all;done)|((try(simp only[decide_eq_true_eq,decide_eq_false_iff_not]at *));simp[x3, *];done)|(exfalso;simp[Bp]at hc h;first|(simp_all;done)|(simp_all;omega)|omega|grind)|(exfalso;simp[Bp,cP,b7]at *;first|(simp_all;done)|(simp_all;omega)|omega|grind))
def mn(p:hJ):Bool:=bz p.iK 0 7
theorem abp(m0:Int)(m1:Bool):PureCall Tryz.prog 126 [.agg [.int .i64 m0,.bool m1]] [.one (.bool (mn (⟨m0,m1⟩:hJ)))]:=by
 refine aP 6 Tryz.func126 Tryz.call126 [.tmp 2] ?_;intro _
 try simp only[go_sem]
 repeat'(refine af.intro (by apply jM) ?_<;>simp only[go_sem])
 all_goals simp[mn]
theorem DR(m0:Int)(m1:Bool):PureCall Tryz.prog 122 [.agg [.int .i64 m0,.bool m1]] [.one (.bool (mn (⟨m0,m1⟩:hJ)))]:=by
 refine aP 6 Tryz.func122 Tryz.call122 [.tmp 2] ?_;intro _
 try simp only[go_sem]
 repeat'(refine af.intro (by apply hP) ?_<;>simp only[go_sem])
 all_goals simp[mn]
def vi:hJ:=⟨3,false⟩
theorem SN :PureCall Tryz.prog 198 [] [.agg [.int .i64 (vi).iK,.bool (vi).g2]]:=by
 refine aP 2 Tryz.func198 Tryz.call198 [.cell 0 55] ?_;intro _
 try simp only[go_sem]
 all_goals simp[vi]
def Ae:du:=⟨16,8,32,16,64,2,2,4⟩
theorem VS :PureCall Tryz.prog 134 [] [.agg (du.enc (Ae))]:=by
 refine aP 2 Tryz.func134 Tryz.call134 [.cell 0 25] ?_;intro _
 try simp only[go_sem]
 all_goals simp[Ae]
set_option maxRecDepth 100000
def T1:List (List bt):=cE 14 [4517978,4518331,4518337,4518316,4518262,4518100,4517613,4775314,4779688,4764379,4725013,4606915,4251528,3188646]
def T2:List (List bt):=cE 14 [3985925,3985927,3985920,3985902,3985848,4545922,4546408,4544707,4540333,4527211,4753444,4635346,4251649,3188646]
def T3:List (List bt):=cE 18 [365897129,385029358,385029364,385029343,385029289,385029127,386709349,386710807,386705704,386692582,386653216,387331915,386977621,385826530,382637521,373071583,344373768,258280326]
def T4:List (List bt):=cE 14 [3988112,3988114,3988107,3988089,3988035,3988966,3988480,3986901,4760005,4773127,4727200,4609102,4254808,3188646]
def T5:List (List bt):=cE 18 [365897129,385035919,385035925,385035904,385035850,385035688,385038481,385037023,385032286,387351598,387390964,387253183,386898889,385836007,382637521,373071583,344373768,258280326]
def T6:List (List bt):=cE 25 [737454959978,737454959980,737454959973,737454959955,737454959901,737454988534,737454989020,737454987319,737454982945,737454969823,737454930336,747936157360,747936511654,747935271625,747932082979,747922517041,752994767092,753080860534,752779533487,752004692509,749680169575,742685165986,721764371007,800217020029,564859072962]
attribute [go_sem] T1 T2 T3 T4 T5 T6
theorem jK(xs:List aa):cx xs=true↔(∀x∈xs,cR x=true)∧xs.Pairwise (fun a b=>a.high<b.low):=by
 constructor
 ·intro h;have MB:∀i (hi:i<xs.length),oj xs i=true:=fun i hi=>by
   unfold cx at h;rw[List.all_eq_true]at h;exact h i (List.mem_range.2 hi)
  have hok:∀i (hi:i<xs.length),cR xs[i]=true:=fun i hi=>by
   cases i with
   |zero=>rw[←Ht xs hi];exact MB 0 hi
   |succ j=>have:=MB (j+1) hi;rw[DX xs j hi,Bool.and_eq_true]at this;exact this.1
  have cD:∀j (av:j+1<xs.length),xs[j].high<xs[j+1].low:=fun j av=>by
   have:=MB (j+1) av;rw[DX xs j av,Bool.and_eq_true]at this;exact cl this.2
  refine⟨fun x hx=>?_,?_⟩
  ·obtain⟨i,hi,rfl⟩:=List.getElem_of_mem hx;exact hok i hi
  ·rw[List.pairwise_iff_getElem];intro i j hi av mO;obtain⟨d,rfl⟩:∃d,j=i+1+d:=⟨j-i-1,by omega⟩;clear mO
   induction d with
   |zero=>exact cD i (by omega)
   |succ d dx=>
    have h1:=dx (by omega);have h2:=cD (i+1+d) (by omega);have ak:=hok (i+1+d) (by omega);simp only[cR,Bool.and_eq_true,decide_eq_true_eq]at ak;have e:xs[i+1+(d+1)].low=xs[i+1+d+1].low:=rfl;omega
 ·rintro⟨h1,h2⟩;unfold cx;rw[List.all_eq_true];intro i hi;have hi:=List.mem_range.1 hi
  cases i with
  |zero=>rw[Ht xs hi];exact h1 _ (List.getElem_mem hi)
  |succ j=>
   rw[DX xs j hi,Bool.and_eq_true];exact⟨h1 _ (List.getElem_mem hi),bk ((List.pairwise_iff_getElem.1 h2) j (j+1) (by omega) hi (by omega))⟩
theorem gL(r:aa):cR r=true↔0≤r.low∧r.low<r.high∧r.high≤4611686018427387903:=by
 simp only[cR,Bool.and_eq_true,decide_eq_true_eq,and_assoc]
theorem vv{α β:Type}(g:β→α→β)(a:β)(xs:List α)(i:Nat)(h:i<xs.length):(xs.take (i+1)).foldl g a=g ((xs.take i).foldl g a) xs[i]:=by
 rw[List.take_add_one,dk h,Option.toList_some,List.foldl_append];rfl
theorem MC{α β:Type}(f:α→List β)(xs:List α)(i:Nat)(h:i<xs.length):(xs.take (i+1)).flatMap f=(xs.take i).flatMap f++f xs[i]:=by
 rw[List.take_add_one,dk h,Option.toList_some,List.flatMap_append];simp
def hM(xs:List aa):Int:=xs.foldl (fun n r=>n+(r.high-r.low)) 0
theorem Ee{xs:List aa}(h:cx xs=true):∀i,(hi:i<xs.length)→0≤hM (xs.take i)∧hM (xs.take i)≤xs[i].low
 |0,hi=>by
  have h1:=(gL _).1 (((jK xs).1 h).1 _ (List.getElem_mem hi));simp only[List.take_zero,hM,List.foldl_nil];omega
 |i+1,hi=>by
  obtain⟨h1,h2⟩:=Ee h i (by omega);have ak:=(List.pairwise_iff_getElem.1 ((jK xs).1 h).2) i (i+1) (by omega) hi (by omega);have aC:=(gL _).1 (((jK xs).1 h).1 _ (List.getElem_mem (show i<xs.length by omega)));have e:hM (xs.take (i+1))=hM (xs.take i)+(xs[i].high-xs[i].low):=vv _ _ _ _ _;omega
def iG(xs:List aa):Int:=if cx xs then hM xs else -1
theorem zG(xs:List aa):PureCall Tryz.prog 158 [.one (.sl 2 (xs.map aa.enc))] [.one (.int .i64 (iG xs))]:=by
 refine aP 28 Tryz.func158 Tryz.call158 [.tmp 2] ?_;intro ok;have hm:=fZ ok
 cases hA:cx xs with
 |false=>
  try simp only[go_sem]
  repeat'(refine af.intro (by apply uc) ?_<;>simp only[go_sem,hA])
  all_goals simp[iG,hA]
 |true=>
  simp only[go_sem];refine af.intro (uc xs) ?_;simp only[go_sem,hA];refine b9.intro (fun i:Nat=>⟨(.d (.sl 2 (xs.map aa.enc))::.ab::.d (.int .i64 0)::.d (.int .i64 (hM (xs.take i)))::.d (.int .i64 i)::aF 23 []),[]⟩)
   (fun i=>xs.length-i) (fun i=>i≤xs.length) 0 [] (by omega) ?_ ?_
  ·simp only[go_sem];simp[hM]
  ·intro i hi;by_cases h1:i<xs.length
   ·have au:decide ((i:Int)<(xs.length:Int))=true:=bk (by omega);have aB:=b4 aa.enc xs i h1;have hw:=dE h1 hm;have hb:=Ee hA i h1;have aC:=(gL _).1 (((jK xs).1 hA).1 _ (List.getElem_mem h1));have e:hM (xs.take (i+1))=hM (xs.take i)+(xs[i].high-xs[i].low):=vv _ _ _ _ _;have e5:IntKind.i64.wrap (hM (xs.take i)+xs[i].high)=hM (xs.take i)+xs[i].high:=by rw[bE]<;>omega
    have gr:IntKind.i64.wrap (hM (xs.take i)+xs[i].high-xs[i].low)=hM (xs.take (i+1)):=by rw[bE]<;>omega
    try simp only[go_sem,I,au]
    repeat'(first|(refine a9 T1 (by kernel_rfl) (by rfl) ?_<;>simp only[go_sem,I,aJ,aB,aa.enc,e5,gr])|(with_reducible refine aq ?_)|fail)
    all_goals(refine bu.intro (i+1) [] (by omega) (by omega) ?_;simp only[go_sem,hw];try simp)
   ·have au:decide ((i:Int)<(xs.length:Int))=false:=bb (by omega);obtain rfl:i=xs.length:=by omega
    simp only[go_sem,I,au,dK];simp[iG,hA]
theorem MD(xs:List aa):PureCall Tryz.prog 195 [.one (.sl 2 (xs.map aa.enc))] [.one (.int .i64 (iG xs))]:=by
 refine aP 24 Tryz.func195 Tryz.call195 [.tmp 2] ?_;intro ok;have hm:=fZ ok
 cases hA:cx xs with
 |false=>
  try simp only[go_sem]
  repeat'(refine af.intro (by apply DY) ?_<;>simp only[go_sem,hA])
  all_goals simp[iG,hA]
 |true=>
  simp only[go_sem];refine af.intro (DY xs) ?_;simp only[go_sem,I,hA];refine b9.intro (fun i:Nat=>⟨(.d (.sl 2 (xs.map aa.enc))::.ab::.d (.int .i64 0)::.d (.int .i64 (hM (xs.take i)))::aF 5 (.d (.sl 2 (xs.map aa.enc))::.d (.int .i64 xs.length)::.d (.int .i64 i)::aF 12 [])),[]⟩)
   (fun i=>xs.length-i) (fun i=>i≤xs.length) 0 [] (by omega) ?_ ?_
  ·simp only[go_sem];simp[hM]
  ·intro i hi;by_cases h1:i<xs.length
   ·have au:decide ((i:Int)<(xs.length:Int))=true:=bk (by omega);have aB:=b4 aa.enc xs i h1;have hw:=dE h1 hm;have hb:=Ee hA i h1;have aC:=(gL _).1 (((jK xs).1 hA).1 _ (List.getElem_mem h1));have e:hM (xs.take (i+1))=hM (xs.take i)+(xs[i].high-xs[i].low):=vv _ _ _ _ _;have e5:IntKind.i64.wrap (xs[i].high-xs[i].low)=xs[i].high-xs[i].low:=by rw[bE]<;>omega
    have gr:IntKind.i64.wrap (hM (xs.take i)+(xs[i].high-xs[i].low))=hM (xs.take (i+1)):=by rw[bE]<;>omega
    try simp only[go_sem,I,aJ,aB,aa.enc,au,e5,gr]
    repeat'(first|(with_reducible refine aq ?_)|fail)
    all_goals(refine bu.intro (i+1) [] (by omega) (by omega) ?_;simp only[go_sem,hw];try simp)
   ·have au:decide ((i:Int)<(xs.length:Int))=false:=bb (by omega);obtain rfl:i=xs.length:=by omega
    simp only[go_sem,au,dK];simp[iG,hA]
def jo(f:Int)(r:aa):Int:=if r.low≤f∧f<r.high then r.high else f
def wO(xs:List aa)(f:Int):Bool:=cx xs&&decide (0≤f)
def tg(xs:List aa)(f:Int):Int:=if wO xs f then xs.foldl jo f else -1
theorem wP(xs:List aa)(f:Int):PureCall Tryz.prog 159 [.one (.sl 2 (xs.map aa.enc)),.one (.int .i64 f)] [.one (.int .i64 (tg xs f))]:=by
 refine aP 41 Tryz.func159 Tryz.call159 [.tmp 4] ?_;intro ok;have hm:=fZ ok
 try simp only[go_sem]
 repeat'((first|refine af.intro (by apply uc) ?_|refine a8 ?_)<;>simp only[go_sem])
 refine bq (fun h0=>?_) (fun h0=>?_)
 ·simp only[go_sem];have:wO xs f=false:=by revert h0;simp only[wO];cases cx xs<;>simp
  simp[tg,this]
 ·have hg:wO xs f=true:=by revert h0;simp only[wO];cases cx xs<;>simp
  simp only[go_sem];refine b9.intro (fun i:Nat=>⟨(.d (.sl 2 (xs.map aa.enc))::.d (.int .i64 ((xs.take i).foldl jo f))::aF 3 (.d (.int .i64 i)::aF 35 [])),[]⟩)
   (fun i=>xs.length-i) (fun i=>i≤xs.length) 0 [] (by omega) ?_ ?_
  ·simp only[go_sem];simp
  ·intro i hi;by_cases h1:i<xs.length
   ·have au:decide ((i:Int)<(xs.length:Int))=true:=bk (by omega);have aB:=b4 aa.enc xs i h1;have hw:=dE h1 hm;have e:=vv jo f xs i h1;by_cases dv:xs[i].low≤(xs.take i).foldl jo f
    ·have m7:decide (xs[i].low≤(xs.take i).foldl jo f)=true:=bk dv;by_cases dD:(xs.take i).foldl jo f<xs[i].high
     ·have uf:decide ((xs.take i).foldl jo f<xs[i].high)=true:=bk dD;rw[jo,if_pos ⟨dv,dD⟩]at e
      try simp only[go_sem,I,aJ,aB,aa.enc,au,m7]
      repeat'(first|(with_reducible refine ct ?_<;>simp only[go_sem,I,aJ,aB,aa.enc,uf])|(with_reducible refine aq ?_)|fail)
      all_goals(refine bu.intro (i+1) [] (by omega) (by omega) ?_;simp only[go_sem,hw,e])
     ·have uf:decide ((xs.take i).foldl jo f<xs[i].high)=false:=bb dD;rw[jo,if_neg (fun g=>dD g.2)]at e
      try simp only[go_sem,I,aJ,aB,aa.enc,au,m7]
      repeat'(first|(with_reducible refine ct ?_<;>simp only[go_sem,I,aJ,aB,aa.enc,uf])|(with_reducible refine aq ?_)|fail)
      all_goals(refine bu.intro (i+1) [] (by omega) (by omega) ?_;simp only[go_sem,hw,e])
    ·have m7:decide (xs[i].low≤(xs.take i).foldl jo f)=false:=bb dv;rw[jo,if_neg (fun g=>dv g.1)]at e
     try simp only[go_sem,I,aJ,aB,aa.enc,au,m7]
     repeat'(first|(with_reducible refine dC ?_<;>simp only[go_sem])|(with_reducible refine aq ?_)|fail)
     all_goals(refine bu.intro (i+1) [] (by omega) (by omega) ?_;simp only[go_sem,hw,e])
   ·have au:decide ((i:Int)<(xs.length:Int))=false:=bb (by omega);obtain rfl:i=xs.length:=by omega
    simp only[go_sem,I,au,dK];simp[tg,hg]
theorem T7(xs:List aa)(f:Int):PureCall Tryz.prog 165 [.one (.sl 2 (xs.map aa.enc)),.one (.int .i64 f)] [.one (.int .i64 (tg xs f))]:=by
 refine aP 34 Tryz.func165 Tryz.call165 [.tmp 4] ?_;intro ok;have hm:=fZ ok
 try simp only[go_sem]
 repeat'((first|refine af.intro (by apply DY) ?_|refine a8 ?_)<;>simp only[go_sem])
 refine bq (fun h0=>?_) (fun h0=>?_)
 ·simp only[go_sem];have:wO xs f=false:=by revert h0;simp only[wO];cases cx xs<;>simp
  simp[tg,this]
 ·have hg:wO xs f=true:=by revert h0;simp only[wO];cases cx xs<;>simp
  simp only[go_sem,I];refine b9.intro (fun i:Nat=>⟨(.d (.sl 2 (xs.map aa.enc))::.d (.int .i64 ((xs.take i).foldl jo f))::aF 12 (.d (.sl 2 (xs.map aa.enc))::.d (.int .i64 xs.length)::.d (.int .i64 i)::aF 17 [])),[]⟩)
   (fun i=>xs.length-i) (fun i=>i≤xs.length) 0 [] (by omega) ?_ ?_
  ·simp only[go_sem];simp
  ·intro i hi;by_cases h1:i<xs.length
   ·have au:decide ((i:Int)<(xs.length:Int))=true:=bk (by omega);have aB:=b4 aa.enc xs i h1;have hw:=dE h1 hm;have e:=vv jo f xs i h1;by_cases dv:xs[i].low≤(xs.take i).foldl jo f
    ·have m7:decide (xs[i].low≤(xs.take i).foldl jo f)=true:=bk dv;by_cases dD:(xs.take i).foldl jo f<xs[i].high
     ·have uf:decide ((xs.take i).foldl jo f<xs[i].high)=true:=bk dD;rw[jo,if_pos ⟨dv,dD⟩]at e
      try simp only[go_sem,I,aJ,aB,aa.enc,au,m7]
      repeat'(first|(with_reducible refine ct ?_<;>simp only[go_sem,uf])|(with_reducible refine aq ?_)|fail)
      all_goals(refine bu.intro (i+1) [] (by omega) (by omega) ?_;simp only[go_sem,hw,e])
     ·have uf:decide ((xs.take i).foldl jo f<xs[i].high)=false:=bb dD;rw[jo,if_neg (fun g=>dD g.2)]at e
      try simp only[go_sem,I,aJ,aB,aa.enc,au,m7]
      repeat'(first|(with_reducible refine ct ?_<;>simp only[go_sem,uf])|(with_reducible refine aq ?_)|fail)
      all_goals(refine bu.intro (i+1) [] (by omega) (by omega) ?_;simp only[go_sem,hw,e])
    ·have m7:decide (xs[i].low≤(xs.take i).foldl jo f)=false:=bb dv;rw[jo,if_neg (fun g=>dv g.1)]at e
     try simp only[go_sem,I,aJ,aB,aa.enc,au,m7]
     repeat'(first|(with_reducible refine dC ?_<;>simp only[go_sem])|(with_reducible refine aq ?_)|fail)
     all_goals(refine bu.intro (i+1) [] (by omega) (by omega) ?_;simp only[go_sem,hw,e])
   ·have au:decide ((i:Int)<(xs.length:Int))=false:=bb (by omega);obtain rfl:i=xs.length:=by omega
    simp only[go_sem,au,dK];simp[tg,hg]
def jL(r x:aa):List aa:=
 (if x.low<c7 x.high r.low then [⟨x.low,c7 x.high r.low⟩]else [])++(if dg x.low r.high<x.high then [⟨dg x.low r.high,x.high⟩]else [])
def mW(xs:List aa)(r:aa):List aa:=if cx xs&&cR r then xs.flatMap (jL r)else xs
theorem T8(r x:aa):(jL r x).length≤2:=by unfold jL;split<;>split<;>simp
theorem BB{α β:Type}(f:α→List β)(k:Nat)(h:∀x,(f x).length≤k):∀xs:List α,(xs.flatMap f).length≤k * xs.length
 |[]=>by simp
 |x::xs=>by
  have:=BB f k h xs;have:=h x;simp only[List.flatMap_cons,List.length_append,List.length_cons,Nat.mul_add];omega
set_option maxHeartbeats 1000000 in
theorem ME(xs:List aa)(l h:Int)(hx:xs.length≤1048576):PureCall Tryz.prog 258 [.one (.sl 2 (xs.map aa.enc)),.agg [.int .i64 l,.int .i64 h]] [.one (.sl 2 ((mW xs ⟨l,h⟩).map aa.enc))]:=by
 refine aP 87 Tryz.func258 Tryz.call258 [.tmp 4] ?_;intro ok;have hm:=fZ ok
 try simp only[go_sem]
 repeat'((first|refine af.intro (by apply uc) ?_|refine ar.intro (by apply DZ) ?_|refine a8 ?_)<;>simp only[go_sem])
 refine bq (fun h0=>?_) (fun h0=>?_)
 ·have hg:(cx xs&&cR ⟨l,h⟩)=false:=by revert h0;cases cx xs<;>cases cR ⟨l,h⟩<;>simp
  try simp only[go_sem]
  repeat'(first|(refine af.intro (by(apply I2<;>first|assumption|omega)) ?_<;>simp only[go_sem,I])|(with_reducible refine aq ?_)|fail)
  all_goals simp[mW,hg]
 ·have hg:(cx xs&&cR ⟨l,h⟩)=true:=by revert h0;cases cx xs<;>cases cR ⟨l,h⟩<;>simp
  simp only[go_sem];refine b9.intro (fun i:Nat=>⟨(.d (.sl 2 (xs.map aa.enc))::.ab::.ab::.ptr 0 0 0::.ab::.sl 1 0 ((xs.take i).flatMap (jL ⟨l,h⟩)).length::.d (.int .i64 i)::aF 80 []),[.box [.d (.int .i64 l),.d (.int .i64 h)],.ao 2 (((xs.take i).flatMap (jL ⟨l,h⟩)).map aa.enc) true]⟩)
   (fun i=>xs.length-i) (fun i=>i≤xs.length) 0 [0,1] (by omega) ?_ ?_
  ·simp only[go_sem];simp
  ·intro i hi;by_cases h1:i<xs.length
   ·have au:decide ((i:Int)<(xs.length:Int))=true:=bk (by omega);have aB:=b4 aa.enc xs i h1;have hw:=dE h1 hm;have e:=MC (jL ⟨l,h⟩) xs i h1;have e9:=BB (jL ⟨l,h⟩) 2 (T8 _) (xs.take i);have cw:(xs.take i).length=i:=by simp;omega
    generalize hq:(xs.take i).flatMap (jL ⟨l,h⟩)=BC at e e9
    try simp only[go_sem,I,au]
    repeat'(first|((first|refine a9 T2 (by decide) (by rfl) ?_|refine a9 T3 (by decide) (by rfl) ?_|refine a9 T4 (by decide) (by rfl) ?_|refine a9 T5 (by decide) (by rfl) ?_|refine bq (fun h=>?_) (fun h=>?_))<;>simp only[go_sem,I,aJ,aB,aa.enc])|(with_reducible refine aq ?_)|fail)
    all_goals(simp only[decide_eq_true_eq,decide_eq_false_iff_not]at *)
    all_goals rename_i h2
    all_goals first
     |(refine bu.intro (i+1) [0,5] (by omega) (by omega) ?_;simp only[go_sem,hw,e,jL,c7,dg];rw[if_pos h2,if_pos h];simp[aa.enc];done)
     |(refine bu.intro (i+1) [0,3] (by omega) (by omega) ?_;simp only[go_sem,hw,e,jL,c7,dg];rw[if_pos h2,if_neg h];simp[aa.enc];done)
     |(refine bu.intro (i+1) [0,3] (by omega) (by omega) ?_;simp only[go_sem,hw,e,jL,c7,dg];rw[if_neg h2,if_pos h];simp[aa.enc];done)
     |(refine bu.intro (i+1) [0,1] (by omega) (by omega) ?_;simp only[go_sem,hw,e,jL,c7,dg];rw[if_neg h2,if_neg h];simp;done)
   ·have au:decide ((i:Int)<(xs.length:Int))=false:=bb (by omega);obtain rfl:i=xs.length:=by omega
    simp only[go_sem,I,au,dK];simp[mW,hg]
def hN(x y:aa):List aa:=if dg x.low y.low<c7 x.high y.high then [⟨dg x.low y.low,c7 x.high y.high⟩]else []
def jj(xs ys:List aa):List aa:=if cx xs&&cx ys then xs.flatMap fun x=>ys.flatMap (hN x)else []
theorem MF(x y:aa):(hN x y).length≤1:=by unfold hN;split<;>simp
set_option maxHeartbeats 1000000 in
theorem MG(xs ys:List aa)(hx:xs.length≤1048576)(hy:ys.length≤8):PureCall Tryz.prog 256 [.one (.sl 2 (xs.map aa.enc)),.one (.sl 2 (ys.map aa.enc))] [.one (.sl 2 ((jj xs ys).map aa.enc))]:=by
 refine aP 63 Tryz.func256 Tryz.call256 [.tmp 4] ?_;intro ok;have hm:=fZ ok;have d4:=uc xs;have fD:=uc ys;simp only[go_sem];refine b9.intro (fun i:Nat=>⟨(.d (.sl 2 (xs.map aa.enc))::.d (.sl 2 (ys.map aa.enc))::aF 3 (.sl 0 0 ((xs.take i).flatMap fun x=>ys.flatMap (hN x)).length::.d (.int .i64 i)::aF 56 [])),[.ao 2 (((xs.take i).flatMap fun x=>ys.flatMap (hN x)).map aa.enc) true]⟩)
   (fun i=>xs.length-i) (fun i=>i≤xs.length∧((cx xs&&cx ys)=false→i=0)) 0 [0] ⟨by omega,fun _=>rfl⟩ ?_ ?_
 ·simp only[go_sem];simp
 ·rintro i ⟨hi,hz⟩;by_cases h1:i<xs.length
  ·have au:decide ((i:Int)<(xs.length:Int))=true:=bk (by omega);have aB:=b4 aa.enc xs i h1;have hw:=dE h1 hm;have e:=MC (fun x=>ys.flatMap (hN x)) xs i h1;have e9:=BB (fun x=>ys.flatMap (hN x)) ys.length (fun x=>by have:=BB (hN x) 1 (MF x) ys;omega) (xs.take i);have cw:(xs.take i).length=i:=by simp;omega
   have ac4:((xs.take i).flatMap fun x=>ys.flatMap (hN x)).length≤8388608:=by
    have:ys.length * (xs.take i).length≤8 * 1048576:=Nat.mul_le_mul hy (by omega);omega
   cases hg:(cx xs&&cx ys)with
   |false=>
    obtain rfl:=hz hg
    cases ug:cx xs with
    |false=>
     try simp only[go_sem,I,au]
     repeat'(first|((first|refine af.intro (by assumption) ?_|refine ar.intro (by assumption) ?_|with_reducible refine ct ?_|with_reducible refine dC ?_)<;>simp only[go_sem,I,ug])|(with_reducible refine aq ?_)|fail)
     all_goals simp[jj,hg]
    |true=>
     have n5:cx ys=false:=by revert hg;rw[ug];simp
     try simp only[go_sem,I,au]
     repeat'(first|((first|refine af.intro (by assumption) ?_|refine ar.intro (by assumption) ?_|with_reducible refine ct ?_)<;>simp only[go_sem,I,ug,n5])|(with_reducible refine aq ?_)|fail)
     all_goals simp[jj,hg]
   |true=>
    have ug:cx xs=true:=by revert hg;cases cx xs<;>simp
    have n5:cx ys=true:=by revert hg;rw[ug];simp
    generalize hq:((xs.take i).flatMap fun x=>ys.flatMap (hN x))=BC at e e9 ac4
    try simp only[go_sem,I,au]
    repeat'((first|refine af.intro (by assumption) ?_|refine ar.intro (by assumption) ?_|with_reducible refine ct ?_)<;>simp only[go_sem,ug,n5])
    refine b9.intro (fun k:Nat=>⟨(.d (.sl 2 (xs.map aa.enc))::.d (.sl 2 (ys.map aa.enc))::aF 3 (.sl 0 0 (BC++(ys.take k).flatMap (hN xs[i])).length::.d (.int .i64 i)::.d (.int .i64 k)::aF 55 [])),[.ao 2 ((BC++(ys.take k).flatMap (hN xs[i])).map aa.enc) true]⟩)
     (fun k=>ys.length-k) (fun k=>k≤ys.length) 0 [0] (by omega) ?_ ?_
    ·simp only[go_sem];simp
    ·intro k hk;by_cases h2:k<ys.length
     ·have hG:decide ((k:Int)<(ys.length:Int))=true:=bk (by omega);have uu:=b4 aa.enc ys k h2;have kP:=dE (m:=8) (i:=k) (by omega) (by simp[maxLen]);have aj:=MC (hN xs[i]) ys k h2;have alb:=BB (hN xs[i]) 1 (MF _) (ys.take k);have T9:(ys.take k).length=k:=by simp;omega
      generalize BT:BC++(ys.take k).flatMap (hN xs[i])=T_;have MH:T_.length≤8388616:=by rw[←BT,List.length_append];omega
      have aT:BC++(ys.take (k+1)).flatMap (hN xs[i])=T_++hN xs[i] ys[k]:=by rw[aj,←List.append_assoc,BT]
      try simp only[go_sem,I,hG]
      repeat'(first|((first|refine af.intro (by assumption) ?_|refine ar.intro (by assumption) ?_|refine a9 T6 (by kernel_rfl) (by rfl) ?_|refine bq (fun h=>?_) (fun h=>?_))<;>simp only[go_sem,I,aJ,aB,uu,aa.enc])|(with_reducible refine aq ?_)|fail)
      ·have hc:hN xs[i] ys[k]=[⟨dg xs[i].low ys[k].low,c7 xs[i].high ys[k].high⟩]:=by unfold hN;exact if_pos (cl h)
       rw[hc]at aT;have bj:=congrArg List.length aT;simp only[List.length_append,List.length_singleton]at bj;refine bu.intro (k+1) [3] (by omega) (by omega) ?_;simp only[go_sem,kP,aT,bj];simp[aa.enc,c7,dg]
      ·have hc:hN xs[i] ys[k]=[]:=by unfold hN;exact if_neg (cG h)
       rw[hc,List.append_nil]at aT;have bj:=congrArg List.length aT;simp only[List.length_append]at bj;refine bu.intro (k+1) [0] (by omega) (by omega) ?_;simp only[go_sem,kP,aT,bj];simp
     ·have hG:decide ((k:Int)<(ys.length:Int))=false:=bb (by omega);obtain rfl:k=ys.length:=by omega
      simp only[go_sem,I,hG,dK];refine bu.intro (i+1) [0] (by omega) (by omega) ?_;simp only[go_sem,hw,e];simp
  ·have au:decide ((i:Int)<(xs.length:Int))=false:=bb (by omega);obtain rfl:i=xs.length:=by omega
   have hr:(xs.flatMap fun x=>ys.flatMap (hN x))=jj xs ys:=by
    unfold jj;split
    ·rfl
    ·rename_i hg;have:=hz (by simpa using hg);rw[List.length_eq_zero_iff.1 this];rfl
   try simp only[go_sem,I,au,dK,hr]
   repeat'((first|refine af.intro (by assumption) ?_|refine ar.intro (by assumption) ?_|with_reducible refine dC ?_)<;>simp only[go_sem,I])
   all_goals simp
end Gv

namespace Gv
open Go Go.Proofs
set_option maxRecDepth 100000
def tc(n:Int):UInt8:=UInt8.ofNat n.toNat
def D7(n:Int):Nat→St
 |0=>⟨(.d (.int .i64 n)::.d (.int .i64 1)::.ab::.ab::.d (.str [])::.d (.str [])::.d (.int .i64 0)::aF 24 []),[]⟩
 |i+1=>⟨(.d (.int .i64 0)::.d (.int .i64 1)::.ab::.ab::.d (.str [])::.d (.str [tc n])::.d (.int .i64 ((i+1:Nat):Int))::aF 24 []),[]⟩
theorem Tq(n:Int)(h:0≤n∧n≤255):PureCall Tryz.prog 267 [.one (.int .i64 n),.one (.int .i64 1)] [.one (.str [tc n])]:=by
 refine aP 31 Tryz.func267 Tryz.call267 [.tmp 4] ?_;intro _;have h1:¬n<0:=by omega
 have h2:n.tmod 256=n:=by rw[Int.tmod_eq_emod_of_nonneg (by omega)];omega
 have ak:n.tdiv 256=0:=by rw[Int.tdiv_eq_ediv_of_nonneg (by omega)];omega
 have aC:IntKind.u8.wrap n=n:=Kx h.1 h.2;have bL:IntKind.i64.wrap 0=0:=by decide
 simp only[go_sem];refine af.intro (hP 1 1 7) ?_;simp only[go_sem]
 repeat(refine a8 ?_;simp only[go_sem])
 have hz:(bif !bz 1 1 7 then true else decide (n<0))=false:=by simp[bz,h1]
 rw[hz];simp only[go_sem];refine b9.intro (D7 n) (fun i=>1-i) (fun i=>i≤1) 0 [] (by omega) ?_ ?_
 ·simp only[D7,go_sem]
 ·intro i hi
  cases i with
  |zero=>
   simp only[D7,go_sem,h2,ak,aC,bL];refine bu.intro 1 [] (by omega) (by omega) ?_;simp only[D7,go_sem];simp[tc,bE]
  |succ i=>
   have nJ:i=0:=by omega
   subst nJ;simp only[D7,go_sem];refine bq (fun eD=>absurd (cl eD) (by omega)) (fun _=>?_);simp only[go_sem]
theorem acU{n:Int}(h:0≤n∧n≤255):bitI .and .i64 n 255=n:=by
 have key:∀m:Fin 256,bitI .and .i64 (m.val:Int) 255=(m.val:Int):=by decide +kernel
 have:=key ⟨n.toNat,by omega⟩;simpa [show(n.toNat:Int)=n from by omega]using this
theorem DE(n:Int)(h:0≤n∧n≤255):PureCall Tryz.prog 266 [.one (.int .i64 n)] [.one (.str [tc n])]:=by
 refine aP 6 Tryz.func266 Tryz.call266 [.tmp 2] ?_;intro _;simp only[go_sem,acU h];refine af.intro (Tq n h) ?_;simp only[go_sem]
set_option maxRecDepth 100000
def Ob:List (List bt):=cE 12 [501920,501918,501952,501934,502240,502078,522328,530347,525973,512122,472392,354294]
def Oc:List (List bt):=cE 8 [6200,6198,6448,6547,6493,6322,5832,4374]
def Od:List (List bt):=cE 13 [1505753,1505751,1505866,1505848,1505794,1506721,1506235,1514497,1510123,1584481,1545115,1417176,1062882]
def Oe:List (List bt):=cE 15 [14345882,14345880,14345874,14345977,14345923,14326065,14348542,14347084,14322663,14336028,14289858,14171760,13817466,12754584,9565938]
def Of:List (List bt):=cE 24 [266739006680,266739006678,266740662352,266740662334,266740662280,266740663207,266740662721,266740661146,266740686292,266740673170,266740630528,266741309587,266740955293,266739803842,266758138552,266748572614,266911193560,266825100118,268288688632,267513847654,280686144280,273712575478,251048476872,188286357654]
def alF:List (List bt):=cE 10 [58940,58938,58932,59035,58981,58077,58563,56862,52488,39366]
def alG:List (List bt):=cE 11 [167306,176065,176059,176809,177106,176944,176431,174961,170587,157464,118098]
def alH:List (List bt):=cE 17 [121965710,128343355,128343361,128343340,128343286,128343124,128875171,129132508,129136882,129121573,129082207,128964109,128609086,127545841,124357195,114791256,86093442]
attribute [go_sem] Ob Oc Od Oe Of alF alG alH
theorem fk{α:Type}(e:α→List D)(l:List α):(l.map e).take l.length=l.map e:=List.take_of_length_le (by simp)
theorem NM{α:Type}(e:α→List D)(xs:List α)(i:Nat)(h:i<xs.length):(xs.take (i+1)).map e=(xs.take i).map e++[e xs[i]]:=by
 rw[List.take_add_one,dk h,Option.toList_some,List.map_append];rfl
theorem alK(ck b_ cy:Int)(bQ:List Int)(hx:bQ.length≤8388608):PureCall Tryz.prog 231 [.agg [.int .i64 ck,.int .i64 b_,.int .i64 cy,.sl 1 (bQ.map a')]] [.agg [.int .i64 ((⟨ck,b_,cy,bQ⟩:c5)).size,.int .i64 ((⟨ck,b_,cy,bQ⟩:c5)).base,.int .i64 ((⟨ck,b_,cy,bQ⟩:c5)).cj,.sl 1 (((⟨ck,b_,cy,bQ⟩:c5)).cells.map a')]]:=by
 refine aP 9 Tryz.func231 Tryz.call231 [.cell 2 45] ?_;intro _
 try simp only[go_sem,I]
 repeat'(first|(with_reducible refine aq ?_)|fail)
 all_goals simp
theorem EX(ck b_ cy:Int)(bQ:List Int)(hx:bQ.length≤8388608):PureCall Tryz.prog 119 [.agg [.int .i64 ck,.int .i64 b_,.int .i64 cy,.sl 1 (bQ.map a')]] [.agg [.int .i64 ((⟨ck,b_,cy,bQ⟩:c5)).size,.int .i64 ((⟨ck,b_,cy,bQ⟩:c5)).base,.int .i64 ((⟨ck,b_,cy,bQ⟩:c5)).cj,.sl 1 (((⟨ck,b_,cy,bQ⟩:c5)).cells.map a')]]:=by
 refine aP 14 Tryz.func119 Tryz.call119 [.cell 2 45] ?_;intro _
 try simp only[go_sem]
 repeat'(first|(refine a9 Ob (by kernel_rfl) (by rfl) ?_<;>simp only[go_sem,I])|(with_reducible refine aq ?_)|fail)
 all_goals simp
theorem alB(zM:Int)(ym:List ax)(hx:ym.length≤8388608):PureCall Tryz.prog 104 [.agg [.int .i64 zM,.sl 2 (ym.map ax.enc)]] [.agg [.int .i64 ((⟨zM,ym⟩:ll)).next,.sl 2 (((⟨zM,ym⟩:ll)).bd.map ax.enc)]]:=by
 refine aP 10 Tryz.func104 Tryz.call104 [.cell 2 51] ?_;intro _
 try simp only[go_sem]
 repeat'(first|(refine a9 Oc (by kernel_rfl) (by rfl) ?_<;>simp only[go_sem,I])|(with_reducible refine aq ?_)|fail)
 all_goals simp
theorem w6(zM:Int)(ym:List ax)(hx:ym.length≤8388608):PureCall Tryz.prog 83 [.agg [.int .i64 zM,.sl 2 (ym.map ax.enc)]] [.agg [.int .i64 ((⟨zM,ym⟩:ll)).next,.sl 2 (((⟨zM,ym⟩:ll)).bd.map ax.enc)]]:=by
 refine aP 10 Tryz.func83 Tryz.call83 [.cell 2 51] ?_;intro _
 try simp only[go_sem]
 repeat'(first|(refine a9 Oc (by kernel_rfl) (by rfl) ?_<;>simp only[go_sem,I])|(with_reducible refine aq ?_)|fail)
 all_goals simp
theorem I1(b0 bW:Int)(bB:List ax)(ch b' cc:Int)(hx:bB.length≤8388608):PureCall Tryz.prog 64 [.agg [.int .i64 b0,.int .i64 bW,.sl 2 (bB.map ax.enc),.int .i64 ch,.int .i64 b',.int .i64 cc]] [.agg (bc.enc ((⟨b0,⟨bW,bB⟩,ch,b',cc⟩:bc)))]:=by
 refine aP 8 Tryz.func64 Tryz.call64 [.cell 2 53] ?_;intro _
 try simp only[go_sem]
 repeat'(refine af.intro (by(apply alB<;>first|assumption|omega)) ?_<;>simp only[go_sem,I])
 all_goals simp
theorem xd(b0 bW:Int)(bB:List ax)(ch b' cc:Int)(hx:bB.length≤8388608):PureCall Tryz.prog 42 [.agg [.int .i64 b0,.int .i64 bW,.sl 2 (bB.map ax.enc),.int .i64 ch,.int .i64 b',.int .i64 cc]] [.agg (bc.enc ((⟨b0,⟨bW,bB⟩,ch,b',cc⟩:bc)))]:=by
 refine aP 15 Tryz.func42 Tryz.call42 [.cell 2 53] ?_;intro _
 try simp only[go_sem]
 repeat'((first|refine ar.intro (by(apply w6<;>first|assumption|omega)) ?_|refine a9 Od (by kernel_rfl) (by rfl) ?_)<;>simp only[go_sem,I])
 all_goals simp
theorem alL(aX a4 a5 a2:Int)(aU:List Int)(aD aA aE:List aa)(a3 aY aW a6:Int)(h1:aU.length≤8388608)(h2:aD.length≤8388608)(ak:aA.length≤8388608)(aC:aE.length≤8388608):PureCall Tryz.prog 189 [.agg [.int .i64 aX,.int .i64 a4,.int .i64 a5,.int .i64 a2,.sl 1 (aU.map a'),.sl 2 (aD.map aa.enc),.sl 2 (aA.map aa.enc),.sl 2 (aE.map aa.enc),.int .i64 a3,.int .i64 aY,.int .i64 aW,.int .i64 a6]] [.agg (aM.enc ((⟨aX,⟨a4,a5,a2,aU⟩,aD,aA,aE,a3,aY,aW,a6⟩:aM)))]:=by
 refine aP 20 Tryz.func189 Tryz.call189 [.cell 2 48] ?_;intro _
 try simp only[go_sem]
 repeat'((first|refine af.intro (by(apply alK<;>first|assumption|omega)) ?_|refine ar.intro (by(apply Tv<;>first|assumption|omega)) ?_|refine a9 Oe (by kernel_rfl) (by rfl) ?_)<;>simp only[go_sem,I])
 all_goals simp
theorem nW(aX a4 a5 a2:Int)(aU:List Int)(aD aA aE:List aa)(a3 aY aW a6:Int)(h1:aU.length≤8388608)(h2:aD.length≤8388608)(ak:aA.length≤8388608)(aC:aE.length≤8388608):PureCall Tryz.prog 78 [.agg [.int .i64 aX,.int .i64 a4,.int .i64 a5,.int .i64 a2,.sl 1 (aU.map a'),.sl 2 (aD.map aa.enc),.sl 2 (aA.map aa.enc),.sl 2 (aE.map aa.enc),.int .i64 a3,.int .i64 aY,.int .i64 aW,.int .i64 a6]] [.agg (aM.enc ((⟨aX,⟨a4,a5,a2,aU⟩,aD,aA,aE,a3,aY,aW,a6⟩:aM)))]:=by
 refine aP 26 Tryz.func78 Tryz.call78 [.cell 2 48] ?_;intro _
 try simp only[go_sem]
 repeat'((first|refine ar.intro (by first|(apply EX<;>first|assumption|omega)|(apply I2<;>first|assumption|omega)) ?_|refine a9 Of (by kernel_rfl) (by rfl) ?_)<;>simp only[go_sem,I])
 all_goals simp
theorem alM(g8 g9 g_ bx g':Int)(g7:List Int)(gv gw gx:List aa)(hF hQ hR hS hT hU hX hY hZ h3:Int)(eK:List ax)(h4 h5 h6 h7 h8 h9 h_ ia ib ic:Int)(ie ig ih ij ik il im:Bool)(iq:Int)(bb:Bool)(h1:g7.length≤8388608)(h2:gv.length≤8388608)(ak:gw.length≤8388608)(aC:gx.length≤8388608)(bL:eK.length≤8388608):PureCall Tryz.prog 147 [.agg [.int .i64 g8,.int .i64 g9,.int .i64 g_,.int .i64 bx,.int .i64 g',.sl 1 (g7.map a'),.sl 2 (gv.map aa.enc),.sl 2 (gw.map aa.enc),.sl 2 (gx.map aa.enc),.int .i64 hF,.int .i64 hQ,.int .i64 hR,.int .i64 hS,.int .i64 hT,.int .i64 hU,.int .i64 hX,.int .i64 hY,.int .i64 hZ,.int .i64 h3,.sl 2 (eK.map ax.enc),.int .i64 h4,.int .i64 h5,.int .i64 h6,.int .i64 h7,.int .i64 h8,.int .i64 h9,.int .i64 h_,.int .i64 ia,.int .i64 ib,.int .i64 ic,.bool ie,.bool ig,.bool ih,.bool ij,.bool ik,.bool il,.bool im,.int .i64 iq,.bool bb]] [.agg (ae.enc ((⟨g8,⟨g9,⟨g_,bx,g',g7⟩,gv,gw,gx,hF,hQ,hR,hS⟩,⟨hT,hU,hX,hY⟩,⟨hZ,⟨h3,eK⟩,h4,h5,h6⟩,⟨h7,h8,h9,h_,ia,ib⟩,⟨ic,ie⟩,ig,ih,ij,ik,il,im,iq,bb⟩:ae)))]:=by
 refine aP 12 Tryz.func147 Tryz.call147 [.cell 2 57] ?_;intro _
 try simp only[go_sem]
 repeat'((first|refine ar.intro (by first|(apply alL<;>first|assumption|omega)|(apply I1<;>first|assumption|omega)) ?_|refine a9 alF (by kernel_rfl) (by rfl) ?_)<;>simp only[go_sem,I])
 all_goals simp
theorem w7(g8 g9 g_ bx g':Int)(g7:List Int)(gv gw gx:List aa)(hF hQ hR hS hT hU hX hY hZ h3:Int)(eK:List ax)(h4 h5 h6 h7 h8 h9 h_ ia ib ic:Int)(ie ig ih ij ik il im:Bool)(iq:Int)(bb:Bool)(h1:g7.length≤8388608)(h2:gv.length≤8388608)(ak:gw.length≤8388608)(aC:gx.length≤8388608)(bL:eK.length≤8388608):PureCall Tryz.prog 31 [.agg [.int .i64 g8,.int .i64 g9,.int .i64 g_,.int .i64 bx,.int .i64 g',.sl 1 (g7.map a'),.sl 2 (gv.map aa.enc),.sl 2 (gw.map aa.enc),.sl 2 (gx.map aa.enc),.int .i64 hF,.int .i64 hQ,.int .i64 hR,.int .i64 hS,.int .i64 hT,.int .i64 hU,.int .i64 hX,.int .i64 hY,.int .i64 hZ,.int .i64 h3,.sl 2 (eK.map ax.enc),.int .i64 h4,.int .i64 h5,.int .i64 h6,.int .i64 h7,.int .i64 h8,.int .i64 h9,.int .i64 h_,.int .i64 ia,.int .i64 ib,.int .i64 ic,.bool ie,.bool ig,.bool ih,.bool ij,.bool ik,.bool il,.bool im,.int .i64 iq,.bool bb]] [.agg (ae.enc ((⟨g8,⟨g9,⟨g_,bx,g',g7⟩,gv,gw,gx,hF,hQ,hR,hS⟩,⟨hT,hU,hX,hY⟩,⟨hZ,⟨h3,eK⟩,h4,h5,h6⟩,⟨h7,h8,h9,h_,ia,ib⟩,⟨ic,ie⟩,ig,ih,ij,ik,il,im,iq,bb⟩:ae)))]:=by
 refine aP 14 Tryz.func31 Tryz.call31 [.cell 2 57] ?_;intro _
 try simp only[go_sem]
 repeat'(refine af.intro (by first|(apply nW<;>first|assumption|omega)|(apply xd<;>first|assumption|omega)) ?_<;>simp only[go_sem,I])
 all_goals simp
theorem alJ(xs:List aI)(hx:(xs.length+lA aI.eC xs)≤4194304):PureCall Tryz.prog 100 [.one (.sl 2 (xs.map aI.enc))] [.one (.sl 2 (xs.map aI.enc))]:=by
 refine aP 25 Tryz.func100 Tryz.call100 [.tmp 2] ?_;intro ok;have hm:=fZ ok;clear ok;simp only[go_sem,I];refine b9.intro (fun i:Nat=>⟨(.ab::.ab::.c6 2::.sl 0 0 i::aF 3 (.d (.sl 2 (xs.map aI.enc))::.d (.int .i64 xs.length)::.d (.int .i64 i)::aF 15 [])),[.ao 2 ((xs.take i).map aI.enc) true]⟩)
   (fun i=>xs.length-i) (fun i=>i≤xs.length) 0 [0] (by omega) ?_ ?_
 ·simp only[go_sem];simp
 ·intro i hi;have hl:(xs.take i).length=i:=by simp;omega
  simp only[go_sem];refine bq (fun h1=>?_) (fun h1=>?_)
  ·simp only[decide_eq_true_eq]at h1;have hlt:i<xs.length:=by omega
   have aB:=b4 aI.enc xs i hlt;have hw:=dE hlt hm;have hb:=NL aI.eC xs i hlt;simp only[aI.eC]at hb;simp only[aI.enc]at aB;have mA:((xs.take i).map aI.enc).take i=(xs.take i).map aI.enc:=List.take_of_length_le (by rw[I,hl];exact Nat.le_refl _);have cD:=NM aI.enc xs i hlt;simp only[aI.enc]at cD
   try simp only[go_sem,I,aJ,aB]
   repeat'(first|(refine a9 alG (by kernel_rfl) (by rfl) ?_<;>simp only[go_sem,I,hl,mA])|(with_reducible refine aq ?_)|fail)
   all_goals(refine bu.intro (i+1) [5] (by omega) (by omega) ?_;simp only[go_sem,hw];simp[cD])
  ·simp only[decide_eq_false_iff_not]at h1;have gY:i=xs.length:=by omega
   subst gY;simp only[go_sem,dK];simp[outOA]
theorem Vm(xs:List aI)(hx:(xs.length+lA aI.eC xs)≤4194304):PureCall Tryz.prog 73 [.one (.sl 2 (xs.map aI.enc))] [.one (.sl 2 (xs.map aI.enc))]:=by
 refine aP 29 Tryz.func73 Tryz.call73 [.tmp 2] ?_;intro ok;have hm:=fZ ok;clear ok;simp only[go_sem];refine b9.intro (fun i:Nat=>⟨(.d (.sl 2 (xs.map aI.enc))::.ab::.c6 2::.sl 0 0 i::.d (.int .i64 i)::aF 24 []),[.ao 2 ((xs.take i).map aI.enc) true]⟩)
   (fun i=>xs.length-i) (fun i=>i≤xs.length) 0 [0] (by omega) ?_ ?_
 ·simp only[go_sem];simp
 ·intro i hi;have hl:(xs.take i).length=i:=by simp;omega
  simp only[go_sem,I];refine bq (fun h1=>?_) (fun h1=>?_)
  ·simp only[decide_eq_true_eq]at h1;have hlt:i<xs.length:=by omega
   have aB:=b4 aI.enc xs i hlt;have hw:=dE hlt hm;have hb:=NL aI.eC xs i hlt;simp only[aI.eC]at hb;simp only[aI.enc]at aB;have mA:((xs.take i).map aI.enc).take i=(xs.take i).map aI.enc:=List.take_of_length_le (by rw[I,hl];exact Nat.le_refl _);have cD:=NM aI.enc xs i hlt;simp only[aI.enc]at cD
   try simp only[go_sem]
   repeat'(first|(refine a9 alH (by kernel_rfl) (by rfl) ?_<;>simp only[go_sem,I,aJ,aB,hl,mA])|(with_reducible refine aq ?_)|fail)
   all_goals(refine bu.intro (i+1) [4] (by omega) (by omega) ?_;simp only[go_sem,hw];simp[cD])
  ·simp only[decide_eq_false_iff_not]at h1;have gY:i=xs.length:=by omega
   subst gY;simp only[go_sem,dK];simp[outOA]
set_option maxHeartbeats 1000000 in
theorem alI(xs:List ae)(hx:(xs.length+lA ae.eC xs)≤4194304):PureCall Tryz.prog 99 [.one (.sl 39 (xs.map ae.enc))] [.one (.sl 39 (xs.map ae.enc))]:=by
 refine aP 20 Tryz.func99 Tryz.call99 [.tmp 2] ?_;intro ok;have hm:=fZ ok;clear ok;simp only[go_sem,I];refine b9.intro (fun i:Nat=>⟨(.ab::.ab::.c6 39::.sl 0 0 i::aF 3 (.d (.sl 39 (xs.map ae.enc))::.d (.int .i64 xs.length)::.d (.int .i64 i)::aF 10 [])),[.ao 39 ((xs.take i).map ae.enc) true]⟩)
   (fun i=>xs.length-i) (fun i=>i≤xs.length) 0 [0] (by omega) ?_ ?_
 ·simp only[go_sem];simp
 ·intro i hi;have hl:(xs.take i).length=i:=by simp;omega
  simp only[go_sem];refine bq (fun h1=>?_) (fun h1=>?_)
  ·simp only[decide_eq_true_eq]at h1;have hlt:i<xs.length:=by omega
   have aB:=b4 ae.enc xs i hlt;have hw:=dE hlt hm;have hb:=NL ae.eC xs i hlt;simp only[ae.eC,aM.eC,c5.eC,bc.eC,ll.eC]at hb;simp only[ae.enc]at aB;have mA:((xs.take i).map ae.enc).take i=(xs.take i).map ae.enc:=List.take_of_length_le (by rw[I,hl];exact Nat.le_refl _);have cD:=NM ae.enc xs i hlt;simp only[ae.enc]at cD
   try simp only[go_sem,I,aJ,aB]
   repeat'(first|(refine af.intro (by(apply alM<;>first|assumption|omega)) ?_<;>simp only[go_sem,I,hl,mA])|(with_reducible refine aq ?_)|fail)
   all_goals(refine bu.intro (i+1) [8] (by omega) (by omega) ?_;simp only[go_sem,hw];simp[cD])
  ·simp only[decide_eq_false_iff_not]at h1;have gY:i=xs.length:=by omega
   subst gY;simp only[go_sem,dK];simp[outOA]
set_option maxRecDepth 100000
def TP:List (List bt):=cE 15 [13551749,13551747,13558585,13558567,13558630,13558432,13561222,13559764,13555030,14280016,14319382,14181601,13827307,12754584,9565938]
def TQ:List (List bt):=cE 8 [6200,6198,6448,6547,6493,6322,5832,4374]
def TR:List (List bt):=cE 14 [4517249,4773139,4773133,4779958,4780012,4779823,4782604,4781146,4776421,4763287,4723921,4605823,4251528,3188646]
attribute [go_sem] TP TQ TR
def oo(xs:List Int)(i:Nat):Bool:=(xs.take i).all fun b=>bz b 0 255
theorem TS(xs:List Int)(i:Nat)(h:i<xs.length):oo xs (i+1)=(oo xs i&&bz xs[i] 0 255):=by
 unfold oo;rw[List.take_add_one,dk h,Option.toList_some,List.all_append];simp
theorem TT(xs:List Int)(i:Nat)(h:i<xs.length)(hb:bz xs[i] 0 255=false):oo xs xs.length=false:=by
 unfold oo;rw[dK,List.all_eq_false];exact⟨xs[i],List.getElem_mem h,by simp[hb]⟩
def vp(r:c5):Bool:=la r.size&&decide ((r.cells.length:Int)=r.size)&&decide (0≤r.base)&&decide (r.base≤r.cj)&&decide (IntKind.i64.wrap (r.cj-r.base)≤r.size)&&decide (r.cj≤4611686018427387903)
def jk(r:c5):Bool:=vp r&&oo r.cells r.cells.length
theorem Ab{n:Int}(h:la n=true):1≤n∧n≤64:=by
 simp only[la,bz,Bool.and_eq_true,decide_eq_true_eq]at h;exact h.1
theorem vd{r:c5}(h:jk r=true):1≤r.size∧r.size≤64∧(r.cells.length:Int)=r.size∧0≤r.base∧r.base≤r.cj∧r.cj-r.base≤r.size∧r.cj≤4611686018427387903∧la r.size=true∧∀i (hi:i<r.cells.length),0≤r.cells[i]∧r.cells[i]≤255:=by
 simp only[jk,vp,Bool.and_eq_true,decide_eq_true_eq]at h;obtain⟨⟨⟨⟨⟨⟨h1,h2⟩,ak⟩,aC⟩,bL⟩,eD⟩,l5⟩:=h;have hs:=Ab h1;rw[bE]at bL<;>try omega
 refine⟨hs.1,hs.2,h2,ak,aC,bL,eD,h1,fun i hi=>?_⟩;unfold oo at l5;rw[dK,List.all_eq_true]at l5;have:=l5 _ (List.getElem_mem hi);simpa [bz]using this
theorem vq(ck b_ cy:Int)(bQ:List Int):PureCall Tryz.prog 155 [.agg [.int .i64 ck,.int .i64 b_,.int .i64 cy,.sl 1 (bQ.map a')]] [.one (.bool (jk (⟨ck,b_,cy,bQ⟩:c5)))]:=by
 refine aP 57 Tryz.func155 Tryz.call155 [.tmp 2] ?_;intro ok;have hm:bQ.length≤maxLen:=by have:=ok.1.2.2.2.1.1;rwa [I]at this
 try simp only[go_sem]
 repeat'((first|refine af.intro (by apply HB) ?_|refine a8 ?_)<;>simp only[go_sem,I])
 refine bq (fun h0=>?_) (fun h0=>?_)
 ·simp only[go_sem];have:vp (⟨ck,b_,cy,bQ⟩:c5)=false:=by
   revert h0;simp only[vp,cP]
   cases la ck<;>simp<;>intros<;>omega
  simp[jk,this]
 ·have cU:vp (⟨ck,b_,cy,bQ⟩:c5)=true:=by
   revert h0;simp only[vp,cP]
   cases la ck<;>simp<;>intros<;>omega
  simp only[go_sem];refine b9.intro (fun i:Nat=>⟨(.ab::.ptr 0 0 0::.d (.bool false)::.d (.int .i64 i)::aF 53 []),[.box [.d (.int .i64 ck),.d (.int .i64 b_),.d (.int .i64 cy),.d (.sl 1 (bQ.map a'))]]⟩)
   (fun i=>bQ.length-i) (fun i=>i≤bQ.length∧oo bQ i=true) 0 [0] ⟨by omega,by simp[oo]⟩ ?_ ?_
  ·simp only[go_sem];simp
  ·rintro i ⟨hi,he⟩;by_cases h1:i<bQ.length
   ·have au:decide ((i:Int)<(bQ.length:Int))=true:=bk (by omega);have aB:=b4 a' bQ i h1;have hw:=dE h1 hm;have hs:=TS bQ i h1;have hf:=TT bQ i h1
    try simp only[go_sem,I,aJ,aB,a',au]
    repeat'(first|((first|refine af.intro (by apply hP) ?_|refine bq (fun h=>?_) (fun h=>?_))<;>simp only[go_sem])|(with_reducible refine aq ?_)|fail)
    ·have:=hf (by simpa using h);simp[jk,this]
    ·have ak:bz bQ[i] 0 255=true:=by simpa using h
     refine bu.intro (i+1) [0] ⟨by omega,by rw[hs,he,ak];rfl⟩ (by omega) ?_;simp only[go_sem,hw];simp
   ·have au:decide ((i:Int)<(bQ.length:Int))=false:=bb (by omega);obtain rfl:i=bQ.length:=by omega
    simp only[go_sem,I,au];simp[jk,cU,he]
theorem acZ{xs:List Int}{i:Nat}(h:i<xs.length)(he:oo xs i=true)(hb:bz xs[i] 0 255=true):oo xs (i+1)=true:=by rw[TS xs i h,he,hb];rfl
set_option maxHeartbeats 1000000 in
theorem ac0(ck b_ cy:Int)(bQ:List Int):PureCall Tryz.prog 162 [.agg [.int .i64 ck,.int .i64 b_,.int .i64 cy,.sl 1 (bQ.map a')]] [.one (.bool (jk (⟨ck,b_,cy,bQ⟩:c5)))]:=by
 refine aP 36 Tryz.func162 Tryz.call162 [.tmp 2] ?_;intro ok;have hm:bQ.length≤maxLen:=by have:=ok.1.2.2.2.1.1;rwa [I]at this
 have ak7:=BU ok.1.2.1;have ak8:=BU ok.1.2.2.1
 cases ai:la ck with
 |false=>
  try simp only[go_sem]
  repeat'((first|refine af.intro (by first|apply D9|apply tw) ?_|refine ar.intro (by apply jM) ?_|with_reducible refine dC ?_|refine a8 ?_)<;>simp only[go_sem,ai])
  all_goals simp[jk,vp,ai]
 |true=>
  have hs:=Ab ai
  cases aj:decide ((bQ.length:Int)≠ck)with
  |true=>
   have TU:¬(bQ.length:Int)=ck:=cl aj
   try simp only[go_sem]
   repeat'((first|refine af.intro (by apply D9) ?_|with_reducible refine ct ?_|with_reducible refine dC ?_)<;>simp only[go_sem,I,ai,aj])
   all_goals simp[jk,vp,TU]
  |false=>
   have TU:(bQ.length:Int)=ck:=by have:=cG aj;omega
   try simp only[go_sem]
   repeat'((first|refine af.intro (by apply D9) ?_|with_reducible refine ct ?_)<;>simp only[go_sem,I,ai,aj])
   refine af.inl (el (n:=9) (rs:=[.tmp 4]) Tryz.func192 rfl Tryz.call192 Tryz.checked.mixed rfl rfl ?_);simp only[go_sem];refine af.inl (el (n:=19) (rs:=[.tmp 4]) Tryz.func232 rfl Tryz.call232 Tryz.checked.mixed rfl rfl ?_);simp only[go_sem,I];refine b9.intro (fun i:Nat=>⟨(.d (.sl 1 (bQ.map a'))::.fn 193 []::.ab::.ab::.d (.int .i64 0)::.ab::.ab::.d (.int .i64 bQ.length)::.d (.int .i64 i)::aF 10 []),[.box [.d (.int .i64 ck),.d (.int .i64 b_),.d (.int .i64 cy),.d (.sl 1 (bQ.map a'))]]⟩)
    (fun i=>bQ.length-i) (fun i=>i≤bQ.length∧oo bQ i=true) 0 [0] ⟨by omega,by simp[oo]⟩ ?_ ?_
   ·simp only[go_sem];simp
   ·rintro i ⟨hi,he⟩;by_cases h1:i<bQ.length
    ·have au:decide ((i:Int)<(bQ.length:Int))=true:=bk (by omega);have aB:=b4 a' bQ i h1;have hw:=dE h1 hm;have hf:=TT bQ i h1;simp only[go_sem,I,aJ,aB,a',au];refine⟨⟨by omega,by omega⟩,?_⟩;refine af.inl (el (n:=6) (rs:=[.tmp 2]) Tryz.func193 rfl Tryz.call193 Tryz.checked.mixed rfl rfl ?_);simp only[go_sem];refine af.intro (jM bQ[i] 0 255) ?_;simp only[go_sem];refine bq (fun h2=>?_) (fun h2=>?_)
     ·have:=hf (by simpa using h2);have ak:decide ((0:Int)≤i)=true:=bk (by omega);simp only[go_sem,ak];simp[jk,this]
     ·have ak:bz bQ[i] 0 255=true:=by simpa using h2
      simp only[go_sem,hw];refine bu.intro (i+1) [0] ⟨by omega,acZ h1 he ak⟩ (by omega) ?_;simp only[go_sem];simp
    ·have au:decide ((i:Int)<(bQ.length:Int))=false:=bb (by omega);obtain rfl:i=bQ.length:=by omega
     have ak:decide ((0:Int)≤-1)=false:=by decide
     simp only[go_sem,au];have hq:vp (⟨ck,b_,cy,bQ⟩:c5)=(bM b_&&bz cy b_ (c7 (IntKind.i64.wrap (b_+ck)) 4611686018427387903)):=by
      rw[Bool.eq_iff_iff];simp only[vp,bM,bz,c7,ai,Bool.true_and,Bool.and_eq_true,decide_eq_true_eq];by_cases kM:0≤b_∧b_≤4611686018427387903
      ·rw[bE (n:=b_+ck) (by omega) (by omega)];constructor
       ·rintro⟨⟨⟨⟨_,h2⟩,ak⟩,aC⟩,bL⟩;rw[bE (n:=cy-b_) (by omega) (by omega)]at aC;refine⟨kM,ak,bk ?_⟩;split<;>omega
       ·rintro⟨_,ak,aC⟩;have aC:=cl aC;have:cy≤b_+ck∧cy≤4611686018427387903:=by split at aC<;>omega
        rw[bE (n:=cy-b_) (by omega) (by omega)];omega
      ·constructor
       ·rintro⟨⟨⟨⟨_,h2⟩,ak⟩,aC⟩,bL⟩;omega
       ·rintro⟨h,_⟩;exact absurd h kM
     try simp only[go_sem,I,ai,aj]
     repeat'((first|refine af.intro (by first|apply D9|apply tw) ?_|refine ar.intro (by apply jM) ?_|with_reducible refine dC ?_|refine a8 ?_)<;>simp only[go_sem])
     all_goals(simp only[jk,he,Bool.and_true,hq,c7];simp)
def k_(r:c5):Int:=if jk r then c7 (r.size-(r.cj-r.base)) (4611686018427387903-r.cj)else 0
theorem ac1(ck b_ cy:Int)(bQ:List Int):PureCall Tryz.prog 234 [.agg [.int .i64 ck,.int .i64 b_,.int .i64 cy,.sl 1 (bQ.map a')]] [.one (.int .i64 (k_ (⟨ck,b_,cy,bQ⟩:c5)))]:=by
 refine aP 18 Tryz.func234 Tryz.call234 [.tmp 2] ?_;intro _
 cases aO:jk (⟨ck,b_,cy,bQ⟩:c5)with
 |false=>
  try simp only[go_sem]
  repeat'(refine af.intro (by apply vq) ?_<;>simp only[go_sem,aO])
  all_goals simp[k_,aO]
 |true=>
  obtain⟨h1,h2,ak,aC,bL,eD,l5,fI,Ah⟩:=vd aO;simp only at h1 h2 ak aC bL eD l5;have e5:IntKind.i64.wrap (cy-b_)=cy-b_:=by rw[bE]<;>omega
  have gr:IntKind.i64.wrap (ck-(cy-b_))=ck-(cy-b_):=by rw[bE]<;>omega
  have lo:IntKind.i64.wrap (4611686018427387903-cy)=4611686018427387903-cy:=by rw[bE]<;>omega
  try simp only[go_sem]
  repeat'(refine af.intro (by apply vq) ?_<;>simp only[go_sem,aO,e5,gr,lo])
  all_goals simp[k_,aO,c7]
def sK(n:Int):c5:=if la n then⟨n,0,0,List.replicate n.toNat 0⟩else⟨0,0,0,[]⟩
theorem TV(n:Int):PureCall Tryz.prog 233 [.one (.int .i64 n)] [.agg [.int .i64 (sK n).size,.int .i64 (sK n).base,.int .i64 (sK n).cj,.sl 1 ((sK n).cells.map a')],.one (.bool (la n))]:=by
 refine aP 12 Tryz.func233 Tryz.call233 [.cell 2 45,.tmp 3] ?_;intro _
 cases aO:la n with
 |false=>
  try simp only[go_sem]
  repeat'(refine af.intro (by apply HB) ?_<;>simp only[go_sem,aO])
  all_goals simp[sK,aO]
 |true=>
  have hn:=Ab aO
  try simp only[go_sem]
  repeat'(first|(refine af.intro (by apply HB) ?_<;>simp only[go_sem,aO])|(with_reducible refine aq ?_)|fail)
  all_goals simp[sK,aO,a']
def vr(cs:List Int)(e sz:Int)(d:List UInt8):Nat→List Int
 |0=>cs
 |k+1=>(vr cs e sz d k).set ((e+(k:Int)).tmod sz).toNat ((d[k]?.getD 0).toNat:Int)
theorem GL(cs:List Int)(e sz:Int)(d:List UInt8):∀k,(vr cs e sz d k).length=cs.length
 |0=>rfl
 |k+1=>by rw[vr,List.length_set,GL cs e sz d k]
def kG(r:c5)(d:List UInt8):Nat:=(c7 (k_ r) d.length).toNat
def tf(r:c5)(d:List UInt8):c5:=⟨r.size,r.base,IntKind.i64.wrap (r.cj+(kG r d:Int)),vr r.cells r.cj r.size d (kG r d)⟩
theorem R5(r:c5):0≤k_ r∧(0<k_ r→jk r=true∧k_ r≤r.size-(r.cj-r.base)∧r.cj+k_ r≤4611686018427387903):=by
 unfold k_ c7;split
 ·rename_i h;obtain⟨h1,h2,ak,aC,bL,eD,l5,fI,Ah⟩:=vd h;split<;>exact⟨by omega,fun _=>⟨h,by omega,by omega⟩⟩
 ·exact⟨by omega,fun g=>by omega⟩
theorem TW(b:UInt8):IntKind.i64.wrap ((b.toNat:Nat):Int)=((b.toNat:Nat):Int):=by
 have:=b.toNat_lt;rw[bE]<;>omega
set_option maxHeartbeats 1000000 in
theorem ac2(ck b_ cy:Int)(bQ:List Int)(d:List UInt8)(hc:bQ.length≤8388608)(hd:d.length≤1048576):PureCall Tryz.prog 203 [.agg [.int .i64 ck,.int .i64 b_,.int .i64 cy,.sl 1 (bQ.map a')],.one (.str d)] [.agg [.int .i64 (tf (⟨ck,b_,cy,bQ⟩:c5) d).size,.int .i64 (tf (⟨ck,b_,cy,bQ⟩:c5) d).base,.int .i64 (tf (⟨ck,b_,cy,bQ⟩:c5) d).cj,.sl 1 ((tf (⟨ck,b_,cy,bQ⟩:c5) d).cells.map a')],.one (.int .i64 ((kG (⟨ck,b_,cy,bQ⟩:c5) d:Int)))]:=by
 refine aP 42 Tryz.func203 Tryz.call203 [.cell 4 45,.tmp 5] ?_;intro ok;have hr:=R5 (⟨ck,b_,cy,bQ⟩:c5);have bF:(kG (⟨ck,b_,cy,bQ⟩:c5) d:Int)=c7 (k_ (⟨ck,b_,cy,bQ⟩:c5)) d.length:=by unfold kG c7;split<;>omega
 have ak9:kG (⟨ck,b_,cy,bQ⟩:c5) d≤d.length:=by have:=bF;unfold c7 at this;split at this<;>omega
 have ala:(kG (⟨ck,b_,cy,bQ⟩:c5) d:Int)≤k_ (⟨ck,b_,cy,bQ⟩:c5):=by have:=bF;unfold c7 at this;split at this<;>omega
 generalize hn:kG (⟨ck,b_,cy,bQ⟩:c5) d=n at *;have TX:(if((d.length:Nat):Int)<k_ (⟨ck,b_,cy,bQ⟩:c5)then((d.length:Nat):Int)else k_ (⟨ck,b_,cy,bQ⟩:c5))=(n:Int):=by rw[bF];rfl
 try simp only[go_sem]
 repeat'(refine af.intro (by first|(apply EX<;>first|assumption|omega)|apply ac1) ?_<;>simp only[go_sem,I,TX])
 refine b9.intro (fun k:Nat=>⟨(.ab::.d (.str d)::.ptr 0 0 0::.ab::.ptr 1 0 0::.d (.int .i64 0)::.ptr 3 0 0::.d (.int .i64 n)::.d (.int .i64 k)::aF 33 []),[.box [.d (.int .i64 ck),.d (.int .i64 b_),.d (.int .i64 cy),.d (.sl 1 (bQ.map a'))],.box [.d (.int .i64 0),.d (.int .i64 0),.d (.int .i64 0),.c6 1],.ao 1 ((vr bQ cy ck d k).map a') true,.box [.d (.int .i64 ck),.d (.int .i64 b_),.d (.int .i64 cy),.sl 2 0 bQ.length]]⟩)
  (fun k=>n-k) (fun k=>k≤n) 0 [0,1,2,3] (by omega) ?_ ?_
 ·simp only[go_sem];simp[vr]
 ·intro k hk;by_cases h1:k<n
  ·have au:decide ((k:Int)<(n:Int))=true:=bk (by omega);obtain⟨aO,D_,nf⟩:=hr.2 (by omega);obtain⟨cC,cT,eI,kq,D',Ea,Eb,TY,HC⟩:=vd aO;simp only at cC cT eI kq D' Ea Eb D_ nf;have hw:=dE (i:=k) (m:=d.length) (by omega) (by simp only[maxLen];omega);have e5:IntKind.i64.wrap (cy+(k:Int))=cy+(k:Int):=by rw[bE]<;>omega
   have fT:=Int.tmod_nonneg ck (show(0:Int)≤cy+(k:Int)by omega);have f2:=Int.tmod_lt_of_pos (cy+(k:Int)) (show 0<ck by omega);have hl:=GL bQ cy ck d k;obtain⟨j,nK⟩:=Int.eq_ofNat_of_zero_le fT;rw[nK]at f2;have av:j<(vr bQ cy ck d k).length:=by omega
   have ye:=b4 a' _ j av;have cD:vr bQ cy ck d (k+1)=(vr bQ cy ck d k).set j ((d[k]?.getD 0).toNat:Int):=by rw[vr,nK,aJ]
   try simp only[go_sem,au]
   repeat'(first|(refine a9 TP (by kernel_rfl) (by rfl) ?_<;>simp only[go_sem,I,aJ,e5,nK,ye,a',TW,Option.getD_some])|(with_reducible refine aq ?_)|fail)
   all_goals(first|(refine⟨⟨av,by simp,by simp⟩,?_⟩)|skip)
   all_goals(refine bu.intro (k+1) [0,1,2,3] (by omega) (by omega) ?_;simp only[go_sem,hw,cD];simp[a'])
  ·have au:decide ((k:Int)<(n:Int))=false:=bb (by omega);obtain rfl:k=n:=by omega
   try simp only[go_sem,I,au]
   all_goals simp[outOA,tf,hn,GL,List.take_of_length_le]
def vt(cs:List Int)(b sz:Int):Nat→List Int
 |0=>cs
 |k+1=>(vt cs b sz k).set ((b+(k:Int)).tmod sz).toNat 0
theorem GM(cs:List Int)(b sz:Int):∀k,(vt cs b sz k).length=cs.length
 |0=>rfl
 |k+1=>by rw[vt,List.length_set,GM cs b sz k]
def Ec(r:c5)(t:Int):Bool:=jk r&&decide (r.base≤t)&&decide (t≤r.cj)
def vf(r:c5)(t:Int):c5:=if Ec r t then⟨r.size,t,r.cj,vt r.cells r.base r.size (t-r.base).toNat⟩else r
set_option maxHeartbeats 1000000 in
theorem TZ(ck b_ cy:Int)(bQ:List Int)(t:Int)(hc:bQ.length≤8388608):PureCall Tryz.prog 259 [.agg [.int .i64 ck,.int .i64 b_,.int .i64 cy,.sl 1 (bQ.map a')],.one (.int .i64 t)] [.agg [.int .i64 (vf (⟨ck,b_,cy,bQ⟩:c5) t).size,.int .i64 (vf (⟨ck,b_,cy,bQ⟩:c5) t).base,.int .i64 (vf (⟨ck,b_,cy,bQ⟩:c5) t).cj,.sl 1 ((vf (⟨ck,b_,cy,bQ⟩:c5) t).cells.map a')],.one (.bool (Ec (⟨ck,b_,cy,bQ⟩:c5) t))]:=by
 refine aP 43 Tryz.func259 Tryz.call259 [.cell 4 45,.tmp 5] ?_;intro ok
 cases bR:Ec (⟨ck,b_,cy,bQ⟩:c5) t with
 |false=>
  try simp only[go_sem]
  repeat'((first|refine af.intro (by first|(apply EX<;>first|assumption|omega)|apply vq) ?_|refine a8 ?_)<;>simp only[go_sem,I])
  refine bq (fun h0=>?_) (fun h0=>?_)
  ·simp only[go_sem,I];simp[vf,bR]
  ·exfalso;simp[Ec]at bR h0;grind
 |true=>
  have aO:jk (⟨ck,b_,cy,bQ⟩:c5)=true∧b_≤t∧t≤cy:=by
   simp only[Ec,Bool.and_eq_true,decide_eq_true_eq,and_assoc]at bR;exact bR
  obtain⟨aO,hb,he⟩:=aO;obtain⟨cC,cT,eI,kq,D',Ea,Eb,TY,HC⟩:=vd aO;simp only at cC cT eI kq D' Ea Eb;have ai:decide (t<b_)=false:=bb (by omega);have aj:decide (cy<t)=false:=bb (by omega)
  try simp only[go_sem]
  repeat'((first|refine af.intro (by first|(apply EX<;>first|assumption|omega)|apply vq) ?_|with_reducible refine ct ?_)<;>simp only[go_sem,I,aO,ai,aj])
  refine b9.intro (fun k:Nat=>⟨(.ab::.d (.int .i64 t)::.ptr 0 0 0::.ab::.ptr 1 0 0::.d (.bool false)::.ptr 3 0 0::.d (.int .i64 (b_+(k:Int)))::aF 35 []),[.box [.d (.int .i64 ck),.d (.int .i64 b_),.d (.int .i64 cy),.d (.sl 1 (bQ.map a'))],.box [.d (.int .i64 0),.d (.int .i64 0),.d (.int .i64 0),.c6 1],.ao 1 ((vt bQ b_ ck k).map a') true,.box [.d (.int .i64 ck),.d (.int .i64 b_),.d (.int .i64 cy),.sl 2 0 bQ.length]]⟩)
   (fun k=>(t-b_).toNat-k) (fun k=>(k:Int)≤t-b_) 0 [0,1,2,3] (by omega) ?_ ?_
  ·simp only[go_sem];simp[vt]
  ·intro k hk;by_cases h1:(k:Int)<t-b_
   ·have au:decide (b_+(k:Int)<t)=true:=bk (by omega);have hw:IntKind.i64.wrap (b_+(k:Int)+1)=b_+((k+1:Nat):Int):=by rw[bE]<;>omega
    have fT:=Int.tmod_nonneg ck (show(0:Int)≤b_+(k:Int)by omega);have f2:=Int.tmod_lt_of_pos (b_+(k:Int)) (show 0<ck by omega);have hl:=GM bQ b_ ck k;obtain⟨j,nK⟩:=Int.eq_ofNat_of_zero_le fT;rw[nK]at f2;have av:j<(vt bQ b_ ck k).length:=by omega
    have ye:=b4 a' _ j av;have cD:vt bQ b_ ck (k+1)=(vt bQ b_ ck k).set j 0:=by rw[vt,nK,aJ]
    try simp only[go_sem,au]
    repeat'(first|(refine a9 TQ (by kernel_rfl) (by rfl) ?_<;>simp only[go_sem,I,aJ,nK,ye,a',Option.getD_some])|(with_reducible refine aq ?_)|fail)
    all_goals(first|(refine⟨⟨av,by simp,by simp⟩,?_⟩)|skip)
    all_goals(refine bu.intro (k+1) [0,1,2,3] (by omega) (by omega) ?_;simp only[go_sem,hw,cD];simp[a'])
   ·have au:decide (b_+(k:Int)<t)=false:=bb (by omega);have yG:(t-b_).toNat=k:=by omega
    try simp only[go_sem,I,au]
    all_goals simp[outOA,vf,bR,yG,GM,List.take_of_length_le]
def Ed(r:c5)(o n:Int):Bool:=jk r&&decide (r.base≤o)&&decide (0≤n)&&decide (o≤r.cj)&&decide (n≤IntKind.i64.wrap (r.cj-o))
def vu(r:c5)(o:Int)(k:Nat):List UInt8:=(List.range k).map fun j=>tc (r.cells[((o+(j:Nat)).tmod r.size).toNat]?.getD 0)
def zp(r:c5)(o n:Int):List UInt8:=if Ed r o n then vu r o n.toNat else []
theorem ac3(r:c5)(o:Int)(k:Nat):vu r o (k+1)=vu r o k++[tc (r.cells[((o+(k:Nat)).tmod r.size).toNat]?.getD 0)]:=by
 simp[vu,List.range_succ]
theorem Sb(r:c5)(o:Int)(k:Nat):(vu r o k).length=k:=by simp[vu]
set_option maxHeartbeats 1000000 in
theorem T0(ck b_ cy:Int)(bQ:List Int)(o n:Int):PureCall Tryz.prog 263 [.agg [.int .i64 ck,.int .i64 b_,.int .i64 cy,.sl 1 (bQ.map a')],.one (.int .i64 o),.one (.int .i64 n)] [.one (.str (zp (⟨ck,b_,cy,bQ⟩:c5) o n)),.one (.bool (Ed (⟨ck,b_,cy,bQ⟩:c5) o n))]:=by
 refine aP 56 Tryz.func263 Tryz.call263 [.tmp 6,.tmp 7] ?_;intro ok
 cases bR:Ed (⟨ck,b_,cy,bQ⟩:c5) o n with
 |false=>
  try simp only[go_sem]
  repeat'((first|refine af.intro (by apply vq) ?_|refine a8 ?_)<;>simp only[go_sem])
  refine bq (fun h0=>?_) (fun h0=>?_)
  ·simp only[go_sem];simp[zp,bR]
  ·exfalso;simp[Ed]at bR h0;grind
 |true=>
  have aO:jk (⟨ck,b_,cy,bQ⟩:c5)=true∧b_≤o∧0≤n∧o≤cy∧n≤IntKind.i64.wrap (cy-o):=by
   simp only[Ed,Bool.and_eq_true,decide_eq_true_eq,and_assoc]at bR;exact bR
  obtain⟨aO,hb,tx,he,hn⟩:=aO;obtain⟨cC,cT,eI,kq,D',Ea,Eb,TY,HC⟩:=vd aO;simp only at cC cT eI kq D' Ea Eb HC;have ai:decide (o<b_)=false:=bb (by omega);have aj:decide (cy<o)=false:=bb (by omega);have aT:decide (n<0)=false:=bb (by omega);have bj:decide (IntKind.i64.wrap (cy-o)<n)=false:=bb (by omega);rw[bE (n:=cy-o) (by omega) (by omega)]at hn;obtain⟨m,rfl⟩:=Int.eq_ofNat_of_zero_le tx
  try simp only[go_sem]
  repeat'((first|refine af.intro (by apply vq) ?_|with_reducible refine ct ?_)<;>simp only[go_sem,aO,ai,aj,aT,bj])
  refine b9.intro (fun k:Nat=>⟨(.ab::.d (.int .i64 o)::.d (.int .i64 m)::.ptr 0 0 0::.ab::.ab::.d (.str [])::.d (.bool false)::.d (.str (vu (⟨ck,b_,cy,bQ⟩:c5) o k))::.d (.int .i64 k)::aF 46 []),[.box [.d (.int .i64 ck),.d (.int .i64 b_),.d (.int .i64 cy),.d (.sl 1 (bQ.map a'))]]⟩)
   (fun k=>m-k) (fun k=>k≤m) 0 [0] (by omega) ?_ ?_
  ·simp only[go_sem];simp[vu]
  ·intro k hk;by_cases h1:k<m
   ·have au:decide ((k:Int)<(m:Int))=true:=bk (by omega);have hw:=dE (i:=k) (m:=100) (by omega) (by simp[maxLen]);have e5:IntKind.i64.wrap (o+(k:Int))=o+(k:Int):=by rw[bE]<;>omega
    have fT:=Int.tmod_nonneg ck (show(0:Int)≤o+(k:Int)by omega);have f2:=Int.tmod_lt_of_pos (o+(k:Int)) (show 0<ck by omega);obtain⟨j,nK⟩:=Int.eq_ofNat_of_zero_le fT;rw[nK]at f2;have av:j<bQ.length:=by omega
    have ye:=b4 a' _ j av;have fz:=Sb (⟨ck,b_,cy,bQ⟩:c5) o k;have cD:vu (⟨ck,b_,cy,bQ⟩:c5) o (k+1)=vu (⟨ck,b_,cy,bQ⟩:c5) o k++[tc bQ[j]]:=by rw[ac3];simp only[nK,aJ,dk av,Option.getD_some]
    have d4:=DE bQ[j] (HC j av)
    try simp only[go_sem,au]
    repeat'(first|((first|refine af.intro (by assumption) ?_|refine ar.intro (by assumption) ?_|refine a9 TR (by kernel_rfl) (by rfl) ?_)<;>simp only[go_sem,I,aJ,e5,nK,ye,a',Option.getD_some])|(with_reducible refine aq ?_)|fail)
    all_goals(refine bu.intro (k+1) [0] (by omega) (by omega) ?_;simp only[go_sem,hw,cD];simp)
   ·have au:decide ((k:Int)<(m:Int))=false:=bb (by omega);obtain rfl:k=m:=by omega
    try simp only[go_sem,au]
    all_goals simp[zp,bR]
def acY:Code→Code
 |.seq _ b=>b
 |c=>c
def yd:Nat→Code→Code
 |0,c=>c
 |k+1,c=>yd k (acY c)
def zF(f:Func):Code:=f.body.getD .skip
theorem vo{P:Program}{kv:List V}{a b:Code}{σ:St}{K:St→Prop}{aS:List (Nat×(St→Prop))}{cq:St→Prop}(h:∀fp:St→Prop,(∀σ',codeE P kv b σ' K aS cq→fp σ')→codeE P kv a σ fp aS cq):codeE P kv (.seq a b) σ K aS cq:=by
 rw[YH];exact h _ fun _ g=>g
def mr:List aa→aa→List aa
 |[],r=>[r]
 |x::xs,r=>if x.high<r.low then x::mr xs r else if r.high<x.low then r::x::xs else mr xs ⟨c7 r.low x.low,dg r.high x.high⟩
def MI(s:List aa×Bool×aa):List aa:=if s.2.1=true then s.1 else s.1++[s.2.2]
theorem T'(xs:List aa)(r:aa):∀i,i≤xs.length→ft xs r i=(xs.take i).foldl jJ ([],false,r)
 |0,_=>rfl
 |i+1,h=>by rw[Mq xs r i (by omega),T' xs r i (by omega),vv jJ _ xs i (by omega)]
theorem Ua{r:aa}(hr:cR r=true):∀(xs out:List aa),(∀x∈xs,cR x=true∧r.high<x.low)→xs.foldl jJ (out,true,r)=(out++xs,true,r)
 |[],out,_=>by simp
 |x::xs,out,h=>by
  have h1:=h x (by simp);have h2:=(gL _).1 h1.1;have ak:=(gL _).1 hr;have e:jJ (out,true,r) x=(out++[x],true,r):=by
   unfold jJ;rw[if_neg (show ¬x.high<r.low by omega),if_pos h1.2];simp
  rw[List.foldl_cons,e,Ua hr xs _ (fun y hy=>h y (by simp[hy])),List.append_assoc];rfl
theorem MJ:∀(xs out:List aa) (r:aa),(∀x∈xs,cR x=true)→xs.Pairwise (fun a b=>a.high<b.low)→cR r=true→MI (xs.foldl jJ (out,false,r))=out++mr xs r
 |[],out,r,_,_,_=>by simp[MI,mr]
 |x::xs,out,r,h1,h2,hr=>by
  have hx:=(gL _).1 (h1 x (by simp));have i0:=(gL _).1 hr;have hG:=List.pairwise_cons.1 h2;rw[List.foldl_cons,mr];by_cases dv:x.high<r.low
  ·have e:jJ (out,false,r) x=(out++[x],false,r):=by unfold jJ;rw[if_pos dv]
   rw[e,if_pos dv,MJ xs _ r (fun y hy=>h1 y (by simp[hy])) hG.2 hr,List.append_assoc];rfl
  ·by_cases dD:r.high<x.low
   ·have e:jJ (out,false,r) x=(out++[r]++[x],true,r):=by unfold jJ;rw[if_neg dv,if_pos dD];simp
    rw[e,if_neg dv,if_pos dD,Ua hr xs _ (fun y hy=>⟨h1 y (by simp[hy]),by have:=hG.1 y hy;omega⟩)];simp[MI]
   ·have e:jJ (out,false,r) x=(out,false,⟨c7 r.low x.low,dg r.high x.high⟩):=by unfold jJ;rw[if_neg dv,if_neg dD]
    have hm:cR ⟨c7 r.low x.low,dg r.high x.high⟩=true:=by
     rw[gL];simp only[c7,dg];refine⟨?_,?_,?_⟩<;>(repeat' split)<;>omega
    rw[e,if_neg dv,if_neg dD];exact MJ xs out _ (fun y hy=>h1 y (by simp[hy])) hG.2 hm
theorem Ub{xs:List aa}{r:aa}(h:cx xs=true)(hr:cR r=true):fs xs r=mr xs r:=by
 have h1:=(jK xs).1 h;have h2:=MJ xs [] r h1.1 h1.2 hr;have ak:=T' xs r xs.length (Nat.le_refl _);rw[dK]at ak;unfold fs;rw[h,hr,ak];simp only;exact h2
theorem MK{B:Int}:∀(xs:List aa) (r:aa),B<r.low→(∀x∈xs,B<x.low)→∀y∈mr xs r,B<y.low
 |[],r,hr,_,y,hy=>by simp only[mr,List.mem_singleton]at hy;rw[hy];exact hr
 |x::xs,r,hr,hx,y,hy=>by
  rw[mr]at hy;split at hy
  ·rcases List.mem_cons.1 hy with rfl|hy
   ·exact hx _ (by simp)
   ·exact MK xs r hr (fun z hz=>hx z (by simp[hz])) y hy
  ·split at hy
   ·rcases List.mem_cons.1 hy with rfl|hy
    ·exact hr
    ·exact hx y hy
   ·refine MK xs _ ?_ (fun z hz=>hx z (by simp[hz])) y hy;have:=hx x (by simp);simp only[c7];split<;>omega
theorem ML:∀(xs:List aa) (r:aa),(∀x∈xs,cR x=true)→xs.Pairwise (fun a b=>a.high<b.low)→cR r=true→(∀x∈mr xs r,cR x=true)∧(mr xs r).Pairwise (fun a b=>a.high<b.low)
 |[],r,_,_,hr=>by simp[mr,hr]
 |x::xs,r,h1,h2,hr=>by
  have hx:=(gL _).1 (h1 x (by simp));have i0:=(gL _).1 hr;have hG:=List.pairwise_cons.1 h2;have kQ:∀y∈xs,cR y=true:=fun y hy=>h1 y (by simp[hy]);rw[mr];split
  ·rename_i dv;obtain⟨cC,cT⟩:=ML xs r kQ hG.2 hr;refine⟨fun y hy=>?_,List.pairwise_cons.2 ⟨fun y hy=>MK xs r dv hG.1 y hy,cT⟩⟩;rcases List.mem_cons.1 hy with rfl|hy
   ·exact h1 _ (by simp)
   ·exact cC y hy
  ·split
   ·rename_i dv dD;refine⟨fun y hy=>?_,List.pairwise_cons.2 ⟨fun y hy=>?_,h2⟩⟩
    ·rcases List.mem_cons.1 hy with rfl|hy
     ·exact hr
     ·exact h1 y hy
    ·rcases List.mem_cons.1 hy with rfl|hy
     ·exact dD
     ·have:=hG.1 y hy;omega
   ·refine ML xs _ kQ hG.2 ?_;rw[gL];simp only[c7,dg];refine⟨?_,?_,?_⟩<;>(repeat' split)<;>omega
theorem Uc:∀(xs:List aa) (r:aa),mr xs r≠[]
 |[],r=>by simp[mr]
 |x::xs,r=>by
  rw[mr];split
  ·simp
  ·split
   ·simp
   ·exact Uc xs _
theorem Ly{xs:List aa}{r:aa}(h:cx xs=true)(hr:cR r=true):cx (fs xs r)=true:=by
 rw[Ub h hr,jK];have h1:=(jK xs).1 h;exact ML xs r h1.1 h1.2 hr
theorem ac5{xs:List aa}{r:aa}(h:cx xs=true)(hr:cR r=true):fs xs r≠[]:=by rw[Ub h hr];exact Uc _ _
def dZ(xs ys:List aa):List aa:=ys.foldl fs xs
theorem nL:∀(ys xs:List aa),(dZ xs ys).length≤xs.length+ys.length
 |[],xs=>by simp[dZ]
 |y::ys,xs=>by
  have h1:=nL ys (fs xs y);have h2:=ID xs y;have e:dZ xs (y::ys)=dZ (fs xs y) ys:=rfl;rw[e,List.length_cons];omega
theorem yf(xs ys:List aa)(i:Nat)(h:i<ys.length):dZ xs (ys.take (i+1))=fs (dZ xs (ys.take i)) ys[i]:=vv fs xs ys i h
theorem Ef:∀(ys xs:List aa),cx xs=true→(∀y∈ys,cR y=true)→cx (dZ xs ys)=true∧(ys≠[]∨xs≠[]→dZ xs ys≠[])
 |[],xs,h,_=>⟨h,fun g=>by rcases g with g|g;exact absurd rfl g;exact g⟩
 |y::ys,xs,h,hy=>by
  have h1:=Ly h (hy y (by simp));have h2:=ac5 h (hy y (by simp));have ak:=Ef ys (fs xs y) h1 (fun z hz=>hy z (by simp[hz]));exact⟨ak.1,fun _=>ak.2 (.inr h2)⟩
theorem Ud{p f a aS:List aa}(hp:cx p=true)(hf:cx f=true)(ha:cx a=true)(h:f≠[]∨a≠[])(cJ:aS=dZ (dZ p f) a):aS≠[]:=by
 have h1:=Ef f p hp ((jK f).1 hf).1;have h2:=Ef a _ h1.1 ((jK a).1 ha).1;rw[cJ];rcases h with h|h
 ·exact h2.2 (.inr (h1.2 (.inl h)))
 ·exact h2.2 (.inl h)
def nJ(xs:List aa):Int:=(xs[0]?.getD (⟨0,0⟩:aa)).high
theorem ac6{xs:List aa}{E:Int}(h:cx xs=true)(ah:∀x∈xs,x.high≤E)(hc:iG xs=E)(hp:0<E):nJ xs=E:=by
 unfold iG at hc;rw[if_pos h]at hc
 cases hl:xs.length with
 |zero=>rw[List.length_eq_zero_iff.1 hl]at hc;simp[hM]at hc;omega
 |succ n=>
  have hi:n<xs.length:=by omega
  have h1:=Ee h n hi;have h2:=vv (fun(n:Int) (r:aa)=>n+(r.high-r.low)) 0 xs n hi;have e:hM xs=hM (xs.take n)+(xs[n].high-xs[n].low):=by
   rw[←hl,dK]at h2;exact h2
  have aC:=ah _ (List.getElem_mem hi)
  cases n with
  |zero=>
   simp only[List.take_zero,hM,List.foldl_nil]at e h1;have bL:=(gL _).1 (((jK xs).1 h).1 _ (List.getElem_mem hi));unfold nJ;rw[dk hi,Option.getD_some];simp only[hM]at hc e;omega
  |succ m=>
   exfalso;have hm:m<xs.length:=by omega
   have bL:=Ee h m hm;have eD:hM (xs.take (m+1))=hM (xs.take m)+(xs[m].high-xs[m].low):=vv _ _ _ _ _;have l5:=(List.pairwise_iff_getElem.1 ((jK xs).1 h).2) m (m+1) hm hi (by omega);omega
set_option maxRecDepth 100000
def yj:List (List bt):=cE 12 [522584,522582,522576,522679,522625,522450,502281,530347,525973,512487,472392,354294]
def yk:List (List bt):=cE 43 [328256967394537077509,328256967394537077507,328256967394537077622,328256967394537077604,328256967394537077550,328256967394537077384,328256967394537076898,328256967394536990147,328256967394537073253,328256967394537060131,328256967394537020765,328256967394536900480,328256967394536546186,328256967394535483304,328256967394532294658,328256967394522728720,328256967394494030906,328256967394407937464,328256967394149657138,328256966169513491409,328256966167188968475,328256966160215399673,328256966139294693267,328256967346884357480,328256967158597999826,328256966593738926864,328256964852671249298,328256959768939592640,328256944517744622666,328256898764159712744,328184493716039761179,328184081933775571881,328182846586983003987,328254084918687752541,328242966797554641495,328209612434155308357,328106872759240078506,327806683488646080264,326906115676864085538,324204412241518101360,316099301935480148826,291783971017366291224,218837978263024718418]
def wT:List (List bt):=cE 9 [16757,16755,16762,16740,16686,16524,19318,17860,13122]
def Uz:List (List bt):=cE 6 [692,690,724,706,648,486]
attribute [go_sem] yj yk wT Uz
def BE(s:aM):Int:=
 if s.ba=3∧s.ring.base=s.ring.cj then 3
 else if 1<s.ba∨(s.ba=1∧s.state=2)then 2
 else if 0<s.sent∨(s.ba=1∧s.state=1)then 1 else 0
theorem zK(aX a4 a5 a2:Int)(aU:List Int)(aD aA aE:List aa)(a3 aY aW a6:Int):PureCall Tryz.prog 160 [.agg [.int .i64 aX,.int .i64 a4,.int .i64 a5,.int .i64 a2,.sl 1 (aU.map a'),.sl 2 (aD.map aa.enc),.sl 2 (aA.map aa.enc),.sl 2 (aE.map aa.enc),.int .i64 a3,.int .i64 aY,.int .i64 aW,.int .i64 a6]] [.one (.int .i64 (BE (⟨aX,⟨a4,a5,a2,aU⟩,aD,aA,aE,a3,aY,aW,a6⟩:aM)))]:=by
 refine aP 44 Tryz.func160 Tryz.call160 [.tmp 2] ?_;intro _
 try simp only[go_sem]
 repeat'((first|refine a8 ?_|refine bq (fun h=>?_) (fun h=>?_))<;>simp only[go_sem])
 all_goals(simp at *;simp only[BE];repeat' split)
 all_goals first|rfl|(exfalso;grind)
def jl(s:aM):Bool:=jk s.ring&&cx s.pending&&cx s.flight&&cx s.cb&&bz s.sent 0 s.ring.cj&&bM s.code&&bz s.ba 0 3
def lb(s:aM):Bool:=decide (s.state=4)||decide (s.state=5)
def HJ(s:aM):Bool:=decide (s.ring.base=s.ring.cj)&&decide ((s.pending.length:Int)=0)&&decide ((s.flight.length:Int)=0)&&decide ((s.cb.length:Int)=0)&&decide (s.bg=s.sent)&&decide (s.ba=0)&&decide (s.sent=s.ring.cj)
def m8(s:aM):List aa:=dZ (dZ s.pending s.flight) s.cb
def yh(s:aM):Int:=IntKind.i64.wrap (IntKind.i64.wrap (iG s.pending+iG s.flight)+iG s.cb)
def lP(s:aM):Bool:=decide (iG (m8 s)=s.ring.cj)&&decide (yh s=s.ring.cj)&&!(decide (0<s.ring.cj)&&decide (nJ (m8 s)≠s.ring.cj))&&decide (tg s.cb 0=s.ring.base)&&decide (s.code=0)
def below(xs:List aa)(n:Int):Bool:=xs.all fun r=>decide (r.high≤n)
def zJ(s:aM):Bool:=(decide (s.ba=0) == decide (s.bg=-1))&&!(decide (s.bg≠-1)&&decide (s.bg≠s.ring.cj))
def ez(s:aM):Bool:=jl s&&(if lb s then HJ s else lP s&&below s.flight s.sent&&below s.cb s.sent&&zJ s&&decide (s.state=BE s))
theorem UA(xs:List aa)(n:Int)(i:Nat)(h:i<xs.length):below (xs.take (i+1)) n=(below (xs.take i) n&&decide (xs[i].high≤n)):=by
 unfold below;rw[List.take_add_one,dk h,Option.toList_some,List.all_append];simp
theorem UB(xs:List aa)(n:Int)(i:Nat)(h:i<xs.length)(hb:n<xs[i].high):below xs n=false:=by
 unfold below;rw[List.all_eq_false];exact⟨xs[i],List.getElem_mem h,by simp;omega⟩
set_option maxHeartbeats 8000000 in
theorem M3(aX a4 a5 a2:Int)(aU:List Int)(aD aA aE:List aa)(a3 aY aW a6:Int)(ko:aA.length≤maxLen)(j0:aE.length≤maxLen)(cU:jl (⟨aX,⟨a4,a5,a2,aU⟩,aD,aA,aE,a3,aY,aW,a6⟩:aM)=true)(dV:lb (⟨aX,⟨a4,a5,a2,aU⟩,aD,aA,aE,a3,aY,aW,a6⟩:aM)=false)(wi:lP (⟨aX,⟨a4,a5,a2,aU⟩,aD,aA,aE,a3,aY,aW,a6⟩:aM)=true){oq mc ot ou ov ow u8 ox oy oz oA oB oC oD u16 oE oF oG oH oI oJ oK oL oM oN oO oP oQ oR oS u32 oT oU oV oW oX oY oZ o0 o1 o2 o3 o4 o5 o6 o7 o8 o9 o_ o' pb pc pd pe pf pg ph pj pk pl pn po u64 pq pr pt pw px py pz pA pB pC pD pE pF pG pH pI pJ pK pL pM pN pO pP pQ pR pS pT pU pV pW pX pY pZ p0 p1 p2 p3 p4 p5 p6 p7 p8 p9 p_ p' qa qb qc qd qe qf qg qh qi qj qk ql qm qn qo qp qq qs qt qu qv qw qx qy qz qA qB qC qD qE qF qG qH qI qJ qK qL qM qN qO qP qQ qR qS qT qU qV qW qX qY qZ q0 q1 q2 q3 q4 q5 q6 q7 q8 q9 q_ q' ra rb re rf rh ri rj rk rl rm rn rp rq rr ru rv ry rz rA rB rC rE rF rG rH rI rJ rK rL rM rN rO rP rQ rR rS rT rU rW rX rY rZ r1 r2 r3 r4 r5 r6 r7 r8 r9 r_ r' sa sb sc sd se sf sg sh si sj sk sm sn sq sr ss su sv sw sx:V}(ex:List H) :
  codeE Tryz.prog [] (yd 8 (zF Tryz.f121)) ⟨[oq,.ptr 0 0 0,.d (.bool false),mc,ot,ou,ov,ow,u8,ox,oy,oz,oA,oB,oC,oD,u16,oE,oF,oG,oH,oI,oJ,oK,oL,oM,oN,oO,oP,oQ,oR,oS,u32,oT,oU,oV,oW,oX,oY,oZ,o0,o1,o2,o3,o4,o5,o6,o7,o8,o9,o_,o',pb,pc,pd,pe,pf,pg,ph,pj,pk,pl,pn,po,u64,pq,pr,pt,pw,px,py,pz,pA,pB,pC,pD,pE,pF,pG,pH,pI,pJ,pK,pL,pM,pN,pO,pP,pQ,pR,pS,pT,pU,pV,pW,pX,pY,pZ,p0,p1,p2,p3,p4,p5,p6,p7,p8,p9,p_,p',qa,qb,qc,qd,qe,qf,qg,qh,qi,qj,qk,ql,qm,qn,qo,qp,qq,qs,qt,qu,qv,qw,qx,qy,qz,qA,qB,qC,qD,qE,qF,qG,qH,qI,qJ,qK,qL,qM,qN,qO,qP,qQ,qR,qS,qT,qU,qV,qW,qX,qY,qZ,q0,q1,q2,q3,q4,q5,q6,q7,q8,q9,q_,q',ra,rb,re,rf,rh,ri,rj,rk,rl,rm,rn,rp,rq,rr,ru,rv,ry,rz,rA,rB,rC,rE,rF,rG,rH,rI,rJ,rK,rL,rM,rN,rO,rP,rQ,rR,rS,rT,rU,rW,rX,rY,rZ,r1,r2,r3,r4,r5,r6,r7,r8,r9,r_,r',sa,sb,sc,sd,se,sf,sg,sh,si,sj,sk,sm,sn,sq,sr,ss,su,sv,sw,sx],.box [.d (.int .i64 aX),.d (.int .i64 a4),.d (.int .i64 a5),.d (.int .i64 a2),.d (.sl 1 (aU.map a')),.d (.sl 2 (aD.map aa.enc)),.d (.sl 2 (aA.map aa.enc)),.d (.sl 2 (aE.map aa.enc)),.d (.int .i64 a3),.d (.int .i64 aY),.d (.int .i64 aW),.d (.int .i64 a6)]::ex⟩ (bo (fL Tryz.prog [.tmp 2] [.one (.bool (ez (⟨aX,⟨a4,a5,a2,aU⟩,aD,aA,aE,a3,aY,aW,a6⟩:aM)))]) .mk) [] (bo (fL Tryz.prog [.tmp 2] [.one (.bool (ez (⟨aX,⟨a4,a5,a2,aU⟩,aD,aA,aE,a3,aY,aW,a6⟩:aM)))]) .mk):=by
 conv=>arg 3;whnf
 simp only[go_sem];refine b9.intro (fun i:Nat=>⟨(.ab::.ptr 0 0 0::.d (.bool false)::aF 4 (.d (.int .i64 i)::aF 238 [])),[.box [.d (.int .i64 aX),.d (.int .i64 a4),.d (.int .i64 a5),.d (.int .i64 a2),.d (.sl 1 (aU.map a')),.d (.sl 2 (aD.map aa.enc)),.d (.sl 2 (aA.map aa.enc)),.d (.sl 2 (aE.map aa.enc)),.d (.int .i64 a3),.d (.int .i64 aY),.d (.int .i64 aW),.d (.int .i64 a6)]]⟩)
  (fun i=>aA.length-i) (fun i=>i≤aA.length∧below (aA.take i) aW=true) 0 [0] ⟨by omega,rfl⟩ ?_ ?_
 ·simp only[go_sem];simp
 ·rintro i ⟨hi,he⟩;by_cases h1:i<aA.length
  ·have au:decide ((i:Int)<(aA.length:Int))=true:=bk (by omega);have aB:=b4 aa.enc aA i h1;have hw:=dE h1 ko;have hs:=UA aA aW i h1
   cases cr:decide (aW<aA[i].high)with
   |true=>
    try simp only[go_sem,I,au]
    repeat'(first|((first|refine ar.intro (by first|apply zG|apply wP) ?_|with_reducible refine j9 ?_|refine en ?_|refine a9 yj (by kernel_rfl) (by rfl) ?_|refine a9 yk (by kernel_rfl) (by rfl) ?_|refine a9 wT (by kernel_rfl) (by rfl) ?_)<;>simp only[go_sem,I,aJ,aB,aa.enc,cr])|(with_reducible refine aq ?_)|fail)
    have:=UB aA aW i h1 (cl cr);simp[ez,dV,this]
   |false=>
    have bL:decide (aA[i].high≤aW)=true:=bk (by have:=cG cr;omega)
    try simp only[go_sem,I,au]
    repeat'(first|((first|refine ar.intro (by first|apply zG|apply wP) ?_|with_reducible refine lk ?_|with_reducible refine j9 ?_|refine en ?_|refine a9 yj (by kernel_rfl) (by rfl) ?_|refine a9 yk (by kernel_rfl) (by rfl) ?_|refine a9 wT (by kernel_rfl) (by rfl) ?_)<;>simp only[go_sem,I,aJ,aB,aa.enc,cr])|(with_reducible refine aq ?_)|fail)
    refine bu.intro (i+1) [0] ⟨by omega,by rw[hs,he,bL];rfl⟩ (by omega) ?_;simp only[go_sem,hw];simp
  ·have au:decide ((i:Int)<(aA.length:Int))=false:=bb (by omega);obtain rfl:i=aA.length:=by omega
   rw[dK]at he;have Mv:=he;simp only[go_sem,I,au];refine b9.intro (fun i:Nat=>⟨(.ab::.ptr 0 0 0::.d (.bool false)::aF 5 (.d (.int .i64 i)::aF 237 [])),[.box [.d (.int .i64 aX),.d (.int .i64 a4),.d (.int .i64 a5),.d (.int .i64 a2),.d (.sl 1 (aU.map a')),.d (.sl 2 (aD.map aa.enc)),.d (.sl 2 (aA.map aa.enc)),.d (.sl 2 (aE.map aa.enc)),.d (.int .i64 a3),.d (.int .i64 aY),.d (.int .i64 aW),.d (.int .i64 a6)]]⟩)
    (fun i=>aE.length-i) (fun i=>i≤aE.length∧below (aE.take i) aW=true) 0 [0] ⟨by omega,rfl⟩ ?_ ?_
   ·simp only[go_sem];simp
   ·rintro i ⟨hi,he⟩;by_cases h1:i<aE.length
    ·have au:decide ((i:Int)<(aE.length:Int))=true:=bk (by omega);have aB:=b4 aa.enc aE i h1;have hw:=dE h1 j0;have hs:=UA aE aW i h1
     cases cr:decide (aW<aE[i].high)with
     |true=>
      try simp only[go_sem,I,au]
      repeat'(first|((first|refine ar.intro (by first|apply zG|apply wP) ?_|refine en ?_|refine a9 yj (by kernel_rfl) (by rfl) ?_|refine a9 yk (by kernel_rfl) (by rfl) ?_|refine a9 wT (by kernel_rfl) (by rfl) ?_)<;>simp only[go_sem,I,aJ,aB,aa.enc,cr])|(with_reducible refine aq ?_)|fail)
      have:=UB aE aW i h1 (cl cr);simp[ez,dV,this]
     |false=>
      have bL:decide (aE[i].high≤aW)=true:=bk (by have:=cG cr;omega)
      try simp only[go_sem,I,au]
      repeat'(first|(refine a9 wT (by kernel_rfl) (by rfl) ?_<;>simp only[go_sem,I,aJ,aB,aa.enc,cr])|(with_reducible refine aq ?_)|fail)
      refine bu.intro (i+1) [0] ⟨by omega,by rw[hs,he,bL];rfl⟩ (by omega) ?_;simp only[go_sem,hw];simp
    ·have au:decide ((i:Int)<(aE.length:Int))=false:=bb (by omega);obtain rfl:i=aE.length:=by omega
     rw[dK]at he;have adI:=he
     try simp only[go_sem,I,au]
     repeat'(refine a8 ?_<;>simp only[go_sem])
     refine bq (fun eD=>?_) (fun eD=>?_)
     ·simp only[go_sem];have:zJ (⟨aX,⟨a4,a5,a2,aU⟩,aD,aA,aE,a3,aY,aW,a6⟩:aM)=false:=by simp[zJ]at eD⊢;grind
      simp[ez,dV,this]
     ·have bV:zJ (⟨aX,⟨a4,a5,a2,aU⟩,aD,aA,aE,a3,aY,aW,a6⟩:aM)=true:=by simp[zJ]at eD⊢;grind
      simp only[go_sem]
      try simp only[go_sem,I]
      repeat'((first|refine ar.intro (by apply zK) ?_|refine a9 Uz (by kernel_rfl) (by rfl) ?_)<;>simp only[go_sem])
      all_goals simp[ez,cU,dV,wi,Mv,adI,bV]
set_option maxHeartbeats 8000000 in
theorem adn(aX a4 a5 a2:Int)(aU:List Int)(aD aA aE:List aa)(a3 aY aW a6:Int)(hc:aD.length+aA.length+aE.length≤524288)(ko:aA.length≤maxLen)(j0:aE.length≤maxLen)(cU:jl (⟨aX,⟨a4,a5,a2,aU⟩,aD,aA,aE,a3,aY,aW,a6⟩:aM)=true)(dV:lb (⟨aX,⟨a4,a5,a2,aU⟩,aD,aA,aE,a3,aY,aW,a6⟩:aM)=false)(hA:m8 (⟨aX,⟨a4,a5,a2,aU⟩,aD,aA,aE,a3,aY,aW,a6⟩:aM)=aD){oq ot ou ov ow u8 ox oy oz oA oB oC oD u16 oE oF oG oH oI oJ oK oL oM oN oO oP oQ oR oS u32 oT oU oV oW oX oY oZ o0 o1 o2 o3 o4 o5 o6 o7 o8 o9 o_ o' pb pc pd pe pf pg ph pj pk pl pn po u64 pq pr pt pw px py pz pA pB pC pD pE pF pG pH pI pJ pK pL pM pN pO pP pQ pR pS pT pU pV pW pX pY pZ p0 p1 p2 p3 p4 p5 p6 p7 p8 p9 p_ p' qa qb qc qd qe qf qg qh qi qj qk ql qm qn qo qp qq qs qt qu qv qw qx qy qz qA qB qC qD qE qF qG qH qI qJ qK qL qM qN qO qP qQ qR qS qT qU qV qW qX qY qZ q0 q1 q2 q3 q4 q5 q6 q7 q8 q9 q_ q' ra rb re rf rh ri rj rk rl rm rn rp rq rr ru rv ry rz rA rB rC rE rF rG rH rI rJ rK rL rM rN rO rP rQ rR rS rT rU rW rX rY rZ r1 r2 r3 r4 r5 r6 r7 r8 r9 r_ r' sa sb sc sd se sf sg sh si sj sk sm sn sq sr ss su sv sw sx:V} :
  codeE Tryz.prog [] (yd 6 (zF Tryz.f121)) ⟨[oq,.ptr 0 0 0,.d (.bool false),.d (.sl 2 (aD.map aa.enc)),ot,ou,ov,ow,u8,ox,oy,oz,oA,oB,oC,oD,u16,oE,oF,oG,oH,oI,oJ,oK,oL,oM,oN,oO,oP,oQ,oR,oS,u32,oT,oU,oV,oW,oX,oY,oZ,o0,o1,o2,o3,o4,o5,o6,o7,o8,o9,o_,o',pb,pc,pd,pe,pf,pg,ph,pj,pk,pl,pn,po,u64,pq,pr,pt,pw,px,py,pz,pA,pB,pC,pD,pE,pF,pG,pH,pI,pJ,pK,pL,pM,pN,pO,pP,pQ,pR,pS,pT,pU,pV,pW,pX,pY,pZ,p0,p1,p2,p3,p4,p5,p6,p7,p8,p9,p_,p',qa,qb,qc,qd,qe,qf,qg,qh,qi,qj,qk,ql,qm,qn,qo,qp,qq,qs,qt,qu,qv,qw,qx,qy,qz,qA,qB,qC,qD,qE,qF,qG,qH,qI,qJ,qK,qL,qM,qN,qO,qP,qQ,qR,qS,qT,qU,qV,qW,qX,qY,qZ,q0,q1,q2,q3,q4,q5,q6,q7,q8,q9,q_,q',ra,rb,re,rf,rh,ri,rj,rk,rl,rm,rn,rp,rq,rr,ru,rv,ry,rz,rA,rB,rC,rE,rF,rG,rH,rI,rJ,rK,rL,rM,rN,rO,rP,rQ,rR,rS,rT,rU,rW,rX,rY,rZ,r1,r2,r3,r4,r5,r6,r7,r8,r9,r_,r',sa,sb,sc,sd,se,sf,sg,sh,si,sj,sk,sm,sn,sq,sr,ss,su,sv,sw,sx],[.box [.d (.int .i64 aX),.d (.int .i64 a4),.d (.int .i64 a5),.d (.int .i64 a2),.d (.sl 1 (aU.map a')),.d (.sl 2 (aD.map aa.enc)),.d (.sl 2 (aA.map aa.enc)),.d (.sl 2 (aE.map aa.enc)),.d (.int .i64 a3),.d (.int .i64 aY),.d (.int .i64 aW),.d (.int .i64 a6)]]⟩ (bo (fL Tryz.prog [.tmp 2] [.one (.bool (ez (⟨aX,⟨a4,a5,a2,aU⟩,aD,aA,aE,a3,aY,aW,a6⟩:aM)))]) .mk) [] (bo (fL Tryz.prog [.tmp 2] [.one (.bool (ez (⟨aX,⟨a4,a5,a2,aU⟩,aD,aA,aE,a3,aY,aW,a6⟩:aM)))]) .mk):=by
 conv=>arg 3;whnf
 simp only[go_sem];by_cases cJ:aD=[]
 ·have L2:aD.length=0:=by rw[cJ];rfl
  have A7:iG aD=0:=by rw[cJ];rfl
  cases ai:decide (iG aD≠a2)with
  |true=>
   have fq:=cl ai
   try simp only[go_sem,I,ai]
   repeat'(first|((first|refine ar.intro (by first|apply zG|apply wP) ?_|with_reducible refine j9 ?_|refine en ?_|refine a9 yj (by kernel_rfl) (by rfl) ?_|refine a9 yk (by kernel_rfl) (by rfl) ?_|refine a9 wT (by kernel_rfl) (by rfl) ?_)<;>simp only[go_sem,ai])|(with_reducible refine aq ?_)|fail)
   all_goals simp[ez,dV,lP,hA,fq]
  |false=>
   have fq:iG aD=a2:=by have:=cG ai;omega
   have aT:decide (0<a2)=false:=bb (by omega)
   try simp only[go_sem,I,ai,aT]
   repeat'(first|((first|refine ar.intro (by first|apply zG|apply wP) ?_|with_reducible refine lk ?_|with_reducible refine j9 ?_|refine en ?_|refine a9 yj (by kernel_rfl) (by rfl) ?_|refine a9 yk (by kernel_rfl) (by rfl) ?_|refine a9 wT (by kernel_rfl) (by rfl) ?_)<;>simp only[go_sem,ai,aT])|(with_reducible refine aq ?_)|fail)
   refine bq (fun aC=>?_) (fun aC=>?_)
   ·simp only[go_sem];have:lP (⟨aX,⟨a4,a5,a2,aU⟩,aD,aA,aE,a3,aY,aW,a6⟩:aM)=false:=by
     simp[lP,hA,yh,nJ]at aC aT⊢;grind
    simp[ez,dV,this]
   ·have wi:lP (⟨aX,⟨a4,a5,a2,aU⟩,aD,aA,aE,a3,aY,aW,a6⟩:aM)=true:=by
     simp[lP,hA,yh,nJ]at aC aT⊢;grind
    exact M3 _ _ _ _ _ _ _ _ _ _ _ _ ko j0 cU dV wi _
 ·skip
  have hp:0<aD.length:=List.length_pos_iff.2 cJ;have gA:=b4 aa.enc aD 0 hp
  try simp only[go_sem,I,gA,aa.enc,Int.toNat_zero]
  repeat'(first|((first|refine ar.intro (by first|apply zG|apply wP) ?_|refine en ?_|refine a9 yj (by kernel_rfl) (by rfl) ?_|refine a9 yk (by kernel_rfl) (by rfl) ?_|refine a9 wT (by kernel_rfl) (by rfl) ?_)<;>simp only[go_sem,I,gA,aa.enc,Int.toNat_zero])|(with_reducible refine aq ?_)|fail)
  refine bq (fun aC=>?_) (fun aC=>?_)
  ·simp only[go_sem];have:lP (⟨aX,⟨a4,a5,a2,aU⟩,aD,aA,aE,a3,aY,aW,a6⟩:aM)=false:=by
    simp[lP,hA,yh,nJ,hp]at aC⊢;grind
   simp[ez,dV,this]
  ·have wi:lP (⟨aX,⟨a4,a5,a2,aU⟩,aD,aA,aE,a3,aY,aW,a6⟩:aM)=true:=by
    simp[lP,hA,yh,nJ,hp]at aC⊢;grind
   exact M3 _ _ _ _ _ _ _ _ _ _ _ _ ko j0 cU dV wi _
set_option maxHeartbeats 8000000 in
theorem Uq(aX a4 a5 a2:Int)(aU:List Int)(aD aA aE:List aa)(a3 aY aW a6:Int)(hc:aD.length+aA.length+aE.length≤524288)(ko:aA.length≤maxLen)(j0:aE.length≤maxLen)(cU:jl (⟨aX,⟨a4,a5,a2,aU⟩,aD,aA,aE,a3,aY,aW,a6⟩:aM)=true)(dV:lb (⟨aX,⟨a4,a5,a2,aU⟩,aD,aA,aE,a3,aY,aW,a6⟩:aM)=false)(aS:List aa)(hA:m8 (⟨aX,⟨a4,a5,a2,aU⟩,aD,aA,aE,a3,aY,aW,a6⟩:aM)=aS)(jb:aS.length≤1048576)(cJ:aS≠[]){oq ot ou ov ow u8 ox oy oz oA oB oC oD u16 oE oF oG oH oI oJ oK oL oM oN oO oP oQ oR oS u32 oT oU oV oW oX oY oZ o0 o1 o2 o3 o4 o5 o6 o7 o8 o9 o_ o' pb pc pd pe pf pg ph pj pk pl pn po u64 pq pr pt pw px py pz pA pB pC pD pE pF pG pH pI pJ pK pL pM pN pO pP pQ pR pS pT pU pV pW pX pY pZ p0 p1 p2 p3 p4 p5 p6 p7 p8 p9 p_ p' qa qb qc qd qe qf qg qh qi qj qk ql qm qn qo qp qq qs qt qu qv qw qx qy qz qA qB qC qD qE qF qG qH qI qJ qK qL qM qN qO qP qQ qR qS qT qU qV qW qX qY qZ q0 q1 q2 q3 q4 q5 q6 q7 q8 q9 q_ q' ra rb re rf rh ri rj rk rl rm rn rp rq rr ru rv ry rz rA rB rC rE rF rG rH rI rJ rK rL rM rN rO rP rQ rR rS rT rU rW rX rY rZ r1 r2 r3 r4 r5 r6 r7 r8 r9 r_ r' sa sb sc sd se sf sg sh si sj sk sm sn sq sr ss su sv sw sx:V} :
  codeE Tryz.prog [] (yd 6 (zF Tryz.f121)) ⟨[oq,.ptr 0 0 0,.d (.bool false),.sl 1 0 aS.length,ot,ou,ov,ow,u8,ox,oy,oz,oA,oB,oC,oD,u16,oE,oF,oG,oH,oI,oJ,oK,oL,oM,oN,oO,oP,oQ,oR,oS,u32,oT,oU,oV,oW,oX,oY,oZ,o0,o1,o2,o3,o4,o5,o6,o7,o8,o9,o_,o',pb,pc,pd,pe,pf,pg,ph,pj,pk,pl,pn,po,u64,pq,pr,pt,pw,px,py,pz,pA,pB,pC,pD,pE,pF,pG,pH,pI,pJ,pK,pL,pM,pN,pO,pP,pQ,pR,pS,pT,pU,pV,pW,pX,pY,pZ,p0,p1,p2,p3,p4,p5,p6,p7,p8,p9,p_,p',qa,qb,qc,qd,qe,qf,qg,qh,qi,qj,qk,ql,qm,qn,qo,qp,qq,qs,qt,qu,qv,qw,qx,qy,qz,qA,qB,qC,qD,qE,qF,qG,qH,qI,qJ,qK,qL,qM,qN,qO,qP,qQ,qR,qS,qT,qU,qV,qW,qX,qY,qZ,q0,q1,q2,q3,q4,q5,q6,q7,q8,q9,q_,q',ra,rb,re,rf,rh,ri,rj,rk,rl,rm,rn,rp,rq,rr,ru,rv,ry,rz,rA,rB,rC,rE,rF,rG,rH,rI,rJ,rK,rL,rM,rN,rO,rP,rQ,rR,rS,rT,rU,rW,rX,rY,rZ,r1,r2,r3,r4,r5,r6,r7,r8,r9,r_,r',sa,sb,sc,sd,se,sf,sg,sh,si,sj,sk,sm,sn,sq,sr,ss,su,sv,sw,sx],[.box [.d (.int .i64 aX),.d (.int .i64 a4),.d (.int .i64 a5),.d (.int .i64 a2),.d (.sl 1 (aU.map a')),.d (.sl 2 (aD.map aa.enc)),.d (.sl 2 (aA.map aa.enc)),.d (.sl 2 (aE.map aa.enc)),.d (.int .i64 a3),.d (.int .i64 aY),.d (.int .i64 aW),.d (.int .i64 a6)],.ao 2 (aS.map aa.enc) true]⟩ (bo (fL Tryz.prog [.tmp 2] [.one (.bool (ez (⟨aX,⟨a4,a5,a2,aU⟩,aD,aA,aE,a3,aY,aW,a6⟩:aM)))]) .mk) [] (bo (fL Tryz.prog [.tmp 2] [.one (.bool (ez (⟨aX,⟨a4,a5,a2,aU⟩,aD,aA,aE,a3,aY,aW,a6⟩:aM)))]) .mk):=by
 conv=>arg 3;whnf
 simp only[go_sem];have hp:0<aS.length:=List.length_pos_iff.2 cJ;have gA:=b4 aa.enc aS 0 hp
 try simp only[go_sem,I,gA,aa.enc,Int.toNat_zero]
 repeat'(first|((first|refine ar.intro (by first|apply zG|apply wP) ?_|with_reducible refine j9 ?_|refine en ?_|refine a9 yj (by kernel_rfl) (by rfl) ?_|refine a9 yk (by kernel_rfl) (by rfl) ?_|refine a9 wT (by kernel_rfl) (by rfl) ?_)<;>simp only[go_sem,I,gA,aa.enc,Int.toNat_zero])|(with_reducible refine aq ?_)|fail)
 refine bq (fun aC=>?_) (fun aC=>?_)
 ·simp only[go_sem];have:lP (⟨aX,⟨a4,a5,a2,aU⟩,aD,aA,aE,a3,aY,aW,a6⟩:aM)=false:=by
   simp[lP,hA,yh,nJ,hp]at aC⊢;grind
  simp[ez,dV,this]
 ·have wi:lP (⟨aX,⟨a4,a5,a2,aU⟩,aD,aA,aE,a3,aY,aW,a6⟩:aM)=true:=by
   simp[lP,hA,yh,nJ,hp]at aC⊢;grind
  exact M3 _ _ _ _ _ _ _ _ _ _ _ _ ko j0 cU dV wi _
end Gv

namespace Gv
open Go Go.Proofs
def fB:Int→List ax→Bool
 |_,[]=>true
 |bK,c::cs=>(decide (c.data≠[])&&decide (bK≤c.offset)&&decide (c.offset≤4611686018427387903-(c.data.length:Int)))&&fB (c.offset+c.data.length+1) cs
theorem wZ{bK:Int}{c:ax}{cs:List ax}(h:fB bK (c::cs)=true) :
  c.data≠[]∧bK≤c.offset∧c.offset≤4611686018427387903-(c.data.length:Int)∧fB (c.offset+c.data.length+1) cs=true:=by
 simp only[fB,Bool.and_eq_true,decide_eq_true_eq]at h;exact⟨h.1.1.1,h.1.1.2,h.1.2,h.2⟩
def fu(b:ll):Bool:=bz b.next 0 4611686018427387903&&fB b.next b.bd
def iJ(b:ll):Int:=if fu b=true then(match b.bd.getLast? with|some c=>c.offset+c.data.length|none=>b.next)else b.next
def vB(o:Int)(c:ax):Bool:=decide (0≤o)&&decide (0≤c.offset)&&decide (c.offset≤o)&&decide (o-c.offset<c.data.length)
def fC:List ax→Int→Int
 |[],_=>-1
 |c::cs,o=>if vB o c=true then((((c.data[(o-c.offset).toNat]?).getD 0).toNat:Nat):Int)else fC cs o
theorem sB:∀(cs:List ax) (bK:Int),fB bK cs=true→∀c∈cs,bK≤c.offset∧c.offset≤4611686018427387903-(c.data.length:Int)
 |[],_,_,c,hc=>by cases hc
 |d::cs,bK,h,c,hc=>by
  obtain⟨h1,h2,ak,aC⟩:=wZ h;rcases List.mem_cons.1 hc with rfl|hc
  ·exact⟨h2,ak⟩
  ·have:=sB cs _ aC c hc;omega
theorem NB:∀(cs:List ax) (bK:Int) (l:ax),fB bK cs=true→cs.getLast?=some l→∀c∈cs,c.offset+(c.data.length:Int)≤l.offset+(l.data.length:Int)
 |[],_,_,_,_,c,hc=>by cases hc
 |[d],bK,l,h,hl,c,hc=>by
  simp only[List.getLast?_singleton,Option.some.injEq]at hl;simp only[List.mem_singleton]at hc;subst hl;subst hc;omega
 |d::e::cs,bK,l,h,hl,c,hc=>by
  rw[List.getLast?_cons_cons]at hl;obtain⟨h1,h2,ak,aC⟩:=wZ h;have hr:=NB (e::cs) _ l aC hl;rcases List.mem_cons.1 hc with rfl|hc
  ·have bL:=sB _ _ aC l (List.mem_of_getLast? hl);omega
  ·exact hr c hc
theorem z1(o:Int)(c:ax):vB o c=true↔0≤o∧0≤c.offset∧c.offset≤o∧o-c.offset<c.data.length:=by
 simp only[vB,Bool.and_eq_true,decide_eq_true_eq,and_assoc]
def cellsOf(b:ll):Vc:=⟨(List.range 64).map fun j=>fC b.bd (j:Nat),b.next⟩
set_option maxRecDepth 100000
theorem Nv(o:Int)(d:List UInt8)(h:0≤o∧o≤4611686018427387903-(d.length:Int)):PureCall Tryz.prog 148 [.agg [.int .i64 o,.str d]] [.one (.int .i64 (o+d.length))]:=by
 refine aP 9 Tryz.func148 Tryz.call148 [.tmp 2] ?_;intro _;have hw:IntKind.i64.wrap (o+d.length)=o+d.length:=by rw[bE]<;>omega
 try simp only[go_sem,hw]
 all_goals simp
def wX(bK:Int)(c:ax):Bool:=decide (c.data≠[])&&decide (bK≤c.offset)&&decide (c.offset≤4611686018427387903-(c.data.length:Int))
theorem Nw(bK:Int)(xs:List ax)(i:Nat)(h:i<xs.length):fB bK (xs.drop i)=(wX bK xs[i]&&fB (xs[i].offset+xs[i].data.length+1) (xs.drop (i+1))):=by
 rw[List.drop_eq_getElem_cons h];rfl
theorem U4(xs:List ax)(o:Int)(i:Nat)(h:i<xs.length):fC (xs.drop i) o=if vB o xs[i]=true then((((xs[i].data[(o-xs[i].offset).toNat]?).getD 0).toNat:Nat):Int)else fC (xs.drop (i+1)) o:=by
 rw[List.drop_eq_getElem_cons h];rfl
theorem EG{n:Int}{xs:List ax}(h:bz n 0 4611686018427387903=true):fu ⟨n,xs⟩=fB n xs:=by
 show(bz n 0 4611686018427387903&&fB n xs)=_;rw[h];rfl
theorem Iv{n:Int}{xs:List ax}(h:bz n 0 4611686018427387903=false):fu ⟨n,xs⟩=false:=by
 show(bz n 0 4611686018427387903&&fB n xs)=_;rw[h];rfl
theorem Iw(bK:Int)(c:ax):wX bK c=true↔c.data≠[]∧bK≤c.offset∧c.offset≤4611686018427387903-(c.data.length:Int):=by
 simp only[wX,Bool.and_eq_true,decide_eq_true_eq,and_assoc]
theorem U5(d:List UInt8):decide ((d.length:Int)=0)=decide (d=[]):=by cases d<;>simp;omega
theorem vC(n:Int)(xs:List ax)(hb:∀c∈xs,c.data.length≤1048576)(hx:xs.length≤1048576):PureCall Tryz.prog 105 [.agg [.int .i64 n,.sl 2 (xs.map ax.enc)]] [.one (.bool (fu ⟨n,xs⟩))]:=by
 refine aP 42 Tryz.func105 Tryz.call105 [.tmp 2] ?_;intro ok;simp only[go_sem];refine af.intro (tw n) ?_;simp only[bM];simp only[go_sem];refine bq (fun h0=>?_) (fun h0=>?_)
 ·have hq:bz n 0 4611686018427387903=false:=by simpa using h0
  simp only[go_sem];rw[Iv hq]
 ·have hq:bz n 0 4611686018427387903=true:=by simpa using h0
  have BT:0≤n∧n≤4611686018427387903:=by simpa [bz]using hq
  simp only[go_sem,I];refine b9.intro (fun p:Nat×Int=>⟨(.ab::.ptr 0 0 0::.d (.bool false)::.d (.int .i64 p.2)::aF 9 (.d (.sl 2 (xs.map ax.enc))::.d (.int .i64 xs.length)::.d (.int .i64 p.1)::aF 26 [])),[.box [.d (.int .i64 n),.d (.sl 2 (xs.map ax.enc))]]⟩)
   (fun p=>xs.length-p.1) (fun p=>p.1≤xs.length∧0≤p.2∧p.2≤4611686018427387904∧fB p.2 (xs.drop p.1)=fB n xs) (0,n) [0] ⟨by simp,by omega,by omega,rfl⟩ ?_ ?_
  ·simp only[go_sem];simp
  ·rintro⟨i,bK⟩ ⟨hi,wY,U6,he⟩;simp only at hi wY U6 he;simp only[go_sem];refine bq (fun h1=>?_) (fun h1=>?_)
   ·have au:=cl h1;have hlt:i<xs.length:=by omega
    have aB:=b4 ax.enc xs i hlt;have hw:=dE (i:=i) (m:=xs.length) hlt (by simp only[maxLen];omega);have sA:=hb xs[i] (List.getElem_mem hlt);have mx:IntKind.i64.wrap (4611686018427387903-(xs[i].data.length:Int))=4611686018427387903-(xs[i].data.length:Int):=by rw[bE]<;>omega
    have nO:=Nw bK xs i hlt;by_cases hok:wX bK xs[i]=true
    ·rw[hok,Bool.true_and]at nO;obtain⟨d4,fD,f3⟩:=(Iw _ _).1 hok;have hne:xs[i].data.length≠0:=by simpa using d4
     have ai:decide ((xs[i].data.length:Int)=0)=false:=bb (by omega);have aj:decide (xs[i].offset<bK)=false:=bb (by omega);have aT:decide (4611686018427387903-(xs[i].data.length:Int)<xs[i].offset)=false:=bb (by omega);have uq:IntKind.i64.wrap (xs[i].offset+(xs[i].data.length:Int)+1)=xs[i].offset+(xs[i].data.length:Int)+1:=by rw[bE]<;>omega
     have Nx:0≤xs[i].offset∧xs[i].offset≤4611686018427387903-(xs[i].data.length:Int):=⟨by omega,by omega⟩
     try simp only[go_sem,I,aJ,aB,ax.enc,ai]
     repeat'(first|((first|refine af.intro (by(apply Nv<;>first|assumption|omega)) ?_|with_reducible refine ct ?_)<;>simp only[go_sem,mx,aj,aT])|(with_reducible refine aq ?_)|fail)
     all_goals(refine bu.intro (i+1,xs[i].offset+(xs[i].data.length:Int)+1) [0] ⟨by simp only;omega,by simp only;omega,by simp only;omega,by rw[←he,nO]⟩ (by simp only;omega) ?_;simp only[go_sem,hw,uq];try simp)
    ·have U7:wX bK xs[i]=false:=by simpa using hok
     rw[U7,Bool.false_and]at nO;have hz:(bif bif decide ((xs[i].data.length:Int)=0)then true else decide (xs[i].offset<bK)then true else decide (4611686018427387903-(xs[i].data.length:Int)<xs[i].offset))=true:=by
      rw[U5];by_cases cC:xs[i].data=[]
      ·simp[cC]
      ·by_cases cT:xs[i].offset<bK
       ·simp[cC,cT]
       ·by_cases eI:4611686018427387903-(xs[i].data.length:Int)<xs[i].offset
        ·simp[eI]
        ·exact absurd ((Iw _ _).2 ⟨cC,by omega,by omega⟩) hok
     try simp only[go_sem,I,aJ,aB,ax.enc]
     repeat'(first|(refine a8 ?_<;>simp only[go_sem,mx,hz])|(with_reducible refine aq ?_)|fail)
     all_goals(rw[EG hq,←he,nO])
   ·have au:=cG h1;have gY:i=xs.length:=by omega
    subst gY;simp only[go_sem];rw[EG hq,←he,List.drop_length];rfl
theorem na(n:Int)(xs:List ax)(hb:∀c∈xs,c.data.length≤1048576)(hx:xs.length≤1048576):PureCall Tryz.prog 84 [.agg [.int .i64 n,.sl 2 (xs.map ax.enc)]] [.one (.bool (fu ⟨n,xs⟩))]:=by
 refine aP 48 Tryz.func84 Tryz.call84 [.tmp 2] ?_;intro ok;simp only[go_sem];have tx:bz n 0 4611686018427387903=true→0≤n∧n≤4611686018427387903:=fun h=>by simpa [bz]using h
 have U8:bz n 0 4611686018427387903=true→-1≤IntKind.i64.wrap (n-1)∧IntKind.i64.wrap (n-1)≤4611686018427387903∧fB (IntKind.i64.wrap (n-1)+1) (xs.drop 0)=fB n xs:=by
  intro hq;have:=tx hq;have z0:IntKind.i64.wrap (n-1)=n-1:=by rw[bE]<;>omega
  rw[z0];exact⟨by omega,by omega,by rw[show n-1+1=n from by omega,List.drop_zero]⟩
 refine b9.intro (fun p:Nat×Int=>⟨(.ab::.ptr 0 0 0::.d (.bool false)::.d (.int .i64 p.2)::.d (.int .i64 p.1)::aF 43 []),[.box [.d (.int .i64 n),.d (.sl 2 (xs.map ax.enc))]]⟩)
   (fun p=>xs.length-p.1) (fun p=>p.1≤xs.length∧(bz n 0 4611686018427387903=true→-1≤p.2∧p.2≤4611686018427387903∧fB (p.2+1) (xs.drop p.1)=fB n xs)) (0,IntKind.i64.wrap (n-1)) [0] ⟨by simp,U8⟩ ?_ ?_
 ·simp only[go_sem];simp
 ·rintro⟨i,e⟩ ⟨hi,hq⟩;simp only at hi hq;simp only[go_sem,I];refine bq (fun h1=>?_) (fun h1=>?_)
  ·have au:=cl h1;have hlt:i<xs.length:=by omega
   have aB:=b4 ax.enc xs i hlt;have hw:=dE (i:=i) (m:=xs.length) hlt (by simp only[maxLen];omega);have sA:=hb xs[i] (List.getElem_mem hlt);have mx:IntKind.i64.wrap (4611686018427387903-(xs[i].data.length:Int))=4611686018427387903-(xs[i].data.length:Int):=by rw[bE]<;>omega
   have nO:=Nw (e+1) xs i hlt;have hz:(bif bif decide (xs[i].offset≤e)then true else decide (xs[i].data=[])then true else decide (4611686018427387903-(xs[i].data.length:Int)<xs[i].offset))=!wX (e+1) xs[i]:=by
    have Ix:decide (e+1≤xs[i].offset)=!decide (xs[i].offset≤e):=by by_cases g:xs[i].offset≤e<;>simp[g]<;>omega
    have U9:decide (xs[i].data≠[])=!decide (xs[i].data=[]):=by simp
    have U_:decide (xs[i].offset≤4611686018427387903-(xs[i].data.length:Int))=!decide (4611686018427387903-(xs[i].data.length:Int)<xs[i].offset):=by by_cases g:4611686018427387903-(xs[i].data.length:Int)<xs[i].offset<;>simp[g]<;>omega
    unfold wX;rw[Ix,U9,U_]
    cases decide (xs[i].offset≤e)<;>cases decide (xs[i].data=[])<;>cases decide (4611686018427387903-(xs[i].data.length:Int)<xs[i].offset)<;>rfl
   cases hok:wX (e+1) xs[i]with
   |true=>
    rw[hok]at hz nO;simp only[Bool.true_and,Bool.not_true]at hz nO;obtain⟨d4,fD,f3⟩:=(Iw _ _).1 hok
    try simp only[go_sem,I,aJ,aB,ax.enc]
    repeat'(first|(refine a8 ?_<;>simp only[go_sem,mx,hz])|(with_reducible refine aq ?_)|fail)
    all_goals(refine bu.intro (i+1,IntKind.i64.wrap (xs[i].offset+(xs[i].data.length:Int))) [0] ⟨by simp only;omega,fun ur=>?_⟩ (by simp only;omega) ?_)
    all_goals first
     |(simp only[go_sem,hw];done)
     |(simp only[go_sem,hw];simp;done)
     |(obtain⟨EH,yx,he⟩:=hq ur;have kP:IntKind.i64.wrap (xs[i].offset+(xs[i].data.length:Int))=xs[i].offset+(xs[i].data.length:Int):=(by rw[bE]<;>omega);simp only[kP];exact⟨by omega,by omega,by rw[←he,nO]⟩)
   |false=>
    rw[hok]at hz nO;simp only[Bool.false_and,Bool.not_false]at hz nO
    try simp only[go_sem,I,aJ,aB,ax.enc]
    repeat'(first|(refine a8 ?_<;>simp only[go_sem,mx,hz])|(with_reducible refine aq ?_)|fail)
    all_goals(cases ur:bz n 0 4611686018427387903 with|false=>rw[Iv ur]|true=>rw[EG ur,←(hq ur).2.2,nO])
  ·have au:=cG h1;have gY:i=xs.length:=by omega
   subst gY;simp only[go_sem];refine af.intro (gZ n) ?_;simp only[bM];simp only[go_sem]
   cases ur:bz n 0 4611686018427387903 with
   |false=>rw[Iv ur]
   |true=>rw[EG ur,←(hq ur).2.2,List.drop_length];rfl
theorem Ny(n:Int)(xs:List ax)(hb:∀c∈xs,c.data.length≤1048576)(hx:xs.length≤1048576):PureCall Tryz.prog 106 [.agg [.int .i64 n,.sl 2 (xs.map ax.enc)]] [.one (.int .i64 (iJ ⟨n,xs⟩))]:=by
 refine aP 23 Tryz.func106 Tryz.call106 [.tmp 2] ?_;intro ok
 cases aO:fu ⟨n,xs⟩with
 |false=>
  have nP:∀b:Bool,(bif b then true else true)=true:=fun b=>by cases b<;>rfl
  try simp only[go_sem]
  repeat'((first|refine af.intro (by(apply vC<;>first|assumption|omega)) ?_|with_reducible refine dC ?_)<;>simp only[go_sem,aO])
  all_goals simp[iJ,aO]
 |true=>
  cases kQ:xs with
  |nil=>
   rw[←kQ];have ai:decide ((xs.length:Int)=0)=true:=by rw[kQ];rfl
   have jv:xs.getLast?=none:=by rw[kQ];rfl
   try simp only[go_sem]
   repeat'((first|refine af.intro (by(apply vC<;>first|assumption|omega)) ?_|with_reducible refine ct ?_)<;>simp only[go_sem,I,aO,ai])
   all_goals simp[iJ,aO,jv]
  |cons U' Va=>
   rw[←kQ];have eB:0<xs.length:=by rw[kQ];simp
   obtain⟨m,hm⟩:∃m,xs.length=m+1:=⟨xs.length-1,by omega⟩;have hlt:m<xs.length:=by omega
   have aB:=b4 ax.enc xs m hlt;have hl:xs.getLast?=some xs[m]:=by rw[List.getLast?_eq_getElem?,hm,Nat.add_sub_cancel,dk]
   have ai:decide ((xs.length:Int)=0)=false:=bb (by omega);have hw:IntKind.i64.wrap ((xs.length:Int)-1)=(m:Int):=by rw[bE]<;>omega
   have hq:=aO;have Iy:0≤n∧fB n xs=true:=by
    simp only[fu,Bool.and_eq_true,bz,decide_eq_true_eq]at hq;exact⟨hq.1.1,hq.2⟩
   have hc:=sB xs n Iy.2 xs[m] (List.getElem_mem hlt);have Nx:0≤xs[m].offset∧xs[m].offset≤4611686018427387903-(xs[m].data.length:Int):=⟨by omega,hc.2⟩;have uq:IntKind.i64.wrap (xs[m].offset+(xs[m].data.length:Int))=xs[m].offset+(xs[m].data.length:Int):=by rw[bE]<;>omega
   try simp only[go_sem]
   repeat'(first|((first|refine af.intro (by first|(apply vC<;>first|assumption|omega)|(apply Nv<;>first|assumption|omega)) ?_|with_reducible refine ct ?_)<;>simp only[go_sem,I,aJ,aB,ax.enc,aO,ai,hw])|(with_reducible refine aq ?_)|fail)
   all_goals simp[iJ,aO,hl]
theorem Nz(n:Int)(xs:List ax)(hb:∀c∈xs,c.data.length≤1048576)(hx:xs.length≤1048576):PureCall Tryz.prog 85 [.agg [.int .i64 n,.sl 2 (xs.map ax.enc)]] [.one (.int .i64 (iJ ⟨n,xs⟩))]:=by
 refine aP 29 Tryz.func85 Tryz.call85 [.tmp 2] ?_;intro ok
 cases aO:fu ⟨n,xs⟩with
 |false=>
  have nP:∀b:Bool,(bif b then true else true)=true:=fun b=>by cases b<;>rfl
  try simp only[go_sem,I]
  repeat'((first|refine ar.intro (by(apply na<;>first|assumption|omega)) ?_|refine a8 ?_)<;>simp only[go_sem,aO,nP])
  all_goals simp[iJ,aO]
 |true=>
  cases kQ:xs with
  |nil=>
   rw[←kQ];have ai:decide ((xs.length:Int)=0)=true:=by rw[kQ];rfl
   have jv:xs.getLast?=none:=by rw[kQ];rfl
   try simp only[go_sem,I,ai]
   repeat'(first|(with_reducible refine dC ?_<;>simp only[go_sem]))
   all_goals simp[iJ,aO,jv]
  |cons U' Va=>
   rw[←kQ];have eB:0<xs.length:=by rw[kQ];simp
   obtain⟨m,hm⟩:∃m,xs.length=m+1:=⟨xs.length-1,by omega⟩;have hlt:m<xs.length:=by omega
   have aB:=b4 ax.enc xs m hlt;have hl:xs.getLast?=some xs[m]:=by rw[List.getLast?_eq_getElem?,hm,Nat.add_sub_cancel,dk]
   have ai:decide ((xs.length:Int)=0)=false:=bb (by omega);have hw:IntKind.i64.wrap ((xs.length:Int)-1)=(m:Int):=by rw[bE]<;>omega
   have hq:=aO;have Iy:0≤n∧fB n xs=true:=by
    simp only[fu,Bool.and_eq_true,bz,decide_eq_true_eq]at hq;exact⟨hq.1.1,hq.2⟩
   have hc:=sB xs n Iy.2 xs[m] (List.getElem_mem hlt);have Nx:0≤xs[m].offset∧xs[m].offset≤4611686018427387903-(xs[m].data.length:Int):=⟨by omega,hc.2⟩;have uq:IntKind.i64.wrap (xs[m].offset+(xs[m].data.length:Int))=xs[m].offset+(xs[m].data.length:Int):=by rw[bE]<;>omega
   try simp only[go_sem,I,ai]
   repeat'(first|((first|refine af.intro (by(apply na<;>first|assumption|omega)) ?_|with_reducible refine ct ?_)<;>simp only[go_sem,I,aJ,aB,ax.enc,aO,hw,uq])|(with_reducible refine aq ?_)|fail)
   all_goals simp[iJ,aO,hl]
theorem NA(n:Int)(xs:List ax)(o:Int)(hb:∀c∈xs,c.data.length≤1048576)(hx:xs.length≤1048576):PureCall Tryz.prog 265 [.agg [.int .i64 n,.sl 2 (xs.map ax.enc)],.one (.int .i64 o)] [.one (.int .i64 (fC xs o))]:=by
 refine aP 57 Tryz.func265 Tryz.call265 [.tmp 4] ?_;intro ok;have az:=BU ok.2.1;simp only[go_sem];refine b9.intro (fun i:Nat=>⟨(.ab::.d (.int .i64 o)::.ptr 0 0 0::.ab::.d (.int .i64 0)::.d (.int .i64 i)::aF 51 []),[.box [.d (.int .i64 n),.d (.sl 2 (xs.map ax.enc))]]⟩)
   (fun i=>xs.length-i) (fun i=>i≤xs.length∧fC (xs.drop i) o=fC xs o) 0 [0] ⟨by omega,rfl⟩ ?_ ?_
 ·simp only[go_sem];simp
 ·rintro i ⟨hi,he⟩;simp only[go_sem,I];refine bq (fun h1=>?_) (fun h1=>?_)
  ·have au:=cl h1;have hlt:i<xs.length:=by omega
   have aB:=b4 ax.enc xs i hlt;have hw:=dE (i:=i) (m:=xs.length) hlt (by simp only[maxLen];omega);have sA:=hb xs[i] (List.getElem_mem hlt);have BV:=U4 xs o i hlt;by_cases hh:vB o xs[i]=true
   ·rw[if_pos hh]at BV;obtain⟨d4,fD,f3,yy⟩:=(z1 _ _).1 hh;obtain⟨k,hk⟩:=Int.eq_ofNat_of_zero_le (show 0≤o-xs[i].offset by omega);have vD:IntKind.i64.wrap (o-xs[i].offset)=(k:Int):=by rw[bE]<;>omega
    have nQ:k<xs[i].data.length:=by omega
    have Iz:xs[i].data[k]?=some xs[i].data[k]:=dk nQ;have z2:IntKind.i64.wrap ((xs[i].data[k].toNat:Nat):Int)=((xs[i].data[k].toNat:Nat):Int):=by have:=xs[i].data[k].toNat_lt;rw[bE]<;>omega
    have ai:decide (0≤o)=true:=bk d4;have aj:decide (0≤xs[i].offset)=true:=bk fD;have aT:decide ((0:Int)≤(k:Int))=true:=bk (by omega);have bj:decide ((k:Int)<(xs[i].data.length:Int))=true:=bk (by omega);rw[hk,aJ,Iz,Option.getD_some]at BV
    try simp only[go_sem,I,aJ,aB,ax.enc,vD,ai,Option.getD_some]
    repeat'(first|(with_reducible refine ct ?_<;>simp only[go_sem,I,aJ,aB,ax.enc,aj,aT,bj,Iz,z2,Option.getD_some])|(with_reducible refine aq ?_)|fail)
    all_goals(rw[←he,BV])
   ·rw[if_neg hh]at BV;have hz:(bif bif bif decide (0≤o)then decide (0≤xs[i].offset)else false then decide (0≤IntKind.i64.wrap (o-xs[i].offset))else false then decide (IntKind.i64.wrap (o-xs[i].offset)<(xs[i].data.length:Int))else false)=false:=by
     by_cases cC:0≤o
     ·by_cases cT:0≤xs[i].offset
      ·have adW:=BU (n:=o-xs[i].offset) (by
        have h1:IntKind.i64.min=-9223372036854775808:=by decide
        have h2:IntKind.i64.max=9223372036854775807:=by decide
        have ak:=IA ok.1.2.1.2 _ (List.mem_map.2 ⟨xs[i],List.getElem_mem hlt,rfl⟩);have aC:=BU ak.1;simp only[dOk,h1,h2];omega)
       have vD:IntKind.i64.wrap (o-xs[i].offset)=o-xs[i].offset:=by rw[bE]<;>omega
       rw[vD];by_cases eI:0≤o-xs[i].offset
       ·have kq:¬o-xs[i].offset<(xs[i].data.length:Int):=fun kq=>hh ((z1 _ _).2 ⟨cC,cT,by omega,kq⟩);simp[kq]
       ·simp[show ¬xs[i].offset≤o from by omega]
      ·simp[cT]
     ·simp[cC]
    try simp only[go_sem,I,aJ,aB,ax.enc]
    repeat'(first|(refine a8 ?_<;>simp only[go_sem,I,aJ,aB,ax.enc,hz])|(with_reducible refine aq ?_)|fail)
    all_goals(refine bu.intro (i+1) [0] ⟨by omega,by rw[←he,BV]⟩ (by omega) ?_;simp only[go_sem,hw];try simp)
  ·have au:=cG h1;have gY:i=xs.length:=by omega
   subst gY;simp only[go_sem];rw[←he,List.drop_length];rfl
set_option maxRecDepth 100000
def vE:List (List bt):=cE 19 [1162261466,1162261464,1162261458,1162261440,1162261386,1162261224,1162260738,1162259280,1162254906,1162241784,1104806790,1104688692,1104334398,1103271516,1100082870,1155057489,1126359675,1033121304,774840978]
attribute [go_sem] vE
def yz(n:Int):List ax→Nat
 |[]=>0
 |c::_=>if c.offset=n then c.data.length else 0
def d5(n:Int)(xs:List ax):Nat:=if fu ⟨n,xs⟩=true then yz n xs else 0
def j8(xs:List ax):List aa:=xs.map fun c=>⟨c.offset,c.offset+c.data.length⟩
def z3(n:Int)(xs:List ax):List aa:=if fu ⟨n,xs⟩=true then j8 xs else []
theorem Vb(n:Int)(xs:List ax)(hb:∀c∈xs,c.data.length≤1048576)(hx:xs.length≤1048576):PureCall Tryz.prog 108 [.agg [.int .i64 n,.sl 2 (xs.map ax.enc)]] [.one (.int .i64 (d5 n xs))]:=by
 refine aP 28 Tryz.func108 Tryz.call108 [.tmp 2] ?_;intro ok
 cases aO:fu ⟨n,xs⟩with
 |false=>
  try simp only[go_sem]
  repeat'((first|refine ar.intro (by(apply vC<;>first|assumption|omega)) ?_|with_reducible refine j9 ?_|refine a9 vE (by kernel_rfl) (by rfl) ?_)<;>simp only[go_sem,aO])
  all_goals simp[d5,aO]
 |true=>
  by_cases hl:xs.length=0
  ·have ai:decide ((xs.length:Int)=0)=true:=bk (by omega)
   try simp only[go_sem]
   repeat'((first|refine ar.intro (by(apply vC<;>first|assumption|omega)) ?_|with_reducible refine lk ?_|with_reducible refine j9 ?_|refine a9 vE (by kernel_rfl) (by rfl) ?_)<;>simp only[go_sem,I,aO,ai])
   all_goals simp[d5,yz,List.length_eq_zero_iff.1 hl]
  ·have hlt:0<xs.length:=by omega
   have ai:decide ((xs.length:Int)=0)=false:=bb (by omega);have aB:=b4 ax.enc xs 0 hlt;have hr:d5 n xs=if xs[0].offset=n then xs[0].data.length else 0:=by
    unfold d5;rw[if_pos aO]
    cases xs with
    |nil=>exact absurd rfl hl
    |cons c cs=>rfl
   by_cases hc:xs[0].offset=n
   ·have aj:decide (xs[0].offset≠n)=false:=bb (by simpa using hc)
    try simp only[go_sem]
    repeat'(first|((first|refine ar.intro (by(apply vC<;>first|assumption|omega)) ?_|with_reducible refine lk ?_|refine a9 vE (by kernel_rfl) (by rfl) ?_)<;>simp only[go_sem,I,aO,aB,ax.enc,ai,aj,Int.toNat_zero])|(with_reducible refine aq ?_)|fail)
    all_goals simp[hr,hc]
   ·have aj:decide (xs[0].offset≠n)=true:=bk hc
    try simp only[go_sem]
    repeat'(first|((first|refine ar.intro (by(apply vC<;>first|assumption|omega)) ?_|with_reducible refine lk ?_|refine a9 vE (by kernel_rfl) (by rfl) ?_)<;>simp only[go_sem,I,aO,aB,ax.enc,ai,aj,Int.toNat_zero])|(with_reducible refine aq ?_)|fail)
    all_goals simp[hr,hc]
theorem BW(n:Int)(xs:List ax)(hb:∀c∈xs,c.data.length≤1048576)(hx:xs.length≤1048576):PureCall Tryz.prog 86 [.agg [.int .i64 n,.sl 2 (xs.map ax.enc)]] [.one (.int .i64 (d5 n xs))]:=by
 refine aP 28 Tryz.func86 Tryz.call86 [.tmp 2] ?_;intro ok
 cases aO:fu ⟨n,xs⟩with
 |false=>
  try simp only[go_sem]
  repeat'((first|refine ar.intro (by(apply na<;>first|assumption|omega)) ?_|with_reducible refine j9 ?_|refine a9 vE (by kernel_rfl) (by rfl) ?_)<;>simp only[go_sem,aO])
  all_goals simp[d5,aO]
 |true=>
  by_cases hl:xs.length=0
  ·have ai:decide ((xs.length:Int)=0)=true:=bk (by omega)
   try simp only[go_sem]
   repeat'((first|refine ar.intro (by(apply na<;>first|assumption|omega)) ?_|with_reducible refine lk ?_|with_reducible refine j9 ?_|refine a9 vE (by kernel_rfl) (by rfl) ?_)<;>simp only[go_sem,I,aO,ai])
   all_goals simp[d5,yz,List.length_eq_zero_iff.1 hl]
  ·have hlt:0<xs.length:=by omega
   have ai:decide ((xs.length:Int)=0)=false:=bb (by omega);have aB:=b4 ax.enc xs 0 hlt;have hr:d5 n xs=if xs[0].offset=n then xs[0].data.length else 0:=by
    unfold d5;rw[if_pos aO]
    cases xs with
    |nil=>exact absurd rfl hl
    |cons c cs=>rfl
   by_cases hc:xs[0].offset=n
   ·have aj:decide (xs[0].offset≠n)=false:=bb (by simpa using hc)
    try simp only[go_sem]
    repeat'(first|((first|refine ar.intro (by(apply na<;>first|assumption|omega)) ?_|with_reducible refine lk ?_|refine a9 vE (by kernel_rfl) (by rfl) ?_)<;>simp only[go_sem,I,aO,aB,ax.enc,ai,aj,Int.toNat_zero])|(with_reducible refine aq ?_)|fail)
    all_goals simp[hr,hc]
   ·have aj:decide (xs[0].offset≠n)=true:=bk hc
    try simp only[go_sem]
    repeat'(first|((first|refine ar.intro (by(apply na<;>first|assumption|omega)) ?_|with_reducible refine lk ?_|refine a9 vE (by kernel_rfl) (by rfl) ?_)<;>simp only[go_sem,I,aO,aB,ax.enc,ai,aj,Int.toNat_zero])|(with_reducible refine aq ?_)|fail)
    all_goals simp[hr,hc]
set_option maxRecDepth 100000
def NI:List (List bt):=cE 9 [18917,18915,16654,18940,18882,16524,19318,17748,13122]
def NJ:List (List bt):=cE 14 [4517252,4517250,4694431,4694413,4763245,4763083,4762597,4761139,4756765,4773127,4723960,4605826,4251528,3188646]
def alC:List (List bt):=cE 10 [55772,55770,57991,57973,58765,58927,58360,56866,52488,39366]
def alD:List (List bt):=cE 6 [698,700,693,634,675,486]
attribute [go_sem] NI NJ alC alD
def eR(n:Int)(xs:List ax)(most:Int):Nat:=min (d5 n xs) most.toNat
def EJ(xs:List ax):List UInt8:=(xs.getD 0 ⟨0,[]⟩).data
def sD(n:Int)(xs:List ax)(most:Int):List UInt8:=(EJ xs).take (eR n xs most)
def fE(n:Int)(xs:List ax)(most:Int):List ax:=
 if eR n xs most=0 then xs else if eR n xs most=(EJ xs).length then xs.drop 1 else⟨n+eR n xs most,(EJ xs).drop (eR n xs most)⟩::xs.drop 1
theorem yA{n:Int}{xs:List ax}(h:d5 n xs≠0):fu ⟨n,xs⟩=true∧∃hl:0<xs.length,xs[0].offset=n∧d5 n xs=xs[0].data.length∧EJ xs=xs[0].data:=by
 unfold d5 at h⊢;by_cases aO:fu ⟨n,xs⟩=true
 ·rw[if_pos aO]at h⊢
  cases xs with
  |nil=>exact absurd rfl h
  |cons c cs=>
   simp only[yz]at h⊢;by_cases hc:c.offset=n
   ·rw[if_pos hc];exact⟨aO,by simp,hc,rfl,rfl⟩
   ·rw[if_neg hc]at h;exact absurd rfl h
 ·rw[if_neg aO]at h;exact absurd rfl h
theorem w2{n:Int}{xs:List ax}(h:fu ⟨n,xs⟩=true):0≤n∧n≤4611686018427387903∧fB n xs=true:=by
 simp only[fu,Bool.and_eq_true,bz,decide_eq_true_eq]at h;exact⟨h.1.1,h.1.2,h.2⟩
theorem NK{α β:Type}(f:α→β)(xs:List α)(y:β)(h:0<xs.length):(xs.map f).set 0 y=y::(xs.drop 1).map f:=by
 cases xs with
 |nil=>simp at h
 |cons x xs=>rfl
theorem Vj(n:Int)(xs:List ax)(most:Int)(hb:∀c∈xs,c.data.length≤1048576)(hx:xs.length≤1048576):PureCall Tryz.prog 66 [.agg [.int .i64 n,.sl 2 (xs.map ax.enc)],.one (.int .i64 most)] [.one (.str (sD n xs most)),.agg [.int .i64 (n+eR n xs most),.sl 2 ((fE n xs most).map ax.enc)]]:=by
 refine aP 57 Tryz.func66 Tryz.call66 [.tmp 4,.cell 5 51] ?_;intro ok;have w4:xs.length≤1048577:=by omega
 cases hk:eR n xs most with
 |zero=>
  have hm:decide ((if(d5 n xs:Int)<most then(d5 n xs:Int)else most)≤0)=true:=by
   refine bk ?_;unfold eR at hk;split<;>omega
  try simp only[go_sem]
  repeat'(first|((first|refine ar.intro (by first|(apply alB<;>first|assumption|omega)|(apply Vb<;>first|assumption|omega)) ?_|refine a9 NI (by kernel_rfl) (by rfl) ?_|refine a9 [[.post,.cY,.post],[.cY,.post,.post],[.pre,.pre,.post]] (by kernel_rfl) (by rfl) ?_)<;>simp only[go_sem,I,hm])|(with_reducible refine aq ?_)|fail)
  all_goals simp[sD,fE,hk]
 |succ k=>
  have hr:d5 n xs≠0:=by unfold eR at hk;omega
  obtain⟨aO,hlt,az,ja,nR⟩:=yA hr;obtain⟨tx,lX,hc⟩:=w2 aO;have hm:(if(d5 n xs:Int)<most then(d5 n xs:Int)else most)=((k+1:Nat):Int):=by
   unfold eR at hk;split<;>omega
  have w5:decide (((k+1:Nat):Int)≤0)=false:=bb (by omega);have aB:=b4 ax.enc xs 0 hlt;have sA:=hb xs[0] (List.getElem_mem hlt);have nQ:k+1≤xs[0].data.length:=by unfold eR at hk;omega
  have w3:=sB xs n hc xs[0] (List.getElem_mem hlt);have hw:IntKind.i64.wrap (n+((k+1:Nat):Int))=n+((k+1:Nat):Int):=by rw[bE]<;>omega
  have sE:xs[0].data.take (k+1)=sD n xs most:=by unfold sD;rw[nR,hk]
  by_cases hq:k+1=xs[0].data.length
  ·have ai:decide (((k+1:Nat):Int)=(xs[0].data.length:Int))=true:=bk (by omega);have cJ:fE n xs most=xs.drop 1:=by unfold fE;rw[hk,nR,if_neg (by omega),if_pos hq]
   try simp only[go_sem]
   repeat'(first|((first|refine ar.intro (by first|(apply alB<;>first|assumption|omega)|(apply Vb<;>first|assumption|omega)) ?_|refine a9 NI (by kernel_rfl) (by rfl) ?_|refine a9 [[.post,.cY,.post,.post],[.cY,.post,.cY,.post],[.pre,.cY,.post,.post],[.pre,.pre,.pre,.post]] (by kernel_rfl) (by rfl) ?_)<;>simp only[go_sem,I,hm,w5,aB,ax.enc,Int.toNat_zero,aJ,hw,ai])|(with_reducible refine aq ?_)|fail)
   all_goals(
    have aR:1+(xs.length-1)≤xs.length:=by omega
    have ht:List.take (xs.length-1) (List.drop 1 (List.map ax.enc xs))=(xs.drop 1).map ax.enc:=by
     rw[List.take_of_length_le (by simp),List.map_drop]
    rw[if_pos aR,ht,Nat.sub_zero,sE,cJ];simp[outOA])
  ·have ai:decide (((k+1:Nat):Int)=(xs[0].data.length:Int))=false:=bb (by omega);have cJ:fE n xs most=⟨n+((k+1:Nat):Int),xs[0].data.drop (k+1)⟩::xs.drop 1:=by unfold fE;rw[hk,nR,if_neg (by omega),if_neg hq]
   try simp only[go_sem]
   repeat'(first|((first|refine ar.intro (by first|(apply alB<;>first|assumption|omega)|(apply Vb<;>first|assumption|omega)) ?_|refine a9 NI (by kernel_rfl) (by rfl) ?_|refine a9 NJ (by kernel_rfl) (by rfl) ?_|refine a9 [[.post,.cY,.post,.post],[.cY,.post,.cY,.post],[.pre,.cY,.post,.post],[.pre,.pre,.pre,.post]] (by kernel_rfl) (by rfl) ?_)<;>simp only[go_sem,I,hm,w5,aB,ax.enc,Int.toNat_zero,aJ,hw,ai])|(with_reducible refine aq ?_)|fail)
   all_goals(
    have IF:List.take (xs[0].data.length-(k+1)) (List.drop (k+1) xs[0].data)=List.drop (k+1) xs[0].data:=List.take_of_length_le (by simp);rw[IF,NK ax.enc xs _ hlt];have jv:xs.length=(([D.int .i64 (n+((k+1:Nat):Int)),D.str (List.drop (k+1) xs[0].data)]:List D)::(xs.drop 1).map ax.enc).length:=by simp;omega
    rw[if_pos (Nat.le_of_eq jv),List.take_of_length_le (Nat.le_of_eq jv.symm),Nat.sub_zero,sE,cJ];simp[outOA,ax.enc])
theorem Vk(n:Int)(xs:List ax)(most:Int)(hb:∀c∈xs,c.data.length≤1048576)(hx:xs.length≤1048576):PureCall Tryz.prog 44 [.agg [.int .i64 n,.sl 2 (xs.map ax.enc)],.one (.int .i64 most)] [.one (.str (sD n xs most)),.agg [.int .i64 (n+eR n xs most),.sl 2 ((fE n xs most).map ax.enc)]]:=by
 refine aP 53 Tryz.func44 Tryz.call44 [.tmp 4,.cell 5 51] ?_;intro ok;have w4:xs.length≤1048577:=by omega
 cases hk:eR n xs most with
 |zero=>
  have hm:(if(if most<0 then 0 else most)<(d5 n xs:Int)then(if most<0 then 0 else most)else(d5 n xs:Int))=0:=by
   unfold eR at hk;split<;>split<;>omega
  try simp only[go_sem]
  repeat'(first|((first|refine af.intro (by first|(apply BW<;>first|assumption|omega)|(apply w6<;>first|assumption|omega)) ?_|refine a9 [[.post,.cY,.post],[.cY,.post,.post],[.pre,.pre,.post]] (by kernel_rfl) (by rfl) ?_)<;>simp only[go_sem,I,hm])|(with_reducible refine aq ?_)|fail)
  all_goals simp[sD,fE,hk]
 |succ k=>
  have hr:d5 n xs≠0:=by unfold eR at hk;omega
  obtain⟨aO,hlt,az,ja,nR⟩:=yA hr;obtain⟨tx,lX,hc⟩:=w2 aO;have hm:(if(if most<0 then 0 else most)<(d5 n xs:Int)then(if most<0 then 0 else most)else(d5 n xs:Int))=((k+1:Nat):Int):=by
   unfold eR at hk;split<;>split<;>omega
  have w5:decide (((k+1:Nat):Int)=0)=false:=bb (by omega);have aB:=b4 ax.enc xs 0 hlt;have sA:=hb xs[0] (List.getElem_mem hlt);have nQ:k+1≤xs[0].data.length:=by unfold eR at hk;omega
  have w3:=sB xs n hc xs[0] (List.getElem_mem hlt);have hw:IntKind.i64.wrap (n+((k+1:Nat):Int))=n+((k+1:Nat):Int):=by rw[bE]<;>omega
  have sE:xs[0].data.take (k+1)=sD n xs most:=by unfold sD;rw[nR,hk]
  by_cases hq:k+1=xs[0].data.length
  ·have ai:decide (((k+1:Nat):Int)=(xs[0].data.length:Int))=true:=bk (by omega);have cJ:fE n xs most=xs.drop 1:=by unfold fE;rw[hk,nR,if_neg (by omega),if_pos hq]
   try simp only[go_sem]
   repeat'(first|(refine af.intro (by first|(apply BW<;>first|assumption|omega)|(apply w6<;>first|assumption|omega)) ?_<;>simp only[go_sem,I,hm,w5,aB,ax.enc,Int.toNat_zero,hw,ai])|(with_reducible refine aq ?_)|fail)
   have aR:1+(xs.length-1)≤xs.length:=by omega
   have ht:List.take (xs.length-1) (List.drop 1 (List.map ax.enc xs))=(xs.drop 1).map ax.enc:=by
    rw[List.take_of_length_le (by simp),List.map_drop]
   rw[if_pos aR,ht];refine af.intro (w6 (n+((k+1:Nat):Int)) (xs.drop 1) (by simp;omega)) ?_
   try simp only[go_sem,I]
   repeat'(first|(with_reducible refine aq ?_)|fail)
   all_goals(
    have mA:sD n xs most=xs[0].data:=by rw[←sE,hq];exact dK
    rw[mA,cJ])
  ·have ai:decide (((k+1:Nat):Int)=(xs[0].data.length:Int))=false:=bb (by omega);have cJ:fE n xs most=⟨n+((k+1:Nat):Int),xs[0].data.drop (k+1)⟩::xs.drop 1:=by unfold fE;rw[hk,nR,if_neg (by omega),if_neg hq]
   try simp only[go_sem]
   repeat'(first|((first|refine af.intro (by first|(apply BW<;>first|assumption|omega)|(apply w6<;>first|assumption|omega)) ?_|refine a9 alC (by kernel_rfl) (by rfl) ?_|refine a9 alD (by kernel_rfl) (by rfl) ?_)<;>simp only[go_sem,I,hm,w5,aB,ax.enc,Int.toNat_zero,aJ,hw,ai])|(with_reducible refine aq ?_)|fail)
   all_goals(
    have IF:List.take (xs[0].data.length-(k+1)) (List.drop (k+1) xs[0].data)=List.drop (k+1) xs[0].data:=List.take_of_length_le (by simp);rw[IF,NK ax.enc xs _ hlt];have jv:xs.length=(([D.int .i64 (n+((k+1:Nat):Int)),D.str (List.drop (k+1) xs[0].data)]:List D)::(xs.drop 1).map ax.enc).length:=by simp;omega
    rw[if_pos (Nat.le_of_eq jv),List.take_of_length_le (Nat.le_of_eq jv.symm),Nat.sub_zero,sE,cJ];simp[outOA,ax.enc])
set_option maxRecDepth 100000
def NF:List (List bt):=cE 25 [800217020030,842058433906,842058433900,842058433921,842058433855,842058433693,842058433207,845545993627,845545989253,845546004562,845545956448,845545838350,845545484056,847273463374,847270274728,847281434989,847246359883,847160266441,846901986115,846127145137,843801826135,836828256241,815907549835,753145430616,564859072962]
def IE:List (List bt):=cE 9 [16439,16441,16434,16416,19399,19561,18994,17536,13122]
attribute [go_sem] NF IE
theorem Vf(xs:List ax)(i:Nat)(h:i<xs.length):j8 (xs.take (i+1))=j8 (xs.take i)++[⟨xs[i].offset,xs[i].offset+xs[i].data.length⟩]:=by
 unfold j8;rw[List.take_add_one,dk h,Option.toList_some,List.map_append];rfl
theorem EI(xs:List ax):(j8 xs).length=xs.length:=by simp[j8]
theorem Vg(n:Int)(xs:List ax)(hb:∀c∈xs,c.data.length≤1048576)(hx:xs.length≤1048576):PureCall Tryz.prog 264 [.agg [.int .i64 n,.sl 2 (xs.map ax.enc)]] [.one (.sl 2 ((z3 n xs).map aa.enc))]:=by
 refine aP 42 Tryz.func264 Tryz.call264 [.tmp 2] ?_;intro ok
 cases aO:fu ⟨n,xs⟩with
 |false=>
  try simp only[go_sem]
  refine b9.intro (fun _:Unit=>⟨(.ab::.ptr 0 0 0::.c6 2::.sl 1 0 0::.d (.int .i64 0)::aF 37 []),[.box [.d (.int .i64 n),.d (.sl 2 (xs.map ax.enc))],.ao 2 [] true]⟩)
   (fun _=>0) (fun _=>True) () [0,1] trivial ?_ ?_
  ·simp only[go_sem];simp
  ·rintro _ _;have NG:∀b:Bool,(bif b then false else false)=false:=fun b=>by cases b<;>rfl
   try simp only[go_sem,I]
   repeat'(first|((first|refine ar.intro (by(apply na<;>first|assumption|omega)) ?_|refine a8 ?_)<;>simp only[go_sem,aO,NG])|(with_reducible refine aq ?_)|fail)
   all_goals simp[z3,aO]
 |true=>
  obtain⟨tx,lX,mz⟩:=w2 aO;have aL:z3 n xs=j8 xs:=by unfold z3;rw[if_pos aO]
  try simp only[go_sem]
  refine b9.intro (fun i:Nat=>⟨(.ab::.ptr 0 0 0::.c6 2::.sl 1 0 (j8 (xs.take i)).length::.d (.int .i64 i)::aF 37 []),[.box [.d (.int .i64 n),.d (.sl 2 (xs.map ax.enc))],.ao 2 ((j8 (xs.take i)).map aa.enc) true]⟩)
   (fun i=>xs.length-i) (fun i=>i≤xs.length) 0 [0,1] (by omega) ?_ ?_
  ·simp only[go_sem];simp[j8]
  ·intro i hi;have ja:(j8 (xs.take i)).length≤1048576:=by rw[EI,List.length_take];omega
   by_cases hlt:i<xs.length
   ·have aB:=b4 ax.enc xs i hlt;have hw:=dE (i:=i) (m:=xs.length) hlt (by simp only[maxLen];omega);have w3:=sB _ _ mz xs[i] (List.getElem_mem hlt);have sA:=hb xs[i] (List.getElem_mem hlt);have uq:IntKind.i64.wrap (xs[i].offset+(xs[i].data.length:Int))=xs[i].offset+(xs[i].data.length:Int):=by rw[bE]<;>omega
    have hs:=Vf xs i hlt;have ai:decide ((i:Int)<(xs.length:Int))=true:=bk (by omega)
    try simp only[go_sem,I,ai]
    repeat'(first|((first|refine af.intro (by(apply na<;>first|assumption|omega)) ?_|with_reducible refine ct ?_|refine a9 NF (by kernel_rfl) (by rfl) ?_)<;>simp only[go_sem,I,aJ,aB,ax.enc,hw,uq,aO])|(with_reducible refine aq ?_)|fail)
    all_goals(refine bu.intro (i+1) [0,3] (by omega) (by omega) ?_;simp only[go_sem,hs];simp[aa.enc])
   ·have ai:decide ((i:Int)<(xs.length:Int))=false:=bb (by omega);have gY:i=xs.length:=by omega
    try simp only[go_sem,I,ai]
    repeat'(first|(with_reducible refine dC ?_<;>simp only[go_sem,I])|(with_reducible refine aq ?_)|fail)
    all_goals(rw[gY,dK,aL];try simp[outOA,List.take_of_length_le])
theorem Vh(xs ys:List aa):PureCall Tryz.prog 154 [.one (.sl 2 (xs.map aa.enc)),.one (.sl 2 (ys.map aa.enc))] [.one (.bool (decide (xs=ys)))]:=by
 refine aP 26 Tryz.func154 Tryz.call154 [.tmp 4] ?_;intro ok;have hm:=fZ ok;by_cases hl:xs.length=ys.length
 ·have dM:decide ((xs.length:Int)≠(ys.length:Int))=false:=bb (by omega)
  try simp only[go_sem,I,dM]
  refine b9.intro (fun i:Nat=>⟨(.d (.sl 2 (xs.map aa.enc))::.d (.sl 2 (ys.map aa.enc))::.ab::.ab::.d (.bool false)::.d (.int .i64 i)::aF 20 []),[]⟩)
   (fun i=>xs.length-i) (fun i=>i≤xs.length∧xs.take i=ys.take i) 0 [] ⟨by omega,by simp⟩ ?_ ?_
  ·simp only[go_sem];simp
  ·rintro i ⟨hi,he⟩;simp only[go_sem,I];refine bq (fun h1=>?_) (fun h1=>?_)
   ·have au:=cl h1;have hlt:i<xs.length:=by omega
    have NH:i<ys.length:=by omega
    have aB:=b4 aa.enc xs i hlt;have uu:=b4 aa.enc ys i NH;have hw:=dE hlt hm;by_cases hq:xs[i]=ys[i]
    ·have cD:xs.take (i+1)=ys.take (i+1):=by
      rw[List.take_add_one,List.take_add_one,he,dk hlt,dk NH,hq]
     try simp only[go_sem]
     repeat'(first|(refine a9 IE (by kernel_rfl) (by rfl) ?_<;>simp only[go_sem,I,aJ,aB,uu,hq,aa.enc,hw])|(with_reducible refine aq ?_)|fail)
     all_goals(refine bu.intro (i+1) [] ⟨by omega,cD⟩ (by omega) ?_;simp only[go_sem])
    ·have Vi:xs≠ys:=fun h=>hq (by simp only[h]);have hne:(!(decide (xs[i].low=ys[i].low)&&decide (xs[i].high=ys[i].high)))=true:=by
      have:¬(xs[i].low=ys[i].low∧xs[i].high=ys[i].high):=fun h=>hq (by
       have ai:=h.1;have aj:=h.2;generalize xs[i]=a at ai aj;generalize ys[i]=b at ai aj
       cases a;cases b;simp only at ai aj;rw[ai,aj])
      rw[←Bool.decide_and,bb this];rfl
     try simp only[go_sem]
     repeat'(first|(refine a9 IE (by kernel_rfl) (by rfl) ?_<;>simp only[go_sem,I,aJ,aB,uu,aa.enc,hne])|(with_reducible refine aq ?_)|fail)
     all_goals simp[Vi]
   ·have au:=cG h1;have gY:i=xs.length:=by omega
    rw[List.take_of_length_le (by omega),List.take_of_length_le (by omega)]at he;simp only[go_sem];simp[he]
 ·have dM:decide ((xs.length:Int)≠(ys.length:Int))=true:=bk (by omega);have hne:xs≠ys:=fun h=>hl (by rw[h])
  try simp only[go_sem,I,dM]
  all_goals simp[hne]
def nF(o:Int)(c:ax):Int:=if vB o c=true then((((c.data[(o-c.offset).toNat]?).getD 0).toNat:Nat):Int)else -1
theorem Sx{o:Int}{c:ax}(h:nF o c≠-1):0≤o∧0≤c.offset∧c.offset≤o∧o-c.offset<c.data.length:=by
 unfold nF at h;by_cases g:vB o c=true
 ·exact(z1 _ _).1 g
 ·rw[if_neg g]at h;exact absurd rfl h
theorem GS{o:Int}{c:ax}(h:¬(0≤o∧0≤c.offset∧c.offset≤o∧o-c.offset<c.data.length)):nF o c=-1:=by
 unfold nF;rw[if_neg (fun g=>h ((z1 _ _).1 g))]
theorem wD{o:Int}{c:ax}(h:0≤o∧0≤c.offset∧c.offset≤o∧o-c.offset<c.data.length):nF o c=((((c.data[(o-c.offset).toNat]?).getD 0).toNat:Nat):Int):=by
 unfold nF;rw[if_pos ((z1 _ _).2 h)]
theorem th(o:Int)(c:ax):∀cs,fC (cs++[c]) o=if fC cs o=-1 then nF o c else fC cs o
 |[]=>by simp[fC,nF]
 |d::cs=>by
  rw[bx,fC,fC];by_cases h:vB o d=true
  ·rw[if_pos h,if_pos h,if_neg (by omega)]
  ·rw[if_neg h,if_neg h];exact th o c cs
theorem GU:∀(cs:List ax) (bK LP:Int),fB bK cs=true→LP≤bK→fB LP cs=true
 |[],_,_,_,_=>rfl
 |c::cs,bK,LP,h,hl=>by
  obtain⟨h1,h2,ak,aC⟩:=wZ h;simp only[fB,Bool.and_eq_true,decide_eq_true_eq];exact⟨⟨⟨h1,by omega⟩,ak⟩,aC⟩
theorem LQ(c:ax):∀(cs:List ax) (bK:Int),fB bK cs=true→(∀d∈cs,d.offset+(d.data.length:Int)<c.offset)→bK≤c.offset→c.data≠[]→c.offset≤4611686018427387903-(c.data.length:Int)→fB bK (cs++[c])=true
 |[],bK,_,_,h1,h2,ak=>by simp only[b1,fB,Bool.and_eq_true,decide_eq_true_eq,and_true];exact⟨⟨h2,h1⟩,ak⟩
 |d::cs,bK,h,hd,h1,h2,ak=>by
  obtain⟨k1,k2,dw,gj⟩:=wZ h;have:=hd d (by simp);simp only[bx,fB,Bool.and_eq_true,decide_eq_true_eq];exact⟨⟨⟨k1,k2⟩,dw⟩,LQ c cs _ gj (fun e he=>hd e (by simp[he])) (by omega) h2 ak⟩
theorem Sy(l:ax)(x:List UInt8):∀(cs:List ax) (bK:Int),fB bK (cs++[l])=true→l.offset≤4611686018427387903-((l.data++x).length:Int)→fB bK (cs++[⟨l.offset,l.data++x⟩])=true
 |[],bK,h,h1=>by
  obtain⟨k1,k2,dw,gj⟩:=wZ h;simp only[b1,fB,Bool.and_eq_true,decide_eq_true_eq,and_true];exact⟨⟨by simp[k1],k2⟩,h1⟩
 |d::cs,bK,h,h1=>by
  obtain⟨k1,k2,dw,gj⟩:=wZ h;simp only[bx,fB,Bool.and_eq_true,decide_eq_true_eq];exact⟨⟨⟨k1,k2⟩,dw⟩,Sy l x cs _ gj h1⟩
def vh(out:List ax)(c:ax):List ax:=
 match out.getLast? with
 |some l=>if l.offset+l.data.length=c.offset then out.dropLast++[⟨l.offset,l.data++c.data⟩]else out++[c]
 |none=>out++[c]
def nG(xs:List ax):List ax:=xs.foldl vh []
theorem zq(xs:List ax)(c:ax):nG (xs++[c])=vh (nG xs) c:=by
 unfold nG;rw[List.foldl_append];rfl
theorem Sz{out:List ax}{l:ax}(h:out.getLast?=some l):out=out.dropLast++[l]:=by
 obtain⟨ys,e⟩:=List.getLast?_eq_some_iff.1 h;rw[e];simp
theorem GV(out:List ax)(c:ax):(vh out c).length≤out.length+1:=by
 unfold vh;split
 ·split<;>simp
 ·simp
structure LR(bK e:Int)(out:List ax)(f:Int→Int):Prop where
 DL:fB bK out=true
 oi:∀c∈out,c.offset+(c.data.length:Int)≤e
 Bm:∀o,fC out o=f o
theorem LR.step{bK e:Int}{out:List ax}{f:Int→Int}(h:LR bK e out f)(c:ax)(h0:0≤bK)(hl:bK≤c.offset)(he:e≤c.offset)(hd:c.data≠[])(hm:c.offset≤4611686018427387903-(c.data.length:Int)) :
  LR bK (c.offset+c.data.length) (vh out c) (fun o=>if f o=-1 then nF o c else f o):=by
 unfold vh;split
 ·rename_i l nZ;have hs:=Sz nZ;have CL:l∈out:=List.mem_of_getLast? nZ;have aR:=h.oi l CL;have Ds:=sB _ _ h.DL l CL;split
  ·rename_i akU;have hb:∀o,fC (out.dropLast++[⟨l.offset,l.data++c.data⟩]) o=fC (out++[c]) o:=by
    intro o;rw[th,th]
    conv=>rhs;rw[hs]
    rw[th];by_cases g:fC out.dropLast o=-1
    ·simp only[if_pos g];by_cases cC:nF o l=-1
     ·rw[if_pos cC];by_cases cT:nF o c=-1
      ·rw[cT];refine GS fun k=>?_;simp only[List.length_append,Int.natCast_add]at k;by_cases eI:o-l.offset<l.data.length
       ·rw[wD (by omega)]at cC;omega
       ·rw[wD (by omega)]at cT;omega
      ·have k:=Sx cT;rw[wD k,wD (by simp only[List.length_append,Int.natCast_add];omega)];simp only;rw[List.getElem?_append_right (by omega)];have:(o-l.offset).toNat-l.data.length=(o-c.offset).toNat:=by omega
       rw[this]
     ·rw[if_neg cC];have k:=Sx cC;rw[wD k,wD (by simp only[List.length_append,Int.natCast_add];omega)];simp only;rw[List.getElem?_append_left (by omega)]
    ·simp only[if_neg g]
   refine⟨?_,?_,?_⟩
   ·refine Sy l c.data _ _ (hs▸h.DL) ?_;simp only[List.length_append,Int.natCast_add];omega
   ·intro d kK;rcases List.mem_append.1 kK with kK|kK
    ·have:=h.oi d (List.dropLast_subset _ kK);omega
    ·rw[List.mem_singleton.1 kK];simp only[List.length_append,Int.natCast_add];omega
   ·intro o;rw[hb o,th,h.Bm o]
  ·rename_i hne;refine⟨LQ c out bK h.DL (fun d kK=>?_) hl hd hm,?_,fun o=>by rw[th,h.Bm o]⟩
   ·have:=NB _ _ _ h.DL nZ d kK;omega
   ·intro d kK;rcases List.mem_append.1 kK with kK|kK
    ·have:=h.oi d kK;omega
    ·rw[List.mem_singleton.1 kK];omega
 ·rename_i hn;have FT:out=[]:=List.getLast?_eq_none_iff.1 hn;refine⟨LQ c out bK h.DL (fun d kK=>by rw[FT]at kK;cases kK) hl hd hm,?_,fun o=>by rw[th,h.Bm o]⟩;intro d kK;rw[FT]at kK;rw[List.mem_singleton.1 kK];omega
def lE(e:Int):Int→List ax→Bool
 |bK,[]=>decide (bK≤e)
 |bK,c::cs=>decide (c.data≠[])&&decide (bK≤c.offset)&&lE e (c.offset+c.data.length) cs
theorem SA{e bK:Int}{c:ax}{cs:List ax}(h:lE e bK (c::cs)=true):c.data≠[]∧bK≤c.offset∧lE e (c.offset+c.data.length) cs=true:=by
 simp only[lE,Bool.and_eq_true,decide_eq_true_eq]at h;exact⟨h.1.1,h.1.2,h.2⟩
theorem LS{e:Int}:∀{cs:List ax} {bK:Int},lE e bK cs=true→bK≤e
 |[],bK,h=>by simpa [lE]using h
 |c::cs,bK,h=>by obtain⟨h1,h2,ak⟩:=SA h;have:=LS ak;omega
def nB(off:Int)(data:List UInt8)(o:Int):Int:=(((data[(o-off).toNat]?).getD 0).toNat:Nat)
def m2(off:Int)(data:List UInt8)(low m:Int):ax:=⟨low,(data.drop (low-off).toNat).take ((m-off).toNat-(low-off).toNat)⟩
def SO(off hi:Int)(data:List UInt8)(low jW:Int)(ps:List ax):List ax:=
 if low<(if hi<jW then hi else jW)then ps++[m2 off data low (if hi<jW then hi else jW)]else ps
def L0(off hi:Int)(data:List UInt8)(s:Int×List ax)(c:ax):Int×List ax:=
 (if c.offset+(c.data.length:Int)>s.1 then c.offset+(c.data.length:Int)else s.1,SO off hi data s.1 c.offset s.2++[c])
theorem SP{off:Int}{data:List UInt8}{low m:Int}(h1:off≤low)(h2:low≤m)(ak:m≤off+data.length):((m2 off data low m).data.length:Int)=m-low:=by
 simp only[m2,List.length_take,List.length_drop];omega
theorem abq{off:Int}{data:List UInt8}{low m:Int}(h0:0≤off)(h1:off≤low)(h2:low≤m)(ak:m≤off+data.length)(o:Int):nF o (m2 off data low m)=if low≤o∧o<m then nB off data o else -1:=by
 have hl:=SP h1 h2 ak;have az:(m2 off data low m).offset=low:=rfl;by_cases h:low≤o∧o<m
 ·rw[if_pos h,wD (by rw[hl,az];omega),az];unfold nB
  show(((((data.drop (low-off).toNat).take ((m-off).toNat-(low-off).toNat))[(o-low).toNat]?).getD 0).toNat:Int)=_
  rw[List.getElem?_take,if_pos (by omega),List.getElem?_drop];rw[show(low-off).toNat+(o-low).toNat=(o-off).toNat from by omega]
 ·rw[if_neg h,GS (by rw[hl,az];omega)]
theorem Hi{dM e:Int}(c:ax):∀(ps:List ax) (bK:Int),lE dM bK ps=true→dM≤c.offset→c.data≠[]→c.offset+(c.data.length:Int)≤e→lE e bK (ps++[c])=true
 |[],bK,h,h1,h2,ak=>by
  have:=LS h;simp only[b1,lE,Bool.and_eq_true,decide_eq_true_eq];exact⟨⟨h2,by omega⟩,ak⟩
 |d::ps,bK,h,h1,h2,ak=>by
  obtain⟨k1,k2,dw⟩:=SA h;simp only[bx,lE,Bool.and_eq_true,decide_eq_true_eq];exact⟨⟨k1,k2⟩,Hi c ps _ dw h1 h2 ak⟩
theorem L1(out:List ax)(c:ax):∃l,(vh out c).getLast?=some l∧l.offset+(l.data.length:Int)=c.offset+(c.data.length:Int):=by
 unfold vh;split
 ·split
  ·rename_i l hl h;exact⟨⟨l.offset,l.data++c.data⟩,by simp,by simp only[List.length_append,Int.natCast_add];omega⟩
  ·exact⟨c,by simp,rfl⟩
 ·exact⟨c,by simp,rfl⟩
theorem abr{out:List ax}{c l:ax}(h:out.getLast?=some l)(h2:l.offset+(l.data.length:Int)=c.offset):(vh out c).length=out.length:=by
 unfold vh;rw[h];simp only[if_pos h2];have:=congrArg List.length (Sz h);simp only[List.length_append,List.length_singleton]at this⊢;omega
structure DS(n off hi kn:Int)(data:List UInt8)(ys:List ax)(oi low:Int)(ps:List ax):Prop where
 v8:lE oi n ps=true
 KZ:oi≤low
 Bs:low=kn∨kn<low∧low=oi
 Bm:∀o,fC ps o=if fC ys o=-1 then(if kn≤o∧o<low∧o<hi then nB off data o else -1)else fC ys o
 SQ:((ps.length:Int)-ys.length) * 2≤low-kn∧((ps.length:Int)-ys.length) * 2≤hi+1-kn
 SR:low=kn→(nG ps).length≤ys.length
 SS:(nG ps).length≤ys.length+1
 abt:kn<low→∃l,(nG ps).getLast?=some l∧l.offset+(l.data.length:Int)=low
theorem DS.piece{n off hi kn:Int}{data:List UInt8}{ys:List ax}{oi low:Int}{ps:List ax}(h:DS n off hi kn data ys oi low ps)(h0:0≤off)(wY:off≤kn)(SU:hi≤off+data.length){m:Int}(hm:low<m)(EV:m≤hi) :
  lE m n (ps++[m2 off data low m])=true∧(∀o,fC (ps++[m2 off data low m]) o=if fC ys o=-1 then(if kn≤o∧o<m then nB off data o else -1)else fC ys o)∧
  (nG (ps++[m2 off data low m])).length≤ys.length+1∧∃l,(nG (ps++[m2 off data low m])).getLast?=some l∧l.offset+(l.data.length:Int)=m:=by
 have L2:kn≤low:=by rcases h.Bs with h|h<;>omega
 have fz:((m2 off data low m).data.length:Int)=m-low:=SP (by omega) (by omega) (by omega);have Hj:(m2 off data low m).offset=low:=rfl;refine⟨Hi _ ps n h.v8 (by rw[Hj];exact h.KZ) (fun g=>by rw[g]at fz;simp at fz;omega) (by rw[fz,Hj];omega),fun o=>?_,?_,?_⟩
 ·rw[th,h.Bm o,abq h0 (by omega) (by omega) (by omega)];by_cases g:fC ys o=-1
  ·simp only[if_pos g];by_cases cC:kn≤o∧o<low∧o<hi
   ·have:nB off data o≠-1:=by unfold nB;omega
    rw[if_pos cC,if_neg this,if_pos ⟨cC.1,by omega⟩]
   ·rw[if_neg cC,if_pos rfl];by_cases cT:low≤o∧o<m
    ·rw[if_pos cT,if_pos (by omega)]
    ·rw[if_neg cT,if_neg (by omega)]
  ·simp only[if_neg g]
 ·rw[zq];rcases h.Bs with hq|hq
  ·have:=h.SR hq;have:=GV (nG ps) (m2 off data low m);omega
  ·obtain⟨l,ai,aj⟩:=h.abt hq.1;rw[abr ai (by rw[aj,Hj])];exact h.SS
 ·obtain⟨l,ai,aj⟩:=L1 (nG ps) (m2 off data low m);exact⟨l,by rw[zq];exact ai,by rw[aj,fz,Hj];omega⟩
theorem DS.step{n off hi kn:Int}{data:List UInt8}{ys:List ax}{oi low:Int}{ps:List ax}(h:DS n off hi kn data ys oi low ps)(h0:0≤off)(wY:off≤kn)(SU:hi≤off+data.length)(hn:0≤n)
  (c:ax) (hc:oi≤c.offset) (hd:c.data≠[]) :
  DS n off hi kn data (ys++[c]) (c.offset+c.data.length) (L0 off hi data (low,ps) c).1 (L0 off hi data (low,ps) c).2:=by
 have L2:kn≤low:=by rcases h.Bs with h|h<;>omega
 have sA:0<c.data.length:=List.length_pos_iff.2 hd;have hne:n≤oi:=LS h.v8;unfold L0 SO;simp only;generalize hm:(if hi<c.offset then hi else c.offset)=m;have abu:m≤hi∧m≤c.offset∧(m=hi∨m=c.offset):=by rw[←hm];split<;>omega
 have abv:(if c.offset+(c.data.length:Int)>low then c.offset+(c.data.length:Int)else low)=max low (c.offset+c.data.length):=by split<;>omega
 rw[abv];by_cases hp:low<m
 ·rw[if_pos hp];obtain⟨dh,c_,fK,l,mh,nn⟩:=h.piece h0 wY SU hp abu.1;have FR:(ps++[m2 off data low m]).length=ps.length+1:=by simp
  generalize ps++[m2 off data low m]=bX at dh c_ fK mh FR⊢;have KF:max low (c.offset+c.data.length)=c.offset+c.data.length:=by omega
  rw[KF];refine⟨Hi c bX n dh (by omega) hd (Int.le_refl _),by omega,.inr ⟨by omega,rfl⟩,fun o=>?_,?_,fun g=>by omega,?_,fun _=>?_⟩
  ·rw[th,th,c_ o];by_cases g:fC ys o=-1
   ·simp only[if_pos g];by_cases cC:kn≤o∧o<m
    ·have bR:nB off data o≠-1:=by unfold nB;omega
     rw[if_pos cC,if_neg bR,GS (by omega),if_pos rfl,if_pos (by omega)]
    ·rw[if_neg cC,if_pos rfl];by_cases cT:nF o c=-1
     ·rw[if_pos cT,cT,if_neg];intro eI;rw[wD (by omega)]at cT;omega
     ·rw[if_neg cT]
   ·simp only[if_neg g]
  ·have:=h.SQ;simp only[List.length_append,List.length_singleton,FR];omega
  ·rw[zq];have:=GV (nG bX) c;simp only[List.length_append,List.length_singleton];omega
  ·rw[zq];exact L1 _ _
 ·rw[if_neg hp];refine⟨Hi c ps n h.v8 hc hd (Int.le_refl _),by omega,?_,fun o=>?_,?_,fun g=>?_,?_,fun g=>?_⟩
  ·by_cases g:low<c.offset+c.data.length
   ·right;omega
   ·left;rcases h.Bs with cT|cT<;>omega
  ·rw[th,th,h.Bm o];by_cases g:fC ys o=-1
   ·simp only[if_pos g];by_cases cC:kn≤o∧o<low∧o<hi
    ·have bR:nB off data o≠-1:=by unfold nB;omega
     rw[if_pos cC,if_neg bR,GS (by rcases h.Bs with cT|cT<;>omega),if_pos rfl,if_pos (by omega)]
    ·rw[if_neg cC,if_pos rfl];by_cases cT:nF o c=-1
     ·rw[if_pos cT,cT,if_neg];intro eI;rw[wD (by omega)]at cT;omega
     ·rw[if_neg cT]
   ·simp only[if_neg g]
  ·have:=h.SQ;simp only[List.length_append,List.length_singleton];omega
  ·rw[zq];have:=GV (nG ps) c;have:=h.SR (by omega);simp only[List.length_append,List.length_singleton];omega
  ·rw[zq];have:=GV (nG ps) c;have:=h.SS;simp only[List.length_append,List.length_singleton];omega
  ·rw[zq];obtain⟨l,ai,aj⟩:=L1 (nG ps) c;exact⟨l,ai,by rcases h.Bs with cT|cT<;>omega⟩
set_option maxRecDepth 100000
def Ln:List (List bt):=cE 13 [1564802,1564800,1592104,1592122,1592059,1591897,1591411,1593229,1587766,1574644,1535274,1417176,1062882]
attribute [go_sem] Ln
def nb(n off:Int):Int:=if n>off then n else off
def mV(xs:List ax)(off:Int)(data:List UInt8)(o:Int):Int:=if fC xs o<0 then nB off data o else fC xs o
def my(xs:List ax)(off:Int)(data:List UInt8)(bK:Int)(k:Nat):List UInt8:=(List.range k).map fun j=>tc (mV xs off data (bK+(j:Nat)))
def td(xs:List ax)(off:Int)(data:List UInt8)(r:aa):ax:=⟨r.low,my xs off data r.low (r.high-r.low).toNat⟩
def vc(n:Int)(xs:List ax)(off:Int)(data:List UInt8):List aa:=fs (j8 xs) ⟨nb n off,off+data.length⟩
def z4(n:Int)(xs:List ax)(off:Int)(data:List UInt8):Bool:=fu ⟨n,xs⟩&&decide (data≠[])&&decide (nb n off<off+data.length)
def lW(n:Int)(xs:List ax)(off:Int)(data:List UInt8):List ax:=
 if z4 n xs off data=true then(vc n xs off data).map (td xs off data)else xs
theorem RT(xs:List ax)(off:Int)(data:List UInt8)(bK:Int)(k:Nat):my xs off data bK (k+1)=my xs off data bK k++[tc (mV xs off data (bK+(k:Nat)))]:=by
 simp[my,List.range_succ]
theorem IC(xs:List ax)(off:Int)(data:List UInt8)(bK:Int)(k:Nat):(my xs off data bK k).length=k:=by simp[my]
def RU(rs:List aa)(q y:aa):Prop:=∀a,y.low≤a→a<y.high→(∃x∈rs,x.low≤a∧a<x.high)∨(q.low≤a∧a<q.high)
def w1(E:Int)(y:aa):Prop:=0≤y.low∧y.low≤E∧y.high≤E
theorem RV(Q:aa→Prop)(rs:List aa)(q:aa)(hq:Q q)(hx:∀x∈rs,Q x)(hm:∀a b:aa,Q a→Q b→¬b.high<a.low→¬a.high<b.low→Q ⟨c7 a.low b.low,dg a.high b.high⟩) :
  ∀i,(∀y∈(ft rs q i).1,Q y)∧Q (ft rs q i).2.2
 |0=>⟨(fun y hy=>by cases hy),hq⟩
 |i+1=>by
  obtain⟨h1,h2⟩:=RV Q rs q hq hx hm i;rw[ft];split
  ·rename_i x he;have Lo:=hx x (List.mem_of_getElem? he);unfold jJ;split
   ·refine⟨fun y hy=>?_,h2⟩;rcases List.mem_append.1 hy with hy|hy
    ·exact h1 y hy
    ·rw[List.mem_singleton.1 hy];exact Lo
   ·rename_i cC;split
    ·refine⟨fun y hy=>?_,h2⟩;rcases List.mem_append.1 hy with hy|hy
     ·split at hy
      ·exact h1 y hy
      ·rcases List.mem_append.1 hy with hy|hy
       ·exact h1 y hy
       ·rw[List.mem_singleton.1 hy];exact h2
     ·rw[List.mem_singleton.1 hy];exact Lo
    ·rename_i cT;exact⟨h1,hm _ _ h2 Lo cC cT⟩
  ·exact⟨h1,h2⟩
theorem Lp(Q:aa→Prop)(rs:List aa)(q:aa)(hq:Q q)(hx:∀x∈rs,Q x)(hm:∀a b:aa,Q a→Q b→¬b.high<a.low→¬a.high<b.low→Q ⟨c7 a.low b.low,dg a.high b.high⟩):∀y∈fs rs q,Q y:=by
 obtain⟨h1,h2⟩:=RV Q rs q hq hx hm rs.length;unfold fs;split
 ·split
  ·exact h1
  ·intro y hy;rcases List.mem_append.1 hy with hy|hy
   ·exact h1 y hy
   ·rw[List.mem_singleton.1 hy];exact h2
 ·exact hx
theorem aak(rs:List aa)(q:aa):∀y∈fs rs q,RU rs q y:=by
 refine Lp _ rs q (fun a h1 h2=>.inr ⟨h1,h2⟩) (fun x hx a h1 h2=>.inl ⟨x,hx,h1,h2⟩) fun a b ha hb cC cT c h1 h2=>?_;simp only[c7,dg]at h1 h2;by_cases k:a.low≤c∧c<a.high
 ·exact ha c k.1 k.2
 ·refine hb c ?_ ?_<;>(split at h1<;>split at h2<;>omega)
theorem IB(E:Int)(rs:List aa)(q:aa)(hq:w1 E q)(hx:∀x∈rs,w1 E x):∀y∈fs rs q,w1 E y:=by
 refine Lp _ rs q hq hx fun a b ha hb cC cT=>?_;simp only[w1,c7,dg]at *;refine⟨?_,?_,?_⟩<;>split<;>omega
theorem Lq(o:Int):∀(cs:List ax),(∀c∈cs,0≤c.offset)→∀x∈j8 cs,x.low≤o→o<x.high→0≤fC cs o
 |[],_,x,hx,_,_=>by cases hx
 |c::cs,h0,x,hx,h1,h2=>by
  rw[fC];by_cases g:vB o c=true
  ·rw[if_pos g];omega
  ·rw[if_neg g];rcases List.mem_cons.1 hx with rfl|hx
   ·exact absurd ((z1 _ _).2 ⟨by have:=h0 c (by simp);simp only at h1;omega,h0 c (by simp),h1,by simp only at h2;omega⟩) g
   ·exact Lq o cs (fun d hd=>h0 d (by simp[hd])) x hx h1 h2
theorem RW(o:Int):∀(cs:List ax),fC cs o<256
 |[]=>by simp[fC]
 |c::cs=>by
  rw[fC];split
  ·have:=((c.data[(o-c.offset).toNat]?).getD 0).toNat_lt;omega
  ·exact RW o cs
theorem GG(xs:List ax)(off:Int)(data:List UInt8)(o:Int):0≤mV xs off data o∧mV xs off data o≤255:=by
 unfold mV;have:=RW o xs;split
 ·unfold nB;have:=((data[(o-off).toNat]?).getD 0).toNat_lt;omega
 ·omega
set_option maxHeartbeats 4000000 in
theorem aal(n:Int)(xs:List ax)(off:Int)(data:List UInt8)(hb:∀c∈xs,c.data.length≤1048576)(hx:xs.length≤1048575)(ah:∀c∈xs,c.offset≤1000∧c.offset+(c.data.length:Int)≤1000)(hd:data.length≤8)(az:0≤off)(gF:off+(data.length:Int)≤1000):PureCall Tryz.prog 252 [.agg [.int .i64 n,.sl 2 (xs.map ax.enc)],.one (.int .i64 off),.one (.str data)] [.agg [.int .i64 n,.sl 2 ((lW n xs off data).map ax.enc)]]:=by
 refine aP 105 Tryz.func252 Tryz.call252 [.cell 6 51] ?_;intro ok;have w4:xs.length≤1048576:=by omega
 have uS:xs.length≤1048577:=by omega
 have aj:decide (off<0)=false:=bb (by omega);have hw:IntKind.i64.wrap (4611686018427387903-(data.length:Int))=4611686018427387903-(data.length:Int):=by rw[bE]<;>omega
 have aT:decide (4611686018427387903-(data.length:Int)<off)=false:=bb (by omega);have kP:IntKind.i64.wrap (off+(data.length:Int))=off+(data.length:Int):=by rw[bE]<;>omega
 cases aO:fu ⟨n,xs⟩with
 |false=>
  have cJ:lW n xs off data=xs:=by unfold lW z4;rw[aO];rfl
  try simp only[go_sem]
  repeat'(first|((first|refine af.intro (by first|(apply na<;>first|assumption|omega)|(apply w6<;>first|assumption|omega)) ?_|with_reducible refine dC ?_)<;>simp only[go_sem,I,aO])|(with_reducible refine aq ?_)|fail)
  all_goals(rw[cJ];try simp)
 |true=>
 obtain⟨tx,lX,mz⟩:=w2 aO;by_cases za:data=[]
 ·have ai:decide (data=[])=true:=bk za;have cJ:lW n xs off data=xs:=by unfold lW z4;simp[za]
  try simp only[go_sem]
  repeat'(first|((first|refine af.intro (by first|(apply na<;>first|assumption|omega)|(apply w6<;>first|assumption|omega)) ?_|with_reducible refine ct ?_|with_reducible refine dC ?_)<;>simp only[go_sem,I,aO,ai])|(with_reducible refine aq ?_)|fail)
  all_goals(rw[cJ];try simp)
 ·have ai:decide (data=[])=false:=bb za;obtain⟨low,e9⟩:∃low,(if n>off then n else off)=low:=⟨_,rfl⟩;have wY:off≤low∧0≤low:=by rw[←e9];split<;>omega
  by_cases aR:off+(data.length:Int)≤low
  ·have bj:decide (off+(data.length:Int)≤low)=true:=bk aR;have cJ:lW n xs off data=xs:=by unfold lW z4 nb;rw[e9,bb (show ¬low<off+(data.length:Int)by omega)];simp
   try simp only[go_sem]
   repeat'(first|((first|refine af.intro (by first|(apply na<;>first|assumption|omega)|(apply w6<;>first|assumption|omega)) ?_|with_reducible refine ct ?_)<;>simp only[go_sem,I,aO,ai,aj,hw,aT,kP,e9,bj])|(with_reducible refine aq ?_)|fail)
   all_goals(rw[cJ];try simp)
  ·have bj:decide (off+(data.length:Int)≤low)=false:=bb aR;have cJ:lW n xs off data=(vc n xs off data).map (td xs off data):=by
    unfold lW z4 nb;rw[e9,aO,bk za,bk (show low<off+(data.length:Int)by omega)];rfl
   have aam:(vc n xs off data).length≤1048576:=by
    have:=ID (j8 xs) ⟨nb n off,off+data.length⟩;rw[EI]at this;unfold vc;omega
   have Lr:∀y∈vc n xs off data,RU (j8 xs) ⟨low,off+data.length⟩ y:=by
    unfold vc nb;rw[e9];exact aak _ _
   have Ls:∀y∈vc n xs off data,w1 1000 y:=by
    refine IB 1000 _ _ ⟨by unfold nb;rw[e9];exact wY.2,by unfold nb;rw[e9];show low≤1000;omega,gF⟩ fun x hx=>?_;obtain⟨c,hc,rfl⟩:=List.mem_map.1 hx;have:=sB _ _ mz c hc;have:=ah c hc;exact⟨by show 0≤c.offset;omega,this.1,this.2⟩
   have RX:fs (j8 xs) ⟨low,off+(data.length:Int)⟩=vc n xs off data:=by unfold vc nb;rw[e9]
   have RY:z3 n xs=j8 xs:=by unfold z3;rw[if_pos aO]
   have ja:(j8 xs).length≤1048576:=by rw[EI];omega
   try simp only[go_sem]
   repeat'((first|refine af.intro (by first|(apply na<;>first|assumption|omega)|(apply Vg<;>first|assumption|omega)|(apply te<;>first|assumption|omega)) ?_|with_reducible refine ct ?_)<;>simp only[go_sem,I,aO,ai,aj,hw,aT,kP,e9,bj,RY,RX])
   generalize vc n xs off data=R at cJ aam Lr Ls;refine b9.intro (fun i:Nat=>match i with
     |0=>⟨(.agg [.d (.int .i64 n),.d (.sl 2 (xs.map ax.enc))]::.d (.int .i64 off)::.d (.str data)::.ptr 0 0 0::.ab::.ab::.ptr 1 0 0::.d (.int .i64 low)::.d (.int .i64 (off+(data.length:Int)))::.ptr 2 0 0::.sl 3 0 R.length::.d (.int .i64 0)::aF 93 []),[.box [.d (.int .i64 n),.d (.sl 2 (xs.map ax.enc))],.box [.d (.int .i64 0),.c6 2],.box [.d (.int .i64 n),.c6 2],.ao 2 (R.map aa.enc) true]⟩
     |i+1=>⟨(.agg [.d (.int .i64 n),.d (.sl 2 (xs.map ax.enc))]::.d (.int .i64 off)::.d (.str data)::.ptr 0 0 0::.ab::.ab::.ptr 1 0 0::.d (.int .i64 low)::.d (.int .i64 (off+(data.length:Int)))::.ptr 2 0 0::.sl 3 0 R.length::.d (.int .i64 ((i+1:Nat):Int))::aF 93 []),[.box [.d (.int .i64 n),.d (.sl 2 (xs.map ax.enc))],.box [.d (.int .i64 0),.c6 2],.box [.d (.int .i64 n),.sl 4 0 (i+1)],.ao 2 (R.map aa.enc) true,.ao 2 (((R.take (i+1)).map (td xs off data)).map ax.enc) true]⟩)
    (fun i=>R.length-i) (fun i=>i≤R.length) 0 [0,1,2,4] (by omega) ?_ ?_
   ·simp only[go_sem];simp
   ·intro i hi
    cases i with
    |zero=>
     simp only[go_sem];refine bq (fun h1=>?_) (fun h1=>?_)
     ·have au:=cl h1;have hlt:0<R.length:=by omega
      have wy:=b4 aa.enc R 0 hlt;have Lt:=Ls R[0] (List.getElem_mem hlt);have Lu:=Lr R[0] (List.getElem_mem hlt);have DB:=dE (i:=0) (m:=R.length) hlt (by simp only[maxLen];omega);obtain⟨og,Lv⟩:∃og,(R[0].high-R[0].low).toNat=og:=⟨_,rfl⟩;have hin:=Lt;simp only[w1]at hin;simp only[go_sem,I,Int.toNat_zero,wy,aa.enc]
      repeat(with_reducible refine And.intro (by omega) ?_)
      try simp only[go_sem]
      refine b9.intro (fun k:Nat=>⟨(.agg [.d (.int .i64 n),.d (.sl 2 (xs.map ax.enc))]::.d (.int .i64 off)::.d (.str data)::.ptr 0 0 0::.ab::.ab::.ptr 1 0 0::.d (.int .i64 low)::.d (.int .i64 (off+(data.length:Int)))::.ptr 2 0 0::.sl 3 0 R.length::.d (.int .i64 0)::.d (.str (my xs off data R[0].low k))::.d (.int .i64 (R[0].low+(k:Nat)))::aF 91 []),[.box [.d (.int .i64 n),.d (.sl 2 (xs.map ax.enc))],.box [.d (.int .i64 0),.c6 2],.box [.d (.int .i64 n),.c6 2],.ao 2 (R.map aa.enc) true]⟩)
       (fun k=>og-k) (fun k=>k≤og) 0 [0,1,2,3] (by omega) ?_ ?_
      ·simp only[go_sem];simp[my]
      ·intro k hk;simp only[go_sem,I,Int.toNat_zero,wy,aa.enc]
       repeat(with_reducible refine And.intro (by omega) ?_)
       try simp only[go_sem]
       have nP:=IC xs off data R[0].low k;refine bq (fun ak=>?_) (fun ak=>?_)
       ·have A':=cl ak;have DC:=RT xs off data R[0].low k;have mx:IntKind.i64.wrap (R[0].low+(k:Int)+1)=R[0].low+((k+1:Nat):Int):=by rw[bE]<;>omega
        simp only[go_sem];refine af.intro (NA n xs (R[0].low+(k:Int)) hb w4) ?_;simp only[go_sem];refine bq (fun aC=>?_) (fun aC=>?_)
        ·have iQ:=cl aC;have GH:low≤R[0].low+(k:Int)∧R[0].low+(k:Int)<off+(data.length:Int):=by
          rcases Lu (R[0].low+(k:Int)) (by omega) (by omega)with ⟨x,Lw,cC,cT⟩|g
          ·have:=Lq (R[0].low+(k:Int)) xs (fun c hc=>by have:=sB _ _ mz c hc;omega) x Lw cC cT;omega
          ·exact g
         have Ct:IntKind.i64.wrap (R[0].low+(k:Int)-off)=(((R[0].low+(k:Int)-off).toNat:Nat):Int):=by rw[bE]<;>omega
         have wj:(R[0].low+(k:Int)-off).toNat<data.length:=by omega
         have DD:data[(R[0].low+(k:Int)-off).toNat]?=some data[(R[0].low+(k:Int)-off).toNat]:=dk wj;have hv:((data[(R[0].low+(k:Int)-off).toNat].toNat:Nat):Int)=mV xs off data (R[0].low+(k:Int)):=by unfold mV nB;rw[if_pos iQ,DD];rfl
         have z2:IntKind.i64.wrap ((data[(R[0].low+(k:Int)-off).toNat].toNat:Nat):Int)=mV xs off data (R[0].low+(k:Int)):=by
          have:=data[(R[0].low+(k:Int)-off).toNat].toNat_lt;rw[←hv,bE]<;>omega
         try simp only[go_sem,Ct,DD,z2,aJ,Option.getD_some]
         repeat'(first|(with_reducible refine aq ?_)|fail)
         refine af.intro (DE _ (GG xs off data _)) ?_
         try simp only[go_sem,mx,nP]
         repeat'(first|(with_reducible refine aq ?_)|fail)
         all_goals(
          try(with_reducible refine And.intro (by simp only[maxLen];omega) ?_)
          refine bu.intro (k+1) [0,1,2,3] (by omega) (by omega) ?_;simp only[go_sem,DC]
          try simp)
        ·have iQ:=cG aC;have hv:fC xs (R[0].low+(k:Int))=mV xs off data (R[0].low+(k:Int)):=by unfold mV;rw[if_neg iQ]
         simp only[go_sem,hv];refine af.intro (DE _ (GG xs off data _)) ?_
         try simp only[go_sem,mx,nP]
         repeat'(first|(with_reducible refine aq ?_)|fail)
         all_goals(
          try(with_reducible refine And.intro (by simp only[maxLen];omega) ?_)
          refine bu.intro (k+1) [0,1,2,3] (by omega) (by omega) ?_;simp only[go_sem,DC]
          try simp)
       ·have A':=cG ak;have Bh:k=og:=by omega
        have Dt:td xs off data R[0]=⟨R[0].low,my xs off data R[0].low k⟩:=by unfold td;rw[Lv,Bh]
        have cD:((R.take (0+1)).map (td xs off data)).map ax.enc=((R.take 0).map (td xs off data)).map ax.enc++[[.int .i64 R[0].low,.str (my xs off data R[0].low k)]]:=by
         rw[List.take_add_one,dk hlt,Option.toList_some,List.map_append,List.map_append,List.map_singleton,List.map_singleton,Dt];rfl
        try simp only[go_sem]
        repeat'(first|(refine a9 Ln (by kernel_rfl) (by rfl) ?_<;>simp only[go_sem,I,Int.toNat_zero,wy,aa.enc])|(with_reducible refine aq ?_)|fail)
        all_goals(
         refine bu.intro (0+1) [0,1,2,3,5] (by omega) (by omega) ?_;simp only[go_sem,cD];simp
         try first|decide|omega)
     ·have au:=cG h1
      try simp only[go_sem]
      all_goals(have GI:R=[]:=List.length_eq_zero_iff.1 (by omega);rw[cJ,GI];try simp)
    |succ i=>
     simp only[go_sem];refine bq (fun h1=>?_) (fun h1=>?_)
     ·have au:=cl h1;have hlt:i+1<R.length:=by omega
      have wy:=b4 aa.enc R (i+1) hlt;have Lt:=Ls R[i+1] (List.getElem_mem hlt);have Lu:=Lr R[i+1] (List.getElem_mem hlt);have DB:=dE (i:=(i+1)) (m:=R.length) hlt (by simp only[maxLen];omega);obtain⟨og,Lv⟩:∃og,(R[i+1].high-R[i+1].low).toNat=og:=⟨_,rfl⟩;have hin:=Lt;simp only[w1]at hin;simp only[go_sem,I,aJ,wy,aa.enc]
      repeat(with_reducible refine And.intro (by omega) ?_)
      try simp only[go_sem]
      refine b9.intro (fun k:Nat=>⟨(.agg [.d (.int .i64 n),.d (.sl 2 (xs.map ax.enc))]::.d (.int .i64 off)::.d (.str data)::.ptr 0 0 0::.ab::.ab::.ptr 1 0 0::.d (.int .i64 low)::.d (.int .i64 (off+(data.length:Int)))::.ptr 2 0 0::.sl 3 0 R.length::.d (.int .i64 ((i+1:Nat):Int))::.d (.str (my xs off data R[i+1].low k))::.d (.int .i64 (R[i+1].low+(k:Nat)))::aF 91 []),[.box [.d (.int .i64 n),.d (.sl 2 (xs.map ax.enc))],.box [.d (.int .i64 0),.c6 2],.box [.d (.int .i64 n),.sl 4 0 (i+1)],.ao 2 (R.map aa.enc) true,.ao 2 (((R.take (i+1)).map (td xs off data)).map ax.enc) true]⟩)
       (fun k=>og-k) (fun k=>k≤og) 0 [0,1,2,3,4] (by omega) ?_ ?_
      ·simp only[go_sem];simp[my]
      ·intro k hk;simp only[go_sem,I,aJ,wy,aa.enc]
       repeat(with_reducible refine And.intro (by omega) ?_)
       try simp only[go_sem]
       have nP:=IC xs off data R[i+1].low k;refine bq (fun ak=>?_) (fun ak=>?_)
       ·have A':=cl ak;have DC:=RT xs off data R[i+1].low k;have mx:IntKind.i64.wrap (R[i+1].low+(k:Int)+1)=R[i+1].low+((k+1:Nat):Int):=by rw[bE]<;>omega
        simp only[go_sem];refine af.intro (NA n xs (R[i+1].low+(k:Int)) hb w4) ?_;simp only[go_sem];refine bq (fun aC=>?_) (fun aC=>?_)
        ·have iQ:=cl aC;have GH:low≤R[i+1].low+(k:Int)∧R[i+1].low+(k:Int)<off+(data.length:Int):=by
          rcases Lu (R[i+1].low+(k:Int)) (by omega) (by omega)with ⟨x,Lw,cC,cT⟩|g
          ·have:=Lq (R[i+1].low+(k:Int)) xs (fun c hc=>by have:=sB _ _ mz c hc;omega) x Lw cC cT;omega
          ·exact g
         have Ct:IntKind.i64.wrap (R[i+1].low+(k:Int)-off)=(((R[i+1].low+(k:Int)-off).toNat:Nat):Int):=by rw[bE]<;>omega
         have wj:(R[i+1].low+(k:Int)-off).toNat<data.length:=by omega
         have DD:data[(R[i+1].low+(k:Int)-off).toNat]?=some data[(R[i+1].low+(k:Int)-off).toNat]:=dk wj;have hv:((data[(R[i+1].low+(k:Int)-off).toNat].toNat:Nat):Int)=mV xs off data (R[i+1].low+(k:Int)):=by unfold mV nB;rw[if_pos iQ,DD];rfl
         have z2:IntKind.i64.wrap ((data[(R[i+1].low+(k:Int)-off).toNat].toNat:Nat):Int)=mV xs off data (R[i+1].low+(k:Int)):=by
          have:=data[(R[i+1].low+(k:Int)-off).toNat].toNat_lt;rw[←hv,bE]<;>omega
         try simp only[go_sem,Ct,DD,z2,aJ,Option.getD_some]
         repeat'(first|(with_reducible refine aq ?_)|fail)
         refine af.intro (DE _ (GG xs off data _)) ?_
         try simp only[go_sem,mx,nP]
         repeat'(first|(with_reducible refine aq ?_)|fail)
         all_goals(
          try(with_reducible refine And.intro (by simp only[maxLen];omega) ?_)
          refine bu.intro (k+1) [0,1,2,3,4] (by omega) (by omega) ?_;simp only[go_sem,DC]
          try simp)
        ·have iQ:=cG aC;have hv:fC xs (R[i+1].low+(k:Int))=mV xs off data (R[i+1].low+(k:Int)):=by unfold mV;rw[if_neg iQ]
         simp only[go_sem,hv];refine af.intro (DE _ (GG xs off data _)) ?_
         try simp only[go_sem,mx,nP]
         repeat'(first|(with_reducible refine aq ?_)|fail)
         all_goals(
          try(with_reducible refine And.intro (by simp only[maxLen];omega) ?_)
          refine bu.intro (k+1) [0,1,2,3,4] (by omega) (by omega) ?_;simp only[go_sem,DC]
          try simp)
       ·have A':=cG ak;have Bh:k=og:=by omega
        have Dt:td xs off data R[i+1]=⟨R[i+1].low,my xs off data R[i+1].low k⟩:=by unfold td;rw[Lv,Bh]
        have cD:((R.take ((i+1)+1)).map (td xs off data)).map ax.enc=((R.take (i+1)).map (td xs off data)).map ax.enc++[[.int .i64 R[i+1].low,.str (my xs off data R[i+1].low k)]]:=by
         rw[List.take_add_one,dk hlt,Option.toList_some,List.map_append,List.map_append,List.map_singleton,List.map_singleton,Dt];rfl
        try simp only[go_sem,I,DB]
        repeat'(first|(refine a9 Ln (by kernel_rfl) (by rfl) ?_<;>simp only[go_sem,I,aJ,wy,aa.enc,DB])|(with_reducible refine aq ?_)|fail)
        all_goals(
         refine bu.intro (i+1+1) [0,1,2,3,6] (by omega) (by omega) ?_;simp only[go_sem,cD];simp
         try first|decide|omega)
     ·have au:=cG h1
      try simp only[go_sem]
      all_goals(have GI:R.length=i+1:=(by omega);rw[List.take_of_length_le (Nat.le_of_eq GI),cJ];try simp[outOA,GI,List.take_of_length_le])
set_option maxRecDepth 100000
def MU:List (List bt):=cE 54 [58149737003040059690380331,58149737003040059690380329,58149737003040059690380363,58149737003040059690380345,58149737003040059690380651,58149737003040059690380489,58149737003040059690389804,58149737003040059690388346,58149737003040059690383972,58149737003040059690370486,58149737003040059690331120,58149737003040059628034425,58149737003040059627680131,58149737003040059626617249,58149737003040059687910111,58149737003040059678344173,58149737003040059649646359,58149737003040059561250006,58149737003040059302969680,58149737003040058528128702,58149737003039930679367332,58149737003039923705798530,58149737003040042256468164,58149737003039979494348946,58149737003039777260853688,58149737003039212401780726,58149737003037517824561840,58149737003032434092905182,58149737002193618369556612,58149737002147864784646690,58149737002925675728115364,58149737002513893463926066,58149737001187039501538328,58149736997480999123834646,58149736986362877990723600,58149736953008514591390462,58149736852945424393391048,58149736552756153799392806,58149735652188342017398080,58149732950484906671413902,58149724845374600633461368,58149372273076287982526139,58149299327083533640953333,58149554638058173836458154,58148752232137876079157288,58146782690333508856691526,58140874064920407189294240,57165950871758632068742050,57112773243040717062166476,58016792931245272173951234,57538194272784037114771068,55996043039964501924079422,51688655113813386391457928,38766491335360039793593446]
attribute [go_sem] MU
def Er(s:aM):Int:=
 if s.ba=3∧s.ring.base=s.ring.cj then 3
 else if(s.ba=2∨s.ba=3)∨(s.ba=1∧s.state=2)then 2
 else if 0<s.sent∨(s.ba=1∧s.state=1)then 1 else 0
theorem Us(aX a4 a5 a2:Int)(aU:List Int)(aD aA aE:List aa)(a3 aY aW a6:Int):PureCall Tryz.prog 167 [.agg [.int .i64 aX,.int .i64 a4,.int .i64 a5,.int .i64 a2,.sl 1 (aU.map a'),.sl 2 (aD.map aa.enc),.sl 2 (aA.map aa.enc),.sl 2 (aE.map aa.enc),.int .i64 a3,.int .i64 aY,.int .i64 aW,.int .i64 a6]] [.one (.int .i64 (Er (⟨aX,⟨a4,a5,a2,aU⟩,aD,aA,aE,a3,aY,aW,a6⟩:aM)))]:=by
 refine aP 49 Tryz.func167 Tryz.call167 [.tmp 2] ?_;intro _
 try simp only[go_sem]
 repeat'((first|refine a8 ?_|refine bq (fun h=>?_) (fun h=>?_))<;>simp only[go_sem])
 all_goals(simp at *;simp only[Er];repeat' split)
 all_goals first|rfl|(exfalso;grind)
def uh(xs:List aa)(p:Int):Bool:=match xs.getLast? with|some r=>decide (p<r.high)|none=>false
theorem MV(xs:List aa)(p:Int):PureCall Tryz.prog 166 [.one (.sl 2 (xs.map aa.enc)),.one (.int .i64 p)] [.one (.bool (uh xs p))]:=by
 refine aP 19 Tryz.func166 Tryz.call166 [.tmp 4] ?_;intro ok;have hm:=fZ ok;by_cases h:xs.length=0
 ·have ai:decide ((0:Int)<(xs.length:Int))=false:=bb (by omega)
  try simp only[go_sem,I,ai]
  repeat'(first|(with_reducible refine dC ?_<;>simp only[go_sem]))
  all_goals simp[uh,List.length_eq_zero_iff.1 h]
 ·have ai:decide ((0:Int)<(xs.length:Int))=true:=bk (by omega);have hl:xs.length-1<xs.length:=by omega
  have aB:=b4 aa.enc xs (xs.length-1) hl;have e5:IntKind.i64.wrap ((xs.length:Int)-1)=((xs.length-1:Nat):Int):=by simp only[maxLen]at hm;rw[bE]<;>omega
  have MW:xs.getLast?=some xs[xs.length-1]:=by rw[List.getLast?_eq_getElem?,dk hl]
  try simp only[go_sem,I,ai]
  repeat'(first|(with_reducible refine ct ?_<;>simp only[go_sem,I,e5,aB,aa.enc,aJ])|(with_reducible refine aq ?_)|fail)
  all_goals simp[uh,MW]
def zI(a b c:List aa)(e:Int):Bool:=
 decide (IntKind.i64.wrap (IntKind.i64.wrap (iG a+iG b)+iG c)=e)&&decide (iG (dZ a (b++c))=e)&&!uh (dZ a (b++c)) e
set_option maxHeartbeats 1000000 in
theorem Ut(a b c:List aa)(e:Int)(hc:a.length+b.length+c.length≤524288):PureCall Tryz.prog 164 [.one (.sl 2 (a.map aa.enc)),.one (.sl 2 (b.map aa.enc)),.one (.sl 2 (c.map aa.enc)),.one (.int .i64 e)] [.one (.bool (zI a b c e))]:=by
 refine aP 47 Tryz.func164 Tryz.call164 [.tmp 8] ?_;intro ok
 cases ai:decide (IntKind.i64.wrap (IntKind.i64.wrap (iG a+iG b)+iG c)≠e)with
 |true=>
  have fq:=cl ai
  try simp only[go_sem]
  repeat'(refine af.intro (by apply MD) ?_<;>simp only[go_sem,ai])
  all_goals simp[zI,fq]
 |false=>
  have fq:IntKind.i64.wrap (IntKind.i64.wrap (iG a+iG b)+iG c)=e:=by have:=cG ai;omega
  try simp only[go_sem]
  repeat'(first|(refine af.intro (by first|apply MD|(apply Tv<;>first|assumption|omega)) ?_<;>simp only[go_sem,I,ai])|(with_reducible refine aq ?_)|fail)
  refine b9.intro (fun i:Nat=>⟨(aF 3 (.d (.int .i64 e)::aF 4 (.d (.bool false)::.sl 0 0 (dZ a ((b++c).take i)).length::aF 17 (.sl 1 0 (b++c).length::.d (.int .i64 (b++c).length)::.d (.int .i64 i)::aF 17 [])))),[.ao 2 ((dZ a ((b++c).take i)).map aa.enc) true,.ao 2 ((b++c).map aa.enc) true]⟩)
   (fun i=>(b++c).length-i) (fun i=>i≤(b++c).length) 0 [0,2] (by omega) ?_ ?_
  ·simp only[go_sem];simp[dZ]
  ·intro i hi;generalize xK:b++c=l at *;have hl:l.length=b.length+c.length:=by rw[←xK];simp
   have e9:=nL (l.take i) a;have cw:(l.take i).length=i:=by simp;omega
   by_cases h1:i<l.length
   ·have au:decide ((i:Int)<(l.length:Int))=true:=bk (by omega);have aB:=b4 aa.enc l i h1;have hw:=dE (i:=i) (m:=524288) (by omega) (by simp[maxLen]);have cD:=yf a l i h1;generalize hq:dZ a (l.take i)=BC at *
    try simp only[go_sem,I,aJ,aB,aa.enc,au]
    repeat'(first|(refine af.intro (by(apply aco<;>first|assumption|omega)) ?_<;>simp only[go_sem,I])|(with_reducible refine aq ?_)|fail)
    refine bu.intro (i+1) [3,1] (by omega) (by omega) ?_;simp only[go_sem,hw,cD];simp
   ·have au:decide ((i:Int)<(l.length:Int))=false:=bb (by omega);obtain rfl:i=l.length:=by omega
    try simp only[go_sem,I,au,dK]
    repeat'((first|refine af.intro (by apply MD) ?_|refine ar.intro (by apply MV) ?_|refine a8 ?_)<;>simp only[go_sem,I])
    all_goals(refine ec ?_;simp[zI,xK,fq])
def BD(s:aM):Int:=if s.ba=0 then -1 else s.ring.cj
def HK(s:aM):Bool:=zI s.pending s.flight s.cb s.ring.cj&&decide (tg s.cb 0=s.ring.base)&&!uh s.flight s.sent&&!uh s.cb s.sent&&decide (s.code=0)&&decide (s.bg=BD s)&&decide (s.state=Er s)
def wG(s:aM):Bool:=jl s&&(if lb s then HJ s else HK s)
set_option maxHeartbeats 8000000 in
theorem adu(aX a4 a5 a2:Int)(aU:List Int)(aD aA aE:List aa)(a3 aY aW a6:Int)(hc:aD.length+aA.length+aE.length≤524288):PureCall Tryz.prog 125 [.agg [.int .i64 aX,.int .i64 a4,.int .i64 a5,.int .i64 a2,.sl 1 (aU.map a'),.sl 2 (aD.map aa.enc),.sl 2 (aA.map aa.enc),.sl 2 (aE.map aa.enc),.int .i64 a3,.int .i64 aY,.int .i64 aW,.int .i64 a6]] [.one (.bool (wG (⟨aX,⟨a4,a5,a2,aU⟩,aD,aA,aE,a3,aY,aW,a6⟩:aM)))]:=by
 refine aP 161 Tryz.func125 Tryz.call125 [.tmp 2] ?_;intro ok;refine vo fun adr HG=>?_;simp only[go_sem];refine HG _ (vo fun K2 HH=>?_)
 try simp only[go_sem]
 repeat'((first|refine af.intro (by apply ac0) ?_|refine ar.intro (by first|apply DY|apply jM|apply tw) ?_|refine a8 ?_)<;>simp only[go_sem])
 refine bq (fun h0=>?_) (fun h0=>?_)
 ·simp only[go_sem];have:jl (⟨aX,⟨a4,a5,a2,aU⟩,aD,aA,aE,a3,aY,aW,a6⟩:aM)=false:=by
   rw[Bool.eq_false_iff];intro g;simp[jl]at h0 g;simp_all
  simp[wG,this]
 ·have cU:jl (⟨aX,⟨a4,a5,a2,aU⟩,aD,aA,aE,a3,aY,aW,a6⟩:aM)=true:=by
   simp[jl]at h0⊢;simp_all
  simp only[go_sem];refine HH _ (vo fun adt HI=>?_)
  try simp only[go_sem]
  repeat'(refine a8 ?_<;>simp only[go_sem])
  refine bq (fun aL=>?_) (fun aL=>?_)
  ·have dV:lb (⟨aX,⟨a4,a5,a2,aU⟩,aD,aA,aE,a3,aY,aW,a6⟩:aM)=true:=by simpa [lb,cP]using aL
   simp only[go_sem,I]
   try simp only[go_sem,I]
   repeat'(refine a8 ?_<;>simp only[go_sem,I])
   all_goals(refine ec ?_;simp[wG,cU,dV,HJ];grind)
  ·have dV:lb (⟨aX,⟨a4,a5,a2,aU⟩,aD,aA,aE,a3,aY,aW,a6⟩:aM)=false:=by simpa [lb,cP]using aL
   simp only[go_sem];refine HI _ ?_
   cases ai:decide (aY=0)with
   |true=>
    have fq:=cl ai;clear HG HH HI
    try simp only[go_sem,ai]
    repeat'((first|refine ar.intro (by first|(apply Ut<;>first|assumption|omega)|apply T7|apply MV|apply Us) ?_|refine en ?_|refine a9 MU (by kernel_rfl) (by rfl) ?_)<;>simp only[go_sem])
    all_goals(subst fq;refine ec ?_;simp[wG,cU,dV,HK,BD,and_assoc])
   |false=>
    have fq:¬aY=0:=cG ai
    try simp only[go_sem,ai]
    repeat'((first|refine ar.intro (by first|(apply Ut<;>first|assumption|omega)|apply T7|apply MV|apply Us) ?_|refine en ?_|refine a9 MU (by kernel_rfl) (by rfl) ?_)<;>simp only[go_sem])
    all_goals(refine ec ?_;simp[wG,cU,dV,HK,BD,fq,and_assoc])
def Ad(s:aM):Prop:=∀r,r∈s.pending∨r∈s.flight∨r∈s.cb→r.high≤s.ring.cj
theorem MX{xs:List aa}{p:Int}(h:cx xs=true):below xs p=!uh xs p:=by
 have hs:=(jK xs).1 h;rw[Bool.eq_iff_iff];unfold below uh
 cases hl:xs.getLast? with
 |none=>rw[List.getLast?_eq_none_iff.1 hl];simp
 |some r=>
  have hr:=List.mem_of_getLast? hl;simp only[List.all_eq_true,decide_eq_true_eq,Bool.not_eq_true',decide_eq_false_iff_not,Int.not_lt];constructor
  ·intro g;exact g r hr
  ·intro g x hx;obtain⟨i,hi,rfl⟩:=List.getElem_of_mem hx;have MW:xs.getLast?=some (xs[xs.length-1]'(by omega)):=by rw[List.getLast?_eq_getElem?,dk (by omega)]
   have yx:xs[xs.length-1]'(by omega)=r:=Option.some.inj (MW.symm.trans hl);by_cases he:i=xs.length-1
   ·subst he;rw[yx];exact g
   ·have h1:=(List.pairwise_iff_getElem.1 hs.2) i (xs.length-1) hi (by omega) (by omega);have h2:=(gL _).1 (hs.1 _ hr);rw[yx]at h1;omega
theorem MY{E:Int}:∀(ys xs:List aa),cx xs=true→(∀y∈ys,cR y=true)→(∀x∈xs,x.high≤E)→(∀y∈ys,y.high≤E)→∀z∈dZ xs ys,z.high≤E
 |[],xs,_,_,hx,_,z,hz=>hx z hz
 |y::ys,xs,h,hy,hx,hh,z,hz=>by
  have h1:=Ly h (hy y (by simp));refine MY ys (fs xs y) h1 (fun w hw=>hy w (by simp[hw])) ?_ (fun w hw=>hh w (by simp[hw])) z hz;have:=IB E xs y ?_ ?_
  ·intro w hw;exact(this w hw).2.2
  ·have g:=(gL _).1 (hy y (by simp));have:=hh y (by simp);exact⟨by omega,by omega,by omega⟩
  ·intro w hw;have g:=(gL _).1 (((jK xs).1 h).1 w hw);have:=hx w hw;exact⟨by omega,by omega,by omega⟩
theorem adv{s:aM}(hn:Ad s):ez s=wG s:=by
 unfold ez wG
 cases cU:jl s with
 |false=>rfl
 |true=>
  simp only[Bool.true_and]
  cases aL:lb s with
  |true=>rfl
  |false=>
   simp only[Bool.false_eq_true,if_false];have hh:=cU;simp only[jl,Bool.and_eq_true,and_assoc]at hh;obtain⟨h1,h2,ak,aC,bL,eD,l5⟩:=hh;have hg:=vd h1;have hf:=(jK s.flight).1 ak;have ha:=(jK s.cb).1 aC;have Uu:=Ef s.flight s.pending h2 hf.1;have MH:=Ef s.cb _ Uu.1 ha.1;have JV:dZ s.pending (s.flight++s.cb)=m8 s:=by unfold m8 dZ;rw[List.foldl_append]
   have HL:=MY (E:=s.ring.cj) s.flight s.pending h2 hf.1 (fun x hx=>hn x (.inl hx)) (fun x hx=>hn x (.inr (.inl hx)));have gY:=MY (E:=s.ring.cj) s.cb _ Uu.1 ha.1 HL (fun x hx=>hn x (.inr (.inr hx)));have ah:uh (m8 s) s.ring.cj=false:=by
    have fI:=MX (p:=s.ring.cj) MH.1;have Ah:below (m8 s) s.ring.cj=true:=by
     unfold below;rw[List.all_eq_true];intro x hx;exact bk (gY x hx)
    unfold m8 at Ah⊢;rw[Ah]at fI;simpa using fI.symm
   have adw:Er s=BE s:=by
    simp only[bz,Bool.and_eq_true,decide_eq_true_eq]at l5;unfold Er BE;by_cases dv:s.ba=3∧s.ring.base=s.ring.cj
    ·rw[if_pos dv,if_pos dv]
    ·rw[if_neg dv,if_neg dv];have:((s.ba=2∨s.ba=3)∨(s.ba=1∧s.state=2))↔(1<s.ba∨(s.ba=1∧s.state=2)):=by omega
     simp only[this]
   have adx:zJ s=decide (s.bg=BD s):=by
    have:=hg.2.2.2.1;have:=hg.2.2.2.2.1;unfold zJ BD;by_cases dv:s.ba=0<;>by_cases dD:s.bg=-1<;>simp[dv,dD]<;>omega
   have ady:lP s=(zI s.pending s.flight s.cb s.ring.cj&&decide (tg s.cb 0=s.ring.base)&&decide (s.code=0)):=by
    unfold lP zI yh;rw[JV,ah];have adz:iG (m8 s)=s.ring.cj→0<s.ring.cj→nJ (m8 s)=s.ring.cj:=ac6 MH.1 gY;rw[Bool.eq_iff_iff];simp only[Bool.and_eq_true,decide_eq_true_eq,Bool.not_eq_true',Bool.and_eq_false_iff,decide_eq_false_iff_not,Bool.not_false,and_true];constructor
    ·rintro⟨⟨⟨⟨a,b⟩,c⟩,d⟩,e⟩;exact⟨⟨⟨b,a⟩,d⟩,e⟩
    ·rintro⟨⟨⟨b,a⟩,d⟩,e⟩;refine⟨⟨⟨⟨a,b⟩,?_⟩,d⟩,e⟩;by_cases c:0<s.ring.cj
     ·right;intro g;exact g (adz a c)
     ·left;exact c
   unfold HK;rw[ady,adx,adw,MX ak,MX aC]
   cases zI s.pending s.flight s.cb s.ring.cj<;>cases decide (tg s.cb 0=s.ring.base)<;>cases decide (s.code=0)<;>cases uh s.flight s.sent<;>cases uh s.cb s.sent<;>cases decide (s.bg=BD s)<;>simp
def sC(c:ax):Prop:=0≤c.offset∧c.offset≤1000∧c.offset+(c.data.length:Int)≤1000
theorem NC{n:Int}{xs:List ax}{off:Int}{data:List UInt8}(h:∀c∈xs,sC c)(az:0≤off)(gF:off+(data.length:Int)≤1000):∀c∈lW n xs off data,sC c:=by
 unfold lW;split
 ·rename_i hk;intro c hc;obtain⟨r,hr,rfl⟩:=List.mem_map.1 hc;simp only[z4,Bool.and_eq_true,decide_eq_true_eq]at hk;have wY:0≤nb n off:=by unfold nb;split<;>omega
  have hin:=IB 1000 (j8 xs) ⟨nb n off,off+data.length⟩ ⟨wY,by show nb n off≤1000;omega,gF⟩ (fun x hx=>by
   obtain⟨d,hd,rfl⟩:=List.mem_map.1 hx;exact h d hd) r hr
  simp only[w1]at hin;refine⟨hin.1,hin.2.1,?_⟩
  show r.low+((my xs off data r.low (r.high-r.low).toNat).length:Int)≤1000
  rw[IC];omega
 ·exact h
theorem ND(n:Int)(xs:List ax)(off:Int)(data:List UInt8):(lW n xs off data).length≤xs.length+1:=by
 unfold lW;split
 ·rw[I];have:=ID (j8 xs) ⟨nb n off,off+data.length⟩;rw[EI]at this;exact this
 ·omega
theorem Vd{n:Int}{xs:List ax}{most:Int}(h:∀c∈xs,sC c):∀c∈fE n xs most,sC c:=by
 unfold fE;split
 ·exact h
 ·rename_i h1;split
  ·exact fun c hc=>h c (List.mem_of_mem_drop hc)
  ·rename_i h2;have hr:d5 n xs≠0:=by unfold eR at h1;omega
   obtain⟨_,hlt,az,ja,nR⟩:=yA hr;have hk:eR n xs most≤xs[0].data.length:=by unfold eR;omega
   have hx:=h xs[0] (List.getElem_mem hlt);intro c hc;rcases List.mem_cons.1 hc with rfl|hc
   ·simp only[sC]at hx⊢;rw[nR,List.length_drop];omega
   ·exact h c (List.mem_of_mem_drop hc)
theorem Ve(n:Int)(xs:List ax)(most:Int):(fE n xs most).length≤xs.length:=by
 unfold fE;split
 ·omega
 ·rename_i h1;have hr:d5 n xs≠0:=by unfold eR at h1;omega
  obtain⟨_,hlt,_⟩:=yA hr;split
  ·simp
  ·simp;omega
end Gv
