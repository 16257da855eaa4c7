/-
  Part of the proof: the machine, what functions compute, and the plain laws.
-/
import Derived.Test.YteehpcbpnlkfhaaGreatM01
import Derived.Test.YteehpcbpnlkfhaaGreatChecked
set_option maxHeartbeats 80000000
set_option maxRecDepth 100000
namespace Gv
open Go Go.Proofs Tryz IntKind
open _root_.And renaming intro->atp
open _root_.Go.IntKind renaming i64->arV
open _root_.List renaming range->pv,drop_length->auo,map_append->arO,sum_append->aAr,replicate->ea,size_toArray->arQ,getElem?_append_right->ak_,getElem?_append_left->arF,nodup_range->aup,append_assoc->ah_,mem_cons->rD,all_eq_true->ae_,mem_map->aa_,mem_filter->asC,count_cons->aAs,count_pos_iff->aAa,mem_of_getElem?->arW,getElem_of_mem->asn,getElem?_eq_some_iff->aj_,getElem?_set_ne->azR,all_eq_false->atF,mem_range->asl,range_succ->atq,all_append->atT,pairwise_iff_getElem->arY,foldl_append->arD,take_zero->aui,foldl_nil->azS,length->asy,length_singleton->asq,length_eq_zero_iff->arN,length_set->atU,foldl_cons->An,pairwise_cons->ag_,mem_singleton->jn,length_pos_iff->aq_,mem_of_getLast?->aut,drop_eq_getElem_cons->asV,getLast?_eq_getElem?->atm,take->atz,drop->atf,length_take->arJ,getLast?_eq_none_iff->auI,length_drop->ar_,map_singleton->atY,mem_of_mem_drop->atJ
open _root_.Nat renaming mul_add->auc,mul_one->aAI,add_sub_cancel->aAb,le_of_eq->asN
open _root_.Option renaming toList_some->ast
open _root_.Int renaming tmod_nonneg->atc,tmod_lt_of_pos->atk,natCast_zero->ay_,lt_irrefl->aAw,natCast_add->atd,le_refl->atA
open _root_.Bool renaming eq_iff_iff->asa,true_and->af_,false_and->ap_,not_eq_true'->ab_,and_eq_false_iff->arR
theorem χ{p:Prop}(h:p:=by kernel_rfl):p:=h
theorem bE:prog.follows .mixedOrders:=checked.mixed
theorem aT{p:Prop}(h:p:=by first|assumption|omega):p:=h
abbrev aM(f:FuncId)(a r:List AD):Prop:=PureCall prog f a r
abbrev D.i(x:Int):D:=.int .i64 x
attribute [go_sem,simp] D.i
abbrev V.i(x:Int):V:=.d (.int .i64 x)
def aK(S:List Bool)(k:Nat)(a:V):V:=bif S.getD k false then a else .an
attribute [go_sem,simp] V.i aK
@[go_sem] theorem arC:tyI prog 3=some (1,false)/\intI prog 3=some .i64/\tyI prog 4=some (1,false)/\isBoolI prog 4/\tyI prog 5=some (1,false)/\intI prog 5=some .u8/\tyI prog 9=some (1,false)/\isStrI prog 9/\tyI prog 22=some (1,false)/\elI prog 22=some (5,1,1)/\tyI prog 25=some (8,true)/\tyI prog 26=some (1,false)/\elI prog 26=some (74,39,352)/\tyI prog 28=some (4,true)/\tyI prog 30=some (6,true)/\tyI prog 32=some (3,true)/\tyI prog 34=some (4,true)/\tyI prog 35=some (1,false)/\elI prog 35=some (45,2,32)/\tyI prog 37=some (50,true)/\tyI prog 43=some (1,false)/\elI prog 43=some (56,9,80)/\tyI prog 45=some (2,true)/\tyI prog 56=some (9,true)/\tyI prog 60=some (1,false)/\elI prog 60=some (3,1,8)/\tyI prog 62=some (4,true)/\tyI prog 63=some (1,false)/\elI prog 63=some (139,2,16)/\tyI prog 65=some (12,true)/\tyI prog 66=some (1,false)/\elI prog 66=some (239,2,24)/\tyI prog 68=some (2,true)/\tyI prog 70=some (6,true)/\tyI prog 72=some (2,true)/\tyI prog 74=some (39,true)/\tyI prog 77=some (3,true)/\tyI prog 139=some (2,true)/\tyI prog 166=some (2,true)/\arI prog 166=some (2,1)/\elI prog 177=some (225,3,24)/\elI prog 210=some (9,1,16)/\tyI prog 225=some (3,true)/\tyI prog 239=some (2,true)/\fdI prog 25 0=some 0/\fdI prog 25 1=some 1/\fdI prog 25 2=some 2/\fdI prog 25 3=some 3/\fdI prog 25 4=some 4/\fdI prog 25 5=some 5/\fdI prog 25 6=some 6/\fdI prog 25 7=some 7/\fdI prog 28 0=some 0/\fdI prog 28 1=some 1/\fdI prog 28 2=some 2/\fdI prog 28 3=some 3/\fdI prog 30 0=some 0/\fdI prog 30 1=some 1/\fdI prog 30 2=some 2/\fdI prog 30 3=some 3:=by (repeat' apply atp)<;>kernel_rfl
@[go_sem] theorem asE:fdI prog 30 4=some 4/\fdI prog 30 5=some 5/\fdI prog 32 0=some 0/\fdI prog 32 1=some 1/\fdI prog 32 2=some 2/\fdI prog 34 0=some 0/\fdI prog 34 1=some 1/\fdI prog 34 2=some 2/\fdI prog 34 3=some 3/\fdI prog 37 0=some 0/\fdI prog 37 1=some 1/\fdI prog 37 2=some 9/\fdI prog 37 3=some 17/\fdI prog 37 4=some 18/\fdI prog 37 5=some 22/\fdI prog 37 6=some 28/\fdI prog 37 7=some 31/\fdI prog 37 8=some 34/\fdI prog 37 9=some 38/\fdI prog 37 10=some 42/\fdI prog 37 11=some 43/\fdI prog 37 12=some 44/\fdI prog 37 13=some 45/\fdI prog 37 14=some 46/\fdI prog 37 15=some 47/\fdI prog 37 16=some 48/\fdI prog 37 17=some 49/\fdI prog 45 0=some 0/\fdI prog 45 1=some 1/\fdI prog 56 0=some 0/\fdI prog 56 1=some 1/\fdI prog 56 2=some 2/\fdI prog 56 3=some 3/\fdI prog 56 4=some 4/\fdI prog 56 5=some 5/\fdI prog 56 6=some 6/\fdI prog 56 7=some 7/\fdI prog 56 8=some 8/\fdI prog 62 0=some 0/\fdI prog 62 1=some 1/\fdI prog 62 2=some 2/\fdI prog 62 3=some 3/\fdI prog 65 0=some 0/\fdI prog 65 1=some 1/\fdI prog 65 2=some 5/\fdI prog 65 3=some 6/\fdI prog 65 4=some 7/\fdI prog 65 5=some 8/\fdI prog 65 6=some 9/\fdI prog 65 7=some 10/\fdI prog 65 8=some 11/\fdI prog 68 0=some 0/\fdI prog 68 1=some 1/\fdI prog 70 0=some 0/\fdI prog 70 1=some 1/\fdI prog 70 2=some 3/\fdI prog 70 3=some 4/\fdI prog 70 4=some 5/\fdI prog 72 0=some 0/\fdI prog 72 1=some 1:=by (repeat' apply atp)<;>kernel_rfl
@[go_sem] theorem atE:fdI prog 74 0=some 0/\fdI prog 74 1=some 1/\fdI prog 74 2=some 13/\fdI prog 74 3=some 17/\fdI prog 74 4=some 23/\fdI prog 74 5=some 29/\fdI prog 74 6=some 31/\fdI prog 74 7=some 32/\fdI prog 74 8=some 33/\fdI prog 74 9=some 34/\fdI prog 74 10=some 35/\fdI prog 74 11=some 36/\fdI prog 74 12=some 37/\fdI prog 74 13=some 38/\fdI prog 77 0=some 0/\fdI prog 77 1=some 1/\fdI prog 77 2=some 2/\fdI prog 135 0=some 0/\fdI prog 135 1=some 1/\fdI prog 135 2=some 2/\fdI prog 139 0=some 0/\fdI prog 139 1=some 1/\fdI prog 225 0=some 0/\fdI prog 225 1=some 1/\fdI prog 239 0=some 0/\fdI prog 239 1=some 1/\zrI prog 3=some [.d (.int .i64 0)]/\zrI prog 5=some [.d (.int .u8 0)]/\zrI prog 9=some [.d (.str [])]/\zrI prog 25=some [.d (.int .i64 0),.d (.int .i64 0),.d (.int .i64 0),.d (.int .i64 0),.d (.int .i64 0),.d (.int .i64 0),.d (.int .i64 0),.d (.int .i64 0)]/\zrI prog 28=some [.d (.int .i64 0),.d (.int .i64 0),.d (.int .i64 0),.d (.int .i64 0)]/\zrI prog 30=some [.d (.int .i64 0),.d (.int .i64 0),.d (.int .i64 0),.d (.int .i64 0),.d (.int .i64 0),.d (.int .i64 0)]/\zrI prog 32=some [.d (.int .i64 0),.d (.int .i64 0),.d (.int .i64 0)]/\zrI prog 34=some [.d (.int .i64 0),.d (.int .i64 0),.d (.int .i64 0),.d (.int .i64 0)]/\zrI prog 37=some [.d (.bool false),.d (.int .i64 0),.d (.int .i64 0),.d (.int .i64 0),.d (.int .i64 0),.d (.int .i64 0),.d (.int .i64 0),.d (.int .i64 0),.d (.int .i64 0),.d (.int .i64 0),.d (.int .i64 0),.d (.int .i64 0),.d (.int .i64 0),.d (.int .i64 0),.d (.int .i64 0),.d (.int .i64 0),.d (.int .i64 0),.eg 39,.d (.int .i64 0),.d (.int .i64 0),.d (.int .i64 0),.d (.int .i64 0),.d (.int .i64 0),.d (.int .i64 0),.d (.int .i64 0),.d (.int .i64 0),.d (.int .i64 0),.d (.int .i64 0),.d (.int .i64 0),.d (.int .i64 0),.d (.int .i64 0),.d (.int .i64 0),.d (.int .i64 0),.d (.int .i64 0),.d (.int .i64 0),.d (.int .i64 0),.d (.int .i64 0),.d (.int .i64 0),.d (.int .i64 0),.d (.int .i64 0),.d (.int .i64 0),.d (.int .i64 0),.d (.bool false),.d (.bool false),.d (.bool false),.d (.int .i64 0),.d (.int .i64 0),.eg 2,.d (.int .i64 0),.d (.int .i64 0)]/\zrI prog 45=some [.d (.int .i64 0),.eg 9]/\zrI prog 56=some [.d (.int .i64 0),.d (.int .i64 0),.d (.int .i64 0),.d (.str []),.d (.bool false),.d (.int .i64 0),.d (.int .i64 0),.d (.int .i64 0),.d (.bool false)]/\zrI prog 62=some [.d (.int .i64 0),.d (.int .i64 0),.d (.int .i64 0),.eg 1]/\zrI prog 65=some [.d (.int .i64 0),.d (.int .i64 0),.d (.int .i64 0),.d (.int .i64 0),.eg 1,.eg 2,.eg 2,.eg 2,.d (.int .i64 0),.d (.int .i64 0),.d (.int .i64 0),.d (.int .i64 0)]/\zrI prog 68=some [.d (.int .i64 0),.eg 2]/\zrI prog 70=some [.d (.int .i64 0),.d (.int .i64 0),.eg 2,.d (.int .i64 0),.d (.int .i64 0),.d (.int .i64 0)]/\zrI prog 72=some [.d (.int .i64 0),.d (.bool false)]/\zrI prog 74=some [.d (.int .i64 0),.d (.int .i64 0),.d (.int .i64 0),.d (.int .i64 0),.d (.int .i64 0),.eg 1,.eg 2,.eg 2,.eg 2,.d (.int .i64 0),.d (.int .i64 0),.d (.int .i64 0),.d (.int .i64 0),.d (.int .i64 0),.d (.int .i64 0),.d (.int .i64 0),.d (.int .i64 0),.d (.int .i64 0),.d (.int .i64 0),.eg 2,.d (.int .i64 0),.d (.int .i64 0),.d (.int .i64 0),.d (.int .i64 0),.d (.int .i64 0),.d (.int .i64 0),.d (.int .i64 0),.d (.int .i64 0),.d (.int .i64 0),.d (.int .i64 0),.d (.bool false),.d (.bool false),.d (.bool false),.d (.bool false),.d (.bool false),.d (.bool false),.d (.bool false),.d (.int .i64 0),.d (.bool false)]/\zrI prog 77=some [.d (.int .i64 0),.d (.str []),.d (.bool false)]/\zrI prog 135=some [.eg 1,.d (.int .i64 0),.d (.int .i64 0)]/\zrI prog 139=some [.d (.int .i64 0),.d (.int .i64 0)]/\zrI prog 166=some [.d (.int .i64 0),.d (.int .i64 0)]/\zrI prog 225=some [.d (.int .i64 0),.d (.int .i64 0),.d (.bool false)]/\zrI prog 239=some [.d (.int .i64 0),.d (.str [])]/\(plI prog 25=some λj=>([(0,1),(1,1),(2,1),(3,1),(4,1),(5,1),(6,1),(7,1)]:List (Nat×Nat))[j]?)/\(plI prog 28=some λj=>([(0,1),(1,1),(2,1),(3,1)]:List (Nat×Nat))[j]?)/\(plI prog 30=some λj=>([(0,1),(1,1),(2,1),(3,1),(4,1),(5,1)]:List (Nat×Nat))[j]?)/\(plI prog 32=some λj=>([(0,1),(1,1),(2,1)]:List (Nat×Nat))[j]?)/\(plI prog 34=some λj=>([(0,1),(1,1),(2,1),(3,1)]:List (Nat×Nat))[j]?)/\(plI prog 37=some λj=>([(0,1),(1,8),(9,8),(17,1),(18,4),(22,6),(28,3),(31,3),(34,4),(38,4),(42,1),(43,1),(44,1),(45,1),(46,1),(47,1),(48,1),(49,1)]:List (Nat×Nat))[j]?)/\(plI prog 45=some λj=>([(0,1),(1,1)]:List (Nat×Nat))[j]?)/\(plI prog 56=some λj=>([(0,1),(1,1),(2,1),(3,1),(4,1),(5,1),(6,1),(7,1),(8,1)]:List (Nat×Nat))[j]?)/\(plI prog 62=some λj=>([(0,1),(1,1),(2,1),(3,1)]:List (Nat×Nat))[j]?)/\(plI prog 65=some λj=>([(0,1),(1,4),(5,1),(6,1),(7,1),(8,1),(9,1),(10,1),(11,1)]:List (Nat×Nat))[j]?)/\(plI prog 68=some λj=>([(0,1),(1,1)]:List (Nat×Nat))[j]?):=by (repeat' apply atp)<;>kernel_rfl
@[go_sem] theorem auD:(plI prog 70=some λj=>([(0,1),(1,2),(3,1),(4,1),(5,1)]:List (Nat×Nat))[j]?)/\(plI prog 72=some λj=>([(0,1),(1,1)]:List (Nat×Nat))[j]?)/\(plI prog 74=some λj=>([(0,1),(1,12),(13,4),(17,6),(23,6),(29,2),(31,1),(32,1),(33,1),(34,1),(35,1),(36,1),(37,1),(38,1)]:List (Nat×Nat))[j]?)/\(plI prog 77=some λj=>([(0,1),(1,1),(2,1)]:List (Nat×Nat))[j]?)/\(plI prog 135=some λj=>([(0,1),(1,1),(2,1)]:List (Nat×Nat))[j]?)/\(plI prog 139=some λj=>([(0,1),(1,1)]:List (Nat×Nat))[j]?)/\(plI prog 166=some λj=>some (j * 1,1))/\(plI prog 225=some λj=>([(0,1),(1,2)]:List (Nat×Nat))[j]?)/\(plI prog 239=some λj=>([(0,1),(1,1)]:List (Nat×Nat))[j]?):=by (repeat' apply atp)<;>kernel_rfl
@[go_sem] theorem auM:qP prog 25 [.i .i64,.i .i64,.i .i64,.i .i64,.i .i64,.i .i64,.i .i64,.i .i64]=True:=eq_true (EqOK_of χ χ χ χ χ)
@[go_sem] theorem auN:qP prog 28 [.i .i64,.i .i64,.i .i64,.i .i64]=True:=eq_true (EqOK_of χ χ χ χ χ)
@[go_sem] theorem auO:qP prog 30 [.i .i64,.i .i64,.i .i64,.i .i64,.i .i64,.i .i64]=True:=eq_true (EqOK_of χ χ χ χ χ)
@[go_sem] theorem auP:qP prog 32 [.i .i64,.i .i64,.i .i64]=True:=eq_true (EqOK_of χ χ χ χ χ)
@[go_sem] theorem auQ:qP prog 34 [.i .i64,.i .i64,.i .i64,.i .i64]=True:=eq_true (EqOK_of χ χ χ χ χ)
@[go_sem] theorem auR:qP prog 56 [.i .i64,.i .i64,.i .i64,.s,.b,.i .i64,.i .i64,.i .i64,.b]=True:=eq_true (EqOK_of χ χ χ χ χ)
@[go_sem] theorem auS:qP prog 72 [.i .i64,.b]=True:=eq_true (EqOK_of χ χ χ χ χ)
@[go_sem] theorem auT:qP prog 139 [.i .i64,.i .i64]=True:=eq_true (EqOK_of χ χ χ χ χ)
@[go_sem] theorem auU:qP prog 166 [.i .i64,.i .i64]=True:=eq_true (EqOK_of χ χ χ χ χ)
@[go_sem] theorem auV:qP prog 239 [.i .i64,.s]=True:=eq_true (EqOK_of χ χ χ χ χ)
theorem aW{f:FuncId}{fn:Func}{c:Code}{args res:List AD}(n:Nat)(hf:prog.funcs[f]?=some fn)(hcall:∀(args:Array Value) (w:World),(callFunc f args).run prog w=.ok (.enter f args) w)(rs:List ResultVar)(h:yC args->codeE prog [] c ⟨Ea args n,[]⟩ (b1 (ij prog rs res) .mk) [] (b1 (ij prog rs res) .mk))(hb:fn.body=some c:=by rfl)(hn:fn.ntmps=n:=by rfl)(hr:fn.results.toList=rs:=by rfl):PureCall prog f args res:=
 aif hf hb hcall bE _ (by rw[hn];exact Rb args n) rs hr h
theorem ayE{f:FuncId}{fn:Func}{c:Code}{args res:List AD}(n:Nat)(hf:prog.funcs[f]?=some fn)(hcall:∀(args:Array Value) (w:World),(callFunc f args).run prog w=.ok (.enter f args) w)(rs:List ResultVar)(h:codeE prog [] c ⟨Ea args n,[]⟩ (b1 (ij prog rs res) .mk) [] (b1 (ij prog rs res) .mk))(hb:fn.body=some c:=by rfl)(hn:fn.ntmps=n:=by rfl)(hr:fn.results.toList=rs:=by rfl):PureCall prog f args res:=aW n hf hcall rs (λ_=>h) hb hn hr
def bg(n:Int):List D:=[.int .i64 n]
def oS(s:List UInt8):List D:=[.str s]
def eU8(n:Int):List D:=[.int .u8 n]
theorem xa{α:Type}{f:α->List D}(h:∀a,(f a).all D.flat)(xs:List α):hP (xs.map f):=by simp[hP,h]
@[go_sem] theorem azh(xs:List Int):hP (xs.map bg):=xa (λ_=>rfl) xs
@[go_sem] theorem azi(xs:List (List UInt8)):hP (xs.map oS):=xa (λ_=>rfl) xs
structure e5 where
 aB:Int
 bL:Int
 nh:Int
 cn:Int
 ni:Int
 mz:Int
 fG:Int
 eU:Int
 deriving DecidableEq
def e5.enc(x:e5):List D:=[.int .i64 x.aB,.int .i64 x.bL,.int .i64 x.nh,.int .i64 x.cn,.int .i64 x.ni,.int .i64 x.mz,.int .i64 x.fG,.int .i64 x.eU]
@[go_sem] theorem azj(xs:List e5):hP (xs.map e5.enc):=xa (λ_=>rfl) xs
structure dk where
 size:Int
 base:Int
 bS:Int
 cells:List Int
 deriving DecidableEq
def dk.enc(x:dk):List D:=[.int .i64 x.size,.int .i64 x.base,.int .i64 x.bS,.sl 1 (x.cells.map bg)]
structure ab where
 low:Int
 high:Int
 deriving DecidableEq
def ab.enc(x:ab):List D:=[.int .i64 x.low,.int .i64 x.high]
@[go_sem] theorem azk(xs:List ab):hP (xs.map ab.enc):=xa (λ_=>rfl) xs
structure aD where
 bp:Int
 aB:dk
 bC:List ab
 bc:List ab
 bJ:List ab
 bf:Int
 aS:Int
 b0:Int
 cS:Int
 deriving DecidableEq
def aD.enc(x:aD):List D:=[.int .i64 x.bp,.int .i64 x.aB.size,.int .i64 x.aB.base,.int .i64 x.aB.bS,.sl 1 (x.aB.cells.map bg),.sl 2 (x.bC.map ab.enc),.sl 2 (x.bc.map ab.enc),.sl 2 (x.bJ.map ab.enc),.int .i64 x.bf,.int .i64 x.aS,.int .i64 x.b0,.int .i64 x.cS]
structure d6 where
 aX:Int
 dV:Int
 blocked:Int
 gA:Int
 deriving DecidableEq
def d6.enc(x:d6):List D:=[.int .i64 x.aX,.int .i64 x.dV,.int .i64 x.blocked,.int .i64 x.gA]
@[go_sem] theorem azl(xs:List d6):hP (xs.map d6.enc):=xa (λ_=>rfl) xs
structure aR where
 aP:Int
 data:List UInt8
 deriving DecidableEq
def aR.enc(x:aR):List D:=[.int .i64 x.aP,.str x.data]
@[go_sem] theorem azm(xs:List aR):hP (xs.map aR.enc):=xa (λ_=>rfl) xs
structure nX where
 next:Int
 cq:List aR
 deriving DecidableEq
def nX.enc(x:nX):List D:=[.int .i64 x.next,.sl 2 (x.cq.map aR.enc)]
structure cf where
 bp:Int
 bT:nX
 bf:Int
 fR:Int
 cS:Int
 deriving DecidableEq
def cf.enc(x:cf):List D:=[.int .i64 x.bp,.int .i64 x.bT.next,.sl 2 (x.bT.cq.map aR.enc),.int .i64 x.bf,.int .i64 x.fR,.int .i64 x.cS]
structure ej where
 size:Int
 cm:Int
 aX:Int
 seen:Int
 fa:Int
 k9:Int
 deriving DecidableEq
def ej.enc(x:ej):List D:=[.int .i64 x.size,.int .i64 x.cm,.int .i64 x.aX,.int .i64 x.seen,.int .i64 x.fa,.int .i64 x.k9]
@[go_sem] theorem azn(xs:List ej):hP (xs.map ej.enc):=xa (λ_=>rfl) xs
structure lG where
 ei:Int
 ic:Bool
 deriving DecidableEq
def lG.enc(x:lG):List D:=[.int .i64 x.ei,.bool x.ic]
@[go_sem] theorem azo(xs:List lG):hP (xs.map lG.enc):=xa (λ_=>rfl) xs
structure ae where
 id:Int
 ag:aD
 cL:d6
 aU:cf
 bL:ej
 cI:lG
 ft:Bool
 fS:Bool
 i4:Bool
 gK:Bool
 k_:Bool
 i5:Bool
 oe:Int
 gu:Bool
 deriving DecidableEq
def ae.enc(x:ae):List D:=[.int .i64 x.id,.int .i64 x.ag.bp,.int .i64 x.ag.aB.size,.int .i64 x.ag.aB.base,.int .i64 x.ag.aB.bS,.sl 1 (x.ag.aB.cells.map bg),.sl 2 (x.ag.bC.map ab.enc),.sl 2 (x.ag.bc.map ab.enc),.sl 2 (x.ag.bJ.map ab.enc),.int .i64 x.ag.bf,.int .i64 x.ag.aS,.int .i64 x.ag.b0,.int .i64 x.ag.cS,.int .i64 x.cL.aX,.int .i64 x.cL.dV,.int .i64 x.cL.blocked,.int .i64 x.cL.gA,.int .i64 x.aU.bp,.int .i64 x.aU.bT.next,.sl 2 (x.aU.bT.cq.map aR.enc),.int .i64 x.aU.bf,.int .i64 x.aU.fR,.int .i64 x.aU.cS,.int .i64 x.bL.size,.int .i64 x.bL.cm,.int .i64 x.bL.aX,.int .i64 x.bL.seen,.int .i64 x.bL.fa,.int .i64 x.bL.k9,.int .i64 x.cI.ei,.bool x.cI.ic,.bool x.ft,.bool x.fS,.bool x.i4,.bool x.gK,.bool x.k_,.bool x.i5,.int .i64 x.oe,.bool x.gu]
structure jf where
 aX:Int
 iy:Int
 blocked:Int
 deriving DecidableEq
def jf.enc(x:jf):List D:=[.int .i64 x.aX,.int .i64 x.iy,.int .i64 x.blocked]
@[go_sem] theorem azp(xs:List jf):hP (xs.map jf.enc):=xa (λ_=>rfl) xs
structure d9 where
 cm:Int
 aX:Int
 seen:Int
 cX:Int
 deriving DecidableEq
def d9.enc(x:d9):List D:=[.int .i64 x.cm,.int .i64 x.aX,.int .i64 x.seen,.int .i64 x.cX]
@[go_sem] theorem azq(xs:List d9):hP (xs.map d9.enc):=xa (λ_=>rfl) xs
structure al where
 aY:Int
 ax:Int
 aP:Int
 data:List UInt8
 aS:Bool
 cS:Int
 aX:Int
 bf:Int
 fG:Bool
 deriving DecidableEq
def al.enc(x:al):List D:=[.int .i64 x.aY,.int .i64 x.ax,.int .i64 x.aP,.str x.data,.bool x.aS,.int .i64 x.cS,.int .i64 x.aX,.int .i64 x.bf,.bool x.fG]
@[go_sem] theorem azr(xs:List al):hP (xs.map al.enc):=xa (λ_=>rfl) xs
structure aL where
 bU:Int
 bV:List al
 deriving DecidableEq
def aL.enc(x:aL):List D:=[.int .i64 x.bU,.sl 9 (x.bV.map al.enc)]
structure J where
 bq:Bool
 own:e5
 cP:e5
 aa:List ae
 cn:d6
 c7:ej
 eY:jf
 eZ:jf
 dB:d9
 dC:d9
 p2:Bool
 mA:Bool
 mB:Bool
 dw:Int
 bU:Int
 ai:List aL
 dA:Int
 cX:Int
 deriving DecidableEq
def J.enc(x:J):List D:=[.bool x.bq,.int .i64 x.own.aB,.int .i64 x.own.bL,.int .i64 x.own.nh,.int .i64 x.own.cn,.int .i64 x.own.ni,.int .i64 x.own.mz,.int .i64 x.own.fG,.int .i64 x.own.eU,.int .i64 x.cP.aB,.int .i64 x.cP.bL,.int .i64 x.cP.nh,.int .i64 x.cP.cn,.int .i64 x.cP.ni,.int .i64 x.cP.mz,.int .i64 x.cP.fG,.int .i64 x.cP.eU,.sl 39 (x.aa.map ae.enc),.int .i64 x.cn.aX,.int .i64 x.cn.dV,.int .i64 x.cn.blocked,.int .i64 x.cn.gA,.int .i64 x.c7.size,.int .i64 x.c7.cm,.int .i64 x.c7.aX,.int .i64 x.c7.seen,.int .i64 x.c7.fa,.int .i64 x.c7.k9,.int .i64 x.eY.aX,.int .i64 x.eY.iy,.int .i64 x.eY.blocked,.int .i64 x.eZ.aX,.int .i64 x.eZ.iy,.int .i64 x.eZ.blocked,.int .i64 x.dB.cm,.int .i64 x.dB.aX,.int .i64 x.dB.seen,.int .i64 x.dB.cX,.int .i64 x.dC.cm,.int .i64 x.dC.aX,.int .i64 x.dC.seen,.int .i64 x.dC.cX,.bool x.p2,.bool x.mA,.bool x.mB,.int .i64 x.dw,.int .i64 x.bU,.sl 2 (x.ai.map aL.enc),.int .i64 x.dA,.int .i64 x.cX]
structure bI where
 aP:Int
 data:List UInt8
 aS:Bool
 deriving DecidableEq
def bI.enc(x:bI):List D:=[.int .i64 x.aP,.str x.data,.bool x.aS]
@[go_sem] theorem azs(xs:List bI):hP (xs.map bI.enc):=xa (λ_=>rfl) xs
structure ch where
 id:Int
 cI:lG
 deriving DecidableEq
def ch.enc(x:ch):List D:=[.int .i64 x.id,.int .i64 x.cI.ei,.bool x.cI.ic]
@[go_sem] theorem azt(xs:List ch):hP (xs.map ch.enc):=xa (λ_=>rfl) xs
def J.bx(x:J):List V:=[.d (.bool x.bq),.i x.own.aB,.i x.own.bL,.i x.own.nh,.i x.own.cn,.i x.own.ni,.i x.own.mz,.i x.own.fG,.i x.own.eU,.i x.cP.aB,.i x.cP.bL,.i x.cP.nh,.i x.cP.cn,.i x.cP.ni,.i x.cP.mz,.i x.cP.fG,.i x.cP.eU,.d (.sl 39 (x.aa.map ae.enc)),.i x.cn.aX,.i x.cn.dV,.i x.cn.blocked,.i x.cn.gA,.i x.c7.size,.i x.c7.cm,.i x.c7.aX,.i x.c7.seen,.i x.c7.fa,.i x.c7.k9,.i x.eY.aX,.i x.eY.iy,.i x.eY.blocked,.i x.eZ.aX,.i x.eZ.iy,.i x.eZ.blocked,.i x.dB.cm,.i x.dB.aX,.i x.dB.seen,.i x.dB.cX,.i x.dC.cm,.i x.dC.aX,.i x.dC.seen,.i x.dC.cX,.d (.bool x.p2),.d (.bool x.mA),.d (.bool x.mB),.i x.dw,.i x.bU,.d (.sl 2 (x.ai.map aL.enc)),.i x.dA,.i x.cX]
def J.a2(x:J)(fE cA:V):List V:=[.d (.bool x.bq),.i x.own.aB,.i x.own.bL,.i x.own.nh,.i x.own.cn,.i x.own.ni,.i x.own.mz,.i x.own.fG,.i x.own.eU,.i x.cP.aB,.i x.cP.bL,.i x.cP.nh,.i x.cP.cn,.i x.cP.ni,.i x.cP.mz,.i x.cP.fG,.i x.cP.eU,fE,.i x.cn.aX,.i x.cn.dV,.i x.cn.blocked,.i x.cn.gA,.i x.c7.size,.i x.c7.cm,.i x.c7.aX,.i x.c7.seen,.i x.c7.fa,.i x.c7.k9,.i x.eY.aX,.i x.eY.iy,.i x.eY.blocked,.i x.eZ.aX,.i x.eZ.iy,.i x.eZ.blocked,.i x.dB.cm,.i x.dB.aX,.i x.dB.seen,.i x.dB.cX,.i x.dC.cm,.i x.dC.aX,.i x.dC.seen,.i x.dC.cX,.d (.bool x.p2),.d (.bool x.mA),.d (.bool x.mB),.i x.dw,.i x.bU,cA,.i x.dA,.i x.cX]
abbrev H.azG(x:J)(k l:Nat):H:=.box (J.a2 x (.sl k 0 x.aa.length) (.sl l 0 x.ai.length))
attribute [go_sem,simp] H.azG
def J.ca:List V:=[.d (.bool false),.i 0,.i 0,.i 0,.i 0,.i 0,.i 0,.i 0,.i 0,.i 0,.i 0,.i 0,.i 0,.i 0,.i 0,.i 0,.i 0,.eg 39,.i 0,.i 0,.i 0,.i 0,.i 0,.i 0,.i 0,.i 0,.i 0,.i 0,.i 0,.i 0,.i 0,.i 0,.i 0,.i 0,.i 0,.i 0,.i 0,.i 0,.i 0,.i 0,.i 0,.i 0,.d (.bool false),.d (.bool false),.d (.bool false),.i 0,.i 0,.eg 2,.i 0,.i 0]
attribute [go_sem,simp] J.enc J.bx J.a2 J.ca
def ae.bx(x:ae):List V:=[.i x.id,.i x.ag.bp,.i x.ag.aB.size,.i x.ag.aB.base,.i x.ag.aB.bS,.d (.sl 1 (x.ag.aB.cells.map bg)),.d (.sl 2 (x.ag.bC.map ab.enc)),.d (.sl 2 (x.ag.bc.map ab.enc)),.d (.sl 2 (x.ag.bJ.map ab.enc)),.i x.ag.bf,.i x.ag.aS,.i x.ag.b0,.i x.ag.cS,.i x.cL.aX,.i x.cL.dV,.i x.cL.blocked,.i x.cL.gA,.i x.aU.bp,.i x.aU.bT.next,.d (.sl 2 (x.aU.bT.cq.map aR.enc)),.i x.aU.bf,.i x.aU.fR,.i x.aU.cS,.i x.bL.size,.i x.bL.cm,.i x.bL.aX,.i x.bL.seen,.i x.bL.fa,.i x.bL.k9,.i x.cI.ei,.d (.bool x.cI.ic),.d (.bool x.ft),.d (.bool x.fS),.d (.bool x.i4),.d (.bool x.gK),.d (.bool x.k_),.d (.bool x.i5),.i x.oe,.d (.bool x.gu)]
def ae.a2(x:ae)(fE cA db c0 eo:V):List V:=[.i x.id,.i x.ag.bp,.i x.ag.aB.size,.i x.ag.aB.base,.i x.ag.aB.bS,fE,cA,db,c0,.i x.ag.bf,.i x.ag.aS,.i x.ag.b0,.i x.ag.cS,.i x.cL.aX,.i x.cL.dV,.i x.cL.blocked,.i x.cL.gA,.i x.aU.bp,.i x.aU.bT.next,eo,.i x.aU.bf,.i x.aU.fR,.i x.aU.cS,.i x.bL.size,.i x.bL.cm,.i x.bL.aX,.i x.bL.seen,.i x.bL.fa,.i x.bL.k9,.i x.cI.ei,.d (.bool x.cI.ic),.d (.bool x.ft),.d (.bool x.fS),.d (.bool x.i4),.d (.bool x.gK),.d (.bool x.k_),.d (.bool x.i5),.i x.oe,.d (.bool x.gu)]
def ae.ca:List V:=[.i 0,.i 0,.i 0,.i 0,.i 0,.eg 1,.eg 2,.eg 2,.eg 2,.i 0,.i 0,.i 0,.i 0,.i 0,.i 0,.i 0,.i 0,.i 0,.i 0,.eg 2,.i 0,.i 0,.i 0,.i 0,.i 0,.i 0,.i 0,.i 0,.i 0,.i 0,.d (.bool false),.d (.bool false),.d (.bool false),.d (.bool false),.d (.bool false),.d (.bool false),.d (.bool false),.i 0,.d (.bool false)]
attribute [go_sem,simp] ae.enc ae.bx ae.a2 ae.ca
def aD.bx(x:aD):List V:=[.i x.bp,.i x.aB.size,.i x.aB.base,.i x.aB.bS,.d (.sl 1 (x.aB.cells.map bg)),.d (.sl 2 (x.bC.map ab.enc)),.d (.sl 2 (x.bc.map ab.enc)),.d (.sl 2 (x.bJ.map ab.enc)),.i x.bf,.i x.aS,.i x.b0,.i x.cS]
def aD.a2(x:aD)(fE cA db c0:V):List V:=[.i x.bp,.i x.aB.size,.i x.aB.base,.i x.aB.bS,fE,cA,db,c0,.i x.bf,.i x.aS,.i x.b0,.i x.cS]
def aD.ca:List V:=[.i 0,.i 0,.i 0,.i 0,.eg 1,.eg 2,.eg 2,.eg 2,.i 0,.i 0,.i 0,.i 0]
attribute [go_sem,simp] aD.enc aD.bx aD.a2 aD.ca
def cf.bx(x:cf):List V:=[.i x.bp,.i x.bT.next,.d (.sl 2 (x.bT.cq.map aR.enc)),.i x.bf,.i x.fR,.i x.cS]
def cf.a2(x:cf)(fE:V):List V:=[.i x.bp,.i x.bT.next,fE,.i x.bf,.i x.fR,.i x.cS]
def cf.ca:List V:=[.i 0,.i 0,.eg 2,.i 0,.i 0,.i 0]
attribute [go_sem,simp] cf.enc cf.bx cf.a2 cf.ca
def al.bx(x:al):List V:=[.i x.aY,.i x.ax,.i x.aP,.d (.str x.data),.d (.bool x.aS),.i x.cS,.i x.aX,.i x.bf,.d (.bool x.fG)]
def al.ca:List V:=[.i 0,.i 0,.i 0,.d (.str []),.d (.bool false),.i 0,.i 0,.i 0,.d (.bool false)]
attribute [go_sem,simp] al.enc al.bx al.ca
def ej.bx(x:ej):List V:=[.i x.size,.i x.cm,.i x.aX,.i x.seen,.i x.fa,.i x.k9]
def ej.ca:List V:=[.i 0,.i 0,.i 0,.i 0,.i 0,.i 0]
attribute [go_sem,simp] ej.enc ej.bx ej.ca
def e5.bx(x:e5):List V:=[.i x.aB,.i x.bL,.i x.nh,.i x.cn,.i x.ni,.i x.mz,.i x.fG,.i x.eU]
def e5.ca:List V:=[.i 0,.i 0,.i 0,.i 0,.i 0,.i 0,.i 0,.i 0]
attribute [go_sem,simp] e5.enc e5.bx e5.ca
abbrev H.azu(x:List Int):H:=.ay 1 (x.map bg) true
abbrev H.azv(x:List ab):H:=.ay 2 (x.map ab.enc) true
abbrev H.azw(x:List aL):H:=.ay 2 (x.map aL.enc) true
abbrev H.azx(x:List ae):H:=.ay 39 (x.map ae.enc) true
abbrev H.azy(x:List al):H:=.ay 9 (x.map al.enc) true
abbrev D.azz(x:List Int):D:=.sl 1 (x.map eU8)
abbrev D.azA(x:List ab):D:=.sl 2 (x.map ab.enc)
abbrev D.azB(x:List aR):D:=.sl 2 (x.map aR.enc)
abbrev D.azC(x:List aL):D:=.sl 2 (x.map aL.enc)
abbrev D.azD(x:List ae):D:=.sl 39 (x.map ae.enc)
abbrev D.azE(x:List al):D:=.sl 9 (x.map al.enc)
abbrev D.azF(x:List ch):D:=.sl 3 (x.map ch.enc)
attribute [go_sem,simp] H.azu H.azv H.azw H.azx H.azy D.azz D.azA D.azB D.azC D.azD D.azE D.azF
theorem b_{α:Type}(f:α->List D)(xs:List α)(i:Nat)(h:i<xs.length):(xs.map f)[i]?=some (f xs[i]):=by simp[h]
theorem d8{i m:Nat}(h:i<m)(hm:m<=maxLen):i64.wrap ((i:Int)+1)=((i+1:Nat):Int):=by
 simp only[maxLen]at hm;rw[bw]<;>omega
theorem HT{n:Int}(h:dOk (.i n)):-9223372036854775808<=n/\n<=9223372036854775807:=by
 have h1:arV.min=-9223372036854775808:=by decide
 have h2:arV.max=9223372036854775807:=by decide
 simp only[dOk,h1,h2]at h;exact h
theorem afp{α:Type}{xs ys:List α}{i:Nat}(he:xs.take i=ys.take i)(hx:i<xs.length)(hy:i<ys.length)(h:xs[i]=ys[i]):xs.take (i+1)=ys.take (i+1):=by
 rw[gO,gO,he,cy hx,cy hy,h]
theorem gw{α:Type}{e:α->List D}{sz:Nat}{xs:List α}{rs:List AD}(h:yC (.one (.sl sz (xs.map e))::rs)):xs.length<=maxLen:=by
 have:=h.1.1;rwa [I]at this
def amb(k:Int):Int:=i64.wrap (k+1)
def pL:Nat->Int->Int
 |0,k=>k
 |n+1,k=>amb (pL n k)
theorem Tl(b:Nat)(k:Int):∀a,pL (a+b) k=pL a (pL b k)
 |0=>by simp[pL]
 |a+1=>by rw[Nat.add_right_comm,pL,Tl b k a];rfl
section
variable {α:Type} (mk:Int->α) (c:Nat)
def EI(k:Int)(xs:List α)(i:Nat):List α:=(pv i).map (λj=>mk (pL (c * j) k))++xs.drop i
theorem amc(k:Int)(xs:List α)(i:Nat)(h:i<=xs.length):(EI mk c k xs i).length=xs.length:=by simp[EI];omega
@[go_sem] theorem amd(k:Int)(xs:List α):(EI mk c k xs xs.length).length=xs.length:=amc mk c k xs _ (fH _)
@[go_sem] theorem ayG(e:α->List D)(k:Int)(xs:List α):((EI mk c k xs xs.length).map e).take xs.length=(EI mk c k xs xs.length).map e:=eA (by simp[amd])
def J' [DecidableEq α]:Int->List α->Int
 |k,[]=>k
 |k,x::xs=>if x=mk k then J' (pL c k) xs else -1
theorem aba [DecidableEq α]:∀(n:Nat) (k:Int),J' mk c k ((pv n).map λj=>mk (pL (c * j) k))=pL (c * n) k
 |0,k=>by simp[J',pL]
 |n+1,k=>by
  rw[List.range_succ_eq_map,fe,List.map_map,J',if_pos (by simp[pL])];have:((λj=>mk (pL (c * j) k))∘Nat.succ)=λj=>mk (pL (c * j) (pL c k)):=by
   funext j
   simp only[Function.comp,Nat.succ_eq_add_one,auc,aAI,Tl]
  rw[this,aba n (pL c k),<-Tl,auc,aAI]
theorem ame [DecidableEq α](k:Int)(xs:List α):J' mk c k (EI mk c k xs xs.length)=pL (c * xs.length) k:=by
 unfold EI;rw[auo,ix];exact aba mk c _ _
attribute [go_sem] ame
end
section
variable {α:Type}
end
def nk{α:Type}(f:α->Nat)(xs:List α):Nat:=(xs.map f).sum
theorem amf{α:Type}(f:α->Nat)(xs:List α)(i:Nat)(h:i<xs.length):nk f (xs.take (i+1))=nk f (xs.take i)+f xs[i]:=by
 unfold nk;rw[gO,cy h];simp only[ast,arO,fe,List.map_nil,aAr,List.sum_cons,List.sum_nil,Nat.add_zero]
theorem amg{α:Type}(f:α->Nat)(xs:List α)(i:Nat):nk f (xs.take i)<=nk f xs:=by
 unfold nk
 conv=>rhs;rw[<-List.take_append_drop i xs]
 simp only[arO,aAr];omega
theorem HZ{α:Type}(f:α->Nat)(xs:List α)(i:Nat)(h:i<xs.length):f xs[i]<=nk f xs:=by
 have h1:=amf f xs i h;have h2:=amg f xs (i+1);omega
section
variable {α:Type}
def G3(mk:Int->α->α)(C1:Int->α->Int):Int->List α->List α
 |_,[]=>[]
 |k,x::xs=>mk k x::G3 mk C1 (C1 k x) xs
variable (mk:Int->α->α) (C1:Int->α->Int)
theorem Tm:∀(xs:List α) (k:Int),(G3 mk C1 k xs).length=xs.length
 |[],_=>rfl
 |x::xs,k=>by simp[G3,Tm xs]
@[go_sem] theorem ayH(k:Int)(xs:List α):(G3 mk C1 k xs).length=xs.length:=Tm mk C1 xs k
@[go_sem] theorem ayI(e:α->List D)(k:Int)(xs:List α):((G3 mk C1 k xs).map e).take xs.length=(G3 mk C1 k xs).map e:=eA (by simp[Tm])
end
theorem c2(a b:Bool):(bif a then b else false)=(a&&b):=by cases a<;>rfl
theorem d1(a b:Bool):(bif a then true else b)=(a||b):=by cases a<;>rfl
theorem fu{a b:Bool}(h:a↔b):[AD.one (D.bool a)]=[AD.one (D.bool b)]:=by
 have:a=b:=by cases a<;>cases b<;>simp_all
 rw[this]
@[go_sem] theorem ayJ:ofVal (.pointer none)=.an:=rfl
def dk.fy(x:dk):Nat:=x.cells.length
def aD.fy(x:aD):Nat:=dk.fy x.aB+x.bC.length+x.bc.length+x.bJ.length
def aR.fy(x:aR):Nat:=x.data.length
def nX.fy(x:nX):Nat:=(x.cq.length+nk aR.fy x.cq)
def cf.fy(x:cf):Nat:=nX.fy x.bT
def ae.fy(x:ae):Nat:=aD.fy x.ag+cf.fy x.aU
def al.fy(x:al):Nat:=x.data.length
def aL.fy(x:aL):Nat:=(x.bV.length+nk al.fy x.bV)
def J.fy(x:J):Nat:=(x.aa.length+nk ae.fy x.aa)+(x.ai.length+nk aL.fy x.ai)
structure afE where
 bytes:List Int
 fa:Int
 deriving DecidableEq
def cd(n cr hi:Int):Bool:=decide (cr<=n)&&decide (n<=hi)
theorem lS(n cr hi:Int):aM 69 [.one (.i n),.one (.i cr),.one (.i hi)] [.one (.bool (cd n cr hi))]:=by
 refine aW 15 func69 call69 [.tmp 6] ?_;intro _;simp only[go_sem]
 repeat((first|apply bo|apply fY);simp only[go_sem])
 simp[cd]
theorem j7(n cr hi:Int):aM 51 [.one (.i n),.one (.i cr),.one (.i hi)] [.one (.bool (cd n cr hi))]:=by
 refine aW 15 func51 call51 [.tmp 6] ?_;intro _;simp only[go_sem]
 repeat((first|apply bo|apply fY);simp only[go_sem])
 simp[cd]
section
variable {P:Program}
def Cc(P:Program)(f:FuncId)(args:List AD)(Q:List AD->Prop):Prop:=
 ∀(w:World) (us:List Value) (F:List Nat),GOk w.heap->areps w.heap false args us F->Does P f us.toArray w λv w'=>
  ∃res,Q res/\∃F',Bel (λb=>w.heap.size<=b) w w'/\trep w'.heap true res v F'/\F'.Nodup/\∀b∈F',w.heap.size<=b
def Kf(P:Program)(rs:List ResultVar)(Q:List AD->Prop)(σ:St):Prop:=∃res,Q res/\ij P rs res σ
theorem QI{f:FuncId}{fn:Func}{c:Code}{args:List AD}{Q:List AD->Prop}(hf:P.funcs[f]?=some fn)(hb:fn.body=some c)(hcall:∀(args:Array Value) (w:World),(callFunc f args).run P w=.ok (.enter f args) w)(hm:P.follows .mixedOrders)(ts:List V)
  (hn:args.map AD.xL++ea (fn.ntmps-args.length) .an=ts) (rs:List ResultVar) (hr:fn.results.toList=rs) (h0:yC args->codeE P [] c ⟨ts,[]⟩ (b1 (Kf P rs Q) .mk) [] (b1 (Kf P rs Q) .mk)):Cc P f args Q:=by
 intro w us F hg ha;have h:=h0 (Nm _ _ _ ha);clear h0;subst hr;subst hn;have fU:us.length=args.length:=(SG args us F 0 ha).1;have aS:∀(σ:St) (a:Act) (w':World),Kf P fn.results.toList Q σ->fX (λb=>w.heap.size<=b) w [] σ a w'->a.defers=[]/\∃v,(results fn a.tmps).run P w'=.ok v w'/\
   ∃res,Q res/\∃F',Bel (λb=>w.heap.size<=b) w w'/\trep w'.heap true res v F'/\F'.Nodup/\∀b∈F',w.heap.size<=b:=by
  rintro σ a w' ⟨res,hq,Bh⟩ ⟨a0,φ,r,_⟩;obtain⟨v,F',h1,h2,ao,aH⟩:=SD r Bh;exact⟨r.pg,v,h1,res,hq,F',r.hR,h2,ao,λb hb=>(aH b hb).1⟩
 refine Does.enter (hcall _ _) (calls_of_wp hf hb ?_);refine JE (B:=λb=>w.heap.size<=b) (w0:=w) (kp:=[]) (kv:=[]) rfl hm c _ (Kf P fn.results.toList Q) [] (Kf P fn.results.toList Q) _ _ w (λσ a w' h' dR=>?_) (λid σ a w' h' _=>h'.elim) (λσ a w' h' dR=>?_) h ?_
 ·exact aS σ a w' h' dR
 ·exact aS σ a w' h' dR
 have:=SF hg ha (fn.ntmps-args.length) [] ξ;have hs:us.toArray.size=args.length:=by rw[arQ,fU]
 rw[hs];exact this
theorem Cc.inl{f:FuncId}{G8:List AD}{Q:List AD->Prop}{kv:List V}{hs:List H}{vs:List V}{K:V->List H->Prop}(h:Cc P f G8 Q)(ah:toADs hs vs=some G8)(hk:∀rs,Q rs->K (pG rs hs.length) (hnew hs hs.length (aHs rs))):et P f kv hs vs K:=by
 intro B w0 kp us w b' a1;obtain⟨a0,φ,r,bD⟩:=a1;obtain⟨F,bG⟩:=ML (St.le.refl ⟨vs,hs⟩) r vs G8 us ah (by simpa using r.jA);refine(h w us F r.RJ bG).mono ?_;rintro v w' ⟨res,hq,F',ak,ar,a4,bP⟩;obtain⟨bl,jk,lF⟩:=RF ar;have l0:∀i,hs.length<=i->i<hs.length+(aHs res).length->¬a0 i:=λi hi _ hd=>by have:=bD i hd;simp at this;omega
 obtain⟨du,hA,fO⟩:=RH (n:=hs.length) r (λi hi h2=>l0 i hi h2) ak ⟨jk.1,jk.2.1,jk.2.2.1⟩ a4 bP;refine⟨_,_,hk res hq,_,du,⟨?_,fO.kp,fO.hp,fO.dQ,fO.eI,fO.gH,fO.iS,fO.hR,fO.bs,rfl,fO.np⟩,?_⟩
 ·simp only[VRels];exact⟨v,[],rfl,lF du hs.length _ hA,rfl⟩
 intro i hi;have h1:=IY (aHs res) hs hs.length;rcases hi with hi|hi
 ·have:=bD i hi;simp at this⊢;omega
 rcases h1.2 with h2|h2
 ·rw[h2]at hi;simp at hi;omega
 simp at hi⊢;omega
theorem af.zH{kv:List V}{σ:St}{dst:Option Tmp}{K:St->Prop}{f:FuncId}{vs:List V}{CI:Option (List AD)}{G8:List AD}{Q:List AD->Prop}(h:Cc P f G8 Q)(ah:toADs σ.heap vs=some G8)
  (hk:∀rs,Q rs->K ⟨g9 σ.tmps dst (pG rs σ.heap.length),hnew σ.heap σ.heap.length (aHs rs)⟩):af P kv σ dst f [] CI vs K:=
 af.inl (by rw[ix];exact Cc.inl h ah hk)
end
section
variable {P:Program} {kv:List V} {c:Code} {σ:St} {K K2:St->Prop} {aw:List (Nat×(St->Prop))} {dc:St->Prop}
def BM:Nat->Code->Code
 |k+1,.seq a b=>.seq a (BM k b)
 |_,_=>.skip
def Dj:Nat->Code->Code
 |k+1,.seq _ b=>Dj k b
 |_,c=>c
@[go_sem] theorem aqj(k:Nat)(a b:Code):BM (k+1) (.seq a b)=.seq a (BM k b):=by rw[BM]
@[go_sem] theorem aqk(c:Code):BM 0 c=.skip:=by cases c<;>rfl
@[go_sem] theorem Cg(k:Nat)(a b:Code):Dj (k+1) (.seq a b)=Dj k b:=by rw[Dj]
@[go_sem] theorem Ch(c:Code):Dj 0 c=c:=by cases c<;>rfl
def hG(P:Program)(kv:List V)(c:Code)(σ:St)(K:St->Prop)(aw:List (Nat×(St->Prop)))(dc:St->Prop):Prop:=
 ∀(B:Nat->Prop) (w0:World) (kp:List (V×Value)) (Q:Exit->Act->World->Prop) (a:Act) (w:World),kp.map (·.1)=kv->
  (∀σ a w,K σ->fX B w0 kp σ a w->Q .normal a w)->aad B w0 kp Q aw->(∀σ a w,dc σ->fX B w0 kp σ a w->Q .ret a w)->fX B w0 kp σ a w->c.wp P Q a w
theorem gJ(hm:P.follows .mixedOrders)(h:codeE P kv c σ K aw dc):hG P kv c σ K aw dc:=λ_ _ _ Q a w b' cg dm a1 r=>JE b' hm c σ K aw dc Q a w cg dm a1 h r
theorem UX(hm:P.follows .mixedOrders):∀(k:Nat) (c:Code) (σ:St),codeE P kv (BM k c) σ K2 aw dc->(∀σ',K2 σ'->hG P kv (Dj k c) σ' K aw dc)->hG P kv c σ K aw dc
 |0,c,σ,h1,h2=>by rw[aqk]at h1;have:=h2 σ h1;rwa [Ch]at this
 |k+1,c,σ,h1,h2=>by
  cases c with
  |seq a b=>
   rw[aqj]at h1;intro B w0 kp Q u w b' cg dm a1 r;refine wp_seq (JE b' hm a σ (λσ'=>codeE P kv (BM k b) σ' K2 aw dc) aw dc _ u w (λσ' a' w' h' dR=>?_) (λid σ' a' w' h' dR=>dm id σ' a' w' h' dR) (λσ' a' w' h' dR=>a1 σ' a' w' h' dR) h1 r);exact UX hm k b σ' h' (λo3 hk=>by have:=h2 o3 hk;rwa [Cg]at this) B w0 kp Q a' w' b' cg dm a1 dR
  |_=>exact h2 σ h1
theorem L7{ρ:List Nat}{σ':St}(hs:lz kv ρ σ σ')(h:hG P kv c σ' K aw dc):hG P kv c σ K aw dc:=λB w0 kp Q a w b' cg dm a1 r=>h B w0 kp Q a w b' cg dm a1 (D0 b' hs r)
def cZ{α:Type}(kv:List V)(hJ:α->St)(im:α->Prop)(σ:St):Prop:=∃x ρ,im x/\lz kv ρ σ (hJ x)
theorem cZ.intro{α:Type}{hJ:α->St}{im:α->Prop}(x:α)(ρ:List Nat)(h1:im x)(h2:lz kv ρ σ (hJ x)):cZ kv hJ im σ:=⟨x,ρ,h1,h2⟩
theorem eE{α:Type}(hm:P.follows .mixedOrders)(k:Nat)(hJ:α->St)(im:α->Prop)(h1:codeE P kv (BM k c) σ (b1 (cZ kv hJ im) .mk) aw dc)(h2:∀x,im x->hG P kv (Dj k c) (hJ x) K aw dc):hG P kv c σ K aw dc:=
 UX hm k c σ h1 λ_ ⟨x,_,hp,hs⟩=>L7 hs (h2 x hp)
theorem Dz{id:Nat}(h:hG P kv c σ K ((id,K)::aw) dc):hG P kv (.block id c) σ K aw dc:=by
 intro B w0 kp Q a w b' cg dm a1 r;refine wp_block (h B w0 kp _ a w b' (λσ' a' w' h' dR=>cg σ' a' w' h' dR) (λrO σ' a' w' h' dR=>?_) (λσ' a' w' h' dR=>a1 σ' a' w' h' dR) r);simp only[outE]at h';simp only[Exit.inBlock];by_cases hi:rO=id
 ·rw[if_pos hi];rw[if_pos hi]at h';exact cg σ' a' w' h' dR
 rw[if_neg hi];rw[if_neg hi]at h';exact dm rO σ' a' w' h' dR
theorem VF{α:Type}(hJ:α->St)(k0:α->Nat)(im:α->Prop)(x:α)(ρ:List Nat)(hp:im x)(hs:lz kv ρ σ (hJ x))(Eu:∀x,im x->hG P kv c (hJ x) (b1 (bt kv hJ k0 im x) .mk) aw dc):hG P kv (.loop c) σ K aw dc:=by
 intro B w0 kp Q a w b' cg dm a1 r;refine wp_loop_ghost (λn a w=>∃x,im x/\k0 x=n/\fX B w0 kp (hJ x) a w) (k0 x) ⟨x,hp,rfl,D0 b' hs r⟩ ?_;rintro n a w ⟨x,hp,rfl,r⟩;refine Eu x hp B w0 kp _ a w b' (λσ' a' w' h' dR=>?_) (λid σ' a' w' h' dR=>dm id σ' a' w' h' dR) (λσ' a' w' h' dR=>a1 σ' a' w' h' dR) r;obtain⟨o3,SB,y,yP,h1,h2,ao⟩:=h';exact⟨k0 y,h2,y,h1,rfl,D0 b' ao (GD SB dR)⟩
end
section
variable {P:Program}
theorem aql{f:FuncId}{fn:Func}{c:Code}{args res:List AD}(hf:P.funcs[f]?=some fn)(hb:fn.body=some c)(hcall:∀(args:Array Value) (w:World),(callFunc f args).run P w=.ok (.enter f args) w)(ts:List V)
  (hn:args.map AD.xL++ea (fn.ntmps-args.length) .an=ts) (rs:List ResultVar) (hr:fn.results.toList=rs) (h0:yC args->hG P [] c ⟨ts,[]⟩ (b1 (ij P rs res) .mk) [] (b1 (ij P rs res) .mk)):PureCall P f args res:=by
 intro w us F hg ha;have h:=h0 (Nm _ _ _ ha);clear h0;subst hr;subst hn;have fU:us.length=args.length:=(SG args us F 0 ha).1;have aS:∀(σ:St) (a:Act) (w':World),ij P fn.results.toList res σ->fX (λb=>w.heap.size<=b) w [] σ a w'->a.defers=[]/\∃v,(results fn a.tmps).run P w'=.ok v w'/\
   ∃F',Bel (λb=>w.heap.size<=b) w w'/\trep w'.heap true res v F'/\F'.Nodup/\∀b∈F',w.heap.size<=b:=by
  rintro σ a w' Bh ⟨a0,φ,r,_⟩;obtain⟨v,F',h1,h2,ao,aH⟩:=SD r Bh;exact⟨r.pg,v,h1,F',r.hR,h2,ao,λb hb=>(aH b hb).1⟩
 refine Does.enter (hcall _ _) (calls_of_wp hf hb ?_);refine h (λb=>w.heap.size<=b) w [] _ _ w rfl (λσ a w' h' dR=>?_) (λid σ a w' h' _=>h'.elim) (λσ a w' h' dR=>?_) ?_
 ·exact aS σ a w' h' dR
 ·exact aS σ a w' h' dR
 have:=SF hg ha (fn.ntmps-args.length) [] ξ;have hs:us.toArray.size=args.length:=by rw[arQ,fU]
 rw[hs];exact this
end
theorem m_{P:Program}{f:FuncId}{fn:Func}{c:Code}{args res:List AD}(n:Nat)(hf:P.funcs[f]?=some fn)(hcall:∀(args:Array Value) (w:World),(callFunc f args).run P w=.ok (.enter f args) w)(rs:List ResultVar)
  (h:yC args->hG P [] c ⟨Ea args n,[]⟩ (b1 (ij P rs res) .mk) [] (b1 (ij P rs res) .mk)) (hb:fn.body=some c:=by rfl) (hn:fn.ntmps=n:=by rfl) (hr:fn.results.toList=rs:=by rfl):PureCall P f args res:=
 aql hf hb hcall _ (by rw[hn];exact Rb args n) rs hr h
section
variable {P:Program} {kv:List V} {c:Code} {σ:St} {K:St->Prop} {aw:List (Nat×(St->Prop))} {dc:St->Prop}
theorem abb{B:Nat->Prop}{w0:World}{kp:List (V×Value)}{a:Act}{w:World}{id sz:Nat}{xs:List (List D)}(h:a6 σ.heap id=.aj sz xs)(r:fX B w0 kp σ a w):fX B w0 kp ⟨σ.tmps,cF σ.heap id (.ay sz xs true)⟩ a w:=by
 obtain⟨a0,φ,r,bD⟩:=r;have hg:∀i,i≠id->a6 (cF σ.heap id (.ay sz xs true)) i=a6 σ.heap i:=λi hi=>by rw[jh,if_neg hi]
 have Bw:a6 (cF σ.heap id (.ay sz xs true)) id=.ay sz xs true:=by rw[jh,if_pos rfl]
 refine⟨a0,φ,A6 r (λi=>i=id) a0 φ _ w (λi hi=>⟨hg i hi,rfl⟩) (p6.refl φ) (fH _) (λ_ _ _=>rfl) ?_ ?_ (λi j b hi aI _ _=>hi.trans aI.symm) ?_ ?_ r.iS r.hR,λi hi=>Nat.lt_of_lt_of_le (bD i hi) (Jd _ _ _).1⟩
 ·rintro i rfl b ⟨β,e,aG⟩;refine Or.inr ⟨i,rfl,β,e,?_⟩;rw[Bw]at aG;rw[h];exact aG.imp (λq=>⟨rfl,q.2⟩) (λq=>⟨rfl,q.2⟩)
 ·rintro i rfl β e b ht;refine Or.inr ⟨i,β,rfl,e,?_⟩;rw[Bw]at ht;rw[h];rcases ht with ⟨_,q⟩|⟨q,_⟩
  ·exact Or.inl ⟨rfl,q⟩
  cases q
 ·rintro i β rfl e _;exact r.eI i β e (by rw[h];rfl)
 rintro i rfl;rcases r.hp i with hd|⟨β,e,hr⟩
 ·rw[h]at hd;cases hd
 refine Or.inr ⟨β,e,?_⟩;rw[Bw];rw[h]at hr;simp only[eR]at hr⊢;obtain⟨q,hr⟩:=hr;refine⟨q,hr.imp id ?_⟩;rintro⟨b,aZ,bA,c9,dn⟩;exact⟨b,β.eb,aZ,bA,c9,dn,λ_=>rfl,λq=>by cases q⟩
theorem Fl(id:Nat){sz:Nat}{xs:List (List D)}(h:a6 σ.heap id=.aj sz xs)(hg:hG P kv c ⟨σ.tmps,cF σ.heap id (.ay sz xs true)⟩ K aw dc):hG P kv c σ K aw dc:=λB w0 kp Q a w b' cg dm a1 r=>hg B w0 kp Q a w b' cg dm a1 (abb h r)
end
theorem Qi:ofVal (.int .u64 33)=.d (.int .u64 33):=rfl
theorem Qj:ofVal (.int .u64 45)=.d (.int .u64 45):=rfl
theorem Qk(k:IntKind)(x y:Int):shI .shr k x y=some (0<=y,.d (.int k (x.fdiv (2^min y.toNat k.bits)))):=rfl
theorem Ic(x:Int):0<=bitI .and .i64 x 255/\bitI .and .i64 x 255<=255:=by
 have h:((BitVec.ofInt arV.bits x &&& BitVec.ofInt arV.bits 255).toNat:Int)<=255:=by
  have:(BitVec.ofInt arV.bits x &&& BitVec.ofInt arV.bits 255).toNat<=255:=by
   rw[BitVec.toNat_and];exact Nat.le_trans Nat.and_le_right ζ
  omega
 have e:bitI .and .i64 x 255=((BitVec.ofInt arV.bits x &&& BitVec.ofInt arV.bits 255).toNat:Int):=by
  unfold bitI;simp only;rw[bw]<;>omega
 rw[e];omega
def eM(bs:List Int)(i:Nat)(h:Int):H:=.box [.d (.azz bs),.i i,.i h]
theorem lC(hs:List H)(x:H):cF hs hs.length x=hs++[x]:=by unfold cF;simp
theorem g4(hs ys:List H)(n:Nat)(x:H):cF (hs++ys) (hs.length+n) x=hs++cF ys n x:=by
 unfold cF;by_cases h:n<ys.length
 ·simp[h]
 simp[h,Nat.add_sub_add_left]
theorem jQ(hs ys:List H)(x:H):cF (hs++ys) hs.length x=hs++cF ys 0 x:=g4 hs ys 0 x
theorem gq(hs ys:List H)(n:Nat):a6 (hs++ys) (hs.length+n)=a6 ys n:=by
 unfold a6;rw[lU,lU,ak_ ω,Nat.add_sub_cancel_left]
theorem iA(hs ys:List H):a6 (hs++ys) hs.length=a6 ys 0:=gq hs ys 0
def qJ(ρ:List Nat)(m:Nat):Prop:=∀i,i<m->ρ.getD i 0=i
theorem BR{m n:Nat}(h:m<=n):qJ (pv n) m:=λi hi=>by
 have:i<n:=by omega
 simp[this]
theorem Ql{m n:Nat}(h:m<=n)(r:List Nat):qJ (pv n++r) m:=λi hi=>by
 have:i<n:=by omega
 rw[lU,arF (by simpa using this)];simp[this]
mutual
theorem Qm{ρ:List Nat}{m:Nat}(hf:qJ ρ m):∀(v:V),vok m v->ren ρ v=v
 |.an,_=>rfl
 |.d _,_=>rfl
 |.eg _,_=>rfl
 |.agg vs,h=>by simp only[vok]at h;simp only[ren,LD hf vs h]
 |.ptr id _ _,h=>by simp only[vok]at h;simp only[ren,hf id h]
 |.gF _ _,_=>rfl
 |.sl id _ _,h=>by simp only[vok]at h;simp only[ren,hf id h]
 |.fn _ vs,h=>by simp only[vok]at h;simp only[ren,LD hf vs h]
 |.e8 vs,h=>by simp only[vok]at h;simp only[ren,LD hf vs h]
 |.b9 _ v,h=>by simp only[vok]at h;simp only[ren,Qm hf v h]
theorem LD{ρ:List Nat}{m:Nat}(hf:qJ ρ m):∀(vs:List V),b3 m vs->rens ρ vs=vs
 |[],_=>rfl
 |v::vs,h=>by simp only[b3]at h;simp only[rens,Qm hf v h.1,LD hf vs h.2]
end
mutual
theorem Qn{m n:Nat}(h:m<=n):∀(v:V),vok m v->vok n v
 |.an,_=>by simp[vok]
 |.d _,_=>by simp[vok]
 |.eg _,_=>by simp[vok]
 |.agg vs,k=>by simp only[vok]at k⊢;exact qw h vs k
 |.ptr id _ _,k=>by simp only[vok]at k⊢;omega
 |.gF _ _,_=>by simp[vok]
 |.sl id _ _,k=>by simp only[vok]at k⊢;omega
 |.fn _ vs,k=>by simp only[vok]at k⊢;exact qw h vs k
 |.e8 vs,k=>by simp only[vok]at k⊢;exact qw h vs k
 |.b9 _ v,k=>by simp only[vok]at k⊢;exact Qn h v k
theorem qw{m n:Nat}(h:m<=n):∀(vs:List V),b3 m vs->b3 n vs
 |[],_=>by simp[b3]
 |v::vs,k=>by simp only[b3]at k⊢;exact⟨Qn h v k.1,qw h vs k.2⟩
end
theorem HK{m:Nat}:∀{xs ys:List V},b3 m xs->b3 m ys->b3 m (xs++ys)
 |[],_,_,h=>h
 |x::xs,ys,h,k=>by simp only[b3]at h;simp only[cx,b3];exact⟨h.1,HK h.2 k⟩
def eN(m:Nat):H->Prop
 |.box cs=>b3 m cs
 |.h3 _ _ _ _=>False
 |_=>True
def e4(m:Nat):List H->Prop
 |[]=>True
 |x::xs=>eN m x/\e4 m xs
theorem rk{m n:Nat}(h:m<=n)(x:H)(k:eN m x):eN n x:=by
 unfold eN at *;split at k
 ·exact qw h _ k
 ·exact k.elim
 trivial
theorem DZ{m n:Nat}(h:m<=n):∀{xs:List H},e4 m xs->e4 n xs
 |[],_=>trivial
 |x::_,k=>⟨rk h x k.1,DZ h k.2⟩
theorem Ie{m:Nat}:∀{xs ys:List H},e4 m xs->e4 m ys->e4 m (xs++ys)
 |[],_,_,h=>h
 |_::_,_,h,k=>⟨h.1,Ie h.2 k⟩
theorem FM{m:Nat}:∀{xs:List H},e4 m xs->oQ m xs
 |[],_=>trivial
 |x::xs,k=>⟨by cases x<;>first|exact k.1|trivial,FM k.2⟩
theorem W2{ρ:List Nat}{m:Nat}(hf:qJ ρ m){v:V}(h:vok m v):vsee ρ v v:=by
 unfold vsee;split
 ·trivial
 exact Qm hf _ h
theorem yd{ρ:List Nat}{m n:Nat}(hf:qJ ρ m)(hn:m<=n):∀{kv:List V},b3 m kv->yc ρ n kv
 |[],_=>trivial
 |v::vs,h=>by
  simp only[b3]at h;exact⟨⟨W2 hf h.1,Qn hn v h.1⟩,yd hf hn h.2⟩
theorem W3{ρ:List Nat}{m:Nat}(hf:qJ ρ m):∀{vs:List V},b3 m vs->vsees ρ vs vs
 |[],_=>trivial
 |v::vs,h=>by simp only[b3]at h;exact⟨W2 hf h.1,W3 hf h.2⟩
theorem FL{ρ:List Nat}{m:Nat}(hf:qJ ρ m):∀{x:H},eN m x->hsee ρ x x
 |.ek,_=>trivial
 |.box cs,h=>by simp only[hsee];exact W3 hf h
 |.ay _ _ _,_=>⟨rfl,rfl,rfl⟩
 |.lk _ _,_=>⟨rfl,rfl⟩
 |.aj _ _,_=>⟨rfl,rfl⟩
theorem LF{ρ:List Nat}{m:Nat}(hf:qJ ρ m)(hs:List H):∀(gG:List Nat) (xs:List H),gG.length=xs.length->(∀k,k<xs.length->∃x,xs[k]?=some x/\a6 hs (gG.getD k 0)=x/\eN m x)->hsees ρ hs gG xs
 |[],[],_,_=>trivial
 |i::gG,x::xs,hl,h=>by
  refine⟨?_,LF hf hs gG xs (by simpa using hl) λk hk=>?_⟩
  ·obtain⟨y,h1,h2,ao⟩:=h 0 ξ;simp only[kf,cc]at h1;subst h1;simp only[gh]at h2;rw[h2];exact FL hf ao
  obtain⟨y,h1,h2,ao⟩:=h (k+1) (by simpa using hk);exact⟨y,by simpa using h1,by simpa using h2,ao⟩
theorem LG{m:Nat}:∀{xs:List H} {k:Nat} {x:H},e4 m xs->xs[k]?=some x->eN m x
 |[],_,_,_,h=>by simp at h
 |y::ys,0,x,k,h=>by simp at h;subst h;exact k.1
 |y::ys,n+1,x,k,h=>LG (xs:=ys) k.2 (by simpa using h)
theorem LH{hs:List H}{i:Nat}{x:H}(h:hs[i]?=some x):a6 hs i=x:=by unfold a6;rw[lU,h];rfl
theorem Fx{kv ts ts':List V}{hs ex:List H}(hr:e4 hs.length hs)(b':b3 hs.length kv)(ht:vsees (pv hs.length) ts' ts)(ox:b3 hs.length ts'):lz kv (pv hs.length) ⟨ts,hs++ex⟩ ⟨ts',hs⟩:=by
 have hf:qJ (pv hs.length) hs.length:=BR (fH _);refine⟨aup,ht,LF hf _ _ _ ξ λk hk=>?_,ox,FM hr,yd hf (fH _) b'⟩;refine⟨hs[k],cy hk,?_,LG hr (cy hk)⟩;have:(pv hs.length).getD k 0=k:=hf k hk;rw[this];exact LH (by rw[arF hk];exact cy hk)
theorem Lt{kv ts ts':List V}{hs:List H}(hr:e4 hs.length hs)(b':b3 hs.length kv)(ht:vsees (pv hs.length) ts' ts)(ox:b3 hs.length ts'):lz kv (pv hs.length) ⟨ts,hs⟩ ⟨ts',hs⟩:=by
 have:=Fx (ex:=[]) hr b' ht ox
 rwa [ix]at this
theorem agn(m:Nat)(bs:List Int)(i:Nat)(h:Int):eN m (eM bs i h):=by simp[eM,eN,b3,vok]
theorem LI{bs:List Int}{i:Nat}{h:Int}{pre bM ex:List H}{kv ts ts':List V}(hr:e4 (pre.length+(bM.length+1)) pre/\e4 (pre.length+(bM.length+1)) bM)(b':b3 (pre.length+(bM.length+1)) kv)(ht:vsees (pv (pre.length+(bM.length+1))) ts' ts)(ox:b3 (pre.length+(bM.length+1)) ts'):lz kv (pv (pre.length+(bM.length+1))) ⟨ts,pre++eM bs i h::(bM++ex)⟩ ⟨ts',pre++eM bs i h::bM⟩:=by
 have e:(pre++eM bs i h::bM).length=pre.length+(bM.length+1):=by simp
 have:=Fx (hs:=pre++eM bs i h::bM) (ex:=ex) (ts:=ts) (ts':=ts') (kv:=kv) (by rw[e];exact Ie hr.1 ⟨agn _ _ _ _,hr.2⟩) (by rw[e];exact b') (by rw[e];exact ht) (by rw[e];exact ox);rw[e,ah_]at this;exact this
theorem ago{bs:List Int}{i:Nat}{h:Int}{pre bM:List H}{kv ts ts':List V}(hr:e4 (pre.length+(bM.length+1)) pre/\e4 (pre.length+(bM.length+1)) bM)(b':b3 (pre.length+(bM.length+1)) kv)(ht:vsees (pv (pre.length+(bM.length+1))) ts' ts)(ox:b3 (pre.length+(bM.length+1)) ts'):lz kv (pv (pre.length+(bM.length+1))) ⟨ts,pre++eM bs i h::bM⟩ ⟨ts',pre++eM bs i h::bM⟩:=by
 have:=LI (bs:=bs) (i:=i) (h:=h) (ex:=[]) hr b' ht ox
 rwa [ix]at this
theorem W4(p r:Nat):(pv (p+(r+1))).getD p 0=p:=BR (fH _) p ω
theorem W5(n k:Nat)(l:List Nat):(pv n++k::l).getD n 0=k:=by
 rw[lU,ak_ ξ];simp
def x'(kv:List V)(K:V->List H->Prop)(x:V)(hs':List H):Prop:=∃ρ x2 lV,lz kv ρ ⟨[x],hs'⟩ ⟨[x2],lV⟩/\K x2 lV
theorem et.xc{P:Program}{f:FuncId}{kv:List V}{hs:List H}{vs:List V}{K:V->List H->Prop}(h:et P f kv hs vs (x' kv K)):et P f kv hs vs K:=by
 intro B w0 kp us w b' a1;exact(h B w0 kp us w b' a1).mono λv w' ⟨x,hs',⟨ρ,x2,lV,h1,h2⟩,ao⟩=>⟨x2,lV,h2,D0 b' h1 ao⟩
def W6:List (List bK):=cB 13 [1564919,1564917,1564911,1564893,1564839,1594201,1593715,1592257,1587883,1574761,1535274,1417176,1062882]
def W7:List (List bK):=cB 10 [49247,49245,49239,49221,59008,58846,58360,56902,52528,39366]
def W8:List (List bK):=cB 15 [14083187,14339185,14339179,14339161,14339107,14348785,14348299,14346841,14342467,14329225,14289859,14171761,13817466,12754584,9565938]
attribute [go_sem] W6 W7 W8
theorem Ig(bs:List Int)(hm:bs.length<=maxLen)(i:Nat)(h:Int)(pre bM:List H)(kv:List V)(K:V->List H->Prop)(hi:i<=bs.length)
  (hk:∀(eL:Nat) (h' x:Int),eL<=bs.length->0<=x->x<=255->K (.i x) (pre++eM bs eL h'::bM)):et prog 130 kv (pre++eM bs i h::bM) [.ptr pre.length 0 0] K:=by
 refine(gi (n:=58) (rs:=[.tmp 2]) func130 rfl call130 bE rfl rfl ?_);simp only[eM]at hk⊢;simp only[go_sem,iA,jQ]
 try simp only[go_sem,iA,jQ,I,Qi,Qj,Qk]
 repeat'((first|refine a7 W6 χ ψ ?_|refine a7 W7 χ ψ ?_|refine a7 W8 χ ψ ?_|refine bX (λh=>?_) (λh=>?_))<;>simp only[go_sem,iA,I,Qi,Qj,Qk])
 ·have hlt:i<bs.length:=by
   have:=cY h;omega
  have az:=b_ eU8 bs i hlt
  try simp only[go_sem,iA,jQ,aF,az,eU8]
  repeat'(first|refine⟨ae7,?_⟩|fail)
  rw[d8 hlt hm];exact hk _ _ _ ω (Ic _).1 (Ic _).2
 ·exact hk _ _ _ hi (Ic _).1 (Ic _).2
theorem W9{x n:Int}(hx:0<=x)(hn:0<n):0<=x.tmod n/\x.tmod n<n:=⟨atc _ hx,atk _ hn⟩
theorem nE(bs:List Int)(hm:bs.length<=maxLen)(i:Nat)(h:Int)(pre bM:List H)(kv:List V)(n:Int)(hn:0<n)(zy:n<=4294967296)(K:V->List H->Prop)(hi:i<=bs.length)
  (hk:∀(eL:Nat) (h' x:Int),eL<=bs.length->0<=x->x<n->K (.i x) (pre++eM bs eL h'::bM)):et prog 75 kv (pre++eM bs i h::bM) [.ptr pre.length 0 0,.i n] K:=by
 refine(gi (n:=37) (rs:=[.tmp 4]) func75 rfl call75 bE rfl rfl ?_);simp only[go_sem];refine bX (λh1=>?_) (λ_=>?_)
 ·have:=cY h1;omega
 simp only[go_sem];refine bX (λ_=>?_) (λh1=>?_)
 ·simp only[go_sem];refine af.inl (Ig bs hm i h pre bM _ _ hi λhE h1 x1 cA eH c1=>?_);simp only[go_sem];refine⟨by omega,?_⟩;have:=W9 eH hn;exact hk _ _ _ cA this.1 this.2
 have hb:=de h1;simp only[go_sem];refine af.inl (Ig bs hm i h pre bM _ _ hi λhE h1 x1 cA eH c1=>?_);simp only[go_sem];refine af.inl (Ig bs hm hE h1 pre bM _ _ cA λfT h2 x2 db eG cW=>?_);simp only[go_sem];refine af.inl (Ig bs hm fT h2 pre bM _ _ db λgR ao jz c0 eX gn=>?_);simp only[go_sem];refine af.inl (Ig bs hm gR ao pre bM _ _ c0 λnj aH W_ eo mW rE=>?_);simp only[go_sem];refine⟨by omega,?_⟩;rw[bw (n:=x1 * 16777216) ω ω,bw (n:=x2 * 65536) ω ω,bw (n:=jz * 256) ω ω,bw (n:=x1 * 16777216+x2 * 65536) ω ω,bw (n:=x1 * 16777216+x2 * 65536+jz * 256) ω ω,bw (n:=x1 * 16777216+x2 * 65536+jz * 256+W_) ω ω];have:=W9 (x:=x1 * 16777216+x2 * 65536+jz * 256+W_) ω hn;exact hk _ _ _ eo this.1 this.2
theorem B2(bs:List Int)(hm:bs.length<=maxLen)(i:Nat)(h:Int)(pre bM:List H)(kv:List V)(n:Int)(hn:0<n)(zy:n<=4294967296)(K:V->List H->Prop)(hi:i<=bs.length)
  (hk:∀(eL:Nat) (h':Int) (b:Bool),eL<=bs.length->K (.d (.bool b)) (pre++eM bs eL h'::bM)):et prog 74 kv (pre++eM bs i h::bM) [.ptr pre.length 0 0,.i n] K:=by
 refine(gi (n:=9) (rs:=[.tmp 4]) func74 rfl call74 bE rfl rfl ?_);simp only[go_sem];refine af.inl (nE bs hm i h pre bM _ n hn zy _ hi λhE h1 x1 cA eH c1=>?_);simp only[go_sem];exact hk _ _ _ cA
theorem HL(bs:List Int)(hm:bs.length<=maxLen)(i:Nat)(h:Int)(pre bM:List H)(kv:List V)(id:Nat)(xs:List Int)(he:a6 bM id=.azu xs)(hn:0<xs.length)(zy:xs.length<=1000)(K:V->List H->Prop)(hi:i<=bs.length)
  (hk:∀(eL:Nat) (h' x:Int),eL<=bs.length->x∈xs->K (.i x) (pre++eM bs eL h'::bM)):et prog 123 kv (pre++eM bs i h::bM) [.ptr pre.length 0 0,.sl (pre.length+(id+1)) 0 xs.length] K:=by
 refine(gi (n:=12) (rs:=[.tmp 4]) func123 rfl call123 bE rfl rfl ?_);simp only[go_sem];refine af.inl (nE bs hm i h pre bM _ xs.length ω ω _ hi λhE h1 x1 cA eH c1=>?_);obtain⟨k,rfl⟩:=mU eH;have hlt:k<xs.length:=by omega
 have az:=b_ bg xs k hlt;simp only[go_sem,gq,he,az,aF,I,bg];refine⟨⟨by omega,by omega⟩,?_⟩;exact⟨hlt,hk _ _ _ cA (eK hlt)⟩
theorem Xa(bs:List Int)(hm:bs.length<=maxLen)(i:Nat)(h:Int)(pre bM:List H)(kv:List V)(id:Nat)(xs:List (List UInt8))(he:a6 bM id=.ay 1 (xs.map oS) true)(hn:0<xs.length)(zy:xs.length<=1000)(K:V->List H->Prop)(hi:i<=bs.length)
  (hk:∀(eL:Nat) (h':Int) (x:List UInt8),eL<=bs.length->x∈xs->K (.d (.str x)) (pre++eM bs eL h'::bM)):et prog 231 kv (pre++eM bs i h::bM) [.ptr pre.length 0 0,.sl (pre.length+(id+1)) 0 xs.length] K:=by
 refine(gi (n:=12) (rs:=[.tmp 4]) func231 rfl call231 bE rfl rfl ?_);simp only[go_sem];refine af.inl (nE bs hm i h pre bM _ xs.length ω ω _ hi λhE h1 x1 cA eH c1=>?_);obtain⟨k,rfl⟩:=mU eH;have hlt:k<xs.length:=by omega
 have az:=b_ oS xs k hlt;simp only[go_sem,gq,he,az,aF,I,oS];refine⟨⟨by omega,by omega⟩,?_⟩;exact⟨hlt,hk _ _ _ cA (eK hlt)⟩
theorem agp{x:List UInt8}(h:x∈[[97],[98],[99],[100]]):x.length=1:=by
 simp only[rD,List.not_mem_nil,or_false]at h;rcases h with rfl|rfl|rfl|rfl<;>rfl
theorem Xb(bs:List Int)(hm:bs.length<=maxLen)(i:Nat)(h:Int)(pre bM:List H)(kv:List V)(cm:Nat)(hr:e4 (pre.length+(bM.length+1)) pre/\e4 (pre.length+(bM.length+1)) bM)(b':b3 (pre.length+(bM.length+1)) kv)(hb:cm<=1000)(K:V->List H->Prop)(hi:i<=bs.length)
  (hk:∀(eL:Nat) (h':Int) (s:List UInt8),eL<=bs.length->s.length<=cm->K (.d (.str s)) (pre++eM bs eL h'::bM)):et prog 226 kv (pre++eM bs i h::bM) [.ptr pre.length 0 0,.i cm] K:=by
 refine(gi (n:=21) (rs:=[.tmp 4]) func226 rfl call226 bE rfl rfl ?_);simp only[go_sem];rw[bw (n:=(cm:Int)+1) ω ω];refine af.inl (nE bs hm i h pre bM _ ((cm:Int)+1) ω ω _ hi λhE h1 x1 cA eH c1=>?_);obtain⟨k,rfl⟩:=mU eH;simp only[go_sem];refine cb.intro (α:=Nat×Int×Nat×List UInt8) (λy=>⟨(.ptr pre.length 0 0::.i cm::.an::.an::.d (.str [])::.d (.str y.2.2.2)::.i y.2.2.1::aA 14 []),pre++eM bs y.1 y.2.1::bM⟩)
  (λy=>y.2.2.1) (λy=>y.1<=bs.length/\y.2.2.1+y.2.2.2.length<=cm) (hE,h1,k,[]) (pv (pre.length+(bM.length+1))) ⟨cA,by simp;omega⟩ ?_ ?_
 ·exact ago hr b' (by simp[vsees,vsee,ren]) (by simp[b3,vok])
 rintro⟨fT,h2,n,s⟩ ⟨iN,hs⟩;simp only at hs;simp only[go_sem];refine bX (λq=>?_) (λq=>?_)
 ·have hn:=cY q;simp only[go_sem,lC,g4];refine af.inl (Xa bs hm fT h2 pre (bM++[.ay 1 ([[97],[98],[99],[100]].map oS) true]) _ bM.length [[97],[98],[99],[100]] (by rw[iA];rfl) ζ ζ _ iN λgR ao x c0 eX=>?_);have hl:=agp eX;simp only[go_sem];refine⟨by simp only[maxLen];omega,?_⟩;rw[bw (n:=(n:Int)-1) ω ω];refine bt.intro (gR,ao,n-1,s++x) (pv (pre.length+(bM.length+1))) ⟨c0,by simp only[eh];omega⟩ (show n-1<n by omega) ?_;have e:((n-1:Nat):Int)=(n:Int)-1:=by omega
  simp only[e];exact LI hr b' (by simp[vsees,vsee,ren]) (by simp[b3,vok])
 simp only[go_sem];exact hk _ _ _ iN ω
theorem Xc(bs:List Int)(hm:bs.length<=maxLen)(pre:List H)(kv:List V)(hr:e4 pre.length pre)(b':b3 pre.length kv)(K:V->List H->Prop)
  (hk:∀(h':Int),K (.ptr pre.length 0 0) (pre++[eM bs 0 h'])):et prog 61 kv pre [.d (.azz bs)] K:=by
 refine(gi (n:=32) (rs:=[.tmp 2]) func61 rfl call61 bE rfl rfl ?_);simp only[go_sem,I];refine cb.intro (α:=Nat×Int) (λy=>⟨(.d (.azz bs)::.an::.an::.i y.2::.i y.1::aA 27 []),pre⟩)
  (λy=>bs.length-y.1) (λy=>y.1<=bs.length) (0,i64.wrap (10101+(bs.length:Int))) (pv pre.length) ξ ?_ ?_
 ·exact Lt hr b' (by simp[vsees,vsee,ren]) (by simp[b3,vok])
 rintro⟨i,g⟩ hi;simp only at hi;simp only[go_sem,I]
 try simp only[go_sem,I]
 repeat'((first|apply bo|refine bX (λh=>?_) (λh=>?_))<;>simp only[go_sem,I])
 ·have hlt:i<bs.length:=by
   rcases Nat.lt_or_ge i bs.length with hlt|qL
   ·exact hlt
   rw[bn ω]at h;cases h
  have az:=b_ eU8 bs i hlt
  try simp only[go_sem,az,aF,eU8]
  repeat'(first|refine⟨ae7,?_⟩|fail)
  rw[d8 hlt hm];refine bt.intro (i+1,bitI .and .i64 (i64.wrap (i64.wrap (i64.wrap (g * 131)+i64.wrap bs[i])+7)) 1073741823) (pv pre.length) (show i+1<=bs.length by omega) (show bs.length-(i+1)<bs.length-i by omega) ?_;exact Lt hr b' (by simp[vsees,vsee,ren]) (by simp[b3,vok])
 ·rw[lC];exact hk _
theorem Qo{ρ:List Nat}{hs:List H}:∀{gG LJ:List Nat} {xs ys:List H},hsees ρ hs gG xs->hsees ρ hs LJ ys->hsees ρ hs (gG++LJ) (xs++ys)
 |[],LJ,[],ys,_,h=>h
 |[],_,_::_,_,h,_=>by simp[hsees]at h
 |_::_,_,[],_,h,_=>by simp[hsees]at h
 |i::gG,LJ,x::xs,ys,h,k=>by
  simp only[hsees]at h;exact⟨h.1,Qo h.2 k⟩
theorem Qp{m:Nat}:∀{xs ys:List H},oQ m xs->oQ m ys->oQ m (xs++ys)
 |[],_,_,h=>h
 |_::_,_,h,k=>⟨h.1,Qp h.2 k⟩
theorem qI(n j:Nat)(l:List Nat):(pv n++l).getD (n+j) 0=l.getD j 0:=by
 rw[lU,ak_ ξ,lU];simp
theorem P2{kv ts ts':List V}{hs ex ex':List H}(p3:List Nat)(hnd:p3.Nodup)(qL:∀k∈p3,hs.length<=k)(hr:e4 hs.length hs)(hx:hsees (pv hs.length++p3) (hs++ex) p3 ex')(Ih:oQ (hs.length+ex'.length) ex')(b':b3 hs.length kv)(ht:vsees (pv hs.length++p3) ts' ts)(ox:b3 (hs.length+ex'.length) ts') :
  lz kv (pv hs.length++p3) ⟨ts,hs++ex⟩ ⟨ts',hs++ex'⟩:=by
 have hf:qJ (pv hs.length++p3) hs.length:=Ql (fH _) _;have hl:(hs++ex').length=hs.length+ex'.length:=by simp
 refine⟨?_,ht,Qo (LF hf _ _ _ ξ λj aI=>?_) hx,by rw[hl];exact ox,?_,by rw[hl];exact yd hf ω b'⟩
 ·rw[List.nodup_append];refine⟨aup,hnd,λa ha b hb=>?_⟩;have:=qL b hb;simp at ha;omega
 ·refine⟨hs[j],cy aI,?_,LG hr (cy aI)⟩;have:(pv hs.length).getD j 0=j:=BR (fH _) j aI;rw[this];exact LH (by rw[arF aI];exact cy aI)
 rw[hl];exact Qp (FM (DZ ω hr)) Ih
theorem Ws(ρ:List Nat):∀B7:List V,vsees ρ (ea B7.length .an) B7
 |[]=>trivial
 |_::B7=>⟨trivial,Ws ρ B7⟩
theorem P3(m:Nat):∀k,b3 m (ea k .an)
 |0=>trivial
 |k+1=>⟨trivial,P3 m k⟩
theorem Q5{P:Program}{f:FuncId}{fn:Func}{c:Code}{kv:List V}{hs:List H}{vs:List V}{K:V->List H->Prop}{n:Nat}(hf:P.funcs[f]?=some fn)(hb:fn.body=some c)(hcall:∀(args:Array Value) (w:World),(callFunc f args).run P w=.ok (.enter f args) w)
  (hn:fn.ntmps=n) {rs:List ResultVar} (hr:fn.results.toList=rs) (h:hG P kv c ⟨vs++ea (n-vs.length) .an,hs⟩ (b1 (yQ P rs (n_ K .mk)) .mk) [] (b1 (yQ P rs (n_ K .mk)) .mk)):et P f kv hs vs K:=by
 intro B w0 kp us w b' a1;subst hr;subst hn;have fU:us.length=vs.length:=by
  obtain⟨a0,φ,r,_⟩:=a1;have:=mG _ _ r.jA;simpa using this
 have aS:∀(σ:St) (a:Act) (w':World),yQ P fn.results.toList K σ->fX B w0 kp σ a w'->a.defers=[]/\∃v,(results fn a.tmps).run P w'=.ok v w'/\
   ∃x hs',K x hs'/\fX B w0 kp ⟨[x],hs'⟩ ⟨#[v],[]⟩ w':=by
  rintro σ a w' Bh ⟨a0,φ,r,bD⟩;obtain⟨xs,jW,b5,hv,hu⟩:=Nl r _ _ Bh;refine⟨r.pg,if h:jW.length=1 then jW[0]else .tuple jW.toArray,?_,_,_,b5,a0,φ,⟨?_,r.kp,r.hp,r.dQ,r.eI,r.gH,r.iS,r.hR,r.bs,rfl,r.np⟩,bD⟩
  ·rw[SC,Array.mapM_eq_mapM_toList];simp only[Sem.run_bind,Sem.run_map,hu];simp only[Result.andThen,arQ,Sem.run_pure];split<;>simp_all
  simp only[VRels];exact⟨_,_,rfl,aag hv,rfl⟩
 refine Does.enter (hcall _ _) (calls_of_wp hf hb ?_);refine h B w0 kp _ _ w b' (λσ a w' h' dR=>?_) (λid σ a w' h' _=>h'.elim) (λσ a w' h' dR=>?_) ?_
 ·exact aS σ a w' h' dR
 ·exact aS σ a w' h' dR
 obtain⟨a0,φ,r,bD⟩:=a1;have hs':us.toArray.size=vs.length:=by rw[arQ,fU]
 refine⟨a0,φ,⟨?_,r.kp,r.hp,r.dQ,r.eI,r.gH,r.iS,r.hR,r.bs,rfl,r.np⟩,bD⟩;have:=GG r.jA (R7 (φ:=φ) (T:=dq φ hs) (h:=w.heap) (v:=.an) (u:=undef) (by simp[VRel]) (fn.ntmps-vs.length));rw[hs'];simpa using this
theorem et.look{P:Program}{f:FuncId}{kv:List V}{hs:List H}{vs:List V}{K:V->List H->Prop}(h:et P f kv hs vs (λx hs'=>K x hs'\/∃id sz xs,a6 hs' id=.aj sz xs/\K x (cF hs' id (.ay sz xs true)))):et P f kv hs vs K:=by
 intro B w0 kp us w b' a1;refine(h B w0 kp us w b' a1).mono λv w' ⟨x,hs',h1,h2⟩=>?_;rcases h1 with h1|⟨id,sz,xs,hg,h1⟩
 ·exact⟨x,hs',h1,h2⟩
 exact⟨x,_,h1,abb (σ:=⟨[x],hs'⟩) hg h2⟩
theorem PD{n:Nat}{b:Bool}{x y:V}:vok n (bif b then x else y)↔((b->vok n x)/\(b=false->vok n y)):=by cases b<;>simp
theorem aeO{F:Oper->List Bool->Prop}:∀{l:List (Oper×List Bool)},(∀x∈l,F x.1 x.2)->yn l F
 |[],_=>trivial
 |x::l,h=>⟨h x ξ,aeO λy hy=>h y (by simp[hy])⟩
def lN(o:Oper):List Nat:=(o.after.toList.filter (Region.binds .any)).map (·.on)
def Hz:Nat->List Oper->Bool
 |_,[]=>true
 |k,o::os=>(lN o).all (λj=>decide (j<k))&&Hz (k+1) os
theorem aeP:∀(os:List Oper) (k i:Nat) (o:Oper),Hz k os->os[i]?=some o->∀j∈lN o,j<k+i
 |[],_,_,_,_,h,_,_=>by simp at h
 |x::os,k,0,o,h,h1,j,aI=>by
  simp only[kf,cc]at h1;subst h1;simp only[Hz,bm,ae_,bH]at h;have:=h.1 j aI;omega
 |x::os,k,i+1,o,h,h1,j,aI=>by
  simp only[Hz,bm]at h;have:=aeP os (k+1) i o h.2 (by simpa using h1) j aI;omega
theorem aq9{aQ:List Oper}{S:List Bool}(ht:Hz 0 aQ)(hl:S.length=aQ.length)(h:rdyE S aQ [] S=[])(i:Nat):i<aQ.length->S[i]?=some true:=by
 induction i using Nat.strongRecOn with
 |_ i c_=>
  intro hi;have hb:S[i]?=some S[i]:=cy ω;cases hv:S[i]
  ·rw[hv]at hb;have aG:aQ[i]?=some aQ[i]:=cy hi;have:=Mu (S:=S) aQ [] S i aQ[i] aG hb λe he hx=>by
    have hm:e.on∈lN aQ[i]:=aa_.2 ⟨e,asC.2 ⟨by simpa using he,hx⟩,rfl⟩;have hlt:=aeP aQ 0 i _ ht aG _ hm;have hq:=c_ e.on ω ω;rw[lU,hq];rfl
   rw[h]at this;cases this
  rw[hb,hv]
theorem aeQ:∀(S:List Bool) (i:Nat),S[i]?=some false->(S.set i true).count false+1=S.count false
 |[],_,h=>by simp at h
 |b::S,0,h=>by
  simp only[kf,cc]at h;subst h;simp
 |b::S,i+1,h=>by
  have:=aeQ S i (by simpa using h);rw[List.set_cons_succ,aAs,aAs];omega
def HA(F:Nat->Oper->Prop):Nat->List Oper->Prop
 |_,[]=>True
 |k,o::os=>F k o/\HA F (k+1) os
theorem nD{F:Nat->Oper->Prop}{k:Nat}{o:Oper}{os:List Oper}(h:F k o)(hr:HA F (k+1) os):HA F k (o::os):=⟨h,hr⟩
theorem nC{F:Nat->Oper->Prop}{k:Nat}:HA F k []:=trivial
theorem aeR{F:Nat->Oper->Prop}:∀(os:List Oper) (k i:Nat) (o:Oper),HA F k os->os[i]?=some o->F (k+i) o
 |[],_,_,_,_,h=>by simp at h
 |x::os,k,0,o,h,h1=>by
  simp only[kf,cc]at h1;subst h1;exact h.1
 |x::os,k,i+1,o,h,h1=>by
  have:=aeR os (k+1) i o h.2 (by simpa using h1)
  rwa [show k+(i+1)=k+1+i from by omega]
def aeS(aQ:List Oper)(S:List Bool):Prop:=∀(i j:Nat) (o:Oper),aQ[j]?=some o->i∈lN o->S[i]?=some false->S[j]?=some false
def ara(P:Program)(kv:List V)(aQ:List Oper)(Inv:List Bool->St->Prop)(k:Nat)(o:Oper):Prop:=
 ∀(S:List Bool) (σ:St) (F:St->Prop),S.length=aQ.length->S[k]?=some false->(lN o).all (λj=>S.getD j false)=true->aeS aQ S->Inv S σ->(∀σ',Inv (S.set k true) σ'->F σ')->yo P kv aQ σ o (b1 (λσ'=>F σ') .mk)
theorem mQ{P:Program}{kv:List V}{aQ:List Oper}(Inv:List Bool->St->Prop){N:Nat}(bB:aQ.length=N)(ht:Hz 0 aQ){σ:St}(h0:Inv (ea N false) σ)(h1:HA (ara P kv aQ Inv) 0 aQ) :
  exE P kv aQ aQ.length (ea aQ.length false) σ (λσ'=>Inv (ea N true) σ'):=by
 subst bB;have arb:∀(n:Nat) (S:List Bool) (σ:St),S.length=aQ.length->S.count false=n->aeS aQ S->Inv S σ->exE P kv aQ n S σ (λσ'=>Inv (ea aQ.length true) σ'):=by
  intro n
  induction n with
  |zero=>
   intro S σ hl hc hcl aE;have qc:∀b∈S,b:=λb hb=>by
    cases b
    ·have:=aAa.2 hb;omega
    rfl
   have a5:S=ea aQ.length true:=by
    rw[<-hl];exact List.eq_replicate_iff.2 ⟨rfl,qc⟩
   refine⟨?_,a5▸aE⟩;rw[List.eq_nil_iff_forall_not_mem];intro x hx;obtain⟨i,_,h2,_⟩:=Mv aQ [] S x hx;have:=qc false (arW h2);cases this
  |succ n c_=>
   intro S σ hl hc hcl aE;refine⟨λh=>?_,aeO λx hx=>?_⟩
   ·have qc:=aq9 ht hl h;have:false∈S:=aAa.1 ω;obtain⟨i,hi,he⟩:=asn this;have:=qc i ω;rw[cy hi,he]at this;cases this
   obtain⟨i,h2,ao,aH,bR⟩:=Mv aQ [] S x hx;have hq:=aeR aQ 0 i x.1 h1 h2;rw[Nat.zero_add]at hq;refine hq S σ (λσ'=>exE P kv aQ n x.2 σ' _) hl ao ?_ hcl aE λσ' arc=>?_
   ·rw[ae_];intro j aI;obtain⟨e,he,rfl⟩:=aa_.1 aI;obtain⟨Le,DQ⟩:=asC.1 he;exact bR e (by simpa using Le) DQ
   rw[aH,cv];have:=aeQ S i ao;refine c_ (S.set i true) σ' (by simpa using hl) ω (λa b o aG ha hb=>?_) arc;have ard:i≠a:=λe=>by
    subst e;have:i<S.length:=by
     have:=aj_.1 ao;exact this.1
    rw[List.getElem?_set_self this]at hb;cases hb
   rw[azR ard]at hb;have hne:i≠b:=λe=>by
    subst e;rw[h2]at aG;cases aG
    obtain⟨e,he,rfl⟩:=aa_.1 ha;obtain⟨Le,DQ⟩:=asC.1 he;have:=bR e (by simpa using Le) DQ;rw[lU,hb]at this;cases this
   rw[azR hne];exact hcl a b o aG ha hb
 refine arb aQ.length _ σ ξ ξ (λa b o aG ha hb=>?_) h0;have:b<aQ.length:=(aj_.1 aG).1;simp[this]
def Uy:List (List bK):=cB 18 [387420488,387420486,387420480,387420462,387420408,387420246,387419760,380253690,380249316,387173358,387389871,387271773,386897796,385834914,382646268,373071582,344373768,258280326]
def Uz:List (List bK):=cB 24 [282429536477,282429536479,282429536472,282429536454,282429536400,282429536238,282429535752,282429534294,282429529920,282429516798,277220115603,277220765142,277220410848,277219288917,277216100271,277206534333,282278843433,282364936875,282063609828,281288768850,278964245916,271969183278,251048476872,188286357654]
def Kz:List (List bK):=cB 9 [18707,18709,18702,18684,18630,19561,19075,17496,13122]
def adA:List (List bK):=cB 10 [57959,57957,59017,59035,58972,58810,58324,56862,52488,39366]
attribute [go_sem] Uy Uz Kz adA
def c8(r:ab):Bool:=decide (0<=r.low)&&decide (r.low<r.high)&&decide (r.high<=4611686018427387903)
def s_(xs:List ab)(i:Nat):Bool:=
 match xs[i]? with
 |some x=>c8 x&&(match i with|0=>true|j+1=>match xs[j]? with|some p=>decide (p.high<x.low)|none=>true)
 |none=>true
def cN(xs:List ab):Bool:=(pv xs.length).all (s_ xs)
theorem adB(xs:List ab)(i:Nat)(h:i<xs.length)(h2:s_ xs i=false):cN xs=false:=by
 unfold cN;rw[atF];exact⟨i,asl.2 h,by simp[h2]⟩
theorem adC{p:Nat->Bool}{i:Nat}(h:(pv i).all p)(h2:p i):(pv (i+1)).all p:=by
 rw[atq,atT,h];simp[h2]
def cu(a b:Int):Int:=if b<a then b else a
def dJ(a b:Int):Int:=if b>a then b else a
def nv(s:List ab×Bool×ab)(x:ab):List ab×Bool×ab:=
 if x.high<s.2.2.low then(s.1++[x],s.2.1,s.2.2)
 else if s.2.2.high<x.low then((if s.2.1=true then s.1 else s.1++[s.2.2])++[x],true,s.2.2)
 else(s.1,s.2.1,⟨cu s.2.2.low x.low,dJ s.2.2.high x.high⟩)
def ir(xs:List ab)(r:ab):Nat->List ab×Bool×ab
 |0=>([],false,r)
 |i+1=>match xs[i]? with|some x=>nv (ir xs r i) x|none=>ir xs r i
theorem UA(xs:List ab)(r:ab)(i:Nat)(h:i<xs.length):ir xs r (i+1)=nv (ir xs r i) xs[i]:=by
 rw[ir,cy h]
theorem OK(xs:List ab)(r:ab):∀i,(ir xs r i).1.length<=i+(if(ir xs r i).2.1=true then 1 else 0)
 |0=>by simp[ir]
 |i+1=>by
  have:=OK xs r i;rw[ir];split
  ·unfold nv;by_cases h1:(ir xs r i).2.1=true
   ·simp only[h1,if_true]at this⊢;split
    ·simp;omega
    split
    ·simp;omega
    simp;omega
   simp only[h1]at this⊢;split
   ·simp at this⊢;omega
   split
   ·simp at this⊢;omega
   simp at this⊢;omega
  by_cases h1:(ir xs r i).2.1=true
  ·simp only[h1,if_true]at this⊢;omega
  simp[h1]at this⊢;omega
def f'(xs:List ab)(r:ab):List ab:=
 if cN xs&&c8 r=true then(if(ir xs r xs.length).2.1=true then(ir xs r xs.length).1 else(ir xs r xs.length).1++[(ir xs r xs.length).2.2])else xs
theorem HR(xs:List ab)(r:ab):(f' xs r).length<=xs.length+1:=by
 have:=OK xs r xs.length;unfold f';split
 ·split
  ·rename_i h;rw[if_pos h]at this;exact this
  rename_i h;rw[if_neg h]at this;simp;omega
 omega
theorem OL(xs:List ab)(h:0<xs.length):s_ xs 0=c8 xs[0]:=by
 unfold s_;rw[cy h];simp
theorem KA(xs:List ab)(j:Nat)(h:j+1<xs.length):s_ xs (j+1)=(c8 xs[j+1]&&decide (xs[j].high<xs[j+1].low)):=by
 unfold s_;rw[cy h];simp only[cy (show j<xs.length by omega)]
theorem KB(l h:Int):aM 187 [.agg [.i l,.i h]] [.one (.bool (c8 ⟨l,h⟩))]:=by
 refine aW 18 func187 call187 [.tmp 2] ?_;intro _
 try simp only[go_sem]
 repeat'(apply bo<;>simp only[go_sem])
 all_goals(simp[c8];try(cases decide (0<=l)<;>cases decide (l<h)<;>simp))
theorem LB(xs:List ab)(hx:xs.length<=8388608):aM 144 [.one (.azA xs)] [.one (.azA xs)]:=by
 refine aW 6 func144 call144 [.tmp 2] ?_;intro _
 try simp only[go_sem,I]
 repeat'(first|refine⟨ae7,?_⟩|fail)
 all_goals simp
theorem Dd(xs:List ab):aM 129 [.one (.azA xs)] [.one (.bool (cN xs))]:=by
 refine aW 31 func129 call129 [.tmp 2] ?_;intro ok;have hm:=gw ok;simp only[go_sem,I];refine cb.intro (λi:Nat=>⟨(.d (.azA xs)::.an::.d (.bool false)::.an::.an::.d (.azA xs)::.i xs.length::.i i::aA 23 []),[]⟩)
   (λi=>xs.length-i) (λi=>i<=xs.length/\(pv i).all (s_ xs)=true) 0 [] ⟨by omega,by simp⟩ ?_ ?_
 ·simp only[go_sem];simp
 rintro i ⟨hi,he⟩;simp only[go_sem];refine bX (λh1=>?_) (λh1=>?_)
 ·have aq:=cY h1;have hlt:i<xs.length:=by omega
  have az:=b_ ab.enc xs i hlt;have hw:=d8 hlt hm;have lb:=adB xs i hlt;have BI:s_ xs i->(pv (i+1)).all (s_ xs):=adC he
  cases i with
  |zero=>
   rw[OL xs hlt]at lb BI;have hr:c8 ⟨xs[0].low,xs[0].high⟩=c8 xs[0]:=rfl;have Am:i64.wrap (0+1)=((1:Nat):Int):=by rw[bw]<;>omega
   try simp only[go_sem,I,az,ab.enc,gM,ay_]
   repeat'(first|((first|refine av.intro (by apply KB) ?_|with_reducible apply lv|apply fY|refine a7 Uy χ ψ ?_|refine bX (λh=>?_) (λh=>?_))<;>simp only[go_sem,aAw,iW])|refine⟨ae7,?_⟩|fail)
   all_goals first
    |(rw[hr]at h;rw[lb (by revert h;cases c8 xs[0]<;>simp)])
    |(rw[hr]at h;refine bt.intro 1 [] ⟨by omega,BI (by revert h;cases c8 xs[0]<;>simp)⟩ ω ?_;simp only[go_sem,Am])
  |succ j=>
   rw[KA xs j hlt]at lb BI;have ie:=b_ ab.enc xs j ω;have hs:i64.wrap (((j+1:Nat):Int)-1)=(j:Int):=by simp only[maxLen]at hm;rw[bw]<;>omega
   have hg:=br (p:=(0:Int)<((j+1:Nat):Int)) ω;have hr:c8 ⟨xs[j+1].low,xs[j+1].high⟩=c8 xs[j+1]:=rfl;have hd:decide (xs[j+1].low<=xs[j].high)=!decide (xs[j].high<xs[j+1].low):=by by_cases hx:xs[j].high<xs[j+1].low<;>simp[hx]<;>omega
   try simp only[go_sem,I,aF,az,ab.enc]
   repeat'(first|((first|refine av.intro (by apply KB) ?_|apply fY|refine a7 Uy χ ψ ?_|refine bX (λh=>?_) (λh=>?_))<;>simp only[go_sem,I,aF,ie,ab.enc,hs,hg])|refine⟨ae7,?_⟩|fail)
   all_goals first
    |(rw[hr,hd]at h;rw[lb (by revert h;cases c8 xs[j+1]<;>cases decide (xs[j].high<xs[j+1].low)<;>simp)])
    |(rw[hr,hd]at h;refine bt.intro (j+1+1) [] ⟨by omega,BI (by revert h;cases c8 xs[j+1]<;>cases decide (xs[j].high<xs[j+1].low)<;>simp)⟩ ω ?_;simp only[go_sem,hw])
 have aq:=de h1;have iN:i=xs.length:=by omega
 subst iN;simp only[go_sem];simp[cN,he]
theorem KC(l h:Int):aM 188 [.agg [.i l,.i h]] [.one (.bool (c8 ⟨l,h⟩))]:=by
 refine aW 18 func188 call188 [.tmp 2] ?_;intro _
 try simp only[go_sem]
 repeat'(apply bo<;>simp only[go_sem])
 all_goals(simp[c8];try(cases decide (0<=l)<;>cases decide (l<h)<;>simp))
theorem Qf(xs:List ab)(hx:xs.length<=8388608):aM 208 [.one (.azA xs)] [.one (.azA xs)]:=by
 refine aW 6 func208 call208 [.tmp 2] ?_;intro _
 try simp only[go_sem,I]
 repeat'(first|refine⟨ae7,?_⟩|fail)
 all_goals simp
theorem zc(xs:List ab):aM 131 [.one (.azA xs)] [.one (.bool (cN xs))]:=by
 refine aW 34 func131 call131 [.tmp 2] ?_;intro ok;have hm:=gw ok;simp only[go_sem];refine cb.intro (λi:Nat=>⟨(.d (.azA xs)::.an::.d (.bool false)::.i i::aA 30 []),[]⟩)
   (λi=>xs.length-i) (λi=>i<=xs.length/\(pv i).all (s_ xs)=true) 0 [] ⟨by omega,by simp⟩ ?_ ?_
 ·simp only[go_sem];simp
 rintro i ⟨hi,he⟩;simp only[go_sem,I];refine bX (λh1=>?_) (λh1=>?_)
 ·have aq:=cY h1;have hlt:i<xs.length:=by omega
  have az:=b_ ab.enc xs i hlt;have hw:=d8 hlt hm;have lb:=adB xs i hlt;have BI:s_ xs i->(pv (i+1)).all (s_ xs):=adC he
  cases i with
  |zero=>
   rw[OL xs hlt]at lb BI;have hr:c8 ⟨xs[0].low,xs[0].high⟩=c8 xs[0]:=rfl;have Am:i64.wrap (0+1)=((1:Nat):Int):=by rw[bw]<;>omega
   try simp only[go_sem,ay_]
   repeat'(first|((first|refine av.intro (by apply KC) ?_|with_reducible apply lv|apply fY|refine a7 Uz χ ψ ?_|refine bX (λh=>?_) (λh=>?_))<;>simp only[go_sem,I,az,ab.enc,gM,aAw,iW])|refine⟨ae7,?_⟩|fail)
   all_goals first
    |(rw[hr]at h;rw[lb (by revert h;cases c8 xs[0]<;>simp)])
    |(rw[hr]at h;refine bt.intro 1 [] ⟨by omega,BI (by revert h;cases c8 xs[0]<;>simp)⟩ ω ?_;simp only[go_sem,Am])
  |succ j=>
   rw[KA xs j hlt]at lb BI;have ie:=b_ ab.enc xs j ω;have hs:i64.wrap (((j+1:Nat):Int)-1)=(j:Int):=by simp only[maxLen]at hm;rw[bw]<;>omega
   have hg:=br (p:=(0:Int)<((j+1:Nat):Int)) ω;have hr:c8 ⟨xs[j+1].low,xs[j+1].high⟩=c8 xs[j+1]:=rfl;have hd:decide (xs[j+1].low<=xs[j].high)=!decide (xs[j].high<xs[j+1].low):=by by_cases hx:xs[j].high<xs[j+1].low<;>simp[hx]<;>omega
   try simp only[go_sem]
   repeat'(first|((first|refine av.intro (by apply KC) ?_|apply fY|refine a7 Uz χ ψ ?_|refine bX (λh=>?_) (λh=>?_))<;>simp only[go_sem,I,aF,az,ie,ab.enc,hs,hg])|refine⟨ae7,?_⟩|fail)
   all_goals first
    |(rw[hr,hd]at h;rw[lb (by revert h;cases c8 xs[j+1]<;>cases decide (xs[j].high<xs[j+1].low)<;>simp)])
    |(rw[hr,hd]at h;refine bt.intro (j+1+1) [] ⟨by omega,BI (by revert h;cases c8 xs[j+1]<;>cases decide (xs[j].high<xs[j+1].low)<;>simp)⟩ ω ?_;simp only[go_sem,hw])
 have aq:=de h1;have iN:i=xs.length:=by omega
 subst iN;simp only[go_sem];simp[cN,he]
theorem HS(xs:List ab)(l h:Int)(hx:xs.length<=1048576):aM 139 [.one (.azA xs),.agg [.i l,.i h]] [.one (.azA (f' xs ⟨l,h⟩))]:=by
 refine aW 71 func139 call139 [.tmp 4] ?_;intro ok;have hm:=gw ok;simp only[go_sem];refine af.intro (Dd xs) ?_;simp only[go_sem]
 repeat'(first
  |(refine af.intro (KB l h) ?_;simp only[go_sem,I])
  |(refine av.intro (KB l h) ?_;simp only[go_sem])
  |(apply bo;simp only[go_sem])|(apply fY;simp only[go_sem,I]))
 have hz:(bif !cN xs then true else !c8 ⟨l,h⟩)=!(cN xs&&c8 ⟨l,h⟩):=by cases cN xs<;>cases c8 ⟨l,h⟩<;>rfl
 rw[hz];refine bX (λh0=>?_) (λh0=>?_)
 ·have bR:(cN xs&&c8 ⟨l,h⟩)=false:=by cases hq:(cN xs&&c8 ⟨l,h⟩)with|false=>rfl|true=>rw[hq]at h0;cases h0
  have l7:(xs.map ab.enc).take xs.length=xs.map ab.enc:=eA ξ;simp only[go_sem];refine af.intro (LB xs ω) ?_;simp only[go_sem];simp[f',bR,l7]
 have bR:(cN xs&&c8 ⟨l,h⟩):=by cases hq:(cN xs&&c8 ⟨l,h⟩)with|true=>rfl|false=>rw[hq]at h0;cases h0
 simp only[go_sem];refine cb.intro (λi:Nat=>⟨(.d (.azA xs)::.an::.an::.ptr 0 0 0::.eg 2::.sl 1 0 (ir xs ⟨l,h⟩ i).1.length::.d (.bool (ir xs ⟨l,h⟩ i).2.1)::aA 13 (.d (.azA xs)::.i xs.length::.i i::aA 48 [])),[.box [.d (.i (ir xs ⟨l,h⟩ i).2.2.low),.d (.i (ir xs ⟨l,h⟩ i).2.2.high)],.ay 2 ((ir xs ⟨l,h⟩ i).1.map ab.enc) true]⟩)
  (λi=>xs.length-i) (λi=>i<=xs.length) 0 [0,1] ω ?_ ?_
 ·simp only[go_sem];simp[ir]
 intro i hi;have Kw:=OK xs ⟨l,h⟩ i;have y':(ir xs ⟨l,h⟩ i).1.length<=i+1:=by split at Kw<;>omega
 simp only[go_sem];refine bX (λh1=>?_) (λh1=>?_)
 ·have aq:=cY h1;have hlt:i<xs.length:=by omega
  have az:=b_ ab.enc xs i hlt;have hw:=d8 hlt hm;have b4:=UA xs ⟨l,h⟩ i hlt;generalize hs:ir xs ⟨l,h⟩ i=s at b4 y';obtain⟨o,p,⟨yF,KD⟩⟩:=s;simp only at y';by_cases hA:xs[i].high<yF
  ·have re:=br hA;simp only[nv,hA,if_true]at b4
   try simp only[go_sem,I,aF,az,ab.enc,re]
   repeat'(first|refine⟨ae7,?_⟩|fail)
   all_goals(refine bt.intro (i+1) [0,4] ω ω ?_;simp only[go_sem,hw,b4];simp[ab.enc])
  have re:=bn hA;by_cases hB:KD<xs[i].low
  ·have xZ:=br hB;simp only[nv,hA,hB,if_true,if_false]at b4;cases p
   ·try simp only[go_sem,I,aF,az,ab.enc,re,xZ]
    repeat'(first|refine⟨ae7,?_⟩|fail)
    all_goals(refine bt.intro (i+1) [0,6] ω ω ?_;simp only[go_sem,hw,b4];simp[ab.enc])
   try simp only[go_sem,I,aF,az,ab.enc,re,xZ]
   repeat'(first|refine⟨ae7,?_⟩|fail)
   all_goals(refine bt.intro (i+1) [0,4] ω ω ?_;simp only[go_sem,hw,b4];simp[ab.enc])
  have xZ:=bn hB;simp only[nv,hA,hB,if_false]at b4
  try simp only[go_sem,I,aF,az,ab.enc,re,xZ]
  repeat'(first|refine⟨ae7,?_⟩|fail)
  all_goals(refine bt.intro (i+1) [0,1] ω ω ?_;simp only[go_sem,hw,b4];simp[cu,dJ])
 have aq:=de h1;have iN:i=xs.length:=by omega
 subst iN;generalize hs:ir xs ⟨l,h⟩ xs.length=s at y';obtain⟨o,p,⟨yF,KD⟩⟩:=s;simp only at y';cases p
 ·try simp only[go_sem,I]
  repeat'(first|refine⟨ae7,?_⟩|fail)
  all_goals(simp[f',bR,hs,ab.enc];try exact eA ξ)
 try simp only[go_sem,I]
 repeat'(first|refine⟨ae7,?_⟩|fail)
 all_goals simp[f',bR,hs]
theorem sq(xs:List ab)(l h:Int)(hx:xs.length<=1048576):aM 161 [.one (.azA xs),.agg [.i l,.i h]] [.one (.azA (f' xs ⟨l,h⟩))]:=by
 refine aW 88 func161 call161 [.tmp 4] ?_;intro ok;have hm:=gw ok;simp only[go_sem];refine af.intro (zc xs) ?_;simp only[go_sem]
 repeat'(first
  |(refine af.intro (KC l h) ?_;simp only[go_sem,I])
  |(refine av.intro (KC l h) ?_;simp only[go_sem])
  |(apply bo;simp only[go_sem])|(apply fY;simp only[go_sem,I]))
 have hz:(bif !cN xs then true else !c8 ⟨l,h⟩)=!(cN xs&&c8 ⟨l,h⟩):=by cases cN xs<;>cases c8 ⟨l,h⟩<;>rfl
 rw[hz];refine bX (λh0=>?_) (λh0=>?_)
 ·have bR:(cN xs&&c8 ⟨l,h⟩)=false:=by cases hq:(cN xs&&c8 ⟨l,h⟩)with|false=>rfl|true=>rw[hq]at h0;cases h0
  have l7:(xs.map ab.enc).take xs.length=xs.map ab.enc:=eA ξ;simp only[go_sem];refine af.intro (Qf xs ω) ?_;simp only[go_sem];simp[f',bR,l7]
 have bR:(cN xs&&c8 ⟨l,h⟩):=by cases hq:(cN xs&&c8 ⟨l,h⟩)with|true=>rfl|false=>rw[hq]at h0;cases h0
 simp only[go_sem];refine cb.intro (λi:Nat=>⟨(.d (.azA xs)::.an::.an::.ptr 0 0 0::.eg 2::.sl 1 0 (ir xs ⟨l,h⟩ i).1.length::.d (.bool (ir xs ⟨l,h⟩ i).2.1)::.i i::aA 80 []),[.box [.d (.i (ir xs ⟨l,h⟩ i).2.2.low),.d (.i (ir xs ⟨l,h⟩ i).2.2.high)],.ay 2 ((ir xs ⟨l,h⟩ i).1.map ab.enc) true]⟩)
  (λi=>xs.length-i) (λi=>i<=xs.length) 0 [0,1] ω ?_ ?_
 ·simp only[go_sem];simp[ir]
 intro i hi;have Kw:=OK xs ⟨l,h⟩ i;have y':(ir xs ⟨l,h⟩ i).1.length<=i+1:=by split at Kw<;>omega
 simp only[go_sem,I];refine bX (λh1=>?_) (λh1=>?_)
 ·have aq:=cY h1;have hlt:i<xs.length:=by omega
  have az:=b_ ab.enc xs i hlt;have hw:=d8 hlt hm;have b4:=UA xs ⟨l,h⟩ i hlt;generalize hs:ir xs ⟨l,h⟩ i=s at b4 y';obtain⟨o,p,⟨yF,KD⟩⟩:=s;simp only at y';by_cases hA:xs[i].high<yF
  ·have re:=br hA;simp only[nv,hA,if_true]at b4
   try simp only[go_sem]
   repeat'(first|(refine a7 Kz χ ψ ?_<;>simp only[go_sem,I,aF,az,ab.enc,re])|refine⟨ae7,?_⟩|fail)
   all_goals(refine bt.intro (i+1) [0,3] ω ω ?_;simp only[go_sem,hw,b4];simp[ab.enc])
  have re:=bn hA;by_cases hB:KD<xs[i].low
  ·have xZ:=br hB;simp only[nv,hA,hB,if_true,if_false]at b4;cases p
   ·try simp only[go_sem]
    repeat'(first|(refine a7 Kz χ ψ ?_<;>simp only[go_sem,I,aF,az,ab.enc,re,xZ])|refine⟨ae7,?_⟩|fail)
    all_goals(refine bt.intro (i+1) [0,5] ω ω ?_;simp only[go_sem,hw,b4];simp[ab.enc])
   try simp only[go_sem]
   repeat'(first|(refine a7 Kz χ ψ ?_<;>simp only[go_sem,I,aF,az,ab.enc,re,xZ])|refine⟨ae7,?_⟩|fail)
   all_goals(refine bt.intro (i+1) [0,3] ω ω ?_;simp only[go_sem,hw,b4];simp[ab.enc])
  have xZ:=bn hB;simp only[nv,hA,hB,if_false]at b4
  try simp only[go_sem]
  repeat'(first|((first|refine a7 Kz χ ψ ?_|refine a7 adA χ ψ ?_)<;>simp only[go_sem,I,aF,az,ab.enc,re,xZ])|refine⟨ae7,?_⟩|fail)
  all_goals(refine bt.intro (i+1) [0,1] ω ω ?_;simp only[go_sem,hw,b4];simp[cu,dJ])
 have aq:=de h1;have iN:i=xs.length:=by omega
 subst iN;generalize hs:ir xs ⟨l,h⟩ xs.length=s at y';obtain⟨o,p,⟨yF,KD⟩⟩:=s;simp only at y';cases p
 ·try simp only[go_sem,I]
  repeat'(first|refine⟨ae7,?_⟩|fail)
  all_goals(simp[f',bR,hs,ab.enc];try exact eA ξ)
 try simp only[go_sem,I]
 repeat'(first|refine⟨ae7,?_⟩|fail)
 all_goals simp[f',bR,hs]
def bN(n:Int):Bool:=cd n 0 4611686018427387903
theorem pW(n:Int):aM 106 [.one (.i n)] [.one (.bool (bN n))]:=by
 refine aW 5 func106 call106 [.tmp 2] ?_;intro _
 try simp only[go_sem]
 repeat'(refine af.intro (by apply j7) ?_<;>simp only[go_sem])
 all_goals simp[bN]
theorem ld(n:Int):aM 127 [.one (.i n)] [.one (.bool (bN n))]:=by
 refine aW 5 func127 call127 [.tmp 2] ?_;intro _
 try simp only[go_sem]
 repeat'(refine af.intro (by apply lS) ?_<;>simp only[go_sem])
 all_goals simp[bN]
def pc(n:Int):Bool:=cd n 1 64&&decide (bitI .and .i64 n (i64.wrap (n-1))=0)
theorem KH(n:Int):aM 104 [.one (.i n)] [.one (.bool (pc n))]:=by
 refine aW 12 func104 call104 [.tmp 2] ?_;intro _
 try simp only[go_sem]
 repeat'((first|refine af.intro (by apply j7) ?_|apply bo)<;>simp only[go_sem])
 all_goals(apply fu;simp[pc,cd])
theorem OP(n:Int):aM 125 [.one (.i n)] [.one (.bool (pc n))]:=by
 refine aW 16 func125 call125 [.tmp 2] ?_;intro _
 try simp only[go_sem]
 repeat'(apply bo<;>simp only[go_sem])
 all_goals(apply fu;simp[pc,cd];try omega)
def iz(c:e5):Bool:=pc c.aB&&cd c.nh 1 4096&&cd c.ni 1 4096&&cd c.bL 1 c.nh&&cd c.cn 1 c.ni&&cd c.mz 0 1000&&cd c.fG 0 1000&&cd c.eU 1 1000
theorem aaW(KN KO KP KQ KR KS KT KU:Int):aM 45 [.agg [.i KN,.i KO,.i KP,.i KQ,.i KR,.i KS,.i KT,.i KU]] [.one (.bool (iz (⟨KN,KO,KP,KQ,KR,KS,KT,KU⟩:e5)))]:=by
 refine aW 45 func45 call45 [.tmp 2] ?_;intro _
 try simp only[go_sem]
 repeat'((first|refine af.intro (by apply KH) ?_|refine av.intro (by apply j7) ?_|apply bo)<;>simp only[go_sem])
 all_goals(apply fu;simp[iz,ed,and_comm,and_left_comm])
theorem H'(KN KO KP KQ KR KS KT KU:Int):aM 63 [.agg [.i KN,.i KO,.i KP,.i KQ,.i KR,.i KS,.i KT,.i KU]] [.one (.bool (iz (⟨KN,KO,KP,KQ,KR,KS,KT,KU⟩:e5)))]:=by
 refine aW 45 func63 call63 [.tmp 2] ?_;intro _
 try simp only[go_sem]
 repeat'((first|refine af.intro (by apply OP) ?_|refine av.intro (by apply lS) ?_|apply bo)<;>simp only[go_sem])
 all_goals(apply fu;simp[iz,ed,and_comm,and_left_comm])
def C3(l:Int):d6:=if bN l then⟨l,0,-1,-1⟩else⟨0,0,0,0⟩
theorem abo(l:Int):aM 219 [.one (.i l)] [.agg [.i (C3 l).aX,.i (C3 l).dV,.i (C3 l).blocked,.i (C3 l).gA],.one (.bool (bN l))]:=by
 refine aW 10 func219 call219 [.cell 2 28,.tmp 3] ?_;intro _
 try simp only[go_sem]
 repeat'((first|refine af.intro (by apply ld) ?_|refine bX (λh=>?_) (λh=>?_))<;>simp only[go_sem])
 all_goals simp_all [C3]
def U0(size cm:Int):Bool:=cd cm 1 4096&&cd size 1 cm
def Ke(size cm:Int):ej:=if U0 size cm then⟨size,cm,size,0,0,0⟩else⟨0,0,0,0,0,0⟩
theorem abp(s m:Int):aM 220 [.one (.i s),.one (.i m)] [.agg (ej.enc (Ke s m)),.one (.bool (U0 s m))]:=by
 refine aW 20 func220 call220 [.cell 4 30,.tmp 5] ?_;intro _
 try simp only[go_sem]
 repeat'((first|refine af.intro (by apply lS) ?_|refine av.intro (by apply lS) ?_|apply bo|refine bX (λh=>?_) (λh=>?_))<;>simp only[go_sem])
 all_goals(cases h1:cd m 1 4096<;>cases h2:cd s 1 m<;>simp_all [Ke,U0])
def G7(l:Int):jf:=if cd l 0 1152921504606846976 then⟨l,0,-1⟩else⟨0,0,0⟩
theorem amz(l:Int):aM 221 [.one (.i l)] [.agg [.i (G7 l).aX,.i (G7 l).iy,.i (G7 l).blocked],.one (.bool (cd l 0 1152921504606846976))]:=by
 refine aW 10 func221 call221 [.cell 2 32,.tmp 3] ?_;intro _
 try simp only[go_sem]
 repeat'((first|refine af.intro (by apply lS) ?_|refine bX (λh=>?_) (λh=>?_))<;>simp only[go_sem])
 all_goals simp_all [G7]
def Bz(m:Int):d9:=if cd m 0 1000 then⟨m,m,0,0⟩else⟨0,0,0,0⟩
theorem amA(m:Int):aM 222 [.one (.i m)] [.agg [.i (Bz m).cm,.i (Bz m).aX,.i (Bz m).seen,.i (Bz m).cX],.one (.bool (cd m 0 1000))]:=by
 refine aW 11 func222 call222 [.cell 2 34,.tmp 3] ?_;intro _
 try simp only[go_sem]
 repeat'((first|refine af.intro (by apply lS) ?_|refine bX (λh=>?_) (λh=>?_))<;>simp only[go_sem])
 all_goals simp_all [Bz]
def EL(n:Int):Bool:=bN n&&decide (bitI .and .i64 n 1=1)
def la(n:Int):Bool:=bN n&&decide (bitI .and .i64 n 2=2)
def jw(s:Bool)(n:Int):Bool:=bN n&&decide (EL n=s)
def ft(s:Bool)(n:Int):Bool:=bN n&&(!la n||jw s n)
def fS(s:Bool)(n:Int):Bool:=bN n&&(!la n||!jw s n)
theorem Tt(n:Int):aM 148 [.one (.i n)] [.one (.bool (bN n))]:=by
 refine aW 5 func148 call148 [.tmp 2] ?_;intro _
 try simp only[go_sem]
 repeat'(refine af.intro (by apply pW) ?_<;>simp only[go_sem])
 all_goals simp
theorem amB(n:Int):aM 149 [.one (.i n)] [.one (.bool (EL n))]:=by
 refine aW 10 func149 call149 [.tmp 2] ?_;intro _
 try simp only[go_sem]
 repeat'((first|refine af.intro (by apply Tt) ?_|apply bo)<;>simp only[go_sem])
 all_goals(apply fu;simp[EL])
theorem amC(n:Int):aM 173 [.one (.i n)] [.one (.bool (EL n))]:=by
 refine aW 10 func173 call173 [.tmp 2] ?_;intro _
 try simp only[go_sem]
 repeat'((first|refine af.intro (by apply ld) ?_|apply bo)<;>simp only[go_sem])
 all_goals(apply fu;simp[EL])
theorem B1(n:Int):aM 152 [.one (.i n)] [.one (.bool (la n))]:=by
 refine aW 10 func152 call152 [.tmp 2] ?_;intro _
 try simp only[go_sem]
 repeat'((first|refine af.intro (by apply Tt) ?_|apply bo)<;>simp only[go_sem])
 all_goals(apply fu;simp[la])
theorem AI(n:Int):aM 117 [.one (.i n)] [.one (.bool (la n))]:=by
 refine aW 10 func117 call117 [.tmp 2] ?_;intro _
 try simp only[go_sem]
 repeat'((first|refine af.intro (by apply ld) ?_|apply bo)<;>simp only[go_sem])
 all_goals(apply fu;simp[la])
theorem H6(s:Bool)(n:Int):aM 87 [.one (.bool s),.one (.i n)] [.one (.bool (jw s n))]:=by
 refine aW 13 func87 call87 [.tmp 4] ?_;intro _
 try simp only[go_sem]
 repeat'((first|refine af.intro (by apply Tt) ?_|refine av.intro (by apply amB) ?_|apply bo)<;>simp only[go_sem])
 all_goals(apply fu;simp[jw])
theorem FA(s:Bool)(n:Int):aM 115 [.one (.bool s),.one (.i n)] [.one (.bool (jw s n))]:=by
 refine aW 13 func115 call115 [.tmp 4] ?_;intro _
 try simp only[go_sem]
 repeat'((first|refine af.intro (by apply ld) ?_|refine av.intro (by apply amC) ?_|apply bo)<;>simp only[go_sem])
 all_goals(apply fu;simp[jw])
theorem SJ(s:Bool)(n:Int):aM 309 [.one (.bool s),.one (.i n)] [.one (.bool (ft s n))]:=by
 refine aW 17 func309 call309 [.tmp 4] ?_;intro _
 try simp only[go_sem]
 repeat'((first|refine af.intro (by apply ld) ?_|refine av.intro (by first|apply AI|apply FA) ?_|apply bo)<;>simp only[go_sem])
 all_goals(apply fu;simp[ft])
theorem No(s:Bool)(n:Int):aM 310 [.one (.bool s),.one (.i n)] [.one (.bool (fS s n))]:=by
 refine aW 18 func310 call310 [.tmp 4] ?_;intro _
 try simp only[go_sem]
 repeat'((first|refine af.intro (by apply ld) ?_|refine av.intro (by first|apply AI|apply FA) ?_|apply bo)<;>simp only[go_sem])
 all_goals(apply fu;simp[fS])
theorem N7:ofVal (.int .u64 2)=.d (.int .u64 2):=rfl
theorem abq(x:Int):shI .shr .i64 x 2=some ((0:Int)<=2,.i (x.fdiv 4)):=rfl
theorem abr(x:Int):shI .shl .i64 x 2=some ((0:Int)<=2,.i (i64.wrap (x * 4))):=rfl
def ig(n:Int):Int:=if bN n then n.fdiv 4 else -1
theorem Wz(n:Int):aM 332 [.one (.i n)] [.one (.i (ig n))]:=by
 refine aW 8 func332 call332 [.tmp 2] ?_;intro _
 try simp only[go_sem]
 repeat'((first|refine af.intro (by apply ld) ?_|refine bX (λh=>?_) (λh=>?_))<;>simp only[go_sem,N7,abq])
 all_goals simp_all [ig]
def rz(n:Int)(s u:Bool):Int:=
 if cd n 0 1152921504606846975 then(if u then i64.wrap ((if s then i64.wrap (i64.wrap (n * 4)+1)else i64.wrap (n * 4))+2)else(if s then i64.wrap (i64.wrap (n * 4)+1)else i64.wrap (n * 4)))else -1
theorem Wm(n:Int)(s u:Bool):aM 274 [.one (.i n),.one (.bool s),.one (.bool u)] [.one (.i (rz n s u))]:=by
 refine aW 20 func274 call274 [.tmp 6] ?_;intro _
 try simp only[go_sem]
 repeat'((first|refine af.intro (by apply lS) ?_|refine bX (λh=>?_) (λh=>?_))<;>simp only[go_sem,N7,abr])
 all_goals simp_all [rz]
def jM(c:d6):Bool:=bN c.aX&&cd c.dV 0 c.aX&&cd c.blocked (-1) c.aX&&cd c.gA (-1) c.aX
theorem Ab(dz en dE ez:Int):aM 47 [.agg [.i dz,.i en,.i dE,.i ez]] [.one (.bool (jM (⟨dz,en,dE,ez⟩:d6)))]:=by
 refine aW 27 func47 call47 [.tmp 2] ?_;intro _
 try simp only[go_sem]
 repeat'((first|refine af.intro (by apply pW) ?_|refine av.intro (by apply j7) ?_|apply bo)<;>simp only[go_sem])
 all_goals(apply fu;simp[jM])
theorem B5(dz en dE ez:Int):aM 65 [.agg [.i dz,.i en,.i dE,.i ez]] [.one (.bool (jM (⟨dz,en,dE,ez⟩:d6)))]:=by
 refine aW 27 func65 call65 [.tmp 2] ?_;intro _
 try simp only[go_sem]
 repeat'((first|refine af.intro (by apply ld) ?_|refine av.intro (by apply lS) ?_|apply bo)<;>simp only[go_sem])
 all_goals(apply fu;simp[jM])
def yB(c:d6):Int:=if jM c then i64.wrap (c.aX-c.dV)else 0
theorem ah3(dz en dE ez:Int):aM 302 [.agg [.i dz,.i en,.i dE,.i ez]] [.one (.i (yB (⟨dz,en,dE,ez⟩:d6)))]:=by
 refine aW 11 func302 call302 [.tmp 2] ?_;intro _
 try simp only[go_sem]
 repeat'((first|refine af.intro (by apply B5) ?_|refine bX (λh=>?_) (λh=>?_))<;>simp only[go_sem])
 all_goals simp_all [yB]
def m4(c:d6)(n:Int):Bool:=jM c&&decide (0<=n)&&decide (n<=i64.wrap (c.aX-c.dV))
def iV(c:d6)(n:Int):d6:=if m4 c n then {c with dV:=i64.wrap (c.dV+n)}else c
theorem ah2(dz en dE ez n:Int):aM 306 [.agg [.i dz,.i en,.i dE,.i ez],.one (.i n)] [.agg [.i (iV (⟨dz,en,dE,ez⟩:d6) n).aX,.i (iV (⟨dz,en,dE,ez⟩:d6) n).dV,.i (iV (⟨dz,en,dE,ez⟩:d6) n).blocked,.i (iV (⟨dz,en,dE,ez⟩:d6) n).gA],.one (.bool (m4 (⟨dz,en,dE,ez⟩:d6) n))]:=by
 refine aW 29 func306 call306 [.cell 4 28,.tmp 5] ?_;intro _
 try simp only[go_sem]
 repeat'((first|refine af.intro (by apply B5) ?_|apply bo|refine bX (λh=>?_) (λh=>?_))<;>simp only[go_sem])
 all_goals(cases hc:m4 (⟨dz,en,dE,ez⟩:d6) n<;>first|(simp[iV,hc];done)|(simp[iV,hc];simp_all;done)|((try(simp only[bH,eC]at *));simp[iV, *];done)|(exfalso;simp[m4]at hc h;first|(simp_all;done)|(simp_all;omega)|omega|grind)|(exfalso;simp[m4,d1,c2]at *;first|(simp_all;done)|(simp_all;omega)|omega|grind))
def N8(c:d6)(l:Int):Bool:=jM c&&bN l&&decide (c.aX<l)
def z4(c:d6)(l:Int):d6:=if N8 c l then {c with aX:=l,blocked:=-1}else c
theorem aao(dz en dE ez l:Int):aM 321 [.agg [.i dz,.i en,.i dE,.i ez],.one (.i l)] [.agg [.i (z4 (⟨dz,en,dE,ez⟩:d6) l).aX,.i (z4 (⟨dz,en,dE,ez⟩:d6) l).dV,.i (z4 (⟨dz,en,dE,ez⟩:d6) l).blocked,.i (z4 (⟨dz,en,dE,ez⟩:d6) l).gA]]:=by
 refine aW 24 func321 call321 [.cell 4 28] ?_;intro _
 try simp only[go_sem]
 repeat'((first|refine af.intro (by apply B5) ?_|refine av.intro (by apply ld) ?_|apply bo|refine bX (λh=>?_) (λh=>?_))<;>simp only[go_sem])
 all_goals(cases hc:N8 (⟨dz,en,dE,ez⟩:d6) l<;>first|(simp[z4,hc];done)|(simp[z4,hc];simp_all;done)|((try(simp only[bH,eC]at *));simp[z4, *];done)|(exfalso;simp[N8]at hc h;first|(simp_all;done)|(simp_all;omega)|omega|grind)|(exfalso;simp[N8,d1,c2]at *;first|(simp_all;done)|(simp_all;omega)|omega|grind))
def EM(c:d6):Bool:=jM c&&decide (c.dV=c.aX)&&decide (c.blocked=-1)&&decide (c.gA≠c.aX)
def l'(c:d6):d6:=if EM c then {c with blocked:=c.aX}else c
theorem ahr(dz en dE ez:Int):aM 304 [.agg [.i dz,.i en,.i dE,.i ez]] [.agg [.i (l' (⟨dz,en,dE,ez⟩:d6)).aX,.i (l' (⟨dz,en,dE,ez⟩:d6)).dV,.i (l' (⟨dz,en,dE,ez⟩:d6)).blocked,.i (l' (⟨dz,en,dE,ez⟩:d6)).gA]]:=by
 refine aW 28 func304 call304 [.cell 2 28] ?_;intro _
 try simp only[go_sem]
 repeat'((first|refine af.intro (by apply B5) ?_|apply bo|refine bX (λh=>?_) (λh=>?_))<;>simp only[go_sem])
 all_goals(cases hc:EM (⟨dz,en,dE,ez⟩:d6)<;>first|(simp[l',hc];done)|(simp[l',hc];simp_all;done)|((try(simp only[bH,eC]at *));simp[l', *];done)|(exfalso;simp[EM]at hc h;first|(simp_all;done)|(simp_all;omega)|omega|grind)|(exfalso;simp[EM,d1,c2]at *;first|(simp_all;done)|(simp_all;omega)|omega|grind))
def oR(c:d6):Bool:=jM c&&decide (c.blocked=c.aX)
theorem XD(dz en dE ez:Int):aM 259 [.agg [.i dz,.i en,.i dE,.i ez]] [.one (.bool (oR (⟨dz,en,dE,ez⟩:d6)))]:=by
 refine aW 12 func259 call259 [.tmp 2] ?_;intro _
 try simp only[go_sem]
 repeat'((first|refine af.intro (by apply B5) ?_|apply bo)<;>simp only[go_sem])
 all_goals(apply fu;simp[oR])
def EN(c:d6):Bool:=jM c&&decide (c.blocked≠-1)
def lY(c:d6):d6:=if EN c then {c with gA:=c.blocked,blocked:=-1}else c
theorem XE(dz en dE ez:Int):aM 261 [.agg [.i dz,.i en,.i dE,.i ez]] [.agg [.i (lY (⟨dz,en,dE,ez⟩:d6)).aX,.i (lY (⟨dz,en,dE,ez⟩:d6)).dV,.i (lY (⟨dz,en,dE,ez⟩:d6)).blocked,.i (lY (⟨dz,en,dE,ez⟩:d6)).gA]]:=by
 refine aW 15 func261 call261 [.cell 2 28] ?_;intro _
 try simp only[go_sem]
 repeat'((first|refine af.intro (by apply B5) ?_|apply bo|refine bX (λh=>?_) (λh=>?_))<;>simp only[go_sem])
 all_goals(cases hc:EN (⟨dz,en,dE,ez⟩:d6)<;>first|(simp[lY,hc];done)|(simp[lY,hc];simp_all;done)|((try(simp only[bH,eC]at *));simp[lY, *];done)|(exfalso;simp[EN]at hc h;first|(simp_all;done)|(simp_all;omega)|omega|grind)|(exfalso;simp[EN,d1,c2]at *;first|(simp_all;done)|(simp_all;omega)|omega|grind))
def l9(w:ej):Bool:=cd w.cm 1 4096&&cd w.size 1 w.cm&&cd w.aX 1 4611686018427387903&&cd w.seen 0 w.aX&&cd w.fa 0 w.seen&&decide (w.aX<=i64.wrap (w.fa+w.size))&&cd w.k9 0 1000000
theorem S'(jZ j0 j1 j2 j3 j4:Int):aM 48 [.agg [.i jZ,.i j0,.i j1,.i j2,.i j3,.i j4]] [.one (.bool (l9 (⟨jZ,j0,j1,j2,j3,j4⟩:ej)))]:=by
 refine aW 47 func48 call48 [.tmp 2] ?_;intro _
 try simp only[go_sem]
 repeat'((first|refine af.intro (by apply j7) ?_|refine av.intro (by apply j7) ?_|apply bo)<;>simp only[go_sem])
 all_goals(apply fu;simp[l9])
theorem Ib(jZ j0 j1 j2 j3 j4:Int):aM 66 [.agg [.i jZ,.i j0,.i j1,.i j2,.i j3,.i j4]] [.one (.bool (l9 (⟨jZ,j0,j1,j2,j3,j4⟩:ej)))]:=by
 refine aW 47 func66 call66 [.tmp 2] ?_;intro _
 try simp only[go_sem]
 repeat'((first|refine af.intro (by apply lS) ?_|refine av.intro (by apply lS) ?_|apply bo)<;>simp only[go_sem])
 all_goals(apply fu;simp[l9])
def lJ(w:ej)(n:Int):Bool:=l9 w&&decide (0<=n)&&decide (n<=i64.wrap (w.aX-w.seen))
def rY(w:ej)(n:Int):ej:=if lJ w n then {w with seen:=i64.wrap (w.seen+n)}else w
theorem aan(jZ j0 j1 j2 j3 j4 n:Int):aM 337 [.agg [.i jZ,.i j0,.i j1,.i j2,.i j3,.i j4],.one (.i n)] [.agg (ej.enc (rY (⟨jZ,j0,j1,j2,j3,j4⟩:ej) n)),.one (.bool (lJ (⟨jZ,j0,j1,j2,j3,j4⟩:ej) n))]:=by
 refine aW 29 func337 call337 [.cell 4 30,.tmp 5] ?_;intro _
 try simp only[go_sem]
 repeat'((first|refine af.intro (by apply Ib) ?_|apply bo|refine bX (λh=>?_) (λh=>?_))<;>simp only[go_sem])
 all_goals(cases hc:lJ (⟨jZ,j0,j1,j2,j3,j4⟩:ej) n<;>first|(simp[rY,hc];done)|(simp[rY,hc];simp_all;done)|((try(simp only[bH,eC]at *));simp[rY, *];done)|(exfalso;simp[lJ]at hc h;first|(simp_all;done)|(simp_all;omega)|omega|grind)|(exfalso;simp[lJ,d1,c2]at *;first|(simp_all;done)|(simp_all;omega)|omega|grind))
def Kg(w:ej)(n:Int):Bool:=l9 w&&decide (0<=n)&&decide (n<=i64.wrap (w.seen-w.fa))
def G6(w:ej)(n:Int):ej:=if Kg w n then {w with fa:=i64.wrap (w.fa+n)}else w
theorem aas(jZ j0 j1 j2 j3 j4 n:Int):aM 314 [.agg [.i jZ,.i j0,.i j1,.i j2,.i j3,.i j4],.one (.i n)] [.agg (ej.enc (G6 (⟨jZ,j0,j1,j2,j3,j4⟩:ej) n)),.one (.bool (Kg (⟨jZ,j0,j1,j2,j3,j4⟩:ej) n))]:=by
 refine aW 29 func314 call314 [.cell 4 30,.tmp 5] ?_;intro _
 try simp only[go_sem]
 repeat'((first|refine af.intro (by apply Ib) ?_|apply bo|refine bX (λh=>?_) (λh=>?_))<;>simp only[go_sem])
 all_goals(cases hc:Kg (⟨jZ,j0,j1,j2,j3,j4⟩:ej) n<;>first|(simp[G6,hc];done)|(simp[G6,hc];simp_all;done)|((try(simp only[bH,eC]at *));simp[G6, *];done)|(exfalso;simp[Kg]at hc h;first|(simp_all;done)|(simp_all;omega)|omega|grind)|(exfalso;simp[Kg,d1,c2]at *;first|(simp_all;done)|(simp_all;omega)|omega|grind))
def rF(w:ej):Bool:=l9 w&&decide (w.aX<4611686018427387903)&&decide (i64.wrap ((i64.wrap (w.size+1)).tdiv 2)<=i64.wrap (i64.wrap (w.fa+w.size)-w.aX))
theorem QL(jZ j0 j1 j2 j3 j4:Int):aM 294 [.agg [.i jZ,.i j0,.i j1,.i j2,.i j3,.i j4]] [.one (.bool (rF (⟨jZ,j0,j1,j2,j3,j4⟩:ej)))]:=by
 refine aW 25 func294 call294 [.tmp 2] ?_;intro _
 try simp only[go_sem]
 repeat'((first|refine af.intro (by apply Ib) ?_|apply bo)<;>simp only[go_sem])
 all_goals(apply fu;simp[rF])
def nm(w:ej)(dA eU:Int):Bool:=rF w&&cd dA w.k9 1000000&&cd eU 1 1000
def xV(w:ej)(dA eU:Int):Int:=if i64.wrap (dA-w.k9)<i64.wrap (2 * eU)then cu (i64.wrap (2 * w.size)) w.cm else w.size
def jO(w:ej)(dA eU:Int):ej:=if nm w dA eU then {w with size:=xV w dA eU,aX:=cu (i64.wrap (w.fa+xV w dA eU)) 4611686018427387903,k9:=dA}else w
theorem XA(jZ j0 j1 j2 j3 j4 n t:Int):aM 295 [.agg [.i jZ,.i j0,.i j1,.i j2,.i j3,.i j4],.one (.i n),.one (.i t)] [.agg (ej.enc (jO (⟨jZ,j0,j1,j2,j3,j4⟩:ej) n t)),.one (.bool (nm (⟨jZ,j0,j1,j2,j3,j4⟩:ej) n t))]:=by
 refine aW 48 func295 call295 [.cell 6 30,.tmp 7] ?_;intro _
 try simp only[go_sem]
 repeat'((first|refine af.intro (by apply QL) ?_|refine av.intro (by apply lS) ?_|apply bo|refine bX (λh=>?_) (λh=>?_))<;>simp only[go_sem])
 all_goals(cases hc:nm (⟨jZ,j0,j1,j2,j3,j4⟩:ej) n t<;>first|(simp[jO,xV,cu,hc];done)|(simp[jO,xV,cu,hc];simp_all;done)|((try(simp only[bH,eC]at *));simp[jO,xV,cu, *];done)|(exfalso;simp[nm]at hc h;first|(simp_all;done)|(simp_all;omega)|omega|grind)|(exfalso;simp[nm,d1,c2]at *;first|(simp_all;done)|(simp_all;omega)|omega|grind))
def km(c:jf):Bool:=cd c.aX 0 1152921504606846976&&cd c.iy 0 c.aX&&cd c.blocked (-1) c.aX
theorem aaX(dz oG dE:Int):aM 49 [.agg [.i dz,.i oG,.i dE]] [.one (.bool (km (⟨dz,oG,dE⟩:jf)))]:=by
 refine aW 20 func49 call49 [.tmp 2] ?_;intro _
 try simp only[go_sem]
 repeat'((first|refine af.intro (by apply j7) ?_|refine av.intro (by apply j7) ?_|apply bo)<;>simp only[go_sem])
 all_goals(apply fu;simp[km])
theorem Qd(dz oG dE:Int):aM 67 [.agg [.i dz,.i oG,.i dE]] [.one (.bool (km (⟨dz,oG,dE⟩:jf)))]:=by
 refine aW 20 func67 call67 [.tmp 2] ?_;intro _
 try simp only[go_sem]
 repeat'((first|refine af.intro (by apply lS) ?_|refine av.intro (by apply lS) ?_|apply bo)<;>simp only[go_sem])
 all_goals(apply fu;simp[km])
def oP(c:jf):Bool:=km c&&decide (c.iy≠c.aX)
def p0(c:jf):Int:=if oP c then c.iy else -1
def ry(c:jf):jf:=if oP c then {c with iy:=i64.wrap (c.iy+1)}else if km c then {c with blocked:=c.aX}else c
theorem Wl(dz oG dE:Int):aM 273 [.agg [.i dz,.i oG,.i dE]] [.one (.i (p0 (⟨dz,oG,dE⟩:jf))),.agg [.i (ry (⟨dz,oG,dE⟩:jf)).aX,.i (ry (⟨dz,oG,dE⟩:jf)).iy,.i (ry (⟨dz,oG,dE⟩:jf)).blocked],.one (.bool (oP (⟨dz,oG,dE⟩:jf)))]:=by
 refine aW 26 func273 call273 [.tmp 2,.cell 3 32,.tmp 4] ?_;intro _
 try simp only[go_sem]
 repeat'((first|refine af.intro (by apply Qd) ?_|refine a7 [[.post,.dL,.post,.post],[.dL,.post,.post,.post],[.pre,.pre,.post,.post],[.pre,.pre,.pre,.post]] χ ψ ?_|refine a7 [[.post,.dL,.post,.post,.post],[.dL,.post,.dL,.post,.post],[.pre,.dL,.post,.post,.post],[.pre,.pre,.pre,.post,.post],[.pre,.pre,.pre,.pre,.post]] χ ψ ?_|refine bX (λh=>?_) (λh=>?_))<;>simp only[go_sem])
 all_goals(cases hc:oP (⟨dz,oG,dE⟩:jf)<;>first|(simp[p0,ry,hc];done)|(simp[p0,ry,hc];simp_all;done)|((try(simp only[bH,eC]at *));simp[p0,ry, *];done)|(exfalso;simp[oP]at hc h;first|(simp_all;done)|(simp_all;omega)|omega|grind)|(exfalso;simp[oP,d1,c2]at *;first|(simp_all;done)|(simp_all;omega)|omega|grind))
def N9(c:jf)(l:Int):Bool:=km c&&decide (c.aX<l)&&decide (l<=1152921504606846976)
def Ac(c:jf)(l:Int):jf:=if N9 c l then {c with aX:=l,blocked:=-1}else c
theorem aap(dz oG dE l:Int):aM 322 [.agg [.i dz,.i oG,.i dE],.one (.i l)] [.agg [.i (Ac (⟨dz,oG,dE⟩:jf) l).aX,.i (Ac (⟨dz,oG,dE⟩:jf) l).iy,.i (Ac (⟨dz,oG,dE⟩:jf) l).blocked]]:=by
 refine aW 23 func322 call322 [.cell 4 32] ?_;intro _
 try simp only[go_sem]
 repeat'((first|refine af.intro (by apply Qd) ?_|apply bo|refine bX (λh=>?_) (λh=>?_))<;>simp only[go_sem])
 all_goals(cases hc:N9 (⟨dz,oG,dE⟩:jf) l<;>first|(simp[Ac,hc];done)|(simp[Ac,hc];simp_all;done)|((try(simp only[bH,eC]at *));simp[Ac, *];done)|(exfalso;simp[N9]at hc h;first|(simp_all;done)|(simp_all;omega)|omega|grind)|(exfalso;simp[N9,d1,c2]at *;first|(simp_all;done)|(simp_all;omega)|omega|grind))
def i_(a:d9):Bool:=cd a.cm 0 1000&&cd a.aX a.cm 1152921504606846976&&cd a.seen 0 a.aX&&cd a.cX 0 a.seen&&decide (a.aX<=i64.wrap (a.cX+a.cm))
theorem Ta(fj fk fl fm:Int):aM 50 [.agg [.i fj,.i fk,.i fl,.i fm]] [.one (.bool (i_ (⟨fj,fk,fl,fm⟩:d9)))]:=by
 refine aW 37 func50 call50 [.tmp 2] ?_;intro _
 try simp only[go_sem]
 repeat'((first|refine af.intro (by apply j7) ?_|refine av.intro (by apply j7) ?_|apply bo)<;>simp only[go_sem])
 all_goals(apply fu;simp[i_])
theorem Ly(fj fk fl fm:Int):aM 68 [.agg [.i fj,.i fk,.i fl,.i fm]] [.one (.bool (i_ (⟨fj,fk,fl,fm⟩:d9)))]:=by
 refine aW 37 func68 call68 [.tmp 2] ?_;intro _
 try simp only[go_sem]
 repeat'((first|refine af.intro (by apply lS) ?_|refine av.intro (by apply lS) ?_|apply bo)<;>simp only[go_sem])
 all_goals(apply fu;simp[i_])
def yl(a:d9)(i:Int):Bool:=i_ a&&decide (0<=i)&&decide (i<a.aX)
def n1(a:d9)(i:Int):Int:=if yl a i then dJ 0 (i64.wrap (i64.wrap (i+1)-a.seen))else 0
def lg(a:d9)(i:Int):d9:=if yl a i then {a with seen:=i64.wrap (a.seen+n1 a i)}else a
theorem WA(fj fk fl fm i:Int):aM 331 [.agg [.i fj,.i fk,.i fl,.i fm],.one (.i i)] [.agg [.i (lg (⟨fj,fk,fl,fm⟩:d9) i).cm,.i (lg (⟨fj,fk,fl,fm⟩:d9) i).aX,.i (lg (⟨fj,fk,fl,fm⟩:d9) i).seen,.i (lg (⟨fj,fk,fl,fm⟩:d9) i).cX],.one (.i (n1 (⟨fj,fk,fl,fm⟩:d9) i)),.one (.bool (yl (⟨fj,fk,fl,fm⟩:d9) i))]:=by
 refine aW 35 func331 call331 [.cell 4 34,.tmp 5,.tmp 6] ?_;intro _
 try simp only[go_sem]
 repeat'((first|refine af.intro (by apply Ly) ?_|apply bo|refine bX (λh=>?_) (λh=>?_))<;>simp only[go_sem])
 all_goals(cases hc:yl (⟨fj,fk,fl,fm⟩:d9) i<;>first|(simp[lg,n1,dJ,hc];done)|(simp[lg,n1,dJ,hc];simp_all;done)|((try(simp only[bH,eC]at *));simp[lg,n1,dJ, *];done)|(exfalso;simp[yl]at hc h;first|(simp_all;done)|(simp_all;omega)|omega|grind)|(exfalso;simp[yl,d1,c2]at *;first|(simp_all;done)|(simp_all;omega)|omega|grind))
def q0(a:d9):Bool:=i_ a&&decide (a.cX≠a.seen)
def jy(a:d9):d9:=if q0 a then {a with cX:=i64.wrap (a.cX+1)}else a
theorem Lq(fj fk fl fm:Int):aM 211 [.agg [.i fj,.i fk,.i fl,.i fm]] [.agg [.i (jy (⟨fj,fk,fl,fm⟩:d9)).cm,.i (jy (⟨fj,fk,fl,fm⟩:d9)).aX,.i (jy (⟨fj,fk,fl,fm⟩:d9)).seen,.i (jy (⟨fj,fk,fl,fm⟩:d9)).cX],.one (.bool (q0 (⟨fj,fk,fl,fm⟩:d9)))]:=by
 refine aW 20 func211 call211 [.cell 2 34,.tmp 3] ?_;intro _
 try simp only[go_sem]
 repeat'((first|refine af.intro (by apply Ly) ?_|apply bo|refine bX (λh=>?_) (λh=>?_))<;>simp only[go_sem])
 all_goals(cases hc:q0 (⟨fj,fk,fl,fm⟩:d9)<;>first|(simp[jy,hc];done)|(simp[jy,hc];simp_all;done)|((try(simp only[bH,eC]at *));simp[jy, *];done)|(exfalso;simp[q0]at hc h;first|(simp_all;done)|(simp_all;omega)|omega|grind)|(exfalso;simp[q0,d1,c2]at *;first|(simp_all;done)|(simp_all;omega)|omega|grind))
def AS(a:d9):Bool:=i_ a&&decide (i64.wrap ((i64.wrap (a.cm+1)).tdiv 2)<=i64.wrap (i64.wrap (a.cX+a.cm)-a.aX))&&decide (0<a.cm)
theorem XB(fj fk fl fm:Int):aM 296 [.agg [.i fj,.i fk,.i fl,.i fm]] [.one (.bool (AS (⟨fj,fk,fl,fm⟩:d9)))]:=by
 refine aW 25 func296 call296 [.tmp 2] ?_;intro _
 try simp only[go_sem]
 repeat'((first|refine af.intro (by apply Ly) ?_|apply bo)<;>simp only[go_sem])
 all_goals(apply fu;simp[AS])
def rG(a:d9):Bool:=AS a&&decide (i64.wrap (a.cX+a.cm)<=1152921504606846976)
def lj(a:d9):d9:=if rG a then {a with aX:=i64.wrap (a.cX+a.cm)}else a
theorem ag5(fj fk fl fm:Int):aM 297 [.agg [.i fj,.i fk,.i fl,.i fm]] [.agg [.i (lj (⟨fj,fk,fl,fm⟩:d9)).cm,.i (lj (⟨fj,fk,fl,fm⟩:d9)).aX,.i (lj (⟨fj,fk,fl,fm⟩:d9)).seen,.i (lj (⟨fj,fk,fl,fm⟩:d9)).cX],.one (.bool (rG (⟨fj,fk,fl,fm⟩:d9)))]:=by
 refine aW 23 func297 call297 [.cell 2 34,.tmp 3] ?_;intro _
 try simp only[go_sem]
 repeat'((first|refine af.intro (by apply XB) ?_|apply bo|refine bX (λh=>?_) (λh=>?_))<;>simp only[go_sem])
 all_goals(cases hc:rG (⟨fj,fk,fl,fm⟩:d9)<;>first|(simp[lj,hc];done)|(simp[lj,hc];simp_all;done)|((try(simp only[bH,eC]at *));simp[lj, *];done)|(exfalso;simp[rG]at hc h;first|(simp_all;done)|(simp_all;omega)|omega|grind)|(exfalso;simp[rG,d1,c2]at *;first|(simp_all;done)|(simp_all;omega)|omega|grind))
def mJ(p:lG):Bool:=cd p.ei 0 7
theorem Tu(q1:Int)(q2:Bool):aM 169 [.agg [.i q1,.bool q2]] [.one (.bool (mJ (⟨q1,q2⟩:lG)))]:=by
 refine aW 6 func169 call169 [.tmp 2] ?_;intro _
 try simp only[go_sem]
 repeat'(refine af.intro (by apply j7) ?_<;>simp only[go_sem])
 all_goals simp[mJ]
theorem Kh(q1:Int)(q2:Bool):aM 184 [.agg [.i q1,.bool q2]] [.one (.bool (mJ (⟨q1,q2⟩:lG)))]:=by
 refine aW 6 func184 call184 [.tmp 2] ?_;intro _
 try simp only[go_sem]
 repeat'(refine af.intro (by apply lS) ?_<;>simp only[go_sem])
 all_goals simp[mJ]
def Ad:lG:=⟨3,false⟩
theorem abt :aM 307 [] [.agg [.i (Ad).ei,.bool (Ad).ic]]:=by
 refine aW 2 func307 call307 [.cell 0 72] ?_;intro _
 try simp only[go_sem]
 all_goals simp[Ad]
def FY:e5:=⟨16,8,32,16,64,2,2,4⟩
theorem agJ :aM 223 [] [.agg (e5.enc (FY))]:=by
 refine aW 2 func223 call223 [.cell 0 25] ?_;intro _
 try simp only[go_sem]
 all_goals simp[FY]
def ad6:List (List bK):=cB 14 [4517978,4518331,4518337,4518316,4518262,4518100,4517613,4775314,4779688,4764379,4725013,4606915,4251528,3188646]
def ad7:List (List bK):=cB 14 [3985925,3985927,3985920,3985902,3985848,4545922,4546408,4544707,4540333,4527211,4753444,4635346,4251649,3188646]
def ad8:List (List bK):=cB 18 [365897129,385029358,385029364,385029343,385029289,385029127,386709349,386710807,386705704,386692582,386653216,387331915,386977621,385826530,382637521,373071583,344373768,258280326]
def ad9:List (List bK):=cB 14 [3988112,3988114,3988107,3988089,3988035,3988966,3988480,3986901,4760005,4773127,4727200,4609102,4254808,3188646]
def aea:List (List bK):=cB 18 [365897129,385035919,385035925,385035904,385035850,385035688,385038481,385037023,385032286,387351598,387390964,387253183,386898889,385836007,382637521,373071583,344373768,258280326]
def aeb:List (List bK):=cB 25 [737454959978,737454959980,737454959973,737454959955,737454959901,737454988534,737454989020,737454987319,737454982945,737454969823,737454930336,747936157360,747936511654,747935271625,747932082979,747922517041,752994767092,753080860534,752779533487,752004692509,749680169575,742685165986,721764371007,800217020029,564859072962]
attribute [go_sem] ad6 ad7 ad8 ad9 aea aeb
theorem ho(xs:List ab):cN xs↔(∀x∈xs,c8 x=true)/\xs.Pairwise (λa b=>a.high<b.low):=by
 constructor
 ·intro h;have UG:∀i (hi:i<xs.length),s_ xs i:=λi hi=>by
   unfold cN at h;rw[ae_]at h;exact h i (asl.2 hi)
  have hok:∀i (hi:i<xs.length),c8 xs[i]:=λi hi=>by
   cases i with
   |zero=>rw[<-OL xs hi];exact UG 0 hi
   |succ j=>have:=UG (j+1) hi;rw[KA xs j hi,bm]at this;exact this.1
  have b4:∀j (aI:j+1<xs.length),xs[j].high<xs[j+1].low:=λj aI=>by
   have:=UG (j+1) aI;rw[KA xs j aI,bm]at this;exact cY this.2
  refine⟨λx hx=>?_,?_⟩
  ·obtain⟨i,hi,rfl⟩:=asn hx;exact hok i hi
  rw[arY];intro i j hi aI oX;obtain⟨d,rfl⟩:∃d,j=i+1+d:=⟨j-i-1,by omega⟩;clear oX
  induction d with
  |zero=>exact b4 i ω
  |succ d c_=>
   have h1:=c_ ω;have h2:=b4 (i+1+d) ω;have ao:=hok (i+1+d) ω;simp only[c8,bm,bH]at ao;have e:xs[i+1+(d+1)].low=xs[i+1+d+1].low:=rfl;omega
 ·rintro⟨h1,h2⟩;unfold cN;rw[ae_];intro i hi;have hi:=asl.1 hi
  cases i with
  |zero=>rw[OL xs hi];exact h1 _ (eK hi)
  |succ j=>
   rw[KA xs j hi,bm];exact⟨h1 _ (eK hi),br ((arY.1 h2) j (j+1) ω hi ω)⟩
theorem gr(r:ab):c8 r↔0<=r.low/\r.low<r.high/\r.high<=4611686018427387903:=by
 simp only[c8,bm,bH,ed]
theorem x4{α β:Type}(g:β->α->β)(a:β)(xs:List α)(i:Nat)(h:i<xs.length):(xs.take (i+1)).foldl g a=g ((xs.take i).foldl g a) xs[i]:=by
 rw[gO,cy h,ast,arD];rfl
theorem Hv{α β:Type}(f:α->List β)(xs:List α)(i:Nat)(h:i<xs.length):(xs.take (i+1)).flatMap f=(xs.take i).flatMap f++f xs[i]:=by
 rw[gO,cy h,ast,List.flatMap_append];simp
def i2(xs:List ab):Int:=xs.foldl (λn r=>n+(r.high-r.low)) 0
theorem KI{xs:List ab}(h:cN xs):∀i,(hi:i<xs.length)->0<=i2 (xs.take i)/\i2 (xs.take i)<=xs[i].low
 |0,hi=>by
  have h1:=(gr _).1 (((ho xs).1 h).1 _ (eK hi));simp only[aui,i2,azS];omega
 |i+1,hi=>by
  obtain⟨h1,h2⟩:=KI h i ω;have ao:=(arY.1 ((ho xs).1 h).2) i (i+1) ω hi ω;have aH:=(gr _).1 (((ho xs).1 h).1 _ (eK (show i<xs.length by omega)));have e:i2 (xs.take (i+1))=i2 (xs.take i)+(xs[i].high-xs[i].low):=x4 _ _ _ _ _;omega
def jH(xs:List ab):Int:=if cN xs then i2 xs else -1
theorem Dh(xs:List ab):aM 76 [.one (.azA xs)] [.one (.i (jH xs))]:=by
 refine aW 28 func76 call76 [.tmp 2] ?_;intro ok;have hm:=gw ok;cases hA:cN xs
 ·try simp only[go_sem]
  repeat'(refine af.intro (by apply zc) ?_<;>simp only[go_sem,hA])
  all_goals simp[jH,hA]
 simp only[go_sem];refine af.intro (zc xs) ?_;simp only[go_sem,hA];refine cb.intro (λi:Nat=>⟨(.d (.azA xs)::.an::.i 0::.i (i2 (xs.take i))::.i i::aA 23 []),[]⟩)
  (λi=>xs.length-i) (λi=>i<=xs.length) 0 [] ω ?_ ?_
 ·simp only[go_sem];simp[i2]
 intro i hi;by_cases h1:i<xs.length
 ·have aq:=aro (i:=i) (n:=xs.length);have az:=b_ ab.enc xs i h1;have hw:=d8 h1 hm;have hb:=KI hA i h1;have aH:=(gr _).1 (((ho xs).1 hA).1 _ (eK h1));have e:i2 (xs.take (i+1))=i2 (xs.take i)+(xs[i].high-xs[i].low):=x4 _ _ _ _ _;have eP:i64.wrap (i2 (xs.take i)+xs[i].high)=i2 (xs.take i)+xs[i].high:=by rw[bw]<;>omega
  have gl:i64.wrap (i2 (xs.take i)+xs[i].high-xs[i].low)=i2 (xs.take (i+1)):=by rw[bw]<;>omega
  try simp only[go_sem,I,aq]
  repeat'(first|(refine a7 ad6 χ ψ ?_<;>simp only[go_sem,I,aF,az,ab.enc,eP,gl])|refine⟨ae7,?_⟩|fail)
  all_goals(refine bt.intro (i+1) [] ω ω ?_;simp only[go_sem,hw];try simp)
 obtain⟨aq,rfl⟩:=arn (i:=i) (n:=xs.length);simp only[go_sem,I,aq,da];simp[jH,hA]
theorem OO(xs:List ab):aM 73 [.one (.azA xs)] [.one (.i (jH xs))]:=by
 refine aW 24 func73 call73 [.tmp 2] ?_;intro ok;have hm:=gw ok;cases hA:cN xs
 ·try simp only[go_sem]
  repeat'(refine af.intro (by apply Dd) ?_<;>simp only[go_sem,hA])
  all_goals simp[jH,hA]
 simp only[go_sem];refine af.intro (Dd xs) ?_;simp only[go_sem,I,hA];refine cb.intro (λi:Nat=>⟨(.d (.azA xs)::.an::.i 0::.i (i2 (xs.take i))::aA 5 (.d (.azA xs)::.i xs.length::.i i::aA 12 [])),[]⟩)
  (λi=>xs.length-i) (λi=>i<=xs.length) 0 [] ω ?_ ?_
 ·simp only[go_sem];simp[i2]
 intro i hi;by_cases h1:i<xs.length
 ·have aq:=aro (i:=i) (n:=xs.length);have az:=b_ ab.enc xs i h1;have hw:=d8 h1 hm;have hb:=KI hA i h1;have aH:=(gr _).1 (((ho xs).1 hA).1 _ (eK h1));have e:i2 (xs.take (i+1))=i2 (xs.take i)+(xs[i].high-xs[i].low):=x4 _ _ _ _ _;have eP:i64.wrap (xs[i].high-xs[i].low)=xs[i].high-xs[i].low:=by rw[bw]<;>omega
  have gl:i64.wrap (i2 (xs.take i)+(xs[i].high-xs[i].low))=i2 (xs.take (i+1)):=by rw[bw]<;>omega
  try simp only[go_sem,I,aF,az,ab.enc,aq,eP,gl]
  repeat'(first|refine⟨ae7,?_⟩|fail)
  all_goals(refine bt.intro (i+1) [] ω ω ?_;simp only[go_sem,hw];try simp)
 obtain⟨aq,rfl⟩:=arn (i:=i) (n:=xs.length);simp only[go_sem,aq,da];simp[jH,hA]
def iK(f:Int)(r:ab):Int:=if r.low<=f/\f<r.high then r.high else f
def Ai(xs:List ab)(f:Int):Bool:=cN xs&&decide (0<=f)
def jc(xs:List ab)(f:Int):Int:=if Ai xs f then xs.foldl iK f else -1
theorem BK(xs:List ab)(f:Int):aM 163 [.one (.azA xs),.one (.i f)] [.one (.i (jc xs f))]:=by
 refine aW 41 func163 call163 [.tmp 4] ?_;intro ok;have hm:=gw ok
 try simp only[go_sem]
 repeat'((first|refine af.intro (by apply zc) ?_|apply bo)<;>simp only[go_sem])
 refine bX (λh0=>?_) (λh0=>?_)
 ·simp only[go_sem];have:Ai xs f=false:=by revert h0;simp only[Ai];cases cN xs<;>simp
  simp[jc,this]
 have hg:Ai xs f:=by revert h0;simp only[Ai];cases cN xs<;>simp
 simp only[go_sem];refine cb.intro (λi:Nat=>⟨(.d (.azA xs)::.i ((xs.take i).foldl iK f)::aA 3 (.i i::aA 35 [])),[]⟩)
  (λi=>xs.length-i) (λi=>i<=xs.length) 0 [] ω ?_ ?_
 ·simp only[go_sem];simp
 intro i hi;by_cases h1:i<xs.length
 ·have aq:=aro (i:=i) (n:=xs.length);have az:=b_ ab.enc xs i h1;have hw:=d8 h1 hm;have e:=x4 iK f xs i h1;by_cases c1:xs[i].low<=(xs.take i).foldl iK f
  ·have rf:=br (p:=xs[i].low<=(xs.take i).foldl iK f) c1;by_cases cW:(xs.take i).foldl iK f<xs[i].high
   ·have q5:=br (p:=(xs.take i).foldl iK f<xs[i].high) cW;rw[iK,if_pos ⟨c1,cW⟩]at e
    try simp only[go_sem,I,aF,az,ab.enc,aq,rf]
    repeat'(first|(with_reducible apply cG<;>simp only[go_sem,I,aF,az,ab.enc,q5])|refine⟨ae7,?_⟩|fail)
    all_goals(refine bt.intro (i+1) [] ω ω ?_;simp only[go_sem,hw,e])
   have q5:=bn (p:=(xs.take i).foldl iK f<xs[i].high) cW;rw[iK,if_neg (λg=>cW g.2)]at e
   try simp only[go_sem,I,aF,az,ab.enc,aq,rf]
   repeat'(first|(with_reducible apply cG<;>simp only[go_sem,I,aF,az,ab.enc,q5])|refine⟨ae7,?_⟩|fail)
   all_goals(refine bt.intro (i+1) [] ω ω ?_;simp only[go_sem,hw,e])
  have rf:=bn (p:=xs[i].low<=(xs.take i).foldl iK f) c1;rw[iK,if_neg (λg=>c1 g.1)]at e
  try simp only[go_sem,I,aF,az,ab.enc,aq,rf]
  repeat'(first|(with_reducible apply dp<;>simp only[go_sem])|refine⟨ae7,?_⟩|fail)
  all_goals(refine bt.intro (i+1) [] ω ω ?_;simp only[go_sem,hw,e])
 obtain⟨aq,rfl⟩:=arn (i:=i) (n:=xs.length);simp only[go_sem,I,aq,da];simp[jc,hg]
theorem UH(xs:List ab)(f:Int):aM 141 [.one (.azA xs),.one (.i f)] [.one (.i (jc xs f))]:=by
 refine aW 34 func141 call141 [.tmp 4] ?_;intro ok;have hm:=gw ok
 try simp only[go_sem]
 repeat'((first|refine af.intro (by apply Dd) ?_|apply bo)<;>simp only[go_sem])
 refine bX (λh0=>?_) (λh0=>?_)
 ·simp only[go_sem];have:Ai xs f=false:=by revert h0;simp only[Ai];cases cN xs<;>simp
  simp[jc,this]
 have hg:Ai xs f:=by revert h0;simp only[Ai];cases cN xs<;>simp
 simp only[go_sem,I];refine cb.intro (λi:Nat=>⟨(.d (.azA xs)::.i ((xs.take i).foldl iK f)::aA 12 (.d (.azA xs)::.i xs.length::.i i::aA 17 [])),[]⟩)
  (λi=>xs.length-i) (λi=>i<=xs.length) 0 [] ω ?_ ?_
 ·simp only[go_sem];simp
 intro i hi;by_cases h1:i<xs.length
 ·have aq:=aro (i:=i) (n:=xs.length);have az:=b_ ab.enc xs i h1;have hw:=d8 h1 hm;have e:=x4 iK f xs i h1;by_cases c1:xs[i].low<=(xs.take i).foldl iK f
  ·have rf:=br (p:=xs[i].low<=(xs.take i).foldl iK f) c1;by_cases cW:(xs.take i).foldl iK f<xs[i].high
   ·have q5:=br (p:=(xs.take i).foldl iK f<xs[i].high) cW;rw[iK,if_pos ⟨c1,cW⟩]at e
    try simp only[go_sem,I,aF,az,ab.enc,aq,rf]
    repeat'(first|(with_reducible apply cG<;>simp only[go_sem,q5])|refine⟨ae7,?_⟩|fail)
    all_goals(refine bt.intro (i+1) [] ω ω ?_;simp only[go_sem,hw,e])
   have q5:=bn (p:=(xs.take i).foldl iK f<xs[i].high) cW;rw[iK,if_neg (λg=>cW g.2)]at e
   try simp only[go_sem,I,aF,az,ab.enc,aq,rf]
   repeat'(first|(with_reducible apply cG<;>simp only[go_sem,q5])|refine⟨ae7,?_⟩|fail)
   all_goals(refine bt.intro (i+1) [] ω ω ?_;simp only[go_sem,hw,e])
  have rf:=bn (p:=xs[i].low<=(xs.take i).foldl iK f) c1;rw[iK,if_neg (λg=>c1 g.1)]at e
  try simp only[go_sem,I,aF,az,ab.enc,aq,rf]
  repeat'(first|(with_reducible apply dp<;>simp only[go_sem])|refine⟨ae7,?_⟩|fail)
  all_goals(refine bt.intro (i+1) [] ω ω ?_;simp only[go_sem,hw,e])
 obtain⟨aq,rfl⟩:=arn (i:=i) (n:=xs.length);simp only[go_sem,aq,da];simp[jc,hg]
def jr(r x:ab):List ab:=
 (if x.low<cu x.high r.low then [⟨x.low,cu x.high r.low⟩]else [])++(if dJ x.low r.high<x.high then [⟨dJ x.low r.high,x.high⟩]else [])
def nw(xs:List ab)(r:ab):List ab:=if cN xs&&c8 r then xs.flatMap (jr r)else xs
theorem UI(r x:ab):(jr r x).length<=2:=by unfold jr;split<;>split<;>simp
theorem At{α β:Type}(f:α->List β)(k:Nat)(h:∀x,(f x).length<=k):∀xs:List α,(xs.flatMap f).length<=k * xs.length
 |[]=>by simp
 |x::xs=>by
  have:=At f k h xs;have:=h x;simp only[List.flatMap_cons,eh,e0,auc];omega
theorem UJ(xs:List ab)(l h:Int)(hx:xs.length<=1048576):aM 160 [.one (.azA xs),.agg [.i l,.i h]] [.one (.azA (nw xs ⟨l,h⟩))]:=by
 refine aW 87 func160 call160 [.tmp 4] ?_;intro ok;have hm:=gw ok
 try simp only[go_sem]
 repeat'((first|refine af.intro (by apply zc) ?_|refine av.intro (by apply KC) ?_|apply bo)<;>simp only[go_sem])
 refine bX (λh0=>?_) (λh0=>?_)
 ·have hg:(cN xs&&c8 ⟨l,h⟩)=false:=by revert h0;cases cN xs<;>cases c8 ⟨l,h⟩<;>simp
  try simp only[go_sem]
  repeat'(first|(refine af.intro (by(apply Qf<;>exact aT)) ?_<;>simp only[go_sem,I])|refine⟨ae7,?_⟩|fail)
  all_goals simp[nw,hg]
 have hg:(cN xs&&c8 ⟨l,h⟩):=by revert h0;cases cN xs<;>cases c8 ⟨l,h⟩<;>simp
 simp only[go_sem];refine cb.intro (λi:Nat=>⟨(.d (.azA xs)::.an::.an::.ptr 0 0 0::.an::.sl 1 0 ((xs.take i).flatMap (jr ⟨l,h⟩)).length::.i i::aA 80 []),[.box [.i l,.i h],.azv ((xs.take i).flatMap (jr ⟨l,h⟩))]⟩)
  (λi=>xs.length-i) (λi=>i<=xs.length) 0 [0,1] ω ?_ ?_
 ·simp only[go_sem];simp
 intro i hi;by_cases h1:i<xs.length
 ·have aq:=aro (i:=i) (n:=xs.length);have az:=b_ ab.enc xs i h1;have hw:=d8 h1 hm;have e:=Hv (jr ⟨l,h⟩) xs i h1;have d':=At (jr ⟨l,h⟩) 2 (UI _) (xs.take i);have cR:(xs.take i).length=i:=by simp;omega
  generalize hq:(xs.take i).flatMap (jr ⟨l,h⟩)=cJ at e d'
  try simp only[go_sem,I,aq]
  repeat'(first|((first|refine a7 ad7 ζ ψ ?_|refine a7 ad8 ζ ψ ?_|refine a7 ad9 ζ ψ ?_|refine a7 aea ζ ψ ?_|refine bX (λh=>?_) (λh=>?_))<;>simp only[go_sem,I,aF,az,ab.enc])|refine⟨ae7,?_⟩|fail)
  all_goals(simp only[bH,eC]at *)
  all_goals rename_i h2
  all_goals first
   |(refine bt.intro (i+1) [0,5] ω ω ?_;simp only[go_sem,hw,e,jr,cu,dJ];rw[if_pos h2,if_pos h];simp[ab.enc];done)
   |(refine bt.intro (i+1) [0,3] ω ω ?_;simp only[go_sem,hw,e,jr,cu,dJ];rw[if_pos h2,if_neg h];simp[ab.enc];done)
   |(refine bt.intro (i+1) [0,3] ω ω ?_;simp only[go_sem,hw,e,jr,cu,dJ];rw[if_neg h2,if_pos h];simp[ab.enc];done)
   |(refine bt.intro (i+1) [0,1] ω ω ?_;simp only[go_sem,hw,e,jr,cu,dJ];rw[if_neg h2,if_neg h];simp;done)
 obtain⟨aq,rfl⟩:=arn (i:=i) (n:=xs.length);simp only[go_sem,I,aq,da];simp[nw,hg]
def gj(x y:ab):List ab:=if dJ x.low y.low<cu x.high y.high then [⟨dJ x.low y.low,cu x.high y.high⟩]else []
def gy(xs ys:List ab):List ab:=if cN xs&&cN ys then xs.flatMap λx=>ys.flatMap (gj x)else []
theorem KJ(x y:ab):(gj x y).length<=1:=by unfold gj;split<;>simp
theorem UK(xs ys:List ab)(hx:xs.length<=1048576)(hy:ys.length<=8):aM 158 [.one (.azA xs),.one (.azA ys)] [.one (.azA (gy xs ys))]:=by
 refine aW 63 func158 call158 [.tmp 4] ?_;intro ok;have hm:=gw ok;have dG:=zc xs;have e9:=zc ys;simp only[go_sem];refine cb.intro (λi:Nat=>⟨(.d (.azA xs)::.d (.azA ys)::aA 3 (.sl 0 0 ((xs.take i).flatMap λx=>ys.flatMap (gj x)).length::.i i::aA 56 [])),[.azv ((xs.take i).flatMap λx=>ys.flatMap (gj x))]⟩)
   (λi=>xs.length-i) (λi=>i<=xs.length/\((cN xs&&cN ys)=false->i=0)) 0 [0] ⟨by omega,λ_=>rfl⟩ ?_ ?_
 ·simp only[go_sem];simp
 rintro i ⟨hi,hz⟩;by_cases h1:i<xs.length
 ·have aq:=aro (i:=i) (n:=xs.length);have az:=b_ ab.enc xs i h1;have hw:=d8 h1 hm;have e:=Hv (λx=>ys.flatMap (gj x)) xs i h1;have d':=At (λx=>ys.flatMap (gj x)) ys.length (λx=>by have:=At (gj x) 1 (KJ x) ys;omega) (xs.take i);have cR:(xs.take i).length=i:=by simp;omega
  have HP:((xs.take i).flatMap λx=>ys.flatMap (gj x)).length<=8388608:=by
   have:ys.length * (xs.take i).length<=8 * 1048576:=Nat.mul_le_mul hy ω;omega
  cases hg:(cN xs&&cN ys)
  ·obtain rfl:=hz hg;cases ze:cN xs
   ·try simp only[go_sem,I,aq]
    repeat'(first|((first|refine af.i ?_|refine av.i ?_|with_reducible apply cG|with_reducible apply dp)<;>simp only[go_sem,I,ze])|refine⟨ae7,?_⟩|fail)
    all_goals simp[gy,hg]
   have sY:cN ys=false:=by revert hg;rw[ze];simp
   try simp only[go_sem,I,aq]
   repeat'(first|((first|refine af.i ?_|refine av.i ?_|with_reducible apply cG)<;>simp only[go_sem,I,ze,sY])|refine⟨ae7,?_⟩|fail)
   all_goals simp[gy,hg]
  have ze:cN xs:=by revert hg;cases cN xs<;>simp
  have sY:cN ys:=by revert hg;rw[ze];simp
  generalize hq:((xs.take i).flatMap λx=>ys.flatMap (gj x))=cJ at e d' HP
  try simp only[go_sem,I,aq]
  repeat'((first|refine af.i ?_|refine av.i ?_|with_reducible apply cG)<;>simp only[go_sem,ze,sY])
  refine cb.intro (λk:Nat=>⟨(.d (.azA xs)::.d (.azA ys)::aA 3 (.sl 0 0 (cJ++(ys.take k).flatMap (gj xs[i])).length::.i i::.i k::aA 55 [])),[.azv (cJ++(ys.take k).flatMap (gj xs[i]))]⟩)
   (λk=>ys.length-k) (λk=>k<=ys.length) 0 [0] ω ?_ ?_
  ·simp only[go_sem];simp
  intro k hk;by_cases h2:k<ys.length
  ·have gv:=aro (i:=k) (n:=ys.length);have mq:=b_ ab.enc ys k h2;have jx:=d8 (m:=8) (i:=k) ω (by simp[maxLen]);have ar:=Hv (gj xs[i]) ys k h2;have ap4:=At (gj xs[i]) 1 (KJ _) (ys.take k);have Ck:(ys.take k).length=k:=by simp;omega
   generalize yf:cJ++(ys.take k).flatMap (gj xs[i])=KK;have Hw:KK.length<=8388616:=by rw[<-yf,eh];omega
   have a4:cJ++(ys.take (k+1)).flatMap (gj xs[i])=KK++gj xs[i] ys[k]:=by rw[ar,<-ah_,yf]
   try simp only[go_sem,I,gv]
   repeat'(first|((first|refine af.i ?_|refine av.i ?_|refine a7 aeb χ ψ ?_|refine bX (λh=>?_) (λh=>?_))<;>simp only[go_sem,I,aF,az,mq,ab.enc])|refine⟨ae7,?_⟩|fail)
   ·have hc:gj xs[i] ys[k]=[⟨dJ xs[i].low ys[k].low,cu xs[i].high ys[k].high⟩]:=by unfold gj;exact if_pos (cY h)
    rw[hc]at a4;have bP:=congrArg asy a4;simp only[eh,asq]at bP;refine bt.intro (k+1) [3] ω ω ?_;simp only[go_sem,jx,a4,bP];simp[ab.enc,cu,dJ]
   have hc:gj xs[i] ys[k]=[]:=by unfold gj;exact if_neg (de h)
   rw[hc,ix]at a4;have bP:=congrArg asy a4;simp only[eh]at bP;refine bt.intro (k+1) [0] ω ω ?_;simp only[go_sem,jx,a4,bP];simp
  obtain⟨gv,rfl⟩:=arn (i:=k) (n:=ys.length);simp only[go_sem,I,gv,da];refine bt.intro (i+1) [0] ω ω ?_;simp only[go_sem,hw,e];simp
 obtain⟨aq,rfl⟩:=arn (i:=i) (n:=xs.length);have hr:(xs.flatMap λx=>ys.flatMap (gj x))=gy xs ys:=by
  unfold gy;split
  ·rfl
  rename_i hg;have:=hz (by simpa using hg);rw[arN.1 this];rfl
 try simp only[go_sem,I,aq,da,hr]
 repeat'((first|refine af.i ?_|refine av.i ?_|with_reducible apply dp)<;>simp only[go_sem,I])
 all_goals simp
def p4(n:Int):UInt8:=UInt8.ofNat n.toNat
theorem adI:∀(l:List Int),bytesL (l.map eU8)=some (l.map p4)
 |[]=>rfl
 |n::l=>by simp only[fe,bytesL,eU8,byte1,adI l];rfl
def KG(n:Int):Nat->St
 |0=>⟨(.i n::.i 1::.an::.an::.d (.str [])::.d (.str [])::.i 0::aA 24 []),[]⟩
 |i+1=>⟨(.i 0::.i 1::.an::.an::.d (.str [])::.d (.str [p4 n])::.i ((i+1:Nat):Int)::aA 24 []),[]⟩
theorem ady(n:Int)(h:0<=n/\n<=255):aM 341 [.one (.i n),.one (.i 1)] [.one (.str [p4 n])]:=by
 refine aW 31 func341 call341 [.tmp 4] ?_;intro _;have h1:¬n<0:=by omega
 have h2:n.tmod 256=n:=by rw[Int.tmod_eq_emod_of_nonneg ω];omega
 have ao:n.tdiv 256=0:=by rw[Int.tdiv_eq_ediv_of_nonneg ω];omega
 have aH:IntKind.u8.wrap n=n:=R1 h.1 h.2;have bR:i64.wrap 0=0:=by decide
 simp only[go_sem];refine af.intro (lS 1 1 7) ?_;simp only[go_sem]
 repeat(apply bo;simp only[go_sem])
 have hz:(bif !cd 1 1 7 then true else decide (n<0))=false:=by simp[cd,h1]
 rw[hz];simp only[go_sem];refine cb.intro (KG n) (λi=>1-i) (λi=>i<=1) 0 [] ω ?_ ?_
 ·simp only[KG,go_sem]
 intro i hi
 cases i with
 |zero=>
  simp only[KG,go_sem,h2,ao,aH,bR];refine bt.intro 1 [] ω ω ?_;simp only[KG,go_sem];simp[p4,bw]
 |succ i=>
  have q_:i=0:=by omega
  subst q_;simp only[KG,go_sem];refine bX (λeQ=>absurd (cY eQ) ω) (λ_=>?_);simp only[go_sem]
theorem apQ{n:Int}(h:0<=n/\n<=255):bitI .and .i64 n 255=n:=by
 have key:∀m:Fin 256,bitI .and .i64 (m.val:Int) 255=(m.val:Int):=by decide +kernel
 have:=key ⟨n.toNat,by omega⟩;simpa [show(n.toNat:Int)=n from by omega]using this
theorem JY(n:Int)(h:0<=n/\n<=255):aM 338 [.one (.i n)] [.one (.str [p4 n])]:=by
 refine aW 6 func338 call338 [.tmp 2] ?_;intro _;simp only[go_sem,apQ h];refine af.intro (ady n h) ?_;simp only[go_sem]
def WJ:List (List bK):=cB 12 [501920,501918,501952,501934,502240,502078,522328,530347,525973,512122,472392,354294]
def Qe:List (List bK):=cB 8 [6200,6198,6448,6547,6493,6322,5832,4374]
def WK:List (List bK):=cB 13 [1505753,1505751,1505866,1505848,1505794,1506721,1506235,1514497,1510123,1584481,1545115,1417176,1062882]
def WL:List (List bK):=cB 15 [14345882,14345880,14345874,14345977,14345923,14326065,14348542,14347084,14322663,14336028,14289858,14171760,13817466,12754584,9565938]
def WM:List (List bK):=cB 24 [266739006680,266739006678,266740662352,266740662334,266740662280,266740663207,266740662721,266740661146,266740686292,266740673170,266740630528,266741309587,266740955293,266739803842,266758138552,266748572614,266911193560,266825100118,268288688632,267513847654,280686144280,273712575478,251048476872,188286357654]
def WN:List (List bK):=cB 10 [58940,58938,58932,59035,58981,58077,58563,56862,52488,39366]
def WO:List (List bK):=cB 11 [167306,176065,176059,176809,177106,176944,176431,174961,170587,157464,118098]
def WQ:List (List bK):=cB 17 [121965710,128343355,128343361,128343340,128343286,128343124,128875171,129132508,129136882,129121573,129082207,128964109,128609086,127545841,124357195,114791256,86093442]
attribute [go_sem] WJ Qe WK WL WM WN WO WQ
theorem fb{α:Type}(e:α->List D)(l:List α):(l.map e).take l.length=l.map e:=eA ξ
theorem Ll{α:Type}(e:α->List D)(xs:List α)(i:Nat)(h:i<xs.length):(xs.take (i+1)).map e=(xs.take i).map e++[e xs[i]]:=by
 rw[gO,cy h,ast,arO];rfl
theorem Lz(cU cK cQ:Int)(ct:List Int)(hx:ct.length<=8388608):aM 143 [.agg [.i cU,.i cK,.i cQ,.sl 1 (ct.map bg)]] [.agg [.i ((⟨cU,cK,cQ,ct⟩:dk)).size,.i ((⟨cU,cK,cQ,ct⟩:dk)).base,.i ((⟨cU,cK,cQ,ct⟩:dk)).bS,.sl 1 (((⟨cU,cK,cQ,ct⟩:dk)).cells.map bg)]]:=by
 refine aW 9 func143 call143 [.cell 2 62] ?_;intro _
 try simp only[go_sem,I]
 repeat'(first|refine⟨ae7,?_⟩|fail)
 all_goals simp
theorem LA(cU cK cQ:Int)(ct:List Int)(hx:ct.length<=8388608):aM 207 [.agg [.i cU,.i cK,.i cQ,.sl 1 (ct.map bg)]] [.agg [.i ((⟨cU,cK,cQ,ct⟩:dk)).size,.i ((⟨cU,cK,cQ,ct⟩:dk)).base,.i ((⟨cU,cK,cQ,ct⟩:dk)).bS,.sl 1 (((⟨cU,cK,cQ,ct⟩:dk)).cells.map bg)]]:=by
 refine aW 14 func207 call207 [.cell 2 62] ?_;intro _
 try simp only[go_sem]
 repeat'(first|(refine a7 WJ χ ψ ?_<;>simp only[go_sem,I])|refine⟨ae7,?_⟩|fail)
 all_goals simp
theorem age(DY:Int)(AR:List aR)(hx:AR.length<=8388608):aM 286 [.agg [.i DY,.azB AR]] [.agg [.i ((⟨DY,AR⟩:nX)).next,.sl 2 (((⟨DY,AR⟩:nX)).cq.map aR.enc)]]:=by
 refine aW 10 func286 call286 [.cell 2 68] ?_;intro _
 try simp only[go_sem]
 repeat'(first|(refine a7 Qe χ ψ ?_<;>simp only[go_sem,I])|refine⟨ae7,?_⟩|fail)
 all_goals simp
theorem BX(DY:Int)(AR:List aR)(hx:AR.length<=8388608):aM 209 [.agg [.i DY,.azB AR]] [.agg [.i ((⟨DY,AR⟩:nX)).next,.sl 2 (((⟨DY,AR⟩:nX)).cq.map aR.enc)]]:=by
 refine aW 10 func209 call209 [.cell 2 68] ?_;intro _
 try simp only[go_sem]
 repeat'(first|(refine a7 Qe χ ψ ?_<;>simp only[go_sem,I])|refine⟨ae7,?_⟩|fail)
 all_goals simp
theorem agf(dN dx:Int)(c4:List aR)(d5 dX dZ:Int)(hx:c4.length<=8388608):aM 234 [.agg [.i dN,.i dx,.azB c4,.i d5,.i dX,.i dZ]] [.agg (cf.enc ((⟨dN,⟨dx,c4⟩,d5,dX,dZ⟩:cf)))]:=by
 refine aW 8 func234 call234 [.cell 2 70] ?_;intro _
 try simp only[go_sem]
 repeat'(refine af.intro (by(apply age<;>exact aT)) ?_<;>simp only[go_sem,I])
 all_goals simp
theorem B6(dN dx:Int)(c4:List aR)(d5 dX dZ:Int)(hx:c4.length<=8388608):aM 154 [.agg [.i dN,.i dx,.azB c4,.i d5,.i dX,.i dZ]] [.agg (cf.enc ((⟨dN,⟨dx,c4⟩,d5,dX,dZ⟩:cf)))]:=by
 refine aW 15 func154 call154 [.cell 2 70] ?_;intro _
 try simp only[go_sem]
 repeat'((first|refine av.intro (by(apply BX<;>exact aT)) ?_|refine a7 WK χ ψ ?_)<;>simp only[go_sem,I])
 all_goals simp
theorem zz(bb bh bj ba:Int)(a8:List Int)(aN aJ aO:List ab)(bd a_ a9 bk:Int)(h1:a8.length<=8388608)(h2:aN.length<=8388608)(ao:aJ.length<=8388608)(aH:aO.length<=8388608):aM 84 [.agg [.i bb,.i bh,.i bj,.i ba,.sl 1 (a8.map bg),.azA aN,.azA aJ,.azA aO,.i bd,.i a_,.i a9,.i bk]] [.agg (aD.enc ((⟨bb,⟨bh,bj,ba,a8⟩,aN,aJ,aO,bd,a_,a9,bk⟩:aD)))]:=by
 refine aW 20 func84 call84 [.cell 2 65] ?_;intro _
 try simp only[go_sem]
 repeat'((first|refine af.intro (by(apply Lz<;>exact aT)) ?_|refine av.intro (by(apply LB<;>exact aT)) ?_|refine a7 WL χ ψ ?_)<;>simp only[go_sem,I])
 all_goals simp
theorem sD(bb bh bj ba:Int)(a8:List Int)(aN aJ aO:List ab)(bd a_ a9 bk:Int)(h1:a8.length<=8388608)(h2:aN.length<=8388608)(ao:aJ.length<=8388608)(aH:aO.length<=8388608):aM 153 [.agg [.i bb,.i bh,.i bj,.i ba,.sl 1 (a8.map bg),.azA aN,.azA aJ,.azA aO,.i bd,.i a_,.i a9,.i bk]] [.agg (aD.enc ((⟨bb,⟨bh,bj,ba,a8⟩,aN,aJ,aO,bd,a_,a9,bk⟩:aD)))]:=by
 refine aW 26 func153 call153 [.cell 2 65] ?_;intro _
 try simp only[go_sem]
 repeat'((first|refine av.intro (by first|(apply LA<;>exact aT)|(apply Qf<;>exact aT)) ?_|refine a7 WM χ ψ ?_)<;>simp only[go_sem,I])
 all_goals simp
theorem agh(kn ko kq kr ks:Int)(jN:List Int)(iP iQ iR:List ab)(kt ku kx ky kz kA kB kC kD kE:Int)(gU:List aR)(kF kG kH kI kJ kK kL kM kN kO:Int)(kP kQ kR kS kT kU kV:Bool)(kW:Int)(kX:Bool)(h1:jN.length<=8388608)(h2:iP.length<=8388608)(ao:iQ.length<=8388608)(aH:iR.length<=8388608)(bR:gU.length<=8388608):aM 182 [.agg [.i kn,.i ko,.i kq,.i kr,.i ks,.sl 1 (jN.map bg),.azA iP,.azA iQ,.azA iR,.i kt,.i ku,.i kx,.i ky,.i kz,.i kA,.i kB,.i kC,.i kD,.i kE,.azB gU,.i kF,.i kG,.i kH,.i kI,.i kJ,.i kK,.i kL,.i kM,.i kN,.i kO,.bool kP,.bool kQ,.bool kR,.bool kS,.bool kT,.bool kU,.bool kV,.i kW,.bool kX]] [.agg (ae.enc ((⟨kn,⟨ko,⟨kq,kr,ks,jN⟩,iP,iQ,iR,kt,ku,kx,ky⟩,⟨kz,kA,kB,kC⟩,⟨kD,⟨kE,gU⟩,kF,kG,kH⟩,⟨kI,kJ,kK,kL,kM,kN⟩,⟨kO,kP⟩,kQ,kR,kS,kT,kU,kV,kW,kX⟩:ae)))]:=by
 refine aW 12 func182 call182 [.cell 2 74] ?_;intro _
 try simp only[go_sem]
 repeat'((first|refine av.intro (by first|(apply zz<;>exact aT)|(apply agf<;>exact aT)) ?_|refine a7 WN χ ψ ?_)<;>simp only[go_sem,I])
 all_goals simp
theorem BY(kn ko kq kr ks:Int)(jN:List Int)(iP iQ iR:List ab)(kt ku kx ky kz kA kB kC kD kE:Int)(gU:List aR)(kF kG kH kI kJ kK kL kM kN kO:Int)(kP kQ kR kS kT kU kV:Bool)(kW:Int)(kX:Bool)(h1:jN.length<=8388608)(h2:iP.length<=8388608)(ao:iQ.length<=8388608)(aH:iR.length<=8388608)(bR:gU.length<=8388608):aM 91 [.agg [.i kn,.i ko,.i kq,.i kr,.i ks,.sl 1 (jN.map bg),.azA iP,.azA iQ,.azA iR,.i kt,.i ku,.i kx,.i ky,.i kz,.i kA,.i kB,.i kC,.i kD,.i kE,.azB gU,.i kF,.i kG,.i kH,.i kI,.i kJ,.i kK,.i kL,.i kM,.i kN,.i kO,.bool kP,.bool kQ,.bool kR,.bool kS,.bool kT,.bool kU,.bool kV,.i kW,.bool kX]] [.agg (ae.enc ((⟨kn,⟨ko,⟨kq,kr,ks,jN⟩,iP,iQ,iR,kt,ku,kx,ky⟩,⟨kz,kA,kB,kC⟩,⟨kD,⟨kE,gU⟩,kF,kG,kH⟩,⟨kI,kJ,kK,kL,kM,kN⟩,⟨kO,kP⟩,kQ,kR,kS,kT,kU,kV,kW,kX⟩:ae)))]:=by
 refine aW 14 func91 call91 [.cell 2 74] ?_;intro _
 try simp only[go_sem]
 repeat'(refine af.intro (by first|(apply sD<;>exact aT)|(apply B6<;>exact aT)) ?_<;>simp only[go_sem,I])
 all_goals simp
theorem Wk(xs:List aL)(hx:(xs.length+nk aL.fy xs)<=4194304):aM 44 [.one (.azC xs)] [.one (.azC xs)]:=by
 refine aW 25 func44 call44 [.tmp 2] ?_;intro ok;have hm:=gw ok;clear ok;simp only[go_sem,I];refine cb.intro (λi:Nat=>⟨(.an::.an::.eg 2::.sl 0 0 i::aA 3 (.d (.azC xs)::.i xs.length::.i i::aA 15 [])),[.azw (xs.take i)]⟩)
   (λi=>xs.length-i) (λi=>i<=xs.length) 0 [0] ω ?_ ?_
 ·simp only[go_sem];simp
 intro i hi;have hl:(xs.take i).length=i:=by simp;omega
 simp only[go_sem];refine bX (λh1=>?_) (λh1=>?_)
 ·simp only[bH]at h1;have hlt:i<xs.length:=by omega
  have az:=b_ aL.enc xs i hlt;have hw:=d8 hlt hm;have hb:=HZ aL.fy xs i hlt;simp only[aL.fy]at hb;simp only[aL.enc]at az;have l7:((xs.take i).map aL.enc).take i=(xs.take i).map aL.enc:=eA (by rw[I,hl];exact fH _);have b4:=Ll aL.enc xs i hlt;simp only[aL.enc]at b4
  try simp only[go_sem,I,aF,az]
  repeat'(first|(refine a7 WO χ ψ ?_<;>simp only[go_sem,I,hl,l7])|refine⟨ae7,?_⟩|fail)
  all_goals(refine bt.intro (i+1) [5] ω ω ?_;simp only[go_sem,hw];simp[b4])
 simp only[eC]at h1;have iN:i=xs.length:=by omega
 subst iN;simp only[go_sem,da];simp[outOA]
theorem afO(xs:List aL)(hx:(xs.length+nk aL.fy xs)<=4194304):aM 92 [.one (.azC xs)] [.one (.azC xs)]:=by
 refine aW 29 func92 call92 [.tmp 2] ?_;intro ok;have hm:=gw ok;clear ok;simp only[go_sem];refine cb.intro (λi:Nat=>⟨(.d (.azC xs)::.an::.eg 2::.sl 0 0 i::.i i::aA 24 []),[.azw (xs.take i)]⟩)
   (λi=>xs.length-i) (λi=>i<=xs.length) 0 [0] ω ?_ ?_
 ·simp only[go_sem];simp
 intro i hi;have hl:(xs.take i).length=i:=by simp;omega
 simp only[go_sem,I];refine bX (λh1=>?_) (λh1=>?_)
 ·simp only[bH]at h1;have hlt:i<xs.length:=by omega
  have az:=b_ aL.enc xs i hlt;have hw:=d8 hlt hm;have hb:=HZ aL.fy xs i hlt;simp only[aL.fy]at hb;simp only[aL.enc]at az;have l7:((xs.take i).map aL.enc).take i=(xs.take i).map aL.enc:=eA (by rw[I,hl];exact fH _);have b4:=Ll aL.enc xs i hlt;simp only[aL.enc]at b4
  try simp only[go_sem]
  repeat'(first|(refine a7 WQ χ ψ ?_<;>simp only[go_sem,I,aF,az,hl,l7])|refine⟨ae7,?_⟩|fail)
  all_goals(refine bt.intro (i+1) [4] ω ω ?_;simp only[go_sem,hw];simp[b4])
 simp only[eC]at h1;have iN:i=xs.length:=by omega
 subst iN;simp only[go_sem,da];simp[outOA]
theorem afN(xs:List ae)(hx:(xs.length+nk ae.fy xs)<=4194304):aM 124 [.one (.azD xs)] [.one (.azD xs)]:=by
 refine aW 20 func124 call124 [.tmp 2] ?_;intro ok;have hm:=gw ok;clear ok;simp only[go_sem,I];refine cb.intro (λi:Nat=>⟨(.an::.an::.eg 39::.sl 0 0 i::aA 3 (.d (.azD xs)::.i xs.length::.i i::aA 10 [])),[.azx (xs.take i)]⟩)
   (λi=>xs.length-i) (λi=>i<=xs.length) 0 [0] ω ?_ ?_
 ·simp only[go_sem];simp
 intro i hi;have hl:(xs.take i).length=i:=by simp;omega
 simp only[go_sem];refine bX (λh1=>?_) (λh1=>?_)
 ·simp only[bH]at h1;have hlt:i<xs.length:=by omega
  have az:=b_ ae.enc xs i hlt;have hw:=d8 hlt hm;have hb:=HZ ae.fy xs i hlt;simp only[ae.fy,aD.fy,dk.fy,cf.fy,nX.fy]at hb;simp only[ae.enc]at az;have l7:((xs.take i).map ae.enc).take i=(xs.take i).map ae.enc:=eA (by rw[I,hl];exact fH _);have b4:=Ll ae.enc xs i hlt;simp only[ae.enc]at b4
  try simp only[go_sem,I,aF,az]
  repeat'(first|(refine af.intro (by(apply agh<;>exact aT)) ?_<;>simp only[go_sem,I,hl,l7])|refine⟨ae7,?_⟩|fail)
  all_goals(refine bt.intro (i+1) [8] ω ω ?_;simp only[go_sem,hw];simp[b4])
 simp only[eC]at h1;have iN:i=xs.length:=by omega
 subst iN;simp only[go_sem,da];simp[outOA]
def adW:List (List bK):=cB 15 [13551749,13551747,13558585,13558567,13558630,13558432,13561222,13559764,13555030,14280016,14319382,14181601,13827307,12754584,9565938]
def adX:List (List bK):=cB 8 [6200,6198,6448,6547,6493,6322,5832,4374]
def adY:List (List bK):=cB 14 [4517249,4773139,4773133,4779958,4780012,4779823,4782604,4781146,4776421,4763287,4723921,4605823,4251528,3188646]
attribute [go_sem] adW adX adY
def sc(xs:List Int)(i:Nat):Bool:=(xs.take i).all λb=>cd b 0 255
theorem adZ(xs:List Int)(i:Nat)(h:i<xs.length):sc xs (i+1)=(sc xs i&&cd xs[i] 0 255):=by
 unfold sc;rw[gO,cy h,ast,atT];simp
theorem ad0(xs:List Int)(i:Nat)(h:i<xs.length)(hb:cd xs[i] 0 255=false):sc xs xs.length=false:=by
 unfold sc;rw[da,atF];exact⟨xs[i],eK h,by simp[hb]⟩
def za(r:dk):Bool:=pc r.size&&decide ((r.cells.length:Int)=r.size)&&decide (0<=r.base)&&decide (r.base<=r.bS)&&decide (i64.wrap (r.bS-r.base)<=r.size)&&decide (r.bS<=4611686018427387903)
def i0(r:dk):Bool:=za r&&sc r.cells r.cells.length
theorem FO{n:Int}(h:pc n):1<=n/\n<=64:=by
 simp only[pc,cd,bm,bH]at h;exact h.1
theorem oD{r:dk}(h:i0 r):1<=r.size/\r.size<=64/\(r.cells.length:Int)=r.size/\0<=r.base/\r.base<=r.bS/\r.bS-r.base<=r.size/\r.bS<=4611686018427387903/\pc r.size/\∀i (hi:i<r.cells.length),0<=r.cells[i]/\r.cells[i]<=255:=by
 simp only[i0,za,bm,bH]at h;obtain⟨⟨⟨⟨⟨⟨h1,h2⟩,ao⟩,aH⟩,bR⟩,eQ⟩,i'⟩:=h;have hs:=FO h1;rw[bw]at bR<;>try omega
 refine⟨hs.1,hs.2,h2,ao,aH,bR,eQ,h1,λi hi=>?_⟩;unfold sc at i';rw[da,ae_]at i';have:=i' _ (eK hi);simpa [cd]using this
theorem Ar(cU cK cQ:Int)(ct:List Int):aM 210 [.agg [.i cU,.i cK,.i cQ,.sl 1 (ct.map bg)]] [.one (.bool (i0 (⟨cU,cK,cQ,ct⟩:dk)))]:=by
 refine aW 57 func210 call210 [.tmp 2] ?_;intro ok;have hm:ct.length<=maxLen:=by have:=ok.1.2.2.2.1.1;rwa [I]at this
 try simp only[go_sem]
 repeat'((first|refine af.intro (by apply OP) ?_|apply bo)<;>simp only[go_sem,I])
 refine bX (λh0=>?_) (λh0=>?_)
 ·simp only[go_sem];have:za (⟨cU,cK,cQ,ct⟩:dk)=false:=by
   revert h0;simp only[za,d1]
   cases pc cU<;>simp<;>intros<;>omega
  simp[i0,this]
 ·have ep:za (⟨cU,cK,cQ,ct⟩:dk):=by
   revert h0;simp only[za,d1]
   cases pc cU<;>simp<;>intros<;>omega
  simp only[go_sem];refine cb.intro (λi:Nat=>⟨(.an::.ptr 0 0 0::.d (.bool false)::.i i::aA 53 []),[.box [.i cU,.i cK,.i cQ,.d (.sl 1 (ct.map bg))]]⟩)
   (λi=>ct.length-i) (λi=>i<=ct.length/\sc ct i=true) 0 [0] ⟨by omega,by simp[sc]⟩ ?_ ?_
  ·simp only[go_sem];simp
  rintro i ⟨hi,he⟩;by_cases h1:i<ct.length
  ·have aq:=aro (i:=i) (n:=ct.length);have az:=b_ bg ct i h1;have hw:=d8 h1 hm;have hs:=adZ ct i h1;have hf:=ad0 ct i h1
   try simp only[go_sem,I,aF,az,bg,aq]
   repeat'(first|((first|refine af.intro (by apply lS) ?_|refine bX (λh=>?_) (λh=>?_))<;>simp only[go_sem])|refine⟨ae7,?_⟩|fail)
   ·have:=hf (by simpa using h);simp[i0,this]
   have ao:cd ct[i] 0 255:=by simpa using h
   refine bt.intro (i+1) [0] ⟨by omega,by rw[hs,he,ao];rfl⟩ ω ?_;simp only[go_sem,hw];simp
  obtain⟨aq,rfl⟩:=arn (i:=i) (n:=ct.length);simp only[go_sem,I,aq];simp[i0,ep,he]
theorem ap0{xs:List Int}{i:Nat}(h:i<xs.length)(he:sc xs i)(hb:cd xs[i] 0 255):sc xs (i+1):=by rw[adZ xs i h,he,hb];rfl
theorem Hu(cU cK cQ:Int)(ct:List Int):aM 145 [.agg [.i cU,.i cK,.i cQ,.sl 1 (ct.map bg)]] [.one (.bool (i0 (⟨cU,cK,cQ,ct⟩:dk)))]:=by
 refine aW 36 func145 call145 [.tmp 2] ?_;intro ok;have hm:ct.length<=maxLen:=by have:=ok.1.2.2.2.1.1;rwa [I]at this
 have ayW:=HT ok.1.2.1;have ayX:=HT ok.1.2.2.1;cases ak:pc cU
 ·try simp only[go_sem]
  repeat'((first|refine af.intro (by first|apply KH|apply pW) ?_|refine av.intro (by apply j7) ?_|with_reducible apply dp|apply bo)<;>simp only[go_sem,ak])
  all_goals simp[i0,za,ak]
 have hs:=FO ak;cases ar:decide ((ct.length:Int)≠cU)
 ·have ad1:(ct.length:Int)=cU:=by have:=de ar;omega
  try simp only[go_sem]
  repeat'((first|refine af.intro (by apply KH) ?_|with_reducible apply cG)<;>simp only[go_sem,I,ak,ar])
  refine af.inl (gi (n:=9) (rs:=[.tmp 4]) func204 rfl call204 bE rfl rfl ?_);simp only[go_sem];refine af.inl (gi (n:=19) (rs:=[.tmp 4]) func270 rfl call270 bE rfl rfl ?_);simp only[go_sem,I];refine cb.intro (λi:Nat=>⟨(.d (.sl 1 (ct.map bg))::.fn 205 []::.an::.an::.i 0::.an::.an::.i ct.length::.i i::aA 10 []),[.box [.i cU,.i cK,.i cQ,.d (.sl 1 (ct.map bg))]]⟩)
   (λi=>ct.length-i) (λi=>i<=ct.length/\sc ct i=true) 0 [0] ⟨by omega,by simp[sc]⟩ ?_ ?_
  ·simp only[go_sem];simp
  rintro i ⟨hi,he⟩;by_cases h1:i<ct.length
  ·have aq:=aro (i:=i) (n:=ct.length);have az:=b_ bg ct i h1;have hw:=d8 h1 hm;have hf:=ad0 ct i h1;simp only[go_sem,I,aF,az,bg,aq];refine⟨⟨by omega,by omega⟩,?_⟩;refine af.inl (gi (n:=6) (rs:=[.tmp 2]) func205 rfl call205 bE rfl rfl ?_);simp only[go_sem];refine af.intro (j7 ct[i] 0 255) ?_;simp only[go_sem];refine bX (λh2=>?_) (λh2=>?_)
   ·have:=hf (by simpa using h2);have ao:=br (p:=(0:Int)<=i) ω;simp only[go_sem,ao];simp[i0,this]
   have ao:cd ct[i] 0 255:=by simpa using h2
   simp only[go_sem,hw];refine bt.intro (i+1) [0] ⟨by omega,ap0 h1 he ao⟩ ω ?_;simp only[go_sem];simp
  obtain⟨aq,rfl⟩:=arn (i:=i) (n:=ct.length);have ao:decide ((0:Int)<=-1)=false:=by decide
  simp only[go_sem,aq];have hq:za (⟨cU,cK,cQ,ct⟩:dk)=(bN cK&&cd cQ cK (cu (i64.wrap (cK+cU)) 4611686018427387903)):=by
   rw[asa];simp only[za,bN,cd,cu,ak,af_,bm,bH];by_cases nU:0<=cK/\cK<=4611686018427387903
   ·rw[bw (n:=cK+cU) ω ω];constructor
    ·rintro⟨⟨⟨⟨_,h2⟩,ao⟩,aH⟩,bR⟩;rw[bw (n:=cQ-cK) ω ω]at aH;refine⟨nU,ao,br ?_⟩;split<;>omega
    rintro⟨_,ao,aH⟩;have aH:=cY aH;have:cQ<=cK+cU/\cQ<=4611686018427387903:=by split at aH<;>omega
    rw[bw (n:=cQ-cK) ω ω];omega
   constructor
   ·rintro⟨⟨⟨⟨_,h2⟩,ao⟩,aH⟩,bR⟩;omega
   rintro⟨h,_⟩;exact absurd h nU
  try simp only[go_sem,I,ak,ar]
  repeat'((first|refine af.intro (by first|apply KH|apply pW) ?_|refine av.intro (by apply j7) ?_|with_reducible apply dp|apply bo)<;>simp only[go_sem])
  all_goals(simp only[i0,he,Bool.and_true,hq,cu];simp)
 have ad1:¬(ct.length:Int)=cU:=cY ar
 try simp only[go_sem]
 repeat'((first|refine af.intro (by apply KH) ?_|with_reducible apply cG|with_reducible apply dp)<;>simp only[go_sem,I,ak,ar])
 all_goals simp[i0,za,ad1]
def nM(r:dk):Int:=if i0 r then cu (r.size-(r.bS-r.base)) (4611686018427387903-r.bS)else 0
theorem ap1(cU cK cQ:Int)(ct:List Int):aM 330 [.agg [.i cU,.i cK,.i cQ,.sl 1 (ct.map bg)]] [.one (.i (nM (⟨cU,cK,cQ,ct⟩:dk)))]:=by
 refine aW 18 func330 call330 [.tmp 2] ?_;intro _;cases aE:i0 (⟨cU,cK,cQ,ct⟩:dk)
 ·try simp only[go_sem]
  repeat'(refine af.intro (by apply Ar) ?_<;>simp only[go_sem,aE])
  all_goals simp[nM,aE]
 obtain⟨h1,h2,ao,aH,bR,eQ,i',dK,m1⟩:=oD aE;simp only at h1 h2 ao aH bR eQ i';have eP:i64.wrap (cQ-cK)=cQ-cK:=by rw[bw]<;>omega
 have gl:i64.wrap (cU-(cQ-cK))=cU-(cQ-cK):=by rw[bw]<;>omega
 have ke:i64.wrap (4611686018427387903-cQ)=4611686018427387903-cQ:=by rw[bw]<;>omega
 try simp only[go_sem]
 repeat'(refine af.intro (by apply Ar) ?_<;>simp only[go_sem,aE,eP,gl,ke])
 all_goals simp[nM,aE,cu]
def xk(n:Int):dk:=if pc n then⟨n,0,0,ea n.toNat 0⟩else⟨0,0,0,[]⟩
theorem ad2(n:Int):aM 329 [.one (.i n)] [.agg [.i (xk n).size,.i (xk n).base,.i (xk n).bS,.sl 1 ((xk n).cells.map bg)],.one (.bool (pc n))]:=by
 refine aW 12 func329 call329 [.cell 2 62,.tmp 3] ?_;intro _;cases aE:pc n
 ·try simp only[go_sem]
  repeat'(refine af.intro (by apply OP) ?_<;>simp only[go_sem,aE])
  all_goals simp[xk,aE]
 have hn:=FO aE
 try simp only[go_sem]
 repeat'(first|(refine af.intro (by apply OP) ?_<;>simp only[go_sem,aE])|refine⟨ae7,?_⟩|fail)
 all_goals simp[xk,aE,bg]
def As(cs:List Int)(e sz:Int)(d:List UInt8):Nat->List Int
 |0=>cs
 |k+1=>(As cs e sz d k).set ((e+(k:Int)).tmod sz).toNat ((d[k]?.getD 0).toNat:Int)
theorem Ny(cs:List Int)(e sz:Int)(d:List UInt8):∀k,(As cs e sz d k).length=cs.length
 |0=>rfl
 |k+1=>by rw[As,atU,Ny cs e sz d k]
def nx(r:dk)(d:List UInt8):Nat:=(cu (nM r) d.length).toNat
def r1(r:dk)(d:List UInt8):dk:=⟨r.size,r.base,i64.wrap (r.bS+(nx r d:Int)),As r.cells r.bS r.size d (nx r d)⟩
theorem SX(r:dk):0<=nM r/\(0<nM r->i0 r/\nM r<=r.size-(r.bS-r.base)/\r.bS+nM r<=4611686018427387903):=by
 unfold nM cu;split
 ·rename_i h;obtain⟨h1,h2,ao,aH,bR,eQ,i',dK,m1⟩:=oD h;split<;>exact⟨by omega,λ_=>⟨h,by omega,by omega⟩⟩
 exact⟨by omega,λg=>by omega⟩
theorem ad3(b:UInt8):i64.wrap ((b.toNat:Nat):Int)=((b.toNat:Nat):Int):=by
 have:=b.toNat_lt;rw[bw]<;>omega
theorem ap2(cU cK cQ:Int)(ct:List Int)(d:List UInt8)(hc:ct.length<=8388608)(hd:d.length<=1048576):aM 312 [.agg [.i cU,.i cK,.i cQ,.sl 1 (ct.map bg)],.one (.str d)] [.agg [.i (r1 (⟨cU,cK,cQ,ct⟩:dk) d).size,.i (r1 (⟨cU,cK,cQ,ct⟩:dk) d).base,.i (r1 (⟨cU,cK,cQ,ct⟩:dk) d).bS,.sl 1 ((r1 (⟨cU,cK,cQ,ct⟩:dk) d).cells.map bg)],.one (.i ((nx (⟨cU,cK,cQ,ct⟩:dk) d:Int)))]:=by
 refine aW 42 func312 call312 [.cell 4 62,.tmp 5] ?_;intro ok;have hr:=SX (⟨cU,cK,cQ,ct⟩:dk);have bB:(nx (⟨cU,cK,cQ,ct⟩:dk) d:Int)=cu (nM (⟨cU,cK,cQ,ct⟩:dk)) d.length:=by unfold nx cu;split<;>omega
 have ayY:nx (⟨cU,cK,cQ,ct⟩:dk) d<=d.length:=by have:=bB;unfold cu at this;split at this<;>omega
 have ayZ:(nx (⟨cU,cK,cQ,ct⟩:dk) d:Int)<=nM (⟨cU,cK,cQ,ct⟩:dk):=by have:=bB;unfold cu at this;split at this<;>omega
 generalize hn:nx (⟨cU,cK,cQ,ct⟩:dk) d=n at *;have NP:(if((d.length:Nat):Int)<nM (⟨cU,cK,cQ,ct⟩:dk)then((d.length:Nat):Int)else nM (⟨cU,cK,cQ,ct⟩:dk))=(n:Int):=by rw[bB];rfl
 try simp only[go_sem]
 repeat'(refine af.intro (by first|(apply LA<;>exact aT)|apply ap1) ?_<;>simp only[go_sem,I,NP])
 refine cb.intro (λk:Nat=>⟨(.an::.d (.str d)::.ptr 0 0 0::.an::.ptr 1 0 0::.i 0::.ptr 3 0 0::.i n::.i k::aA 33 []),[.box [.i cU,.i cK,.i cQ,.d (.sl 1 (ct.map bg))],.box [.i 0,.i 0,.i 0,.eg 1],.azu (As ct cQ cU d k),.box [.i cU,.i cK,.i cQ,.sl 2 0 ct.length]]⟩)
  (λk=>n-k) (λk=>k<=n) 0 [0,1,2,3] ω ?_ ?_
 ·simp only[go_sem];simp[As]
 intro k hk;by_cases h1:k<n
 ·have aq:=aro (i:=k) (n:=n);obtain⟨aE,zb,lV⟩:=hr.2 ω;obtain⟨b5,b8,dI,lf,q',sb,x5,E6,x6⟩:=oD aE;simp only at b5 b8 dI lf q' sb x5 zb lV;have hw:=d8 (i:=k) (m:=d.length) ω (by simp only[maxLen];omega);have eP:i64.wrap (cQ+(k:Int))=cQ+(k:Int):=by rw[bw]<;>omega
  have h9:=atc cU (show(0:Int)<=cQ+(k:Int)by omega);have hT:=atk (cQ+(k:Int)) (show 0<cU by omega);have hl:=Ny ct cQ cU d k;obtain⟨j,mN⟩:=mU h9;rw[mN]at hT;have aI:j<(As ct cQ cU d k).length:=by omega
  have sf:=b_ bg _ j aI;have b4:As ct cQ cU d (k+1)=(As ct cQ cU d k).set j ((d[k]?.getD 0).toNat:Int):=by rw[As,mN,aF]
  try simp only[go_sem,aq]
  repeat'(first|(refine a7 adW χ ψ ?_<;>simp only[go_sem,I,aF,eP,mN,sf,bg,ad3,kk])|refine⟨ae7,?_⟩|fail)
  all_goals(first|(refine⟨⟨aI,by simp,by simp⟩,?_⟩)|skip)
  all_goals(refine bt.intro (k+1) [0,1,2,3] ω ω ?_;simp only[go_sem,hw,b4];simp[bg])
 obtain⟨aq,rfl⟩:=arn (i:=k) (n:=n)
 try simp only[go_sem,I,aq]
 all_goals simp[outOA,r1,hn,Ny,eA]
def oK(cs:List Int)(b sz:Int):Nat->List Int
 |0=>cs
 |k+1=>(oK cs b sz k).set ((b+(k:Int)).tmod sz).toNat 0
theorem G0(cs:List Int)(b sz:Int):∀k,(oK cs b sz k).length=cs.length
 |0=>rfl
 |k+1=>by rw[oK,atU,G0 cs b sz k]
def ra(r:dk)(t:Int):Bool:=i0 r&&decide (r.base<=t)&&decide (t<=r.bS)
def k5(r:dk)(t:Int):dk:=if ra r t then⟨r.size,t,r.bS,oK r.cells r.base r.size (t-r.base).toNat⟩else r
theorem ad4(cU cK cQ:Int)(ct:List Int)(t:Int)(hc:ct.length<=8388608):aM 162 [.agg [.i cU,.i cK,.i cQ,.sl 1 (ct.map bg)],.one (.i t)] [.agg [.i (k5 (⟨cU,cK,cQ,ct⟩:dk) t).size,.i (k5 (⟨cU,cK,cQ,ct⟩:dk) t).base,.i (k5 (⟨cU,cK,cQ,ct⟩:dk) t).bS,.sl 1 ((k5 (⟨cU,cK,cQ,ct⟩:dk) t).cells.map bg)],.one (.bool (ra (⟨cU,cK,cQ,ct⟩:dk) t))]:=by
 refine aW 43 func162 call162 [.cell 4 62,.tmp 5] ?_;intro ok;cases bD:ra (⟨cU,cK,cQ,ct⟩:dk) t
 ·try simp only[go_sem]
  repeat'((first|refine af.intro (by first|(apply LA<;>exact aT)|apply Ar) ?_|apply bo)<;>simp only[go_sem,I])
  refine bX (λh0=>?_) (λh0=>?_)
  ·simp only[go_sem,I];simp[k5,bD]
  exfalso;simp[ra]at bD h0;grind
 have aE:i0 (⟨cU,cK,cQ,ct⟩:dk)/\cK<=t/\t<=cQ:=by
  simp only[ra,bm,bH,ed]at bD;exact bD
 obtain⟨aE,hb,he⟩:=aE;obtain⟨b5,b8,dI,lf,q',sb,x5,E6,x6⟩:=oD aE;simp only at b5 b8 dI lf q' sb x5;have ak:=bn (p:=t<cK) ω;have ar:=bn (p:=cQ<t) ω
 try simp only[go_sem]
 repeat'((first|refine af.intro (by first|(apply LA<;>exact aT)|apply Ar) ?_|with_reducible apply cG)<;>simp only[go_sem,I,aE,ak,ar])
 refine cb.intro (λk:Nat=>⟨(.an::.i t::.ptr 0 0 0::.an::.ptr 1 0 0::.d (.bool false)::.ptr 3 0 0::.i (cK+(k:Int))::aA 35 []),[.box [.i cU,.i cK,.i cQ,.d (.sl 1 (ct.map bg))],.box [.i 0,.i 0,.i 0,.eg 1],.azu (oK ct cK cU k),.box [.i cU,.i cK,.i cQ,.sl 2 0 ct.length]]⟩)
  (λk=>(t-cK).toNat-k) (λk=>(k:Int)<=t-cK) 0 [0,1,2,3] ω ?_ ?_
 ·simp only[go_sem];simp[oK]
 intro k hk;by_cases h1:(k:Int)<t-cK
 ·have aq:=br (p:=cK+(k:Int)<t) ω;have hw:i64.wrap (cK+(k:Int)+1)=cK+((k+1:Nat):Int):=by rw[bw]<;>omega
  have h9:=atc cU (show(0:Int)<=cK+(k:Int)by omega);have hT:=atk (cK+(k:Int)) (show 0<cU by omega);have hl:=G0 ct cK cU k;obtain⟨j,mN⟩:=mU h9;rw[mN]at hT;have aI:j<(oK ct cK cU k).length:=by omega
  have sf:=b_ bg _ j aI;have b4:oK ct cK cU (k+1)=(oK ct cK cU k).set j 0:=by rw[oK,mN,aF]
  try simp only[go_sem,aq]
  repeat'(first|(refine a7 adX χ ψ ?_<;>simp only[go_sem,I,aF,mN,sf,bg,kk])|refine⟨ae7,?_⟩|fail)
  all_goals(first|(refine⟨⟨aI,by simp,by simp⟩,?_⟩)|skip)
  all_goals(refine bt.intro (k+1) [0,1,2,3] ω ω ?_;simp only[go_sem,hw,b4];simp[bg])
 have aq:=bn (p:=cK+(k:Int)<t) ω;have sC:(t-cK).toNat=k:=by omega
 try simp only[go_sem,I,aq]
 all_goals simp[outOA,k5,bD,sC,G0,eA]
def BJ(r:dk)(o n:Int):Bool:=i0 r&&decide (r.base<=o)&&decide (0<=n)&&decide (o<=r.bS)&&decide (n<=i64.wrap (r.bS-o))
def ta(r:dk)(o:Int)(k:Nat):List UInt8:=(pv k).map λj=>p4 (r.cells[((o+(j:Nat)).tmod r.size).toNat]?.getD 0)
def y7(r:dk)(o n:Int):List UInt8:=if BJ r o n then ta r o n.toNat else []
theorem ap3(r:dk)(o:Int)(k:Nat):ta r o (k+1)=ta r o k++[p4 (r.cells[((o+(k:Nat)).tmod r.size).toNat]?.getD 0)]:=by
 simp[ta,atq]
theorem aaQ(r:dk)(o:Int)(k:Nat):(ta r o k).length=k:=by simp[ta]
theorem ad5(cU cK cQ:Int)(ct:List Int)(o n:Int):aM 328 [.agg [.i cU,.i cK,.i cQ,.sl 1 (ct.map bg)],.one (.i o),.one (.i n)] [.one (.str (y7 (⟨cU,cK,cQ,ct⟩:dk) o n)),.one (.bool (BJ (⟨cU,cK,cQ,ct⟩:dk) o n))]:=by
 refine aW 56 func328 call328 [.tmp 6,.tmp 7] ?_;intro ok;cases bD:BJ (⟨cU,cK,cQ,ct⟩:dk) o n
 ·try simp only[go_sem]
  repeat'((first|refine af.intro (by apply Ar) ?_|apply bo)<;>simp only[go_sem])
  refine bX (λh0=>?_) (λh0=>?_)
  ·simp only[go_sem];simp[y7,bD]
  exfalso;simp[BJ]at bD h0;grind
 have aE:i0 (⟨cU,cK,cQ,ct⟩:dk)/\cK<=o/\0<=n/\o<=cQ/\n<=i64.wrap (cQ-o):=by
  simp only[BJ,bm,bH,ed]at bD;exact bD
 obtain⟨aE,hb,BU,he,hn⟩:=aE;obtain⟨b5,b8,dI,lf,q',sb,x5,E6,x6⟩:=oD aE;simp only at b5 b8 dI lf q' sb x5 x6;have ak:=bn (p:=o<cK) ω;have ar:=bn (p:=cQ<o) ω;have a4:=bn (p:=n<0) ω;have bP:=bn (p:=i64.wrap (cQ-o)<n) ω;rw[bw (n:=cQ-o) ω ω]at hn;obtain⟨m,rfl⟩:=mU BU
 try simp only[go_sem]
 repeat'((first|refine af.intro (by apply Ar) ?_|with_reducible apply cG)<;>simp only[go_sem,aE,ak,ar,a4,bP])
 refine cb.intro (λk:Nat=>⟨(.an::.i o::.i m::.ptr 0 0 0::.an::.an::.d (.str [])::.d (.bool false)::.d (.str (ta (⟨cU,cK,cQ,ct⟩:dk) o k))::.i k::aA 46 []),[.box [.i cU,.i cK,.i cQ,.d (.sl 1 (ct.map bg))]]⟩)
  (λk=>m-k) (λk=>k<=m) 0 [0] ω ?_ ?_
 ·simp only[go_sem];simp[ta]
 intro k hk;by_cases h1:k<m
 ·have aq:=aro (i:=k) (n:=m);have hw:=d8 (i:=k) (m:=100) ω (by simp[maxLen]);have eP:i64.wrap (o+(k:Int))=o+(k:Int):=by rw[bw]<;>omega
  have h9:=atc cU (show(0:Int)<=o+(k:Int)by omega);have hT:=atk (o+(k:Int)) (show 0<cU by omega);obtain⟨j,mN⟩:=mU h9;rw[mN]at hT;have aI:j<ct.length:=by omega
  have sf:=b_ bg _ j aI;have gz:=aaQ (⟨cU,cK,cQ,ct⟩:dk) o k;have b4:ta (⟨cU,cK,cQ,ct⟩:dk) o (k+1)=ta (⟨cU,cK,cQ,ct⟩:dk) o k++[p4 ct[j]]:=by rw[ap3];simp only[mN,aF,cy aI,kk]
  have dG:=JY ct[j] (x6 j aI)
  try simp only[go_sem,aq]
  repeat'(first|((first|refine af.i ?_|refine av.i ?_|refine a7 adY χ ψ ?_)<;>simp only[go_sem,I,aF,eP,mN,sf,bg,kk])|refine⟨ae7,?_⟩|fail)
  all_goals(refine bt.intro (k+1) [0] ω ω ?_;simp only[go_sem,hw,b4];simp)
 obtain⟨aq,rfl⟩:=arn (i:=k) (n:=m)
 try simp only[go_sem,aq]
 all_goals simp[y7,bD]
def apZ:Code->Code
 |.seq _ b=>b
 |c=>c
def Di:Nat->Code->Code
 |0,c=>c
 |k+1,c=>Di k (apZ c)
def E5(f:Func):Code:=f.body.getD .skip
theorem Aq{P:Program}{kv:List V}{a b:Code}{σ:St}{K:St->Prop}{aw:List (Nat×(St->Prop))}{dc:St->Prop}(h:∀ik:St->Prop,(∀σ',codeE P kv b σ' K aw dc->ik σ')->codeE P kv a σ ik aw dc):codeE P kv (.seq a b) σ K aw dc:=by
 rw[ajJ];exact h _ λ_ g=>g
def oJ:List ab->ab->List ab
 |[],r=>[r]
 |x::xs,r=>if x.high<r.low then x::oJ xs r else if r.high<x.low then r::x::xs else oJ xs ⟨cu r.low x.low,dJ r.high x.high⟩
def UN(s:List ab×Bool×ab):List ab:=if s.2.1=true then s.1 else s.1++[s.2.2]
theorem aee(xs:List ab)(r:ab):∀i,i<=xs.length->ir xs r i=(xs.take i).foldl nv ([],false,r)
 |0,_=>rfl
 |i+1,h=>by rw[UA xs r i ω,aee xs r i ω,x4 nv _ xs i ω]
theorem aef{r:ab}(hr:c8 r):∀(xs d2:List ab),(∀x∈xs,c8 x/\r.high<x.low)->xs.foldl nv (d2,true,r)=(d2++xs,true,r)
 |[],d2,_=>by simp
 |x::xs,d2,h=>by
  have h1:=h x ξ;have h2:=(gr _).1 h1.1;have ao:=(gr _).1 hr;have e:nv (d2,true,r) x=(d2++[x],true,r):=by
   unfold nv;rw[if_neg (show ¬x.high<r.low by omega),if_pos h1.2];simp
  rw[An,e,aef hr xs _ (λy hy=>h y (by simp[hy])),ah_];rfl
theorem UO:∀(xs d2:List ab) (r:ab),(∀x∈xs,c8 x=true)->xs.Pairwise (λa b=>a.high<b.low)->c8 r->UN (xs.foldl nv (d2,false,r))=d2++oJ xs r
 |[],d2,r,_,_,_=>by simp[UN,oJ]
 |x::xs,d2,r,h1,h2,hr=>by
  have hx:=(gr _).1 (h1 x ξ);have lX:=(gr _).1 hr;have gv:=ag_.1 h2;rw[An,oJ];by_cases c1:x.high<r.low
  ·have e:nv (d2,false,r) x=(d2++[x],false,r):=by unfold nv;rw[if_pos c1]
   rw[e,if_pos c1,UO xs _ r (λy hy=>h1 y (by simp[hy])) gv.2 hr,ah_];rfl
  by_cases cW:r.high<x.low
  ·have e:nv (d2,false,r) x=(d2++[r]++[x],true,r):=by unfold nv;rw[if_neg c1,if_pos cW];simp
   rw[e,if_neg c1,if_pos cW,aef hr xs _ (λy hy=>⟨h1 y (by simp[hy]),by have:=gv.1 y hy;omega⟩)];simp[UN]
  have e:nv (d2,false,r) x=(d2,false,⟨cu r.low x.low,dJ r.high x.high⟩):=by unfold nv;rw[if_neg c1,if_neg cW]
  have hm:c8 ⟨cu r.low x.low,dJ r.high x.high⟩:=by
   rw[gr];simp only[cu,dJ];refine⟨?_,?_,?_⟩<;>(repeat' split)<;>omega
  rw[e,if_neg c1,if_neg cW];exact UO xs d2 _ (λy hy=>h1 y (by simp[hy])) gv.2 hm
theorem Uf{xs:List ab}{r:ab}(h:cN xs)(hr:c8 r):f' xs r=oJ xs r:=by
 have h1:=(ho xs).1 h;have h2:=UO xs [] r h1.1 h1.2 hr;have ao:=aee xs r xs.length (fH _);rw[da]at ao;unfold f';rw[h,hr,ao];simp only;exact h2
theorem UP{B:Int}:∀(xs:List ab) (r:ab),B<r.low->(∀x∈xs,B<x.low)->∀y∈oJ xs r,B<y.low
 |[],r,hr,_,y,hy=>by simp only[oJ,jn]at hy;rw[hy];exact hr
 |x::xs,r,hr,hx,y,hy=>by
  rw[oJ]at hy;split at hy
  ·rcases rD.1 hy with rfl|hy
   ·exact hx _ ξ
   exact UP xs r hr (λz hz=>hx z (by simp[hz])) y hy
  split at hy
  ·rcases rD.1 hy with rfl|hy
   ·exact hr
   exact hx y hy
  refine UP xs _ ?_ (λz hz=>hx z (by simp[hz])) y hy;have:=hx x ξ;simp only[cu];split<;>omega
theorem UQ:∀(xs:List ab) (r:ab),(∀x∈xs,c8 x=true)->xs.Pairwise (λa b=>a.high<b.low)->c8 r->(∀x∈oJ xs r,c8 x=true)/\(oJ xs r).Pairwise (λa b=>a.high<b.low)
 |[],r,_,_,hr=>by simp[oJ,hr]
 |x::xs,r,h1,h2,hr=>by
  have hx:=(gr _).1 (h1 x ξ);have lX:=(gr _).1 hr;have gv:=ag_.1 h2;have nH:∀y∈xs,c8 y:=λy hy=>h1 y (by simp[hy]);rw[oJ];split
  ·rename_i c1;obtain⟨b5,b8⟩:=UQ xs r nH gv.2 hr;refine⟨λy hy=>?_,ag_.2 ⟨λy hy=>UP xs r c1 gv.1 y hy,b8⟩⟩;rcases rD.1 hy with rfl|hy
   ·exact h1 _ ξ
   exact b5 y hy
  split
  ·rename_i c1 cW;refine⟨λy hy=>?_,ag_.2 ⟨λy hy=>?_,h2⟩⟩
   ·rcases rD.1 hy with rfl|hy
    ·exact hr
    exact h1 y hy
   rcases rD.1 hy with rfl|hy
   ·exact cW
   have:=gv.1 y hy;omega
  refine UQ xs _ nH gv.2 ?_;rw[gr];simp only[cu,dJ];refine⟨?_,?_,?_⟩<;>(repeat' split)<;>omega
theorem aeg:∀(xs:List ab) (r:ab),oJ xs r≠[]
 |[],r=>by simp[oJ]
 |x::xs,r=>by
  rw[oJ];split
  ·simp
  split
  ·simp
  exact aeg xs _
theorem J0{xs:List ab}{r:ab}(h:cN xs)(hr:c8 r):cN (f' xs r):=by
 rw[Uf h hr,ho];have h1:=(ho xs).1 h;exact UQ xs r h1.1 h1.2 hr
theorem ap8{xs:List ab}{r:ab}(h:cN xs)(hr:c8 r):f' xs r≠[]:=by rw[Uf h hr];exact aeg _ _
def eD(xs ys:List ab):List ab:=ys.foldl f' xs
theorem qq:∀(ys xs:List ab),(eD xs ys).length<=xs.length+ys.length
 |[],xs=>by simp[eD]
 |y::ys,xs=>by
  have h1:=qq ys (f' xs y);have h2:=HR xs y;have e:eD xs (y::ys)=eD (f' xs y) ys:=rfl;rw[e,e0];omega
theorem Au(xs ys:List ab)(i:Nat)(h:i<ys.length):eD xs (ys.take (i+1))=f' (eD xs (ys.take i)) ys[i]:=x4 f' xs ys i h
theorem KL:∀(ys xs:List ab),cN xs->(∀y∈ys,c8 y=true)->cN (eD xs ys)/\(ys≠[]\/xs≠[]->eD xs ys≠[])
 |[],xs,h,_=>⟨h,λg=>by rcases g with g|g;exact absurd rfl g;exact g⟩
 |y::ys,xs,h,hy=>by
  have h1:=J0 h (hy y ξ);have h2:=ap8 h (hy y ξ);have ao:=KL ys (f' xs y) h1 (λz hz=>hy z (by simp[hz]));exact⟨ao.1,λ_=>ao.2 (.inr h2)⟩
theorem aeh{p f a aw:List ab}(hp:cN p)(hf:cN f)(ha:cN a)(h:f≠[]\/a≠[])(dm:aw=eD (eD p f) a):aw≠[]:=by
 have h1:=KL f p hp ((ho f).1 hf).1;have h2:=KL a _ h1.1 ((ho a).1 ha).1;rw[dm];rcases h with h|h
 ·exact h2.2 (.inr (h1.2 (.inl h)))
 exact h2.2 (.inl h)
def q_(xs:List ab):Int:=(xs[0]?.getD (⟨0,0⟩:ab)).high
theorem ac5{xs:List ab}{E:Int}(h:cN xs)(ah:∀x∈xs,x.high<=E)(hc:jH xs=E)(hp:0<E):q_ xs=E:=by
 unfold jH at hc;rw[if_pos h]at hc
 cases hl:xs.length with
 |zero=>rw[arN.1 hl]at hc;simp[i2]at hc;omega
 |succ n=>
  have hi:n<xs.length:=by omega
  have h1:=KI h n hi;have h2:=x4 (λ(n:Int) (r:ab)=>n+(r.high-r.low)) 0 xs n hi;have e:i2 xs=i2 (xs.take n)+(xs[n].high-xs[n].low):=by
   rw[<-hl,da]at h2;exact h2
  have aH:=ah _ (eK hi)
  cases n with
  |zero=>
   simp only[aui,i2,azS]at e h1;have bR:=(gr _).1 (((ho xs).1 h).1 _ (eK hi));unfold q_;rw[cy hi,kk];simp only[i2]at hc e;omega
  |succ m=>
   exfalso;have hm:m<xs.length:=by omega
   have bR:=KI h m hm;have eQ:i2 (xs.take (m+1))=i2 (xs.take m)+(xs[m].high-xs[m].low):=x4 _ _ _ _ _;have i':=(arY.1 ((ho xs).1 h).2) m (m+1) hm hi ω;omega
def Dn:List (List bK):=cB 12 [522584,522582,522576,522679,522625,522450,502281,530347,525973,512487,472392,354294]
def Dp:List (List bK):=cB 43 [328256967394537077509,328256967394537077507,328256967394537077622,328256967394537077604,328256967394537077550,328256967394537077384,328256967394537076898,328256967394536990147,328256967394537073253,328256967394537060131,328256967394537020765,328256967394536900480,328256967394536546186,328256967394535483304,328256967394532294658,328256967394522728720,328256967394494030906,328256967394407937464,328256967394149657138,328256966169513491409,328256966167188968475,328256966160215399673,328256966139294693267,328256967346884357480,328256967158597999826,328256966593738926864,328256964852671249298,328256959768939592640,328256944517744622666,328256898764159712744,328184493716039761179,328184081933775571881,328182846586983003987,328254084918687752541,328242966797554641495,328209612434155308357,328106872759240078506,327806683488646080264,326906115676864085538,324204412241518101360,316099301935480148826,291783971017366291224,218837978263024718418]
def BO:List (List bK):=cB 9 [16757,16755,16762,16740,16686,16524,19318,17860,13122]
def aeG:List (List bK):=cB 6 [692,690,724,706,648,486]
attribute [go_sem] Dn Dp BO aeG
def h7(s:aD):Int:=
 if s.aS=3/\s.aB.base=s.aB.bS then 3
 else if 1<s.aS\/(s.aS=1/\s.bp=2)then 2
 else if 0<s.b0\/(s.aS=1/\s.bp=1)then 1 else 0
theorem E8(bb bh bj ba:Int)(a8:List Int)(aN aJ aO:List ab)(bd a_ a9 bk:Int):aM 164 [.agg [.i bb,.i bh,.i bj,.i ba,.sl 1 (a8.map bg),.azA aN,.azA aJ,.azA aO,.i bd,.i a_,.i a9,.i bk]] [.one (.i (h7 (⟨bb,⟨bh,bj,ba,a8⟩,aN,aJ,aO,bd,a_,a9,bk⟩:aD)))]:=by
 refine aW 44 func164 call164 [.tmp 2] ?_;intro _
 try simp only[go_sem]
 repeat'((first|apply bo|refine bX (λh=>?_) (λh=>?_))<;>simp only[go_sem])
 all_goals(simp at *;simp only[h7];repeat' split)
 all_goals first|rfl|(exfalso;grind)
def lK(s:aD):Bool:=i0 s.aB&&cN s.bC&&cN s.bc&&cN s.bJ&&cd s.b0 0 s.aB.bS&&bN s.cS&&cd s.aS 0 3
def jD(s:aD):Bool:=decide (s.bp=4)||decide (s.bp=5)
def Km(s:aD):Bool:=decide (s.aB.base=s.aB.bS)&&decide ((s.bC.length:Int)=0)&&decide ((s.bc.length:Int)=0)&&decide ((s.bJ.length:Int)=0)&&decide (s.bf=s.b0)&&decide (s.aS=0)&&decide (s.b0=s.aB.bS)
def nB(s:aD):List ab:=eD (eD s.bC s.bc) s.bJ
def Aj(s:aD):Int:=i64.wrap (i64.wrap (jH s.bC+jH s.bc)+jH s.bJ)
def pb(s:aD):Bool:=decide (jH (nB s)=s.aB.bS)&&decide (Aj s=s.aB.bS)&&!(decide (0<s.aB.bS)&&decide (q_ (nB s)≠s.aB.bS))&&decide (jc s.bJ 0=s.aB.base)&&decide (s.cS=0)
def below(xs:List ab)(n:Int):Bool:=xs.all λr=>decide (r.high<=n)
def BB(s:aD):Bool:=(decide (s.aS=0) == decide (s.bf=-1))&&!(decide (s.bf≠-1)&&decide (s.bf≠s.aB.bS))
def dU(s:aD):Bool:=lK s&&(if jD s then Km s else pb s&&below s.bc s.b0&&below s.bJ s.b0&&BB s&&decide (s.bp=h7 s))
theorem aeH(xs:List ab)(n:Int)(i:Nat)(h:i<xs.length):below (xs.take (i+1)) n=(below (xs.take i) n&&decide (xs[i].high<=n)):=by
 unfold below;rw[gO,cy h,ast,atT];simp
theorem aeI(xs:List ab)(n:Int)(i:Nat)(h:i<xs.length)(hb:n<xs[i].high):below xs n=false:=by
 unfold below;rw[atF];exact⟨xs[i],eK h,by simp;omega⟩
theorem Vk(bb bh bj ba:Int)(a8:List Int)(aN aJ aO:List ab)(bd a_ a9 bk:Int)(od:aJ.length<=maxLen)(nP:aO.length<=maxLen)(ep:lK (⟨bb,⟨bh,bj,ba,a8⟩,aN,aJ,aO,bd,a_,a9,bk⟩:aD))(fO:jD (⟨bb,⟨bh,bj,ba,a8⟩,aN,aJ,aO,bd,a_,a9,bk⟩:aD)=false)(xM:pb (⟨bb,⟨bh,bj,ba,a8⟩,aN,aJ,aO,bd,a_,a9,bk⟩:aD)){tb oY qn tc td te u8 tf pj pk pl pn po pq u16 pr pt tg th ti tj tk tl tm tn tp tq tr tt tu u32 tv tw tx tz tA tB tC tD tE tF tG tH tI tJ tK tL tM tN tO tP tQ tR tS tT tU tV tW tX tY tZ t0 u64 t1 t2 t3 t4 t5 t6 t7 t8 t9 t_ t' ua ub uc ud ue uf ug uh ui uj uk um uo uq ur uu uv uw ux uy uz uA uB uC uD uE uF uG uH uI uJ uK uL uM uN uO uP uQ uR uS uT uU uV uW uX uY uZ u0 u1 u2 u3 u4 u5 u6 u7 u9 u_ u' va vb vc vd ve vf vg vh vi vj vk vl vm vn vo vp vq vr vt vu vv vw vx vy vz vA vB vC vD vE vF vG vH vI vJ vK vL vM vN vO vP vQ vR vS vT vU vV vW vX vY vZ v3 v5 v7 v8 v9 v_ v' wa wb wc we wg wh wi wj wk wm wo wq wt wu wv wx wy wz wA wB wC wD wE wF wG wH wI wJ wK wL wM wN wO wP wQ wR wS wT wU wV wW wX wY wZ w1 w2 w3 w4 w5 w6 w7 w8 w9 w_:V}(ex:List H) :
  codeE prog [] (Di 8 (E5 Tryz.f156)) ⟨[tb,.ptr 0 0 0,.d (.bool false),oY,qn,tc,td,te,u8,tf,pj,pk,pl,pn,po,pq,u16,pr,pt,tg,th,ti,tj,tk,tl,tm,tn,tp,tq,tr,tt,tu,u32,tv,tw,tx,tz,tA,tB,tC,tD,tE,tF,tG,tH,tI,tJ,tK,tL,tM,tN,tO,tP,tQ,tR,tS,tT,tU,tV,tW,tX,tY,tZ,t0,u64,t1,t2,t3,t4,t5,t6,t7,t8,t9,t_,t',ua,ub,uc,ud,ue,uf,ug,uh,ui,uj,uk,um,uo,uq,ur,uu,uv,uw,ux,uy,uz,uA,uB,uC,uD,uE,uF,uG,uH,uI,uJ,uK,uL,uM,uN,uO,uP,uQ,uR,uS,uT,uU,uV,uW,uX,uY,uZ,u0,u1,u2,u3,u4,u5,u6,u7,u9,u_,u',va,vb,vc,vd,ve,vf,vg,vh,vi,vj,vk,vl,vm,vn,vo,vp,vq,vr,vt,vu,vv,vw,vx,vy,vz,vA,vB,vC,vD,vE,vF,vG,vH,vI,vJ,vK,vL,vM,vN,vO,vP,vQ,vR,vS,vT,vU,vV,vW,vX,vY,vZ,v3,v5,v7,v8,v9,v_,v',wa,wb,wc,we,wg,wh,wi,wj,wk,wm,wo,wq,wt,wu,wv,wx,wy,wz,wA,wB,wC,wD,wE,wF,wG,wH,wI,wJ,wK,wL,wM,wN,wO,wP,wQ,wR,wS,wT,wU,wV,wW,wX,wY,wZ,w1,w2,w3,w4,w5,w6,w7,w8,w9,w_],.box [.i bb,.i bh,.i bj,.i ba,.d (.sl 1 (a8.map bg)),.d (.azA aN),.d (.azA aJ),.d (.azA aO),.i bd,.i a_,.i a9,.i bk]::ex⟩ (b1 (ij prog [.tmp 2] [.one (.bool (dU (⟨bb,⟨bh,bj,ba,a8⟩,aN,aJ,aO,bd,a_,a9,bk⟩:aD)))]) .mk) [] (b1 (ij prog [.tmp 2] [.one (.bool (dU (⟨bb,⟨bh,bj,ba,a8⟩,aN,aJ,aO,bd,a_,a9,bk⟩:aD)))]) .mk):=by
 conv=>arg 3;whnf
 simp only[go_sem];refine cb.intro (λi:Nat=>⟨(.an::.ptr 0 0 0::.d (.bool false)::aA 4 (.i i::aA 238 [])),[.box [.i bb,.i bh,.i bj,.i ba,.d (.sl 1 (a8.map bg)),.d (.azA aN),.d (.azA aJ),.d (.azA aO),.i bd,.i a_,.i a9,.i bk]]⟩)
  (λi=>aJ.length-i) (λi=>i<=aJ.length/\below (aJ.take i) a9=true) 0 [0] ⟨by omega,rfl⟩ ?_ ?_
 ·simp only[go_sem];simp
 rintro i ⟨hi,he⟩;by_cases h1:i<aJ.length
 ·have aq:=aro (i:=i) (n:=aJ.length);have az:=b_ ab.enc aJ i h1;have hw:=d8 h1 od;have hs:=aeH aJ a9 i h1;cases di:decide (a9<aJ[i].high)
  ·have bR:=br (p:=aJ[i].high<=a9) (by have:=de di;omega)
   try simp only[go_sem,I,aq]
   repeat'(first|((first|refine av.intro (by first|apply Dh|apply BK) ?_|with_reducible apply mr|with_reducible apply lv|apply fY|refine a7 Dn χ ψ ?_|refine a7 Dp χ ψ ?_|refine a7 BO χ ψ ?_)<;>simp only[go_sem,I,aF,az,ab.enc,di])|refine⟨ae7,?_⟩|fail)
   refine bt.intro (i+1) [0] ⟨by omega,by rw[hs,he,bR];rfl⟩ ω ?_;simp only[go_sem,hw];simp
  try simp only[go_sem,I,aq]
  repeat'(first|((first|refine av.intro (by first|apply Dh|apply BK) ?_|with_reducible apply lv|apply fY|refine a7 Dn χ ψ ?_|refine a7 Dp χ ψ ?_|refine a7 BO χ ψ ?_)<;>simp only[go_sem,I,aF,az,ab.enc,di])|refine⟨ae7,?_⟩|fail)
  have:=aeI aJ a9 i h1 (cY di);simp[dU,fO,this]
 obtain⟨aq,rfl⟩:=arn (i:=i) (n:=aJ.length);rw[da]at he;have UE:=he;simp only[go_sem,I,aq];refine cb.intro (λi:Nat=>⟨(.an::.ptr 0 0 0::.d (.bool false)::aA 5 (.i i::aA 237 [])),[.box [.i bb,.i bh,.i bj,.i ba,.d (.sl 1 (a8.map bg)),.d (.azA aN),.d (.azA aJ),.d (.azA aO),.i bd,.i a_,.i a9,.i bk]]⟩)
  (λi=>aO.length-i) (λi=>i<=aO.length/\below (aO.take i) a9=true) 0 [0] ⟨by omega,rfl⟩ ?_ ?_
 ·simp only[go_sem];simp
 rintro i ⟨hi,he⟩;by_cases h1:i<aO.length
 ·have aq:=aro (i:=i) (n:=aO.length);have az:=b_ ab.enc aO i h1;have hw:=d8 h1 nP;have hs:=aeH aO a9 i h1;cases di:decide (a9<aO[i].high)
  ·have bR:=br (p:=aO[i].high<=a9) (by have:=de di;omega)
   try simp only[go_sem,I,aq]
   repeat'(first|(refine a7 BO χ ψ ?_<;>simp only[go_sem,I,aF,az,ab.enc,di])|refine⟨ae7,?_⟩|fail)
   refine bt.intro (i+1) [0] ⟨by omega,by rw[hs,he,bR];rfl⟩ ω ?_;simp only[go_sem,hw];simp
  try simp only[go_sem,I,aq]
  repeat'(first|((first|refine av.intro (by first|apply Dh|apply BK) ?_|apply fY|refine a7 Dn χ ψ ?_|refine a7 Dp χ ψ ?_|refine a7 BO χ ψ ?_)<;>simp only[go_sem,I,aF,az,ab.enc,di])|refine⟨ae7,?_⟩|fail)
  have:=aeI aO a9 i h1 (cY di);simp[dU,fO,this]
 obtain⟨aq,rfl⟩:=arn (i:=i) (n:=aO.length);rw[da]at he;have aqH:=he
 try simp only[go_sem,I,aq]
 repeat'(apply bo<;>simp only[go_sem])
 refine bX (λeQ=>?_) (λeQ=>?_)
 ·simp only[go_sem];have:BB (⟨bb,⟨bh,bj,ba,a8⟩,aN,aJ,aO,bd,a_,a9,bk⟩:aD)=false:=by simp[BB]at eQ⊢;grind
  simp[dU,fO,this]
 have bG:BB (⟨bb,⟨bh,bj,ba,a8⟩,aN,aJ,aO,bd,a_,a9,bk⟩:aD):=by simp[BB]at eQ⊢;grind
 simp only[go_sem]
 try simp only[go_sem,I]
 repeat'((first|refine av.intro (by apply E8) ?_|refine a7 aeG χ ψ ?_)<;>simp only[go_sem])
 all_goals simp[dU,ep,fO,xM,UE,aqH,bG]
theorem aqt(bb bh bj ba:Int)(a8:List Int)(aN aJ aO:List ab)(bd a_ a9 bk:Int)(_:aN.length+aJ.length+aO.length<=524288)(od:aJ.length<=maxLen)(nP:aO.length<=maxLen)(ep:lK (⟨bb,⟨bh,bj,ba,a8⟩,aN,aJ,aO,bd,a_,a9,bk⟩:aD))(fO:jD (⟨bb,⟨bh,bj,ba,a8⟩,aN,aJ,aO,bd,a_,a9,bk⟩:aD)=false)(hA:nB (⟨bb,⟨bh,bj,ba,a8⟩,aN,aJ,aO,bd,a_,a9,bk⟩:aD)=aN){tb qn tc td te u8 tf pj pk pl pn po pq u16 pr pt tg th ti tj tk tl tm tn tp tq tr tt tu u32 tv tw tx tz tA tB tC tD tE tF tG tH tI tJ tK tL tM tN tO tP tQ tR tS tT tU tV tW tX tY tZ t0 u64 t1 t2 t3 t4 t5 t6 t7 t8 t9 t_ t' ua ub uc ud ue uf ug uh ui uj uk um uo uq ur uu uv uw ux uy uz uA uB uC uD uE uF uG uH uI uJ uK uL uM uN uO uP uQ uR uS uT uU uV uW uX uY uZ u0 u1 u2 u3 u4 u5 u6 u7 u9 u_ u' va vb vc vd ve vf vg vh vi vj vk vl vm vn vo vp vq vr vt vu vv vw vx vy vz vA vB vC vD vE vF vG vH vI vJ vK vL vM vN vO vP vQ vR vS vT vU vV vW vX vY vZ v3 v5 v7 v8 v9 v_ v' wa wb wc we wg wh wi wj wk wm wo wq wt wu wv wx wy wz wA wB wC wD wE wF wG wH wI wJ wK wL wM wN wO wP wQ wR wS wT wU wV wW wX wY wZ w1 w2 w3 w4 w5 w6 w7 w8 w9 w_:V} :
  codeE prog [] (Di 6 (E5 Tryz.f156)) ⟨[tb,.ptr 0 0 0,.d (.bool false),.d (.azA aN),qn,tc,td,te,u8,tf,pj,pk,pl,pn,po,pq,u16,pr,pt,tg,th,ti,tj,tk,tl,tm,tn,tp,tq,tr,tt,tu,u32,tv,tw,tx,tz,tA,tB,tC,tD,tE,tF,tG,tH,tI,tJ,tK,tL,tM,tN,tO,tP,tQ,tR,tS,tT,tU,tV,tW,tX,tY,tZ,t0,u64,t1,t2,t3,t4,t5,t6,t7,t8,t9,t_,t',ua,ub,uc,ud,ue,uf,ug,uh,ui,uj,uk,um,uo,uq,ur,uu,uv,uw,ux,uy,uz,uA,uB,uC,uD,uE,uF,uG,uH,uI,uJ,uK,uL,uM,uN,uO,uP,uQ,uR,uS,uT,uU,uV,uW,uX,uY,uZ,u0,u1,u2,u3,u4,u5,u6,u7,u9,u_,u',va,vb,vc,vd,ve,vf,vg,vh,vi,vj,vk,vl,vm,vn,vo,vp,vq,vr,vt,vu,vv,vw,vx,vy,vz,vA,vB,vC,vD,vE,vF,vG,vH,vI,vJ,vK,vL,vM,vN,vO,vP,vQ,vR,vS,vT,vU,vV,vW,vX,vY,vZ,v3,v5,v7,v8,v9,v_,v',wa,wb,wc,we,wg,wh,wi,wj,wk,wm,wo,wq,wt,wu,wv,wx,wy,wz,wA,wB,wC,wD,wE,wF,wG,wH,wI,wJ,wK,wL,wM,wN,wO,wP,wQ,wR,wS,wT,wU,wV,wW,wX,wY,wZ,w1,w2,w3,w4,w5,w6,w7,w8,w9,w_],[.box [.i bb,.i bh,.i bj,.i ba,.d (.sl 1 (a8.map bg)),.d (.azA aN),.d (.azA aJ),.d (.azA aO),.i bd,.i a_,.i a9,.i bk]]⟩ (b1 (ij prog [.tmp 2] [.one (.bool (dU (⟨bb,⟨bh,bj,ba,a8⟩,aN,aJ,aO,bd,a_,a9,bk⟩:aD)))]) .mk) [] (b1 (ij prog [.tmp 2] [.one (.bool (dU (⟨bb,⟨bh,bj,ba,a8⟩,aN,aJ,aO,bd,a_,a9,bk⟩:aD)))]) .mk):=by
 conv=>arg 3;whnf
 simp only[go_sem];by_cases dm:aN=[]
 ·have Tw:aN.length=0:=by rw[dm];rfl
  have GL:jH aN=0:=by rw[dm];rfl
  cases ak:decide (jH aN≠ba)
  ·have iq:jH aN=ba:=by have:=de ak;omega
   have a4:=bn (p:=0<ba) ω
   try simp only[go_sem,I,ak,a4]
   repeat'(first|((first|refine av.intro (by first|apply Dh|apply BK) ?_|with_reducible apply mr|with_reducible apply lv|apply fY|refine a7 Dn χ ψ ?_|refine a7 Dp χ ψ ?_|refine a7 BO χ ψ ?_)<;>simp only[go_sem,ak,a4])|refine⟨ae7,?_⟩|fail)
   refine bX (λaH=>?_) (λaH=>?_)
   ·simp only[go_sem];have:pb (⟨bb,⟨bh,bj,ba,a8⟩,aN,aJ,aO,bd,a_,a9,bk⟩:aD)=false:=by
     simp[pb,hA,Aj,q_]at aH a4⊢;grind
    simp[dU,fO,this]
   ·have xM:pb (⟨bb,⟨bh,bj,ba,a8⟩,aN,aJ,aO,bd,a_,a9,bk⟩:aD):=by
     simp[pb,hA,Aj,q_]at aH a4⊢;grind
    exact Vk _ _ _ _ _ _ _ _ _ _ _ _ od nP ep fO xM _
  have iq:=cY ak
  try simp only[go_sem,I,ak]
  repeat'(first|((first|refine av.intro (by first|apply Dh|apply BK) ?_|with_reducible apply lv|apply fY|refine a7 Dn χ ψ ?_|refine a7 Dp χ ψ ?_|refine a7 BO χ ψ ?_)<;>simp only[go_sem,ak])|refine⟨ae7,?_⟩|fail)
  all_goals simp[dU,fO,pb,hA,iq]
 skip
 have hp:0<aN.length:=aq_.2 dm;have iZ:=b_ ab.enc aN 0 hp
 try simp only[go_sem,I,iZ,ab.enc,gM]
 repeat'(first|((first|refine av.intro (by first|apply Dh|apply BK) ?_|apply fY|refine a7 Dn χ ψ ?_|refine a7 Dp χ ψ ?_|refine a7 BO χ ψ ?_)<;>simp only[go_sem,I,iZ,ab.enc,gM])|refine⟨ae7,?_⟩|fail)
 refine bX (λaH=>?_) (λaH=>?_)
 ·simp only[go_sem];have:pb (⟨bb,⟨bh,bj,ba,a8⟩,aN,aJ,aO,bd,a_,a9,bk⟩:aD)=false:=by
   simp[pb,hA,Aj,q_,hp]at aH⊢;grind
  simp[dU,fO,this]
 ·have xM:pb (⟨bb,⟨bh,bj,ba,a8⟩,aN,aJ,aO,bd,a_,a9,bk⟩:aD):=by
   simp[pb,hA,Aj,q_,hp]at aH⊢;grind
  exact Vk _ _ _ _ _ _ _ _ _ _ _ _ od nP ep fO xM _
theorem aez(bb bh bj ba:Int)(a8:List Int)(aN aJ aO:List ab)(bd a_ a9 bk:Int)(_:aN.length+aJ.length+aO.length<=524288)(od:aJ.length<=maxLen)(nP:aO.length<=maxLen)(ep:lK (⟨bb,⟨bh,bj,ba,a8⟩,aN,aJ,aO,bd,a_,a9,bk⟩:aD))(fO:jD (⟨bb,⟨bh,bj,ba,a8⟩,aN,aJ,aO,bd,a_,a9,bk⟩:aD)=false)(aw:List ab)(hA:nB (⟨bb,⟨bh,bj,ba,a8⟩,aN,aJ,aO,bd,a_,a9,bk⟩:aD)=aw)(mV:aw.length<=1048576)(dm:aw≠[]){tb qn tc td te u8 tf pj pk pl pn po pq u16 pr pt tg th ti tj tk tl tm tn tp tq tr tt tu u32 tv tw tx tz tA tB tC tD tE tF tG tH tI tJ tK tL tM tN tO tP tQ tR tS tT tU tV tW tX tY tZ t0 u64 t1 t2 t3 t4 t5 t6 t7 t8 t9 t_ t' ua ub uc ud ue uf ug uh ui uj uk um uo uq ur uu uv uw ux uy uz uA uB uC uD uE uF uG uH uI uJ uK uL uM uN uO uP uQ uR uS uT uU uV uW uX uY uZ u0 u1 u2 u3 u4 u5 u6 u7 u9 u_ u' va vb vc vd ve vf vg vh vi vj vk vl vm vn vo vp vq vr vt vu vv vw vx vy vz vA vB vC vD vE vF vG vH vI vJ vK vL vM vN vO vP vQ vR vS vT vU vV vW vX vY vZ v3 v5 v7 v8 v9 v_ v' wa wb wc we wg wh wi wj wk wm wo wq wt wu wv wx wy wz wA wB wC wD wE wF wG wH wI wJ wK wL wM wN wO wP wQ wR wS wT wU wV wW wX wY wZ w1 w2 w3 w4 w5 w6 w7 w8 w9 w_:V} :
  codeE prog [] (Di 6 (E5 Tryz.f156)) ⟨[tb,.ptr 0 0 0,.d (.bool false),.sl 1 0 aw.length,qn,tc,td,te,u8,tf,pj,pk,pl,pn,po,pq,u16,pr,pt,tg,th,ti,tj,tk,tl,tm,tn,tp,tq,tr,tt,tu,u32,tv,tw,tx,tz,tA,tB,tC,tD,tE,tF,tG,tH,tI,tJ,tK,tL,tM,tN,tO,tP,tQ,tR,tS,tT,tU,tV,tW,tX,tY,tZ,t0,u64,t1,t2,t3,t4,t5,t6,t7,t8,t9,t_,t',ua,ub,uc,ud,ue,uf,ug,uh,ui,uj,uk,um,uo,uq,ur,uu,uv,uw,ux,uy,uz,uA,uB,uC,uD,uE,uF,uG,uH,uI,uJ,uK,uL,uM,uN,uO,uP,uQ,uR,uS,uT,uU,uV,uW,uX,uY,uZ,u0,u1,u2,u3,u4,u5,u6,u7,u9,u_,u',va,vb,vc,vd,ve,vf,vg,vh,vi,vj,vk,vl,vm,vn,vo,vp,vq,vr,vt,vu,vv,vw,vx,vy,vz,vA,vB,vC,vD,vE,vF,vG,vH,vI,vJ,vK,vL,vM,vN,vO,vP,vQ,vR,vS,vT,vU,vV,vW,vX,vY,vZ,v3,v5,v7,v8,v9,v_,v',wa,wb,wc,we,wg,wh,wi,wj,wk,wm,wo,wq,wt,wu,wv,wx,wy,wz,wA,wB,wC,wD,wE,wF,wG,wH,wI,wJ,wK,wL,wM,wN,wO,wP,wQ,wR,wS,wT,wU,wV,wW,wX,wY,wZ,w1,w2,w3,w4,w5,w6,w7,w8,w9,w_],[.box [.i bb,.i bh,.i bj,.i ba,.d (.sl 1 (a8.map bg)),.d (.azA aN),.d (.azA aJ),.d (.azA aO),.i bd,.i a_,.i a9,.i bk],.azv aw]⟩ (b1 (ij prog [.tmp 2] [.one (.bool (dU (⟨bb,⟨bh,bj,ba,a8⟩,aN,aJ,aO,bd,a_,a9,bk⟩:aD)))]) .mk) [] (b1 (ij prog [.tmp 2] [.one (.bool (dU (⟨bb,⟨bh,bj,ba,a8⟩,aN,aJ,aO,bd,a_,a9,bk⟩:aD)))]) .mk):=by
 conv=>arg 3;whnf
 simp only[go_sem];have hp:0<aw.length:=aq_.2 dm;have iZ:=b_ ab.enc aw 0 hp
 try simp only[go_sem,I,iZ,ab.enc,gM]
 repeat'(first|((first|refine av.intro (by first|apply Dh|apply BK) ?_|with_reducible apply lv|apply fY|refine a7 Dn χ ψ ?_|refine a7 Dp χ ψ ?_|refine a7 BO χ ψ ?_)<;>simp only[go_sem,I,iZ,ab.enc,gM])|refine⟨ae7,?_⟩|fail)
 refine bX (λaH=>?_) (λaH=>?_)
 ·simp only[go_sem];have:pb (⟨bb,⟨bh,bj,ba,a8⟩,aN,aJ,aO,bd,a_,a9,bk⟩:aD)=false:=by
   simp[pb,hA,Aj,q_,hp]at aH⊢;grind
  simp[dU,fO,this]
 ·have xM:pb (⟨bb,⟨bh,bj,ba,a8⟩,aN,aJ,aO,bd,a_,a9,bk⟩:aD):=by
   simp[pb,hA,Aj,q_,hp]at aH⊢;grind
  exact Vk _ _ _ _ _ _ _ _ _ _ _ _ od nP ep fO xM _
def jL:Int->List aR->Bool
 |_,[]=>true
 |cr,c::cs=>(decide (c.data≠[])&&decide (cr<=c.aP)&&decide (c.aP<=4611686018427387903-(c.data.length:Int)))&&jL (c.aP+c.data.length+1) cs
theorem FG{cr:Int}{c:aR}{cs:List aR}(h:jL cr (c::cs)) :
  c.data≠[]/\cr<=c.aP/\c.aP<=4611686018427387903-(c.data.length:Int)/\jL (c.aP+c.data.length+1) cs:=by
 simp only[jL,bm,bH]at h;exact⟨h.1.1.1,h.1.1.2,h.1.2,h.2⟩
def lR(b:nX):Bool:=cd b.next 0 4611686018427387903&&jL b.next b.cq
def ru(b:nX):Int:=if lR b=true then(match b.cq.getLast? with|some c=>c.aP+c.data.length|none=>b.next)else b.next
def zp(o:Int)(c:aR):Bool:=decide (0<=o)&&decide (0<=c.aP)&&decide (c.aP<=o)&&decide (o-c.aP<c.data.length)
def hM:List aR->Int->Int
 |[],_=>-1
 |c::cs,o=>if zp o c=true then((((c.data[(o-c.aP).toNat]?).getD 0).toNat:Nat):Int)else hM cs o
theorem zt:∀(cs:List aR) (cr:Int),jL cr cs->∀c∈cs,cr<=c.aP/\c.aP<=4611686018427387903-(c.data.length:Int)
 |[],_,_,c,hc=>by cases hc
 |d::cs,cr,h,c,hc=>by
  obtain⟨h1,h2,ao,aH⟩:=FG h;rcases rD.1 hc with rfl|hc
  ·exact⟨h2,ao⟩
  have:=zt cs _ aH c hc;omega
theorem Wc:∀(cs:List aR) (cr:Int) (l:aR),jL cr cs->cs.getLast?=some l->∀c∈cs,c.aP+(c.data.length:Int)<=l.aP+(l.data.length:Int)
 |[],_,_,_,_,c,hc=>by cases hc
 |[d],cr,l,h,hl,c,hc=>by
  simp only[List.getLast?_singleton,cc]at hl;simp only[jn]at hc;subst hl;subst hc;omega
 |d::e::cs,cr,l,h,hl,c,hc=>by
  rw[List.getLast?_cons_cons]at hl;obtain⟨h1,h2,ao,aH⟩:=FG h;have hr:=Wc (e::cs) _ l aH hl;rcases rD.1 hc with rfl|hc
  ·have bR:=zt _ _ aH l (aut hl);omega
  exact hr c hc
theorem FD(o:Int)(c:aR):zp o c↔0<=o/\0<=c.aP/\c.aP<=o/\o-c.aP<c.data.length:=by
 simp only[zp,bm,bH,ed]
def cellsOf(b:nX):afE:=⟨(pv 64).map λj=>hM b.cq (j:Nat),b.next⟩
theorem V8(o:Int)(d:List UInt8)(h:0<=o/\o<=4611686018427387903-(d.length:Int)):aM 271 [.agg [.i o,.str d]] [.one (.i (o+d.length))]:=by
 refine aW 9 func271 call271 [.tmp 2] ?_;intro _;have hw:i64.wrap (o+d.length)=o+d.length:=by rw[bw]<;>omega
 try simp only[go_sem,hw]
 all_goals simp
def BT(cr:Int)(c:aR):Bool:=decide (c.data≠[])&&decide (cr<=c.aP)&&decide (c.aP<=4611686018427387903-(c.data.length:Int))
theorem V9(cr:Int)(xs:List aR)(i:Nat)(h:i<xs.length):jL cr (xs.drop i)=(BT cr xs[i]&&jL (xs[i].aP+xs[i].data.length+1) (xs.drop (i+1))):=by
 rw[asV h];rfl
theorem afv(xs:List aR)(o:Int)(i:Nat)(h:i<xs.length):hM (xs.drop i) o=if zp o xs[i]=true then((((xs[i].data[(o-xs[i].aP).toNat]?).getD 0).toNat:Nat):Int)else hM (xs.drop (i+1)) o:=by
 rw[asV h];rfl
theorem Ld{n:Int}{xs:List aR}(h:cd n 0 4611686018427387903):lR ⟨n,xs⟩=jL n xs:=by
 show(cd n 0 4611686018427387903&&jL n xs)=_;rw[h];rfl
theorem PO{n:Int}{xs:List aR}(h:cd n 0 4611686018427387903=false):lR ⟨n,xs⟩=false:=by
 show(cd n 0 4611686018427387903&&jL n xs)=_;rw[h];rfl
theorem PQ(cr:Int)(c:aR):BT cr c↔c.data≠[]/\cr<=c.aP/\c.aP<=4611686018427387903-(c.data.length:Int):=by
 simp only[BT,bm,bH,ed]
theorem afw(d:List UInt8):decide ((d.length:Int)=0)=decide (d=[]):=by cases d<;>simp;omega
theorem AK(n:Int)(xs:List aR)(hb:∀c∈xs,c.data.length<=1048576)(hx:xs.length<=1048576):aM 214 [.agg [.i n,.azB xs]] [.one (.bool (lR ⟨n,xs⟩))]:=by
 refine aW 42 func214 call214 [.tmp 2] ?_;intro ok;simp only[go_sem];refine af.intro (pW n) ?_;simp only[bN];simp only[go_sem];refine bX (λh0=>?_) (λh0=>?_)
 ·have hq:cd n 0 4611686018427387903=false:=by simpa using h0
  simp only[go_sem];rw[PO hq]
 have hq:cd n 0 4611686018427387903:=by simpa using h0
 have yf:0<=n/\n<=4611686018427387903:=by simpa [cd]using hq
 simp only[go_sem,I];refine cb.intro (λp:Nat×Int=>⟨(.an::.ptr 0 0 0::.d (.bool false)::.i p.2::aA 9 (.d (.azB xs)::.i xs.length::.i p.1::aA 26 [])),[.box [.i n,.d (.azB xs)]]⟩)
  (λp=>xs.length-p.1) (λp=>p.1<=xs.length/\0<=p.2/\p.2<=4611686018427387904/\jL p.2 (xs.drop p.1)=jL n xs) (0,n) [0] ⟨by simp,by omega,by omega,rfl⟩ ?_ ?_
 ·simp only[go_sem];simp
 rintro⟨i,cr⟩ ⟨hi,sv,afx,he⟩;simp only at hi sv afx he;simp only[go_sem];refine bX (λh1=>?_) (λh1=>?_)
 ·have aq:=cY h1;have hlt:i<xs.length:=by omega
  have az:=b_ aR.enc xs i hlt;have hw:=d8 (i:=i) (m:=xs.length) hlt (by simp only[maxLen];omega);have yg:=hb xs[i] (eK hlt);have qD:i64.wrap (4611686018427387903-(xs[i].data.length:Int))=4611686018427387903-(xs[i].data.length:Int):=by rw[bw]<;>omega
  have qE:=V9 cr xs i hlt;by_cases hok:BT cr xs[i]=true
  ·rw[hok,af_]at qE;obtain⟨dG,e9,f3⟩:=(PQ _ _).1 hok;have hne:xs[i].data.length≠0:=by simpa using dG
   have ak:=bn (p:=(xs[i].data.length:Int)=0) ω;have ar:=bn (p:=xs[i].aP<cr) ω;have a4:=bn (p:=4611686018427387903-(xs[i].data.length:Int)<xs[i].aP) ω;have zq:i64.wrap (xs[i].aP+(xs[i].data.length:Int)+1)=xs[i].aP+(xs[i].data.length:Int)+1:=by rw[bw]<;>omega
   have V_:0<=xs[i].aP/\xs[i].aP<=4611686018427387903-(xs[i].data.length:Int):=⟨by omega,by omega⟩
   try simp only[go_sem,I,aF,az,aR.enc,ak]
   repeat'(first|((first|refine af.intro (by(apply V8<;>exact aT)) ?_|with_reducible apply cG)<;>simp only[go_sem,qD,ar,a4])|refine⟨ae7,?_⟩|fail)
   all_goals(refine bt.intro (i+1,xs[i].aP+(xs[i].data.length:Int)+1) [0] ⟨by simp only;omega,by simp only;omega,by simp only;omega,by rw[<-he,qE]⟩ (by simp only;omega) ?_;simp only[go_sem,hw,zq];try simp)
  have afy:BT cr xs[i]=false:=by simpa using hok
  rw[afy,ap_]at qE;have hz:(bif bif decide ((xs[i].data.length:Int)=0)then true else decide (xs[i].aP<cr)then true else decide (4611686018427387903-(xs[i].data.length:Int)<xs[i].aP))=true:=by
   rw[afw];by_cases b5:xs[i].data=[]
   ·simp[b5]
   by_cases b8:xs[i].aP<cr
   ·simp[b5,b8]
   by_cases dI:4611686018427387903-(xs[i].data.length:Int)<xs[i].aP
   ·simp[dI]
   exact absurd ((PQ _ _).2 ⟨b5,by omega,by omega⟩) hok
  try simp only[go_sem,I,aF,az,aR.enc]
  repeat'(first|(apply bo<;>simp only[go_sem,qD,hz])|refine⟨ae7,?_⟩|fail)
  all_goals(rw[Ld hq,<-he,qE])
 have aq:=de h1;have iN:i=xs.length:=by omega
 subst iN;simp only[go_sem];rw[Ld hq,<-he,auo];rfl
theorem rr(n:Int)(xs:List aR)(hb:∀c∈xs,c.data.length<=1048576)(hx:xs.length<=1048576):aM 235 [.agg [.i n,.azB xs]] [.one (.bool (lR ⟨n,xs⟩))]:=by
 refine aW 48 func235 call235 [.tmp 2] ?_;intro ok;simp only[go_sem];have BU:cd n 0 4611686018427387903->0<=n/\n<=4611686018427387903:=λh=>by simpa [cd]using h
 have afz:cd n 0 4611686018427387903->-1<=i64.wrap (n-1)/\i64.wrap (n-1)<=4611686018427387903/\jL (i64.wrap (n-1)+1) (xs.drop 0)=jL n xs:=by
  intro hq;have:=BU hq;have FC:i64.wrap (n-1)=n-1:=by rw[bw]<;>omega
  rw[FC];exact⟨by omega,by omega,by rw[show n-1+1=n from by omega,List.drop_zero]⟩
 refine cb.intro (λp:Nat×Int=>⟨(.an::.ptr 0 0 0::.d (.bool false)::.i p.2::.i p.1::aA 43 []),[.box [.i n,.d (.azB xs)]]⟩)
   (λp=>xs.length-p.1) (λp=>p.1<=xs.length/\(cd n 0 4611686018427387903->-1<=p.2/\p.2<=4611686018427387903/\jL (p.2+1) (xs.drop p.1)=jL n xs)) (0,i64.wrap (n-1)) [0] ⟨by simp,afz⟩ ?_ ?_
 ·simp only[go_sem];simp
 rintro⟨i,e⟩ ⟨hi,hq⟩;simp only at hi hq;simp only[go_sem,I];refine bX (λh1=>?_) (λh1=>?_)
 ·have aq:=cY h1;have hlt:i<xs.length:=by omega
  have az:=b_ aR.enc xs i hlt;have hw:=d8 (i:=i) (m:=xs.length) hlt (by simp only[maxLen];omega);have yg:=hb xs[i] (eK hlt);have qD:i64.wrap (4611686018427387903-(xs[i].data.length:Int))=4611686018427387903-(xs[i].data.length:Int):=by rw[bw]<;>omega
  have qE:=V9 (e+1) xs i hlt;have hz:(bif bif decide (xs[i].aP<=e)then true else decide (xs[i].data=[])then true else decide (4611686018427387903-(xs[i].data.length:Int)<xs[i].aP))=!BT (e+1) xs[i]:=by
   have PR:decide (e+1<=xs[i].aP)=!decide (xs[i].aP<=e):=by by_cases g:xs[i].aP<=e<;>simp[g]<;>omega
   have afA:decide (xs[i].data≠[])=!decide (xs[i].data=[]):=by simp
   have afB:decide (xs[i].aP<=4611686018427387903-(xs[i].data.length:Int))=!decide (4611686018427387903-(xs[i].data.length:Int)<xs[i].aP):=by by_cases g:4611686018427387903-(xs[i].data.length:Int)<xs[i].aP<;>simp[g]<;>omega
   unfold BT;rw[PR,afA,afB];cases decide (xs[i].aP<=e)<;>cases decide (xs[i].data=[])<;>cases decide (4611686018427387903-(xs[i].data.length:Int)<xs[i].aP)<;>rfl
  cases hok:BT (e+1) xs[i]
  ·rw[hok]at hz qE;simp only[ap_,b7]at hz qE
   try simp only[go_sem,I,aF,az,aR.enc]
   repeat'(first|(apply bo<;>simp only[go_sem,qD,hz])|refine⟨ae7,?_⟩|fail)
   all_goals(cases zr:cd n 0 4611686018427387903 with|false=>rw[PO zr]|true=>rw[Ld zr,<-(hq zr).2.2,qE])
  rw[hok]at hz qE;simp only[af_,bz]at hz qE;obtain⟨dG,e9,f3⟩:=(PQ _ _).1 hok
  try simp only[go_sem,I,aF,az,aR.enc]
  repeat'(first|(apply bo<;>simp only[go_sem,qD,hz])|refine⟨ae7,?_⟩|fail)
  all_goals(refine bt.intro (i+1,i64.wrap (xs[i].aP+(xs[i].data.length:Int))) [0] ⟨by simp only;omega,λzr=>?_⟩ (by simp only;omega) ?_)
  all_goals first
   |(simp only[go_sem,hw];done)
   |(simp only[go_sem,hw];simp;done)
   |(obtain⟨Le,DQ,he⟩:=hq zr;have jx:i64.wrap (xs[i].aP+(xs[i].data.length:Int))=xs[i].aP+(xs[i].data.length:Int):=(by rw[bw]<;>omega);simp only[jx];exact⟨by omega,by omega,by rw[<-he,qE]⟩)
 have aq:=de h1;have iN:i=xs.length:=by omega
 subst iN;simp only[go_sem];refine af.intro (ld n) ?_;simp only[bN];simp only[go_sem];cases zr:cd n 0 4611686018427387903
 ·rw[PO zr]
 rw[Ld zr,<-(hq zr).2.2,auo];rfl
theorem V'(n:Int)(xs:List aR)(hb:∀c∈xs,c.data.length<=1048576)(hx:xs.length<=1048576):aM 215 [.agg [.i n,.azB xs]] [.one (.i (ru ⟨n,xs⟩))]:=by
 refine aW 23 func215 call215 [.tmp 2] ?_;intro ok;cases aE:lR ⟨n,xs⟩
 ·have sw:∀b:Bool,(bif b then true else true)=true:=λb=>by cases b<;>rfl
  try simp only[go_sem]
  repeat'((first|refine af.intro (by(apply AK<;>exact aT)) ?_|with_reducible apply dp)<;>simp only[go_sem,aE])
  all_goals simp[ru,aE]
 cases nH:xs with
 |nil=>
  rw[<-nH];have ak:decide ((xs.length:Int)=0):=by rw[nH];rfl
  have iL:xs.getLast?=none:=by rw[nH];rfl
  try simp only[go_sem]
  repeat'((first|refine af.intro (by(apply AK<;>exact aT)) ?_|with_reducible apply cG)<;>simp only[go_sem,I,aE,ak])
  all_goals simp[ru,aE,iL]
 |cons AL afC=>
  rw[<-nH];have fU:0<xs.length:=by rw[nH];simp
  obtain⟨m,hm⟩:∃m,xs.length=m+1:=⟨xs.length-1,by omega⟩;have hlt:m<xs.length:=by omega
  have az:=b_ aR.enc xs m hlt;have hl:xs.getLast?=some xs[m]:=by rw[atm,hm,aAb,cy]
  have ak:=bn (p:=(xs.length:Int)=0) ω;have hw:i64.wrap ((xs.length:Int)-1)=(m:Int):=by rw[bw]<;>omega
  have hq:=aE;have Lf:0<=n/\jL n xs:=by
   simp only[lR,bm,cd,bH]at hq;exact⟨hq.1.1,hq.2⟩
  have hc:=zt xs n Lf.2 xs[m] (eK hlt);have V_:0<=xs[m].aP/\xs[m].aP<=4611686018427387903-(xs[m].data.length:Int):=⟨by omega,hc.2⟩;have zq:i64.wrap (xs[m].aP+(xs[m].data.length:Int))=xs[m].aP+(xs[m].data.length:Int):=by rw[bw]<;>omega
  try simp only[go_sem]
  repeat'(first|((first|refine af.intro (by first|(apply AK<;>exact aT)|(apply V8<;>exact aT)) ?_|with_reducible apply cG)<;>simp only[go_sem,I,aF,az,aR.enc,aE,ak,hw])|refine⟨ae7,?_⟩|fail)
  all_goals simp[ru,aE,hl]
theorem Wa(n:Int)(xs:List aR)(hb:∀c∈xs,c.data.length<=1048576)(hx:xs.length<=1048576):aM 236 [.agg [.i n,.azB xs]] [.one (.i (ru ⟨n,xs⟩))]:=by
 refine aW 29 func236 call236 [.tmp 2] ?_;intro ok;cases aE:lR ⟨n,xs⟩
 ·have sw:∀b:Bool,(bif b then true else true)=true:=λb=>by cases b<;>rfl
  try simp only[go_sem,I]
  repeat'((first|refine av.intro (by(apply rr<;>exact aT)) ?_|apply bo)<;>simp only[go_sem,aE,sw])
  all_goals simp[ru,aE]
 cases nH:xs with
 |nil=>
  rw[<-nH];have ak:decide ((xs.length:Int)=0):=by rw[nH];rfl
  have iL:xs.getLast?=none:=by rw[nH];rfl
  try simp only[go_sem,I,ak]
  repeat'(first|(with_reducible apply dp<;>simp only[go_sem]))
  all_goals simp[ru,aE,iL]
 |cons AL afC=>
  rw[<-nH];have fU:0<xs.length:=by rw[nH];simp
  obtain⟨m,hm⟩:∃m,xs.length=m+1:=⟨xs.length-1,by omega⟩;have hlt:m<xs.length:=by omega
  have az:=b_ aR.enc xs m hlt;have hl:xs.getLast?=some xs[m]:=by rw[atm,hm,aAb,cy]
  have ak:=bn (p:=(xs.length:Int)=0) ω;have hw:i64.wrap ((xs.length:Int)-1)=(m:Int):=by rw[bw]<;>omega
  have hq:=aE;have Lf:0<=n/\jL n xs:=by
   simp only[lR,bm,cd,bH]at hq;exact⟨hq.1.1,hq.2⟩
  have hc:=zt xs n Lf.2 xs[m] (eK hlt);have V_:0<=xs[m].aP/\xs[m].aP<=4611686018427387903-(xs[m].data.length:Int):=⟨by omega,hc.2⟩;have zq:i64.wrap (xs[m].aP+(xs[m].data.length:Int))=xs[m].aP+(xs[m].data.length:Int):=by rw[bw]<;>omega
  try simp only[go_sem,I,ak]
  repeat'(first|((first|refine af.intro (by(apply rr<;>exact aT)) ?_|with_reducible apply cG)<;>simp only[go_sem,I,aF,az,aR.enc,aE,hw,zq])|refine⟨ae7,?_⟩|fail)
  all_goals simp[ru,aE,hl]
theorem Wb(n:Int)(xs:List aR)(o:Int)(hb:∀c∈xs,c.data.length<=1048576)(hx:xs.length<=1048576):aM 340 [.agg [.i n,.azB xs],.one (.i o)] [.one (.i (hM xs o))]:=by
 refine aW 57 func340 call340 [.tmp 4] ?_;intro ok;have aG:=HT ok.2.1;simp only[go_sem];refine cb.intro (λi:Nat=>⟨(.an::.i o::.ptr 0 0 0::.an::.i 0::.i i::aA 51 []),[.box [.i n,.d (.azB xs)]]⟩)
   (λi=>xs.length-i) (λi=>i<=xs.length/\hM (xs.drop i) o=hM xs o) 0 [0] ⟨by omega,rfl⟩ ?_ ?_
 ·simp only[go_sem];simp
 rintro i ⟨hi,he⟩;simp only[go_sem,I];refine bX (λh1=>?_) (λh1=>?_)
 ·have aq:=cY h1;have hlt:i<xs.length:=by omega
  have az:=b_ aR.enc xs i hlt;have hw:=d8 (i:=i) (m:=xs.length) hlt (by simp only[maxLen];omega);have yg:=hb xs[i] (eK hlt);have HU:=afv xs o i hlt;by_cases hh:zp o xs[i]=true
  ·rw[if_pos hh]at HU;obtain⟨dG,e9,f3,DR⟩:=(FD _ _).1 hh;obtain⟨k,hk⟩:=mU (show 0<=o-xs[i].aP by omega);have AM:i64.wrap (o-xs[i].aP)=(k:Int):=by rw[bw]<;>omega
   have xe:k<xs[i].data.length:=by omega
   have PS:xs[i].data[k]?=some xs[i].data[k]:=cy xe;have FE:i64.wrap ((xs[i].data[k].toNat:Nat):Int)=((xs[i].data[k].toNat:Nat):Int):=by have:=xs[i].data[k].toNat_lt;rw[bw]<;>omega
   have ak:=br (p:=0<=o) dG;have ar:=br (p:=0<=xs[i].aP) e9;have a4:=br (p:=(0:Int)<=(k:Int)) ω;have bP:=br (p:=(k:Int)<(xs[i].data.length:Int)) ω;rw[hk,aF,PS,kk]at HU
   try simp only[go_sem,I,aF,az,aR.enc,AM,ak,kk]
   repeat'(first|(with_reducible apply cG<;>simp only[go_sem,I,aF,az,aR.enc,ar,a4,bP,PS,FE,kk])|refine⟨ae7,?_⟩|fail)
   all_goals(rw[<-he,HU])
  rw[if_neg hh]at HU;have hz:(bif bif bif decide (0<=o)then decide (0<=xs[i].aP)else false then decide (0<=i64.wrap (o-xs[i].aP))else false then decide (i64.wrap (o-xs[i].aP)<(xs[i].data.length:Int))else false)=false:=by
   by_cases b5:0<=o
   ·by_cases b8:0<=xs[i].aP
    ·have arl:=HT (n:=o-xs[i].aP) (by
      have h1:arV.min=-9223372036854775808:=by decide
      have h2:arV.max=9223372036854775807:=by decide
      have ao:=PT ok.1.2.1.2 _ (aa_.2 ⟨xs[i],eK hlt,rfl⟩);have aH:=HT ao.1;simp only[dOk,h1,h2];omega)
     have AM:i64.wrap (o-xs[i].aP)=o-xs[i].aP:=by rw[bw]<;>omega
     rw[AM];by_cases dI:0<=o-xs[i].aP
     ·have lf:¬o-xs[i].aP<(xs[i].data.length:Int):=λlf=>hh ((FD _ _).2 ⟨b5,b8,by omega,lf⟩);simp[lf]
     simp[show ¬xs[i].aP<=o from by omega]
    ·simp[b8]
   simp[b5]
  try simp only[go_sem,I,aF,az,aR.enc]
  repeat'(first|(apply bo<;>simp only[go_sem,I,aF,az,aR.enc,hz])|refine⟨ae7,?_⟩|fail)
  all_goals(refine bt.intro (i+1) [0] ⟨by omega,by rw[<-he,HU]⟩ ω ?_;simp only[go_sem,hw];try simp)
 have aq:=de h1;have iN:i=xs.length:=by omega
 subst iN;simp only[go_sem];rw[<-he,auo];rfl
def AN:List (List bK):=cB 19 [1162261466,1162261464,1162261458,1162261440,1162261386,1162261224,1162260738,1162259280,1162254906,1162241784,1104806790,1104688692,1104334398,1103271516,1100082870,1155057489,1126359675,1033121304,774840978]
attribute [go_sem] AN
def Lg(n:Int):List aR->Nat
 |[]=>0
 |c::_=>if c.aP=n then c.data.length else 0
def mu(n:Int)(xs:List aR):Nat:=if lR ⟨n,xs⟩=true then Lg n xs else 0
def nW(xs:List aR):List ab:=xs.map λc=>⟨c.aP,c.aP+c.data.length⟩
def FF(n:Int)(xs:List aR):List ab:=if lR ⟨n,xs⟩=true then nW xs else []
theorem afD(n:Int)(xs:List aR)(hb:∀c∈xs,c.data.length<=1048576)(hx:xs.length<=1048576):aM 272 [.agg [.i n,.azB xs]] [.one (.i (mu n xs))]:=by
 refine aW 28 func272 call272 [.tmp 2] ?_;intro ok;cases aE:lR ⟨n,xs⟩
 ·try simp only[go_sem]
  repeat'((first|refine av.intro (by(apply AK<;>exact aT)) ?_|with_reducible apply lv|refine a7 AN χ ψ ?_)<;>simp only[go_sem,aE])
  all_goals simp[mu,aE]
 by_cases hl:xs.length=0
 ·have ak:=br (p:=(xs.length:Int)=0) ω
  try simp only[go_sem]
  repeat'((first|refine av.intro (by(apply AK<;>exact aT)) ?_|with_reducible apply mr|with_reducible apply lv|refine a7 AN χ ψ ?_)<;>simp only[go_sem,I,aE,ak])
  all_goals simp[mu,Lg,arN.1 hl]
 have hlt:0<xs.length:=by omega
 have ak:=bn (p:=(xs.length:Int)=0) ω;have az:=b_ aR.enc xs 0 hlt;have hr:mu n xs=if xs[0].aP=n then xs[0].data.length else 0:=by
  unfold mu;rw[if_pos aE]
  cases xs with
  |nil=>exact absurd rfl hl
  |cons c cs=>rfl
 by_cases hc:xs[0].aP=n
 ·have ar:=bn (p:=xs[0].aP≠n) (by simpa using hc)
  try simp only[go_sem]
  repeat'(first|((first|refine av.intro (by(apply AK<;>exact aT)) ?_|with_reducible apply mr|refine a7 AN χ ψ ?_)<;>simp only[go_sem,I,aE,az,aR.enc,ak,ar,gM])|refine⟨ae7,?_⟩|fail)
  all_goals simp[hr,hc]
 have ar:=br (p:=xs[0].aP≠n) hc
 try simp only[go_sem]
 repeat'(first|((first|refine av.intro (by(apply AK<;>exact aT)) ?_|with_reducible apply mr|refine a7 AN χ ψ ?_)<;>simp only[go_sem,I,aE,az,aR.enc,ak,ar,gM])|refine⟨ae7,?_⟩|fail)
 all_goals simp[hr,hc]
theorem HV(n:Int)(xs:List aR)(hb:∀c∈xs,c.data.length<=1048576)(hx:xs.length<=1048576):aM 237 [.agg [.i n,.azB xs]] [.one (.i (mu n xs))]:=by
 refine aW 28 func237 call237 [.tmp 2] ?_;intro ok;cases aE:lR ⟨n,xs⟩
 ·try simp only[go_sem]
  repeat'((first|refine av.intro (by(apply rr<;>exact aT)) ?_|with_reducible apply lv|refine a7 AN χ ψ ?_)<;>simp only[go_sem,aE])
  all_goals simp[mu,aE]
 by_cases hl:xs.length=0
 ·have ak:=br (p:=(xs.length:Int)=0) ω
  try simp only[go_sem]
  repeat'((first|refine av.intro (by(apply rr<;>exact aT)) ?_|with_reducible apply mr|with_reducible apply lv|refine a7 AN χ ψ ?_)<;>simp only[go_sem,I,aE,ak])
  all_goals simp[mu,Lg,arN.1 hl]
 have hlt:0<xs.length:=by omega
 have ak:=bn (p:=(xs.length:Int)=0) ω;have az:=b_ aR.enc xs 0 hlt;have hr:mu n xs=if xs[0].aP=n then xs[0].data.length else 0:=by
  unfold mu;rw[if_pos aE]
  cases xs with
  |nil=>exact absurd rfl hl
  |cons c cs=>rfl
 by_cases hc:xs[0].aP=n
 ·have ar:=bn (p:=xs[0].aP≠n) (by simpa using hc)
  try simp only[go_sem]
  repeat'(first|((first|refine av.intro (by(apply rr<;>exact aT)) ?_|with_reducible apply mr|refine a7 AN χ ψ ?_)<;>simp only[go_sem,I,aE,az,aR.enc,ak,ar,gM])|refine⟨ae7,?_⟩|fail)
  all_goals simp[hr,hc]
 have ar:=br (p:=xs[0].aP≠n) hc
 try simp only[go_sem]
 repeat'(first|((first|refine av.intro (by(apply rr<;>exact aT)) ?_|with_reducible apply mr|refine a7 AN χ ψ ?_)<;>simp only[go_sem,I,aE,az,aR.enc,ak,ar,gM])|refine⟨ae7,?_⟩|fail)
 all_goals simp[hr,hc]
def Wh:List (List bK):=cB 10 [55772,55770,57991,57973,58765,58927,58360,56866,52488,39366]
def Wi:List (List bK):=cB 6 [698,700,693,634,675,486]
attribute [go_sem] Wh Wi
def oN(n:Int)(xs:List aR)(cm:Int):Nat:=min (mu n xs) cm.toNat
def Lj(xs:List aR):List UInt8:=(xs.getD 0 ⟨0,[]⟩).data
def DS(n:Int)(xs:List aR)(cm:Int):List UInt8:=(Lj xs).take (oN n xs cm)
def xg(n:Int)(xs:List aR)(cm:Int):List aR:=
 if oN n xs cm=0 then xs else if oN n xs cm=(Lj xs).length then xs.drop 1 else⟨n+oN n xs cm,(Lj xs).drop (oN n xs cm)⟩::xs.drop 1
theorem PW{n:Int}{xs:List aR}(h:mu n xs≠0):lR ⟨n,xs⟩/\∃hl:0<xs.length,xs[0].aP=n/\mu n xs=xs[0].data.length/\Lj xs=xs[0].data:=by
 unfold mu at h⊢;by_cases aE:lR ⟨n,xs⟩=true
 ·rw[if_pos aE]at h⊢
  cases xs with
  |nil=>exact absurd rfl h
  |cons c cs=>
   simp only[Lg]at h⊢;by_cases hc:c.aP=n
   ·rw[if_pos hc];exact⟨aE,by simp,hc,rfl,rfl⟩
   rw[if_neg hc]at h;exact absurd rfl h
 rw[if_neg aE]at h;exact absurd rfl h
theorem PY{n:Int}{xs:List aR}(h:lR ⟨n,xs⟩):0<=n/\n<=4611686018427387903/\jL n xs:=by
 simp only[lR,bm,cd,bH]at h;exact⟨h.1.1,h.1.2,h.2⟩
theorem afK{α β:Type}(f:α->β)(xs:List α)(y:β)(h:0<xs.length):(xs.map f).set 0 y=y::(xs.drop 1).map f:=by
 cases xs with
 |nil=>simp at h
 |cons x xs=>rfl
theorem afL(n:Int)(xs:List aR)(cm:Int)(hb:∀c∈xs,c.data.length<=1048576)(hx:xs.length<=1048576):aM 313 [.agg [.i n,.azB xs],.one (.i cm)] [.one (.str (DS n xs cm)),.agg [.i (n+oN n xs cm),.azB (xg n xs cm)]]:=by
 refine aW 53 func313 call313 [.tmp 4,.cell 5 68] ?_;intro ok;have Lk:xs.length<=1048577:=by omega
 cases hk:oN n xs cm with
 |zero=>
  have hm:(if(if cm<0 then 0 else cm)<(mu n xs:Int)then(if cm<0 then 0 else cm)else(mu n xs:Int))=0:=by
   unfold oN at hk;split<;>split<;>omega
  try simp only[go_sem]
  repeat'(first|((first|refine af.intro (by first|(apply HV<;>exact aT)|(apply BX<;>exact aT)) ?_|refine a7 [[.post,.dL,.post],[.dL,.post,.post],[.pre,.pre,.post]] χ ψ ?_)<;>simp only[go_sem,I,hm])|refine⟨ae7,?_⟩|fail)
  all_goals simp[DS,xg,hk]
 |succ k=>
  have hr:mu n xs≠0:=by unfold oN at hk;omega
  obtain⟨aE,hlt,aG,qG,HW⟩:=PW hr;obtain⟨BU,yh,hc⟩:=PY aE;have hm:(if(if cm<0 then 0 else cm)<(mu n xs:Int)then(if cm<0 then 0 else cm)else(mu n xs:Int))=((k+1:Nat):Int):=by
   unfold oN at hk;split<;>split<;>omega
  have HX:=bn (p:=((k+1:Nat):Int)=0) ω;have az:=b_ aR.enc xs 0 hlt;have yg:=hb xs[0] (eK hlt);have xe:k+1<=xs[0].data.length:=by unfold oN at hk;omega
  have nY:=zt xs n hc xs[0] (eK hlt);have hw:i64.wrap (n+((k+1:Nat):Int))=n+((k+1:Nat):Int):=by rw[bw]<;>omega
  have yi:xs[0].data.take (k+1)=DS n xs cm:=by unfold DS;rw[HW,hk]
  by_cases hq:k+1=xs[0].data.length
  ·have ak:=br (p:=((k+1:Nat):Int)=(xs[0].data.length:Int)) ω;have dm:xg n xs cm=xs.drop 1:=by unfold xg;rw[hk,HW,if_neg ω,if_pos hq]
   try simp only[go_sem]
   repeat'(first|(refine af.intro (by first|(apply HV<;>exact aT)|(apply BX<;>exact aT)) ?_<;>simp only[go_sem,I,hm,HX,az,aR.enc,gM,hw,ak])|refine⟨ae7,?_⟩|fail)
   have bu:1+(xs.length-1)<=xs.length:=by omega
   have ht:atz (xs.length-1) (atf 1 (List.map aR.enc xs))=(xs.drop 1).map aR.enc:=by
    rw[eA ξ,List.map_drop]
   rw[if_pos bu,ht];refine af.intro (BX (n+((k+1:Nat):Int)) (xs.drop 1) (by simp;omega)) ?_
   try simp only[go_sem,I]
   repeat'(first|refine⟨ae7,?_⟩|fail)
   all_goals(
    have l7:DS n xs cm=xs[0].data:=by rw[<-yi,hq];exact da
    rw[l7,dm])
  have ak:=bn (p:=((k+1:Nat):Int)=(xs[0].data.length:Int)) ω;have dm:xg n xs cm=⟨n+((k+1:Nat):Int),xs[0].data.drop (k+1)⟩::xs.drop 1:=by unfold xg;rw[hk,HW,if_neg ω,if_neg hq]
  try simp only[go_sem]
  repeat'(first|((first|refine af.intro (by first|(apply HV<;>exact aT)|(apply BX<;>exact aT)) ?_|refine a7 Wh χ ψ ?_|refine a7 Wi χ ψ ?_)<;>simp only[go_sem,I,hm,HX,az,aR.enc,gM,aF,hw,ak])|refine⟨ae7,?_⟩|fail)
  all_goals(
   have afM:atz (xs[0].data.length-(k+1)) (atf (k+1) xs[0].data)=atf (k+1) xs[0].data:=eA ξ;rw[afM,afK aR.enc xs _ hlt];have iL:xs.length=(([D.i (n+((k+1:Nat):Int)),D.str (atf (k+1) xs[0].data)]:List D)::(xs.drop 1).map aR.enc).length:=by simp;omega
   rw[if_pos (asN iL),eA (asN iL.symm),Nat.sub_zero,yi,dm];simp[outOA,aR.enc])
def Wf:List (List bK):=cB 25 [800217020030,842058433906,842058433900,842058433921,842058433855,842058433693,842058433207,845545993627,845545989253,845546004562,845545956448,845545838350,845545484056,847273463374,847270274728,847281434989,847246359883,847160266441,846901986115,846127145137,843801826135,836828256241,815907549835,753145430616,564859072962]
def PX:List (List bK):=cB 9 [16439,16441,16434,16416,19399,19561,18994,17536,13122]
attribute [go_sem] Wf PX
theorem afH(xs:List aR)(i:Nat)(h:i<xs.length):nW (xs.take (i+1))=nW (xs.take i)++[⟨xs[i].aP,xs[i].aP+xs[i].data.length⟩]:=by
 unfold nW;rw[gO,cy h,ast,arO];rfl
theorem Lh(xs:List aR):(nW xs).length=xs.length:=by simp[nW]
theorem afI(n:Int)(xs:List aR)(hb:∀c∈xs,c.data.length<=1048576)(hx:xs.length<=1048576):aM 339 [.agg [.i n,.azB xs]] [.one (.azA (FF n xs))]:=by
 refine aW 42 func339 call339 [.tmp 2] ?_;intro ok;cases aE:lR ⟨n,xs⟩
 ·try simp only[go_sem]
  refine cb.intro (λ_:Unit=>⟨(.an::.ptr 0 0 0::.eg 2::.sl 1 0 0::.i 0::aA 37 []),[.box [.i n,.d (.azB xs)],.ay 2 [] true]⟩)
   (λ_=>0) (λ_=>True) () [0,1] trivial ?_ ?_
  ·simp only[go_sem];simp
  rintro _ _;have Li:∀b:Bool,(bif b then false else false)=false:=λb=>by cases b<;>rfl
  try simp only[go_sem,I]
  repeat'(first|((first|refine av.intro (by(apply rr<;>exact aT)) ?_|apply bo)<;>simp only[go_sem,aE,Li])|refine⟨ae7,?_⟩|fail)
  all_goals simp[FF,aE]
 obtain⟨BU,yh,BW⟩:=PY aE;have a1:FF n xs=nW xs:=by unfold FF;rw[if_pos aE]
 try simp only[go_sem]
 refine cb.intro (λi:Nat=>⟨(.an::.ptr 0 0 0::.eg 2::.sl 1 0 (nW (xs.take i)).length::.i i::aA 37 []),[.box [.i n,.d (.azB xs)],.azv (nW (xs.take i))]⟩)
  (λi=>xs.length-i) (λi=>i<=xs.length) 0 [0,1] ω ?_ ?_
 ·simp only[go_sem];simp[nW]
 intro i hi;have qG:(nW (xs.take i)).length<=1048576:=by rw[Lh,arJ];omega
 by_cases hlt:i<xs.length
 ·have az:=b_ aR.enc xs i hlt;have hw:=d8 (i:=i) (m:=xs.length) hlt (by simp only[maxLen];omega);have nY:=zt _ _ BW xs[i] (eK hlt);have yg:=hb xs[i] (eK hlt);have zq:i64.wrap (xs[i].aP+(xs[i].data.length:Int))=xs[i].aP+(xs[i].data.length:Int):=by rw[bw]<;>omega
  have hs:=afH xs i hlt;have ak:=aro (i:=i) (n:=xs.length)
  try simp only[go_sem,I,ak]
  repeat'(first|((first|refine af.intro (by(apply rr<;>exact aT)) ?_|with_reducible apply cG|refine a7 Wf χ ψ ?_)<;>simp only[go_sem,I,aF,az,aR.enc,hw,zq,aE])|refine⟨ae7,?_⟩|fail)
  all_goals(refine bt.intro (i+1) [0,3] ω ω ?_;simp only[go_sem,hs];simp[ab.enc])
 have ak:=bn (p:=(i:Int)<(xs.length:Int)) ω;have iN:i=xs.length:=by omega
 try simp only[go_sem,I,ak]
 repeat'(first|(with_reducible apply dp<;>simp only[go_sem,I])|refine⟨ae7,?_⟩|fail)
 all_goals(rw[iN,da,a1];try simp[outOA,eA])
theorem VS(xs ys:List ab):aM 113 [.one (.azA xs),.one (.azA ys)] [.one (.bool (decide (xs=ys)))]:=by
 refine aW 26 func113 call113 [.tmp 4] ?_;intro ok;have hm:=gw ok;by_cases hl:xs.length=ys.length
 ·have c3:=bn (p:=(xs.length:Int)≠(ys.length:Int)) ω
  try simp only[go_sem,I,c3]
  refine cb.intro (λi:Nat=>⟨(.d (.azA xs)::.d (.azA ys)::.an::.an::.d (.bool false)::.i i::aA 20 []),[]⟩)
   (λi=>xs.length-i) (λi=>i<=xs.length/\xs.take i=ys.take i) 0 [] ⟨by omega,by simp⟩ ?_ ?_
  ·simp only[go_sem];simp
  rintro i ⟨hi,he⟩;simp only[go_sem,I];refine bX (λh1=>?_) (λh1=>?_)
  ·have aq:=cY h1;have hlt:i<xs.length:=by omega
   have Wg:i<ys.length:=by omega
   have az:=b_ ab.enc xs i hlt;have mq:=b_ ab.enc ys i Wg;have hw:=d8 hlt hm;by_cases hq:xs[i]=ys[i]
   ·have b4:xs.take (i+1)=ys.take (i+1):=by
     rw[gO,gO,he,cy hlt,cy Wg,hq]
    try simp only[go_sem]
    repeat'(first|(refine a7 PX χ ψ ?_<;>simp only[go_sem,I,aF,az,mq,hq,ab.enc,hw])|refine⟨ae7,?_⟩|fail)
    all_goals(refine bt.intro (i+1) [] ⟨by omega,b4⟩ ω ?_;simp only[go_sem])
   ·have afJ:xs≠ys:=λh=>hq (by simp only[h]);have hne:(!(decide (xs[i].low=ys[i].low)&&decide (xs[i].high=ys[i].high))):=by
     have:¬(xs[i].low=ys[i].low/\xs[i].high=ys[i].high):=λh=>hq (by
      have ak:=h.1;have ar:=h.2;generalize xs[i]=a at ak ar;generalize ys[i]=b at ak ar;cases a;cases b;simp only at ak ar;rw[ak,ar])
     rw[<-Bool.decide_and,bn this];rfl
    try simp only[go_sem]
    repeat'(first|(refine a7 PX χ ψ ?_<;>simp only[go_sem,I,aF,az,mq,ab.enc,hne])|refine⟨ae7,?_⟩|fail)
    all_goals simp[afJ]
  have aq:=de h1;have iN:i=xs.length:=by omega
  rw[eA ω,eA ω]at he;simp only[go_sem];simp[he]
 have c3:=br (p:=(xs.length:Int)≠(ys.length:Int)) ω;have hne:xs≠ys:=λh=>hl (by rw[h])
 try simp only[go_sem,I,c3]
 all_goals simp[hne]
def qk(o:Int)(c:aR):Int:=if zp o c=true then((((c.data[(o-c.aP).toNat]?).getD 0).toNat:Nat):Int)else -1
theorem aaY{o:Int}{c:aR}(h:qk o c≠-1):0<=o/\0<=c.aP/\c.aP<=o/\o-c.aP<c.data.length:=by
 unfold qk at h;by_cases g:zp o c=true
 ·exact(FD _ _).1 g
 rw[if_neg g]at h;exact absurd rfl h
theorem NI{o:Int}{c:aR}(h:¬(0<=o/\0<=c.aP/\c.aP<=o/\o-c.aP<c.data.length)):qk o c=-1:=by
 unfold qk;rw[if_neg (λg=>h ((FD _ _).1 g))]
theorem Bv{o:Int}{c:aR}(h:0<=o/\0<=c.aP/\c.aP<=o/\o-c.aP<c.data.length):qk o c=((((c.data[(o-c.aP).toNat]?).getD 0).toNat:Nat):Int):=by
 unfold qk;rw[if_pos ((FD _ _).2 h)]
theorem xT(o:Int)(c:aR):∀cs,hM (cs++[c]) o=if hM cs o=-1 then qk o c else hM cs o
 |[]=>by simp[hM,qk]
 |d::cs=>by
  rw[cx,hM,hM];by_cases h:zp o d=true
  ·rw[if_pos h,if_pos h,if_neg ω]
  rw[if_neg h,if_neg h];exact xT o c cs
theorem Tb(c:aR):∀(cs:List aR) (cr:Int),jL cr cs->(∀d∈cs,d.aP+(d.data.length:Int)<c.aP)->cr<=c.aP->c.data≠[]->c.aP<=4611686018427387903-(c.data.length:Int)->jL cr (cs++[c])=true
 |[],cr,_,_,h1,h2,ao=>by simp only[cv,jL,bm,bH,and_true];exact⟨⟨h2,h1⟩,ao⟩
 |d::cs,cr,h,hd,h1,h2,ao=>by
  obtain⟨k1,k2,dd,il⟩:=FG h;have:=hd d ξ;simp only[cx,jL,bm,bH];exact⟨⟨⟨k1,k2⟩,dd⟩,Tb c cs _ il (λe he=>hd e (by simp[he])) ω h2 ao⟩
theorem aaZ(l:aR)(x:List UInt8):∀(cs:List aR) (cr:Int),jL cr (cs++[l])->l.aP<=4611686018427387903-((l.data++x).length:Int)->jL cr (cs++[⟨l.aP,l.data++x⟩])=true
 |[],cr,h,h1=>by
  obtain⟨k1,k2,dd,il⟩:=FG h;simp only[cv,jL,bm,bH,and_true];exact⟨⟨by simp[k1],k2⟩,h1⟩
 |d::cs,cr,h,h1=>by
  obtain⟨k1,k2,dd,il⟩:=FG h;simp only[cx,jL,bm,bH];exact⟨⟨⟨k1,k2⟩,dd⟩,aaZ l x cs _ il h1⟩
def r3(d2:List aR)(c:aR):List aR:=
 match d2.getLast? with
 |some l=>if l.aP+l.data.length=c.aP then d2.dropLast++[⟨l.aP,l.data++c.data⟩]else d2++[c]
 |none=>d2++[c]
def r4(xs:List aR):List aR:=xs.foldl r3 []
theorem EF(xs:List aR)(c:aR):r4 (xs++[c])=r3 (r4 xs) c:=by
 unfold r4;rw[arD];rfl
theorem aa0{d2:List aR}{l:aR}(h:d2.getLast?=some l):d2=d2.dropLast++[l]:=by
 obtain⟨ys,e⟩:=List.getLast?_eq_some_iff.1 h;rw[e];simp
theorem NJ(d2:List aR)(c:aR):(r3 d2 c).length<=d2.length+1:=by
 unfold r3;split
 ·split<;>simp
 simp
structure EG(cr e:Int)(d2:List aR)(f:Int->Int):Prop where
 EH:jL cr d2=true
 nz:∀c∈d2,c.aP+(c.data.length:Int)<=e
 CZ:∀o,hM d2 o=f o
theorem EG.step{cr e:Int}{d2:List aR}{f:Int->Int}(h:EG cr e d2 f)(c:aR)(h0:0<=cr)(hl:cr<=c.aP)(he:e<=c.aP)(hd:c.data≠[])(hm:c.aP<=4611686018427387903-(c.data.length:Int)) :
  EG cr (c.aP+c.data.length) (r3 d2 c) (λo=>if f o=-1 then qk o c else f o):=by
 unfold r3;split
 ·rename_i l sK;have hs:=aa0 sK;have I1:l∈d2:=aut sK;have bu:=h.nz l I1;have JH:=zt _ _ h.EH l I1;split
  ·rename_i ayF;have hb:∀o,hM (d2.dropLast++[⟨l.aP,l.data++c.data⟩]) o=hM (d2++[c]) o:=by
    intro o;rw[xT,xT]
    conv=>rhs;rw[hs]
    rw[xT];by_cases g:hM d2.dropLast o=-1
    ·simp only[if_pos g];by_cases b5:qk o l=-1
     ·rw[if_pos b5];by_cases b8:qk o c=-1
      ·rw[b8];refine NI λk=>?_;simp only[eh,atd]at k;by_cases dI:o-l.aP<l.data.length
       ·rw[Bv ω]at b5;omega
       rw[Bv ω]at b8;omega
      have k:=aaY b8;rw[Bv k,Bv (by simp only[eh,atd];omega)];simp only;rw[ak_ ω];have:(o-l.aP).toNat-l.data.length=(o-c.aP).toNat:=by omega
      rw[this]
     rw[if_neg b5];have k:=aaY b5;rw[Bv k,Bv (by simp only[eh,atd];omega)];simp only;rw[arF ω]
    simp only[if_neg g]
   refine⟨?_,?_,?_⟩
   ·refine aaZ l c.data _ _ (hs▸h.EH) ?_;simp only[eh,atd];omega
   ·intro d oE;rcases e7.1 oE with oE|oE
    ·have:=h.nz d (List.dropLast_subset _ oE);omega
    rw[jn.1 oE];simp only[eh,atd];omega
   intro o;rw[hb o,xT,h.CZ o]
  ·rename_i hne;refine⟨Tb c d2 cr h.EH (λd oE=>?_) hl hd hm,?_,λo=>by rw[xT,h.CZ o]⟩
   ·have:=Wc _ _ _ h.EH sK d oE;omega
   intro d oE;rcases e7.1 oE with oE|oE
   ·have:=h.nz d oE;omega
   rw[jn.1 oE];omega
 rename_i hn;have MK:d2=[]:=auI.1 hn;refine⟨Tb c d2 cr h.EH (λd oE=>by rw[MK]at oE;cases oE) hl hd hm,?_,λo=>by rw[xT,h.CZ o]⟩;intro d oE;rw[MK]at oE;rw[jn.1 oE];omega
def hH(e:Int):Int->List aR->Bool
 |cr,[]=>decide (cr<=e)
 |cr,c::cs=>decide (c.data≠[])&&decide (cr<=c.aP)&&hH e (c.aP+c.data.length) cs
theorem Tc{e cr:Int}{c:aR}{cs:List aR}(h:hH e cr (c::cs)):c.data≠[]/\cr<=c.aP/\hH e (c.aP+c.data.length) cs:=by
 simp only[hH,bm,bH]at h;exact⟨h.1.1,h.1.2,h.2⟩
theorem J9{e:Int}:∀{cs:List aR} {cr:Int},hH e cr cs->cr<=e
 |[],cr,h=>by simpa [hH]using h
 |c::cs,cr,h=>by obtain⟨h1,h2,ao⟩:=Tc h;have:=J9 ao;omega
theorem EG.Td{cr:Int}(h0:0<=cr){e:Int}(he:e<=4611686018427387903):∀(cs d2:List aR) (c3:Int) (f:Int->Int),cr<=c3->hH e c3 cs->EG cr c3 d2 f->
  EG cr e (cs.foldl r3 d2) (λo=>if f o=-1 then hM cs o else f o)
 |[],d2,c3,f,hl,ha,h=>by
  refine⟨h.EH,λc hc=>?_,λo=>?_⟩
  ·have:=h.nz c hc;have:=J9 ha;omega
  show hM d2 o=_;rw[h.CZ o];split
  ·rename_i g;rw[g];rfl
  rfl
 |c::cs,d2,c3,f,hl,ha,h=>by
  obtain⟨h1,h2,ao⟩:=Tc ha;have aH:=J9 ao;have bR:=EG.Td h0 he cs (r3 d2 c) _ _ ω ao (h.step c h0 ω h2 h1 ω);refine⟨bR.EH,bR.nz,λo=>?_⟩
  show hM (cs.foldl r3 (r3 d2 c)) o=_
  rw[bR.CZ o];by_cases g:f o=-1
  ·simp only[if_pos g,hM];by_cases b8:zp o c=true
   ·rw[if_pos b8];unfold qk;rw[if_pos b8,if_neg ω]
   rw[if_neg b8];unfold qk;rw[if_neg b8,if_pos rfl]
  simp only[if_neg g]
def rZ(off:Int)(data:List UInt8)(o:Int):Int:=(((data[(o-off).toNat]?).getD 0).toNat:Nat)
def q3(off:Int)(data:List UInt8)(low m:Int):aR:=⟨low,(data.drop (low-off).toNat).take ((m-off).toNat-(low-off).toNat)⟩
def abu(off hi:Int)(data:List UInt8)(low fB:Int)(ps:List aR):List aR:=
 if low<(if hi<fB then hi else fB)then ps++[q3 off data low (if hi<fB then hi else fB)]else ps
def Ki(off hi:Int)(data:List UInt8)(s:Int×List aR)(c:aR):Int×List aR:=
 (if c.aP+(c.data.length:Int)>s.1 then c.aP+(c.data.length:Int)else s.1,abu off hi data s.1 c.aP s.2++[c])
theorem abv{off:Int}{data:List UInt8}{low m:Int}(h1:off<=low)(h2:low<=m)(ao:m<=off+data.length):((q3 off data low m).data.length:Int)=m-low:=by
 simp only[q3,arJ,ar_];omega
theorem amE{off:Int}{data:List UInt8}{low m:Int}(h0:0<=off)(h1:off<=low)(h2:low<=m)(ao:m<=off+data.length)(o:Int):qk o (q3 off data low m)=if low<=o/\o<m then rZ off data o else -1:=by
 have hl:=abv h1 h2 ao;have aG:(q3 off data low m).aP=low:=rfl;by_cases h:low<=o/\o<m
 ·rw[if_pos h,Bv (by rw[hl,aG];omega),aG];unfold rZ
  show(((((data.drop (low-off).toNat).take ((m-off).toNat-(low-off).toNat))[(o-low).toNat]?).getD 0).toNat:Int)=_
  rw[List.getElem?_take,if_pos ω,List.getElem?_drop];rw[show(low-off).toNat+(o-low).toNat=(o-off).toNat from by omega]
 rw[if_neg h,NI (by rw[hl,aG];omega)]
theorem N_{c3 e:Int}(c:aR):∀(ps:List aR) (cr:Int),hH c3 cr ps->c3<=c.aP->c.data≠[]->c.aP+(c.data.length:Int)<=e->hH e cr (ps++[c])=true
 |[],cr,h,h1,h2,ao=>by
  have:=J9 h;simp only[cv,hH,bm,bH];exact⟨⟨h2,by omega⟩,ao⟩
 |d::ps,cr,h,h1,h2,ao=>by
  obtain⟨k1,k2,dd⟩:=Tc h;simp only[cx,hH,bm,bH];exact⟨⟨k1,k2⟩,N_ c ps _ dd h1 h2 ao⟩
theorem Tv(d2:List aR)(c:aR):∃l,(r3 d2 c).getLast?=some l/\l.aP+(l.data.length:Int)=c.aP+(c.data.length:Int):=by
 unfold r3;split
 ·split
  ·rename_i l hl h;exact⟨⟨l.aP,l.data++c.data⟩,by simp,by simp only[eh,atd];omega⟩
  exact⟨c,by simp,rfl⟩
 exact⟨c,by simp,rfl⟩
theorem amF{d2:List aR}{c l:aR}(h:d2.getLast?=some l)(h2:l.aP+(l.data.length:Int)=c.aP):(r3 d2 c).length=d2.length:=by
 unfold r3;rw[h];simp only[if_pos h2];have:=congrArg asy (aa0 h);simp only[eh,asq]at this⊢;omega
structure BA(n off hi mK:Int)(data:List UInt8)(ys:List aR)(nz low:Int)(ps:List aR):Prop where
 A8:hH nz n ps=true
 Ey:nz<=low
 G9:low=mK\/mK<low/\low=nz
 CZ:∀o,hM ps o=if hM ys o=-1 then(if mK<=o/\o<low/\o<hi then rZ off data o else -1)else hM ys o
 G_:((ps.length:Int)-ys.length) * 2<=low-mK/\((ps.length:Int)-ys.length) * 2<=hi+1-mK
 abw:low=mK->(r4 ps).length<=ys.length
 abx:(r4 ps).length<=ys.length+1
 amG:mK<low->∃l,(r4 ps).getLast?=some l/\l.aP+(l.data.length:Int)=low
theorem BA.amH{n off hi mK:Int}{data:List UInt8}{ys:List aR}{nz low:Int}{ps:List aR}(h:BA n off hi mK data ys nz low ps)(h0:0<=off)(sv:off<=mK)(G':hi<=off+data.length){m:Int}(hm:low<m)(zx:m<=hi) :
  hH m n (ps++[q3 off data low m])/\(∀o,hM (ps++[q3 off data low m]) o=if hM ys o=-1 then(if mK<=o/\o<m then rZ off data o else -1)else hM ys o)/\
  (r4 (ps++[q3 off data low m])).length<=ys.length+1/\∃l,(r4 (ps++[q3 off data low m])).getLast?=some l/\l.aP+(l.data.length:Int)=m:=by
 have Tw:mK<=low:=by rcases h.G9 with h|h<;>omega
 have gz:((q3 off data low m).data.length:Int)=m-low:=abv ω ω ω;have N':(q3 off data low m).aP=low:=rfl;refine⟨N_ _ ps n h.A8 (by rw[N'];exact h.Ey) (λg=>by rw[g]at gz;simp at gz;omega) (by rw[gz,N'];omega),λo=>?_,?_,?_⟩
 ·rw[xT,h.CZ o,amE h0 ω ω ω];by_cases g:hM ys o=-1
  ·simp only[if_pos g];by_cases b5:mK<=o/\o<low/\o<hi
   ·have:rZ off data o≠-1:=by unfold rZ;omega
    rw[if_pos b5,if_neg this,if_pos ⟨b5.1,by omega⟩]
   rw[if_neg b5,if_pos rfl];by_cases b8:low<=o/\o<m
   ·rw[if_pos b8,if_pos ω]
   rw[if_neg b8,if_neg ω]
  simp only[if_neg g]
 ·rw[EF];rcases h.G9 with hq|hq
  ·have:=h.abw hq;have:=NJ (r4 ps) (q3 off data low m);omega
  obtain⟨l,ak,ar⟩:=h.amG hq.1;rw[amF ak (by rw[ar,N'])];exact h.abx
 obtain⟨l,ak,ar⟩:=Tv (r4 ps) (q3 off data low m);exact⟨l,by rw[EF];exact ak,by rw[ar,gz,N'];omega⟩
theorem BA.step{n off hi mK:Int}{data:List UInt8}{ys:List aR}{nz low:Int}{ps:List aR}(h:BA n off hi mK data ys nz low ps)(h0:0<=off)(sv:off<=mK)(G':hi<=off+data.length)(hn:0<=n)
  (c:aR) (hc:nz<=c.aP) (hd:c.data≠[]) :
  BA n off hi mK data (ys++[c]) (c.aP+c.data.length) (Ki off hi data (low,ps) c).1 (Ki off hi data (low,ps) c).2:=by
 have Tw:mK<=low:=by rcases h.G9 with h|h<;>omega
 have yg:0<c.data.length:=aq_.2 hd;have hne:n<=nz:=J9 h.A8;unfold Ki abu;simp only;generalize hm:(if hi<c.aP then hi else c.aP)=m;have amI:m<=hi/\m<=c.aP/\(m=hi\/m=c.aP):=by rw[<-hm];split<;>omega
 have amJ:(if c.aP+(c.data.length:Int)>low then c.aP+(c.data.length:Int)else low)=max low (c.aP+c.data.length):=by split<;>omega
 rw[amJ];by_cases hp:low<m
 ·rw[if_pos hp];obtain⟨dP,dO,ih,l,mb,xF⟩:=h.amH h0 sv G' hp amI.1;have MJ:(ps++[q3 off data low m]).length=ps.length+1:=by simp
  generalize ps++[q3 off data low m]=qs at dP dO ih mb MJ⊢;have R8:max low (c.aP+c.data.length)=c.aP+c.data.length:=by omega
  rw[R8];refine⟨N_ c qs n dP ω hd (atA _),by omega,.inr ⟨by omega,rfl⟩,λo=>?_,?_,λg=>by omega,?_,λ_=>?_⟩
  ·rw[xT,xT,dO o];by_cases g:hM ys o=-1
   ·simp only[if_pos g];by_cases b5:mK<=o/\o<m
    ·have bD:rZ off data o≠-1:=by unfold rZ;omega
     rw[if_pos b5,if_neg bD,NI ω,if_pos rfl,if_pos ω]
    rw[if_neg b5,if_pos rfl];by_cases b8:qk o c=-1
    ·rw[if_pos b8,b8,if_neg];intro dI;rw[Bv ω]at b8;omega
    rw[if_neg b8]
   simp only[if_neg g]
  ·have:=h.G_;simp only[eh,asq,MJ];omega
  ·rw[EF];have:=NJ (r4 qs) c;simp only[eh,asq];omega
  rw[EF];exact Tv _ _
 rw[if_neg hp];refine⟨N_ c ps n h.A8 hc hd (atA _),by omega,?_,λo=>?_,?_,λg=>?_,?_,λg=>?_⟩
 ·by_cases g:low<c.aP+c.data.length
  ·right;omega
  left;rcases h.G9 with b8|b8<;>omega
 ·rw[xT,xT,h.CZ o];by_cases g:hM ys o=-1
  ·simp only[if_pos g];by_cases b5:mK<=o/\o<low/\o<hi
   ·have bD:rZ off data o≠-1:=by unfold rZ;omega
    rw[if_pos b5,if_neg bD,NI (by rcases h.G9 with b8|b8<;>omega),if_pos rfl,if_pos ω]
   rw[if_neg b5,if_pos rfl];by_cases b8:qk o c=-1
   ·rw[if_pos b8,b8,if_neg];intro dI;rw[Bv ω]at b8;omega
   rw[if_neg b8]
  simp only[if_neg g]
 ·have:=h.G_;simp only[eh,asq];omega
 ·rw[EF];have:=NJ (r4 ps) c;have:=h.abw ω;simp only[eh,asq];omega
 ·rw[EF];have:=NJ (r4 ps) c;have:=h.abx;simp only[eh,asq];omega
 rw[EF];obtain⟨l,ak,ar⟩:=Tv (r4 ps) c;exact⟨l,ak,by rcases h.G9 with b8|b8<;>omega⟩
theorem BA.Td{n off hi mK:Int}{data:List UInt8}(h0:0<=off)(sv:off<=mK)(G':hi<=off+data.length)(hn:0<=n):∀(cs ys:List aR) (nz low cr:Int) (ps:List aR),BA n off hi mK data ys nz low ps->jL cr cs->nz<=cr->
  ∃Oa,BA n off hi mK data (ys++cs) Oa (cs.foldl (Ki off hi data) (low,ps)).1 (cs.foldl (Ki off hi data) (low,ps)).2/\(∀E,nz<=E->(∀c∈cs,c.aP+(c.data.length:Int)<=E)->Oa<=E)
 |[],ys,nz,low,cr,ps,h,_,_=>⟨nz,by simpa using h,λE h _=>h⟩
 |c::cs,ys,nz,low,cr,ps,h,hc,hl=>by
  obtain⟨h1,h2,ao,aH⟩:=FG hc;have hs:=h.step h0 sv G' hn c ω h1;obtain⟨Oa,k1,k2⟩:=BA.Td h0 sv G' hn cs (ys++[c]) _ _ _ _ hs aH ω;refine⟨Oa,?_,λE b5 b8=>k2 E (b8 c ξ) λd hd=>b8 d (by simp[hd])⟩;rw[ah_]at k1;exact k1
def SM:List (List bK):=cB 13 [1564802,1564800,1592104,1592122,1592059,1591897,1591411,1593229,1587766,1574644,1535274,1417176,1062882]
attribute [go_sem] SM
def rv(n off:Int):Int:=if n>off then n else off
def qX(xs:List aR)(off:Int)(data:List UInt8)(o:Int):Int:=if hM xs o<0 then rZ off data o else hM xs o
def qF(xs:List aR)(off:Int)(data:List UInt8)(cr:Int)(k:Nat):List UInt8:=(pv k).map λj=>p4 (qX xs off data (cr+(j:Nat)))
def xR(xs:List aR)(off:Int)(data:List UInt8)(r:ab):aR:=⟨r.low,qF xs off data r.low (r.high-r.low).toNat⟩
def z8(n:Int)(xs:List aR)(off:Int)(data:List UInt8):List ab:=f' (nW xs) ⟨rv n off,off+data.length⟩
def FH(n:Int)(xs:List aR)(off:Int)(data:List UInt8):Bool:=lR ⟨n,xs⟩&&decide (data≠[])&&decide (rv n off<off+data.length)
def pX(n:Int)(xs:List aR)(off:Int)(data:List UInt8):List aR:=
 if FH n xs off data=true then(z8 n xs off data).map (xR xs off data)else xs
theorem aav(xs:List aR)(off:Int)(data:List UInt8)(cr:Int)(k:Nat):qF xs off data cr (k+1)=qF xs off data cr k++[p4 (qX xs off data (cr+(k:Nat)))]:=by
 simp[qF,atq]
theorem PV(xs:List aR)(off:Int)(data:List UInt8)(cr:Int)(k:Nat):(qF xs off data cr k).length=k:=by simp[qF]
def aaw(rs:List ab)(q y:ab):Prop:=∀a,y.low<=a->a<y.high->(∃x∈rs,x.low<=a/\a<x.high)\/(q.low<=a/\a<q.high)
def BV(E:Int)(y:ab):Prop:=0<=y.low/\y.low<=E/\y.high<=E
theorem aax(Q:ab->Prop)(rs:List ab)(q:ab)(hq:Q q)(hx:∀x∈rs,Q x)(hm:∀a b:ab,Q a->Q b->¬b.high<a.low->¬a.high<b.low->Q ⟨cu a.low b.low,dJ a.high b.high⟩) :
  ∀i,(∀y∈(ir rs q i).1,Q y)/\Q (ir rs q i).2.2
 |0=>⟨(λy hy=>by cases hy),hq⟩
 |i+1=>by
  obtain⟨h1,h2⟩:=aax Q rs q hq hx hm i;rw[ir];split
  ·rename_i x he;have pd:=hx x (arW he);unfold nv;split
   ·refine⟨λy hy=>?_,h2⟩;rcases e7.1 hy with hy|hy
    ·exact h1 y hy
    rw[jn.1 hy];exact pd
   rename_i b5;split
   ·refine⟨λy hy=>?_,h2⟩;rcases e7.1 hy with hy|hy
    ·split at hy
     ·exact h1 y hy
     rcases e7.1 hy with hy|hy
     ·exact h1 y hy
     rw[jn.1 hy];exact h2
    rw[jn.1 hy];exact pd
   rename_i b8;exact⟨h1,hm _ _ h2 pd b5 b8⟩
  exact⟨h1,h2⟩
theorem SN(Q:ab->Prop)(rs:List ab)(q:ab)(hq:Q q)(hx:∀x∈rs,Q x)(hm:∀a b:ab,Q a->Q b->¬b.high<a.low->¬a.high<b.low->Q ⟨cu a.low b.low,dJ a.high b.high⟩):∀y∈f' rs q,Q y:=by
 obtain⟨h1,h2⟩:=aax Q rs q hq hx hm rs.length;unfold f';split
 ·split
  ·exact h1
  intro y hy;rcases e7.1 hy with hy|hy
  ·exact h1 y hy
  rw[jn.1 hy];exact h2
 exact hx
theorem alo(rs:List ab)(q:ab):∀y∈f' rs q,aaw rs q y:=by
 refine SN _ rs q (λa h1 h2=>.inr ⟨h1,h2⟩) (λx hx a h1 h2=>.inl ⟨x,hx,h1,h2⟩) λa b ha hb b5 b8 c h1 h2=>?_;simp only[cu,dJ]at h1 h2;by_cases k:a.low<=c/\c<a.high
 ·exact ha c k.1 k.2
 refine hb c ?_ ?_<;>(split at h1<;>split at h2<;>omega)
theorem PU(E:Int)(rs:List ab)(q:ab)(hq:BV E q)(hx:∀x∈rs,BV E x):∀y∈f' rs q,BV E y:=by
 refine SN _ rs q hq hx λa b ha hb b5 b8=>?_;simp only[BV,cu,dJ]at *;refine⟨?_,?_,?_⟩<;>split<;>omega
theorem SO(o:Int):∀(cs:List aR),(∀c∈cs,0<=c.aP)->∀x∈nW cs,x.low<=o->o<x.high->0<=hM cs o
 |[],_,x,hx,_,_=>by cases hx
 |c::cs,h0,x,hx,h1,h2=>by
  rw[hM];by_cases g:zp o c=true
  ·rw[if_pos g];omega
  rw[if_neg g];rcases rD.1 hx with rfl|hx
  ·exact absurd ((FD _ _).2 ⟨by have:=h0 c ξ;simp only at h1;omega,h0 c ξ,h1,by simp only at h2;omega⟩) g
  exact SO o cs (λd hd=>h0 d (by simp[hd])) x hx h1 h2
theorem aay(o:Int):∀(cs:List aR),hM cs o<256
 |[]=>by simp[hM]
 |c::cs=>by
  rw[hM];split
  ·have:=((c.data[(o-c.aP).toNat]?).getD 0).toNat_lt;omega
  exact aay o cs
theorem Ns(xs:List aR)(off:Int)(data:List UInt8)(o:Int):0<=qX xs off data o/\qX xs off data o<=255:=by
 unfold qX;have:=aay o xs;split
 ·unfold rZ;have:=((data[(o-off).toNat]?).getD 0).toNat_lt;omega
 omega
theorem alp(n:Int)(xs:List aR)(off:Int)(data:List UInt8)(hb:∀c∈xs,c.data.length<=1048576)(hx:xs.length<=1048575)(ah:∀c∈xs,c.aP<=1000/\c.aP+(c.data.length:Int)<=1000)(hd:data.length<=8)(aG:0<=off)(j8:off+(data.length:Int)<=1000):aM 335 [.agg [.i n,.azB xs],.one (.i off),.one (.str data)] [.agg [.i n,.azB (pX n xs off data)]]:=by
 refine aW 105 func335 call335 [.cell 6 68] ?_;intro ok;have Lk:xs.length<=1048576:=by omega
 have zG:xs.length<=1048577:=by omega
 have ar:=bn (p:=off<0) ω;have hw:i64.wrap (4611686018427387903-(data.length:Int))=4611686018427387903-(data.length:Int):=by rw[bw]<;>omega
 have a4:=bn (p:=4611686018427387903-(data.length:Int)<off) ω;have jx:i64.wrap (off+(data.length:Int))=off+(data.length:Int):=by rw[bw]<;>omega
 cases aE:lR ⟨n,xs⟩with
 |false=>
  have dm:pX n xs off data=xs:=by unfold pX FH;rw[aE];rfl
  try simp only[go_sem]
  repeat'(first|((first|refine af.intro (by first|(apply rr<;>exact aT)|(apply BX<;>exact aT)) ?_|with_reducible apply dp)<;>simp only[go_sem,I,aE])|refine⟨ae7,?_⟩|fail)
  all_goals(rw[dm];try simp)
 |true=>
 obtain⟨BU,yh,BW⟩:=PY aE;by_cases Es:data=[]
 ·have ak:=br (p:=data=[]) Es;have dm:pX n xs off data=xs:=by unfold pX FH;simp[Es]
  try simp only[go_sem]
  repeat'(first|((first|refine af.intro (by first|(apply rr<;>exact aT)|(apply BX<;>exact aT)) ?_|with_reducible apply cG|with_reducible apply dp)<;>simp only[go_sem,I,aE,ak])|refine⟨ae7,?_⟩|fail)
  all_goals(rw[dm];try simp)
 have ak:=bn (p:=data=[]) Es;obtain⟨low,d'⟩:∃low,(if n>off then n else off)=low:=⟨_,rfl⟩;have sv:off<=low/\0<=low:=by rw[<-d'];split<;>omega
 by_cases bu:off+(data.length:Int)<=low
 ·have bP:=br (p:=off+(data.length:Int)<=low) bu;have dm:pX n xs off data=xs:=by unfold pX FH rv;rw[d',bn (show ¬low<off+(data.length:Int)by omega)];simp
  try simp only[go_sem]
  repeat'(first|((first|refine af.intro (by first|(apply rr<;>exact aT)|(apply BX<;>exact aT)) ?_|with_reducible apply cG)<;>simp only[go_sem,I,aE,ak,ar,hw,a4,jx,d',bP])|refine⟨ae7,?_⟩|fail)
  all_goals(rw[dm];try simp)
 have bP:=bn (p:=off+(data.length:Int)<=low) bu;have dm:pX n xs off data=(z8 n xs off data).map (xR xs off data):=by
  unfold pX FH rv;rw[d',aE,br Es,br (show low<off+(data.length:Int)by omega)];rfl
 have alq:(z8 n xs off data).length<=1048576:=by
  have:=HR (nW xs) ⟨rv n off,off+data.length⟩;rw[Lh]at this;unfold z8;omega
 have SP:∀y∈z8 n xs off data,aaw (nW xs) ⟨low,off+data.length⟩ y:=by
  unfold z8 rv;rw[d'];exact alo _ _
 have SQ:∀y∈z8 n xs off data,BV 1000 y:=by
  refine PU 1000 _ _ ⟨by unfold rv;rw[d'];exact sv.2,by unfold rv;rw[d'];show low<=1000;omega,j8⟩ λx hx=>?_;obtain⟨c,hc,rfl⟩:=aa_.1 hx;have:=zt _ _ BW c hc;have:=ah c hc;exact⟨by show 0<=c.aP;omega,this.1,this.2⟩
 have aaz:f' (nW xs) ⟨low,off+(data.length:Int)⟩=z8 n xs off data:=by unfold z8 rv;rw[d']
 have aaA:FF n xs=nW xs:=by unfold FF;rw[if_pos aE]
 have qG:(nW xs).length<=1048576:=by rw[Lh];omega
 try simp only[go_sem]
 repeat'((first|refine af.intro (by first|(apply rr<;>exact aT)|(apply afI<;>exact aT)|(apply sq<;>exact aT)) ?_|with_reducible apply cG)<;>simp only[go_sem,I,aE,ak,ar,hw,a4,jx,d',bP,aaA,aaz])
 generalize z8 n xs off data=R at dm alq SP SQ;refine cb.intro (λi:Nat=>match i with
   |0=>⟨(.agg [.i n,.d (.azB xs)]::.i off::.d (.str data)::.ptr 0 0 0::.an::.an::.ptr 1 0 0::.i low::.i (off+(data.length:Int))::.ptr 2 0 0::.sl 3 0 R.length::.i 0::aA 93 []),[.box [.i n,.d (.azB xs)],.box [.i 0,.eg 2],.box [.i n,.eg 2],.azv R]⟩
   |i+1=>⟨(.agg [.i n,.d (.azB xs)]::.i off::.d (.str data)::.ptr 0 0 0::.an::.an::.ptr 1 0 0::.i low::.i (off+(data.length:Int))::.ptr 2 0 0::.sl 3 0 R.length::.i ((i+1:Nat):Int)::aA 93 []),[.box [.i n,.d (.azB xs)],.box [.i 0,.eg 2],.box [.i n,.sl 4 0 (i+1)],.azv R,.ay 2 (((R.take (i+1)).map (xR xs off data)).map aR.enc) true]⟩)
  (λi=>R.length-i) (λi=>i<=R.length) 0 [0,1,2,4] ω ?_ ?_
 ·simp only[go_sem];simp
 intro i hi
 cases i with
 |zero=>
  simp only[go_sem];refine bX (λh1=>?_) (λh1=>?_)
  ·have aq:=cY h1;have hlt:0<R.length:=by omega
   have Bs:=b_ ab.enc R 0 hlt;have SR:=SQ R[0] (eK hlt);have SS:=SP R[0] (eK hlt);have JV:=d8 (i:=0) (m:=R.length) hlt (by simp only[maxLen];omega);obtain⟨mg,xz⟩:∃mg,(R[0].high-R[0].low).toNat=mg:=⟨_,rfl⟩;have hin:=SR;simp only[BV]at hin;simp only[go_sem,I,gM,Bs,ab.enc]
   repeat(with_reducible refine atp ω ?_)
   try simp only[go_sem]
   refine cb.intro (λk:Nat=>⟨(.agg [.i n,.d (.azB xs)]::.i off::.d (.str data)::.ptr 0 0 0::.an::.an::.ptr 1 0 0::.i low::.i (off+(data.length:Int))::.ptr 2 0 0::.sl 3 0 R.length::.i 0::.d (.str (qF xs off data R[0].low k))::.i (R[0].low+(k:Nat))::aA 91 []),[.box [.i n,.d (.azB xs)],.box [.i 0,.eg 2],.box [.i n,.eg 2],.azv R]⟩)
    (λk=>mg-k) (λk=>k<=mg) 0 [0,1,2,3] ω ?_ ?_
   ·simp only[go_sem];simp[qF]
   intro k hk;simp only[go_sem,I,gM,Bs,ab.enc]
   repeat(with_reducible refine atp ω ?_)
   try simp only[go_sem]
   have sw:=PV xs off data R[0].low k;refine bX (λao=>?_) (λao=>?_)
   ·have GP:=cY ao;have JW:=aav xs off data R[0].low k;have qD:i64.wrap (R[0].low+(k:Int)+1)=R[0].low+((k+1:Nat):Int):=by rw[bw]<;>omega
    simp only[go_sem];refine af.intro (Wb n xs (R[0].low+(k:Int)) hb Lk) ?_;simp only[go_sem];refine bX (λaH=>?_) (λaH=>?_)
    ·have mh:=cY aH;have Nt:low<=R[0].low+(k:Int)/\R[0].low+(k:Int)<off+(data.length:Int):=by
      rcases SS (R[0].low+(k:Int)) ω ω with ⟨x,SU,b5,b8⟩|g
      ·have:=SO (R[0].low+(k:Int)) xs (λc hc=>by have:=zt _ _ BW c hc;omega) x SU b5 b8;omega
      exact g
     have Ix:i64.wrap (R[0].low+(k:Int)-off)=(((R[0].low+(k:Int)-off).toNat:Nat):Int):=by rw[bw]<;>omega
     have Bg:(R[0].low+(k:Int)-off).toNat<data.length:=by omega
     have JX:data[(R[0].low+(k:Int)-off).toNat]?=some data[(R[0].low+(k:Int)-off).toNat]:=cy Bg;have hv:((data[(R[0].low+(k:Int)-off).toNat].toNat:Nat):Int)=qX xs off data (R[0].low+(k:Int)):=by unfold qX rZ;rw[if_pos mh,JX];rfl
     have FE:i64.wrap ((data[(R[0].low+(k:Int)-off).toNat].toNat:Nat):Int)=qX xs off data (R[0].low+(k:Int)):=by
      have:=data[(R[0].low+(k:Int)-off).toNat].toNat_lt;rw[<-hv,bw]<;>omega
     try simp only[go_sem,Ix,JX,FE,aF,kk]
     repeat'(first|refine⟨ae7,?_⟩|fail)
     refine af.intro (JY _ (Ns xs off data _)) ?_
     try simp only[go_sem,qD,sw]
     repeat'(first|refine⟨ae7,?_⟩|fail)
     all_goals(
      try(with_reducible refine atp (by simp only[maxLen];omega) ?_)
      refine bt.intro (k+1) [0,1,2,3] ω ω ?_;simp only[go_sem,JW]
      try simp)
    ·have mh:=de aH;have hv:hM xs (R[0].low+(k:Int))=qX xs off data (R[0].low+(k:Int)):=by unfold qX;rw[if_neg mh]
     simp only[go_sem,hv];refine af.intro (JY _ (Ns xs off data _)) ?_
     try simp only[go_sem,qD,sw]
     repeat'(first|refine⟨ae7,?_⟩|fail)
     all_goals(
      try(with_reducible refine atp (by simp only[maxLen];omega) ?_)
      refine bt.intro (k+1) [0,1,2,3] ω ω ?_;simp only[go_sem,JW]
      try simp)
   have GP:=de ao;have GY:k=mg:=by omega
   have JI:xR xs off data R[0]=⟨R[0].low,qF xs off data R[0].low k⟩:=by unfold xR;rw[xz,GY]
   have b4:((R.take (0+1)).map (xR xs off data)).map aR.enc=((R.take 0).map (xR xs off data)).map aR.enc++[[.i R[0].low,.str (qF xs off data R[0].low k)]]:=by
    rw[gO,cy hlt,ast,arO,arO,atY,atY,JI];rfl
   try simp only[go_sem]
   repeat'(first|(refine a7 SM χ ψ ?_<;>simp only[go_sem,I,gM,Bs,ab.enc])|refine⟨ae7,?_⟩|fail)
   all_goals(
    refine bt.intro (0+1) [0,1,2,3,5] ω ω ?_;simp only[go_sem,b4];simp
    try first|decide|omega)
  have aq:=de h1
  try simp only[go_sem]
  all_goals(have Nu:R=[]:=arN.1 ω;rw[dm,Nu];try simp)
 |succ i=>
  simp only[go_sem];refine bX (λh1=>?_) (λh1=>?_)
  ·have aq:=cY h1;have hlt:i+1<R.length:=by omega
   have Bs:=b_ ab.enc R (i+1) hlt;have SR:=SQ R[i+1] (eK hlt);have SS:=SP R[i+1] (eK hlt);have JV:=d8 (i:=(i+1)) (m:=R.length) hlt (by simp only[maxLen];omega);obtain⟨mg,xz⟩:∃mg,(R[i+1].high-R[i+1].low).toNat=mg:=⟨_,rfl⟩;have hin:=SR;simp only[BV]at hin;simp only[go_sem,I,aF,Bs,ab.enc]
   repeat(with_reducible refine atp ω ?_)
   try simp only[go_sem]
   refine cb.intro (λk:Nat=>⟨(.agg [.i n,.d (.azB xs)]::.i off::.d (.str data)::.ptr 0 0 0::.an::.an::.ptr 1 0 0::.i low::.i (off+(data.length:Int))::.ptr 2 0 0::.sl 3 0 R.length::.i ((i+1:Nat):Int)::.d (.str (qF xs off data R[i+1].low k))::.i (R[i+1].low+(k:Nat))::aA 91 []),[.box [.i n,.d (.azB xs)],.box [.i 0,.eg 2],.box [.i n,.sl 4 0 (i+1)],.azv R,.ay 2 (((R.take (i+1)).map (xR xs off data)).map aR.enc) true]⟩)
    (λk=>mg-k) (λk=>k<=mg) 0 [0,1,2,3,4] ω ?_ ?_
   ·simp only[go_sem];simp[qF]
   intro k hk;simp only[go_sem,I,aF,Bs,ab.enc]
   repeat(with_reducible refine atp ω ?_)
   try simp only[go_sem]
   have sw:=PV xs off data R[i+1].low k;refine bX (λao=>?_) (λao=>?_)
   ·have GP:=cY ao;have JW:=aav xs off data R[i+1].low k;have qD:i64.wrap (R[i+1].low+(k:Int)+1)=R[i+1].low+((k+1:Nat):Int):=by rw[bw]<;>omega
    simp only[go_sem];refine af.intro (Wb n xs (R[i+1].low+(k:Int)) hb Lk) ?_;simp only[go_sem];refine bX (λaH=>?_) (λaH=>?_)
    ·have mh:=cY aH;have Nt:low<=R[i+1].low+(k:Int)/\R[i+1].low+(k:Int)<off+(data.length:Int):=by
      rcases SS (R[i+1].low+(k:Int)) ω ω with ⟨x,SU,b5,b8⟩|g
      ·have:=SO (R[i+1].low+(k:Int)) xs (λc hc=>by have:=zt _ _ BW c hc;omega) x SU b5 b8;omega
      exact g
     have Ix:i64.wrap (R[i+1].low+(k:Int)-off)=(((R[i+1].low+(k:Int)-off).toNat:Nat):Int):=by rw[bw]<;>omega
     have Bg:(R[i+1].low+(k:Int)-off).toNat<data.length:=by omega
     have JX:data[(R[i+1].low+(k:Int)-off).toNat]?=some data[(R[i+1].low+(k:Int)-off).toNat]:=cy Bg;have hv:((data[(R[i+1].low+(k:Int)-off).toNat].toNat:Nat):Int)=qX xs off data (R[i+1].low+(k:Int)):=by unfold qX rZ;rw[if_pos mh,JX];rfl
     have FE:i64.wrap ((data[(R[i+1].low+(k:Int)-off).toNat].toNat:Nat):Int)=qX xs off data (R[i+1].low+(k:Int)):=by
      have:=data[(R[i+1].low+(k:Int)-off).toNat].toNat_lt;rw[<-hv,bw]<;>omega
     try simp only[go_sem,Ix,JX,FE,aF,kk]
     repeat'(first|refine⟨ae7,?_⟩|fail)
     refine af.intro (JY _ (Ns xs off data _)) ?_
     try simp only[go_sem,qD,sw]
     repeat'(first|refine⟨ae7,?_⟩|fail)
     all_goals(
      try(with_reducible refine atp (by simp only[maxLen];omega) ?_)
      refine bt.intro (k+1) [0,1,2,3,4] ω ω ?_;simp only[go_sem,JW]
      try simp)
    ·have mh:=de aH;have hv:hM xs (R[i+1].low+(k:Int))=qX xs off data (R[i+1].low+(k:Int)):=by unfold qX;rw[if_neg mh]
     simp only[go_sem,hv];refine af.intro (JY _ (Ns xs off data _)) ?_
     try simp only[go_sem,qD,sw]
     repeat'(first|refine⟨ae7,?_⟩|fail)
     all_goals(
      try(with_reducible refine atp (by simp only[maxLen];omega) ?_)
      refine bt.intro (k+1) [0,1,2,3,4] ω ω ?_;simp only[go_sem,JW]
      try simp)
   have GP:=de ao;have GY:k=mg:=by omega
   have JI:xR xs off data R[i+1]=⟨R[i+1].low,qF xs off data R[i+1].low k⟩:=by unfold xR;rw[xz,GY]
   have b4:((R.take ((i+1)+1)).map (xR xs off data)).map aR.enc=((R.take (i+1)).map (xR xs off data)).map aR.enc++[[.i R[i+1].low,.str (qF xs off data R[i+1].low k)]]:=by
    rw[gO,cy hlt,ast,arO,arO,atY,atY,JI];rfl
   try simp only[go_sem,I,JV]
   repeat'(first|(refine a7 SM χ ψ ?_<;>simp only[go_sem,I,aF,Bs,ab.enc,JV])|refine⟨ae7,?_⟩|fail)
   all_goals(
    refine bt.intro (i+1+1) [0,1,2,3,6] ω ω ?_;simp only[go_sem,b4];simp
    try first|decide|omega)
  have aq:=de h1
  try simp only[go_sem]
  all_goals(have Nu:R.length=i+1:=ω;rw[eA (asN Nu),dm];try simp[outOA,Nu,eA])
def U4:List (List bK):=cB 54 [58149737003040059690380331,58149737003040059690380329,58149737003040059690380363,58149737003040059690380345,58149737003040059690380651,58149737003040059690380489,58149737003040059690389804,58149737003040059690388346,58149737003040059690383972,58149737003040059690370486,58149737003040059690331120,58149737003040059628034425,58149737003040059627680131,58149737003040059626617249,58149737003040059687910111,58149737003040059678344173,58149737003040059649646359,58149737003040059561250006,58149737003040059302969680,58149737003040058528128702,58149737003039930679367332,58149737003039923705798530,58149737003040042256468164,58149737003039979494348946,58149737003039777260853688,58149737003039212401780726,58149737003037517824561840,58149737003032434092905182,58149737002193618369556612,58149737002147864784646690,58149737002925675728115364,58149737002513893463926066,58149737001187039501538328,58149736997480999123834646,58149736986362877990723600,58149736953008514591390462,58149736852945424393391048,58149736552756153799392806,58149735652188342017398080,58149732950484906671413902,58149724845374600633461368,58149372273076287982526139,58149299327083533640953333,58149554638058173836458154,58148752232137876079157288,58146782690333508856691526,58140874064920407189294240,57165950871758632068742050,57112773243040717062166476,58016792931245272173951234,57538194272784037114771068,55996043039964501924079422,51688655113813386391457928,38766491335360039793593446]
attribute [go_sem] U4
def Ay(s:aD):Int:=
 if s.aS=3/\s.aB.base=s.aB.bS then 3
 else if(s.aS=2\/s.aS=3)\/(s.aS=1/\s.bp=2)then 2
 else if 0<s.b0\/(s.aS=1/\s.bp=1)then 1 else 0
theorem Dl(bb bh bj ba:Int)(a8:List Int)(aN aJ aO:List ab)(bd a_ a9 bk:Int):aM 142 [.agg [.i bb,.i bh,.i bj,.i ba,.sl 1 (a8.map bg),.azA aN,.azA aJ,.azA aO,.i bd,.i a_,.i a9,.i bk]] [.one (.i (Ay (⟨bb,⟨bh,bj,ba,a8⟩,aN,aJ,aO,bd,a_,a9,bk⟩:aD)))]:=by
 refine aW 49 func142 call142 [.tmp 2] ?_;intro _
 try simp only[go_sem]
 repeat'((first|apply bo|refine bX (λh=>?_) (λh=>?_))<;>simp only[go_sem])
 all_goals(simp at *;simp only[Ay];repeat' split)
 all_goals first|rfl|(exfalso;grind)
def zg(xs:List ab)(p:Int):Bool:=match xs.getLast? with|some r=>decide (p<r.high)|none=>false
theorem U5(xs:List ab)(p:Int):aM 147 [.one (.azA xs),.one (.i p)] [.one (.bool (zg xs p))]:=by
 refine aW 19 func147 call147 [.tmp 4] ?_;intro ok;have hm:=gw ok;by_cases h:xs.length=0
 ·have ak:=bn (p:=(0:Int)<(xs.length:Int)) ω
  try simp only[go_sem,I,ak]
  repeat'(first|(with_reducible apply dp<;>simp only[go_sem]))
  all_goals simp[zg,arN.1 h]
 have ak:=br (p:=(0:Int)<(xs.length:Int)) ω;have hl:xs.length-1<xs.length:=by omega
 have az:=b_ ab.enc xs (xs.length-1) hl;have eP:i64.wrap ((xs.length:Int)-1)=((xs.length-1:Nat):Int):=by simp only[maxLen]at hm;rw[bw]<;>omega
 have U6:xs.getLast?=some xs[xs.length-1]:=by rw[atm,cy hl]
 try simp only[go_sem,I,ak]
 repeat'(first|(with_reducible apply cG<;>simp only[go_sem,I,eP,az,ab.enc,aF])|refine⟨ae7,?_⟩|fail)
 all_goals simp[zg,U6]
def E7(a b c:List ab)(e:Int):Bool:=
 decide (i64.wrap (i64.wrap (jH a+jH b)+jH c)=e)&&decide (jH (eD a (b++c))=e)&&!zg (eD a (b++c)) e
theorem aeB(a b c:List ab)(e:Int)(hc:a.length+b.length+c.length<=524288):aM 146 [.one (.azA a),.one (.azA b),.one (.azA c),.one (.i e)] [.one (.bool (E7 a b c e))]:=by
 refine aW 47 func146 call146 [.tmp 8] ?_;intro ok;cases ak:decide (i64.wrap (i64.wrap (jH a+jH b)+jH c)≠e)
 ·have iq:i64.wrap (i64.wrap (jH a+jH b)+jH c)=e:=by have:=de ak;omega
  try simp only[go_sem]
  repeat'(first|(refine af.intro (by first|apply OO|(apply LB<;>exact aT)) ?_<;>simp only[go_sem,I,ak])|refine⟨ae7,?_⟩|fail)
  refine cb.intro (λi:Nat=>⟨(aA 3 (.i e::aA 4 (.d (.bool false)::.sl 0 0 (eD a ((b++c).take i)).length::aA 17 (.sl 1 0 (b++c).length::.d (.i (b++c).length)::.i i::aA 17 [])))),[.ay 2 ((eD a ((b++c).take i)).map ab.enc) true,.azv (b++c)]⟩)
   (λi=>(b++c).length-i) (λi=>i<=(b++c).length) 0 [0,2] ω ?_ ?_
  ·simp only[go_sem];simp[eD]
  intro i hi;generalize CO:b++c=l at *;have hl:l.length=b.length+c.length:=by rw[<-CO];simp
  have d':=qq (l.take i) a;have cR:(l.take i).length=i:=by simp;omega
  by_cases h1:i<l.length
  ·have aq:=aro (i:=i) (n:=l.length);have az:=b_ ab.enc l i h1;have hw:=d8 (i:=i) (m:=524288) ω (by simp[maxLen]);have b4:=Au a l i h1;generalize hq:eD a (l.take i)=cJ at *
   try simp only[go_sem,I,aF,az,ab.enc,aq]
   repeat'(first|(refine af.intro (by(apply HS<;>exact aT)) ?_<;>simp only[go_sem,I])|refine⟨ae7,?_⟩|fail)
   refine bt.intro (i+1) [3,1] ω ω ?_;simp only[go_sem,hw,b4];simp
  obtain⟨aq,rfl⟩:=arn (i:=i) (n:=l.length)
  try simp only[go_sem,I,aq,da]
  repeat'((first|refine af.intro (by apply OO) ?_|refine av.intro (by apply U5) ?_|apply bo)<;>simp only[go_sem,I])
  all_goals(apply fu;simp[E7,CO,iq])
 have iq:=cY ak
 try simp only[go_sem]
 repeat'(refine af.intro (by apply OO) ?_<;>simp only[go_sem,ak])
 all_goals simp[E7,iq]
def Hx(s:aD):Int:=if s.aS=0 then -1 else s.aB.bS
def OY(s:aD):Bool:=E7 s.bC s.bc s.bJ s.aB.bS&&decide (jc s.bJ 0=s.aB.base)&&!zg s.bc s.b0&&!zg s.bJ s.b0&&decide (s.cS=0)&&decide (s.bf=Hx s)&&decide (s.bp=Ay s)
def zh(s:aD):Bool:=lK s&&(if jD s then Km s else OY s)
theorem U7(bb bh bj ba:Int)(a8:List Int)(aN aJ aO:List ab)(bd a_ a9 bk:Int)(hc:aN.length+aJ.length+aO.length<=524288):aM 85 [.agg [.i bb,.i bh,.i bj,.i ba,.sl 1 (a8.map bg),.azA aN,.azA aJ,.azA aO,.i bd,.i a_,.i a9,.i bk]] [.one (.bool (zh (⟨bb,⟨bh,bj,ba,a8⟩,aN,aJ,aO,bd,a_,a9,bk⟩:aD)))]:=by
 refine aW 161 func85 call85 [.tmp 2] ?_;intro ok;refine Aq λOU OV=>?_;simp only[go_sem];refine OV _ (Aq λK2 OW=>?_)
 try simp only[go_sem]
 repeat'((first|refine af.intro (by apply Hu) ?_|refine av.intro (by first|apply Dd|apply j7|apply pW) ?_|apply bo)<;>simp only[go_sem])
 refine bX (λh0=>?_) (λh0=>?_)
 ·simp only[go_sem];have:lK (⟨bb,⟨bh,bj,ba,a8⟩,aN,aJ,aO,bd,a_,a9,bk⟩:aD)=false:=by
   rw[Bool.eq_false_iff];intro g;simp[lK]at h0 g;simp_all
  simp[zh,this]
 ·have ep:lK (⟨bb,⟨bh,bj,ba,a8⟩,aN,aJ,aO,bd,a_,a9,bk⟩:aD):=by
   simp[lK]at h0⊢;simp_all
  simp only[go_sem];refine OW _ (Aq λaqy OX=>?_)
  try simp only[go_sem]
  repeat'(apply bo<;>simp only[go_sem])
  refine bX (λa1=>?_) (λa1=>?_)
  ·have fO:jD (⟨bb,⟨bh,bj,ba,a8⟩,aN,aJ,aO,bd,a_,a9,bk⟩:aD):=by simpa [jD,d1]using a1
   simp only[go_sem,I]
   try simp only[go_sem,I]
   repeat'(apply bo<;>simp only[go_sem,I])
   all_goals(apply fu;simp[zh,ep,fO,Km];grind)
  have fO:jD (⟨bb,⟨bh,bj,ba,a8⟩,aN,aJ,aO,bd,a_,a9,bk⟩:aD)=false:=by simpa [jD,d1]using a1
  simp only[go_sem];refine OX _ ?_;cases ak:decide (a_=0)
  ·have iq:¬a_=0:=de ak
   try simp only[go_sem,ak]
   repeat'((first|refine av.intro (by first|(apply aeB<;>exact aT)|apply UH|apply U5|apply Dl) ?_|apply fY|refine a7 U4 χ ψ ?_)<;>simp only[go_sem])
   all_goals(apply fu;simp[zh,ep,fO,OY,Hx,iq,ed])
  have iq:=cY ak;clear OV OW OX
  try simp only[go_sem,ak]
  repeat'((first|refine av.intro (by first|(apply aeB<;>exact aT)|apply UH|apply U5|apply Dl) ?_|apply fY|refine a7 U4 χ ψ ?_)<;>simp only[go_sem])
  all_goals(subst iq;apply fu;simp[zh,ep,fO,OY,Hx,ed])
def ov(s:aD):Prop:=∀r,r∈s.bC\/r∈s.bc\/r∈s.bJ->r.high<=s.aB.bS
theorem U8{xs:List ab}{p:Int}(h:cN xs):below xs p=!zg xs p:=by
 have hs:=(ho xs).1 h;rw[asa];unfold below zg
 cases hl:xs.getLast? with
 |none=>rw[auI.1 hl];simp
 |some r=>
  have hr:=aut hl;simp only[ae_,bH,ab_,eC,Int.not_lt];constructor
  ·intro g;exact g r hr
  intro g x hx;obtain⟨i,hi,rfl⟩:=asn hx;have U6:xs.getLast?=some (xs[xs.length-1]' ω):=by rw[atm,cy ω]
  have DQ:xs[xs.length-1]' ω=r:=bZ (U6.symm.trans hl);by_cases he:i=xs.length-1
  ·subst he;rw[DQ];exact g
  have h1:=(arY.1 hs.2) i (xs.length-1) hi ω ω;have h2:=(gr _).1 (hs.1 _ hr);rw[DQ]at h1;omega
theorem U9{E:Int}:∀(ys xs:List ab),cN xs->(∀y∈ys,c8 y=true)->(∀x∈xs,x.high<=E)->(∀y∈ys,y.high<=E)->∀z∈eD xs ys,z.high<=E
 |[],xs,_,_,hx,_,z,hz=>hx z hz
 |y::ys,xs,h,hy,hx,hh,z,hz=>by
  have h1:=J0 h (hy y ξ);refine U9 ys (f' xs y) h1 (λw hw=>hy w (by simp[hw])) ?_ (λw hw=>hh w (by simp[hw])) z hz;have:=PU E xs y ?_ ?_
  ·intro w hw;exact(this w hw).2.2
  ·have g:=(gr _).1 (hy y ξ);have:=hh y ξ;exact⟨by omega,by omega,by omega⟩
  intro w hw;have g:=(gr _).1 (((ho xs).1 h).1 w hw);have:=hx w hw;exact⟨by omega,by omega,by omega⟩
theorem OZ{s:aD}(hn:ov s):dU s=zh s:=by
 unfold dU zh;cases ep:lK s
 ·rfl
 simp only[af_];cases a1:jD s
 ·simp only[Bool.false_eq_true,if_false];have hh:=ep;simp only[lK,bm,ed]at hh;obtain⟨h1,h2,ao,aH,bR,eQ,i'⟩:=hh;have hg:=oD h1;have hf:=(ho s.bc).1 ao;have ha:=(ho s.bJ).1 aH;have aeC:=KL s.bc s.bC h2 hf.1;have Hw:=KL s.bJ _ aeC.1 ha.1;have Rq:eD s.bC (s.bc++s.bJ)=nB s:=by unfold nB eD;rw[arD]
  have O0:=U9 (E:=s.aB.bS) s.bc s.bC h2 hf.1 (λx hx=>hn x (.inl hx)) (λx hx=>hn x (.inr (.inl hx)));have iN:=U9 (E:=s.aB.bS) s.bJ _ aeC.1 ha.1 O0 (λx hx=>hn x (.inr (.inr hx)));have ah:zg (nB s) s.aB.bS=false:=by
   have dK:=U8 (p:=s.aB.bS) Hw.1;have m1:below (nB s) s.aB.bS:=by
    unfold below;rw[ae_];intro x hx;exact br (iN x hx)
   unfold nB at m1⊢;rw[m1]at dK;simpa using dK.symm
  have aqz:Ay s=h7 s:=by
   simp only[cd,bm,bH]at i';unfold Ay h7;by_cases c1:s.aS=3/\s.aB.base=s.aB.bS
   ·rw[if_pos c1,if_pos c1]
   rw[if_neg c1,if_neg c1];have:((s.aS=2\/s.aS=3)\/(s.aS=1/\s.bp=2))↔(1<s.aS\/(s.aS=1/\s.bp=2)):=by omega
   simp only[this]
  have Kx:BB s=decide (s.bf=Hx s):=by
   have:=hg.2.2.2.1;have:=hg.2.2.2.2.1;unfold BB Hx;by_cases c1:s.aS=0<;>by_cases cW:s.bf=-1<;>simp[c1,cW]<;>omega
  have aqA:pb s=(E7 s.bC s.bc s.bJ s.aB.bS&&decide (jc s.bJ 0=s.aB.base)&&decide (s.cS=0)):=by
   unfold pb E7 Aj;rw[Rq,ah];have aqB:jH (nB s)=s.aB.bS->0<s.aB.bS->q_ (nB s)=s.aB.bS:=ac5 Hw.1 iN;rw[asa];simp only[bm,bH,ab_,arR,eC,b7,and_true];constructor
   ·rintro⟨⟨⟨⟨a,b⟩,c⟩,d⟩,e⟩;exact⟨⟨⟨b,a⟩,d⟩,e⟩
   rintro⟨⟨⟨b,a⟩,d⟩,e⟩;refine⟨⟨⟨⟨a,b⟩,?_⟩,d⟩,e⟩;by_cases c:0<s.aB.bS
   ·right;intro g;exact g (aqB a c)
   left;exact c
  unfold OY;rw[aqA,Kx,aqz,U8 ao,U8 aH];cases E7 s.bC s.bc s.bJ s.aB.bS<;>cases decide (jc s.bJ 0=s.aB.base)<;>cases decide (s.cS=0)<;>cases zg s.bc s.b0<;>cases zg s.bJ s.b0<;>cases decide (s.bf=Hx s)<;>simp
 rfl
def xf(c:aR):Prop:=0<=c.aP/\c.aP<=1000/\c.aP+(c.data.length:Int)<=1000
theorem Wd{n:Int}{xs:List aR}{off:Int}{data:List UInt8}(h:∀c∈xs,xf c)(aG:0<=off)(j8:off+(data.length:Int)<=1000):∀c∈pX n xs off data,xf c:=by
 unfold pX;split
 ·rename_i hk;intro c hc;obtain⟨r,hr,rfl⟩:=aa_.1 hc;simp only[FH,bm,bH]at hk;have sv:0<=rv n off:=by unfold rv;split<;>omega
  have hin:=PU 1000 (nW xs) ⟨rv n off,off+data.length⟩ ⟨sv,by show rv n off<=1000;omega,j8⟩ (λx hx=>by
   obtain⟨d,hd,rfl⟩:=aa_.1 hx;exact h d hd) r hr
  simp only[BV]at hin;refine⟨hin.1,hin.2.1,?_⟩
  show r.low+((qF xs off data r.low (r.high-r.low).toNat).length:Int)<=1000
  rw[PV];omega
 exact h
theorem We(n:Int)(xs:List aR)(off:Int)(data:List UInt8):(pX n xs off data).length<=xs.length+1:=by
 unfold pX;split
 ·rw[I];have:=HR (nW xs) ⟨rv n off,off+data.length⟩;rw[Lh]at this;exact this
 omega
theorem afF{n:Int}{xs:List aR}{cm:Int}(h:∀c∈xs,xf c):∀c∈xg n xs cm,xf c:=by
 unfold xg;split
 ·exact h
 rename_i h1;split
 ·exact λc hc=>h c (atJ hc)
 rename_i h2;have hr:mu n xs≠0:=by unfold oN at h1;omega
 obtain⟨_,hlt,aG,qG,HW⟩:=PW hr;have hk:oN n xs cm<=xs[0].data.length:=by unfold oN;omega
 have hx:=h xs[0] (eK hlt);intro c hc;rcases rD.1 hc with rfl|hc
 ·simp only[xf]at hx⊢;rw[HW,ar_];omega
 exact h c (atJ hc)
theorem afG(n:Int)(xs:List aR)(cm:Int):(xg n xs cm).length<=xs.length:=by
 unfold xg;split
 ·omega
 rename_i h1;have hr:mu n xs≠0:=by unfold oN at h1;omega
 obtain⟨_,hlt,_⟩:=PW hr;split
 ·simp
 simp;omega
def UB:List (List bK):=cB 46 [8862938119652501095928,8862938119652501095926,8862938119652501095920,8862938119652501095902,8862938119652501095848,8862938119652501095686,8862938119652501095200,8862938119652501093742,8862938119652501089368,8862938119652501076246,8862938119652501036880,8862938119652481786906,8862938119652481432612,8862938119652480369730,8862938119652498615871,8862938119652489049933,8862938119652458049208,8862938119652371955766,8862938119652113675440,8862938119651338834462,8862938119649014311528,8862938119642040742726,8862938119621120036320,8862938119558357917102,8862938119370071559448,8862938118805212486486,8862938117110635267600,8862938112026903610942,8862938096775708640968,8862935580328538595258,8862935443067783865492,8862937776500614271514,8862936541153821703620,8862932560591934540406,8862921442470801429360,8862888088107402096222,8862788025017204096808,8862487835746610098566,8861587267934828103840,8858885564499482119662,8850780454193444167128,8826465123275330309526,8753519130520988736720,8534681152257964018302,7878167217468889863048,5908625413101667397286]
def adD:List (List bK):=cB 16 [43046720,43046718,43046712,43046694,42309621,42309459,42308973,42336999,42332625,42319503,42279084,42958107,42603813,41452398,38263752,28697814]
attribute [go_sem] UB adD
def De(r:cf):Bool:=lR r.bT&&bN r.fR&&!decide (r.fR<ru r.bT)&&bN r.cS&&!(decide (r.bf≠-1)&&decide (r.bf<r.fR))&&!decide (4611686018427387903<r.bf)&&!decide (r.bf < -1)
def Hq(r:cf):Bool:=decide (r.bf≠-1)&&decide (i64.wrap (r.bT.next+(mu r.bT.next r.bT.cq:Int))=r.bf)
def Cj(r:cf):Bool:=
 if r.bp=0 then decide (r.bf=-1)&&decide (r.cS=0)
 else if r.bp=1 then decide (r.bf≠-1)&&!Hq r&&decide (r.cS=0)
 else if r.bp=2 then Hq r&&decide (r.cS=0)
 else if r.bp=3 then Hq r&&decide ((r.bT.cq.length:Int)=0)&&decide (r.cS=0)
 else if r.bp=4\/r.bp=5 then decide (r.bf≠-1)&&decide (r.fR=r.bf)&&decide ((r.bT.cq.length:Int)=0)
 else false
def lZ(r:cf):Bool:=De r&&Cj r
theorem apH(r:cf):(bif bif bif bif bif bif !lR r.bT then true else !bN r.fR then true else decide (r.fR<ru r.bT)then true else !bN r.cS then true else bif decide (r.bf≠-1)then decide (r.bf<r.fR)else false then true else decide (4611686018427387903<r.bf)then true else decide (r.bf < -1))=!De r:=by
 unfold De;cases lR r.bT<;>cases bN r.fR<;>cases decide (r.fR<ru r.bT)<;>cases bN r.cS<;>cases decide (r.bf≠-1)<;>cases decide (r.bf<r.fR)<;>cases decide (4611686018427387903<r.bf)<;>cases decide (r.bf < -1)<;>rfl
theorem Ao(dN dx:Int)(c4:List aR)(d5 dX dZ:Int)(hb:∀c∈c4,c.data.length<=1048576)(hx:c4.length<=1048576):aM 183 [.agg [.i dN,.i dx,.azB c4,.i d5,.i dX,.i dZ]] [.one (.bool (lZ (⟨dN,⟨dx,c4⟩,d5,dX,dZ⟩:cf)))]:=by
 refine aW 134 func183 call183 [.tmp 2] ?_;intro _;have ah:=apH (⟨dN,⟨dx,c4⟩,d5,dX,dZ⟩:cf);cases ep:De (⟨dN,⟨dx,c4⟩,d5,dX,dZ⟩:cf)
 ·rw[ep]at ah
  try simp only[go_sem]
  repeat'((first|refine av.intro (by first|(apply rr<;>exact aT)|apply ld|(apply Wa<;>exact aT)) ?_|apply fY|refine a7 UB χ ψ ?_)<;>simp only[go_sem])
  rw[ah];simp only[go_sem,b7];simp[lZ,ep]
 rw[ep]at ah
 try simp only[go_sem]
 repeat'((first|refine av.intro (by first|(apply rr<;>exact aT)|apply ld|(apply Wa<;>exact aT)) ?_|apply fY|refine a7 UB χ ψ ?_)<;>simp only[go_sem])
 rw[ah];simp only[go_sem,bz]
 try simp only[go_sem,I]
 repeat'((first|refine av.intro (by(apply HV<;>exact aT)) ?_|apply bo|apply fY|refine a7 adD χ ψ ?_|refine bX (λh=>?_) (λh=>?_))<;>simp only[go_sem,I])
 all_goals(rw[show lZ (⟨dN,⟨dx,c4⟩,d5,dX,dZ⟩:cf)=Cj (⟨dN,⟨dx,c4⟩,d5,dX,dZ⟩:cf)from by unfold lZ;rw[ep];rfl];clear ep ah;simp only[bH,eC]at *;first|(exfalso;omega)|(simp[Cj,Hq, *]))
def B3:cf:=⟨0,⟨0,[]⟩,-1,0,0⟩
theorem apI :aM 308 [] [.agg (cf.enc (B3))]:=by
 refine aW 2 func308 call308 [.cell 0 70] ?_;intro _
 try simp only[go_sem]
 all_goals simp[B3]
def jo(r:cf)(e:Int):Int:=if lZ r&&bN e then dJ 0 (i64.wrap (e-r.fR))else 0
theorem aam(dN dx:Int)(c4:List aR)(d5 dX dZ e:Int)(hb:∀c∈c4,c.data.length<=1048576)(hx:c4.length<=1048576):aM 336 [.agg [.i dN,.i dx,.azB c4,.i d5,.i dX,.i dZ],.one (.i e)] [.one (.i (jo (⟨dN,⟨dx,c4⟩,d5,dX,dZ⟩:cf) e))]:=by
 refine aW 18 func336 call336 [.tmp 4] ?_;intro _
 try simp only[go_sem]
 repeat'((first|refine af.intro (by(apply Ao<;>exact aT)) ?_|refine av.intro (by apply ld) ?_|apply bo|refine bX (λh=>?_) (λh=>?_))<;>simp only[go_sem])
 all_goals(cases h1:lZ (⟨dN,⟨dx,c4⟩,d5,dX,dZ⟩:cf)<;>cases h2:bN e<;>simp_all [jo,dJ])
def KE(r:cf):Bool:=lZ r&&(decide (r.bp=3)||decide (r.bp=5))
theorem apJ(dN dx:Int)(c4:List aR)(d5 dX dZ:Int)(hb:∀c∈c4,c.data.length<=1048576)(hx:c4.length<=1048576):aM 217 [.agg [.i dN,.i dx,.azB c4,.i d5,.i dX,.i dZ]] [.one (.bool (KE (⟨dN,⟨dx,c4⟩,d5,dX,dZ⟩:cf)))]:=by
 refine aW 15 func217 call217 [.tmp 2] ?_;intro _
 try simp only[go_sem]
 repeat'((first|refine af.intro (by(apply Ao<;>exact aT)) ?_|apply bo)<;>simp only[go_sem])
 all_goals(apply fu;simp[KE])
def Ap(r:cf)(e:Int)(f:Bool):Int:=
 if((decide (r.bf≠-1)&&(decide (r.bf<e)||(f&&decide (e≠r.bf))))||(f&&decide (e<r.fR)))=true then 6 else 0
theorem adE(dN dx:Int)(c4:List aR)(d5 dX dZ e:Int)(f:Bool)(_:c4.length<=1048576):aM 334 [.agg [.i dN,.i dx,.azB c4,.i d5,.i dX,.i dZ],.one (.i e),.one (.bool f)] [.one (.i (Ap (⟨dN,⟨dx,c4⟩,d5,dX,dZ⟩:cf) e f))]:=by
 refine aW 34 func334 call334 [.tmp 6] ?_;intro _
 try simp only[go_sem]
 repeat'((first|apply bo|refine bX (λh=>?_) (λh=>?_))<;>simp only[go_sem])
 ·simp only[c2,d1]at h;unfold Ap;rw[if_pos h]
 simp only[c2,d1]at h;unfold Ap;rw[if_neg (by rw[h];simp)]
def Hr(r:cf)(m:Int):Int:=if r.bp=2/\r.bT.next+(oN r.bT.next r.bT.cq m:Int)=r.bf then 3 else r.bp
def z6(r:cf)(m:Int):cf:=
 if lZ r then(if r.bp=4 then {r with bp:=5}else {r with bp:=Hr r m,bT:=⟨r.bT.next+(oN r.bT.next r.bT.cq m:Int),xg r.bT.next r.bT.cq m⟩})else r
def y2(r:cf)(m:Int):List UInt8:=if lZ r&&!decide (r.bp=4)then DS r.bT.next r.bT.cq m else []
theorem alh(dN dx:Int)(c4:List aR)(d5 dX dZ m:Int)(hb:∀c∈c4,c.data.length<=1048576)(hx:c4.length<=1048576):aM 278 [.agg [.i dN,.i dx,.azB c4,.i d5,.i dX,.i dZ],.one (.i m)] [.one (.str (y2 (⟨dN,⟨dx,c4⟩,d5,dX,dZ⟩:cf) m)),.agg (cf.enc (z6 (⟨dN,⟨dx,c4⟩,d5,dX,dZ⟩:cf) m))]:=by
 refine aW 42 func278 call278 [.tmp 4,.cell 5 70] ?_;intro _;have WW:=afL dx c4 m hb hx;cases aE:lZ (⟨dN,⟨dx,c4⟩,d5,dX,dZ⟩:cf)
 ·try simp only[go_sem]
  repeat'(first|((first|refine af.intro (by first|assumption|(apply B6<;>exact aT)|(apply Ao<;>exact aT)) ?_|refine av.i ?_|refine a7 [[.post,.dL,.post],[.dL,.post,.post],[.pre,.pre,.post]] χ ψ ?_)<;>simp only[go_sem,I,aE])|refine⟨ae7,?_⟩|fail)
  all_goals simp[z6,y2,aE]
 by_cases aH:dN=4
 ·have ak:=br (p:=dN=4) aH;have a1:z6 (⟨dN,⟨dx,c4⟩,d5,dX,dZ⟩:cf) m={(⟨dN,⟨dx,c4⟩,d5,dX,dZ⟩:cf)with bp:=5}:=by unfold z6;rw[if_pos aE];exact if_pos aH
  have a5:y2 (⟨dN,⟨dx,c4⟩,d5,dX,dZ⟩:cf) m=[]:=by unfold y2;rw[aE];simp[aH]
  try simp only[go_sem]
  repeat'(first|((first|refine af.intro (by first|assumption|(apply B6<;>exact aT)|(apply Ao<;>exact aT)) ?_|refine av.i ?_|refine a7 [[.post,.dL,.post],[.dL,.post,.post],[.pre,.pre,.post]] χ ψ ?_)<;>simp only[go_sem,I,aE,ak])|refine⟨ae7,?_⟩|fail)
  all_goals(rw[a1,a5];try simp[outOA,fb])
 have ak:=bn (p:=dN=4) aH;have a1:z6 (⟨dN,⟨dx,c4⟩,d5,dX,dZ⟩:cf) m={(⟨dN,⟨dx,c4⟩,d5,dX,dZ⟩:cf)with bp:=Hr (⟨dN,⟨dx,c4⟩,d5,dX,dZ⟩:cf) m,bT:=⟨dx+(oN dx c4 m:Int),xg dx c4 m⟩}:=by unfold z6;rw[if_pos aE];exact if_neg aH
 have a5:y2 (⟨dN,⟨dx,c4⟩,d5,dX,dZ⟩:cf) m=DS dx c4 m:=by unfold y2;rw[aE];simp[aH]
 try simp only[go_sem]
 repeat'(first|((first|refine af.intro (by first|assumption|(apply B6<;>exact aT)|(apply Ao<;>exact aT)) ?_|refine av.i ?_|apply bo|refine a7 [[.post,.dL,.post,.post],[.dL,.post,.dL,.post],[.pre,.dL,.post,.post],[.pre,.pre,.pre,.post]] χ ψ ?_|refine bX (λh=>?_) (λh=>?_))<;>simp only[go_sem,I,aE,ak])|refine⟨ae7,?_⟩|fail)
 ·simp only[c2,bm,bH]at h;have hq:Hr (⟨dN,⟨dx,c4⟩,d5,dX,dZ⟩:cf) m=3:=by unfold Hr;exact if_pos h
  rw[a1,a5,hq]
  try simp[outOA,fb]
 have hq:Hr (⟨dN,⟨dx,c4⟩,d5,dX,dZ⟩:cf) m=dN:=by
  unfold Hr;refine if_neg λg=>?_;rw[br g.1,br g.2]at h;cases h
 rw[a1,a5,hq]
 try simp[outOA,fb]
def KF(r:cf)(c f:Int):Bool:=lZ r&&bN c&&bN f
def z7(r:cf)(c f:Int):Int:=if KF r c f then Ap r f true else 7
def E2(r:cf)(c f:Int):Bool:=KF r c f&&!(decide (Ap r f true≠0)||decide (1<r.bp))
def y5(r:cf)(c f:Int):cf:=if E2 r c f then⟨4,⟨r.bT.next,[]⟩,f,f,c⟩else r
theorem ali(dN dx:Int)(c4:List aR)(d5 dX dZ c f:Int)(hb:∀c∈c4,c.data.length<=1048576)(hx:c4.length<=1048576):aM 320 [.agg [.i dN,.i dx,.azB c4,.i d5,.i dX,.i dZ],.one (.i c),.one (.i f)] [.agg (cf.enc (y5 (⟨dN,⟨dx,c4⟩,d5,dX,dZ⟩:cf) c f)),.one (.i (z7 (⟨dN,⟨dx,c4⟩,d5,dX,dZ⟩:cf) c f))]:=by
 refine aW 46 func320 call320 [.cell 6 70,.tmp 7] ?_;intro _;cases cM:KF (⟨dN,⟨dx,c4⟩,d5,dX,dZ⟩:cf) c f
 ·have bY:E2 (⟨dN,⟨dx,c4⟩,d5,dX,dZ⟩:cf) c f=false:=by simp[E2,cM]
  have ah:(bif bif !lZ (⟨dN,⟨dx,c4⟩,d5,dX,dZ⟩:cf)then true else !bN c then true else !bN f)=true:=by
   have:=cM;unfold KF at this
   revert this;cases lZ (⟨dN,⟨dx,c4⟩,d5,dX,dZ⟩:cf)<;>cases bN c<;>cases bN f<;>simp
  try simp only[go_sem]
  repeat'((first|refine af.intro (by first|(apply B6<;>exact aT)|(apply Ao<;>exact aT)) ?_|refine av.intro (by apply ld) ?_|apply bo)<;>simp only[go_sem,I])
  rw[ah];simp only[go_sem,I];simp[y5,bY,z7,cM]
 have ah:(bif bif !lZ (⟨dN,⟨dx,c4⟩,d5,dX,dZ⟩:cf)then true else !bN c then true else !bN f)=false:=by
  have:=cM;unfold KF at this
  revert this;cases lZ (⟨dN,⟨dx,c4⟩,d5,dX,dZ⟩:cf)<;>cases bN c<;>cases bN f<;>simp
 try simp only[go_sem]
 repeat'((first|refine af.intro (by first|(apply B6<;>exact aT)|(apply Ao<;>exact aT)) ?_|refine av.intro (by apply ld) ?_|apply bo)<;>simp only[go_sem,I])
 rw[ah];simp only[go_sem]
 try simp only[go_sem,I]
 repeat'((first|refine af.intro (by(apply adE<;>exact aT)) ?_|apply bo)<;>simp only[go_sem])
 refine bX (λh=>?_) (λh=>?_)
 ·have bY:E2 (⟨dN,⟨dx,c4⟩,d5,dX,dZ⟩:cf) c f=false:=by unfold E2;simp only[d1]at h;rw[cM,h];rfl
  simp only[go_sem,I];simp[y5,bY,z7,cM]
 have bY:E2 (⟨dN,⟨dx,c4⟩,d5,dX,dZ⟩:cf) c f:=by unfold E2;simp only[d1]at h;rw[cM,h];rfl
 have h0:Ap (⟨dN,⟨dx,c4⟩,d5,dX,dZ⟩:cf) f true=0:=by
  simp only[d1,Bool.or_eq_false_iff,eC]at h;omega
 simp only[go_sem]
 try simp only[go_sem,I]
 all_goals simp[y5,bY,z7,cM,h0]
def adF:List (List bK):=cB 6 [692,690,724,706,648,486]
def UC:List (List bK):=cB 37 [450283905890997362,450283905890997360,450283905890997354,450283905890997336,450283905890997282,450283905890970876,450283905890970390,450283905890968932,450283905890993961,450283905890980839,450283905890938314,450283905890820216,450283905890465922,450283905889403040,450283905886214394,450283905876648456,450283905847950642,450283905761857200,450283905503576874,450283904728735896,450283902404212962,450283895430644160,450283874509937754,450283811747818536,450283623461460882,450283058602387920,450281364025169034,450276280293512376,450261029098542402,447744581928496692,447607321173766926,449940754004172948,448705407211605054,444724845324441840,433606724191330794,400252360791997656,300189270593998242]
def adG:List (List bK):=cB 12 [531440,531438,531432,531414,522612,522450,521964,530307,525933,511758,472392,354294]
attribute [go_sem] adF UC adG
theorem apK(n:Int)(xs:List aR)(hb:∀c∈xs,c.data.length<=1048576)(hx:xs.length<=1048576):aM 216 [.agg [.i n,.azB xs]] [.one (.i (i64.wrap (n+(mu n xs:Int))))]:=by
 refine aW 8 func216 call216 [.tmp 2] ?_;intro _
 try simp only[go_sem]
 repeat'((first|refine av.intro (by(apply afD<;>exact aT)) ?_|refine a7 adF χ ψ ?_)<;>simp only[go_sem])
 all_goals simp
def OM(r:cf):Bool:=lR r.bT&&!decide (r.fR<ru r.bT)&&bN r.fR&&bN r.cS&&!(decide (r.bf≠-1)&&!cd r.bf r.fR 4611686018427387903)
theorem apL(r:cf):(bif bif bif bif !lR r.bT then true else decide (r.fR<ru r.bT)then true else !bN r.fR then true else !bN r.cS then true else bif decide (r.bf≠-1)then !cd r.bf r.fR 4611686018427387903 else false)=!OM r:=by
 unfold OM;cases lR r.bT<;>cases bN r.fR<;>cases decide (r.fR<ru r.bT)<;>cases bN r.cS<;>cases decide (r.bf≠-1)<;>cases cd r.bf r.fR 4611686018427387903<;>rfl
theorem apM(r:cf):OM r=De r:=by
 rw[asa];simp only[OM,De,bN,cd,bm,ab_,bH,eC,arR,Bool.not_eq_false'];constructor
 ·rintro⟨⟨⟨⟨h1,h2⟩,ao⟩,aH⟩,bR⟩;refine⟨⟨⟨⟨⟨⟨h1,ao⟩,h2⟩,aH⟩,?_⟩,?_⟩,?_⟩<;>omega
 rintro⟨⟨⟨⟨⟨⟨h1,ao⟩,h2⟩,aH⟩,bR⟩,eQ⟩,i'⟩;refine⟨⟨⟨⟨h1,h2⟩,ao⟩,aH⟩,?_⟩;omega
theorem adH(dN dx:Int)(c4:List aR)(d5 dX dZ:Int)(hb:∀c∈c4,c.data.length<=1048576)(hx:c4.length<=1048576):aM 168 [.agg [.i dN,.i dx,.azB c4,.i d5,.i dX,.i dZ]] [.one (.bool (lZ (⟨dN,⟨dx,c4⟩,d5,dX,dZ⟩:cf)))]:=by
 refine aW 116 func168 call168 [.tmp 2] ?_;intro _;have ah:=apL (⟨dN,⟨dx,c4⟩,d5,dX,dZ⟩:cf);rw[apM]at ah;cases ep:De (⟨dN,⟨dx,c4⟩,d5,dX,dZ⟩:cf)
 ·rw[ep]at ah
  try simp only[go_sem]
  repeat'((first|refine av.intro (by first|(apply AK<;>exact aT)|(apply V'<;>exact aT)|apply pW|apply j7) ?_|apply fY|refine a7 UC χ ψ ?_)<;>simp only[go_sem])
  rw[ah];simp only[go_sem,b7];simp[lZ,ep]
 have h0:0<=dX:=by
  have:=ep;simp only[De,bN,cd,bm,bH,ed]at this;exact this.2.1
 rw[ep]at ah
 try simp only[go_sem]
 repeat'((first|refine av.intro (by first|(apply AK<;>exact aT)|(apply V'<;>exact aT)|apply pW|apply j7) ?_|apply fY|refine a7 UC χ ψ ?_)<;>simp only[go_sem])
 rw[ah];simp only[go_sem,bz]
 try simp only[go_sem,I]
 repeat'((first|refine av.intro (by(apply apK<;>exact aT)) ?_|apply bo|apply fY|refine a7 adG χ ψ ?_|refine bX (λh=>?_) (λh=>?_))<;>simp only[go_sem,I])
 all_goals(rw[show lZ (⟨dN,⟨dx,c4⟩,d5,dX,dZ⟩:cf)=Cj (⟨dN,⟨dx,c4⟩,d5,dX,dZ⟩:cf)from by unfold lZ;rw[ep];rfl];clear ep ah;simp only[bH,eC]at *;first|(exfalso;omega)|(apply fu;simp[Cj,Hq, *];done)|(apply fu;simp[Cj,Hq, *];grind))
theorem apN(dN dx:Int)(c4:List aR)(d5 dX dZ:Int)(hb:∀c∈c4,c.data.length<=1048576)(hx:c4.length<=1048576):aM 206 [.agg [.i dN,.i dx,.azB c4,.i d5,.i dX,.i dZ]] [.one (.bool (KE (⟨dN,⟨dx,c4⟩,d5,dX,dZ⟩:cf)))]:=by
 refine aW 15 func206 call206 [.tmp 2] ?_;intro _
 try simp only[go_sem]
 repeat'((first|refine af.intro (by(apply adH<;>exact aT)) ?_|apply bo)<;>simp only[go_sem])
 all_goals(apply fu;simp[KE])
end Gv
