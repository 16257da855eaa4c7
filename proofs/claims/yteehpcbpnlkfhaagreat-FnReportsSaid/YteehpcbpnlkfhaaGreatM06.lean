/-
  Part of the proof: the machine, what functions compute, and the plain laws.
-/
import Derived.Test.YteehpcbpnlkfhaaGreatM05
set_option maxHeartbeats 80000000
set_option maxRecDepth 100000
namespace Gv
open Go Go.Proofs Tryz IntKind
open _root_.Nat renaming le_trans->arP
open _root_.List renaming length_filter_le->arS,filter_append->asG,length_pos_iff->aq_,length_take->arJ,countP_le_length->asp
open _root_.Bool renaming and_self->asg
def UR:List (List bK):=cB 25 [847288609442,847288609440,847288609434,847288609416,847288609362,847288609200,847288608714,847288607256,847288602882,847288589760,847288550394,847288432296,847288078002,847287015120,833279293242,833331905901,833303208087,833212331676,832954051350,832179210372,845542825758,838569256956,815907549834,753145430616,564859072962]
attribute [go_sem] UR
theorem aeo(l:List ch):aM 248 [.one (.azF l)] [.one (.bool (mm l))]:=by
 refine aW 38 func248 call248 [.tmp 2] ?_;intro ok;have hm:=gw ok;clear ok;simp only[go_sem,I];refine cb.intro (λi:Nat=>⟨(.d (.azF l)::aA 4 (.d (.azF l)::.i l.length::.i i::aA 30 [])),[]⟩)
  (λi=>l.length-i) (λi=>i<=l.length/\l6 (pP l) i=true) 0 [] ⟨by omega,by simp[l6]⟩ ?_ ?_
 ·simp only[go_sem];simp
 rintro i ⟨hi,he⟩;by_cases h1:i<l.length
 ·have aq:=aro (i:=i) (n:=l.length);have az:=b_ ch.enc l i h1;have hw:=d8 h1 hm;have hs:=Ft (pP l) i;have hf:=λh=>HM (pP l) (n:=l.length) h1 h
  cases i with
  |zero=>
   have hb:=aep l h1;have h2:decide ((0:Int)<((0:Nat):Int))=false:=by decide
   try simp only[go_sem,I,aF,az,ch.enc,aq]
   repeat'(first|((first|refine av.intro (by first|apply pW|apply Tu) ?_|with_reducible apply lv|apply fY|refine a7 UR χ ψ ?_|refine bX (λh=>?_) (λh=>?_))<;>simp only[go_sem,h2])|refine⟨ae7,?_⟩|fail)
   ·have e:pP l 0=false:=by rw[hb];revert h;cases bN l[0].id<;>cases mJ l[0].cI<;>simp
    simp[mm,hf e]
   have e:pP l 0:=by rw[hb];revert h;cases bN l[0].id<;>cases mJ l[0].cI<;>simp
   refine bt.intro 1 [] ⟨by omega,by rw[hs,he,e];rfl⟩ ω ?_;simp only[go_sem,hw];try simp
  |succ j=>
   have hb:=aeq l j h1;have ie:=b_ ch.enc l j ω;have h2:=br (p:=(0:Int)<((j+1:Nat):Int)) ω;have hp:i64.wrap (((j+1:Nat):Int)-1)=(j:Int):=by simp only[maxLen]at hm;rw[bw]<;>omega
   have bu:decide (l[j+1].id<=l[j].id)=!decide (l[j].id<l[j+1].id):=by by_cases h:l[j].id<l[j+1].id<;>simp[h]<;>omega
   try simp only[go_sem,I,aF,az,ch.enc,aq]
   repeat'(first|((first|refine av.intro (by first|apply pW|apply Tu) ?_|apply fY|refine a7 UR χ ψ ?_|refine bX (λh=>?_) (λh=>?_))<;>simp only[go_sem,I,aF,ie,ch.enc,h2,hp,bu])|refine⟨ae7,?_⟩|fail)
   ·have e:pP l (j+1)=false:=by rw[hb];revert h;cases bN l[j+1].id<;>cases mJ l[j+1].cI<;>simp
    simp[mm,hf e]
   have e:pP l (j+1):=by rw[hb];revert h;cases bN l[j+1].id<;>cases mJ l[j+1].cI<;>simp
   refine bt.intro (j+1+1) [] ⟨by omega,by rw[hs,he,e];rfl⟩ ω ?_;simp only[go_sem,hw];try simp
 obtain⟨aq,rfl⟩:=arn (i:=i) (n:=l.length);simp only[go_sem,aq];simp[mm,he]
theorem aqc(l:List ch)(hl:l.length<=1000):aM 249 [.one (.azF l)] [.one (.azF (iu l))]:=by
 refine aW 39 func249 call249 [.tmp 2] ?_;intro ok;have hm:=gw ok;clear ok;simp only[go_sem,I];refine cb.intro (λi:Nat=>⟨(.d (.azF l)::.an::.an::.i (gI (l.take i))::.sl 0 0 0::aA 5 (.d (.azF l)::.i l.length::.i i::aA 26 [])),[.ay 3 [] true]⟩)
  (λi=>l.length-i) (λi=>i<=l.length) 0 [0] ω ?_ ?_
 ·simp only[go_sem];simp[gI]
 intro i hi;by_cases h1:i<l.length
 ·have aq:=aro (i:=i) (n:=l.length);have az:=b_ ch.enc l i h1;have hw:=d8 h1 hm;have hu:gI (l.take (i+1))=cu (gI (l.take i)) l[i].cI.ei:=by
   rw[gO,cy h1];exact Ko _ _
  try simp only[go_sem,I,aF,az,ch.enc,aq]
  repeat'(first|refine⟨ae7,?_⟩|fail)
  all_goals(refine bt.intro (i+1) [0] ω ω ?_;simp only[go_sem,hw,hu,cu];try simp)
 ·obtain⟨aq,rfl⟩:=arn (i:=i) (n:=l.length);simp only[go_sem,I,aq,da];refine cb.intro (λi:Nat=>⟨(.d (.azF l)::.an::.an::.i (gI l)::.sl 0 0 ((l.take i).filter λc=>decide (c.cI.ei=gI l)).length::aA 17 (.d (.azF l)::.i l.length::.i i::aA 14 [])),[.ay 3 (((l.take i).filter λc=>decide (c.cI.ei=gI l)).map ch.enc) true]⟩)
   (λi=>l.length-i) (λi=>i<=l.length) 0 [0] ω ?_ ?_
  ·simp only[go_sem];simp
  intro k hk;by_cases h2:k<l.length
  ·have gv:=aro (i:=k) (n:=l.length);have IH:=b_ ch.enc l k h2;have jx:=d8 h2 hm;have d':((l.take k).filter λc=>decide (c.cI.ei=gI l)).length<=k:=arP (arS _ _) (by simp;omega);have e:(l.take (k+1)).filter (λc=>decide (c.cI.ei=gI l))=(l.take k).filter (λc=>decide (c.cI.ei=gI l))++(if l[k].cI.ei=gI l then [l[k]]else []):=by
    rw[gO,cy h2,asG];by_cases hh:l[k].cI.ei=gI l<;>simp[hh]
   generalize (l.take k).filter (λc=>decide (c.cI.ei=gI l))=cJ at e d';simp only[maxLen]at hm
   try simp only[go_sem,I,aF,IH,ch.enc,gv]
   repeat'(first|(refine bX (λh=>?_) (λh=>?_)<;>simp only[go_sem,I])|refine⟨ae7,?_⟩|fail)
   all_goals(simp only[bH,eC]at *)
   all_goals first
    |(refine bt.intro (k+1) [3] ω ω ?_;simp only[go_sem,jx,e];rw[if_pos h];simp[ch.enc];done)
    |(refine bt.intro (k+1) [0] ω ω ?_;simp only[go_sem,jx,e];rw[if_neg h];simp;done)
  ·obtain⟨gv,rfl⟩:=arn (i:=k) (n:=l.length);simp only[go_sem,I,gv,da];simp[iu]
theorem aqd(l:List ch)(dw:Int):aM 250 [.one (.azF l),.one (.i dw)] [.one (.i (C9 l dw))]:=by
 refine aW 32 func250 call250 [.tmp 4] ?_;intro ok;have hm:=gw ok;clear ok;have l5:=aeo l;by_cases hg:l=[]\/mm l=false
 ·have hL:C9 l dw=-1:=by unfold C9;rw[if_pos hg]
  rw[hL];by_cases h0:l=[]
  ·have c3:decide ((l.length:Int)=0):=by rw[h0];rfl
   try simp only[go_sem,I,c3]
   repeat'(first|(with_reducible apply dp<;>simp only[go_sem]))
  have c3:=bn (p:=(l.length:Int)=0) (by have:=aq_.2 h0;omega);rw[hg.resolve_left h0]at l5
  try simp only[go_sem,I,c3]
  repeat'((first|refine af.i ?_|refine av.i ?_|with_reducible apply cG)<;>simp only[go_sem,b7])
 have h0:l≠[]:=λh=>hg (.inl h);have h1:mm l:=by cases h:mm l with|true=>rfl|false=>exact absurd (.inr h) hg
 have fU:=aq_.2 h0;have c3:=bn (p:=(l.length:Int)=0) ω;have hL:C9 l dw=match l.find? (λc=>decide (dw<c.id))with|some c=>c.id|none=>(l[0]?.getD (⟨0,⟨0,false⟩⟩:ch)).id:=by unfold C9;rw[if_neg hg];rfl
 rw[h1]at l5;rw[hL]
 try simp only[go_sem,I,c3]
 repeat'((first|refine af.i ?_|refine av.i ?_|with_reducible apply cG)<;>simp only[go_sem,I,bz])
 refine cb.intro (λi:Nat=>⟨(.d (.azF l)::.i dw::aA 13 (.d (.azF l)::.i l.length::.i i::aA 14 [])),[]⟩)
  (λi=>l.length-i) (λi=>i<=l.length/\(l.take i).any (λc=>decide (dw<c.id))=false) 0 [] ⟨by omega,by simp⟩ ?_ ?_
 ·simp only[go_sem];simp
 rintro i ⟨hi,he⟩;by_cases h1:i<l.length
 ·have aq:=aro (i:=i) (n:=l.length);have az:=b_ ch.enc l i h1;have hw:=d8 h1 hm
  try simp only[go_sem,I,aF,az,ch.enc,aq]
  repeat'(first|((first|refine af.i ?_|refine av.i ?_|refine bX (λh=>?_) (λh=>?_))<;>simp only[go_sem])|refine⟨ae7,?_⟩|fail)
  ·have:=Fk (λc:ch=>decide (dw<c.id)) l i h1 he h;simp[this]
  refine bt.intro (i+1) [] ⟨by omega,zi _ l i h1 he h⟩ ω ?_;simp only[go_sem,hw];try simp
 obtain⟨aq,rfl⟩:=arn (i:=i) (n:=l.length);rw[da]at he;have hn:=HB _ l he;have iZ:=b_ ch.enc l 0 fU;have Bw:(l[0]?.getD (⟨0,⟨0,false⟩⟩:ch)).id=l[0].id:=by rw[cy fU];rfl
 rw[hn];simp only;rw[Bw]
 try simp only[go_sem,I,aq,iZ,ch.enc,gM]
 repeat'((first|refine af.i ?_|refine av.i ?_)<;>simp only[go_sem,I,aq,iZ,ch.enc,gM])
 all_goals first|omega|simp
theorem ahM(l:List ch)(dw:Int)(hl:l.length<=1000):aM 192 [.one (.azF l),.one (.i dw)] [.one (.i (ER l dw))]:=by
 refine aW 34 func192 call192 [.tmp 4] ?_;intro ok;have hm:=gw ok;clear ok;have l5:=aeo l;have AU:=aqc l hl;have HI:=aqd (iu l) dw;by_cases hg:l=[]\/mm l=false
 ·have hL:ER l dw=-1:=by unfold ER;rw[if_pos hg]
  rw[hL];by_cases h0:l=[]
  ·have c3:decide ((l.length:Int)=0):=by rw[h0];rfl
   try simp only[go_sem,I,c3]
   repeat'(first|(with_reducible apply dp<;>simp only[go_sem]))
  have c3:=bn (p:=(l.length:Int)=0) (by have:=aq_.2 h0;omega);rw[hg.resolve_left h0]at l5
  try simp only[go_sem,I,c3]
  repeat'((first|refine af.i ?_|refine av.i ?_|with_reducible apply cG)<;>simp only[go_sem,b7])
 have h0:l≠[]:=λh=>hg (.inl h);have h1:mm l:=by cases h:mm l with|true=>rfl|false=>exact absurd (.inr h) hg
 have fU:=aq_.2 h0;have c3:=bn (p:=(l.length:Int)=0) ω;have hL:ER l dw=match(iu l).find? (λc=>!c.cI.ic)with|some c=>c.id|none=>C9 (iu l) dw:=by unfold ER;rw[if_neg hg];rfl
 have o7:(iu l).length<=maxLen:=arP (arS _ _) hm;rw[h1]at l5;rw[hL];generalize iu l=u at *
 try simp only[go_sem,I,c3]
 repeat'((first|refine af.i ?_|refine av.i ?_|with_reducible apply cG)<;>simp only[go_sem,I,bz])
 refine cb.intro (λi:Nat=>⟨(.an::.i dw::aA 3 (.sl 0 0 u.length::aA 12 (.sl 0 0 u.length::.i u.length::.i i::aA 13 []))),[.ay 3 (u.map ch.enc) true]⟩)
  (λi=>u.length-i) (λi=>i<=u.length/\(u.take i).any (λc=>!c.cI.ic)=false) 0 [0] ⟨by omega,by simp⟩ ?_ ?_
 ·simp only[go_sem];simp
 rintro i ⟨hi,he⟩;by_cases h1:i<u.length
 ·have aq:=aro (i:=i) (n:=u.length);have az:=b_ ch.enc u i h1;have hw:=d8 h1 o7
  try simp only[go_sem,I,aF,az,ch.enc,aq]
  repeat'(first|(refine bX (λh=>?_) (λh=>?_)<;>simp only[go_sem])|refine⟨ae7,?_⟩|fail)
  ·have:=Fk (λc:ch=>!c.cI.ic) u i h1 he h;simp[this]
  refine bt.intro (i+1) [0] ⟨by omega,zi _ u i h1 he h⟩ ω ?_;simp only[go_sem,hw];try simp
 obtain⟨aq,rfl⟩:=arn (i:=i) (n:=u.length);rw[da]at he;have hn:=HB _ u he;rw[hn]
 try simp only[go_sem,I,aq]
 repeat'(refine af.i ?_<;>simp only[go_sem])
theorem arf(xs:List Int)(v:Int):aM 292 [.one (.sl 1 (xs.map bg)),.one (.i v)] [.one (.i (g2 (λx=>decide (v=x)) xs))]:=by
 refine aW 19 func292 call292 [.tmp 4] ?_;intro ok;have hm:=gw ok;clear ok;simp only[go_sem,I];refine cb.intro (λi:Nat=>⟨(.d (.sl 1 (xs.map bg))::.i v::.an::.an::.i 0::.an::.an::.i xs.length::.i i::aA 10 []),[]⟩)
  (λi=>xs.length-i) (λi=>i<=xs.length/\(xs.take i).any (λx=>decide (v=x))=false) 0 [] ⟨by omega,by simp⟩ ?_ ?_
 ·simp only[go_sem];simp
 rintro i ⟨hi,he⟩;by_cases h1:i<xs.length
 ·have aq:=aro (i:=i) (n:=xs.length);have az:=b_ bg xs i h1;have hw:=d8 h1 hm
  try simp only[go_sem,I,aF,az,bg,aq]
  repeat'(first|(refine bX (λh=>?_) (λh=>?_)<;>simp only[go_sem])|refine⟨ae7,?_⟩|fail)
  ·have:=II (λx=>decide (v=x)) xs i h1 he h;simp[this]
  refine bt.intro (i+1) [] ⟨by omega,zi _ xs i h1 he h⟩ ω ?_;simp only[go_sem,hw];try simp
 obtain⟨aq,rfl⟩:=arn (i:=i) (n:=xs.length);rw[da]at he;simp only[go_sem,aq];simp[Mf _ _ he]
theorem arh(xs:List Int)(v:Int):decide (0<=g2 (λx=>decide (v=x)) xs)=xs.contains v:=by
 rcases m' (λx=>decide (v=x)) xs with ⟨h1,h2⟩|⟨i,hi,h1,h2,ao⟩
 ·have:xs.contains v=false:=by
   rw[List.find?_eq_none]at h2;simp only[List.contains_eq_any_beq,List.any_eq_false];intro x hx;have:=h2 x hx;simpa using this
  rw[h1,this];rfl
 ·have:xs.contains v:=by
   have e:v=xs[i]:=cY ao;rw[e];simp
  rw[h1,this];exact br ω
theorem ari(xs:List Int)(v:Int):aM 251 [.one (.sl 1 (xs.map bg)),.one (.i v)] [.one (.bool (xs.contains v))]:=by
 refine ayE 9 func251 call251 [.tmp 4] ?_;have f:=arf xs v;rw[<-arh]
 try simp only[go_sem]
 refine af.intro f ?_
 try simp only[go_sem]
def x7(skip:List Int)(s:ae):Bool:=rL s&&!skip.contains s.id
theorem arj(skip:List Int)(l:List ae)(i:Nat)(h:i<l.length):((l.take (i+1)).filter (x7 skip)).map p9=((l.take i).filter (x7 skip)).map p9++(if x7 skip l[i]then [p9 l[i]]else []):=by
 rw[gO,cy h,asG,List.map_append];cases hw:x7 skip l[i]<;>simp[hw]
theorem ark(s:ae)(h:0<=s.ag.bp):(bif bif s.ft then cd s.ag.bp 0 2 else false then bif decide (0<(s.ag.bC.length:Int))then true else decide (s.ag.aS=1)else false)=rL s:=by
 have e:cd s.ag.bp 0 2=decide (s.ag.bp<3):=by
  unfold cd;rw[br h,Bool.true_and];exact decide_eq_decide.2 ω
 unfold rL;rw[e];cases s.ft<;>cases decide (s.ag.bp<3)<;>cases decide (0<(s.ag.bC.length:Int))<;>rfl
theorem ahL(c:J)(skip:List Int)(hz:gZ c)(b4:∀s∈c.aa,0<=s.ag.bp):aM 193 [.agg (J.enc c),.one (.sl 1 (skip.map bg))] [.one (.azF (D' c skip))]:=by
 refine ayE 56 func193 call193 [.tmp 4] ?_;have mo:=hz.1;have hW:D' c skip=(c.aa.filter (x7 skip)).map p9:=rfl;rw[hW];simp only[go_sem,I];refine cb.intro (α:=Nat×List ch) (λy=>⟨(.an::.d (.sl 1 (skip.map bg))::.ptr 0 0 0::.an::.an::.sl 1 0 y.2.length::aA 5 (.d (.azD c.aa)::.i c.aa.length::.i y.1::aA 42 [])),[.box (J.bx c),.ay 3 (y.2.map ch.enc) true]⟩)
  (λy=>c.aa.length-y.1) (λy=>y.1<=c.aa.length/\y.2=((c.aa.take y.1).filter (x7 skip)).map p9) (0,[]) [0,1] ⟨by simp,by simp⟩ ?_ ?_
 ·simp only[go_sem];simp
 rintro⟨i,q⟩ ⟨hi,hq⟩;simp only at hi hq;by_cases h1:i<c.aa.length
 ·have aq:=aro (i:=i) (n:=c.aa.length);have az:=b_ ae.enc c.aa i h1;have hw:=asc (i:=i);have hs:=arj skip c.aa i h1;rw[<-hq]at hs;have iL:q.length<=i:=by rw[hq,I];exact arP (arS _ _) (by simp;omega)
  have bY:=ark c.aa[i] (b4 _ (eK h1));have oF:=ari skip c.aa[i].id;generalize c.aa[i]=s at *
  try simp only[go_sem,I,aF,az,ae.enc,aq]
  repeat'(first|((first|refine af.i ?_|refine av.intro (by first|assumption|apply j7) ?_|apply bo)<;>simp only[go_sem,I])|refine⟨ae7,?_⟩|fail)
  rw[bY];cases hW:rL s
  ·have hB:x7 skip s=false:=by unfold x7;rw[hW];rfl
   rw[hB,if_neg ξ,ix]at hs;simp only[go_sem];refine bt.intro (i+1,q) [0,1] ⟨by simp only;omega,hs.symm⟩ (by simp only;omega) ?_;simp only[go_sem,hw];simp
  cases cg:skip.contains s.id
  ·have hB:x7 skip s:=by unfold x7;rw[hW,cg];rfl
   rw[hB,if_pos rfl]at hs
   try simp only[go_sem,I,b7]
   repeat'(first|refine⟨ae7,?_⟩|fail)
   refine bt.intro (i+1,q++[p9 s]) [0,4] ⟨by simp only;omega,hs.symm⟩ (by simp only;omega) ?_;simp only[go_sem,hw];simp[p9,ch.enc]
  have hB:x7 skip s=false:=by unfold x7;rw[hW,cg];rfl
  rw[hB,if_neg ξ,ix]at hs;simp only[go_sem,bz];refine bt.intro (i+1,q) [0,1] ⟨by simp only;omega,hs.symm⟩ (by simp only;omega) ?_;simp only[go_sem,hw];simp
 obtain⟨aq,rfl⟩:=arn (i:=i) (n:=c.aa.length);rw[da]at hq;simp only[go_sem,I,aq];simp[hq]
def XN:List (List bK):=cB 7 [2075,2077,2070,2173,2119,1944,1458]
def XO:List (List bK):=cB 12 [501956,501954,501948,501930,524839,524677,524191,522733,528160,511798,472392,354294]
def XP:List (List bK):=cB 14 [4773128,4780051,4780045,4780027,4779973,4779811,4782604,4781146,4776409,4763286,4723920,4605822,4251528,3188646]
def XQ:List (List bK):=cB 9 [19322,19320,18706,18688,18634,16645,19314,17739,13122]
attribute [go_sem] XN XO XP XQ
theorem ahv{c:J}(h:c.bU<=1000000)(b:Int):(bif bif !hZ c then true else !cd b 1 400 then true else decide (c.bU=1000000))=!rJ c b:=by
 rw[<-XH,show decide (c.bU=1000000)=decide (1000000<=c.bU)from decide_eq_decide.2 ω]
theorem ahw{s:aD}(h:dU s):0<=s.bp:=by
 simp only[dU,bm]at h;have h:=h.2;cases hr:jD s
 ·rw[hr]at h;simp only[Bool.false_eq_true,if_false,bm,bH]at h;rw[h.2];unfold h7
  repeat' split
  all_goals omega
 simp only[jD,Bool.or_eq_true,bH]at hr;omega
theorem ahx{c:J}(h:fo c){s:ae}(hs:s∈c.aa):0<=s.aU.bp:=by
 have h1:=h.m3 s hs;simp only[dt,Ci,F9,bm,ed]at h1;obtain⟨_,_,_,h2,_⟩:=h1;simp only[lZ,Cj,bm]at h2;have h:=h2.2
 repeat' split at h
 all_goals first|omega|cases h
theorem ahy{c:J}(h:fo c):∀s∈c.aa,0<=s.ag.bp:=λs hs=>ahw (jE.1 (h.m3 s hs)).1
theorem ahz(c:J)(b:Int)(m:Nat)(hv:bW m c)(hm:m<=20):aM 133 [.agg (J.enc c),.one (.i b)] [.one (.str (zJ c b)),.one (.i (qN c b)),.agg (J.enc ((j_ c b)))]:=by
 refine m_ 145 func133 call133 [.tmp 4,.tmp 5,.cell 6 37] ?_;intro ok;clear ok;have hz:=hv.sz hm;have lL:=lo hz;have bB:=sm hv;have Q0:=HY c ω;have AU:=LC c hz;rw[show(ki c&&decide (c.cX=0))=hZ c by unfold hZ;rw[AQ bB]]at AU;obtain⟨hcl,qE⟩:=QP hv;refine eE bE 4 (α:=Unit) (λ_=>⟨(.an::.i b::.ptr 0 0 0::aA 3 (.ptr 1 0 0::.ptr 4 0 0::.sl 5 0 0::.sl 6 0 0::.i b::aA 134 [])),[.box (J.bx c),.box J.ca,.aj 39 (c.aa.map ae.enc),.aj 2 (c.ai.map aL.enc),.azG c 2 3,.ay 9 [] true,.ay 1 [] true]⟩) (λ_=>rJ c b=true) ?_ ?_
 ·skip
  cases bG:hZ c
  ·rw[bG]at AU;have hg:rJ c b=false:=by unfold rJ;rw[bG];rfl
   try simp only[go_sem]
   repeat'(first|((first|refine af.j ?_|refine av.j ?_|with_reducible apply dp|refine a7 [[.post,.dL,.dL,.post],[.dL,.post,.post,.post],[.dL,.pre,.post,.post],[.pre,.pre,.pre,.post]] χ ψ ?_)<;>simp only[go_sem,I,b7])|refine⟨ae7,?_⟩|fail)
   simp[j_,zJ,qN,yx,hg]
  have ahA:c.bU<=1000000:=by
   have:ew c:=by unfold hZ at bG;simp only[bm]at bG;exact bG.1
   exact(pz.1 this).num.2
  have bY:=ahv ahA b;rw[bG]at AU bY;simp only[bz,eF]at bY
  try simp only[go_sem]
  repeat'((first|refine af.aj (by first|assumption|apply j7) ?_|refine av.j ?_|with_reducible apply cG|apply bo)<;>simp only[go_sem,I])
  rw[bY];cases hg:rJ c b
  ·try simp only[go_sem,b7]
   repeat'(first|(refine a7 [[.post,.dL,.dL,.post],[.dL,.post,.post,.post],[.dL,.pre,.post,.post],[.pre,.pre,.pre,.post]] χ ψ ?_<;>simp only[go_sem,I])|refine⟨ae7,?_⟩|fail)
   simp[j_,zJ,qN,yx,hg]
  try simp only[go_sem,bz]
  repeat'(first|refine⟨ae7,?_⟩|fail)
  refine cZ.intro () [0,1,2,3,4,5,6] (by first|exact hg|trivial) ?_;simp only[go_sem];simp
 rintro _ hg;have cg:fo c:=pz.1 (L' hg).1;have ahB:=ahC cg;have hA:ck c b=(fc c).foldl iC ⟨c,[],b⟩:=rfl;have ahD:=agk c hz bB (λs hs=>ahx cg hs);refine eE bE 1 (α:=Unit) (λ_=>⟨(.an::.i b::.ptr 0 0 0::aA 3 (.ptr 1 0 0::.ptr 4 0 0::.sl 5 0 (ck c b).b2.length::.sl 6 0 0::.d (.i (ck c b).room)::aA 134 [])),[.box (J.bx c),.box J.ca,.aj 39 ((ck c b).x.aa.map ae.enc),.aj 2 ((ck c b).x.ai.map aL.enc),.box [.d (.bool (ck c b).x.bq),.d (.i (ck c b).x.own.aB),.d (.i (ck c b).x.own.bL),.d (.i (ck c b).x.own.nh),.d (.i (ck c b).x.own.cn),.d (.i (ck c b).x.own.ni),.d (.i (ck c b).x.own.mz),.d (.i (ck c b).x.own.fG),.d (.i (ck c b).x.own.eU),.d (.i (ck c b).x.cP.aB),.d (.i (ck c b).x.cP.bL),.d (.i (ck c b).x.cP.nh),.d (.i (ck c b).x.cP.cn),.d (.i (ck c b).x.cP.ni),.d (.i (ck c b).x.cP.mz),.d (.i (ck c b).x.cP.fG),.d (.i (ck c b).x.cP.eU),.sl 2 0 (ck c b).x.aa.length,.d (.i (ck c b).x.cn.aX),.d (.i (ck c b).x.cn.dV),.d (.i (ck c b).x.cn.blocked),.d (.i (ck c b).x.cn.gA),.d (.i (ck c b).x.c7.size),.d (.i (ck c b).x.c7.cm),.d (.i (ck c b).x.c7.aX),.d (.i (ck c b).x.c7.seen),.d (.i (ck c b).x.c7.fa),.d (.i (ck c b).x.c7.k9),.d (.i (ck c b).x.eY.aX),.d (.i (ck c b).x.eY.iy),.d (.i (ck c b).x.eY.blocked),.d (.i (ck c b).x.eZ.aX),.d (.i (ck c b).x.eZ.iy),.d (.i (ck c b).x.eZ.blocked),.d (.i (ck c b).x.dB.cm),.d (.i (ck c b).x.dB.aX),.d (.i (ck c b).x.dB.seen),.d (.i (ck c b).x.dB.cX),.d (.i (ck c b).x.dC.cm),.d (.i (ck c b).x.dC.aX),.d (.i (ck c b).x.dC.seen),.d (.i (ck c b).x.dC.cX),.d (.bool (ck c b).x.p2),.d (.bool (ck c b).x.mA),.d (.bool (ck c b).x.mB),.d (.i (ck c b).x.dw),.d (.i (ck c b).x.bU),.sl 3 0 (ck c b).x.ai.length,.d (.i (ck c b).x.dA),.d (.i (ck c b).x.cX)],.ay 9 ((ck c b).b2.map al.enc) true,.ay 1 [] true]⟩) (λ_=>True) ?_ ?_
 ·simp only[go_sem];refine af.intro ahD ?_;simp only[go_sem,I];refine cb.intro (α:=Nat×xt) (λy=>⟨(.an::.i b::.ptr 0 0 0::aA 3 (.ptr 1 0 0::.ptr 4 0 0::.sl 5 0 y.2.b2.length::.sl 6 0 0::.i y.2.room::aA 29 (.sl 7 0 (fc c).length::.d (.i (fc c).length)::.i y.1::aA 102 []))),[.box (J.bx c),.box J.ca,.aj 39 (y.2.x.aa.map ae.enc),.aj 2 (y.2.x.ai.map aL.enc),.azG y.2.x 2 3,.azy y.2.b2,.ay 1 [] true,.azy (fc c)]⟩)
   (λy=>(fc c).length-y.1) (λy=>y.1<=(fc c).length/\y.2=((fc c).take y.1).foldl iC ⟨c,[],b⟩/\oU m y.1 y.2.x y.2.b2/\∀f∈fc c,D_ y.2.x f) (0,⟨c,[],b⟩) [0,1,2,3,4,5,6,7] ⟨by simp,by simp,⟨hv,by simp,by simp⟩,ahB⟩ ?_ ?_
  ·simp only[go_sem];simp
  rintro⟨i,q⟩ ⟨hi,hq,aE,cR⟩;simp only at hi hq aE cR;by_cases h1:i<(fc c).length
  ·have aq:=br (p:=(i:Int)<((fc c).length:Int)) ω;have az:=b_ al.enc (fc c) i h1;have hw:=asc (i:=i);have hs:((fc c).take (i+1)).foldl iC ⟨c,[],b⟩=iC q (fc c)[i]:=by
    rw[gO,cy h1,List.foldl_append,<-hq];rfl
   have Iv:qO (fc c)[i]:=qE _ (eK h1);have AZ:=QQ aE Iv;have ahE:=cR _ (eK h1);have Ck:∀g∈fc c,D_ (iC q (fc c)[i]).x g:=λg hg=>by
    unfold iC;split
    ·exact ahF (cR g hg) _
    exact cR g hg
   generalize (fc c)[i]=f at *;have ef:f.data.length<=60:=Iv;have arz:=ahG q.x f (aE.c.sz hm) (sm aE.c) ahE;have IC:=Q1 f.aY f.ax f.aP f.data f.aS f.cS f.aX f.bf f.fG ω;change PureCall _ _ _ [.one (.i ((eS f).length:Int))]at IC;have A0:iC q f=if((eS f).length:Int)<=q.room then⟨iU q.x f,q.b2++[f],i64.wrap (q.room-((eS f).length:Int))⟩else q:=rfl
   have ahg:=aE.n
   try simp only[go_sem,I,aF,az,al.enc,aq]
   repeat'(first|((first|refine af.i ?_|refine av.i ?_)<;>simp only[go_sem])|refine⟨ae7,?_⟩|fail)
   cases xu:decide (((eS f).length:Int)<=q.room)
   ·rw[if_neg (de xu)]at A0;rw[A0]at hs AZ Ck;simp only[go_sem];refine bt.intro (i+1,q) [0,1,2,3,4,5,6,7] ⟨by simp only;omega,hs.symm,AZ,Ck⟩ (by simp only;omega) ?_;simp only[go_sem,hw];simp
   rw[if_pos (cY xu)]at A0;rw[A0]at hs AZ Ck
   try simp only[go_sem,I]
   repeat'(first|((first|refine af.j ?_|refine av.j ?_)<;>simp only[go_sem,I])|refine⟨ae7,?_⟩|fail)
   refine bt.intro (i+1,⟨iU q.x f,q.b2++[f],i64.wrap (q.room-((eS f).length:Int))⟩) [0,1,11,12,4,10,6,7] ⟨by simp only;omega,hs.symm,AZ,Ck⟩ (by simp only;omega) ?_;simp only[go_sem,hw];simp[al.enc]
  have aq:=bn (p:=(i:Int)<((fc c).length:Int)) ω;obtain rfl:i=(fc c).length:=by omega
  rw[da,<-hA]at hq;subst hq;simp only[go_sem,aq];refine cZ.intro () [0,1,2,3,4,5,6] trivial ?_;simp only[go_sem];simp
 rintro _ _;have D6:=QS hv b;have ahH:fo (ck c b).x:=(Ma (fc c) ⟨c,[],b⟩ hv cg).1;have D7:=QT hv ω b;have hB:ja 200 ⟨(ck c b).x,[],(ck c b).b2,(ck c b).room⟩=dy c b:=rfl;have a3:j_ c b=if(dy c b).b2=[]then(dy c b).x else {(dy c b).x with ai:=(dy c b).x.ai++[⟨c.bU,(dy c b).b2⟩],bU:=i64.wrap (c.bU+1)}:=by unfold j_;rw[hg];rfl
 have sH:yx c b=!decide ((dy c b).b2=[]):=by unfold yx;rw[hg];rfl
 have cR:zJ c b=if yx c b then xv (dy c b).b2 else []:=rfl
 have XR:(dy c b).x.bU=c.bU:=(XS c b).n;have Q2:=ahI hv ω cg (b:=b) (by have:=(L' hg).2.2.1;omega) (by have:=(L' hg).2.2.2.1;omega);have ahJ:=D6.n;generalize ck c b=D8 at *;refine eE bE 1 (α:=Unit) (λ_=>⟨(.an::.an::.ptr 0 0 0::aA 3 (.ptr 1 0 0::.ptr 4 0 0::.sl 5 0 (dy c b).b2.length::aA 136 [])),[.box (J.bx c),.box J.ca,.aj 39 ((dy c b).x.aa.map ae.enc),.aj 2 ((dy c b).x.ai.map aL.enc),.box [.d (.bool (dy c b).x.bq),.d (.i (dy c b).x.own.aB),.d (.i (dy c b).x.own.bL),.d (.i (dy c b).x.own.nh),.d (.i (dy c b).x.own.cn),.d (.i (dy c b).x.own.ni),.d (.i (dy c b).x.own.mz),.d (.i (dy c b).x.own.fG),.d (.i (dy c b).x.own.eU),.d (.i (dy c b).x.cP.aB),.d (.i (dy c b).x.cP.bL),.d (.i (dy c b).x.cP.nh),.d (.i (dy c b).x.cP.cn),.d (.i (dy c b).x.cP.ni),.d (.i (dy c b).x.cP.mz),.d (.i (dy c b).x.cP.fG),.d (.i (dy c b).x.cP.eU),.sl 2 0 (dy c b).x.aa.length,.d (.i (dy c b).x.cn.aX),.d (.i (dy c b).x.cn.dV),.d (.i (dy c b).x.cn.blocked),.d (.i (dy c b).x.cn.gA),.d (.i (dy c b).x.c7.size),.d (.i (dy c b).x.c7.cm),.d (.i (dy c b).x.c7.aX),.d (.i (dy c b).x.c7.seen),.d (.i (dy c b).x.c7.fa),.d (.i (dy c b).x.c7.k9),.d (.i (dy c b).x.eY.aX),.d (.i (dy c b).x.eY.iy),.d (.i (dy c b).x.eY.blocked),.d (.i (dy c b).x.eZ.aX),.d (.i (dy c b).x.eZ.iy),.d (.i (dy c b).x.eZ.blocked),.d (.i (dy c b).x.dB.cm),.d (.i (dy c b).x.dB.aX),.d (.i (dy c b).x.dB.seen),.d (.i (dy c b).x.dB.cX),.d (.i (dy c b).x.dC.cm),.d (.i (dy c b).x.dC.aX),.d (.i (dy c b).x.dC.seen),.d (.i (dy c b).x.dC.cX),.d (.bool (dy c b).x.p2),.d (.bool (dy c b).x.mA),.d (.bool (dy c b).x.mB),.d (.i (dy c b).x.dw),.d (.i (dy c b).x.bU),.sl 3 0 (dy c b).x.ai.length,.d (.i (dy c b).x.dA),.d (.i (dy c b).x.cX)],.ay 9 ((dy c b).b2.map al.enc) true]⟩) (λ_=>True) ?_ ?_
 ·simp only[go_sem];refine cb.intro (α:=Nat×n5) (λy=>⟨(.an::.an::.ptr 0 0 0::aA 3 (.ptr 1 0 0::.ptr 4 0 0::.sl 5 0 y.2.b2.length::.sl 6 0 y.2.skip.length::.i y.2.room::aA 51 (.i (200-(y.1:Int))::aA 82 []))),[.box (J.bx c),.box J.ca,.aj 39 (y.2.x.aa.map ae.enc),.aj 2 (y.2.x.ai.map aL.enc),.azG y.2.x 2 3,.azy y.2.b2,.azu y.2.skip]⟩)
   (λy=>y.1) (λy=>y.1<=200/\ja y.1 y.2=dy c b/\oU m (302-y.1) y.2.x y.2.b2/\fo y.2.x/\y.2.skip.length+y.1<=200) (200,⟨D8.x,[],D8.b2,D8.room⟩) [0,1,2,3,4,5,6] ⟨by simp,hB,⟨D6.c,by simpa using ahJ,D6.d⟩,ahH,by simp⟩ ?_ ?_
  ·simp only[go_sem];simp
  rintro⟨n,q⟩ ⟨hn,ah,aE,Mb,QU⟩;simp only at hn ah aE Mb QU;have Q3:=aE.c.sz hm
  cases n with
  |zero=>
   have hd:decide ((200:Int)-((0:Nat):Int)<200)=false:=by decide
   rw[ja]at ah;simp only[go_sem,hd];rw[ah];refine cZ.intro () [0,1,2,3,4,5] trivial ?_;simp only[go_sem];simp
  |succ k=>
   have hd:=br (p:=(200:Int)-((k+1:Nat):Int)<200) ω;have hw:i64.wrap ((200:Int)-((k+1:Nat):Int)+1)=200-(k:Int):=by rw[bw]<;>omega
   have ahj:q.skip.length<=200:=by omega
   have QV:(D' q.x q.skip).length<=30:=by
    unfold D';rw[I];exact arP (arS _ _) Q3.1
   have ahK:=ahL q.x q.skip Q3 (ahy Mb);have XT:=ahM (D' q.x q.skip) q.x.dw ω;rw[ahN,XU]at XT;rw[show zL (A1 q) q.x.dw=fA q from rfl]at XT;rw[XU]at ahK QV;have QW:=F8 (q:=q);rw[ja]at ah;have ahO:=ahP q.x (fA q) q.room m aE.c hm;rw[show m2 q.x (fA q) q.room=jU q from rfl]at ahO;have gz:(jU q).1.data.length<=60:=Iy aE.c ω (fA q) q.room
   try simp only[go_sem,hd]
   repeat'((first|refine af.j ?_|refine av.j ?_|refine a7 XN χ ψ ?_)<;>simp only[go_sem,I])
   cases Iz:decide (fA q<0)
   ·have QX:=de Iz;rw[if_neg QX]at ah;have rh:=QW ω
    try simp only[go_sem,I]
    repeat'((first|refine af.j ?_|refine av.j ?_)<;>simp only[go_sem])
    cases hp:(jU q).2
    ·rw[hp,if_neg ξ]at ah;simp only[go_sem,b7];have ahQ:=IA aE.c rh;have ahR:=Q4 Mb rh;have XV:D9 q.x (fA q)={q.x with cn:=l' q.x.cn,aa:=dv q.x.aa (px (aC q.x (fA q)))}:=rfl;have x_:=DA q.x.aa (fA q);rcases m' (eB (fA q)) q.x.aa with ⟨b5,b8⟩|⟨i,iN,b5,b8,dI⟩
     ·exfalso;unfold bQ at rh;rw[b8]at rh;cases rh
     rw[b5]at x_;have az:=b_ ae.enc q.x.aa i iN;have Cl:aC q.x (fA q)=q.x.aa[i]:=FI b5 iN;have cO:q.x.aa[i].id=fA q:=H2 b5 iN;have cF:=PZ (Y:=px q.x.aa[i]) b5 iN cO;rw[eA (by rw[eh,e0,arJ,List.length_drop,I];omega)]at cF;have fU:(dv q.x.aa (px q.x.aa[i])).length=q.x.aa.length:=XW (by show(bQ q.x.aa q.x.aa[i].id).2=true;rw[cO];exact rh);have hlt:i=((q.x.aa.map ae.enc).take i).length:=by rw[arJ,I];omega
     rw[Cl]at XV;generalize q.x.aa[i]=aw at *;simp only[ae.enc,px]at cF;refine af.lp [2,6,7,8,9,10,14,62] (by simp only[i3,List.elem_cons,List.elem_nil,Nat.reduceBEq,Nat.reduceAdd,d4,eF];rfl) (Q5 (n:=16) (rs:=[.tmp 4]) func86 rfl call86 rfl rfl ?_);simp only[go_sem];refine pR bE 2 ?_
     try simp only[go_sem]
     repeat'(first|((first|refine af.i ?_|refine av.i ?_|refine a7 XO χ ψ ?_)<;>simp only[go_sem,I,aF])|refine⟨ae7,?_⟩|fail)
     refine DB 2 i ?_;simp only[go_sem,I,az,ae.enc];refine gJ bE ?_
     try simp only[go_sem]
     repeat'(first|((first|refine af.i ?_|refine av.intro (by first|assumption|apply ahS) ?_|with_reducible apply dp|refine a7 XP χ ψ ?_)<;>simp only[go_sem,I])|refine⟨ae7,?_⟩|fail)
     refine bt.close 2 (k,sM q) [0,1,2,3,4,5,15] ⟨by simp only;omega,ah,⟨ahQ,by have:=aE.n;simp only[sM];omega,aE.d⟩,ahR,by simp only[sM,eh,e0,g1];omega⟩ (by simp only;omega) ?_;simp only[go_sem,I,hw];refine au ?_;simp only[sM,XV,px,<-cF];simp;exact⟨fU,rfl⟩
    rw[hp,if_pos rfl]at ah;simp only[go_sem,I,bz];have arA:=ahT q.x (fA q) (jU q).1 Q3 (sm aE.c) ω;have QZ:=IB aE.c (fA q) (jU q).1 ω;have ahU:=Q6 aE.c ω Mb (fA q) (jU q).1
    try simp only[go_sem,I]
    repeat'((first|refine af.j ?_|refine av.j ?_|with_reducible apply cG|apply bo)<;>simp only[go_sem,I])
    cases rK:py q.x (fA q) (jU q).1
    ·rw[rK,if_neg ξ]at ah;simp only[go_sem,b7];rw[ah];refine cZ.intro () [0,1,2,3,4,5] trivial ?_;simp only[go_sem];simp
    rw[rK,if_pos rfl]at ah;have IC:=Q1 8 (fA q) (jU q).1.aP (jU q).1.data (jU q).1.aS 0 0 0 false ω;change PureCall _ _ _ [.one (.i ((eS (gE (fA q) (jU q).1)).length:Int))]at IC;have ahu:=aE.n
    try simp only[go_sem,bz]
    repeat'(first|((first|refine af.intro (by first|assumption|apply XX) ?_|refine av.i ?_)<;>simp only[go_sem,I,gE])|refine⟨ae7,?_⟩|fail)
    refine bt.intro (k,yz q) [0,1,9,10,4,13,6] ⟨by simp only;omega,ah,(aE.add QZ (f:=gE (fA q) (jU q).1) gz).mono ω,ahU,by simp only[yz];omega⟩ (by simp only;omega) ?_;simp only[go_sem,hw,yz,gE];simp
   rw[if_pos (cY Iz)]at ah;simp only[go_sem];rw[ah];refine cZ.intro () [0,1,2,3,4,5] trivial ?_;simp only[go_sem];simp
 rintro _ _;refine Fl 3 rfl ?_;generalize dy c b=oV at *;refine gJ bE ?_;simp only[go_sem];have gz:oV.x.ai.length<=20:=arP D7.c.sG hm;have hn:=cg.num;have XY:i64.wrap (i64.wrap (c.bU+1)-1)=c.bU:=by rw[bw (n:=c.bU+1) ω ω,bw]<;>omega
 cases sJ:decide (oV.b2=[])
 ·have yy:=de sJ;have hd:=bn (p:=(oV.b2.length:Int)=0) (λh=>yy (List.length_eq_zero_iff.1 ω));rw[sJ]at sH;rw[if_neg yy]at a3;have arB:=ahV oV.b2 Q2.ok (by have:=Q2.sum;have:=Q2.r0;have:=(L' hg).2.2.2.1;omega)
  try simp only[go_sem,I,hd,XR]
  repeat'(first|((first|refine af.i ?_|refine av.i ?_|refine a7 XQ χ ψ ?_)<;>simp only[go_sem,I,XY])|refine⟨ae7,?_⟩|fail)
  rw[sH]at cR;simp[a3,cR,qN,sH,aL.enc,eA]
 have yy:=cY sJ;have hd:=br (p:=(oV.b2.length:Int)=0) (by rw[yy];rfl);rw[sJ]at sH;rw[if_pos yy]at a3;rw[sH]at cR
 try simp only[go_sem,hd]
 repeat'(first|(refine a7 [[.post,.dL,.dL,.post],[.dL,.post,.post,.post],[.dL,.pre,.post,.post],[.pre,.pre,.pre,.post]] χ ψ ?_<;>simp only[go_sem,I])|refine⟨ae7,?_⟩|fail)
 simp[a3,cR,qN,sH]
theorem alm(c:J)(m:Nat)(hv:bW m c)(hm:m<=20):aM 78 [.agg (J.enc c)] [.one (.bool (decide (qN c 400≠-1)))]:=by
 refine ayE 14 func78 call78 [.tmp 2] ?_;have f:=ahz c 400 m hv hm;simp only[go_sem];refine af.intro f ?_;simp only[go_sem,I]
theorem aln(c:J)(m:Nat)(hv:bW m c)(hm:m<=20):aM 79 [.agg (J.enc c)] [.one (.bool (decide (qN c 400≠-1)))]:=by
 refine ayE 14 func79 call79 [.tmp 2] ?_;have f:=XI c 400 m hv hm;simp only[go_sem];refine af.intro f ?_;simp only[go_sem,I]
def adS:List (List bK):=cB 14 [4604729,4605793,4605787,4605808,4605742,4605580,4605094,4603635,4599261,4527090,4035015,4694395,4310577,3188646]
attribute [go_sem] adS
theorem adT(c:J)(i:Nat)(h:i<c.ai.length):((c.ai.map λp=>p.bU).take (i+1)).foldl g0 c=g0 (((c.ai.map λp=>p.bU).take i).foldl g0 c) c.ai[i].bU:=by
 rw[x4 g0 c _ i (by simpa using h)];simp
theorem al5(c:J)(m:Nat)(hv:bW m c)(hm:m<=20):aM 16 [.agg (J.enc c)] [.agg (J.enc ((xU c)))]:=by
 refine ayE 24 func16 call16 [.cell 2 37] ?_;have hz:=hv.sz hm;have lL:=lo hz
 try simp only[go_sem]
 repeat'(refine af.aj (by(apply HY<;>exact aT)) ?_<;>simp only[go_sem,I])
 refine cb.intro (α:=Nat×J) (λq=>⟨(.an::.an::.ptr 1 0 0::.ptr 4 0 0::aA 5 (.d (.azC c.ai)::.i c.ai.length::.i q.1::aA 12 [])),[.box (J.bx c),.box J.ca,.aj 39 (q.2.aa.map ae.enc),.aj 2 (q.2.ai.map aL.enc),.azG q.2 2 3]⟩)
  (λq=>c.ai.length-q.1) (λq=>q.1<=c.ai.length/\q.2=((c.ai.map λp=>p.bU).take q.1).foldl g0 c) (0,c) [0,1,2,3,4] ⟨by simp,by simp⟩ ?_ ?_
 ·simp only[go_sem];simp
 rintro⟨k,x⟩ ⟨hk,hx⟩;simp only at hk hx⊢;by_cases h1:k<c.ai.length
 ·have aq:=aro (i:=k) (n:=c.ai.length);have az:=b_ aL.enc c.ai k h1;have hl:=hz.2.2.1;have hw:=asc (i:=k);have b4:=adT c k h1;rw[<-hx]at b4;have mn:bW m x:=by rw[hx];exact NM _ hv
  have aa8:=aa4 x c.ai[k].bU m mn hm;generalize c.ai[k]=p at *
  try simp only[go_sem,I,aF,az,aL.enc,aq]
  repeat'(first|((first|refine af.j ?_|refine av.j ?_)<;>simp only[go_sem,I])|refine⟨ae7,?_⟩|fail)
  refine bt.intro (k+1,g0 x p.bU) [0,1,6,7,4] ⟨by simp only;omega,b4.symm⟩ (show c.ai.length-(k+1)<c.ai.length-k by omega) ?_;simp only[go_sem,hw];simp
 obtain⟨aq,rfl⟩:=arn (i:=k) (n:=c.ai.length);rw[eA ξ]at hx;have hx:x=xU c:=hx
 try simp only[go_sem,I,aq]
 repeat'(first|refine⟨ae7,?_⟩|fail)
 rw[<-hx]
 try simp[outOA,fb]
theorem al6(c:J)(m:Nat)(hv:bW m c)(hm:m<=20):aM 17 [.agg (J.enc c)] [.agg (J.enc ((xU c)))]:=by
 refine ayE 29 func17 call17 [.cell 2 37] ?_;have hz:=hv.sz hm;have lL:=lo hz
 try simp only[go_sem]
 repeat'(refine af.aj (by(apply jd<;>exact aT)) ?_<;>simp only[go_sem,I])
 refine cb.intro (α:=Nat×J) (λq=>⟨(.an::.ptr 0 0 0::.ptr 1 0 0::.ptr 4 0 0::.i q.1::aA 24 []),[.box (J.bx c),.box J.ca,.aj 39 (q.2.aa.map ae.enc),.aj 2 (q.2.ai.map aL.enc),.azG q.2 2 3]⟩)
  (λq=>c.ai.length-q.1) (λq=>q.1<=c.ai.length/\q.2=((c.ai.map λp=>p.bU).take q.1).foldl g0 c) (0,c) [0,1,2,3,4] ⟨by simp,by simp⟩ ?_ ?_
 ·simp only[go_sem];simp
 rintro⟨k,x⟩ ⟨hk,hx⟩;simp only at hk hx⊢;by_cases h1:k<c.ai.length
 ·have aq:=aro (i:=k) (n:=c.ai.length);have az:=b_ aL.enc c.ai k h1;have hl:=hz.2.2.1;have hw:=asc (i:=k);have b4:=adT c k h1;rw[<-hx]at b4;have mn:bW m x:=by rw[hx];exact NM _ hv
  have aa8:=Po x c.ai[k].bU m mn hm;generalize c.ai[k]=p at *
  try simp only[go_sem,I,aq]
  repeat'(first|((first|refine af.j ?_|refine av.j ?_|refine a7 adS χ ψ ?_)<;>simp only[go_sem,I,aF,az,aL.enc])|refine⟨ae7,?_⟩|fail)
  refine bt.intro (k+1,g0 x p.bU) [0,1,5,6,4] ⟨by simp only;omega,b4.symm⟩ (show c.ai.length-(k+1)<c.ai.length-k by omega) ?_;simp only[go_sem,hw];simp
 obtain⟨aq,rfl⟩:=arn (i:=k) (n:=c.ai.length);rw[eA ξ]at hx;have hx:x=xU c:=hx
 try simp only[go_sem,I,aq]
 repeat'(first|refine⟨ae7,?_⟩|fail)
 rw[<-hx]
 try simp[outOA,fb]
theorem adU(l:List ae)(i:Nat)(h:i<l.length):(l.take (i+1)).foldl zd 0=i64.wrap ((l.take i).foldl zd 0+jH l[i].ag.bc):=x4 zd 0 l i h
theorem aa9(c:J)(hz:gZ c)(bB:∀s∈c.aa,ov s.ag):aM 20 [.agg (J.enc c)] [.one (.i (C0 c))]:=by
 refine ayE 24 func20 call20 [.tmp 2] ?_;have sP:=B0 c hz;rw[<-AQ bB]at sP;have ah:C0 c=if ew c then c.aa.foldl zd 0 else 0:=rfl
 cases aE:ew c
 ·rw[aE,if_neg ξ]at ah;rw[aE]at sP
  try simp only[go_sem]
  repeat'((first|refine af.i ?_|refine av.i ?_)<;>simp only[go_sem,b7])
  try rw[ah]
 rw[aE,if_pos rfl]at ah;rw[aE]at sP
 try simp only[go_sem]
 repeat'((first|refine af.i ?_|refine av.i ?_)<;>simp only[go_sem,I,bz])
 refine cb.intro (λk:Nat=>⟨(aA 3 (.i ((c.aa.take k).foldl zd 0)::aA 6 (.d (.azD c.aa)::.i c.aa.length::.i k::aA 11 []))),[.box (J.bx c)]⟩) (λk=>c.aa.length-k) (λk=>k<=c.aa.length) 0 [0] ω ?_ ?_
 ·simp only[go_sem];simp
 intro k hk;by_cases h1:k<c.aa.length
 ·have aq:=aro (i:=k) (n:=c.aa.length);have az:=b_ ae.enc c.aa k h1;have hl:=hz.1;have hw:=asc (i:=k);have b4:=adU c.aa k h1;have oF:=OO c.aa[k].ag.bc;generalize c.aa[k]=s at *
  try simp only[go_sem,I,aF,az,ae.enc,aq]
  repeat'(first|((first|refine af.i ?_|refine av.i ?_)<;>simp only[go_sem])|refine⟨ae7,?_⟩|fail)
  refine bt.intro (k+1) [0] ω ω ?_;simp only[go_sem,hw,b4];simp
 obtain⟨aq,rfl⟩:=arn (i:=k) (n:=c.aa.length);rw[da]
 try simp only[go_sem,aq]
 try rw[ah]
theorem al8(c:J)(hz:gZ c):aM 24 [.agg (J.enc c)] [.one (.i (C0 c))]:=by
 refine ayE 27 func24 call24 [.tmp 2] ?_;have sP:=lu c hz;have ah:C0 c=if ew c then c.aa.foldl zd 0 else 0:=rfl
 have i6:∀b:Bool,(bif b then false else false)=false:=by intro b;cases b<;>rfl
 try simp only[go_sem]
 refine cb.intro (λk:Nat=>⟨(.an::.ptr 0 0 0::.an::.i ((c.aa.take k).foldl zd 0)::.i k::aA 22 []),[.box (J.bx c)]⟩) (λk=>c.aa.length-k) (λk=>k<=c.aa.length/\(k=0\/ew c=true)) 0 [0] ⟨by omega,.inl rfl⟩ ?_ ?_
 ·simp only[go_sem];simp
 rintro k ⟨hk,xz⟩;cases aE:ew c
 ·obtain rfl:k=0:=by rw[aE]at xz;simpa using xz
  rw[aE,if_neg ξ]at ah;rw[aE]at sP
  try simp only[go_sem,I]
  repeat'((first|refine af.i ?_|refine av.i ?_|apply bo)<;>simp only[go_sem,i6])
  try rw[ah];rfl
 rw[aE,if_pos rfl]at ah;rw[aE]at sP;by_cases h1:k<c.aa.length
 ·have aq:=aro (i:=k) (n:=c.aa.length);have az:=b_ ae.enc c.aa k h1;have hl:=hz.1;have hw:=asc (i:=k);have b4:=adU c.aa k h1;have oF:=Dh c.aa[k].ag.bc;generalize c.aa[k]=s at *
  try simp only[go_sem,I,aq]
  repeat'(first|((first|refine af.i ?_|refine av.i ?_|with_reducible apply cG)<;>simp only[go_sem,I,aF,az,ae.enc])|refine⟨ae7,?_⟩|fail)
  refine bt.intro (k+1) [0] ⟨by omega,.inr (by first|exact aE|trivial)⟩ ω ?_;simp only[go_sem,hw,b4];simp
 obtain⟨aq,rfl⟩:=arn (i:=k) (n:=c.aa.length);rw[da]
 try simp only[go_sem,I,aq]
 repeat'((first|refine af.i ?_|refine av.i ?_|with_reducible apply dp)<;>simp only[go_sem])
 try rw[ah]
def Tk(c:J):Bool:=(ew c&&decide (c.cX=0))&&decide ((c.ai.length:Int)=0)&&!decide (qN c 400≠-1)
theorem adV(a b q:Bool):(bif (bif a then b else false)then q else false)=(a&&b&&q):=by cases a<;>cases b<;>rfl
theorem al9(c:J)(m:Nat)(hv:bW m c)(hm:m<=20):aM 25 [.agg (J.enc c)] [.one (.bool (Tk c))]:=by
 refine ayE 16 func25 call25 [.tmp 2] ?_;have hz:=hv.sz hm;have AU:=LC c hz;rw[<-AQ (sm hv)]at AU;have sI:=alm c m hv hm
 try simp only[go_sem]
 repeat'((first|refine af.i ?_|refine av.i ?_|apply bo)<;>simp only[go_sem,I])
 try rw[adV];rfl
theorem ama(c:J)(m:Nat)(hv:bW m c)(hm:m<=20):aM 26 [.agg (J.enc c)] [.one (.bool (Tk c))]:=by
 refine ayE 16 func26 call26 [.tmp 2] ?_;have hz:=hv.sz hm;have AU:=x8 c hz;have sI:=aln c m hv hm
 try simp only[go_sem]
 repeat'((first|refine af.i ?_|refine av.i ?_|apply bo)<;>simp only[go_sem,I])
 try rw[adV];rfl
def Q9:List (List bK):=cB 11 [147734,147732,147739,147717,147663,174838,174352,176053,170707,157585,118098]
def X7:List (List bK):=cB 10 [55805,55807,55800,55782,58765,58927,58360,56902,52488,39366]
def X8:List (List bK):=cB 26 [2541865798922,2541865798924,2541865798917,2541865798899,2541865798845,2541865827478,2541865827964,2541865826263,2541865821889,2541865808767,2541865769280,2541865651182,2400842644569,2400843707451,2400839987364,2400830421426,2400801723612,2400715630170,2540509590897,2541284431875,2538572488452,2531598919650,2510678213244,2447916094026,2259436291848,1694577218886]
def X9:List (List bK):=cB 17 [107619836,107619838,107619831,107619813,107619759,107619961,107619354,107617896,127522876,127535998,127490071,127371973,127017679,128343001,124360474,114794536,86093442]
attribute [go_sem] Q9 X7 X8 X9
theorem ah8(x:dk):aM 212 [.agg [.i x.size,.i x.base,.i x.bS,.sl 1 (x.cells.map bg)],.agg [.i x.size,.i x.base,.i x.bS,.sl 1 (x.cells.map bg)]] [.one (.bool true)]:=by
 refine aW 52 func212 call212 [.tmp 4] ?_;intro ok;have hm:x.cells.length<=maxLen:=by have h:=(ok.1.2.2.2.1).1;rwa [I]at h
 clear ok;simp only[go_sem]
 repeat((first|apply bo|apply fY);simp only[go_sem,I])
 refine bX (λh=>absurd h ξ) (λ_=>?_);simp only[go_sem];refine cb.intro (λi:Nat=>⟨(.an::.an::.ptr 0 0 0::.ptr 1 0 0::.d (.bool false)::.i i::aA 46 []),[.box [.i x.size,.i x.base,.i x.bS,.d (.sl 1 (x.cells.map bg))],.box [.i x.size,.i x.base,.i x.bS,.d (.sl 1 (x.cells.map bg))]]⟩) (λi=>x.cells.length-i) (λi=>i<=x.cells.length) 0 [0,1] ω ?_ ?_
 ·simp only[go_sem];simp
 intro i hi;simp only[go_sem,I];refine bX (λh1=>?_) (λ_=>by simp only[go_sem]);simp only[bH]at h1;have hl:i<x.cells.length:=by omega
 have hx:=b_ bg x.cells i hl;have hw:=d8 (i:=i) (m:=x.cells.length) hl hm;have hz:decide (x.cells[i]≠x.cells[i])=false:=by simp
 try simp only[go_sem]
 repeat'(first|(refine a7 Q9 χ ψ ?_<;>simp only[go_sem,I,aF,hx,bg,hw,hz])|refine⟨ae7,?_⟩|fail)
 all_goals(refine bt.intro (i+1) [0,1] ω ω ?_;simp only[go_sem];try simp)
theorem ah9(x:nX):aM 213 [.agg [.i x.next,.azB x.cq],.agg [.i x.next,.azB x.cq]] [.one (.bool true)]:=by
 refine aW 38 func213 call213 [.tmp 4] ?_;intro ok;have hm:x.cq.length<=maxLen:=by have h:=(ok.1.2.1).1;rwa [I]at h
 clear ok;simp only[go_sem]
 repeat((first|apply bo|apply fY);simp only[go_sem,I])
 refine bX (λh=>absurd h ξ) (λ_=>?_);simp only[go_sem];refine cb.intro (λi:Nat=>⟨(.an::.an::.ptr 0 0 0::.ptr 1 0 0::.d (.bool false)::.i i::aA 32 []),[.box [.i x.next,.d (.azB x.cq)],.box [.i x.next,.d (.azB x.cq)]]⟩) (λi=>x.cq.length-i) (λi=>i<=x.cq.length) 0 [0,1] ω ?_ ?_
 ·simp only[go_sem];simp
 intro i hi;simp only[go_sem,I];refine bX (λh1=>?_) (λ_=>by simp only[go_sem]);simp only[bH]at h1;have hl:i<x.cq.length:=by omega
 have hx:=b_ aR.enc x.cq i hl;have hw:=d8 (i:=i) (m:=x.cq.length) hl hm;have hz:(decide (x.cq[i].aP=x.cq[i].aP)&&decide (x.cq[i].data=x.cq[i].data)):=by simp
 try simp only[go_sem]
 repeat'(first|(refine a7 Q9 χ ψ ?_<;>simp only[go_sem,I,aF,hx,aR.enc,hw,bz])|refine⟨ae7,?_⟩|fail)
 all_goals(refine bt.intro (i+1) [0,1] ω ω ?_;simp only[go_sem];try simp)
theorem aia(x:cf):aM 167 [.agg (cf.enc x),.agg (cf.enc x)] [.one (.bool true)]:=by
 refine ayE 38 func167 call167 [.tmp 4] ?_
 try simp only[go_sem]
 repeat'((first|refine af.intro (by apply ah9) ?_|with_reducible apply cG)<;>simp only[go_sem])
 all_goals(apply fu;simp)
theorem aib(x:aD):aM 166 [.agg (aD.enc x),.agg (aD.enc x)] [.one (.bool true)]:=by
 refine ayE 66 func166 call166 [.tmp 4] ?_
 try simp only[go_sem]
 repeat'((first|refine af.intro (by first|apply ah8|apply VS) ?_|with_reducible apply cG)<;>simp only[go_sem])
 all_goals(apply fu;simp)
theorem aic(x:ae):aM 101 [.agg (ae.enc x),.agg (ae.enc x)] [.one (.bool true)]:=by
 refine ayE 101 func101 call101 [.tmp 4] ?_
 try simp only[go_sem]
 repeat'((first|refine af.intro (by first|apply aib|apply aia) ?_|with_reducible apply cG)<;>simp only[go_sem])
 all_goals(apply fu;simp)
theorem aid(xs:List ae):aM 41 [.one (.azD xs),.one (.azD xs)] [.one (.bool true)]:=by
 refine aW 27 func41 call41 [.tmp 4] ?_;intro ok;have hm:=gw ok;clear ok;simp only[go_sem,I];refine bX (λh=>absurd h ξ) (λ_=>?_);simp only[go_sem];refine cb.intro (λi:Nat=>⟨(.d (.azD xs)::.d (.azD xs)::.an::.an::.d (.bool false)::.i i::aA 21 []),[]⟩) (λi=>xs.length-i) (λi=>i<=xs.length) 0 [] ω ?_ ?_
 ·simp only[go_sem];simp
 intro i hi;simp only[go_sem,I];refine bX (λh1=>?_) (λ_=>by simp only[go_sem]);simp only[bH]at h1;have hl:i<xs.length:=by omega
 have hx:=b_ ae.enc xs i hl;have hw:=d8 (i:=i) (m:=xs.length) hl hm
 try simp only[go_sem]
 repeat'(first|((first|refine av.intro (by apply aic) ?_|refine a7 X7 χ ψ ?_)<;>simp only[go_sem,I,aF,hx,ae.enc,hw,bz])|refine⟨ae7,?_⟩|fail)
 all_goals(refine bt.intro (i+1) [] ω ω ?_;simp only[go_sem];try simp)
theorem aie(xs:List aL):aM 42 [.one (.azC xs),.one (.azC xs)] [.one (.bool true)]:=by
 refine aW 71 func42 call42 [.tmp 4] ?_;intro ok;have hm:=gw ok;have sJ:∀(i:Nat) (h:i<xs.length),xs[i].bV.length<=maxLen:=by
  intro i h;have h1:dOk (.azC xs):=ok.1;have h2:=PT h1.2 _ (List.mem_map.2 ⟨xs[i],eK h,rfl⟩);have ao:=Q_ h2 (.sl 9 (xs[i].bV.map al.enc)) (by simp[aL.enc]);have:=ao.1;rwa [I]at this
 clear ok;simp only[go_sem,I];refine bX (λh=>absurd h ξ) (λ_=>?_);simp only[go_sem];refine cb.intro (λi:Nat=>⟨(.d (.azC xs)::.d (.azC xs)::.an::.an::.d (.bool false)::.i i::aA 65 []),[]⟩) (λi=>xs.length-i) (λi=>i<=xs.length) 0 [] ω ?_ ?_
 ·simp only[go_sem];simp
 intro i hi;simp only[go_sem,I];refine bX (λh1=>?_) (λ_=>by simp only[go_sem]);simp only[bH]at h1;have hl:i<xs.length:=by omega
 have hx:=b_ aL.enc xs i hl;have hw:=d8 (i:=i) (m:=xs.length) hl hm;have X_:=sJ i hl;have mo:decide (xs[i].bU≠xs[i].bU)=false:=by simp
 have mT:decide ((xs[i].bV.length:Int)≠(xs[i].bV.length:Int))=false:=by simp
 try simp only[go_sem]
 repeat'(first|((first|with_reducible apply mr|refine a7 X8 χ ψ ?_)<;>simp only[go_sem,I,aF,hx,aL.enc,mo,mT])|refine⟨ae7,?_⟩|fail)
 refine cb.intro (λk:Nat=>⟨(.d (.azC xs)::.d (.azC xs)::.an::.an::.d (.bool false)::.i i::.i k::aA 64 []),[]⟩) (λk=>xs[i].bV.length-k) (λk=>k<=xs[i].bV.length) 0 [] ω ?_ ?_
 ·simp only[go_sem];simp
 intro k hk;simp only[go_sem,I,aF,hx,aL.enc];refine⟨⟨by omega,by omega⟩,?_⟩;refine bX (λh2=>?_) (λh2=>?_)
 ·simp only[bH]at h2;have Q':k<xs[i].bV.length:=by omega
  have IH:=b_ al.enc xs[i].bV k Q';have AM:=d8 (i:=k) (m:=xs[i].bV.length) Q' X_
  try simp only[go_sem]
  repeat'(first|(refine a7 X9 χ ψ ?_<;>simp only[go_sem,I,aF,hx,aL.enc,IH,al.enc,bz,hS,asg])|refine⟨ae7,?_⟩|fail)
  all_goals(refine bt.intro (k+1) [] ω ω ?_;simp only[go_sem,AM])
 simp only[go_sem];refine bt.intro (i+1) [] ω ω ?_;simp only[go_sem,hw]
theorem Ra(x:J):aM 10 [.agg (J.enc x),.agg (J.enc x)] [.one (.bool true)]:=by
 refine ayE 129 func10 call10 [.tmp 4] ?_
 try simp only[go_sem]
 repeat'((first|refine af.intro (by first|apply aid|apply aie) ?_|with_reducible apply cG)<;>simp only[go_sem])
 all_goals(apply fu;simp)
def H5:List (List bK):=cB 12 [528524,528522,528516,528498,521883,521721,531076,529618,525204,511758,472392,354294]
attribute [go_sem] H5
theorem Wq(c:J)(hz:gZ c):aM 121 [.agg (J.enc c)] [.one (.bool (qA e1 oh c))]:=by
 refine ayE 76 func121 call121 [.tmp 2] ?_;have ah:qA e1 oh c=(ki c&&c.aa.all (λs=>!nV oh c.bq s)&&DJ c):=rfl;have mo:=hz.1;have mT:=hz.2.1
 try simp only[go_sem]
 repeat'(refine af.intro (by(apply B0<;>exact aT)) ?_<;>simp only[go_sem])
 cases aE:ki c with
 |false=>simp only[go_sem,b7];simp[ah,aE]
 |true=>
 simp only[go_sem,bz,I];refine cb.intro (λi:Nat=>⟨(.an::.ptr 0 0 0::.d (.bool false)::.i ((c.aa.take i).countP (mS c.bq):Nat)::.i ((i:Int)-((c.aa.take i).countP (mS c.bq):Nat))::.ptr 1 0 0::aA 7 (.d (.azD c.aa)::.i c.aa.length::.i i::aA 60 [])),[.box (J.bx c),.box [.i ((c.aa.take i).countP (gT c.bq):Nat),.i ((c.aa.take i).countP (gS c.bq):Nat)]]⟩) (λi=>c.aa.length-i) (λi=>i<=c.aa.length/\(c.aa.take i).all (λs=>!nV oh c.bq s)=true) 0 [0,1] ⟨by omega,by simp⟩ ?_ ?_
 ·simp only[go_sem];simp
 rintro i ⟨hi,he⟩;by_cases h1:i<c.aa.length
 ·have aq:=aro (i:=i) (n:=c.aa.length);have az:=b_ ae.enc c.aa i h1;have hs:=zm (λs=>!nV oh c.bq s) c.aa i h1;have hn:=λh=>zn (λs=>!nV oh c.bq s) c.aa i h1 h;have a5:=mT _ (eK h1);have c1:=Fz (mS c.bq) c.aa i h1;have cW:=Fz (gT c.bq) c.aa i h1;have gn:=Fz (gS c.bq) c.aa i h1;have cR:(c.aa.take i).length=i:=by simp;omega
  have gB:(c.aa.take i).countP (mS c.bq)<=i:=by have:=asp (p:=mS c.bq) (l:=c.aa.take i);omega
  have gC:(c.aa.take i).countP (gT c.bq)<=i:=by have:=asp (p:=gT c.bq) (l:=c.aa.take i);omega
  have lr:(c.aa.take i).countP (gS c.bq)<=i:=by have:=asp (p:=gS c.bq) (l:=c.aa.take i);omega
  have hw:∀k:Nat,k<=i->i64.wrap ((k:Int)+1)=((k+1:Nat):Int):=by intro k hk;rw[bw]<;>omega
  generalize (c.aa.take i).countP (mS c.bq)=iM at *;generalize (c.aa.take i).countP (gT c.bq)=lP at *;generalize (c.aa.take i).countP (gS c.bq)=rm at *;generalize c.aa[i]=s at *;have w0:=hw i (fH _);have eP:=hw _ gB;have gl:=hw _ gC;have ke:=hw _ lr;have af0:i64.wrap ((lP:Int)+0)=(lP:Int):=by rw[bw]<;>omega
  have af1:i64.wrap ((rm:Int)+0)=(rm:Int):=by rw[bw]<;>omega
  have BQ:i64.wrap ((i:Int)-(iM:Int)+1)=((i+1:Nat):Int)-(iM:Int):=by rw[bw]<;>omega
  have af2:((i+1:Nat):Int)-((iM+1:Nat):Int)=(i:Int)-(iM:Int):=by omega
  obtain⟨afb,afc,HO,afd⟩:=a5;have HO:∀fM∈s.aU.bT.cq,fM.data.length<=1048576:=λfM hc=>by have:=HO fM hc;omega
  try simp only[go_sem,I,aF,az,ae.enc,aq]
  repeat'(first|(refine af.intro (by apply H6) ?_<;>simp only[go_sem])|refine⟨ae7,?_⟩|fail)
  cases aG:jw c.bq s.id
  ·rw[show mS c.bq s=false from aG]at c1
   try simp only[go_sem]
   repeat'((first|refine av.intro (by(apply VH<;>exact aT)) ?_|refine a7 [[.post,.post,.dL,.dL,.post],[.pre,.post,.dL,.dL,.post],[.dL,.dL,.post,.post,.post],[.dL,.dL,.pre,.post,.post],[.pre,.pre,.pre,.pre,.post]] χ ψ ?_)<;>simp only[go_sem])
   change AH (s.gu != oh s) _ _;cases hb:(s.gu != oh s)
   ·have lb:nV oh c.bq s=false:=by unfold nV;rw[hb];simp
    simp only[go_sem,BQ];cases hu:la s.id
    ·rw[show gS c.bq s=false by unfold gS;rw[hu];simp]at gn;cases hc:s.gu
     ·rw[show gT c.bq s=false by unfold gT;rw[hc];simp]at cW
      try simp only[go_sem,I,hu,hc,oneB]
      repeat'(first|((first|refine av.intro (by first|apply B1|apply sA) ?_|refine a7 H5 χ ψ ?_)<;>simp only[go_sem,hu,oneB])|refine⟨ae7,?_⟩|fail)
      refine bt.intro (i+1) [0,1] ⟨by omega,by rw[hs,he,lb];rfl⟩ ω ?_;simp only[go_sem,w0,af0,c1,cW,gn];simp
     rw[show gT c.bq s=true by unfold gT;rw[hc,hu,aG];rfl]at cW
     try simp only[go_sem,I,hu,hc,oneB]
     repeat'(first|((first|refine av.intro (by first|apply B1|apply sA) ?_|refine a7 H5 χ ψ ?_)<;>simp only[go_sem,hu,oneB])|refine⟨ae7,?_⟩|fail)
     refine bt.intro (i+1) [0,1] ⟨by omega,by rw[hs,he,lb];rfl⟩ ω ?_;simp only[go_sem,w0,gl,c1,cW,gn,if_true];simp
    rw[show gT c.bq s=false by unfold gT;rw[hu];simp]at cW;cases hc:s.gu
    ·rw[show gS c.bq s=false by unfold gS;rw[hc];simp]at gn
     try simp only[go_sem,I,hu,hc,oneB]
     repeat'(first|((first|refine av.intro (by first|apply B1|apply sA) ?_|refine a7 H5 χ ψ ?_)<;>simp only[go_sem,hu,oneB])|refine⟨ae7,?_⟩|fail)
     refine bt.intro (i+1) [0,1] ⟨by omega,by rw[hs,he,lb];rfl⟩ ω ?_;simp only[go_sem,w0,af1,c1,cW,gn];simp
    rw[show gS c.bq s=true by unfold gS;rw[hc,hu,aG];rfl]at gn
    try simp only[go_sem,I,hu,hc,oneB]
    repeat'(first|((first|refine av.intro (by first|apply B1|apply sA) ?_|refine a7 H5 χ ψ ?_)<;>simp only[go_sem,hu,oneB])|refine⟨ae7,?_⟩|fail)
    refine bt.intro (i+1) [0,1] ⟨by omega,by rw[hs,he,lb];rfl⟩ ω ?_;simp only[go_sem,w0,ke,c1,cW,gn,if_true];simp
   have:=hn (by unfold nV;rw[aG,hb];rfl);simp only[go_sem];simp[ah,this]
  rw[show mS c.bq s=true from aG]at c1;rw[show gT c.bq s=false by unfold gT;rw[aG];rfl]at cW;rw[show gS c.bq s=false by unfold gS;rw[aG];rfl]at gn;simp only[go_sem];refine bt.intro (i+1) [0,1] ⟨by omega,by rw[hs,he];unfold nV;rw[aG];rfl⟩ ω ?_;simp only[go_sem,w0,eP,c1,cW,gn,if_true,af2];simp
 obtain⟨aq,rfl⟩:=arn (i:=i) (n:=c.aa.length);rw[da]at he
 try simp only[go_sem,aq,da]
 repeat'(apply bo<;>simp only[go_sem])
 have hc:=asp (p:=mS c.bq) (l:=c.aa);have hW:i64.wrap ((c.aa.length:Int)-(c.aa.countP (mS c.bq):Nat))=(c.aa.length:Int)-(c.aa.countP (mS c.bq):Nat):=by rw[bw]<;>omega
 apply fu;simp[hW,ah,aE,he,DJ,Bool.and_assoc]
def aa1:List (List bK):=cB 9 [16439,16441,16434,16416,19399,19561,18994,17536,13122]
def aa2:List (List bK):=cB 32 [1853020188851837,1853020188851839,1853020188851832,1853020188851814,1853020188848844,1853020188848682,1853020188851436,1853020188849978,1853020188845280,1853020188832158,1853020188792792,1853020182297402,1853020181943108,1853020187966106,1853020184777460,1853020174502934,1853020145805120,1853020059711678,1853016314646951,1853015539805973,1853018251749396,1853009728498638,1852988807792232,1852926045673014,1852737759315360,1844547302757411,1842852725538525,1848783745804626,1830143396396880,1784389811486958,1647129056757192,1235346792567894]
attribute [go_sem] aa1 aa2
theorem alY(bs:List Int):aM 4 [.one (.azz bs)] [.one (.bool (decide (1048576<(bs.length:Int))))]:=by
 refine aW 6 func4 call4 [.tmp 2] ?_;intro ok
 try simp only[go_sem,I]
theorem alZ(xs:List al):aM 23 [.one (.azE xs),.one (.azE xs)] [.one (.bool true)]:=by
 refine aW 26 func23 call23 [.tmp 4] ?_;intro ok;have hm:=gw ok;clear ok;simp only[go_sem,I];refine bX (λh=>absurd h ξ) (λ_=>?_);simp only[go_sem];refine cb.intro (λi:Nat=>⟨(.d (.azE xs)::.d (.azE xs)::.an::.an::.d (.bool false)::.i i::aA 20 []),[]⟩) (λi=>xs.length-i) (λi=>i<=xs.length) 0 [] ω ?_ ?_
 ·simp only[go_sem];simp
 intro i hi;simp only[go_sem,I];refine bX (λh1=>?_) (λ_=>by simp only[go_sem]);simp only[bH]at h1;have hl:i<xs.length:=by omega
 have hx:=b_ al.enc xs i hl;have hw:=d8 (i:=i) (m:=xs.length) hl hm
 try simp only[go_sem]
 repeat'(first|(refine a7 aa1 χ ψ ?_<;>simp only[go_sem,I,aF,hx,al.enc,hw,hS,asg,bz])|refine⟨ae7,?_⟩|fail)
 all_goals(refine bt.intro (i+1) [] ω ω ?_;simp only[go_sem];try simp)
theorem aa3{c:J}(h:gZ c):c.ai.length+nk aL.fy c.ai<=1048576:=by
 have ao:=h.2.2.1;have aH:=FP aL.fy 30500 _ λp hp=>WG (h.2.2.2 p hp);omega
theorem al0{c:J}{n:Int}(h:(fP (hK c n).ai n).2=false):fD (hK c n) n=false/\hK (hK c n) n=hK c n:=by
 have h1:fD (hK c n) n=false:=by unfold fD;rw[h,Bool.and_false]
 refine⟨h1,?_⟩;generalize hK c n=y at *;unfold hK;rw[h1];rfl
theorem laws_FnReports(bs:List Int):aM 3 [.one (.azz bs)] [.one (.bool true)]:=by
 refine m_ 205 func3 call3 [.tmp 2] ?_;intro ok;refine eE bE 10 (α:=Unit) (λ_=>⟨(.d (.azz bs)::aA 204 []),[]⟩) (λ_=>True) ?_ ?_
 ·simp only[go_sem];refine af.intro (alY bs) ?_;simp only[go_sem];refine bX (λh=>?_) (λh=>?_)
  ·simp only[go_sem]
  simp only[go_sem];refine af.zH (agP bs) rfl ?_;rintro _ ⟨c,n,bD,rfl⟩;have hv:=bD.pf;have NK:=QJ hv n;have Te:=It hv n;have hz:=hv.sz ω;have G2:=NK.sz ω;have J_:=Te.sz ω;have l5:=VD c n 14 hv ω;have NL:=VB c n 14 hv ω;have oF:=aa4 c n 14 hv ω;have Gb:=Po c n 14 hv ω;have Tf:=Ra (hK c n);have sn:=Ra (g0 c n);cases hg:fD c n
  ·rw[hg]at l5 NL oF Gb;generalize hK c n=y at *;generalize g0 c n=u at *;clear hv NK Te bD hz G2 J_;simp only[go_sem,g9,I]
   try simp only[go_sem,I,bne_self_eq_false,bz]
   repeat'((first|refine af.i ?_|refine av.i ?_|with_reducible apply cG|with_reducible apply dp)<;>simp only[go_sem,I,bne_self_eq_false,bz])
   refine cZ.intro () [] trivial ?_;simp only[go_sem]
   try simp
  obtain⟨dP,dO,ih⟩:=al1 bD hg;obtain⟨mb,xF⟩:=al2 bD hg;obtain⟨aa5,aa6⟩:=al0 dP;have HI:=aa7 (hK c n) n (aa3 G2);have Tg:=VD (hK c n) n 14 NK ω;have Th:xd (hK c n):=B0 _ G2;have Ti:xd (g0 c n):=B0 _ J_;have sP:aM 12 [.agg (J.enc ((hK c n)))] [.one (.bool (ki (hK c n)))]:=Th;have al3:aM 12 [.agg (J.enc ((g0 c n)))] [.one (.bool (ki (g0 c n)))]:=Ti;have al4:=V2 c hz;have aa8:=V1 (hK c n) G2 Th (Wq _ G2);have WY:=V1 (g0 c n) J_ Ti (Wq _ J_);rw[aa5,aa6]at Tg;rw[dP]at HI;rw[dO]at sP;rw[mb]at al3;rw[hg]at l5 NL oF Gb;clear dP dO mb aa5 aa6 Th Ti;generalize AJ (hK c n)=eH at *;generalize AJ (g0 c n)=eG at *;generalize su dt gL c=a at *;generalize (fP (hK c n).ai n).1=hY at *;generalize hK c n=y at *;generalize g0 c n=u at *;clear hv NK Te bD hz G2 J_;simp only[go_sem,g9,I];cases a
  ·clear ih xF
   try simp only[go_sem,I,bne_self_eq_false,bz]
   repeat'((first|refine af.i ?_|refine av.i ?_|with_reducible apply cG|with_reducible apply dp)<;>simp only[go_sem,I,bne_self_eq_false,bz])
   refine cZ.intro () [] trivial ?_;simp only[go_sem]
   try simp
  obtain rfl:=ih rfl;obtain rfl:=xF rfl
  try simp only[go_sem,I,bne_self_eq_false,bz]
  repeat'((first|refine af.i ?_|refine av.i ?_|with_reducible apply cG)<;>simp only[go_sem,I,bne_self_eq_false,bz])
  refine cZ.intro () [] trivial ?_;simp only[go_sem]
  try simp
 rintro _ _;clear ok;refine eE bE 4 (α:=J) (λz=>⟨(.d (.azz bs)::aA 16 (.ptr 2 0 0::aA 187 [])),[.azx z.aa,.azw z.ai,.azG z 0 1]⟩) (λz=>qv z) ?_ ?_
 ·simp only[go_sem];refine af.zH (agQ bs) rfl ?_;rintro _ ⟨z,bD,rfl⟩;have hv:=bD.pf;have hz:=hv.sz ω;have Tj:bW 14 (xU z):=NM _ hv;have l5:=al5 z 14 hv ω;have NL:=al6 z 14 hv ω;have Tf:=Ra (xU z);have oF:=lu z hz;have Gb:=WI z;have al4:=V2 z hz;have x_:=aa9 (xU z) (Tj.sz ω) (sm Tj);have hl:=al7 bD;generalize su dt gL z=a at *;generalize C0 (xU z)=n at *;have hp:∀l:List aL,l=[]->(l.length:Int)=0:=λl h=>by rw[h];rfl
  have hl:ew z->decide (z.cX≠0)=false->((xU z).ai.length:Int)=0/\n=0:=λh1 h2=>by
   obtain⟨ao,aH⟩:=hl h1 (by simpa using h2);exact⟨hp _ ao,aH⟩
  generalize ew z=q at *;generalize decide (z.cX≠0)=k at *;generalize xU z=w at *;clear hv hz Tj hp;simp only[go_sem,g9,I];cases q
  ·try simp only[go_sem,I,bz,b7]
   repeat'((first|refine af.i ?_|refine av.i ?_|with_reducible apply cG|with_reducible apply dp)<;>simp only[go_sem,I,bz])
   refine cZ.intro z [0,1,2] bD ?_;simp only[go_sem]
   try simp
  cases k
  ·obtain⟨h1,rfl⟩:=hl rfl rfl;cases a
   ·try simp only[go_sem,I,bz,b7,h1]
    repeat'((first|refine af.i ?_|refine av.i ?_|with_reducible apply cG|with_reducible apply dp)<;>simp only[go_sem,I,bz,b7])
    refine cZ.intro z [0,1,2] bD ?_;simp only[go_sem]
    try simp
   try simp only[go_sem,I,bz,b7,h1,ne_eq,not_true_eq_false,iW]
   repeat'((first|refine af.i ?_|refine av.i ?_|with_reducible apply cG)<;>simp only[go_sem,I,bz,b7,h1,ne_eq,not_true_eq_false,iW])
   refine cZ.intro z [0,1,2] bD ?_;simp only[go_sem]
   try simp
  try simp only[go_sem,I,bz,b7]
  repeat'((first|refine af.i ?_|refine av.i ?_|with_reducible apply cG|with_reducible apply dp)<;>simp only[go_sem,I,bz])
  refine cZ.intro z [0,1,2] bD ?_;simp only[go_sem]
  try simp
 rintro z bD;have hv:=bD.pf;have hz:=hv.sz ω;refine gJ bE ?_;simp only[go_sem];refine af.zH (Xw bs) rfl ?_;rintro _ ⟨p,k,hL,rfl⟩;have DL:=hL.pf.sz ω;have l5:=aa7 p k (aa3 DL);have NL:=Pg p k DL;have oF:=aa9 z hz (sm hv);have Gb:=al8 z hz;have x_:=al9 z 14 hv ω;have Tg:=ama z 14 hv ω;have Pn:=alZ (fP p.ai k).1.bV;generalize (fP p.ai k).1=hY at *;generalize (fP p.ai k).2=b at *;generalize C0 z=n at *;generalize Tk z=q at *;clear hv hz DL hL bD;simp only[go_sem,g9,I]
 try simp only[go_sem,I,hS,beq_self_eq_true]
 repeat'((first|refine af.i ?_|refine av.i ?_|with_reducible apply mr|refine a7 aa2 χ ψ ?_)<;>simp only[go_sem,I,hS,beq_self_eq_true])
 all_goals(try simp)
end Gv
