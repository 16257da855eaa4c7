/-
  Part of the proof: the machine, what functions compute, and the plain laws.
-/
import Derived.Test.YtkmdnjjdcfkbcaaGreatM02
set_option maxHeartbeats 80000000
set_option maxRecDepth 100000
namespace Gv
open Go Go.Proofs
set_option maxRecDepth 100000
def V6:List (List bH):=cP 6 [692,690,724,706,648,486]
def OM:List (List bH):=cP 37 [450283905890997362,450283905890997360,450283905890997354,450283905890997336,450283905890997282,450283905890970876,450283905890970390,450283905890968932,450283905890993961,450283905890980839,450283905890938314,450283905890820216,450283905890465922,450283905889403040,450283905886214394,450283905876648456,450283905847950642,450283905761857200,450283905503576874,450283904728735896,450283902404212962,450283895430644160,450283874509937754,450283811747818536,450283623461460882,450283058602387920,450281364025169034,450276280293512376,450261029098542402,447744581928496692,447607321173766926,449940754004172948,448705407211605054,444724845324441840,433606724191330794,400252360791997656,300189270593998242]
def V7:List (List bH):=cP 12 [531440,531438,531432,531414,522612,522450,521964,530307,525933,511758,472392,354294]
attribute [go_sem] V6 OM V7
theorem agm(n:Int)(xs:List aA)(hb:∀c∈xs,c.data.length≤1048576)(hx:xs.length≤1048576):aJ 196 [.agg [.int .i64 n,.sl 2 (xs.map aA.enc)]] [.one (.int .i64 (IntKind.i64.wrap (n+(jC n xs:Int))))]:=by
 refine aN 8 Tryz.func196 Tryz.call196 [.tmp 2] ?_;intro _
 try simp only[go_sem]
 repeat'((first|refine au.intro (by(apply Xz<;>exact aP)) ?_|refine ba V6 (by kernel_rfl) (by rfl) ?_)<;>simp only[go_sem])
 all_goals simp
def Jt(r:bL):Bool:=iI r.buffer&&!decide (r.fO<oD r.buffer)&&bN r.fO&&bN r.code&&!(decide (r.bn≠-1)&&!bK r.bn r.fO 4611686018427387903)
theorem agn(r:bL):(bif bif bif bif !iI r.buffer then true else decide (r.fO<oD r.buffer)then true else !bN r.fO then true else !bN r.code then true else bif decide (r.bn≠-1)then !bK r.bn r.fO 4611686018427387903 else false)=!Jt r:=by
 unfold Jt
 cases iI r.buffer<;>cases bN r.fO<;>cases decide (r.fO<oD r.buffer)<;>cases bN r.code<;>cases decide (r.bn≠-1)<;>cases bK r.bn r.fO 4611686018427387903<;>rfl
theorem ago(r:bL):Jt r=yR r:=by
 rw[Bool.eq_iff_iff];simp only[Jt,yR,bN,bK,bP,Bool.not_eq_true',b2,dN,Bool.and_eq_false_iff,Bool.not_eq_false'];constructor
 ·rintro⟨⟨⟨⟨h1,h2⟩,aj⟩,aE⟩,b3⟩;refine⟨⟨⟨⟨⟨⟨h1,aj⟩,h2⟩,aE⟩,?_⟩,?_⟩,?_⟩<;>omega
 ·rintro⟨⟨⟨⟨⟨⟨h1,aj⟩,h2⟩,aE⟩,b3⟩,e2⟩,j4⟩;refine⟨⟨⟨⟨h1,h2⟩,aj⟩,aE⟩,?_⟩;omega
theorem agp(c3 cU:Int)(cn:List aA)(dn df dg:Int)(hb:∀c∈cn,c.data.length≤1048576)(hx:cn.length≤1048576):aJ 140 [.agg [.int .i64 c3,.int .i64 cU,.sl 2 (cn.map aA.enc),.int .i64 dn,.int .i64 df,.int .i64 dg]] [.one (.bool (i_ (⟨c3,⟨cU,cn⟩,dn,df,dg⟩:bL)))]:=by
 refine aN 116 Tryz.func140 Tryz.call140 [.tmp 2] ?_;intro _;have ag:=agn (⟨c3,⟨cU,cn⟩,dn,df,dg⟩:bL);rw[ago]at ag
 cases dF:yR (⟨c3,⟨cU,cn⟩,dn,df,dg⟩:bL)with
 |false=>
  rw[dF]at ag
  try simp only[go_sem]
  repeat'((first|refine au.intro (by first|(apply xD<;>exact aP)|(apply PL<;>exact aP)|apply uc|apply il) ?_|refine e8 ?_|refine ba OM (by kernel_rfl) (by rfl) ?_)<;>simp only[go_sem])
  rw[ag];simp only[go_sem,cc];simp[i_,dF]
 |true=>
  have h0:0≤df:=by
   have:=dF;simp only[yR,bN,bK,bP,b2,and_assoc]at this;exact this.2.1
  rw[dF]at ag
  try simp only[go_sem]
  repeat'((first|refine au.intro (by first|(apply xD<;>exact aP)|(apply PL<;>exact aP)|apply uc|apply il) ?_|refine e8 ?_|refine ba OM (by kernel_rfl) (by rfl) ?_)<;>simp only[go_sem])
  rw[ag];simp only[go_sem,bS]
  try simp only[go_sem,I]
  repeat'((first|refine au.intro (by(apply agm<;>exact aP)) ?_|refine a7 ?_|refine e8 ?_|refine ba V7 (by kernel_rfl) (by rfl) ?_|refine bt (fun h=>?_) (fun h=>?_))<;>simp only[go_sem,I])
  all_goals(rw[show i_ (⟨c3,⟨cU,cn⟩,dn,df,dg⟩:bL)=Ds (⟨c3,⟨cU,cn⟩,dn,df,dg⟩:bL)from by unfold i_;rw[dF];rfl];clear dF ag;simp only[b2,dN]at *;first|(exfalso;omega)|(refine eo ?_;simp[Ds,Dr, *];done)|(refine eo ?_;simp[Ds,Dr, *];grind))
set_option maxRecDepth 100000
theorem agR(a5 bh bj bd:Int)(aZ:List Int)(aF aB aG:List aa)(bf a8 a1 bk:Int)(hc:aF.length+aB.length+aG.length≤524288)(lY:aB.length≤maxLen)(kS:aG.length≤maxLen)(dF:jV (⟨a5,⟨bh,bj,bd,aZ⟩,aF,aB,aG,bf,a8,a1,bk⟩:aO)=true)(eK:mg (⟨a5,⟨bh,bj,bd,aZ⟩,aF,aB,aG,bf,a8,a1,bk⟩:aO)=false)(xx:cX aF=true)(xy:cX aB=true)(xz:cX aG=true)(hY:aB=[]){pV pW pX pY pZ u8 p0 p1 p2 p3 p4 p5 p6 u16 p7 p8 p9 p_ p' qa qb qc qd qe qf qg qh qi qj u32 qk ql qm qn qo qp qq qs qt qu qv qw qx qy qz qA qB qC qD qE qF qG qH qI qJ qK qL qM qN qO qP u64 qQ qR qS qT qU qV qW qX qY qZ q0 q1 q2 q3 q4 q5 q6 q7 q8 q9 q_ q' ra rb re rf rh ri rj rk rl rm rn rp rq rr ru rv ry rz rA rB rC rE rF rG rH rI rJ rK rM rN rO rP rQ rR rS rT rU rW rX rY rZ r1 r2 r3 r4 r5 r6 r7 r8 r9 r_ r' sa sb sc sd se sf sg sh si sj sk sm sn sq sr ss su sv sw sx sy sA sB sC sD sE sF sG sH sI sJ sK sL sM sN sO sP sQ sR sS sT sU sV sW sX sY sZ s0 s3 s4 s5 s6 s7 s8 s9 s_ s' ta tb tc td tf tg th ti tj tk tl tm tn tp tq tr tt tu tv tw tx tz tA tB tC tD tE tF tG tH tI tJ tK tL tM tN tO tP tQ tR tS tT tU tV tW tX tY tZ t_ t':V} :
  codeE Tryz.prog [] (Ah 5 (BS Tryz.f145)) ⟨[pV,.ptr 0 0 0,.d (.bool false),.d (.sl 2 (aF.map aa.enc)),pW,pX,pY,pZ,u8,p0,p1,p2,p3,p4,p5,p6,u16,p7,p8,p9,p_,p',qa,qb,qc,qd,qe,qf,qg,qh,qi,qj,u32,qk,ql,qm,qn,qo,qp,qq,qs,qt,qu,qv,qw,qx,qy,qz,qA,qB,qC,qD,qE,qF,qG,qH,qI,qJ,qK,qL,qM,qN,qO,qP,u64,qQ,qR,qS,qT,qU,qV,qW,qX,qY,qZ,q0,q1,q2,q3,q4,q5,q6,q7,q8,q9,q_,q',ra,rb,re,rf,rh,ri,rj,rk,rl,rm,rn,rp,rq,rr,ru,rv,ry,rz,rA,rB,rC,rE,rF,rG,rH,rI,rJ,rK,rM,rN,rO,rP,rQ,rR,rS,rT,rU,rW,rX,rY,rZ,r1,r2,r3,r4,r5,r6,r7,r8,r9,r_,r',sa,sb,sc,sd,se,sf,sg,sh,si,sj,sk,sm,sn,sq,sr,ss,su,sv,sw,sx,sy,sA,sB,sC,sD,sE,sF,sG,sH,sI,sJ,sK,sL,sM,sN,sO,sP,sQ,sR,sS,sT,sU,sV,sW,sX,sY,sZ,s0,s3,s4,s5,s6,s7,s8,s9,s_,s',ta,tb,tc,td,tf,tg,th,ti,tj,tk,tl,tm,tn,tp,tq,tr,tt,tu,tv,tw,tx,tz,tA,tB,tC,tD,tE,tF,tG,tH,tI,tJ,tK,tL,tM,tN,tO,tP,tQ,tR,tS,tT,tU,tV,tW,tX,tY,tZ,t_,t'],[.box [.i a5,.i bh,.i bj,.i bd,.d (.sl 1 (aZ.map aW)),.d (.sl 2 (aF.map aa.enc)),.d (.sl 2 (aB.map aa.enc)),.d (.sl 2 (aG.map aa.enc)),.i bf,.i a8,.i a1,.i bk]]⟩ (bG (gM Tryz.prog [.tmp 2] [.one (.bool (fl (⟨a5,⟨bh,bj,bd,aZ⟩,aF,aB,aG,bf,a8,a1,bk⟩:aO)))]) .mk) [] (bG (gM Tryz.prog [.tmp 2] [.one (.bool (fl (⟨a5,⟨bh,bj,bd,aZ⟩,aF,aB,aG,bf,a8,a1,bk⟩:aO)))]) .mk):=by
 conv=>arg 3;whnf
 refine xp fun O4 b6=>?_;simp only[go_sem];by_cases O5:aG=[]
 ·skip
  refine b7.intro (fun i:Nat=>⟨(.ak::.ptr 0 0 0::.d (.bool false)::.d (.sl 2 (aF.map aa.enc))::.ak::.i i::jn 240 []),[.box [.i a5,.i bh,.i bj,.i bd,.d (.sl 1 (aZ.map aW)),.d (.sl 2 (aF.map aa.enc)),.d (.sl 2 (aB.map aa.enc)),.d (.sl 2 (aG.map aa.enc)),.i bf,.i a8,.i a1,.i bk]]⟩)
   (fun _=>0) (fun i=>i=0) 0 [0] rfl ?_ ?_
  ·simp only[go_sem];simp
  ·rintro _ rfl;have ax:decide (((0:Nat):Int)<(aG.length:Int))=false:=bo (by rw[O5];simp);have hA:nF (⟨a5,⟨bh,bj,bd,aZ⟩,aF,aB,aG,bf,a8,a1,bk⟩:aO)=aF:=by unfold nF eL;simp only[hY,O5,List.foldl_nil]
   simp only[go_sem,I,ax];exact b6 _ (agS a5 bh bj bd aZ aF aB aG bf a8 a1 bk hc lY kS dF eK hA)
 ·skip
  have vC:aF=eL aF aB:=by rw[hY];rfl
  have WM:=O5;refine b7.intro (α:=Nat×Option (List aa)) (fun y=>match y.2 with
    |none=>⟨(.ak::.ptr 0 0 0::.d (.bool false)::.d (.sl 2 (aF.map aa.enc))::.ak::.i y.1::jn 240 []),[.box [.i a5,.i bh,.i bj,.i bd,.d (.sl 1 (aZ.map aW)),.d (.sl 2 (aF.map aa.enc)),.d (.sl 2 (aB.map aa.enc)),.d (.sl 2 (aG.map aa.enc)),.i bf,.i a8,.i a1,.i bk]]⟩
    |some ys=>⟨(.ak::.ptr 0 0 0::.d (.bool false)::.sl 1 0 ys.length::.ak::.i y.1::jn 240 []),[.box [.i a5,.i bh,.i bj,.i bd,.d (.sl 1 (aZ.map aW)),.d (.sl 2 (aF.map aa.enc)),.d (.sl 2 (aB.map aa.enc)),.d (.sl 2 (aG.map aa.enc)),.i bf,.i a8,.i a1,.i bk],.ar 2 (ys.map aa.enc) true]⟩)
   (fun y=>aG.length-y.1) (fun y=>y.1≤aG.length∧(y.2=none→y.1=0)∧y.2.getD aF=eL (eL aF aB) (aG.take y.1)) (0,none) [0] ⟨by simp,by simp,by simp only[Option.getD_none,List.take_zero];exact vC⟩ ?_ ?_
  ·simp only[go_sem];simp
  ·rintro⟨i,w3⟩ ⟨hi,hz,hy⟩;simp only at hi hz hy;have h4:=pc (aG.take i) (eL aF aB);have WN:=pc aB aF;have cR:(aG.take i).length=i:=by simp;omega
   cases w3 with
   |none=>
    have jU:=hz rfl;simp only[Option.getD_none]at hy;by_cases h1:i<aG.length
    ·have ax:decide ((i:Int)<(aG.length:Int))=true:=bp (by omega);have aq:=b5 aa.enc aG i h1;have hw:=dK h1 kS;have cW:=Aj (eL aF aB) aG i h1;rw[←hy]at cW;have JA:aF.length≤1048576:=by rw[hy];omega
     try simp only[go_sem,I,aC,aq,aa.enc,ax]
     repeat'(first|((first|refine ab.intro (by first|apply xq|(apply uX<;>exact aP)) ?_|refine au.intro (by first|apply vY|apply h_|apply h9) ?_|refine a7 ?_)<;>simp only[go_sem,I])|(with_reducible refine aw ?_)|fail)
     refine bA.intro (i+1,some (gv aF aG[i])) [0,1] ⟨by omega,by simp,by simp[cW]⟩ (show aG.length-(i+1)<aG.length-i by omega) ?_;simp only[go_sem,hw];simp
    ·exfalso;exact absurd (List.length_pos_iff.2 WM) (by omega)
   |some ys=>
    skip
    simp only[Option.getD_some]at hy;by_cases h1:i<aG.length
    ·have ax:decide ((i:Int)<(aG.length:Int))=true:=bp (by omega);have aq:=b5 aa.enc aG i h1;have hw:=dK h1 kS;have cW:=Aj (eL aF aB) aG i h1;rw[←hy]at cW;have JA:ys.length≤1048576:=by rw[hy];omega
     try simp only[go_sem,I,aC,aq,aa.enc,ax]
     repeat'(first|((first|refine ab.intro (by(apply uX<;>exact aP)) ?_|refine a7 ?_)<;>simp only[go_sem,I])|(with_reducible refine aw ?_)|fail)
     refine bA.intro (i+1,some (gv ys aG[i])) [0,2] ⟨by omega,by simp,by simp[cW]⟩ (show aG.length-(i+1)<aG.length-i by omega) ?_;simp only[go_sem,hw];simp
    ·have ax:decide ((i:Int)<(aG.length:Int))=false:=bo (by omega);obtain rfl:i=aG.length:=by omega
     rw[d_]at hy;have Gr:=hy;have hA:nF (⟨a5,⟨bh,bj,bd,aZ⟩,aF,aB,aG,bf,a8,a1,bk⟩:aO)=ys:=hy.symm;simp only[go_sem,I,ax];exact b6 _ (WO a5 bh bj bd aZ aF aB aG bf a8 a1 bk hc lY kS dF eK ys hA (by rw[Gr];have:=pc aG (eL aF aB);have:=pc aB aF;omega) (WB xx xy xz (.inr WM) Gr))
theorem agT(a5 bh bj bd:Int)(aZ:List Int)(aF aB aG:List aa)(bf a8 a1 bk:Int)(hc:aF.length+aB.length+aG.length≤524288)(lY:aB.length≤maxLen)(kS:aG.length≤maxLen)(dF:jV (⟨a5,⟨bh,bj,bd,aZ⟩,aF,aB,aG,bf,a8,a1,bk⟩:aO)=true)(eK:mg (⟨a5,⟨bh,bj,bd,aZ⟩,aF,aB,aG,bf,a8,a1,bk⟩:aO)=false)(xx:cX aF=true)(xy:cX aB=true)(xz:cX aG=true)(hY:aB≠[])(bY:List aa)(dk:bY=eL aF aB){pV pW pX pY pZ u8 p0 p1 p2 p3 p4 p5 p6 u16 p7 p8 p9 p_ p' qa qb qc qd qe qf qg qh qi qj u32 qk ql qm qn qo qp qq qs qt qu qv qw qx qy qz qA qB qC qD qE qF qG qH qI qJ qK qL qM qN qO qP u64 qQ qR qS qT qU qV qW qX qY qZ q0 q1 q2 q3 q4 q5 q6 q7 q8 q9 q_ q' ra rb re rf rh ri rj rk rl rm rn rp rq rr ru rv ry rz rA rB rC rE rF rG rH rI rJ rK rM rN rO rP rQ rR rS rT rU rW rX rY rZ r1 r2 r3 r4 r5 r6 r7 r8 r9 r_ r' sa sb sc sd se sf sg sh si sj sk sm sn sq sr ss su sv sw sx sy sA sB sC sD sE sF sG sH sI sJ sK sL sM sN sO sP sQ sR sS sT sU sV sW sX sY sZ s0 s3 s4 s5 s6 s7 s8 s9 s_ s' ta tb tc td tf tg th ti tj tk tl tm tn tp tq tr tt tu tv tw tx tz tA tB tC tD tE tF tG tH tI tJ tK tL tM tN tO tP tQ tR tS tT tU tV tW tX tY tZ t_ t':V} :
  codeE Tryz.prog [] (Ah 5 (BS Tryz.f145)) ⟨[pV,.ptr 0 0 0,.d (.bool false),.sl 1 0 bY.length,pW,pX,pY,pZ,u8,p0,p1,p2,p3,p4,p5,p6,u16,p7,p8,p9,p_,p',qa,qb,qc,qd,qe,qf,qg,qh,qi,qj,u32,qk,ql,qm,qn,qo,qp,qq,qs,qt,qu,qv,qw,qx,qy,qz,qA,qB,qC,qD,qE,qF,qG,qH,qI,qJ,qK,qL,qM,qN,qO,qP,u64,qQ,qR,qS,qT,qU,qV,qW,qX,qY,qZ,q0,q1,q2,q3,q4,q5,q6,q7,q8,q9,q_,q',ra,rb,re,rf,rh,ri,rj,rk,rl,rm,rn,rp,rq,rr,ru,rv,ry,rz,rA,rB,rC,rE,rF,rG,rH,rI,rJ,rK,rM,rN,rO,rP,rQ,rR,rS,rT,rU,rW,rX,rY,rZ,r1,r2,r3,r4,r5,r6,r7,r8,r9,r_,r',sa,sb,sc,sd,se,sf,sg,sh,si,sj,sk,sm,sn,sq,sr,ss,su,sv,sw,sx,sy,sA,sB,sC,sD,sE,sF,sG,sH,sI,sJ,sK,sL,sM,sN,sO,sP,sQ,sR,sS,sT,sU,sV,sW,sX,sY,sZ,s0,s3,s4,s5,s6,s7,s8,s9,s_,s',ta,tb,tc,td,tf,tg,th,ti,tj,tk,tl,tm,tn,tp,tq,tr,tt,tu,tv,tw,tx,tz,tA,tB,tC,tD,tE,tF,tG,tH,tI,tJ,tK,tL,tM,tN,tO,tP,tQ,tR,tS,tT,tU,tV,tW,tX,tY,tZ,t_,t'],[.box [.i a5,.i bh,.i bj,.i bd,.d (.sl 1 (aZ.map aW)),.d (.sl 2 (aF.map aa.enc)),.d (.sl 2 (aB.map aa.enc)),.d (.sl 2 (aG.map aa.enc)),.i bf,.i a8,.i a1,.i bk],.ar 2 (bY.map aa.enc) true]⟩ (bG (gM Tryz.prog [.tmp 2] [.one (.bool (fl (⟨a5,⟨bh,bj,bd,aZ⟩,aF,aB,aG,bf,a8,a1,bk⟩:aO)))]) .mk) [] (bG (gM Tryz.prog [.tmp 2] [.one (.bool (fl (⟨a5,⟨bh,bj,bd,aZ⟩,aF,aB,aG,bf,a8,a1,bk⟩:aO)))]) .mk):=by
 conv=>arg 3;whnf
 refine xp fun O4 b6=>?_;simp only[go_sem];subst dk;refine b7.intro (α:=Nat×Option (List aa)) (fun y=>match y.2 with
   |none=>⟨(.ak::.ptr 0 0 0::.d (.bool false)::.d (.sl 2 (aF.map aa.enc))::.ak::.i y.1::jn 240 []),[.box [.i a5,.i bh,.i bj,.i bd,.d (.sl 1 (aZ.map aW)),.d (.sl 2 (aF.map aa.enc)),.d (.sl 2 (aB.map aa.enc)),.d (.sl 2 (aG.map aa.enc)),.i bf,.i a8,.i a1,.i bk]]⟩
   |some ys=>⟨(.ak::.ptr 0 0 0::.d (.bool false)::.sl 1 0 ys.length::.ak::.i y.1::jn 240 []),[.box [.i a5,.i bh,.i bj,.i bd,.d (.sl 1 (aZ.map aW)),.d (.sl 2 (aF.map aa.enc)),.d (.sl 2 (aB.map aa.enc)),.d (.sl 2 (aG.map aa.enc)),.i bf,.i a8,.i a1,.i bk],.ar 2 (ys.map aa.enc) true]⟩)
  (fun y=>aG.length-y.1) (fun y=>y.1≤aG.length∧(y.2=none→False)∧y.2.getD aF=eL (eL aF aB) (aG.take y.1)) (0,some (eL aF aB)) [0,1] ⟨by simp,by simp,by simp[eL]⟩ ?_ ?_
 ·simp only[go_sem];simp
 ·rintro⟨i,w3⟩ ⟨hi,hz,hy⟩;simp only at hi hz hy;have h4:=pc (aG.take i) (eL aF aB);have WN:=pc aB aF;have cR:(aG.take i).length=i:=by simp;omega
  cases w3 with
  |none=>exact(hz rfl).elim
  |some ys=>
   skip
   simp only[Option.getD_some]at hy;by_cases h1:i<aG.length
   ·have ax:decide ((i:Int)<(aG.length:Int))=true:=bp (by omega);have aq:=b5 aa.enc aG i h1;have hw:=dK h1 kS;have cW:=Aj (eL aF aB) aG i h1;rw[←hy]at cW;have JA:ys.length≤1048576:=by rw[hy];omega
    try simp only[go_sem,I,aC,aq,aa.enc,ax]
    repeat'(first|((first|refine ab.intro (by first|apply xq|(apply uX<;>exact aP)) ?_|refine au.intro (by first|apply vY|apply h_|apply h9) ?_|refine a7 ?_)<;>simp only[go_sem,I])|(with_reducible refine aw ?_)|fail)
    refine bA.intro (i+1,some (gv ys aG[i])) [0,2] ⟨by omega,by simp,by simp[cW]⟩ (show aG.length-(i+1)<aG.length-i by omega) ?_;simp only[go_sem,hw];simp
   ·have ax:decide ((i:Int)<(aG.length:Int))=false:=bo (by omega);obtain rfl:i=aG.length:=by omega
    rw[d_]at hy;have Gr:=hy;have hA:nF (⟨a5,⟨bh,bj,bd,aZ⟩,aF,aB,aG,bf,a8,a1,bk⟩:aO)=ys:=hy.symm;simp only[go_sem,I,ax];exact b6 _ (WO a5 bh bj bd aZ aF aB aG bf a8 a1 bk hc lY kS dF eK ys hA (by rw[Gr];have:=pc aG (eL aF aB);have:=pc aB aF;omega) (WB xx xy xz (.inl hY) Gr))
theorem agU(a5 bh bj bd:Int)(aZ:List Int)(aF aB aG:List aa)(bf a8 a1 bk:Int)(hc:aF.length+aB.length+aG.length≤524288)(lY:aB.length≤maxLen)(kS:aG.length≤maxLen)(dF:jV (⟨a5,⟨bh,bj,bd,aZ⟩,aF,aB,aG,bf,a8,a1,bk⟩:aO)=true)(eK:mg (⟨a5,⟨bh,bj,bd,aZ⟩,aF,aB,aG,bf,a8,a1,bk⟩:aO)=false)(xx:cX aF=true)(xy:cX aB=true)(xz:cX aG=true){pV pW pX pY pZ u8 p0 p1 p2 p3 p4 p5 p6 u16 p7 p8 p9 p_ p' qa qb qc qd qe qf qg qh qi qj u32 qk ql qm qn qo qp qq qs qt qu qv qw qx qy qz qA qB qC qD qE qF qG qH qI qJ qK qL qM qN qO qP u64 qQ qR qS qT qU qV qW qX qY qZ q0 q1 q2 q3 q4 q5 q6 q7 q8 q9 q_ q' ra rb re rf rh ri rj rk rl rm rn rp rq rr ru rv ry rz rA rB rC rE rF rG rH rI rJ rK rM rN rO rP rQ rR rS rT rU rW rX rY rZ r1 r2 r3 r4 r5 r6 r7 r8 r9 r_ r' sa sb sc sd se sf sg sh si sj sk sm sn sq sr ss su sv sw sx sy sA sB sC sD sE sF sG sH sI sJ sK sL sM sN sO sP sQ sR sS sT sU sV sW sX sY sZ s0 s3 s4 s5 s6 s7 s8 s9 s_ s' ta tb tc td tf tg th ti tj tk tl tm tn tp tq tr tt tu tv tw tx tz tA tB tC tD tE tF tG tH tI tJ tK tL tM tN tO tP tQ tR tS tT tU tV tW tX tY tZ t_ t':V} :
  codeE Tryz.prog [] (Ah 4 (BS Tryz.f145)) ⟨[pV,.ptr 0 0 0,.d (.bool false),.d (.sl 2 (aF.map aa.enc)),pW,pX,pY,pZ,u8,p0,p1,p2,p3,p4,p5,p6,u16,p7,p8,p9,p_,p',qa,qb,qc,qd,qe,qf,qg,qh,qi,qj,u32,qk,ql,qm,qn,qo,qp,qq,qs,qt,qu,qv,qw,qx,qy,qz,qA,qB,qC,qD,qE,qF,qG,qH,qI,qJ,qK,qL,qM,qN,qO,qP,u64,qQ,qR,qS,qT,qU,qV,qW,qX,qY,qZ,q0,q1,q2,q3,q4,q5,q6,q7,q8,q9,q_,q',ra,rb,re,rf,rh,ri,rj,rk,rl,rm,rn,rp,rq,rr,ru,rv,ry,rz,rA,rB,rC,rE,rF,rG,rH,rI,rJ,rK,rM,rN,rO,rP,rQ,rR,rS,rT,rU,rW,rX,rY,rZ,r1,r2,r3,r4,r5,r6,r7,r8,r9,r_,r',sa,sb,sc,sd,se,sf,sg,sh,si,sj,sk,sm,sn,sq,sr,ss,su,sv,sw,sx,sy,sA,sB,sC,sD,sE,sF,sG,sH,sI,sJ,sK,sL,sM,sN,sO,sP,sQ,sR,sS,sT,sU,sV,sW,sX,sY,sZ,s0,s3,s4,s5,s6,s7,s8,s9,s_,s',ta,tb,tc,td,tf,tg,th,ti,tj,tk,tl,tm,tn,tp,tq,tr,tt,tu,tv,tw,tx,tz,tA,tB,tC,tD,tE,tF,tG,tH,tI,tJ,tK,tL,tM,tN,tO,tP,tQ,tR,tS,tT,tU,tV,tW,tX,tY,tZ,t_,t'],[.box [.i a5,.i bh,.i bj,.i bd,.d (.sl 1 (aZ.map aW)),.d (.sl 2 (aF.map aa.enc)),.d (.sl 2 (aB.map aa.enc)),.d (.sl 2 (aG.map aa.enc)),.i bf,.i a8,.i a1,.i bk]]⟩ (bG (gM Tryz.prog [.tmp 2] [.one (.bool (fl (⟨a5,⟨bh,bj,bd,aZ⟩,aF,aB,aG,bf,a8,a1,bk⟩:aO)))]) .mk) [] (bG (gM Tryz.prog [.tmp 2] [.one (.bool (fl (⟨a5,⟨bh,bj,bd,aZ⟩,aF,aB,aG,bf,a8,a1,bk⟩:aO)))]) .mk):=by
 conv=>arg 3;whnf
 refine xp fun O4 b6=>?_;simp only[go_sem];by_cases O6:aB=[]
 ·skip
  refine b7.intro (fun i:Nat=>⟨(.ak::.ptr 0 0 0::.d (.bool false)::.d (.sl 2 (aF.map aa.enc))::.i i::jn 241 []),[.box [.i a5,.i bh,.i bj,.i bd,.d (.sl 1 (aZ.map aW)),.d (.sl 2 (aF.map aa.enc)),.d (.sl 2 (aB.map aa.enc)),.d (.sl 2 (aG.map aa.enc)),.i bf,.i a8,.i a1,.i bk]]⟩)
   (fun _=>0) (fun i=>i=0) 0 [0] rfl ?_ ?_
  ·simp only[go_sem];simp
  ·rintro _ rfl;have ax:decide (((0:Nat):Int)<(aB.length:Int))=false:=bo (by rw[O6];simp);simp only[go_sem,I,ax];exact b6 _ (agR a5 bh bj bd aZ aF aB aG bf a8 a1 bk hc lY kS dF eK xx xy xz O6)
 ·skip
  have WQ:=O6;have vC:aF=eL aF []:=rfl;refine b7.intro (α:=Nat×Option (List aa)) (fun y=>match y.2 with
    |none=>⟨(.ak::.ptr 0 0 0::.d (.bool false)::.d (.sl 2 (aF.map aa.enc))::.i y.1::jn 241 []),[.box [.i a5,.i bh,.i bj,.i bd,.d (.sl 1 (aZ.map aW)),.d (.sl 2 (aF.map aa.enc)),.d (.sl 2 (aB.map aa.enc)),.d (.sl 2 (aG.map aa.enc)),.i bf,.i a8,.i a1,.i bk]]⟩
    |some ys=>⟨(.ak::.ptr 0 0 0::.d (.bool false)::.sl 1 0 ys.length::.i y.1::jn 241 []),[.box [.i a5,.i bh,.i bj,.i bd,.d (.sl 1 (aZ.map aW)),.d (.sl 2 (aF.map aa.enc)),.d (.sl 2 (aB.map aa.enc)),.d (.sl 2 (aG.map aa.enc)),.i bf,.i a8,.i a1,.i bk],.ar 2 (ys.map aa.enc) true]⟩)
   (fun y=>aB.length-y.1) (fun y=>y.1≤aB.length∧(y.2=none→y.1=0)∧y.2.getD aF=eL aF (aB.take y.1)) (0,none) [0] ⟨by simp,by simp,by simp only[Option.getD_none,List.take_zero];exact vC⟩ ?_ ?_
  ·simp only[go_sem];simp
  ·rintro⟨i,w3⟩ ⟨hi,hz,hy⟩;simp only at hi hz hy;have h4:=pc (aB.take i) aF;have WN:=pc aB aF;have cR:(aB.take i).length=i:=by simp;omega
   cases w3 with
   |none=>
    have jU:=hz rfl;simp only[Option.getD_none]at hy;by_cases h1:i<aB.length
    ·have ax:decide ((i:Int)<(aB.length:Int))=true:=bp (by omega);have aq:=b5 aa.enc aB i h1;have hw:=dK h1 lY;have cW:=Aj aF aB i h1;rw[←hy]at cW;have JA:aF.length≤1048576:=by rw[hy];omega
     try simp only[go_sem,I,aC,aq,aa.enc,ax]
     repeat'(first|((first|refine ab.intro (by first|apply xq|(apply uX<;>exact aP)) ?_|refine au.intro (by first|apply vY|apply h_|apply h9) ?_|refine a7 ?_)<;>simp only[go_sem,I])|(with_reducible refine aw ?_)|fail)
     refine bA.intro (i+1,some (gv aF aB[i])) [0,1] ⟨by omega,by simp,by simp[cW]⟩ (show aB.length-(i+1)<aB.length-i by omega) ?_;simp only[go_sem,hw];simp
    ·exfalso;exact absurd (List.length_pos_iff.2 WQ) (by omega)
   |some ys=>
    skip
    simp only[Option.getD_some]at hy;by_cases h1:i<aB.length
    ·have ax:decide ((i:Int)<(aB.length:Int))=true:=bp (by omega);have aq:=b5 aa.enc aB i h1;have hw:=dK h1 lY;have cW:=Aj aF aB i h1;rw[←hy]at cW;have JA:ys.length≤1048576:=by rw[hy];omega
     try simp only[go_sem,I,aC,aq,aa.enc,ax]
     repeat'(first|((first|refine ab.intro (by(apply uX<;>exact aP)) ?_|refine a7 ?_)<;>simp only[go_sem,I])|(with_reducible refine aw ?_)|fail)
     refine bA.intro (i+1,some (gv ys aB[i])) [0,2] ⟨by omega,by simp,by simp[cW]⟩ (show aB.length-(i+1)<aB.length-i by omega) ?_;simp only[go_sem,hw];simp
    ·have ax:decide ((i:Int)<(aB.length:Int))=false:=bo (by omega);obtain rfl:i=aB.length:=by omega
     rw[d_]at hy;simp only[go_sem,I,ax];exact b6 _ (agT a5 bh bj bd aZ aF aB aG bf a8 a1 bk hc lY kS dF eK xx xy xz WQ ys hy)
theorem agV(a5 bh bj bd:Int)(aZ:List Int)(aF aB aG:List aa)(bf a8 a1 bk:Int)(hc:aF.length+aB.length+aG.length≤524288)(lY:aB.length≤maxLen)(kS:aG.length≤maxLen)(dF:jV (⟨a5,⟨bh,bj,bd,aZ⟩,aF,aB,aG,bf,a8,a1,bk⟩:aO)=true)(eK:mg (⟨a5,⟨bh,bj,bd,aZ⟩,aF,aB,aG,bf,a8,a1,bk⟩:aO)=false)(xx:cX aF=true)(xy:cX aB=true)(xz:cX aG=true){pV jl pW pX pY pZ u8 p0 p1 p2 p3 p4 p5 p6 u16 p7 p8 p9 p_ p' qa qb qc qd qe qf qg qh qi qj u32 qk ql qm qn qo qp qq qs qt qu qv qw qx qy qz qA qB qC qD qE qF qG qH qI qJ qK qL qM qN qO qP u64 qQ qR qS qT qU qV qW qX qY qZ q0 q1 q2 q3 q4 q5 q6 q7 q8 q9 q_ q' ra rb re rf rh ri rj rk rl rm rn rp rq rr ru rv ry rz rA rB rC rE rF rG rH rI rJ rK rM rN rO rP rQ rR rS rT rU rW rX rY rZ r1 r2 r3 r4 r5 r6 r7 r8 r9 r_ r' sa sb sc sd se sf sg sh si sj sk sm sn sq sr ss su sv sw sx sy sA sB sC sD sE sF sG sH sI sJ sK sL sM sN sO sP sQ sR sS sT sU sV sW sX sY sZ s0 s3 s4 s5 s6 s7 s8 s9 s_ s' ta tb tc td tf tg th ti tj tk tl tm tn tp tq tr tt tu tv tw tx tz tA tB tC tD tE tF tG tH tI tJ tK tL tM tN tO tP tQ tR tS tT tU tV tW tX tY tZ t_ t':V} :
  codeE Tryz.prog [] (Ah 3 (BS Tryz.f145)) ⟨[pV,.ptr 0 0 0,.d (.bool false),jl,pW,pX,pY,pZ,u8,p0,p1,p2,p3,p4,p5,p6,u16,p7,p8,p9,p_,p',qa,qb,qc,qd,qe,qf,qg,qh,qi,qj,u32,qk,ql,qm,qn,qo,qp,qq,qs,qt,qu,qv,qw,qx,qy,qz,qA,qB,qC,qD,qE,qF,qG,qH,qI,qJ,qK,qL,qM,qN,qO,qP,u64,qQ,qR,qS,qT,qU,qV,qW,qX,qY,qZ,q0,q1,q2,q3,q4,q5,q6,q7,q8,q9,q_,q',ra,rb,re,rf,rh,ri,rj,rk,rl,rm,rn,rp,rq,rr,ru,rv,ry,rz,rA,rB,rC,rE,rF,rG,rH,rI,rJ,rK,rM,rN,rO,rP,rQ,rR,rS,rT,rU,rW,rX,rY,rZ,r1,r2,r3,r4,r5,r6,r7,r8,r9,r_,r',sa,sb,sc,sd,se,sf,sg,sh,si,sj,sk,sm,sn,sq,sr,ss,su,sv,sw,sx,sy,sA,sB,sC,sD,sE,sF,sG,sH,sI,sJ,sK,sL,sM,sN,sO,sP,sQ,sR,sS,sT,sU,sV,sW,sX,sY,sZ,s0,s3,s4,s5,s6,s7,s8,s9,s_,s',ta,tb,tc,td,tf,tg,th,ti,tj,tk,tl,tm,tn,tp,tq,tr,tt,tu,tv,tw,tx,tz,tA,tB,tC,tD,tE,tF,tG,tH,tI,tJ,tK,tL,tM,tN,tO,tP,tQ,tR,tS,tT,tU,tV,tW,tX,tY,tZ,t_,t'],[.box [.i a5,.i bh,.i bj,.i bd,.d (.sl 1 (aZ.map aW)),.d (.sl 2 (aF.map aa.enc)),.d (.sl 2 (aB.map aa.enc)),.d (.sl 2 (aG.map aa.enc)),.i bf,.i a8,.i a1,.i bk]]⟩ (bG (gM Tryz.prog [.tmp 2] [.one (.bool (fl (⟨a5,⟨bh,bj,bd,aZ⟩,aF,aB,aG,bf,a8,a1,bk⟩:aO)))]) .mk) [] (bG (gM Tryz.prog [.tmp 2] [.one (.bool (fl (⟨a5,⟨bh,bj,bd,aZ⟩,aF,aB,aG,bf,a8,a1,bk⟩:aO)))]) .mk):=by
 conv=>arg 3;whnf
 refine xp fun O4 b6=>?_;simp only[go_sem];exact b6 _ (agU a5 bh bj bd aZ aF aB aG bf a8 a1 bk hc lY kS dF eK xx xy xz)
theorem kT(a5 bh bj bd:Int)(aZ:List Int)(aF aB aG:List aa)(bf a8 a1 bk:Int)(hc:aF.length+aB.length+aG.length≤524288):aJ 145 [.agg [.int .i64 a5,.int .i64 bh,.int .i64 bj,.int .i64 bd,.sl 1 (aZ.map aW),.sl 2 (aF.map aa.enc),.sl 2 (aB.map aa.enc),.sl 2 (aG.map aa.enc),.int .i64 bf,.int .i64 a8,.int .i64 a1,.int .i64 bk]] [.one (.bool (fl (⟨a5,⟨bh,bj,bd,aZ⟩,aF,aB,aG,bf,a8,a1,bk⟩:aO)))]:=by
 refine aN 246 Tryz.func145 Tryz.call145 [.tmp 2] ?_;intro ok;have lY:aB.length≤maxLen:=by simp only[maxLen];omega
 have kS:aG.length≤maxLen:=by simp only[maxLen];omega
 refine xp fun K1 JB=>?_;simp only[go_sem];refine JB _ (xp fun K2 JC=>?_)
 try simp only[go_sem]
 repeat'(first|((first|refine ab.intro (by first|apply xq|(apply uX<;>exact aP)) ?_|refine au.intro (by first|apply vY|apply h_|apply h9) ?_|refine a7 ?_)<;>simp only[go_sem])|(with_reducible refine aw ?_)|fail)
 refine bt (fun h0=>?_) (fun h0=>?_)
 ·simp only[go_sem];have:jV (⟨a5,⟨bh,bj,bd,aZ⟩,aF,aB,aG,bf,a8,a1,bk⟩:aO)=false:=by
   rw[Bool.eq_false_iff];intro g;simp[jV]at h0 g;simp_all
  simp[fl,this]
 ·have dF:jV (⟨a5,⟨bh,bj,bd,aZ⟩,aF,aB,aG,bf,a8,a1,bk⟩:aO)=true:=by
   simp[jV]at h0⊢;simp_all
  have agW:(iZ (⟨a5,⟨bh,bj,bd,aZ⟩,aF,aB,aG,bf,a8,a1,bk⟩:aO).ring=true∧cX aF=true∧cX aB=true∧cX aG=true):=by
   simp only[jV,bP,and_assoc]at dF;exact⟨dF.1,dF.2.1,dF.2.2.1,dF.2.2.2.1⟩
  obtain⟨Uk,xx,xy,xz⟩:=agW;simp only[go_sem];refine JC _ (xp fun agX JD=>?_)
  try simp only[go_sem]
  repeat'(first|((first|refine ab.intro (by(apply uX<;>exact aP)) ?_|refine a7 ?_)<;>simp only[go_sem])|(with_reducible refine aw ?_)|fail)
  refine bt (fun aQ=>?_) (fun aQ=>?_)
  ·have eK:mg (⟨a5,⟨bh,bj,bd,aZ⟩,aF,aB,aG,bf,a8,a1,bk⟩:aO)=true:=by simpa [mg,c0]using aQ
   simp only[go_sem]
   try simp only[go_sem,I]
   repeat'(refine a7 ?_<;>simp only[go_sem,I])
   all_goals(refine eo ?_;simp[fl,dF,eK,JE])
  ·have eK:mg (⟨a5,⟨bh,bj,bd,aZ⟩,aF,aB,aG,bf,a8,a1,bk⟩:aO)=false:=by simpa [mg,c0]using aQ
   simp only[go_sem];exact JD _ (agV a5 bh bj bd aZ aF aB aG bf a8 a1 bk hc lY kS dF eK xx xy xz)
set_option maxRecDepth 100000
def WU:List (List bH):=cP 14 [4162967,4162965,4162959,4163062,4163008,4163926,4163440,4250434,4246060,4232938,4193572,4074381,4517248,3188646]
attribute [go_sem] WU
def GY:aO:=⟨0,⟨0,0,0,[]⟩,[],[],[],0,0,0,0⟩
def jF(n:Int):aO:=if jw n then⟨0,ja n,[],[],[],-1,0,0,0⟩else GY
theorem ag4(n:Int):aJ 138 [.one (.int .i64 n)] [.agg (aO.enc (jF n)),.one (.bool (jw n))]:=by
 refine aN 16 Tryz.func138 Tryz.call138 [.cell 2 54,.tmp 3] ?_;intro _
 cases aU:jw n with
 |false=>
  try simp only[go_sem]
  repeat'(refine ab.intro (by apply Wh) ?_<;>simp only[go_sem,aU])
  all_goals simp[jF,GY,aU]
 |true=>
  have hn:=x5 aU
  try simp only[go_sem]
  repeat'(first|(refine ab.intro (by apply Wh) ?_<;>simp only[go_sem,aU])|(with_reducible refine aw ?_)|fail)
  all_goals simp[jF,ja,aU,aW]
def oF(s:aO):Bool:=fl s&&decide (s.state≤1)&&decide (s.bn=-1)
def uh(s:aO)(d:List UInt8):aO:=
 if oF s then {s with ring:=uY s.ring d,pending:=if 0<mc s.ring d then gv s.pending ⟨s.ring.cv,(uY s.ring d).cv⟩else s.pending}else s
def B9(s:aO)(d:List UInt8):Int:=if oF s then(mc s.ring d:Int)else 0
theorem XV(a5 bh bj bd:Int)(aZ:List Int)(aF aB aG:List aa)(bf a8 a1 bk:Int)(d:List UInt8)(hc:aF.length+aB.length+aG.length≤524288)(hr:aZ.length≤8388608)(hd:d.length≤1048576):aJ 232 [.agg [.int .i64 a5,.int .i64 bh,.int .i64 bj,.int .i64 bd,.sl 1 (aZ.map aW),.sl 2 (aF.map aa.enc),.sl 2 (aB.map aa.enc),.sl 2 (aG.map aa.enc),.int .i64 bf,.int .i64 a8,.int .i64 a1,.int .i64 bk],.one (.str d)] [.agg (aO.enc (uh (⟨a5,⟨bh,bj,bd,aZ⟩,aF,aB,aG,bf,a8,a1,bk⟩:aO) d)),.one (.int .i64 (B9 (⟨a5,⟨bh,bj,bd,aZ⟩,aF,aB,aG,bf,a8,a1,bk⟩:aO) d))]:=by
 refine aN 48 Tryz.func232 Tryz.call232 [.cell 4 54,.tmp 5] ?_;intro _
 cases hW:oF (⟨a5,⟨bh,bj,bd,aZ⟩,aF,aB,aG,bf,a8,a1,bk⟩:aO)with
 |false=>
  try simp only[go_sem]
  repeat'((first|refine ab.intro (by first|(apply pw<;>exact aP)|(apply kT<;>exact aP)) ?_|refine a7 ?_)<;>simp only[go_sem,I])
  refine bt (fun h0=>?_) (fun h0=>?_)
  ·simp only[go_sem,I];simp[uh,B9,hW]
  ·exfalso;simp[oF]at hW h0;grind
 |true=>
  have hw:=hW;simp only[oF,bP,b2,and_assoc]at hw;have ah:decide (1<a5)=false:=bo (by omega);have ai:decide (bf≠-1)=false:=bo (by omega)
  try simp only[go_sem]
  repeat'(first|((first|refine ab.intro (by first|(apply pw<;>exact aP)|(apply kT<;>exact aP)|(apply agy<;>exact aP)|(apply uX<;>exact aP)) ?_|with_reducible refine du ?_|refine bt (fun h=>?_) (fun h=>?_))<;>simp only[go_sem,I,hw.1,ah,ai])|(with_reducible refine aw ?_)|fail)
  ·have h':0<mc (⟨a5,⟨bh,bj,bd,aZ⟩,aF,aB,aG,bf,a8,a1,bk⟩:aO).ring d:=by have:=cO h;simp only;omega
   simp only[uh,B9,hW,if_true,if_pos h']
   try simp[outOA,gx]
  ·have h':¬0<mc (⟨a5,⟨bh,bj,bd,aZ⟩,aF,aB,aG,bf,a8,a1,bk⟩:aO).ring d:=by have:=c9 h;simp only;omega
   simp only[uh,B9,hW,if_true,if_neg h']
   try simp[outOA,gx]
def wk(s:aO):aO:=if oF s then {s with bn:=s.ring.cv,a2:=1}else s
theorem XN(a5 bh bj bd:Int)(aZ:List Int)(aF aB aG:List aa)(bf a8 a1 bk:Int)(hc:aF.length+aB.length+aG.length≤524288)(hr:aZ.length≤8388608):aJ 233 [.agg [.int .i64 a5,.int .i64 bh,.int .i64 bj,.int .i64 bd,.sl 1 (aZ.map aW),.sl 2 (aF.map aa.enc),.sl 2 (aB.map aa.enc),.sl 2 (aG.map aa.enc),.int .i64 bf,.int .i64 a8,.int .i64 a1,.int .i64 bk]] [.agg (aO.enc (wk (⟨a5,⟨bh,bj,bd,aZ⟩,aF,aB,aG,bf,a8,a1,bk⟩:aO))),.one (.bool (oF (⟨a5,⟨bh,bj,bd,aZ⟩,aF,aB,aG,bf,a8,a1,bk⟩:aO)))]:=by
 refine aN 27 Tryz.func233 Tryz.call233 [.cell 2 54,.tmp 3] ?_;intro _
 cases hW:oF (⟨a5,⟨bh,bj,bd,aZ⟩,aF,aB,aG,bf,a8,a1,bk⟩:aO)with
 |false=>
  try simp only[go_sem]
  repeat'((first|refine ab.intro (by first|(apply pw<;>exact aP)|(apply kT<;>exact aP)) ?_|refine a7 ?_)<;>simp only[go_sem,I])
  refine bt (fun h0=>?_) (fun h0=>?_)
  ·simp only[go_sem,I];simp[wk,hW]
  ·exfalso;simp[oF]at hW h0;grind
 |true=>
  have hw:=hW;simp only[oF,bP,b2,and_assoc]at hw;have ah:decide (1<a5)=false:=bo (by omega);have ai:decide (bf≠-1)=false:=bo (by omega)
  try simp only[go_sem]
  repeat'(first|((first|refine ab.intro (by first|(apply pw<;>exact aP)|(apply kT<;>exact aP)) ?_|with_reducible refine du ?_)<;>simp only[go_sem,I,hw.1,ah,ai])|(with_reducible refine aw ?_)|fail)
  all_goals simp[wk,hW]
def uf(s:aO)(c:Int):Bool:=fl s&&decide (s.state≤2)&&bN c
def B6(s:aO)(c:Int):aO:=if uf s c then⟨4,⟨s.ring.size,s.sent,s.sent,List.replicate s.ring.size.toNat 0⟩,[],[],[],s.sent,0,s.sent,c⟩else s
theorem ag5{s:aO}(h:fl s=true):iZ s.ring=true:=by
 simp only[fl,jV,bP,and_assoc]at h;exact h.1
theorem P2(a5 bh bj bd:Int)(aZ:List Int)(aF aB aG:List aa)(bf a8 a1 bk c:Int)(hc:aF.length+aB.length+aG.length≤524288)(hr:aZ.length≤8388608):aJ 237 [.agg [.int .i64 a5,.int .i64 bh,.int .i64 bj,.int .i64 bd,.sl 1 (aZ.map aW),.sl 2 (aF.map aa.enc),.sl 2 (aB.map aa.enc),.sl 2 (aG.map aa.enc),.int .i64 bf,.int .i64 a8,.int .i64 a1,.int .i64 bk],.one (.int .i64 c)] [.agg (aO.enc (B6 (⟨a5,⟨bh,bj,bd,aZ⟩,aF,aB,aG,bf,a8,a1,bk⟩:aO) c)),.one (.bool (uf (⟨a5,⟨bh,bj,bd,aZ⟩,aF,aB,aG,bf,a8,a1,bk⟩:aO) c))]:=by
 refine aN 41 Tryz.func237 Tryz.call237 [.cell 4 54,.tmp 5] ?_;intro _
 cases hW:uf (⟨a5,⟨bh,bj,bd,aZ⟩,aF,aB,aG,bf,a8,a1,bk⟩:aO) c with
 |false=>
  try simp only[go_sem]
  repeat'((first|refine ab.intro (by(apply kT<;>exact aP)) ?_|refine au.intro (by apply h9) ?_|refine a7 ?_)<;>simp only[go_sem])
  refine bt (fun h0=>?_) (fun h0=>?_)
  ·simp only[go_sem]
   try simp only[go_sem,I]
   repeat'(first|(refine ab.intro (by(apply pw<;>exact aP)) ?_<;>simp only[go_sem,I])|(with_reducible refine aw ?_)|fail)
   all_goals simp[B6,hW]
  ·exfalso;simp[uf]at hW h0;grind
 |true=>
  have hw:=hW;simp only[uf,bP,b2,and_assoc]at hw;have hg:=vV (ag5 hw.1);simp only at hg;have ah:decide (2<a5)=false:=bo (by omega)
  try simp only[go_sem]
  repeat'(first|((first|refine ab.intro (by first|(apply kT<;>exact aP)|apply h9) ?_|with_reducible refine du ?_|refine ba WU (by kernel_rfl) (by rfl) ?_)<;>simp only[go_sem,hw.1,ah,hw.2.2])|(with_reducible refine aw ?_)|fail)
  all_goals simp[B6,hW,aW]
def BF(s:aO):Bool:=fl s&&decide (s.state=4)
def Db(s:aO):aO:=if BF s then {s with state:=5}else s
theorem ags(a5 bh bj bd:Int)(aZ:List Int)(aF aB aG:List aa)(bf a8 a1 bk:Int)(hc:aF.length+aB.length+aG.length≤524288)(hr:aZ.length≤8388608):aJ 306 [.agg [.int .i64 a5,.int .i64 bh,.int .i64 bj,.int .i64 bd,.sl 1 (aZ.map aW),.sl 2 (aF.map aa.enc),.sl 2 (aB.map aa.enc),.sl 2 (aG.map aa.enc),.int .i64 bf,.int .i64 a8,.int .i64 a1,.int .i64 bk]] [.agg (aO.enc (Db (⟨a5,⟨bh,bj,bd,aZ⟩,aF,aB,aG,bf,a8,a1,bk⟩:aO))),.one (.bool (BF (⟨a5,⟨bh,bj,bd,aZ⟩,aF,aB,aG,bf,a8,a1,bk⟩:aO)))]:=by
 refine aN 18 Tryz.func306 Tryz.call306 [.cell 2 54,.tmp 3] ?_;intro _
 try simp only[go_sem]
 repeat'(first|((first|refine ab.intro (by first|(apply pw<;>exact aP)|(apply kT<;>exact aP)) ?_|refine a7 ?_|refine bt (fun h=>?_) (fun h=>?_))<;>simp only[go_sem,I])|(with_reducible refine aw ?_)|fail)
 all_goals(cases hc2:BF (⟨a5,⟨bh,bj,bd,aZ⟩,aF,aB,aG,bf,a8,a1,bk⟩:aO)<;>first|(simp[Db,hc2];done)|(exfalso;simp[BF]at *;grind))
def pD:cf:=⟨0,[],false⟩
def Dy(s:aO):Bool:=fl s&&decide (s.state≤2)
def lU(r:aa)(most aR:Int):Int:=if most<IntKind.i64.wrap (dG r.high aR-r.low)then IntKind.i64.wrap (r.low+eb most 0)else dG r.high aR
def nextOk(s:aO)(most aR:Int):Bool:=
 Dy s&&(match s.pending[0]? with|some r=>decide (r.low<dG r.high aR)&&decide (r.low<lU r most aR)|none=>decide (s.a2=1))
def nU(s:aO)(most aR:Int):cf:=
 if nextOk s most aR then(match s.pending[0]? with|some r=>⟨r.low,BA s.ring r.low (IntKind.i64.wrap (lU r most aR-r.low)),decide (s.a2=1)&&decide (lU r most aR=s.bn)⟩|none=>⟨s.bn,[],true⟩)else pD
def wF(s:aO)(m l:Int):List AD:=[.agg [.int .i64 (nU s m l).offset,.str (nU s m l).data,.bool (nU s m l).a2],.one (.bool (nextOk s m l))]
theorem JG{s:aO}{m l:Int}(h:nextOk s m l=false):wF s m l=[.agg [.int .i64 0,.str [],.bool false],.one (.bool false)]:=by
 unfold wF nU;rw[h];simp[pD]
theorem ag6{s:aO}{m l:Int}(bT:Dy s=true)(hp:s.pending=[])(hf:s.a2=1):wF s m l=[.agg [.int .i64 s.bn,.str [],.bool true],.one (.bool true)]:=by
 have h:nextOk s m l=true:=by simp[nextOk,bT,hp,hf]
 unfold wF nU;rw[h,hp];simp
theorem ag7{s:aO}{m l:Int}{r:aa}(bT:Dy s=true)(hp:s.pending[0]?=some r)(h1:r.low<dG r.high l)(h2:r.low<lU r m l) :
  wF s m l=[.agg [.int .i64 r.low,.str (BA s.ring r.low (IntKind.i64.wrap (lU r m l-r.low))),.bool (decide (s.a2=1)&&decide (lU r m l=s.bn))],.one (.bool true)]:=by
 have h:nextOk s m l=true:=by simp[nextOk,bT,hp,h1,h2]
 unfold wF nU;rw[h,hp];simp
theorem ZC(a5 bh bj bd:Int)(aZ:List Int)(aF aB aG:List aa)(bf a8 a1 bk m l:Int)(hc:aF.length+aB.length+aG.length≤524288):aJ 322 [.agg [.int .i64 a5,.int .i64 bh,.int .i64 bj,.int .i64 bd,.sl 1 (aZ.map aW),.sl 2 (aF.map aa.enc),.sl 2 (aB.map aa.enc),.sl 2 (aG.map aa.enc),.int .i64 bf,.int .i64 a8,.int .i64 a1,.int .i64 bk],.one (.int .i64 m),.one (.int .i64 l)] [.agg [.int .i64 (nU (⟨a5,⟨bh,bj,bd,aZ⟩,aF,aB,aG,bf,a8,a1,bk⟩:aO) m l).offset,.str (nU (⟨a5,⟨bh,bj,bd,aZ⟩,aF,aB,aG,bf,a8,a1,bk⟩:aO) m l).data,.bool (nU (⟨a5,⟨bh,bj,bd,aZ⟩,aF,aB,aG,bf,a8,a1,bk⟩:aO) m l).a2],.one (.bool (nextOk (⟨a5,⟨bh,bj,bd,aZ⟩,aF,aB,aG,bf,a8,a1,bk⟩:aO) m l))]:=by
 refine aN 90 Tryz.func322 Tryz.call322 [.cell 6 162,.tmp 7] ?_;intro _
 show codeE _ _ _ _ (bG (gM _ _ (wF (⟨a5,⟨bh,bj,bd,aZ⟩,aF,aB,aG,bf,a8,a1,bk⟩:aO) m l)) .mk) [] (bG (gM _ _ (wF (⟨a5,⟨bh,bj,bd,aZ⟩,aF,aB,aG,bf,a8,a1,bk⟩:aO) m l)) .mk)
 cases bT:Dy (⟨a5,⟨bh,bj,bd,aZ⟩,aF,aB,aG,bf,a8,a1,bk⟩:aO)with
 |false=>
  rw[JG (by simp[nextOk,bT])]
  try simp only[go_sem]
  repeat'((first|refine ab.intro (by(apply kT<;>exact aP)) ?_|refine a7 ?_)<;>simp only[go_sem])
  refine bt (fun h0=>?_) (fun h0=>?_)
  ·simp only[go_sem]
  ·exfalso;simp[Dy]at bT h0;grind
 |true=>
  have hw:=bT;simp only[Dy,bP,b2]at hw;have ah:decide (2<a5)=false:=bo (by omega);by_cases hp:aF=[]
  ·have ai:decide ((0:Int)<(aF.length:Int))=false:=bo (by rw[hp];simp);by_cases hf:a8=1
   ·have aX:decide (a8=1)=true:=bp hf;rw[ag6 bT hp hf]
    try simp only[go_sem]
    repeat'((first|refine ab.intro (by(apply kT<;>exact aP)) ?_|with_reducible refine du ?_)<;>simp only[go_sem,I,hw.1,ah,ai,aX])
   ·have aX:decide (a8=1)=false:=bo hf;rw[JG (by simp[nextOk,hp,hf])]
    try simp only[go_sem]
    repeat'((first|refine ab.intro (by(apply kT<;>exact aP)) ?_|with_reducible refine du ?_)<;>simp only[go_sem,I,hw.1,ah,ai,aX])
  ·have ff:0<aF.length:=List.length_pos_iff.2 hp;have ai:decide ((0:Int)<(aF.length:Int))=true:=bp (by omega);have hI:=b5 aa.enc aF 0 ff;have hr:aF[0]?=some aF[0]:=b8 ff;generalize aF[0]=r at hI hr;by_cases cM:r.low<dG r.high l
   ·have aX:decide ((if l<r.high then l else r.high)≤r.low)=false:=bo (by unfold dG at cM;omega);by_cases dI:r.low<lU r m l
    ·rw[ag7 bT hr cM dI]
     cases br:decide (m<IntKind.i64.wrap ((if l<r.high then l else r.high)-r.low))with
     |true=>
      have hn:lU r m l=IntKind.i64.wrap (r.low+if 0>m then 0 else m):=by unfold lU dG eb;rw[if_pos (cO br)]
      rw[hn]at dI⊢;have cF:decide (IntKind.i64.wrap (r.low+if 0>m then 0 else m)≤r.low)=false:=bo (by omega)
      try simp only[go_sem]
      repeat'(first|((first|refine ab.intro (by first|(apply kT<;>exact aP)|apply Wm) ?_|with_reducible refine du ?_|refine a7 ?_)<;>simp only[go_sem,I,hw.1,ah,ai,hI,aa.enc,Int.toNat_zero,aX,br,cF])|(with_reducible refine aw ?_)|fail)
      all_goals first|omega|(simp only[cw])
     |false=>
      have hn:lU r m l=(if l<r.high then l else r.high):=by unfold lU dG;rw[if_neg (c9 br)]
      rw[hn]at dI⊢
      try simp only[go_sem]
      repeat'(first|((first|refine ab.intro (by first|(apply kT<;>exact aP)|apply Wm) ?_|with_reducible refine du ?_|refine a7 ?_)<;>simp only[go_sem,I,hw.1,ah,ai,hI,aa.enc,Int.toNat_zero,aX,br])|(with_reducible refine aw ?_)|fail)
      all_goals first|omega|(simp only[cw])
    ·rw[JG (by simp[nextOk,bT,hr,dI])];have br:decide (m<IntKind.i64.wrap ((if l<r.high then l else r.high)-r.low))=true:=by
      refine bp (Classical.byContradiction fun g=>dI ?_);unfold lU dG;rw[if_neg g];exact cM
     have hn:lU r m l=IntKind.i64.wrap (r.low+if 0>m then 0 else m):=by unfold lU dG eb;rw[if_pos (cO br)]
     rw[hn]at dI;have cF:decide (IntKind.i64.wrap (r.low+if 0>m then 0 else m)≤r.low)=true:=bp (by omega)
     try simp only[go_sem]
     repeat'((first|refine ab.intro (by(apply kT<;>exact aP)) ?_|with_reducible refine du ?_)<;>simp only[go_sem,I,hw.1,ah,ai,hI,aa.enc,Int.toNat_zero,aX,br,cF])
     all_goals omega
   ·have aX:decide ((if l<r.high then l else r.high)≤r.low)=true:=bp (by unfold dG at cM;omega);rw[JG (by simp[nextOk,bT,hr,cM])]
    try simp only[go_sem]
    repeat'((first|refine ab.intro (by(apply kT<;>exact aP)) ?_|with_reducible refine du ?_)<;>simp only[go_sem,I,hw.1,ah,ai,hI,aa.enc,Int.toNat_zero,aX])
    all_goals omega
def fz(p:cf):aa:=⟨p.offset,IntKind.i64.wrap (p.offset+(p.data.length:Int))⟩
theorem Gu(dh:Int)(cN:List UInt8)(dc:Bool):aJ 332 [.agg [.int .i64 dh,.str cN,.bool dc]] [.agg [.int .i64 (fz (⟨dh,cN,dc⟩:cf)).low,.int .i64 (fz (⟨dh,cN,dc⟩:cf)).high]]:=by
 refine aN 12 Tryz.func332 Tryz.call332 [.cell 2 172] ?_;intro _
 try simp only[go_sem]
 all_goals simp[fz]
def xe(s:aO)(p:cf):Bool:=decide (0≤p.offset)&&decide (p.offset≤s.ring.cv)&&decide ((p.data.length:Int)≤IntKind.i64.wrap (s.ring.cv-p.offset))&&(!p.a2||(decide (s.bn≠-1)&&decide (IntKind.i64.wrap (p.offset+(p.data.length:Int))=s.bn)))
theorem Dz(a5 bh bj bd:Int)(aZ:List Int)(aF aB aG:List aa)(bf a8 a1 bk dh:Int)(cN:List UInt8)(dc:Bool):aJ 330 [.agg [.int .i64 a5,.int .i64 bh,.int .i64 bj,.int .i64 bd,.sl 1 (aZ.map aW),.sl 2 (aF.map aa.enc),.sl 2 (aB.map aa.enc),.sl 2 (aG.map aa.enc),.int .i64 bf,.int .i64 a8,.int .i64 a1,.int .i64 bk],.agg [.int .i64 dh,.str cN,.bool dc]] [.one (.bool (xe (⟨a5,⟨bh,bj,bd,aZ⟩,aF,aB,aG,bf,a8,a1,bk⟩:aO) (⟨dh,cN,dc⟩:cf)))]:=by
 refine aN 49 Tryz.func330 Tryz.call330 [.tmp 4] ?_;intro _
 try simp only[go_sem]
 repeat'(refine a7 ?_<;>simp only[go_sem])
 all_goals(refine eo ?_;simp[xe,and_assoc])
set_option maxRecDepth 100000
def Ps(s:ae):Bool:=!s.eU||decide (s.send.state=3)||decide (s.send.state=5)
theorem ahb(k0 k3 k4 k5 k6:Int)(km:List Int)(jg jh ji:List aa)(k7 k8 k9 k_ k' la lb ld lf lg:Int)(hO:List aA)(lh lj lk ll ln lo lp lq lr lu:Int)(lv lx ly lz lA lB lC:Bool)(lD:Int)(lE:Bool):aJ 335 [.agg [.int .i64 k0,.int .i64 k3,.int .i64 k4,.int .i64 k5,.int .i64 k6,.sl 1 (km.map aW),.sl 2 (jg.map aa.enc),.sl 2 (jh.map aa.enc),.sl 2 (ji.map aa.enc),.int .i64 k7,.int .i64 k8,.int .i64 k9,.int .i64 k_,.int .i64 k',.int .i64 la,.int .i64 lb,.int .i64 ld,.int .i64 lf,.int .i64 lg,.sl 2 (hO.map aA.enc),.int .i64 lh,.int .i64 lj,.int .i64 lk,.int .i64 ll,.int .i64 ln,.int .i64 lo,.int .i64 lp,.int .i64 lq,.int .i64 lr,.int .i64 lu,.bool lv,.bool lx,.bool ly,.bool lz,.bool lA,.bool lB,.bool lC,.int .i64 lD,.bool lE]] [.one (.bool (Ps (⟨k0,⟨k3,⟨k4,k5,k6,km⟩,jg,jh,ji,k7,k8,k9,k_⟩,⟨k',la,lb,ld⟩,⟨lf,⟨lg,hO⟩,lh,lj,lk⟩,⟨ll,ln,lo,lp,lq,lr⟩,⟨lu,lv⟩,lx,ly,lz,lA,lB,lC,lD,lE⟩:ae)))]:=by
 refine aN 18 Tryz.func335 Tryz.call335 [.tmp 2] ?_;intro _
 try simp only[go_sem]
 repeat'(refine a7 ?_<;>simp only[go_sem])
 all_goals(refine eo ?_;simp[Ps])
def Pt(s:ae):Bool:=!s.fC||OL s.recv
theorem ahc(k0 k3 k4 k5 k6:Int)(km:List Int)(jg jh ji:List aa)(k7 k8 k9 k_ k' la lb ld lf lg:Int)(hO:List aA)(lh lj lk ll ln lo lp lq lr lu:Int)(lv lx ly lz lA lB lC:Bool)(lD:Int)(lE:Bool)(hb:∀c∈hO,c.data.length≤1048576)(hx:hO.length≤1048576):aJ 336 [.agg [.int .i64 k0,.int .i64 k3,.int .i64 k4,.int .i64 k5,.int .i64 k6,.sl 1 (km.map aW),.sl 2 (jg.map aa.enc),.sl 2 (jh.map aa.enc),.sl 2 (ji.map aa.enc),.int .i64 k7,.int .i64 k8,.int .i64 k9,.int .i64 k_,.int .i64 k',.int .i64 la,.int .i64 lb,.int .i64 ld,.int .i64 lf,.int .i64 lg,.sl 2 (hO.map aA.enc),.int .i64 lh,.int .i64 lj,.int .i64 lk,.int .i64 ll,.int .i64 ln,.int .i64 lo,.int .i64 lp,.int .i64 lq,.int .i64 lr,.int .i64 lu,.bool lv,.bool lx,.bool ly,.bool lz,.bool lA,.bool lB,.bool lC,.int .i64 lD,.bool lE]] [.one (.bool (Pt (⟨k0,⟨k3,⟨k4,k5,k6,km⟩,jg,jh,ji,k7,k8,k9,k_⟩,⟨k',la,lb,ld⟩,⟨lf,⟨lg,hO⟩,lh,lj,lk⟩,⟨ll,ln,lo,lp,lq,lr⟩,⟨lu,lv⟩,lx,ly,lz,lA,lB,lC,lD,lE⟩:ae)))]:=by
 refine aN 11 Tryz.func336 Tryz.call336 [.tmp 2] ?_;intro _
 try simp only[go_sem]
 repeat'((first|refine au.intro (by(apply agl<;>exact aP)) ?_|refine a7 ?_)<;>simp only[go_sem])
 all_goals(refine eo ?_;simp[Pt])
def FZ(s:ae):Bool:=bN s.id&&jI s.dL&&i_ s.recv&&kG s.bX&&mO s.priority&&bN s.nr&&(s.eU||s.fC)
def Jh(s:ae):Bool:=!decide (s.dL.used<s.send.sent)&&!decide (s.bX.seen<s.recv.fO)&&!(s.iJ&&decide (s.send.state≠4))&&!(s.iM&&!s.lG)&&!(decide (s.nr≠0)&&!s.lG)
def Ji(s:ae):Bool:=(s.eU||decide (s.send.state=0)&&decide (s.send.ring.cv=0)&&decide (s.send.bn=-1))&&(s.fC||decide (s.recv.state=0)&&decide (s.recv.fO=0)&&!s.lG)
def Dl(b:Bool)(s:ae):Bool:=b&&FZ s&&Jh s&&Ji s
def fv(s:ae):Bool:=Dl (fl s.send) s
def hC(s:ae):Bool:=Dl (Al s.send) s
theorem X7{s:ae}(hn:AM s.send):fv s=hC s:=by unfold fv hC;rw[agZ hn]
theorem W4(k0 k3 k4 k5 k6:Int)(km:List Int)(jg jh ji:List aa)(k7 k8 k9 k_ k' la lb ld lf lg:Int)(hO:List aA)(lh lj lk ll ln lo lp lq lr lu:Int)(lv lx ly lz lA lB lC:Bool)(lD:Int)(lE:Bool)(hc:jg.length+jh.length+ji.length≤524288)(hb:∀c∈hO,c.data.length≤1048576)(hx:hO.length≤1048576):aJ 109 [.agg [.int .i64 k0,.int .i64 k3,.int .i64 k4,.int .i64 k5,.int .i64 k6,.sl 1 (km.map aW),.sl 2 (jg.map aa.enc),.sl 2 (jh.map aa.enc),.sl 2 (ji.map aa.enc),.int .i64 k7,.int .i64 k8,.int .i64 k9,.int .i64 k_,.int .i64 k',.int .i64 la,.int .i64 lb,.int .i64 ld,.int .i64 lf,.int .i64 lg,.sl 2 (hO.map aA.enc),.int .i64 lh,.int .i64 lj,.int .i64 lk,.int .i64 ll,.int .i64 ln,.int .i64 lo,.int .i64 lp,.int .i64 lq,.int .i64 lr,.int .i64 lu,.bool lv,.bool lx,.bool ly,.bool lz,.bool lA,.bool lB,.bool lC,.int .i64 lD,.bool lE]] [.one (.bool (fv (⟨k0,⟨k3,⟨k4,k5,k6,km⟩,jg,jh,ji,k7,k8,k9,k_⟩,⟨k',la,lb,ld⟩,⟨lf,⟨lg,hO⟩,lh,lj,lk⟩,⟨ll,ln,lo,lp,lq,lr⟩,⟨lu,lv⟩,lx,ly,lz,lA,lB,lC,lD,lE⟩:ae)))]:=by
 refine aN 140 Tryz.func109 Tryz.call109 [.tmp 2] ?_;intro _
 try simp only[go_sem]
 repeat'((first|refine ab.intro (by apply h9) ?_|refine au.intro (by first|apply h9|(apply kT<;>exact aP)|apply zf|(apply xn<;>exact aP)|apply DZ|apply FX) ?_|refine a7 ?_|refine bt (fun h=>?_) (fun h=>?_))<;>simp only[go_sem])
 all_goals(refine eo ?_;simp only[fv,Dl,FZ,Jh,Ji,cw,c0]at *;grind)
theorem ahd(k0 k3 k4 k5 k6:Int)(km:List Int)(jg jh ji:List aa)(k7 k8 k9 k_ k' la lb ld lf lg:Int)(hO:List aA)(lh lj lk ll ln lo lp lq lr lu:Int)(lv lx ly lz lA lB lC:Bool)(lD:Int)(lE:Bool)(hc:jg.length+jh.length+ji.length≤524288)(hb:∀c∈hO,c.data.length≤1048576)(hx:hO.length≤1048576):aJ 101 [.agg [.int .i64 k0,.int .i64 k3,.int .i64 k4,.int .i64 k5,.int .i64 k6,.sl 1 (km.map aW),.sl 2 (jg.map aa.enc),.sl 2 (jh.map aa.enc),.sl 2 (ji.map aa.enc),.int .i64 k7,.int .i64 k8,.int .i64 k9,.int .i64 k_,.int .i64 k',.int .i64 la,.int .i64 lb,.int .i64 ld,.int .i64 lf,.int .i64 lg,.sl 2 (hO.map aA.enc),.int .i64 lh,.int .i64 lj,.int .i64 lk,.int .i64 ll,.int .i64 ln,.int .i64 lo,.int .i64 lp,.int .i64 lq,.int .i64 lr,.int .i64 lu,.bool lv,.bool lx,.bool ly,.bool lz,.bool lA,.bool lB,.bool lC,.int .i64 lD,.bool lE]] [.one (.bool (hC (⟨k0,⟨k3,⟨k4,k5,k6,km⟩,jg,jh,ji,k7,k8,k9,k_⟩,⟨k',la,lb,ld⟩,⟨lf,⟨lg,hO⟩,lh,lj,lk⟩,⟨ll,ln,lo,lp,lq,lr⟩,⟨lu,lv⟩,lx,ly,lz,lA,lB,lC,lD,lE⟩:ae)))]:=by
 refine aN 141 Tryz.func101 Tryz.call101 [.tmp 2] ?_;intro _
 try simp only[go_sem]
 repeat'((first|refine ab.intro (by apply uc) ?_|refine au.intro (by first|apply uc|(apply agY<;>exact aP)|apply Nk|(apply agp<;>exact aP)|apply Nj|apply aeW) ?_|refine a7 ?_|refine bt (fun h=>?_) (fun h=>?_))<;>simp only[go_sem])
 all_goals(refine eo ?_;simp only[hC,Dl,FZ,Jh,Ji,cw,c0]at *;grind)
def DT(s:ae):Bool:=fv s&&Ps s&&Pt s
theorem P5(k0 k3 k4 k5 k6:Int)(km:List Int)(jg jh ji:List aa)(k7 k8 k9 k_ k' la lb ld lf lg:Int)(hO:List aA)(lh lj lk ll ln lo lp lq lr lu:Int)(lv lx ly lz lA lB lC:Bool)(lD:Int)(lE:Bool)(hc:jg.length+jh.length+ji.length≤524288)(hb:∀c∈hO,c.data.length≤1048576)(hx:hO.length≤1048576):aJ 311 [.agg [.int .i64 k0,.int .i64 k3,.int .i64 k4,.int .i64 k5,.int .i64 k6,.sl 1 (km.map aW),.sl 2 (jg.map aa.enc),.sl 2 (jh.map aa.enc),.sl 2 (ji.map aa.enc),.int .i64 k7,.int .i64 k8,.int .i64 k9,.int .i64 k_,.int .i64 k',.int .i64 la,.int .i64 lb,.int .i64 ld,.int .i64 lf,.int .i64 lg,.sl 2 (hO.map aA.enc),.int .i64 lh,.int .i64 lj,.int .i64 lk,.int .i64 ll,.int .i64 ln,.int .i64 lo,.int .i64 lp,.int .i64 lq,.int .i64 lr,.int .i64 lu,.bool lv,.bool lx,.bool ly,.bool lz,.bool lA,.bool lB,.bool lC,.int .i64 lD,.bool lE]] [.one (.bool (DT (⟨k0,⟨k3,⟨k4,k5,k6,km⟩,jg,jh,ji,k7,k8,k9,k_⟩,⟨k',la,lb,ld⟩,⟨lf,⟨lg,hO⟩,lh,lj,lk⟩,⟨ll,ln,lo,lp,lq,lr⟩,⟨lu,lv⟩,lx,ly,lz,lA,lB,lC,lD,lE⟩:ae)))]:=by
 refine aN 13 Tryz.func311 Tryz.call311 [.tmp 2] ?_;intro _
 try simp only[go_sem]
 repeat'((first|refine ab.intro (by(apply W4<;>exact aP)) ?_|refine au.intro (by first|apply ahb|(apply ahc<;>exact aP)) ?_|refine a7 ?_)<;>simp only[go_sem])
 all_goals(refine eo ?_;simp[DT])
def jG:ae:=⟨0,⟨0,⟨0,0,0,[]⟩,[],[],[],0,0,0,0⟩,⟨0,0,0,0⟩,⟨0,⟨0,[]⟩,0,0,0⟩,⟨0,0,0,0,0,0⟩,⟨0,false⟩,false,false,false,false,false,false,0,false⟩
def lV(i:Int)(o p:bW):Bool:=bN i&&eV o&&eV p
def eX(v:Bool)(i:Int)(o p:bW):ae:=
 if lV i o p then⟨i,jF o.ring,jW p.bX,oI,mM o.bX o.iK,n8,eU v i,fC v i,false,false,false,false,0,false⟩else jG
theorem Vj(i:Int)(o p:bW):(bif bif !bN i then true else !eV o then true else !eV p)=!lV i o p:=by
 unfold lV
 cases bN i<;>cases eV o<;>cases eV p<;>rfl
theorem GS(v:Bool)(i m9 m_ m' n9 n_ n' oa ob oc na od oe og oh oi oj:Int):aJ 98 [.one (.bool v),.one (.int .i64 i),.agg [.int .i64 m9,.int .i64 m_,.int .i64 m',.int .i64 n9,.int .i64 n_,.int .i64 n',.int .i64 oa,.int .i64 ob],.agg [.int .i64 oc,.int .i64 na,.int .i64 od,.int .i64 oe,.int .i64 og,.int .i64 oh,.int .i64 oi,.int .i64 oj]] [.agg (ae.enc (eX v i (⟨m9,m_,m',n9,n_,n',oa,ob⟩:bW) (⟨oc,na,od,oe,og,oh,oi,oj⟩:bW))),.one (.bool (lV i (⟨m9,m_,m',n9,n_,n',oa,ob⟩:bW) (⟨oc,na,od,oe,og,oh,oi,oj⟩:bW)))]:=by
 refine aN 68 Tryz.func98 Tryz.call98 [.cell 8 63,.tmp 9] ?_;intro _;have ag:=Vj i (⟨m9,m_,m',n9,n_,n',oa,ob⟩:bW) (⟨oc,na,od,oe,og,oh,oi,oj⟩:bW);have aT:eX v i (⟨m9,m_,m',n9,n_,n',oa,ob⟩:bW) (⟨oc,na,od,oe,og,oh,oi,oj⟩:bW)=if lV i (⟨m9,m_,m',n9,n_,n',oa,ob⟩:bW) (⟨oc,na,od,oe,og,oh,oi,oj⟩:bW)then⟨i,jF m9,jW na,oI,mM m_ m',n8,eU v i,fC v i,false,false,false,false,0,false⟩else jG:=rfl
 try simp only[go_sem]
 repeat'((first|refine ab.intro (by apply h9) ?_|refine au.intro (by apply DX) ?_|refine a7 ?_)<;>simp only[go_sem])
 rw[ag]
 cases bT:lV i (⟨m9,m_,m',n9,n_,n',oa,ob⟩:bW) (⟨oc,na,od,oe,og,oh,oi,oj⟩:bW)with
 |false=>
  rw[bT]at aT;simp only[go_sem,cc];rw[aT];simp[jG]
 |true=>
  rw[bT]at aT;simp only[go_sem,bS]
  try simp only[go_sem]
  repeat'(first|(refine ab.intro (by first|apply Vh|apply agk|apply Nd|apply II|apply ag4|apply Vd|apply Ve) ?_<;>simp only[go_sem])|(with_reducible refine aw ?_)|fail)
  all_goals(rw[aT];simp[gx])
theorem As{α:Type}(p:α→Bool)(xs:List α)(i:Nat)(h:i<xs.length)(h1:(xs.take i).any p=false)(h2:p xs[i]=false):(xs.take (i+1)).any p=false:=by
 rw[hj,b8 h,List.any_append,h1];simp[h2]
def fIx{α:Type}(p:α→Bool)(xs:List α):Int:=match xs.findIdx? p with|some i=>(i:Int)|none=>-1
theorem Z2{α:Type}(xs:List α)(i:Nat)(h:i<xs.length):xs=xs.take i++xs[i]::xs.drop (i+1):=by rw[List.getElem_cons_drop,List.take_append_drop]
theorem GA{α:Type}(p:α→Bool)(xs:List α)(i:Nat)(h:i<xs.length)(h1:(xs.take i).any p=false)(h2:p xs[i]=true):xs.find? p=some xs[i]:=by
 conv=>lhs;rw[Z2 xs i h]
 have:(xs.take i).find? p=none:=by rw[List.find?_eq_none];intro x hx;have:=List.any_eq_false.1 h1 x hx;simpa using this
 rw[List.find?_append,this,List.find?_cons_of_pos h2];rfl
theorem JV{α:Type}(p:α→Bool)(xs:List α)(h:xs.any p=false):xs.find? p=none:=by
 rw[List.find?_eq_none];intro x hx;have:=List.any_eq_false.1 h x hx;simpa using this
theorem RG{α:Type}(p:α→Bool)(xs:List α)(i:Nat)(h:i<xs.length)(h1:(xs.take i).any p=false)(h2:p xs[i]=true):fIx p xs=(i:Int):=by
 have:xs.findIdx? p=some i:=by
  rw[List.findIdx?_eq_some_iff_getElem];refine⟨h,h2,fun j al kr=>?_⟩;have:=List.any_eq_false.1 h1 xs[j] (List.mem_take_iff_getElem.2 ⟨j,by omega,rfl⟩);exact this kr
 rw[fIx,this]
theorem RH{α:Type}(p:α→Bool)(xs:List α)(h:xs.any p=false):fIx p xs=-1:=by
 have:xs.findIdx? p=none:=by rw[List.findIdx?_eq_none_iff];intro x hx;have:=List.any_eq_false.1 h x hx;simpa using this
 rw[fIx,this]
theorem uk{α:Type}(p:α→Bool)(xs:List α):(fIx p xs=-1∧xs.find? p=none)∨∃(i:Nat) (h:i<xs.length),fIx p xs=(i:Int)∧xs.find? p=some xs[i]∧p xs[i]=true:=by
 unfold fIx
 cases hf:xs.findIdx? p with
 |none=>left;refine⟨rfl,?_⟩;rw[List.findIdx?_eq_none_iff]at hf;rw[List.find?_eq_none];simpa using hf
 |some i=>
  right;rw[List.findIdx?_eq_some_iff_getElem]at hf;obtain⟨h,h1,h2⟩:=hf;refine⟨i,h,rfl,GA p xs i h ?_ h1,h1⟩;rw[List.any_eq_false];intro x hx;obtain⟨j,al,rfl⟩:=List.mem_take_iff_getElem.1 hx;exact h2 j (by omega)
def kd(p:Nat→Bool)(n:Nat):Bool:=(List.range n).all p
theorem DH(p:Nat→Bool)(n:Nat):kd p (n+1)=(kd p n&&p n):=by simp[kd,List.range_succ]
theorem GG(p:Nat→Bool){i n:Nat}(h:i<n)(hb:p i=false):kd p n=false:=by
 simp only[kd,List.all_eq_false,List.mem_range];exact⟨i,h,by simp[hb]⟩
theorem Z3{p q:Nat→Bool}{n:Nat}(h:∀i,i<n→p i=q i):kd p n=kd q n:=by
 rw[Bool.eq_iff_iff];simp only[kd,List.all_eq_true,List.mem_range];exact⟨fun g i hi=>(h i hi)▸g i hi,fun g i hi=>(h i hi).symm▸g i hi⟩
def ze{α:Type}(key:α→Int)(ok:α→Bool)(l:List α)(i:Nat):Bool:=
 match l[i]? with
 |none=>false
 |some c=>ok c&&(match i with|0=>true|j+1=>(match l[j]? with|none=>false|some d=>decide (key d<key c)))
def x6{α:Type}(key:α→Int)(ok:α→Bool)(l:List α):Bool:=kd (ze key ok l) l.length
theorem y2{α:Type}(key:α→Int)(ok:α→Bool)(l:List α)(h:0<l.length):ze key ok l 0=ok l[0]:=by
 simp[ze,b8 h]
theorem xB{α:Type}(key:α→Int)(ok:α→Bool)(l:List α)(j:Nat)(h:j+1<l.length):ze key ok l (j+1)=(ok l[j+1]&&decide (key l[j]<key l[j+1])):=by
 simp[ze,b8 h,b8 (show j<l.length by omega)]
theorem X5{α:Type}{key:α→Int}{ok vi:α→Bool}{l:List α}(h:∀c∈l,ok c=vi c):x6 key ok l=x6 key vi l:=by
 refine Z3 fun i hi=>?_
 cases i with
 |zero=>rw[y2 _ _ _ hi,y2 _ _ _ hi,h _ (eR hi)]
 |succ j=>rw[xB _ _ _ _ hi,xB _ _ _ _ hi,h _ (eR hi)]
set_option maxRecDepth 100000
def wG(k:Int):List UInt8:=
 if k=4 then [114,101,115,101,116]
 else if k=5 then [115,116,111,112]
 else if k=8 then [115,116,114,101,97,109]
 else if k=16 then [109,97,120,100,97,116,97]
 else if k=17 then [109,97,120,115,116,114,101,97,109,100,97,116,97]
 else if k=18 then [109,97,120,115,116,114,101,97,109,115]
 else if k=20 then [100,97,116,97,98,108,111,99,107,101,100]
 else if k=21 then [115,116,114,101,97,109,100,97,116,97,98,108,111,99,107,101,100]
 else if k=22 then [115,116,114,101,97,109,115,98,108,111,99,107,101,100]
 else []
def kindOk(k:Int):Bool:=decide (k=4)||decide (k=5)||decide (k=8)||decide (k=16)||decide (k=17)||decide (k=18)||decide (k=20)||decide (k=21)||decide (k=22)
theorem RI(k:Int):(wG k == [])=!kindOk k:=by
 unfold wG kindOk
 repeat' split
 all_goals simp_all
theorem Z4(k:Int):aJ 148 [.one (.int .i64 k)] [.one (.str (wG k))]:=by
 refine aN 22 Tryz.func148 Tryz.call148 [.tmp 2] ?_;intro _
 try simp only[go_sem]
 repeat'(refine bt (fun h=>?_) (fun h=>?_)<;>simp only[go_sem])
 all_goals(simp only[b2,dN]at *;first|(exfalso;omega)|simp[wG, *])
theorem Z5(k:Int):aJ 143 [.one (.int .i64 k)] [.one (.str (wG k))]:=by
 refine aN 22 Tryz.func143 Tryz.call143 [.tmp 2] ?_;intro _
 try simp only[go_sem]
 repeat'(refine bt (fun h=>?_) (fun h=>?_)<;>simp only[go_sem])
 all_goals(simp only[b2,dN]at *;first|(exfalso;omega)|simp[wG, *])
def lK(k:Int):Bool:=decide (k=4)||decide (k=5)||decide (k=8)||decide (k=17)||decide (k=21)
theorem Ev(eu eH fh:Int)(eI:List UInt8)(fH:Bool)(fI fx fQ:Int)(fV:Bool):aJ 207 [.agg [.int .i64 eu,.int .i64 eH,.int .i64 fh,.str eI,.bool fH,.int .i64 fI,.int .i64 fx,.int .i64 fQ,.bool fV]] [.one (.bool (lK eu))]:=by
 refine aN 11 Tryz.func207 Tryz.call207 [.tmp 2] ?_;intro _
 try simp only[go_sem]
 repeat'(refine bt (fun h=>?_) (fun h=>?_)<;>simp only[go_sem])
 all_goals(simp only[b2,dN]at *;first|(exfalso;omega)|simp[lK, *])
theorem RJ(eu eH fh:Int)(eI:List UInt8)(fH:Bool)(fI fx fQ:Int)(fV:Bool):aJ 197 [.agg [.int .i64 eu,.int .i64 eH,.int .i64 fh,.str eI,.bool fH,.int .i64 fI,.int .i64 fx,.int .i64 fQ,.bool fV]] [.one (.bool (lK eu))]:=by
 refine aN 11 Tryz.func197 Tryz.call197 [.tmp 2] ?_;intro _
 try simp only[go_sem]
 repeat'(refine bt (fun h=>?_) (fun h=>?_)<;>simp only[go_sem])
 all_goals(simp only[b2,dN]at *;first|(exfalso;omega)|simp[lK, *])
def hD(f:ao):ao:=
 ⟨f.kind,if lK f.kind then f.stream else 0,if f.kind=8 then f.offset else 0,if f.kind=8 then f.data else [],if f.kind=8 then f.a2 else false,if f.kind=4∨f.kind=5 then f.code else 0,
  if f.kind=4∨f.kind=5∨f.kind=8 then 0 else f.aR,if f.kind=4 then f.bn else 0,if f.kind=18∨f.kind=22 then f.ey else false⟩
theorem QI(eu eH fh:Int)(eI:List UInt8)(fH:Bool)(fI fx fQ:Int)(fV:Bool):aJ 149 [.agg [.int .i64 eu,.int .i64 eH,.int .i64 fh,.str eI,.bool fH,.int .i64 fI,.int .i64 fx,.int .i64 fQ,.bool fV]] [.agg (ao.enc (hD (⟨eu,eH,fh,eI,fH,fI,fx,fQ,fV⟩:ao)))]:=by
 refine aN 51 Tryz.func149 Tryz.call149 [.cell 2 125] ?_;intro _
 try simp only[go_sem]
 repeat'((first|refine ab.intro (by apply Ev) ?_|refine bt (fun h=>?_) (fun h=>?_))<;>simp only[go_sem])
 all_goals(simp only[b2,dN]at *;first|(exfalso;omega)|(exfalso;simp_all [lK];done)|(simp[hD, *];done)|(simp[hD,lK]at *;simp[ *];done)|(simp_all [hD,lK];done))
def A2(f:ao):Bool:=kindOk f.kind&&decide (hD f=f)&&bN f.stream&&bN f.offset&&bN f.code&&bN f.aR&&bN f.bn&&!decide (400<(f.data.length:Int))
def fM(f:ao):Bool:=A2 f&&(if f.kind=8 then decide (f.offset≤IntKind.i64.wrap (4611686018427387903-(f.data.length:Int)))else if f.kind=18∨f.kind=22 then decide (f.aR≤1152921504606846976)else true)
set_option maxRecDepth 100000
def RK:List (List bH):=cP 46 [8862938119652501095928,8862938119652501095926,8862938119652501095920,8862938119652501095902,8862938119652501095848,8862938119652501093499,8862938119652501093013,8862938119652501094714,8862938119652501089368,8862938119652501076246,8862938119652501036880,8862938119652500918782,8862938119652500564488,8862938119652499501606,8862938119652496312960,8862938119652486747022,8862938119652458049208,8862938119652371955766,8862938119652113675440,8862938119651338834462,8862938119649014311528,8862938119642040742726,8862938119621120036320,8862938119558357917102,8862938119370071559448,8862938118805212486486,8862938117110635267600,8862938112026903610942,8862938096775708640968,8862938051022123731046,8862937913761369001280,8862937501979104811982,8862936266632312244088,8862932560591934540406,8862921442470801429360,8862888088107402096222,8862788025017204096808,8862487835746610098566,8861587267934828103840,8858885564499482119662,8850780454193444167128,8826465123275330309526,8753519130520988736720,8534681152257964018302,7878167217468889863048,5908625413101667397286]
attribute [go_sem] RK
theorem RL(a b:ao):(decide (a.kind=b.kind)&&(decide (a.stream=b.stream)&&(decide (a.offset=b.offset)&&(decide (a.data=b.data)&&(decide (a.a2=b.a2)&&(decide (a.code=b.code)&&(decide (a.aR=b.aR)&&(decide (a.bn=b.bn)&&decide (a.ey=b.ey)))))))))=decide (a=b):=by
 cases a;cases b
 rw[Bool.eq_iff_iff];simp only[bP,b2,ao.mk.injEq]
theorem Z6(f:ao):(bif bif bif bif bif bif bif !kindOk f.kind then true else !decide (hD f=f)then true else !bN f.stream then true else !bN f.offset then true else !bN f.code then true else !bN f.aR then true else !bN f.bn then true else decide (400<(f.data.length:Int)))=!A2 f:=by
 unfold A2
 cases kindOk f.kind<;>cases decide (hD f=f)<;>cases bN f.stream<;>cases bN f.offset<;>cases bN f.code<;>cases bN f.aR<;>cases bN f.bn<;>cases decide (400<(f.data.length:Int))<;>rfl
theorem AN(eu eH fh:Int)(eI:List UInt8)(fH:Bool)(fI fx fQ:Int)(fV:Bool):aJ 110 [.agg [.int .i64 eu,.int .i64 eH,.int .i64 fh,.str eI,.bool fH,.int .i64 fI,.int .i64 fx,.int .i64 fQ,.bool fV]] [.one (.bool (fM (⟨eu,eH,fh,eI,fH,fI,fx,fQ,fV⟩:ao)))]:=by
 refine aN 66 Tryz.func110 Tryz.call110 [.tmp 2] ?_;intro _;have hk:decide (wG eu=[])=!kindOk eu:=by have:=RI eu;rw[←this];cases wG eu<;>rfl
 have hf:=RL (hD (⟨eu,eH,fh,eI,fH,fI,fx,fQ,fV⟩:ao)) (⟨eu,eH,fh,eI,fH,fI,fx,fQ,fV⟩:ao);simp only at hf;have ag:=Z6 (⟨eu,eH,fh,eI,fH,fI,fx,fQ,fV⟩:ao)
 try simp only[go_sem]
 repeat'((first|refine au.intro (by first|apply Z4|apply QI|apply h9) ?_|refine e8 ?_|refine ba RK (by kernel_rfl) (by rfl) ?_)<;>simp only[go_sem,hk,hf])
 rw[ag]
 cases dF:A2 (⟨eu,eH,fh,eI,fH,fI,fx,fQ,fV⟩:ao)with
 |false=>
  simp only[go_sem,cc];simp[fM,dF]
 |true=>
  simp only[go_sem,bS]
  try simp only[go_sem]
  repeat'(refine bt (fun h=>?_) (fun h=>?_)<;>simp only[go_sem])
  all_goals(rw[show fM (⟨eu,eH,fh,eI,fH,fI,fx,fQ,fV⟩:ao)=(if eu=8 then decide (fh≤IntKind.i64.wrap (4611686018427387903-(eI.length:Int)))else if eu=18∨eu=22 then decide (fx≤1152921504606846976)else true)from by unfold fM;rw[dF];rfl];clear dF ag hf hk;simp only[b2,dN]at *;first|(exfalso;omega)|simp[*])
def eP(id:Int)(s:ae):Bool:=decide (s.id=id)
def strOf(l:List ae)(id:Int):ae×Bool:=match l.find? (eP id)with|some s=>(s,true)|none=>(jG,false)
def iq(s:ae)(q:List ae×Bool)(x:ae):List ae×Bool:=
 if !q.2&&decide (s.id<x.id)then(q.1++[s,x],true)else(q.1++[x],q.2)
def l4(s:ae)(l:List ae):List ae×Bool:=l.foldl (iq s) ([],false)
def putS(l:List ae)(s:ae):List ae:=
 match l.findIdx? (eP s.id)with
 |some i=>l.set i s
 |none=>if(l4 s l).2 then(l4 s l).1 else(l4 s l).1++[s]
def ho(ok:ae→Bool)(l:List ae):Bool:=x6 (fun s=>s.id) ok l&&decide ((l.length:Int)≤24)
def ir(f:ae→Int)(n:Int)(s:ae):Int:=if 4611686018427387904<IntKind.i64.wrap (n+f s)then 4611686018427387904 else IntKind.i64.wrap (n+f s)
def jd(ok:ae→Bool)(f:ae→Int)(l:List ae):Int:=if ho ok l then l.foldl (ir f) 0 else 0
def je(s:ae):Int:=s.send.sent
def jH(s:ae):Int:=s.recv.fO
def wg(n:Int)(p:aD):Bool:=bK p.number 0 (IntKind.i64.wrap (n-1))&&p.frames.all fM
def xA(n:Int)(l:List aD):Bool:=x6 (fun p=>p.number) (wg n) l
def oJ(ok:ae→Bool)(c:J):Bool:=eV c.own&&eV c.peer&&ho ok c.streams&&jI c.cY&&kG c.dO&&jf c.e7&&jf c.e6&&g0 c.cu&&g0 c.ct
def x7(ok:ae→Bool)(c:J):Bool:=bK c.fq (-1) 4611686018427387903&&bK c.number 0 1000000&&bK c.h8 0 1000000&&bK c.closed 0 255&&decide (jd ok je c.streams≤c.cY.used)&&decide (jd ok jH c.streams≤c.dO.seen)
def pt(ok:ae→Bool)(c:J):Bool:=oJ ok c&&xA c.number c.packets&&x7 ok c
def en(c:J):Bool:=pt fv c
def AL(c:J):Bool:=pt hC c
theorem Qh{ok vi:ae→Bool}{l:List ae}(h:∀s∈l,ok s=vi s):ho ok l=ho vi l:=by unfold ho;rw[X5 h]
theorem Qi{ok vi:ae→Bool}{f:ae→Int}{l:List ae}(h:∀s∈l,ok s=vi s):jd ok f l=jd vi f l:=by unfold jd;rw[Qh h]
theorem X6{ok vi:ae→Bool}{c:J}(h:∀s∈c.streams,ok s=vi s):pt ok c=pt vi c:=by unfold pt oJ x7;rw[Qh h,Qi h,Qi h]
theorem G2{c:J}(h:∀s∈c.streams,AM s.send):en c=AL c:=X6 fun s hs=>X7 (h s hs)
theorem KJ(s:ae):∀(l:List ae) (q:List ae×Bool),(∀x∈(l.foldl (iq s) q).1,x∈q.1∨x∈l∨x=s)∧(l.foldl (iq s) q).1.length+q.2.toNat=q.1.length+l.length+(l.foldl (iq s) q).2.toNat
 |[],q=>⟨fun x hx=>Or.inl hx,by simp⟩
 |y::l,q=>by
  obtain⟨h1,h2⟩:=KJ s l (iq s q y);rw[List.foldl_cons];refine⟨fun x hx=>?_,?_⟩
  ·rcases h1 x hx with h|h|h
   ·unfold iq at h;split at h
    ·simp only[et,List.mem_cons,List.not_mem_nil,or_false]at h;rcases h with h|h|h
     ·exact Or.inl h
     ·exact Or.inr (Or.inr h)
     ·exact Or.inr (Or.inl (by simp[h]))
    ·simp only[et,List.mem_cons,List.not_mem_nil,or_false]at h;rcases h with h|h
     ·exact Or.inl h
     ·exact Or.inr (Or.inl (by simp[h]))
   ·exact Or.inr (Or.inl (List.mem_cons_of_mem _ h))
   ·exact Or.inr (Or.inr h)
  ·have e:(iq s q y).1.length+q.2.toNat=q.1.length+1+(iq s q y).2.toNat:=by
    unfold iq
    cases hq:q.2<;>by_cases hlt:s.id<y.id<;>simp[hlt]
   rw[eW];omega
theorem Qj(s:ae)(l:List ae):(l4 s l).1.length=l.length+(l4 s l).2.toNat:=by
 have:=(KJ s l ([],false)).2;simpa [l4]using this
theorem G0{l:List ae}{s x:ae}(h:x∈putS l s):x∈l∨x=s:=by
 unfold putS at h;split at h
 ·rcases List.mem_or_eq_of_mem_set h with h|h
  ·exact Or.inl h
  ·exact Or.inr h
 ·have:=(KJ s l ([],false)).1 x;simp only[List.not_mem_nil,false_or]at this;split at h
  ·exact this h
  ·rcases et.1 h with h|h
   ·exact this h
   ·exact Or.inr (by simpa using h)
theorem AI(l:List ae)(s:ae):(putS l s).length≤l.length+1:=by
 unfold putS;split
 ·rw[List.length_set];omega
 ·have:=Qj s l;split
  ·rename_i h;rw[this,h];simp
  ·rename_i h;rw[eG,this];simp only[Bool.not_eq_true]at h;rw[h];simp
set_option maxRecDepth 100000
def Pu:List (List bH):=cP 24 [282429536477,282429536479,282429536472,282429536454,282429536400,282429536238,282429535752,282429534294,282429529920,282429516798,277206298137,277206416235,277206002892,277204940010,277201751364,282250145619,282407983596,282321890154,282049260921,281274419943,278949897009,271969183278,251048476872,188286357654]
def JP:List (List bH):=cP 22 [31381059608,31381059606,31381059600,31381059582,31381059528,31381059366,31381058880,31381057422,31381053048,31381039926,31381000560,30862196046,30864144663,30863081781,30859715988,30850150050,30821452236,31316400954,31058120628,30218798142,27894275208,20920706406]
attribute [go_sem] Pu JP
def eO(s:ae):Prop:=s.send.pending.length+s.send.flight.length+s.send.cG.length≤1000∧s.send.ring.cells.length≤100∧(∀c∈s.recv.buffer.bO,c.data.length≤1000)∧s.recv.buffer.bO.length≤100
theorem KI(l:List ae)(id:Int):aJ 36 [.one (.sl 39 (l.map ae.enc)),.one (.int .i64 id)] [.one (.int .i64 (fIx (eP id) l))]:=by
 refine aN 20 Tryz.func36 Tryz.call36 [.tmp 4] ?_;intro ok;have hm:=fr ok;clear ok;simp only[go_sem];refine b7.intro (fun i:Nat=>⟨(.d (.sl 39 (l.map ae.enc))::.i id::jn 3 (.i i::jn 14 [])),[]⟩)
  (fun i=>l.length-i) (fun i=>i≤l.length∧(l.take i).any (eP id)=false) 0 [] ⟨by omega,by simp⟩ ?_ ?_
 ·simp only[go_sem];simp
 ·rintro i ⟨hi,he⟩;by_cases h1:i<l.length
  ·have ax:decide ((i:Int)<(l.length:Int))=true:=bp (by omega);have aq:=b5 ae.enc l i h1;have hw:=dK h1 hm
   try simp only[go_sem,I,aC,aq,ae.enc,ax]
   repeat'(first|(refine bt (fun h=>?_) (fun h=>?_)<;>simp only[go_sem])|(with_reducible refine aw ?_)|fail)
   ·have:=RG (eP id) l i h1 he h;simp[this]
   ·refine bA.intro (i+1) [] ⟨by omega,As _ l i h1 he h⟩ (by omega) ?_;simp only[go_sem,hw];try simp
  ·have ax:decide ((i:Int)<(l.length:Int))=false:=bo (by omega);obtain rfl:i=l.length:=by omega
   rw[d_]at he;simp only[go_sem,I,ax];simp[RH _ _ he]
def nd(ok:ae→Bool)(l:List ae)(i:Nat):Bool:=ze (fun s=>s.id) ok l i
theorem W_(ok:ae→Bool)(l:List ae)(h:0<l.length):nd ok l 0=ok l[0]:=y2 _ _ _ h
theorem Xa(ok:ae→Bool)(l:List ae)(j:Nat)(h:j+1<l.length):nd ok l (j+1)=(ok l[j+1]&&decide (l[j].id<l[j+1].id)):=xB _ _ _ _ h
theorem Xb{ok:ae→Bool}{l:List ae}(h:kd (nd ok l) l.length=true):ho ok l=decide ((l.length:Int)≤24):=by
 have:x6 (fun s:ae=>s.id) ok l=true:=h;unfold ho;rw[this];rfl
theorem Xc{ok:ae→Bool}{l:List ae}{i:Nat}(hi:i<l.length)(h:nd ok l i=false):ho ok l=false:=by
 have:x6 (fun s:ae=>s.id) ok l=false:=GG (nd ok l) hi h;unfold ho;rw[this];rfl
theorem DY(l:List ae)(hz:∀s∈l,eO s):aJ 54 [.one (.sl 39 (l.map ae.enc))] [.one (.bool (ho fv l))]:=by
 refine aN 37 Tryz.func54 Tryz.call54 [.tmp 2] ?_;intro ok;have hm:=fr ok;clear ok;simp only[go_sem];refine b7.intro (fun i:Nat=>⟨(.d (.sl 39 (l.map ae.enc))::.ak::.ak::.i i::jn 33 []),[]⟩)
  (fun i=>l.length-i) (fun i=>i≤l.length∧kd (nd fv l) i=true) 0 [] ⟨by omega,by simp[kd]⟩ ?_ ?_
 ·simp only[go_sem];simp
 ·rintro i ⟨hi,he⟩;by_cases h1:i<l.length
  ·have ax:decide ((i:Int)<(l.length:Int))=true:=bp (by omega);have aq:=b5 ae.enc l i h1;have hw:=dK h1 hm;have hs:=DH (nd fv l) i;have hf:=fun h=>Xc (ok:=fv) (l:=l) h1 h;obtain⟨hc,_,hb,hx⟩:=hz _ (eR h1)
   replace hb:∀c∈l[i].recv.buffer.bO,c.data.length≤1048576:=fun c h=>by have:=hb c h;omega
   have cd:=W4 l[i].id l[i].send.state l[i].send.ring.size l[i].send.ring.base l[i].send.ring.cv l[i].send.ring.cells l[i].send.pending l[i].send.flight l[i].send.cG l[i].send.bn l[i].send.a2 l[i].send.sent l[i].send.code l[i].dL.aR l[i].dL.used l[i].dL.blocked l[i].dL.told l[i].recv.state l[i].recv.buffer.next l[i].recv.buffer.bO l[i].recv.bn l[i].recv.fO l[i].recv.code l[i].bX.size l[i].bX.most l[i].bX.aR l[i].bX.seen l[i].bX.read l[i].bX.jP l[i].priority.iw l[i].priority.hR l[i].eU l[i].fC l[i].iJ l[i].iM l[i].mx l[i].lG l[i].nr l[i].counted (by omega) hb (by omega);change PureCall _ _ _ [.one (.bool (fv l[i]))]at cd
   cases i with
   |zero=>
    have hb:=W_ fv l h1;have h2:decide ((0:Int)<((0:Nat):Int))=false:=by decide
    try simp only[go_sem,I,ax]
    repeat'(first|((first|refine ab.intro (by assumption) ?_|refine au.intro (by assumption) ?_|with_reducible refine j1 ?_|refine e8 ?_|refine ba Pu (by kernel_rfl) (by rfl) ?_|refine bt (fun h=>?_) (fun h=>?_))<;>simp only[go_sem,I,aC,aq,ae.enc,h2])|(with_reducible refine aw ?_)|fail)
    ·have e:nd fv l 0=false:=by rw[hb];revert h;cases fv l[0]<;>simp
     simp[hf e]
    ·have e:nd fv l 0=true:=by rw[hb];revert h;cases fv l[0]<;>simp
     refine bA.intro 1 [] ⟨by omega,by rw[hs,he,e];rfl⟩ (by omega) ?_;simp only[go_sem,hw];try simp
   |succ j=>
    have hb:=Xa fv l j h1;have gT:=b5 ae.enc l j (by omega);have h2:decide ((0:Int)<((j+1:Nat):Int))=true:=bp (by omega);have hp:IntKind.i64.wrap (((j+1:Nat):Int)-1)=(j:Int):=by simp only[maxLen]at hm;rw[bz]<;>omega
    try simp only[go_sem,I,ax]
    repeat'(first|((first|refine ab.intro (by assumption) ?_|refine au.intro (by assumption) ?_|refine e8 ?_|refine ba Pu (by kernel_rfl) (by rfl) ?_|refine bt (fun h=>?_) (fun h=>?_))<;>simp only[go_sem,I,aC,aq,gT,ae.enc,h2,hp])|(with_reducible refine aw ?_)|fail)
    ·have e:nd fv l (j+1)=false:=by rw[hb];revert h;cases fv l[j+1]<;>simp
     simp[hf e]
    ·have e:nd fv l (j+1)=true:=by rw[hb];revert h;cases fv l[j+1]<;>simp
     refine bA.intro (j+1+1) [] ⟨by omega,by rw[hs,he,e];rfl⟩ (by omega) ?_;simp only[go_sem,hw];try simp
  ·have ax:decide ((i:Int)<(l.length:Int))=false:=bo (by omega);obtain rfl:i=l.length:=by omega
   simp only[go_sem,I,ax];simp[Xb he]
theorem FR(l:List ae)(hz:∀s∈l,eO s):aJ 44 [.one (.sl 39 (l.map ae.enc))] [.one (.bool (ho hC l))]:=by
 refine aN 35 Tryz.func44 Tryz.call44 [.tmp 2] ?_;intro ok;have hm:=fr ok;clear ok;simp only[go_sem,I];refine b7.intro (fun i:Nat=>⟨(.d (.sl 39 (l.map ae.enc))::jn 4 (.d (.sl 39 (l.map ae.enc))::.i l.length::.i i::jn 27 [])),[]⟩)
  (fun i=>l.length-i) (fun i=>i≤l.length∧i≤24∧kd (nd hC l) i=true) 0 [] ⟨by omega,by omega,by simp[kd]⟩ ?_ ?_
 ·simp only[go_sem];simp
 ·rintro i ⟨hi,aph,he⟩;by_cases h1:i<l.length
  ·have ax:decide ((i:Int)<(l.length:Int))=true:=bp (by omega);have aq:=b5 ae.enc l i h1;have hw:=dK h1 hm;by_cases api:i=24
   ·have aj:decide ((24:Int)≤(i:Int))=true:=bp (by omega);have hr:ho hC l=false:=by unfold ho;rw[show decide ((l.length:Int)≤24)=false from bo (by omega)];simp
    cases i with
    |zero=>omega
    |succ j=>
     have h2:decide ((0:Int)<((j+1:Nat):Int))=true:=bp (by omega)
     try simp only[go_sem,I,aC,aq,ae.enc,ax]
     repeat'(first|((first|with_reducible refine j1 ?_|refine ba JP (by kernel_rfl) (by rfl) ?_)<;>simp only[go_sem,aj])|(with_reducible refine aw ?_)|fail)
     all_goals simp[hr]
   ·have aj:decide ((24:Int)≤(i:Int))=false:=bo (by omega);have hs:=DH (nd hC l) i;have hf:=fun h=>Xc (ok:=hC) (l:=l) h1 h;obtain⟨hc,_,hb,hx⟩:=hz _ (eR h1)
    replace hb:∀c∈l[i].recv.buffer.bO,c.data.length≤1048576:=fun c h=>by have:=hb c h;omega
    have cd:=ahd l[i].id l[i].send.state l[i].send.ring.size l[i].send.ring.base l[i].send.ring.cv l[i].send.ring.cells l[i].send.pending l[i].send.flight l[i].send.cG l[i].send.bn l[i].send.a2 l[i].send.sent l[i].send.code l[i].dL.aR l[i].dL.used l[i].dL.blocked l[i].dL.told l[i].recv.state l[i].recv.buffer.next l[i].recv.buffer.bO l[i].recv.bn l[i].recv.fO l[i].recv.code l[i].bX.size l[i].bX.most l[i].bX.aR l[i].bX.seen l[i].bX.read l[i].bX.jP l[i].priority.iw l[i].priority.hR l[i].eU l[i].fC l[i].iJ l[i].iM l[i].mx l[i].lG l[i].nr l[i].counted (by omega) hb (by omega);change PureCall _ _ _ [.one (.bool (hC l[i]))]at cd
    cases i with
    |zero=>
     have hb:=W_ hC l h1;have h2:decide ((0:Int)<((0:Nat):Int))=false:=by decide
     try simp only[go_sem,I,aC,aq,ae.enc,ax]
     repeat'(first|((first|refine ab.intro (by assumption) ?_|refine au.intro (by assumption) ?_|with_reducible refine kf ?_|with_reducible refine j1 ?_|refine e8 ?_|refine ba JP (by kernel_rfl) (by rfl) ?_|refine bt (fun h=>?_) (fun h=>?_))<;>simp only[go_sem,h2,aj])|(with_reducible refine aw ?_)|fail)
     ·have e:nd hC l 0=false:=by rw[hb];revert h;cases hC l[0]<;>simp
      simp[hf e]
     ·have e:nd hC l 0=true:=by rw[hb];revert h;cases hC l[0]<;>simp
      refine bA.intro 1 [] ⟨by omega,by omega,by rw[hs,he,e];rfl⟩ (by omega) ?_;simp only[go_sem,hw];try simp
    |succ j=>
     have hb:=Xa hC l j h1;have gT:=b5 ae.enc l j (by omega);have h2:decide ((0:Int)<((j+1:Nat):Int))=true:=bp (by omega);have hp:IntKind.i64.wrap (((j+1:Nat):Int)-1)=(j:Int):=by simp only[maxLen]at hm;rw[bz]<;>omega
     try simp only[go_sem,I,aC,aq,ae.enc,ax]
     repeat'(first|((first|refine ab.intro (by assumption) ?_|refine au.intro (by assumption) ?_|with_reducible refine kf ?_|refine e8 ?_|refine ba JP (by kernel_rfl) (by rfl) ?_|refine bt (fun h=>?_) (fun h=>?_))<;>simp only[go_sem,I,aC,gT,ae.enc,h2,hp,aj])|(with_reducible refine aw ?_)|fail)
     ·have e:nd hC l (j+1)=false:=by rw[hb];revert h;cases hC l[j+1]<;>simp
      simp[hf e]
     ·have e:nd hC l (j+1)=true:=by rw[hb];revert h;cases hC l[j+1]<;>simp
      refine bA.intro (j+1+1) [] ⟨by omega,by omega,by rw[hs,he,e];rfl⟩ (by omega) ?_;simp only[go_sem,hw];try simp
  ·have ax:decide ((i:Int)<(l.length:Int))=false:=bo (by omega);obtain rfl:i=l.length:=by omega
   have hr:ho hC l=true:=by rw[Xb he];exact bp (by omega)
   simp only[go_sem,ax];simp[hr]
set_option maxRecDepth 100000
def Gy:List (List bH):=cP 12 [531440,531438,531432,505089,505143,504954,504468,503010,528147,515025,472392,354294]
attribute [go_sem] Gy
theorem JQ{p:Prop}{eT fW:Decidable p}{α:Type}(a b:α):@ite α p eT a b=@ite α p fW a b:=by rw[Subsingleton.elim eT fW]
theorem Ol{l:List ae}{s:ae}{i:Nat}(h:fIx (eP s.id) l=(i:Int)):putS l s=l.set i s:=by
 unfold putS;unfold fIx at h;split at h
 ·rename_i j al;first|(rw[al];simp only;congr 1;omega)|(congr 1;omega)
 ·omega
theorem VE{l:List ae}{s:ae}(h:fIx (eP s.id) l=-1):putS l s=if(l4 s l).2 then(l4 s l).1 else(l4 s l).1++[s]:=by
 unfold putS;unfold fIx at h;split at h
 ·omega
 ·rename_i al;first|rw[al]|rfl
theorem ahj(s:ae)(l:List ae)(i:Nat)(h:i<l.length):l4 s (l.take (i+1))=iq s (l4 s (l.take i)) l[i]:=by
 unfold l4;rw[hj,b8 h,List.foldl_append];rfl
theorem l3(l:List ae)(s:ae)(hl:l.length≤1000)(hz:∀x∈l,eO x)(hs:eO s):aJ 99 [.one (.sl 39 (l.map ae.enc)),.agg (ae.enc s)] [.one (.sl 39 (((putS l s)).map ae.enc))]:=by
 refine aN 66 Tryz.func99 Tryz.call99 [.tmp 4] ?_;intro ok;have hm:=fr ok;clear ok;obtain⟨dy,dT,c2,d'⟩:=hs;simp only[go_sem];refine ab.intro (KI l s.id) ?_;simp only[go_sem];rcases uk (eP s.id) l with ⟨h1,h2⟩|⟨j,al,h1,h2,aj⟩
 ·have ag:=VE h1;rw[h1];refine b7.intro (fun i:Nat=>⟨(.d (.sl 39 (l.map ae.enc))::.ak::.ak::.ptr 0 0 0::.ak::.sl 1 0 (l4 s (l.take i)).1.length::.i (-1)::.d (.bool (l4 s (l.take i)).2)::.i i::jn 57 []),[.box (ae.bE s),.ar 39 ((l4 s (l.take i)).1.map ae.enc) true]⟩)
   (fun i=>l.length-i) (fun i=>i≤l.length) 0 [0,1] (by omega) ?_ ?_
  ·simp only[go_sem];simp[l4]
  ·intro i hi;have mi:=Qj s (l.take i);have cR:(l.take i).length=i:=by simp;omega
   rw[cR]at mi;have hb:(l4 s (l.take i)).2.toNat≤1:=Bool.toNat_le _;by_cases aE:i<l.length
   ·have ju:decide ((i:Int)<(l.length:Int))=true:=bp (by omega);have aq:=b5 ae.enc l i aE;have hw:=dK aE hm;obtain⟨nk,jc,pq,zc⟩:=hz _ (eR aE);have cW:=ahj s l i aE;have b3:decide ((i:Int)=-1)=false:=bo (by omega);generalize l4 s (l.take i)=q at *;obtain⟨out,Pv⟩:=q;simp only at mi hb;simp only[ae.enc]at aq
    cases Pv with
    |true=>
     have Gz:iq s (out,true) l[i]=(out++[l[i]],true):=rfl
     try simp only[go_sem,I,aC,aq,ju]
     repeat'(first|((first|refine ab.intro (by(apply y9<;>exact aP)) ?_|with_reducible refine j1 ?_|refine ba Gy (by kernel_rfl) (by rfl) ?_)<;>simp only[go_sem,I,Bool.cond_self])|(with_reducible refine aw ?_)|fail)
     all_goals(refine bA.intro (i+1) [0,9] (by omega) (by omega) ?_;simp only[go_sem,hw,cW,Gz];simp[ae.enc])
    |false=>
     cases hd:decide (s.id<l[i].id)with
     |true=>
      have Gz:iq s (out,false) l[i]=(out++[s,l[i]],true):=by unfold iq;rw[hd];rfl
      try simp only[go_sem,I,aC,aq,ju]
      repeat'(first|((first|refine ab.intro (by(apply y9<;>exact aP)) ?_|with_reducible refine kf ?_|refine ba Gy (by kernel_rfl) (by rfl) ?_)<;>simp only[go_sem,I,aC,aq,hd])|(with_reducible refine aw ?_)|fail)
      all_goals(refine bA.intro (i+1) [0,17] (by omega) (by omega) ?_;simp only[go_sem,hw,cW,Gz];simp[ae.enc])
     |false=>
      have Gz:iq s (out,false) l[i]=(out++[l[i]],false):=by unfold iq;rw[hd];rfl
      try simp only[go_sem,I,aC,aq,ju]
      repeat'(first|((first|refine ab.intro (by(apply y9<;>exact aP)) ?_|with_reducible refine kf ?_|refine ba Gy (by kernel_rfl) (by rfl) ?_)<;>simp only[go_sem,I,aC,aq,hd])|(with_reducible refine aw ?_)|fail)
      all_goals(refine bA.intro (i+1) [0,9] (by omega) (by omega) ?_;simp only[go_sem,hw,cW,Gz];simp[ae.enc])
   ·have ju:decide ((i:Int)<(l.length:Int))=false:=bo (by omega);obtain rfl:i=l.length:=by omega
    rw[d_]at *;generalize l4 s l=q at *;obtain⟨out,Pv⟩:=q
    cases Pv with
    |true=>
     try simp only[go_sem,I,ju]
     repeat'(first|(with_reducible refine aw ?_)|fail)
     all_goals simp[ag]
    |false=>
     try simp only[go_sem,I,ju]
     repeat'(first|(refine ab.intro (by(apply y9<;>exact aP)) ?_<;>simp only[go_sem,I])|(with_reducible refine aw ?_)|fail)
     all_goals(simp only[Bool.toNat_false]at mi;refine⟨⟨by omega,rfl⟩,by simp,?_⟩;simp[ag,ae.enc,dH])
 ·have ag:=Ol h1;rw[h1];have e2:decide ((0:Int)≤(j:Int))=true:=bp (by omega);simp only[go_sem,e2];refine b7.intro (fun i:Nat=>⟨(.d (.sl 39 (l.map ae.enc))::.ak::.ak::.ptr 0 0 0::.ak::.sl 1 0 i::.i (j:Int)::.d (.bool true)::.i i::jn 57 []),[.box (ae.bE s),.ar 39 (((l.set j s).take i).map ae.enc) true]⟩)
   (fun i=>l.length-i) (fun i=>i≤l.length) 0 [0,1] (by omega) ?_ ?_
  ·simp only[go_sem];simp
  ·intro i hi;have cR:((l.set j s).take i).length=i:=by simp;omega
   by_cases aE:i<l.length
   ·have ju:decide ((i:Int)<(l.length:Int))=true:=bp (by omega);have aq:=b5 ae.enc l i aE;have hw:=dK aE hm;obtain⟨nk,jc,pq,zc⟩:=hz _ (eR aE);have cW:(l.set j s).take (i+1)=(l.set j s).take i++[(l.set j s)[i]'(by simpa using aE)]:=by
     rw[hj,b8 (by simpa using aE)];rfl
    simp only[ae.enc]at aq;by_cases mz:i=j
    ·subst mz;have hq:(l.set i s)[i]'(by simpa using aE)=s:=by simp
     rw[hq]at cW;have b3:decide ((i:Int)=(i:Int))=true:=by simp
     try simp only[go_sem,I,aC,aq,ju]
     repeat'(first|(refine ab.intro (by(apply y9<;>exact aP)) ?_<;>simp only[go_sem,I])|(with_reducible refine aw ?_)|fail)
     all_goals(refine bA.intro (i+1) [0,14] (by omega) (by omega) ?_;simp only[go_sem,hw,cW];simp[ae.enc];omega)
    ·have hq:(l.set j s)[i]'(by simpa using aE)=l[i]:=by rw[List.getElem_set_ne (by omega)]
     rw[hq]at cW;have b3:decide ((i:Int)=(j:Int))=false:=bo (by omega)
     try simp only[go_sem,I,aC,aq,ju]
     repeat'(first|((first|refine ab.intro (by(apply y9<;>exact aP)) ?_|with_reducible refine j1 ?_|refine ba Gy (by kernel_rfl) (by rfl) ?_)<;>simp only[go_sem,I,b3,Bool.cond_self])|(with_reducible refine aw ?_)|fail)
     all_goals(refine bA.intro (i+1) [0,9] (by omega) (by omega) ?_;simp only[go_sem,hw,cW];simp[ae.enc];omega)
   ·have ju:decide ((i:Int)<(l.length:Int))=false:=bo (by omega);obtain rfl:i=l.length:=by omega
    have Wv:(l.set j s).take l.length=l.set j s:=dH (by simp)
    try simp only[go_sem,I,ju,Wv]
    have Le:∀v,List.take l.length ((l.map ae.enc).set j v)=(l.map ae.enc).set j v:=fun v=>dH (by simp)
    all_goals simp[ag,outOA,Le]
theorem JR(f:ae→Int)(l:List ae)(i:Nat)(h:i<l.length):(l.take (i+1)).foldl (ir f) 0=ir f ((l.take i).foldl (ir f) 0) l[i]:=by
 rw[hj,b8 h,List.foldl_append];rfl
theorem JS{ok:ae→Bool}{f:ae→Int}{l:List ae}(h:ho ok l=true):jd ok f l=l.foldl (ir f) 0:=by unfold jd;rw[h];rfl
theorem JT{ok:ae→Bool}{f:ae→Int}{l:List ae}(h:ho ok l=false):jd ok f l=0:=by unfold jd;rw[h];rfl
theorem Yb(l:List ae)(hz:∀x∈l,eO x):aJ 61 [.one (.sl 39 (l.map ae.enc))] [.one (.int .i64 (jd fv je l))]:=by
 refine aN 25 Tryz.func61 Tryz.call61 [.tmp 2] ?_;intro ok;have hm:=fr ok;clear ok;simp only[go_sem]
 cases hA:ho fv l with
 |false=>
  have ag:=JT (f:=je) hA;refine b7.intro (fun i:Nat=>⟨(.d (.sl 39 (l.map ae.enc))::.ak::.ak::.i 0::.i i::jn 20 []),[]⟩)
   (fun i=>0) (fun i=>i=0) 0 [] rfl ?_ ?_
  ·simp only[go_sem];simp
  ·rintro i rfl
   try simp only[go_sem,I]
   repeat'((first|refine au.intro (by(apply DY<;>exact aP)) ?_|refine a7 ?_)<;>simp only[go_sem,hA,Bool.cond_self])
   all_goals simp[ag]
 |true=>
  have ag:=JS (f:=je) hA;refine b7.intro (fun i:Nat=>⟨(.d (.sl 39 (l.map ae.enc))::.ak::.ak::.i ((l.take i).foldl (ir je) 0)::.i i::jn 20 []),[]⟩)
   (fun i=>l.length-i) (fun i=>i≤l.length) 0 [] (by omega) ?_ ?_
  ·simp only[go_sem];simp
  ·intro i hi;by_cases h1:i<l.length
   ·have ax:decide ((i:Int)<(l.length:Int))=true:=bp (by omega);have aq:=b5 ae.enc l i h1;have hw:=dK h1 hm;have hs:=JR je l i h1
    try simp only[go_sem,I,ax]
    repeat'(first|((first|refine ab.intro (by(apply DY<;>exact aP)) ?_|with_reducible refine du ?_)<;>simp only[go_sem,I,aC,aq,ae.enc,hA])|(with_reducible refine aw ?_)|fail)
    all_goals(refine bA.intro (i+1) [] (by omega) (by omega) ?_;simp only[go_sem,hw,hs];simp[ir,je];try exact JQ _ _)
   ·have ax:decide ((i:Int)<(l.length:Int))=false:=bo (by omega);obtain rfl:i=l.length:=by omega
    try simp only[go_sem,I,ax,d_]
    repeat'(first|(with_reducible refine e5 ?_<;>simp only[go_sem,Bool.cond_self]))
    all_goals simp[ag]
theorem Yc(l:List ae)(hz:∀x∈l,eO x):aJ 62 [.one (.sl 39 (l.map ae.enc))] [.one (.int .i64 (jd fv jH l))]:=by
 refine aN 25 Tryz.func62 Tryz.call62 [.tmp 2] ?_;intro ok;have hm:=fr ok;clear ok;simp only[go_sem]
 cases hA:ho fv l with
 |false=>
  have ag:=JT (f:=jH) hA;refine b7.intro (fun i:Nat=>⟨(.d (.sl 39 (l.map ae.enc))::.ak::.ak::.i 0::.i i::jn 20 []),[]⟩)
   (fun i=>0) (fun i=>i=0) 0 [] rfl ?_ ?_
  ·simp only[go_sem];simp
  ·rintro i rfl
   try simp only[go_sem,I]
   repeat'((first|refine au.intro (by(apply DY<;>exact aP)) ?_|refine a7 ?_)<;>simp only[go_sem,hA,Bool.cond_self])
   all_goals simp[ag]
 |true=>
  have ag:=JS (f:=jH) hA;refine b7.intro (fun i:Nat=>⟨(.d (.sl 39 (l.map ae.enc))::.ak::.ak::.i ((l.take i).foldl (ir jH) 0)::.i i::jn 20 []),[]⟩)
   (fun i=>l.length-i) (fun i=>i≤l.length) 0 [] (by omega) ?_ ?_
  ·simp only[go_sem];simp
  ·intro i hi;by_cases h1:i<l.length
   ·have ax:decide ((i:Int)<(l.length:Int))=true:=bp (by omega);have aq:=b5 ae.enc l i h1;have hw:=dK h1 hm;have hs:=JR jH l i h1
    try simp only[go_sem,I,ax]
    repeat'(first|((first|refine ab.intro (by(apply DY<;>exact aP)) ?_|with_reducible refine du ?_)<;>simp only[go_sem,I,aC,aq,ae.enc,hA])|(with_reducible refine aw ?_)|fail)
    all_goals(refine bA.intro (i+1) [] (by omega) (by omega) ?_;simp only[go_sem,hw,hs];simp[ir,jH];try exact JQ _ _)
   ·have ax:decide ((i:Int)<(l.length:Int))=false:=bo (by omega);obtain rfl:i=l.length:=by omega
    try simp only[go_sem,I,ax,d_]
    repeat'(first|(with_reducible refine e5 ?_<;>simp only[go_sem,Bool.cond_self]))
    all_goals simp[ag]
set_option maxRecDepth 100000
def KK:List (List bH):=cP 41 [36472996377170776916,36472996377170776914,36472996377170776921,36472996377170776899,36472996377170776845,36472996377170776683,36472996377170786038,36472996377170784580,36472996377170780206,36472996377170766720,36472996377170727354,36472996377170609256,36472996377170254962,36472996377169192080,36472996377166003434,36472984943861246454,36472984943832548640,36472984943932990989,36472984943617315035,36472984942842474057,36472984940517951123,36472995995360720040,36472995974440013634,36472996330092022536,36472996141805664882,36472995535105179108,36472993840527960222,36472988756796303564,36472973500378331442,36472927746793421520,36472790486038691754,36472378703774502456,36454466175282267993,36450760134904564311,36463731276226527198,36422964832071786696,36322901741873787282,36022712471279789040,35122144659497794314,32420441224151810136,24315330918113857602]
def Qk:List (List bH):=cP 37 [450283905890997362,450283905890997360,450283905890997354,450283905890997336,450283905890997282,450283905890997120,450283905890996634,450283905890995176,450283905890990802,450283905890977680,450283905890938314,450283905890820216,450283905890465922,450283905889403040,450283905886214394,450283905876648456,450283905847950642,450283905761857200,450283905503576874,450283496774960979,450283494450438045,450283487476869243,450283889619336825,450283826857217607,450283638570859953,450283058602387920,450281364025169034,450276280293512376,442231274946851091,442185521361941169,442048260607211403,449963630796627909,448728284004060015,445022243626356333,433606724191330794,400252360791997656,300189270593998242]
attribute [go_sem] KK Qk
def GF(p:aD):Prop:=p.frames.length≤500∧∀f∈p.frames,f.data.length≤60
def gG(c:J):Prop:=c.streams.length≤30∧(∀s∈c.streams,eO s)∧c.packets.length≤30∧∀p∈c.packets,GF p
theorem B'{α:Type}(f:α→Nat)(m:Nat):∀(xs:List α),(∀x∈xs,f x≤m)→kZ f xs≤m * xs.length
 |[],_=>by simp[kZ]
 |x::xs,h=>by
  have h1:=B' f m xs (fun y hy=>h y (List.mem_cons_of_mem _ hy));have h2:=h x (by simp);have e:kZ f (x::xs)=f x+kZ f xs:=by simp[kZ]
  rw[e,eW,Nat.mul_add];omega
theorem Ql{s:ae}(h:eO s):ae.er s≤101300:=by
 obtain⟨h1,h2,aj,aE⟩:=h;have:=B' aA.er 1000 s.recv.buffer.bO aj;simp only[ae.er,aO.er,dm.er,bL.er,kC.er];omega
theorem X8{p:aD}(h:GF p):aD.er p≤30500:=by
 obtain⟨h1,h2⟩:=h;have:=B' ao.er 60 p.frames h2;simp only[aD.er];omega
theorem iE{c:J}(h:gG c):J.er c≤4194304:=by
 obtain⟨h1,h2,aj,aE⟩:=h;have a:=B' ae.er 101300 c.streams fun s hs=>Ql (h2 s hs);have b:=B' aD.er 30500 c.packets fun p hp=>X8 (aE p hp);simp only[J.er];omega
theorem PF{α:Type}(p:α→Bool)(xs:List α)(i:Nat)(h:i<xs.length):(xs.take (i+1)).all p=((xs.take i).all p&&p xs[i]):=by
 rw[hj,b8 h,List.all_append];simp
theorem PG{α:Type}(p:α→Bool)(xs:List α)(i:Nat)(h:i<xs.length)(h2:p xs[i]=false):xs.all p=false:=by
 rw[List.all_eq_false];exact⟨_,eR h,by simp[h2]⟩
theorem Qm(xs:List ao):aJ 60 [.one (.sl 9 (xs.map ao.enc))] [.one (.bool (xs.all fM))]:=by
 refine aN 16 Tryz.func60 Tryz.call60 [.tmp 2] ?_;intro ok;have hm:=fr ok;clear ok;simp only[go_sem];refine b7.intro (fun i:Nat=>⟨(.d (.sl 9 (xs.map ao.enc))::.ak::.ak::.i i::jn 12 []),[]⟩)
  (fun i=>xs.length-i) (fun i=>i≤xs.length∧(xs.take i).all fM=true) 0 [] ⟨by omega,by simp⟩ ?_ ?_
 ·simp only[go_sem];simp
 ·rintro i ⟨hi,he⟩;by_cases h1:i<xs.length
  ·have ax:decide ((i:Int)<(xs.length:Int))=true:=bp (by omega);have aq:=b5 ao.enc xs i h1;have hw:=dK h1 hm;have hs:=PF fM xs i h1;have cd:=AN xs[i].kind xs[i].stream xs[i].offset xs[i].data xs[i].a2 xs[i].code xs[i].aR xs[i].bn xs[i].ey;change PureCall _ _ _ [.one (.bool (fM xs[i]))]at cd
   try simp only[go_sem,I,aC,aq,ao.enc,ax]
   repeat'(first|((first|refine ab.intro (by assumption) ?_|refine au.intro (by assumption) ?_|refine bt (fun h=>?_) (fun h=>?_))<;>simp only[go_sem])|(with_reducible refine aw ?_)|fail)
   ·have:=PG fM xs i h1 (by simpa using h);simp[this]
   ·refine bA.intro (i+1) [] ⟨by omega,by rw[hs,he];simpa using h⟩ (by omega) ?_;simp only[go_sem,hw];try simp
  ·have ax:decide ((i:Int)<(xs.length:Int))=false:=bo (by omega);obtain rfl:i=xs.length:=by omega
   rw[d_]at he;simp only[go_sem,I,ax];simp[he]
def jX(n:Int)(l:List aD)(i:Nat):Bool:=ze (fun p=>p.number) (wg n) l i
theorem X9(n:Int)(l:List aD)(h:0<l.length):jX n l 0=(bK l[0].number 0 (IntKind.i64.wrap (n-1))&&l[0].frames.all fM):=y2 _ _ _ h
theorem X_(n:Int)(l:List aD)(j:Nat)(h:j+1<l.length):jX n l (j+1)=(bK l[j+1].number 0 (IntKind.i64.wrap (n-1))&&l[j+1].frames.all fM&&decide (l[j].number<l[j+1].number)):=xB _ _ _ _ h
theorem X'(ok:ae→Bool)(c:J):(bif bif bif bif bif bif bif bif !eV c.own then true else !eV c.peer then true else !ho ok c.streams then true else !jI c.cY then true else !kG c.dO then true else !jf c.e7 then true else !jf c.e6 then true else !g0 c.cu then true else !g0 c.ct)=!oJ ok c:=by
 unfold oJ
 cases eV c.own<;>cases eV c.peer<;>cases ho ok c.streams<;>cases jI c.cY<;>cases kG c.dO<;>cases jf c.e7<;>cases jf c.e6<;>cases g0 c.cu<;>cases g0 c.ct<;>rfl
theorem Ya(ok:ae→Bool)(c:J):(bif bif bif bif bif bK c.fq (-1) 4611686018427387903 then bK c.number 0 1000000 else false then bK c.h8 0 1000000 else false then bK c.closed 0 255 else false then decide (jd ok je c.streams≤c.cY.used)else false then decide (jd ok jH c.streams≤c.dO.seen)else false)=x7 ok c:=by
 unfold x7;simp only[cw]
theorem vg(c:J)(hz:gG c):aJ 10 [.agg (J.enc c)] [.one (.bool (en c))]:=by
 refine aN 140 Tryz.func10 Tryz.call10 [.tmp 2] ?_;intro ok;clear ok;obtain⟨nk,jc,pq,zc⟩:=hz;have ag:=X' fv c;have hB:=Ya fv c;have aU:en c=(oJ fv c&&xA c.number c.packets&&x7 fv c):=rfl
 try simp only[go_sem]
 repeat'((first|refine ab.intro (by apply DX) ?_|refine au.intro (by first|apply DX|(apply DY<;>exact aP)|apply zf|apply DZ|apply KL|apply G3) ?_|refine a7 ?_)<;>simp only[go_sem])
 rw[ag]
 cases hA:oJ fv c with
 |false=>
  simp only[go_sem,cc];simp[aU,hA]
 |true=>
  rw[hA]at aU;simp only[go_sem,bS];refine b7.intro (fun i:Nat=>⟨(.ak::.ptr 0 0 0::.ak::.i i::jn 136 []),[.box (J.bE c)]⟩)
   (fun i=>c.packets.length-i) (fun i=>i≤c.packets.length∧kd (jX c.number c.packets) i=true) 0 [0] ⟨by omega,by simp[kd]⟩ ?_ ?_
  ·simp only[go_sem];simp
  ·rintro i ⟨hi,he⟩;by_cases h1:i<c.packets.length
   ·have ax:decide ((i:Int)<(c.packets.length:Int))=true:=bp (by omega);have aq:=b5 aD.enc c.packets i h1;have hw:IntKind.i64.wrap ((i:Int)+1)=((i+1:Nat):Int):=by rw[bz]<;>omega
    have hs:=DH (jX c.number c.packets) i;have hf:jX c.number c.packets i=false→xA c.number c.packets=false:=fun h=>GG (jX c.number c.packets) h1 h
    cases i with
    |zero=>
     have hb:=X9 c.number c.packets h1;have h2:decide ((0:Int)<((0:Nat):Int))=false:=by decide
     try simp only[go_sem,I,ax]
     repeat'(first|((first|refine au.intro (by first|apply h_|apply Qm) ?_|with_reducible refine j1 ?_|refine e8 ?_|refine ba KK (by kernel_rfl) (by rfl) ?_|refine bt (fun h=>?_) (fun h=>?_))<;>simp only[go_sem,I,aC,aq,aD.enc,h2])|(with_reducible refine aw ?_)|fail)
     ·have e:jX c.number c.packets 0=false:=by rw[hb];revert h;cases bK c.packets[0].number 0 (IntKind.i64.wrap (c.number-1))<;>cases c.packets[0].frames.all fM<;>simp
      simp[aU,hf e]
     ·have e:jX c.number c.packets 0=true:=by rw[hb];revert h;cases bK c.packets[0].number 0 (IntKind.i64.wrap (c.number-1))<;>cases c.packets[0].frames.all fM<;>simp
      refine bA.intro 1 [0] ⟨by omega,by rw[hs,he,e];rfl⟩ (by omega) ?_;simp only[go_sem,hw];try simp
    |succ j=>
     have hb:=X_ c.number c.packets j h1;have gT:=b5 aD.enc c.packets j (by omega);have h2:decide ((0:Int)<((j+1:Nat):Int))=true:=bp (by omega);have hp:IntKind.i64.wrap (((j+1:Nat):Int)-1)=(j:Int):=by rw[bz]<;>omega
     try simp only[go_sem,I,ax]
     repeat'(first|((first|refine au.intro (by first|apply h_|apply Qm) ?_|refine e8 ?_|refine ba KK (by kernel_rfl) (by rfl) ?_|refine bt (fun h=>?_) (fun h=>?_))<;>simp only[go_sem,I,aC,aq,gT,aD.enc,h2,hp])|(with_reducible refine aw ?_)|fail)
     ·have e:jX c.number c.packets (j+1)=false:=by rw[hb];revert h;cases bK c.packets[j+1].number 0 (IntKind.i64.wrap (c.number-1))<;>cases c.packets[j+1].frames.all fM<;>simp
      simp[aU,hf e]
     ·have e:jX c.number c.packets (j+1)=true:=by rw[hb];revert h;cases bK c.packets[j+1].number 0 (IntKind.i64.wrap (c.number-1))<;>cases c.packets[j+1].frames.all fM<;>simp
      refine bA.intro (j+1+1) [0] ⟨by omega,by rw[hs,he,e];rfl⟩ (by omega) ?_;simp only[go_sem,hw];try simp
   ·have ax:decide ((i:Int)<(c.packets.length:Int))=false:=bo (by omega);obtain rfl:i=c.packets.length:=by omega
    have hK:xA c.number c.packets=true:=he;rw[hK]at aU
    try simp only[go_sem,I,ax]
    repeat'((first|refine au.intro (by first|apply h_|(apply Yb<;>exact aP)|(apply Yc<;>exact aP)) ?_|refine e8 ?_|refine ba Qk (by kernel_rfl) (by rfl) ?_)<;>simp only[go_sem])
    rw[hB];simp[aU]
theorem Qn(c:J):aJ 26 [.agg (J.enc c)] [.one (.bool (decide (c.closed≠0)))]:=by
 refine aN 6 Tryz.func26 Tryz.call26 [.tmp 2] ?_;intro _
 try simp only[go_sem]
def kb(c:J):Bool:=en c&&decide (c.closed=0)
theorem v7(c:J)(hz:gG c):aJ 229 [.agg (J.enc c)] [.one (.bool (kb c))]:=by
 refine aN 10 Tryz.func229 Tryz.call229 [.tmp 2] ?_;intro _
 try simp only[go_sem]
 repeat'((first|refine ab.intro (by(apply vg<;>exact aP)) ?_|refine au.intro (by apply Qn) ?_|refine a7 ?_)<;>simp only[go_sem])
 all_goals(refine eo ?_;simp[kb])
theorem nO{l:List ae}(hz:∀s∈l,eO s)(id:Int):eO (strOf l id).1:=by
 unfold strOf;split
 ·rename_i s h;exact hz _ (List.mem_of_find?_eq_some h)
 ·exact⟨by simp[jG],by simp[jG],by simp[jG],by simp[jG]⟩
theorem mU(c:J)(id:Int)(hz:gG c):aJ 18 [.agg (J.enc c),.one (.int .i64 id)] [.agg (ae.enc ((strOf c.streams id).1)),.one (.bool (strOf c.streams id).2)]:=by
 refine aN 20 Tryz.func18 Tryz.call18 [.cell 4 63,.tmp 5] ?_;intro ok;clear ok;obtain⟨nk,jc,pq,zc⟩:=hz;simp only[go_sem];refine ab.intro (KI c.streams id) ?_;simp only[go_sem];rcases uk (eP id) c.streams with ⟨h1,h2⟩|⟨j,al,h1,h2,aj⟩
 ·rw[h1];have ag:strOf c.streams id=(jG,false):=by unfold strOf;rw[h2]
  try simp only[go_sem]
  all_goals simp[ag,jG]
 ·rw[h1];have ag:strOf c.streams id=(c.streams[j],true):=by unfold strOf;rw[h2]
  have hlt:decide ((j:Int)<0)=false:=bo (by omega);have aq:=b5 ae.enc c.streams j al;obtain⟨cQ,bb,bD,bR⟩:=jc _ (eR al)
  try simp only[go_sem,I,hlt,aC,aq,ae.enc]
  repeat'(first|(refine ab.intro (by(apply y9<;>exact aP)) ?_<;>simp only[go_sem,I,ae.enc])|(with_reducible refine aw ?_)|fail)
  all_goals simp[ag]
set_option maxRecDepth 100000
def PX:List (List bH):=cP 10 [58940,58938,58932,59035,58981,58077,58563,56862,52488,39366]
attribute [go_sem] PX
theorem Kw(c:J)(hx:J.er c≤4194304):aJ 32 [.agg (J.enc c)] [.agg (J.enc c)]:=by
 refine aN 12 Tryz.func32 Tryz.call32 [.cell 2 37] ?_;intro _;simp only[J.er]at hx
 try simp only[go_sem]
 repeat'((first|refine au.intro (by first|(apply PY<;>exact aP)|(apply XK<;>exact aP)) ?_|refine ba PX (by kernel_rfl) (by rfl) ?_)<;>simp only[go_sem,I])
 all_goals simp
theorem gb(c:J)(hx:J.er c≤4194304):aJ 34 [.agg (J.enc c)] [.agg (J.enc c)]:=by
 refine aN 33 Tryz.func34 Tryz.call34 [.cell 2 37] ?_;intro _;simp only[J.er]at hx;have hm:c.streams.length≤maxLen:=by simp only[maxLen];omega
 simp only[go_sem];refine b7.intro (fun i:Nat=>⟨(.ak::.ptr 0 0 0::.ptr 1 0 0::.ptr 2 0 0::.i i::jn 28 []),[.box (J.bE c),.box J.bw,.box (J.vc c (.sl 3 0 i) (.d (.sl 2 (c.packets.map aD.enc)))),.ar 39 ((c.streams.take i).map ae.enc) true]⟩)
   (fun i=>c.streams.length-i) (fun i=>i≤c.streams.length) 0 [0,1,2,3] (by omega) ?_ ?_
 ·simp only[go_sem];simp
 ·intro i hi;have hl:(c.streams.take i).length=i:=by simp;omega
  simp only[go_sem,I];refine bt (fun h1=>?_) (fun h1=>?_)
  ·simp only[b2]at h1;have hlt:i<c.streams.length:=by omega
   have aq:=b5 ae.enc c.streams i hlt;have hw:=dK hlt hm;have hb:=GP ae.er c.streams i hlt;simp only[ae.er,aO.er,dm.er,bL.er,kC.er]at hb;simp only[ae.enc]at aq;have kD:((c.streams.take i).map ae.enc).take i=(c.streams.take i).map ae.enc:=dH (by rw[I,hl];exact Nat.le_refl _);have cW:=GQ ae.enc c.streams i hlt;simp only[ae.enc]at cW
   try simp only[go_sem,I,aC,aq]
   repeat'(first|(refine ab.intro (by(apply y9<;>exact aP)) ?_<;>simp only[go_sem,I,hl,kD])|(with_reducible refine aw ?_)|fail)
   all_goals(refine bA.intro (i+1) [0,1,2,11] (by omega) (by omega) ?_;simp only[go_sem,hw];simp[cW])
  ·simp only[dN]at h1;have hM:i=c.streams.length:=by omega
   subst hM
   try simp only[go_sem,d_]
   repeat'(refine ab.intro (by(apply XL<;>exact aP)) ?_<;>simp only[go_sem,I])
   all_goals simp
@[go_sem] theorem aa.m0(a:aa):(⟨a.low,a.high⟩:aa)=a:=rfl
@[go_sem] theorem dm.m0(a:dm):(⟨a.size,a.base,a.cv,a.cells⟩:dm)=a:=rfl
@[go_sem] theorem aO.m0(a:aO):(⟨a.state,a.ring,a.pending,a.flight,a.cG,a.bn,a.a2,a.sent,a.code⟩:aO)=a:=rfl
@[go_sem] theorem aA.m0(a:aA):(⟨a.offset,a.data⟩:aA)=a:=rfl
@[go_sem] theorem kC.m0(a:kC):(⟨a.next,a.bO⟩:kC)=a:=rfl
@[go_sem] theorem bL.m0(a:bL):(⟨a.state,a.buffer,a.bn,a.fO,a.code⟩:bL)=a:=rfl
@[go_sem] theorem eJ.m0(a:eJ):(⟨a.aR,a.used,a.blocked,a.told⟩:eJ)=a:=rfl
@[go_sem] theorem ep.m0(a:ep):(⟨a.size,a.most,a.aR,a.seen,a.read,a.jP⟩:ep)=a:=rfl
@[go_sem] theorem ie.m0(a:ie):(⟨a.iw,a.hR⟩:ie)=a:=rfl
@[go_sem] theorem gZ.m0(a:gZ):(⟨a.aR,a.opened,a.blocked⟩:gZ)=a:=rfl
@[go_sem] theorem dB.m0(a:dB):(⟨a.most,a.aR,a.seen,a.closed⟩:dB)=a:=rfl
@[go_sem] theorem bW.m0(a:bW):(⟨a.ring,a.bX,a.iK,a.cY,a.kl,a.jE,a.ey,a.g7⟩:bW)=a:=rfl
@[go_sem] theorem ao.m0(a:ao):(⟨a.kind,a.stream,a.offset,a.data,a.a2,a.code,a.aR,a.bn,a.ey⟩:ao)=a:=rfl
@[go_sem] theorem ae.m0(a:ae):(⟨a.id,a.send,a.dL,a.recv,a.bX,a.priority,a.eU,a.fC,a.iJ,a.iM,a.mx,a.lG,a.nr,a.counted⟩:ae)=a:=rfl
@[go_sem] theorem cf.m0(a:cf):(⟨a.offset,a.data,a.a2⟩:cf)=a:=rfl
@[go_sem] theorem dD.m0(a:dD):(⟨a.id,a.priority⟩:dD)=a:=rfl
@[go_sem] theorem aD.m0(a:aD):(⟨a.number,a.frames⟩:aD)=a:=rfl
@[go_sem] theorem J.m0(a:J):(⟨a.bV,a.own,a.peer,a.streams,a.cY,a.dO,a.e7,a.e6,a.cu,a.ct,a.vr,a.mW,a.mX,a.fq,a.number,a.packets,a.h8,a.closed⟩:J)=a:=rfl
set_option maxRecDepth 100000
def KD:List (List bH):=cP 12 [524867,524878,524872,524853,524799,521721,502524,444933,528160,514674,474579,354294]
def KE:List (List bH):=cP 23 [90634871105,90634871103,90634871097,90634871079,90634873333,90634874224,90634873738,90634872199,90635133505,90635120383,90635081017,90634962919,90656128705,90655065823,90651877177,90642311239,90613347705,90527254263,89106712470,79421200245,92399786626,84845087091,62762119218]
def KF:List (List bH):=cP 10 [57956,58804,58798,58780,58726,58927,58321,56862,52488,39366]
attribute [go_sem] KD KE KF
def hN(id:Int)(k:Nat):Int:=IntKind.i64.wrap (id-IntKind.i64.wrap (4 * (k:Int)))
def ensL(v:Bool)(o p:bW)(id:Int):Nat→List ae→List ae
 |0,l=>l
 |k+1,l=>ensL v o p id k (putS l (eX v (hN id k) o p))
theorem X4(n:Int):(jF n).ring.cells.length≤64∧(jF n).pending=[]∧(jF n).flight=[]∧(jF n).cG=[]:=by
 unfold jF;split
 ·rename_i h;have:=x5 h;refine⟨?_,rfl,rfl,rfl⟩;simp only[ja,h,if_true,List.length_replicate];omega
 ·simp[GY]
theorem xI(v:Bool)(i:Int)(o p:bW):eO (eX v i o p):=by
 unfold eX;split
 ·obtain⟨h1,h2,aj,aE⟩:=X4 o.ring;refine⟨by simp only[h2,aj,aE];simp,by simp only;omega,by simp[oI],by simp[oI]⟩
 ·exact⟨by simp[jG],by simp[jG],by simp[jG],by simp[jG]⟩
theorem GZ{l:List ae}{s:ae}(hz:∀x∈l,eO x)(hs:eO s):∀x∈putS l s,eO x:=fun x hx=>by
 rcases G0 hx with h|rfl
 ·exact hz x h
 ·exact hs
def gi(c:J)(id:Int):dB:=if j3 id then c.ct else c.cu
def fB(c:J)(id:Int):Int:=fj (gi c id) (bZ id)
def mo(c:J)(id:Int):Bool:=ia (gi c id) (bZ id)&&!decide (fB c id=0)&&!decide (24<IntKind.i64.wrap ((c.streams.length:Int)+fB c id))
def fu(c:J)(id:Int):Int:=if !(en c&&bN id)then 7 else if 0≤fIx (eP id) c.streams then 0 else if im c.bV id then 5 else if mo c id then 0 else 4
def jb(c:J)(id:Int)(a:dB):J:=if j3 id then {c with ct:=a}else {c with cu:=a}
def bI(c:J)(id:Int):J:=
 if en c&&bN id&&decide (fIx (eP id) c.streams<0)&&!im c.bV id&&mo c id then
  {jb c id (dd (gi c id) (bZ id))with streams:=ensL c.bV c.own c.peer id (fB c id).toNat c.streams}else c
theorem KG(a:dB)(i:Int):0≤fj a i∧fj a i≤1152921504606846977:=by
 unfold fj;split
 ·rename_i h;simp only[ia,g0,bK,bP,b2]at h;rw[bz (n:=i+1) (by omega) (by omega),bz (n:=i+1-a.seen) (by omega) (by omega)];unfold eb;split<;>omega
 ·omega
theorem B_{c:J}{id:Int}(h:mo c id=true)(hl:c.streams.length≤1000):0<fB c id∧(c.streams.length:Int)+fB c id≤24:=by
 have:=KG (gi c id) (bZ id);simp only[mo,bP,Bool.not_eq_true',dN]at h;unfold fB at h⊢;rw[bz (by omega) (by omega)]at h;omega
theorem Qe(v:Bool)(o p:bW)(id:Int):∀(k:Nat) (l:List ae),(ensL v o p id k l).length≤l.length+k
 |0,l=>by simp[ensL]
 |k+1,l=>by
  have h1:=Qe v o p id k (putS l (eX v (hN id k) o p));have h2:=AI l (eX v (hN id k) o p);rw[ensL];omega
theorem KH(c:J)(id:Int)(a:dB)(h:gi c id=a):(bif bif !ia a (bZ id)then true else decide (fj a (bZ id)=0)then true else decide (24<IntKind.i64.wrap ((c.streams.length:Int)+fj a (bZ id))))=!mo c id:=by
 subst h;unfold mo fB
 cases ia (gi c id) (bZ id)<;>cases decide (fj (gi c id) (bZ id)=0)<;>cases decide (24<IntKind.i64.wrap ((c.streams.length:Int)+fj (gi c id) (bZ id)))<;>rfl
theorem DW(c:J)(id:Int)(hz:gG c):aJ 7 [.agg (J.enc c),.one (.int .i64 id)] [.agg (J.enc ((bI c id))),.one (.int .i64 (fu c id))]:=by
 refine aN 72 Tryz.func7 Tryz.call7 [.cell 4 37,.tmp 5] ?_;intro ok;clear ok;have i':=iE hz;have fg:=hz;obtain⟨nk,jc,pq,zc⟩:=hz;have aT:bI c id=if en c&&bN id&&decide (fIx (eP id) c.streams<0)&&!im c.bV id&&mo c id then {jb c id (dd (gi c id) (bZ id))with streams:=ensL c.bV c.own c.peer id (fB c id).toNat c.streams}else c:=rfl
 have ag:fu c id=if !(en c&&bN id)then 7 else if 0≤fIx (eP id) c.streams then 0 else if im c.bV id then 5 else if mo c id then 0 else 4:=rfl
 try simp only[go_sem]
 repeat'((first|refine ab.af (by first|(apply gb<;>exact aP)|(apply vg<;>exact aP)) ?_|refine au.af (by apply h9) ?_|refine a7 ?_)<;>simp only[go_sem,I])
 cases h1:en c&&bN id with
 |false=>
  have hb:(bif !en c then true else !bN id)=true:=by revert h1;cases en c<;>cases bN id<;>simp
  rw[h1]at aT ag;simp only[hb];simp only[go_sem,I];simp[aT,ag]
 |true=>
  have hb:(bif !en c then true else !bN id)=false:=by revert h1;cases en c<;>cases bN id<;>simp
  rw[h1]at aT ag;simp only[hb];simp only[go_sem];refine ab.intro (KI c.streams id) ?_;simp only[go_sem];rcases uk (eP id) c.streams with ⟨dA,fN⟩|⟨j,al,dA,fN,f3⟩
  ·have AJ:decide ((0:Int)≤-1)=false:=by decide
   have zd:decide ((-1:Int)<0)=true:=by decide
   rw[dA,zd]at aT;rw[dA]at ag;simp only[dA,AJ];simp only[go_sem];refine ab.intro (B8 c.bV id) ?_;simp only[go_sem]
   cases cT:im c.bV id with
   |true=>
    rw[cT]at aT ag;simp only[go_sem,I];simp[aT,ag]
   |false=>
    rw[cT]at aT ag;simp only[go_sem];refine ab.intro (AG id) ?_;simp only[go_sem]
    cases gU:j3 id with
    |true=>
     have hA:gi c id=c.ct:=by unfold gi;rw[gU];rfl
     have hW:∀a,jb c id a={c with ct:=a}:=fun a=>by unfold jb;rw[gU];rfl
     have bM:=KH c id _ hA
     try simp only[go_sem]
     repeat'((first|refine ab.af (by assumption) ?_|refine au.af (by first|assumption|apply Qf|apply Qg) ?_|refine a7 ?_|refine ba KD (by kernel_rfl) (by rfl) ?_)<;>simp only[go_sem,I])
     rw[bM]
     cases hg:mo c id with
     |false=>
      rw[hg]at aT ag;simp only[go_sem,I,cc];simp[aT,ag]
     |true=>
      rw[hg]at aT ag;have hn:fB c id=fj c.ct (bZ id):=by unfold fB;rw[hA]
      simp only[go_sem,bS];refine ab.intro (AG id) ?_;simp only[go_sem,gU];obtain⟨kg,mq⟩:=B_ hg (by omega);rw[hn]at kg mq aT;obtain⟨N,bT⟩:=mj (show 0≤fj c.ct (bZ id)by omega);rw[bT]at kg mq aT;rw[aC]at aT;have AK:IntKind.i64.wrap ((N:Int)-1)=(N:Int)-1:=by rw[bz]<;>omega
      refine ab.ij [1,2,4,5,6] (by simp only[keepT,List.elem_cons,List.elem_nil,Nat.reduceBEq,Nat.reduceAdd,cond_true,cond_false];rfl) (fc (n:=44) (rs:=[]) Tryz.func40 rfl Tryz.call40 b1 rfl rfl ?_);simp only[go_sem,bT,AK];refine b7.intro (α:=Nat×List ae) (fun y=>⟨(.ptr 4 0 0::.i id::jn 4 (.i ((y.1:Int)-1)::jn 37 [])),[.box (J.bE c),.box J.bw,.af 39 (y.2.map ae.enc),.af 2 (c.packets.map aD.enc),.box (J.vc ({c with ct:=dd c.ct (bZ id)}) (.sl 2 0 y.2.length) (.sl 3 0 c.packets.length)),.box [.i c.ct.most,.i c.ct.aR,.i c.ct.seen,.i c.ct.closed],.box [.d (.int .i64 (dd c.ct (bZ id)).most),.d (.int .i64 (dd c.ct (bZ id)).aR),.d (.int .i64 (dd c.ct (bZ id)).seen),.d (.int .i64 (dd c.ct (bZ id)).closed)]]⟩)
       (fun y=>y.1) (fun y=>y.1≤N∧ensL c.bV c.own c.peer id y.1 y.2=ensL c.bV c.own c.peer id N c.streams∧y.2.length+y.1≤c.streams.length+N∧∀s∈y.2,eO s) (N,c.streams) [0,1,2,3,4,5,6] ⟨by omega,rfl,by simp,jc⟩ ?_ ?_
      ·simp only[go_sem];simp
      ·rintro⟨k,l⟩ ⟨hk,he,ni,cH⟩;simp only at hk he ni cH
       cases k with
       |zero=>
        have hd:decide ((0:Int)≤((0:Nat):Int)-1)=false:=by decide
        simp only[go_sem,hd];have vh:ensL c.bV c.own c.peer id N c.streams=l:=he.symm;rw[vh,hW,hA]at aT;simp[aT,ag,outOA]
       |succ k=>
        have hd:decide ((0:Int)≤(k:Int))=true:=bp (by omega);have mr:((k+1:Nat):Int)-1=(k:Int):=by omega
        have pr:IntKind.i64.wrap ((k:Int)-1)=(k:Int)-1:=by rw[bz]<;>omega
        have ec:IntKind.i64.wrap (id-IntKind.i64.wrap (4 * (k:Int)))=hN id k:=rfl;have hK:=l3 l (eX c.bV (hN id k) c.own c.peer) (by omega) cH (xI _ _ _ _)
        try simp only[go_sem,mr,hd]
        repeat'((first|refine ab.af (by assumption) ?_|refine au.af (by first|assumption|apply GS) ?_|refine ba KE (by kernel_rfl) (by rfl) ?_|refine ba KF (by kernel_rfl) (by rfl) ?_)<;>simp only[go_sem,I,pr,ec])
        have G1:=AI l (eX c.bV (hN id k) c.own c.peer);refine bA.intro (k,putS l (eX c.bV (hN id k) c.own c.peer)) [0,1,13,3,4,5,6] ⟨by omega,he,by simp only;omega,GZ cH (xI _ _ _ _)⟩ (by simp only;omega) ?_;simp only[go_sem];simp
    |false=>
     have hA:gi c id=c.cu:=by unfold gi;rw[gU];rfl
     have hW:∀a,jb c id a={c with cu:=a}:=fun a=>by unfold jb;rw[gU];rfl
     have bM:=KH c id _ hA
     try simp only[go_sem]
     repeat'((first|refine au.af (by first|apply Qf|apply Qg) ?_|refine a7 ?_|refine ba KD (by kernel_rfl) (by rfl) ?_)<;>simp only[go_sem,I])
     rw[bM]
     cases hg:mo c id with
     |false=>
      rw[hg]at aT ag;simp only[go_sem,I,cc];simp[aT,ag]
     |true=>
      rw[hg]at aT ag;have hn:fB c id=fj c.cu (bZ id):=by unfold fB;rw[hA]
      simp only[go_sem,bS];refine ab.intro (AG id) ?_;simp only[go_sem,gU];obtain⟨kg,mq⟩:=B_ hg (by omega);rw[hn]at kg mq aT;obtain⟨N,bT⟩:=mj (show 0≤fj c.cu (bZ id)by omega);rw[bT]at kg mq aT;rw[aC]at aT;have AK:IntKind.i64.wrap ((N:Int)-1)=(N:Int)-1:=by rw[bz]<;>omega
      refine ab.ij [1,2,4,5,6] (by simp only[keepT,List.elem_cons,List.elem_nil,Nat.reduceBEq,Nat.reduceAdd,cond_true,cond_false];rfl) (fc (n:=44) (rs:=[]) Tryz.func40 rfl Tryz.call40 b1 rfl rfl ?_);simp only[go_sem,bT,AK];refine b7.intro (α:=Nat×List ae) (fun y=>⟨(.ptr 4 0 0::.i id::jn 4 (.i ((y.1:Int)-1)::jn 37 [])),[.box (J.bE c),.box J.bw,.af 39 (y.2.map ae.enc),.af 2 (c.packets.map aD.enc),.box (J.vc ({c with cu:=dd c.cu (bZ id)}) (.sl 2 0 y.2.length) (.sl 3 0 c.packets.length)),.box [.i c.cu.most,.i c.cu.aR,.i c.cu.seen,.i c.cu.closed],.box [.d (.int .i64 (dd c.cu (bZ id)).most),.d (.int .i64 (dd c.cu (bZ id)).aR),.d (.int .i64 (dd c.cu (bZ id)).seen),.d (.int .i64 (dd c.cu (bZ id)).closed)]]⟩)
       (fun y=>y.1) (fun y=>y.1≤N∧ensL c.bV c.own c.peer id y.1 y.2=ensL c.bV c.own c.peer id N c.streams∧y.2.length+y.1≤c.streams.length+N∧∀s∈y.2,eO s) (N,c.streams) [0,1,2,3,4,5,6] ⟨by omega,rfl,by simp,jc⟩ ?_ ?_
      ·simp only[go_sem];simp
      ·rintro⟨k,l⟩ ⟨hk,he,ni,cH⟩;simp only at hk he ni cH
       cases k with
       |zero=>
        have hd:decide ((0:Int)≤((0:Nat):Int)-1)=false:=by decide
        simp only[go_sem,hd];have vh:ensL c.bV c.own c.peer id N c.streams=l:=he.symm;rw[vh,hW,hA]at aT;simp[aT,ag,outOA]
       |succ k=>
        have hd:decide ((0:Int)≤(k:Int))=true:=bp (by omega);have mr:((k+1:Nat):Int)-1=(k:Int):=by omega
        have pr:IntKind.i64.wrap ((k:Int)-1)=(k:Int)-1:=by rw[bz]<;>omega
        have ec:IntKind.i64.wrap (id-IntKind.i64.wrap (4 * (k:Int)))=hN id k:=rfl;have hK:=l3 l (eX c.bV (hN id k) c.own c.peer) (by omega) cH (xI _ _ _ _)
        try simp only[go_sem,mr,hd]
        repeat'((first|refine ab.af (by assumption) ?_|refine au.af (by first|assumption|apply GS) ?_|refine a7 ?_|refine ba KE (by kernel_rfl) (by rfl) ?_|refine ba KF (by kernel_rfl) (by rfl) ?_)<;>simp only[go_sem,I,pr,ec])
        have G1:=AI l (eX c.bV (hN id k) c.own c.peer);refine bA.intro (k,putS l (eX c.bV (hN id k) c.own c.peer)) [0,1,13,3,4,5,6] ⟨by omega,he,by simp only;omega,GZ cH (xI _ _ _ _)⟩ (by simp only;omega) ?_;simp only[go_sem];simp
  ·have AJ:decide ((0:Int)≤(j:Int))=true:=bp (by omega);have zd:decide ((j:Int)<0)=false:=bo (by omega);rw[dA,zd]at aT;rw[dA]at ag;simp only[dA,AJ];simp only[go_sem,I];simp[aT,ag]
theorem WC{r x y:aa}(hr:dj r=true)(hx:dj x=true)(hy:y∈ky r x):dj y=true∧x.low≤y.low∧y.high≤x.high:=by
 have h1:=(hU _).1 hr;have h2:=(hU _).1 hx;unfold ky at hy;rcases et.1 hy with hy|hy
 ·split at hy
  ·rename_i c;rw[List.mem_singleton.1 hy,hU];simp only[dG]at c⊢;refine⟨⟨by omega,c,?_⟩,by omega,?_⟩<;>split<;>omega
  ·cases hy
 ·split at hy
  ·rename_i c;rw[List.mem_singleton.1 hy,hU];simp only[eb]at c⊢;refine⟨⟨?_,c,by omega⟩,?_,by omega⟩<;>split<;>omega
  ·cases hy
theorem agD{r x:aa}(hr:dj r=true):(ky r x).Pairwise (fun a b=>a.high<b.low):=by
 have h1:=(hU _).1 hr;unfold ky;split<;>split<;>simp[dG,eb]<;>(repeat' split)<;>omega
theorem WD{r:aa}(hr:dj r=true):∀(xs:List aa),(∀x∈xs,dj x=true)→xs.Pairwise (fun a b=>a.high<b.low)→
  (∀y∈xs.flatMap (ky r),dj y=true∧∃x∈xs,x.low≤y.low∧y.high≤x.high)∧(xs.flatMap (ky r)).Pairwise (fun a b=>a.high<b.low)
 |[],_,_=>by simp
 |x::xs,h1,h2=>by
  have hF:=List.pairwise_cons.1 h2;obtain⟨cC,c8⟩:=WD hr xs (fun y hy=>h1 y (by simp[hy])) hF.2;rw[List.flatMap_cons];refine⟨fun y hy=>?_,List.pairwise_append.2 ⟨agD hr,c8,fun a ha b hb=>?_⟩⟩
  ·rcases et.1 hy with hy|hy
   ·have:=WC hr (h1 x (by simp)) hy;exact⟨this.1,x,by simp,this.2⟩
   ·obtain⟨cQ,z,hz,bb⟩:=cC y hy;exact⟨cQ,z,by simp[hz],bb⟩
  ·have cQ:=WC hr (h1 x (by simp)) ha;obtain⟨_,z,hz,bb⟩:=cC b hb;have:=hF.1 z hz;omega
theorem WE{r x:aa}(h:¬(x.low<r.low∧r.high<x.high)):(ky r x).length≤1:=by
 unfold ky;split<;>split<;>simp;rename_i cM dI;simp only[dG,eb]at cM dI;split at cM<;>split at dI<;>omega
theorem WG{r:aa}:∀(xs:List aa),(∀x∈xs,r.low≤x.low)→(xs.flatMap (ky r)).length≤xs.length
 |[],_=>by simp
 |x::xs,h=>by
  have:=WG xs (fun y hy=>h y (by simp[hy]));have:=WE (r:=r) (x:=x) (fun g=>by have:=h x (by simp);omega);rw[List.flatMap_cons,eG,eW];omega
theorem WH{r:aa}(hr:dj r=true):∀(xs:List aa),xs.Pairwise (fun a b=>a.high<b.low)→(xs.flatMap (ky r)).length≤xs.length+1
 |[],_=>by simp
 |x::xs,h=>by
  have h':=List.pairwise_cons.1 h;have jK:=(hU _).1 hr;rw[List.flatMap_cons,eG,eW];by_cases c:x.low<r.low∧r.high<x.high
  ·have:=WG (r:=r) xs (fun y hy=>by have:=h'.1 y hy;omega);have:=Wu r x;omega
  ·have:=WH hr xs h'.2;have:=WE c;omega
theorem Uz{xs:List aa}{r:aa}(h:cX xs=true):cX (n4 xs r)=true∧(n4 xs r).length≤xs.length+1∧∀y∈n4 xs r,∃x∈xs,x.low≤y.low∧y.high≤x.high:=by
 unfold n4;split
 ·rename_i g;have hr:dj r=true:=by revert g;rw[h];simp
  have hs:=(kx xs).1 h;obtain⟨cC,c8⟩:=WD hr xs hs.1 hs.2;exact⟨(kx _).2 ⟨fun y hy=>(cC y hy).1,c8⟩,WH hr xs hs.2,fun y hy=>(cC y hy).2⟩
 ·exact⟨h,by omega,fun y hy=>⟨y,hy,by omega,by omega⟩⟩
theorem agE{x y z:aa}(hx:dj x=true)(hy:dj y=true)(hz:z∈iD x y):dj z=true∧x.low≤z.low∧z.high≤x.high:=by
 have h1:=(hU _).1 hx;have h2:=(hU _).1 hy;unfold iD at hz;split at hz
 ·rename_i c;rw[List.mem_singleton.1 hz,hU];simp only[dG,eb]at c⊢;refine⟨⟨?_,c,?_⟩,?_,?_⟩<;>split<;>omega
 ·cases hz
theorem NN(xs:List aa)(r:aa):(j_ xs [r]).length≤xs.length∧∀z∈j_ xs [r],dj z=true∧∃x∈xs,x.low≤z.low∧z.high≤x.high:=by
 unfold j_;split
 ·rename_i g;simp only[bP]at g;have hs:=(kx xs).1 g.1;have hr:=((kx [r]).1 g.2).1 r (by simp);have e:(xs.flatMap fun x=>[r].flatMap (iD x))=xs.flatMap fun x=>iD x r:=by
   congr 1;funext x;simp
  rw[e];refine⟨by have:=Dw (fun x=>iD x r) 1 (fun x=>OS x r) xs;omega,fun z hz=>?_⟩;obtain⟨x,hx,hz⟩:=List.mem_flatMap.1 hz;have:=agE (hs.1 x hx) hr hz;exact⟨this.1,x,hx,this.2⟩
 ·exact⟨by simp,fun z hz=>by cases hz⟩
set_option maxRecDepth 100000
def JH:List (List bH):=cP 10 [59048,59046,59040,59022,56781,56619,56133,57915,52488,39366]
attribute [go_sem] JH
def Dc(s:aO)(p:cf):Bool:=fl s&&decide (s.state≤2)&&xe s p&&!(decide (p.data=[])&&!p.a2)&&!(p.a2&&decide (s.a2≠1))
def oM(s:aO)(p:cf):Bool:=Dc s p&&(decide (p.data=[])||decide (j_ s.pending [fz p]=[fz p]))
def z5(s:aO)(p:cf):aO:=if p.data=[]then s else {s with pending:=n4 s.pending (fz p),flight:=gv s.flight (fz p),sent:=eb s.sent (fz p).high}
def Bx(s:aO)(p:cf):aO:=if p.a2 then {s with a2:=2}else s
def o0(s:aO):aO:={s with state:=BI s}
def pC(s:aO)(p:cf):aO:=if oM s p then o0 (Bx (z5 s p) p)else s
theorem Zy(a5 bh bj bd:Int)(aZ:List Int)(aF aB aG:List aa)(bf a8 a1 bk dh:Int)(cN:List UInt8)(dc:Bool)(hc:aF.length+aB.length+aG.length≤524288)(hr:aZ.length≤8388608)(_:cN.length≤1048576):aJ 324 [.agg [.int .i64 a5,.int .i64 bh,.int .i64 bj,.int .i64 bd,.sl 1 (aZ.map aW),.sl 2 (aF.map aa.enc),.sl 2 (aB.map aa.enc),.sl 2 (aG.map aa.enc),.int .i64 bf,.int .i64 a8,.int .i64 a1,.int .i64 bk],.agg [.int .i64 dh,.str cN,.bool dc]] [.agg (aO.enc (pC (⟨a5,⟨bh,bj,bd,aZ⟩,aF,aB,aG,bf,a8,a1,bk⟩:aO) (⟨dh,cN,dc⟩:cf))),.one (.bool (oM (⟨a5,⟨bh,bj,bd,aZ⟩,aF,aB,aG,bf,a8,a1,bk⟩:aO) (⟨dh,cN,dc⟩:cf)))]:=by
 refine aN 89 Tryz.func324 Tryz.call324 [.cell 4 54,.tmp 5] ?_;intro _;have ag:(bif bif bif bif !fl (⟨a5,⟨bh,bj,bd,aZ⟩,aF,aB,aG,bf,a8,a1,bk⟩:aO)then true else decide (2<a5)then true else !xe (⟨a5,⟨bh,bj,bd,aZ⟩,aF,aB,aG,bf,a8,a1,bk⟩:aO) (⟨dh,cN,dc⟩:cf)then true else bif decide (cN=[])then !dc else false then true else bif dc then decide (a8≠1)else false)=!Dc (⟨a5,⟨bh,bj,bd,aZ⟩,aF,aB,aG,bf,a8,a1,bk⟩:aO) (⟨dh,cN,dc⟩:cf):=by
  have e:decide (2<a5)=!decide (a5≤2):=by by_cases h:a5≤2<;>simp[h]<;>omega
  simp only[Dc,e]
  cases fl (⟨a5,⟨bh,bj,bd,aZ⟩,aF,aB,aG,bf,a8,a1,bk⟩:aO)<;>cases decide (a5≤2)<;>cases xe (⟨a5,⟨bh,bj,bd,aZ⟩,aF,aB,aG,bf,a8,a1,bk⟩:aO) (⟨dh,cN,dc⟩:cf)<;>cases decide (cN=[])<;>cases dc<;>cases decide (a8≠1)<;>rfl
 cases bM:Dc (⟨a5,⟨bh,bj,bd,aZ⟩,aF,aB,aG,bf,a8,a1,bk⟩:aO) (⟨dh,cN,dc⟩:cf)with
 |false=>
  have cT:oM (⟨a5,⟨bh,bj,bd,aZ⟩,aF,aB,aG,bf,a8,a1,bk⟩:aO) (⟨dh,cN,dc⟩:cf)=false:=by simp[oM,bM]
  rw[bM]at ag
  try simp only[go_sem]
  repeat'((first|refine ab.intro (by first|(apply pw<;>exact aP)|(apply kT<;>exact aP)) ?_|refine au.intro (by apply Dz) ?_|refine a7 ?_)<;>simp only[go_sem,I])
  rw[ag];simp only[go_sem,cc,I];simp[pC,cT]
 |true=>
  have hw:=bM;simp only[Dc,bP,b2,and_assoc]at hw;obtain⟨y5,mT,JI,JJ,JK⟩:=hw;rw[bM]at ag;have vf:=OT aF [fz (⟨dh,cN,dc⟩:cf)] (by omega) (by simp);have Jv:=OR aF (fz (⟨dh,cN,dc⟩:cf)).low (fz (⟨dh,cN,dc⟩:cf)).high (by omega);have U_:=uX aB (fz (⟨dh,cN,dc⟩:cf)).low (fz (⟨dh,cN,dc⟩:cf)).high (by omega)
  try simp only[go_sem]
  repeat'((first|refine ab.intro (by first|assumption|(apply pw<;>exact aP)|(apply kT<;>exact aP)) ?_|refine au.intro (by first|assumption|apply Dz) ?_|refine a7 ?_)<;>simp only[go_sem,I])
  rw[ag];simp only[go_sem,bS];by_cases nI:cN=[]
  ·have aX:decide (cN≠[])=false:=bo (fun h=>h nI);have cT:oM (⟨a5,⟨bh,bj,bd,aZ⟩,aF,aB,aG,bf,a8,a1,bk⟩:aO) (⟨dh,cN,dc⟩:cf)=true:=by unfold oM;rw[bM];simp only[nI,decide_true,Bool.true_or,Bool.and_self]
   have aT:pC (⟨a5,⟨bh,bj,bd,aZ⟩,aF,aB,aG,bf,a8,a1,bk⟩:aO) (⟨dh,cN,dc⟩:cf)=o0 (Bx (z5 (⟨a5,⟨bh,bj,bd,aZ⟩,aF,aB,aG,bf,a8,a1,bk⟩:aO) (⟨dh,cN,dc⟩:cf)) (⟨dh,cN,dc⟩:cf)):=by unfold pC;rw[cT];rfl
   have b4:z5 (⟨a5,⟨bh,bj,bd,aZ⟩,aF,aB,aG,bf,a8,a1,bk⟩:aO) (⟨dh,cN,dc⟩:cf)=(⟨a5,⟨bh,bj,bd,aZ⟩,aF,aB,aG,bf,a8,a1,bk⟩:aO):=by unfold z5;exact if_pos nI
   rw[b4]at aT;clear ag bM y5 JI JJ JK vf Jv U_
   try simp only[go_sem,aX]
   repeat'(first|((first|refine ab.intro (by apply BW) ?_|refine bt (fun h=>?_) (fun h=>?_))<;>simp only[go_sem,I])|(with_reducible refine aw ?_)|fail)
   all_goals(rw[aT,cT];subst h;simp only[o0,Bx,if_true,Bool.false_eq_true,if_false];try simp[outOA])
  ·have aX:decide (cN≠[])=true:=bp nI;by_cases AB:j_ aF [fz (⟨dh,cN,dc⟩:cf)]=[fz (⟨dh,cN,dc⟩:cf)]
   ·have cT:oM (⟨a5,⟨bh,bj,bd,aZ⟩,aF,aB,aG,bf,a8,a1,bk⟩:aO) (⟨dh,cN,dc⟩:cf)=true:=by unfold oM;rw[bM];simp only[AB,decide_true,Bool.or_true,Bool.and_self]
    have aT:pC (⟨a5,⟨bh,bj,bd,aZ⟩,aF,aB,aG,bf,a8,a1,bk⟩:aO) (⟨dh,cN,dc⟩:cf)=o0 (Bx (z5 (⟨a5,⟨bh,bj,bd,aZ⟩,aF,aB,aG,bf,a8,a1,bk⟩:aO) (⟨dh,cN,dc⟩:cf)) (⟨dh,cN,dc⟩:cf)):=by unfold pC;rw[cT];rfl
    have b4:z5 (⟨a5,⟨bh,bj,bd,aZ⟩,aF,aB,aG,bf,a8,a1,bk⟩:aO) (⟨dh,cN,dc⟩:cf)={(⟨a5,⟨bh,bj,bd,aZ⟩,aF,aB,aG,bf,a8,a1,bk⟩:aO)with pending:=n4 aF (fz (⟨dh,cN,dc⟩:cf)),flight:=gv aB (fz (⟨dh,cN,dc⟩:cf)),sent:=eb a1 (fz (⟨dh,cN,dc⟩:cf)).high}:=by unfold z5;exact if_neg nI
    rw[b4]at aT;rw[AB]at vf;clear ag bM y5 JI JJ JK;have br:decide (((1:Nat):Int)≠1)=false:=by decide
    try simp only[go_sem,aX,eW,ft]
    repeat'(first|((first|refine ab.intro (by first|assumption|apply Gu|apply BW) ?_|refine au.intro (by assumption) ?_|with_reducible refine kf ?_|refine ba JH (by kernel_rfl) (by rfl) ?_|refine bt (fun h=>?_) (fun h=>?_))<;>simp only[go_sem,I,br,aa.enc,List.map_cons,List.map_nil,eW,ft,Int.toNat_zero])|(with_reducible refine aw ?_)|fail)
    all_goals(rw[aT,cT];subst h;simp only[o0,Bx,if_true,Bool.false_eq_true,if_false,eb];try rfl;try simp[outOA])
   ·have cT:oM (⟨a5,⟨bh,bj,bd,aZ⟩,aF,aB,aG,bf,a8,a1,bk⟩:aO) (⟨dh,cN,dc⟩:cf)=false:=by unfold oM;rw[bM];simp only[bo nI,bo AB,Bool.or_self,Bool.and_false]
    have aT:pC (⟨a5,⟨bh,bj,bd,aZ⟩,aF,aB,aG,bf,a8,a1,bk⟩:aO) (⟨dh,cN,dc⟩:cf)=(⟨a5,⟨bh,bj,bd,aZ⟩,aF,aB,aG,bf,a8,a1,bk⟩:aO):=by unfold pC;rw[cT];rfl
    by_cases hl:(j_ aF [fz (⟨dh,cN,dc⟩:cf)]).length=1
    ·obtain⟨y,hy⟩:=List.length_eq_one_iff.1 hl;have br:decide (((1:Nat):Int)≠1)=false:=by decide
     rw[hy]at vf AB;have hne:¬(y.low=(fz (⟨dh,cN,dc⟩:cf)).low∧y.high=(fz (⟨dh,cN,dc⟩:cf)).high):=fun g=>AB (by rw[show y=fz (⟨dh,cN,dc⟩:cf)from by cases y;cases g;simp_all]);have cF:(decide (y.low=(fz (⟨dh,cN,dc⟩:cf)).low)&&decide (y.high=(fz (⟨dh,cN,dc⟩:cf)).high))=false:=by
      rw[Bool.and_eq_false_iff,dN,dN];exact Classical.not_and_iff_not_or_not.1 hne
     clear ag bM y5 JI JJ JK
     try simp only[go_sem,aX,eW,ft]
     repeat'(first|((first|refine ab.intro (by first|assumption|apply Gu) ?_|refine au.intro (by assumption) ?_|with_reducible refine kf ?_|refine ba JH (by kernel_rfl) (by rfl) ?_)<;>simp only[go_sem,I,br,cF,aa.enc,List.map_cons,List.map_nil,eW,ft,Int.toNat_zero,cc])|(with_reducible refine aw ?_)|fail)
     all_goals(rw[aT,cT];try simp[outOA,gx])
    ·have br:decide (((j_ aF [fz (⟨dh,cN,dc⟩:cf)]).length:Int)≠1)=true:=bp (by omega);clear ag bM y5 JI JJ JK
     try simp only[go_sem,aX]
     repeat'(first|((first|refine ab.intro (by first|assumption|apply Gu) ?_|refine au.intro (by assumption) ?_|with_reducible refine j1 ?_|refine ba JH (by kernel_rfl) (by rfl) ?_)<;>simp only[go_sem,I,br])|(with_reducible refine aw ?_)|fail)
     all_goals(rw[aT,cT];try simp[outOA,gx])
set_option maxRecDepth 100000
def Pb:List (List bH):=cP 12 [511640,511638,511753,511735,511681,511515,511029,503010,448335,521599,478953,354294]
def Pc:List (List bH):=cP 7 [2069,2067,2182,2164,2110,1944,1458]
def Pd:List (List bH):=cP 9 [19322,19320,19651,19669,19606,19444,18954,17496,13122]
attribute [go_sem] Pb Pc Pd
def Am(s:aO)(p:cf):Bool:=fl s&&decide (s.state≤2)&&xe s p
def kR(jv c:List aa):List aa:=c.foldl n4 jv
theorem WV(jv c:List aa)(i:Nat)(h:i<c.length):kR jv (c.take (i+1))=n4 (kR jv (c.take i)) c[i]:=xu n4 jv c i h
theorem I0:∀(c jv:List aa),cX jv=true→cX (kR jv c)=true∧(kR jv c).length≤jv.length+c.length∧∀y∈kR jv c,∃x∈jv,x.low≤y.low∧y.high≤x.high
 |[],jv,h=>⟨h,by simp[kR],fun y hy=>⟨y,hy,by omega,by omega⟩⟩
 |r::c,jv,h=>by
  obtain⟨cC,c8,fs⟩:=Uz (r:=r) h;obtain⟨cQ,bb,bD⟩:=I0 c (n4 jv r) cC;refine⟨cQ,by have e:kR jv (r::c)=kR (n4 jv r) c:=rfl;rw[e,eW];omega,fun y hy=>?_⟩;obtain⟨x,hx,zC⟩:=bD y hy;obtain⟨z,hz,iQ⟩:=fs x hx;exact⟨z,hz,by omega,by omega⟩
def o1(s:aO)(p:cf):aO:=if p.data=[]then s else {s with flight:=kR s.flight (j_ s.flight [fz p]),cG:=eL s.cG (j_ s.flight [fz p])}
def m7(f:Int)(s:aO)(p:cf):aO:=if(p.a2&&decide (s.a2=2))=true then {s with a2:=f}else s
def FM(r:dm)(s:aO):aO:={s with ring:=xf r (o2 s.cG 0)}
def z6(s:aO)(p:cf):aO:=if Am s p then o0 (FM s.ring (m7 3 (o1 s p) p))else s
theorem WW(s:aO)(p:cf):(bif bif !fl s then true else decide (2<s.state)then true else !xe s p)=!Am s p:=by
 have e:decide (2<s.state)=!decide (s.state≤2):=by by_cases h:s.state≤2<;>simp[h]<;>omega
 simp only[Am,e]
 cases fl s<;>cases decide (s.state≤2)<;>cases xe s p<;>rfl
theorem WX{s:aO}(h:fl s=true):cX s.pending=true∧cX s.flight=true∧cX s.cG=true:=by
 simp only[fl,jV,bP,and_assoc]at h;exact⟨h.2.1,h.2.2.1,h.2.2.2.1⟩
theorem agr(a5 bh bj bd:Int)(aZ:List Int)(aF aB aG:List aa)(bf a8 a1 bk dh:Int)(cN:List UInt8)(dc:Bool)(hc:aF.length+aB.length+aG.length≤262144)(hr:aZ.length≤8388608)(_:cN.length≤1048576):aJ 305 [.agg [.int .i64 a5,.int .i64 bh,.int .i64 bj,.int .i64 bd,.sl 1 (aZ.map aW),.sl 2 (aF.map aa.enc),.sl 2 (aB.map aa.enc),.sl 2 (aG.map aa.enc),.int .i64 bf,.int .i64 a8,.int .i64 a1,.int .i64 bk],.agg [.int .i64 dh,.str cN,.bool dc]] [.agg (aO.enc (z6 (⟨a5,⟨bh,bj,bd,aZ⟩,aF,aB,aG,bf,a8,a1,bk⟩:aO) (⟨dh,cN,dc⟩:cf)))]:=by
 refine aN 81 Tryz.func305 Tryz.call305 [.cell 4 54] ?_;intro _;have ag:=WW (⟨a5,⟨bh,bj,bd,aZ⟩,aF,aB,aG,bf,a8,a1,bk⟩:aO) (⟨dh,cN,dc⟩:cf)
 cases bM:Am (⟨a5,⟨bh,bj,bd,aZ⟩,aF,aB,aG,bf,a8,a1,bk⟩:aO) (⟨dh,cN,dc⟩:cf)with
 |false=>
  rw[bM]at ag
  try simp only[go_sem]
  repeat'((first|refine ab.intro (by first|(apply pw<;>exact aP)|(apply kT<;>exact aP)) ?_|refine au.intro (by apply Dz) ?_|refine a7 ?_)<;>simp only[go_sem,I])
  rw[ag];simp only[go_sem,cc,I];simp[z6,bM]
 |true=>
  have hw:=bM;simp only[Am,bP,b2,and_assoc]at hw;have Gw:=WX hw.1;simp only at Gw;rw[bM]at ag;have aT:z6 (⟨a5,⟨bh,bj,bd,aZ⟩,aF,aB,aG,bf,a8,a1,bk⟩:aO) (⟨dh,cN,dc⟩:cf)=o0 (FM (⟨a5,⟨bh,bj,bd,aZ⟩,aF,aB,aG,bf,a8,a1,bk⟩:aO).ring (m7 3 (o1 (⟨a5,⟨bh,bj,bd,aZ⟩,aF,aB,aG,bf,a8,a1,bk⟩:aO) (⟨dh,cN,dc⟩:cf)) (⟨dh,cN,dc⟩:cf))):=by unfold z6;rw[bM];rfl
  have vf:=OT aB [fz (⟨dh,cN,dc⟩:cf)] (by omega) (by simp);have ag8:=NN aB (fz (⟨dh,cN,dc⟩:cf))
  try simp only[go_sem]
  repeat'((first|refine ab.intro (by first|assumption|(apply pw<;>exact aP)|(apply kT<;>exact aP)) ?_|refine au.intro (by first|assumption|apply Dz) ?_|refine a7 ?_)<;>simp only[go_sem,I])
  rw[ag];simp only[go_sem,bS];by_cases nI:cN=[]
  ·have aX:decide (cN≠[])=false:=bo (fun h=>h nI);have b4:o1 (⟨a5,⟨bh,bj,bd,aZ⟩,aF,aB,aG,bf,a8,a1,bk⟩:aO) (⟨dh,cN,dc⟩:cf)=(⟨a5,⟨bh,bj,bd,aZ⟩,aF,aB,aG,bf,a8,a1,bk⟩:aO):=by unfold o1;exact if_pos nI
   rw[b4]at aT;clear ag bM hw
   try simp only[go_sem,aX]
   repeat'(first|((first|refine ab.intro (by first|assumption|apply BW) ?_|refine au.intro (by first|assumption|apply yW|(apply Wl<;>exact aP)) ?_|refine a7 ?_|refine ba Pb (by kernel_rfl) (by rfl) ?_|refine bt (fun h=>?_) (fun h=>?_))<;>simp only[go_sem,I])|(with_reducible refine aw ?_)|fail)
   all_goals(simp only[cw]at h;rw[aT];simp only[o0,FM,m7,h,if_true,Bool.false_eq_true,if_false];try rfl;try simp[outOA])
  ·have aX:decide (cN≠[])=true:=bp nI;clear ag bM hw
   try simp only[go_sem,aX]
   repeat'((first|refine ab.intro (by assumption) ?_|refine au.intro (by first|assumption|apply Gu) ?_|refine ba Pc (by kernel_rfl) (by rfl) ?_)<;>simp only[go_sem,I])
   have b4:o1 (⟨a5,⟨bh,bj,bd,aZ⟩,aF,aB,aG,bf,a8,a1,bk⟩:aO) (⟨dh,cN,dc⟩:cf)={(⟨a5,⟨bh,bj,bd,aZ⟩,aF,aB,aG,bf,a8,a1,bk⟩:aO)with flight:=kR aB (j_ aB [fz (⟨dh,cN,dc⟩:cf)]),cG:=eL aG (j_ aB [fz (⟨dh,cN,dc⟩:cf)])}:=by unfold o1;exact if_neg nI
   rw[b4]at aT;generalize hcc:j_ aB [fz (⟨dh,cN,dc⟩:cf)]=c at *;refine b7.intro (fun i:Nat=>⟨(.ak::.ak::.ptr 0 0 0::.ptr 1 0 0::.ptr 2 0 0::.ptr 7 0 0::.sl 8 0 c.length::.i i::jn 73 []),[.box [.i a5,.i bh,.i bj,.i bd,.d (.sl 1 (aZ.map aW)),.d (.sl 2 (aF.map aa.enc)),.d (.sl 2 (aB.map aa.enc)),.d (.sl 2 (aG.map aa.enc)),.i bf,.i a8,.i a1,.i bk],.box [.i dh,.d (.str cN),.d (.bool dc)],.box aO.bw,.ar 1 (aZ.map aW) true,.ar 2 (aF.map aa.enc) true,.ar 2 ((kR aB (c.take i)).map aa.enc) true,.ar 2 ((eL aG (c.take i)).map aa.enc) true,.box [.i a5,.i bh,.i bj,.i bd,.sl 3 0 aZ.length,.sl 4 0 aF.length,.sl 5 0 (kR aB (c.take i)).length,.sl 6 0 (eL aG (c.take i)).length,.i bf,.i a8,.i a1,.i bk],.ar 2 (c.map aa.enc) true]⟩)
    (fun i=>c.length-i) (fun i=>i≤c.length) 0 [0,1,2,3,4,5,6,7,9] (by omega) ?_ ?_
   ·simp only[go_sem];simp[kR,eL]
   ·intro i hi;have cd:=(I0 (c.take i) aB Gw.2.1).2.1;have hA:=pc (c.take i) aG;have cR:(c.take i).length=i:=by simp;omega
    by_cases h1:i<c.length
    ·have ax:decide ((i:Int)<(c.length:Int))=true:=bp (by omega);have aq:=b5 aa.enc c i h1;have mT:=dK (i:=i) (m:=524288) (by omega) (by simp[maxLen]);have F_:=WV aB c i h1;have nm:=Aj aG c i h1;generalize Jm:kR aB (c.take i)=jv at *;generalize DL:eL aG (c.take i)=ag9 at *;have Jv:=OR jv c[i].low c[i].high (by omega)
     try simp only[go_sem,ax]
     repeat'(first|((first|refine ab.intro (by assumption) ?_|refine au.intro (by first|assumption|(apply uX<;>exact aP)) ?_|refine ba Pd (by kernel_rfl) (by rfl) ?_)<;>simp only[go_sem,I,aC,aq,aa.enc])|(with_reducible refine aw ?_)|fail)
     refine bA.intro (i+1) [0,1,2,3,4,9,10,7,8] (by omega) (by omega) ?_;simp only[go_sem,mT,F_,nm];simp
    ·have ax:decide ((i:Int)<(c.length:Int))=false:=bo (by omega);obtain rfl:i=c.length:=by omega
     rw[d_]at cd hA
     try simp only[go_sem,ax,d_]
     repeat'(first|((first|refine ab.intro (by first|assumption|apply BW) ?_|refine au.intro (by first|assumption|apply yW|(apply Wl<;>exact aP)) ?_|refine a7 ?_|refine ba Pb (by kernel_rfl) (by rfl) ?_|refine bt (fun h=>?_) (fun h=>?_))<;>simp only[go_sem,I])|(with_reducible refine aw ?_)|fail)
     all_goals(simp only[cw]at h;rw[aT];simp only[o0,FM,m7,h,if_true,Bool.false_eq_true,if_false];try rfl;try simp[outOA])
def By(s:aO)(p:cf):aO:=if p.data=[]then s else {s with flight:=kR s.flight (j_ s.flight [fz p]),pending:=eL s.pending (j_ s.flight [fz p])}
def yO(s:aO)(p:cf):aO:=if Am s p then o0 (m7 1 (By s p) p)else s
theorem agt(a5 bh bj bd:Int)(aZ:List Int)(aF aB aG:List aa)(bf a8 a1 bk dh:Int)(cN:List UInt8)(dc:Bool)(hc:aF.length+aB.length+aG.length≤262144)(hr:aZ.length≤8388608)(_:cN.length≤1048576):aJ 303 [.agg [.int .i64 a5,.int .i64 bh,.int .i64 bj,.int .i64 bd,.sl 1 (aZ.map aW),.sl 2 (aF.map aa.enc),.sl 2 (aB.map aa.enc),.sl 2 (aG.map aa.enc),.int .i64 bf,.int .i64 a8,.int .i64 a1,.int .i64 bk],.agg [.int .i64 dh,.str cN,.bool dc]] [.agg (aO.enc (yO (⟨a5,⟨bh,bj,bd,aZ⟩,aF,aB,aG,bf,a8,a1,bk⟩:aO) (⟨dh,cN,dc⟩:cf)))]:=by
 refine aN 68 Tryz.func303 Tryz.call303 [.cell 4 54] ?_;intro _;have ag:=WW (⟨a5,⟨bh,bj,bd,aZ⟩,aF,aB,aG,bf,a8,a1,bk⟩:aO) (⟨dh,cN,dc⟩:cf)
 cases bM:Am (⟨a5,⟨bh,bj,bd,aZ⟩,aF,aB,aG,bf,a8,a1,bk⟩:aO) (⟨dh,cN,dc⟩:cf)with
 |false=>
  rw[bM]at ag
  try simp only[go_sem]
  repeat'((first|refine ab.intro (by first|(apply pw<;>exact aP)|(apply kT<;>exact aP)) ?_|refine au.intro (by apply Dz) ?_|refine a7 ?_)<;>simp only[go_sem,I])
  rw[ag];simp only[go_sem,cc,I];simp[yO,bM]
 |true=>
  have hw:=bM;simp only[Am,bP,b2,and_assoc]at hw;have Gw:=WX hw.1;simp only at Gw;rw[bM]at ag;have aT:yO (⟨a5,⟨bh,bj,bd,aZ⟩,aF,aB,aG,bf,a8,a1,bk⟩:aO) (⟨dh,cN,dc⟩:cf)=o0 (m7 1 (By (⟨a5,⟨bh,bj,bd,aZ⟩,aF,aB,aG,bf,a8,a1,bk⟩:aO) (⟨dh,cN,dc⟩:cf)) (⟨dh,cN,dc⟩:cf)):=by unfold yO;rw[bM];rfl
  have vf:=OT aB [fz (⟨dh,cN,dc⟩:cf)] (by omega) (by simp);have ag8:=NN aB (fz (⟨dh,cN,dc⟩:cf))
  try simp only[go_sem]
  repeat'((first|refine ab.intro (by first|assumption|(apply pw<;>exact aP)|(apply kT<;>exact aP)) ?_|refine au.intro (by first|assumption|apply Dz) ?_|refine a7 ?_)<;>simp only[go_sem,I])
  rw[ag];simp only[go_sem,bS];by_cases nI:cN=[]
  ·have aX:decide (cN≠[])=false:=bo (fun h=>h nI);have b4:By (⟨a5,⟨bh,bj,bd,aZ⟩,aF,aB,aG,bf,a8,a1,bk⟩:aO) (⟨dh,cN,dc⟩:cf)=(⟨a5,⟨bh,bj,bd,aZ⟩,aF,aB,aG,bf,a8,a1,bk⟩:aO):=by unfold By;exact if_pos nI
   rw[b4]at aT;clear ag bM hw
   try simp only[go_sem,aX]
   repeat'(first|((first|refine ab.intro (by first|assumption|apply BW) ?_|refine au.intro (by assumption) ?_|refine a7 ?_|refine bt (fun h=>?_) (fun h=>?_))<;>simp only[go_sem,I])|(with_reducible refine aw ?_)|fail)
   all_goals(simp only[cw]at h;rw[aT];simp only[o0,m7,h,if_true,Bool.false_eq_true,if_false];try rfl;try simp[outOA])
  ·have aX:decide (cN≠[])=true:=bp nI;clear ag bM hw
   try simp only[go_sem,aX]
   repeat'((first|refine ab.intro (by assumption) ?_|refine au.intro (by first|assumption|apply Gu) ?_|refine ba Pc (by kernel_rfl) (by rfl) ?_)<;>simp only[go_sem,I])
   have b4:By (⟨a5,⟨bh,bj,bd,aZ⟩,aF,aB,aG,bf,a8,a1,bk⟩:aO) (⟨dh,cN,dc⟩:cf)={(⟨a5,⟨bh,bj,bd,aZ⟩,aF,aB,aG,bf,a8,a1,bk⟩:aO)with flight:=kR aB (j_ aB [fz (⟨dh,cN,dc⟩:cf)]),pending:=eL aF (j_ aB [fz (⟨dh,cN,dc⟩:cf)])}:=by unfold By;exact if_neg nI
   rw[b4]at aT;generalize hcc:j_ aB [fz (⟨dh,cN,dc⟩:cf)]=c at *;refine b7.intro (fun i:Nat=>⟨(.ak::.ak::.ptr 0 0 0::.ptr 1 0 0::.ptr 2 0 0::.ptr 7 0 0::.sl 8 0 c.length::.i i::jn 60 []),[.box [.i a5,.i bh,.i bj,.i bd,.d (.sl 1 (aZ.map aW)),.d (.sl 2 (aF.map aa.enc)),.d (.sl 2 (aB.map aa.enc)),.d (.sl 2 (aG.map aa.enc)),.i bf,.i a8,.i a1,.i bk],.box [.i dh,.d (.str cN),.d (.bool dc)],.box aO.bw,.ar 1 (aZ.map aW) true,.ar 2 ((eL aF (c.take i)).map aa.enc) true,.ar 2 ((kR aB (c.take i)).map aa.enc) true,.ar 2 (aG.map aa.enc) true,.box [.i a5,.i bh,.i bj,.i bd,.sl 3 0 aZ.length,.sl 4 0 (eL aF (c.take i)).length,.sl 5 0 (kR aB (c.take i)).length,.sl 6 0 aG.length,.i bf,.i a8,.i a1,.i bk],.ar 2 (c.map aa.enc) true]⟩)
    (fun i=>c.length-i) (fun i=>i≤c.length) 0 [0,1,2,3,4,5,6,7,9] (by omega) ?_ ?_
   ·simp only[go_sem];simp[kR,eL]
   ·intro i hi;have cd:=(I0 (c.take i) aB Gw.2.1).2.1;have hA:=pc (c.take i) aF;have cR:(c.take i).length=i:=by simp;omega
    by_cases h1:i<c.length
    ·have ax:decide ((i:Int)<(c.length:Int))=true:=bp (by omega);have aq:=b5 aa.enc c i h1;have mT:=dK (i:=i) (m:=524288) (by omega) (by simp[maxLen]);have F_:=WV aB c i h1;have nm:=Aj aF c i h1;generalize Jm:kR aB (c.take i)=jv at *;generalize DL:eL aF (c.take i)=ag9 at *;have Jv:=OR jv c[i].low c[i].high (by omega)
     try simp only[go_sem,ax]
     repeat'(first|((first|refine ab.intro (by assumption) ?_|refine au.intro (by first|assumption|(apply uX<;>exact aP)) ?_|refine ba Pd (by kernel_rfl) (by rfl) ?_)<;>simp only[go_sem,I,aC,aq,aa.enc])|(with_reducible refine aw ?_)|fail)
     refine bA.intro (i+1) [0,1,2,3,10,9,6,7,8] (by omega) (by omega) ?_;simp only[go_sem,mT,F_,nm];simp
    ·have ax:decide ((i:Int)<(c.length:Int))=false:=bo (by omega);obtain rfl:i=c.length:=by omega
     rw[d_]at cd hA
     try simp only[go_sem,ax,d_]
     repeat'(first|((first|refine ab.intro (by first|assumption|apply BW) ?_|refine au.intro (by assumption) ?_|refine a7 ?_|refine bt (fun h=>?_) (fun h=>?_))<;>simp only[go_sem,I])|(with_reducible refine aw ?_)|fail)
     all_goals(simp only[cw]at h;rw[aT];simp only[o0,m7,h,if_true,Bool.false_eq_true,if_false];try rfl;try simp[outOA])
set_option maxRecDepth 100000
def aS(c:J)(id:Int):ae:=(strOf c.streams id).1
def kh(c:J)(id:Int):Bool:=kb c&&(strOf c.streams id).2&&(aS c id).eU
theorem GR(c:J)(id:Int):(bif bif !kb c then true else !(strOf c.streams id).2 then true else !(aS c id).eU)=!kh c id:=by
 unfold kh
 cases kb c<;>cases(strOf c.streams id).2<;>cases(aS c id).eU<;>rfl
def gY(s:ae)(x:aO):ae:={s with send:=x}
def gK(c:J)(id:Int)(d:List UInt8):J:=if kh c id then {c with streams:=putS c.streams (gY (aS c id) (uh (aS c id).send d))}else c
def za(c:J)(id:Int)(d:List UInt8):Int:=if kh c id then B9 (aS c id).send d else 0
theorem P9(c:J)(id:Int)(d:List UInt8)(hz:gG c)(hd:d.length≤1048576)(hw:eO (gY (aS c id) (uh (aS c id).send d))):aJ 172 [.agg (J.enc c),.one (.int .i64 id),.one (.str d)] [.one (.int .i64 (za c id d)),.agg (J.enc ((gK c id d)))]:=by
 refine aN 50 Tryz.func172 Tryz.call172 [.tmp 6,.cell 7 37] ?_;intro ok;clear ok;have i':=iE hz;have bm:gK c id d=if kh c id then {c with streams:=putS c.streams (gY (aS c id) (uh (aS c id).send d))}else c:=rfl
 have bT:za c id d=if kh c id then B9 (aS c id).send d else 0:=rfl
 have bM:=GR c id;obtain⟨dy,dT,c2,d'⟩:=nO hz.2.1 id;have cT:=mU c id hz;rw[show(strOf c.streams id).1=aS c id from rfl]at dy dT c2 d' cT;have hK:=l3 c.streams (gY (aS c id) (uh (aS c id).send d)) (by have:=hz.1;omega) hz.2.1 hw;generalize aS c id=s at *
 try simp only[go_sem]
 repeat'((first|refine ab.af (by first|assumption|(apply gb<;>exact aP)|(apply v7<;>exact aP)) ?_|refine au.af (by assumption) ?_|refine a7 ?_)<;>simp only[go_sem,I])
 rw[bM]
 cases hg:kh c id with
 |false=>
  rw[hg]at bm bT
  try simp only[go_sem,cc]
  repeat'(first|((first|refine ab.af (by assumption) ?_|refine au.af (by assumption) ?_|refine ba [[.post,.dv,.post],[.dv,.post,.post],[.pre,.pre,.post]] (by kernel_rfl) (by rfl) ?_)<;>simp only[go_sem,I])|(with_reducible refine aw ?_)|fail)
  all_goals simp[bm,bT]
 |true=>
  rw[hg]at bm bT
  try simp only[go_sem,I,bS]
  repeat'(first|((first|refine ab.af (by first|assumption|(apply XV<;>exact aP)) ?_|refine au.af (by assumption) ?_|refine ba [[.post,.dv,.post,.post],[.dv,.post,.dv,.post],[.pre,.dv,.post,.post],[.pre,.pre,.pre,.post]] (by kernel_rfl) (by rfl) ?_)<;>simp only[go_sem,I,gY])|(with_reducible refine aw ?_)|fail)
  all_goals simp[bm,bT,gY]
def xK(c:J)(s:ae):Bool:=!s.counted&&!im c.bV s.id&&DT s
def ug(c:J)(s:ae):ae:=if xK c s then {s with counted:=true}else s
def xL(c:J)(s:ae):J:=if xK c s then(if j3 s.id then {c with ct:=po c.ct}else {c with cu:=po c.cu})else c
def eE(c:J)(s:ae):J:={xL c s with streams:=putS c.streams (ug c s)}
theorem P3(c:J)(s:ae):(bif bif s.counted then true else im c.bV s.id then true else !DT s)=!xK c s:=by
 unfold xK
 cases s.counted<;>cases im c.bV s.id<;>cases DT s<;>rfl
theorem P6{c:J}{s:ae}(h:xK c s=false):eE c s={c with streams:=putS c.streams s}:=by unfold eE xL ug;rw[h];rfl
theorem P7{c:J}{s:ae}(h:xK c s=true)(hu:j3 s.id=true):eE c s={c with ct:=po c.ct,streams:=putS c.streams {s with counted:=true}}:=by unfold eE xL ug;rw[h,hu];rfl
theorem P8{c:J}{s:ae}(h:xK c s=true)(hu:j3 s.id=false):eE c s={c with cu:=po c.cu,streams:=putS c.streams {s with counted:=true}}:=by unfold eE xL ug;rw[h,hu];rfl
set_option maxRecDepth 100000
def P1:List (List bH):=cP 22 [31381059608,31381059606,31381059600,31381059582,31381059528,31380272046,31380271560,31380270102,31380265728,31381049646,31381010280,31380892182,31380537888,31379465286,31376276640,31366710702,31338012888,31251919446,30993639120,30218798142,27894275208,20920706406]
def GU:List (List bH):=cP 10 [57956,58804,58798,58780,58726,58927,58321,56862,52488,39366]
attribute [go_sem] P1 GU
def gg(s:ae)(k:Int):ae:={s with send:=B6 s.send k,iJ:=true}
def xJ(c:J)(id k:Int):Bool:=kh c id&&uf (aS c id).send k
def kF(c:J)(id k:Int):J:=if xJ c id k then eE c (gg (aS c id) k)else c
theorem XS(c:J)(id k:Int)(hz:gG c)(hw:eO (gg (aS c id) k)):aJ 176 [.agg (J.enc c),.one (.int .i64 id),.one (.int .i64 k)] [.agg (J.enc ((kF c id k))),.one (.bool (xJ c id k))]:=by
 refine aN 50 Tryz.func176 Tryz.call176 [.cell 6 37,.tmp 7] ?_;intro ok;clear ok;have i':=iE hz;have j2:c.streams.length≤1000:=by have:=hz.1;omega
 have kj:=hz.2.1;have bm:kF c id k=if xJ c id k then eE c (gg (aS c id) k)else c:=rfl
 have bT:xJ c id k=(kh c id&&uf (aS c id).send k):=rfl;have bM:=GR c id;obtain⟨dy,dT,c2,d'⟩:=nO hz.2.1 id;have cT:=mU c id hz;rw[show(strOf c.streams id).1=aS c id from rfl]at dy dT c2 d' cT;generalize aS c id=s at *
 try simp only[go_sem]
 repeat'((first|refine ab.af (by first|assumption|(apply gb<;>exact aP)|(apply v7<;>exact aP)) ?_|refine au.af (by assumption) ?_|refine a7 ?_)<;>simp only[go_sem,I])
 rw[bM]
 cases hg:kh c id with
 |false=>
  rw[hg,Bool.false_and]at bT;rw[bT]at bm
  try simp only[go_sem,I,cc]
  repeat'(first|((first|refine ab.af (by assumption) ?_|refine au.af (by assumption) ?_)<;>simp only[go_sem,I,cc])|(with_reducible refine aw ?_)|fail)
  all_goals simp[bm,bT]
 |true=>
  rw[hg,Bool.true_and]at bT
  try simp only[go_sem,I,bS]
  repeat'((first|refine ab.af (by first|assumption|(apply P2<;>exact aP)) ?_|refine au.af (by assumption) ?_)<;>simp only[go_sem,I])
  cases hr:uf s.send k with
  |false=>
   rw[hr]at bT;rw[bT]at bm
   try simp only[go_sem,I,cc]
   repeat'(first|((first|refine ab.af (by assumption) ?_|refine au.af (by assumption) ?_)<;>simp only[go_sem,I,cc])|(with_reducible refine aw ?_)|fail)
   all_goals simp[bm,bT]
  |true=>
   rw[hr]at bT;rw[bT]at bm
   try simp only[go_sem,I,bS]
   repeat'((first|refine ab.af (by assumption) ?_|refine au.af (by assumption) ?_)<;>simp only[go_sem,I,bS])
   have B7:=P3 c (gg s k);obtain⟨B,hv⟩:∃B,xK c (gg s k)=B:=⟨_,rfl⟩;rw[hv]at B7;simp only[gg]at B7;have pk:=hw;obtain⟨gh,h3,pn,P4⟩:=hw;have pn:∀fA∈((gg s k)).recv.buffer.bO,fA.data.length≤1048576:=fun fA hc=>by have:=pn fA hc;omega
   simp only[gg]at gh h3 pn P4;have XT:=l3 (c).streams ((gg s k)) j2 kj pk;have XU:=l3 (c).streams {(gg s k)with counted:=true} j2 kj pk;refine ab.ij [6,7,8] (by simp only[keepT,List.elem_cons,List.elem_nil,Nat.reduceBEq,Nat.reduceAdd,cond_true,cond_false];rfl) (fc (n:=15) (rs:=[]) Tryz.func236 rfl Tryz.call236 b1 rfl rfl ?_);simp only[go_sem];refine ab.ij [0,3] (by simp only[keepT,List.elem_cons,List.elem_nil,Nat.reduceBEq,Nat.reduceAdd,cond_true,cond_false];rfl) (fc (n:=62) (rs:=[]) Tryz.func280 rfl Tryz.call280 b1 rfl rfl ?_);simp only[go_sem]
   try simp only[go_sem,I,gg]
   repeat'((first|refine ab.intro (by assumption) ?_|refine au.intro (by first|assumption|apply B8|(apply P5<;>exact aP)) ?_|refine e8 ?_|refine ba P1 (by kernel_rfl) (by rfl) ?_)<;>simp only[go_sem,I])
   rw[B7]
   cases B with
   |false=>
    have ag:=P6 hv;simp only[go_sem,cc]
    try simp only[go_sem,I,gg]
    repeat'(first|((first|refine ab.af (by assumption) ?_|refine au.af (by assumption) ?_|refine ba GU (by kernel_rfl) (by rfl) ?_)<;>simp only[go_sem,I,gg])|(with_reducible refine aw ?_)|fail)
    rw[ag]at bm;simp[bm,bT,gg]
   |true=>
    try simp only[go_sem,bS]
    repeat'((first|refine ab.intro (by first|assumption|apply AG) ?_|refine au.intro (by assumption) ?_)<;>simp only[go_sem])
    cases gU:j3 ((gg s k)).id with
    |true=>
     have ag:=P7 hv gU;simp only[gg]at gU
     try simp only[go_sem,gU]
     repeat'((first|refine ab.intro (by first|assumption|apply GV) ?_|refine au.intro (by assumption) ?_)<;>simp only[go_sem])
     try simp only[go_sem,I,gg]
     repeat'(first|((first|refine ab.af (by assumption) ?_|refine au.af (by assumption) ?_|refine ba GU (by kernel_rfl) (by rfl) ?_)<;>simp only[go_sem,I,gg])|(with_reducible refine aw ?_)|fail)
     rw[ag]at bm;simp[bm,bT,gg]
    |false=>
     have ag:=P8 hv gU;simp only[gg]at gU
     try simp only[go_sem,gU]
     repeat'((first|refine ab.intro (by first|assumption|apply GV) ?_|refine au.intro (by assumption) ?_)<;>simp only[go_sem])
     try simp only[go_sem,I,gg]
     repeat'(first|((first|refine ab.af (by assumption) ?_|refine au.af (by assumption) ?_|refine ba GU (by kernel_rfl) (by rfl) ?_)<;>simp only[go_sem,I,gg])|(with_reducible refine aw ?_)|fail)
     rw[ag]at bm;simp[bm,bT,gg]
set_option maxRecDepth 100000
def ou(n:Int):Int:=if n<0∨4611686018427387903<n then 0 else if n<64 then 1 else if n<16384 then 2 else if n<1073741824 then 4 else 8
theorem VW(n:Int):aJ 337 [.one (.int .i64 n)] [.one (.int .i64 (ou n))]:=by
 refine aN 19 Tryz.func337 Tryz.call337 [.tmp 2] ?_;intro _
 try simp only[go_sem]
 repeat'((first|refine a7 ?_|refine bt (fun h=>?_) (fun h=>?_))<;>simp only[go_sem])
 all_goals(simp only[b2,dN,c0,Bool.or_eq_true,Bool.or_eq_false_iff]at *;first|(exfalso;omega)|(simp[ou, *];try omega))
theorem VX(n:Int):aJ 343 [.one (.int .i64 n)] [.one (.str [uV (bitI .and .i64 n 255)])]:=by
 refine aN 6 Tryz.func343 Tryz.call343 [.tmp 2] ?_;intro _;simp only[go_sem];refine ab.intro (VY _ (D1 n)) ?_;simp only[go_sem]
def Dq(n:Int)(k i:Nat):Int:=
 let b:=bitI .and .i64 (n.fdiv (2^min (8 * i) 64)) 255
 if i+1=k then(if k=2 then bitI .or .i64 b 64 else if k=4 then bitI .or .i64 b 128 else if k=8 then bitI .or .i64 b 192 else b)else b
def xm(n:Int)(k j:Nat):List UInt8:=(List.range j).map fun x=>uV (bitI .and .i64 (Dq n k (k-1-x)) 255)
def u1(n:Int):List UInt8:=xm n (ou n).toNat (ou n).toNat
theorem age(n:Int)(k j:Nat):xm n k (j+1)=xm n k j++[uV (bitI .and .i64 (Dq n k (k-1-j)) 255)]:=by simp[xm,List.range_succ]
theorem OF(n:Int):ou n=0∨ou n=1∨ou n=2∨ou n=4∨ou n=8:=by
 unfold ou
 repeat' split
 all_goals simp
theorem VZ(n:Int):((u1 n).length:Int)=ou n:=by rcases OF n with h|h|h|h|h<;>simp[u1,xm,h]
theorem OG(n:Int):(u1 n).length≤8:=by have:=VZ n;rcases OF n with h|h|h|h|h<;>omega
theorem agf(n:Int):aJ 338 [.one (.int .i64 n)] [.one (.str (u1 n))]:=by
 refine aN 42 Tryz.func338 Tryz.call338 [.tmp 2] ?_;intro _;obtain⟨k,hk⟩:∃k:Nat,ou n=(k:Int):=⟨(u1 n).length,(VZ n).symm⟩;have hc:k=0∨k=1∨k=2∨k=4∨k=8:=by have:=OF n;omega
 have ag:u1 n=xm n k k:=by simp[u1,hk]
 have BO:IntKind.i64.wrap ((k:Int)-1)=(k:Int)-1:=by rw[bz]<;>omega
 rw[ag]
 try simp only[go_sem]
 repeat'(refine ab.intro (by apply VW) ?_<;>simp only[go_sem,hk,BO])
 refine b7.intro (fun j:Nat=>⟨(.i n::.ak::.ak::.i (k:Int)::.d (.str (xm n k j))::.i ((k:Int)-1-(j:Int))::jn 36 []),[]⟩)
   (fun j=>k-j) (fun j=>j≤k) 0 [] (by omega) ?_ ?_
 ·simp only[go_sem];simp[xm]
 ·intro j al;by_cases h1:j<k
  ·have ax:decide (0≤(k:Int)-1-(j:Int))=true:=bp (by omega);have ah:IntKind.i64.wrap (8 * ((k:Int)-1-(j:Int)))=8 * ((k:Int)-1-(j:Int)):=by rw[bz]<;>omega
   have ai:IntKind.i64.wrap ((k:Int)-1-(j:Int)-1)=(k:Int)-1-((j+1:Nat):Int):=by rw[bz]<;>omega
   have aX:(8 * ((k:Int)-1-(j:Int))).toNat=8 * (k-1-j):=by omega
   have M7:shI .shr .i64 n (8 * ((k:Int)-1-(j:Int)))=some ((0:Int)≤8 * ((k:Int)-1-(j:Int)),.i (n.fdiv (2^min (8 * (k-1-j)) 64))):=by simp only[shI];rw[aX];rfl
   have hs:=age n k j;have ao4:(xm n k j).length=j:=by simp[xm]
   simp only[go_sem,ax,ah,M7];refine⟨by omega,?_⟩;simp only[go_sem,BO];by_cases agh:j=0
   ·subst agh;have aE:decide ((k:Int)-1-((0:Nat):Int)=(k:Int)-1)=true:=bp (by omega);have mr:k-1+1=k:=by omega
    have hq:Dq n k (k-1-0)=(if k=2 then bitI .or .i64 (bitI .and .i64 (n.fdiv (2^min (8 * (k-1-0)) 64)) 255) 64 else if k=4 then bitI .or .i64 (bitI .and .i64 (n.fdiv (2^min (8 * (k-1-0)) 64)) 255) 128 else if k=8 then bitI .or .i64 (bitI .and .i64 (n.fdiv (2^min (8 * (k-1-0)) 64)) 255) 192 else bitI .and .i64 (n.fdiv (2^min (8 * (k-1-0)) 64)) 255):=by
     unfold Dq;rw[if_pos (show k-1-0+1=k by omega)]
    rw[hq]at hs
    try simp only[go_sem,aE]
    repeat'(first|((first|refine ab.intro (by apply VX) ?_|refine bt (fun h=>?_) (fun h=>?_))<;>simp only[go_sem,ai])|(with_reducible refine aw ?_)|fail)
    all_goals(simp only[b2,dN]at *;refine bA.intro 1 [] (by omega) (by omega) ?_;simp only[go_sem,hs];first|rw[if_pos (show k=2 by omega)]|rw[if_neg (show ¬k=2 by omega),if_pos (show k=4 by omega)]|rw[if_neg (show ¬k=2 by omega),if_neg (show ¬k=4 by omega),if_pos (show k=8 by omega)]|rw[if_neg (show ¬k=2 by omega),if_neg (show ¬k=4 by omega),if_neg (show ¬k=8 by omega)])
    all_goals simp
   ·have aE:decide ((k:Int)-1-(j:Int)=(k:Int)-1)=false:=bo (by omega);have hq:Dq n k (k-1-j)=bitI .and .i64 (n.fdiv (2^min (8 * (k-1-j)) 64)) 255:=by
     unfold Dq;rw[if_neg (show ¬k-1-j+1=k by omega)]
    rw[hq]at hs
    try simp only[go_sem,aE]
    repeat'(first|(refine ab.intro (by apply VX) ?_<;>simp only[go_sem,ai])|(with_reducible refine aw ?_)|fail)
    all_goals(refine bA.intro (j+1) [] (by omega) (by omega) ?_;simp only[go_sem,hs])
    all_goals simp
  ·have ax:decide (0≤(k:Int)-1-(j:Int))=false:=bo (by omega);obtain rfl:j=k:=by omega
   try simp only[go_sem,ax]
   all_goals simp
def uz(l:List Int):List UInt8:=if l.any (fun n=>decide (ou n=0))then []else l.flatMap u1
theorem Rp{α β:Type}(f:α→List β)(l:List α)(i:Nat)(h:i<l.length):(l.take (i+1)).flatMap f=(l.take i).flatMap f++f l[i]:=by
 rw[hj,b8 h,List.flatMap_append];simp
theorem Hv{α β:Type}(f:α→List β)(b:Nat):∀(l:List α),(∀x∈l,(f x).length≤b)→(l.flatMap f).length≤b * l.length
 |[],_=>by simp
 |x::l,h=>by
  have h1:=Hv f b l (fun y hy=>h y (List.mem_cons_of_mem _ hy));have h2:=h x (by simp);rw[List.flatMap_cons,eG,eW,Nat.mul_add];omega
theorem Cu(l:List Int):(uz l).length≤8 * l.length:=by
 unfold uz;split
 ·simp
 ·exact Hv u1 8 l fun n _=>OG n
theorem Rq{α:Type}(p:α→Bool)(xs:List α)(i:Nat)(h:i<xs.length)(h2:p xs[i]=true):xs.any p=true:=List.any_eq_true.2 ⟨_,eR h,h2⟩
theorem Rr{α:Type}(p:α→Bool)(xs:List α)(i:Nat)(h:i<xs.length)(h1:(xs.take i).any p=false)(h2:p xs[i]=false):(xs.take (i+1)).any p=false:=by
 rw[hj,b8 h,List.any_append,h1];simp[h2]
theorem yh(l:List Int)(hl:l.length≤100000):aJ 318 [.one (.sl 1 (l.map aW))] [.one (.str (uz l))]:=by
 refine aN 25 Tryz.func318 Tryz.call318 [.tmp 2] ?_;intro ok;have hm:=fr ok;clear ok;simp only[go_sem];refine b7.intro (fun i:Nat=>⟨(.d (.sl 1 (l.map aW))::.ak::.ak::.d (.str ((l.take i).flatMap u1))::.i i::jn 20 []),[]⟩)
   (fun i=>l.length-i) (fun i=>i≤l.length∧(l.take i).any (fun n=>decide (ou n=0))=false) 0 [] ⟨by omega,by simp⟩ ?_ ?_
 ·simp only[go_sem];simp
 ·rintro i ⟨hi,he⟩;by_cases h1:i<l.length
  ·have ax:decide ((i:Int)<(l.length:Int))=true:=bp (by omega);have aq:=b5 aW l i h1;have hw:=dK h1 hm;have hs:=Rp u1 l i h1;have hb:=Hv u1 8 (l.take i) fun n _=>OG n;have cR:(l.take i).length=i:=by simp;omega
   rw[cR]at hb;have jY:=OG l[i]
   try simp only[go_sem,I,aC,aq,aW,ax]
   repeat'(first|((first|refine ab.intro (by first|apply VW|apply agf) ?_|refine bt (fun h=>?_) (fun h=>?_))<;>simp only[go_sem,I,aC,aq,aW])|(with_reducible refine aw ?_)|fail)
   ·have:=Rq (fun n=>decide (ou n=0)) l i h1 h;simp[uz,this]
   ·refine bA.intro (i+1) [] ⟨by omega,Rr _ l i h1 he h⟩ (by omega) ?_;simp only[go_sem,hw,hs];try simp
  ·have ax:decide ((i:Int)<(l.length:Int))=false:=bo (by omega);obtain rfl:i=l.length:=by omega
   rw[d_]at *
   try simp only[go_sem,I,ax]
   all_goals simp[uz,he]
set_option maxRecDepth 100000
def Rl:List (List bH):=cP 12 [504833,504844,504838,505183,505129,504967,504468,503010,528160,515038,472392,354294]
def Rm:List (List bH):=cP 15 [13630481,13630479,13630513,13630495,13630801,13630639,13639954,13638496,13634122,13620636,13581270,14260333,13906039,12754584,9565938]
attribute [go_sem] Rl Rm
def Hu(f:ao):List UInt8:=
 if f.kind=4 then uz [4,f.stream,f.code,f.bn]
 else if f.kind=5 then uz [5,f.stream,f.code]
 else if f.kind=8 then
  (if f.offset=0 then uz [if f.a2 then 11 else 10,f.stream,(f.data.length:Int)]++f.data else uz [if f.a2 then 15 else 14,f.stream,f.offset,(f.data.length:Int)]++f.data)
 else if f.kind=16∨f.kind=20 then uz [f.kind,f.aR]
 else if f.kind=17∨f.kind=21 then uz [f.kind,f.stream,f.aR]
 else uz [if f.ey then IntKind.i64.wrap (f.kind+1)else f.kind,f.aR]
def hG(f:ao):List UInt8:=if fM f then Hu f else []
theorem ZD{f:ao}(h:fM f=true):f.data.length≤400:=by
 simp only[fM,A2,bP,Bool.not_eq_true',dN]at h;omega
theorem Lr(f:ao):(hG f).length≤500:=by
 unfold hG;split
 ·rename_i h;have hd:=ZD h;unfold Hu
  repeat' split
  all_goals(try rw[eG])
  all_goals(first|exact Nat.le_trans (Cu _) (by simp)|exact Nat.le_trans (Nat.add_le_add (Cu _) (Nat.le_refl _)) (by simp;omega))
 ·simp
theorem Rn(eu eH fh:Int)(eI:List UInt8)(fH:Bool)(fI fx fQ:Int)(fV:Bool)(hd:eI.length≤1048576):aJ 287 [.agg [.int .i64 eu,.int .i64 eH,.int .i64 fh,.str eI,.bool fH,.int .i64 fI,.int .i64 fx,.int .i64 fQ,.bool fV]] [.one (.str (hG (⟨eu,eH,fh,eI,fH,fI,fx,fQ,fV⟩:ao)))]:=by
 refine aN 93 Tryz.func287 Tryz.call287 [.tmp 2] ?_;intro _
 cases cd:fM (⟨eu,eH,fh,eI,fH,fI,fx,fQ,fV⟩:ao)with
 |false=>
  try simp only[go_sem]
  repeat'(refine ab.intro (by apply AN) ?_<;>simp only[go_sem,cd])
  all_goals simp[hG,cd]
 |true=>
  have ag:hG (⟨eu,eH,fh,eI,fH,fI,fx,fQ,fV⟩:ao)=Hu (⟨eu,eH,fh,eI,fH,fI,fx,fQ,fV⟩:ao):=by unfold hG;rw[cd];rfl
  rw[ag];have gl:=Cu [10,eH,(eI.length:Int)];have gW:=Cu [11,eH,(eI.length:Int)];have oN:=Cu [14,eH,fh,(eI.length:Int)];have Eo:=Cu [15,eH,fh,(eI.length:Int)];simp only[eW,ft]at gl gW oN Eo;have cQ:=yh [4,eH,fI,fQ] (by simp);have bb:=yh [5,eH,fI] (by simp);have bD:=yh [10,eH,(eI.length:Int)] (by simp);have bR:=yh [11,eH,(eI.length:Int)] (by simp);have bJ:=yh [14,eH,fh,(eI.length:Int)] (by simp);have ch:=yh [15,eH,fh,(eI.length:Int)] (by simp);have cZ:=yh [eu,fx] (by simp);have dq:=yh [eu,eH,fx] (by simp);have Ro:=yh [IntKind.i64.wrap (eu+1),fx] (by simp);simp only[List.map_cons,List.map_nil,aW]at cQ bb bD bR bJ ch cZ dq Ro;have gh:IntKind.i64.wrap (10+1)=11:=by decide
  have h3:IntKind.i64.wrap (10+4)=14:=by decide
  have pn:IntKind.i64.wrap (11+4)=15:=by decide
  try simp only[go_sem]
  repeat'(first|((first|refine ab.intro (by first|assumption|apply AN) ?_|refine au.intro (by assumption) ?_|refine ba Rl (by kernel_rfl) (by rfl) ?_|refine ba Rm (by kernel_rfl) (by rfl) ?_|refine bt (fun h=>?_) (fun h=>?_))<;>simp only[go_sem,cd,gh,h3,pn])|(with_reducible refine aw ?_)|fail)
  all_goals(clear ag cd cQ bb bD bR bJ ch cZ dq Ro gl gW oN Eo gh h3 pn;simp only[b2,dN]at *;first|(exfalso;omega)|(simp[Hu, *];done))
theorem Lm(eu eH fh:Int)(eI:List UInt8)(fH:Bool)(fI fx fQ:Int)(fV:Bool)(hd:eI.length≤1048576):aJ 240 [.agg [.int .i64 eu,.int .i64 eH,.int .i64 fh,.str eI,.bool fH,.int .i64 fI,.int .i64 fx,.int .i64 fQ,.bool fV]] [.one (.int .i64 (((hG (⟨eu,eH,fh,eI,fH,fI,fx,fQ,fV⟩:ao)).length:Int)))]:=by
 refine aN 6 Tryz.func240 Tryz.call240 [.tmp 2] ?_;intro _;have:=Lr (⟨eu,eH,fh,eI,fH,fI,fx,fQ,fV⟩:ao)
 try simp only[go_sem]
 repeat'(refine ab.intro (by(apply Rn<;>exact aP)) ?_<;>simp only[go_sem])
 all_goals simp
def zr(l:List ao):List UInt8:=if l.any (fun f=>decide (hG f=[]))then []else if 400<(l.flatMap hG).length then []else l.flatMap hG
theorem Zd(l:List ao)(hl:l.length≤10000)(hd:∀f∈l,f.data.length≤1048576):aJ 243 [.one (.sl 9 (l.map ao.enc))] [.one (.str (zr l))]:=by
 refine aN 26 Tryz.func243 Tryz.call243 [.tmp 2] ?_;intro ok;have hm:=fr ok;clear ok;simp only[go_sem];refine b7.intro (fun i:Nat=>⟨(.d (.sl 9 (l.map ao.enc))::.ak::.ak::.d (.str ((l.take i).flatMap hG))::.i i::jn 21 []),[]⟩)
   (fun i=>l.length-i) (fun i=>i≤l.length∧(l.take i).any (fun f=>decide (hG f=[]))=false) 0 [] ⟨by omega,by simp⟩ ?_ ?_
 ·simp only[go_sem];simp
 ·rintro i ⟨hi,he⟩;have hb:=Hv hG 500 (l.take i) fun n _=>Lr n;have cR:(l.take i).length=i:=by simp;omega
  rw[cR]at hb;by_cases h1:i<l.length
  ·have ax:decide ((i:Int)<(l.length:Int))=true:=bp (by omega);have aq:=b5 ao.enc l i h1;have hw:=dK h1 hm;have hs:=Rp hG l i h1;have jY:=Lr l[i];have cd:=Rn l[i].kind l[i].stream l[i].offset l[i].data l[i].a2 l[i].code l[i].aR l[i].bn l[i].ey (hd _ (eR h1));change PureCall _ _ _ [.one (.str (hG l[i]))]at cd
   try simp only[go_sem,I,aC,aq,ao.enc,ax]
   repeat'(first|((first|refine ab.intro (by assumption) ?_|refine au.intro (by assumption) ?_|refine bt (fun h=>?_) (fun h=>?_))<;>simp only[go_sem])|(with_reducible refine aw ?_)|fail)
   ·have:=Rq (fun f=>decide (hG f=[])) l i h1 h;simp[zr,this]
   ·refine bA.intro (i+1) [] ⟨by omega,Rr _ l i h1 he h⟩ (by omega) ?_;simp only[go_sem,hw,hs];try simp
  ·have ax:decide ((i:Int)<(l.length:Int))=false:=bo (by omega);obtain rfl:i=l.length:=by omega
   rw[d_]at *
   try simp only[go_sem,I,ax]
   repeat'(refine bt (fun h=>?_) (fun h=>?_)<;>simp only[go_sem])
   ·have h0:=cO h;have:zr l=[]:=by unfold zr;rw[he];exact(if_neg (by simp)).trans (if_pos (by omega))
    simp[this]
   ·have h0:=c9 h;have:zr l=l.flatMap hG:=by unfold zr;rw[he];exact(if_neg (by simp)).trans (if_neg (by omega))
    simp[this]
set_option maxRecDepth 100000
def OZ:List (List bH):=cP 34 [16677181699666565,16677181699666567,16677181699666560,16677181699666542,16677181699666488,16677181699666326,16677181699665840,16677181699664382,16677181699640325,16677181699653447,16677181699607520,16677181699489422,16677181699135128,16677181698072246,16677181694883600,16677181685317662,16677181656619848,16677181570526406,16677181312246080,16677180537405102,16368754698691713,16368761672260515,16368737264769708,16368674502650490,16368486216292836,16666588848656331,16675909023360204,16670825291703546,16654726808124129,16608973223214207,16471712468484441,16059508303382622,14824161510814728,11118121133111046]
def Jz:List (List bH):=cP 19 [1162251662,1162251664,1162251657,1162251639,1162261183,1162261345,1162260778,1162259320,1162254946,1162241784,1162202418,1161552879,1161907173,1160667144,1157478498,1147912560,1119214746,1033121304,774840978]
def O0:List (List bH):=cP 10 [49244,49246,49239,49221,58765,58927,58360,56902,52528,39366]
attribute [go_sem] OZ Jz O0
theorem Jp{α β:Type}(f:β→α→β)(b:β)(l:List α)(i:Nat)(h:i<l.length):(l.take (i+1)).foldl f b=f ((l.take i).foldl f b) l[i]:=by
 rw[hj,b8 h,List.foldl_append];rfl
def xv(l:List dD)(i:Nat):Bool:=ze (fun c=>c.id) (fun c=>bN c.id&&mO c.priority) l i
def BU(l:List dD):Bool:=kd (xv l) l.length
theorem agG(l:List dD)(h:0<l.length):xv l 0=(bN l[0].id&&mO l[0].priority):=y2 _ _ _ h
theorem agH(l:List dD)(j:Nat)(h:j+1<l.length):xv l (j+1)=(bN l[j+1].id&&mO l[j+1].priority&&decide (l[j].id<l[j+1].id)):=xB _ _ _ _ h
theorem WJ(l:List dD):aJ 339 [.one (.sl 3 (l.map dD.enc))] [.one (.bool (BU l))]:=by
 refine aN 44 Tryz.func339 Tryz.call339 [.tmp 2] ?_;intro ok;have hm:=fr ok;clear ok;simp only[go_sem];refine b7.intro (fun i:Nat=>⟨(.d (.sl 3 (l.map dD.enc))::.ak::.ak::.i i::jn 40 []),[]⟩)
  (fun i=>l.length-i) (fun i=>i≤l.length∧kd (xv l) i=true) 0 [] ⟨by omega,by simp[kd]⟩ ?_ ?_
 ·simp only[go_sem];simp
 ·rintro i ⟨hi,he⟩;by_cases h1:i<l.length
  ·have ax:decide ((i:Int)<(l.length:Int))=true:=bp (by omega);have aq:=b5 dD.enc l i h1;have hw:=dK h1 hm;have hs:=DH (xv l) i;have hf:=fun h=>GG (xv l) (n:=l.length) h1 h
   cases i with
   |zero=>
    have hb:=agG l h1;have h2:decide ((0:Int)<((0:Nat):Int))=false:=by decide
    try simp only[go_sem,I,ax]
    repeat'(first|((first|refine au.intro (by first|apply h9|apply FX) ?_|with_reducible refine j1 ?_|refine e8 ?_|refine ba OZ (by kernel_rfl) (by rfl) ?_|refine bt (fun h=>?_) (fun h=>?_))<;>simp only[go_sem,I,aC,aq,dD.enc,h2])|(with_reducible refine aw ?_)|fail)
    ·have e:xv l 0=false:=by rw[hb];revert h;cases bN l[0].id<;>cases mO l[0].priority<;>simp
     simp[BU,hf e]
    ·have e:xv l 0=true:=by rw[hb];revert h;cases bN l[0].id<;>cases mO l[0].priority<;>simp
     refine bA.intro 1 [] ⟨by omega,by rw[hs,he,e];rfl⟩ (by omega) ?_;simp only[go_sem,hw];try simp
   |succ j=>
    have hb:=agH l j h1;have gT:=b5 dD.enc l j (by omega);have h2:decide ((0:Int)<((j+1:Nat):Int))=true:=bp (by omega);have hp:IntKind.i64.wrap (((j+1:Nat):Int)-1)=(j:Int):=by simp only[maxLen]at hm;rw[bz]<;>omega
    try simp only[go_sem,I,ax]
    repeat'(first|((first|refine au.intro (by first|apply h9|apply FX) ?_|refine e8 ?_|refine ba OZ (by kernel_rfl) (by rfl) ?_|refine bt (fun h=>?_) (fun h=>?_))<;>simp only[go_sem,I,aC,aq,gT,dD.enc,h2,hp])|(with_reducible refine aw ?_)|fail)
    ·have e:xv l (j+1)=false:=by rw[hb];revert h;cases bN l[j+1].id<;>cases mO l[j+1].priority<;>simp
     simp[BU,hf e]
    ·have e:xv l (j+1)=true:=by rw[hb];revert h;cases bN l[j+1].id<;>cases mO l[j+1].priority<;>simp
     refine bA.intro (j+1+1) [] ⟨by omega,by rw[hs,he,e];rfl⟩ (by omega) ?_;simp only[go_sem,hw];try simp
  ·have ax:decide ((i:Int)<(l.length:Int))=false:=bo (by omega);obtain rfl:i=l.length:=by omega
   simp only[go_sem,I,ax];simp[BU,he]
def aftL(l:List Int)(fq:Int):Int:=match l.find? (fun x=>decide (fq<x))with|some x=>x|none=>(match l with|[]=>-1|x::_=>x)
theorem agI(l:List Int)(fq:Int):aJ 320 [.one (.sl 1 (l.map aW)),.one (.int .i64 fq)] [.one (.int .i64 (aftL l fq))]:=by
 refine aN 28 Tryz.func320 Tryz.call320 [.tmp 4] ?_;intro ok;have hm:=fr ok;clear ok;simp only[go_sem];refine b7.intro (fun i:Nat=>⟨(.d (.sl 1 (l.map aW))::.i fq::jn 3 (.i i::jn 22 [])),[]⟩)
  (fun i=>l.length-i) (fun i=>i≤l.length∧(l.take i).any (fun x=>decide (fq<x))=false) 0 [] ⟨by omega,by simp⟩ ?_ ?_
 ·simp only[go_sem];simp
 ·rintro i ⟨hi,he⟩;by_cases h1:i<l.length
  ·have ax:decide ((i:Int)<(l.length:Int))=true:=bp (by omega);have aq:=b5 aW l i h1;have hw:=dK h1 hm
   try simp only[go_sem,I,aC,aq,aW,ax]
   repeat'(first|(refine bt (fun h=>?_) (fun h=>?_)<;>simp only[go_sem,I,aC,aq,aW])|(with_reducible refine aw ?_)|fail)
   ·have:=GA (fun x=>decide (fq<x)) l i h1 he h;simp[aftL,this]
   ·refine bA.intro (i+1) [] ⟨by omega,As _ l i h1 he h⟩ (by omega) ?_;simp only[go_sem,hw];try simp
  ·have ax:decide ((i:Int)<(l.length:Int))=false:=bo (by omega);obtain rfl:i=l.length:=by omega
   rw[d_]at he;have hn:=JV _ l he
   cases l with
   |nil=>
    try simp only[go_sem]
    repeat'(refine bt (fun h=>?_) (fun h=>?_)<;>simp only[go_sem])
    all_goals first|(exfalso;simp at h;done)|simp[aftL]
   |cons x r=>
    have h2:decide (((r.length+1:Nat):Int)=0)=false:=bo (by omega)
    try simp only[go_sem,I,eW,List.map_cons,aW]
    repeat'(first|(refine bt (fun h=>?_) (fun h=>?_)<;>simp only[go_sem,I,eW,List.map_cons,h2])|(with_reducible refine aw ?_)|fail)
    all_goals first|(exfalso;simp at h;done)|(simp[aftL,hn])
def u4(s:Int×List Int)(c:dD):Int×List Int:=
 if c.priority.iw<s.1 then(c.priority.iw,[c.id])else if c.priority.iw=s.1 then(s.1,s.2++[c.id])else s
def u5(l:List dD):Int×List Int:=l.foldl u4 (8,[])
def xg(l:List dD):List Int:=if BU l then(u5 l).2 else []
theorem O1:∀(l:List dD) (s:Int×List Int),(l.foldl u4 s).2.length≤s.2.length+l.length
 |[],s=>by simp
 |c::l,s=>by
  have:=O1 l (u4 s c);rw[List.foldl_cons,eW];have:(u4 s c).2.length≤s.2.length+1:=by
   unfold u4;split
   ·simp
   ·split<;>simp
  omega
theorem agJ(l:List dD)(hl:l.length≤1048576):aJ 319 [.one (.sl 3 (l.map dD.enc))] [.one (.sl 1 ((xg l).map aW))]:=by
 refine aN 49 Tryz.func319 Tryz.call319 [.tmp 2] ?_;intro ok;have hm:=fr ok;clear ok;have ag:xg l=if BU l then(u5 l).2 else []:=rfl
 simp only[go_sem]
 cases hA:BU l with
 |false=>
  rw[hA]at ag;refine b7.intro (fun i:Nat=>⟨(.d (.sl 3 (l.map dD.enc))::.ak::.ak::.sl 0 0 0::.i 8::.i i::jn 43 []),[.ar 1 [] true]⟩)
   (fun i=>0) (fun i=>i=0) 0 [0] rfl ?_ ?_
  ·simp only[go_sem];simp
  ·rintro i rfl
   try simp only[go_sem,I]
   repeat'(first|((first|refine au.intro (by apply WJ) ?_|refine a7 ?_)<;>simp only[go_sem,hA,Bool.cond_self])|(with_reducible refine aw ?_)|fail)
   all_goals simp[ag]
 |true=>
  rw[hA]at ag;refine b7.intro (fun i:Nat=>⟨(.d (.sl 3 (l.map dD.enc))::.ak::.ak::.sl 0 0 (u5 (l.take i)).2.length::.d (.int .i64 (u5 (l.take i)).1)::.i i::jn 43 []),[.ar 1 ((u5 (l.take i)).2.map aW) true]⟩)
   (fun i=>l.length-i) (fun i=>i≤l.length) 0 [0] (by omega) ?_ ?_
  ·simp only[go_sem];simp[u5]
  ·intro i hi;by_cases h1:i<l.length
   ·have ax:decide ((i:Int)<(l.length:Int))=true:=bp (by omega);have aq:=b5 dD.enc l i h1;have hw:=dK h1 hm;have hs:u5 (l.take (i+1))=u4 (u5 (l.take i)) l[i]:=Jp _ _ _ _ h1;have mi:(u5 (l.take i)).2.length≤i:=by
     have:=O1 (l.take i) (8,[]);have cR:(l.take i).length=i:=by simp;omega
     simp only[ft]at this;unfold u5;omega
    generalize u5 (l.take i)=q at *;obtain⟨Gh,out⟩:=q;simp only at mi
    try simp only[go_sem,I,ax]
    repeat'(first|((first|refine ab.intro (by apply WJ) ?_|with_reducible refine du ?_|refine bt (fun h=>?_) (fun h=>?_))<;>simp only[go_sem,I,aC,aq,dD.enc,hA])|(with_reducible refine aw ?_)|fail)
    ·have h0:=cO h;have hs':u4 (Gh,out) l[i]=(l[i].priority.iw,[l[i].id]):=by unfold u4;exact if_pos h0
     refine bA.intro (i+1) [3] (by omega) (by omega) ?_;simp only[go_sem,hw,hs,hs'];simp[aW]
    ·rename_i aj;have h0:=c9 aj;have aE:=cO h;have hs':u4 (Gh,out) l[i]=(Gh,out++[l[i].id]):=by unfold u4;exact(if_neg h0).trans (if_pos aE)
     refine bA.intro (i+1) [2] (by omega) (by omega) ?_;simp only[go_sem,hw,hs,hs'];simp[aW]
    ·rename_i aj;have h0:=c9 aj;have aE:=c9 h;have hs':u4 (Gh,out) l[i]=(Gh,out):=by unfold u4;exact(if_neg h0).trans (if_neg aE)
     refine bA.intro (i+1) [0] (by omega) (by omega) ?_;simp only[go_sem,hw,hs,hs'];simp
   ·have ax:decide ((i:Int)<(l.length:Int))=false:=bo (by omega);obtain rfl:i=l.length:=by omega
    rw[d_]
    try simp only[go_sem,I,ax]
    repeat'(first|(with_reducible refine e5 ?_<;>simp only[go_sem,I])|(with_reducible refine aw ?_)|fail)
    all_goals simp[ag]
def my(l:List dD)(id:Int):List dD:=l.filter fun c=>decide (c.id≠id)
theorem Zi(l:List dD)(id:Int)(hl:l.length≤1048576):aJ 291 [.one (.sl 3 (l.map dD.enc)),.one (.int .i64 id)] [.one (.sl 3 ((my l id).map dD.enc))]:=by
 refine aN 29 Tryz.func291 Tryz.call291 [.tmp 4] ?_;intro ok;have hm:=fr ok;clear ok;simp only[go_sem];refine b7.intro (fun i:Nat=>⟨(.d (.sl 3 (l.map dD.enc))::.i id::jn 3 (.sl 0 0 (my (l.take i) id).length::.i i::jn 22 [])),[.ar 3 ((my (l.take i) id).map dD.enc) true]⟩)
  (fun i=>l.length-i) (fun i=>i≤l.length) 0 [0] (by omega) ?_ ?_
 ·simp only[go_sem];simp[my]
 ·intro i hi;by_cases h1:i<l.length
  ·have ax:decide ((i:Int)<(l.length:Int))=true:=bp (by omega);have aq:=b5 dD.enc l i h1;have hw:=dK h1 hm;have hs:my (l.take (i+1)) id=my (l.take i) id++(if decide (l[i].id≠id)then [l[i]]else []):=by
    unfold my;rw[hj,b8 h1,List.filter_append];simp[List.filter_cons]
   have mi:(my (l.take i) id).length≤i:=Nat.le_trans (List.length_filter_le _ _) (by simp;omega);generalize my (l.take i) id=q at *
   try simp only[go_sem,I,aC,aq,dD.enc,ax]
   repeat'(first|(refine bt (fun h=>?_) (fun h=>?_)<;>simp only[go_sem,I,aC,aq,dD.enc])|(with_reducible refine aw ?_)|fail)
   ·rw[h,if_pos rfl]at hs;refine bA.intro (i+1) [2] (by omega) (by omega) ?_;simp only[go_sem,hw,hs];simp[dD.enc]
   ·rw[h,if_neg (by simp)]at hs;refine bA.intro (i+1) [0] (by omega) (by omega) ?_;simp only[go_sem,hw,hs];simp
  ·have ax:decide ((i:Int)<(l.length:Int))=false:=bo (by omega);obtain rfl:i=l.length:=by omega
   rw[d_]
   try simp only[go_sem,I,ax]
   all_goals simp
def xw(m:List Int)(c:dD):Bool:=!c.priority.hR&&m.any (fun x=>decide (x=c.id))
def o3(m:List Int)(l:List dD):List Int:=l.flatMap fun c=>m.filter (fun x=>decide (x=c.id))
theorem agK(m:List Int)(c:dD):xw m c=true↔c.priority.hR=false∧∃x∈m,x=c.id:=by simp[xw]
theorem WK(m:List Int):∀l:List dD,(o3 m l).length≤m.length * l.length
 |[]=>by simp[o3]
 |c::l=>by
  have h1:=WK m l;have h2:=List.length_filter_le (fun x=>decide (x=c.id)) m;unfold o3 at h1⊢;rw[List.flatMap_cons,eG,eW,Nat.mul_add];omega
def nextS(l:List dD)(fq:Int):Int:=match l.find? (xw (xg l))with|some c=>c.id|none=>aftL (o3 (xg l) l) fq
theorem agL(l:List dD):(xg l).length≤l.length:=by
 unfold xg;split
 ·have:=O1 l (8,[]);simpa [u5]using this
 ·simp
theorem Zk(l:List dD)(fq:Int)(hl:l.length≤1000):aJ 292 [.one (.sl 3 (l.map dD.enc)),.one (.int .i64 fq)] [.one (.int .i64 (nextS l fq))]:=by
 refine aN 69 Tryz.func292 Tryz.call292 [.tmp 4] ?_;intro ok;have hm:=fr ok;clear ok;have ag:nextS l fq=match l.find? (xw (xg l))with|some c=>c.id|none=>aftL (o3 (xg l) l) fq:=rfl
 have TF:=agL l;simp only[go_sem];refine ab.intro (agJ l (by omega)) ?_;generalize xg l=m at *;simp only[go_sem,I];refine b7.intro (fun i:Nat=>⟨(.d (.sl 3 (l.map dD.enc))::.i fq::jn 3 (.sl 0 0 m.length::.sl 1 0 (o3 m (l.take i)).length::.i i::jn 61 [])),[.ar 1 (m.map aW) true,.ar 1 ((o3 m (l.take i)).map aW) true]⟩)
  (fun i=>l.length-i) (fun i=>i≤l.length∧(l.take i).any (xw m)=false) 0 [0,1] ⟨by omega,by simp⟩ ?_ ?_
 ·simp only[go_sem];simp[o3]
 ·rintro i ⟨hi,he⟩;have cR:(l.take i).length=i:=by simp;omega
  have xG:=WK m (l.take i);have apb:m.length * (l.take i).length≤1000 * 1000:=Nat.mul_le_mul (by omega) (by omega);by_cases h1:i<l.length
  ·have ax:decide ((i:Int)<(l.length:Int))=true:=bp (by omega);have aq:=b5 dD.enc l i h1;have hw:=dK h1 hm;have hs:o3 m (l.take (i+1))=o3 m (l.take i)++m.filter (fun x=>decide (x=l[i].id)):=by
    unfold o3;rw[hj,b8 h1,List.flatMap_append];simp
   generalize o3 m (l.take i)=O2 at *;simp only[go_sem,I,ax];refine b7.intro (fun k:Nat=>⟨(.d (.sl 3 (l.map dD.enc))::.i fq::jn 3 (.sl 0 0 m.length::.sl 1 0 (O2++(m.take k).filter (fun x=>decide (x=l[i].id))).length::.i i::.i k::jn 60 [])),[.ar 1 (m.map aW) true,.ar 1 ((O2++(m.take k).filter (fun x=>decide (x=l[i].id))).map aW) true]⟩)
    (fun k=>m.length-k) (fun k=>k≤m.length∧(l[i].priority.hR=false→(m.take k).any (fun x=>decide (x=l[i].id))=false)) 0 [0,1] ⟨by omega,by simp⟩ ?_ ?_
   ·simp only[go_sem];simp
   ·rintro k ⟨hk,Da⟩;have hY:=List.length_filter_le (fun x=>decide (x=l[i].id)) (m.take k);have apc:(m.take k).length=k:=by simp;omega
    by_cases h2:k<m.length
    ·have hF:decide ((k:Int)<(m.length:Int))=true:=bp (by omega);have vv:=b5 aW m k h2;have xE:IntKind.i64.wrap ((k:Int)+1)=((k+1:Nat):Int):=by rw[bz]<;>omega
     have e3:(m.take (k+1)).filter (fun x=>decide (x=l[i].id))=(m.take k).filter (fun x=>decide (x=l[i].id))++(if decide (m[k]=l[i].id)then [m[k]]else []):=by
      rw[hj,b8 h2,List.filter_append];simp[List.filter_cons]
     generalize wi:(m.take k).filter (fun x=>decide (x=l[i].id))=agM at *;have ff:(O2++agM).length≤1002000:=by rw[eG];omega
     cases hd:decide (m[k]=l[i].id)with
     |true=>
      rw[hd,if_pos rfl]at e3;have hx:=cO hd
      cases yX:l[i].priority.hR with
      |false=>
       have hh:xw m l[i]=true:=(agK _ _).2 ⟨yX,_,eR h2,hx⟩;have hf:=GA (xw m) l i h1 he hh
       try simp only[go_sem,hF]
       repeat'(first|((first|with_reducible refine kf ?_|refine ba Jz (by kernel_rfl) (by rfl) ?_)<;>simp only[go_sem,I,aC,aq,vv,dD.enc,aW,hd,yX])|(with_reducible refine aw ?_)|fail)
       all_goals simp[ag,hf]
      |true=>
       try simp only[go_sem,hF]
       repeat'(first|((first|with_reducible refine kf ?_|refine ba Jz (by kernel_rfl) (by rfl) ?_|refine ba O0 (by kernel_rfl) (by rfl) ?_)<;>simp only[go_sem,I,aC,aq,vv,dD.enc,aW,hd,yX])|(with_reducible refine aw ?_)|fail)
       all_goals first|omega|(refine bA.intro (k+1) [0,3] (by first|omega|exact⟨by omega,fun h=>by rw[yX]at h;cases h⟩) (by omega) ?_;simp only[go_sem,xE,e3];simp[aW,hx];try omega)
     |false=>
      rw[hd,if_neg (by simp)]at e3
      try simp only[go_sem,hF]
      repeat'(first|((first|with_reducible refine j1 ?_|refine ba Jz (by kernel_rfl) (by rfl) ?_|refine ba O0 (by kernel_rfl) (by rfl) ?_)<;>simp only[go_sem,I,aC,aq,vv,dD.enc,aW,hd,Bool.cond_self])|(with_reducible refine aw ?_)|fail)
      all_goals(refine bA.intro (k+1) [0,1] ⟨by omega,fun h=>As _ m k h2 (Da h) hd⟩ (by omega) ?_;simp only[go_sem,xE,e3];simp)
    ·have hF:decide ((k:Int)<(m.length:Int))=false:=bo (by omega);obtain rfl:k=m.length:=by omega
     rw[d_]at *;simp only[go_sem,I,hF,hw];have hh:xw m l[i]=false:=by
      cases yX:l[i].priority.hR with
      |true=>simp[xw,yX]
      |false=>simp only[xw,Da yX];simp
     refine bA.intro (i+1) [0,1] ⟨by omega,As _ l i h1 he hh⟩ (by omega) ?_;simp only[go_sem,hs];simp
  ·have ax:decide ((i:Int)<(l.length:Int))=false:=bo (by omega);obtain rfl:i=l.length:=by omega
   rw[d_]at *;have hf:=JV _ l he;rw[hf]at ag
   try simp only[go_sem,I,ax]
   repeat'(refine ab.intro (by apply agI) ?_<;>simp only[go_sem])
   all_goals simp[ag]
def mK(E:Int)(xs:List aa):Prop:=cX xs=true∧∀x∈xs,x.high≤E
theorem yN(E:Int):mK E []:=⟨by simp[cX],by simp⟩
theorem IZ{E F:Int}{xs:List aa}(h:E≤F)(hx:mK E xs):mK F xs:=⟨hx.1,fun x hm=>by have:=hx.2 x hm;omega⟩
theorem NK{E:Int}{xs:List aa}{r:aa}(hx:mK E xs)(hr:dj r=true)(hh:r.high≤E):mK E (gv xs r):=by
 refine⟨NL hx.1 hr,?_⟩;refine NB (fun x=>x.high≤E) xs r hh hx.2 ?_;intro a b ha hb _ _;simp only[eb]at *;split<;>omega
theorem adS{E:Int}{xs:List aa}{r:aa}(hx:mK E xs):mK E (n4 xs r):=by
 obtain⟨h1,_,aj⟩:=Uz (r:=r) hx.1;refine⟨h1,fun y hy=>?_⟩;obtain⟨x,hm,aE⟩:=aj y hy;have:=hx.2 x hm;omega
theorem UA{E:Int}{jv c:List aa}(hx:mK E jv):mK E (kR jv c):=by
 obtain⟨h1,_,aj⟩:=I0 c jv hx.1;refine⟨h1,fun y hy=>?_⟩;obtain⟨x,hm,aE⟩:=aj y hy;have:=hx.2 x hm;omega
theorem NM{E:Int}:∀(ys xs:List aa),mK E xs→(∀y∈ys,dj y=true∧y.high≤E)→mK E (eL xs ys)
 |[],xs,h,_=>h
 |y::ys,xs,h,hy=>NM ys (gv xs y) (NK h (hy y (by simp)).1 (hy y (by simp)).2) fun z hz=>hy z (by simp[hz])
theorem UB{E:Int}{xs:List aa}{r:aa}(hx:mK E xs):∀y∈j_ xs [r],dj y=true∧y.high≤E:=by
 intro y hy;obtain⟨h1,x,hm,h2⟩:=(NN xs r).2 y hy;have:=hx.2 x hm;exact⟨h1,by omega⟩
theorem UC:∀(xs:List aa) (ca E:Int),(∀x∈xs,dj x=true∧ca≤x.low∧x.high≤E)→xs.Pairwise (fun a b=>a.high<b.low)→ca≤E→(xs.length:Int)≤E-ca
 |[],ca,E,_,_,h=>by simp;omega
 |x::xs,ca,E,hx,hp,h=>by
  obtain⟨h1,h2,aj⟩:=hx x (by simp);have aE:=(hU _).1 h1;rw[List.pairwise_cons]at hp;have:=UC xs x.high E (fun y hy=>⟨(hx y (by simp[hy])).1,by have:=hp.1 y hy;omega,(hx y (by simp[hy])).2.2⟩) hp.2 aj;rw[eW];omega
theorem NO{E:Int}{xs:List aa}(h:mK E xs)(ag:0≤E):(xs.length:Int)≤E:=by
 have h1:=(kx xs).1 h.1;have:=UC xs 0 E (fun x hx=>⟨h1.1 x hx,((hU _).1 (h1.1 x hx)).1,h.2 x hx⟩) h1.2 ag;omega
structure g'(E:Int)(s:aO):Prop where
 p:mK s.ring.cv s.pending
 f:mK s.ring.cv s.flight
 a:mK s.ring.cv s.cG
 dR:0≤s.ring.cv
 ah:s.ring.cv≤E
 c:s.ring.cells.length≤64
theorem g'.mono{E F:Int}{s:aO}(h:g' E s)(ag:E≤F):g' F s:=⟨h.p,h.f,h.a,h.dR,by have:=h.ah;omega,h.c⟩
theorem g'.UD{E:Int}{s:aO}(h:g' E s):AM s:=by
 intro r hr;rcases hr with hr|hr|hr
 ·exact h.p.2 r hr
 ·exact h.f.2 r hr
 ·exact h.a.2 r hr
theorem g'.size{E:Int}{s:aO}(h:g' E s):((s.pending.length+s.flight.length+s.cG.length:Nat):Int)≤3 * E:=by
 have h1:=NO h.p h.dR;have h2:=NO h.f h.dR;have aj:=NO h.a h.dR;have:=h.ah;omega
theorem UE{E:Int}(ag:0≤E)(v w c:Int):g' E ⟨0,⟨0,0,0,[]⟩,[],[],[],v,w,c,0⟩:=⟨yN _,yN _,yN _,by simp,ag,by simp⟩
theorem adT{E:Int}(ag:0≤E)(n:Int):g' E (jF n):=by
 unfold jF;split
 ·rename_i h;have:=x5 h;refine⟨yN _,yN _,yN _,?_,?_,?_⟩
  ·simp[ja,h]
  ·simp only[ja,h,if_true];exact ag
  ·simp only[ja,h,if_true,List.length_replicate];omega
 ·exact UE ag _ _ _
theorem I1{s:aO}(h:fl s=true):iZ s.ring=true∧0≤s.sent∧s.sent≤s.ring.cv:=by
 simp only[fl,jV,bK,bP,and_assoc,b2]at h;exact⟨h.1,h.2.2.2.2.1,h.2.2.2.2.2.1⟩
theorem NP{E:Int}{s:aO}{d:List UInt8}(h:g' E s)(hd:d.length≤8):g' (E+8) (uh s d):=by
 unfold uh;split
 ·rename_i hw;have adU:iZ s.ring=true:=by
   simp only[oF,bP]at hw;exact(I1 hw.1.1).1
  have hi:=vV adU;have hr:=UF s.ring;have hn:mc s.ring d=(dG (mL s.ring) d.length).toNat:=rfl;have kg:(mc s.ring d:Int)≤8:=by rw[hn];unfold dG;split<;>omega
  have h0:=h.dR;have h1:=h.ah;have he:(uY s.ring d).cv=s.ring.cv+(mc s.ring d:Int):=by
   simp only[uY];by_cases hp:0<mc s.ring d
   ·have IA:0<mL s.ring:=by rw[hn]at hp;unfold dG at hp;split at hp<;>omega
    obtain⟨aM,bc,cq⟩:=hr.2 IA;have aY:(mc s.ring d:Int)≤mL s.ring:=by rw[hn];unfold dG;split<;>omega
    rw[bz]<;>omega
   ·rw[bz]<;>omega
  have hq:0<mc s.ring d→(uY s.ring d).cv≤4611686018427387903:=fun hp=>by
   have IA:0<mL s.ring:=by rw[hn]at hp;unfold dG at hp;split at hp<;>omega
   obtain⟨aM,bc,cq⟩:=hr.2 IA;have aY:(mc s.ring d:Int)≤mL s.ring:=by rw[hn];unfold dG;split<;>omega
   omega
  have hm:s.ring.cv≤(uY s.ring d).cv:=by omega
  refine⟨?_,IZ hm h.f,IZ hm h.a,by simp only[he];omega,by simp only[he];omega,by simp only[uY,I2];exact h.c⟩;simp only;split
  ·rename_i hp;have:=hq hp;exact NK (IZ hm h.p) ((hU _).2 (by simp only;omega)) (by simp)
  ·exact IZ hm h.p
 ·exact h.mono (by omega)
theorem UG{E:Int}{s:aO}(h:g' E s):g' E (wk s):=by
 unfold wk;split
 ·exact⟨h.p,h.f,h.a,h.dR,h.ah,h.c⟩
 ·exact h
theorem adV{E:Int}{s:aO}(h:g' E s)(c:Int):g' E (B6 s c):=by
 unfold B6;split
 ·rename_i hw;simp only[uf,bP]at hw;obtain⟨aM,bc,cq⟩:=I1 hw.1.1;have hi:=vV aM;have h1:=h.ah;exact⟨yN _,yN _,yN _,bc,by simp only;omega,by simp only[List.length_replicate];omega⟩
 ·exact h
theorem adW{E:Int}{s:aO}(h:g' E s):g' E (Db s):=by
 unfold Db;split
 ·exact⟨h.p,h.f,h.a,h.dR,h.ah,h.c⟩
 ·exact h
theorem adX{s:aO}{p:cf}(h:xe s p=true)(hq:s.ring.cv≤4611686018427387903)(hd:p.data.length≤1048576):0≤(fz p).low∧(fz p).high≤s.ring.cv∧(p.data≠[]→(fz p).low<(fz p).high):=by
 simp only[xe,bP,b2,and_assoc]at h;obtain⟨h1,h2,aj,_⟩:=h;rw[bz (by omega) (by omega)]at aj;simp only[fz];rw[bz (by omega) (by omega)];refine⟨h1,by omega,fun hn=>?_⟩;have:=List.length_pos_iff.2 hn;omega
theorem NQ{E:Int}{s:aO}(h:g' E s):g' E (o0 s):=⟨h.p,h.f,h.a,h.dR,h.ah,h.c⟩
theorem adY{E:Int}{s:aO}{p:cf}(h:g' E s):g' E (Bx s p):=by
 unfold Bx;split
 ·exact⟨h.p,h.f,h.a,h.dR,h.ah,h.c⟩
 ·exact h
theorem Re{E:Int}{s:aO}{p:cf}(h:g' E s)(hd:p.data.length≤1048576):g' E (pC s p):=by
 unfold pC;split
 ·rename_i hw;refine NQ (adY ?_);unfold z5;split
  ·exact h
  ·rename_i hne;simp only[oM,Dc,bP,and_assoc]at hw;obtain⟨cC,c8,fs,_⟩:=hw;have hi:=vV (I1 cC).1;obtain⟨k1,k2,ee⟩:=adX fs (by omega) hd;have ix:=ee hne;exact⟨adS h.p,NK h.f ((hU _).2 (by omega)) k2,h.a,h.dR,h.ah,h.c⟩
 ·exact h
theorem adZ(r:dm)(t:Int):(xf r t).cv=r.cv∧(xf r t).cells.length=r.cells.length:=by
 unfold xf;split
 ·exact⟨rfl,I3 _ _ _ _⟩
 ·exact⟨rfl,rfl⟩
theorem UH{E:Int}{s:aO}{p:cf}(f:Int)(h:g' E s):g' E (m7 f s p):=by
 unfold m7;split
 ·exact⟨h.p,h.f,h.a,h.dR,h.ah,h.c⟩
 ·exact h
theorem ad0(f:Int)(s:aO)(p:cf):(m7 f s p).ring=s.ring:=by unfold m7;split<;>rfl
theorem ad1(s:aO)(p:cf):(o1 s p).ring=s.ring:=by unfold o1;split<;>rfl
theorem ad2{E:Int}{s:aO}{p:cf}(h:g' E s):g' E (z6 s p):=by
 unfold z6;split
 ·have h1:g' E (m7 3 (o1 s p) p):=by
   refine UH 3 ?_;unfold o1;split
   ·exact h
   ·exact⟨h.p,UA h.f,NM _ _ h.a (UB h.f),h.dR,h.ah,h.c⟩
  have hr:(m7 3 (o1 s p) p).ring=s.ring:=by rw[ad0,ad1]
  have hd:=adZ s.ring (o2 (m7 3 (o1 s p) p).cG 0);have e:(FM s.ring (m7 3 (o1 s p) p)).ring.cv=(m7 3 (o1 s p) p).ring.cv:=by rw[hr];exact hd.1
  refine NQ ⟨?_,?_,?_,?_,?_,?_⟩
  ·rw[e];exact h1.p
  ·rw[e];exact h1.f
  ·rw[e];exact h1.a
  ·rw[e];exact h1.dR
  ·rw[e];exact h1.ah
  ·exact Nat.le_trans (Nat.le_of_eq hd.2) h.c
 ·exact h
theorem ad3{E:Int}{s:aO}{p:cf}(h:g' E s):g' E (yO s p):=by
 unfold yO;split
 ·refine NQ (UH 1 ?_);unfold By;split
  ·exact h
  ·exact⟨NM _ _ h.p (UB h.f),UA h.f,h.a,h.dR,h.ah,h.c⟩
 ·exact h
set_option maxRecDepth 100000
def ON:List (List bH):=cP 15 [14348906,14348904,14348898,14348880,13611807,13611645,13611159,13639185,13634811,13621689,13581270,14260293,13905999,12754584,9565938]
attribute [go_sem] ON
def Ju(r:bL)(o:Int)(d:List UInt8):Bool:=i_ r&&decide (0≤o)&&decide (o≤IntKind.i64.wrap (4611686018427387903-(d.length:Int)))
def vO(r:bL)(o:Int)(d:List UInt8)(f:Bool):Int:=if Ju r o d then xo r (o+d.length) f else 7
def BQ(r:bL)(o:Int)(d:List UInt8)(f:Bool):Bool:=Ju r o d&&!(decide (xo r (o+d.length) f≠0)||decide (1<r.state))
def z_(r:bL)(o:Int)(d:List UInt8):List aA:=nj r.buffer.next r.buffer.bO o d
def Ag(r:bL)(o:Int)(d:List UInt8)(f:Bool):Int:=if f then o+d.length else r.bn
def Du(r:bL)(o:Int)(d:List UInt8)(f:Bool):Bool:=decide (Ag r o d f≠-1)&&decide (IntKind.i64.wrap (r.buffer.next+(jC r.buffer.next (z_ r o d):Int))=Ag r o d f)
def pQ(r:bL)(o:Int)(d:List UInt8)(f:Bool):bL:=
 if BQ r o d f then⟨if Du r o d f then 2 else if f then 1 else r.state,⟨r.buffer.next,z_ r o d⟩,Ag r o d f,eb r.fO (o+d.length),r.code⟩else r
theorem acP(c3 cU:Int)(cn:List aA)(dn df dg o:Int)(d:List UInt8)(f:Bool)(hb:∀c∈cn,ud c)(hx:cn.length≤1000)(hd:d.length≤8)(av:0≤o∧o≤900):aJ 297 [.agg [.int .i64 c3,.int .i64 cU,.sl 2 (cn.map aA.enc),.int .i64 dn,.int .i64 df,.int .i64 dg],.one (.int .i64 o),.one (.str d),.one (.bool f)] [.agg (bL.enc (pQ (⟨c3,⟨cU,cn⟩,dn,df,dg⟩:bL) o d f)),.one (.int .i64 (vO (⟨c3,⟨cU,cn⟩,dn,df,dg⟩:bL) o d f))]:=by
 refine aN 79 Tryz.func297 Tryz.call297 [.cell 8 59,.tmp 9] ?_;intro _;have jY:∀c∈cn,c.data.length≤1048576:=fun c hc=>by have:=hb c hc;simp only[ud]at this;omega
 have hok:=PQ (n:=cU) (off:=o) (data:=d) hb av.1 (by omega);have mi:=PR cU cn o d;have FA:∀c∈nj cU cn o d,c.data.length≤1048576:=fun c hc=>by have:=hok c hc;simp only[ud]at this;omega
 have N5:=adR cU cn o d jY (by omega) (fun c hc=>by have:=hb c hc;simp only[ud]at this;omega) hd av.1 (by omega);have Jv:=DP cU (nj cU cn o d) FA (by omega);have gh:IntKind.i64.wrap (4611686018427387903-(d.length:Int))=4611686018427387903-(d.length:Int):=by rw[bz]<;>omega
 have h3:IntKind.i64.wrap (o+(d.length:Int))=o+(d.length:Int):=by rw[bz]<;>omega
 have ah:decide (o<0)=false:=bo (by omega);have ai:decide (4611686018427387903-(d.length:Int)<o)=false:=bo (by omega);have dF:Ju (⟨c3,⟨cU,cn⟩,dn,df,dg⟩:bL) o d=i_ (⟨c3,⟨cU,cn⟩,dn,df,dg⟩:bL):=by
  unfold Ju;rw[gh,bp av.1,bp (show o≤4611686018427387903-(d.length:Int)by omega)];simp
 cases aU:i_ (⟨c3,⟨cU,cn⟩,dn,df,dg⟩:bL)with
 |false=>
  have bM:BQ (⟨c3,⟨cU,cn⟩,dn,df,dg⟩:bL) o d f=false:=by unfold BQ;rw[dF,aU];rfl
  have ag:vO (⟨c3,⟨cU,cn⟩,dn,df,dg⟩:bL) o d f=7:=by unfold vO;rw[dF,aU];rfl
  try simp only[go_sem]
  repeat'(first|((first|refine ab.intro (by first|assumption|(apply zg<;>exact aP)|(apply xn<;>exact aP)) ?_|refine au.intro (by assumption) ?_|with_reducible refine e5 ?_)<;>simp only[go_sem,I,aU])|(with_reducible refine aw ?_)|fail)
  all_goals(rw[ag];simp[pQ,bM])
 |true=>
  have ag:vO (⟨c3,⟨cU,cn⟩,dn,df,dg⟩:bL) o d f=xo (⟨c3,⟨cU,cn⟩,dn,df,dg⟩:bL) (o+d.length) f:=by unfold vO;rw[dF,aU];rfl
  try simp only[go_sem]
  repeat'((first|refine ab.intro (by first|assumption|(apply zg<;>exact aP)|(apply xn<;>exact aP)|(apply V5<;>exact aP)) ?_|refine au.intro (by assumption) ?_|with_reducible refine du ?_|refine a7 ?_)<;>simp only[go_sem,I,aU,gh,h3,ah,ai])
  refine bt (fun h=>?_) (fun h=>?_)
  ·have bM:BQ (⟨c3,⟨cU,cn⟩,dn,df,dg⟩:bL) o d f=false:=by unfold BQ;simp only[c0]at h;rw[dF,aU,h];rfl
   simp only[go_sem,I];rw[ag];simp[pQ,bM]
  ·have bM:BQ (⟨c3,⟨cU,cn⟩,dn,df,dg⟩:bL) o d f=true:=by unfold BQ;simp only[c0]at h;rw[dF,aU,h];rfl
   have h0:xo (⟨c3,⟨cU,cn⟩,dn,df,dg⟩:bL) (o+d.length) f=0:=by
    simp only[c0,Bool.or_eq_false_iff,dN]at h;omega
   rw[h0]at ag;have aQ:pQ (⟨c3,⟨cU,cn⟩,dn,df,dg⟩:bL) o d f=⟨if Du (⟨c3,⟨cU,cn⟩,dn,df,dg⟩:bL) o d f then 2 else if f then 1 else c3,⟨cU,z_ (⟨c3,⟨cU,cn⟩,dn,df,dg⟩:bL) o d⟩,Ag (⟨c3,⟨cU,cn⟩,dn,df,dg⟩:bL) o d f,eb df (o+d.length),dg⟩:=by unfold pQ;exact if_pos bM
   simp only[go_sem]
   cases f with
   |true=>
    try simp only[go_sem]
    repeat'(first|((first|refine ab.intro (by assumption) ?_|refine au.intro (by assumption) ?_|refine e8 ?_|refine ba ON (by kernel_rfl) (by rfl) ?_|refine bt (fun h=>?_) (fun h=>?_))<;>simp only[go_sem,I])|(with_reducible refine aw ?_)|fail)
    ·simp only[cw]at h;have hq:Du (⟨c3,⟨cU,cn⟩,dn,df,dg⟩:bL) o d true=true:=h;rw[ag,aQ,hq];simp[eb,Ag,z_]
    ·simp only[cw]at h;have hq:Du (⟨c3,⟨cU,cn⟩,dn,df,dg⟩:bL) o d true=false:=h;rw[ag,aQ,hq];simp[eb,Ag,z_]
   |false=>
    try simp only[go_sem]
    repeat'(first|((first|refine ab.intro (by assumption) ?_|refine au.intro (by assumption) ?_|refine e8 ?_|refine ba ON (by kernel_rfl) (by rfl) ?_|refine bt (fun h=>?_) (fun h=>?_))<;>simp only[go_sem,I])|(with_reducible refine aw ?_)|fail)
    ·simp only[cw]at h;have hq:Du (⟨c3,⟨cU,cn⟩,dn,df,dg⟩:bL) o d false=true:=h;rw[ag,aQ,hq];simp[eb,Ag,z_]
    ·simp only[cw]at h;have hq:Du (⟨c3,⟨cU,cn⟩,dn,df,dg⟩:bL) o d false=false:=h;rw[ag,aQ,hq];simp[eb,Ag,z_]
structure fZ(m:Nat)(s:ae):Prop where
 snd:g' (8 * m) s.send
 fA:∀c∈s.recv.buffer.bO,ud c
 yf:s.recv.buffer.bO.length≤m
structure cl(m:Nat)(c:J):Prop where
 kO:c.streams.length≤24
 n1:∀s∈c.streams,fZ m s
 wA:c.packets.length≤m
 kt:∀p∈c.packets,GF p
theorem fZ.mono{m n:Nat}{s:ae}(h:fZ m s)(hm:m≤n):fZ n s:=⟨h.snd.mono (by omega),h.fA,by have:=h.yf;omega⟩
theorem cl.mono{m n:Nat}{c:J}(h:cl m c)(hm:m≤n):cl n c:=⟨h.kO,fun s hs=>(h.n1 s hs).mono hm,by have:=h.wA;omega,h.kt⟩
theorem fZ.sz{m:Nat}{s:ae}(h:fZ m s)(hm:m≤20):eO s:=by
 have h1:=h.snd.size;have h2:=h.snd.c;have aj:=h.yf;refine⟨by omega,by omega,fun c hc=>?_,by omega⟩;have:=h.fA c hc;simp only[ud]at this;omega
theorem cl.sz{m:Nat}{c:J}(h:cl m c)(hm:m≤20):gG c:=by
 have h1:=h.kO;have aj:=h.wA;exact⟨by omega,fun s hs=>(h.n1 s hs).sz hm,by omega,h.kt⟩
theorem UI(m:Nat):fZ m jG:=⟨UE (by omega) _ _ _,by simp[jG],by simp[jG]⟩
theorem UJ(m:Nat)(v:Bool)(i:Int)(o p:bW):fZ m (eX v i o p):=by
 unfold eX;split
 ·exact⟨adT (by omega) _,by simp[oI],by simp[oI]⟩
 ·exact UI m
theorem ad4{m:Nat}{l:List ae}(h:∀s∈l,fZ m s)(id:Int):fZ m (strOf l id).1:=by
 unfold strOf;split
 ·rename_i s hs;exact h s (List.mem_of_find?_eq_some hs)
 ·exact UI m
theorem FN{l:List ae}{id:Int}(h:(strOf l id).2=true):(strOf l id).1.id=id∧(strOf l id).1∈l:=by
 unfold strOf at h⊢;split at h
 ·rename_i s hs;have h1:=List.find?_some hs;exact⟨cO h1,List.mem_of_find?_eq_some hs⟩
 ·cases h
theorem ad5{l:List ae}{s:ae}(h:(strOf l s.id).2=true):(putS l s).length=l.length:=by
 unfold putS;split
 ·rw[List.length_set]
 ·rename_i hn;obtain⟨h1,h2⟩:=FN h;rw[List.findIdx?_eq_none_iff]at hn;have:=hn _ h2;simp[eP,h1]at this
def lH(c:J)(s:ae):J:={c with streams:=putS c.streams s}
theorem UK{m:Nat}{c:J}{s:ae}(h:cl m c)(hs:fZ m s)(hf:(strOf c.streams s.id).2=true):cl m (lH c s):=by
 refine⟨?_,fun x hx=>?_,h.wA,h.kt⟩
 ·simp only[lH,ad5 hf];exact h.kO
 ·rcases G0 hx with hx|rfl
  ·exact h.n1 x hx
  ·exact hs
theorem UL{v:Bool}{o p:bW}{id:Int}:∀(k:Nat) (l:List ae) (x:ae),x∈ensL v o p id k l→x∈l∨∃i,x=eX v i o p
 |0,l,x,h=>Or.inl h
 |k+1,l,x,h=>by
  rcases UL k _ x h with h|h
  ·rcases G0 h with h|h
   ·exact Or.inl h
   ·exact Or.inr ⟨_,h⟩
  ·exact Or.inr h
theorem w6{m:Nat}{c:J}(h:cl m c)(id:Int):cl m (bI c id):=by
 unfold bI;split
 ·rename_i hg;simp only[bP]at hg;have hn:=B_ hg.2 (by have:=h.kO;omega);have hl:=Qe c.bV c.own c.peer id (fB c id).toNat c.streams;have hw:(jb c id (dd (gi c id) (bZ id))).packets=c.packets:=by unfold jb;split<;>rfl
  refine⟨by simp only;omega,fun x hx=>?_,by simp only[hw];exact h.wA,by simp only[hw];exact h.kt⟩;rcases UL _ _ x hx with hx|⟨i,rfl⟩
  ·exact h.n1 x hx
  ·exact UJ m _ _ _ _
 ·exact h
def uu(c:J):ep×Bool:=if oK c.dO then(Dg c.dO c.h8 c.own.g7,BD c.dO c.h8 c.own.g7)else(c.dO,c.vr)
def jM(a:dB)(t:Bool):dB×Bool:=if uT a then(xi a,Dh a)else(a,t)
def Hk(s:ae):Bool:=s.fC&&decide (s.recv.state=0)&&!s.lG
def pA(c:J)(s:ae):ep×Bool:=if Hk s then(if oK s.bX then(Dg s.bX c.h8 c.own.g7,BD s.bX c.h8 c.own.g7)else(s.bX,s.mx))else(s.bX,false)
def wv(k i l:Int):ao:=⟨k,i,0,[],false,0,l,0,false⟩
def iN(k l:Int)(u:Bool):ao:=⟨k,0,0,[],false,0,l,0,u⟩
def zo(k i c z:Int):ao:=⟨k,i,0,[],false,c,0,z,false⟩
def nR(s:ae):List ao:=if s.iJ then [zo 4 s.id s.send.code s.send.sent]else []
def uv(s:ae):List ao:=if s.iM&&decide (s.recv.state<2)then [zo 5 s.id s.nr 0]else []
def ya(c:J)(s:ae):List ao:=if(pA c s).2 then [wv 17 s.id (pA c s).1.aR]else []
def zn(s:ae):List ao:=if mw s.dL&&s.eU&&decide (0<(s.send.pending.length:Int))then [wv 21 s.id s.dL.aR]else []
def jN(c:J)(s:ae):List ao:=nR s++uv s++ya c s++zn s
def I4(c:J):List ao:=(if(uu c).2 then [iN 16 (uu c).1.aR false]else [])++(if(jM c.cu c.mW).2 then [iN 18 (jM c.cu c.mW).1.aR false]else [])++(if(jM c.ct c.mX).2 then [iN 18 (jM c.ct c.mX).1.aR true]else [])
def I5(c:J):List ao:=(if mw c.cY then [iN 20 c.cY.aR false]else [])++(if c.e7.blocked=c.e7.aR then [iN 22 c.e7.aR false]else [])++(if c.e6.blocked=c.e6.aR then [iN 22 c.e6.aR true]else [])
def iO(c:J):List ao:=if kb c then I4 c++c.streams.flatMap (jN c)++I5 c else []
def mZ(c:J)(s:ae)(k:Int):ae:=
 if k=4 then {s with iJ:=false}else if k=5 then {s with iM:=false}else if k=17 then {s with bX:=if(pA c s).2 then(pA c s).1 else s.bX,mx:=false}else if k=21 then {s with dL:=wy s.dL}else s
def lI(c:J)(f:ao):J:=
 if en c then
  (if f.kind=16 then {c with dO:=(uu c).1,vr:=false}
   else if f.kind=18 then(if f.ey then {c with ct:=(jM c.ct false).1,mX:=false}else {c with cu:=(jM c.cu false).1,mW:=false})
   else if f.kind=20 then {c with cY:=wy c.cY}
   else if f.kind=22 then(if f.ey then {c with e6:={c.e6 with blocked:=-1}}else {c with e7:={c.e7 with blocked:=-1}})
   else if(strOf c.streams f.stream).2 then lH c (mZ c (aS c f.stream) f.kind)else c)
 else c
def nT(id:Int)(p:cf):ao:=⟨8,id,p.offset,p.data,p.a2,0,0,0,false⟩
def En(c:J)(s:ae):Int:=dG s.dL.aR (IntKind.i64.wrap (s.send.sent+Ct c.cY))
def pfGo(s:aO)(id kK db:Int):Nat→cf×Bool
 |0=>(pD,false)
 |n+1=>if nextOk s (n+1:Nat) kK then(if((hG (nT id (nU s (n+1:Nat) kK))).length:Int)≤db then(nU s (n+1:Nat) kK,true)else pfGo s id kK db n)else(pD,false)
def AZ(c:J)(id db:Int):Bool:=en c&&(strOf c.streams id).2&&(aS c id).eU&&!decide (db<3)
def wB(c:J)(id db:Int):cf×Bool:=if AZ c id db then pfGo (aS c id).send id (En c (aS c id)) db (dG db 60).toNat else(pD,false)
def Cq(c:J)(id:Int):Bool:=en c&&(strOf c.streams id).2&&(aS c id).eU
def wE(s:ae)(p:cf):Int:=IntKind.i64.wrap ((pC s.send p).sent-s.send.sent)
def yg(c:J)(id:Int)(p:cf):Bool:=Cq c id&&(oM (aS c id).send p&&vw (aS c id).dL (wE (aS c id) p)&&vw c.cY (wE (aS c id) p))
def vu(s:ae)(p:cf):ae:={s with send:=pC s.send p,dL:=wD s.dL (wE s p)}
def A0(c:J)(id:Int)(p:cf):J:=if yg c id p then {c with cY:=wD c.cY (wE (aS c id) p),fq:=id,streams:=putS c.streams (vu (aS c id) p)}else c
def wants(s:ae):Bool:=s.eU&&decide (s.send.state<3)&&(decide (0<(s.send.pending.length:Int))||decide (s.send.a2=1))
def AY(s:ae):dD:=⟨s.id,s.priority⟩
def yd(c:J):List dD:=(c.streams.filter wants).map AY
def ye(s:ae):ae:={s with dL:=wC s.dL}
def Ht(c:J)(id:Int):J:={c with cY:=wC c.cY,streams:=putS c.streams (ye (aS c id))}
structure nS where
 x:J
 skip:List Int
 cg:List ao
 db:Int
def Co(q:nS):List dD:=q.skip.foldl my (yd q.x)
def gV(q:nS):Int:=nextS (Co q) q.x.fq
def l6(q:nS):cf×Bool:=wB q.x (gV q) q.db
def AX(q:nS):nS:=⟨Ht q.x (gV q),q.skip++[gV q],q.cg,q.db⟩
def Cp(q:nS):nS:=⟨A0 q.x (gV q) (l6 q).1,q.skip,q.cg++[nT (gV q) (l6 q).1],IntKind.i64.wrap (q.db-((hG (nT (gV q) (l6 q).1)).length:Int))⟩
def fillGo:Nat→nS→nS
 |0,q=>q
 |k+1,q=>if gV q<0 then q else if(l6 q).2 then(if yg q.x (gV q) (l6 q).1 then fillGo k (Cp q)else q)else fillGo k (AX q)
structure AW where
 x:J
 cg:List ao
 db:Int
def nt(q:AW)(f:ao):AW:=if((hG f).length:Int)≤q.db then⟨lI q.x f,q.cg++[f],IntKind.i64.wrap (q.db-((hG f).length:Int))⟩else q
def Cl(c:J)(b:Int):Bool:=kb c&&bK b 1 400&&!decide (1000000≤c.number)
def dP(c:J)(b:Int):AW:=(iO c).foldl nt ⟨c,[],b⟩
def lJ(c:J)(b:Int):nS:=fillGo 200 ⟨(dP c b).x,[],(dP c b).cg,(dP c b).db⟩
def gn(c:J)(b:Int):J:=
 if Cl c b then(if(lJ c b).cg=[]then(lJ c b).x else {(lJ c b).x with packets:=(lJ c b).x.packets++[⟨c.number,(lJ c b).cg⟩],number:=IntKind.i64.wrap (c.number+1)})else c
def Cm(c:J)(b:Int):Bool:=Cl c b&&!decide ((lJ c b).cg=[])
def wz(c:J)(b:Int):Int:=if Cm c b then c.number else -1
def yc(c:J)(b:Int):List UInt8:=if Cm c b then zr (lJ c b).cg else []
def vP(s:ae)(e:Int):Int:=g6 s.recv e
def jT(c:J)(s:ae)(e:Int):Int:=if vP s e=0 then 0 else if iB s.bX (vP s e)&&iB c.dO (vP s e)then 0 else 3
def lS(s:ae)(e:Int):ae:=if vP s e=0 then s else {s with bX:=oV s.bX (vP s e)}
def lR(c:J)(s:ae)(e:Int):J:=if vP s e=0 then c else {c with dO:=oV c.dO (vP s e)}
def IL(s:ae)(t:Int):Int:=eb 0 (IntKind.i64.wrap (t-s.bX.read))
def w_(s:ae)(t:Int):ae:={s with bX:=Di s.bX (IL s t)}
def uS(c:J)(s:ae)(t:Int):J:={c with dO:=Di c.dO (IL s t)}
def uQ(f:ao):Int:=IntKind.i64.wrap (f.offset+(f.data.length:Int))
def g5(s:ae)(r:bL):ae:={s with recv:=r}
def oU(c:J)(f:ao)(k:Int):Bool:=en c&&fM f&&decide (f.kind=k)
def yC(c:J)(f:ao):Int:=
 if oU c f 8 then(if fC c.bV f.stream then(if fu c f.stream=0 then(if jT (bI c f.stream) (aS (bI c f.stream) f.stream) (uQ f)=0 then vO (aS (bI c f.stream) f.stream).recv f.offset f.data f.a2 else jT (bI c f.stream) (aS (bI c f.stream) f.stream) (uQ f))else fu c f.stream)else 5)else 7
def Bn(x:J)(f:ao):ae:=g5 (lS (aS x f.stream) (uQ f)) (pQ (aS x f.stream).recv f.offset f.data f.a2)
def zV(c:J)(f:ao):J:=if yC c f=0 then eE (lR (bI c f.stream) (aS (bI c f.stream) f.stream) (uQ f)) (Bn (bI c f.stream) f)else c
def yI(c:J)(f:ao):Int:=
 if oU c f 4 then(if fC c.bV f.stream then(if fu c f.stream=0 then(if jT (bI c f.stream) (aS (bI c f.stream) f.stream) f.bn=0 then xc (aS (bI c f.stream) f.stream).recv f.code f.bn else jT (bI c f.stream) (aS (bI c f.stream) f.stream) f.bn)else fu c f.stream)else 5)else 7
def NW(x:J)(f:ao):bL:=vT (aS x f.stream).recv f.code f.bn
def Bp(x:J)(f:ao):Bool:=decide ((NW x f).state=4)&&decide ((aS x f.stream).recv.state≠4)
def I8(x:J)(f:ao):ae:=lS (aS x f.stream) f.bn
def I7(x:J)(f:ao):J:=lR x (aS x f.stream) f.bn
def xb(x:J)(f:ao):ae:=g5 (if Bp x f then w_ (I8 x f) f.bn else I8 x f) (NW x f)
def yJ(x:J)(f:ao):J:=if Bp x f then uS (I7 x f) (I8 x f) f.bn else I7 x f
def zW(c:J)(f:ao):J:=if yI c f=0 then eE (yJ (bI c f.stream) f) (xb (bI c f.stream) f)else c
def yK(c:J)(f:ao):Int:=if oU c f 5 then(if eU c.bV f.stream then fu c f.stream else 5)else 7
def uy(x:J)(f:ao):ae:=if uf (aS x f.stream).send f.code then gg (aS x f.stream) f.code else aS x f.stream
def zX(c:J)(f:ao):J:=if yK c f=0 then eE (bI c f.stream) (uy (bI c f.stream) f)else c
def C7(c:J)(f:ao):Bool:=if f.kind=21 then fC c.bV f.stream else eU c.bV f.stream
def Bo(c:J)(f:ao):Int:=if C7 c f then fu c f.stream else 5
def C6(x:J)(f:ao):ae:={aS x f.stream with dL:=w7 (aS x f.stream).dL f.aR}
def C5(c:J)(f:ao):J:=if Bo c f=0 then(if f.kind=17 then lH (bI c f.stream) (C6 (bI c f.stream) f)else bI c f.stream)else c
def Ft(c:J)(f:ao):Bool:=en c&&fM f
def vR(c:J)(f:ao):Int:=if Ft c f then(if f.kind=16∨f.kind=18∨f.kind=20∨f.kind=22 then 0 else if f.kind=17∨f.kind=21 then Bo c f else 7)else 7
def oW(c:J)(f:ao):J:=
 if Ft c f then(if f.kind=16 then {c with cY:=w7 c.cY f.aR}else if f.kind=18 then(if f.ey then {c with e6:=xj c.e6 f.aR}else {c with e7:=xj c.e7 f.aR})else if f.kind=17∨f.kind=21 then C5 c f else c)else c
def C8(c:J)(f:ao):Int:=if f.kind=8 then yC c f else if f.kind=4 then yI c f else if f.kind=5 then yK c f else vR c f
def wq(c:J)(f:ao):J:=if f.kind=8 then zV c f else if f.kind=4 then zW c f else if f.kind=5 then zX c f else oW c f
def uR(c:J)(id:Int):Bool:=kb c&&(strOf c.streams id).2&&(aS c id).fC
def mI(c:J)(id m:Int):bL:=xa (aS c id).recv m
def Vc(c:J)(id m:Int):Bool:=decide ((mI c id m).state<4)
def I9(c:J)(id m:Int):ae:=g5 (aS c id) (mI c id m)
def w9(c:J)(id m:Int):ae:=if Vc c id m then w_ (I9 c id m) (mI c id m).buffer.next else I9 c id m
def yH(c:J)(id m:Int):J:=if Vc c id m then uS c (I9 c id m) (mI c id m).buffer.next else c
def kH(c:J)(id m:Int):J:=if uR c id then eE (yH c id m) (w9 c id m)else c
def Fu(c:J)(id m:Int):List UInt8:=if uR c id then vS (aS c id).recv m else []
def Fv(c:J)(id m:Int):Bool:=uR c id&&(decide ((mI c id m).state=3)||decide ((mI c id m).state=5))
def kU(n:Int)(p:aD):Bool:=decide (p.number=n)
def pkOf(xs:List aD)(n:Int):aD×Bool:=match xs.find? (kU n)with|some p=>(p,true)|none=>(⟨0,[]⟩,false)
def lZ(c:J)(n:Int):J:={c with packets:=c.packets.filter fun p=>!kU n p}
def BE(f:ao):cf:=⟨f.offset,f.data,f.a2⟩
def hX(s:ae)(f:ao):ae:=
 if f.kind=8 then gY s (z6 s.send (BE f))else if f.kind=4 then {s with send:=Db s.send,iJ:=if BF s.send then false else s.iJ}else if f.kind=5 then {s with iM:=false}else s
def Dd(c:J)(f:ao):Bool:=(strOf c.streams f.stream).2&&lK f.kind
def ox(c:J)(f:ao):J:=if Dd c f then eE c (hX (aS c f.stream) f)else c
def m8(s:ae)(f:ao):ae:=
 if f.kind=8 then gY s (yO s.send (BE f))else if f.kind=4 then {s with iJ:=decide (s.send.state=4)}else if f.kind=5 then {s with iM:=decide (s.recv.state<2)}else if f.kind=17 then {s with mx:=true}else s
def oz(c:J)(f:ao):J:=
 if f.kind=16 then {c with vr:=true}else if f.kind=18 then(if f.ey then {c with mX:=true}else {c with mW:=true})else if Dd c f then lH c (m8 (aS c f.stream) f)else c
def nf(c:J)(n:Int):Bool:=kb c&&(pkOf c.packets n).2
def At(c:J)(n:Int):J:=if nf c n then(pkOf c.packets n).1.frames.foldl ox (lZ c n)else c
def Av(c:J)(n:Int):J:=if nf c n then(pkOf c.packets n).1.frames.foldl oz (lZ c n)else c
def kY(v:Bool)(o p:bW):J:=
 if eV o&&eV p then⟨v,o,p,[],jW p.cY,mM o.cY o.kl,n5 p.jE,n5 p.ey,mN o.jE,mN o.ey,false,false,false,-1,0,[],0,0⟩
 else⟨false,⟨0,0,0,0,0,0,0,0⟩,⟨0,0,0,0,0,0,0,0⟩,[],⟨0,0,0,0⟩,⟨0,0,0,0,0,0⟩,⟨0,0,0⟩,⟨0,0,0⟩,⟨0,0,0,0⟩,⟨0,0,0,0⟩,false,false,false,0,0,[],0,0⟩
theorem fZ.same{m:Nat}{s t:ae}(h:fZ m s)(h1:t.send=s.send)(h2:t.recv=s.recv):fZ m t:=⟨h1▸h.snd,h2▸h.fA,h2▸h.yf⟩
theorem fZ.Bz{m:Nat}{s:ae}(h:fZ m s){x:aO}(hx:g' (8 * m) x):fZ m (gY s x):=⟨hx,h.fA,h.yf⟩
theorem cl.same{m:Nat}{c d:J}(h:cl m c)(h1:d.streams=c.streams)(h2:d.packets=c.packets):cl m d:=⟨h1▸h.kO,h1▸h.n1,h2▸h.wA,h2▸h.kt⟩
theorem cl.aS{m:Nat}{c:J}(h:cl m c)(id:Int):fZ m (aS c id):=ad4 h.n1 id
theorem pS{c:J}{id:Int}(h:(strOf c.streams id).2=true):(aS c id).id=id:=(FN h).1
theorem z7{m:Nat}{c:J}{id:Int}{s:ae}(h:cl m c)(hf:(strOf c.streams id).2=true)(hi:s.id=(aS c id).id)(hs:fZ m s):cl m (lH c s):=
 UK h hs (by rw[hi,pS hf];exact hf)
theorem Au(c:J)(s:ae):(xL c s).streams=c.streams∧(xL c s).packets=c.packets:=by
 unfold xL;repeat' split
 all_goals exact⟨rfl,rfl⟩
theorem NR(c:J)(s:ae):(ug c s).send=s.send∧(ug c s).recv=s.recv∧(ug c s).id=s.id:=by
 unfold ug;split<;>exact⟨rfl,rfl,rfl⟩
theorem ad6(c:J)(s:ae):(eE c s).streams=(lH c (ug c s)).streams∧(eE c s).packets=(lH c (ug c s)).packets:=⟨rfl,(Au c s).2⟩
theorem NS{m:Nat}{c:J}{id:Int}{s:ae}(h:cl m c)(hf:(strOf c.streams id).2=true)(hi:s.id=id)(hs:fZ m s):cl m (eE c s):=by
 obtain⟨dJ,e9,e_⟩:=NR c s;obtain⟨dp,da⟩:=ad6 c s;exact(UK h (hs.same dJ e9) (by rw[e_,hi];exact hf)).same dp da
theorem eO.over{c:J}{s:ae}(h:eO s):eO (ug c s):=by
 obtain⟨dJ,e9,e_⟩:=NR c s;unfold eO;rw[dJ,e9];exact h
theorem Hn(c:J)(s:ae)(k:Int):(mZ c s k).send=s.send∧(mZ c s k).recv=s.recv∧(mZ c s k).id=s.id:=by
 unfold mZ;repeat' split
 all_goals exact⟨rfl,rfl,rfl⟩
theorem ad7{m:Nat}{c:J}(h:cl m c)(f:ao):cl m (lI c f):=by
 unfold lI
 repeat' split
 all_goals first
  |exact h.same rfl rfl
  |(rename_i hf;obtain⟨dJ,e9,e_⟩:=Hn c (aS c f.stream) f.kind;exact z7 h hf e_ ((h.aS f.stream).same dJ e9))
def oL(f:ao):Prop:=f.data.length≤60
theorem ad8{c:J}{s:ae}:∀f∈jN c s,oL f:=by
 intro f hf;simp only[jN,nR,uv,ya,zn,et]at hf;rcases hf with ((hf|hf)|hf)|hf<;>(split at hf<;>simp at hf;subst hf;simp[oL,zo,wv])
theorem Eh(c:J)(s:ae):(jN c s).length≤4:=by
 simp only[jN,nR,uv,ya,zn,eG];have h:∀(b:Bool) (f:ao),(if b=true then [f]else []).length≤1:=fun b f=>by cases b<;>simp
 have h1:=h s.iJ (zo 4 s.id s.send.code s.send.sent);have h2:=h (s.iM&&decide (s.recv.state<2)) (zo 5 s.id s.nr 0);have aj:=h (pA c s).2 (wv 17 s.id (pA c s).1.aR);have aE:=h (mw s.dL&&s.eU&&decide (0<(s.send.pending.length:Int))) (wv 21 s.id s.dL.aR);omega
theorem Hl{α β:Type}(g:α→List β)(k:Nat):∀(l:List α),(∀x∈l,(g x).length≤k)→(l.flatMap g).length≤k * l.length
 |[],_=>by simp
 |x::l,h=>by
  have h1:=h x (by simp);have h2:=Hl g k l fun y hy=>h y (by simp[hy]);rw[List.flatMap_cons,eG,eW,Nat.mul_add];omega
theorem ad9(c:J):(I4 c).length≤3∧∀f∈I4 c,oL f:=by
 unfold I4
 cases(uu c).2<;>cases(jM c.cu c.mW).2<;>cases(jM c.ct c.mX).2<;>simp[oL,iN]
theorem aea(c:J):(I5 c).length≤3∧∀f∈I5 c,oL f:=by
 unfold I5
 cases mw c.cY<;>by_cases h1:c.e7.blocked=c.e7.aR<;>by_cases h2:c.e6.blocked=c.e6.aR<;>simp[oL,iN,h1,h2]
theorem Q6{m:Nat}{c:J}(h:cl m c):(iO c).length≤102∧∀f∈iO c,oL f:=by
 unfold iO;split
 ·obtain⟨cm,cB⟩:=ad9 c;obtain⟨nk,jc⟩:=aea c;have:=Hl (jN c) 4 c.streams fun s _=>Eh c s;have:=h.kO;refine⟨by simp only[eG];omega,fun f hf=>?_⟩;rcases et.1 hf with hf|hf
  ·rcases et.1 hf with hf|hf
   ·exact cB f hf
   ·obtain⟨s,_,hs⟩:=List.mem_flatMap.1 hf;exact ad8 f hs
  ·exact jc f hf
 ·simp
structure nu(m k:Nat)(x:J)(cg:List ao):Prop where
 c:cl m x
 n:cg.length≤k
 d:∀f∈cg,oL f
theorem nu.mono{m k j:Nat}{x:J}{cg:List ao}(h:nu m k x cg)(hk:k≤j):nu m j x cg:=⟨h.c,by have:=h.n;omega,h.d⟩
theorem nu.add{m k:Nat}{x y:J}{cg:List ao}{f:ao}(h:nu m k x cg)(hy:cl m y)(hf:oL f):nu m (k+1) y (cg++[f]):=
 ⟨hy,by have:=h.n;simp;omega,fun g hg=>by rcases et.1 hg with hg|hg;exact h.d g hg;simp at hg;subst hg;exact hf⟩
theorem Q8{m k:Nat}{q:AW}{f:ao}(h:nu m k q.x q.cg)(hf:oL f):nu m (k+1) (nt q f).x (nt q f).cg:=by
 unfold nt;split
 ·exact h.add (ad7 h.c f) hf
 ·exact h.mono (by omega)
theorem UM{m:Nat}:∀(l:List ao) (k:Nat) (q:AW),nu m k q.x q.cg→(∀f∈l,oL f)→nu m (k+l.length) (l.foldl nt q).x (l.foldl nt q).cg
 |[],k,q,h,_=>h
 |f::l,k,q,h,hl=>by
  have:=UM l (k+1) (nt q f) (Q8 h (hl f (by simp))) fun g hg=>hl g (by simp[hg]);rw[eW,show k+(l.length+1)=k+1+l.length from by omega];exact this
theorem aeb(r:dm)(o n:Int):((BA r o n).length:Int)≤eb 0 n:=by
 unfold BA;split
 ·rw[UN];unfold eb;split<;>omega
 ·unfold eb;simp;split<;>omega
theorem Rk{s:aO}{m l:Int}(h0:0≤m)(h1:m≤1000)(hp:mK s.ring.cv s.pending)(_:s.ring.cv≤4611686018427387903):((nU s m l).data.length:Int)≤m:=by
 unfold nU;split
 ·split
  ·rename_i hok _ r hr;have hm:r∈s.pending:=List.mem_of_getElem? hr;have vE:=(hU _).1 (((kx _).1 hp.1).1 r hm);have hr2:=hp.2 r hm;have:=aeb s.ring r.low (IntKind.i64.wrap (lU r m l-r.low));simp only[nextOk,hr,bP,b2]at hok;obtain⟨_,k1,k2⟩:=hok;have aoD:dG r.high l≤r.high:=by unfold dG;split<;>omega
   have hh:lU r m l-r.low≤m∧0≤lU r m l-r.low:=by
    unfold lU at k2⊢;split
    ·rename_i g;rw[if_pos g]at k2;have e:eb m 0=m:=by unfold eb;split<;>omega
     rw[e]at k2⊢;rw[bz]at k2⊢<;>omega
    ·rename_i g;rw[bz]at g<;>omega
   have hw:IntKind.i64.wrap (lU r m l-r.low)=lU r m l-r.low:=by rw[bz]<;>omega
   simp only;rw[hw]at this⊢;unfold eb at this;split at this<;>omega
  ·simpa using h0
 ·simp[pD];omega
theorem UO{s:aO}{id kK db:Int}(hp:mK s.ring.cv s.pending)(he:s.ring.cv≤4611686018427387903):∀(n:Nat),n≤60→(pfGo s id kK db n).1.data.length≤60
 |0,_=>by simp[pfGo,pD]
 |n+1,hn=>by
  unfold pfGo;have:=Rk (m:=(n+1:Nat)) (l:=kK) (by omega) (by omega) hp he;split
  ·split
   ·show(nU s ((n+1:Nat):Int) kK).data.length≤60
    omega
   ·exact UO hp he n (by omega)
  ·simp[pD]
theorem Rb{m:Nat}{c:J}(h:cl m c)(hm:m≤1000)(id db:Int):(wB c id db).1.data.length≤60:=by
 have hs:=(h.aS id).snd;unfold wB;split
 ·refine UO hs.p (by have:=hs.ah;omega) _ ?_;unfold dG;split<;>omega
 ·simp[pD]
theorem UP{c:J}{id:Int}{p:cf}(h:yg c id p=true):(strOf c.streams id).2=true:=by
 simp only[yg,Cq,bP,and_assoc]at h;exact h.2.1
theorem Rf{m:Nat}{c:J}(h:cl m c)(id:Int)(p:cf)(hp:p.data.length≤1048576):cl m (A0 c id p):=by
 unfold A0;split
 ·rename_i hok;have:=z7 (s:=vu (aS c id) p) h (UP hok) rfl ⟨Re (h.aS id).snd hp,(h.aS id).fA,(h.aS id).yf⟩;exact this.same rfl rfl
 ·exact h
theorem Rd{m:Nat}{c:J}{id:Int}(h:cl m c)(hf:(strOf c.streams id).2=true):cl m (Ht c id):=by
 have:=z7 (s:=ye (aS c id)) h hf rfl ((h.aS id).same rfl rfl);exact this.same rfl rfl
theorem aec(l:List Int)(fq:Int):aftL l fq=-1∨aftL l fq∈l:=by
 unfold aftL;split
 ·rename_i x hx;exact Or.inr (List.mem_of_find?_eq_some hx)
 ·split
  ·exact Or.inl rfl
  ·exact Or.inr (by simp)
theorem aed(l:List dD)(fq:Int):nextS l fq=-1∨∃c∈l,c.id=nextS l fq:=by
 unfold nextS;split
 ·rename_i c hc;exact Or.inr ⟨c,List.mem_of_find?_eq_some hc,rfl⟩
 ·rcases aec (o3 (xg l) l) fq with h|h
  ·exact Or.inl h
  ·right;unfold o3 at h⊢;obtain⟨c,hc,hx⟩:=List.mem_flatMap.1 h;exact⟨c,hc,by simpa using((List.mem_filter.1 hx).2:_) |> cO |>.symm⟩
theorem UQ:∀(b9:List Int) (l:List dD) (c:dD),c∈b9.foldl my l→c∈l
 |[],_,_,h=>h
 |i::b9,l,c,h=>(List.mem_filter.1 (UQ b9 (my l i) c h)).1
theorem NT{l:List ae}{s:ae}(h:s∈l):(strOf l s.id).2=true:=by
 unfold strOf;split
 ·rfl
 ·rename_i hn;rw[List.find?_eq_none]at hn;have:=hn s h;simp[eP]at this
theorem Lp{q:nS}(h:0≤gV q):(strOf q.x.streams (gV q)).2=true:=by
 rcases aed (Co q) q.x.fq with h1|⟨c,hc,h1⟩
 ·unfold gV at h;omega
 ·have hw:=UQ q.skip (yd q.x) c hc;obtain⟨s,hs,rfl⟩:=List.mem_map.1 hw;have:=NT (List.mem_filter.1 hs).1;have e:s.id=gV q:=h1;rw[←e];exact this
theorem NU{m:Nat}(hm:m≤1000):∀(n k:Nat) (q:nS),nu m k q.x q.cg→nu m (k+n) (fillGo n q).x (fillGo n q).cg
 |0,k,q,h=>h
 |n+1,k,q,h=>by
  unfold fillGo;split
  ·exact h.mono (by omega)
  ·rename_i h0;split
   ·split
    ·rw[show k+(n+1)=k+1+n from by omega];refine NU hm n (k+1) (Cp q) ?_;have hl:=Rb h.c hm (gV q) q.db;exact h.add (Rf h.c _ _ (by unfold l6;omega)) hl
    ·exact h.mono (by omega)
   ·refine(NU hm n k (AX q) ⟨Rd h.c (Lp (by omega)),h.n,h.d⟩).mono (by omega)
theorem Q9{m:Nat}{c:J}(h:cl m c)(b:Int):nu m 102 (dP c b).x (dP c b).cg:=by
 obtain⟨h1,h2⟩:=Q6 h;exact(UM (iO c) 0 ⟨c,[],b⟩ ⟨h,by simp,by simp⟩ h2).mono (by omega)
theorem Q_{m:Nat}{c:J}(h:cl m c)(hm:m≤1000)(b:Int):nu m 302 (lJ c b).x (lJ c b).cg:=(NU hm 200 102 _ (Q9 h b)).mono (by omega)
theorem YG{m:Nat}{c:J}(h:cl m c)(hm:m≤1000)(b:Int):cl (m+1) (gn c b):=by
 have hb:=Q_ h hm b;unfold gn;split
 ·split
  ·exact hb.c.mono (by omega)
  ·have hc:=hb.c.mono (show m≤m+1 by omega);refine⟨hc.kO,hc.n1,?_,fun p hp=>?_⟩
   ·have:=hb.c.wA;simp;omega
   ·rcases et.1 hp with hp|hp
    ·exact hc.kt p hp
    ·simp at hp;subst hp;exact⟨by have:=hb.n;show(lJ c b).cg.length≤500;omega,hb.d⟩
 ·exact h.mono (by omega)
theorem aee(l:List ae)(s:ae):s∈putS l s:=by
 unfold putS;split
 ·rename_i i hi;rw[List.findIdx?_eq_some_iff_getElem]at hi;obtain⟨h,_⟩:=hi;exact List.mem_set h _
 ·have:∀(l:List ae) (q:List ae×Bool),(q.2=true→s∈q.1)→((l.foldl (iq s) q).2=true→s∈(l.foldl (iq s) q).1):=by
   intro l
   induction l with
   |nil=>intro q h;exact h
   |cons x l dW=>
    intro q h;rw[List.foldl_cons];refine dW _ ?_;unfold iq;split
    ·intro _;simp
    ·intro hq;simp only at hq⊢;exact List.mem_append_left _ (h hq)
  split
  ·rename_i h2;exact this l ([],false) (by simp) h2
  ·simp
theorem aef{id:Int}(h:bN id=true):hN id 0=id:=by
 simp only[bN,bK,bP,b2]at h;unfold hN;simp only[Int.natCast_zero,Int.mul_zero];rw[bz (n:=0) (by omega) (by omega),bz]<;>omega
theorem UR{v:Bool}{o p:bW}{id:Int}(hn:lV id o p=true):∀(k:Nat) (l:List ae),0<k→(strOf (ensL v o p id k l) id).2=true
 |0,_,h=>by omega
 |k+1,l,_=>by
  cases k with
  |zero=>
   have hq:bN id=true:=by simp only[lV,bP]at hn;exact hn.1.1
   have hi:(eX v (hN id 0) o p).id=id:=by rw[aef hq];unfold eX;rw[hn];rfl
   have:=NT (aee l (eX v (hN id 0) o p));rw[hi]at this;exact this
  |succ k=>exact UR hn (k+1) _ (by omega)
theorem aeg{l:List ae}{id:Int}(h:0≤fIx (eP id) l):(strOf l id).2=true:=by
 rcases uk (eP id) l with ⟨h1,_⟩|⟨j,al,h1,h2,aj⟩
 ·omega
 ·unfold strOf;rw[h2]
theorem xh{m:Nat}{c:J}{id:Int}(hc:cl m c)(h:fu c id=0):(strOf (bI c id).streams id).2=true:=by
 unfold fu at h;split at h
 ·omega
 ·rename_i h1;simp only[Bool.not_eq_true',Bool.not_eq_false,bP]at h1;split at h
  ·rename_i h2;have e:bI c id=c:=by
    unfold bI;have:decide (fIx (eP id) c.streams<0)=false:=bo (by omega);rw[this];simp
   rw[e];exact aeg h2
  ·rename_i h2;split at h
   ·omega
   ·rename_i aj;split at h
    ·rename_i aE;have hlt:decide (fIx (eP id) c.streams<0)=true:=bp (by omega);have e:(bI c id).streams=ensL c.bV c.own c.peer id (fB c id).toNat c.streams:=by
      unfold bI;rw[h1.1,h1.2,hlt,aE];have C1:im c.bV id=false:=by simpa using aj
      rw[C1];rfl
     rw[e];obtain⟨kg,_⟩:=B_ aE (by have:=hc.kO;omega);have hk:=h1.1;simp only[en,pt,oJ,bP,and_assoc]at hk;exact UR (by simp only[lV,bP];exact⟨⟨h1.2,hk.1⟩,hk.2.1⟩) _ _ (by omega)
    ·omega
theorem IM(s:ae)(e:Int):(lS s e).send=s.send∧(lS s e).recv=s.recv∧(lS s e).id=s.id:=by unfold lS;split<;>exact⟨rfl,rfl,rfl⟩
theorem IJ(c:J)(s:ae)(e:Int):(lR c s e).streams=c.streams∧(lR c s e).packets=c.packets:=by unfold lR;split<;>exact⟨rfl,rfl⟩
def z8(m:Nat)(r:bL):Prop:=(∀c∈r.buffer.bO,ud c)∧r.buffer.bO.length≤m
theorem fZ.aeh{m:Nat}{s:ae}(h:fZ m s){r:bL}(hr:z8 m r):fZ m (g5 s r):=⟨h.snd,hr.1,hr.2⟩
theorem fZ.rok{m:Nat}{s:ae}(h:fZ m s):z8 m s.recv:=⟨h.fA,h.yf⟩
theorem aei{m:Nat}{r:bL}(h:z8 m r)(o:Int)(d:List UInt8)(f:Bool)(hd:d.length≤8)(av:0≤o∧o≤900):z8 (m+1) (pQ r o d f):=by
 unfold pQ;split
 ·have:=PR r.buffer.next r.buffer.bO o d;exact⟨PQ h.1 av.1 (by omega),by have:=h.2;simp only[z_];omega⟩
 ·exact⟨h.1,by have:=h.2;omega⟩
theorem aej{m:Nat}{r:bL}(h:z8 m r)(c f:Int):z8 m (vT r c f):=by
 unfold vT;split
 ·exact⟨by simp,by simp⟩
 ·exact h
theorem aek{m:Nat}{r:bL}(h:z8 m r)(k:Int):z8 m (xa r k):=by
 unfold xa;split
 ·split
  ·exact h
  ·exact⟨XB h.1,by have:=XC r.buffer.next r.buffer.bO k;have:=h.2;simp only;omega⟩
 ·exact h
theorem I6{m:Nat}{c x:J}{id:Int}{s:ae}(h:cl m c)(hx:x.streams=c.streams∧x.packets=c.packets)(hf:(strOf c.streams id).2=true)(hi:s.id=id)(hs:fZ m s):cl m (eE x s):=
 NS (h.same hx.1 hx.2) (by rw[hx.1];exact hf) hi hs
theorem US{c:J}{f:ao}(h:yC c f=0):fu c f.stream=0:=by
 unfold yC at h
 repeat' split at h
 all_goals first|omega|assumption
theorem UT{c:J}{f:ao}(h:yI c f=0):fu c f.stream=0:=by
 unfold yI at h
 repeat' split at h
 all_goals first|omega|assumption
theorem UU{c:J}{f:ao}(h:yK c f=0):fu c f.stream=0:=by
 unfold yK at h
 repeat' split at h
 all_goals first|omega|assumption
theorem UW{c:J}{f:ao}(h:Bo c f=0):fu c f.stream=0:=by
 unfold Bo at h
 repeat' split at h
 all_goals first|omega|assumption
theorem TX{m:Nat}{x:J}{f:ao}(h:cl m x)(hd:f.data.length≤8)(av:0≤f.offset∧f.offset≤900):fZ (m+1) (Bn x f):=by
 obtain⟨dJ,e9,e_⟩:=IM (aS x f.stream) (uQ f);exact(((h.aS f.stream).mono (show m≤m+1 by omega)).same dJ e9).aeh (aei (h.aS f.stream).rok _ _ _ hd av)
theorem UX(x:J)(f:ao):(Bn x f).id=(aS x f.stream).id:=(IM (aS x f.stream) (uQ f)).2.2
theorem ael{m:Nat}{c:J}{f:ao}(h:cl m c)(hd:f.data.length≤8)(av:0≤f.offset∧f.offset≤900):cl (m+1) (zV c f):=by
 unfold zV;split
 ·rename_i he;have hx:=w6 h f.stream;have hf:=xh h (US he);exact I6 (hx.mono (by omega)) (IJ _ _ _) hf ((UX _ f).trans (pS hf)) (TX hx hd av)
 ·exact h.mono (by omega)
theorem Nh(x:J)(f:ao):(yJ x f).streams=x.streams∧(yJ x f).packets=x.packets:=by
 unfold yJ I7 uS;split<;>exact IJ _ _ _
theorem NV(x:J)(f:ao):(xb x f).send=(aS x f.stream).send∧(xb x f).recv=NW x f∧(xb x f).id=(aS x f.stream).id:=by
 obtain⟨dJ,e9,e_⟩:=IM (aS x f.stream) f.bn;unfold xb I8 w_ g5;split<;>exact⟨dJ,rfl,e_⟩
theorem T5{m:Nat}{x:J}{f:ao}(h:cl m x):fZ m (xb x f):=by
 obtain⟨dJ,e9,e_⟩:=NV x f;have hr:=aej (h.aS f.stream).rok f.code f.bn;exact⟨dJ▸(h.aS f.stream).snd,by rw[e9];exact hr.1,by rw[e9];exact hr.2⟩
theorem aem{m:Nat}{c:J}{f:ao}(h:cl m c):cl m (zW c f):=by
 unfold zW;split
 ·rename_i he;have hx:=w6 h f.stream;have hf:=xh h (UT he);exact I6 hx (Nh _ f) hf ((NV _ f).2.2.trans (pS hf)) (T5 hx)
 ·exact h
theorem fZ.NX{m:Nat}{s:ae}(h:fZ m s)(k:Int):fZ m (gg s k):=⟨adV h.snd k,h.fA,h.yf⟩
theorem T6{m:Nat}{x:J}{f:ao}(h:cl m x):fZ m (uy x f):=by
 unfold uy;split
 ·exact(h.aS f.stream).NX f.code
 ·exact h.aS f.stream
theorem UY(x:J)(f:ao):(uy x f).id=(aS x f.stream).id:=by unfold uy;split<;>rfl
theorem aen{m:Nat}{c:J}{f:ao}(h:cl m c):cl m (zX c f):=by
 unfold zX;split
 ·rename_i he;have hx:=w6 h f.stream;have hf:=xh h (UU he);exact I6 hx ⟨rfl,rfl⟩ hf ((UY _ f).trans (pS hf)) (T6 hx)
 ·exact h
theorem aeo{m:Nat}{c:J}{f:ao}(h:cl m c):cl m (C5 c f):=by
 unfold C5;split
 ·rename_i he;have hx:=w6 h f.stream;have hf:=xh h (UW he);split
  ·exact z7 (id:=f.stream) hx hf rfl ((hx.aS f.stream).same rfl rfl)
  ·exact hx
 ·exact h
theorem aep{m:Nat}{c:J}{f:ao}(h:cl m c):cl m (oW c f):=by
 unfold oW
 repeat' split
 all_goals first|exact h.same rfl rfl|exact aeo h
theorem YH{m:Nat}{c:J}{f:ao}(h:cl m c)(hd:f.data.length≤8)(av:0≤f.offset∧f.offset≤900):cl (m+1) (wq c f):=by
 unfold wq
 repeat' split
 ·exact ael h hd av
 ·exact(aem h).mono (by omega)
 ·exact(aen h).mono (by omega)
 ·exact(aep h).mono (by omega)
theorem z'{c:J}{id:Int}(h:kh c id=true):(strOf c.streams id).2=true:=by simp only[kh,bP]at h;exact h.1.2
theorem YB{m:Nat}{c:J}(h:cl m c)(id:Int){d:List UInt8}(hd:d.length≤8):cl (m+1) (gK c id d):=by
 unfold gK;split
 ·rename_i hg;have hw:fZ (m+1) (gY (aS c id) (uh (aS c id).send d)):=((h.aS id).mono (by omega)).Bz (by have:=NP (h.aS id).snd hd;rw[show(8 * (m+1:Nat):Int)=8 * m+8 from by omega];exact this);exact(z7 (id:=id) (h.mono (show m≤m+1 by omega)) (z' hg) rfl hw)
 ·exact h.mono (by omega)
theorem YE{m:Nat}{c:J}(h:cl m c)(id k:Int):cl m (kF c id k):=by
 unfold kF;split
 ·rename_i hg;simp only[xJ,bP]at hg;have hf:=z' hg.1;exact NS h hf (pS hf) ((h.aS id).NX k)
 ·exact h
theorem Ng(c:J)(id m:Int):(yH c id m).streams=c.streams∧(yH c id m).packets=c.packets:=by unfold yH uS;split<;>exact⟨rfl,rfl⟩
theorem NY(c:J)(id m:Int):(w9 c id m).send=(aS c id).send∧(w9 c id m).recv=mI c id m∧(w9 c id m).id=(aS c id).id:=by unfold w9 w_ I9 g5;split<;>exact⟨rfl,rfl,rfl⟩
theorem T3{m:Nat}{c:J}(h:cl m c)(id k:Int):fZ m (w9 c id k):=by
 obtain⟨dJ,e9,e_⟩:=NY c id k;have hr:=aek (h.aS id).rok k;exact⟨dJ▸(h.aS id).snd,by rw[e9];exact hr.1,by rw[e9];exact hr.2⟩
theorem YD{m:Nat}{c:J}(h:cl m c)(id k:Int):cl m (kH c id k):=by
 unfold kH;split
 ·rename_i hg;simp only[uR,bP]at hg;have hf:=hg.1.2;exact I6 h (Ng c id k) hf ((NY c id k).2.2.trans (pS hf)) (T3 h id k)
 ·exact h
theorem GB{m:Nat}{c:J}(h:cl m c)(n:Int):cl m (lZ c n):=
 ⟨h.kO,h.n1,Nat.le_trans (List.length_filter_le _ _) h.wA,fun p hp=>h.kt p (List.mem_filter.1 hp).1⟩
theorem UZ(s:ae)(f:ao):(hX s f).id=s.id:=by
 unfold hX;repeat' split
 all_goals rfl
theorem PA{m:Nat}{s:ae}(h:fZ m s)(f:ao):fZ m (hX s f):=by
 unfold hX;split
 ·exact h.Bz (ad2 h.snd)
 ·split
  ·exact⟨adW h.snd,h.fA,h.yf⟩
  ·split
   ·exact h.same rfl rfl
   ·exact h
theorem Pz{m:Nat}{c:J}(h:cl m c)(f:ao):cl m (ox c f):=by
 unfold ox;split
 ·rename_i hg;simp only[Dd,bP]at hg;exact NS h hg.1 ((UZ _ f).trans (pS hg.1)) (PA (h.aS _) f)
 ·exact h
theorem U0(s:ae)(f:ao):(m8 s f).id=s.id:=by
 unfold m8;repeat' split
 all_goals rfl
theorem PC{m:Nat}{s:ae}(h:fZ m s)(f:ao):fZ m (m8 s f):=by
 unfold m8
 repeat' split
 ·exact h.Bz (ad3 h.snd)
 all_goals exact h.same rfl rfl
theorem PB{m:Nat}{c:J}(h:cl m c)(f:ao):cl m (oz c f):=by
 unfold oz
 repeat' split
 all_goals first
  |exact h.same rfl rfl
  |(rename_i hg;simp only[Dd,bP]at hg;exact z7 h hg.1 (U0 _ f) (PC (h.aS _) f))
theorem DE{m:Nat}{g:J→ao→J}(hg:∀c f,cl m c→cl m (g c f)):∀(l:List ao) (c:J),cl m c→cl m (l.foldl g c)
 |[],_,h=>h
 |f::l,c,h=>DE hg l (g c f) (hg c f h)
theorem YJ{m:Nat}{c:J}(h:cl m c)(n:Int):cl m (At c n):=by
 unfold At;split
 ·exact DE (fun c f h=>Pz h f) _ _ (GB h n)
 ·exact h
theorem YI{m:Nat}{c:J}(h:cl m c)(n:Int):cl m (Av c n):=by
 unfold Av;split
 ·exact DE (fun c f h=>PB h f) _ _ (GB h n)
 ·exact h
theorem YK(v:Bool)(o p:bW):cl 0 (kY v o p):=by
 unfold kY;split<;>exact⟨by simp,by simp,by simp,by simp⟩
theorem KY{P:Program}{kv:List V}{az:List Oper}{K:St→Prop}(Inv:Nat→List Bool→St→Prop)
  (h0:∀S σ,Inv 0 S σ→rdyE S az [] S=[]∧K σ)
  (h1:∀n S σ (F:List Bool→St→Prop),Inv (n+1) S σ→(∀lF σ',Inv n lF σ'→F lF σ')→(rdyE S az [] S=[]→K σ)∧vj (rdyE S az [] S) fun o lF=>vk P kv az σ o (bG (fun σ'=>F lF σ') .mk)) :
  ∀n S σ,Inv n S σ→exE P kv az n S σ K
 |0,S,σ,h=>h0 S σ h
 |n+1,S,σ,h=>h1 n S σ (fun lF σ'=>exE P kv az n lF σ' K) h fun lF σ' h'=>KY Inv h0 h1 n lF σ' h'
theorem QG{az:List Oper}{S:List Bool}{Q:Prop}{x:Oper×List Bool}{r:List (Oper×List Bool)}{G:Oper→List Bool→Prop}(e:rdyE S az [] S=x::r)(h:vj (x::r) G):(rdyE S az [] S=[]→Q)∧vj (rdyE S az [] S) G:=⟨fun h'=>(by rw[e]at h';cases h'),(by rw[e];exact h)⟩
set_option maxRecDepth 100000
def RM:List (List bH):=cP 40 [12157665459056928800,12157665459056928798,12157665459056928792,12157665459056928774,12157665459056928720,12157665459056925642,12157665459056928315,12157665459056926857,12157665459056922240,12157665459056909118,12157665459056869752,12157665459056751654,12157665459056397360,12157665459055334478,12157665459052145832,12157665459042579894,12157665459013882080,12157665458927788638,12157665458669508312,12157665457894667334,12157665455570144400,12157665448596575598,12157665427675869192,12157665364913749974,12157665176627392320,12157664611768319358,12157662917191100472,12157657833459443814,12157642582264473840,12157596828679563918,12157459567924834152,12157047785660644854,12155812438868076960,12152106398490373278,12140988277357262232,12107633913957929094,12007570823759929680,11707381553165931438,10806813741383936712,8105110306037952534]
attribute [go_sem] RM
theorem Ee{P:Program}{kv:List V}{az:List Oper}{σ:St}{K:St→Prop}(s:St)(h:exE P kv az az.length (List.replicate az.length false) σ (fun σ'=>σ'=s))(hk:K s):Cv P kv az.toArray σ K:=jB (fun σ'=>σ'=s) h (fun σ' e=>by rw[e];exact hk)
def oneB(b:Bool):Int:=if b then 1 else 0
def LH:List (Nat×List Bool):=[(12,[false,false,false,false,false,false,false,false,false,false,false,false]),(11,[true,false,false,false,false,false,false,false,false,false,false,false]),(11,[false,false,true,false,false,false,false,false,false,false,false,false]),(11,[false,false,false,false,true,false,false,false,false,false,false,false]),(10,[true,true,false,false,false,false,false,false,false,false,false,false]),(10,[true,false,true,false,false,false,false,false,false,false,false,false]),(10,[true,false,false,false,true,false,false,false,false,false,false,false]),(10,[false,false,true,true,false,false,false,false,false,false,false,false]),(10,[false,false,true,false,true,false,false,false,false,false,false,false]),(10,[false,false,false,false,true,true,false,false,false,false,false,false]),(9,[true,true,true,false,false,false,false,false,false,false,false,false]),(9,[true,true,false,false,true,false,false,false,false,false,false,false]),(9,[true,true,false,false,false,false,true,false,false,false,false,false]),(9,[true,false,true,true,false,false,false,false,false,false,false,false]),(9,[true,false,true,false,true,false,false,false,false,false,false,false]),(9,[true,false,false,false,true,true,false,false,false,false,false,false]),(9,[false,false,true,true,true,false,false,false,false,false,false,false]),(9,[false,false,true,false,true,true,false,false,false,false,false,false]),(8,[true,true,true,true,false,false,false,false,false,false,false,false]),(8,[true,true,true,false,true,false,false,false,false,false,false,false]),(8,[true,true,true,false,false,false,true,false,false,false,false,false]),(8,[true,true,false,false,true,true,false,false,false,false,false,false]),(8,[true,true,false,false,true,false,true,false,false,false,false,false]),(8,[true,true,false,false,false,false,true,true,false,false,false,false]),(8,[true,false,true,true,true,false,false,false,false,false,false,false]),(8,[true,false,true,false,true,true,false,false,false,false,false,false]),(8,[false,false,true,true,true,true,false,false,false,false,false,false]),(7,[true,true,true,true,true,false,false,false,false,false,false,false]),(7,[true,true,true,true,false,false,true,false,false,false,false,false]),(7,[true,true,true,false,true,true,false,false,false,false,false,false]),(7,[true,true,true,false,true,false,true,false,false,false,false,false]),(7,[true,true,true,false,false,false,true,true,false,false,false,false]),(7,[true,true,false,false,true,true,true,false,false,false,false,false]),(7,[true,true,false,false,true,false,true,true,false,false,false,false]),(7,[true,false,true,true,true,true,false,false,false,false,false,false]),(6,[true,true,true,true,true,true,false,false,false,false,false,false]),(6,[true,true,true,true,true,false,true,false,false,false,false,false]),(6,[true,true,true,true,false,false,true,true,false,false,false,false]),(6,[true,true,true,false,true,true,true,false,false,false,false,false]),(6,[true,true,true,false,true,false,true,true,false,false,false,false]),(6,[true,true,false,false,true,true,true,true,false,false,false,false]),(5,[true,true,true,true,true,true,true,false,false,false,false,false]),(5,[true,true,true,true,true,false,true,true,false,false,false,false]),(5,[true,true,true,true,false,false,true,true,true,false,false,false]),(5,[true,true,true,false,true,true,true,true,false,false,false,false]),(4,[true,true,true,true,true,true,true,true,false,false,false,false]),(4,[true,true,true,true,true,false,true,true,true,false,false,false]),(4,[true,true,true,true,false,false,true,true,true,true,false,false]),(3,[true,true,true,true,true,true,true,true,true,false,false,false]),(3,[true,true,true,true,true,false,true,true,true,true,false,false]),(2,[true,true,true,true,true,true,true,true,true,true,false,false]),(1,[true,true,true,true,true,true,true,true,true,true,true,false]),(0,[true,true,true,true,true,true,true,true,true,true,true,true])]
def HH(eH fh:Int)(eI:List UInt8)(fH:Bool)(fI fx fQ:Int)(fV:Bool)(S:List Bool):St:=⟨(.agg [.i 8,.i eH,.i fh,.d (.str eI),.d (.bool fH),.i fI,.i fx,.i fQ,.d (.bool fV)]::.ptr 0 0 0::.ptr 1 0 0::.ptr 2 0 0::.ptr 0 0 0::.i 8::.agg [.i 8,.i 0,.i 0,.d (.str []),.d (.bool false),.i 0,.i 0,.i 0,.d (.bool false)]::.agg [.i 8,.i eH,.i fh,.d (.str eI),.d (.bool fH),.i fI,.i fx,.i fQ,.d (.bool fV)]::.d (.bool true)::.ptr 0 0 1::.i eH::.ptr 2 0 1::.ptr 0 0 0::.i 8::jn 3 (.d (.bool false)::.d (.bool false)::jn 6 (.d (.bool false)::.d (.bool false)::jn 3 (.d (.bool true)::.d (.bool true)::(ay S 0 (.ptr 0 0 2))::(ay S 1 (.i fh))::(ay S 2 (.ptr 0 0 3))::(ay S 3 (.d (.str eI)))::(ay S 4 (.ptr 0 0 4))::(ay S 5 (.d (.bool fH)))::(ay S 6 (.ptr 2 0 2))::(ay S 8 (.ptr 2 0 3))::(ay S 10 (.ptr 2 0 4))::jn 10 [])))),[.box [.i 8,.i eH,.i fh,.d (.str eI),.d (.bool fH),.i fI,.i fx,.i fQ,.d (.bool fV)],.box ao.bw,.box [.i 8,.i eH,(bif S.getD 7 false then .i fh else .i 0),(bif S.getD 9 false then .d (.str eI)else .d (.str [])),(bif S.getD 11 false then .d (.bool fH)else .d (.bool false)),.i 0,.i 0,.i 0,.d (.bool false)]]⟩
theorem Z7(eu eH fh:Int)(eI:List UInt8)(fH:Bool)(fI fx fQ:Int)(fV:Bool):aJ 144 [.agg [.int .i64 eu,.int .i64 eH,.int .i64 fh,.str eI,.bool fH,.int .i64 fI,.int .i64 fx,.int .i64 fQ,.bool fV]] [.agg (ao.enc (hD (⟨eu,eH,fh,eI,fH,fI,fx,fQ,fV⟩:ao)))]:=by
 refine aN 51 Tryz.func144 Tryz.call144 [.cell 2 125] ?_;intro _;by_cases fY:eu=8
 ·subst fY;have ah:lK 8=true:=rfl
  try simp only[go_sem]
  repeat'(refine ab.intro (by apply RJ) ?_<;>simp only[go_sem,ah,show decide ((8:Int)=4)=false from rfl,show decide ((8:Int)=5)=false from rfl])
  refine jB (fun σ'=>σ'=HH eH fh eI fH fI fx fQ fV (List.replicate 12 true)) ?_ ?_
  ·refine KY (fun n S σ=>(n,S)∈LH∧σ=HH eH fh eI fH fI fx fQ fV S) ?_ ?_ _ _ _ ⟨by first|exact List.Mem.head _|decide +kernel,rfl⟩
   ·rintro S σ ⟨aT,rfl⟩;simp only[LH,List.mem_cons,c1,List.not_mem_nil,or_false]at aT;rcases aT with ⟨hn,rfl⟩|⟨hn,rfl⟩|⟨hn,rfl⟩|⟨hn,rfl⟩|⟨hn,rfl⟩|⟨hn,rfl⟩|⟨hn,rfl⟩|⟨hn,rfl⟩|⟨hn,rfl⟩|⟨hn,rfl⟩|⟨hn,rfl⟩|⟨hn,rfl⟩|⟨hn,rfl⟩|⟨hn,rfl⟩|⟨hn,rfl⟩|⟨hn,rfl⟩|⟨hn,rfl⟩|⟨hn,rfl⟩|⟨hn,rfl⟩|⟨hn,rfl⟩|⟨hn,rfl⟩|⟨hn,rfl⟩|⟨hn,rfl⟩|⟨hn,rfl⟩|⟨hn,rfl⟩|⟨hn,rfl⟩|⟨hn,rfl⟩|⟨hn,rfl⟩|⟨hn,rfl⟩|⟨hn,rfl⟩|⟨hn,rfl⟩|⟨hn,rfl⟩|⟨hn,rfl⟩|⟨hn,rfl⟩|⟨hn,rfl⟩|⟨hn,rfl⟩|⟨hn,rfl⟩|⟨hn,rfl⟩|⟨hn,rfl⟩|⟨hn,rfl⟩|⟨hn,rfl⟩|⟨hn,rfl⟩|⟨hn,rfl⟩|⟨hn,rfl⟩|⟨hn,rfl⟩|⟨hn,rfl⟩|⟨hn,rfl⟩|⟨hn,rfl⟩|⟨hn,rfl⟩|⟨hn,rfl⟩|⟨hn,rfl⟩|⟨hn,rfl⟩|⟨hn,rfl⟩
    all_goals(first|exact absurd hn (by decide)|skip)
    exact⟨rfl,rfl⟩
   ·rintro n S σ F ⟨aT,rfl⟩ cd;simp only[LH,List.mem_cons,c1,List.not_mem_nil,or_false]at aT;rcases aT with ⟨hn,rfl⟩|⟨hn,rfl⟩|⟨hn,rfl⟩|⟨hn,rfl⟩|⟨hn,rfl⟩|⟨hn,rfl⟩|⟨hn,rfl⟩|⟨hn,rfl⟩|⟨hn,rfl⟩|⟨hn,rfl⟩|⟨hn,rfl⟩|⟨hn,rfl⟩|⟨hn,rfl⟩|⟨hn,rfl⟩|⟨hn,rfl⟩|⟨hn,rfl⟩|⟨hn,rfl⟩|⟨hn,rfl⟩|⟨hn,rfl⟩|⟨hn,rfl⟩|⟨hn,rfl⟩|⟨hn,rfl⟩|⟨hn,rfl⟩|⟨hn,rfl⟩|⟨hn,rfl⟩|⟨hn,rfl⟩|⟨hn,rfl⟩|⟨hn,rfl⟩|⟨hn,rfl⟩|⟨hn,rfl⟩|⟨hn,rfl⟩|⟨hn,rfl⟩|⟨hn,rfl⟩|⟨hn,rfl⟩|⟨hn,rfl⟩|⟨hn,rfl⟩|⟨hn,rfl⟩|⟨hn,rfl⟩|⟨hn,rfl⟩|⟨hn,rfl⟩|⟨hn,rfl⟩|⟨hn,rfl⟩|⟨hn,rfl⟩|⟨hn,rfl⟩|⟨hn,rfl⟩|⟨hn,rfl⟩|⟨hn,rfl⟩|⟨hn,rfl⟩|⟨hn,rfl⟩|⟨hn,rfl⟩|⟨hn,rfl⟩|⟨hn,rfl⟩|⟨hn,rfl⟩
    rotate_right 1
    ·exact absurd hn (by omega)
    all_goals(
     simp only[Nat.reduceEqDiff]at hn
     try subst hn
     simp only[HH,ay,e4,e1,cond_true,cond_false];refine QG rfl ?_
     repeat'(first
      |exact AT
      |(refine AU ?_ ?_)
      |exact cd _ _ ⟨by first|exact List.Mem.head _|decide +kernel,rfl⟩
      |simp only[go_sem]))
  ·rintro _ rfl;simp only[HH,List.replicate,ay,e4,e1,cond_true];simp only[go_sem];simp[hD,lK]
 ·skip
  try simp only[go_sem]
  repeat'((first|refine ab.intro (by apply RJ) ?_|refine bt (fun h=>?_) (fun h=>?_))<;>simp only[go_sem])
  all_goals(first|(exfalso;simp only[b2,dN]at *;omega)|skip)
  all_goals(try(apply Ee;(focus ((repeat'(first|exact AT|(refine AU ?_ ?_)|(refine Ef rfl ?_)|(refine Eg rfl ?_)|(simp only[go_sem])));all_goals exact rfl));simp only[go_sem]))
  all_goals(simp only[b2,dN]at *;first|(exfalso;omega)|(exfalso;simp_all [lK];done)|(simp[hD, *];done)|(simp[hD,lK]at *;simp[ *];done)|(simp_all [hD,lK];done))
theorem Z8(f:ao):(bif bif bif bif bif bif !kindOk f.kind then true else !decide (f=hD f)then true else !bN f.stream then true else !bN f.offset then true else !bN f.code then true else !bN f.aR then true else !bN f.bn)=!(kindOk f.kind&&decide (f=hD f)&&bN f.stream&&bN f.offset&&bN f.code&&bN f.aR&&bN f.bn):=by
 cases kindOk f.kind<;>cases decide (f=hD f)<;>cases bN f.stream<;>cases bN f.offset<;>cases bN f.code<;>cases bN f.aR<;>cases bN f.bn<;>rfl
def Cw(f:ao):Bool:=kindOk f.kind&&decide (f=hD f)&&bN f.stream&&bN f.offset&&bN f.code&&bN f.aR&&bN f.bn
theorem Z9(f:ao):fM f=(Cw f&&if f.kind=18∨f.kind=22 then decide (f.aR≤1152921504606846976)else(decide ((f.data.length:Int)≤400)&&decide (f.offset≤IntKind.i64.wrap (4611686018427387903-(f.data.length:Int))))):=by
 by_cases hu:hD f=f
 ·have h1:f.offset=if f.kind=8 then f.offset else 0:=congrArg ao.offset hu.symm
  have h2:f.data=if f.kind=8 then f.data else []:=congrArg ao.data hu.symm
  have ah:decide (hD f=f)=true:=bp hu;have ai:decide (f=hD f)=true:=bp hu.symm;unfold fM A2 Cw;rw[ah,ai];by_cases fY:f.kind=8
  ·have h5:¬(f.kind=18∨f.kind=22):=by omega
   simp only[fY,if_true];rw[←fY];simp only[h5,if_false];have e:(!decide (400<(f.data.length:Int)))=decide ((f.data.length:Int)≤400):=by by_cases h:(f.data.length:Int)≤400<;>simp[h]<;>omega
   rw[e];simp only[Bool.and_assoc]
  ·rw[if_neg fY]at h1 h2;have w:decide ((0:Int)≤IntKind.i64.wrap (4611686018427387903-(([]:List UInt8).length:Int)))=true:=by decide
   by_cases h5:f.kind=18∨f.kind=22
   ·rw[if_neg fY,if_pos h5,if_pos h5,h1,h2];simp
   ·rw[if_neg fY,if_neg h5,if_neg h5,h1,h2,w];simp
 ·have ah:decide (hD f=f)=false:=bo hu;have ai:decide (f=hD f)=false:=bo (fun h=>hu h.symm);unfold fM A2 Cw;rw[ah,ai];simp
theorem Xq(eu eH fh:Int)(eI:List UInt8)(fH:Bool)(fI fx fQ:Int)(fV:Bool):aJ 104 [.agg [.int .i64 eu,.int .i64 eH,.int .i64 fh,.str eI,.bool fH,.int .i64 fI,.int .i64 fx,.int .i64 fQ,.bool fV]] [.one (.bool (fM (⟨eu,eH,fh,eI,fH,fI,fx,fQ,fV⟩:ao)))]:=by
 refine aN 67 Tryz.func104 Tryz.call104 [.tmp 2] ?_;intro _;have hk:decide (wG eu=[])=!kindOk eu:=by have:=RI eu;rw[←this];cases wG eu<;>rfl
 have hf:=RL (⟨eu,eH,fh,eI,fH,fI,fx,fQ,fV⟩:ao) (hD (⟨eu,eH,fh,eI,fH,fI,fx,fQ,fV⟩:ao));simp only at hf;have ag:=Z8 (⟨eu,eH,fh,eI,fH,fI,fx,fQ,fV⟩:ao)
 try simp only[go_sem]
 repeat'((first|refine au.intro (by first|apply Z5|apply Z7|apply uc) ?_|refine e8 ?_|refine ba RM (by kernel_rfl) (by rfl) ?_)<;>simp only[go_sem,hk,hf])
 rw[ag];rw[Z9]
 cases dF:Cw (⟨eu,eH,fh,eI,fH,fI,fx,fQ,fV⟩:ao)with
 |false=>
  unfold Cw at dF;rw[dF];simp only[go_sem,cc]
  try simp
 |true=>
  unfold Cw at dF;rw[dF];simp only[go_sem,bS]
  try simp only[go_sem]
  repeat'((first|refine a7 ?_|refine bt (fun h=>?_) (fun h=>?_))<;>simp only[go_sem])
  ·have h':eu=18∨eu=22:=by revert h;simp
   simp[h']
  ·have h':¬(eu=18∨eu=22):=by revert h;simp
   simp only[if_neg h',cw]
set_option maxRecDepth 100000
def QV:List (List bH):=cP 10 [55769,57958,58963,58945,59008,58810,58324,56863,52488,39366]
attribute [go_sem] QV
theorem QW(c:J):aJ 283 [.agg (J.enc c)] [.agg (ep.enc ((uu c).1)),.one (.bool (uu c).2)]:=by
 refine aN 26 Tryz.func283 Tryz.call283 [.cell 2 30,.tmp 3] ?_;intro _
 try simp only[go_sem]
 repeat'(refine ab.intro (by apply Li) ?_<;>simp only[go_sem])
 cases h:oK c.dO with
 |true=>
  try simp only[go_sem]
  repeat'(refine ab.intro (by apply QX) ?_<;>simp only[go_sem])
  simp[uu,h]
 |false=>
  simp only[go_sem];apply Ee;(focus ((repeat'(first|exact AT|(refine AU ?_ ?_)|(refine Ef rfl ?_)|(refine Eg rfl ?_)|(simp only[go_sem])));all_goals exact rfl));simp only[go_sem];simp[uu,h]
theorem Hj(eA ei eB eC:Int)(t:Bool):aJ 284 [.agg [.int .i64 eA,.int .i64 ei,.int .i64 eB,.int .i64 eC],.one (.bool t)] [.agg [.int .i64 ((jM (⟨eA,ei,eB,eC⟩:dB) t).1).most,.int .i64 ((jM (⟨eA,ei,eB,eC⟩:dB) t).1).aR,.int .i64 ((jM (⟨eA,ei,eB,eC⟩:dB) t).1).seen,.int .i64 ((jM (⟨eA,ei,eB,eC⟩:dB) t).1).closed],.one (.bool ((jM (⟨eA,ei,eB,eC⟩:dB) t).2))]:=by
 refine aN 19 Tryz.func284 Tryz.call284 [.cell 4 34,.tmp 5] ?_;intro _
 try simp only[go_sem]
 repeat'((first|refine ab.intro (by first|apply QY|apply YZ) ?_|refine bt (fun h=>?_) (fun h=>?_))<;>simp only[go_sem])
 all_goals simp[jM, *]
theorem Y0(s:ae):(bif bif !s.fC then true else decide (s.recv.state≠0)then true else s.lG)=!Hk s:=by
 unfold Hk
 cases s.fC<;>cases s.lG<;>by_cases h:s.recv.state=0<;>simp[h]
theorem QZ(c:J)(s:ae):aJ 317 [.agg (J.enc c),.agg (ae.enc s)] [.agg (ep.enc ((pA c s).1)),.one (.bool (pA c s).2)]:=by
 refine aN 43 Tryz.func317 Tryz.call317 [.cell 4 30,.tmp 5] ?_;intro _;have bM:=Y0 s
 try simp only[go_sem]
 repeat'(refine a7 ?_<;>simp only[go_sem])
 rw[bM]
 cases hg:Hk s with
 |false=>
  try simp only[go_sem,cc]
  all_goals simp[pA, *]
 |true=>
  try simp only[go_sem,bS]
  repeat'(refine ab.intro (by apply Li) ?_<;>simp only[go_sem])
  cases h:oK s.bX with
  |true=>
   try simp only[go_sem]
   repeat'(refine ab.intro (by apply QX) ?_<;>simp only[go_sem])
   simp[pA,h,hg]
  |false=>
   simp only[go_sem];apply Ee;(focus ((repeat'(first|exact AT|(refine AU ?_ ?_)|(refine Ef rfl ?_)|(refine Eg rfl ?_)|(simp only[go_sem])));all_goals exact rfl));simp only[go_sem];simp[pA,h,hg]
theorem Y1(s:ae):(bif bif mw s.dL then s.eU else false then decide (0<(s.send.pending.length:Int))else false)=(mw s.dL&&s.eU&&decide (0<(s.send.pending.length:Int))):=by cases mw s.dL<;>cases s.eU<;>rfl
theorem Y2(s:ae):(bif s.iM then decide (s.recv.state<2)else false)=(s.iM&&decide (s.recv.state<2)):=by cases s.iM<;>rfl
theorem Y3(c:J)(s:ae):aJ 285 [.agg (J.enc c),.agg (ae.enc s)] [.one (.sl 9 ((jN c s).map ao.enc))]:=by
 refine ub 78 Tryz.func285 Tryz.call285 [.tmp 4] ?_;intro ok;clear ok;have ag:jN c s=nR s++uv s++ya c s++zn s:=rfl;have h4:=Eh c s;rw[ag]at h4;simp only[eG]at h4;refine fi b1 3 (α:=List ao) (fun cS=>⟨(.ak::.ak::.ptr 0 0 0::.ptr 1 0 0::.ak::.sl 2 0 cS.length::jn 72 []),[.box (J.bE c),.box (ae.bE s),.ar 9 (cS.map ao.enc) true]⟩) (fun cS=>cS=nR s) ?_ ?_
 ·skip
  try simp only[go_sem]
  cases h:s.iJ with
  |true=>
   try simp only[go_sem]
   repeat'(first|(with_reducible refine aw ?_)|fail)
   refine dS.intro (nR s) [0,1,4] rfl ?_;simp only[go_sem];simp[nR,h,zo,ao.enc]
  |false=>
   simp only[go_sem];refine dS.intro (nR s) [0,1,2] rfl ?_;simp only[go_sem];simp[nR,h]
 rintro cS e3;have hY:cS.length≤4:=by rw[e3];(try simp only[eG]);omega
 refine fi b1 1 (α:=List ao) (fun cS=>⟨(.ak::.ak::.ptr 0 0 0::.ptr 1 0 0::.ak::.sl 2 0 cS.length::jn 72 []),[.box (J.bE c),.box (ae.bE s),.ar 9 (cS.map ao.enc) true]⟩) (fun cS=>cS=nR s++uv s) ?_ ?_
 ·skip
  try simp only[go_sem]
  repeat'(refine a7 ?_<;>simp only[go_sem])
  rw[Y2 s]
  cases h:s.iM&&decide (s.recv.state<2)with
  |true=>
   try simp only[go_sem,I]
   repeat'(first|(with_reducible refine aw ?_)|fail)
   refine dS.intro (nR s++uv s) [0,1,4] rfl ?_;simp only[go_sem];simp[uv,h,e3,zo,ao.enc]
  |false=>
   simp only[go_sem];refine dS.intro (nR s++uv s) [0,1,2] rfl ?_;simp only[go_sem];simp[uv,h,e3]
 rintro cS e3;have hY:cS.length≤4:=by rw[e3];(try simp only[eG]);omega
 refine fi b1 2 (α:=List ao) (fun cS=>⟨(.ak::.ak::.ptr 0 0 0::.ptr 1 0 0::.ak::.sl 2 0 cS.length::jn 72 []),[.box (J.bE c),.box (ae.bE s),.ar 9 (cS.map ao.enc) true]⟩) (fun cS=>cS=nR s++uv s++ya c s) ?_ ?_
 ·skip
  try simp only[go_sem]
  repeat'(refine ab.intro (by apply QZ) ?_<;>simp only[go_sem])
  cases h:(pA c s).2 with
  |true=>
   try simp only[go_sem,I]
   repeat'(first|(with_reducible refine aw ?_)|fail)
   refine dS.intro (nR s++uv s++ya c s) [0,1,5] rfl ?_;simp only[go_sem];simp[ya,h,e3,wv,ao.enc]
  |false=>
   simp only[go_sem];refine dS.intro (nR s++uv s++ya c s) [0,1,2] rfl ?_;simp only[go_sem];simp[ya,h,e3]
 rintro cS e3;have hY:cS.length≤4:=by rw[e3];(try simp only[eG]);omega
 refine ng b1 ?_
 try simp only[go_sem]
 repeat'((first|refine ab.intro (by apply Q0) ?_|refine a7 ?_)<;>simp only[go_sem,I])
 rw[Y1 s]
 cases h:mw s.dL&&s.eU&&decide (0<(s.send.pending.length:Int))with
 |true=>
  have cd:zn s=[wv 21 s.id s.dL.aR]:=by unfold zn;rw[h];rfl
  try simp only[go_sem,I]
  repeat'(first|(with_reducible refine aw ?_)|fail)
  rw[ag,←e3,cd];simp[wv,ao.enc,dH]
 |false=>
  have cd:zn s=[]:=by unfold zn;rw[h];rfl
  try simp only[go_sem,I]
  repeat'(first|(with_reducible refine aw ?_)|fail)
  rw[ag,←e3,cd];simp
def iv(c:J):List ao:=(if(uu c).2 then [iN 16 (uu c).1.aR false]else [])
def jO(c:J):List ao:=(if(jM c.cu c.mW).2 then [iN 18 (jM c.cu c.mW).1.aR false]else [])
def kI(c:J):List ao:=(if(jM c.ct c.mX).2 then [iN 18 (jM c.ct c.mX).1.aR true]else [])
def pB(c:J):List ao:=(if mw c.cY then [iN 20 c.cY.aR false]else [])
def wx(c:J):List ao:=(if c.e7.blocked=c.e7.aR then [iN 22 c.e7.aR false]else [])
def Ck(c:J):List ao:=(if c.e6.blocked=c.e6.aR then [iN 22 c.e6.aR true]else [])
theorem Ei(b:Prop)[Decidable b](f:ao):(if b then [f]else []).length≤1:=by split<;>simp
theorem Y4(c:J)(hz:gG c):aJ 239 [.agg (J.enc c)] [.one (.sl 9 ((iO c).map ao.enc))]:=by
 refine ub 113 Tryz.func239 Tryz.call239 [.tmp 2] ?_;intro ok;clear ok;have hQ:c.streams.length≤30:=hz.1;have ag:iO c=if kb c then iv c++jO c++kI c++c.streams.flatMap (jN c)++(pB c++wx c++Ck c)else []:=rfl
 have cm:(iv c).length≤1:=Ei _ _;have cB:(jO c).length≤1:=Ei _ _;have cx:(kI c).length≤1:=Ei _ _;have nk:(pB c).length≤1:=Ei _ _;have jc:(wx c).length≤1:=Ei _ _;have ahr:=Hl (jN c) 4 c.streams fun s _=>Eh c s;refine fi b1 3 (α:=List ao) (fun cS=>⟨(.ak::.ptr 0 0 0::.ak::.sl 1 0 cS.length::jn 109 []),[.box (J.bE c),.ar 9 (cS.map ao.enc) true]⟩) (fun cS=>cS=[]∧kb c=true) ?_ ?_
 ·skip
  try simp only[go_sem]
  repeat'(refine ab.intro (by(apply v7<;>exact aP)) ?_<;>simp only[go_sem])
  cases h:kb c with
  |false=>
   simp only[go_sem,cc];rw[ag,h];simp
  |true=>
   simp only[go_sem,bS];refine dS.intro [] [0,1] (by first|exact⟨rfl,rfl⟩|rfl) ?_;simp only[go_sem];simp
 rintro cS ⟨e3,cd⟩;have ag:iO c=iv c++jO c++kI c++c.streams.flatMap (jN c)++(pB c++wx c++Ck c):=by rw[ag,cd];rfl
 have hY:cS.length≤0:=by rw[e3];simp
 refine fi b1 2 (α:=List ao) (fun cS=>⟨(.ak::.ptr 0 0 0::.ak::.sl 1 0 cS.length::jn 109 []),[.box (J.bE c),.ar 9 (cS.map ao.enc) true]⟩) (fun cS=>cS=iv c) ?_ ?_
 ·skip
  try simp only[go_sem]
  repeat'(refine ab.intro (by apply QW) ?_<;>simp only[go_sem])
  cases h:(uu c).2 with
  |true=>
   have bT:iv c=[iN 16 (uu c).1.aR false]:=by unfold iv;rw[h];rfl
   try simp only[go_sem,I]
   repeat'(first|(with_reducible refine aw ?_)|fail)
   refine dS.intro (iv c) [0,4] rfl ?_;simp only[go_sem];simp[bT,e3,iN,ao.enc]
  |false=>
   have bT:iv c=[]:=by unfold iv;rw[h];rfl
   simp only[go_sem];refine dS.intro (iv c) [0,1] rfl ?_;simp only[go_sem];simp[bT,e3]
 clear hY e3;rintro cS e3;have hY:cS.length≤100:=by rw[e3];(try simp only[eG]);omega
 refine fi b1 2 (α:=List ao) (fun cS=>⟨(.ak::.ptr 0 0 0::.ak::.sl 1 0 cS.length::jn 109 []),[.box (J.bE c),.ar 9 (cS.map ao.enc) true]⟩) (fun cS=>cS=iv c++jO c) ?_ ?_
 ·skip
  try simp only[go_sem]
  repeat'(refine ab.intro (by apply Hj) ?_<;>simp only[go_sem])
  cases h:(jM c.cu c.mW).2 with
  |true=>
   have bT:jO c=[iN 18 (jM c.cu c.mW).1.aR false]:=by unfold jO;rw[h];rfl
   try simp only[go_sem,I]
   repeat'(first|(with_reducible refine aw ?_)|fail)
   refine dS.intro (iv c++jO c) [0,4] rfl ?_;simp only[go_sem];simp[bT,e3,iN,ao.enc]
  |false=>
   have bT:jO c=[]:=by unfold jO;rw[h];rfl
   simp only[go_sem];refine dS.intro (iv c++jO c) [0,1] rfl ?_;simp only[go_sem];simp[bT,e3]
 clear hY e3;rintro cS e3;have hY:cS.length≤100:=by rw[e3];(try simp only[eG]);omega
 refine fi b1 2 (α:=List ao) (fun cS=>⟨(.ak::.ptr 0 0 0::.ak::.sl 1 0 cS.length::jn 109 []),[.box (J.bE c),.ar 9 (cS.map ao.enc) true]⟩) (fun cS=>cS=iv c++jO c++kI c) ?_ ?_
 ·skip
  try simp only[go_sem]
  repeat'(refine ab.intro (by apply Hj) ?_<;>simp only[go_sem])
  cases h:(jM c.ct c.mX).2 with
  |true=>
   have bT:kI c=[iN 18 (jM c.ct c.mX).1.aR true]:=by unfold kI;rw[h];rfl
   try simp only[go_sem,I]
   repeat'(first|(with_reducible refine aw ?_)|fail)
   refine dS.intro (iv c++jO c++kI c) [0,4] rfl ?_;simp only[go_sem];simp[bT,e3,iN,ao.enc,Nat.add_assoc]
  |false=>
   have bT:kI c=[]:=by unfold kI;rw[h];rfl
   simp only[go_sem];refine dS.intro (iv c++jO c++kI c) [0,1] rfl ?_;simp only[go_sem];simp[bT,e3]
 clear hY e3;rintro cS e3;have hY:cS.length≤100:=by rw[e3];(try simp only[eG]);omega
 refine fi b1 1 (α:=List ao) (fun cS=>⟨(.ak::.ptr 0 0 0::.ak::.sl 1 0 cS.length::jn 109 []),[.box (J.bE c),.ar 9 (cS.map ao.enc) true]⟩) (fun cS=>cS=iv c++jO c++kI c++c.streams.flatMap (jN c)) ?_ ?_
 ·simp only[go_sem];subst e3;refine b7.intro (α:=Nat×List ao) (fun y=>⟨(.ak::.ptr 0 0 0::.ak::.sl 1 0 y.2.length::jn 6 (.i y.1::jn 102 [])),[.box (J.bE c),.ar 9 (y.2.map ao.enc) true]⟩)
   (fun y=>c.streams.length-y.1) (fun y=>y.1≤c.streams.length∧y.2=iv c++jO c++kI c++(c.streams.take y.1).flatMap (jN c)) (0,iv c++jO c++kI c) [0,1] ⟨by simp,by simp⟩ ?_ ?_
  ·simp only[go_sem];simp
  ·rintro⟨i,q⟩ ⟨hi,hq⟩;simp only at hi hq;by_cases h1:i<c.streams.length
   ·have ax:decide ((i:Int)<(c.streams.length:Int))=true:=bp (by omega);have aq:=b5 ae.enc c.streams i h1;have hw:IntKind.i64.wrap ((i:Int)+1)=((i+1:Nat):Int):=by rw[bz]<;>omega
    have hs:iv c++jO c++kI c++(c.streams.take (i+1)).flatMap (jN c)=q++jN c c.streams[i]:=by
     rw[hq,hj,b8 h1,List.flatMap_append];simp
    have mi:q.length≤3+4 * i:=by
     have:=Hl (jN c) 4 (c.streams.take i) fun s _=>Eh c s;rw[List.length_take]at this;rw[hq];simp only[eG];omega
    have ahs:=Eh c c.streams[i];have aT:=Y3 c c.streams[i];generalize jN c c.streams[i]=r at *
    try simp only[go_sem,I,ax]
    repeat'(first|((first|refine ab.intro (by assumption) ?_|refine au.intro (by assumption) ?_|refine ba QV (by kernel_rfl) (by rfl) ?_)<;>simp only[go_sem,I,aC,aq,ae.enc])|(with_reducible refine aw ?_)|fail)
    refine bA.intro (i+1,q++r) [0,3] ⟨by simp only;omega,hs.symm⟩ (by simp only;omega) ?_;simp only[go_sem,hw];simp
   ·have ax:decide ((i:Int)<(c.streams.length:Int))=false:=bo (by omega);obtain rfl:i=c.streams.length:=by omega
    rw[d_]at hq;subst hq;simp only[go_sem,I,ax];refine dS.intro (iv c++jO c++kI c++c.streams.flatMap (jN c)) [0,1] rfl ?_;simp only[go_sem];simp
 clear hY e3;rintro cS e3;have hY:cS.length≤123:=by rw[e3];(try simp only[eG]);omega
 refine fi b1 1 (α:=List ao) (fun cS=>⟨(.ak::.ptr 0 0 0::.ak::.sl 1 0 cS.length::jn 109 []),[.box (J.bE c),.ar 9 (cS.map ao.enc) true]⟩) (fun cS=>cS=iv c++jO c++kI c++c.streams.flatMap (jN c)++pB c) ?_ ?_
 ·skip
  try simp only[go_sem]
  repeat'(refine ab.intro (by apply Q0) ?_<;>simp only[go_sem])
  cases h:mw c.cY with
  |true=>
   have bT:pB c=[iN 20 c.cY.aR false]:=by unfold pB;rw[h];rfl
   try simp only[go_sem,I]
   repeat'(first|(with_reducible refine aw ?_)|fail)
   refine dS.intro (iv c++jO c++kI c++c.streams.flatMap (jN c)++pB c) [0,3] rfl ?_;simp only[go_sem];simp[bT,e3,iN,ao.enc,Nat.add_assoc]
  |false=>
   have bT:pB c=[]:=by unfold pB;rw[h];rfl
   simp only[go_sem];refine dS.intro (iv c++jO c++kI c++c.streams.flatMap (jN c)++pB c) [0,1] rfl ?_;simp only[go_sem];simp[bT,e3,Nat.add_assoc]
 clear hY e3;rintro cS e3;have hY:cS.length≤130:=by rw[e3];(try simp only[eG]);omega
 refine fi b1 1 (α:=List ao) (fun cS=>⟨(.ak::.ptr 0 0 0::.ak::.sl 1 0 cS.length::jn 109 []),[.box (J.bE c),.ar 9 (cS.map ao.enc) true]⟩) (fun cS=>cS=iv c++jO c++kI c++c.streams.flatMap (jN c)++pB c++wx c) ?_ ?_
 ·skip
  try simp only[go_sem]
  cases h:decide (c.e7.blocked=c.e7.aR)with
  |true=>
   have bT:wx c=[iN 22 c.e7.aR false]:=by unfold wx;exact if_pos (cO h)
   try simp only[go_sem,I]
   repeat'(first|(with_reducible refine aw ?_)|fail)
   refine dS.intro (iv c++jO c++kI c++c.streams.flatMap (jN c)++pB c++wx c) [0,3] rfl ?_;simp only[go_sem];simp[bT,e3,iN,ao.enc,Nat.add_assoc]
  |false=>
   have bT:wx c=[]:=by unfold wx;exact if_neg (c9 h)
   simp only[go_sem];refine dS.intro (iv c++jO c++kI c++c.streams.flatMap (jN c)++pB c++wx c) [0,1] rfl ?_;simp only[go_sem];simp[bT,e3,Nat.add_assoc]
 clear hY e3;rintro cS e3;have hY:cS.length≤130:=by rw[e3];(try simp only[eG]);omega
 refine ng b1 ?_
 try simp only[go_sem]
 cases h:decide (c.e6.blocked=c.e6.aR)with
 |true=>
  have bT:Ck c=[iN 22 c.e6.aR true]:=by unfold Ck;exact if_pos (cO h)
  try simp only[go_sem,I]
  repeat'(first|(with_reducible refine aw ?_)|fail)
  rw[ag,←List.append_assoc,←List.append_assoc,←e3,bT];simp[iN,ao.enc,dH]
 |false=>
  have bT:Ck c=[]:=by unfold Ck;exact if_neg (c9 h)
  try simp only[go_sem,I]
  repeat'(first|(with_reducible refine aw ?_)|fail)
  rw[ag,←List.append_assoc,←List.append_assoc,←e3,bT];simp
set_option maxRecDepth 100000
theorem Rg(i dh:Int)(cN:List UInt8)(dc:Bool):aJ 296 [.one (.int .i64 i),.agg [.int .i64 dh,.str cN,.bool dc]] [.agg (ao.enc (nT i (⟨dh,cN,dc⟩:cf)))]:=by
 refine aN 13 Tryz.func296 Tryz.call296 [.cell 4 125] ?_;intro _
 try simp only[go_sem]
 all_goals simp[nT]
theorem Zt(s:ae):(bif bif s.eU then decide (s.send.state<3)else false then bif decide (0<(s.send.pending.length:Int))then true else decide (s.send.a2=1)else false)=wants s:=by
 unfold wants
 cases s.eU<;>cases decide (s.send.state<3)<;>cases decide (0<(s.send.pending.length:Int))<;>rfl
theorem Zu(l:List ae)(i:Nat)(h:i<l.length):((l.take (i+1)).filter wants).map AY=((l.take i).filter wants).map AY++(if wants l[i]then [AY l[i]]else []):=by
 rw[hj,b8 h,List.filter_append,List.map_append]
 cases hw:wants l[i]<;>simp[hw]
theorem Zf(c:J)(hz:gG c):aJ 290 [.agg (J.enc c)] [.one (.sl 3 ((yd c).map dD.enc))]:=by
 refine aN 49 Tryz.func290 Tryz.call290 [.tmp 2] ?_;intro ok;clear ok;have hQ:=hz.1;simp only[go_sem];refine b7.intro (α:=Nat×List dD) (fun y=>⟨(.ak::.ptr 0 0 0::.ak::.sl 1 0 y.2.length::.i y.1::jn 44 []),[.box (J.bE c),.ar 3 (y.2.map dD.enc) true]⟩)
  (fun y=>c.streams.length-y.1) (fun y=>y.1≤c.streams.length∧y.2=((c.streams.take y.1).filter wants).map AY) (0,[]) [0,1] ⟨by simp,by simp⟩ ?_ ?_
 ·simp only[go_sem];simp
 ·rintro⟨i,q⟩ ⟨hi,hq⟩;simp only at hi hq;by_cases h1:i<c.streams.length
  ·have ax:decide ((i:Int)<(c.streams.length:Int))=true:=bp (by omega);have aq:=b5 ae.enc c.streams i h1;have hw:IntKind.i64.wrap ((i:Int)+1)=((i+1:Nat):Int):=by rw[bz]<;>omega
   have hs:=Zu c.streams i h1;rw[←hq]at hs;have mi:q.length≤i:=by rw[hq,I];exact Nat.le_trans (List.length_filter_le _ _) (by simp;omega)
   have bM:=Zt c.streams[i];generalize c.streams[i]=s at *
   try simp only[go_sem,I,aC,aq,ae.enc,ax]
   repeat'(first|(refine a7 ?_<;>simp only[go_sem,I])|(with_reducible refine aw ?_)|fail)
   rw[bM]
   cases hW:wants s with
   |true=>
    rw[hW,if_pos rfl]at hs
    try simp only[go_sem,I]
    repeat'(first|(with_reducible refine aw ?_)|fail)
    refine bA.intro (i+1,q++[AY s]) [0,4] ⟨by simp only;omega,hs.symm⟩ (by simp only;omega) ?_;simp only[go_sem,hw];simp[AY,dD.enc]
   |false=>
    rw[hW,if_neg (by simp),List.append_nil]at hs;simp only[go_sem];refine bA.intro (i+1,q) [0,1] ⟨by simp only;omega,hs.symm⟩ (by simp only;omega) ?_;simp only[go_sem,hw];simp
  ·have ax:decide ((i:Int)<(c.streams.length:Int))=false:=bo (by omega);obtain rfl:i=c.streams.length:=by omega
   rw[d_]at hq;simp only[go_sem,I,ax];simp[yd,hq]
theorem Zv(c:J)(id db:Int):(bif bif bif !en c then true else !(strOf c.streams id).2 then true else !(aS c id).eU then true else decide (db<3))=!AZ c id db:=by
 unfold AZ
 cases en c<;>cases(strOf c.streams id).2<;>cases(aS c id).eU<;>cases decide (db<3)<;>rfl
theorem Zw(c:J)(id:Int):(bif bif !en c then true else !(strOf c.streams id).2 then true else !(aS c id).eU)=!Cq c id:=by
 unfold Cq
 cases en c<;>cases(strOf c.streams id).2<;>cases(aS c id).eU<;>rfl
theorem Zx(a b c:Bool):(bif bif !a then true else !b then true else !c)=!(a&&b&&c):=by cases a<;>cases b<;>cases c<;>rfl
theorem Zr(c:J)(id:Int)(p:cf)(hz:gG c)(hd:p.data.length≤1048576)(hw:eO (vu (aS c id) p)):aJ 295 [.agg (J.enc c),.one (.int .i64 id),.agg [.int .i64 p.offset,.str p.data,.bool p.a2]] [.agg (J.enc ((A0 c id p))),.one (.bool (yg c id p))]:=by
 refine aN 91 Tryz.func295 Tryz.call295 [.cell 6 37,.tmp 7] ?_;intro ok;clear ok;have i':=iE hz;have bm:A0 c id p=if yg c id p then {c with cY:=wD c.cY (wE (aS c id) p),fq:=id,streams:=putS c.streams (vu (aS c id) p)}else c:=rfl
 have bT:yg c id p=(Cq c id&&(oM (aS c id).send p&&vw (aS c id).dL (wE (aS c id) p)&&vw c.cY (wE (aS c id) p))):=rfl;have bM:=Zw c id;obtain⟨dy,dT,c2,d'⟩:=nO hz.2.1 id;have cT:=mU c id hz;rw[show(strOf c.streams id).1=aS c id from rfl]at dy dT c2 d' cT;have hK:=l3 c.streams (vu (aS c id) p) (by have:=hz.1;omega) hz.2.1 hw;generalize aS c id=s at *;have hn:IntKind.i64.wrap ((pC s.send p).sent-s.send.sent)=wE s p:=rfl
 try simp only[go_sem]
 repeat'((first|refine ab.af (by first|assumption|(apply gb<;>exact aP)|(apply vg<;>exact aP)) ?_|refine au.af (by assumption) ?_|refine a7 ?_)<;>simp only[go_sem,I])
 rw[bM]
 cases hg:Cq c id with
 |false=>
  rw[hg,Bool.false_and]at bT;rw[bT]at bm;simp only[go_sem,I,cc];simp[bm,bT]
 |true=>
  rw[hg,Bool.true_and]at bT
  try simp only[go_sem,I,bS]
  repeat'((first|refine ab.af (by first|assumption|(apply Zy<;>exact aP)|apply Zz) ?_|refine au.af (by assumption) ?_|refine a7 ?_)<;>simp only[go_sem,I,hn])
  have x':=Zx (oM s.send p) (vw s.dL (wE s p)) (vw c.cY (wE s p));rw[x',←bT]
  cases hk:yg c id p with
  |false=>
   rw[hk]at bm;simp only[go_sem,I,cc];simp[bm]
  |true=>
   rw[hk]at bm
   try simp only[go_sem,I,bS]
   repeat'(first|((first|refine ab.af (by assumption) ?_|refine au.af (by assumption) ?_)<;>simp only[go_sem,I,vu])|(with_reducible refine aw ?_)|fail)
   simp[bm,vu]
set_option maxRecDepth 100000
def Ri:List (List bH):=cP 12 [501929,501927,501921,521950,521896,521734,531076,529618,525244,511771,472392,354294]
attribute [go_sem] Ri
theorem Zn(c:J)(id db:Int)(m:Nat)(hv:cl m c)(hm:m≤20):aJ 293 [.agg (J.enc c),.one (.int .i64 id),.one (.int .i64 db)] [.agg [.int .i64 ((wB c id db).1).offset,.str ((wB c id db).1).data,.bool ((wB c id db).1).a2],.one (.bool (wB c id db).2)]:=by
 refine aN 73 Tryz.func293 Tryz.call293 [.cell 6 162,.tmp 7] ?_;intro ok;clear ok;have hz:=hv.sz hm;have Cr:=(hv.aS id).snd;have Cs:=Cr.p;have kq:(aS c id).send.ring.cv≤4611686018427387903:=by have:=Cr.ah;omega
 clear Cr;have bm:wB c id db=if AZ c id db then pfGo (aS c id).send id (En c (aS c id)) db (dG db 60).toNat else(pD,false):=rfl
 have bM:=Zv c id db;have hl:En c (aS c id)=dG (aS c id).dL.aR (IntKind.i64.wrap ((aS c id).send.sent+Ct c.cY)):=rfl;obtain⟨dy,dT,c2,d'⟩:=nO hz.2.1 id;have cT:=mU c id hz;rw[show(strOf c.streams id).1=aS c id from rfl]at dy dT c2 d' cT;have KA:AZ c id db=true→3≤db:=fun h=>by
  simp only[AZ,bP,Bool.not_eq_true',dN]at h;omega
 generalize aS c id=s at *
 try simp only[go_sem]
 repeat'((first|refine ab.af (by first|assumption|(apply vg<;>exact aP)) ?_|refine au.af (by assumption) ?_|refine a7 ?_)<;>simp only[go_sem,I])
 rw[bM]
 cases hg:AZ c id db with
 |false=>
  rw[hg]at bm;simp only[go_sem,cc];simp[bm,pD]
 |true=>
  rw[hg,if_pos rfl]at bm;have aj:=KA hg
  try simp only[go_sem,bS]
  repeat'((first|refine ab.af (by assumption) ?_|refine au.af (by first|assumption|apply ZA) ?_|refine ba Ri (by kernel_rfl) (by rfl) ?_)<;>simp only[go_sem])
  obtain⟨N,bT⟩:=mj (show 0≤dG db 60 by unfold dG;split<;>omega);have ahA:dG db 60≤60:=by unfold dG;split<;>omega
  have ZB:N≤60:=by omega
  rw[bT,aC]at bm;have A1:(if 60<db then 60 else db)=(N:Int):=by rw[←bT];rfl
  have Lq:(if IntKind.i64.wrap (s.send.sent+Ct c.cY)<s.dL.aR then IntKind.i64.wrap (s.send.sent+Ct c.cY)else s.dL.aR)=En c s:=rfl;generalize En c s=kK at *;refine b7.intro (fun n:Nat=>⟨(.ak::.i id::.i db::.ptr 0 0 0::.ak::.ak::.ptr 1 0 0::.ak::.ptr 7 0 0::.ak::.i kK::.i n::jn 61 []),[.box (J.bE c),.box [.i 0,.d (.str []),.d (.bool false)],.af 1 (s.send.ring.cells.map aW),.af 2 (s.send.pending.map aa.enc),.af 2 (s.send.flight.map aa.enc),.af 2 (s.send.cG.map aa.enc),.af 2 (s.recv.buffer.bO.map aA.enc),.box (ae.vc s (.sl 2 0 s.send.ring.cells.length) (.sl 3 0 s.send.pending.length) (.sl 4 0 s.send.flight.length) (.sl 5 0 s.send.cG.length) (.sl 6 0 s.recv.buffer.bO.length))]⟩)
   (fun n=>n) (fun n=>n≤60∧pfGo s.send id kK db n=wB c id db) N [0,1,2,3,4,5,6,7] ⟨ZB,bm.symm⟩ ?_ ?_
  ·simp only[go_sem];simp[A1,Lq]
  ·rintro n ⟨hn,ag⟩
   cases n with
   |zero=>
    have hd:decide ((0:Int)<((0:Nat):Int))=false:=by decide
    simp only[go_sem,hd];rw[pfGo]at ag;rw[←ag];simp[pD]
   |succ k=>
    have hd:decide ((0:Int)<((k+1:Nat):Int))=true:=bp (by omega);have hw:IntKind.i64.wrap (((k+1:Nat):Int)-1)=(k:Int):=by rw[bz]<;>omega
    rw[pfGo]at ag;have Rj:=ZC s.send.state s.send.ring.size s.send.ring.base s.send.ring.cv s.send.ring.cells s.send.pending s.send.flight s.send.cG s.send.bn s.send.a2 s.send.sent s.send.code ((k+1:Nat):Int) kK (by omega);change PureCall _ _ _ (wF s.send ((k+1:Nat):Int) kK)at Rj;simp only[wF]at Rj;generalize hp:nU s.send ((k+1:Nat):Int) kK=p at *
    try simp only[go_sem,I,hd]
    repeat'((first|refine ab.intro (by assumption) ?_|refine au.intro (by assumption) ?_)<;>simp only[go_sem])
    cases hok:nextOk s.send ((k+1:Nat):Int) kK with
    |false=>
     rw[hok]at ag;simp only[go_sem,cc];rw[←ag];simp[pD]
    |true=>
     rw[hok,if_pos rfl]at ag;have gd:p.data.length≤1048576:=by
      have:=Rk (m:=((k+1:Nat):Int)) (l:=kK) (by omega) (by omega) Cs kq;rw[hp]at this;omega
     have Ej:=Lm 8 id p.offset p.data p.a2 0 0 0 false gd;change PureCall _ _ _ [.one (.int .i64 ((hG (nT id p)).length:Int))]at Ej
     try simp only[go_sem,bS]
     repeat'((first|refine ab.intro (by first|assumption|apply Rg) ?_|refine au.intro (by assumption) ?_)<;>simp only[go_sem,nT])
     cases kJ:decide (((hG ⟨8,id,p.offset,p.data,p.a2,0,0,0,false⟩).length:Int)≤db)with
     |true=>
      have:((hG (nT id p)).length:Int)≤db:=cO kJ;rw[if_pos this]at ag;rw[←ag];simp only[go_sem]
      try simp[outOA]
     |false=>
      have:¬((hG (nT id p)).length:Int)≤db:=c9 kJ;rw[if_neg this]at ag;simp only[go_sem];refine bA.intro k [0,1,2,3,4,5,6,7] ⟨by omega,ag⟩ (by omega) ?_;simp only[go_sem,hw];simp
set_option maxRecDepth 100000
def Q':List (List bH):=cP 10 [57956,58804,58798,58780,58726,58927,58321,56862,52488,39366]
def Ra:List (List bH):=cP 12 [511649,511647,511641,511663,511717,511515,511029,503010,448335,521599,478953,354294]
attribute [go_sem] Q' Ra
def fL(x:J)(a b:Nat):H:=.box (J.vc x (.sl a 0 x.streams.length) (.sl b 0 x.packets.length))
def eN(x:J):H:=.af 39 (x.streams.map ae.enc)
def Hs(x:J):H:=.af 2 (x.packets.map aD.enc)
def vt(c x:J)(cg:List ao):List H:=[.box (J.bE c),.box J.bw,fL x 3 4,eN x,Hs x,.ar 9 (cg.map ao.enc) true]
theorem Zc(c x:J)(cg:List ao)(db:Int)(m:Nat)(hv:cl m x)(hm:m≤20)(zt:cg.length≤102)(DF:∀f∈cg,oL f)(kv:List V)(bu:bg 3 kv)(K:V→List H→Prop)
  (hk:K (.sl 5 0 (fillGo 200 ⟨x,[],cg,db⟩).cg.length) (vt c (fillGo 200 ⟨x,[],cg,db⟩).x (fillGo 200 ⟨x,[],cg,db⟩).cg)) :
  dx Tryz.prog 242 kv (vt c x cg) [.ptr 2 0 0,.sl 5 0 cg.length,.i db] K:=by
 have a2:∀(q:nS) (ex:List H),q=fillGo 200 ⟨x,[],cg,db⟩→pe kv K (.sl 5 0 q.cg.length) (vt c q.x q.cg++ex):=by
  rintro q ex rfl;refine⟨List.range 6,.sl 5 0 (fillGo 200 ⟨x,[],cg,db⟩).cg.length,vt c (fillGo 200 ⟨x,[],cg,db⟩).x (fillGo 200 ⟨x,[],cg,db⟩).cg,?_,hk⟩;have e2:∀a b c,(vt a b c).length=6:=fun _ _ _=>rfl;refine BZ (hs:=vt c (fillGo 200 ⟨x,[],cg,db⟩).x (fillGo 200 ⟨x,[],cg,db⟩).cg) (ex:=ex) ?_ (kV (by rw[e2];decide) _ bu) ?_ ?_
  ·simp[vt,fL,eN,Hs,roks,rok,bg,vok]
  ·simp[vt,vsees,vsee,ren]
  ·simp[vt,bg,vok]
 refine dx.nh ?_;refine(fc (n:=92) (rs:=[.tmp 6]) Tryz.func242 rfl Tryz.call242 b1 rfl rfl ?_);simp only[go_sem,vt,fL,eN,Hs];refine b7.intro (α:=Nat×nS) (fun y=>⟨(.ptr 2 0 0::.sl 5 0 y.2.cg.length::.i y.2.db::jn 4 (.sl 6 0 y.2.skip.length::.i (200-(y.1:Int))::jn 83 [])),[.box (J.bE c),.box J.bw,.box (J.vc y.2.x (.sl 3 0 y.2.x.streams.length) (.sl 4 0 y.2.x.packets.length)),.af 39 (y.2.x.streams.map ae.enc),.af 2 (y.2.x.packets.map aD.enc),.ar 9 (y.2.cg.map ao.enc) true,.ar 1 (y.2.skip.map aW) true]⟩)
  (fun y=>y.1) (fun y=>y.1≤200∧fillGo y.1 y.2=fillGo 200 ⟨x,[],cg,db⟩∧nu m (302-y.1) y.2.x y.2.cg∧y.2.skip.length+y.1≤200) (200,⟨x,[],cg,db⟩) [0,1,2,3,4,5,6] ⟨by simp,rfl,⟨hv,by simpa using zt,DF⟩,by simp⟩ ?_ ?_
 ·simp only[go_sem];simp;exact pf (v_ (show 3≤7 by decide)) (by decide) bu
 ·rintro⟨n,q⟩ ⟨hn,ag,aU,Ze⟩;simp only at hn ag aU Ze;have hz:=aU.c.sz hm
  cases n with
  |zero=>
   have hd:decide ((200:Int)-((0:Nat):Int)<200)=false:=by decide
   rw[fillGo]at ag;simp only[go_sem,hd];exact a2 q [.ar 1 (q.skip.map aW) true] ag
  |succ k=>
   have hd:decide ((200:Int)-((k+1:Nat):Int)<200)=true:=bp (by omega);have hw:IntKind.i64.wrap ((200:Int)-((k+1:Nat):Int)+1)=200-(k:Int):=by rw[bz]<;>omega
   have ahw:q.skip.length≤200:=by omega
   try simp only[go_sem,I,hd]
   repeat'(refine ab.intro (by(apply Zf<;>exact aP)) ?_<;>simp only[go_sem,I])
   have Zg:(yd q.x).length≤30:=by
    unfold yd;rw[I];exact Nat.le_trans (List.length_filter_le _ _) hz.1
   have Zh:∀(b9:List Int) (l:List dD),(b9.foldl my l).length≤l.length:=by
    intro b9;induction b9 with
    |nil=>intro l;exact Nat.le_refl _
    |cons i b9 dW=>intro l;exact Nat.le_trans (dW (my l i)) (List.length_filter_le _ _)
   refine b7.intro (α:=Nat×List dD) (fun y=>⟨(.ptr 2 0 0::.sl 5 0 q.cg.length::.i q.db::jn 4 (.sl 6 0 q.skip.length::.i (200-((k+1:Nat):Int))::.sl 7 0 y.2.length::.i y.1::jn 81 [])),[.box (J.bE c),.box J.bw,.box (J.vc q.x (.sl 3 0 q.x.streams.length) (.sl 4 0 q.x.packets.length)),.af 39 (q.x.streams.map ae.enc),.af 2 (q.x.packets.map aD.enc),.ar 9 (q.cg.map ao.enc) true,.ar 1 (q.skip.map aW) true,.ar 3 (y.2.map dD.enc) true]⟩)
    (fun y=>q.skip.length-y.1) (fun y=>y.1≤q.skip.length∧y.2=(q.skip.take y.1).foldl my (yd q.x)) (0,yd q.x) [0,1,2,3,4,5,6,7] ⟨by simp,by simp⟩ ?_ ?_
   ·simp only[go_sem];simp;exact pf (v_ (show 3≤8 by decide)) (by decide) bu
   ·rintro⟨j,l⟩ ⟨al,hl⟩;simp only at al hl;have ahx:l.length≤30:=by rw[hl];exact Nat.le_trans (Zh _ _) Zg
    by_cases h1:j<q.skip.length
    ·have ax:decide ((j:Int)<(q.skip.length:Int))=true:=bp (by omega);have aq:=b5 aW q.skip j h1;have Em:IntKind.i64.wrap ((j:Int)+1)=((j+1:Nat):Int):=by rw[bz]<;>omega
     have hs:(q.skip.take (j+1)).foldl my (yd q.x)=my l q.skip[j]:=by
      rw[hj,b8 h1,List.foldl_append,←hl];rfl
     try simp only[go_sem,I,aC,aq,aW,ax]
     repeat'(first|((first|refine ab.intro (by first|assumption|(apply Zi<;>exact aP)) ?_|refine au.intro (by assumption) ?_)<;>simp only[go_sem,I])|(with_reducible refine aw ?_)|fail)
     refine bA.intro (j+1,my l q.skip[j]) [0,1,2,3,4,5,6,8] ⟨by simp only;omega,hs.symm⟩ (by simp only;omega) ?_;simp only[go_sem,Em];simp;exact pf (fun i hi=>by match i,hi with|0,_=>rfl|1,_=>rfl|2,_=>rfl) (by decide) bu
    ·have ax:decide ((j:Int)<(q.skip.length:Int))=false:=bo (by omega);obtain rfl:j=q.skip.length:=by omega
     rw[d_]at hl;have iP:l=Co q:=hl;clear hl;subst iP;have Zj:=Zk (Co q) q.x.fq (by omega);rw[show nextS (Co q) q.x.fq=gV q from rfl]at Zj;have Zl:=Lp (q:=q);rw[fillGo]at ag;have Zm:=Zn q.x (gV q) q.db m aU.c hm;rw[show wB q.x (gV q) q.db=l6 q from rfl]at Zm;have gd:(l6 q).1.data.length≤60:=Rb aU.c (by omega) (gV q) q.db
     try simp only[go_sem,I,ax]
     repeat'(first|((first|refine ab.intro (by assumption) ?_|refine au.intro (by assumption) ?_)<;>simp only[go_sem])|(with_reducible refine aw ?_)|fail)
     cases Rc:decide (gV q<0)with
     |true=>
      rw[if_pos (cO Rc)]at ag;simp only[go_sem];exact a2 q [.ar 1 (q.skip.map aW) true,.ar 3 ((Co q).map dD.enc) true] ag
     |false=>
      have Zo:=c9 Rc;rw[if_neg Zo]at ag
      try simp only[go_sem,I]
      repeat'((first|refine ab.intro (by assumption) ?_|refine au.intro (by assumption) ?_)<;>simp only[go_sem])
      cases hp:(l6 q).2 with
      |false=>
       rw[hp,if_neg (by simp)]at ag;simp only[go_sem,cc];have cT:=mU q.x (gV q) hz;rw[show(strOf q.x.streams (gV q)).1=aS q.x (gV q)from rfl]at cT;have uy:eO (aS q.x (gV q)):=nO hz.2.1 _;have hK:=l3 q.x.streams (ye (aS q.x (gV q))) (by have:=hz.1;omega) hz.2.1 uy;have Ek:=Rd aU.c (Zl (by omega));have hB:Ht q.x (gV q)={q.x with cY:=wC q.x.cY,streams:=putS q.x.streams (ye (aS q.x (gV q)))}:=rfl;obtain⟨dy,dT,c2,d'⟩:=uy;generalize aS q.x (gV q)=s at *;simp only[ye]at hK;refine ab.ij [0,1,2,7,8,11] (by simp only[keepT,List.elem_cons,List.elem_nil,Nat.reduceBEq,Nat.reduceAdd,cond_true,cond_false];rfl) (fc (n:=35) (rs:=[]) Tryz.func294 rfl Tryz.call294 b1 rfl rfl ?_);simp only[go_sem,I]
       try simp only[go_sem,I,ye]
       repeat'(first|((first|refine ab.af (by first|assumption|apply Zp) ?_|refine au.af (by assumption) ?_|refine ba Q' (by kernel_rfl) (by rfl) ?_)<;>simp only[go_sem,I])|(with_reducible refine aw ?_)|fail)
       try simp only[go_sem,I]
       refine bA.intro (k,AX q) [0,1,2,15,4,5,17] ⟨by simp only;omega,ag,⟨Ek,by have:=aU.n;simp only[AX];omega,aU.d⟩,by simp only[AX,eG,eW,ft];omega⟩ (by simp only;omega) ?_;simp only[go_sem,hw,AX,hB,ye];simp;exact⟨rfl,pf (fun i hi=>by match i,hi with|0,_=>rfl|1,_=>rfl|2,_=>rfl) (by decide) bu⟩
      |true=>
       rw[hp,if_pos rfl]at ag;simp only[go_sem,bS];have Zq:eO (vu (aS q.x (gV q)) (l6 q).1):=fZ.sz (m:=m) (s:=vu (aS q.x (gV q)) (l6 q).1) ⟨Re (aU.c.aS _).snd (by omega),(aU.c.aS _).fA,(aU.c.aS _).yf⟩ hm;have ahy:=Zr q.x (gV q) (l6 q).1 hz (by omega) Zq;have Zs:=Rf aU.c (gV q) (l6 q).1 (by omega)
       try simp only[go_sem,I]
       repeat'(first|((first|refine ab.af (by assumption) ?_|refine au.af (by assumption) ?_|refine ba Ra (by kernel_rfl) (by rfl) ?_)<;>simp only[go_sem,I])|(with_reducible refine aw ?_)|fail)
       cases vv:yg q.x (gV q) (l6 q).1 with
       |false=>
        rw[vv,if_neg (by simp)]at ag;simp only[go_sem,cc];exact a2 q _ ag
       |true=>
        rw[vv,if_pos rfl]at ag;have Ej:=Lm 8 (gV q) (l6 q).1.offset (l6 q).1.data (l6 q).1.a2 0 0 0 false (by omega);change PureCall _ _ _ [.one (.int .i64 ((hG (nT (gV q) (l6 q).1)).length:Int))]at Ej;have ahz:=aU.n
        try simp only[go_sem,bS]
        repeat'(first|((first|refine ab.intro (by first|assumption|apply Rg) ?_|refine au.intro (by assumption) ?_)<;>simp only[go_sem,I,nT])|(with_reducible refine aw ?_)|fail)
        refine bA.intro (k,Cp q) [0,1,2,9,10,14,6] ⟨by simp only;omega,ag,(aU.add Zs (f:=nT (gV q) (l6 q).1) gd).mono (by omega),by simp only[Cp];omega⟩ (by simp only;omega) ?_;simp only[go_sem,hw,Cp,nT];simp;have Rh:=pf (ρ:=[0,1,2,9,10,14,6]) (m:=3) (n:=7) (fun i hi=>by match i,hi with|0,_=>rfl|1,_=>rfl|2,_=>rfl) (by decide) bu
        first|exact⟨rfl,Rh⟩|exact Rh
set_option maxRecDepth 100000
def WI:List (List bH):=cP 22 [31381059608,31381059606,31381059600,31381059582,31381059528,31380272046,31380271560,31380270102,31380265728,31381049646,31381010280,31380892182,31380537888,31379465286,31376276640,31366710702,31338012888,31251919446,30993639120,30218798142,27894275208,20920706406]
def Jy:List (List bH):=cP 10 [57956,58804,58798,58780,58726,58927,58321,56862,52488,39366]
attribute [go_sem] WI Jy
def pU(s:ae)(m:Nat):List V:=(ae.vc s (.sl (m+4) 0 s.send.ring.cells.length) (.sl (m+5) 0 s.send.pending.length) (.sl (m+6) 0 s.send.flight.length) (.sl (m+7) 0 s.send.cG.length) (.sl (m+8) 0 s.recv.buffer.bO.length))
def BR(s:ae):List H:=[.af 1 (s.send.ring.cells.map aW),.af 2 (s.send.pending.map aa.enc),.af 2 (s.send.flight.map aa.enc),.af 2 (s.send.cG.map aa.enc),.af 2 (s.recv.buffer.bO.map aA.enc)]
def eM(x:J)(m:Nat)(kt:H):List H:=[fL x (m+1) (m+2),eN x,kt]
def u3(x:J)(s:ae)(m:Nat)(kt:H):List H:=eM x m kt++(.box (pU s m)::BR s)
theorem Ed{kv ts ts':List V}{pre ex ex':List H}(nn:List Nat)(hnd:(pre.length::nn).Nodup)(px:∀k∈nn,pre.length≤k)(hr:roks pre.length pre)(bu:bg (pre.length+1) kv)(hx:hsees (List.range pre.length++pre.length::nn) (pre++ex) (pre.length::nn) ex')(D5:allOk (pre.length+ex'.length) ex')(Od:0<ex'.length)(ht:vsees (List.range pre.length++pre.length::nn) ts' ts)(l5:bg (pre.length+ex'.length) ts') :
  kk kv (List.range pre.length++pre.length::nn) ⟨ts,pre++ex⟩ ⟨ts',pre++ex'⟩:=by
 have hf:mQ (List.range pre.length++pre.length::nn) pre.length:=KS (Nat.le_refl _) _;have j0:mQ (List.range pre.length++pre.length::nn) (pre.length+1):=fun i hi=>by
  by_cases h:i<pre.length
  ·exact hf i h
  ·rw[show i=pre.length from by omega,Qz]
 have hl:(pre++ex').length=pre.length+ex'.length:=by simp
 refine⟨?_,ht,KW (G6 hf _ _ _ (by simp) fun j al=>?_) hx,by rw[hl];exact l5,?_,by rw[hl];exact pf j0 (by omega) bu⟩
 ·rw[List.nodup_append];refine⟨List.nodup_range,hnd,fun a ha b hb=>?_⟩;have:pre.length≤b:=by
   rcases List.mem_cons.1 hb with rfl|hb
   ·exact Nat.le_refl _
   ·exact px b hb
  simp at ha;omega
 ·refine⟨pre[j],b8 al,?_,G7 hr (b8 al)⟩;have:(List.range pre.length).getD j 0=j:=v_ (Nat.le_refl _) j al;rw[this];exact G8 (by rw[List.getElem?_append_left al];exact b8 al)
 ·rw[hl];exact KX (y1 (x9 (by omega) hr)) D5
theorem yG(x:J)(s:ae)(kt:H)(oy:∀n,rok n kt)(hx:x.streams.length≤1000)(hz:∀t∈x.streams,eO t)(hs:eO s)(pre:List H)(kv:List V)(hr:roks pre.length pre)(bu:bg (pre.length+1) kv)(K:V→List H→Prop)
  (hk:K (.dV []) (pre++eM (eE x s) pre.length kt)):dx Tryz.prog 236 kv (pre++u3 x s pre.length kt) [.ptr pre.length 0 0,.agg (pU s pre.length)] K:=by
 have a2:∀(ex:List H) (k:Nat),3≤k→ex[k]?=some (.af 39 ((eE x s).streams.map ae.enc))→ex[0]?=some (fL (eE x s) (pre.length+k) (pre.length+2))→ex[2]?=some kt→pe kv K (.dV []) (pre++ex):=by
  intro ex k apa h1 h2 aj;have hg:∀j y,ex[j]?=some y→aL (pre++ex) (pre.length+j)=y:=fun j y h=>G8 (by rw[List.getElem?_append_right (by omega),Nat.add_sub_cancel_left];exact h);refine⟨_,.dV [],pre++eM (eE x s) pre.length kt,Ed [pre.length+k,pre.length+2] (by simp;omega) (by simp) hr bu ?_ ?_ (by simp[eM]) (by simp[vsees,vsee,ren,rens]) (by simp[bg,vok]),hk⟩
  ·have FH:=hg 0 _ h2;rw[Nat.add_zero]at FH;have aM:(List.range pre.length++[pre.length,pre.length+k,pre.length+2]).getD (pre.length+1) 0=pre.length+k:=by rw[nP];rfl
   have bc:(List.range pre.length++[pre.length,pre.length+k,pre.length+2]).getD (pre.length+2) 0=pre.length+2:=by rw[nP];rfl
   have hp:(eE x s).packets=x.packets:=(Au x s).2;have hf:mQ (List.range pre.length++[pre.length,pre.length+k,pre.length+2]) pre.length:=KS (Nat.le_refl _) _;have agF:=nK hf (oy pre.length);simp only[eM,eN,hsees,FH,hg k _ h1,hg 2 _ aj,and_true,agF];simp only[fL,J.vc,hsee,vsees,vsee,ren,aM,bc,and_self,hp]
  ·have:=y1 (m:=pre.length+3) (xs:=[kt]) ⟨oy _,trivial⟩;simp only[eM,eN,fL,J.vc,allOk,hok,bg,vok,eW,ft]at this⊢;simp[this]
 have B7:=P3 x s;obtain⟨B,hv⟩:∃B,xK x s=B:=⟨_,rfl⟩;rw[hv]at B7;have hs':=hs;obtain⟨gh,h3,pn,P4⟩:=hs;have pn:∀fA∈s.recv.buffer.bO,fA.data.length≤1048576:=fun fA hc=>by have:=pn fA hc;omega
 have XT:=l3 x.streams s hx hz hs';have XU:=l3 x.streams {s with counted:=true} hx hz hs';refine dx.nh ?_;refine(fc (n:=15) (rs:=[]) Tryz.func236 rfl Tryz.call236 b1 rfl rfl ?_);simp only[go_sem,u3,eM,eN,pU,BR,fL,bB,bx,ez];refine ab.ij [0,3] (by simp only[keepT,List.elem_cons,List.elem_nil,Nat.reduceBEq,Nat.reduceAdd,cond_true,cond_false];rfl) (fc (n:=62) (rs:=[]) Tryz.func280 rfl Tryz.call280 b1 rfl rfl ?_);simp only[go_sem]
 try simp only[go_sem,I,gm,ez,dU,eY,fG,Nat.add_zero]
 repeat'(first|((first|refine ab.intro (by assumption) ?_|refine au.intro (by first|assumption|apply B8|(apply P5<;>exact aP)) ?_|refine e8 ?_|refine ba WI (by kernel_rfl) (by rfl) ?_)<;>simp only[go_sem,I,dU,eY,Nat.add_zero])|(with_reducible refine aw ?_)|fail)
 rw[B7]
 cases B with
 |false=>
  have ag:=P6 hv;simp only[ag]at a2;simp only[go_sem,cc]
  try simp only[go_sem,I,gm,ez,dU,eY,fG,Nat.add_zero]
  repeat'(first|((first|refine ab.af (by assumption) ?_|refine au.af (by assumption) ?_|refine e8 ?_|refine ba Jy (by kernel_rfl) (by rfl) ?_)<;>simp only[go_sem,I,ez,dU,eY,fG,Nat.add_zero])|(with_reducible refine aw ?_)|fail)
  refine a2 _ 10 (by decide) ?_ ?_ ?_<;>rfl
 |true=>
  try simp only[go_sem,bS,ez,dU,Nat.add_zero]
  repeat'((first|refine ab.intro (by first|assumption|apply AG) ?_|refine au.intro (by assumption) ?_)<;>simp only[go_sem])
  cases gU:j3 s.id with
  |true=>
   have ag:=P7 hv gU;simp only[ag]at a2
   try simp only[go_sem,eY]
   repeat'((first|refine ab.intro (by first|assumption|apply GV) ?_|refine au.intro (by assumption) ?_)<;>simp only[go_sem,ez,dU,eY,fG])
   try simp only[go_sem,I,gm,ez,dU,eY,fG,Nat.add_zero]
   repeat'(first|((first|refine ab.af (by assumption) ?_|refine au.af (by assumption) ?_|refine e8 ?_|refine ba Jy (by kernel_rfl) (by rfl) ?_)<;>simp only[go_sem,I,ez,dU,eY,fG,Nat.add_zero])|(with_reducible refine aw ?_)|fail)
   refine a2 _ 11 (by decide) ?_ ?_ ?_<;>rfl
  |false=>
   have ag:=P8 hv gU;simp only[ag]at a2
   try simp only[go_sem,eY]
   repeat'((first|refine ab.intro (by first|assumption|apply GV) ?_|refine au.intro (by assumption) ?_)<;>simp only[go_sem,ez,dU,eY,fG])
   try simp only[go_sem,I,gm,ez,dU,eY,fG,Nat.add_zero]
   repeat'(first|((first|refine ab.af (by assumption) ?_|refine au.af (by assumption) ?_|refine e8 ?_|refine ba Jy (by kernel_rfl) (by rfl) ?_)<;>simp only[go_sem,I,ez,dU,eY,fG,Nat.add_zero])|(with_reducible refine aw ?_)|fail)
   refine a2 _ 11 (by decide) ?_ ?_ ?_<;>rfl
def kn(q:aD×Value):List D:=[.int .i64 q.1.number,.zj q.2]
theorem YL(cj:List (aD×Value)):gy (cj.map kn)=true:=by
 simp only[gy,List.all_map,List.all_eq_true];intro q _;simp[kn,D.flat]
theorem QK{h:Array Obj}{b:Nat}:∀(ps:List aD) (f:Nat) (G:List Nat),repE h true b f 2 (ps.map aD.enc) G→
  ∃(cj:List (aD×Value)) (jJ:List (List Nat)),cj.map (·.1)=ps∧repE h true b f 2 (cj.map kn) []∧jJ.length=cj.length∧G=jJ.flatten∧∀(j:Nat) (q:aD×Value) (F:List Nat),cj[j]?=some q→jJ[j]?=some F→rep h true (.sl 9 (q.1.frames.map ao.enc)) q.2 F
 |[],f,G,r=>by simp only[List.map_nil,repE]at r;exact⟨[],[],rfl,by simp[repE],rfl,by simp[r],by simp⟩
 |p::ps,f,G,r=>by
  simp only[List.map_cons,repE]at r;obtain⟨bQ,bq,rfl,_,aM,bc⟩:=r;simp only[aD.enc,repC]at aM;obtain⟨hP,QL,YM,rfl,cM,eT,hE,QM,YN,rfl,dI,fW,rfl⟩:=aM;obtain⟨cj,jJ,ah,ai,aX,br,cF⟩:=QK ps (f+2) bq bc;have hA:QL=[]:=by simp only[rep]at eT;exact eT.2.1
  subst hA;have Hf:hE.oneCell'=true∧hE.cells=#[hE]:=by
   obtain⟨a,c,h1,_⟩:=(by simpa only[rep]using fW:∃a c,hE=.slice a (p.frames.map ao.enc).length c∧_);rw[h1];exact⟨rfl,rfl⟩
  refine⟨(p,hE)::cj,QM::jJ,by simp[ah],?_,by simp[aX],by simp[br],?_⟩
  ·simp only[List.map_cons,repE];refine⟨[],[],rfl,rfl,?_,ai⟩;simp only[kn,repC,rep];exact⟨hP,[],[],rfl,cM,by simpa only[rep]using eT,hE,[],[],rfl,dI,⟨rfl,rfl,Hf.1,Hf.2⟩,rfl⟩
  ·intro j q F hq cd
   cases j with
   |zero=>simp at hq cd;subst hq;subst cd;exact fW
   |succ j=>exact cF j q F (by simpa using hq) (by simpa using cd)
theorem K_{h h':Array Obj}(hs:h.size≤h'.size){b:Nat}(g:aD→Bool):∀(cj:List (aD×Value)) (jJ:List (List Nat)) (f:Nat),jJ.length=cj.length→(∀x∈jJ.flatten,h'[x]?=h[x]?)→
  (∀(j:Nat) (q:aD×Value) (F:List Nat),cj[j]?=some q→jJ[j]?=some F→rep h true (.sl 9 (q.1.frames.map ao.enc)) q.2 F)→repE h' true b f 2 ((cj.filter fun q=>g q.1).map kn) []→
  ∃G,G.Sublist jJ.flatten∧repE h' true b f 2 (((cj.map (·.1)).filter g).map aD.enc) G
 |[],jJ,f,hl,_,_,_=>⟨[],List.nil_sublist _,by simp[repE]⟩
 |q::cj,[],f,hl,_,_,_=>by simp at hl
 |q::cj,F::jJ,f,hl,dF,cd,r=>by
  have YO:∀x∈F,h'[x]?=h[x]?:=fun x hx=>dF x (by simp[hx]);have QN:∀x∈jJ.flatten,h'[x]?=h[x]?:=fun x hx=>dF x (by rw[List.flatten_cons];exact List.mem_append_right _ hx);have QO:∀(j:Nat) (AR:aD×Value) (F':List Nat),cj[j]?=some AR→jJ[j]?=some F'→rep h true (.sl 9 (AR.1.frames.map ao.enc)) AR.2 F':=fun j AR F' h1 h2=>cd (j+1) AR F' (by simpa using h1) (by simpa using h2);by_cases hg:g q.1=true
  ·rw[List.filter_cons_of_pos (by simpa using hg)]at r;simp only[List.map_cons,repE]at r;obtain⟨bQ,bq,e,_,aM,bc⟩:=r;obtain⟨rfl,rfl⟩:=List.append_eq_nil_iff.1 e.symm;obtain⟨G,dy,dT⟩:=K_ hs g cj jJ (f+2) (by simpa using hl) QN QO bc;simp only[kn,repC,rep]at aM;obtain⟨hP,QL,YM,ah,cM,eT,hE,QM,YN,ai,dI,fW,aX⟩:=aM;refine⟨F++G,by rw[List.flatten_cons];exact List.Sublist.append (List.Sublist.refl _) dy,?_⟩;rw[List.map_cons,List.filter_cons_of_pos (by simpa using hg),List.map_cons];simp only[repE];refine⟨F,G,rfl,rfl,?_,dT⟩;simp only[aD.enc,repC,rep];have hq:=cd 0 q F rfl rfl;refine⟨hP,[],F,rfl,cM,⟨eT.1,rfl,eT.2.2⟩,hE,F,[],by simp,dI,?_,rfl⟩;rw[fW.1];have:=D8 hs _ _ F YO hq;simpa only[rep]using this
  ·rw[List.filter_cons_of_neg (by simpa using hg)]at r;obtain⟨G,dy,dT⟩:=K_ hs g cj jJ f (by simpa using hl) QN QO r;refine⟨G,by rw[List.flatten_cons];exact dy.trans (List.sublist_append_right _ _),?_⟩;rw[List.map_cons,List.filter_cons_of_neg (by simpa using hg)];exact dT
theorem YP{P:Program}{f:FuncId}{kv:List V}{vs:List V}{V0:V}{ps:List aD}(g:aD→Bool)(id:Nat){hs hf:List H}{hr hr2:List (aD×Value)→List H}
  (dR:aL hs id=.af 2 (ps.map aD.enc)) (ah:∀cj,aL (hr cj) id=.ar 2 (cj.map kn) true∧(hr cj).length=hs.length∧∀i,i≠id→aL (hr cj) i=aL hs i)
  (ai:∀cj,cj.map (·.1)=ps→aL (hr2 cj) id=.ar 2 ((cj.filter fun q=>g q.1).map kn) true∧(hr2 cj).length=hf.length∧∀i,i≠id→aL (hr2 cj) i=aL hf i) (aX:aL hf id=.ar 2 ((ps.filter g).map aD.enc) true)
  {K:V→List H→Prop} (Hf:∀cj,cj.map (·.1)=ps→dx P f kv (hr cj) vs (fun v hs'=>v=V0∧hs'=hr2 cj)) (hk:K V0 hf):dx P f kv hs vs K:=by
 intro B w0 kp QP w bu K';obtain⟨aK,φ,r,b4⟩:=K';rcases r.hp id with hd|⟨β,Cf,pz⟩
 ·rw[dR]at hd;cases hd
 rw[dR]at pz;simp only[dX]at pz;obtain⟨QQ,pz⟩:=pz;have La:∀b∈β.c_,c5 φ hs id b:=fun b hb=>⟨β,Cf,.inr ⟨by rw[dR];rfl,hb⟩⟩;have YQ:∀b,β.eh=some b→c5 φ hs id b:=fun b hb=>⟨β,Cf,.inl ⟨by rw[dR];rfl,hb⟩⟩;have gf:=r.e9 id β Cf (by rw[show(⟨vs,hs⟩:St).heap=hs from rfl,dR];rfl);obtain⟨cj,jJ,hq,D9,YR,QR,YS,ahp⟩:∃(cj:List (aD×Value)) (jJ:List (List Nat)),cj.map (·.1)=ps∧dX (c6 φ id {β with c_:=[]}) (cz (c6 φ id {β with c_:=[]}) (hr cj)) w.heap {β with c_:=[]} (.ar 2 (cj.map kn) true)∧jJ.length=cj.length∧β.c_=jJ.flatten∧
   (∀(j:Nat) (q:aD×Value) (F:List Nat),cj[j]?=some q→jJ[j]?=some F→rep w.heap true (.sl 9 (q.1.frames.map ao.enc)) q.2 F)∧True:=by
  rcases pz with ⟨h1,h2,aj,aE⟩|⟨b,h1,h2,aj,aE⟩
  ·have hps:ps=[]:=List.map_eq_nil_iff.1 h2;exact⟨[],[],by simp[hps],by simp only[dX];exact⟨QQ,.inl ⟨h1,rfl,aj,trivial⟩⟩,rfl,by simp[aE],by simp,trivial⟩
  ·obtain⟨cj,jJ,cm,cB,cx,e0,gI⟩:=QK ps β.off β.c_ aE;refine⟨cj,jJ,cm,?_,cx,e0,gI,trivial⟩;simp only[dX];refine⟨QQ,.inr ⟨b,[],h1,?_,aj,cB,fun _=>rfl,fun q=>by cases q⟩⟩;have:(cj.map kn).length=(ps.map aD.enc).length:=by rw[I,I,←cm,I]
   rw[this];exact h2
 obtain⟨cQ,bb,bD⟩:=ah cj
 let vo:cp:=c6 φ id {β with c_:=[]}
 have D_:vo id=some {β with c_:=[]}:=by simp[vo,c6]
 have Cg:∀i,i≠id→vo i=φ i:=fun i hi=>by simp[vo,c6,hi]
 have Hg:∀i b,c5 vo (hr cj) i b→c5 φ hs i b∧b∉β.c_:=by
  rintro i b ⟨a_,e,av⟩;by_cases hi:i=id
  ·subst hi;rw[D_]at e;cases e;rw[cQ]at av;rcases av with ⟨_,hb⟩|⟨_,hb⟩
   ·exact⟨YQ b hb,fun hn=>gf.2 b hb hn⟩
   ·cases hb
  ·rw[Cg i hi]at e;rw[bD i hi]at av;refine⟨⟨a_,e,av⟩,fun hn=>hi (r.dJ i id b ⟨a_,e,av⟩ (La b hn))⟩
 have aY:nq φ vo:=fun i a_ e=>by
  by_cases hi:i=id
  ·subst hi;rw[Cf]at e;cases e;exact⟨_,D_,rfl,rfl,rfl,rfl⟩
  ·exact⟨a_,by rw[Cg i hi];exact e,rfl,rfl,rfl,rfl⟩
 have cR:∀b,b<w.heap.size→cz φ hs b→cz vo (hr cj) b:=by
  intro b _ ht i a_ e he;by_cases hi:i=id
  ·subst hi;rw[D_]at e;cases e;rw[cQ]at he;rcases he with ⟨_,he⟩|⟨he,_⟩
   ·exact ht i β Cf (.inl ⟨by rw[dR];rfl,he⟩)
   ·cases he
  ·rw[Cg i hi]at e;rw[bD i hi]at he;exact ht i a_ e he
 have Lb:Ch φ vo (cz φ hs) (cz vo (hr cj)) w.heap w.heap:=⟨aY,cR,fun _ _ _=>rfl,Nat.le_refl _⟩;have iu:R (fun b=>B b∧b∉β.c_) w aK vo ⟨vs,hr cj⟩ kp ⟨QP.toArray,[]⟩ w:=by
  refine⟨uo Lb _ _ r.g8,fun p hp=>D' Lb _ _ (r.kp p hp),fun i=>?_,fun i j b hi al=>r.dJ i j b (Hg i b hi).1 (Hg j b al).1,fun i a_ e hx=>?_,fun i b av=>⟨r.e_ i b (Hg i b av).1,(Hg i b av).2⟩,fun i a_ e=>?_,Bel.refl _ _,fun k hk=>⟨r.bs k hk,fun hn=>by have:=c5.lt r (La k hn);omega⟩,r.mV,⟨fun p hp h=>r.ko.1 p hp h.1,?_⟩⟩
  ·by_cases hi:i=id
   ·subst hi;exact .inr ⟨_,D_,by rw[show(⟨vs,hr cj⟩:St).heap=hr cj from rfl,cQ];exact D9⟩
   ·simp only[bD i hi,Cg i hi];rcases r.hp i with hd|⟨a_,e,jK⟩
    ·exact .inl hd
    ·exact .inr ⟨a_,e,Lc Lb jK (fun _ _ _=>rfl) (fun _ _ _=>rfl)⟩
  ·by_cases hi:i=id
   ·subst hi;rw[D_]at e;cases e;exact⟨List.nodup_nil,fun _ _ h=>by cases h⟩
   ·rw[Cg i hi]at e;simp only[bD i hi]at hx;exact r.e9 i a_ e hx
  ·by_cases hi:i=id
   ·subst hi;exact r.fU _ β Cf
   ·rw[Cg i hi]at e;exact r.fU i a_ e
  ·exact Ci.mono r.ko.2 fun p hp=>r.fP.block p.1 (r.ko.1 p hp)
 obtain⟨dp,da,gk⟩:=ai cj hq;refine(Hf cj hq (fun b=>B b∧b∉β.c_) w kp QP w bu ⟨aK,vo,iu,fun i hi=>by have:=b4 i hi;simp only at this⊢;rw[bb];exact this⟩).mono ?_;rintro v w' ⟨x,hs',⟨rfl,rfl⟩,YT,x_,bc,YU⟩;refine⟨x,hf,hk,?_⟩;have AS:∀b∈β.c_,w'.heap[b]?=w.heap[b]?:=fun b hb=>bc.fP.block b fun h=>h.2 hb;rcases bc.hp id with hd|⟨jL,Hh,Ea⟩
 ·rw[show(⟨[x],hr2 cj⟩:St).heap=hr2 cj from rfl,dp]at hd;cases hd
 rw[show(⟨[x],hr2 cj⟩:St).heap=hr2 cj from rfl,dp]at Ea;simp only[dX]at Ea;obtain⟨QS,Ea⟩:=Ea;obtain⟨zk,uq,YV⟩:∃zk,zk.Sublist β.c_∧∀T,dX (c6 x_ id {jL with c_:=zk}) T w'.heap {jL with c_:=zk} (.ar 2 ((ps.filter g).map aD.enc) true):=by
  rcases Ea with ⟨h1,h2,aj,aE⟩|⟨eS,bq,h1,h2,aj,aE,b3,e2⟩
  ·have hn:cj.filter (fun q=>g q.1)=[]:=List.map_eq_nil_iff.1 h2;have mq:ps.filter g=[]:=by rw[←hq,List.filter_map,show(g∘fun q:aD×Value=>q.1)=fun q=>g q.1 from rfl,hn];rfl
   exact⟨[],List.nil_sublist _,fun T=>by simp only[dX];exact⟨QS,.inl ⟨h1,by rw[mq];rfl,aj,trivial⟩⟩⟩
  ·have x':=Eb _ _ _ _ (YL _) aE;subst x';obtain⟨G,dy,dT⟩:=K_ bc.fP.size g cj jJ jL.off YR (by rw[←QR];exact AS) YS aE;refine⟨G,by rw[QR];exact dy,fun T=>?_⟩;simp only[dX];refine⟨QS,.inr ⟨eS,G,h1,?_,aj,by rw[←hq];exact dT,fun _=>rfl,fun q=>by cases q⟩⟩;have:((ps.filter g).map aD.enc).length=((cj.filter fun q=>g q.1).map kn).length:=by
    rw[I,I,←hq,List.filter_map,I];rfl
   rw[this];exact h2
 let wu:cp:=c6 x_ id {jL with c_:=zk}
 have Ec:wu id=some {jL with c_:=zk}:=by simp[wu,c6]
 have Cj:∀i,i≠id→wu i=x_ i:=fun i hi=>by simp[wu,c6,hi]
 have QT:∀b,jL.eh=some b→c5 x_ (hr2 cj) id b:=fun b hb=>⟨jL,Hh,.inl ⟨by rw[dp];rfl,hb⟩⟩;have Ld:∀i b,c5 wu hf i b→c5 x_ (hr2 cj) i b∨(i=id∧b∈zk):=by
  rintro i b ⟨a_,e,av⟩;by_cases hi:i=id
  ·subst hi;rw[Ec]at e;cases e;rw[aX]at av;rcases av with ⟨_,hb⟩|⟨_,hb⟩
   ·exact .inl (QT b hb)
   ·exact .inr ⟨rfl,hb⟩
  ·rw[Cj i hi]at e;rw[←gk i hi]at av;exact .inl ⟨a_,e,av⟩
 have Hi:∀b∈zk,B b∧b∈β.c_:=fun b hb=>⟨r.e_ id b (La b (uq.subset hb)),uq.subset hb⟩;have YW:nq x_ wu:=fun i a_ e=>by
  by_cases hi:i=id
  ·subst hi;rw[Hh]at e;cases e;exact⟨_,Ec,rfl,rfl,rfl,rfl⟩
  ·exact⟨a_,by rw[Cj i hi];exact e,rfl,rfl,rfl,rfl⟩
 have Le:∀b,b<w'.heap.size→cz x_ (hr2 cj) b→cz wu hf b:=by
  intro b _ ht i a_ e he;by_cases hi:i=id
  ·subst hi;rw[Ec]at e;cases e;rw[aX]at he;rcases he with ⟨_,he⟩|⟨he,_⟩
   ·exact ht i jL Hh (.inl ⟨by rw[show(⟨[x],hr2 cj⟩:St).heap=hr2 cj from rfl]at *;rw[dp];rfl,he⟩)
   ·cases he
  ·rw[Cj i hi]at e;rw[←gk i hi]at he;exact ht i a_ e he
 have Lf:Ch x_ wu (cz x_ (hr2 cj)) (cz wu hf) w'.heap w'.heap:=⟨YW,Le,fun _ _ _=>rfl,Nat.le_refl _⟩;refine⟨YT,wu,⟨uo Lf _ _ bc.g8,fun p hp=>D' Lf _ _ (bc.kp p hp),fun i=>?_,fun i j b hi al=>?_,fun i a_ e hx=>?_,fun i b av=>?_,fun i a_ e=>?_,?_,fun k hk=>(bc.bs k hk).1,bc.mV,r.ko⟩,fun i hi=>by have:=YU i hi;simp only at this⊢;rw[←da];exact this⟩
 ·by_cases hi:i=id
  ·subst hi;exact .inr ⟨_,Ec,by rw[show(⟨[x],hf⟩:St).heap=hf from rfl,aX];exact YV _⟩
  ·simp only[Cj i hi];rw[←gk i hi];rcases bc.hp i with hd|⟨a_,e,jK⟩
   ·exact .inl hd
   ·exact .inr ⟨a_,e,Lc Lf jK (fun _ _ _=>rfl) (fun _ _ _=>rfl)⟩
 ·rcases Ld i b hi with h1|⟨h1,ax⟩<;>rcases Ld j b al with h2|⟨h2,hF⟩
  ·exact bc.dJ i j b h1 h2
  ·exact absurd (Hi b hF).2 (bc.e_ i b h1).2
  ·exact absurd (Hi b ax).2 (bc.e_ j b h2).2
  ·exact h1.trans h2.symm
 ·by_cases hi:i=id
  ·subst hi;rw[Ec]at e;cases e;exact⟨uq.nodup gf.1,fun b hb hn=>(bc.e_ _ b (QT b hb)).2 (Hi b hn).2⟩
  ·rw[Cj i hi]at e;rw[show(⟨[x],hf⟩:St).heap=hf from rfl,←gk i hi]at hx;exact bc.e9 i a_ e hx
 ·rcases Ld i b av with h1|⟨_,h1⟩
  ·exact(bc.e_ i b h1).1
  ·exact(Hi b h1).1
 ·by_cases hi:i=id
  ·subst hi;exact bc.fU _ jL Hh
  ·rw[Cj i hi]at e;exact bc.fU i a_ e
 ·exact r.fP.trans (bc.fP.mono fun _ h=>h.1)
end Gv
