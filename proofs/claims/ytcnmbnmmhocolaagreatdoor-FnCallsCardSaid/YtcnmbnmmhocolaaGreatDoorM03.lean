/-
  Part of the proof: the machine, what functions compute, and the plain laws.
-/
import Derived.Test.YtcnmbnmmhocolaaGreatDoorM02
namespace Gv
open Go Go.Proofs
set_option maxRecDepth 100000
set_option maxHeartbeats 8000000 in
theorem agv(aO aS aT aP:Int)(aM:List Int)(aw au ay:List ab)(aR aQ aN aU:Int)(hc:aw.length+au.length+ay.length≤524288)(lx:au.length≤maxLen)(kX:ay.length≤maxLen)(df:kg (⟨aO,⟨aS,aT,aP,aM⟩,aw,au,ay,aR,aQ,aN,aU⟩:az)=true)(dX:lT (⟨aO,⟨aS,aT,aP,aM⟩,aw,au,ay,aR,aQ,aN,aU⟩:az)=false)(xe:cy aw=true)(xf:cy au=true)(xg:cy ay=true)(hG:au=[]){pJ pK pL np nq u8 nr ns nt nu nv nw nx u16 ny nz nA nB nC nD pM pN pO pP pQ pR pS pT pU u32 pV pW pX pY pZ p0 p1 p2 p3 p4 p5 p6 p7 p8 p9 p_ p' qa qb qc qd qe qf qg qh qi qj qk ql qm qn u64 qo qp qq qs qt qu qv qw qx qy qz qA qB qC qD qE qF qG qH qI qJ qK qL qM qN qO qP qQ qR qS qT qU qV qW qX qY qZ q0 q1 q2 q3 q4 q5 q6 q7 q8 q9 q_ q' ra rb re rf rh ri rj rk rl rm rn rp rq rr ru rv ry rz rA rB rC rE rF rG rH rI rJ rK rM rN rO rP rQ rR rS rT rU rW rX rY rZ r1 r2 r3 r4 r5 r6 r7 r8 r9 r_ r' sa sb sc sd se sf sg sh si sj sk sm sn sq sr ss su sv sw sx sy sA sB sC sD sE sF sG sH sI sJ sK sL sM sN sO sP sQ sR sS sT sU sV sW sX sY sZ s0 s3 s4 s5 s6 s7 s8 s9 s_ s' ta tb tc td tf tg th ti tj tk tl tm tn tp tq tr tt tu tv tw tx tz tA:V} :
  codeE Tryz.prog [] (zE 5 (zx Tryz.f121)) ⟨[pJ,.ptr 0 0 0,.d (.bool false),.d (.sl 2 (aw.map ab.enc)),pK,pL,np,nq,u8,nr,ns,nt,nu,nv,nw,nx,u16,ny,nz,nA,nB,nC,nD,pM,pN,pO,pP,pQ,pR,pS,pT,pU,u32,pV,pW,pX,pY,pZ,p0,p1,p2,p3,p4,p5,p6,p7,p8,p9,p_,p',qa,qb,qc,qd,qe,qf,qg,qh,qi,qj,qk,ql,qm,qn,u64,qo,qp,qq,qs,qt,qu,qv,qw,qx,qy,qz,qA,qB,qC,qD,qE,qF,qG,qH,qI,qJ,qK,qL,qM,qN,qO,qP,qQ,qR,qS,qT,qU,qV,qW,qX,qY,qZ,q0,q1,q2,q3,q4,q5,q6,q7,q8,q9,q_,q',ra,rb,re,rf,rh,ri,rj,rk,rl,rm,rn,rp,rq,rr,ru,rv,ry,rz,rA,rB,rC,rE,rF,rG,rH,rI,rJ,rK,rM,rN,rO,rP,rQ,rR,rS,rT,rU,rW,rX,rY,rZ,r1,r2,r3,r4,r5,r6,r7,r8,r9,r_,r',sa,sb,sc,sd,se,sf,sg,sh,si,sj,sk,sm,sn,sq,sr,ss,su,sv,sw,sx,sy,sA,sB,sC,sD,sE,sF,sG,sH,sI,sJ,sK,sL,sM,sN,sO,sP,sQ,sR,sS,sT,sU,sV,sW,sX,sY,sZ,s0,s3,s4,s5,s6,s7,s8,s9,s_,s',ta,tb,tc,td,tf,tg,th,ti,tj,tk,tl,tm,tn,tp,tq,tr,tt,tu,tv,tw,tx,tz,tA],[.box [.d (.int .i64 aO),.d (.int .i64 aS),.d (.int .i64 aT),.d (.int .i64 aP),.d (.sl 1 (aM.map aW)),.d (.sl 2 (aw.map ab.enc)),.d (.sl 2 (au.map ab.enc)),.d (.sl 2 (ay.map ab.enc)),.d (.int .i64 aR),.d (.int .i64 aQ),.d (.int .i64 aN),.d (.int .i64 aU)]]⟩ (bx (f_ Tryz.prog [.tmp 2] [.one (.bool (eA (⟨aO,⟨aS,aT,aP,aM⟩,aw,au,ay,aR,aQ,aN,aU⟩:az)))]) .mk) [] (bx (f_ Tryz.prog [.tmp 2] [.one (.bool (eA (⟨aO,⟨aS,aT,aP,aM⟩,aw,au,ay,aR,aQ,aN,aU⟩:az)))]) .mk):=by
 conv=>arg 3;whnf
 refine w7 fun OU bF=>?_;simp only[go_sem];by_cases OV:ay=[]
 ·skip
  refine b5.intro (fun i:Nat=>⟨(.J::.ptr 0 0 0::.d (.bool false)::.d (.sl 2 (aw.map ab.enc))::.J::.d (.int .i64 i)::jn 240 []),[.box [.d (.int .i64 aO),.d (.int .i64 aS),.d (.int .i64 aT),.d (.int .i64 aP),.d (.sl 1 (aM.map aW)),.d (.sl 2 (aw.map ab.enc)),.d (.sl 2 (au.map ab.enc)),.d (.sl 2 (ay.map ab.enc)),.d (.int .i64 aR),.d (.int .i64 aQ),.d (.int .i64 aN),.d (.int .i64 aU)]]⟩)
   (fun _=>0) (fun i=>i=0) 0 [0] rfl ?_ ?_
  ·simp only[go_sem];simp
  ·rintro _ rfl;have ar:decide (((0:Nat):Int)<(ay.length:Int))=false:=a_ (by rw[OV];simp);have hA:oh (⟨aO,⟨aS,aT,aP,aM⟩,aw,au,ay,aR,aQ,aN,aU⟩:az)=aw:=by unfold oh eb;simp only[hG,OV,List.foldl_nil]
   simp only[go_sem,lM,ar];exact bF _ (agw aO aS aT aP aM aw au ay aR aQ aN aU hc lx kX df dX hA)
 ·skip
  have ve:aw=eb aw au:=by rw[hG];rfl
  have WA:=OV;refine b5.intro (α:=Nat×Option (List ab)) (fun y=>match y.2 with
    |none=>⟨(.J::.ptr 0 0 0::.d (.bool false)::.d (.sl 2 (aw.map ab.enc))::.J::.d (.int .i64 y.1)::jn 240 []),[.box [.d (.int .i64 aO),.d (.int .i64 aS),.d (.int .i64 aT),.d (.int .i64 aP),.d (.sl 1 (aM.map aW)),.d (.sl 2 (aw.map ab.enc)),.d (.sl 2 (au.map ab.enc)),.d (.sl 2 (ay.map ab.enc)),.d (.int .i64 aR),.d (.int .i64 aQ),.d (.int .i64 aN),.d (.int .i64 aU)]]⟩
    |some ys=>⟨(.J::.ptr 0 0 0::.d (.bool false)::.sl 1 0 ys.length::.J::.d (.int .i64 y.1)::jn 240 []),[.box [.d (.int .i64 aO),.d (.int .i64 aS),.d (.int .i64 aT),.d (.int .i64 aP),.d (.sl 1 (aM.map aW)),.d (.sl 2 (aw.map ab.enc)),.d (.sl 2 (au.map ab.enc)),.d (.sl 2 (ay.map ab.enc)),.d (.int .i64 aR),.d (.int .i64 aQ),.d (.int .i64 aN),.d (.int .i64 aU)],.ai 2 (ys.map ab.enc) true]⟩)
   (fun y=>ay.length-y.1) (fun y=>y.1≤ay.length∧(y.2=none→y.1=0)∧y.2.getD aw=eb (eb aw au) (ay.take y.1)) (0,none) [0] ⟨by simp,by simp,by simp only[Option.getD_none,List.take_zero];exact ve⟩ ?_ ?_
  ·simp only[go_sem];simp
  ·rintro⟨i,wK⟩ ⟨hi,hz,hy⟩;simp only at hi hz hy;have hL:=o0 (ay.take i) (eb aw au);have WB:=o0 au aw;have cn:(ay.take i).length=i:=by simp;omega
   cases wK with
   |none=>
    have ke:=hz rfl;simp only[Option.getD_none]at hy;by_cases h1:i<ay.length
    ·have ar:decide ((i:Int)<(ay.length:Int))=true:=bc (by omega);have av:=bZ ab.enc ay i h1;have hw:=dv h1 kX;have cw:=zF (eb aw au) ay i h1;rw[←hy]at cw;have Jt:aw.length≤1048576:=by rw[hy];omega
     try simp only[go_sem,lM,aF,av,ab.enc,ar]
     repeat'(first|((first|refine ae.intro (by first|apply w9|(apply uz<;>first|assumption|omega)) ?_|refine ao.intro (by first|apply vC|apply iE|apply hJ) ?_|refine bb ?_)<;>simp only[go_sem,lM])|(with_reducible refine al ?_)|fail)
     refine bm.intro (i+1,some (fh aw ay[i])) [0,1] ⟨by omega,by simp,by simp[cw]⟩ (show ay.length-(i+1)<ay.length-i by omega) ?_;simp only[go_sem,hw];simp
    ·exfalso;exact absurd (List.length_pos_iff.2 WA) (by omega)
   |some ys=>
    skip
    simp only[Option.getD_some]at hy;by_cases h1:i<ay.length
    ·have ar:decide ((i:Int)<(ay.length:Int))=true:=bc (by omega);have av:=bZ ab.enc ay i h1;have hw:=dv h1 kX;have cw:=zF (eb aw au) ay i h1;rw[←hy]at cw;have Jt:ys.length≤1048576:=by rw[hy];omega
     try simp only[go_sem,lM,aF,av,ab.enc,ar]
     repeat'(first|((first|refine ae.intro (by(apply uz<;>first|assumption|omega)) ?_|refine bb ?_)<;>simp only[go_sem,lM])|(with_reducible refine al ?_)|fail)
     refine bm.intro (i+1,some (fh ys ay[i])) [0,2] ⟨by omega,by simp,by simp[cw]⟩ (show ay.length-(i+1)<ay.length-i by omega) ?_;simp only[go_sem,hw];simp
    ·have ar:decide ((i:Int)<(ay.length:Int))=false:=a_ (by omega);obtain rfl:i=ay.length:=by omega
     rw[dB]at hy;have FZ:=hy;have hA:oh (⟨aO,⟨aS,aT,aP,aM⟩,aw,au,ay,aR,aQ,aN,aU⟩:az)=ys:=hy.symm;simp only[go_sem,lM,ar];exact bF _ (WC aO aS aT aP aM aw au ay aR aQ aN aU hc lx kX df dX ys hA (by rw[FZ];have:=o0 ay (eb aw au);have:=o0 au aw;omega) (Wq xe xf xg (.inr WA) FZ))
set_option maxHeartbeats 8000000 in
theorem agx(aO aS aT aP:Int)(aM:List Int)(aw au ay:List ab)(aR aQ aN aU:Int)(hc:aw.length+au.length+ay.length≤524288)(lx:au.length≤maxLen)(kX:ay.length≤maxLen)(df:kg (⟨aO,⟨aS,aT,aP,aM⟩,aw,au,ay,aR,aQ,aN,aU⟩:az)=true)(dX:lT (⟨aO,⟨aS,aT,aP,aM⟩,aw,au,ay,aR,aQ,aN,aU⟩:az)=false)(xe:cy aw=true)(xf:cy au=true)(xg:cy ay=true)(hG:au≠[])(X:List ab)(b_:X=eb aw au){pJ pK pL np nq u8 nr ns nt nu nv nw nx u16 ny nz nA nB nC nD pM pN pO pP pQ pR pS pT pU u32 pV pW pX pY pZ p0 p1 p2 p3 p4 p5 p6 p7 p8 p9 p_ p' qa qb qc qd qe qf qg qh qi qj qk ql qm qn u64 qo qp qq qs qt qu qv qw qx qy qz qA qB qC qD qE qF qG qH qI qJ qK qL qM qN qO qP qQ qR qS qT qU qV qW qX qY qZ q0 q1 q2 q3 q4 q5 q6 q7 q8 q9 q_ q' ra rb re rf rh ri rj rk rl rm rn rp rq rr ru rv ry rz rA rB rC rE rF rG rH rI rJ rK rM rN rO rP rQ rR rS rT rU rW rX rY rZ r1 r2 r3 r4 r5 r6 r7 r8 r9 r_ r' sa sb sc sd se sf sg sh si sj sk sm sn sq sr ss su sv sw sx sy sA sB sC sD sE sF sG sH sI sJ sK sL sM sN sO sP sQ sR sS sT sU sV sW sX sY sZ s0 s3 s4 s5 s6 s7 s8 s9 s_ s' ta tb tc td tf tg th ti tj tk tl tm tn tp tq tr tt tu tv tw tx tz tA:V} :
  codeE Tryz.prog [] (zE 5 (zx Tryz.f121)) ⟨[pJ,.ptr 0 0 0,.d (.bool false),.sl 1 0 X.length,pK,pL,np,nq,u8,nr,ns,nt,nu,nv,nw,nx,u16,ny,nz,nA,nB,nC,nD,pM,pN,pO,pP,pQ,pR,pS,pT,pU,u32,pV,pW,pX,pY,pZ,p0,p1,p2,p3,p4,p5,p6,p7,p8,p9,p_,p',qa,qb,qc,qd,qe,qf,qg,qh,qi,qj,qk,ql,qm,qn,u64,qo,qp,qq,qs,qt,qu,qv,qw,qx,qy,qz,qA,qB,qC,qD,qE,qF,qG,qH,qI,qJ,qK,qL,qM,qN,qO,qP,qQ,qR,qS,qT,qU,qV,qW,qX,qY,qZ,q0,q1,q2,q3,q4,q5,q6,q7,q8,q9,q_,q',ra,rb,re,rf,rh,ri,rj,rk,rl,rm,rn,rp,rq,rr,ru,rv,ry,rz,rA,rB,rC,rE,rF,rG,rH,rI,rJ,rK,rM,rN,rO,rP,rQ,rR,rS,rT,rU,rW,rX,rY,rZ,r1,r2,r3,r4,r5,r6,r7,r8,r9,r_,r',sa,sb,sc,sd,se,sf,sg,sh,si,sj,sk,sm,sn,sq,sr,ss,su,sv,sw,sx,sy,sA,sB,sC,sD,sE,sF,sG,sH,sI,sJ,sK,sL,sM,sN,sO,sP,sQ,sR,sS,sT,sU,sV,sW,sX,sY,sZ,s0,s3,s4,s5,s6,s7,s8,s9,s_,s',ta,tb,tc,td,tf,tg,th,ti,tj,tk,tl,tm,tn,tp,tq,tr,tt,tu,tv,tw,tx,tz,tA],[.box [.d (.int .i64 aO),.d (.int .i64 aS),.d (.int .i64 aT),.d (.int .i64 aP),.d (.sl 1 (aM.map aW)),.d (.sl 2 (aw.map ab.enc)),.d (.sl 2 (au.map ab.enc)),.d (.sl 2 (ay.map ab.enc)),.d (.int .i64 aR),.d (.int .i64 aQ),.d (.int .i64 aN),.d (.int .i64 aU)],.ai 2 (X.map ab.enc) true]⟩ (bx (f_ Tryz.prog [.tmp 2] [.one (.bool (eA (⟨aO,⟨aS,aT,aP,aM⟩,aw,au,ay,aR,aQ,aN,aU⟩:az)))]) .mk) [] (bx (f_ Tryz.prog [.tmp 2] [.one (.bool (eA (⟨aO,⟨aS,aT,aP,aM⟩,aw,au,ay,aR,aQ,aN,aU⟩:az)))]) .mk):=by
 conv=>arg 3;whnf
 refine w7 fun OU bF=>?_;simp only[go_sem];subst b_;refine b5.intro (α:=Nat×Option (List ab)) (fun y=>match y.2 with
   |none=>⟨(.J::.ptr 0 0 0::.d (.bool false)::.d (.sl 2 (aw.map ab.enc))::.J::.d (.int .i64 y.1)::jn 240 []),[.box [.d (.int .i64 aO),.d (.int .i64 aS),.d (.int .i64 aT),.d (.int .i64 aP),.d (.sl 1 (aM.map aW)),.d (.sl 2 (aw.map ab.enc)),.d (.sl 2 (au.map ab.enc)),.d (.sl 2 (ay.map ab.enc)),.d (.int .i64 aR),.d (.int .i64 aQ),.d (.int .i64 aN),.d (.int .i64 aU)]]⟩
   |some ys=>⟨(.J::.ptr 0 0 0::.d (.bool false)::.sl 1 0 ys.length::.J::.d (.int .i64 y.1)::jn 240 []),[.box [.d (.int .i64 aO),.d (.int .i64 aS),.d (.int .i64 aT),.d (.int .i64 aP),.d (.sl 1 (aM.map aW)),.d (.sl 2 (aw.map ab.enc)),.d (.sl 2 (au.map ab.enc)),.d (.sl 2 (ay.map ab.enc)),.d (.int .i64 aR),.d (.int .i64 aQ),.d (.int .i64 aN),.d (.int .i64 aU)],.ai 2 (ys.map ab.enc) true]⟩)
  (fun y=>ay.length-y.1) (fun y=>y.1≤ay.length∧(y.2=none→False)∧y.2.getD aw=eb (eb aw au) (ay.take y.1)) (0,some (eb aw au)) [0,1] ⟨by simp,by simp,by simp[eb]⟩ ?_ ?_
 ·simp only[go_sem];simp
 ·rintro⟨i,wK⟩ ⟨hi,hz,hy⟩;simp only at hi hz hy;have hL:=o0 (ay.take i) (eb aw au);have WB:=o0 au aw;have cn:(ay.take i).length=i:=by simp;omega
  cases wK with
  |none=>exact(hz rfl).elim
  |some ys=>
   skip
   simp only[Option.getD_some]at hy;by_cases h1:i<ay.length
   ·have ar:decide ((i:Int)<(ay.length:Int))=true:=bc (by omega);have av:=bZ ab.enc ay i h1;have hw:=dv h1 kX;have cw:=zF (eb aw au) ay i h1;rw[←hy]at cw;have Jt:ys.length≤1048576:=by rw[hy];omega
    try simp only[go_sem,lM,aF,av,ab.enc,ar]
    repeat'(first|((first|refine ae.intro (by first|apply w9|(apply uz<;>first|assumption|omega)) ?_|refine ao.intro (by first|apply vC|apply iE|apply hJ) ?_|refine bb ?_)<;>simp only[go_sem,lM])|(with_reducible refine al ?_)|fail)
    refine bm.intro (i+1,some (fh ys ay[i])) [0,2] ⟨by omega,by simp,by simp[cw]⟩ (show ay.length-(i+1)<ay.length-i by omega) ?_;simp only[go_sem,hw];simp
   ·have ar:decide ((i:Int)<(ay.length:Int))=false:=a_ (by omega);obtain rfl:i=ay.length:=by omega
    rw[dB]at hy;have FZ:=hy;have hA:oh (⟨aO,⟨aS,aT,aP,aM⟩,aw,au,ay,aR,aQ,aN,aU⟩:az)=ys:=hy.symm;simp only[go_sem,lM,ar];exact bF _ (WC aO aS aT aP aM aw au ay aR aQ aN aU hc lx kX df dX ys hA (by rw[FZ];have:=o0 ay (eb aw au);have:=o0 au aw;omega) (Wq xe xf xg (.inl hG) FZ))
set_option maxHeartbeats 8000000 in
theorem agy(aO aS aT aP:Int)(aM:List Int)(aw au ay:List ab)(aR aQ aN aU:Int)(hc:aw.length+au.length+ay.length≤524288)(lx:au.length≤maxLen)(kX:ay.length≤maxLen)(df:kg (⟨aO,⟨aS,aT,aP,aM⟩,aw,au,ay,aR,aQ,aN,aU⟩:az)=true)(dX:lT (⟨aO,⟨aS,aT,aP,aM⟩,aw,au,ay,aR,aQ,aN,aU⟩:az)=false)(xe:cy aw=true)(xf:cy au=true)(xg:cy ay=true){pJ pK pL np nq u8 nr ns nt nu nv nw nx u16 ny nz nA nB nC nD pM pN pO pP pQ pR pS pT pU u32 pV pW pX pY pZ p0 p1 p2 p3 p4 p5 p6 p7 p8 p9 p_ p' qa qb qc qd qe qf qg qh qi qj qk ql qm qn u64 qo qp qq qs qt qu qv qw qx qy qz qA qB qC qD qE qF qG qH qI qJ qK qL qM qN qO qP qQ qR qS qT qU qV qW qX qY qZ q0 q1 q2 q3 q4 q5 q6 q7 q8 q9 q_ q' ra rb re rf rh ri rj rk rl rm rn rp rq rr ru rv ry rz rA rB rC rE rF rG rH rI rJ rK rM rN rO rP rQ rR rS rT rU rW rX rY rZ r1 r2 r3 r4 r5 r6 r7 r8 r9 r_ r' sa sb sc sd se sf sg sh si sj sk sm sn sq sr ss su sv sw sx sy sA sB sC sD sE sF sG sH sI sJ sK sL sM sN sO sP sQ sR sS sT sU sV sW sX sY sZ s0 s3 s4 s5 s6 s7 s8 s9 s_ s' ta tb tc td tf tg th ti tj tk tl tm tn tp tq tr tt tu tv tw tx tz tA:V} :
  codeE Tryz.prog [] (zE 4 (zx Tryz.f121)) ⟨[pJ,.ptr 0 0 0,.d (.bool false),.d (.sl 2 (aw.map ab.enc)),pK,pL,np,nq,u8,nr,ns,nt,nu,nv,nw,nx,u16,ny,nz,nA,nB,nC,nD,pM,pN,pO,pP,pQ,pR,pS,pT,pU,u32,pV,pW,pX,pY,pZ,p0,p1,p2,p3,p4,p5,p6,p7,p8,p9,p_,p',qa,qb,qc,qd,qe,qf,qg,qh,qi,qj,qk,ql,qm,qn,u64,qo,qp,qq,qs,qt,qu,qv,qw,qx,qy,qz,qA,qB,qC,qD,qE,qF,qG,qH,qI,qJ,qK,qL,qM,qN,qO,qP,qQ,qR,qS,qT,qU,qV,qW,qX,qY,qZ,q0,q1,q2,q3,q4,q5,q6,q7,q8,q9,q_,q',ra,rb,re,rf,rh,ri,rj,rk,rl,rm,rn,rp,rq,rr,ru,rv,ry,rz,rA,rB,rC,rE,rF,rG,rH,rI,rJ,rK,rM,rN,rO,rP,rQ,rR,rS,rT,rU,rW,rX,rY,rZ,r1,r2,r3,r4,r5,r6,r7,r8,r9,r_,r',sa,sb,sc,sd,se,sf,sg,sh,si,sj,sk,sm,sn,sq,sr,ss,su,sv,sw,sx,sy,sA,sB,sC,sD,sE,sF,sG,sH,sI,sJ,sK,sL,sM,sN,sO,sP,sQ,sR,sS,sT,sU,sV,sW,sX,sY,sZ,s0,s3,s4,s5,s6,s7,s8,s9,s_,s',ta,tb,tc,td,tf,tg,th,ti,tj,tk,tl,tm,tn,tp,tq,tr,tt,tu,tv,tw,tx,tz,tA],[.box [.d (.int .i64 aO),.d (.int .i64 aS),.d (.int .i64 aT),.d (.int .i64 aP),.d (.sl 1 (aM.map aW)),.d (.sl 2 (aw.map ab.enc)),.d (.sl 2 (au.map ab.enc)),.d (.sl 2 (ay.map ab.enc)),.d (.int .i64 aR),.d (.int .i64 aQ),.d (.int .i64 aN),.d (.int .i64 aU)]]⟩ (bx (f_ Tryz.prog [.tmp 2] [.one (.bool (eA (⟨aO,⟨aS,aT,aP,aM⟩,aw,au,ay,aR,aQ,aN,aU⟩:az)))]) .mk) [] (bx (f_ Tryz.prog [.tmp 2] [.one (.bool (eA (⟨aO,⟨aS,aT,aP,aM⟩,aw,au,ay,aR,aQ,aN,aU⟩:az)))]) .mk):=by
 conv=>arg 3;whnf
 refine w7 fun OU bF=>?_;simp only[go_sem];by_cases OW:au=[]
 ·skip
  refine b5.intro (fun i:Nat=>⟨(.J::.ptr 0 0 0::.d (.bool false)::.d (.sl 2 (aw.map ab.enc))::.d (.int .i64 i)::jn 241 []),[.box [.d (.int .i64 aO),.d (.int .i64 aS),.d (.int .i64 aT),.d (.int .i64 aP),.d (.sl 1 (aM.map aW)),.d (.sl 2 (aw.map ab.enc)),.d (.sl 2 (au.map ab.enc)),.d (.sl 2 (ay.map ab.enc)),.d (.int .i64 aR),.d (.int .i64 aQ),.d (.int .i64 aN),.d (.int .i64 aU)]]⟩)
   (fun _=>0) (fun i=>i=0) 0 [0] rfl ?_ ?_
  ·simp only[go_sem];simp
  ·rintro _ rfl;have ar:decide (((0:Nat):Int)<(au.length:Int))=false:=a_ (by rw[OW];simp);simp only[go_sem,lM,ar];exact bF _ (agv aO aS aT aP aM aw au ay aR aQ aN aU hc lx kX df dX xe xf xg OW)
 ·skip
  have WD:=OW;have ve:aw=eb aw []:=rfl;refine b5.intro (α:=Nat×Option (List ab)) (fun y=>match y.2 with
    |none=>⟨(.J::.ptr 0 0 0::.d (.bool false)::.d (.sl 2 (aw.map ab.enc))::.d (.int .i64 y.1)::jn 241 []),[.box [.d (.int .i64 aO),.d (.int .i64 aS),.d (.int .i64 aT),.d (.int .i64 aP),.d (.sl 1 (aM.map aW)),.d (.sl 2 (aw.map ab.enc)),.d (.sl 2 (au.map ab.enc)),.d (.sl 2 (ay.map ab.enc)),.d (.int .i64 aR),.d (.int .i64 aQ),.d (.int .i64 aN),.d (.int .i64 aU)]]⟩
    |some ys=>⟨(.J::.ptr 0 0 0::.d (.bool false)::.sl 1 0 ys.length::.d (.int .i64 y.1)::jn 241 []),[.box [.d (.int .i64 aO),.d (.int .i64 aS),.d (.int .i64 aT),.d (.int .i64 aP),.d (.sl 1 (aM.map aW)),.d (.sl 2 (aw.map ab.enc)),.d (.sl 2 (au.map ab.enc)),.d (.sl 2 (ay.map ab.enc)),.d (.int .i64 aR),.d (.int .i64 aQ),.d (.int .i64 aN),.d (.int .i64 aU)],.ai 2 (ys.map ab.enc) true]⟩)
   (fun y=>au.length-y.1) (fun y=>y.1≤au.length∧(y.2=none→y.1=0)∧y.2.getD aw=eb aw (au.take y.1)) (0,none) [0] ⟨by simp,by simp,by simp only[Option.getD_none,List.take_zero];exact ve⟩ ?_ ?_
  ·simp only[go_sem];simp
  ·rintro⟨i,wK⟩ ⟨hi,hz,hy⟩;simp only at hi hz hy;have hL:=o0 (au.take i) aw;have WB:=o0 au aw;have cn:(au.take i).length=i:=by simp;omega
   cases wK with
   |none=>
    have ke:=hz rfl;simp only[Option.getD_none]at hy;by_cases h1:i<au.length
    ·have ar:decide ((i:Int)<(au.length:Int))=true:=bc (by omega);have av:=bZ ab.enc au i h1;have hw:=dv h1 lx;have cw:=zF aw au i h1;rw[←hy]at cw;have Jt:aw.length≤1048576:=by rw[hy];omega
     try simp only[go_sem,lM,aF,av,ab.enc,ar]
     repeat'(first|((first|refine ae.intro (by first|apply w9|(apply uz<;>first|assumption|omega)) ?_|refine ao.intro (by first|apply vC|apply iE|apply hJ) ?_|refine bb ?_)<;>simp only[go_sem,lM])|(with_reducible refine al ?_)|fail)
     refine bm.intro (i+1,some (fh aw au[i])) [0,1] ⟨by omega,by simp,by simp[cw]⟩ (show au.length-(i+1)<au.length-i by omega) ?_;simp only[go_sem,hw];simp
    ·exfalso;exact absurd (List.length_pos_iff.2 WD) (by omega)
   |some ys=>
    skip
    simp only[Option.getD_some]at hy;by_cases h1:i<au.length
    ·have ar:decide ((i:Int)<(au.length:Int))=true:=bc (by omega);have av:=bZ ab.enc au i h1;have hw:=dv h1 lx;have cw:=zF aw au i h1;rw[←hy]at cw;have Jt:ys.length≤1048576:=by rw[hy];omega
     try simp only[go_sem,lM,aF,av,ab.enc,ar]
     repeat'(first|((first|refine ae.intro (by(apply uz<;>first|assumption|omega)) ?_|refine bb ?_)<;>simp only[go_sem,lM])|(with_reducible refine al ?_)|fail)
     refine bm.intro (i+1,some (fh ys au[i])) [0,2] ⟨by omega,by simp,by simp[cw]⟩ (show au.length-(i+1)<au.length-i by omega) ?_;simp only[go_sem,hw];simp
    ·have ar:decide ((i:Int)<(au.length:Int))=false:=a_ (by omega);obtain rfl:i=au.length:=by omega
     rw[dB]at hy;simp only[go_sem,lM,ar];exact bF _ (agx aO aS aT aP aM aw au ay aR aQ aN aU hc lx kX df dX xe xf xg WD ys hy)
set_option maxHeartbeats 8000000 in
theorem agz(aO aS aT aP:Int)(aM:List Int)(aw au ay:List ab)(aR aQ aN aU:Int)(hc:aw.length+au.length+ay.length≤524288)(lx:au.length≤maxLen)(kX:ay.length≤maxLen)(df:kg (⟨aO,⟨aS,aT,aP,aM⟩,aw,au,ay,aR,aQ,aN,aU⟩:az)=true)(dX:lT (⟨aO,⟨aS,aT,aP,aM⟩,aw,au,ay,aR,aQ,aN,aU⟩:az)=false)(xe:cy aw=true)(xf:cy au=true)(xg:cy ay=true){pJ js pK pL np nq u8 nr ns nt nu nv nw nx u16 ny nz nA nB nC nD pM pN pO pP pQ pR pS pT pU u32 pV pW pX pY pZ p0 p1 p2 p3 p4 p5 p6 p7 p8 p9 p_ p' qa qb qc qd qe qf qg qh qi qj qk ql qm qn u64 qo qp qq qs qt qu qv qw qx qy qz qA qB qC qD qE qF qG qH qI qJ qK qL qM qN qO qP qQ qR qS qT qU qV qW qX qY qZ q0 q1 q2 q3 q4 q5 q6 q7 q8 q9 q_ q' ra rb re rf rh ri rj rk rl rm rn rp rq rr ru rv ry rz rA rB rC rE rF rG rH rI rJ rK rM rN rO rP rQ rR rS rT rU rW rX rY rZ r1 r2 r3 r4 r5 r6 r7 r8 r9 r_ r' sa sb sc sd se sf sg sh si sj sk sm sn sq sr ss su sv sw sx sy sA sB sC sD sE sF sG sH sI sJ sK sL sM sN sO sP sQ sR sS sT sU sV sW sX sY sZ s0 s3 s4 s5 s6 s7 s8 s9 s_ s' ta tb tc td tf tg th ti tj tk tl tm tn tp tq tr tt tu tv tw tx tz tA:V} :
  codeE Tryz.prog [] (zE 3 (zx Tryz.f121)) ⟨[pJ,.ptr 0 0 0,.d (.bool false),js,pK,pL,np,nq,u8,nr,ns,nt,nu,nv,nw,nx,u16,ny,nz,nA,nB,nC,nD,pM,pN,pO,pP,pQ,pR,pS,pT,pU,u32,pV,pW,pX,pY,pZ,p0,p1,p2,p3,p4,p5,p6,p7,p8,p9,p_,p',qa,qb,qc,qd,qe,qf,qg,qh,qi,qj,qk,ql,qm,qn,u64,qo,qp,qq,qs,qt,qu,qv,qw,qx,qy,qz,qA,qB,qC,qD,qE,qF,qG,qH,qI,qJ,qK,qL,qM,qN,qO,qP,qQ,qR,qS,qT,qU,qV,qW,qX,qY,qZ,q0,q1,q2,q3,q4,q5,q6,q7,q8,q9,q_,q',ra,rb,re,rf,rh,ri,rj,rk,rl,rm,rn,rp,rq,rr,ru,rv,ry,rz,rA,rB,rC,rE,rF,rG,rH,rI,rJ,rK,rM,rN,rO,rP,rQ,rR,rS,rT,rU,rW,rX,rY,rZ,r1,r2,r3,r4,r5,r6,r7,r8,r9,r_,r',sa,sb,sc,sd,se,sf,sg,sh,si,sj,sk,sm,sn,sq,sr,ss,su,sv,sw,sx,sy,sA,sB,sC,sD,sE,sF,sG,sH,sI,sJ,sK,sL,sM,sN,sO,sP,sQ,sR,sS,sT,sU,sV,sW,sX,sY,sZ,s0,s3,s4,s5,s6,s7,s8,s9,s_,s',ta,tb,tc,td,tf,tg,th,ti,tj,tk,tl,tm,tn,tp,tq,tr,tt,tu,tv,tw,tx,tz,tA],[.box [.d (.int .i64 aO),.d (.int .i64 aS),.d (.int .i64 aT),.d (.int .i64 aP),.d (.sl 1 (aM.map aW)),.d (.sl 2 (aw.map ab.enc)),.d (.sl 2 (au.map ab.enc)),.d (.sl 2 (ay.map ab.enc)),.d (.int .i64 aR),.d (.int .i64 aQ),.d (.int .i64 aN),.d (.int .i64 aU)]]⟩ (bx (f_ Tryz.prog [.tmp 2] [.one (.bool (eA (⟨aO,⟨aS,aT,aP,aM⟩,aw,au,ay,aR,aQ,aN,aU⟩:az)))]) .mk) [] (bx (f_ Tryz.prog [.tmp 2] [.one (.bool (eA (⟨aO,⟨aS,aT,aP,aM⟩,aw,au,ay,aR,aQ,aN,aU⟩:az)))]) .mk):=by
 conv=>arg 3;whnf
 refine w7 fun OU bF=>?_;simp only[go_sem];exact bF _ (agy aO aS aT aP aM aw au ay aR aQ aN aU hc lx kX df dX xe xf xg)
set_option maxHeartbeats 8000000 in
theorem kY(aO aS aT aP:Int)(aM:List Int)(aw au ay:List ab)(aR aQ aN aU:Int)(hc:aw.length+au.length+ay.length≤524288):PureCall Tryz.prog 121 [.agg [.int .i64 aO,.int .i64 aS,.int .i64 aT,.int .i64 aP,.sl 1 (aM.map aW),.sl 2 (aw.map ab.enc),.sl 2 (au.map ab.enc),.sl 2 (ay.map ab.enc),.int .i64 aR,.int .i64 aQ,.int .i64 aN,.int .i64 aU]] [.one (.bool (eA (⟨aO,⟨aS,aT,aP,aM⟩,aw,au,ay,aR,aQ,aN,aU⟩:az)))]:=by
 refine aL 246 Tryz.func121 Tryz.call121 [.tmp 2] ?_;intro ok;have lx:au.length≤maxLen:=by simp only[maxLen];omega
 have kX:ay.length≤maxLen:=by simp only[maxLen];omega
 refine w7 fun K1 Ju=>?_;simp only[go_sem];refine Ju _ (w7 fun K2 Jv=>?_)
 try simp only[go_sem]
 repeat'(first|((first|refine ae.intro (by first|apply w9|(apply uz<;>first|assumption|omega)) ?_|refine ao.intro (by first|apply vC|apply iE|apply hJ) ?_|refine bb ?_)<;>simp only[go_sem])|(with_reducible refine al ?_)|fail)
 refine bp (fun h0=>?_) (fun h0=>?_)
 ·simp only[go_sem];have:kg (⟨aO,⟨aS,aT,aP,aM⟩,aw,au,ay,aR,aQ,aN,aU⟩:az)=false:=by
   rw[Bool.eq_false_iff];intro g;simp[kg]at h0 g;simp_all
  simp[eA,this]
 ·have df:kg (⟨aO,⟨aS,aT,aP,aM⟩,aw,au,ay,aR,aQ,aN,aU⟩:az)=true:=by
   simp[kg]at h0⊢;simp_all
  have agA:(jC (⟨aO,⟨aS,aT,aP,aM⟩,aw,au,ay,aR,aQ,aN,aU⟩:az).ring=true∧cy aw=true∧cy au=true∧cy ay=true):=by
   simp only[kg,cX,and_assoc]at df;exact⟨df.1,df.2.1,df.2.2.1,df.2.2.2.1⟩
  obtain⟨Ud,xe,xf,xg⟩:=agA;simp only[go_sem];refine Jv _ (w7 fun agB Jw=>?_)
  try simp only[go_sem]
  repeat'(first|((first|refine ae.intro (by(apply uz<;>first|assumption|omega)) ?_|refine bb ?_)<;>simp only[go_sem])|(with_reducible refine al ?_)|fail)
  refine bp (fun aI=>?_) (fun aI=>?_)
  ·have dX:lT (⟨aO,⟨aS,aT,aP,aM⟩,aw,au,ay,aR,aQ,aN,aU⟩:az)=true:=by simpa [lT,c3]using aI
   simp only[go_sem]
   try simp only[go_sem,lM]
   repeat'(refine bb ?_<;>simp only[go_sem,lM])
   all_goals(refine d' ?_;simp[eA,df,dX,Jx])
  ·have dX:lT (⟨aO,⟨aS,aT,aP,aM⟩,aw,au,ay,aR,aQ,aN,aU⟩:az)=false:=by simpa [lT,c3]using aI
   simp only[go_sem];exact Jw _ (agz aO aS aT aP aM aw au ay aR aQ aN aU hc lx kX df dX xe xf xg)
set_option maxRecDepth 100000
def WI:List (List bt):=ct 14 [4162967,4162965,4162959,4163062,4163008,4163926,4163440,4250434,4246060,4232938,4193572,4074381,4517248,3188646]
attribute [go_sem] WI
def GH:az:=⟨0,⟨0,0,0,[]⟩,[],[],[],0,0,0,0⟩
def mV(n:Int):az:=if kK n then⟨0,lC n,[],[],[],-1,0,0,0⟩else GH
set_option maxHeartbeats 1000000 in
theorem agG(n:Int):PureCall Tryz.prog 110 [.one (.int .i64 n)] [.agg (az.enc (mV n)),.one (.bool (kK n))]:=by
 refine aL 16 Tryz.func110 Tryz.call110 [.cell 2 58,.tmp 3] ?_;intro _
 cases hI:kK n with
 |false=>
  try simp only[go_sem]
  repeat'(refine ae.intro (by apply V') ?_<;>simp only[go_sem,hI])
  all_goals simp[mV,GH,hI]
 |true=>
  have hn:=yH hI
  try simp only[go_sem]
  repeat'(first|(refine ae.intro (by apply V') ?_<;>simp only[go_sem,hI])|(with_reducible refine al ?_)|fail)
  all_goals simp[mV,lC,hI,aW]
def jK(s:az):Bool:=eA s&&decide (s.state≤1)&&decide (s.bj=-1)
def kz(s:az)(d:List UInt8):az:=
 if jK s then {s with ring:=kh s.ring d,pending:=if 0<fL s.ring d then fh s.pending ⟨s.ring.b',(kh s.ring d).b'⟩else s.pending}else s
def o8(s:az)(d:List UInt8):Int:=if jK s then(fL s.ring d:Int)else 0
set_option maxHeartbeats 4000000 in
theorem Yd(aO aS aT aP:Int)(aM:List Int)(aw au ay:List ab)(aR aQ aN aU:Int)(d:List UInt8)(hc:aw.length+au.length+ay.length≤524288)(hr:aM.length≤8388608)(hd:d.length≤1048576):PureCall Tryz.prog 59 [.agg [.int .i64 aO,.int .i64 aS,.int .i64 aT,.int .i64 aP,.sl 1 (aM.map aW),.sl 2 (aw.map ab.enc),.sl 2 (au.map ab.enc),.sl 2 (ay.map ab.enc),.int .i64 aR,.int .i64 aQ,.int .i64 aN,.int .i64 aU],.one (.str d)] [.agg (az.enc (kz (⟨aO,⟨aS,aT,aP,aM⟩,aw,au,ay,aR,aQ,aN,aU⟩:az) d)),.one (.int .i64 (o8 (⟨aO,⟨aS,aT,aP,aM⟩,aw,au,ay,aR,aQ,aN,aU⟩:az) d))]:=by
 refine aL 48 Tryz.func59 Tryz.call59 [.cell 4 58,.tmp 5] ?_;intro _
 cases hW:jK (⟨aO,⟨aS,aT,aP,aM⟩,aw,au,ay,aR,aQ,aN,aU⟩:az)with
 |false=>
  try simp only[go_sem]
  repeat'((first|refine ae.intro (by first|(apply pf<;>first|assumption|omega)|(apply kY<;>first|assumption|omega)) ?_|refine bb ?_)<;>simp only[go_sem,lM])
  refine bp (fun h0=>?_) (fun h0=>?_)
  ·simp only[go_sem,lM];simp[kz,o8,hW]
  ·exfalso;simp[jK]at hW h0;grind
 |true=>
  have hw:=hW;simp only[jK,cX,il,and_assoc]at hw;have ag:decide (1<aO)=false:=a_ (by omega);have e2:decide (aR≠-1)=false:=a_ (by omega)
  try simp only[go_sem]
  repeat'(first|((first|refine ae.intro (by first|(apply pf<;>first|assumption|omega)|(apply kY<;>first|assumption|omega)|(apply aga<;>first|assumption|omega)|(apply uz<;>first|assumption|omega)) ?_|with_reducible refine b9 ?_|refine bp (fun h=>?_) (fun h=>?_))<;>simp only[go_sem,lM,hw.1,ag,e2])|(with_reducible refine al ?_)|fail)
  ·have h':0<fL (⟨aO,⟨aS,aT,aP,aM⟩,aw,au,ay,aR,aQ,aN,aU⟩:az).ring d:=by have:=ch h;simp only;omega
   simp only[kz,o8,hW,if_true,if_pos h']
   try simp[outOA,fa]
  ·have h':¬0<fL (⟨aO,⟨aS,aT,aP,aM⟩,aw,au,ay,aR,aQ,aN,aU⟩:az).ring d:=by have:=cD h;simp only;omega
   simp only[kz,o8,hW,if_true,if_neg h']
   try simp[outOA,fa]
def mQ(s:az):az:=if jK s then {s with bj:=s.ring.b',bd:=1}else s
set_option maxHeartbeats 4000000 in
theorem XG(aO aS aT aP:Int)(aM:List Int)(aw au ay:List ab)(aR aQ aN aU:Int)(hc:aw.length+au.length+ay.length≤524288)(hr:aM.length≤8388608):PureCall Tryz.prog 62 [.agg [.int .i64 aO,.int .i64 aS,.int .i64 aT,.int .i64 aP,.sl 1 (aM.map aW),.sl 2 (aw.map ab.enc),.sl 2 (au.map ab.enc),.sl 2 (ay.map ab.enc),.int .i64 aR,.int .i64 aQ,.int .i64 aN,.int .i64 aU]] [.agg (az.enc (mQ (⟨aO,⟨aS,aT,aP,aM⟩,aw,au,ay,aR,aQ,aN,aU⟩:az))),.one (.bool (jK (⟨aO,⟨aS,aT,aP,aM⟩,aw,au,ay,aR,aQ,aN,aU⟩:az)))]:=by
 refine aL 27 Tryz.func62 Tryz.call62 [.cell 2 58,.tmp 3] ?_;intro _
 cases hW:jK (⟨aO,⟨aS,aT,aP,aM⟩,aw,au,ay,aR,aQ,aN,aU⟩:az)with
 |false=>
  try simp only[go_sem]
  repeat'((first|refine ae.intro (by first|(apply pf<;>first|assumption|omega)|(apply kY<;>first|assumption|omega)) ?_|refine bb ?_)<;>simp only[go_sem,lM])
  refine bp (fun h0=>?_) (fun h0=>?_)
  ·simp only[go_sem,lM];simp[mQ,hW]
  ·exfalso;simp[jK]at hW h0;grind
 |true=>
  have hw:=hW;simp only[jK,cX,il,and_assoc]at hw;have ag:decide (1<aO)=false:=a_ (by omega);have e2:decide (aR≠-1)=false:=a_ (by omega)
  try simp only[go_sem]
  repeat'(first|((first|refine ae.intro (by first|(apply pf<;>first|assumption|omega)|(apply kY<;>first|assumption|omega)) ?_|with_reducible refine b9 ?_)<;>simp only[go_sem,lM,hw.1,ag,e2])|(with_reducible refine al ?_)|fail)
  all_goals simp[mQ,hW]
def lX(s:az)(c:Int):Bool:=eA s&&decide (s.state≤2)&&bJ c
def o9(s:az)(c:Int):az:=if lX s c then⟨4,⟨s.ring.size,s.sent,s.sent,List.replicate s.ring.size.toNat 0⟩,[],[],[],s.sent,0,s.sent,c⟩else s
theorem O3{s:az}(h:eA s=true):jC s.ring=true:=by
 simp only[eA,kg,cX,and_assoc]at h;exact h.1
set_option maxHeartbeats 4000000 in
theorem P5(aO aS aT aP:Int)(aM:List Int)(aw au ay:List ab)(aR aQ aN aU c:Int)(hc:aw.length+au.length+ay.length≤524288)(hr:aM.length≤8388608):PureCall Tryz.prog 70 [.agg [.int .i64 aO,.int .i64 aS,.int .i64 aT,.int .i64 aP,.sl 1 (aM.map aW),.sl 2 (aw.map ab.enc),.sl 2 (au.map ab.enc),.sl 2 (ay.map ab.enc),.int .i64 aR,.int .i64 aQ,.int .i64 aN,.int .i64 aU],.one (.int .i64 c)] [.agg (az.enc (o9 (⟨aO,⟨aS,aT,aP,aM⟩,aw,au,ay,aR,aQ,aN,aU⟩:az) c)),.one (.bool (lX (⟨aO,⟨aS,aT,aP,aM⟩,aw,au,ay,aR,aQ,aN,aU⟩:az) c))]:=by
 refine aL 41 Tryz.func70 Tryz.call70 [.cell 4 58,.tmp 5] ?_;intro _
 cases hW:lX (⟨aO,⟨aS,aT,aP,aM⟩,aw,au,ay,aR,aQ,aN,aU⟩:az) c with
 |false=>
  try simp only[go_sem]
  repeat'((first|refine ae.intro (by(apply kY<;>first|assumption|omega)) ?_|refine ao.intro (by apply hJ) ?_|refine bb ?_)<;>simp only[go_sem])
  refine bp (fun h0=>?_) (fun h0=>?_)
  ·simp only[go_sem]
   try simp only[go_sem,lM]
   repeat'(first|(refine ae.intro (by(apply pf<;>first|assumption|omega)) ?_<;>simp only[go_sem,lM])|(with_reducible refine al ?_)|fail)
   all_goals simp[o9,hW]
  ·exfalso;simp[lX]at hW h0;grind
 |true=>
  have hw:=hW;simp only[lX,cX,il,and_assoc]at hw;have hg:=nZ (O3 hw.1);simp only at hg;have ag:decide (2<aO)=false:=a_ (by omega)
  try simp only[go_sem]
  repeat'(first|((first|refine ae.intro (by first|(apply kY<;>first|assumption|omega)|apply hJ) ?_|with_reducible refine b9 ?_|refine ba WI (by kernel_rfl) (by rfl) ?_)<;>simp only[go_sem,hw.1,ag,hw.2.2])|(with_reducible refine al ?_)|fail)
  all_goals simp[o9,hW,aW]
def A7(s:az):Bool:=eA s&&decide (s.state=4)
def CP(s:az):az:=if A7 s then {s with state:=5}else s
set_option maxHeartbeats 4000000 in
theorem af5(aO aS aT aP:Int)(aM:List Int)(aw au ay:List ab)(aR aQ aN aU:Int)(hc:aw.length+au.length+ay.length≤524288)(hr:aM.length≤8388608):PureCall Tryz.prog 294 [.agg [.int .i64 aO,.int .i64 aS,.int .i64 aT,.int .i64 aP,.sl 1 (aM.map aW),.sl 2 (aw.map ab.enc),.sl 2 (au.map ab.enc),.sl 2 (ay.map ab.enc),.int .i64 aR,.int .i64 aQ,.int .i64 aN,.int .i64 aU]] [.agg (az.enc (CP (⟨aO,⟨aS,aT,aP,aM⟩,aw,au,ay,aR,aQ,aN,aU⟩:az))),.one (.bool (A7 (⟨aO,⟨aS,aT,aP,aM⟩,aw,au,ay,aR,aQ,aN,aU⟩:az)))]:=by
 refine aL 18 Tryz.func294 Tryz.call294 [.cell 2 58,.tmp 3] ?_;intro _
 try simp only[go_sem]
 repeat'(first|((first|refine ae.intro (by first|(apply pf<;>first|assumption|omega)|(apply kY<;>first|assumption|omega)) ?_|refine bb ?_|refine bp (fun h=>?_) (fun h=>?_))<;>simp only[go_sem,lM])|(with_reducible refine al ?_)|fail)
 all_goals(cases hc2:A7 (⟨aO,⟨aS,aT,aP,aM⟩,aw,au,ay,aR,aQ,aN,aU⟩:az)<;>first|(simp[CP,hc2];done)|(exfalso;simp[A7]at *;grind))
def pn:b2:=⟨0,[],false⟩
def xh(s:az):Bool:=eA s&&decide (s.state≤2)
def lu(r:ab)(most a8:Int):Int:=if most<IntKind.i64.wrap (cG r.high a8-r.low)then IntKind.i64.wrap (r.low+dL most 0)else cG r.high a8
def nextOk(s:az)(most a8:Int):Bool:=
 xh s&&(match s.pending[0]? with|some r=>decide (r.low<cG r.high a8)&&decide (r.low<lu r most a8)|none=>decide (s.bd=1))
def nR(s:az)(most a8:Int):b2:=
 if nextOk s most a8 then(match s.pending[0]? with|some r=>⟨r.low,A0 s.ring r.low (IntKind.i64.wrap (lu r most a8-r.low)),decide (s.bd=1)&&decide (lu r most a8=s.bj)⟩|none=>⟨s.bj,[],true⟩)else pn
def wg(s:az)(m l:Int):List AD:=[.agg [.int .i64 (nR s m l).offset,.str (nR s m l).data,.bool (nR s m l).bd],.one (.bool (nextOk s m l))]
theorem Jz{s:az}{m l:Int}(h:nextOk s m l=false):wg s m l=[.agg [.int .i64 0,.str [],.bool false],.one (.bool false)]:=by
 unfold wg nR;rw[h];simp[pn]
theorem agH{s:az}{m l:Int}(bo:xh s=true)(hp:s.pending=[])(hf:s.bd=1):wg s m l=[.agg [.int .i64 s.bj,.str [],.bool true],.one (.bool true)]:=by
 have h:nextOk s m l=true:=by simp[nextOk,bo,hp,hf]
 unfold wg nR;rw[h,hp];simp
theorem agI{s:az}{m l:Int}{r:ab}(bo:xh s=true)(hp:s.pending[0]?=some r)(h1:r.low<cG r.high l)(h2:r.low<lu r m l) :
  wg s m l=[.agg [.int .i64 r.low,.str (A0 s.ring r.low (IntKind.i64.wrap (lu r m l-r.low))),.bool (decide (s.bd=1)&&decide (lu r m l=s.bj))],.one (.bool true)]:=by
 have h:nextOk s m l=true:=by simp[nextOk,bo,hp,h1,h2]
 unfold wg nR;rw[h,hp];simp
set_option maxHeartbeats 4000000 in
theorem ZZ(aO aS aT aP:Int)(aM:List Int)(aw au ay:List ab)(aR aQ aN aU m l:Int)(hc:aw.length+au.length+ay.length≤524288):PureCall Tryz.prog 317 [.agg [.int .i64 aO,.int .i64 aS,.int .i64 aT,.int .i64 aP,.sl 1 (aM.map aW),.sl 2 (aw.map ab.enc),.sl 2 (au.map ab.enc),.sl 2 (ay.map ab.enc),.int .i64 aR,.int .i64 aQ,.int .i64 aN,.int .i64 aU],.one (.int .i64 m),.one (.int .i64 l)] [.agg [.int .i64 (nR (⟨aO,⟨aS,aT,aP,aM⟩,aw,au,ay,aR,aQ,aN,aU⟩:az) m l).offset,.str (nR (⟨aO,⟨aS,aT,aP,aM⟩,aw,au,ay,aR,aQ,aN,aU⟩:az) m l).data,.bool (nR (⟨aO,⟨aS,aT,aP,aM⟩,aw,au,ay,aR,aQ,aN,aU⟩:az) m l).bd],.one (.bool (nextOk (⟨aO,⟨aS,aT,aP,aM⟩,aw,au,ay,aR,aQ,aN,aU⟩:az) m l))]:=by
 refine aL 90 Tryz.func317 Tryz.call317 [.cell 6 251,.tmp 7] ?_;intro _
 show codeE _ _ _ _ (bx (f_ _ _ (wg (⟨aO,⟨aS,aT,aP,aM⟩,aw,au,ay,aR,aQ,aN,aU⟩:az) m l)) .mk) [] (bx (f_ _ _ (wg (⟨aO,⟨aS,aT,aP,aM⟩,aw,au,ay,aR,aQ,aN,aU⟩:az) m l)) .mk)
 cases bo:xh (⟨aO,⟨aS,aT,aP,aM⟩,aw,au,ay,aR,aQ,aN,aU⟩:az)with
 |false=>
  rw[Jz (by simp[nextOk,bo])]
  try simp only[go_sem]
  repeat'((first|refine ae.intro (by(apply kY<;>first|assumption|omega)) ?_|refine bb ?_)<;>simp only[go_sem])
  refine bp (fun h0=>?_) (fun h0=>?_)
  ·simp only[go_sem]
  ·exfalso;simp[xh]at bo h0;grind
 |true=>
  have hw:=bo;simp only[xh,cX,il]at hw;have ag:decide (2<aO)=false:=a_ (by omega);by_cases hp:aw=[]
  ·have e2:decide ((0:Int)<(aw.length:Int))=false:=a_ (by rw[hp];simp);by_cases hf:aQ=1
   ·have aY:decide (aQ=1)=true:=bc hf;rw[agH bo hp hf]
    try simp only[go_sem]
    repeat'((first|refine ae.intro (by(apply kY<;>first|assumption|omega)) ?_|with_reducible refine b9 ?_)<;>simp only[go_sem,lM,hw.1,ag,e2,aY])
   ·have aY:decide (aQ=1)=false:=a_ hf;rw[Jz (by simp[nextOk,hp,hf])]
    try simp only[go_sem]
    repeat'((first|refine ae.intro (by(apply kY<;>first|assumption|omega)) ?_|with_reducible refine b9 ?_)<;>simp only[go_sem,lM,hw.1,ag,e2,aY])
  ·have hlen:0<aw.length:=List.length_pos_iff.2 hp;have e2:decide ((0:Int)<(aw.length:Int))=true:=bc (by omega);have gv:=bZ ab.enc aw 0 hlen;have hr:aw[0]?=some aw[0]:=dg hlen;generalize aw[0]=r at gv hr;by_cases c1:r.low<cG r.high l
   ·have aY:decide ((if l<r.high then l else r.high)≤r.low)=false:=a_ (by unfold cG at c1;omega);by_cases c2:r.low<lu r m l
    ·rw[agI bo hr c1 c2]
     cases bk:decide (m<IntKind.i64.wrap ((if l<r.high then l else r.high)-r.low))with
     |true=>
      have hn:lu r m l=IntKind.i64.wrap (r.low+if 0>m then 0 else m):=by unfold lu cG dL;rw[if_pos (ch bk)]
      rw[hn]at c2⊢;have cg:decide (IntKind.i64.wrap (r.low+if 0>m then 0 else m)≤r.low)=false:=a_ (by omega)
      try simp only[go_sem]
      repeat'(first|((first|refine ae.intro (by first|(apply kY<;>first|assumption|omega)|apply Wb) ?_|with_reducible refine b9 ?_|refine bb ?_)<;>simp only[go_sem,lM,hw.1,ag,e2,gv,ab.enc,Int.toNat_zero,aY,bk,cg])|(with_reducible refine al ?_)|fail)
      all_goals first|omega|(simp only[cf])
     |false=>
      have hn:lu r m l=(if l<r.high then l else r.high):=by unfold lu cG;rw[if_neg (cD bk)]
      rw[hn]at c2⊢
      try simp only[go_sem]
      repeat'(first|((first|refine ae.intro (by first|(apply kY<;>first|assumption|omega)|apply Wb) ?_|with_reducible refine b9 ?_|refine bb ?_)<;>simp only[go_sem,lM,hw.1,ag,e2,gv,ab.enc,Int.toNat_zero,aY,bk])|(with_reducible refine al ?_)|fail)
      all_goals first|omega|(simp only[cf])
    ·rw[Jz (by simp[nextOk,bo,hr,c2])];have bk:decide (m<IntKind.i64.wrap ((if l<r.high then l else r.high)-r.low))=true:=by
      refine bc (Classical.byContradiction fun g=>c2 ?_);unfold lu cG;rw[if_neg g];exact c1
     have hn:lu r m l=IntKind.i64.wrap (r.low+if 0>m then 0 else m):=by unfold lu cG dL;rw[if_pos (ch bk)]
     rw[hn]at c2;have cg:decide (IntKind.i64.wrap (r.low+if 0>m then 0 else m)≤r.low)=true:=bc (by omega)
     try simp only[go_sem]
     repeat'((first|refine ae.intro (by(apply kY<;>first|assumption|omega)) ?_|with_reducible refine b9 ?_)<;>simp only[go_sem,lM,hw.1,ag,e2,gv,ab.enc,Int.toNat_zero,aY,bk,cg])
     all_goals omega
   ·have aY:decide ((if l<r.high then l else r.high)≤r.low)=true:=bc (by unfold cG at c1;omega);rw[Jz (by simp[nextOk,bo,hr,c1])]
    try simp only[go_sem]
    repeat'((first|refine ae.intro (by(apply kY<;>first|assumption|omega)) ?_|with_reducible refine b9 ?_)<;>simp only[go_sem,lM,hw.1,ag,e2,gv,ab.enc,Int.toNat_zero,aY])
    all_goals omega
def eU(p:b2):ab:=⟨p.offset,IntKind.i64.wrap (p.offset+(p.data.length:Int))⟩
theorem F7(dh:Int)(cp:List UInt8)(cP:Bool):PureCall Tryz.prog 330 [.agg [.int .i64 dh,.str cp,.bool cP]] [.agg [.int .i64 (eU (⟨dh,cp,cP⟩:b2)).low,.int .i64 (eU (⟨dh,cp,cP⟩:b2)).high]]:=by
 refine aL 12 Tryz.func330 Tryz.call330 [.cell 2 144] ?_;intro _
 try simp only[go_sem]
 all_goals simp[eU]
def wW(s:az)(p:b2):Bool:=decide (0≤p.offset)&&decide (p.offset≤s.ring.b')&&decide ((p.data.length:Int)≤IntKind.i64.wrap (s.ring.b'-p.offset))&&(!p.bd||(decide (s.bj≠-1)&&decide (IntKind.i64.wrap (p.offset+(p.data.length:Int))=s.bj)))
theorem Da(aO aS aT aP:Int)(aM:List Int)(aw au ay:List ab)(aR aQ aN aU dh:Int)(cp:List UInt8)(cP:Bool):PureCall Tryz.prog 328 [.agg [.int .i64 aO,.int .i64 aS,.int .i64 aT,.int .i64 aP,.sl 1 (aM.map aW),.sl 2 (aw.map ab.enc),.sl 2 (au.map ab.enc),.sl 2 (ay.map ab.enc),.int .i64 aR,.int .i64 aQ,.int .i64 aN,.int .i64 aU],.agg [.int .i64 dh,.str cp,.bool cP]] [.one (.bool (wW (⟨aO,⟨aS,aT,aP,aM⟩,aw,au,ay,aR,aQ,aN,aU⟩:az) (⟨dh,cp,cP⟩:b2)))]:=by
 refine aL 49 Tryz.func328 Tryz.call328 [.tmp 4] ?_;intro _
 try simp only[go_sem]
 repeat'(refine bb ?_<;>simp only[go_sem])
 all_goals(refine d' ?_;simp[wW,and_assoc])
set_option maxRecDepth 100000
def Dc(s:aa):Bool:=!s.ee||decide (s.send.state=3)||decide (s.send.state=5)
theorem agR(hM hN hO hP hQ:Int)(hK:List Int)(fY fZ gU:List ab)(hR hS hT hU hX hY h3 h4 h5 h6:Int)(e4:List aB)(h7 h8 h9 h_ ia ib ic ie ig ih:Int)(ij ik im iq jD jE ki:Bool)(kj:Int)(kl:Bool):PureCall Tryz.prog 223 [.agg [.int .i64 hM,.int .i64 hN,.int .i64 hO,.int .i64 hP,.int .i64 hQ,.sl 1 (hK.map aW),.sl 2 (fY.map ab.enc),.sl 2 (fZ.map ab.enc),.sl 2 (gU.map ab.enc),.int .i64 hR,.int .i64 hS,.int .i64 hT,.int .i64 hU,.int .i64 hX,.int .i64 hY,.int .i64 h3,.int .i64 h4,.int .i64 h5,.int .i64 h6,.sl 2 (e4.map aB.enc),.int .i64 h7,.int .i64 h8,.int .i64 h9,.int .i64 h_,.int .i64 ia,.int .i64 ib,.int .i64 ic,.int .i64 ie,.int .i64 ig,.int .i64 ih,.bool ij,.bool ik,.bool im,.bool iq,.bool jD,.bool jE,.bool ki,.int .i64 kj,.bool kl]] [.one (.bool (Dc (⟨hM,⟨hN,⟨hO,hP,hQ,hK⟩,fY,fZ,gU,hR,hS,hT,hU⟩,⟨hX,hY,h3,h4⟩,⟨h5,⟨h6,e4⟩,h7,h8,h9⟩,⟨h_,ia,ib,ic,ie,ig⟩,⟨ih,ij⟩,ik,im,iq,jD,jE,ki,kj,kl⟩:aa)))]:=by
 refine aL 18 Tryz.func223 Tryz.call223 [.tmp 2] ?_;intro _
 try simp only[go_sem]
 repeat'(refine bb ?_<;>simp only[go_sem])
 all_goals(refine d' ?_;simp[Dc])
theorem agS(hM hN hO hP hQ:Int)(hK:List Int)(fY fZ gU:List ab)(hR hS hT hU hX hY h3 h4 h5 h6:Int)(e4:List aB)(h7 h8 h9 h_ ia ib ic ie ig ih:Int)(ij ik im iq jD jE ki:Bool)(kj:Int)(kl:Bool):PureCall Tryz.prog 185 [.agg [.int .i64 hM,.int .i64 hN,.int .i64 hO,.int .i64 hP,.int .i64 hQ,.sl 1 (hK.map aW),.sl 2 (fY.map ab.enc),.sl 2 (fZ.map ab.enc),.sl 2 (gU.map ab.enc),.int .i64 hR,.int .i64 hS,.int .i64 hT,.int .i64 hU,.int .i64 hX,.int .i64 hY,.int .i64 h3,.int .i64 h4,.int .i64 h5,.int .i64 h6,.sl 2 (e4.map aB.enc),.int .i64 h7,.int .i64 h8,.int .i64 h9,.int .i64 h_,.int .i64 ia,.int .i64 ib,.int .i64 ic,.int .i64 ie,.int .i64 ig,.int .i64 ih,.bool ij,.bool ik,.bool im,.bool iq,.bool jD,.bool jE,.bool ki,.int .i64 kj,.bool kl]] [.one (.bool (Dc (⟨hM,⟨hN,⟨hO,hP,hQ,hK⟩,fY,fZ,gU,hR,hS,hT,hU⟩,⟨hX,hY,h3,h4⟩,⟨h5,⟨h6,e4⟩,h7,h8,h9⟩,⟨h_,ia,ib,ic,ie,ig⟩,⟨ih,ij⟩,ik,im,iq,jD,jE,ki,kj,kl⟩:aa)))]:=by
 refine aL 18 Tryz.func185 Tryz.call185 [.tmp 2] ?_;intro _
 try simp only[go_sem]
 repeat'(refine bb ?_<;>simp only[go_sem])
 all_goals(refine d' ?_;simp[Dc])
def Dd(s:aa):Bool:=!s.eD||FE s.recv
theorem agT(hM hN hO hP hQ:Int)(hK:List Int)(fY fZ gU:List ab)(hR hS hT hU hX hY h3 h4 h5 h6:Int)(e4:List aB)(h7 h8 h9 h_ ia ib ic ie ig ih:Int)(ij ik im iq jD jE ki:Bool)(kj:Int)(kl:Bool)(hb:∀c∈e4,c.data.length≤1048576)(hx:e4.length≤1048576):PureCall Tryz.prog 224 [.agg [.int .i64 hM,.int .i64 hN,.int .i64 hO,.int .i64 hP,.int .i64 hQ,.sl 1 (hK.map aW),.sl 2 (fY.map ab.enc),.sl 2 (fZ.map ab.enc),.sl 2 (gU.map ab.enc),.int .i64 hR,.int .i64 hS,.int .i64 hT,.int .i64 hU,.int .i64 hX,.int .i64 hY,.int .i64 h3,.int .i64 h4,.int .i64 h5,.int .i64 h6,.sl 2 (e4.map aB.enc),.int .i64 h7,.int .i64 h8,.int .i64 h9,.int .i64 h_,.int .i64 ia,.int .i64 ib,.int .i64 ic,.int .i64 ie,.int .i64 ig,.int .i64 ih,.bool ij,.bool ik,.bool im,.bool iq,.bool jD,.bool jE,.bool ki,.int .i64 kj,.bool kl]] [.one (.bool (Dd (⟨hM,⟨hN,⟨hO,hP,hQ,hK⟩,fY,fZ,gU,hR,hS,hT,hU⟩,⟨hX,hY,h3,h4⟩,⟨h5,⟨h6,e4⟩,h7,h8,h9⟩,⟨h_,ia,ib,ic,ie,ig⟩,⟨ih,ij⟩,ik,im,iq,jD,jE,ki,kj,kl⟩:aa)))]:=by
 refine aL 11 Tryz.func224 Tryz.call224 [.tmp 2] ?_;intro _
 try simp only[go_sem]
 repeat'((first|refine ao.intro (by(apply afX<;>first|assumption|omega)) ?_|refine bb ?_)<;>simp only[go_sem])
 all_goals(refine d' ?_;simp[Dd])
theorem agU(hM hN hO hP hQ:Int)(hK:List Int)(fY fZ gU:List ab)(hR hS hT hU hX hY h3 h4 h5 h6:Int)(e4:List aB)(h7 h8 h9 h_ ia ib ic ie ig ih:Int)(ij ik im iq jD jE ki:Bool)(kj:Int)(kl:Bool)(hb:∀c∈e4,c.data.length≤1048576)(hx:e4.length≤1048576):PureCall Tryz.prog 186 [.agg [.int .i64 hM,.int .i64 hN,.int .i64 hO,.int .i64 hP,.int .i64 hQ,.sl 1 (hK.map aW),.sl 2 (fY.map ab.enc),.sl 2 (fZ.map ab.enc),.sl 2 (gU.map ab.enc),.int .i64 hR,.int .i64 hS,.int .i64 hT,.int .i64 hU,.int .i64 hX,.int .i64 hY,.int .i64 h3,.int .i64 h4,.int .i64 h5,.int .i64 h6,.sl 2 (e4.map aB.enc),.int .i64 h7,.int .i64 h8,.int .i64 h9,.int .i64 h_,.int .i64 ia,.int .i64 ib,.int .i64 ic,.int .i64 ie,.int .i64 ig,.int .i64 ih,.bool ij,.bool ik,.bool im,.bool iq,.bool jD,.bool jE,.bool ki,.int .i64 kj,.bool kl]] [.one (.bool (Dd (⟨hM,⟨hN,⟨hO,hP,hQ,hK⟩,fY,fZ,gU,hR,hS,hT,hU⟩,⟨hX,hY,h3,h4⟩,⟨h5,⟨h6,e4⟩,h7,h8,h9⟩,⟨h_,ia,ib,ic,ie,ig⟩,⟨ih,ij⟩,ik,im,iq,jD,jE,ki,kj,kl⟩:aa)))]:=by
 refine aL 11 Tryz.func186 Tryz.call186 [.tmp 2] ?_;intro _
 try simp only[go_sem]
 repeat'((first|refine ao.intro (by(apply af1<;>first|assumption|omega)) ?_|refine bb ?_)<;>simp only[go_sem])
 all_goals(refine d' ?_;simp[Dd])
def IN(s:aa):Bool:=bJ s.id&&mu s.cV&&jZ s.recv&&oB s.bP&&lR s.priority&&bJ s.lW&&(s.ee||s.eD)
def Pk(s:aa):Bool:=!decide (s.cV.used<s.send.sent)&&!decide (s.bP.seen<s.recv.fc)&&!(s.ix&&decide (s.send.state≠4))&&!(s.iy&&!s.jo)&&!(decide (s.lW≠0)&&!s.jo)
def Pl(s:aa):Bool:=(s.ee||decide (s.send.state=0)&&decide (s.send.ring.b'=0)&&decide (s.send.bj=-1))&&(s.eD||decide (s.recv.state=0)&&decide (s.recv.fc=0)&&!s.jo)
def Fm(b:Bool)(s:aa):Bool:=b&&IN s&&Pk s&&Pl s
def gH(s:aa):Bool:=Fm (eA s.send) s
def gI(s:aa):Bool:=Fm (uH s.send) s
theorem PZ{s:aa}(hn:jm s.send):gH s=gI s:=by unfold gH gI;rw[F6 hn]
set_option maxHeartbeats 4000000 in
theorem WY(hM hN hO hP hQ:Int)(hK:List Int)(fY fZ gU:List ab)(hR hS hT hU hX hY h3 h4 h5 h6:Int)(e4:List aB)(h7 h8 h9 h_ ia ib ic ie ig ih:Int)(ij ik im iq jD jE ki:Bool)(kj:Int)(kl:Bool)(hc:fY.length+fZ.length+gU.length≤524288)(hb:∀c∈e4,c.data.length≤1048576)(hx:e4.length≤1048576):PureCall Tryz.prog 214 [.agg [.int .i64 hM,.int .i64 hN,.int .i64 hO,.int .i64 hP,.int .i64 hQ,.sl 1 (hK.map aW),.sl 2 (fY.map ab.enc),.sl 2 (fZ.map ab.enc),.sl 2 (gU.map ab.enc),.int .i64 hR,.int .i64 hS,.int .i64 hT,.int .i64 hU,.int .i64 hX,.int .i64 hY,.int .i64 h3,.int .i64 h4,.int .i64 h5,.int .i64 h6,.sl 2 (e4.map aB.enc),.int .i64 h7,.int .i64 h8,.int .i64 h9,.int .i64 h_,.int .i64 ia,.int .i64 ib,.int .i64 ic,.int .i64 ie,.int .i64 ig,.int .i64 ih,.bool ij,.bool ik,.bool im,.bool iq,.bool jD,.bool jE,.bool ki,.int .i64 kj,.bool kl]] [.one (.bool (gH (⟨hM,⟨hN,⟨hO,hP,hQ,hK⟩,fY,fZ,gU,hR,hS,hT,hU⟩,⟨hX,hY,h3,h4⟩,⟨h5,⟨h6,e4⟩,h7,h8,h9⟩,⟨h_,ia,ib,ic,ie,ig⟩,⟨ih,ij⟩,ik,im,iq,jD,jE,ki,kj,kl⟩:aa)))]:=by
 refine aL 140 Tryz.func214 Tryz.call214 [.tmp 2] ?_;intro _
 try simp only[go_sem]
 repeat'((first|refine ae.intro (by apply hJ) ?_|refine ao.intro (by first|apply hJ|(apply kY<;>first|assumption|omega)|apply yJ|(apply w5<;>first|assumption|omega)|apply DI|apply Ft) ?_|refine bb ?_|refine bp (fun h=>?_) (fun h=>?_))<;>simp only[go_sem])
 all_goals(refine d' ?_;simp only[gH,Fm,IN,Pk,Pl,cf,c3]at *;grind)
set_option maxHeartbeats 4000000 in
theorem WZ(hM hN hO hP hQ:Int)(hK:List Int)(fY fZ gU:List ab)(hR hS hT hU hX hY h3 h4 h5 h6:Int)(e4:List aB)(h7 h8 h9 h_ ia ib ic ie ig ih:Int)(ij ik im iq jD jE ki:Bool)(kj:Int)(kl:Bool)(hc:fY.length+fZ.length+gU.length≤524288)(hb:∀c∈e4,c.data.length≤1048576)(hx:e4.length≤1048576):PureCall Tryz.prog 184 [.agg [.int .i64 hM,.int .i64 hN,.int .i64 hO,.int .i64 hP,.int .i64 hQ,.sl 1 (hK.map aW),.sl 2 (fY.map ab.enc),.sl 2 (fZ.map ab.enc),.sl 2 (gU.map ab.enc),.int .i64 hR,.int .i64 hS,.int .i64 hT,.int .i64 hU,.int .i64 hX,.int .i64 hY,.int .i64 h3,.int .i64 h4,.int .i64 h5,.int .i64 h6,.sl 2 (e4.map aB.enc),.int .i64 h7,.int .i64 h8,.int .i64 h9,.int .i64 h_,.int .i64 ia,.int .i64 ib,.int .i64 ic,.int .i64 ie,.int .i64 ig,.int .i64 ih,.bool ij,.bool ik,.bool im,.bool iq,.bool jD,.bool jE,.bool ki,.int .i64 kj,.bool kl]] [.one (.bool (gI (⟨hM,⟨hN,⟨hO,hP,hQ,hK⟩,fY,fZ,gU,hR,hS,hT,hU⟩,⟨hX,hY,h3,h4⟩,⟨h5,⟨h6,e4⟩,h7,h8,h9⟩,⟨h_,ia,ib,ic,ie,ig⟩,⟨ih,ij⟩,ik,im,iq,jD,jE,ki,kj,kl⟩:aa)))]:=by
 refine aL 141 Tryz.func184 Tryz.call184 [.tmp 2] ?_;intro _
 try simp only[go_sem]
 repeat'((first|refine ae.intro (by apply ng) ?_|refine ao.intro (by first|apply ng|(apply O0<;>first|assumption|omega)|apply US|(apply VY<;>first|assumption|omega)|apply UT|apply Ob) ?_|refine bb ?_|refine bp (fun h=>?_) (fun h=>?_))<;>simp only[go_sem])
 all_goals(refine d' ?_;simp only[gI,Fm,IN,Pk,Pl,cf,c3]at *;grind)
def xn(s:aa):Bool:=gH s&&Dc s&&Dd s
def Gx(s:aa):Bool:=gI s&&Dc s&&Dd s
theorem P7(hM hN hO hP hQ:Int)(hK:List Int)(fY fZ gU:List ab)(hR hS hT hU hX hY h3 h4 h5 h6:Int)(e4:List aB)(h7 h8 h9 h_ ia ib ic ie ig ih:Int)(ij ik im iq jD jE ki:Bool)(kj:Int)(kl:Bool)(hc:fY.length+fZ.length+gU.length≤524288)(hb:∀c∈e4,c.data.length≤1048576)(hx:e4.length≤1048576):PureCall Tryz.prog 187 [.agg [.int .i64 hM,.int .i64 hN,.int .i64 hO,.int .i64 hP,.int .i64 hQ,.sl 1 (hK.map aW),.sl 2 (fY.map ab.enc),.sl 2 (fZ.map ab.enc),.sl 2 (gU.map ab.enc),.int .i64 hR,.int .i64 hS,.int .i64 hT,.int .i64 hU,.int .i64 hX,.int .i64 hY,.int .i64 h3,.int .i64 h4,.int .i64 h5,.int .i64 h6,.sl 2 (e4.map aB.enc),.int .i64 h7,.int .i64 h8,.int .i64 h9,.int .i64 h_,.int .i64 ia,.int .i64 ib,.int .i64 ic,.int .i64 ie,.int .i64 ig,.int .i64 ih,.bool ij,.bool ik,.bool im,.bool iq,.bool jD,.bool jE,.bool ki,.int .i64 kj,.bool kl]] [.one (.bool (xn (⟨hM,⟨hN,⟨hO,hP,hQ,hK⟩,fY,fZ,gU,hR,hS,hT,hU⟩,⟨hX,hY,h3,h4⟩,⟨h5,⟨h6,e4⟩,h7,h8,h9⟩,⟨h_,ia,ib,ic,ie,ig⟩,⟨ih,ij⟩,ik,im,iq,jD,jE,ki,kj,kl⟩:aa)))]:=by
 refine aL 13 Tryz.func187 Tryz.call187 [.tmp 2] ?_;intro _
 try simp only[go_sem]
 repeat'((first|refine ae.intro (by(apply WY<;>first|assumption|omega)) ?_|refine ao.intro (by first|apply agR|(apply agT<;>first|assumption|omega)) ?_|refine bb ?_)<;>simp only[go_sem])
 all_goals(refine d' ?_;simp[xn])
theorem X7(hM hN hO hP hQ:Int)(hK:List Int)(fY fZ gU:List ab)(hR hS hT hU hX hY h3 h4 h5 h6:Int)(e4:List aB)(h7 h8 h9 h_ ia ib ic ie ig ih:Int)(ij ik im iq jD jE ki:Bool)(kj:Int)(kl:Bool)(hc:fY.length+fZ.length+gU.length≤524288)(hb:∀c∈e4,c.data.length≤1048576)(hx:e4.length≤1048576):PureCall Tryz.prog 132 [.agg [.int .i64 hM,.int .i64 hN,.int .i64 hO,.int .i64 hP,.int .i64 hQ,.sl 1 (hK.map aW),.sl 2 (fY.map ab.enc),.sl 2 (fZ.map ab.enc),.sl 2 (gU.map ab.enc),.int .i64 hR,.int .i64 hS,.int .i64 hT,.int .i64 hU,.int .i64 hX,.int .i64 hY,.int .i64 h3,.int .i64 h4,.int .i64 h5,.int .i64 h6,.sl 2 (e4.map aB.enc),.int .i64 h7,.int .i64 h8,.int .i64 h9,.int .i64 h_,.int .i64 ia,.int .i64 ib,.int .i64 ic,.int .i64 ie,.int .i64 ig,.int .i64 ih,.bool ij,.bool ik,.bool im,.bool iq,.bool jD,.bool jE,.bool ki,.int .i64 kj,.bool kl]] [.one (.bool (Gx (⟨hM,⟨hN,⟨hO,hP,hQ,hK⟩,fY,fZ,gU,hR,hS,hT,hU⟩,⟨hX,hY,h3,h4⟩,⟨h5,⟨h6,e4⟩,h7,h8,h9⟩,⟨h_,ia,ib,ic,ie,ig⟩,⟨ih,ij⟩,ik,im,iq,jD,jE,ki,kj,kl⟩:aa)))]:=by
 refine aL 13 Tryz.func132 Tryz.call132 [.tmp 2] ?_;intro _
 try simp only[go_sem]
 repeat'((first|refine ae.intro (by(apply WZ<;>first|assumption|omega)) ?_|refine ao.intro (by first|apply agS|(apply agU<;>first|assumption|omega)) ?_|refine bb ?_)<;>simp only[go_sem])
 all_goals(refine d' ?_;simp[Gx])
def iG:aa:=⟨0,⟨0,⟨0,0,0,[]⟩,[],[],[],0,0,0,0⟩,⟨0,0,0,0⟩,⟨0,⟨0,[]⟩,0,0,0⟩,⟨0,0,0,0,0,0⟩,⟨0,false⟩,false,false,false,false,false,false,0,false⟩
def mf(i:Int)(o p:da):Bool:=bJ i&&gG o&&gG p
def ft(v:Bool)(i:Int)(o p:da):aa:=
 if mf i o p then⟨i,mV o.ring,oX p.bP,uS,zz o.bP o.mT,mg,ee v i,eD v i,false,false,false,false,0,false⟩else iG
theorem Vi(i:Int)(o p:da):(bif bif !bJ i then true else !gG o then true else !gG p)=!mf i o p:=by
 unfold mf
 cases bJ i<;>cases gG o<;>cases gG p<;>rfl
set_option maxHeartbeats 4000000 in
theorem Gt(v:Bool)(i n4 n5 n6 n8 n9 n_ n' oa xt n7 Aa FP FQ FR FT FU:Int):PureCall Tryz.prog 45 [.one (.bool v),.one (.int .i64 i),.agg [.int .i64 n4,.int .i64 n5,.int .i64 n6,.int .i64 n8,.int .i64 n9,.int .i64 n_,.int .i64 n',.int .i64 oa],.agg [.int .i64 xt,.int .i64 n7,.int .i64 Aa,.int .i64 FP,.int .i64 FQ,.int .i64 FR,.int .i64 FT,.int .i64 FU]] [.agg (aa.enc (ft v i (⟨n4,n5,n6,n8,n9,n_,n',oa⟩:da) (⟨xt,n7,Aa,FP,FQ,FR,FT,FU⟩:da))),.one (.bool (mf i (⟨n4,n5,n6,n8,n9,n_,n',oa⟩:da) (⟨xt,n7,Aa,FP,FQ,FR,FT,FU⟩:da)))]:=by
 refine aL 68 Tryz.func45 Tryz.call45 [.cell 8 67,.tmp 9] ?_;intro _;have ah:=Vi i (⟨n4,n5,n6,n8,n9,n_,n',oa⟩:da) (⟨xt,n7,Aa,FP,FQ,FR,FT,FU⟩:da);have aX:ft v i (⟨n4,n5,n6,n8,n9,n_,n',oa⟩:da) (⟨xt,n7,Aa,FP,FQ,FR,FT,FU⟩:da)=if mf i (⟨n4,n5,n6,n8,n9,n_,n',oa⟩:da) (⟨xt,n7,Aa,FP,FQ,FR,FT,FU⟩:da)then⟨i,mV n4,oX n7,uS,zz n5 n6,mg,ee v i,eD v i,false,false,false,false,0,false⟩else iG:=rfl
 try simp only[go_sem]
 repeat'((first|refine ae.intro (by apply hJ) ?_|refine ao.intro (by apply DG) ?_|refine bb ?_)<;>simp only[go_sem])
 rw[ah]
 cases bo:mf i (⟨n4,n5,n6,n8,n9,n_,n',oa⟩:da) (⟨xt,n7,Aa,FP,FQ,FR,FT,FU⟩:da)with
 |false=>
  rw[bo]at aX;simp only[go_sem,Bool.not_false];rw[aX];simp[iG]
 |true=>
  rw[bo]at aX;simp only[go_sem,Bool.not_true]
  try simp only[go_sem]
  repeat'(first|(refine ae.intro (by first|apply U'|apply afW|apply Nl|apply Ik|apply agG|apply U7|apply U8) ?_<;>simp only[go_sem])|(with_reducible refine al ?_)|fail)
  all_goals(rw[aX];simp[fa])
theorem zL{α:Type}(p:α→Bool)(xs:List α)(i:Nat)(h:i<xs.length)(h1:(xs.take i).any p=false)(h2:p xs[i]=false):(xs.take (i+1)).any p=false:=by
 rw[List.take_add_one,dg h,List.any_append,h1];simp[h2]
def fIx{α:Type}(p:α→Bool)(xs:List α):Int:=match xs.findIdx? p with|some i=>(i:Int)|none=>-1
theorem Z9{α:Type}(xs:List α)(i:Nat)(h:i<xs.length):xs=xs.take i++xs[i]::xs.drop (i+1):=by rw[List.getElem_cons_drop,List.take_append_drop]
theorem Gc{α:Type}(p:α→Bool)(xs:List α)(i:Nat)(h:i<xs.length)(h1:(xs.take i).any p=false)(h2:p xs[i]=true):xs.find? p=some xs[i]:=by
 conv=>lhs;rw[Z9 xs i h]
 have:(xs.take i).find? p=none:=by rw[List.find?_eq_none];intro x hx;have:=List.any_eq_false.1 h1 x hx;simpa using this
 rw[List.find?_append,this,List.find?_cons_of_pos h2];rfl
theorem JR{α:Type}(p:α→Bool)(xs:List α)(h:xs.any p=false):xs.find? p=none:=by
 rw[List.find?_eq_none];intro x hx;have:=List.any_eq_false.1 h x hx;simpa using this
theorem LO{α:Type}(p:α→Bool)(xs:List α)(i:Nat)(h:i<xs.length)(h1:(xs.take i).any p=false)(h2:p xs[i]=true):fIx p xs=(i:Int):=by
 have:xs.findIdx? p=some i:=by
  rw[List.findIdx?_eq_some_iff_getElem];refine⟨h,h2,fun j ak kG=>?_⟩;have:=List.any_eq_false.1 h1 xs[j] (List.mem_take_iff_getElem.2 ⟨j,by omega,rfl⟩);exact this kG
 rw[fIx,this]
theorem RC{α:Type}(p:α→Bool)(xs:List α)(h:xs.any p=false):fIx p xs=-1:=by
 have:xs.findIdx? p=none:=by rw[List.findIdx?_eq_none_iff];intro x hx;have:=List.any_eq_false.1 h x hx;simpa using this
 rw[fIx,this]
theorem ox{α:Type}(p:α→Bool)(xs:List α):(fIx p xs=-1∧xs.find? p=none)∨∃(i:Nat) (h:i<xs.length),fIx p xs=(i:Int)∧xs.find? p=some xs[i]∧p xs[i]=true:=by
 unfold fIx
 cases hf:xs.findIdx? p with
 |none=>left;refine⟨rfl,?_⟩;rw[List.findIdx?_eq_none_iff]at hf;rw[List.find?_eq_none];simpa using hf
 |some i=>
  right;rw[List.findIdx?_eq_some_iff_getElem]at hf;obtain⟨h,h1,h2⟩:=hf;refine⟨i,h,rfl,Gc p xs i h ?_ h1,h1⟩;rw[List.any_eq_false];intro x hx;obtain⟨j,ak,rfl⟩:=List.mem_take_iff_getElem.1 hx;exact h2 j (by omega)
def ks(p:Nat→Bool)(n:Nat):Bool:=(List.range n).all p
theorem Dk(p:Nat→Bool)(n:Nat):ks p (n+1)=(ks p n&&p n):=by simp[ks,List.range_succ]
theorem Gg(p:Nat→Bool){i n:Nat}(h:i<n)(hb:p i=false):ks p n=false:=by
 simp only[ks,List.all_eq_false,List.mem_range];exact⟨i,h,by simp[hb]⟩
theorem Z_{p q:Nat→Bool}{n:Nat}(h:∀i,i<n→p i=q i):ks p n=ks q n:=by
 rw[Bool.eq_iff_iff];simp only[ks,List.all_eq_true,List.mem_range];exact⟨fun g i hi=>(h i hi)▸g i hi,fun g i hi=>(h i hi).symm▸g i hi⟩
def yI{α:Type}(key:α→Int)(ok:α→Bool)(l:List α)(i:Nat):Bool:=
 match l[i]? with
 |none=>false
 |some c=>ok c&&(match i with|0=>true|j+1=>(match l[j]? with|none=>false|some d=>decide (key d<key c)))
def xr{α:Type}(key:α→Int)(ok:α→Bool)(l:List α):Bool:=ks (yI key ok l) l.length
theorem yp{α:Type}(key:α→Int)(ok:α→Bool)(l:List α)(h:0<l.length):yI key ok l 0=ok l[0]:=by
 simp[yI,dg h]
theorem xi{α:Type}(key:α→Int)(ok:α→Bool)(l:List α)(j:Nat)(h:j+1<l.length):yI key ok l (j+1)=(ok l[j+1]&&decide (key l[j]<key l[j+1])):=by
 simp[yI,dg h,dg (show j<l.length by omega)]
theorem Yo{α:Type}{key:α→Int}{ok uW:α→Bool}{l:List α}(h:∀c∈l,ok c=uW c):xr key ok l=xr key uW l:=by
 refine Z_ fun i hi=>?_
 cases i with
 |zero=>rw[yp _ _ _ hi,yp _ _ _ hi,h _ (List.getElem_mem hi)]
 |succ j=>rw[xi _ _ _ _ hi,xi _ _ _ _ hi,h _ (List.getElem_mem hi)]
set_option maxRecDepth 100000
def wi(k:Int):List UInt8:=
 if k=4 then [114,101,115,101,116]
 else if k=5 then [115,116,111,112]
 else if k=8 then [115,116,114,101,97,109]
 else if k=16 then [109,97,120,100,97,116,97]
 else if k=17 then [109,97,120,115,116,114,101,97,109,100,97,116,97]
 else if k=18 then [109,97,120,115,116,114,101,97,109,115]
 else if k=20 then [100,97,116,97,98,108,111,99,107,101,100]
 else if k=21 then [115,116,114,101,97,109,100,97,116,97,98,108,111,99,107,101,100]
 else if k=22 then [115,116,114,101,97,109,115,98,108,111,99,107,101,100]
 else []
def kindOk(k:Int):Bool:=decide (k=4)||decide (k=5)||decide (k=8)||decide (k=16)||decide (k=17)||decide (k=18)||decide (k=20)||decide (k=21)||decide (k=22)
theorem RD(k:Int):(wi k == [])=!kindOk k:=by
 unfold wi kindOk
 repeat' split
 all_goals simp_all
theorem Z'(k:Int):PureCall Tryz.prog 253 [.one (.int .i64 k)] [.one (.str (wi k))]:=by
 refine aL 22 Tryz.func253 Tryz.call253 [.tmp 2] ?_;intro _
 try simp only[go_sem]
 repeat'(refine bp (fun h=>?_) (fun h=>?_)<;>simp only[go_sem])
 all_goals(simp only[il,kk]at *;first|(exfalso;omega)|simp[wi, *])
theorem aaa(k:Int):PureCall Tryz.prog 249 [.one (.int .i64 k)] [.one (.str (wi k))]:=by
 refine aL 22 Tryz.func249 Tryz.call249 [.tmp 2] ?_;intro _
 try simp only[go_sem]
 repeat'(refine bp (fun h=>?_) (fun h=>?_)<;>simp only[go_sem])
 all_goals(simp only[il,kk]at *;first|(exfalso;omega)|simp[wi, *])
def lf(k:Int):Bool:=decide (k=4)||decide (k=5)||decide (k=8)||decide (k=17)||decide (k=21)
theorem D6(dV dW eT:Int)(er:List UInt8)(e5:Bool)(ff eY fq:Int)(gf:Bool):PureCall Tryz.prog 283 [.agg [.int .i64 dV,.int .i64 dW,.int .i64 eT,.str er,.bool e5,.int .i64 ff,.int .i64 eY,.int .i64 fq,.bool gf]] [.one (.bool (lf dV))]:=by
 refine aL 11 Tryz.func283 Tryz.call283 [.tmp 2] ?_;intro _
 try simp only[go_sem]
 repeat'(refine bp (fun h=>?_) (fun h=>?_)<;>simp only[go_sem])
 all_goals(simp only[il,kk]at *;first|(exfalso;omega)|simp[lf, *])
theorem RE(dV dW eT:Int)(er:List UInt8)(e5:Bool)(ff eY fq:Int)(gf:Bool):PureCall Tryz.prog 295 [.agg [.int .i64 dV,.int .i64 dW,.int .i64 eT,.str er,.bool e5,.int .i64 ff,.int .i64 eY,.int .i64 fq,.bool gf]] [.one (.bool (lf dV))]:=by
 refine aL 11 Tryz.func295 Tryz.call295 [.tmp 2] ?_;intro _
 try simp only[go_sem]
 repeat'(refine bp (fun h=>?_) (fun h=>?_)<;>simp only[go_sem])
 all_goals(simp only[il,kk]at *;first|(exfalso;omega)|simp[lf, *])
def gV(f:aq):aq:=
 ⟨f.kind,if lf f.kind then f.stream else 0,if f.kind=8 then f.offset else 0,if f.kind=8 then f.data else [],if f.kind=8 then f.bd else false,if f.kind=4∨f.kind=5 then f.code else 0,
  if f.kind=4∨f.kind=5∨f.kind=8 then 0 else f.a8,if f.kind=4 then f.bj else 0,if f.kind=18∨f.kind=22 then f.fy else false⟩
set_option maxHeartbeats 2000000 in
theorem QI(dV dW eT:Int)(er:List UInt8)(e5:Bool)(ff eY fq:Int)(gf:Bool):PureCall Tryz.prog 239 [.agg [.int .i64 dV,.int .i64 dW,.int .i64 eT,.str er,.bool e5,.int .i64 ff,.int .i64 eY,.int .i64 fq,.bool gf]] [.agg (aq.enc (gV (⟨dV,dW,eT,er,e5,ff,eY,fq,gf⟩:aq)))]:=by
 refine aL 51 Tryz.func239 Tryz.call239 [.cell 2 134] ?_;intro _
 try simp only[go_sem]
 repeat'((first|refine ae.intro (by apply D6) ?_|refine bp (fun h=>?_) (fun h=>?_))<;>simp only[go_sem])
 all_goals(simp only[il,kk]at *;first|(exfalso;omega)|(exfalso;simp_all [lf];done)|(simp[gV, *];done)|(simp[gV,lf]at *;simp[ *];done)|(simp_all [gV,lf];done))
def Aq(f:aq):Bool:=kindOk f.kind&&decide (gV f=f)&&bJ f.stream&&bJ f.offset&&bJ f.code&&bJ f.a8&&bJ f.bj&&!decide (400<(f.data.length:Int))
def e_(f:aq):Bool:=Aq f&&(if f.kind=8 then decide (f.offset≤IntKind.i64.wrap (4611686018427387903-(f.data.length:Int)))else if f.kind=18∨f.kind=22 then decide (f.a8≤1152921504606846976)else true)
set_option maxRecDepth 100000
def RF:List (List bt):=ct 46 [8862938119652501095928,8862938119652501095926,8862938119652501095920,8862938119652501095902,8862938119652501095848,8862938119652501093499,8862938119652501093013,8862938119652501094714,8862938119652501089368,8862938119652501076246,8862938119652501036880,8862938119652500918782,8862938119652500564488,8862938119652499501606,8862938119652496312960,8862938119652486747022,8862938119652458049208,8862938119652371955766,8862938119652113675440,8862938119651338834462,8862938119649014311528,8862938119642040742726,8862938119621120036320,8862938119558357917102,8862938119370071559448,8862938118805212486486,8862938117110635267600,8862938112026903610942,8862938096775708640968,8862938051022123731046,8862937913761369001280,8862937501979104811982,8862936266632312244088,8862932560591934540406,8862921442470801429360,8862888088107402096222,8862788025017204096808,8862487835746610098566,8861587267934828103840,8858885564499482119662,8850780454193444167128,8826465123275330309526,8753519130520988736720,8534681152257964018302,7878167217468889863048,5908625413101667397286]
attribute [go_sem] RF
theorem RG(a b:aq):(decide (a.kind=b.kind)&&(decide (a.stream=b.stream)&&(decide (a.offset=b.offset)&&(decide (a.data=b.data)&&(decide (a.bd=b.bd)&&(decide (a.code=b.code)&&(decide (a.a8=b.a8)&&(decide (a.bj=b.bj)&&decide (a.fy=b.fy)))))))))=decide (a=b):=by
 cases a;cases b
 rw[Bool.eq_iff_iff];simp only[cX,il,aq.mk.injEq]
theorem aab(f:aq):(bif bif bif bif bif bif bif !kindOk f.kind then true else !decide (gV f=f)then true else !bJ f.stream then true else !bJ f.offset then true else !bJ f.code then true else !bJ f.a8 then true else !bJ f.bj then true else decide (400<(f.data.length:Int)))=!Aq f:=by
 unfold Aq
 cases kindOk f.kind<;>cases decide (gV f=f)<;>cases bJ f.stream<;>cases bJ f.offset<;>cases bJ f.code<;>cases bJ f.a8<;>cases bJ f.bj<;>cases decide (400<(f.data.length:Int))<;>rfl
set_option maxHeartbeats 4000000 in
theorem z'(dV dW eT:Int)(er:List UInt8)(e5:Bool)(ff eY fq:Int)(gf:Bool):PureCall Tryz.prog 215 [.agg [.int .i64 dV,.int .i64 dW,.int .i64 eT,.str er,.bool e5,.int .i64 ff,.int .i64 eY,.int .i64 fq,.bool gf]] [.one (.bool (e_ (⟨dV,dW,eT,er,e5,ff,eY,fq,gf⟩:aq)))]:=by
 refine aL 66 Tryz.func215 Tryz.call215 [.tmp 2] ?_;intro _;have hk:decide (wi dV=[])=!kindOk dV:=by have:=RD dV;rw[←this];cases wi dV<;>rfl
 have hf:=RG (gV (⟨dV,dW,eT,er,e5,ff,eY,fq,gf⟩:aq)) (⟨dV,dW,eT,er,e5,ff,eY,fq,gf⟩:aq);simp only at hf;have ah:=aab (⟨dV,dW,eT,er,e5,ff,eY,fq,gf⟩:aq)
 try simp only[go_sem]
 repeat'((first|refine ao.intro (by first|apply Z'|apply QI|apply hJ) ?_|refine eJ ?_|refine ba RF (by kernel_rfl) (by rfl) ?_)<;>simp only[go_sem,hk,hf])
 rw[ah]
 cases df:Aq (⟨dV,dW,eT,er,e5,ff,eY,fq,gf⟩:aq)with
 |false=>
  simp only[go_sem,Bool.not_false];simp[e_,df]
 |true=>
  simp only[go_sem,Bool.not_true]
  try simp only[go_sem]
  repeat'(refine bp (fun h=>?_) (fun h=>?_)<;>simp only[go_sem])
  all_goals(rw[show e_ (⟨dV,dW,eT,er,e5,ff,eY,fq,gf⟩:aq)=(if dV=8 then decide (eT≤IntKind.i64.wrap (4611686018427387903-(er.length:Int)))else if dV=18∨dV=22 then decide (eY≤1152921504606846976)else true)from by unfold e_;rw[df];rfl];clear df ah hf hk;simp only[il,kk]at *;first|(exfalso;omega)|simp[*])
def ed(id:Int)(s:aa):Bool:=decide (s.id=id)
def strOf(l:List aa)(id:Int):aa×Bool:=match l.find? (ed id)with|some s=>(s,true)|none=>(iG,false)
def iH(s:aa)(q:List aa×Bool)(x:aa):List aa×Bool:=
 if !q.2&&decide (s.id<x.id)then(q.1++[s,x],true)else(q.1++[x],q.2)
def lD(s:aa)(l:List aa):List aa×Bool:=l.foldl (iH s) ([],false)
def putS(l:List aa)(s:aa):List aa:=
 match l.findIdx? (ed s.id)with
 |some i=>l.set i s
 |none=>if(lD s l).2 then(lD s l).1 else(lD s l).1++[s]
def i'(ok:aa→Bool)(l:List aa):Bool:=xr (fun s=>s.id) ok l&&decide ((l.length:Int)≤24)
def pe(f:aa→Int)(n:Int)(s:aa):Int:=if 4611686018427387904<IntKind.i64.wrap (n+f s)then 4611686018427387904 else IntKind.i64.wrap (n+f s)
def mr(ok:aa→Bool)(f:aa→Int)(l:List aa):Int:=if i' ok l then l.foldl (pe f) 0 else 0
def nI(s:aa):Int:=s.send.sent
def nJ(s:aa):Int:=s.recv.fc
def vH(n:Int)(p:aC):Bool:=bN p.number 0 (IntKind.i64.wrap (n-1))&&p.frames.all e_
def yo(n:Int)(l:List aC):Bool:=xr (fun p=>p.number) (vH n) l
def uV(ok:aa→Bool)(c:I):Bool:=gG c.own&&gG c.peer&&i' ok c.streams&&mu c.c8&&oB c.dA&&j_ c.eC&&j_ c.eB&&kB c.dH&&kB c.dI
def BJ(ok:aa→Bool)(c:I):Bool:=bN c.fk (-1) 4611686018427387903&&bN c.number 0 1000000&&bN c.gh 0 1000000&&bN c.closed 0 255&&decide (mr ok nI c.streams≤c.c8.used)&&decide (mr ok nJ c.streams≤c.dA.seen)
def vW(ok:aa→Bool)(c:I):Bool:=uV ok c&&yo c.number c.packets&&BJ ok c
def eQ(c:I):Bool:=vW gH c
def o7(c:I):Bool:=vW gI c
theorem Qk{ok uW:aa→Bool}{l:List aa}(h:∀s∈l,ok s=uW s):i' ok l=i' uW l:=by unfold i';rw[Yo h]
theorem Ql{ok uW:aa→Bool}{f:aa→Int}{l:List aa}(h:∀s∈l,ok s=uW s):mr ok f l=mr uW f l:=by unfold mr;rw[Qk h]
theorem Yp{ok uW:aa→Bool}{c:I}(h:∀s∈c.streams,ok s=uW s):vW ok c=vW uW c:=by unfold vW uV BJ;rw[Qk h,Ql h,Ql h]
theorem zV{c:I}(h:∀s∈c.streams,jm s.send):eQ c=o7 c:=Yp fun s hs=>PZ (h s hs)
theorem KY(s:aa):∀(l:List aa) (q:List aa×Bool),(∀x∈(l.foldl (iH s) q).1,x∈q.1∨x∈l∨x=s)∧(l.foldl (iH s) q).1.length+q.2.toNat=q.1.length+l.length+(l.foldl (iH s) q).2.toNat
 |[],q=>⟨fun x hx=>Or.inl hx,by simp⟩
 |y::l,q=>by
  obtain⟨h1,h2⟩:=KY s l (iH s q y);rw[List.foldl_cons];refine⟨fun x hx=>?_,?_⟩
  ·rcases h1 x hx with h|h|h
   ·unfold iH at h;split at h
    ·simp only[List.mem_append,List.mem_cons,List.not_mem_nil,or_false]at h;rcases h with h|h|h
     ·exact Or.inl h
     ·exact Or.inr (Or.inr h)
     ·exact Or.inr (Or.inl (by simp[h]))
    ·simp only[List.mem_append,List.mem_cons,List.not_mem_nil,or_false]at h;rcases h with h|h
     ·exact Or.inl h
     ·exact Or.inr (Or.inl (by simp[h]))
   ·exact Or.inr (Or.inl (List.mem_cons_of_mem _ h))
   ·exact Or.inr (Or.inr h)
  ·have e:(iH s q y).1.length+q.2.toNat=q.1.length+1+(iH s q y).2.toNat:=by
    unfold iH
    cases hq:q.2<;>by_cases hlt:s.id<y.id<;>simp[hlt]
   rw[oW];omega
theorem Qm(s:aa)(l:List aa):(lD s l).1.length=l.length+(lD s l).2.toNat:=by
 have:=(KY s l ([],false)).2;simpa [lD]using this
theorem GI{l:List aa}{s x:aa}(h:x∈putS l s):x∈l∨x=s:=by
 unfold putS at h;split at h
 ·rcases List.mem_or_eq_of_mem_set h with h|h
  ·exact Or.inl h
  ·exact Or.inr h
 ·have:=(KY s l ([],false)).1 x;simp only[List.not_mem_nil,false_or]at this;split at h
  ·exact this h
  ·rcases List.mem_append.1 h with h|h
   ·exact this h
   ·exact Or.inr (by simpa using h)
theorem GK(l:List aa)(s:aa):(putS l s).length≤l.length+1:=by
 unfold putS;split
 ·rw[List.length_set];omega
 ·have:=Qm s l;split
  ·rename_i h;rw[this,h];simp
  ·rename_i h;rw[List.length_append,this];simp only[Bool.not_eq_true]at h;rw[h];simp
set_option maxRecDepth 100000
def Pm:List (List bt):=ct 24 [282429536477,282429536479,282429536472,282429536454,282429536400,282429536238,282429535752,282429534294,282429529920,282429516798,277206298137,277206416235,277206002892,277204940010,277201751364,282250145619,282407983596,282321890154,282049260921,281274419943,278949897009,271969183278,251048476872,188286357654]
def JL:List (List bt):=ct 22 [31381059608,31381059606,31381059600,31381059582,31381059528,31381059366,31381058880,31381057422,31381053048,31381039926,31381000560,30862196046,30864144663,30863081781,30859715988,30850150050,30821452236,31316400954,31058120628,30218798142,27894275208,20920706406]
attribute [go_sem] Pm JL
def dT(s:aa):Prop:=s.send.pending.length+s.send.flight.length+s.send.bK.length≤1000∧s.send.ring.cells.length≤100∧(∀c∈s.recv.buffer.bu,c.data.length≤1000)∧s.recv.buffer.bu.length≤100
set_option maxHeartbeats 1000000 in
theorem KV(l:List aa)(id:Int):PureCall Tryz.prog 113 [.one (.sl 39 (l.map aa.enc)),.one (.int .i64 id)] [.one (.int .i64 (fIx (ed id) l))]:=by
 refine aL 20 Tryz.func113 Tryz.call113 [.tmp 4] ?_;intro ok;have hm:=fj ok;clear ok;simp only[go_sem];refine b5.intro (fun i:Nat=>⟨(.d (.sl 39 (l.map aa.enc))::.d (.int .i64 id)::jn 3 (.d (.int .i64 i)::jn 14 [])),[]⟩)
  (fun i=>l.length-i) (fun i=>i≤l.length∧(l.take i).any (ed id)=false) 0 [] ⟨by omega,by simp⟩ ?_ ?_
 ·simp only[go_sem];simp
 ·rintro i ⟨hi,he⟩;by_cases h1:i<l.length
  ·have ar:decide ((i:Int)<(l.length:Int))=true:=bc (by omega);have av:=bZ aa.enc l i h1;have hw:=dv h1 hm
   try simp only[go_sem,lM,aF,av,aa.enc,ar]
   repeat'(first|(refine bp (fun h=>?_) (fun h=>?_)<;>simp only[go_sem])|(with_reducible refine al ?_)|fail)
   ·have:=LO (ed id) l i h1 he h;simp[this]
   ·refine bm.intro (i+1) [] ⟨by omega,zL _ l i h1 he h⟩ (by omega) ?_;simp only[go_sem,hw];try simp
  ·have ar:decide ((i:Int)<(l.length:Int))=false:=a_ (by omega);obtain rfl:i=l.length:=by omega
   rw[dB]at he;simp only[go_sem,lM,ar];simp[RC _ _ he]
def mM(ok:aa→Bool)(l:List aa)(i:Nat):Bool:=yI (fun s=>s.id) ok l i
theorem W5(ok:aa→Bool)(l:List aa)(h:0<l.length):mM ok l 0=ok l[0]:=yp _ _ _ h
theorem W6(ok:aa→Bool)(l:List aa)(j:Nat)(h:j+1<l.length):mM ok l (j+1)=(ok l[j+1]&&decide (l[j].id<l[j+1].id)):=xi _ _ _ _ h
theorem W7{ok:aa→Bool}{l:List aa}(h:ks (mM ok l) l.length=true):i' ok l=decide ((l.length:Int)≤24):=by
 have:xr (fun s:aa=>s.id) ok l=true:=h;unfold i';rw[this];rfl
theorem W8{ok:aa→Bool}{l:List aa}{i:Nat}(hi:i<l.length)(h:mM ok l i=false):i' ok l=false:=by
 have:xr (fun s:aa=>s.id) ok l=false:=Gg (mM ok l) hi h;unfold i';rw[this];rfl
set_option maxHeartbeats 2000000 in
theorem DH(l:List aa)(hz:∀s∈l,dT s):PureCall Tryz.prog 158 [.one (.sl 39 (l.map aa.enc))] [.one (.bool (i' gH l))]:=by
 refine aL 37 Tryz.func158 Tryz.call158 [.tmp 2] ?_;intro ok;have hm:=fj ok;clear ok;simp only[go_sem];refine b5.intro (fun i:Nat=>⟨(.d (.sl 39 (l.map aa.enc))::.J::.J::.d (.int .i64 i)::jn 33 []),[]⟩)
  (fun i=>l.length-i) (fun i=>i≤l.length∧ks (mM gH l) i=true) 0 [] ⟨by omega,by simp[ks]⟩ ?_ ?_
 ·simp only[go_sem];simp
 ·rintro i ⟨hi,he⟩;by_cases h1:i<l.length
  ·have ar:decide ((i:Int)<(l.length:Int))=true:=bc (by omega);have av:=bZ aa.enc l i h1;have hw:=dv h1 hm;have hs:=Dk (mM gH l) i;have hf:=fun h=>W8 (ok:=gH) (l:=l) h1 h;obtain⟨hc,_,hb,hx⟩:=hz _ (List.getElem_mem h1)
   replace hb:∀c∈l[i].recv.buffer.bu,c.data.length≤1048576:=fun c h=>by have:=hb c h;omega
   have aZ:=WY l[i].id l[i].send.state l[i].send.ring.size l[i].send.ring.base l[i].send.ring.b' l[i].send.ring.cells l[i].send.pending l[i].send.flight l[i].send.bK l[i].send.bj l[i].send.bd l[i].send.sent l[i].send.code l[i].cV.a8 l[i].cV.used l[i].cV.blocked l[i].cV.told l[i].recv.state l[i].recv.buffer.next l[i].recv.buffer.bu l[i].recv.bj l[i].recv.fc l[i].recv.code l[i].bP.size l[i].bP.most l[i].bP.a8 l[i].bP.seen l[i].bP.read l[i].bP.j6 l[i].priority.fB l[i].priority.eW l[i].ee l[i].eD l[i].ix l[i].iy l[i].k6 l[i].jo l[i].lW l[i].counted (by omega) hb (by omega);change PureCall _ _ _ [.one (.bool (gH l[i]))]at aZ
   cases i with
   |zero=>
    have hb:=W5 gH l h1;have h2:decide ((0:Int)<((0:Nat):Int))=false:=by decide
    try simp only[go_sem,lM,ar]
    repeat'(first|((first|refine ae.intro (by assumption) ?_|refine ao.intro (by assumption) ?_|with_reducible refine kt ?_|refine eJ ?_|refine ba Pm (by kernel_rfl) (by rfl) ?_|refine bp (fun h=>?_) (fun h=>?_))<;>simp only[go_sem,lM,aF,av,aa.enc,h2])|(with_reducible refine al ?_)|fail)
    ·have e:mM gH l 0=false:=by rw[hb];revert h;cases gH l[0]<;>simp
     simp[hf e]
    ·have e:mM gH l 0=true:=by rw[hb];revert h;cases gH l[0]<;>simp
     refine bm.intro 1 [] ⟨by omega,by rw[hs,he,e];rfl⟩ (by omega) ?_;simp only[go_sem,hw];try simp
   |succ j=>
    have hb:=W6 gH l j h1;have gi:=bZ aa.enc l j (by omega);have h2:decide ((0:Int)<((j+1:Nat):Int))=true:=bc (by omega);have hp:IntKind.i64.wrap (((j+1:Nat):Int)-1)=(j:Int):=by simp only[maxLen]at hm;rw[bC]<;>omega
    try simp only[go_sem,lM,ar]
    repeat'(first|((first|refine ae.intro (by assumption) ?_|refine ao.intro (by assumption) ?_|refine eJ ?_|refine ba Pm (by kernel_rfl) (by rfl) ?_|refine bp (fun h=>?_) (fun h=>?_))<;>simp only[go_sem,lM,aF,av,gi,aa.enc,h2,hp])|(with_reducible refine al ?_)|fail)
    ·have e:mM gH l (j+1)=false:=by rw[hb];revert h;cases gH l[j+1]<;>simp
     simp[hf e]
    ·have e:mM gH l (j+1)=true:=by rw[hb];revert h;cases gH l[j+1]<;>simp
     refine bm.intro (j+1+1) [] ⟨by omega,by rw[hs,he,e];rfl⟩ (by omega) ?_;simp only[go_sem,hw];try simp
  ·have ar:decide ((i:Int)<(l.length:Int))=false:=a_ (by omega);obtain rfl:i=l.length:=by omega
   simp only[go_sem,lM,ar];simp[W7 he]
set_option maxHeartbeats 2000000 in
theorem Fj(l:List aa)(hz:∀s∈l,dT s):PureCall Tryz.prog 145 [.one (.sl 39 (l.map aa.enc))] [.one (.bool (i' gI l))]:=by
 refine aL 35 Tryz.func145 Tryz.call145 [.tmp 2] ?_;intro ok;have hm:=fj ok;clear ok;simp only[go_sem,lM];refine b5.intro (fun i:Nat=>⟨(.d (.sl 39 (l.map aa.enc))::jn 4 (.d (.sl 39 (l.map aa.enc))::.d (.int .i64 l.length)::.d (.int .i64 i)::jn 27 [])),[]⟩)
  (fun i=>l.length-i) (fun i=>i≤l.length∧i≤24∧ks (mM gI l) i=true) 0 [] ⟨by omega,by omega,by simp[ks]⟩ ?_ ?_
 ·simp only[go_sem];simp
 ·rintro i ⟨hi,aoD,he⟩;by_cases h1:i<l.length
  ·have ar:decide ((i:Int)<(l.length:Int))=true:=bc (by omega);have av:=bZ aa.enc l i h1;have hw:=dv h1 hm;by_cases aoE:i=24
   ·have aj:decide ((24:Int)≤(i:Int))=true:=bc (by omega);have hr:i' gI l=false:=by unfold i';rw[show decide ((l.length:Int)≤24)=false from a_ (by omega)];simp
    cases i with
    |zero=>omega
    |succ j=>
     have h2:decide ((0:Int)<((j+1:Nat):Int))=true:=bc (by omega)
     try simp only[go_sem,lM,aF,av,aa.enc,ar]
     repeat'(first|((first|with_reducible refine kt ?_|refine ba JL (by kernel_rfl) (by rfl) ?_)<;>simp only[go_sem,aj])|(with_reducible refine al ?_)|fail)
     all_goals simp[hr]
   ·have aj:decide ((24:Int)≤(i:Int))=false:=a_ (by omega);have hs:=Dk (mM gI l) i;have hf:=fun h=>W8 (ok:=gI) (l:=l) h1 h;obtain⟨hc,_,hb,hx⟩:=hz _ (List.getElem_mem h1)
    replace hb:∀c∈l[i].recv.buffer.bu,c.data.length≤1048576:=fun c h=>by have:=hb c h;omega
    have aZ:=WZ l[i].id l[i].send.state l[i].send.ring.size l[i].send.ring.base l[i].send.ring.b' l[i].send.ring.cells l[i].send.pending l[i].send.flight l[i].send.bK l[i].send.bj l[i].send.bd l[i].send.sent l[i].send.code l[i].cV.a8 l[i].cV.used l[i].cV.blocked l[i].cV.told l[i].recv.state l[i].recv.buffer.next l[i].recv.buffer.bu l[i].recv.bj l[i].recv.fc l[i].recv.code l[i].bP.size l[i].bP.most l[i].bP.a8 l[i].bP.seen l[i].bP.read l[i].bP.j6 l[i].priority.fB l[i].priority.eW l[i].ee l[i].eD l[i].ix l[i].iy l[i].k6 l[i].jo l[i].lW l[i].counted (by omega) hb (by omega);change PureCall _ _ _ [.one (.bool (gI l[i]))]at aZ
    cases i with
    |zero=>
     have hb:=W5 gI l h1;have h2:decide ((0:Int)<((0:Nat):Int))=false:=by decide
     try simp only[go_sem,lM,aF,av,aa.enc,ar]
     repeat'(first|((first|refine ae.intro (by assumption) ?_|refine ao.intro (by assumption) ?_|with_reducible refine kN ?_|with_reducible refine kt ?_|refine eJ ?_|refine ba JL (by kernel_rfl) (by rfl) ?_|refine bp (fun h=>?_) (fun h=>?_))<;>simp only[go_sem,h2,aj])|(with_reducible refine al ?_)|fail)
     ·have e:mM gI l 0=false:=by rw[hb];revert h;cases gI l[0]<;>simp
      simp[hf e]
     ·have e:mM gI l 0=true:=by rw[hb];revert h;cases gI l[0]<;>simp
      refine bm.intro 1 [] ⟨by omega,by omega,by rw[hs,he,e];rfl⟩ (by omega) ?_;simp only[go_sem,hw];try simp
    |succ j=>
     have hb:=W6 gI l j h1;have gi:=bZ aa.enc l j (by omega);have h2:decide ((0:Int)<((j+1:Nat):Int))=true:=bc (by omega);have hp:IntKind.i64.wrap (((j+1:Nat):Int)-1)=(j:Int):=by simp only[maxLen]at hm;rw[bC]<;>omega
     try simp only[go_sem,lM,aF,av,aa.enc,ar]
     repeat'(first|((first|refine ae.intro (by assumption) ?_|refine ao.intro (by assumption) ?_|with_reducible refine kN ?_|refine eJ ?_|refine ba JL (by kernel_rfl) (by rfl) ?_|refine bp (fun h=>?_) (fun h=>?_))<;>simp only[go_sem,lM,aF,gi,aa.enc,h2,hp,aj])|(with_reducible refine al ?_)|fail)
     ·have e:mM gI l (j+1)=false:=by rw[hb];revert h;cases gI l[j+1]<;>simp
      simp[hf e]
     ·have e:mM gI l (j+1)=true:=by rw[hb];revert h;cases gI l[j+1]<;>simp
      refine bm.intro (j+1+1) [] ⟨by omega,by omega,by rw[hs,he,e];rfl⟩ (by omega) ?_;simp only[go_sem,hw];try simp
  ·have ar:decide ((i:Int)<(l.length:Int))=false:=a_ (by omega);obtain rfl:i=l.length:=by omega
   have hr:i' gI l=true:=by rw[W7 he];exact bc (by omega)
   simp only[go_sem,ar];simp[hr]
set_option maxRecDepth 100000
def Ga:List (List bt):=ct 12 [531440,531438,531432,505089,505143,504954,504468,503010,528147,515025,472392,354294]
attribute [go_sem] Ga
theorem JM{p:Prop}{e1 gC:Decidable p}{α:Type}(a b:α):@ite α p e1 a b=@ite α p gC a b:=by rw[Subsingleton.elim e1 gC]
theorem Dx{l:List aa}{s:aa}{i:Nat}(h:fIx (ed s.id) l=(i:Int)):putS l s=l.set i s:=by
 unfold putS;unfold fIx at h;split at h
 ·rename_i j ak;first|(rw[ak];simp only;congr 1;omega)|(congr 1;omega)
 ·omega
theorem Vr{l:List aa}{s:aa}(h:fIx (ed s.id) l=-1):putS l s=if(lD s l).2 then(lD s l).1 else(lD s l).1++[s]:=by
 unfold putS;unfold fIx at h;split at h
 ·omega
 ·rename_i ak;first|rw[ak]|rfl
theorem ag0(s:aa)(l:List aa)(i:Nat)(h:i<l.length):lD s (l.take (i+1))=iH s (lD s (l.take i)) l[i]:=by
 unfold lD;rw[List.take_add_one,dg h,List.foldl_append];rfl
set_option maxHeartbeats 4000000 in
theorem k4(l:List aa)(s:aa)(hl:l.length≤1000)(hz:∀x∈l,dT x)(hs:dT s):PureCall Tryz.prog 46 [.one (.sl 39 (l.map aa.enc)),.agg (aa.enc s)] [.one (.sl 39 (((putS l s)).map aa.enc))]:=by
 refine aL 66 Tryz.func46 Tryz.call46 [.tmp 4] ?_;intro ok;have hm:=fj ok;clear ok;obtain⟨cU,c9,cq,dd⟩:=hs;simp only[go_sem];refine ae.intro (KV l s.id) ?_;simp only[go_sem];rcases ox (ed s.id) l with ⟨h1,h2⟩|⟨j,ak,h1,h2,aj⟩
 ·have ah:=Vr h1;rw[h1];refine b5.intro (fun i:Nat=>⟨(.d (.sl 39 (l.map aa.enc))::.J::.J::.ptr 0 0 0::.J::.sl 1 0 (lD s (l.take i)).1.length::.d (.int .i64 (-1))::.d (.bool (lD s (l.take i)).2)::.d (.int .i64 i)::jn 57 []),[.box (aa.bM s),.ai 39 ((lD s (l.take i)).1.map aa.enc) true]⟩)
   (fun i=>l.length-i) (fun i=>i≤l.length) 0 [0,1] (by omega) ?_ ?_
  ·simp only[go_sem];simp[lD]
  ·intro i hi;have lU:=Qm s (l.take i);have cn:(l.take i).length=i:=by simp;omega
   rw[cn]at lU;have hb:(lD s (l.take i)).2.toNat≤1:=Bool.toNat_le _;by_cases aD:i<l.length
   ·have jA:decide ((i:Int)<(l.length:Int))=true:=bc (by omega);have av:=bZ aa.enc l i aD;have hw:=dv aD hm;obtain⟨nH,kC,z3,z4⟩:=hz _ (List.getElem_mem aD);have cw:=ag0 s l i aD;have bX:decide ((i:Int)=-1)=false:=a_ (by omega);generalize lD s (l.take i)=q at *;obtain⟨out,Pn⟩:=q;simp only at lU hb;simp only[aa.enc]at av
    cases Pn with
    |true=>
     have Gb:iH s (out,true) l[i]=(out++[l[i]],true):=rfl
     try simp only[go_sem,lM,aF,av,jA]
     repeat'(first|((first|refine ae.intro (by(apply yz<;>first|assumption|omega)) ?_|with_reducible refine kt ?_|refine ba Ga (by kernel_rfl) (by rfl) ?_)<;>simp only[go_sem,lM,Bool.cond_self])|(with_reducible refine al ?_)|fail)
     all_goals(refine bm.intro (i+1) [0,9] (by omega) (by omega) ?_;simp only[go_sem,hw,cw,Gb];simp[aa.enc])
    |false=>
     cases hd:decide (s.id<l[i].id)with
     |true=>
      have Gb:iH s (out,false) l[i]=(out++[s,l[i]],true):=by unfold iH;rw[hd];rfl
      try simp only[go_sem,lM,aF,av,jA]
      repeat'(first|((first|refine ae.intro (by(apply yz<;>first|assumption|omega)) ?_|with_reducible refine kN ?_|refine ba Ga (by kernel_rfl) (by rfl) ?_)<;>simp only[go_sem,lM,aF,av,hd])|(with_reducible refine al ?_)|fail)
      all_goals(refine bm.intro (i+1) [0,17] (by omega) (by omega) ?_;simp only[go_sem,hw,cw,Gb];simp[aa.enc])
     |false=>
      have Gb:iH s (out,false) l[i]=(out++[l[i]],false):=by unfold iH;rw[hd];rfl
      try simp only[go_sem,lM,aF,av,jA]
      repeat'(first|((first|refine ae.intro (by(apply yz<;>first|assumption|omega)) ?_|with_reducible refine kN ?_|refine ba Ga (by kernel_rfl) (by rfl) ?_)<;>simp only[go_sem,lM,aF,av,hd])|(with_reducible refine al ?_)|fail)
      all_goals(refine bm.intro (i+1) [0,9] (by omega) (by omega) ?_;simp only[go_sem,hw,cw,Gb];simp[aa.enc])
   ·have jA:decide ((i:Int)<(l.length:Int))=false:=a_ (by omega);obtain rfl:i=l.length:=by omega
    rw[dB]at *;generalize lD s l=q at *;obtain⟨out,Pn⟩:=q
    cases Pn with
    |true=>
     try simp only[go_sem,lM,jA]
     repeat'(first|(with_reducible refine al ?_)|fail)
     all_goals simp[ah]
    |false=>
     try simp only[go_sem,lM,jA]
     repeat'(first|(refine ae.intro (by(apply yz<;>first|assumption|omega)) ?_<;>simp only[go_sem,lM])|(with_reducible refine al ?_)|fail)
     all_goals(simp only[Bool.toNat_false]at lU;refine⟨⟨by omega,rfl⟩,by simp,?_⟩;simp[ah,aa.enc,List.take_of_length_le])
 ·have ah:=Dx h1;rw[h1];have eR:decide ((0:Int)≤(j:Int))=true:=bc (by omega);simp only[go_sem,eR];refine b5.intro (fun i:Nat=>⟨(.d (.sl 39 (l.map aa.enc))::.J::.J::.ptr 0 0 0::.J::.sl 1 0 i::.d (.int .i64 (j:Int))::.d (.bool true)::.d (.int .i64 i)::jn 57 []),[.box (aa.bM s),.ai 39 (((l.set j s).take i).map aa.enc) true]⟩)
   (fun i=>l.length-i) (fun i=>i≤l.length) 0 [0,1] (by omega) ?_ ?_
  ·simp only[go_sem];simp
  ·intro i hi;have cn:((l.set j s).take i).length=i:=by simp;omega
   by_cases aD:i<l.length
   ·have jA:decide ((i:Int)<(l.length:Int))=true:=bc (by omega);have av:=bZ aa.enc l i aD;have hw:=dv aD hm;obtain⟨nH,kC,z3,z4⟩:=hz _ (List.getElem_mem aD);have cw:(l.set j s).take (i+1)=(l.set j s).take i++[(l.set j s)[i]'(by simpa using aD)]:=by
     rw[List.take_add_one,dg (by simpa using aD)];rfl
    simp only[aa.enc]at av;by_cases lg:i=j
    ·subst lg;have hq:(l.set i s)[i]'(by simpa using aD)=s:=by simp
     rw[hq]at cw;have bX:decide ((i:Int)=(i:Int))=true:=by simp
     try simp only[go_sem,lM,aF,av,jA]
     repeat'(first|(refine ae.intro (by(apply yz<;>first|assumption|omega)) ?_<;>simp only[go_sem,lM])|(with_reducible refine al ?_)|fail)
     all_goals(refine bm.intro (i+1) [0,14] (by omega) (by omega) ?_;simp only[go_sem,hw,cw];simp[aa.enc];omega)
    ·have hq:(l.set j s)[i]'(by simpa using aD)=l[i]:=by rw[List.getElem_set_ne (by omega)]
     rw[hq]at cw;have bX:decide ((i:Int)=(j:Int))=false:=a_ (by omega)
     try simp only[go_sem,lM,aF,av,jA]
     repeat'(first|((first|refine ae.intro (by(apply yz<;>first|assumption|omega)) ?_|with_reducible refine kt ?_|refine ba Ga (by kernel_rfl) (by rfl) ?_)<;>simp only[go_sem,lM,bX,Bool.cond_self])|(with_reducible refine al ?_)|fail)
     all_goals(refine bm.intro (i+1) [0,9] (by omega) (by omega) ?_;simp only[go_sem,hw,cw];simp[aa.enc];omega)
   ·have jA:decide ((i:Int)<(l.length:Int))=false:=a_ (by omega);obtain rfl:i=l.length:=by omega
    have Wk:(l.set j s).take l.length=l.set j s:=List.take_of_length_le (by simp)
    try simp only[go_sem,lM,jA,Wk]
    have Lv:∀v,List.take l.length ((l.map aa.enc).set j v)=(l.map aa.enc).set j v:=fun v=>List.take_of_length_le (by simp)
    all_goals simp[ah,outOA,Lv]
theorem JN(f:aa→Int)(l:List aa)(i:Nat)(h:i<l.length):(l.take (i+1)).foldl (pe f) 0=pe f ((l.take i).foldl (pe f) 0) l[i]:=by
 rw[List.take_add_one,dg h,List.foldl_append];rfl
theorem JO{ok:aa→Bool}{f:aa→Int}{l:List aa}(h:i' ok l=true):mr ok f l=l.foldl (pe f) 0:=by unfold mr;rw[h];rfl
theorem JP{ok:aa→Bool}{f:aa→Int}{l:List aa}(h:i' ok l=false):mr ok f l=0:=by unfold mr;rw[h];rfl
set_option maxHeartbeats 2000000 in
theorem Yv(l:List aa)(hz:∀x∈l,dT x):PureCall Tryz.prog 163 [.one (.sl 39 (l.map aa.enc))] [.one (.int .i64 (mr gH nI l))]:=by
 refine aL 25 Tryz.func163 Tryz.call163 [.tmp 2] ?_;intro ok;have hm:=fj ok;clear ok;simp only[go_sem]
 cases hA:i' gH l with
 |false=>
  have ah:=JP (f:=nI) hA;refine b5.intro (fun i:Nat=>⟨(.d (.sl 39 (l.map aa.enc))::.J::.J::.d (.int .i64 0)::.d (.int .i64 i)::jn 20 []),[]⟩)
   (fun i=>0) (fun i=>i=0) 0 [] rfl ?_ ?_
  ·simp only[go_sem];simp
  ·rintro i rfl
   try simp only[go_sem,lM]
   repeat'((first|refine ao.intro (by(apply DH<;>first|assumption|omega)) ?_|refine bb ?_)<;>simp only[go_sem,hA,Bool.cond_self])
   all_goals simp[ah]
 |true=>
  have ah:=JO (f:=nI) hA;refine b5.intro (fun i:Nat=>⟨(.d (.sl 39 (l.map aa.enc))::.J::.J::.d (.int .i64 ((l.take i).foldl (pe nI) 0))::.d (.int .i64 i)::jn 20 []),[]⟩)
   (fun i=>l.length-i) (fun i=>i≤l.length) 0 [] (by omega) ?_ ?_
  ·simp only[go_sem];simp
  ·intro i hi;by_cases h1:i<l.length
   ·have ar:decide ((i:Int)<(l.length:Int))=true:=bc (by omega);have av:=bZ aa.enc l i h1;have hw:=dv h1 hm;have hs:=JN nI l i h1
    try simp only[go_sem,lM,ar]
    repeat'(first|((first|refine ae.intro (by(apply DH<;>first|assumption|omega)) ?_|with_reducible refine b9 ?_)<;>simp only[go_sem,lM,aF,av,aa.enc,hA])|(with_reducible refine al ?_)|fail)
    all_goals(refine bm.intro (i+1) [] (by omega) (by omega) ?_;simp only[go_sem,hw,hs];simp[pe,nI];try exact JM _ _)
   ·have ar:decide ((i:Int)<(l.length:Int))=false:=a_ (by omega);obtain rfl:i=l.length:=by omega
    try simp only[go_sem,lM,ar,dB]
    repeat'(first|(with_reducible refine de ?_<;>simp only[go_sem,Bool.cond_self]))
    all_goals simp[ah]
set_option maxHeartbeats 2000000 in
theorem Yw(l:List aa)(hz:∀x∈l,dT x):PureCall Tryz.prog 164 [.one (.sl 39 (l.map aa.enc))] [.one (.int .i64 (mr gH nJ l))]:=by
 refine aL 25 Tryz.func164 Tryz.call164 [.tmp 2] ?_;intro ok;have hm:=fj ok;clear ok;simp only[go_sem]
 cases hA:i' gH l with
 |false=>
  have ah:=JP (f:=nJ) hA;refine b5.intro (fun i:Nat=>⟨(.d (.sl 39 (l.map aa.enc))::.J::.J::.d (.int .i64 0)::.d (.int .i64 i)::jn 20 []),[]⟩)
   (fun i=>0) (fun i=>i=0) 0 [] rfl ?_ ?_
  ·simp only[go_sem];simp
  ·rintro i rfl
   try simp only[go_sem,lM]
   repeat'((first|refine ao.intro (by(apply DH<;>first|assumption|omega)) ?_|refine bb ?_)<;>simp only[go_sem,hA,Bool.cond_self])
   all_goals simp[ah]
 |true=>
  have ah:=JO (f:=nJ) hA;refine b5.intro (fun i:Nat=>⟨(.d (.sl 39 (l.map aa.enc))::.J::.J::.d (.int .i64 ((l.take i).foldl (pe nJ) 0))::.d (.int .i64 i)::jn 20 []),[]⟩)
   (fun i=>l.length-i) (fun i=>i≤l.length) 0 [] (by omega) ?_ ?_
  ·simp only[go_sem];simp
  ·intro i hi;by_cases h1:i<l.length
   ·have ar:decide ((i:Int)<(l.length:Int))=true:=bc (by omega);have av:=bZ aa.enc l i h1;have hw:=dv h1 hm;have hs:=JN nJ l i h1
    try simp only[go_sem,lM,ar]
    repeat'(first|((first|refine ae.intro (by(apply DH<;>first|assumption|omega)) ?_|with_reducible refine b9 ?_)<;>simp only[go_sem,lM,aF,av,aa.enc,hA])|(with_reducible refine al ?_)|fail)
    all_goals(refine bm.intro (i+1) [] (by omega) (by omega) ?_;simp only[go_sem,hw,hs];simp[pe,nJ];try exact JM _ _)
   ·have ar:decide ((i:Int)<(l.length:Int))=false:=a_ (by omega);obtain rfl:i=l.length:=by omega
    try simp only[go_sem,lM,ar,dB]
    repeat'(first|(with_reducible refine de ?_<;>simp only[go_sem,Bool.cond_self]))
    all_goals simp[ah]
set_option maxRecDepth 100000
def KZ:List (List bt):=ct 41 [36472996377170776916,36472996377170776914,36472996377170776921,36472996377170776899,36472996377170776845,36472996377170776683,36472996377170786038,36472996377170784580,36472996377170780206,36472996377170766720,36472996377170727354,36472996377170609256,36472996377170254962,36472996377169192080,36472996377166003434,36472984943861246454,36472984943832548640,36472984943932990989,36472984943617315035,36472984942842474057,36472984940517951123,36472995995360720040,36472995974440013634,36472996330092022536,36472996141805664882,36472995535105179108,36472993840527960222,36472988756796303564,36472973500378331442,36472927746793421520,36472790486038691754,36472378703774502456,36454466175282267993,36450760134904564311,36463731276226527198,36422964832071786696,36322901741873787282,36022712471279789040,35122144659497794314,32420441224151810136,24315330918113857602]
def Qn:List (List bt):=ct 37 [450283905890997362,450283905890997360,450283905890997354,450283905890997336,450283905890997282,450283905890997120,450283905890996634,450283905890995176,450283905890990802,450283905890977680,450283905890938314,450283905890820216,450283905890465922,450283905889403040,450283905886214394,450283905876648456,450283905847950642,450283905761857200,450283905503576874,450283496774960979,450283494450438045,450283487476869243,450283889619336825,450283826857217607,450283638570859953,450283058602387920,450281364025169034,450276280293512376,442231274946851091,442185521361941169,442048260607211403,449963630796627909,448728284004060015,445022243626356333,433606724191330794,400252360791997656,300189270593998242]
attribute [go_sem] KZ Qn
def Gf(p:aC):Prop:=p.frames.length≤500∧∀f∈p.frames,f.data.length≤60
def e0(c:I):Prop:=c.streams.length≤30∧(∀s∈c.streams,dT s)∧c.packets.length≤30∧∀p∈c.packets,Gf p
theorem BK{α:Type}(f:α→Nat)(m:Nat):∀(xs:List α),(∀x∈xs,f x≤m)→k_ f xs≤m * xs.length
 |[],_=>by simp[k_]
 |x::xs,h=>by
  have h1:=BK f m xs (fun y hy=>h y (List.mem_cons_of_mem _ hy));have h2:=h x (by simp);have e:k_ f (x::xs)=f x+k_ f xs:=by simp[k_]
  rw[e,oW,Nat.mul_add];omega
theorem Qo{s:aa}(h:dT s):aa.dO s≤101300:=by
 obtain⟨h1,h2,aj,aD⟩:=h;have:=BK aB.dO 1000 s.recv.buffer.bu aj;simp only[aa.dO,az.dO,cl.dO,bA.dO,k3.dO];omega
theorem Yq{p:aC}(h:Gf p):aC.dO p≤30500:=by
 obtain⟨h1,h2⟩:=h;have:=BK aq.dO 60 p.frames h2;simp only[aC.dO];omega
theorem iQ{c:I}(h:e0 c):I.dO c≤4194304:=by
 obtain⟨h1,h2,aj,aD⟩:=h;have a:=BK aa.dO 101300 c.streams fun s hs=>Qo (h2 s hs);have b:=BK aC.dO 30500 c.packets fun p hp=>Yq (aD p hp);simp only[I.dO];omega
theorem Py{α:Type}(p:α→Bool)(xs:List α)(i:Nat)(h:i<xs.length):(xs.take (i+1)).all p=((xs.take i).all p&&p xs[i]):=by
 rw[List.take_add_one,dg h,List.all_append];simp
theorem Pz{α:Type}(p:α→Bool)(xs:List α)(i:Nat)(h:i<xs.length)(h2:p xs[i]=false):xs.all p=false:=by
 rw[List.all_eq_false];exact⟨_,List.getElem_mem h,by simp[h2]⟩
set_option maxHeartbeats 1000000 in
theorem Qp(xs:List aq):PureCall Tryz.prog 162 [.one (.sl 9 (xs.map aq.enc))] [.one (.bool (xs.all e_))]:=by
 refine aL 16 Tryz.func162 Tryz.call162 [.tmp 2] ?_;intro ok;have hm:=fj ok;clear ok;simp only[go_sem];refine b5.intro (fun i:Nat=>⟨(.d (.sl 9 (xs.map aq.enc))::.J::.J::.d (.int .i64 i)::jn 12 []),[]⟩)
  (fun i=>xs.length-i) (fun i=>i≤xs.length∧(xs.take i).all e_=true) 0 [] ⟨by omega,by simp⟩ ?_ ?_
 ·simp only[go_sem];simp
 ·rintro i ⟨hi,he⟩;by_cases h1:i<xs.length
  ·have ar:decide ((i:Int)<(xs.length:Int))=true:=bc (by omega);have av:=bZ aq.enc xs i h1;have hw:=dv h1 hm;have hs:=Py e_ xs i h1;have aZ:=z' xs[i].kind xs[i].stream xs[i].offset xs[i].data xs[i].bd xs[i].code xs[i].a8 xs[i].bj xs[i].fy;change PureCall _ _ _ [.one (.bool (e_ xs[i]))]at aZ
   try simp only[go_sem,lM,aF,av,aq.enc,ar]
   repeat'(first|((first|refine ae.intro (by assumption) ?_|refine ao.intro (by assumption) ?_|refine bp (fun h=>?_) (fun h=>?_))<;>simp only[go_sem])|(with_reducible refine al ?_)|fail)
   ·have:=Pz e_ xs i h1 (by simpa using h);simp[this]
   ·refine bm.intro (i+1) [] ⟨by omega,by rw[hs,he];simpa using h⟩ (by omega) ?_;simp only[go_sem,hw];try simp
  ·have ar:decide ((i:Int)<(xs.length:Int))=false:=a_ (by omega);obtain rfl:i=xs.length:=by omega
   rw[dB]at he;simp only[go_sem,lM,ar];simp[he]
def j2(n:Int)(l:List aC)(i:Nat):Bool:=yI (fun p=>p.number) (vH n) l i
theorem Yr(n:Int)(l:List aC)(h:0<l.length):j2 n l 0=(bN l[0].number 0 (IntKind.i64.wrap (n-1))&&l[0].frames.all e_):=yp _ _ _ h
theorem Ys(n:Int)(l:List aC)(j:Nat)(h:j+1<l.length):j2 n l (j+1)=(bN l[j+1].number 0 (IntKind.i64.wrap (n-1))&&l[j+1].frames.all e_&&decide (l[j].number<l[j+1].number)):=xi _ _ _ _ h
theorem Yt(ok:aa→Bool)(c:I):(bif bif bif bif bif bif bif bif !gG c.own then true else !gG c.peer then true else !i' ok c.streams then true else !mu c.c8 then true else !oB c.dA then true else !j_ c.eC then true else !j_ c.eB then true else !kB c.dH then true else !kB c.dI)=!uV ok c:=by
 unfold uV
 cases gG c.own<;>cases gG c.peer<;>cases i' ok c.streams<;>cases mu c.c8<;>cases oB c.dA<;>cases j_ c.eC<;>cases j_ c.eB<;>cases kB c.dH<;>cases kB c.dI<;>rfl
theorem Yu(ok:aa→Bool)(c:I):(bif bif bif bif bif bN c.fk (-1) 4611686018427387903 then bN c.number 0 1000000 else false then bN c.gh 0 1000000 else false then bN c.closed 0 255 else false then decide (mr ok nI c.streams≤c.c8.used)else false then decide (mr ok nJ c.streams≤c.dA.seen)else false)=BJ ok c:=by
 unfold BJ;simp only[cf]
set_option maxHeartbeats 8000000 in
theorem vV(c:I)(hz:e0 c):PureCall Tryz.prog 102 [.agg (I.enc c)] [.one (.bool (eQ c))]:=by
 refine aL 140 Tryz.func102 Tryz.call102 [.tmp 2] ?_;intro ok;clear ok;obtain⟨nH,kC,z3,z4⟩:=hz;have ah:=Yt gH c;have hB:=Yu gH c;have hI:eQ c=(uV gH c&&yo c.number c.packets&&BJ gH c):=rfl
 try simp only[go_sem]
 repeat'((first|refine ae.intro (by apply DG) ?_|refine ao.intro (by first|apply DG|(apply DH<;>first|assumption|omega)|apply yJ|apply DI|apply K0|apply GN) ?_|refine bb ?_)<;>simp only[go_sem])
 rw[ah]
 cases hA:uV gH c with
 |false=>
  simp only[go_sem,Bool.not_false];simp[hI,hA]
 |true=>
  rw[hA]at hI;simp only[go_sem,Bool.not_true];refine b5.intro (fun i:Nat=>⟨(.J::.ptr 0 0 0::.J::.d (.int .i64 i)::jn 136 []),[.box (I.bM c)]⟩)
   (fun i=>c.packets.length-i) (fun i=>i≤c.packets.length∧ks (j2 c.number c.packets) i=true) 0 [0] ⟨by omega,by simp[ks]⟩ ?_ ?_
  ·simp only[go_sem];simp
  ·rintro i ⟨hi,he⟩;by_cases h1:i<c.packets.length
   ·have ar:decide ((i:Int)<(c.packets.length:Int))=true:=bc (by omega);have av:=bZ aC.enc c.packets i h1;have hw:IntKind.i64.wrap ((i:Int)+1)=((i+1:Nat):Int):=by rw[bC]<;>omega
    have hs:=Dk (j2 c.number c.packets) i;have hf:j2 c.number c.packets i=false→yo c.number c.packets=false:=fun h=>Gg (j2 c.number c.packets) h1 h
    cases i with
    |zero=>
     have hb:=Yr c.number c.packets h1;have h2:decide ((0:Int)<((0:Nat):Int))=false:=by decide
     try simp only[go_sem,lM,ar]
     repeat'(first|((first|refine ao.intro (by first|apply iE|apply Qp) ?_|with_reducible refine kt ?_|refine eJ ?_|refine ba KZ (by kernel_rfl) (by rfl) ?_|refine bp (fun h=>?_) (fun h=>?_))<;>simp only[go_sem,lM,aF,av,aC.enc,h2])|(with_reducible refine al ?_)|fail)
     ·have e:j2 c.number c.packets 0=false:=by rw[hb];revert h;cases bN c.packets[0].number 0 (IntKind.i64.wrap (c.number-1))<;>cases c.packets[0].frames.all e_<;>simp
      simp[hI,hf e]
     ·have e:j2 c.number c.packets 0=true:=by rw[hb];revert h;cases bN c.packets[0].number 0 (IntKind.i64.wrap (c.number-1))<;>cases c.packets[0].frames.all e_<;>simp
      refine bm.intro 1 [0] ⟨by omega,by rw[hs,he,e];rfl⟩ (by omega) ?_;simp only[go_sem,hw];try simp
    |succ j=>
     have hb:=Ys c.number c.packets j h1;have gi:=bZ aC.enc c.packets j (by omega);have h2:decide ((0:Int)<((j+1:Nat):Int))=true:=bc (by omega);have hp:IntKind.i64.wrap (((j+1:Nat):Int)-1)=(j:Int):=by rw[bC]<;>omega
     try simp only[go_sem,lM,ar]
     repeat'(first|((first|refine ao.intro (by first|apply iE|apply Qp) ?_|refine eJ ?_|refine ba KZ (by kernel_rfl) (by rfl) ?_|refine bp (fun h=>?_) (fun h=>?_))<;>simp only[go_sem,lM,aF,av,gi,aC.enc,h2,hp])|(with_reducible refine al ?_)|fail)
     ·have e:j2 c.number c.packets (j+1)=false:=by rw[hb];revert h;cases bN c.packets[j+1].number 0 (IntKind.i64.wrap (c.number-1))<;>cases c.packets[j+1].frames.all e_<;>simp
      simp[hI,hf e]
     ·have e:j2 c.number c.packets (j+1)=true:=by rw[hb];revert h;cases bN c.packets[j+1].number 0 (IntKind.i64.wrap (c.number-1))<;>cases c.packets[j+1].frames.all e_<;>simp
      refine bm.intro (j+1+1) [0] ⟨by omega,by rw[hs,he,e];rfl⟩ (by omega) ?_;simp only[go_sem,hw];try simp
   ·have ar:decide ((i:Int)<(c.packets.length:Int))=false:=a_ (by omega);obtain rfl:i=c.packets.length:=by omega
    have gp:yo c.number c.packets=true:=he;rw[gp]at hI
    try simp only[go_sem,lM,ar]
    repeat'((first|refine ao.intro (by first|apply iE|(apply Yv<;>first|assumption|omega)|(apply Yw<;>first|assumption|omega)) ?_|refine eJ ?_|refine ba Qn (by kernel_rfl) (by rfl) ?_)<;>simp only[go_sem])
    rw[hB];simp[hI]
theorem Yx(c:I):PureCall Tryz.prog 103 [.agg (I.enc c)] [.one (.bool (decide (c.closed≠0)))]:=by
 refine aL 6 Tryz.func103 Tryz.call103 [.tmp 2] ?_;intro _
 try simp only[go_sem]
def fM(c:I):Bool:=eQ c&&decide (c.closed=0)
set_option maxHeartbeats 2000000 in
theorem tD(c:I)(hz:e0 c):PureCall Tryz.prog 42 [.agg (I.enc c)] [.one (.bool (fM c))]:=by
 refine aL 10 Tryz.func42 Tryz.call42 [.tmp 2] ?_;intro _
 try simp only[go_sem]
 repeat'((first|refine ae.intro (by(apply vV<;>first|assumption|omega)) ?_|refine ao.intro (by apply Yx) ?_|refine bb ?_)<;>simp only[go_sem])
 all_goals(refine d' ?_;simp[fM])
theorem mR{l:List aa}(hz:∀s∈l,dT s)(id:Int):dT (strOf l id).1:=by
 unfold strOf;split
 ·rename_i s h;exact hz _ (List.mem_of_find?_eq_some h)
 ·exact⟨by simp[iG],by simp[iG],by simp[iG],by simp[iG]⟩
set_option maxHeartbeats 4000000 in
theorem mm(c:I)(id:Int)(hz:e0 c):PureCall Tryz.prog 58 [.agg (I.enc c),.one (.int .i64 id)] [.agg (aa.enc ((strOf c.streams id).1)),.one (.bool (strOf c.streams id).2)]:=by
 refine aL 20 Tryz.func58 Tryz.call58 [.cell 4 67,.tmp 5] ?_;intro ok;clear ok;obtain⟨nH,kC,z3,z4⟩:=hz;simp only[go_sem];refine ae.intro (KV c.streams id) ?_;simp only[go_sem];rcases ox (ed id) c.streams with ⟨h1,h2⟩|⟨j,ak,h1,h2,aj⟩
 ·rw[h1];have ah:strOf c.streams id=(iG,false):=by unfold strOf;rw[h2]
  try simp only[go_sem]
  all_goals simp[ah,iG]
 ·rw[h1];have ah:strOf c.streams id=(c.streams[j],true):=by unfold strOf;rw[h2]
  have hlt:decide ((j:Int)<0)=false:=a_ (by omega);have av:=bZ aa.enc c.streams j ak;obtain⟨cH,bg,bT,bY⟩:=kC _ (List.getElem_mem ak)
  try simp only[go_sem,lM,hlt,aF,av,aa.enc]
  repeat'(first|(refine ae.intro (by(apply yz<;>first|assumption|omega)) ?_<;>simp only[go_sem,lM,aa.enc])|(with_reducible refine al ?_)|fail)
  all_goals simp[ah]
set_option maxRecDepth 100000
def PO:List (List bt):=ct 10 [58940,58938,58932,59035,58981,58077,58563,56862,52488,39366]
attribute [go_sem] PO
set_option maxHeartbeats 4000000 in
theorem Kt(c:I)(hx:I.dO c≤4194304):PureCall Tryz.prog 34 [.agg (I.enc c)] [.agg (I.enc c)]:=by
 refine aL 12 Tryz.func34 Tryz.call34 [.cell 2 37] ?_;intro _;simp only[I.dO]at hx
 try simp only[go_sem]
 repeat'((first|refine ao.intro (by first|(apply PQ<;>first|assumption|omega)|(apply XE<;>first|assumption|omega)) ?_|refine ba PO (by kernel_rfl) (by rfl) ?_)<;>simp only[go_sem,lM])
 all_goals simp
set_option maxHeartbeats 4000000 in
theorem gg(c:I)(hx:I.dO c≤4194304):PureCall Tryz.prog 41 [.agg (I.enc c)] [.agg (I.enc c)]:=by
 refine aL 33 Tryz.func41 Tryz.call41 [.cell 2 37] ?_;intro _;simp only[I.dO]at hx;have hm:c.streams.length≤maxLen:=by simp only[maxLen];omega
 simp only[go_sem];refine b5.intro (fun i:Nat=>⟨(.J::.ptr 0 0 0::.ptr 1 0 0::.ptr 2 0 0::.d (.int .i64 i)::jn 28 []),[.box (I.bM c),.box I.bH,.box (I.vc c (.sl 3 0 i) (.d (.sl 2 (c.packets.map aC.enc)))),.ai 39 ((c.streams.take i).map aa.enc) true]⟩)
   (fun i=>c.streams.length-i) (fun i=>i≤c.streams.length) 0 [0,1,2,3] (by omega) ?_ ?_
 ·simp only[go_sem];simp
 ·intro i hi;have hl:(c.streams.take i).length=i:=by simp;omega
  simp only[go_sem,lM];refine bp (fun h1=>?_) (fun h1=>?_)
  ·simp only[il]at h1;have hlt:i<c.streams.length:=by omega
   have av:=bZ aa.enc c.streams i hlt;have hw:=dv hlt hm;have hb:=Gp aa.dO c.streams i hlt;simp only[aa.dO,az.dO,cl.dO,bA.dO,k3.dO]at hb;simp only[aa.enc]at av;have kO:((c.streams.take i).map aa.enc).take i=(c.streams.take i).map aa.enc:=List.take_of_length_le (by rw[lM,hl];exact Nat.le_refl _);have cw:=Gq aa.enc c.streams i hlt;simp only[aa.enc]at cw
   try simp only[go_sem,lM,aF,av]
   repeat'(first|(refine ae.intro (by(apply yz<;>first|assumption|omega)) ?_<;>simp only[go_sem,lM,hl,kO])|(with_reducible refine al ?_)|fail)
   all_goals(refine bm.intro (i+1) [0,1,2,11] (by omega) (by omega) ?_;simp only[go_sem,hw];simp[cw])
  ·simp only[kk]at h1;have gD:i=c.streams.length:=by omega
   subst gD
   try simp only[go_sem,dB]
   repeat'(refine ae.intro (by(apply XF<;>first|assumption|omega)) ?_<;>simp only[go_sem,lM])
   all_goals simp
@[go_sem] theorem ab.mx(a:ab):(⟨a.low,a.high⟩:ab)=a:=rfl
@[go_sem] theorem cl.mx(a:cl):(⟨a.size,a.base,a.b',a.cells⟩:cl)=a:=rfl
@[go_sem] theorem az.mx(a:az):(⟨a.state,a.ring,a.pending,a.flight,a.bK,a.bj,a.bd,a.sent,a.code⟩:az)=a:=rfl
@[go_sem] theorem aB.mx(a:aB):(⟨a.offset,a.data⟩:aB)=a:=rfl
@[go_sem] theorem k3.mx(a:k3):(⟨a.next,a.bu⟩:k3)=a:=rfl
@[go_sem] theorem bA.mx(a:bA):(⟨a.state,a.buffer,a.bj,a.fc,a.code⟩:bA)=a:=rfl
@[go_sem] theorem ei.mx(a:ei):(⟨a.a8,a.used,a.blocked,a.told⟩:ei)=a:=rfl
@[go_sem] theorem eh.mx(a:eh):(⟨a.size,a.most,a.a8,a.seen,a.read,a.j6⟩:eh)=a:=rfl
@[go_sem] theorem fN.mx(a:fN):(⟨a.fB,a.eW⟩:fN)=a:=rfl
@[go_sem] theorem fz.mx(a:fz):(⟨a.a8,a.opened,a.blocked⟩:fz)=a:=rfl
@[go_sem] theorem du.mx(a:du):(⟨a.most,a.a8,a.seen,a.closed⟩:du)=a:=rfl
@[go_sem] theorem da.mx(a:da):(⟨a.ring,a.bP,a.mT,a.c8,a.mU,a.l0,a.fy,a.iF⟩:da)=a:=rfl
@[go_sem] theorem aq.mx(a:aq):(⟨a.kind,a.stream,a.offset,a.data,a.bd,a.code,a.a8,a.bj,a.fy⟩:aq)=a:=rfl
@[go_sem] theorem aa.mx(a:aa):(⟨a.id,a.send,a.cV,a.recv,a.bP,a.priority,a.ee,a.eD,a.ix,a.iy,a.k6,a.jo,a.lW,a.counted⟩:aa)=a:=rfl
@[go_sem] theorem b2.mx(a:b2):(⟨a.offset,a.data,a.bd⟩:b2)=a:=rfl
@[go_sem] theorem db.mx(a:db):(⟨a.id,a.priority⟩:db)=a:=rfl
@[go_sem] theorem aC.mx(a:aC):(⟨a.number,a.frames⟩:aC)=a:=rfl
@[go_sem] theorem I.mx(a:I):(⟨a.cr,a.own,a.peer,a.streams,a.c8,a.dA,a.eC,a.eB,a.dH,a.dI,a.xA,a.nN,a.nO,a.fk,a.number,a.packets,a.gh,a.closed⟩:I)=a:=rfl
set_option maxRecDepth 100000
def KS:List (List bt):=ct 12 [524867,524878,524872,524853,524799,521721,502524,444933,528160,514674,474579,354294]
def KT:List (List bt):=ct 23 [90634871105,90634871103,90634871097,90634871079,90634873333,90634874224,90634873738,90634872199,90635133505,90635120383,90635081017,90634962919,90656128705,90655065823,90651877177,90642311239,90613347705,90527254263,89106712470,79421200245,92399786626,84845087091,62762119218]
def KU:List (List bt):=ct 10 [57956,58804,58798,58780,58726,58927,58321,56862,52488,39366]
attribute [go_sem] KS KT KU
def k8(id:Int)(k:Nat):Int:=IntKind.i64.wrap (id-IntKind.i64.wrap (4 * (k:Int)))
def ensL(v:Bool)(o p:da)(id:Int):Nat→List aa→List aa
 |0,l=>l
 |k+1,l=>ensL v o p id k (putS l (ft v (k8 id k) o p))
theorem Ym(n:Int):(mV n).ring.cells.length≤64∧(mV n).pending=[]∧(mV n).flight=[]∧(mV n).bK=[]:=by
 unfold mV;split
 ·rename_i h;have:=yH h;refine⟨?_,rfl,rfl,rfl⟩;simp only[lC,h,if_true,List.length_replicate];omega
 ·simp[GH]
theorem Bw(v:Bool)(i:Int)(o p:da):dT (ft v i o p):=by
 unfold ft;split
 ·obtain⟨h1,h2,aj,aD⟩:=Ym o.ring;refine⟨by simp only[h2,aj,aD];simp,by simp only;omega,by simp[uS],by simp[uS]⟩
 ·exact⟨by simp[iG],by simp[iG],by simp[iG],by simp[iG]⟩
theorem Qe{l:List aa}{s:aa}(hz:∀x∈l,dT x)(hs:dT s):∀x∈putS l s,dT x:=fun x hx=>by
 rcases GI hx with h|rfl
 ·exact hz x h
 ·exact hs
def j8(c:I)(id:Int):du:=if k7 id then c.dI else c.dH
def j9(c:I)(id:Int):Int:=k9 (j8 c id) (fD id)
def uT(c:I)(id:Int):Bool:=uU (j8 c id) (fD id)&&!decide (j9 c id=0)&&!decide (24<IntKind.i64.wrap ((c.streams.length:Int)+j9 c id))
def gu(c:I)(id:Int):Int:=if !(eQ c&&bJ id)then 7 else if 0≤fIx (ed id) c.streams then 0 else if lB c.cr id then 5 else if uT c id then 0 else 4
def mq(c:I)(id:Int)(a:du):I:=if k7 id then {c with dI:=a}else {c with dH:=a}
def bV(c:I)(id:Int):I:=
 if eQ c&&bJ id&&decide (fIx (ed id) c.streams<0)&&!lB c.cr id&&uT c id then
  {mq c id (iz (j8 c id) (fD id))with streams:=ensL c.cr c.own c.peer id (j9 c id).toNat c.streams}else c
theorem Yn(a:du)(i:Int):0≤k9 a i∧k9 a i≤1152921504606846977:=by
 unfold k9;split
 ·rename_i h;simp only[uU,kB,bN,cX,il]at h;rw[bC (n:=i+1) (by omega) (by omega),bC (n:=i+1-a.seen) (by omega) (by omega)];unfold dL;split<;>omega
 ·omega
theorem GJ{c:I}{id:Int}(h:uT c id=true)(hl:c.streams.length≤1000):0<j9 c id∧(c.streams.length:Int)+j9 c id≤24:=by
 have:=Yn (j8 c id) (fD id);simp only[uT,cX,Bool.not_eq_true',kk]at h;unfold j9 at h⊢;rw[bC (by omega) (by omega)]at h;omega
theorem Qf(v:Bool)(o p:da)(id:Int):∀(k:Nat) (l:List aa),(ensL v o p id k l).length≤l.length+k
 |0,l=>by simp[ensL]
 |k+1,l=>by
  have h1:=Qf v o p id k (putS l (ft v (k8 id k) o p));have h2:=GK l (ft v (k8 id k) o p);rw[ensL];omega
theorem Qg(c:I)(id:Int)(a:du)(h:j8 c id=a):(bif bif !uU a (fD id)then true else decide (k9 a (fD id)=0)then true else decide (24<IntKind.i64.wrap ((c.streams.length:Int)+k9 a (fD id))))=!uT c id:=by
 subst h;unfold uT j9
 cases uU (j8 c id) (fD id)<;>cases decide (k9 (j8 c id) (fD id)=0)<;>cases decide (24<IntKind.i64.wrap ((c.streams.length:Int)+k9 (j8 c id) (fD id)))<;>rfl
set_option maxHeartbeats 8000000 in
theorem GL(c:I)(id:Int)(hz:e0 c):PureCall Tryz.prog 284 [.agg (I.enc c),.one (.int .i64 id)] [.agg (I.enc ((bV c id))),.one (.int .i64 (gu c id))]:=by
 refine aL 72 Tryz.func284 Tryz.call284 [.cell 4 37,.tmp 5] ?_;intro ok;clear ok;have jk:=iQ hz;have eg:=hz;obtain⟨nH,kC,z3,z4⟩:=hz;have aX:bV c id=if eQ c&&bJ id&&decide (fIx (ed id) c.streams<0)&&!lB c.cr id&&uT c id then {mq c id (iz (j8 c id) (fD id))with streams:=ensL c.cr c.own c.peer id (j9 c id).toNat c.streams}else c:=rfl
 have ah:gu c id=if !(eQ c&&bJ id)then 7 else if 0≤fIx (ed id) c.streams then 0 else if lB c.cr id then 5 else if uT c id then 0 else 4:=rfl
 try simp only[go_sem]
 repeat'((first|refine ae.af (by first|(apply gg<;>first|assumption|omega)|(apply vV<;>first|assumption|omega)) ?_|refine ao.af (by apply hJ) ?_|refine bb ?_)<;>simp only[go_sem,lM])
 cases h1:eQ c&&bJ id with
 |false=>
  have hb:(bif !eQ c then true else !bJ id)=true:=by revert h1;cases eQ c<;>cases bJ id<;>simp
  rw[h1]at aX ah;simp only[hb];simp only[go_sem,lM];simp[aX,ah]
 |true=>
  have hb:(bif !eQ c then true else !bJ id)=false:=by revert h1;cases eQ c<;>cases bJ id<;>simp
  rw[h1]at aX ah;simp only[hb];simp only[go_sem];refine ae.intro (KV c.streams id) ?_;simp only[go_sem];rcases ox (ed id) c.streams with ⟨dw,fs⟩|⟨j,ak,dw,fs,f3⟩
  ·have KW:decide ((0:Int)≤-1)=false:=by decide
   have GM:decide ((-1:Int)<0)=true:=by decide
   rw[dw,GM]at aX;rw[dw]at ah;simp only[dw,KW];simp only[go_sem];refine ae.intro (BD c.cr id) ?_;simp only[go_sem]
   cases b1:lB c.cr id with
   |true=>
    rw[b1]at aX ah;simp only[go_sem,lM];simp[aX,ah]
   |false=>
    rw[b1]at aX ah;simp only[go_sem];refine ae.intro (yG id) ?_;simp only[go_sem]
    cases gT:k7 id with
    |true=>
     have hA:j8 c id=c.dI:=by unfold j8;rw[gT];rfl
     have hW:∀a,mq c id a={c with dI:=a}:=fun a=>by unfold mq;rw[gT];rfl
     have bw:=Qg c id _ hA
     try simp only[go_sem]
     repeat'((first|refine ae.af (by assumption) ?_|refine ao.af (by first|assumption|apply Qh|apply Qi) ?_|refine bb ?_|refine ba KS (by kernel_rfl) (by rfl) ?_)<;>simp only[go_sem,lM])
     rw[bw]
     cases hg:uT c id with
     |false=>
      rw[hg]at aX ah;simp only[go_sem,lM,Bool.not_false];simp[aX,ah]
     |true=>
      rw[hg]at aX ah;have hn:j9 c id=k9 c.dI (fD id):=by unfold j9;rw[hA]
      simp only[go_sem,Bool.not_true];refine ae.intro (yG id) ?_;simp only[go_sem,gT];obtain⟨o5,tO⟩:=GJ hg (by omega);rw[hn]at o5 tO aX;obtain⟨N,bo⟩:=Int.eq_ofNat_of_zero_le (show 0≤k9 c.dI (fD id)by omega);rw[bo]at o5 tO aX;rw[aF]at aX;have KX:IntKind.i64.wrap ((N:Int)-1)=(N:Int)-1:=by rw[bC]<;>omega
      refine ae.iR [1,2,4,5,6] (by simp only[keepT,List.elem_cons,List.elem_nil,Nat.reduceBEq,Nat.reduceAdd,cond_true,cond_false];rfl) (en (n:=44) (rs:=[]) Tryz.func323 rfl Tryz.call323 hZ rfl rfl ?_);simp only[go_sem,bo,KX];refine b5.intro (α:=Nat×List aa) (fun y=>⟨(.ptr 4 0 0::.d (.int .i64 id)::jn 4 (.d (.int .i64 ((y.1:Int)-1))::jn 37 [])),[.box (I.bM c),.box I.bH,.af 39 (y.2.map aa.enc),.af 2 (c.packets.map aC.enc),.box (I.vc ({c with dI:=iz c.dI (fD id)}) (.sl 2 0 y.2.length) (.sl 3 0 c.packets.length)),.box [.d (.int .i64 c.dI.most),.d (.int .i64 c.dI.a8),.d (.int .i64 c.dI.seen),.d (.int .i64 c.dI.closed)],.box [.d (.int .i64 (iz c.dI (fD id)).most),.d (.int .i64 (iz c.dI (fD id)).a8),.d (.int .i64 (iz c.dI (fD id)).seen),.d (.int .i64 (iz c.dI (fD id)).closed)]]⟩)
       (fun y=>y.1) (fun y=>y.1≤N∧ensL c.cr c.own c.peer id y.1 y.2=ensL c.cr c.own c.peer id N c.streams∧y.2.length+y.1≤c.streams.length+N∧∀s∈y.2,dT s) (N,c.streams) [0,1,2,3,4,5,6] ⟨by omega,rfl,by simp,kC⟩ ?_ ?_
      ·simp only[go_sem];simp
      ·rintro⟨k,l⟩ ⟨hk,he,tF,cB⟩;simp only at hk he tF cB
       cases k with
       |zero=>
        have hd:decide ((0:Int)≤((0:Nat):Int)-1)=false:=by decide
        simp only[go_sem,hd];have z8:ensL c.cr c.own c.peer id N c.streams=l:=he.symm;rw[z8,hW,hA]at aX;simp[aX,ah,outOA]
       |succ k=>
        have hd:decide ((0:Int)≤(k:Int))=true:=bc (by omega);have l1:((k+1:Nat):Int)-1=(k:Int):=by omega
        have z_:IntKind.i64.wrap ((k:Int)-1)=(k:Int)-1:=by rw[bC]<;>omega
        have hid:IntKind.i64.wrap (id-IntKind.i64.wrap (4 * (k:Int)))=k8 id k:=rfl;have gp:=k4 l (ft c.cr (k8 id k) c.own c.peer) (by omega) cB (Bw _ _ _ _)
        try simp only[go_sem,l1,hd]
        repeat'((first|refine ae.af (by assumption) ?_|refine ao.af (by first|assumption|apply Gt) ?_|refine ba KT (by kernel_rfl) (by rfl) ?_|refine ba KU (by kernel_rfl) (by rfl) ?_)<;>simp only[go_sem,lM,z_,hid])
        have Qj:=GK l (ft c.cr (k8 id k) c.own c.peer);refine bm.intro (k,putS l (ft c.cr (k8 id k) c.own c.peer)) [0,1,13,3,4,5,6] ⟨by omega,he,by simp only;omega,Qe cB (Bw _ _ _ _)⟩ (by simp only;omega) ?_;simp only[go_sem];simp
    |false=>
     have hA:j8 c id=c.dH:=by unfold j8;rw[gT];rfl
     have hW:∀a,mq c id a={c with dH:=a}:=fun a=>by unfold mq;rw[gT];rfl
     have bw:=Qg c id _ hA
     try simp only[go_sem]
     repeat'((first|refine ao.af (by first|apply Qh|apply Qi) ?_|refine bb ?_|refine ba KS (by kernel_rfl) (by rfl) ?_)<;>simp only[go_sem,lM])
     rw[bw]
     cases hg:uT c id with
     |false=>
      rw[hg]at aX ah;simp only[go_sem,lM,Bool.not_false];simp[aX,ah]
     |true=>
      rw[hg]at aX ah;have hn:j9 c id=k9 c.dH (fD id):=by unfold j9;rw[hA]
      simp only[go_sem,Bool.not_true];refine ae.intro (yG id) ?_;simp only[go_sem,gT];obtain⟨o5,tO⟩:=GJ hg (by omega);rw[hn]at o5 tO aX;obtain⟨N,bo⟩:=Int.eq_ofNat_of_zero_le (show 0≤k9 c.dH (fD id)by omega);rw[bo]at o5 tO aX;rw[aF]at aX;have KX:IntKind.i64.wrap ((N:Int)-1)=(N:Int)-1:=by rw[bC]<;>omega
      refine ae.iR [1,2,4,5,6] (by simp only[keepT,List.elem_cons,List.elem_nil,Nat.reduceBEq,Nat.reduceAdd,cond_true,cond_false];rfl) (en (n:=44) (rs:=[]) Tryz.func323 rfl Tryz.call323 hZ rfl rfl ?_);simp only[go_sem,bo,KX];refine b5.intro (α:=Nat×List aa) (fun y=>⟨(.ptr 4 0 0::.d (.int .i64 id)::jn 4 (.d (.int .i64 ((y.1:Int)-1))::jn 37 [])),[.box (I.bM c),.box I.bH,.af 39 (y.2.map aa.enc),.af 2 (c.packets.map aC.enc),.box (I.vc ({c with dH:=iz c.dH (fD id)}) (.sl 2 0 y.2.length) (.sl 3 0 c.packets.length)),.box [.d (.int .i64 c.dH.most),.d (.int .i64 c.dH.a8),.d (.int .i64 c.dH.seen),.d (.int .i64 c.dH.closed)],.box [.d (.int .i64 (iz c.dH (fD id)).most),.d (.int .i64 (iz c.dH (fD id)).a8),.d (.int .i64 (iz c.dH (fD id)).seen),.d (.int .i64 (iz c.dH (fD id)).closed)]]⟩)
       (fun y=>y.1) (fun y=>y.1≤N∧ensL c.cr c.own c.peer id y.1 y.2=ensL c.cr c.own c.peer id N c.streams∧y.2.length+y.1≤c.streams.length+N∧∀s∈y.2,dT s) (N,c.streams) [0,1,2,3,4,5,6] ⟨by omega,rfl,by simp,kC⟩ ?_ ?_
      ·simp only[go_sem];simp
      ·rintro⟨k,l⟩ ⟨hk,he,tF,cB⟩;simp only at hk he tF cB
       cases k with
       |zero=>
        have hd:decide ((0:Int)≤((0:Nat):Int)-1)=false:=by decide
        simp only[go_sem,hd];have z8:ensL c.cr c.own c.peer id N c.streams=l:=he.symm;rw[z8,hW,hA]at aX;simp[aX,ah,outOA]
       |succ k=>
        have hd:decide ((0:Int)≤(k:Int))=true:=bc (by omega);have l1:((k+1:Nat):Int)-1=(k:Int):=by omega
        have z_:IntKind.i64.wrap ((k:Int)-1)=(k:Int)-1:=by rw[bC]<;>omega
        have hid:IntKind.i64.wrap (id-IntKind.i64.wrap (4 * (k:Int)))=k8 id k:=rfl;have gp:=k4 l (ft c.cr (k8 id k) c.own c.peer) (by omega) cB (Bw _ _ _ _)
        try simp only[go_sem,l1,hd]
        repeat'((first|refine ae.af (by assumption) ?_|refine ao.af (by first|assumption|apply Gt) ?_|refine bb ?_|refine ba KT (by kernel_rfl) (by rfl) ?_|refine ba KU (by kernel_rfl) (by rfl) ?_)<;>simp only[go_sem,lM,z_,hid])
        have Qj:=GK l (ft c.cr (k8 id k) c.own c.peer);refine bm.intro (k,putS l (ft c.cr (k8 id k) c.own c.peer)) [0,1,13,3,4,5,6] ⟨by omega,he,by simp only;omega,Qe cB (Bw _ _ _ _)⟩ (by simp only;omega) ?_;simp only[go_sem];simp
  ·have KW:decide ((0:Int)≤(j:Int))=true:=bc (by omega);have GM:decide ((j:Int)<0)=false:=a_ (by omega);rw[dw,GM]at aX;rw[dw]at ah;simp only[dw,KW];simp only[go_sem,lM];simp[aX,ah]
theorem Wr{r x y:ab}(hr:cT r=true)(hx:cT x=true)(hy:y∈kL r x):cT y=true∧x.low≤y.low∧y.high≤x.high:=by
 have h1:=(gM _).1 hr;have h2:=(gM _).1 hx;unfold kL at hy;rcases List.mem_append.1 hy with hy|hy
 ·split at hy
  ·rename_i c;rw[List.mem_singleton.1 hy,gM];simp only[cG]at c⊢;refine⟨⟨by omega,c,?_⟩,by omega,?_⟩<;>split<;>omega
  ·cases hy
 ·split at hy
  ·rename_i c;rw[List.mem_singleton.1 hy,gM];simp only[dL]at c⊢;refine⟨⟨?_,c,by omega⟩,?_,by omega⟩<;>split<;>omega
  ·cases hy
theorem agi{r x:ab}(hr:cT r=true):(kL r x).Pairwise (fun a b=>a.high<b.low):=by
 have h1:=(gM _).1 hr;unfold kL;split<;>split<;>simp[cG,dL]<;>(repeat' split)<;>omega
theorem Ws{r:ab}(hr:cT r=true):∀(xs:List ab),(∀x∈xs,cT x=true)→xs.Pairwise (fun a b=>a.high<b.low)→
  (∀y∈xs.flatMap (kL r),cT y=true∧∃x∈xs,x.low≤y.low∧y.high≤x.high)∧(xs.flatMap (kL r)).Pairwise (fun a b=>a.high<b.low)
 |[],_,_=>by simp
 |x::xs,h1,h2=>by
  have gW:=List.pairwise_cons.1 h2;obtain⟨g1,cx⟩:=Ws hr xs (fun y hy=>h1 y (by simp[hy])) gW.2;rw[List.flatMap_cons];refine⟨fun y hy=>?_,List.pairwise_append.2 ⟨agi hr,cx,fun a ha b hb=>?_⟩⟩
  ·rcases List.mem_append.1 hy with hy|hy
   ·have:=Wr hr (h1 x (by simp)) hy;exact⟨this.1,x,by simp,this.2⟩
   ·obtain⟨cH,z,hz,bg⟩:=g1 y hy;exact⟨cH,z,by simp[hz],bg⟩
  ·have cH:=Wr hr (h1 x (by simp)) ha;obtain⟨_,z,hz,bg⟩:=g1 b hb;have:=gW.1 z hz;omega
theorem Wt{r x:ab}(h:¬(x.low<r.low∧r.high<x.high)):(kL r x).length≤1:=by
 unfold kL;split<;>split<;>simp;rename_i c1 c2;simp only[cG,dL]at c1 c2;split at c1<;>split at c2<;>omega
theorem Wu{r:ab}:∀(xs:List ab),(∀x∈xs,r.low≤x.low)→(xs.flatMap (kL r)).length≤xs.length
 |[],_=>by simp
 |x::xs,h=>by
  have:=Wu xs (fun y hy=>h y (by simp[hy]));have:=Wt (r:=r) (x:=x) (fun g=>by have:=h x (by simp);omega);rw[List.flatMap_cons,List.length_append,oW];omega
theorem Wv{r:ab}(hr:cT r=true):∀(xs:List ab),xs.Pairwise (fun a b=>a.high<b.low)→(xs.flatMap (kL r)).length≤xs.length+1
 |[],_=>by simp
 |x::xs,h=>by
  have h':=List.pairwise_cons.1 h;have jP:=(gM _).1 hr;rw[List.flatMap_cons,List.length_append,oW];by_cases c:x.low<r.low∧r.high<x.high
  ·have:=Wu (r:=r) xs (fun y hy=>by have:=h'.1 y hy;omega);have:=Wj r x;omega
  ·have:=Wv hr xs h'.2;have:=Wt c;omega
theorem Us{xs:List ab}{r:ab}(h:cy xs=true):cy (nY xs r)=true∧(nY xs r).length≤xs.length+1∧∀y∈nY xs r,∃x∈xs,x.low≤y.low∧y.high≤x.high:=by
 unfold nY;split
 ·rename_i g;have hr:cT r=true:=by revert g;rw[h];simp
  have hs:=(kJ xs).1 h;obtain⟨g1,cx⟩:=Ws hr xs hs.1 hs.2;exact⟨(kJ _).2 ⟨fun y hy=>(g1 y hy).1,cx⟩,Wv hr xs hs.2,fun y hy=>(g1 y hy).2⟩
 ·exact⟨h,by omega,fun y hy=>⟨y,hy,by omega,by omega⟩⟩
theorem agj{x y z:ab}(hx:cT x=true)(hy:cT y=true)(hz:z∈iP x y):cT z=true∧x.low≤z.low∧z.high≤x.high:=by
 have h1:=(gM _).1 hx;have h2:=(gM _).1 hy;unfold iP at hz;split at hz
 ·rename_i c;rw[List.mem_singleton.1 hz,gM];simp only[cG,dL]at c⊢;refine⟨⟨?_,c,?_⟩,?_,?_⟩<;>split<;>omega
 ·cases hz
theorem NO(xs:List ab)(r:ab):(kf xs [r]).length≤xs.length∧∀z∈kf xs [r],cT z=true∧∃x∈xs,x.low≤z.low∧z.high≤x.high:=by
 unfold kf;split
 ·rename_i g;simp only[cX]at g;have hs:=(kJ xs).1 g.1;have hr:=((kJ [r]).1 g.2).1 r (by simp);have e:(xs.flatMap fun x=>[r].flatMap (iP x))=xs.flatMap fun x=>iP x r:=by
   congr 1;funext x;simp
  rw[e];refine⟨by have:=C_ (fun x=>iP x r) 1 (fun x=>OI x r) xs;omega,fun z hz=>?_⟩;obtain⟨x,hx,hz⟩:=List.mem_flatMap.1 hz;have:=agj (hs.1 x hx) hr hz;exact⟨this.1,x,hx,this.2⟩
 ·exact⟨by simp,fun z hz=>by cases hz⟩
set_option maxRecDepth 100000
def JA:List (List bt):=ct 10 [59048,59046,59040,59022,56781,56619,56133,57915,52488,39366]
attribute [go_sem] JA
def CQ(s:az)(p:b2):Bool:=eA s&&decide (s.state≤2)&&wW s p&&!(decide (p.data=[])&&!p.bd)&&!(p.bd&&decide (s.bd≠1))
def oD(s:az)(p:b2):Bool:=CQ s p&&(decide (p.data=[])||decide (kf s.pending [eU p]=[eU p]))
def zr(s:az)(p:b2):az:=if p.data=[]then s else {s with pending:=nY s.pending (eU p),flight:=fh s.flight (eU p),sent:=dL s.sent (eU p).high}
def AY(s:az)(p:b2):az:=if p.bd then {s with bd:=2}else s
def oR(s:az):az:={s with state:=vG s}
def pk(s:az)(p:b2):az:=if oD s p then oR (AY (zr s p) p)else s
set_option maxHeartbeats 8000000 in
theorem ZU(aO aS aT aP:Int)(aM:List Int)(aw au ay:List ab)(aR aQ aN aU dh:Int)(cp:List UInt8)(cP:Bool)(hc:aw.length+au.length+ay.length≤524288)(hr:aM.length≤8388608)(_:cp.length≤1048576):PureCall Tryz.prog 319 [.agg [.int .i64 aO,.int .i64 aS,.int .i64 aT,.int .i64 aP,.sl 1 (aM.map aW),.sl 2 (aw.map ab.enc),.sl 2 (au.map ab.enc),.sl 2 (ay.map ab.enc),.int .i64 aR,.int .i64 aQ,.int .i64 aN,.int .i64 aU],.agg [.int .i64 dh,.str cp,.bool cP]] [.agg (az.enc (pk (⟨aO,⟨aS,aT,aP,aM⟩,aw,au,ay,aR,aQ,aN,aU⟩:az) (⟨dh,cp,cP⟩:b2))),.one (.bool (oD (⟨aO,⟨aS,aT,aP,aM⟩,aw,au,ay,aR,aQ,aN,aU⟩:az) (⟨dh,cp,cP⟩:b2)))]:=by
 refine aL 89 Tryz.func319 Tryz.call319 [.cell 4 58,.tmp 5] ?_;intro _;have ah:(bif bif bif bif !eA (⟨aO,⟨aS,aT,aP,aM⟩,aw,au,ay,aR,aQ,aN,aU⟩:az)then true else decide (2<aO)then true else !wW (⟨aO,⟨aS,aT,aP,aM⟩,aw,au,ay,aR,aQ,aN,aU⟩:az) (⟨dh,cp,cP⟩:b2)then true else bif decide (cp=[])then !cP else false then true else bif cP then decide (aQ≠1)else false)=!CQ (⟨aO,⟨aS,aT,aP,aM⟩,aw,au,ay,aR,aQ,aN,aU⟩:az) (⟨dh,cp,cP⟩:b2):=by
  have e:decide (2<aO)=!decide (aO≤2):=by by_cases h:aO≤2<;>simp[h]<;>omega
  simp only[CQ,e]
  cases eA (⟨aO,⟨aS,aT,aP,aM⟩,aw,au,ay,aR,aQ,aN,aU⟩:az)<;>cases decide (aO≤2)<;>cases wW (⟨aO,⟨aS,aT,aP,aM⟩,aw,au,ay,aR,aQ,aN,aU⟩:az) (⟨dh,cp,cP⟩:b2)<;>cases decide (cp=[])<;>cases cP<;>cases decide (aQ≠1)<;>rfl
 cases bw:CQ (⟨aO,⟨aS,aT,aP,aM⟩,aw,au,ay,aR,aQ,aN,aU⟩:az) (⟨dh,cp,cP⟩:b2)with
 |false=>
  have b1:oD (⟨aO,⟨aS,aT,aP,aM⟩,aw,au,ay,aR,aQ,aN,aU⟩:az) (⟨dh,cp,cP⟩:b2)=false:=by simp[oD,bw]
  rw[bw]at ah
  try simp only[go_sem]
  repeat'((first|refine ae.intro (by first|(apply pf<;>first|assumption|omega)|(apply kY<;>first|assumption|omega)) ?_|refine ao.intro (by apply Da) ?_|refine bb ?_)<;>simp only[go_sem,lM])
  rw[ah];simp only[go_sem,Bool.not_false,lM];simp[pk,b1]
 |true=>
  have hw:=bw;simp only[CQ,cX,il,and_assoc]at hw;obtain⟨yv,ml,JB,JC,JD⟩:=hw;rw[bw]at ah;have F8:=OJ aw [eU (⟨dh,cp,cP⟩:b2)] (by omega) (by simp);have Jo:=OH aw (eU (⟨dh,cp,cP⟩:b2)).low (eU (⟨dh,cp,cP⟩:b2)).high (by omega);have agJ:=uz au (eU (⟨dh,cp,cP⟩:b2)).low (eU (⟨dh,cp,cP⟩:b2)).high (by omega)
  try simp only[go_sem]
  repeat'((first|refine ae.intro (by first|assumption|(apply pf<;>first|assumption|omega)|(apply kY<;>first|assumption|omega)) ?_|refine ao.intro (by first|assumption|apply Da) ?_|refine bb ?_)<;>simp only[go_sem,lM])
  rw[ah];simp only[go_sem,Bool.not_true];by_cases na:cp=[]
  ·have aY:decide (cp≠[])=false:=a_ (fun h=>h na);have b1:oD (⟨aO,⟨aS,aT,aP,aM⟩,aw,au,ay,aR,aQ,aN,aU⟩:az) (⟨dh,cp,cP⟩:b2)=true:=by unfold oD;rw[bw];simp only[na,decide_true,Bool.true_or,Bool.and_self]
   have aX:pk (⟨aO,⟨aS,aT,aP,aM⟩,aw,au,ay,aR,aQ,aN,aU⟩:az) (⟨dh,cp,cP⟩:b2)=oR (AY (zr (⟨aO,⟨aS,aT,aP,aM⟩,aw,au,ay,aR,aQ,aN,aU⟩:az) (⟨dh,cp,cP⟩:b2)) (⟨dh,cp,cP⟩:b2)):=by unfold pk;rw[b1];rfl
   have bz:zr (⟨aO,⟨aS,aT,aP,aM⟩,aw,au,ay,aR,aQ,aN,aU⟩:az) (⟨dh,cp,cP⟩:b2)=(⟨aO,⟨aS,aT,aP,aM⟩,aw,au,ay,aR,aQ,aN,aU⟩:az):=by unfold zr;exact if_pos na
   rw[bz]at aX;clear ah bw yv JB JC JD F8 Jo agJ
   try simp only[go_sem,aY]
   repeat'(first|((first|refine ae.intro (by apply Bn) ?_|refine bp (fun h=>?_) (fun h=>?_))<;>simp only[go_sem,lM])|(with_reducible refine al ?_)|fail)
   all_goals(rw[aX,b1];subst h;simp only[oR,AY,if_true,Bool.false_eq_true,if_false];try simp[outOA])
  ·have aY:decide (cp≠[])=true:=bc na;by_cases zT:kf aw [eU (⟨dh,cp,cP⟩:b2)]=[eU (⟨dh,cp,cP⟩:b2)]
   ·have b1:oD (⟨aO,⟨aS,aT,aP,aM⟩,aw,au,ay,aR,aQ,aN,aU⟩:az) (⟨dh,cp,cP⟩:b2)=true:=by unfold oD;rw[bw];simp only[zT,decide_true,Bool.or_true,Bool.and_self]
    have aX:pk (⟨aO,⟨aS,aT,aP,aM⟩,aw,au,ay,aR,aQ,aN,aU⟩:az) (⟨dh,cp,cP⟩:b2)=oR (AY (zr (⟨aO,⟨aS,aT,aP,aM⟩,aw,au,ay,aR,aQ,aN,aU⟩:az) (⟨dh,cp,cP⟩:b2)) (⟨dh,cp,cP⟩:b2)):=by unfold pk;rw[b1];rfl
    have bz:zr (⟨aO,⟨aS,aT,aP,aM⟩,aw,au,ay,aR,aQ,aN,aU⟩:az) (⟨dh,cp,cP⟩:b2)={(⟨aO,⟨aS,aT,aP,aM⟩,aw,au,ay,aR,aQ,aN,aU⟩:az)with pending:=nY aw (eU (⟨dh,cp,cP⟩:b2)),flight:=fh au (eU (⟨dh,cp,cP⟩:b2)),sent:=dL aN (eU (⟨dh,cp,cP⟩:b2)).high}:=by unfold zr;exact if_neg na
    rw[bz]at aX;rw[zT]at F8;clear ah bw yv JB JC JD;have bk:decide (((1:Nat):Int)≠1)=false:=by decide
    try simp only[go_sem,aY,oW,List.length_nil]
    repeat'(first|((first|refine ae.intro (by first|assumption|apply F7|apply Bn) ?_|refine ao.intro (by assumption) ?_|with_reducible refine kN ?_|refine ba JA (by kernel_rfl) (by rfl) ?_|refine bp (fun h=>?_) (fun h=>?_))<;>simp only[go_sem,lM,bk,ab.enc,List.map_cons,List.map_nil,oW,List.length_nil,Int.toNat_zero])|(with_reducible refine al ?_)|fail)
    all_goals(rw[aX,b1];subst h;simp only[oR,AY,if_true,Bool.false_eq_true,if_false,dL];try rfl;try simp[outOA])
   ·have b1:oD (⟨aO,⟨aS,aT,aP,aM⟩,aw,au,ay,aR,aQ,aN,aU⟩:az) (⟨dh,cp,cP⟩:b2)=false:=by unfold oD;rw[bw];simp only[a_ na,a_ zT,Bool.or_self,Bool.and_false]
    have aX:pk (⟨aO,⟨aS,aT,aP,aM⟩,aw,au,ay,aR,aQ,aN,aU⟩:az) (⟨dh,cp,cP⟩:b2)=(⟨aO,⟨aS,aT,aP,aM⟩,aw,au,ay,aR,aQ,aN,aU⟩:az):=by unfold pk;rw[b1];rfl
    by_cases hl:(kf aw [eU (⟨dh,cp,cP⟩:b2)]).length=1
    ·obtain⟨y,hy⟩:=List.length_eq_one_iff.1 hl;have bk:decide (((1:Nat):Int)≠1)=false:=by decide
     rw[hy]at F8 zT;have hne:¬(y.low=(eU (⟨dh,cp,cP⟩:b2)).low∧y.high=(eU (⟨dh,cp,cP⟩:b2)).high):=fun g=>zT (by rw[show y=eU (⟨dh,cp,cP⟩:b2)from by cases y;cases g;simp_all]);have cg:(decide (y.low=(eU (⟨dh,cp,cP⟩:b2)).low)&&decide (y.high=(eU (⟨dh,cp,cP⟩:b2)).high))=false:=by
      rw[Bool.and_eq_false_iff,kk,kk];exact Classical.not_and_iff_not_or_not.1 hne
     clear ah bw yv JB JC JD
     try simp only[go_sem,aY,oW,List.length_nil]
     repeat'(first|((first|refine ae.intro (by first|assumption|apply F7) ?_|refine ao.intro (by assumption) ?_|with_reducible refine kN ?_|refine ba JA (by kernel_rfl) (by rfl) ?_)<;>simp only[go_sem,lM,bk,cg,ab.enc,List.map_cons,List.map_nil,oW,List.length_nil,Int.toNat_zero,Bool.not_false])|(with_reducible refine al ?_)|fail)
     all_goals(rw[aX,b1];try simp[outOA,fa])
    ·have bk:decide (((kf aw [eU (⟨dh,cp,cP⟩:b2)]).length:Int)≠1)=true:=bc (by omega);clear ah bw yv JB JC JD
     try simp only[go_sem,aY]
     repeat'(first|((first|refine ae.intro (by first|assumption|apply F7) ?_|refine ao.intro (by assumption) ?_|with_reducible refine kt ?_|refine ba JA (by kernel_rfl) (by rfl) ?_)<;>simp only[go_sem,lM,bk])|(with_reducible refine al ?_)|fail)
     all_goals(rw[aX,b1];try simp[outOA,fa])
set_option maxRecDepth 100000
def O4:List (List bt):=ct 12 [511640,511638,511753,511735,511681,511515,511029,503010,448335,521599,478953,354294]
def O5:List (List bt):=ct 7 [2069,2067,2182,2164,2110,1944,1458]
def O6:List (List bt):=ct 9 [19322,19320,19651,19669,19606,19444,18954,17496,13122]
attribute [go_sem] O4 O5 O6
def zH(s:az)(p:b2):Bool:=eA s&&decide (s.state≤2)&&wW s p
def kW(jB c:List ab):List ab:=c.foldl nY jB
theorem WJ(jB c:List ab)(i:Nat)(h:i<c.length):kW jB (c.take (i+1))=nY (kW jB (c.take i)) c[i]:=xb nY jB c i h
theorem Iz:∀(c jB:List ab),cy jB=true→cy (kW jB c)=true∧(kW jB c).length≤jB.length+c.length∧∀y∈kW jB c,∃x∈jB,x.low≤y.low∧y.high≤x.high
 |[],jB,h=>⟨h,by simp[kW],fun y hy=>⟨y,hy,by omega,by omega⟩⟩
 |r::c,jB,h=>by
  obtain⟨g1,cx,g3⟩:=Us (r:=r) h;obtain⟨cH,bg,bT⟩:=Iz c (nY jB r) g1;refine⟨cH,by have e:kW jB (r::c)=kW (nY jB r) c:=rfl;rw[e,oW];omega,fun y hy=>?_⟩;obtain⟨x,hx,y2⟩:=bT y hy;obtain⟨z,hz,jc⟩:=g3 x hx;exact⟨z,hz,by omega,by omega⟩
def oS(s:az)(p:b2):az:=if p.data=[]then s else {s with flight:=kW s.flight (kf s.flight [eU p]),bK:=eb s.bK (kf s.flight [eU p])}
def mF(f:Int)(s:az)(p:b2):az:=if(p.bd&&decide (s.bd=2))=true then {s with bd:=f}else s
def Ff(r:cl)(s:az):az:={s with ring:=wX r (uA s.bK 0)}
def zt(s:az)(p:b2):az:=if zH s p then oR (Ff s.ring (mF 3 (oS s p) p))else s
theorem WK(s:az)(p:b2):(bif bif !eA s then true else decide (2<s.state)then true else !wW s p)=!zH s p:=by
 have e:decide (2<s.state)=!decide (s.state≤2):=by by_cases h:s.state≤2<;>simp[h]<;>omega
 simp only[zH,e]
 cases eA s<;>cases decide (s.state≤2)<;>cases wW s p<;>rfl
theorem WL{s:az}(h:eA s=true):cy s.pending=true∧cy s.flight=true∧cy s.bK=true:=by
 simp only[eA,kg,cX,and_assoc]at h;exact⟨h.2.1,h.2.2.1,h.2.2.2.1⟩
set_option maxHeartbeats 8000000 in
theorem af4(aO aS aT aP:Int)(aM:List Int)(aw au ay:List ab)(aR aQ aN aU dh:Int)(cp:List UInt8)(cP:Bool)(hc:aw.length+au.length+ay.length≤262144)(hr:aM.length≤8388608)(_hd:cp.length≤1048576):PureCall Tryz.prog 293 [.agg [.int .i64 aO,.int .i64 aS,.int .i64 aT,.int .i64 aP,.sl 1 (aM.map aW),.sl 2 (aw.map ab.enc),.sl 2 (au.map ab.enc),.sl 2 (ay.map ab.enc),.int .i64 aR,.int .i64 aQ,.int .i64 aN,.int .i64 aU],.agg [.int .i64 dh,.str cp,.bool cP]] [.agg (az.enc (zt (⟨aO,⟨aS,aT,aP,aM⟩,aw,au,ay,aR,aQ,aN,aU⟩:az) (⟨dh,cp,cP⟩:b2)))]:=by
 refine aL 81 Tryz.func293 Tryz.call293 [.cell 4 58] ?_;intro _;have ah:=WK (⟨aO,⟨aS,aT,aP,aM⟩,aw,au,ay,aR,aQ,aN,aU⟩:az) (⟨dh,cp,cP⟩:b2)
 cases bw:zH (⟨aO,⟨aS,aT,aP,aM⟩,aw,au,ay,aR,aQ,aN,aU⟩:az) (⟨dh,cp,cP⟩:b2)with
 |false=>
  rw[bw]at ah
  try simp only[go_sem]
  repeat'((first|refine ae.intro (by first|(apply pf<;>first|assumption|omega)|(apply kY<;>first|assumption|omega)) ?_|refine ao.intro (by apply Da) ?_|refine bb ?_)<;>simp only[go_sem,lM])
  rw[ah];simp only[go_sem,Bool.not_false,lM];simp[zt,bw]
 |true=>
  have hw:=bw;simp only[zH,cX,il,and_assoc]at hw;have F9:=WL hw.1;simp only at F9;rw[bw]at ah;have aX:zt (⟨aO,⟨aS,aT,aP,aM⟩,aw,au,ay,aR,aQ,aN,aU⟩:az) (⟨dh,cp,cP⟩:b2)=oR (Ff (⟨aO,⟨aS,aT,aP,aM⟩,aw,au,ay,aR,aQ,aN,aU⟩:az).ring (mF 3 (oS (⟨aO,⟨aS,aT,aP,aM⟩,aw,au,ay,aR,aQ,aN,aU⟩:az) (⟨dh,cp,cP⟩:b2)) (⟨dh,cp,cP⟩:b2))):=by unfold zt;rw[bw];rfl
  have F8:=OJ au [eU (⟨dh,cp,cP⟩:b2)] (by omega) (by simp);have agK:=NO au (eU (⟨dh,cp,cP⟩:b2))
  try simp only[go_sem]
  repeat'((first|refine ae.intro (by first|assumption|(apply pf<;>first|assumption|omega)|(apply kY<;>first|assumption|omega)) ?_|refine ao.intro (by first|assumption|apply Da) ?_|refine bb ?_)<;>simp only[go_sem,lM])
  rw[ah];simp only[go_sem,Bool.not_true];by_cases na:cp=[]
  ·have aY:decide (cp≠[])=false:=a_ (fun h=>h na);have bz:oS (⟨aO,⟨aS,aT,aP,aM⟩,aw,au,ay,aR,aQ,aN,aU⟩:az) (⟨dh,cp,cP⟩:b2)=(⟨aO,⟨aS,aT,aP,aM⟩,aw,au,ay,aR,aQ,aN,aU⟩:az):=by unfold oS;exact if_pos na
   rw[bz]at aX;clear ah bw hw
   try simp only[go_sem,aY]
   repeat'(first|((first|refine ae.intro (by first|assumption|apply Bn) ?_|refine ao.intro (by first|assumption|apply yk|(apply Wa<;>first|assumption|omega)) ?_|refine bb ?_|refine ba O4 (by kernel_rfl) (by rfl) ?_|refine bp (fun h=>?_) (fun h=>?_))<;>simp only[go_sem,lM])|(with_reducible refine al ?_)|fail)
   all_goals(simp only[cf]at h;rw[aX];simp only[oR,Ff,mF,h,if_true,Bool.false_eq_true,if_false];try rfl;try simp[outOA])
  ·have aY:decide (cp≠[])=true:=bc na;clear ah bw hw
   try simp only[go_sem,aY]
   repeat'((first|refine ae.intro (by assumption) ?_|refine ao.intro (by first|assumption|apply F7) ?_|refine ba O5 (by kernel_rfl) (by rfl) ?_)<;>simp only[go_sem,lM])
   have bz:oS (⟨aO,⟨aS,aT,aP,aM⟩,aw,au,ay,aR,aQ,aN,aU⟩:az) (⟨dh,cp,cP⟩:b2)={(⟨aO,⟨aS,aT,aP,aM⟩,aw,au,ay,aR,aQ,aN,aU⟩:az)with flight:=kW au (kf au [eU (⟨dh,cp,cP⟩:b2)]),bK:=eb ay (kf au [eU (⟨dh,cp,cP⟩:b2)])}:=by unfold oS;exact if_neg na
   rw[bz]at aX;generalize hcc:kf au [eU (⟨dh,cp,cP⟩:b2)]=c at *;refine b5.intro (fun i:Nat=>⟨(.J::.J::.ptr 0 0 0::.ptr 1 0 0::.ptr 2 0 0::.ptr 7 0 0::.sl 8 0 c.length::.d (.int .i64 i)::jn 73 []),[.box [.d (.int .i64 aO),.d (.int .i64 aS),.d (.int .i64 aT),.d (.int .i64 aP),.d (.sl 1 (aM.map aW)),.d (.sl 2 (aw.map ab.enc)),.d (.sl 2 (au.map ab.enc)),.d (.sl 2 (ay.map ab.enc)),.d (.int .i64 aR),.d (.int .i64 aQ),.d (.int .i64 aN),.d (.int .i64 aU)],.box [.d (.int .i64 dh),.d (.str cp),.d (.bool cP)],.box az.bH,.ai 1 (aM.map aW) true,.ai 2 (aw.map ab.enc) true,.ai 2 ((kW au (c.take i)).map ab.enc) true,.ai 2 ((eb ay (c.take i)).map ab.enc) true,.box [.d (.int .i64 aO),.d (.int .i64 aS),.d (.int .i64 aT),.d (.int .i64 aP),.sl 3 0 aM.length,.sl 4 0 aw.length,.sl 5 0 (kW au (c.take i)).length,.sl 6 0 (eb ay (c.take i)).length,.d (.int .i64 aR),.d (.int .i64 aQ),.d (.int .i64 aN),.d (.int .i64 aU)],.ai 2 (c.map ab.enc) true]⟩)
    (fun i=>c.length-i) (fun i=>i≤c.length) 0 [0,1,2,3,4,5,6,7,9] (by omega) ?_ ?_
   ·simp only[go_sem];simp[kW,eb]
   ·intro i hi;have aZ:=(Iz (c.take i) au F9.2.1).2.1;have hA:=o0 (c.take i) ay;have cn:(c.take i).length=i:=by simp;omega
    by_cases h1:i<c.length
    ·have ar:decide ((i:Int)<(c.length:Int))=true:=bc (by omega);have av:=bZ ab.enc c i h1;have ml:=dv (i:=i) (m:=524288) (by omega) (by simp[maxLen]);have pc:=WJ au c i h1;have jN:=zF ay c i h1;generalize Jg:kW au (c.take i)=jB at *;generalize Dm:eb ay (c.take i)=agL at *;have Jo:=OH jB c[i].low c[i].high (by omega)
     try simp only[go_sem,ar]
     repeat'(first|((first|refine ae.intro (by assumption) ?_|refine ao.intro (by first|assumption|(apply uz<;>first|assumption|omega)) ?_|refine ba O6 (by kernel_rfl) (by rfl) ?_)<;>simp only[go_sem,lM,aF,av,ab.enc])|(with_reducible refine al ?_)|fail)
     refine bm.intro (i+1) [0,1,2,3,4,9,10,7,8] (by omega) (by omega) ?_;simp only[go_sem,ml,pc,jN];simp
    ·have ar:decide ((i:Int)<(c.length:Int))=false:=a_ (by omega);obtain rfl:i=c.length:=by omega
     rw[dB]at aZ hA
     try simp only[go_sem,ar,dB]
     repeat'(first|((first|refine ae.intro (by first|assumption|apply Bn) ?_|refine ao.intro (by first|assumption|apply yk|(apply Wa<;>first|assumption|omega)) ?_|refine bb ?_|refine ba O4 (by kernel_rfl) (by rfl) ?_|refine bp (fun h=>?_) (fun h=>?_))<;>simp only[go_sem,lM])|(with_reducible refine al ?_)|fail)
     all_goals(simp only[cf]at h;rw[aX];simp only[oR,Ff,mF,h,if_true,Bool.false_eq_true,if_false];try rfl;try simp[outOA])
def AZ(s:az)(p:b2):az:=if p.data=[]then s else {s with flight:=kW s.flight (kf s.flight [eU p]),pending:=eb s.pending (kf s.flight [eU p])}
def yc(s:az)(p:b2):az:=if zH s p then oR (mF 1 (AZ s p) p)else s
set_option maxHeartbeats 8000000 in
theorem af6(aO aS aT aP:Int)(aM:List Int)(aw au ay:List ab)(aR aQ aN aU dh:Int)(cp:List UInt8)(cP:Bool)(hc:aw.length+au.length+ay.length≤262144)(hr:aM.length≤8388608)(_hd:cp.length≤1048576):PureCall Tryz.prog 291 [.agg [.int .i64 aO,.int .i64 aS,.int .i64 aT,.int .i64 aP,.sl 1 (aM.map aW),.sl 2 (aw.map ab.enc),.sl 2 (au.map ab.enc),.sl 2 (ay.map ab.enc),.int .i64 aR,.int .i64 aQ,.int .i64 aN,.int .i64 aU],.agg [.int .i64 dh,.str cp,.bool cP]] [.agg (az.enc (yc (⟨aO,⟨aS,aT,aP,aM⟩,aw,au,ay,aR,aQ,aN,aU⟩:az) (⟨dh,cp,cP⟩:b2)))]:=by
 refine aL 68 Tryz.func291 Tryz.call291 [.cell 4 58] ?_;intro _;have ah:=WK (⟨aO,⟨aS,aT,aP,aM⟩,aw,au,ay,aR,aQ,aN,aU⟩:az) (⟨dh,cp,cP⟩:b2)
 cases bw:zH (⟨aO,⟨aS,aT,aP,aM⟩,aw,au,ay,aR,aQ,aN,aU⟩:az) (⟨dh,cp,cP⟩:b2)with
 |false=>
  rw[bw]at ah
  try simp only[go_sem]
  repeat'((first|refine ae.intro (by first|(apply pf<;>first|assumption|omega)|(apply kY<;>first|assumption|omega)) ?_|refine ao.intro (by apply Da) ?_|refine bb ?_)<;>simp only[go_sem,lM])
  rw[ah];simp only[go_sem,Bool.not_false,lM];simp[yc,bw]
 |true=>
  have hw:=bw;simp only[zH,cX,il,and_assoc]at hw;have F9:=WL hw.1;simp only at F9;rw[bw]at ah;have aX:yc (⟨aO,⟨aS,aT,aP,aM⟩,aw,au,ay,aR,aQ,aN,aU⟩:az) (⟨dh,cp,cP⟩:b2)=oR (mF 1 (AZ (⟨aO,⟨aS,aT,aP,aM⟩,aw,au,ay,aR,aQ,aN,aU⟩:az) (⟨dh,cp,cP⟩:b2)) (⟨dh,cp,cP⟩:b2)):=by unfold yc;rw[bw];rfl
  have F8:=OJ au [eU (⟨dh,cp,cP⟩:b2)] (by omega) (by simp);have agK:=NO au (eU (⟨dh,cp,cP⟩:b2))
  try simp only[go_sem]
  repeat'((first|refine ae.intro (by first|assumption|(apply pf<;>first|assumption|omega)|(apply kY<;>first|assumption|omega)) ?_|refine ao.intro (by first|assumption|apply Da) ?_|refine bb ?_)<;>simp only[go_sem,lM])
  rw[ah];simp only[go_sem,Bool.not_true];by_cases na:cp=[]
  ·have aY:decide (cp≠[])=false:=a_ (fun h=>h na);have bz:AZ (⟨aO,⟨aS,aT,aP,aM⟩,aw,au,ay,aR,aQ,aN,aU⟩:az) (⟨dh,cp,cP⟩:b2)=(⟨aO,⟨aS,aT,aP,aM⟩,aw,au,ay,aR,aQ,aN,aU⟩:az):=by unfold AZ;exact if_pos na
   rw[bz]at aX;clear ah bw hw
   try simp only[go_sem,aY]
   repeat'(first|((first|refine ae.intro (by first|assumption|apply Bn) ?_|refine ao.intro (by assumption) ?_|refine bb ?_|refine bp (fun h=>?_) (fun h=>?_))<;>simp only[go_sem,lM])|(with_reducible refine al ?_)|fail)
   all_goals(simp only[cf]at h;rw[aX];simp only[oR,mF,h,if_true,Bool.false_eq_true,if_false];try rfl;try simp[outOA])
  ·have aY:decide (cp≠[])=true:=bc na;clear ah bw hw
   try simp only[go_sem,aY]
   repeat'((first|refine ae.intro (by assumption) ?_|refine ao.intro (by first|assumption|apply F7) ?_|refine ba O5 (by kernel_rfl) (by rfl) ?_)<;>simp only[go_sem,lM])
   have bz:AZ (⟨aO,⟨aS,aT,aP,aM⟩,aw,au,ay,aR,aQ,aN,aU⟩:az) (⟨dh,cp,cP⟩:b2)={(⟨aO,⟨aS,aT,aP,aM⟩,aw,au,ay,aR,aQ,aN,aU⟩:az)with flight:=kW au (kf au [eU (⟨dh,cp,cP⟩:b2)]),pending:=eb aw (kf au [eU (⟨dh,cp,cP⟩:b2)])}:=by unfold AZ;exact if_neg na
   rw[bz]at aX;generalize hcc:kf au [eU (⟨dh,cp,cP⟩:b2)]=c at *;refine b5.intro (fun i:Nat=>⟨(.J::.J::.ptr 0 0 0::.ptr 1 0 0::.ptr 2 0 0::.ptr 7 0 0::.sl 8 0 c.length::.d (.int .i64 i)::jn 60 []),[.box [.d (.int .i64 aO),.d (.int .i64 aS),.d (.int .i64 aT),.d (.int .i64 aP),.d (.sl 1 (aM.map aW)),.d (.sl 2 (aw.map ab.enc)),.d (.sl 2 (au.map ab.enc)),.d (.sl 2 (ay.map ab.enc)),.d (.int .i64 aR),.d (.int .i64 aQ),.d (.int .i64 aN),.d (.int .i64 aU)],.box [.d (.int .i64 dh),.d (.str cp),.d (.bool cP)],.box az.bH,.ai 1 (aM.map aW) true,.ai 2 ((eb aw (c.take i)).map ab.enc) true,.ai 2 ((kW au (c.take i)).map ab.enc) true,.ai 2 (ay.map ab.enc) true,.box [.d (.int .i64 aO),.d (.int .i64 aS),.d (.int .i64 aT),.d (.int .i64 aP),.sl 3 0 aM.length,.sl 4 0 (eb aw (c.take i)).length,.sl 5 0 (kW au (c.take i)).length,.sl 6 0 ay.length,.d (.int .i64 aR),.d (.int .i64 aQ),.d (.int .i64 aN),.d (.int .i64 aU)],.ai 2 (c.map ab.enc) true]⟩)
    (fun i=>c.length-i) (fun i=>i≤c.length) 0 [0,1,2,3,4,5,6,7,9] (by omega) ?_ ?_
   ·simp only[go_sem];simp[kW,eb]
   ·intro i hi;have aZ:=(Iz (c.take i) au F9.2.1).2.1;have hA:=o0 (c.take i) aw;have cn:(c.take i).length=i:=by simp;omega
    by_cases h1:i<c.length
    ·have ar:decide ((i:Int)<(c.length:Int))=true:=bc (by omega);have av:=bZ ab.enc c i h1;have ml:=dv (i:=i) (m:=524288) (by omega) (by simp[maxLen]);have pc:=WJ au c i h1;have jN:=zF aw c i h1;generalize Jg:kW au (c.take i)=jB at *;generalize Dm:eb aw (c.take i)=agL at *;have Jo:=OH jB c[i].low c[i].high (by omega)
     try simp only[go_sem,ar]
     repeat'(first|((first|refine ae.intro (by assumption) ?_|refine ao.intro (by first|assumption|(apply uz<;>first|assumption|omega)) ?_|refine ba O6 (by kernel_rfl) (by rfl) ?_)<;>simp only[go_sem,lM,aF,av,ab.enc])|(with_reducible refine al ?_)|fail)
     refine bm.intro (i+1) [0,1,2,3,10,9,6,7,8] (by omega) (by omega) ?_;simp only[go_sem,ml,pc,jN];simp
    ·have ar:decide ((i:Int)<(c.length:Int))=false:=a_ (by omega);obtain rfl:i=c.length:=by omega
     rw[dB]at aZ hA
     try simp only[go_sem,ar,dB]
     repeat'(first|((first|refine ae.intro (by first|assumption|apply Bn) ?_|refine ao.intro (by assumption) ?_|refine bb ?_|refine bp (fun h=>?_) (fun h=>?_))<;>simp only[go_sem,lM])|(with_reducible refine al ?_)|fail)
     all_goals(simp only[cf]at h;rw[aX];simp only[oR,mF,h,if_true,Bool.false_eq_true,if_false];try rfl;try simp[outOA])
set_option maxRecDepth 100000
def aE(c:I)(id:Int):aa:=(strOf c.streams id).1
def gR(c:I)(id:Int):Bool:=fM c&&(strOf c.streams id).2&&(aE c id).ee
theorem Gr(c:I)(id:Int):(bif bif !fM c then true else !(strOf c.streams id).2 then true else !(aE c id).ee)=!gR c id:=by
 unfold gR
 cases fM c<;>cases(strOf c.streams id).2<;>cases(aE c id).ee<;>rfl
def fb(s:aa)(x:az):aa:={s with send:=x}
def eH(c:I)(id:Int)(d:List UInt8):I:=if gR c id then {c with streams:=putS c.streams (fb (aE c id) (kz (aE c id).send d))}else c
def oy(c:I)(id:Int)(d:List UInt8):Int:=if gR c id then o8 (aE c id).send d else 0
set_option maxHeartbeats 8000000 in
theorem KL(c:I)(id:Int)(d:List UInt8)(hz:e0 c)(hd:d.length≤1048576)(hw:dT (fb (aE c id) (kz (aE c id).send d))):PureCall Tryz.prog 14 [.agg (I.enc c),.one (.int .i64 id),.one (.str d)] [.one (.int .i64 (oy c id d)),.agg (I.enc ((eH c id d)))]:=by
 refine aL 50 Tryz.func14 Tryz.call14 [.tmp 6,.cell 7 37] ?_;intro ok;clear ok;have jk:=iQ hz;have hC:eH c id d=if gR c id then {c with streams:=putS c.streams (fb (aE c id) (kz (aE c id).send d))}else c:=rfl
 have bo:oy c id d=if gR c id then o8 (aE c id).send d else 0:=rfl
 have bw:=Gr c id;obtain⟨cU,c9,cq,dd⟩:=mR hz.2.1 id;have b1:=mm c id hz;rw[show(strOf c.streams id).1=aE c id from rfl]at cU c9 cq dd b1;have gp:=k4 c.streams (fb (aE c id) (kz (aE c id).send d)) (by have:=hz.1;omega) hz.2.1 hw;generalize aE c id=s at *
 try simp only[go_sem]
 repeat'((first|refine ae.af (by first|assumption|(apply gg<;>first|assumption|omega)|(apply tD<;>first|assumption|omega)) ?_|refine ao.af (by assumption) ?_|refine bb ?_)<;>simp only[go_sem,lM])
 rw[bw]
 cases hg:gR c id with
 |false=>
  rw[hg]at hC bo
  try simp only[go_sem,Bool.not_false]
  repeat'(first|((first|refine ae.af (by assumption) ?_|refine ao.af (by assumption) ?_|refine ba [[.post,.cA,.post],[.cA,.post,.post],[.pre,.pre,.post]] (by kernel_rfl) (by rfl) ?_)<;>simp only[go_sem,lM])|(with_reducible refine al ?_)|fail)
  all_goals simp[hC,bo]
 |true=>
  rw[hg]at hC bo
  try simp only[go_sem,lM,Bool.not_true]
  repeat'(first|((first|refine ae.af (by first|assumption|(apply Yd<;>first|assumption|omega)) ?_|refine ao.af (by assumption) ?_|refine ba [[.post,.cA,.post,.post],[.cA,.post,.cA,.post],[.pre,.cA,.post,.post],[.pre,.pre,.pre,.post]] (by kernel_rfl) (by rfl) ?_)<;>simp only[go_sem,lM,fb])|(with_reducible refine al ?_)|fail)
  all_goals simp[hC,bo,fb]
def mo(c:I)(s:aa):Bool:=!s.counted&&!lB c.cr s.id&&xn s
def tM(c:I)(s:aa):aa:=if mo c s then {s with counted:=true}else s
def xo(c:I)(s:aa):I:=if mo c s then(if k7 s.id then {c with dI:=i_ c.dI}else {c with dH:=i_ c.dH})else c
def dR(c:I)(s:aa):I:={xo c s with streams:=putS c.streams (tM c s)}
theorem P6(c:I)(s:aa):(bif bif s.counted then true else lB c.cr s.id then true else !xn s)=!mo c s:=by
 unfold mo
 cases s.counted<;>cases lB c.cr s.id<;>cases xn s<;>rfl
theorem DB{c:I}{s:aa}(h:mo c s=false):dR c s={c with streams:=putS c.streams s}:=by unfold dR xo tM;rw[h];rfl
theorem KF{c:I}{s:aa}(h:mo c s=true)(hu:k7 s.id=true):dR c s={c with dI:=i_ c.dI,streams:=putS c.streams {s with counted:=true}}:=by unfold dR xo tM;rw[h,hu];rfl
theorem KG{c:I}{s:aa}(h:mo c s=true)(hu:k7 s.id=false):dR c s={c with dH:=i_ c.dH,streams:=putS c.streams {s with counted:=true}}:=by unfold dR xo tM;rw[h,hu];rfl
set_option maxRecDepth 100000
def P3:List (List bt):=ct 22 [31381059608,31381059606,31381059600,31381059582,31381059528,31380272046,31380271560,31380270102,31380265728,31381049646,31381010280,31380892182,31380537888,31379465286,31376276640,31366710702,31338012888,31251919446,30993639120,30218798142,27894275208,20920706406]
def GB:List (List bt):=ct 10 [57956,58804,58798,58780,58726,58927,58321,56862,52488,39366]
attribute [go_sem] P3 GB
def e3(s:aa)(k:Int):aa:={s with send:=o9 s.send k,ix:=true}
def o_(c:I)(id k:Int):Bool:=gR c id&&lX (aE c id).send k
def jM(c:I)(id k:Int):I:=if o_ c id k then dR c (e3 (aE c id) k)else c
set_option maxHeartbeats 8000000 in
theorem P4(c:I)(id k:Int)(hz:e0 c)(hw:dT (e3 (aE c id) k)):PureCall Tryz.prog 22 [.agg (I.enc c),.one (.int .i64 id),.one (.int .i64 k)] [.agg (I.enc ((jM c id k))),.one (.bool (o_ c id k))]:=by
 refine aL 50 Tryz.func22 Tryz.call22 [.cell 6 37,.tmp 7] ?_;intro ok;clear ok;have jk:=iQ hz;have j7:c.streams.length≤1000:=by have:=hz.1;omega
 have kA:=hz.2.1;have hC:jM c id k=if o_ c id k then dR c (e3 (aE c id) k)else c:=rfl
 have bo:o_ c id k=(gR c id&&lX (aE c id).send k):=rfl;have bw:=Gr c id;obtain⟨cU,c9,cq,dd⟩:=mR hz.2.1 id;have b1:=mm c id hz;rw[show(strOf c.streams id).1=aE c id from rfl]at cU c9 cq dd b1;generalize aE c id=s at *
 try simp only[go_sem]
 repeat'((first|refine ae.af (by first|assumption|(apply gg<;>first|assumption|omega)|(apply tD<;>first|assumption|omega)) ?_|refine ao.af (by assumption) ?_|refine bb ?_)<;>simp only[go_sem,lM])
 rw[bw]
 cases hg:gR c id with
 |false=>
  rw[hg,Bool.false_and]at bo;rw[bo]at hC
  try simp only[go_sem,lM,Bool.not_false]
  repeat'(first|((first|refine ae.af (by assumption) ?_|refine ao.af (by assumption) ?_)<;>simp only[go_sem,lM,Bool.not_false])|(with_reducible refine al ?_)|fail)
  all_goals simp[hC,bo]
 |true=>
  rw[hg,Bool.true_and]at bo
  try simp only[go_sem,lM,Bool.not_true]
  repeat'((first|refine ae.af (by first|assumption|(apply P5<;>first|assumption|omega)) ?_|refine ao.af (by assumption) ?_)<;>simp only[go_sem,lM])
  cases hr:lX s.send k with
  |false=>
   rw[hr]at bo;rw[bo]at hC
   try simp only[go_sem,lM,Bool.not_false]
   repeat'(first|((first|refine ae.af (by assumption) ?_|refine ao.af (by assumption) ?_)<;>simp only[go_sem,lM,Bool.not_false])|(with_reducible refine al ?_)|fail)
   all_goals simp[hC,bo]
  |true=>
   rw[hr]at bo;rw[bo]at hC
   try simp only[go_sem,lM,Bool.not_true]
   repeat'((first|refine ae.af (by assumption) ?_|refine ao.af (by assumption) ?_)<;>simp only[go_sem,lM,Bool.not_true])
   have BC:=P6 c (e3 s k);obtain⟨B,hv⟩:∃B,mo c (e3 s k)=B:=⟨_,rfl⟩;rw[hv]at BC;simp only[e3]at BC;have pb:=hw;obtain⟨eI,gj,lY,KD⟩:=hw;have lY:∀eO∈((e3 s k)).recv.buffer.bu,eO.data.length≤1048576:=fun eO hc=>by have:=lY eO hc;omega
   simp only[e3]at eI gj lY KD;have Yb:=k4 (c).streams ((e3 s k)) j7 kA pb;have Yc:=k4 (c).streams {(e3 s k)with counted:=true} j7 kA pb;refine ae.iR [6,7,8] (by simp only[keepT,List.elem_cons,List.elem_nil,Nat.reduceBEq,Nat.reduceAdd,cond_true,cond_false];rfl) (en (n:=15) (rs:=[]) Tryz.func71 rfl Tryz.call71 hZ rfl rfl ?_);simp only[go_sem];refine ae.iR [0,3] (by simp only[keepT,List.elem_cons,List.elem_nil,Nat.reduceBEq,Nat.reduceAdd,cond_true,cond_false];rfl) (en (n:=62) (rs:=[]) Tryz.func135 rfl Tryz.call135 hZ rfl rfl ?_);simp only[go_sem]
   try simp only[go_sem,lM,e3]
   repeat'((first|refine ae.intro (by assumption) ?_|refine ao.intro (by first|assumption|apply BD|(apply P7<;>first|assumption|omega)) ?_|refine eJ ?_|refine ba P3 (by kernel_rfl) (by rfl) ?_)<;>simp only[go_sem,lM])
   rw[BC]
   cases B with
   |false=>
    have ah:=DB hv;simp only[go_sem,Bool.not_false]
    try simp only[go_sem,lM,e3]
    repeat'(first|((first|refine ae.af (by assumption) ?_|refine ao.af (by assumption) ?_|refine ba GB (by kernel_rfl) (by rfl) ?_)<;>simp only[go_sem,lM,e3])|(with_reducible refine al ?_)|fail)
    rw[ah]at hC;simp[hC,bo,e3]
   |true=>
    try simp only[go_sem,Bool.not_true]
    repeat'((first|refine ae.intro (by first|assumption|apply yG) ?_|refine ao.intro (by assumption) ?_)<;>simp only[go_sem])
    cases gT:k7 ((e3 s k)).id with
    |true=>
     have ah:=KF hv gT;simp only[e3]at gT
     try simp only[go_sem,gT]
     repeat'((first|refine ae.intro (by first|assumption|apply GC) ?_|refine ao.intro (by assumption) ?_)<;>simp only[go_sem])
     try simp only[go_sem,lM,e3]
     repeat'(first|((first|refine ae.af (by assumption) ?_|refine ao.af (by assumption) ?_|refine ba GB (by kernel_rfl) (by rfl) ?_)<;>simp only[go_sem,lM,e3])|(with_reducible refine al ?_)|fail)
     rw[ah]at hC;simp[hC,bo,e3]
    |false=>
     have ah:=KG hv gT;simp only[e3]at gT
     try simp only[go_sem,gT]
     repeat'((first|refine ae.intro (by first|assumption|apply GC) ?_|refine ao.intro (by assumption) ?_)<;>simp only[go_sem])
     try simp only[go_sem,lM,e3]
     repeat'(first|((first|refine ae.af (by assumption) ?_|refine ao.af (by assumption) ?_|refine ba GB (by kernel_rfl) (by rfl) ?_)<;>simp only[go_sem,lM,e3])|(with_reducible refine al ?_)|fail)
     rw[ah]at hC;simp[hC,bo,e3]
set_option maxRecDepth 100000
def od(n:Int):Int:=if n<0∨4611686018427387903<n then 0 else if n<64 then 1 else if n<16384 then 2 else if n<1073741824 then 4 else 8
theorem VM(n:Int):PureCall Tryz.prog 335 [.one (.int .i64 n)] [.one (.int .i64 (od n))]:=by
 refine aL 19 Tryz.func335 Tryz.call335 [.tmp 2] ?_;intro _
 try simp only[go_sem]
 repeat'((first|refine bb ?_|refine bp (fun h=>?_) (fun h=>?_))<;>simp only[go_sem])
 all_goals(simp only[il,kk,c3,Bool.or_eq_true,Bool.or_eq_false_iff]at *;first|(exfalso;omega)|(simp[od, *];try omega))
theorem VN(n:Int):PureCall Tryz.prog 341 [.one (.int .i64 n)] [.one (.str [ux (bitI .and .i64 n 255)])]:=by
 refine aL 6 Tryz.func341 Tryz.call341 [.tmp 2] ?_;intro _;simp only[go_sem];refine ae.intro (VO _ (DK n)) ?_;simp only[go_sem]
def C5(n:Int)(k i:Nat):Int:=
 let b:=bitI .and .i64 (n.fdiv (2^min (8 * i) 64)) 255
 if i+1=k then(if k=2 then bitI .or .i64 b 64 else if k=4 then bitI .or .i64 b 128 else if k=8 then bitI .or .i64 b 192 else b)else b
def w4(n:Int)(k j:Nat):List UInt8:=(List.range j).map fun x=>ux (bitI .and .i64 (C5 n k (k-1-x)) 255)
def uC(n:Int):List UInt8:=w4 n (od n).toNat (od n).toNat
theorem afS(n:Int)(k j:Nat):w4 n k (j+1)=w4 n k j++[ux (bitI .and .i64 (C5 n k (k-1-j)) 255)]:=by simp[w4,List.range_succ]
theorem Ou(n:Int):od n=0∨od n=1∨od n=2∨od n=4∨od n=8:=by
 unfold od
 repeat' split
 all_goals simp
theorem VP(n:Int):((uC n).length:Int)=od n:=by rcases Ou n with h|h|h|h|h<;>simp[uC,w4,h]
theorem Ov(n:Int):(uC n).length≤8:=by have:=VP n;rcases Ou n with h|h|h|h|h<;>omega
set_option maxHeartbeats 2000000 in
theorem afT(n:Int):PureCall Tryz.prog 336 [.one (.int .i64 n)] [.one (.str (uC n))]:=by
 refine aL 42 Tryz.func336 Tryz.call336 [.tmp 2] ?_;intro _;obtain⟨k,hk⟩:∃k:Nat,od n=(k:Int):=⟨(uC n).length,(VP n).symm⟩;have hc:k=0∨k=1∨k=2∨k=4∨k=8:=by have:=Ou n;omega
 have ah:uC n=w4 n k k:=by simp[uC,hk]
 have Bc:IntKind.i64.wrap ((k:Int)-1)=(k:Int)-1:=by rw[bC]<;>omega
 rw[ah]
 try simp only[go_sem]
 repeat'(refine ae.intro (by apply VM) ?_<;>simp only[go_sem,hk,Bc])
 refine b5.intro (fun j:Nat=>⟨(.d (.int .i64 n)::.J::.J::.d (.int .i64 (k:Int))::.d (.str (w4 n k j))::.d (.int .i64 ((k:Int)-1-(j:Int)))::jn 36 []),[]⟩)
   (fun j=>k-j) (fun j=>j≤k) 0 [] (by omega) ?_ ?_
 ·simp only[go_sem];simp[w4]
 ·intro j ak;by_cases h1:j<k
  ·have ar:decide (0≤(k:Int)-1-(j:Int))=true:=bc (by omega);have ag:IntKind.i64.wrap (8 * ((k:Int)-1-(j:Int)))=8 * ((k:Int)-1-(j:Int)):=by rw[bC]<;>omega
   have e2:IntKind.i64.wrap ((k:Int)-1-(j:Int)-1)=(k:Int)-1-((j+1:Nat):Int):=by rw[bC]<;>omega
   have aY:(8 * ((k:Int)-1-(j:Int))).toNat=8 * (k-1-j):=by omega
   have M':shI .shr .i64 n (8 * ((k:Int)-1-(j:Int)))=some ((0:Int)≤8 * ((k:Int)-1-(j:Int)),.d (.int .i64 (n.fdiv (2^min (8 * (k-1-j)) 64)))):=by simp only[shI];rw[aY];rfl
   have hs:=afS n k j;have LM:(w4 n k j).length=j:=by simp[w4]
   simp only[go_sem,ar,ag,M'];refine⟨by omega,?_⟩;simp only[go_sem,Bc];by_cases afU:j=0
   ·subst afU;have aD:decide ((k:Int)-1-((0:Nat):Int)=(k:Int)-1)=true:=bc (by omega);have l1:k-1+1=k:=by omega
    have hq:C5 n k (k-1-0)=(if k=2 then bitI .or .i64 (bitI .and .i64 (n.fdiv (2^min (8 * (k-1-0)) 64)) 255) 64 else if k=4 then bitI .or .i64 (bitI .and .i64 (n.fdiv (2^min (8 * (k-1-0)) 64)) 255) 128 else if k=8 then bitI .or .i64 (bitI .and .i64 (n.fdiv (2^min (8 * (k-1-0)) 64)) 255) 192 else bitI .and .i64 (n.fdiv (2^min (8 * (k-1-0)) 64)) 255):=by
     unfold C5;rw[if_pos (show k-1-0+1=k by omega)]
    rw[hq]at hs
    try simp only[go_sem,aD]
    repeat'(first|((first|refine ae.intro (by apply VN) ?_|refine bp (fun h=>?_) (fun h=>?_))<;>simp only[go_sem,e2])|(with_reducible refine al ?_)|fail)
    all_goals(simp only[il,kk]at *;refine bm.intro 1 [] (by omega) (by omega) ?_;simp only[go_sem,hs];first|rw[if_pos (show k=2 by omega)]|rw[if_neg (show ¬k=2 by omega),if_pos (show k=4 by omega)]|rw[if_neg (show ¬k=2 by omega),if_neg (show ¬k=4 by omega),if_pos (show k=8 by omega)]|rw[if_neg (show ¬k=2 by omega),if_neg (show ¬k=4 by omega),if_neg (show ¬k=8 by omega)])
    all_goals simp
   ·have aD:decide ((k:Int)-1-(j:Int)=(k:Int)-1)=false:=a_ (by omega);have hq:C5 n k (k-1-j)=bitI .and .i64 (n.fdiv (2^min (8 * (k-1-j)) 64)) 255:=by
     unfold C5;rw[if_neg (show ¬k-1-j+1=k by omega)]
    rw[hq]at hs
    try simp only[go_sem,aD]
    repeat'(first|(refine ae.intro (by apply VN) ?_<;>simp only[go_sem,e2])|(with_reducible refine al ?_)|fail)
    all_goals(refine bm.intro (j+1) [] (by omega) (by omega) ?_;simp only[go_sem,hs])
    all_goals simp
  ·have ar:decide (0≤(k:Int)-1-(j:Int))=false:=a_ (by omega);obtain rfl:j=k:=by omega
   try simp only[go_sem,ar]
   all_goals simp
def t_(l:List Int):List UInt8:=if l.any (fun n=>decide (od n=0))then []else l.flatMap uC
theorem Rt{α β:Type}(f:α→List β)(l:List α)(i:Nat)(h:i<l.length):(l.take (i+1)).flatMap f=(l.take i).flatMap f++f l[i]:=by
 rw[List.take_add_one,dg h,List.flatMap_append];simp
theorem Hh{α β:Type}(f:α→List β)(b:Nat):∀(l:List α),(∀x∈l,(f x).length≤b)→(l.flatMap f).length≤b * l.length
 |[],_=>by simp
 |x::l,h=>by
  have h1:=Hh f b l (fun y hy=>h y (List.mem_cons_of_mem _ hy));have h2:=h x (by simp);rw[List.flatMap_cons,List.length_append,oW,Nat.mul_add];omega
theorem B5(l:List Int):(t_ l).length≤8 * l.length:=by
 unfold t_;split
 ·simp
 ·exact Hh uC 8 l fun n _=>Ov n
theorem Ru{α:Type}(p:α→Bool)(xs:List α)(i:Nat)(h:i<xs.length)(h2:p xs[i]=true):xs.any p=true:=List.any_eq_true.2 ⟨_,List.getElem_mem h,h2⟩
theorem Rv{α:Type}(p:α→Bool)(xs:List α)(i:Nat)(h:i<xs.length)(h1:(xs.take i).any p=false)(h2:p xs[i]=false):(xs.take (i+1)).any p=false:=by
 rw[List.take_add_one,dg h,List.any_append,h1];simp[h2]
set_option maxHeartbeats 1000000 in
theorem xF(l:List Int)(hl:l.length≤100000):PureCall Tryz.prog 313 [.one (.sl 1 (l.map aW))] [.one (.str (t_ l))]:=by
 refine aL 25 Tryz.func313 Tryz.call313 [.tmp 2] ?_;intro ok;have hm:=fj ok;clear ok;simp only[go_sem];refine b5.intro (fun i:Nat=>⟨(.d (.sl 1 (l.map aW))::.J::.J::.d (.str ((l.take i).flatMap uC))::.d (.int .i64 i)::jn 20 []),[]⟩)
   (fun i=>l.length-i) (fun i=>i≤l.length∧(l.take i).any (fun n=>decide (od n=0))=false) 0 [] ⟨by omega,by simp⟩ ?_ ?_
 ·simp only[go_sem];simp
 ·rintro i ⟨hi,he⟩;by_cases h1:i<l.length
  ·have ar:decide ((i:Int)<(l.length:Int))=true:=bc (by omega);have av:=bZ aW l i h1;have hw:=dv h1 hm;have hs:=Rt uC l i h1;have hb:=Hh uC 8 (l.take i) fun n _=>Ov n;have cn:(l.take i).length=i:=by simp;omega
   rw[cn]at hb;have j3:=Ov l[i]
   try simp only[go_sem,lM,aF,av,aW,ar]
   repeat'(first|((first|refine ae.intro (by first|apply VM|apply afT) ?_|refine bp (fun h=>?_) (fun h=>?_))<;>simp only[go_sem,lM,aF,av,aW])|(with_reducible refine al ?_)|fail)
   ·have:=Ru (fun n=>decide (od n=0)) l i h1 h;simp[t_,this]
   ·refine bm.intro (i+1) [] ⟨by omega,Rv _ l i h1 he h⟩ (by omega) ?_;simp only[go_sem,hw,hs];try simp
  ·have ar:decide ((i:Int)<(l.length:Int))=false:=a_ (by omega);obtain rfl:i=l.length:=by omega
   rw[dB]at *
   try simp only[go_sem,lM,ar]
   all_goals simp[t_,he]
set_option maxRecDepth 100000
def Rp:List (List bt):=ct 12 [504833,504844,504838,505183,505129,504967,504468,503010,528160,515038,472392,354294]
def Rq:List (List bt):=ct 15 [13630481,13630479,13630513,13630495,13630801,13630639,13639954,13638496,13634122,13620636,13581270,14260333,13906039,12754584,9565938]
attribute [go_sem] Rp Rq
def Hg(f:aq):List UInt8:=
 if f.kind=4 then t_ [4,f.stream,f.code,f.bj]
 else if f.kind=5 then t_ [5,f.stream,f.code]
 else if f.kind=8 then
  (if f.offset=0 then t_ [if f.bd then 11 else 10,f.stream,(f.data.length:Int)]++f.data else t_ [if f.bd then 15 else 14,f.stream,f.offset,(f.data.length:Int)]++f.data)
 else if f.kind=16∨f.kind=20 then t_ [f.kind,f.a8]
 else if f.kind=17∨f.kind=21 then t_ [f.kind,f.stream,f.a8]
 else t_ [if f.fy then IntKind.i64.wrap (f.kind+1)else f.kind,f.a8]
def gX(f:aq):List UInt8:=if e_ f then Hg f else []
theorem Z0{f:aq}(h:e_ f=true):f.data.length≤400:=by
 simp only[e_,Aq,cX,Bool.not_eq_true',kk]at h;omega
theorem LK(f:aq):(gX f).length≤500:=by
 unfold gX;split
 ·rename_i h;have hd:=Z0 h;unfold Hg
  repeat' split
  all_goals(try rw[List.length_append])
  all_goals(first|exact Nat.le_trans (B5 _) (by simp)|exact Nat.le_trans (Nat.add_le_add (B5 _) (Nat.le_refl _)) (by simp;omega))
 ·simp
set_option maxHeartbeats 4000000 in
theorem Rr(dV dW eT:Int)(er:List UInt8)(e5:Bool)(ff eY fq:Int)(gf:Bool)(hd:er.length≤1048576):PureCall Tryz.prog 273 [.agg [.int .i64 dV,.int .i64 dW,.int .i64 eT,.str er,.bool e5,.int .i64 ff,.int .i64 eY,.int .i64 fq,.bool gf]] [.one (.str (gX (⟨dV,dW,eT,er,e5,ff,eY,fq,gf⟩:aq)))]:=by
 refine aL 93 Tryz.func273 Tryz.call273 [.tmp 2] ?_;intro _
 cases aZ:e_ (⟨dV,dW,eT,er,e5,ff,eY,fq,gf⟩:aq)with
 |false=>
  try simp only[go_sem]
  repeat'(refine ae.intro (by apply z') ?_<;>simp only[go_sem,aZ])
  all_goals simp[gX,aZ]
 |true=>
  have ah:gX (⟨dV,dW,eT,er,e5,ff,eY,fq,gf⟩:aq)=Hg (⟨dV,dW,eT,er,e5,ff,eY,fq,gf⟩:aq):=by unfold gX;rw[aZ];rfl
  rw[ah];have fR:=B5 [10,dW,(er.length:Int)];have gw:=B5 [11,dW,(er.length:Int)];have t':=B5 [14,dW,eT,(er.length:Int)];have D5:=B5 [15,dW,eT,(er.length:Int)];simp only[oW,List.length_nil]at fR gw t' D5;have cH:=xF [4,dW,ff,fq] (by simp);have bg:=xF [5,dW,ff] (by simp);have bT:=xF [10,dW,(er.length:Int)] (by simp);have bY:=xF [11,dW,(er.length:Int)] (by simp);have eV:=xF [14,dW,eT,(er.length:Int)] (by simp);have mS:=xF [15,dW,eT,(er.length:Int)] (by simp);have kP:=xF [dV,eY] (by simp);have tL:=xF [dV,dW,eY] (by simp);have Rs:=xF [IntKind.i64.wrap (dV+1),eY] (by simp);simp only[List.map_cons,List.map_nil,aW]at cH bg bT bY eV mS kP tL Rs;have eI:IntKind.i64.wrap (10+1)=11:=by decide
  have gj:IntKind.i64.wrap (10+4)=14:=by decide
  have lY:IntKind.i64.wrap (11+4)=15:=by decide
  try simp only[go_sem]
  repeat'(first|((first|refine ae.intro (by first|assumption|apply z') ?_|refine ao.intro (by assumption) ?_|refine ba Rp (by kernel_rfl) (by rfl) ?_|refine ba Rq (by kernel_rfl) (by rfl) ?_|refine bp (fun h=>?_) (fun h=>?_))<;>simp only[go_sem,aZ,eI,gj,lY])|(with_reducible refine al ?_)|fail)
  all_goals(clear ah aZ cH bg bT bY eV mS kP tL Rs fR gw t' D5 eI gj lY;simp only[il,kk]at *;first|(exfalso;omega)|(simp[Hg, *];done))
set_option maxHeartbeats 1000000 in
theorem LF(dV dW eT:Int)(er:List UInt8)(e5:Bool)(ff eY fq:Int)(gf:Bool)(hd:er.length≤1048576):PureCall Tryz.prog 235 [.agg [.int .i64 dV,.int .i64 dW,.int .i64 eT,.str er,.bool e5,.int .i64 ff,.int .i64 eY,.int .i64 fq,.bool gf]] [.one (.int .i64 (((gX (⟨dV,dW,eT,er,e5,ff,eY,fq,gf⟩:aq)).length:Int)))]:=by
 refine aL 6 Tryz.func235 Tryz.call235 [.tmp 2] ?_;intro _;have:=LK (⟨dV,dW,eT,er,e5,ff,eY,fq,gf⟩:aq)
 try simp only[go_sem]
 repeat'(refine ae.intro (by(apply Rr<;>first|assumption|omega)) ?_<;>simp only[go_sem])
 all_goals simp
def yU(l:List aq):List UInt8:=if l.any (fun f=>decide (gX f=[]))then []else if 400<(l.flatMap gX).length then []else l.flatMap gX
set_option maxHeartbeats 2000000 in
theorem Zz(l:List aq)(hl:l.length≤10000)(hd:∀f∈l,f.data.length≤1048576):PureCall Tryz.prog 238 [.one (.sl 9 (l.map aq.enc))] [.one (.str (yU l))]:=by
 refine aL 26 Tryz.func238 Tryz.call238 [.tmp 2] ?_;intro ok;have hm:=fj ok;clear ok;simp only[go_sem];refine b5.intro (fun i:Nat=>⟨(.d (.sl 9 (l.map aq.enc))::.J::.J::.d (.str ((l.take i).flatMap gX))::.d (.int .i64 i)::jn 21 []),[]⟩)
   (fun i=>l.length-i) (fun i=>i≤l.length∧(l.take i).any (fun f=>decide (gX f=[]))=false) 0 [] ⟨by omega,by simp⟩ ?_ ?_
 ·simp only[go_sem];simp
 ·rintro i ⟨hi,he⟩;have hb:=Hh gX 500 (l.take i) fun n _=>LK n;have cn:(l.take i).length=i:=by simp;omega
  rw[cn]at hb;by_cases h1:i<l.length
  ·have ar:decide ((i:Int)<(l.length:Int))=true:=bc (by omega);have av:=bZ aq.enc l i h1;have hw:=dv h1 hm;have hs:=Rt gX l i h1;have j3:=LK l[i];have aZ:=Rr l[i].kind l[i].stream l[i].offset l[i].data l[i].bd l[i].code l[i].a8 l[i].bj l[i].fy (hd _ (List.getElem_mem h1));change PureCall _ _ _ [.one (.str (gX l[i]))]at aZ
   try simp only[go_sem,lM,aF,av,aq.enc,ar]
   repeat'(first|((first|refine ae.intro (by assumption) ?_|refine ao.intro (by assumption) ?_|refine bp (fun h=>?_) (fun h=>?_))<;>simp only[go_sem])|(with_reducible refine al ?_)|fail)
   ·have:=Ru (fun f=>decide (gX f=[])) l i h1 h;simp[yU,this]
   ·refine bm.intro (i+1) [] ⟨by omega,Rv _ l i h1 he h⟩ (by omega) ?_;simp only[go_sem,hw,hs];try simp
  ·have ar:decide ((i:Int)<(l.length:Int))=false:=a_ (by omega);obtain rfl:i=l.length:=by omega
   rw[dB]at *
   try simp only[go_sem,lM,ar]
   repeat'(refine bp (fun h=>?_) (fun h=>?_)<;>simp only[go_sem])
   ·have h0:=ch h;have:yU l=[]:=by unfold yU;rw[he];exact(if_neg (by simp)).trans (if_pos (by omega))
    simp[this]
   ·have h0:=cD h;have:yU l=l.flatMap gX:=by unfold yU;rw[he];exact(if_neg (by simp)).trans (if_neg (by omega))
    simp[this]
set_option maxRecDepth 100000
def OP:List (List bt):=ct 34 [16677181699666565,16677181699666567,16677181699666560,16677181699666542,16677181699666488,16677181699666326,16677181699665840,16677181699664382,16677181699640325,16677181699653447,16677181699607520,16677181699489422,16677181699135128,16677181698072246,16677181694883600,16677181685317662,16677181656619848,16677181570526406,16677181312246080,16677180537405102,16368754698691713,16368761672260515,16368737264769708,16368674502650490,16368486216292836,16666588848656331,16675909023360204,16670825291703546,16654726808124129,16608973223214207,16471712468484441,16059508303382622,14824161510814728,11118121133111046]
def Js:List (List bt):=ct 19 [1162251662,1162251664,1162251657,1162251639,1162261183,1162261345,1162260778,1162259320,1162254946,1162241784,1162202418,1161552879,1161907173,1160667144,1157478498,1147912560,1119214746,1033121304,774840978]
def OQ:List (List bt):=ct 10 [49244,49246,49239,49221,58765,58927,58360,56902,52528,39366]
attribute [go_sem] OP Js OQ
theorem C4{α β:Type}(f:β→α→β)(b:β)(l:List α)(i:Nat)(h:i<l.length):(l.take (i+1)).foldl f b=f ((l.take i).foldl f b) l[i]:=by
 rw[List.take_add_one,dg h,List.foldl_append];rfl
def xc(l:List db)(i:Nat):Bool:=yI (fun c=>c.id) (fun c=>bJ c.id&&lR c.priority) l i
def Bk(l:List db):Bool:=ks (xc l) l.length
theorem agl(l:List db)(h:0<l.length):xc l 0=(bJ l[0].id&&lR l[0].priority):=yp _ _ _ h
theorem agm(l:List db)(j:Nat)(h:j+1<l.length):xc l (j+1)=(bJ l[j+1].id&&lR l[j+1].priority&&decide (l[j].id<l[j+1].id)):=xi _ _ _ _ h
set_option maxHeartbeats 1000000 in
theorem Wx(l:List db):PureCall Tryz.prog 337 [.one (.sl 3 (l.map db.enc))] [.one (.bool (Bk l))]:=by
 refine aL 44 Tryz.func337 Tryz.call337 [.tmp 2] ?_;intro ok;have hm:=fj ok;clear ok;simp only[go_sem];refine b5.intro (fun i:Nat=>⟨(.d (.sl 3 (l.map db.enc))::.J::.J::.d (.int .i64 i)::jn 40 []),[]⟩)
  (fun i=>l.length-i) (fun i=>i≤l.length∧ks (xc l) i=true) 0 [] ⟨by omega,by simp[ks]⟩ ?_ ?_
 ·simp only[go_sem];simp
 ·rintro i ⟨hi,he⟩;by_cases h1:i<l.length
  ·have ar:decide ((i:Int)<(l.length:Int))=true:=bc (by omega);have av:=bZ db.enc l i h1;have hw:=dv h1 hm;have hs:=Dk (xc l) i;have hf:=fun h=>Gg (xc l) (n:=l.length) h1 h
   cases i with
   |zero=>
    have hb:=agl l h1;have h2:decide ((0:Int)<((0:Nat):Int))=false:=by decide
    try simp only[go_sem,lM,ar]
    repeat'(first|((first|refine ao.intro (by first|apply hJ|apply Ft) ?_|with_reducible refine kt ?_|refine eJ ?_|refine ba OP (by kernel_rfl) (by rfl) ?_|refine bp (fun h=>?_) (fun h=>?_))<;>simp only[go_sem,lM,aF,av,db.enc,h2])|(with_reducible refine al ?_)|fail)
    ·have e:xc l 0=false:=by rw[hb];revert h;cases bJ l[0].id<;>cases lR l[0].priority<;>simp
     simp[Bk,hf e]
    ·have e:xc l 0=true:=by rw[hb];revert h;cases bJ l[0].id<;>cases lR l[0].priority<;>simp
     refine bm.intro 1 [] ⟨by omega,by rw[hs,he,e];rfl⟩ (by omega) ?_;simp only[go_sem,hw];try simp
   |succ j=>
    have hb:=agm l j h1;have gi:=bZ db.enc l j (by omega);have h2:decide ((0:Int)<((j+1:Nat):Int))=true:=bc (by omega);have hp:IntKind.i64.wrap (((j+1:Nat):Int)-1)=(j:Int):=by simp only[maxLen]at hm;rw[bC]<;>omega
    try simp only[go_sem,lM,ar]
    repeat'(first|((first|refine ao.intro (by first|apply hJ|apply Ft) ?_|refine eJ ?_|refine ba OP (by kernel_rfl) (by rfl) ?_|refine bp (fun h=>?_) (fun h=>?_))<;>simp only[go_sem,lM,aF,av,gi,db.enc,h2,hp])|(with_reducible refine al ?_)|fail)
    ·have e:xc l (j+1)=false:=by rw[hb];revert h;cases bJ l[j+1].id<;>cases lR l[j+1].priority<;>simp
     simp[Bk,hf e]
    ·have e:xc l (j+1)=true:=by rw[hb];revert h;cases bJ l[j+1].id<;>cases lR l[j+1].priority<;>simp
     refine bm.intro (j+1+1) [] ⟨by omega,by rw[hs,he,e];rfl⟩ (by omega) ?_;simp only[go_sem,hw];try simp
  ·have ar:decide ((i:Int)<(l.length:Int))=false:=a_ (by omega);obtain rfl:i=l.length:=by omega
   simp only[go_sem,lM,ar];simp[Bk,he]
def aftL(l:List Int)(fk:Int):Int:=match l.find? (fun x=>decide (fk<x))with|some x=>x|none=>(match l with|[]=>-1|x::_=>x)
set_option maxHeartbeats 1000000 in
theorem agn(l:List Int)(fk:Int):PureCall Tryz.prog 315 [.one (.sl 1 (l.map aW)),.one (.int .i64 fk)] [.one (.int .i64 (aftL l fk))]:=by
 refine aL 28 Tryz.func315 Tryz.call315 [.tmp 4] ?_;intro ok;have hm:=fj ok;clear ok;simp only[go_sem];refine b5.intro (fun i:Nat=>⟨(.d (.sl 1 (l.map aW))::.d (.int .i64 fk)::jn 3 (.d (.int .i64 i)::jn 22 [])),[]⟩)
  (fun i=>l.length-i) (fun i=>i≤l.length∧(l.take i).any (fun x=>decide (fk<x))=false) 0 [] ⟨by omega,by simp⟩ ?_ ?_
 ·simp only[go_sem];simp
 ·rintro i ⟨hi,he⟩;by_cases h1:i<l.length
  ·have ar:decide ((i:Int)<(l.length:Int))=true:=bc (by omega);have av:=bZ aW l i h1;have hw:=dv h1 hm
   try simp only[go_sem,lM,aF,av,aW,ar]
   repeat'(first|(refine bp (fun h=>?_) (fun h=>?_)<;>simp only[go_sem,lM,aF,av,aW])|(with_reducible refine al ?_)|fail)
   ·have:=Gc (fun x=>decide (fk<x)) l i h1 he h;simp[aftL,this]
   ·refine bm.intro (i+1) [] ⟨by omega,zL _ l i h1 he h⟩ (by omega) ?_;simp only[go_sem,hw];try simp
  ·have ar:decide ((i:Int)<(l.length:Int))=false:=a_ (by omega);obtain rfl:i=l.length:=by omega
   rw[dB]at he;have hn:=JR _ l he
   cases l with
   |nil=>
    try simp only[go_sem]
    repeat'(refine bp (fun h=>?_) (fun h=>?_)<;>simp only[go_sem])
    all_goals first|(exfalso;simp at h;done)|simp[aftL]
   |cons x r=>
    have h2:decide (((r.length+1:Nat):Int)=0)=false:=a_ (by omega)
    try simp only[go_sem,lM,oW,List.map_cons,aW]
    repeat'(first|(refine bp (fun h=>?_) (fun h=>?_)<;>simp only[go_sem,lM,oW,List.map_cons,h2])|(with_reducible refine al ?_)|fail)
    all_goals first|(exfalso;simp at h;done)|(simp[aftL,hn])
def uF(s:Int×List Int)(c:db):Int×List Int:=
 if c.priority.fB<s.1 then(c.priority.fB,[c.id])else if c.priority.fB=s.1 then(s.1,s.2++[c.id])else s
def uG(l:List db):Int×List Int:=l.foldl uF (8,[])
def wY(l:List db):List Int:=if Bk l then(uG l).2 else []
theorem OR:∀(l:List db) (s:Int×List Int),(l.foldl uF s).2.length≤s.2.length+l.length
 |[],s=>by simp
 |c::l,s=>by
  have:=OR l (uF s c);rw[List.foldl_cons,oW];have:(uF s c).2.length≤s.2.length+1:=by
   unfold uF;split
   ·simp
   ·split<;>simp
  omega
set_option maxHeartbeats 2000000 in
theorem ago(l:List db)(hl:l.length≤1048576):PureCall Tryz.prog 314 [.one (.sl 3 (l.map db.enc))] [.one (.sl 1 ((wY l).map aW))]:=by
 refine aL 49 Tryz.func314 Tryz.call314 [.tmp 2] ?_;intro ok;have hm:=fj ok;clear ok;have ah:wY l=if Bk l then(uG l).2 else []:=rfl
 simp only[go_sem]
 cases hA:Bk l with
 |false=>
  rw[hA]at ah;refine b5.intro (fun i:Nat=>⟨(.d (.sl 3 (l.map db.enc))::.J::.J::.sl 0 0 0::.d (.int .i64 8)::.d (.int .i64 i)::jn 43 []),[.ai 1 [] true]⟩)
   (fun i=>0) (fun i=>i=0) 0 [0] rfl ?_ ?_
  ·simp only[go_sem];simp
  ·rintro i rfl
   try simp only[go_sem,lM]
   repeat'(first|((first|refine ao.intro (by apply Wx) ?_|refine bb ?_)<;>simp only[go_sem,hA,Bool.cond_self])|(with_reducible refine al ?_)|fail)
   all_goals simp[ah]
 |true=>
  rw[hA]at ah;refine b5.intro (fun i:Nat=>⟨(.d (.sl 3 (l.map db.enc))::.J::.J::.sl 0 0 (uG (l.take i)).2.length::.d (.int .i64 (uG (l.take i)).1)::.d (.int .i64 i)::jn 43 []),[.ai 1 ((uG (l.take i)).2.map aW) true]⟩)
   (fun i=>l.length-i) (fun i=>i≤l.length) 0 [0] (by omega) ?_ ?_
  ·simp only[go_sem];simp[uG]
  ·intro i hi;by_cases h1:i<l.length
   ·have ar:decide ((i:Int)<(l.length:Int))=true:=bc (by omega);have av:=bZ db.enc l i h1;have hw:=dv h1 hm;have hs:uG (l.take (i+1))=uF (uG (l.take i)) l[i]:=C4 _ _ _ _ h1;have lU:(uG (l.take i)).2.length≤i:=by
     have:=OR (l.take i) (8,[]);have cn:(l.take i).length=i:=by simp;omega
     simp only[List.length_nil]at this;unfold uG;omega
    generalize uG (l.take i)=q at *;obtain⟨FO,out⟩:=q;simp only at lU
    try simp only[go_sem,lM,ar]
    repeat'(first|((first|refine ae.intro (by apply Wx) ?_|with_reducible refine b9 ?_|refine bp (fun h=>?_) (fun h=>?_))<;>simp only[go_sem,lM,aF,av,db.enc,hA])|(with_reducible refine al ?_)|fail)
    ·have h0:=ch h;have hs':uF (FO,out) l[i]=(l[i].priority.fB,[l[i].id]):=by unfold uF;exact if_pos h0
     refine bm.intro (i+1) [3] (by omega) (by omega) ?_;simp only[go_sem,hw,hs,hs'];simp[aW]
    ·rename_i aj;have h0:=cD aj;have aD:=ch h;have hs':uF (FO,out) l[i]=(FO,out++[l[i].id]):=by unfold uF;exact(if_neg h0).trans (if_pos aD)
     refine bm.intro (i+1) [2] (by omega) (by omega) ?_;simp only[go_sem,hw,hs,hs'];simp[aW]
    ·rename_i aj;have h0:=cD aj;have aD:=cD h;have hs':uF (FO,out) l[i]=(FO,out):=by unfold uF;exact(if_neg h0).trans (if_neg aD)
     refine bm.intro (i+1) [0] (by omega) (by omega) ?_;simp only[go_sem,hw,hs,hs'];simp
   ·have ar:decide ((i:Int)<(l.length:Int))=false:=a_ (by omega);obtain rfl:i=l.length:=by omega
    rw[dB]
    try simp only[go_sem,lM,ar]
    repeat'(first|(with_reducible refine de ?_<;>simp only[go_sem,lM])|(with_reducible refine al ?_)|fail)
    all_goals simp[ah]
def l4(l:List db)(id:Int):List db:=l.filter fun c=>decide (c.id≠id)
set_option maxHeartbeats 1000000 in
theorem ZE(l:List db)(id:Int)(hl:l.length≤1048576):PureCall Tryz.prog 277 [.one (.sl 3 (l.map db.enc)),.one (.int .i64 id)] [.one (.sl 3 ((l4 l id).map db.enc))]:=by
 refine aL 29 Tryz.func277 Tryz.call277 [.tmp 4] ?_;intro ok;have hm:=fj ok;clear ok;simp only[go_sem];refine b5.intro (fun i:Nat=>⟨(.d (.sl 3 (l.map db.enc))::.d (.int .i64 id)::jn 3 (.sl 0 0 (l4 (l.take i) id).length::.d (.int .i64 i)::jn 22 [])),[.ai 3 ((l4 (l.take i) id).map db.enc) true]⟩)
  (fun i=>l.length-i) (fun i=>i≤l.length) 0 [0] (by omega) ?_ ?_
 ·simp only[go_sem];simp[l4]
 ·intro i hi;by_cases h1:i<l.length
  ·have ar:decide ((i:Int)<(l.length:Int))=true:=bc (by omega);have av:=bZ db.enc l i h1;have hw:=dv h1 hm;have hs:l4 (l.take (i+1)) id=l4 (l.take i) id++(if decide (l[i].id≠id)then [l[i]]else []):=by
    unfold l4;rw[List.take_add_one,dg h1,List.filter_append];simp[List.filter_cons]
   have lU:(l4 (l.take i) id).length≤i:=Nat.le_trans (List.length_filter_le _ _) (by simp;omega);generalize l4 (l.take i) id=q at *
   try simp only[go_sem,lM,aF,av,db.enc,ar]
   repeat'(first|(refine bp (fun h=>?_) (fun h=>?_)<;>simp only[go_sem,lM,aF,av,db.enc])|(with_reducible refine al ?_)|fail)
   ·rw[h,if_pos rfl]at hs;refine bm.intro (i+1) [2] (by omega) (by omega) ?_;simp only[go_sem,hw,hs];simp[db.enc]
   ·rw[h,if_neg (by simp)]at hs;refine bm.intro (i+1) [0] (by omega) (by omega) ?_;simp only[go_sem,hw,hs];simp
  ·have ar:decide ((i:Int)<(l.length:Int))=false:=a_ (by omega);obtain rfl:i=l.length:=by omega
   rw[dB]
   try simp only[go_sem,lM,ar]
   all_goals simp
def xd(m:List Int)(c:db):Bool:=!c.priority.eW&&m.any (fun x=>decide (x=c.id))
def oU(m:List Int)(l:List db):List Int:=l.flatMap fun c=>m.filter (fun x=>decide (x=c.id))
theorem agp(m:List Int)(c:db):xd m c=true↔c.priority.eW=false∧∃x∈m,x=c.id:=by simp[xd]
theorem Wy(m:List Int):∀l:List db,(oU m l).length≤m.length * l.length
 |[]=>by simp[oU]
 |c::l=>by
  have h1:=Wy m l;have h2:=List.length_filter_le (fun x=>decide (x=c.id)) m;unfold oU at h1⊢;rw[List.flatMap_cons,List.length_append,oW,Nat.mul_add];omega
def nextS(l:List db)(fk:Int):Int:=match l.find? (xd (wY l))with|some c=>c.id|none=>aftL (oU (wY l) l) fk
theorem agq(l:List db):(wY l).length≤l.length:=by
 unfold wY;split
 ·have:=OR l (8,[]);simpa [uG]using this
 ·simp
set_option maxHeartbeats 4000000 in
theorem ZG(l:List db)(fk:Int)(hl:l.length≤1000):PureCall Tryz.prog 278 [.one (.sl 3 (l.map db.enc)),.one (.int .i64 fk)] [.one (.int .i64 (nextS l fk))]:=by
 refine aL 69 Tryz.func278 Tryz.call278 [.tmp 4] ?_;intro ok;have hm:=fj ok;clear ok;have ah:nextS l fk=match l.find? (xd (wY l))with|some c=>c.id|none=>aftL (oU (wY l) l) fk:=rfl
 have TB:=agq l;simp only[go_sem];refine ae.intro (ago l (by omega)) ?_;generalize wY l=m at *;simp only[go_sem,lM];refine b5.intro (fun i:Nat=>⟨(.d (.sl 3 (l.map db.enc))::.d (.int .i64 fk)::jn 3 (.sl 0 0 m.length::.sl 1 0 (oU m (l.take i)).length::.d (.int .i64 i)::jn 61 [])),[.ai 1 (m.map aW) true,.ai 1 ((oU m (l.take i)).map aW) true]⟩)
  (fun i=>l.length-i) (fun i=>i≤l.length∧(l.take i).any (xd m)=false) 0 [0,1] ⟨by omega,by simp⟩ ?_ ?_
 ·simp only[go_sem];simp[oU]
 ·rintro i ⟨hi,he⟩;have cn:(l.take i).length=i:=by simp;omega
  have vN:=Wy m (l.take i);have aox:m.length * (l.take i).length≤1000 * 1000:=Nat.mul_le_mul (by omega) (by omega);by_cases h1:i<l.length
  ·have ar:decide ((i:Int)<(l.length:Int))=true:=bc (by omega);have av:=bZ db.enc l i h1;have hw:=dv h1 hm;have hs:oU m (l.take (i+1))=oU m (l.take i)++m.filter (fun x=>decide (x=l[i].id)):=by
    unfold oU;rw[List.take_add_one,dg h1,List.flatMap_append];simp
   generalize oU m (l.take i)=OS at *;simp only[go_sem,lM,ar];refine b5.intro (fun k:Nat=>⟨(.d (.sl 3 (l.map db.enc))::.d (.int .i64 fk)::jn 3 (.sl 0 0 m.length::.sl 1 0 (OS++(m.take k).filter (fun x=>decide (x=l[i].id))).length::.d (.int .i64 i)::.d (.int .i64 k)::jn 60 [])),[.ai 1 (m.map aW) true,.ai 1 ((OS++(m.take k).filter (fun x=>decide (x=l[i].id))).map aW) true]⟩)
    (fun k=>m.length-k) (fun k=>k≤m.length∧(l[i].priority.eW=false→(m.take k).any (fun x=>decide (x=l[i].id))=false)) 0 [0,1] ⟨by omega,by simp⟩ ?_ ?_
   ·simp only[go_sem];simp
   ·rintro k ⟨hk,CN⟩;have hG:=List.length_filter_le (fun x=>decide (x=l[i].id)) (m.take k);have aoy:(m.take k).length=k:=by simp;omega
    by_cases h2:k<m.length
    ·have gW:decide ((k:Int)<(m.length:Int))=true:=bc (by omega);have u6:=bZ aW m k h2;have xl:IntKind.i64.wrap ((k:Int)+1)=((k+1:Nat):Int):=by rw[bC]<;>omega
     have ek:(m.take (k+1)).filter (fun x=>decide (x=l[i].id))=(m.take k).filter (fun x=>decide (x=l[i].id))++(if decide (m[k]=l[i].id)then [m[k]]else []):=by
      rw[List.take_add_one,dg h2,List.filter_append];simp[List.filter_cons]
     generalize vK:(m.take k).filter (fun x=>decide (x=l[i].id))=agr at *;have hlen:(OS++agr).length≤1002000:=by rw[List.length_append];omega
     cases hd:decide (m[k]=l[i].id)with
     |true=>
      rw[hd,if_pos rfl]at ek;have hx:=ch hd
      cases yl:l[i].priority.eW with
      |false=>
       have hh:xd m l[i]=true:=(agp _ _).2 ⟨yl,_,List.getElem_mem h2,hx⟩;have hf:=Gc (xd m) l i h1 he hh
       try simp only[go_sem,gW]
       repeat'(first|((first|with_reducible refine kN ?_|refine ba Js (by kernel_rfl) (by rfl) ?_)<;>simp only[go_sem,lM,aF,av,u6,db.enc,aW,hd,yl])|(with_reducible refine al ?_)|fail)
       all_goals simp[ah,hf]
      |true=>
       try simp only[go_sem,gW]
       repeat'(first|((first|with_reducible refine kN ?_|refine ba Js (by kernel_rfl) (by rfl) ?_|refine ba OQ (by kernel_rfl) (by rfl) ?_)<;>simp only[go_sem,lM,aF,av,u6,db.enc,aW,hd,yl])|(with_reducible refine al ?_)|fail)
       all_goals first|omega|(refine bm.intro (k+1) [0,3] (by first|omega|exact⟨by omega,fun h=>by rw[yl]at h;cases h⟩) (by omega) ?_;simp only[go_sem,xl,ek];simp[aW,hx];try omega)
     |false=>
      rw[hd,if_neg (by simp)]at ek
      try simp only[go_sem,gW]
      repeat'(first|((first|with_reducible refine kt ?_|refine ba Js (by kernel_rfl) (by rfl) ?_|refine ba OQ (by kernel_rfl) (by rfl) ?_)<;>simp only[go_sem,lM,aF,av,u6,db.enc,aW,hd,Bool.cond_self])|(with_reducible refine al ?_)|fail)
      all_goals(refine bm.intro (k+1) [0,1] ⟨by omega,fun h=>zL _ m k h2 (CN h) hd⟩ (by omega) ?_;simp only[go_sem,xl,ek];simp)
    ·have gW:decide ((k:Int)<(m.length:Int))=false:=a_ (by omega);obtain rfl:k=m.length:=by omega
     rw[dB]at *;simp only[go_sem,lM,gW,hw];have hh:xd m l[i]=false:=by
      cases yl:l[i].priority.eW with
      |true=>simp[xd,yl]
      |false=>simp only[xd,CN yl];simp
     refine bm.intro (i+1) [0,1] ⟨by omega,zL _ l i h1 he hh⟩ (by omega) ?_;simp only[go_sem,hs];simp
  ·have ar:decide ((i:Int)<(l.length:Int))=false:=a_ (by omega);obtain rfl:i=l.length:=by omega
   rw[dB]at *;have hf:=JR _ l he;rw[hf]at ah
   try simp only[go_sem,lM,ar]
   repeat'(refine ae.intro (by apply agn) ?_<;>simp only[go_sem])
   all_goals simp[ah]
def me(E:Int)(xs:List ab):Prop:=cy xs=true∧∀x∈xs,x.high≤E
theorem yb(E:Int):me E []:=⟨by simp[cy],by simp⟩
theorem zq{E F:Int}{xs:List ab}(h:E≤F)(hx:me E xs):me F xs:=⟨hx.1,fun x hm=>by have:=hx.2 x hm;omega⟩
theorem Iy{E:Int}{xs:List ab}{r:ab}(hx:me E xs)(hr:cT r=true)(hh:r.high≤E):me E (fh xs r):=by
 refine⟨NM hx.1 hr,?_⟩;refine NF (fun x=>x.high≤E) xs r hh hx.2 ?_;intro a b ha hb _ _;simp only[dL]at *;split<;>omega
theorem adK{E:Int}{xs:List ab}{r:ab}(hx:me E xs):me E (nY xs r):=by
 obtain⟨h1,_,aj⟩:=Us (r:=r) hx.1;refine⟨h1,fun y hy=>?_⟩;obtain⟨x,hm,aD⟩:=aj y hy;have:=hx.2 x hm;omega
theorem Ut{E:Int}{jB c:List ab}(hx:me E jB):me E (kW jB c):=by
 obtain⟨h1,_,aj⟩:=Iz c jB hx.1;refine⟨h1,fun y hy=>?_⟩;obtain⟨x,hm,aD⟩:=aj y hy;have:=hx.2 x hm;omega
theorem NN{E:Int}:∀(ys xs:List ab),me E xs→(∀y∈ys,cT y=true∧y.high≤E)→me E (eb xs ys)
 |[],xs,h,_=>h
 |y::ys,xs,h,hy=>NN ys (fh xs y) (Iy h (hy y (by simp)).1 (hy y (by simp)).2) fun z hz=>hy z (by simp[hz])
theorem Uu{E:Int}{xs:List ab}{r:ab}(hx:me E xs):∀y∈kf xs [r],cT y=true∧y.high≤E:=by
 intro y hy;obtain⟨h1,x,hm,h2⟩:=(NO xs r).2 y hy;have:=hx.2 x hm;exact⟨h1,by omega⟩
theorem Uv:∀(xs:List ab) (b0 E:Int),(∀x∈xs,cT x=true∧b0≤x.low∧x.high≤E)→xs.Pairwise (fun a b=>a.high<b.low)→b0≤E→(xs.length:Int)≤E-b0
 |[],b0,E,_,_,h=>by simp;omega
 |x::xs,b0,E,hx,hp,h=>by
  obtain⟨h1,h2,aj⟩:=hx x (by simp);have aD:=(gM _).1 h1;rw[List.pairwise_cons]at hp;have:=Uv xs x.high E (fun y hy=>⟨(hx y (by simp[hy])).1,by have:=hp.1 y hy;omega,(hx y (by simp[hy])).2.2⟩) hp.2 aj;rw[oW];omega
theorem NP{E:Int}{xs:List ab}(h:me E xs)(ah:0≤E):(xs.length:Int)≤E:=by
 have h1:=(kJ xs).1 h.1;have:=Uv xs 0 E (fun x hx=>⟨h1.1 x hx,((gM _).1 (h1.1 x hx)).1,h.2 x hx⟩) h1.2 ah;omega
structure gn(E:Int)(s:az):Prop where
 p:me s.ring.b' s.pending
 f:me s.ring.b' s.flight
 a:me s.ring.b' s.bK
 dE:0≤s.ring.b'
 ag:s.ring.b'≤E
 c:s.ring.cells.length≤64
theorem gn.mono{E F:Int}{s:az}(h:gn E s)(ah:E≤F):gn F s:=⟨h.p,h.f,h.a,h.dE,by have:=h.ag;omega,h.c⟩
theorem gn.CO{E:Int}{s:az}(h:gn E s):jm s:=by
 intro r hr;rcases hr with hr|hr|hr
 ·exact h.p.2 r hr
 ·exact h.f.2 r hr
 ·exact h.a.2 r hr
theorem gn.size{E:Int}{s:az}(h:gn E s):((s.pending.length+s.flight.length+s.bK.length:Nat):Int)≤3 * E:=by
 have h1:=NP h.p h.dE;have h2:=NP h.f h.dE;have aj:=NP h.a h.dE;have:=h.ag;omega
theorem Uw{E:Int}(ah:0≤E)(v w c:Int):gn E ⟨0,⟨0,0,0,[]⟩,[],[],[],v,w,c,0⟩:=⟨yb _,yb _,yb _,by simp,ah,by simp⟩
theorem adL{E:Int}(ah:0≤E)(n:Int):gn E (mV n):=by
 unfold mV;split
 ·rename_i h;have:=yH h;refine⟨yb _,yb _,yb _,?_,?_,?_⟩
  ·simp[lC,h]
  ·simp only[lC,h,if_true];exact ah
  ·simp only[lC,h,if_true,List.length_replicate];omega
 ·exact Uw ah _ _ _
theorem IA{s:az}(h:eA s=true):jC s.ring=true∧0≤s.sent∧s.sent≤s.ring.b':=by
 simp only[eA,kg,bN,cX,and_assoc,il]at h;exact⟨h.1,h.2.2.2.2.1,h.2.2.2.2.2.1⟩
theorem NQ{E:Int}{s:az}{d:List UInt8}(h:gn E s)(hd:d.length≤8):gn (E+8) (kz s d):=by
 unfold kz;split
 ·rename_i hw;have NR:jC s.ring=true:=by
   simp only[jK,cX]at hw;exact(IA hw.1.1).1
  have hi:=nZ NR;have hr:=IB s.ring;have hn:fL s.ring d=(cG (hE s.ring) d.length).toNat:=rfl;have o5:(fL s.ring d:Int)≤8:=by rw[hn];unfold cG;split<;>omega
  have h0:=h.dE;have h1:=h.ag;have he:(kh s.ring d).b'=s.ring.b'+(fL s.ring d:Int):=by
   simp only[kh];by_cases hp:0<fL s.ring d
   ·have zj:0<hE s.ring:=by rw[hn]at hp;unfold cG at hp;split at hp<;>omega
    obtain⟨aK,a7,b8⟩:=hr.2 zj;have hle:(fL s.ring d:Int)≤hE s.ring:=by rw[hn];unfold cG;split<;>omega
    rw[bC]<;>omega
   ·rw[bC]<;>omega
  have hq:0<fL s.ring d→(kh s.ring d).b'≤4611686018427387903:=fun hp=>by
   have zj:0<hE s.ring:=by rw[hn]at hp;unfold cG at hp;split at hp<;>omega
   obtain⟨aK,a7,b8⟩:=hr.2 zj;have hle:(fL s.ring d:Int)≤hE s.ring:=by rw[hn];unfold cG;split<;>omega
   omega
  have hm:s.ring.b'≤(kh s.ring d).b':=by omega
  refine⟨?_,zq hm h.f,zq hm h.a,by simp only[he];omega,by simp only[he];omega,by simp only[kh,AX];exact h.c⟩;simp only;split
  ·rename_i hp;have:=hq hp;exact Iy (zq hm h.p) ((gM _).2 (by simp only;omega)) (by simp)
  ·exact zq hm h.p
 ·exact h.mono (by omega)
theorem NS{E:Int}{s:az}(h:gn E s):gn E (mQ s):=by
 unfold mQ;split
 ·exact⟨h.p,h.f,h.a,h.dE,h.ag,h.c⟩
 ·exact h
theorem adM{E:Int}{s:az}(h:gn E s)(c:Int):gn E (o9 s c):=by
 unfold o9;split
 ·rename_i hw;simp only[lX,cX]at hw;obtain⟨aK,a7,b8⟩:=IA hw.1.1;have hi:=nZ aK;have h1:=h.ag;exact⟨yb _,yb _,yb _,a7,by simp only;omega,by simp only[List.length_replicate];omega⟩
 ·exact h
theorem adN{E:Int}{s:az}(h:gn E s):gn E (CP s):=by
 unfold CP;split
 ·exact⟨h.p,h.f,h.a,h.dE,h.ag,h.c⟩
 ·exact h
theorem adO{s:az}{p:b2}(h:wW s p=true)(hq:s.ring.b'≤4611686018427387903)(hd:p.data.length≤1048576):0≤(eU p).low∧(eU p).high≤s.ring.b'∧(p.data≠[]→(eU p).low<(eU p).high):=by
 simp only[wW,cX,il,and_assoc]at h;obtain⟨h1,h2,aj,_⟩:=h;rw[bC (by omega) (by omega)]at aj;simp only[eU];rw[bC (by omega) (by omega)];refine⟨h1,by omega,fun hn=>?_⟩;have:=List.length_pos_iff.2 hn;omega
theorem NT{E:Int}{s:az}(h:gn E s):gn E (oR s):=⟨h.p,h.f,h.a,h.dE,h.ag,h.c⟩
theorem adP{E:Int}{s:az}{p:b2}(h:gn E s):gn E (AY s p):=by
 unfold AY;split
 ·exact⟨h.p,h.f,h.a,h.dE,h.ag,h.c⟩
 ·exact h
theorem Ri{E:Int}{s:az}{p:b2}(h:gn E s)(hd:p.data.length≤1048576):gn E (pk s p):=by
 unfold pk;split
 ·rename_i hw;refine NT (adP ?_);unfold zr;split
  ·exact h
  ·rename_i hne;simp only[oD,CQ,cX,and_assoc]at hw;obtain⟨g1,cx,g3,_⟩:=hw;have hi:=nZ (IA g1).1;obtain⟨k1,k2,dC⟩:=adO g3 (by omega) hd;have iK:=dC hne;exact⟨adK h.p,Iy h.f ((gM _).2 (by omega)) k2,h.a,h.dE,h.ag,h.c⟩
 ·exact h
theorem adQ(r:cl)(t:Int):(wX r t).b'=r.b'∧(wX r t).cells.length=r.cells.length:=by
 unfold wX;split
 ·exact⟨rfl,IC _ _ _ _⟩
 ·exact⟨rfl,rfl⟩
theorem Ux{E:Int}{s:az}{p:b2}(f:Int)(h:gn E s):gn E (mF f s p):=by
 unfold mF;split
 ·exact⟨h.p,h.f,h.a,h.dE,h.ag,h.c⟩
 ·exact h
theorem adR(f:Int)(s:az)(p:b2):(mF f s p).ring=s.ring:=by unfold mF;split<;>rfl
theorem adS(s:az)(p:b2):(oS s p).ring=s.ring:=by unfold oS;split<;>rfl
theorem adT{E:Int}{s:az}{p:b2}(h:gn E s):gn E (zt s p):=by
 unfold zt;split
 ·have h1:gn E (mF 3 (oS s p) p):=by
   refine Ux 3 ?_;unfold oS;split
   ·exact h
   ·exact⟨h.p,Ut h.f,NN _ _ h.a (Uu h.f),h.dE,h.ag,h.c⟩
  have hr:(mF 3 (oS s p) p).ring=s.ring:=by rw[adR,adS]
  have hd:=adQ s.ring (uA (mF 3 (oS s p) p).bK 0);have e:(Ff s.ring (mF 3 (oS s p) p)).ring.b'=(mF 3 (oS s p) p).ring.b':=by rw[hr];exact hd.1
  refine NT ⟨?_,?_,?_,?_,?_,?_⟩
  ·rw[e];exact h1.p
  ·rw[e];exact h1.f
  ·rw[e];exact h1.a
  ·rw[e];exact h1.dE
  ·rw[e];exact h1.ag
  ·exact Nat.le_trans (Nat.le_of_eq hd.2) h.c
 ·exact h
theorem adU{E:Int}{s:az}{p:b2}(h:gn E s):gn E (yc s p):=by
 unfold yc;split
 ·refine NT (Ux 1 ?_);unfold AZ;split
  ·exact h
  ·exact⟨NN _ _ h.p (Uu h.f),Ut h.f,h.a,h.dE,h.ag,h.c⟩
 ·exact h
set_option maxRecDepth 100000
def OB:List (List bt):=ct 15 [14348906,14348904,14348898,14348880,13611807,13611645,13611159,13639185,13634811,13621689,13581270,14260293,13905999,12754584,9565938]
attribute [go_sem] OB
def Jn(r:bA)(o:Int)(d:List UInt8):Bool:=jZ r&&decide (0≤o)&&decide (o≤IntKind.i64.wrap (4611686018427387903-(d.length:Int)))
def vr(r:bA)(o:Int)(d:List UInt8)(f:Bool):Int:=if Jn r o d then w6 r (o+d.length) f else 7
def Be(r:bA)(o:Int)(d:List UInt8)(f:Bool):Bool:=Jn r o d&&!(decide (w6 r (o+d.length) f≠0)||decide (1<r.state))
def zw(r:bA)(o:Int)(d:List UInt8):List aB:=mP r.buffer.next r.buffer.bu o d
def zC(r:bA)(o:Int)(d:List UInt8)(f:Bool):Int:=if f then o+d.length else r.bj
def C8(r:bA)(o:Int)(d:List UInt8)(f:Bool):Bool:=decide (zC r o d f≠-1)&&decide (IntKind.i64.wrap (r.buffer.next+(jJ r.buffer.next (zw r o d):Int))=zC r o d f)
def pE(r:bA)(o:Int)(d:List UInt8)(f:Bool):bA:=
 if Be r o d f then⟨if C8 r o d f then 2 else if f then 1 else r.state,⟨r.buffer.next,zw r o d⟩,zC r o d f,dL r.fc (o+d.length),r.code⟩else r
set_option maxHeartbeats 4000000 in
theorem acY(cC cm:Int)(b3:List aB)(cQ cI cM o:Int)(d:List UInt8)(f:Bool)(hb:∀c∈b3,tG c)(hx:b3.length≤1000)(hd:d.length≤8)(ax:0≤o∧o≤900):PureCall Tryz.prog 285 [.agg [.int .i64 cC,.int .i64 cm,.sl 2 (b3.map aB.enc),.int .i64 cQ,.int .i64 cI,.int .i64 cM],.one (.int .i64 o),.one (.str d),.one (.bool f)] [.agg (bA.enc (pE (⟨cC,⟨cm,b3⟩,cQ,cI,cM⟩:bA) o d f)),.one (.int .i64 (vr (⟨cC,⟨cm,b3⟩,cQ,cI,cM⟩:bA) o d f))]:=by
 refine aL 79 Tryz.func285 Tryz.call285 [.cell 8 63,.tmp 9] ?_;intro _;have j3:∀c∈b3,c.data.length≤1048576:=fun c hc=>by have:=hb c hc;simp only[tG]at this;omega
 have hok:=PH (n:=cm) (off:=o) (data:=d) hb ax.1 (by omega);have lU:=PI cm b3 o d;have E6:∀c∈mP cm b3 o d,c.data.length≤1048576:=fun c hc=>by have:=hok c hc;simp only[tG]at this;omega
 have IP:=adJ cm b3 o d j3 (by omega) (fun c hc=>by have:=hb c hc;simp only[tG]at this;omega) hd ax.1 (by omega);have Jo:=Dr cm (mP cm b3 o d) E6 (by omega);have eI:IntKind.i64.wrap (4611686018427387903-(d.length:Int))=4611686018427387903-(d.length:Int):=by rw[bC]<;>omega
 have gj:IntKind.i64.wrap (o+(d.length:Int))=o+(d.length:Int):=by rw[bC]<;>omega
 have ag:decide (o<0)=false:=a_ (by omega);have e2:decide (4611686018427387903-(d.length:Int)<o)=false:=a_ (by omega);have df:Jn (⟨cC,⟨cm,b3⟩,cQ,cI,cM⟩:bA) o d=jZ (⟨cC,⟨cm,b3⟩,cQ,cI,cM⟩:bA):=by
  unfold Jn;rw[eI,bc ax.1,bc (show o≤4611686018427387903-(d.length:Int)by omega)];simp
 cases hI:jZ (⟨cC,⟨cm,b3⟩,cQ,cI,cM⟩:bA)with
 |false=>
  have bw:Be (⟨cC,⟨cm,b3⟩,cQ,cI,cM⟩:bA) o d f=false:=by unfold Be;rw[df,hI];rfl
  have ah:vr (⟨cC,⟨cm,b3⟩,cQ,cI,cM⟩:bA) o d f=7:=by unfold vr;rw[df,hI];rfl
  try simp only[go_sem]
  repeat'(first|((first|refine ae.intro (by first|assumption|(apply yK<;>first|assumption|omega)|(apply w5<;>first|assumption|omega)) ?_|refine ao.intro (by assumption) ?_|with_reducible refine de ?_)<;>simp only[go_sem,lM,hI])|(with_reducible refine al ?_)|fail)
  all_goals(rw[ah];simp[pE,bw])
 |true=>
  have ah:vr (⟨cC,⟨cm,b3⟩,cQ,cI,cM⟩:bA) o d f=w6 (⟨cC,⟨cm,b3⟩,cQ,cI,cM⟩:bA) (o+d.length) f:=by unfold vr;rw[df,hI];rfl
  try simp only[go_sem]
  repeat'((first|refine ae.intro (by first|assumption|(apply yK<;>first|assumption|omega)|(apply w5<;>first|assumption|omega)|(apply VV<;>first|assumption|omega)) ?_|refine ao.intro (by assumption) ?_|with_reducible refine b9 ?_|refine bb ?_)<;>simp only[go_sem,lM,hI,eI,gj,ag,e2])
  refine bp (fun h=>?_) (fun h=>?_)
  ·have bw:Be (⟨cC,⟨cm,b3⟩,cQ,cI,cM⟩:bA) o d f=false:=by unfold Be;simp only[c3]at h;rw[df,hI,h];rfl
   simp only[go_sem,lM];rw[ah];simp[pE,bw]
  ·have bw:Be (⟨cC,⟨cm,b3⟩,cQ,cI,cM⟩:bA) o d f=true:=by unfold Be;simp only[c3]at h;rw[df,hI,h];rfl
   have h0:w6 (⟨cC,⟨cm,b3⟩,cQ,cI,cM⟩:bA) (o+d.length) f=0:=by
    simp only[c3,Bool.or_eq_false_iff,kk]at h;omega
   rw[h0]at ah;have aI:pE (⟨cC,⟨cm,b3⟩,cQ,cI,cM⟩:bA) o d f=⟨if C8 (⟨cC,⟨cm,b3⟩,cQ,cI,cM⟩:bA) o d f then 2 else if f then 1 else cC,⟨cm,zw (⟨cC,⟨cm,b3⟩,cQ,cI,cM⟩:bA) o d⟩,zC (⟨cC,⟨cm,b3⟩,cQ,cI,cM⟩:bA) o d f,dL cI (o+d.length),cM⟩:=by unfold pE;exact if_pos bw
   simp only[go_sem]
   cases f with
   |true=>
    try simp only[go_sem]
    repeat'(first|((first|refine ae.intro (by assumption) ?_|refine ao.intro (by assumption) ?_|refine eJ ?_|refine ba OB (by kernel_rfl) (by rfl) ?_|refine bp (fun h=>?_) (fun h=>?_))<;>simp only[go_sem,lM])|(with_reducible refine al ?_)|fail)
    ·simp only[cf]at h;have hq:C8 (⟨cC,⟨cm,b3⟩,cQ,cI,cM⟩:bA) o d true=true:=h;rw[ah,aI,hq];simp[dL,zC,zw]
    ·simp only[cf]at h;have hq:C8 (⟨cC,⟨cm,b3⟩,cQ,cI,cM⟩:bA) o d true=false:=h;rw[ah,aI,hq];simp[dL,zC,zw]
   |false=>
    try simp only[go_sem]
    repeat'(first|((first|refine ae.intro (by assumption) ?_|refine ao.intro (by assumption) ?_|refine eJ ?_|refine ba OB (by kernel_rfl) (by rfl) ?_|refine bp (fun h=>?_) (fun h=>?_))<;>simp only[go_sem,lM])|(with_reducible refine al ?_)|fail)
    ·simp only[cf]at h;have hq:C8 (⟨cC,⟨cm,b3⟩,cQ,cI,cM⟩:bA) o d false=true:=h;rw[ah,aI,hq];simp[dL,zC,zw]
    ·simp only[cf]at h;have hq:C8 (⟨cC,⟨cm,b3⟩,cQ,cI,cM⟩:bA) o d false=false:=h;rw[ah,aI,hq];simp[dL,zC,zw]
structure fo(m:Nat)(s:aa):Prop where
 snd:gn (8 * m) s.send
 eO:∀c∈s.recv.buffer.bu,tG c
 xD:s.recv.buffer.bu.length≤m
structure b6(m:Nat)(c:I):Prop where
 jb:c.streams.length≤24
 n0:∀s∈c.streams,fo m s
 v':c.packets.length≤m
 lP:∀p∈c.packets,Gf p
theorem fo.mono{m n:Nat}{s:aa}(h:fo m s)(hm:m≤n):fo n s:=⟨h.snd.mono (by omega),h.eO,by have:=h.xD;omega⟩
theorem b6.mono{m n:Nat}{c:I}(h:b6 m c)(hm:m≤n):b6 n c:=⟨h.jb,fun s hs=>(h.n0 s hs).mono hm,by have:=h.v';omega,h.lP⟩
theorem fo.sz{m:Nat}{s:aa}(h:fo m s)(hm:m≤20):dT s:=by
 have h1:=h.snd.size;have h2:=h.snd.c;have aj:=h.xD;refine⟨by omega,by omega,fun c hc=>?_,by omega⟩;have:=h.eO c hc;simp only[tG]at this;omega
theorem b6.sz{m:Nat}{c:I}(h:b6 m c)(hm:m≤20):e0 c:=by
 have h1:=h.jb;have aj:=h.v';exact⟨by omega,fun s hs=>(h.n0 s hs).sz hm,by omega,h.lP⟩
theorem Uy(m:Nat):fo m iG:=⟨Uw (by omega) _ _ _,by simp[iG],by simp[iG]⟩
theorem Uz(m:Nat)(v:Bool)(i:Int)(o p:da):fo m (ft v i o p):=by
 unfold ft;split
 ·exact⟨adL (by omega) _,by simp[uS],by simp[uS]⟩
 ·exact Uy m
theorem adV{m:Nat}{l:List aa}(h:∀s∈l,fo m s)(id:Int):fo m (strOf l id).1:=by
 unfold strOf;split
 ·rename_i s hs;exact h s (List.mem_of_find?_eq_some hs)
 ·exact Uy m
theorem CR{l:List aa}{id:Int}(h:(strOf l id).2=true):(strOf l id).1.id=id∧(strOf l id).1∈l:=by
 unfold strOf at h⊢;split at h
 ·rename_i s hs;have h1:=List.find?_some hs;exact⟨ch h1,List.mem_of_find?_eq_some hs⟩
 ·cases h
theorem adW{l:List aa}{s:aa}(h:(strOf l s.id).2=true):(putS l s).length=l.length:=by
 unfold putS;split
 ·rw[List.length_set]
 ·rename_i hn;obtain⟨h1,h2⟩:=CR h;rw[List.findIdx?_eq_none_iff]at hn;have:=hn _ h2;simp[ed,h1]at this
def la(c:I)(s:aa):I:={c with streams:=putS c.streams s}
theorem UA{m:Nat}{c:I}{s:aa}(h:b6 m c)(hs:fo m s)(hf:(strOf c.streams s.id).2=true):b6 m (la c s):=by
 refine⟨?_,fun x hx=>?_,h.v',h.lP⟩
 ·simp only[la,adW hf];exact h.jb
 ·rcases GI hx with hx|rfl
  ·exact h.n0 x hx
  ·exact hs
theorem UB{v:Bool}{o p:da}{id:Int}:∀(k:Nat) (l:List aa) (x:aa),x∈ensL v o p id k l→x∈l∨∃i,x=ft v i o p
 |0,l,x,h=>Or.inl h
 |k+1,l,x,h=>by
  rcases UB k _ x h with h|h
  ·rcases GI h with h|h
   ·exact Or.inl h
   ·exact Or.inr ⟨_,h⟩
  ·exact Or.inr h
theorem zl{m:Nat}{c:I}(h:b6 m c)(id:Int):b6 m (bV c id):=by
 unfold bV;split
 ·rename_i hg;simp only[cX]at hg;have hn:=GJ hg.2 (by have:=h.jb;omega);have hl:=Qf c.cr c.own c.peer id (j9 c id).toNat c.streams;have hw:(mq c id (iz (j8 c id) (fD id))).packets=c.packets:=by unfold mq;split<;>rfl
  refine⟨by simp only;omega,fun x hx=>?_,by simp only[hw];exact h.v',by simp only[hw];exact h.lP⟩;rcases UB _ _ x hx with hx|⟨i,rfl⟩
  ·exact h.n0 x hx
  ·exact Uz m _ _ _ _
 ·exact h
def tU(c:I):eh×Bool:=if Ai c.dA then(CV c.dA c.gh c.own.iF,A5 c.dA c.gh c.own.iF)else(c.dA,c.xA)
def jR(a:du)(t:Bool):du×Bool:=if IS a then(w2 a,CW a)else(a,t)
def G8(s:aa):Bool:=s.eD&&decide (s.recv.state=0)&&!s.jo
def ph(c:I)(s:aa):eh×Bool:=if G8 s then(if Ai s.bP then(CV s.bP c.gh c.own.iF,A5 s.bP c.gh c.own.iF)else(s.bP,s.k6))else(s.bP,false)
def vZ(k i l:Int):aq:=⟨k,i,0,[],false,0,l,0,false⟩
def jd(k l:Int)(u:Bool):aq:=⟨k,0,0,[],false,0,l,0,u⟩
def yR(k i c z:Int):aq:=⟨k,i,0,[],false,c,0,z,false⟩
def nM(s:aa):List aq:=if s.ix then [yR 4 s.id s.send.code s.send.sent]else []
def tW(s:aa):List aq:=if s.iy&&decide (s.recv.state<2)then [yR 5 s.id s.lW 0]else []
def xx(c:I)(s:aa):List aq:=if(ph c s).2 then [vZ 17 s.id (ph c s).1.a8]else []
def yQ(s:aa):List aq:=if tV s.cV&&s.ee&&decide (0<(s.send.pending.length:Int))then [vZ 21 s.id s.cV.a8]else []
def jS(c:I)(s:aa):List aq:=nM s++tW s++xx c s++yQ s
def ID(c:I):List aq:=(if(tU c).2 then [jd 16 (tU c).1.a8 false]else [])++(if(jR c.dH c.nN).2 then [jd 18 (jR c.dH c.nN).1.a8 false]else [])++(if(jR c.dI c.nO).2 then [jd 18 (jR c.dI c.nO).1.a8 true]else [])
def IE(c:I):List aq:=(if tV c.c8 then [jd 20 c.c8.a8 false]else [])++(if c.eC.blocked=c.eC.a8 then [jd 22 c.eC.a8 false]else [])++(if c.eB.blocked=c.eB.a8 then [jd 22 c.eB.a8 true]else [])
def je(c:I):List aq:=if fM c then ID c++c.streams.flatMap (jS c)++IE c else []
def mw(c:I)(s:aa)(k:Int):aa:=
 if k=4 then {s with ix:=false}else if k=5 then {s with iy:=false}else if k=17 then {s with bP:=if(ph c s).2 then(ph c s).1 else s.bP,k6:=false}else if k=21 then {s with cV:=v8 s.cV}else s
def lb(c:I)(f:aq):I:=
 if eQ c then
  (if f.kind=16 then {c with dA:=(tU c).1,xA:=false}
   else if f.kind=18 then(if f.fy then {c with dI:=(jR c.dI false).1,nO:=false}else {c with dH:=(jR c.dH false).1,nN:=false})
   else if f.kind=20 then {c with c8:=v8 c.c8}
   else if f.kind=22 then(if f.fy then {c with eB:={c.eB with blocked:=-1}}else {c with eC:={c.eC with blocked:=-1}})
   else if(strOf c.streams f.stream).2 then la c (mw c (aE c f.stream) f.kind)else c)
 else c
def nQ(id:Int)(p:b2):aq:=⟨8,id,p.offset,p.data,p.bd,0,0,0,false⟩
def D4(c:I)(s:aa):Int:=cG s.cV.a8 (IntKind.i64.wrap (s.send.sent+B4 c.c8))
def pfGo(s:az)(id kU cO:Int):Nat→b2×Bool
 |0=>(pn,false)
 |n+1=>if nextOk s (n+1:Nat) kU then(if((gX (nQ id (nR s (n+1:Nat) kU))).length:Int)≤cO then(nR s (n+1:Nat) kU,true)else pfGo s id kU cO n)else(pn,false)
def Ao(c:I)(id cO:Int):Bool:=eQ c&&(strOf c.streams id).2&&(aE c id).ee&&!decide (cO<3)
def wa(c:I)(id cO:Int):b2×Bool:=if Ao c id cO then pfGo (aE c id).send id (D4 c (aE c id)) cO (cG cO 60).toNat else(pn,false)
def B1(c:I)(id:Int):Bool:=eQ c&&(strOf c.streams id).2&&(aE c id).ee
def we(s:aa)(p:b2):Int:=IntKind.i64.wrap ((pk s.send p).sent-s.send.sent)
def xE(c:I)(id:Int)(p:b2):Bool:=B1 c id&&(oD (aE c id).send p&&u7 (aE c id).cV (we (aE c id) p)&&u7 c.c8 (we (aE c id) p))
def u5(s:aa)(p:b2):aa:={s with send:=pk s.send p,cV:=wc s.cV (we s p)}
def Ap(c:I)(id:Int)(p:b2):I:=if xE c id p then {c with c8:=wc c.c8 (we (aE c id) p),fk:=id,streams:=putS c.streams (u5 (aE c id) p)}else c
def wants(s:aa):Bool:=s.ee&&decide (s.send.state<3)&&(decide (0<(s.send.pending.length:Int))||decide (s.send.bd=1))
def Am(s:aa):db:=⟨s.id,s.priority⟩
def xB(c:I):List db:=(c.streams.filter wants).map Am
def xC(s:aa):aa:={s with cV:=wb s.cV}
def Hf(c:I)(id:Int):I:={c with c8:=wb c.c8,streams:=putS c.streams (xC (aE c id))}
structure nP where
 x:I
 skip:List Int
 b4:List aq
 cO:Int
def BZ(q:nP):List db:=q.skip.foldl l4 (xB q.x)
def gl(q:nP):Int:=nextS (BZ q) q.x.fk
def lG(q:nP):b2×Bool:=wa q.x (gl q) q.cO
def Al(q:nP):nP:=⟨Hf q.x (gl q),q.skip++[gl q],q.b4,q.cO⟩
def B0(q:nP):nP:=⟨Ap q.x (gl q) (lG q).1,q.skip,q.b4++[nQ (gl q) (lG q).1],IntKind.i64.wrap (q.cO-((gX (nQ (gl q) (lG q).1)).length:Int))⟩
def fillGo:Nat→nP→nP
 |0,q=>q
 |k+1,q=>if gl q<0 then q else if(lG q).2 then(if xE q.x (gl q) (lG q).1 then fillGo k (B0 q)else q)else fillGo k (Al q)
structure Ak where
 x:I
 b4:List aq
 cO:Int
def m0(q:Ak)(f:aq):Ak:=if((gX f).length:Int)≤q.cO then⟨lb q.x f,q.b4++[f],IntKind.i64.wrap (q.cO-((gX f).length:Int))⟩else q
def BW(c:I)(b:Int):Bool:=fM c&&bN b 1 400&&!decide (1000000≤c.number)
def dm(c:I)(b:Int):Ak:=(je c).foldl m0 ⟨c,[],b⟩
def ld(c:I)(b:Int):nP:=fillGo 200 ⟨(dm c b).x,[],(dm c b).b4,(dm c b).cO⟩
def fE(c:I)(b:Int):I:=
 if BW c b then(if(ld c b).b4=[]then(ld c b).x else {(ld c b).x with packets:=(ld c b).x.packets++[⟨c.number,(ld c b).b4⟩],number:=IntKind.i64.wrap (c.number+1)})else c
def BX(c:I)(b:Int):Bool:=BW c b&&!decide ((ld c b).b4=[])
def v_(c:I)(b:Int):Int:=if BX c b then c.number else -1
def xz(c:I)(b:Int):List UInt8:=if BX c b then yU (ld c b).b4 else []
def vt(s:aa)(e:Int):Int:=gA s.recv e
def jY(c:I)(s:aa)(e:Int):Int:=if vt s e=0 then 0 else if iN s.bP (vt s e)&&iN c.dA (vt s e)then 0 else 3
def lq(s:aa)(e:Int):aa:=if vt s e=0 then s else {s with bP:=oM s.bP (vt s e)}
def lp(c:I)(s:aa)(e:Int):I:=if vt s e=0 then c else {c with dA:=oM c.dA (vt s e)}
def Io(s:aa)(t:Int):Int:=dL 0 (IntKind.i64.wrap (t-s.bP.read))
def wQ(s:aa)(t:Int):aa:={s with bP:=CX s.bP (Io s t)}
def uw(c:I)(s:aa)(t:Int):I:={c with dA:=CX c.dA (Io s t)}
def ur(f:aq):Int:=IntKind.i64.wrap (f.offset+(f.data.length:Int))
def gz(s:aa)(r:bA):aa:={s with recv:=r}
def oL(c:I)(f:aq)(k:Int):Bool:=eQ c&&e_ f&&decide (f.kind=k)
def xZ(c:I)(f:aq):Int:=
 if oL c f 8 then(if eD c.cr f.stream then(if gu c f.stream=0 then(if jY (bV c f.stream) (aE (bV c f.stream) f.stream) (ur f)=0 then vr (aE (bV c f.stream) f.stream).recv f.offset f.data f.bd else jY (bV c f.stream) (aE (bV c f.stream) f.stream) (ur f))else gu c f.stream)else 5)else 7
def AO(x:I)(f:aq):aa:=gz (lq (aE x f.stream) (ur f)) (pE (aE x f.stream).recv f.offset f.data f.bd)
def zk(c:I)(f:aq):I:=if xZ c f=0 then dR (lp (bV c f.stream) (aE (bV c f.stream) f.stream) (ur f)) (AO (bV c f.stream) f)else c
def x8(c:I)(f:aq):Int:=
 if oL c f 4 then(if eD c.cr f.stream then(if gu c f.stream=0 then(if jY (bV c f.stream) (aE (bV c f.stream) f.stream) f.bj=0 then wT (aE (bV c f.stream) f.stream).recv f.code f.bj else jY (bV c f.stream) (aE (bV c f.stream) f.stream) f.bj)else gu c f.stream)else 5)else 7
def NY(x:I)(f:aq):bA:=vx (aE x f.stream).recv f.code f.bj
def AQ(x:I)(f:aq):Bool:=decide ((NY x f).state=4)&&decide ((aE x f.stream).recv.state≠4)
def II(x:I)(f:aq):aa:=lq (aE x f.stream) f.bj
def IH(x:I)(f:aq):I:=lp x (aE x f.stream) f.bj
def wS(x:I)(f:aq):aa:=gz (if AQ x f then wQ (II x f) f.bj else II x f) (NY x f)
def x9(x:I)(f:aq):I:=if AQ x f then uw (IH x f) (II x f) f.bj else IH x f
def zm(c:I)(f:aq):I:=if x8 c f=0 then dR (x9 (bV c f.stream) f) (wS (bV c f.stream) f)else c
def x_(c:I)(f:aq):Int:=if oL c f 5 then(if ee c.cr f.stream then gu c f.stream else 5)else 7
def tZ(x:I)(f:aq):aa:=if lX (aE x f.stream).send f.code then e3 (aE x f.stream) f.code else aE x f.stream
def zn(c:I)(f:aq):I:=if x_ c f=0 then dR (bV c f.stream) (tZ (bV c f.stream) f)else c
def CH(c:I)(f:aq):Bool:=if f.kind=21 then eD c.cr f.stream else ee c.cr f.stream
def AP(c:I)(f:aq):Int:=if CH c f then gu c f.stream else 5
def CG(x:I)(f:aq):aa:={aE x f.stream with cV:=wN (aE x f.stream).cV f.a8}
def CF(c:I)(f:aq):I:=if AP c f=0 then(if f.kind=17 then la (bV c f.stream) (CG (bV c f.stream) f)else bV c f.stream)else c
def E1(c:I)(f:aq):Bool:=eQ c&&e_ f
def vv(c:I)(f:aq):Int:=if E1 c f then(if f.kind=16∨f.kind=18∨f.kind=20∨f.kind=22 then 0 else if f.kind=17∨f.kind=21 then AP c f else 7)else 7
def oN(c:I)(f:aq):I:=
 if E1 c f then(if f.kind=16 then {c with c8:=wN c.c8 f.a8}else if f.kind=18 then(if f.fy then {c with eB:=w3 c.eB f.a8}else {c with eC:=w3 c.eC f.a8})else if f.kind=17∨f.kind=21 then CF c f else c)else c
def CI(c:I)(f:aq):Int:=if f.kind=8 then xZ c f else if f.kind=4 then x8 c f else if f.kind=5 then x_ c f else vv c f
def vX(c:I)(f:aq):I:=if f.kind=8 then zk c f else if f.kind=4 then zm c f else if f.kind=5 then zn c f else oN c f
def uv(c:I)(id:Int):Bool:=fM c&&(strOf c.streams id).2&&(aE c id).eD
def mb(c:I)(id m:Int):bA:=wR (aE c id).recv m
def U6(c:I)(id m:Int):Bool:=decide ((mb c id m).state<4)
def IK(c:I)(id m:Int):aa:=gz (aE c id) (mb c id m)
def wP(c:I)(id m:Int):aa:=if U6 c id m then wQ (IK c id m) (mb c id m).buffer.next else IK c id m
def x7(c:I)(id m:Int):I:=if U6 c id m then uw c (IK c id m) (mb c id m).buffer.next else c
def kR(c:I)(id m:Int):I:=if uv c id then dR (x7 c id m) (wP c id m)else c
def E2(c:I)(id m:Int):List UInt8:=if uv c id then vw (aE c id).recv m else []
def E3(c:I)(id m:Int):Bool:=uv c id&&(decide ((mb c id m).state=3)||decide ((mb c id m).state=5))
def kZ(n:Int)(p:aC):Bool:=decide (p.number=n)
def pkOf(xs:List aC)(n:Int):aC×Bool:=match xs.find? (kZ n)with|some p=>(p,true)|none=>(⟨0,[]⟩,false)
def ly(c:I)(n:Int):I:={c with packets:=c.packets.filter fun p=>!kZ n p}
def A6(f:aq):b2:=⟨f.offset,f.data,f.bd⟩
def hF(s:aa)(f:aq):aa:=
 if f.kind=8 then fb s (zt s.send (A6 f))else if f.kind=4 then {s with send:=CP s.send,ix:=if A7 s.send then false else s.ix}else if f.kind=5 then {s with iy:=false}else s
def CS(c:I)(f:aq):Bool:=(strOf c.streams f.stream).2&&lf f.kind
def oi(c:I)(f:aq):I:=if CS c f then dR c (hF (aE c f.stream) f)else c
def mG(s:aa)(f:aq):aa:=
 if f.kind=8 then fb s (yc s.send (A6 f))else if f.kind=4 then {s with ix:=decide (s.send.state=4)}else if f.kind=5 then {s with iy:=decide (s.recv.state<2)}else if f.kind=17 then {s with k6:=true}else s
def om(c:I)(f:aq):I:=
 if f.kind=16 then {c with xA:=true}else if f.kind=18 then(if f.fy then {c with nO:=true}else {c with nN:=true})else if CS c f then la c (mG (aE c f.stream) f)else c
def mN(c:I)(n:Int):Bool:=fM c&&(pkOf c.packets n).2
def zM(c:I)(n:Int):I:=if mN c n then(pkOf c.packets n).1.frames.foldl oi (ly c n)else c
def zO(c:I)(n:Int):I:=if mN c n then(pkOf c.packets n).1.frames.foldl om (ly c n)else c
def xq(v:Bool)(o p:da):I:=
 if gG o&&gG p then⟨v,o,p,[],oX p.c8,zz o.c8 o.mU,CY p.l0,CY p.fy,yg o.l0,yg o.fy,false,false,false,-1,0,[],0,0⟩
 else⟨false,⟨0,0,0,0,0,0,0,0⟩,⟨0,0,0,0,0,0,0,0⟩,[],⟨0,0,0,0⟩,⟨0,0,0,0,0,0⟩,⟨0,0,0⟩,⟨0,0,0⟩,⟨0,0,0,0⟩,⟨0,0,0,0⟩,false,false,false,0,0,[],0,0⟩
theorem fo.same{m:Nat}{s t:aa}(h:fo m s)(h1:t.send=s.send)(h2:t.recv=s.recv):fo m t:=⟨h1▸h.snd,h2▸h.eO,h2▸h.xD⟩
theorem fo.yd{m:Nat}{s:aa}(h:fo m s){x:az}(hx:gn (8 * m) x):fo m (fb s x):=⟨hx,h.eO,h.xD⟩
theorem b6.same{m:Nat}{c d:I}(h:b6 m c)(h1:d.streams=c.streams)(h2:d.packets=c.packets):b6 m d:=⟨h1▸h.jb,h1▸h.n0,h2▸h.v',h2▸h.lP⟩
theorem b6.aE{m:Nat}{c:I}(h:b6 m c)(id:Int):fo m (aE c id):=adV h.n0 id
theorem oT{c:I}{id:Int}(h:(strOf c.streams id).2=true):(aE c id).id=id:=(CR h).1
theorem ye{m:Nat}{c:I}{id:Int}{s:aa}(h:b6 m c)(hf:(strOf c.streams id).2=true)(hi:s.id=(aE c id).id)(hs:fo m s):b6 m (la c s):=
 UA h hs (by rw[hi,oT hf];exact hf)
theorem zN(c:I)(s:aa):(xo c s).streams=c.streams∧(xo c s).packets=c.packets:=by
 unfold xo;repeat' split
 all_goals exact⟨rfl,rfl⟩
theorem NU(c:I)(s:aa):(tM c s).send=s.send∧(tM c s).recv=s.recv∧(tM c s).id=s.id:=by
 unfold tM;split<;>exact⟨rfl,rfl,rfl⟩
theorem adX(c:I)(s:aa):(dR c s).streams=(la c (tM c s)).streams∧(dR c s).packets=(la c (tM c s)).packets:=⟨rfl,(zN c s).2⟩
theorem NV{m:Nat}{c:I}{id:Int}{s:aa}(h:b6 m c)(hf:(strOf c.streams id).2=true)(hi:s.id=id)(hs:fo m s):b6 m (dR c s):=by
 obtain⟨dy,eK,eL⟩:=NU c s;obtain⟨c5,cS⟩:=adX c s;exact(UA h (hs.same dy eK) (by rw[eL,hi];exact hf)).same c5 cS
theorem G'(c:I)(s:aa)(k:Int):(mw c s k).send=s.send∧(mw c s k).recv=s.recv∧(mw c s k).id=s.id:=by
 unfold mw;repeat' split
 all_goals exact⟨rfl,rfl,rfl⟩
theorem adY{m:Nat}{c:I}(h:b6 m c)(f:aq):b6 m (lb c f):=by
 unfold lb
 repeat' split
 all_goals first
  |exact h.same rfl rfl
  |(rename_i hf;obtain⟨dy,eK,eL⟩:=G' c (aE c f.stream) f.kind;exact ye h hf eL ((h.aE f.stream).same dy eK))
def oC(f:aq):Prop:=f.data.length≤60
theorem adZ{c:I}{s:aa}:∀f∈jS c s,oC f:=by
 intro f hf;simp only[jS,nM,tW,xx,yQ,List.mem_append]at hf;rcases hf with ((hf|hf)|hf)|hf<;>(split at hf<;>simp at hf;subst hf;simp[oC,yR,vZ])
theorem DY(c:I)(s:aa):(jS c s).length≤4:=by
 simp only[jS,nM,tW,xx,yQ,List.length_append];have h:∀(b:Bool) (f:aq),(if b=true then [f]else []).length≤1:=fun b f=>by cases b<;>simp
 have h1:=h s.ix (yR 4 s.id s.send.code s.send.sent);have h2:=h (s.iy&&decide (s.recv.state<2)) (yR 5 s.id s.lW 0);have aj:=h (ph c s).2 (vZ 17 s.id (ph c s).1.a8);have aD:=h (tV s.cV&&s.ee&&decide (0<(s.send.pending.length:Int))) (vZ 21 s.id s.cV.a8);omega
theorem G9{α β:Type}(g:α→List β)(k:Nat):∀(l:List α),(∀x∈l,(g x).length≤k)→(l.flatMap g).length≤k * l.length
 |[],_=>by simp
 |x::l,h=>by
  have h1:=h x (by simp);have h2:=G9 g k l fun y hy=>h y (by simp[hy]);rw[List.flatMap_cons,List.length_append,oW,Nat.mul_add];omega
theorem ad0(c:I):(ID c).length≤3∧∀f∈ID c,oC f:=by
 unfold ID
 cases(tU c).2<;>cases(jR c.dH c.nN).2<;>cases(jR c.dI c.nO).2<;>simp[oC,jd]
theorem ad1(c:I):(IE c).length≤3∧∀f∈IE c,oC f:=by
 unfold IE
 cases tV c.c8<;>by_cases h1:c.eC.blocked=c.eC.a8<;>by_cases h2:c.eB.blocked=c.eB.a8<;>simp[oC,jd,h1,h2]
theorem Q_{m:Nat}{c:I}(h:b6 m c):(je c).length≤102∧∀f∈je c,oC f:=by
 unfold je;split
 ·obtain⟨bD,bR⟩:=ad0 c;obtain⟨nH,kC⟩:=ad1 c;have:=G9 (jS c) 4 c.streams fun s _=>DY c s;have:=h.jb;refine⟨by simp only[List.length_append];omega,fun f hf=>?_⟩;rcases List.mem_append.1 hf with hf|hf
  ·rcases List.mem_append.1 hf with hf|hf
   ·exact bR f hf
   ·obtain⟨s,_,hs⟩:=List.mem_flatMap.1 hf;exact adZ f hs
  ·exact kC f hf
 ·simp
structure m1(m k:Nat)(x:I)(b4:List aq):Prop where
 c:b6 m x
 n:b4.length≤k
 d:∀f∈b4,oC f
theorem m1.mono{m k j:Nat}{x:I}{b4:List aq}(h:m1 m k x b4)(hk:k≤j):m1 m j x b4:=⟨h.c,by have:=h.n;omega,h.d⟩
theorem m1.add{m k:Nat}{x y:I}{b4:List aq}{f:aq}(h:m1 m k x b4)(hy:b6 m y)(hf:oC f):m1 m (k+1) y (b4++[f]):=
 ⟨hy,by have:=h.n;simp;omega,fun g hg=>by rcases List.mem_append.1 hg with hg|hg;exact h.d g hg;simp at hg;subst hg;exact hf⟩
theorem Ra{m k:Nat}{q:Ak}{f:aq}(h:m1 m k q.x q.b4)(hf:oC f):m1 m (k+1) (m0 q f).x (m0 q f).b4:=by
 unfold m0;split
 ·exact h.add (adY h.c f) hf
 ·exact h.mono (by omega)
theorem UC{m:Nat}:∀(l:List aq) (k:Nat) (q:Ak),m1 m k q.x q.b4→(∀f∈l,oC f)→m1 m (k+l.length) (l.foldl m0 q).x (l.foldl m0 q).b4
 |[],k,q,h,_=>h
 |f::l,k,q,h,hl=>by
  have:=UC l (k+1) (m0 q f) (Ra h (hl f (by simp))) fun g hg=>hl g (by simp[hg]);rw[oW,show k+(l.length+1)=k+1+l.length from by omega];exact this
theorem ad2(r:cl)(o n:Int):((A0 r o n).length:Int)≤dL 0 n:=by
 unfold A0;split
 ·rw[UD];unfold dL;split<;>omega
 ·unfold dL;simp;split<;>omega
theorem Ro{s:az}{m l:Int}(h0:0≤m)(h1:m≤1000)(hp:me s.ring.b' s.pending)(_aoh:s.ring.b'≤4611686018427387903):((nR s m l).data.length:Int)≤m:=by
 unfold nR;split
 ·split
  ·rename_i hok _ r hr;have hm:r∈s.pending:=List.mem_of_getElem? hr;have vg:=(gM _).1 (((kJ _).1 hp.1).1 r hm);have hr2:=hp.2 r hm;have:=ad2 s.ring r.low (IntKind.i64.wrap (lu r m l-r.low));simp only[nextOk,hr,cX,il]at hok;obtain⟨_,k1,k2⟩:=hok;have aoi:cG r.high l≤r.high:=by unfold cG;split<;>omega
   have hh:lu r m l-r.low≤m∧0≤lu r m l-r.low:=by
    unfold lu at k2⊢;split
    ·rename_i g;rw[if_pos g]at k2;have e:dL m 0=m:=by unfold dL;split<;>omega
     rw[e]at k2⊢;rw[bC]at k2⊢<;>omega
    ·rename_i g;rw[bC]at g<;>omega
   have hw:IntKind.i64.wrap (lu r m l-r.low)=lu r m l-r.low:=by rw[bC]<;>omega
   simp only;rw[hw]at this⊢;unfold dL at this;split at this<;>omega
  ·simpa using h0
 ·simp[pn];omega
theorem UE{s:az}{id kU cO:Int}(hp:me s.ring.b' s.pending)(he:s.ring.b'≤4611686018427387903):∀(n:Nat),n≤60→(pfGo s id kU cO n).1.data.length≤60
 |0,_=>by simp[pfGo,pn]
 |n+1,hn=>by
  unfold pfGo;have:=Ro (m:=(n+1:Nat)) (l:=kU) (by omega) (by omega) hp he;split
  ·split
   ·show(nR s ((n+1:Nat):Int) kU).data.length≤60
    omega
   ·exact UE hp he n (by omega)
  ·simp[pn]
theorem Rf{m:Nat}{c:I}(h:b6 m c)(hm:m≤1000)(id cO:Int):(wa c id cO).1.data.length≤60:=by
 have hs:=(h.aE id).snd;unfold wa;split
 ·refine UE hs.p (by have:=hs.ag;omega) _ ?_;unfold cG;split<;>omega
 ·simp[pn]
theorem UF{c:I}{id:Int}{p:b2}(h:xE c id p=true):(strOf c.streams id).2=true:=by
 simp only[xE,B1,cX,and_assoc]at h;exact h.2.1
theorem Rj{m:Nat}{c:I}(h:b6 m c)(id:Int)(p:b2)(hp:p.data.length≤1048576):b6 m (Ap c id p):=by
 unfold Ap;split
 ·rename_i hok;have:=ye (s:=u5 (aE c id) p) h (UF hok) rfl ⟨Ri (h.aE id).snd hp,(h.aE id).eO,(h.aE id).xD⟩;exact this.same rfl rfl
 ·exact h
theorem Rh{m:Nat}{c:I}{id:Int}(h:b6 m c)(hf:(strOf c.streams id).2=true):b6 m (Hf c id):=by
 have:=ye (s:=xC (aE c id)) h hf rfl ((h.aE id).same rfl rfl);exact this.same rfl rfl
theorem ad3(l:List Int)(fk:Int):aftL l fk=-1∨aftL l fk∈l:=by
 unfold aftL;split
 ·rename_i x hx;exact Or.inr (List.mem_of_find?_eq_some hx)
 ·split
  ·exact Or.inl rfl
  ·exact Or.inr (by simp)
theorem ad4(l:List db)(fk:Int):nextS l fk=-1∨∃c∈l,c.id=nextS l fk:=by
 unfold nextS;split
 ·rename_i c hc;exact Or.inr ⟨c,List.mem_of_find?_eq_some hc,rfl⟩
 ·rcases ad3 (oU (wY l) l) fk with h|h
  ·exact Or.inl h
  ·right;unfold oU at h⊢;obtain⟨c,hc,hx⟩:=List.mem_flatMap.1 h;exact⟨c,hc,by simpa using((List.mem_filter.1 hx).2:_) |> ch |>.symm⟩
theorem UG:∀(bW:List Int) (l:List db) (c:db),c∈bW.foldl l4 l→c∈l
 |[],_,_,h=>h
 |i::bW,l,c,h=>(List.mem_filter.1 (UG bW (l4 l i) c h)).1
theorem IF{l:List aa}{s:aa}(h:s∈l):(strOf l s.id).2=true:=by
 unfold strOf;split
 ·rfl
 ·rename_i hn;rw[List.find?_eq_none]at hn;have:=hn s h;simp[ed]at this
theorem LI{q:nP}(h:0≤gl q):(strOf q.x.streams (gl q)).2=true:=by
 rcases ad4 (BZ q) q.x.fk with h1|⟨c,hc,h1⟩
 ·unfold gl at h;omega
 ·have hw:=UG q.skip (xB q.x) c hc;obtain⟨s,hs,rfl⟩:=List.mem_map.1 hw;have:=IF (List.mem_filter.1 hs).1;have e:s.id=gl q:=h1;rw[←e];exact this
theorem NW{m:Nat}(hm:m≤1000):∀(n k:Nat) (q:nP),m1 m k q.x q.b4→m1 m (k+n) (fillGo n q).x (fillGo n q).b4
 |0,k,q,h=>h
 |n+1,k,q,h=>by
  unfold fillGo;split
  ·exact h.mono (by omega)
  ·rename_i h0;split
   ·split
    ·rw[show k+(n+1)=k+1+n from by omega];refine NW hm n (k+1) (B0 q) ?_;have hl:=Rf h.c hm (gl q) q.cO;exact h.add (Rj h.c _ _ (by unfold lG;omega)) hl
    ·exact h.mono (by omega)
   ·refine(NW hm n k (Al q) ⟨Rh h.c (LI (by omega)),h.n,h.d⟩).mono (by omega)
theorem Rb{m:Nat}{c:I}(h:b6 m c)(b:Int):m1 m 102 (dm c b).x (dm c b).b4:=by
 obtain⟨h1,h2⟩:=Q_ h;exact(UC (je c) 0 ⟨c,[],b⟩ ⟨h,by simp,by simp⟩ h2).mono (by omega)
theorem Rc{m:Nat}{c:I}(h:b6 m c)(hm:m≤1000)(b:Int):m1 m 302 (ld c b).x (ld c b).b4:=(NW hm 200 102 _ (Rb h b)).mono (by omega)
theorem Y2{m:Nat}{c:I}(h:b6 m c)(hm:m≤1000)(b:Int):b6 (m+1) (fE c b):=by
 have hb:=Rc h hm b;unfold fE;split
 ·split
  ·exact hb.c.mono (by omega)
  ·have hc:=hb.c.mono (show m≤m+1 by omega);refine⟨hc.jb,hc.n0,?_,fun p hp=>?_⟩
   ·have:=hb.c.v';simp;omega
   ·rcases List.mem_append.1 hp with hp|hp
    ·exact hc.lP p hp
    ·simp at hp;subst hp;exact⟨by have:=hb.n;show(ld c b).b4.length≤500;omega,hb.d⟩
 ·exact h.mono (by omega)
theorem ad5(l:List aa)(s:aa):s∈putS l s:=by
 unfold putS;split
 ·rename_i i hi;rw[List.findIdx?_eq_some_iff_getElem]at hi;obtain⟨h,_⟩:=hi;exact List.mem_set h _
 ·have:∀(l:List aa) (q:List aa×Bool),(q.2=true→s∈q.1)→((l.foldl (iH s) q).2=true→s∈(l.foldl (iH s) q).1):=by
   intro l
   induction l with
   |nil=>intro q h;exact h
   |cons x l dr=>
    intro q h;rw[List.foldl_cons];refine dr _ ?_;unfold iH;split
    ·intro _;simp
    ·intro hq;simp only at hq⊢;exact List.mem_append_left _ (h hq)
  split
  ·rename_i h2;exact this l ([],false) (by simp) h2
  ·simp
theorem ad6{id:Int}(h:bJ id=true):k8 id 0=id:=by
 simp only[bJ,bN,cX,il]at h;unfold k8;simp only[Int.natCast_zero,Int.mul_zero];rw[bC (n:=0) (by omega) (by omega),bC]<;>omega
theorem UH{v:Bool}{o p:da}{id:Int}(hn:mf id o p=true):∀(k:Nat) (l:List aa),0<k→(strOf (ensL v o p id k l) id).2=true
 |0,_,h=>by omega
 |k+1,l,_=>by
  cases k with
  |zero=>
   have hq:bJ id=true:=by simp only[mf,cX]at hn;exact hn.1.1
   have hi:(ft v (k8 id 0) o p).id=id:=by rw[ad6 hq];unfold ft;rw[hn];rfl
   have:=IF (ad5 l (ft v (k8 id 0) o p));rw[hi]at this;exact this
  |succ k=>exact UH hn (k+1) _ (by omega)
theorem ad7{l:List aa}{id:Int}(h:0≤fIx (ed id) l):(strOf l id).2=true:=by
 rcases ox (ed id) l with ⟨h1,_⟩|⟨j,ak,h1,h2,aj⟩
 ·omega
 ·unfold strOf;rw[h2]
theorem zu{m:Nat}{c:I}{id:Int}(hc:b6 m c)(h:gu c id=0):(strOf (bV c id).streams id).2=true:=by
 unfold gu at h;split at h
 ·omega
 ·rename_i h1;simp only[Bool.not_eq_true',Bool.not_eq_false,cX]at h1;split at h
  ·rename_i h2;have e:bV c id=c:=by
    unfold bV;have:decide (fIx (ed id) c.streams<0)=false:=a_ (by omega);rw[this];simp
   rw[e];exact ad7 h2
  ·rename_i h2;split at h
   ·omega
   ·rename_i aj;split at h
    ·rename_i aD;have hlt:decide (fIx (ed id) c.streams<0)=true:=bc (by omega);have e:(bV c id).streams=ensL c.cr c.own c.peer id (j9 c id).toNat c.streams:=by
      unfold bV;rw[h1.1,h1.2,hlt,aD];have CB:lB c.cr id=false:=by simpa using aj
      rw[CB];rfl
     rw[e];obtain⟨o5,_⟩:=GJ aD (by have:=hc.jb;omega);have hk:=h1.1;simp only[eQ,vW,uV,cX,and_assoc]at hk;exact UH (by simp only[mf,cX];exact⟨⟨h1.2,hk.1⟩,hk.2.1⟩) _ _ (by omega)
    ·omega
theorem Ip(s:aa)(e:Int):(lq s e).send=s.send∧(lq s e).recv=s.recv∧(lq s e).id=s.id:=by unfold lq;split<;>exact⟨rfl,rfl,rfl⟩
theorem Il(c:I)(s:aa)(e:Int):(lp c s e).streams=c.streams∧(lp c s e).packets=c.packets:=by unfold lp;split<;>exact⟨rfl,rfl⟩
def zv(m:Nat)(r:bA):Prop:=(∀c∈r.buffer.bu,tG c)∧r.buffer.bu.length≤m
theorem fo.ad8{m:Nat}{s:aa}(h:fo m s){r:bA}(hr:zv m r):fo m (gz s r):=⟨h.snd,hr.1,hr.2⟩
theorem fo.rok{m:Nat}{s:aa}(h:fo m s):zv m s.recv:=⟨h.eO,h.xD⟩
theorem ad9{m:Nat}{r:bA}(h:zv m r)(o:Int)(d:List UInt8)(f:Bool)(hd:d.length≤8)(ax:0≤o∧o≤900):zv (m+1) (pE r o d f):=by
 unfold pE;split
 ·have:=PI r.buffer.next r.buffer.bu o d;exact⟨PH h.1 ax.1 (by omega),by have:=h.2;simp only[zw];omega⟩
 ·exact⟨h.1,by have:=h.2;omega⟩
theorem aea{m:Nat}{r:bA}(h:zv m r)(c f:Int):zv m (vx r c f):=by
 unfold vx;split
 ·exact⟨by simp,by simp⟩
 ·exact h
theorem aeb{m:Nat}{r:bA}(h:zv m r)(k:Int):zv m (wR r k):=by
 unfold wR;split
 ·split
  ·exact h
  ·exact⟨Xv h.1,by have:=Xw r.buffer.next r.buffer.bu k;have:=h.2;simp only;omega⟩
 ·exact h
theorem IG{m:Nat}{c x:I}{id:Int}{s:aa}(h:b6 m c)(hx:x.streams=c.streams∧x.packets=c.packets)(hf:(strOf c.streams id).2=true)(hi:s.id=id)(hs:fo m s):b6 m (dR x s):=
 NV (h.same hx.1 hx.2) (by rw[hx.1];exact hf) hi hs
theorem UI{c:I}{f:aq}(h:xZ c f=0):gu c f.stream=0:=by
 unfold xZ at h
 repeat' split at h
 all_goals first|omega|assumption
theorem UJ{c:I}{f:aq}(h:x8 c f=0):gu c f.stream=0:=by
 unfold x8 at h
 repeat' split at h
 all_goals first|omega|assumption
theorem UK{c:I}{f:aq}(h:x_ c f=0):gu c f.stream=0:=by
 unfold x_ at h
 repeat' split at h
 all_goals first|omega|assumption
theorem UL{c:I}{f:aq}(h:AP c f=0):gu c f.stream=0:=by
 unfold AP at h
 repeat' split at h
 all_goals first|omega|assumption
theorem TT{m:Nat}{x:I}{f:aq}(h:b6 m x)(hd:f.data.length≤8)(ax:0≤f.offset∧f.offset≤900):fo (m+1) (AO x f):=by
 obtain⟨dy,eK,eL⟩:=Ip (aE x f.stream) (ur f);exact(((h.aE f.stream).mono (show m≤m+1 by omega)).same dy eK).ad8 (ad9 (h.aE f.stream).rok _ _ _ hd ax)
theorem UM(x:I)(f:aq):(AO x f).id=(aE x f.stream).id:=(Ip (aE x f.stream) (ur f)).2.2
theorem aec{m:Nat}{c:I}{f:aq}(h:b6 m c)(hd:f.data.length≤8)(ax:0≤f.offset∧f.offset≤900):b6 (m+1) (zk c f):=by
 unfold zk;split
 ·rename_i he;have hx:=zl h f.stream;have hf:=zu h (UI he);exact IG (hx.mono (by omega)) (Il _ _ _) hf ((UM _ f).trans (oT hf)) (TT hx hd ax)
 ·exact h.mono (by omega)
theorem Nq(x:I)(f:aq):(x9 x f).streams=x.streams∧(x9 x f).packets=x.packets:=by
 unfold x9 IH uw;split<;>exact Il _ _ _
theorem NX(x:I)(f:aq):(wS x f).send=(aE x f.stream).send∧(wS x f).recv=NY x f∧(wS x f).id=(aE x f.stream).id:=by
 obtain⟨dy,eK,eL⟩:=Ip (aE x f.stream) f.bj;unfold wS II wQ gz;split<;>exact⟨dy,rfl,eL⟩
theorem T1{m:Nat}{x:I}{f:aq}(h:b6 m x):fo m (wS x f):=by
 obtain⟨dy,eK,eL⟩:=NX x f;have hr:=aea (h.aE f.stream).rok f.code f.bj;exact⟨dy▸(h.aE f.stream).snd,by rw[eK];exact hr.1,by rw[eK];exact hr.2⟩
theorem aed{m:Nat}{c:I}{f:aq}(h:b6 m c):b6 m (zm c f):=by
 unfold zm;split
 ·rename_i he;have hx:=zl h f.stream;have hf:=zu h (UJ he);exact IG hx (Nq _ f) hf ((NX _ f).2.2.trans (oT hf)) (T1 hx)
 ·exact h
theorem fo.IJ{m:Nat}{s:aa}(h:fo m s)(k:Int):fo m (e3 s k):=⟨adM h.snd k,h.eO,h.xD⟩
theorem T2{m:Nat}{x:I}{f:aq}(h:b6 m x):fo m (tZ x f):=by
 unfold tZ;split
 ·exact(h.aE f.stream).IJ f.code
 ·exact h.aE f.stream
theorem UN(x:I)(f:aq):(tZ x f).id=(aE x f.stream).id:=by unfold tZ;split<;>rfl
theorem aee{m:Nat}{c:I}{f:aq}(h:b6 m c):b6 m (zn c f):=by
 unfold zn;split
 ·rename_i he;have hx:=zl h f.stream;have hf:=zu h (UK he);exact IG hx ⟨rfl,rfl⟩ hf ((UN _ f).trans (oT hf)) (T2 hx)
 ·exact h
theorem aef{m:Nat}{c:I}{f:aq}(h:b6 m c):b6 m (CF c f):=by
 unfold CF;split
 ·rename_i he;have hx:=zl h f.stream;have hf:=zu h (UL he);split
  ·exact ye (id:=f.stream) hx hf rfl ((hx.aE f.stream).same rfl rfl)
  ·exact hx
 ·exact h
theorem aeg{m:Nat}{c:I}{f:aq}(h:b6 m c):b6 m (oN c f):=by
 unfold oN
 repeat' split
 all_goals first|exact h.same rfl rfl|exact aef h
theorem Y3{m:Nat}{c:I}{f:aq}(h:b6 m c)(hd:f.data.length≤8)(ax:0≤f.offset∧f.offset≤900):b6 (m+1) (vX c f):=by
 unfold vX
 repeat' split
 ·exact aec h hd ax
 ·exact(aed h).mono (by omega)
 ·exact(aee h).mono (by omega)
 ·exact(aeg h).mono (by omega)
theorem wZ{c:I}{id:Int}(h:gR c id=true):(strOf c.streams id).2=true:=by simp only[gR,cX]at h;exact h.1.2
theorem YX{m:Nat}{c:I}(h:b6 m c)(id:Int){d:List UInt8}(hd:d.length≤8):b6 (m+1) (eH c id d):=by
 unfold eH;split
 ·rename_i hg;have hw:fo (m+1) (fb (aE c id) (kz (aE c id).send d)):=((h.aE id).mono (by omega)).yd (by have:=NQ (h.aE id).snd hd;rw[show(8 * (m+1:Nat):Int)=8 * m+8 from by omega];exact this);exact(ye (id:=id) (h.mono (show m≤m+1 by omega)) (wZ hg) rfl hw)
 ·exact h.mono (by omega)
theorem Y0{m:Nat}{c:I}(h:b6 m c)(id k:Int):b6 m (jM c id k):=by
 unfold jM;split
 ·rename_i hg;simp only[o_,cX]at hg;have hf:=wZ hg.1;exact NV h hf (oT hf) ((h.aE id).IJ k)
 ·exact h
theorem Np(c:I)(id m:Int):(x7 c id m).streams=c.streams∧(x7 c id m).packets=c.packets:=by unfold x7 uw;split<;>exact⟨rfl,rfl⟩
theorem NZ(c:I)(id m:Int):(wP c id m).send=(aE c id).send∧(wP c id m).recv=mb c id m∧(wP c id m).id=(aE c id).id:=by unfold wP wQ IK gz;split<;>exact⟨rfl,rfl,rfl⟩
theorem TZ{m:Nat}{c:I}(h:b6 m c)(id k:Int):fo m (wP c id k):=by
 obtain⟨dy,eK,eL⟩:=NZ c id k;have hr:=aeb (h.aE id).rok k;exact⟨dy▸(h.aE id).snd,by rw[eK];exact hr.1,by rw[eK];exact hr.2⟩
theorem YZ{m:Nat}{c:I}(h:b6 m c)(id k:Int):b6 m (kR c id k):=by
 unfold kR;split
 ·rename_i hg;simp only[uv,cX]at hg;have hf:=hg.1.2;exact IG h (Np c id k) hf ((NZ c id k).2.2.trans (oT hf)) (TZ h id k)
 ·exact h
theorem Gd{m:Nat}{c:I}(h:b6 m c)(n:Int):b6 m (ly c n):=
 ⟨h.jb,h.n0,Nat.le_trans (List.length_filter_le _ _) h.v',fun p hp=>h.lP p (List.mem_filter.1 hp).1⟩
theorem UO(s:aa)(f:aq):(hF s f).id=s.id:=by
 unfold hF;repeat' split
 all_goals rfl
theorem Ps{m:Nat}{s:aa}(h:fo m s)(f:aq):fo m (hF s f):=by
 unfold hF;split
 ·exact h.yd (adT h.snd)
 ·split
  ·exact⟨adN h.snd,h.eO,h.xD⟩
  ·split
   ·exact h.same rfl rfl
   ·exact h
theorem Pr{m:Nat}{c:I}(h:b6 m c)(f:aq):b6 m (oi c f):=by
 unfold oi;split
 ·rename_i hg;simp only[CS,cX]at hg;exact NV h hg.1 ((UO _ f).trans (oT hg.1)) (Ps (h.aE _) f)
 ·exact h
theorem UP(s:aa)(f:aq):(mG s f).id=s.id:=by
 unfold mG;repeat' split
 all_goals rfl
theorem Pu{m:Nat}{s:aa}(h:fo m s)(f:aq):fo m (mG s f):=by
 unfold mG
 repeat' split
 ·exact h.yd (adU h.snd)
 all_goals exact h.same rfl rfl
theorem Pt{m:Nat}{c:I}(h:b6 m c)(f:aq):b6 m (om c f):=by
 unfold om
 repeat' split
 all_goals first
  |exact h.same rfl rfl
  |(rename_i hg;simp only[CS,cX]at hg;exact ye h hg.1 (UP _ f) (Pu (h.aE _) f))
theorem Dh{m:Nat}{g:I→aq→I}(hg:∀c f,b6 m c→b6 m (g c f)):∀(l:List aq) (c:I),b6 m c→b6 m (l.foldl g c)
 |[],_,h=>h
 |f::l,c,h=>Dh hg l (g c f) (hg c f h)
theorem Y5{m:Nat}{c:I}(h:b6 m c)(n:Int):b6 m (zM c n):=by
 unfold zM;split
 ·exact Dh (fun c f h=>Pr h f) _ _ (Gd h n)
 ·exact h
theorem Y4{m:Nat}{c:I}(h:b6 m c)(n:Int):b6 m (zO c n):=by
 unfold zO;split
 ·exact Dh (fun c f h=>Pt h f) _ _ (Gd h n)
 ·exact h
theorem Y6(v:Bool)(o p:da):b6 0 (xq v o p):=by
 unfold xq;split<;>exact⟨by simp,by simp,by simp,by simp⟩
theorem Lc{P:Program}{kv:List V}{aA:List Oper}{K:St→Prop}(Inv:Nat→List Bool→St→Prop)
  (h0:∀S σ,Inv 0 S σ→rdyE S aA [] S=[]∧K σ)
  (h1:∀n S σ (F:List Bool→St→Prop),Inv (n+1) S σ→(∀k' σ',Inv n k' σ'→F k' σ')→(rdyE S aA [] S=[]→K σ)∧uX (rdyE S aA [] S) fun o k'=>uY P kv aA σ o (bx (fun σ'=>F k' σ') .mk)) :
  ∀n S σ,Inv n S σ→exE P kv aA n S σ K
 |0,S,σ,h=>h0 S σ h
 |n+1,S,σ,h=>h1 n S σ (fun k' σ'=>exE P kv aA n k' σ' K) h fun k' σ' h'=>Lc Inv h0 h1 n k' σ' h'
theorem QH{aA:List Oper}{S:List Bool}{Q:Prop}{x:Oper×List Bool}{r:List (Oper×List Bool)}{G:Oper→List Bool→Prop}(e:rdyE S aA [] S=x::r)(h:uX (x::r) G):(rdyE S aA [] S=[]→Q)∧uX (rdyE S aA [] S) G:=⟨fun h'=>(by rw[e]at h';cases h'),(by rw[e];exact h)⟩
set_option maxRecDepth 100000
def RH:List (List bt):=ct 40 [12157665459056928800,12157665459056928798,12157665459056928792,12157665459056928774,12157665459056928720,12157665459056925642,12157665459056928315,12157665459056926857,12157665459056922240,12157665459056909118,12157665459056869752,12157665459056751654,12157665459056397360,12157665459055334478,12157665459052145832,12157665459042579894,12157665459013882080,12157665458927788638,12157665458669508312,12157665457894667334,12157665455570144400,12157665448596575598,12157665427675869192,12157665364913749974,12157665176627392320,12157664611768319358,12157662917191100472,12157657833459443814,12157642582264473840,12157596828679563918,12157459567924834152,12157047785660644854,12155812438868076960,12152106398490373278,12140988277357262232,12107633913957929094,12007570823759929680,11707381553165931438,10806813741383936712,8105110306037952534]
attribute [go_sem] RH
theorem yB{P:Program}{kv:List V}{aA:List Oper}{σ:St}{K:St→Prop}(s:St)(h:exE P kv aA aA.length (List.replicate aA.length false) σ (fun σ'=>σ'=s))(hk:K s):B6 P kv aA.toArray σ K:=hH (fun σ'=>σ'=s) h (fun σ' e=>by rw[e];exact hk)
def oneB(b:Bool):Int:=if b then 1 else 0
theorem aac(b:Bool):PureCall Tryz.prog 88 [.one (.bool b)] [.one (.int .i64 (oneB b))]:=by
 refine aL 4 Tryz.func88 Tryz.call88 [.tmp 2] ?_;intro _
 try simp only[go_sem]
 repeat'(refine bp (fun h=>?_) (fun h=>?_)<;>simp only[go_sem])
 all_goals simp_all [oneB]
def LP:List (Nat×List Bool):=[(12,[false,false,false,false,false,false,false,false,false,false,false,false]),(11,[true,false,false,false,false,false,false,false,false,false,false,false]),(11,[false,false,true,false,false,false,false,false,false,false,false,false]),(11,[false,false,false,false,true,false,false,false,false,false,false,false]),(10,[true,true,false,false,false,false,false,false,false,false,false,false]),(10,[true,false,true,false,false,false,false,false,false,false,false,false]),(10,[true,false,false,false,true,false,false,false,false,false,false,false]),(10,[false,false,true,true,false,false,false,false,false,false,false,false]),(10,[false,false,true,false,true,false,false,false,false,false,false,false]),(10,[false,false,false,false,true,true,false,false,false,false,false,false]),(9,[true,true,true,false,false,false,false,false,false,false,false,false]),(9,[true,true,false,false,true,false,false,false,false,false,false,false]),(9,[true,true,false,false,false,false,true,false,false,false,false,false]),(9,[true,false,true,true,false,false,false,false,false,false,false,false]),(9,[true,false,true,false,true,false,false,false,false,false,false,false]),(9,[true,false,false,false,true,true,false,false,false,false,false,false]),(9,[false,false,true,true,true,false,false,false,false,false,false,false]),(9,[false,false,true,false,true,true,false,false,false,false,false,false]),(8,[true,true,true,true,false,false,false,false,false,false,false,false]),(8,[true,true,true,false,true,false,false,false,false,false,false,false]),(8,[true,true,true,false,false,false,true,false,false,false,false,false]),(8,[true,true,false,false,true,true,false,false,false,false,false,false]),(8,[true,true,false,false,true,false,true,false,false,false,false,false]),(8,[true,true,false,false,false,false,true,true,false,false,false,false]),(8,[true,false,true,true,true,false,false,false,false,false,false,false]),(8,[true,false,true,false,true,true,false,false,false,false,false,false]),(8,[false,false,true,true,true,true,false,false,false,false,false,false]),(7,[true,true,true,true,true,false,false,false,false,false,false,false]),(7,[true,true,true,true,false,false,true,false,false,false,false,false]),(7,[true,true,true,false,true,true,false,false,false,false,false,false]),(7,[true,true,true,false,true,false,true,false,false,false,false,false]),(7,[true,true,true,false,false,false,true,true,false,false,false,false]),(7,[true,true,false,false,true,true,true,false,false,false,false,false]),(7,[true,true,false,false,true,false,true,true,false,false,false,false]),(7,[true,false,true,true,true,true,false,false,false,false,false,false]),(6,[true,true,true,true,true,true,false,false,false,false,false,false]),(6,[true,true,true,true,true,false,true,false,false,false,false,false]),(6,[true,true,true,true,false,false,true,true,false,false,false,false]),(6,[true,true,true,false,true,true,true,false,false,false,false,false]),(6,[true,true,true,false,true,false,true,true,false,false,false,false]),(6,[true,true,false,false,true,true,true,true,false,false,false,false]),(5,[true,true,true,true,true,true,true,false,false,false,false,false]),(5,[true,true,true,true,true,false,true,true,false,false,false,false]),(5,[true,true,true,true,false,false,true,true,true,false,false,false]),(5,[true,true,true,false,true,true,true,true,false,false,false,false]),(4,[true,true,true,true,true,true,true,true,false,false,false,false]),(4,[true,true,true,true,true,false,true,true,true,false,false,false]),(4,[true,true,true,true,false,false,true,true,true,true,false,false]),(3,[true,true,true,true,true,true,true,true,true,false,false,false]),(3,[true,true,true,true,true,false,true,true,true,true,false,false]),(2,[true,true,true,true,true,true,true,true,true,true,false,false]),(1,[true,true,true,true,true,true,true,true,true,true,true,false]),(0,[true,true,true,true,true,true,true,true,true,true,true,true])]
def Hi(dW eT:Int)(er:List UInt8)(e5:Bool)(ff eY fq:Int)(gf:Bool)(S:List Bool):St:=⟨(.agg [.d (.int .i64 8),.d (.int .i64 dW),.d (.int .i64 eT),.d (.str er),.d (.bool e5),.d (.int .i64 ff),.d (.int .i64 eY),.d (.int .i64 fq),.d (.bool gf)]::.ptr 0 0 0::.ptr 1 0 0::.ptr 2 0 0::.ptr 0 0 0::.d (.int .i64 8)::.agg [.d (.int .i64 8),.d (.int .i64 0),.d (.int .i64 0),.d (.str []),.d (.bool false),.d (.int .i64 0),.d (.int .i64 0),.d (.int .i64 0),.d (.bool false)]::.agg [.d (.int .i64 8),.d (.int .i64 dW),.d (.int .i64 eT),.d (.str er),.d (.bool e5),.d (.int .i64 ff),.d (.int .i64 eY),.d (.int .i64 fq),.d (.bool gf)]::.d (.bool true)::.ptr 0 0 1::.d (.int .i64 dW)::.ptr 2 0 1::.ptr 0 0 0::.d (.int .i64 8)::jn 3 (.d (.bool false)::.d (.bool false)::jn 6 (.d (.bool false)::.d (.bool false)::jn 3 (.d (.bool true)::.d (.bool true)::(bif S.getD 0 false then .ptr 0 0 2 else .J)::(bif S.getD 1 false then .d (.int .i64 eT)else .J)::(bif S.getD 2 false then .ptr 0 0 3 else .J)::(bif S.getD 3 false then .d (.str er)else .J)::(bif S.getD 4 false then .ptr 0 0 4 else .J)::(bif S.getD 5 false then .d (.bool e5)else .J)::(bif S.getD 6 false then .ptr 2 0 2 else .J)::(bif S.getD 8 false then .ptr 2 0 3 else .J)::(bif S.getD 10 false then .ptr 2 0 4 else .J)::jn 10 [])))),[.box [.d (.int .i64 8),.d (.int .i64 dW),.d (.int .i64 eT),.d (.str er),.d (.bool e5),.d (.int .i64 ff),.d (.int .i64 eY),.d (.int .i64 fq),.d (.bool gf)],.box aq.bH,.box [.d (.int .i64 8),.d (.int .i64 dW),(bif S.getD 7 false then .d (.int .i64 eT)else .d (.int .i64 0)),(bif S.getD 9 false then .d (.str er)else .d (.str [])),(bif S.getD 11 false then .d (.bool e5)else .d (.bool false)),.d (.int .i64 0),.d (.int .i64 0),.d (.int .i64 0),.d (.bool false)]]⟩
set_option maxHeartbeats 4000000 in
theorem aad(dV dW eT:Int)(er:List UInt8)(e5:Bool)(ff eY fq:Int)(gf:Bool):PureCall Tryz.prog 250 [.agg [.int .i64 dV,.int .i64 dW,.int .i64 eT,.str er,.bool e5,.int .i64 ff,.int .i64 eY,.int .i64 fq,.bool gf]] [.agg (aq.enc (gV (⟨dV,dW,eT,er,e5,ff,eY,fq,gf⟩:aq)))]:=by
 refine aL 51 Tryz.func250 Tryz.call250 [.cell 2 134] ?_;intro _;by_cases fO:dV=8
 ·subst fO;have ag:lf 8=true:=rfl
  try simp only[go_sem,show decide ((8:Int)=4)=false from rfl,show decide ((8:Int)=5)=false from rfl,show decide ((8:Int)=8)=true from rfl]
  repeat'(refine ae.intro (by apply RE) ?_<;>simp only[go_sem,ag,show decide ((8:Int)=4)=false from rfl,show decide ((8:Int)=5)=false from rfl,show decide ((8:Int)=8)=true from rfl])
  refine hH (fun σ'=>σ'=Hi dW eT er e5 ff eY fq gf (List.replicate 12 true)) ?_ ?_
  ·refine Lc (fun n S σ=>(n,S)∈LP∧σ=Hi dW eT er e5 ff eY fq gf S) ?_ ?_ _ _ _ ⟨by first|exact List.Mem.head _|decide +kernel,rfl⟩
   ·rintro S σ ⟨aX,rfl⟩;simp only[LP,List.mem_cons,N3,List.not_mem_nil,or_false]at aX;rcases aX with ⟨hn,rfl⟩|⟨hn,rfl⟩|⟨hn,rfl⟩|⟨hn,rfl⟩|⟨hn,rfl⟩|⟨hn,rfl⟩|⟨hn,rfl⟩|⟨hn,rfl⟩|⟨hn,rfl⟩|⟨hn,rfl⟩|⟨hn,rfl⟩|⟨hn,rfl⟩|⟨hn,rfl⟩|⟨hn,rfl⟩|⟨hn,rfl⟩|⟨hn,rfl⟩|⟨hn,rfl⟩|⟨hn,rfl⟩|⟨hn,rfl⟩|⟨hn,rfl⟩|⟨hn,rfl⟩|⟨hn,rfl⟩|⟨hn,rfl⟩|⟨hn,rfl⟩|⟨hn,rfl⟩|⟨hn,rfl⟩|⟨hn,rfl⟩|⟨hn,rfl⟩|⟨hn,rfl⟩|⟨hn,rfl⟩|⟨hn,rfl⟩|⟨hn,rfl⟩|⟨hn,rfl⟩|⟨hn,rfl⟩|⟨hn,rfl⟩|⟨hn,rfl⟩|⟨hn,rfl⟩|⟨hn,rfl⟩|⟨hn,rfl⟩|⟨hn,rfl⟩|⟨hn,rfl⟩|⟨hn,rfl⟩|⟨hn,rfl⟩|⟨hn,rfl⟩|⟨hn,rfl⟩|⟨hn,rfl⟩|⟨hn,rfl⟩|⟨hn,rfl⟩|⟨hn,rfl⟩|⟨hn,rfl⟩|⟨hn,rfl⟩|⟨hn,rfl⟩|⟨hn,rfl⟩
    all_goals(first|exact absurd hn (by decide)|skip)
    exact⟨rfl,rfl⟩
   ·rintro n S σ F ⟨aX,rfl⟩ aZ;simp only[LP,List.mem_cons,N3,List.not_mem_nil,or_false]at aX;rcases aX with ⟨hn,rfl⟩|⟨hn,rfl⟩|⟨hn,rfl⟩|⟨hn,rfl⟩|⟨hn,rfl⟩|⟨hn,rfl⟩|⟨hn,rfl⟩|⟨hn,rfl⟩|⟨hn,rfl⟩|⟨hn,rfl⟩|⟨hn,rfl⟩|⟨hn,rfl⟩|⟨hn,rfl⟩|⟨hn,rfl⟩|⟨hn,rfl⟩|⟨hn,rfl⟩|⟨hn,rfl⟩|⟨hn,rfl⟩|⟨hn,rfl⟩|⟨hn,rfl⟩|⟨hn,rfl⟩|⟨hn,rfl⟩|⟨hn,rfl⟩|⟨hn,rfl⟩|⟨hn,rfl⟩|⟨hn,rfl⟩|⟨hn,rfl⟩|⟨hn,rfl⟩|⟨hn,rfl⟩|⟨hn,rfl⟩|⟨hn,rfl⟩|⟨hn,rfl⟩|⟨hn,rfl⟩|⟨hn,rfl⟩|⟨hn,rfl⟩|⟨hn,rfl⟩|⟨hn,rfl⟩|⟨hn,rfl⟩|⟨hn,rfl⟩|⟨hn,rfl⟩|⟨hn,rfl⟩|⟨hn,rfl⟩|⟨hn,rfl⟩|⟨hn,rfl⟩|⟨hn,rfl⟩|⟨hn,rfl⟩|⟨hn,rfl⟩|⟨hn,rfl⟩|⟨hn,rfl⟩|⟨hn,rfl⟩|⟨hn,rfl⟩|⟨hn,rfl⟩|⟨hn,rfl⟩
    rotate_right 1
    ·exact absurd hn (by omega)
    all_goals(
     simp only[Nat.reduceEqDiff]at hn
     try subst hn
     simp only[Hi,pG,oV,cond_true,cond_false];refine QH rfl ?_
     repeat'(first
      |exact vQ
      |(refine vR ?_ ?_)
      |exact aZ _ _ ⟨by first|exact List.Mem.head _|decide +kernel,rfl⟩
      |simp only[go_sem]))
  ·rintro _ rfl;simp only[Hi,List.replicate,pG,oV,cond_true];simp only[go_sem];simp[gV,lf]
 ·skip
  try simp only[go_sem]
  repeat'((first|refine ae.intro (by apply RE) ?_|refine bp (fun h=>?_) (fun h=>?_))<;>simp only[go_sem])
  all_goals(first|(exfalso;simp only[il,kk]at *;omega)|skip)
  all_goals(try(apply yB;(focus ((repeat'(first|exact vQ|(refine vR ?_ ?_)|(refine yC rfl ?_)|(refine yD rfl ?_)|(simp only[go_sem])));all_goals exact rfl));simp only[go_sem]))
  all_goals(simp only[il,kk]at *;first|(exfalso;omega)|(exfalso;simp_all [lf];done)|(simp[gV, *];done)|(simp[gV,lf]at *;simp[ *];done)|(simp_all [gV,lf];done))
theorem aae(f:aq):(bif bif bif bif bif bif !kindOk f.kind then true else !decide (f=gV f)then true else !bJ f.stream then true else !bJ f.offset then true else !bJ f.code then true else !bJ f.a8 then true else !bJ f.bj)=!(kindOk f.kind&&decide (f=gV f)&&bJ f.stream&&bJ f.offset&&bJ f.code&&bJ f.a8&&bJ f.bj):=by
 cases kindOk f.kind<;>cases decide (f=gV f)<;>cases bJ f.stream<;>cases bJ f.offset<;>cases bJ f.code<;>cases bJ f.a8<;>cases bJ f.bj<;>rfl
def B7(f:aq):Bool:=kindOk f.kind&&decide (f=gV f)&&bJ f.stream&&bJ f.offset&&bJ f.code&&bJ f.a8&&bJ f.bj
theorem aaf(f:aq):e_ f=(B7 f&&if f.kind=18∨f.kind=22 then decide (f.a8≤1152921504606846976)else(decide ((f.data.length:Int)≤400)&&decide (f.offset≤IntKind.i64.wrap (4611686018427387903-(f.data.length:Int))))):=by
 by_cases hu:gV f=f
 ·have h1:f.offset=if f.kind=8 then f.offset else 0:=congrArg aq.offset hu.symm
  have h2:f.data=if f.kind=8 then f.data else []:=congrArg aq.data hu.symm
  have ag:decide (gV f=f)=true:=bc hu;have e2:decide (f=gV f)=true:=bc hu.symm;unfold e_ Aq B7;rw[ag,e2];by_cases fO:f.kind=8
  ·have jq:¬(f.kind=18∨f.kind=22):=by omega
   simp only[fO,if_true];rw[←fO];simp only[jq,if_false];have e:(!decide (400<(f.data.length:Int)))=decide ((f.data.length:Int)≤400):=by by_cases h:(f.data.length:Int)≤400<;>simp[h]<;>omega
   rw[e];simp only[Bool.and_assoc]
  ·rw[if_neg fO]at h1 h2;have w:decide ((0:Int)≤IntKind.i64.wrap (4611686018427387903-(([]:List UInt8).length:Int)))=true:=by decide
   by_cases jq:f.kind=18∨f.kind=22
   ·rw[if_neg fO,if_pos jq,if_pos jq,h1,h2];simp
   ·rw[if_neg fO,if_neg jq,if_neg jq,h1,h2,w];simp
 ·have ag:decide (gV f=f)=false:=a_ hu;have e2:decide (f=gV f)=false:=a_ (fun h=>hu h.symm);unfold e_ Aq B7;rw[ag,e2];simp
set_option maxHeartbeats 4000000 in
theorem Xk(dV dW eT:Int)(er:List UInt8)(e5:Bool)(ff eY fq:Int)(gf:Bool):PureCall Tryz.prog 208 [.agg [.int .i64 dV,.int .i64 dW,.int .i64 eT,.str er,.bool e5,.int .i64 ff,.int .i64 eY,.int .i64 fq,.bool gf]] [.one (.bool (e_ (⟨dV,dW,eT,er,e5,ff,eY,fq,gf⟩:aq)))]:=by
 refine aL 67 Tryz.func208 Tryz.call208 [.tmp 2] ?_;intro _;have hk:decide (wi dV=[])=!kindOk dV:=by have:=RD dV;rw[←this];cases wi dV<;>rfl
 have hf:=RG (⟨dV,dW,eT,er,e5,ff,eY,fq,gf⟩:aq) (gV (⟨dV,dW,eT,er,e5,ff,eY,fq,gf⟩:aq));simp only at hf;have ah:=aae (⟨dV,dW,eT,er,e5,ff,eY,fq,gf⟩:aq)
 try simp only[go_sem]
 repeat'((first|refine ao.intro (by first|apply aaa|apply aad|apply ng) ?_|refine eJ ?_|refine ba RH (by kernel_rfl) (by rfl) ?_)<;>simp only[go_sem,hk,hf])
 rw[ah];rw[aaf]
 cases df:B7 (⟨dV,dW,eT,er,e5,ff,eY,fq,gf⟩:aq)with
 |false=>
  unfold B7 at df;rw[df];simp only[go_sem,Bool.not_false]
  try simp
 |true=>
  unfold B7 at df;rw[df];simp only[go_sem,Bool.not_true]
  try simp only[go_sem]
  repeat'((first|refine bb ?_|refine bp (fun h=>?_) (fun h=>?_))<;>simp only[go_sem])
  ·have h':dV=18∨dV=22:=by revert h;simp
   simp[h']
  ·have h':¬(dV=18∨dV=22):=by revert h;simp
   simp only[if_neg h',cf]
set_option maxRecDepth 100000
def QZ:List (List bt):=ct 10 [55769,57958,58963,58945,59008,58810,58324,56863,52488,39366]
attribute [go_sem] QZ
set_option maxHeartbeats 2000000 in
theorem Q0(c:I):PureCall Tryz.prog 269 [.agg (I.enc c)] [.agg (eh.enc ((tU c).1)),.one (.bool (tU c).2)]:=by
 refine aL 26 Tryz.func269 Tryz.call269 [.cell 2 30,.tmp 3] ?_;intro _
 try simp only[go_sem]
 repeat'(refine ae.intro (by apply LA) ?_<;>simp only[go_sem])
 cases h:Ai c.dA with
 |true=>
  try simp only[go_sem]
  repeat'(refine ae.intro (by apply Q1) ?_<;>simp only[go_sem])
  simp[tU,h]
 |false=>
  simp only[go_sem];apply yB;(focus ((repeat'(first|exact vQ|(refine vR ?_ ?_)|(refine yC rfl ?_)|(refine yD rfl ?_)|(simp only[go_sem])));all_goals exact rfl));simp only[go_sem];simp[tU,h]
theorem G7(et eu ew eF:Int)(t:Bool):PureCall Tryz.prog 270 [.agg [.int .i64 et,.int .i64 eu,.int .i64 ew,.int .i64 eF],.one (.bool t)] [.agg [.int .i64 ((jR (⟨et,eu,ew,eF⟩:du) t).1).most,.int .i64 ((jR (⟨et,eu,ew,eF⟩:du) t).1).a8,.int .i64 ((jR (⟨et,eu,ew,eF⟩:du) t).1).seen,.int .i64 ((jR (⟨et,eu,ew,eF⟩:du) t).1).closed],.one (.bool ((jR (⟨et,eu,ew,eF⟩:du) t).2))]:=by
 refine aL 19 Tryz.func270 Tryz.call270 [.cell 4 34,.tmp 5] ?_;intro _
 try simp only[go_sem]
 repeat'((first|refine ae.intro (by first|apply Q2|apply Zj) ?_|refine bp (fun h=>?_) (fun h=>?_))<;>simp only[go_sem])
 all_goals simp[jR, *]
theorem Zk(s:aa):(bif bif !s.eD then true else decide (s.recv.state≠0)then true else s.jo)=!G8 s:=by
 unfold G8
 cases s.eD<;>cases s.jo<;>by_cases h:s.recv.state=0<;>simp[h]
set_option maxHeartbeats 2000000 in
theorem Q3(c:I)(s:aa):PureCall Tryz.prog 312 [.agg (I.enc c),.agg (aa.enc s)] [.agg (eh.enc ((ph c s).1)),.one (.bool (ph c s).2)]:=by
 refine aL 43 Tryz.func312 Tryz.call312 [.cell 4 30,.tmp 5] ?_;intro _;have bw:=Zk s
 try simp only[go_sem]
 repeat'(refine bb ?_<;>simp only[go_sem])
 rw[bw]
 cases hg:G8 s with
 |false=>
  try simp only[go_sem,Bool.not_false]
  all_goals simp[ph, *]
 |true=>
  try simp only[go_sem,Bool.not_true]
  repeat'(refine ae.intro (by apply LA) ?_<;>simp only[go_sem])
  cases h:Ai s.bP with
  |true=>
   try simp only[go_sem]
   repeat'(refine ae.intro (by apply Q1) ?_<;>simp only[go_sem])
   simp[ph,h,hg]
  |false=>
   simp only[go_sem];apply yB;(focus ((repeat'(first|exact vQ|(refine vR ?_ ?_)|(refine yC rfl ?_)|(refine yD rfl ?_)|(simp only[go_sem])));all_goals exact rfl));simp only[go_sem];simp[ph,h,hg]
theorem Zl(s:aa):(bif bif tV s.cV then s.ee else false then decide (0<(s.send.pending.length:Int))else false)=(tV s.cV&&s.ee&&decide (0<(s.send.pending.length:Int))):=by cases tV s.cV<;>cases s.ee<;>rfl
theorem Zm(s:aa):(bif s.iy then decide (s.recv.state<2)else false)=(s.iy&&decide (s.recv.state<2)):=by cases s.iy<;>rfl
set_option maxHeartbeats 4000000 in
theorem Zn(c:I)(s:aa):PureCall Tryz.prog 271 [.agg (I.enc c),.agg (aa.enc s)] [.one (.sl 9 ((jS c s).map aq.enc))]:=by
 refine tC 78 Tryz.func271 Tryz.call271 [.tmp 4] ?_;intro ok;clear ok;have ah:jS c s=nM s++tW s++xx c s++yQ s:=rfl;have hL:=DY c s;rw[ah]at hL;simp only[List.length_append]at hL;refine ej hZ 3 (α:=List aq) (fun cu=>⟨(.J::.J::.ptr 0 0 0::.ptr 1 0 0::.J::.sl 2 0 cu.length::jn 72 []),[.box (I.bM c),.box (aa.bM s),.ai 9 (cu.map aq.enc) true]⟩) (fun cu=>cu=nM s) ?_ ?_
 ·skip
  try simp only[go_sem]
  cases h:s.ix with
  |true=>
   try simp only[go_sem]
   repeat'(first|(with_reducible refine al ?_)|fail)
   refine di.intro (nM s) [0,1,4] rfl ?_;simp only[go_sem];simp[nM,h,yR,aq.enc]
  |false=>
   simp only[go_sem];refine di.intro (nM s) [0,1,2] rfl ?_;simp only[go_sem];simp[nM,h]
 rintro cu ek;have hG:cu.length≤4:=by rw[ek];(try simp only[List.length_append]);omega
 refine ej hZ 1 (α:=List aq) (fun cu=>⟨(.J::.J::.ptr 0 0 0::.ptr 1 0 0::.J::.sl 2 0 cu.length::jn 72 []),[.box (I.bM c),.box (aa.bM s),.ai 9 (cu.map aq.enc) true]⟩) (fun cu=>cu=nM s++tW s) ?_ ?_
 ·skip
  try simp only[go_sem]
  repeat'(refine bb ?_<;>simp only[go_sem])
  rw[Zm s]
  cases h:s.iy&&decide (s.recv.state<2)with
  |true=>
   try simp only[go_sem,lM]
   repeat'(first|(with_reducible refine al ?_)|fail)
   refine di.intro (nM s++tW s) [0,1,4] rfl ?_;simp only[go_sem];simp[tW,h,ek,yR,aq.enc]
  |false=>
   simp only[go_sem];refine di.intro (nM s++tW s) [0,1,2] rfl ?_;simp only[go_sem];simp[tW,h,ek]
 rintro cu ek;have hG:cu.length≤4:=by rw[ek];(try simp only[List.length_append]);omega
 refine ej hZ 2 (α:=List aq) (fun cu=>⟨(.J::.J::.ptr 0 0 0::.ptr 1 0 0::.J::.sl 2 0 cu.length::jn 72 []),[.box (I.bM c),.box (aa.bM s),.ai 9 (cu.map aq.enc) true]⟩) (fun cu=>cu=nM s++tW s++xx c s) ?_ ?_
 ·skip
  try simp only[go_sem]
  repeat'(refine ae.intro (by apply Q3) ?_<;>simp only[go_sem])
  cases h:(ph c s).2 with
  |true=>
   try simp only[go_sem,lM]
   repeat'(first|(with_reducible refine al ?_)|fail)
   refine di.intro (nM s++tW s++xx c s) [0,1,5] rfl ?_;simp only[go_sem];simp[xx,h,ek,vZ,aq.enc]
  |false=>
   simp only[go_sem];refine di.intro (nM s++tW s++xx c s) [0,1,2] rfl ?_;simp only[go_sem];simp[xx,h,ek]
 rintro cu ek;have hG:cu.length≤4:=by rw[ek];(try simp only[List.length_append]);omega
 refine gO hZ ?_
 try simp only[go_sem]
 repeat'((first|refine ae.intro (by apply Q4) ?_|refine bb ?_)<;>simp only[go_sem,lM])
 rw[Zl s]
 cases h:tV s.cV&&s.ee&&decide (0<(s.send.pending.length:Int))with
 |true=>
  have aZ:yQ s=[vZ 21 s.id s.cV.a8]:=by unfold yQ;rw[h];rfl
  try simp only[go_sem,lM]
  repeat'(first|(with_reducible refine al ?_)|fail)
  rw[ah,←ek,aZ];simp[vZ,aq.enc,List.take_of_length_le]
 |false=>
  have aZ:yQ s=[]:=by unfold yQ;rw[h];rfl
  try simp only[go_sem,lM]
  repeat'(first|(with_reducible refine al ?_)|fail)
  rw[ah,←ek,aZ];simp
def iJ(c:I):List aq:=(if(tU c).2 then [jd 16 (tU c).1.a8 false]else [])
def jT(c:I):List aq:=(if(jR c.dH c.nN).2 then [jd 18 (jR c.dH c.nN).1.a8 false]else [])
def kS(c:I):List aq:=(if(jR c.dI c.nO).2 then [jd 18 (jR c.dI c.nO).1.a8 true]else [])
def pj(c:I):List aq:=(if tV c.c8 then [jd 20 c.c8.a8 false]else [])
def v7(c:I):List aq:=(if c.eC.blocked=c.eC.a8 then [jd 22 c.eC.a8 false]else [])
def BV(c:I):List aq:=(if c.eB.blocked=c.eB.a8 then [jd 22 c.eB.a8 true]else [])
theorem DZ(b:Prop)[Decidable b](f:aq):(if b then [f]else []).length≤1:=by split<;>simp
set_option maxHeartbeats 8000000 in
theorem Zo(c:I)(hz:e0 c):PureCall Tryz.prog 234 [.agg (I.enc c)] [.one (.sl 9 ((je c).map aq.enc))]:=by
 refine tC 113 Tryz.func234 Tryz.call234 [.tmp 2] ?_;intro ok;clear ok;have jU:c.streams.length≤30:=hz.1;have ah:je c=if fM c then iJ c++jT c++kS c++c.streams.flatMap (jS c)++(pj c++v7 c++BV c)else []:=rfl
 have bD:(iJ c).length≤1:=DZ _ _;have bR:(jT c).length≤1:=DZ _ _;have a3:(kS c).length≤1:=DZ _ _;have nH:(pj c).length≤1:=DZ _ _;have kC:(v7 c).length≤1:=DZ _ _;have ahg:=G9 (jS c) 4 c.streams fun s _=>DY c s;refine ej hZ 3 (α:=List aq) (fun cu=>⟨(.J::.ptr 0 0 0::.J::.sl 1 0 cu.length::jn 109 []),[.box (I.bM c),.ai 9 (cu.map aq.enc) true]⟩) (fun cu=>cu=[]∧fM c=true) ?_ ?_
 ·skip
  try simp only[go_sem]
  repeat'(refine ae.intro (by(apply tD<;>first|assumption|omega)) ?_<;>simp only[go_sem])
  cases h:fM c with
  |false=>
   simp only[go_sem,Bool.not_false];rw[ah,h];simp
  |true=>
   simp only[go_sem,Bool.not_true];refine di.intro [] [0,1] (by first|exact⟨rfl,rfl⟩|rfl) ?_;simp only[go_sem];simp
 rintro cu ⟨ek,aZ⟩;have ah:je c=iJ c++jT c++kS c++c.streams.flatMap (jS c)++(pj c++v7 c++BV c):=by rw[ah,aZ];rfl
 have hG:cu.length≤0:=by rw[ek];simp
 refine ej hZ 2 (α:=List aq) (fun cu=>⟨(.J::.ptr 0 0 0::.J::.sl 1 0 cu.length::jn 109 []),[.box (I.bM c),.ai 9 (cu.map aq.enc) true]⟩) (fun cu=>cu=iJ c) ?_ ?_
 ·skip
  try simp only[go_sem]
  repeat'(refine ae.intro (by apply Q0) ?_<;>simp only[go_sem])
  cases h:(tU c).2 with
  |true=>
   have bo:iJ c=[jd 16 (tU c).1.a8 false]:=by unfold iJ;rw[h];rfl
   try simp only[go_sem,lM]
   repeat'(first|(with_reducible refine al ?_)|fail)
   refine di.intro (iJ c) [0,4] rfl ?_;simp only[go_sem];simp[bo,ek,jd,aq.enc]
  |false=>
   have bo:iJ c=[]:=by unfold iJ;rw[h];rfl
   simp only[go_sem];refine di.intro (iJ c) [0,1] rfl ?_;simp only[go_sem];simp[bo,ek]
 clear hG ek;rintro cu ek;have hG:cu.length≤100:=by rw[ek];(try simp only[List.length_append]);omega
 refine ej hZ 2 (α:=List aq) (fun cu=>⟨(.J::.ptr 0 0 0::.J::.sl 1 0 cu.length::jn 109 []),[.box (I.bM c),.ai 9 (cu.map aq.enc) true]⟩) (fun cu=>cu=iJ c++jT c) ?_ ?_
 ·skip
  try simp only[go_sem]
  repeat'(refine ae.intro (by apply G7) ?_<;>simp only[go_sem])
  cases h:(jR c.dH c.nN).2 with
  |true=>
   have bo:jT c=[jd 18 (jR c.dH c.nN).1.a8 false]:=by unfold jT;rw[h];rfl
   try simp only[go_sem,lM]
   repeat'(first|(with_reducible refine al ?_)|fail)
   refine di.intro (iJ c++jT c) [0,4] rfl ?_;simp only[go_sem];simp[bo,ek,jd,aq.enc]
  |false=>
   have bo:jT c=[]:=by unfold jT;rw[h];rfl
   simp only[go_sem];refine di.intro (iJ c++jT c) [0,1] rfl ?_;simp only[go_sem];simp[bo,ek]
 clear hG ek;rintro cu ek;have hG:cu.length≤100:=by rw[ek];(try simp only[List.length_append]);omega
 refine ej hZ 2 (α:=List aq) (fun cu=>⟨(.J::.ptr 0 0 0::.J::.sl 1 0 cu.length::jn 109 []),[.box (I.bM c),.ai 9 (cu.map aq.enc) true]⟩) (fun cu=>cu=iJ c++jT c++kS c) ?_ ?_
 ·skip
  try simp only[go_sem]
  repeat'(refine ae.intro (by apply G7) ?_<;>simp only[go_sem])
  cases h:(jR c.dI c.nO).2 with
  |true=>
   have bo:kS c=[jd 18 (jR c.dI c.nO).1.a8 true]:=by unfold kS;rw[h];rfl
   try simp only[go_sem,lM]
   repeat'(first|(with_reducible refine al ?_)|fail)
   refine di.intro (iJ c++jT c++kS c) [0,4] rfl ?_;simp only[go_sem];simp[bo,ek,jd,aq.enc,Nat.add_assoc]
  |false=>
   have bo:kS c=[]:=by unfold kS;rw[h];rfl
   simp only[go_sem];refine di.intro (iJ c++jT c++kS c) [0,1] rfl ?_;simp only[go_sem];simp[bo,ek]
 clear hG ek;rintro cu ek;have hG:cu.length≤100:=by rw[ek];(try simp only[List.length_append]);omega
 refine ej hZ 1 (α:=List aq) (fun cu=>⟨(.J::.ptr 0 0 0::.J::.sl 1 0 cu.length::jn 109 []),[.box (I.bM c),.ai 9 (cu.map aq.enc) true]⟩) (fun cu=>cu=iJ c++jT c++kS c++c.streams.flatMap (jS c)) ?_ ?_
 ·simp only[go_sem];subst ek;refine b5.intro (α:=Nat×List aq) (fun y=>⟨(.J::.ptr 0 0 0::.J::.sl 1 0 y.2.length::jn 6 (.d (.int .i64 y.1)::jn 102 [])),[.box (I.bM c),.ai 9 (y.2.map aq.enc) true]⟩)
   (fun y=>c.streams.length-y.1) (fun y=>y.1≤c.streams.length∧y.2=iJ c++jT c++kS c++(c.streams.take y.1).flatMap (jS c)) (0,iJ c++jT c++kS c) [0,1] ⟨by simp,by simp⟩ ?_ ?_
  ·simp only[go_sem];simp
  ·rintro⟨i,q⟩ ⟨hi,hq⟩;simp only at hi hq;by_cases h1:i<c.streams.length
   ·have ar:decide ((i:Int)<(c.streams.length:Int))=true:=bc (by omega);have av:=bZ aa.enc c.streams i h1;have hw:IntKind.i64.wrap ((i:Int)+1)=((i+1:Nat):Int):=by rw[bC]<;>omega
    have hs:iJ c++jT c++kS c++(c.streams.take (i+1)).flatMap (jS c)=q++jS c c.streams[i]:=by
     rw[hq,List.take_add_one,dg h1,List.flatMap_append];simp
    have lU:q.length≤3+4 * i:=by
     have:=G9 (jS c) 4 (c.streams.take i) fun s _=>DY c s;rw[List.length_take]at this;rw[hq];simp only[List.length_append];omega
    have YS:=DY c c.streams[i];have aX:=Zn c c.streams[i];generalize jS c c.streams[i]=r at *
    try simp only[go_sem,lM,ar]
    repeat'(first|((first|refine ae.intro (by assumption) ?_|refine ao.intro (by assumption) ?_|refine ba QZ (by kernel_rfl) (by rfl) ?_)<;>simp only[go_sem,lM,aF,av,aa.enc])|(with_reducible refine al ?_)|fail)
    refine bm.intro (i+1,q++r) [0,3] ⟨by simp only;omega,hs.symm⟩ (by simp only;omega) ?_;simp only[go_sem,hw];simp
   ·have ar:decide ((i:Int)<(c.streams.length:Int))=false:=a_ (by omega);obtain rfl:i=c.streams.length:=by omega
    rw[dB]at hq;subst hq;simp only[go_sem,lM,ar];refine di.intro (iJ c++jT c++kS c++c.streams.flatMap (jS c)) [0,1] rfl ?_;simp only[go_sem];simp
 clear hG ek;rintro cu ek;have hG:cu.length≤123:=by rw[ek];(try simp only[List.length_append]);omega
 refine ej hZ 1 (α:=List aq) (fun cu=>⟨(.J::.ptr 0 0 0::.J::.sl 1 0 cu.length::jn 109 []),[.box (I.bM c),.ai 9 (cu.map aq.enc) true]⟩) (fun cu=>cu=iJ c++jT c++kS c++c.streams.flatMap (jS c)++pj c) ?_ ?_
 ·skip
  try simp only[go_sem]
  repeat'(refine ae.intro (by apply Q4) ?_<;>simp only[go_sem])
  cases h:tV c.c8 with
  |true=>
   have bo:pj c=[jd 20 c.c8.a8 false]:=by unfold pj;rw[h];rfl
   try simp only[go_sem,lM]
   repeat'(first|(with_reducible refine al ?_)|fail)
   refine di.intro (iJ c++jT c++kS c++c.streams.flatMap (jS c)++pj c) [0,3] rfl ?_;simp only[go_sem];simp[bo,ek,jd,aq.enc,Nat.add_assoc]
  |false=>
   have bo:pj c=[]:=by unfold pj;rw[h];rfl
   simp only[go_sem];refine di.intro (iJ c++jT c++kS c++c.streams.flatMap (jS c)++pj c) [0,1] rfl ?_;simp only[go_sem];simp[bo,ek,Nat.add_assoc]
 clear hG ek;rintro cu ek;have hG:cu.length≤130:=by rw[ek];(try simp only[List.length_append]);omega
 refine ej hZ 1 (α:=List aq) (fun cu=>⟨(.J::.ptr 0 0 0::.J::.sl 1 0 cu.length::jn 109 []),[.box (I.bM c),.ai 9 (cu.map aq.enc) true]⟩) (fun cu=>cu=iJ c++jT c++kS c++c.streams.flatMap (jS c)++pj c++v7 c) ?_ ?_
 ·skip
  try simp only[go_sem]
  cases h:decide (c.eC.blocked=c.eC.a8)with
  |true=>
   have bo:v7 c=[jd 22 c.eC.a8 false]:=by unfold v7;exact if_pos (ch h)
   try simp only[go_sem,lM]
   repeat'(first|(with_reducible refine al ?_)|fail)
   refine di.intro (iJ c++jT c++kS c++c.streams.flatMap (jS c)++pj c++v7 c) [0,3] rfl ?_;simp only[go_sem];simp[bo,ek,jd,aq.enc,Nat.add_assoc]
  |false=>
   have bo:v7 c=[]:=by unfold v7;exact if_neg (cD h)
   simp only[go_sem];refine di.intro (iJ c++jT c++kS c++c.streams.flatMap (jS c)++pj c++v7 c) [0,1] rfl ?_;simp only[go_sem];simp[bo,ek,Nat.add_assoc]
 clear hG ek;rintro cu ek;have hG:cu.length≤130:=by rw[ek];(try simp only[List.length_append]);omega
 refine gO hZ ?_
 try simp only[go_sem]
 cases h:decide (c.eB.blocked=c.eB.a8)with
 |true=>
  have bo:BV c=[jd 22 c.eB.a8 true]:=by unfold BV;exact if_pos (ch h)
  try simp only[go_sem,lM]
  repeat'(first|(with_reducible refine al ?_)|fail)
  rw[ah,←List.append_assoc,←List.append_assoc,←ek,bo];simp[jd,aq.enc,List.take_of_length_le]
 |false=>
  have bo:BV c=[]:=by unfold BV;exact if_neg (cD h)
  try simp only[go_sem,lM]
  repeat'(first|(with_reducible refine al ?_)|fail)
  rw[ah,←List.append_assoc,←List.append_assoc,←ek,bo];simp
set_option maxRecDepth 100000
theorem Rk(i dh:Int)(cp:List UInt8)(cP:Bool):PureCall Tryz.prog 282 [.one (.int .i64 i),.agg [.int .i64 dh,.str cp,.bool cP]] [.agg (aq.enc (nQ i (⟨dh,cp,cP⟩:b2)))]:=by
 refine aL 13 Tryz.func282 Tryz.call282 [.cell 4 134] ?_;intro _
 try simp only[go_sem]
 all_goals simp[nQ]
theorem ZP(s:aa):(bif bif s.ee then decide (s.send.state<3)else false then bif decide (0<(s.send.pending.length:Int))then true else decide (s.send.bd=1)else false)=wants s:=by
 unfold wants
 cases s.ee<;>cases decide (s.send.state<3)<;>cases decide (0<(s.send.pending.length:Int))<;>rfl
theorem ZQ(l:List aa)(i:Nat)(h:i<l.length):((l.take (i+1)).filter wants).map Am=((l.take i).filter wants).map Am++(if wants l[i]then [Am l[i]]else []):=by
 rw[List.take_add_one,dg h,List.filter_append,List.map_append]
 cases hw:wants l[i]<;>simp[hw]
set_option maxHeartbeats 4000000 in
theorem ZB(c:I)(hz:e0 c):PureCall Tryz.prog 276 [.agg (I.enc c)] [.one (.sl 3 ((xB c).map db.enc))]:=by
 refine aL 49 Tryz.func276 Tryz.call276 [.tmp 2] ?_;intro ok;clear ok;have jU:=hz.1;simp only[go_sem];refine b5.intro (α:=Nat×List db) (fun y=>⟨(.J::.ptr 0 0 0::.J::.sl 1 0 y.2.length::.d (.int .i64 y.1)::jn 44 []),[.box (I.bM c),.ai 3 (y.2.map db.enc) true]⟩)
  (fun y=>c.streams.length-y.1) (fun y=>y.1≤c.streams.length∧y.2=((c.streams.take y.1).filter wants).map Am) (0,[]) [0,1] ⟨by simp,by simp⟩ ?_ ?_
 ·simp only[go_sem];simp
 ·rintro⟨i,q⟩ ⟨hi,hq⟩;simp only at hi hq;by_cases h1:i<c.streams.length
  ·have ar:decide ((i:Int)<(c.streams.length:Int))=true:=bc (by omega);have av:=bZ aa.enc c.streams i h1;have hw:IntKind.i64.wrap ((i:Int)+1)=((i+1:Nat):Int):=by rw[bC]<;>omega
   have hs:=ZQ c.streams i h1;rw[←hq]at hs;have lU:q.length≤i:=by rw[hq,lM];exact Nat.le_trans (List.length_filter_le _ _) (by simp;omega)
   have bw:=ZP c.streams[i];generalize c.streams[i]=s at *
   try simp only[go_sem,lM,aF,av,aa.enc,ar]
   repeat'(first|(refine bb ?_<;>simp only[go_sem,lM])|(with_reducible refine al ?_)|fail)
   rw[bw]
   cases hW:wants s with
   |true=>
    rw[hW,if_pos rfl]at hs
    try simp only[go_sem,lM]
    repeat'(first|(with_reducible refine al ?_)|fail)
    refine bm.intro (i+1,q++[Am s]) [0,4] ⟨by simp only;omega,hs.symm⟩ (by simp only;omega) ?_;simp only[go_sem,hw];simp[Am,db.enc]
   |false=>
    rw[hW,if_neg (by simp),List.append_nil]at hs;simp only[go_sem];refine bm.intro (i+1,q) [0,1] ⟨by simp only;omega,hs.symm⟩ (by simp only;omega) ?_;simp only[go_sem,hw];simp
  ·have ar:decide ((i:Int)<(c.streams.length:Int))=false:=a_ (by omega);obtain rfl:i=c.streams.length:=by omega
   rw[dB]at hq;simp only[go_sem,lM,ar];simp[xB,hq]
theorem ZR(c:I)(id cO:Int):(bif bif bif !eQ c then true else !(strOf c.streams id).2 then true else !(aE c id).ee then true else decide (cO<3))=!Ao c id cO:=by
 unfold Ao
 cases eQ c<;>cases(strOf c.streams id).2<;>cases(aE c id).ee<;>cases decide (cO<3)<;>rfl
theorem ZS(c:I)(id:Int):(bif bif !eQ c then true else !(strOf c.streams id).2 then true else !(aE c id).ee)=!B1 c id:=by
 unfold B1
 cases eQ c<;>cases(strOf c.streams id).2<;>cases(aE c id).ee<;>rfl
theorem ZT(a b c:Bool):(bif bif !a then true else !b then true else !c)=!(a&&b&&c):=by cases a<;>cases b<;>cases c<;>rfl
set_option maxHeartbeats 8000000 in
theorem ZN(c:I)(id:Int)(p:b2)(hz:e0 c)(hd:p.data.length≤1048576)(hw:dT (u5 (aE c id) p)):PureCall Tryz.prog 281 [.agg (I.enc c),.one (.int .i64 id),.agg [.int .i64 p.offset,.str p.data,.bool p.bd]] [.agg (I.enc ((Ap c id p))),.one (.bool (xE c id p))]:=by
 refine aL 91 Tryz.func281 Tryz.call281 [.cell 6 37,.tmp 7] ?_;intro ok;clear ok;have jk:=iQ hz;have hC:Ap c id p=if xE c id p then {c with c8:=wc c.c8 (we (aE c id) p),fk:=id,streams:=putS c.streams (u5 (aE c id) p)}else c:=rfl
 have bo:xE c id p=(B1 c id&&(oD (aE c id).send p&&u7 (aE c id).cV (we (aE c id) p)&&u7 c.c8 (we (aE c id) p))):=rfl;have bw:=ZS c id;obtain⟨cU,c9,cq,dd⟩:=mR hz.2.1 id;have b1:=mm c id hz;rw[show(strOf c.streams id).1=aE c id from rfl]at cU c9 cq dd b1;have gp:=k4 c.streams (u5 (aE c id) p) (by have:=hz.1;omega) hz.2.1 hw;generalize aE c id=s at *;have hn:IntKind.i64.wrap ((pk s.send p).sent-s.send.sent)=we s p:=rfl
 try simp only[go_sem]
 repeat'((first|refine ae.af (by first|assumption|(apply gg<;>first|assumption|omega)|(apply vV<;>first|assumption|omega)) ?_|refine ao.af (by assumption) ?_|refine bb ?_)<;>simp only[go_sem,lM])
 rw[bw]
 cases hg:B1 c id with
 |false=>
  rw[hg,Bool.false_and]at bo;rw[bo]at hC;simp only[go_sem,lM,Bool.not_false];simp[hC,bo]
 |true=>
  rw[hg,Bool.true_and]at bo
  try simp only[go_sem,lM,Bool.not_true]
  repeat'((first|refine ae.af (by first|assumption|(apply ZU<;>first|assumption|omega)|apply ZV) ?_|refine ao.af (by assumption) ?_|refine bb ?_)<;>simp only[go_sem,lM,hn])
  have xw:=ZT (oD s.send p) (u7 s.cV (we s p)) (u7 c.c8 (we s p));rw[xw,←bo]
  cases hk:xE c id p with
  |false=>
   rw[hk]at hC;simp only[go_sem,lM,Bool.not_false];simp[hC]
  |true=>
   rw[hk]at hC
   try simp only[go_sem,lM,Bool.not_true]
   repeat'(first|((first|refine ae.af (by assumption) ?_|refine ao.af (by assumption) ?_)<;>simp only[go_sem,lM,u5])|(with_reducible refine al ?_)|fail)
   simp[hC,u5]
set_option maxRecDepth 100000
def Rm:List (List bt):=ct 12 [501929,501927,501921,521950,521896,521734,531076,529618,525244,511771,472392,354294]
attribute [go_sem] Rm
set_option maxHeartbeats 8000000 in
theorem ZJ(c:I)(id cO:Int)(m:Nat)(hv:b6 m c)(hm:m≤20):PureCall Tryz.prog 279 [.agg (I.enc c),.one (.int .i64 id),.one (.int .i64 cO)] [.agg [.int .i64 ((wa c id cO).1).offset,.str ((wa c id cO).1).data,.bool ((wa c id cO).1).bd],.one (.bool (wa c id cO).2)]:=by
 refine aL 73 Tryz.func279 Tryz.call279 [.cell 6 251,.tmp 7] ?_;intro ok;clear ok;have hz:=hv.sz hm;have B2:=(hv.aE id).snd;have B3:=B2.p;have kF:(aE c id).send.ring.b'≤4611686018427387903:=by have:=B2.ag;omega
 clear B2;have hC:wa c id cO=if Ao c id cO then pfGo (aE c id).send id (D4 c (aE c id)) cO (cG cO 60).toNat else(pn,false):=rfl
 have bw:=ZR c id cO;have hl:D4 c (aE c id)=cG (aE c id).cV.a8 (IntKind.i64.wrap ((aE c id).send.sent+B4 c.c8)):=rfl;obtain⟨cU,c9,cq,dd⟩:=mR hz.2.1 id;have b1:=mm c id hz;rw[show(strOf c.streams id).1=aE c id from rfl]at cU c9 cq dd b1;have KQ:Ao c id cO=true→3≤cO:=fun h=>by
  simp only[Ao,cX,Bool.not_eq_true',kk]at h;omega
 generalize aE c id=s at *
 try simp only[go_sem]
 repeat'((first|refine ae.af (by first|assumption|(apply vV<;>first|assumption|omega)) ?_|refine ao.af (by assumption) ?_|refine bb ?_)<;>simp only[go_sem,lM])
 rw[bw]
 cases hg:Ao c id cO with
 |false=>
  rw[hg]at hC;simp only[go_sem,Bool.not_false];simp[hC,pn]
 |true=>
  rw[hg,if_pos rfl]at hC;have aj:=KQ hg
  try simp only[go_sem,Bool.not_true]
  repeat'((first|refine ae.af (by assumption) ?_|refine ao.af (by first|assumption|apply ZW) ?_|refine ba Rm (by kernel_rfl) (by rfl) ?_)<;>simp only[go_sem])
  obtain⟨N,bo⟩:=Int.eq_ofNat_of_zero_le (show 0≤cG cO 60 by unfold cG;split<;>omega);have ahn:cG cO 60≤60:=by unfold cG;split<;>omega
  have ZX:N≤60:=by omega
  rw[bo,aF]at hC;have ZY:(if 60<cO then 60 else cO)=(N:Int):=by rw[←bo];rfl
  have LJ:(if IntKind.i64.wrap (s.send.sent+B4 c.c8)<s.cV.a8 then IntKind.i64.wrap (s.send.sent+B4 c.c8)else s.cV.a8)=D4 c s:=rfl;generalize D4 c s=kU at *;refine b5.intro (fun n:Nat=>⟨(.J::.d (.int .i64 id)::.d (.int .i64 cO)::.ptr 0 0 0::.J::.J::.ptr 1 0 0::.J::.ptr 7 0 0::.J::.d (.int .i64 kU)::.d (.int .i64 n)::jn 61 []),[.box (I.bM c),.box [.d (.int .i64 0),.d (.str []),.d (.bool false)],.af 1 (s.send.ring.cells.map aW),.af 2 (s.send.pending.map ab.enc),.af 2 (s.send.flight.map ab.enc),.af 2 (s.send.bK.map ab.enc),.af 2 (s.recv.buffer.bu.map aB.enc),.box (aa.vc s (.sl 2 0 s.send.ring.cells.length) (.sl 3 0 s.send.pending.length) (.sl 4 0 s.send.flight.length) (.sl 5 0 s.send.bK.length) (.sl 6 0 s.recv.buffer.bu.length))]⟩)
   (fun n=>n) (fun n=>n≤60∧pfGo s.send id kU cO n=wa c id cO) N [0,1,2,3,4,5,6,7] ⟨ZX,hC.symm⟩ ?_ ?_
  ·simp only[go_sem];simp[ZY,LJ]
  ·rintro n ⟨hn,ah⟩
   cases n with
   |zero=>
    have hd:decide ((0:Int)<((0:Nat):Int))=false:=by decide
    simp only[go_sem,hd];rw[pfGo]at ah;rw[←ah];simp[pn]
   |succ k=>
    have hd:decide ((0:Int)<((k+1:Nat):Int))=true:=bc (by omega);have hw:IntKind.i64.wrap (((k+1:Nat):Int)-1)=(k:Int):=by rw[bC]<;>omega
    rw[pfGo]at ah;have Rn:=ZZ s.send.state s.send.ring.size s.send.ring.base s.send.ring.b' s.send.ring.cells s.send.pending s.send.flight s.send.bK s.send.bj s.send.bd s.send.sent s.send.code ((k+1:Nat):Int) kU (by omega);change PureCall _ _ _ (wg s.send ((k+1:Nat):Int) kU)at Rn;simp only[wg]at Rn;generalize hp:nR s.send ((k+1:Nat):Int) kU=p at *
    try simp only[go_sem,lM,hd]
    repeat'((first|refine ae.intro (by assumption) ?_|refine ao.intro (by assumption) ?_)<;>simp only[go_sem])
    cases hok:nextOk s.send ((k+1:Nat):Int) kU with
    |false=>
     rw[hok]at ah;simp only[go_sem,Bool.not_false];rw[←ah];simp[pn]
    |true=>
     rw[hok,if_pos rfl]at ah;have fx:p.data.length≤1048576:=by
      have:=Ro (m:=((k+1:Nat):Int)) (l:=kU) (by omega) (by omega) B3 kF;rw[hp]at this;omega
     have D0:=LF 8 id p.offset p.data p.bd 0 0 0 false fx;change PureCall _ _ _ [.one (.int .i64 ((gX (nQ id p)).length:Int))]at D0
     try simp only[go_sem,Bool.not_true]
     repeat'((first|refine ae.intro (by first|assumption|apply Rk) ?_|refine ao.intro (by assumption) ?_)<;>simp only[go_sem,nQ])
     cases kT:decide (((gX ⟨8,id,p.offset,p.data,p.bd,0,0,0,false⟩).length:Int)≤cO)with
     |true=>
      have:((gX (nQ id p)).length:Int)≤cO:=ch kT;rw[if_pos this]at ah;rw[←ah];simp only[go_sem]
      try simp[outOA]
     |false=>
      have:¬((gX (nQ id p)).length:Int)≤cO:=cD kT;rw[if_neg this]at ah;simp only[go_sem];refine bm.intro k [0,1,2,3,4,5,6,7] ⟨by omega,ah⟩ (by omega) ?_;simp only[go_sem,hw];simp
set_option maxRecDepth 100000
def Rd:List (List bt):=ct 10 [57956,58804,58798,58780,58726,58927,58321,56862,52488,39366]
def Re:List (List bt):=ct 12 [511649,511647,511641,511663,511717,511515,511029,503010,448335,521599,478953,354294]
attribute [go_sem] Rd Re
def e8(x:I)(a b:Nat):H:=.box (I.vc x (.sl a 0 x.streams.length) (.sl b 0 x.packets.length))
def dZ(x:I):H:=.af 39 (x.streams.map aa.enc)
def He(x:I):H:=.af 2 (x.packets.map aC.enc)
def u4(c x:I)(b4:List aq):List H:=[.box (I.bM c),.box I.bH,e8 x 3 4,dZ x,He x,.ai 9 (b4.map aq.enc) true]
set_option maxHeartbeats 8000000 in
theorem Zy(c x:I)(b4:List aq)(cO:Int)(m:Nat)(hv:b6 m x)(hm:m≤20)(yV:b4.length≤102)(Di:∀f∈b4,oC f)(kv:List V)(br:a6 3 kv)(K:V→List H→Prop)
  (hk:K (.sl 5 0 (fillGo 200 ⟨x,[],b4,cO⟩).b4.length) (u4 c (fillGo 200 ⟨x,[],b4,cO⟩).x (fillGo 200 ⟨x,[],b4,cO⟩).b4)) :
  dj Tryz.prog 237 kv (u4 c x b4) [.ptr 2 0 0,.sl 5 0 b4.length,.d (.int .i64 cO)] K:=by
 have bd:∀(q:nP) (ex:List H),q=fillGo 200 ⟨x,[],b4,cO⟩→o2 kv K (.sl 5 0 q.b4.length) (u4 c q.x q.b4++ex):=by
  rintro q ex rfl;refine⟨List.range 6,.sl 5 0 (fillGo 200 ⟨x,[],b4,cO⟩).b4.length,u4 c (fillGo 200 ⟨x,[],b4,cO⟩).x (fillGo 200 ⟨x,[],b4,cO⟩).b4,?_,hk⟩;have eR:∀a b c,(u4 a b c).length=6:=fun _ _ _=>rfl;refine zR (hs:=u4 c (fillGo 200 ⟨x,[],b4,cO⟩).x (fillGo 200 ⟨x,[],b4,cO⟩).b4) (ex:=ex) ?_ (mj (by rw[eR];decide) _ br) ?_ ?_
  ·simp[u4,e8,dZ,He,roks,rok,a6,vok]
  ·simp[u4,vsees,vsee,ren]
  ·simp[u4,a6,vok]
 refine dj.oq ?_;refine(en (n:=92) (rs:=[.tmp 6]) Tryz.func237 rfl Tryz.call237 hZ rfl rfl ?_);simp only[go_sem,u4,e8,dZ,He];refine b5.intro (α:=Nat×nP) (fun y=>⟨(.ptr 2 0 0::.sl 5 0 y.2.b4.length::.d (.int .i64 y.2.cO)::jn 4 (.sl 6 0 y.2.skip.length::.d (.int .i64 (200-(y.1:Int)))::jn 83 [])),[.box (I.bM c),.box I.bH,.box (I.vc y.2.x (.sl 3 0 y.2.x.streams.length) (.sl 4 0 y.2.x.packets.length)),.af 39 (y.2.x.streams.map aa.enc),.af 2 (y.2.x.packets.map aC.enc),.ai 9 (y.2.b4.map aq.enc) true,.ai 1 (y.2.skip.map aW) true]⟩)
  (fun y=>y.1) (fun y=>y.1≤200∧fillGo y.1 y.2=fillGo 200 ⟨x,[],b4,cO⟩∧m1 m (302-y.1) y.2.x y.2.b4∧y.2.skip.length+y.1≤200) (200,⟨x,[],b4,cO⟩) [0,1,2,3,4,5,6] ⟨by simp,rfl,⟨hv,by simpa using yV,Di⟩,by simp⟩ ?_ ?_
 ·simp only[go_sem];simp;exact uM (yr (show 3≤7 by decide)) (by decide) br
 ·rintro⟨n,q⟩ ⟨hn,ah,hI,ZA⟩;simp only at hn ah hI ZA;have hz:=hI.c.sz hm
  cases n with
  |zero=>
   have hd:decide ((200:Int)-((0:Nat):Int)<200)=false:=by decide
   rw[fillGo]at ah;simp only[go_sem,hd];exact bd q [.ai 1 (q.skip.map aW) true] ah
  |succ k=>
   have hd:decide ((200:Int)-((k+1:Nat):Int)<200)=true:=bc (by omega);have hw:IntKind.i64.wrap ((200:Int)-((k+1:Nat):Int)+1)=200-(k:Int):=by rw[bC]<;>omega
   have ahj:q.skip.length≤200:=by omega
   try simp only[go_sem,lM,hd]
   repeat'(refine ae.intro (by(apply ZB<;>first|assumption|omega)) ?_<;>simp only[go_sem,lM])
   have ZC:(xB q.x).length≤30:=by
    unfold xB;rw[lM];exact Nat.le_trans (List.length_filter_le _ _) hz.1
   have ZD:∀(bW:List Int) (l:List db),(bW.foldl l4 l).length≤l.length:=by
    intro bW;induction bW with
    |nil=>intro l;exact Nat.le_refl _
    |cons i bW dr=>intro l;exact Nat.le_trans (dr (l4 l i)) (List.length_filter_le _ _)
   refine b5.intro (α:=Nat×List db) (fun y=>⟨(.ptr 2 0 0::.sl 5 0 q.b4.length::.d (.int .i64 q.cO)::jn 4 (.sl 6 0 q.skip.length::.d (.int .i64 (200-((k+1:Nat):Int)))::.sl 7 0 y.2.length::.d (.int .i64 y.1)::jn 81 [])),[.box (I.bM c),.box I.bH,.box (I.vc q.x (.sl 3 0 q.x.streams.length) (.sl 4 0 q.x.packets.length)),.af 39 (q.x.streams.map aa.enc),.af 2 (q.x.packets.map aC.enc),.ai 9 (q.b4.map aq.enc) true,.ai 1 (q.skip.map aW) true,.ai 3 (y.2.map db.enc) true]⟩)
    (fun y=>q.skip.length-y.1) (fun y=>y.1≤q.skip.length∧y.2=(q.skip.take y.1).foldl l4 (xB q.x)) (0,xB q.x) [0,1,2,3,4,5,6,7] ⟨by simp,by simp⟩ ?_ ?_
   ·simp only[go_sem];simp;exact uM (yr (show 3≤8 by decide)) (by decide) br
   ·rintro⟨j,l⟩ ⟨ak,hl⟩;simp only at ak hl;have ahk:l.length≤30:=by rw[hl];exact Nat.le_trans (ZD _ _) ZC
    by_cases h1:j<q.skip.length
    ·have ar:decide ((j:Int)<(q.skip.length:Int))=true:=bc (by omega);have av:=bZ aW q.skip j h1;have D3:IntKind.i64.wrap ((j:Int)+1)=((j+1:Nat):Int):=by rw[bC]<;>omega
     have hs:(q.skip.take (j+1)).foldl l4 (xB q.x)=l4 l q.skip[j]:=by
      rw[List.take_add_one,dg h1,List.foldl_append,←hl];rfl
     try simp only[go_sem,lM,aF,av,aW,ar]
     repeat'(first|((first|refine ae.intro (by first|assumption|(apply ZE<;>first|assumption|omega)) ?_|refine ao.intro (by assumption) ?_)<;>simp only[go_sem,lM])|(with_reducible refine al ?_)|fail)
     refine bm.intro (j+1,l4 l q.skip[j]) [0,1,2,3,4,5,6,8] ⟨by simp only;omega,hs.symm⟩ (by simp only;omega) ?_;simp only[go_sem,D3];simp;exact uM (fun i hi=>by match i,hi with|0,_=>rfl|1,_=>rfl|2,_=>rfl) (by decide) br
    ·have ar:decide ((j:Int)<(q.skip.length:Int))=false:=a_ (by omega);obtain rfl:j=q.skip.length:=by omega
     rw[dB]at hl;have jg:l=BZ q:=hl;clear hl;subst jg;have ZF:=ZG (BZ q) q.x.fk (by omega);rw[show nextS (BZ q) q.x.fk=gl q from rfl]at ZF;have ZH:=LI (q:=q);rw[fillGo]at ah;have ZI:=ZJ q.x (gl q) q.cO m hI.c hm;rw[show wa q.x (gl q) q.cO=lG q from rfl]at ZI;have fx:(lG q).1.data.length≤60:=Rf hI.c (by omega) (gl q) q.cO
     try simp only[go_sem,lM,ar]
     repeat'(first|((first|refine ae.intro (by assumption) ?_|refine ao.intro (by assumption) ?_)<;>simp only[go_sem])|(with_reducible refine al ?_)|fail)
     cases Rg:decide (gl q<0)with
     |true=>
      rw[if_pos (ch Rg)]at ah;simp only[go_sem];exact bd q [.ai 1 (q.skip.map aW) true,.ai 3 ((BZ q).map db.enc) true] ah
     |false=>
      have ZK:=cD Rg;rw[if_neg ZK]at ah
      try simp only[go_sem,lM]
      repeat'((first|refine ae.intro (by assumption) ?_|refine ao.intro (by assumption) ?_)<;>simp only[go_sem])
      cases hp:(lG q).2 with
      |false=>
       rw[hp,if_neg (by simp)]at ah;simp only[go_sem,Bool.not_false];have b1:=mm q.x (gl q) hz;rw[show(strOf q.x.streams (gl q)).1=aE q.x (gl q)from rfl]at b1;have tZ:dT (aE q.x (gl q)):=mR hz.2.1 _;have gp:=k4 q.x.streams (xC (aE q.x (gl q))) (by have:=hz.1;omega) hz.2.1 tZ;have D1:=Rh hI.c (ZH (by omega));have hB:Hf q.x (gl q)={q.x with c8:=wb q.x.c8,streams:=putS q.x.streams (xC (aE q.x (gl q)))}:=rfl;obtain⟨cU,c9,cq,dd⟩:=tZ;generalize aE q.x (gl q)=s at *;simp only[xC]at gp;refine ae.iR [0,1,2,7,8,11] (by simp only[keepT,List.elem_cons,List.elem_nil,Nat.reduceBEq,Nat.reduceAdd,cond_true,cond_false];rfl) (en (n:=35) (rs:=[]) Tryz.func280 rfl Tryz.call280 hZ rfl rfl ?_);simp only[go_sem,lM]
       try simp only[go_sem,lM,xC]
       repeat'(first|((first|refine ae.af (by first|assumption|apply ZL) ?_|refine ao.af (by assumption) ?_|refine ba Rd (by kernel_rfl) (by rfl) ?_)<;>simp only[go_sem,lM])|(with_reducible refine al ?_)|fail)
       try simp only[go_sem,lM]
       refine bm.intro (k,Al q) [0,1,2,15,4,5,17] ⟨by simp only;omega,ah,⟨D1,by have:=hI.n;simp only[Al];omega,hI.d⟩,by simp only[Al,List.length_append,oW,List.length_nil];omega⟩ (by simp only;omega) ?_;simp only[go_sem,hw,Al,hB,xC];simp;exact⟨rfl,uM (fun i hi=>by match i,hi with|0,_=>rfl|1,_=>rfl|2,_=>rfl) (by decide) br⟩
      |true=>
       rw[hp,if_pos rfl]at ah;simp only[go_sem,Bool.not_true];have ZM:dT (u5 (aE q.x (gl q)) (lG q).1):=fo.sz (m:=m) (s:=u5 (aE q.x (gl q)) (lG q).1) ⟨Ri (hI.c.aE _).snd (by omega),(hI.c.aE _).eO,(hI.c.aE _).xD⟩ hm;have ahl:=ZN q.x (gl q) (lG q).1 hz (by omega) ZM;have ZO:=Rj hI.c (gl q) (lG q).1 (by omega)
       try simp only[go_sem,lM]
       repeat'(first|((first|refine ae.af (by assumption) ?_|refine ao.af (by assumption) ?_|refine ba Re (by kernel_rfl) (by rfl) ?_)<;>simp only[go_sem,lM])|(with_reducible refine al ?_)|fail)
       cases u6:xE q.x (gl q) (lG q).1 with
       |false=>
        rw[u6,if_neg (by simp)]at ah;simp only[go_sem,Bool.not_false];exact bd q _ ah
       |true=>
        rw[u6,if_pos rfl]at ah;have D0:=LF 8 (gl q) (lG q).1.offset (lG q).1.data (lG q).1.bd 0 0 0 false (by omega);change PureCall _ _ _ [.one (.int .i64 ((gX (nQ (gl q) (lG q).1)).length:Int))]at D0;have ahm:=hI.n
        try simp only[go_sem,Bool.not_true]
        repeat'(first|((first|refine ae.intro (by first|assumption|apply Rk) ?_|refine ao.intro (by assumption) ?_)<;>simp only[go_sem,lM,nQ])|(with_reducible refine al ?_)|fail)
        refine bm.intro (k,B0 q) [0,1,2,9,10,14,6] ⟨by simp only;omega,ah,(hI.add ZO (f:=nQ (gl q) (lG q).1) fx).mono (by omega),by simp only[B0];omega⟩ (by simp only;omega) ?_;simp only[go_sem,hw,B0,nQ];simp;have Rl:=uM (ρ:=[0,1,2,9,10,14,6]) (m:=3) (n:=7) (fun i hi=>by match i,hi with|0,_=>rfl|1,_=>rfl|2,_=>rfl) (by decide) br
        first|exact⟨rfl,Rl⟩|exact Rl
set_option maxRecDepth 100000
def Ww:List (List bt):=ct 22 [31381059608,31381059606,31381059600,31381059582,31381059528,31380272046,31380271560,31380270102,31380265728,31381049646,31381010280,31380892182,31380537888,31379465286,31376276640,31366710702,31338012888,31251919446,30993639120,30218798142,27894275208,20920706406]
def Jr:List (List bt):=ct 10 [57956,58804,58798,58780,58726,58927,58321,56862,52488,39366]
attribute [go_sem] Ww Jr
def pH(s:aa)(m:Nat):List V:=(aa.vc s (.sl (m+4) 0 s.send.ring.cells.length) (.sl (m+5) 0 s.send.pending.length) (.sl (m+6) 0 s.send.flight.length) (.sl (m+7) 0 s.send.bK.length) (.sl (m+8) 0 s.recv.buffer.bu.length))
def Bf(s:aa):List H:=[.af 1 (s.send.ring.cells.map aW),.af 2 (s.send.pending.map ab.enc),.af 2 (s.send.flight.map ab.enc),.af 2 (s.send.bK.map ab.enc),.af 2 (s.recv.buffer.bu.map aB.enc)]
def dY(x:I)(m:Nat)(lP:H):List H:=[e8 x (m+1) (m+2),dZ x,lP]
def uE(x:I)(s:aa)(m:Nat)(lP:H):List H:=dY x m lP++(.box (pH s m)::Bf s)
theorem DX{kv ts ts':List V}{pre ex ex':List H}(mW:List Nat)(hnd:(pre.length::mW).Nodup)(nK:∀k∈mW,pre.length≤k)(hr:roks pre.length pre)(br:a6 (pre.length+1) kv)(hx:hsees (List.range pre.length++pre.length::mW) (pre++ex) (pre.length::mW) ex')(DP:allOk (pre.length+ex'.length) ex')(Oe:0<ex'.length)(ht:vsees (List.range pre.length++pre.length::mW) ts' ts)(lE:a6 (pre.length+ex'.length) ts') :
  kQ kv (List.range pre.length++pre.length::mW) ⟨ts,pre++ex⟩ ⟨ts',pre++ex'⟩:=by
 have hf:nF (List.range pre.length++pre.length::mW) pre.length:=K9 (Nat.le_refl _) _;have j5:nF (List.range pre.length++pre.length::mW) (pre.length+1):=fun i hi=>by
  by_cases h:i<pre.length
  ·exact hf i h
  ·rw[show i=pre.length from by omega,QC]
 have hl:(pre++ex').length=pre.length+ex'.length:=by simp
 refine⟨?_,ht,La (GQ hf _ _ _ (by simp) fun j ak=>?_) hx,by rw[hl];exact lE,?_,by rw[hl];exact uM j5 (by omega) br⟩
 ·rw[List.nodup_append];refine⟨List.nodup_range,hnd,fun a ha b hb=>?_⟩;have:pre.length≤b:=by
   rcases List.mem_cons.1 hb with rfl|hb
   ·exact Nat.le_refl _
   ·exact nK b hb
  simp at ha;omega
 ·refine⟨pre[j],dg ak,?_,GR hr (dg ak)⟩;have:(List.range pre.length).getD j 0=j:=yr (Nat.le_refl _) j ak;rw[this];exact GS (by rw[List.getElem?_append_left ak];exact dg ak)
 ·rw[hl];exact Lb (BH (Ab (by omega) hr)) DP
set_option maxHeartbeats 8000000 in
theorem x6(x:I)(s:aa)(lP:H)(oj:∀n,rok n lP)(hx:x.streams.length≤1000)(hz:∀t∈x.streams,dT t)(hs:dT s)(pre:List H)(kv:List V)(hr:roks pre.length pre)(br:a6 (pre.length+1) kv)(K:V→List H→Prop)
  (hk:K (.c6 []) (pre++dY (dR x s) pre.length lP)):dj Tryz.prog 71 kv (pre++uE x s pre.length lP) [.ptr pre.length 0 0,.agg (pH s pre.length)] K:=by
 have bd:∀(ex:List H) (k:Nat),3≤k→ex[k]?=some (.af 39 ((dR x s).streams.map aa.enc))→ex[0]?=some (e8 (dR x s) (pre.length+k) (pre.length+2))→ex[2]?=some lP→o2 kv K (.c6 []) (pre++ex):=by
  intro ex k aow h1 h2 aj;have hg:∀j y,ex[j]?=some y→aG (pre++ex) (pre.length+j)=y:=fun j y h=>GS (by rw[List.getElem?_append_right (by omega),Nat.add_sub_cancel_left];exact h);refine⟨_,.c6 [],pre++dY (dR x s) pre.length lP,DX [pre.length+k,pre.length+2] (by simp;omega) (by simp) hr br ?_ ?_ (by simp[dY]) (by simp[vsees,vsee,ren,rens]) (by simp[a6,vok]),hk⟩
  ·have pd:=hg 0 _ h2;rw[Nat.add_zero]at pd;have aK:(List.range pre.length++[pre.length,pre.length+k,pre.length+2]).getD (pre.length+1) 0=pre.length+k:=by rw[nE];rfl
   have a7:(List.range pre.length++[pre.length,pre.length+k,pre.length+2]).getD (pre.length+2) 0=pre.length+2:=by rw[nE];rfl
   have hp:(dR x s).packets=x.packets:=(zN x s).2;have hf:nF (List.range pre.length++[pre.length,pre.length+k,pre.length+2]) pre.length:=K9 (Nat.le_refl _) _;have agk:=BG hf (oj pre.length);simp only[dY,dZ,hsees,pd,hg k _ h1,hg 2 _ aj,and_true,agk];simp only[e8,I.vc,hsee,vsees,vsee,ren,aK,a7,and_self,hp]
  ·have:=BH (m:=pre.length+3) (xs:=[lP]) ⟨oj _,trivial⟩;simp only[dY,dZ,e8,I.vc,allOk,hok,a6,vok,oW,List.length_nil]at this⊢;simp[this]
 have BC:=P6 x s;obtain⟨B,hv⟩:∃B,mo x s=B:=⟨_,rfl⟩;rw[hv]at BC;have hs':=hs;obtain⟨eI,gj,lY,KD⟩:=hs;have lY:∀eO∈s.recv.buffer.bu,eO.data.length≤1048576:=fun eO hc=>by have:=lY eO hc;omega
 have Yb:=k4 x.streams s hx hz hs';have Yc:=k4 x.streams {s with counted:=true} hx hz hs';refine dj.oq ?_;refine(en (n:=15) (rs:=[]) Tryz.func71 rfl Tryz.call71 hZ rfl rfl ?_);simp only[go_sem,uE,dY,dZ,pH,Bf,e8,bf,bn,dN];refine ae.iR [0,3] (by simp only[keepT,List.elem_cons,List.elem_nil,Nat.reduceBEq,Nat.reduceAdd,cond_true,cond_false];rfl) (en (n:=62) (rs:=[]) Tryz.func135 rfl Tryz.call135 hZ rfl rfl ?_);simp only[go_sem]
 try simp only[go_sem,lM,fu,dN,dz,d_,eX,Nat.add_zero]
 repeat'(first|((first|refine ae.intro (by assumption) ?_|refine ao.intro (by first|assumption|apply BD|(apply P7<;>first|assumption|omega)) ?_|refine eJ ?_|refine ba Ww (by kernel_rfl) (by rfl) ?_)<;>simp only[go_sem,lM,dz,d_,Nat.add_zero])|(with_reducible refine al ?_)|fail)
 rw[BC]
 cases B with
 |false=>
  have ah:=DB hv;simp only[ah]at bd;simp only[go_sem,Bool.not_false]
  try simp only[go_sem,lM,fu,dN,dz,d_,eX,Nat.add_zero]
  repeat'(first|((first|refine ae.af (by assumption) ?_|refine ao.af (by assumption) ?_|refine eJ ?_|refine ba Jr (by kernel_rfl) (by rfl) ?_)<;>simp only[go_sem,lM,dN,dz,d_,eX,Nat.add_zero])|(with_reducible refine al ?_)|fail)
  refine bd _ 10 (by decide) ?_ ?_ ?_<;>rfl
 |true=>
  try simp only[go_sem,Bool.not_true,dN,dz,Nat.add_zero]
  repeat'((first|refine ae.intro (by first|assumption|apply yG) ?_|refine ao.intro (by assumption) ?_)<;>simp only[go_sem])
  cases gT:k7 s.id with
  |true=>
   have ah:=KF hv gT;simp only[ah]at bd
   try simp only[go_sem,d_]
   repeat'((first|refine ae.intro (by first|assumption|apply GC) ?_|refine ao.intro (by assumption) ?_)<;>simp only[go_sem,dN,dz,d_,eX])
   try simp only[go_sem,lM,fu,dN,dz,d_,eX,Nat.add_zero]
   repeat'(first|((first|refine ae.af (by assumption) ?_|refine ao.af (by assumption) ?_|refine eJ ?_|refine ba Jr (by kernel_rfl) (by rfl) ?_)<;>simp only[go_sem,lM,dN,dz,d_,eX,Nat.add_zero])|(with_reducible refine al ?_)|fail)
   refine bd _ 11 (by decide) ?_ ?_ ?_<;>rfl
  |false=>
   have ah:=KG hv gT;simp only[ah]at bd
   try simp only[go_sem,d_]
   repeat'((first|refine ae.intro (by first|assumption|apply GC) ?_|refine ao.intro (by assumption) ?_)<;>simp only[go_sem,dN,dz,d_,eX])
   try simp only[go_sem,lM,fu,dN,dz,d_,eX,Nat.add_zero]
   repeat'(first|((first|refine ae.af (by assumption) ?_|refine ao.af (by assumption) ?_|refine eJ ?_|refine ba Jr (by kernel_rfl) (by rfl) ?_)<;>simp only[go_sem,lM,dN,dz,d_,eX,Nat.add_zero])|(with_reducible refine al ?_)|fail)
   refine bd _ 11 (by decide) ?_ ?_ ?_<;>rfl
end Gv
