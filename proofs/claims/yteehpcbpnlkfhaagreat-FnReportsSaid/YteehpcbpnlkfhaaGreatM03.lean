/-
  Part of the proof: the machine, what functions compute, and the plain laws.
-/
import Derived.Test.YteehpcbpnlkfhaaGreatM02
set_option maxHeartbeats 80000000
set_option maxRecDepth 100000
namespace Gv
open Go Go.Proofs Tryz IntKind
open _root_.Option renaming getD_none->atN
open _root_.List renaming take_zero->aui,length_pos_iff->aq_,replicate->ea,any_append->aAt,find?_eq_none->asF,any_eq_false->asP,findIdx?_eq_some_iff_getElem->asM,mem_take_iff_getElem->atn,findIdx?_eq_none_iff->ato,range->pv,range_succ->atq,all_eq_false->atF,mem_range->asl,all_eq_true->ae_,foldl_cons->An,mem_cons->rD,not_mem_nil->asL,mem_cons_of_mem->atb,length_set->atU,foldl_append->arD,all_append->atT,mem_of_find?_eq_some->arK,length_replicate->asz,elem_cons->arE,elem_nil->am_,mem_singleton->jn,pairwise_cons->ag_,flatMap_cons->arM,mem_flatMap->asK,map_nil->asi,length_eq_zero_iff->arN,flatMap_append->ash,filter_append->asG,filter_cons->atg,length_filter_le->arS,mem_filter->asC,length_take->arJ,append_assoc->ah_,map_append->arO,getElem?_append_left->arF,getElem?_append_right->ak_,nil_sublist->aAk,flatten_cons->atr,filter_cons_of_pos->azH,append_eq_nil_iff->asx,filter_cons_of_neg->aud,filter_map->azP,map_eq_nil_iff->auA,length_drop->ar_,filter_eq_self->asR
open _root_.Bool renaming eq_iff_iff->asa,cond_self->asu,not_eq_true'->ab_,and_self->asg,false_eq_true->ai_,false_and->ap_,true_and->af_,or_eq_false_iff->auu
open _root_.Or renaming inl->auj,inr->atB
open _root_.Nat renaming mul_add->auc,le_trans->arP,add_assoc->arH,add_zero->ao_
open _root_.List.Mem renaming head->aw_
open _root_.List.Sublist renaming append->aAK,refl->aAN
theorem aqs(bb bh bj ba:Int)(a8:List Int)(aN aJ aO:List ab)(bd a_ a9 bk:Int)(hc:aN.length+aJ.length+aO.length<=524288)(od:aJ.length<=maxLen)(nP:aO.length<=maxLen)(ep:lK (⟨bb,⟨bh,bj,ba,a8⟩,aN,aJ,aO,bd,a_,a9,bk⟩:aD))(fO:jD (⟨bb,⟨bh,bj,ba,a8⟩,aN,aJ,aO,bd,a_,a9,bk⟩:aD)=false)(Av:cN aN)(Aw:cN aJ)(Ax:cN aO)(ef:aJ=[]){tb qn tc td te u8 tf pj pk pl pn po pq u16 pr pt tg th ti tj tk tl tm tn tp tq tr tt tu u32 tv tw tx tz tA tB tC tD tE tF tG tH tI tJ tK tL tM tN tO tP tQ tR tS tT tU tV tW tX tY tZ t0 u64 t1 t2 t3 t4 t5 t6 t7 t8 t9 t_ t' ua ub uc ud ue uf ug uh ui uj uk um uo uq ur uu uv uw ux uy uz uA uB uC uD uE uF uG uH uI uJ uK uL uM uN uO uP uQ uR uS uT uU uV uW uX uY uZ u0 u1 u2 u3 u4 u5 u6 u7 u9 u_ u' va vb vc vd ve vf vg vh vi vj vk vl vm vn vo vp vq vr vt vu vv vw vx vy vz vA vB vC vD vE vF vG vH vI vJ vK vL vM vN vO vP vQ vR vS vT vU vV vW vX vY vZ v3 v5 v7 v8 v9 v_ v' wa wb wc we wg wh wi wj wk wm wo wq wt wu wv wx wy wz wA wB wC wD wE wF wG wH wI wJ wK wL wM wN wO wP wQ wR wS wT wU wV wW wX wY wZ w1 w2 w3 w4 w5 w6 w7 w8 w9 w_:V} :
  codeE prog [] (Di 5 (E5 Tryz.f156)) ⟨[tb,.ptr 0 0 0,.d (.bool false),.d (.azA aN),qn,tc,td,te,u8,tf,pj,pk,pl,pn,po,pq,u16,pr,pt,tg,th,ti,tj,tk,tl,tm,tn,tp,tq,tr,tt,tu,u32,tv,tw,tx,tz,tA,tB,tC,tD,tE,tF,tG,tH,tI,tJ,tK,tL,tM,tN,tO,tP,tQ,tR,tS,tT,tU,tV,tW,tX,tY,tZ,t0,u64,t1,t2,t3,t4,t5,t6,t7,t8,t9,t_,t',ua,ub,uc,ud,ue,uf,ug,uh,ui,uj,uk,um,uo,uq,ur,uu,uv,uw,ux,uy,uz,uA,uB,uC,uD,uE,uF,uG,uH,uI,uJ,uK,uL,uM,uN,uO,uP,uQ,uR,uS,uT,uU,uV,uW,uX,uY,uZ,u0,u1,u2,u3,u4,u5,u6,u7,u9,u_,u',va,vb,vc,vd,ve,vf,vg,vh,vi,vj,vk,vl,vm,vn,vo,vp,vq,vr,vt,vu,vv,vw,vx,vy,vz,vA,vB,vC,vD,vE,vF,vG,vH,vI,vJ,vK,vL,vM,vN,vO,vP,vQ,vR,vS,vT,vU,vV,vW,vX,vY,vZ,v3,v5,v7,v8,v9,v_,v',wa,wb,wc,we,wg,wh,wi,wj,wk,wm,wo,wq,wt,wu,wv,wx,wy,wz,wA,wB,wC,wD,wE,wF,wG,wH,wI,wJ,wK,wL,wM,wN,wO,wP,wQ,wR,wS,wT,wU,wV,wW,wX,wY,wZ,w1,w2,w3,w4,w5,w6,w7,w8,w9,w_],[.box [.i bb,.i bh,.i bj,.i ba,.d (.sl 1 (a8.map bg)),.d (.azA aN),.d (.azA aJ),.d (.azA aO),.i bd,.i a_,.i a9,.i bk]]⟩ (b1 (ij prog [.tmp 2] [.one (.bool (dU (⟨bb,⟨bh,bj,ba,a8⟩,aN,aJ,aO,bd,a_,a9,bk⟩:aD)))]) .mk) [] (b1 (ij prog [.tmp 2] [.one (.bool (dU (⟨bb,⟨bh,bj,ba,a8⟩,aN,aJ,aO,bd,a_,a9,bk⟩:aD)))]) .mk):=by
 conv=>arg 3;whnf
 refine Aq λU1 cg=>?_;simp only[go_sem];by_cases U2:aO=[]
 ·skip
  refine cb.intro (λi:Nat=>⟨(.an::.ptr 0 0 0::.d (.bool false)::.d (.azA aN)::.an::.i i::aA 240 []),[.box [.i bb,.i bh,.i bj,.i ba,.d (.sl 1 (a8.map bg)),.d (.azA aN),.d (.azA aJ),.d (.azA aO),.i bd,.i a_,.i a9,.i bk]]⟩)
   (λ_=>0) (λi=>i=0) 0 [0] rfl ?_ ?_
  ·simp only[go_sem];simp
  rintro _ rfl;have aq:=bn (p:=((0:Nat):Int)<(aO.length:Int)) (by rw[U2];simp);have hA:nB (⟨bb,⟨bh,bj,ba,a8⟩,aN,aJ,aO,bd,a_,a9,bk⟩:aD)=aN:=by unfold nB eD;simp only[ef,U2,List.foldl_nil]
  simp only[go_sem,I,aq];exact cg _ (aqt bb bh bj ba a8 aN aJ aO bd a_ a9 bk hc od nP ep fO hA)
 skip
 have yH:aN=eD aN aJ:=by rw[ef];rfl
 have aey:=U2;refine cb.intro (α:=Nat×Option (List ab)) (λy=>match y.2 with
   |none=>⟨(.an::.ptr 0 0 0::.d (.bool false)::.d (.azA aN)::.an::.i y.1::aA 240 []),[.box [.i bb,.i bh,.i bj,.i ba,.d (.sl 1 (a8.map bg)),.d (.azA aN),.d (.azA aJ),.d (.azA aO),.i bd,.i a_,.i a9,.i bk]]⟩
   |some ys=>⟨(.an::.ptr 0 0 0::.d (.bool false)::.sl 1 0 ys.length::.an::.i y.1::aA 240 []),[.box [.i bb,.i bh,.i bj,.i ba,.d (.sl 1 (a8.map bg)),.d (.azA aN),.d (.azA aJ),.d (.azA aO),.i bd,.i a_,.i a9,.i bk],.azv ys]⟩)
  (λy=>aO.length-y.1) (λy=>y.1<=aO.length/\(y.2=none->y.1=0)/\y.2.getD aN=eD (eD aN aJ) (aO.take y.1)) (0,none) [0] ⟨by simp,by simp,by simp only[atN,aui];exact yH⟩ ?_ ?_
 ·simp only[go_sem];simp
 rintro⟨i,z1⟩ ⟨hi,hz,hy⟩;simp only at hi hz hy;have d':=qq (aO.take i) (eD aN aJ);have K':=qq aJ aN;have cR:(aO.take i).length=i:=by simp;omega
 cases z1 with
 |none=>
  have q_:=hz rfl;simp only[atN]at hy;by_cases h1:i<aO.length
  ·have aq:=aro (i:=i) (n:=aO.length);have az:=b_ ab.enc aO i h1;have hw:=d8 h1 nP;have b4:=Au (eD aN aJ) aO i h1;rw[<-hy]at b4;have OT:aN.length<=1048576:=by rw[hy];omega
   try simp only[go_sem,I,aF,az,ab.enc,aq]
   repeat'(first|((first|refine af.intro (by first|apply Ar|(apply sq<;>exact aT)) ?_|refine av.intro (by first|apply zc|apply lS|apply ld) ?_|apply bo)<;>simp only[go_sem,I])|refine⟨ae7,?_⟩|fail)
   refine bt.intro (i+1,some (f' aN aO[i])) [0,1] ⟨by omega,by simp,by simp[b4]⟩ (show aO.length-(i+1)<aO.length-i by omega) ?_;simp only[go_sem,hw];simp
  exfalso;exact absurd (aq_.2 aey) ω
 |some ys=>
  skip
  simp only[kk]at hy;by_cases h1:i<aO.length
  ·have aq:=aro (i:=i) (n:=aO.length);have az:=b_ ab.enc aO i h1;have hw:=d8 h1 nP;have b4:=Au (eD aN aJ) aO i h1;rw[<-hy]at b4;have OT:ys.length<=1048576:=by rw[hy];omega
   try simp only[go_sem,I,aF,az,ab.enc,aq]
   repeat'(first|((first|refine af.intro (by(apply sq<;>exact aT)) ?_|apply bo)<;>simp only[go_sem,I])|refine⟨ae7,?_⟩|fail)
   refine bt.intro (i+1,some (f' ys aO[i])) [0,2] ⟨by omega,by simp,by simp[b4]⟩ (show aO.length-(i+1)<aO.length-i by omega) ?_;simp only[go_sem,hw];simp
  obtain⟨aq,rfl⟩:=arn (i:=i) (n:=aO.length);rw[da]at hy;have KV:=hy;have hA:nB (⟨bb,⟨bh,bj,ba,a8⟩,aN,aJ,aO,bd,a_,a9,bk⟩:aD)=ys:=hy.symm;simp only[go_sem,I,aq];exact cg _ (aez bb bh bj ba a8 aN aJ aO bd a_ a9 bk hc od nP ep fO ys hA (by rw[KV];have:=qq aO (eD aN aJ);have:=qq aJ aN;omega) (aeh Av Aw Ax (.inr aey) KV))
theorem aqu(bb bh bj ba:Int)(a8:List Int)(aN aJ aO:List ab)(bd a_ a9 bk:Int)(hc:aN.length+aJ.length+aO.length<=524288)(od:aJ.length<=maxLen)(nP:aO.length<=maxLen)(ep:lK (⟨bb,⟨bh,bj,ba,a8⟩,aN,aJ,aO,bd,a_,a9,bk⟩:aD))(fO:jD (⟨bb,⟨bh,bj,ba,a8⟩,aN,aJ,aO,bd,a_,a9,bk⟩:aD)=false)(Av:cN aN)(Aw:cN aJ)(Ax:cN aO)(ef:aJ≠[])(aw:List ab)(dm:aw=eD aN aJ){tb qn tc td te u8 tf pj pk pl pn po pq u16 pr pt tg th ti tj tk tl tm tn tp tq tr tt tu u32 tv tw tx tz tA tB tC tD tE tF tG tH tI tJ tK tL tM tN tO tP tQ tR tS tT tU tV tW tX tY tZ t0 u64 t1 t2 t3 t4 t5 t6 t7 t8 t9 t_ t' ua ub uc ud ue uf ug uh ui uj uk um uo uq ur uu uv uw ux uy uz uA uB uC uD uE uF uG uH uI uJ uK uL uM uN uO uP uQ uR uS uT uU uV uW uX uY uZ u0 u1 u2 u3 u4 u5 u6 u7 u9 u_ u' va vb vc vd ve vf vg vh vi vj vk vl vm vn vo vp vq vr vt vu vv vw vx vy vz vA vB vC vD vE vF vG vH vI vJ vK vL vM vN vO vP vQ vR vS vT vU vV vW vX vY vZ v3 v5 v7 v8 v9 v_ v' wa wb wc we wg wh wi wj wk wm wo wq wt wu wv wx wy wz wA wB wC wD wE wF wG wH wI wJ wK wL wM wN wO wP wQ wR wS wT wU wV wW wX wY wZ w1 w2 w3 w4 w5 w6 w7 w8 w9 w_:V} :
  codeE prog [] (Di 5 (E5 Tryz.f156)) ⟨[tb,.ptr 0 0 0,.d (.bool false),.sl 1 0 aw.length,qn,tc,td,te,u8,tf,pj,pk,pl,pn,po,pq,u16,pr,pt,tg,th,ti,tj,tk,tl,tm,tn,tp,tq,tr,tt,tu,u32,tv,tw,tx,tz,tA,tB,tC,tD,tE,tF,tG,tH,tI,tJ,tK,tL,tM,tN,tO,tP,tQ,tR,tS,tT,tU,tV,tW,tX,tY,tZ,t0,u64,t1,t2,t3,t4,t5,t6,t7,t8,t9,t_,t',ua,ub,uc,ud,ue,uf,ug,uh,ui,uj,uk,um,uo,uq,ur,uu,uv,uw,ux,uy,uz,uA,uB,uC,uD,uE,uF,uG,uH,uI,uJ,uK,uL,uM,uN,uO,uP,uQ,uR,uS,uT,uU,uV,uW,uX,uY,uZ,u0,u1,u2,u3,u4,u5,u6,u7,u9,u_,u',va,vb,vc,vd,ve,vf,vg,vh,vi,vj,vk,vl,vm,vn,vo,vp,vq,vr,vt,vu,vv,vw,vx,vy,vz,vA,vB,vC,vD,vE,vF,vG,vH,vI,vJ,vK,vL,vM,vN,vO,vP,vQ,vR,vS,vT,vU,vV,vW,vX,vY,vZ,v3,v5,v7,v8,v9,v_,v',wa,wb,wc,we,wg,wh,wi,wj,wk,wm,wo,wq,wt,wu,wv,wx,wy,wz,wA,wB,wC,wD,wE,wF,wG,wH,wI,wJ,wK,wL,wM,wN,wO,wP,wQ,wR,wS,wT,wU,wV,wW,wX,wY,wZ,w1,w2,w3,w4,w5,w6,w7,w8,w9,w_],[.box [.i bb,.i bh,.i bj,.i ba,.d (.sl 1 (a8.map bg)),.d (.azA aN),.d (.azA aJ),.d (.azA aO),.i bd,.i a_,.i a9,.i bk],.azv aw]⟩ (b1 (ij prog [.tmp 2] [.one (.bool (dU (⟨bb,⟨bh,bj,ba,a8⟩,aN,aJ,aO,bd,a_,a9,bk⟩:aD)))]) .mk) [] (b1 (ij prog [.tmp 2] [.one (.bool (dU (⟨bb,⟨bh,bj,ba,a8⟩,aN,aJ,aO,bd,a_,a9,bk⟩:aD)))]) .mk):=by
 conv=>arg 3;whnf
 refine Aq λU1 cg=>?_;simp only[go_sem];subst dm;refine cb.intro (α:=Nat×Option (List ab)) (λy=>match y.2 with
   |none=>⟨(.an::.ptr 0 0 0::.d (.bool false)::.d (.azA aN)::.an::.i y.1::aA 240 []),[.box [.i bb,.i bh,.i bj,.i ba,.d (.sl 1 (a8.map bg)),.d (.azA aN),.d (.azA aJ),.d (.azA aO),.i bd,.i a_,.i a9,.i bk]]⟩
   |some ys=>⟨(.an::.ptr 0 0 0::.d (.bool false)::.sl 1 0 ys.length::.an::.i y.1::aA 240 []),[.box [.i bb,.i bh,.i bj,.i ba,.d (.sl 1 (a8.map bg)),.d (.azA aN),.d (.azA aJ),.d (.azA aO),.i bd,.i a_,.i a9,.i bk],.azv ys]⟩)
  (λy=>aO.length-y.1) (λy=>y.1<=aO.length/\(y.2=none->False)/\y.2.getD aN=eD (eD aN aJ) (aO.take y.1)) (0,some (eD aN aJ)) [0,1] ⟨by simp,by simp,by simp[eD]⟩ ?_ ?_
 ·simp only[go_sem];simp
 rintro⟨i,z1⟩ ⟨hi,hz,hy⟩;simp only at hi hz hy;have d':=qq (aO.take i) (eD aN aJ);have K':=qq aJ aN;have cR:(aO.take i).length=i:=by simp;omega
 cases z1 with
 |none=>exact(hz rfl).elim
 |some ys=>
  skip
  simp only[kk]at hy;by_cases h1:i<aO.length
  ·have aq:=aro (i:=i) (n:=aO.length);have az:=b_ ab.enc aO i h1;have hw:=d8 h1 nP;have b4:=Au (eD aN aJ) aO i h1;rw[<-hy]at b4;have OT:ys.length<=1048576:=by rw[hy];omega
   try simp only[go_sem,I,aF,az,ab.enc,aq]
   repeat'(first|((first|refine af.intro (by first|apply Ar|(apply sq<;>exact aT)) ?_|refine av.intro (by first|apply zc|apply lS|apply ld) ?_|apply bo)<;>simp only[go_sem,I])|refine⟨ae7,?_⟩|fail)
   refine bt.intro (i+1,some (f' ys aO[i])) [0,2] ⟨by omega,by simp,by simp[b4]⟩ (show aO.length-(i+1)<aO.length-i by omega) ?_;simp only[go_sem,hw];simp
  obtain⟨aq,rfl⟩:=arn (i:=i) (n:=aO.length);rw[da]at hy;have KV:=hy;have hA:nB (⟨bb,⟨bh,bj,ba,a8⟩,aN,aJ,aO,bd,a_,a9,bk⟩:aD)=ys:=hy.symm;simp only[go_sem,I,aq];exact cg _ (aez bb bh bj ba a8 aN aJ aO bd a_ a9 bk hc od nP ep fO ys hA (by rw[KV];have:=qq aO (eD aN aJ);have:=qq aJ aN;omega) (aeh Av Aw Ax (.inl ef) KV))
theorem aqv(bb bh bj ba:Int)(a8:List Int)(aN aJ aO:List ab)(bd a_ a9 bk:Int)(hc:aN.length+aJ.length+aO.length<=524288)(od:aJ.length<=maxLen)(nP:aO.length<=maxLen)(ep:lK (⟨bb,⟨bh,bj,ba,a8⟩,aN,aJ,aO,bd,a_,a9,bk⟩:aD))(fO:jD (⟨bb,⟨bh,bj,ba,a8⟩,aN,aJ,aO,bd,a_,a9,bk⟩:aD)=false)(Av:cN aN)(Aw:cN aJ)(Ax:cN aO){tb qn tc td te u8 tf pj pk pl pn po pq u16 pr pt tg th ti tj tk tl tm tn tp tq tr tt tu u32 tv tw tx tz tA tB tC tD tE tF tG tH tI tJ tK tL tM tN tO tP tQ tR tS tT tU tV tW tX tY tZ t0 u64 t1 t2 t3 t4 t5 t6 t7 t8 t9 t_ t' ua ub uc ud ue uf ug uh ui uj uk um uo uq ur uu uv uw ux uy uz uA uB uC uD uE uF uG uH uI uJ uK uL uM uN uO uP uQ uR uS uT uU uV uW uX uY uZ u0 u1 u2 u3 u4 u5 u6 u7 u9 u_ u' va vb vc vd ve vf vg vh vi vj vk vl vm vn vo vp vq vr vt vu vv vw vx vy vz vA vB vC vD vE vF vG vH vI vJ vK vL vM vN vO vP vQ vR vS vT vU vV vW vX vY vZ v3 v5 v7 v8 v9 v_ v' wa wb wc we wg wh wi wj wk wm wo wq wt wu wv wx wy wz wA wB wC wD wE wF wG wH wI wJ wK wL wM wN wO wP wQ wR wS wT wU wV wW wX wY wZ w1 w2 w3 w4 w5 w6 w7 w8 w9 w_:V} :
  codeE prog [] (Di 4 (E5 Tryz.f156)) ⟨[tb,.ptr 0 0 0,.d (.bool false),.d (.azA aN),qn,tc,td,te,u8,tf,pj,pk,pl,pn,po,pq,u16,pr,pt,tg,th,ti,tj,tk,tl,tm,tn,tp,tq,tr,tt,tu,u32,tv,tw,tx,tz,tA,tB,tC,tD,tE,tF,tG,tH,tI,tJ,tK,tL,tM,tN,tO,tP,tQ,tR,tS,tT,tU,tV,tW,tX,tY,tZ,t0,u64,t1,t2,t3,t4,t5,t6,t7,t8,t9,t_,t',ua,ub,uc,ud,ue,uf,ug,uh,ui,uj,uk,um,uo,uq,ur,uu,uv,uw,ux,uy,uz,uA,uB,uC,uD,uE,uF,uG,uH,uI,uJ,uK,uL,uM,uN,uO,uP,uQ,uR,uS,uT,uU,uV,uW,uX,uY,uZ,u0,u1,u2,u3,u4,u5,u6,u7,u9,u_,u',va,vb,vc,vd,ve,vf,vg,vh,vi,vj,vk,vl,vm,vn,vo,vp,vq,vr,vt,vu,vv,vw,vx,vy,vz,vA,vB,vC,vD,vE,vF,vG,vH,vI,vJ,vK,vL,vM,vN,vO,vP,vQ,vR,vS,vT,vU,vV,vW,vX,vY,vZ,v3,v5,v7,v8,v9,v_,v',wa,wb,wc,we,wg,wh,wi,wj,wk,wm,wo,wq,wt,wu,wv,wx,wy,wz,wA,wB,wC,wD,wE,wF,wG,wH,wI,wJ,wK,wL,wM,wN,wO,wP,wQ,wR,wS,wT,wU,wV,wW,wX,wY,wZ,w1,w2,w3,w4,w5,w6,w7,w8,w9,w_],[.box [.i bb,.i bh,.i bj,.i ba,.d (.sl 1 (a8.map bg)),.d (.azA aN),.d (.azA aJ),.d (.azA aO),.i bd,.i a_,.i a9,.i bk]]⟩ (b1 (ij prog [.tmp 2] [.one (.bool (dU (⟨bb,⟨bh,bj,ba,a8⟩,aN,aJ,aO,bd,a_,a9,bk⟩:aD)))]) .mk) [] (b1 (ij prog [.tmp 2] [.one (.bool (dU (⟨bb,⟨bh,bj,ba,a8⟩,aN,aJ,aO,bd,a_,a9,bk⟩:aD)))]) .mk):=by
 conv=>arg 3;whnf
 refine Aq λU1 cg=>?_;simp only[go_sem];by_cases U3:aJ=[]
 ·skip
  refine cb.intro (λi:Nat=>⟨(.an::.ptr 0 0 0::.d (.bool false)::.d (.azA aN)::.i i::aA 241 []),[.box [.i bb,.i bh,.i bj,.i ba,.d (.sl 1 (a8.map bg)),.d (.azA aN),.d (.azA aJ),.d (.azA aO),.i bd,.i a_,.i a9,.i bk]]⟩)
   (λ_=>0) (λi=>i=0) 0 [0] rfl ?_ ?_
  ·simp only[go_sem];simp
  rintro _ rfl;have aq:=bn (p:=((0:Nat):Int)<(aJ.length:Int)) (by rw[U3];simp);simp only[go_sem,I,aq];exact cg _ (aqs bb bh bj ba a8 aN aJ aO bd a_ a9 bk hc od nP ep fO Av Aw Ax U3)
 skip
 have aeA:=U3;have yH:aN=eD aN []:=rfl;refine cb.intro (α:=Nat×Option (List ab)) (λy=>match y.2 with
   |none=>⟨(.an::.ptr 0 0 0::.d (.bool false)::.d (.azA aN)::.i y.1::aA 241 []),[.box [.i bb,.i bh,.i bj,.i ba,.d (.sl 1 (a8.map bg)),.d (.azA aN),.d (.azA aJ),.d (.azA aO),.i bd,.i a_,.i a9,.i bk]]⟩
   |some ys=>⟨(.an::.ptr 0 0 0::.d (.bool false)::.sl 1 0 ys.length::.i y.1::aA 241 []),[.box [.i bb,.i bh,.i bj,.i ba,.d (.sl 1 (a8.map bg)),.d (.azA aN),.d (.azA aJ),.d (.azA aO),.i bd,.i a_,.i a9,.i bk],.azv ys]⟩)
  (λy=>aJ.length-y.1) (λy=>y.1<=aJ.length/\(y.2=none->y.1=0)/\y.2.getD aN=eD aN (aJ.take y.1)) (0,none) [0] ⟨by simp,by simp,by simp only[atN,aui];exact yH⟩ ?_ ?_
 ·simp only[go_sem];simp
 rintro⟨i,z1⟩ ⟨hi,hz,hy⟩;simp only at hi hz hy;have d':=qq (aJ.take i) aN;have K':=qq aJ aN;have cR:(aJ.take i).length=i:=by simp;omega
 cases z1 with
 |none=>
  have q_:=hz rfl;simp only[atN]at hy;by_cases h1:i<aJ.length
  ·have aq:=aro (i:=i) (n:=aJ.length);have az:=b_ ab.enc aJ i h1;have hw:=d8 h1 od;have b4:=Au aN aJ i h1;rw[<-hy]at b4;have OT:aN.length<=1048576:=by rw[hy];omega
   try simp only[go_sem,I,aF,az,ab.enc,aq]
   repeat'(first|((first|refine af.intro (by first|apply Ar|(apply sq<;>exact aT)) ?_|refine av.intro (by first|apply zc|apply lS|apply ld) ?_|apply bo)<;>simp only[go_sem,I])|refine⟨ae7,?_⟩|fail)
   refine bt.intro (i+1,some (f' aN aJ[i])) [0,1] ⟨by omega,by simp,by simp[b4]⟩ (show aJ.length-(i+1)<aJ.length-i by omega) ?_;simp only[go_sem,hw];simp
  exfalso;exact absurd (aq_.2 aeA) ω
 |some ys=>
  skip
  simp only[kk]at hy;by_cases h1:i<aJ.length
  ·have aq:=aro (i:=i) (n:=aJ.length);have az:=b_ ab.enc aJ i h1;have hw:=d8 h1 od;have b4:=Au aN aJ i h1;rw[<-hy]at b4;have OT:ys.length<=1048576:=by rw[hy];omega
   try simp only[go_sem,I,aF,az,ab.enc,aq]
   repeat'(first|((first|refine af.intro (by(apply sq<;>exact aT)) ?_|apply bo)<;>simp only[go_sem,I])|refine⟨ae7,?_⟩|fail)
   refine bt.intro (i+1,some (f' ys aJ[i])) [0,2] ⟨by omega,by simp,by simp[b4]⟩ (show aJ.length-(i+1)<aJ.length-i by omega) ?_;simp only[go_sem,hw];simp
  obtain⟨aq,rfl⟩:=arn (i:=i) (n:=aJ.length);rw[da]at hy;simp only[go_sem,I,aq];exact cg _ (aqu bb bh bj ba a8 aN aJ aO bd a_ a9 bk hc od nP ep fO Av Aw Ax aeA ys hy)
theorem aqw(bb bh bj ba:Int)(a8:List Int)(aN aJ aO:List ab)(bd a_ a9 bk:Int)(hc:aN.length+aJ.length+aO.length<=524288)(od:aJ.length<=maxLen)(nP:aO.length<=maxLen)(ep:lK (⟨bb,⟨bh,bj,ba,a8⟩,aN,aJ,aO,bd,a_,a9,bk⟩:aD))(fO:jD (⟨bb,⟨bh,bj,ba,a8⟩,aN,aJ,aO,bd,a_,a9,bk⟩:aD)=false)(Av:cN aN)(Aw:cN aJ)(Ax:cN aO){tb oY qn tc td te u8 tf pj pk pl pn po pq u16 pr pt tg th ti tj tk tl tm tn tp tq tr tt tu u32 tv tw tx tz tA tB tC tD tE tF tG tH tI tJ tK tL tM tN tO tP tQ tR tS tT tU tV tW tX tY tZ t0 u64 t1 t2 t3 t4 t5 t6 t7 t8 t9 t_ t' ua ub uc ud ue uf ug uh ui uj uk um uo uq ur uu uv uw ux uy uz uA uB uC uD uE uF uG uH uI uJ uK uL uM uN uO uP uQ uR uS uT uU uV uW uX uY uZ u0 u1 u2 u3 u4 u5 u6 u7 u9 u_ u' va vb vc vd ve vf vg vh vi vj vk vl vm vn vo vp vq vr vt vu vv vw vx vy vz vA vB vC vD vE vF vG vH vI vJ vK vL vM vN vO vP vQ vR vS vT vU vV vW vX vY vZ v3 v5 v7 v8 v9 v_ v' wa wb wc we wg wh wi wj wk wm wo wq wt wu wv wx wy wz wA wB wC wD wE wF wG wH wI wJ wK wL wM wN wO wP wQ wR wS wT wU wV wW wX wY wZ w1 w2 w3 w4 w5 w6 w7 w8 w9 w_:V} :
  codeE prog [] (Di 3 (E5 Tryz.f156)) ⟨[tb,.ptr 0 0 0,.d (.bool false),oY,qn,tc,td,te,u8,tf,pj,pk,pl,pn,po,pq,u16,pr,pt,tg,th,ti,tj,tk,tl,tm,tn,tp,tq,tr,tt,tu,u32,tv,tw,tx,tz,tA,tB,tC,tD,tE,tF,tG,tH,tI,tJ,tK,tL,tM,tN,tO,tP,tQ,tR,tS,tT,tU,tV,tW,tX,tY,tZ,t0,u64,t1,t2,t3,t4,t5,t6,t7,t8,t9,t_,t',ua,ub,uc,ud,ue,uf,ug,uh,ui,uj,uk,um,uo,uq,ur,uu,uv,uw,ux,uy,uz,uA,uB,uC,uD,uE,uF,uG,uH,uI,uJ,uK,uL,uM,uN,uO,uP,uQ,uR,uS,uT,uU,uV,uW,uX,uY,uZ,u0,u1,u2,u3,u4,u5,u6,u7,u9,u_,u',va,vb,vc,vd,ve,vf,vg,vh,vi,vj,vk,vl,vm,vn,vo,vp,vq,vr,vt,vu,vv,vw,vx,vy,vz,vA,vB,vC,vD,vE,vF,vG,vH,vI,vJ,vK,vL,vM,vN,vO,vP,vQ,vR,vS,vT,vU,vV,vW,vX,vY,vZ,v3,v5,v7,v8,v9,v_,v',wa,wb,wc,we,wg,wh,wi,wj,wk,wm,wo,wq,wt,wu,wv,wx,wy,wz,wA,wB,wC,wD,wE,wF,wG,wH,wI,wJ,wK,wL,wM,wN,wO,wP,wQ,wR,wS,wT,wU,wV,wW,wX,wY,wZ,w1,w2,w3,w4,w5,w6,w7,w8,w9,w_],[.box [.i bb,.i bh,.i bj,.i ba,.d (.sl 1 (a8.map bg)),.d (.azA aN),.d (.azA aJ),.d (.azA aO),.i bd,.i a_,.i a9,.i bk]]⟩ (b1 (ij prog [.tmp 2] [.one (.bool (dU (⟨bb,⟨bh,bj,ba,a8⟩,aN,aJ,aO,bd,a_,a9,bk⟩:aD)))]) .mk) [] (b1 (ij prog [.tmp 2] [.one (.bool (dU (⟨bb,⟨bh,bj,ba,a8⟩,aN,aJ,aO,bd,a_,a9,bk⟩:aD)))]) .mk):=by
 conv=>arg 3;whnf
 refine Aq λU1 cg=>?_;simp only[go_sem];exact cg _ (aqv bb bh bj ba a8 aN aJ aO bd a_ a9 bk hc od nP ep fO Av Aw Ax)
theorem nQ(bb bh bj ba:Int)(a8:List Int)(aN aJ aO:List ab)(bd a_ a9 bk:Int)(hc:aN.length+aJ.length+aO.length<=524288):aM 156 [.agg [.i bb,.i bh,.i bj,.i ba,.sl 1 (a8.map bg),.azA aN,.azA aJ,.azA aO,.i bd,.i a_,.i a9,.i bk]] [.one (.bool (dU (⟨bb,⟨bh,bj,ba,a8⟩,aN,aJ,aO,bd,a_,a9,bk⟩:aD)))]:=by
 refine aW 246 func156 call156 [.tmp 2] ?_;intro ok;have od:aJ.length<=maxLen:=by simp only[maxLen];omega
 have nP:aO.length<=maxLen:=by simp only[maxLen];omega
 refine Aq λOU OV=>?_;simp only[go_sem];refine OV _ (Aq λK2 OW=>?_)
 try simp only[go_sem]
 repeat'(first|((first|refine af.intro (by first|apply Ar|(apply sq<;>exact aT)) ?_|refine av.intro (by first|apply zc|apply lS|apply ld) ?_|apply bo)<;>simp only[go_sem])|refine⟨ae7,?_⟩|fail)
 refine bX (λh0=>?_) (λh0=>?_)
 ·simp only[go_sem];have:lK (⟨bb,⟨bh,bj,ba,a8⟩,aN,aJ,aO,bd,a_,a9,bk⟩:aD)=false:=by
   rw[Bool.eq_false_iff];intro g;simp[lK]at h0 g;simp_all
  simp[dU,this]
 ·have ep:lK (⟨bb,⟨bh,bj,ba,a8⟩,aN,aJ,aO,bd,a_,a9,bk⟩:aD):=by
   simp[lK]at h0⊢;simp_all
  have aqx:(i0 (⟨bb,⟨bh,bj,ba,a8⟩,aN,aJ,aO,bd,a_,a9,bk⟩:aD).aB/\cN aN/\cN aJ/\cN aO):=by
   simp only[lK,bm,ed]at ep;exact⟨ep.1,ep.2.1,ep.2.2.1,ep.2.2.2.1⟩
  obtain⟨ay5,Av,Aw,Ax⟩:=aqx;simp only[go_sem];refine OW _ (Aq λaqy OX=>?_)
  try simp only[go_sem]
  repeat'(first|((first|refine af.intro (by(apply sq<;>exact aT)) ?_|apply bo)<;>simp only[go_sem])|refine⟨ae7,?_⟩|fail)
  refine bX (λa1=>?_) (λa1=>?_)
  ·have fO:jD (⟨bb,⟨bh,bj,ba,a8⟩,aN,aJ,aO,bd,a_,a9,bk⟩:aD):=by simpa [jD,d1]using a1
   simp only[go_sem]
   try simp only[go_sem,I]
   repeat'(apply bo<;>simp only[go_sem,I])
   all_goals(apply fu;simp[dU,ep,fO,Km])
  have fO:jD (⟨bb,⟨bh,bj,ba,a8⟩,aN,aJ,aO,bd,a_,a9,bk⟩:aD)=false:=by simpa [jD,d1]using a1
  simp only[go_sem];exact OX _ (aqw bb bh bj ba a8 aN aJ aO bd a_ a9 bk hc od nP ep fO Av Aw Ax)
def aeD:List (List bK):=cB 14 [4162967,4162965,4162959,4163062,4163008,4163926,4163440,4250434,4246060,4232938,4193572,4074381,4517248,3188646]
attribute [go_sem] aeD
def P9:aD:=⟨0,⟨0,0,0,[]⟩,[],[],[],0,0,0,0⟩
def sB(n:Int):aD:=if pc n then⟨0,xk n,[],[],[],-1,0,0,0⟩else P9
theorem aqC(n:Int):aM 311 [.one (.i n)] [.agg (aD.enc (sB n)),.one (.bool (pc n))]:=by
 refine aW 16 func311 call311 [.cell 2 65,.tmp 3] ?_;intro _;cases aE:pc n
 ·try simp only[go_sem]
  repeat'(refine af.intro (by apply ad2) ?_<;>simp only[go_sem,aE])
  all_goals simp[sB,P9,aE]
 have hn:=FO aE
 try simp only[go_sem]
 repeat'(first|(refine af.intro (by apply ad2) ?_<;>simp only[go_sem,aE])|refine⟨ae7,?_⟩|fail)
 all_goals simp[sB,xk,aE,bg]
def pY(s:aD):Bool:=dU s&&decide (s.bp<=1)&&decide (s.bf=-1)
def rA(s:aD)(d:List UInt8):aD:=
 if pY s then {s with aB:=r1 s.aB d,bC:=if 0<nx s.aB d then f' s.bC ⟨s.aB.bS,(r1 s.aB d).bS⟩else s.bC}else s
def FK(s:aD)(d:List UInt8):Int:=if pY s then(nx s.aB d:Int)else 0
theorem afZ(bb bh bj ba:Int)(a8:List Int)(aN aJ aO:List ab)(bd a_ a9 bk:Int)(d:List UInt8)(hc:aN.length+aJ.length+aO.length<=524288)(hr:a8.length<=8388608)(hd:d.length<=1048576):aM 276 [.agg [.i bb,.i bh,.i bj,.i ba,.sl 1 (a8.map bg),.azA aN,.azA aJ,.azA aO,.i bd,.i a_,.i a9,.i bk],.one (.str d)] [.agg (aD.enc (rA (⟨bb,⟨bh,bj,ba,a8⟩,aN,aJ,aO,bd,a_,a9,bk⟩:aD) d)),.one (.i (FK (⟨bb,⟨bh,bj,ba,a8⟩,aN,aJ,aO,bd,a_,a9,bk⟩:aD) d))]:=by
 refine aW 48 func276 call276 [.cell 4 65,.tmp 5] ?_;intro _;cases hW:pY (⟨bb,⟨bh,bj,ba,a8⟩,aN,aJ,aO,bd,a_,a9,bk⟩:aD)
 ·try simp only[go_sem]
  repeat'((first|refine af.intro (by first|(apply sD<;>exact aT)|(apply nQ<;>exact aT)) ?_|apply bo)<;>simp only[go_sem,I])
  refine bX (λh0=>?_) (λh0=>?_)
  ·simp only[go_sem,I];simp[rA,FK,hW]
  exfalso;simp[pY]at hW h0;grind
 have hw:=hW;simp only[pY,bm,bH,ed]at hw;have ak:=bn (p:=1<bb) ω;have ar:=bn (p:=bd≠-1) ω
 try simp only[go_sem]
 repeat'(first|((first|refine af.intro (by first|(apply sD<;>exact aT)|(apply nQ<;>exact aT)|(apply ap2<;>exact aT)|(apply sq<;>exact aT)) ?_|with_reducible apply cG|refine bX (λh=>?_) (λh=>?_))<;>simp only[go_sem,I,hw.1,ak,ar])|refine⟨ae7,?_⟩|fail)
 ·have h':0<nx (⟨bb,⟨bh,bj,ba,a8⟩,aN,aJ,aO,bd,a_,a9,bk⟩:aD).aB d:=by have:=cY h;simp only;omega
  simp only[rA,FK,hW,if_true,if_pos h']
  try simp[outOA,fb]
 have h':¬0<nx (⟨bb,⟨bh,bj,ba,a8⟩,aN,aJ,aO,bd,a_,a9,bk⟩:aD).aB d:=by have:=de h;simp only;omega
 simp only[rA,FK,hW,if_true,if_neg h']
 try simp[outOA,fb]
def xh(s:aD):aD:=if pY s then {s with bf:=s.aB.bS,aS:=1}else s
theorem afQ(bb bh bj ba:Int)(a8:List Int)(aN aJ aO:List ab)(bd a_ a9 bk:Int)(hc:aN.length+aJ.length+aO.length<=524288)(hr:a8.length<=8388608):aM 277 [.agg [.i bb,.i bh,.i bj,.i ba,.sl 1 (a8.map bg),.azA aN,.azA aJ,.azA aO,.i bd,.i a_,.i a9,.i bk]] [.agg (aD.enc (xh (⟨bb,⟨bh,bj,ba,a8⟩,aN,aJ,aO,bd,a_,a9,bk⟩:aD))),.one (.bool (pY (⟨bb,⟨bh,bj,ba,a8⟩,aN,aJ,aO,bd,a_,a9,bk⟩:aD)))]:=by
 refine aW 27 func277 call277 [.cell 2 65,.tmp 3] ?_;intro _;cases hW:pY (⟨bb,⟨bh,bj,ba,a8⟩,aN,aJ,aO,bd,a_,a9,bk⟩:aD)
 ·try simp only[go_sem]
  repeat'((first|refine af.intro (by first|(apply sD<;>exact aT)|(apply nQ<;>exact aT)) ?_|apply bo)<;>simp only[go_sem,I])
  refine bX (λh0=>?_) (λh0=>?_)
  ·simp only[go_sem,I];simp[xh,hW]
  exfalso;simp[pY]at hW h0;grind
 have hw:=hW;simp only[pY,bm,bH,ed]at hw;have ak:=bn (p:=1<bb) ω;have ar:=bn (p:=bd≠-1) ω
 try simp only[go_sem]
 repeat'(first|((first|refine af.intro (by first|(apply sD<;>exact aT)|(apply nQ<;>exact aT)) ?_|with_reducible apply cG)<;>simp only[go_sem,I,hw.1,ak,ar])|refine⟨ae7,?_⟩|fail)
 all_goals simp[xh,hW]
def xj(s:aD)(c:Int):Bool:=dU s&&decide (s.bp<=2)&&bN c
def DU(s:aD)(c:Int):aD:=if xj s c then⟨4,⟨s.aB.size,s.b0,s.b0,ea s.aB.size.toNat 0⟩,[],[],[],s.b0,0,s.b0,c⟩else s
theorem Kj{s:aD}(h:dU s):i0 s.aB:=by
 simp only[dU,lK,bm,ed]at h;exact h.1
theorem Wo(bb bh bj ba:Int)(a8:List Int)(aN aJ aO:List ab)(bd a_ a9 bk c:Int)(hc:aN.length+aJ.length+aO.length<=524288)(hr:a8.length<=8388608):aM 280 [.agg [.i bb,.i bh,.i bj,.i ba,.sl 1 (a8.map bg),.azA aN,.azA aJ,.azA aO,.i bd,.i a_,.i a9,.i bk],.one (.i c)] [.agg (aD.enc (DU (⟨bb,⟨bh,bj,ba,a8⟩,aN,aJ,aO,bd,a_,a9,bk⟩:aD) c)),.one (.bool (xj (⟨bb,⟨bh,bj,ba,a8⟩,aN,aJ,aO,bd,a_,a9,bk⟩:aD) c))]:=by
 refine aW 41 func280 call280 [.cell 4 65,.tmp 5] ?_;intro _;cases hW:xj (⟨bb,⟨bh,bj,ba,a8⟩,aN,aJ,aO,bd,a_,a9,bk⟩:aD) c
 ·try simp only[go_sem]
  repeat'((first|refine af.intro (by(apply nQ<;>exact aT)) ?_|refine av.intro (by apply ld) ?_|apply bo)<;>simp only[go_sem])
  refine bX (λh0=>?_) (λh0=>?_)
  ·simp only[go_sem]
   try simp only[go_sem,I]
   repeat'(first|(refine af.intro (by(apply sD<;>exact aT)) ?_<;>simp only[go_sem,I])|refine⟨ae7,?_⟩|fail)
   all_goals simp[DU,hW]
  exfalso;simp[xj]at hW h0;grind
 have hw:=hW;simp only[xj,bm,bH,ed]at hw;have hg:=oD (Kj hw.1);simp only at hg;have ak:=bn (p:=2<bb) ω
 try simp only[go_sem]
 repeat'(first|((first|refine af.intro (by first|(apply nQ<;>exact aT)|apply ld) ?_|with_reducible apply cG|refine a7 aeD χ ψ ?_)<;>simp only[go_sem,hw.1,ak,hw.2.2])|refine⟨ae7,?_⟩|fail)
 all_goals simp[DU,hW,bg]
def oM(s:aD):Bool:=dU s&&decide (s.bp=4)
def jJ(s:aD):aD:=if oM s then {s with bp:=5}else s
theorem apW(bb bh bj ba:Int)(a8:List Int)(aN aJ aO:List ab)(bd a_ a9 bk:Int)(hc:aN.length+aJ.length+aO.length<=524288)(hr:a8.length<=8388608):aM 97 [.agg [.i bb,.i bh,.i bj,.i ba,.sl 1 (a8.map bg),.azA aN,.azA aJ,.azA aO,.i bd,.i a_,.i a9,.i bk]] [.agg (aD.enc (jJ (⟨bb,⟨bh,bj,ba,a8⟩,aN,aJ,aO,bd,a_,a9,bk⟩:aD))),.one (.bool (oM (⟨bb,⟨bh,bj,ba,a8⟩,aN,aJ,aO,bd,a_,a9,bk⟩:aD)))]:=by
 refine aW 18 func97 call97 [.cell 2 65,.tmp 3] ?_;intro _
 try simp only[go_sem]
 repeat'(first|((first|refine af.intro (by first|(apply sD<;>exact aT)|(apply nQ<;>exact aT)) ?_|apply bo|refine bX (λh=>?_) (λh=>?_))<;>simp only[go_sem,I])|refine⟨ae7,?_⟩|fail)
 all_goals(cases hc2:oM (⟨bb,⟨bh,bj,ba,a8⟩,aN,aJ,aO,bd,a_,a9,bk⟩:aD)<;>first|(simp[jJ,hc2];done)|(exfalso;simp[oM]at *;grind))
def n7:bI:=⟨0,[],false⟩
def jG(s:aD):Bool:=dU s&&decide (s.bp<=2)
def k6(r:ab)(cm aX:Int):Int:=if cm<i64.wrap (cu r.high aX-r.low)then i64.wrap (r.low+dJ cm 0)else cu r.high aX
def kY(s:aD)(cm aX:Int):Bool:=
 jG s&&(match s.bC[0]? with|some r=>decide (r.low<cu r.high aX)&&decide (r.low<k6 r cm aX)|none=>decide (s.aS=1))
def jV(s:aD)(cm aX:Int):bI:=
 if kY s cm aX then(match s.bC[0]? with|some r=>⟨r.low,y7 s.aB r.low (i64.wrap (k6 r cm aX-r.low)),decide (s.aS=1)&&decide (k6 r cm aX=s.bf)⟩|none=>⟨s.bf,[],true⟩)else n7
def xx(s:aD)(m l:Int):List AD:=[.agg [.i (jV s m l).aP,.str (jV s m l).data,.bool (jV s m l).aS],.one (.bool (kY s m l))]
theorem EO{s:aD}{m l:Int}(h:kY s m l=false):xx s m l=[.agg [.i 0,.str [],.bool false],.one (.bool false)]:=by
 unfold xx jV;rw[h];simp[n7]
theorem abA{s:aD}{m l:Int}(bB:jG s)(hp:s.bC=[])(hf:s.aS=1):xx s m l=[.agg [.i s.bf,.str [],.bool true],.one (.bool true)]:=by
 have h:kY s m l:=by simp[kY,bB,hp,hf]
 unfold xx jV;rw[h,hp];simp
theorem TA{s:aD}{m l:Int}{r:ab}(bB:jG s)(hp:s.bC[0]?=some r)(h1:r.low<cu r.high l)(h2:r.low<k6 r m l) :
  xx s m l=[.agg [.i r.low,.str (y7 s.aB r.low (i64.wrap (k6 r m l-r.low))),.bool (decide (s.aS=1)&&decide (k6 r m l=s.bf))],.one (.bool true)]:=by
 have h:kY s m l:=by simp[kY,bB,hp,h1,h2]
 unfold xx jV;rw[h,hp];simp
theorem ah6(bb bh bj ba:Int)(a8:List Int)(aN aJ aO:List ab)(bd a_ a9 bk m l:Int)(hc:aN.length+aJ.length+aO.length<=524288):aM 303 [.agg [.i bb,.i bh,.i bj,.i ba,.sl 1 (a8.map bg),.azA aN,.azA aJ,.azA aO,.i bd,.i a_,.i a9,.i bk],.one (.i m),.one (.i l)] [.agg [.i (jV (⟨bb,⟨bh,bj,ba,a8⟩,aN,aJ,aO,bd,a_,a9,bk⟩:aD) m l).aP,.str (jV (⟨bb,⟨bh,bj,ba,a8⟩,aN,aJ,aO,bd,a_,a9,bk⟩:aD) m l).data,.bool (jV (⟨bb,⟨bh,bj,ba,a8⟩,aN,aJ,aO,bd,a_,a9,bk⟩:aD) m l).aS],.one (.bool (kY (⟨bb,⟨bh,bj,ba,a8⟩,aN,aJ,aO,bd,a_,a9,bk⟩:aD) m l))]:=by
 refine aW 90 func303 call303 [.cell 6 77,.tmp 7] ?_;intro _
 show codeE _ _ _ _ (b1 (ij _ _ (xx (⟨bb,⟨bh,bj,ba,a8⟩,aN,aJ,aO,bd,a_,a9,bk⟩:aD) m l)) .mk) [] (b1 (ij _ _ (xx (⟨bb,⟨bh,bj,ba,a8⟩,aN,aJ,aO,bd,a_,a9,bk⟩:aD) m l)) .mk)
 cases bB:jG (⟨bb,⟨bh,bj,ba,a8⟩,aN,aJ,aO,bd,a_,a9,bk⟩:aD)
 ·rw[EO (by simp[kY,bB])]
  try simp only[go_sem]
  repeat'((first|refine af.intro (by(apply nQ<;>exact aT)) ?_|apply bo)<;>simp only[go_sem])
  refine bX (λh0=>?_) (λh0=>?_)
  ·simp only[go_sem]
  exfalso;simp[jG]at bB h0;grind
 have hw:=bB;simp only[jG,bm,bH]at hw;have ak:=bn (p:=2<bb) ω;by_cases hp:aN=[]
 ·have ar:=bn (p:=(0:Int)<(aN.length:Int)) (by rw[hp];simp);by_cases hf:a_=1
  ·have a4:=br (p:=a_=1) hf;rw[abA bB hp hf]
   try simp only[go_sem]
   repeat'((first|refine af.intro (by(apply nQ<;>exact aT)) ?_|with_reducible apply cG)<;>simp only[go_sem,I,hw.1,ak,ar,a4])
  have a4:=bn (p:=a_=1) hf;rw[EO (by simp[kY,hp,hf])]
  try simp only[go_sem]
  repeat'((first|refine af.intro (by(apply nQ<;>exact aT)) ?_|with_reducible apply cG)<;>simp only[go_sem,I,hw.1,ak,ar,a4])
 have fU:0<aN.length:=aq_.2 hp;have ar:=br (p:=(0:Int)<(aN.length:Int)) ω;have iZ:=b_ ab.enc aN 0 fU;have hr:aN[0]?=some aN[0]:=cy fU;generalize aN[0]=r at iZ hr;by_cases c1:r.low<cu r.high l
 ·have a4:=bn (p:=(if l<r.high then l else r.high)<=r.low) (by unfold cu at c1;omega);by_cases cW:r.low<k6 r m l
  ·rw[TA bB hr c1 cW];cases bP:decide (m<i64.wrap ((if l<r.high then l else r.high)-r.low))
   ·have hn:k6 r m l=(if l<r.high then l else r.high):=by unfold k6 cu;rw[if_neg (de bP)]
    rw[hn]at cW⊢
    try simp only[go_sem]
    repeat'(first|((first|refine af.intro (by first|(apply nQ<;>exact aT)|apply ad5) ?_|with_reducible apply cG|apply bo)<;>simp only[go_sem,I,hw.1,ak,ar,iZ,ab.enc,gM,a4,bP])|refine⟨ae7,?_⟩|fail)
    all_goals first|omega|(simp only[c2])
   have hn:k6 r m l=i64.wrap (r.low+if 0>m then 0 else m):=by unfold k6 cu dJ;rw[if_pos (cY bP)]
   rw[hn]at cW⊢;have di:=bn (p:=i64.wrap (r.low+if 0>m then 0 else m)<=r.low) ω
   try simp only[go_sem]
   repeat'(first|((first|refine af.intro (by first|(apply nQ<;>exact aT)|apply ad5) ?_|with_reducible apply cG|apply bo)<;>simp only[go_sem,I,hw.1,ak,ar,iZ,ab.enc,gM,a4,bP,di])|refine⟨ae7,?_⟩|fail)
   all_goals first|omega|(simp only[c2])
  rw[EO (by simp[kY,bB,hr,cW])];have bP:decide (m<i64.wrap ((if l<r.high then l else r.high)-r.low)):=by
   refine br (Classical.byContradiction λg=>cW ?_);unfold k6 cu;rw[if_neg g];exact c1
  have hn:k6 r m l=i64.wrap (r.low+if 0>m then 0 else m):=by unfold k6 cu dJ;rw[if_pos (cY bP)]
  rw[hn]at cW;have di:=br (p:=i64.wrap (r.low+if 0>m then 0 else m)<=r.low) ω
  try simp only[go_sem]
  repeat'((first|refine af.intro (by(apply nQ<;>exact aT)) ?_|with_reducible apply cG)<;>simp only[go_sem,I,hw.1,ak,ar,iZ,ab.enc,gM,a4,bP,di])
  all_goals omega
 have a4:=br (p:=(if l<r.high then l else r.high)<=r.low) (by unfold cu at c1;omega);rw[EO (by simp[kY,bB,hr,c1])]
 try simp only[go_sem]
 repeat'((first|refine af.intro (by(apply nQ<;>exact aT)) ?_|with_reducible apply cG)<;>simp only[go_sem,I,hw.1,ak,ar,iZ,ab.enc,gM,a4])
 all_goals omega
def dD(p:bI):ab:=⟨p.aP,i64.wrap (p.aP+(p.data.length:Int))⟩
theorem KW(cj:Int)(b6:List UInt8)(cl:Bool):aM 159 [.agg [.i cj,.str b6,.bool cl]] [.agg [.i (dD (⟨cj,b6,cl⟩:bI)).low,.i (dD (⟨cj,b6,cl⟩:bI)).high]]:=by
 refine aW 12 func159 call159 [.cell 2 139] ?_;intro _
 try simp only[go_sem]
 all_goals simp[dD]
def jX(s:aD)(p:bI):Bool:=decide (0<=p.aP)&&decide (p.aP<=s.aB.bS)&&decide ((p.data.length:Int)<=i64.wrap (s.aB.bS-p.aP))&&(!p.aS||(decide (s.bf≠-1)&&decide (i64.wrap (p.aP+(p.data.length:Int))=s.bf)))
theorem Hy(bb bh bj ba:Int)(a8:List Int)(aN aJ aO:List ab)(bd a_ a9 bk cj:Int)(b6:List UInt8)(cl:Bool):aM 157 [.agg [.i bb,.i bh,.i bj,.i ba,.sl 1 (a8.map bg),.azA aN,.azA aJ,.azA aO,.i bd,.i a_,.i a9,.i bk],.agg [.i cj,.str b6,.bool cl]] [.one (.bool (jX (⟨bb,⟨bh,bj,ba,a8⟩,aN,aJ,aO,bd,a_,a9,bk⟩:aD) (⟨cj,b6,cl⟩:bI)))]:=by
 refine aW 49 func157 call157 [.tmp 4] ?_;intro _
 try simp only[go_sem]
 repeat'(apply bo<;>simp only[go_sem])
 all_goals(apply fu;simp[jX,ed])
def C7(s:ae):Bool:=!s.ft||decide (s.ag.bp=3)||decide (s.ag.bp=5)
theorem aq4(kn ko kq kr ks:Int)(jN:List Int)(iP iQ iR:List ab)(kt ku kx ky kz kA kB kC kD kE:Int)(gU:List aR)(kF kG kH kI kJ kK kL kM kN kO:Int)(kP kQ kR kS kT kU kV:Bool)(kW:Int)(kX:Bool):aM 174 [.agg [.i kn,.i ko,.i kq,.i kr,.i ks,.sl 1 (jN.map bg),.azA iP,.azA iQ,.azA iR,.i kt,.i ku,.i kx,.i ky,.i kz,.i kA,.i kB,.i kC,.i kD,.i kE,.azB gU,.i kF,.i kG,.i kH,.i kI,.i kJ,.i kK,.i kL,.i kM,.i kN,.i kO,.bool kP,.bool kQ,.bool kR,.bool kS,.bool kT,.bool kU,.bool kV,.i kW,.bool kX]] [.one (.bool (C7 (⟨kn,⟨ko,⟨kq,kr,ks,jN⟩,iP,iQ,iR,kt,ku,kx,ky⟩,⟨kz,kA,kB,kC⟩,⟨kD,⟨kE,gU⟩,kF,kG,kH⟩,⟨kI,kJ,kK,kL,kM,kN⟩,⟨kO,kP⟩,kQ,kR,kS,kT,kU,kV,kW,kX⟩:ae)))]:=by
 refine aW 18 func174 call174 [.tmp 2] ?_;intro _
 try simp only[go_sem]
 repeat'(apply bo<;>simp only[go_sem])
 all_goals(apply fu;simp[C7])
theorem aq5(kn ko kq kr ks:Int)(jN:List Int)(iP iQ iR:List ab)(kt ku kx ky kz kA kB kC kD kE:Int)(gU:List aR)(kF kG kH kI kJ kK kL kM kN kO:Int)(kP kQ kR kS kT kU kV:Bool)(kW:Int)(kX:Bool):aM 150 [.agg [.i kn,.i ko,.i kq,.i kr,.i ks,.sl 1 (jN.map bg),.azA iP,.azA iQ,.azA iR,.i kt,.i ku,.i kx,.i ky,.i kz,.i kA,.i kB,.i kC,.i kD,.i kE,.azB gU,.i kF,.i kG,.i kH,.i kI,.i kJ,.i kK,.i kL,.i kM,.i kN,.i kO,.bool kP,.bool kQ,.bool kR,.bool kS,.bool kT,.bool kU,.bool kV,.i kW,.bool kX]] [.one (.bool (C7 (⟨kn,⟨ko,⟨kq,kr,ks,jN⟩,iP,iQ,iR,kt,ku,kx,ky⟩,⟨kz,kA,kB,kC⟩,⟨kD,⟨kE,gU⟩,kF,kG,kH⟩,⟨kI,kJ,kK,kL,kM,kN⟩,⟨kO,kP⟩,kQ,kR,kS,kT,kU,kV,kW,kX⟩:ae)))]:=by
 refine aW 18 func150 call150 [.tmp 2] ?_;intro _
 try simp only[go_sem]
 repeat'(apply bo<;>simp only[go_sem])
 all_goals(apply fu;simp[C7])
def C8(s:ae):Bool:=!s.fS||KE s.aU
theorem aq6(kn ko kq kr ks:Int)(jN:List Int)(iP iQ iR:List ab)(kt ku kx ky kz kA kB kC kD kE:Int)(gU:List aR)(kF kG kH kI kJ kK kL kM kN kO:Int)(kP kQ kR kS kT kU kV:Bool)(kW:Int)(kX:Bool)(hb:∀c∈gU,c.data.length<=1048576)(hx:gU.length<=1048576):aM 175 [.agg [.i kn,.i ko,.i kq,.i kr,.i ks,.sl 1 (jN.map bg),.azA iP,.azA iQ,.azA iR,.i kt,.i ku,.i kx,.i ky,.i kz,.i kA,.i kB,.i kC,.i kD,.i kE,.azB gU,.i kF,.i kG,.i kH,.i kI,.i kJ,.i kK,.i kL,.i kM,.i kN,.i kO,.bool kP,.bool kQ,.bool kR,.bool kS,.bool kT,.bool kU,.bool kV,.i kW,.bool kX]] [.one (.bool (C8 (⟨kn,⟨ko,⟨kq,kr,ks,jN⟩,iP,iQ,iR,kt,ku,kx,ky⟩,⟨kz,kA,kB,kC⟩,⟨kD,⟨kE,gU⟩,kF,kG,kH⟩,⟨kI,kJ,kK,kL,kM,kN⟩,⟨kO,kP⟩,kQ,kR,kS,kT,kU,kV,kW,kX⟩:ae)))]:=by
 refine aW 11 func175 call175 [.tmp 2] ?_;intro _
 try simp only[go_sem]
 repeat'((first|refine av.intro (by(apply apJ<;>exact aT)) ?_|apply bo)<;>simp only[go_sem])
 all_goals(apply fu;simp[C8])
theorem aq7(kn ko kq kr ks:Int)(jN:List Int)(iP iQ iR:List ab)(kt ku kx ky kz kA kB kC kD kE:Int)(gU:List aR)(kF kG kH kI kJ kK kL kM kN kO:Int)(kP kQ kR kS kT kU kV:Bool)(kW:Int)(kX:Bool)(hb:∀c∈gU,c.data.length<=1048576)(hx:gU.length<=1048576):aM 151 [.agg [.i kn,.i ko,.i kq,.i kr,.i ks,.sl 1 (jN.map bg),.azA iP,.azA iQ,.azA iR,.i kt,.i ku,.i kx,.i ky,.i kz,.i kA,.i kB,.i kC,.i kD,.i kE,.azB gU,.i kF,.i kG,.i kH,.i kI,.i kJ,.i kK,.i kL,.i kM,.i kN,.i kO,.bool kP,.bool kQ,.bool kR,.bool kS,.bool kT,.bool kU,.bool kV,.i kW,.bool kX]] [.one (.bool (C8 (⟨kn,⟨ko,⟨kq,kr,ks,jN⟩,iP,iQ,iR,kt,ku,kx,ky⟩,⟨kz,kA,kB,kC⟩,⟨kD,⟨kE,gU⟩,kF,kG,kH⟩,⟨kI,kJ,kK,kL,kM,kN⟩,⟨kO,kP⟩,kQ,kR,kS,kT,kU,kV,kW,kX⟩:ae)))]:=by
 refine aW 11 func151 call151 [.tmp 2] ?_;intro _
 try simp only[go_sem]
 repeat'((first|refine av.intro (by(apply apN<;>exact aT)) ?_|apply bo)<;>simp only[go_sem])
 all_goals(apply fu;simp[C8])
def F9(s:ae):Bool:=bN s.id&&jM s.cL&&lZ s.aU&&l9 s.bL&&mJ s.cI&&bN s.oe&&(s.ft||s.fS)
def OE(s:ae):Bool:=!decide (s.cL.dV<s.ag.b0)&&!decide (s.bL.seen<s.aU.fR)&&!(s.i4&&decide (s.ag.bp≠4))&&!(s.gK&&!s.i5)&&!(decide (s.oe≠0)&&!s.i5)
def OF(s:ae):Bool:=(s.ft||decide (s.ag.bp=0)&&decide (s.ag.aB.bS=0)&&decide (s.ag.bf=-1))&&(s.fS||decide (s.aU.bp=0)&&decide (s.aU.fR=0)&&!s.i5)
def Ci(b:Bool)(s:ae):Bool:=b&&F9 s&&OE s&&OF s
def dt(s:ae):Bool:=Ci (dU s.ag) s
def e1(s:ae):Bool:=Ci (zh s.ag) s
theorem Fp{s:ae}(hn:ov s.ag):dt s=e1 s:=by unfold dt e1;rw[OZ hn]
theorem aeM(kn ko kq kr ks:Int)(jN:List Int)(iP iQ iR:List ab)(kt ku kx ky kz kA kB kC kD kE:Int)(gU:List aR)(kF kG kH kI kJ kK kL kM kN kO:Int)(kP kQ kR kS kT kU kV:Bool)(kW:Int)(kX:Bool)(hc:iP.length+iQ.length+iR.length<=524288)(hb:∀c∈gU,c.data.length<=1048576)(hx:gU.length<=1048576):aM 126 [.agg [.i kn,.i ko,.i kq,.i kr,.i ks,.sl 1 (jN.map bg),.azA iP,.azA iQ,.azA iR,.i kt,.i ku,.i kx,.i ky,.i kz,.i kA,.i kB,.i kC,.i kD,.i kE,.azB gU,.i kF,.i kG,.i kH,.i kI,.i kJ,.i kK,.i kL,.i kM,.i kN,.i kO,.bool kP,.bool kQ,.bool kR,.bool kS,.bool kT,.bool kU,.bool kV,.i kW,.bool kX]] [.one (.bool (dt (⟨kn,⟨ko,⟨kq,kr,ks,jN⟩,iP,iQ,iR,kt,ku,kx,ky⟩,⟨kz,kA,kB,kC⟩,⟨kD,⟨kE,gU⟩,kF,kG,kH⟩,⟨kI,kJ,kK,kL,kM,kN⟩,⟨kO,kP⟩,kQ,kR,kS,kT,kU,kV,kW,kX⟩:ae)))]:=by
 refine aW 140 func126 call126 [.tmp 2] ?_;intro _
 try simp only[go_sem]
 repeat'((first|refine af.intro (by apply ld) ?_|refine av.intro (by first|apply ld|(apply nQ<;>exact aT)|apply B5|(apply Ao<;>exact aT)|apply Ib|apply Kh) ?_|apply bo|refine bX (λh=>?_) (λh=>?_))<;>simp only[go_sem])
 all_goals(apply fu;simp only[dt,Ci,F9,OE,OF,c2,d1]at *;grind)
theorem aeN(kn ko kq kr ks:Int)(jN:List Int)(iP iQ iR:List ab)(kt ku kx ky kz kA kB kC kD kE:Int)(gU:List aR)(kF kG kH kI kJ kK kL kM kN kO:Int)(kP kQ kR kS kT kU kV:Bool)(kW:Int)(kX:Bool)(hc:iP.length+iQ.length+iR.length<=524288)(hb:∀c∈gU,c.data.length<=1048576)(hx:gU.length<=1048576):aM 105 [.agg [.i kn,.i ko,.i kq,.i kr,.i ks,.sl 1 (jN.map bg),.azA iP,.azA iQ,.azA iR,.i kt,.i ku,.i kx,.i ky,.i kz,.i kA,.i kB,.i kC,.i kD,.i kE,.azB gU,.i kF,.i kG,.i kH,.i kI,.i kJ,.i kK,.i kL,.i kM,.i kN,.i kO,.bool kP,.bool kQ,.bool kR,.bool kS,.bool kT,.bool kU,.bool kV,.i kW,.bool kX]] [.one (.bool (e1 (⟨kn,⟨ko,⟨kq,kr,ks,jN⟩,iP,iQ,iR,kt,ku,kx,ky⟩,⟨kz,kA,kB,kC⟩,⟨kD,⟨kE,gU⟩,kF,kG,kH⟩,⟨kI,kJ,kK,kL,kM,kN⟩,⟨kO,kP⟩,kQ,kR,kS,kT,kU,kV,kW,kX⟩:ae)))]:=by
 refine aW 141 func105 call105 [.tmp 2] ?_;intro _
 try simp only[go_sem]
 repeat'((first|refine af.intro (by apply pW) ?_|refine av.intro (by first|apply pW|(apply U7<;>exact aT)|apply Ab|(apply adH<;>exact aT)|apply S'|apply Tu) ?_|apply bo|refine bX (λh=>?_) (λh=>?_))<;>simp only[go_sem])
 all_goals(apply fu;simp only[e1,Ci,F9,OE,OF,c2,d1]at *;grind)
def gL(s:ae):Bool:=dt s&&C7 s&&C8 s
def oh(s:ae):Bool:=e1 s&&C7 s&&C8 s
theorem PE(kn ko kq kr ks:Int)(jN:List Int)(iP iQ iR:List ab)(kt ku kx ky kz kA kB kC kD kE:Int)(gU:List aR)(kF kG kH kI kJ kK kL kM kN kO:Int)(kP kQ kR kS kT kU kV:Bool)(kW:Int)(kX:Bool)(hc:iP.length+iQ.length+iR.length<=524288)(hb:∀c∈gU,c.data.length<=1048576)(hx:gU.length<=1048576):aM 116 [.agg [.i kn,.i ko,.i kq,.i kr,.i ks,.sl 1 (jN.map bg),.azA iP,.azA iQ,.azA iR,.i kt,.i ku,.i kx,.i ky,.i kz,.i kA,.i kB,.i kC,.i kD,.i kE,.azB gU,.i kF,.i kG,.i kH,.i kI,.i kJ,.i kK,.i kL,.i kM,.i kN,.i kO,.bool kP,.bool kQ,.bool kR,.bool kS,.bool kT,.bool kU,.bool kV,.i kW,.bool kX]] [.one (.bool (gL (⟨kn,⟨ko,⟨kq,kr,ks,jN⟩,iP,iQ,iR,kt,ku,kx,ky⟩,⟨kz,kA,kB,kC⟩,⟨kD,⟨kE,gU⟩,kF,kG,kH⟩,⟨kI,kJ,kK,kL,kM,kN⟩,⟨kO,kP⟩,kQ,kR,kS,kT,kU,kV,kW,kX⟩:ae)))]:=by
 refine aW 13 func116 call116 [.tmp 2] ?_;intro _
 try simp only[go_sem]
 repeat'((first|refine af.intro (by(apply aeM<;>exact aT)) ?_|refine av.intro (by first|apply aq4|(apply aq6<;>exact aT)) ?_|apply bo)<;>simp only[go_sem])
 all_goals(apply fu;simp[gL])
theorem VH(kn ko kq kr ks:Int)(jN:List Int)(iP iQ iR:List ab)(kt ku kx ky kz kA kB kC kD kE:Int)(gU:List aR)(kF kG kH kI kJ kK kL kM kN kO:Int)(kP kQ kR kS kT kU kV:Bool)(kW:Int)(kX:Bool)(hc:iP.length+iQ.length+iR.length<=524288)(hb:∀c∈gU,c.data.length<=1048576)(hx:gU.length<=1048576):aM 88 [.agg [.i kn,.i ko,.i kq,.i kr,.i ks,.sl 1 (jN.map bg),.azA iP,.azA iQ,.azA iR,.i kt,.i ku,.i kx,.i ky,.i kz,.i kA,.i kB,.i kC,.i kD,.i kE,.azB gU,.i kF,.i kG,.i kH,.i kI,.i kJ,.i kK,.i kL,.i kM,.i kN,.i kO,.bool kP,.bool kQ,.bool kR,.bool kS,.bool kT,.bool kU,.bool kV,.i kW,.bool kX]] [.one (.bool (oh (⟨kn,⟨ko,⟨kq,kr,ks,jN⟩,iP,iQ,iR,kt,ku,kx,ky⟩,⟨kz,kA,kB,kC⟩,⟨kD,⟨kE,gU⟩,kF,kG,kH⟩,⟨kI,kJ,kK,kL,kM,kN⟩,⟨kO,kP⟩,kQ,kR,kS,kT,kU,kV,kW,kX⟩:ae)))]:=by
 refine aW 13 func88 call88 [.tmp 2] ?_;intro _
 try simp only[go_sem]
 repeat'((first|refine af.intro (by(apply aeN<;>exact aT)) ?_|refine av.intro (by first|apply aq5|(apply aq7<;>exact aT)) ?_|apply bo)<;>simp only[go_sem])
 all_goals(apply fu;simp[oh])
def n0:ae:=⟨0,⟨0,⟨0,0,0,[]⟩,[],[],[],0,0,0,0⟩,⟨0,0,0,0⟩,⟨0,⟨0,[]⟩,0,0,0⟩,⟨0,0,0,0,0,0⟩,⟨0,false⟩,false,false,false,false,false,false,0,false⟩
def pK(i:Int)(o p:e5):Bool:=bN i&&iz o&&iz p
def hN(v:Bool)(i:Int)(o p:e5):ae:=
 if pK i o p then⟨i,sB o.aB,C3 p.bL,B3,Ke o.bL o.nh,Ad,ft v i,fS v i,false,false,false,false,0,false⟩else n0
theorem aq8(i:Int)(o p:e5):(bif bif !bN i then true else !iz o then true else !iz p)=!pK i o p:=by
 unfold pK;cases bN i<;>cases iz o<;>cases iz p<;>rfl
theorem Ln(v:Bool)(i Dq Dr Ds E9 E_ E' Fa Fb Fc Dt Fe Ff Fg Fh Fi Fj:Int):aM 275 [.one (.bool v),.one (.i i),.agg [.i Dq,.i Dr,.i Ds,.i E9,.i E_,.i E',.i Fa,.i Fb],.agg [.i Fc,.i Dt,.i Fe,.i Ff,.i Fg,.i Fh,.i Fi,.i Fj]] [.agg (ae.enc (hN v i (⟨Dq,Dr,Ds,E9,E_,E',Fa,Fb⟩:e5) (⟨Fc,Dt,Fe,Ff,Fg,Fh,Fi,Fj⟩:e5))),.one (.bool (pK i (⟨Dq,Dr,Ds,E9,E_,E',Fa,Fb⟩:e5) (⟨Fc,Dt,Fe,Ff,Fg,Fh,Fi,Fj⟩:e5)))]:=by
 refine aW 68 func275 call275 [.cell 8 74,.tmp 9] ?_;intro _;have ah:=aq8 i (⟨Dq,Dr,Ds,E9,E_,E',Fa,Fb⟩:e5) (⟨Fc,Dt,Fe,Ff,Fg,Fh,Fi,Fj⟩:e5);have a5:hN v i (⟨Dq,Dr,Ds,E9,E_,E',Fa,Fb⟩:e5) (⟨Fc,Dt,Fe,Ff,Fg,Fh,Fi,Fj⟩:e5)=if pK i (⟨Dq,Dr,Ds,E9,E_,E',Fa,Fb⟩:e5) (⟨Fc,Dt,Fe,Ff,Fg,Fh,Fi,Fj⟩:e5)then⟨i,sB Dq,C3 Dt,B3,Ke Dr Ds,Ad,ft v i,fS v i,false,false,false,false,0,false⟩else n0:=rfl
 try simp only[go_sem]
 repeat'((first|refine af.intro (by apply ld) ?_|refine av.intro (by apply H') ?_|apply bo)<;>simp only[go_sem])
 rw[ah];cases bB:pK i (⟨Dq,Dr,Ds,E9,E_,E',Fa,Fb⟩:e5) (⟨Fc,Dt,Fe,Ff,Fg,Fh,Fi,Fj⟩:e5)
 ·rw[bB]at a5;simp only[go_sem,b7];rw[a5];simp[n0]
 rw[bB]at a5;simp only[go_sem,bz]
 try simp only[go_sem]
 repeat'(first|(refine af.intro (by first|apply abt|apply apI|apply SJ|apply No|apply aqC|apply abo|apply abp) ?_<;>simp only[go_sem])|refine⟨ae7,?_⟩|fail)
 all_goals(rw[a5];simp[fb])
theorem zi{α:Type}(p:α->Bool)(xs:List α)(i:Nat)(h:i<xs.length)(h1:(xs.take i).any p=false)(h2:p xs[i]=false):(xs.take (i+1)).any p=false:=by
 rw[gO,cy h,aAt,h1];simp[h2]
def g2{α:Type}(p:α->Bool)(xs:List α):Int:=match xs.findIdx? p with|some i=>(i:Int)|none=>-1
theorem aih{α:Type}(xs:List α)(i:Nat)(h:i<xs.length):xs=xs.take i++xs[i]::xs.drop (i+1):=by rw[List.getElem_cons_drop,List.take_append_drop]
theorem Fk{α:Type}(p:α->Bool)(xs:List α)(i:Nat)(h:i<xs.length)(h1:(xs.take i).any p=false)(h2:p xs[i]):xs.find? p=some xs[i]:=by
 conv=>lhs;rw[aih xs i h]
 have:(xs.take i).find? p=none:=by rw[asF];intro x hx;have:=asP.1 h1 x hx;simpa using this
 rw[List.find?_append,this,List.find?_cons_of_pos h2];rfl
theorem HB{α:Type}(p:α->Bool)(xs:List α)(h:xs.any p=false):xs.find? p=none:=by
 rw[asF];intro x hx;have:=asP.1 h x hx;simpa using this
theorem II{α:Type}(p:α->Bool)(xs:List α)(i:Nat)(h:i<xs.length)(h1:(xs.take i).any p=false)(h2:p xs[i]):g2 p xs=(i:Int):=by
 have:xs.findIdx? p=some i:=by
  rw[asM];refine⟨h,h2,λj aI ns=>?_⟩;have:=asP.1 h1 xs[j] (atn.2 ⟨j,by omega,rfl⟩);exact this ns
 rw[g2,this]
theorem Mf{α:Type}(p:α->Bool)(xs:List α)(h:xs.any p=false):g2 p xs=-1:=by
 have:xs.findIdx? p=none:=by rw[ato];intro x hx;have:=asP.1 h x hx;simpa using this
 rw[g2,this]
theorem m'{α:Type}(p:α->Bool)(xs:List α):(g2 p xs=-1/\xs.find? p=none)\/∃(i:Nat) (h:i<xs.length),g2 p xs=(i:Int)/\xs.find? p=some xs[i]/\p xs[i]:=by
 unfold g2
 cases hf:xs.findIdx? p with
 |none=>left;refine⟨rfl,?_⟩;rw[ato]at hf;rw[asF];simpa using hf
 |some i=>
  right;rw[asM]at hf;obtain⟨h,h1,h2⟩:=hf;refine⟨i,h,rfl,Fk p xs i h ?_ h1,h1⟩;rw[asP];intro x hx;obtain⟨j,aI,rfl⟩:=atn.1 hx;exact h2 j ω
def l6(p:Nat->Bool)(n:Nat):Bool:=(pv n).all p
theorem Ft(p:Nat->Bool)(n:Nat):l6 p (n+1)=(l6 p n&&p n):=by simp[l6,atq]
theorem HM(p:Nat->Bool){i n:Nat}(h:i<n)(hb:p i=false):l6 p n=false:=by
 simp only[l6,atF,asl];exact⟨i,h,by simp[hb]⟩
theorem aii{p q:Nat->Bool}{n:Nat}(h:∀i,i<n->p i=q i):l6 p n=l6 q n:=by
 rw[asa];simp only[l6,ae_,asl];exact⟨λg i hi=>(h i hi)▸g i hi,λg i hi=>(h i hi).symm▸g i hi⟩
def B4{α:Type}(key:α->Int)(ok:α->Bool)(l:List α)(i:Nat):Bool:=
 match l[i]? with
 |none=>false
 |some c=>ok c&&(match i with|0=>true|j+1=>(match l[j]? with|none=>false|some d=>decide (key d<key c)))
def xl{α:Type}(key:α->Int)(ok:α->Bool)(l:List α):Bool:=l6 (B4 key ok l) l.length
theorem AG{α:Type}(key:α->Int)(ok:α->Bool)(l:List α)(h:0<l.length):B4 key ok l 0=ok l[0]:=by
 simp[B4,cy h]
theorem zl{α:Type}(key:α->Int)(ok:α->Bool)(l:List α)(j:Nat)(h:j+1<l.length):B4 key ok l (j+1)=(ok l[j+1]&&decide (key l[j]<key l[j+1])):=by
 simp[B4,cy h,cy (show j<l.length by omega)]
theorem af8{α:Type}{key:α->Int}{ok ym:α->Bool}{l:List α}(h:∀c∈l,ok c=ym c):xl key ok l=xl key ym l:=by
 refine aii λi hi=>?_
 cases i with
 |zero=>rw[AG _ _ _ hi,AG _ _ _ hi,h _ (eK hi)]
 |succ j=>rw[zl _ _ _ _ hi,zl _ _ _ _ hi,h _ (eK hi)]
def zN(k:Int):List UInt8:=
 if k=4 then [114,101,115,101,116]
 else if k=5 then [115,116,111,112]
 else if k=8 then [115,116,114,101,97,109]
 else if k=16 then [109,97,120,100,97,116,97]
 else if k=17 then [109,97,120,115,116,114,101,97,109,100,97,116,97]
 else if k=18 then [109,97,120,115,116,114,101,97,109,115]
 else if k=20 then [100,97,116,97,98,108,111,99,107,101,100]
 else if k=21 then [115,116,114,101,97,109,100,97,116,97,98,108,111,99,107,101,100]
 else if k=22 then [115,116,114,101,97,109,115,98,108,111,99,107,101,100]
 else []
def kindOk(k:Int):Bool:=decide (k=4)||decide (k=5)||decide (k=8)||decide (k=16)||decide (k=17)||decide (k=18)||decide (k=20)||decide (k=21)||decide (k=22)
theorem Yc(k:Int):(zN k == [])=!kindOk k:=by
 unfold zN kindOk
 repeat' split
 all_goals simp_all
theorem aio(k:Int):aM 185 [.one (.i k)] [.one (.str (zN k))]:=by
 refine aW 22 func185 call185 [.tmp 2] ?_;intro _
 try simp only[go_sem]
 repeat'(refine bX (λh=>?_) (λh=>?_)<;>simp only[go_sem])
 all_goals(simp only[bH,eC]at *;first|(exfalso;omega)|simp[zN, *])
theorem aip(k:Int):aM 171 [.one (.i k)] [.one (.str (zN k))]:=by
 refine aW 22 func171 call171 [.tmp 2] ?_;intro _
 try simp only[go_sem]
 repeat'(refine bX (λh=>?_) (λh=>?_)<;>simp only[go_sem])
 all_goals(simp only[bH,eC]at *;first|(exfalso;omega)|simp[zN, *])
def iv(k:Int):Bool:=decide (k=4)||decide (k=5)||decide (k=8)||decide (k=17)||decide (k=21)
theorem IM(e6 eV fp:Int)(e2:List UInt8)(fW:Bool)(fN fK f0:Int)(gb:Bool):aM 94 [.agg [.i e6,.i eV,.i fp,.str e2,.bool fW,.i fN,.i fK,.i f0,.bool gb]] [.one (.bool (iv e6))]:=by
 refine aW 11 func94 call94 [.tmp 2] ?_;intro _
 try simp only[go_sem]
 repeat'(refine bX (λh=>?_) (λh=>?_)<;>simp only[go_sem])
 all_goals(simp only[bH,eC]at *;first|(exfalso;omega)|simp[iv, *])
theorem Fm(e6 eV fp:Int)(e2:List UInt8)(fW:Bool)(fN fK f0:Int)(gb:Bool):aM 29 [.agg [.i e6,.i eV,.i fp,.str e2,.bool fW,.i fN,.i fK,.i f0,.bool gb]] [.one (.bool (iv e6))]:=by
 refine aW 11 func29 call29 [.tmp 2] ?_;intro _
 try simp only[go_sem]
 repeat'(refine bX (λh=>?_) (λh=>?_)<;>simp only[go_sem])
 all_goals(simp only[bH,eC]at *;first|(exfalso;omega)|simp[iv, *])
def jj(f:al):al:=
 ⟨f.aY,if iv f.aY then f.ax else 0,if f.aY=8 then f.aP else 0,if f.aY=8 then f.data else [],if f.aY=8 then f.aS else false,if f.aY=4\/f.aY=5 then f.cS else 0,
  if f.aY=4\/f.aY=5\/f.aY=8 then 0 else f.aX,if f.aY=4 then f.bf else 0,if f.aY=18\/f.aY=22 then f.fG else false⟩
theorem Xu(e6 eV fp:Int)(e2:List UInt8)(fW:Bool)(fN fK f0:Int)(gb:Bool):aM 186 [.agg [.i e6,.i eV,.i fp,.str e2,.bool fW,.i fN,.i fK,.i f0,.bool gb]] [.agg (al.enc (jj (⟨e6,eV,fp,e2,fW,fN,fK,f0,gb⟩:al)))]:=by
 refine aW 51 func186 call186 [.cell 2 56] ?_;intro _
 try simp only[go_sem]
 repeat'((first|refine af.intro (by apply IM) ?_|refine bX (λh=>?_) (λh=>?_))<;>simp only[go_sem])
 all_goals(simp only[bH,eC]at *;first|(exfalso;omega)|(exfalso;simp_all [iv];done)|(simp[jj, *];done)|(simp[jj,iv]at *;simp[ *];done)|(simp_all [jj,iv];done))
def zM(f:al):Bool:=kindOk f.aY&&decide (jj f=f)&&bN f.ax&&bN f.aP&&bN f.cS&&bN f.aX&&bN f.bf&&!decide (400<(f.data.length:Int))
def eu(f:al):Bool:=zM f&&(if f.aY=8 then decide (f.aP<=i64.wrap (4611686018427387903-(f.data.length:Int)))else if f.aY=18\/f.aY=22 then decide (f.aX<=1152921504606846976)else true)
def Yd:List (List bK):=cB 46 [8862938119652501095928,8862938119652501095926,8862938119652501095920,8862938119652501095902,8862938119652501095848,8862938119652501093499,8862938119652501093013,8862938119652501094714,8862938119652501089368,8862938119652501076246,8862938119652501036880,8862938119652500918782,8862938119652500564488,8862938119652499501606,8862938119652496312960,8862938119652486747022,8862938119652458049208,8862938119652371955766,8862938119652113675440,8862938119651338834462,8862938119649014311528,8862938119642040742726,8862938119621120036320,8862938119558357917102,8862938119370071559448,8862938118805212486486,8862938117110635267600,8862938112026903610942,8862938096775708640968,8862938051022123731046,8862937913761369001280,8862937501979104811982,8862936266632312244088,8862932560591934540406,8862921442470801429360,8862888088107402096222,8862788025017204096808,8862487835746610098566,8861587267934828103840,8858885564499482119662,8850780454193444167128,8826465123275330309526,8753519130520988736720,8534681152257964018302,7878167217468889863048,5908625413101667397286]
attribute [go_sem] Yd
theorem Ye(a b:al):(decide (a.aY=b.aY)&&(decide (a.ax=b.ax)&&(decide (a.aP=b.aP)&&(decide (a.data=b.data)&&(decide (a.aS=b.aS)&&(decide (a.cS=b.cS)&&(decide (a.aX=b.aX)&&(decide (a.bf=b.bf)&&decide (a.fG=b.fG)))))))))=decide (a=b):=by
 cases a;cases b
 rw[asa];simp only[bm,bH,al.mk.injEq]
theorem aiq(f:al):(bif bif bif bif bif bif bif !kindOk f.aY then true else !decide (jj f=f)then true else !bN f.ax then true else !bN f.aP then true else !bN f.cS then true else !bN f.aX then true else !bN f.bf then true else decide (400<(f.data.length:Int)))=!zM f:=by
 unfold zM;cases kindOk f.aY<;>cases decide (jj f=f)<;>cases bN f.ax<;>cases bN f.aP<;>cases bN f.cS<;>cases bN f.aX<;>cases bN f.bf<;>cases decide (400<(f.data.length:Int))<;>rfl
theorem DX(e6 eV fp:Int)(e2:List UInt8)(fW:Bool)(fN fK f0:Int)(gb:Bool):aM 128 [.agg [.i e6,.i eV,.i fp,.str e2,.bool fW,.i fN,.i fK,.i f0,.bool gb]] [.one (.bool (eu (⟨e6,eV,fp,e2,fW,fN,fK,f0,gb⟩:al)))]:=by
 refine aW 66 func128 call128 [.tmp 2] ?_;intro _;have hk:decide (zN e6=[])=!kindOk e6:=by have:=Yc e6;rw[<-this];cases zN e6<;>rfl
 have hf:=Ye (jj (⟨e6,eV,fp,e2,fW,fN,fK,f0,gb⟩:al)) (⟨e6,eV,fp,e2,fW,fN,fK,f0,gb⟩:al);simp only at hf;have ah:=aiq (⟨e6,eV,fp,e2,fW,fN,fK,f0,gb⟩:al)
 try simp only[go_sem]
 repeat'((first|refine av.intro (by first|apply aio|apply Xu|apply ld) ?_|apply fY|refine a7 Yd χ ψ ?_)<;>simp only[go_sem,hk,hf])
 rw[ah];cases ep:zM (⟨e6,eV,fp,e2,fW,fN,fK,f0,gb⟩:al)
 ·simp only[go_sem,b7];simp[eu,ep]
 simp only[go_sem,bz]
 try simp only[go_sem]
 repeat'(refine bX (λh=>?_) (λh=>?_)<;>simp only[go_sem])
 all_goals(rw[show eu (⟨e6,eV,fp,e2,fW,fN,fK,f0,gb⟩:al)=(if e6=8 then decide (fp<=i64.wrap (4611686018427387903-(e2.length:Int)))else if e6=18\/e6=22 then decide (fK<=1152921504606846976)else true)from by unfold eu;rw[ep];rfl];clear ep ah hf hk;simp only[bH,eC]at *;first|(exfalso;omega)|simp[*])
def eB(id:Int)(s:ae):Bool:=decide (s.id=id)
def bQ(l:List ae)(id:Int):ae×Bool:=match l.find? (eB id)with|some s=>(s,true)|none=>(n0,false)
def lA(s:ae)(q:List ae×Bool)(x:ae):List ae×Bool:=
 if !q.2&&decide (s.id<x.id)then(q.1++[s,x],true)else(q.1++[x],q.2)
def ou(s:ae)(l:List ae):List ae×Bool:=l.foldl (lA s) ([],false)
def dv(l:List ae)(s:ae):List ae:=
 match l.findIdx? (eB s.id)with
 |some i=>l.set i s
 |none=>if(ou s l).2 then(ou s l).1 else(ou s l).1++[s]
def lh(ok:ae->Bool)(l:List ae):Bool:=xl (λs=>s.id) ok l&&decide ((l.length:Int)<=24)
def lB(f:ae->Int)(n:Int)(s:ae):Int:=if 4611686018427387904<i64.wrap (n+f s)then 4611686018427387904 else i64.wrap (n+f s)
def lx(ok:ae->Bool)(f:ae->Int)(l:List ae):Int:=if lh ok l then l.foldl (lB f) 0 else 0
def i9(s:ae):Int:=s.ag.b0
def kj(s:ae):Int:=s.aU.fR
def yb(n:Int)(p:aL):Bool:=cd p.bU 0 (i64.wrap (n-1))&&p.bV.all eu
def rl(n:Int)(l:List aL):Bool:=xl (λp=>p.bU) (yb n) l
def xm(ok:ae->Bool)(c:J):Bool:=iz c.own&&iz c.cP&&lh ok c.aa&&jM c.cn&&l9 c.c7&&km c.eY&&km c.eZ&&i_ c.dB&&i_ c.dC
def DW(ok:ae->Bool)(c:J):Bool:=cd c.dw (-1) 4611686018427387903&&cd c.bU 0 1000000&&cd c.dA 0 1000000&&cd c.cX 0 255&&decide (lx ok i9 c.aa<=c.cn.dV)&&decide (lx ok kj c.aa<=c.c7.seen)
def oi(ok:ae->Bool)(c:J):Bool:=xm ok c&&rl c.bU c.ai&&DW ok c
def ew(c:J):Bool:=oi dt c
def ki(c:J):Bool:=oi e1 c
theorem WC{ok ym:ae->Bool}{l:List ae}(h:∀s∈l,ok s=ym s):lh ok l=lh ym l:=by unfold lh;rw[af8 h]
theorem Lx{ok ym:ae->Bool}{f:ae->Int}{l:List ae}(h:∀s∈l,ok s=ym s):lx ok f l=lx ym f l:=by unfold lx;rw[WC h]
theorem H_{ok ym:ae->Bool}{c:J}(h:∀s∈c.aa,ok s=ym s):oi ok c=oi ym c:=by unfold oi xm DW;rw[WC h,Lx h,Lx h]
theorem AQ{c:J}(h:∀s∈c.aa,ov s.ag):ew c=ki c:=H_ λs hs=>Fp (h s hs)
theorem Qb(s:ae):∀(l:List ae) (q:List ae×Bool),(∀x∈(l.foldl (lA s) q).1,x∈q.1\/x∈l\/x=s)/\(l.foldl (lA s) q).1.length+q.2.toNat=q.1.length+l.length+(l.foldl (lA s) q).2.toNat
 |[],q=>⟨λx hx=>auj hx,by simp⟩
 |y::l,q=>by
  obtain⟨h1,h2⟩:=Qb s l (lA s q y);rw[An];refine⟨λx hx=>?_,?_⟩
  ·rcases h1 x hx with h|h|h
   ·unfold lA at h;split at h
    ·simp only[e7,rD,asL,or_false]at h;rcases h with h|h|h
     ·exact auj h
     ·exact atB (atB h)
     exact atB (auj (by simp[h]))
    simp only[e7,rD,asL,or_false]at h;rcases h with h|h
    ·exact auj h
    exact atB (auj (by simp[h]))
   ·exact atB (auj (atb _ h))
   exact atB (atB h)
  have e:(lA s q y).1.length+q.2.toNat=q.1.length+1+(lA s q y).2.toNat:=by
   unfold lA;cases hq:q.2<;>by_cases hlt:s.id<y.id<;>simp[hlt]
  rw[e0];omega
theorem WD(s:ae)(l:List ae):(ou s l).1.length=l.length+(ou s l).2.toNat:=by
 have:=(Qb s l ([],false)).2;simpa [ou]using this
theorem zw{l:List ae}{s x:ae}(h:x∈dv l s):x∈l\/x=s:=by
 unfold dv at h;split at h
 ·rcases List.mem_or_eq_of_mem_set h with h|h
  ·exact auj h
  exact atB h
 have:=(Qb s l ([],false)).1 x;simp only[asL,false_or]at this;split at h
 ·exact this h
 rcases e7.1 h with h|h
 ·exact this h
 exact atB (by simpa using h)
theorem Lv(l:List ae)(s:ae):(dv l s).length<=l.length+1:=by
 unfold dv;split
 ·rw[atU];omega
 have:=WD s l;split
 ·rename_i h;rw[this,h];simp
 rename_i h;rw[eh,this];simp only[Bool.not_eq_true]at h;rw[h];simp
def Vy:List (List bK):=cB 24 [282429536477,282429536479,282429536472,282429536454,282429536400,282429536238,282429535752,282429534294,282429529920,282429516798,277206298137,277206416235,277206002892,277204940010,277201751364,282250145619,282407983596,282321890154,282049260921,281274419943,278949897009,271969183278,251048476872,188286357654]
def Pb:List (List bK):=cB 22 [31381059608,31381059606,31381059600,31381059582,31381059528,31381059366,31381058880,31381057422,31381053048,31381039926,31381000560,30862196046,30864144663,30863081781,30859715988,30850150050,30821452236,31316400954,31058120628,30218798142,27894275208,20920706406]
attribute [go_sem] Vy Pb
def gx(s:ae):Prop:=s.ag.bC.length+s.ag.bc.length+s.ag.bJ.length<=1000/\s.ag.aB.cells.length<=100/\(∀c∈s.aU.bT.cq,c.data.length<=1000)/\s.aU.bT.cq.length<=100
theorem P_(l:List ae)(id:Int):aM 155 [.one (.azD l),.one (.i id)] [.one (.i (g2 (eB id) l))]:=by
 refine aW 20 func155 call155 [.tmp 4] ?_;intro ok;have hm:=gw ok;clear ok;simp only[go_sem];refine cb.intro (λi:Nat=>⟨(.d (.azD l)::.i id::aA 3 (.i i::aA 14 [])),[]⟩)
  (λi=>l.length-i) (λi=>i<=l.length/\(l.take i).any (eB id)=false) 0 [] ⟨by omega,by simp⟩ ?_ ?_
 ·simp only[go_sem];simp
 rintro i ⟨hi,he⟩;by_cases h1:i<l.length
 ·have aq:=aro (i:=i) (n:=l.length);have az:=b_ ae.enc l i h1;have hw:=d8 h1 hm
  try simp only[go_sem,I,aF,az,ae.enc,aq]
  repeat'(first|(refine bX (λh=>?_) (λh=>?_)<;>simp only[go_sem])|refine⟨ae7,?_⟩|fail)
  ·have:=II (eB id) l i h1 he h;simp[this]
  refine bt.intro (i+1) [] ⟨by omega,zi _ l i h1 he h⟩ ω ?_;simp only[go_sem,hw];try simp
 obtain⟨aq,rfl⟩:=arn (i:=i) (n:=l.length);rw[da]at he;simp only[go_sem,I,aq];simp[Mf _ _ he]
def pQ(ok:ae->Bool)(l:List ae)(i:Nat):Bool:=B4 (λs=>s.id) ok l i
theorem aeT(ok:ae->Bool)(l:List ae)(h:0<l.length):pQ ok l 0=ok l[0]:=AG _ _ _ h
theorem aeU(ok:ae->Bool)(l:List ae)(j:Nat)(h:j+1<l.length):pQ ok l (j+1)=(ok l[j+1]&&decide (l[j].id<l[j+1].id)):=zl _ _ _ _ h
theorem aeV{ok:ae->Bool}{l:List ae}(h:l6 (pQ ok l) l.length):lh ok l=decide ((l.length:Int)<=24):=by
 have:xl (λs:ae=>s.id) ok l:=h;unfold lh;rw[this];rfl
theorem aeW{ok:ae->Bool}{l:List ae}{i:Nat}(hi:i<l.length)(h:pQ ok l i=false):lh ok l=false:=by
 have:xl (λs:ae=>s.id) ok l=false:=HM (pQ ok l) hi h;unfold lh;rw[this];rfl
theorem Ia(l:List ae)(hz:∀s∈l,gx s):aM 64 [.one (.azD l)] [.one (.bool (lh dt l))]:=by
 refine aW 37 func64 call64 [.tmp 2] ?_;intro ok;have hm:=gw ok;clear ok;simp only[go_sem];refine cb.intro (λi:Nat=>⟨(.d (.azD l)::.an::.an::.i i::aA 33 []),[]⟩)
  (λi=>l.length-i) (λi=>i<=l.length/\l6 (pQ dt l) i=true) 0 [] ⟨by omega,by simp[l6]⟩ ?_ ?_
 ·simp only[go_sem];simp
 rintro i ⟨hi,he⟩;by_cases h1:i<l.length
 ·have aq:=aro (i:=i) (n:=l.length);have az:=b_ ae.enc l i h1;have hw:=d8 h1 hm;have hs:=Ft (pQ dt l) i;have hf:=λh=>aeW (ok:=dt) (l:=l) h1 h;obtain⟨hc,_,hb,hx⟩:=hz _ (eK h1)
  replace hb:∀c∈l[i].aU.bT.cq,c.data.length<=1048576:=λc h=>by have:=hb c h;omega
  have bG:=aeM l[i].id l[i].ag.bp l[i].ag.aB.size l[i].ag.aB.base l[i].ag.aB.bS l[i].ag.aB.cells l[i].ag.bC l[i].ag.bc l[i].ag.bJ l[i].ag.bf l[i].ag.aS l[i].ag.b0 l[i].ag.cS l[i].cL.aX l[i].cL.dV l[i].cL.blocked l[i].cL.gA l[i].aU.bp l[i].aU.bT.next l[i].aU.bT.cq l[i].aU.bf l[i].aU.fR l[i].aU.cS l[i].bL.size l[i].bL.cm l[i].bL.aX l[i].bL.seen l[i].bL.fa l[i].bL.k9 l[i].cI.ei l[i].cI.ic l[i].ft l[i].fS l[i].i4 l[i].gK l[i].k_ l[i].i5 l[i].oe l[i].gu ω hb ω;change PureCall _ _ _ [.one (.bool (dt l[i]))]at bG
  cases i with
  |zero=>
   have hb:=aeT dt l h1;have h2:decide ((0:Int)<((0:Nat):Int))=false:=by decide
   try simp only[go_sem,I,aq]
   repeat'(first|((first|refine af.i ?_|refine av.i ?_|with_reducible apply lv|apply fY|refine a7 Vy χ ψ ?_|refine bX (λh=>?_) (λh=>?_))<;>simp only[go_sem,I,aF,az,ae.enc,h2])|refine⟨ae7,?_⟩|fail)
   ·have e:pQ dt l 0=false:=by rw[hb];revert h;cases dt l[0]<;>simp
    simp[hf e]
   have e:pQ dt l 0:=by rw[hb];revert h;cases dt l[0]<;>simp
   refine bt.intro 1 [] ⟨by omega,by rw[hs,he,e];rfl⟩ ω ?_;simp only[go_sem,hw];try simp
  |succ j=>
   have hb:=aeU dt l j h1;have ie:=b_ ae.enc l j ω;have h2:=br (p:=(0:Int)<((j+1:Nat):Int)) ω;have hp:i64.wrap (((j+1:Nat):Int)-1)=(j:Int):=by simp only[maxLen]at hm;rw[bw]<;>omega
   try simp only[go_sem,I,aq]
   repeat'(first|((first|refine af.i ?_|refine av.i ?_|apply fY|refine a7 Vy χ ψ ?_|refine bX (λh=>?_) (λh=>?_))<;>simp only[go_sem,I,aF,az,ie,ae.enc,h2,hp])|refine⟨ae7,?_⟩|fail)
   ·have e:pQ dt l (j+1)=false:=by rw[hb];revert h;cases dt l[j+1]<;>simp
    simp[hf e]
   have e:pQ dt l (j+1):=by rw[hb];revert h;cases dt l[j+1]<;>simp
   refine bt.intro (j+1+1) [] ⟨by omega,by rw[hs,he,e];rfl⟩ ω ?_;simp only[go_sem,hw];try simp
 obtain⟨aq,rfl⟩:=arn (i:=i) (n:=l.length);simp only[go_sem,I,aq];simp[aeV he]
theorem J8(l:List ae)(hz:∀s∈l,gx s):aM 46 [.one (.azD l)] [.one (.bool (lh e1 l))]:=by
 refine aW 35 func46 call46 [.tmp 2] ?_;intro ok;have hm:=gw ok;clear ok;simp only[go_sem,I];refine cb.intro (λi:Nat=>⟨(.d (.azD l)::aA 4 (.d (.azD l)::.i l.length::.i i::aA 27 [])),[]⟩)
  (λi=>l.length-i) (λi=>i<=l.length/\i<=24/\l6 (pQ e1 l) i=true) 0 [] ⟨by omega,by omega,by simp[l6]⟩ ?_ ?_
 ·simp only[go_sem];simp
 rintro i ⟨hi,azf,he⟩;by_cases h1:i<l.length
 ·have aq:=aro (i:=i) (n:=l.length);have az:=b_ ae.enc l i h1;have hw:=d8 h1 hm;by_cases azg:i=24
  ·have ao:=br (p:=(24:Int)<=(i:Int)) ω;have hr:lh e1 l=false:=by unfold lh;rw[show decide ((l.length:Int)<=24)=false from bn ω];simp
   cases i with
   |zero=>omega
   |succ j=>
    have h2:=br (p:=(0:Int)<((j+1:Nat):Int)) ω
    try simp only[go_sem,I,aF,az,ae.enc,aq]
    repeat'(first|((first|with_reducible apply lv|refine a7 Pb χ ψ ?_)<;>simp only[go_sem,ao])|refine⟨ae7,?_⟩|fail)
    all_goals simp[hr]
  have ao:=bn (p:=(24:Int)<=(i:Int)) ω;have hs:=Ft (pQ e1 l) i;have hf:=λh=>aeW (ok:=e1) (l:=l) h1 h;obtain⟨hc,_,hb,hx⟩:=hz _ (eK h1)
  replace hb:∀c∈l[i].aU.bT.cq,c.data.length<=1048576:=λc h=>by have:=hb c h;omega
  have bG:=aeN l[i].id l[i].ag.bp l[i].ag.aB.size l[i].ag.aB.base l[i].ag.aB.bS l[i].ag.aB.cells l[i].ag.bC l[i].ag.bc l[i].ag.bJ l[i].ag.bf l[i].ag.aS l[i].ag.b0 l[i].ag.cS l[i].cL.aX l[i].cL.dV l[i].cL.blocked l[i].cL.gA l[i].aU.bp l[i].aU.bT.next l[i].aU.bT.cq l[i].aU.bf l[i].aU.fR l[i].aU.cS l[i].bL.size l[i].bL.cm l[i].bL.aX l[i].bL.seen l[i].bL.fa l[i].bL.k9 l[i].cI.ei l[i].cI.ic l[i].ft l[i].fS l[i].i4 l[i].gK l[i].k_ l[i].i5 l[i].oe l[i].gu ω hb ω;change PureCall _ _ _ [.one (.bool (e1 l[i]))]at bG
  cases i with
  |zero=>
   have hb:=aeT e1 l h1;have h2:decide ((0:Int)<((0:Nat):Int))=false:=by decide
   try simp only[go_sem,I,aF,az,ae.enc,aq]
   repeat'(first|((first|refine af.i ?_|refine av.i ?_|with_reducible apply mr|with_reducible apply lv|apply fY|refine a7 Pb χ ψ ?_|refine bX (λh=>?_) (λh=>?_))<;>simp only[go_sem,h2,ao])|refine⟨ae7,?_⟩|fail)
   ·have e:pQ e1 l 0=false:=by rw[hb];revert h;cases e1 l[0]<;>simp
    simp[hf e]
   have e:pQ e1 l 0:=by rw[hb];revert h;cases e1 l[0]<;>simp
   refine bt.intro 1 [] ⟨by omega,by omega,by rw[hs,he,e];rfl⟩ ω ?_;simp only[go_sem,hw];try simp
  |succ j=>
   have hb:=aeU e1 l j h1;have ie:=b_ ae.enc l j ω;have h2:=br (p:=(0:Int)<((j+1:Nat):Int)) ω;have hp:i64.wrap (((j+1:Nat):Int)-1)=(j:Int):=by simp only[maxLen]at hm;rw[bw]<;>omega
   try simp only[go_sem,I,aF,az,ae.enc,aq]
   repeat'(first|((first|refine af.i ?_|refine av.i ?_|with_reducible apply mr|apply fY|refine a7 Pb χ ψ ?_|refine bX (λh=>?_) (λh=>?_))<;>simp only[go_sem,I,aF,ie,ae.enc,h2,hp,ao])|refine⟨ae7,?_⟩|fail)
   ·have e:pQ e1 l (j+1)=false:=by rw[hb];revert h;cases e1 l[j+1]<;>simp
    simp[hf e]
   have e:pQ e1 l (j+1):=by rw[hb];revert h;cases e1 l[j+1]<;>simp
   refine bt.intro (j+1+1) [] ⟨by omega,by omega,by rw[hs,he,e];rfl⟩ ω ?_;simp only[go_sem,hw];try simp
 obtain⟨aq,rfl⟩:=arn (i:=i) (n:=l.length);have hr:lh e1 l:=by rw[aeV he];exact br ω
 simp only[go_sem,aq];simp[hr]
def K3:List (List bK):=cB 12 [531440,531438,531432,505089,505143,504954,504468,503010,528147,515025,472392,354294]
attribute [go_sem] K3
theorem Pc{p:Prop}{gB gC:Decidable p}{α:Type}(a b:α):@ite α p gB a b=@ite α p gC a b:=by rw[Subsingleton.elim gB gC]
theorem Lo{l:List ae}{s:ae}{i:Nat}(h:g2 (eB s.id) l=(i:Int)):dv l s=l.set i s:=by
 unfold dv;unfold g2 at h;split at h
 ·rename_i j aI;first|(rw[aI];simp only;congr 1;omega)|(congr 1;omega)
 omega
theorem acN{l:List ae}{s:ae}(h:g2 (eB s.id) l=-1):dv l s=if(ou s l).2 then(ou s l).1 else(ou s l).1++[s]:=by
 unfold dv;unfold g2 at h;split at h
 ·omega
 rename_i aI;first|rw[aI]|rfl
theorem are(s:ae)(l:List ae)(i:Nat)(h:i<l.length):ou s (l.take (i+1))=lA s (ou s (l.take i)) l[i]:=by
 unfold ou;rw[gO,cy h,arD];rfl
theorem oj(l:List ae)(s:ae)(hl:l.length<=1000)(hz:∀x∈l,gx x)(hs:gx s):aM 100 [.one (.azD l),.agg (ae.enc s)] [.one (.azD ((dv l s)))]:=by
 refine aW 66 func100 call100 [.tmp 4] ?_;intro ok;have hm:=gw ok;clear ok;obtain⟨dW,cT,dS,eW⟩:=hs;simp only[go_sem];refine af.intro (P_ l s.id) ?_;simp only[go_sem];rcases m' (eB s.id) l with ⟨h1,h2⟩|⟨j,aI,h1,h2,ao⟩
 ·have ah:=acN h1;rw[h1];refine cb.intro (λi:Nat=>⟨(.d (.azD l)::.an::.an::.ptr 0 0 0::.an::.sl 1 0 (ou s (l.take i)).1.length::.i (-1)::.d (.bool (ou s (l.take i)).2)::.i i::aA 57 []),[.box (ae.bx s),.ay 39 ((ou s (l.take i)).1.map ae.enc) true]⟩)
   (λi=>l.length-i) (λi=>i<=l.length) 0 [0,1] ω ?_ ?_
  ·simp only[go_sem];simp[ou]
  intro i hi;have iL:=WD s (l.take i);have cR:(l.take i).length=i:=by simp;omega
  rw[cR]at iL;have hb:(ou s (l.take i)).2.toNat<=1:=Bool.toNat_le _;by_cases aH:i<l.length
  ·have mh:=aro (i:=i) (n:=l.length);have az:=b_ ae.enc l i aH;have hw:=d8 aH hm;obtain⟨qK,nI,AP,H9⟩:=hz _ (eK aH);have b4:=are s l i aH;have bR:=bn (p:=(i:Int)=-1) ω;generalize ou s (l.take i)=q at *;obtain⟨d2,Vz⟩:=q;simp only at iL hb;simp only[ae.enc]at az;cases Vz
   ·cases hd:decide (s.id<l[i].id)
    ·have K4:lA s (d2,false) l[i]=(d2++[l[i]],false):=by unfold lA;rw[hd];rfl
     try simp only[go_sem,I,aF,az,mh]
     repeat'(first|((first|refine af.intro (by(apply BY<;>exact aT)) ?_|with_reducible apply mr|refine a7 K3 χ ψ ?_)<;>simp only[go_sem,I,aF,az,hd])|refine⟨ae7,?_⟩|fail)
     all_goals(refine bt.intro (i+1) [0,9] ω ω ?_;simp only[go_sem,hw,b4,K4];simp[ae.enc])
    have K4:lA s (d2,false) l[i]=(d2++[s,l[i]],true):=by unfold lA;rw[hd];rfl
    try simp only[go_sem,I,aF,az,mh]
    repeat'(first|((first|refine af.intro (by(apply BY<;>exact aT)) ?_|with_reducible apply mr|refine a7 K3 χ ψ ?_)<;>simp only[go_sem,I,aF,az,hd])|refine⟨ae7,?_⟩|fail)
    all_goals(refine bt.intro (i+1) [0,17] ω ω ?_;simp only[go_sem,hw,b4,K4];simp[ae.enc])
   have K4:lA s (d2,true) l[i]=(d2++[l[i]],true):=rfl
   try simp only[go_sem,I,aF,az,mh]
   repeat'(first|((first|refine af.intro (by(apply BY<;>exact aT)) ?_|with_reducible apply lv|refine a7 K3 χ ψ ?_)<;>simp only[go_sem,I,asu])|refine⟨ae7,?_⟩|fail)
   all_goals(refine bt.intro (i+1) [0,9] ω ω ?_;simp only[go_sem,hw,b4,K4];simp[ae.enc])
  obtain⟨mh,rfl⟩:=arn (i:=i) (n:=l.length);rw[da]at *;generalize ou s l=q at *;obtain⟨d2,Vz⟩:=q;cases Vz
  ·try simp only[go_sem,I,mh]
   repeat'(first|(refine af.intro (by(apply BY<;>exact aT)) ?_<;>simp only[go_sem,I])|refine⟨ae7,?_⟩|fail)
   all_goals(simp only[Bool.toNat_false]at iL;refine⟨⟨by omega,rfl⟩,by simp,?_⟩;simp[ah,ae.enc,eA])
  try simp only[go_sem,I,mh]
  repeat'(first|refine⟨ae7,?_⟩|fail)
  all_goals simp[ah]
 have ah:=Lo h1;rw[h1];have eQ:=br (p:=(0:Int)<=(j:Int)) ω;simp only[go_sem,eQ];refine cb.intro (λi:Nat=>⟨(.d (.azD l)::.an::.an::.ptr 0 0 0::.an::.sl 1 0 i::.i (j:Int)::.d (.bool true)::.i i::aA 57 []),[.box (ae.bx s),.azx ((l.set j s).take i)]⟩)
  (λi=>l.length-i) (λi=>i<=l.length) 0 [0,1] ω ?_ ?_
 ·simp only[go_sem];simp
 intro i hi;have cR:((l.set j s).take i).length=i:=by simp;omega
 by_cases aH:i<l.length
 ·have mh:=aro (i:=i) (n:=l.length);have az:=b_ ae.enc l i aH;have hw:=d8 aH hm;obtain⟨qK,nI,AP,H9⟩:=hz _ (eK aH);have b4:(l.set j s).take (i+1)=(l.set j s).take i++[(l.set j s)[i]'(by simpa using aH)]:=by
   rw[gO,cy (by simpa using aH)];rfl
  simp only[ae.enc]at az;by_cases oX:i=j
  ·subst oX;have hq:(l.set i s)[i]'(by simpa using aH)=s:=by simp
   rw[hq]at b4;have bR:decide ((i:Int)=(i:Int)):=by simp
   try simp only[go_sem,I,aF,az,mh]
   repeat'(first|(refine af.intro (by(apply BY<;>exact aT)) ?_<;>simp only[go_sem,I])|refine⟨ae7,?_⟩|fail)
   all_goals(refine bt.intro (i+1) [0,14] ω ω ?_;simp only[go_sem,hw,b4];simp[ae.enc];omega)
  have hq:(l.set j s)[i]'(by simpa using aH)=l[i]:=by rw[List.getElem_set_ne ω]
  rw[hq]at b4;have bR:=bn (p:=(i:Int)=(j:Int)) ω
  try simp only[go_sem,I,aF,az,mh]
  repeat'(first|((first|refine af.intro (by(apply BY<;>exact aT)) ?_|with_reducible apply lv|refine a7 K3 χ ψ ?_)<;>simp only[go_sem,I,bR,asu])|refine⟨ae7,?_⟩|fail)
  all_goals(refine bt.intro (i+1) [0,9] ω ω ?_;simp only[go_sem,hw,b4];simp[ae.enc];omega)
 ·obtain⟨mh,rfl⟩:=arn (i:=i) (n:=l.length);have Ck:(l.set j s).take l.length=l.set j s:=eA ξ
  try simp only[go_sem,I,mh,Ck]
  have QC:∀v,List.take l.length ((l.map ae.enc).set j v)=(l.map ae.enc).set j v:=λv=>eA ξ
  all_goals simp[ah,outOA,QC]
theorem Pd(f:ae->Int)(l:List ae)(i:Nat)(h:i<l.length):(l.take (i+1)).foldl (lB f) 0=lB f ((l.take i).foldl (lB f) 0) l[i]:=by
 rw[gO,cy h,arD];rfl
theorem Pe{ok:ae->Bool}{f:ae->Int}{l:List ae}(h:lh ok l):lx ok f l=l.foldl (lB f) 0:=by unfold lx;rw[h];rfl
theorem Pf{ok:ae->Bool}{f:ae->Int}{l:List ae}(h:lh ok l=false):lx ok f l=0:=by unfold lx;rw[h];rfl
theorem V6(l:List ae)(hz:∀x∈l,gx x):aM 71 [.one (.azD l)] [.one (.i (lx dt i9 l))]:=by
 refine aW 25 func71 call71 [.tmp 2] ?_;intro ok;have hm:=gw ok;clear ok;simp only[go_sem];cases hA:lh dt l
 ·have ah:=Pf (f:=i9) hA;refine cb.intro (λi:Nat=>⟨(.d (.azD l)::.an::.an::.i 0::.i i::aA 20 []),[]⟩)
   (λi=>0) (λi=>i=0) 0 [] rfl ?_ ?_
  ·simp only[go_sem];simp
  rintro i rfl
  try simp only[go_sem,I]
  repeat'((first|refine av.intro (by(apply Ia<;>exact aT)) ?_|apply bo)<;>simp only[go_sem,hA,asu])
  all_goals simp[ah]
 have ah:=Pe (f:=i9) hA;refine cb.intro (λi:Nat=>⟨(.d (.azD l)::.an::.an::.i ((l.take i).foldl (lB i9) 0)::.i i::aA 20 []),[]⟩)
  (λi=>l.length-i) (λi=>i<=l.length) 0 [] ω ?_ ?_
 ·simp only[go_sem];simp
 intro i hi;by_cases h1:i<l.length
 ·have aq:=aro (i:=i) (n:=l.length);have az:=b_ ae.enc l i h1;have hw:=d8 h1 hm;have hs:=Pd i9 l i h1
  try simp only[go_sem,I,aq]
  repeat'(first|((first|refine af.intro (by(apply Ia<;>exact aT)) ?_|with_reducible apply cG)<;>simp only[go_sem,I,aF,az,ae.enc,hA])|refine⟨ae7,?_⟩|fail)
  all_goals(refine bt.intro (i+1) [] ω ω ?_;simp only[go_sem,hw,hs];simp[lB,i9];try exact Pc _ _)
 obtain⟨aq,rfl⟩:=arn (i:=i) (n:=l.length)
 try simp only[go_sem,I,aq,da]
 repeat'(first|(with_reducible apply dp<;>simp only[go_sem,asu]))
 all_goals simp[ah]
theorem V7(l:List ae)(hz:∀x∈l,gx x):aM 72 [.one (.azD l)] [.one (.i (lx dt kj l))]:=by
 refine aW 25 func72 call72 [.tmp 2] ?_;intro ok;have hm:=gw ok;clear ok;simp only[go_sem];cases hA:lh dt l
 ·have ah:=Pf (f:=kj) hA;refine cb.intro (λi:Nat=>⟨(.d (.azD l)::.an::.an::.i 0::.i i::aA 20 []),[]⟩)
   (λi=>0) (λi=>i=0) 0 [] rfl ?_ ?_
  ·simp only[go_sem];simp
  rintro i rfl
  try simp only[go_sem,I]
  repeat'((first|refine av.intro (by(apply Ia<;>exact aT)) ?_|apply bo)<;>simp only[go_sem,hA,asu])
  all_goals simp[ah]
 have ah:=Pe (f:=kj) hA;refine cb.intro (λi:Nat=>⟨(.d (.azD l)::.an::.an::.i ((l.take i).foldl (lB kj) 0)::.i i::aA 20 []),[]⟩)
  (λi=>l.length-i) (λi=>i<=l.length) 0 [] ω ?_ ?_
 ·simp only[go_sem];simp
 intro i hi;by_cases h1:i<l.length
 ·have aq:=aro (i:=i) (n:=l.length);have az:=b_ ae.enc l i h1;have hw:=d8 h1 hm;have hs:=Pd kj l i h1
  try simp only[go_sem,I,aq]
  repeat'(first|((first|refine af.intro (by(apply Ia<;>exact aT)) ?_|with_reducible apply cG)<;>simp only[go_sem,I,aF,az,ae.enc,hA])|refine⟨ae7,?_⟩|fail)
  all_goals(refine bt.intro (i+1) [] ω ω ?_;simp only[go_sem,hw,hs];simp[lB,kj];try exact Pc _ _)
 obtain⟨aq,rfl⟩:=arn (i:=i) (n:=l.length)
 try simp only[go_sem,I,aq,da]
 repeat'(first|(with_reducible apply dp<;>simp only[go_sem,asu]))
 all_goals simp[ah]
def Qc:List (List bK):=cB 41 [36472996377170776916,36472996377170776914,36472996377170776921,36472996377170776899,36472996377170776845,36472996377170776683,36472996377170786038,36472996377170784580,36472996377170780206,36472996377170766720,36472996377170727354,36472996377170609256,36472996377170254962,36472996377169192080,36472996377166003434,36472984943861246454,36472984943832548640,36472984943932990989,36472984943617315035,36472984942842474057,36472984940517951123,36472995995360720040,36472995974440013634,36472996330092022536,36472996141805664882,36472995535105179108,36472993840527960222,36472988756796303564,36472973500378331442,36472927746793421520,36472790486038691754,36472378703774502456,36454466175282267993,36450760134904564311,36463731276226527198,36422964832071786696,36322901741873787282,36022712471279789040,35122144659497794314,32420441224151810136,24315330918113857602]
def WE:List (List bK):=cB 37 [450283905890997362,450283905890997360,450283905890997354,450283905890997336,450283905890997282,450283905890997120,450283905890996634,450283905890995176,450283905890990802,450283905890977680,450283905890938314,450283905890820216,450283905890465922,450283905889403040,450283905886214394,450283905876648456,450283905847950642,450283905761857200,450283905503576874,450283496774960979,450283494450438045,450283487476869243,450283889619336825,450283826857217607,450283638570859953,450283058602387920,450281364025169034,450276280293512376,442231274946851091,442185521361941169,442048260607211403,449963630796627909,448728284004060015,445022243626356333,433606724191330794,400252360791997656,300189270593998242]
attribute [go_sem] Qc WE
def AE(p:aL):Prop:=p.bV.length<=500/\∀f∈p.bV,f.data.length<=60
def gZ(c:J):Prop:=c.aa.length<=30/\(∀s∈c.aa,gx s)/\c.ai.length<=30/\∀p∈c.ai,AE p
theorem FP{α:Type}(f:α->Nat)(m:Nat):∀(xs:List α),(∀x∈xs,f x<=m)->nk f xs<=m * xs.length
 |[],_=>by simp[nk]
 |x::xs,h=>by
  have h1:=FP f m xs (λy hy=>h y (atb _ hy));have h2:=h x ξ;have e:nk f (x::xs)=f x+nk f xs:=by simp[nk]
  rw[e,e0,auc];omega
theorem af9{s:ae}(h:gx s):ae.fy s<=101300:=by
 obtain⟨h1,h2,ao,aH⟩:=h;have:=FP aR.fy 1000 s.aU.bT.cq ao;simp only[ae.fy,aD.fy,dk.fy,cf.fy,nX.fy];omega
theorem WG{p:aL}(h:AE p):aL.fy p<=30500:=by
 obtain⟨h1,h2⟩:=h;have:=FP al.fy 60 p.bV h2;simp only[aL.fy];omega
theorem lo{c:J}(h:gZ c):J.fy c<=4194304:=by
 obtain⟨h1,h2,ao,aH⟩:=h;have a:=FP ae.fy 101300 c.aa λs hs=>af9 (h2 s hs);have b:=FP aL.fy 30500 c.ai λp hp=>WG (aH p hp);simp only[J.fy];omega
theorem zm{α:Type}(p:α->Bool)(xs:List α)(i:Nat)(h:i<xs.length):(xs.take (i+1)).all p=((xs.take i).all p&&p xs[i]):=by
 rw[gO,cy h,atT];simp
theorem zn{α:Type}(p:α->Bool)(xs:List α)(i:Nat)(h:i<xs.length)(h2:p xs[i]=false):xs.all p=false:=by
 rw[atF];exact⟨_,eK h,by simp[h2]⟩
theorem WH(xs:List al):aM 70 [.one (.azE xs)] [.one (.bool (xs.all eu))]:=by
 refine aW 16 func70 call70 [.tmp 2] ?_;intro ok;have hm:=gw ok;clear ok;simp only[go_sem];refine cb.intro (λi:Nat=>⟨(.d (.azE xs)::.an::.an::.i i::aA 12 []),[]⟩)
  (λi=>xs.length-i) (λi=>i<=xs.length/\(xs.take i).all eu=true) 0 [] ⟨by omega,by simp⟩ ?_ ?_
 ·simp only[go_sem];simp
 rintro i ⟨hi,he⟩;by_cases h1:i<xs.length
 ·have aq:=aro (i:=i) (n:=xs.length);have az:=b_ al.enc xs i h1;have hw:=d8 h1 hm;have hs:=zm eu xs i h1;have bG:=DX xs[i].aY xs[i].ax xs[i].aP xs[i].data xs[i].aS xs[i].cS xs[i].aX xs[i].bf xs[i].fG;change PureCall _ _ _ [.one (.bool (eu xs[i]))]at bG
  try simp only[go_sem,I,aF,az,al.enc,aq]
  repeat'(first|((first|refine af.i ?_|refine av.i ?_|refine bX (λh=>?_) (λh=>?_))<;>simp only[go_sem])|refine⟨ae7,?_⟩|fail)
  ·have:=zn eu xs i h1 (by simpa using h);simp[this]
  refine bt.intro (i+1) [] ⟨by omega,by rw[hs,he];simpa using h⟩ ω ?_;simp only[go_sem,hw];try simp
 obtain⟨aq,rfl⟩:=arn (i:=i) (n:=xs.length);rw[da]at he;simp only[go_sem,I,aq];simp[he]
def mR(n:Int)(l:List aL)(i:Nat):Bool:=B4 (λp=>p.bU) (yb n) l i
theorem aga(n:Int)(l:List aL)(h:0<l.length):mR n l 0=(cd l[0].bU 0 (i64.wrap (n-1))&&l[0].bV.all eu):=AG _ _ _ h
theorem agb(n:Int)(l:List aL)(j:Nat)(h:j+1<l.length):mR n l (j+1)=(cd l[j+1].bU 0 (i64.wrap (n-1))&&l[j+1].bV.all eu&&decide (l[j].bU<l[j+1].bU)):=zl _ _ _ _ h
theorem agc(ok:ae->Bool)(c:J):(bif bif bif bif bif bif bif bif !iz c.own then true else !iz c.cP then true else !lh ok c.aa then true else !jM c.cn then true else !l9 c.c7 then true else !km c.eY then true else !km c.eZ then true else !i_ c.dB then true else !i_ c.dC)=!xm ok c:=by
 unfold xm;cases iz c.own<;>cases iz c.cP<;>cases lh ok c.aa<;>cases jM c.cn<;>cases l9 c.c7<;>cases km c.eY<;>cases km c.eZ<;>cases i_ c.dB<;>cases i_ c.dC<;>rfl
theorem agd(ok:ae->Bool)(c:J):(bif bif bif bif bif cd c.dw (-1) 4611686018427387903 then cd c.bU 0 1000000 else false then cd c.dA 0 1000000 else false then cd c.cX 0 255 else false then decide (lx ok i9 c.aa<=c.cn.dV)else false then decide (lx ok kj c.aa<=c.c7.seen)else false)=DW ok c:=by
 unfold DW;simp only[c2]
theorem lu(c:J)(hz:gZ c):aM 18 [.agg (J.enc c)] [.one (.bool (ew c))]:=by
 refine ayE 140 func18 call18 [.tmp 2] ?_;obtain⟨qK,nI,AP,H9⟩:=hz;have ah:=agc dt c;have hB:=agd dt c;have aE:ew c=(xm dt c&&rl c.bU c.ai&&DW dt c):=rfl
 try simp only[go_sem]
 repeat'((first|refine af.intro (by apply H') ?_|refine av.intro (by first|apply H'|(apply Ia<;>exact aT)|apply B5|apply Ib|apply Qd|apply Ly) ?_|apply bo)<;>simp only[go_sem])
 rw[ah];cases hA:xm dt c
 ·simp only[go_sem,b7];simp[aE,hA]
 rw[hA]at aE;simp only[go_sem,bz];refine cb.intro (λi:Nat=>⟨(.an::.ptr 0 0 0::.an::.i i::aA 136 []),[.box (J.bx c)]⟩)
  (λi=>c.ai.length-i) (λi=>i<=c.ai.length/\l6 (mR c.bU c.ai) i=true) 0 [0] ⟨by omega,by simp[l6]⟩ ?_ ?_
 ·simp only[go_sem];simp
 rintro i ⟨hi,he⟩;by_cases h1:i<c.ai.length
 ·have aq:=aro (i:=i) (n:=c.ai.length);have az:=b_ aL.enc c.ai i h1;have hw:=asc (i:=i);have hs:=Ft (mR c.bU c.ai) i;have hf:mR c.bU c.ai i=false->rl c.bU c.ai=false:=λh=>HM (mR c.bU c.ai) h1 h
  cases i with
  |zero=>
   have hb:=aga c.bU c.ai h1;have h2:decide ((0:Int)<((0:Nat):Int))=false:=by decide
   try simp only[go_sem,I,aq]
   repeat'(first|((first|refine av.intro (by first|apply lS|apply WH) ?_|with_reducible apply lv|apply fY|refine a7 Qc χ ψ ?_|refine bX (λh=>?_) (λh=>?_))<;>simp only[go_sem,I,aF,az,aL.enc,h2])|refine⟨ae7,?_⟩|fail)
   ·have e:mR c.bU c.ai 0=false:=by rw[hb];revert h;cases cd c.ai[0].bU 0 (i64.wrap (c.bU-1))<;>cases c.ai[0].bV.all eu<;>simp
    simp[aE,hf e]
   have e:mR c.bU c.ai 0:=by rw[hb];revert h;cases cd c.ai[0].bU 0 (i64.wrap (c.bU-1))<;>cases c.ai[0].bV.all eu<;>simp
   refine bt.intro 1 [0] ⟨by omega,by rw[hs,he,e];rfl⟩ ω ?_;simp only[go_sem,hw];try simp
  |succ j=>
   have hb:=agb c.bU c.ai j h1;have ie:=b_ aL.enc c.ai j ω;have h2:=br (p:=(0:Int)<((j+1:Nat):Int)) ω;have hp:i64.wrap (((j+1:Nat):Int)-1)=(j:Int):=by rw[bw]<;>omega
   try simp only[go_sem,I,aq]
   repeat'(first|((first|refine av.intro (by first|apply lS|apply WH) ?_|apply fY|refine a7 Qc χ ψ ?_|refine bX (λh=>?_) (λh=>?_))<;>simp only[go_sem,I,aF,az,ie,aL.enc,h2,hp])|refine⟨ae7,?_⟩|fail)
   ·have e:mR c.bU c.ai (j+1)=false:=by rw[hb];revert h;cases cd c.ai[j+1].bU 0 (i64.wrap (c.bU-1))<;>cases c.ai[j+1].bV.all eu<;>simp
    simp[aE,hf e]
   have e:mR c.bU c.ai (j+1):=by rw[hb];revert h;cases cd c.ai[j+1].bU 0 (i64.wrap (c.bU-1))<;>cases c.ai[j+1].bV.all eu<;>simp
   refine bt.intro (j+1+1) [0] ⟨by omega,by rw[hs,he,e];rfl⟩ ω ?_;simp only[go_sem,hw];try simp
 obtain⟨aq,rfl⟩:=arn (i:=i) (n:=c.ai.length);have hL:rl c.bU c.ai:=he;rw[hL]at aE
 try simp only[go_sem,I,aq]
 repeat'((first|refine av.intro (by first|apply lS|(apply V6<;>exact aT)|(apply V7<;>exact aT)) ?_|apply fY|refine a7 WE χ ψ ?_)<;>simp only[go_sem])
 rw[hB];simp[aE]
theorem WI(c:J):aM 19 [.agg (J.enc c)] [.one (.bool (decide (c.cX≠0)))]:=by
 refine aW 6 func19 call19 [.tmp 2] ?_;intro _
 try simp only[go_sem]
def hZ(c:J):Bool:=ew c&&decide (c.cX=0)
theorem x8(c:J)(hz:gZ c):aM 35 [.agg (J.enc c)] [.one (.bool (hZ c))]:=by
 refine aW 10 func35 call35 [.tmp 2] ?_;intro _
 try simp only[go_sem]
 repeat'((first|refine af.intro (by(apply lu<;>exact aT)) ?_|refine av.intro (by apply WI) ?_|apply bo)<;>simp only[go_sem])
 all_goals(apply fu;simp[hZ])
theorem qH{l:List ae}(hz:∀s∈l,gx s)(id:Int):gx (bQ l id).1:=by
 unfold bQ;split
 ·rename_i s h;exact hz _ (arK h)
 exact⟨by simp[n0],by simp[n0],by simp[n0],by simp[n0]⟩
theorem pZ(c:J)(id:Int)(hz:gZ c):aM 93 [.agg (J.enc c),.one (.i id)] [.agg (ae.enc ((bQ c.aa id).1)),.one (.bool (bQ c.aa id).2)]:=by
 refine ayE 20 func93 call93 [.cell 4 74,.tmp 5] ?_;obtain⟨qK,nI,AP,H9⟩:=hz;simp only[go_sem];refine af.intro (P_ c.aa id) ?_;simp only[go_sem];rcases m' (eB id) c.aa with ⟨h1,h2⟩|⟨j,aI,h1,h2,ao⟩
 ·rw[h1];have ah:bQ c.aa id=(n0,false):=by unfold bQ;rw[h2]
  try simp only[go_sem]
  all_goals simp[ah,n0]
 rw[h1];have ah:bQ c.aa id=(c.aa[j],true):=by unfold bQ;rw[h2]
 have hlt:=bn (p:=(j:Int)<0) ω;have az:=b_ ae.enc c.aa j aI;obtain⟨dh,bO,cz,df⟩:=nI _ (eK aI)
 try simp only[go_sem,I,hlt,aF,az,ae.enc]
 repeat'(first|(refine af.intro (by(apply BY<;>exact aT)) ?_<;>simp only[go_sem,I,ae.enc])|refine⟨ae7,?_⟩|fail)
 all_goals simp[ah]
def Wj:List (List bK):=cB 10 [58940,58938,58932,59035,58981,58077,58563,56862,52488,39366]
attribute [go_sem] Wj
theorem HY(c:J)(hx:J.fy c<=4194304):aM 62 [.agg (J.enc c)] [.agg (J.enc c)]:=by
 refine aW 12 func62 call62 [.cell 2 37] ?_;intro _;simp only[J.fy]at hx
 try simp only[go_sem]
 repeat'((first|refine av.intro (by first|(apply afN<;>exact aT)|(apply Wk<;>exact aT)) ?_|refine a7 Wj χ ψ ?_)<;>simp only[go_sem,I])
 all_goals simp
theorem jd(c:J)(hx:J.fy c<=4194304):aM 34 [.agg (J.enc c)] [.agg (J.enc c)]:=by
 refine aW 33 func34 call34 [.cell 2 37] ?_;intro _;simp only[J.fy]at hx;have hm:c.aa.length<=maxLen:=by simp only[maxLen];omega
 simp only[go_sem];refine cb.intro (λi:Nat=>⟨(.an::.ptr 0 0 0::.ptr 1 0 0::.ptr 2 0 0::.i i::aA 28 []),[.box (J.bx c),.box J.ca,.box (J.a2 c (.sl 3 0 i) (.d (.azC c.ai))),.azx (c.aa.take i)]⟩)
   (λi=>c.aa.length-i) (λi=>i<=c.aa.length) 0 [0,1,2,3] ω ?_ ?_
 ·simp only[go_sem];simp
 intro i hi;have hl:(c.aa.take i).length=i:=by simp;omega
 simp only[go_sem,I];refine bX (λh1=>?_) (λh1=>?_)
 ·simp only[bH]at h1;have hlt:i<c.aa.length:=by omega
  have az:=b_ ae.enc c.aa i hlt;have hw:=d8 hlt hm;have hb:=HZ ae.fy c.aa i hlt;simp only[ae.fy,aD.fy,dk.fy,cf.fy,nX.fy]at hb;simp only[ae.enc]at az;have l7:((c.aa.take i).map ae.enc).take i=(c.aa.take i).map ae.enc:=eA (by rw[I,hl];exact fH _);have b4:=Ll ae.enc c.aa i hlt;simp only[ae.enc]at b4
  try simp only[go_sem,I,aF,az]
  repeat'(first|(refine af.intro (by(apply BY<;>exact aT)) ?_<;>simp only[go_sem,I,hl,l7])|refine⟨ae7,?_⟩|fail)
  all_goals(refine bt.intro (i+1) [0,1,2,11] ω ω ?_;simp only[go_sem,hw];simp[b4])
 simp only[eC]at h1;have iN:i=c.aa.length:=by omega
 subst iN
 try simp only[go_sem,da]
 repeat'(refine af.intro (by(apply afO<;>exact aT)) ?_<;>simp only[go_sem,I])
 all_goals simp
@[go_sem] theorem ab.pD(a:ab):(⟨a.low,a.high⟩:ab)=a:=rfl
@[go_sem] theorem dk.pD(a:dk):(⟨a.size,a.base,a.bS,a.cells⟩:dk)=a:=rfl
@[go_sem] theorem aD.pD(a:aD):(⟨a.bp,a.aB,a.bC,a.bc,a.bJ,a.bf,a.aS,a.b0,a.cS⟩:aD)=a:=rfl
@[go_sem] theorem aR.pD(a:aR):(⟨a.aP,a.data⟩:aR)=a:=rfl
@[go_sem] theorem nX.pD(a:nX):(⟨a.next,a.cq⟩:nX)=a:=rfl
@[go_sem] theorem cf.pD(a:cf):(⟨a.bp,a.bT,a.bf,a.fR,a.cS⟩:cf)=a:=rfl
@[go_sem] theorem d6.pD(a:d6):(⟨a.aX,a.dV,a.blocked,a.gA⟩:d6)=a:=rfl
@[go_sem] theorem ej.pD(a:ej):(⟨a.size,a.cm,a.aX,a.seen,a.fa,a.k9⟩:ej)=a:=rfl
@[go_sem] theorem lG.pD(a:lG):(⟨a.ei,a.ic⟩:lG)=a:=rfl
@[go_sem] theorem jf.pD(a:jf):(⟨a.aX,a.iy,a.blocked⟩:jf)=a:=rfl
@[go_sem] theorem d9.pD(a:d9):(⟨a.cm,a.aX,a.seen,a.cX⟩:d9)=a:=rfl
@[go_sem] theorem e5.pD(a:e5):(⟨a.aB,a.bL,a.nh,a.cn,a.ni,a.mz,a.fG,a.eU⟩:e5)=a:=rfl
@[go_sem] theorem al.pD(a:al):(⟨a.aY,a.ax,a.aP,a.data,a.aS,a.cS,a.aX,a.bf,a.fG⟩:al)=a:=rfl
@[go_sem] theorem ae.pD(a:ae):(⟨a.id,a.ag,a.cL,a.aU,a.bL,a.cI,a.ft,a.fS,a.i4,a.gK,a.k_,a.i5,a.oe,a.gu⟩:ae)=a:=rfl
@[go_sem] theorem bI.pD(a:bI):(⟨a.aP,a.data,a.aS⟩:bI)=a:=rfl
@[go_sem] theorem ch.pD(a:ch):(⟨a.id,a.cI⟩:ch)=a:=rfl
@[go_sem] theorem aL.pD(a:aL):(⟨a.bU,a.bV⟩:aL)=a:=rfl
@[go_sem] theorem J.pD(a:J):(⟨a.bq,a.own,a.cP,a.aa,a.cn,a.c7,a.eY,a.eZ,a.dB,a.dC,a.p2,a.mA,a.mB,a.dw,a.bU,a.ai,a.dA,a.cX⟩:J)=a:=rfl
def P6:List (List bK):=cB 12 [524867,524878,524872,524853,524799,521721,502524,444933,528160,514674,474579,354294]
def P7:List (List bK):=cB 23 [90634871105,90634871103,90634871097,90634871079,90634873333,90634874224,90634873738,90634872199,90635133505,90635120383,90635081017,90634962919,90656128705,90655065823,90651877177,90642311239,90613347705,90527254263,89106712470,79421200245,92399786626,84845087091,62762119218]
def P8:List (List bK):=cB 10 [57956,58804,58798,58780,58726,58927,58321,56862,52488,39366]
attribute [go_sem] P6 P7 P8
def nZ(id:Int)(k:Nat):Int:=i64.wrap (id-i64.wrap (4 * (k:Int)))
def oq(v:Bool)(o p:e5)(id:Int):Nat->List ae->List ae
 |0,l=>l
 |k+1,l=>oq v o p id k (dv l (hN v (nZ id k) o p))
theorem Wv(n:Int):(sB n).aB.cells.length<=64/\(sB n).bC=[]/\(sB n).bc=[]/\(sB n).bJ=[]:=by
 unfold sB;split
 ·rename_i h;have:=FO h;refine⟨?_,rfl,rfl,rfl⟩;simp only[xk,h,if_true,asz];omega
 simp[P9]
theorem H0(v:Bool)(i:Int)(o p:e5):gx (hN v i o p):=by
 unfold hN;split
 ·obtain⟨h1,h2,ao,aH⟩:=Wv o.aB;refine⟨by simp only[h2,ao,aH];simp,by simp only;omega,by simp[B3],by simp[B3]⟩
 exact⟨by simp[n0],by simp[n0],by simp[n0],by simp[n0]⟩
theorem Ww{l:List ae}{s:ae}(hz:∀x∈l,gx x)(hs:gx s):∀x∈dv l s,gx x:=λx hx=>by
 rcases zw hx with h|rfl
 ·exact hz x h
 exact hs
def mX(c:J)(id:Int):d9:=if la id then c.dC else c.dB
def mY(c:J)(id:Int):Int:=n1 (mX c id) (ig id)
def yk(c:J)(id:Int):Bool:=yl (mX c id) (ig id)&&!decide (mY c id=0)&&!decide (24<i64.wrap ((c.aa.length:Int)+mY c id))
def jg(c:J)(id:Int):Int:=if !(ew c&&bN id)then 7 else if 0<=g2 (eB id) c.aa then 0 else if jw c.bq id then 5 else if yk c id then 0 else 4
def ot(c:J)(id:Int)(a:d9):J:=if la id then {c with dC:=a}else {c with dB:=a}
def cD(c:J)(id:Int):J:=
 if ew c&&bN id&&decide (g2 (eB id) c.aa<0)&&!jw c.bq id&&yk c id then
  {ot c id (lg (mX c id) (ig id))with aa:=oq c.bq c.own c.cP id (mY c id).toNat c.aa}else c
theorem af7(a:d9)(i:Int):0<=n1 a i/\n1 a i<=1152921504606846977:=by
 unfold n1;split
 ·rename_i h;simp only[yl,i_,cd,bm,bH]at h;rw[bw (n:=i+1) ω ω,bw (n:=i+1-a.seen) ω ω];unfold dJ;split<;>omega
 omega
theorem Lu{c:J}{id:Int}(h:yk c id)(hl:c.aa.length<=1000):0<mY c id/\(c.aa.length:Int)+mY c id<=24:=by
 have:=af7 (mX c id) (ig id);simp only[yk,bm,ab_,eC]at h;unfold mY at h⊢;rw[bw ω ω]at h;omega
theorem Wx(v:Bool)(o p:e5)(id:Int):∀(k:Nat) (l:List ae),(oq v o p id k l).length<=l.length+k
 |0,l=>by simp[oq]
 |k+1,l=>by
  have h1:=Wx v o p id k (dv l (hN v (nZ id k) o p));have h2:=Lv l (hN v (nZ id k) o p);rw[oq];omega
theorem Wy(c:J)(id:Int)(a:d9)(h:mX c id=a):(bif bif !yl a (ig id)then true else decide (n1 a (ig id)=0)then true else decide (24<i64.wrap ((c.aa.length:Int)+n1 a (ig id))))=!yk c id:=by
 subst h;unfold yk mY;cases yl (mX c id) (ig id)<;>cases decide (n1 (mX c id) (ig id)=0)<;>cases decide (24<i64.wrap ((c.aa.length:Int)+n1 (mX c id) (ig id)))<;>rfl
theorem Lw(c:J)(id:Int)(hz:gZ c):aM 317 [.agg (J.enc c),.one (.i id)] [.agg (J.enc ((cD c id))),.one (.i (jg c id))]:=by
 refine ayE 72 func317 call317 [.cell 4 37,.tmp 5] ?_;have lL:=lo hz;have iO:=hz;obtain⟨qK,nI,AP,H9⟩:=hz;have a5:cD c id=if ew c&&bN id&&decide (g2 (eB id) c.aa<0)&&!jw c.bq id&&yk c id then {ot c id (lg (mX c id) (ig id))with aa:=oq c.bq c.own c.cP id (mY c id).toNat c.aa}else c:=rfl
 have ah:jg c id=if !(ew c&&bN id)then 7 else if 0<=g2 (eB id) c.aa then 0 else if jw c.bq id then 5 else if yk c id then 0 else 4:=rfl
 try simp only[go_sem]
 repeat'((first|refine af.aj (by first|(apply jd<;>exact aT)|(apply lu<;>exact aT)) ?_|refine av.aj (by apply ld) ?_|apply bo)<;>simp only[go_sem,I])
 cases h1:ew c&&bN id
 ·have hb:(bif !ew c then true else !bN id)=true:=by revert h1;cases ew c<;>cases bN id<;>simp
  rw[h1]at a5 ah;simp only[hb];simp only[go_sem,I];simp[a5,ah]
 have hb:(bif !ew c then true else !bN id)=false:=by revert h1;cases ew c<;>cases bN id<;>simp
 rw[h1]at a5 ah;simp only[hb];simp only[go_sem];refine af.intro (P_ c.aa id) ?_;simp only[go_sem];rcases m' (eB id) c.aa with ⟨dG,e9⟩|⟨j,aI,dG,e9,f3⟩
 ·have P':decide ((0:Int)<=-1)=false:=by decide
  have zx:decide ((-1:Int)<0):=by decide
  rw[dG,zx]at a5;rw[dG]at ah;simp only[dG,P'];simp only[go_sem];refine af.intro (FA c.bq id) ?_;simp only[go_sem];cases cM:jw c.bq id
  ·rw[cM]at a5 ah;simp only[go_sem];refine af.intro (AI id) ?_;simp only[go_sem];cases kl:la id
   ·have hA:mX c id=c.dB:=by unfold mX;rw[kl];rfl
    have hW:∀a,ot c id a={c with dB:=a}:=λa=>by unfold ot;rw[kl];rfl
    have bY:=Wy c id _ hA
    try simp only[go_sem]
    repeat'((first|refine av.aj (by first|apply Wz|apply WA) ?_|apply bo|refine a7 P6 χ ψ ?_)<;>simp only[go_sem,I])
    rw[bY];cases hg:yk c id
    ·rw[hg]at a5 ah;simp only[go_sem,I,b7];simp[a5,ah]
    rw[hg]at a5 ah;have hn:mY c id=n1 c.dB (ig id):=by unfold mY;rw[hA]
    simp only[go_sem,bz];refine af.intro (AI id) ?_;simp only[go_sem,kl];obtain⟨yh,zy⟩:=Lu hg ω;rw[hn]at yh zy a5;obtain⟨N,bB⟩:=mU (show 0<=n1 c.dB (ig id)by omega);rw[bB]at yh zy a5;rw[aF]at a5;have Qa:i64.wrap ((N:Int)-1)=(N:Int)-1:=by rw[bw]<;>omega
    refine af.lp [1,2,4,5,6] (by simp only[i3,arE,am_,Nat.reduceBEq,Nat.reduceAdd,d4,eF];rfl) (gi (n:=44) (rs:=[]) func333 rfl call333 bE rfl rfl ?_);simp only[go_sem,bB,Qa];refine cb.intro (α:=Nat×List ae) (λy=>⟨(.ptr 4 0 0::.i id::aA 4 (.i ((y.1:Int)-1)::aA 37 [])),[.box (J.bx c),.box J.ca,.aj 39 (y.2.map ae.enc),.aj 2 (c.ai.map aL.enc),.box (J.a2 ({c with dB:=lg c.dB (ig id)}) (.sl 2 0 y.2.length) (.sl 3 0 c.ai.length)),.box [.i c.dB.cm,.i c.dB.aX,.i c.dB.seen,.i c.dB.cX],.box [.d (.i (lg c.dB (ig id)).cm),.d (.i (lg c.dB (ig id)).aX),.d (.i (lg c.dB (ig id)).seen),.d (.i (lg c.dB (ig id)).cX)]]⟩)
     (λy=>y.1) (λy=>y.1<=N/\oq c.bq c.own c.cP id y.1 y.2=oq c.bq c.own c.cP id N c.aa/\y.2.length+y.1<=c.aa.length+N/\∀s∈y.2,gx s) (N,c.aa) [0,1,2,3,4,5,6] ⟨by omega,rfl,by simp,nI⟩ ?_ ?_
    ·simp only[go_sem];simp
    rintro⟨k,l⟩ ⟨hk,he,xe,dM⟩;simp only at hk he xe dM
    cases k with
    |zero=>
     have hd:decide ((0:Int)<=((0:Nat):Int)-1)=false:=by decide
     simp only[go_sem,hd];have DV:oq c.bq c.own c.cP id N c.aa=l:=he.symm;rw[DV,hW,hA]at a5;simp[a5,ah,outOA]
    |succ k=>
     have hd:=br (p:=(0:Int)<=(k:Int)) ω;have pS:((k+1:Nat):Int)-1=(k:Int):=by omega
     have sC:i64.wrap ((k:Int)-1)=(k:Int)-1:=by rw[bw]<;>omega
     have cO:i64.wrap (id-i64.wrap (4 * (k:Int)))=nZ id k:=rfl;have hL:=oj l (hN c.bq (nZ id k) c.own c.cP) ω dM (H0 _ _ _ _)
     try simp only[go_sem,pS,hd]
     repeat'((first|refine af.j ?_|refine av.aj (by first|assumption|apply Ln) ?_|apply bo|refine a7 P7 χ ψ ?_|refine a7 P8 χ ψ ?_)<;>simp only[go_sem,I,sC,cO])
     have WB:=Lv l (hN c.bq (nZ id k) c.own c.cP);refine bt.intro (k,dv l (hN c.bq (nZ id k) c.own c.cP)) [0,1,13,3,4,5,6] ⟨by omega,he,by simp only;omega,Ww dM (H0 _ _ _ _)⟩ (by simp only;omega) ?_;simp only[go_sem];simp
   have hA:mX c id=c.dC:=by unfold mX;rw[kl];rfl
   have hW:∀a,ot c id a={c with dC:=a}:=λa=>by unfold ot;rw[kl];rfl
   have bY:=Wy c id _ hA
   try simp only[go_sem]
   repeat'((first|refine af.j ?_|refine av.aj (by first|assumption|apply Wz|apply WA) ?_|apply bo|refine a7 P6 χ ψ ?_)<;>simp only[go_sem,I])
   rw[bY];cases hg:yk c id
   ·rw[hg]at a5 ah;simp only[go_sem,I,b7];simp[a5,ah]
   rw[hg]at a5 ah;have hn:mY c id=n1 c.dC (ig id):=by unfold mY;rw[hA]
   simp only[go_sem,bz];refine af.intro (AI id) ?_;simp only[go_sem,kl];obtain⟨yh,zy⟩:=Lu hg ω;rw[hn]at yh zy a5;obtain⟨N,bB⟩:=mU (show 0<=n1 c.dC (ig id)by omega);rw[bB]at yh zy a5;rw[aF]at a5;have Qa:i64.wrap ((N:Int)-1)=(N:Int)-1:=by rw[bw]<;>omega
   refine af.lp [1,2,4,5,6] (by simp only[i3,arE,am_,Nat.reduceBEq,Nat.reduceAdd,d4,eF];rfl) (gi (n:=44) (rs:=[]) func333 rfl call333 bE rfl rfl ?_);simp only[go_sem,bB,Qa];refine cb.intro (α:=Nat×List ae) (λy=>⟨(.ptr 4 0 0::.i id::aA 4 (.i ((y.1:Int)-1)::aA 37 [])),[.box (J.bx c),.box J.ca,.aj 39 (y.2.map ae.enc),.aj 2 (c.ai.map aL.enc),.box (J.a2 ({c with dC:=lg c.dC (ig id)}) (.sl 2 0 y.2.length) (.sl 3 0 c.ai.length)),.box [.i c.dC.cm,.i c.dC.aX,.i c.dC.seen,.i c.dC.cX],.box [.d (.i (lg c.dC (ig id)).cm),.d (.i (lg c.dC (ig id)).aX),.d (.i (lg c.dC (ig id)).seen),.d (.i (lg c.dC (ig id)).cX)]]⟩)
    (λy=>y.1) (λy=>y.1<=N/\oq c.bq c.own c.cP id y.1 y.2=oq c.bq c.own c.cP id N c.aa/\y.2.length+y.1<=c.aa.length+N/\∀s∈y.2,gx s) (N,c.aa) [0,1,2,3,4,5,6] ⟨by omega,rfl,by simp,nI⟩ ?_ ?_
   ·simp only[go_sem];simp
   rintro⟨k,l⟩ ⟨hk,he,xe,dM⟩;simp only at hk he xe dM
   cases k with
   |zero=>
    have hd:decide ((0:Int)<=((0:Nat):Int)-1)=false:=by decide
    simp only[go_sem,hd];have DV:oq c.bq c.own c.cP id N c.aa=l:=he.symm;rw[DV,hW,hA]at a5;simp[a5,ah,outOA]
   |succ k=>
    have hd:=br (p:=(0:Int)<=(k:Int)) ω;have pS:((k+1:Nat):Int)-1=(k:Int):=by omega
    have sC:i64.wrap ((k:Int)-1)=(k:Int)-1:=by rw[bw]<;>omega
    have cO:i64.wrap (id-i64.wrap (4 * (k:Int)))=nZ id k:=rfl;have hL:=oj l (hN c.bq (nZ id k) c.own c.cP) ω dM (H0 _ _ _ _)
    try simp only[go_sem,pS,hd]
    repeat'((first|refine af.j ?_|refine av.aj (by first|assumption|apply Ln) ?_|refine a7 P7 χ ψ ?_|refine a7 P8 χ ψ ?_)<;>simp only[go_sem,I,sC,cO])
    have WB:=Lv l (hN c.bq (nZ id k) c.own c.cP);refine bt.intro (k,dv l (hN c.bq (nZ id k) c.own c.cP)) [0,1,13,3,4,5,6] ⟨by omega,he,by simp only;omega,Ww dM (H0 _ _ _ _)⟩ (by simp only;omega) ?_;simp only[go_sem];simp
  rw[cM]at a5 ah;simp only[go_sem,I];simp[a5,ah]
 have P':=br (p:=(0:Int)<=(j:Int)) ω;have zx:=bn (p:=(j:Int)<0) ω;rw[dG,zx]at a5;rw[dG]at ah;simp only[dG,P'];simp only[go_sem,I];simp[a5,ah]
theorem aei{r x y:ab}(hr:c8 r)(hx:c8 x)(hy:y∈jr r x):c8 y/\x.low<=y.low/\y.high<=x.high:=by
 have h1:=(gr _).1 hr;have h2:=(gr _).1 hx;unfold jr at hy;rcases e7.1 hy with hy|hy
 ·split at hy
  ·rename_i c;rw[jn.1 hy,gr];simp only[cu]at c⊢;refine⟨⟨by omega,c,?_⟩,by omega,?_⟩<;>split<;>omega
  cases hy
 split at hy
 ·rename_i c;rw[jn.1 hy,gr];simp only[dJ]at c⊢;refine⟨⟨?_,c,by omega⟩,?_,by omega⟩<;>split<;>omega
 cases hy
theorem ap9{r x:ab}(hr:c8 r):(jr r x).Pairwise (λa b=>a.high<b.low):=by
 have h1:=(gr _).1 hr;unfold jr;split<;>split<;>simp[cu,dJ]<;>(repeat' split)<;>omega
theorem aej{r:ab}(hr:c8 r):∀(xs:List ab),(∀x∈xs,c8 x=true)->xs.Pairwise (λa b=>a.high<b.low)->
  (∀y∈xs.flatMap (jr r),c8 y/\∃x∈xs,x.low<=y.low/\y.high<=x.high)/\(xs.flatMap (jr r)).Pairwise (λa b=>a.high<b.low)
 |[],_,_=>by simp
 |x::xs,h1,h2=>by
  have gv:=ag_.1 h2;obtain⟨b5,b8⟩:=aej hr xs (λy hy=>h1 y (by simp[hy])) gv.2;rw[arM];refine⟨λy hy=>?_,List.pairwise_append.2 ⟨ap9 hr,b8,λa ha b hb=>?_⟩⟩
  ·rcases e7.1 hy with hy|hy
   ·have:=aei hr (h1 x ξ) hy;exact⟨this.1,x,by simp,this.2⟩
   obtain⟨dh,z,hz,bO⟩:=b5 y hy;exact⟨dh,z,by simp[hz],bO⟩
  have dh:=aei hr (h1 x ξ) ha;obtain⟨_,z,hz,bO⟩:=b5 b hb;have:=gv.1 z hz;omega
theorem aek{r x:ab}(h:¬(x.low<r.low/\r.high<x.high)):(jr r x).length<=1:=by
 unfold jr;split<;>split<;>simp;rename_i c1 cW;simp only[cu,dJ]at c1 cW;split at c1<;>split at cW<;>omega
theorem ael{r:ab}:∀(xs:List ab),(∀x∈xs,r.low<=x.low)->(xs.flatMap (jr r)).length<=xs.length
 |[],_=>by simp
 |x::xs,h=>by
  have:=ael xs (λy hy=>h y (by simp[hy]));have:=aek (r:=r) (x:=x) (λg=>by have:=h x ξ;omega);rw[arM,eh,e0];omega
theorem aem{r:ab}(hr:c8 r):∀(xs:List ab),xs.Pairwise (λa b=>a.high<b.low)->(xs.flatMap (jr r)).length<=xs.length+1
 |[],_=>by simp
 |x::xs,h=>by
  have h':=ag_.1 h;have lX:=(gr _).1 hr;rw[arM,eh,e0];by_cases c:x.low<r.low/\r.high<x.high
  ·have:=ael (r:=r) xs (λy hy=>by have:=h'.1 y hy;omega);have:=UI r x;omega
  have:=aem hr xs h'.2;have:=aek c;omega
theorem SV{xs:List ab}{r:ab}(h:cN xs):cN (nw xs r)/\(nw xs r).length<=xs.length+1/\∀y∈nw xs r,∃x∈xs,x.low<=y.low/\y.high<=x.high:=by
 unfold nw;split
 ·rename_i g;have hr:c8 r:=by revert g;rw[h];simp
  have hs:=(ho xs).1 h;obtain⟨b5,b8⟩:=aej hr xs hs.1 hs.2;exact⟨(ho _).2 ⟨λy hy=>(b5 y hy).1,b8⟩,aem hr xs hs.2,λy hy=>(b5 y hy).2⟩
 exact⟨h,by omega,λy hy=>⟨y,hy,by omega,by omega⟩⟩
theorem aqa{x y z:ab}(hx:c8 x)(hy:c8 y)(hz:z∈gj x y):c8 z/\x.low<=z.low/\z.high<=x.high:=by
 have h1:=(gr _).1 hx;have h2:=(gr _).1 hy;unfold gj at hz;split at hz
 ·rename_i c;rw[jn.1 hz,gr];simp only[cu,dJ]at c⊢;refine⟨⟨?_,c,?_⟩,?_,?_⟩<;>split<;>omega
 cases hz
theorem J1(xs:List ab)(r:ab):(gy xs [r]).length<=xs.length/\∀z∈gy xs [r],c8 z/\∃x∈xs,x.low<=z.low/\z.high<=x.high:=by
 unfold gy;split
 ·rename_i g;simp only[bm]at g;have hs:=(ho xs).1 g.1;have hr:=((ho [r]).1 g.2).1 r ξ;have e:(xs.flatMap λx=>[r].flatMap (gj x))=xs.flatMap λx=>gj x r:=by
   congr 1;funext x;simp
  rw[e];refine⟨by have:=At (λx=>gj x r) 1 (λx=>KJ x r) xs;omega,λz hz=>?_⟩;obtain⟨x,hx,hz⟩:=asK.1 hz;have:=aqa (hs.1 x hx) hr hz;exact⟨this.1,x,hx,this.2⟩
 ·exact⟨by simp,λz hz=>by cases hz⟩
def O1:List (List bK):=cB 10 [59048,59046,59040,59022,56781,56619,56133,57915,52488,39366]
attribute [go_sem] O1
def qY(s:aD)(p:bI):Bool:=dU s&&decide (s.bp<=2)&&jX s p&&!(decide (p.data=[])&&!p.aS)&&!(p.aS&&decide (s.aS≠1))
def iD(s:aD)(p:bI):Bool:=qY s p&&(decide (p.data=[])||decide (gy s.bC [dD p]=[dD p]))
def k4(s:aD)(p:bI):aD:=if p.data=[]then s else {s with bC:=nw s.bC (dD p),bc:=f' s.bc (dD p),b0:=dJ s.b0 (dD p).high}
def ny(s:aD)(p:bI):aD:=if p.aS then {s with aS:=2}else s
def jY(s:aD):aD:={s with bp:=h7 s}
def ga(s:aD)(p:bI):aD:=if iD s p then jY (ny (k4 s p) p)else s
theorem ah1(bb bh bj ba:Int)(a8:List Int)(aN aJ aO:List ab)(bd a_ a9 bk cj:Int)(b6:List UInt8)(cl:Bool)(hc:aN.length+aJ.length+aO.length<=524288)(hr:a8.length<=8388608)(_:b6.length<=1048576):aM 305 [.agg [.i bb,.i bh,.i bj,.i ba,.sl 1 (a8.map bg),.azA aN,.azA aJ,.azA aO,.i bd,.i a_,.i a9,.i bk],.agg [.i cj,.str b6,.bool cl]] [.agg (aD.enc (ga (⟨bb,⟨bh,bj,ba,a8⟩,aN,aJ,aO,bd,a_,a9,bk⟩:aD) (⟨cj,b6,cl⟩:bI))),.one (.bool (iD (⟨bb,⟨bh,bj,ba,a8⟩,aN,aJ,aO,bd,a_,a9,bk⟩:aD) (⟨cj,b6,cl⟩:bI)))]:=by
 refine aW 89 func305 call305 [.cell 4 65,.tmp 5] ?_;intro _;have ah:(bif bif bif bif !dU (⟨bb,⟨bh,bj,ba,a8⟩,aN,aJ,aO,bd,a_,a9,bk⟩:aD)then true else decide (2<bb)then true else !jX (⟨bb,⟨bh,bj,ba,a8⟩,aN,aJ,aO,bd,a_,a9,bk⟩:aD) (⟨cj,b6,cl⟩:bI)then true else bif decide (b6=[])then !cl else false then true else bif cl then decide (a_≠1)else false)=!qY (⟨bb,⟨bh,bj,ba,a8⟩,aN,aJ,aO,bd,a_,a9,bk⟩:aD) (⟨cj,b6,cl⟩:bI):=by
  have e:decide (2<bb)=!decide (bb<=2):=by by_cases h:bb<=2<;>simp[h]<;>omega
  simp only[qY,e];cases dU (⟨bb,⟨bh,bj,ba,a8⟩,aN,aJ,aO,bd,a_,a9,bk⟩:aD)<;>cases decide (bb<=2)<;>cases jX (⟨bb,⟨bh,bj,ba,a8⟩,aN,aJ,aO,bd,a_,a9,bk⟩:aD) (⟨cj,b6,cl⟩:bI)<;>cases decide (b6=[])<;>cases cl<;>cases decide (a_≠1)<;>rfl
 cases bY:qY (⟨bb,⟨bh,bj,ba,a8⟩,aN,aJ,aO,bd,a_,a9,bk⟩:aD) (⟨cj,b6,cl⟩:bI)
 ·have cM:iD (⟨bb,⟨bh,bj,ba,a8⟩,aN,aJ,aO,bd,a_,a9,bk⟩:aD) (⟨cj,b6,cl⟩:bI)=false:=by simp[iD,bY]
  rw[bY]at ah
  try simp only[go_sem]
  repeat'((first|refine af.intro (by first|(apply sD<;>exact aT)|(apply nQ<;>exact aT)) ?_|refine av.intro (by apply Hy) ?_|apply bo)<;>simp only[go_sem,I])
  rw[ah];simp only[go_sem,b7,I];simp[ga,cM]
 have hw:=bY;simp only[qY,bm,bH,ed]at hw;obtain⟨FC,jx,O2,O3,O4⟩:=hw;rw[bY]at ah;have oF:=UK aN [dD (⟨cj,b6,cl⟩:bI)] ω ξ;have sn:=UJ aN (dD (⟨cj,b6,cl⟩:bI)).low (dD (⟨cj,b6,cl⟩:bI)).high ω;have l5:=sq aJ (dD (⟨cj,b6,cl⟩:bI)).low (dD (⟨cj,b6,cl⟩:bI)).high ω
 try simp only[go_sem]
 repeat'((first|refine af.intro (by first|assumption|(apply sD<;>exact aT)|(apply nQ<;>exact aT)) ?_|refine av.intro (by first|assumption|apply Hy) ?_|apply bo)<;>simp only[go_sem,I])
 rw[ah];simp only[go_sem,bz];by_cases jt:b6=[]
 ·have a4:=bn (p:=b6≠[]) (λh=>h jt);have cM:iD (⟨bb,⟨bh,bj,ba,a8⟩,aN,aJ,aO,bd,a_,a9,bk⟩:aD) (⟨cj,b6,cl⟩:bI):=by unfold iD;rw[bY];simp only[jt,hS,Bool.true_or,asg]
  have a5:ga (⟨bb,⟨bh,bj,ba,a8⟩,aN,aJ,aO,bd,a_,a9,bk⟩:aD) (⟨cj,b6,cl⟩:bI)=jY (ny (k4 (⟨bb,⟨bh,bj,ba,a8⟩,aN,aJ,aO,bd,a_,a9,bk⟩:aD) (⟨cj,b6,cl⟩:bI)) (⟨cj,b6,cl⟩:bI)):=by unfold ga;rw[cM];rfl
  have bD:k4 (⟨bb,⟨bh,bj,ba,a8⟩,aN,aJ,aO,bd,a_,a9,bk⟩:aD) (⟨cj,b6,cl⟩:bI)=(⟨bb,⟨bh,bj,ba,a8⟩,aN,aJ,aO,bd,a_,a9,bk⟩:aD):=by unfold k4;exact if_pos jt
  rw[bD]at a5;clear ah bY FC O2 O3 O4 oF sn l5
  try simp only[go_sem,a4]
  repeat'(first|((first|refine af.intro (by apply E8) ?_|refine bX (λh=>?_) (λh=>?_))<;>simp only[go_sem,I])|refine⟨ae7,?_⟩|fail)
  all_goals(rw[a5,cM];subst h;simp only[jY,ny,if_true,ai_,if_false];try simp[outOA])
 have a4:=br (p:=b6≠[]) jt;by_cases nY:gy aN [dD (⟨cj,b6,cl⟩:bI)]=[dD (⟨cj,b6,cl⟩:bI)]
 ·have cM:iD (⟨bb,⟨bh,bj,ba,a8⟩,aN,aJ,aO,bd,a_,a9,bk⟩:aD) (⟨cj,b6,cl⟩:bI):=by unfold iD;rw[bY];simp only[nY,hS,Bool.or_true,asg]
  have a5:ga (⟨bb,⟨bh,bj,ba,a8⟩,aN,aJ,aO,bd,a_,a9,bk⟩:aD) (⟨cj,b6,cl⟩:bI)=jY (ny (k4 (⟨bb,⟨bh,bj,ba,a8⟩,aN,aJ,aO,bd,a_,a9,bk⟩:aD) (⟨cj,b6,cl⟩:bI)) (⟨cj,b6,cl⟩:bI)):=by unfold ga;rw[cM];rfl
  have bD:k4 (⟨bb,⟨bh,bj,ba,a8⟩,aN,aJ,aO,bd,a_,a9,bk⟩:aD) (⟨cj,b6,cl⟩:bI)={(⟨bb,⟨bh,bj,ba,a8⟩,aN,aJ,aO,bd,a_,a9,bk⟩:aD)with bC:=nw aN (dD (⟨cj,b6,cl⟩:bI)),bc:=f' aJ (dD (⟨cj,b6,cl⟩:bI)),b0:=dJ a9 (dD (⟨cj,b6,cl⟩:bI)).high}:=by unfold k4;exact if_neg jt
  rw[bD]at a5;rw[nY]at oF;clear ah bY FC O2 O3 O4;have bP:decide (((1:Nat):Int)≠1)=false:=by decide
  try simp only[go_sem,a4,e0,g1]
  repeat'(first|((first|refine af.intro (by first|assumption|apply KW|apply E8) ?_|refine av.i ?_|with_reducible apply mr|refine a7 O1 χ ψ ?_|refine bX (λh=>?_) (λh=>?_))<;>simp only[go_sem,I,bP,ab.enc,fe,asi,e0,g1,gM])|refine⟨ae7,?_⟩|fail)
  all_goals(rw[a5,cM];subst h;simp only[jY,ny,if_true,ai_,if_false,dJ];try rfl;try simp[outOA])
 have cM:iD (⟨bb,⟨bh,bj,ba,a8⟩,aN,aJ,aO,bd,a_,a9,bk⟩:aD) (⟨cj,b6,cl⟩:bI)=false:=by unfold iD;rw[bY];simp only[bn jt,bn nY,Bool.or_self,Bool.and_false]
 have a5:ga (⟨bb,⟨bh,bj,ba,a8⟩,aN,aJ,aO,bd,a_,a9,bk⟩:aD) (⟨cj,b6,cl⟩:bI)=(⟨bb,⟨bh,bj,ba,a8⟩,aN,aJ,aO,bd,a_,a9,bk⟩:aD):=by unfold ga;rw[cM];rfl
 by_cases hl:(gy aN [dD (⟨cj,b6,cl⟩:bI)]).length=1
 ·obtain⟨y,hy⟩:=List.length_eq_one_iff.1 hl;have bP:decide (((1:Nat):Int)≠1)=false:=by decide
  rw[hy]at oF nY;have hne:¬(y.low=(dD (⟨cj,b6,cl⟩:bI)).low/\y.high=(dD (⟨cj,b6,cl⟩:bI)).high):=λg=>nY (by rw[show y=dD (⟨cj,b6,cl⟩:bI)from by cases y;cases g;simp_all]);have di:(decide (y.low=(dD (⟨cj,b6,cl⟩:bI)).low)&&decide (y.high=(dD (⟨cj,b6,cl⟩:bI)).high))=false:=by
   rw[Bool.and_eq_false_iff,eC,eC];exact Classical.not_and_iff_not_or_not.1 hne
  clear ah bY FC O2 O3 O4
  try simp only[go_sem,a4,e0,g1]
  repeat'(first|((first|refine af.intro (by first|assumption|apply KW) ?_|refine av.i ?_|with_reducible apply mr|refine a7 O1 χ ψ ?_)<;>simp only[go_sem,I,bP,di,ab.enc,fe,asi,e0,g1,gM,b7])|refine⟨ae7,?_⟩|fail)
  all_goals(rw[a5,cM];try simp[outOA,fb])
 have bP:=br (p:=((gy aN [dD (⟨cj,b6,cl⟩:bI)]).length:Int)≠1) ω;clear ah bY FC O2 O3 O4
 try simp only[go_sem,a4]
 repeat'(first|((first|refine af.intro (by first|assumption|apply KW) ?_|refine av.i ?_|with_reducible apply lv|refine a7 O1 χ ψ ?_)<;>simp only[go_sem,I,bP])|refine⟨ae7,?_⟩|fail)
 all_goals(rw[a5,cM];try simp[outOA,fb])
def U_:List (List bK):=cB 12 [511640,511638,511753,511735,511681,511515,511029,503010,448335,521599,478953,354294]
def U':List (List bK):=cB 7 [2069,2067,2182,2164,2110,1944,1458]
def Va:List (List bK):=cB 9 [19322,19320,19651,19669,19606,19444,18954,17496,13122]
attribute [go_sem] U_ U' Va
def j5(s:aD)(p:bI):Bool:=dU s&&decide (s.bp<=2)&&jX s p
def ia(hj c:List ab):List ab:=c.foldl nw hj
theorem O5(hj c:List ab)(i:Nat)(h:i<c.length):ia hj (c.take (i+1))=nw (ia hj (c.take i)) c[i]:=x4 nw hj c i h
theorem GZ:∀(c hj:List ab),cN hj->cN (ia hj c)/\(ia hj c).length<=hj.length+c.length/\∀y∈ia hj c,∃x∈hj,x.low<=y.low/\y.high<=x.high
 |[],hj,h=>⟨h,by simp[ia],λy hy=>⟨y,hy,by omega,by omega⟩⟩
 |r::c,hj,h=>by
  obtain⟨b5,b8,dI⟩:=SV (r:=r) h;obtain⟨dh,bO,cz⟩:=GZ c (nw hj r) b5;refine⟨dh,by have e:ia hj (r::c)=ia (nw hj r) c:=rfl;rw[e,e0];omega,λy hy=>?_⟩;obtain⟨x,hx,zG⟩:=cz y hy;obtain⟨z,hz,mT⟩:=dI x hx;exact⟨z,hz,by omega,by omega⟩
def fC(s:aD)(p:bI):aD:=if p.data=[]then s else {s with bc:=ia s.bc (gy s.bc [dD p]),bJ:=eD s.bJ (gy s.bc [dD p])}
def e_(f:Int)(s:aD)(p:bI):aD:=if(p.aS&&decide (s.aS=2))=true then {s with aS:=f}else s
def qZ(r:dk)(s:aD):aD:={s with aB:=k5 r (jc s.bJ 0)}
def iw(s:aD)(p:bI):aD:=if j5 s p then jY (qZ s.aB (e_ 3 (fC s p) p))else s
theorem aeE(s:aD)(p:bI):(bif bif !dU s then true else decide (2<s.bp)then true else !jX s p)=!j5 s p:=by
 have e:decide (2<s.bp)=!decide (s.bp<=2):=by by_cases h:s.bp<=2<;>simp[h]<;>omega
 simp only[j5,e];cases dU s<;>cases decide (s.bp<=2)<;>cases jX s p<;>rfl
theorem O6{s:aD}(h:dU s):cN s.bC/\cN s.bc/\cN s.bJ:=by
 simp only[dU,lK,bm,ed]at h;exact⟨h.2.1,h.2.2.1,h.2.2.2.1⟩
theorem apV(bb bh bj ba:Int)(a8:List Int)(aN aJ aO:List ab)(bd a_ a9 bk cj:Int)(b6:List UInt8)(cl:Bool)(hc:aN.length+aJ.length+aO.length<=262144)(hr:a8.length<=8388608)(_:b6.length<=1048576):aM 95 [.agg [.i bb,.i bh,.i bj,.i ba,.sl 1 (a8.map bg),.azA aN,.azA aJ,.azA aO,.i bd,.i a_,.i a9,.i bk],.agg [.i cj,.str b6,.bool cl]] [.agg (aD.enc (iw (⟨bb,⟨bh,bj,ba,a8⟩,aN,aJ,aO,bd,a_,a9,bk⟩:aD) (⟨cj,b6,cl⟩:bI)))]:=by
 refine aW 81 func95 call95 [.cell 4 65] ?_;intro _;have ah:=aeE (⟨bb,⟨bh,bj,ba,a8⟩,aN,aJ,aO,bd,a_,a9,bk⟩:aD) (⟨cj,b6,cl⟩:bI);cases bY:j5 (⟨bb,⟨bh,bj,ba,a8⟩,aN,aJ,aO,bd,a_,a9,bk⟩:aD) (⟨cj,b6,cl⟩:bI)
 ·rw[bY]at ah
  try simp only[go_sem]
  repeat'((first|refine af.intro (by first|(apply sD<;>exact aT)|(apply nQ<;>exact aT)) ?_|refine av.intro (by apply Hy) ?_|apply bo)<;>simp only[go_sem,I])
  rw[ah];simp only[go_sem,b7,I];simp[iw,bY]
 have hw:=bY;simp only[j5,bm,bH,ed]at hw;have BN:=O6 hw.1;simp only at BN;rw[bY]at ah;have a5:iw (⟨bb,⟨bh,bj,ba,a8⟩,aN,aJ,aO,bd,a_,a9,bk⟩:aD) (⟨cj,b6,cl⟩:bI)=jY (qZ (⟨bb,⟨bh,bj,ba,a8⟩,aN,aJ,aO,bd,a_,a9,bk⟩:aD).aB (e_ 3 (fC (⟨bb,⟨bh,bj,ba,a8⟩,aN,aJ,aO,bd,a_,a9,bk⟩:aD) (⟨cj,b6,cl⟩:bI)) (⟨cj,b6,cl⟩:bI))):=by unfold iw;rw[bY];rfl
 have oF:=UK aJ [dD (⟨cj,b6,cl⟩:bI)] ω ξ;have Vb:=J1 aJ (dD (⟨cj,b6,cl⟩:bI))
 try simp only[go_sem]
 repeat'((first|refine af.intro (by first|assumption|(apply sD<;>exact aT)|(apply nQ<;>exact aT)) ?_|refine av.intro (by first|assumption|apply Hy) ?_|apply bo)<;>simp only[go_sem,I])
 rw[ah];simp only[go_sem,bz];by_cases jt:b6=[]
 ·have a4:=bn (p:=b6≠[]) (λh=>h jt);have bD:fC (⟨bb,⟨bh,bj,ba,a8⟩,aN,aJ,aO,bd,a_,a9,bk⟩:aD) (⟨cj,b6,cl⟩:bI)=(⟨bb,⟨bh,bj,ba,a8⟩,aN,aJ,aO,bd,a_,a9,bk⟩:aD):=by unfold fC;exact if_pos jt
  rw[bD]at a5;clear ah bY hw
  try simp only[go_sem,a4]
  repeat'(first|((first|refine af.intro (by first|assumption|apply E8) ?_|refine av.intro (by first|assumption|apply BK|(apply ad4<;>exact aT)) ?_|apply bo|refine a7 U_ χ ψ ?_|refine bX (λh=>?_) (λh=>?_))<;>simp only[go_sem,I])|refine⟨ae7,?_⟩|fail)
  all_goals(simp only[c2]at h;rw[a5];simp only[jY,qZ,e_,h,if_true,ai_,if_false];try rfl;try simp[outOA])
 have a4:=br (p:=b6≠[]) jt;clear ah bY hw
 try simp only[go_sem,a4]
 repeat'((first|refine af.i ?_|refine av.intro (by first|assumption|apply KW) ?_|refine a7 U' χ ψ ?_)<;>simp only[go_sem,I])
 have bD:fC (⟨bb,⟨bh,bj,ba,a8⟩,aN,aJ,aO,bd,a_,a9,bk⟩:aD) (⟨cj,b6,cl⟩:bI)={(⟨bb,⟨bh,bj,ba,a8⟩,aN,aJ,aO,bd,a_,a9,bk⟩:aD)with bc:=ia aJ (gy aJ [dD (⟨cj,b6,cl⟩:bI)]),bJ:=eD aO (gy aJ [dD (⟨cj,b6,cl⟩:bI)])}:=by unfold fC;exact if_neg jt
 rw[bD]at a5;generalize hcc:gy aJ [dD (⟨cj,b6,cl⟩:bI)]=c at *;refine cb.intro (λi:Nat=>⟨(.an::.an::.ptr 0 0 0::.ptr 1 0 0::.ptr 2 0 0::.ptr 7 0 0::.sl 8 0 c.length::.i i::aA 73 []),[.box [.i bb,.i bh,.i bj,.i ba,.d (.sl 1 (a8.map bg)),.d (.azA aN),.d (.azA aJ),.d (.azA aO),.i bd,.i a_,.i a9,.i bk],.box [.i cj,.d (.str b6),.d (.bool cl)],.box aD.ca,.azu a8,.azv aN,.azv (ia aJ (c.take i)),.azv (eD aO (c.take i)),.box [.i bb,.i bh,.i bj,.i ba,.sl 3 0 a8.length,.sl 4 0 aN.length,.sl 5 0 (ia aJ (c.take i)).length,.sl 6 0 (eD aO (c.take i)).length,.i bd,.i a_,.i a9,.i bk],.azv c]⟩)
  (λi=>c.length-i) (λi=>i<=c.length) 0 [0,1,2,3,4,5,6,7,9] ω ?_ ?_
 ·simp only[go_sem];simp[ia,eD]
 intro i hi;have bG:=(GZ (c.take i) aJ BN.2.1).2.1;have hA:=qq (c.take i) aO;have cR:(c.take i).length=i:=by simp;omega
 by_cases h1:i<c.length
 ·have aq:=aro (i:=i) (n:=c.length);have az:=b_ ab.enc c i h1;have jx:=d8 (i:=i) (m:=524288) ω (by simp[maxLen]);have zb:=O5 aJ c i h1;have lV:=Au aO c i h1;generalize Ho:ia aJ (c.take i)=hj at *;generalize yf:eD aO (c.take i)=KX at *;have sn:=UJ hj c[i].low c[i].high ω
  try simp only[go_sem,aq]
  repeat'(first|((first|refine af.i ?_|refine av.intro (by first|assumption|(apply sq<;>exact aT)) ?_|refine a7 Va χ ψ ?_)<;>simp only[go_sem,I,aF,az,ab.enc])|refine⟨ae7,?_⟩|fail)
  refine bt.intro (i+1) [0,1,2,3,4,9,10,7,8] ω ω ?_;simp only[go_sem,jx,zb,lV];simp
 obtain⟨aq,rfl⟩:=arn (i:=i) (n:=c.length);rw[da]at bG hA
 try simp only[go_sem,aq,da]
 repeat'(first|((first|refine af.intro (by first|assumption|apply E8) ?_|refine av.intro (by first|assumption|apply BK|(apply ad4<;>exact aT)) ?_|apply bo|refine a7 U_ χ ψ ?_|refine bX (λh=>?_) (λh=>?_))<;>simp only[go_sem,I])|refine⟨ae7,?_⟩|fail)
 all_goals(simp only[c2]at h;rw[a5];simp only[jY,qZ,e_,h,if_true,ai_,if_false];try rfl;try simp[outOA])
def jF(s:aD)(p:bI):aD:=if p.data=[]then s else {s with bc:=ia s.bc (gy s.bc [dD p]),bC:=eD s.bC (gy s.bc [dD p])}
def iI(s:aD)(p:bI):aD:=if j5 s p then jY (e_ 1 (jF s p) p)else s
theorem apX(bb bh bj ba:Int)(a8:List Int)(aN aJ aO:List ab)(bd a_ a9 bk cj:Int)(b6:List UInt8)(cl:Bool)(hc:aN.length+aJ.length+aO.length<=262144)(hr:a8.length<=8388608)(_:b6.length<=1048576):aM 99 [.agg [.i bb,.i bh,.i bj,.i ba,.sl 1 (a8.map bg),.azA aN,.azA aJ,.azA aO,.i bd,.i a_,.i a9,.i bk],.agg [.i cj,.str b6,.bool cl]] [.agg (aD.enc (iI (⟨bb,⟨bh,bj,ba,a8⟩,aN,aJ,aO,bd,a_,a9,bk⟩:aD) (⟨cj,b6,cl⟩:bI)))]:=by
 refine aW 68 func99 call99 [.cell 4 65] ?_;intro _;have ah:=aeE (⟨bb,⟨bh,bj,ba,a8⟩,aN,aJ,aO,bd,a_,a9,bk⟩:aD) (⟨cj,b6,cl⟩:bI);cases bY:j5 (⟨bb,⟨bh,bj,ba,a8⟩,aN,aJ,aO,bd,a_,a9,bk⟩:aD) (⟨cj,b6,cl⟩:bI)
 ·rw[bY]at ah
  try simp only[go_sem]
  repeat'((first|refine af.intro (by first|(apply sD<;>exact aT)|(apply nQ<;>exact aT)) ?_|refine av.intro (by apply Hy) ?_|apply bo)<;>simp only[go_sem,I])
  rw[ah];simp only[go_sem,b7,I];simp[iI,bY]
 have hw:=bY;simp only[j5,bm,bH,ed]at hw;have BN:=O6 hw.1;simp only at BN;rw[bY]at ah;have a5:iI (⟨bb,⟨bh,bj,ba,a8⟩,aN,aJ,aO,bd,a_,a9,bk⟩:aD) (⟨cj,b6,cl⟩:bI)=jY (e_ 1 (jF (⟨bb,⟨bh,bj,ba,a8⟩,aN,aJ,aO,bd,a_,a9,bk⟩:aD) (⟨cj,b6,cl⟩:bI)) (⟨cj,b6,cl⟩:bI)):=by unfold iI;rw[bY];rfl
 have oF:=UK aJ [dD (⟨cj,b6,cl⟩:bI)] ω ξ;have Vb:=J1 aJ (dD (⟨cj,b6,cl⟩:bI))
 try simp only[go_sem]
 repeat'((first|refine af.intro (by first|assumption|(apply sD<;>exact aT)|(apply nQ<;>exact aT)) ?_|refine av.intro (by first|assumption|apply Hy) ?_|apply bo)<;>simp only[go_sem,I])
 rw[ah];simp only[go_sem,bz];by_cases jt:b6=[]
 ·have a4:=bn (p:=b6≠[]) (λh=>h jt);have bD:jF (⟨bb,⟨bh,bj,ba,a8⟩,aN,aJ,aO,bd,a_,a9,bk⟩:aD) (⟨cj,b6,cl⟩:bI)=(⟨bb,⟨bh,bj,ba,a8⟩,aN,aJ,aO,bd,a_,a9,bk⟩:aD):=by unfold jF;exact if_pos jt
  rw[bD]at a5;clear ah bY hw
  try simp only[go_sem,a4]
  repeat'(first|((first|refine af.intro (by first|assumption|apply E8) ?_|refine av.i ?_|apply bo|refine bX (λh=>?_) (λh=>?_))<;>simp only[go_sem,I])|refine⟨ae7,?_⟩|fail)
  all_goals(simp only[c2]at h;rw[a5];simp only[jY,e_,h,if_true,ai_,if_false];try rfl;try simp[outOA])
 have a4:=br (p:=b6≠[]) jt;clear ah bY hw
 try simp only[go_sem,a4]
 repeat'((first|refine af.i ?_|refine av.intro (by first|assumption|apply KW) ?_|refine a7 U' χ ψ ?_)<;>simp only[go_sem,I])
 have bD:jF (⟨bb,⟨bh,bj,ba,a8⟩,aN,aJ,aO,bd,a_,a9,bk⟩:aD) (⟨cj,b6,cl⟩:bI)={(⟨bb,⟨bh,bj,ba,a8⟩,aN,aJ,aO,bd,a_,a9,bk⟩:aD)with bc:=ia aJ (gy aJ [dD (⟨cj,b6,cl⟩:bI)]),bC:=eD aN (gy aJ [dD (⟨cj,b6,cl⟩:bI)])}:=by unfold jF;exact if_neg jt
 rw[bD]at a5;generalize hcc:gy aJ [dD (⟨cj,b6,cl⟩:bI)]=c at *;refine cb.intro (λi:Nat=>⟨(.an::.an::.ptr 0 0 0::.ptr 1 0 0::.ptr 2 0 0::.ptr 7 0 0::.sl 8 0 c.length::.i i::aA 60 []),[.box [.i bb,.i bh,.i bj,.i ba,.d (.sl 1 (a8.map bg)),.d (.azA aN),.d (.azA aJ),.d (.azA aO),.i bd,.i a_,.i a9,.i bk],.box [.i cj,.d (.str b6),.d (.bool cl)],.box aD.ca,.azu a8,.azv (eD aN (c.take i)),.azv (ia aJ (c.take i)),.azv aO,.box [.i bb,.i bh,.i bj,.i ba,.sl 3 0 a8.length,.sl 4 0 (eD aN (c.take i)).length,.sl 5 0 (ia aJ (c.take i)).length,.sl 6 0 aO.length,.i bd,.i a_,.i a9,.i bk],.azv c]⟩)
  (λi=>c.length-i) (λi=>i<=c.length) 0 [0,1,2,3,4,5,6,7,9] ω ?_ ?_
 ·simp only[go_sem];simp[ia,eD]
 intro i hi;have bG:=(GZ (c.take i) aJ BN.2.1).2.1;have hA:=qq (c.take i) aN;have cR:(c.take i).length=i:=by simp;omega
 by_cases h1:i<c.length
 ·have aq:=aro (i:=i) (n:=c.length);have az:=b_ ab.enc c i h1;have jx:=d8 (i:=i) (m:=524288) ω (by simp[maxLen]);have zb:=O5 aJ c i h1;have lV:=Au aN c i h1;generalize Ho:ia aJ (c.take i)=hj at *;generalize yf:eD aN (c.take i)=KX at *;have sn:=UJ hj c[i].low c[i].high ω
  try simp only[go_sem,aq]
  repeat'(first|((first|refine af.i ?_|refine av.intro (by first|assumption|(apply sq<;>exact aT)) ?_|refine a7 Va χ ψ ?_)<;>simp only[go_sem,I,aF,az,ab.enc])|refine⟨ae7,?_⟩|fail)
  refine bt.intro (i+1) [0,1,2,3,10,9,6,7,8] ω ω ?_;simp only[go_sem,jx,zb,lV];simp
 obtain⟨aq,rfl⟩:=arn (i:=i) (n:=c.length);rw[da]at bG hA
 try simp only[go_sem,aq,da]
 repeat'(first|((first|refine af.intro (by first|assumption|apply E8) ?_|refine av.i ?_|apply bo|refine bX (λh=>?_) (λh=>?_))<;>simp only[go_sem,I])|refine⟨ae7,?_⟩|fail)
 all_goals(simp only[c2]at h;rw[a5];simp only[jY,e_,h,if_true,ai_,if_false];try rfl;try simp[outOA])
def aC(c:J)(id:Int):ae:=(bQ c.aa id).1
def mv(c:J)(id:Int):Bool:=hZ c&&(bQ c.aa id).2&&(aC c id).ft
theorem Lm(c:J)(id:Int):(bif bif !hZ c then true else !(bQ c.aa id).2 then true else !(aC c id).ft)=!mv c id:=by
 unfold mv;cases hZ c<;>cases(bQ c.aa id).2<;>cases(aC c id).ft<;>rfl
def fF(s:ae)(x:aD):ae:={s with ag:=x}
def my(c:J)(id:Int)(d:List UInt8):J:=if mv c id then {c with aa:=dv c.aa (fF (aC c id) (rA (aC c id).ag d))}else c
def H4(c:J)(id:Int)(d:List UInt8):Int:=if mv c id then FK (aC c id).ag d else 0
theorem afY(c:J)(id:Int)(d:List UInt8)(hz:gZ c)(hd:d.length<=1048576)(hw:gx (fF (aC c id) (rA (aC c id).ag d))):aM 225 [.agg (J.enc c),.one (.i id),.one (.str d)] [.one (.i (H4 c id d)),.agg (J.enc ((my c id d)))]:=by
 refine ayE 50 func225 call225 [.tmp 6,.cell 7 37] ?_;have lL:=lo hz;have a3:my c id d=if mv c id then {c with aa:=dv c.aa (fF (aC c id) (rA (aC c id).ag d))}else c:=rfl
 have bB:H4 c id d=if mv c id then FK (aC c id).ag d else 0:=rfl
 have bY:=Lm c id;obtain⟨dW,cT,dS,eW⟩:=qH hz.2.1 id;have cM:=pZ c id hz;rw[show(bQ c.aa id).1=aC c id from rfl]at dW cT dS eW cM;have hL:=oj c.aa (fF (aC c id) (rA (aC c id).ag d)) (by have:=hz.1;omega) hz.2.1 hw;generalize aC c id=s at *
 try simp only[go_sem]
 repeat'((first|refine af.aj (by first|assumption|(apply jd<;>exact aT)|(apply x8<;>exact aT)) ?_|refine av.j ?_|apply bo)<;>simp only[go_sem,I])
 rw[bY];cases hg:mv c id
 ·rw[hg]at a3 bB
  try simp only[go_sem,b7]
  repeat'(first|((first|refine af.j ?_|refine av.j ?_|refine a7 [[.post,.dL,.post],[.dL,.post,.post],[.pre,.pre,.post]] χ ψ ?_)<;>simp only[go_sem,I])|refine⟨ae7,?_⟩|fail)
  all_goals simp[a3,bB]
 rw[hg]at a3 bB
 try simp only[go_sem,I,bz]
 repeat'(first|((first|refine af.aj (by first|assumption|(apply afZ<;>exact aT)) ?_|refine av.j ?_|refine a7 [[.post,.dL,.post,.post],[.dL,.post,.dL,.post],[.pre,.dL,.post,.post],[.pre,.pre,.pre,.post]] χ ψ ?_)<;>simp only[go_sem,I,fF])|refine⟨ae7,?_⟩|fail)
 all_goals simp[a3,bB,fF]
def om(c:J)(s:ae):Bool:=!s.gu&&!jw c.bq s.id&&gL s
def hO(c:J)(s:ae):ae:=if om c s then {s with gu:=true}else s
def fI(c:J)(s:ae):J:=if om c s then(if la s.id then {c with dC:=jy c.dC}else {c with dB:=jy c.dB})else c
def eO(c:J)(s:ae):J:={fI c s with aa:=dv c.aa (hO c s)}
theorem Wp(c:J)(s:ae):(bif bif s.gu then true else jw c.bq s.id then true else !gL s)=!om c s:=by
 unfold om;cases s.gu<;>cases jw c.bq s.id<;>cases gL s<;>rfl
theorem H3{c:J}{s:ae}(h:om c s=false):eO c s={c with aa:=dv c.aa s}:=by unfold eO fI hO;rw[h];rfl
theorem P0{c:J}{s:ae}(h:om c s)(hu:la s.id):eO c s={c with dC:=jy c.dC,aa:=dv c.aa {s with gu:=true}}:=by unfold eO fI hO;rw[h,hu];rfl
theorem P1{c:J}{s:ae}(h:om c s)(hu:la s.id=false):eO c s={c with dB:=jy c.dB,aa:=dv c.aa {s with gu:=true}}:=by unfold eO fI hO;rw[h,hu];rfl
def Wn:List (List bK):=cB 22 [31381059608,31381059606,31381059600,31381059582,31381059528,31380272046,31380271560,31380270102,31380265728,31381049646,31381010280,31380892182,31380537888,31379465286,31376276640,31366710702,31338012888,31251919446,30993639120,30218798142,27894275208,20920706406]
def Lp:List (List bK):=cB 10 [57956,58804,58798,58780,58726,58927,58321,56862,52488,39366]
attribute [go_sem] Wn Lp
def hF(s:ae)(k:Int):ae:={s with ag:=DU s.ag k,i4:=true}
def zv(c:J)(id k:Int):Bool:=mv c id&&xj (aC c id).ag k
def mx(c:J)(id k:Int):J:=if zv c id k then eO c (hF (aC c id) k)else c
theorem afV(c:J)(id k:Int)(hz:gZ c)(hw:gx (hF (aC c id) k)):aM 229 [.agg (J.enc c),.one (.i id),.one (.i k)] [.agg (J.enc ((mx c id k))),.one (.bool (zv c id k))]:=by
 refine ayE 50 func229 call229 [.cell 6 37,.tmp 7] ?_;have lL:=lo hz;have mV:c.aa.length<=1000:=by have:=hz.1;omega
 have ng:=hz.2.1;have a3:mx c id k=if zv c id k then eO c (hF (aC c id) k)else c:=rfl
 have bB:zv c id k=(mv c id&&xj (aC c id).ag k):=rfl;have bY:=Lm c id;obtain⟨dW,cT,dS,eW⟩:=qH hz.2.1 id;have cM:=pZ c id hz;rw[show(bQ c.aa id).1=aC c id from rfl]at dW cT dS eW cM;generalize aC c id=s at *
 try simp only[go_sem]
 repeat'((first|refine af.aj (by first|assumption|(apply jd<;>exact aT)|(apply x8<;>exact aT)) ?_|refine av.j ?_|apply bo)<;>simp only[go_sem,I])
 rw[bY];cases hg:mv c id
 ·rw[hg,ap_]at bB;rw[bB]at a3
  try simp only[go_sem,I,b7]
  repeat'(first|((first|refine af.j ?_|refine av.j ?_)<;>simp only[go_sem,I,b7])|refine⟨ae7,?_⟩|fail)
  all_goals simp[a3,bB]
 rw[hg,af_]at bB
 try simp only[go_sem,I,bz]
 repeat'((first|refine af.aj (by first|assumption|(apply Wo<;>exact aT)) ?_|refine av.j ?_)<;>simp only[go_sem,I])
 cases hr:xj s.ag k
 ·rw[hr]at bB;rw[bB]at a3
  try simp only[go_sem,I,b7]
  repeat'(first|((first|refine af.j ?_|refine av.j ?_)<;>simp only[go_sem,I,b7])|refine⟨ae7,?_⟩|fail)
  all_goals simp[a3,bB]
 rw[hr]at bB;rw[bB]at a3
 try simp only[go_sem,I,bz]
 repeat'((first|refine af.j ?_|refine av.j ?_)<;>simp only[go_sem,I,bz])
 have FJ:=Wp c (hF s k);obtain⟨B,hv⟩:∃B,om c (hF s k)=B:=⟨_,rfl⟩;rw[hv]at FJ;simp only[hF]at FJ;have sy:=hw;obtain⟨eP,gl,ke,BQ⟩:=hw;have ke:∀fM∈((hF s k)).aU.bT.cq,fM.data.length<=1048576:=λfM hc=>by have:=ke fM hc;omega
 simp only[hF]at eP gl ke BQ;have afW:=oj (c).aa ((hF s k)) mV ng sy;have afX:=oj (c).aa {(hF s k)with gu:=true} mV ng sy;refine af.lp [6,7,8] (by simp only[i3,arE,am_,Nat.reduceBEq,Nat.reduceAdd,d4,eF];rfl) (gi (n:=15) (rs:=[]) func98 rfl call98 bE rfl rfl ?_);simp only[go_sem];refine af.lp [0,3] (by simp only[i3,arE,am_,Nat.reduceBEq,Nat.reduceAdd,d4,eF];rfl) (gi (n:=62) (rs:=[]) func165 rfl call165 bE rfl rfl ?_);simp only[go_sem]
 try simp only[go_sem,I,hF]
 repeat'((first|refine af.i ?_|refine av.intro (by first|assumption|apply FA|(apply PE<;>exact aT)) ?_|apply fY|refine a7 Wn χ ψ ?_)<;>simp only[go_sem,I])
 rw[FJ];cases B
 ·have ah:=H3 hv;simp only[go_sem,b7]
  try simp only[go_sem,I,hF]
  repeat'(first|((first|refine af.j ?_|refine av.j ?_|refine a7 Lp χ ψ ?_)<;>simp only[go_sem,I,hF])|refine⟨ae7,?_⟩|fail)
  rw[ah]at a3;simp[a3,bB,hF]
 try simp only[go_sem,bz]
 repeat'((first|refine af.intro (by first|assumption|apply AI) ?_|refine av.i ?_)<;>simp only[go_sem])
 cases kl:la ((hF s k)).id
 ·have ah:=P1 hv kl;simp only[hF]at kl
  try simp only[go_sem,kl]
  repeat'((first|refine af.intro (by first|assumption|apply Lq) ?_|refine av.i ?_)<;>simp only[go_sem])
  try simp only[go_sem,I,hF]
  repeat'(first|((first|refine af.j ?_|refine av.j ?_|refine a7 Lp χ ψ ?_)<;>simp only[go_sem,I,hF])|refine⟨ae7,?_⟩|fail)
  rw[ah]at a3;simp[a3,bB,hF]
 have ah:=P0 hv kl;simp only[hF]at kl
 try simp only[go_sem,kl]
 repeat'((first|refine af.intro (by first|assumption|apply Lq) ?_|refine av.i ?_)<;>simp only[go_sem])
 try simp only[go_sem,I,hF]
 repeat'(first|((first|refine af.j ?_|refine av.j ?_|refine a7 Lp χ ψ ?_)<;>simp only[go_sem,I,hF])|refine⟨ae7,?_⟩|fail)
 rw[ah]at a3;simp[a3,bB,hF]
def ll(n:Int):Int:=if n<0\/4611686018427387903<n then 0 else if n<64 then 1 else if n<16384 then 2 else if n<1073741824 then 4 else 8
theorem adw(n:Int):aM 325 [.one (.i n)] [.one (.i (ll n))]:=by
 refine aW 19 func325 call325 [.tmp 2] ?_;intro _
 try simp only[go_sem]
 repeat'((first|apply bo|refine bX (λh=>?_) (λh=>?_))<;>simp only[go_sem])
 all_goals(simp only[bH,eC,d1,Bool.or_eq_true,auu]at *;first|(exfalso;omega)|(simp[ll, *];try omega))
theorem adx(n:Int):aM 338 [.one (.i n)] [.one (.str [p4 (bitI .and .i64 n 255)])]:=by
 refine aW 6 func338 call338 [.tmp 2] ?_;intro _;simp only[go_sem];refine af.intro (ady _ (Ic n)) ?_;simp only[go_sem]
def B8(n:Int)(k i:Nat):Int:=
 let b:=bitI .and .i64 (n.fdiv (2^min (8 * i) 64)) 255
 if i+1=k then(if k=2 then bitI .or .i64 b 64 else if k=4 then bitI .or .i64 b 128 else if k=8 then bitI .or .i64 b 192 else b)else b
def yp(n:Int)(k j:Nat):List UInt8:=(pv j).map λx=>p4 (bitI .and .i64 (B8 n k (k-1-x)) 255)
def fv(n:Int):List UInt8:=yp n (ll n).toNat (ll n).toNat
theorem apu(n:Int)(k j:Nat):yp n k (j+1)=yp n k j++[p4 (bitI .and .i64 (B8 n k (k-1-j)) 255)]:=by simp[yp,atq]
theorem Ut(n:Int):ll n=0\/ll n=1\/ll n=2\/ll n=4\/ll n=8:=by
 unfold ll
 repeat' split
 all_goals simp
theorem On(n:Int):((fv n).length:Int)=ll n:=by rcases Ut n with h|h|h|h|h<;>simp[fv,yp,h]
theorem xy(n:Int):(fv n).length<=8:=by have:=On n;rcases Ut n with h|h|h|h|h<;>omega
theorem apv(n:Int):decide (ll n=0)=decide (fv n=[]):=by
 have:=On n;by_cases h:ll n=0
 ·have:(fv n).length=0:=by omega
  simp[h,arN.1 this]
 have:fv n≠[]:=by intro e;rw[e]at this;simp at this;omega
 simp[h,this]
theorem apw(n:Int):aM 326 [.one (.i n)] [.one (.str (fv n))]:=by
 refine aW 42 func326 call326 [.tmp 2] ?_;intro _;obtain⟨k,hk⟩:∃k:Nat,ll n=(k:Int):=⟨(fv n).length,(On n).symm⟩;have hc:k=0\/k=1\/k=2\/k=4\/k=8:=by have:=Ut n;omega
 have ah:fv n=yp n k k:=by simp[fv,hk]
 have Am:i64.wrap ((k:Int)-1)=(k:Int)-1:=by rw[bw]<;>omega
 rw[ah]
 try simp only[go_sem]
 repeat'(refine af.intro (by apply adw) ?_<;>simp only[go_sem,hk,Am])
 refine cb.intro (λj:Nat=>⟨(.i n::.an::.an::.i (k:Int)::.d (.str (yp n k j))::.i ((k:Int)-1-(j:Int))::aA 36 []),[]⟩)
   (λj=>k-j) (λj=>j<=k) 0 [] ω ?_ ?_
 ·simp only[go_sem];simp[yp]
 intro j aI;by_cases h1:j<k
 ·have aq:=br (p:=0<=(k:Int)-1-(j:Int)) ω;have ak:i64.wrap (8 * ((k:Int)-1-(j:Int)))=8 * ((k:Int)-1-(j:Int)):=by rw[bw]<;>omega
  have ar:i64.wrap ((k:Int)-1-(j:Int)-1)=(k:Int)-1-((j+1:Nat):Int):=by rw[bw]<;>omega
  have a4:(8 * ((k:Int)-1-(j:Int))).toNat=8 * (k-1-j):=by omega
  have JF:shI .shr .i64 n (8 * ((k:Int)-1-(j:Int)))=some ((0:Int)<=8 * ((k:Int)-1-(j:Int)),.i (n.fdiv (2^min (8 * (k-1-j)) 64))):=by simp only[shI];rw[a4];rfl
  have hs:=apu n k j;have Q':(yp n k j).length=j:=by simp[yp]
  simp only[go_sem,aq,ak,JF];refine⟨by omega,?_⟩;simp only[go_sem,Am];by_cases apx:j=0
  ·subst apx;have aH:=br (p:=(k:Int)-1-((0:Nat):Int)=(k:Int)-1) ω;have pS:k-1+1=k:=by omega
   have hq:B8 n k (k-1-0)=(if k=2 then bitI .or .i64 (bitI .and .i64 (n.fdiv (2^min (8 * (k-1-0)) 64)) 255) 64 else if k=4 then bitI .or .i64 (bitI .and .i64 (n.fdiv (2^min (8 * (k-1-0)) 64)) 255) 128 else if k=8 then bitI .or .i64 (bitI .and .i64 (n.fdiv (2^min (8 * (k-1-0)) 64)) 255) 192 else bitI .and .i64 (n.fdiv (2^min (8 * (k-1-0)) 64)) 255):=by
    unfold B8;rw[if_pos (show k-1-0+1=k by omega)]
   rw[hq]at hs
   try simp only[go_sem,aH]
   repeat'(first|((first|refine af.intro (by apply adx) ?_|refine bX (λh=>?_) (λh=>?_))<;>simp only[go_sem,ar])|refine⟨ae7,?_⟩|fail)
   all_goals(simp only[bH,eC]at *;refine bt.intro 1 [] ω ω ?_;simp only[go_sem,hs];first|rw[if_pos (show k=2 by omega)]|rw[if_neg (show ¬k=2 by omega),if_pos (show k=4 by omega)]|rw[if_neg (show ¬k=2 by omega),if_neg (show ¬k=4 by omega),if_pos (show k=8 by omega)]|rw[if_neg (show ¬k=2 by omega),if_neg (show ¬k=4 by omega),if_neg (show ¬k=8 by omega)])
   all_goals simp
  have aH:=bn (p:=(k:Int)-1-(j:Int)=(k:Int)-1) ω;have hq:B8 n k (k-1-j)=bitI .and .i64 (n.fdiv (2^min (8 * (k-1-j)) 64)) 255:=by
   unfold B8;rw[if_neg (show ¬k-1-j+1=k by omega)]
  rw[hq]at hs
  try simp only[go_sem,aH]
  repeat'(first|(refine af.intro (by apply adx) ?_<;>simp only[go_sem,ar])|refine⟨ae7,?_⟩|fail)
  all_goals(refine bt.intro (j+1) [] ω ω ?_;simp only[go_sem,hs])
  all_goals simp
 have aq:=bn (p:=0<=(k:Int)-1-(j:Int)) ω;obtain rfl:j=k:=by omega
 try simp only[go_sem,aq]
 all_goals simp
def pC(l:List Int):List UInt8:=if l.any (λn=>decide (ll n=0))then []else l.flatMap fv
theorem Me{α β:Type}(f:α->List β)(l:List α)(i:Nat)(h:i<l.length):(l.take (i+1)).flatMap f=(l.take i).flatMap f++f l[i]:=by
 rw[gO,cy h,ash];simp
theorem IG{α β:Type}(f:α->List β)(b:Nat):∀(l:List α),(∀x∈l,(f x).length<=b)->(l.flatMap f).length<=b * l.length
 |[],_=>by simp
 |x::l,h=>by
  have h1:=IG f b l (λy hy=>h y (atb _ hy));have h2:=h x ξ;rw[arM,eh,e0,auc];omega
theorem Ga(l:List Int):(pC l).length<=8 * l.length:=by
 unfold pC;split
 ·simp
 exact IG fv 8 l λn _=>xy n
theorem X5{α:Type}(p:α->Bool)(xs:List α)(i:Nat)(h:i<xs.length)(h2:p xs[i]):xs.any p:=List.any_eq_true.2 ⟨_,eK h,h2⟩
theorem X6{α:Type}(p:α->Bool)(xs:List α)(i:Nat)(h:i<xs.length)(h1:(xs.take i).any p=false)(h2:p xs[i]=false):(xs.take (i+1)).any p=false:=by
 rw[gO,cy h,aAt,h1];simp[h2]
theorem A4(l:List Int)(hl:l.length<=100000):aM 299 [.one (.sl 1 (l.map bg))] [.one (.str (pC l))]:=by
 refine aW 25 func299 call299 [.tmp 2] ?_;intro ok;have hm:=gw ok;clear ok;simp only[go_sem];refine cb.intro (λi:Nat=>⟨(.d (.sl 1 (l.map bg))::.an::.an::.d (.str ((l.take i).flatMap fv))::.i i::aA 20 []),[]⟩)
   (λi=>l.length-i) (λi=>i<=l.length/\(l.take i).any (λn=>decide (ll n=0))=false) 0 [] ⟨by omega,by simp⟩ ?_ ?_
 ·simp only[go_sem];simp
 rintro i ⟨hi,he⟩;by_cases h1:i<l.length
 ·have aq:=aro (i:=i) (n:=l.length);have az:=b_ bg l i h1;have hw:=d8 h1 hm;have hs:=Me fv l i h1;have hb:=IG fv 8 (l.take i) λn _=>xy n;have cR:(l.take i).length=i:=by simp;omega
  rw[cR]at hb;have nd:=xy l[i]
  try simp only[go_sem,I,aF,az,bg,aq]
  repeat'(first|((first|refine af.intro (by first|apply adw|apply apw) ?_|refine bX (λh=>?_) (λh=>?_))<;>simp only[go_sem,I,aF,az,bg])|refine⟨ae7,?_⟩|fail)
  ·have:=X5 (λn=>decide (ll n=0)) l i h1 h;simp[pC,this]
  refine bt.intro (i+1) [] ⟨by omega,X6 _ l i h1 he h⟩ ω ?_;simp only[go_sem,hw,hs];try simp
 obtain⟨aq,rfl⟩:=arn (i:=i) (n:=l.length);rw[da]at *
 try simp only[go_sem,I,aq]
 all_goals simp[pC,he]
def X1:List (List bK):=cB 12 [504833,504844,504838,505183,505129,504967,504468,503010,528160,515038,472392,354294]
def X2:List (List bK):=cB 15 [13630481,13630479,13630513,13630495,13630801,13630639,13639954,13638496,13634122,13620636,13581270,14260333,13906039,12754584,9565938]
attribute [go_sem] X1 X2
def IE(f:al):List UInt8:=
 if f.aY=4 then pC [4,f.ax,f.cS,f.bf]
 else if f.aY=5 then pC [5,f.ax,f.cS]
 else if f.aY=8 then
  (if f.aP=0 then pC [if f.aS then 11 else 10,f.ax,(f.data.length:Int)]++f.data else pC [if f.aS then 15 else 14,f.ax,f.aP,(f.data.length:Int)]++f.data)
 else if f.aY=16\/f.aY=20 then pC [f.aY,f.aX]
 else if f.aY=17\/f.aY=21 then pC [f.aY,f.ax,f.aX]
 else pC [if f.fG then i64.wrap (f.aY+1)else f.aY,f.aX]
def eS(f:al):List UInt8:=if eu f then IE f else []
theorem ah7{f:al}(h:eu f):f.data.length<=400:=by
 simp only[eu,zM,bm,ab_,eC]at h;omega
theorem Q7(f:al):(eS f).length<=500:=by
 unfold eS;split
 ·rename_i h;have hd:=ah7 h;unfold IE
  repeat' split
  all_goals(try rw[eh])
  all_goals(first|exact arP (Ga _) ξ|exact arP (Nat.add_le_add (Ga _) (fH _)) (by simp;omega))
 simp
theorem X3(e6 eV fp:Int)(e2:List UInt8)(fW:Bool)(fN fK f0:Int)(gb:Bool)(hd:e2.length<=1048576):aM 260 [.agg [.i e6,.i eV,.i fp,.str e2,.bool fW,.i fN,.i fK,.i f0,.bool gb]] [.one (.str (eS (⟨e6,eV,fp,e2,fW,fN,fK,f0,gb⟩:al)))]:=by
 refine aW 93 func260 call260 [.tmp 2] ?_;intro _;cases bG:eu (⟨e6,eV,fp,e2,fW,fN,fK,f0,gb⟩:al)
 ·try simp only[go_sem]
  repeat'(refine af.intro (by apply DX) ?_<;>simp only[go_sem,bG])
  all_goals simp[eS,bG]
 have ah:eS (⟨e6,eV,fp,e2,fW,fN,fK,f0,gb⟩:al)=IE (⟨e6,eV,fp,e2,fW,fN,fK,f0,gb⟩:al):=by unfold eS;rw[bG];rfl
 rw[ah];have jk:=Ga [10,eV,(e2.length:Int)];have lF:=Ga [11,eV,(e2.length:Int)];have A3:=Ga [14,eV,fp,(e2.length:Int)];have Md:=Ga [15,eV,fp,(e2.length:Int)];simp only[e0,g1]at jk lF A3 Md;have dh:=A4 [4,eV,fN,f0] ξ;have bO:=A4 [5,eV,fN] ξ;have cz:=A4 [10,eV,(e2.length:Int)] ξ;have df:=A4 [11,eV,(e2.length:Int)] ξ;have h8:=A4 [14,eV,fp,(e2.length:Int)] ξ;have oW:=A4 [15,eV,fp,(e2.length:Int)] ξ;have IF:=A4 [e6,fK] ξ;have Q8:=A4 [e6,eV,fK] ξ;have X4:=A4 [i64.wrap (e6+1),fK] ξ;simp only[fe,asi,bg]at dh bO cz df h8 oW IF Q8 X4;have eP:i64.wrap (10+1)=11:=by decide
 have gl:i64.wrap (10+4)=14:=by decide
 have ke:i64.wrap (11+4)=15:=by decide
 try simp only[go_sem]
 repeat'(first|((first|refine af.intro (by first|assumption|apply DX) ?_|refine av.i ?_|refine a7 X1 χ ψ ?_|refine a7 X2 χ ψ ?_|refine bX (λh=>?_) (λh=>?_))<;>simp only[go_sem,bG,eP,gl,ke])|refine⟨ae7,?_⟩|fail)
 all_goals(clear ah bG dh bO cz df h8 oW IF Q8 X4 jk lF A3 Md eP gl ke;simp only[bH,eC]at *;first|(exfalso;omega)|(simp[IE, *];done))
theorem QR(e6 eV fp:Int)(e2:List UInt8)(fW:Bool)(fN fK f0:Int)(gb:Bool)(hd:e2.length<=1048576):aM 200 [.agg [.i e6,.i eV,.i fp,.str e2,.bool fW,.i fN,.i fK,.i f0,.bool gb]] [.one (.i (((eS (⟨e6,eV,fp,e2,fW,fN,fK,f0,gb⟩:al)).length:Int)))]:=by
 refine aW 6 func200 call200 [.tmp 2] ?_;intro _;have:=Q7 (⟨e6,eV,fp,e2,fW,fN,fK,f0,gb⟩:al)
 try simp only[go_sem]
 repeat'(refine af.intro (by(apply X3<;>exact aT)) ?_<;>simp only[go_sem])
 all_goals simp
def xv(l:List al):List UInt8:=if l.any (λf=>decide (eS f=[]))then []else if 400<(l.flatMap eS).length then []else l.flatMap eS
theorem ahi(l:List al)(hl:l.length<=10000)(hd:∀f∈l,f.data.length<=1048576):aM 203 [.one (.azE l)] [.one (.str (xv l))]:=by
 refine aW 26 func203 call203 [.tmp 2] ?_;intro ok;have hm:=gw ok;clear ok;simp only[go_sem];refine cb.intro (λi:Nat=>⟨(.d (.azE l)::.an::.an::.d (.str ((l.take i).flatMap eS))::.i i::aA 21 []),[]⟩)
   (λi=>l.length-i) (λi=>i<=l.length/\(l.take i).any (λf=>decide (eS f=[]))=false) 0 [] ⟨by omega,by simp⟩ ?_ ?_
 ·simp only[go_sem];simp
 rintro i ⟨hi,he⟩;have hb:=IG eS 500 (l.take i) λn _=>Q7 n;have cR:(l.take i).length=i:=by simp;omega
 rw[cR]at hb;by_cases h1:i<l.length
 ·have aq:=aro (i:=i) (n:=l.length);have az:=b_ al.enc l i h1;have hw:=d8 h1 hm;have hs:=Me eS l i h1;have nd:=Q7 l[i];have bG:=X3 l[i].aY l[i].ax l[i].aP l[i].data l[i].aS l[i].cS l[i].aX l[i].bf l[i].fG (hd _ (eK h1));change PureCall _ _ _ [.one (.str (eS l[i]))]at bG
  try simp only[go_sem,I,aF,az,al.enc,aq]
  repeat'(first|((first|refine af.i ?_|refine av.i ?_|refine bX (λh=>?_) (λh=>?_))<;>simp only[go_sem])|refine⟨ae7,?_⟩|fail)
  ·have:=X5 (λf=>decide (eS f=[])) l i h1 h;simp[xv,this]
  refine bt.intro (i+1) [] ⟨by omega,X6 _ l i h1 he h⟩ ω ?_;simp only[go_sem,hw,hs];try simp
 obtain⟨aq,rfl⟩:=arn (i:=i) (n:=l.length);rw[da]at *
 try simp only[go_sem,I,aq]
 repeat'(refine bX (λh=>?_) (λh=>?_)<;>simp only[go_sem])
 ·have h0:=cY h;have:xv l=[]:=by unfold xv;rw[he];exact(if_neg ξ).trans (if_pos ω)
  simp[this]
 have h0:=de h;have:xv l=l.flatMap eS:=by unfold xv;rw[he];exact(if_neg ξ).trans (if_neg ω)
 simp[this]
def US:List (List bK):=cB 34 [16677181699666565,16677181699666567,16677181699666560,16677181699666542,16677181699666488,16677181699666326,16677181699665840,16677181699664382,16677181699640325,16677181699653447,16677181699607520,16677181699489422,16677181699135128,16677181698072246,16677181694883600,16677181685317662,16677181656619848,16677181570526406,16677181312246080,16677180537405102,16368754698691713,16368761672260515,16368737264769708,16368674502650490,16368486216292836,16666588848656331,16675909023360204,16670825291703546,16654726808124129,16608973223214207,16471712468484441,16059508303382622,14824161510814728,11118121133111046]
def OR:List (List bK):=cB 19 [1162251662,1162251664,1162251657,1162251639,1162261183,1162261345,1162260778,1162259320,1162254946,1162241784,1162202418,1161552879,1161907173,1160667144,1157478498,1147912560,1119214746,1033121304,774840978]
def UT:List (List bK):=cB 10 [49244,49246,49239,49221,58765,58927,58360,56902,52528,39366]
attribute [go_sem] US OR UT
theorem OH{α β:Type}(f:β->α->β)(b:β)(l:List α)(i:Nat)(h:i<l.length):(l.take (i+1)).foldl f b=f ((l.take i).foldl f b) l[i]:=by
 rw[gO,cy h,arD];rfl
def pP(l:List ch)(i:Nat):Bool:=B4 (λc=>c.id) (λc=>bN c.id&&mJ c.cI) l i
def mm(l:List ch):Bool:=l6 (pP l) l.length
theorem aep(l:List ch)(h:0<l.length):pP l 0=(bN l[0].id&&mJ l[0].cI):=AG _ _ _ h
theorem aeq(l:List ch)(j:Nat)(h:j+1<l.length):pP l (j+1)=(bN l[j+1].id&&mJ l[j+1].cI&&decide (l[j].id<l[j+1].id)):=zl _ _ _ _ h
theorem aer(l:List ch):aM 327 [.one (.azF l)] [.one (.bool (mm l))]:=by
 refine aW 44 func327 call327 [.tmp 2] ?_;intro ok;have hm:=gw ok;clear ok;simp only[go_sem];refine cb.intro (λi:Nat=>⟨(.d (.azF l)::.an::.an::.i i::aA 40 []),[]⟩)
  (λi=>l.length-i) (λi=>i<=l.length/\l6 (pP l) i=true) 0 [] ⟨by omega,by simp[l6]⟩ ?_ ?_
 ·simp only[go_sem];simp
 rintro i ⟨hi,he⟩;by_cases h1:i<l.length
 ·have aq:=aro (i:=i) (n:=l.length);have az:=b_ ch.enc l i h1;have hw:=d8 h1 hm;have hs:=Ft (pP l) i;have hf:=λh=>HM (pP l) (n:=l.length) h1 h
  cases i with
  |zero=>
   have hb:=aep l h1;have h2:decide ((0:Int)<((0:Nat):Int))=false:=by decide
   try simp only[go_sem,I,aq]
   repeat'(first|((first|refine av.intro (by first|apply ld|apply Kh) ?_|with_reducible apply lv|apply fY|refine a7 US χ ψ ?_|refine bX (λh=>?_) (λh=>?_))<;>simp only[go_sem,I,aF,az,ch.enc,h2])|refine⟨ae7,?_⟩|fail)
   ·have e:pP l 0=false:=by rw[hb];revert h;cases bN l[0].id<;>cases mJ l[0].cI<;>simp
    simp[mm,hf e]
   have e:pP l 0:=by rw[hb];revert h;cases bN l[0].id<;>cases mJ l[0].cI<;>simp
   refine bt.intro 1 [] ⟨by omega,by rw[hs,he,e];rfl⟩ ω ?_;simp only[go_sem,hw];try simp
  |succ j=>
   have hb:=aeq l j h1;have ie:=b_ ch.enc l j ω;have h2:=br (p:=(0:Int)<((j+1:Nat):Int)) ω;have hp:i64.wrap (((j+1:Nat):Int)-1)=(j:Int):=by simp only[maxLen]at hm;rw[bw]<;>omega
   try simp only[go_sem,I,aq]
   repeat'(first|((first|refine av.intro (by first|apply ld|apply Kh) ?_|apply fY|refine a7 US χ ψ ?_|refine bX (λh=>?_) (λh=>?_))<;>simp only[go_sem,I,aF,az,ie,ch.enc,h2,hp])|refine⟨ae7,?_⟩|fail)
   ·have e:pP l (j+1)=false:=by rw[hb];revert h;cases bN l[j+1].id<;>cases mJ l[j+1].cI<;>simp
    simp[mm,hf e]
   have e:pP l (j+1):=by rw[hb];revert h;cases bN l[j+1].id<;>cases mJ l[j+1].cI<;>simp
   refine bt.intro (j+1+1) [] ⟨by omega,by rw[hs,he,e];rfl⟩ ω ?_;simp only[go_sem,hw];try simp
 obtain⟨aq,rfl⟩:=arn (i:=i) (n:=l.length);simp only[go_sem,I,aq];simp[mm,he]
def z'(l:List Int)(dw:Int):Int:=match l.find? (λx=>decide (dw<x))with|some x=>x|none=>(match l with|[]=>-1|x::_=>x)
theorem aqe(l:List Int)(dw:Int):aM 301 [.one (.sl 1 (l.map bg)),.one (.i dw)] [.one (.i (z' l dw))]:=by
 refine aW 28 func301 call301 [.tmp 4] ?_;intro ok;have hm:=gw ok;clear ok;simp only[go_sem];refine cb.intro (λi:Nat=>⟨(.d (.sl 1 (l.map bg))::.i dw::aA 3 (.i i::aA 22 [])),[]⟩)
  (λi=>l.length-i) (λi=>i<=l.length/\(l.take i).any (λx=>decide (dw<x))=false) 0 [] ⟨by omega,by simp⟩ ?_ ?_
 ·simp only[go_sem];simp
 rintro i ⟨hi,he⟩;by_cases h1:i<l.length
 ·have aq:=aro (i:=i) (n:=l.length);have az:=b_ bg l i h1;have hw:=d8 h1 hm
  try simp only[go_sem,I,aF,az,bg,aq]
  repeat'(first|(refine bX (λh=>?_) (λh=>?_)<;>simp only[go_sem,I,aF,az,bg])|refine⟨ae7,?_⟩|fail)
  ·have:=Fk (λx=>decide (dw<x)) l i h1 he h;simp[z',this]
  refine bt.intro (i+1) [] ⟨by omega,zi _ l i h1 he h⟩ ω ?_;simp only[go_sem,hw];try simp
 obtain⟨aq,rfl⟩:=arn (i:=i) (n:=l.length);rw[da]at he;have hn:=HB _ l he
 cases l with
 |nil=>
  try simp only[go_sem]
  repeat'(refine bX (λh=>?_) (λh=>?_)<;>simp only[go_sem])
  all_goals first|(exfalso;simp at h;done)|simp[z']
 |cons x r=>
  have h2:=bn (p:=((r.length+1:Nat):Int)=0) ω
  try simp only[go_sem,I,e0,fe,bg]
  repeat'(first|(refine bX (λh=>?_) (λh=>?_)<;>simp only[go_sem,I,e0,fe,h2])|refine⟨ae7,?_⟩|fail)
  all_goals first|(exfalso;simp at h;done)|(simp[z',hn])
def q7(s:Int×List Int)(c:ch):Int×List Int:=
 if c.cI.ei<s.1 then(c.cI.ei,[c.id])else if c.cI.ei=s.1 then(s.1,s.2++[c.id])else s
def oI(l:List ch):Int×List Int:=l.foldl q7 (8,[])
def r2(l:List ch):List Int:=if mm l then(oI l).2 else []
theorem UU:∀(l:List ch) (s:Int×List Int),(l.foldl q7 s).2.length<=s.2.length+l.length
 |[],s=>by simp
 |c::l,s=>by
  have:=UU l (q7 s c);rw[An,e0];have:(q7 s c).2.length<=s.2.length+1:=by
   unfold q7;split
   ·simp
   split<;>simp
  omega
theorem aqf(l:List ch)(hl:l.length<=1048576):aM 300 [.one (.azF l)] [.one (.sl 1 ((r2 l).map bg))]:=by
 refine aW 49 func300 call300 [.tmp 2] ?_;intro ok;have hm:=gw ok;clear ok;have ah:r2 l=if mm l then(oI l).2 else []:=rfl
 simp only[go_sem];cases hA:mm l
 ·rw[hA]at ah;refine cb.intro (λi:Nat=>⟨(.d (.azF l)::.an::.an::.sl 0 0 0::.i 8::.i i::aA 43 []),[.ay 1 [] true]⟩)
   (λi=>0) (λi=>i=0) 0 [0] rfl ?_ ?_
  ·simp only[go_sem];simp
  rintro i rfl
  try simp only[go_sem,I]
  repeat'(first|((first|refine av.intro (by apply aer) ?_|apply bo)<;>simp only[go_sem,hA,asu])|refine⟨ae7,?_⟩|fail)
  all_goals simp[ah]
 rw[hA]at ah;refine cb.intro (λi:Nat=>⟨(.d (.azF l)::.an::.an::.sl 0 0 (oI (l.take i)).2.length::.d (.i (oI (l.take i)).1)::.i i::aA 43 []),[.ay 1 ((oI (l.take i)).2.map bg) true]⟩)
  (λi=>l.length-i) (λi=>i<=l.length) 0 [0] ω ?_ ?_
 ·simp only[go_sem];simp[oI]
 intro i hi;by_cases h1:i<l.length
 ·have aq:=aro (i:=i) (n:=l.length);have az:=b_ ch.enc l i h1;have hw:=d8 h1 hm;have hs:oI (l.take (i+1))=q7 (oI (l.take i)) l[i]:=OH _ _ _ _ h1;have iL:(oI (l.take i)).2.length<=i:=by
   have:=UU (l.take i) (8,[]);have cR:(l.take i).length=i:=by simp;omega
   simp only[g1]at this;unfold oI;omega
  generalize oI (l.take i)=q at *;obtain⟨KM,d2⟩:=q;simp only at iL
  try simp only[go_sem,I,aq]
  repeat'(first|((first|refine af.intro (by apply aer) ?_|with_reducible apply cG|refine bX (λh=>?_) (λh=>?_))<;>simp only[go_sem,I,aF,az,ch.enc,hA])|refine⟨ae7,?_⟩|fail)
  ·have h0:=cY h;have hs':q7 (KM,d2) l[i]=(l[i].cI.ei,[l[i].id]):=by unfold q7;exact if_pos h0
   refine bt.intro (i+1) [3] ω ω ?_;simp only[go_sem,hw,hs,hs'];simp[bg]
  ·rename_i ao;have h0:=de ao;have aH:=cY h;have hs':q7 (KM,d2) l[i]=(KM,d2++[l[i].id]):=by unfold q7;exact(if_neg h0).trans (if_pos aH)
   refine bt.intro (i+1) [2] ω ω ?_;simp only[go_sem,hw,hs,hs'];simp[bg]
  rename_i ao;have h0:=de ao;have aH:=de h;have hs':q7 (KM,d2) l[i]=(KM,d2):=by unfold q7;exact(if_neg h0).trans (if_neg aH)
  refine bt.intro (i+1) [0] ω ω ?_;simp only[go_sem,hw,hs,hs'];simp
 ·obtain⟨aq,rfl⟩:=arn (i:=i) (n:=l.length);rw[da]
  try simp only[go_sem,I,aq]
  repeat'(first|(with_reducible apply dp<;>simp only[go_sem,I])|refine⟨ae7,?_⟩|fail)
  all_goals simp[ah]
def n6(l:List ch)(id:Int):List ch:=l.filter λc=>decide (c.id≠id)
theorem ahm(l:List ch)(id:Int)(hl:l.length<=1048576):aM 264 [.one (.azF l),.one (.i id)] [.one (.azF (n6 l id))]:=by
 refine aW 29 func264 call264 [.tmp 4] ?_;intro ok;have hm:=gw ok;clear ok;simp only[go_sem];refine cb.intro (λi:Nat=>⟨(.d (.azF l)::.i id::aA 3 (.sl 0 0 (n6 (l.take i) id).length::.i i::aA 22 [])),[.ay 3 ((n6 (l.take i) id).map ch.enc) true]⟩)
  (λi=>l.length-i) (λi=>i<=l.length) 0 [0] ω ?_ ?_
 ·simp only[go_sem];simp[n6]
 intro i hi;by_cases h1:i<l.length
 ·have aq:=aro (i:=i) (n:=l.length);have az:=b_ ch.enc l i h1;have hw:=d8 h1 hm;have hs:n6 (l.take (i+1)) id=n6 (l.take i) id++(if decide (l[i].id≠id)then [l[i]]else []):=by
   unfold n6;rw[gO,cy h1,asG];simp[atg]
  have iL:(n6 (l.take i) id).length<=i:=arP (arS _ _) (by simp;omega);generalize n6 (l.take i) id=q at *
  try simp only[go_sem,I,aF,az,ch.enc,aq]
  repeat'(first|(refine bX (λh=>?_) (λh=>?_)<;>simp only[go_sem,I,aF,az,ch.enc])|refine⟨ae7,?_⟩|fail)
  ·rw[h,if_pos rfl]at hs;refine bt.intro (i+1) [2] ω ω ?_;simp only[go_sem,hw,hs];simp[ch.enc]
  rw[h,if_neg ξ]at hs;refine bt.intro (i+1) [0] ω ω ?_;simp only[go_sem,hw,hs];simp
 ·obtain⟨aq,rfl⟩:=arn (i:=i) (n:=l.length);rw[da]
  try simp only[go_sem,I,aq]
  all_goals simp
def r7(m:List Int)(c:ch):Bool:=!c.cI.ic&&m.any (λx=>decide (x=c.id))
def pJ(m:List Int)(l:List ch):List Int:=l.flatMap λc=>m.filter (λx=>decide (x=c.id))
theorem aqg(m:List Int)(c:ch):r7 m c↔c.cI.ic=false/\∃x∈m,x=c.id:=by simp[r7]
theorem aes(m:List Int):∀l:List ch,(pJ m l).length<=m.length * l.length
 |[]=>by simp[pJ]
 |c::l=>by
  have h1:=aes m l;have h2:=arS (λx=>decide (x=c.id)) m;unfold pJ at h1⊢;rw[arM,eh,e0,auc];omega
def zL(l:List ch)(dw:Int):Int:=match l.find? (r7 (r2 l))with|some c=>c.id|none=>z' (pJ (r2 l) l) dw
theorem aqh(l:List ch):(r2 l).length<=l.length:=by
 unfold r2;split
 ·have:=UU l (8,[]);simpa [oI]using this
 simp
theorem aho(l:List ch)(dw:Int)(hl:l.length<=1000):aM 265 [.one (.azF l),.one (.i dw)] [.one (.i (zL l dw))]:=by
 refine aW 69 func265 call265 [.tmp 4] ?_;intro ok;have hm:=gw ok;clear ok;have ah:zL l dw=match l.find? (r7 (r2 l))with|some c=>c.id|none=>z' (pJ (r2 l) l) dw:=rfl
 have Z5:=aqh l;simp only[go_sem];refine af.intro (aqf l ω) ?_;generalize r2 l=m at *;simp only[go_sem,I];refine cb.intro (λi:Nat=>⟨(.d (.azF l)::.i dw::aA 3 (.sl 0 0 m.length::.sl 1 0 (pJ m (l.take i)).length::.i i::aA 61 [])),[.azu m,.azu (pJ m (l.take i))]⟩)
  (λi=>l.length-i) (λi=>i<=l.length/\(l.take i).any (r7 m)=false) 0 [0,1] ⟨by omega,by simp⟩ ?_ ?_
 ·simp only[go_sem];simp[pJ]
 rintro i ⟨hi,he⟩;have cR:(l.take i).length=i:=by simp;omega
 have yi:=aes m (l.take i);have ay1:m.length * (l.take i).length<=1000 * 1000:=Nat.mul_le_mul ω ω;by_cases h1:i<l.length
 ·have aq:=aro (i:=i) (n:=l.length);have az:=b_ ch.enc l i h1;have hw:=d8 h1 hm;have hs:pJ m (l.take (i+1))=pJ m (l.take i)++m.filter (λx=>decide (x=l[i].id)):=by
   unfold pJ;rw[gO,cy h1,ash];simp
  generalize pJ m (l.take i)=UW at *;simp only[go_sem,I,aq];refine cb.intro (λk:Nat=>⟨(.d (.azF l)::.i dw::aA 3 (.sl 0 0 m.length::.sl 1 0 (UW++(m.take k).filter (λx=>decide (x=l[i].id))).length::.i i::.i k::aA 60 [])),[.azu m,.ay 1 ((UW++(m.take k).filter (λx=>decide (x=l[i].id))).map bg) true]⟩)
   (λk=>m.length-k) (λk=>k<=m.length/\(l[i].cI.ic=false->(m.take k).any (λx=>decide (x=l[i].id))=false)) 0 [0,1] ⟨by omega,by simp⟩ ?_ ?_
  ·simp only[go_sem];simp
  rintro k ⟨hk,GY⟩;have ef:=arS (λx=>decide (x=l[i].id)) (m.take k);have ay2:(m.take k).length=k:=by simp;omega
  by_cases h2:k<m.length
  ·have gv:=aro (i:=k) (n:=m.length);have rK:=b_ bg m k h2;have AM:=asc (i:=k);have dj:(m.take (k+1)).filter (λx=>decide (x=l[i].id))=(m.take k).filter (λx=>decide (x=l[i].id))++(if decide (m[k]=l[i].id)then [m[k]]else []):=by
    rw[gO,cy h2,asG];simp[atg]
   generalize zr:(m.take k).filter (λx=>decide (x=l[i].id))=aqi at *;have fU:(UW++aqi).length<=1002000:=by rw[eh];omega
   cases hd:decide (m[k]=l[i].id)
   ·rw[hd,if_neg ξ]at dj
    try simp only[go_sem,gv]
    repeat'(first|((first|with_reducible apply lv|refine a7 OR χ ψ ?_|refine a7 UT χ ψ ?_)<;>simp only[go_sem,I,aF,az,rK,ch.enc,bg,hd,asu])|refine⟨ae7,?_⟩|fail)
    all_goals(refine bt.intro (k+1) [0,1] ⟨by omega,λh=>zi _ m k h2 (GY h) hd⟩ ω ?_;simp only[go_sem,AM,dj];simp)
   rw[hd,if_pos rfl]at dj;have hx:=cY hd;cases BL:l[i].cI.ic
   ·have hh:r7 m l[i]:=(aqg _ _).2 ⟨BL,_,eK h2,hx⟩;have hf:=Fk (r7 m) l i h1 he hh
    try simp only[go_sem,gv]
    repeat'(first|((first|with_reducible apply mr|refine a7 OR χ ψ ?_)<;>simp only[go_sem,I,aF,az,rK,ch.enc,bg,hd,BL])|refine⟨ae7,?_⟩|fail)
    all_goals simp[ah,hf]
   try simp only[go_sem,gv]
   repeat'(first|((first|with_reducible apply mr|refine a7 OR χ ψ ?_|refine a7 UT χ ψ ?_)<;>simp only[go_sem,I,aF,az,rK,ch.enc,bg,hd,BL])|refine⟨ae7,?_⟩|fail)
   all_goals first|omega|(refine bt.intro (k+1) [0,3] (by first|omega|exact⟨by omega,λh=>by rw[BL]at h;cases h⟩) ω ?_;simp only[go_sem,AM,dj];simp[bg,hx];try omega)
  obtain⟨gv,rfl⟩:=arn (i:=k) (n:=m.length);rw[da]at *;simp only[go_sem,I,gv,hw];have hh:r7 m l[i]=false:=by
   cases BL:l[i].cI.ic
   ·simp only[r7,GY BL];simp
   simp[r7,BL]
  refine bt.intro (i+1) [0,1] ⟨by omega,zi _ l i h1 he hh⟩ ω ?_;simp only[go_sem,hs];simp
 ·obtain⟨aq,rfl⟩:=arn (i:=i) (n:=l.length);rw[da]at *;have hf:=HB _ l he;rw[hf]at ah
  try simp only[go_sem,I,aq]
  repeat'(refine af.intro (by apply aqe) ?_<;>simp only[go_sem])
  all_goals simp[ah]
def l2(E:Int)(xs:List ab):Prop:=cN xs/\∀x∈xs,x.high<=E
theorem Bt(E:Int):l2 E []:=⟨by simp[cN],by simp⟩
theorem Nv{E F:Int}{xs:List ab}(h:E<=F)(hx:l2 E xs):l2 F xs:=⟨hx.1,λx hm=>by have:=hx.2 x hm;omega⟩
theorem JZ{E:Int}{xs:List ab}{r:ab}(hx:l2 E xs)(hr:c8 r)(hh:r.high<=E):l2 E (f' xs r):=by
 refine⟨J0 hx.1 hr,?_⟩;refine SN (λx=>x.high<=E) xs r hh hx.2 ?_;intro a b ha hb _ _;simp only[dJ]at *;split<;>omega
theorem aaB{E:Int}{xs:List ab}{r:ab}(hx:l2 E xs):l2 E (nw xs r):=by
 obtain⟨h1,_,ao⟩:=SV (r:=r) hx.1;refine⟨h1,λy hy=>?_⟩;obtain⟨x,hm,aH⟩:=ao y hy;have:=hx.2 x hm;omega
theorem Nw{E:Int}{hj c:List ab}(hx:l2 E hj):l2 E (ia hj c):=by
 obtain⟨h1,_,ao⟩:=GZ c hj hx.1;refine⟨h1,λy hy=>?_⟩;obtain⟨x,hm,aH⟩:=ao y hy;have:=hx.2 x hm;omega
theorem z9{E:Int}:∀(ys xs:List ab),l2 E xs->(∀y∈ys,c8 y/\y.high<=E)->l2 E (eD xs ys)
 |[],xs,h,_=>h
 |y::ys,xs,h,hy=>z9 ys (f' xs y) (JZ h (hy y ξ).1 (hy y ξ).2) λz hz=>hy z (by simp[hz])
theorem Nx{E:Int}{xs:List ab}{r:ab}(hx:l2 E xs):∀y∈gy xs [r],c8 y/\y.high<=E:=by
 intro y hy;obtain⟨h1,x,hm,h2⟩:=(J1 xs r).2 y hy;have:=hx.2 x hm;exact⟨h1,by omega⟩
theorem aaC:∀(xs:List ab) (cr E:Int),(∀x∈xs,c8 x/\cr<=x.low/\x.high<=E)->xs.Pairwise (λa b=>a.high<b.low)->cr<=E->(xs.length:Int)<=E-cr
 |[],cr,E,_,_,h=>by simp;omega
 |x::xs,cr,E,hx,hp,h=>by
  obtain⟨h1,h2,ao⟩:=hx x ξ;have aH:=(gr _).1 h1;rw[ag_]at hp;have:=aaC xs x.high E (λy hy=>⟨(hx y (by simp[hy])).1,by have:=hp.1 y hy;omega,(hx y (by simp[hy])).2.2⟩) hp.2 ao;rw[e0];omega
theorem SW{E:Int}{xs:List ab}(h:l2 E xs)(ah:0<=E):(xs.length:Int)<=E:=by
 have h1:=(ho xs).1 h.1;have:=aaC xs 0 E (λx hx=>⟨h1.1 x hx,((gr _).1 (h1.1 x hx)).1,h.2 x hx⟩) h1.2 ah;omega
structure eJ(E:Int)(s:aD):Prop where
 p:l2 s.aB.bS s.bC
 f:l2 s.aB.bS s.bc
 a:l2 s.aB.bS s.bJ
 c3:0<=s.aB.bS
 ak:s.aB.bS<=E
 c:s.aB.cells.length<=64
theorem eJ.mono{E F:Int}{s:aD}(h:eJ E s)(ah:E<=F):eJ F s:=⟨h.p,h.f,h.a,h.c3,by have:=h.ak;omega,h.c⟩
theorem eJ.Pl{E:Int}{s:aD}(h:eJ E s):ov s:=by
 intro r hr;rcases hr with hr|hr|hr
 ·exact h.p.2 r hr
 ·exact h.f.2 r hr
 exact h.a.2 r hr
theorem eJ.size{E:Int}{s:aD}(h:eJ E s):((s.bC.length+s.bc.length+s.bJ.length:Nat):Int)<=3 * E:=by
 have h1:=SW h.p h.c3;have h2:=SW h.f h.c3;have ao:=SW h.a h.c3;have:=h.ak;omega
theorem aaD{E:Int}(ah:0<=E)(v w c:Int):eJ E ⟨0,⟨0,0,0,[]⟩,[],[],[],v,w,c,0⟩:=⟨Bt _,Bt _,Bt _,by simp,ah,by simp⟩
theorem alr{E:Int}(ah:0<=E)(n:Int):eJ E (sB n):=by
 unfold sB;split
 ·rename_i h;have:=FO h;refine⟨Bt _,Bt _,Bt _,?_,?_,?_⟩
  ·simp[xk,h]
  ·simp only[xk,h,if_true];exact ah
  simp only[xk,h,if_true,asz];omega
 exact aaD ah _ _ _
theorem CV{s:aD}(h:dU s):i0 s.aB/\0<=s.b0/\s.b0<=s.aB.bS:=by
 simp only[dU,lK,cd,bm,ed,bH]at h;exact⟨h.1,h.2.2.2.2.1,h.2.2.2.2.2.1⟩
theorem aaE{E:Int}{s:aD}{d:List UInt8}(h:eJ E s)(hd:d.length<=8):eJ (E+8) (rA s d):=by
 unfold rA;split
 ·rename_i hw;have als:i0 s.aB:=by
   simp only[pY,bm]at hw;exact(CV hw.1.1).1
  have hi:=oD als;have hr:=SX s.aB;have hn:nx s.aB d=(cu (nM s.aB) d.length).toNat:=rfl;have yh:(nx s.aB d:Int)<=8:=by rw[hn];unfold cu;split<;>omega
  have h0:=h.c3;have h1:=h.ak;have he:(r1 s.aB d).bS=s.aB.bS+(nx s.aB d:Int):=by
   simp only[r1];by_cases hp:0<nx s.aB d
   ·have Ez:0<nM s.aB:=by rw[hn]at hp;unfold cu at hp;split at hp<;>omega
    obtain⟨aZ,bA,c9⟩:=hr.2 Ez;have bu:(nx s.aB d:Int)<=nM s.aB:=by rw[hn];unfold cu;split<;>omega
    rw[bw]<;>omega
   rw[bw]<;>omega
  have hq:0<nx s.aB d->(r1 s.aB d).bS<=4611686018427387903:=λhp=>by
   have Ez:0<nM s.aB:=by rw[hn]at hp;unfold cu at hp;split at hp<;>omega
   obtain⟨aZ,bA,c9⟩:=hr.2 Ez;have bu:(nx s.aB d:Int)<=nM s.aB:=by rw[hn];unfold cu;split<;>omega
   omega
  have hm:s.aB.bS<=(r1 s.aB d).bS:=by omega
  refine⟨?_,Nv hm h.f,Nv hm h.a,by simp only[he];omega,by simp only[he];omega,by simp only[r1,Ny];exact h.c⟩;simp only;split
  ·rename_i hp;have:=hq hp;exact JZ (Nv hm h.p) ((gr _).2 (by simp only;omega)) ξ
  exact Nv hm h.p
 ·exact h.mono ω
theorem aaF{E:Int}{s:aD}(h:eJ E s):eJ E (xh s):=by
 unfold xh;split
 ·exact⟨h.p,h.f,h.a,h.c3,h.ak,h.c⟩
 exact h
theorem alu{E:Int}{s:aD}(h:eJ E s)(c:Int):eJ E (DU s c):=by
 unfold DU;split
 ·rename_i hw;simp only[xj,bm]at hw;obtain⟨aZ,bA,c9⟩:=CV hw.1.1;have hi:=oD aZ;have h1:=h.ak;exact⟨Bt _,Bt _,Bt _,bA,by simp only;omega,by simp only[asz];omega⟩
 exact h
theorem alv{E:Int}{s:aD}(h:eJ E s):eJ E (jJ s):=by
 unfold jJ;split
 ·exact⟨h.p,h.f,h.a,h.c3,h.ak,h.c⟩
 exact h
theorem aaG{s:aD}{p:bI}(h:jX s p)(hq:s.aB.bS<=4611686018427387903)(hd:p.data.length<=1048576):0<=(dD p).low/\(dD p).high<=s.aB.bS/\(p.data≠[]->(dD p).low<(dD p).high):=by
 simp only[jX,bm,bH,ed]at h;obtain⟨h1,h2,ao,_⟩:=h;rw[bw ω ω]at ao;simp only[dD];rw[bw ω ω];refine⟨h1,by omega,λhn=>?_⟩;have:=aq_.2 hn;omega
theorem Nz{E:Int}{s:aD}(h:eJ E s):eJ E (jY s):=⟨h.p,h.f,h.a,h.c3,h.ak,h.c⟩
theorem aaH{E:Int}{s:aD}{p:bI}(h:eJ E s):eJ E (ny s p):=by
 unfold ny;split
 ·exact⟨h.p,h.f,h.a,h.c3,h.ak,h.c⟩
 exact h
theorem QY{E:Int}{s:aD}{p:bI}(h:eJ E s)(hd:p.data.length<=1048576):eJ E (ga s p):=by
 unfold ga;split
 ·rename_i hw;refine Nz (aaH ?_);unfold k4;split
  ·exact h
  rename_i hne;simp only[iD,qY,bm,ed]at hw;obtain⟨b5,b8,dI,_⟩:=hw;have hi:=oD (CV b5).1;obtain⟨k1,k2,dd⟩:=aaG dI ω hd;have il:=dd hne;exact⟨aaB h.p,JZ h.f ((gr _).2 ω) k2,h.a,h.c3,h.ak,h.c⟩
 exact h
theorem NA(r:dk)(t:Int):(k5 r t).bS=r.bS/\(k5 r t).cells.length=r.cells.length:=by
 unfold k5;split
 ·exact⟨rfl,G0 _ _ _ _⟩
 exact⟨rfl,rfl⟩
theorem SY{E:Int}{s:aD}{p:bI}(f:Int)(h:eJ E s):eJ E (e_ f s p):=by
 unfold e_;split
 ·exact⟨h.p,h.f,h.a,h.c3,h.ak,h.c⟩
 exact h
theorem alw(f:Int)(s:aD)(p:bI):(e_ f s p).aB=s.aB:=by unfold e_;split<;>rfl
theorem alx(s:aD)(p:bI):(fC s p).aB=s.aB:=by unfold fC;split<;>rfl
theorem SZ{E:Int}{s:aD}{p:bI}(h:eJ E s):eJ E (iw s p):=by
 unfold iw;split
 ·have h1:eJ E (e_ 3 (fC s p) p):=by
   refine SY 3 ?_;unfold fC;split
   ·exact h
   exact⟨h.p,Nw h.f,z9 _ _ h.a (Nx h.f),h.c3,h.ak,h.c⟩
  have hr:(e_ 3 (fC s p) p).aB=s.aB:=by rw[alw,alx]
  have hd:=NA s.aB (jc (e_ 3 (fC s p) p).bJ 0);have e:(qZ s.aB (e_ 3 (fC s p) p)).aB.bS=(e_ 3 (fC s p) p).aB.bS:=by rw[hr];exact hd.1
  refine Nz ⟨?_,?_,?_,?_,?_,?_⟩
  ·rw[e];exact h1.p
  ·rw[e];exact h1.f
  ·rw[e];exact h1.a
  ·rw[e];exact h1.c3
  ·rw[e];exact h1.ak
  exact arP (Nat.le_of_eq hd.2) h.c
 ·exact h
theorem aaI{E:Int}{s:aD}{p:bI}(h:eJ E s):eJ E (iI s p):=by
 unfold iI;split
 ·refine Nz (SY 1 ?_);unfold jF;split
  ·exact h
  exact⟨z9 _ _ h.p (Nx h.f),Nw h.f,h.a,h.c3,h.ak,h.c⟩
 exact h
def UD:List (List bK):=cB 15 [14348906,14348904,14348898,14348880,13611807,13611645,13611159,13639185,13634811,13621689,13581270,14260293,13905999,12754584,9565938]
attribute [go_sem] UD
def ON(r:cf)(o:Int)(d:List UInt8):Bool:=lZ r&&decide (0<=o)&&decide (o<=i64.wrap (4611686018427387903-(d.length:Int)))
def yX(r:cf)(o:Int)(d:List UInt8)(f:Bool):Int:=if ON r o d then Ap r (o+d.length) f else 7
def E3(r:cf)(o:Int)(d:List UInt8)(f:Bool):Bool:=ON r o d&&!(decide (Ap r (o+d.length) f≠0)||decide (1<r.bp))
def CY(r:cf)(o:Int)(d:List UInt8):List aR:=pX r.bT.next r.bT.cq o d
def Df(r:cf)(o:Int)(d:List UInt8)(f:Bool):Int:=if f then o+d.length else r.bf
def Hs(r:cf)(o:Int)(d:List UInt8)(f:Bool):Bool:=decide (Df r o d f≠-1)&&decide (i64.wrap (r.bT.next+(mu r.bT.next (CY r o d):Int))=Df r o d f)
def s3(r:cf)(o:Int)(d:List UInt8)(f:Bool):cf:=
 if E3 r o d f then⟨if Hs r o d f then 2 else if f then 1 else r.bp,⟨r.bT.next,CY r o d⟩,Df r o d f,dJ r.fR (o+d.length),r.cS⟩else r
theorem ak2(dN dx:Int)(c4:List aR)(d5 dX dZ o:Int)(d:List UInt8)(f:Bool)(hb:∀c∈c4,xf c)(hx:c4.length<=1000)(hd:d.length<=8)(aG:0<=o/\o<=900):aM 318 [.agg [.i dN,.i dx,.azB c4,.i d5,.i dX,.i dZ],.one (.i o),.one (.str d),.one (.bool f)] [.agg (cf.enc (s3 (⟨dN,⟨dx,c4⟩,d5,dX,dZ⟩:cf) o d f)),.one (.i (yX (⟨dN,⟨dx,c4⟩,d5,dX,dZ⟩:cf) o d f))]:=by
 refine aW 79 func318 call318 [.cell 8 70,.tmp 9] ?_;intro _;have nd:∀c∈c4,c.data.length<=1048576:=λc hc=>by have:=hb c hc;simp only[xf]at this;omega
 have hok:=Wd (n:=dx) (off:=o) (data:=d) hb aG.1 ω;have iL:=We dx c4 o d;have UE:∀c∈pX dx c4 o d,c.data.length<=1048576:=λc hc=>by have:=hok c hc;simp only[xf]at this;omega
 have sP:=alp dx c4 o d nd ω (λc hc=>by have:=hb c hc;simp only[xf]at this;omega) hd aG.1 ω;have sn:=HV dx (pX dx c4 o d) UE ω;have eP:i64.wrap (4611686018427387903-(d.length:Int))=4611686018427387903-(d.length:Int):=by rw[bw]<;>omega
 have gl:i64.wrap (o+(d.length:Int))=o+(d.length:Int):=by rw[bw]<;>omega
 have ak:=bn (p:=o<0) ω;have ar:=bn (p:=4611686018427387903-(d.length:Int)<o) ω;have ep:ON (⟨dN,⟨dx,c4⟩,d5,dX,dZ⟩:cf) o d=lZ (⟨dN,⟨dx,c4⟩,d5,dX,dZ⟩:cf):=by
  unfold ON;rw[eP,br aG.1,br (show o<=4611686018427387903-(d.length:Int)by omega)];simp
 cases aE:lZ (⟨dN,⟨dx,c4⟩,d5,dX,dZ⟩:cf)
 ·have bY:E3 (⟨dN,⟨dx,c4⟩,d5,dX,dZ⟩:cf) o d f=false:=by unfold E3;rw[ep,aE];rfl
  have ah:yX (⟨dN,⟨dx,c4⟩,d5,dX,dZ⟩:cf) o d f=7:=by unfold yX;rw[ep,aE];rfl
  try simp only[go_sem]
  repeat'(first|((first|refine af.intro (by first|assumption|(apply B6<;>exact aT)|(apply Ao<;>exact aT)) ?_|refine av.i ?_|with_reducible apply dp)<;>simp only[go_sem,I,aE])|refine⟨ae7,?_⟩|fail)
  all_goals(rw[ah];simp[s3,bY])
 have ah:yX (⟨dN,⟨dx,c4⟩,d5,dX,dZ⟩:cf) o d f=Ap (⟨dN,⟨dx,c4⟩,d5,dX,dZ⟩:cf) (o+d.length) f:=by unfold yX;rw[ep,aE];rfl
 try simp only[go_sem]
 repeat'((first|refine af.intro (by first|assumption|(apply B6<;>exact aT)|(apply Ao<;>exact aT)|(apply adE<;>exact aT)) ?_|refine av.i ?_|with_reducible apply cG|apply bo)<;>simp only[go_sem,I,aE,eP,gl,ak,ar])
 refine bX (λh=>?_) (λh=>?_)
 ·have bY:E3 (⟨dN,⟨dx,c4⟩,d5,dX,dZ⟩:cf) o d f=false:=by unfold E3;simp only[d1]at h;rw[ep,aE,h];rfl
  simp only[go_sem,I];rw[ah];simp[s3,bY]
 have bY:E3 (⟨dN,⟨dx,c4⟩,d5,dX,dZ⟩:cf) o d f:=by unfold E3;simp only[d1]at h;rw[ep,aE,h];rfl
 have h0:Ap (⟨dN,⟨dx,c4⟩,d5,dX,dZ⟩:cf) (o+d.length) f=0:=by
  simp only[d1,auu,eC]at h;omega
 rw[h0]at ah;have a1:s3 (⟨dN,⟨dx,c4⟩,d5,dX,dZ⟩:cf) o d f=⟨if Hs (⟨dN,⟨dx,c4⟩,d5,dX,dZ⟩:cf) o d f then 2 else if f then 1 else dN,⟨dx,CY (⟨dN,⟨dx,c4⟩,d5,dX,dZ⟩:cf) o d⟩,Df (⟨dN,⟨dx,c4⟩,d5,dX,dZ⟩:cf) o d f,dJ dX (o+d.length),dZ⟩:=by unfold s3;exact if_pos bY
 simp only[go_sem];cases f
 ·try simp only[go_sem]
  repeat'(first|((first|refine af.i ?_|refine av.i ?_|apply fY|refine a7 UD χ ψ ?_|refine bX (λh=>?_) (λh=>?_))<;>simp only[go_sem,I])|refine⟨ae7,?_⟩|fail)
  ·simp only[c2]at h;have hq:Hs (⟨dN,⟨dx,c4⟩,d5,dX,dZ⟩:cf) o d false:=h;rw[ah,a1,hq];simp[dJ,Df,CY]
  simp only[c2]at h;have hq:Hs (⟨dN,⟨dx,c4⟩,d5,dX,dZ⟩:cf) o d false=false:=h;rw[ah,a1,hq];simp[dJ,Df,CY]
 try simp only[go_sem]
 repeat'(first|((first|refine af.i ?_|refine av.i ?_|apply fY|refine a7 UD χ ψ ?_|refine bX (λh=>?_) (λh=>?_))<;>simp only[go_sem,I])|refine⟨ae7,?_⟩|fail)
 ·simp only[c2]at h;have hq:Hs (⟨dN,⟨dx,c4⟩,d5,dX,dZ⟩:cf) o d true:=h;rw[ah,a1,hq];simp[dJ,Df,CY]
 simp only[c2]at h;have hq:Hs (⟨dN,⟨dx,c4⟩,d5,dX,dZ⟩:cf) o d true=false:=h;rw[ah,a1,hq];simp[dJ,Df,CY]
structure hD(m:Nat)(s:ae):Prop where
 snd:eJ (8 * m) s.ag
 fM:∀c∈s.aU.bT.cq,xf c
 A2:s.aU.bT.cq.length<=m
structure bW(m:Nat)(c:J):Prop where
 nL:c.aa.length<=24
 i7:∀s∈c.aa,hD m s
 sG:c.ai.length<=m
 hY:∀p∈c.ai,AE p
theorem hD.mono{m n:Nat}{s:ae}(h:hD m s)(hm:m<=n):hD n s:=⟨h.snd.mono ω,h.fM,by have:=h.A2;omega⟩
theorem bW.mono{m n:Nat}{c:J}(h:bW m c)(hm:m<=n):bW n c:=⟨h.nL,λs hs=>(h.i7 s hs).mono hm,by have:=h.sG;omega,h.hY⟩
theorem hD.sz{m:Nat}{s:ae}(h:hD m s)(hm:m<=20):gx s:=by
 have h1:=h.snd.size;have h2:=h.snd.c;have ao:=h.A2;refine⟨by omega,by omega,λc hc=>?_,by omega⟩;have:=h.fM c hc;simp only[xf]at this;omega
theorem bW.sz{m:Nat}{c:J}(h:bW m c)(hm:m<=20):gZ c:=by
 have h1:=h.nL;have ao:=h.sG;exact⟨by omega,λs hs=>(h.i7 s hs).sz hm,by omega,h.hY⟩
theorem aaJ(m:Nat):hD m n0:=⟨aaD ω _ _ _,by simp[n0],by simp[n0]⟩
theorem aaK(m:Nat)(v:Bool)(i:Int)(o p:e5):hD m (hN v i o p):=by
 unfold hN;split
 ·exact⟨alr ω _,by simp[B3],by simp[B3]⟩
 exact aaJ m
theorem aly{m:Nat}{l:List ae}(h:∀s∈l,hD m s)(id:Int):hD m (bQ l id).1:=by
 unfold bQ;split
 ·rename_i s hs;exact h s (arK hs)
 exact aaJ m
theorem Bu{l:List ae}{id:Int}(h:(bQ l id).2):(bQ l id).1.id=id/\(bQ l id).1∈l:=by
 unfold bQ at h⊢;split at h
 ·rename_i s hs;have h1:=List.find?_some hs;exact⟨cY h1,arK hs⟩
 cases h
theorem XW{l:List ae}{s:ae}(h:(bQ l s.id).2):(dv l s).length=l.length:=by
 unfold dv;split
 ·rw[atU]
 rename_i hn;obtain⟨h1,h2⟩:=Bu h;rw[ato]at hn;have:=hn _ h2;simp[eB,h1]at this
def lE(c:J)(s:ae):J:={c with aa:=dv c.aa s}
theorem aaL{m:Nat}{c:J}{s:ae}(h:bW m c)(hs:hD m s)(hf:(bQ c.aa s.id).2):bW m (lE c s):=by
 refine⟨?_,λx hx=>?_,h.sG,h.hY⟩
 ·simp only[lE,XW hf];exact h.nL
 rcases zw hx with hx|rfl
 ·exact h.i7 x hx
 exact hs
theorem aaM{v:Bool}{o p:e5}{id:Int}:∀(k:Nat) (l:List ae) (x:ae),x∈oq v o p id k l->x∈l\/∃i,x=hN v i o p
 |0,l,x,h=>auj h
 |k+1,l,x,h=>by
  rcases aaM k _ x h with h|h
  ·rcases zw h with h|h
   ·exact auj h
   exact atB ⟨_,h⟩
  exact atB h
theorem CT{m:Nat}{c:J}(h:bW m c)(id:Int):bW m (cD c id):=by
 unfold cD;split
 ·rename_i hg;simp only[bm]at hg;have hn:=Lu hg.2 (by have:=h.nL;omega);have hl:=Wx c.bq c.own c.cP id (mY c id).toNat c.aa;have hw:(ot c id (lg (mX c id) (ig id))).ai=c.ai:=by unfold ot;split<;>rfl
  refine⟨by simp only;omega,λx hx=>?_,by simp only[hw];exact h.sG,by simp only[hw];exact h.hY⟩;rcases aaM _ _ x hx with hx|⟨i,rfl⟩
  ·exact h.i7 x hx
  exact aaK m _ _ _ _
 exact h
def nJ(c:J):ej×Bool:=if rF c.c7 then(jO c.c7 c.dA c.own.eU,nm c.c7 c.dA c.own.eU)else(c.c7,c.p2)
def h4(a:d9)(t:Bool):d9×Bool:=if AS a then(lj a,rG a)else(a,t)
def sE(s:ae):Bool:=s.fS&&decide (s.aU.bp=0)&&!s.i5
def m0(c:J)(s:ae):ej×Bool:=if sE s then(if rF s.bL then(jO s.bL c.dA c.own.eU,nm s.bL c.dA c.own.eU)else(s.bL,s.k_))else(s.bL,false)
def nn(k i l:Int):al:=⟨k,i,0,[],false,0,l,0,false⟩
def fV(k l:Int)(u:Bool):al:=⟨k,0,0,[],false,0,l,0,u⟩
def ow(k i c z:Int):al:=⟨k,i,0,[],false,c,0,z,false⟩
def jP(s:ae):List al:=if s.i4 then [ow 4 s.id s.ag.cS s.ag.b0]else []
def l_(s:ae):List al:=if s.gK&&decide (s.aU.bp<2)then [ow 5 s.id s.oe 0]else []
def mZ(c:J)(s:ae):List al:=if(m0 c s).2 then [nn 17 s.id (m0 c s).1.aX]else []
def p1(s:ae):List al:=if oR s.cL&&s.ft&&decide (0<(s.ag.bC.length:Int))then [nn 21 s.id s.cL.aX]else []
def gD(c:J)(s:ae):List al:=jP s++l_ s++mZ c s++p1 s
def ED(c:J):List al:=(if(nJ c).2 then [fV 16 (nJ c).1.aX false]else [])++(if(h4 c.dB c.mA).2 then [fV 18 (h4 c.dB c.mA).1.aX false]else [])++(if(h4 c.dC c.mB).2 then [fV 18 (h4 c.dC c.mB).1.aX true]else [])
def EE(c:J):List al:=(if oR c.cn then [fV 20 c.cn.aX false]else [])++(if c.eY.blocked=c.eY.aX then [fV 22 c.eY.aX false]else [])++(if c.eZ.blocked=c.eZ.aX then [fV 22 c.eZ.aX true]else [])
def fc(c:J):List al:=if hZ c then ED c++c.aa.flatMap (gD c)++EE c else []
def jT(c:J)(s:ae)(k:Int):ae:=
 if k=4 then {s with i4:=false}else if k=5 then {s with gK:=false}else if k=17 then {s with bL:=if(m0 c s).2 then(m0 c s).1 else s.bL,k_:=false}else if k=21 then {s with cL:=lY s.cL}else s
def iU(c:J)(f:al):J:=
 if ew c then
  (if f.aY=16 then {c with c7:=(nJ c).1,p2:=false}
   else if f.aY=18 then(if f.fG then {c with dC:=(h4 c.dC false).1,mB:=false}else {c with dB:=(h4 c.dB false).1,mA:=false})
   else if f.aY=20 then {c with cn:=lY c.cn}
   else if f.aY=22 then(if f.fG then {c with eZ:={c.eZ with blocked:=-1}}else {c with eY:={c.eY with blocked:=-1}})
   else if(bQ c.aa f.ax).2 then lE c (jT c (aC c f.ax) f.aY)else c)
 else c
def gE(id:Int)(p:bI):al:=⟨8,id,p.aP,p.data,p.aS,0,0,0,false⟩
def Cm(c:J)(s:ae):Int:=cu s.cL.aX (i64.wrap (s.ag.b0+yB c.cn))
def pB(s:aD)(id fB room:Int):Nat->bI×Bool
 |0=>(n7,false)
 |n+1=>if kY s (n+1:Nat) fB then(if((eS (gE id (jV s (n+1:Nat) fB))).length:Int)<=room then(jV s (n+1:Nat) fB,true)else pB s id fB room n)else(n7,false)
def yA(c:J)(id room:Int):Bool:=ew c&&(bQ c.aa id).2&&(aC c id).ft&&!decide (room<3)
def m2(c:J)(id room:Int):bI×Bool:=if yA c id room then pB (aC c id).ag id (Cm c (aC c id)) room (cu room 60).toNat else(n7,false)
def xw(c:J)(id:Int):Bool:=ew c&&(bQ c.aa id).2&&(aC c id).ft
def nq(s:ae)(p:bI):Int:=i64.wrap ((ga s.ag p).b0-s.ag.b0)
def py(c:J)(id:Int)(p:bI):Bool:=xw c id&&(iD (aC c id).ag p&&m4 (aC c id).cL (nq (aC c id) p)&&m4 c.cn (nq (aC c id) p))
def jC(s:ae)(p:bI):ae:={s with ag:=ga s.ag p,cL:=iV s.cL (nq s p)}
def p_(c:J)(id:Int)(p:bI):J:=if py c id p then {c with cn:=iV c.cn (nq (aC c id) p),dw:=id,aa:=dv c.aa (jC (aC c id) p)}else c
def rL(s:ae):Bool:=s.ft&&decide (s.ag.bp<3)&&(decide (0<(s.ag.bC.length:Int))||decide (s.ag.aS=1))
def p9(s:ae):ch:=⟨s.id,s.cI⟩
def zK(c:J):List ch:=(c.aa.filter rL).map p9
def px(s:ae):ae:={s with cL:=l' s.cL}
def D9(c:J)(id:Int):J:={c with cn:=l' c.cn,aa:=dv c.aa (px (aC c id))}
structure n5 where
 x:J
 skip:List Int
 b2:List al
 room:Int
def A1(q:n5):List ch:=q.skip.foldl n6 (zK q.x)
def fA(q:n5):Int:=zL (A1 q) q.x.dw
def jU(q:n5):bI×Bool:=m2 q.x (fA q) q.room
def sM(q:n5):n5:=⟨D9 q.x (fA q),q.skip++[fA q],q.b2,q.room⟩
def yz(q:n5):n5:=⟨p_ q.x (fA q) (jU q).1,q.skip,q.b2++[gE (fA q) (jU q).1],i64.wrap (q.room-((eS (gE (fA q) (jU q).1)).length:Int))⟩
def ja:Nat->n5->n5
 |0,q=>q
 |k+1,q=>if fA q<0 then q else if(jU q).2 then(if py q.x (fA q) (jU q).1 then ja k (yz q)else q)else ja k (sM q)
structure xt where
 x:J
 b2:List al
 room:Int
def iC(q:xt)(f:al):xt:=if((eS f).length:Int)<=q.room then⟨iU q.x f,q.b2++[f],i64.wrap (q.room-((eS f).length:Int))⟩else q
def rJ(c:J)(b:Int):Bool:=hZ c&&cd b 1 400&&!decide (1000000<=c.bU)
def ck(c:J)(b:Int):xt:=(fc c).foldl iC ⟨c,[],b⟩
def dy(c:J)(b:Int):n5:=ja 200 ⟨(ck c b).x,[],(ck c b).b2,(ck c b).room⟩
def j_(c:J)(b:Int):J:=
 if rJ c b then(if(dy c b).b2=[]then(dy c b).x else {(dy c b).x with ai:=(dy c b).x.ai++[⟨c.bU,(dy c b).b2⟩],bU:=i64.wrap (c.bU+1)})else c
def yx(c:J)(b:Int):Bool:=rJ c b&&!decide ((dy c b).b2=[])
def qN(c:J)(b:Int):Int:=if yx c b then c.bU else -1
def zJ(c:J)(b:Int):List UInt8:=if yx c b then xv (dy c b).b2 else []
def yY(s:ae)(e:Int):Int:=jo s.aU e
def mI(c:J)(s:ae)(e:Int):Int:=if yY s e=0 then 0 else if lJ s.bL (yY s e)&&lJ c.c7 (yY s e)then 0 else 3
def nu(s:ae)(e:Int):ae:=if yY s e=0 then s else {s with bL:=rY s.bL (yY s e)}
def oa(c:J)(s:ae)(e:Int):J:=if yY s e=0 then c else {c with c7:=rY c.c7 (yY s e)}
def Nq(s:ae)(t:Int):Int:=dJ 0 (i64.wrap (t-s.bL.fa))
def xP(s:ae)(t:Int):ae:={s with bL:=G6 s.bL (Nq s t)}
def xQ(c:J)(s:ae)(t:Int):J:={c with c7:=G6 c.c7 (Nq s t)}
def xO(f:al):Int:=i64.wrap (f.aP+(f.data.length:Int))
def iH(s:ae)(r:cf):ae:={s with aU:=r}
def rX(c:J)(f:al)(k:Int):Bool:=ew c&&eu f&&decide (f.aY=k)
def Bi(c:J)(f:al):Int:=
 if rX c f 8 then(if fS c.bq f.ax then(if jg c f.ax=0 then(if mI (cD c f.ax) (aC (cD c f.ax) f.ax) (xO f)=0 then yX (aC (cD c f.ax) f.ax).aU f.aP f.data f.aS else mI (cD c f.ax) (aC (cD c f.ax) f.ax) (xO f))else jg c f.ax)else 5)else 7
def CU(x:J)(f:al):ae:=iH (nu (aC x f.ax) (xO f)) (s3 (aC x f.ax).aU f.aP f.data f.aS)
def yW(c:J)(f:al):J:=if Bi c f=0 then eO (oa (cD c f.ax) (aC (cD c f.ax) f.ax) (xO f)) (CU (cD c f.ax) f)else c
def Bp(c:J)(f:al):Int:=
 if rX c f 4 then(if fS c.bq f.ax then(if jg c f.ax=0 then(if mI (cD c f.ax) (aC (cD c f.ax) f.ax) f.bf=0 then z7 (aC (cD c f.ax) f.ax).aU f.cS f.bf else mI (cD c f.ax) (aC (cD c f.ax) f.ax) f.bf)else jg c f.ax)else 5)else 7
def S7(x:J)(f:al):cf:=y5 (aC x f.ax).aU f.cS f.bf
def EC(x:J)(f:al):Bool:=decide ((S7 x f).bp=4)&&decide ((aC x f.ax).aU.bp≠4)
def J2(x:J)(f:al):ae:=nu (aC x f.ax) f.bf
def ND(x:J)(f:al):J:=oa x (aC x f.ax) f.bf
def y4(x:J)(f:al):ae:=iH (if EC x f then xP (J2 x f) f.bf else J2 x f) (S7 x f)
def Bq(x:J)(f:al):J:=if EC x f then xQ (ND x f) (J2 x f) f.bf else ND x f
def y3(c:J)(f:al):J:=if Bp c f=0 then eO (Bq (cD c f.ax) f) (y4 (cD c f.ax) f)else c
def Br(c:J)(f:al):Int:=if rX c f 5 then(if ft c.bq f.ax then jg c f.ax else 5)else 7
def sL(x:J)(f:al):ae:=if xj (aC x f.ax).ag f.cS then hF (aC x f.ax) f.cS else aC x f.ax
def y6(c:J)(f:al):J:=if Br c f=0 then eO (cD c f.ax) (sL (cD c f.ax) f)else c
def GW(c:J)(f:al):Bool:=if f.aY=21 then fS c.bq f.ax else ft c.bq f.ax
def EA(c:J)(f:al):Int:=if GW c f then jg c f.ax else 5
def EB(x:J)(f:al):ae:={aC x f.ax with cL:=z4 (aC x f.ax).cL f.aX}
def Bn(c:J)(f:al):J:=if EA c f=0 then(if f.aY=17 then lE (cD c f.ax) (EB (cD c f.ax) f)else cD c f.ax)else c
def JP(c:J)(f:al):Bool:=ew c&&eu f
def y0(c:J)(f:al):Int:=if JP c f then(if f.aY=16\/f.aY=18\/f.aY=20\/f.aY=22 then 0 else if f.aY=17\/f.aY=21 then EA c f else 7)else 7
def pI(c:J)(f:al):J:=
 if JP c f then(if f.aY=16 then {c with cn:=z4 c.cn f.aX}else if f.aY=18 then(if f.fG then {c with eZ:=Ac c.eZ f.aX}else {c with eY:=Ac c.eY f.aX})else if f.aY=17\/f.aY=21 then Bn c f else c)else c
def GX(c:J)(f:al):Int:=if f.aY=8 then Bi c f else if f.aY=4 then Bp c f else if f.aY=5 then Br c f else y0 c f
def rI(c:J)(f:al):J:=if f.aY=8 then yW c f else if f.aY=4 then y3 c f else if f.aY=5 then y6 c f else pI c f
def s5(c:J)(id:Int):Bool:=hZ c&&(bQ c.aa id).2&&(aC c id).fS
def o8(c:J)(id m:Int):cf:=z6 (aC c id).aU m
def abn(c:J)(id m:Int):Bool:=decide ((o8 c id m).bp<4)
def J3(c:J)(id m:Int):ae:=iH (aC c id) (o8 c id m)
def y1(c:J)(id m:Int):ae:=if abn c id m then xP (J3 c id m) (o8 c id m).bT.next else J3 c id m
def Bo(c:J)(id m:Int):J:=if abn c id m then xQ c (J3 c id m) (o8 c id m).bT.next else c
def mD(c:J)(id m:Int):J:=if s5 c id then eO (Bo c id m) (y1 c id m)else c
def JQ(c:J)(id m:Int):List UInt8:=if s5 c id then y2 (aC c id).aU m else []
def JR(c:J)(id m:Int):Bool:=s5 c id&&(decide ((o8 c id m).bp=3)||decide ((o8 c id m).bp=5))
def f1(n:Int)(p:aL):Bool:=decide (p.bU=n)
def fP(xs:List aL)(n:Int):aL×Bool:=match xs.find? (f1 n)with|some p=>(p,true)|none=>(⟨0,[]⟩,false)
def g7(c:J)(n:Int):J:={c with ai:=c.ai.filter λp=>!f1 n p}
def gQ(f:al):bI:=⟨f.aP,f.data,f.aS⟩
def fg(s:ae)(f:al):ae:=
 if f.aY=8 then fF s (iw s.ag (gQ f))else if f.aY=4 then {s with ag:=jJ s.ag,i4:=if oM s.ag then false else s.i4}else if f.aY=5 then {s with gK:=false}else s
def qt(c:J)(f:al):Bool:=(bQ c.aa f.ax).2&&iv f.aY
def ju(c:J)(f:al):J:=if qt c f then eO c (fg (aC c f.ax) f)else c
def gf(s:ae)(f:al):ae:=
 if f.aY=8 then fF s (iI s.ag (gQ f))else if f.aY=4 then {s with i4:=decide (s.ag.bp=4)}else if f.aY=5 then {s with gK:=decide (s.aU.bp<2)}else if f.aY=17 then {s with k_:=true}else s
def jK(c:J)(f:al):J:=
 if f.aY=16 then {c with p2:=true}else if f.aY=18 then(if f.fG then {c with mB:=true}else {c with mA:=true})else if qt c f then lE c (gf (aC c f.ax) f)else c
def fD(c:J)(n:Int):Bool:=hZ c&&(fP c.ai n).2
def hK(c:J)(n:Int):J:=if fD c n then(fP c.ai n).1.bV.foldl ju (g7 c n)else c
def g0(c:J)(n:Int):J:=if fD c n then(fP c.ai n).1.bV.foldl jK (g7 c n)else c
def rC(v:Bool)(o p:e5):J:=
 if iz o&&iz p then⟨v,o,p,[],C3 p.cn,Ke o.cn o.ni,G7 p.mz,G7 p.fG,Bz o.mz,Bz o.fG,false,false,false,-1,0,[],0,0⟩
 else⟨false,⟨0,0,0,0,0,0,0,0⟩,⟨0,0,0,0,0,0,0,0⟩,[],⟨0,0,0,0⟩,⟨0,0,0,0,0,0⟩,⟨0,0,0⟩,⟨0,0,0⟩,⟨0,0,0,0⟩,⟨0,0,0,0⟩,false,false,false,0,0,[],0,0⟩
theorem hD.same{m:Nat}{s t:ae}(h:hD m s)(h1:t.ag=s.ag)(h2:t.aU=s.aU):hD m t:=⟨h1▸h.snd,h2▸h.fM,h2▸h.A2⟩
theorem hD.G1{m:Nat}{s:ae}(h:hD m s){x:aD}(hx:eJ (8 * m) x):hD m (fF s x):=⟨hx,h.fM,h.A2⟩
theorem bW.same{m:Nat}{c d:J}(h:bW m c)(h1:d.aa=c.aa)(h2:d.ai=c.ai):bW m d:=⟨h1▸h.nL,h1▸h.i7,h2▸h.sG,h2▸h.hY⟩
theorem bW.aC{m:Nat}{c:J}(h:bW m c)(id:Int):hD m (aC c id):=aly h.i7 id
theorem kb{c:J}{id:Int}(h:(bQ c.aa id).2):(aC c id).id=id:=(Bu h).1
theorem CW{m:Nat}{c:J}{id:Int}{s:ae}(h:bW m c)(hf:(bQ c.aa id).2)(hi:s.id=(aC c id).id)(hs:hD m s):bW m (lE c s):=
 aaL h hs (by rw[hi,kb hf];exact hf)
theorem zk(c:J)(s:ae):(fI c s).aa=c.aa/\(fI c s).ai=c.ai:=by
 unfold fI;repeat' split
 all_goals exact⟨rfl,rfl⟩
theorem z_(c:J)(s:ae):(hO c s).ag=s.ag/\(hO c s).aU=s.aU/\(hO c s).id=s.id:=by
 unfold hO;split<;>exact⟨rfl,rfl,rfl⟩
theorem alz(c:J)(s:ae):(eO c s).aa=(lE c (hO c s)).aa/\(eO c s).ai=(lE c (hO c s)).ai:=⟨rfl,(zk c s).2⟩
theorem S0{m:Nat}{c:J}{id:Int}{s:ae}(h:bW m c)(hf:(bQ c.aa id).2)(hi:s.id=id)(hs:hD m s):bW m (eO c s):=by
 obtain⟨dQ,eI,gH⟩:=z_ c s;obtain⟨dP,dO⟩:=alz c s;exact(aaL h (hs.same dQ eI) (by rw[gH,hi];exact hf)).same dP dO
theorem gx.Fy{c:J}{s:ae}(h:gx s):gx (hO c s):=by
 obtain⟨dQ,eI,gH⟩:=z_ c s;unfold gx;rw[dQ,eI];exact h
theorem Cf(c:J)(s:ae)(k:Int):(jT c s k).ag=s.ag/\(jT c s k).aU=s.aU/\(jT c s k).id=s.id:=by
 unfold jT;repeat' split
 all_goals exact⟨rfl,rfl,rfl⟩
theorem aaN{m:Nat}{c:J}(h:bW m c)(f:al):bW m (iU c f):=by
 unfold iU
 repeat' split
 all_goals first
  |exact h.same rfl rfl
  |(rename_i hf;obtain⟨dQ,eI,gH⟩:=Cf c (aC c f.ax) f.aY;exact CW h hf gH ((h.aC f.ax).same dQ eI))
def qO(f:al):Prop:=f.data.length<=60
theorem alA{c:J}{s:ae}:∀f∈gD c s,qO f:=by
 intro f hf;simp only[gD,jP,l_,mZ,p1,e7]at hf;rcases hf with ((hf|hf)|hf)|hf<;>(split at hf<;>simp at hf;subst hf;simp[qO,ow,nn])
theorem AT(c:J)(s:ae):(gD c s).length<=4:=by
 simp only[gD,jP,l_,mZ,p1,eh];have h:∀(b:Bool) (f:al),(if b=true then [f]else []).length<=1:=λb f=>by cases b<;>simp
 have h1:=h s.i4 (ow 4 s.id s.ag.cS s.ag.b0);have h2:=h (s.gK&&decide (s.aU.bp<2)) (ow 5 s.id s.oe 0);have ao:=h (m0 c s).2 (nn 17 s.id (m0 c s).1.aX);have aH:=h (oR s.cL&&s.ft&&decide (0<(s.ag.bC.length:Int))) (nn 21 s.id s.cL.aX);omega
theorem FQ{α β:Type}(g:α->List β)(k:Nat):∀(l:List α),(∀x∈l,(g x).length<=k)->(l.flatMap g).length<=k * l.length
 |[],_=>by simp
 |x::l,h=>by
  have h1:=h x ξ;have h2:=FQ g k l λy hy=>h y (by simp[hy]);rw[arM,eh,e0,auc];omega
theorem alB(c:J):(ED c).length<=3/\∀f∈ED c,qO f:=by
 unfold ED;cases(nJ c).2<;>cases(h4 c.dB c.mA).2<;>cases(h4 c.dC c.mB).2<;>simp[qO,fV]
theorem alC(c:J):(EE c).length<=3/\∀f∈EE c,qO f:=by
 unfold EE;cases oR c.cn<;>by_cases h1:c.eY.blocked=c.eY.aX<;>by_cases h2:c.eZ.blocked=c.eZ.aX<;>simp[qO,fV,h1,h2]
theorem QP{m:Nat}{c:J}(h:bW m c):(fc c).length<=102/\∀f∈fc c,qO f:=by
 unfold fc;split
 ·obtain⟨cA,db⟩:=alB c;obtain⟨qK,nI⟩:=alC c;have:=FQ (gD c) 4 c.aa λs _=>AT c s;have:=h.nL;refine⟨by simp only[eh];omega,λf hf=>?_⟩;rcases e7.1 hf with hf|hf
  ·rcases e7.1 hf with hf|hf
   ·exact db f hf
   obtain⟨s,_,hs⟩:=asK.1 hf;exact alA f hs
  exact nI f hf
 simp
structure oU(m k:Nat)(x:J)(b2:List al):Prop where
 c:bW m x
 n:b2.length<=k
 d:∀f∈b2,qO f
theorem oU.mono{m k j:Nat}{x:J}{b2:List al}(h:oU m k x b2)(hk:k<=j):oU m j x b2:=⟨h.c,by have:=h.n;omega,h.d⟩
theorem oU.add{m k:Nat}{x y:J}{b2:List al}{f:al}(h:oU m k x b2)(hy:bW m y)(hf:qO f):oU m (k+1) y (b2++[f]):=
 ⟨hy,by have:=h.n;simp;omega,λg hg=>by rcases e7.1 hg with hg|hg;exact h.d g hg;simp at hg;subst hg;exact hf⟩
theorem QQ{m k:Nat}{q:xt}{f:al}(h:oU m k q.x q.b2)(hf:qO f):oU m (k+1) (iC q f).x (iC q f).b2:=by
 unfold iC;split
 ·exact h.add (aaN h.c f) hf
 exact h.mono ω
theorem aaO{m:Nat}:∀(l:List al) (k:Nat) (q:xt),oU m k q.x q.b2->(∀f∈l,qO f)->oU m (k+l.length) (l.foldl iC q).x (l.foldl iC q).b2
 |[],k,q,h,_=>h
 |f::l,k,q,h,hl=>by
  have:=aaO l (k+1) (iC q f) (QQ h (hl f ξ)) λg hg=>hl g (by simp[hg]);rw[e0,show k+(l.length+1)=k+1+l.length from by omega];exact this
theorem aaP(r:dk)(o n:Int):((y7 r o n).length:Int)<=dJ 0 n:=by
 unfold y7;split
 ·rw[aaQ];unfold dJ;split<;>omega
 unfold dJ;simp;split<;>omega
theorem ID{s:aD}{m l:Int}(h0:0<=m)(h1:m<=1000)(hp:l2 s.aB.bS s.bC)(_:s.aB.bS<=4611686018427387903):((jV s m l).data.length:Int)<=m:=by
 unfold jV;split
 ·split
  ·rename_i hok _ r hr;have hm:r∈s.bC:=List.mem_of_getElem? hr;have sV:=(gr _).1 (((ho _).1 hp.1).1 r hm);have AF:=hp.2 r hm;have:=aaP s.aB r.low (i64.wrap (k6 r m l-r.low));simp only[kY,hr,bm,bH]at hok;obtain⟨_,k1,k2⟩:=hok;have LK:cu r.high l<=r.high:=by unfold cu;split<;>omega
   have hh:k6 r m l-r.low<=m/\0<=k6 r m l-r.low:=by
    unfold k6 at k2⊢;split
    ·rename_i g;rw[if_pos g]at k2;have e:dJ m 0=m:=by unfold dJ;split<;>omega
     rw[e]at k2⊢;rw[bw]at k2⊢<;>omega
    rename_i g;rw[bw]at g<;>omega
   have hw:i64.wrap (k6 r m l-r.low)=k6 r m l-r.low:=by rw[bw]<;>omega
   simp only;rw[hw]at this⊢;unfold dJ at this;split at this<;>omega
  simpa using h0
 simp[n7];omega
theorem aaR{s:aD}{id fB room:Int}(hp:l2 s.aB.bS s.bC)(he:s.aB.bS<=4611686018427387903):∀(n:Nat),n<=60->(pB s id fB room n).1.data.length<=60
 |0,_=>by simp[pB,n7]
 |n+1,hn=>by
  unfold pB;have:=ID (m:=(n+1:Nat)) (l:=fB) ω ω hp he;split
  ·split
   ·show(jV s ((n+1:Nat):Int) fB).data.length<=60
    omega
   exact aaR hp he n ω
  simp[n7]
theorem Iy{m:Nat}{c:J}(h:bW m c)(hm:m<=1000)(id room:Int):(m2 c id room).1.data.length<=60:=by
 have hs:=(h.aC id).snd;unfold m2;split
 ·refine aaR hs.p (by have:=hs.ak;omega) _ ?_;unfold cu;split<;>omega
 simp[n7]
theorem aaS{c:J}{id:Int}{p:bI}(h:py c id p):(bQ c.aa id).2:=by
 simp only[py,xw,bm,ed]at h;exact h.2.1
theorem IB{m:Nat}{c:J}(h:bW m c)(id:Int)(p:bI)(hp:p.data.length<=1048576):bW m (p_ c id p):=by
 unfold p_;split
 ·rename_i hok;have:=CW (s:=jC (aC c id) p) h (aaS hok) rfl ⟨QY (h.aC id).snd hp,(h.aC id).fM,(h.aC id).A2⟩;exact this.same rfl rfl
 exact h
theorem IA{m:Nat}{c:J}{id:Int}(h:bW m c)(hf:(bQ c.aa id).2):bW m (D9 c id):=by
 have:=CW (s:=px (aC c id)) h hf rfl ((h.aC id).same rfl rfl);exact this.same rfl rfl
theorem alD(l:List Int)(dw:Int):z' l dw=-1\/z' l dw∈l:=by
 unfold z';split
 ·rename_i x hx;exact atB (arK hx)
 split
 ·exact auj rfl
 exact atB ξ
theorem alE(l:List ch)(dw:Int):zL l dw=-1\/∃c∈l,c.id=zL l dw:=by
 unfold zL;split
 ·rename_i c hc;exact atB ⟨c,arK hc,rfl⟩
 rcases alD (pJ (r2 l) l) dw with h|h
 ·exact auj h
 right;unfold pJ at h⊢;obtain⟨c,hc,hx⟩:=asK.1 h;exact⟨c,hc,by simpa using((asC.1 hx).2:_) |> cY |>.symm⟩
theorem aaT:∀(cH:List Int) (l:List ch) (c:ch),c∈cH.foldl n6 l->c∈l
 |[],_,_,h=>h
 |i::cH,l,c,h=>(asC.1 (aaT cH (n6 l i) c h)).1
theorem NB{l:List ae}{s:ae}(h:s∈l):(bQ l s.id).2:=by
 unfold bQ;split
 ·rfl
 rename_i hn;rw[asF]at hn;have:=hn s h;simp[eB]at this
theorem F8{q:n5}(h:0<=fA q):(bQ q.x.aa (fA q)).2:=by
 rcases alE (A1 q) q.x.dw with h1|⟨c,hc,h1⟩
 ·unfold fA at h;omega
 have hw:=aaT q.skip (zK q.x) c hc;obtain⟨s,hs,rfl⟩:=List.mem_map.1 hw;have:=NB (asC.1 hs).1;have e:s.id=fA q:=h1;rw[<-e];exact this
theorem S1{m:Nat}(hm:m<=1000):∀(n k:Nat) (q:n5),oU m k q.x q.b2->oU m (k+n) (ja n q).x (ja n q).b2
 |0,k,q,h=>h
 |n+1,k,q,h=>by
  unfold ja;split
  ·exact h.mono ω
  rename_i h0;split
  ·split
   ·rw[show k+(n+1)=k+1+n from by omega];refine S1 hm n (k+1) (yz q) ?_;have hl:=Iy h.c hm (fA q) q.room;exact h.add (IB h.c _ _ (by unfold jU;omega)) hl
   exact h.mono ω
  refine(S1 hm n k (sM q) ⟨IA h.c (F8 ω),h.n,h.d⟩).mono ω
theorem QS{m:Nat}{c:J}(h:bW m c)(b:Int):oU m 102 (ck c b).x (ck c b).b2:=by
 obtain⟨h1,h2⟩:=QP h;exact(aaO (fc c) 0 ⟨c,[],b⟩ ⟨h,by simp,by simp⟩ h2).mono ω
theorem QT{m:Nat}{c:J}(h:bW m c)(hm:m<=1000)(b:Int):oU m 302 (dy c b).x (dy c b).b2:=(S1 hm 200 102 _ (QS h b)).mono ω
theorem agY{m:Nat}{c:J}(h:bW m c)(hm:m<=1000)(b:Int):bW (m+1) (j_ c b):=by
 have hb:=QT h hm b;unfold j_;split
 ·split
  ·exact hb.c.mono ω
  have hc:=hb.c.mono (show m<=m+1 by omega);refine⟨hc.nL,hc.i7,?_,λp hp=>?_⟩
  ·have:=hb.c.sG;simp;omega
  rcases e7.1 hp with hp|hp
  ·exact hc.hY p hp
  simp at hp;subst hp;exact⟨by have:=hb.n;show(dy c b).b2.length<=500;omega,hb.d⟩
 exact h.mono ω
theorem alF(l:List ae)(s:ae):s∈dv l s:=by
 unfold dv;split
 ·rename_i i hi;rw[asM]at hi;obtain⟨h,_⟩:=hi;exact List.mem_set h _
 have:∀(l:List ae) (q:List ae×Bool),(q.2->s∈q.1)->((l.foldl (lA s) q).2->s∈(l.foldl (lA s) q).1):=by
  intro l
  induction l with
  |nil=>intro q h;exact h
  |cons x l c_=>
   intro q h;rw[An];refine c_ _ ?_;unfold lA;split
   ·intro _;simp
   intro hq;simp only at hq⊢;exact List.mem_append_left _ (h hq)
 split
 ·rename_i h2;exact this l ([],false) ξ h2
 simp
theorem alG{id:Int}(h:bN id):nZ id 0=id:=by
 simp only[bN,cd,bm,bH]at h;unfold nZ;simp only[Int.natCast_zero,Int.mul_zero];rw[bw (n:=0) ω ω,bw]<;>omega
theorem aaU{v:Bool}{o p:e5}{id:Int}(hn:pK id o p):∀(k:Nat) (l:List ae),0<k->(bQ (oq v o p id k l) id).2=true
 |0,_,h=>by omega
 |k+1,l,_=>by
  cases k with
  |zero=>
   have hq:bN id:=by simp only[pK,bm]at hn;exact hn.1.1
   have hi:(hN v (nZ id 0) o p).id=id:=by rw[alG hq];unfold hN;rw[hn];rfl
   have:=NB (alF l (hN v (nZ id 0) o p));rw[hi]at this;exact this
  |succ k=>exact aaU hn (k+1) _ ω
theorem alH{l:List ae}{id:Int}(h:0<=g2 (eB id) l):(bQ l id).2:=by
 rcases m' (eB id) l with ⟨h1,_⟩|⟨j,aI,h1,h2,ao⟩
 ·omega
 unfold bQ;rw[h2]
theorem xS{m:Nat}{c:J}{id:Int}(hc:bW m c)(h:jg c id=0):(bQ (cD c id).aa id).2:=by
 unfold jg at h;split at h
 ·omega
 rename_i h1;simp only[ab_,Bool.not_eq_false,bm]at h1;split at h
 ·rename_i h2;have e:cD c id=c:=by
   unfold cD;have:decide (g2 (eB id) c.aa<0)=false:=bn ω;rw[this];simp
  rw[e];exact alH h2
 ·rename_i h2;split at h
  ·omega
  rename_i ao;split at h
  ·rename_i aH;have hlt:=br (p:=g2 (eB id) c.aa<0) ω;have e:(cD c id).aa=oq c.bq c.own c.cP id (mY c id).toNat c.aa:=by
    unfold cD;rw[h1.1,h1.2,hlt,aH];have GP:jw c.bq id=false:=by simpa using ao
    rw[GP];rfl
   rw[e];obtain⟨yh,_⟩:=Lu aH (by have:=hc.nL;omega);have hk:=h1.1;simp only[ew,oi,xm,bm,ed]at hk;exact aaU (by simp only[pK,bm];exact⟨⟨h1.2,hk.1⟩,hk.2.1⟩) _ _ ω
  ·omega
theorem Nr(s:ae)(e:Int):(nu s e).ag=s.ag/\(nu s e).aU=s.aU/\(nu s e).id=s.id:=by unfold nu;split<;>exact⟨rfl,rfl,rfl⟩
theorem GV(c:J)(s:ae)(e:Int):(oa c s e).aa=c.aa/\(oa c s e).ai=c.ai:=by unfold oa;split<;>exact⟨rfl,rfl⟩
def CX(m:Nat)(r:cf):Prop:=(∀c∈r.bT.cq,xf c)/\r.bT.cq.length<=m
theorem hD.alI{m:Nat}{s:ae}(h:hD m s){r:cf}(hr:CX m r):hD m (iH s r):=⟨h.snd,hr.1,hr.2⟩
theorem hD.eN{m:Nat}{s:ae}(h:hD m s):CX m s.aU:=⟨h.fM,h.A2⟩
theorem alJ{m:Nat}{r:cf}(h:CX m r)(o:Int)(d:List UInt8)(f:Bool)(hd:d.length<=8)(aG:0<=o/\o<=900):CX (m+1) (s3 r o d f):=by
 unfold s3;split
 ·have:=We r.bT.next r.bT.cq o d;exact⟨Wd h.1 aG.1 ω,by have:=h.2;simp only[CY];omega⟩
 exact⟨h.1,by have:=h.2;omega⟩
theorem alK{m:Nat}{r:cf}(h:CX m r)(c f:Int):CX m (y5 r c f):=by
 unfold y5;split
 ·exact⟨by simp,by simp⟩
 exact h
theorem alL{m:Nat}{r:cf}(h:CX m r)(k:Int):CX m (z6 r k):=by
 unfold z6;split
 ·split
  ·exact h
  exact⟨afF h.1,by have:=afG r.bT.next r.bT.cq k;have:=h.2;simp only;omega⟩
 exact h
theorem NC{m:Nat}{c x:J}{id:Int}{s:ae}(h:bW m c)(hx:x.aa=c.aa/\x.ai=c.ai)(hf:(bQ c.aa id).2)(hi:s.id=id)(hs:hD m s):bW m (eO x s):=
 S0 (h.same hx.1 hx.2) (by rw[hx.1];exact hf) hi hs
theorem S2{c:J}{f:al}(h:Bi c f=0):jg c f.ax=0:=by
 unfold Bi at h
 repeat' split at h
 all_goals first|omega|assumption
theorem S3{c:J}{f:al}(h:Bp c f=0):jg c f.ax=0:=by
 unfold Bp at h
 repeat' split at h
 all_goals first|omega|assumption
theorem S4{c:J}{f:al}(h:Br c f=0):jg c f.ax=0:=by
 unfold Br at h
 repeat' split at h
 all_goals first|omega|assumption
theorem S5{c:J}{f:al}(h:EA c f=0):jg c f.ax=0:=by
 unfold EA at h
 repeat' split at h
 all_goals first|omega|assumption
theorem aal{m:Nat}{x:J}{f:al}(h:bW m x)(hd:f.data.length<=8)(aG:0<=f.aP/\f.aP<=900):hD (m+1) (CU x f):=by
 obtain⟨dQ,eI,gH⟩:=Nr (aC x f.ax) (xO f);exact(((h.aC f.ax).mono (show m<=m+1 by omega)).same dQ eI).alI (alJ (h.aC f.ax).eN _ _ _ hd aG)
theorem S6(x:J)(f:al):(CU x f).id=(aC x f.ax).id:=(Nr (aC x f.ax) (xO f)).2.2
theorem alM{m:Nat}{c:J}{f:al}(h:bW m c)(hd:f.data.length<=8)(aG:0<=f.aP/\f.aP<=900):bW (m+1) (yW c f):=by
 unfold yW;split
 ·rename_i he;have hx:=CT h f.ax;have hf:=xS h (S2 he);exact NC (hx.mono ω) (GV _ _ _) hf ((S6 _ f).trans (kb hf)) (aal hx hd aG)
 exact h.mono ω
theorem JU(x:J)(f:al):(Bq x f).aa=x.aa/\(Bq x f).ai=x.ai:=by
 unfold Bq ND xQ;split<;>exact GV _ _ _
theorem NF(x:J)(f:al):(y4 x f).ag=(aC x f.ax).ag/\(y4 x f).aU=S7 x f/\(y4 x f).id=(aC x f.ax).id:=by
 obtain⟨dQ,eI,gH⟩:=Nr (aC x f.ax) f.bf;unfold y4 J2 xP iH;split<;>exact⟨dQ,rfl,gH⟩
theorem aat{m:Nat}{x:J}{f:al}(h:bW m x):hD m (y4 x f):=by
 obtain⟨dQ,eI,gH⟩:=NF x f;have hr:=alK (h.aC f.ax).eN f.cS f.bf;exact⟨dQ▸(h.aC f.ax).snd,by rw[eI];exact hr.1,by rw[eI];exact hr.2⟩
theorem alN{m:Nat}{c:J}{f:al}(h:bW m c):bW m (y3 c f):=by
 unfold y3;split
 ·rename_i he;have hx:=CT h f.ax;have hf:=xS h (S3 he);exact NC hx (JU _ f) hf ((NF _ f).2.2.trans (kb hf)) (aat hx)
 exact h
theorem hD.S8{m:Nat}{s:ae}(h:hD m s)(k:Int):hD m (hF s k):=⟨alu h.snd k,h.fM,h.A2⟩
theorem aau{m:Nat}{x:J}{f:al}(h:bW m x):hD m (sL x f):=by
 unfold sL;split
 ·exact(h.aC f.ax).S8 f.cS
 exact h.aC f.ax
theorem S9(x:J)(f:al):(sL x f).id=(aC x f.ax).id:=by unfold sL;split<;>rfl
theorem alO{m:Nat}{c:J}{f:al}(h:bW m c):bW m (y6 c f):=by
 unfold y6;split
 ·rename_i he;have hx:=CT h f.ax;have hf:=xS h (S4 he);exact NC hx ⟨rfl,rfl⟩ hf ((S9 _ f).trans (kb hf)) (aau hx)
 exact h
theorem alP{m:Nat}{c:J}{f:al}(h:bW m c):bW m (Bn c f):=by
 unfold Bn;split
 ·rename_i he;have hx:=CT h f.ax;have hf:=xS h (S5 he);split
  ·exact CW (id:=f.ax) hx hf rfl ((hx.aC f.ax).same rfl rfl)
  exact hx
 exact h
theorem alQ{m:Nat}{c:J}{f:al}(h:bW m c):bW m (pI c f):=by
 unfold pI
 repeat' split
 all_goals first|exact h.same rfl rfl|exact alP h
theorem agZ{m:Nat}{c:J}{f:al}(h:bW m c)(hd:f.data.length<=8)(aG:0<=f.aP/\f.aP<=900):bW (m+1) (rI c f):=by
 unfold rI
 repeat' split
 ·exact alM h hd aG
 ·exact(alN h).mono ω
 ·exact(alO h).mono ω
 exact(alQ h).mono ω
theorem Aa{c:J}{id:Int}(h:mv c id):(bQ c.aa id).2:=by simp only[mv,bm]at h;exact h.1.2
theorem agT{m:Nat}{c:J}(h:bW m c)(id:Int){d:List UInt8}(hd:d.length<=8):bW (m+1) (my c id d):=by
 unfold my;split
 ·rename_i hg;have hw:hD (m+1) (fF (aC c id) (rA (aC c id).ag d)):=((h.aC id).mono ω).G1 (by have:=aaE (h.aC id).snd hd;rw[show(8 * (m+1:Nat):Int)=8 * m+8 from by omega];exact this);exact(CW (id:=id) (h.mono (show m<=m+1 by omega)) (Aa hg) rfl hw)
 exact h.mono ω
theorem agW{m:Nat}{c:J}(h:bW m c)(id k:Int):bW m (mx c id k):=by
 unfold mx;split
 ·rename_i hg;simp only[zv,bm]at hg;have hf:=Aa hg.1;exact S0 h hf (kb hf) ((h.aC id).S8 k)
 exact h
theorem JT(c:J)(id m:Int):(Bo c id m).aa=c.aa/\(Bo c id m).ai=c.ai:=by unfold Bo xQ;split<;>exact⟨rfl,rfl⟩
theorem NG(c:J)(id m:Int):(y1 c id m).ag=(aC c id).ag/\(y1 c id m).aU=o8 c id m/\(y1 c id m).id=(aC c id).id:=by unfold y1 xP J3 iH;split<;>exact⟨rfl,rfl,rfl⟩
theorem aar{m:Nat}{c:J}(h:bW m c)(id k:Int):hD m (y1 c id k):=by
 obtain⟨dQ,eI,gH⟩:=NG c id k;have hr:=alL (h.aC id).eN k;exact⟨dQ▸(h.aC id).snd,by rw[eI];exact hr.1,by rw[eI];exact hr.2⟩
theorem agV{m:Nat}{c:J}(h:bW m c)(id k:Int):bW m (mD c id k):=by
 unfold mD;split
 ·rename_i hg;simp only[s5,bm]at hg;have hf:=hg.1.2;exact NC h (JT c id k) hf ((NG c id k).2.2.trans (kb hf)) (aar h id k)
 exact h
theorem zj{m:Nat}{c:J}(h:bW m c)(n:Int):bW m (g7 c n):=
 ⟨h.nL,h.i7,arP (arS _ _) h.sG,λp hp=>h.hY p (asC.1 hp).1⟩
theorem Fo(s:ae)(f:al):(fg s f).id=s.id:=by
 unfold fg;repeat' split
 all_goals rfl
theorem Ph{m:Nat}{s:ae}(h:hD m s)(f:al):hD m (fg s f):=by
 unfold fg;split
 ·exact h.G1 (SZ h.snd)
 split
 ·exact⟨alv h.snd,h.fM,h.A2⟩
 split
 ·exact h.same rfl rfl
 exact h
theorem HD{m:Nat}{c:J}(h:bW m c)(f:al):bW m (ju c f):=by
 unfold ju;split
 ·rename_i hg;simp only[qt,bm]at hg;exact S0 h hg.1 ((Fo _ f).trans (kb hg.1)) (Ph (h.aC _) f)
 exact h
theorem J4(s:ae)(f:al):(gf s f).id=s.id:=by
 unfold gf;repeat' split
 all_goals rfl
theorem VJ{m:Nat}{s:ae}(h:hD m s)(f:al):hD m (gf s f):=by
 unfold gf
 repeat' split
 ·exact h.G1 (aaI h.snd)
 all_goals exact h.same rfl rfl
theorem HJ{m:Nat}{c:J}(h:bW m c)(f:al):bW m (jK c f):=by
 unfold jK
 repeat' split
 all_goals first
  |exact h.same rfl rfl
  |(rename_i hg;simp only[qt,bm]at hg;exact CW h hg.1 (J4 _ f) (VJ (h.aC _) f))
theorem Dv{m:Nat}{g:J->al->J}(hg:∀c f,bW m c->bW m (g c f)):∀(l:List al) (c:J),bW m c->bW m (l.foldl g c)
 |[],_,h=>h
 |f::l,c,h=>Dv hg l (g c f) (hg c f h)
theorem QJ{m:Nat}{c:J}(h:bW m c)(n:Int):bW m (hK c n):=by
 unfold hK;split
 ·exact Dv (λc f h=>HD h f) _ _ (zj h n)
 exact h
theorem It{m:Nat}{c:J}(h:bW m c)(n:Int):bW m (g0 c n):=by
 unfold g0;split
 ·exact Dv (λc f h=>HJ h f) _ _ (zj h n)
 exact h
theorem ag0(v:Bool)(o p:e5):bW 0 (rC v o p):=by
 unfold rC;split<;>exact⟨by simp,by simp,by simp,by simp⟩
theorem Qq{P:Program}{kv:List V}{aQ:List Oper}{K:St->Prop}(Inv:Nat->List Bool->St->Prop)
  (h0:∀S σ,Inv 0 S σ->rdyE S aQ [] S=[]/\K σ)
  (h1:∀n S σ (F:List Bool->St->Prop),Inv (n+1) S σ->(∀n3 σ',Inv n n3 σ'->F n3 σ')->(rdyE S aQ [] S=[]->K σ)/\yn (rdyE S aQ [] S) λo n3=>yo P kv aQ σ o (b1 (λσ'=>F n3 σ') .mk)) :
  ∀n S σ,Inv n S σ->exE P kv aQ n S σ K
 |0,S,σ,h=>h0 S σ h
 |n+1,S,σ,h=>h1 n S σ (λn3 σ'=>exE P kv aQ n n3 σ' K) h λn3 σ' h'=>Qq Inv h0 h1 n n3 σ' h'
theorem Xd{aQ:List Oper}{S:List Bool}{Q:Prop}{x:Oper×List Bool}{r:List (Oper×List Bool)}{G:Oper->List Bool->Prop}(e:rdyE S aQ [] S=x::r)(h:yn (x::r) G):(rdyE S aQ [] S=[]->Q)/\yn (rdyE S aQ [] S) G:=⟨λh'=>(by rw[e]at h';cases h'),(by rw[e];exact h)⟩
def Yf:List (List bK):=cB 40 [12157665459056928800,12157665459056928798,12157665459056928792,12157665459056928774,12157665459056928720,12157665459056925642,12157665459056928315,12157665459056926857,12157665459056922240,12157665459056909118,12157665459056869752,12157665459056751654,12157665459056397360,12157665459055334478,12157665459052145832,12157665459042579894,12157665459013882080,12157665458927788638,12157665458669508312,12157665457894667334,12157665455570144400,12157665448596575598,12157665427675869192,12157665364913749974,12157665176627392320,12157664611768319358,12157662917191100472,12157657833459443814,12157642582264473840,12157596828679563918,12157459567924834152,12157047785660644854,12155812438868076960,12152106398490373278,12140988277357262232,12107633913957929094,12007570823759929680,11707381553165931438,10806813741383936712,8105110306037952534]
attribute [go_sem] Yf
theorem L2{P:Program}{kv:List V}{aQ:List Oper}{σ:St}{K:St->Prop}(s:St)(h:exE P kv aQ aQ.length (ea aQ.length false) σ (λσ'=>σ'=s))(hk:K s):Gc P kv aQ.toArray σ K:=lM (λσ'=>σ'=s) h (λσ' e=>by rw[e];exact hk)
def oneB(b:Bool):Int:=if b then 1 else 0
theorem sA(b:Bool):aM 178 [.one (.bool b)] [.one (.i (oneB b))]:=by
 refine aW 4 func178 call178 [.tmp 2] ?_;intro _
 try simp only[go_sem]
 repeat'(refine bX (λh=>?_) (λh=>?_)<;>simp only[go_sem])
 all_goals simp_all [oneB]
def Re:List (Nat×List Bool):=[(12,[false,false,false,false,false,false,false,false,false,false,false,false]),(11,[true,false,false,false,false,false,false,false,false,false,false,false]),(11,[false,false,true,false,false,false,false,false,false,false,false,false]),(11,[false,false,false,false,true,false,false,false,false,false,false,false]),(10,[true,true,false,false,false,false,false,false,false,false,false,false]),(10,[true,false,true,false,false,false,false,false,false,false,false,false]),(10,[true,false,false,false,true,false,false,false,false,false,false,false]),(10,[false,false,true,true,false,false,false,false,false,false,false,false]),(10,[false,false,true,false,true,false,false,false,false,false,false,false]),(10,[false,false,false,false,true,true,false,false,false,false,false,false]),(9,[true,true,true,false,false,false,false,false,false,false,false,false]),(9,[true,true,false,false,true,false,false,false,false,false,false,false]),(9,[true,true,false,false,false,false,true,false,false,false,false,false]),(9,[true,false,true,true,false,false,false,false,false,false,false,false]),(9,[true,false,true,false,true,false,false,false,false,false,false,false]),(9,[true,false,false,false,true,true,false,false,false,false,false,false]),(9,[false,false,true,true,true,false,false,false,false,false,false,false]),(9,[false,false,true,false,true,true,false,false,false,false,false,false]),(8,[true,true,true,true,false,false,false,false,false,false,false,false]),(8,[true,true,true,false,true,false,false,false,false,false,false,false]),(8,[true,true,true,false,false,false,true,false,false,false,false,false]),(8,[true,true,false,false,true,true,false,false,false,false,false,false]),(8,[true,true,false,false,true,false,true,false,false,false,false,false]),(8,[true,true,false,false,false,false,true,true,false,false,false,false]),(8,[true,false,true,true,true,false,false,false,false,false,false,false]),(8,[true,false,true,false,true,true,false,false,false,false,false,false]),(8,[false,false,true,true,true,true,false,false,false,false,false,false]),(7,[true,true,true,true,true,false,false,false,false,false,false,false]),(7,[true,true,true,true,false,false,true,false,false,false,false,false]),(7,[true,true,true,false,true,true,false,false,false,false,false,false]),(7,[true,true,true,false,true,false,true,false,false,false,false,false]),(7,[true,true,true,false,false,false,true,true,false,false,false,false]),(7,[true,true,false,false,true,true,true,false,false,false,false,false]),(7,[true,true,false,false,true,false,true,true,false,false,false,false]),(7,[true,false,true,true,true,true,false,false,false,false,false,false]),(6,[true,true,true,true,true,true,false,false,false,false,false,false]),(6,[true,true,true,true,true,false,true,false,false,false,false,false]),(6,[true,true,true,true,false,false,true,true,false,false,false,false]),(6,[true,true,true,false,true,true,true,false,false,false,false,false]),(6,[true,true,true,false,true,false,true,true,false,false,false,false]),(6,[true,true,false,false,true,true,true,true,false,false,false,false]),(5,[true,true,true,true,true,true,true,false,false,false,false,false]),(5,[true,true,true,true,true,false,true,true,false,false,false,false]),(5,[true,true,true,true,false,false,true,true,true,false,false,false]),(5,[true,true,true,false,true,true,true,true,false,false,false,false]),(4,[true,true,true,true,true,true,true,true,false,false,false,false]),(4,[true,true,true,true,true,false,true,true,true,false,false,false]),(4,[true,true,true,true,false,false,true,true,true,true,false,false]),(3,[true,true,true,true,true,true,true,true,true,false,false,false]),(3,[true,true,true,true,true,false,true,true,true,true,false,false]),(2,[true,true,true,true,true,true,true,true,true,true,false,false]),(1,[true,true,true,true,true,true,true,true,true,true,true,false]),(0,[true,true,true,true,true,true,true,true,true,true,true,true])]
def Mj(eV fp:Int)(e2:List UInt8)(fW:Bool)(fN fK f0:Int)(gb:Bool)(S:List Bool):St:=⟨(.agg [.i 8,.i eV,.i fp,.d (.str e2),.d (.bool fW),.i fN,.i fK,.i f0,.d (.bool gb)]::.ptr 0 0 0::.ptr 1 0 0::.ptr 2 0 0::.ptr 0 0 0::.i 8::.agg [.i 8,.i 0,.i 0,.d (.str []),.d (.bool false),.i 0,.i 0,.i 0,.d (.bool false)]::.agg [.i 8,.i eV,.i fp,.d (.str e2),.d (.bool fW),.i fN,.i fK,.i f0,.d (.bool gb)]::.d (.bool true)::.ptr 0 0 1::.i eV::.ptr 2 0 1::.ptr 0 0 0::.i 8::aA 3 (.d (.bool false)::.d (.bool false)::aA 6 (.d (.bool false)::.d (.bool false)::aA 3 (.d (.bool true)::.d (.bool true)::(aK S 0 (.ptr 0 0 2))::(aK S 1 (.i fp))::(aK S 2 (.ptr 0 0 3))::(aK S 3 (.d (.str e2)))::(aK S 4 (.ptr 0 0 4))::(aK S 5 (.d (.bool fW)))::(aK S 6 (.ptr 2 0 2))::(aK S 8 (.ptr 2 0 3))::(aK S 10 (.ptr 2 0 4))::aA 10 [])))),[.box [.i 8,.i eV,.i fp,.d (.str e2),.d (.bool fW),.i fN,.i fK,.i f0,.d (.bool gb)],.box al.ca,.box [.i 8,.i eV,(bif S.getD 7 false then .i fp else .i 0),(bif S.getD 9 false then .d (.str e2)else .d (.str [])),(bif S.getD 11 false then .d (.bool fW)else .d (.bool false)),.i 0,.i 0,.i 0,.d (.bool false)]]⟩
theorem air(e6 eV fp:Int)(e2:List UInt8)(fW:Bool)(fN fK f0:Int)(gb:Bool):aM 172 [.agg [.i e6,.i eV,.i fp,.str e2,.bool fW,.i fN,.i fK,.i f0,.bool gb]] [.agg (al.enc (jj (⟨e6,eV,fp,e2,fW,fN,fK,f0,gb⟩:al)))]:=by
 refine aW 51 func172 call172 [.cell 2 56] ?_;intro _;by_cases dK:e6=8
 ·subst dK;have ak:iv 8:=rfl
  try simp only[go_sem]
  repeat'(refine af.intro (by apply Fm) ?_<;>simp only[go_sem,ak,show decide ((8:Int)=4)=false from rfl,show decide ((8:Int)=5)=false from rfl])
  refine lM (λσ'=>σ'=Mj eV fp e2 fW fN fK f0 gb (ea 12 true)) ?_ ?_
  ·refine Qq (λn S σ=>(n,S)∈Re/\σ=Mj eV fp e2 fW fN fK f0 gb S) ?_ ?_ _ _ _ ⟨by first|exact aw_ _|decide +kernel,rfl⟩
   ·rintro S σ ⟨a5,rfl⟩;simp only[Re,rD,dT,asL,or_false]at a5;repeat'(first|(cases a5 with|inl a5=>?_|inr a5=>?_)|fail)
    all_goals obtain⟨hn,rfl⟩:=a5
    all_goals(first|exact absurd hn ζ|skip)
    exact⟨rfl,rfl⟩
   rintro n S σ F ⟨a5,rfl⟩ bG;simp only[Re,rD,dT,asL,or_false]at a5;repeat'(first|(cases a5 with|inl a5=>?_|inr a5=>?_)|fail)
   all_goals obtain⟨hn,rfl⟩:=a5
   rotate_right 1
   ·exact absurd hn ω
   all_goals(
    simp only[Nat.reduceEqDiff]at hn
    try subst hn
    simp only[Mj,aK,gm,gh,d4,eF];refine Xd rfl ?_
    repeat'(first
     |exact F6
     |(refine F7 ?_ ?_)
     |exact bG _ _ ⟨by first|exact aw_ _|decide +kernel,rfl⟩
     |simp only[go_sem]))
  rintro _ rfl;simp only[Mj,ea,aK,gm,gh,d4];simp only[go_sem];simp[jj,iv]
 skip
 try simp only[go_sem]
 repeat'((first|refine af.intro (by apply Fm) ?_|refine bX (λh=>?_) (λh=>?_))<;>simp only[go_sem])
 all_goals(first|(exfalso;simp only[bH,eC]at *;omega)|skip)
 all_goals(try(apply L2;(focus ((repeat'(first|exact F6|(refine F7 ?_ ?_)|(refine L3 rfl ?_)|(refine L4 rfl ?_)|(simp only[go_sem])));all_goals exact rfl));simp only[go_sem]))
 all_goals(simp only[bH,eC]at *;first|(exfalso;omega)|(exfalso;simp_all [iv];done)|(simp[jj, *];done)|(simp[jj,iv]at *;simp[ *];done)|(simp_all [jj,iv];done))
theorem ais(f:al):(bif bif bif bif bif bif !kindOk f.aY then true else !decide (f=jj f)then true else !bN f.ax then true else !bN f.aP then true else !bN f.cS then true else !bN f.aX then true else !bN f.bf)=!(kindOk f.aY&&decide (f=jj f)&&bN f.ax&&bN f.aP&&bN f.cS&&bN f.aX&&bN f.bf):=by
 cases kindOk f.aY<;>cases decide (f=jj f)<;>cases bN f.ax<;>cases bN f.aP<;>cases bN f.cS<;>cases bN f.aX<;>cases bN f.bf<;>rfl
def Gd(f:al):Bool:=kindOk f.aY&&decide (f=jj f)&&bN f.ax&&bN f.aP&&bN f.cS&&bN f.aX&&bN f.bf
theorem ait(f:al):eu f=(Gd f&&if f.aY=18\/f.aY=22 then decide (f.aX<=1152921504606846976)else(decide ((f.data.length:Int)<=400)&&decide (f.aP<=i64.wrap (4611686018427387903-(f.data.length:Int))))):=by
 by_cases hu:jj f=f
 ·have h1:f.aP=if f.aY=8 then f.aP else 0:=congrArg al.aP hu.symm
  have h2:f.data=if f.aY=8 then f.data else []:=congrArg al.data hu.symm
  have ak:=br (p:=jj f=f) hu;have ar:=br (p:=f=jj f) hu.symm;unfold eu zM Gd;rw[ak,ar];by_cases dK:f.aY=8
  ·have iB:¬(f.aY=18\/f.aY=22):=by omega
   simp only[dK,if_true];rw[<-dK];simp only[iB,if_false];have e:(!decide (400<(f.data.length:Int)))=decide ((f.data.length:Int)<=400):=by by_cases h:(f.data.length:Int)<=400<;>simp[h]<;>omega
   rw[e];simp only[Bool.and_assoc]
  rw[if_neg dK]at h1 h2;have w:decide ((0:Int)<=i64.wrap (4611686018427387903-(([]:List UInt8).length:Int))):=by decide
  by_cases iB:f.aY=18\/f.aY=22
  ·rw[if_neg dK,if_pos iB,if_pos iB,h1,h2];simp
  rw[if_neg dK,if_neg iB,if_neg iB,h1,h2,w];simp
 have ak:=bn (p:=jj f=f) hu;have ar:=bn (p:=f=jj f) (λh=>hu h.symm);unfold eu zM Gd;rw[ak,ar];simp
theorem pe(e6 eV fp:Int)(e2:List UInt8)(fW:Bool)(fN fK f0:Int)(gb:Bool):aM 109 [.agg [.i e6,.i eV,.i fp,.str e2,.bool fW,.i fN,.i fK,.i f0,.bool gb]] [.one (.bool (eu (⟨e6,eV,fp,e2,fW,fN,fK,f0,gb⟩:al)))]:=by
 refine aW 67 func109 call109 [.tmp 2] ?_;intro _;have hk:decide (zN e6=[])=!kindOk e6:=by have:=Yc e6;rw[<-this];cases zN e6<;>rfl
 have hf:=Ye (⟨e6,eV,fp,e2,fW,fN,fK,f0,gb⟩:al) (jj (⟨e6,eV,fp,e2,fW,fN,fK,f0,gb⟩:al));simp only at hf;have ah:=ais (⟨e6,eV,fp,e2,fW,fN,fK,f0,gb⟩:al)
 try simp only[go_sem]
 repeat'((first|refine av.intro (by first|apply aip|apply air|apply pW) ?_|apply fY|refine a7 Yf χ ψ ?_)<;>simp only[go_sem,hk,hf])
 rw[ah];rw[ait];cases ep:Gd (⟨e6,eV,fp,e2,fW,fN,fK,f0,gb⟩:al)
 ·unfold Gd at ep;rw[ep];simp only[go_sem,b7]
  try simp
 unfold Gd at ep;rw[ep];simp only[go_sem,bz]
 try simp only[go_sem]
 repeat'((first|apply bo|refine bX (λh=>?_) (λh=>?_))<;>simp only[go_sem])
 ·have h':e6=18\/e6=22:=by revert h;simp
  simp[h']
 have h':¬(e6=18\/e6=22):=by revert h;simp
 simp only[if_neg h',c2]
def Xy:List (List bK):=cB 10 [55769,57958,58963,58945,59008,58810,58324,56863,52488,39366]
attribute [go_sem] Xy
theorem Xz(c:J):aM 256 [.agg (J.enc c)] [.agg (ej.enc ((nJ c).1)),.one (.bool (nJ c).2)]:=by
 refine aW 26 func256 call256 [.cell 2 30,.tmp 3] ?_;intro _
 try simp only[go_sem]
 repeat'(refine af.intro (by apply QL) ?_<;>simp only[go_sem])
 cases h:rF c.c7
 ·simp only[go_sem];apply L2;(focus ((repeat'(first|exact F6|(refine F7 ?_ ?_)|(refine L3 rfl ?_)|(refine L4 rfl ?_)|(simp only[go_sem])));all_goals exact rfl));simp only[go_sem];simp[nJ,h]
 try simp only[go_sem]
 repeat'(refine af.intro (by apply XA) ?_<;>simp only[go_sem])
 simp[nJ,h]
theorem L5(fj fk fl fm:Int)(t:Bool):aM 257 [.agg [.i fj,.i fk,.i fl,.i fm],.one (.bool t)] [.agg [.i ((h4 (⟨fj,fk,fl,fm⟩:d9) t).1).cm,.i ((h4 (⟨fj,fk,fl,fm⟩:d9) t).1).aX,.i ((h4 (⟨fj,fk,fl,fm⟩:d9) t).1).seen,.i ((h4 (⟨fj,fk,fl,fm⟩:d9) t).1).cX],.one (.bool ((h4 (⟨fj,fk,fl,fm⟩:d9) t).2))]:=by
 refine aW 19 func257 call257 [.cell 4 34,.tmp 5] ?_;intro _
 try simp only[go_sem]
 repeat'((first|refine af.intro (by first|apply XB|apply ag5) ?_|refine bX (λh=>?_) (λh=>?_))<;>simp only[go_sem])
 all_goals simp[h4, *]
theorem ag6(s:ae):(bif bif !s.fS then true else decide (s.aU.bp≠0)then true else s.i5)=!sE s:=by
 unfold sE;cases s.fS<;>cases s.i5<;>by_cases h:s.aU.bp=0<;>simp[h]
theorem XC(c:J)(s:ae):aM 298 [.agg (J.enc c),.agg (ae.enc s)] [.agg (ej.enc ((m0 c s).1)),.one (.bool (m0 c s).2)]:=by
 refine aW 43 func298 call298 [.cell 4 30,.tmp 5] ?_;intro _;have bY:=ag6 s
 try simp only[go_sem]
 repeat'(apply bo<;>simp only[go_sem])
 rw[bY];cases hg:sE s
 ·try simp only[go_sem,b7]
  all_goals simp[m0, *]
 try simp only[go_sem,bz]
 repeat'(refine af.intro (by apply QL) ?_<;>simp only[go_sem])
 cases h:rF s.bL
 ·simp only[go_sem];apply L2;(focus ((repeat'(first|exact F6|(refine F7 ?_ ?_)|(refine L3 rfl ?_)|(refine L4 rfl ?_)|(simp only[go_sem])));all_goals exact rfl));simp only[go_sem];simp[m0,h,hg]
 try simp only[go_sem]
 repeat'(refine af.intro (by apply XA) ?_<;>simp only[go_sem])
 simp[m0,h,hg]
theorem W1(s:ae):(bif bif oR s.cL then s.ft else false then decide (0<(s.ag.bC.length:Int))else false)=(oR s.cL&&s.ft&&decide (0<(s.ag.bC.length:Int))):=by cases oR s.cL<;>cases s.ft<;>rfl
theorem W0(s:ae):(bif s.gK then decide (s.aU.bp<2)else false)=(s.gK&&decide (s.aU.bp<2)):=by cases s.gK<;>rfl
theorem ag7(c:J)(s:ae):aM 258 [.agg (J.enc c),.agg (ae.enc s)] [.one (.azE (gD c s))]:=by
 refine m_ 78 func258 call258 [.tmp 4] ?_;intro ok;clear ok;have ah:gD c s=jP s++l_ s++mZ c s++p1 s:=rfl;have d':=AT c s;rw[ah]at d';simp only[eh]at d';refine eE bE 3 (α:=List al) (λfs=>⟨(.an::.an::.ptr 0 0 0::.ptr 1 0 0::.an::.sl 2 0 fs.length::aA 72 []),[.box (J.bx c),.box (ae.bx s),.azy fs]⟩) (λfs=>fs=jP s) ?_ ?_
 ·skip
  try simp only[go_sem]
  cases h:s.i4
  ·simp only[go_sem];refine cZ.intro (jP s) [0,1,2] rfl ?_;simp only[go_sem];simp[jP,h]
  try simp only[go_sem]
  repeat'(first|refine⟨ae7,?_⟩|fail)
  refine cZ.intro (jP s) [0,1,4] rfl ?_;simp only[go_sem];simp[jP,h,ow,al.enc]
 rintro fs dj;have ef:fs.length<=4:=by rw[dj];(try simp only[eh]);omega
 refine eE bE 1 (α:=List al) (λfs=>⟨(.an::.an::.ptr 0 0 0::.ptr 1 0 0::.an::.sl 2 0 fs.length::aA 72 []),[.box (J.bx c),.box (ae.bx s),.azy fs]⟩) (λfs=>fs=jP s++l_ s) ?_ ?_
 ·skip
  try simp only[go_sem]
  repeat'(apply bo<;>simp only[go_sem])
  rw[W0 s];cases h:s.gK&&decide (s.aU.bp<2)
  ·simp only[go_sem];refine cZ.intro (jP s++l_ s) [0,1,2] rfl ?_;simp only[go_sem];simp[l_,h,dj]
  try simp only[go_sem,I]
  repeat'(first|refine⟨ae7,?_⟩|fail)
  refine cZ.intro (jP s++l_ s) [0,1,4] rfl ?_;simp only[go_sem];simp[l_,h,dj,ow,al.enc]
 rintro fs dj;have ef:fs.length<=4:=by rw[dj];(try simp only[eh]);omega
 refine eE bE 2 (α:=List al) (λfs=>⟨(.an::.an::.ptr 0 0 0::.ptr 1 0 0::.an::.sl 2 0 fs.length::aA 72 []),[.box (J.bx c),.box (ae.bx s),.azy fs]⟩) (λfs=>fs=jP s++l_ s++mZ c s) ?_ ?_
 ·skip
  try simp only[go_sem]
  repeat'(refine af.intro (by apply XC) ?_<;>simp only[go_sem])
  cases h:(m0 c s).2
  ·simp only[go_sem];refine cZ.intro (jP s++l_ s++mZ c s) [0,1,2] rfl ?_;simp only[go_sem];simp[mZ,h,dj]
  try simp only[go_sem,I]
  repeat'(first|refine⟨ae7,?_⟩|fail)
  refine cZ.intro (jP s++l_ s++mZ c s) [0,1,5] rfl ?_;simp only[go_sem];simp[mZ,h,dj,nn,al.enc]
 rintro fs dj;have ef:fs.length<=4:=by rw[dj];(try simp only[eh]);omega
 refine gJ bE ?_
 try simp only[go_sem]
 repeat'((first|refine af.intro (by apply XD) ?_|apply bo)<;>simp only[go_sem,I])
 rw[W1 s];cases h:oR s.cL&&s.ft&&decide (0<(s.ag.bC.length:Int))
 ·have bG:p1 s=[]:=by unfold p1;rw[h];rfl
  try simp only[go_sem,I]
  repeat'(first|refine⟨ae7,?_⟩|fail)
  rw[ah,<-dj,bG];simp
 have bG:p1 s=[nn 21 s.id s.cL.aX]:=by unfold p1;rw[h];rfl
 try simp only[go_sem,I]
 repeat'(first|refine⟨ae7,?_⟩|fail)
 rw[ah,<-dj,bG];simp[nn,al.enc,eA]
def fJ(c:J):List al:=(if(nJ c).2 then [fV 16 (nJ c).1.aX false]else [])
def gp(c:J):List al:=(if(h4 c.dB c.mA).2 then [fV 18 (h4 c.dB c.mA).1.aX false]else [])
def g3(c:J):List al:=(if(h4 c.dC c.mB).2 then [fV 18 (h4 c.dC c.mB).1.aX true]else [])
def lT(c:J):List al:=(if oR c.cn then [fV 20 c.cn.aX false]else [])
def n2(c:J):List al:=(if c.eY.blocked=c.eY.aX then [fV 22 c.eY.aX false]else [])
def xn(c:J):List al:=(if c.eZ.blocked=c.eZ.aX then [fV 22 c.eZ.aX true]else [])
theorem zB(b:Prop)[Decidable b](f:al):(if b then [f]else []).length<=1:=by split<;>simp
theorem ag8(c:J)(hz:gZ c):aM 199 [.agg (J.enc c)] [.one (.azE (fc c))]:=by
 refine m_ 113 func199 call199 [.tmp 2] ?_;intro ok;clear ok;have mo:c.aa.length<=30:=hz.1;have ah:fc c=if hZ c then fJ c++gp c++g3 c++c.aa.flatMap (gD c)++(lT c++n2 c++xn c)else []:=rfl
 have cA:(fJ c).length<=1:=zB _ _;have db:(gp c).length<=1:=zB _ _;have c0:(g3 c).length<=1:=zB _ _;have qK:(lT c).length<=1:=zB _ _;have nI:(n2 c).length<=1:=zB _ _;have agl:=FQ (gD c) 4 c.aa λs _=>AT c s;refine eE bE 3 (α:=List al) (λfs=>⟨(.an::.ptr 0 0 0::.an::.sl 1 0 fs.length::aA 109 []),[.box (J.bx c),.azy fs]⟩) (λfs=>fs=[]/\hZ c=true) ?_ ?_
 ·skip
  try simp only[go_sem]
  repeat'(refine af.intro (by(apply x8<;>exact aT)) ?_<;>simp only[go_sem])
  cases h:hZ c
  ·simp only[go_sem,b7];rw[ah,h];simp
  simp only[go_sem,bz];refine cZ.intro [] [0,1] (by first|exact⟨rfl,rfl⟩|rfl) ?_;simp only[go_sem];simp
 rintro fs ⟨dj,bG⟩;have ah:fc c=fJ c++gp c++g3 c++c.aa.flatMap (gD c)++(lT c++n2 c++xn c):=by rw[ah,bG];rfl
 have ef:fs.length<=0:=by rw[dj];simp
 refine eE bE 2 (α:=List al) (λfs=>⟨(.an::.ptr 0 0 0::.an::.sl 1 0 fs.length::aA 109 []),[.box (J.bx c),.azy fs]⟩) (λfs=>fs=fJ c) ?_ ?_
 ·skip
  try simp only[go_sem]
  repeat'(refine af.intro (by apply Xz) ?_<;>simp only[go_sem])
  cases h:(nJ c).2
  ·have bB:fJ c=[]:=by unfold fJ;rw[h];rfl
   simp only[go_sem];refine cZ.intro (fJ c) [0,1] rfl ?_;simp only[go_sem];simp[bB,dj]
  have bB:fJ c=[fV 16 (nJ c).1.aX false]:=by unfold fJ;rw[h];rfl
  try simp only[go_sem,I]
  repeat'(first|refine⟨ae7,?_⟩|fail)
  refine cZ.intro (fJ c) [0,4] rfl ?_;simp only[go_sem];simp[bB,dj,fV,al.enc]
 clear ef dj;rintro fs dj;have ef:fs.length<=100:=by rw[dj];(try simp only[eh]);omega
 refine eE bE 2 (α:=List al) (λfs=>⟨(.an::.ptr 0 0 0::.an::.sl 1 0 fs.length::aA 109 []),[.box (J.bx c),.azy fs]⟩) (λfs=>fs=fJ c++gp c) ?_ ?_
 ·skip
  try simp only[go_sem]
  repeat'(refine af.intro (by apply L5) ?_<;>simp only[go_sem])
  cases h:(h4 c.dB c.mA).2
  ·have bB:gp c=[]:=by unfold gp;rw[h];rfl
   simp only[go_sem];refine cZ.intro (fJ c++gp c) [0,1] rfl ?_;simp only[go_sem];simp[bB,dj]
  have bB:gp c=[fV 18 (h4 c.dB c.mA).1.aX false]:=by unfold gp;rw[h];rfl
  try simp only[go_sem,I]
  repeat'(first|refine⟨ae7,?_⟩|fail)
  refine cZ.intro (fJ c++gp c) [0,4] rfl ?_;simp only[go_sem];simp[bB,dj,fV,al.enc]
 clear ef dj;rintro fs dj;have ef:fs.length<=100:=by rw[dj];(try simp only[eh]);omega
 refine eE bE 2 (α:=List al) (λfs=>⟨(.an::.ptr 0 0 0::.an::.sl 1 0 fs.length::aA 109 []),[.box (J.bx c),.azy fs]⟩) (λfs=>fs=fJ c++gp c++g3 c) ?_ ?_
 ·skip
  try simp only[go_sem]
  repeat'(refine af.intro (by apply L5) ?_<;>simp only[go_sem])
  cases h:(h4 c.dC c.mB).2
  ·have bB:g3 c=[]:=by unfold g3;rw[h];rfl
   simp only[go_sem];refine cZ.intro (fJ c++gp c++g3 c) [0,1] rfl ?_;simp only[go_sem];simp[bB,dj]
  have bB:g3 c=[fV 18 (h4 c.dC c.mB).1.aX true]:=by unfold g3;rw[h];rfl
  try simp only[go_sem,I]
  repeat'(first|refine⟨ae7,?_⟩|fail)
  refine cZ.intro (fJ c++gp c++g3 c) [0,4] rfl ?_;simp only[go_sem];simp[bB,dj,fV,al.enc,arH]
 clear ef dj;rintro fs dj;have ef:fs.length<=100:=by rw[dj];(try simp only[eh]);omega
 refine eE bE 1 (α:=List al) (λfs=>⟨(.an::.ptr 0 0 0::.an::.sl 1 0 fs.length::aA 109 []),[.box (J.bx c),.azy fs]⟩) (λfs=>fs=fJ c++gp c++g3 c++c.aa.flatMap (gD c)) ?_ ?_
 ·simp only[go_sem];subst dj;refine cb.intro (α:=Nat×List al) (λy=>⟨(.an::.ptr 0 0 0::.an::.sl 1 0 y.2.length::aA 6 (.i y.1::aA 102 [])),[.box (J.bx c),.azy y.2]⟩)
   (λy=>c.aa.length-y.1) (λy=>y.1<=c.aa.length/\y.2=fJ c++gp c++g3 c++(c.aa.take y.1).flatMap (gD c)) (0,fJ c++gp c++g3 c) [0,1] ⟨by simp,by simp⟩ ?_ ?_
  ·simp only[go_sem];simp
  rintro⟨i,q⟩ ⟨hi,hq⟩;simp only at hi hq;by_cases h1:i<c.aa.length
  ·have aq:=aro (i:=i) (n:=c.aa.length);have az:=b_ ae.enc c.aa i h1;have hw:=asc (i:=i);have hs:fJ c++gp c++g3 c++(c.aa.take (i+1)).flatMap (gD c)=q++gD c c.aa[i]:=by
    rw[hq,gO,cy h1,ash];simp
   have iL:q.length<=3+4 * i:=by
    have:=FQ (gD c) 4 (c.aa.take i) λs _=>AT c s;rw[arJ]at this;rw[hq];simp only[eh];omega
   have agm:=AT c c.aa[i];have a5:=ag7 c c.aa[i];generalize gD c c.aa[i]=r at *
   try simp only[go_sem,I,aq]
   repeat'(first|((first|refine af.i ?_|refine av.i ?_|refine a7 Xy χ ψ ?_)<;>simp only[go_sem,I,aF,az,ae.enc])|refine⟨ae7,?_⟩|fail)
   refine bt.intro (i+1,q++r) [0,3] ⟨by simp only;omega,hs.symm⟩ (by simp only;omega) ?_;simp only[go_sem,hw];simp
  obtain⟨aq,rfl⟩:=arn (i:=i) (n:=c.aa.length);rw[da]at hq;subst hq;simp only[go_sem,I,aq];refine cZ.intro (fJ c++gp c++g3 c++c.aa.flatMap (gD c)) [0,1] rfl ?_;simp only[go_sem];simp
 clear ef dj;rintro fs dj;have ef:fs.length<=123:=by rw[dj];(try simp only[eh]);omega
 refine eE bE 1 (α:=List al) (λfs=>⟨(.an::.ptr 0 0 0::.an::.sl 1 0 fs.length::aA 109 []),[.box (J.bx c),.azy fs]⟩) (λfs=>fs=fJ c++gp c++g3 c++c.aa.flatMap (gD c)++lT c) ?_ ?_
 ·skip
  try simp only[go_sem]
  repeat'(refine af.intro (by apply XD) ?_<;>simp only[go_sem])
  cases h:oR c.cn
  ·have bB:lT c=[]:=by unfold lT;rw[h];rfl
   simp only[go_sem];refine cZ.intro (fJ c++gp c++g3 c++c.aa.flatMap (gD c)++lT c) [0,1] rfl ?_;simp only[go_sem];simp[bB,dj,arH]
  have bB:lT c=[fV 20 c.cn.aX false]:=by unfold lT;rw[h];rfl
  try simp only[go_sem,I]
  repeat'(first|refine⟨ae7,?_⟩|fail)
  refine cZ.intro (fJ c++gp c++g3 c++c.aa.flatMap (gD c)++lT c) [0,3] rfl ?_;simp only[go_sem];simp[bB,dj,fV,al.enc,arH]
 clear ef dj;rintro fs dj;have ef:fs.length<=130:=by rw[dj];(try simp only[eh]);omega
 refine eE bE 1 (α:=List al) (λfs=>⟨(.an::.ptr 0 0 0::.an::.sl 1 0 fs.length::aA 109 []),[.box (J.bx c),.azy fs]⟩) (λfs=>fs=fJ c++gp c++g3 c++c.aa.flatMap (gD c)++lT c++n2 c) ?_ ?_
 ·skip
  try simp only[go_sem]
  cases h:decide (c.eY.blocked=c.eY.aX)
  ·have bB:n2 c=[]:=by unfold n2;exact if_neg (de h)
   simp only[go_sem];refine cZ.intro (fJ c++gp c++g3 c++c.aa.flatMap (gD c)++lT c++n2 c) [0,1] rfl ?_;simp only[go_sem];simp[bB,dj,arH]
  have bB:n2 c=[fV 22 c.eY.aX false]:=by unfold n2;exact if_pos (cY h)
  try simp only[go_sem,I]
  repeat'(first|refine⟨ae7,?_⟩|fail)
  refine cZ.intro (fJ c++gp c++g3 c++c.aa.flatMap (gD c)++lT c++n2 c) [0,3] rfl ?_;simp only[go_sem];simp[bB,dj,fV,al.enc,arH]
 clear ef dj;rintro fs dj;have ef:fs.length<=130:=by rw[dj];(try simp only[eh]);omega
 refine gJ bE ?_
 try simp only[go_sem]
 cases h:decide (c.eZ.blocked=c.eZ.aX)
 ·have bB:xn c=[]:=by unfold xn;exact if_neg (de h)
  try simp only[go_sem,I]
  repeat'(first|refine⟨ae7,?_⟩|fail)
  rw[ah,<-ah_,<-ah_,<-dj,bB];simp
 have bB:xn c=[fV 22 c.eZ.aX true]:=by unfold xn;exact if_pos (cY h)
 try simp only[go_sem,I]
 repeat'(first|refine⟨ae7,?_⟩|fail)
 rw[ah,<-ah_,<-ah_,<-dj,bB];simp[fV,al.enc,eA]
theorem XL(i cj:Int)(b6:List UInt8)(cl:Bool):aM 269 [.one (.i i),.agg [.i cj,.str b6,.bool cl]] [.agg (al.enc (gE i (⟨cj,b6,cl⟩:bI)))]:=by
 refine aW 13 func269 call269 [.cell 4 56] ?_;intro _
 try simp only[go_sem]
 all_goals simp[gE]
theorem ahW(s:ae):(bif bif s.ft then decide (s.ag.bp<3)else false then bif decide (0<(s.ag.bC.length:Int))then true else decide (s.ag.aS=1)else false)=rL s:=by
 unfold rL;cases s.ft<;>cases decide (s.ag.bp<3)<;>cases decide (0<(s.ag.bC.length:Int))<;>rfl
theorem ahX(l:List ae)(i:Nat)(h:i<l.length):((l.take (i+1)).filter rL).map p9=((l.take i).filter rL).map p9++(if rL l[i]then [p9 l[i]]else []):=by
 rw[gO,cy h,asG,arO];cases hw:rL l[i]<;>simp[hw]
theorem ahk(c:J)(hz:gZ c):aM 263 [.agg (J.enc c)] [.one (.azF (zK c))]:=by
 refine ayE 49 func263 call263 [.tmp 2] ?_;have mo:=hz.1;simp only[go_sem];refine cb.intro (α:=Nat×List ch) (λy=>⟨(.an::.ptr 0 0 0::.an::.sl 1 0 y.2.length::.i y.1::aA 44 []),[.box (J.bx c),.ay 3 (y.2.map ch.enc) true]⟩)
  (λy=>c.aa.length-y.1) (λy=>y.1<=c.aa.length/\y.2=((c.aa.take y.1).filter rL).map p9) (0,[]) [0,1] ⟨by simp,by simp⟩ ?_ ?_
 ·simp only[go_sem];simp
 rintro⟨i,q⟩ ⟨hi,hq⟩;simp only at hi hq;by_cases h1:i<c.aa.length
 ·have aq:=aro (i:=i) (n:=c.aa.length);have az:=b_ ae.enc c.aa i h1;have hw:=asc (i:=i);have hs:=ahX c.aa i h1;rw[<-hq]at hs;have iL:q.length<=i:=by rw[hq,I];exact arP (arS _ _) (by simp;omega)
  have bY:=ahW c.aa[i];generalize c.aa[i]=s at *
  try simp only[go_sem,I,aF,az,ae.enc,aq]
  repeat'(first|(apply bo<;>simp only[go_sem,I])|refine⟨ae7,?_⟩|fail)
  rw[bY];cases hW:rL s
  ·rw[hW,if_neg ξ,ix]at hs;simp only[go_sem];refine bt.intro (i+1,q) [0,1] ⟨by simp only;omega,hs.symm⟩ (by simp only;omega) ?_;simp only[go_sem,hw];simp
  rw[hW,if_pos rfl]at hs
  try simp only[go_sem,I]
  repeat'(first|refine⟨ae7,?_⟩|fail)
  refine bt.intro (i+1,q++[p9 s]) [0,4] ⟨by simp only;omega,hs.symm⟩ (by simp only;omega) ?_;simp only[go_sem,hw];simp[p9,ch.enc]
 obtain⟨aq,rfl⟩:=arn (i:=i) (n:=c.aa.length);rw[da]at hq;simp only[go_sem,I,aq];simp[zK,hq]
theorem ahY(c:J)(id room:Int):(bif bif bif !ew c then true else !(bQ c.aa id).2 then true else !(aC c id).ft then true else decide (room<3))=!yA c id room:=by
 unfold yA;cases ew c<;>cases(bQ c.aa id).2<;>cases(aC c id).ft<;>cases decide (room<3)<;>rfl
theorem ahZ(c:J)(id:Int):(bif bif !ew c then true else !(bQ c.aa id).2 then true else !(aC c id).ft)=!xw c id:=by
 unfold xw;cases ew c<;>cases(bQ c.aa id).2<;>cases(aC c id).ft<;>rfl
theorem ah0(a b c:Bool):(bif bif !a then true else !b then true else !c)=!(a&&b&&c):=by cases a<;>cases b<;>cases c<;>rfl
theorem aht(c:J)(id:Int)(p:bI)(hz:gZ c)(hd:p.data.length<=1048576)(hw:gx (jC (aC c id) p)):aM 268 [.agg (J.enc c),.one (.i id),.agg [.i p.aP,.str p.data,.bool p.aS]] [.agg (J.enc ((p_ c id p))),.one (.bool (py c id p))]:=by
 refine ayE 91 func268 call268 [.cell 6 37,.tmp 7] ?_;have lL:=lo hz;have a3:p_ c id p=if py c id p then {c with cn:=iV c.cn (nq (aC c id) p),dw:=id,aa:=dv c.aa (jC (aC c id) p)}else c:=rfl
 have bB:py c id p=(xw c id&&(iD (aC c id).ag p&&m4 (aC c id).cL (nq (aC c id) p)&&m4 c.cn (nq (aC c id) p))):=rfl;have bY:=ahZ c id;obtain⟨dW,cT,dS,eW⟩:=qH hz.2.1 id;have cM:=pZ c id hz;rw[show(bQ c.aa id).1=aC c id from rfl]at dW cT dS eW cM;have hL:=oj c.aa (jC (aC c id) p) (by have:=hz.1;omega) hz.2.1 hw;generalize aC c id=s at *;have hn:i64.wrap ((ga s.ag p).b0-s.ag.b0)=nq s p:=rfl
 try simp only[go_sem]
 repeat'((first|refine af.aj (by first|assumption|(apply jd<;>exact aT)|(apply lu<;>exact aT)) ?_|refine av.j ?_|apply bo)<;>simp only[go_sem,I])
 rw[bY];cases hg:xw c id
 ·rw[hg,ap_]at bB;rw[bB]at a3;simp only[go_sem,I,b7];simp[a3,bB]
 rw[hg,af_]at bB
 try simp only[go_sem,I,bz]
 repeat'((first|refine af.aj (by first|assumption|(apply ah1<;>exact aT)|apply ah2) ?_|refine av.j ?_|apply bo)<;>simp only[go_sem,I,hn])
 have QG:=ah0 (iD s.ag p) (m4 s.cL (nq s p)) (m4 c.cn (nq s p));rw[QG,<-bB];cases hk:py c id p
 ·rw[hk]at a3;simp only[go_sem,I,b7];simp[a3]
 rw[hk]at a3
 try simp only[go_sem,I,bz]
 repeat'(first|((first|refine af.j ?_|refine av.j ?_)<;>simp only[go_sem,I,jC])|refine⟨ae7,?_⟩|fail)
 simp[a3,jC]
def XZ:List (List bK):=cB 12 [501929,501927,501921,521950,521896,521734,531076,529618,525244,511771,472392,354294]
attribute [go_sem] XZ
theorem ahq(c:J)(id room:Int)(m:Nat)(hv:bW m c)(hm:m<=20):aM 266 [.agg (J.enc c),.one (.i id),.one (.i room)] [.agg [.i ((m2 c id room).1).aP,.str ((m2 c id room).1).data,.bool ((m2 c id room).1).aS],.one (.bool (m2 c id room).2)]:=by
 refine ayE 73 func266 call266 [.cell 6 77,.tmp 7] ?_;have hz:=hv.sz hm;have pA:=(hv.aC id).snd;have F_:=pA.p;have nr:(aC c id).ag.aB.bS<=4611686018427387903:=by have:=pA.ak;omega
 clear pA;have a3:m2 c id room=if yA c id room then pB (aC c id).ag id (Cm c (aC c id)) room (cu room 60).toNat else(n7,false):=rfl
 have bY:=ahY c id room;have hl:Cm c (aC c id)=cu (aC c id).cL.aX (i64.wrap ((aC c id).ag.b0+yB c.cn)):=rfl;obtain⟨dW,cT,dS,eW⟩:=qH hz.2.1 id;have cM:=pZ c id hz;rw[show(bQ c.aa id).1=aC c id from rfl]at dW cT dS eW cM;have H7:yA c id room->3<=room:=λh=>by
  simp only[yA,bm,ab_,eC]at h;omega
 generalize aC c id=s at *
 try simp only[go_sem]
 repeat'((first|refine af.aj (by first|assumption|(apply lu<;>exact aT)) ?_|refine av.j ?_|apply bo)<;>simp only[go_sem,I])
 rw[bY];cases hg:yA c id room
 ·rw[hg]at a3;simp only[go_sem,b7];simp[a3,n7]
 rw[hg,if_pos rfl]at a3;have ao:=H7 hg
 try simp only[go_sem,bz]
 repeat'((first|refine af.j ?_|refine av.aj (by first|assumption|apply ah3) ?_|refine a7 XZ χ ψ ?_)<;>simp only[go_sem])
 obtain⟨N,bB⟩:=mU (show 0<=cu room 60 by unfold cu;split<;>omega);have ah4:cu room 60<=60:=by unfold cu;split<;>omega
 have Mc:N<=60:=by omega
 rw[bB,aF]at a3;have ah5:(if 60<room then 60 else room)=(N:Int):=by rw[<-bB];rfl
 have B':(if i64.wrap (s.ag.b0+yB c.cn)<s.cL.aX then i64.wrap (s.ag.b0+yB c.cn)else s.cL.aX)=Cm c s:=rfl;generalize Cm c s=fB at *;refine cb.intro (λn:Nat=>⟨(.an::.i id::.i room::.ptr 0 0 0::.an::.an::.ptr 1 0 0::.an::.ptr 7 0 0::.an::.i fB::.i n::aA 61 []),[.box (J.bx c),.box [.i 0,.d (.str []),.d (.bool false)],.aj 1 (s.ag.aB.cells.map bg),.aj 2 (s.ag.bC.map ab.enc),.aj 2 (s.ag.bc.map ab.enc),.aj 2 (s.ag.bJ.map ab.enc),.aj 2 (s.aU.bT.cq.map aR.enc),.box (ae.a2 s (.sl 2 0 s.ag.aB.cells.length) (.sl 3 0 s.ag.bC.length) (.sl 4 0 s.ag.bc.length) (.sl 5 0 s.ag.bJ.length) (.sl 6 0 s.aU.bT.cq.length))]⟩)
  (λn=>n) (λn=>n<=60/\pB s.ag id fB room n=m2 c id room) N [0,1,2,3,4,5,6,7] ⟨Mc,a3.symm⟩ ?_ ?_
 ·simp only[go_sem];simp[ah5,B']
 rintro n ⟨hn,ah⟩
 cases n with
 |zero=>
  have hd:decide ((0:Int)<((0:Nat):Int))=false:=by decide
  simp only[go_sem,hd];rw[pB]at ah;rw[<-ah];simp[n7]
 |succ k=>
  have hd:=br (p:=(0:Int)<((k+1:Nat):Int)) ω;have hw:i64.wrap (((k+1:Nat):Int)-1)=(k:Int):=by rw[bw]<;>omega
  rw[pB]at ah;have X0:=ah6 s.ag.bp s.ag.aB.size s.ag.aB.base s.ag.aB.bS s.ag.aB.cells s.ag.bC s.ag.bc s.ag.bJ s.ag.bf s.ag.aS s.ag.b0 s.ag.cS ((k+1:Nat):Int) fB ω;change PureCall _ _ _ (xx s.ag ((k+1:Nat):Int) fB)at X0;simp only[xx]at X0;generalize hp:jV s.ag ((k+1:Nat):Int) fB=p at *
  try simp only[go_sem,I,hd]
  repeat'((first|refine af.i ?_|refine av.i ?_)<;>simp only[go_sem])
  cases hok:kY s.ag ((k+1:Nat):Int) fB
  ·rw[hok]at ah;simp only[go_sem,b7];rw[<-ah];simp[n7]
  rw[hok,if_pos rfl]at ah;have gz:p.data.length<=1048576:=by
   have:=ID (m:=((k+1:Nat):Int)) (l:=fB) ω ω F_ nr;rw[hp]at this;omega
  have Iw:=QR 8 id p.aP p.data p.aS 0 0 0 false gz;change PureCall _ _ _ [.one (.i ((eS (gE id p)).length:Int))]at Iw
  try simp only[go_sem,bz]
  repeat'((first|refine af.intro (by first|assumption|apply XL) ?_|refine av.i ?_)<;>simp only[go_sem,gE])
  cases xu:decide (((eS ⟨8,id,p.aP,p.data,p.aS,0,0,0,false⟩).length:Int)<=room)
  ·have:¬((eS (gE id p)).length:Int)<=room:=de xu;rw[if_neg this]at ah;simp only[go_sem];refine bt.intro k [0,1,2,3,4,5,6,7] ⟨by omega,ah⟩ ω ?_;simp only[go_sem,hw];simp
  have:((eS (gE id p)).length:Int)<=room:=cY xu;rw[if_pos this]at ah;rw[<-ah];simp only[go_sem]
  try simp[outOA]
def XJ:List (List bK):=cB 10 [57956,58804,58798,58780,58726,58927,58321,56862,52488,39366]
def XK:List (List bK):=cB 12 [511649,511647,511641,511663,511717,511515,511029,503010,448335,521599,478953,354294]
attribute [go_sem] XJ XK
def g8(x:J)(a b:Nat):H:=.box (J.a2 x (.sl a 0 x.aa.length) (.sl b 0 x.ai.length))
def f2(x:J):H:=.aj 39 (x.aa.map ae.enc)
def L_(x:J):H:=.aj 2 (x.ai.map aL.enc)
def sI(c x:J)(b2:List al):List H:=[.box (J.bx c),.box J.ca,g8 x 3 4,f2 x,L_ x,.azy b2]
theorem ahh(c x:J)(b2:List al)(room:Int)(m:Nat)(hv:bW m x)(hm:m<=20)(sJ:b2.length<=102)(rh:∀f∈b2,qO f)(kv:List V)(b':b3 3 kv)(K:V->List H->Prop)
  (hk:K (.sl 5 0 (ja 200 ⟨x,[],b2,room⟩).b2.length) (sI c (ja 200 ⟨x,[],b2,room⟩).x (ja 200 ⟨x,[],b2,room⟩).b2)) :
  et prog 202 kv (sI c x b2) [.ptr 2 0 0,.sl 5 0 b2.length,.i room] K:=by
 have aS:∀(q:n5) (ex:List H),q=ja 200 ⟨x,[],b2,room⟩->x' kv K (.sl 5 0 q.b2.length) (sI c q.x q.b2++ex):=by
  rintro q ex rfl;refine⟨pv 6,.sl 5 0 (ja 200 ⟨x,[],b2,room⟩).b2.length,sI c (ja 200 ⟨x,[],b2,room⟩).x (ja 200 ⟨x,[],b2,room⟩).b2,?_,hk⟩;have eQ:∀a b c,(sI a b c).length=6:=λ_ _ _=>rfl;refine Fx (hs:=sI c (ja 200 ⟨x,[],b2,room⟩).x (ja 200 ⟨x,[],b2,room⟩).b2) (ex:=ex) ?_ (qw (by rw[eQ];decide) _ b') ?_ ?_
  ·simp[sI,g8,f2,L_,e4,eN,b3,vok]
  ·simp[sI,vsees,vsee,ren]
  simp[sI,b3,vok]
 refine et.xc ?_;refine(gi (n:=92) (rs:=[.tmp 6]) func202 rfl call202 bE rfl rfl ?_);simp only[go_sem,sI,g8,f2,L_];refine cb.intro (α:=Nat×n5) (λy=>⟨(.ptr 2 0 0::.sl 5 0 y.2.b2.length::.i y.2.room::aA 4 (.sl 6 0 y.2.skip.length::.i (200-(y.1:Int))::aA 83 [])),[.box (J.bx c),.box J.ca,.azG y.2.x 3 4,.aj 39 (y.2.x.aa.map ae.enc),.aj 2 (y.2.x.ai.map aL.enc),.azy y.2.b2,.azu y.2.skip]⟩)
  (λy=>y.1) (λy=>y.1<=200/\ja y.1 y.2=ja 200 ⟨x,[],b2,room⟩/\oU m (302-y.1) y.2.x y.2.b2/\y.2.skip.length+y.1<=200) (200,⟨x,[],b2,room⟩) [0,1,2,3,4,5,6] ⟨by simp,rfl,⟨hv,by simpa using sJ,rh⟩,by simp⟩ ?_ ?_
 ·simp only[go_sem];simp;exact yd (BR (show 3<=7 by decide)) ζ b'
 rintro⟨n,q⟩ ⟨hn,ah,aE,QU⟩;simp only at hn ah aE QU;have hz:=aE.c.sz hm
 cases n with
 |zero=>
  have hd:decide ((200:Int)-((0:Nat):Int)<200)=false:=by decide
  rw[ja]at ah;simp only[go_sem,hd];exact aS q [.azu q.skip] ah
 |succ k=>
  have hd:=br (p:=(200:Int)-((k+1:Nat):Int)<200) ω;have hw:i64.wrap ((200:Int)-((k+1:Nat):Int)+1)=200-(k:Int):=by rw[bw]<;>omega
  have ahj:q.skip.length<=200:=by omega
  try simp only[go_sem,I,hd]
  repeat'(refine af.intro (by(apply ahk<;>exact aT)) ?_<;>simp only[go_sem,I])
  have QV:(zK q.x).length<=30:=by
   unfold zK;rw[I];exact arP (arS _ _) hz.1
  have ahl:∀(cH:List Int) (l:List ch),(cH.foldl n6 l).length<=l.length:=by
   intro cH;induction cH with
   |nil=>intro l;exact fH _
   |cons i cH c_=>intro l;exact arP (c_ (n6 l i)) (arS _ _)
  refine cb.intro (α:=Nat×List ch) (λy=>⟨(.ptr 2 0 0::.sl 5 0 q.b2.length::.i q.room::aA 4 (.sl 6 0 q.skip.length::.i (200-((k+1:Nat):Int))::.sl 7 0 y.2.length::.i y.1::aA 81 [])),[.box (J.bx c),.box J.ca,.azG q.x 3 4,.aj 39 (q.x.aa.map ae.enc),.aj 2 (q.x.ai.map aL.enc),.azy q.b2,.azu q.skip,.ay 3 (y.2.map ch.enc) true]⟩)
   (λy=>q.skip.length-y.1) (λy=>y.1<=q.skip.length/\y.2=(q.skip.take y.1).foldl n6 (zK q.x)) (0,zK q.x) [0,1,2,3,4,5,6,7] ⟨by simp,by simp⟩ ?_ ?_
  ·simp only[go_sem];simp;exact yd (BR (show 3<=8 by decide)) ζ b'
  rintro⟨j,l⟩ ⟨aI,hl⟩;simp only at aI hl;have arx:l.length<=30:=by rw[hl];exact arP (ahl _ _) QV
  by_cases h1:j<q.skip.length
  ·have aq:=aro (i:=j) (n:=q.skip.length);have az:=b_ bg q.skip j h1;have Ix:=asc (i:=j);have hs:(q.skip.take (j+1)).foldl n6 (zK q.x)=n6 l q.skip[j]:=by
    rw[gO,cy h1,arD,<-hl];rfl
   try simp only[go_sem,I,aF,az,bg,aq]
   repeat'(first|((first|refine af.intro (by first|assumption|(apply ahm<;>exact aT)) ?_|refine av.i ?_)<;>simp only[go_sem,I])|refine⟨ae7,?_⟩|fail)
   refine bt.intro (j+1,n6 l q.skip[j]) [0,1,2,3,4,5,6,8] ⟨by simp only;omega,hs.symm⟩ (by simp only;omega) ?_;simp only[go_sem,Ix];simp;exact yd (λi hi=>by match i,hi with|0,_=>rfl|1,_=>rfl|2,_=>rfl) ζ b'
  obtain⟨aq,rfl⟩:=arn (i:=j) (n:=q.skip.length);rw[da]at hl;have sK:l=A1 q:=hl;clear hl;subst sK;have ahn:=aho (A1 q) q.x.dw ω;rw[show zL (A1 q) q.x.dw=fA q from rfl]at ahn;have QW:=F8 (q:=q);rw[ja]at ah;have ahp:=ahq q.x (fA q) q.room m aE.c hm;rw[show m2 q.x (fA q) q.room=jU q from rfl]at ahp;have gz:(jU q).1.data.length<=60:=Iy aE.c ω (fA q) q.room
  try simp only[go_sem,I,aq]
  repeat'(first|((first|refine af.i ?_|refine av.i ?_)<;>simp only[go_sem])|refine⟨ae7,?_⟩|fail)
  cases Iz:decide (fA q<0)
  ·have QX:=de Iz;rw[if_neg QX]at ah
   try simp only[go_sem,I]
   repeat'((first|refine af.i ?_|refine av.i ?_)<;>simp only[go_sem])
   cases hp:(jU q).2
   ·rw[hp,if_neg ξ]at ah;simp only[go_sem,b7];have cM:=pZ q.x (fA q) hz;rw[show(bQ q.x.aa (fA q)).1=aC q.x (fA q)from rfl]at cM;have sL:gx (aC q.x (fA q)):=qH hz.2.1 _;have hL:=oj q.x.aa (px (aC q.x (fA q))) (by have:=hz.1;omega) hz.2.1 sL;have D7:=IA aE.c (QW ω);have hB:D9 q.x (fA q)={q.x with cn:=l' q.x.cn,aa:=dv q.x.aa (px (aC q.x (fA q)))}:=rfl;obtain⟨dW,cT,dS,eW⟩:=sL;generalize aC q.x (fA q)=s at *;simp only[px]at hL;refine af.lp [0,1,2,7,8,11] (by simp only[i3,arE,am_,Nat.reduceBEq,Nat.reduceAdd,d4,eF];rfl) (gi (n:=35) (rs:=[]) func267 rfl call267 bE rfl rfl ?_);simp only[go_sem,I]
    try simp only[go_sem,I,px]
    repeat'(first|((first|refine af.aj (by first|assumption|apply ahr) ?_|refine av.j ?_|refine a7 XJ χ ψ ?_)<;>simp only[go_sem,I])|refine⟨ae7,?_⟩|fail)
    try simp only[go_sem,I]
    refine bt.intro (k,sM q) [0,1,2,15,4,5,17] ⟨by simp only;omega,ah,⟨D7,by have:=aE.n;simp only[sM];omega,aE.d⟩,by simp only[sM,eh,e0,g1];omega⟩ (by simp only;omega) ?_;simp only[go_sem,hw,sM,hB,px];simp;exact⟨rfl,yd (λi hi=>by match i,hi with|0,_=>rfl|1,_=>rfl|2,_=>rfl) ζ b'⟩
   rw[hp,if_pos rfl]at ah;simp only[go_sem,bz];have ahs:gx (jC (aC q.x (fA q)) (jU q).1):=hD.sz (m:=m) (s:=jC (aC q.x (fA q)) (jU q).1) ⟨QY (aE.c.aC _).snd ω,(aE.c.aC _).fM,(aE.c.aC _).A2⟩ hm;have ary:=aht q.x (fA q) (jU q).1 hz ω ahs;have QZ:=IB aE.c (fA q) (jU q).1 ω
   try simp only[go_sem,I]
   repeat'(first|((first|refine af.j ?_|refine av.j ?_|refine a7 XK χ ψ ?_)<;>simp only[go_sem,I])|refine⟨ae7,?_⟩|fail)
   cases rK:py q.x (fA q) (jU q).1
   ·rw[rK,if_neg ξ]at ah;simp only[go_sem,b7];exact aS q _ ah
   rw[rK,if_pos rfl]at ah;have Iw:=QR 8 (fA q) (jU q).1.aP (jU q).1.data (jU q).1.aS 0 0 0 false ω;change PureCall _ _ _ [.one (.i ((eS (gE (fA q) (jU q).1)).length:Int))]at Iw;have ahu:=aE.n
   try simp only[go_sem,bz]
   repeat'(first|((first|refine af.intro (by first|assumption|apply XL) ?_|refine av.i ?_)<;>simp only[go_sem,I,gE])|refine⟨ae7,?_⟩|fail)
   refine bt.intro (k,yz q) [0,1,2,9,10,14,6] ⟨by simp only;omega,ah,(aE.add QZ (f:=gE (fA q) (jU q).1) gz).mono ω,by simp only[yz];omega⟩ (by simp only;omega) ?_;simp only[go_sem,hw,yz,gE];simp;have XM:=yd (ρ:=[0,1,2,9,10,14,6]) (m:=3) (n:=7) (λi hi=>by match i,hi with|0,_=>rfl|1,_=>rfl|2,_=>rfl) ζ b'
   first|exact⟨rfl,XM⟩|exact XM
  rw[if_pos (cY Iz)]at ah;simp only[go_sem];exact aS q [.azu q.skip,.ay 3 ((A1 q).map ch.enc) true] ah
def aen:List (List bK):=cB 22 [31381059608,31381059606,31381059600,31381059582,31381059528,31380272046,31380271560,31380270102,31380265728,31381049646,31381010280,31380892182,31380537888,31379465286,31376276640,31366710702,31338012888,31251919446,30993639120,30218798142,27894275208,20920706406]
def OQ:List (List bK):=cB 10 [57956,58804,58798,58780,58726,58927,58321,56862,52488,39366]
attribute [go_sem] aen OQ
def s'(s:ae)(m:Nat):List V:=(ae.a2 s (.sl (m+4) 0 s.ag.aB.cells.length) (.sl (m+5) 0 s.ag.bC.length) (.sl (m+6) 0 s.ag.bc.length) (.sl (m+7) 0 s.ag.bJ.length) (.sl (m+8) 0 s.aU.bT.cq.length))
def E4(s:ae):List H:=[.aj 1 (s.ag.aB.cells.map bg),.aj 2 (s.ag.bC.map ab.enc),.aj 2 (s.ag.bc.map ab.enc),.aj 2 (s.ag.bJ.map ab.enc),.aj 2 (s.aU.bT.cq.map aR.enc)]
def gg(x:J)(m:Nat)(hY:H):List H:=[g8 x (m+1) (m+2),f2 x,hY]
def x3(x:J)(s:ae)(m:Nat)(hY:H):List H:=gg x m hY++(.box (s' s m)::E4 s)
theorem Iu{kv ts ts':List V}{pre ex ex':List H}(p3:List Nat)(hnd:(pre.length::p3).Nodup)(qL:∀k∈p3,pre.length<=k)(hr:e4 pre.length pre)(b':b3 (pre.length+1) kv)(hx:hsees (pv pre.length++pre.length::p3) (pre++ex) (pre.length::p3) ex')(Ih:oQ (pre.length+ex'.length) ex')(Tw:0<ex'.length)(ht:vsees (pv pre.length++pre.length::p3) ts' ts)(ox:b3 (pre.length+ex'.length) ts') :
  lz kv (pv pre.length++pre.length::p3) ⟨ts,pre++ex⟩ ⟨ts',pre++ex'⟩:=by
 have hf:qJ (pv pre.length++pre.length::p3) pre.length:=Ql (fH _) _;have PR:qJ (pv pre.length++pre.length::p3) (pre.length+1):=λi hi=>by
  by_cases h:i<pre.length
  ·exact hf i h
  rw[show i=pre.length from by omega,W5]
 have hl:(pre++ex').length=pre.length+ex'.length:=by simp
 refine⟨?_,ht,Qo (LF hf _ _ _ ξ λj aI=>?_) hx,by rw[hl];exact ox,?_,by rw[hl];exact yd PR ω b'⟩
 ·rw[List.nodup_append];refine⟨List.nodup_range,hnd,λa ha b hb=>?_⟩;have:pre.length<=b:=by
   rcases rD.1 hb with rfl|hb
   ·exact fH _
   exact qL b hb
  simp at ha;omega
 ·refine⟨pre[j],cy aI,?_,LG hr (cy aI)⟩;have:(pv pre.length).getD j 0=j:=BR (fH _) j aI;rw[this];exact LH (by rw[arF aI];exact cy aI)
 rw[hl];exact Qp (FM (DZ ω hr)) Ih
theorem Bm(x:J)(s:ae)(hY:H)(ri:∀n,eN n hY)(hx:x.aa.length<=1000)(hz:∀t∈x.aa,gx t)(hs:gx s)(pre:List H)(kv:List V)(hr:e4 pre.length pre)(b':b3 (pre.length+1) kv)(K:V->List H->Prop)
  (hk:K (.e8 []) (pre++gg (eO x s) pre.length hY)):et prog 98 kv (pre++x3 x s pre.length hY) [.ptr pre.length 0 0,.agg (s' s pre.length)] K:=by
 have aS:∀(ex:List H) (k:Nat),3<=k->ex[k]?=some (.aj 39 ((eO x s).aa.map ae.enc))->ex[0]?=some (g8 (eO x s) (pre.length+k) (pre.length+2))->ex[2]?=some hY->x' kv K (.e8 []) (pre++ex):=by
  intro ex k ay0 h1 h2 ao;have hg:∀j y,ex[j]?=some y->a6 (pre++ex) (pre.length+j)=y:=λj y h=>LH (by rw[ak_ ω,Nat.add_sub_cancel_left];exact h);refine⟨_,.e8 [],pre++gg (eO x s) pre.length hY,Iu [pre.length+k,pre.length+2] (by simp;omega) ξ hr b' ?_ ?_ (by simp[gg]) (by simp[vsees,vsee,ren,rens]) (by simp[b3,vok]),hk⟩
  ·have OD:=hg 0 _ h2;rw[ao_]at OD;have aZ:(pv pre.length++[pre.length,pre.length+k,pre.length+2]).getD (pre.length+1) 0=pre.length+k:=by rw[qI];rfl
   have bA:(pv pre.length++[pre.length,pre.length+k,pre.length+2]).getD (pre.length+2) 0=pre.length+2:=by rw[qI];rfl
   have hp:(eO x s).ai=x.ai:=(zk x s).2;have hf:qJ (pv pre.length++[pre.length,pre.length+k,pre.length+2]) pre.length:=Ql (fH _) _;have aqb:=FL hf (ri pre.length);simp only[gg,f2,hsees,OD,hg k _ h1,hg 2 _ ao,and_true,aqb];simp only[g8,J.a2,hsee,vsees,vsee,ren,aZ,bA,and_self,hp]
  have:=FM (m:=pre.length+3) (xs:=[hY]) ⟨ri _,trivial⟩;simp only[gg,f2,g8,J.a2,oQ,hok,b3,vok,e0,g1]at this⊢;simp[this]
 have FJ:=Wp x s;obtain⟨B,hv⟩:∃B,om x s=B:=⟨_,rfl⟩;rw[hv]at FJ;have hs':=hs;obtain⟨eP,gl,ke,BQ⟩:=hs;have ke:∀fM∈s.aU.bT.cq,fM.data.length<=1048576:=λfM hc=>by have:=ke fM hc;omega
 have afW:=oj x.aa s hx hz hs';have afX:=oj x.aa {s with gu:=true} hx hz hs';refine et.xc ?_;refine(gi (n:=15) (rs:=[]) func98 rfl call98 bE rfl rfl ?_);simp only[go_sem,x3,gg,f2,s',E4,g8,cx,cv,g4];refine af.lp [0,3] (by simp only[i3,arE,am_,Nat.reduceBEq,Nat.reduceAdd,d4,eF];rfl) (gi (n:=62) (rs:=[]) func165 rfl call165 bE rfl rfl ?_);simp only[go_sem]
 try simp only[go_sem,I,lC,g4,gq,iA,jQ,ao_]
 repeat'(first|((first|refine af.i ?_|refine av.intro (by first|assumption|apply FA|(apply PE<;>exact aT)) ?_|apply fY|refine a7 aen χ ψ ?_)<;>simp only[go_sem,I,gq,iA,ao_])|refine⟨ae7,?_⟩|fail)
 rw[FJ];cases B
 ·have ah:=H3 hv;simp only[ah]at aS;simp only[go_sem,b7]
  try simp only[go_sem,I,lC,g4,gq,iA,jQ,ao_]
  repeat'(first|((first|refine af.j ?_|refine av.j ?_|apply fY|refine a7 OQ χ ψ ?_)<;>simp only[go_sem,I,g4,gq,iA,jQ,ao_])|refine⟨ae7,?_⟩|fail)
  refine aS _ 10 ζ ?_ ?_ ?_<;>rfl
 try simp only[go_sem,bz,g4,gq,ao_]
 repeat'((first|refine af.intro (by first|assumption|apply AI) ?_|refine av.i ?_)<;>simp only[go_sem])
 cases kl:la s.id
 ·have ah:=P1 hv kl;simp only[ah]at aS
  try simp only[go_sem,iA]
  repeat'((first|refine af.intro (by first|assumption|apply Lq) ?_|refine av.i ?_)<;>simp only[go_sem,g4,gq,iA,jQ])
  try simp only[go_sem,I,lC,g4,gq,iA,jQ,ao_]
  repeat'(first|((first|refine af.j ?_|refine av.j ?_|apply fY|refine a7 OQ χ ψ ?_)<;>simp only[go_sem,I,g4,gq,iA,jQ,ao_])|refine⟨ae7,?_⟩|fail)
  refine aS _ 11 ζ ?_ ?_ ?_<;>rfl
 have ah:=P0 hv kl;simp only[ah]at aS
 try simp only[go_sem,iA]
 repeat'((first|refine af.intro (by first|assumption|apply Lq) ?_|refine av.i ?_)<;>simp only[go_sem,g4,gq,iA,jQ])
 try simp only[go_sem,I,lC,g4,gq,iA,jQ,ao_]
 repeat'(first|((first|refine af.j ?_|refine av.j ?_|apply fY|refine a7 OQ χ ψ ?_)<;>simp only[go_sem,I,g4,gq,iA,jQ,ao_])|refine⟨ae7,?_⟩|fail)
 refine aS _ 11 ζ ?_ ?_ ?_<;>rfl
def lW(q:aL×Value):List D:=[.i q.1.bU,.AX q.2]
theorem Qt(qs:List (aL×Value)):hP (qs.map lW):=by
 simp only[hP,List.all_map,ae_];intro q _;simp[lW,D.flat]
theorem LM{h:Array Obj}{b:Nat}:∀(ps:List aL) (f:Nat) (G:List Nat),repE h true b f 2 (ps.map aL.enc) G->
  ∃(qs:List (aL×Value)) (Fs:List (List Nat)),qs.map (·.1)=ps/\repE h true b f 2 (qs.map lW) []/\Fs.length=qs.length/\G=Fs.flatten/\∀(j:Nat) (q:aL×Value) (F:List Nat),qs[j]?=some q->Fs[j]?=some F->rep h true (.azE q.1.bV) q.2 F
 |[],f,G,r=>by simp only[asi,repE]at r;exact⟨[],[],rfl,by simp[repE],rfl,by simp[r],by simp⟩
 |p::ps,f,G,r=>by
  simp only[fe,repE]at r;obtain⟨cE,cw,rfl,_,aZ,bA⟩:=r;simp only[aL.enc,repC]at aZ;obtain⟨n4,Xh,agw,rfl,c1,gB,oT,Xi,agx,rfl,cW,gC,rfl⟩:=aZ;obtain⟨qs,Fs,ak,ar,a4,bP,di⟩:=LM ps (f+2) cw bA;have hA:Xh=[]:=by simp only[rep]at gB;exact gB.2.1
  subst hA;have zC:oT.oneCell'/\oT.cells=#[oT]:=by
   obtain⟨a,c,h1,_⟩:=(by simpa only[rep]using gC:∃a c,oT=.slice a (p.bV.map al.enc).length c/\_);rw[h1];exact⟨rfl,rfl⟩
  refine⟨(p,oT)::qs,Xi::Fs,by simp[ak],?_,by simp[a4],by simp[bP],?_⟩
  ·simp only[fe,repE];refine⟨[],[],rfl,rfl,?_,ar⟩;simp only[lW,repC,rep];exact⟨n4,[],[],rfl,c1,by simpa only[rep]using gB,oT,[],[],rfl,cW,⟨rfl,rfl,zC.1,zC.2⟩,rfl⟩
  intro j q F hq bG
  cases j with
  |zero=>simp at hq bG;subst hq;subst bG;exact gC
  |succ j=>exact di j q F (by simpa using hq) (by simpa using bG)
theorem Qu{h h':Array Obj}(hs:h.size<=h'.size){b:Nat}(g:aL->Bool):∀(qs:List (aL×Value)) (Fs:List (List Nat)) (f:Nat),Fs.length=qs.length->(∀x∈Fs.flatten,h'[x]?=h[x]?)->
  (∀(j:Nat) (q:aL×Value) (F:List Nat),qs[j]?=some q->Fs[j]?=some F->rep h true (.azE q.1.bV) q.2 F)->repE h' true b f 2 ((qs.filter λq=>g q.1).map lW) []->
  ∃G,G.Sublist Fs.flatten/\repE h' true b f 2 (((qs.map (·.1)).filter g).map aL.enc) G
 |[],Fs,f,hl,_,_,_=>⟨[],aAk _,by simp[repE]⟩
 |q::qs,[],f,hl,_,_,_=>by simp at hl
 |q::qs,F::Fs,f,hl,ep,bG,r=>by
  have agy:∀x∈F,h'[x]?=h[x]?:=λx hx=>ep x (by simp[hx]);have Xj:∀x∈Fs.flatten,h'[x]?=h[x]?:=λx hx=>ep x (by rw[atr];exact List.mem_append_right _ hx);have Xk:∀(j:Nat) (D1:aL×Value) (F':List Nat),qs[j]?=some D1->Fs[j]?=some F'->rep h true (.azE D1.1.bV) D1.2 F':=λj D1 F' h1 h2=>bG (j+1) D1 F' (by simpa using h1) (by simpa using h2);by_cases hg:g q.1=true
  ·rw[azH (by simpa using hg)]at r;simp only[fe,repE]at r;obtain⟨cE,cw,e,_,aZ,bA⟩:=r;obtain⟨rfl,rfl⟩:=asx.1 e.symm;obtain⟨G,dW,cT⟩:=Qu hs g qs Fs (f+2) (by simpa using hl) Xj Xk bA;simp only[lW,repC,rep]at aZ;obtain⟨n4,Xh,agw,ak,c1,gB,oT,Xi,agx,ar,cW,gC,a4⟩:=aZ;refine⟨F++G,by rw[atr];exact aAK (aAN _) dW,?_⟩;rw[fe,azH (by simpa using hg),fe];simp only[repE];refine⟨F,G,rfl,rfl,?_,cT⟩;simp only[aL.enc,repC,rep];have hq:=bG 0 q F rfl rfl;refine⟨n4,[],F,rfl,c1,⟨gB.1,rfl,gB.2.2⟩,oT,F,[],by simp,cW,?_,rfl⟩;rw[gC.1];have:=Ii hs _ _ F agy hq;simpa only[rep]using this
  rw[aud (by simpa using hg)]at r;obtain⟨G,dW,cT⟩:=Qu hs g qs Fs f (by simpa using hl) Xj Xk r;refine⟨G,by rw[atr];exact dW.trans (List.sublist_append_right _ _),?_⟩;rw[fe,aud (by simpa using hg)];exact cT
theorem Xl{hs:List H}{i:Nat}(x:H)(h:i<hs.length):(cF hs i x).length=hs.length:=by unfold cF;rw[if_pos h,atU]
theorem Xm{P:Program}{f:FuncId}{kv:List V}{vs:List V}{V0:V}(id sz:Nat){ys:List (List D)}{hs hf:List H}(c3:(a6 hs id).B_)(a4:a6 hf id=.ay sz ys true)
  (hv:∀(φ:c5) (T:Nat->Prop) (h:Array Obj) (β:h5),eR φ T h β (a6 hs id)->∃fi Ij:List (List D),(∀du hQ,eR du hQ h {β with eb:=[]} (.ay sz fi true))/\
   et P f kv (cF hs id (.ay sz fi true)) vs (λv hs'=>v=V0/\hs'=cF hf id (.ay sz Ij true))/\
   ∀h':Array Obj,h.size<=h'.size->(∀b∈β.eb,h'[b]?=h[b]?)->∀(qM:c5) (FR:Nat->Prop) (jR:h5),eR qM FR h' jR (.ay sz Ij true)->∃zE,zE.Sublist β.eb/\∀p5 Qv,eR p5 Qv h' {jR with eb:=zE} (.ay sz ys true))
  {K:V->List H->Prop} (hk:K V0 hf):et P f kv hs vs K:=by
 intro B w0 kp Xn w b' Qw;obtain⟨a0,φ,r,bD⟩:=Qw;have Qx:=H.Ik c3;have Xo:=H.LN Qx;rcases r.hp id with hd|⟨β,D2,rH⟩
 ·rw[show(⟨vs,hs⟩:St).heap=hs from rfl]at hd;rw[hd]at c3;cases c3
 have Qy:∀b∈β.eb,d_ φ hs id b:=λb hb=>⟨β,D2,.inr ⟨Qx,hb⟩⟩;have agz:∀b,β.fz=some b->d_ φ hs id b:=λb hb=>⟨β,D2,.inl ⟨Xo,hb⟩⟩;have j8:=r.eI id β D2 Qx;have yq:id<hs.length:=bD id (r.iS id β D2);have B':id<hf.length:=by
  rcases Nat.lt_or_ge id hf.length with h|h
  ·exact h
  rw[zF h]at a4;cases a4
 obtain⟨fi,Ij,Il,zC,agA⟩:=hv _ _ _ _ rH;obtain⟨lD,hA⟩:∃lD,lD=cF hs id (.ay sz fi true):=⟨_,rfl⟩;obtain⟨C,a3⟩:∃C,C=cF hf id (.ay sz Ij true):=⟨_,rfl⟩;have dh:a6 lD id=.ay sz fi true:=by rw[hA,jh,if_pos rfl]
 have bO:lD.length=hs.length:=by rw[hA,Xl _ yq]
 have cz:∀i,i≠id->a6 lD i=a6 hs i:=λi hi=>by rw[hA,jh,if_neg hi]
 have dP:a6 C id=.ay sz Ij true:=by rw[a3,jh,if_pos rfl]
 have dO:C.length=hf.length:=by rw[a3,Xl _ B']
 have ih:∀i,i≠id->a6 C i=a6 hf i:=λi hi=>by rw[a3,jh,if_neg hi]
 rw[<-hA,<-a3]at zC;clear hA a3 hv
 let yr:c5:=el φ id {β with eb:=[]}
 have Im:yr id=some {β with eb:=[]}:=by simp[yr,el]
 have FT:∀i,i≠id->yr i=φ i:=λi hi=>by simp[yr,el,hi]
 have LO:∀i b,d_ yr lD i b->d_ φ hs i b/\b∉β.eb:=by
  rintro i b ⟨bF,e,aG⟩;by_cases hi:i=id
  ·subst hi;rw[Im]at e;cases e;rw[dh]at aG;rcases aG with ⟨_,hb⟩|⟨_,hb⟩
   ·exact⟨agz b hb,λhn=>j8.2 b hb hn⟩
   cases hb
  rw[FT i hi]at e;rw[cz i hi]at aG;refine⟨⟨bF,e,aG⟩,λhn=>hi (r.dQ i id b ⟨bF,e,aG⟩ (Qy b hn))⟩
 have bu:p6 φ yr:=λi bF e=>by
  by_cases hi:i=id
  ·subst hi;rw[D2]at e;cases e;exact⟨_,Im,rfl,rfl,rfl,rfl⟩
  exact⟨bF,by rw[FT i hi];exact e,rfl,rfl,rfl,rfl⟩
 have cR:∀b,b<w.heap.size->dq φ hs b->dq yr lD b:=by
  intro b _ ht i bF e he;by_cases hi:i=id
  ·subst hi;rw[Im]at e;cases e;rw[dh]at he;rcases he with ⟨_,he⟩|⟨he,_⟩
   ·exact ht i β D2 (.inl ⟨Xo,he⟩)
   cases he
  rw[FT i hi]at e;rw[cz i hi]at he;exact ht i bF e he
 have Qz:FU φ yr (dq φ hs) (dq yr lD) w.heap w.heap:=⟨bu,cR,λ_ _ _=>rfl,fH _⟩;have agB:R (λb=>B b/\b∉β.eb) w a0 yr ⟨vs,lD⟩ kp ⟨Xn.toArray,[]⟩ w:=by
  refine⟨xo Qz _ _ r.jA,λp hp=>Io Qz _ _ (r.kp p hp),λi=>?_,λi j b hi aI=>r.dQ i j b (LO i b hi).1 (LO j b aI).1,λi bF e hx=>?_,λi b aG=>⟨r.gH i b (LO i b aG).1,(LO i b aG).2⟩,λi bF e=>?_,Bel.refl _ _,λk hk=>⟨r.bs k hk,λhn=>by have:=d_.lt r (Qy k hn);omega⟩,r.pg,⟨λp hp h=>r.np.1 p hp h.1,?_⟩⟩
  ·by_cases hi:i=id
   ·subst hi;exact .inr ⟨_,Im,by rw[show(⟨vs,lD⟩:St).heap=lD from rfl,dh];exact Il _ _⟩
   simp only[cz i hi,FT i hi];rcases r.hp i with hd|⟨bF,e,lX⟩
   ·exact .inl hd
   exact .inr ⟨bF,e,QA Qz lX (λ_ _ _=>rfl) (λ_ _ _=>rfl)⟩
  ·by_cases hi:i=id
   ·subst hi;rw[Im]at e;cases e;exact⟨List.nodup_nil,λ_ _ h=>by cases h⟩
   rw[FT i hi]at e;simp only[cz i hi]at hx;exact r.eI i bF e hx
  ·by_cases hi:i=id
   ·subst hi;exact r.iS _ β D2
   rw[FT i hi]at e;exact r.iS i bF e
  exact FV.mono r.np.2 λp hp=>r.hR.block p.1 (r.np.1 p hp)
 refine(zC (λb=>B b/\b∉β.eb) w kp Xn w b' ⟨a0,yr,agB,λi hi=>by have:=bD i hi;simp only at this⊢;rw[bO];exact this⟩).mono ?_;rintro v w' ⟨x,hs',⟨rfl,arq⟩,agC,qM,bA,agD⟩;subst hs';refine⟨x,hf,hk,?_⟩;have D3:∀b∈β.eb,w'.heap[b]?=w.heap[b]?:=λb hb=>bA.hR.block b λh=>h.2 hb;rcases bA.hp id with hd|⟨jR,LP,yt⟩
 ·rw[show(⟨[x],C⟩:St).heap=C from rfl,dP]at hd;cases hd
 rw[show(⟨[x],C⟩:St).heap=C from rfl,dP]at yt;obtain⟨zE,xp,agE⟩:=agA _ bA.hR.size D3 _ _ _ yt
 let p5:c5:=el qM id {jR with eb:=zE}
 have Ip:p5 id=some {jR with eb:=zE}:=by simp[p5,el]
 have FW:∀i,i≠id->p5 i=qM i:=λi hi=>by simp[p5,el,hi]
 have Xp:∀b,jR.fz=some b->d_ qM C id b:=λb hb=>⟨jR,LP,.inl ⟨by rw[dP];rfl,hb⟩⟩;have QB:∀i b,d_ p5 hf i b->d_ qM C i b\/(i=id/\b∈zE):=by
  rintro i b ⟨bF,e,aG⟩;by_cases hi:i=id
  ·subst hi;rw[Ip]at e;cases e;rw[a4]at aG;rcases aG with ⟨_,hb⟩|⟨_,hb⟩
   ·exact .inl (Xp b hb)
   exact .inr ⟨rfl,hb⟩
  rw[FW i hi]at e;rw[<-ih i hi]at aG;exact .inl ⟨bF,e,aG⟩
 have LQ:∀b∈zE,B b/\b∈β.eb:=λb hb=>⟨r.gH id b (Qy b (xp.subset hb)),xp.subset hb⟩;have agF:p6 qM p5:=λi bF e=>by
  by_cases hi:i=id
  ·subst hi;rw[LP]at e;cases e;exact⟨_,Ip,rfl,rfl,rfl,rfl⟩
  exact⟨bF,by rw[FW i hi];exact e,rfl,rfl,rfl,rfl⟩
 have QC:∀b,b<w'.heap.size->dq qM C b->dq p5 hf b:=by
  intro b _ ht i bF e he;by_cases hi:i=id
  ·subst hi;rw[Ip]at e;cases e;rw[a4]at he;rcases he with ⟨_,he⟩|⟨he,_⟩
   ·exact ht i jR LP (.inl ⟨by rw[show(⟨[x],C⟩:St).heap=C from rfl]at *;rw[dP];rfl,he⟩)
   cases he
  rw[FW i hi]at e;rw[<-ih i hi]at he;exact ht i bF e he
 have QD:FU qM p5 (dq qM C) (dq p5 hf) w'.heap w'.heap:=⟨agF,QC,λ_ _ _=>rfl,fH _⟩;refine⟨agC,p5,⟨xo QD _ _ bA.jA,λp hp=>Io QD _ _ (bA.kp p hp),λi=>?_,λi j b hi aI=>?_,λi bF e hx=>?_,λi b aG=>?_,λi bF e=>?_,?_,λk hk=>(bA.bs k hk).1,bA.pg,r.np⟩,λi hi=>by have:=agD i hi;simp only at this⊢;rw[<-dO];exact this⟩
 ·by_cases hi:i=id
  ·subst hi;exact .inr ⟨_,Ip,by rw[show(⟨[x],hf⟩:St).heap=hf from rfl,a4];exact agE _ _⟩
  simp only[FW i hi];rw[<-ih i hi];rcases bA.hp i with hd|⟨bF,e,lX⟩
  ·exact .inl hd
  exact .inr ⟨bF,e,QA QD lX (λ_ _ _=>rfl) (λ_ _ _=>rfl)⟩
 ·rcases QB i b hi with h1|⟨h1,aq⟩<;>rcases QB j b aI with h2|⟨h2,gv⟩
  ·exact bA.dQ i j b h1 h2
  ·exact absurd (LQ b gv).2 (bA.gH i b h1).2
  ·exact absurd (LQ b aq).2 (bA.gH j b h2).2
  exact h1.trans h2.symm
 ·by_cases hi:i=id
  ·subst hi;rw[Ip]at e;cases e;exact⟨xp.nodup j8.1,λb hb hn=>(bA.gH _ b (Xp b hb)).2 (LQ b hn).2⟩
  rw[FW i hi]at e;rw[show(⟨[x],hf⟩:St).heap=hf from rfl,<-ih i hi]at hx;exact bA.eI i bF e hx
 ·rcases QB i b aG with h1|⟨_,h1⟩
  ·exact(bA.gH i b h1).1
  exact(LQ b h1).1
 ·by_cases hi:i=id
  ·subst hi;exact bA.iS _ jR LP
  rw[FW i hi]at e;exact bA.iS i bF e
 exact r.hR.trans (bA.hR.mono λ_ h=>h.1)
theorem Xq{h:Array Obj}{du:c5}{hQ:Nat->Prop}{β:h5}{b:Nat}{fi:List (List D)}(dM:β.sz=2)(aZ:β.fz=some b)(bA:fi.length<=β.cap)(c9:ph h b (β.off+β.cap * 2))(dn:repE h true b β.off 2 fi []):eR du hQ h {β with eb:=[]} (.ay 2 fi true):=by
 simp only[eR];exact⟨dM,.inr ⟨b,[],aZ,bA,c9,dn,λ_=>rfl,λq=>by cases q⟩⟩
theorem QE{h h':Array Obj}(g:aL->Bool){qs:List (aL×Value)}{Fs:List (List Nat)}{N:List Nat}(a4:Fs.length=qs.length)(bB:N=Fs.flatten)(bG:∀(j:Nat) (q:aL×Value) (F:List Nat),qs[j]?=some q->Fs[j]?=some F->rep h true (.azE q.1.bV) q.2 F)
  (hs:h.size<=h'.size) (hk:∀b∈N,h'[b]?=h[b]?) {qM:c5} {FR:Nat->Prop} {jR:h5} (z:List (List D)) (rH:eR qM FR h' jR (.ay 2 ((qs.filter λq=>g q.1).map lW++z) true)) :
  ∃zE,zE.Sublist N/\∀p5 Qv,eR p5 Qv h' {jR with eb:=zE} (.ay 2 (((qs.map (·.1)).filter g).map aL.enc) true):=by
 have hl:((qs.map (·.1)).filter g).length=(qs.filter λq=>g q.1).length:=by rw[azP,I];rfl
 simp only[eR]at rH;obtain⟨Xr,yt⟩:=rH;rcases yt with ⟨h1,h2,ao,aH⟩|⟨eG,cw,h1,h2,ao,aH,bR,eQ⟩
 ·have hn:qs.filter (λq=>g q.1)=[]:=auA.1 (asx.1 h2).1;rw[hn]at hl;exact⟨[],aAk _,λp5 T=>by simp only[eR];exact⟨Xr,.inl ⟨h1,by rw[arN.1 hl];rfl,ao,trivial⟩⟩⟩
 obtain⟨Ca,QF,_,aH,_⟩:=(repE_append _ _ _ _).1 aH;have QG:=Iq _ _ _ _ (Qt _) aH;subst QG;obtain⟨G,dW,cT⟩:=Qu hs g qs Fs jR.off a4 (by rw[<-bB];exact hk) bG aH;refine⟨G,by rw[bB];exact dW,λp5 T=>?_⟩;simp only[eR];refine⟨Xr,.inr ⟨eG,G,h1,?_,ao,cT,λ_=>rfl,λq=>by cases q⟩⟩;rw[eh,I]at h2;rw[I,hl];omega
theorem agG{P:Program}{f:FuncId}{kv:List V}{vs:List V}{V0:V}{ps:List aL}(g:aL->Bool)(id:Nat){hs hf:List H}(c3:a6 hs id=.aj 2 (ps.map aL.enc))(a4:a6 hf id=.azw (ps.filter g))
  {K:V->List H->Prop} (zC:∀qs:List (aL×Value),qs.map (·.1)=ps->et P f kv (cF hs id (.ay 2 (qs.map lW) true)) vs (λv hs'=>v=V0/\hs'=cF hf id (.ay 2 ((qs.filter λq=>g q.1).map lW) true))) (hk:K V0 hf):et P f kv hs vs K:=by
 refine Xm id 2 (by rw[c3];rfl) a4 (λφ T h β rH=>?_) hk;rw[c3]at rH;simp only[eR]at rH;obtain⟨Xs,rH⟩:=rH;rcases rH with ⟨h1,h2,ao,aH⟩|⟨b,h1,h2,ao,aH⟩
 ·have hps:ps=[]:=auA.1 h2;subst hps;refine⟨[],[],λ_ _=>by simp only[eR];exact⟨Xs,.inl ⟨h1,trivial,ao,trivial⟩⟩,zC [] rfl,λh' dW cT qM FR jR yt=>?_⟩;exact QE (h:=h) g (qs:=[]) (Fs:=[]) (N:=β.eb) rfl aH ξ dW cT [] yt
 obtain⟨qs,Fs,cA,db,c0,eo,fr⟩:=LM ps β.off β.eb aH;have hl:(qs.map lW).length=(ps.map aL.enc).length:=by rw[I,I,<-cA,I]
 refine⟨qs.map lW,(qs.filter λq=>g q.1).map lW,λ_ _=>Xq Xs h1 (hl▸h2) ao db,zC qs cA,λh' dW cT qM FR jR yt=>?_⟩;rw[<-cA];exact QE g c0 eo fr dW cT [] (by rw[ix];exact yt)
theorem agH{P:Program}{f:FuncId}{kv:List V}{vs:List V}{V0:V}{ps:List aL}{i b2 k:Nat}{n:Int}(hi:i<ps.length)(id:Nat)(z:List (List D)){hs hf:List H}(c3:a6 hs id=.h3 2 ((ps.map aL.enc).take i) [.i n,.sl b2 0 k] ((ps.map aL.enc).drop (i+1)))(a4:a6 hf id=.azw (ps.take i++ps.drop (i+1)))
  {K:V->List H->Prop} (zC:∀fi:List (List D),fi.length=ps.length->hP fi->et P f kv (cF hs id (.ay 2 fi true)) vs (λv hs'=>v=V0/\hs'=cF hf id (.ay 2 (fi.take i++fi.drop (i+1)++z) true))) (hk:K V0 hf):et P f kv hs vs K:=by
 refine Xm id 2 (by rw[c3];rfl) a4 (λφ T h β rH=>?_) hk;rw[c3]at rH;simp only[eR]at rH;obtain⟨dM,_,b,cE,cw,us,aZ,bA,c9,dn,fZ,ji,sF,yu⟩:=rH;rw[<-List.map_take]at fZ;rw[<-List.map_drop]at yu;obtain⟨FX,j9,cA,db,c0,eo,fr⟩:=LM _ _ _ fZ;obtain⟨Ir,iT,c1,cW,gn,rE,LR⟩:=LM _ _ _ yu;have yq:FX.length=i:=by rw[<-I (f:=λq:aL×Value=>q.1),cA,arJ];omega
 have B':Ir.length=ps.length-(i+1):=by rw[<-I (f:=λq:aL×Value=>q.1),c1,ar_]
 simp only[VRels,VRel]at ji;obtain⟨g_,Xt,rfl,⟨F,n4,_⟩,h6,ars,rfl,⟨bF,a,c,_,rfl,_⟩,rfl⟩:=ji;have x1:=sF 0 g_ rfl;have x2:=sF 1 _ rfl;simp only[arJ,ar_,I]at x1 x2 bA cW;rw[Nat.min_eq_left ω]at x1 x2 bA cW;obtain⟨fi,LS⟩:∃fi,fi=FX.map lW++[.i n,.AX (.slice a k c)]::Ir.map lW:=⟨_,rfl⟩;have zG:fi.take i++fi.drop (i+1)=((FX++Ir).filter λ_=>true).map lW:=by
  rw[asR.2 ξ,LS,List.take_left' (by rw[I,yq]),<-List.drop_drop,List.drop_left' (by rw[I,yq]),arO];rfl
 have agI:fi.length=ps.length:=by rw[LS];simp only[eh,e0,I];omega
 refine⟨fi,fi.take i++fi.drop (i+1)++z,λ_ _=>Xq dM aZ ω c9 ?_,zC fi agI ?_,λh' dW cT qM FR jR yt=>?_⟩
 ·rw[LS];refine(repE_append _ _ _ _).2 ⟨[],[],rfl,db,?_⟩;rw[I,yq];simp only[repE];refine⟨[],[],rfl,by first|rfl|trivial,?_,by rw[show β.off+i * 2+2=β.off+(i+1) * 2 from by omega];exact cW⟩;simp only[rep]at n4;simp only[repC,rep];refine⟨g_,[],[],rfl,x1,?_,_,[],[],rfl,x2,?_,rfl⟩
  ·exact⟨n4.1,rfl,n4.2.2⟩
  exact⟨rfl,rfl,rfl,rfl⟩
 ·have h1:=Qt FX;have h2:=Qt Ir;simp only[hP]at h1 h2⊢;rw[LS,atT,List.all_cons,h1,h2];rfl
 rw[zG]at yt;have hps:ps.take i++ps.drop (i+1)=((FX++Ir).map (·.1)).filter λ_=>true:=by rw[asR.2 ξ,arO,cA,c1]
 rw[hps];refine QE (h:=h) (λ_=>true) (Fs:=j9++iT) (by simp[c0,gn]) (by rw[dn,eo,rE,List.flatten_append]) (λj q F hq bG=>?_) dW cT z yt;by_cases aI:j<FX.length
 ·rw[arF aI]at hq;rw[arF ω]at bG;exact fr j q F hq bG
 rw[ak_ ω]at hq;rw[ak_ ω]at bG;exact LR _ q F hq (by rw[<-c0];exact bG)
def zI(x:J)(a b k:Nat):H:=.box (J.a2 x (.sl a 0 x.aa.length) (.sl b 0 k))
theorem ag1(x:J)(n:Int)(qs:List (aL×Value))(hq:qs.length<=1000)(pre:List H)(kv:List V)(hr:e4 pre.length pre)(b':b3 (pre.length+1) kv)(K:V->List H->Prop)
  (hk:K (.e8 []) (pre++[zI x (pre.length+1) (pre.length+2) (qs.filter λq=>!f1 n q.1).length,f2 x,.ay 2 ((qs.filter λq=>!f1 n q.1).map lW) true])) :
  et prog 36 kv (pre++[zI x (pre.length+1) (pre.length+2) qs.length,f2 x,.ay 2 (qs.map lW) true]) [.ptr pre.length 0 0,.i n] K:=by
 have QK:∀l:List Nat,(pv pre.length++pre.length::l).getD pre.length 0=pre.length:=λl=>W5 _ _ _;refine et.xc ?_;refine(gi (n:=40) (rs:=[]) func36 rfl call36 bE rfl rfl ?_);simp only[go_sem,zI,f2,g4];refine cb.intro (α:=Nat×List (aL×Value)) (λy=>⟨[.ptr pre.length 0 0,.i n,.an,.an,.sl (pre.length+3) 0 y.2.length,.i y.1]++ea 34 .an,pre++[zI x (pre.length+1) (pre.length+2) qs.length,f2 x,.ay 2 (qs.map lW) true,.ay 2 (y.2.map lW) true]⟩)
  (λy=>qs.length-y.1) (λy=>y.1<=qs.length/\y.2=(qs.take y.1).filter λq=>!f1 n q.1) (0,[]) (pv pre.length++pre.length::[pre.length+1,pre.length+2,pre.length+3]) ⟨by simp,by simp⟩ ?_ ?_
 ·have aZ:(pv pre.length++[pre.length,pre.length+1,pre.length+2,pre.length+3]).getD (pre.length+1) 0=pre.length+1:=by rw[qI];rfl
  have bA:(pv pre.length++[pre.length,pre.length+1,pre.length+2,pre.length+3]).getD (pre.length+2) 0=pre.length+2:=by rw[qI];rfl
  have c9:(pv pre.length++[pre.length,pre.length+1,pre.length+2,pre.length+3]).getD (pre.length+3) 0=pre.length+3:=by rw[qI];rfl
  refine Iu _ ξ ξ hr b' ?_ ?_ ξ ?_ ?_
  ·simp only[hsees,gq,iA,F4,F5,hsee,zI,f2,and_true];simp only[J.a2,vsees,vsee,ren,aZ,bA,and_self,asi]
  ·simp only[zI,J.a2,f2,oQ,hok,b3,vok,e0,g1];simp
  ·simp only[ea,cx,cv,vsees,vsee,ren,c9,QK,and_self,g1,true_and];simp
  simp[b3,vok,ea]
 rintro⟨i,d2⟩ ⟨hi,aG⟩;simp only at hi aG;have Cd:d2.length<=qs.length:=by rw[aG];exact arP (arS _ _) (by simp;omega)
 simp only[ea,cx,cv,zI,f2];by_cases h1:i<qs.length
 ·have aq:=aro (i:=i) (n:=qs.length);have az:=b_ lW qs i h1;have hw:=asc (i:=i);have hf:(qs.take (i+1)).filter (λq=>!f1 n q.1)=d2++(if !f1 n qs[i].1 then [qs[i]]else []):=by
   rw[gO,cy h1,asG,<-aG];cases h:f1 n qs[i].1<;>simp[h]
  generalize qs[i]=q at *;simp only[go_sem,I,aF,gq,iA,ao_,aq,az,lW];refine⟨⟨by omega,by omega⟩,h1,?_⟩;cases hb:decide (q.fst.bU≠n)
  ·have hg:(if !f1 n q.1 then [q]else [])=[]:=by
    have:f1 n q.1:=by unfold f1;simpa using hb
    rw[this];rfl
   have aZ:(pv pre.length++[pre.length,pre.length+1,pre.length+2,pre.length+3]).getD (pre.length+1) 0=pre.length+1:=by rw[qI];rfl
   have bA:(pv pre.length++[pre.length,pre.length+1,pre.length+2,pre.length+3]).getD (pre.length+2) 0=pre.length+2:=by rw[qI];rfl
   have c9:(pv pre.length++[pre.length,pre.length+1,pre.length+2,pre.length+3]).getD (pre.length+3) 0=pre.length+3:=by rw[qI];rfl
   try simp only[go_sem]
   simp only[hw];refine bt.intro (i+1,d2) (pv pre.length++pre.length::[pre.length+1,pre.length+2,pre.length+3]) ⟨by simp only;omega,by simp only;rw[hf,hg];try simp⟩ (show qs.length-(i+1)<qs.length-i by omega) ?_;refine Iu _ ξ ξ hr b' ?_ ?_ ξ ?_ ?_
   ·simp only[hsees,gq,iA,F4,F5,hsee,and_true];simp only[vsees,vsee,ren,aZ,bA,and_self]
   ·simp only[oQ,hok,b3,vok,e0,g1];simp
   ·simp only[vsees,vsee,ren,c9,QK,and_self]
   simp[b3,vok]
  have hg:(if !f1 n q.1 then [q]else [])=[q]:=by
   have:f1 n q.1=false:=by unfold f1;simpa using hb
   rw[this];rfl
  simp only[go_sem,I,aF,g4,gq,iA,az,lW];have ag2:(pre.length=pre.length+1)=False:=by simp
  try simp only[ag2,if_false,go_sem]
  refine⟨⟨by omega,by omega⟩,h1,⟨by omega,by simp⟩,?_⟩;have aZ:(pv pre.length++[pre.length,pre.length+1,pre.length+2,pre.length+5]).getD (pre.length+1) 0=pre.length+1:=by rw[qI];rfl
  have bA:(pv pre.length++[pre.length,pre.length+1,pre.length+2,pre.length+5]).getD (pre.length+2) 0=pre.length+2:=by rw[qI];rfl
  have c9:(pv pre.length++[pre.length,pre.length+1,pre.length+2,pre.length+5]).getD (pre.length+3) 0=pre.length+5:=by rw[qI];rfl
  try simp only[go_sem,g4]
  simp only[hw];refine bt.intro (i+1,d2++[q]) (pv pre.length++pre.length::[pre.length+1,pre.length+2,pre.length+5]) ⟨by simp only;omega,by simp only;rw[hf,hg];try simp⟩ (show qs.length-(i+1)<qs.length-i by omega) ?_;refine Iu _ ξ ξ hr b' ?_ ?_ ξ ?_ ?_
  ·simp only[hsees,gq,iA,F4,F5,hsee,and_true];simp only[vsees,vsee,ren,aZ,bA,and_self,asi,arO,fe,lW]
  ·simp only[oQ,hok,b3,vok,e0,g1];simp
  ·simp only[vsees,vsee,ren,c9,QK,and_self,g1,eh,e0]
  simp[b3,vok]
 obtain⟨aq,rfl⟩:=arn (i:=i) (n:=qs.length);rw[da]at aG;simp only[go_sem,iA,jQ,aq];have aZ:(pv pre.length++[pre.length,pre.length+1,pre.length+3]).getD (pre.length+1) 0=pre.length+1:=by rw[qI];rfl
 have bA:(pv pre.length++[pre.length,pre.length+1,pre.length+3]).getD (pre.length+2) 0=pre.length+3:=by rw[qI];rfl
 rw[<-aG]at hk;refine⟨_,.e8 [],_,Iu [pre.length+1,pre.length+3] ξ ξ hr b' ?_ ?_ ξ (by simp[vsees,vsee,ren,rens]) (by simp[b3,vok]),hk⟩
 ·simp only[hsees,gq,iA,F4,F5,hsee,and_true,zI,f2];simp only[J.a2,vsees,vsee,ren,aZ,bA,and_self]
 simp only[J.a2,oQ,hok,b3,vok,e0,g1,zI,f2];simp
theorem VC(x:J)(n:Int)(hq:x.ai.length<=1000)(pre:List H)(kv:List V)(hr:e4 pre.length pre)(b':b3 (pre.length+1) kv)(K:V->List H->Prop)
  (hk:K (.e8 []) (pre++gg (g7 x n) pre.length (.ay 2 ((g7 x n).ai.map aL.enc) true))) :
  et prog 36 kv (pre++gg x pre.length (.aj 2 (x.ai.map aL.enc))) [.ptr pre.length 0 0,.i n] K:=by
 refine agG (V0:=.e8 []) (ps:=x.ai) (λp=>!f1 n p) (pre.length+2) (hf:=pre++gg (g7 x n) pre.length (.ay 2 ((g7 x n).ai.map aL.enc) true)) ?_ ?_ (λqs Xx=>?_) hk
 ·simp only[gg,gq,F4,F5]
 ·simp only[gg,gq,F4,F5];rfl
 have hl:qs.length=x.ai.length:=by rw[<-Xx];simp
 have hf:(g7 x n).ai=(qs.filter λq=>!f1 n q.1).map (·.1):=by
  simp only[g7,<-Xx,azP];rfl
 have:=ag1 x n qs ω pre kv hr b' (λv hs'=>v=.e8 []/\hs'=pre++[zI x (pre.length+1) (pre.length+2) (g7 x n).ai.length,f2 x,.ay 2 ((qs.filter λq=>!f1 n q.1).map lW) true]) ⟨rfl,by rw[hf,I]⟩;rw[hl]at this;simp only[gg,g4,ag3,ag4];exact this
def adL:List (List bK):=cB 12 [511649,511647,511641,511744,511690,511515,511029,503010,448335,521599,478953,354294]
def adM:List (List bK):=cB 7 [2150,2148,2182,2164,2106,1944,1458]
attribute [go_sem] adL adM
theorem et.FN{P:Program}{f:FuncId}{kv:List V}{hs hs':List H}{vs vs':List V}{K:V->List H->Prop}{ρ:List Nat}(h1:lz kv ρ ⟨vs,hs⟩ ⟨vs',hs'⟩)(h:et P f kv hs' vs' K):et P f kv hs vs K:=
 λB w0 kp us w b' a1=>h B w0 kp us w b' (D0 b' h1 a1)
theorem adN(f:al):aM 96 [.agg (al.enc f)] [.agg [.i f.aP,.str f.data,.bool f.aS]]:=by
 refine aW 10 func96 call96 [.cell 2 77] ?_;intro ok
 try simp only[go_sem]
def hC(x:J):H:=.azw x.ai
def fq(n:Int)(l:List al):List H:=[.box J.ca,.box [.i n,.sl 2 0 l.length],.azy l]
def j6(k:Int):List V:=(aA 4 [.ptr 0 0 0,.an,.ptr 3 0 0,.ptr 1 0 0,.an,.i k])++ea 32 .an
theorem aeY(x:J)(f:al)(hx:gZ x)(hs:gx (fg (aC x f.ax) f))(hd:f.data.length<=1000)(n k:Int)(l:List al)(K:V->List H->Prop)
  (hk:K (.e8 []) (fq n l++gg (ju x f) 3 (hC x))):et prog 37 (j6 k) (fq n l++gg x 3 (hC x)) [.ptr 3 0 0,.agg (al.bx f)] K:=by
 have cM:=pZ x f.ax hx;have dM:=qH hx.2.1 f.ax;obtain⟨dW,cT,dS,eW⟩:=dM;have Bj:=dS;have dS:∀fM∈(bQ x.aa f.ax).1.aU.bT.cq,fM.data.length<=1048576:=λfM hc=>by have:=dS fM hc;omega
 have a3:ju x f=if(bQ x.aa f.ax).2&&iv f.aY then eO x (fg (aC x f.ax) f)else x:=rfl
 rw[show aC x f.ax=(bQ x.aa f.ax).1 from rfl]at a3 hs;obtain⟨s,xN⟩:∃s,s=(bQ x.aa f.ax).1:=⟨_,rfl⟩;obtain⟨b,nU⟩:∃b,b=(bQ x.aa f.ax).2:=⟨_,rfl⟩;rw[<-xN,<-nU]at cM;rw[<-xN]at a3 hs dW cT dS Bj eW;rw[<-nU]at a3;clear xN nU;have lL:=lo hx;have mV:x.aa.length<=1000:=by have:=hx.1;omega
 have ng:=hx.2.1;refine et.xc ?_;refine(gi (n:=52) (rs:=[]) func37 rfl call37 bE rfl rfl ?_);simp only[go_sem,fq,j6,gg,f2,g8,hC,ea,cx,cv]
 try simp only[go_sem,I]
 repeat'((first|refine af.j ?_|refine av.j ?_|apply bo|refine a7 adL χ ψ ?_)<;>simp only[go_sem,I])
 cases b
 ·rw[ap_,if_neg ξ]at a3;rw[a3]at hk
  try simp only[go_sem,I]
  repeat'((first|refine af.i ?_|refine av.intro (by first|assumption|apply IM) ?_|with_reducible apply dp)<;>simp only[go_sem])
  refine⟨[0,1,2,3,4,5],.e8 [],_,?_,hk⟩;simp only[go_sem,fq,gg,f2,g8,hC,cx,cv];simp
 rw[af_]at a3
 try simp only[go_sem,I]
 repeat'((first|refine af.i ?_|refine av.intro (by first|assumption|apply IM) ?_|with_reducible apply cG)<;>simp only[go_sem])
 cases na:iv f.aY
 ·rw[na,if_neg ξ]at a3;rw[a3]at hk
  try simp only[go_sem]
  refine⟨[0,1,2,3,4,5],.e8 [],_,?_,hk⟩;simp only[go_sem,fq,gg,f2,g8,hC,cx,cv];simp
 rw[na,if_pos rfl]at a3;rw[a3]at hk;cases dK:decide (f.aY=8)
 ·have z5:=de dK;cases aH:decide (f.aY=4)
  ·have sS:=de aH;cases bR:decide (f.aY=5)
   ·have a5:fg s f=s:=by unfold fg;rw[if_neg z5,if_neg sS,if_neg (de bR)]
    try simp only[go_sem,I,dK,aH,bR]
    refine af.lp [] (by simp only[i3,am_,Nat.reduceAdd,eF];rfl) (et.FN (ρ:=[0,1,2,3,4,5,12,7,8,9,10,11]) (hs':=fq n l++x3 x (fg s f) 3 (hC x)) (vs':=[.ptr 3 0 0,.agg (s' (fg s f) 3)]) ?_ (Bm x (fg s f) (hC x) (λ_=>trivial) mV ng hs (fq n l) _ (by simp[fq,e4,eN,b3,vok]) (by simp[fq,b3,vok]) _ ?_))
    ·simp only[go_sem,a5,fq,x3,gg,f2,g8,hC,s',E4,cx,cv];simp
    simp only[go_sem];refine⟨[0,1,2,3,4,5],.e8 [],_,?_,hk⟩;simp only[go_sem,fq,gg,f2,g8,hC,cx,cv];simp
   have a5:fg s f={s with gK:=false}:=by unfold fg;rw[if_neg z5,if_neg sS,if_pos (cY bR)]
   try simp only[go_sem,I,dK,aH,bR]
   refine af.lp [] (by simp only[i3,am_,Nat.reduceAdd,eF];rfl) (et.FN (ρ:=[0,1,2,3,4,5,12,7,8,9,10,11]) (hs':=fq n l++x3 x (fg s f) 3 (hC x)) (vs':=[.ptr 3 0 0,.agg (s' (fg s f) 3)]) ?_ (Bm x (fg s f) (hC x) (λ_=>trivial) mV ng hs (fq n l) _ (by simp[fq,e4,eN,b3,vok]) (by simp[fq,b3,vok]) _ ?_))
   ·simp only[go_sem,a5,fq,x3,gg,f2,g8,hC,s',E4,cx,cv];simp
   simp only[go_sem];refine⟨[0,1,2,3,4,5],.e8 [],_,?_,hk⟩;simp only[go_sem,fq,gg,f2,g8,hC,cx,cv];simp
  have a5:fg s f={s with ag:=jJ s.ag,i4:=if oM s.ag then false else s.i4}:=by unfold fg;rw[if_neg z5,if_pos (cY aH)]
  try simp only[go_sem,I,dK,aH]
  repeat'((first|refine af.aj (by first|assumption|(apply apW<;>exact aT)) ?_|refine av.j ?_)<;>simp only[go_sem,I])
  cases Nt:oM s.ag
  ·rw[Nt,if_neg ξ]at a5
   try simp only[go_sem,I]
   refine af.lp [] (by simp only[i3,am_,Nat.reduceAdd,eF];rfl) (et.FN (ρ:=[0,1,2,3,4,5,12,13,14,15,16,11]) (hs':=fq n l++x3 x (fg s f) 3 (hC x)) (vs':=[.ptr 3 0 0,.agg (s' (fg s f) 3)]) ?_ (Bm x (fg s f) (hC x) (λ_=>trivial) mV ng hs (fq n l) _ (by simp[fq,e4,eN,b3,vok]) (by simp[fq,b3,vok]) _ ?_))
   ·simp only[go_sem,a5,fq,x3,gg,f2,g8,hC,s',E4,cx,cv];simp
   simp only[go_sem];refine⟨[0,1,2,3,4,5],.e8 [],_,?_,hk⟩;simp only[go_sem,fq,gg,f2,g8,hC,cx,cv];simp
  rw[Nt,if_pos rfl]at a5
  try simp only[go_sem,I]
  refine af.lp [] (by simp only[i3,am_,Nat.reduceAdd,eF];rfl) (et.FN (ρ:=[0,1,2,3,4,5,12,13,14,15,16,11]) (hs':=fq n l++x3 x (fg s f) 3 (hC x)) (vs':=[.ptr 3 0 0,.agg (s' (fg s f) 3)]) ?_ (Bm x (fg s f) (hC x) (λ_=>trivial) mV ng hs (fq n l) _ (by simp[fq,e4,eN,b3,vok]) (by simp[fq,b3,vok]) _ ?_))
  ·simp only[go_sem,a5,fq,x3,gg,f2,g8,hC,s',E4,cx,cv];simp
  simp only[go_sem];refine⟨[0,1,2,3,4,5],.e8 [],_,?_,hk⟩;simp only[go_sem,fq,gg,f2,g8,hC,cx,cv];simp
 have a5:fg s f=fF s (iw s.ag (gQ f)):=by unfold fg;rw[if_pos (cY dK)]
 try simp only[go_sem,dK]
 repeat'((first|refine af.j ?_|refine av.aj (by first|assumption|apply adN|(apply apV<;>exact aT)) ?_|refine a7 adM χ ψ ?_)<;>simp only[go_sem,I])
 refine af.lp [] (by simp only[i3,am_,Nat.reduceAdd,eF];rfl) (et.FN (ρ:=[0,1,2,3,4,5,12,13,14,15,16,11]) (hs':=fq n l++x3 x (fg s f) 3 (hC x)) (vs':=[.ptr 3 0 0,.agg (s' (fg s f) 3)]) ?_ (Bm x (fg s f) (hC x) (λ_=>trivial) mV ng hs (fq n l) _ (by simp[fq,e4,eN,b3,vok]) (by simp[fq,b3,vok]) _ ?_))
 ·simp only[go_sem,a5,fq,x3,gg,f2,g8,hC,s',E4,cx,cv,fF,gQ];simp
 simp only[go_sem];refine⟨[0,1,2,3,4,5],.e8 [],_,?_,hk⟩;simp only[go_sem,fq,gg,f2,g8,hC,cx,cv];simp
def adO:List (List bK):=cB 12 [511649,511647,511641,511744,511690,511515,511029,503010,448335,521599,478953,354294]
def adP:List (List bK):=cB 7 [2150,2148,2182,2164,2106,1944,1458]
def Ht:List (List bK):=cB 10 [57956,58804,58798,58780,58726,58927,58321,56862,52488,39366]
attribute [go_sem] adO adP Ht
theorem ae4(x:J)(f:al)(hx:gZ x)(hs:gx (gf (aC x f.ax) f))(hd:f.data.length<=1000)(n k:Int)(l:List al)(K:V->List H->Prop)
  (hk:K (.e8 []) (fq n l++gg (jK x f) 3 (hC x))):et prog 40 (j6 k) (fq n l++gg x 3 (hC x)) [.ptr 3 0 0,.agg (al.bx f)] K:=by
 have cM:=pZ x f.ax hx;have dM:=qH hx.2.1 f.ax;obtain⟨dW,cT,dS,eW⟩:=dM;have Bj:=dS;have dS:∀fM∈(bQ x.aa f.ax).1.aU.bT.cq,fM.data.length<=1048576:=λfM hc=>by have:=dS fM hc;omega
 have a3:jK x f=if f.aY=16 then {x with p2:=true}else if f.aY=18 then(if f.fG then {x with mB:=true}else {x with mA:=true})else if(bQ x.aa f.ax).2&&iv f.aY then lE x (gf (aC x f.ax) f)else x:=rfl
 rw[show aC x f.ax=(bQ x.aa f.ax).1 from rfl]at a3 hs;obtain⟨s,xN⟩:∃s,s=(bQ x.aa f.ax).1:=⟨_,rfl⟩;obtain⟨b,nU⟩:∃b,b=(bQ x.aa f.ax).2:=⟨_,rfl⟩;rw[<-xN,<-nU]at cM;rw[<-xN]at a3 hs dW cT dS Bj eW;rw[<-nU]at a3;clear xN nU;have lL:=lo hx;have mV:x.aa.length<=1000:=by have:=hx.1;omega
 have ng:=hx.2.1;refine et.xc ?_;refine(gi (n:=75) (rs:=[]) func40 rfl call40 bE rfl rfl ?_);simp only[go_sem,fq,j6,gg,f2,g8,hC,ea,cx,cv];cases j':decide (f.aY=16)
 ·rw[if_neg (de j')]at a3;cases iB:decide (f.aY=18)
  ·rw[if_neg (de iB)]at a3
   try simp only[go_sem,iB]
   repeat'((first|refine af.j ?_|refine av.j ?_|apply bo|refine a7 adO χ ψ ?_|fail)<;>simp only[go_sem,I])
   cases b
   ·rw[ap_,if_neg ξ]at a3;rw[a3]at hk
    try simp only[go_sem,I]
    repeat'((first|refine af.i ?_|refine av.intro (by first|assumption|apply IM) ?_|with_reducible apply dp)<;>simp only[go_sem])
    refine⟨[0,1,2,3,4,5],.e8 [],_,?_,hk⟩;simp only[go_sem,fq,gg,f2,g8,hC,cx,cv];simp
   rw[af_]at a3
   try simp only[go_sem,I]
   repeat'((first|refine af.i ?_|refine av.intro (by first|assumption|apply IM) ?_|with_reducible apply cG)<;>simp only[go_sem])
   cases na:iv f.aY
   ·rw[na,if_neg ξ]at a3;rw[a3]at hk
    try simp only[go_sem]
    refine⟨[0,1,2,3,4,5],.e8 [],_,?_,hk⟩;simp only[go_sem,fq,gg,f2,g8,hC,cx,cv];simp
   rw[na,if_pos rfl]at a3;rw[a3]at hk;cases dK:decide (f.aY=8)
   ·have z5:=de dK;cases aH:decide (f.aY=4)
    ·have sS:=de aH;cases bR:decide (f.aY=5)
     ·have Np:=de bR;cases mf:decide (f.aY=17)
      ·have a5:gf s f=s:=by unfold gf;rw[if_neg z5,if_neg sS,if_neg Np,if_neg (de mf)]
       try simp only[go_sem,dK,aH,bR,mf]
       have hL:=oj x.aa (s) mV ng (a5▸hs)
       try simp only[go_sem,I]
       repeat'((first|refine af.j ?_|refine av.j ?_|refine a7 Ht χ ψ ?_|fail)<;>simp only[go_sem,I])
       refine⟨[0,1,2,3,13,5],.e8 [],_,?_,hk⟩;simp only[go_sem,a5,fq,gg,f2,g8,hC,lE,cx,cv];simp
      have a5:gf s f={s with k_:=true}:=by unfold gf;rw[if_neg z5,if_neg sS,if_neg Np,if_pos (cY mf)]
      try simp only[go_sem,dK,aH,bR,mf]
      have hL:=oj x.aa ({s with k_:=true}) mV ng (a5▸hs)
      try simp only[go_sem,I]
      repeat'((first|refine af.j ?_|refine av.j ?_|refine a7 Ht χ ψ ?_|fail)<;>simp only[go_sem,I])
      refine⟨[0,1,2,3,13,5],.e8 [],_,?_,hk⟩;simp only[go_sem,a5,fq,gg,f2,g8,hC,lE,cx,cv];simp
     have a5:gf s f={s with gK:=decide (s.aU.bp<2)}:=by unfold gf;rw[if_neg z5,if_neg sS,if_pos (cY bR)]
     try simp only[go_sem,dK,aH,bR]
     have hL:=oj x.aa ({s with gK:=decide (s.aU.bp<2)}) mV ng (a5▸hs)
     try simp only[go_sem,I]
     repeat'((first|refine af.j ?_|refine av.j ?_|refine a7 Ht χ ψ ?_|fail)<;>simp only[go_sem,I])
     refine⟨[0,1,2,3,13,5],.e8 [],_,?_,hk⟩;simp only[go_sem,a5,fq,gg,f2,g8,hC,lE,cx,cv];simp
    have a5:gf s f={s with i4:=decide (s.ag.bp=4)}:=by unfold gf;rw[if_neg z5,if_pos (cY aH)]
    try simp only[go_sem,dK,aH]
    have hL:=oj x.aa ({s with i4:=decide (s.ag.bp=4)}) mV ng (a5▸hs)
    try simp only[go_sem,I]
    repeat'((first|refine af.j ?_|refine av.j ?_|refine a7 Ht χ ψ ?_|fail)<;>simp only[go_sem,I])
    refine⟨[0,1,2,3,13,5],.e8 [],_,?_,hk⟩;simp only[go_sem,a5,fq,gg,f2,g8,hC,lE,cx,cv];simp
   have a5:gf s f=fF s (iI s.ag (gQ f)):=by unfold gf;rw[if_pos (cY dK)]
   try simp only[go_sem,dK]
   repeat'((first|refine af.j ?_|refine av.aj (by first|assumption|apply adN|(apply apX<;>exact aT)) ?_|refine a7 adP χ ψ ?_|fail)<;>simp only[go_sem,I])
   have hL:=oj x.aa (fF s (iI s.ag (gQ f))) mV ng (a5▸hs)
   try simp only[go_sem,I]
   repeat'((first|refine af.j ?_|refine av.j ?_|refine a7 Ht χ ψ ?_|fail)<;>simp only[go_sem,I])
   refine⟨[0,1,2,3,17,5],.e8 [],_,?_,hk⟩;simp only[go_sem,a5,fq,gg,f2,g8,hC,lE,cx,cv,fF,gQ];simp
  rw[if_pos (cY iB)]at a3;cases hu:f.fG
  ·rw[hu,if_neg ξ]at a3;rw[a3]at hk
   try simp only[go_sem,iB]
   refine⟨[0,1,2,3,4,5],.e8 [],_,?_,hk⟩;simp only[go_sem,fq,gg,f2,g8,hC,cx,cv];simp
  rw[hu,if_pos rfl]at a3;rw[a3]at hk
  try simp only[go_sem,iB]
  refine⟨[0,1,2,3,4,5],.e8 [],_,?_,hk⟩;simp only[go_sem,fq,gg,f2,g8,hC,cx,cv];simp
 rw[if_pos (cY j')]at a3;rw[a3]at hk
 try simp only[go_sem]
 refine⟨[0,1,2,3,4,5],.e8 [],_,?_,hk⟩;simp only[go_sem,fq,gg,f2,g8,hC,cx,cv];simp
end Gv
