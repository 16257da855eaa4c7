/-
  Part of the proof: the machine, what functions compute, and the plain laws.
-/
import Derived.Test.YteehpcbpnlkfhaaGreatM03
set_option maxHeartbeats 80000000
set_option maxRecDepth 100000
namespace Gv
open Go Go.Proofs Tryz IntKind
open _root_.List renaming mem_of_find?_eq_some->arK,elem_cons->arE,elem_nil->am_,foldl_append->arD,range->pv,replicate->ea,mem_cons->rD,not_mem_nil->asL,foldl_cons->An,take->atz,drop->atf,drop_eq_getElem_cons->asV,dropLast_concat_getLast->auy,length_pos_iff->aq_,getLast_eq_getElem->azI,drop_zero->aug,dropLast_eq_take->atC,length_dropLast->atK,mem_singleton->jn,mem_of_mem_take->atL,countP_append->auG,countP_cons->asZ,countP_le_length->asp,flatMap_cons->arM,any_cons->aur,countP_eq_zero->atP,pairwise_cons->ag_,mem_range->asl,all_eq_true->ae_,mem_map->aa_,getElem_map->ath,pairwise_iff_getElem->arY
open _root_.Decidable renaming not_not->asr,em->aAE
open _root_.Bool renaming true_and->af_,false_and->ap_,not_eq_true'->ab_,cond_self->asu,and_assoc->aul,and_false->asQ,or_assoc->azY,or_eq_true->arG,or_false->ata,and_self->asg,true_or->att,or_true->auk,or_eq_true_iff->asT,and_eq_false_iff->arR,false_eq_true->ai_
open _root_.List.Mem renaming head->aw_
open _root_.UInt8 renaming toNat_inj->auw
open _root_.Nat renaming sub_zero->azL,land->aAg,mod_eq_of_lt->asb,and_one_is_mod->aAc
open _root_.Go.IntKind renaming u8->aso,i64->arV
open _root_.Nat.le renaming dest->aAJ
open _root_.List.range renaming loop->asU
open _root_.Int renaming lt_or_le->auF,natCast_add->atd,toNat_of_nonneg->auz,lt_of_lt_of_le->aAd,le_refl->atA
theorem Pg(c:J)(n:Int)(hz:gZ c):aM 22 [.agg (J.enc c),.one (.i n)] [.agg [.i ((fP c.ai n).1).bU,.sl 9 (((fP c.ai n).1).bV.map al.enc)],.one (.bool (fP c.ai n).2)]:=by
 refine aW 33 func22 call22 [.cell 4 45,.tmp 5] ?_;intro ok;have hm:c.ai.length<=30:=hz.2.2.1;have Du:=hz.2.2.2;clear ok;simp only[go_sem];refine cb.intro (λi:Nat=>⟨(.an::.i n::.ptr 0 0 0::.an::.ptr 1 0 0::.d (.bool false)::.i i::aA 26 []),[.box (J.bx c),.box [.i 0,.eg 9]]⟩)
   (λi=>c.ai.length-i) (λi=>i<=c.ai.length/\(c.ai.take i).any (f1 n)=false) 0 [0,1] ⟨by omega,by simp⟩ ?_ ?_
 ·simp only[go_sem];simp
 rintro i ⟨hi,he⟩;by_cases h1:i<c.ai.length
 ·have aq:=aro (i:=i) (n:=c.ai.length);have az:=b_ aL.enc c.ai i h1;have hw:=asc (i:=i);have ef:c.ai[i].bV.length<=500:=(Du _ (eK h1)).1;simp only[aL.enc]at az;cases hq:decide (c.ai[i].bU=n)
  ·try simp only[go_sem,I,aF,az,aq,hq]
   repeat'(first|refine⟨ae7,?_⟩|fail)
   refine bt.intro (i+1) [0,1] ⟨by omega,zi _ c.ai i h1 he hq⟩ ω ?_;simp only[go_sem,hw];simp
  have hf:=Fk (f1 n) c.ai i h1 he hq;have si:=cY hq
  try simp only[go_sem,I,aF,az,aq,hq]
  repeat'(first|refine⟨ae7,?_⟩|fail)
  all_goals simp[fP,hf,si]
 obtain⟨aq,rfl⟩:=arn (i:=i) (n:=c.ai.length);rw[da]at he;have hf:=HB _ _ he
 try simp only[go_sem,I,aq]
 simp[fP,hf]
theorem VA(c:J)(n:Int):(bif !hZ c then true else !(fP c.ai n).2)=!fD c n:=by
 unfold fD;cases hZ c<;>cases(fP c.ai n).2<;>rfl
theorem VB(c:J)(n:Int)(m:Nat)(hv:bW m c)(hm:m<=20):aM 7 [.agg (J.enc c),.one (.i n)] [.agg (J.enc ((hK c n))),.one (.bool (fD c n))]:=by
 refine m_ 42 func7 call7 [.cell 4 37,.tmp 5] ?_;intro ok;clear ok;have hz:=hv.sz hm;have lL:=lo hz;have bY:=VA c n;have a3:hK c n=if fD c n then(fP c.ai n).1.bV.foldl ju (g7 c n)else c:=rfl
 have hL:=Pg c n hz;have AA:fD c n->(fP c.ai n).1∈c.ai:=by
  intro h;simp only[fD,bm]at h;have h2:=h.2;unfold fP at h2⊢;split
  ·rename_i p hp;exact arK hp
  rename_i hp;rw[hp]at h2;cases h2
 generalize (fP c.ai n).2=aeX at *;generalize (fP c.ai n).1=p at *;refine eE bE 4 (α:=Unit) (λ_=>⟨(.an::.i n::.an::.an::.ptr 0 0 0::.an::.ptr 3 0 0::.ptr 1 0 0::aA 34 []),[.box J.ca,.box [.i p.bU,.sl 2 0 p.bV.length],.aj 9 (p.bV.map al.enc),.azG c 4 5,.aj 39 (c.aa.map ae.enc),.aj 2 (c.ai.map aL.enc)]⟩) (λ_=>fD c n=true) ?_ ?_
 ·skip
  try simp only[go_sem]
  repeat'((first|refine af.aj (by first|assumption|(apply jd<;>exact aT)) ?_|refine av.j ?_)<;>simp only[go_sem,I])
  try simp only[go_sem,I]
  repeat'((first|refine af.intro (by first|assumption|(apply x8<;>exact aT)) ?_|refine av.i ?_|apply bo)<;>simp only[go_sem])
  rw[bY];cases hg:fD c n
  ·rw[hg,if_neg ξ]at a3
   try simp only[go_sem,I,b7]
   repeat'(first|refine⟨ae7,?_⟩|fail)
   simp[a3]
  simp only[go_sem,bz];refine cZ.intro () [1,6,5,4,2,3] (by first|exact hg|trivial) ?_;simp only[go_sem];simp
 rintro _ hg;rw[hg,if_pos rfl]at a3;refine Fl 2 rfl ?_;simp only[cF];have x9:=zj hv n;obtain⟨y,hy⟩:∃y,y=g7 c n:=⟨_,rfl⟩;rw[<-hy]at a3 x9;refine eE bE 1 (α:=Unit) (λ_=>⟨(aA 4 (.ptr 0 0 0::.an::.ptr 3 0 0::.ptr 1 0 0::aA 34 [])),[.box J.ca,.box [.i p.bU,.sl 2 0 p.bV.length],.azy p.bV,.azG y 4 5,.aj 39 (y.aa.map ae.enc),.azw y.ai]⟩) (λ_=>True) ?_ ?_
 ·simp only[go_sem];refine af.lp [4,6,7] (by simp only[i3,arE,am_,Nat.reduceBEq,Nat.reduceAdd,d4,eF];rfl) (VC c n (by have:=hz.2.2.1;omega) (fq p.bU p.bV) _ (by simp[fq,e4,eN,b3,vok]) (by simp[fq,b3,vok]) _ ?_);rw[<-hy];simp only[fq,gg,f2,g8,go_sem,cx,cv];refine cZ.intro () [0,1,2,3,4,5] trivial ?_;simp only[go_sem];simp
 rintro _ _;refine gJ bE ?_;have oL:=hz.2.2.2 p (AA hg)
 try simp only[go_sem]
 refine cb.intro (α:=Nat×J) (λq=>⟨(aA 4 (.ptr 0 0 0::.an::.ptr 3 0 0::.ptr 1 0 0::.an::.i q.1::aA 32 [])),[.box J.ca,.box [.i p.bU,.sl 2 0 p.bV.length],.azy p.bV,.azG q.2 4 5,.aj 39 (q.2.aa.map ae.enc),.azw q.2.ai]⟩)
  (λq=>p.bV.length-q.1) (λq=>q.1<=p.bV.length/\q.2=(p.bV.take q.1).foldl ju y) (0,y) [0,1,2,3,4,5] ⟨by simp,by simp⟩ ?_ ?_
 ·simp only[go_sem];simp
 rintro⟨i,z⟩ ⟨hi,mO⟩;simp only at hi mO;have HC:bW m z:=by rw[mO];exact Dv (λc f h=>HD h f) _ _ x9
 by_cases h1:i<p.bV.length
 ·have aq:=aro (i:=i) (n:=p.bV.length);have az:=b_ al.enc p.bV i h1;have gz:=oL.1;have hw:=asc (i:=i);have rh:=oL.2 _ (eK h1);have b4:(p.bV.take (i+1)).foldl ju y=ju z p.bV[i]:=by
   rw[gO,cy h1,arD,<-mO];rfl
  generalize p.bV[i]=f at *
  try simp only[go_sem,I,aF,az,al.enc,aq]
  repeat'(first|refine⟨ae7,?_⟩|fail)
  have ri:(ju z f).ai=z.ai:=by
   unfold ju;split
   ·exact(zk z _).2
   rfl
  refine af.lp [4,6,7,9] (by simp only[i3,arE,am_,Nat.reduceBEq,Nat.reduceAdd,d4,eF];rfl) (aeY z f (HC.sz hm) ((Ph (HC.aC _) f).sz hm) ω p.bU i p.bV _ ?_);simp only[fq,gg,f2,g8,hC,go_sem,cx,cv];refine bt.intro (i+1,ju z f) [0,1,2,3,4,5] ⟨by simp only;omega,by simp only;rw[b4]⟩ (show p.bV.length-(i+1)<p.bV.length-i by omega) ?_;simp only[go_sem,hw];simp[ri]
 obtain⟨aq,rfl⟩:=arn (i:=i) (n:=p.bV.length);rw[da]at mO
 try simp only[go_sem,I,aq]
 repeat'(first|refine⟨ae7,?_⟩|fail)
 simp[a3,<-mO,hg]
theorem Po(c:J)(n:Int)(m:Nat)(hv:bW m c)(hm:m<=20):aM 9 [.agg (J.enc c),.one (.i n)] [.agg (J.enc ((g0 c n))),.one (.bool (fD c n))]:=by
 refine m_ 42 func9 call9 [.cell 4 37,.tmp 5] ?_;intro ok;clear ok;have hz:=hv.sz hm;have lL:=lo hz;have bY:=VA c n;have a3:g0 c n=if fD c n then(fP c.ai n).1.bV.foldl jK (g7 c n)else c:=rfl
 have hL:=Pg c n hz;have AA:fD c n->(fP c.ai n).1∈c.ai:=by
  intro h;simp only[fD,bm]at h;have h2:=h.2;unfold fP at h2⊢;split
  ·rename_i p hp;exact arK hp
  rename_i hp;rw[hp]at h2;cases h2
 generalize (fP c.ai n).2=aeX at *;generalize (fP c.ai n).1=p at *;refine eE bE 4 (α:=Unit) (λ_=>⟨(.an::.i n::.an::.an::.ptr 0 0 0::.an::.ptr 3 0 0::.ptr 1 0 0::aA 34 []),[.box J.ca,.box [.i p.bU,.sl 2 0 p.bV.length],.aj 9 (p.bV.map al.enc),.azG c 4 5,.aj 39 (c.aa.map ae.enc),.aj 2 (c.ai.map aL.enc)]⟩) (λ_=>fD c n=true) ?_ ?_
 ·skip
  try simp only[go_sem]
  repeat'((first|refine af.aj (by first|assumption|(apply jd<;>exact aT)) ?_|refine av.j ?_)<;>simp only[go_sem,I])
  try simp only[go_sem,I]
  repeat'((first|refine af.intro (by first|assumption|(apply x8<;>exact aT)) ?_|refine av.i ?_|apply bo)<;>simp only[go_sem])
  rw[bY];cases hg:fD c n
  ·rw[hg,if_neg ξ]at a3
   try simp only[go_sem,I,b7]
   repeat'(first|refine⟨ae7,?_⟩|fail)
   simp[a3]
  simp only[go_sem,bz];refine cZ.intro () [1,6,5,4,2,3] (by first|exact hg|trivial) ?_;simp only[go_sem];simp
 rintro _ hg;rw[hg,if_pos rfl]at a3;refine Fl 2 rfl ?_;simp only[cF];have x9:=zj hv n;obtain⟨y,hy⟩:∃y,y=g7 c n:=⟨_,rfl⟩;rw[<-hy]at a3 x9;refine eE bE 1 (α:=Unit) (λ_=>⟨(aA 4 (.ptr 0 0 0::.an::.ptr 3 0 0::.ptr 1 0 0::aA 34 [])),[.box J.ca,.box [.i p.bU,.sl 2 0 p.bV.length],.azy p.bV,.azG y 4 5,.aj 39 (y.aa.map ae.enc),.azw y.ai]⟩) (λ_=>True) ?_ ?_
 ·simp only[go_sem];refine af.lp [4,6,7] (by simp only[i3,arE,am_,Nat.reduceBEq,Nat.reduceAdd,d4,eF];rfl) (VC c n (by have:=hz.2.2.1;omega) (fq p.bU p.bV) _ (by simp[fq,e4,eN,b3,vok]) (by simp[fq,b3,vok]) _ ?_);rw[<-hy];simp only[fq,gg,f2,g8,go_sem,cx,cv];refine cZ.intro () [0,1,2,3,4,5] trivial ?_;simp only[go_sem];simp
 rintro _ _;refine gJ bE ?_;have oL:=hz.2.2.2 p (AA hg)
 try simp only[go_sem]
 refine cb.intro (α:=Nat×J) (λq=>⟨(aA 4 (.ptr 0 0 0::.an::.ptr 3 0 0::.ptr 1 0 0::.an::.i q.1::aA 32 [])),[.box J.ca,.box [.i p.bU,.sl 2 0 p.bV.length],.azy p.bV,.azG q.2 4 5,.aj 39 (q.2.aa.map ae.enc),.azw q.2.ai]⟩)
  (λq=>p.bV.length-q.1) (λq=>q.1<=p.bV.length/\q.2=(p.bV.take q.1).foldl jK y) (0,y) [0,1,2,3,4,5] ⟨by simp,by simp⟩ ?_ ?_
 ·simp only[go_sem];simp
 rintro⟨i,z⟩ ⟨hi,mO⟩;simp only at hi mO;have HC:bW m z:=by rw[mO];exact Dv (λc f h=>HJ h f) _ _ x9
 by_cases h1:i<p.bV.length
 ·have aq:=aro (i:=i) (n:=p.bV.length);have az:=b_ al.enc p.bV i h1;have gz:=oL.1;have hw:=asc (i:=i);have rh:=oL.2 _ (eK h1);have b4:(p.bV.take (i+1)).foldl jK y=jK z p.bV[i]:=by
   rw[gO,cy h1,arD,<-mO];rfl
  generalize p.bV[i]=f at *
  try simp only[go_sem,I,aF,az,al.enc,aq]
  repeat'(first|refine⟨ae7,?_⟩|fail)
  have ri:(jK z f).ai=z.ai:=by
   unfold jK
   repeat' split
   all_goals rfl
  refine af.lp [4,6,7,9] (by simp only[i3,arE,am_,Nat.reduceBEq,Nat.reduceAdd,d4,eF];rfl) (ae4 z f (HC.sz hm) ((VJ (HC.aC _) f).sz hm) ω p.bU i p.bV _ ?_);simp only[fq,gg,f2,g8,hC,go_sem,cx,cv];refine bt.intro (i+1,jK z f) [0,1,2,3,4,5] ⟨by simp only;omega,by simp only;rw[b4]⟩ (show p.bV.length-(i+1)<p.bV.length-i by omega) ?_;simp only[go_sem,hw];simp[ri]
 obtain⟨aq,rfl⟩:=arn (i:=i) (n:=p.bV.length);rw[da]at mO
 try simp only[go_sem,I,aq]
 repeat'(first|refine⟨ae7,?_⟩|fail)
 simp[a3,<-mO,hg]
theorem SH(c:J)(f:al)(k:Int):(bif bif !ew c then true else !eu f then true else decide (f.aY≠k))=!rX c f k:=by
 unfold rX;cases ew c<;>cases eu f<;>by_cases h:f.aY=k<;>simp[h]
theorem ale(c:J)(f:al)(m:Nat)(hv:bW m c)(hm:m<=19):aM 284 [.agg (J.enc c),.agg (al.enc f)] [.agg (J.enc ((y6 c f))),.one (.i (Br c f))]:=by
 refine m_ 69 func284 call284 [.cell 4 37,.tmp 5] ?_;intro ok;clear ok;have hz:=hv.sz ω;have lL:=lo hz;have mn:=CT hv f.ax;have mP:=mn.sz ω;have mV:(cD c f.ax).aa.length<=1000:=by have:=mP.1;omega
 have ng:=mP.2.1;have a3:y6 c f=if Br c f=0 then eO (cD c f.ax) (sL (cD c f.ax) f)else c:=rfl
 have ah:Br c f=if rX c f 5 then(if ft c.bq f.ax then jg c f.ax else 5)else 7:=rfl
 have a5:sL (cD c f.ax) f=if xj (aC (cD c f.ax) f.ax).ag f.cS then hF (aC (cD c f.ax) f.ax) f.cS else aC (cD c f.ax) f.ax:=rfl
 have sy:gx (sL (cD c f.ax) f):=(aau mn).sz ω;have bY:=SH c f 5;obtain⟨dW,cT,dS,eW⟩:=qH mP.2.1 f.ax;have Bj:=dS;have dS:∀fM∈(bQ (cD c f.ax).aa f.ax).1.aU.bT.cq,fM.data.length<=1048576:=λfM hc=>by have:=dS fM hc;omega
 have cM:=pZ (cD c f.ax) f.ax mP;rw[show(bQ (cD c f.ax).aa f.ax).1=aC (cD c f.ax) f.ax from rfl]at dW cT dS Bj eW cM;have SI:=Lw c f.ax hz;generalize aC (cD c f.ax) f.ax=s at *;generalize cD c f.ax=x at *;refine eE bE 6 (α:=Unit) (λ_=>⟨(.an::.an::.ptr 0 0 0::.ptr 1 0 0::.ptr 2 0 0::.an::.ptr 3 0 0::.an::.ptr 6 0 0::aA 60 []),[.box (J.bx c),.box (al.bx f),.box J.ca,.azG x 4 5,.aj 39 (x.aa.map ae.enc),.aj 2 (x.ai.map aL.enc),.box (ae.a2 s (.sl 7 0 s.ag.aB.cells.length) (.sl 8 0 s.ag.bC.length) (.sl 9 0 s.ag.bc.length) (.sl 10 0 s.ag.bJ.length) (.sl 11 0 s.aU.bT.cq.length)),.aj 1 (s.ag.aB.cells.map bg),.aj 2 (s.ag.bC.map ab.enc),.aj 2 (s.ag.bc.map ab.enc),.aj 2 (s.ag.bJ.map ab.enc),.aj 2 (s.aU.bT.cq.map aR.enc)]⟩) (λ_=>rX c f 5/\ft c.bq f.ax/\jg c f.ax=0) ?_ ?_
 ·skip
  try simp only[go_sem]
  repeat'((first|refine af.aj (by first|assumption|(apply lu<;>exact aT)) ?_|refine av.aj (by first|assumption|apply DX) ?_|apply bo)<;>simp only[go_sem])
  rw[bY];cases hg:rX c f 5
  ·rw[hg,if_neg ξ]at ah;rw[ah,if_neg ζ]at a3
   try simp only[go_sem,b7]
   repeat'(first|((first|refine af.aj (by first|assumption|(apply jd<;>exact aT)) ?_|refine av.j ?_)<;>simp only[go_sem,I])|refine⟨ae7,?_⟩|fail)
   simp[a3,ah]
  rw[hg,if_pos rfl]at ah
  try simp only[go_sem,bz]
  repeat'((first|refine af.aj (by first|assumption|apply SJ) ?_|refine av.j ?_)<;>simp only[go_sem])
  cases m8:ft c.bq f.ax
  ·rw[m8,if_neg ξ]at ah;rw[ah,if_neg ζ]at a3
   try simp only[go_sem,b7]
   repeat'(first|((first|refine af.aj (by first|assumption|(apply jd<;>exact aT)) ?_|refine av.j ?_)<;>simp only[go_sem,I])|refine⟨ae7,?_⟩|fail)
   simp[a3,ah]
  rw[m8,if_pos rfl]at ah
  try simp only[go_sem,bz]
  repeat'((first|refine af.j ?_|refine av.j ?_)<;>simp only[go_sem,I])
  cases nr:decide (jg c f.ax≠0)
  ·have lI:jg c f.ax=0:=asr.1 (de nr)
   try simp only[go_sem,I]
   repeat'((first|refine af.j ?_|refine av.j ?_)<;>simp only[go_sem,I])
   refine cZ.intro () [0,1,2,5,3,4,11,6,7,8,9,10] (by first|exact⟨hg,m8,lI⟩|(simp only[true_and];exact lI)|simp[lI]) ?_;simp only[go_sem];simp
  have lI:=cY nr
  skip
  rw[ah,if_neg lI]at a3
  try simp only[go_sem]
  repeat'(first|((first|refine af.aj (by first|assumption|(apply jd<;>exact aT)) ?_|refine av.j ?_)<;>simp only[go_sem,I])|refine⟨ae7,?_⟩|fail)
  simp[a3,ah]
 rintro _ ⟨hg,m8,nr⟩;rw[hg,if_pos rfl,m8,if_pos rfl,nr]at ah;rw[ah,if_pos rfl]at a3;generalize sL x f=t at *;obtain⟨y,hy⟩:∃y,y=x:=⟨_,rfl⟩;refine eE bE 2 (α:=Unit) (λ_=>⟨(aA 4 (.ptr 2 0 0::.an::.ptr 3 0 0::.an::.ptr 6 0 0::aA 60 [])),[.box (J.bx c),.box (al.bx f),.box J.ca,.azG y 4 5,.aj 39 (y.aa.map ae.enc),.aj 2 (y.ai.map aL.enc),.box (ae.a2 t (.sl 7 0 t.ag.aB.cells.length) (.sl 8 0 t.ag.bC.length) (.sl 9 0 t.ag.bc.length) (.sl 10 0 t.ag.bJ.length) (.sl 11 0 t.aU.bT.cq.length)),.aj 1 (t.ag.aB.cells.map bg),.aj 2 (t.ag.bC.map ab.enc),.aj 2 (t.ag.bc.map ab.enc),.aj 2 (t.ag.bJ.map ab.enc),.aj 2 (t.aU.bT.cq.map aR.enc)]⟩) (λ_=>True) ?_ ?_
 ·skip
  try simp only[go_sem,I]
  repeat'((first|refine af.aj (by first|assumption|(apply Wo<;>exact aT)) ?_|refine av.j ?_)<;>simp only[go_sem,I])
  cases hr:xj s.ag f.cS
  ·rw[hr,if_neg ξ]at a5;simp only[go_sem];refine cZ.intro () [0,1,2,3,4,5,6,7,8,9,10,11] trivial ?_;simp only[go_sem,a5,hy];simp
  rw[hr,if_pos rfl]at a5;simp only[go_sem];refine cZ.intro () [0,1,2,3,4,5,6,12,13,14,15,11] trivial ?_;simp only[go_sem,a5,hF,hy];simp
 rintro _ _;have JM:y.aa.length<=1000:=by rw[hy];exact mV
 have JN:∀q∈y.aa,gx q:=by rw[hy];exact ng
 rw[<-hy]at a3;refine eE bE 1 (α:=Unit) (λ_=>⟨(aA 4 (.ptr 2 0 0::.an::.ptr 3 0 0::aA 62 [])),[.box (J.bx c),.box (al.bx f),.box J.ca,.box (J.a2 ((eO y t)) (.sl 4 0 ((eO y t)).aa.length) (.sl 5 0 ((eO y t)).ai.length)),.aj 39 (((eO y t)).aa.map ae.enc),.aj 2 (((eO y t)).ai.map aL.enc)]⟩) (λ_=>True) ?_ ?_
 ·simp only[go_sem,I];refine af.lp [4,6] (by simp only[i3,arE,am_,Nat.reduceBEq,Nat.reduceAdd,d4,eF];rfl) (Bm y t (.aj 2 (y.ai.map aL.enc)) (λ_=>trivial) JM JN sy [.box (J.bx c),.box (al.bx f),.box J.ca] _ (by simp[e4,eN,b3,vok]) (by simp[b3,vok]) _ ?_);simp only[gg,f2,g8,go_sem];have ri:(eO y t).ai=y.ai:=(zk y t).2;refine cZ.intro () [0,1,2,3,4,5] trivial ?_;simp only[go_sem];simp[ri]
 rintro _ _;refine gJ bE ?_
 try simp only[go_sem,I]
 repeat'(first|refine⟨ae7,?_⟩|fail)
 simp[a3,ah]
theorem ak1(c:J)(f:al)(m:Nat)(hv:bW m c)(hm:m<=19)(hd:f.data.length<=8)(aG:0<=f.aP/\f.aP<=900):aM 282 [.agg (J.enc c),.agg (al.enc f)] [.agg (J.enc ((yW c f))),.one (.i (Bi c f))]:=by
 refine m_ 88 func282 call282 [.cell 4 37,.tmp 5] ?_;intro ok;clear ok;have hz:=hv.sz ω;have lL:=lo hz;have mn:=CT hv f.ax;have mP:=mn.sz ω;have mV:(cD c f.ax).aa.length<=1000:=by have:=mP.1;omega
 have ng:=mP.2.1;have a3:yW c f=if Bi c f=0 then eO (oa (cD c f.ax) (aC (cD c f.ax) f.ax) (xO f)) (CU (cD c f.ax) f)else c:=rfl
 have ah:Bi c f=if rX c f 8 then(if fS c.bq f.ax then(if jg c f.ax=0 then(if mI (cD c f.ax) (aC (cD c f.ax) f.ax) (xO f)=0 then yX (aC (cD c f.ax) f.ax).aU f.aP f.data f.aS else mI (cD c f.ax) (aC (cD c f.ax) f.ax) (xO f))else jg c f.ax)else 5)else 7:=rfl
 have a5:CU (cD c f.ax) f=iH (nu (aC (cD c f.ax) f.ax) (xO f)) (s3 (aC (cD c f.ax) f.ax).aU f.aP f.data f.aS):=rfl;have sy:gx (CU (cD c f.ax) f):=(aal mn hd aG).sz ω;have BW:=mn.aC f.ax;have JI:=BW.fM;clear BW;have bY:=SH c f 8;obtain⟨dW,cT,dS,eW⟩:=qH mP.2.1 f.ax;have Bj:=dS;have dS:∀fM∈(bQ (cD c f.ax).aa f.ax).1.aU.bT.cq,fM.data.length<=1048576:=λfM hc=>by have:=dS fM hc;omega
 have cM:=pZ (cD c f.ax) f.ax mP;rw[show(bQ (cD c f.ax).aa f.ax).1=aC (cD c f.ax) f.ax from rfl]at dW cT dS Bj eW cM;have SI:=Lw c f.ax hz;generalize aC (cD c f.ax) f.ax=s at *;generalize cD c f.ax=x at *;refine eE bE 6 (α:=Unit) (λ_=>⟨(.an::.an::.ptr 0 0 0::.ptr 1 0 0::.ptr 2 0 0::.an::.ptr 3 0 0::.an::.ptr 6 0 0::aA 79 []),[.box (J.bx c),.box (al.bx f),.box J.ca,.azG x 4 5,.aj 39 (x.aa.map ae.enc),.aj 2 (x.ai.map aL.enc),.box (ae.a2 s (.sl 7 0 s.ag.aB.cells.length) (.sl 8 0 s.ag.bC.length) (.sl 9 0 s.ag.bc.length) (.sl 10 0 s.ag.bJ.length) (.sl 11 0 s.aU.bT.cq.length)),.aj 1 (s.ag.aB.cells.map bg),.aj 2 (s.ag.bC.map ab.enc),.aj 2 (s.ag.bc.map ab.enc),.aj 2 (s.ag.bJ.map ab.enc),.aj 2 (s.aU.bT.cq.map aR.enc)]⟩) (λ_=>rX c f 8/\fS c.bq f.ax/\jg c f.ax=0) ?_ ?_
 ·skip
  try simp only[go_sem]
  repeat'(first|((first|refine af.aj (by first|assumption|(apply lu<;>exact aT)) ?_|refine av.aj (by first|assumption|apply DX) ?_|apply bo)<;>simp only[go_sem])|refine⟨ae7,?_⟩|fail)
  rw[bY];cases hg:rX c f 8
  ·rw[hg,if_neg ξ]at ah;rw[ah,if_neg ζ]at a3
   try simp only[go_sem,b7]
   repeat'(first|((first|refine af.aj (by first|assumption|(apply jd<;>exact aT)) ?_|refine av.j ?_)<;>simp only[go_sem,I])|refine⟨ae7,?_⟩|fail)
   simp[a3,ah]
  rw[hg,if_pos rfl]at ah
  try simp only[go_sem,bz]
  repeat'(first|((first|refine af.aj (by first|assumption|apply No) ?_|refine av.j ?_)<;>simp only[go_sem])|refine⟨ae7,?_⟩|fail)
  cases m8:fS c.bq f.ax
  ·rw[m8,if_neg ξ]at ah;rw[ah,if_neg ζ]at a3
   try simp only[go_sem,b7]
   repeat'(first|((first|refine af.aj (by first|assumption|(apply jd<;>exact aT)) ?_|refine av.j ?_)<;>simp only[go_sem,I])|refine⟨ae7,?_⟩|fail)
   simp[a3,ah]
  rw[m8,if_pos rfl]at ah
  try simp only[go_sem,bz]
  repeat'((first|refine af.j ?_|refine av.j ?_)<;>simp only[go_sem,I])
  cases nr:decide (jg c f.ax≠0)
  ·have lI:jg c f.ax=0:=asr.1 (de nr)
   try simp only[go_sem,I]
   repeat'((first|refine af.j ?_|refine av.j ?_)<;>simp only[go_sem,I])
   refine cZ.intro () [0,1,2,5,3,4,11,6,7,8,9,10] (by first|exact⟨hg,m8,lI⟩|(simp only[true_and];exact lI)|simp[lI]) ?_;simp only[go_sem];simp
  have lI:=cY nr;rw[if_neg lI]at ah;rw[ah,if_neg lI]at a3
  try simp only[go_sem]
  repeat'(first|((first|refine af.aj (by first|assumption|(apply jd<;>exact aT)) ?_|refine av.j ?_)<;>simp only[go_sem,I])|refine⟨ae7,?_⟩|fail)
  simp[a3,ah]
 rintro _ ⟨hg,m8,nr⟩;rw[hg,if_pos rfl,m8,if_pos rfl,nr,if_pos rfl]at ah;have a1:s3 s.aU f.aP f.data f.aS=s3 s.aU f.aP f.data f.aS:=rfl;generalize JJ:s3 s.aU f.aP f.data f.aS=r at a5 a1;have a1:r=s3 s.aU f.aP f.data f.aS:=JJ.symm;have Mq:i64.wrap (f.aP+(f.data.length:Int))=xO f:=rfl;generalize xO f=e at *;refine eE bE 1 (α:=Unit) (λ_=>⟨(.an::.an::.ptr 0 0 0::.ptr 1 0 0::.ptr 2 0 0::.an::.ptr 3 0 0::.an::.ptr 6 0 0::.an::.ptr 12 0 0::.i (yX s.aU f.aP f.data f.aS)::aA 76 []),[.box (J.bx c),.box (al.bx f),.box J.ca,.azG x 4 5,.aj 39 (x.aa.map ae.enc),.aj 2 (x.ai.map aL.enc),.box (ae.a2 s (.sl 7 0 s.ag.aB.cells.length) (.sl 8 0 s.ag.bC.length) (.sl 9 0 s.ag.bc.length) (.sl 10 0 s.ag.bJ.length) (.sl 11 0 s.aU.bT.cq.length)),.aj 1 (s.ag.aB.cells.map bg),.aj 2 (s.ag.bC.map ab.enc),.aj 2 (s.ag.bc.map ab.enc),.aj 2 (s.ag.bJ.map ab.enc),.aj 2 (s.aU.bT.cq.map aR.enc),.box (cf.a2 r (.sl 13 0 r.bT.cq.length)),.aj 2 (r.bT.cq.map aR.enc)]⟩) (λ_=>True) ?_ ?_
 ·skip
  try simp only[go_sem,I]
  repeat'((first|refine af.aj (by first|assumption|(apply ak2<;>exact aT)) ?_|refine av.j ?_)<;>simp only[go_sem,I])
  refine cZ.intro () [0,1,2,3,4,5,6,7,8,9,10,11,13,12] trivial ?_;simp only[go_sem];simp[<-a1]
 rintro _ _;refine eE bE 1 (α:=J×ae) (λy=>⟨(.an::.an::.ptr 0 0 0::.ptr 1 0 0::.ptr 2 0 0::.an::.ptr 3 0 0::.i (mI x s (e))::.ptr 6 0 0::.an::.ptr 12 0 0::.i (yX s.aU f.aP f.data f.aS)::aA 76 []),[.box (J.bx c),.box (al.bx f),.box J.ca,.azG y.1 4 5,.aj 39 (y.1.aa.map ae.enc),.aj 2 (y.1.ai.map aL.enc),.box (ae.a2 y.2 (.sl 7 0 y.2.ag.aB.cells.length) (.sl 8 0 y.2.ag.bC.length) (.sl 9 0 y.2.ag.bc.length) (.sl 10 0 y.2.ag.bJ.length) (.sl 11 0 y.2.aU.bT.cq.length)),.aj 1 (y.2.ag.aB.cells.map bg),.aj 2 (y.2.ag.bC.map ab.enc),.aj 2 (y.2.ag.bc.map ab.enc),.aj 2 (y.2.ag.bJ.map ab.enc),.aj 2 (y.2.aU.bT.cq.map aR.enc),.box (cf.a2 r (.sl 13 0 r.bT.cq.length)),.aj 2 (r.bT.cq.map aR.enc)]⟩) (λy=>mI x s (e)=0->y.1=oa x s (e)/\y.2=nu s (e)) ?_ ?_
 ·simp only[go_sem,Mq];refine af.lp [2,3,4,6,8,10,11] (by simp only[i3,arE,am_,Nat.reduceBEq,Nat.reduceAdd,d4,eF];rfl) (gi (n:=52) (rs:=[.tmp 6]) func319 rfl call319 bE rfl rfl ?_);simp only[go_sem,I]
  try simp only[go_sem,I]
  repeat'((first|refine af.intro (by first|assumption|(apply aam<;>exact aT)) ?_|refine av.i ?_)<;>simp only[go_sem])
  cases hn:decide (jo s.aU (e)=0)
  ·have me:¬yY s (e)=0:=de hn;have ak:mI x s (e)=if lJ s.bL (jo s.aU (e))&&lJ x.c7 (jo s.aU (e))then 0 else 3:=by unfold mI;rw[if_neg me];rfl
   have ar:oa x s (e)={x with c7:=rY x.c7 (jo s.aU (e))}:=by unfold oa;rw[if_neg me];rfl
   have a4:nu s (e)={s with bL:=rY s.bL (jo s.aU (e))}:=by unfold nu;rw[if_neg me];rfl
   try simp only[go_sem]
   repeat'((first|refine af.intro (by first|assumption|apply aan) ?_|refine av.i ?_|apply bo)<;>simp only[go_sem])
   have JK:(bif !lJ s.bL (jo s.aU (e))then true else !lJ x.c7 (jo s.aU (e)))=!(lJ s.bL (jo s.aU (e))&&lJ x.c7 (jo s.aU (e))):=by
    cases lJ s.bL (jo s.aU (e))<;>cases lJ x.c7 (jo s.aU (e))<;>rfl
   rw[JK];cases hk:lJ s.bL (jo s.aU (e))&&lJ x.c7 (jo s.aU (e))
   ·rw[hk,if_neg ξ]at ak
    try simp only[go_sem,b7]
    refine cZ.intro (x,s) [0,1,2,3,4,5,6,7,8,9,10,11,12,13] (λh=>by rw[ak]at h;cases h) ?_;simp only[go_sem,ak];simp
   rw[hk,if_pos rfl]at ak
   try simp only[go_sem,bz]
   refine cZ.intro ({x with c7:=rY x.c7 (jo s.aU (e))},{s with bL:=rY s.bL (jo s.aU (e))}) [0,1,2,3,4,5,6,7,8,9,10,11,12,13] (λ_=>⟨ar.symm,a4.symm⟩) ?_;simp only[go_sem,ak];simp
  have me:yY s (e)=0:=cY hn;have ak:mI x s (e)=0:=by unfold mI;rw[if_pos me]
  have ar:oa x s (e)=x:=by unfold oa;rw[if_pos me]
  have a4:nu s (e)=s:=by unfold nu;rw[if_pos me]
  try simp only[go_sem]
  refine cZ.intro (x,s) [0,1,2,3,4,5,6,7,8,9,10,11,12,13] (λ_=>⟨ar.symm,a4.symm⟩) ?_;simp only[go_sem,ak];simp
 rintro⟨x2,u⟩ JL;simp only at JL;refine eE bE 2 (α:=Unit) (λ_=>⟨(.an::.an::.ptr 0 0 0::.ptr 1 0 0::.ptr 2 0 0::.an::.ptr 3 0 0::.an::.ptr 6 0 0::.an::.ptr 12 0 0::aA 77 []),[.box (J.bx c),.box (al.bx f),.box J.ca,.azG x2 4 5,.aj 39 (x2.aa.map ae.enc),.aj 2 (x2.ai.map aL.enc),.box (ae.a2 u (.sl 7 0 u.ag.aB.cells.length) (.sl 8 0 u.ag.bC.length) (.sl 9 0 u.ag.bc.length) (.sl 10 0 u.ag.bJ.length) (.sl 11 0 u.aU.bT.cq.length)),.aj 1 (u.ag.aB.cells.map bg),.aj 2 (u.ag.bC.map ab.enc),.aj 2 (u.ag.bc.map ab.enc),.aj 2 (u.ag.bJ.map ab.enc),.aj 2 (u.aU.bT.cq.map aR.enc),.box (cf.a2 r (.sl 13 0 r.bT.cq.length)),.aj 2 (r.bT.cq.map aR.enc)]⟩) (λ_=>mI x s (e)=0/\yX s.aU f.aP f.data f.aS=0) ?_ ?_
 ·simp only[go_sem];cases yZ:decide (mI x s (e)≠0)
  ·have s4:=asr.1 (de yZ);rw[s4,if_pos rfl]at ah;simp only[go_sem];cases Bk:decide (yX s.aU f.aP f.data f.aS≠0)
   ·have Bl:=asr.1 (de Bk);simp only[go_sem];refine cZ.intro () [0,1,2,3,4,5,6,7,8,9,10,11,12,13] (by first|exact⟨s4,Bl⟩|simp[s4,Bl]) ?_;simp only[go_sem];simp
   have Bl:=cY Bk;rw[ah,if_neg Bl]at a3
   try simp only[go_sem]
   repeat'(first|((first|refine af.aj (by first|assumption|(apply jd<;>exact aT)) ?_|refine av.j ?_)<;>simp only[go_sem,I])|refine⟨ae7,?_⟩|fail)
   simp[a3,ah]
  have s4:=cY yZ;rw[if_neg s4]at ah;rw[ah,if_neg s4]at a3
  try simp only[go_sem]
  repeat'(first|((first|refine af.aj (by first|assumption|(apply jd<;>exact aT)) ?_|refine av.j ?_|apply bo)<;>simp only[go_sem,I])|refine⟨ae7,?_⟩|fail)
  simp[a3,ah]
 rintro _ ⟨yZ,Bk⟩;obtain⟨zG,hu⟩:=JL yZ;rw[yZ,if_pos rfl,Bk]at ah;rw[ah,if_pos rfl]at a3;obtain⟨y,hy⟩:∃y,y=x2:=⟨_,rfl⟩;have BP:y.aa=x.aa:=by rw[hy,zG];exact(GV _ _ _).1
 have JM:y.aa.length<=1000:=by rw[BP];exact mV
 have JN:∀q∈y.aa,gx q:=by rw[BP];exact ng
 rw[<-hu]at a5;rw[<-zG,<-hy]at a3;generalize CU x f=t at *;refine eE bE 1 (α:=Unit) (λ_=>⟨(aA 4 (.ptr 2 0 0::.an::.ptr 3 0 0::.an::.ptr 6 0 0::aA 79 [])),[.box (J.bx c),.box (al.bx f),.box J.ca,.azG y 4 5,.aj 39 (y.aa.map ae.enc),.aj 2 (y.ai.map aL.enc),.box (ae.a2 t (.sl 7 0 t.ag.aB.cells.length) (.sl 8 0 t.ag.bC.length) (.sl 9 0 t.ag.bc.length) (.sl 10 0 t.ag.bJ.length) (.sl 11 0 t.aU.bT.cq.length)),.aj 1 (t.ag.aB.cells.map bg),.aj 2 (t.ag.bC.map ab.enc),.aj 2 (t.ag.bc.map ab.enc),.aj 2 (t.ag.bJ.map ab.enc),.aj 2 (t.aU.bT.cq.map aR.enc)]⟩) (λ_=>True) ?_ ?_
 ·simp only[go_sem];refine cZ.intro () [0,1,2,3,4,5,6,7,8,9,10,13] trivial ?_;simp only[go_sem,a5,hy,iH];simp
 rintro _ _;refine eE bE 1 (α:=Unit) (λ_=>⟨(aA 4 (.ptr 2 0 0::.an::.ptr 3 0 0::aA 81 [])),[.box (J.bx c),.box (al.bx f),.box J.ca,.box (J.a2 ((eO y t)) (.sl 4 0 ((eO y t)).aa.length) (.sl 5 0 ((eO y t)).ai.length)),.aj 39 (((eO y t)).aa.map ae.enc),.aj 2 (((eO y t)).ai.map aL.enc)]⟩) (λ_=>True) ?_ ?_
 ·simp only[go_sem,I];refine af.lp [4,6] (by simp only[i3,arE,am_,Nat.reduceBEq,Nat.reduceAdd,d4,eF];rfl) (Bm y t (.aj 2 (y.ai.map aL.enc)) (λ_=>trivial) JM JN sy [.box (J.bx c),.box (al.bx f),.box J.ca] _ (by simp[e4,eN,b3,vok]) (by simp[b3,vok]) _ ?_);simp only[gg,f2,g8,go_sem];have ri:(eO y t).ai=y.ai:=(zk y t).2;refine cZ.intro () [0,1,2,3,4,5] trivial ?_;simp only[go_sem];simp[ri]
 rintro _ _;refine gJ bE ?_
 try simp only[go_sem,I]
 repeat'(first|refine⟨ae7,?_⟩|fail)
 simp[a3,ah]
theorem ald(c:J)(f:al)(m:Nat)(hv:bW m c)(hm:m<=19):aM 283 [.agg (J.enc c),.agg (al.enc f)] [.agg (J.enc ((y3 c f))),.one (.i (Bp c f))]:=by
 refine m_ 94 func283 call283 [.cell 4 37,.tmp 5] ?_;intro ok;clear ok;have hz:=hv.sz ω;have lL:=lo hz;have mn:=CT hv f.ax;have mP:=mn.sz ω;have mV:(cD c f.ax).aa.length<=1000:=by have:=mP.1;omega
 have ng:=mP.2.1;have a3:y3 c f=if Bp c f=0 then eO (Bq (cD c f.ax) f) (y4 (cD c f.ax) f)else c:=rfl
 have ah:Bp c f=if rX c f 4 then(if fS c.bq f.ax then(if jg c f.ax=0 then(if mI (cD c f.ax) (aC (cD c f.ax) f.ax) f.bf=0 then z7 (aC (cD c f.ax) f.ax).aU f.cS f.bf else mI (cD c f.ax) (aC (cD c f.ax) f.ax) f.bf)else jg c f.ax)else 5)else 7:=rfl
 have hB:EC (cD c f.ax) f=(decide ((y5 (aC (cD c f.ax) f.ax).aU f.cS f.bf).bp=4)&&decide ((aC (cD c f.ax) f.ax).aU.bp≠4)):=rfl;have a5:y4 (cD c f.ax) f=iH (if EC (cD c f.ax) f then xP (nu (aC (cD c f.ax) f.ax) f.bf) f.bf else nu (aC (cD c f.ax) f.ax) f.bf) (y5 (aC (cD c f.ax) f.ax).aU f.cS f.bf):=rfl;have dm:Bq (cD c f.ax) f=if EC (cD c f.ax) f then xQ (oa (cD c f.ax) (aC (cD c f.ax) f.ax) f.bf) (nu (aC (cD c f.ax) f.ax) f.bf) f.bf else oa (cD c f.ax) (aC (cD c f.ax) f.ax) f.bf:=rfl
 have sy:gx (y4 (cD c f.ax) f):=(aat mn).sz ω;have JS:(Bq (cD c f.ax) f).aa=(cD c f.ax).aa:=(JU _ f).1;have JI:=(mn.aC f.ax).fM;have bY:=SH c f 4;obtain⟨dW,cT,dS,eW⟩:=qH mP.2.1 f.ax;have Bj:=dS;have dS:∀fM∈(bQ (cD c f.ax).aa f.ax).1.aU.bT.cq,fM.data.length<=1048576:=λfM hc=>by have:=dS fM hc;omega
 have cM:=pZ (cD c f.ax) f.ax mP;rw[show(bQ (cD c f.ax).aa f.ax).1=aC (cD c f.ax) f.ax from rfl]at dW cT dS Bj eW cM;have SI:=Lw c f.ax hz;generalize aC (cD c f.ax) f.ax=s at *;generalize cD c f.ax=x at *;refine eE bE 6 (α:=Unit) (λ_=>⟨(.an::.an::.ptr 0 0 0::.ptr 1 0 0::.ptr 2 0 0::.an::.ptr 3 0 0::.an::.ptr 6 0 0::aA 85 []),[.box (J.bx c),.box (al.bx f),.box J.ca,.azG x 4 5,.aj 39 (x.aa.map ae.enc),.aj 2 (x.ai.map aL.enc),.box (ae.a2 s (.sl 7 0 s.ag.aB.cells.length) (.sl 8 0 s.ag.bC.length) (.sl 9 0 s.ag.bc.length) (.sl 10 0 s.ag.bJ.length) (.sl 11 0 s.aU.bT.cq.length)),.aj 1 (s.ag.aB.cells.map bg),.aj 2 (s.ag.bC.map ab.enc),.aj 2 (s.ag.bc.map ab.enc),.aj 2 (s.ag.bJ.map ab.enc),.aj 2 (s.aU.bT.cq.map aR.enc)]⟩) (λ_=>rX c f 4/\fS c.bq f.ax/\jg c f.ax=0) ?_ ?_
 ·skip
  try simp only[go_sem]
  repeat'(first|((first|refine af.aj (by first|assumption|(apply lu<;>exact aT)) ?_|refine av.aj (by first|assumption|apply DX) ?_|apply bo)<;>simp only[go_sem])|refine⟨ae7,?_⟩|fail)
  rw[bY];cases hg:rX c f 4
  ·rw[hg,if_neg ξ]at ah;rw[ah,if_neg ζ]at a3
   try simp only[go_sem,b7]
   repeat'(first|((first|refine af.aj (by first|assumption|(apply jd<;>exact aT)) ?_|refine av.j ?_)<;>simp only[go_sem,I])|refine⟨ae7,?_⟩|fail)
   simp[a3,ah]
  rw[hg,if_pos rfl]at ah
  try simp only[go_sem,bz]
  repeat'((first|refine af.aj (by first|assumption|apply No) ?_|refine av.j ?_|apply bo)<;>simp only[go_sem])
  cases m8:fS c.bq f.ax
  ·rw[m8,if_neg ξ]at ah;rw[ah,if_neg ζ]at a3
   try simp only[go_sem,b7]
   repeat'(first|((first|refine af.aj (by first|assumption|(apply jd<;>exact aT)) ?_|refine av.j ?_)<;>simp only[go_sem,I])|refine⟨ae7,?_⟩|fail)
   simp[a3,ah]
  rw[m8,if_pos rfl]at ah
  try simp only[go_sem,bz]
  repeat'((first|refine af.j ?_|refine av.j ?_)<;>simp only[go_sem,I])
  cases nr:decide (jg c f.ax≠0)
  ·have lI:jg c f.ax=0:=asr.1 (de nr)
   try simp only[go_sem,I]
   repeat'((first|refine af.j ?_|refine av.j ?_)<;>simp only[go_sem,I])
   refine cZ.intro () [0,1,2,5,3,4,11,6,7,8,9,10] (by first|exact⟨hg,m8,lI⟩|(simp only[true_and];exact lI)|simp[lI]) ?_;simp only[go_sem];simp
  have lI:=cY nr;rw[if_neg lI]at ah;rw[ah,if_neg lI]at a3
  try simp only[go_sem]
  repeat'(first|((first|refine af.aj (by first|assumption|(apply jd<;>exact aT)) ?_|refine av.j ?_)<;>simp only[go_sem,I])|refine⟨ae7,?_⟩|fail)
  simp[a3,ah]
 rintro _ ⟨hg,m8,nr⟩;rw[hg,if_pos rfl,m8,if_pos rfl,nr,if_pos rfl]at ah;generalize JJ:y5 s.aU f.cS f.bf=r at a5 hB;have a1:r=y5 s.aU f.cS f.bf:=JJ.symm;refine eE bE 1 (α:=Unit) (λ_=>⟨(.an::.an::.ptr 0 0 0::.ptr 1 0 0::.ptr 2 0 0::.an::.ptr 3 0 0::.an::.ptr 6 0 0::.an::.ptr 12 0 0::.i (z7 s.aU f.cS f.bf)::aA 82 []),[.box (J.bx c),.box (al.bx f),.box J.ca,.azG x 4 5,.aj 39 (x.aa.map ae.enc),.aj 2 (x.ai.map aL.enc),.box (ae.a2 s (.sl 7 0 s.ag.aB.cells.length) (.sl 8 0 s.ag.bC.length) (.sl 9 0 s.ag.bc.length) (.sl 10 0 s.ag.bJ.length) (.sl 11 0 s.aU.bT.cq.length)),.aj 1 (s.ag.aB.cells.map bg),.aj 2 (s.ag.bC.map ab.enc),.aj 2 (s.ag.bc.map ab.enc),.aj 2 (s.ag.bJ.map ab.enc),.aj 2 (s.aU.bT.cq.map aR.enc),.box (cf.a2 r (.sl 13 0 r.bT.cq.length)),.aj 2 (r.bT.cq.map aR.enc)]⟩) (λ_=>True) ?_ ?_
 ·skip
  try simp only[go_sem,I]
  repeat'((first|refine af.aj (by first|assumption|(apply ali<;>exact aT)) ?_|refine av.j ?_)<;>simp only[go_sem,I])
  refine cZ.intro () [0,1,2,3,4,5,6,7,8,9,10,11,13,12] trivial ?_;simp only[go_sem];simp[<-a1]
 rintro _ _;refine eE bE 1 (α:=J×ae) (λy=>⟨(.an::.an::.ptr 0 0 0::.ptr 1 0 0::.ptr 2 0 0::.an::.ptr 3 0 0::.i (mI x s (f.bf))::.ptr 6 0 0::.an::.ptr 12 0 0::.i (z7 s.aU f.cS f.bf)::aA 82 []),[.box (J.bx c),.box (al.bx f),.box J.ca,.azG y.1 4 5,.aj 39 (y.1.aa.map ae.enc),.aj 2 (y.1.ai.map aL.enc),.box (ae.a2 y.2 (.sl 7 0 y.2.ag.aB.cells.length) (.sl 8 0 y.2.ag.bC.length) (.sl 9 0 y.2.ag.bc.length) (.sl 10 0 y.2.ag.bJ.length) (.sl 11 0 y.2.aU.bT.cq.length)),.aj 1 (y.2.ag.aB.cells.map bg),.aj 2 (y.2.ag.bC.map ab.enc),.aj 2 (y.2.ag.bc.map ab.enc),.aj 2 (y.2.ag.bJ.map ab.enc),.aj 2 (y.2.aU.bT.cq.map aR.enc),.box (cf.a2 r (.sl 13 0 r.bT.cq.length)),.aj 2 (r.bT.cq.map aR.enc)]⟩) (λy=>mI x s (f.bf)=0->y.1=oa x s (f.bf)/\y.2=nu s (f.bf)) ?_ ?_
 ·simp only[go_sem];refine af.lp [2,3,4,6,8,10,11] (by simp only[i3,arE,am_,Nat.reduceBEq,Nat.reduceAdd,d4,eF];rfl) (gi (n:=52) (rs:=[.tmp 6]) func319 rfl call319 bE rfl rfl ?_);simp only[go_sem,I]
  try simp only[go_sem,I]
  repeat'((first|refine af.intro (by first|assumption|(apply aam<;>exact aT)) ?_|refine av.i ?_)<;>simp only[go_sem])
  cases hn:decide (jo s.aU (f.bf)=0)
  ·have me:¬yY s (f.bf)=0:=de hn;have ak:mI x s (f.bf)=if lJ s.bL (jo s.aU (f.bf))&&lJ x.c7 (jo s.aU (f.bf))then 0 else 3:=by unfold mI;rw[if_neg me];rfl
   have ar:oa x s (f.bf)={x with c7:=rY x.c7 (jo s.aU (f.bf))}:=by unfold oa;rw[if_neg me];rfl
   have a4:nu s (f.bf)={s with bL:=rY s.bL (jo s.aU (f.bf))}:=by unfold nu;rw[if_neg me];rfl
   try simp only[go_sem]
   repeat'((first|refine af.intro (by first|assumption|apply aan) ?_|refine av.i ?_|apply bo)<;>simp only[go_sem])
   have JK:(bif !lJ s.bL (jo s.aU (f.bf))then true else !lJ x.c7 (jo s.aU (f.bf)))=!(lJ s.bL (jo s.aU (f.bf))&&lJ x.c7 (jo s.aU (f.bf))):=by
    cases lJ s.bL (jo s.aU (f.bf))<;>cases lJ x.c7 (jo s.aU (f.bf))<;>rfl
   rw[JK];cases hk:lJ s.bL (jo s.aU (f.bf))&&lJ x.c7 (jo s.aU (f.bf))
   ·rw[hk,if_neg ξ]at ak
    try simp only[go_sem,b7]
    refine cZ.intro (x,s) [0,1,2,3,4,5,6,7,8,9,10,11,12,13] (λh=>by rw[ak]at h;cases h) ?_;simp only[go_sem,ak];simp
   rw[hk,if_pos rfl]at ak
   try simp only[go_sem,bz]
   refine cZ.intro ({x with c7:=rY x.c7 (jo s.aU (f.bf))},{s with bL:=rY s.bL (jo s.aU (f.bf))}) [0,1,2,3,4,5,6,7,8,9,10,11,12,13] (λ_=>⟨ar.symm,a4.symm⟩) ?_;simp only[go_sem,ak];simp
  have me:yY s (f.bf)=0:=cY hn;have ak:mI x s (f.bf)=0:=by unfold mI;rw[if_pos me]
  have ar:oa x s (f.bf)=x:=by unfold oa;rw[if_pos me]
  have a4:nu s (f.bf)=s:=by unfold nu;rw[if_pos me]
  try simp only[go_sem]
  refine cZ.intro (x,s) [0,1,2,3,4,5,6,7,8,9,10,11,12,13] (λ_=>⟨ar.symm,a4.symm⟩) ?_;simp only[go_sem,ak];simp
 rintro⟨x2,u⟩ JL;simp only at JL;refine eE bE 2 (α:=Unit) (λ_=>⟨(.an::.an::.ptr 0 0 0::.ptr 1 0 0::.ptr 2 0 0::.an::.ptr 3 0 0::.an::.ptr 6 0 0::.an::.ptr 12 0 0::aA 83 []),[.box (J.bx c),.box (al.bx f),.box J.ca,.azG x2 4 5,.aj 39 (x2.aa.map ae.enc),.aj 2 (x2.ai.map aL.enc),.box (ae.a2 u (.sl 7 0 u.ag.aB.cells.length) (.sl 8 0 u.ag.bC.length) (.sl 9 0 u.ag.bc.length) (.sl 10 0 u.ag.bJ.length) (.sl 11 0 u.aU.bT.cq.length)),.aj 1 (u.ag.aB.cells.map bg),.aj 2 (u.ag.bC.map ab.enc),.aj 2 (u.ag.bc.map ab.enc),.aj 2 (u.ag.bJ.map ab.enc),.aj 2 (u.aU.bT.cq.map aR.enc),.box (cf.a2 r (.sl 13 0 r.bT.cq.length)),.aj 2 (r.bT.cq.map aR.enc)]⟩) (λ_=>mI x s (f.bf)=0/\z7 s.aU f.cS f.bf=0) ?_ ?_
 ·simp only[go_sem];cases yZ:decide (mI x s (f.bf)≠0)
  ·have s4:=asr.1 (de yZ);rw[s4,if_pos rfl]at ah;simp only[go_sem];cases Bk:decide (z7 s.aU f.cS f.bf≠0)
   ·have Bl:=asr.1 (de Bk);simp only[go_sem];refine cZ.intro () [0,1,2,3,4,5,6,7,8,9,10,11,12,13] (by first|exact⟨s4,Bl⟩|simp[s4,Bl]) ?_;simp only[go_sem];simp
   have Bl:=cY Bk;rw[ah,if_neg Bl]at a3
   try simp only[go_sem]
   repeat'(first|((first|refine af.aj (by first|assumption|(apply jd<;>exact aT)) ?_|refine av.j ?_)<;>simp only[go_sem,I])|refine⟨ae7,?_⟩|fail)
   simp[a3,ah]
  have s4:=cY yZ;rw[if_neg s4]at ah;rw[ah,if_neg s4]at a3
  try simp only[go_sem]
  repeat'(first|((first|refine af.aj (by first|assumption|(apply jd<;>exact aT)) ?_|refine av.j ?_|apply bo)<;>simp only[go_sem,I])|refine⟨ae7,?_⟩|fail)
  simp[a3,ah]
 rintro _ ⟨yZ,Bk⟩;obtain⟨zG,hu⟩:=JL yZ;rw[yZ,if_pos rfl,Bk]at ah;rw[ah,if_pos rfl]at a3;have alj:u.aU.bp=s.aU.bp:=by rw[hu,(Nr s f.bf).2.1]
 rw[<-alj]at hB;rw[<-hu]at a5 dm;rw[<-zG]at dm;have alk:(bif decide (r.bp=4)then decide (u.aU.bp≠4)else false)=EC x f:=by rw[hB];cases decide (r.bp=4)<;>rfl
 generalize EC x f=B at *;refine eE bE 1 (α:=J×ae) (λy=>⟨(.an::.an::.ptr 0 0 0::.ptr 1 0 0::.ptr 2 0 0::.an::.ptr 3 0 0::.an::.ptr 6 0 0::.an::.ptr 12 0 0::aA 83 []),[.box (J.bx c),.box (al.bx f),.box J.ca,.azG y.1 4 5,.aj 39 (y.1.aa.map ae.enc),.aj 2 (y.1.ai.map aL.enc),.box (ae.a2 y.2 (.sl 7 0 y.2.ag.aB.cells.length) (.sl 8 0 y.2.ag.bC.length) (.sl 9 0 y.2.ag.bc.length) (.sl 10 0 y.2.ag.bJ.length) (.sl 11 0 y.2.aU.bT.cq.length)),.aj 1 (y.2.ag.aB.cells.map bg),.aj 2 (y.2.ag.bC.map ab.enc),.aj 2 (y.2.ag.bc.map ab.enc),.aj 2 (y.2.ag.bJ.map ab.enc),.aj 2 (y.2.aU.bT.cq.map aR.enc),.box (cf.a2 r (.sl 13 0 r.bT.cq.length)),.aj 2 (r.bT.cq.map aR.enc)]⟩) (λy=>y.1=Bq x f/\iH y.2 r=y4 x f) ?_ ?_
 ·skip
  try simp only[go_sem]
  repeat'(apply bo<;>simp only[go_sem])
  rw[alk];cases B
  ·rw[if_neg ξ]at a5 dm;simp only[go_sem];refine cZ.intro (x2,u) [0,1,2,3,4,5,6,7,8,9,10,11,12,13] ⟨dm.symm,a5.symm⟩ ?_;simp only[go_sem];simp
  rw[if_pos rfl]at a5 dm;simp only[go_sem];refine af.lp [2,3,4,6,8,10] (by simp only[i3,arE,am_,Nat.reduceBEq,Nat.reduceAdd,d4,eF];rfl) (gi (n:=45) (rs:=[]) func279 rfl call279 bE rfl rfl ?_);simp only[go_sem]
  try simp only[go_sem,I]
  repeat'(first|((first|refine af.intro (by first|assumption|apply aas) ?_|refine av.i ?_)<;>simp only[go_sem])|refine⟨ae7,?_⟩|fail)
  refine cZ.intro (xQ x2 u f.bf,xP u f.bf) [0,1,2,3,4,5,6,7,8,9,10,11,12,13] ⟨dm.symm,a5.symm⟩ ?_;simp only[go_sem,xQ,xP,Nq,dJ];simp
 rintro⟨y,v⟩ ⟨hy,SL⟩;simp only at hy SL;have BP:y.aa=x.aa:=by rw[hy];exact JS
 have JM:y.aa.length<=1000:=by rw[BP];exact mV
 have JN:∀q∈y.aa,gx q:=by rw[BP];exact ng
 rw[<-hy,<-SL]at a3;rw[<-SL]at sy;obtain⟨t,ht⟩:∃t,t=iH v r:=⟨_,rfl⟩;rw[<-ht]at a3 sy;refine eE bE 1 (α:=Unit) (λ_=>⟨(aA 4 (.ptr 2 0 0::.an::.ptr 3 0 0::.an::.ptr 6 0 0::aA 85 [])),[.box (J.bx c),.box (al.bx f),.box J.ca,.azG y 4 5,.aj 39 (y.aa.map ae.enc),.aj 2 (y.ai.map aL.enc),.box (ae.a2 t (.sl 7 0 t.ag.aB.cells.length) (.sl 8 0 t.ag.bC.length) (.sl 9 0 t.ag.bc.length) (.sl 10 0 t.ag.bJ.length) (.sl 11 0 t.aU.bT.cq.length)),.aj 1 (t.ag.aB.cells.map bg),.aj 2 (t.ag.bC.map ab.enc),.aj 2 (t.ag.bc.map ab.enc),.aj 2 (t.ag.bJ.map ab.enc),.aj 2 (t.aU.bT.cq.map aR.enc)]⟩) (λ_=>True) ?_ ?_
 ·simp only[go_sem];refine cZ.intro () [0,1,2,3,4,5,6,7,8,9,10,13] trivial ?_;simp only[go_sem,ht,iH];simp
 rintro _ _;refine eE bE 1 (α:=Unit) (λ_=>⟨(aA 4 (.ptr 2 0 0::.an::.ptr 3 0 0::aA 87 [])),[.box (J.bx c),.box (al.bx f),.box J.ca,.box (J.a2 ((eO y t)) (.sl 4 0 ((eO y t)).aa.length) (.sl 5 0 ((eO y t)).ai.length)),.aj 39 (((eO y t)).aa.map ae.enc),.aj 2 (((eO y t)).ai.map aL.enc)]⟩) (λ_=>True) ?_ ?_
 ·simp only[go_sem,I];refine af.lp [4,6] (by simp only[i3,arE,am_,Nat.reduceBEq,Nat.reduceAdd,d4,eF];rfl) (Bm y t (.aj 2 (y.ai.map aL.enc)) (λ_=>trivial) JM JN sy [.box (J.bx c),.box (al.bx f),.box J.ca] _ (by simp[e4,eN,b3,vok]) (by simp[b3,vok]) _ ?_);simp only[gg,f2,g8,go_sem];have ri:(eO y t).ai=y.ai:=(zk y t).2;refine cZ.intro () [0,1,2,3,4,5] trivial ?_;simp only[go_sem];simp[ri]
 rintro _ _;refine gJ bE ?_
 try simp only[go_sem,I]
 repeat'(first|(apply bo<;>simp only[go_sem,I])|refine⟨ae7,?_⟩|fail)
 simp[a3,ah]
theorem ak3(c:J)(f:al)(m:Nat)(hv:bW m c)(hm:m<=19):aM 323 [.agg (J.enc c),.agg (al.enc f)] [.agg (J.enc ((Bn c f))),.one (.i (EA c f))]:=by
 refine ayE 62 func323 call323 [.cell 4 37,.tmp 5] ?_;have hz:=hv.sz ω;have lL:=lo hz;have mn:=CT hv f.ax;have mP:=mn.sz ω;have SI:=Lw c f.ax hz;have cM:=pZ (cD c f.ax) f.ax mP;rw[show(bQ (cD c f.ax).aa f.ax).1=aC (cD c f.ax) f.ax from rfl]at cM;have BZ:gx (aC (cD c f.ax) f.ax):=qH mP.2.1 f.ax;have dM:gx (EB (cD c f.ax) f):=BZ;have hL:=oj (cD c f.ax).aa (EB (cD c f.ax) f) (by have:=mP.1;omega) mP.2.1 dM;have a3:Bn c f=if EA c f=0 then(if f.aY=17 then lE (cD c f.ax) (EB (cD c f.ax) f)else cD c f.ax)else c:=rfl
 have ah:EA c f=if GW c f then jg c f.ax else 5:=rfl
 have a5:EB (cD c f.ax) f={aC (cD c f.ax) f.ax with cL:=z4 (aC (cD c f.ax) f.ax).cL f.aX}:=rfl;rw[a5]at hL a3;generalize aC (cD c f.ax) f.ax=s at *;generalize cD c f.ax=x at *;obtain⟨dW,cT,dS,eW⟩:=BZ
 try simp only[go_sem]
 repeat'((first|refine af.aj (by first|assumption|apply SJ) ?_|refine av.j ?_)<;>simp only[go_sem])
 cases JO:decide (f.aY=21)
 ·have SK:=de JO;have hk:GW c f=ft c.bq f.ax:=by unfold GW;exact if_neg SK
  rw[hk]at ah;simp only[go_sem]
  try simp only[go_sem,I]
  repeat'((first|refine af.j ?_|refine av.j ?_)<;>simp only[go_sem,I])
  cases m8:ft c.bq f.ax
  ·rw[m8,if_neg ξ]at ah;rw[ah,if_neg ζ]at a3
   try simp only[go_sem,b7]
   repeat'(first|((first|refine af.aj (by first|assumption|(apply jd<;>exact aT)) ?_|refine av.j ?_)<;>simp only[go_sem,I])|refine⟨ae7,?_⟩|fail)
   simp[a3,ah]
  rw[m8,if_pos rfl]at ah
  try simp only[go_sem,bz]
  repeat'((first|refine af.j ?_|refine av.j ?_)<;>simp only[go_sem,I])
  cases nr:decide (jg c f.ax≠0)
  ·have lI:jg c f.ax=0:=asr.1 (de nr);rw[lI]at ah;rw[ah,if_pos rfl]at a3;simp only[go_sem];cases mf:decide (f.aY=17)
   ·rw[if_neg (de mf)]at a3
    try simp only[go_sem,I]
    repeat'(first|refine⟨ae7,?_⟩|fail)
    simp[a3,ah]
   rw[if_pos (cY mf)]at a3
   try simp only[go_sem,I]
   repeat'(first|((first|refine af.aj (by first|assumption|apply aao) ?_|refine av.j ?_)<;>simp only[go_sem,I])|refine⟨ae7,?_⟩|fail)
   simp[a3,ah,lE]
  have lI:=cY nr;rw[ah,if_neg lI]at a3
  try simp only[go_sem]
  repeat'(first|((first|refine af.aj (by first|assumption|(apply jd<;>exact aT)) ?_|refine av.j ?_)<;>simp only[go_sem,I])|refine⟨ae7,?_⟩|fail)
  simp[a3,ah]
 have SK:=cY JO;have hk:GW c f=fS c.bq f.ax:=by unfold GW;exact if_pos SK
 rw[hk]at ah;rw[if_neg (show ¬f.aY=17 by omega)]at a3;have mf:=bn (p:=f.aY=17) ω
 try simp only[go_sem]
 repeat'((first|refine af.aj (by first|assumption|apply No) ?_|refine av.j ?_)<;>simp only[go_sem])
 cases m8:fS c.bq f.ax
 ·rw[m8,if_neg ξ]at ah;rw[ah,if_neg ζ]at a3
  try simp only[go_sem,b7]
  repeat'(first|((first|refine af.aj (by first|assumption|(apply jd<;>exact aT)) ?_|refine av.j ?_)<;>simp only[go_sem,I])|refine⟨ae7,?_⟩|fail)
  simp[a3,ah]
 rw[m8,if_pos rfl]at ah
 try simp only[go_sem,bz]
 repeat'((first|refine af.j ?_|refine av.j ?_)<;>simp only[go_sem,I])
 cases nr:decide (jg c f.ax≠0)
 ·have lI:jg c f.ax=0:=asr.1 (de nr);rw[lI]at ah;rw[ah,if_pos rfl]at a3
  try simp only[go_sem,I,mf]
  repeat'(first|refine⟨ae7,?_⟩|fail)
  simp[a3,ah]
 have lI:=cY nr;rw[ah,if_neg lI]at a3
 try simp only[go_sem]
 repeat'(first|((first|refine af.aj (by first|assumption|(apply jd<;>exact aT)) ?_|refine av.j ?_)<;>simp only[go_sem,I])|refine⟨ae7,?_⟩|fail)
 simp[a3,ah]
theorem ak4(c:J)(f:al):(bif !ew c then true else !eu f)=!JP c f:=by
 unfold JP;cases ew c<;>cases eu f<;>rfl
theorem ak5(c:J)(f:al)(m:Nat)(hv:bW m c)(hm:m<=19):aM 285 [.agg (J.enc c),.agg (al.enc f)] [.agg (J.enc ((pI c f))),.one (.i (y0 c f))]:=by
 refine ayE 64 func285 call285 [.cell 4 37,.tmp 5] ?_;have hz:=hv.sz ω;have lL:=lo hz;have d':=ak3 c f m hv hm;have bY:=ak4 c f
 try simp only[go_sem]
 repeat'((first|refine af.aj (by first|assumption|(apply jd<;>exact aT)|(apply lu<;>exact aT)) ?_|refine av.aj (by first|assumption|apply DX) ?_|apply bo)<;>simp only[go_sem,I])
 rw[bY];cases hg:JP c f
 ·try simp only[go_sem,I,b7]
  repeat'(first|refine⟨ae7,?_⟩|fail)
  simp[pI,y0,hg]
 simp only[go_sem,bz];cases j':decide (f.aY=16)
 ·have ak6:=de j';simp only[go_sem];cases iB:decide (f.aY=18)
  ·have ak7:=de iB;simp only[go_sem];cases p8:decide (f.aY=20)
   ·have ak8:=de p8;simp only[go_sem];cases yw:decide (f.aY=22)
    ·have ak9:=de yw;simp only[go_sem];cases mf:decide (f.aY=17)
     ·have ala:=de mf;simp only[go_sem];cases JO:decide (f.aY=21)
      ·have alb:=de JO
       try simp only[go_sem,I]
       repeat'(first|refine⟨ae7,?_⟩|fail)
       simp[pI,y0,hg,ak6,ala,ak7,ak8,alb,ak9]
      have h':=cY JO
      try simp only[go_sem]
      repeat'(first|((first|refine af.j ?_|refine av.j ?_)<;>simp only[go_sem,I])|refine⟨ae7,?_⟩|fail)
      simp[pI,y0,hg,h']
     have h':=cY mf
     try simp only[go_sem]
     repeat'(first|((first|refine af.j ?_|refine av.j ?_)<;>simp only[go_sem,I])|refine⟨ae7,?_⟩|fail)
     simp[pI,y0,hg,h']
    have h':=cY yw
    try simp only[go_sem,I]
    repeat'(first|refine⟨ae7,?_⟩|fail)
    simp[pI,y0,hg,h']
   have h':=cY p8
   try simp only[go_sem,I]
   repeat'(first|refine⟨ae7,?_⟩|fail)
   simp[pI,y0,hg,h']
  have h':=cY iB;simp only[go_sem];cases hu:f.fG
  ·try simp only[go_sem]
   repeat'(first|((first|refine af.aj (by first|assumption|apply aap) ?_|refine av.j ?_)<;>simp only[go_sem,I])|refine⟨ae7,?_⟩|fail)
   simp[pI,y0,hg,h',hu]
  try simp only[go_sem]
  repeat'(first|((first|refine af.aj (by first|assumption|apply aap) ?_|refine av.j ?_)<;>simp only[go_sem,I])|refine⟨ae7,?_⟩|fail)
  simp[pI,y0,hg,h',hu]
 have h':=cY j'
 try simp only[go_sem]
 repeat'(first|((first|refine af.aj (by first|assumption|apply aao) ?_|refine av.j ?_)<;>simp only[go_sem,I])|refine⟨ae7,?_⟩|fail)
 simp[pI,y0,hg,h']
theorem alc(c:J)(f:al)(m:Nat)(hv:bW m c)(hm:m<=19)(hd:f.data.length<=8)(aG:0<=f.aP/\f.aP<=900):aM 233 [.agg (J.enc c),.agg (al.enc f)] [.agg (J.enc ((rI c f))),.one (.i (GX c f))]:=by
 refine ayE 44 func233 call233 [.cell 4 37,.tmp 5] ?_;have hz:=hv.sz ω;have lL:=lo hz;have cA:=ak1 c f m hv hm hd aG;have db:=ald c f m hv hm;have c0:=ale c f m hv hm;have eo:=ak5 c f m hv hm
 try simp only[go_sem]
 repeat'((first|refine af.aj (by first|assumption|(apply jd<;>exact aT)) ?_|refine av.j ?_)<;>simp only[go_sem,I])
 cases dK:decide (f.aY=8)
 ·have z5:=de dK;simp only[go_sem];cases aH:decide (f.aY=4)
  ·have sS:=de aH;simp only[go_sem];cases bR:decide (f.aY=5)
   ·have Np:=de bR
    try simp only[go_sem]
    repeat'(first|((first|refine af.j ?_|refine av.j ?_)<;>simp only[go_sem,I])|refine⟨ae7,?_⟩|fail)
    simp[rI,GX,z5,sS,Np]
   have h':=cY bR
   try simp only[go_sem]
   repeat'(first|((first|refine af.j ?_|refine av.j ?_)<;>simp only[go_sem,I])|refine⟨ae7,?_⟩|fail)
   simp[rI,GX,h']
  have h':=cY aH
  try simp only[go_sem]
  repeat'(first|((first|refine af.j ?_|refine av.j ?_)<;>simp only[go_sem,I])|refine⟨ae7,?_⟩|fail)
  simp[rI,GX,h']
 have h':=cY dK
 try simp only[go_sem]
 repeat'(first|((first|refine af.j ?_|refine av.j ?_)<;>simp only[go_sem,I])|refine⟨ae7,?_⟩|fail)
 simp[rI,GX,h']
def aaq:List (List bK):=cB 13 [1564799,1574638,1574632,1574614,1574560,1515349,1514863,1513405,1509031,1348285,1564677,1436859,1062882]
attribute [go_sem] aaq
theorem alf(c:J)(id:Int):(bif bif !hZ c then true else !(bQ c.aa id).2 then true else !(aC c id).fS)=!s5 c id:=by
 unfold s5;cases hZ c<;>cases(bQ c.aa id).2<;>cases(aC c id).fS<;>rfl
theorem alg(c:J)(id k:Int)(m:Nat)(hv:bW m c)(hm:m<=20):aM 228 [.agg (J.enc c),.one (.i id),.one (.i k)] [.one (.str (JQ c id k)),.one (.bool (JR c id k)),.agg (J.enc ((mD c id k)))]:=by
 refine m_ 63 func228 call228 [.tmp 6,.tmp 7,.cell 8 37] ?_;intro ok;clear ok;have hz:=hv.sz hm;have lL:=lo hz;have mV:c.aa.length<=1000:=by have:=hz.1;omega
 have ng:=hz.2.1;have a3:mD c id k=if s5 c id then eO (Bo c id k) (y1 c id k)else c:=rfl
 have cR:JQ c id k=if s5 c id then y2 (aC c id).aU k else []:=rfl
 have ah:JR c id k=(s5 c id&&(decide ((o8 c id k).bp=3)||decide ((o8 c id k).bp=5))):=rfl;have a5:y1 c id k=if decide ((o8 c id k).bp<4)then xP (iH (aC c id) (o8 c id k)) (o8 c id k).bT.next else iH (aC c id) (o8 c id k):=rfl
 have dm:Bo c id k=if decide ((o8 c id k).bp<4)then xQ c (iH (aC c id) (o8 c id k)) (o8 c id k).bT.next else c:=rfl
 have bY:=alf c id;have sy:gx (y1 c id k):=(aar hv id k).sz hm;have JS:(Bo c id k).aa=c.aa:=(JT c id k).1;obtain⟨dW,cT,dS,eW⟩:=qH hz.2.1 id;have dS:∀fM∈(bQ c.aa id).1.aU.bT.cq,fM.data.length<=1048576:=λfM hc=>by have:=dS fM hc;omega
 have cM:=pZ c id hz;have a1:o8 c id k=z6 (aC c id).aU k:=rfl;rw[show(bQ c.aa id).1=aC c id from rfl]at dW cT dS eW cM;generalize o8 c id k=r at *;generalize aC c id=s at *;refine eE bE 6 (α:=Unit) (λ_=>⟨(aA 6 (.d (.str [])::.d (.bool false)::.ptr 1 0 0::.ptr 3 0 0::.ptr 6 0 0::.an::.d (.str (y2 s.aU k))::.ptr 2 0 0::aA 49 [])),[.box (J.bx c),.box J.ca,.box (cf.a2 r (.an)),.azG c 4 5,.aj 39 (c.aa.map ae.enc),.aj 2 (c.ai.map aL.enc),.box (ae.a2 (iH s r) (.sl 7 0 (iH s r).ag.aB.cells.length) (.sl 8 0 (iH s r).ag.bC.length) (.sl 9 0 (iH s r).ag.bc.length) (.sl 10 0 (iH s r).ag.bJ.length) (.sl 11 0 (iH s r).aU.bT.cq.length)),.aj 1 ((iH s r).ag.aB.cells.map bg),.aj 2 ((iH s r).ag.bC.map ab.enc),.aj 2 ((iH s r).ag.bc.map ab.enc),.aj 2 ((iH s r).ag.bJ.map ab.enc),.aj 2 ((iH s r).aU.bT.cq.map aR.enc)]⟩) (λ_=>s5 c id=true) ?_ ?_
 ·skip
  try simp only[go_sem]
  repeat'(first|((first|refine af.aj (by first|assumption|(apply jd<;>exact aT)|(apply x8<;>exact aT)) ?_|refine av.j ?_|apply bo|apply fY)<;>simp only[go_sem,I])|refine⟨ae7,?_⟩|fail)
  rw[bY];cases hg:s5 c id
  ·rw[hg]at a3 cR ah
   try simp only[go_sem,b7]
   repeat'(first|(refine a7 [[.post,.dL,.dL,.post],[.dL,.post,.post,.post],[.dL,.pre,.post,.post],[.pre,.pre,.pre,.post]] χ ψ ?_<;>simp only[go_sem,I])|refine⟨ae7,?_⟩|fail)
   simp[a3,cR,ah]
  try simp only[go_sem,I,bz]
  repeat'((first|refine af.aj (by first|assumption|(apply alh<;>exact aT)) ?_|refine av.j ?_)<;>simp only[go_sem,I])
  refine cZ.intro () [0,1,12,4,2,3,10,5,6,7,8,11] (by first|exact hg|trivial) ?_;simp only[go_sem,iH];simp[<-a1]
 rintro _ hg;rw[hg,if_pos rfl]at a3 cR;rw[hg,af_]at ah;refine eE bE 1 (α:=J×ae) (λy=>⟨(aA 6 (.d (.str [])::.d (.bool false)::.ptr 1 0 0::.ptr 3 0 0::.ptr 6 0 0::.an::.d (.str (y2 s.aU k))::.ptr 2 0 0::aA 49 [])),[.box (J.bx c),.box J.ca,.box (cf.a2 r (.an)),.azG y.1 4 5,.aj 39 (y.1.aa.map ae.enc),.aj 2 (y.1.ai.map aL.enc),.box (ae.a2 y.2 (.sl 7 0 y.2.ag.aB.cells.length) (.sl 8 0 y.2.ag.bC.length) (.sl 9 0 y.2.ag.bc.length) (.sl 10 0 y.2.ag.bJ.length) (.sl 11 0 y.2.aU.bT.cq.length)),.aj 1 (y.2.ag.aB.cells.map bg),.aj 2 (y.2.ag.bC.map ab.enc),.aj 2 (y.2.ag.bc.map ab.enc),.aj 2 (y.2.ag.bJ.map ab.enc),.aj 2 (y.2.aU.bT.cq.map aR.enc)]⟩) (λy=>y.1=Bo c id k/\y.2=y1 c id k) ?_ ?_
 ·simp only[go_sem,iH];cases hB:decide (r.bp<4)
  ·rw[hB,if_neg ξ]at a5 dm;simp only[go_sem];refine cZ.intro (c,iH s r) [0,1,2,3,4,5,6,7,8,9,10,11] ⟨dm.symm,a5.symm⟩ ?_;simp only[go_sem,iH];simp
  rw[hB,if_pos rfl]at a5 dm;simp only[go_sem];refine af.lp [6,7,8,9,10,12,13] (by simp only[i3,arE,am_,Nat.reduceBEq,Nat.reduceAdd,d4,eF];rfl) (gi (n:=45) (rs:=[]) func279 rfl call279 bE rfl rfl ?_);simp only[go_sem]
  try simp only[go_sem,I]
  repeat'((first|refine af.intro (by first|assumption|apply aas) ?_|refine av.i ?_)<;>simp only[go_sem])
  refine cZ.intro (xQ c (iH s r) r.bT.next,xP (iH s r) r.bT.next) [0,1,2,3,4,5,6,7,8,9,10,11] ⟨dm.symm,a5.symm⟩ ?_;simp only[go_sem,iH,xQ,xP,Nq,dJ];simp
 rintro⟨x,t⟩ ⟨hx,ht⟩;simp only at hx ht;rw[<-hx,<-ht]at a3;rw[<-hx]at JS;rw[<-ht]at sy;refine eE bE 1 (α:=Unit) (λ_=>⟨(aA 6 (.d (.str [])::.d (.bool false)::.ptr 1 0 0::.ptr 3 0 0::.an::.an::.d (.str (y2 s.aU k))::.ptr 2 0 0::aA 49 [])),[.box (J.bx c),.box J.ca,.box (cf.a2 r (.an)),.box (J.a2 ((eO x t)) (.sl 4 0 ((eO x t)).aa.length) (.sl 5 0 ((eO x t)).ai.length)),.aj 39 (((eO x t)).aa.map ae.enc),.aj 2 (((eO x t)).ai.map aL.enc)]⟩) (λ_=>True) ?_ ?_
 ·simp only[go_sem,I];refine af.lp [6,7,8,9,12,13] (by simp only[i3,arE,am_,Nat.reduceBEq,Nat.reduceAdd,d4,eF];rfl) (Bm x t (.aj 2 (x.ai.map aL.enc)) (λ_=>trivial) (by rw[JS];exact mV) (by rw[JS];exact ng) sy [.box (J.bx c),.box J.ca,.box (cf.a2 r (.an))] _ (by simp[e4,eN,b3,vok]) (by simp[b3,vok]) _ ?_);simp only[gg,f2,g8,go_sem];have ri:(eO x t).ai=x.ai:=(zk x t).2;refine cZ.intro () [0,1,2,3,4,5] trivial ?_;simp only[go_sem];simp[ri]
 rintro _ _;refine gJ bE ?_
 try simp only[go_sem]
 repeat'(first|((first|apply bo|apply fY|refine a7 aaq χ ψ ?_)<;>simp only[go_sem,I])|refine⟨ae7,?_⟩|fail)
 simp[a3,cR,ah]
theorem L6{P:Program}{kv:List V}{c:Operand}{a b:Code}{σ:St}{K:St->Prop}{aw:List (Nat×(St->Prop))}{dc:St->Prop}(h:σ.ev c=.d (.bool false))(hg:hG P kv b σ K aw dc):hG P kv (.cond c a b) σ K aw dc:=by
 intro B w0 kp Q u w b' cg dm a1 r;obtain⟨a0,φ,r0,bD⟩:=r;have hc:=Ce r0 c;rw[h]at hc;exact wp_cond_false (pw hc) (hg B w0 kp Q u w b' cg dm a1 ⟨a0,φ,r0,bD⟩)
theorem ag9{P:Program}{kv:List V}{c:Operand}{a b:Code}{σ:St}{K:St->Prop}{aw:List (Nat×(St->Prop))}{dc:St->Prop}(h:σ.ev c=.d (.bool true))(hg:hG P kv a σ K aw dc):hG P kv (.cond c a b) σ K aw dc:=by
 intro B w0 kp Q u w b' cg dm a1 r;obtain⟨a0,φ,r0,bD⟩:=r;have hc:=Ce r0 c;rw[h]at hc;exact wp_cond_true (pw hc) (hg B w0 kp Q u w b' cg dm a1 ⟨a0,φ,r0,bD⟩)
theorem aha{P:Program}{kv:List V}{a b:Code}{σ:St}{K K2:St->Prop}{aw:List (Nat×(St->Prop))}{dc:St->Prop}(h1:hG P kv a σ K2 aw dc)(h2:∀σ',K2 σ'->hG P kv b σ' K aw dc):hG P kv (.seq a b) σ K aw dc:=by
 intro B w0 kp Q u w b' cg dm a1 r;exact wp_seq (h1 B w0 kp _ u w b' (λσ' a' w' h' dR=>h2 σ' h' B w0 kp Q a' w' b' cg dm a1 dR) (λid σ' a' w' h' dR=>dm id σ' a' w' h' dR) (λσ' a' w' h' dR=>a1 σ' a' w' h' dR) r)
def yv(c:J)(s:ae)(k:Int):ae:={jT c s k with ag:=s.ag,aU:=s.aU}
theorem ahb(c:J)(s:ae)(k:Int):jT c s k=yv c s k:=by
 obtain⟨h1,h2,_⟩:=Cf c s k;unfold yv;rw[<-h1,<-h2]
def QM:List (Nat×List Bool):=[(10,[false,false,false,false,false,false,false,false,false,false]),(9,[true,false,false,false,false,false,false,false,false,false]),(9,[false,false,true,false,false,false,false,false,false,false]),(9,[false,false,false,true,false,false,false,false,false,false]),(9,[false,false,false,false,true,false,false,false,false,false]),(8,[true,true,false,false,false,false,false,false,false,false]),(8,[true,false,true,false,false,false,false,false,false,false]),(8,[true,false,false,true,false,false,false,false,false,false]),(8,[true,false,false,false,true,false,false,false,false,false]),(8,[false,false,true,true,false,false,false,false,false,false]),(8,[false,false,true,false,true,false,false,false,false,false]),(8,[false,false,false,true,true,false,false,false,false,false]),(8,[false,false,false,false,true,true,false,false,false,false]),(7,[true,true,true,false,false,false,false,false,false,false]),(7,[true,true,false,true,false,false,false,false,false,false]),(7,[true,true,false,false,true,false,false,false,false,false]),(7,[true,false,true,true,false,false,false,false,false,false]),(7,[true,false,true,false,true,false,false,false,false,false]),(7,[true,false,false,true,true,false,false,false,false,false]),(7,[true,false,false,false,true,true,false,false,false,false]),(7,[false,false,true,true,true,false,false,false,false,false]),(7,[false,false,true,false,true,true,false,false,false,false]),(7,[false,false,false,true,true,true,false,false,false,false]),(6,[true,true,true,true,false,false,false,false,false,false]),(6,[true,true,true,false,true,false,false,false,false,false]),(6,[true,true,false,true,true,false,false,false,false,false]),(6,[true,true,false,false,true,true,false,false,false,false]),(6,[true,false,true,true,true,false,false,false,false,false]),(6,[true,false,true,false,true,true,false,false,false,false]),(6,[true,false,false,true,true,true,false,false,false,false]),(6,[false,false,true,true,true,true,false,false,false,false]),(5,[true,true,true,true,true,false,false,false,false,false]),(5,[true,true,true,false,true,true,false,false,false,false]),(5,[true,true,false,true,true,true,false,false,false,false]),(5,[true,false,true,true,true,true,false,false,false,false]),(5,[false,false,true,true,true,true,true,false,false,false]),(4,[true,true,true,true,true,true,false,false,false,false]),(4,[true,false,true,true,true,true,true,false,false,false]),(3,[true,true,true,true,true,true,true,false,false,false]),(2,[true,true,true,true,true,true,true,true,false,false]),(1,[true,true,true,true,true,true,true,true,true,false]),(0,[true,true,true,true,true,true,true,true,true,true])]
def D5(c:J)(f:al)(s e:ae)(S:List Bool):St:=⟨(.an::.an::.ptr 0 0 0::.ptr 1 0 0::.ptr 2 0 0::.ptr 5 0 0::aA 6 (.ptr 11 0 0::aA 17 ((aK S 0 (.ptr 5 0 17))::(aK S 1 (.sl 3 0 c.aa.length))::(aK S 2 (.agg (J.bx c)))::(aK S 3 (.agg (ae.a2 s (.sl 6 0 s.ag.aB.cells.length) (.sl 7 0 s.ag.bC.length) (.sl 8 0 s.ag.bc.length) (.sl 9 0 s.ag.bJ.length) (.sl 10 0 s.aU.bT.cq.length))))::(aK S 4 (.ptr 1 0 0))::(aK S 5 (.i f.aY))::(aK S 6 (.agg [.i e.id,.i s.ag.bp,.i s.ag.aB.size,.i s.ag.aB.base,.i s.ag.aB.bS,.sl 6 0 s.ag.aB.cells.length,.sl 7 0 s.ag.bC.length,.sl 8 0 s.ag.bc.length,.sl 9 0 s.ag.bJ.length,.i s.ag.bf,.i s.ag.aS,.i s.ag.b0,.i s.ag.cS,.i e.cL.aX,.i e.cL.dV,.i e.cL.blocked,.i e.cL.gA,.i s.aU.bp,.i s.aU.bT.next,.sl 10 0 s.aU.bT.cq.length,.i s.aU.bf,.i s.aU.fR,.i s.aU.cS,.i e.bL.size,.i e.bL.cm,.i e.bL.aX,.i e.bL.seen,.i e.bL.fa,.i e.bL.k9,.i e.cI.ei,.d (.bool e.cI.ic),.d (.bool e.ft),.d (.bool e.fS),.d (.bool e.i4),.d (.bool e.gK),.d (.bool e.k_),.d (.bool e.i5),.i e.oe,.d (.bool e.gu)]))::(aK S 7 (.sl 12 0 (dv c.aa e).length))::(aK S 8 (.ptr 5 0 17))::aA 47 []))),[.box (J.bx c),.box (al.bx f),.box J.ca,.aj 39 (c.aa.map ae.enc),.aj 2 (c.ai.map aL.enc),.box (J.a2 c ((bif S.getD 9 false then .sl 12 0 (dv c.aa e).length else .sl 3 0 c.aa.length)) (.sl 4 0 c.ai.length)),.aj 1 (s.ag.aB.cells.map bg),.aj 2 (s.ag.bC.map ab.enc),.aj 2 (s.ag.bc.map ab.enc),.aj 2 (s.ag.bJ.map ab.enc),.aj 2 (s.aU.bT.cq.map aR.enc),.box (ae.a2 s (.sl 6 0 s.ag.aB.cells.length) (.sl 7 0 s.ag.bC.length) (.sl 8 0 s.ag.bc.length) (.sl 9 0 s.ag.bJ.length) (.sl 10 0 s.aU.bT.cq.length))]++(bif S.getD 7 false then [.aj 39 ((dv c.aa e).map ae.enc)]else [])⟩
theorem ahc(c:J)(f:al)(s:ae)(k:Int)(hs:gx s)(kv:List V)(b':b3 12 kv)(K:V->List H->Prop)
  (hk:∀e,e=yv c s k->K (.agg [.i e.id,.i s.ag.bp,.i s.ag.aB.size,.i s.ag.aB.base,.i s.ag.aB.bS,.sl 6 0 s.ag.aB.cells.length,.sl 7 0 s.ag.bC.length,.sl 8 0 s.ag.bc.length,.sl 9 0 s.ag.bJ.length,.i s.ag.bf,.i s.ag.aS,.i s.ag.b0,.i s.ag.cS,.i e.cL.aX,.i e.cL.dV,.i e.cL.blocked,.i e.cL.gA,.i s.aU.bp,.i s.aU.bT.next,.sl 10 0 s.aU.bT.cq.length,.i s.aU.bf,.i s.aU.fR,.i s.aU.cS,.i e.bL.size,.i e.bL.cm,.i e.bL.aX,.i e.bL.seen,.i e.bL.fa,.i e.bL.k9,.i e.cI.ei,.d (.bool e.cI.ic),.d (.bool e.ft),.d (.bool e.fS),.d (.bool e.i4),.d (.bool e.gK),.d (.bool e.k_),.d (.bool e.i5),.i e.oe,.d (.bool e.gu)]) [.box (J.bx c),.box (al.bx f),.box J.ca,.aj 39 (c.aa.map ae.enc),.aj 2 (c.ai.map aL.enc),.azG c 3 4,.aj 1 (s.ag.aB.cells.map bg),.aj 2 (s.ag.bC.map ab.enc),.aj 2 (s.ag.bc.map ab.enc),.aj 2 (s.ag.bJ.map ab.enc),.aj 2 (s.aU.bT.cq.map aR.enc),.box (ae.a2 s (.sl 6 0 s.ag.aB.cells.length) (.sl 7 0 s.ag.bC.length) (.sl 8 0 s.ag.bc.length) (.sl 9 0 s.ag.bJ.length) (.sl 10 0 s.aU.bT.cq.length))]) :
  et prog 262 kv [.box (J.bx c),.box (al.bx f),.box J.ca,.aj 39 (c.aa.map ae.enc),.aj 2 (c.ai.map aL.enc),.azG c 3 4,.aj 1 (s.ag.aB.cells.map bg),.aj 2 (s.ag.bC.map ab.enc),.aj 2 (s.ag.bc.map ab.enc),.aj 2 (s.ag.bJ.map ab.enc),.aj 2 (s.aU.bT.cq.map aR.enc),.box (ae.a2 s (.sl 6 0 s.ag.aB.cells.length) (.sl 7 0 s.ag.bC.length) (.sl 8 0 s.ag.bc.length) (.sl 9 0 s.ag.bJ.length) (.sl 10 0 s.aU.bT.cq.length))] [.agg (J.bx c),.agg (ae.a2 s (.sl 6 0 s.ag.aB.cells.length) (.sl 7 0 s.ag.bC.length) (.sl 8 0 s.ag.bc.length) (.sl 9 0 s.ag.bJ.length) (.sl 10 0 s.aU.bT.cq.length)),.i k] K:=by
 have aS:∀(ex:List H) (e:ae),e=yv c s k->x' kv K (.agg [.i e.id,.i s.ag.bp,.i s.ag.aB.size,.i s.ag.aB.base,.i s.ag.aB.bS,.sl 6 0 s.ag.aB.cells.length,.sl 7 0 s.ag.bC.length,.sl 8 0 s.ag.bc.length,.sl 9 0 s.ag.bJ.length,.i s.ag.bf,.i s.ag.aS,.i s.ag.b0,.i s.ag.cS,.i e.cL.aX,.i e.cL.dV,.i e.cL.blocked,.i e.cL.gA,.i s.aU.bp,.i s.aU.bT.next,.sl 10 0 s.aU.bT.cq.length,.i s.aU.bf,.i s.aU.fR,.i s.aU.cS,.i e.bL.size,.i e.bL.cm,.i e.bL.aX,.i e.bL.seen,.i e.bL.fa,.i e.bL.k9,.i e.cI.ei,.d (.bool e.cI.ic),.d (.bool e.ft),.d (.bool e.fS),.d (.bool e.i4),.d (.bool e.gK),.d (.bool e.k_),.d (.bool e.i5),.i e.oe,.d (.bool e.gu)]) ([.box (J.bx c),.box (al.bx f),.box J.ca,.aj 39 (c.aa.map ae.enc),.aj 2 (c.ai.map aL.enc),.azG c 3 4,.aj 1 (s.ag.aB.cells.map bg),.aj 2 (s.ag.bC.map ab.enc),.aj 2 (s.ag.bc.map ab.enc),.aj 2 (s.ag.bJ.map ab.enc),.aj 2 (s.aU.bT.cq.map aR.enc),.box (ae.a2 s (.sl 6 0 s.ag.aB.cells.length) (.sl 7 0 s.ag.bC.length) (.sl 8 0 s.ag.bc.length) (.sl 9 0 s.ag.bJ.length) (.sl 10 0 s.aU.bT.cq.length))]++ex):=by
  intro ex e he;refine⟨pv 12,.agg [.i e.id,.i s.ag.bp,.i s.ag.aB.size,.i s.ag.aB.base,.i s.ag.aB.bS,.sl 6 0 s.ag.aB.cells.length,.sl 7 0 s.ag.bC.length,.sl 8 0 s.ag.bc.length,.sl 9 0 s.ag.bJ.length,.i s.ag.bf,.i s.ag.aS,.i s.ag.b0,.i s.ag.cS,.i e.cL.aX,.i e.cL.dV,.i e.cL.blocked,.i e.cL.gA,.i s.aU.bp,.i s.aU.bT.next,.sl 10 0 s.aU.bT.cq.length,.i s.aU.bf,.i s.aU.fR,.i s.aU.cS,.i e.bL.size,.i e.bL.cm,.i e.bL.aX,.i e.bL.seen,.i e.bL.fa,.i e.bL.k9,.i e.cI.ei,.d (.bool e.cI.ic),.d (.bool e.ft),.d (.bool e.fS),.d (.bool e.i4),.d (.bool e.gK),.d (.bool e.k_),.d (.bool e.i5),.i e.oe,.d (.bool e.gu)],[.box (J.bx c),.box (al.bx f),.box J.ca,.aj 39 (c.aa.map ae.enc),.aj 2 (c.ai.map aL.enc),.azG c 3 4,.aj 1 (s.ag.aB.cells.map bg),.aj 2 (s.ag.bC.map ab.enc),.aj 2 (s.ag.bc.map ab.enc),.aj 2 (s.ag.bJ.map ab.enc),.aj 2 (s.aU.bT.cq.map aR.enc),.box (ae.a2 s (.sl 6 0 s.ag.aB.cells.length) (.sl 7 0 s.ag.bC.length) (.sl 8 0 s.ag.bc.length) (.sl 9 0 s.ag.bJ.length) (.sl 10 0 s.aU.bT.cq.length))],?_,hk e he⟩;refine Fx (hs:=[.box (J.bx c),.box (al.bx f),.box J.ca,.aj 39 (c.aa.map ae.enc),.aj 2 (c.ai.map aL.enc),.azG c 3 4,.aj 1 (s.ag.aB.cells.map bg),.aj 2 (s.ag.bC.map ab.enc),.aj 2 (s.ag.bc.map ab.enc),.aj 2 (s.ag.bJ.map ab.enc),.aj 2 (s.aU.bT.cq.map aR.enc),.box (ae.a2 s (.sl 6 0 s.ag.aB.cells.length) (.sl 7 0 s.ag.bC.length) (.sl 8 0 s.ag.bc.length) (.sl 9 0 s.ag.bJ.length) (.sl 10 0 s.aU.bT.cq.length))]) (ex:=ex) ?_ b' ?_ ?_
  ·simp[e4,eN,b3,vok]
  ·simp[vsees,vsee,ren,rens]
  simp[b3,vok]
 obtain⟨dW,cT,dS,eW⟩:=hs;refine et.xc ?_;refine(gi (n:=35) (rs:=[.cell 6 74]) func262 rfl call262 bE rfl rfl ?_);simp only[go_sem]
 try simp only[go_sem,I]
 repeat'((first|refine af.intro (by first|apply XC|apply XE) ?_|refine bX (λh=>?_) (λh=>?_))<;>simp only[go_sem,I])
 all_goals simp only[bH,eC]at *
 ·exact aS _ {s with i4:=false} (by simp[yv,jT, *])
 ·exact aS _ {s with gK:=false} (by simp[yv,jT, *])
 ·exact aS _ {s with bL:=(m0 c s).1,k_:=false} (by simp[yv,jT, *])
 ·exact aS _ {s with k_:=false} (by simp[yv,jT, *])
 ·exact aS _ {s with cL:=lY s.cL} (by simp[yv,jT, *])
 exact aS _ s (by simp[yv,jT, *])
theorem ahd(c:J)(f:al)(hz:gZ c)(aE:ew c)(j':decide (f.aY=16)=false)(iB:decide (f.aY=18)=false)(p8:decide (f.aY=20)=false)(yw:decide (f.aY=22)=false)(hf:(bQ c.aa f.ax).2):aM 201 [.agg (J.enc c),.agg (al.enc f)] [.agg (J.enc ((lE c (jT c (aC c f.ax) f.aY))))]:=by
 refine m_ 86 func201 call201 [.cell 4 37] ?_;intro ok;clear ok;have lL:=lo hz;have BZ:gx (aC c f.ax):=qH hz.2.1 f.ax;obtain⟨gB,gC,lr⟩:=Cf c (aC c f.ax) f.aY;have xr:gx (jT c (aC c f.ax) f.aY):=by unfold gx;rw[gB,gC];exact BZ
 have cM:=pZ c f.ax hz;rw[show(bQ c.aa f.ax).1=aC c f.ax from rfl,hf]at cM;have hL:=oj c.aa (jT c (aC c f.ax) f.aY) (by have:=hz.1;omega) hz.2.1 xr;rw[ahb]at hL⊢;generalize aC c f.ax=s at *;clear xr gB gC lr;obtain⟨e,he⟩:∃e,e=yv c s f.aY:=⟨_,rfl⟩;have ak:e.ag=s.ag:=by rw[he];rfl
 have ar:e.aU=s.aU:=by rw[he];rfl
 rw[<-he]at hL⊢;simp only[ae.enc,ak,ar]at hL;refine eE bE 3 (α:=Unit) (λ_=>⟨(.an::.an::.ptr 0 0 0::.ptr 1 0 0::.ptr 2 0 0::.ptr 5 0 0::aA 80 []),[.box (J.bx c),.box (al.bx f),.box J.ca,.aj 39 (c.aa.map ae.enc),.aj 2 (c.ai.map aL.enc),.azG c 3 4]⟩) (λ_=>True) ?_ ?_
 ·skip
  try simp only[go_sem]
  repeat'((first|refine af.aj (by first|assumption|(apply jd<;>exact aT)|(apply lu<;>exact aT)) ?_|refine av.j ?_)<;>simp only[go_sem,I,aE,bz])
  refine cZ.intro () [0,1,2,3,4,5] trivial ?_;simp only[go_sem];simp
 rintro _ _;simp only[Cg,Ch];refine aha (K2:=λσ=>σ=D5 c f s e (ea 10 true)) ?_ ?_
 ·skip
  refine eE bE 1 (α:=Unit) (λ_=>⟨(.an::.an::.ptr 0 0 0::.ptr 1 0 0::.ptr 2 0 0::.ptr 5 0 0::aA 15 (.i f.aY::aA 64 [])),[.box (J.bx c),.box (al.bx f),.box J.ca,.aj 39 (c.aa.map ae.enc),.aj 2 (c.ai.map aL.enc),.azG c 3 4]⟩) (λ_=>True) ?_ ?_
  ·skip
   try simp only[go_sem]
   refine cZ.intro () [0,1,2,3,4,5] trivial ?_;simp only[go_sem];simp
  rintro _ _;simp only[Cg,Ch];refine Dz ?_;refine eE bE 1 (α:=Unit) (λ_=>⟨(.an::.an::.ptr 0 0 0::.ptr 1 0 0::.ptr 2 0 0::.ptr 5 0 0::aA 15 (.i f.aY::aA 17 (.d (.bool false)::aA 46 []))),[.box (J.bx c),.box (al.bx f),.box J.ca,.aj 39 (c.aa.map ae.enc),.aj 2 (c.ai.map aL.enc),.azG c 3 4]⟩) (λ_=>True) ?_ ?_
  ·skip
   try simp only[go_sem,j']
   refine cZ.intro () [0,1,2,3,4,5] trivial ?_;simp only[go_sem];simp
  rintro _ _;simp only[Cg,Ch];refine L6 rfl ?_;refine eE bE 1 (α:=Unit) (λ_=>⟨(.an::.an::.ptr 0 0 0::.ptr 1 0 0::.ptr 2 0 0::.ptr 5 0 0::aA 15 (.i f.aY::aA 27 (.d (.bool false)::aA 36 []))),[.box (J.bx c),.box (al.bx f),.box J.ca,.aj 39 (c.aa.map ae.enc),.aj 2 (c.ai.map aL.enc),.azG c 3 4]⟩) (λ_=>True) ?_ ?_
  ·skip
   try simp only[go_sem,iB]
   refine cZ.intro () [0,1,2,3,4,5] trivial ?_;simp only[go_sem];simp
  rintro _ _;simp only[Cg,Ch];refine L6 rfl ?_;refine eE bE 1 (α:=Unit) (λ_=>⟨(.an::.an::.ptr 0 0 0::.ptr 1 0 0::.ptr 2 0 0::.ptr 5 0 0::aA 15 (.i f.aY::aA 49 (.d (.bool false)::aA 14 []))),[.box (J.bx c),.box (al.bx f),.box J.ca,.aj 39 (c.aa.map ae.enc),.aj 2 (c.ai.map aL.enc),.azG c 3 4]⟩) (λ_=>True) ?_ ?_
  ·skip
   try simp only[go_sem,p8]
   refine cZ.intro () [0,1,2,3,4,5] trivial ?_;simp only[go_sem];simp
  rintro _ _;simp only[Cg,Ch];refine L6 rfl ?_;refine eE bE 1 (α:=Unit) (λ_=>⟨(.an::.an::.ptr 0 0 0::.ptr 1 0 0::.ptr 2 0 0::.ptr 5 0 0::aA 15 (.i f.aY::aA 55 (.d (.bool false)::aA 8 []))),[.box (J.bx c),.box (al.bx f),.box J.ca,.aj 39 (c.aa.map ae.enc),.aj 2 (c.ai.map aL.enc),.azG c 3 4]⟩) (λ_=>True) ?_ ?_
  ·skip
   try simp only[go_sem,yw]
   refine cZ.intro () [0,1,2,3,4,5] trivial ?_;simp only[go_sem];simp
  rintro _ _;simp only[Cg,Ch];refine L6 rfl ?_;refine eE bE 2 (α:=Unit) (λ_=>⟨(.an::.an::.ptr 0 0 0::.ptr 1 0 0::.ptr 2 0 0::.ptr 5 0 0::aA 6 (.ptr 11 0 0::aA 16 (.d (.bool true)::aA 56 []))),[.box (J.bx c),.box (al.bx f),.box J.ca,.aj 39 (c.aa.map ae.enc),.aj 2 (c.ai.map aL.enc),.azG c 3 4,.aj 1 (s.ag.aB.cells.map bg),.aj 2 (s.ag.bC.map ab.enc),.aj 2 (s.ag.bc.map ab.enc),.aj 2 (s.ag.bJ.map ab.enc),.aj 2 (s.aU.bT.cq.map aR.enc),.box (ae.a2 s (.sl 6 0 s.ag.aB.cells.length) (.sl 7 0 s.ag.bC.length) (.sl 8 0 s.ag.bc.length) (.sl 9 0 s.ag.bJ.length) (.sl 10 0 s.aU.bT.cq.length))]⟩) (λ_=>True) ?_ ?_
  ·skip
   try simp only[go_sem]
   repeat'((first|refine af.j ?_|refine av.j ?_)<;>simp only[go_sem,I])
   refine cZ.intro () [0,1,2,3,4,5,6,7,8,9,10,11] trivial ?_;simp only[go_sem];simp
  rintro _ _;simp only[Cg,Ch];refine ag9 rfl ?_;refine L7 (σ':=D5 c f s e (ea 10 false)) (ρ:=[0,1,2,3,4,5,6,7,8,9,10,11]) (by simp only[D5,ea,aK,gm,gh,eF,ix];simp only[go_sem];simp) ?_;refine gJ bE ?_;simp only[go_sem];refine lM (λσ'=>σ'=D5 c f s e (ea 10 true)) ?_ (λσ' h=>h);refine Qq (λn S σ=>(n,S)∈QM/\σ=D5 c f s e S) ?_ ?_ _ _ _ ⟨by first|exact aw_ _|decide +kernel,rfl⟩
  ·rintro S σ ⟨a5,rfl⟩;simp only[QM,rD,dT,asL,or_false]at a5;repeat'(first|(cases a5 with|inl a5=>?_|inr a5=>?_)|fail)
   all_goals obtain⟨hn,rfl⟩:=a5
   all_goals(first|exact absurd hn ζ|skip)
   exact⟨rfl,rfl⟩
  rintro n S σ F ⟨a5,rfl⟩ bG;simp only[QM,rD,dT,asL,or_false]at a5;repeat'(first|(cases a5 with|inl a5=>?_|inr a5=>?_)|fail)
  all_goals obtain⟨hn,rfl⟩:=a5
  rotate_right 1
  ·exact absurd hn ω
  all_goals(
   simp only[Nat.reduceEqDiff]at hn
   try subst hn
   simp only[D5,aK,gm,gh,d4,eF,cx,cv,ix];refine Xd rfl ?_
   repeat'(first
    |exact F6
    |(refine F7 ?_ ?_)
    |exact bG _ _ ⟨by first|exact aw_ _|decide +kernel,rfl⟩
    |(refine af.aj hL ?_)
    |(refine af.inl (ahc c f s f.aY BZ _ (by simp[b3,vok]) _ (λe' DV=>?_));obtain rfl:e'=e:=DV.trans he.symm)
    |simp only[go_sem,I]))
  all_goals trace_state
 rintro _ rfl;refine gJ bE ?_;simp only[D5,ea,aK,gm,gh,d4,cx,cv];simp only[go_sem];simp[lE,outOA]
def XF:List (List bK):=cB 7 [2066,2176,2182,2161,2107,1944,1458]
def XG:List (List bK):=cB 8 [6443,6441,6232,6214,5548,6435,5913,4374]
attribute [go_sem] XF XG
theorem ahe(c:J)(f:al)(hz:gZ c)(hn:¬(ew c/\decide (f.aY=16)=false/\decide (f.aY=18)=false/\decide (f.aY=20)=false/\decide (f.aY=22)=false/\(bQ c.aa f.ax).2=true)):aM 201 [.agg (J.enc c),.agg (al.enc f)] [.agg (J.enc ((iU c f)))]:=by
 refine ayE 86 func201 call201 [.cell 4 37] ?_;have lL:=lo hz;have cM:=pZ c f.ax hz
 try simp only[go_sem]
 repeat'((first|refine af.aj (by first|assumption|(apply jd<;>exact aT)|(apply lu<;>exact aT)) ?_|refine av.j ?_)<;>simp only[go_sem,I])
 cases aE:ew c
 ·simp only[go_sem,I,b7];simp[iU,aE]
 simp only[go_sem,bz];cases j':decide (f.aY=16)
 ·have QN:=de j';simp only[go_sem];cases iB:decide (f.aY=18)
  ·have L8:=de iB;simp only[go_sem];cases p8:decide (f.aY=20)
   ·have QO:=de p8;simp only[go_sem];cases yw:decide (f.aY=22)
    ·have L9:=de yw;have hf:(bQ c.aa f.ax).2=false:=by
      cases hf:(bQ c.aa f.ax).2
      ·rfl
      exact absurd ⟨aE,j',iB,p8,yw,hf⟩ hn
     have ah:iU c f=c:=by unfold iU;rw[aE,if_neg QN,if_neg L8,if_neg QO,if_neg L9,hf];rfl
     rw[hf]at cM;simp only[go_sem]
     try simp only[go_sem,I]
     repeat'(first|((first|refine af.j ?_|refine av.j ?_)<;>simp only[go_sem,I])|refine⟨ae7,?_⟩|fail)
     simp[ah]
    have L9:=cY yw;simp only[go_sem];cases hu:f.fG
    ·try simp only[go_sem,I]
     repeat'(first|refine⟨ae7,?_⟩|fail)
     simp[iU,aE,L9,hu]
    try simp only[go_sem,I]
    repeat'(first|refine⟨ae7,?_⟩|fail)
    simp[iU,aE,L9,hu]
   have QO:=cY p8
   try simp only[go_sem]
   repeat'(first|((first|refine af.aj (by first|assumption|apply XE) ?_|refine av.j ?_)<;>simp only[go_sem,I])|refine⟨ae7,?_⟩|fail)
   simp[iU,aE,QO]
  have L8:=cY iB;simp only[go_sem];cases hu:f.fG
  ·try simp only[go_sem]
   repeat'(first|((first|refine af.aj (by first|assumption|apply L5) ?_|refine av.j ?_)<;>simp only[go_sem,I])|refine⟨ae7,?_⟩|fail)
   simp[iU,aE,L8,hu]
  try simp only[go_sem]
  repeat'(first|((first|refine af.aj (by first|assumption|apply L5) ?_|refine av.j ?_)<;>simp only[go_sem,I])|refine⟨ae7,?_⟩|fail)
  simp[iU,aE,L8,hu]
 have QN:=cY j'
 try simp only[go_sem]
 repeat'(first|((first|refine af.aj (by first|assumption|apply Xz) ?_|refine av.j ?_)<;>simp only[go_sem,I])|refine⟨ae7,?_⟩|fail)
 simp[iU,aE,QN]
theorem ahf(c:J)(f:al)(hz:gZ c):aM 201 [.agg (J.enc c),.agg (al.enc f)] [.agg (J.enc ((iU c f)))]:=by
 by_cases hn:ew c/\decide (f.aY=16)=false/\decide (f.aY=18)=false/\decide (f.aY=20)=false/\decide (f.aY=22)=false/\(bQ c.aa f.ax).2=true
 ·obtain⟨aE,j',iB,p8,yw,hf⟩:=hn;have ah:iU c f=lE c (jT c (aC c f.ax) f.aY):=by
   unfold iU;rw[aE,if_neg (de j'),if_neg (de iB),if_neg (de p8),if_neg (de yw),hf];rfl
  rw[ah];exact ahd c f hz aE j' iB p8 yw hf
 ·exact ahe c f hz hn
theorem XH(c:J)(b:Int):(bif bif !hZ c then true else !cd b 1 400 then true else decide (1000000<=c.bU))=!rJ c b:=by
 unfold rJ;cases hZ c<;>cases cd b 1 400<;>cases decide (1000000<=c.bU)<;>rfl
theorem XI(c:J)(b:Int)(m:Nat)(hv:bW m c)(hm:m<=20):aM 134 [.agg (J.enc c),.one (.i b)] [.one (.str (zJ c b)),.one (.i (qN c b)),.agg (J.enc ((j_ c b)))]:=by
 refine m_ 90 func134 call134 [.tmp 4,.tmp 5,.cell 6 37] ?_;intro ok;clear ok;have hz:=hv.sz hm;have lL:=lo hz;have bY:=XH c b;obtain⟨hcl,qE⟩:=QP hv;refine eE bE 6 (α:=Unit) (λ_=>⟨(.an::.i b::.ptr 0 0 0::aA 3 (.ptr 1 0 0::.ptr 2 0 0::.sl 5 0 0::.i b::.sl 6 0 (fc c).length::aA 79 [])),[.box (J.bx c),.box J.ca,.azG c 3 4,.aj 39 (c.aa.map ae.enc),.aj 2 (c.ai.map aL.enc),.ay 9 [] true,.azy (fc c)]⟩) (λ_=>rJ c b=true) ?_ ?_
 ·skip
  try simp only[go_sem]
  repeat'((first|refine af.aj (by first|(apply jd<;>exact aT)|(apply x8<;>exact aT)) ?_|refine av.aj (by apply lS) ?_|apply bo)<;>simp only[go_sem,I])
  rw[bY];cases hg:rJ c b
  ·try simp only[go_sem,b7]
   repeat'(first|(refine a7 [[.post,.dL,.dL,.post],[.dL,.post,.post,.post],[.dL,.pre,.post,.post],[.pre,.pre,.pre,.post]] χ ψ ?_<;>simp only[go_sem,I])|refine⟨ae7,?_⟩|fail)
   simp[j_,zJ,qN,yx,hg]
  try simp only[go_sem,bz]
  repeat'(refine af.intro (by(apply ag8<;>exact aT)) ?_<;>simp only[go_sem,I])
  refine cZ.intro () [0,1,4,2,3,5,6] (by first|exact hg|trivial) ?_;simp only[go_sem];simp
 rintro _ hg;have hA:ck c b=(fc c).foldl iC ⟨c,[],b⟩:=rfl;refine eE bE 1 (α:=Unit) (λ_=>⟨(.an::.i b::.ptr 0 0 0::aA 3 (.ptr 1 0 0::.ptr 2 0 0::.sl 5 0 (ck c b).b2.length::.d (.i (ck c b).room)::aA 80 [])),[.box (J.bx c),.box J.ca,.box [.d (.bool (ck c b).x.bq),.d (.i (ck c b).x.own.aB),.d (.i (ck c b).x.own.bL),.d (.i (ck c b).x.own.nh),.d (.i (ck c b).x.own.cn),.d (.i (ck c b).x.own.ni),.d (.i (ck c b).x.own.mz),.d (.i (ck c b).x.own.fG),.d (.i (ck c b).x.own.eU),.d (.i (ck c b).x.cP.aB),.d (.i (ck c b).x.cP.bL),.d (.i (ck c b).x.cP.nh),.d (.i (ck c b).x.cP.cn),.d (.i (ck c b).x.cP.ni),.d (.i (ck c b).x.cP.mz),.d (.i (ck c b).x.cP.fG),.d (.i (ck c b).x.cP.eU),.sl 3 0 (ck c b).x.aa.length,.d (.i (ck c b).x.cn.aX),.d (.i (ck c b).x.cn.dV),.d (.i (ck c b).x.cn.blocked),.d (.i (ck c b).x.cn.gA),.d (.i (ck c b).x.c7.size),.d (.i (ck c b).x.c7.cm),.d (.i (ck c b).x.c7.aX),.d (.i (ck c b).x.c7.seen),.d (.i (ck c b).x.c7.fa),.d (.i (ck c b).x.c7.k9),.d (.i (ck c b).x.eY.aX),.d (.i (ck c b).x.eY.iy),.d (.i (ck c b).x.eY.blocked),.d (.i (ck c b).x.eZ.aX),.d (.i (ck c b).x.eZ.iy),.d (.i (ck c b).x.eZ.blocked),.d (.i (ck c b).x.dB.cm),.d (.i (ck c b).x.dB.aX),.d (.i (ck c b).x.dB.seen),.d (.i (ck c b).x.dB.cX),.d (.i (ck c b).x.dC.cm),.d (.i (ck c b).x.dC.aX),.d (.i (ck c b).x.dC.seen),.d (.i (ck c b).x.dC.cX),.d (.bool (ck c b).x.p2),.d (.bool (ck c b).x.mA),.d (.bool (ck c b).x.mB),.d (.i (ck c b).x.dw),.d (.i (ck c b).x.bU),.sl 4 0 (ck c b).x.ai.length,.d (.i (ck c b).x.dA),.d (.i (ck c b).x.cX)],.aj 39 ((ck c b).x.aa.map ae.enc),.aj 2 ((ck c b).x.ai.map aL.enc),.ay 9 ((ck c b).b2.map al.enc) true]⟩) (λ_=>True) ?_ ?_
 ·simp only[go_sem];refine cb.intro (α:=Nat×xt) (λy=>⟨(.an::.i b::.ptr 0 0 0::aA 3 (.ptr 1 0 0::.ptr 2 0 0::.sl 5 0 y.2.b2.length::.i y.2.room::.sl 6 0 (fc c).length::.i y.1::aA 78 [])),[.box (J.bx c),.box J.ca,.azG y.2.x 3 4,.aj 39 (y.2.x.aa.map ae.enc),.aj 2 (y.2.x.ai.map aL.enc),.azy y.2.b2,.azy (fc c)]⟩)
   (λy=>(fc c).length-y.1) (λy=>y.1<=(fc c).length/\y.2=((fc c).take y.1).foldl iC ⟨c,[],b⟩/\oU m y.1 y.2.x y.2.b2) (0,⟨c,[],b⟩) [0,1,2,3,4,5,6] ⟨by simp,by simp,hv,by simp,by simp⟩ ?_ ?_
  ·simp only[go_sem];simp
  rintro⟨i,q⟩ ⟨hi,hq,aE⟩;simp only at hi hq aE;by_cases h1:i<(fc c).length
  ·have aq:=br (p:=(i:Int)<((fc c).length:Int)) ω;have az:=b_ al.enc (fc c) i h1;have hw:=asc (i:=i);have hs:((fc c).take (i+1)).foldl iC ⟨c,[],b⟩=iC q (fc c)[i]:=by
    rw[gO,cy h1,arD,<-hq];rfl
   have Iv:qO (fc c)[i]:=qE _ (eK h1);have AZ:=QQ aE Iv;generalize (fc c)[i]=f at *;have ef:f.data.length<=60:=Iv;have arv:=ahf q.x f (aE.c.sz hm);have Iw:=QR f.aY f.ax f.aP f.data f.aS f.cS f.aX f.bf f.fG ω;change PureCall _ _ _ [.one (.i ((eS f).length:Int))]at Iw;have A0:iC q f=if((eS f).length:Int)<=q.room then⟨iU q.x f,q.b2++[f],i64.wrap (q.room-((eS f).length:Int))⟩else q:=rfl
   have ahg:=aE.n
   try simp only[go_sem,I,aF,az,al.enc,aq]
   repeat'(first|((first|refine af.i ?_|refine av.i ?_)<;>simp only[go_sem])|refine⟨ae7,?_⟩|fail)
   cases xu:decide (((eS f).length:Int)<=q.room)
   ·rw[if_neg (de xu)]at A0;rw[A0]at hs AZ;simp only[go_sem];refine bt.intro (i+1,q) [0,1,2,3,4,5,6] ⟨by simp only;omega,hs.symm,AZ⟩ (by simp only;omega) ?_;simp only[go_sem,hw];simp
   rw[if_pos (cY xu)]at A0;rw[A0]at hs AZ
   try simp only[go_sem,I,aF,az,al.enc]
   repeat'(first|((first|refine af.i ?_|refine av.i ?_)<;>simp only[go_sem])|refine⟨ae7,?_⟩|fail)
   try simp only[go_sem,I,aF,az,al.enc]
   repeat'(first|((first|refine af.j ?_|refine av.j ?_|refine a7 XF χ ψ ?_)<;>simp only[go_sem,I,aF,az,al.enc])|refine⟨ae7,?_⟩|fail)
   refine bt.intro (i+1,⟨iU q.x f,q.b2++[f],i64.wrap (q.room-((eS f).length:Int))⟩) [0,1,2,7,8,10,6] ⟨by simp only;omega,hs.symm,AZ⟩ (by simp only;omega) ?_;simp only[go_sem,hw];simp[al.enc]
  have aq:=bn (p:=(i:Int)<((fc c).length:Int)) ω;obtain rfl:i=(fc c).length:=by omega
  rw[da,<-hA]at hq;subst hq;simp only[go_sem,aq];refine cZ.intro () [0,1,2,3,4,5] trivial ?_;simp only[go_sem];simp
 rintro _ _;have D6:=QS hv b;have D7:=QT hv ω b;have hB:ja 200 ⟨(ck c b).x,[],(ck c b).b2,(ck c b).room⟩=dy c b:=rfl;have a3:j_ c b=if(dy c b).b2=[]then(dy c b).x else {(dy c b).x with ai:=(dy c b).x.ai++[⟨c.bU,(dy c b).b2⟩],bU:=i64.wrap (c.bU+1)}:=by unfold j_;rw[hg];rfl
 have sH:yx c b=!decide ((dy c b).b2=[]):=by unfold yx;rw[hg];rfl
 have cR:zJ c b=if yx c b then xv (dy c b).b2 else []:=rfl
 generalize ck c b=D8 at *;generalize dy c b=oV at *;refine eE bE 1 (α:=Unit) (λ_=>⟨(.an::.an::.ptr 0 0 0::aA 3 (.ptr 1 0 0::.ptr 2 0 0::.sl 5 0 oV.b2.length::aA 81 [])),[.box (J.bx c),.box J.ca,.azG oV.x 3 4,.aj 39 (oV.x.aa.map ae.enc),.aj 2 (oV.x.ai.map aL.enc),.azy oV.b2]⟩) (λ_=>True) ?_ ?_
 ·simp only[go_sem,I];refine af.lp [2,6,7] (by simp only[i3,arE,am_,Nat.reduceBEq,Nat.reduceAdd,d4,eF];rfl) (ahh c D8.x D8.b2 D8.room m D6.c hm D6.n D6.d _ (by simp[b3,vok]) _ ?_);rw[hB];simp only[sI,g8,f2,L_,go_sem];refine cZ.intro () [0,1,2,3,4,5] trivial ?_;simp only[go_sem];simp
 rintro _ _;refine Fl 4 rfl ?_;refine gJ bE ?_;simp only[go_sem];have gz:oV.x.ai.length<=20:=Nat.le_trans D7.c.sG hm;cases sJ:decide (oV.b2=[])
 ·have yy:=de sJ;have hd:=bn (p:=(oV.b2.length:Int)=0) (λh=>yy (List.length_eq_zero_iff.1 ω));rw[sJ]at sH;rw[if_neg yy]at a3;have arw:=ahi oV.b2 (by have:=D7.n;omega) (λf hf=>by have:=D7.d f hf;unfold qO at this;omega)
  try simp only[go_sem,I,hd]
  repeat'(first|((first|refine af.i ?_|refine av.i ?_|refine a7 XG χ ψ ?_)<;>simp only[go_sem,I])|refine⟨ae7,?_⟩|fail)
  rw[sH]at cR;simp[a3,cR,qN,sH,aL.enc,eA]
 have yy:=cY sJ;have hd:=br (p:=(oV.b2.length:Int)=0) (by rw[yy];rfl);rw[sJ]at sH;rw[if_pos yy]at a3;rw[sH]at cR
 try simp only[go_sem,hd]
 repeat'(first|(refine a7 [[.post,.dL,.dL,.post],[.dL,.post,.post,.post],[.dL,.pre,.post,.post],[.pre,.pre,.pre,.post]] χ ψ ?_<;>simp only[go_sem,I])|refine⟨ae7,?_⟩|fail)
 simp[a3,cR,qN,sH]
def pN(b:UInt8)(q:List (List UInt8)×List UInt8)(x:UInt8):List (List UInt8)×List UInt8:=if x=b then(q.1++[q.2],[])else(q.1,q.2++[x])
def sd(b:UInt8)(s:List UInt8):List (List UInt8)×List UInt8:=s.foldl (pN b) ([],[])
def Db(s:List UInt8)(b:UInt8):List (List UInt8):=(sd b s).1++[(sd b s).2]
theorem Uq(b:UInt8):∀(s:List UInt8) (q:List (List UInt8)×List UInt8),(s.foldl (pN b) q).1.length+(s.foldl (pN b) q).2.length<=q.1.length+q.2.length+s.length
 |[],q=>by simp
 |x::s,q=>by
  have:=Uq b s (pN b q x);have e:(pN b q x).1.length+(pN b q x).2.length<=q.1.length+q.2.length+1:=by
   unfold pN;split<;>simp<;>omega
  rw[An,e0];omega
theorem apo(s:List UInt8)(b:UInt8)(hl:s.length<=1048576):aM 315 [.one (.str s),.one (.int .u8 (b.toNat:Int))] [.one (.sl 1 ((Db s b).map oS))]:=by
 refine aW 35 func315 call315 [.tmp 4] ?_;intro ok;simp only[go_sem];refine cb.intro (λi:Nat=>⟨(.d (.str s)::.d (.int .u8 (b.toNat:Int))::aA 3 (.sl 0 0 (sd b (s.take i)).1.length::.d (.str (sd b (s.take i)).2)::.i i::aA 27 [])),[.ay 1 ((sd b (s.take i)).1.map oS) true]⟩)
  (λi=>s.length-i) (λi=>i<=s.length) 0 [0] ω ?_ ?_
 ·simp only[go_sem];simp[sd]
 intro i hi;have iL:=Uq b (s.take i) ([],[]);have cR:(s.take i).length=i:=by simp;omega
 simp only[g1]at iL;have apq:(sd b (s.take i)).1.length+(sd b (s.take i)).2.length<=i:=by unfold sd;omega
 by_cases h1:i<s.length
 ·have aq:=aro (i:=i) (n:=s.length);have hw:=d8 h1 (show s.length<=maxLen by simp only[maxLen];omega);have hs:sd b (s.take (i+1))=pN b (sd b (s.take i)) s[i]:=OH _ _ _ _ h1;generalize sd b (s.take i)=q at *;obtain⟨d2,part⟩:=q;simp only at apq;have hx:s[i]?.getD 0=s[i]:=by rw[cy h1];rfl
  have yi:atz (i+1-i) (atf i s)=[s[i]]:=by
   rw[show i+1-i=1 from by omega,asV h1];rfl
  cases hd:decide (s[i]=b)
  ·have hb:=bn (p:=(s[i].toNat:Int)=(b.toNat:Int)) (λh=>absurd (auw.1 (Int.ofNat.inj h)) (de hd));have b4:pN b (d2,part) s[i]=(d2,part++[s[i]]):=by unfold pN;exact if_neg (de hd)
   try simp only[go_sem,aF,aq,hw,hx,yi,hb]
   repeat'(first|refine⟨ae7,?_⟩|fail)
   all_goals(first|(refine⟨by simp only[e0,g1,maxLen];omega,?_⟩)|skip;refine bt.intro (i+1) [0] ω ω ?_;simp only[go_sem,hs,b4];simp)
  have hb:decide ((s[i].toNat:Int)=(b.toNat:Int)):=by rw[cY hd];simp
  have b4:pN b (d2,part) s[i]=(d2++[part],[]):=by unfold pN;exact if_pos (cY hd)
  try simp only[go_sem,I,aF,aq,hw,hx,hb]
  repeat'(first|refine⟨ae7,?_⟩|fail)
  all_goals(first|(refine⟨⟨by omega,rfl⟩,?_⟩)|skip;refine bt.intro (i+1) [2] ω ω ?_;simp only[go_sem,hs,b4];simp[oS])
 obtain⟨aq,rfl⟩:=arn (i:=i) (n:=s.length);rw[da]at *
 try simp only[go_sem,I,aq]
 repeat'(first|refine⟨ae7,?_⟩|fail)
 all_goals(simp[Db];try exact eA ξ)
def Dc(s:List UInt8):List UInt8:=s.dropWhile (λx=>decide (x=32))
def Al(s:List UInt8):List UInt8:=(s.reverse.dropWhile (λx=>decide (x=32))).reverse
def qo(s:List UInt8):List UInt8:=Al (Dc s)
theorem apr(r:List UInt8):Dc (32::r)=Dc r:=by simp[Dc]
theorem aps{x:UInt8}{r:List UInt8}(h:x≠32):Dc (x::r)=x::r:=by simp[Dc,h]
theorem adt{r:List UInt8}(h:r≠[])(hl:r.getLast h=32):Al r=Al r.dropLast:=by
 have e:r.reverse=32::r.dropLast.reverse:=by
  conv=>lhs;rw[<-auy h]
  simp[hl]
 unfold Al;rw[e,List.dropWhile_cons_of_pos ξ]
theorem adu{r:List UInt8}(h:r≠[])(hl:r.getLast h≠32):Al r=r:=by
 have e:r.reverse=r.getLast h::r.dropLast.reverse:=by
  conv=>lhs;rw[<-auy h]
  simp
 unfold Al;rw[e,List.dropWhile_cons_of_neg (by simp[hl])];rw[<-e,List.reverse_reverse]
theorem adv(s:List UInt8)(hl:s.length<=1048576):aM 316 [.one (.str s)] [.one (.str (qo s))]:=by
 refine aW 30 func316 call316 [.tmp 2] ?_;intro ok;simp only[go_sem];refine cb.intro (λu:List UInt8=>⟨(.d (.str u)::aA 29 []),[]⟩) (λu=>u.length) (λu=>u.length<=1048576/\Dc u=Dc s) s [] ⟨hl,rfl⟩ ?_ ?_
 ·simp only[go_sem]
 rintro u ⟨hu,he⟩
 cases u with
 |nil=>
  have c3:qo s=Al []:=by unfold qo;rw[<-he];rfl
  have h0:decide ((0:Int)<((0:Nat):Int))=false:=by decide
  try simp only[go_sem,g1,h0]
  repeat'(first|(with_reducible apply dp<;>simp only[go_sem,g1]))
  refine cb.intro (λv:List UInt8=>⟨(.d (.str v)::aA 29 []),[]⟩) (λv=>v.length) (λv=>v.length<=1048576/\Al v=qo s) [] [] ⟨by simp,c3.symm⟩ ?_ ?_
  ·simp only[go_sem]
  rintro v ⟨hv,E1⟩;by_cases hn:v=[]
  ·subst hn;have e:qo s=[]:=by rw[<-E1];rfl
   have h0:decide ((0:Int)<((0:Nat):Int))=false:=by decide
   try simp only[go_sem,g1,h0]
   repeat'(first|(with_reducible apply dp<;>simp only[go_sem,g1]))
   all_goals first|(exfalso;simp at h;done)|simp[e]
  have hp:0<v.length:=aq_.2 hn;have h1:=br (p:=(0:Int)<(v.length:Int)) ω;have h2:i64.wrap ((v.length:Int)-1)=((v.length-1:Nat):Int):=by rw[bw]<;>omega
  have ao:v[v.length-1]?.getD 0=v.getLast hn:=by rw[cy ω,azI];rfl
  have aH:atz (v.length-1-0) (atf 0 v)=v.dropLast:=by rw[aug,azL,atC]
  cases hd:decide (v.getLast hn=32)
  ·have hb:=bn (p:=((v.getLast hn).toNat:Int)=32) (λh=>absurd (auw.1 (show(v.getLast hn).toNat=(32:UInt8).toNat by have:(32:UInt8).toNat=32:=rfl;omega)) (de hd));have e:qo s=v:=by rw[<-E1];exact adu hn (de hd)
   try simp only[go_sem,h1]
   repeat'(first|(with_reducible apply cG<;>simp only[go_sem,h2,ao,hb,aF])|refine⟨ae7,?_⟩|fail)
   all_goals simp[e]
  have hb:decide (((v.getLast hn).toNat:Int)=32):=by rw[cY hd];rfl
  try simp only[go_sem,h1]
  repeat'(first|(with_reducible apply cG<;>simp only[go_sem,h2,ao,hb,aF])|refine⟨ae7,?_⟩|fail)
  all_goals(refine bt.intro v.dropLast [] ⟨by rw[atK];omega,by rw[<-adt hn (cY hd)];exact E1⟩ (by rw[atK];omega) ?_;simp only[go_sem];try simp[atC])
 |cons x r=>
  have h1:=br (p:=(0:Int)<((r.length+1:Nat):Int)) ω;have hx:(x::r)[0]?.getD 0=x:=rfl;cases hd:decide (x=32)
  ·have hb:=bn (p:=(x.toNat:Int)=32) (λh=>absurd (auw.1 (show x.toNat=(32:UInt8).toNat by have:(32:UInt8).toNat=32:=rfl;omega)) (de hd));have c3:qo s=Al (x::r):=by unfold qo;rw[<-he,aps (de hd)]
   try simp only[go_sem,e0,h1]
   repeat'(first|(with_reducible apply cG<;>simp only[go_sem,e0,hb])|refine⟨ae7,?_⟩|fail)
   refine cb.intro (λv:List UInt8=>⟨(.d (.str v)::aA 29 []),[]⟩) (λv=>v.length) (λv=>v.length<=1048576/\Al v=qo s) (x::r) [] ⟨hu,c3.symm⟩ ?_ ?_
   ·simp only[go_sem]
   rintro v ⟨hv,E1⟩;by_cases hn:v=[]
   ·subst hn;have e:qo s=[]:=by rw[<-E1];rfl
    have h0:decide ((0:Int)<((0:Nat):Int))=false:=by decide
    try simp only[go_sem,g1,h0]
    repeat'(first|(with_reducible apply dp<;>simp only[go_sem,g1]))
    all_goals first|(exfalso;simp at h;done)|simp[e]
   have hp:0<v.length:=aq_.2 hn;have h1:=br (p:=(0:Int)<(v.length:Int)) ω;have h2:i64.wrap ((v.length:Int)-1)=((v.length-1:Nat):Int):=by rw[bw]<;>omega
   have ao:v[v.length-1]?.getD 0=v.getLast hn:=by rw[cy ω,azI];rfl
   have aH:atz (v.length-1-0) (atf 0 v)=v.dropLast:=by rw[aug,azL,atC]
   cases hd:decide (v.getLast hn=32)
   ·have hb:=bn (p:=((v.getLast hn).toNat:Int)=32) (λh=>absurd (auw.1 (show(v.getLast hn).toNat=(32:UInt8).toNat by have:(32:UInt8).toNat=32:=rfl;omega)) (de hd));have e:qo s=v:=by rw[<-E1];exact adu hn (de hd)
    try simp only[go_sem,h1]
    repeat'(first|(with_reducible apply cG<;>simp only[go_sem,h2,ao,hb,aF])|refine⟨ae7,?_⟩|fail)
    all_goals simp[e]
   have hb:decide (((v.getLast hn).toNat:Int)=32):=by rw[cY hd];rfl
   try simp only[go_sem,h1]
   repeat'(first|(with_reducible apply cG<;>simp only[go_sem,h2,ao,hb,aF])|refine⟨ae7,?_⟩|fail)
   all_goals(refine bt.intro v.dropLast [] ⟨by rw[atK];omega,by rw[<-adt hn (cY hd)];exact E1⟩ (by rw[atK];omega) ?_;simp only[go_sem];try simp[atC])
  have hb:decide ((x.toNat:Int)=32):=by rw[cY hd];rfl
  have yi:atz ((x::r).length-1) (atf 1 (x::r))=r:=by simp
  try simp only[go_sem,e0,h1]
  repeat'(first|(with_reducible apply cG<;>simp only[go_sem,e0,hb])|refine⟨ae7,?_⟩|fail)
  all_goals(refine bt.intro r [] ⟨by rw[e0]at hu;omega,by rw[<-he,cY hd];exact(apr r).symm⟩ ξ ?_;simp only[go_sem];try simp)
def rb(p:lG)(t:List UInt8):lG:=
 if t=[105]\/t=[105,61,63,49]then {p with ic:=true}
 else if t=[105,61,63,48]then {p with ic:=false}
 else if t.length=3/\t.take 2=[117,61]/\48<=(t[2]?.getD 0).toNat/\(t[2]?.getD 0).toNat<=55 then {p with ei:=((t[2]?.getD 0).toNat:Int)-48}
 else p
def qp(p:lG)(t:List UInt8):lG:=rb p (qo t)
def AO(p:lG)(s:List UInt8):lG:=(Db s 44).foldl qp (if mJ p then p else Ad)
theorem apt(s:List UInt8)(b:UInt8):(Db s b).length<=s.length+1/\∀t∈Db s b,t.length<=s.length:=by
 have h:∀(s:List UInt8) (q:List (List UInt8)×List UInt8) (n:Nat),(∀t∈q.1,t.length<=n)->q.2.length<=n->(∀t∈(s.foldl (pN b) q).1,t.length<=n+s.length)/\(s.foldl (pN b) q).2.length<=n+s.length:=by
  intro s
  induction s with
  |nil=>intro q n h1 h2;exact⟨λt ht=>by have:=h1 t ht;simp;omega,by simp;omega⟩
  |cons x s c_=>
   intro q n h1 h2;have:=c_ (pN b q x) (n+1) (by
    intro t ht;unfold pN at ht;split at ht
    ·rcases e7.1 ht with ht|ht
     ·have:=h1 t ht;omega
     rw[jn.1 ht];omega
    have:=h1 t ht;omega) (by unfold pN;split<;>simp<;>omega)
   rw[An,e0];exact⟨λt ht=>by have:=this.1 t ht;omega,by omega⟩
 have h1:=Uq b s ([],[]);have h2:=h s ([],[]) 0 ξ ξ;simp only[g1]at h1;unfold Db;refine⟨by rw[eh];simp only[sd,e0,g1];omega,λt ht=>?_⟩;rcases e7.1 ht with ht|ht
 ·have:=h2.1 t ht;omega
 rw[jn.1 ht];have:=h2.2;simp only[sd];omega
theorem afS(q1:Int)(q2:Bool)(s:List UInt8)(hl:s.length<=1000):aM 281 [.agg [.i q1,.bool q2],.one (.str s)] [.agg [.i (AO (⟨q1,q2⟩:lG) s).ei,.bool (AO (⟨q1,q2⟩:lG) s).ic]]:=by
 refine ayE 62 func281 call281 [.cell 4 72] ?_;obtain⟨c1,cW⟩:=apt s 44;have a3:=apo s 44 ω;have ah:AO (⟨q1,q2⟩:lG) s=(Db s 44).foldl qp (if mJ (⟨q1,q2⟩:lG)then(⟨q1,q2⟩:lG)else Ad):=rfl;obtain⟨se,fh⟩:∃se,se=(if mJ (⟨q1,q2⟩:lG)then(⟨q1,q2⟩:lG)else Ad):=⟨_,rfl⟩;rw[<-fh]at ah;generalize Db s 44=l at *;simp only[show((44:UInt8).toNat:Int)=44 from rfl]at a3;cases aE:mJ (⟨q1,q2⟩:lG)
 ·try simp only[go_sem]
  repeat'((first|refine af.intro (by first|assumption|apply Kh|apply abt) ?_|refine av.i ?_)<;>simp only[go_sem,I,aE])
  refine cb.intro (λi:Nat=>⟨(.an::.an::.ptr 0 0 0::.an::.ptr 1 0 0::.sl 2 0 l.length::.i i::aA 55 []),[.box [.d (.i ((l.take i).foldl qp se).ei),.d (.bool ((l.take i).foldl qp se).ic)],.box [.i 0,.d (.bool false)],.ay 1 (l.map oS) true]⟩)
   (λi=>l.length-i) (λi=>i<=l.length) 0 [0,1,2] ω ?_ ?_
  ·simp only[go_sem];simp[fh,aE,Ad]
  intro i hi;by_cases h1:i<l.length
  ·have aq:=aro (i:=i) (n:=l.length);have az:=b_ oS l i h1;have hw:=asc (i:=i);have hs:=OH qp se l i h1;have lV:qp ((l.take i).foldl qp se) l[i]=rb ((l.take i).foldl qp se) (qo l[i]):=rfl;have cR:=adv l[i] (by have:=cW _ (eK h1);omega);rw[lV]at hs;generalize (l.take i).foldl qp se=q at *;generalize qo l[i]=t at *
   try simp only[go_sem,I,aF,az,oS,aq]
   repeat'(first|((first|refine af.i ?_|refine av.i ?_|apply bo)<;>simp only[go_sem])|refine⟨ae7,?_⟩|fail)
   by_cases cA:t=[105]\/t=[105,61,63,49]
   ·have hm:rb q t={q with ic:=true}:=by unfold rb;exact if_pos cA
    have eH:(bif decide (t=[105])then true else decide (t=[105,61,63,49]))=true:=by rcases cA with h|h<;>simp[h]
    simp only[eH]
    try simp only[go_sem]
    repeat'((first|refine af.i ?_|refine av.i ?_)<;>simp only[go_sem,I])
    refine bt.intro (i+1) [0,1,2] ω ω ?_;simp only[go_sem,hw,hs,hm];simp
   have eH:(bif decide (t=[105])then true else decide (t=[105,61,63,49]))=false:=by simp only[not_or]at cA;simp[cA.1,cA.2]
   simp only[eH];by_cases db:t=[105,61,63,48]
   ·have hm:rb q t={q with ic:=false}:=by unfold rb;exact(if_neg cA).trans (if_pos db)
    have eG:=br (p:=t=[105,61,63,48]) db
    try simp only[go_sem,eG]
    repeat'((first|refine af.i ?_|refine av.i ?_)<;>simp only[go_sem,I,eG])
    refine bt.intro (i+1) [0,1,2] ω ω ?_;simp only[go_sem,hw,hs,hm];simp
   have eG:=bn (p:=t=[105,61,63,48]) db;have hm:rb q t=if t.length=3/\t.take 2=[117,61]/\48<=(t[2]?.getD 0).toNat/\(t[2]?.getD 0).toNat<=55 then {q with ei:=((t[2]?.getD 0).toNat:Int)-48}else q:=by unfold rb;exact(if_neg cA).trans (if_neg db)
   by_cases c0:t.length=3
   ·have eX:=br (p:=(t.length:Int)=3) ω
    try simp only[go_sem,eG,eX]
    repeat'(first|((first|refine af.i ?_|refine av.i ?_|with_reducible apply cG|apply bo|refine bX (λh=>?_) (λh=>?_))<;>simp only[go_sem])|refine⟨ae7,?_⟩|fail)
    ·have hh:t.take 2=[117,61]/\48<=(t[2]?.getD 0).toNat/\(t[2]?.getD 0).toNat<=55:=by
      simp only[c2,bm,bH,ed]at h;exact⟨h.1,by omega,by omega⟩
     rw[if_pos ⟨c0,hh⟩]at hm;have ak:aso.wrap (((t[2]?.getD 0).toNat:Int)-48)=((t[2]?.getD 0).toNat:Int)-48:=R1 ω ω;have ar:i64.wrap (((t[2]?.getD 0).toNat:Int)-48)=((t[2]?.getD 0).toNat:Int)-48:=by rw[bw]<;>omega
     refine bt.intro (i+1) [0,1,2] ω ω ?_;simp only[go_sem,hw,hs,hm,ak,ar];simp
    ·have hh:¬(t.length=3/\t.take 2=[117,61]/\48<=(t[2]?.getD 0).toNat/\(t[2]?.getD 0).toNat<=55):=by
      rintro⟨_,b5,b8,dI⟩;have Ur:=br (p:=48<=((t[2]?.getD 0).toNat:Int)) ω;have Us:=br (p:=((t[2]?.getD 0).toNat:Int)<=55) ω;rw[Ur,Us,br b5]at h;cases h
     rw[if_neg hh]at hm;refine bt.intro (i+1) [0,1,2] ω ω ?_;simp only[go_sem,hw,hs,hm];simp
   have eX:=bn (p:=(t.length:Int)=3) ω;rw[if_neg (λh=>c0 h.1)]at hm
   try simp only[go_sem,eG,eX]
   repeat'((first|refine af.i ?_|refine av.i ?_|with_reducible apply dp)<;>simp only[go_sem])
   all_goals(refine bt.intro (i+1) [0,1,2] ω ω ?_;simp only[go_sem,hw,hs,hm];simp)
  obtain⟨aq,rfl⟩:=arn (i:=i) (n:=l.length);rw[da]
  try simp only[go_sem,aq]
  repeat'((first|refine af.i ?_|refine av.i ?_)<;>simp only[go_sem,I,aq])
  all_goals simp[ah]
 try simp only[go_sem]
 repeat'((first|refine af.intro (by first|assumption|apply Kh) ?_|refine av.i ?_)<;>simp only[go_sem,I,aE])
 refine cb.intro (λi:Nat=>⟨(.an::.an::.ptr 0 0 0::.an::.ptr 1 0 0::.sl 2 0 l.length::.i i::aA 55 []),[.box [.d (.i ((l.take i).foldl qp se).ei),.d (.bool ((l.take i).foldl qp se).ic)],.box [.i 0,.d (.bool false)],.ay 1 (l.map oS) true]⟩)
  (λi=>l.length-i) (λi=>i<=l.length) 0 [0,1,2] ω ?_ ?_
 ·simp only[go_sem];simp[fh,aE]
 intro i hi;by_cases h1:i<l.length
 ·have aq:=aro (i:=i) (n:=l.length);have az:=b_ oS l i h1;have hw:=asc (i:=i);have hs:=OH qp se l i h1;have lV:qp ((l.take i).foldl qp se) l[i]=rb ((l.take i).foldl qp se) (qo l[i]):=rfl;have cR:=adv l[i] (by have:=cW _ (eK h1);omega);rw[lV]at hs;generalize (l.take i).foldl qp se=q at *;generalize qo l[i]=t at *
  try simp only[go_sem,I,aF,az,oS,aq]
  repeat'(first|((first|refine af.i ?_|refine av.i ?_|apply bo)<;>simp only[go_sem])|refine⟨ae7,?_⟩|fail)
  by_cases cA:t=[105]\/t=[105,61,63,49]
  ·have hm:rb q t={q with ic:=true}:=by unfold rb;exact if_pos cA
   have eH:(bif decide (t=[105])then true else decide (t=[105,61,63,49]))=true:=by rcases cA with h|h<;>simp[h]
   simp only[eH]
   try simp only[go_sem]
   repeat'((first|refine af.i ?_|refine av.i ?_)<;>simp only[go_sem,I])
   refine bt.intro (i+1) [0,1,2] ω ω ?_;simp only[go_sem,hw,hs,hm];simp
  have eH:(bif decide (t=[105])then true else decide (t=[105,61,63,49]))=false:=by simp only[not_or]at cA;simp[cA.1,cA.2]
  simp only[eH];by_cases db:t=[105,61,63,48]
  ·have hm:rb q t={q with ic:=false}:=by unfold rb;exact(if_neg cA).trans (if_pos db)
   have eG:=br (p:=t=[105,61,63,48]) db
   try simp only[go_sem,eG]
   repeat'((first|refine af.i ?_|refine av.i ?_)<;>simp only[go_sem,I,eG])
   refine bt.intro (i+1) [0,1,2] ω ω ?_;simp only[go_sem,hw,hs,hm];simp
  have eG:=bn (p:=t=[105,61,63,48]) db;have hm:rb q t=if t.length=3/\t.take 2=[117,61]/\48<=(t[2]?.getD 0).toNat/\(t[2]?.getD 0).toNat<=55 then {q with ei:=((t[2]?.getD 0).toNat:Int)-48}else q:=by unfold rb;exact(if_neg cA).trans (if_neg db)
  by_cases c0:t.length=3
  ·have eX:=br (p:=(t.length:Int)=3) ω
   try simp only[go_sem,eG,eX]
   repeat'(first|((first|refine af.i ?_|refine av.i ?_|with_reducible apply cG|apply bo|refine bX (λh=>?_) (λh=>?_))<;>simp only[go_sem])|refine⟨ae7,?_⟩|fail)
   ·have hh:t.take 2=[117,61]/\48<=(t[2]?.getD 0).toNat/\(t[2]?.getD 0).toNat<=55:=by
     simp only[c2,bm,bH,ed]at h;exact⟨h.1,by omega,by omega⟩
    rw[if_pos ⟨c0,hh⟩]at hm;have ak:aso.wrap (((t[2]?.getD 0).toNat:Int)-48)=((t[2]?.getD 0).toNat:Int)-48:=R1 ω ω;have ar:i64.wrap (((t[2]?.getD 0).toNat:Int)-48)=((t[2]?.getD 0).toNat:Int)-48:=by rw[bw]<;>omega
    refine bt.intro (i+1) [0,1,2] ω ω ?_;simp only[go_sem,hw,hs,hm,ak,ar];simp
   ·have hh:¬(t.length=3/\t.take 2=[117,61]/\48<=(t[2]?.getD 0).toNat/\(t[2]?.getD 0).toNat<=55):=by
     rintro⟨_,b5,b8,dI⟩;have Ur:=br (p:=48<=((t[2]?.getD 0).toNat:Int)) ω;have Us:=br (p:=((t[2]?.getD 0).toNat:Int)<=55) ω;rw[Ur,Us,br b5]at h;cases h
    rw[if_neg hh]at hm;refine bt.intro (i+1) [0,1,2] ω ω ?_;simp only[go_sem,hw,hs,hm];simp
  have eX:=bn (p:=(t.length:Int)=3) ω;rw[if_neg (λh=>c0 h.1)]at hm
  try simp only[go_sem,eG,eX]
  repeat'((first|refine af.i ?_|refine av.i ?_|with_reducible apply dp)<;>simp only[go_sem])
  all_goals(refine bt.intro (i+1) [0,1,2] ω ω ?_;simp only[go_sem,hw,hs,hm];simp)
 obtain⟨aq,rfl⟩:=arn (i:=i) (n:=l.length);rw[da]
 try simp only[go_sem,aq]
 repeat'((first|refine af.i ?_|refine av.i ?_)<;>simp only[go_sem,I,aq])
 all_goals simp[ah]
def DT(c:J)(id:Int):Bool:=mv c id&&pY (aC c id).ag
def zu(c:J)(id:Int):J:=if DT c id then {c with aa:=dv c.aa (fF (aC c id) (xh (aC c id).ag))}else c
theorem afP(c:J)(id:Int)(hz:gZ c)(hw:gx (fF (aC c id) (xh (aC c id).ag))):aM 227 [.agg (J.enc c),.one (.i id)] [.agg (J.enc ((zu c id))),.one (.bool (DT c id))]:=by
 refine ayE 49 func227 call227 [.cell 4 37,.tmp 5] ?_;have lL:=lo hz;have a3:zu c id=if DT c id then {c with aa:=dv c.aa (fF (aC c id) (xh (aC c id).ag))}else c:=rfl
 have bB:DT c id=(mv c id&&pY (aC c id).ag):=rfl;have bY:=Lm c id;obtain⟨dW,cT,dS,eW⟩:=qH hz.2.1 id;have cM:=pZ c id hz;rw[show(bQ c.aa id).1=aC c id from rfl]at dW cT dS eW cM;have hL:=oj c.aa (fF (aC c id) (xh (aC c id).ag)) (by have:=hz.1;omega) hz.2.1 hw;generalize aC c id=s at *
 try simp only[go_sem]
 repeat'((first|refine af.aj (by first|assumption|(apply jd<;>exact aT)|(apply x8<;>exact aT)) ?_|refine av.j ?_|apply bo)<;>simp only[go_sem,I])
 rw[bY];cases hg:mv c id
 ·rw[hg,ap_]at bB;rw[bB]at a3
  try simp only[go_sem,I,b7]
  repeat'(first|((first|refine af.j ?_|refine av.j ?_)<;>simp only[go_sem,I,b7])|refine⟨ae7,?_⟩|fail)
  all_goals simp[a3,bB]
 rw[hg,af_]at bB
 try simp only[go_sem,I,bz]
 repeat'((first|refine af.aj (by first|assumption|(apply afQ<;>exact aT)) ?_|refine av.j ?_)<;>simp only[go_sem,I])
 cases hr:pY s.ag
 ·rw[hr]at bB;rw[bB]at a3
  try simp only[go_sem,I,b7]
  repeat'(first|((first|refine af.j ?_|refine av.j ?_)<;>simp only[go_sem,I,b7])|refine⟨ae7,?_⟩|fail)
  all_goals simp[a3,bB]
 rw[hr]at bB;rw[bB]at a3
 try simp only[go_sem,I,bz]
 repeat'(first|((first|refine af.j ?_|refine av.j ?_)<;>simp only[go_sem,I,fF])|refine⟨ae7,?_⟩|fail)
 all_goals simp[a3,bB,fF]
def mw(c:J)(id:Int)(t:List UInt8):J:=if mv c id then {c with aa:=dv c.aa {aC c id with cI:=AO (aC c id).cI t}}else c
theorem afR(c:J)(id:Int)(t:List UInt8)(hz:gZ c)(ht:t.length<=1000):aM 230 [.agg (J.enc c),.one (.i id),.one (.str t)] [.agg (J.enc ((mw c id t))),.one (.bool (mv c id))]:=by
 refine ayE 43 func230 call230 [.cell 6 37,.tmp 7] ?_;have lL:=lo hz;have a3:mw c id t=if mv c id then {c with aa:=dv c.aa {aC c id with cI:=AO (aC c id).cI t}}else c:=rfl
 have bY:=Lm c id;have BZ:gx (aC c id):=qH hz.2.1 id;have cM:=pZ c id hz;rw[show(bQ c.aa id).1=aC c id from rfl]at cM;have hL:=oj c.aa {aC c id with cI:=AO (aC c id).cI t} (by have:=hz.1;omega) hz.2.1 BZ;generalize aC c id=s at *;obtain⟨dW,cT,dS,eW⟩:=BZ
 try simp only[go_sem]
 repeat'((first|refine af.aj (by first|assumption|(apply jd<;>exact aT)|(apply x8<;>exact aT)) ?_|refine av.j ?_|apply bo)<;>simp only[go_sem,I])
 rw[bY];cases hg:mv c id
 ·rw[hg]at a3
  try simp only[go_sem,I,b7]
  repeat'(first|((first|refine af.j ?_|refine av.j ?_)<;>simp only[go_sem,I,b7])|refine⟨ae7,?_⟩|fail)
  all_goals simp[a3]
 rw[hg]at a3
 try simp only[go_sem,bz]
 repeat'(first|((first|refine af.aj (by first|assumption|(apply afS<;>exact aT)) ?_|refine av.j ?_)<;>simp only[go_sem,I])|refine⟨ae7,?_⟩|fail)
 all_goals simp[a3]
def ly(c:J)(u:Bool):jf:=if u then c.eZ else c.eY
def xi(c:J):Bool:=hZ c&&!decide (24<=(c.aa.length:Int))
def oO(c:J)(u:Bool):J:=if u then {c with eZ:=ry c.eZ}else {c with eY:=ry c.eY}
def yj(c:J)(u:Bool):Bool:=xi c&&oP (ly c u)
def sx(c:J)(u:Bool):Int:=if yj c u then rz (p0 (ly c u)) c.bq u else -1
def l8(c:J)(u:Bool):J:=
 if xi c then(if oP (ly c u)then {oO c u with aa:=dv c.aa (hN c.bq (rz (p0 (ly c u)) c.bq u) c.own c.cP)}else oO c u)else c
theorem afT(c:J):(bif !hZ c then true else decide (24<=(c.aa.length:Int)))=!xi c:=by
 unfold xi;cases hZ c<;>cases decide (24<=(c.aa.length:Int))<;>rfl
theorem afU(c:J)(u:Bool)(hz:gZ c):aM 224 [.agg (J.enc c),.one (.bool u)] [.one (.i (sx c u)),.agg (J.enc ((l8 c u))),.one (.bool (yj c u))]:=by
 refine ayE 69 func224 call224 [.tmp 4,.cell 5 37,.tmp 6] ?_;have lL:=lo hz;have a3:l8 c u=if xi c then(if oP (ly c u)then {oO c u with aa:=dv c.aa (hN c.bq (rz (p0 (ly c u)) c.bq u) c.own c.cP)}else oO c u)else c:=rfl
 have bB:yj c u=(xi c&&oP (ly c u)):=rfl;have aE:sx c u=if yj c u then rz (p0 (ly c u)) c.bq u else -1:=rfl
 have bY:=afT c;have hL:=oj c.aa (hN c.bq (rz (p0 (ly c u)) c.bq u) c.own c.cP) (by have:=hz.1;omega) hz.2.1 (H0 _ _ _ _)
 try simp only[go_sem]
 repeat'((first|refine af.aj (by first|assumption|(apply jd<;>exact aT)|(apply x8<;>exact aT)) ?_|refine av.j ?_|apply bo)<;>simp only[go_sem,I])
 rw[bY];cases hg:xi c
 ·rw[hg]at a3;rw[hg,ap_]at bB;rw[bB]at aE
  try simp only[go_sem,b7]
  repeat'(first|((first|refine af.j ?_|refine av.j ?_|refine a7 [[.post,.dL,.post,.post],[.dL,.post,.post,.post],[.pre,.pre,.post,.post],[.pre,.pre,.pre,.post]] χ ψ ?_)<;>simp only[go_sem,I])|refine⟨ae7,?_⟩|fail)
  all_goals simp[a3,bB,aE]
 rw[hg]at a3;rw[hg,af_]at bB;cases u
 ·have ak:ly c false=c.eY:=rfl;have ar:oO c false={c with eY:=ry c.eY}:=rfl;rw[ak]at a3 bB aE hL;rw[ar]at a3
  try simp only[go_sem,bz]
  repeat'((first|refine af.aj (by first|assumption|apply Wl) ?_|refine av.j ?_)<;>simp only[go_sem])
  cases aG:oP c.eY
  ·rw[aG]at a3 bB;rw[bB]at aE
   try simp only[go_sem,b7]
   repeat'(first|((first|refine af.j ?_|refine av.j ?_|refine a7 [[.post,.dL,.post,.post],[.dL,.post,.post,.post],[.pre,.pre,.post,.post],[.pre,.pre,.pre,.post]] χ ψ ?_)<;>simp only[go_sem,I])|refine⟨ae7,?_⟩|fail)
   all_goals simp[a3,bB,aE]
  rw[aG]at a3 bB;rw[bB]at aE
  try simp only[go_sem,bz]
  repeat'(first|((first|refine af.aj (by first|assumption|apply Wm|apply Ln) ?_|refine av.j ?_|refine a7 [[.post,.dL,.post,.post,.post],[.dL,.post,.dL,.post,.post],[.pre,.dL,.post,.post,.post],[.pre,.pre,.pre,.post,.post],[.pre,.pre,.pre,.pre,.post]] χ ψ ?_)<;>simp only[go_sem,I])|refine⟨ae7,?_⟩|fail)
  all_goals simp[a3,bB,aE]
 have ak:ly c true=c.eZ:=rfl;have ar:oO c true={c with eZ:=ry c.eZ}:=rfl;rw[ak]at a3 bB aE hL;rw[ar]at a3
 try simp only[go_sem,bz]
 repeat'((first|refine af.aj (by first|assumption|apply Wl) ?_|refine av.j ?_)<;>simp only[go_sem])
 cases aG:oP c.eZ
 ·rw[aG]at a3 bB;rw[bB]at aE
  try simp only[go_sem,b7]
  repeat'(first|((first|refine af.j ?_|refine av.j ?_|refine a7 [[.post,.dL,.post,.post],[.dL,.post,.post,.post],[.pre,.pre,.post,.post],[.pre,.pre,.pre,.post]] χ ψ ?_)<;>simp only[go_sem,I])|refine⟨ae7,?_⟩|fail)
  all_goals simp[a3,bB,aE]
 rw[aG]at a3 bB;rw[bB]at aE
 try simp only[go_sem,bz]
 repeat'(first|((first|refine af.aj (by first|assumption|apply Wm|apply Ln) ?_|refine av.j ?_|refine a7 [[.post,.dL,.post,.post,.post],[.dL,.post,.dL,.post,.post],[.pre,.dL,.post,.post,.post],[.pre,.pre,.pre,.post,.post],[.pre,.pre,.pre,.pre,.post]] χ ψ ?_)<;>simp only[go_sem,I])|refine⟨ae7,?_⟩|fail)
 all_goals simp[a3,bB,aE]
theorem agU{m:Nat}{c:J}(h:bW m c)(id:Int):bW m (zu c id):=by
 unfold zu;split
 ·rename_i hg;simp only[DT,bm]at hg;exact CW (id:=id) h (Aa hg.1) rfl ((h.aC id).G1 (aaF (h.aC id).snd))
 exact h
theorem agX{m:Nat}{c:J}(h:bW m c)(id:Int)(t:List UInt8):bW m (mw c id t):=by
 unfold mw;split
 ·rename_i hg;exact CW (id:=id) (s:={aC c id with cI:=AO (aC c id).cI t}) h (Aa hg) rfl ((h.aC id).same rfl rfl)
 exact h
theorem NH(c:J)(u:Bool):(oO c u).aa=c.aa/\(oO c u).ai=c.ai:=by unfold oO;split<;>exact⟨rfl,rfl⟩
theorem agS{m:Nat}{c:J}(h:bW m c)(u:Bool):bW m (l8 c u):=by
 unfold l8;obtain⟨eP,gl⟩:=NH c u;split
 ·rename_i hg;split
  ·simp only[xi,bm,ab_,eC]at hg;have hl:=Lv c.aa (hN c.bq (rz (p0 (ly c u)) c.bq u) c.own c.cP);refine⟨by simp only;omega,λx hx=>?_,by simp only[gl];exact h.sG,by simp only[gl];exact h.hY⟩;rcases zw hx with hx|rfl
   ·exact h.i7 x hx
   exact aaK m _ _ _ _
  exact h.same eP gl
 exact h
inductive p7(c:J):J->Prop
 |same:p7 c c
 |F3 (u:Bool):p7 c (l8 c u)
 |LX (id:Int) (d:List UInt8) (h:d.length<=8):p7 c (my c id d)
 |aS (id:Int):p7 c (zu c id)
 |fa (id k:Int):p7 c (mD c id k)
 |LY (id k:Int):p7 c (mx c id k)
 |LZ (id:Int) (t:List UInt8):p7 c (mw c id t)
 |em (b:Int):p7 c (j_ c b)
 |hf (f:al) (h:f.data.length<=8) (aG:0<=f.aP/\f.aP<=900):p7 c (rI c f)
 |L0 (n:Int):p7 c (g0 c n)
 |L1 (n:Int):p7 c (hK c n)
theorem agR{m:Nat}{x y:J}(h:bW m x)(hm:m<=1000)(hs:p7 x y):bW (m+1) y:=by
 cases hs with
 |same=>exact h.mono ω
 |F3 u=>exact agS (h.mono ω) u
 |LX id d hd=>exact agT h id hd
 |aS id=>exact(agU h id).mono ω
 |fa id k=>exact(agV h id k).mono ω
 |LY id k=>exact(agW h id k).mono ω
 |LZ id t=>exact(agX h id t).mono ω
 |em b=>exact agY h hm b
 |hf f hd aG=>exact agZ h hd aG
 |L0 n=>exact(It h n).mono ω
 |L1 n=>exact(QJ h n).mono ω
inductive rB:Nat->J->Prop
 |new (v:Bool) (o p:e5):rB 0 (rC v o p)
 |step {k:Nat} {x y:J}:rB k x->p7 x y->rB (k+1) y
theorem rB.mono{k j:Nat}{x:J}(h:rB k x)(hk:k<=j):rB j x:=by
 obtain⟨d,rfl⟩:=aAJ hk;clear hk
 induction d with
 |zero=>exact h
 |succ d c_=>exact c_.step .same
theorem rB.pf{k:Nat}{x:J}(h:rB k x)(hk:k<=1000):bW k x:=by
 induction h with
 |new v o p=>exact ag0 v o p
 |step _ hs c_=>exact agR (c_ ω) ω hs
def qv(y:J):Prop:=∃x a b c d,rB 14 x/\y={x with cX:=a,dA:=b,cn:={x.cn with dV:=c},bU:=d}
theorem qv.pf{y:J}(h:qv y):bW 14 y:=by
 obtain⟨x,a,b,c,d,h,rfl⟩:=h;exact(h.pf ω).same rfl rfl
theorem Wu(bs:List Int)(hm:bs.length<=maxLen)(i:Nat)(h:Int)(pre bM:List H)(kv:List V)(n:Nat)(hn:pre.length+(bM.length+1)=n)(hr:e4 n pre/\e4 n bM)(b':b3 n kv)(K:V->List H->Prop)(hi:i<=bs.length)
  (hk:∀(eL:Nat) (h':Int) (c:e5),eL<=bs.length->K (.agg (e5.bx c)) (pre++eM bs eL h'::bM)):et prog 180 kv (pre++eM bs i h::bM) [.ptr pre.length 0 0] K:=by
 have aS:∀(eL:Nat) (h':Int) (c:e5) (ex:List H),eL<=bs.length->x' kv K (.agg (e5.bx c)) (pre++eM bs eL h'::(bM++ex)):=by
  intro eL h' c ex fw;subst hn;exact⟨pv (pre.length+(bM.length+1)),.agg (e5.bx c),pre++eM bs eL h'::bM,LI hr b' (by simp only[e5.bx,vsees,vsee,ren,rens,and_true]) (by simp[b3,vok]),hk eL h' c fw⟩
 refine et.xc ?_;refine(gi (n:=19) (rs:=[.cell 2 25]) func180 rfl call180 bE rfl rfl ?_);simp only[go_sem,lC,g4];refine af.intro agJ ?_;simp only[go_sem,g4,gq];refine af.inl (nE bs hm i h pre (bM++[.box e5.ca,.box (e5.bx FY)]) _ 3 ω ω _ hi λhE h1 x1 cA eH c1=>?_);simp only[go_sem];refine bX (λq=>?_) (λq=>?_)
 ·simp only[go_sem,g4,gq,iA,jQ];exact aS hE h1 {FY with aB:=8,bL:=4,cn:=6,mz:=1} _ cA
 simp only[go_sem];refine bX (λbO=>?_) (λbO=>?_)
 ·simp only[go_sem,g4,gq,iA,jQ];exact aS hE h1 {FY with mz:=3,fG:=1,eU:=2} _ cA
 simp only[go_sem,g4,gq,iA,jQ];exact aS hE h1 FY _ cA
theorem agK(bs:List Int)(hm:bs.length<=maxLen)(i:Nat)(h:Int)(pre bM:List H)(kv:List V)(n:Nat)(hn:pre.length+(bM.length+1)=n)(hr:e4 n pre/\e4 n bM)(b':b3 n kv)(K:V->List H->Prop)(hi:i<=bs.length)
  (hk:∀(eL:Nat) (h':Int) (f:al),eL<=bs.length->f.data.length<=6->0<=f.aP->f.aP<=11->K (.agg (al.bx f)) (pre++eM bs eL h'::bM)):et prog 232 kv (pre++eM bs i h::bM) [.ptr pre.length 0 0] K:=by
 have aS:∀(eL:Nat) (h':Int) (f:al) (ex:List H),eL<=bs.length->f.data.length<=6->0<=f.aP->f.aP<=11->x' kv K (.agg (al.bx f)) (pre++eM bs eL h'::(bM++ex)):=by
  intro eL h' f ex fw b5 b8 dI;subst hn;exact⟨pv (pre.length+(bM.length+1)),.agg (al.bx f),pre++eM bs eL h'::bM,LI hr b' (by simp only[al.bx,vsees,vsee,ren,rens,and_true]) (by simp[b3,vok]),hk eL h' f fw b5 b8 dI⟩
 have Ih:∀l:List H,e4 (pre.length+((bM++l).length+1)) l->e4 (pre.length+((bM++l).length+1)) pre/\e4 (pre.length+((bM++l).length+1)) (bM++l):=by
  intro l hl;have e:n<=pre.length+((bM++l).length+1):=by simp only[eh];omega
  exact⟨DZ e hr.1,Ie (DZ e hr.2) hl⟩
 have agL:∀k,n<=k->b3 k kv:=λk hk=>qw hk _ b';refine et.xc ?_;refine(gi (n:=34) (rs:=[.cell 2 56]) func232 rfl call232 bE rfl rfl ?_);simp only[go_sem,lC,g4,gq];refine af.inl (HL bs hm i h pre (bM++[.box al.ca,.ay 1 ([4,5,8,8,8,8,16,17,18,20,21,22].map bg) true]) _ (bM.length+1) [4,5,8,8,8,8,16,17,18,20,21,22] (by rw[gq];rfl) ζ ζ _ hi λhE h1 x1 cA eH=>?_);simp only[go_sem,g4,gq];refine af.inl (nE bs hm hE h1 pre (bM++[.box al.ca,.ay 1 ([4,5,8,8,8,8,16,17,18,20,21,22].map bg) true,.box [.i x1,.i 0,.i 0,.d (.str []),.d (.bool false),.i 0,.i 0,.i 0,.d (.bool false)]]) _ 8 ω ω _ cA λfT h2 x2 db eG cW=>?_);simp only[go_sem,g4,gq];refine af.inl (nE bs hm fT h2 pre (bM++[.box al.ca,.ay 1 ([4,5,8,8,8,8,16,17,18,20,21,22].map bg) true,.box [.i x1,.i x2,.i 0,.d (.str []),.d (.bool false),.i 0,.i 0,.i 0,.d (.bool false)]]) _ 12 ω ω _ db λgR ao jz c0 eX gn=>?_);simp only[go_sem,g4,gq];refine af.lp [0,2,3] (by simp only[i3,arE,am_,Nat.reduceBEq,Nat.reduceAdd,d4,eF];rfl) (Xb bs hm gR ao pre (bM++[.box al.ca,.ay 1 ([4,5,8,8,8,8,16,17,18,20,21,22].map bg) true,.box [.i x1,.i x2,.i jz,.d (.str []),.d (.bool false),.i 0,.i 0,.i 0,.d (.bool false)]]) _ 6 (Ih _ (by simp[e4,eN,b3,vok])) (by
  simp only[eh,e0,g1,cx,cv,b3,vok,true_and];have hq:=agL (pre.length+(bM.length+(0+1+1+1)+1)) ω;simp only[hq,and_true];omega) ω _ c0 λnj aH eW eo lf=>?_)
 simp only[go_sem,g4,gq];refine af.inl (B2 bs hm nj aH pre (bM++[.box al.ca,.ay 1 ([4,5,8,8,8,8,16,17,18,20,21,22].map bg) true,.box [.i x1,.i x2,.i jz,.d (.str eW),.d (.bool false),.i 0,.i 0,.i 0,.d (.bool false)]]) _ 4 ω ω _ eo λH8 bR jS fr=>?_);simp only[go_sem,g4,gq];refine af.inl (nE bs hm H8 bR pre (bM++[.box al.ca,.ay 1 ([4,5,8,8,8,8,16,17,18,20,21,22].map bg) true,.box [.i x1,.i x2,.i jz,.d (.str eW),.d (.bool jS),.i 0,.i 0,.i 0,.d (.bool false)]]) _ 5 ω ω _ fr λLs eQ Cb fQ LU LV=>?_);simp only[go_sem,g4,gq];refine af.inl (nE bs hm Ls eQ pre (bM++[.box al.ca,.ay 1 ([4,5,8,8,8,8,16,17,18,20,21,22].map bg) true,.box [.i x1,.i x2,.i jz,.d (.str eW),.d (.bool jS),.i Cb,.i 0,.i 0,.d (.bool false)]]) _ 40 ω ω _ fQ λagM i' D4 f_ LW art=>?_);simp only[go_sem,g4,gq];refine af.inl (nE bs hm agM i' pre (bM++[.box al.ca,.ay 1 ([4,5,8,8,8,8,16,17,18,20,21,22].map bg) true,.box [.i x1,.i x2,.i jz,.d (.str eW),.d (.bool jS),.i Cb,.i D4,.i 0,.d (.bool false)]]) _ 14 ω ω _ f_ λi8 dK FZ gk F1 aru=>?_);simp only[go_sem,g4,gq];refine af.inl (B2 bs hm i8 dK pre (bM++[.box al.ca,.ay 1 ([4,5,8,8,8,8,16,17,18,20,21,22].map bg) true,.box [.i x1,.i x2,.i jz,.d (.str eW),.d (.bool jS),.i Cb,.i D4,.i FZ,.d (.bool false)]]) _ 2 ω ω _ gk λagN m1 AY gP=>?_);simp only[go_sem,g4,gq];refine af.intro (Xu x1 x2 jz eW jS Cb D4 FZ AY) ?_;simp only[go_sem,g4,gq,iA,jQ];have hu:(jj ⟨x1,x2,jz,eW,jS,Cb,D4,FZ,AY⟩).data.length<=6:=by simp only[jj];split<;>first|exact lf|simp
 have Is:0<=(jj ⟨x1,x2,jz,eW,jS,Cb,D4,FZ,AY⟩).aP/\(jj ⟨x1,x2,jz,eW,jS,Cb,D4,FZ,AY⟩).aP<=11:=by simp only[jj];split<;>omega
 exact aS agN m1 (jj ⟨x1,x2,jz,eW,jS,Cb,D4,FZ,AY⟩) _ gP hu Is.1 Is.2
theorem af5(s:Bool)(NR NS NT NU NV NW NX NY NZ N0 N1 N2 N3 N4 N5 N6:Int):aM 179 [.one (.bool s),.agg [.i NR,.i NS,.i NT,.i NU,.i NV,.i NW,.i NX,.i NY],.agg [.i NZ,.i N0,.i N1,.i N2,.i N3,.i N4,.i N5,.i N6]] [.agg (J.enc (rC s (⟨NR,NS,NT,NU,NV,NW,NX,NY⟩:e5) (⟨NZ,N0,N1,N2,N3,N4,N5,N6⟩:e5))),.one (.bool (iz (⟨NR,NS,NT,NU,NV,NW,NX,NY⟩:e5)&&iz (⟨NZ,N0,N1,N2,N3,N4,N5,N6⟩:e5)))]:=by
 refine aW 85 func179 call179 [.cell 6 37,.tmp 7] ?_;intro _
 try simp only[go_sem]
 repeat'((first|refine af.intro (by first|apply H'|apply abo|apply abp|apply amz|apply amA) ?_|refine av.intro (by apply H') ?_|apply bo|refine bX (λh=>?_) (λh=>?_))<;>simp only[go_sem])
 all_goals(cases h1:iz (⟨NR,NS,NT,NU,NV,NW,NX,NY⟩:e5)<;>cases h2:iz (⟨NZ,N0,N1,N2,N3,N4,N5,N6⟩:e5)<;>simp_all [rC])
theorem Vl{S:List Bool}(h:S.length=9):∃fE cA db c0 eo fr fQ f_ gk,S=[fE,cA,db,c0,eo,fr,fQ,f_,gk]:=by
 match S,h with|[fE,cA,db,c0,eo,fr,fQ,f_,gk],_=>exact⟨fE,cA,db,c0,eo,fr,fQ,f_,gk,rfl⟩
theorem Vm{S:List Bool}(h:S.length=10):∃fE cA db c0 eo fr fQ f_ gk gP,S=[fE,cA,db,c0,eo,fr,fQ,f_,gk,gP]:=by
 match S,h with|[fE,cA,db,c0,eo,fr,fQ,f_,gk,gP],_=>exact⟨fE,cA,db,c0,eo,fr,fQ,f_,gk,gP,rfl⟩
theorem aeJ{S:List Bool}(h:S.length=11):∃fE cA db c0 eo fr fQ f_ gk gP ib,S=[fE,cA,db,c0,eo,fr,fQ,f_,gk,gP,ib]:=by
 match S,h with|[fE,cA,db,c0,eo,fr,fQ,f_,gk,gP,ib],_=>exact⟨fE,cA,db,c0,eo,fr,fQ,f_,gk,gP,ib,rfl⟩
def k'(y:J):List H:=[.azx y.aa,.azw y.ai]
def kg(y:J)(a:Nat):V:=.agg (J.a2 y (.sl a 0 y.aa.length) (.sl (a+1) 0 y.ai.length))
def O9(K:V->List H->Prop):V->List H->Prop:=λx hs'=>K x hs'\/∃id sz xs,a6 hs' id=.aj sz xs/\K x (cF hs' id (.ay sz xs true))
theorem Az{kv:List V}(b':b3 5 kv)(y:J)(a:Nat)(ha:5<=a){cV c bO cz df:H}(hq:e4 5 [cV,c,bO,cz,df]){ex:List H}{K:V->List H->Prop}(ak:a6 (cV::c::bO::cz::df::ex) a=.aj 39 (y.aa.map ae.enc))(ar:a6 (cV::c::bO::cz::df::ex) (a+1)=.aj 2 (y.ai.map aL.enc))
  (cg:K (kg y 5) ([cV,c,bO,cz,df]++k' y)):x' kv (O9 (O9 K)) (kg y a) (cV::c::bO::cz::df::ex):=by
 refine⟨pv 5++[a,a+1],kg y 5,[cV,c,bO,cz,df]++[H.aj 39 (y.aa.map ae.enc),H.aj 2 (y.ai.map aL.enc)],?_,Or.inr ⟨5,39,_,rfl,Or.inr ⟨6,2,_,rfl,cg⟩⟩⟩;refine P2 (hs:=[cV,c,bO,cz,df]) (ex:=ex) [a,a+1] ξ (by simp;omega) hq ?_ (by simp[oQ,hok]) b' ?_ ?_
 ·simp only[cx,cv,hsees,ak,ar];simp[hsee]
 ·simp[kg,vsees,vsee,ren,rens,pv,asU]
 simp[kg,b3,vok]
theorem Vn{kv:List V}(b':b3 5 kv)(x:J){cV c bO cz df:H}(hq:e4 5 [cV,c,bO,cz,df]){ex:List H}{K:V->List H->Prop}(cg:K (kg x 5) ([cV,c,bO,cz,df]++k' x)) :
  x' kv (O9 (O9 K)) (kg x 5) (cV::c::bO::cz::df::.azx x.aa::.azw x.ai::ex):=by
 have hr:e4 7 ([cV,c,bO,cz,df]++k' x):=Ie (DZ (m:=5) (n:=7) ω hq) (by simp[k',e4,eN]);refine⟨pv 7,kg x 5,[cV,c,bO,cz,df]++k' x,?_,Or.inl (Or.inl cg)⟩;refine Fx (hs:=[cV,c,bO,cz,df]++k' x) (ex:=ex) hr (qw (by simp[k']) _ b') ?_ ?_
 ·simp[kg,k',vsees,vsee,ren,rens,pv,asU]
 simp[kg,k',b3,vok]
def K1(cV c bO cz df:H)(x:J):List H:=[cV,c,bO,cz,df,.azx x.aa,.azw x.ai,.azG x 5 6,.box J.ca]
def Vo(bs:List Int)(cV bO cz df:H)(x:J)(id:Int)(i:Nat)(h:Int)(z:Nat×Int)(S:List Bool):St:=⟨(.ptr 1 0 0::.agg (J.a2 x (.sl 5 0 x.aa.length) (.sl 6 0 x.ai.length))::.an::.ptr 7 0 0::.ptr 8 0 0::(bif S.getD 10 false then .i z.2 else .i id)::aA 5 (.ptr 7 0 17::.sl 5 0 x.aa.length::.i x.aa.length::.d (.bool true)::(aK S 0 (.ptr 7 0 17))::(aK S 1 (.sl 5 0 x.aa.length))::(aK S 2 (.ptr 1 0 0))::(aK S 3 (.ptr 7 0 17))::(aK S 4 (.sl 5 0 x.aa.length))::(aK S 5 (.i x.aa.length))::(aK S 6 (.i z.1))::(aK S 7 (.ptr 5 z.1 0))::(aK S 8 (.ptr 5 z.1 0))::(aK S 9 (.i z.2))::aA 122 [])),[cV,eM bs i h,bO,cz,df,.azx x.aa,.azw x.ai,.azG x 5 6,.box J.ca]⟩
def Vp(bs:List Int)(cV bO cz df:H)(x:J)(id:Int)(i:Nat)(h:Int)(z:Bool)(S:List Bool):St:=⟨(.ptr 1 0 0::.an::.an::.ptr 7 0 0::.ptr 8 0 0::.i id::.ptr 9 0 0::aA 18 (.agg (J.a2 x (.sl 5 0 x.aa.length) (.sl 6 0 x.ai.length))::.ptr 1 0 0::.i 0::.d (.bool true)::.d (.bool true)::(aK S 4 (.e8 [.i (sx x z),.agg (J.a2 (l8 x z) (.sl 10 0 (l8 x z).aa.length) (.sl 11 0 (l8 x z).ai.length)),.d (.bool (yj x z))]))::(aK S 0 (.agg (J.a2 x (.sl 5 0 x.aa.length) (.sl 6 0 x.ai.length))))::(aK S 1 (.ptr 1 0 0))::(aK S 2 (.d (.bool z)))::(aK S 3 (.e8 [.i (sx x z),.agg (J.a2 (l8 x z) (.sl 10 0 (l8 x z).aa.length) (.sl 11 0 (l8 x z).ai.length)),.d (.bool (yj x z))]))::(aK S 5 (.i (sx x z)))::(aK S 6 (.agg (J.a2 (l8 x z) (.sl 10 0 (l8 x z).aa.length) (.sl 11 0 (l8 x z).ai.length))))::(aK S 7 (.d (.bool (yj x z))))::aA 109 [])),[cV,eM bs i h,bO,cz,df,.azx x.aa,.azw x.ai,.azG x 5 6,.box J.ca,(bif S.getD 8 false then .box (J.a2 (l8 x z) (.sl 10 0 (l8 x z).aa.length) (.sl 11 0 (l8 x z).ai.length))else .azG x 5 6)]++(bif S.getD 3 false then [.aj 39 ((l8 x z).aa.map ae.enc),.aj 2 ((l8 x z).ai.map aL.enc)]else [])⟩
def O_(bs:List Int)(cV bO cz df:H)(x:J)(id:Int)(Vq aqJ aqK:V)(i:Nat)(h:Int)(z:List UInt8)(S:List Bool):St:=⟨(.ptr 1 0 0::.an::.an::.ptr 7 0 0::.ptr 8 0 0::.i id::.ptr 9 0 0::aA 18 (.agg (J.a2 x (.sl 5 0 x.aa.length) (.sl 6 0 x.ai.length))::.ptr 1 0 0::Vq::.d (.bool false)::.d (.bool false)::aA 8 (.d (.bool true)::aqJ::aqK::(aK S 5 (.e8 [.i (H4 x id z),.agg (J.a2 (my x id z) (.sl 10 0 (my x id z).aa.length) (.sl 11 0 (my x id z).ai.length))]))::(aK S 0 (.agg (J.a2 x (.sl 5 0 x.aa.length) (.sl 6 0 x.ai.length))))::(aK S 1 (.i id))::(aK S 2 (.ptr 1 0 0))::(aK S 3 (.d (.str z)))::(aK S 4 (.e8 [.i (H4 x id z),.agg (J.a2 (my x id z) (.sl 10 0 (my x id z).aa.length) (.sl 11 0 (my x id z).ai.length))]))::(aK S 6 (.i (H4 x id z)))::(aK S 7 (.agg (J.a2 (my x id z) (.sl 10 0 (my x id z).aa.length) (.sl 11 0 (my x id z).ai.length))))::aA 98 []))),[cV,eM bs i h,bO,cz,df,.azx x.aa,.azw x.ai,.azG x 5 6,.box J.ca,(bif S.getD 8 false then .box (J.a2 (my x id z) (.sl 10 0 (my x id z).aa.length) (.sl 11 0 (my x id z).ai.length))else .azG x 5 6)]++(bif S.getD 4 false then [.aj 39 ((my x id z).aa.map ae.enc),.aj 2 ((my x id z).ai.map aL.enc)]else [])⟩
def Vr(bs:List Int)(cV bO cz df:H)(x:J)(id:Int)(i:Nat)(h z:Int)(S:List Bool):St:=⟨(.ptr 1 0 0::.an::.an::.ptr 7 0 0::.ptr 8 0 0::.i id::.ptr 9 0 0::aA 18 (.agg (J.a2 x (.sl 5 0 x.aa.length) (.sl 6 0 x.ai.length))::.ptr 1 0 0::.i 4::.d (.bool false)::.d (.bool false)::aA 8 (.d (.bool false)::.d (.bool false)::.d (.bool false)::aA 8 (.d (.bool false)::.d (.bool false)::aA 8 (.d (.bool true)::.d (.bool true)::(aK S 5 (.e8 [.d (.str (JQ x id z)),.d (.bool (JR x id z)),.agg (J.a2 (mD x id z) (.sl 10 0 (mD x id z).aa.length) (.sl 11 0 (mD x id z).ai.length))]))::(aK S 0 (.agg (J.a2 x (.sl 5 0 x.aa.length) (.sl 6 0 x.ai.length))))::(aK S 1 (.i id))::(aK S 2 (.ptr 1 0 0))::(aK S 3 (.i z))::(aK S 4 (.e8 [.d (.str (JQ x id z)),.d (.bool (JR x id z)),.agg (J.a2 (mD x id z) (.sl 10 0 (mD x id z).aa.length) (.sl 11 0 (mD x id z).ai.length))]))::(aK S 6 (.d (.str (JQ x id z))))::(aK S 7 (.d (.bool (JR x id z))))::(aK S 8 (.agg (J.a2 (mD x id z) (.sl 10 0 (mD x id z).aa.length) (.sl 11 0 (mD x id z).ai.length))))::aA 77 []))))),[cV,eM bs i h,bO,cz,df,.azx x.aa,.azw x.ai,.azG x 5 6,.box J.ca,(bif S.getD 9 false then .box (J.a2 (mD x id z) (.sl 10 0 (mD x id z).aa.length) (.sl 11 0 (mD x id z).ai.length))else .azG x 5 6)]++(bif S.getD 4 false then [.aj 39 ((mD x id z).aa.map ae.enc),.aj 2 ((mD x id z).ai.map aL.enc)]else [])⟩
def Vs(bs:List Int)(cV bO cz df:H)(x:J)(id:Int)(i:Nat)(h z:Int)(S:List Bool):St:=⟨(.ptr 1 0 0::.an::.an::.ptr 7 0 0::.ptr 8 0 0::.i id::.ptr 9 0 0::aA 18 (.agg (J.a2 x (.sl 5 0 x.aa.length) (.sl 6 0 x.ai.length))::.ptr 1 0 0::.i 5::.d (.bool false)::.d (.bool false)::aA 8 (.d (.bool false)::.d (.bool false)::.d (.bool false)::aA 8 (.d (.bool false)::.d (.bool false)::aA 8 (.d (.bool false)::.d (.bool false)::aA 9 (.d (.bool true)::.d (.bool true)::.ptr 1 0 0::.d (.bool true)::(aK S 5 (.e8 [.agg (J.a2 (mx x id z) (.sl 10 0 (mx x id z).aa.length) (.sl 11 0 (mx x id z).ai.length)),.d (.bool (zv x id z))]))::(aK S 0 (.agg (J.a2 x (.sl 5 0 x.aa.length) (.sl 6 0 x.ai.length))))::(aK S 1 (.i id))::(aK S 2 (.ptr 1 0 0))::(aK S 3 (.i z))::(aK S 4 (.e8 [.agg (J.a2 (mx x id z) (.sl 10 0 (mx x id z).aa.length) (.sl 11 0 (mx x id z).ai.length)),.d (.bool (zv x id z))]))::(aK S 6 (.agg (J.a2 (mx x id z) (.sl 10 0 (mx x id z).aa.length) (.sl 11 0 (mx x id z).ai.length))))::(aK S 7 (.d (.bool (zv x id z))))::aA 65 [])))))),[cV,eM bs i h,bO,cz,df,.azx x.aa,.azw x.ai,.azG x 5 6,.box J.ca,(bif S.getD 8 false then .box (J.a2 (mx x id z) (.sl 10 0 (mx x id z).aa.length) (.sl 11 0 (mx x id z).ai.length))else .azG x 5 6)]++(bif S.getD 4 false then [.aj 39 ((mx x id z).aa.map ae.enc),.aj 2 ((mx x id z).ai.map aL.enc)]else [])⟩
def Vt(bs:List Int)(cV bO cz df:H)(x:J)(id:Int)(i:Nat)(h:Int)(z:List UInt8)(S:List Bool):St:=⟨(.ptr 1 0 0::.an::.an::.ptr 7 0 0::.ptr 8 0 0::.i id::.ptr 9 0 0::aA 18 (.agg (J.a2 x (.sl 5 0 x.aa.length) (.sl 6 0 x.ai.length))::.ptr 1 0 0::.i 5::.d (.bool false)::.d (.bool false)::aA 8 (.d (.bool false)::.d (.bool false)::.d (.bool false)::aA 8 (.d (.bool false)::.d (.bool false)::aA 8 (.d (.bool false)::.d (.bool false)::aA 9 (.d (.bool true)::.d (.bool true)::.ptr 1 0 0::.d (.bool false)::aA 8 ((aK S 6 (.e8 [.agg (J.a2 (mw x id z) (.sl 11 0 (mw x id z).aa.length) (.sl 12 0 (mw x id z).ai.length)),.d (.bool (mv x id))]))::(aK S 0 (.agg (J.a2 x (.sl 5 0 x.aa.length) (.sl 6 0 x.ai.length))))::(aK S 1 (.i id))::(aK S 2 (.ptr 1 0 0))::(aK S 3 (.sl 10 0 3))::(aK S 4 (.d (.str z)))::(aK S 5 (.e8 [.agg (J.a2 (mw x id z) (.sl 11 0 (mw x id z).aa.length) (.sl 12 0 (mw x id z).ai.length)),.d (.bool (mv x id))]))::(aK S 7 (.agg (J.a2 (mw x id z) (.sl 11 0 (mw x id z).aa.length) (.sl 12 0 (mw x id z).ai.length))))::(aK S 8 (.d (.bool (mv x id))))::aA 56 []))))))),[cV,eM bs i h,bO,cz,df,.azx x.aa,.azw x.ai,.azG x 5 6,.box J.ca,(bif S.getD 9 false then .box (J.a2 (mw x id z) (.sl 11 0 (mw x id z).aa.length) (.sl 12 0 (mw x id z).ai.length))else .azG x 5 6)]++(bif S.getD 3 false then [.ay 1 ([[117,61,49],[105],[117,61,53,44,32,105]].map oS) true]else [])++(bif S.getD 5 false then [.aj 39 ((mw x id z).aa.map ae.enc),.aj 2 ((mw x id z).ai.map aL.enc)]else [])⟩
def O'(bs:List Int)(cV bO cz df:H)(x:J)(id:Int)(Vq aqL aqM:V)(i:Nat)(h z:Int)(S:List Bool):St:=⟨(.ptr 1 0 0::.an::.an::.ptr 7 0 0::.ptr 8 0 0::.i id::.ptr 9 0 0::aA 18 (.agg (J.a2 x (.sl 5 0 x.aa.length) (.sl 6 0 x.ai.length))::.ptr 1 0 0::Vq::.d (.bool false)::.d (.bool false)::aA 8 (.d (.bool false)::.d (.bool false)::.d (.bool false)::aA 8 (.d (.bool false)::.d (.bool false)::aA 8 (.d (.bool false)::.d (.bool false)::aA 9 (.d (.bool false)::.d (.bool false)::aA 19 (.d (.bool true)::aqL::aqM::(aK S 5 (.e8 [.d (.str (zJ x (i64.wrap (8+z)))),.i (qN x (i64.wrap (8+z))),.agg (J.a2 (j_ x (i64.wrap (8+z))) (.sl 10 0 (j_ x (i64.wrap (8+z))).aa.length) (.sl 11 0 (j_ x (i64.wrap (8+z))).ai.length))]))::(aK S 0 (.agg (J.a2 x (.sl 5 0 x.aa.length) (.sl 6 0 x.ai.length))))::(aK S 1 (.ptr 1 0 0))::(aK S 2 (.i z))::(aK S 3 (.i (i64.wrap (8+z))))::(aK S 4 (.e8 [.d (.str (zJ x (i64.wrap (8+z)))),.i (qN x (i64.wrap (8+z))),.agg (J.a2 (j_ x (i64.wrap (8+z))) (.sl 10 0 (j_ x (i64.wrap (8+z))).aa.length) (.sl 11 0 (j_ x (i64.wrap (8+z))).ai.length))]))::(aK S 6 (.d (.str (zJ x (i64.wrap (8+z))))))::(aK S 7 (.i (qN x (i64.wrap (8+z)))))::(aK S 8 (.agg (J.a2 (j_ x (i64.wrap (8+z))) (.sl 10 0 (j_ x (i64.wrap (8+z))).aa.length) (.sl 11 0 (j_ x (i64.wrap (8+z))).ai.length))))::aA 44 []))))))),[cV,eM bs i h,bO,cz,df,.azx x.aa,.azw x.ai,.azG x 5 6,.box J.ca,(bif S.getD 9 false then .box (J.a2 (j_ x (i64.wrap (8+z))) (.sl 10 0 (j_ x (i64.wrap (8+z))).aa.length) (.sl 11 0 (j_ x (i64.wrap (8+z))).ai.length))else .azG x 5 6)]++(bif S.getD 4 false then [.aj 39 ((j_ x (i64.wrap (8+z))).aa.map ae.enc),.aj 2 ((j_ x (i64.wrap (8+z))).ai.map aL.enc)]else [])⟩
def Vu(bs:List Int)(cV bO cz df:H)(x:J)(id:Int)(i:Nat)(h:Int)(z:Nat×Int)(S:List Bool):St:=⟨(.ptr 1 0 0::.an::.an::.ptr 7 0 0::.ptr 8 0 0::.i id::.ptr 9 0 0::aA 3 ((aK S 10 (.i z.2))::aA 14 (.agg (J.a2 x (.sl 5 0 x.aa.length) (.sl 6 0 x.ai.length))::.ptr 1 0 0::.i 9::.d (.bool false)::.d (.bool false)::aA 8 (.d (.bool false)::.d (.bool false)::.d (.bool false)::aA 8 (.d (.bool false)::.d (.bool false)::aA 8 (.d (.bool false)::.d (.bool false)::aA 9 (.d (.bool false)::.d (.bool false)::aA 19 (.d (.bool false)::.d (.bool false)::.d (.bool false)::aA 9 (.d (.bool false)::.d (.bool false)::aA 11 (.d (.bool true)::.d (.bool true)::.ptr 7 0 47::.sl 6 0 x.ai.length::.i x.ai.length::.d (.bool true)::(aK S 0 (.ptr 7 0 47))::(aK S 1 (.sl 6 0 x.ai.length))::(aK S 2 (.ptr 1 0 0))::(aK S 3 (.ptr 7 0 47))::(aK S 4 (.sl 6 0 x.ai.length))::(aK S 5 (.i x.ai.length))::(aK S 6 (.i z.1))::(aK S 7 (.ptr 6 z.1 0))::(aK S 8 (.ptr 6 z.1 0))::(aK S 9 (.i z.2))::aA 15 [])))))))))),[cV,eM bs i h,bO,cz,df,.azx x.aa,.azw x.ai,.azG x 5 6,.box J.ca,.azG x 5 6]⟩
theorem af6(bs:List Int)(hm:bs.length<=maxLen)(i:Nat)(h:Int)(x:J)(m:Nat)(hv:bW m x)(ay7:m<=18)(cV bO cz df:H)(hq:eN 5 cV/\eN 5 bO/\eN 5 cz/\eN 5 df)(kv:List V)(b':b3 5 kv)(K:V->List H->Prop)(hi:i<=bs.length)
  (hk:∀(eL:Nat) (h':Int) (y:J),eL<=bs.length->p7 x y->K (kg y 5) ([cV,eM bs eL h',bO,cz,df]++k' y)):et prog 181 kv ([cV,eM bs i h,bO,cz,df]++k' x) [.ptr 1 0 0,kg x 5] K:=by
 have hz:=hv.sz ω;have ay8:=hv.nL;have WB:=hv.sG;have sh:∀(eL:Nat) (h':Int),e4 5 [cV,eM bs eL h',bO,cz,df]:=λeL h'=>⟨hq.1,by simp[eM,eN,b3,vok],hq.2.1,hq.2.2.1,hq.2.2.2,trivial⟩;have Mw:∀ts:List V,b3 10 ts->b3 10 (ts++kv):=λts h=>HK h (qw ω kv b');have Pa:eN 10 cV/\eN 10 bO/\eN 10 cz/\eN 10 df:=⟨rk ω _ hq.1,rk ω _ hq.2.1,rk ω _ hq.2.2.1,rk ω _ hq.2.2.2⟩;refine et.look ?_;refine et.look ?_;refine et.xc ?_;refine(Q5 (n:=147) (rs:=[.cell 4 37]) func181 rfl call181 rfl rfl ?_);simp only[k',kg,cx,cv];have aeK:∀(eL:Nat) (h':Int) (ts ts':List V),vsees (pv 9) ts' ts->b3 9 ts'->lz kv (pv 9) ⟨ts,K1 cV (eM bs eL h') bO cz df x⟩ ⟨ts',K1 cV (eM bs eL h') bO cz df x⟩:=by
  intro eL h' ts ts' ak ar;have aqN:e4 9 (K1 cV (eM bs eL h') bO cz df x):=by
   have:=Ie (DZ (m:=5) (n:=9) ω (sh eL h')) (ys:=[.azx x.aa,.azw x.ai,.azG x 5 6,.box J.ca]) (by simp[e4,eN,b3,vok]);exact this
  exact Lt (hs:=K1 cV (eM bs eL h') bO cz df x) aqN (qw (by simp[K1]) kv b') ak ar
 refine eE bE 3 (α:=Nat×Int×Int) (λy=>⟨(.ptr 1 0 0::.an::.an::.ptr 7 0 0::.ptr 8 0 0::.i y.2.2::aA 141 []),[cV,eM bs y.1 y.2.1,bO,cz,df,.azx x.aa,.azw x.ai,.azG x 5 6,.box J.ca]⟩) (λy=>y.1<=bs.length) ?_ ?_
 ·simp only[go_sem];cases iZ:decide (0<(x.aa.length:Int))
  ·simp only[go_sem];refine cZ.intro (i,h,0) (pv 9) hi (aeK i h _ _ ?_ ?_)
   ·simp[vsees,vsee,ren,pv,asU]
   simp[b3,vok]
  simp only[go_sem];have Lk:=cY iZ;refine lM _ (mQ (λS σ=>∃i h z,i<=bs.length/\(z.1<x.aa.length/\((x.aa[z.1]?).getD n0).id=z.2)/\σ=Vo bs cV bO cz df x 0 i h z S) (N:=11) rfl rfl ⟨i,h,(0,((x.aa[0]?).getD n0).id),‹_›,by first|assumption|(simp;done)|exact⟨by omega,rfl⟩,rfl⟩ ?_) ?_
  ·repeat'(first|exact nC|refine nD ?_ ?_)
   all_goals(
    rintro S σ F hl a5 hp hcl ⟨jB,iO,z,fw,hc,rfl⟩ bG;obtain⟨jI,dW,cT,dS,eW,nb,nR,nS,nT,qu,xb,rfl⟩:=aeJ hl;simp only[nc,kf,cc]at a5;subst a5;simp[lN,Region.binds]at hp
    repeat(obtain⟨fh,hp⟩:=hp;subst fh)
    try subst hp
    have az:=b_ ae.enc x.aa z.1 hc.1;have mT:=hc.2;have hc1:=hc.1;rw[cy hc.1,kk]at mT;simp only[Vo,aK,gm,gh,d4,eF]
    repeat'(first
      |exact bG _ ⟨jB,iO,z,fw,hc,rfl⟩
      |(apply cG)
      |(apply dp)
      |(obtain rfl:=bZ (hcl 6 7 _ rfl ζ rfl);obtain rfl:=bZ (hcl 7 8 _ rfl ζ rfl);obtain rfl:=bZ (hcl 8 9 _ rfl ζ rfl);obtain rfl:=bZ (hcl 9 10 _ rfl ζ rfl);simp only[eF];refine af.inl (nE bs hm jB iO [cV] [bO,cz,df,.azx x.aa,.azw x.ai,.azG x 5 6,.box J.ca] _ (x.aa.length:Int) ω ω _ fw λgR ao jz c0 eX gn=>?_);obtain⟨dd,rfl⟩:=mU eX;simp only[go_sem,g9];exact bG _ ⟨_,_,(dd,((x.aa[dd]?).getD n0).id),‹_›,⟨ω,rfl⟩,rfl⟩)
      |(refine⟨⟨by omega,by omega⟩,?_⟩)
      |(refine⟨hc1,?_⟩)
      |simp only[go_sem,I,az,mT,ae.enc,aF]))
  rintro _ ⟨nj,aH,z,xq,hc,rfl⟩;simp only[Vo,ea,aK,gm,gh,d4];simp only[go_sem];refine cZ.intro (nj,aH,z.2) (pv 9) xq (aeK nj aH _ _ ?_ ?_)
  ·simp[vsees,vsee,ren,pv,asU]
  simp[b3,vok]
 rintro⟨hE,h1,id⟩ O0;simp only at O0;refine gJ bE ?_;simp only[go_sem];refine af.inl (nE bs hm hE h1 [cV] [bO,cz,df,.azx x.aa,.azw x.ai,.azG x 5 6,.box J.ca,.azG x 5 6] _ 10 ω ω _ O0 λfT h2 k db eG cW=>?_);have aeL:e4 10 [cV]/\e4 10 [bO,cz,df,.azx x.aa,.azw x.ai,.azG x 5 6,.box J.ca,.azG x 5 6]:=⟨⟨Pa.1,trivial⟩,Pa.2.1,Pa.2.2.1,Pa.2.2.2,by simp[e4,eN,b3,vok]⟩;obtain rfl|Vv|rfl|rfl|rfl|Vv|rfl|rfl:k=0\/(k=1\/k=2)\/k=3\/k=4\/k=5\/(k=6\/k=7)\/k=8\/k=9:=by omega
 ·skip
  have d0:decide ((0:Int)=0):=rfl;simp only[go_sem];have cM:∀b,_:=λb=>afU x b hz;refine lM _ (mQ (λS σ=>∃i h z,i<=bs.length/\(True)/\σ=Vp bs cV bO cz df x id i h z S) (N:=9) rfl rfl ⟨fT,h2,false,‹_›,by first|assumption|(simp;done)|exact⟨by omega,rfl⟩,rfl⟩ ?_) ?_
  ·repeat'(first|exact nC|refine nD ?_ ?_)
   all_goals(
    rintro S σ F hl a5 hp hcl ⟨jB,iO,z,fw,hc,rfl⟩ bG;obtain⟨jI,dW,cT,dS,eW,nb,nR,nS,nT,rfl⟩:=Vl hl;simp only[nc,kf,cc]at a5;subst a5;simp[lN,Region.binds]at hp
    repeat(obtain⟨fh,hp⟩:=hp;subst fh)
    try subst hp
    simp only[Vp,aK,gm,gh,d4,eF,cx,cv,ix]
    repeat'(first
      |exact bG _ ⟨jB,iO,z,fw,hc,rfl⟩
      |(apply cG)
      |(apply dp)
      |(obtain rfl:=bZ (hcl 2 3 _ rfl ζ rfl);obtain rfl:=bZ (hcl 3 4 _ rfl ζ rfl);obtain rfl:=bZ (hcl 4 5 _ rfl ζ rfl);obtain rfl:=bZ (hcl 4 6 _ rfl ζ rfl);obtain rfl:=bZ (hcl 4 7 _ rfl ζ rfl);obtain rfl:=bZ (hcl 6 8 _ rfl ζ rfl);simp only[eF];refine af.inl (B2 bs hm jB iO [cV] [bO,cz,df,.azx x.aa,.azw x.ai,.azG x 5 6,.box J.ca,.azG x 5 6] _ 2 ω ω _ fw λgR ao eX c0=>?_);simp only[go_sem,g9];exact bG _ ⟨_,_,eX,‹_›,by first|assumption|simp|(constructor<;>assumption),rfl⟩)
      |(refine af.aj (cM _) ?_)
      |simp only[go_sem,I,cx,cv]))
  rintro _ ⟨nj,aH,z,xq,hc,rfl⟩;simp only[Vp,ea,aK,gm,gh,d4,cx,cv];simp only[go_sem,cx,cv];exact Az b' _ 10 ω (sh _ _) rfl rfl (hk _ _ _ ‹_› (.F3 _))
 ·skip
  have aqO:decide ((1:Int)=0)=false:=rfl;have ay9:decide ((1:Int)=1):=rfl;have aqP:decide ((2:Int)=0)=false:=rfl;have aqQ:decide ((2:Int)=1)=false:=rfl;have aza:decide ((2:Int)=2):=rfl;have cM:∀d:List UInt8,d.length<=8->_:=λd hd=>afY x id d hz ω (((hv.aC id).mono (show m<=m+1 by omega)).G1 (by have:=aaE (hv.aC id).snd hd;rw[show(8 * (m+1:Nat):Int)=8 * m+8 from by omega];exact this) |>.sz ω);obtain rfl|rfl:=Vv
  all_goals simp only[go_sem,aqO,aqP,aqQ]
  all_goals(first|(refine lM _ (mQ (λS σ=>∃i h z,i<=bs.length/\(z.length<=8)/\σ=O_ bs cV bO cz df x id (.i 1) (.d (.bool true)) (.an) i h z S) (N:=9) rfl rfl ⟨fT,h2,[],‹_›,by first|assumption|(simp;done)|exact⟨by omega,rfl⟩,rfl⟩ ?_) ?_)|(refine lM _ (mQ (λS σ=>∃i h z,i<=bs.length/\(z.length<=8)/\σ=O_ bs cV bO cz df x id (.i 2) (.d (.bool false)) (.d (.bool true)) i h z S) (N:=9) rfl rfl ⟨fT,h2,[],‹_›,by first|assumption|(simp;done)|exact⟨by omega,rfl⟩,rfl⟩ ?_) ?_))
  all_goals(try(
   rintro _ ⟨nj,aH,z,xq,hc,rfl⟩;simp only[O_,ea,aK,gm,gh,d4,cx,cv];simp only[go_sem,cx,cv];exact Az b' _ 10 ω (sh _ _) rfl rfl (hk _ _ _ ‹_› (.LX _ _ hc))))
  all_goals(repeat'(first|exact nC|refine nD ?_ ?_))
  all_goals(
   rintro S σ F hl a5 hp hcl ⟨jB,iO,z,fw,hc,rfl⟩ bG;obtain⟨jI,dW,cT,dS,eW,nb,nR,nS,nT,rfl⟩:=Vl hl;simp only[nc,kf,cc]at a5;subst a5;simp[lN,Region.binds]at hp
   repeat(obtain⟨fh,hp⟩:=hp;subst fh)
   try subst hp
   simp only[O_,aK,gm,gh,d4,eF,cx,cv,ix]
   repeat'(first
     |exact bG _ ⟨jB,iO,z,fw,hc,rfl⟩
     |(apply cG)
     |(apply dp)
     |(obtain rfl:=bZ (hcl 3 4 _ rfl ζ rfl);obtain rfl:=bZ (hcl 4 5 _ rfl ζ rfl);obtain rfl:=bZ (hcl 5 6 _ rfl ζ rfl);obtain rfl:=bZ (hcl 5 7 _ rfl ζ rfl);obtain rfl:=bZ (hcl 7 8 _ rfl ζ rfl);simp only[eF];refine af.inl (Xb bs hm jB iO [cV] [bO,cz,df,.azx x.aa,.azw x.ai,.azG x 5 6,.box J.ca,.azG x 5 6] _ 8 aeL (Mw _ (by simp[b3,vok,PD])) ω _ fw λgR ao dS c0 dI=>?_);simp only[go_sem,g9];exact bG _ ⟨_,_,dS,‹_›,by first|assumption|simp|(constructor<;>assumption),rfl⟩)
     |(refine af.aj (cM _ hc) ?_)
     |simp only[go_sem,I,cx,cv]))
 ·skip
  have d0:decide ((3:Int)=0)=false:=rfl;have gB:decide ((3:Int)=1)=false:=rfl;have gC:decide ((3:Int)=2)=false:=rfl;have lr:decide ((3:Int)=3):=rfl;simp only[go_sem,d0,gB,gC];refine af.inl (B2 bs hm fT h2 [cV] [bO,cz,df,.azx x.aa,.azw x.ai,.azG x 5 6,.box J.ca,.azG x 5 6] _ 2 ω ω _ db λgR ao eX c0=>?_);cases eX
  ·simp only[go_sem,cx,cv];exact Vn b' _ (sh _ _) (hk _ _ _ ‹_› .same)
  have cM:=afP x id hz (((hv.aC id).G1 (aaF (hv.aC id).snd)).sz ω);simp only[go_sem,I];refine af.aj cM ?_;simp only[go_sem,I,cx,cv];exact Az b' _ 10 ω (sh _ _) rfl rfl (hk _ _ _ ‹_› (.aS _))
 ·skip
  have d0:decide ((4:Int)=0)=false:=rfl;have gB:decide ((4:Int)=1)=false:=rfl;have gC:decide ((4:Int)=2)=false:=rfl;have lr:decide ((4:Int)=3)=false:=rfl;have jv:decide ((4:Int)=4):=rfl;simp only[go_sem,d0,gB,gC,lr];have cM:∀k,_:=λk=>alg x id k m hv ω;refine lM _ (mQ (λS σ=>∃i h z,i<=bs.length/\(True)/\σ=Vr bs cV bO cz df x id i h z S) (N:=10) rfl rfl ⟨fT,h2,0,‹_›,by first|assumption|(simp;done)|exact⟨by omega,rfl⟩,rfl⟩ ?_) ?_
  ·repeat'(first|exact nC|refine nD ?_ ?_)
   all_goals(
    rintro S σ F hl a5 hp hcl ⟨jB,iO,z,fw,hc,rfl⟩ bG;obtain⟨jI,dW,cT,dS,eW,nb,nR,nS,nT,qu,rfl⟩:=Vm hl;simp only[nc,kf,cc]at a5;subst a5;simp[lN,Region.binds]at hp
    repeat(obtain⟨fh,hp⟩:=hp;subst fh)
    try subst hp
    simp only[Vr,aK,gm,gh,d4,eF,cx,cv,ix]
    repeat'(first
      |exact bG _ ⟨jB,iO,z,fw,hc,rfl⟩
      |(apply cG)
      |(apply dp)
      |(obtain rfl:=bZ (hcl 3 4 _ rfl ζ rfl);obtain rfl:=bZ (hcl 4 5 _ rfl ζ rfl);obtain rfl:=bZ (hcl 5 6 _ rfl ζ rfl);obtain rfl:=bZ (hcl 5 7 _ rfl ζ rfl);obtain rfl:=bZ (hcl 5 8 _ rfl ζ rfl);obtain rfl:=bZ (hcl 8 9 _ rfl ζ rfl);simp only[eF];refine af.inl (nE bs hm jB iO [cV] [bO,cz,df,.azx x.aa,.azw x.ai,.azG x 5 6,.box J.ca,.azG x 5 6] _ 6 ω ω _ fw λgR ao jz c0 eX gn=>?_);simp only[go_sem,g9];exact bG _ ⟨_,_,jz,‹_›,by first|assumption|simp|(constructor<;>assumption),rfl⟩)
      |(refine af.aj (cM _) ?_)
      |simp only[go_sem,I,cx,cv]))
  rintro _ ⟨nj,aH,z,xq,hc,rfl⟩;simp only[Vr,ea,aK,gm,gh,d4,cx,cv];simp only[go_sem,cx,cv];exact Az b' _ 10 ω (sh _ _) rfl rfl (hk _ _ _ ‹_› (.fa _ _))
 ·skip
  have d0:decide ((5:Int)=0)=false:=rfl;have gB:decide ((5:Int)=1)=false:=rfl;have gC:decide ((5:Int)=2)=false:=rfl;have lr:decide ((5:Int)=3)=false:=rfl;have jv:decide ((5:Int)=4)=false:=rfl;have rj:decide ((5:Int)=5):=rfl;simp only[go_sem,d0,gB,gC,lr,jv];refine af.inl (B2 bs hm fT h2 [cV] [bO,cz,df,.azx x.aa,.azw x.ai,.azG x 5 6,.box J.ca,.azG x 5 6] _ 3 ω ω _ db λgR ao eX c0=>?_);cases eX
  ·have cM:∀t:List UInt8,t∈[[117,61,49],[105],[117,61,53,44,32,105]]->_:=λt ht=>afR x id t hz (by simp only[rD,asL,or_false]at ht;rcases ht with rfl|rfl|rfl<;>decide);simp only[go_sem];refine lM _ (mQ (λS σ=>∃i h z,i<=bs.length/\(z∈[[117,61,49],[105],[117,61,53,44,32,105]])/\σ=Vt bs cV bO cz df x id i h z S) (N:=10) rfl rfl ⟨gR,ao,[105],‹_›,by first|assumption|(simp;done)|exact⟨by omega,rfl⟩,rfl⟩ ?_) ?_
   ·repeat'(first|exact nC|refine nD ?_ ?_)
    all_goals(
     rintro S σ F hl a5 hp hcl ⟨jB,iO,z,fw,hc,rfl⟩ bG;obtain⟨jI,dW,cT,dS,eW,nb,nR,nS,nT,qu,rfl⟩:=Vm hl;simp only[nc,kf,cc]at a5;subst a5;simp[lN,Region.binds]at hp
     repeat(obtain⟨fh,hp⟩:=hp;subst fh)
     try subst hp
     simp only[Vt,aK,gm,gh,d4,eF,cx,cv,ix]
     repeat'(first
       |exact bG _ ⟨jB,iO,z,fw,hc,rfl⟩
       |(apply cG)
       |(apply dp)
       |(obtain rfl:=bZ (hcl 4 5 _ rfl ζ rfl);obtain rfl:=bZ (hcl 5 6 _ rfl ζ rfl);obtain rfl:=bZ (hcl 6 7 _ rfl ζ rfl);obtain rfl:=bZ (hcl 6 8 _ rfl ζ rfl);obtain rfl:=bZ (hcl 7 9 _ rfl ζ rfl);simp only[eF];refine af.inl (Xa bs hm jB iO [cV] [bO,cz,df,.azx x.aa,.azw x.ai,.azG x 5 6,.box J.ca,.azG x 5 6,.ay 1 ([[117,61,49],[105],[117,61,53,44,32,105]].map oS) true] _ 8 [[117,61,49],[105],[117,61,53,44,32,105]] rfl ζ ζ _ fw λgR ao jz c0 eX=>?_);simp only[go_sem,g9];exact bG _ ⟨_,_,jz,‹_›,by first|assumption|simp|(constructor<;>assumption),rfl⟩)
       |(refine af.aj (cM _ hc) ?_)
       |(obtain rfl:=bZ (hcl 3 4 _ rfl ζ rfl);obtain rfl:=bZ (hcl 4 5 _ rfl ζ rfl);obtain rfl:=bZ (hcl 5 6 _ rfl ζ rfl);obtain rfl:=bZ (hcl 6 7 _ rfl ζ rfl);obtain rfl:=bZ (hcl 6 8 _ rfl ζ rfl);obtain rfl:=bZ (hcl 7 9 _ rfl ζ rfl);simp only[eF];skip)
       |(cases dS;exact Bool.noConfusion (show true=false from bZ (hcl 3 4 _ rfl ζ rfl));simp only[d4])
       |simp only[go_sem,I,cx,cv]))
   rintro _ ⟨nj,aH,z,xq,hc,rfl⟩;simp only[Vt,ea,aK,gm,gh,d4,cx,cv];simp only[go_sem,cx,cv];exact Az b' _ 11 ω (sh _ _) rfl rfl (hk _ _ _ ‹_› (.LZ _ _))
  have cM:∀k,_:=λk=>afV x id k hz (((hv.aC id).S8 k).sz ω);simp only[go_sem];refine lM _ (mQ (λS σ=>∃i h z,i<=bs.length/\(True)/\σ=Vs bs cV bO cz df x id i h z S) (N:=9) rfl rfl ⟨gR,ao,0,‹_›,by first|assumption|(simp;done)|exact⟨by omega,rfl⟩,rfl⟩ ?_) ?_
  ·repeat'(first|exact nC|refine nD ?_ ?_)
   all_goals(
    rintro S σ F hl a5 hp hcl ⟨jB,iO,z,fw,hc,rfl⟩ bG;obtain⟨jI,dW,cT,dS,eW,nb,nR,nS,nT,rfl⟩:=Vl hl;simp only[nc,kf,cc]at a5;subst a5;simp[lN,Region.binds]at hp
    repeat(obtain⟨fh,hp⟩:=hp;subst fh)
    try subst hp
    simp only[Vs,aK,gm,gh,d4,eF,cx,cv,ix]
    repeat'(first
      |exact bG _ ⟨jB,iO,z,fw,hc,rfl⟩
      |(apply cG)
      |(apply dp)
      |(obtain rfl:=bZ (hcl 3 4 _ rfl ζ rfl);obtain rfl:=bZ (hcl 4 5 _ rfl ζ rfl);obtain rfl:=bZ (hcl 5 6 _ rfl ζ rfl);obtain rfl:=bZ (hcl 5 7 _ rfl ζ rfl);obtain rfl:=bZ (hcl 6 8 _ rfl ζ rfl);simp only[eF];refine af.inl (nE bs hm jB iO [cV] [bO,cz,df,.azx x.aa,.azw x.ai,.azG x 5 6,.box J.ca,.azG x 5 6] _ 3 ω ω _ fw λgR ao jz c0 eX gn=>?_);simp only[go_sem,g9];exact bG _ ⟨_,_,jz,‹_›,by first|assumption|simp|(constructor<;>assumption),rfl⟩)
      |(refine af.aj (cM _) ?_)
      |simp only[go_sem,I,cx,cv]))
  rintro _ ⟨nj,aH,z,xq,hc,rfl⟩;simp only[Vs,ea,aK,gm,gh,d4,cx,cv];simp only[go_sem,cx,cv];exact Az b' _ 10 ω (sh _ _) rfl rfl (hk _ _ _ ‹_› (.LY _ _))
 ·skip
  have aqR:decide ((6:Int)=0)=false:=rfl;have aqS:decide ((6:Int)=1)=false:=rfl;have aqT:decide ((6:Int)=2)=false:=rfl;have aqU:decide ((6:Int)=3)=false:=rfl;have aqV:decide ((6:Int)=4)=false:=rfl;have aqW:decide ((6:Int)=5)=false:=rfl;have azb:decide ((6:Int)=6):=rfl;have aqX:decide ((7:Int)=0)=false:=rfl;have aqY:decide ((7:Int)=1)=false:=rfl;have aqZ:decide ((7:Int)=2)=false:=rfl;have aq0:decide ((7:Int)=3)=false:=rfl;have aq1:decide ((7:Int)=4)=false:=rfl;have aq2:decide ((7:Int)=5)=false:=rfl;have aq3:decide ((7:Int)=6)=false:=rfl;have azc:decide ((7:Int)=7):=rfl;have cM:∀b,_:=λb=>XI x b m hv ω;obtain rfl|rfl:=Vv
  all_goals simp only[go_sem,aqR,aqS,aqT,aqU,aqV,aqW,aqX,aqY,aqZ,aq0,aq1,aq2,aq3]
  all_goals(first|(refine lM _ (mQ (λS σ=>∃i h z,i<=bs.length/\(True)/\σ=O' bs cV bO cz df x id (.i 6) (.d (.bool true)) (.an) i h z S) (N:=10) rfl rfl ⟨fT,h2,0,‹_›,by first|assumption|(simp;done)|exact⟨by omega,rfl⟩,rfl⟩ ?_) ?_)|(refine lM _ (mQ (λS σ=>∃i h z,i<=bs.length/\(True)/\σ=O' bs cV bO cz df x id (.i 7) (.d (.bool false)) (.d (.bool true)) i h z S) (N:=10) rfl rfl ⟨fT,h2,0,‹_›,by first|assumption|(simp;done)|exact⟨by omega,rfl⟩,rfl⟩ ?_) ?_))
  all_goals(try(
   rintro _ ⟨nj,aH,z,xq,hc,rfl⟩;simp only[O',ea,aK,gm,gh,d4,cx,cv];simp only[go_sem,cx,cv];exact Az b' _ 10 ω (sh _ _) rfl rfl (hk _ _ _ ‹_› (.em _))))
  all_goals(repeat'(first|exact nC|refine nD ?_ ?_))
  all_goals(
   rintro S σ F hl a5 hp hcl ⟨jB,iO,z,fw,hc,rfl⟩ bG;obtain⟨jI,dW,cT,dS,eW,nb,nR,nS,nT,qu,rfl⟩:=Vm hl;simp only[nc,kf,cc]at a5;subst a5;simp[lN,Region.binds]at hp
   repeat(obtain⟨fh,hp⟩:=hp;subst fh)
   try subst hp
   simp only[O',aK,gm,gh,d4,eF,cx,cv,ix]
   repeat'(first
     |exact bG _ ⟨jB,iO,z,fw,hc,rfl⟩
     |(apply cG)
     |(apply dp)
     |(obtain rfl:=bZ (hcl 2 3 _ rfl ζ rfl);obtain rfl:=bZ (hcl 3 4 _ rfl ζ rfl);obtain rfl:=bZ (hcl 4 5 _ rfl ζ rfl);obtain rfl:=bZ (hcl 5 6 _ rfl ζ rfl);obtain rfl:=bZ (hcl 5 7 _ rfl ζ rfl);obtain rfl:=bZ (hcl 5 8 _ rfl ζ rfl);obtain rfl:=bZ (hcl 8 9 _ rfl ζ rfl);simp only[eF];refine af.inl (nE bs hm jB iO [cV] [bO,cz,df,.azx x.aa,.azw x.ai,.azG x 5 6,.box J.ca,.azG x 5 6] _ 20 ω ω _ fw λgR ao jz c0 eX gn=>?_);simp only[go_sem,g9];exact bG _ ⟨_,_,jz,‹_›,by first|assumption|simp|(constructor<;>assumption),rfl⟩)
     |(refine af.aj (cM _) ?_)
     |simp only[go_sem,I,cx,cv]))
 ·skip
  have d0:decide ((8:Int)=0)=false:=rfl;have gB:decide ((8:Int)=1)=false:=rfl;have gC:decide ((8:Int)=2)=false:=rfl;have lr:decide ((8:Int)=3)=false:=rfl;have jv:decide ((8:Int)=4)=false:=rfl;have rj:decide ((8:Int)=5)=false:=rfl;have Vw:decide ((8:Int)=6)=false:=rfl;have Vx:decide ((8:Int)=7)=false:=rfl;have lq:decide ((8:Int)=8):=rfl;simp only[go_sem,d0,gB,gC,lr,jv,rj,Vw,Vx];refine af.inl (agK bs hm fT h2 [cV] [bO,cz,df,.azx x.aa,.azw x.ai,.azG x 5 6,.box J.ca,.azG x 5 6] _ 10 rfl aeL (Mw _ (by simp[b3,vok])) _ db λgR ao f c0 dG e9 f3=>?_);simp only[go_sem,I];have cM:=alc x f m hv ω ω ⟨e9,by omega⟩;refine af.aj cM ?_;simp only[go_sem,I,cx,cv];cases he:decide (GX x f=0)
  ·simp only[go_sem,cx,cv];exact Vn b' _ (sh _ _) (hk _ _ _ ‹_› .same)
  simp only[go_sem,cx,cv];exact Az b' _ 11 ω (sh _ _) rfl rfl (hk _ _ _ ‹_› (.hf f ω ⟨e9,by omega⟩))
 skip
 have d0:decide ((9:Int)=0)=false:=rfl;have gB:decide ((9:Int)=1)=false:=rfl;have gC:decide ((9:Int)=2)=false:=rfl;have lr:decide ((9:Int)=3)=false:=rfl;have jv:decide ((9:Int)=4)=false:=rfl;have rj:decide ((9:Int)=5)=false:=rfl;have Vw:decide ((9:Int)=6)=false:=rfl;have Vx:decide ((9:Int)=7)=false:=rfl;have lq:decide ((9:Int)=8)=false:=rfl;have azd:decide ((9:Int)=9):=rfl;simp only[go_sem,d0,gB,gC,lr,jv,rj,Vw,Vx,lq];cases fh:decide (0<(x.ai.length:Int))
 ·simp only[go_sem,cx,cv];exact Vn b' _ (sh _ _) (hk _ _ _ ‹_› .same)
 have aze:=cY fh;simp only[go_sem];refine lM _ (mQ (λS σ=>∃i h z,i<=bs.length/\(z.1<x.ai.length/\((x.ai[z.1]?).getD (⟨0,[]⟩:aL)).bU=z.2)/\σ=Vu bs cV bO cz df x id i h z S) (N:=11) rfl rfl ⟨fT,h2,(0,((x.ai[0]?).getD (⟨0,[]⟩:aL)).bU),‹_›,by first|assumption|(simp;done)|exact⟨by omega,rfl⟩,rfl⟩ ?_) ?_
 ·repeat'(first|exact nC|refine nD ?_ ?_)
  all_goals(
   rintro S σ F hl a5 hp hcl ⟨jB,iO,z,fw,hc,rfl⟩ bG;obtain⟨jI,dW,cT,dS,eW,nb,nR,nS,nT,qu,xb,rfl⟩:=aeJ hl;simp only[nc,kf,cc]at a5;subst a5;simp[lN,Region.binds]at hp
   repeat(obtain⟨fh,hp⟩:=hp;subst fh)
   try subst hp
   have az:=b_ aL.enc x.ai z.1 hc.1;have mT:=hc.2;have hc1:=hc.1;rw[cy hc.1,kk]at mT;simp only[Vu,aK,gm,gh,d4,eF]
   repeat'(first
     |exact bG _ ⟨jB,iO,z,fw,hc,rfl⟩
     |(apply cG)
     |(apply dp)
     |(obtain rfl:=bZ (hcl 6 7 _ rfl ζ rfl);obtain rfl:=bZ (hcl 7 8 _ rfl ζ rfl);obtain rfl:=bZ (hcl 8 9 _ rfl ζ rfl);obtain rfl:=bZ (hcl 9 10 _ rfl ζ rfl);simp only[eF];refine af.inl (nE bs hm jB iO [cV] [bO,cz,df,.azx x.aa,.azw x.ai,.azG x 5 6,.box J.ca,.azG x 5 6] _ (x.ai.length:Int) ω ω _ fw λgR ao jz c0 eX gn=>?_);obtain⟨dd,rfl⟩:=mU eX;simp only[go_sem,g9];exact bG _ ⟨_,_,(dd,((x.ai[dd]?).getD (⟨0,[]⟩:aL)).bU),‹_›,⟨ω,rfl⟩,rfl⟩)
     |(refine⟨⟨by omega,by omega⟩,?_⟩)
     |(refine⟨hc1,?_⟩)
     |simp only[go_sem,I,az,mT,aL.enc,aF]))
 rintro _ ⟨nj,aH,z,xq,hc,rfl⟩;simp only[Vu,ea,aK,gm,gh,d4];simp only[go_sem];refine af.inl (B2 bs hm nj aH [cV] [bO,cz,df,.azx x.aa,.azw x.ai,.azG x 5 6,.box J.ca,.azG x 5 6] _ 3 ω ω _ xq λH8 bR jS fr=>?_);cases jS
 ·have cM:=VB x z.2 m hv ω;simp only[go_sem,I];refine af.aj cM ?_;simp only[go_sem,I,cx,cv];exact Az b' _ 10 ω (sh _ _) rfl rfl (hk _ _ _ ‹_› (.L1 _))
 have cM:=Po x z.2 m hv ω;simp only[go_sem,I];refine af.aj cM ?_;simp only[go_sem,I,cx,cv];exact Az b' _ 10 ω (sh _ _) rfl rfl (hk _ _ _ ‹_› (.L0 _))
theorem Wr{ρ:List Nat}{m:Nat}:∀{xs ys:List V},yc ρ m xs->yc ρ m ys->yc ρ m (xs++ys)
 |[],_,_,h=>h
 |_::_,_,h,k=>⟨h.1,Wr h.2 k⟩
theorem VL{kv:List V}{hs:List H}{n:Nat}(hn:hs.length=n)(hr:e4 n hs)(b':b3 n kv)(y:J)(a:Nat)(ha:n<=a){ex:List H}{K:V->List H->Prop}(ak:a6 (hs++ex) a=.azx y.aa)(ar:a6 (hs++ex) (a+1)=.azw y.ai)
  (cg:K (kg y n) (hs++k' y)):x' kv K (kg y a) (hs++ex):=by
 subst hn;refine⟨pv hs.length++[a,a+1],kg y hs.length,hs++k' y,?_,cg⟩;refine P2 (hs:=hs) (ex:=ex) [a,a+1] ξ (by simp;omega) hr ?_ (by simp[oQ,hok,k']) b' ?_ ?_
 ·simp only[k',hsees,ak,ar];simp[hsee]
 ·have h1:=qI hs.length 0 [a,a+1];have h2:=qI hs.length 1 [a,a+1];simp only[Nat.add_zero,gh,gm]at h1 h2;simp[kg,vsees,vsee,ren,rens]
 simp[kg,k',b3,vok]
theorem af3{ts kv:List V}(af4:yc (pv 7) 7 ts)(b':b3 3 kv){cV c bO cz:H}(h0:eN 7 cV)(hc:eN 7 c)(h2:eN 7 bO)(ao:eN 7 cz)(cs:List V)(hcs:cs.length=50)(x:J) :
  lz (ts++kv) (pv 7) ⟨[.ptr 1 0 0,kg x 5],cV::c::bO::cz::.box cs::k' x⟩ ⟨[.ptr 1 0 0,kg x 5],cV::c::bO::cz::.box (ea 50 .an)::k' x⟩:=by
 have hf:qJ (pv 7) 7:=BR (fH _);refine⟨List.nodup_range,?_,⟨FL hf h0,FL hf hc,FL hf h2,FL hf ao,hcs▸Ws _ cs,⟨rfl,rfl,rfl⟩,⟨rfl,rfl,rfl⟩,trivial⟩,?_,?_,Wr af4 (yd hf (by simp[k']) (qw ω _ b'))⟩
 ·simp[kg,vsees,vsee,ren,rens,pv,asU]
 ·simp[kg,k',b3,vok]
 exact FM (xs:=cV::c::bO::cz::.box (ea 50 .an)::k' x) ⟨h0,hc,h2,ao,P3 _ _,trivial,trivial,trivial⟩
def kh:H:=.box J.ca
theorem ae5(bs:List Int)(hm:bs.length<=maxLen)(i:Nat)(h:Int)(cV bO:H)(hq:eN 3 cV/\eN 3 bO)(kv:List V)(b':b3 3 kv)(K:V->List H->Prop)(hi:i<=bs.length)
  (hk:∀(eL:Nat) (h':Int) (y:J),eL<=bs.length->rB 14 y->K (kg y 3) ([cV,eM bs eL h',bO]++k' y)):et prog 122 kv [cV,eM bs i h,bO] [.ptr 1 0 0] K:=by
 have P4:∀ts:List V,b3 4 ts->b3 4 (ts++kv):=λts h=>HK h (qw ω kv b');have Wt:e4 4 [cV]/\e4 4 [bO,kh]:=⟨⟨rk ω _ hq.1,trivial⟩,rk ω _ hq.2,by simp[kh,e4,eN,b3,vok]⟩;have H7:∀(eL:Nat) (h':Int),e4 3 [cV,eM bs eL h',bO]:=λeL h'=>⟨hq.1,by simp[eM,eN,b3,vok],hq.2,trivial⟩;have Du:∀(eL:Nat) (h':Int),e4 4 [cV,eM bs eL h',bO,kh]:=λeL h'=>⟨rk ω _ hq.1,by simp[eM,eN,b3,vok],rk ω _ hq.2,by simp[kh,eN,b3,vok],trivial⟩;have Lr:eN 7 cV/\eN 7 bO:=⟨rk ω _ hq.1,rk ω _ hq.2⟩;refine et.xc ?_;refine(gi (n:=27) (rs:=[.cell 2 37]) func122 rfl call122 bE rfl rfl ?_);simp only[go_sem];refine af.inl (B2 bs hm i h [cV] [bO,kh] _ 2 ω ω _ hi λhE h1 eH cA=>?_);simp only[go_sem,cx,cv];refine af.inl (Wu bs hm hE h1 [cV] [bO,kh] _ 4 rfl Wt (P4 _ (by simp[b3,vok])) _ cA λfT h2 o db=>?_);simp only[go_sem,cx,cv];refine af.inl (Wu bs hm fT h2 [cV] [bO,kh] _ 4 rfl Wt (P4 _ (by simp[b3,vok])) _ db λgR ao p c0=>?_);simp only[go_sem,cx,cv];have bB:=af5 eH o.aB o.bL o.nh o.cn o.ni o.mz o.fG o.eU p.aB p.bL p.nh p.cn p.ni p.mz p.fG p.eU;change PureCall _ _ _ [.agg (J.enc ((rC eH o p))),.one (.bool _)]at bB;have bD:=rB.new eH o p;generalize rC eH o p=x at bB bD;refine af.intro bB ?_;simp only[go_sem,I,cx,cv];refine af.inl (nE bs hm gR ao [cV] [bO,kh,.azx x.aa,.azw x.ai,.azG x 4 5] _ 12 ω ω _ c0 λnj aH k eo mW rE=>?_);obtain⟨k,rfl⟩:=mU mW;simp only[go_sem,cx,cv];rw[show i64.wrap (2+(k:Int))=((k+2:Nat):Int)by rw[bw]<;>omega];refine cb.intro (α:=Nat×Int×J×Nat) (λy=>⟨(.ptr 1 0 0::.an::.ptr 3 0 0::.ptr 4 0 0::.an::.i y.2.2.2::aA 21 []),[cV,eM bs y.1 y.2.1,bO,kh,.box (J.a2 (y.2.2.1) (.sl 5 0 (y.2.2.1).aa.length) (.sl 6 0 (y.2.2.1).ai.length)),.ay 39 ((y.2.2.1).aa.map ae.enc) true,.ay 2 ((y.2.2.1).ai.map aL.enc) true]⟩)
  (λy=>y.2.2.2) (λy=>y.1<=bs.length/\y.2.2.2<=14/\rB (14-y.2.2.2) y.2.2.1) (nj,aH,x,k+2) [0,1,2,3,6,4,5] ⟨eo,by simp only;omega,bD.mono ω⟩ ?_ ?_
 ·refine P2 (hs:=[cV,eM bs nj aH,bO,kh]) (ex:=[.azx x.aa,.azw x.ai,.azG x 4 5]) (ex':=[.azG x 5 6,.azx x.aa,.azw x.ai]) [6,4,5] ζ ξ (Du _ _) ?_ (by simp[oQ,hok,b3,vok]) (P4 [] trivial) ?_ ?_
  ·simp[hsees,hsee,a6,vsees,vsee,ren,pv,asU]
  ·simp[vsees,vsee,ren,pv,asU]
  simp[b3,vok]
 rintro⟨H8,bR,x,n⟩ ⟨P5,hn,hd⟩;simp only at P5 hn hd;have hx:=hd.pf ω;simp only[go_sem]
 cases n with
 |zero=>
  rw[show decide ((0:Int)<((0:Nat):Int))=false from rfl];simp only[go_sem,kh];exact VL (n:=3) (hs:=[cV,eM bs H8 bR,bO]) (ex:=[_,_,_,_]) rfl (H7 _ _) b' x 5 ω ψ ψ (hk _ _ _ P5 hd)
 |succ n=>
  rw[show decide ((0:Int)<((n+1:Nat):Int))=true from br ω];simp only[go_sem];refine af.lp [0,2,3,5] (by simp only[i3,arE,am_,Nat.reduceBEq,Nat.reduceAdd,d4,eF];rfl) (et.FN (af3 (by simp[yc,vsee,vok,ren,pv,asU]) b' Lr.1 (by simp[eM,eN,b3,vok]) Lr.2 (by simp[kh,eN,b3,vok]) _ rfl x) (af6 bs hm H8 bR x (14-(n+1)) hx ω cV bO kh (.box (ea 50 .an)) ⟨rk ω _ hq.1,rk ω _ hq.2,by simp[kh,eN,b3,vok],P3 5 50⟩ _ (HK (by simp[b3,vok]) (qw ω kv b')) _ P5 λLs eQ y fQ hy=>?_));simp only[go_sem,kg,k',ea,e0,g1,cx,cv];rw[show i64.wrap (((n+1:Nat):Int)-1)=(n:Int)by rw[bw]<;>omega];refine bt.intro (Ls,eQ,y,n) (pv 7) ⟨fQ,by simp only;omega,by simp only;have:=hd.step hy;rwa [show 14-(n+1)+1=14-n from by omega]at this⟩ (Nat.lt_succ_self n) ?_;refine Lt (hs:=[cV,eM bs Ls eQ,bO,kh,.azG y 5 6,.azx y.aa,.azw y.ai]) ⟨Lr.1,by simp[eM,eN,b3,vok],Lr.2,by simp[kh,eN,b3,vok],by simp[eN,b3,vok],trivial,trivial,trivial⟩ (qw ξ kv b') ?_ ?_
  ·simp[vsees,vsee,ren,pv,asU]
  simp[b3,vok]
theorem VK(bs:List Int)(hm:bs.length<=maxLen)(i:Nat)(h:Int)(cV:H)(hq:eN 2 cV)(kv:List V)(b':b3 2 kv)(K:V->List H->Prop)(hi:i<=bs.length)
  (hk:∀(eL:Nat) (h':Int) (y:J),eL<=bs.length->qv y->K (kg y 2) ([cV,eM bs eL h']++k' y)):et prog 60 kv [cV,eM bs i h] [.ptr 1 0 0] K:=by
 have AF:∀(eL:Nat) (h':Int),e4 2 [cV,eM bs eL h']:=λeL h'=>⟨hq,by simp[eM,eN,b3,vok],trivial⟩;refine et.xc ?_;refine(gi (n:=34) (rs:=[.cell 2 37]) func60 rfl call60 bE rfl rfl ?_);simp only[go_sem];refine af.inl (ae5 bs hm i h cV kh ⟨rk ω _ hq,by simp[kh,eN,b3,vok]⟩ _ (HK (by simp[b3,vok]) (qw ω kv b')) _ hi λhE h1 y cA bD=>?_);simp only[go_sem,kg,k',kh,cx,cv];refine af.inl (nE bs hm hE h1 [cV] [.box J.ca,.azx y.aa,.azw y.ai,.azG y 3 4] _ 20 ω ω _ cA λfT h2 k db eG cW=>?_);have aS:∀(x:J) (gR:Nat) (ao:Int) (di lO:H) (ex:List H),gR<=bs.length->qv x->x' kv K (kg x 3) (cV::eM bs gR ao::di::.azx x.aa::.azw x.ai::lO::ex):=by
  intro x gR ao di lO ex ae6 hx;exact VL (n:=2) (hs:=[cV,eM bs gR ao]) (ex:=di::.azx x.aa::.azw x.ai::lO::ex) rfl (AF _ _) b' x 3 ω rfl rfl (hk _ _ _ ae6 hx)
 obtain rfl|rfl|rfl|rfl|aH:k=0\/k=1\/k=2\/k=3\/4<=k:=by omega
 ·have d0:decide ((0:Int)=0):=rfl;simp only[go_sem];refine af.inl (HL bs hm fT h2 [cV] [.box J.ca,.azx y.aa,.azw y.ai,.azG y 3 4,.ay 1 ([-1,3,7,256].map bg) true] _ 4 [-1,3,7,256] rfl ζ ζ _ db λgR ao v c0 eX=>?_);simp only[go_sem,cx,cv];exact aS {y with cX:=v} gR ao _ _ _ c0 ⟨y,_,_,_,_,bD,rfl⟩
 ·have d0:decide ((1:Int)=0)=false:=rfl;have gB:decide ((1:Int)=1):=rfl;simp only[go_sem,d0];refine af.inl (HL bs hm fT h2 [cV] [.box J.ca,.azx y.aa,.azw y.ai,.azG y 3 4,.ay 1 ([-1,1000000,1000001].map bg) true] _ 4 [-1,1000000,1000001] rfl ζ ζ _ db λgR ao v c0 eX=>?_);simp only[go_sem,cx,cv];exact aS {y with dA:=v} gR ao _ _ _ c0 ⟨y,_,_,_,_,bD,rfl⟩
 ·have d0:decide ((2:Int)=0)=false:=rfl;have gB:decide ((2:Int)=1)=false:=rfl;have gC:decide ((2:Int)=2):=rfl;simp only[go_sem,d0,gB];refine af.inl (HL bs hm fT h2 [cV] [.box J.ca,.azx y.aa,.azw y.ai,.azG y 3 4,.ay 1 ([-1,0].map bg) true] _ 4 [-1,0] rfl ζ ζ _ db λgR ao v c0 eX=>?_);simp only[go_sem,cx,cv];exact aS {y with cn:={y.cn with dV:=v}} gR ao _ _ _ c0 ⟨y,_,_,_,_,bD,rfl⟩
 ·have d0:decide ((3:Int)=0)=false:=rfl;have gB:decide ((3:Int)=1)=false:=rfl;have gC:decide ((3:Int)=2)=false:=rfl;have lr:decide ((3:Int)=3):=rfl;simp only[go_sem,d0,gB,gC];refine af.inl (HL bs hm fT h2 [cV] [.box J.ca,.azx y.aa,.azw y.ai,.azG y 3 4,.ay 1 ([0,1000000,1000001].map bg) true] _ 4 [0,1000000,1000001] rfl ζ ζ _ db λgR ao v c0 eX=>?_);simp only[go_sem,cx,cv];exact aS {y with bU:=v} gR ao _ _ _ c0 ⟨y,_,_,_,_,bD,rfl⟩
 have d0:=bn (p:=k=0) ω;have gB:=bn (p:=k=1) ω;have gC:=bn (p:=k=2) ω;have lr:=bn (p:=k=3) ω;simp only[go_sem,d0,gB,gC,lr,cx,cv];exact aS y fT h2 _ _ _ db ⟨y,_,_,_,_,bD,rfl⟩
theorem Xv{S:List Bool}(h:S.length=6):∃fE cA db c0 eo fr,S=[fE,cA,db,c0,eo,fr]:=by
 match S,h with|[fE,cA,db,c0,eo,fr],_=>exact⟨fE,cA,db,c0,eo,fr,rfl⟩
theorem agO{S:List Bool}(h:S.length=13):∃fE cA db c0 eo fr fQ f_ gk gP ib nF nG,S=[fE,cA,db,c0,eo,fr,fQ,f_,gk,gP,ib,nF,nG]:=by
 match S,h with|[fE,cA,db,c0,eo,fr,fQ,f_,gk,gP,ib,nF,nG],_=>exact⟨fE,cA,db,c0,eo,fr,fQ,f_,gk,gP,ib,nF,nG,rfl⟩
def QH(bs:List Int)(x:J)(pj pk pl pn po pq u16 pr pt:V)(i:Nat)(h z:Int)(S:List Bool):St:=⟨(.d (.azz bs)::.an::.ptr 0 0 0::(bif S.getD 12 false then .d (.i (x.ai.getD z.toNat ⟨0,[]⟩).bU)else .i 0)::.ptr 1 0 0::.ptr 4 0 0::.d (.azz bs)::.ptr 1 0 0::.ptr 1 0 0::.agg (J.a2 x (.sl 2 0 x.aa.length) (.sl 3 0 x.ai.length))::pj::pk::pl::pn::po::pq::u16::pr::pt::(aK S 0 (.agg (J.a2 x (.sl 2 0 x.aa.length) (.sl 3 0 x.ai.length))))::(aK S 1 (.ptr 4 0 47))::(aK S 2 (.sl 3 0 x.ai.length))::(aK S 3 (.ptr 1 0 0))::(aK S 4 (.ptr 4 0 47))::(aK S 5 (.sl 3 0 x.ai.length))::(aK S 6 (.i x.ai.length))::(aK S 7 (.i z))::(aK S 8 (.ptr 3 z.toNat 0))::(aK S 9 (.ptr 3 z.toNat 0))::(aK S 10 (.d (.i (x.ai.getD z.toNat ⟨0,[]⟩).bU)))::aA 4 []),[(bif S.getD 11 false then .azG x 2 3 else .box J.ca),eM bs i h,.azx x.aa,.azw x.ai,.azG x 2 3]⟩
def F2(bs:List Int)(x:J)(pj pk pl pn po pq u16 pr pt:V)(i:Nat)(h z:Int)(S:List Bool):St:=⟨(.d (.azz bs)::.an::.ptr 0 0 0::(bif S.getD 5 false then .i (i64.wrap (z-1))else .i 0)::.ptr 1 0 0::.ptr 4 0 0::.d (.azz bs)::.ptr 1 0 0::.ptr 1 0 0::.agg (J.a2 x (.sl 2 0 x.aa.length) (.sl 3 0 x.ai.length))::pj::pk::pl::pn::po::pq::u16::pr::pt::aA 11 [(aK S 0 (.agg (J.a2 x (.sl 2 0 x.aa.length) (.sl 3 0 x.ai.length)))),(aK S 1 (.ptr 1 0 0)),(aK S 2 (.i z)),(aK S 3 (.i (i64.wrap (z-1))))]),[(bif S.getD 4 false then .azG x 2 3 else .box J.ca),eM bs i h,.azx x.aa,.azw x.ai,.azG x 2 3]⟩
theorem Xw(bs:List Int):Cc prog 21 [.one (.azz bs)] (λrs=>∃(x:J) (n:Int),qv x/\rs=[.agg (J.enc x),.one (.i n)]):=by
 refine QI func21 rfl call21 bE (.d (.azz bs)::ea 33 .an) rfl [.cell 2 37,.tmp 3] rfl ?_;intro ok;have hm:=gw ok;simp only[ea];simp only[go_sem];refine af.inl (Xc bs hm [kh] _ (by simp[kh,e4,eN,b3,vok]) (by simp[b3,vok]) _ λh1=>?_);simp only[go_sem,cx,cv];refine af.inl (VK bs hm 0 h1 kh (by simp[kh,eN,b3,vok]) _ (by simp[b3,vok]) _ ω λfT h2 x db bD=>?_);have aE:=bD.pf;have hl:x.ai.length<=14:=aE.sG;have hg:∀z:Int,0<=z->z<x.ai.length->(x.ai.map aL.enc)[z.toNat]?=some (aL.enc (x.ai.getD z.toNat ⟨0,[]⟩)):=λz h0 h1=>by
  rw[b_ aL.enc x.ai z.toNat ω,lU,cy ω];rfl
 simp only[go_sem,kg,k',kh,cx,cv];cases hp:decide (0<(x.ai.length:Int))
 ·apply dp;simp only[go_sem];apply dp;simp only[go_sem];apply dp;simp only[go_sem];refine lM _ (mQ (λS σ=>∃i h z,i<=bs.length/\True/\σ=F2 bs x _ _ _ _ _ _ _ _ _ i h z S) (N:=6) rfl rfl ⟨_,_,0,‹_›,trivial,rfl⟩ ?_) ?_
  ·repeat'(first|exact nC|refine nD ?_ ?_)
   all_goals(
    rintro S σ F hl a5 hp hcl ⟨jB,iO,z,fw,hc,rfl⟩ bG;obtain⟨jI,dW,cT,dS,eW,nb,rfl⟩:=Xv hl;simp only[nc,kf,cc]at a5;subst a5;simp[lN,Region.binds]at hp
    repeat(obtain⟨fh,hp⟩:=hp;subst fh)
    try subst hp
    try obtain rfl:=bZ (hcl 0 4 _ rfl ζ rfl)
    try obtain rfl:=bZ (hcl 1 2 _ rfl ζ rfl)
    try obtain rfl:=bZ (hcl 2 3 _ rfl ζ rfl)
    try obtain rfl:=bZ (hcl 2 4 _ rfl ζ rfl)
    try obtain rfl:=bZ (hcl 3 5 _ rfl ζ rfl)
    try obtain rfl:=bZ (hcl 4 5 _ rfl ζ rfl)
    simp only[F2,aK,gm,gh,d4,eF]
    repeat'(first
      |exact bG _ ⟨jB,iO,z,fw,hc,rfl⟩
      |(apply cG)
      |(apply dp)
      |(refine af.inl (nE bs hm jB iO [.box J.ca] [.azx x.aa,.azw x.ai,.azG x 2 3] _ 6 ω ω _ fw λgR ao jz c0 eX gn=>?_);simp only[go_sem,g9];exact bG _ ⟨_,_,jz,‹_›,trivial,rfl⟩)
      |simp only[go_sem,cx,cv]))
  rintro _ ⟨nj,aH,z,xq,hc,rfl⟩;simp only[F2,ea,aK,gm,gh,d4];simp only[go_sem];refine⟨_,⟨x,i64.wrap (z-1),bD,rfl⟩,?_⟩;simp only[go_sem];simp[outOA]
 have hp:=cY hp;apply cG;simp only[go_sem];apply cG;refine af.inl (B2 bs hm fT h2 [.box J.ca] [.azx x.aa,.azw x.ai,.azG x 2 3] _ 4 ω ω _ db λgR ao eX c0=>?_);simp only[go_sem,cx,cv];apply cG;simp only[go_sem];cases eX
 ·simp only[go_sem,b7];refine lM _ (mQ (λS σ=>∃i h z,i<=bs.length/\((0:Int)<=z/\z<(x.ai.length:Int))/\σ=QH bs x _ _ _ _ _ _ _ _ _ i h z S) (N:=13) rfl rfl ⟨_,_,0,c0,⟨by omega,by omega⟩,rfl⟩ ?_) ?_
  ·repeat'(first|exact nC|refine nD ?_ ?_)
   all_goals(
    rintro S σ F hl a5 hp hcl ⟨jB,iO,z,fw,hc,rfl⟩ bG;obtain⟨jI,dW,cT,dS,eW,nb,nR,nS,nT,qu,xb,DG,DH,rfl⟩:=agO hl;simp only[nc,kf,cc]at a5;subst a5;simp[lN,Region.binds]at hp
    repeat(obtain⟨fh,hp⟩:=hp;subst fh)
    try subst hp
    try obtain rfl:=bZ (hcl 0 11 _ rfl ζ rfl)
    try obtain rfl:=bZ (hcl 1 2 _ rfl ζ rfl)
    try obtain rfl:=bZ (hcl 2 8 _ rfl ζ rfl)
    try obtain rfl:=bZ (hcl 3 7 _ rfl ζ rfl)
    try obtain rfl:=bZ (hcl 4 5 _ rfl ζ rfl)
    try obtain rfl:=bZ (hcl 5 6 _ rfl ζ rfl)
    try obtain rfl:=bZ (hcl 6 7 _ rfl ζ rfl)
    try obtain rfl:=bZ (hcl 7 8 _ rfl ζ rfl)
    try obtain rfl:=bZ (hcl 7 11 _ rfl ζ rfl)
    try obtain rfl:=bZ (hcl 8 9 _ rfl ζ rfl)
    try obtain rfl:=bZ (hcl 9 10 _ rfl ζ rfl)
    try obtain rfl:=bZ (hcl 10 12 _ rfl ζ rfl)
    try obtain rfl:=bZ (hcl 11 12 _ rfl ζ rfl)
    simp only[QH,aK,gm,gh,d4,eF]
    repeat'(first
      |exact bG _ ⟨jB,iO,z,fw,hc,rfl⟩
      |(apply cG)
      |(apply dp)
      |(refine af.inl (nE bs hm jB iO [.box J.ca] [.azx x.aa,.azw x.ai,.azG x 2 3] _ (x.ai.length:Int) ω ω _ fw λgR ao jz c0 eX gn=>?_);simp only[go_sem,g9];exact bG _ ⟨_,_,jz,‹_›,⟨by omega,by omega⟩,rfl⟩)
      |(refine⟨⟨by omega,by omega⟩,?_⟩)
      |(refine⟨by omega,?_⟩)
      |simp only[go_sem,I,cx,cv,hg z hc.1 hc.2,aL.enc]))
  rintro _ ⟨nj,aH,z,xq,hc,rfl⟩;simp only[QH,ea,aK,gm,gh,d4];simp only[go_sem];refine⟨_,⟨x,(x.ai.getD z.toNat ⟨0,[]⟩).bU,bD,rfl⟩,?_⟩;simp only[go_sem];simp[outOA]
 simp only[go_sem,bz];refine lM _ (mQ (λS σ=>∃i h z,i<=bs.length/\True/\σ=F2 bs x _ _ _ _ _ _ _ _ _ i h z S) (N:=6) rfl rfl ⟨_,_,0,‹_›,trivial,rfl⟩ ?_) ?_
 ·repeat'(first|exact nC|refine nD ?_ ?_)
  all_goals(
   rintro S σ F hl a5 hp hcl ⟨jB,iO,z,fw,hc,rfl⟩ bG;obtain⟨jI,dW,cT,dS,eW,nb,rfl⟩:=Xv hl;simp only[nc,kf,cc]at a5;subst a5;simp[lN,Region.binds]at hp
   repeat(obtain⟨fh,hp⟩:=hp;subst fh)
   try subst hp
   try obtain rfl:=bZ (hcl 0 4 _ rfl ζ rfl)
   try obtain rfl:=bZ (hcl 1 2 _ rfl ζ rfl)
   try obtain rfl:=bZ (hcl 2 3 _ rfl ζ rfl)
   try obtain rfl:=bZ (hcl 2 4 _ rfl ζ rfl)
   try obtain rfl:=bZ (hcl 3 5 _ rfl ζ rfl)
   try obtain rfl:=bZ (hcl 4 5 _ rfl ζ rfl)
   simp only[F2,aK,gm,gh,d4,eF]
   repeat'(first
     |exact bG _ ⟨jB,iO,z,fw,hc,rfl⟩
     |(apply cG)
     |(apply dp)
     |(refine af.inl (nE bs hm jB iO [.box J.ca] [.azx x.aa,.azw x.ai,.azG x 2 3] _ 6 ω ω _ fw λgR ao jz c0 eX gn=>?_);simp only[go_sem,g9];exact bG _ ⟨_,_,jz,‹_›,trivial,rfl⟩)
     |simp only[go_sem,cx,cv]))
 rintro _ ⟨nj,aH,z,xq,hc,rfl⟩;simp only[F2,ea,aK,gm,gh,d4];simp only[go_sem];refine⟨_,⟨x,i64.wrap (z-1),bD,rfl⟩,?_⟩;simp only[go_sem];simp[outOA]
theorem agP(bs:List Int):Cc prog 5 [.one (.azz bs)] (λrs=>∃(x:J) (n:Int),qv x/\rs=[.agg (J.enc x),.one (.i n)]):=by
 refine QI func5 rfl call5 bE (.d (.azz bs)::ea 12 .an) rfl [.cell 2 37,.tmp 3] rfl ?_;intro ok;simp only[ea];simp only[go_sem];refine af.zH (Xw bs) rfl ?_;rintro _ ⟨x,n,bD,rfl⟩;simp only[go_sem,g9,I];refine⟨_,⟨x,n,bD,rfl⟩,?_⟩;simp only[go_sem];simp[outOA]
theorem agQ(bs:List Int):Cc prog 15 [.one (.azz bs)] (λrs=>∃x:J,qv x/\rs=[.agg (J.enc x)]):=by
 refine QI func15 rfl call15 bE (.d (.azz bs)::ea 5 .an) rfl [.cell 2 37] rfl ?_;intro ok;have hm:=gw ok;simp only[ea];simp only[go_sem];refine af.inl (Xc bs hm [kh] _ (by simp[kh,e4,eN,b3,vok]) (by simp[b3,vok]) _ λh1=>?_);simp only[go_sem,cx,cv];refine af.inl (VK bs hm 0 h1 kh (by simp[kh,eN,b3,vok]) _ (by simp[b3,vok]) _ ω λfT h2 x db bD=>?_);simp only[go_sem,kg,k',kh,cx,cv];refine⟨_,⟨x,bD,rfl⟩,?_⟩;simp only[go_sem];simp[outOA]
theorem amS{sz:Nat}{xs:List (List D)}{ds:List D}{rs:List AD}(h:yC (.agg ds::rs))(hm:.sl sz xs∈ds):xs.length<=maxLen:=(Q_ h.1 _ hm).1
theorem abD(c:J)(n:Int):aM 43 [.agg (J.enc c),.one (.i n)] [.one (.i (g2 (f1 n) c.ai))]:=by
 refine aW 9 func43 call43 [.tmp 4] ?_;intro ok;have hm:c.ai.length<=maxLen:=by have:=amS ok (sz:=2) (xs:=c.ai.map aL.enc) ξ;rwa [I]at this
 clear ok;simp only[go_sem];refine af.inl (gi (n:=19) (rs:=[.tmp 4]) func102 rfl call102 bE rfl rfl ?_);simp only[go_sem,I];refine cb.intro (λi:Nat=>⟨(.d (.azC c.ai)::.fn 103 [.ptr 1 0 0]::.an::.an::.i 0::.an::.an::.i c.ai.length::.i i::aA 10 []),[.box (J.bx c),.box [.i n]]⟩)
   (λi=>c.ai.length-i) (λi=>i<=c.ai.length/\(c.ai.take i).any (f1 n)=false) 0 [0,1] ⟨by omega,by simp⟩ ?_ ?_
 ·simp only[go_sem];simp
 rintro i ⟨hi,he⟩;simp only[go_sem];refine bX (λh1=>?_) (λh1=>?_)
 ·simp only[bH]at h1;have hlt:i<c.ai.length:=by omega
  have az:=b_ aL.enc c.ai i hlt;have hw:=d8 hlt hm;simp only[go_sem,I,aF,az,aL.enc];refine⟨⟨by omega,by omega⟩,?_⟩;refine af.inl (gi (n:=8) (rs:=[.tmp 3]) func103 rfl call103 bE rfl rfl ?_);simp only[go_sem];refine bX (λh2=>?_) (λh2=>?_)
  ·simp only[go_sem];have:=II (f1 n) c.ai i hlt he h2;simp[this]
  simp only[go_sem,hw];refine bt.intro (i+1) [0,1] ⟨by omega,zi _ c.ai i hlt he h2⟩ ω ?_;simp only[go_sem];simp
 simp only[eC]at h1;simp only[go_sem];rw[eA ω]at he;simp[Mf _ _ he]
theorem aa7(c:J)(n:Int)(hx:(c.ai.length+nk aL.fy c.ai)<=1048576):aM 11 [.agg (J.enc c),.one (.i n)] [.agg [.i ((fP c.ai n).1).bU,.sl 9 (((fP c.ai n).1).bV.map al.enc)],.one (.bool (fP c.ai n).2)]:=by
 refine ayE 22 func11 call11 [.cell 4 45,.tmp 5] ?_;simp only[go_sem];refine af.intro (abD c n) ?_;rcases m' (f1 n) c.ai with ⟨h1,h2⟩|⟨i,hi,h1,h2,ao⟩
 ·simp only[go_sem,h1]
  try simp only[go_sem,h1]
  all_goals simp[fP,h2]
 have hlt:=bn (p:=(i:Int)<0) ω;have hb:=HZ aL.fy c.ai i hi;have hw:=asc (i:=i);have yi:(atz (i+1-i) (atf i (c.ai.map aL.enc)))=[c.ai[i]].map aL.enc:=by
  rw[show i+1-i=1 from by omega,asV (by simpa using hi)];simp
 simp only[go_sem,h1,hlt,hw,I,aF]
 repeat'(first
  |(with_reducible refine And.intro ?_ ?_;(focus (first|omega|(constructor<;>omega)|(simp;done)|(simp;omega)));try simp only[go_sem,yi])
  |(refine af.F3 2 0 (Wk [c.ai[i]] (by simp[nk];omega)) ?_;simp only[go_sem,I,aL.enc]))
 all_goals simp[fP,h2]
theorem VN(b2:List al)(hm:b2.length<=500)(num:Int)(kv:List V)(b':b3 1 kv)(K:V->List H->Prop)(hk:K (.d (.bool (!b2.all eu))) [.box [.i num,.d (.azE b2)]]) :
  et prog 107 kv [.box [.i num,.d (.azE b2)]] [.d (.azE b2),.fn 108 []] K:=by
 have aS:∀(ex:List H) (b:Bool),b=!b2.all eu->x' kv K (.d (.bool b)) (.box [.i num,.d (.azE b2)]::ex):=by
  intro ex b hb;subst hb;exact⟨pv 1,_,[.box [.i num,.d (.azE b2)]],Fx (hs:=[.box [.i num,.d (.azE b2)]]) (ex:=ex) (by simp[e4,eN,b3,vok]) b' (by simp[vsees,vsee,ren]) (by simp[b3,vok]),hk⟩
 have hx:∀ρ:List Nat,ρ=[0]->yc ρ 1 kv:=λρ e=>by subst e;exact yd (BR (m:=1) (n:=1) ω) ω b'
 refine et.xc ?_;refine(gi (n:=9) (rs:=[.tmp 4]) func107 rfl call107 bE rfl rfl ?_);simp only[go_sem];refine af.inl (gi (n:=19) (rs:=[.tmp 4]) func170 rfl call170 bE rfl rfl ?_);simp only[go_sem,I];refine cb.intro (λi:Nat=>⟨(.d (.azE b2)::.fn 108 []::.an::.an::.i 0::.an::.d (.azE b2)::.i b2.length::.i i::aA 10 []),[.box [.i num,.d (.azE b2)]]⟩)
   (λi=>b2.length-i) (λi=>i<=b2.length/\(b2.take i).all eu=true) 0 [0] ⟨by omega,by simp⟩ ?_ ?_
 ·simp only[go_sem];simp[hx];try trace_state
 rintro i ⟨hi,he⟩;by_cases h1:i<b2.length
 ·have aq:=aro (i:=i) (n:=b2.length);have az:=b_ al.enc b2 i h1;have hw:=asc (i:=i);have hs:=zm eu b2 i h1;have hn:=λh=>zn eu b2 i h1 h;generalize b2[i]=f at *;have bG:=pe f.aY f.ax f.aP f.data f.aS f.cS f.aX f.bf f.fG;change PureCall _ _ _ [.one (.bool (eu f))]at bG;simp only[go_sem,I,aq,az,al.enc,aF];refine⟨⟨by omega,by omega⟩,?_⟩;refine af.inl (gi (n:=6) (rs:=[.tmp 2]) func108 rfl call108 bE rfl rfl ?_);simp only[go_sem];refine af.intro bG ?_
  cases hb:eu f
  ·have:=hn hb;simp only[go_sem,b7];have h0:=br (p:=(0:Int)<=(i:Int)) ω;exact aS _ _ (by simp[this])
  simp only[go_sem,hw,bz];refine bt.intro (i+1) [0] ⟨by omega,by rw[hs,he,hb];rfl⟩ ω ?_;simp only[go_sem];simp[hx]
 obtain⟨aq,rfl⟩:=arn (i:=i) (n:=b2.length);rw[da]at he;simp only[go_sem,aq];exact aS _ _ (by simp[he])
theorem K5{S:List Bool}(h:S.length=26):∃fE cA db c0 eo fr fQ f_ gk gP ib nF nG qx qy qz ya DC DD DE DF Pp Pq Pr Ps Pt,S=[fE,cA,db,c0,eo,fr,fQ,f_,gk,gP,ib,nF,nG,qx,qy,qz,ya,DC,DD,DE,DF,Pp,Pq,Pr,Ps,Pt]:=by
 match S,h with|[fE,cA,db,c0,eo,fr,fQ,f_,gk,gP,ib,nF,nG,qx,qy,qz,ya,DC,DD,DE,DF,Pp,Pq,Pr,Ps,Pt],_=>exact⟨fE,cA,db,c0,eo,fr,fQ,f_,gk,gP,ib,nF,nG,qx,qy,qz,ya,DC,DD,DE,DF,Pp,Pq,Pr,Ps,Pt,rfl⟩
def Pu(l:List aL)(n:Int)(i _:Nat)(p _:aL)(_:Bool)(S:List Bool):St:=⟨[.d (.azC l),.i n,.an,.an,.d (.bool false),.i i,.ptr 0 0 0,.d (.azC l),.i l.length,.i i,.d (.bool true),.i i,.gF [.i p.bU,.azE p.bV] 0,.agg [.i p.bU,.d (.azE p.bV)],(aK S 0 (.ptr 0 0 0)),(aK S 1 (.i p.bU)),(aK S 2 (.i n)),(aK S 3 (.i (i64.wrap (n-1)))),(aK S 4 (.d (.bool false))),(aK S 5 (.d (.bool true))),(aK S 6 (.d (.bool true))),(aK S 7 (.b9 false (.d (.bool false)))),(aK S 8 (.b9 false (.d (.bool false)))),(aK S 9 (.b9 false (.d (.bool false)))),(aK S 10 (.b9 false (.d (.bool false)))),(aK S 11 (.b9 false (.d (.bool false)))),(aK S 12 (.b9 false (.d (.bool false)))),(aK S 13 (.b9 false (.d (.bool false)))),(aK S 14 (.b9 false (.d (.bool false)))),(aK S 15 (.b9 false (.d (.bool false)))),(aK S 16 (.b9 false (.d (.bool false)))),(aK S 17 (.b9 false (.d (.bool false)))),(aK S 18 (.b9 false (.d (.bool false)))),(aK S 19 (.b9 false (.d (.bool false)))),(aK S 20 (.d (.bool true))),(aK S 21 (.d (.bool true))),(aK S 22 (.b9 false (.d (.bool false)))),(aK S 23 (.b9 false (.d (.bool false)))),(aK S 24 (.b9 false (.d (.bool false)))),(aK S 25 (.d (.bool true))),.an],[.box [.i p.bU,.d (.azE p.bV)]]⟩
def Pv(l:List aL)(n:Int)(i _:Nat)(p _:aL)(w:Bool)(S:List Bool):St:=⟨[.d (.azC l),.i n,.an,.an,.d (.bool false),.i i,.ptr 0 0 0,.d (.azC l),.i l.length,.i i,.d (.bool true),.i i,.gF [.i p.bU,.azE p.bV] 0,.agg [.i p.bU,.d (.azE p.bV)],(aK S 0 (.ptr 0 0 0)),(aK S 1 (.i p.bU)),(aK S 2 (.i n)),(aK S 3 (.i (i64.wrap (n-1)))),(aK S 4 (.d (.bool true))),(aK S 5 (.d (.bool false))),(aK S 6 (.d (.bool false))),(aK S 7 (.i i)),(aK S 8 (.d (.bool false))),(aK S 9 (.d (.bool false))),(aK S 10 (.b9 false (.d (.bool false)))),(aK S 11 (.b9 false (.d (.bool false)))),(aK S 12 (.b9 false (.d (.bool false)))),(aK S 13 (.b9 false (.d (.bool false)))),(aK S 14 (.b9 false (.d (.bool false)))),(aK S 15 (.b9 false (.d (.bool false)))),(aK S 16 (.b9 false (.d (.bool false)))),(aK S 17 (.b9 false (.d (.bool false)))),(aK S 18 (.b9 false (.d (.bool false)))),(aK S 19 (.d (.bool false))),(aK S 20 (.d (.bool false))),(aK S 21 (.d (.bool false))),(aK S 22 (.ptr 0 0 1)),(aK S 23 (.d (.azE p.bV))),(aK S 24 (.d (.bool w))),(aK S 25 (.d (.bool w))),.an],[.box [.i p.bU,.d (.azE p.bV)]]⟩
def Pw(l:List aL)(n:Int)(i j:Nat)(p q:aL)(_:Bool)(S:List Bool):St:=⟨[.d (.azC l),.i n,.an,.an,.d (.bool false),.i i,.ptr 0 0 0,.d (.azC l),.i l.length,.i i,.d (.bool true),.i i,.gF [.i p.bU,.azE p.bV] 0,.agg [.i p.bU,.d (.azE p.bV)],(aK S 0 (.ptr 0 0 0)),(aK S 1 (.i p.bU)),(aK S 2 (.i n)),(aK S 3 (.i (i64.wrap (n-1)))),(aK S 4 (.d (.bool true))),(aK S 5 (.d (.bool false))),(aK S 6 (.d (.bool false))),(aK S 7 (.i i)),(aK S 8 (.d (.bool true))),(aK S 9 (.d (.bool true))),(aK S 10 (.d (.azC l))),(aK S 11 (.i i)),(aK S 12 (.i j)),(aK S 13 (.gF [.i q.bU,.azE q.bV] 0)),(aK S 14 (.gF [.i q.bU,.azE q.bV] 0)),(aK S 15 (.i q.bU)),(aK S 16 (.ptr 0 0 0)),(aK S 17 (.i p.bU)),(aK S 18 (.d (.bool true))),(aK S 19 (.d (.bool true))),(aK S 20 (.d (.bool true))),(aK S 21 (.d (.bool true))),(aK S 22 (.b9 false (.d (.bool false)))),(aK S 23 (.b9 false (.d (.bool false)))),(aK S 24 (.b9 false (.d (.bool false)))),(aK S 25 (.d (.bool true))),.an],[.box [.i p.bU,.d (.azE p.bV)]]⟩
def Px(l:List aL)(n:Int)(i j:Nat)(p q:aL)(w:Bool)(S:List Bool):St:=⟨[.d (.azC l),.i n,.an,.an,.d (.bool false),.i i,.ptr 0 0 0,.d (.azC l),.i l.length,.i i,.d (.bool true),.i i,.gF [.i p.bU,.azE p.bV] 0,.agg [.i p.bU,.d (.azE p.bV)],(aK S 0 (.ptr 0 0 0)),(aK S 1 (.i p.bU)),(aK S 2 (.i n)),(aK S 3 (.i (i64.wrap (n-1)))),(aK S 4 (.d (.bool true))),(aK S 5 (.d (.bool false))),(aK S 6 (.d (.bool false))),(aK S 7 (.i i)),(aK S 8 (.d (.bool true))),(aK S 9 (.d (.bool true))),(aK S 10 (.d (.azC l))),(aK S 11 (.i i)),(aK S 12 (.i j)),(aK S 13 (.gF [.i q.bU,.azE q.bV] 0)),(aK S 14 (.gF [.i q.bU,.azE q.bV] 0)),(aK S 15 (.i q.bU)),(aK S 16 (.ptr 0 0 0)),(aK S 17 (.i p.bU)),(aK S 18 (.d (.bool false))),(aK S 19 (.d (.bool false))),(aK S 20 (.d (.bool false))),(aK S 21 (.d (.bool false))),(aK S 22 (.ptr 0 0 1)),(aK S 23 (.d (.azE p.bV))),(aK S 24 (.d (.bool w))),(aK S 25 (.d (.bool w))),.an],[.box [.i p.bU,.d (.azE p.bV)]]⟩
theorem afa(l:List aL)(n:Int)(hz:∀p∈l,AE p)(hl:l.length<=30):aM 52 [.one (.azC l),.one (.i n)] [.one (.bool (rl n l))]:=by
 refine ayE 41 func52 call52 [.tmp 4] ?_;simp only[go_sem,I];refine cb.intro (λi:Nat=>⟨(.d (.azC l)::.i n::.an::.an::.d (.bool false)::.an::.an::.d (.azC l)::.i l.length::.i i::aA 31 []),[]⟩)
   (λi=>l.length-i) (λi=>i<=l.length/\l6 (mR n l) i=true) 0 [] ⟨by omega,by simp[l6]⟩ ?_ ?_
 ·simp only[go_sem];simp
 rintro i ⟨hi,he⟩;by_cases h1:i<l.length
 ·have aq:=aro (i:=i) (n:=l.length);have az:=b_ aL.enc l i h1;have oL:=(hz _ (eK h1)).1;have hs:=Ft (mR n l) i;have hf:mR n l i=false->rl n l=false:=λh=>HM (mR n l) h1 h;have VM:=asc (i:=i)
  have nU:∀h:i=0,mR n l i=yb n l[i]:=by
   intro h;subst h;exact AG _ _ _ h1
  have K6:∀(j:Nat) (h:i=j+1) (aI:j<l.length),mR n l i=(yb n l[i]&&decide (l[j].bU<l[i].bU)):=by
   intro j h aI;subst h;exact zl _ _ _ _ h1
  have nd:∀h:yb n l[i]=false,mR n l i=false:=by
   intro h;cases i with
   |zero=>rw[nU rfl,h]
   |succ j=>rw[K6 j rfl ω,h];rfl
  generalize l[i]=p at *;have hW:=j7 p.bU 0 (i64.wrap (n-1));cases ha:cd p.bU 0 (i64.wrap (n-1))
  ·rw[ha]at hW;have fh:mR n l i=false:=nd (by unfold yb;rw[ha];rfl);simp only[go_sem,I,aq,az,aL.enc,aF];refine⟨⟨by omega,by omega⟩,?_⟩;refine lM _ (mQ (λS σ=>σ=Pu l n i 0 p p false S) (N:=26) rfl rfl rfl ?_) ?_
   ·repeat'(first|exact nC|refine nD ?_ ?_)
    all_goals(
     rintro S σ F hl a5 hp hcl rfl bG;obtain⟨jI,dW,cT,dS,eW,nb,nR,nS,nT,qu,xb,DG,DH,Fu,Fv,Fw,HN,K7,K8,K9,K_,Py,Pz,PA,PB,PC,rfl⟩:=K5 hl;simp only[nc,kf,cc]at a5;subst a5;simp[lN,Region.binds]at hp
     repeat(obtain⟨fh,hp⟩:=hp;subst fh)
     try subst hp
     simp only[Pu,aK,gm,gh,d4,eF]
     repeat'(first
       |exact bG _ rfl
       |(apply cG)
       |(apply dp)
       |(refine af.intro hW ?_)
       |simp only[go_sem]))
   rintro _ rfl;simp only[Pu,ea,aK,gm,gh,d4];simp only[go_sem];simp[hf fh]
  rw[ha]at hW
  cases i with
  |zero=>
   have h2:decide ((0:Int)<((0:Nat):Int))=false:=by decide
   simp only[go_sem,I,aq,az,aL.enc,aF];refine⟨⟨by omega,by omega⟩,?_⟩;refine lM _ (mQ (λS σ=>σ=Pv l n 0 0 p p (!p.bV.all eu) S) (N:=26) rfl rfl rfl ?_) ?_
   ·repeat'(first|exact nC|refine nD ?_ ?_)
    all_goals(
     rintro S σ F hl a5 hp hcl rfl bG;obtain⟨jI,dW,cT,dS,eW,nb,nR,nS,nT,qu,xb,DG,DH,Fu,Fv,Fw,HN,K7,K8,K9,K_,Py,Pz,PA,PB,PC,rfl⟩:=K5 hl;simp only[nc,kf,cc]at a5;subst a5;simp[lN,Region.binds]at hp
     repeat(obtain⟨fh,hp⟩:=hp;subst fh)
     try subst hp
     simp only[Pv,aK,gm,gh,d4,eF]
     repeat'(first
       |exact bG _ rfl
       |(apply cG)
       |(apply dp)
       |(refine af.intro hW ?_)
       |(refine af.inl (VN p.bV oL p.bU _ (by simp[b3,vok,PD]) _ ?_))
       |simp only[go_sem,h2]))
   rintro _ rfl;simp only[Pv,ea,aK,gm,gh,d4];cases hw:p.bV.all eu
   ·have fh:mR n l 0=false:=by rw[nU rfl];unfold yb;rw[ha,hw];rfl
    simp only[go_sem,b7];simp[hf fh]
   have fh:mR n l 0:=by rw[nU rfl];unfold yb;rw[ha,hw];rfl
   simp only[go_sem,bz,VM];refine bt.intro 1 [] ⟨by omega,by rw[hs,he,fh];rfl⟩ ω ?_;simp only[go_sem];try simp
  |succ j=>
   have ie:=b_ aL.enc l j ω;have h2:=br (p:=(0:Int)<((j+1:Nat):Int)) ω;have hp:i64.wrap (((j+1:Nat):Int)-1)=(j:Int):=by rw[bw]<;>omega
   have hb:=K6 j rfl ω;generalize l[j]=q at *;cases hc:decide (q.bU<p.bU)
   ·have hd:decide (p.bU<=q.bU):=by simp at hc⊢;omega
    have je:decide (q.bU≥p.bU):=hd;have fh:mR n l (j+1)=false:=by rw[hb,hc];simp
    simp only[go_sem,I,aq,az,aL.enc,aF];refine⟨⟨by omega,by omega⟩,?_⟩;refine lM _ (mQ (λS σ=>σ=Pw l n (j+1) j p q false S) (N:=26) rfl rfl rfl ?_) ?_
    ·repeat'(first|exact nC|refine nD ?_ ?_)
     all_goals(
      rintro S σ F hl a5 hp hcl rfl bG;obtain⟨jI,dW,cT,dS,eW,nb,nR,nS,nT,qu,xb,DG,DH,Fu,Fv,Fw,HN,K7,K8,K9,K_,Py,Pz,PA,PB,PC,rfl⟩:=K5 hl;simp only[nc,kf,cc]at a5;subst a5;simp[lN,Region.binds]at hp
      repeat(obtain⟨fh,hp⟩:=hp;subst fh)
      try subst hp
      simp only[Pw,aK,gm,gh,d4,eF]
      repeat'(first
        |exact bG _ rfl
        |(apply cG)
        |(apply dp)
        |(refine af.intro hW ?_)
        |(refine⟨⟨by omega,by omega⟩,?_⟩)
        |simp only[go_sem,I,bz,h2,hp,ie,aL.enc,aF,hd]))
    rintro _ rfl;simp only[Pw,ea,aK,gm,gh,d4];simp only[go_sem];simp[hf fh]
   have hd:decide (p.bU<=q.bU)=false:=by simp at hc⊢;omega
   have je:decide (q.bU≥p.bU)=false:=hd;simp only[go_sem,I,aq,az,aL.enc,aF];refine⟨⟨by omega,by omega⟩,?_⟩;refine lM _ (mQ (λS σ=>σ=Px l n (j+1) j p q (!p.bV.all eu) S) (N:=26) rfl rfl rfl ?_) ?_
   ·repeat'(first|exact nC|refine nD ?_ ?_)
    all_goals(
     rintro S σ F hl a5 hp hcl rfl bG;obtain⟨jI,dW,cT,dS,eW,nb,nR,nS,nT,qu,xb,DG,DH,Fu,Fv,Fw,HN,K7,K8,K9,K_,Py,Pz,PA,PB,PC,rfl⟩:=K5 hl;simp only[nc,kf,cc]at a5;subst a5;simp[lN,Region.binds]at hp
     repeat(obtain⟨fh,hp⟩:=hp;subst fh)
     try subst hp
     simp only[Px,aK,gm,gh,d4,eF]
     repeat'(first
       |exact bG _ rfl
       |(apply cG)
       |(apply dp)
       |(refine af.intro hW ?_)
       |(refine⟨⟨by omega,by omega⟩,?_⟩)
       |(refine af.inl (VN p.bV oL p.bU _ (by simp[b3,vok,PD]) _ ?_))
       |simp only[go_sem,I,h2,hp,ie,aL.enc,aF,hd]))
   rintro _ rfl;simp only[Px,ea,aK,gm,gh,d4];cases hw:p.bV.all eu
   ·have fh:mR n l (j+1)=false:=by rw[hb];unfold yb;rw[ha,hw];rfl
    simp only[go_sem,b7];simp[hf fh]
   have fh:mR n l (j+1):=by rw[hb];unfold yb;rw[ha,hw,hc];rfl
   simp only[go_sem,bz,VM];refine bt.intro (j+1+1) [] ⟨by omega,by rw[hs,he,fh];rfl⟩ ω ?_;simp only[go_sem];try simp
 obtain⟨aq,rfl⟩:=arn (i:=i) (n:=l.length);have hL:rl n l:=he;simp only[go_sem,aq];simp[hL]
theorem VY(l:List ae)(hz:∀x∈l,gx x):aM 53 [.one (.azD l)] [.one (.i (lx e1 i9 l))]:=by
 refine aW 5 func53 call53 [.tmp 2] ?_;intro ok;have hm:=gw ok;clear ok;simp only[go_sem];refine af.inl (gi (n:=25) (rs:=[.tmp 4]) func110 rfl call110 bE rfl rfl ?_);simp only[go_sem];cases hA:lh e1 l
 ·have ah:=Pf (f:=i9) hA
  try simp only[go_sem,I,hA]
  repeat'(refine af.intro (by(apply J8<;>exact aT)) ?_<;>simp only[go_sem,hA])
  all_goals simp[ah]
 have ah:=Pe (f:=i9) hA
 try simp only[go_sem,I,hA]
 repeat'(refine af.intro (by(apply J8<;>exact aT)) ?_<;>simp only[go_sem,I,hA])
 refine cb.intro (λi:Nat=>⟨(.an::.fn 111 []::aA 3 (.i ((l.take i).foldl (lB i9) 0)::aA 5 (.d (.azD l)::.i l.length::.i i::aA 11 []))),[]⟩)
  (λi=>l.length-i) (λi=>i<=l.length) 0 [] ω ?_ ?_
 ·simp only[go_sem];simp
 intro i hi;by_cases h1:i<l.length
 ·have aq:=aro (i:=i) (n:=l.length);have az:=b_ ae.enc l i h1;have hw:=d8 h1 hm;have hs:=Pd i9 l i h1;simp only[go_sem,I,aF,az,ae.enc,aq];refine⟨⟨by omega,by omega⟩,?_⟩;refine af.inl (gi (n:=6) (rs:=[.tmp 2]) func111 rfl call111 bE rfl rfl ?_);simp only[go_sem];refine bt.intro (i+1) [] ω ω ?_;simp only[go_sem,hw,hs];simp[lB,i9];try exact Pc _ _
 obtain⟨aq,rfl⟩:=arn (i:=i) (n:=l.length);simp only[go_sem,aq,da];simp[ah]
theorem VZ(l:List ae)(hz:∀x∈l,gx x):aM 54 [.one (.azD l)] [.one (.i (lx e1 kj l))]:=by
 refine aW 5 func54 call54 [.tmp 2] ?_;intro ok;have hm:=gw ok;clear ok;simp only[go_sem];refine af.inl (gi (n:=25) (rs:=[.tmp 4]) func110 rfl call110 bE rfl rfl ?_);simp only[go_sem];cases hA:lh e1 l
 ·have ah:=Pf (f:=kj) hA
  try simp only[go_sem,I,hA]
  repeat'(refine af.intro (by(apply J8<;>exact aT)) ?_<;>simp only[go_sem,hA])
  all_goals simp[ah]
 have ah:=Pe (f:=kj) hA
 try simp only[go_sem,I,hA]
 repeat'(refine af.intro (by(apply J8<;>exact aT)) ?_<;>simp only[go_sem,I,hA])
 refine cb.intro (λi:Nat=>⟨(.an::.fn 112 []::aA 3 (.i ((l.take i).foldl (lB kj) 0)::aA 5 (.d (.azD l)::.i l.length::.i i::aA 11 []))),[]⟩)
  (λi=>l.length-i) (λi=>i<=l.length) 0 [] ω ?_ ?_
 ·simp only[go_sem];simp
 intro i hi;by_cases h1:i<l.length
 ·have aq:=aro (i:=i) (n:=l.length);have az:=b_ ae.enc l i h1;have hw:=d8 h1 hm;have hs:=Pd kj l i h1;simp only[go_sem,I,aF,az,ae.enc,aq];refine⟨⟨by omega,by omega⟩,?_⟩;refine af.inl (gi (n:=6) (rs:=[.tmp 2]) func112 rfl call112 bE rfl rfl ?_);simp only[go_sem];refine bt.intro (i+1) [] ω ω ?_;simp only[go_sem,hw,hs];simp[lB,kj];try exact Pc _ _
 obtain⟨aq,rfl⟩:=arn (i:=i) (n:=l.length);simp only[go_sem,aq,da];simp[ah]
def PM:List (List bK):=cB 12 [531440,531438,531432,521937,521883,521721,531063,529605,525231,511758,472392,354294]
def V5:List (List bK):=cB 15 [11958506,11958504,11958511,11958489,11958435,11958273,11957787,14328130,14323756,14339065,14290951,14172853,13818559,12755677,9565938]
def PN:List (List bK):=cB 19 [1162261466,1162261464,1162261458,1162251963,1162251909,1162251747,1162261089,1162259631,1162255257,1162241784,1162202418,1162084320,1141003827,1161198585,1158009939,1148444001,1119214746,1033121304,774840978]
attribute [go_sem] PM V5 PN
def rn(s:ae):Bool:=!decide (s.cL.dV≠s.ag.b0)
def qC(ok:ae->Bool)(c:J):Bool:=oi ok c&&c.aa.all rn&&decide (lx ok i9 c.aa=c.cn.dV)
def pU(s:ae):Bool:=(s.fS&&decide (s.bL.seen≠s.aU.fR))||decide (s.bL.fa<s.aU.bT.next)
def pV(n:Int)(s:ae):Int:=i64.wrap (n+s.bL.fa)
def ss(ok:ae->Bool)(c:J):Bool:=oi ok c&&c.aa.all (λs=>!pU s)&&decide (lx ok kj c.aa=c.c7.seen)&&decide (c.aa.foldl pV 0=c.c7.fa)
def DN(f:al):ab:=⟨f.aP,i64.wrap (f.aP+(f.data.length:Int))⟩
def nf(id:Int)(f:al):Bool:=decide (f.aY=8)&&decide (f.ax=id)&&decide (f.data≠[])
def lQ(id:Int)(cJ:List ab)(f:al):List ab:=if nf id f then f' cJ (DN f)else cJ
def so(id:Int)(cJ:List ab)(p:aL):List ab:=p.bV.foldl (lQ id) cJ
def DK(l:List aL)(id:Int):List ab:=l.foldl (so id) []
def sr(l:List aL)(s:ae):Bool:=decide (s.ag.bp<4)&&!decide (s.ag.bc=DK l s.id)
def DM(ok:ae->Bool)(c:J):Bool:=oi ok c&&c.aa.all (λs=>!sr c.ai s)
theorem afu(id:Int)(cJ:List ab)(f:al):(lQ id cJ f).length<=cJ.length+1:=by
 unfold lQ;split
 ·exact HR _ _
 omega
theorem PG(id:Int):∀(l:List al) (cJ:List ab),(l.foldl (lQ id) cJ).length<=cJ.length+l.length
 |[],cJ=>by simp
 |f::l,cJ=>by
  have h1:=PG id l (lQ id cJ f);have h2:=afu id cJ f;rw[An,e0];omega
theorem VQ{id:Int}:∀(l:List aL) (cJ:List ab),(∀p∈l,AE p)->(l.foldl (so id) cJ).length<=cJ.length+500 * l.length
 |[],cJ,_=>by simp
 |p::l,cJ,h=>by
  have h1:=VQ (id:=id) l (so id cJ p) λq hq=>h q (by simp[hq]);have h2:(so id cJ p).length<=cJ.length+p.bV.length:=PG id p.bV cJ;have ao:=(h p ξ).1;rw[An,e0];omega
theorem V3(c:J)(hz:gZ c):aM 55 [.agg (J.enc c)] [.one (.bool (qC dt c))]:=by
 refine ayE 41 func55 call55 [.tmp 2] ?_;have mo:=hz.1;have mT:=hz.2.1;have ah:qC dt c=(ew c&&c.aa.all rn&&decide (lx dt i9 c.aa=c.cn.dV)):=rfl;simp only[go_sem];cases aE:ew c
 ·refine cb.intro (λ_:Unit=>⟨(.an::.ptr 0 0 0::.an::.i 0::aA 37 []),[.box (J.bx c)]⟩) (λ_=>0) (λ_=>True) () [0] trivial ?_ ?_
  ·simp only[go_sem];simp
  rintro _ _
  try simp only[go_sem,I]
  repeat'((first|refine av.intro (by(apply lu<;>exact aT)) ?_|with_reducible apply lv|apply bo|refine a7 PM χ ψ ?_)<;>simp only[go_sem,aE,asu])
  simp[ah,aE]
 refine cb.intro (λi:Nat=>⟨(.an::.ptr 0 0 0::.an::.i i::aA 37 []),[.box (J.bx c)]⟩) (λi=>c.aa.length-i) (λi=>i<=c.aa.length/\(c.aa.take i).all rn=true) 0 [0] ⟨by omega,by simp⟩ ?_ ?_
 ·simp only[go_sem];simp
 rintro i ⟨hi,he⟩;by_cases h1:i<c.aa.length
 ·have aq:=aro (i:=i) (n:=c.aa.length);have az:=b_ ae.enc c.aa i h1;have hw:=asc (i:=i);have hs:=zm rn c.aa i h1;have hn:=λh=>zn rn c.aa i h1 h;generalize c.aa[i]=s at *
  try simp only[go_sem,I,aq]
  repeat'(first|((first|refine af.intro (by(apply lu<;>exact aT)) ?_|with_reducible apply cG|refine a7 V5 χ ψ ?_)<;>simp only[go_sem,I,aF,az,ae.enc,aE])|refine⟨ae7,?_⟩|fail)
  cases hb:decide (s.cL.dV≠s.ag.b0)
  ·simp only[go_sem];refine bt.intro (i+1) [0] ⟨by omega,by rw[hs,he];unfold rn;rw[hb];rfl⟩ ω ?_;simp only[go_sem,hw];simp
  have:=hn (by unfold rn;rw[hb];rfl);simp only[go_sem];simp[ah,this]
 obtain⟨aq,rfl⟩:=arn (i:=i) (n:=c.aa.length);rw[da]at he
 try simp only[go_sem,I,aq]
 repeat'((first|refine av.intro (by first|(apply lu<;>exact aT)|(apply V6<;>exact aT)) ?_|with_reducible apply dp|with_reducible apply mr|refine a7 PM χ ψ ?_)<;>simp only[go_sem,aE])
 simp[ah,aE,he]
theorem V4(c:J)(hz:gZ c):aM 56 [.agg (J.enc c)] [.one (.bool (ss dt c))]:=by
 refine ayE 66 func56 call56 [.tmp 2] ?_;have mo:=hz.1;have mT:=hz.2.1;have ah:ss dt c=(ew c&&c.aa.all (λs=>!pU s)&&decide (lx dt kj c.aa=c.c7.seen)&&decide (c.aa.foldl pV 0=c.c7.fa)):=rfl;simp only[go_sem];cases aE:ew c
 ·refine cb.intro (λ_:Unit=>⟨(.an::.ptr 0 0 0::.an::.i 0::.i 0::aA 61 []),[.box (J.bx c)]⟩) (λ_=>0) (λ_=>True) () [0] trivial ?_ ?_
  ·simp only[go_sem];simp
  rintro _ _
  try simp only[go_sem,I]
  repeat'((first|refine av.intro (by(apply lu<;>exact aT)) ?_|with_reducible apply lv|apply bo|refine a7 PN χ ψ ?_)<;>simp only[go_sem,aE,asu])
  simp[ah,aE]
 refine cb.intro (λi:Nat=>⟨(.an::.ptr 0 0 0::.an::.i ((c.aa.take i).foldl pV 0)::.i i::aA 61 []),[.box (J.bx c)]⟩) (λi=>c.aa.length-i) (λi=>i<=c.aa.length/\(c.aa.take i).all (λs=>!pU s)=true) 0 [0] ⟨by omega,by simp⟩ ?_ ?_
 ·simp only[go_sem];simp
 rintro i ⟨hi,he⟩;by_cases h1:i<c.aa.length
 ·have aq:=aro (i:=i) (n:=c.aa.length);have az:=b_ ae.enc c.aa i h1;have hw:=asc (i:=i);have hs:=zm (λs=>!pU s) c.aa i h1;have hn:=λh=>zn (λs=>!pU s) c.aa i h1 h;have hf:(c.aa.take (i+1)).foldl pV 0=i64.wrap ((c.aa.take i).foldl pV 0+c.aa[i].bL.fa):=by
   rw[gO,cy h1,arD];rfl
  generalize (c.aa.take i).foldl pV 0=r at *;generalize c.aa[i]=s at *;have hg:(bif bif s.fS then decide (s.bL.seen≠s.aU.fR)else false then true else decide (s.bL.fa<s.aU.bT.next))=pU s:=by unfold pU;cases s.fS<;>cases decide (s.bL.seen≠s.aU.fR)<;>rfl
  try simp only[go_sem,I,aq]
  repeat'(first|((first|refine af.intro (by(apply lu<;>exact aT)) ?_|with_reducible apply cG|apply bo)<;>simp only[go_sem,I,aF,az,ae.enc,aE])|refine⟨ae7,?_⟩|fail)
  rw[hg];cases hb:pU s
  ·simp only[go_sem];refine bt.intro (i+1) [0] ⟨by omega,by rw[hs,he,hb];rfl⟩ ω ?_;simp only[go_sem,hw,hf];simp
  have:=hn (by rw[hb];rfl);simp only[go_sem];simp[ah,this]
 obtain⟨aq,rfl⟩:=arn (i:=i) (n:=c.aa.length);rw[da]at he
 try simp only[go_sem,I,aq,da]
 repeat'((first|refine av.intro (by first|(apply lu<;>exact aT)|(apply V7<;>exact aT)) ?_|with_reducible apply dp|with_reducible apply mr|apply fY|refine a7 PN χ ψ ?_)<;>simp only[go_sem,aE])
 apply fu;simp[ah,aE,he]
def PF:List (List bK):=cB 15 [14348906,14348904,14348898,14348880,14348826,14086224,14085738,14084280,14266773,14338944,14299578,14174919,13817466,12754584,9565938]
attribute [go_sem] PF
theorem afe(id:Int)(p:aL)(cJ:List ab)(k:Nat)(h:k<p.bV.length):(p.bV.take (k+1)).foldl (lQ id) cJ=lQ id ((p.bV.take k).foldl (lQ id) cJ) p.bV[k]:=by
 rw[gO,cy h,arD];rfl
theorem aff(id:Int)(l:List aL)(i:Nat)(h:i<l.length):(l.take (i+1)).foldl (so id) []=so id ((l.take i).foldl (so id) []) l[i]:=by
 rw[gO,cy h,arD];rfl
theorem afg(id:Int)(f:al):(bif bif decide (f.aY=8)then decide (f.ax=id)else false then decide (f.data≠[])else false)=nf id f:=by
 unfold nf;simp only[c2]
theorem afh(c:J)(id:Int)(hz:gZ c):aM 114 [.agg (J.enc c),.one (.i id)] [.one (.azA (DK c.ai id))]:=by
 refine ayE 63 func114 call114 [.tmp 4] ?_;obtain⟨-,-,afi,Du⟩:=hz;have ah:DK c.ai id=c.ai.foldl (so id) []:=rfl;simp only[go_sem];refine cb.intro (α:=Nat×List ab) (λy=>⟨(.an::.i id::.ptr 0 0 0::.an::.an::.sl 1 0 y.2.length::.i y.1::aA 56 []),[.box (J.bx c),.azv y.2]⟩)
  (λy=>c.ai.length-y.1) (λy=>y.1<=c.ai.length/\y.2=(c.ai.take y.1).foldl (so id) []) (0,[]) [0,1] ⟨by simp,by simp⟩ ?_ ?_
 ·simp only[go_sem];simp
 rintro⟨i,ys⟩ ⟨hi,hy⟩;simp only at hi hy;by_cases h1:i<c.ai.length
 ·have aq:=aro (i:=i) (n:=c.ai.length);have az:=b_ aL.enc c.ai i h1;have hw:=asc (i:=i);have b4:=aff id c.ai i h1;rw[<-hy]at b4;have DL:=Du _ (eK h1);have K':ys.length<=500 * i:=by
   rw[hy];have:=VQ (id:=id) (c.ai.take i) [] λp hp=>Du p (atL hp);have cR:(c.ai.take i).length=i:=by simp;omega
   simp only[cR,g1]at this;omega
  generalize c.ai[i]=p at *;have afj:=DL.1;rw[show so id ys p=p.bV.foldl (lQ id) ys from rfl]at b4
  try simp only[go_sem,I,aq]
  refine cb.intro (α:=Nat×List ab) (λy=>⟨(.an::.i id::.ptr 0 0 0::.an::.an::.sl 1 0 y.2.length::.i i::.i y.1::aA 55 []),[.box (J.bx c),.azv y.2]⟩)
   (λy=>p.bV.length-y.1) (λy=>y.1<=p.bV.length/\y.2=(p.bV.take y.1).foldl (lQ id) ys) (0,ys) [0,1] ⟨by simp,by simp⟩ ?_ ?_
  ·simp only[go_sem];simp
  rintro⟨k,zs⟩ ⟨hk,mO⟩;simp only at hk mO;by_cases h2:k<p.bV.length
  ·have gv:=aro (i:=k) (n:=p.bV.length);have mq:=b_ al.enc p.bV k h2;have jx:=asc (i:=k);have ye:=afe id p ys k h2;rw[<-mO]at ye;have HP:zs.length<=500 * i+k:=by
    rw[mO];have ao:=PG id (p.bV.take k) ys;have cR:(p.bV.take k).length=k:=by simp;omega
    omega
   generalize p.bV[k]=f at *;have hg:=afg id f
   try simp only[go_sem,I,aF,az,mq,aL.enc,al.enc,gv]
   repeat'(first|(apply bo<;>simp only[go_sem])|refine⟨ae7,?_⟩|fail)
   rw[hg];cases hb:nf id f
   ·have hc:lQ id zs f=zs:=by unfold lQ;rw[hb];rfl
    simp only[go_sem];refine bt.intro (k+1,zs) [0,1] ⟨by simp only;omega,by simp only;rw[ye,hc]⟩ (show p.bV.length-(k+1)<p.bV.length-k by omega) ?_;simp only[go_sem,jx];simp
   have afk:zs.length<=1048576:=by omega
   have hc:lQ id zs f=f' zs ⟨f.aP,i64.wrap (f.aP+(f.data.length:Int))⟩:=by unfold lQ;rw[hb];rfl
   try simp only[go_sem,I]
   repeat'(refine af.intro (by(apply sq<;>exact aT)) ?_<;>simp only[go_sem,I])
   refine bt.intro (k+1,f' zs ⟨f.aP,i64.wrap (f.aP+(f.data.length:Int))⟩) [0,3] ⟨by simp only;omega,by simp only;rw[ye,hc]⟩ (show p.bV.length-(k+1)<p.bV.length-k by omega) ?_;simp only[go_sem,jx];simp
  obtain⟨gv,rfl⟩:=arn (i:=k) (n:=p.bV.length);rw[da]at mO
  try simp only[go_sem,I,aF,az,aL.enc,gv]
  repeat'(first|refine⟨ae7,?_⟩|fail)
  refine bt.intro (i+1,zs) [0,1] ⟨by simp only;omega,by simp only;rw[b4];exact mO⟩ (show c.ai.length-(i+1)<c.ai.length-i by omega) ?_;simp only[go_sem,hw];simp
 obtain⟨aq,rfl⟩:=arn (i:=i) (n:=c.ai.length);rw[da]at hy
 try simp only[go_sem,I,aq]
 repeat'(first|refine⟨ae7,?_⟩|fail)
 simp[ah,<-hy]
theorem VR(c:J)(hz:gZ c):aM 57 [.agg (J.enc c)] [.one (.bool (DM dt c))]:=by
 refine ayE 38 func57 call57 [.tmp 2] ?_;have mo:=hz.1;have ah:DM dt c=(ew c&&c.aa.all (λs=>!sr c.ai s)):=rfl;simp only[go_sem];cases aE:ew c
 ·refine cb.intro (λ_:Unit=>⟨(.an::.ptr 0 0 0::.an::.i 0::aA 34 []),[.box (J.bx c)]⟩) (λ_=>0) (λ_=>True) () [0] trivial ?_ ?_
  ·simp only[go_sem];simp
  rintro _ _
  try simp only[go_sem,I]
  repeat'((first|refine af.intro (by(apply lu<;>exact aT)) ?_|refine av.intro (by(apply lu<;>exact aT)) ?_|apply bo)<;>simp only[go_sem,aE,asu])
  simp[ah,aE]
 refine cb.intro (λi:Nat=>⟨(.an::.ptr 0 0 0::.an::.i i::aA 34 []),[.box (J.bx c)]⟩) (λi=>c.aa.length-i) (λi=>i<=c.aa.length/\(c.aa.take i).all (λs=>!sr c.ai s)=true) 0 [0] ⟨by omega,by simp⟩ ?_ ?_
 ·simp only[go_sem];simp
 rintro i ⟨hi,he⟩;by_cases h1:i<c.aa.length
 ·have aq:=aro (i:=i) (n:=c.aa.length);have az:=b_ ae.enc c.aa i h1;have hw:=asc (i:=i);have hs:=zm (λs=>!sr c.ai s) c.aa i h1;have hn:=λh=>zn (λs=>!sr c.ai s) c.aa i h1 h;generalize c.aa[i]=s at *
  cases aH:decide (s.ag.bp<4)
  ·have lb:sr c.ai s=false:=by unfold sr;rw[aH];rfl
   try simp only[go_sem,I,aq]
   repeat'(first|((first|refine af.intro (by(apply lu<;>exact aT)) ?_|with_reducible apply cG|with_reducible apply lv|refine a7 PF χ ψ ?_)<;>simp only[go_sem,I,aF,az,ae.enc,aE,aH])|refine⟨ae7,?_⟩|fail)
   refine bt.intro (i+1) [0] ⟨by omega,by rw[hs,he,lb];rfl⟩ ω ?_;simp only[go_sem,hw];simp
  try simp only[go_sem,I,aq]
  repeat'(first|((first|refine af.intro (by(apply lu<;>exact aT)) ?_|refine av.intro (by first|(apply afh<;>exact aT)|apply VS) ?_|with_reducible apply cG|with_reducible apply mr|refine a7 PF χ ψ ?_)<;>simp only[go_sem,I,aF,az,ae.enc,aE,aH])|refine⟨ae7,?_⟩|fail)
  cases hb:decide (s.ag.bc=DK c.ai s.id)
  ·have:=hn (by unfold sr;rw[aH,hb];rfl);simp only[go_sem];simp[ah,this]
  have lb:sr c.ai s=false:=by unfold sr;rw[hb];simp
  simp only[go_sem];refine bt.intro (i+1) [0] ⟨by omega,by rw[hs,he,lb];rfl⟩ ω ?_;simp only[go_sem,hw];simp
 obtain⟨aq,rfl⟩:=arn (i:=i) (n:=c.aa.length);rw[da]at he
 try simp only[go_sem,I,aq]
 repeat'((first|refine af.intro (by(apply lu<;>exact aT)) ?_|with_reducible apply dp)<;>simp only[go_sem,aE])
 simp[ah,aE,he]
def FB(id:Int)(f:al):Bool:=decide (f.aY=8)&&decide (f.ax=id)
def pT(id:Int)(cJ:List ab)(f:al):List ab:=if FB id f then f' cJ (DN f)else cJ
def zo(id:Int)(cJ:List ab)(p:aL):List ab:=p.bV.foldl (pT id) cJ
def HQ(l:List aL)(id:Int):List ab:=l.foldl (zo id) []
theorem afl(id:Int)(f:al):(bif decide (f.aY=8)then decide (f.ax=id)else false)=FB id f:=by
 unfold FB;simp only[c2]
theorem afm(id:Int)(cJ:List ab)(f:al):(pT id cJ f).length<=cJ.length+1:=by
 unfold pT;split
 ·exact HR _ _
 omega
theorem PH(id:Int):∀(l:List al) (cJ:List ab),(l.foldl (pT id) cJ).length<=cJ.length+l.length
 |[],cJ=>by simp
 |f::l,cJ=>by
  have h1:=PH id l (pT id cJ f);have h2:=afm id cJ f;rw[An,e0];omega
theorem VT{id:Int}:∀(l:List aL) (cJ:List ab),(∀p∈l,AE p)->(l.foldl (zo id) cJ).length<=cJ.length+500 * l.length
 |[],cJ,_=>by simp
 |p::l,cJ,h=>by
  have h1:=VT (id:=id) l (zo id cJ p) λq hq=>h q (by simp[hq]);have h2:(zo id cJ p).length<=cJ.length+p.bV.length:=PH id p.bV cJ;have ao:=(h p ξ).1;rw[An,e0];omega
theorem PI{α β:Type}(g:β->α->β)(l:List α)(b:β)(i:Nat)(h:i<l.length):(l.take (i+1)).foldl g b=g ((l.take i).foldl g b) l[i]:=by
 rw[gO,cy h,arD];rfl
theorem afn(l:List aL)(id:Int)(hl:l.length<=30)(hz:∀p∈l,AE p):aM 177 [.one (.azC l),.one (.i id)] [.one (.azA (HQ l id))]:=by
 refine ayE 47 func177 call177 [.tmp 4] ?_;have ah:HQ l id=l.foldl (zo id) []:=rfl;simp only[go_sem,I];refine cb.intro (α:=Nat×List ab) (λy=>⟨(.an::.i id::aA 3 (.sl 0 0 y.2.length::aA 5 (.d (.azC l)::.i l.length::.i y.1::aA 33 []))),[.azv y.2]⟩)
  (λy=>l.length-y.1) (λy=>y.1<=l.length/\y.2=(l.take y.1).foldl (zo id) []) (0,[]) [0] ⟨by simp,by simp⟩ ?_ ?_
 ·simp only[go_sem];simp
 rintro⟨i,ys⟩ ⟨hi,hy⟩;simp only at hi hy;by_cases h1:i<l.length
 ·have aq:=aro (i:=i) (n:=l.length);have az:=b_ aL.enc l i h1;have hw:=asc (i:=i);have b4:=PI (zo id) l [] i h1;rw[<-hy]at b4;have DL:=hz _ (eK h1);have K':ys.length<=500 * i:=by
   rw[hy];have:=VT (id:=id) (l.take i) [] λp hp=>hz p (atL hp);have cR:(l.take i).length=i:=by simp;omega
   simp only[cR,g1]at this;omega
  generalize l[i]=p at *;have afj:=DL.1;rw[show zo id ys p=p.bV.foldl (pT id) ys from rfl]at b4
  try simp only[go_sem,I,aF,az,aL.enc,aq]
  repeat'(first|refine⟨ae7,?_⟩|fail)
  refine cb.intro (α:=Nat×List ab) (λy=>⟨(.an::.i id::aA 3 (.sl 0 0 y.2.length::aA 5 (.d (.azC l)::.i l.length::.i i::aA 4 (.d (.azE p.bV)::.i p.bV.length::.i y.1::aA 26 [])))),[.azv y.2]⟩)
   (λy=>p.bV.length-y.1) (λy=>y.1<=p.bV.length/\y.2=(p.bV.take y.1).foldl (pT id) ys) (0,ys) [0] ⟨by simp,by simp⟩ ?_ ?_
  ·simp only[go_sem];simp
  rintro⟨k,zs⟩ ⟨hk,mO⟩;simp only at hk mO;by_cases h2:k<p.bV.length
  ·have gv:=aro (i:=k) (n:=p.bV.length);have mq:=b_ al.enc p.bV k h2;have jx:=asc (i:=k);have ye:=PI (pT id) p.bV ys k h2;rw[<-mO]at ye;have HP:zs.length<=500 * i+k:=by
    rw[mO];have ao:=PH id (p.bV.take k) ys;have cR:(p.bV.take k).length=k:=by simp;omega
    omega
   generalize p.bV[k]=f at *;have hg:=afl id f
   try simp only[go_sem,I,aF,mq,al.enc,gv]
   repeat'(first|(apply bo<;>simp only[go_sem])|refine⟨ae7,?_⟩|fail)
   rw[hg];cases hb:FB id f
   ·have hc:pT id zs f=zs:=by unfold pT;rw[hb];rfl
    simp only[go_sem];refine bt.intro (k+1,zs) [0] ⟨by simp only;omega,by simp only;rw[ye,hc]⟩ (show p.bV.length-(k+1)<p.bV.length-k by omega) ?_;simp only[go_sem,jx];simp
   have afk:zs.length<=1048576:=by omega
   have hc:pT id zs f=f' zs ⟨f.aP,i64.wrap (f.aP+(f.data.length:Int))⟩:=by unfold pT;rw[hb];rfl
   try simp only[go_sem,I]
   repeat'(refine af.intro (by(apply HS<;>exact aT)) ?_<;>simp only[go_sem,I])
   refine bt.intro (k+1,f' zs ⟨f.aP,i64.wrap (f.aP+(f.data.length:Int))⟩) [2] ⟨by simp only;omega,by simp only;rw[ye,hc]⟩ (show p.bV.length-(k+1)<p.bV.length-k by omega) ?_;simp only[go_sem,jx];simp
  obtain⟨gv,rfl⟩:=arn (i:=k) (n:=p.bV.length);rw[da]at mO
  try simp only[go_sem,I,gv]
  refine bt.intro (i+1,zs) [0] ⟨by simp only;omega,by simp only;rw[b4];exact mO⟩ (show l.length-(i+1)<l.length-i by omega) ?_;simp only[go_sem,hw];simp
 obtain⟨aq,rfl⟩:=arn (i:=i) (n:=l.length);rw[da]at hy
 try simp only[go_sem,I,aq]
 repeat'(first|refine⟨ae7,?_⟩|fail)
 simp[ah,<-hy]
def VO:List (List bK):=cB 6 [692,690,724,706,648,486]
attribute [go_sem] VO
def mS(DI:Bool)(s:ae):Bool:=jw DI s.id
def gS(DI:Bool)(s:ae):Bool:=!jw DI s.id&&(s.gu&&la s.id)
def gT(DI:Bool)(s:ae):Bool:=!jw DI s.id&&(s.gu&&!la s.id)
def nV(Fy:ae->Bool)(DI:Bool)(s:ae):Bool:=!jw DI s.id&&(s.gu != Fy s)
def DJ(c:J):Bool:=
 decide (((c.aa.countP (mS c.bq):Nat):Int)=i64.wrap (c.eY.iy+c.eZ.iy)) &&
 decide (i64.wrap ((c.aa.length:Int)-(c.aa.countP (mS c.bq):Nat))=i64.wrap (c.dB.seen+c.dC.seen)) &&
 decide (((c.aa.countP (gT c.bq):Nat):Int)=c.dB.cX)&&decide (((c.aa.countP (gS c.bq):Nat):Int)=c.dC.cX)
def qA(ok Fy:ae->Bool)(c:J):Bool:=oi ok c&&c.aa.all (λs=>!nV Fy c.bq s)&&DJ c
theorem Fz{α:Type}(p:α->Bool)(xs:List α)(i:Nat)(h:i<xs.length):(xs.take (i+1)).countP p=(xs.take i).countP p+(if p xs[i]then 1 else 0):=by
 rw[gO,cy h,auG];simp[asZ]
theorem VP(c:J)(hz:gZ c):aM 58 [.agg (J.enc c)] [.one (.bool (qA dt gL c))]:=by
 refine ayE 95 func58 call58 [.tmp 2] ?_;have mo:=hz.1;have mT:=hz.2.1;have ah:qA dt gL c=(ew c&&c.aa.all (λs=>!nV gL c.bq s)&&DJ c):=rfl;simp only[go_sem];cases aE:ew c
 ·refine cb.intro (λ_:Unit=>⟨(.an::.ptr 0 0 0::.an::.i 0::.i 0::.i 0::.i 0::aA 88 []),[.box (J.bx c)]⟩) (λ_=>0) (λ_=>True) () [0] trivial ?_ ?_
  ·simp only[go_sem];simp
  rintro _ _
  try simp only[go_sem,I]
  repeat'((first|refine af.intro (by(apply lu<;>exact aT)) ?_|refine av.intro (by(apply lu<;>exact aT)) ?_|with_reducible apply dp|apply bo)<;>simp only[go_sem,aE,asu])
  simp[ah,aE]
 refine cb.intro (λi:Nat=>⟨(.an::.ptr 0 0 0::.an::.i ((c.aa.take i).countP (mS c.bq):Nat)::.i ((c.aa.take i).countP (gT c.bq):Nat)::.i ((c.aa.take i).countP (gS c.bq):Nat)::.i i::aA 88 []),[.box (J.bx c)]⟩) (λi=>c.aa.length-i) (λi=>i<=c.aa.length/\(c.aa.take i).all (λs=>!nV gL c.bq s)=true) 0 [0] ⟨by omega,by simp⟩ ?_ ?_
 ·simp only[go_sem];simp
 rintro i ⟨hi,he⟩;by_cases h1:i<c.aa.length
 ·have aq:=aro (i:=i) (n:=c.aa.length);have az:=b_ ae.enc c.aa i h1;have hw:∀k:Nat,k<=i->i64.wrap ((k:Int)+1)=((k+1:Nat):Int):=by intro k hk;rw[bw]<;>omega
  have hs:=zm (λs=>!nV gL c.bq s) c.aa i h1;have hn:=λh=>zn (λs=>!nV gL c.bq s) c.aa i h1 h;have a5:=mT _ (eK h1);have c1:=Fz (mS c.bq) c.aa i h1;have cW:=Fz (gT c.bq) c.aa i h1;have gn:=Fz (gS c.bq) c.aa i h1;have cR:(c.aa.take i).length=i:=by simp;omega
  have gB:(c.aa.take i).countP (mS c.bq)<=i:=by have:=asp (p:=mS c.bq) (l:=c.aa.take i);omega
  have gC:(c.aa.take i).countP (gT c.bq)<=i:=by have:=asp (p:=gT c.bq) (l:=c.aa.take i);omega
  have lr:(c.aa.take i).countP (gS c.bq)<=i:=by have:=asp (p:=gS c.bq) (l:=c.aa.take i);omega
  have eP:=hw _ gB;have gl:=hw _ gC;have ke:=hw _ lr;generalize (c.aa.take i).countP (mS c.bq)=iM at *;generalize (c.aa.take i).countP (gT c.bq)=lP at *;generalize (c.aa.take i).countP (gS c.bq)=rm at *;generalize c.aa[i]=s at *;have w0:=hw i (fH _);obtain⟨afb,afc,HO,afd⟩:=a5;have HO:∀fM∈s.aU.bT.cq,fM.data.length<=1048576:=λfM hc=>by have:=HO fM hc;omega
  try simp only[go_sem,I,aq]
  repeat'(first|((first|refine af.intro (by first|(apply lu<;>exact aT)|apply FA) ?_|with_reducible apply cG)<;>simp only[go_sem,I,aF,az,ae.enc,aE])|refine⟨ae7,?_⟩|fail)
  cases aG:jw c.bq s.id
  ·rw[show mS c.bq s=false from aG]at c1
   try simp only[go_sem]
   repeat'((first|refine av.intro (by(apply PE<;>exact aT)) ?_|refine a7 VO χ ψ ?_)<;>simp only[go_sem])
   change AH (s.gu != gL s) _ _;cases hb:(s.gu != gL s)
   ·have lb:nV gL c.bq s=false:=by unfold nV;rw[hb];simp
    cases hc:s.gu
    ·rw[show gT c.bq s=false by unfold gT;rw[hc];simp]at cW;rw[show gS c.bq s=false by unfold gS;rw[hc];simp]at gn
     try simp only[go_sem]
     repeat'(first|(with_reducible apply dp<;>simp only[go_sem]))
     refine bt.intro (i+1) [0] ⟨by omega,by rw[hs,he,lb];rfl⟩ ω ?_;simp only[go_sem,w0,c1,cW,gn];simp
    cases hu:la s.id
    ·rw[show gT c.bq s=true by unfold gT;rw[hc,hu,aG];rfl]at cW;rw[show gS c.bq s=false by unfold gS;rw[hu];simp]at gn
     try simp only[go_sem]
     repeat'((first|refine af.intro (by apply AI) ?_|with_reducible apply cG)<;>simp only[go_sem,hu])
     refine bt.intro (i+1) [0] ⟨by omega,by rw[hs,he,lb];rfl⟩ ω ?_;simp only[go_sem,w0,gl,c1,cW,gn,if_true];simp
    rw[show gT c.bq s=false by unfold gT;rw[hu];simp]at cW;rw[show gS c.bq s=true by unfold gS;rw[hc,hu,aG];rfl]at gn
    try simp only[go_sem]
    repeat'((first|refine af.intro (by apply AI) ?_|with_reducible apply cG)<;>simp only[go_sem,hu])
    refine bt.intro (i+1) [0] ⟨by omega,by rw[hs,he,lb];rfl⟩ ω ?_;simp only[go_sem,w0,ke,c1,cW,gn,if_true];simp
   have:=hn (by unfold nV;rw[aG,hb];rfl);simp only[go_sem];simp[ah,this]
  rw[show mS c.bq s=true from aG]at c1;rw[show gT c.bq s=false by unfold gT;rw[aG];rfl]at cW;rw[show gS c.bq s=false by unfold gS;rw[aG];rfl]at gn;simp only[go_sem];refine bt.intro (i+1) [0] ⟨by omega,by rw[hs,he];unfold nV;rw[aG];rfl⟩ ω ?_;simp only[go_sem,w0,eP,c1,cW,gn,if_true];simp
 obtain⟨aq,rfl⟩:=arn (i:=i) (n:=c.aa.length);rw[da]at he
 try simp only[go_sem,I,aq,da]
 repeat'((first|refine af.intro (by(apply lu<;>exact aT)) ?_|with_reducible apply cG|with_reducible apply dp|apply bo)<;>simp only[go_sem,I,aE])
 apply fu;simp[ah,aE,he,DJ,aul]
def PJ:List (List bK):=cB 9 [16439,16441,16434,16416,19399,19561,18994,17536,13122]
def VU:List (List bK):=cB 8 [6209,6207,6201,6547,6493,6331,5832,4374]
def VV:List (List bK):=cB 15 [14348555,14348553,14348547,14348893,14348839,14348677,14348178,14346720,14165199,14152077,14112711,14257053,13817466,12754584,9565938]
def La:List (List bK):=cB 22 [31381059608,31381059606,31381059600,31381059582,31381059528,31381059366,31381058880,31381057422,31381053048,31381039926,31381000560,30802143213,30801788919,30800726037,31206392667,31196826729,31359447675,31273354233,30995942031,30218798142,27894275208,20920706406]
attribute [go_sem] PJ VU VV La
def xd(c:J):Prop:=aM 12 [.agg (J.enc c)] [.one (.bool (ki c))]
theorem VW(a b:ab):(decide (a.low=b.low)&&decide (a.high=b.high))=decide (a=b):=by
 have h:((decide (a.low=b.low)&&decide (a.high=b.high))=true)↔(decide (a=b)=true):=by
  cases a;cases b;simp
 cases h1:(decide (a.low=b.low)&&decide (a.high=b.high))<;>cases h2:decide (a=b)<;>simp_all
theorem afo(xs ys:List ab):aM 218 [.one (.azA xs),.one (.azA ys)] [.one (.bool (decide (xs=ys)))]:=by
 refine aW 26 func218 call218 [.tmp 4] ?_;intro ok;have hm:=gw ok;simp only[go_sem,I];refine bX (λh=>?_) (λh=>?_)
 ·simp only[go_sem];simp only[ne_eq,decide_not,ab_,eC]at h;have:xs≠ys:=λe=>h (by rw[e]);simp[this]
 simp only[ne_eq,decide_not,Bool.not_eq_false',bH]at h;simp only[go_sem,I];refine cb.intro (λi:Nat=>⟨(.d (.azA xs)::.d (.azA ys)::.an::.an::.d (.bool false)::aA 7 (.i xs.length::.i i::aA 12 [])),[]⟩)
  (λi=>xs.length-i) (λi=>i<=xs.length/\xs.take i=ys.take i) 0 [] ⟨by omega,by simp⟩ ?_ ?_
 ·simp only[go_sem];simp
 rintro i ⟨hi,he⟩;simp only[go_sem];refine bX (λh1=>?_) (λh1=>?_)
 ·simp only[bH]at h1;have DO:i<xs.length:=by omega
  have BS:i<ys.length:=by omega
  have az:=b_ ab.enc xs i DO;have mq:=b_ ab.enc ys i BS;have hw:=d8 (i:=i) (m:=xs.length) DO hm;by_cases hq:xs[i]=ys[i]
  ·have hz:(decide (xs[i].low=ys[i].low)&&decide (xs[i].high=ys[i].high)):=by rw[VW];exact br hq
   try simp only[go_sem]
   repeat'(first|(refine a7 PJ χ ψ ?_<;>simp only[go_sem,I,aF,az,mq,ab.enc,hz,hw,bz])|refine⟨ae7,?_⟩|fail)
   all_goals(refine bt.intro (i+1) [] ⟨by omega,afp he DO BS hq⟩ ω ?_;simp only[go_sem])
  have hz:(decide (xs[i].low=ys[i].low)&&decide (xs[i].high=ys[i].high))=false:=by rw[VW];exact bn hq
  have hne:xs≠ys:=λe=>by subst e;exact hq rfl
  try simp only[go_sem]
  repeat'(first|(refine a7 PJ χ ψ ?_<;>simp only[go_sem,I,aF,az,mq,ab.enc,hz,b7])|refine⟨ae7,?_⟩|fail)
  all_goals simp[hne]
 simp only[go_sem];simp only[eC]at h1;have:xs=ys:=by rw[eA ω,eA ω]at he;exact he
 simp[this]
theorem VX(xs ys:List ab):aM 176 [.one (.azA xs),.one (.azA ys)] [.one (.bool (decide (xs=ys)))]:=by
 refine aW 8 func176 call176 [.tmp 4] ?_;intro ok
 try simp only[go_sem]
 repeat'(refine af.intro (by apply afo) ?_<;>simp only[go_sem])
 all_goals simp
theorem PK(a b:Int):decide (a=b)=decide (b=a):=by by_cases h:a=b<;>simp[h,eq_comm]
theorem afq(c:J)(hz:gZ c)(qB:xd c):aM 118 [.agg (J.enc c)] [.one (.bool (qC e1 c))]:=by
 refine ayE 30 func118 call118 [.tmp 2] ?_;unfold xd at qB;have mo:=hz.1;have mT:=hz.2.1;have ah:qC e1 c=(ki c&&c.aa.all rn&&decide (lx e1 i9 c.aa=c.cn.dV)):=rfl
 try simp only[go_sem]
 repeat'((first|refine af.i ?_|refine av.i ?_)<;>simp only[go_sem])
 cases aE:ki c
 ·simp only[go_sem,b7];simp[ah,aE]
 simp only[go_sem,bz,I];refine cb.intro (λi:Nat=>⟨(.an::.ptr 0 0 0::aA 7 (.d (.azD c.aa)::.i c.aa.length::.i i::aA 18 [])),[.box (J.bx c)]⟩) (λi=>c.aa.length-i) (λi=>i<=c.aa.length/\(c.aa.take i).all rn=true) 0 [0] ⟨by omega,by simp⟩ ?_ ?_
 ·simp only[go_sem];simp
 rintro i ⟨hi,he⟩;by_cases h1:i<c.aa.length
 ·have aq:=aro (i:=i) (n:=c.aa.length);have az:=b_ ae.enc c.aa i h1;have hw:=asc (i:=i);have hs:=zm rn c.aa i h1;have hn:=λh=>zn rn c.aa i h1 h;generalize c.aa[i]=s at *
  try simp only[go_sem,I,aF,az,ae.enc,aq]
  repeat'(first|refine⟨ae7,?_⟩|fail)
  cases hb:decide (s.cL.dV≠s.ag.b0)
  ·simp only[go_sem];refine bt.intro (i+1) [0] ⟨by omega,by rw[hs,he];unfold rn;rw[hb];rfl⟩ ω ?_;simp only[go_sem,hw];simp
  have:=hn (by unfold rn;rw[hb];rfl);simp only[go_sem];simp[ah,this]
 obtain⟨aq,rfl⟩:=arn (i:=i) (n:=c.aa.length);rw[da]at he
 try simp only[go_sem,aq]
 repeat'((first|refine af.i ?_|refine av.intro (by first|assumption|(apply VY<;>exact aT)) ?_|refine a7 VU χ ψ ?_)<;>simp only[go_sem])
 simp[ah,aE,he,PK c.cn.dV]
theorem afr(c:J)(hz:gZ c)(qB:xd c):aM 119 [.agg (J.enc c)] [.one (.bool (ss e1 c))]:=by
 refine ayE 57 func119 call119 [.tmp 2] ?_;unfold xd at qB;have mo:=hz.1;have mT:=hz.2.1;have ah:ss e1 c=(ki c&&c.aa.all (λs=>!pU s)&&decide (lx e1 kj c.aa=c.c7.seen)&&decide (c.aa.foldl pV 0=c.c7.fa)):=rfl
 try simp only[go_sem]
 repeat'((first|refine af.i ?_|refine av.i ?_)<;>simp only[go_sem])
 cases aE:ki c
 ·simp only[go_sem,b7];simp[ah,aE]
 simp only[go_sem,bz,I];refine cb.intro (λi:Nat=>⟨(.an::.ptr 0 0 0::.an::.i ((c.aa.take i).foldl pV 0)::aA 6 (.d (.azD c.aa)::.i c.aa.length::.i i::aA 44 [])),[.box (J.bx c)]⟩) (λi=>c.aa.length-i) (λi=>i<=c.aa.length/\(c.aa.take i).all (λs=>!pU s)=true) 0 [0] ⟨by omega,by simp⟩ ?_ ?_
 ·simp only[go_sem];simp
 rintro i ⟨hi,he⟩;by_cases h1:i<c.aa.length
 ·have aq:=aro (i:=i) (n:=c.aa.length);have az:=b_ ae.enc c.aa i h1;have hw:=asc (i:=i);have hs:=zm (λs=>!pU s) c.aa i h1;have hn:=λh=>zn (λs=>!pU s) c.aa i h1 h;have hf:=PI pV c.aa 0 i h1;generalize (c.aa.take i).foldl pV 0=r at *;generalize c.aa[i]=s at *;have hg:(bif bif s.fS then decide (s.bL.seen≠s.aU.fR)else false then true else decide (s.bL.fa<s.aU.bT.next))=pU s:=by unfold pU;cases s.fS<;>cases decide (s.bL.seen≠s.aU.fR)<;>rfl
  try simp only[go_sem,I,aF,az,ae.enc,aq]
  repeat'(first|(apply bo<;>simp only[go_sem])|refine⟨ae7,?_⟩|fail)
  rw[hg];cases hb:pU s
  ·simp only[go_sem];refine bt.intro (i+1) [0] ⟨by omega,by rw[hs,he,hb];rfl⟩ ω ?_;simp only[go_sem,hw,hf,pV];simp
  have:=hn (by rw[hb];rfl);simp only[go_sem];simp[ah,this]
 obtain⟨aq,rfl⟩:=arn (i:=i) (n:=c.aa.length);rw[da]at he
 try simp only[go_sem,aq,da]
 repeat'((first|refine af.i ?_|refine av.intro (by first|assumption|(apply VZ<;>exact aT)) ?_|apply fY|refine a7 VV χ ψ ?_)<;>simp only[go_sem])
 apply fu;simp[ah,aE,he,PK c.c7.seen,PK c.c7.fa]
def rp(l:List aL)(s:ae):Bool:=decide (s.ag.bp≠4)&&decide (s.ag.bp≠5)&&!decide (s.ag.bc=HQ l s.id)
def DP(ok:ae->Bool)(c:J):Bool:=oi ok c&&c.aa.all (λs=>!rp c.ai s)
theorem afs(c:J)(hz:gZ c)(qB:xd c):aM 120 [.agg (J.enc c)] [.one (.bool (DP e1 c))]:=by
 refine ayE 38 func120 call120 [.tmp 2] ?_;unfold xd at qB;have mo:=hz.1;have afi:=hz.2.2.1;have Du:=hz.2.2.2;have ah:DP e1 c=(ki c&&c.aa.all (λs=>!rp c.ai s)):=rfl
 try simp only[go_sem]
 repeat'((first|refine af.i ?_|refine av.i ?_)<;>simp only[go_sem])
 cases aE:ki c
 ·simp only[go_sem,b7];simp[ah,aE]
 simp only[go_sem,bz,I];refine cb.intro (λi:Nat=>⟨(.an::.ptr 0 0 0::aA 7 (.d (.azD c.aa)::.i c.aa.length::.i i::aA 26 [])),[.box (J.bx c)]⟩) (λi=>c.aa.length-i) (λi=>i<=c.aa.length/\(c.aa.take i).all (λs=>!rp c.ai s)=true) 0 [0] ⟨by omega,by simp⟩ ?_ ?_
 ·simp only[go_sem];simp
 rintro i ⟨hi,he⟩;by_cases h1:i<c.aa.length
 ·have aq:=aro (i:=i) (n:=c.aa.length);have az:=b_ ae.enc c.aa i h1;have hw:=asc (i:=i);have hs:=zm (λs=>!rp c.ai s) c.aa i h1;have hn:=λh=>zn (λs=>!rp c.ai s) c.aa i h1 h;generalize c.aa[i]=s at *
  cases aH:decide (s.ag.bp≠4)
  ·have lb:rp c.ai s=false:=by unfold rp;rw[aH];rfl
   try simp only[go_sem,I,aF,az,ae.enc,aq]
   repeat'(first|((first|with_reducible apply lv|refine a7 La χ ψ ?_)<;>simp only[go_sem,aH])|refine⟨ae7,?_⟩|fail)
   refine bt.intro (i+1) [0] ⟨by omega,by rw[hs,he,lb];rfl⟩ ω ?_;simp only[go_sem,hw];simp
  cases bR:decide (s.ag.bp≠5)
  ·have lb:rp c.ai s=false:=by unfold rp;rw[bR];simp
   try simp only[go_sem,I,aF,az,ae.enc,aq]
   repeat'(first|((first|with_reducible apply mr|with_reducible apply lv|refine a7 La χ ψ ?_)<;>simp only[go_sem,aH,bR])|refine⟨ae7,?_⟩|fail)
   refine bt.intro (i+1) [0] ⟨by omega,by rw[hs,he,lb];rfl⟩ ω ?_;simp only[go_sem,hw];simp
  try simp only[go_sem,I,aF,az,ae.enc,aq]
  repeat'(first|((first|refine af.i ?_|refine av.intro (by first|assumption|(apply afn<;>exact aT)|apply VX) ?_|with_reducible apply mr|refine a7 La χ ψ ?_)<;>simp only[go_sem,I,aH,bR])|refine⟨ae7,?_⟩|fail)
  cases hb:decide (s.ag.bc=HQ c.ai s.id)
  ·have:=hn (by unfold rp;rw[aH,bR,hb];rfl);simp only[go_sem];simp[ah,this]
  have lb:rp c.ai s=false:=by unfold rp;rw[hb];simp
  simp only[go_sem];refine bt.intro (i+1) [0] ⟨by omega,by rw[hs,he,lb];rfl⟩ ω ?_;simp only[go_sem,hw];simp
 obtain⟨aq,rfl⟩:=arn (i:=i) (n:=c.aa.length);rw[da]at he
 try simp only[go_sem,aq]
 simp[ah,aE,he]
def aaV:List (List bK):=cB 24 [282429536444,282429536442,282429536476,282429536458,282429536400,282429536238,282429279873,282429278415,282429274041,282429526275,282429486909,282429368811,282429005040,282427942158,282424753512,277378721217,277350023403,277263929961,282228651783,281453810805,279129287871,271969183278,251048476872,188286357654]
attribute [go_sem] aaV
def J5(c:J):Bool:=iz c.own&&iz c.cP&&lh e1 c.aa&&jM c.cn&&l9 c.c7
def J6(c:J):Bool:=km c.eY&&km c.eZ&&i_ c.dB&&i_ c.dC
def J7(c:J):Bool:=cd c.dw (-1) 4611686018427387903&&cd c.bU 0 1000000&&cd c.dA 0 1000000&&cd c.cX 0 255
def S_(c:J):Bool:=rl c.bU c.ai&&decide (lx e1 i9 c.aa<=c.cn.dV)&&decide (lx e1 kj c.aa<=c.c7.seen)
theorem alR(c:J):(bif bif bif bif !iz c.own then true else !iz c.cP then true else !lh e1 c.aa then true else !jM c.cn then true else !l9 c.c7)=!J5 c:=by
 unfold J5;cases iz c.own<;>cases iz c.cP<;>cases lh e1 c.aa<;>cases jM c.cn<;>cases l9 c.c7<;>rfl
theorem alS(c:J):(bif bif bif !km c.eY then true else !km c.eZ then true else !i_ c.dB then true else !i_ c.dC)=!J6 c:=by
 unfold J6;cases km c.eY<;>cases km c.eZ<;>cases i_ c.dB<;>cases i_ c.dC<;>rfl
theorem alT(c:J):(bif bif bif !cd c.dw (-1) 4611686018427387903 then true else !cd c.bU 0 1000000 then true else !cd c.dA 0 1000000 then true else !cd c.cX 0 255)=!J7 c:=by
 unfold J7;cases cd c.dw (-1) 4611686018427387903<;>cases cd c.bU 0 1000000<;>cases cd c.dA 0 1000000<;>cases cd c.cX 0 255<;>rfl
theorem alU(c:J):ki c=(J5 c&&J6 c&&J7 c&&S_ c):=by
 unfold ki oi xm DW J5 J6 J7 S_
 ac_rfl
theorem B0(c:J)(hz:gZ c):aM 12 [.agg (J.enc c)] [.one (.bool (ki c))]:=by
 refine ayE 101 func12 call12 [.tmp 2] ?_;have alV:=alR c;have alW:=alS c;have alX:=alT c;obtain⟨qK,nI,AP,H9⟩:=hz;rw[alU c]
 try simp only[go_sem]
 repeat'((first|refine af.intro (by apply aaW) ?_|refine av.intro (by first|apply aaW|(apply J8<;>exact aT)|apply Ab|apply S') ?_|apply bo)<;>simp only[go_sem])
 rw[alV]
 cases hA:J5 c with
 |false=>simp only[go_sem,b7,ap_]
 |true=>
 simp only[bz]
 try simp only[go_sem]
 repeat'((first|refine af.intro (by apply aaX) ?_|refine av.intro (by first|apply aaX|apply Ta) ?_|apply bo)<;>simp only[go_sem])
 rw[alW]
 cases hB:J6 c with
 |false=>simp only[go_sem,b7,ap_,asQ]
 |true=>
 simp only[bz]
 try simp only[go_sem]
 repeat'((first|refine af.intro (by apply j7) ?_|refine av.intro (by apply j7) ?_|apply bo)<;>simp only[go_sem])
 rw[alX]
 cases a3:J7 c with
 |false=>simp only[go_sem,b7,ap_,asQ]
 |true=>
 simp only[bz]
 try simp only[go_sem]
 repeat'((first|refine av.intro (by first|(apply afa<;>exact aT)|(apply VY<;>exact aT)|(apply VZ<;>exact aT)) ?_|apply fY|refine a7 aaV χ ψ ?_)<;>simp only[go_sem])
 apply fu;unfold S_;simp only[c2]
theorem apO(fj fk fl fm:Int):aM 89 [.agg [.i fj,.i fk,.i fl,.i fm]] [.agg [.i (jy (⟨fj,fk,fl,fm⟩:d9)).cm,.i (jy (⟨fj,fk,fl,fm⟩:d9)).aX,.i (jy (⟨fj,fk,fl,fm⟩:d9)).seen,.i (jy (⟨fj,fk,fl,fm⟩:d9)).cX],.one (.bool (q0 (⟨fj,fk,fl,fm⟩:d9)))]:=by
 refine aW 20 func89 call89 [.cell 2 34,.tmp 3] ?_;intro _
 try simp only[go_sem]
 repeat'((first|refine af.intro (by apply Ta) ?_|apply bo|refine bX (λh=>?_) (λh=>?_))<;>simp only[go_sem])
 all_goals(cases hc:q0 (⟨fj,fk,fl,fm⟩:d9)<;>first|(simp[jy,hc];done)|(simp[jy,hc];simp_all;done)|((try(simp only[bH,eC]at *));simp[jy, *];done)|(exfalso;simp[q0]at hc h;first|(simp_all;done)|(simp_all;omega)|omega|grind)|(exfalso;simp[q0,d1,c2]at *;first|(simp_all;done)|(simp_all;omega)|omega|grind))
theorem DA(l:List ae)(id:Int):aM 28 [.one (.azD l),.one (.i id)] [.one (.i (g2 (eB id) l))]:=by
 refine aW 8 func28 call28 [.tmp 4] ?_;intro ok;have hm:=gw ok;clear ok;simp only[go_sem];refine af.inl (gi (n:=19) (rs:=[.tmp 4]) func81 rfl call81 bE rfl rfl ?_);simp only[go_sem,I];refine cb.intro (λi:Nat=>⟨(.d (.azD l)::.fn 82 [.ptr 0 0 0]::.an::.an::.i 0::.an::.an::.i l.length::.i i::aA 10 []),[.box [.i id]]⟩)
  (λi=>l.length-i) (λi=>i<=l.length/\(l.take i).any (eB id)=false) 0 [0] ⟨by omega,by simp⟩ ?_ ?_
 ·simp only[go_sem];simp
 rintro i ⟨hi,he⟩;by_cases h1:i<l.length
 ·have aq:=aro (i:=i) (n:=l.length);have az:=b_ ae.enc l i h1;have hw:=d8 h1 hm;simp only[go_sem,I,aF,az,ae.enc,aq];refine⟨⟨by omega,by omega⟩,?_⟩;refine af.inl (gi (n:=8) (rs:=[.tmp 3]) func82 rfl call82 bE rfl rfl ?_);simp only[go_sem];refine bX (λh=>?_) (λh=>?_)
  ·simp only[go_sem];have:=II (eB id) l i h1 he h;simp[this]
  simp only[go_sem,hw];refine bt.intro (i+1) [0] ⟨by omega,zi _ l i h1 he h⟩ ω ?_;simp only[go_sem];simp
 obtain⟨aq,rfl⟩:=arn (i:=i) (n:=l.length);rw[da]at he;simp only[go_sem,aq];simp[Mf _ _ he]
theorem apP(c:J):aM 132 [.agg (J.enc c)] [.one (.bool (decide (c.cX≠0)))]:=by
 refine aW 6 func132 call132 [.tmp 2] ?_;intro _
 try simp only[go_sem]
theorem LC(c:J)(hz:gZ c):aM 77 [.agg (J.enc c)] [.one (.bool (ki c&&decide (c.cX=0)))]:=by
 refine ayE 10 func77 call77 [.tmp 2] ?_
 try simp only[go_sem]
 repeat'((first|refine af.intro (by(apply B0<;>exact aT)) ?_|refine av.intro (by apply apP) ?_|apply bo)<;>simp only[go_sem])
 all_goals(apply fu;simp)
section
variable {P:Program} {kv:List V} {c:Code} {σ:St} {K:St->Prop} {aw:List (Nat×(St->Prop))} {dc:St->Prop}
theorem pR(hm:P.follows .mixedOrders)(k:Nat)(h:codeE P kv (BM k c) σ (b1 (λσ'=>hG P kv (Dj k c) σ' K aw dc) .mk) aw dc):hG P kv c σ K aw dc:=UX hm k c σ h λ_ h=>h
theorem UY{σ':St}(hs:sZ σ σ')(h:hG P kv c σ' K aw dc):hG P kv c σ K aw dc:=λB w0 kp Q a w b' cg dm a1 r=>h B w0 kp Q a w b' cg dm a1 (GD hs r)
theorem DB(id cC:Nat)(h:GK id cC σ (b1 (λmd=>hG P kv c md K aw dc) .mk)):hG P kv c σ K aw dc:=by
 obtain⟨md,h1,h2⟩:=R0 h;exact UY h1 h2
theorem abi(id:Nat)(h:CN id σ (b1 (λmd=>hG P kv c md K aw dc) .mk)):hG P kv c σ K aw dc:=by
 obtain⟨md,h1,h2⟩:=MZ h;exact UY h1 h2
end
def i1(r:ab)(n:Int):Bool:=decide (r.low<=n)&&decide (n<r.high)
def cp(xs:List ab)(n:Int):Bool:=xs.any λr=>i1 r n
theorem nA{r:ab}{n:Int}:i1 r n↔r.low<=n/\n<r.high:=by simp[i1]
theorem r5(n:Int):cp [] n=false:=rfl
theorem mM(x:ab)(xs:List ab)(n:Int):cp (x::xs) n=(i1 x n||cp xs n):=by simp[cp]
theorem acW(xs ys:List ab)(n:Int):cp (xs++ys) n=(cp xs n||cp ys n):=by simp[cp]
theorem Hi{xs:List ab}{n:Int}:cp xs n↔∃r∈xs,r.low<=n/\n<r.high:=by simp[cp,i1]
theorem Ud{a b:Bool}(h:a↔b):a=b:=by cases a<;>cases b<;>simp_all
theorem Ue(n:Int):∀(xs:List ab) (r:ab),(∀x∈xs,c8 x=true)->c8 r->cp (oJ xs r) n=(cp xs n||i1 r n)
 |[],r,_,_=>by simp[oJ,cp]
 |x::xs,r,h1,hr=>by
  have hx:=(gr _).1 (h1 x ξ);have lX:=(gr _).1 hr;have nH:∀y∈xs,c8 y:=λy hy=>h1 y (by simp[hy]);rw[oJ];split
  ·rw[mM,mM,Ue n xs r nH hr,azY]
  split
  ·rw[mM,Bool.or_comm]
  have hm:c8 ⟨cu r.low x.low,dJ r.high x.high⟩:=by
   rw[gr];simp only[cu,dJ];refine⟨?_,?_,?_⟩<;>(repeat' split)<;>omega
  rw[Ue n xs _ nH hm,mM];apply Ud;simp only[arG,nA,cu,dJ]
  repeat' split
  all_goals(constructor<;>intro h<;>rcases h with h|h<;>(try(rcases h with h|h))<;>(first|(exact .inl (.inl ω))|(exact .inl (.inr h))|(exact .inl h)|(exact .inr ω)|skip))
  all_goals(by_cases hq:x.low<=n/\n<x.high)
  all_goals first|(exact .inl (.inl hq))|(exact .inr ω)
theorem Kq{xs:List ab}{r:ab}(h:cN xs)(hr:c8 r)(n:Int):cp (f' xs r) n=(cp xs n||i1 r n):=by
 rw[Uf h hr];exact Ue n xs r ((ho xs).1 h).1 hr
theorem Hp(n:Int):∀(ys xs:List ab),cN xs->(∀y∈ys,c8 y=true)->cp (eD xs ys) n=(cp xs n||cp ys n)
 |[],xs,_,_=>by simp[eD,r5]
 |y::ys,xs,h,hy=>by
  have e:eD xs (y::ys)=eD (f' xs y) ys:=rfl;rw[e,Hp n ys _ (J0 h (hy y ξ)) (λz hz=>hy z (by simp[hz])),Kq h (hy y ξ),mM,azY]
theorem aoO{r x:ab}(hr:c8 r)(n:Int):cp (jr r x) n=(i1 x n&&!i1 r n):=by
 have h1:=(gr _).1 hr;apply Ud;unfold jr;rw[acW,arG,bm,ab_,nA];have hn:i1 r n=false↔(n<r.low\/r.high<=n):=by
  cases hb:i1 r n
  ·simp only[true_iff];rcases aAE (n<r.low)with h|h
   ·exact .inl h
   refine .inr ?_;rcases aAE (r.high<=n)with h2|h2
   ·exact h2
   exact absurd ((nA (r:=r) (n:=n)).2 ⟨by omega,by omega⟩) (by rw[hb];decide)
  rw[nA]at hb;simp;omega
 rw[hn];constructor
 ·rintro(h|h)
  ·split at h
   ·rw[mM,r5,ata,nA]at h;simp only[cu]at h;split at h<;>omega
   cases h
  split at h
  ·rw[mM,r5,ata,nA]at h;simp only[dJ]at h;split at h<;>omega
  cases h
 rintro⟨h2,ao|ao⟩
 ·refine .inl ?_;rw[if_pos (by simp only[cu];split<;>omega),mM,r5,ata,nA];simp only[cu];split<;>omega
 refine .inr ?_;rw[if_pos (by simp only[dJ];split<;>omega),mM,r5,ata,nA];simp only[dJ];split<;>omega
theorem Ug{f:ab->List ab}{n:Int}:∀(xs:List ab),cp (xs.flatMap f) n=xs.any λx=>cp (f x) n
 |[]=>rfl
 |x::xs=>by rw[arM,acW,aur,Ug xs]
theorem acX{xs:List ab}{p:ab->Bool}{b:Bool}:(xs.any λx=>p x&&b)=(xs.any p&&b):=by
 induction xs with
 |nil=>cases b<;>rfl
 |cons x xs c_=>rw[aur,aur,c_];cases p x<;>cases b<;>simp
theorem Uh{xs:List ab}{r:ab}(h:cN xs)(hr:c8 r)(n:Int):cp (nw xs r) n=(cp xs n&&!i1 r n):=by
 unfold nw;rw[h,hr,asg,if_pos rfl,Ug];simp only[aoO hr];exact acX
theorem aoP(x y:ab)(n:Int):cp (gj x y) n=(i1 x n&&i1 y n):=by
 apply Ud;unfold gj;rw[bm,nA,nA];constructor
 ·intro h;split at h
  ·rw[mM,r5,ata,nA]at h;simp only[cu,dJ]at h;split at h<;>split at h<;>omega
  cases h
 rintro⟨h1,h2⟩;rw[if_pos (by simp only[cu,dJ];split<;>split<;>omega),mM,r5,ata,nA];simp only[cu,dJ];split<;>split<;>omega
theorem T3{xs:List ab}{r:ab}(h:cN xs)(hr:c8 r)(n:Int):cp (gy xs [r]) n=(cp xs n&&i1 r n):=by
 have h1:cN [r]:=(ho _).2 ⟨by simpa using hr,by simp⟩;unfold gy;rw[h,h1,asg,if_pos rfl,Ug];have:(λx=>cp ([r].flatMap (gj x)) n)=λx=>i1 x n&&i1 r n:=by
  funext x
  rw[arM,List.flatMap_nil,ix,aoP]
 rw[this];exact acX
theorem acY(n:Int):∀(c hj:List ab),cN hj->(∀y∈c,c8 y=true)->cp (ia hj c) n=(cp hj n&&!cp c n)
 |[],hj,_,_=>by simp[ia,r5]
 |y::c,hj,h,hy=>by
  have e:ia hj (y::c)=ia (nw hj y) c:=rfl;rw[e,acY n c _ (SV h).1 (λz hz=>hy z (by simp[hz])),Uh h (hy y ξ),mM,Bool.not_or,aul]
def js(p:Int->Bool)(E:Nat):Nat:=(pv E).countP λk:Nat=>p (k:Int)
theorem Ah(p:Int->Bool)(E:Nat):js p (E+1)=js p E+(if p (E:Int)then 1 else 0):=by
 unfold js;rw[List.range_succ,auG,asZ,List.countP_nil];simp
theorem Oy(p:Int->Bool)(E:Nat):js p E<=E:=by
 induction E with
 |zero=>simp[js]
 |succ E c_=>rw[Ah];split<;>omega
theorem acZ{p:Int->Bool}{E:Nat}:js p E=E↔∀n:Int,0<=n->n<E->p n:=by
 induction E with
 |zero=>simp[js];intro n h1 h2;omega
 |succ E c_=>
  have hl:=Oy p E;rw[Ah];constructor
  ·intro h n h0 h1;by_cases he:p (E:Int)=true
   ·rw[if_pos he]at h;rcases auF n E with h2|h2
    ·exact c_.1 ω n h0 h2
    have:n=(E:Int):=by omega
    rw[this];exact he
   rw[if_neg he]at h;omega
  intro h;rw[if_pos (h E ω ω),c_.2 λn h0 h1=>h n h0 ω]
theorem Ui{p q:Int->Bool}(E:Nat)(h:∀n:Int,0<=n->n<E->¬(p n/\q n=true)):js (λn=>p n||q n) E=js p E+js q E:=by
 induction E with
 |zero=>simp[js]
 |succ E c_=>
  rw[Ah,Ah,Ah,c_ λn h0 h1=>h n h0 ω];have:=h E ω ω
  show(js p E+js q E)+(if(p (E:Int)||q (E:Int))=true then 1 else 0)=_
  cases hp:p (E:Int)<;>cases hq:q (E:Int)
  ·simp
  ·simp;omega
  ·simp;omega
  exact absurd ⟨hp,hq⟩ this
theorem aoQ{r:ab}{E:Nat}(h0:0<=r.low)(h1:r.low<=r.high)(h2:r.high<=E):(js (i1 r) E:Int)=r.high-r.low:=by
 have key:∀E:Nat,(js (i1 r) E:Int)=(if(E:Int)<=r.low then 0 else if(E:Int)<=r.high then E-r.low else r.high-r.low):=by
  intro E
  induction E with
  |zero=>rw[if_pos ω];simp[js]
  |succ E c_=>
   rw[Ah,atd,c_];have hin:i1 r (E:Int)↔r.low<=(E:Int)/\(E:Int)<r.high:=nA;by_cases hq:i1 r (E:Int)=true
   ·rw[if_pos hq];have:=hin.1 hq
    repeat' split
    all_goals omega
   rw[if_neg hq];have:¬(r.low<=(E:Int)/\(E:Int)<r.high):=λg=>hq (hin.2 g)
   repeat' split
   all_goals omega
 rw[key]
 repeat' split
 all_goals omega
theorem aoR(x:ab)(xs:List ab):i2 (x::xs)=(x.high-x.low)+i2 xs:=by
 have:∀(xs:List ab) (a:Int),xs.foldl (λn r=>n+(r.high-r.low)) a=a+i2 xs:=by
  intro xs
  induction xs with
  |nil=>intro a;simp[i2]
  |cons y ys c_=>intro a;unfold i2;rw[An,An,c_,c_ (0+_)];omega
 unfold i2;rw[An,this];unfold i2;omega
theorem ac0{E:Nat}:∀(xs:List ab),(∀x∈xs,c8 x/\x.high<=E)->xs.Pairwise (λa b=>a.high<b.low)->i2 xs=js (cp xs) E
 |[],_,_=>by
  have:js (cp []) E=0:=by
   unfold js;rw[atP];intro k _;simp[r5]
  rw[this];rfl
 |x::xs,h,hp=>by
  obtain⟨h1,h2⟩:=h x ξ;have hr:=(gr _).1 h1;rw[ag_]at hp;rw[aoR,ac0 xs (λy hy=>h y (by simp[hy])) hp.2];have e:cp (x::xs)=λn=>i1 x n||cp xs n:=by funext n;exact mM x xs n
  rw[e,Ui,atd,aoQ hr.1 ω h2];rintro n _ _ ⟨b5,b8⟩;rw[nA]at b5;obtain⟨y,hy,dI⟩:=Hi.1 b8;have:=hp.1 y hy;omega
theorem Oz{xs:List ab}{E:Nat}(h:l2 E xs):jH xs=js (cp xs) E:=by
 have h1:=(ho xs).1 h.1;unfold jH;rw[if_pos h.1];exact ac0 xs (λx hx=>⟨h1.1 x hx,h.2 x hx⟩) h1.2
theorem Ku{xs:List ab}{E n:Int}(h:l2 E xs)(hc:cp xs n):0<=n/\n<E:=by
 obtain⟨r,hr,h1⟩:=Hi.1 hc;have h2:=(gr _).1 (((ho xs).1 h.1).1 r hr);have:=h.2 r hr;omega
theorem ac1{P:Int->Prop}:∀(xs:List ab) (f:Int),(∀x∈xs,c8 x=true)->xs.Pairwise (λa b=>a.high<b.low)->
  f<=xs.foldl iK f/\(∀n,f<=n->n<xs.foldl iK f->cp xs n=true)/\cp xs (xs.foldl iK f)=false
 |[],f,_,_=>⟨by simp,λn h1 h2=>by simp at h2;omega,rfl⟩
 |x::xs,f,h,hp=>by
  have hx:=(gr _).1 (h x ξ);rw[ag_]at hp;obtain⟨b5,b8,dI⟩:=ac1 (P:=P) xs (iK f x) (λy hy=>h y (by simp[hy])) hp.2;rw[An];have hs:(x.low<=f/\f<x.high/\iK f x=x.high)\/(¬(x.low<=f/\f<x.high)/\iK f x=f):=by
   unfold iK;split
   ·rename_i h1;exact .inl ⟨h1.1,h1.2,rfl⟩
   rename_i h1;exact .inr ⟨h1,rfl⟩
  refine⟨by rcases hs with h1|h1<;>omega,λn h1 h2=>?_,?_⟩
  ·rw[mM,arG];rcases auF n (iK f x)with ao|ao
   ·refine .inl (nA.2 ?_);rcases hs with aH|aH<;>omega
   exact .inr (b8 n ao h2)
  rw[mM,dI,ata];cases hb:i1 x (xs.foldl iK (iK f x))
  ·rfl
  exfalso;rw[nA]at hb;rcases hs with aH|aH
  ·omega
  rcases auF f x.low with bR|bR
  ·
   have hlt:f<=x.low-1/\x.low-1<xs.foldl iK (iK f x):=by omega
   have eQ:=b8 (x.low-1) ω hlt.2;obtain⟨y,hy,i'⟩:=Hi.1 eQ;have:=hp.1 y hy;omega
  omega
theorem T5{xs:List ab}(h:cN xs):0<=jc xs 0/\(∀n,0<=n->n<jc xs 0->cp xs n=true)/\cp xs (jc xs 0)=false:=by
 have h1:=(ho xs).1 h;have e:jc xs 0=xs.foldl iK 0:=by
  unfold jc Ai;rw[h];rfl
 rw[e];exact ac1 (P:=λ_=>True) xs 0 h1.1 h1.2
structure EV(p f a:List ab)(E:Int):Prop where
 all:∀n,0<=n->n<E->cp p n\/cp f n\/cp a n=true
 Kt:∀n,cp p n->cp f n->False
 pa:∀n,cp p n->cp a n->False
 Ou:∀n,cp f n->cp a n->False
theorem ac2(p q:Int->Bool)(E:Nat):js (λn=>p n||q n) E+js (λn=>p n&&q n) E=js p E+js q E:=by
 induction E with
 |zero=>simp[js]
 |succ E c_=>
  rw[Ah,Ah,Ah,Ah];cases p (E:Int)<;>cases q (E:Int)<;>simp<;>omega
theorem Uj{p:Int->Bool}{E:Nat}(h:js p E=0):∀n:Int,0<=n->n<E->p n->False:=by
 intro n h0 h1 hp;unfold js at h;rw[atP]at h;have:=h n.toNat (asl.2 ω);rw[auz h0]at this;exact this hp
theorem aoS{s:aD}{B:Int}(hi:eJ B s)(hB:B<=1000000):(jH (nB s)=s.aB.bS/\Aj s=s.aB.bS)↔EV s.bC s.bc s.bJ s.aB.bS:=by
 have h0:=hi.c3;have h1:=hi.ak;obtain⟨E,ah⟩:=mU h0;have hp:=hi.p;have hf:=hi.f;have ha:=hi.a;have ac3:=((ho _).1 hf.1).1;have ac4:=((ho _).1 ha.1).1;have g_:l2 s.aB.bS (eD s.bC s.bc):=z9 _ _ hp λy hy=>⟨ac3 y hy,hf.2 y hy⟩;have h6:l2 s.aB.bS (nB s):=z9 _ _ g_ λy hy=>⟨ac4 y hy,ha.2 y hy⟩;have c1:cp (nB s)=λn=>(cp s.bC n||cp s.bc n)||cp s.bJ n:=by
  funext n
  unfold nB;rw[Hp n _ _ g_.1 ac4,Hp n _ _ hp.1 ac3]
 have sG:=Oy (cp s.bC) E;have ayO:=Oy (cp s.bc) E;have ayP:=Oy (cp s.bJ) E;have ak:=ac2 (cp s.bC) (cp s.bc) E;have ar:=ac2 (λn=>cp s.bC n||cp s.bc n) (cp s.bJ) E;unfold Aj;rw[ah]at h6 hp hf ha⊢;rw[Oz h6,Oz hp,Oz hf,Oz ha,c1];rw[bw (n:=(js (cp s.bC) E:Int)+js (cp s.bc) E) ω ω,bw ω ω];constructor
 ·rintro⟨b5,b8⟩;have dI:js (λn=>(cp s.bC n||cp s.bc n)||cp s.bJ n) E=E:=by omega
  have qK:js (λn=>cp s.bC n&&cp s.bc n) E=0:=by omega
  have nI:js (λn=>(cp s.bC n||cp s.bc n)&&cp s.bJ n) E=0:=by omega
  refine⟨λn mg k1=>?_,λn mg k1=>?_,λn mg k1=>?_,λn mg k1=>?_⟩
  ·have:=acZ.1 dI n mg k1;simp only[arG,or_assoc]at this;exact this
  ·obtain⟨cV,dh⟩:=Ku hp mg;exact Uj qK n cV dh (by simp only[mg,k1,asg])
  ·obtain⟨cV,dh⟩:=Ku hp mg;exact Uj nI n cV dh (by simp only[mg,k1,att,asg])
  obtain⟨cV,dh⟩:=Ku hf mg;exact Uj nI n cV dh (by simp only[mg,k1,auk,asg])
 rintro⟨b5,b8,dI,lf⟩;have dG:js (λn=>(cp s.bC n||cp s.bc n)||cp s.bJ n) E=E:=acZ.2 λn mg k1=>by
  simp only[arG,or_assoc];exact b5 n mg k1
 have qK:=Ui (p:=cp s.bC) (q:=cp s.bc) E λn _ _ hh=>b8 n hh.1 hh.2;have nI:=Ui (p:=λn=>cp s.bC n||cp s.bc n) (q:=cp s.bJ) E λn _ _ hh=>by
  rcases asT.1 hh.1 with h|h
  ·exact dI n h hh.2
  exact lf n h hh.2
 rw[dG]at nI;exact⟨by rw[dG],by omega⟩
theorem aoT{s:aD}{B:Int}(hi:eJ B s)(h:jH (nB s)=s.aB.bS):(decide (0<s.aB.bS)&&decide (q_ (nB s)≠s.aB.bS))=false:=by
 have hp:=hi.p;have hf:=hi.f;have ha:=hi.a;have g_:l2 s.aB.bS (eD s.bC s.bc):=z9 _ _ hp λy hy=>⟨((ho _).1 hf.1).1 y hy,hf.2 y hy⟩;have h6:l2 s.aB.bS (nB s):=z9 _ _ g_ λy hy=>⟨((ho _).1 ha.1).1 y hy,ha.2 y hy⟩;by_cases h0:0<s.aB.bS
 ·have:=ac5 h6.1 h6.2 h h0;simp[this]
 simp[h0]
theorem aoU{xs:List ab}{n:Int}:below xs n↔∀x∈xs,x.high<=n:=by simp[below]
structure BH(s:aD):Prop where
 aB:i0 s.aB=true
 jI:0<=s.b0
 dW:s.b0<=s.aB.bS
 OA:0<=s.aS/\s.aS<=3
 part:EV s.bC s.bc s.bJ s.aB.bS
 EU:jc s.bJ 0=s.aB.base
 cS:s.cS=0
 Da:∀x∈s.bc,x.high<=s.b0
 EW:∀x∈s.bJ,x.high<=s.b0
 dG:s.aS=0↔s.bf=-1
 e9:s.bf≠-1->s.bf=s.aB.bS
theorem Oj{s:aD}(h:s.bp<=3):jD s=false:=by
 unfold jD;rw[bn (show ¬s.bp=4 by omega),bn (show ¬s.bp=5 by omega)];rfl
theorem Kn{s:aD}{B:Int}(hi:eJ B s)(hB:B<=1000000)(hr:jD s=false):dU s↔BH s/\s.bp=h7 s:=by
 have ac6:=aoS hi hB;have TS:=hi.p.1;have aoV:=hi.f.1;have aoW:=hi.a.1;unfold dU;rw[hr,if_neg ζ];simp only[lK,pb,BB,cd,bm,ed,bH,ab_,beq_iff_eq,aoU];constructor
 ·rintro⟨k1,_,_,_,ka,Ew,Jt,Ex,Ju,sX,xI,Em,En,OB,eH,eG,dG,e9,i7⟩;refine⟨⟨k1,ka,Ew,⟨Ex,Ju⟩,ac6.1 ⟨sX,xI⟩,En,OB,eH,eG,?_,?_⟩,i7⟩
  ·rw[decide_eq_decide]at dG;exact dG
  intro hn;rw[arR,eC,eC]at e9;rcases e9 with h|h
  ·exact absurd hn h
  exact asr.1 h
 rintro⟨⟨k1,ka,Ew,⟨Ex,Ju⟩,Uk,En,OB,eH,eG,dG,e9⟩,i7⟩;obtain⟨sX,xI⟩:=ac6.2 Uk;refine⟨k1,TS,aoV,aoW,ka,Ew,?_,Ex,Ju,sX,xI,aoT hi sX,En,OB,eH,eG,?_,?_,i7⟩
 ·rw[OB];decide
 ·rw[decide_eq_decide];exact dG
 rw[arR,eC,eC];by_cases hn:s.bf=-1
 ·exact .inl λg=>g hn
 exact .inr λg=>g (e9 hn)
theorem aoX(s:aD):(jY s).bp=h7 (jY s):=by
 show h7 s=h7 {s with bp:=h7 s}
 unfold h7;simp only;by_cases h1:s.aS=3/\s.aB.base=s.aB.bS
 ·rw[if_pos h1,if_pos h1]
 rw[if_neg h1,if_neg h1];by_cases h2:1<s.aS\/s.aS=1/\s.bp=2
 ·rw[if_pos h2];rcases h2 with h2|h2
  ·rw[if_pos (.inl h2)]
  rw[if_pos (.inr ⟨h2.1,rfl⟩)]
 rw[if_neg h2];by_cases ao:0<s.b0\/s.aS=1/\s.bp=1
 ·rw[if_pos ao];rw[if_neg ω];rcases ao with ao|ao
  ·rw[if_pos (.inl ao)]
  rw[if_pos (.inr ⟨ao.1,rfl⟩)]
 rw[if_neg ao];rw[if_neg ω,if_neg ω]
theorem TK(s:aD):0<=h7 s/\h7 s<=3:=by
 unfold h7
 repeat' split
 all_goals omega
theorem Ul{s:aD}{B:Int}(hi:eJ B s)(hB:B<=1000000)(h:BH s):dU (jY s):=by
 have b4:=TK s;exact(Kn (Nz hi) hB (Oj (s:=jY s) b4.2)).2 ⟨⟨h.aB,h.jI,h.dW,h.OA,h.part,h.EU,h.cS,h.Da,h.EW,h.dG,h.e9⟩,aoX s⟩
theorem ET{s:aD}{p:bI}{B:Int}(hi:eJ B s)(hB:B<=1000000)(h:jX s p):0<=(dD p).low/\(dD p).high<=s.aB.bS/\(p.data≠[]->c8 (dD p)=true)/\(dD p).low=p.aP/\(dD p).high=p.aP+p.data.length/\p.data.length<=1000000:=by
 have h0:=hi.c3;have h1:=hi.ak;have hh:=h;simp only[jX,bm,bH,ed]at hh;obtain⟨b5,b8,dI,_⟩:=hh;rw[bw ω ω]at dI;obtain⟨k1,k2,dd⟩:=aaG h ω ω;refine⟨k1,k2,λhn=>(gr _).2 (by have:=dd hn;omega),rfl,?_,by omega⟩;simp only[dD];rw[bw ω ω]
theorem ac7{p f a Jz jb:List ab}{E:Int}(h:EV p f a E)(hc:∀n,(cp Jz n||cp jb n)=(cp p n||cp f n))(hd:∀n,cp Jz n->cp jb n->False):EV Jz jb a E:=by
 refine⟨λn h0 h1=>?_,hd,λn h1 h2=>?_,λn h1 h2=>?_⟩
 ·have:=h.all n h0 h1;have e:=hc n;rw[<-or_assoc,<-arG]at this⊢;rw[e];exact this
 ·have e:=hc n;rw[h1,att]at e;rcases asT.1 e.symm with g|g
  ·exact h.pa n g h2
  exact h.Ou n g h2
 have e:=hc n;rw[h1,auk]at e;rcases asT.1 e.symm with g|g
 ·exact h.pa n g h2
 exact h.Ou n g h2
theorem aoY{p f a jb a':List ab}{E:Int}(h:EV p f a E)(hc:∀n,(cp jb n||cp a' n)=(cp f n||cp a n))(hd:∀n,cp jb n->cp a' n->False):EV p jb a' E:=by
 refine⟨λn h0 h1=>?_,λn h1 h2=>?_,λn h1 h2=>?_,hd⟩
 ·have:=h.all n h0 h1;rcases this with g|g
  ·exact .inl g
  refine .inr ?_;rw[<-arG]at g⊢;rw[hc n];exact g
 ·have e:=hc n;rw[h2,att]at e;rcases asT.1 e.symm with g|g
  ·exact h.Kt n h1 g
  exact h.pa n h1 g
 have e:=hc n;rw[h2,auk]at e;rcases asT.1 e.symm with g|g
 ·exact h.Kt n h1 g
 exact h.pa n h1 g
theorem EP{s:aD}{B:Int}(hi:eJ B s)(hB:B<=1000000)(h:dU s)(hs:s.bp<=2):BH s:=((Kn hi hB (Oj ω)).1 h).1
theorem ac8{s:aD}{p:bI}{B:Int}(hi:eJ B s)(hB:B<=1000000)(h:dU s):dU (ga s p):=by
 unfold ga;split
 ·rename_i hw;have xC:=hw;simp only[iD,qY,bm,ed,arG,bH,ab_]at hw;obtain⟨_,b8,dI,_,q',sb⟩:=hw;have ok:=EP hi hB h b8;obtain⟨dh,bO,cz,df,h8,oW⟩:=ET hi hB dI;have Kx:p.aS->s.aS=1/\s.bf≠-1:=λhp=>by
   rw[hp]at q';refine⟨by simpa using q',?_⟩;simp only[jX,hp,bm,ed,bH]at dI;exact(by simpa using dI.2.2.2:_/\_).1
  have bD:eJ B (k4 s p)/\BH (k4 s p):=by
   unfold k4;split
   ·exact⟨hi,ok⟩
   rename_i hne;have hr:=cz hne;have lX:=(gr _).1 hr;have nY:gy s.bC [dD p]=[dD p]:=by
    rcases sb with g|g
    ·exact absurd g hne
    exact g
   have hin:∀n,i1 (dD p) n->cp s.bC n:=λn hn=>by
    have:=T3 hi.p.1 hr n;rw[nY,mM,r5,ata,hn,Bool.and_true]at this;exact this.symm
   refine⟨⟨aaB hi.p,JZ hi.f hr bO,hi.a,hi.c3,hi.ak,hi.c⟩,ok.aB,?_,?_,ok.OA,?_,ok.EU,ok.cS,?_,?_,ok.dG,ok.e9⟩
   ·simp only[dJ];have:=ok.jI;split<;>omega
   ·simp only[dJ];have:=ok.dW;split<;>omega
   ·refine ac7 ok.part (λn=>?_) λn h1 h2=>?_
    ·simp only;rw[Uh hi.p.1 hr,Kq hi.f.1 hr];cases hn:i1 (dD p) n
     ·simp
     rw[hin n hn];simp
    rw[Uh hi.p.1 hr,bm]at h1;rw[Kq hi.f.1 hr,arG]at h2;rcases h2 with h2|h2
    ·exact ok.part.Kt n h1.1 h2
    rw[h2]at h1;exact absurd h1.2 ζ
   ·have hu:l2 (dJ s.b0 (dD p).high) s.bc:=⟨hi.f.1,λx hx=>by have:=ok.Da x hx;simp only[dJ];split<;>omega⟩;exact(JZ hu hr (by simp only[dJ];split<;>omega)).2
   intro x hx;have:=ok.EW x hx;simp only[dJ];split<;>omega
  refine Ul (aaH bD.1) hB ?_;have aoZ:(k4 s p).aS=s.aS/\(k4 s p).bf=s.bf:=by unfold k4;split<;>exact⟨rfl,rfl⟩
  obtain⟨_,Ak⟩:=bD;unfold ny;split
  ·rename_i hp;obtain⟨k1,k2⟩:=Kx hp;refine⟨Ak.aB,Ak.jI,Ak.dW,⟨by simp,by simp⟩,Ak.part,Ak.EU,Ak.cS,Ak.Da,Ak.EW,?_,Ak.e9⟩;simp only;rw[aoZ.2];constructor
   ·intro g;omega
   intro g;exact absurd g k2
  exact Ak
 ·exact h
theorem T6{s:aD}{B:Int}(hi:eJ B s){r:ab}(hr:c8 r):(∀y∈gy s.bc [r],c8 y/\y.high<=s.aB.bS)/\(∀n,cp (gy s.bc [r]) n=(cp s.bc n&&i1 r n))/\∀n,cp (ia s.bc (gy s.bc [r])) n=(cp s.bc n&&!i1 r n):=by
 have h1:=Nx (r:=r) hi.f;have h2:=λn=>T3 hi.f.1 hr n;refine⟨h1,h2,λn=>?_⟩;rw[acY n _ _ hi.f.1 λy hy=>(h1 y hy).1,h2]
 cases cp s.bc n<;>simp
theorem ac9{c:List ab}{hj:List ab}(h:cN hj){n:Int}(hb:∀x∈hj,x.high<=n):∀x∈ia hj c,x.high<=n:=(Nw (c:=c) (E:=n) ⟨h,hb⟩).2
theorem ao0{xs:List ab}{r:ab}{n:Int}(h:cN xs)(hb:∀x∈xs,x.high<=n):∀y∈gy xs [r],c8 y/\y.high<=n:=Nx (E:=n) ⟨h,hb⟩
theorem ao1{xs ys:List ab}{n:Int}(h:cN xs)(hx:∀x∈xs,x.high<=n)(hy:∀y∈ys,c8 y/\y.high<=n):∀x∈eD xs ys,x.high<=n:=(z9 (E:=n) ys xs ⟨h,hx⟩ hy).2
theorem ao2{t:aD}{p:bI}{f:Int}(h:BH t)(hf:1<=f/\f<=3)(Kx:p.aS->t.bf≠-1):BH (e_ f t p):=by
 unfold e_;split
 ·rename_i hp;simp only[bm,bH]at hp;refine⟨h.aB,h.jI,h.dW,⟨by simp only;omega,by simp only;omega⟩,h.part,h.EU,h.cS,h.Da,h.EW,?_,h.e9⟩;simp only;constructor
  ·intro g;omega
  intro g;exact absurd g (Kx hp.1)
 exact h
theorem Um{s:aD}{p:bI}(h:jX s p)(hp:p.aS):s.bf≠-1:=by
 simp only[jX,hp,bm,ed,bH]at h;exact(by simpa using h.2.2.2:_/\_).1
theorem ao3{s:aD}{p:bI}{B:Int}(hi:eJ B s)(hB:B<=1000000)(h:dU s):dU (iI s p):=by
 unfold iI;split
 ·rename_i hw;simp only[j5,bm,ed,bH]at hw;obtain⟨_,b8,dI⟩:=hw;have ok:=EP hi hB h b8;obtain⟨dh,bO,cz,df,h8,oW⟩:=ET hi hB dI;have bD:eJ B (jF s p)/\BH (jF s p):=by
   unfold jF;split
   ·exact⟨hi,ok⟩
   rename_i hne;have hr:=cz hne;obtain⟨c1,cW,gn⟩:=T6 hi hr;have OC:∀y∈gy s.bc [dD p],c8 y:=λy hy=>(c1 y hy).1;refine⟨⟨z9 _ _ hi.p c1,Nw hi.f,hi.a,hi.c3,hi.ak,hi.c⟩,ok.aB,ok.jI,ok.dW,ok.OA,?_,ok.EU,ok.cS,ac9 hi.f.1 ok.Da,ok.EW,ok.dG,ok.e9⟩;refine ac7 ok.part (λn=>?_) λn h1 h2=>?_
   ·simp only;rw[Hp n _ _ hi.p.1 OC,cW,gn];cases cp s.bC n<;>cases cp s.bc n<;>cases i1 (dD p) n<;>rfl
   simp only at h1 h2;rw[Hp n _ _ hi.p.1 OC,cW]at h1;rw[gn,bm]at h2;rcases asT.1 h1 with k|k
   ·exact ok.part.Kt n k h2.1
   rw[bm]at k;rw[k.2]at h2;exact absurd h2.2 ζ
  have ef:(jF s p).bf=s.bf:=by unfold jF;split<;>rfl
  refine Ul (SY 1 bD.1) hB (ao2 bD.2 ω λhp=>?_);rw[ef];exact Um dI hp
 ·exact h
theorem ada{cs:List Int}{b sz:Int}:∀(k:Nat) (x:Int),x∈oK cs b sz k->x∈cs\/x=0
 |0,x,h=>.inl h
 |k+1,x,h=>by
  rw[oK]at h;rcases List.mem_or_eq_of_mem_set h with h|h
  ·exact ada k x h
  exact .inr h
theorem ao4{r:dk}{t:Int}(h:i0 r)(h0:r.base<=t)(h1:t<=r.bS):i0 (k5 r t)/\(k5 r t).base=t:=by
 have hi:=oD h;have hok:ra r t:=by simp only[ra,h,af_,bm,bH];exact⟨h0,h1⟩
 unfold k5;rw[if_pos hok];refine⟨?_,rfl⟩;have h2:=h;simp only[i0,za,bm,bH,ed]at h2⊢;obtain⟨k1,k2,dd,il,ka,Ew,Jt⟩:=h2;refine⟨k1,?_,by omega,h1,?_,Ew,?_⟩
 ·rw[G0];exact k2
 ·rw[bw]<;>omega
 simp only[sc,da,ae_]at Jt⊢;intro x hx;rcases ada _ _ hx with g|g
 ·exact Jt x g
 rw[g];decide
theorem ao5{s:aD}{p:bI}{B:Int}(hi:eJ B s)(hB:B<=1000000)(h:dU s):dU (iw s p):=by
 have qc:=SZ (p:=p) hi;unfold iw at qc⊢;split
 ·rename_i hw;rw[if_pos hw]at qc;simp only[j5,bm,ed,bH]at hw;obtain⟨_,b8,dI⟩:=hw;have ok:=EP hi hB h b8;obtain⟨dh,bO,cz,df,h8,oW⟩:=ET hi hB dI;have bD:l2 s.aB.bS (fC s p).bJ/\EV (fC s p).bC (fC s p).bc (fC s p).bJ s.aB.bS/\(∀x∈(fC s p).bc,x.high<=s.b0)/\(∀x∈(fC s p).bJ,x.high<=s.b0)/\∀n,cp s.bJ n->cp (fC s p).bJ n:=by
   unfold fC;split
   ·exact⟨hi.a,ok.part,ok.Da,ok.EW,λn hn=>hn⟩
   rename_i hne;have hr:=cz hne;obtain⟨c1,cW,gn⟩:=T6 hi hr;have OC:∀y∈gy s.bc [dD p],c8 y:=λy hy=>(c1 y hy).1;have GJ:∀n,cp (eD s.bJ (gy s.bc [dD p])) n=(cp s.bJ n||(cp s.bc n&&i1 (dD p) n)):=λn=>by rw[Hp n _ _ hi.a.1 OC,cW]
   refine⟨z9 _ _ hi.a c1,?_,ac9 hi.f.1 ok.Da,ao1 hi.a.1 ok.EW (ao0 hi.f.1 ok.Da),λn hn=>by simp only;rw[GJ,hn,att]⟩;refine aoY ok.part (λn=>?_) λn h1 h2=>?_
   ·simp only;rw[GJ,gn];cases cp s.bJ n<;>cases cp s.bc n<;>cases i1 (dD p) n<;>rfl
   simp only at h1 h2;rw[GJ]at h2;rw[gn,bm]at h1;rcases asT.1 h2 with k|k
   ·exact ok.part.Ou n h1.1 k
   rw[bm]at k;rw[k.2]at h1;exact absurd h1.2 ζ
  obtain⟨adb,Uk,Li,ao6,CQ⟩:=bD;have hA:(e_ 3 (fC s p) p).bJ=(fC s p).bJ/\(e_ 3 (fC s p) p).bc=(fC s p).bc/\(e_ 3 (fC s p) p).bC=(fC s p).bC/\(e_ 3 (fC s p) p).b0=s.b0/\(e_ 3 (fC s p) p).cS=s.cS/\(e_ 3 (fC s p) p).bf=s.bf/\(fC s p).aS=s.aS:=by
   unfold e_ fC;split<;>split<;>exact⟨rfl,rfl,rfl,rfl,rfl,rfl,rfl⟩
  obtain⟨cA,db,c0,eo,fr,fQ,f_⟩:=hA;obtain⟨OD,b5,ao7⟩:=T5 adb.1;have nU:s.aB.base<=jc (fC s p).bJ 0:=by
   rcases auF (jc (fC s p).bJ 0) s.aB.base with hl|hl
   ·exfalso;obtain⟨oy,dQ,eI⟩:=T5 hi.a.1;rw[ok.EU]at dQ;have:=CQ _ (dQ _ OD hl);rw[ao7]at this;cases this
   exact hl
  have K6:jc (fC s p).bJ 0<=s.aB.bS:=by
   rcases auF s.aB.bS (jc (fC s p).bJ 0)with hl|hl
   ·exfalso;have:=b5 s.aB.bS hi.c3 hl;have:=Ku adb this;omega
   exact hl
  obtain⟨aZ,bA⟩:=ao4 ok.aB nU K6;have c9:=(NA s.aB (jc (fC s p).bJ 0)).1;have bG:(e_ 3 (fC s p) p).aS=s.aS\/((e_ 3 (fC s p) p).aS=3/\p.aS/\s.aS=2):=by
   unfold e_;split
   ·rename_i hp;simp only[bm,bH]at hp;exact .inr ⟨rfl,hp.1,by rw[<-f_];exact hp.2⟩
   exact .inl f_
  have hok:BH (qZ s.aB (e_ 3 (fC s p) p)):=by
   unfold qZ;refine⟨?_,?_,?_,?_,?_,?_,?_,?_,?_,?_,?_⟩
   ·simp only[cA];exact aZ
   ·simp only[eo];exact ok.jI
   ·simp only[eo,cA,c9];exact ok.dW
   ·have:=ok.OA;simp only;rcases bG with h|h<;>omega
   ·simp only[cA,db,c0,c9];exact Uk
   ·simp only[cA];exact bA.symm
   ·simp only[fr];exact ok.cS
   ·simp only[db,eo];exact Li
   ·simp only[cA,eo];exact ao6
   ·simp only[fQ];have:=ok.dG;rcases bG with h|⟨h,hp,h2⟩
    ·rw[h];exact this
    rw[h];have:=Um dI hp;constructor
    ·intro g;omega
    intro g;exact absurd g this
   simp only[fQ,cA,c9];exact ok.e9
  exact Ul ⟨qc.p,qc.f,qc.a,qc.c3,qc.ak,qc.c⟩ hB hok
 ·exact h
def qm(s:ae):List ae->List ae
 |[]=>[s]
 |x::l=>if s.id<x.id then s::x::l else x::qm s l
theorem acL(s:ae):∀(l cJ:List ae),l.foldl (lA s) (cJ,true)=(cJ++l,true)
 |[],cJ=>by simp
 |x::l,cJ=>by
  have e:lA s (cJ,true) x=(cJ++[x],true):=rfl;rw[An,e,acL s l];simp
theorem acM(s:ae):∀(l cJ:List ae),(if(l.foldl (lA s) (cJ,false)).2 then(l.foldl (lA s) (cJ,false)).1 else(l.foldl (lA s) (cJ,false)).1++[s])=cJ++qm s l
 |[],cJ=>by simp[qm]
 |x::l,cJ=>by
  rw[An];by_cases h:s.id<x.id
  ·have e:lA s (cJ,false) x=(cJ++[s,x],true):=by simp[lA,h]
   rw[e,acL];simp[qm,h]
  have e:lA s (cJ,false) x=(cJ++[x],false):=by simp[lA,h]
  rw[e,acM s l (cJ++[x])];simp[qm,h]
theorem TY{l:List ae}{s:ae}(h:g2 (eB s.id) l=-1):dv l s=qm s l:=by
 rw[acN h];have:=acM s l []
 rwa [cv]at this
theorem Hn{s x:ae}:∀{l:List ae},x∈qm s l↔x=s\/x∈l
 |[]=>by simp[qm]
 |y::l=>by
  unfold qm;split
  ·simp
  rw[rD,Hn,rD];constructor
  ·rintro(h|h|h)<;>simp[h]
  rintro(h|h|h)<;>simp[h]
theorem acO{s:ae}:∀{l:List ae},(l.map (λx=>x.id)).Pairwise (·<·)->s.id∉l.map (λx=>x.id)->((qm s l).map (λx=>x.id)).Pairwise (·<·)
 |[],_,_=>by simp[qm]
 |y::l,h,hn=>by
  rw[fe,ag_]at h;rw[fe,rD,not_or]at hn;unfold qm;split
  ·rename_i hlt;rw[fe,ag_];refine⟨λb hb=>?_,by rw[fe,ag_];exact h⟩;rw[fe,rD]at hb;rcases hb with rfl|hb
   ·exact hlt
   have:=h.1 b hb;omega
  rename_i hlt;rw[fe,ag_];refine⟨λb hb=>?_,acO h.2 hn.2⟩;obtain⟨x,hx,rfl⟩:=aa_.1 hb;rcases Hn.1 hx with rfl|hx
  ·omega
  exact h.1 _ (aa_.2 ⟨x,hx,rfl⟩)
theorem C_{l:List ae}{id:Int}:g2 (eB id) l=-1↔id∉l.map (λx=>x.id):=by
 constructor
 ·intro h hm;obtain⟨x,hx,e⟩:=aa_.1 hm;rcases m' (eB id) l with ⟨_,h2⟩|⟨j,aI,h1,_⟩
  ·rw[List.find?_eq_none]at h2;exact h2 x hx (by simpa [eB]using e)
  omega
 intro h;rcases m' (eB id) l with ⟨h1,_⟩|⟨j,aI,_,_,ao⟩
 ·exact h1
 exact absurd (aa_.2 ⟨l[j],eK aI,by simpa [eB]using ao⟩) h
theorem T0{l:List ae}{id:Int}:(bQ l id).2↔id∈l.map (λx=>x.id):=by
 constructor
 ·intro h;obtain⟨h1,h2⟩:=Bu h;exact aa_.2 ⟨_,h2,h1⟩
 intro h;obtain⟨x,hx,rfl⟩:=aa_.1 h;exact NB hx
theorem Ow{l:List ae}{s:ae}(hf:(bQ l s.id).2):(dv l s).map (λx=>x.id)=l.map (λx=>x.id):=by
 obtain⟨h1,h2⟩:=Bu hf;rcases m' (eB s.id) l with ⟨ao,_⟩|⟨i,hi,ao,_,aH⟩
 ·exact absurd (T0.1 hf) (C_.1 ao)
 rw[Lo ao,List.map_set];have:l[i].id=s.id:=by simpa [eB]using aH
 rw[<-this,<-ath (f:=λx:ae=>x.id) (h:=by simpa using hi)];exact List.set_getElem_self _
theorem mC{n:Int}:bN n↔0<=n/\n<=4611686018427387903:=by simp[bN,cd]
theorem Qr{m k:Nat}{x y:Int}(hx:x=m)(hy:y=k)(hm:m<2^64)(hk:k<2^64):bitI .and .i64 x y=i64.wrap ((aAg m k:Nat):Int):=by
 subst hx hy;unfold bitI;simp only
 congr 1
 have ak:BitVec.ofInt arV.bits (m:Int)=BitVec.ofNat 64 m:=by rw[BitVec.ofInt_natCast];rfl
 have ar:BitVec.ofInt arV.bits (k:Int)=BitVec.ofNat 64 k:=by rw[BitVec.ofInt_natCast];rfl
 rw[ak,ar];have ao:(HAnd.hAnd (BitVec.ofNat 64 m) (BitVec.ofNat 64 k)).toNat=aAg m k:=by
  rw[BitVec.toNat_and,BitVec.toNat_ofNat,BitVec.toNat_ofNat,asb hm,asb hk];rfl
 exact congrArg Int.ofNat ao
theorem aol{n:Int}(h:bN n):bitI .and .i64 n 1=n % 2:=by
 have hq:=mC.1 h;obtain⟨m,rfl⟩:=mU hq.1;have:=Qr (m:=m) (k:=1) rfl rfl ω ω;rw[show aAg m 1=m % 2 from aAc m]at this;rw[show(1:Int)=((1:Nat):Int)from rfl,this,bw ω ω];omega
theorem aom{n:Int}(h:bN n):bitI .and .i64 n 2=2 * (n / 2 % 2):=by
 have hq:=mC.1 h;obtain⟨m,rfl⟩:=mU hq.1;have:=Qr (m:=m) (k:=2) rfl rfl ω ω;have e:aAg m 2=2 * (m / 2 % 2):=by
  have h1:(HAnd.hAnd m 2) / 2=m / 2 % 2:=by rw[Nat.and_div_two];exact aAc _
  have h2:(HAnd.hAnd m 2) % 2=0:=by
   rcases Nat.mod_two_eq_zero_or_one (HAnd.hAnd m 2)with h|h
   ·exact h
   exact absurd (Nat.and_mod_two_eq_one.1 h).2 ζ
  show HAnd.hAnd m 2=_
  omega
 rw[e]at this;rw[show(2:Int)=((2:Nat):Int)from rfl,this,bw ω ω];omega
theorem aon{n:Int}(h:bN n):EL n=decide (n % 2=1):=by unfold EL;rw[h,aol h];rfl
theorem TN{n:Int}(h:bN n):la n=decide (n / 2 % 2=1):=by
 unfold la;rw[h,aom h,af_];exact decide_eq_decide.2 ω
theorem TM{v:Bool}{n:Int}(h:bN n):jw v n=decide (decide (n % 2=1)=v):=by unfold jw;rw[aon h,h];rfl
theorem aoo{n:Int}(h:bN n):ig n=n / 4:=by
 unfold ig;rw[h,if_pos rfl];exact Int.fdiv_eq_ediv_of_nonneg _ ω
def iJ(b:Bool):Int:=if b then 1 else 0
theorem aop{n:Int}(h0:0<=n)(h1:n<=1152921504606846975)(s u:Bool):rz n s u=4 * n+iJ s+2 * iJ u:=by
 unfold rz cd;rw[br h0,br h1];cases s<;>cases u<;>simp only[asg,if_true,if_false,ai_,iJ,Int.add_zero,Int.mul_zero,Int.mul_one]
 ·rw[bw]<;>omega
 ·rw[bw (n:=n * 4),bw]<;>omega
 ·rw[bw (n:=n * 4),bw]<;>omega
 rw[bw (n:=n * 4) ω ω,bw (n:=n * 4+1) ω ω,bw]<;>omega
structure r'(v:Bool)(o9:List Int)(o a:Bool->Int):Prop where
 q:∀n∈o9,bN n=true
 own:∀n∈o9,decide (n % 2=1)=v->n / 4<o (decide (n / 2 % 2=1))
 cP:∀n∈o9,decide (n % 2=1)≠v->n / 4<a (decide (n / 2 % 2=1))
 all:∀(u:Bool) (j:Int),0<=j->j<a u->4 * j+iJ (!v)+2 * iJ u∈o9
 hH:o9.Pairwise (·<·)
 Ng:∀u,0<=a u
def k8(c:J)(u:Bool):Int:=(ly c u).iy
def sa(c:J)(u:Bool):d9:=if u then c.dC else c.dB
def ln(c:J)(u:Bool):Int:=(sa c u).seen
def sj(c:J):List Int:=c.aa.map λx=>x.id
def jq(c:J):Prop:=r' c.bq (sj c) (k8 c) (ln c)
structure fx(c d:J):Prop where
 i:sj d=sj c
 s:d.bq=c.bq
 mj:d.eY.iy=c.eY.iy
 ml:d.eZ.iy=c.eZ.iy
 mi:d.dB.seen=c.dB.seen
 kc:d.dC.seen=c.dC.seen
theorem fx.refl(c:J):fx c c:=⟨rfl,rfl,rfl,rfl,rfl,rfl⟩
theorem fx.trans{c d e:J}(h:fx c d)(k:fx d e):fx c e:=⟨k.i.trans h.i,k.s.trans h.s,k.mj.trans h.mj,k.ml.trans h.ml,k.mi.trans h.mi,k.kc.trans h.kc⟩
theorem jq.ob{c d:J}(h:jq c)(k:fx c d):jq d:=by
 have ak:k8 d=k8 c:=by funext u;unfold k8 ly;split;exact k.ml;exact k.mj
 have ar:ln d=ln c:=by funext u;unfold ln sa;split;exact k.kc;exact k.mi
 unfold jq;rw[k.i,k.s,ak,ar];exact h
theorem C'{c:J}{id:Int}{s:ae}(hf:(bQ c.aa id).2)(hi:s.id=(aC c id).id):fx c (lE c s):=
 ⟨Ow (by rw[hi,kb hf];exact hf),rfl,rfl,rfl,rfl,rfl⟩
theorem Oi(a:d9):(jy a).seen=a.seen:=by unfold jy;split<;>rfl
theorem aoq(c:J)(s:ae):fx c (fI c s):=by
 unfold fI
 repeat' split
 all_goals first|exact fx.refl c|exact⟨rfl,rfl,rfl,rfl,rfl,Oi _⟩|exact⟨rfl,rfl,rfl,rfl,Oi _,rfl⟩
theorem T8{c:J}{id:Int}{s:ae}(hf:(bQ c.aa id).2)(hi:s.id=(aC c id).id):fx c (eO c s):=by
 obtain⟨dQ,eI,gH⟩:=z_ c s;have h1:=aoq c s;refine⟨?_,h1.s,h1.mj,h1.ml,h1.mi,h1.kc⟩;have e:(hO c s).id=id:=by rw[gH,hi,kb hf]
 exact Ow (by rw[e];exact hf)
theorem aor(a:d9):(lj a).seen=a.seen:=by unfold lj;split<;>rfl
theorem acP(a:d9)(t:Bool):(h4 a t).1.seen=a.seen:=by unfold h4;split;exact aor a;rfl
theorem acQ(a:jf)(l:Int):(Ac a l).iy=a.iy:=by unfold Ac;split<;>rfl
theorem aos(c:J)(f:al):fx c (iU c f):=by
 unfold iU
 repeat' split
 all_goals first
  |exact⟨rfl,rfl,rfl,rfl,rfl,rfl⟩
  |exact⟨rfl,rfl,rfl,rfl,rfl,acP _ _⟩
  |exact⟨rfl,rfl,rfl,rfl,acP _ _,rfl⟩
  |(rename_i hf;exact C' hf (Cf c (aC c f.ax) f.aY).2.2)
theorem aot(c:J)(id:Int)(p:bI):fx c (p_ c id p):=by
 unfold p_;split
 ·rename_i hok;have h:=C' (s:=jC (aC c id) p) (aaS hok) rfl;exact⟨h.i,rfl,rfl,rfl,rfl,rfl⟩
 exact fx.refl c
theorem aou{c:J}{id:Int}(hf:(bQ c.aa id).2):fx c (D9 c id):=by
 have h:=C' (s:=px (aC c id)) hf rfl;exact⟨h.i,rfl,rfl,rfl,rfl,rfl⟩
theorem T9:∀(n:Nat) (q:n5),fx q.x (ja n q).x
 |0,q=>fx.refl _
 |n+1,q=>by
  unfold ja;split
  ·exact fx.refl _
  rename_i h0;split
  ·split
   ·exact(aot q.x _ _).trans (T9 n (yz q))
   exact fx.refl _
  exact(aou (F8 ω)).trans (T9 n (sM q))
theorem acR:∀(l:List al) (q:xt),fx q.x (l.foldl iC q).x
 |[],q=>fx.refl _
 |f::l,q=>by
  have h:fx q.x (iC q f).x:=by
   unfold iC;split
   ·exact aos q.x f
   exact fx.refl _
  exact h.trans (acR l (iC q f))
theorem aov(c:J)(b:Int):fx c (j_ c b):=by
 have hB:fx c (dy c b).x:=(acR (fc c) ⟨c,[],b⟩).trans (T9 200 ⟨(ck c b).x,[],(ck c b).b2,(ck c b).room⟩);unfold j_
 repeat' split
 all_goals first|exact hB|exact fx.refl c|exact⟨hB.i,hB.s,hB.mj,hB.ml,hB.mi,hB.kc⟩
theorem aow(c:J)(id:Int)(d:List UInt8):fx c (my c id d):=by
 unfold my;split
 ·rename_i hg;exact C' (id:=id) (s:=fF (aC c id) (rA (aC c id).ag d)) (Aa hg) rfl
 exact fx.refl c
theorem aox(c:J)(id:Int):fx c (zu c id):=by
 unfold zu;split
 ·rename_i hg;simp only[DT,bm]at hg;exact C' (id:=id) (s:=fF (aC c id) (xh (aC c id).ag)) (Aa hg.1) rfl
 exact fx.refl c
theorem aoy(c:J)(id:Int)(t:List UInt8):fx c (mw c id t):=by
 unfold mw;split
 ·rename_i hg;exact C' (id:=id) (s:={aC c id with cI:=AO (aC c id).cI t}) (Aa hg) rfl
 exact fx.refl c
theorem aoz(c:J)(id k:Int):fx c (mx c id k):=by
 unfold mx;split
 ·rename_i hg;simp only[zv,bm]at hg;exact T8 (id:=id) (s:=hF (aC c id) k) (Aa hg.1) rfl
 exact fx.refl c
theorem T_(c:J)(i:ej):fx c {c with c7:=i}:=⟨rfl,rfl,rfl,rfl,rfl,rfl⟩
theorem Ox{c x:J}{id:Int}{s:ae}(hx:fx c x)(hs:x.aa=c.aa)(hf:(bQ c.aa id).2)(hi:s.id=id):fx c (eO x s):=by
 refine hx.trans (T8 (id:=id) (by rw[hs];exact hf) ?_);unfold aC;rw[hs];exact hi.trans (Bu hf).1.symm
theorem aoA(c:J)(id m:Int):fx c (mD c id m):=by
 unfold mD;split
 ·rename_i hg;simp only[s5,bm]at hg;have hf:=hg.1.2;refine Ox ?_ (JT c id m).1 hf ((NG c id m).2.2.trans (kb hf));unfold Bo xQ;split
  ·exact T_ c _
  exact fx.refl c
 exact fx.refl c
theorem T'(c:J)(s:ae)(e:Int):fx c (oa c s e):=by
 unfold oa;split
 ·exact fx.refl c
 exact T_ c _
theorem aoB{m:Nat}{c:J}(hv:bW m c)(f:al)(h:Bi c f=0):fx (cD c f.ax) (yW c f):=by
 have hf:=xS hv (S2 h);unfold yW;rw[if_pos h];exact Ox (T' _ _ _) (GV _ _ _).1 hf ((S6 _ f).trans (kb hf))
theorem aoC{m:Nat}{c:J}(hv:bW m c)(f:al)(h:Bp c f=0):fx (cD c f.ax) (y3 c f):=by
 have hf:=xS hv (S3 h);unfold y3;rw[if_pos h];refine Ox ?_ (JU _ f).1 hf ((NF _ f).2.2.trans (kb hf));unfold Bq ND xQ;split
 ·exact(T' _ _ _).trans (T_ _ _)
 exact T' _ _ _
theorem aoD{m:Nat}{c:J}(hv:bW m c)(f:al)(h:Br c f=0):fx (cD c f.ax) (y6 c f):=by
 have hf:=xS hv (S4 h);unfold y6;rw[if_pos h];exact Ox (fx.refl _) rfl hf ((S9 _ f).trans (kb hf))
theorem Pj(c:J)(f:al):fx c (ju c f):=by
 unfold ju;split
 ·rename_i hg;simp only[qt,bm]at hg;exact T8 (id:=f.ax) hg.1 (Fo _ f)
 exact fx.refl c
theorem abS(c:J)(f:al):fx c (jK c f):=by
 unfold jK
 repeat' split
 all_goals first
  |exact⟨rfl,rfl,rfl,rfl,rfl,rfl⟩
  |(rename_i hg;simp only[qt,bm]at hg;exact C' (id:=f.ax) hg.1 (J4 _ f))
theorem Ua{g:J->al->J}(hg:∀c f,fx c (g c f)):∀(l:List al) (c:J),fx c (l.foldl g c)
 |[],c=>fx.refl c
 |f::l,c=>(hg c f).trans (Ua hg l (g c f))
theorem aoE(c:J)(n:Int):fx c (hK c n):=by
 unfold hK;split
 ·have h0:fx c (g7 c n):=⟨rfl,rfl,rfl,rfl,rfl,rfl⟩;exact h0.trans (Ua Pj _ (g7 c n))
 exact fx.refl c
theorem aoF(c:J)(n:Int):fx c (g0 c n):=by
 unfold g0;split
 ·have h0:fx c (g7 c n):=⟨rfl,rfl,rfl,rfl,rfl,rfl⟩;exact h0.trans (Ua abS _ (g7 c n))
 exact fx.refl c
theorem r'.add{v:Bool}{l:List ae}{o a o' a':Bool->Int}{s:ae}(h:r' v (l.map λx=>x.id) o a)(hn:s.id∉l.map λx=>x.id)(hq:bN s.id)(aG:∀u,o u<=o' u)(ha:∀u,a u<=a' u)
  (h1:decide (s.id % 2=1)=v->s.id / 4<o' (decide (s.id / 2 % 2=1))) (h2:decide (s.id % 2=1)≠v->s.id / 4<a' (decide (s.id / 2 % 2=1)))
  (ao:∀(u:Bool) (j:Int),0<=j->a u<=j->j<a' u->4 * j+iJ (!v)+2 * iJ u=s.id):r' v ((dv l s).map λx=>x.id) o' a':=by
 rw[TY (C_.2 hn)];have hm:∀n,n∈(qm s l).map (λx=>x.id)↔n=s.id\/n∈l.map λx=>x.id:=by
  intro n;rw[aa_,aa_];constructor
  ·rintro⟨x,hx,rfl⟩;rcases Hn.1 hx with rfl|hx
   ·exact .inl rfl
   exact .inr ⟨x,hx,rfl⟩
  rintro(rfl|⟨x,hx,rfl⟩)
  ·exact⟨s,Hn.2 (.inl rfl),rfl⟩
  exact⟨x,Hn.2 (.inr hx),rfl⟩
 refine⟨λn hx=>?_,λn hx hv=>?_,λn hx hv=>?_,λu j h0 aI=>?_,acO h.hH hn,λu=>Int.le_trans (h.Ng u) (ha u)⟩
 ·rcases(hm n).1 hx with rfl|hx
  ·exact hq
  exact h.q n hx
 ·rcases(hm n).1 hx with rfl|hx
  ·exact h1 hv
  exact aAd (h.own n hx hv) (aG _)
 ·rcases(hm n).1 hx with rfl|hx
  ·exact h2 hv
  exact aAd (h.cP n hx hv) (ha _)
 by_cases hlt:j<a u
 ·exact(hm _).2 (.inr (h.all u j h0 hlt))
 exact(hm _).2 (.inl (ao u j h0 ω aI))
theorem Ot{v:Bool}{i:Int}{o p:e5}(h:pK i o p):(hN v i o p).id=i:=by unfold hN;rw[if_pos h]
theorem T1{c:J}(h:ew c):iz c.own/\iz c.cP:=by
 simp only[ew,oi,xm,bm,ed]at h;exact⟨h.1,h.2.1⟩
theorem acS{c:J}(h:ew c)(u:Bool):km (ly c u)/\i_ (sa c u):=by
 simp only[ew,oi,xm,bm,ed]at h;obtain⟨_,_,_,_,_,h1,h2,ao,aH,_⟩:=h;cases u
 ·exact⟨h1,ao⟩
 exact⟨h2,aH⟩
theorem acA{c:J}{u:Bool}(hc:ew c)(aG:oP (ly c u)):0<=k8 c u/\k8 c u<1152921504606846976/\rz (p0 (ly c u)) c.bq u=4 * k8 c u+iJ c.bq+2 * iJ u/\(ry (ly c u)).iy=k8 c u+1:=by
 have h1:=(acS hc u).1;simp only[oP,bm,bH]at aG;have h2:=h1;simp only[km,cd,bm,bH]at h2;have e:p0 (ly c u)=k8 c u:=by unfold p0 oP;rw[h1,br aG.2];rfl
 unfold k8 at *;refine⟨by omega,by omega,?_,?_⟩
 ·rw[e,aop]<;>omega
 unfold ry oP;rw[h1,br aG.2];simp only[asg,if_true];rw[bw]<;>omega
theorem acB(n:Int)(s u:Bool)(h:0<=n)(h1:n<1152921504606846976):bN (4 * n+iJ s+2 * iJ u)/\decide ((4 * n+iJ s+2 * iJ u) % 2=1)=s/\(4 * n+iJ s+2 * iJ u) / 4=n/\decide ((4 * n+iJ s+2 * iJ u) / 2 % 2=1)=u:=by
 cases s<;>cases u<;>simp only[iJ,if_true,if_false,ai_]<;>refine⟨mC.2 ω,?_,by omega,?_⟩<;>simp<;>omega
theorem acz{c:J}(h:jq c)(u:Bool):jq (l8 c u)/\(yj c u->jw c.bq (sx c u)/\la (sx c u)=u/\g2 (eB (sx c u)) c.aa=-1/\0<=g2 (eB (sx c u)) (l8 c u).aa):=by
 have hA:yj c u=(xi c&&oP (ly c u)):=rfl;unfold l8;cases ha:xi c
 ·rw[hA,ha];exact⟨h,λh=>by cases h⟩
 have hc:ew c:=by simp only[xi,hZ,bm]at ha;exact ha.1.1
 rw[if_pos rfl];cases aG:oP (ly c u)
 ·rw[hA,ha,aG];refine⟨h.ob ?_,λh=>by cases h⟩;have e:(ry (ly c u)).iy=(ly c u).iy:=by unfold ry;rw[aG];split<;>(try split)<;>first|rfl|contradiction
  simp only[ai_,if_false];unfold oO;cases u
  ·exact⟨rfl,rfl,e,rfl,rfl,rfl⟩
  exact⟨rfl,rfl,rfl,e,rfl,rfl⟩
 obtain⟨hE,fT,gR,nj⟩:=acA hc aG;obtain⟨dP,dO,ih,mb⟩:=acB (k8 c u) c.bq u hE fT;obtain⟨k1,k2⟩:=T1 hc;have aE:sx c u=4 * k8 c u+iJ c.bq+2 * iJ u:=by unfold sx;rw[hA,ha,aG];exact gR
 rw[if_pos rfl];rw[gR,aE];have cO:(hN c.bq (4 * k8 c u+iJ c.bq+2 * iJ u) c.own c.cP).id=4 * k8 c u+iJ c.bq+2 * iJ u:=Ot (by unfold pK;rw[dP,k1,k2];rfl);have hn:4 * k8 c u+iJ c.bq+2 * iJ u∉c.aa.map λx=>x.id:=by
  intro hm;have:=h.own _ hm dO;rw[ih,mb]at this;omega
 have MV:∀w,k8 (oO c u) w=if w=u then k8 c u+1 else k8 c w:=by
  intro w;cases u<;>cases w<;>simp[k8,ly,oO]at nj⊢<;>exact nj
 have qV:ln (oO c u)=ln c:=by funext w;cases u<;>cases w<;>rfl
 have xX:(oO c u).bq=c.bq:=by cases u<;>rfl
 refine⟨?_,λ_=>⟨?_,?_,C_.2 hn,?_⟩⟩
 ·have:=r'.add (o':=k8 (oO c u)) (a':=ln c) (s:=hN c.bq (4 * k8 c u+iJ c.bq+2 * iJ u) c.own c.cP) h (by rw[cO];exact hn) (by rw[cO];exact dP) (λw=>by
   rw[MV];split
   ·rename_i e;rw[e];omega
   omega) (λw=>atA _) (λ_=>by rw[cO,ih,mb,MV,if_pos rfl];omega) (λhne=>absurd (by rw[cO];exact dO) hne) (λw j _ h1 h2=>by omega)
  show r' (oO c u).bq _ (k8 (oO c u)) (ln (oO c u))
  rw[xX,qV];exact this
 ·rw[TM dP,dO];simp
 ·rw[TN dP,mb]
 rcases m' (eB (4 * k8 c u+iJ c.bq+2 * iJ u)) (dv c.aa (hN c.bq (4 * k8 c u+iJ c.bq+2 * iJ u) c.own c.cP))with ⟨b5,_⟩|⟨j,aI,b5,_⟩
 ·rw[C_]at b5;refine absurd ?_ b5;rw[TY (C_.2 (by rw[cO];exact hn))];exact aa_.2 ⟨_,Hn.2 (.inl rfl),cO⟩
 rw[b5];omega
theorem aoG{id:Int}{k:Nat}(h:bN id)(hk:(k:Int)<=id / 4):nZ id k=id-4 * (k:Int):=by
 have hq:=mC.1 h;unfold nZ;rw[bw (n:=4 * (k:Int)) ω ω,bw]<;>omega
theorem r'.acT{v:Bool}{o p:e5}{id:Int}{oo:Bool->Int}(Q:List ae->Prop)(m5:∀(l:List ae) (i:Int),Q l->pK i o p->i∉l.map (λx=>x.id)->Q (dv l (hN v i o p)))
  (hq:bN id) (hv:decide (id % 2=1)≠v) (Ub:iz o/\iz p):∀(k:Nat) (l:List ae) (a:Bool->Int),(k:Int)<=id / 4+1->a (decide (id / 2 % 2=1))=id / 4+1-(k:Int)->r' v (l.map λx=>x.id) oo a->Q l->
  r' v ((oq v o p id k l).map λx=>x.id) oo (λu=>if u=decide (id / 2 % 2=1)then id / 4+1 else a u)/\Q (oq v o p id k l)
 |0,l,a,_,ha,h,hl=>by
  have e:(λu=>if u=decide (id / 2 % 2=1)then id / 4+1 else a u)=a:=by
   funext u;split
   ·rename_i hu;rw[hu,ha];omega
   rfl
  rw[e];exact⟨h,hl⟩
 |k+1,l,a,hk,ha,h,hl=>by
  have aoH:=mC.1 hq;have ak:nZ id k=id-4 * (k:Int):=aoG hq ω;have Ho:bN (id-4 * (k:Int)):=mC.2 ω;have acU:pK (id-4 * (k:Int)) o p:=by unfold pK;rw[Ho,Ub.1,Ub.2];rfl
  have cO:(hN v (id-4 * (k:Int)) o p).id=id-4 * (k:Int):=Ot acU;have sX:(id-4 * (k:Int)) % 2=id % 2:=by omega
  have xI:(id-4 * (k:Int)) / 2 % 2=id / 2 % 2:=by omega
  have Em:(id-4 * (k:Int)) / 4=id / 4-(k:Int):=by omega
  have hn:id-4 * (k:Int)∉l.map λx=>x.id:=by
   intro hm;have:=h.cP _ hm (by rw[sX];exact hv);rw[xI,Em,ha]at this;omega
  have aoI:decide (id % 2=1)=!v:=by
   cases v<;>cases hd:decide (id % 2=1)<;>simp_all
  have Sc:=r'.add (o':=oo) (a':=λu=>if u=decide (id / 2 % 2=1)then id / 4-(k:Int)+1 else a u) (s:=hN v (id-4 * (k:Int)) o p) h (by rw[cO];exact hn) (by rw[cO];exact Ho) (λu=>atA _)
   (λu=>by
    split
    ·rename_i hu;rw[hu,ha];omega
    exact atA _)
   (λhw=>absurd (by rw[<-hw,cO,sX]) hv) (λ_=>by rw[cO,xI,Em,if_pos rfl];omega)
   (λu j h0 h1 h2=>by
    rw[cO];split at h2
    ·rename_i hu;rw[hu,ha]at h1;rw[<-aoI,hu];have aI:j=id / 4-(k:Int):=by omega
     subst aI;unfold iJ;by_cases c1:id % 2=1<;>by_cases cW:id / 2 % 2=1<;>simp[c1,cW]<;>omega
    omega)
  have acV:=r'.acT (oo:=oo) Q m5 hq hv Ub k (dv l (hN v (id-4 * (k:Int)) o p)) (λu=>if u=decide (id / 2 % 2=1)then id / 4-(k:Int)+1 else a u) ω (by rw[if_pos rfl];omega) Sc (m5 l _ hl acU hn);have ar:(λu=>if u=decide (id / 2 % 2=1)then id / 4+1 else(if u=decide (id / 2 % 2=1)then id / 4-(k:Int)+1 else a u))=λu=>if u=decide (id / 2 % 2=1)then id / 4+1 else a u:=by
   funext u;split<;>rfl
  rw[ar]at acV
  show r' v ((oq v o p id k (dv l (hN v (nZ id k) o p))).map _) _ _/\Q (oq v o p id k (dv l (hN v (nZ id k) o p)))
  rw[ak];exact acV
theorem acy{c:J}(h:jq c)(id:Int)(Q:List ae->Prop)(m5:∀(l:List ae) (i:Int),Q l->pK i c.own c.cP->i∉l.map (λx=>x.id)->Q (dv l (hN c.bq i c.own c.cP)))(hl:Q c.aa):jq (cD c id)/\Q (cD c id).aa:=by
 unfold cD;split
 ·rename_i hg;simp only[bm,ab_,bH,ed]at hg;obtain⟨hc,hq,_,aG,bY⟩:=hg;have hv:decide (id % 2=1)≠c.bq:=by rw[TM hq]at aG;simpa using aG
  have hu:=TN hq;have hA:mX c id=sa c (decide (id / 2 % 2=1)):=by unfold mX sa;rw[hu]
  have Kw:=(acS hc (decide (id / 2 % 2=1))).2;simp only[yk,bm,ab_,eC,ed]at bY;obtain⟨hs,hn,_⟩:=bY;have G5:=aoo hq;have aoH:=mC.1 hq;rw[hA,G5]at hs;have lV:=hs;simp only[yl,bm,bH,ed]at lV;have y':=Kw;simp only[i_,cd,bm,bH,ed]at y';have bB:mY c id=dJ 0 (id / 4+1-ln c (decide (id / 2 % 2=1))):=by
   unfold mY n1 ln;rw[hA,G5,if_pos hs,bw (n:=id / 4+1) ω ω,bw]<;>omega
  have aoJ:mY c id=id / 4+1-ln c (decide (id / 2 % 2=1))/\0<mY c id:=by
   rw[bB]at hn⊢;unfold dJ at *;split at hn<;>simp_all<;>omega
  have pA:(lg (mX c id) (ig id)).seen=id / 4+1:=by
   unfold lg;rw[hA,G5,if_pos hs]
   show i64.wrap ((sa c _).seen+n1 (sa c _) (id / 4))=_
   have e:n1 (sa c (decide (id / 2 % 2=1))) (id / 4)=mY c id:=by unfold mY;rw[hA,G5]
   rw[e,aoJ.1];unfold ln;rw[bw]<;>omega
  have hk:((mY c id).toNat:Int)=mY c id:=auz ω;have Lf:0<=ln c (decide (id / 2 % 2=1)):=h.Ng _;obtain⟨key,d'⟩:=r'.acT (v:=c.bq) (oo:=k8 c) Q m5 hq hv (T1 hc) (mY c id).toNat c.aa (ln c) (by rw[hk];omega) (by rw[hk];omega) h hl;have ak:k8 (ot c id (lg (mX c id) (ig id)))=k8 c:=by funext u;unfold ot;split<;>rfl
  have ar:ln (ot c id (lg (mX c id) (ig id)))=λu=>if u=decide (id / 2 % 2=1)then id / 4+1 else ln c u:=by
   funext u
   unfold ot;rw[hu];by_cases cW:id / 2 % 2=1
   ·rw[br cW];cases u<;>simp[ln,sa,pA]
   rw[bn cW];cases u<;>simp[ln,sa,pA]
  have a4:(ot c id (lg (mX c id) (ig id))).bq=c.bq:=by unfold ot;split<;>rfl
  refine⟨?_,d'⟩
  show r' (ot c id (lg (mX c id) (ig id))).bq _ (k8 (ot c id (lg (mX c id) (ig id)))) (ln (ot c id (lg (mX c id) (ig id))))
  rw[ak,ar,a4];exact key
 exact⟨h,hl⟩
theorem aoK{c:J}(h:jq c)(id:Int):jq (cD c id):=(acy h id (λ_=>True) (λ_ _ _ _ _=>trivial) trivial).1
theorem aoL{m:Nat}{c:J}(hv:bW m c)(h:jq c)(f:al):jq (rI c f):=by
 have he:=aoK h f.ax;unfold rI;split
 ·by_cases h0:Bi c f=0
  ·exact he.ob (aoB hv f h0)
  unfold yW;rw[if_neg h0];exact h
 split
 ·by_cases h0:Bp c f=0
  ·exact he.ob (aoC hv f h0)
  unfold y3;rw[if_neg h0];exact h
 split
 ·by_cases h0:Br c f=0
  ·exact he.ob (aoD hv f h0)
  unfold y6;rw[if_neg h0];exact h
 unfold pI
 repeat' split
 all_goals first
  |exact h
  |exact h.ob ⟨rfl,rfl,rfl,rfl,rfl,rfl⟩
  |exact h.ob ⟨rfl,rfl,rfl,acQ _ _,rfl,rfl⟩
  |exact h.ob ⟨rfl,rfl,acQ _ _,rfl,rfl,rfl⟩
  |(unfold Bn
    repeat' split
    all_goals first
     |exact h
     |exact he
     |(rename_i h0 _;exact he.ob (C' (id:=f.ax) (s:=EB (cD c f.ax) f) (xS hv (S5 h0)) rfl)))
theorem aoM{m:Nat}{x y:J}(hv:bW m x)(h:jq x)(hs:p7 x y):jq y:=by
 cases hs with
 |same=>exact h
 |F3 u=>exact(acz h u).1
 |LX id d _=>exact h.ob (aow x id d)
 |aS id=>exact h.ob (aox x id)
 |fa id k=>exact h.ob (aoA x id k)
 |LY id k=>exact h.ob (aoz x id k)
 |LZ id t=>exact h.ob (aoy x id t)
 |em b=>exact h.ob (aov x b)
 |hf f _ _=>exact aoL hv h f
 |L0 n=>exact h.ob (aoF x n)
 |L1 n=>exact h.ob (aoE x n)
theorem aoN(v:Bool)(o p:e5):jq (rC v o p):=by
 unfold rC;split
 ·refine⟨by simp[sj],by simp[sj],by simp[sj],λu j h0 h1=>?_,by simp[sj],λu=>?_⟩
  ·exfalso;revert h1;unfold ln sa Bz;cases u<;>simp<;>split<;>simp<;>omega
  unfold ln sa Bz;cases u<;>simp<;>split<;>simp
 refine⟨by simp[sj],by simp[sj],by simp[sj],λu j h0 h1=>?_,by simp[sj],λu=>?_⟩
 ·exfalso;revert h1;unfold ln sa;cases u<;>simp<;>omega
 unfold ln sa;cases u<;>simp
theorem acK{k:Nat}{c:J}(h:rB k c)(hk:k<=1000):jq c:=by
 induction h with
 |new v o p=>exact aoN v o p
 |step hd hs c_=>exact aoM (hd.pf ω) (c_ ω) hs
theorem qv.Uc{y:J}(h:qv y):jq y:=by
 obtain⟨x,a,b,c,d,h,rfl⟩:=h;exact(acK h ω).ob ⟨rfl,rfl,rfl,rfl,rfl,rfl⟩
theorem Hf{α:Type}{key:α->Int}{ok:α->Bool}{l:List α}:xl key ok l↔(∀x∈l,ok x=true)/\(l.map key).Pairwise (·<·):=by
 have hB:xl key ok l↔(∀(i:Nat) (h:i<l.length),ok l[i])/\∀(j:Nat) (h:j+1<l.length),key l[j]<key l[j+1]:=by
  simp only[xl,l6,ae_,asl];constructor
  ·intro h;refine⟨λi hi=>?_,λj aI=>?_⟩
   ·have:=h i hi
    cases i with
    |zero=>rwa [AG _ _ _ hi]at this
    |succ j=>rw[zl _ _ _ _ hi,bm]at this;exact this.1
   have:=h (j+1) aI;rw[zl _ _ _ _ aI,bm]at this;exact cY this.2
  rintro⟨h1,h2⟩ i hi
  cases i with
  |zero=>rw[AG _ _ _ hi];exact h1 0 hi
  |succ j=>rw[zl _ _ _ _ hi,bm];exact⟨h1 _ hi,br (h2 j hi)⟩
 rw[hB];constructor
 ·rintro⟨h1,h2⟩;refine⟨λx hx=>?_,arY.2 λi j hi aI oX=>?_⟩
  ·obtain⟨i,hi,rfl⟩:=List.getElem_of_mem hx;exact h1 i hi
  rw[ath,ath];rw[I]at hi aI;obtain⟨d,rfl⟩:=aAJ (show i+1<=j from oX);clear oX
  induction d with
  |zero=>exact h2 i aI
  |succ d c_=>exact Int.lt_trans (c_ (by simp;omega) ω) (h2 (i+1+d) aI)
 rintro⟨h1,h2⟩;refine⟨λi hi=>h1 _ (eK hi),λj aI=>?_⟩;have:=arY.1 h2 j (j+1) (by simp;omega) (by simpa using aI) ω
 rwa [ath,ath]at this
end Gv
