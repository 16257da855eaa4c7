/-
  Part of the proof: the machine, what functions compute, and the plain laws.
-/
import Derived.Test.YtbfdeenmnijpjaaGreatM04
namespace Gv
open Go Go.Proofs
set_option maxRecDepth 100000
theorem acy(ir iu iv iw ix iy n:Int):PureCall Tryz.prog 67 [.agg [.int .i64 ir,.int .i64 iu,.int .i64 iv,.int .i64 iw,.int .i64 ix,.int .i64 iy],.one (.int .i64 n)] [.agg (da.enc (iR (⟨ir,iu,iv,iw,ix,iy⟩:da) n)),.one (.bool (mZ (⟨ir,iu,iv,iw,ix,iy⟩:da) n))]:=by
 refine aP 26 Tryz.func67 Tryz.call67 [.cell 4 30,.tmp 5] ?_;intro _
 try simp only[go_sem]
 repeat'((first|refine af.intro (by apply LO) ?_|refine ar.intro (by apply jM) ?_|refine a8 ?_|refine bq (fun h=>?_) (fun h=>?_))<;>simp only[go_sem])
 all_goals(cases hc:mZ (⟨ir,iu,iv,iw,ix,iy⟩:da) n<;>first|(simp[iR,hc];done)|(simp[iR,hc];simp_all;done)|((try(simp only[decide_eq_true_eq,decide_eq_false_iff_not]at *));simp[iR, *];done)|(exfalso;simp[mZ,bz]at hc h;first|(simp_all;done)|(simp_all;omega)|omega|grind)|(exfalso;simp[mZ,bz,cP,b7]at *;first|(simp_all;done)|(simp_all;omega)|omega|grind))
theorem acz(ed ee ef eg:Int):PureCall Tryz.prog 71 [.agg [.int .i64 ed,.int .i64 ee,.int .i64 ef,.int .i64 eg]] [.agg [.int .i64 (iX (⟨ed,ee,ef,eg⟩:dm)).most,.int .i64 (iX (⟨ed,ee,ef,eg⟩:dm)).a1,.int .i64 (iX (⟨ed,ee,ef,eg⟩:dm)).seen,.int .i64 (iX (⟨ed,ee,ef,eg⟩:dm)).closed],.one (.bool (ua (⟨ed,ee,ef,eg⟩:dm)))]:=by
 refine aP 20 Tryz.func71 Tryz.call71 [.cell 2 34,.tmp 3] ?_;intro _
 try simp only[go_sem]
 repeat'((first|refine af.intro (by apply Sw) ?_|refine a8 ?_|refine bq (fun h=>?_) (fun h=>?_))<;>simp only[go_sem])
 all_goals(cases hc:ua (⟨ed,ee,ef,eg⟩:dm)<;>first|(simp[iX,hc];done)|(simp[iX,hc];simp_all;done)|((try(simp only[decide_eq_true_eq,decide_eq_false_iff_not]at *));simp[iX, *];done)|(exfalso;simp[ua]at hc h;first|(simp_all;done)|(simp_all;omega)|omega|grind)|(exfalso;simp[ua,cP,b7]at *;first|(simp_all;done)|(simp_all;omega)|omega|grind))
set_option maxHeartbeats 4000000 in
theorem acA(b0 bW:Int)(bB:List ax)(ch b' cc m:Int)(hb:∀c∈bB,c.data.length≤1048576)(hx:bB.length≤1048576):PureCall Tryz.prog 21 [.agg [.int .i64 b0,.int .i64 bW,.sl 2 (bB.map ax.enc),.int .i64 ch,.int .i64 b',.int .i64 cc],.one (.int .i64 m)] [.one (.str (jI (⟨b0,⟨bW,bB⟩,ch,b',cc⟩:bc) m)),.agg (bc.enc (g5 (⟨b0,⟨bW,bB⟩,ch,b',cc⟩:bc) m))]:=by
 refine aP 41 Tryz.func21 Tryz.call21 [.tmp 4,.cell 5 53] ?_;intro _;have acs:=Vj bW bB m hb hx
 cases aO:fj (⟨b0,⟨bW,bB⟩,ch,b',cc⟩:bc)with
 |false=>
  try simp only[go_sem]
  repeat'(first|((first|refine af.intro (by first|assumption|(apply I1<;>first|assumption|omega)|(apply D2<;>first|assumption|omega)) ?_|refine ar.intro (by assumption) ?_|refine a9 [[.post,.cY,.post],[.cY,.post,.post],[.pre,.pre,.post]] (by kernel_rfl) (by rfl) ?_)<;>simp only[go_sem,I,aO])|(with_reducible refine aq ?_)|fail)
  all_goals simp[g5,jI,aO]
 |true=>
  by_cases aC:b0=4
  ·have ai:decide (b0=4)=true:=bk aC;have aL:g5 (⟨b0,⟨bW,bB⟩,ch,b',cc⟩:bc) m={(⟨b0,⟨bW,bB⟩,ch,b',cc⟩:bc)with state:=5}:=by unfold g5;rw[if_pos aO];exact if_pos aC
   have aQ:jI (⟨b0,⟨bW,bB⟩,ch,b',cc⟩:bc) m=[]:=by unfold jI;rw[aO];simp[aC]
   try simp only[go_sem]
   repeat'(first|((first|refine af.intro (by first|assumption|(apply I1<;>first|assumption|omega)|(apply D2<;>first|assumption|omega)) ?_|refine ar.intro (by assumption) ?_|refine a9 [[.post,.cY,.post],[.cY,.post,.post],[.pre,.pre,.post]] (by kernel_rfl) (by rfl) ?_)<;>simp only[go_sem,I,aO,ai])|(with_reducible refine aq ?_)|fail)
   all_goals(rw[aL,aQ];try simp[outOA,fk])
  ·have ai:decide (b0=4)=false:=bb aC;have aL:g5 (⟨b0,⟨bW,bB⟩,ch,b',cc⟩:bc) m={(⟨b0,⟨bW,bB⟩,ch,b',cc⟩:bc)with state:=jm (⟨b0,⟨bW,bB⟩,ch,b',cc⟩:bc) m,buffer:=⟨bW+(eR bW bB m:Int),fE bW bB m⟩}:=by unfold g5;rw[if_pos aO];exact if_neg aC
   have aQ:jI (⟨b0,⟨bW,bB⟩,ch,b',cc⟩:bc) m=sD bW bB m:=by unfold jI;rw[aO];simp[aC]
   try simp only[go_sem]
   repeat'(first|((first|refine af.intro (by first|assumption|(apply I1<;>first|assumption|omega)|(apply D2<;>first|assumption|omega)) ?_|refine ar.intro (by assumption) ?_|refine a8 ?_|refine a9 [[.post,.cY,.post,.post],[.cY,.post,.cY,.post],[.pre,.cY,.post,.post],[.pre,.pre,.pre,.post]] (by kernel_rfl) (by rfl) ?_|refine bq (fun h=>?_) (fun h=>?_))<;>simp only[go_sem,I,aO,ai])|(with_reducible refine aq ?_)|fail)
   ·simp only[b7,Bool.and_eq_true,decide_eq_true_eq]at h;have hq:jm (⟨b0,⟨bW,bB⟩,ch,b',cc⟩:bc) m=3:=by unfold jm;exact if_pos h
    rw[aL,aQ,hq]
    try simp[outOA,fk]
   ·have hq:jm (⟨b0,⟨bW,bB⟩,ch,b',cc⟩:bc) m=b0:=by
     unfold jm;refine if_neg fun g=>?_;rw[bk g.1,bk g.2]at h;cases h
    rw[aL,aQ,hq]
    try simp[outOA,fk]
set_option maxHeartbeats 1000000 in
theorem TA(l:List ae)(id:Int):PureCall Tryz.prog 62 [.one (.sl 39 (l.map ae.enc)),.one (.int .i64 id)] [.one (.int .i64 (hE (ff id) l))]:=by
 refine aP 8 Tryz.func62 Tryz.call62 [.tmp 4] ?_;intro ok;have hm:=fZ ok;clear ok;simp only[go_sem];refine af.inl (el (n:=19) (rs:=[.tmp 4]) Tryz.func101 rfl Tryz.call101 Tryz.checked.mixed rfl rfl ?_);simp only[go_sem,I];refine b9.intro (fun i:Nat=>⟨(.d (.sl 39 (l.map ae.enc))::.fn 102 [.ptr 0 0 0]::.ab::.ab::.d (.int .i64 0)::.ab::.ab::.d (.int .i64 l.length)::.d (.int .i64 i)::aF 10 []),[.box [.d (.int .i64 id)]]⟩)
  (fun i=>l.length-i) (fun i=>i≤l.length∧(l.take i).any (ff id)=false) 0 [0] ⟨by omega,by simp⟩ ?_ ?_
 ·simp only[go_sem];simp
 ·rintro i ⟨hi,he⟩;by_cases h1:i<l.length
  ·have au:decide ((i:Int)<(l.length:Int))=true:=bk (by omega);have aB:=b4 ae.enc l i h1;have hw:=dE h1 hm;simp only[go_sem,I,aJ,aB,ae.enc,au];refine⟨⟨by omega,by omega⟩,?_⟩;refine af.inl (el (n:=8) (rs:=[.tmp 3]) Tryz.func102 rfl Tryz.call102 Tryz.checked.mixed rfl rfl ?_);simp only[go_sem];refine bq (fun h=>?_) (fun h=>?_)
   ·simp only[go_sem];have:=JI (ff id) l i h1 he h;simp[this]
   ·simp only[go_sem,hw];refine bu.intro (i+1) [0] ⟨by omega,zX _ l i h1 he h⟩ (by omega) ?_;simp only[go_sem];simp
  ·have au:decide ((i:Int)<(l.length:Int))=false:=bb (by omega);obtain rfl:i=l.length:=by omega
   rw[dK]at he;simp only[go_sem,au];simp[Pm _ _ he]
theorem acB(c:J):PureCall Tryz.prog 103 [.agg (J.enc c)] [.one (.bool (decide (c.closed≠0)))]:=by
 refine aP 6 Tryz.func103 Tryz.call103 [.tmp 2] ?_;intro _
 try simp only[go_sem]
theorem acC(c:J)(hz:iH c):PureCall Tryz.prog 63 [.agg (J.enc c)] [.one (.bool (tD c&&decide (c.closed=0)))]:=by
 refine aP 10 Tryz.func63 Tryz.call63 [.tmp 2] ?_;intro ok;clear ok
 try simp only[go_sem]
 repeat'((first|refine af.intro (by(apply Sr<;>first|assumption|omega)) ?_|refine ar.intro (by apply acB) ?_|refine a8 ?_)<;>simp only[go_sem])
 all_goals(refine ec ?_;simp)
section
variable {P:Program} {kv:List V} {c:Code} {σ:St} {K:St→Prop} {aS:List (Nat×(St→Prop))} {cq:St→Prop}
theorem Mz(hm:P.follows .mixedOrders=true)(k:Nat)(h:codeE P kv (wR k c) σ (bo (fun σ'=>gQ P kv (yg k c) σ' K aS cq) .mk) aS cq):gQ P kv c σ K aS cq:=MQ hm k c σ h fun _ h=>h
theorem UP{σ':St}(hs:n7 σ σ')(h:gQ P kv c σ' K aS cq):gQ P kv c σ K aS cq:=fun B w0 kp Q a w bp bU cJ aL r=>h B w0 kp Q a w bp bU cJ aL (F4 hs r)
theorem TJ(id bG:Nat)(h:A6 id bG σ (bo (fun ki=>gQ P kv c ki K aS cq) .mk)):gQ P kv c σ K aS cq:=by
 obtain⟨ki,h1,h2⟩:=Kw h;exact UP h1 h2
theorem zC(id:Nat)(h:F9 id σ (bo (fun ki=>gQ P kv c ki K aS cq) .mk)):gQ P kv c σ K aS cq:=by
 obtain⟨ki,h1,h2⟩:=YK h;exact UP h1 h2
end
def tj:Int→List ax→Int
 |n,[]=>n
 |_,c::cs=>tj (c.offset+(c.data.length:Int)) cs
theorem S3:∀(xs:List ax) (n:Int),(match xs.getLast? with|some c=>c.offset+(c.data.length:Int)|none=>n)=tj n xs
 |[],n=>rfl
 |[c],n=>rfl
 |c::d::ds,n=>by
  rw[List.getLast?_cons_cons,tj,←S3 (d::ds) (c.offset+(c.data.length:Int))]
  cases hl:(d::ds).getLast? with
  |none=>simp at hl
  |some e=>rfl
theorem Bv:∀(xs:List ax) (n:Int),fB n xs=true→tj n xs≥n∧(xs≠[]→tj n xs>n)
 |[],n,_=>⟨Int.le_refl _,fun h=>absurd rfl h⟩
 |c::cs,n,h=>by
  obtain⟨k1,k2,dw,gj⟩:=wZ h;have:=(Bv cs (c.offset+(c.data.length:Int)) (GU cs _ _ gj (by omega))).1;have ak:0<c.data.length:=List.length_pos_iff.2 k1;rw[tj];exact⟨by omega,fun _=>by omega⟩
theorem wH{n:Int}{xs:List ax}(h:fu ⟨n,xs⟩=true):iJ ⟨n,xs⟩=tj n xs:=by
 unfold iJ;rw[if_pos h];exact S3 xs n
theorem S4{n:Int}{xs:List ax}(h:fu ⟨n,xs⟩=true):d5 n xs=yz n xs:=by unfold d5;rw[if_pos h]
theorem L_{n:Int}{xs:List ax}(m:Int)(h:fu ⟨n,xs⟩=true) :
  fu ⟨n+(eR n xs m:Int),fE n xs m⟩=true∧d5 (n+(eR n xs m:Int)) (fE n xs m)+eR n xs m=d5 n xs∧iJ ⟨n+(eR n xs m:Int),fE n xs m⟩≤iJ ⟨n,xs⟩∧
  (eR n xs m=d5 n xs→iJ ⟨n,xs⟩=n+(d5 n xs:Int)→fE n xs m=[]):=by
 obtain⟨tx,lX,mz⟩:=w2 h
 cases e9:eR n xs m with
 |zero=>
  have cJ:fE n xs m=xs:=by unfold fE;rw[if_pos e9]
  rw[cJ];have dM:n+((0:Nat):Int)=n:=by omega
  rw[dM];refine⟨h,rfl,Int.le_refl _,fun h1 h2=>?_⟩;rw[←h1,wH h]at h2;by_cases hx:xs=[]
  ·exact hx
  ·have:=(Bv xs n mz).2 hx;omega
 |succ l=>
  have hr:d5 n xs≠0:=by unfold eR at e9;omega
  obtain⟨_,hlt,az,ja,nR⟩:=yA hr
  cases xs with
  |nil=>simp at hlt
  |cons c cs=>
   simp only[List.getElem_cons_zero]at az ja nR;obtain⟨k1,k2,dw,gj⟩:=wZ mz;have Ft:l+1≤c.data.length:=by unfold eR at e9;omega
   have hd:cs.getLast?=none∨∃d,cs.getLast?=some d:=by cases cs.getLast?<;>simp
   by_cases hq:l+1=c.data.length
   ·have cJ:fE n (c::cs) m=cs:=by unfold fE;rw[e9,nR,if_neg (by omega),if_pos hq];rfl
    rw[cJ];have hb:fu ⟨n+((l+1:Nat):Int),cs⟩=true:=by
     simp only[fu,Bool.and_eq_true,bz,decide_eq_true_eq];exact⟨⟨by omega,by omega⟩,GU cs _ _ gj (by omega)⟩
    have hz:d5 (n+((l+1:Nat):Int)) cs=0:=by
     rw[S4 hb]
     cases cs with
     |nil=>rfl
     |cons d ds=>
      have:=(sB (d::ds) _ gj d (by simp)).1;simp only[yz];rw[if_neg (by omega)]
    refine⟨hb,by rw[hz,ja];omega,?_,fun _ h2=>?_⟩
    ·rw[wH hb,wH h,tj,az,←hq];exact Int.le_refl _
    ·rw[wH h,ja,tj]at h2;by_cases hx:cs=[]
     ·exact hx
     ·have:=(Bv cs _ (GU cs _ (c.offset+(c.data.length:Int)) gj (by omega))).2 hx;omega
   ·have cJ:fE n (c::cs) m=⟨n+((l+1:Nat):Int),c.data.drop (l+1)⟩::cs:=by unfold fE;rw[e9,nR,if_neg (by omega),if_neg hq];rfl
    rw[cJ];have eB:(c.data.drop (l+1)).length=c.data.length-(l+1):=List.length_drop;have hb:fu ⟨n+((l+1:Nat):Int),⟨n+((l+1:Nat):Int),c.data.drop (l+1)⟩::cs⟩=true:=by
     simp only[fu,fB,Bool.and_eq_true,bz,decide_eq_true_eq];refine⟨⟨by omega,by omega⟩,⟨⟨?_,Int.le_refl _⟩,by rw[eB];omega⟩,?_⟩
     ·intro e;have:=congrArg List.length e;rw[eB]at this;simp at this;omega
     ·rw[eB];exact GU cs _ _ gj (by omega)
    refine⟨hb,?_,?_,fun h1 _=>by rw[ja]at h1;omega⟩
    ·rw[S4 hb];simp only[yz,if_true,eB];rw[ja];omega
    ·rw[wH hb,wH h,tj,tj,eB,show n+((l+1:Nat):Int)+((c.data.length-(l+1):Nat):Int)=c.offset+(c.data.length:Int)from by omega];exact Int.le_refl _
theorem Hn{r:bc}(m:Int)(h:fj r=true):fj (g5 r m)=true:=by
 have h0:=h;simp only[fj,Bool.and_eq_true]at h;obtain⟨cU,aQ⟩:=h;unfold g5;rw[if_pos h0];split
 ·rename_i aC;simp only[fj,Bool.and_eq_true];refine⟨cU,?_⟩;simp only[m3,aC]at aQ⊢;simpa using aQ
 ·rename_i aC;have ak2:=cU;simp only[ub,Bool.and_eq_true,and_assoc]at cU;obtain⟨hb,h1,h2,ak⟩:=cU;have et:fu ⟨r.buffer.next,r.buffer.bd⟩=true:=hb;obtain⟨fT,f2,vY,uP⟩:=L_ m et;have he:iJ ⟨r.buffer.next,r.buffer.bd⟩≤r.d2:=by
   have:=cG (show decide (r.d2<iJ r.buffer)=false by simpa using h2);have e:iJ r.buffer=iJ ⟨r.buffer.next,r.buffer.bd⟩:=rfl;omega
  have bV:∀kH,vj {r with state:=kH,buffer:=⟨r.buffer.next+(eR r.buffer.next r.buffer.bd m:Int),fE r.buffer.next r.buffer.bd m⟩}=vj r:=by
   intro kH;have e:r.buffer.next+(eR r.buffer.next r.buffer.bd m:Int)+(d5 (r.buffer.next+(eR r.buffer.next r.buffer.bd m:Int)) (fE r.buffer.next r.buffer.bd m):Int)=r.buffer.next+(d5 r.buffer.next r.buffer.bd:Int):=by omega
   simp only[vj,e]
  simp only[fj,Bool.and_eq_true];refine⟨?_,?_⟩
  ·simp only[ub,Bool.and_eq_true,and_assoc];refine⟨fT,h1,?_,ak⟩;simp only[Bool.not_eq_true',decide_eq_false_iff_not];omega
  ·obtain⟨tx,lX,mz⟩:=w2 et;have t':=(Bv r.buffer.bd r.buffer.next mz).1;have GB:r.buffer.next+(d5 r.buffer.next r.buffer.bd:Int)≤iJ ⟨r.buffer.next,r.buffer.bd⟩:=by
    by_cases hz:d5 r.buffer.next r.buffer.bd=0
    ·rw[wH et,hz];omega
    ·obtain⟨_,hlt,az,ja,_⟩:=yA hz;have hm:=(Bv (fE r.buffer.next r.buffer.bd (d5 r.buffer.next r.buffer.bd:Int)) _ (w2 (L_ (d5 r.buffer.next r.buffer.bd:Int) et).1).2.2).1;have t:=L_ (d5 r.buffer.next r.buffer.bd:Int) et;have bF:eR r.buffer.next r.buffer.bd (d5 r.buffer.next r.buffer.bd:Int)=d5 r.buffer.next r.buffer.bd:=by unfold eR;simp
     rw[bF]at t hm;rw[wH t.1]at t;omega
   have hz:r.buffer.bd=[]→fE r.buffer.next r.buffer.bd m=[]:=by
    intro hc;have:eR r.buffer.next r.buffer.bd m=0:=by
     have:d5 r.buffer.next r.buffer.bd=0:=by
      by_cases g:d5 r.buffer.next r.buffer.bd=0
      ·exact g
      ·obtain⟨_,hlt,_⟩:=yA g;rw[hc]at hlt;simp at hlt
     unfold eR;omega
    unfold fE;rw[if_pos this,hc]
   have eU:decide ((r.buffer.bd.length:Int)=0)=true→decide (((fE r.buffer.next r.buffer.bd m).length:Int)=0)=true:=by
    intro hc;have:=cl hc;rw[hz (List.length_eq_zero_iff.1 (by omega))];rfl
   have hq:bM r.d2=true:=h1;simp only[bM,bz,Bool.and_eq_true,decide_eq_true_eq]at hq;simp only[m3]at aQ;split at aQ
   ·rename_i iW;have hr:jm r m=0:=by unfold jm;rw[if_neg (by omega),iW]
    simp only[m3,hr,if_true];exact aQ
   ·split at aQ
    ·rename_i iW c9;have hr:jm r m=1:=by unfold jm;rw[if_neg (by omega),c9]
     simp only[m3,hr];rw[bV 1];exact aQ
    ·split at aQ
     ·rename_i iW c9 dc;by_cases q:r.buffer.next+(eR r.buffer.next r.buffer.bd m:Int)=r.bg
      ·have hr:jm r m=3:=by unfold jm;rw[if_pos ⟨dc,q⟩]
       simp only[m3,hr];rw[bV 3];simp only[Bool.and_eq_true]at aQ;have hf:=aQ.1;simp only[vj,Bool.and_eq_true,decide_eq_true_eq]at hf;have hw:IntKind.i64.wrap (r.buffer.next+(d5 r.buffer.next r.buffer.bd:Int))=r.buffer.next+(d5 r.buffer.next r.buffer.bd:Int):=by rw[bE]<;>omega
       rw[hw]at hf;have hh:¬r.bg<r.d2:=by
        have:=ak.2.1;simp only[Bool.not_eq_true',Bool.and_eq_false_iff,decide_eq_false_iff_not]at this;rcases this with this|this
        ·exact absurd hf.1 this
        ·exact this
       have cJ:=uP (by omega) (by omega);rw[cJ,aQ.1,aQ.2];rfl
      ·have hr:jm r m=2:=by unfold jm;rw[if_neg (fun g=>q g.2),dc]
       simp only[m3,hr];rw[bV 2];exact aQ
     ·split at aQ
      ·rename_i iW c9 dc cB;have hr:jm r m=3:=by unfold jm;rw[if_neg (by omega),cB]
       simp only[Bool.and_eq_true]at aQ;simp only[m3,hr];rw[bV 3,aQ.1.1,aQ.2,eU aQ.1.2];rfl
      ·split at aQ
       ·rename_i iW c9 dc cB de;have j7:r.state=5:=by rcases de with de|de;exact absurd de aC;exact de
        have hr:jm r m=5:=by unfold jm;rw[if_neg (by omega),j7]
        simp only[Bool.and_eq_true]at aQ;simp only[m3,hr];rw[eU aQ.2,aQ.1.1,aQ.1.2];rfl
       ·cases aQ
theorem Hk(w:da)(n:Int):(iR w n).seen=w.seen:=by unfold iR;split<;>rfl
theorem Hl{w:da}(n:Int)(h:fl w=true):fl (iR w n)=true:=by
 unfold iR;split
 ·rename_i hr;simp only[mZ,fl,bz,Bool.and_eq_true,decide_eq_true_eq,and_assoc]at hr h⊢;obtain⟨b5,cv,cm,dY,e4,eY,fA,gh,gX,j5,lT,lU,lV⟩:=h;have ai:IntKind.i64.wrap (w.read+w.size)=w.read+w.size:=by rw[bE]<;>omega
  have aj:IntKind.i64.wrap (w.seen-w.read)=w.seen-w.read:=by rw[bE]<;>omega
  have aT:IntKind.i64.wrap (w.read+n)=w.read+n:=by rw[bE]<;>omega
  have bj:IntKind.i64.wrap (w.read+n+w.size)=w.read+n+w.size:=by rw[bE]<;>omega
  rw[aT,bj];rw[ai]at lT;refine⟨b5,cv,cm,dY,e4,eY,fA,gh,?_,?_,?_,lU,lV⟩<;>omega
 ·exact h
theorem SV{a:dm}(h:gN a=true):gN (iX a)=true:=by
 unfold iX;split
 ·rename_i hr;simp only[ua,gN,bz,Bool.and_eq_true,decide_eq_true_eq,and_assoc]at hr h⊢;obtain⟨b5,cv,cm,dY,e4,eY,fA,gh,gX⟩:=h;have ai:IntKind.i64.wrap (a.closed+a.most)=a.closed+a.most:=by rw[bE]<;>omega
  have aj:IntKind.i64.wrap (a.closed+1)=a.closed+1:=by rw[bE]<;>omega
  have aT:IntKind.i64.wrap (a.closed+1+a.most)=a.closed+1+a.most:=by rw[bE]<;>omega
  rw[aj,aT];rw[ai]at gX;refine⟨b5,cv,cm,dY,e4,eY,?_,?_,?_⟩<;>omega
 ·exact h
theorem abw{α:Type}{key:α→Int}{ok:α→Bool}{l:List α}{i:Nat}{x:α}(h:tC key ok l=true)(hi:i<l.length)(hk:key x=key l[i])(hx:ok x=true):tC key ok (l.set i x)=true:=by
 have SW:∀j (av:j<l.length),key ((l.set i x)[j]'(by simpa using av))=key l[j]:=by
  intro j av;rw[List.getElem_set];split
  ·rename_i e;subst e;exact hk
  ·rfl
 have hok:∀j (av:j<l.length),ok l[j]=true→ok ((l.set i x)[j]'(by simpa using av))=true:=by
  intro j av abx;rw[List.getElem_set];split
  ·exact hx
  ·exact abx
 unfold tC at h⊢;rw[List.length_set];simp only[iV,List.all_eq_true,List.mem_range]at h⊢;intro j av;have:=h j av
 cases j with
 |zero=>
  rw[um _ _ _ av]at this;rw[um _ _ _ (by simpa using av)];exact hok 0 av this
 |succ j=>
  rw[uo _ _ _ _ av,Bool.and_eq_true]at this;rw[uo _ _ _ _ (by simpa using av),Bool.and_eq_true,SW j (by omega),SW (j+1) av];exact⟨hok (j+1) av this.1,this.2⟩
theorem L3{l:List ae}{s:ae}(hf:(bN l s.id).2=true):∃i,∃hi:i<l.length,dq l s=l.set i s∧l[i].id=s.id∧(bN l s.id).1=l[i]:=by
 rcases Ac (ff s.id) l with ⟨_,h⟩|⟨i,hi,h1,h2,ak⟩
 ·unfold bN at hf;rw[h]at hf;cases hf
 ·exact⟨i,hi,SX h1,cl ak,by unfold bN;rw[h2]⟩
theorem SY{ok:ae→Bool}{l:List ae}{s:ae}(h:gu ok l=true)(hf:(bN l s.id).2=true)(hs:ok s=true):gu ok (dq l s)=true:=by
 obtain⟨i,hi,e,d6,_⟩:=L3 hf;rw[e];simp only[gu,Bool.and_eq_true,List.length_set]at h⊢;exact⟨abw h.1 hi d6.symm hs,h.2⟩
theorem aby(f:ae→Int){l:List ae}{i:Nat}{s:ae}(hi:i<l.length)(h:f s=f l[i])(n:Int):(l.set i s).foldl (l1 f) n=l.foldl (l1 f) n:=by
 have key:∀(l:List ae) (n:Int),l.foldl (l1 f) n=(l.map f).foldl (fun n x=>if 4611686018427387904<IntKind.i64.wrap (n+x)then 4611686018427387904 else IntKind.i64.wrap (n+x)) n:=by
  intro l
  induction l with
  |nil=>intro n;rfl
  |cons a l dx=>intro n;rw[List.foldl_cons,List.map_cons,List.foldl_cons,dx];rfl
 rw[key,key,List.map_set,h]
 congr 1
 rw[←List.getElem_map (f:=f) (h:=by simpa using hi)];exact List.set_getElem_self _
theorem SZ{ok:ae→Bool}(f:ae→Int){l:List ae}{s:ae}(h:gu ok l=true)(hf:(bN l s.id).2=true)(hs:ok s=true)(he:f s=f (bN l s.id).1):kt ok f (dq l s)=kt ok f l:=by
 rw[Bt (SY h hf hs),Bt h];obtain⟨i,hi,e,_,hx⟩:=L3 hf;rw[e];exact aby f hi (by rw[he,hx]) 0
theorem abz{ok:ae→Bool}{c d:J}{s:ae}(h:l2 ok c=true)(hf:(bN c.streams s.id).2=true)(hs:ok s=true)(h1:kU s=kU (aw c s.id))(h2:kV s=kV (aw c s.id))
  (hd:d={c with streams:=dq c.streams s,bO:=d.bO,dA:=d.dA,dz:=d.dz}) (hi:fl d.bO=true) (gY:d.bO.seen=c.bO.seen) (hb:gN d.dA=true) (hu:gN d.dz=true):l2 ok d=true:=by
 rw[hd];simp only[l2,sM,yH,Bool.and_eq_true,and_assoc]at h⊢;obtain⟨b5,cv,cm,dY,e4,eY,fA,gh,gX,j5,lT,lU,lV,zZ,BQ,BR⟩:=h;refine⟨b5,cv,SY cm hf hs,dY,hi,eY,fA,hb,hu,j5,lT,lU,lV,zZ,?_,?_⟩
 ·rw[SZ kU cm hf hs h1];exact BQ
 ·rw[SZ kV cm hf hs h2,gY];exact BR
theorem Hm(r:bc)(m:Int):(g5 r m).d2=r.d2:=by
 unfold g5;split
 ·split<;>rfl
 ·rfl
theorem abA{b:Bool}{s:ae}(m n:Int)(h:k' b s=true)(hc:s.eJ=true):k' b {s with recv:=g5 s.recv m,window:=iR s.window n}=true∧k' b {s with recv:=g5 s.recv m}=true:=by
 have hh:=Hm s.recv m;have hw:=Hk s.window n;simp only[k',zx,zy,Bu,Bool.and_eq_true,and_assoc]at h;obtain⟨fP,b5,cv,cm,dY,e4,eY,fA,gh,gX,j5,lT,lU,lV,zZ⟩:=h;have r:=Hn m cm;have w:=Hl n dY;constructor
 ·simp only[k',zx,zy,Bu,Bool.and_eq_true,and_assoc,hh,hw];exact⟨fP,b5,cv,r,w,e4,eY,fA,gh,gX,j5,lT,lU,lV,by rw[hc];rfl⟩
 ·simp only[k',zx,zy,Bu,Bool.and_eq_true,and_assoc,hh];exact⟨fP,b5,cv,r,dY,e4,eY,fA,gh,gX,j5,lT,lU,lV,by rw[hc];rfl⟩
theorem abB{b:Bool}{c:J}{s:ae}(h:k' b s=true):k' b (gG c s)=true:=by
 unfold gG;split
 ·exact h
 ·exact h
theorem abC{c:J}(s:ae)(h1:gN c.dA=true)(h2:gN c.dz=true):gN (lr c s).dA=true∧gN (lr c s).dz=true:=by
 unfold lr;split
 ·split
  ·exact⟨h1,SV h2⟩
  ·exact⟨SV h1,h2⟩
 ·exact⟨h1,h2⟩
theorem abD(c x:J)(s:ae)(i:da)(hx:x={c with bO:=i}):dt x s={c with streams:=dq c.streams (gG x s),bO:=(dt x s).bO,dA:=(dt x s).dA,dz:=(dt x s).dz}∧(dt x s).bO=i∧(dt x s).dA=(lr x s).dA∧(dt x s).dz=(lr x s).dz:=by
 subst hx;unfold dt lr;split
 ·split<;>exact⟨rfl,rfl,rfl,rfl⟩
 ·exact⟨rfl,rfl,rfl,rfl⟩
theorem abE{g:aM→Bool}{c:J}{id:Int}(m:Int)(h:l2 (fun s=>k' (g s.send) s) c=true):l2 (fun s=>k' (g s.send) s) (er c id m)=true:=by
 unfold er;split
 ·rename_i hg;simp only[i_,Bool.and_eq_true]at hg;obtain⟨⟨_,hf⟩,L4⟩:=hg;obtain⟨d6,v5⟩:=oh hf;have hp:=h;simp only[l2,sM,Bool.and_eq_true,and_assoc]at hp;obtain⟨_,_,fK,_,nn,_,_,abF,abG,_⟩:=hp;have hok:k' (g (aw c id).send) (aw c id)=true:=by
   simp only[gu,Bool.and_eq_true]at fK;obtain⟨i,hi,he⟩:=List.getElem_of_mem v5;have:=fK.1;simp only[tC,iV,List.all_eq_true,List.mem_range]at this;have:=this i hi
   cases i with
   |zero=>rw[um _ _ _ hi]at this;rwa [he]at this
   |succ j=>rw[uo _ _ _ _ hi,Bool.and_eq_true]at this;rw[he]at this;exact this.1
  obtain⟨cF,bh,bI⟩:=DG c id m;have cD:k' (g (fW c id m).send) (fW c id m)=true:=by
   rw[cF];have hh:=abA (s:=aw c id) m (od (mY c id m) (fX c id m).buffer.next) hok L4;unfold fW;split
   ·exact hh.1
   ·exact hh.2
  have cJ:∃i,fr c id m={c with bO:=i}∧fl i=true∧i.seen=c.bO.seen:=by
   unfold fr;split
   ·exact⟨_,rfl,Hl _ nn,Hk _ _⟩
   ·exact⟨c.bO,rfl,nn,rfl⟩
  obtain⟨i,hx,w4,uS⟩:=cJ;obtain⟨ai,aj,aT,bj⟩:=abD c (fr c id m) (fW c id m) i hx;obtain⟨dy,d_,ej⟩:=Bk (fr c id m) (fW c id m);obtain⟨dF,dO⟩:=abC (c:=fr c id m) (fW c id m) (by rw[hx];exact abF) (by rw[hx];exact abG);have aO:(gG (fr c id m) (fW c id m)).id=id:=by rw[ej,bI];exact d6
  refine abz h (s:=gG (fr c id m) (fW c id m)) (by rw[aO];exact hf) ?_ ?_ ?_ ai (by rw[aj];exact w4) (by rw[aj];exact uS) (by rw[aT];exact dF) (by rw[bj];exact dO)
  ·show k' (g (gG (fr c id m) (fW c id m)).send) _=true
   rw[dy];exact abB cD
  ·rw[aO];show(gG _ _).send.sent=_;rw[dy,cF];rfl
  ·rw[aO];show(gG _ _).recv.d2=_;rw[d_,bh];exact Hm _ m
 ·exact h
def e3(f:da→Int):List ae→Int
 |[]=>0
 |s::l=>f s.window+e3 f l
theorem L'(f:da→Int):∀(l k:List ae),e3 f (l++k)=e3 f l+e3 f k
 |[],k=>by simp[e3]
 |s::l,k=>by rw[bx,e3,e3,L' f l k];omega
theorem Ma(f:da→Int)(s:ae):∀(l:List ae) (i:Nat) (hi:i<l.length),e3 f (l.set i s)=e3 f l-f l[i].window+f s.window
 |[],i,hi=>by simp at hi
 |x::l,0,hi=>by simp only[List.set_cons_zero,e3,List.getElem_cons_zero];omega
 |x::l,i+1,hi=>by
  have:=Ma f s l i (by simpa using hi);simp only[List.set_cons_succ,e3,List.getElem_cons_succ];omega
theorem S5(f:da→Int)(s:ae):∀(l:List ae) (q:List ae×Bool),e3 f (l.foldl (iY s) q).1+(bif q.2 then f s.window else 0)=e3 f q.1+e3 f l+(bif (l.foldl (iY s) q).2 then f s.window else 0)
 |[],q=>by rw[List.foldl_nil,e3,Int.add_zero]
 |y::l,q=>by
  have h:=S5 f s l (iY s q y);rw[List.foldl_cons,e3];have e:e3 f (iY s q y).1+(bif q.2 then f s.window else 0)=e3 f q.1+f y.window+(bif (iY s q y).2 then f s.window else 0):=by
   unfold iY
   cases hq:q.2<;>by_cases hlt:s.id<y.id<;>simp[hlt,L',e3]<;>omega
  omega
theorem abI(f:da→Int){l:List ae}{s:ae}(h:l.findIdx? (ff s.id)=none):e3 f (dq l s)=e3 f l+f s.window:=by
 have h0:=S5 f s l ([],false);simp only[e3,cond_false,Int.add_zero,Int.zero_add]at h0;have this:e3 f (jd s l).1=e3 f l+(bif (jd s l).2 then f s.window else 0):=h0;unfold dq;rw[h];simp only;by_cases h2:(jd s l).2=true
 ·rw[h2,cond_true]at this;rw[if_pos h2];omega
 ·have ak:(jd s l).2=false:=by simpa using h2
  rw[ak,cond_false]at this;rw[if_neg h2,L'];simp only[e3];omega
theorem abJ(f:da→Int){l:List ae}{s:ae}(hf:(bN l s.id).2=true):e3 f (dq l s)=e3 f l-f (bN l s.id).1.window+f s.window:=by
 obtain⟨i,hi,e,_,hx⟩:=L3 hf;rw[e,Ma f s l i hi,hx]
def room(w:da):Int:=w.seen-w.read
def wI(l:List ae):Prop:=∀s∈l,0≤room s.window
theorem S6{l:List ae}{s:ae}(hl:wI l)(hs:room s.window=0):e3 room (dq l s)≤e3 room l∧wI (dq l s):=by
 refine⟨?_,fun t ht=>?_⟩
 ·cases h:l.findIdx? (ff s.id)with
  |none=>rw[abI room h,hs];omega
  |some i=>
   obtain⟨hi,hp,_⟩:=List.findIdx?_eq_some_iff_getElem.1 h;have e:dq l s=l.set i s:=by unfold dq;rw[h]
   have:=hl _ (List.getElem_mem hi);rw[e,Ma room s l i hi,hs];omega
 ·rcases yE ht with ht|rfl
  ·exact hl t ht
  ·omega
structure cX(c:J):Prop where
 n_:e3 room c.streams≤room c.bO
 le:wI c.streams
theorem S7:∀(l:List ae),wI l→0≤e3 room l
 |[],_=>Int.le_refl _
 |s::l,h=>by
  have:=S7 l fun t ht=>h t (by simp[ht]);have:=h s (by simp);simp only[e3];omega
theorem L7:∀(l:List ae) (s:ae),s∈l→wI l→room s.window≤e3 room l
 |[],s,hs,_=>by cases hs
 |t::l,s,hs,h=>by
  have ht:=h t (by simp);have hl:=S7 l fun t ht=>h t (by simp[ht]);simp only[e3];rcases List.mem_cons.1 hs with rfl|hs
  ·omega
  ·have:=L7 l s hs fun t ht=>h t (by simp[ht]);omega
theorem cX.same{c d:J}(h:cX c)(h1:d.streams=c.streams)(h2:d.bO.seen=c.bO.seen)(ak:d.bO.read=c.bO.read):cX d:=⟨by have:=h.n_;unfold room at this⊢;rw[h1,h2,ak];exact this,by rw[h1];exact h.le⟩
theorem Mb{c d:J}{s:ae}(h:cX c)(hf:(bN c.streams s.id).2=true)(hs:d.streams=dq c.streams s)(h1:room s.window-room (aw c s.id).window=room d.bO-room c.bO)(bL:0≤room s.window):cX d:=by
 refine⟨?_,fun t ht=>?_⟩
 ·have:=h.n_;rw[hs,abJ _ hf];show _-room (aw c s.id).window+_≤_;omega
 ·rw[hs]at ht;rcases yE ht with ht|rfl
  ·exact h.le t ht
  ·exact bL
theorem abK{c:J}{s:ae}(h:cX c)(hf:(bN c.streams s.id).2=true)(h1:s.window.seen=(aw c s.id).window.seen)(h2:s.window.read=(aw c s.id).window.read):cX (jV c s):=by
 have hm:=h.le _ (oh hf).2;have e:room s.window=room (aw c s.id).window:=by unfold room;rw[h1,h2]
 exact Mb h hf rfl (by rw[e];show _=room c.bO-_;omega) (by rw[e];exact hm)
structure jZ(c x:J)(o s:ae):Prop where
 kH:x.streams=c.streams
 id:s.id=o.id
 n_:room s.window-room o.window=room x.bO-room c.bO
 le:0≤room s.window
 fy:fl s.window=true
 Mc:fl x.bO=true
theorem x6{w:da}(h:fl w=true):0≤w.read∧w.read≤w.seen∧w.seen≤w.a1∧w.a1≤4611686018427387903:=by
 simp only[fl,bz,Bool.and_eq_true,decide_eq_true_eq,and_assoc]at h;obtain⟨b5,cv,cm,dY,e4,eY,fA,gh,gX,j5,_⟩:=h;exact⟨gX,j5,gh,eY⟩
theorem jZ.refl{c:J}{id:Int}(hf:(bN c.streams id).2=true)(h:cX c)(hs:fl (aw c id).window=true)(hc:fl c.bO=true):jZ c c (aw c id) (aw c id):=
 ⟨rfl,rfl,by omega,h.le _ (oh hf).2,hs,hc⟩
theorem Md{w:da}{n:Int}(h:gD w n=true):(kl w n).seen=w.seen+n∧(kl w n).read=w.read∧0≤n∧fl (kl w n)=true:=by
 have h0:=h;simp only[gD,Bool.and_eq_true,decide_eq_true_eq]at h;obtain⟨⟨h1,h2⟩,ak⟩:=h;obtain⟨dF,dO,dR,l0⟩:=x6 h1;rw[bE (n:=w.a1-w.seen) (by omega) (by omega)]at ak;have e:kl w n={w with seen:=w.seen+n}:=by
  unfold kl;rw[if_pos h0,bE (n:=w.seen+n) (by omega) (by omega)]
 rw[e];refine⟨rfl,rfl,h2,?_⟩;simp only[fl,bz,Bool.and_eq_true,decide_eq_true_eq,and_assoc]at h1⊢;obtain⟨b5,cv,cm,dY,e4,eY,fA,gh,gX,j5,lT,lU,lV⟩:=h1;exact⟨b5,cv,cm,dY,e4,eY,by omega,by omega,gX,by omega,lT,lU,lV⟩
theorem jZ.g6{c x:J}{o s:ae}(h:jZ c x o s)(e:Int)(he:gK x s e=0):jZ c (kk x s e) o (i9 s e):=by
 unfold gK at he;unfold kk i9;by_cases hn:lK s e=0
 ·rw[if_pos hn,if_pos hn];exact h
 ·rw[if_neg hn]at he;rw[if_neg hn,if_neg hn];by_cases hk:(gD s.window (lK s e)&&gD x.bO (lK s e))=true
  ·rw[Bool.and_eq_true]at hk;obtain⟨c9,dc,cB,de⟩:=Md hk.1;obtain⟨x1,x2,_,E3⟩:=Md hk.2;have h1:=h.n_;have h2:=h.le;unfold room at h1 h2;exact⟨h.kH,h.id,by simp only[room,c9,x1,dc,x2];omega,by simp only[room,c9,dc];omega,de,E3⟩
  ·rw[if_neg hk]at he;simp at he
theorem Hp{w:da}{n:Int}(h:fl w=true)(h0:0≤n)(h1:n≤w.seen-w.read):(iR w n).read=w.read+n:=by
 obtain⟨dF,dO,dR,l0⟩:=x6 h;have hk:mZ w n=true:=by
  simp only[mZ,Bool.and_eq_true,decide_eq_true_eq];refine⟨⟨h,h0⟩,?_⟩;rw[bE (n:=w.seen-w.read) (by omega) (by omega)];exact h1
 unfold iR;rw[if_pos hk,bE (n:=w.read+n) (by omega) (by omega)]
theorem jZ.Gz{c x:J}{o s:ae}(hc:cX c)(az:o∈c.streams)(h:jZ c x o s)(t:Int)(ht:t≤s.window.seen)(ak3:0≤t):jZ c (oc x s t) o (nA s t):=by
 obtain⟨dF,dO,dR,l0⟩:=x6 h.fy;have hr:=L7 c.streams o az hc.le;have cF:=hc.n_;have h1:=h.n_;have hn:0≤od s t∧od s t≤s.window.seen-s.window.read:=by
  unfold od dg;rw[bE (n:=t-s.window.read) (by omega) (by omega)];split<;>omega
 unfold room at hr cF h1;have aH:=Hp h.fy hn.1 hn.2;have aZ:=Hp h.Mc hn.1 (by omega);exact⟨h.kH,h.id,by simp only[room,nA,oc,Hk,aH,aZ];omega,by simp only[room,nA,aH,Hk];omega,Hl _ h.fy,Hl _ h.Mc⟩
theorem L8(c:J)(s:ae):(lr c s).bO=c.bO:=by
 unfold lr;repeat' split
 all_goals rfl
theorem L9(c:J)(s:ae):(gG c s).window=s.window:=by unfold gG;split<;>rfl
theorem jZ.Me{c x:J}{id:Int}{s:ae}(hc:cX c)(hf:(bN c.streams id).2=true)(h:jZ c x (aw c id) s)(r:bc):cX (dt x {s with recv:=r}):=by
 obtain⟨dy,d_,ej⟩:=Bk x {s with recv:=r};have hw:=L9 x {s with recv:=r};have d6:(gG x {s with recv:=r}).id=id:=by rw[ej];show s.id=id;rw[h.id];exact(oh hf).1
 have h1:=h.n_;refine Mb (s:=gG x {s with recv:=r}) hc (by rw[d6];exact hf) (by show dq x.streams _=_;rw[h.kH]) ?_ (by rw[hw];exact h.le);rw[d6,hw];show room s.window-_=room (lr x _).bO-_;rw[L8];exact h1
theorem x7{c:J}{id:Int}{s:ae}(h:cX c)(hf:(bN c.streams id).2=true)(hi:s.id=(aw c id).id)(h1:s.window.seen=(aw c id).window.seen)(h2:s.window.read=(aw c id).window.read):cX (jV c s):=by
 have e:s.id=id:=by rw[hi,wB hf]
 exact abK h (by rw[e];exact hf) (by rw[e];exact h1) (by rw[e];exact h2)
theorem Mf{c:J}{id:Int}{s:ae}(h:cX c)(hf:(bN c.streams id).2=true)(hi:s.id=(aw c id).id)(h1:s.window.seen=(aw c id).window.seen)(h2:s.window.read=(aw c id).window.read):cX (dt c s):=by
 obtain⟨dy,d_,ej⟩:=Bk c s;have hw:=L9 c s;have e:(gG c s).id=id:=by rw[ej,hi,wB hf]
 have hl:=h.le _ (oh hf).2;have S8:room (gG c s).window=room (aw c id).window:=by rw[hw];unfold room;rw[h1,h2]
 refine Mb (s:=gG c s) h (by rw[e];exact hf) rfl ?_ (by rw[S8];exact hl);rw[e,S8];show _=room (lr c s).bO-_;rw[L8];omega
theorem S9(w:da)(a b:Int):(wE w a b).seen=w.seen∧(wE w a b).read=w.read:=by unfold wE;split<;>exact⟨rfl,rfl⟩
theorem abL(c:J)(s:ae):(l9 c s).1.seen=s.window.seen∧(l9 c s).1.read=s.window.read:=by
 unfold l9;repeat' split
 all_goals first|exact S9 _ _ _|exact⟨rfl,rfl⟩
theorem S_(c:J):(mF c).1.seen=c.bO.seen∧(mF c).1.read=c.bO.read:=by
 unfold mF;split
 ·exact S9 _ _ _
 ·exact⟨rfl,rfl⟩
theorem S'(c:J)(s:ae)(k:Int):(ka c s k).window.seen=s.window.seen∧(ka c s k).window.read=s.window.read:=by
 unfold ka
 repeat' split
 all_goals first|exact⟨rfl,rfl⟩|exact abL c s
theorem abM{c:J}(h:cX c)(f:al):cX (kc c f):=by
 unfold kc
 repeat' split
 all_goals first
  |exact h
  |exact h.same rfl (S_ c).1 (S_ c).2
  |exact h.same rfl rfl rfl
  |(rename_i hf;exact x7 h hf (Fh c (aw c f.stream) f.bn).2.2 (S' _ _ _).1 (S' _ _ _).2)
theorem abN{c:J}(h:cX c)(id:Int)(p:bS):cX (yU c id p):=by
 unfold yU;split
 ·rename_i hok;exact(x7 (s:=tM (aw c id) p) h (Sd hok) rfl rfl rfl).same rfl rfl rfl
 ·exact h
theorem abO{c:J}{id:Int}(h:cX c)(hf:(bN c.streams id).2=true):cX (Fo c id):=
 (x7 (s:=vT (aw c id)) h hf rfl rfl rfl).same rfl rfl rfl
theorem Mg:∀(n:Nat) (q:mK),cX q.x→cX (jC n q).x
 |0,q,h=>h
 |n+1,q,h=>by
  unfold jC;split
  ·exact h
  ·rename_i h0;split
   ·split
    ·exact Mg n (Av q) (abN h _ _)
    ·exact h
   ·exact Mg n (yR q) (abO h (JB (by omega)))
theorem Ta:∀(l:List al) (q:yP),cX q.x→cX (l.foldl mJ q).x
 |[],q,h=>h
 |f::l,q,h=>by
  refine Ta l (mJ q f) ?_;unfold mJ;split
  ·exact abM h f
  ·exact h
theorem abP{c:J}(h:cX c)(b:Int):cX (fo c b):=by
 have hB:cX (kd c b).x:=Mg 200 _ (Ta (iB c) ⟨c,[],b⟩ h);unfold fo
 repeat' split
 all_goals first|exact hB|exact h|exact hB.same rfl rfl rfl
theorem abQ{c:J}(h:cX c)(id:Int)(d:List UInt8):cX (fF c id d):=by
 unfold fF;split
 ·rename_i hg;exact x7 (id:=id) (s:=f0 (aw c id) (sI (aw c id).send d)) h (xX hg) rfl rfl rfl
 ·exact h
theorem abR{c:J}(h:cX c)(id:Int):cX (yB c id):=by
 unfold yB;split
 ·rename_i hg;simp only[z5,Bool.and_eq_true]at hg;exact x7 (id:=id) (s:=f0 (aw c id) (uv (aw c id).send)) h (xX hg.1) rfl rfl rfl
 ·exact h
theorem abS{c:J}(h:cX c)(id:Int)(t:List UInt8):cX (jN c id t):=by
 unfold jN;split
 ·rename_i hg;exact x7 (id:=id) (s:={aw c id with priority:=w8 (aw c id).priority t}) h (xX hg) rfl rfl rfl
 ·exact h
theorem Tb{c:J}(h:cX c)(n:Int):cX (lS c n):=h.same rfl rfl rfl
theorem abT{c:J}(h:cX c)(id k:Int):cX (jP c id k):=by
 unfold jP;split
 ·rename_i hg;simp only[vG,Bool.and_eq_true]at hg;exact Mf (id:=id) (s:=fe (aw c id) k) h (xX hg.1) rfl rfl rfl
 ·exact h
theorem Ho{ok:ae→Bool}{c:J}{id:Int}(h:l2 ok c=true)(hf:(bN c.streams id).2=true):ok (aw c id)=true∧fl c.bO=true:=by
 simp only[l2,sM,gu,Bool.and_eq_true,and_assoc]at h;obtain⟨_,_,fK,_,_,nn,_⟩:=h;refine⟨?_,nn⟩;obtain⟨i,hi,he⟩:=List.getElem_of_mem (oh hf).2;simp only[tC,iV,List.all_eq_true,List.mem_range]at fK;have:=fK i hi
 cases i with
 |zero=>rw[um _ _ _ hi]at this;rwa [he]at this
 |succ j=>rw[uo _ _ _ _ hi,Bool.and_eq_true]at this;rw[he]at this;exact this.1
theorem DU{s:ae}(h:fm s=true):fl s.window=true∧fj s.recv=true∧s.recv.d2≤s.window.seen:=by
 simp only[fm,k',zx,zy,Bool.and_eq_true,and_assoc,Bool.not_eq_true',decide_eq_false_iff_not]at h;obtain⟨_,_,_,cm,dY,_,_,_,_,gh,_⟩:=h;exact⟨dY,cm,by omega⟩
theorem L6{r:bc}(h:fj r=true):0≤r.buffer.next∧r.buffer.next≤r.d2:=by
 simp only[fj,ub,Bool.and_eq_true,and_assoc,Bool.not_eq_true',decide_eq_false_iff_not]at h;obtain⟨hb,_,h2,_⟩:=h;have et:fu ⟨r.buffer.next,r.buffer.bd⟩=true:=hb;obtain⟨tx,lX,mz⟩:=w2 et;have:=(Bv r.buffer.bd r.buffer.next mz).1;have e:iJ r.buffer=tj r.buffer.next r.buffer.bd:=wH et;exact⟨tx,by omega⟩
theorem jZ.recv{c x:J}{o s:ae}(h:jZ c x o s)(r:bc):jZ c x o (fi s r):=⟨h.kH,h.id,h.n_,h.le,h.fy,h.Mc⟩
theorem abU{c:J}(h:cX c)(id m:Int):cX (er c id m):=by
 unfold er;split
 ·rename_i hg;simp only[i_,iS,Bool.and_eq_true]at hg;obtain⟨⟨⟨hc,_⟩,hf⟩,_⟩:=hg;obtain⟨k1,k2⟩:=Ho (ok:=fm) hc hf;obtain⟨e5,gr,lo⟩:=DU k1;have hr:=Hn m gr;obtain⟨ga,g3⟩:=L6 hr;rw[Hm]at g3;have Tc:=(jZ.refl hf h e5 k2).recv (fX c id m);have s6:jZ c (fr c id m) (aw c id) (fW c id m):=by
   unfold fr fW
   cases hb:ti c id m with
   |true=>exact Tc.Gz h (oh hf).2 _ (by show(g5 _ _).buffer.next≤(aw c id).window.seen;omega) ga
   |false=>exact Tc
  exact jZ.Me h hf s6 (fW c id m).recv
 ·exact h
theorem abV{c:J}{f:al}(h:cX c)(he:∀id,cX (bw c id))(hf:wv c f=0→(bN (bw c f.stream).streams f.stream).2=true):cX (zi c f):=by
 unfold zi;split
 ·rename_i h0;split
  ·exact x7 (id:=f.stream) (s:=Be (bw c f.stream) f) (he _) (hf h0) rfl rfl rfl
  ·exact he _
 ·exact h
theorem abW{c:J}{f:al}(h:cX c)(he:∀id,cX (bw c id))(hf:wv c f=0→(bN (bw c f.stream).streams f.stream).2=true):cX (mU c f):=by
 have hl:=abV h he hf;unfold mU
 repeat' split
 all_goals first|exact h|exact hl|exact h.same rfl rfl rfl
theorem Td(s:ae)(f:al):(gm s f).window=s.window∧(kJ s f).window=s.window:=by
 constructor
 ·unfold gm;repeat' split
  all_goals rfl
 ·unfold kJ;repeat' split
  all_goals rfl
theorem abX{c:J}(h:cX c)(f:al):cX (m9 c f):=by
 unfold m9;split
 ·rename_i hg;simp only[Bl,Bool.and_eq_true]at hg;have e:=(Td (aw c f.stream) f).1;exact Mf (id:=f.stream) h hg.1 (Sn _ f) (by rw[e]) (by rw[e])
 ·exact h
theorem abY{c:J}(h:cX c)(f:al):cX (m' c f):=by
 unfold m'
 repeat' split
 all_goals first
  |exact h
  |exact h.same rfl rfl rfl
  |(rename_i hg;simp only[Bl,Bool.and_eq_true]at hg;have e:=(Td (aw c f.stream) f).2;exact x7 (id:=f.stream) h hg.1 (So _ f) (by rw[e]) (by rw[e]))
theorem Mh{g:J→al→J}(hg:∀c f,cX c→cX (g c f)):∀(l:List al) (c:J),cX c→cX (l.foldl g c)
 |[],_,h=>h
 |f::l,c,h=>Mh hg l (g c f) (hg c f h)
theorem abZ{c:J}(h:cX c)(n:Int):cX (yp c n):=by
 unfold yp;split
 ·exact Mh (fun c f h=>abX h f) _ _ (Tb h n)
 ·exact h
theorem ab0{c:J}(h:cX c)(n:Int):cX (yr c n):=by
 unfold yr;split
 ·exact Mh (fun c f h=>abY h f) _ _ (Tb h n)
 ·exact h
set_option maxRecDepth 100000
def D3:List (List bt):=cE 9 [18836,18834,18868,18850,18913,18711,19318,17496,13122]
def wM:List (List bt):=cE 6 [716,691,616,714,657,486]
def TB:List (List bt):=cE 12 [501956,501954,501948,501930,524839,524677,524191,522733,528160,511798,472392,354294]
attribute [go_sem] D3 wM TB
theorem acD{l:List ae}{s:ae}{i:Nat}(h:hE (ff s.id) l=(i:Int))(hi:i<l.length):dq l s=l.take i++s::l.drop (i+1):=by
 have h2:l.findIdx? (ff s.id)=some i:=by
  unfold hE at h;split at h
  ·rename_i j e;rw[e];congr 1;omega
  ·omega
 have e:dq l s=l.set i s:=by unfold dq;rw[h2]
 rw[e,List.set_eq_take_append_cons_drop,if_pos hi]
theorem TC{w:da}{n:Int}(h:fl w=true):iR w (dg 0 n)=iR w n:=by
 have hb:=x6 h;by_cases hn:0<n
 ·rw[show dg 0 n=n by unfold dg;rw[if_pos hn]]
 ·have dM:dg 0 n=0:=by unfold dg;rw[if_neg hn]
  rw[dM];by_cases hz:n=0
  ·rw[hz]
  ·have h1:mZ w n=false:=by unfold mZ;rw[bb (show ¬0≤n by omega)];simp
   have h2:iR w n=w:=by unfold iR;rw[h1];rfl
   rw[h2];unfold iR;split
   ·rw[Int.add_zero,bE (by omega) (by omega)]
   ·rfl
theorem acE{α:Type}{p:α→Bool}{l:List α}{i:Nat}{s:α}(h:hE p l=(i:Int))(hi:i<l.length)(hs:p s=true):hE p (l.take i++s::l.drop (i+1))=(i:Int):=by
 have h2:l.findIdx? p=some i:=by
  unfold hE at h;split at h
  ·rename_i j e;rw[e];congr 1;omega
  ·omega
 rw[List.findIdx?_eq_some_iff_getElem]at h2;obtain⟨_,_,ak⟩:=h2;have hl:(l.take i).length=i:=by rw[List.length_take];omega
 refine JI p _ i (by simp;omega) ?_ ?_
 ·rw[List.take_append_of_le_length (by omega),List.take_of_length_le (by omega),List.any_eq_false];intro x hx;obtain⟨j,av,rfl⟩:=List.mem_take_iff_getElem.1 hx;exact ak j (by omega)
 ·rw[List.getElem_append_right (by omega)];simp[hl,hs]
theorem acF{α β:Type}(f:α→β)(l:List α)(i:Nat)(hi:i<l.length)(y:α){lO:List α}(e9:lO=l.take i++y::l.drop (i+1)) :
  lO.length=l.length∧(lO.map f)[i]?=some (f y)∧(lO.map f).take i=(l.map f).take i∧(lO.map f).drop (i+1)=(l.map f).drop (i+1)∧(l.map f).take i++f y::(l.map f).drop (i+1)=lO.map f:=by
 have hl:((l.map f).take i).length=i:=by rw[List.length_take,I];omega
 have e:(l.map f).take i++f y::(l.map f).drop (i+1)=lO.map f:=by rw[e9];simp
 refine⟨by rw[e9];simp;omega,?_,?_,?_,e⟩
 ·rw[←e,List.getElem?_append_right (by omega),hl,Nat.sub_self];rfl
 ·rw[←e,List.take_append_of_le_length (by omega),List.take_of_length_le (by omega)]
 ·rw[←e,List.drop_append,hl,List.drop_of_length_le (by omega),Nat.add_sub_cancel_left];rfl
theorem acG{α β:Type}{f:α→β}{l:List α}{i:Nat}{y:α}{lO:List α}(e9:lO=l.take i++y::l.drop (i+1)):(l.map f).take i++f y::(l.map f).drop (i+1)=lO.map f:=by rw[e9];simp
theorem D4(b:Bool){p:Prop}(h1:b=true→p)(h2:b=false→p):p:=by cases b<;>simp_all
theorem acH{r:bc}(h:fj r=true):decide (r.state<4)=(decide (r.state≠4)&&decide (r.state≠5)):=by
 simp only[fj,m3,Bool.and_eq_true]at h;have bL:r.state=0∨r.state=1∨r.state=2∨r.state=3∨r.state=4∨r.state=5:=by
  have h:=h.2
  repeat' split at h
  all_goals first|omega|cases h
 rcases bL with e|e|e|e|e|e<;>rw[e]<;>rfl
theorem acI{S:List Bool}(h:S.length=14):∃fP b5 cv cm dY e4 eY fA gh gX j5 lT lU lV,S=[fP,b5,cv,cm,dY,e4,eY,fA,gh,gX,j5,lT,lU,lV]:=by
 match S,h with|[fP,b5,cv,cm,dY,e4,eY,fA,gh,gX,j5,lT,lU,lV],_=>exact⟨fP,b5,cv,cm,dY,e4,eY,fA,gh,gX,j5,lT,lU,lV,rfl⟩
def Mw(c:J)(id m:Int)(i:Nat)(aS:ae)(R:bc)(T:List UInt8)(bD bI sV yW Fq acJ:H)(S:List Bool):St:=⟨(.ptr 10 0 0::.ptr 8 i 0::.ptr 2 0 0::.ptr 4 0 0::.ptr 5 0 0::.ptr 1 0 0::.ab::.ab::.d (.bool false)::.ab::(bif S.getD 7 false then .dB [.d (.str T),.agg (bc.aK R (.sl 16 0 R.buffer.bd.length))]else .ab)::(bif S.getD 0 false then .ptr 8 i 0 else .ab)::(bif S.getD 1 false then .ptr 8 i 0 else .ab)::(bif S.getD 2 false then .ptr 8 i 0 else .ab)::(bif S.getD 3 false then .ptr 8 i 17 else .ab)::(bif S.getD 4 false then .agg (bc.aK aS.recv (.sl 15 0 aS.recv.buffer.bd.length))else .ab)::(bif S.getD 5 false then .d (.int .i64 m)else .ab)::(bif S.getD 6 false then .dB [.d (.str T),.agg (bc.aK R (.sl 16 0 R.buffer.bd.length))]else .ab)::(bif S.getD 8 false then .d (.str T)else .ab)::(bif S.getD 9 false then .agg (bc.aK R (.sl 16 0 R.buffer.bd.length))else .ab)::(bif S.getD 11 false then .ptr 8 i 0 else .ab)::(bif S.getD 12 false then .ptr 8 i 17 else .ab)::aF 29 []),[bD,.box [.d (.int .i64 id)],.box [.d (.int .i64 m)],bI,.box [.d (.str ((bif S.getD 10 false then T else [])))],.box [.d (.bool false)],sV,yW,.fR 39 ((c.streams.map ae.enc).take i) (bif S.getD 13 false then [.d (.int .i64 aS.id),.d (.int .i64 aS.send.state),.d (.int .i64 aS.send.ring.size),.d (.int .i64 aS.send.ring.base),.d (.int .i64 aS.send.ring.cj),.sl 11 0 aS.send.ring.cells.length,.sl 12 0 aS.send.pending.length,.sl 13 0 aS.send.flight.length,.sl 14 0 aS.send.cb.length,.d (.int .i64 aS.send.bg),.d (.int .i64 aS.send.ba),.d (.int .i64 aS.send.sent),.d (.int .i64 aS.send.code),.d (.int .i64 aS.c2.a1),.d (.int .i64 aS.c2.used),.d (.int .i64 aS.c2.blocked),.d (.int .i64 aS.c2.i4),.d (.int .i64 R.state),.d (.int .i64 R.buffer.next),.sl 16 0 R.buffer.bd.length,.d (.int .i64 R.bg),.d (.int .i64 R.d2),.d (.int .i64 R.code),.d (.int .i64 aS.window.size),.d (.int .i64 aS.window.most),.d (.int .i64 aS.window.a1),.d (.int .i64 aS.window.seen),.d (.int .i64 aS.window.read),.d (.int .i64 aS.window.jU),.d (.int .i64 aS.priority.iK),.d (.bool aS.priority.g2),.d (.bool aS.eo),.d (.bool aS.eJ),.d (.bool aS.ho),.d (.bool aS.hH),.d (.bool aS.kb),.d (.bool aS.ky),.d (.int .i64 aS.lC),.d (.bool aS.counted)]else(ae.aK aS (.sl 11 0 aS.send.ring.cells.length) (.sl 12 0 aS.send.pending.length) (.sl 13 0 aS.send.flight.length) (.sl 14 0 aS.send.cb.length) (.sl 15 0 aS.recv.buffer.bd.length))) ((c.streams.map ae.enc).drop (i+1)),Fq,acJ,.ao 1 (aS.send.ring.cells.map a') true,.ao 2 (aS.send.pending.map aa.enc) true,.ao 2 (aS.send.flight.map aa.enc) true,.ao 2 (aS.send.cb.map aa.enc) true,.ao 2 (aS.recv.buffer.bd.map ax.enc) true]++(bif S.getD 6 false then [.ao 2 (R.buffer.bd.map ax.enc) true]else [])⟩
set_option maxHeartbeats 80000000 in
theorem aa6(c:J)(id m:Int)(hz:iH c)(bF:∀s∈c.streams,Ad s.send)(hw:eb (fW c id m)):PureCall Tryz.prog 6 [.agg (J.enc c),.one (.int .i64 id),.one (.int .i64 m)] [.one (.str (ny c id m)),.one (.bool (nz c id m)),.agg (J.enc ((er c id m)))]:=by
 refine aP 23 Tryz.func6 Tryz.call6 [.tmp 6,.tmp 7,.cell 8 37] ?_;intro ok;clear ok;have aO:e6 c=tD c:=N7 bF;have ak4:=Vl c (by have:=jq hz;omega);have TD:=TA c.streams id;have TE:=acC c hz;have br:i_ c id=(tD c&&decide (c.closed=0)&&((bN c.streams id).2&&(aw c id).eJ)):=by unfold i_ iS;rw[aO];simp only[Bool.and_assoc]
 have no:i_ c id=false→ny c id m=[]∧nz c id m=false∧er c id m=c:=fun h=>by unfold ny nz er;rw[h];simp
 simp only[go_sem];refine af.gV [8,9,10] (by simp only[gn,List.elem_cons,List.elem_nil,Nat.reduceBEq,Nat.reduceAdd,cond_true,cond_false];rfl) (Hx (n:=61) (rs:=[.cell 8 37,.tmp 9]) Tryz.func19 rfl Tryz.call19 rfl rfl ?_);simp only[go_sem]
 cases hC:(tD c&&decide (c.closed=0))with
 |false=>
  rw[hC]at TE br;obtain⟨ga,g3,jF⟩:=no br;refine jr Tryz.checked.mixed ?_
  try simp only[go_sem]
  repeat'(first|((first|refine af.ag (by assumption) ?_|refine ar.ag (by assumption) ?_|with_reducible refine ct ?_|with_reducible refine dC ?_|refine a9 D3 (by kernel_rfl) (by rfl) ?_)<;>simp only[go_sem,I])|(with_reducible refine aq ?_)|fail)
  try simp only[go_sem,I]
  repeat'(first|(refine a9 wM (by kernel_rfl) (by rfl) ?_<;>simp only[go_sem,I])|(with_reducible refine aq ?_)|fail)
  rw[ga,g3,jF]
  try simp[outOA,fk]
 |true=>
  rw[hC,Bool.true_and]at br;rw[hC]at TE;rcases Ac (ff id) c.streams with ⟨h1,h2⟩|⟨i,hi,h1,h2,ak⟩
  ·rw[h1]at TD;have hs:(bN c.streams id).2=false:=by unfold bN;rw[h2]
   rw[hs]at br;obtain⟨ga,g3,jF⟩:=no br;refine jr Tryz.checked.mixed ?_
   try simp only[go_sem]
   repeat'(first|((first|refine af.ag (by assumption) ?_|refine ar.ag (by assumption) ?_|with_reducible refine ct ?_|with_reducible refine dC ?_|refine a9 D3 (by kernel_rfl) (by rfl) ?_)<;>simp only[go_sem,I])|(with_reducible refine aq ?_)|fail)
   try simp only[go_sem,I]
   repeat'(first|(refine a9 wM (by kernel_rfl) (by rfl) ?_<;>simp only[go_sem,I])|(with_reducible refine aq ?_)|fail)
   rw[ga,g3,jF]
   try simp[outOA,fk]
  ·have hs:bN c.streams id=(c.streams[i],true):=by unfold bN;rw[h2]
   have aB:=b4 ae.enc c.streams i hi;have ai:decide ((i:Int)<0)=false:=bb (by omega);rw[h1]at TD;rw[show aw c id=c.streams[i]by unfold aw;rw[hs],hs,Bool.true_and]at br
   cases aL:c.streams[i].eJ with
   |false=>
    rw[aL]at br;obtain⟨ga,g3,jF⟩:=no br;refine jr Tryz.checked.mixed ?_
    try simp only[go_sem]
    repeat'(first|((first|refine af.ag (by assumption) ?_|refine ar.ag (by assumption) ?_|with_reducible refine ct ?_|with_reducible refine dC ?_|refine a9 D3 (by kernel_rfl) (by rfl) ?_)<;>simp only[go_sem,I,ai,aB,ae.enc,aL,aJ])|(with_reducible refine aq ?_)|fail)
    try simp only[go_sem,I]
    repeat'(first|(refine a9 wM (by kernel_rfl) (by rfl) ?_<;>simp only[go_sem,I])|(with_reducible refine aq ?_)|fail)
    rw[ga,g3,jF]
    try simp[outOA,fk]
   |true=>
    rw[aL]at br;obtain⟨S,aQ⟩:∃S,S=c.streams[i]:=⟨_,rfl⟩;rw[←aQ]at hs aB aL ak h2;have ya:aw c id=S:=by unfold aw;rw[hs]
    have d6:S.id=id:=by simpa [ff]using ak
    have hm:=(aQ▸List.getElem_mem hi:S∈c.streams);obtain⟨c9,dc,cB,de⟩:=hz.2.1 S hm;have cD:fm S=true∧fl c.bO=true:=by
     have:=Ho (ok:=fm) (c:=c) (id:=id) (show e6 c=true by rw[aO];exact(by simpa using hC:tD c=true∧c.closed=0).1) (by rw[hs])
     rwa [ya]at this
    have xY:PureCall Tryz.prog 21 [.agg (bc.enc S.recv),.one (.int .i64 m)] [.one (.str (jI S.recv m)),.agg (bc.enc ((g5 S.recv m)))]:=by
     apply acA<;>first|assumption|omega|(intro d9 hc;have:=cB d9 hc;omega)
    have ud:fX c id m=g5 S.recv m:=by unfold fX;rw[ya]
    obtain⟨R,Cd⟩:∃R,R=g5 S.recv m:=⟨_,rfl⟩;obtain⟨T,cw⟩:∃T,T=jI S.recv m:=⟨_,rfl⟩;rw[←Cd,←cw]at xY;rw[←Cd]at ud;have acK:fj R=true:=by rw[Cd];exact Hn m (DU cD.1).2.1
    have hb:=acH acK;have hlt:i=((c.streams.map ae.enc).take i).length:=by rw[List.length_take,I];omega
    generalize S=aS at *;clear aQ;have acL:fl aS.window=true:=(DU cD.1).1;have TF:od (mY c id m) R.buffer.next=dg 0 (IntKind.i64.wrap (R.buffer.next-aS.window.read)):=by unfold od mY fi;rw[ya]
    have TG:∀(w:da) (n:Int),PureCall Tryz.prog 67 [.agg (da.enc w),.one (.int .i64 n)] [.agg (da.enc ((iR w n))),.one (.bool (mZ w n))]:=fun w n=>by apply acy
    have dF:=TG aS.window (IntKind.i64.wrap (R.buffer.next-aS.window.read));have dO:=TG c.bO (IntKind.i64.wrap (R.buffer.next-aS.window.read));obtain⟨gd,D5⟩:∃gd,gd=fW c id m:=⟨_,rfl⟩;obtain⟨cF,bh,bI⟩:=DG c id m;rw[←D5]at cF bh bI;rw[ya]at cF bI;rw[ud]at bh;have acM:ff id gd=true:=by simp[ff,bI,d6]
    have jv:(c.streams.take i).length=i:=by rw[List.length_take];omega
    obtain⟨lO,e9⟩:∃lO,lO=c.streams.take i++gd::c.streams.drop (i+1):=⟨_,rfl⟩;have acN:=TA lO id;rw[e9,acE h1 hi acM,←e9]at acN;obtain⟨TH,acO,acP,acQ,wN⟩:=acF ae.enc c.streams i hi gd e9;simp only[ae.enc]at wN;have b3:∀D6:ae,D6.id=id→(dq c.streams D6).map ae.enc=(c.streams.map ae.enc).take i++D6.enc::(c.streams.map ae.enc).drop (i+1):=fun D6 acR=>by rw[acD (s:=D6) (i:=i) (by rw[acR];exact h1) hi,List.map_append,List.map_cons,List.map_take,List.map_drop]
    have Mx:lO.map ae.enc=(dq c.streams gd).map ae.enc:=by rw[b3 gd (bI.trans d6),acG e9]
    have My:List.take lO.length ((c.streams.map ae.enc).take i++ae.enc {gd with counted:=true}::(c.streams.map ae.enc).drop (i+1))=(dq c.streams {gd with counted:=true}).map ae.enc:=by rw[b3 {gd with counted:=true} (bI.trans d6),List.take_of_length_le (by rw[List.length_append,List.length_cons,List.length_take,List.length_drop,I];omega)]
    simp only[ae.enc]at My;have aR:(lO.length≤((c.streams.map ae.enc).take i).length+(((c.streams.map ae.enc).drop (i+1)).length+1))=True:=eq_true (by rw[List.length_take,List.length_drop,I];omega);have acS:Hy gd=vH gd:=by unfold Hy vH;rw[N8 (by rw[cF];exact bF aS hm)]
    have Hz:PureCall Tryz.prog 70 [.agg (ae.enc gd)] [.one (.bool (vH gd))]:=by
     obtain⟨e5,gr,lo,EN⟩:=hw;rw[←D5]at e5 gr lo EN;rw[←acS];apply acT<;>first|assumption|omega|(intro d9 hc;have:=lo d9 hc;omega)
    have TI:∀a:dm,PureCall Tryz.prog 71 [.agg [.int .i64 a.most,.int .i64 a.a1,.int .i64 a.seen,.int .i64 a.closed]] [.agg [.int .i64 ((iX a)).most,.int .i64 ((iX a)).a1,.int .i64 ((iX a)).seen,.int .i64 ((iX a)).closed],.one (.bool (ua a))]:=fun a=>by apply acz
    have ak5:=TI c.dA;have ak6:=TI c.dz;have ga:ny c id m=T:=by unfold ny;rw[br,if_pos rfl,ya,cw]
    have g3:nz c id m=(decide (R.state=3)||decide (R.state=5)):=by unfold nz;rw[br,ud];rfl
    have jF:er c id m=dt (fr c id m) gd:=by unfold er;rw[br,if_pos rfl,D5]
    refine jr Tryz.checked.mixed ?_
    try simp only[go_sem]
    repeat'(first|((first|refine af.ag (by assumption) ?_|refine ar.ag (by assumption) ?_|with_reducible refine ct ?_|with_reducible refine dC ?_|refine a9 D3 (by kernel_rfl) (by rfl) ?_)<;>simp only[go_sem,I,ai,aB,ae.enc,aL,aJ])|(with_reducible refine aq ?_)|fail)
    refine af.gV [4,8,10] (by simp only[gn,List.elem_cons,List.elem_nil,Nat.reduceBEq,Nat.reduceAdd,cond_true,cond_false];rfl) (Hx (n:=51) (rs:=[.tmp 8]) Tryz.func20 rfl Tryz.call20 rfl rfl ?_);simp only[go_sem];refine TJ 8 i ?_;simp only[go_sem,I,aB,ae.enc];refine Mz Tryz.checked.mixed 5 ?_;simp only[go_sem];refine j6 _ (lf (fun S σ=>σ=Mw c id m i aS R T _ _ _ _ _ _ S) (N:=14) rfl rfl rfl ?_) ?_
    ·repeat'(first|exact lg|refine lh ?_ ?_)
     all_goals(
      rintro S σ F hl aQ hp hcl rfl bV;obtain⟨iW,c9,dc,cB,de,j7,kN,kO,lj,tt,yv,EC,ED,EE,rfl⟩:=acI hl;simp only[List.getElem?_cons_succ,List.getElem?_cons_zero,Option.some.injEq]at aQ;subst aQ;simp[ju,Region.binds]at hp
      repeat(obtain⟨d1,hp⟩:=hp;subst d1)
      try subst hp
      simp only[Mw,List.getD_cons_succ,List.getD_cons_zero,cond_true,cond_false,bx,b1,List.append_nil]
      repeat'(first
        |exact bV _ rfl
        |(refine ct ?_)
        |(refine dC ?_)
        |(obtain rfl:=Option.some.inj (hcl 4 6 _ rfl (by decide) rfl);obtain rfl:=Option.some.inj (hcl 6 7 _ rfl (by decide) rfl);obtain rfl:=Option.some.inj (hcl 7 8 _ rfl (by decide) rfl);obtain rfl:=Option.some.inj (hcl 7 9 _ rfl (by decide) rfl);obtain rfl:=Option.some.inj (hcl 8 10 _ rfl (by decide) rfl);obtain rfl:=Option.some.inj (hcl 4 11 _ rfl (by decide) rfl);obtain rfl:=Option.some.inj (hcl 11 12 _ rfl (by decide) rfl);obtain rfl:=Option.some.inj (hcl 12 13 _ rfl (by decide) rfl);simp only[cond_false];refine aq ?_;simp only[go_sem];exact bV _ rfl)
        |(obtain rfl:=Option.some.inj (hcl 6 7 _ rfl (by decide) rfl);obtain rfl:=Option.some.inj (hcl 7 8 _ rfl (by decide) rfl);obtain rfl:=Option.some.inj (hcl 7 9 _ rfl (by decide) rfl);obtain rfl:=Option.some.inj (hcl 8 10 _ rfl (by decide) rfl);obtain rfl:=Option.some.inj (hcl 6 11 _ rfl (by decide) rfl);obtain rfl:=Option.some.inj (hcl 11 12 _ rfl (by decide) rfl);obtain rfl:=Option.some.inj (hcl 12 13 _ rfl (by decide) rfl);simp only[cond_false];refine af.intro (by assumption) ?_;simp only[go_sem,I,bx,b1];exact bV _ rfl)
        |(with_reducible refine aq ?_)
        |(refine⟨⟨hlt,by omega⟩,?_⟩)
        |simp only[go_sem,I,bx,b1]))
    rintro _ rfl;simp only[Mw,List.replicate,List.getD_cons_succ,List.getD_cons_zero,cond_true,bx,b1];simp only[go_sem];refine aq ?_;refine D4 (decide (R.state<4)) ?_ ?_
    focus (
     intro hB;have HA:gd=⟨aS.id,aS.send,aS.c2,R,iR aS.window (IntKind.i64.wrap (R.buffer.next-aS.window.read)),aS.priority,aS.eo,aS.eJ,aS.ho,aS.hH,aS.kb,aS.ky,aS.lC,aS.counted⟩:=by
      rw[D5];unfold fW;rw[show ti c id m=true by unfold ti;rw[ud];exact hB,if_pos rfl,ud];unfold nA;rw[TF,show(mY c id m).window=aS.window by unfold mY;rw[ya];rfl,TC acL];unfold mY fi;rw[ya,ud]
     have yb:fr c id m={c with bO:=iR c.bO (IntKind.i64.wrap (R.buffer.next-aS.window.read))}:=by
      unfold fr;rw[show ti c id m=true by unfold ti;rw[ud];exact hB,if_pos rfl,ud];unfold oc;rw[TF,TC cD.2]
     have Bz:ae.enc gd=ae.enc gd:=rfl
     conv at Bz=>lhs;rw[HA];simp only[ae.enc]
     try simp only[go_sem,I,b7,←hb,hB]
     repeat'(first|(refine a8 ?_<;>simp only[go_sem,b7,←hb,hB])|(with_reducible refine aq ?_)|fail)
     refine af.inl (el (n:=38) (rs:=[]) Tryz.func22 rfl Tryz.call22 Tryz.checked.mixed rfl rfl ?_);simp only[go_sem]
     try simp only[go_sem,I]
     repeat'(first|((first|refine af.intro (by assumption) ?_|refine ar.intro (by assumption) ?_|refine a8 ?_)<;>simp only[go_sem])|(with_reducible refine aq ?_)|fail)
     try simp only[go_sem,I]
     repeat'(first|(refine a8 ?_<;>simp only[go_sem,I])|(with_reducible refine aq ?_)|fail)
     refine zC 8 ?_;simp only[go_sem,I,Bz,wN,←TH];refine aq ?_)
    rotate_left
    focus (
     intro hB;have HA:gd=⟨aS.id,aS.send,aS.c2,R,aS.window,aS.priority,aS.eo,aS.eJ,aS.ho,aS.hH,aS.kb,aS.ky,aS.lC,aS.counted⟩:=by
      rw[D5];unfold fW;rw[show ti c id m=false by unfold ti;rw[ud];exact hB];simp only[Bool.false_eq_true,if_false];unfold mY fi;rw[ya,ud]
     have yb:fr c id m=c:=by
      unfold fr;rw[show ti c id m=false by unfold ti;rw[ud];exact hB];simp
     have Bz:ae.enc gd=ae.enc gd:=rfl
     conv at Bz=>lhs;rw[HA];simp only[ae.enc]
     try simp only[go_sem,I,b7,←hb,hB]
     repeat'(first|(refine a8 ?_<;>simp only[go_sem,b7,←hb,hB])|(with_reducible refine aq ?_)|fail)
     refine zC 8 ?_;simp only[go_sem,I,Bz,wN,←TH];refine aq ?_)
    all_goals(
     clear Bz HA;refine Mz Tryz.checked.mixed 1 ?_;simp only[go_sem];refine af.inl (Hx (n:=43) (rs:=[]) Tryz.func23 rfl Tryz.call23 rfl rfl ?_);refine Mz Tryz.checked.mixed 1 ?_;simp only[go_sem];refine af.inl (el (n:=16) (rs:=[.tmp 4]) Tryz.func68 rfl Tryz.call68 Tryz.checked.mixed rfl rfl ?_);simp only[go_sem]
     try simp only[go_sem,I,aJ]
     repeat'(first|((first|refine af.intro (by assumption) ?_|refine ar.intro (by assumption) ?_|refine a8 ?_|refine a9 TB (by kernel_rfl) (by rfl) ?_)<;>simp only[go_sem,I,aJ])|(with_reducible refine aq ?_)|fail)
     refine TJ 8 i ?_;simp only[go_sem,I,acO,acP,acQ,ae.enc];refine jr Tryz.checked.mixed ?_;refine D4 (lq c.df id) (fun cn=>?_) (fun cn=>?_)
     ·skip
      have yc:ln (fr c id m) gd=false:=by unfold ln;rw[yb,show gd.id=id from bI.trans d6];simp[cn]
      try simp only[go_sem]
      repeat'(first|((first|refine af.intro (by first|assumption|apply Hc) ?_|refine ar.intro (by assumption) ?_|with_reducible refine ct ?_|with_reducible refine dC ?_)<;>simp only[go_sem,cn])|(with_reducible refine aq ?_)|fail)
      refine zC 8 ?_;simp only[go_sem,I,wN];refine aq ?_;refine jr Tryz.checked.mixed ?_
      try simp only[go_sem]
      repeat'(first|(refine a8 ?_<;>simp only[go_sem,I])|(with_reducible refine aq ?_)|fail)
      try simp only[go_sem,I]
      repeat'(first|((first|with_reducible refine ct ?_|with_reducible refine dC ?_)<;>simp only[go_sem,I])|(with_reducible refine aq ?_)|fail)
      try simp only[go_sem,I]
      repeat'(first|(refine a9 wM (by kernel_rfl) (by rfl) ?_<;>simp only[go_sem,I])|(with_reducible refine aq ?_)|fail)
      rw[ga,g3,jF,B0 yc,yb];simp only[Mx,cP]
     refine D4 gd.counted (fun a0=>?_) (fun a0=>?_)
     ·skip
      have yc:ln (fr c id m) gd=false:=by unfold ln;simp[a0]
      simp only[a0]at wN
      try simp only[go_sem,a0]
      repeat'(first|((first|refine af.intro (by first|assumption|apply Hc) ?_|refine ar.intro (by assumption) ?_|with_reducible refine ct ?_|with_reducible refine dC ?_)<;>simp only[go_sem,cn])|(with_reducible refine aq ?_)|fail)
      refine zC 8 ?_;simp only[go_sem,I,wN];refine aq ?_;refine jr Tryz.checked.mixed ?_
      try simp only[go_sem]
      repeat'(first|(refine a8 ?_<;>simp only[go_sem,I])|(with_reducible refine aq ?_)|fail)
      try simp only[go_sem,I]
      repeat'(first|((first|with_reducible refine ct ?_|with_reducible refine dC ?_)<;>simp only[go_sem,I])|(with_reducible refine aq ?_)|fail)
      try simp only[go_sem,I]
      repeat'(first|(refine a9 wM (by kernel_rfl) (by rfl) ?_<;>simp only[go_sem,I])|(with_reducible refine aq ?_)|fail)
      rw[ga,g3,jF,B0 yc,yb];simp only[Mx,cP]
     refine D4 (vH gd) (fun hV=>?_) (fun hV=>?_)
     ·skip
      have yc:ln (fr c id m) gd=true:=by unfold ln;rw[yb,show gd.id=id from bI.trans d6];simp[cn,a0,hV]
      rw[hV]at Hz;simp only[ae.enc,a0]at Hz wN
      try simp only[go_sem,a0]
      repeat'(first|((first|refine af.intro (by first|assumption|apply Hc) ?_|refine ar.intro (by assumption) ?_|with_reducible refine ct ?_|with_reducible refine dC ?_)<;>simp only[go_sem,I,cn])|(with_reducible refine aq ?_)|fail)
      refine af.inl (el (n:=13) (rs:=[.tmp 4]) Tryz.func72 rfl Tryz.call72 Tryz.checked.mixed rfl rfl ?_);simp only[go_sem];refine D4 (lp id) (fun ue=>?_) (fun ue=>?_)
      ·skip
       have MA:lp gd.id=true:=by rw[show gd.id=id from bI.trans d6];exact ue
       try simp only[go_sem,I,ue]
       repeat'((first|refine af.intro (by first|assumption|apply Hb) ?_|refine ar.intro (by assumption) ?_)<;>simp only[go_sem,ue])
       try simp only[go_sem,I]
       repeat'(first|((first|with_reducible refine ct ?_|with_reducible refine dC ?_)<;>simp only[go_sem,I])|(with_reducible refine aq ?_)|fail)
       refine af.inl (el (n:=13) (rs:=[.tmp 4]) Tryz.func72 rfl Tryz.call72 Tryz.checked.mixed rfl rfl ?_);simp only[go_sem]
       try simp only[go_sem,I,ue]
       repeat'((first|refine af.intro (by first|assumption|apply Hb) ?_|refine ar.intro (by assumption) ?_)<;>simp only[go_sem,ue])
       try simp only[go_sem,I]
       repeat'(first|((first|with_reducible refine ct ?_|with_reducible refine dC ?_)<;>simp only[go_sem,I])|(with_reducible refine aq ?_)|fail)
       refine zC 8 ?_;simp only[go_sem,I];refine aq ?_;refine jr Tryz.checked.mixed ?_
       try simp only[go_sem]
       repeat'(first|(refine a8 ?_<;>simp only[go_sem,I])|(with_reducible refine aq ?_)|fail)
       try simp only[go_sem,I]
       repeat'(first|((first|with_reducible refine ct ?_|with_reducible refine dC ?_)<;>simp only[go_sem,I])|(with_reducible refine aq ?_)|fail)
       try simp only[go_sem,I,aR,if_true]
       repeat'(first|(refine a9 wM (by kernel_rfl) (by rfl) ?_<;>simp only[go_sem,I,aR,if_true])|(with_reducible refine aq ?_)|fail)
       rw[ga,g3,jF,IG yc MA,yb];simp only[My,cP]
      ·skip
       have MA:lp gd.id=false:=by rw[show gd.id=id from bI.trans d6];exact ue
       try simp only[go_sem,I,ue]
       repeat'((first|refine af.intro (by first|assumption|apply Hb) ?_|refine ar.intro (by assumption) ?_)<;>simp only[go_sem,ue])
       try simp only[go_sem,I]
       repeat'(first|((first|with_reducible refine ct ?_|with_reducible refine dC ?_)<;>simp only[go_sem,I])|(with_reducible refine aq ?_)|fail)
       refine af.inl (el (n:=13) (rs:=[.tmp 4]) Tryz.func72 rfl Tryz.call72 Tryz.checked.mixed rfl rfl ?_);simp only[go_sem]
       try simp only[go_sem,I,ue]
       repeat'((first|refine af.intro (by first|assumption|apply Hb) ?_|refine ar.intro (by assumption) ?_)<;>simp only[go_sem,ue])
       try simp only[go_sem,I]
       repeat'(first|((first|with_reducible refine ct ?_|with_reducible refine dC ?_)<;>simp only[go_sem,I])|(with_reducible refine aq ?_)|fail)
       refine zC 8 ?_;simp only[go_sem,I];refine aq ?_;refine jr Tryz.checked.mixed ?_
       try simp only[go_sem]
       repeat'(first|(refine a8 ?_<;>simp only[go_sem,I])|(with_reducible refine aq ?_)|fail)
       try simp only[go_sem,I]
       repeat'(first|((first|with_reducible refine ct ?_|with_reducible refine dC ?_)<;>simp only[go_sem,I])|(with_reducible refine aq ?_)|fail)
       try simp only[go_sem,I,aR,if_true]
       repeat'(first|(refine a9 wM (by kernel_rfl) (by rfl) ?_<;>simp only[go_sem,I,aR,if_true])|(with_reducible refine aq ?_)|fail)
       rw[ga,g3,jF,IH yc MA,yb];simp only[My,cP]
     ·skip
      have yc:ln (fr c id m) gd=false:=by unfold ln;simp[hV]
      rw[hV]at Hz;simp only[ae.enc,a0]at Hz wN
      try simp only[go_sem,a0]
      repeat'(first|((first|refine af.intro (by first|assumption|apply Hc) ?_|refine ar.intro (by assumption) ?_|with_reducible refine ct ?_|with_reducible refine dC ?_)<;>simp only[go_sem,I,cn])|(with_reducible refine aq ?_)|fail)
      refine zC 8 ?_;simp only[go_sem,I,wN];refine aq ?_;refine jr Tryz.checked.mixed ?_
      try simp only[go_sem]
      repeat'(first|(refine a8 ?_<;>simp only[go_sem,I])|(with_reducible refine aq ?_)|fail)
      try simp only[go_sem,I]
      repeat'(first|((first|with_reducible refine ct ?_|with_reducible refine dC ?_)<;>simp only[go_sem,I])|(with_reducible refine aq ?_)|fail)
      try simp only[go_sem,I]
      repeat'(first|(refine a9 wM (by kernel_rfl) (by rfl) ?_<;>simp only[go_sem,I])|(with_reducible refine aq ?_)|fail)
      rw[ga,g3,jF,B0 yc,yb];simp only[Mx,cP])
set_option maxRecDepth 100000
def JG:List (List bt):=cE 11 [147734,147732,147739,147717,147663,174838,174352,176053,170707,157585,118098]
def Pf:List (List bt):=cE 10 [55805,55807,55800,55782,58765,58927,58360,56902,52488,39366]
def Pg:List (List bt):=cE 26 [2541865798922,2541865798924,2541865798917,2541865798899,2541865798845,2541865827478,2541865827964,2541865826263,2541865821889,2541865808767,2541865769280,2541865651182,2400842644569,2400843707451,2400839987364,2400830421426,2400801723612,2400715630170,2540509590897,2541284431875,2538572488452,2531598919650,2510678213244,2447916094026,2259436291848,1694577218886]
def Ph:List (List bt):=cE 17 [107619836,107619838,107619831,107619813,107619759,107619961,107619354,107617896,127522876,127535998,127490071,127371973,127017679,128343001,124360474,114794536,86093442]
attribute [go_sem] JG Pf Pg Ph
theorem W_(x:c5):PureCall Tryz.prog 153 [.agg [.int .i64 x.size,.int .i64 x.base,.int .i64 x.cj,.sl 1 (x.cells.map a')],.agg [.int .i64 x.size,.int .i64 x.base,.int .i64 x.cj,.sl 1 (x.cells.map a')]] [.one (.bool true)]:=by
 refine aP 52 Tryz.func153 Tryz.call153 [.tmp 4] ?_;intro ok;have hm:x.cells.length≤maxLen:=by have h:=(ok.1.2.2.2.1).1;rwa [I]at h
 clear ok;simp only[go_sem]
 repeat((first|refine a8 ?_|refine en ?_);simp only[go_sem,I])
 refine bq (fun h=>absurd h (by simp)) (fun _=>?_);simp only[go_sem];refine b9.intro (fun i:Nat=>⟨(.ab::.ab::.ptr 0 0 0::.ptr 1 0 0::.d (.bool false)::.d (.int .i64 i)::aF 46 []),[.box [.d (.int .i64 x.size),.d (.int .i64 x.base),.d (.int .i64 x.cj),.d (.sl 1 (x.cells.map a'))],.box [.d (.int .i64 x.size),.d (.int .i64 x.base),.d (.int .i64 x.cj),.d (.sl 1 (x.cells.map a'))]]⟩) (fun i=>x.cells.length-i) (fun i=>i≤x.cells.length) 0 [0,1] (by omega) ?_ ?_
 ·simp only[go_sem];simp
 ·intro i hi;simp only[go_sem,I];refine bq (fun h1=>?_) (fun _=>by simp only[go_sem]);simp only[decide_eq_true_eq]at h1;have hl:i<x.cells.length:=by omega
  have hx:=b4 a' x.cells i hl;have hw:=dE (i:=i) (m:=x.cells.length) hl hm;have hz:decide (x.cells[i]≠x.cells[i])=false:=by simp
  try simp only[go_sem]
  repeat'(first|(refine a9 JG (by kernel_rfl) (by rfl) ?_<;>simp only[go_sem,I,aJ,hx,a',hw,hz])|(with_reducible refine aq ?_)|fail)
  all_goals(refine bu.intro (i+1) [0,1] (by omega) (by omega) ?_;simp only[go_sem];try simp)
theorem Xa(x:ll):PureCall Tryz.prog 45 [.agg [.int .i64 x.next,.sl 2 (x.bd.map ax.enc)],.agg [.int .i64 x.next,.sl 2 (x.bd.map ax.enc)]] [.one (.bool true)]:=by
 refine aP 38 Tryz.func45 Tryz.call45 [.tmp 4] ?_;intro ok;have hm:x.bd.length≤maxLen:=by have h:=(ok.1.2.1).1;rwa [I]at h
 clear ok;simp only[go_sem]
 repeat((first|refine a8 ?_|refine en ?_);simp only[go_sem,I])
 refine bq (fun h=>absurd h (by simp)) (fun _=>?_);simp only[go_sem];refine b9.intro (fun i:Nat=>⟨(.ab::.ab::.ptr 0 0 0::.ptr 1 0 0::.d (.bool false)::.d (.int .i64 i)::aF 32 []),[.box [.d (.int .i64 x.next),.d (.sl 2 (x.bd.map ax.enc))],.box [.d (.int .i64 x.next),.d (.sl 2 (x.bd.map ax.enc))]]⟩) (fun i=>x.bd.length-i) (fun i=>i≤x.bd.length) 0 [0,1] (by omega) ?_ ?_
 ·simp only[go_sem];simp
 ·intro i hi;simp only[go_sem,I];refine bq (fun h1=>?_) (fun _=>by simp only[go_sem]);simp only[decide_eq_true_eq]at h1;have hl:i<x.bd.length:=by omega
  have hx:=b4 ax.enc x.bd i hl;have hw:=dE (i:=i) (m:=x.bd.length) hl hm;have hz:(decide (x.bd[i].offset=x.bd[i].offset)&&decide (x.bd[i].data=x.bd[i].data))=true:=by simp
  try simp only[go_sem]
  repeat'(first|(refine a9 JG (by kernel_rfl) (by rfl) ?_<;>simp only[go_sem,I,aJ,hx,ax.enc,hw,Bool.not_true])|(with_reducible refine aq ?_)|fail)
  all_goals(refine bu.intro (i+1) [0,1] (by omega) (by omega) ?_;simp only[go_sem];try simp)
set_option maxHeartbeats 4000000 in
theorem Pj(x:bc):PureCall Tryz.prog 13 [.agg (bc.enc x),.agg (bc.enc x)] [.one (.bool true)]:=by
 refine aP 38 Tryz.func13 Tryz.call13 [.tmp 4] ?_;intro ok;clear ok
 try simp only[go_sem]
 repeat'((first|refine af.intro (by apply Xa) ?_|with_reducible refine ct ?_)<;>simp only[go_sem])
 all_goals(refine ec ?_;simp)
set_option maxHeartbeats 4000000 in
theorem Xb(x:aM):PureCall Tryz.prog 118 [.agg (aM.enc x),.agg (aM.enc x)] [.one (.bool true)]:=by
 refine aP 66 Tryz.func118 Tryz.call118 [.tmp 4] ?_;intro ok;clear ok
 try simp only[go_sem]
 repeat'((first|refine af.intro (by first|apply W_|apply Vh) ?_|with_reducible refine ct ?_)<;>simp only[go_sem])
 all_goals(refine ec ?_;simp)
set_option maxHeartbeats 4000000 in
theorem Xc(x:ae):PureCall Tryz.prog 77 [.agg (ae.enc x),.agg (ae.enc x)] [.one (.bool true)]:=by
 refine aP 101 Tryz.func77 Tryz.call77 [.tmp 4] ?_;intro ok;clear ok
 try simp only[go_sem]
 repeat'((first|refine af.intro (by first|apply Xb|apply Pj) ?_|with_reducible refine ct ?_)<;>simp only[go_sem])
 all_goals(refine ec ?_;simp)
theorem Xd(xs:List ae):PureCall Tryz.prog 28 [.one (.sl 39 (xs.map ae.enc)),.one (.sl 39 (xs.map ae.enc))] [.one (.bool true)]:=by
 refine aP 27 Tryz.func28 Tryz.call28 [.tmp 4] ?_;intro ok;have hm:=fZ ok;clear ok;simp only[go_sem,I];refine bq (fun h=>absurd h (by simp)) (fun _=>?_);simp only[go_sem];refine b9.intro (fun i:Nat=>⟨(.d (.sl 39 (xs.map ae.enc))::.d (.sl 39 (xs.map ae.enc))::.ab::.ab::.d (.bool false)::.d (.int .i64 i)::aF 21 []),[]⟩) (fun i=>xs.length-i) (fun i=>i≤xs.length) 0 [] (by omega) ?_ ?_
 ·simp only[go_sem];simp
 ·intro i hi;simp only[go_sem,I];refine bq (fun h1=>?_) (fun _=>by simp only[go_sem]);simp only[decide_eq_true_eq]at h1;have hl:i<xs.length:=by omega
  have hx:=b4 ae.enc xs i hl;have hw:=dE (i:=i) (m:=xs.length) hl hm
  try simp only[go_sem]
  repeat'(first|((first|refine ar.intro (by apply Xc) ?_|refine a9 Pf (by kernel_rfl) (by rfl) ?_)<;>simp only[go_sem,I,aJ,hx,ae.enc,hw,Bool.not_true])|(with_reducible refine aq ?_)|fail)
  all_goals(refine bu.intro (i+1) [] (by omega) (by omega) ?_;simp only[go_sem];try simp)
set_option maxHeartbeats 2000000 in
theorem Xe(xs:List aI):PureCall Tryz.prog 29 [.one (.sl 2 (xs.map aI.enc)),.one (.sl 2 (xs.map aI.enc))] [.one (.bool true)]:=by
 refine aP 71 Tryz.func29 Tryz.call29 [.tmp 4] ?_;intro ok;have hm:=fZ ok;have xp:∀(i:Nat) (h:i<xs.length),xs[i].frames.length≤maxLen:=by
  intro i h;have h1:dOk (.sl 2 (xs.map aI.enc)):=ok.1;have h2:=IA h1.2 _ (List.mem_map.2 ⟨xs[i],List.getElem_mem h,rfl⟩);have ak:=Pk h2 (.sl 9 (xs[i].frames.map al.enc)) (by simp[aI.enc]);have:=ak.1;rwa [I]at this
 clear ok;simp only[go_sem,I];refine bq (fun h=>absurd h (by simp)) (fun _=>?_);simp only[go_sem];refine b9.intro (fun i:Nat=>⟨(.d (.sl 2 (xs.map aI.enc))::.d (.sl 2 (xs.map aI.enc))::.ab::.ab::.d (.bool false)::.d (.int .i64 i)::aF 65 []),[]⟩) (fun i=>xs.length-i) (fun i=>i≤xs.length) 0 [] (by omega) ?_ ?_
 ·simp only[go_sem];simp
 ·intro i hi;simp only[go_sem,I];refine bq (fun h1=>?_) (fun _=>by simp only[go_sem]);simp only[decide_eq_true_eq]at h1;have hl:i<xs.length:=by omega
  have hx:=b4 aI.enc xs i hl;have hw:=dE (i:=i) (m:=xs.length) hl hm;have Xf:=xp i hl;have nh:decide (xs[i].number≠xs[i].number)=false:=by simp
  have kX:decide ((xs[i].frames.length:Int)≠(xs[i].frames.length:Int))=false:=by simp
  try simp only[go_sem]
  repeat'(first|((first|with_reducible refine lk ?_|refine a9 Pg (by kernel_rfl) (by rfl) ?_)<;>simp only[go_sem,I,aJ,hx,aI.enc,nh,kX])|(with_reducible refine aq ?_)|fail)
  refine b9.intro (fun k:Nat=>⟨(.d (.sl 2 (xs.map aI.enc))::.d (.sl 2 (xs.map aI.enc))::.ab::.ab::.d (.bool false)::.d (.int .i64 i)::.d (.int .i64 k)::aF 64 []),[]⟩) (fun k=>xs[i].frames.length-k) (fun k=>k≤xs[i].frames.length) 0 [] (by omega) ?_ ?_
  ·simp only[go_sem];simp
  ·intro k hk;simp only[go_sem,I,aJ,hx,aI.enc];refine⟨⟨by omega,by omega⟩,?_⟩;refine bq (fun h2=>?_) (fun h2=>?_)
   ·simp only[decide_eq_true_eq]at h2;have Ft:k<xs[i].frames.length:=by omega
    have Pl:=b4 al.enc xs[i].frames k Ft;have vD:=dE (i:=k) (m:=xs[i].frames.length) Ft Xf
    try simp only[go_sem]
    repeat'(first|(refine a9 Ph (by kernel_rfl) (by rfl) ?_<;>simp only[go_sem,I,aJ,hx,aI.enc,Pl,al.enc,Bool.not_true,decide_true,Bool.and_self])|(with_reducible refine aq ?_)|fail)
    all_goals(refine bu.intro (k+1) [] (by omega) (by omega) ?_;simp only[go_sem,vD])
   ·simp only[go_sem];refine bu.intro (i+1) [] (by omega) (by omega) ?_;simp only[go_sem,hw]
set_option maxHeartbeats 8000000 in
theorem Xg(x:J):PureCall Tryz.prog 8 [.agg (J.enc x),.agg (J.enc x)] [.one (.bool true)]:=by
 refine aP 129 Tryz.func8 Tryz.call8 [.tmp 4] ?_;intro ok;clear ok
 try simp only[go_sem]
 repeat'((first|refine af.intro (by first|apply Xd|apply Xe) ?_|with_reducible refine ct ?_)<;>simp only[go_sem])
 all_goals(refine ec ?_;simp)
theorem Te{p:ae→Bool}{s:ae}(hp:p s=true):∀(l:List ae) (i:Nat),l.findIdx? p=some i→(l.set i s).find? p=some s
 |[],i,h=>by simp at h
 |x::l,i,h=>by
  rw[List.findIdx?_cons]at h
  cases hx:p x with
  |true=>
   rw[hx]at h;simp only[if_true,Option.some.injEq]at h;subst h;rw[List.set_cons_zero,List.find?_cons,hp]
  |false=>
   rw[hx]at h;simp only[Bool.false_eq_true,if_false,Option.map_eq_some_iff]at h;obtain⟨j,av,rfl⟩:=h;rw[List.set_cons_succ,List.find?_cons,hx];exact Te hp l j av
theorem S2(l:List ae)(s:ae):bN (dq l s) s.id=(s,true):=by
 have hp:ff s.id s=true:=by simp[ff]
 have hs:=LH (Sf l s)
 cases h:l.findIdx? (ff s.id)with
 |some i=>
  have e:dq l s=l.set i s:=by unfold dq;rw[h]
  unfold bN;rw[e,Te hp l i h]
 |none=>
  obtain⟨h1,h2⟩:=oh hs;rw[List.findIdx?_eq_none_iff]at h;rcases yE h2 with ak|ak
  ·have:=h _ ak;simp[ff,h1]at this
  ·exact Prod.ext ak hs
theorem Tf(v:Bool)(i:Int)(o p:du):room (gq v i o p).window=0:=by
 unfold gq room;split
 ·simp only[wF];split<;>rfl
 ·rfl
theorem Tg{v:Bool}{o p:du}{id:Int}:∀(k:Nat) (l:List ae),wI l→e3 room (ks v o p id k l)≤e3 room l∧wI (ks v o p id k l)
 |0,l,h=>⟨Int.le_refl _,h⟩
 |k+1,l,h=>by
  have h1:=S6 h (Tf v (lv id k) o p);have h2:=Tg (v:=v) (o:=o) (p:=p) (id:=id) k _ h1.2;exact⟨Int.le_trans h2.1 h1.1,h2.2⟩
theorem ab1(c:J)(id:Int)(a:dm):(uz c id a).bO=c.bO:=by unfold uz;split<;>rfl
theorem Th(c:J)(id:Int):(bw c id).bO=c.bO:=by
 unfold bw;split
 ·exact ab1 _ _ _
 ·rfl
theorem Hq{c:J}(h:cX c)(id:Int):cX (bw c id):=by
 have hi:=Th c id;unfold bw at hi⊢;split
 ·rename_i hg;rw[if_pos hg]at hi;obtain⟨h1,h2⟩:=Tg (v:=c.df) (o:=c.own) (p:=c.dr) (id:=id) (lx c id).toNat c.streams h.le;refine⟨?_,h2⟩;rw[hi];exact Int.le_trans h1 h.n_
 ·exact h
theorem ab2(c:J)(u:Bool):(sF c u).bO=c.bO:=by unfold sF;split<;>rfl
theorem ab3{c:J}(h:cX c)(u:Bool):cX (jO c u):=by
 have hw:=ab2 c u;unfold jO;split
 ·split
  ·obtain⟨h1,h2⟩:=S6 h.le (Tf c.df (vF (tz (nS c u)) c.df u) c.own c.dr);refine⟨?_,h2⟩
   show e3 room (dq _ _)≤room (sF c u).bO
   rw[hw];exact Int.le_trans h1 h.n_
  ·exact h.same (Sp c u).1 (by rw[hw]) (by rw[hw])
 ·exact h
def DT(s:ae):Prop:=fl s.window=true∧s.recv.d2≤s.window.seen
theorem Ti{v:Bool}{i:Int}{o p:du}(h:mX i o p=true):DT (gq v i o p)∧(gq v i o p).id=i:=by
 have az:=h;simp only[mX,gO,bz,Bool.and_eq_true,decide_eq_true_eq,and_assoc]at az;obtain⟨_,_,_,h1,h2,ak,aC,bL,eD,_⟩:=az;have hk:DV o.window o.lu=true:=by simp only[DV,bz,Bool.and_eq_true,decide_eq_true_eq];omega
 unfold gq;rw[if_pos h];refine⟨⟨?_,?_⟩,rfl⟩
 ·simp only[wF,if_pos hk,fl,bz,Bool.and_eq_true,decide_eq_true_eq,Int.zero_add];rw[bE (by omega) (by omega)];omega
 ·simp only[wF,if_pos hk,vK];omega
theorem Tj{v:Bool}{o p:du}{id:Int}(hn:mX id o p=true):∀(k:Nat) (l:List ae),0<k→(bN (ks v o p id k l) id).1=gq v id o p
 |0,_,h=>by omega
 |k+1,l,_=>by
  cases k with
  |zero=>
   have hq:bM id=true:=by simp only[mX,Bool.and_eq_true]at hn;exact hn.1.1
   have:=S2 l (gq v id o p);rw[(Ti hn).2]at this
   show(bN (dq l (gq v (lv id 0) o p)) id).1=_
   rw[Sg hq,this]
  |succ k=>exact Tj hn (k+1) _ (by omega)
theorem S0{c:J}{id:Int}(hc:e6 c=true)(hf:(bN c.streams id).2=true):DT (aw c id):=by
 have h:=DU (Ho (ok:=fm) hc hf).1;exact⟨h.1,h.2.2⟩
theorem Tk{m:Nat}{c:J}{id:Int}(hv:bZ m c)(h:fG c id=0):DT (aw (bw c id) id)∧fl (bw c id).bO=true:=by
 rw[Th];unfold fG at h;split at h
 ·omega
 rename_i h1;simp only[Bool.not_eq_true',Bool.not_eq_false,Bool.and_eq_true]at h1;have hk:=h1.1;simp only[e6,l2,sM,Bool.and_eq_true,and_assoc]at hk;refine⟨?_,hk.2.2.2.2.1⟩;split at h
 ·rename_i h2;have e:bw c id=c:=by
   unfold bw;rw[show decide (hE (ff id) c.streams<0)=false from bb (by omega)];simp
  rw[e];exact S0 h1.1 (Si h2)
 ·rename_i h2;split at h
  ·omega
  rename_i ak;split at h
  ·rename_i aC;have e:(bw c id).streams=ks c.df c.own c.dr id (lx c id).toNat c.streams:=by
    unfold bw;rw[h1.1,h1.2,show decide (hE (ff id) c.streams<0)=true from bk (by omega),aC,show lq c.df id=false by simpa using ak];rfl
   have hn:mX id c.own c.dr=true:=by simp only[mX,Bool.and_eq_true];exact⟨⟨h1.2,hk.1⟩,hk.2.1⟩
   obtain⟨lX,_⟩:=B2 aC (by have:=hv.je;omega);have:=Tj (v:=c.df) hn (lx c id).toNat c.streams (by omega);unfold aw;rw[e,this];exact(Ti hn).1
  ·omega
theorem Mi{c:J}{f:al}:(wm c f=0→gK (bw c f.stream) (aw (bw c f.stream) f.stream) (nw f)=0)∧(wx c f=0→gK (bw c f.stream) (aw (bw c f.stream) f.stream) f.bg=0):=by
 constructor
 ·intro h;unfold wm at h
  repeat' split at h
  all_goals first|assumption|omega
 ·intro h;unfold wx at h
  repeat' split at h
  all_goals first|assumption|omega
theorem ab4{m:Nat}{c:J}(hv:bZ m c)(h:cX c)(f:al):cX (zg c f):=by
 unfold zg;split
 ·rename_i he;have hx:=Hq h f.stream;have hf:=xU hv (LJ he);obtain⟨k1,k2⟩:=Tk hv (LJ he);have s6:=(jZ.refl hf hx k1.1 k2).g6 (nw f) (Mi.1 he);exact jZ.Me hx hf s6 _
 ·exact h
theorem ab5{x:J}{f:al}(h:t' x f=true):fj (aw x f.stream).recv=true∧bM f.bg=true:=by
 simp only[t',GQ,Bool.and_eq_true,decide_eq_true_eq]at h;unfold tb at h;split at h
 ·rename_i g;simp only[x8,Bw,Bool.and_eq_true]at g;exact⟨g.1.1.1,g.1.2⟩
 ·exact absurd h.1 (by simpa using h.2)
theorem ab6{x:J}{s:ae}(hs:DT s){e:Int}(he:gK x s e=0)(hq:bM e=true)(hr:fj s.recv=true):e≤(i9 s e).window.seen:=by
 have hw:=x6 hs.1;have hn:=L6 hr;have h2:=hs.2;simp only[bM,bz,Bool.and_eq_true,decide_eq_true_eq]at hq;have bF:lK s e=dg 0 (e-s.recv.d2):=by
  unfold lK fV;rw[hr,show bM e=true by simp only[bM,bz,Bool.and_eq_true,decide_eq_true_eq];exact hq,bE (n:=e-s.recv.d2) (by omega) (by omega)];rfl
 unfold gK at he;unfold i9;split
 ·rename_i h0;rw[bF]at h0;unfold dg at h0;split at h0<;>omega
 ·rename_i h0;rw[if_neg h0]at he;split at he
  ·rename_i hk;rw[Bool.and_eq_true]at hk;have:=(Md hk.1).1
   show e≤(kl s.window (lK s e)).seen
   rw[this,bF];unfold dg;split<;>omega
  ·omega
theorem ab7{m:Nat}{c:J}(hv:bZ m c)(h:cX c)(f:al):cX (zj c f):=by
 unfold zj;split
 ·rename_i he;have hx:=Hq h f.stream;have hf:=xU hv (LK he);obtain⟨k1,k2⟩:=Tk hv (LK he);have s6:=(jZ.refl hf hx k1.1 k2).g6 f.bg (Mi.2 he);have y8:jZ (bw c f.stream) (va (bw c f.stream) f) (aw (bw c f.stream) f.stream) (oe (bw c f.stream) f):=by
   unfold va oe
   cases hb:t' (bw c f.stream) f with
   |true=>
    obtain⟨dF,dO⟩:=ab5 hb;have:=ab6 k1 (Mi.2 he) dO dF;simp only[bM,bz,Bool.and_eq_true,decide_eq_true_eq]at dO;exact(s6.Gz hx (oh hf).2 f.bg this dO.1).recv _
   |false=>exact s6.recv _
  exact jZ.Me hx hf y8 (oe (bw c f.stream) f).recv
 ·exact h
theorem ab8(x:J)(f:al):(nj x f).window=(aw x f.stream).window:=by unfold nj;split<;>rfl
theorem ab9{m:Nat}{c:J}(hv:bZ m c)(h:cX c)(f:al):cX (zk c f):=by
 unfold zk;split
 ·rename_i he;have e:=ab8 (bw c f.stream) f;exact Mf (id:=f.stream) (Hq h f.stream) (xU hv (Sj he)) (Sm _ f) (by rw[e]) (by rw[e])
 ·exact h
theorem aca{m:Nat}{c:J}(hv:bZ m c)(h:cX c)(f:al):cX (uA c f):=by
 unfold uA
 repeat' split
 ·exact ab4 hv h f
 ·exact ab7 hv h f
 ·exact ab9 hv h f
 ·exact abW h (Hq h) fun he=>xU hv (Sk he)
theorem acb{m:Nat}{x y:J}(hv:bZ m x)(h:cX x)(hs:mE x y):cX y:=by
 cases hs with
 |same=>exact h
 |E9 u=>exact ab3 h u
 |write id d _=>exact abQ h id d
 |ba id=>exact abR h id
 |read id k=>exact abU h id k
 |reset id k=>exact abT h id k
 |Je id t=>exact abS h id t
 |Aj b=>exact abP h b
 |hf f _ _=>exact aca hv h f
 |Jf n=>exact ab0 h n
 |Jg n=>exact abZ h n
theorem acd(v:Bool)(o p:du):cX (vJ v o p):=by
 unfold vJ;split
 ·refine⟨?_,by simp[wI]⟩;simp only[e3,room,wF];split<;>simp
 ·exact⟨by simp[e3,room],by simp[wI]⟩
theorem ace{k:Nat}{c:J}(h:Drawn k c)(hk:k≤1000):cX c:=by
 induction h with
 |new v o p=>exact acd v o p
 |step hd hs dx=>exact acb (hd.z' (by omega)) (dx (by omega)) hs
theorem yt.aa3{y:J}(h:yt y):cX y:=by
 obtain⟨x,a,b,c,d,h,rfl⟩:=h;exact(ace h (by omega)).same rfl rfl rfl
theorem L5{c:J}{id:Int}(hg:i_ c id=true):e6 c=true∧(bN c.streams id).2=true∧DT (aw c id)∧fj (aw c id).recv=true∧fl c.bO=true:=by
 simp only[i_,iS,Bool.and_eq_true]at hg;obtain⟨⟨⟨hc,_⟩,hf⟩,_⟩:=hg;obtain⟨k1,k2⟩:=Ho (ok:=fm) hc hf;exact⟨hc,hf,S0 hc hf,(DU k1).2.1,k2⟩
theorem abH{c:J}{id:Int}(m:Int)(h:cX c)(hg:i_ c id=true):∃k:Int,0≤k∧k≤4611686018427387903∧(fW c id m).window.read=(aw c id).window.read+k∧(fr c id m).bO.read=c.bO.read+k:=by
 obtain⟨hc,hf,hw,hr,hi⟩:=L5 hg;obtain⟨dF,dO,dR,l0⟩:=x6 hw.1;unfold fW fr
 cases hb:ti c id m with
 |false=>exact⟨0,by omega,by omega,by simp[mY,fi],by simp⟩
 |true=>
  have hn:=L6 (Hn m hr);rw[Hm]at hn;have kP:=hw.2;have S1:=L7 c.streams _ (oh hf).2 h.le;have L4:=h.n_;have hk:0≤od (mY c id m) (fX c id m).buffer.next∧od (mY c id m) (fX c id m).buffer.next≤(aw c id).window.seen-(aw c id).window.read:=by
   have nV:(fX c id m).buffer.next≤(aw c id).window.seen:=Int.le_trans hn.2 kP;have lX:0≤(fX c id m).buffer.next:=hn.1;unfold od dg;rw[show(mY c id m).window=(aw c id).window from rfl,bE (n:=(fX c id m).buffer.next-(aw c id).window.read) (by omega) (by omega)];split<;>omega
  have aH:=Hp hw.1 hk.1 hk.2;unfold room at S1 L4;have ak1:(aw c id).window.seen-(aw c id).window.read≤e3 (fun w=>w.seen-w.read) c.streams:=S1;have aZ:=Hp hi hk.1 (by omega);exact⟨_,hk.1,by omega,aH,aZ⟩
theorem aa8{c:J}{id:Int}(m:Int)(h:cX c)(hg:i_ c id=true):bN (er c id m).streams id=(aw (er c id m) id,true)∧(aw (er c id m) id).recv=fX c id m∧0≤IntKind.i64.wrap ((aw (er c id m) id).window.read-(aw c id).window.read)∧
  (er c id m).bO.read=IntKind.i64.wrap (c.bO.read+IntKind.i64.wrap ((aw (er c id m) id).window.read-(aw c id).window.read)):=by
 obtain⟨hc,hf,hw,hr,hi⟩:=L5 hg;obtain⟨k,og,k1,k2,dw⟩:=abH m h hg;obtain⟨dy,d_,ej⟩:=Bk (fr c id m) (fW c id m);obtain⟨cF,bh,bI⟩:=DG c id m;have cw:(gG (fr c id m) (fW c id m)).id=id:=by rw[ej,bI];exact(oh hf).1
 have a0:er c id m=dt (fr c id m) (fW c id m):=by unfold er;rw[if_pos hg]
 have hs:bN (er c id m).streams id=(gG (fr c id m) (fW c id m),true):=by
  rw[a0];have:=S2 (fr c id m).streams (gG (fr c id m) (fW c id m));rwa [cw]at this
 have aO:aw (er c id m) id=gG (fr c id m) (fW c id m):=by unfold aw;rw[hs]
 have hin:(er c id m).bO=(fr c id m).bO:=by rw[a0];exact L8 _ _
 obtain⟨dF,dO,dR,l0⟩:=x6 hw.1;obtain⟨dv,dD,jz,nU⟩:=x6 hi;rw[aO,hin,dw,L9,k2,bE (n:=(aw c id).window.read+k-(aw c id).window.read) (by omega) (by omega),show(aw c id).window.read+k-(aw c id).window.read=k from by omega,bE (n:=c.bO.read+k) (by omega) (by omega)];exact⟨hs,by rw[d_];exact bh,og,rfl⟩
theorem aba{m:Nat}{c:J}{id k:Int}(hv:bZ m c)(hg:i_ c id=true):tD (er c id k)=true:=by
 refine abE (g:=wG) k ?_
 show tD c=true
 rw[←N7 fun s hs=>(hv.kH s hs).snd.R3];exact(L5 hg).1
set_option maxRecDepth 100000
theorem aa2(bs:List Int):PureCall Tryz.prog 4 [.one (.sl 1 (bs.map eU8))] [.one (.bool (decide (1048576<(bs.length:Int))))]:=by
 refine aP 6 Tryz.func4 Tryz.call4 [.tmp 2] ?_;intro ok
 try simp only[go_sem,I]
theorem SB(u5 DM b LU:Bool):(bif bif bif !u5 then true else !DM then true else !b then true else !LU)=!(DM&&b&&u5&&LU):=by cases u5<;>cases DM<;>cases b<;>cases LU<;>rfl
set_option maxHeartbeats 8000000 in
theorem laws_FnReading(bs:List Int):PureCall Tryz.prog 3 [.one (.sl 1 (bs.map eU8))] [.one (.bool true)]:=by
 refine aP 145 Tryz.func3 Tryz.call3 [.tmp 2] ?_;intro ok;simp only[go_sem];refine af.intro (aa2 bs) ?_;simp only[go_sem];refine bq (fun h=>?_) (fun h=>?_)
 ·simp only[go_sem]
 simp only[go_sem];refine af.CK (VZ bs) rfl ?_;rintro _ ⟨c,id,k,bR,rfl⟩;have hv:=bR.z';have hW:=bR.aa3;have hz:iH c:=hv.sz (by omega);have bF:∀s∈c.streams,Ad s.send:=fun s hs=>(hv.kH s hs).snd.R3;have aa4:=Ox hv id k;have SC:iH (er c id k):=aa4.sz (by omega);have aa5:=(Ll hv id k).sz (by omega);have LV:=aa6 c id k hz bF aa5;have SD:=RM c id k 14 hv (by omega);have SE:=Xg (er c id k);have aa7:=kR c id hz;have Bn:=tB c hz;have akV:=Oa c;have SF:=kR (er c id k) id SC;have SG:=Sr (er c id k) SC;have br:i_ c id=(e6 c&&decide (c.closed=0)&&(bN c.streams id).2&&(aw c id).eJ):=rfl;rw[show(bN c.streams id).1=aw c id from rfl]at aa7;obtain⟨c9,dc,cB,de⟩:=lY hz.2.1 id;rw[show(bN c.streams id).1=aw c id from rfl]at c9 dc cB de;have xY:PureCall Tryz.prog 12 [.agg (bc.enc ((aw c id).recv)),.one (.int .i64 k)] [.one (.str (jI (aw c id).recv k)),.agg (bc.enc ((g5 (aw c id).recv k)))]:=by
  apply RO<;>first|assumption|omega|(intro d9 hc;have:=cB d9 hc;omega)
 have K4:i_ c id=false→ny c id k=[]∧nz c id k=false:=fun h=>by unfold ny nz;rw[h];simp
 obtain⟨y,hy⟩:∃y,y=er c id k:=⟨_,rfl⟩
 cases hg:i_ c id with
 |false=>
  obtain⟨ga,g3⟩:=K4 hg;rw[ga,g3,←hy]at LV SD;rw[←hy]at SE;generalize aw c id=Df at *;generalize (bN c.streams id).2=u5 at *;generalize e6 c=DM at *;rw[hg]at br;simp only[go_sem,gP,I]
  try simp only[go_sem,I,ne_eq,not_true_eq_false,decide_false,bne_self_eq_false]
  repeat'((first|refine af.intro (by assumption) ?_|refine ar.intro (by assumption) ?_|with_reducible refine ct ?_|refine a8 ?_)<;>simp only[go_sem,I,ne_eq,not_true_eq_false,decide_false,bne_self_eq_false])
  simp only[decide_not,SB,←br,go_sem,Bool.not_false]
  try simp only[go_sem,I,decide_true]
  repeat'(first|(with_reducible refine ct ?_<;>simp only[go_sem]))
  try simp
 |true=>
  obtain⟨gH,gR,tP,AA⟩:=aa8 k hW hg;have aa9:=aba (k:=k) hv hg;have abb:ny c id k=jI (aw c id).recv k:=by unfold ny;rw[hg,if_pos rfl]
  have abc:fX c id k=g5 (aw c id).recv k:=rfl;have abd:nz c id k=(decide ((fX c id k).state=3)||decide ((fX c id k).state=5)):=by unfold nz;rw[hg,Bool.true_and]
  have abe:=Pj (fX c id k);rw[aa9]at SG;rw[gH]at SF;rw[abb,abd,←hy]at LV SD;rw[←hy]at SE SF SG gR tP AA;rw[←abc]at xY;have akW:PureCall Tryz.prog 13 [.agg (bc.enc ((fX c id k))),.agg (bc.enc ((aw y id).recv))] [.one (.bool true)]:=by rw[gR];exact abe
  generalize fX c id k=R at *;generalize jI (aw c id).recv k=T at *;generalize aw y id=hO at *;generalize aw c id=Df at *;generalize (bN c.streams id).2=u5 at *;generalize e6 c=DM at *;rw[hg]at br;simp only[go_sem,gP,I]
  try simp only[go_sem,I,ne_eq,not_true_eq_false,decide_false,bne_self_eq_false]
  repeat'((first|refine af.intro (by assumption) ?_|refine ar.intro (by assumption) ?_|with_reducible refine ct ?_|refine a8 ?_)<;>simp only[go_sem,I,ne_eq,not_true_eq_false,decide_false,bne_self_eq_false])
  simp only[decide_not,SB,←br,go_sem,Bool.not_true]
  try simp only[go_sem,I]
  repeat'((first|refine af.intro (by assumption) ?_|refine ar.intro (by assumption) ?_|with_reducible refine ct ?_|refine a8 ?_)<;>simp only[go_sem,I,decide_true])
  rw[bk tP,bk AA];simp only[cP,cond_true,beq_self_eq_true]
end Gv
