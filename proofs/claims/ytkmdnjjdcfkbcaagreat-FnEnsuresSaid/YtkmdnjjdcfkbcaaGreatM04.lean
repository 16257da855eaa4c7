/-
  Part of the proof: the machine, what functions compute, and the plain laws.
-/
import Derived.Test.YtkmdnjjdcfkbcaaGreatM03
set_option maxHeartbeats 80000000
set_option maxRecDepth 100000
namespace Gv
open Go Go.Proofs
set_option maxRecDepth 100000
def ur(x:J)(a b k:Nat):H:=.box (J.vc x (.sl a 0 x.streams.length) (.sl b 0 k))
theorem YX(x:J)(n:Int)(cj:List (aD×Value))(hq:cj.length≤1000)(pre:List H)(kv:List V)(hr:roks pre.length pre)(bu:bg (pre.length+1) kv)(K:V→List H→Prop)
  (hk:K (.dV []) (pre++[ur x (pre.length+1) (pre.length+2) (cj.filter fun q=>!kU n q.1).length,eN x,.ar 2 ((cj.filter fun q=>!kU n q.1).map kn) true])) :
  dx Tryz.prog 249 kv (pre++[ur x (pre.length+1) (pre.length+2) cj.length,eN x,.ar 2 (cj.map kn) true]) [.ptr pre.length 0 0,.i n] K:=by
 have Lg:∀l:List Nat,(List.range pre.length++pre.length::l).getD pre.length 0=pre.length:=fun l=>Qz _ _ _;refine dx.nh ?_;refine(fc (n:=40) (rs:=[]) Tryz.func249 rfl Tryz.call249 b1 rfl rfl ?_);simp only[go_sem,ur,eN,ez];refine b7.intro (α:=Nat×List (aD×Value)) (fun y=>⟨[.ptr pre.length 0 0,.i n,.ak,.ak,.sl (pre.length+3) 0 y.2.length,.i y.1]++List.replicate 34 .ak,pre++[ur x (pre.length+1) (pre.length+2) cj.length,eN x,.ar 2 (cj.map kn) true,.ar 2 (y.2.map kn) true]⟩)
  (fun y=>cj.length-y.1) (fun y=>y.1≤cj.length∧y.2=(cj.take y.1).filter fun q=>!kU n q.1) (0,[]) (List.range pre.length++pre.length::[pre.length+1,pre.length+2,pre.length+3]) ⟨by simp,by simp⟩ ?_ ?_
 ·have aM:(List.range pre.length++[pre.length,pre.length+1,pre.length+2,pre.length+3]).getD (pre.length+1) 0=pre.length+1:=by rw[nP];rfl
  have bc:(List.range pre.length++[pre.length,pre.length+1,pre.length+2,pre.length+3]).getD (pre.length+2) 0=pre.length+2:=by rw[nP];rfl
  have cq:(List.range pre.length++[pre.length,pre.length+1,pre.length+2,pre.length+3]).getD (pre.length+3) 0=pre.length+3:=by rw[nP];rfl
  refine Ed _ (by simp) (by simp) hr bu ?_ ?_ (by simp) ?_ ?_
  ·simp only[hsees,dU,eY,zl,zm,hsee,ur,eN,and_true];simp only[J.vc,vsees,vsee,ren,aM,bc,and_self,List.map_nil]
  ·simp only[ur,J.vc,eN,allOk,hok,bg,vok,eW,ft];simp
  ·simp only[List.replicate,bB,bx,vsees,vsee,ren,cq,Lg,and_self,ft,true_and];simp
  ·simp[bg,vok,List.replicate]
 ·rintro⟨i,out⟩ ⟨hi,av⟩;simp only at hi av;have ahq:out.length≤cj.length:=by rw[av];exact Nat.le_trans (List.length_filter_le _ _) (by simp;omega)
  simp only[List.replicate,bB,bx,ur,eN];by_cases h1:i<cj.length
  ·have ax:decide ((i:Int)<(cj.length:Int))=true:=bp (by omega);have aq:=b5 kn cj i h1;have hw:IntKind.i64.wrap ((i:Int)+1)=((i+1:Nat):Int):=by rw[bz]<;>omega
   have hf:(cj.take (i+1)).filter (fun q=>!kU n q.1)=out++(if !kU n cj[i].1 then [cj[i]]else []):=by
    rw[hj,b8 h1,List.filter_append,←av]
    cases h:kU n cj[i].1<;>simp[h]
   generalize cj[i]=q at *;simp only[go_sem,I,aC,dU,eY,Nat.add_zero,ax,aq,kn];refine⟨⟨by omega,by omega⟩,h1,?_⟩
   cases hb:decide (q.fst.number≠n)with
   |true=>
    have hg:(if !kU n q.1 then [q]else [])=[q]:=by
     have:kU n q.1=false:=by unfold kU;simpa using hb
     rw[this];rfl
    simp only[go_sem,I,aC,ez,dU,eY,aq,kn];have YY:(pre.length=pre.length+1)=False:=by simp
    simp only[YY,if_false,go_sem];refine⟨⟨by omega,by omega⟩,h1,⟨by omega,by simp⟩,?_⟩;have aM:(List.range pre.length++[pre.length,pre.length+1,pre.length+2,pre.length+5]).getD (pre.length+1) 0=pre.length+1:=by rw[nP];rfl
    have bc:(List.range pre.length++[pre.length,pre.length+1,pre.length+2,pre.length+5]).getD (pre.length+2) 0=pre.length+2:=by rw[nP];rfl
    have cq:(List.range pre.length++[pre.length,pre.length+1,pre.length+2,pre.length+5]).getD (pre.length+3) 0=pre.length+5:=by rw[nP];rfl
    try simp only[go_sem,ez]
    simp only[hw];refine bA.intro (i+1,out++[q]) (List.range pre.length++pre.length::[pre.length+1,pre.length+2,pre.length+5]) ⟨by simp only;omega,by simp only;rw[hf,hg];try simp⟩ (show cj.length-(i+1)<cj.length-i by omega) ?_;refine Ed _ (by simp) (by simp) hr bu ?_ ?_ (by simp) ?_ ?_
    ·simp only[hsees,dU,eY,zl,zm,hsee,and_true];simp only[vsees,vsee,ren,aM,bc,and_self,List.map_nil,List.map_append,List.map_cons,kn]
    ·simp only[allOk,hok,bg,vok,eW,ft];simp
    ·simp only[vsees,vsee,ren,cq,Lg,and_self,ft,eG,eW]
    ·simp[bg,vok]
   |false=>
    have hg:(if !kU n q.1 then [q]else [])=[]:=by
     have:kU n q.1=true:=by unfold kU;simpa using hb
     rw[this];rfl
    have aM:(List.range pre.length++[pre.length,pre.length+1,pre.length+2,pre.length+3]).getD (pre.length+1) 0=pre.length+1:=by rw[nP];rfl
    have bc:(List.range pre.length++[pre.length,pre.length+1,pre.length+2,pre.length+3]).getD (pre.length+2) 0=pre.length+2:=by rw[nP];rfl
    have cq:(List.range pre.length++[pre.length,pre.length+1,pre.length+2,pre.length+3]).getD (pre.length+3) 0=pre.length+3:=by rw[nP];rfl
    try simp only[go_sem]
    simp only[hw];refine bA.intro (i+1,out) (List.range pre.length++pre.length::[pre.length+1,pre.length+2,pre.length+3]) ⟨by simp only;omega,by simp only;rw[hf,hg];try simp⟩ (show cj.length-(i+1)<cj.length-i by omega) ?_;refine Ed _ (by simp) (by simp) hr bu ?_ ?_ (by simp) ?_ ?_
    ·simp only[hsees,dU,eY,zl,zm,hsee,and_true];simp only[vsees,vsee,ren,aM,bc,and_self]
    ·simp only[allOk,hok,bg,vok,eW,ft];simp
    ·simp only[vsees,vsee,ren,cq,Lg,and_self]
    ·simp[bg,vok]
  ·have ax:decide ((i:Int)<(cj.length:Int))=false:=bo (by omega);obtain rfl:i=cj.length:=by omega
   rw[d_]at av;simp only[go_sem,eY,fG,ax];have aM:(List.range pre.length++[pre.length,pre.length+1,pre.length+3]).getD (pre.length+1) 0=pre.length+1:=by rw[nP];rfl
   have bc:(List.range pre.length++[pre.length,pre.length+1,pre.length+3]).getD (pre.length+2) 0=pre.length+3:=by rw[nP];rfl
   rw[←av]at hk;refine⟨_,.dV [],_,Ed [pre.length+1,pre.length+3] (by simp) (by simp) hr bu ?_ ?_ (by simp) (by simp[vsees,vsee,ren,rens]) (by simp[bg,vok]),hk⟩
   ·simp only[hsees,dU,eY,zl,zm,hsee,and_true,ur,eN];simp only[J.vc,vsees,vsee,ren,aM,bc,and_self]
   ·simp only[J.vc,allOk,hok,bg,vok,eW,ft,ur,eN];simp
theorem QU(pre:List H)(a b c:H)(i:Nat):aL (pre++[a,b,c]) i=if i<pre.length then aL pre i else aL [a,b,c] (i-pre.length):=by
 split
 ·simp only[aL,ib,List.getElem?_append_left ‹_›]
 ·simp only[aL,ib,List.getElem?_append_right (by omega:pre.length≤i)]
theorem Py(x:J)(n:Int)(hq:x.packets.length≤1000)(pre:List H)(kv:List V)(hr:roks pre.length pre)(bu:bg (pre.length+1) kv)(K:V→List H→Prop)
  (hk:K (.dV []) (pre++eM (lZ x n) pre.length (.ar 2 ((lZ x n).packets.map aD.enc) true))) :
  dx Tryz.prog 249 kv (pre++eM x pre.length (.af 2 (x.packets.map aD.enc))) [.ptr pre.length 0 0,.i n] K:=by
 refine YP (V0:=.dV []) (ps:=x.packets) (fun p=>!kU n p) (pre.length+2)
  (hr:=fun cj=>pre++[ur x (pre.length+1) (pre.length+2) x.packets.length,eN x,.ar 2 (cj.map kn) true])
  (hr2:=fun cj=>pre++[ur x (pre.length+1) (pre.length+2) (lZ x n).packets.length,eN x,.ar 2 ((cj.filter fun q=>!kU n q.1).map kn) true])
  (hf:=pre++eM (lZ x n) pre.length (.ar 2 ((lZ x n).packets.map aD.enc) true)) ?_ ?_ ?_ ?_ ?_ hk
 ·simp only[eM,dU,zl,zm]
 ·intro cj;refine⟨by simp only[dU,zl,zm],by simp[eM],fun i hi=>?_⟩;simp only[eM,QU];split
  ·rfl
  ·obtain⟨j,rfl⟩:∃j,i=pre.length+j:=⟨i-pre.length,by omega⟩;rw[Nat.add_sub_cancel_left]
   match j,hi with
   |0,_=>rfl
   |1,_=>rfl
   |2,hi=>exact absurd rfl hi
   |j+3,_=>rfl
 ·intro cj Lh;refine⟨by simp only[dU,zl,zm],by simp[eM],fun i hi=>?_⟩;simp only[eM,QU];split
  ·rfl
  ·obtain⟨j,rfl⟩:∃j,i=pre.length+j:=⟨i-pre.length,by omega⟩;rw[Nat.add_sub_cancel_left]
   match j,hi with
   |0,_=>rfl
   |1,_=>rfl
   |2,hi=>exact absurd rfl hi
   |j+3,_=>rfl
 ·simp only[eM,dU,zl,zm];rfl
 ·intro cj Lh;have hl:cj.length=x.packets.length:=by rw[←Lh];simp
  have hf:(lZ x n).packets=(cj.filter fun q=>!kU n q.1).map (·.1):=by
   simp only[lZ,←Lh,List.filter_map];rfl
  have:=YX x n cj (by omega) pre kv hr bu (fun v hs'=>v=.dV []∧hs'=pre++[ur x (pre.length+1) (pre.length+2) (lZ x n).packets.length,eN x,.ar 2 ((cj.filter fun q=>!kU n q.1).map kn) true]) ⟨rfl,by rw[hf,I]⟩
  rwa [hl]at this
set_option maxRecDepth 100000
def V8:List (List bH):=cP 12 [511649,511647,511641,511744,511690,511515,511029,503010,448335,521599,478953,354294]
def V9:List (List bH):=cP 7 [2150,2148,2182,2164,2106,1944,1458]
attribute [go_sem] V8 V9
theorem dx.y0{P:Program}{f:FuncId}{kv:List V}{hs hs':List H}{vs vs':List V}{K:V→List H→Prop}{ρ:List Nat}(h1:kk kv ρ ⟨vs,hs⟩ ⟨vs',hs'⟩)(h:dx P f kv hs' vs' K):dx P f kv hs vs K:=
 fun B w0 kp us w bu aQ=>h B w0 kp us w bu (D2 bu h1 aQ)
theorem V_(f:ao):aJ 304 [.agg (ao.enc f)] [.agg [.int .i64 f.offset,.str f.data,.bool f.a2]]:=by
 refine aN 10 Tryz.func304 Tryz.call304 [.cell 2 162] ?_;intro ok
 try simp only[go_sem]
def fS(x:J):H:=.ar 2 (x.packets.map aD.enc) true
def eg(n:Int)(l:List ao):List H:=[.box J.bw,.box [.i n,.sl 2 0 l.length],.ar 9 (l.map ao.enc) true]
def hJ(k:Int):List V:=(jn 4 [.ptr 0 0 0,.ak,.ptr 3 0 0,.ptr 1 0 0,.ak,.i k])++List.replicate 32 .ak
theorem Xg(x:J)(f:ao)(hx:gG x)(hs:eO (hX (aS x f.stream) f))(hd:f.data.length≤1000)(n k:Int)(l:List ao)(K:V→List H→Prop)
  (hk:K (.dV []) (eg n l++eM (ox x f) 3 (fS x))):dx Tryz.prog 251 (hJ k) (eg n l++eM x 3 (fS x)) [.ptr 3 0 0,.agg (ao.bE f)] K:=by
 have cT:=mU x f.stream hx;have cH:=nO hx.2.1 f.stream;obtain⟨dy,dT,c2,d'⟩:=cH;have yD:=c2;have c2:∀fA∈(strOf x.streams f.stream).1.recv.buffer.bO,fA.data.length≤1048576:=fun fA hc=>by have:=c2 fA hc;omega
 have bm:ox x f=if(strOf x.streams f.stream).2&&lK f.kind then eE x (hX (aS x f.stream) f)else x:=rfl
 rw[show aS x f.stream=(strOf x.streams f.stream).1 from rfl]at bm hs;obtain⟨s,jt⟩:∃s,s=(strOf x.streams f.stream).1:=⟨_,rfl⟩;obtain⟨b,ik⟩:∃b,b=(strOf x.streams f.stream).2:=⟨_,rfl⟩;rw[←jt,←ik]at cT;rw[←jt]at bm hs dy dT c2 yD d';rw[←ik]at bm;clear jt ik;have i':=iE hx;have j2:x.streams.length≤1000:=by have:=hx.1;omega
 have kj:=hx.2.1;refine dx.nh ?_;refine(fc (n:=52) (rs:=[]) Tryz.func251 rfl Tryz.call251 b1 rfl rfl ?_);simp only[go_sem,eg,hJ,eM,eN,fL,fS,List.replicate,bB,bx]
 try simp only[go_sem,I]
 repeat'((first|refine ab.af (by assumption) ?_|refine au.af (by assumption) ?_|refine a7 ?_|refine ba V8 (by kernel_rfl) (by rfl) ?_)<;>simp only[go_sem,I])
 cases b with
 |false=>
  rw[Bool.false_and,if_neg (by simp)]at bm;rw[bm]at hk
  try simp only[go_sem,I]
  repeat'((first|refine ab.intro (by assumption) ?_|refine au.intro (by first|assumption|apply Ev) ?_|with_reducible refine e5 ?_)<;>simp only[go_sem])
  refine⟨[0,1,2,3,4,5],.dV [],_,?_,hk⟩;simp only[go_sem,eg,eM,eN,fL,fS,bB,bx];simp
 |true=>
  rw[Bool.true_and]at bm
  try simp only[go_sem,I]
  repeat'((first|refine ab.intro (by assumption) ?_|refine au.intro (by first|assumption|apply Ev) ?_|with_reducible refine du ?_)<;>simp only[go_sem])
  cases F9:lK f.kind with
  |false=>
   rw[F9,if_neg (by simp)]at bm;rw[bm]at hk
   try simp only[go_sem]
   refine⟨[0,1,2,3,4,5],.dV [],_,?_,hk⟩;simp only[go_sem,eg,eM,eN,fL,fS,bB,bx];simp
  |true=>
   rw[F9,if_pos rfl]at bm;rw[bm]at hk
   cases fY:decide (f.kind=8)with
   |true=>
    have aT:hX s f=gY s (z6 s.send (BE f)):=by unfold hX;rw[if_pos (cO fY)]
    try simp only[go_sem,fY]
    repeat'((first|refine ab.af (by assumption) ?_|refine au.af (by first|assumption|apply V_|(apply agr<;>exact aP)) ?_|refine ba V9 (by kernel_rfl) (by rfl) ?_)<;>simp only[go_sem,I])
    refine ab.ij [] (by simp only[keepT,List.elem_nil,Nat.reduceAdd,cond_false];rfl) (dx.y0 (ρ:=[0,1,2,3,4,5,12,13,14,15,16,11]) (hs':=eg n l++u3 x (hX s f) 3 (fS x)) (vs':=[.ptr 3 0 0,.agg (pU (hX s f) 3)]) ?_ (yG x (hX s f) (fS x) (fun _=>trivial) j2 kj hs (eg n l) _ (by simp[eg,roks,rok,bg,vok]) (by simp[eg,bg,vok]) _ ?_))
    ·simp only[go_sem,aT,eg,u3,eM,eN,fL,fS,pU,BR,bB,bx,gY,BE];simp
    ·simp only[go_sem];refine⟨[0,1,2,3,4,5],.dV [],_,?_,hk⟩;simp only[go_sem,eg,eM,eN,fL,fS,bB,bx];simp
   |false=>
    have w8:=c9 fY
    cases aE:decide (f.kind=4)with
    |true=>
     have aT:hX s f={s with send:=Db s.send,iJ:=if BF s.send then false else s.iJ}:=by unfold hX;rw[if_neg w8,if_pos (cO aE)]
     try simp only[go_sem,I,fY,aE]
     repeat'((first|refine ab.af (by first|assumption|(apply ags<;>exact aP)) ?_|refine au.af (by assumption) ?_)<;>simp only[go_sem,I])
     cases IX:BF s.send with
     |true=>
      rw[IX,if_pos rfl]at aT
      try simp only[go_sem,I]
      refine ab.ij [] (by simp only[keepT,List.elem_nil,Nat.reduceAdd,cond_false];rfl) (dx.y0 (ρ:=[0,1,2,3,4,5,12,13,14,15,16,11]) (hs':=eg n l++u3 x (hX s f) 3 (fS x)) (vs':=[.ptr 3 0 0,.agg (pU (hX s f) 3)]) ?_ (yG x (hX s f) (fS x) (fun _=>trivial) j2 kj hs (eg n l) _ (by simp[eg,roks,rok,bg,vok]) (by simp[eg,bg,vok]) _ ?_))
      ·simp only[go_sem,aT,eg,u3,eM,eN,fL,fS,pU,BR,bB,bx];simp
      ·simp only[go_sem];refine⟨[0,1,2,3,4,5],.dV [],_,?_,hk⟩;simp only[go_sem,eg,eM,eN,fL,fS,bB,bx];simp
     |false=>
      rw[IX,if_neg (by simp)]at aT
      try simp only[go_sem,I]
      refine ab.ij [] (by simp only[keepT,List.elem_nil,Nat.reduceAdd,cond_false];rfl) (dx.y0 (ρ:=[0,1,2,3,4,5,12,13,14,15,16,11]) (hs':=eg n l++u3 x (hX s f) 3 (fS x)) (vs':=[.ptr 3 0 0,.agg (pU (hX s f) 3)]) ?_ (yG x (hX s f) (fS x) (fun _=>trivial) j2 kj hs (eg n l) _ (by simp[eg,roks,rok,bg,vok]) (by simp[eg,bg,vok]) _ ?_))
      ·simp only[go_sem,aT,eg,u3,eM,eN,fL,fS,pU,BR,bB,bx];simp
      ·simp only[go_sem];refine⟨[0,1,2,3,4,5],.dV [],_,?_,hk⟩;simp only[go_sem,eg,eM,eN,fL,fS,bB,bx];simp
    |false=>
     have pH:=c9 aE
     cases b3:decide (f.kind=5)with
     |true=>
      have aT:hX s f={s with iM:=false}:=by unfold hX;rw[if_neg w8,if_neg pH,if_pos (cO b3)]
      try simp only[go_sem,I,fY,aE,b3]
      refine ab.ij [] (by simp only[keepT,List.elem_nil,Nat.reduceAdd,cond_false];rfl) (dx.y0 (ρ:=[0,1,2,3,4,5,12,7,8,9,10,11]) (hs':=eg n l++u3 x (hX s f) 3 (fS x)) (vs':=[.ptr 3 0 0,.agg (pU (hX s f) 3)]) ?_ (yG x (hX s f) (fS x) (fun _=>trivial) j2 kj hs (eg n l) _ (by simp[eg,roks,rok,bg,vok]) (by simp[eg,bg,vok]) _ ?_))
      ·simp only[go_sem,aT,eg,u3,eM,eN,fL,fS,pU,BR,bB,bx];simp
      ·simp only[go_sem];refine⟨[0,1,2,3,4,5],.dV [],_,?_,hk⟩;simp only[go_sem,eg,eM,eN,fL,fS,bB,bx];simp
     |false=>
      have aT:hX s f=s:=by unfold hX;rw[if_neg w8,if_neg pH,if_neg (c9 b3)]
      try simp only[go_sem,I,fY,aE,b3]
      refine ab.ij [] (by simp only[keepT,List.elem_nil,Nat.reduceAdd,cond_false];rfl) (dx.y0 (ρ:=[0,1,2,3,4,5,12,7,8,9,10,11]) (hs':=eg n l++u3 x (hX s f) 3 (fS x)) (vs':=[.ptr 3 0 0,.agg (pU (hX s f) 3)]) ?_ (yG x (hX s f) (fS x) (fun _=>trivial) j2 kj hs (eg n l) _ (by simp[eg,roks,rok,bg,vok]) (by simp[eg,bg,vok]) _ ?_))
      ·simp only[go_sem,aT,eg,u3,eM,eN,fL,fS,pU,BR,bB,bx];simp
      ·simp only[go_sem];refine⟨[0,1,2,3,4,5],.dV [],_,?_,hk⟩;simp only[go_sem,eg,eM,eN,fL,fS,bB,bx];simp
set_option maxRecDepth 100000
def V':List (List bH):=cP 12 [511649,511647,511641,511744,511690,511515,511029,503010,448335,521599,478953,354294]
def Wa:List (List bH):=cP 7 [2150,2148,2182,2164,2106,1944,1458]
def Dv:List (List bH):=cP 10 [57956,58804,58798,58780,58726,58927,58321,56862,52488,39366]
attribute [go_sem] V' Wa Dv
theorem Xi(x:J)(f:ao)(hx:gG x)(hs:eO (m8 (aS x f.stream) f))(hd:f.data.length≤1000)(n k:Int)(l:List ao)(K:V→List H→Prop)
  (hk:K (.dV []) (eg n l++eM (oz x f) 3 (fS x))):dx Tryz.prog 250 (hJ k) (eg n l++eM x 3 (fS x)) [.ptr 3 0 0,.agg (ao.bE f)] K:=by
 have cT:=mU x f.stream hx;have cH:=nO hx.2.1 f.stream;obtain⟨dy,dT,c2,d'⟩:=cH;have yD:=c2;have c2:∀fA∈(strOf x.streams f.stream).1.recv.buffer.bO,fA.data.length≤1048576:=fun fA hc=>by have:=c2 fA hc;omega
 have bm:oz x f=if f.kind=16 then {x with vr:=true}else if f.kind=18 then(if f.ey then {x with mX:=true}else {x with mW:=true})else if(strOf x.streams f.stream).2&&lK f.kind then lH x (m8 (aS x f.stream) f)else x:=rfl
 rw[show aS x f.stream=(strOf x.streams f.stream).1 from rfl]at bm hs;obtain⟨s,jt⟩:∃s,s=(strOf x.streams f.stream).1:=⟨_,rfl⟩;obtain⟨b,ik⟩:∃b,b=(strOf x.streams f.stream).2:=⟨_,rfl⟩;rw[←jt,←ik]at cT;rw[←jt]at bm hs dy dT c2 yD d';rw[←ik]at bm;clear jt ik;have i':=iE hx;have j2:x.streams.length≤1000:=by have:=hx.1;omega
 have kj:=hx.2.1;refine dx.nh ?_;refine(fc (n:=75) (rs:=[]) Tryz.func250 rfl Tryz.call250 b1 rfl rfl ?_);simp only[go_sem,eg,hJ,eM,eN,fL,fS,List.replicate,bB,bx]
 cases j5:decide (f.kind=16)with
 |true=>
  rw[if_pos (cO j5)]at bm;rw[bm]at hk
  try simp only[go_sem]
  refine⟨[0,1,2,3,4,5],.dV [],_,?_,hk⟩;simp only[go_sem,eg,eM,eN,fL,fS,bB,bx];simp
 |false=>
  rw[if_neg (c9 j5)]at bm
  cases h5:decide (f.kind=18)with
  |true=>
   rw[if_pos (cO h5)]at bm
   cases hu:f.ey with
   |true=>
    rw[hu,if_pos rfl]at bm;rw[bm]at hk
    try simp only[go_sem,h5]
    refine⟨[0,1,2,3,4,5],.dV [],_,?_,hk⟩;simp only[go_sem,eg,eM,eN,fL,fS,bB,bx];simp
   |false=>
    rw[hu,if_neg (by simp)]at bm;rw[bm]at hk
    try simp only[go_sem,h5]
    refine⟨[0,1,2,3,4,5],.dV [],_,?_,hk⟩;simp only[go_sem,eg,eM,eN,fL,fS,bB,bx];simp
  |false=>
   rw[if_neg (c9 h5)]at bm
   try simp only[go_sem,h5]
   repeat'((first|refine ab.af (by assumption) ?_|refine au.af (by assumption) ?_|refine a7 ?_|refine ba V' (by kernel_rfl) (by rfl) ?_|fail)<;>simp only[go_sem,I])
   cases b with
   |false=>
    rw[Bool.false_and,if_neg (by simp)]at bm;rw[bm]at hk
    try simp only[go_sem,I]
    repeat'((first|refine ab.intro (by assumption) ?_|refine au.intro (by first|assumption|apply Ev) ?_|with_reducible refine e5 ?_)<;>simp only[go_sem])
    refine⟨[0,1,2,3,4,5],.dV [],_,?_,hk⟩;simp only[go_sem,eg,eM,eN,fL,fS,bB,bx];simp
   |true=>
    rw[Bool.true_and]at bm
    try simp only[go_sem,I]
    repeat'((first|refine ab.intro (by assumption) ?_|refine au.intro (by first|assumption|apply Ev) ?_|with_reducible refine du ?_)<;>simp only[go_sem])
    cases F9:lK f.kind with
    |false=>
     rw[F9,if_neg (by simp)]at bm;rw[bm]at hk
     try simp only[go_sem]
     refine⟨[0,1,2,3,4,5],.dV [],_,?_,hk⟩;simp only[go_sem,eg,eM,eN,fL,fS,bB,bx];simp
    |true=>
     rw[F9,if_pos rfl]at bm;rw[bm]at hk
     cases fY:decide (f.kind=8)with
     |true=>
      have aT:m8 s f=gY s (yO s.send (BE f)):=by unfold m8;rw[if_pos (cO fY)]
      try simp only[go_sem,fY]
      repeat'((first|refine ab.af (by assumption) ?_|refine au.af (by first|assumption|apply V_|(apply agt<;>exact aP)) ?_|refine ba Wa (by kernel_rfl) (by rfl) ?_|fail)<;>simp only[go_sem,I])
      have hK:=l3 x.streams (gY s (yO s.send (BE f))) j2 kj (aT▸hs)
      try simp only[go_sem,I]
      repeat'((first|refine ab.af (by assumption) ?_|refine au.af (by assumption) ?_|refine ba Dv (by kernel_rfl) (by rfl) ?_|fail)<;>simp only[go_sem,I])
      refine⟨[0,1,2,3,17,5],.dV [],_,?_,hk⟩;simp only[go_sem,aT,eg,eM,eN,fL,fS,lH,bB,bx,gY,BE];simp
     |false=>
      have w8:=c9 fY
      cases aE:decide (f.kind=4)with
      |true=>
       have aT:m8 s f={s with iJ:=decide (s.send.state=4)}:=by unfold m8;rw[if_neg w8,if_pos (cO aE)]
       try simp only[go_sem,fY,aE]
       have hK:=l3 x.streams ({s with iJ:=decide (s.send.state=4)}) j2 kj (aT▸hs)
       try simp only[go_sem,I]
       repeat'((first|refine ab.af (by assumption) ?_|refine au.af (by assumption) ?_|refine ba Dv (by kernel_rfl) (by rfl) ?_|fail)<;>simp only[go_sem,I])
       refine⟨[0,1,2,3,13,5],.dV [],_,?_,hk⟩;simp only[go_sem,aT,eg,eM,eN,fL,fS,lH,bB,bx];simp
      |false=>
       have pH:=c9 aE
       cases b3:decide (f.kind=5)with
       |true=>
        have aT:m8 s f={s with iM:=decide (s.recv.state<2)}:=by unfold m8;rw[if_neg w8,if_neg pH,if_pos (cO b3)]
        try simp only[go_sem,fY,aE,b3]
        have hK:=l3 x.streams ({s with iM:=decide (s.recv.state<2)}) j2 kj (aT▸hs)
        try simp only[go_sem,I]
        repeat'((first|refine ab.af (by assumption) ?_|refine au.af (by assumption) ?_|refine ba Dv (by kernel_rfl) (by rfl) ?_|fail)<;>simp only[go_sem,I])
        refine⟨[0,1,2,3,13,5],.dV [],_,?_,hk⟩;simp only[go_sem,aT,eg,eM,eN,fL,fS,lH,bB,bx];simp
       |false=>
        have IK:=c9 b3
        cases nE:decide (f.kind=17)with
        |true=>
         have aT:m8 s f={s with mx:=true}:=by unfold m8;rw[if_neg w8,if_neg pH,if_neg IK,if_pos (cO nE)]
         try simp only[go_sem,fY,aE,b3,nE]
         have hK:=l3 x.streams ({s with mx:=true}) j2 kj (aT▸hs)
         try simp only[go_sem,I]
         repeat'((first|refine ab.af (by assumption) ?_|refine au.af (by assumption) ?_|refine ba Dv (by kernel_rfl) (by rfl) ?_|fail)<;>simp only[go_sem,I])
         refine⟨[0,1,2,3,13,5],.dV [],_,?_,hk⟩;simp only[go_sem,aT,eg,eM,eN,fL,fS,lH,bB,bx];simp
        |false=>
         have aT:m8 s f=s:=by unfold m8;rw[if_neg w8,if_neg pH,if_neg IK,if_neg (c9 nE)]
         try simp only[go_sem,fY,aE,b3,nE]
         have hK:=l3 x.streams (s) j2 kj (aT▸hs)
         try simp only[go_sem,I]
         repeat'((first|refine ab.af (by assumption) ?_|refine au.af (by assumption) ?_|refine ba Dv (by kernel_rfl) (by rfl) ?_|fail)<;>simp only[go_sem,I])
         refine⟨[0,1,2,3,13,5],.dV [],_,?_,hk⟩;simp only[go_sem,aT,eg,eM,eN,fL,fS,lH,bB,bx];simp
set_option maxRecDepth 100000
theorem Pw(c:J)(n:Int)(hz:gG c):aJ 248 [.agg (J.enc c),.one (.int .i64 n)] [.agg [.int .i64 ((pkOf c.packets n).1).number,.sl 9 (((pkOf c.packets n).1).frames.map ao.enc)],.one (.bool (pkOf c.packets n).2)]:=by
 refine aN 33 Tryz.func248 Tryz.call248 [.cell 4 94,.tmp 5] ?_;intro ok;have hm:c.packets.length≤30:=hz.2.2.1;have JU:=hz.2.2.2;clear ok;simp only[go_sem];refine b7.intro (fun i:Nat=>⟨(.ak::.i n::.ptr 0 0 0::.ak::.ptr 1 0 0::.d (.bool false)::.i i::jn 26 []),[.box (J.bE c),.box [.i 0,.dw 9]]⟩)
   (fun i=>c.packets.length-i) (fun i=>i≤c.packets.length∧(c.packets.take i).any (kU n)=false) 0 [0,1] ⟨by omega,by simp⟩ ?_ ?_
 ·simp only[go_sem];simp
 ·rintro i ⟨hi,he⟩;by_cases h1:i<c.packets.length
  ·have ax:decide ((i:Int)<(c.packets.length:Int))=true:=bp (by omega);have aq:=b5 aD.enc c.packets i h1;have hw:IntKind.i64.wrap ((i:Int)+1)=((i+1:Nat):Int):=by rw[bz]<;>omega
   have hY:c.packets[i].frames.length≤500:=(JU _ (eR h1)).1;simp only[aD.enc]at aq
   cases hq:decide (c.packets[i].number=n)with
   |true=>
    have hf:=GA (kU n) c.packets i h1 he hq;have pd:=cO hq
    try simp only[go_sem,I,aC,aq,ax,hq]
    repeat'(first|(with_reducible refine aw ?_)|fail)
    all_goals simp[pkOf,hf,pd]
   |false=>
    try simp only[go_sem,I,aC,aq,ax,hq]
    repeat'(first|(with_reducible refine aw ?_)|fail)
    refine bA.intro (i+1) [0,1] ⟨by omega,As _ c.packets i h1 he hq⟩ (by omega) ?_;simp only[go_sem,hw];simp
  ·have ax:decide ((i:Int)<(c.packets.length:Int))=false:=bo (by omega);obtain rfl:i=c.packets.length:=by omega
   rw[d_]at he;have hf:=JV _ _ he
   try simp only[go_sem,I,ax]
   simp[pkOf,hf]
theorem Px(c:J)(n:Int):(bif !kb c then true else !(pkOf c.packets n).2)=!nf c n:=by
 unfold nf
 cases kb c<;>cases(pkOf c.packets n).2<;>rfl
theorem Xe(c:J)(n:Int)(m:Nat)(hv:cl m c)(hm:m≤20):aJ 183 [.agg (J.enc c),.one (.int .i64 n)] [.agg (J.enc ((At c n))),.one (.bool (nf c n))]:=by
 refine ub 42 Tryz.func183 Tryz.call183 [.cell 4 37,.tmp 5] ?_;intro ok;clear ok;have hz:=hv.sz hm;have i':=iE hz;have bM:=Px c n;have bm:At c n=if nf c n then(pkOf c.packets n).1.frames.foldl ox (lZ c n)else c:=rfl
 have hK:=Pw c n hz;have JW:nf c n=true→(pkOf c.packets n).1∈c.packets:=by
  intro h;simp only[nf,bP]at h;have h2:=h.2;unfold pkOf at h2⊢;split
  ·rename_i p hp;exact List.mem_of_find?_eq_some hp
  ·rename_i hp;rw[hp]at h2;cases h2
 generalize (pkOf c.packets n).2=Xf at *;generalize (pkOf c.packets n).1=p at *;refine fi b1 4 (α:=Unit) (fun _=>⟨(.ak::.i n::.ak::.ak::.ptr 0 0 0::.ak::.ptr 3 0 0::.ptr 1 0 0::jn 34 []),[.box J.bw,.box [.i p.number,.sl 2 0 p.frames.length],.af 9 (p.frames.map ao.enc),.box (J.vc c (.sl 4 0 c.streams.length) (.sl 5 0 c.packets.length)),.af 39 (c.streams.map ae.enc),.af 2 (c.packets.map aD.enc)]⟩) (fun _=>nf c n=true) ?_ ?_
 ·skip
  try simp only[go_sem]
  repeat'((first|refine ab.af (by first|assumption|(apply gb<;>exact aP)) ?_|refine au.af (by assumption) ?_)<;>simp only[go_sem,I])
  try simp only[go_sem,I]
  repeat'((first|refine ab.intro (by first|assumption|(apply v7<;>exact aP)) ?_|refine au.intro (by assumption) ?_|refine a7 ?_)<;>simp only[go_sem])
  rw[bM]
  cases hg:nf c n with
  |false=>
   rw[hg,if_neg (by simp)]at bm
   try simp only[go_sem,I,cc]
   repeat'(first|(with_reducible refine aw ?_)|fail)
   simp[bm]
  |true=>
   simp only[go_sem,bS];refine dS.intro () [1,6,5,4,2,3] (by first|exact hg|trivial) ?_;simp only[go_sem];simp
 rintro _ hg;rw[hg,if_pos rfl]at bm;refine JX 2 rfl ?_;simp only[b_];have DC:=GB hv n;obtain⟨y,hy⟩:∃y,y=lZ c n:=⟨_,rfl⟩;rw[←hy]at bm DC;refine fi b1 1 (α:=Unit) (fun _=>⟨(jn 4 (.ptr 0 0 0::.ak::.ptr 3 0 0::.ptr 1 0 0::jn 34 [])),[.box J.bw,.box [.i p.number,.sl 2 0 p.frames.length],.ar 9 (p.frames.map ao.enc) true,.box (J.vc y (.sl 4 0 y.streams.length) (.sl 5 0 y.packets.length)),.af 39 (y.streams.map ae.enc),.ar 2 (y.packets.map aD.enc) true]⟩) (fun _=>True) ?_ ?_
 ·simp only[go_sem];refine ab.ij [4,6,7] (by simp only[keepT,List.elem_cons,List.elem_nil,Nat.reduceBEq,Nat.reduceAdd,cond_true,cond_false];rfl) (Py c n (by have:=hz.2.2.1;omega) (eg p.number p.frames) _ (by simp[eg,roks,rok,bg,vok]) (by simp[eg,bg,vok]) _ ?_);rw[←hy];simp only[eg,eM,eN,fL,go_sem,bB,bx];refine dS.intro () [0,1,2,3,4,5] trivial ?_;simp only[go_sem];simp
 rintro _ _;refine ng b1 ?_;have yZ:=hz.2.2.2 p (JW hg)
 try simp only[go_sem]
 refine b7.intro (α:=Nat×J) (fun q=>⟨(jn 4 (.ptr 0 0 0::.ak::.ptr 3 0 0::.ptr 1 0 0::.ak::.i q.1::jn 32 [])),[.box J.bw,.box [.i p.number,.sl 2 0 p.frames.length],.ar 9 (p.frames.map ao.enc) true,.box (J.vc q.2 (.sl 4 0 q.2.streams.length) (.sl 5 0 q.2.packets.length)),.af 39 (q.2.streams.map ae.enc),.ar 2 (q.2.packets.map aD.enc) true]⟩)
  (fun q=>p.frames.length-q.1) (fun q=>q.1≤p.frames.length∧q.2=(p.frames.take q.1).foldl ox y) (0,y) [0,1,2,3,4,5] ⟨by simp,by simp⟩ ?_ ?_
 ·simp only[go_sem];simp
 ·rintro⟨i,z⟩ ⟨hi,u7⟩;simp only at hi u7;have DD:cl m z:=by rw[u7];exact DE (fun c f h=>Pz h f) _ _ DC
  by_cases h1:i<p.frames.length
  ·have ax:decide ((i:Int)<(p.frames.length:Int))=true:=bp (by omega);have aq:=b5 ao.enc p.frames i h1;have gd:=yZ.1;have hw:IntKind.i64.wrap ((i:Int)+1)=((i+1:Nat):Int):=by rw[bz]<;>omega
   have DF:=yZ.2 _ (eR h1);have cW:(p.frames.take (i+1)).foldl ox y=ox z p.frames[i]:=by
    rw[hj,b8 h1,List.foldl_append,←u7];rfl
   generalize p.frames[i]=f at *
   try simp only[go_sem,I,aC,aq,ao.enc,ax]
   repeat'(first|(with_reducible refine aw ?_)|fail)
   have oy:(ox z f).packets=z.packets:=by
    unfold ox;split
    ·exact(Au z _).2
    ·rfl
   refine ab.ij [4,6,7,9] (by simp only[keepT,List.elem_cons,List.elem_nil,Nat.reduceBEq,Nat.reduceAdd,cond_true,cond_false];rfl) (Xg z f (DD.sz hm) ((PA (DD.aS _) f).sz hm) (by omega) p.number i p.frames _ ?_);simp only[eg,eM,eN,fL,fS,go_sem,bB,bx];refine bA.intro (i+1,ox z f) [0,1,2,3,4,5] ⟨by simp only;omega,by simp only;rw[cW]⟩ (show p.frames.length-(i+1)<p.frames.length-i by omega) ?_;simp only[go_sem,hw];simp[oy]
  ·have ax:decide ((i:Int)<(p.frames.length:Int))=false:=bo (by omega);obtain rfl:i=p.frames.length:=by omega
   rw[d_]at u7
   try simp only[go_sem,I,ax]
   repeat'(first|(with_reducible refine aw ?_)|fail)
   simp[bm,←u7,hg]
set_option maxRecDepth 100000
theorem Xh(c:J)(n:Int)(m:Nat)(hv:cl m c)(hm:m≤20):aJ 182 [.agg (J.enc c),.one (.int .i64 n)] [.agg (J.enc ((Av c n))),.one (.bool (nf c n))]:=by
 refine ub 42 Tryz.func182 Tryz.call182 [.cell 4 37,.tmp 5] ?_;intro ok;clear ok;have hz:=hv.sz hm;have i':=iE hz;have bM:=Px c n;have bm:Av c n=if nf c n then(pkOf c.packets n).1.frames.foldl oz (lZ c n)else c:=rfl
 have hK:=Pw c n hz;have JW:nf c n=true→(pkOf c.packets n).1∈c.packets:=by
  intro h;simp only[nf,bP]at h;have h2:=h.2;unfold pkOf at h2⊢;split
  ·rename_i p hp;exact List.mem_of_find?_eq_some hp
  ·rename_i hp;rw[hp]at h2;cases h2
 generalize (pkOf c.packets n).2=Xf at *;generalize (pkOf c.packets n).1=p at *;refine fi b1 4 (α:=Unit) (fun _=>⟨(.ak::.i n::.ak::.ak::.ptr 0 0 0::.ak::.ptr 3 0 0::.ptr 1 0 0::jn 34 []),[.box J.bw,.box [.i p.number,.sl 2 0 p.frames.length],.af 9 (p.frames.map ao.enc),.box (J.vc c (.sl 4 0 c.streams.length) (.sl 5 0 c.packets.length)),.af 39 (c.streams.map ae.enc),.af 2 (c.packets.map aD.enc)]⟩) (fun _=>nf c n=true) ?_ ?_
 ·skip
  try simp only[go_sem]
  repeat'((first|refine ab.af (by first|assumption|(apply gb<;>exact aP)) ?_|refine au.af (by assumption) ?_)<;>simp only[go_sem,I])
  try simp only[go_sem,I]
  repeat'((first|refine ab.intro (by first|assumption|(apply v7<;>exact aP)) ?_|refine au.intro (by assumption) ?_|refine a7 ?_)<;>simp only[go_sem])
  rw[bM]
  cases hg:nf c n with
  |false=>
   rw[hg,if_neg (by simp)]at bm
   try simp only[go_sem,I,cc]
   repeat'(first|(with_reducible refine aw ?_)|fail)
   simp[bm]
  |true=>
   simp only[go_sem,bS];refine dS.intro () [1,6,5,4,2,3] (by first|exact hg|trivial) ?_;simp only[go_sem];simp
 rintro _ hg;rw[hg,if_pos rfl]at bm;refine JX 2 rfl ?_;simp only[b_];have DC:=GB hv n;obtain⟨y,hy⟩:∃y,y=lZ c n:=⟨_,rfl⟩;rw[←hy]at bm DC;refine fi b1 1 (α:=Unit) (fun _=>⟨(jn 4 (.ptr 0 0 0::.ak::.ptr 3 0 0::.ptr 1 0 0::jn 34 [])),[.box J.bw,.box [.i p.number,.sl 2 0 p.frames.length],.ar 9 (p.frames.map ao.enc) true,.box (J.vc y (.sl 4 0 y.streams.length) (.sl 5 0 y.packets.length)),.af 39 (y.streams.map ae.enc),.ar 2 (y.packets.map aD.enc) true]⟩) (fun _=>True) ?_ ?_
 ·simp only[go_sem];refine ab.ij [4,6,7] (by simp only[keepT,List.elem_cons,List.elem_nil,Nat.reduceBEq,Nat.reduceAdd,cond_true,cond_false];rfl) (Py c n (by have:=hz.2.2.1;omega) (eg p.number p.frames) _ (by simp[eg,roks,rok,bg,vok]) (by simp[eg,bg,vok]) _ ?_);rw[←hy];simp only[eg,eM,eN,fL,go_sem,bB,bx];refine dS.intro () [0,1,2,3,4,5] trivial ?_;simp only[go_sem];simp
 rintro _ _;refine ng b1 ?_;have yZ:=hz.2.2.2 p (JW hg)
 try simp only[go_sem]
 refine b7.intro (α:=Nat×J) (fun q=>⟨(jn 4 (.ptr 0 0 0::.ak::.ptr 3 0 0::.ptr 1 0 0::.ak::.i q.1::jn 32 [])),[.box J.bw,.box [.i p.number,.sl 2 0 p.frames.length],.ar 9 (p.frames.map ao.enc) true,.box (J.vc q.2 (.sl 4 0 q.2.streams.length) (.sl 5 0 q.2.packets.length)),.af 39 (q.2.streams.map ae.enc),.ar 2 (q.2.packets.map aD.enc) true]⟩)
  (fun q=>p.frames.length-q.1) (fun q=>q.1≤p.frames.length∧q.2=(p.frames.take q.1).foldl oz y) (0,y) [0,1,2,3,4,5] ⟨by simp,by simp⟩ ?_ ?_
 ·simp only[go_sem];simp
 ·rintro⟨i,z⟩ ⟨hi,u7⟩;simp only at hi u7;have DD:cl m z:=by rw[u7];exact DE (fun c f h=>PB h f) _ _ DC
  by_cases h1:i<p.frames.length
  ·have ax:decide ((i:Int)<(p.frames.length:Int))=true:=bp (by omega);have aq:=b5 ao.enc p.frames i h1;have gd:=yZ.1;have hw:IntKind.i64.wrap ((i:Int)+1)=((i+1:Nat):Int):=by rw[bz]<;>omega
   have DF:=yZ.2 _ (eR h1);have cW:(p.frames.take (i+1)).foldl oz y=oz z p.frames[i]:=by
    rw[hj,b8 h1,List.foldl_append,←u7];rfl
   generalize p.frames[i]=f at *
   try simp only[go_sem,I,aC,aq,ao.enc,ax]
   repeat'(first|(with_reducible refine aw ?_)|fail)
   have oy:(oz z f).packets=z.packets:=by
    unfold oz
    repeat' split
    all_goals rfl
   refine ab.ij [4,6,7,9] (by simp only[keepT,List.elem_cons,List.elem_nil,Nat.reduceBEq,Nat.reduceAdd,cond_true,cond_false];rfl) (Xi z f (DD.sz hm) ((PC (DD.aS _) f).sz hm) (by omega) p.number i p.frames _ ?_);simp only[eg,eM,eN,fL,fS,go_sem,bB,bx];refine bA.intro (i+1,oz z f) [0,1,2,3,4,5] ⟨by simp only;omega,by simp only;rw[cW]⟩ (show p.frames.length-(i+1)<p.frames.length-i by omega) ?_;simp only[go_sem,hw];simp[oy]
  ·have ax:decide ((i:Int)<(p.frames.length:Int))=false:=bo (by omega);obtain rfl:i=p.frames.length:=by omega
   rw[d_]at u7
   try simp only[go_sem,I,ax]
   repeat'(first|(with_reducible refine aw ?_)|fail)
   simp[bm,←u7,hg]
set_option maxRecDepth 100000
theorem M'(c:J)(f:ao)(k:Int):(bif bif !en c then true else !fM f then true else decide (f.kind≠k))=!oU c f k:=by
 unfold oU
 cases en c<;>cases fM f<;>by_cases h:f.kind=k<;>simp[h]
theorem ac1(c:J)(f:ao)(m:Nat)(hv:cl m c)(hm:m≤19):aJ 246 [.agg (J.enc c),.agg (ao.enc f)] [.agg (J.enc ((zX c f))),.one (.int .i64 (yK c f))]:=by
 refine ub 69 Tryz.func246 Tryz.call246 [.cell 4 37,.tmp 5] ?_;intro ok;clear ok;have hz:=hv.sz (by omega);have i':=iE hz;have uP:=w6 hv f.stream;have ma:=uP.sz (by omega);have j2:(bI c f.stream).streams.length≤1000:=by have:=ma.1;omega
 have kj:=ma.2.1;have bm:zX c f=if yK c f=0 then eE (bI c f.stream) (uy (bI c f.stream) f)else c:=rfl
 have ag:yK c f=if oU c f 5 then(if eU c.bV f.stream then fu c f.stream else 5)else 7:=rfl
 have aT:uy (bI c f.stream) f=if uf (aS (bI c f.stream) f.stream).send f.code then gg (aS (bI c f.stream) f.stream) f.code else aS (bI c f.stream) f.stream:=rfl
 have pk:eO (uy (bI c f.stream) f):=(T6 uP).sz (by omega);have bM:=M' c f 5;obtain⟨dy,dT,c2,d'⟩:=nO ma.2.1 f.stream;have yD:=c2;have c2:∀fA∈(strOf (bI c f.stream).streams f.stream).1.recv.buffer.bO,fA.data.length≤1048576:=fun fA hc=>by have:=c2 fA hc;omega
 have cT:=mU (bI c f.stream) f.stream ma;rw[show(strOf (bI c f.stream).streams f.stream).1=aS (bI c f.stream) f.stream from rfl]at dy dT c2 yD d' cT;have Na:=DW c f.stream hz;generalize aS (bI c f.stream) f.stream=s at *;generalize bI c f.stream=x at *;refine fi b1 6 (α:=Unit) (fun _=>⟨(.ak::.ak::.ptr 0 0 0::.ptr 1 0 0::.ptr 2 0 0::.ak::.ptr 3 0 0::.ak::.ptr 6 0 0::jn 60 []),[.box (J.bE c),.box (ao.bE f),.box J.bw,.box (J.vc x (.sl 4 0 x.streams.length) (.sl 5 0 x.packets.length)),.af 39 (x.streams.map ae.enc),.af 2 (x.packets.map aD.enc),.box (ae.vc s (.sl 7 0 s.send.ring.cells.length) (.sl 8 0 s.send.pending.length) (.sl 9 0 s.send.flight.length) (.sl 10 0 s.send.cG.length) (.sl 11 0 s.recv.buffer.bO.length)),.af 1 (s.send.ring.cells.map aW),.af 2 (s.send.pending.map aa.enc),.af 2 (s.send.flight.map aa.enc),.af 2 (s.send.cG.map aa.enc),.af 2 (s.recv.buffer.bO.map aA.enc)]⟩) (fun _=>oU c f 5=true∧eU c.bV f.stream=true∧fu c f.stream=0) ?_ ?_
 ·skip
  try simp only[go_sem]
  repeat'((first|refine ab.af (by first|assumption|(apply vg<;>exact aP)) ?_|refine au.af (by first|assumption|apply AN) ?_|refine a7 ?_)<;>simp only[go_sem])
  rw[bM]
  cases hg:oU c f 5 with
  |false=>
   rw[hg,if_neg (by simp)]at ag;rw[ag,if_neg (by decide)]at bm
   try simp only[go_sem,cc]
   repeat'(first|((first|refine ab.af (by first|assumption|(apply gb<;>exact aP)) ?_|refine au.af (by assumption) ?_)<;>simp only[go_sem,I])|(with_reducible refine aw ?_)|fail)
   simp[bm,ag]
  |true=>
   rw[hg,if_pos rfl]at ag
   try simp only[go_sem,bS]
   repeat'((first|refine ab.af (by first|assumption|apply Nd) ?_|refine au.af (by assumption) ?_)<;>simp only[go_sem])
   cases j9:eU c.bV f.stream with
   |false=>
    rw[j9,if_neg (by simp)]at ag;rw[ag,if_neg (by decide)]at bm
    try simp only[go_sem,cc]
    repeat'(first|((first|refine ab.af (by first|assumption|(apply gb<;>exact aP)) ?_|refine au.af (by assumption) ?_)<;>simp only[go_sem,I])|(with_reducible refine aw ?_)|fail)
    simp[bm,ag]
   |true=>
    rw[j9,if_pos rfl]at ag
    try simp only[go_sem,bS]
    repeat'((first|refine ab.af (by assumption) ?_|refine au.af (by assumption) ?_)<;>simp only[go_sem,I])
    cases kq:decide (fu c f.stream≠0)with
    |true=>
     have iA:=cO kq
     skip
     rw[ag,if_neg iA]at bm
     try simp only[go_sem]
     repeat'(first|((first|refine ab.af (by first|assumption|(apply gb<;>exact aP)) ?_|refine au.af (by assumption) ?_)<;>simp only[go_sem,I])|(with_reducible refine aw ?_)|fail)
     simp[bm,ag]
    |false=>
     have iA:fu c f.stream=0:=Decidable.not_not.1 (c9 kq)
     try simp only[go_sem,I]
     repeat'((first|refine ab.af (by assumption) ?_|refine au.af (by assumption) ?_)<;>simp only[go_sem,I])
     refine dS.intro () [0,1,2,5,3,4,11,6,7,8,9,10] (by first|exact⟨hg,j9,iA⟩|(simp only[true_and];exact iA)|simp[iA]) ?_;simp only[go_sem];simp
 rintro _ ⟨hg,j9,kq⟩;rw[hg,if_pos rfl,j9,if_pos rfl,kq]at ag;rw[ag,if_pos rfl]at bm;generalize uy x f=t at *;obtain⟨y,hy⟩:∃y,y=x:=⟨_,rfl⟩;refine fi b1 2 (α:=Unit) (fun _=>⟨(jn 4 (.ptr 2 0 0::.ak::.ptr 3 0 0::.ak::.ptr 6 0 0::jn 60 [])),[.box (J.bE c),.box (ao.bE f),.box J.bw,.box (J.vc y (.sl 4 0 y.streams.length) (.sl 5 0 y.packets.length)),.af 39 (y.streams.map ae.enc),.af 2 (y.packets.map aD.enc),.box (ae.vc t (.sl 7 0 t.send.ring.cells.length) (.sl 8 0 t.send.pending.length) (.sl 9 0 t.send.flight.length) (.sl 10 0 t.send.cG.length) (.sl 11 0 t.recv.buffer.bO.length)),.af 1 (t.send.ring.cells.map aW),.af 2 (t.send.pending.map aa.enc),.af 2 (t.send.flight.map aa.enc),.af 2 (t.send.cG.map aa.enc),.af 2 (t.recv.buffer.bO.map aA.enc)]⟩) (fun _=>True) ?_ ?_
 ·skip
  try simp only[go_sem,I]
  repeat'((first|refine ab.af (by first|assumption|(apply P2<;>exact aP)) ?_|refine au.af (by assumption) ?_)<;>simp only[go_sem,I])
  cases hr:uf s.send f.code with
  |true=>
   rw[hr,if_pos rfl]at aT;simp only[go_sem];refine dS.intro () [0,1,2,3,4,5,6,12,13,14,15,11] trivial ?_;simp only[go_sem,aT,gg,hy];simp
  |false=>
   rw[hr,if_neg (by simp)]at aT;simp only[go_sem];refine dS.intro () [0,1,2,3,4,5,6,7,8,9,10,11] trivial ?_;simp only[go_sem,aT,hy];simp
 rintro _ _;have Fp:y.streams.length≤1000:=by rw[hy];exact j2
 have Fq:∀q∈y.streams,eO q:=by rw[hy];exact kj
 rw[←hy]at bm;refine fi b1 1 (α:=Unit) (fun _=>⟨(jn 4 (.ptr 2 0 0::.ak::.ptr 3 0 0::jn 62 [])),[.box (J.bE c),.box (ao.bE f),.box J.bw,.box (J.vc ((eE y t)) (.sl 4 0 ((eE y t)).streams.length) (.sl 5 0 ((eE y t)).packets.length)),.af 39 (((eE y t)).streams.map ae.enc),.af 2 (((eE y t)).packets.map aD.enc)]⟩) (fun _=>True) ?_ ?_
 ·simp only[go_sem,I];refine ab.ij [4,6] (by simp only[keepT,List.elem_cons,List.elem_nil,Nat.reduceBEq,Nat.reduceAdd,cond_true,cond_false];rfl) (yG y t (.af 2 (y.packets.map aD.enc)) (fun _=>trivial) Fp Fq pk [.box (J.bE c),.box (ao.bE f),.box J.bw] _ (by simp[roks,rok,bg,vok]) (by simp[bg,vok]) _ ?_);simp only[eM,eN,fL,go_sem];have oy:(eE y t).packets=y.packets:=(Au y t).2;refine dS.intro () [0,1,2,3,4,5] trivial ?_;simp only[go_sem];simp[oy]
 rintro _ _;refine ng b1 ?_
 try simp only[go_sem,I]
 repeat'(first|(with_reducible refine aw ?_)|fail)
 simp[bm,ag]
set_option maxRecDepth 100000
theorem acO(c:J)(f:ao)(m:Nat)(hv:cl m c)(hm:m≤19)(hd:f.data.length≤8)(av:0≤f.offset∧f.offset≤900):aJ 244 [.agg (J.enc c),.agg (ao.enc f)] [.agg (J.enc ((zV c f))),.one (.int .i64 (yC c f))]:=by
 refine ub 88 Tryz.func244 Tryz.call244 [.cell 4 37,.tmp 5] ?_;intro ok;clear ok;have hz:=hv.sz (by omega);have i':=iE hz;have uP:=w6 hv f.stream;have ma:=uP.sz (by omega);have j2:(bI c f.stream).streams.length≤1000:=by have:=ma.1;omega
 have kj:=ma.2.1;have bm:zV c f=if yC c f=0 then eE (lR (bI c f.stream) (aS (bI c f.stream) f.stream) (uQ f)) (Bn (bI c f.stream) f)else c:=rfl
 have ag:yC c f=if oU c f 8 then(if fC c.bV f.stream then(if fu c f.stream=0 then(if jT (bI c f.stream) (aS (bI c f.stream) f.stream) (uQ f)=0 then vO (aS (bI c f.stream) f.stream).recv f.offset f.data f.a2 else jT (bI c f.stream) (aS (bI c f.stream) f.stream) (uQ f))else fu c f.stream)else 5)else 7:=rfl
 have aT:Bn (bI c f.stream) f=g5 (lS (aS (bI c f.stream) f.stream) (uQ f)) (pQ (aS (bI c f.stream) f.stream).recv f.offset f.data f.a2):=rfl;have pk:eO (Bn (bI c f.stream) f):=(TX uP hd av).sz (by omega);have y7:=uP.aS f.stream;have Fl:=y7.fA;clear y7;have bM:=M' c f 8;obtain⟨dy,dT,c2,d'⟩:=nO ma.2.1 f.stream;have yD:=c2;have c2:∀fA∈(strOf (bI c f.stream).streams f.stream).1.recv.buffer.bO,fA.data.length≤1048576:=fun fA hc=>by have:=c2 fA hc;omega
 have cT:=mU (bI c f.stream) f.stream ma;rw[show(strOf (bI c f.stream).streams f.stream).1=aS (bI c f.stream) f.stream from rfl]at dy dT c2 yD d' cT;have Na:=DW c f.stream hz;generalize aS (bI c f.stream) f.stream=s at *;generalize bI c f.stream=x at *;refine fi b1 6 (α:=Unit) (fun _=>⟨(.ak::.ak::.ptr 0 0 0::.ptr 1 0 0::.ptr 2 0 0::.ak::.ptr 3 0 0::.ak::.ptr 6 0 0::jn 79 []),[.box (J.bE c),.box (ao.bE f),.box J.bw,.box (J.vc x (.sl 4 0 x.streams.length) (.sl 5 0 x.packets.length)),.af 39 (x.streams.map ae.enc),.af 2 (x.packets.map aD.enc),.box (ae.vc s (.sl 7 0 s.send.ring.cells.length) (.sl 8 0 s.send.pending.length) (.sl 9 0 s.send.flight.length) (.sl 10 0 s.send.cG.length) (.sl 11 0 s.recv.buffer.bO.length)),.af 1 (s.send.ring.cells.map aW),.af 2 (s.send.pending.map aa.enc),.af 2 (s.send.flight.map aa.enc),.af 2 (s.send.cG.map aa.enc),.af 2 (s.recv.buffer.bO.map aA.enc)]⟩) (fun _=>oU c f 8=true∧fC c.bV f.stream=true∧fu c f.stream=0) ?_ ?_
 ·skip
  try simp only[go_sem]
  repeat'(first|((first|refine ab.af (by first|assumption|(apply vg<;>exact aP)) ?_|refine au.af (by first|assumption|apply AN) ?_|refine a7 ?_)<;>simp only[go_sem])|(with_reducible refine aw ?_)|fail)
  rw[bM]
  cases hg:oU c f 8 with
  |false=>
   rw[hg,if_neg (by simp)]at ag;rw[ag,if_neg (by decide)]at bm
   try simp only[go_sem,cc]
   repeat'(first|((first|refine ab.af (by first|assumption|(apply gb<;>exact aP)) ?_|refine au.af (by assumption) ?_)<;>simp only[go_sem,I])|(with_reducible refine aw ?_)|fail)
   simp[bm,ag]
  |true=>
   rw[hg,if_pos rfl]at ag
   try simp only[go_sem,bS]
   repeat'(first|((first|refine ab.af (by first|assumption|apply II) ?_|refine au.af (by assumption) ?_)<;>simp only[go_sem])|(with_reducible refine aw ?_)|fail)
   cases j9:fC c.bV f.stream with
   |false=>
    rw[j9,if_neg (by simp)]at ag;rw[ag,if_neg (by decide)]at bm
    try simp only[go_sem,cc]
    repeat'(first|((first|refine ab.af (by first|assumption|(apply gb<;>exact aP)) ?_|refine au.af (by assumption) ?_)<;>simp only[go_sem,I])|(with_reducible refine aw ?_)|fail)
    simp[bm,ag]
   |true=>
    rw[j9,if_pos rfl]at ag
    try simp only[go_sem,bS]
    repeat'((first|refine ab.af (by assumption) ?_|refine au.af (by assumption) ?_)<;>simp only[go_sem,I])
    cases kq:decide (fu c f.stream≠0)with
    |true=>
     have iA:=cO kq;rw[if_neg iA]at ag;rw[ag,if_neg iA]at bm
     try simp only[go_sem]
     repeat'(first|((first|refine ab.af (by first|assumption|(apply gb<;>exact aP)) ?_|refine au.af (by assumption) ?_)<;>simp only[go_sem,I])|(with_reducible refine aw ?_)|fail)
     simp[bm,ag]
    |false=>
     have iA:fu c f.stream=0:=Decidable.not_not.1 (c9 kq)
     try simp only[go_sem,I]
     repeat'((first|refine ab.af (by assumption) ?_|refine au.af (by assumption) ?_)<;>simp only[go_sem,I])
     refine dS.intro () [0,1,2,5,3,4,11,6,7,8,9,10] (by first|exact⟨hg,j9,iA⟩|(simp only[true_and];exact iA)|simp[iA]) ?_;simp only[go_sem];simp
 rintro _ ⟨hg,j9,kq⟩;rw[hg,if_pos rfl,j9,if_pos rfl,kq,if_pos rfl]at ag;have aQ:pQ s.recv f.offset f.data f.a2=pQ s.recv f.offset f.data f.a2:=rfl;generalize Nb:pQ s.recv f.offset f.data f.a2=r at aT aQ;have aQ:r=pQ s.recv f.offset f.data f.a2:=Nb.symm;have HM:IntKind.i64.wrap (f.offset+(f.data.length:Int))=uQ f:=rfl;generalize uQ f=e at *;refine fi b1 1 (α:=Unit) (fun _=>⟨(.ak::.ak::.ptr 0 0 0::.ptr 1 0 0::.ptr 2 0 0::.ak::.ptr 3 0 0::.ak::.ptr 6 0 0::.ak::.ptr 12 0 0::.i (vO s.recv f.offset f.data f.a2)::jn 76 []),[.box (J.bE c),.box (ao.bE f),.box J.bw,.box (J.vc x (.sl 4 0 x.streams.length) (.sl 5 0 x.packets.length)),.af 39 (x.streams.map ae.enc),.af 2 (x.packets.map aD.enc),.box (ae.vc s (.sl 7 0 s.send.ring.cells.length) (.sl 8 0 s.send.pending.length) (.sl 9 0 s.send.flight.length) (.sl 10 0 s.send.cG.length) (.sl 11 0 s.recv.buffer.bO.length)),.af 1 (s.send.ring.cells.map aW),.af 2 (s.send.pending.map aa.enc),.af 2 (s.send.flight.map aa.enc),.af 2 (s.send.cG.map aa.enc),.af 2 (s.recv.buffer.bO.map aA.enc),.box (bL.vc r (.sl 13 0 r.buffer.bO.length)),.af 2 (r.buffer.bO.map aA.enc)]⟩) (fun _=>True) ?_ ?_
 ·skip
  try simp only[go_sem,I]
  repeat'((first|refine ab.af (by first|assumption|(apply acP<;>exact aP)) ?_|refine au.af (by assumption) ?_)<;>simp only[go_sem,I])
  refine dS.intro () [0,1,2,3,4,5,6,7,8,9,10,11,13,12] trivial ?_;simp only[go_sem];simp[←aQ]
 rintro _ _;refine fi b1 1 (α:=J×ae) (fun y=>⟨(.ak::.ak::.ptr 0 0 0::.ptr 1 0 0::.ptr 2 0 0::.ak::.ptr 3 0 0::.i (jT x s (e))::.ptr 6 0 0::.ak::.ptr 12 0 0::.i (vO s.recv f.offset f.data f.a2)::jn 76 []),[.box (J.bE c),.box (ao.bE f),.box J.bw,.box (J.vc y.1 (.sl 4 0 y.1.streams.length) (.sl 5 0 y.1.packets.length)),.af 39 (y.1.streams.map ae.enc),.af 2 (y.1.packets.map aD.enc),.box (ae.vc y.2 (.sl 7 0 y.2.send.ring.cells.length) (.sl 8 0 y.2.send.pending.length) (.sl 9 0 y.2.send.flight.length) (.sl 10 0 y.2.send.cG.length) (.sl 11 0 y.2.recv.buffer.bO.length)),.af 1 (y.2.send.ring.cells.map aW),.af 2 (y.2.send.pending.map aa.enc),.af 2 (y.2.send.flight.map aa.enc),.af 2 (y.2.send.cG.map aa.enc),.af 2 (y.2.recv.buffer.bO.map aA.enc),.box (bL.vc r (.sl 13 0 r.buffer.bO.length)),.af 2 (r.buffer.bO.map aA.enc)]⟩) (fun y=>jT x s (e)=0→y.1=lR x s (e)∧y.2=lS s (e)) ?_ ?_
 ·simp only[go_sem,HM];refine ab.ij [2,3,4,6,8,10,11] (by simp only[keepT,List.elem_cons,List.elem_nil,Nat.reduceBEq,Nat.reduceAdd,cond_true,cond_false];rfl) (fc (n:=52) (rs:=[.tmp 6]) Tryz.func298 rfl Tryz.call298 b1 rfl rfl ?_);simp only[go_sem,I]
  try simp only[go_sem,I]
  repeat'((first|refine ab.intro (by first|assumption|(apply TY<;>exact aP)) ?_|refine au.intro (by assumption) ?_)<;>simp only[go_sem])
  cases hn:decide (g6 s.recv (e)=0)with
  |true=>
   have jr:vP s (e)=0:=cO hn;have ah:jT x s (e)=0:=by unfold jT;rw[if_pos jr]
   have ai:lR x s (e)=x:=by unfold lR;rw[if_pos jr]
   have aX:lS s (e)=s:=by unfold lS;rw[if_pos jr]
   try simp only[go_sem]
   refine dS.intro (x,s) [0,1,2,3,4,5,6,7,8,9,10,11,12,13] (fun _=>⟨ai.symm,aX.symm⟩) ?_;simp only[go_sem,ah];simp
  |false=>
   have jr:¬vP s (e)=0:=c9 hn;have ah:jT x s (e)=if iB s.bX (g6 s.recv (e))&&iB x.dO (g6 s.recv (e))then 0 else 3:=by unfold jT;rw[if_neg jr];rfl
   have ai:lR x s (e)={x with dO:=oV x.dO (g6 s.recv (e))}:=by unfold lR;rw[if_neg jr];rfl
   have aX:lS s (e)={s with bX:=oV s.bX (g6 s.recv (e))}:=by unfold lS;rw[if_neg jr];rfl
   try simp only[go_sem]
   repeat'((first|refine ab.intro (by first|assumption|apply TZ) ?_|refine au.intro (by assumption) ?_|refine a7 ?_)<;>simp only[go_sem])
   have Nc:(bif !iB s.bX (g6 s.recv (e))then true else !iB x.dO (g6 s.recv (e)))=!(iB s.bX (g6 s.recv (e))&&iB x.dO (g6 s.recv (e))):=by
    cases iB s.bX (g6 s.recv (e))<;>cases iB x.dO (g6 s.recv (e))<;>rfl
   rw[Nc]
   cases hk:iB s.bX (g6 s.recv (e))&&iB x.dO (g6 s.recv (e))with
   |false=>
    rw[hk,if_neg (by simp)]at ah
    try simp only[go_sem,cc]
    refine dS.intro (x,s) [0,1,2,3,4,5,6,7,8,9,10,11,12,13] (fun h=>by rw[ah]at h;cases h) ?_;simp only[go_sem,ah];simp
   |true=>
    rw[hk,if_pos rfl]at ah
    try simp only[go_sem,bS]
    refine dS.intro ({x with dO:=oV x.dO (g6 s.recv (e))},{s with bX:=oV s.bX (g6 s.recv (e))}) [0,1,2,3,4,5,6,7,8,9,10,11,12,13] (fun _=>⟨ai.symm,aX.symm⟩) ?_;simp only[go_sem,ah];simp
 rintro⟨x2,u⟩ Fm;simp only at Fm;refine fi b1 2 (α:=Unit) (fun _=>⟨(.ak::.ak::.ptr 0 0 0::.ptr 1 0 0::.ptr 2 0 0::.ak::.ptr 3 0 0::.ak::.ptr 6 0 0::.ak::.ptr 12 0 0::jn 77 []),[.box (J.bE c),.box (ao.bE f),.box J.bw,.box (J.vc x2 (.sl 4 0 x2.streams.length) (.sl 5 0 x2.packets.length)),.af 39 (x2.streams.map ae.enc),.af 2 (x2.packets.map aD.enc),.box (ae.vc u (.sl 7 0 u.send.ring.cells.length) (.sl 8 0 u.send.pending.length) (.sl 9 0 u.send.flight.length) (.sl 10 0 u.send.cG.length) (.sl 11 0 u.recv.buffer.bO.length)),.af 1 (u.send.ring.cells.map aW),.af 2 (u.send.pending.map aa.enc),.af 2 (u.send.flight.map aa.enc),.af 2 (u.send.cG.map aa.enc),.af 2 (u.recv.buffer.bO.map aA.enc),.box (bL.vc r (.sl 13 0 r.buffer.bO.length)),.af 2 (r.buffer.bO.map aA.enc)]⟩) (fun _=>jT x s (e)=0∧vO s.recv f.offset f.data f.a2=0) ?_ ?_
 ·simp only[go_sem]
  cases vQ:decide (jT x s (e)≠0)with
  |true=>
   have pR:=cO vQ;rw[if_neg pR]at ag;rw[ag,if_neg pR]at bm
   try simp only[go_sem]
   repeat'(first|((first|refine ab.af (by first|assumption|(apply gb<;>exact aP)) ?_|refine au.af (by assumption) ?_|refine a7 ?_)<;>simp only[go_sem,I])|(with_reducible refine aw ?_)|fail)
   simp[bm,ag]
  |false=>
   have pR:=Decidable.not_not.1 (c9 vQ);rw[pR,if_pos rfl]at ag;simp only[go_sem]
   cases yE:decide (vO s.recv f.offset f.data f.a2≠0)with
   |true=>
    have yF:=cO yE;rw[ag,if_neg yF]at bm
    try simp only[go_sem]
    repeat'(first|((first|refine ab.af (by first|assumption|(apply gb<;>exact aP)) ?_|refine au.af (by assumption) ?_)<;>simp only[go_sem,I])|(with_reducible refine aw ?_)|fail)
    simp[bm,ag]
   |false=>
    have yF:=Decidable.not_not.1 (c9 yE);simp only[go_sem];refine dS.intro () [0,1,2,3,4,5,6,7,8,9,10,11,12,13] (by first|exact⟨pR,yF⟩|simp[pR,yF]) ?_;simp only[go_sem];simp
 rintro _ ⟨vQ,yE⟩;obtain⟨zC,hu⟩:=Fm vQ;rw[vQ,if_pos rfl,yE]at ag;rw[ag,if_pos rfl]at bm;obtain⟨y,hy⟩:∃y,y=x2:=⟨_,rfl⟩;have Fo:y.streams=x.streams:=by rw[hy,zC];exact(IJ _ _ _).1
 have Fp:y.streams.length≤1000:=by rw[Fo];exact j2
 have Fq:∀q∈y.streams,eO q:=by rw[Fo];exact kj
 rw[←hu]at aT;rw[←zC,←hy]at bm;generalize Bn x f=t at *;refine fi b1 1 (α:=Unit) (fun _=>⟨(jn 4 (.ptr 2 0 0::.ak::.ptr 3 0 0::.ak::.ptr 6 0 0::jn 79 [])),[.box (J.bE c),.box (ao.bE f),.box J.bw,.box (J.vc y (.sl 4 0 y.streams.length) (.sl 5 0 y.packets.length)),.af 39 (y.streams.map ae.enc),.af 2 (y.packets.map aD.enc),.box (ae.vc t (.sl 7 0 t.send.ring.cells.length) (.sl 8 0 t.send.pending.length) (.sl 9 0 t.send.flight.length) (.sl 10 0 t.send.cG.length) (.sl 11 0 t.recv.buffer.bO.length)),.af 1 (t.send.ring.cells.map aW),.af 2 (t.send.pending.map aa.enc),.af 2 (t.send.flight.map aa.enc),.af 2 (t.send.cG.map aa.enc),.af 2 (t.recv.buffer.bO.map aA.enc)]⟩) (fun _=>True) ?_ ?_
 ·simp only[go_sem];refine dS.intro () [0,1,2,3,4,5,6,7,8,9,10,13] trivial ?_;simp only[go_sem,aT,hy,g5];simp
 rintro _ _;refine fi b1 1 (α:=Unit) (fun _=>⟨(jn 4 (.ptr 2 0 0::.ak::.ptr 3 0 0::jn 81 [])),[.box (J.bE c),.box (ao.bE f),.box J.bw,.box (J.vc ((eE y t)) (.sl 4 0 ((eE y t)).streams.length) (.sl 5 0 ((eE y t)).packets.length)),.af 39 (((eE y t)).streams.map ae.enc),.af 2 (((eE y t)).packets.map aD.enc)]⟩) (fun _=>True) ?_ ?_
 ·simp only[go_sem,I];refine ab.ij [4,6] (by simp only[keepT,List.elem_cons,List.elem_nil,Nat.reduceBEq,Nat.reduceAdd,cond_true,cond_false];rfl) (yG y t (.af 2 (y.packets.map aD.enc)) (fun _=>trivial) Fp Fq pk [.box (J.bE c),.box (ao.bE f),.box J.bw] _ (by simp[roks,rok,bg,vok]) (by simp[bg,vok]) _ ?_);simp only[eM,eN,fL,go_sem];have oy:(eE y t).packets=y.packets:=(Au y t).2;refine dS.intro () [0,1,2,3,4,5] trivial ?_;simp only[go_sem];simp[oy]
 rintro _ _;refine ng b1 ?_
 try simp only[go_sem,I]
 repeat'(first|(with_reducible refine aw ?_)|fail)
 simp[bm,ag]
set_option maxRecDepth 100000
theorem ac0(c:J)(f:ao)(m:Nat)(hv:cl m c)(hm:m≤19):aJ 245 [.agg (J.enc c),.agg (ao.enc f)] [.agg (J.enc ((zW c f))),.one (.int .i64 (yI c f))]:=by
 refine ub 94 Tryz.func245 Tryz.call245 [.cell 4 37,.tmp 5] ?_;intro ok;clear ok;have hz:=hv.sz (by omega);have i':=iE hz;have uP:=w6 hv f.stream;have ma:=uP.sz (by omega);have j2:(bI c f.stream).streams.length≤1000:=by have:=ma.1;omega
 have kj:=ma.2.1;have bm:zW c f=if yI c f=0 then eE (yJ (bI c f.stream) f) (xb (bI c f.stream) f)else c:=rfl
 have ag:yI c f=if oU c f 4 then(if fC c.bV f.stream then(if fu c f.stream=0 then(if jT (bI c f.stream) (aS (bI c f.stream) f.stream) f.bn=0 then xc (aS (bI c f.stream) f.stream).recv f.code f.bn else jT (bI c f.stream) (aS (bI c f.stream) f.stream) f.bn)else fu c f.stream)else 5)else 7:=rfl
 have hB:Bp (bI c f.stream) f=(decide ((vT (aS (bI c f.stream) f.stream).recv f.code f.bn).state=4)&&decide ((aS (bI c f.stream) f.stream).recv.state≠4)):=rfl;have aT:xb (bI c f.stream) f=g5 (if Bp (bI c f.stream) f then w_ (lS (aS (bI c f.stream) f.stream) f.bn) f.bn else lS (aS (bI c f.stream) f.stream) f.bn) (vT (aS (bI c f.stream) f.stream).recv f.code f.bn):=rfl;have dk:yJ (bI c f.stream) f=if Bp (bI c f.stream) f then uS (lR (bI c f.stream) (aS (bI c f.stream) f.stream) f.bn) (lS (aS (bI c f.stream) f.stream) f.bn) f.bn else lR (bI c f.stream) (aS (bI c f.stream) f.stream) f.bn:=rfl
 have pk:eO (xb (bI c f.stream) f):=(T5 uP).sz (by omega);have Fw:(yJ (bI c f.stream) f).streams=(bI c f.stream).streams:=(Nh _ f).1;have Fl:=(uP.aS f.stream).fA;have bM:=M' c f 4;obtain⟨dy,dT,c2,d'⟩:=nO ma.2.1 f.stream;have yD:=c2;have c2:∀fA∈(strOf (bI c f.stream).streams f.stream).1.recv.buffer.bO,fA.data.length≤1048576:=fun fA hc=>by have:=c2 fA hc;omega
 have cT:=mU (bI c f.stream) f.stream ma;rw[show(strOf (bI c f.stream).streams f.stream).1=aS (bI c f.stream) f.stream from rfl]at dy dT c2 yD d' cT;have Na:=DW c f.stream hz;generalize aS (bI c f.stream) f.stream=s at *;generalize bI c f.stream=x at *;refine fi b1 6 (α:=Unit) (fun _=>⟨(.ak::.ak::.ptr 0 0 0::.ptr 1 0 0::.ptr 2 0 0::.ak::.ptr 3 0 0::.ak::.ptr 6 0 0::jn 85 []),[.box (J.bE c),.box (ao.bE f),.box J.bw,.box (J.vc x (.sl 4 0 x.streams.length) (.sl 5 0 x.packets.length)),.af 39 (x.streams.map ae.enc),.af 2 (x.packets.map aD.enc),.box (ae.vc s (.sl 7 0 s.send.ring.cells.length) (.sl 8 0 s.send.pending.length) (.sl 9 0 s.send.flight.length) (.sl 10 0 s.send.cG.length) (.sl 11 0 s.recv.buffer.bO.length)),.af 1 (s.send.ring.cells.map aW),.af 2 (s.send.pending.map aa.enc),.af 2 (s.send.flight.map aa.enc),.af 2 (s.send.cG.map aa.enc),.af 2 (s.recv.buffer.bO.map aA.enc)]⟩) (fun _=>oU c f 4=true∧fC c.bV f.stream=true∧fu c f.stream=0) ?_ ?_
 ·skip
  try simp only[go_sem]
  repeat'(first|((first|refine ab.af (by first|assumption|(apply vg<;>exact aP)) ?_|refine au.af (by first|assumption|apply AN) ?_|refine a7 ?_)<;>simp only[go_sem])|(with_reducible refine aw ?_)|fail)
  rw[bM]
  cases hg:oU c f 4 with
  |false=>
   rw[hg,if_neg (by simp)]at ag;rw[ag,if_neg (by decide)]at bm
   try simp only[go_sem,cc]
   repeat'(first|((first|refine ab.af (by first|assumption|(apply gb<;>exact aP)) ?_|refine au.af (by assumption) ?_)<;>simp only[go_sem,I])|(with_reducible refine aw ?_)|fail)
   simp[bm,ag]
  |true=>
   rw[hg,if_pos rfl]at ag
   try simp only[go_sem,bS]
   repeat'((first|refine ab.af (by first|assumption|apply II) ?_|refine au.af (by assumption) ?_|refine a7 ?_)<;>simp only[go_sem])
   cases j9:fC c.bV f.stream with
   |false=>
    rw[j9,if_neg (by simp)]at ag;rw[ag,if_neg (by decide)]at bm
    try simp only[go_sem,cc]
    repeat'(first|((first|refine ab.af (by first|assumption|(apply gb<;>exact aP)) ?_|refine au.af (by assumption) ?_)<;>simp only[go_sem,I])|(with_reducible refine aw ?_)|fail)
    simp[bm,ag]
   |true=>
    rw[j9,if_pos rfl]at ag
    try simp only[go_sem,bS]
    repeat'((first|refine ab.af (by assumption) ?_|refine au.af (by assumption) ?_)<;>simp only[go_sem,I])
    cases kq:decide (fu c f.stream≠0)with
    |true=>
     have iA:=cO kq;rw[if_neg iA]at ag;rw[ag,if_neg iA]at bm
     try simp only[go_sem]
     repeat'(first|((first|refine ab.af (by first|assumption|(apply gb<;>exact aP)) ?_|refine au.af (by assumption) ?_)<;>simp only[go_sem,I])|(with_reducible refine aw ?_)|fail)
     simp[bm,ag]
    |false=>
     have iA:fu c f.stream=0:=Decidable.not_not.1 (c9 kq)
     try simp only[go_sem,I]
     repeat'((first|refine ab.af (by assumption) ?_|refine au.af (by assumption) ?_)<;>simp only[go_sem,I])
     refine dS.intro () [0,1,2,5,3,4,11,6,7,8,9,10] (by first|exact⟨hg,j9,iA⟩|(simp only[true_and];exact iA)|simp[iA]) ?_;simp only[go_sem];simp
 rintro _ ⟨hg,j9,kq⟩;rw[hg,if_pos rfl,j9,if_pos rfl,kq,if_pos rfl]at ag;generalize Nb:vT s.recv f.code f.bn=r at aT hB;have aQ:r=vT s.recv f.code f.bn:=Nb.symm;refine fi b1 1 (α:=Unit) (fun _=>⟨(.ak::.ak::.ptr 0 0 0::.ptr 1 0 0::.ptr 2 0 0::.ak::.ptr 3 0 0::.ak::.ptr 6 0 0::.ak::.ptr 12 0 0::.i (xc s.recv f.code f.bn)::jn 82 []),[.box (J.bE c),.box (ao.bE f),.box J.bw,.box (J.vc x (.sl 4 0 x.streams.length) (.sl 5 0 x.packets.length)),.af 39 (x.streams.map ae.enc),.af 2 (x.packets.map aD.enc),.box (ae.vc s (.sl 7 0 s.send.ring.cells.length) (.sl 8 0 s.send.pending.length) (.sl 9 0 s.send.flight.length) (.sl 10 0 s.send.cG.length) (.sl 11 0 s.recv.buffer.bO.length)),.af 1 (s.send.ring.cells.map aW),.af 2 (s.send.pending.map aa.enc),.af 2 (s.send.flight.map aa.enc),.af 2 (s.send.cG.map aa.enc),.af 2 (s.recv.buffer.bO.map aA.enc),.box (bL.vc r (.sl 13 0 r.buffer.bO.length)),.af 2 (r.buffer.bO.map aA.enc)]⟩) (fun _=>True) ?_ ?_
 ·skip
  try simp only[go_sem,I]
  repeat'((first|refine ab.af (by first|assumption|(apply ac5<;>exact aP)) ?_|refine au.af (by assumption) ?_)<;>simp only[go_sem,I])
  refine dS.intro () [0,1,2,3,4,5,6,7,8,9,10,11,13,12] trivial ?_;simp only[go_sem];simp[←aQ]
 rintro _ _;refine fi b1 1 (α:=J×ae) (fun y=>⟨(.ak::.ak::.ptr 0 0 0::.ptr 1 0 0::.ptr 2 0 0::.ak::.ptr 3 0 0::.i (jT x s (f.bn))::.ptr 6 0 0::.ak::.ptr 12 0 0::.i (xc s.recv f.code f.bn)::jn 82 []),[.box (J.bE c),.box (ao.bE f),.box J.bw,.box (J.vc y.1 (.sl 4 0 y.1.streams.length) (.sl 5 0 y.1.packets.length)),.af 39 (y.1.streams.map ae.enc),.af 2 (y.1.packets.map aD.enc),.box (ae.vc y.2 (.sl 7 0 y.2.send.ring.cells.length) (.sl 8 0 y.2.send.pending.length) (.sl 9 0 y.2.send.flight.length) (.sl 10 0 y.2.send.cG.length) (.sl 11 0 y.2.recv.buffer.bO.length)),.af 1 (y.2.send.ring.cells.map aW),.af 2 (y.2.send.pending.map aa.enc),.af 2 (y.2.send.flight.map aa.enc),.af 2 (y.2.send.cG.map aa.enc),.af 2 (y.2.recv.buffer.bO.map aA.enc),.box (bL.vc r (.sl 13 0 r.buffer.bO.length)),.af 2 (r.buffer.bO.map aA.enc)]⟩) (fun y=>jT x s (f.bn)=0→y.1=lR x s (f.bn)∧y.2=lS s (f.bn)) ?_ ?_
 ·simp only[go_sem];refine ab.ij [2,3,4,6,8,10,11] (by simp only[keepT,List.elem_cons,List.elem_nil,Nat.reduceBEq,Nat.reduceAdd,cond_true,cond_false];rfl) (fc (n:=52) (rs:=[.tmp 6]) Tryz.func298 rfl Tryz.call298 b1 rfl rfl ?_);simp only[go_sem,I]
  try simp only[go_sem,I]
  repeat'((first|refine ab.intro (by first|assumption|(apply TY<;>exact aP)) ?_|refine au.intro (by assumption) ?_)<;>simp only[go_sem])
  cases hn:decide (g6 s.recv (f.bn)=0)with
  |true=>
   have jr:vP s (f.bn)=0:=cO hn;have ah:jT x s (f.bn)=0:=by unfold jT;rw[if_pos jr]
   have ai:lR x s (f.bn)=x:=by unfold lR;rw[if_pos jr]
   have aX:lS s (f.bn)=s:=by unfold lS;rw[if_pos jr]
   try simp only[go_sem]
   refine dS.intro (x,s) [0,1,2,3,4,5,6,7,8,9,10,11,12,13] (fun _=>⟨ai.symm,aX.symm⟩) ?_;simp only[go_sem,ah];simp
  |false=>
   have jr:¬vP s (f.bn)=0:=c9 hn;have ah:jT x s (f.bn)=if iB s.bX (g6 s.recv (f.bn))&&iB x.dO (g6 s.recv (f.bn))then 0 else 3:=by unfold jT;rw[if_neg jr];rfl
   have ai:lR x s (f.bn)={x with dO:=oV x.dO (g6 s.recv (f.bn))}:=by unfold lR;rw[if_neg jr];rfl
   have aX:lS s (f.bn)={s with bX:=oV s.bX (g6 s.recv (f.bn))}:=by unfold lS;rw[if_neg jr];rfl
   try simp only[go_sem]
   repeat'((first|refine ab.intro (by first|assumption|apply TZ) ?_|refine au.intro (by assumption) ?_|refine a7 ?_)<;>simp only[go_sem])
   have Nc:(bif !iB s.bX (g6 s.recv (f.bn))then true else !iB x.dO (g6 s.recv (f.bn)))=!(iB s.bX (g6 s.recv (f.bn))&&iB x.dO (g6 s.recv (f.bn))):=by
    cases iB s.bX (g6 s.recv (f.bn))<;>cases iB x.dO (g6 s.recv (f.bn))<;>rfl
   rw[Nc]
   cases hk:iB s.bX (g6 s.recv (f.bn))&&iB x.dO (g6 s.recv (f.bn))with
   |false=>
    rw[hk,if_neg (by simp)]at ah
    try simp only[go_sem,cc]
    refine dS.intro (x,s) [0,1,2,3,4,5,6,7,8,9,10,11,12,13] (fun h=>by rw[ah]at h;cases h) ?_;simp only[go_sem,ah];simp
   |true=>
    rw[hk,if_pos rfl]at ah
    try simp only[go_sem,bS]
    refine dS.intro ({x with dO:=oV x.dO (g6 s.recv (f.bn))},{s with bX:=oV s.bX (g6 s.recv (f.bn))}) [0,1,2,3,4,5,6,7,8,9,10,11,12,13] (fun _=>⟨ai.symm,aX.symm⟩) ?_;simp only[go_sem,ah];simp
 rintro⟨x2,u⟩ Fm;simp only at Fm;refine fi b1 2 (α:=Unit) (fun _=>⟨(.ak::.ak::.ptr 0 0 0::.ptr 1 0 0::.ptr 2 0 0::.ak::.ptr 3 0 0::.ak::.ptr 6 0 0::.ak::.ptr 12 0 0::jn 83 []),[.box (J.bE c),.box (ao.bE f),.box J.bw,.box (J.vc x2 (.sl 4 0 x2.streams.length) (.sl 5 0 x2.packets.length)),.af 39 (x2.streams.map ae.enc),.af 2 (x2.packets.map aD.enc),.box (ae.vc u (.sl 7 0 u.send.ring.cells.length) (.sl 8 0 u.send.pending.length) (.sl 9 0 u.send.flight.length) (.sl 10 0 u.send.cG.length) (.sl 11 0 u.recv.buffer.bO.length)),.af 1 (u.send.ring.cells.map aW),.af 2 (u.send.pending.map aa.enc),.af 2 (u.send.flight.map aa.enc),.af 2 (u.send.cG.map aa.enc),.af 2 (u.recv.buffer.bO.map aA.enc),.box (bL.vc r (.sl 13 0 r.buffer.bO.length)),.af 2 (r.buffer.bO.map aA.enc)]⟩) (fun _=>jT x s (f.bn)=0∧xc s.recv f.code f.bn=0) ?_ ?_
 ·simp only[go_sem]
  cases vQ:decide (jT x s (f.bn)≠0)with
  |true=>
   have pR:=cO vQ;rw[if_neg pR]at ag;rw[ag,if_neg pR]at bm
   try simp only[go_sem]
   repeat'(first|((first|refine ab.af (by first|assumption|(apply gb<;>exact aP)) ?_|refine au.af (by assumption) ?_|refine a7 ?_)<;>simp only[go_sem,I])|(with_reducible refine aw ?_)|fail)
   simp[bm,ag]
  |false=>
   have pR:=Decidable.not_not.1 (c9 vQ);rw[pR,if_pos rfl]at ag;simp only[go_sem]
   cases yE:decide (xc s.recv f.code f.bn≠0)with
   |true=>
    have yF:=cO yE;rw[ag,if_neg yF]at bm
    try simp only[go_sem]
    repeat'(first|((first|refine ab.af (by first|assumption|(apply gb<;>exact aP)) ?_|refine au.af (by assumption) ?_)<;>simp only[go_sem,I])|(with_reducible refine aw ?_)|fail)
    simp[bm,ag]
   |false=>
    have yF:=Decidable.not_not.1 (c9 yE);simp only[go_sem];refine dS.intro () [0,1,2,3,4,5,6,7,8,9,10,11,12,13] (by first|exact⟨pR,yF⟩|simp[pR,yF]) ?_;simp only[go_sem];simp
 rintro _ ⟨vQ,yE⟩;obtain⟨zC,hu⟩:=Fm vQ;rw[vQ,if_pos rfl,yE]at ag;rw[ag,if_pos rfl]at bm;have ac6:u.recv.state=s.recv.state:=by rw[hu,(IM s f.bn).2.1]
 rw[←ac6]at hB;rw[←hu]at aT dk;rw[←zC]at dk;have ac7:(bif decide (r.state=4)then decide (u.recv.state≠4)else false)=Bp x f:=by rw[hB];cases decide (r.state=4)<;>rfl
 generalize Bp x f=B at *;refine fi b1 1 (α:=J×ae) (fun y=>⟨(.ak::.ak::.ptr 0 0 0::.ptr 1 0 0::.ptr 2 0 0::.ak::.ptr 3 0 0::.ak::.ptr 6 0 0::.ak::.ptr 12 0 0::jn 83 []),[.box (J.bE c),.box (ao.bE f),.box J.bw,.box (J.vc y.1 (.sl 4 0 y.1.streams.length) (.sl 5 0 y.1.packets.length)),.af 39 (y.1.streams.map ae.enc),.af 2 (y.1.packets.map aD.enc),.box (ae.vc y.2 (.sl 7 0 y.2.send.ring.cells.length) (.sl 8 0 y.2.send.pending.length) (.sl 9 0 y.2.send.flight.length) (.sl 10 0 y.2.send.cG.length) (.sl 11 0 y.2.recv.buffer.bO.length)),.af 1 (y.2.send.ring.cells.map aW),.af 2 (y.2.send.pending.map aa.enc),.af 2 (y.2.send.flight.map aa.enc),.af 2 (y.2.send.cG.map aa.enc),.af 2 (y.2.recv.buffer.bO.map aA.enc),.box (bL.vc r (.sl 13 0 r.buffer.bO.length)),.af 2 (r.buffer.bO.map aA.enc)]⟩) (fun y=>y.1=yJ x f∧g5 y.2 r=xb x f) ?_ ?_
 ·skip
  try simp only[go_sem]
  repeat'(refine a7 ?_<;>simp only[go_sem])
  rw[ac7]
  cases B with
  |false=>
   rw[if_neg (by simp)]at aT dk;simp only[go_sem];refine dS.intro (x2,u) [0,1,2,3,4,5,6,7,8,9,10,11,12,13] ⟨dk.symm,aT.symm⟩ ?_;simp only[go_sem];simp
  |true=>
   rw[if_pos rfl]at aT dk;simp only[go_sem];refine ab.ij [2,3,4,6,8,10] (by simp only[keepT,List.elem_cons,List.elem_nil,Nat.reduceBEq,Nat.reduceAdd,cond_true,cond_false];rfl) (fc (n:=45) (rs:=[]) Tryz.func235 rfl Tryz.call235 b1 rfl rfl ?_);simp only[go_sem]
   try simp only[go_sem,I]
   repeat'(first|((first|refine ab.intro (by first|assumption|apply T4) ?_|refine au.intro (by assumption) ?_)<;>simp only[go_sem])|(with_reducible refine aw ?_)|fail)
   refine dS.intro (uS x2 u f.bn,w_ u f.bn) [0,1,2,3,4,5,6,7,8,9,10,11,12,13] ⟨dk.symm,aT.symm⟩ ?_;simp only[go_sem,uS,w_,IL,eb];simp
 rintro⟨y,v⟩ ⟨hy,Ni⟩;simp only at hy Ni;have Fo:y.streams=x.streams:=by rw[hy];exact Fw
 have Fp:y.streams.length≤1000:=by rw[Fo];exact j2
 have Fq:∀q∈y.streams,eO q:=by rw[Fo];exact kj
 rw[←hy,←Ni]at bm;rw[←Ni]at pk;obtain⟨t,ht⟩:∃t,t=g5 v r:=⟨_,rfl⟩;rw[←ht]at bm pk;refine fi b1 1 (α:=Unit) (fun _=>⟨(jn 4 (.ptr 2 0 0::.ak::.ptr 3 0 0::.ak::.ptr 6 0 0::jn 85 [])),[.box (J.bE c),.box (ao.bE f),.box J.bw,.box (J.vc y (.sl 4 0 y.streams.length) (.sl 5 0 y.packets.length)),.af 39 (y.streams.map ae.enc),.af 2 (y.packets.map aD.enc),.box (ae.vc t (.sl 7 0 t.send.ring.cells.length) (.sl 8 0 t.send.pending.length) (.sl 9 0 t.send.flight.length) (.sl 10 0 t.send.cG.length) (.sl 11 0 t.recv.buffer.bO.length)),.af 1 (t.send.ring.cells.map aW),.af 2 (t.send.pending.map aa.enc),.af 2 (t.send.flight.map aa.enc),.af 2 (t.send.cG.map aa.enc),.af 2 (t.recv.buffer.bO.map aA.enc)]⟩) (fun _=>True) ?_ ?_
 ·simp only[go_sem];refine dS.intro () [0,1,2,3,4,5,6,7,8,9,10,13] trivial ?_;simp only[go_sem,ht,g5];simp
 rintro _ _;refine fi b1 1 (α:=Unit) (fun _=>⟨(jn 4 (.ptr 2 0 0::.ak::.ptr 3 0 0::jn 87 [])),[.box (J.bE c),.box (ao.bE f),.box J.bw,.box (J.vc ((eE y t)) (.sl 4 0 ((eE y t)).streams.length) (.sl 5 0 ((eE y t)).packets.length)),.af 39 (((eE y t)).streams.map ae.enc),.af 2 (((eE y t)).packets.map aD.enc)]⟩) (fun _=>True) ?_ ?_
 ·simp only[go_sem,I];refine ab.ij [4,6] (by simp only[keepT,List.elem_cons,List.elem_nil,Nat.reduceBEq,Nat.reduceAdd,cond_true,cond_false];rfl) (yG y t (.af 2 (y.packets.map aD.enc)) (fun _=>trivial) Fp Fq pk [.box (J.bE c),.box (ao.bE f),.box J.bw] _ (by simp[roks,rok,bg,vok]) (by simp[bg,vok]) _ ?_);simp only[eM,eN,fL,go_sem];have oy:(eE y t).packets=y.packets:=(Au y t).2;refine dS.intro () [0,1,2,3,4,5] trivial ?_;simp only[go_sem];simp[oy]
 rintro _ _;refine ng b1 ?_
 try simp only[go_sem,I]
 repeat'(first|(refine a7 ?_<;>simp only[go_sem,I])|(with_reducible refine aw ?_)|fail)
 simp[bm,ag]
set_option maxRecDepth 100000
theorem acQ(c:J)(f:ao)(m:Nat)(hv:cl m c)(hm:m≤19):aJ 302 [.agg (J.enc c),.agg (ao.enc f)] [.agg (J.enc ((C5 c f))),.one (.int .i64 (Bo c f))]:=by
 refine aN 62 Tryz.func302 Tryz.call302 [.cell 4 37,.tmp 5] ?_;intro ok;clear ok;have hz:=hv.sz (by omega);have i':=iE hz;have uP:=w6 hv f.stream;have ma:=uP.sz (by omega);have Na:=DW c f.stream hz;have cT:=mU (bI c f.stream) f.stream ma;rw[show(strOf (bI c f.stream).streams f.stream).1=aS (bI c f.stream) f.stream from rfl]at cT;have y':eO (aS (bI c f.stream) f.stream):=nO ma.2.1 f.stream;have cH:eO (C6 (bI c f.stream) f):=y';have hK:=l3 (bI c f.stream).streams (C6 (bI c f.stream) f) (by have:=ma.1;omega) ma.2.1 cH;have bm:C5 c f=if Bo c f=0 then(if f.kind=17 then lH (bI c f.stream) (C6 (bI c f.stream) f)else bI c f.stream)else c:=rfl
 have ag:Bo c f=if C7 c f then fu c f.stream else 5:=rfl
 have aT:C6 (bI c f.stream) f={aS (bI c f.stream) f.stream with dL:=w7 (aS (bI c f.stream) f.stream).dL f.aR}:=rfl;rw[aT]at hK bm;generalize aS (bI c f.stream) f.stream=s at *;generalize bI c f.stream=x at *;obtain⟨dy,dT,c2,d'⟩:=y'
 try simp only[go_sem]
 repeat'((first|refine ab.af (by first|assumption|apply Nd) ?_|refine au.af (by assumption) ?_)<;>simp only[go_sem])
 cases Fs:decide (f.kind=21)with
 |true=>
  have Nf:=cO Fs;have hk:C7 c f=fC c.bV f.stream:=by unfold C7;exact if_pos Nf
  rw[hk]at ag;rw[if_neg (show ¬f.kind=17 by omega)]at bm;have nE:decide (f.kind=17)=false:=bo (by omega)
  try simp only[go_sem]
  repeat'((first|refine ab.af (by first|assumption|apply II) ?_|refine au.af (by assumption) ?_)<;>simp only[go_sem])
  cases j9:fC c.bV f.stream with
  |false=>
   rw[j9,if_neg (by simp)]at ag;rw[ag,if_neg (by decide)]at bm
   try simp only[go_sem,cc]
   repeat'(first|((first|refine ab.af (by first|assumption|(apply gb<;>exact aP)) ?_|refine au.af (by assumption) ?_)<;>simp only[go_sem,I])|(with_reducible refine aw ?_)|fail)
   simp[bm,ag]
  |true=>
   rw[j9,if_pos rfl]at ag
   try simp only[go_sem,bS]
   repeat'((first|refine ab.af (by assumption) ?_|refine au.af (by assumption) ?_)<;>simp only[go_sem,I])
   cases kq:decide (fu c f.stream≠0)with
   |true=>
    have iA:=cO kq;rw[ag,if_neg iA]at bm
    try simp only[go_sem]
    repeat'(first|((first|refine ab.af (by first|assumption|(apply gb<;>exact aP)) ?_|refine au.af (by assumption) ?_)<;>simp only[go_sem,I])|(with_reducible refine aw ?_)|fail)
    simp[bm,ag]
   |false=>
    have iA:fu c f.stream=0:=Decidable.not_not.1 (c9 kq);rw[iA]at ag;rw[ag,if_pos rfl]at bm
    try simp only[go_sem,I,nE]
    repeat'(first|(with_reducible refine aw ?_)|fail)
    simp[bm,ag]
 |false=>
  have Nf:=c9 Fs;have hk:C7 c f=eU c.bV f.stream:=by unfold C7;exact if_neg Nf
  rw[hk]at ag;simp only[go_sem]
  try simp only[go_sem,I]
  repeat'((first|refine ab.af (by assumption) ?_|refine au.af (by assumption) ?_)<;>simp only[go_sem,I])
  cases j9:eU c.bV f.stream with
  |false=>
   rw[j9,if_neg (by simp)]at ag;rw[ag,if_neg (by decide)]at bm
   try simp only[go_sem,cc]
   repeat'(first|((first|refine ab.af (by first|assumption|(apply gb<;>exact aP)) ?_|refine au.af (by assumption) ?_)<;>simp only[go_sem,I])|(with_reducible refine aw ?_)|fail)
   simp[bm,ag]
  |true=>
   rw[j9,if_pos rfl]at ag
   try simp only[go_sem,bS]
   repeat'((first|refine ab.af (by assumption) ?_|refine au.af (by assumption) ?_)<;>simp only[go_sem,I])
   cases kq:decide (fu c f.stream≠0)with
   |true=>
    have iA:=cO kq;rw[ag,if_neg iA]at bm
    try simp only[go_sem]
    repeat'(first|((first|refine ab.af (by first|assumption|(apply gb<;>exact aP)) ?_|refine au.af (by assumption) ?_)<;>simp only[go_sem,I])|(with_reducible refine aw ?_)|fail)
    simp[bm,ag]
   |false=>
    have iA:fu c f.stream=0:=Decidable.not_not.1 (c9 kq);rw[iA]at ag;rw[ag,if_pos rfl]at bm;simp only[go_sem]
    cases nE:decide (f.kind=17)with
    |true=>
     rw[if_pos (cO nE)]at bm
     try simp only[go_sem,I]
     repeat'(first|((first|refine ab.af (by first|assumption|apply T0) ?_|refine au.af (by assumption) ?_)<;>simp only[go_sem,I])|(with_reducible refine aw ?_)|fail)
     simp[bm,ag,lH]
    |false=>
     rw[if_neg (c9 nE)]at bm
     try simp only[go_sem,I]
     repeat'(first|(with_reducible refine aw ?_)|fail)
     simp[bm,ag]
theorem acR(c:J)(f:ao):(bif !en c then true else !fM f)=!Ft c f:=by
 unfold Ft
 cases en c<;>cases fM f<;>rfl
theorem acS(c:J)(f:ao)(m:Nat)(hv:cl m c)(hm:m≤19):aJ 247 [.agg (J.enc c),.agg (ao.enc f)] [.agg (J.enc ((oW c f))),.one (.int .i64 (vR c f))]:=by
 refine aN 64 Tryz.func247 Tryz.call247 [.cell 4 37,.tmp 5] ?_;intro ok;clear ok;have hz:=hv.sz (by omega);have i':=iE hz;have h4:=acQ c f m hv hm;have bM:=acR c f
 try simp only[go_sem]
 repeat'((first|refine ab.af (by first|assumption|(apply gb<;>exact aP)|(apply vg<;>exact aP)) ?_|refine au.af (by first|assumption|apply AN) ?_|refine a7 ?_)<;>simp only[go_sem,I])
 rw[bM]
 cases hg:Ft c f with
 |false=>
  try simp only[go_sem,I,cc]
  repeat'(first|(with_reducible refine aw ?_)|fail)
  simp[oW,vR,hg]
 |true=>
  simp only[go_sem,bS]
  cases j5:decide (f.kind=16)with
  |true=>
   have h':=cO j5
   try simp only[go_sem]
   repeat'(first|((first|refine ab.af (by first|assumption|apply T0) ?_|refine au.af (by assumption) ?_)<;>simp only[go_sem,I])|(with_reducible refine aw ?_)|fail)
   simp[oW,vR,hg,h']
  |false=>
   have acT:=c9 j5;simp only[go_sem]
   cases h5:decide (f.kind=18)with
   |true=>
    have h':=cO h5;simp only[go_sem]
    cases hu:f.ey with
    |true=>
     try simp only[go_sem]
     repeat'(first|((first|refine ab.af (by first|assumption|apply T1) ?_|refine au.af (by assumption) ?_)<;>simp only[go_sem,I])|(with_reducible refine aw ?_)|fail)
     simp[oW,vR,hg,h',hu]
    |false=>
     try simp only[go_sem]
     repeat'(first|((first|refine ab.af (by first|assumption|apply T1) ?_|refine au.af (by assumption) ?_)<;>simp only[go_sem,I])|(with_reducible refine aw ?_)|fail)
     simp[oW,vR,hg,h',hu]
   |false=>
    have acU:=c9 h5;simp only[go_sem]
    cases ns:decide (f.kind=20)with
    |true=>
     have h':=cO ns
     try simp only[go_sem,I]
     repeat'(first|(with_reducible refine aw ?_)|fail)
     simp[oW,vR,hg,h']
    |false=>
     have acV:=c9 ns;simp only[go_sem]
     cases vq:decide (f.kind=22)with
     |true=>
      have h':=cO vq
      try simp only[go_sem,I]
      repeat'(first|(with_reducible refine aw ?_)|fail)
      simp[oW,vR,hg,h']
     |false=>
      have acW:=c9 vq;simp only[go_sem]
      cases nE:decide (f.kind=17)with
      |true=>
       have h':=cO nE
       try simp only[go_sem]
       repeat'(first|((first|refine ab.af (by assumption) ?_|refine au.af (by assumption) ?_)<;>simp only[go_sem,I])|(with_reducible refine aw ?_)|fail)
       simp[oW,vR,hg,h']
      |false=>
       have acX:=c9 nE;simp only[go_sem]
       cases Fs:decide (f.kind=21)with
       |true=>
        have h':=cO Fs
        try simp only[go_sem]
        repeat'(first|((first|refine ab.af (by assumption) ?_|refine au.af (by assumption) ?_)<;>simp only[go_sem,I])|(with_reducible refine aw ?_)|fail)
        simp[oW,vR,hg,h']
       |false=>
        have acY:=c9 Fs
        try simp only[go_sem,I]
        repeat'(first|(with_reducible refine aw ?_)|fail)
        simp[oW,vR,hg,acT,acX,acU,acV,acY,acW]
theorem acZ(c:J)(f:ao)(m:Nat)(hv:cl m c)(hm:m≤19)(hd:f.data.length≤8)(av:0≤f.offset∧f.offset≤900):aJ 181 [.agg (J.enc c),.agg (ao.enc f)] [.agg (J.enc ((wq c f))),.one (.int .i64 (C8 c f))]:=by
 refine aN 44 Tryz.func181 Tryz.call181 [.cell 4 37,.tmp 5] ?_;intro ok;clear ok;have hz:=hv.sz (by omega);have i':=iE hz;have cm:=acO c f m hv hm hd av;have cB:=ac0 c f m hv hm;have cx:=ac1 c f m hv hm;have e0:=acS c f m hv hm
 try simp only[go_sem]
 repeat'((first|refine ab.af (by first|assumption|(apply gb<;>exact aP)) ?_|refine au.af (by assumption) ?_)<;>simp only[go_sem,I])
 cases fY:decide (f.kind=8)with
 |true=>
  have h':=cO fY
  try simp only[go_sem]
  repeat'(first|((first|refine ab.af (by assumption) ?_|refine au.af (by assumption) ?_)<;>simp only[go_sem,I])|(with_reducible refine aw ?_)|fail)
  simp[wq,C8,h']
 |false=>
  have w8:=c9 fY;simp only[go_sem]
  cases aE:decide (f.kind=4)with
  |true=>
   have h':=cO aE
   try simp only[go_sem]
   repeat'(first|((first|refine ab.af (by assumption) ?_|refine au.af (by assumption) ?_)<;>simp only[go_sem,I])|(with_reducible refine aw ?_)|fail)
   simp[wq,C8,h']
  |false=>
   have pH:=c9 aE;simp only[go_sem]
   cases b3:decide (f.kind=5)with
   |true=>
    have h':=cO b3
    try simp only[go_sem]
    repeat'(first|((first|refine ab.af (by assumption) ?_|refine au.af (by assumption) ?_)<;>simp only[go_sem,I])|(with_reducible refine aw ?_)|fail)
    simp[wq,C8,h']
   |false=>
    have IK:=c9 b3
    try simp only[go_sem]
    repeat'(first|((first|refine ab.af (by assumption) ?_|refine au.af (by assumption) ?_)<;>simp only[go_sem,I])|(with_reducible refine aw ?_)|fail)
    simp[wq,C8,w8,pH,IK]
set_option maxRecDepth 100000
def T2:List (List bH):=cP 13 [1564799,1574638,1574632,1574614,1574560,1515349,1514863,1513405,1509031,1348285,1564677,1436859,1062882]
attribute [go_sem] T2
theorem ac2(c:J)(id:Int):(bif bif !kb c then true else !(strOf c.streams id).2 then true else !(aS c id).fC)=!uR c id:=by
 unfold uR
 cases kb c<;>cases(strOf c.streams id).2<;>cases(aS c id).fC<;>rfl
theorem ac3(c:J)(id k:Int)(m:Nat)(hv:cl m c)(hm:m≤20):aJ 175 [.agg (J.enc c),.one (.int .i64 id),.one (.int .i64 k)] [.one (.str (Fu c id k)),.one (.bool (Fv c id k)),.agg (J.enc ((kH c id k)))]:=by
 refine ub 63 Tryz.func175 Tryz.call175 [.tmp 6,.tmp 7,.cell 8 37] ?_;intro ok;clear ok;have hz:=hv.sz hm;have i':=iE hz;have j2:c.streams.length≤1000:=by have:=hz.1;omega
 have kj:=hz.2.1;have bm:kH c id k=if uR c id then eE (yH c id k) (w9 c id k)else c:=rfl
 have cR:Fu c id k=if uR c id then vS (aS c id).recv k else []:=rfl
 have ag:Fv c id k=(uR c id&&(decide ((mI c id k).state=3)||decide ((mI c id k).state=5))):=rfl;have aT:w9 c id k=if decide ((mI c id k).state<4)then w_ (g5 (aS c id) (mI c id k)) (mI c id k).buffer.next else g5 (aS c id) (mI c id k):=rfl
 have dk:yH c id k=if decide ((mI c id k).state<4)then uS c (g5 (aS c id) (mI c id k)) (mI c id k).buffer.next else c:=rfl
 have bM:=ac2 c id;have pk:eO (w9 c id k):=(T3 hv id k).sz hm;have Fw:(yH c id k).streams=c.streams:=(Ng c id k).1;obtain⟨dy,dT,c2,d'⟩:=nO hz.2.1 id;have c2:∀fA∈(strOf c.streams id).1.recv.buffer.bO,fA.data.length≤1048576:=fun fA hc=>by have:=c2 fA hc;omega
 have cT:=mU c id hz;have aQ:mI c id k=xa (aS c id).recv k:=rfl;rw[show(strOf c.streams id).1=aS c id from rfl]at dy dT c2 d' cT;generalize mI c id k=r at *;generalize aS c id=s at *;refine fi b1 6 (α:=Unit) (fun _=>⟨(jn 6 (.d (.str [])::.d (.bool false)::.ptr 1 0 0::.ptr 3 0 0::.ptr 6 0 0::.ak::.d (.str (vS s.recv k))::.ptr 2 0 0::jn 49 [])),[.box (J.bE c),.box J.bw,.box (bL.vc r (.ak)),.box (J.vc c (.sl 4 0 c.streams.length) (.sl 5 0 c.packets.length)),.af 39 (c.streams.map ae.enc),.af 2 (c.packets.map aD.enc),.box (ae.vc (g5 s r) (.sl 7 0 (g5 s r).send.ring.cells.length) (.sl 8 0 (g5 s r).send.pending.length) (.sl 9 0 (g5 s r).send.flight.length) (.sl 10 0 (g5 s r).send.cG.length) (.sl 11 0 (g5 s r).recv.buffer.bO.length)),.af 1 ((g5 s r).send.ring.cells.map aW),.af 2 ((g5 s r).send.pending.map aa.enc),.af 2 ((g5 s r).send.flight.map aa.enc),.af 2 ((g5 s r).send.cG.map aa.enc),.af 2 ((g5 s r).recv.buffer.bO.map aA.enc)]⟩) (fun _=>uR c id=true) ?_ ?_
 ·skip
  try simp only[go_sem]
  repeat'(first|((first|refine ab.af (by first|assumption|(apply gb<;>exact aP)|(apply v7<;>exact aP)) ?_|refine au.af (by assumption) ?_|refine a7 ?_|refine e8 ?_)<;>simp only[go_sem,I])|(with_reducible refine aw ?_)|fail)
  rw[bM]
  cases hg:uR c id with
  |false=>
   rw[hg]at bm cR ag
   try simp only[go_sem,cc]
   repeat'(first|(refine ba [[.post,.dv,.dv,.post],[.dv,.post,.post,.post],[.dv,.pre,.post,.post],[.pre,.pre,.pre,.post]] (by kernel_rfl) (by rfl) ?_<;>simp only[go_sem,I])|(with_reducible refine aw ?_)|fail)
   simp[bm,cR,ag]
  |true=>
   try simp only[go_sem,I,bS]
   repeat'((first|refine ab.af (by first|assumption|(apply ac4<;>exact aP)) ?_|refine au.af (by assumption) ?_)<;>simp only[go_sem,I])
   refine dS.intro () [0,1,12,4,2,3,10,5,6,7,8,11] (by first|exact hg|trivial) ?_;simp only[go_sem,g5];simp[←aQ]
 rintro _ hg;rw[hg,if_pos rfl]at bm cR;rw[hg,Bool.true_and]at ag;refine fi b1 1 (α:=J×ae) (fun y=>⟨(jn 6 (.d (.str [])::.d (.bool false)::.ptr 1 0 0::.ptr 3 0 0::.ptr 6 0 0::.ak::.d (.str (vS s.recv k))::.ptr 2 0 0::jn 49 [])),[.box (J.bE c),.box J.bw,.box (bL.vc r (.ak)),.box (J.vc y.1 (.sl 4 0 y.1.streams.length) (.sl 5 0 y.1.packets.length)),.af 39 (y.1.streams.map ae.enc),.af 2 (y.1.packets.map aD.enc),.box (ae.vc y.2 (.sl 7 0 y.2.send.ring.cells.length) (.sl 8 0 y.2.send.pending.length) (.sl 9 0 y.2.send.flight.length) (.sl 10 0 y.2.send.cG.length) (.sl 11 0 y.2.recv.buffer.bO.length)),.af 1 (y.2.send.ring.cells.map aW),.af 2 (y.2.send.pending.map aa.enc),.af 2 (y.2.send.flight.map aa.enc),.af 2 (y.2.send.cG.map aa.enc),.af 2 (y.2.recv.buffer.bO.map aA.enc)]⟩) (fun y=>y.1=yH c id k∧y.2=w9 c id k) ?_ ?_
 ·simp only[go_sem,g5]
  cases hB:decide (r.state<4)with
  |false=>
   rw[hB,if_neg (by simp)]at aT dk;simp only[go_sem];refine dS.intro (c,g5 s r) [0,1,2,3,4,5,6,7,8,9,10,11] ⟨dk.symm,aT.symm⟩ ?_;simp only[go_sem,g5];simp
  |true=>
   rw[hB,if_pos rfl]at aT dk;simp only[go_sem];refine ab.ij [6,7,8,9,10,12,13] (by simp only[keepT,List.elem_cons,List.elem_nil,Nat.reduceBEq,Nat.reduceAdd,cond_true,cond_false];rfl) (fc (n:=45) (rs:=[]) Tryz.func235 rfl Tryz.call235 b1 rfl rfl ?_);simp only[go_sem]
   try simp only[go_sem,I]
   repeat'((first|refine ab.intro (by first|assumption|apply T4) ?_|refine au.intro (by assumption) ?_)<;>simp only[go_sem])
   refine dS.intro (uS c (g5 s r) r.buffer.next,w_ (g5 s r) r.buffer.next) [0,1,2,3,4,5,6,7,8,9,10,11] ⟨dk.symm,aT.symm⟩ ?_;simp only[go_sem,g5,uS,w_,IL,eb];simp
 rintro⟨x,t⟩ ⟨hx,ht⟩;simp only at hx ht;rw[←hx,←ht]at bm;rw[←hx]at Fw;rw[←ht]at pk;refine fi b1 1 (α:=Unit) (fun _=>⟨(jn 6 (.d (.str [])::.d (.bool false)::.ptr 1 0 0::.ptr 3 0 0::.ak::.ak::.d (.str (vS s.recv k))::.ptr 2 0 0::jn 49 [])),[.box (J.bE c),.box J.bw,.box (bL.vc r (.ak)),.box (J.vc ((eE x t)) (.sl 4 0 ((eE x t)).streams.length) (.sl 5 0 ((eE x t)).packets.length)),.af 39 (((eE x t)).streams.map ae.enc),.af 2 (((eE x t)).packets.map aD.enc)]⟩) (fun _=>True) ?_ ?_
 ·simp only[go_sem,I];refine ab.ij [6,7,8,9,12,13] (by simp only[keepT,List.elem_cons,List.elem_nil,Nat.reduceBEq,Nat.reduceAdd,cond_true,cond_false];rfl) (yG x t (.af 2 (x.packets.map aD.enc)) (fun _=>trivial) (by rw[Fw];exact j2) (by rw[Fw];exact kj) pk [.box (J.bE c),.box J.bw,.box (bL.vc r (.ak))] _ (by simp[roks,rok,bg,vok]) (by simp[bg,vok]) _ ?_);simp only[eM,eN,fL,go_sem];have oy:(eE x t).packets=x.packets:=(Au x t).2;refine dS.intro () [0,1,2,3,4,5] trivial ?_;simp only[go_sem];simp[oy]
 rintro _ _;refine ng b1 ?_
 try simp only[go_sem]
 repeat'(first|((first|refine a7 ?_|refine e8 ?_|refine ba T2 (by kernel_rfl) (by rfl) ?_)<;>simp only[go_sem,I])|(with_reducible refine aw ?_)|fail)
 simp[bm,cR,ag]
set_option maxRecDepth 100000
theorem Hm{P:Program}{kv:List V}{c:Operand}{a b:Code}{σ:St}{K:St→Prop}{bY:List (Nat×(St→Prop))}{cE:St→Prop}(h:σ.ev c=.d (.bool false))(hg:gL P kv b σ K bY cE):gL P kv (.cond c a b) σ K bY cE:=by
 intro B w0 kp Q u w bu b6 dk aQ r;obtain⟨aK,φ,r0,b4⟩:=r;have hc:=yb r0 c;rw[h]at hc;exact wp_cond_false (mY hc) (hg B w0 kp Q u w bu b6 dk aQ ⟨aK,φ,r0,b4⟩)
theorem Y5{P:Program}{kv:List V}{c:Operand}{a b:Code}{σ:St}{K:St→Prop}{bY:List (Nat×(St→Prop))}{cE:St→Prop}(h:σ.ev c=.d (.bool true))(hg:gL P kv a σ K bY cE):gL P kv (.cond c a b) σ K bY cE:=by
 intro B w0 kp Q u w bu b6 dk aQ r;obtain⟨aK,φ,r0,b4⟩:=r;have hc:=yb r0 c;rw[h]at hc;exact wp_cond_true (mY hc) (hg B w0 kp Q u w bu b6 dk aQ ⟨aK,φ,r0,b4⟩)
theorem Y6{P:Program}{kv:List V}{a b:Code}{σ:St}{K K2:St→Prop}{bY:List (Nat×(St→Prop))}{cE:St→Prop}(h1:gL P kv a σ K2 bY cE)(h2:∀σ',K2 σ'→gL P kv b σ' K bY cE):gL P kv (.seq a b) σ K bY cE:=by
 intro B w0 kp Q u w bu b6 dk aQ r;exact wp_seq (h1 B w0 kp _ u w bu (fun σ' a' w' h' c4=>h2 σ' h' B w0 kp Q a' w' bu b6 dk aQ c4) (fun id σ' a' w' h' c4=>dk id σ' a' w' h' c4) (fun σ' a' w' h' c4=>aQ σ' a' w' h' c4) r)
def vp(c:J)(s:ae)(k:Int):ae:={mZ c s k with send:=s.send,recv:=s.recv}
theorem Y7(c:J)(s:ae)(k:Int):mZ c s k=vp c s k:=by
 obtain⟨h1,h2,_⟩:=Hn c s k;unfold vp;rw[←h1,←h2]
def Lj:List (Nat×List Bool):=[(10,[false,false,false,false,false,false,false,false,false,false]),(9,[true,false,false,false,false,false,false,false,false,false]),(9,[false,false,true,false,false,false,false,false,false,false]),(9,[false,false,false,true,false,false,false,false,false,false]),(9,[false,false,false,false,true,false,false,false,false,false]),(8,[true,true,false,false,false,false,false,false,false,false]),(8,[true,false,true,false,false,false,false,false,false,false]),(8,[true,false,false,true,false,false,false,false,false,false]),(8,[true,false,false,false,true,false,false,false,false,false]),(8,[false,false,true,true,false,false,false,false,false,false]),(8,[false,false,true,false,true,false,false,false,false,false]),(8,[false,false,false,true,true,false,false,false,false,false]),(8,[false,false,false,false,true,true,false,false,false,false]),(7,[true,true,true,false,false,false,false,false,false,false]),(7,[true,true,false,true,false,false,false,false,false,false]),(7,[true,true,false,false,true,false,false,false,false,false]),(7,[true,false,true,true,false,false,false,false,false,false]),(7,[true,false,true,false,true,false,false,false,false,false]),(7,[true,false,false,true,true,false,false,false,false,false]),(7,[true,false,false,false,true,true,false,false,false,false]),(7,[false,false,true,true,true,false,false,false,false,false]),(7,[false,false,true,false,true,true,false,false,false,false]),(7,[false,false,false,true,true,true,false,false,false,false]),(6,[true,true,true,true,false,false,false,false,false,false]),(6,[true,true,true,false,true,false,false,false,false,false]),(6,[true,true,false,true,true,false,false,false,false,false]),(6,[true,true,false,false,true,true,false,false,false,false]),(6,[true,false,true,true,true,false,false,false,false,false]),(6,[true,false,true,false,true,true,false,false,false,false]),(6,[true,false,false,true,true,true,false,false,false,false]),(6,[false,false,true,true,true,true,false,false,false,false]),(5,[true,true,true,true,true,false,false,false,false,false]),(5,[true,true,true,false,true,true,false,false,false,false]),(5,[true,true,false,true,true,true,false,false,false,false]),(5,[true,false,true,true,true,true,false,false,false,false]),(5,[false,false,true,true,true,true,true,false,false,false]),(4,[true,true,true,true,true,true,false,false,false,false]),(4,[true,false,true,true,true,true,true,false,false,false]),(3,[true,true,true,true,true,true,true,false,false,false]),(2,[true,true,true,true,true,true,true,true,false,false]),(1,[true,true,true,true,true,true,true,true,true,false]),(0,[true,true,true,true,true,true,true,true,true,true])]
def AV(c:J)(f:ao)(s e:ae)(S:List Bool):St:=⟨(.ak::.ak::.ptr 0 0 0::.ptr 1 0 0::.ptr 2 0 0::.ptr 5 0 0::jn 6 (.ptr 11 0 0::jn 17 ((ay S 0 (.ptr 5 0 17))::(ay S 1 (.sl 3 0 c.streams.length))::(ay S 2 (.agg (J.bE c)))::(ay S 3 (.agg (ae.vc s (.sl 6 0 s.send.ring.cells.length) (.sl 7 0 s.send.pending.length) (.sl 8 0 s.send.flight.length) (.sl 9 0 s.send.cG.length) (.sl 10 0 s.recv.buffer.bO.length))))::(ay S 4 (.ptr 1 0 0))::(ay S 5 (.i f.kind))::(ay S 6 (.agg [.i e.id,.i s.send.state,.i s.send.ring.size,.i s.send.ring.base,.i s.send.ring.cv,.sl 6 0 s.send.ring.cells.length,.sl 7 0 s.send.pending.length,.sl 8 0 s.send.flight.length,.sl 9 0 s.send.cG.length,.i s.send.bn,.i s.send.a2,.i s.send.sent,.i s.send.code,.i e.dL.aR,.i e.dL.used,.i e.dL.blocked,.i e.dL.told,.i s.recv.state,.i s.recv.buffer.next,.sl 10 0 s.recv.buffer.bO.length,.i s.recv.bn,.i s.recv.fO,.i s.recv.code,.i e.bX.size,.i e.bX.most,.i e.bX.aR,.i e.bX.seen,.i e.bX.read,.i e.bX.jP,.i e.priority.iw,.d (.bool e.priority.hR),.d (.bool e.eU),.d (.bool e.fC),.d (.bool e.iJ),.d (.bool e.iM),.d (.bool e.mx),.d (.bool e.lG),.i e.nr,.d (.bool e.counted)]))::(ay S 7 (.sl 12 0 (putS c.streams e).length))::(ay S 8 (.ptr 5 0 17))::jn 47 []))),[.box (J.bE c),.box (ao.bE f),.box J.bw,.af 39 (c.streams.map ae.enc),.af 2 (c.packets.map aD.enc),.box (J.vc c ((bif S.getD 9 false then .sl 12 0 (putS c.streams e).length else .sl 3 0 c.streams.length)) (.sl 4 0 c.packets.length)),.af 1 (s.send.ring.cells.map aW),.af 2 (s.send.pending.map aa.enc),.af 2 (s.send.flight.map aa.enc),.af 2 (s.send.cG.map aa.enc),.af 2 (s.recv.buffer.bO.map aA.enc),.box (ae.vc s (.sl 6 0 s.send.ring.cells.length) (.sl 7 0 s.send.pending.length) (.sl 8 0 s.send.flight.length) (.sl 9 0 s.send.cG.length) (.sl 10 0 s.recv.buffer.bO.length))]++(bif S.getD 7 false then [.af 39 ((putS c.streams e).map ae.enc)]else [])⟩
theorem Y8(c:J)(f:ao)(s:ae)(k:Int)(hs:eO s)(kv:List V)(bu:bg 12 kv)(K:V→List H→Prop)
  (hk:∀e,e=vp c s k→K (.agg [.i e.id,.i s.send.state,.i s.send.ring.size,.i s.send.ring.base,.i s.send.ring.cv,.sl 6 0 s.send.ring.cells.length,.sl 7 0 s.send.pending.length,.sl 8 0 s.send.flight.length,.sl 9 0 s.send.cG.length,.i s.send.bn,.i s.send.a2,.i s.send.sent,.i s.send.code,.i e.dL.aR,.i e.dL.used,.i e.dL.blocked,.i e.dL.told,.i s.recv.state,.i s.recv.buffer.next,.sl 10 0 s.recv.buffer.bO.length,.i s.recv.bn,.i s.recv.fO,.i s.recv.code,.i e.bX.size,.i e.bX.most,.i e.bX.aR,.i e.bX.seen,.i e.bX.read,.i e.bX.jP,.i e.priority.iw,.d (.bool e.priority.hR),.d (.bool e.eU),.d (.bool e.fC),.d (.bool e.iJ),.d (.bool e.iM),.d (.bool e.mx),.d (.bool e.lG),.i e.nr,.d (.bool e.counted)]) [.box (J.bE c),.box (ao.bE f),.box J.bw,.af 39 (c.streams.map ae.enc),.af 2 (c.packets.map aD.enc),.box (J.vc c (.sl 3 0 c.streams.length) (.sl 4 0 c.packets.length)),.af 1 (s.send.ring.cells.map aW),.af 2 (s.send.pending.map aa.enc),.af 2 (s.send.flight.map aa.enc),.af 2 (s.send.cG.map aa.enc),.af 2 (s.recv.buffer.bO.map aA.enc),.box (ae.vc s (.sl 6 0 s.send.ring.cells.length) (.sl 7 0 s.send.pending.length) (.sl 8 0 s.send.flight.length) (.sl 9 0 s.send.cG.length) (.sl 10 0 s.recv.buffer.bO.length))]) :
  dx Tryz.prog 289 kv [.box (J.bE c),.box (ao.bE f),.box J.bw,.af 39 (c.streams.map ae.enc),.af 2 (c.packets.map aD.enc),.box (J.vc c (.sl 3 0 c.streams.length) (.sl 4 0 c.packets.length)),.af 1 (s.send.ring.cells.map aW),.af 2 (s.send.pending.map aa.enc),.af 2 (s.send.flight.map aa.enc),.af 2 (s.send.cG.map aa.enc),.af 2 (s.recv.buffer.bO.map aA.enc),.box (ae.vc s (.sl 6 0 s.send.ring.cells.length) (.sl 7 0 s.send.pending.length) (.sl 8 0 s.send.flight.length) (.sl 9 0 s.send.cG.length) (.sl 10 0 s.recv.buffer.bO.length))] [.agg (J.bE c),.agg (ae.vc s (.sl 6 0 s.send.ring.cells.length) (.sl 7 0 s.send.pending.length) (.sl 8 0 s.send.flight.length) (.sl 9 0 s.send.cG.length) (.sl 10 0 s.recv.buffer.bO.length)),.i k] K:=by
 have a2:∀(ex:List H) (e:ae),e=vp c s k→pe kv K (.agg [.i e.id,.i s.send.state,.i s.send.ring.size,.i s.send.ring.base,.i s.send.ring.cv,.sl 6 0 s.send.ring.cells.length,.sl 7 0 s.send.pending.length,.sl 8 0 s.send.flight.length,.sl 9 0 s.send.cG.length,.i s.send.bn,.i s.send.a2,.i s.send.sent,.i s.send.code,.i e.dL.aR,.i e.dL.used,.i e.dL.blocked,.i e.dL.told,.i s.recv.state,.i s.recv.buffer.next,.sl 10 0 s.recv.buffer.bO.length,.i s.recv.bn,.i s.recv.fO,.i s.recv.code,.i e.bX.size,.i e.bX.most,.i e.bX.aR,.i e.bX.seen,.i e.bX.read,.i e.bX.jP,.i e.priority.iw,.d (.bool e.priority.hR),.d (.bool e.eU),.d (.bool e.fC),.d (.bool e.iJ),.d (.bool e.iM),.d (.bool e.mx),.d (.bool e.lG),.i e.nr,.d (.bool e.counted)]) ([.box (J.bE c),.box (ao.bE f),.box J.bw,.af 39 (c.streams.map ae.enc),.af 2 (c.packets.map aD.enc),.box (J.vc c (.sl 3 0 c.streams.length) (.sl 4 0 c.packets.length)),.af 1 (s.send.ring.cells.map aW),.af 2 (s.send.pending.map aa.enc),.af 2 (s.send.flight.map aa.enc),.af 2 (s.send.cG.map aa.enc),.af 2 (s.recv.buffer.bO.map aA.enc),.box (ae.vc s (.sl 6 0 s.send.ring.cells.length) (.sl 7 0 s.send.pending.length) (.sl 8 0 s.send.flight.length) (.sl 9 0 s.send.cG.length) (.sl 10 0 s.recv.buffer.bO.length))]++ex):=by
  intro ex e he;refine⟨List.range 12,.agg [.i e.id,.i s.send.state,.i s.send.ring.size,.i s.send.ring.base,.i s.send.ring.cv,.sl 6 0 s.send.ring.cells.length,.sl 7 0 s.send.pending.length,.sl 8 0 s.send.flight.length,.sl 9 0 s.send.cG.length,.i s.send.bn,.i s.send.a2,.i s.send.sent,.i s.send.code,.i e.dL.aR,.i e.dL.used,.i e.dL.blocked,.i e.dL.told,.i s.recv.state,.i s.recv.buffer.next,.sl 10 0 s.recv.buffer.bO.length,.i s.recv.bn,.i s.recv.fO,.i s.recv.code,.i e.bX.size,.i e.bX.most,.i e.bX.aR,.i e.bX.seen,.i e.bX.read,.i e.bX.jP,.i e.priority.iw,.d (.bool e.priority.hR),.d (.bool e.eU),.d (.bool e.fC),.d (.bool e.iJ),.d (.bool e.iM),.d (.bool e.mx),.d (.bool e.lG),.i e.nr,.d (.bool e.counted)],[.box (J.bE c),.box (ao.bE f),.box J.bw,.af 39 (c.streams.map ae.enc),.af 2 (c.packets.map aD.enc),.box (J.vc c (.sl 3 0 c.streams.length) (.sl 4 0 c.packets.length)),.af 1 (s.send.ring.cells.map aW),.af 2 (s.send.pending.map aa.enc),.af 2 (s.send.flight.map aa.enc),.af 2 (s.send.cG.map aa.enc),.af 2 (s.recv.buffer.bO.map aA.enc),.box (ae.vc s (.sl 6 0 s.send.ring.cells.length) (.sl 7 0 s.send.pending.length) (.sl 8 0 s.send.flight.length) (.sl 9 0 s.send.cG.length) (.sl 10 0 s.recv.buffer.bO.length))],?_,hk e he⟩;refine BZ (hs:=[.box (J.bE c),.box (ao.bE f),.box J.bw,.af 39 (c.streams.map ae.enc),.af 2 (c.packets.map aD.enc),.box (J.vc c (.sl 3 0 c.streams.length) (.sl 4 0 c.packets.length)),.af 1 (s.send.ring.cells.map aW),.af 2 (s.send.pending.map aa.enc),.af 2 (s.send.flight.map aa.enc),.af 2 (s.send.cG.map aa.enc),.af 2 (s.recv.buffer.bO.map aA.enc),.box (ae.vc s (.sl 6 0 s.send.ring.cells.length) (.sl 7 0 s.send.pending.length) (.sl 8 0 s.send.flight.length) (.sl 9 0 s.send.cG.length) (.sl 10 0 s.recv.buffer.bO.length))]) (ex:=ex) ?_ bu ?_ ?_
  ·simp[roks,rok,bg,vok]
  ·simp[vsees,vsee,ren,rens]
  ·simp[bg,vok]
 obtain⟨dy,dT,c2,d'⟩:=hs;refine dx.nh ?_;refine(fc (n:=35) (rs:=[.cell 6 63]) Tryz.func289 rfl Tryz.call289 b1 rfl rfl ?_);simp only[go_sem]
 try simp only[go_sem,I]
 repeat'((first|refine ab.intro (by first|apply QZ|apply Q1) ?_|refine bt (fun h=>?_) (fun h=>?_))<;>simp only[go_sem,I])
 all_goals simp only[b2,dN]at *
 ·exact a2 _ {s with iJ:=false} (by simp[vp,mZ, *])
 ·exact a2 _ {s with iM:=false} (by simp[vp,mZ, *])
 ·exact a2 _ {s with bX:=(pA c s).1,mx:=false} (by simp[vp,mZ, *])
 ·exact a2 _ {s with mx:=false} (by simp[vp,mZ, *])
 ·exact a2 _ {s with dL:=wy s.dL} (by simp[vp,mZ, *])
 ·exact a2 _ s (by simp[vp,mZ, *])
theorem Y9(c:J)(f:ao)(hz:gG c)(aU:en c=true)(j5:decide (f.kind=16)=false)(h5:decide (f.kind=18)=false)(ns:decide (f.kind=20)=false)(vq:decide (f.kind=22)=false)(hf:(strOf c.streams f.stream).2=true):aJ 241 [.agg (J.enc c),.agg (ao.enc f)] [.agg (J.enc ((lH c (mZ c (aS c f.stream) f.kind))))]:=by
 refine ub 86 Tryz.func241 Tryz.call241 [.cell 4 37] ?_;intro ok;clear ok;have i':=iE hz;have y':eO (aS c f.stream):=nO hz.2.1 f.stream;obtain⟨eT,fW,iF⟩:=Hn c (aS c f.stream) f.kind;have uw:eO (mZ c (aS c f.stream) f.kind):=by unfold eO;rw[eT,fW];exact y'
 have cT:=mU c f.stream hz;rw[show(strOf c.streams f.stream).1=aS c f.stream from rfl,hf]at cT;have hK:=l3 c.streams (mZ c (aS c f.stream) f.kind) (by have:=hz.1;omega) hz.2.1 uw;rw[Y7]at hK⊢;generalize aS c f.stream=s at *;clear uw eT fW iF;obtain⟨e,he⟩:∃e,e=vp c s f.kind:=⟨_,rfl⟩;have ah:e.send=s.send:=by rw[he];rfl
 have ai:e.recv=s.recv:=by rw[he];rfl
 rw[←he]at hK⊢;simp only[ae.enc,ah,ai]at hK;refine fi b1 3 (α:=Unit) (fun _=>⟨(.ak::.ak::.ptr 0 0 0::.ptr 1 0 0::.ptr 2 0 0::.ptr 5 0 0::jn 80 []),[.box (J.bE c),.box (ao.bE f),.box J.bw,.af 39 (c.streams.map ae.enc),.af 2 (c.packets.map aD.enc),.box (J.vc c (.sl 3 0 c.streams.length) (.sl 4 0 c.packets.length))]⟩) (fun _=>True) ?_ ?_
 ·skip
  try simp only[go_sem]
  repeat'((first|refine ab.af (by first|assumption|(apply gb<;>exact aP)|(apply vg<;>exact aP)) ?_|refine au.af (by assumption) ?_)<;>simp only[go_sem,I,aU,bS])
  refine dS.intro () [0,1,2,3,4,5] trivial ?_;simp only[go_sem];simp
 rintro _ _;simp only[zp,zq];refine Y6 (K2:=fun σ=>σ=AV c f s e (List.replicate 10 true)) ?_ ?_
 ·skip
  refine fi b1 1 (α:=Unit) (fun _=>⟨(.ak::.ak::.ptr 0 0 0::.ptr 1 0 0::.ptr 2 0 0::.ptr 5 0 0::jn 15 (.i f.kind::jn 64 [])),[.box (J.bE c),.box (ao.bE f),.box J.bw,.af 39 (c.streams.map ae.enc),.af 2 (c.packets.map aD.enc),.box (J.vc c (.sl 3 0 c.streams.length) (.sl 4 0 c.packets.length))]⟩) (fun _=>True) ?_ ?_
  ·skip
   try simp only[go_sem]
   refine dS.intro () [0,1,2,3,4,5] trivial ?_;simp only[go_sem];simp
  rintro _ _;simp only[zp,zq];refine Y_ ?_;refine fi b1 1 (α:=Unit) (fun _=>⟨(.ak::.ak::.ptr 0 0 0::.ptr 1 0 0::.ptr 2 0 0::.ptr 5 0 0::jn 15 (.i f.kind::jn 17 (.d (.bool false)::jn 46 []))),[.box (J.bE c),.box (ao.bE f),.box J.bw,.af 39 (c.streams.map ae.enc),.af 2 (c.packets.map aD.enc),.box (J.vc c (.sl 3 0 c.streams.length) (.sl 4 0 c.packets.length))]⟩) (fun _=>True) ?_ ?_
  ·skip
   try simp only[go_sem,j5]
   refine dS.intro () [0,1,2,3,4,5] trivial ?_;simp only[go_sem];simp
  rintro _ _;simp only[zp,zq];refine Hm rfl ?_;refine fi b1 1 (α:=Unit) (fun _=>⟨(.ak::.ak::.ptr 0 0 0::.ptr 1 0 0::.ptr 2 0 0::.ptr 5 0 0::jn 15 (.i f.kind::jn 27 (.d (.bool false)::jn 36 []))),[.box (J.bE c),.box (ao.bE f),.box J.bw,.af 39 (c.streams.map ae.enc),.af 2 (c.packets.map aD.enc),.box (J.vc c (.sl 3 0 c.streams.length) (.sl 4 0 c.packets.length))]⟩) (fun _=>True) ?_ ?_
  ·skip
   try simp only[go_sem,h5]
   refine dS.intro () [0,1,2,3,4,5] trivial ?_;simp only[go_sem];simp
  rintro _ _;simp only[zp,zq];refine Hm rfl ?_;refine fi b1 1 (α:=Unit) (fun _=>⟨(.ak::.ak::.ptr 0 0 0::.ptr 1 0 0::.ptr 2 0 0::.ptr 5 0 0::jn 15 (.i f.kind::jn 49 (.d (.bool false)::jn 14 []))),[.box (J.bE c),.box (ao.bE f),.box J.bw,.af 39 (c.streams.map ae.enc),.af 2 (c.packets.map aD.enc),.box (J.vc c (.sl 3 0 c.streams.length) (.sl 4 0 c.packets.length))]⟩) (fun _=>True) ?_ ?_
  ·skip
   try simp only[go_sem,ns]
   refine dS.intro () [0,1,2,3,4,5] trivial ?_;simp only[go_sem];simp
  rintro _ _;simp only[zp,zq];refine Hm rfl ?_;refine fi b1 1 (α:=Unit) (fun _=>⟨(.ak::.ak::.ptr 0 0 0::.ptr 1 0 0::.ptr 2 0 0::.ptr 5 0 0::jn 15 (.i f.kind::jn 55 (.d (.bool false)::jn 8 []))),[.box (J.bE c),.box (ao.bE f),.box J.bw,.af 39 (c.streams.map ae.enc),.af 2 (c.packets.map aD.enc),.box (J.vc c (.sl 3 0 c.streams.length) (.sl 4 0 c.packets.length))]⟩) (fun _=>True) ?_ ?_
  ·skip
   try simp only[go_sem,vq]
   refine dS.intro () [0,1,2,3,4,5] trivial ?_;simp only[go_sem];simp
  rintro _ _;simp only[zp,zq];refine Hm rfl ?_;refine fi b1 2 (α:=Unit) (fun _=>⟨(.ak::.ak::.ptr 0 0 0::.ptr 1 0 0::.ptr 2 0 0::.ptr 5 0 0::jn 6 (.ptr 11 0 0::jn 16 (.d (.bool true)::jn 56 []))),[.box (J.bE c),.box (ao.bE f),.box J.bw,.af 39 (c.streams.map ae.enc),.af 2 (c.packets.map aD.enc),.box (J.vc c (.sl 3 0 c.streams.length) (.sl 4 0 c.packets.length)),.af 1 (s.send.ring.cells.map aW),.af 2 (s.send.pending.map aa.enc),.af 2 (s.send.flight.map aa.enc),.af 2 (s.send.cG.map aa.enc),.af 2 (s.recv.buffer.bO.map aA.enc),.box (ae.vc s (.sl 6 0 s.send.ring.cells.length) (.sl 7 0 s.send.pending.length) (.sl 8 0 s.send.flight.length) (.sl 9 0 s.send.cG.length) (.sl 10 0 s.recv.buffer.bO.length))]⟩) (fun _=>True) ?_ ?_
  ·skip
   try simp only[go_sem]
   repeat'((first|refine ab.af (by assumption) ?_|refine au.af (by assumption) ?_)<;>simp only[go_sem,I])
   refine dS.intro () [0,1,2,3,4,5,6,7,8,9,10,11] trivial ?_;simp only[go_sem];simp
  rintro _ _;simp only[zp,zq];refine Y5 rfl ?_;refine Q2 (σ':=AV c f s e (List.replicate 10 false)) (ρ:=[0,1,2,3,4,5,6,7,8,9,10,11]) (by simp only[AV,List.replicate,ay,e4,e1,cond_false,List.append_nil];simp only[go_sem];simp) ?_;refine ng b1 ?_;simp only[go_sem];refine jB (fun σ'=>σ'=AV c f s e (List.replicate 10 true)) ?_ (fun σ' h=>h);refine KY (fun n S σ=>(n,S)∈Lj∧σ=AV c f s e S) ?_ ?_ _ _ _ ⟨by first|exact List.Mem.head _|decide +kernel,rfl⟩
  ·rintro S σ ⟨aT,rfl⟩;simp only[Lj,List.mem_cons,c1,List.not_mem_nil,or_false]at aT;rcases aT with ⟨hn,rfl⟩|⟨hn,rfl⟩|⟨hn,rfl⟩|⟨hn,rfl⟩|⟨hn,rfl⟩|⟨hn,rfl⟩|⟨hn,rfl⟩|⟨hn,rfl⟩|⟨hn,rfl⟩|⟨hn,rfl⟩|⟨hn,rfl⟩|⟨hn,rfl⟩|⟨hn,rfl⟩|⟨hn,rfl⟩|⟨hn,rfl⟩|⟨hn,rfl⟩|⟨hn,rfl⟩|⟨hn,rfl⟩|⟨hn,rfl⟩|⟨hn,rfl⟩|⟨hn,rfl⟩|⟨hn,rfl⟩|⟨hn,rfl⟩|⟨hn,rfl⟩|⟨hn,rfl⟩|⟨hn,rfl⟩|⟨hn,rfl⟩|⟨hn,rfl⟩|⟨hn,rfl⟩|⟨hn,rfl⟩|⟨hn,rfl⟩|⟨hn,rfl⟩|⟨hn,rfl⟩|⟨hn,rfl⟩|⟨hn,rfl⟩|⟨hn,rfl⟩|⟨hn,rfl⟩|⟨hn,rfl⟩|⟨hn,rfl⟩|⟨hn,rfl⟩|⟨hn,rfl⟩|⟨hn,rfl⟩
   all_goals(first|exact absurd hn (by decide)|skip)
   exact⟨rfl,rfl⟩
  ·rintro n S σ F ⟨aT,rfl⟩ cd;simp only[Lj,List.mem_cons,c1,List.not_mem_nil,or_false]at aT;rcases aT with ⟨hn,rfl⟩|⟨hn,rfl⟩|⟨hn,rfl⟩|⟨hn,rfl⟩|⟨hn,rfl⟩|⟨hn,rfl⟩|⟨hn,rfl⟩|⟨hn,rfl⟩|⟨hn,rfl⟩|⟨hn,rfl⟩|⟨hn,rfl⟩|⟨hn,rfl⟩|⟨hn,rfl⟩|⟨hn,rfl⟩|⟨hn,rfl⟩|⟨hn,rfl⟩|⟨hn,rfl⟩|⟨hn,rfl⟩|⟨hn,rfl⟩|⟨hn,rfl⟩|⟨hn,rfl⟩|⟨hn,rfl⟩|⟨hn,rfl⟩|⟨hn,rfl⟩|⟨hn,rfl⟩|⟨hn,rfl⟩|⟨hn,rfl⟩|⟨hn,rfl⟩|⟨hn,rfl⟩|⟨hn,rfl⟩|⟨hn,rfl⟩|⟨hn,rfl⟩|⟨hn,rfl⟩|⟨hn,rfl⟩|⟨hn,rfl⟩|⟨hn,rfl⟩|⟨hn,rfl⟩|⟨hn,rfl⟩|⟨hn,rfl⟩|⟨hn,rfl⟩|⟨hn,rfl⟩|⟨hn,rfl⟩
   rotate_right 1
   ·exact absurd hn (by omega)
   all_goals(
    simp only[Nat.reduceEqDiff]at hn
    try subst hn
    simp only[AV,ay,e4,e1,cond_true,cond_false,bB,bx,List.append_nil];refine QG rfl ?_
    repeat'(first
     |exact AT
     |(refine AU ?_ ?_)
     |exact cd _ _ ⟨by first|exact List.Mem.head _|decide +kernel,rfl⟩
     |(refine ab.af hK ?_)
     |(refine ab.inl (Y8 c f s f.kind y' _ (by simp[bg,vok]) _ (fun e' vh=>?_));obtain rfl:e'=e:=vh.trans he.symm)
     |simp only[go_sem,I]))
   all_goals trace_state
 ·rintro _ rfl;refine ng b1 ?_;simp only[AV,List.replicate,ay,e4,e1,cond_true,bB,bx];simp only[go_sem];simp[lH,outOA]
set_option maxRecDepth 100000
def Q3:List (List bH):=cP 7 [2066,2176,2182,2161,2107,1944,1458]
def Q4:List (List bH):=cP 8 [6443,6441,6232,6214,5548,6435,5913,4374]
attribute [go_sem] Q3 Q4
theorem Y'(c:J)(f:ao)(hz:gG c)(hn:¬(en c=true∧decide (f.kind=16)=false∧decide (f.kind=18)=false∧decide (f.kind=20)=false∧decide (f.kind=22)=false∧(strOf c.streams f.stream).2=true)):aJ 241 [.agg (J.enc c),.agg (ao.enc f)] [.agg (J.enc ((lI c f)))]:=by
 refine aN 86 Tryz.func241 Tryz.call241 [.cell 4 37] ?_;intro ok;clear ok;have i':=iE hz;have cT:=mU c f.stream hz
 try simp only[go_sem]
 repeat'((first|refine ab.af (by first|assumption|(apply gb<;>exact aP)|(apply vg<;>exact aP)) ?_|refine au.af (by assumption) ?_)<;>simp only[go_sem,I])
 cases aU:en c with
 |false=>
  simp only[go_sem,I,cc];simp[lI,aU]
 |true=>
  simp only[go_sem,bS]
  cases j5:decide (f.kind=16)with
  |true=>
   have Lk:=cO j5
   try simp only[go_sem]
   repeat'(first|((first|refine ab.af (by first|assumption|apply QW) ?_|refine au.af (by assumption) ?_)<;>simp only[go_sem,I])|(with_reducible refine aw ?_)|fail)
   simp[lI,aU,Lk]
  |false=>
   have Lk:=c9 j5;simp only[go_sem]
   cases h5:decide (f.kind=18)with
   |true=>
    have Ho:=cO h5;simp only[go_sem]
    cases hu:f.ey with
    |true=>
     try simp only[go_sem]
     repeat'(first|((first|refine ab.af (by first|assumption|apply Hj) ?_|refine au.af (by assumption) ?_)<;>simp only[go_sem,I])|(with_reducible refine aw ?_)|fail)
     simp[lI,aU,Ho,hu]
    |false=>
     try simp only[go_sem]
     repeat'(first|((first|refine ab.af (by first|assumption|apply Hj) ?_|refine au.af (by assumption) ?_)<;>simp only[go_sem,I])|(with_reducible refine aw ?_)|fail)
     simp[lI,aU,Ho,hu]
   |false=>
    have Ho:=c9 h5;simp only[go_sem]
    cases ns:decide (f.kind=20)with
    |true=>
     have Ll:=cO ns
     try simp only[go_sem]
     repeat'(first|((first|refine ab.af (by first|assumption|apply Q1) ?_|refine au.af (by assumption) ?_)<;>simp only[go_sem,I])|(with_reducible refine aw ?_)|fail)
     simp[lI,aU,Ll]
    |false=>
     have Ll:=c9 ns;simp only[go_sem]
     cases vq:decide (f.kind=22)with
     |true=>
      have Hp:=cO vq;simp only[go_sem]
      cases hu:f.ey with
      |true=>
       try simp only[go_sem,I]
       repeat'(first|(with_reducible refine aw ?_)|fail)
       simp[lI,aU,Hp,hu]
      |false=>
       try simp only[go_sem,I]
       repeat'(first|(with_reducible refine aw ?_)|fail)
       simp[lI,aU,Hp,hu]
     |false=>
      have Hp:=c9 vq;have hf:(strOf c.streams f.stream).2=false:=by
       cases hf:(strOf c.streams f.stream).2 with
       |false=>rfl
       |true=>exact absurd ⟨aU,j5,h5,ns,vq,hf⟩ hn
      have ag:lI c f=c:=by unfold lI;rw[aU,if_neg Lk,if_neg Ho,if_neg Ll,if_neg Hp,hf];rfl
      rw[hf]at cT;simp only[go_sem]
      try simp only[go_sem,I]
      repeat'(first|((first|refine ab.af (by assumption) ?_|refine au.af (by assumption) ?_)<;>simp only[go_sem,I])|(with_reducible refine aw ?_)|fail)
      simp[ag]
theorem Za(c:J)(f:ao)(hz:gG c):aJ 241 [.agg (J.enc c),.agg (ao.enc f)] [.agg (J.enc ((lI c f)))]:=by
 by_cases hn:en c=true∧decide (f.kind=16)=false∧decide (f.kind=18)=false∧decide (f.kind=20)=false∧decide (f.kind=22)=false∧(strOf c.streams f.stream).2=true
 ·obtain⟨aU,j5,h5,ns,vq,hf⟩:=hn;have ag:lI c f=lH c (mZ c (aS c f.stream) f.kind):=by
   unfold lI;rw[aU,if_neg (c9 j5),if_neg (c9 h5),if_neg (c9 ns),if_neg (c9 vq),hf];rfl
  rw[ag];exact Y9 c f hz aU j5 h5 ns vq hf
 ·exact Y' c f hz hn
theorem Zb(c:J)(b:Int):(bif bif !kb c then true else !bK b 1 400 then true else decide (1000000≤c.number))=!Cl c b:=by
 unfold Cl
 cases kb c<;>cases bK b 1 400<;>cases decide (1000000≤c.number)<;>rfl
theorem Q5(c:J)(b:Int)(m:Nat)(hv:cl m c)(hm:m≤20):aJ 179 [.agg (J.enc c),.one (.int .i64 b)] [.one (.str (yc c b)),.one (.int .i64 (wz c b)),.agg (J.enc ((gn c b)))]:=by
 refine ub 90 Tryz.func179 Tryz.call179 [.tmp 4,.tmp 5,.cell 6 37] ?_;intro ok;clear ok;have hz:=hv.sz hm;have i':=iE hz;have bM:=Zb c b;obtain⟨hcl,pg⟩:=Q6 hv;refine fi b1 6 (α:=Unit) (fun _=>⟨(.ak::.i b::.ptr 0 0 0::jn 3 (.ptr 1 0 0::.ptr 2 0 0::.sl 5 0 0::.i b::.sl 6 0 (iO c).length::jn 79 [])),[.box (J.bE c),.box J.bw,.box (J.vc c (.sl 3 0 c.streams.length) (.sl 4 0 c.packets.length)),.af 39 (c.streams.map ae.enc),.af 2 (c.packets.map aD.enc),.ar 9 [] true,.ar 9 ((iO c).map ao.enc) true]⟩) (fun _=>Cl c b=true) ?_ ?_
 ·skip
  try simp only[go_sem]
  repeat'((first|refine ab.af (by first|(apply gb<;>exact aP)|(apply v7<;>exact aP)) ?_|refine au.af (by apply h_) ?_|refine a7 ?_)<;>simp only[go_sem,I])
  rw[bM]
  cases hg:Cl c b with
  |false=>
   try simp only[go_sem,cc]
   repeat'(first|(refine ba [[.post,.dv,.dv,.post],[.dv,.post,.post,.post],[.dv,.pre,.post,.post],[.pre,.pre,.pre,.post]] (by kernel_rfl) (by rfl) ?_<;>simp only[go_sem,I])|(with_reducible refine aw ?_)|fail)
   simp[gn,yc,wz,Cm,hg]
  |true=>
   try simp only[go_sem,bS]
   repeat'(refine ab.intro (by(apply Y4<;>exact aP)) ?_<;>simp only[go_sem,I])
   refine dS.intro () [0,1,4,2,3,5,6] (by first|exact hg|trivial) ?_;simp only[go_sem];simp
 rintro _ hg;have hA:dP c b=(iO c).foldl nt ⟨c,[],b⟩:=rfl;refine fi b1 1 (α:=Unit) (fun _=>⟨(.ak::.i b::.ptr 0 0 0::jn 3 (.ptr 1 0 0::.ptr 2 0 0::.sl 5 0 (dP c b).cg.length::.d (.int .i64 (dP c b).db)::jn 80 [])),[.box (J.bE c),.box J.bw,.box [.d (.bool (dP c b).x.bV),.d (.int .i64 (dP c b).x.own.ring),.d (.int .i64 (dP c b).x.own.bX),.d (.int .i64 (dP c b).x.own.iK),.d (.int .i64 (dP c b).x.own.cY),.d (.int .i64 (dP c b).x.own.kl),.d (.int .i64 (dP c b).x.own.jE),.d (.int .i64 (dP c b).x.own.ey),.d (.int .i64 (dP c b).x.own.g7),.d (.int .i64 (dP c b).x.peer.ring),.d (.int .i64 (dP c b).x.peer.bX),.d (.int .i64 (dP c b).x.peer.iK),.d (.int .i64 (dP c b).x.peer.cY),.d (.int .i64 (dP c b).x.peer.kl),.d (.int .i64 (dP c b).x.peer.jE),.d (.int .i64 (dP c b).x.peer.ey),.d (.int .i64 (dP c b).x.peer.g7),.sl 3 0 (dP c b).x.streams.length,.d (.int .i64 (dP c b).x.cY.aR),.d (.int .i64 (dP c b).x.cY.used),.d (.int .i64 (dP c b).x.cY.blocked),.d (.int .i64 (dP c b).x.cY.told),.d (.int .i64 (dP c b).x.dO.size),.d (.int .i64 (dP c b).x.dO.most),.d (.int .i64 (dP c b).x.dO.aR),.d (.int .i64 (dP c b).x.dO.seen),.d (.int .i64 (dP c b).x.dO.read),.d (.int .i64 (dP c b).x.dO.jP),.d (.int .i64 (dP c b).x.e7.aR),.d (.int .i64 (dP c b).x.e7.opened),.d (.int .i64 (dP c b).x.e7.blocked),.d (.int .i64 (dP c b).x.e6.aR),.d (.int .i64 (dP c b).x.e6.opened),.d (.int .i64 (dP c b).x.e6.blocked),.d (.int .i64 (dP c b).x.cu.most),.d (.int .i64 (dP c b).x.cu.aR),.d (.int .i64 (dP c b).x.cu.seen),.d (.int .i64 (dP c b).x.cu.closed),.d (.int .i64 (dP c b).x.ct.most),.d (.int .i64 (dP c b).x.ct.aR),.d (.int .i64 (dP c b).x.ct.seen),.d (.int .i64 (dP c b).x.ct.closed),.d (.bool (dP c b).x.vr),.d (.bool (dP c b).x.mW),.d (.bool (dP c b).x.mX),.d (.int .i64 (dP c b).x.fq),.d (.int .i64 (dP c b).x.number),.sl 4 0 (dP c b).x.packets.length,.d (.int .i64 (dP c b).x.h8),.d (.int .i64 (dP c b).x.closed)],.af 39 ((dP c b).x.streams.map ae.enc),.af 2 ((dP c b).x.packets.map aD.enc),.ar 9 ((dP c b).cg.map ao.enc) true]⟩) (fun _=>True) ?_ ?_
 ·simp only[go_sem];refine b7.intro (α:=Nat×AW) (fun y=>⟨(.ak::.i b::.ptr 0 0 0::jn 3 (.ptr 1 0 0::.ptr 2 0 0::.sl 5 0 y.2.cg.length::.i y.2.db::.sl 6 0 (iO c).length::.i y.1::jn 78 [])),[.box (J.bE c),.box J.bw,.box (J.vc y.2.x (.sl 3 0 y.2.x.streams.length) (.sl 4 0 y.2.x.packets.length)),.af 39 (y.2.x.streams.map ae.enc),.af 2 (y.2.x.packets.map aD.enc),.ar 9 (y.2.cg.map ao.enc) true,.ar 9 ((iO c).map ao.enc) true]⟩)
   (fun y=>(iO c).length-y.1) (fun y=>y.1≤(iO c).length∧y.2=((iO c).take y.1).foldl nt ⟨c,[],b⟩∧nu m y.1 y.2.x y.2.cg) (0,⟨c,[],b⟩) [0,1,2,3,4,5,6] ⟨by simp,by simp,hv,by simp,by simp⟩ ?_ ?_
  ·simp only[go_sem];simp
  ·rintro⟨i,q⟩ ⟨hi,hq,aU⟩;simp only at hi hq aU;by_cases h1:i<(iO c).length
   ·have ax:decide ((i:Int)<((iO c).length:Int))=true:=bp (by omega);have aq:=b5 ao.enc (iO c) i h1;have hw:IntKind.i64.wrap ((i:Int)+1)=((i+1:Nat):Int):=by rw[bz]<;>omega
    have hs:((iO c).take (i+1)).foldl nt ⟨c,[],b⟩=nt q (iO c)[i]:=by
     rw[hj,b8 h1,List.foldl_append,←hq];rfl
    have Q7:oL (iO c)[i]:=pg _ (eR h1);have Hq:=Q8 aU Q7;generalize (iO c)[i]=f at *;have hY:f.data.length≤60:=Q7;have aht:=Za q.x f (aU.c.sz hm);have Ej:=Lm f.kind f.stream f.offset f.data f.a2 f.code f.aR f.bn f.ey (by omega);change PureCall _ _ _ [.one (.int .i64 ((hG f).length:Int))]at Ej;have Hr:nt q f=if((hG f).length:Int)≤q.db then⟨lI q.x f,q.cg++[f],IntKind.i64.wrap (q.db-((hG f).length:Int))⟩else q:=rfl
    have ahu:=aU.n
    try simp only[go_sem,I,aC,aq,ao.enc,ax]
    repeat'(first|((first|refine ab.intro (by assumption) ?_|refine au.intro (by assumption) ?_)<;>simp only[go_sem])|(with_reducible refine aw ?_)|fail)
    cases kJ:decide (((hG f).length:Int)≤q.db)with
    |true=>
     rw[if_pos (cO kJ)]at Hr;rw[Hr]at hs Hq
     try simp only[go_sem,I,aC,aq,ao.enc]
     repeat'(first|((first|refine ab.intro (by assumption) ?_|refine au.intro (by assumption) ?_)<;>simp only[go_sem])|(with_reducible refine aw ?_)|fail)
     try simp only[go_sem,I,aC,aq,ao.enc]
     repeat'(first|((first|refine ab.af (by assumption) ?_|refine au.af (by assumption) ?_|refine ba Q3 (by kernel_rfl) (by rfl) ?_)<;>simp only[go_sem,I,aC,aq,ao.enc])|(with_reducible refine aw ?_)|fail)
     refine bA.intro (i+1,⟨lI q.x f,q.cg++[f],IntKind.i64.wrap (q.db-((hG f).length:Int))⟩) [0,1,2,7,8,10,6] ⟨by simp only;omega,hs.symm,Hq⟩ (by simp only;omega) ?_;simp only[go_sem,hw];simp[ao.enc]
    |false=>
     rw[if_neg (c9 kJ)]at Hr;rw[Hr]at hs Hq;simp only[go_sem];refine bA.intro (i+1,q) [0,1,2,3,4,5,6] ⟨by simp only;omega,hs.symm,Hq⟩ (by simp only;omega) ?_;simp only[go_sem,hw];simp
   ·have ax:decide ((i:Int)<((iO c).length:Int))=false:=bo (by omega);obtain rfl:i=(iO c).length:=by omega
    rw[d_,←hA]at hq;subst hq;simp only[go_sem,ax];refine dS.intro () [0,1,2,3,4,5] trivial ?_;simp only[go_sem];simp
 rintro _ _;have Ln:=Q9 hv b;have Ek:=Q_ hv (by omega) b;have hB:fillGo 200 ⟨(dP c b).x,[],(dP c b).cg,(dP c b).db⟩=lJ c b:=rfl;have bm:gn c b=if(lJ c b).cg=[]then(lJ c b).x else {(lJ c b).x with packets:=(lJ c b).x.packets++[⟨c.number,(lJ c b).cg⟩],number:=IntKind.i64.wrap (c.number+1)}:=by unfold gn;rw[hg];rfl
 have Cn:Cm c b=!decide ((lJ c b).cg=[]):=by unfold Cm;rw[hg];rfl
 have cR:yc c b=if Cm c b then zr (lJ c b).cg else []:=rfl
 generalize dP c b=Lo at *;generalize lJ c b=ux at *;refine fi b1 1 (α:=Unit) (fun _=>⟨(.ak::.ak::.ptr 0 0 0::jn 3 (.ptr 1 0 0::.ptr 2 0 0::.sl 5 0 ux.cg.length::jn 81 [])),[.box (J.bE c),.box J.bw,.box (J.vc ux.x (.sl 3 0 ux.x.streams.length) (.sl 4 0 ux.x.packets.length)),.af 39 (ux.x.streams.map ae.enc),.af 2 (ux.x.packets.map aD.enc),.ar 9 (ux.cg.map ao.enc) true]⟩) (fun _=>True) ?_ ?_
 ·simp only[go_sem,I];refine ab.ij [2,6,7] (by simp only[keepT,List.elem_cons,List.elem_nil,Nat.reduceBEq,Nat.reduceAdd,cond_true,cond_false];rfl) (Zc c Lo.x Lo.cg Lo.db m Ln.c hm Ln.n Ln.d _ (by simp[bg,vok]) _ ?_);rw[hB];simp only[vt,fL,eN,Hs,go_sem];refine dS.intro () [0,1,2,3,4,5] trivial ?_;simp only[go_sem];simp
 rintro _ _;refine JX 4 rfl ?_;refine ng b1 ?_;simp only[go_sem];have gd:ux.x.packets.length≤20:=Nat.le_trans Ek.c.wA hm
 cases zt:decide (ux.cg=[])with
 |true=>
  have El:=cO zt;have hd:decide ((ux.cg.length:Int)=0)=true:=bp (by rw[El];rfl);rw[zt]at Cn;rw[if_pos El]at bm;rw[Cn]at cR
  try simp only[go_sem,hd]
  repeat'(first|(refine ba [[.post,.dv,.dv,.post],[.dv,.post,.post,.post],[.dv,.pre,.post,.post],[.pre,.pre,.pre,.post]] (by kernel_rfl) (by rfl) ?_<;>simp only[go_sem,I])|(with_reducible refine aw ?_)|fail)
  simp[bm,cR,wz,Cn]
 |false=>
  have El:=c9 zt;have hd:decide ((ux.cg.length:Int)=0)=false:=bo (fun h=>El (List.length_eq_zero_iff.1 (by omega)));rw[zt]at Cn;rw[if_neg El]at bm;have ahv:=Zd ux.cg (by have:=Ek.n;omega) (fun f hf=>by have:=Ek.d f hf;unfold oL at this;omega)
  try simp only[go_sem,I,hd]
  repeat'(first|((first|refine ab.intro (by assumption) ?_|refine au.intro (by assumption) ?_|refine ba Q4 (by kernel_rfl) (by rfl) ?_)<;>simp only[go_sem,I])|(with_reducible refine aw ?_)|fail)
  rw[Cn]at cR;simp[bm,cR,wz,Cn,aD.enc,dH]
set_option maxRecDepth 100000
def nc(b:UInt8)(q:List (List UInt8)×List UInt8)(x:UInt8):List (List UInt8)×List UInt8:=if x=b then(q.1++[q.2],[])else(q.1,q.2++[x])
def o9(b:UInt8)(s:List UInt8):List (List UInt8)×List UInt8:=s.foldl (nc b) ([],[])
def Ae(s:List UInt8)(b:UInt8):List (List UInt8):=(o9 b s).1++[(o9 b s).2]
theorem OB(b:UInt8):∀(s:List UInt8) (q:List (List UInt8)×List UInt8),(s.foldl (nc b) q).1.length+(s.foldl (nc b) q).2.length≤q.1.length+q.2.length+s.length
 |[],q=>by simp
 |x::s,q=>by
  have:=OB b s (nc b q x);have e:(nc b q x).1.length+(nc b q x).2.length≤q.1.length+q.2.length+1:=by
   unfold nc;split<;>simp<;>omega
  rw[List.foldl_cons,eW];omega
theorem af3(s:List UInt8)(b:UInt8)(hl:s.length≤1048576):aJ 281 [.one (.str s),.one (.int .u8 (b.toNat:Int))] [.one (.sl 1 ((Ae s b).map mu))]:=by
 refine aN 35 Tryz.func281 Tryz.call281 [.tmp 4] ?_;intro ok;simp only[go_sem];refine b7.intro (fun i:Nat=>⟨(.d (.str s)::.d (.int .u8 (b.toNat:Int))::jn 3 (.sl 0 0 (o9 b (s.take i)).1.length::.d (.str (o9 b (s.take i)).2)::.i i::jn 27 [])),[.ar 1 ((o9 b (s.take i)).1.map mu) true]⟩)
  (fun i=>s.length-i) (fun i=>i≤s.length) 0 [0] (by omega) ?_ ?_
 ·simp only[go_sem];simp[o9]
 ·intro i hi;have mi:=OB b (s.take i) ([],[]);have cR:(s.take i).length=i:=by simp;omega
  simp only[ft]at mi;have af4:(o9 b (s.take i)).1.length+(o9 b (s.take i)).2.length≤i:=by unfold o9;omega
  by_cases h1:i<s.length
  ·have ax:decide ((i:Int)<(s.length:Int))=true:=bp (by omega);have hw:=dK h1 (show s.length≤maxLen by simp only[maxLen];omega);have hs:o9 b (s.take (i+1))=nc b (o9 b (s.take i)) s[i]:=Jp _ _ _ _ h1;generalize o9 b (s.take i)=q at *;obtain⟨out,part⟩:=q;simp only at af4;have hx:s[i]?.getD 0=s[i]:=by rw[b8 h1];rfl
   have xG:List.take (i+1-i) (List.drop i s)=[s[i]]:=by
    rw[show i+1-i=1 from by omega,List.drop_eq_getElem_cons h1];rfl
   cases hd:decide (s[i]=b)with
   |true=>
    have hb:decide ((s[i].toNat:Int)=(b.toNat:Int))=true:=by rw[cO hd];simp
    have cW:nc b (out,part) s[i]=(out++[part],[]):=by unfold nc;exact if_pos (cO hd)
    try simp only[go_sem,I,aC,ax,hw,hx,hb]
    repeat'(first|(with_reducible refine aw ?_)|fail)
    all_goals(first|(refine⟨⟨by omega,rfl⟩,?_⟩)|skip;refine bA.intro (i+1) [2] (by omega) (by omega) ?_;simp only[go_sem,hs,cW];simp[mu])
   |false=>
    have hb:decide ((s[i].toNat:Int)=(b.toNat:Int))=false:=bo (fun h=>absurd (UInt8.toNat_inj.1 (Int.ofNat.inj h)) (c9 hd));have cW:nc b (out,part) s[i]=(out,part++[s[i]]):=by unfold nc;exact if_neg (c9 hd)
    try simp only[go_sem,aC,ax,hw,hx,xG,hb]
    repeat'(first|(with_reducible refine aw ?_)|fail)
    all_goals(first|(refine⟨by simp only[eW,ft,maxLen];omega,?_⟩)|skip;refine bA.intro (i+1) [0] (by omega) (by omega) ?_;simp only[go_sem,hs,cW];simp)
  ·have ax:decide ((i:Int)<(s.length:Int))=false:=bo (by omega);obtain rfl:i=s.length:=by omega
   rw[d_]at *
   try simp only[go_sem,I,ax]
   repeat'(first|(with_reducible refine aw ?_)|fail)
   all_goals(simp[Ae];try exact dH (by simp))
def Af(s:List UInt8):List UInt8:=s.dropWhile (fun x=>decide (x=32))
def xl(s:List UInt8):List UInt8:=(s.reverse.dropWhile (fun x=>decide (x=32))).reverse
def nG(s:List UInt8):List UInt8:=xl (Af s)
theorem af5(r:List UInt8):Af (32::r)=Af r:=by simp[Af]
theorem af6{x:UInt8}{r:List UInt8}(h:x≠32):Af (x::r)=x::r:=by simp[Af,h]
theorem VS{r:List UInt8}(h:r≠[])(hl:r.getLast h=32):xl r=xl r.dropLast:=by
 have e:r.reverse=32::r.dropLast.reverse:=by
  conv=>lhs;rw[←List.dropLast_concat_getLast h]
  simp[hl]
 unfold xl;rw[e,List.dropWhile_cons_of_pos (by simp)]
theorem VT{r:List UInt8}(h:r≠[])(hl:r.getLast h≠32):xl r=r:=by
 have e:r.reverse=r.getLast h::r.dropLast.reverse:=by
  conv=>lhs;rw[←List.dropLast_concat_getLast h]
  simp
 unfold xl;rw[e,List.dropWhile_cons_of_neg (by simp[hl])];rw[←e,List.reverse_reverse]
theorem VU(s:List UInt8)(hl:s.length≤1048576):aJ 282 [.one (.str s)] [.one (.str (nG s))]:=by
 refine aN 30 Tryz.func282 Tryz.call282 [.tmp 2] ?_;intro ok;simp only[go_sem];refine b7.intro (fun u:List UInt8=>⟨(.d (.str u)::jn 29 []),[]⟩) (fun u=>u.length) (fun u=>u.length≤1048576∧Af u=Af s) s [] ⟨hl,rfl⟩ ?_ ?_
 ·simp only[go_sem]
 ·rintro u ⟨hu,he⟩
  cases u with
  |nil=>
   have dR:nG s=xl []:=by unfold nG;rw[←he];rfl
   have h0:decide ((0:Int)<((0:Nat):Int))=false:=by decide
   try simp only[go_sem,ft,h0]
   repeat'(first|(with_reducible refine e5 ?_<;>simp only[go_sem,ft]))
   refine b7.intro (fun v:List UInt8=>⟨(.d (.str v)::jn 29 []),[]⟩) (fun v=>v.length) (fun v=>v.length≤1048576∧xl v=nG s) [] [] ⟨by simp,dR.symm⟩ ?_ ?_
   ·simp only[go_sem]
   ·rintro v ⟨hv,BM⟩;by_cases hn:v=[]
    ·subst hn;have e:nG s=[]:=by rw[←BM];rfl
     have h0:decide ((0:Int)<((0:Nat):Int))=false:=by decide
     try simp only[go_sem,ft,h0]
     repeat'(first|(with_reducible refine e5 ?_<;>simp only[go_sem,ft]))
     all_goals first|(exfalso;simp at h;done)|simp[e]
    ·have hp:0<v.length:=List.length_pos_iff.2 hn;have h1:decide ((0:Int)<(v.length:Int))=true:=bp (by omega);have h2:IntKind.i64.wrap ((v.length:Int)-1)=((v.length-1:Nat):Int):=by rw[bz]<;>omega
     have aj:v[v.length-1]?.getD 0=v.getLast hn:=by rw[b8 (by omega),List.getLast_eq_getElem];rfl
     have aE:List.take (v.length-1-0) (List.drop 0 v)=v.dropLast:=by rw[List.drop_zero,Nat.sub_zero,List.dropLast_eq_take]
     cases hd:decide (v.getLast hn=32)with
     |true=>
      have hb:decide (((v.getLast hn).toNat:Int)=32)=true:=by rw[cO hd];rfl
      try simp only[go_sem,h1]
      repeat'(first|(with_reducible refine du ?_<;>simp only[go_sem,h2,aj,hb,aC])|(with_reducible refine aw ?_)|fail)
      all_goals(refine bA.intro v.dropLast [] ⟨by rw[List.length_dropLast];omega,by rw[←VS hn (cO hd)];exact BM⟩ (by rw[List.length_dropLast];omega) ?_;simp only[go_sem];try simp[List.dropLast_eq_take])
     |false=>
      have hb:decide (((v.getLast hn).toNat:Int)=32)=false:=bo (fun h=>absurd (UInt8.toNat_inj.1 (show(v.getLast hn).toNat=(32:UInt8).toNat by have:(32:UInt8).toNat=32:=rfl;omega)) (c9 hd));have e:nG s=v:=by rw[←BM];exact VT hn (c9 hd)
      try simp only[go_sem,h1]
      repeat'(first|(with_reducible refine du ?_<;>simp only[go_sem,h2,aj,hb,aC])|(with_reducible refine aw ?_)|fail)
      all_goals simp[e]
  |cons x r=>
   have h1:decide ((0:Int)<((r.length+1:Nat):Int))=true:=bp (by omega);have hx:(x::r)[0]?.getD 0=x:=rfl
   cases hd:decide (x=32)with
   |true=>
    have hb:decide ((x.toNat:Int)=32)=true:=by rw[cO hd];rfl
    have xG:List.take ((x::r).length-1) (List.drop 1 (x::r))=r:=by simp
    try simp only[go_sem,eW,h1]
    repeat'(first|(with_reducible refine du ?_<;>simp only[go_sem,eW,hb])|(with_reducible refine aw ?_)|fail)
    all_goals(refine bA.intro r [] ⟨by rw[eW]at hu;omega,by rw[←he,cO hd];exact(af5 r).symm⟩ (by simp) ?_;simp only[go_sem];try simp)
   |false=>
    have hb:decide ((x.toNat:Int)=32)=false:=bo (fun h=>absurd (UInt8.toNat_inj.1 (show x.toNat=(32:UInt8).toNat by have:(32:UInt8).toNat=32:=rfl;omega)) (c9 hd));have dR:nG s=xl (x::r):=by unfold nG;rw[←he,af6 (c9 hd)]
    try simp only[go_sem,eW,h1]
    repeat'(first|(with_reducible refine du ?_<;>simp only[go_sem,eW,hb])|(with_reducible refine aw ?_)|fail)
    refine b7.intro (fun v:List UInt8=>⟨(.d (.str v)::jn 29 []),[]⟩) (fun v=>v.length) (fun v=>v.length≤1048576∧xl v=nG s) (x::r) [] ⟨hu,dR.symm⟩ ?_ ?_
    ·simp only[go_sem]
    ·rintro v ⟨hv,BM⟩;by_cases hn:v=[]
     ·subst hn;have e:nG s=[]:=by rw[←BM];rfl
      have h0:decide ((0:Int)<((0:Nat):Int))=false:=by decide
      try simp only[go_sem,ft,h0]
      repeat'(first|(with_reducible refine e5 ?_<;>simp only[go_sem,ft]))
      all_goals first|(exfalso;simp at h;done)|simp[e]
     ·have hp:0<v.length:=List.length_pos_iff.2 hn;have h1:decide ((0:Int)<(v.length:Int))=true:=bp (by omega);have h2:IntKind.i64.wrap ((v.length:Int)-1)=((v.length-1:Nat):Int):=by rw[bz]<;>omega
      have aj:v[v.length-1]?.getD 0=v.getLast hn:=by rw[b8 (by omega),List.getLast_eq_getElem];rfl
      have aE:List.take (v.length-1-0) (List.drop 0 v)=v.dropLast:=by rw[List.drop_zero,Nat.sub_zero,List.dropLast_eq_take]
      cases hd:decide (v.getLast hn=32)with
      |true=>
       have hb:decide (((v.getLast hn).toNat:Int)=32)=true:=by rw[cO hd];rfl
       try simp only[go_sem,h1]
       repeat'(first|(with_reducible refine du ?_<;>simp only[go_sem,h2,aj,hb,aC])|(with_reducible refine aw ?_)|fail)
       all_goals(refine bA.intro v.dropLast [] ⟨by rw[List.length_dropLast];omega,by rw[←VS hn (cO hd)];exact BM⟩ (by rw[List.length_dropLast];omega) ?_;simp only[go_sem];try simp[List.dropLast_eq_take])
      |false=>
       have hb:decide (((v.getLast hn).toNat:Int)=32)=false:=bo (fun h=>absurd (UInt8.toNat_inj.1 (show(v.getLast hn).toNat=(32:UInt8).toNat by have:(32:UInt8).toNat=32:=rfl;omega)) (c9 hd));have e:nG s=v:=by rw[←BM];exact VT hn (c9 hd)
       try simp only[go_sem,h1]
       repeat'(first|(with_reducible refine du ?_<;>simp only[go_sem,h2,aj,hb,aC])|(with_reducible refine aw ?_)|fail)
       all_goals simp[e]
def ot(p:ie)(t:List UInt8):ie:=
 if t=[105]∨t=[105,61,63,49]then {p with hR:=true}
 else if t=[105,61,63,48]then {p with hR:=false}
 else if t.length=3∧t.take 2=[117,61]∧48≤(t[2]?.getD 0).toNat∧(t[2]?.getD 0).toNat≤55 then {p with iw:=((t[2]?.getD 0).toNat:Int)-48}
 else p
def nH(p:ie)(t:List UInt8):ie:=ot p (nG t)
def y_(p:ie)(s:List UInt8):ie:=(Ae s 44).foldl nH (if mO p then p else n8)
theorem af7(s:List UInt8)(b:UInt8):(Ae s b).length≤s.length+1∧∀t∈Ae s b,t.length≤s.length:=by
 have h:∀(s:List UInt8) (q:List (List UInt8)×List UInt8) (n:Nat),(∀t∈q.1,t.length≤n)→q.2.length≤n→(∀t∈(s.foldl (nc b) q).1,t.length≤n+s.length)∧(s.foldl (nc b) q).2.length≤n+s.length:=by
  intro s
  induction s with
  |nil=>intro q n h1 h2;exact⟨fun t ht=>by have:=h1 t ht;simp;omega,by simp;omega⟩
  |cons x s dW=>
   intro q n h1 h2;have:=dW (nc b q x) (n+1) (by
    intro t ht;unfold nc at ht;split at ht
    ·rcases et.1 ht with ht|ht
     ·have:=h1 t ht;omega
     ·rw[List.mem_singleton.1 ht];omega
    ·have:=h1 t ht;omega) (by unfold nc;split<;>simp<;>omega)
   rw[List.foldl_cons,eW];exact⟨fun t ht=>by have:=this.1 t ht;omega,by omega⟩
 have h1:=OB b s ([],[]);have h2:=h s ([],[]) 0 (by simp) (by simp);simp only[ft]at h1;unfold Ae;refine⟨by rw[eG];simp only[o9,eW,ft];omega,fun t ht=>?_⟩;rcases et.1 ht with ht|ht
 ·have:=h2.1 t ht;omega
 ·rw[List.mem_singleton.1 ht];have:=h2.2;simp only[o9];omega
theorem XP(n6:Int)(n7:Bool)(s:List UInt8)(hl:s.length≤1000):aJ 238 [.agg [.int .i64 n6,.bool n7],.one (.str s)] [.agg [.int .i64 (y_ (⟨n6,n7⟩:ie) s).iw,.bool (y_ (⟨n6,n7⟩:ie) s).hR]]:=by
 refine aN 62 Tryz.func238 Tryz.call238 [.cell 4 61] ?_;intro ok;clear ok;obtain⟨cM,dI⟩:=af7 s 44;have bm:=af3 s 44 (by omega);have ag:y_ (⟨n6,n7⟩:ie) s=(Ae s 44).foldl nH (if mO (⟨n6,n7⟩:ie)then(⟨n6,n7⟩:ie)else n8):=rfl;obtain⟨o_,ef⟩:∃o_,o_=(if mO (⟨n6,n7⟩:ie)then(⟨n6,n7⟩:ie)else n8):=⟨_,rfl⟩;rw[←ef]at ag;generalize Ae s 44=l at *;simp only[show((44:UInt8).toNat:Int)=44 from rfl]at bm
 cases aU:mO (⟨n6,n7⟩:ie)with
 |false=>
  try simp only[go_sem]
  repeat'((first|refine ab.intro (by first|assumption|apply FX|apply Vh) ?_|refine au.intro (by assumption) ?_)<;>simp only[go_sem,I,aU])
  refine b7.intro (fun i:Nat=>⟨(.ak::.ak::.ptr 0 0 0::.ak::.ptr 1 0 0::.sl 2 0 l.length::.i i::jn 55 []),[.box [.d (.int .i64 ((l.take i).foldl nH o_).iw),.d (.bool ((l.take i).foldl nH o_).hR)],.box [.i 0,.d (.bool false)],.ar 1 (l.map mu) true]⟩)
   (fun i=>l.length-i) (fun i=>i≤l.length) 0 [0,1,2] (by omega) ?_ ?_
  ·simp only[go_sem];simp[ef,aU,n8]
  ·intro i hi;by_cases h1:i<l.length
   ·have ax:decide ((i:Int)<(l.length:Int))=true:=bp (by omega);have aq:=b5 mu l i h1;have hw:IntKind.i64.wrap ((i:Int)+1)=((i+1:Nat):Int):=by rw[bz]<;>omega
    have hs:=Jp nH o_ l i h1;have nm:nH ((l.take i).foldl nH o_) l[i]=ot ((l.take i).foldl nH o_) (nG l[i]):=rfl;have cR:=VU l[i] (by have:=dI _ (eR h1);omega);rw[nm]at hs;generalize (l.take i).foldl nH o_=q at *;generalize nG l[i]=t at *
    try simp only[go_sem,I,aC,aq,mu,ax]
    repeat'(first|((first|refine ab.intro (by assumption) ?_|refine au.intro (by assumption) ?_|refine a7 ?_)<;>simp only[go_sem])|(with_reducible refine aw ?_)|fail)
    by_cases cm:t=[105]∨t=[105,61,63,49]
    ·have hm:ot q t={q with hR:=true}:=by unfold ot;exact if_pos cm
     have eF:(bif decide (t=[105])then true else decide (t=[105,61,63,49]))=true:=by rcases cm with h|h<;>simp[h]
     simp only[eF]
     try simp only[go_sem]
     repeat'((first|refine ab.intro (by assumption) ?_|refine au.intro (by assumption) ?_)<;>simp only[go_sem,I])
     refine bA.intro (i+1) [0,1,2] (by omega) (by omega) ?_;simp only[go_sem,hw,hs,hm];simp
    ·have eF:(bif decide (t=[105])then true else decide (t=[105,61,63,49]))=false:=by simp only[not_or]at cm;simp[cm.1,cm.2]
     simp only[eF];by_cases cB:t=[105,61,63,48]
     ·have hm:ot q t={q with hR:=false}:=by unfold ot;exact(if_neg cm).trans (if_pos cB)
      have eS:decide (t=[105,61,63,48])=true:=bp cB
      try simp only[go_sem,eS]
      repeat'((first|refine ab.intro (by assumption) ?_|refine au.intro (by assumption) ?_)<;>simp only[go_sem,I,eS])
      refine bA.intro (i+1) [0,1,2] (by omega) (by omega) ?_;simp only[go_sem,hw,hs,hm];simp
     ·have eS:decide (t=[105,61,63,48])=false:=bo cB;have hm:ot q t=if t.length=3∧t.take 2=[117,61]∧48≤(t[2]?.getD 0).toNat∧(t[2]?.getD 0).toNat≤55 then {q with iw:=((t[2]?.getD 0).toNat:Int)-48}else q:=by unfold ot;exact(if_neg cm).trans (if_neg cB)
      by_cases cx:t.length=3
      ·have ew:decide ((t.length:Int)=3)=true:=bp (by omega)
       try simp only[go_sem,eS,ew]
       repeat'(first|((first|refine ab.intro (by assumption) ?_|refine au.intro (by assumption) ?_|with_reducible refine du ?_|refine a7 ?_|refine bt (fun h=>?_) (fun h=>?_))<;>simp only[go_sem])|(with_reducible refine aw ?_)|fail)
       ·have hh:t.take 2=[117,61]∧48≤(t[2]?.getD 0).toNat∧(t[2]?.getD 0).toNat≤55:=by
         simp only[cw,bP,b2,and_assoc]at h;exact⟨h.1,by omega,by omega⟩
        rw[if_pos ⟨cx,hh⟩]at hm;have ah:IntKind.u8.wrap (((t[2]?.getD 0).toNat:Int)-48)=((t[2]?.getD 0).toNat:Int)-48:=Ms (by omega) (by omega);have ai:IntKind.i64.wrap (((t[2]?.getD 0).toNat:Int)-48)=((t[2]?.getD 0).toNat:Int)-48:=by rw[bz]<;>omega
        refine bA.intro (i+1) [0,1,2] (by omega) (by omega) ?_;simp only[go_sem,hw,hs,hm,ah,ai];simp
       ·have hh:¬(t.length=3∧t.take 2=[117,61]∧48≤(t[2]?.getD 0).toNat∧(t[2]?.getD 0).toNat≤55):=by
         rintro⟨_,cC,c8,fs⟩;have OC:decide (48≤((t[2]?.getD 0).toNat:Int))=true:=bp (by omega);have OD:decide (((t[2]?.getD 0).toNat:Int)≤55)=true:=bp (by omega);rw[OC,OD,bp cC]at h
         cases h
        rw[if_neg hh]at hm;refine bA.intro (i+1) [0,1,2] (by omega) (by omega) ?_;simp only[go_sem,hw,hs,hm];simp
      ·have ew:decide ((t.length:Int)=3)=false:=bo (by omega);rw[if_neg (fun h=>cx h.1)]at hm
       try simp only[go_sem,eS,ew]
       repeat'((first|refine ab.intro (by assumption) ?_|refine au.intro (by assumption) ?_|with_reducible refine e5 ?_)<;>simp only[go_sem])
       all_goals(refine bA.intro (i+1) [0,1,2] (by omega) (by omega) ?_;simp only[go_sem,hw,hs,hm];simp)
   ·have ax:decide ((i:Int)<(l.length:Int))=false:=bo (by omega);obtain rfl:i=l.length:=by omega
    rw[d_]
    try simp only[go_sem,ax]
    repeat'((first|refine ab.intro (by assumption) ?_|refine au.intro (by assumption) ?_)<;>simp only[go_sem,I,ax])
    all_goals simp[ag]
 |true=>
  try simp only[go_sem]
  repeat'((first|refine ab.intro (by first|assumption|apply FX) ?_|refine au.intro (by assumption) ?_)<;>simp only[go_sem,I,aU])
  refine b7.intro (fun i:Nat=>⟨(.ak::.ak::.ptr 0 0 0::.ak::.ptr 1 0 0::.sl 2 0 l.length::.i i::jn 55 []),[.box [.d (.int .i64 ((l.take i).foldl nH o_).iw),.d (.bool ((l.take i).foldl nH o_).hR)],.box [.i 0,.d (.bool false)],.ar 1 (l.map mu) true]⟩)
   (fun i=>l.length-i) (fun i=>i≤l.length) 0 [0,1,2] (by omega) ?_ ?_
  ·simp only[go_sem];simp[ef,aU]
  ·intro i hi;by_cases h1:i<l.length
   ·have ax:decide ((i:Int)<(l.length:Int))=true:=bp (by omega);have aq:=b5 mu l i h1;have hw:IntKind.i64.wrap ((i:Int)+1)=((i+1:Nat):Int):=by rw[bz]<;>omega
    have hs:=Jp nH o_ l i h1;have nm:nH ((l.take i).foldl nH o_) l[i]=ot ((l.take i).foldl nH o_) (nG l[i]):=rfl;have cR:=VU l[i] (by have:=dI _ (eR h1);omega);rw[nm]at hs;generalize (l.take i).foldl nH o_=q at *;generalize nG l[i]=t at *
    try simp only[go_sem,I,aC,aq,mu,ax]
    repeat'(first|((first|refine ab.intro (by assumption) ?_|refine au.intro (by assumption) ?_|refine a7 ?_)<;>simp only[go_sem])|(with_reducible refine aw ?_)|fail)
    by_cases cm:t=[105]∨t=[105,61,63,49]
    ·have hm:ot q t={q with hR:=true}:=by unfold ot;exact if_pos cm
     have eF:(bif decide (t=[105])then true else decide (t=[105,61,63,49]))=true:=by rcases cm with h|h<;>simp[h]
     simp only[eF]
     try simp only[go_sem]
     repeat'((first|refine ab.intro (by assumption) ?_|refine au.intro (by assumption) ?_)<;>simp only[go_sem,I])
     refine bA.intro (i+1) [0,1,2] (by omega) (by omega) ?_;simp only[go_sem,hw,hs,hm];simp
    ·have eF:(bif decide (t=[105])then true else decide (t=[105,61,63,49]))=false:=by simp only[not_or]at cm;simp[cm.1,cm.2]
     simp only[eF];by_cases cB:t=[105,61,63,48]
     ·have hm:ot q t={q with hR:=false}:=by unfold ot;exact(if_neg cm).trans (if_pos cB)
      have eS:decide (t=[105,61,63,48])=true:=bp cB
      try simp only[go_sem,eS]
      repeat'((first|refine ab.intro (by assumption) ?_|refine au.intro (by assumption) ?_)<;>simp only[go_sem,I,eS])
      refine bA.intro (i+1) [0,1,2] (by omega) (by omega) ?_;simp only[go_sem,hw,hs,hm];simp
     ·have eS:decide (t=[105,61,63,48])=false:=bo cB;have hm:ot q t=if t.length=3∧t.take 2=[117,61]∧48≤(t[2]?.getD 0).toNat∧(t[2]?.getD 0).toNat≤55 then {q with iw:=((t[2]?.getD 0).toNat:Int)-48}else q:=by unfold ot;exact(if_neg cm).trans (if_neg cB)
      by_cases cx:t.length=3
      ·have ew:decide ((t.length:Int)=3)=true:=bp (by omega)
       try simp only[go_sem,eS,ew]
       repeat'(first|((first|refine ab.intro (by assumption) ?_|refine au.intro (by assumption) ?_|with_reducible refine du ?_|refine a7 ?_|refine bt (fun h=>?_) (fun h=>?_))<;>simp only[go_sem])|(with_reducible refine aw ?_)|fail)
       ·have hh:t.take 2=[117,61]∧48≤(t[2]?.getD 0).toNat∧(t[2]?.getD 0).toNat≤55:=by
         simp only[cw,bP,b2,and_assoc]at h;exact⟨h.1,by omega,by omega⟩
        rw[if_pos ⟨cx,hh⟩]at hm;have ah:IntKind.u8.wrap (((t[2]?.getD 0).toNat:Int)-48)=((t[2]?.getD 0).toNat:Int)-48:=Ms (by omega) (by omega);have ai:IntKind.i64.wrap (((t[2]?.getD 0).toNat:Int)-48)=((t[2]?.getD 0).toNat:Int)-48:=by rw[bz]<;>omega
        refine bA.intro (i+1) [0,1,2] (by omega) (by omega) ?_;simp only[go_sem,hw,hs,hm,ah,ai];simp
       ·have hh:¬(t.length=3∧t.take 2=[117,61]∧48≤(t[2]?.getD 0).toNat∧(t[2]?.getD 0).toNat≤55):=by
         rintro⟨_,cC,c8,fs⟩;have OC:decide (48≤((t[2]?.getD 0).toNat:Int))=true:=bp (by omega);have OD:decide (((t[2]?.getD 0).toNat:Int)≤55)=true:=bp (by omega);rw[OC,OD,bp cC]at h
         cases h
        rw[if_neg hh]at hm;refine bA.intro (i+1) [0,1,2] (by omega) (by omega) ?_;simp only[go_sem,hw,hs,hm];simp
      ·have ew:decide ((t.length:Int)=3)=false:=bo (by omega);rw[if_neg (fun h=>cx h.1)]at hm
       try simp only[go_sem,eS,ew]
       repeat'((first|refine ab.intro (by assumption) ?_|refine au.intro (by assumption) ?_|with_reducible refine e5 ?_)<;>simp only[go_sem])
       all_goals(refine bA.intro (i+1) [0,1,2] (by omega) (by omega) ?_;simp only[go_sem,hw,hs,hm];simp)
   ·have ax:decide ((i:Int)<(l.length:Int))=false:=bo (by omega);obtain rfl:i=l.length:=by omega
    rw[d_]
    try simp only[go_sem,ax]
    repeat'((first|refine ab.intro (by assumption) ?_|refine au.intro (by assumption) ?_)<;>simp only[go_sem,I,ax])
    all_goals simp[ag]
set_option maxRecDepth 100000
def B5(c:J)(id:Int):Bool:=kh c id&&oF (aS c id).send
def AF(c:J)(id:Int):J:=if B5 c id then {c with streams:=putS c.streams (gY (aS c id) (wk (aS c id).send))}else c
theorem XM(c:J)(id:Int)(hz:gG c)(hw:eO (gY (aS c id) (wk (aS c id).send))):aJ 174 [.agg (J.enc c),.one (.int .i64 id)] [.agg (J.enc ((AF c id))),.one (.bool (B5 c id))]:=by
 refine aN 49 Tryz.func174 Tryz.call174 [.cell 4 37,.tmp 5] ?_;intro ok;clear ok;have i':=iE hz;have bm:AF c id=if B5 c id then {c with streams:=putS c.streams (gY (aS c id) (wk (aS c id).send))}else c:=rfl
 have bT:B5 c id=(kh c id&&oF (aS c id).send):=rfl;have bM:=GR c id;obtain⟨dy,dT,c2,d'⟩:=nO hz.2.1 id;have cT:=mU c id hz;rw[show(strOf c.streams id).1=aS c id from rfl]at dy dT c2 d' cT;have hK:=l3 c.streams (gY (aS c id) (wk (aS c id).send)) (by have:=hz.1;omega) hz.2.1 hw;generalize aS c id=s at *
 try simp only[go_sem]
 repeat'((first|refine ab.af (by first|assumption|(apply gb<;>exact aP)|(apply v7<;>exact aP)) ?_|refine au.af (by assumption) ?_|refine a7 ?_)<;>simp only[go_sem,I])
 rw[bM]
 cases hg:kh c id with
 |false=>
  rw[hg,Bool.false_and]at bT;rw[bT]at bm
  try simp only[go_sem,I,cc]
  repeat'(first|((first|refine ab.af (by assumption) ?_|refine au.af (by assumption) ?_)<;>simp only[go_sem,I,cc])|(with_reducible refine aw ?_)|fail)
  all_goals simp[bm,bT]
 |true=>
  rw[hg,Bool.true_and]at bT
  try simp only[go_sem,I,bS]
  repeat'((first|refine ab.af (by first|assumption|(apply XN<;>exact aP)) ?_|refine au.af (by assumption) ?_)<;>simp only[go_sem,I])
  cases hr:oF s.send with
  |false=>
   rw[hr]at bT;rw[bT]at bm
   try simp only[go_sem,I,cc]
   repeat'(first|((first|refine ab.af (by assumption) ?_|refine au.af (by assumption) ?_)<;>simp only[go_sem,I,cc])|(with_reducible refine aw ?_)|fail)
   all_goals simp[bm,bT]
  |true=>
   rw[hr]at bT;rw[bT]at bm
   try simp only[go_sem,I,bS]
   repeat'(first|((first|refine ab.af (by assumption) ?_|refine au.af (by assumption) ?_)<;>simp only[go_sem,I,gY])|(with_reducible refine aw ?_)|fail)
   all_goals simp[bm,bT,gY]
def kE(c:J)(id:Int)(t:List UInt8):J:=if kh c id then {c with streams:=putS c.streams {aS c id with priority:=y_ (aS c id).priority t}}else c
theorem XO(c:J)(id:Int)(t:List UInt8)(hz:gG c)(ht:t.length≤1000):aJ 177 [.agg (J.enc c),.one (.int .i64 id),.one (.str t)] [.agg (J.enc ((kE c id t))),.one (.bool (kh c id))]:=by
 refine aN 43 Tryz.func177 Tryz.call177 [.cell 6 37,.tmp 7] ?_;intro ok;clear ok;have i':=iE hz;have bm:kE c id t=if kh c id then {c with streams:=putS c.streams {aS c id with priority:=y_ (aS c id).priority t}}else c:=rfl
 have bM:=GR c id;have y':eO (aS c id):=nO hz.2.1 id;have cT:=mU c id hz;rw[show(strOf c.streams id).1=aS c id from rfl]at cT;have hK:=l3 c.streams {aS c id with priority:=y_ (aS c id).priority t} (by have:=hz.1;omega) hz.2.1 y';generalize aS c id=s at *;obtain⟨dy,dT,c2,d'⟩:=y'
 try simp only[go_sem]
 repeat'((first|refine ab.af (by first|assumption|(apply gb<;>exact aP)|(apply v7<;>exact aP)) ?_|refine au.af (by assumption) ?_|refine a7 ?_)<;>simp only[go_sem,I])
 rw[bM]
 cases hg:kh c id with
 |false=>
  rw[hg]at bm
  try simp only[go_sem,I,cc]
  repeat'(first|((first|refine ab.af (by assumption) ?_|refine au.af (by assumption) ?_)<;>simp only[go_sem,I,cc])|(with_reducible refine aw ?_)|fail)
  all_goals simp[bm]
 |true=>
  rw[hg]at bm
  try simp only[go_sem,bS]
  repeat'(first|((first|refine ab.af (by first|assumption|(apply XP<;>exact aP)) ?_|refine au.af (by assumption) ?_)<;>simp only[go_sem,I])|(with_reducible refine aw ?_)|fail)
  all_goals simp[bm]
def jD(c:J)(u:Bool):gZ:=if u then c.e6 else c.e7
def va(c:J):Bool:=kb c&&!decide (24≤(c.streams.length:Int))
def mm(c:J)(u:Bool):J:=if u then {c with e6:=oG c.e6}else {c with e7:=oG c.e7}
def xH(c:J)(u:Bool):Bool:=va c&&mn (jD c u)
def vd(c:J)(u:Bool):Int:=if xH c u then ve (pj (jD c u)) c.bV u else -1
def ki(c:J)(u:Bool):J:=
 if va c then(if mn (jD c u)then {mm c u with streams:=putS c.streams (eX c.bV (ve (pj (jD c u)) c.bV u) c.own c.peer)}else mm c u)else c
theorem XQ(c:J):(bif !kb c then true else decide (24≤(c.streams.length:Int)))=!va c:=by
 unfold va
 cases kb c<;>cases decide (24≤(c.streams.length:Int))<;>rfl
theorem XR(c:J)(u:Bool)(hz:gG c):aJ 171 [.agg (J.enc c),.one (.bool u)] [.one (.int .i64 (vd c u)),.agg (J.enc ((ki c u))),.one (.bool (xH c u))]:=by
 refine aN 69 Tryz.func171 Tryz.call171 [.tmp 4,.cell 5 37,.tmp 6] ?_;intro ok;clear ok;have i':=iE hz;have bm:ki c u=if va c then(if mn (jD c u)then {mm c u with streams:=putS c.streams (eX c.bV (ve (pj (jD c u)) c.bV u) c.own c.peer)}else mm c u)else c:=rfl
 have bT:xH c u=(va c&&mn (jD c u)):=rfl;have aU:vd c u=if xH c u then ve (pj (jD c u)) c.bV u else -1:=rfl
 have bM:=XQ c;have hK:=l3 c.streams (eX c.bV (ve (pj (jD c u)) c.bV u) c.own c.peer) (by have:=hz.1;omega) hz.2.1 (xI _ _ _ _)
 try simp only[go_sem]
 repeat'((first|refine ab.af (by first|assumption|(apply gb<;>exact aP)|(apply v7<;>exact aP)) ?_|refine au.af (by assumption) ?_|refine a7 ?_)<;>simp only[go_sem,I])
 rw[bM]
 cases hg:va c with
 |false=>
  rw[hg]at bm;rw[hg,Bool.false_and]at bT;rw[bT]at aU
  try simp only[go_sem,cc]
  repeat'(first|((first|refine ab.af (by assumption) ?_|refine au.af (by assumption) ?_|refine ba [[.post,.dv,.post,.post],[.dv,.post,.post,.post],[.pre,.pre,.post,.post],[.pre,.pre,.pre,.post]] (by kernel_rfl) (by rfl) ?_)<;>simp only[go_sem,I])|(with_reducible refine aw ?_)|fail)
  all_goals simp[bm,bT,aU]
 |true=>
  rw[hg]at bm;rw[hg,Bool.true_and]at bT
  cases u with
  |true=>
   have ah:jD c true=c.e6:=rfl;have ai:mm c true={c with e6:=oG c.e6}:=rfl;rw[ah]at bm bT aU hK;rw[ai]at bm
   try simp only[go_sem,bS]
   repeat'((first|refine ab.af (by first|assumption|apply PZ) ?_|refine au.af (by assumption) ?_)<;>simp only[go_sem])
   cases av:mn c.e6 with
   |false=>
    rw[av]at bm bT;rw[bT]at aU
    try simp only[go_sem,cc]
    repeat'(first|((first|refine ab.af (by assumption) ?_|refine au.af (by assumption) ?_|refine ba [[.post,.dv,.post,.post],[.dv,.post,.post,.post],[.pre,.pre,.post,.post],[.pre,.pre,.pre,.post]] (by kernel_rfl) (by rfl) ?_)<;>simp only[go_sem,I])|(with_reducible refine aw ?_)|fail)
    all_goals simp[bm,bT,aU]
   |true=>
    rw[av]at bm bT;rw[bT]at aU
    try simp only[go_sem,bS]
    repeat'(first|((first|refine ab.af (by first|assumption|apply P0|apply GS) ?_|refine au.af (by assumption) ?_|refine ba [[.post,.dv,.post,.post,.post],[.dv,.post,.dv,.post,.post],[.pre,.dv,.post,.post,.post],[.pre,.pre,.pre,.post,.post],[.pre,.pre,.pre,.pre,.post]] (by kernel_rfl) (by rfl) ?_)<;>simp only[go_sem,I])|(with_reducible refine aw ?_)|fail)
    all_goals simp[bm,bT,aU]
  |false=>
   have ah:jD c false=c.e7:=rfl;have ai:mm c false={c with e7:=oG c.e7}:=rfl;rw[ah]at bm bT aU hK;rw[ai]at bm
   try simp only[go_sem,bS]
   repeat'((first|refine ab.af (by first|assumption|apply PZ) ?_|refine au.af (by assumption) ?_)<;>simp only[go_sem])
   cases av:mn c.e7 with
   |false=>
    rw[av]at bm bT;rw[bT]at aU
    try simp only[go_sem,cc]
    repeat'(first|((first|refine ab.af (by assumption) ?_|refine au.af (by assumption) ?_|refine ba [[.post,.dv,.post,.post],[.dv,.post,.post,.post],[.pre,.pre,.post,.post],[.pre,.pre,.pre,.post]] (by kernel_rfl) (by rfl) ?_)<;>simp only[go_sem,I])|(with_reducible refine aw ?_)|fail)
    all_goals simp[bm,bT,aU]
   |true=>
    rw[av]at bm bT;rw[bT]at aU
    try simp only[go_sem,bS]
    repeat'(first|((first|refine ab.af (by first|assumption|apply P0|apply GS) ?_|refine au.af (by assumption) ?_|refine ba [[.post,.dv,.post,.post,.post],[.dv,.post,.dv,.post,.post],[.pre,.dv,.post,.post,.post],[.pre,.pre,.pre,.post,.post],[.pre,.pre,.pre,.pre,.post]] (by kernel_rfl) (by rfl) ?_)<;>simp only[go_sem,I])|(with_reducible refine aw ?_)|fail)
    all_goals simp[bm,bT,aU]
theorem YC{m:Nat}{c:J}(h:cl m c)(id:Int):cl m (AF c id):=by
 unfold AF;split
 ·rename_i hg;simp only[B5,bP]at hg;exact z7 (id:=id) h (z' hg.1) rfl ((h.aS id).Bz (UG (h.aS id).snd))
 ·exact h
theorem YF{m:Nat}{c:J}(h:cl m c)(id:Int)(t:List UInt8):cl m (kE c id t):=by
 unfold kE;split
 ·rename_i hg;exact z7 (id:=id) (s:={aS c id with priority:=y_ (aS c id).priority t}) h (z' hg) rfl ((h.aS id).same rfl rfl)
 ·exact h
theorem aeq(c:J)(u:Bool):(mm c u).streams=c.streams∧(mm c u).packets=c.packets:=by unfold mm;split<;>exact⟨rfl,rfl⟩
theorem YA{m:Nat}{c:J}(h:cl m c)(u:Bool):cl m (ki c u):=by
 unfold ki;obtain⟨gh,h3⟩:=aeq c u;split
 ·rename_i hg;split
  ·simp only[va,bP,Bool.not_eq_true',dN]at hg;have hl:=AI c.streams (eX c.bV (ve (pj (jD c u)) c.bV u) c.own c.peer);refine⟨by simp only;omega,fun x hx=>?_,by simp only[h3];exact h.wA,by simp only[h3];exact h.kt⟩;rcases G0 hx with hx|rfl
   ·exact h.n1 x hx
   ·exact UJ m _ _ _ _
  ·exact h.same gh h3
 ·exact h
inductive nQ(c:J):J→Prop
 |same:nQ c c
 |He (u:Bool):nQ c (ki c u)
 |write (id:Int) (d:List UInt8) (h:d.length≤8):nQ c (gK c id d)
 |a2 (id:Int):nQ c (AF c id)
 |read (id k:Int):nQ c (kH c id k)
 |reset (id k:Int):nQ c (kF c id k)
 |K7 (id:Int) (t:List UInt8):nQ c (kE c id t)
 |em (b:Int):nQ c (gn c b)
 |hf (f:ao) (h:f.data.length≤8) (av:0≤f.offset∧f.offset≤900):nQ c (wq c f)
 |K8 (n:Int):nQ c (Av c n)
 |K9 (n:Int):nQ c (At c n)
theorem Yz{m:Nat}{x y:J}(h:cl m x)(hm:m≤1000)(hs:nQ x y):cl (m+1) y:=by
 cases hs with
 |same=>exact h.mono (by omega)
 |He u=>exact YA (h.mono (by omega)) u
 |write id d hd=>exact YB h id hd
 |a2 id=>exact(YC h id).mono (by omega)
 |read id k=>exact(YD h id k).mono (by omega)
 |reset id k=>exact(YE h id k).mono (by omega)
 |K7 id t=>exact(YF h id t).mono (by omega)
 |em b=>exact YG h hm b
 |hf f hd av=>exact YH h hd av
 |K8 n=>exact(YI h n).mono (by omega)
 |K9 n=>exact(YJ h n).mono (by omega)
inductive Drawn:Nat→J→Prop
 |new (v:Bool) (o p:bW):Drawn 0 (kY v o p)
 |step {k:Nat} {x y:J}:Drawn k x→nQ x y→Drawn (k+1) y
theorem Drawn.mono{k j:Nat}{x:J}(h:Drawn k x)(hk:k≤j):Drawn j x:=by
 obtain⟨d,rfl⟩:=Nat.le.dest hk;clear hk
 induction d with
 |zero=>exact h
 |succ d dW=>exact dW.step .same
theorem Drawn.zb{k:Nat}{x:J}(h:Drawn k x)(hk:k≤1000):cl k x:=by
 induction h with
 |new v o p=>exact YK v o p
 |step _ hs dW=>exact Yz (dW (by omega)) (by omega) hs
def oA(y:J):Prop:=∃x a b c d,Drawn 14 x∧y={x with closed:=a,h8:=b,cY:={x.cY with used:=c},number:=d}
theorem oA.zb{y:J}(h:oA y):cl 14 y:=by
 obtain⟨x,a,b,c,d,h,rfl⟩:=h;exact(h.zb (by omega)).same rfl rfl
set_option maxRecDepth 100000
theorem KB(bs:List Int)(hm:bs.length≤maxLen)(i:Nat)(h:Int)(pre a6:List H)(kv:List V)(n:Nat)(hn:pre.length+(a6.length+1)=n)(hr:roks n pre∧roks n a6)(bu:bg n kv)(K:V→List H→Prop)(hi:i≤bs.length)
  (hk:∀(cr:Nat) (h':Int) (c:bW),cr≤bs.length→K (.agg (bW.bE c)) (pre++cD bs cr h'::a6)):dx Tryz.prog 111 kv (pre++cD bs i h::a6) [.ptr pre.length 0 0] K:=by
 have a2:∀(cr:Nat) (h':Int) (c:bW) (ex:List H),cr≤bs.length→pe kv K (.agg (bW.bE c)) (pre++cD bs cr h'::(a6++ex)):=by
  intro cr h' c ex dC;subst hn;exact⟨List.range (pre.length+(a6.length+1)),.agg (bW.bE c),pre++cD bs cr h'::a6,Cb hr bu (by simp only[bW.bE,vsees,vsee,ren,rens,and_true]) (by simp[bg,vok]),hk cr h' c dC⟩
 refine dx.nh ?_;refine(fc (n:=19) (rs:=[.cell 2 25]) Tryz.func111 rfl Tryz.call111 b1 rfl rfl ?_);simp only[go_sem,gm,ez];refine ab.intro Yu ?_;simp only[go_sem,ez,dU];refine ab.inl (kc bs hm i h pre (a6++[.box bW.bw,.box (bW.bE Cc)]) _ 3 (by omega) (by omega) _ hi fun fm h1 x1 cm eF cM=>?_);simp only[go_sem];refine bt (fun q=>?_) (fun q=>?_)
 ·simp only[go_sem,ez,dU,eY,fG];exact a2 fm h1 {Cc with ring:=8,bX:=4,cY:=6,jE:=1} _ cm
 ·simp only[go_sem];refine bt (fun bb=>?_) (fun bb=>?_)
  ·simp only[go_sem,ez,dU,eY,fG];exact a2 fm h1 {Cc with jE:=3,ey:=1,g7:=2} _ cm
  ·simp only[go_sem,ez,dU,eY,fG];exact a2 fm h1 Cc _ cm
theorem Yv(bs:List Int)(hm:bs.length≤maxLen)(i:Nat)(h:Int)(pre a6:List H)(kv:List V)(n:Nat)(hn:pre.length+(a6.length+1)=n)(hr:roks n pre∧roks n a6)(bu:bg n kv)(K:V→List H→Prop)(hi:i≤bs.length)
  (hk:∀(cr:Nat) (h':Int) (f:ao),cr≤bs.length→f.data.length≤6→0≤f.offset→f.offset≤11→K (.agg (ao.bE f)) (pre++cD bs cr h'::a6)):dx Tryz.prog 180 kv (pre++cD bs i h::a6) [.ptr pre.length 0 0] K:=by
 have a2:∀(cr:Nat) (h':Int) (f:ao) (ex:List H),cr≤bs.length→f.data.length≤6→0≤f.offset→f.offset≤11→pe kv K (.agg (ao.bE f)) (pre++cD bs cr h'::(a6++ex)):=by
  intro cr h' f ex dC cC c8 fs;subst hn;exact⟨List.range (pre.length+(a6.length+1)),.agg (ao.bE f),pre++cD bs cr h'::a6,Cb hr bu (by simp only[ao.bE,vsees,vsee,ren,rens,and_true]) (by simp[bg,vok]),hk cr h' f dC cC c8 fs⟩
 have D5:∀l:List H,roks (pre.length+((a6++l).length+1)) l→roks (pre.length+((a6++l).length+1)) pre∧roks (pre.length+((a6++l).length+1)) (a6++l):=by
  intro l hl;have e:n≤pre.length+((a6++l).length+1):=by simp only[eG];omega
  exact⟨x9 e hr.1,Ca (x9 e hr.2) hl⟩
 have Yw:∀k,n≤k→bg k kv:=fun k hk=>kV hk _ bu;refine dx.nh ?_;refine(fc (n:=34) (rs:=[.cell 2 125]) Tryz.func180 rfl Tryz.call180 b1 rfl rfl ?_);simp only[go_sem,gm,ez,dU];refine ab.inl (v8 bs hm i h pre (a6++[.box ao.bw,.ar 1 ([4,5,8,8,8,8,16,17,18,20,21,22].map aW) true]) _ (a6.length+1) [4,5,8,8,8,8,16,17,18,20,21,22] (by rw[dU];rfl) (by decide) (by decide) _ hi fun fm h1 x1 cm eF=>?_);simp only[go_sem,ez,dU];refine ab.inl (kc bs hm fm h1 pre (a6++[.box ao.bw,.ar 1 ([4,5,8,8,8,8,16,17,18,20,21,22].map aW) true,.box [.i x1,.i 0,.i 0,.d (.str []),.d (.bool false),.i 0,.i 0,.i 0,.d (.bool false)]]) _ 8 (by omega) (by omega) _ cm fun dM h2 x2 cB eS dI=>?_);simp only[go_sem,ez,dU];refine ab.inl (kc bs hm dM h2 pre (a6++[.box ao.bw,.ar 1 ([4,5,8,8,8,8,16,17,18,20,21,22].map aW) true,.box [.i x1,.i x2,.i 0,.d (.str []),.d (.bool false),.i 0,.i 0,.i 0,.d (.bool false)]]) _ 12 (by omega) (by omega) _ cB fun ek aj gj cx ew jj=>?_);simp only[go_sem,ez,dU];refine ab.ij [0,2,3] (by simp only[keepT,List.elem_cons,List.elem_nil,Nat.reduceBEq,Nat.reduceAdd,cond_true,cond_false];rfl) (KV bs hm ek aj pre (a6++[.box ao.bw,.ar 1 ([4,5,8,8,8,8,16,17,18,20,21,22].map aW) true,.box [.i x1,.i x2,.i gj,.d (.str []),.d (.bool false),.i 0,.i 0,.i 0,.d (.bool false)]]) _ 6 (D5 _ (by simp[roks,rok,bg,vok])) (by
  simp only[eG,eW,ft,bB,bx,bg,vok,true_and];have hq:=Yw (pre.length+(a6.length+(0+1+1+1)+1)) (by omega);simp only[hq,and_true];omega) (by omega) _ cx fun iL aE d' e0 l2=>?_)
 simp only[go_sem,ez,dU];refine ab.inl (wm bs hm iL aE pre (a6++[.box ao.bw,.ar 1 ([4,5,8,8,8,8,16,17,18,20,21,22].map aW) true,.box [.i x1,.i x2,.i gj,.d (.str d'),.d (.bool false),.i 0,.i 0,.i 0,.d (.bool false)]]) _ 4 (by omega) (by omega) _ e0 fun DV b3 mv gI=>?_);simp only[go_sem,ez,dU];refine ab.inl (kc bs hm DV b3 pre (a6++[.box ao.bw,.ar 1 ([4,5,8,8,8,8,16,17,18,20,21,22].map aW) true,.box [.i x1,.i x2,.i gj,.d (.str d'),.d (.bool mv),.i 0,.i 0,.i 0,.d (.bool false)]]) _ 5 (by omega) (by omega) _ gI fun GW e2 zi hL D7 Hd=>?_);simp only[go_sem,ez,dU];refine ab.inl (kc bs hm GW e2 pre (a6++[.box ao.bw,.ar 1 ([4,5,8,8,8,8,16,17,18,20,21,22].map aW) true,.box [.i x1,.i x2,.i gj,.d (.str d'),.d (.bool mv),.i zi,.i 0,.i 0,.d (.bool false)]]) _ 40 (by omega) (by omega) _ hL fun Yx j4 AP jz Cd ahn=>?_);simp only[go_sem,ez,dU];refine ab.inl (kc bs hm Yx j4 pre (a6++[.box ao.bw,.ar 1 ([4,5,8,8,8,8,16,17,18,20,21,22].map aW) true,.box [.i x1,.i x2,.i gj,.d (.str d'),.d (.bool mv),.i zi,.i AP,.i 0,.d (.bool false)]]) _ 14 (by omega) (by omega) _ jz fun i8 fY Ce jA AQ aho=>?_);simp only[go_sem,ez,dU];refine ab.inl (wm bs hm i8 fY pre (a6++[.box ao.bw,.ar 1 ([4,5,8,8,8,8,16,17,18,20,21,22].map aW) true,.box [.i x1,.i x2,.i gj,.d (.str d'),.d (.bool mv),.i zi,.i AP,.i Ce,.d (.bool false)]]) _ 2 (by omega) (by omega) _ jA fun Yy wo vn kW=>?_);simp only[go_sem,ez,dU];refine ab.intro (QI x1 x2 gj d' mv zi AP Ce vn) ?_;simp only[go_sem,ez,dU,eY,fG];have hu:(hD ⟨x1,x2,gj,d',mv,zi,AP,Ce,vn⟩).data.length≤6:=by simp only[hD];split<;>first|exact l2|simp
 have QJ:0≤(hD ⟨x1,x2,gj,d',mv,zi,AP,Ce,vn⟩).offset∧(hD ⟨x1,x2,gj,d',mv,zi,AP,Ce,vn⟩).offset≤11:=by simp only[hD];split<;>omega
 exact a2 Yy wo (hD ⟨x1,x2,gj,d',mv,zi,AP,Ce,vn⟩) _ kW hu QJ.1 QJ.2
set_option maxRecDepth 100000
theorem Qd(s:Bool)(xM xN xO xP xQ xR xS xT xU xV xW xX xY xZ x3 x4:Int):aJ 15 [.one (.bool s),.agg [.int .i64 xM,.int .i64 xN,.int .i64 xO,.int .i64 xP,.int .i64 xQ,.int .i64 xR,.int .i64 xS,.int .i64 xT],.agg [.int .i64 xU,.int .i64 xV,.int .i64 xW,.int .i64 xX,.int .i64 xY,.int .i64 xZ,.int .i64 x3,.int .i64 x4]] [.agg (J.enc (kY s (⟨xM,xN,xO,xP,xQ,xR,xS,xT⟩:bW) (⟨xU,xV,xW,xX,xY,xZ,x3,x4⟩:bW))),.one (.bool (eV (⟨xM,xN,xO,xP,xQ,xR,xS,xT⟩:bW)&&eV (⟨xU,xV,xW,xX,xY,xZ,x3,x4⟩:bW)))]:=by
 refine aN 85 Tryz.func15 Tryz.call15 [.cell 6 37,.tmp 7] ?_;intro _
 try simp only[go_sem]
 repeat'((first|refine ab.intro (by first|apply DX|apply Vd|apply Ve|apply aeS|apply aeT) ?_|refine au.intro (by apply DX) ?_|refine a7 ?_|refine bt (fun h=>?_) (fun h=>?_))<;>simp only[go_sem])
 all_goals(cases h1:eV (⟨xM,xN,xO,xP,xQ,xR,xS,xT⟩:bW)<;>cases h2:eV (⟨xU,xV,xW,xX,xY,xZ,x3,x4⟩:bW)<;>simp_all [kY])
set_option maxRecDepth 100000
theorem JL{S:List Bool}(h:S.length=9):∃fX cm cB cx e0 gI hL jz jA,S=[fX,cm,cB,cx,e0,gI,hL,jz,jA]:=by
 match S,h with|[fX,cm,cB,cx,e0,gI,hL,jz,jA],_=>exact⟨fX,cm,cB,cx,e0,gI,hL,jz,jA,rfl⟩
theorem JM{S:List Bool}(h:S.length=10):∃fX cm cB cx e0 gI hL jz jA kW,S=[fX,cm,cB,cx,e0,gI,hL,jz,jA,kW]:=by
 match S,h with|[fX,cm,cB,cx,e0,gI,hL,jz,jA,kW],_=>exact⟨fX,cm,cB,cx,e0,gI,hL,jz,jA,kW,rfl⟩
theorem W1{S:List Bool}(h:S.length=11):∃fX cm cB cx e0 gI hL jz jA kW oB,S=[fX,cm,cB,cx,e0,gI,hL,jz,jA,kW,oB]:=by
 match S,h with|[fX,cm,cB,cx,e0,gI,hL,jz,jA,kW,oB],_=>exact⟨fX,cm,cB,cx,e0,gI,hL,jz,jA,kW,oB,rfl⟩
def gH(y:J):List H:=[.ar 39 (y.streams.map ae.enc) true,.ar 2 (y.packets.map aD.enc) true]
def gR(y:J)(a:Nat):V:=.agg (J.vc y (.sl a 0 y.streams.length) (.sl (a+1) 0 y.packets.length))
def JN(K:V→List H→Prop):V→List H→Prop:=fun x hs'=>K x hs'∨∃id sz xs,aL hs' id=.af sz xs∧K x (b_ hs' id (.ar sz xs true))
theorem u6{kv:List V}(bu:bg 9 kv)(y:J)(a:Nat)(ha:9≤a){bU c bb bD bR bJ ch cZ dq:H}(hq:roks 9 [bU,c,bb,bD,bR,bJ,ch,cZ,dq]){ex:List H}{K:V→List H→Prop}(ah:aL (bU::c::bb::bD::bR::bJ::ch::cZ::dq::ex) a=.af 39 (y.streams.map ae.enc))(ai:aL (bU::c::bb::bD::bR::bJ::ch::cZ::dq::ex) (a+1)=.af 2 (y.packets.map aD.enc))
  (b6:K (gR y 9) ([bU,c,bb,bD,bR,bJ,ch,cZ,dq]++gH y)):pe kv (JN (JN K)) (gR y a) (bU::c::bb::bD::bR::bJ::ch::cZ::dq::ex):=by
 refine⟨List.range 9++[a,a+1],gR y 9,[bU,c,bb,bD,bR,bJ,ch,cZ,dq]++[H.af 39 (y.streams.map ae.enc),H.af 2 (y.packets.map aD.enc)],?_,Or.inr ⟨9,39,_,rfl,Or.inr ⟨10,2,_,rfl,b6⟩⟩⟩;refine Kx (hs:=[bU,c,bb,bD,bR,bJ,ch,cZ,dq]) (ex:=ex) [a,a+1] (by simp) (by simp;omega) hq ?_ (by simp[allOk,hok]) bu ?_ ?_
 ·simp only[bB,bx,hsees,ah,ai];simp[hsee]
 ·simp[gR,vsees,vsee,ren,rens,List.range,List.range.loop]
 ·simp[gR,bg,vok]
theorem Pf{kv:List V}(bu:bg 9 kv)(x:J){bU c bb bD bR bJ ch cZ dq:H}(hq:roks 9 [bU,c,bb,bD,bR,bJ,ch,cZ,dq]){ex:List H}{K:V→List H→Prop}(b6:K (gR x 9) ([bU,c,bb,bD,bR,bJ,ch,cZ,dq]++gH x)) :
  pe kv (JN (JN K)) (gR x 9) (bU::c::bb::bD::bR::bJ::ch::cZ::dq::.ar 39 (x.streams.map ae.enc) true::.ar 2 (x.packets.map aD.enc) true::ex):=by
 have hr:roks 11 ([bU,c,bb,bD,bR,bJ,ch,cZ,dq]++gH x):=Ca (x9 (m:=9) (n:=11) (by omega) hq) (by simp[gH,roks,rok]);refine⟨List.range 11,gR x 9,[bU,c,bb,bD,bR,bJ,ch,cZ,dq]++gH x,?_,Or.inl (Or.inl b6)⟩;refine BZ (hs:=[bU,c,bb,bD,bR,bJ,ch,cZ,dq]++gH x) (ex:=ex) hr (kV (by simp[gH]) _ bu) ?_ ?_
 ·simp[gR,gH,vsees,vsee,ren,rens,List.range,List.range.loop]
 ·simp[gR,gH,bg,vok]
def Gx(bU c bb bD bR bJ ch cZ dq:H)(x:J):List H:=[bU,c,bb,bD,bR,bJ,ch,cZ,dq,.ar 39 (x.streams.map ae.enc) true,.ar 2 (x.packets.map aD.enc) true,.box (J.vc x (.sl 9 0 x.streams.length) (.sl 10 0 x.packets.length)),.box J.bw]
def Pg(bs:List Int)(bU bb bD bR bJ ch cZ dq:H)(x:J)(id:Int)(i:Nat)(h:Int)(z:Nat×Int)(S:List Bool):St:=⟨(.ptr 1 0 0::.agg (J.vc x (.sl 9 0 x.streams.length) (.sl 10 0 x.packets.length))::.ak::.ptr 11 0 0::.ptr 12 0 0::(bif S.getD 10 false then .i z.2 else .i id)::jn 5 (.ptr 11 0 17::.sl 9 0 x.streams.length::.i x.streams.length::.d (.bool true)::(ay S 0 (.ptr 11 0 17))::(ay S 1 (.sl 9 0 x.streams.length))::(ay S 2 (.ptr 1 0 0))::(ay S 3 (.ptr 11 0 17))::(ay S 4 (.sl 9 0 x.streams.length))::(ay S 5 (.i x.streams.length))::(ay S 6 (.i z.1))::(ay S 7 (.ptr 9 z.1 0))::(ay S 8 (.ptr 9 z.1 0))::(ay S 9 (.i z.2))::jn 122 [])),[bU,cD bs i h,bb,bD,bR,bJ,ch,cZ,dq,.ar 39 (x.streams.map ae.enc) true,.ar 2 (x.packets.map aD.enc) true,.box (J.vc x (.sl 9 0 x.streams.length) (.sl 10 0 x.packets.length)),.box J.bw]⟩
def Ph(bs:List Int)(bU bb bD bR bJ ch cZ dq:H)(x:J)(id:Int)(i:Nat)(h:Int)(z:Bool)(S:List Bool):St:=⟨(.ptr 1 0 0::.ak::.ak::.ptr 11 0 0::.ptr 12 0 0::.i id::.ptr 13 0 0::jn 18 (.agg (J.vc x (.sl 9 0 x.streams.length) (.sl 10 0 x.packets.length))::.ptr 1 0 0::.i 0::.d (.bool true)::.d (.bool true)::(ay S 4 (.dV [.i (vd x z),.agg (J.vc (ki x z) (.sl 14 0 (ki x z).streams.length) (.sl 15 0 (ki x z).packets.length)),.d (.bool (xH x z))]))::(ay S 0 (.agg (J.vc x (.sl 9 0 x.streams.length) (.sl 10 0 x.packets.length))))::(ay S 1 (.ptr 1 0 0))::(ay S 2 (.d (.bool z)))::(ay S 3 (.dV [.i (vd x z),.agg (J.vc (ki x z) (.sl 14 0 (ki x z).streams.length) (.sl 15 0 (ki x z).packets.length)),.d (.bool (xH x z))]))::(ay S 5 (.i (vd x z)))::(ay S 6 (.agg (J.vc (ki x z) (.sl 14 0 (ki x z).streams.length) (.sl 15 0 (ki x z).packets.length))))::(ay S 7 (.d (.bool (xH x z))))::jn 109 [])),[bU,cD bs i h,bb,bD,bR,bJ,ch,cZ,dq,.ar 39 (x.streams.map ae.enc) true,.ar 2 (x.packets.map aD.enc) true,.box (J.vc x (.sl 9 0 x.streams.length) (.sl 10 0 x.packets.length)),.box J.bw,(bif S.getD 8 false then .box (J.vc (ki x z) (.sl 14 0 (ki x z).streams.length) (.sl 15 0 (ki x z).packets.length))else .box (J.vc x (.sl 9 0 x.streams.length) (.sl 10 0 x.packets.length)))]++(bif S.getD 3 false then [.af 39 ((ki x z).streams.map ae.enc),.af 2 ((ki x z).packets.map aD.enc)]else [])⟩
def Pj(bs:List Int)(bU bb bD bR bJ ch cZ dq:H)(x:J)(id:Int)(i:Nat)(h:Int)(z:List UInt8)(S:List Bool):St:=⟨(.ptr 1 0 0::.ak::.ak::.ptr 11 0 0::.ptr 12 0 0::.i id::.ptr 13 0 0::jn 18 (.agg (J.vc x (.sl 9 0 x.streams.length) (.sl 10 0 x.packets.length))::.ptr 1 0 0::.i 1::.d (.bool false)::.d (.bool false)::jn 8 (.d (.bool true)::.d (.bool true)::.ak::(ay S 5 (.dV [.i (za x id z),.agg (J.vc (gK x id z) (.sl 14 0 (gK x id z).streams.length) (.sl 15 0 (gK x id z).packets.length))]))::(ay S 0 (.agg (J.vc x (.sl 9 0 x.streams.length) (.sl 10 0 x.packets.length))))::(ay S 1 (.i id))::(ay S 2 (.ptr 1 0 0))::(ay S 3 (.d (.str z)))::(ay S 4 (.dV [.i (za x id z),.agg (J.vc (gK x id z) (.sl 14 0 (gK x id z).streams.length) (.sl 15 0 (gK x id z).packets.length))]))::(ay S 6 (.i (za x id z)))::(ay S 7 (.agg (J.vc (gK x id z) (.sl 14 0 (gK x id z).streams.length) (.sl 15 0 (gK x id z).packets.length))))::jn 98 []))),[bU,cD bs i h,bb,bD,bR,bJ,ch,cZ,dq,.ar 39 (x.streams.map ae.enc) true,.ar 2 (x.packets.map aD.enc) true,.box (J.vc x (.sl 9 0 x.streams.length) (.sl 10 0 x.packets.length)),.box J.bw,(bif S.getD 8 false then .box (J.vc (gK x id z) (.sl 14 0 (gK x id z).streams.length) (.sl 15 0 (gK x id z).packets.length))else .box (J.vc x (.sl 9 0 x.streams.length) (.sl 10 0 x.packets.length)))]++(bif S.getD 4 false then [.af 39 ((gK x id z).streams.map ae.enc),.af 2 ((gK x id z).packets.map aD.enc)]else [])⟩
def Pk(bs:List Int)(bU bb bD bR bJ ch cZ dq:H)(x:J)(id:Int)(i:Nat)(h:Int)(z:List UInt8)(S:List Bool):St:=⟨(.ptr 1 0 0::.ak::.ak::.ptr 11 0 0::.ptr 12 0 0::.i id::.ptr 13 0 0::jn 18 (.agg (J.vc x (.sl 9 0 x.streams.length) (.sl 10 0 x.packets.length))::.ptr 1 0 0::.i 2::.d (.bool false)::.d (.bool false)::jn 8 (.d (.bool true)::.d (.bool false)::.d (.bool true)::(ay S 5 (.dV [.i (za x id z),.agg (J.vc (gK x id z) (.sl 14 0 (gK x id z).streams.length) (.sl 15 0 (gK x id z).packets.length))]))::(ay S 0 (.agg (J.vc x (.sl 9 0 x.streams.length) (.sl 10 0 x.packets.length))))::(ay S 1 (.i id))::(ay S 2 (.ptr 1 0 0))::(ay S 3 (.d (.str z)))::(ay S 4 (.dV [.i (za x id z),.agg (J.vc (gK x id z) (.sl 14 0 (gK x id z).streams.length) (.sl 15 0 (gK x id z).packets.length))]))::(ay S 6 (.i (za x id z)))::(ay S 7 (.agg (J.vc (gK x id z) (.sl 14 0 (gK x id z).streams.length) (.sl 15 0 (gK x id z).packets.length))))::jn 98 []))),[bU,cD bs i h,bb,bD,bR,bJ,ch,cZ,dq,.ar 39 (x.streams.map ae.enc) true,.ar 2 (x.packets.map aD.enc) true,.box (J.vc x (.sl 9 0 x.streams.length) (.sl 10 0 x.packets.length)),.box J.bw,(bif S.getD 8 false then .box (J.vc (gK x id z) (.sl 14 0 (gK x id z).streams.length) (.sl 15 0 (gK x id z).packets.length))else .box (J.vc x (.sl 9 0 x.streams.length) (.sl 10 0 x.packets.length)))]++(bif S.getD 4 false then [.af 39 ((gK x id z).streams.map ae.enc),.af 2 ((gK x id z).packets.map aD.enc)]else [])⟩
def Pl(bs:List Int)(bU bb bD bR bJ ch cZ dq:H)(x:J)(id:Int)(i:Nat)(h z:Int)(S:List Bool):St:=⟨(.ptr 1 0 0::.ak::.ak::.ptr 11 0 0::.ptr 12 0 0::.i id::.ptr 13 0 0::jn 18 (.agg (J.vc x (.sl 9 0 x.streams.length) (.sl 10 0 x.packets.length))::.ptr 1 0 0::.i 4::.d (.bool false)::.d (.bool false)::jn 8 (.d (.bool false)::.d (.bool false)::.d (.bool false)::jn 8 (.d (.bool false)::.d (.bool false)::jn 8 (.d (.bool true)::.d (.bool true)::(ay S 5 (.dV [.d (.str (Fu x id z)),.d (.bool (Fv x id z)),.agg (J.vc (kH x id z) (.sl 14 0 (kH x id z).streams.length) (.sl 15 0 (kH x id z).packets.length))]))::(ay S 0 (.agg (J.vc x (.sl 9 0 x.streams.length) (.sl 10 0 x.packets.length))))::(ay S 1 (.i id))::(ay S 2 (.ptr 1 0 0))::(ay S 3 (.i z))::(ay S 4 (.dV [.d (.str (Fu x id z)),.d (.bool (Fv x id z)),.agg (J.vc (kH x id z) (.sl 14 0 (kH x id z).streams.length) (.sl 15 0 (kH x id z).packets.length))]))::(ay S 6 (.d (.str (Fu x id z))))::(ay S 7 (.d (.bool (Fv x id z))))::(ay S 8 (.agg (J.vc (kH x id z) (.sl 14 0 (kH x id z).streams.length) (.sl 15 0 (kH x id z).packets.length))))::jn 77 []))))),[bU,cD bs i h,bb,bD,bR,bJ,ch,cZ,dq,.ar 39 (x.streams.map ae.enc) true,.ar 2 (x.packets.map aD.enc) true,.box (J.vc x (.sl 9 0 x.streams.length) (.sl 10 0 x.packets.length)),.box J.bw,(bif S.getD 9 false then .box (J.vc (kH x id z) (.sl 14 0 (kH x id z).streams.length) (.sl 15 0 (kH x id z).packets.length))else .box (J.vc x (.sl 9 0 x.streams.length) (.sl 10 0 x.packets.length)))]++(bif S.getD 4 false then [.af 39 ((kH x id z).streams.map ae.enc),.af 2 ((kH x id z).packets.map aD.enc)]else [])⟩
def Pm(bs:List Int)(bU bb bD bR bJ ch cZ dq:H)(x:J)(id:Int)(i:Nat)(h z:Int)(S:List Bool):St:=⟨(.ptr 1 0 0::.ak::.ak::.ptr 11 0 0::.ptr 12 0 0::.i id::.ptr 13 0 0::jn 18 (.agg (J.vc x (.sl 9 0 x.streams.length) (.sl 10 0 x.packets.length))::.ptr 1 0 0::.i 5::.d (.bool false)::.d (.bool false)::jn 8 (.d (.bool false)::.d (.bool false)::.d (.bool false)::jn 8 (.d (.bool false)::.d (.bool false)::jn 8 (.d (.bool false)::.d (.bool false)::jn 9 (.d (.bool true)::.d (.bool true)::.ptr 1 0 0::.d (.bool true)::(ay S 5 (.dV [.agg (J.vc (kF x id z) (.sl 14 0 (kF x id z).streams.length) (.sl 15 0 (kF x id z).packets.length)),.d (.bool (xJ x id z))]))::(ay S 0 (.agg (J.vc x (.sl 9 0 x.streams.length) (.sl 10 0 x.packets.length))))::(ay S 1 (.i id))::(ay S 2 (.ptr 1 0 0))::(ay S 3 (.i z))::(ay S 4 (.dV [.agg (J.vc (kF x id z) (.sl 14 0 (kF x id z).streams.length) (.sl 15 0 (kF x id z).packets.length)),.d (.bool (xJ x id z))]))::(ay S 6 (.agg (J.vc (kF x id z) (.sl 14 0 (kF x id z).streams.length) (.sl 15 0 (kF x id z).packets.length))))::(ay S 7 (.d (.bool (xJ x id z))))::jn 65 [])))))),[bU,cD bs i h,bb,bD,bR,bJ,ch,cZ,dq,.ar 39 (x.streams.map ae.enc) true,.ar 2 (x.packets.map aD.enc) true,.box (J.vc x (.sl 9 0 x.streams.length) (.sl 10 0 x.packets.length)),.box J.bw,(bif S.getD 8 false then .box (J.vc (kF x id z) (.sl 14 0 (kF x id z).streams.length) (.sl 15 0 (kF x id z).packets.length))else .box (J.vc x (.sl 9 0 x.streams.length) (.sl 10 0 x.packets.length)))]++(bif S.getD 4 false then [.af 39 ((kF x id z).streams.map ae.enc),.af 2 ((kF x id z).packets.map aD.enc)]else [])⟩
def Pn(bs:List Int)(bU bb bD bR bJ ch cZ dq:H)(x:J)(id:Int)(i:Nat)(h:Int)(z:List UInt8)(S:List Bool):St:=⟨(.ptr 1 0 0::.ak::.ak::.ptr 11 0 0::.ptr 12 0 0::.i id::.ptr 13 0 0::jn 18 (.agg (J.vc x (.sl 9 0 x.streams.length) (.sl 10 0 x.packets.length))::.ptr 1 0 0::.i 5::.d (.bool false)::.d (.bool false)::jn 8 (.d (.bool false)::.d (.bool false)::.d (.bool false)::jn 8 (.d (.bool false)::.d (.bool false)::jn 8 (.d (.bool false)::.d (.bool false)::jn 9 (.d (.bool true)::.d (.bool true)::.ptr 1 0 0::.d (.bool false)::jn 8 ((ay S 6 (.dV [.agg (J.vc (kE x id z) (.sl 15 0 (kE x id z).streams.length) (.sl 16 0 (kE x id z).packets.length)),.d (.bool (kh x id))]))::(ay S 0 (.agg (J.vc x (.sl 9 0 x.streams.length) (.sl 10 0 x.packets.length))))::(ay S 1 (.i id))::(ay S 2 (.ptr 1 0 0))::(ay S 3 (.sl 14 0 3))::(ay S 4 (.d (.str z)))::(ay S 5 (.dV [.agg (J.vc (kE x id z) (.sl 15 0 (kE x id z).streams.length) (.sl 16 0 (kE x id z).packets.length)),.d (.bool (kh x id))]))::(ay S 7 (.agg (J.vc (kE x id z) (.sl 15 0 (kE x id z).streams.length) (.sl 16 0 (kE x id z).packets.length))))::(ay S 8 (.d (.bool (kh x id))))::jn 56 []))))))),[bU,cD bs i h,bb,bD,bR,bJ,ch,cZ,dq,.ar 39 (x.streams.map ae.enc) true,.ar 2 (x.packets.map aD.enc) true,.box (J.vc x (.sl 9 0 x.streams.length) (.sl 10 0 x.packets.length)),.box J.bw,(bif S.getD 9 false then .box (J.vc (kE x id z) (.sl 15 0 (kE x id z).streams.length) (.sl 16 0 (kE x id z).packets.length))else .box (J.vc x (.sl 9 0 x.streams.length) (.sl 10 0 x.packets.length)))]++(bif S.getD 3 false then [.ar 1 ([[117,61,49],[105],[117,61,53,44,32,105]].map mu) true]else [])++(bif S.getD 5 false then [.af 39 ((kE x id z).streams.map ae.enc),.af 2 ((kE x id z).packets.map aD.enc)]else [])⟩
def Po(bs:List Int)(bU bb bD bR bJ ch cZ dq:H)(x:J)(id:Int)(i:Nat)(h z:Int)(S:List Bool):St:=⟨(.ptr 1 0 0::.ak::.ak::.ptr 11 0 0::.ptr 12 0 0::.i id::.ptr 13 0 0::jn 18 (.agg (J.vc x (.sl 9 0 x.streams.length) (.sl 10 0 x.packets.length))::.ptr 1 0 0::.i 6::.d (.bool false)::.d (.bool false)::jn 8 (.d (.bool false)::.d (.bool false)::.d (.bool false)::jn 8 (.d (.bool false)::.d (.bool false)::jn 8 (.d (.bool false)::.d (.bool false)::jn 9 (.d (.bool false)::.d (.bool false)::jn 19 (.d (.bool true)::.d (.bool true)::.ak::(ay S 5 (.dV [.d (.str (yc x (IntKind.i64.wrap (8+z)))),.i (wz x (IntKind.i64.wrap (8+z))),.agg (J.vc (gn x (IntKind.i64.wrap (8+z))) (.sl 14 0 (gn x (IntKind.i64.wrap (8+z))).streams.length) (.sl 15 0 (gn x (IntKind.i64.wrap (8+z))).packets.length))]))::(ay S 0 (.agg (J.vc x (.sl 9 0 x.streams.length) (.sl 10 0 x.packets.length))))::(ay S 1 (.ptr 1 0 0))::(ay S 2 (.i z))::(ay S 3 (.i (IntKind.i64.wrap (8+z))))::(ay S 4 (.dV [.d (.str (yc x (IntKind.i64.wrap (8+z)))),.i (wz x (IntKind.i64.wrap (8+z))),.agg (J.vc (gn x (IntKind.i64.wrap (8+z))) (.sl 14 0 (gn x (IntKind.i64.wrap (8+z))).streams.length) (.sl 15 0 (gn x (IntKind.i64.wrap (8+z))).packets.length))]))::(ay S 6 (.d (.str (yc x (IntKind.i64.wrap (8+z))))))::(ay S 7 (.i (wz x (IntKind.i64.wrap (8+z)))))::(ay S 8 (.agg (J.vc (gn x (IntKind.i64.wrap (8+z))) (.sl 14 0 (gn x (IntKind.i64.wrap (8+z))).streams.length) (.sl 15 0 (gn x (IntKind.i64.wrap (8+z))).packets.length))))::jn 44 []))))))),[bU,cD bs i h,bb,bD,bR,bJ,ch,cZ,dq,.ar 39 (x.streams.map ae.enc) true,.ar 2 (x.packets.map aD.enc) true,.box (J.vc x (.sl 9 0 x.streams.length) (.sl 10 0 x.packets.length)),.box J.bw,(bif S.getD 9 false then .box (J.vc (gn x (IntKind.i64.wrap (8+z))) (.sl 14 0 (gn x (IntKind.i64.wrap (8+z))).streams.length) (.sl 15 0 (gn x (IntKind.i64.wrap (8+z))).packets.length))else .box (J.vc x (.sl 9 0 x.streams.length) (.sl 10 0 x.packets.length)))]++(bif S.getD 4 false then [.af 39 ((gn x (IntKind.i64.wrap (8+z))).streams.map ae.enc),.af 2 ((gn x (IntKind.i64.wrap (8+z))).packets.map aD.enc)]else [])⟩
def Pp(bs:List Int)(bU bb bD bR bJ ch cZ dq:H)(x:J)(id:Int)(i:Nat)(h z:Int)(S:List Bool):St:=⟨(.ptr 1 0 0::.ak::.ak::.ptr 11 0 0::.ptr 12 0 0::.i id::.ptr 13 0 0::jn 18 (.agg (J.vc x (.sl 9 0 x.streams.length) (.sl 10 0 x.packets.length))::.ptr 1 0 0::.i 7::.d (.bool false)::.d (.bool false)::jn 8 (.d (.bool false)::.d (.bool false)::.d (.bool false)::jn 8 (.d (.bool false)::.d (.bool false)::jn 8 (.d (.bool false)::.d (.bool false)::jn 9 (.d (.bool false)::.d (.bool false)::jn 19 (.d (.bool true)::.d (.bool false)::.d (.bool true)::(ay S 5 (.dV [.d (.str (yc x (IntKind.i64.wrap (8+z)))),.i (wz x (IntKind.i64.wrap (8+z))),.agg (J.vc (gn x (IntKind.i64.wrap (8+z))) (.sl 14 0 (gn x (IntKind.i64.wrap (8+z))).streams.length) (.sl 15 0 (gn x (IntKind.i64.wrap (8+z))).packets.length))]))::(ay S 0 (.agg (J.vc x (.sl 9 0 x.streams.length) (.sl 10 0 x.packets.length))))::(ay S 1 (.ptr 1 0 0))::(ay S 2 (.i z))::(ay S 3 (.i (IntKind.i64.wrap (8+z))))::(ay S 4 (.dV [.d (.str (yc x (IntKind.i64.wrap (8+z)))),.i (wz x (IntKind.i64.wrap (8+z))),.agg (J.vc (gn x (IntKind.i64.wrap (8+z))) (.sl 14 0 (gn x (IntKind.i64.wrap (8+z))).streams.length) (.sl 15 0 (gn x (IntKind.i64.wrap (8+z))).packets.length))]))::(ay S 6 (.d (.str (yc x (IntKind.i64.wrap (8+z))))))::(ay S 7 (.i (wz x (IntKind.i64.wrap (8+z)))))::(ay S 8 (.agg (J.vc (gn x (IntKind.i64.wrap (8+z))) (.sl 14 0 (gn x (IntKind.i64.wrap (8+z))).streams.length) (.sl 15 0 (gn x (IntKind.i64.wrap (8+z))).packets.length))))::jn 44 []))))))),[bU,cD bs i h,bb,bD,bR,bJ,ch,cZ,dq,.ar 39 (x.streams.map ae.enc) true,.ar 2 (x.packets.map aD.enc) true,.box (J.vc x (.sl 9 0 x.streams.length) (.sl 10 0 x.packets.length)),.box J.bw,(bif S.getD 9 false then .box (J.vc (gn x (IntKind.i64.wrap (8+z))) (.sl 14 0 (gn x (IntKind.i64.wrap (8+z))).streams.length) (.sl 15 0 (gn x (IntKind.i64.wrap (8+z))).packets.length))else .box (J.vc x (.sl 9 0 x.streams.length) (.sl 10 0 x.packets.length)))]++(bif S.getD 4 false then [.af 39 ((gn x (IntKind.i64.wrap (8+z))).streams.map ae.enc),.af 2 ((gn x (IntKind.i64.wrap (8+z))).packets.map aD.enc)]else [])⟩
def Pq(bs:List Int)(bU bb bD bR bJ ch cZ dq:H)(x:J)(id:Int)(i:Nat)(h:Int)(z:Nat×Int)(S:List Bool):St:=⟨(.ptr 1 0 0::.ak::.ak::.ptr 11 0 0::.ptr 12 0 0::.i id::.ptr 13 0 0::jn 3 ((ay S 10 (.i z.2))::jn 14 (.agg (J.vc x (.sl 9 0 x.streams.length) (.sl 10 0 x.packets.length))::.ptr 1 0 0::.i 9::.d (.bool false)::.d (.bool false)::jn 8 (.d (.bool false)::.d (.bool false)::.d (.bool false)::jn 8 (.d (.bool false)::.d (.bool false)::jn 8 (.d (.bool false)::.d (.bool false)::jn 9 (.d (.bool false)::.d (.bool false)::jn 19 (.d (.bool false)::.d (.bool false)::.d (.bool false)::jn 9 (.d (.bool false)::.d (.bool false)::jn 11 (.d (.bool true)::.d (.bool true)::.ptr 11 0 47::.sl 10 0 x.packets.length::.i x.packets.length::.d (.bool true)::(ay S 0 (.ptr 11 0 47))::(ay S 1 (.sl 10 0 x.packets.length))::(ay S 2 (.ptr 1 0 0))::(ay S 3 (.ptr 11 0 47))::(ay S 4 (.sl 10 0 x.packets.length))::(ay S 5 (.i x.packets.length))::(ay S 6 (.i z.1))::(ay S 7 (.ptr 10 z.1 0))::(ay S 8 (.ptr 10 z.1 0))::(ay S 9 (.i z.2))::jn 15 [])))))))))),[bU,cD bs i h,bb,bD,bR,bJ,ch,cZ,dq,.ar 39 (x.streams.map ae.enc) true,.ar 2 (x.packets.map aD.enc) true,.box (J.vc x (.sl 9 0 x.streams.length) (.sl 10 0 x.packets.length)),.box J.bw,.box (J.vc x (.sl 9 0 x.streams.length) (.sl 10 0 x.packets.length))]⟩
theorem X3(bs:List Int)(hm:bs.length≤maxLen)(i:Nat)(h:Int)(x:J)(m:Nat)(hv:cl m x)(apd:m≤18)(bU bb bD bR bJ ch cZ dq:H)(hq:rok 9 bU∧rok 9 bb∧rok 9 bD∧rok 9 bR∧rok 9 bJ∧rok 9 ch∧rok 9 cZ∧rok 9 dq)(kv:List V)(bu:bg 9 kv)(K:V→List H→Prop)(hi:i≤bs.length)
  (hk:∀(cr:Nat) (h':Int) (y:J),cr≤bs.length→nQ x y→K (gR y 9) ([bU,cD bs cr h',bb,bD,bR,bJ,ch,cZ,dq]++gH y)):dx Tryz.prog 124 kv ([bU,cD bs i h,bb,bD,bR,bJ,ch,cZ,dq]++gH x) [.ptr 1 0 0,gR x 9] K:=by
 have hz:=hv.sz (by omega);have ape:=hv.kO;have G1:=hv.wA;have nJ:∀(cr:Nat) (h':Int),roks 9 [bU,cD bs cr h',bb,bD,bR,bJ,ch,cZ,dq]:=fun cr h'=>⟨hq.1,by simp[cD,rok,bg,vok],hq.2.1,hq.2.2.1,hq.2.2.2.1,hq.2.2.2.2.1,hq.2.2.2.2.2.1,hq.2.2.2.2.2.2.1,hq.2.2.2.2.2.2.2,trivial⟩;have zA:∀ts:List V,bg 14 ts→bg 14 (ts++kv):=fun ts h=>BX h (kV (by omega) kv bu);have Aq:rok 14 bU∧rok 14 bb∧rok 14 bD∧rok 14 bR∧rok 14 bJ∧rok 14 ch∧rok 14 cZ∧rok 14 dq:=⟨fe (by omega) _ hq.1,fe (by omega) _ hq.2.1,fe (by omega) _ hq.2.2.1,fe (by omega) _ hq.2.2.2.1,fe (by omega) _ hq.2.2.2.2.1,fe (by omega) _ hq.2.2.2.2.2.1,fe (by omega) _ hq.2.2.2.2.2.2.1,fe (by omega) _ hq.2.2.2.2.2.2.2⟩;refine dx.WL ?_;refine dx.WL ?_;refine dx.nh ?_;refine(agQ (n:=147) (rs:=[.cell 4 37]) Tryz.func124 rfl Tryz.call124 rfl rfl ?_);simp only[gH,gR,bB,bx];have W2:∀(cr:Nat) (h':Int) (ts ts':List V),vsees (List.range 13) ts' ts→bg 13 ts'→kk kv (List.range 13) ⟨ts,Gx bU (cD bs cr h') bb bD bR bJ ch cZ dq x⟩ ⟨ts',Gx bU (cD bs cr h') bb bD bR bJ ch cZ dq x⟩:=by
  intro cr h' ts ts' ah ai;have aha:roks 13 (Gx bU (cD bs cr h') bb bD bR bJ ch cZ dq x):=by
   have:=Ca (x9 (m:=9) (n:=13) (by omega) (nJ cr h')) (ys:=[.ar 39 (x.streams.map ae.enc) true,.ar 2 (x.packets.map aD.enc) true,.box (J.vc x (.sl 9 0 x.streams.length) (.sl 10 0 x.packets.length)),.box J.bw]) (by simp[roks,rok,bg,vok]);exact this
  exact GX (hs:=Gx bU (cD bs cr h') bb bD bR bJ ch cZ dq x) aha (kV (by simp[Gx]) kv bu) ah ai
 refine fi b1 3 (α:=Nat×Int×Int) (fun y=>⟨(.ptr 1 0 0::.ak::.ak::.ptr 11 0 0::.ptr 12 0 0::.i y.2.2::jn 141 []),[bU,cD bs y.1 y.2.1,bb,bD,bR,bJ,ch,cZ,dq,.ar 39 (x.streams.map ae.enc) true,.ar 2 (x.packets.map aD.enc) true,.box (J.vc x (.sl 9 0 x.streams.length) (.sl 10 0 x.packets.length)),.box J.bw]⟩) (fun y=>y.1≤bs.length) ?_ ?_
 ·simp only[go_sem]
  cases hI:decide (0<(x.streams.length:Int))with
  |false=>
   simp only[go_sem];refine dS.intro (i,h,0) (List.range 13) hi (W2 i h _ _ ?_ ?_)
   ·simp[vsees,vsee,ren,List.range,List.range.loop]
   ·simp[bg,vok]
  |true=>
   simp only[go_sem];have GO:=cO hI;refine jB _ (kz (fun S σ=>∃i h z,i≤bs.length∧(z.1<x.streams.length∧((x.streams[z.1]?).getD jG).id=z.2)∧σ=Pg bs bU bb bD bR bJ ch cZ dq x 0 i h z S) (N:=11) rfl rfl ⟨i,h,(0,((x.streams[0]?).getD jG).id),‹_›,by first|assumption|(simp;done)|exact⟨by omega,rfl⟩,rfl⟩ ?_) ?_
   ·repeat'(first|exact kA|refine kB ?_ ?_)
    all_goals(
     rintro S σ F hl aT hp hcl ⟨fw,fg,z,dC,hc,rfl⟩ cd;obtain⟨hZ,dy,dT,c2,d',l0,mh,mR,mS,u9,Aw,rfl⟩:=W1 hl;simp only[ke,iG,bF]at aT;subst aT;simp[iH,Region.binds]at hp
     repeat(obtain⟨ef,hp⟩:=hp;subst ef)
     try subst hp
     have aq:=b5 ae.enc x.streams z.1 hc.1;have iQ:=hc.2;have hc1:=hc.1;rw[b8 hc.1,Option.getD_some]at iQ;simp only[Pg,ay,e4,e1,cond_true,cond_false]
     repeat'(first
       |exact cd _ ⟨fw,fg,z,dC,hc,rfl⟩
       |(refine du ?_)
       |(refine e5 ?_)
       |(obtain rfl:=aI (hcl 6 7 _ rfl (by decide) rfl);obtain rfl:=aI (hcl 7 8 _ rfl (by decide) rfl);obtain rfl:=aI (hcl 8 9 _ rfl (by decide) rfl);obtain rfl:=aI (hcl 9 10 _ rfl (by decide) rfl);simp only[cond_false];refine ab.inl (kc bs hm fw fg [bU] [bb,bD,bR,bJ,ch,cZ,dq,.ar 39 (x.streams.map ae.enc) true,.ar 2 (x.packets.map aD.enc) true,.box (J.vc x (.sl 9 0 x.streams.length) (.sl 10 0 x.packets.length)),.box J.bw] _ (x.streams.length:Int) (by omega) (by omega) _ dC fun ek aj gj cx ew jj=>?_);obtain⟨ee,rfl⟩:=mj ew;simp only[go_sem,fT];exact cd _ ⟨_,_,(ee,((x.streams[ee]?).getD jG).id),‹_›,⟨(by omega),rfl⟩,rfl⟩)
       |(refine⟨⟨by omega,by omega⟩,?_⟩)
       |(refine⟨hc1,?_⟩)
       |simp only[go_sem,I,aq,iQ,ae.enc,aC]))
   rintro _ ⟨iL,aE,z,np,hc,rfl⟩;simp only[Pg,List.replicate,ay,e4,e1,cond_true];simp only[go_sem];refine dS.intro (iL,aE,z.2) (List.range 13) np (W2 iL aE _ _ ?_ ?_)
   ·simp[vsees,vsee,ren,List.range,List.range.loop]
   ·simp[bg,vok]
 rintro⟨fm,h1,id⟩ Bw;simp only at Bw;refine ng b1 ?_;simp only[go_sem];refine ab.inl (kc bs hm fm h1 [bU] [bb,bD,bR,bJ,ch,cZ,dq,.ar 39 (x.streams.map ae.enc) true,.ar 2 (x.packets.map aD.enc) true,.box (J.vc x (.sl 9 0 x.streams.length) (.sl 10 0 x.packets.length)),.box J.bw,.box (J.vc x (.sl 9 0 x.streams.length) (.sl 10 0 x.packets.length))] _ 10 (by omega) (by omega) _ Bw fun dM h2 k cB eS dI=>?_);have Pr:roks 14 [bU]∧roks 14 [bb,bD,bR,bJ,ch,cZ,dq,.ar 39 (x.streams.map ae.enc) true,.ar 2 (x.packets.map aD.enc) true,.box (J.vc x (.sl 9 0 x.streams.length) (.sl 10 0 x.packets.length)),.box J.bw,.box (J.vc x (.sl 9 0 x.streams.length) (.sl 10 0 x.packets.length))]:=⟨⟨Aq.1,trivial⟩,Aq.2.1,Aq.2.2.1,Aq.2.2.2.1,Aq.2.2.2.2.1,Aq.2.2.2.2.2.1,Aq.2.2.2.2.2.2.1,Aq.2.2.2.2.2.2.2,by simp[roks,rok,bg,vok]⟩;obtain rfl|rfl|rfl|rfl|rfl|rfl|rfl|rfl|rfl|rfl:k=0∨k=1∨k=2∨k=3∨k=4∨k=5∨k=6∨k=7∨k=8∨k=9:=by omega
 ·skip
  have d0:decide ((0:Int)=0)=true:=rfl;simp only[go_sem];have cT:∀b,_:=fun b=>XR x b hz;refine jB _ (kz (fun S σ=>∃i h z,i≤bs.length∧(True)∧σ=Ph bs bU bb bD bR bJ ch cZ dq x id i h z S) (N:=9) rfl rfl ⟨dM,h2,false,‹_›,by first|assumption|(simp;done)|exact⟨by omega,rfl⟩,rfl⟩ ?_) ?_
  ·repeat'(first|exact kA|refine kB ?_ ?_)
   all_goals(
    rintro S σ F hl aT hp hcl ⟨fw,fg,z,dC,hc,rfl⟩ cd;obtain⟨hZ,dy,dT,c2,d',l0,mh,mR,mS,rfl⟩:=JL hl;simp only[ke,iG,bF]at aT;subst aT;simp[iH,Region.binds]at hp
    repeat(obtain⟨ef,hp⟩:=hp;subst ef)
    try subst hp
    simp only[Ph,ay,e4,e1,cond_true,cond_false,bB,bx,List.append_nil]
    repeat'(first
      |exact cd _ ⟨fw,fg,z,dC,hc,rfl⟩
      |(refine du ?_)
      |(refine e5 ?_)
      |(obtain rfl:=aI (hcl 2 3 _ rfl (by decide) rfl);obtain rfl:=aI (hcl 3 4 _ rfl (by decide) rfl);obtain rfl:=aI (hcl 4 5 _ rfl (by decide) rfl);obtain rfl:=aI (hcl 4 6 _ rfl (by decide) rfl);obtain rfl:=aI (hcl 4 7 _ rfl (by decide) rfl);obtain rfl:=aI (hcl 6 8 _ rfl (by decide) rfl);simp only[cond_false];refine ab.inl (wm bs hm fw fg [bU] [bb,bD,bR,bJ,ch,cZ,dq,.ar 39 (x.streams.map ae.enc) true,.ar 2 (x.packets.map aD.enc) true,.box (J.vc x (.sl 9 0 x.streams.length) (.sl 10 0 x.packets.length)),.box J.bw,.box (J.vc x (.sl 9 0 x.streams.length) (.sl 10 0 x.packets.length))] _ 2 (by omega) (by omega) _ dC fun ek aj ew cx=>?_);simp only[go_sem,fT];exact cd _ ⟨_,_,ew,‹_›,by first|assumption|simp|(constructor<;>assumption),rfl⟩)
      |(refine ab.af (cT _) ?_)
      |simp only[go_sem,I,bB,bx]))
  rintro _ ⟨iL,aE,z,np,hc,rfl⟩;simp only[Ph,List.replicate,ay,e4,e1,cond_true,bB,bx];simp only[go_sem,bB,bx];exact u6 bu _ 14 (by omega) (nJ _ _) rfl rfl (hk _ _ _ (by assumption) (.He _))
 ·skip
  have d0:decide ((1:Int)=0)=false:=rfl;have eT:decide ((1:Int)=1)=true:=rfl;simp only[go_sem,d0];have cT:∀d:List UInt8,d.length≤8→_:=fun d hd=>P9 x id d hz (by omega) (((hv.aS id).mono (show m≤m+1 by omega)).Bz (by have:=NP (hv.aS id).snd hd;rw[show(8 * (m+1:Nat):Int)=8 * m+8 from by omega];exact this) |>.sz (by omega));refine jB _ (kz (fun S σ=>∃i h z,i≤bs.length∧(z.length≤8)∧σ=Pj bs bU bb bD bR bJ ch cZ dq x id i h z S) (N:=9) rfl rfl ⟨dM,h2,[],‹_›,by first|assumption|(simp;done)|exact⟨by omega,rfl⟩,rfl⟩ ?_) ?_
  ·repeat'(first|exact kA|refine kB ?_ ?_)
   all_goals(
    rintro S σ F hl aT hp hcl ⟨fw,fg,z,dC,hc,rfl⟩ cd;obtain⟨hZ,dy,dT,c2,d',l0,mh,mR,mS,rfl⟩:=JL hl;simp only[ke,iG,bF]at aT;subst aT;simp[iH,Region.binds]at hp
    repeat(obtain⟨ef,hp⟩:=hp;subst ef)
    try subst hp
    simp only[Pj,ay,e4,e1,cond_true,cond_false,bB,bx,List.append_nil]
    repeat'(first
      |exact cd _ ⟨fw,fg,z,dC,hc,rfl⟩
      |(refine du ?_)
      |(refine e5 ?_)
      |(obtain rfl:=aI (hcl 3 4 _ rfl (by decide) rfl);obtain rfl:=aI (hcl 4 5 _ rfl (by decide) rfl);obtain rfl:=aI (hcl 5 6 _ rfl (by decide) rfl);obtain rfl:=aI (hcl 5 7 _ rfl (by decide) rfl);obtain rfl:=aI (hcl 7 8 _ rfl (by decide) rfl);simp only[cond_false];refine ab.inl (KV bs hm fw fg [bU] [bb,bD,bR,bJ,ch,cZ,dq,.ar 39 (x.streams.map ae.enc) true,.ar 2 (x.packets.map aD.enc) true,.box (J.vc x (.sl 9 0 x.streams.length) (.sl 10 0 x.packets.length)),.box J.bw,.box (J.vc x (.sl 9 0 x.streams.length) (.sl 10 0 x.packets.length))] _ 8 Pr (zA _ (by simp[bg,vok,Az])) (by omega) _ dC fun ek aj c2 cx fs=>?_);simp only[go_sem,fT];exact cd _ ⟨_,_,c2,‹_›,by first|assumption|simp|(constructor<;>assumption),rfl⟩)
      |(refine ab.af (cT _ hc) ?_)
      |simp only[go_sem,I,bB,bx]))
  rintro _ ⟨iL,aE,z,np,hc,rfl⟩;simp only[Pj,List.replicate,ay,e4,e1,cond_true,bB,bx];simp only[go_sem,bB,bx];exact u6 bu _ 14 (by omega) (nJ _ _) rfl rfl (hk _ _ _ (by assumption) (.write _ _ hc))
 ·skip
  have d0:decide ((2:Int)=0)=false:=rfl;have eT:decide ((2:Int)=1)=false:=rfl;have fW:decide ((2:Int)=2)=true:=rfl;simp only[go_sem,d0,eT];have cT:∀d:List UInt8,d.length≤8→_:=fun d hd=>P9 x id d hz (by omega) (((hv.aS id).mono (show m≤m+1 by omega)).Bz (by have:=NP (hv.aS id).snd hd;rw[show(8 * (m+1:Nat):Int)=8 * m+8 from by omega];exact this) |>.sz (by omega));refine jB _ (kz (fun S σ=>∃i h z,i≤bs.length∧(z.length≤8)∧σ=Pk bs bU bb bD bR bJ ch cZ dq x id i h z S) (N:=9) rfl rfl ⟨dM,h2,[],‹_›,by first|assumption|(simp;done)|exact⟨by omega,rfl⟩,rfl⟩ ?_) ?_
  ·repeat'(first|exact kA|refine kB ?_ ?_)
   all_goals(
    rintro S σ F hl aT hp hcl ⟨fw,fg,z,dC,hc,rfl⟩ cd;obtain⟨hZ,dy,dT,c2,d',l0,mh,mR,mS,rfl⟩:=JL hl;simp only[ke,iG,bF]at aT;subst aT;simp[iH,Region.binds]at hp
    repeat(obtain⟨ef,hp⟩:=hp;subst ef)
    try subst hp
    simp only[Pk,ay,e4,e1,cond_true,cond_false,bB,bx,List.append_nil]
    repeat'(first
      |exact cd _ ⟨fw,fg,z,dC,hc,rfl⟩
      |(refine du ?_)
      |(refine e5 ?_)
      |(obtain rfl:=aI (hcl 3 4 _ rfl (by decide) rfl);obtain rfl:=aI (hcl 4 5 _ rfl (by decide) rfl);obtain rfl:=aI (hcl 5 6 _ rfl (by decide) rfl);obtain rfl:=aI (hcl 5 7 _ rfl (by decide) rfl);obtain rfl:=aI (hcl 7 8 _ rfl (by decide) rfl);simp only[cond_false];refine ab.inl (KV bs hm fw fg [bU] [bb,bD,bR,bJ,ch,cZ,dq,.ar 39 (x.streams.map ae.enc) true,.ar 2 (x.packets.map aD.enc) true,.box (J.vc x (.sl 9 0 x.streams.length) (.sl 10 0 x.packets.length)),.box J.bw,.box (J.vc x (.sl 9 0 x.streams.length) (.sl 10 0 x.packets.length))] _ 8 Pr (zA _ (by simp[bg,vok,Az])) (by omega) _ dC fun ek aj c2 cx fs=>?_);simp only[go_sem,fT];exact cd _ ⟨_,_,c2,‹_›,by first|assumption|simp|(constructor<;>assumption),rfl⟩)
      |(refine ab.af (cT _ hc) ?_)
      |simp only[go_sem,I,bB,bx]))
  rintro _ ⟨iL,aE,z,np,hc,rfl⟩;simp only[Pk,List.replicate,ay,e4,e1,cond_true,bB,bx];simp only[go_sem,bB,bx];exact u6 bu _ 14 (by omega) (nJ _ _) rfl rfl (hk _ _ _ (by assumption) (.write _ _ hc))
 ·skip
  have d0:decide ((3:Int)=0)=false:=rfl;have eT:decide ((3:Int)=1)=false:=rfl;have fW:decide ((3:Int)=2)=false:=rfl;have iF:decide ((3:Int)=3)=true:=rfl;simp only[go_sem,d0,eT,fW];refine ab.inl (wm bs hm dM h2 [bU] [bb,bD,bR,bJ,ch,cZ,dq,.ar 39 (x.streams.map ae.enc) true,.ar 2 (x.packets.map aD.enc) true,.box (J.vc x (.sl 9 0 x.streams.length) (.sl 10 0 x.packets.length)),.box J.bw,.box (J.vc x (.sl 9 0 x.streams.length) (.sl 10 0 x.packets.length))] _ 2 (by omega) (by omega) _ cB fun ek aj ew cx=>?_)
  cases ew with
  |true=>
   have cT:=XM x id hz (((hv.aS id).Bz (UG (hv.aS id).snd)).sz (by omega));simp only[go_sem,I];refine ab.af cT ?_;simp only[go_sem,I,bB,bx];exact u6 bu _ 14 (by omega) (nJ _ _) rfl rfl (hk _ _ _ (by assumption) (.a2 _))
  |false=>
   simp only[go_sem,bB,bx];exact Pf bu _ (nJ _ _) (hk _ _ _ (by assumption) .same)
 ·skip
  have d0:decide ((4:Int)=0)=false:=rfl;have eT:decide ((4:Int)=1)=false:=rfl;have fW:decide ((4:Int)=2)=false:=rfl;have iF:decide ((4:Int)=3)=false:=rfl;have pL:decide ((4:Int)=4)=true:=rfl;simp only[go_sem,d0,eT,fW,iF];have cT:∀k,_:=fun k=>ac3 x id k m hv (by omega);refine jB _ (kz (fun S σ=>∃i h z,i≤bs.length∧(True)∧σ=Pl bs bU bb bD bR bJ ch cZ dq x id i h z S) (N:=10) rfl rfl ⟨dM,h2,0,‹_›,by first|assumption|(simp;done)|exact⟨by omega,rfl⟩,rfl⟩ ?_) ?_
  ·repeat'(first|exact kA|refine kB ?_ ?_)
   all_goals(
    rintro S σ F hl aT hp hcl ⟨fw,fg,z,dC,hc,rfl⟩ cd;obtain⟨hZ,dy,dT,c2,d',l0,mh,mR,mS,u9,rfl⟩:=JM hl;simp only[ke,iG,bF]at aT;subst aT;simp[iH,Region.binds]at hp
    repeat(obtain⟨ef,hp⟩:=hp;subst ef)
    try subst hp
    simp only[Pl,ay,e4,e1,cond_true,cond_false,bB,bx,List.append_nil]
    repeat'(first
      |exact cd _ ⟨fw,fg,z,dC,hc,rfl⟩
      |(refine du ?_)
      |(refine e5 ?_)
      |(obtain rfl:=aI (hcl 3 4 _ rfl (by decide) rfl);obtain rfl:=aI (hcl 4 5 _ rfl (by decide) rfl);obtain rfl:=aI (hcl 5 6 _ rfl (by decide) rfl);obtain rfl:=aI (hcl 5 7 _ rfl (by decide) rfl);obtain rfl:=aI (hcl 5 8 _ rfl (by decide) rfl);obtain rfl:=aI (hcl 8 9 _ rfl (by decide) rfl);simp only[cond_false];refine ab.inl (kc bs hm fw fg [bU] [bb,bD,bR,bJ,ch,cZ,dq,.ar 39 (x.streams.map ae.enc) true,.ar 2 (x.packets.map aD.enc) true,.box (J.vc x (.sl 9 0 x.streams.length) (.sl 10 0 x.packets.length)),.box J.bw,.box (J.vc x (.sl 9 0 x.streams.length) (.sl 10 0 x.packets.length))] _ 6 (by omega) (by omega) _ dC fun ek aj gj cx ew jj=>?_);simp only[go_sem,fT];exact cd _ ⟨_,_,gj,‹_›,by first|assumption|simp|(constructor<;>assumption),rfl⟩)
      |(refine ab.af (cT _) ?_)
      |simp only[go_sem,I,bB,bx]))
  rintro _ ⟨iL,aE,z,np,hc,rfl⟩;simp only[Pl,List.replicate,ay,e4,e1,cond_true,bB,bx];simp only[go_sem,bB,bx];exact u6 bu _ 14 (by omega) (nJ _ _) rfl rfl (hk _ _ _ (by assumption) (.read _ _))
 ·skip
  have d0:decide ((5:Int)=0)=false:=rfl;have eT:decide ((5:Int)=1)=false:=rfl;have fW:decide ((5:Int)=2)=false:=rfl;have iF:decide ((5:Int)=3)=false:=rfl;have pL:decide ((5:Int)=4)=false:=rfl;have Ar:decide ((5:Int)=5)=true:=rfl;simp only[go_sem,d0,eT,fW,iF,pL];refine ab.inl (wm bs hm dM h2 [bU] [bb,bD,bR,bJ,ch,cZ,dq,.ar 39 (x.streams.map ae.enc) true,.ar 2 (x.packets.map aD.enc) true,.box (J.vc x (.sl 9 0 x.streams.length) (.sl 10 0 x.packets.length)),.box J.bw,.box (J.vc x (.sl 9 0 x.streams.length) (.sl 10 0 x.packets.length))] _ 3 (by omega) (by omega) _ cB fun ek aj ew cx=>?_)
  cases ew with
  |true=>
   have cT:∀k,_:=fun k=>XS x id k hz (((hv.aS id).NX k).sz (by omega));simp only[go_sem];refine jB _ (kz (fun S σ=>∃i h z,i≤bs.length∧(True)∧σ=Pm bs bU bb bD bR bJ ch cZ dq x id i h z S) (N:=9) rfl rfl ⟨ek,aj,0,‹_›,by first|assumption|(simp;done)|exact⟨by omega,rfl⟩,rfl⟩ ?_) ?_
   ·repeat'(first|exact kA|refine kB ?_ ?_)
    all_goals(
     rintro S σ F hl aT hp hcl ⟨fw,fg,z,dC,hc,rfl⟩ cd;obtain⟨hZ,dy,dT,c2,d',l0,mh,mR,mS,rfl⟩:=JL hl;simp only[ke,iG,bF]at aT;subst aT;simp[iH,Region.binds]at hp
     repeat(obtain⟨ef,hp⟩:=hp;subst ef)
     try subst hp
     simp only[Pm,ay,e4,e1,cond_true,cond_false,bB,bx,List.append_nil]
     repeat'(first
       |exact cd _ ⟨fw,fg,z,dC,hc,rfl⟩
       |(refine du ?_)
       |(refine e5 ?_)
       |(obtain rfl:=aI (hcl 3 4 _ rfl (by decide) rfl);obtain rfl:=aI (hcl 4 5 _ rfl (by decide) rfl);obtain rfl:=aI (hcl 5 6 _ rfl (by decide) rfl);obtain rfl:=aI (hcl 5 7 _ rfl (by decide) rfl);obtain rfl:=aI (hcl 6 8 _ rfl (by decide) rfl);simp only[cond_false];refine ab.inl (kc bs hm fw fg [bU] [bb,bD,bR,bJ,ch,cZ,dq,.ar 39 (x.streams.map ae.enc) true,.ar 2 (x.packets.map aD.enc) true,.box (J.vc x (.sl 9 0 x.streams.length) (.sl 10 0 x.packets.length)),.box J.bw,.box (J.vc x (.sl 9 0 x.streams.length) (.sl 10 0 x.packets.length))] _ 3 (by omega) (by omega) _ dC fun ek aj gj cx ew jj=>?_);simp only[go_sem,fT];exact cd _ ⟨_,_,gj,‹_›,by first|assumption|simp|(constructor<;>assumption),rfl⟩)
       |(refine ab.af (cT _) ?_)
       |simp only[go_sem,I,bB,bx]))
   rintro _ ⟨iL,aE,z,np,hc,rfl⟩;simp only[Pm,List.replicate,ay,e4,e1,cond_true,bB,bx];simp only[go_sem,bB,bx];exact u6 bu _ 14 (by omega) (nJ _ _) rfl rfl (hk _ _ _ (by assumption) (.reset _ _))
  |false=>
   have cT:∀t:List UInt8,t∈[[117,61,49],[105],[117,61,53,44,32,105]]→_:=fun t ht=>XO x id t hz (by simp only[List.mem_cons,List.not_mem_nil,or_false]at ht;rcases ht with rfl|rfl|rfl<;>decide);simp only[go_sem];refine jB _ (kz (fun S σ=>∃i h z,i≤bs.length∧(z∈[[117,61,49],[105],[117,61,53,44,32,105]])∧σ=Pn bs bU bb bD bR bJ ch cZ dq x id i h z S) (N:=10) rfl rfl ⟨ek,aj,[105],‹_›,by first|assumption|(simp;done)|exact⟨by omega,rfl⟩,rfl⟩ ?_) ?_
   ·repeat'(first|exact kA|refine kB ?_ ?_)
    all_goals(
     rintro S σ F hl aT hp hcl ⟨fw,fg,z,dC,hc,rfl⟩ cd;obtain⟨hZ,dy,dT,c2,d',l0,mh,mR,mS,u9,rfl⟩:=JM hl;simp only[ke,iG,bF]at aT;subst aT;simp[iH,Region.binds]at hp
     repeat(obtain⟨ef,hp⟩:=hp;subst ef)
     try subst hp
     simp only[Pn,ay,e4,e1,cond_true,cond_false,bB,bx,List.append_nil]
     repeat'(first
       |exact cd _ ⟨fw,fg,z,dC,hc,rfl⟩
       |(refine du ?_)
       |(refine e5 ?_)
       |(obtain rfl:=aI (hcl 4 5 _ rfl (by decide) rfl);obtain rfl:=aI (hcl 5 6 _ rfl (by decide) rfl);obtain rfl:=aI (hcl 6 7 _ rfl (by decide) rfl);obtain rfl:=aI (hcl 6 8 _ rfl (by decide) rfl);obtain rfl:=aI (hcl 7 9 _ rfl (by decide) rfl);simp only[cond_false];refine ab.inl (QF bs hm fw fg [bU] [bb,bD,bR,bJ,ch,cZ,dq,.ar 39 (x.streams.map ae.enc) true,.ar 2 (x.packets.map aD.enc) true,.box (J.vc x (.sl 9 0 x.streams.length) (.sl 10 0 x.packets.length)),.box J.bw,.box (J.vc x (.sl 9 0 x.streams.length) (.sl 10 0 x.packets.length)),.ar 1 ([[117,61,49],[105],[117,61,53,44,32,105]].map mu) true] _ 12 [[117,61,49],[105],[117,61,53,44,32,105]] rfl (by decide) (by decide) _ dC fun ek aj gj cx ew=>?_);simp only[go_sem,fT];exact cd _ ⟨_,_,gj,‹_›,by first|assumption|simp|(constructor<;>assumption),rfl⟩)
       |(refine ab.af (cT _ hc) ?_)
       |(obtain rfl:=aI (hcl 3 4 _ rfl (by decide) rfl);obtain rfl:=aI (hcl 4 5 _ rfl (by decide) rfl);obtain rfl:=aI (hcl 5 6 _ rfl (by decide) rfl);obtain rfl:=aI (hcl 6 7 _ rfl (by decide) rfl);obtain rfl:=aI (hcl 6 8 _ rfl (by decide) rfl);obtain rfl:=aI (hcl 7 9 _ rfl (by decide) rfl);simp only[cond_false];skip)
       |(cases c2;exact Bool.noConfusion (show true=false from aI (hcl 3 4 _ rfl (by decide) rfl));simp only[cond_true])
       |simp only[go_sem,I,bB,bx]))
   rintro _ ⟨iL,aE,z,np,hc,rfl⟩;simp only[Pn,List.replicate,ay,e4,e1,cond_true,bB,bx];simp only[go_sem,bB,bx];exact u6 bu _ 15 (by omega) (nJ _ _) rfl rfl (hk _ _ _ (by assumption) (.K7 _ _))
 ·skip
  have d0:decide ((6:Int)=0)=false:=rfl;have eT:decide ((6:Int)=1)=false:=rfl;have fW:decide ((6:Int)=2)=false:=rfl;have iF:decide ((6:Int)=3)=false:=rfl;have pL:decide ((6:Int)=4)=false:=rfl;have Ar:decide ((6:Int)=5)=false:=rfl;have DA:decide ((6:Int)=6)=true:=rfl;simp only[go_sem,d0,eT,fW,iF,pL,Ar];have cT:∀b,_:=fun b=>Q5 x b m hv (by omega);refine jB _ (kz (fun S σ=>∃i h z,i≤bs.length∧(True)∧σ=Po bs bU bb bD bR bJ ch cZ dq x id i h z S) (N:=10) rfl rfl ⟨dM,h2,0,‹_›,by first|assumption|(simp;done)|exact⟨by omega,rfl⟩,rfl⟩ ?_) ?_
  ·repeat'(first|exact kA|refine kB ?_ ?_)
   all_goals(
    rintro S σ F hl aT hp hcl ⟨fw,fg,z,dC,hc,rfl⟩ cd;obtain⟨hZ,dy,dT,c2,d',l0,mh,mR,mS,u9,rfl⟩:=JM hl;simp only[ke,iG,bF]at aT;subst aT;simp[iH,Region.binds]at hp
    repeat(obtain⟨ef,hp⟩:=hp;subst ef)
    try subst hp
    simp only[Po,ay,e4,e1,cond_true,cond_false,bB,bx,List.append_nil]
    repeat'(first
      |exact cd _ ⟨fw,fg,z,dC,hc,rfl⟩
      |(refine du ?_)
      |(refine e5 ?_)
      |(obtain rfl:=aI (hcl 2 3 _ rfl (by decide) rfl);obtain rfl:=aI (hcl 3 4 _ rfl (by decide) rfl);obtain rfl:=aI (hcl 4 5 _ rfl (by decide) rfl);obtain rfl:=aI (hcl 5 6 _ rfl (by decide) rfl);obtain rfl:=aI (hcl 5 7 _ rfl (by decide) rfl);obtain rfl:=aI (hcl 5 8 _ rfl (by decide) rfl);obtain rfl:=aI (hcl 8 9 _ rfl (by decide) rfl);simp only[cond_false];refine ab.inl (kc bs hm fw fg [bU] [bb,bD,bR,bJ,ch,cZ,dq,.ar 39 (x.streams.map ae.enc) true,.ar 2 (x.packets.map aD.enc) true,.box (J.vc x (.sl 9 0 x.streams.length) (.sl 10 0 x.packets.length)),.box J.bw,.box (J.vc x (.sl 9 0 x.streams.length) (.sl 10 0 x.packets.length))] _ 20 (by omega) (by omega) _ dC fun ek aj gj cx ew jj=>?_);simp only[go_sem,fT];exact cd _ ⟨_,_,gj,‹_›,by first|assumption|simp|(constructor<;>assumption),rfl⟩)
      |(refine ab.af (cT _) ?_)
      |simp only[go_sem,I,bB,bx]))
  rintro _ ⟨iL,aE,z,np,hc,rfl⟩;simp only[Po,List.replicate,ay,e4,e1,cond_true,bB,bx];simp only[go_sem,bB,bx];exact u6 bu _ 14 (by omega) (nJ _ _) rfl rfl (hk _ _ _ (by assumption) (.em _))
 ·skip
  have d0:decide ((7:Int)=0)=false:=rfl;have eT:decide ((7:Int)=1)=false:=rfl;have fW:decide ((7:Int)=2)=false:=rfl;have iF:decide ((7:Int)=3)=false:=rfl;have pL:decide ((7:Int)=4)=false:=rfl;have Ar:decide ((7:Int)=5)=false:=rfl;have DA:decide ((7:Int)=6)=false:=rfl;have JO:decide ((7:Int)=7)=true:=rfl;simp only[go_sem,d0,eT,fW,iF,pL,Ar,DA];have cT:∀b,_:=fun b=>Q5 x b m hv (by omega);refine jB _ (kz (fun S σ=>∃i h z,i≤bs.length∧(True)∧σ=Pp bs bU bb bD bR bJ ch cZ dq x id i h z S) (N:=10) rfl rfl ⟨dM,h2,0,‹_›,by first|assumption|(simp;done)|exact⟨by omega,rfl⟩,rfl⟩ ?_) ?_
  ·repeat'(first|exact kA|refine kB ?_ ?_)
   all_goals(
    rintro S σ F hl aT hp hcl ⟨fw,fg,z,dC,hc,rfl⟩ cd;obtain⟨hZ,dy,dT,c2,d',l0,mh,mR,mS,u9,rfl⟩:=JM hl;simp only[ke,iG,bF]at aT;subst aT;simp[iH,Region.binds]at hp
    repeat(obtain⟨ef,hp⟩:=hp;subst ef)
    try subst hp
    simp only[Pp,ay,e4,e1,cond_true,cond_false,bB,bx,List.append_nil]
    repeat'(first
      |exact cd _ ⟨fw,fg,z,dC,hc,rfl⟩
      |(refine du ?_)
      |(refine e5 ?_)
      |(obtain rfl:=aI (hcl 2 3 _ rfl (by decide) rfl);obtain rfl:=aI (hcl 3 4 _ rfl (by decide) rfl);obtain rfl:=aI (hcl 4 5 _ rfl (by decide) rfl);obtain rfl:=aI (hcl 5 6 _ rfl (by decide) rfl);obtain rfl:=aI (hcl 5 7 _ rfl (by decide) rfl);obtain rfl:=aI (hcl 5 8 _ rfl (by decide) rfl);obtain rfl:=aI (hcl 8 9 _ rfl (by decide) rfl);simp only[cond_false];refine ab.inl (kc bs hm fw fg [bU] [bb,bD,bR,bJ,ch,cZ,dq,.ar 39 (x.streams.map ae.enc) true,.ar 2 (x.packets.map aD.enc) true,.box (J.vc x (.sl 9 0 x.streams.length) (.sl 10 0 x.packets.length)),.box J.bw,.box (J.vc x (.sl 9 0 x.streams.length) (.sl 10 0 x.packets.length))] _ 20 (by omega) (by omega) _ dC fun ek aj gj cx ew jj=>?_);simp only[go_sem,fT];exact cd _ ⟨_,_,gj,‹_›,by first|assumption|simp|(constructor<;>assumption),rfl⟩)
      |(refine ab.af (cT _) ?_)
      |simp only[go_sem,I,bB,bx]))
  rintro _ ⟨iL,aE,z,np,hc,rfl⟩;simp only[Pp,List.replicate,ay,e4,e1,cond_true,bB,bx];simp only[go_sem,bB,bx];exact u6 bu _ 14 (by omega) (nJ _ _) rfl rfl (hk _ _ _ (by assumption) (.em _))
 ·skip
  have d0:decide ((8:Int)=0)=false:=rfl;have eT:decide ((8:Int)=1)=false:=rfl;have fW:decide ((8:Int)=2)=false:=rfl;have iF:decide ((8:Int)=3)=false:=rfl;have pL:decide ((8:Int)=4)=false:=rfl;have Ar:decide ((8:Int)=5)=false:=rfl;have DA:decide ((8:Int)=6)=false:=rfl;have JO:decide ((8:Int)=7)=false:=rfl;have W3:decide ((8:Int)=8)=true:=rfl;simp only[go_sem,d0,eT,fW,iF,pL,Ar,DA,JO];refine ab.inl (Yv bs hm dM h2 [bU] [bb,bD,bR,bJ,ch,cZ,dq,.ar 39 (x.streams.map ae.enc) true,.ar 2 (x.packets.map aD.enc) true,.box (J.vc x (.sl 9 0 x.streams.length) (.sl 10 0 x.packets.length)),.box J.bw,.box (J.vc x (.sl 9 0 x.streams.length) (.sl 10 0 x.packets.length))] _ 14 rfl Pr (zA _ (by simp[bg,vok])) _ cB fun ek aj f cx dA fN f3=>?_);simp only[go_sem,I];have cT:=acZ x f m hv (by omega) (by omega) ⟨fN,by omega⟩;refine ab.af cT ?_;simp only[go_sem,I,bB,bx]
  cases he:decide (C8 x f=0)with
  |true=>
   simp only[go_sem,bB,bx];exact u6 bu _ 15 (by omega) (nJ _ _) rfl rfl (hk _ _ _ (by assumption) (.hf f (by omega) ⟨fN,by omega⟩))
  |false=>
   simp only[go_sem,bB,bx];exact Pf bu _ (nJ _ _) (hk _ _ _ (by assumption) .same)
 ·skip
  have d0:decide ((9:Int)=0)=false:=rfl;have eT:decide ((9:Int)=1)=false:=rfl;have fW:decide ((9:Int)=2)=false:=rfl;have iF:decide ((9:Int)=3)=false:=rfl;have pL:decide ((9:Int)=4)=false:=rfl;have Ar:decide ((9:Int)=5)=false:=rfl;have DA:decide ((9:Int)=6)=false:=rfl;have JO:decide ((9:Int)=7)=false:=rfl;have W3:decide ((9:Int)=8)=false:=rfl;have apf:decide ((9:Int)=9)=true:=rfl;simp only[go_sem,d0,eT,fW,iF,pL,Ar,DA,JO,W3]
  cases ef:decide (0<(x.packets.length:Int))with
  |false=>
   simp only[go_sem,bB,bx];exact Pf bu _ (nJ _ _) (hk _ _ _ (by assumption) .same)
  |true=>
   have apg:=cO ef;simp only[go_sem];refine jB _ (kz (fun S σ=>∃i h z,i≤bs.length∧(z.1<x.packets.length∧((x.packets[z.1]?).getD (⟨0,[]⟩:aD)).number=z.2)∧σ=Pq bs bU bb bD bR bJ ch cZ dq x id i h z S) (N:=11) rfl rfl ⟨dM,h2,(0,((x.packets[0]?).getD (⟨0,[]⟩:aD)).number),‹_›,by first|assumption|(simp;done)|exact⟨by omega,rfl⟩,rfl⟩ ?_) ?_
   ·repeat'(first|exact kA|refine kB ?_ ?_)
    all_goals(
     rintro S σ F hl aT hp hcl ⟨fw,fg,z,dC,hc,rfl⟩ cd;obtain⟨hZ,dy,dT,c2,d',l0,mh,mR,mS,u9,Aw,rfl⟩:=W1 hl;simp only[ke,iG,bF]at aT;subst aT;simp[iH,Region.binds]at hp
     repeat(obtain⟨ef,hp⟩:=hp;subst ef)
     try subst hp
     have aq:=b5 aD.enc x.packets z.1 hc.1;have iQ:=hc.2;have hc1:=hc.1;rw[b8 hc.1,Option.getD_some]at iQ;simp only[Pq,ay,e4,e1,cond_true,cond_false]
     repeat'(first
       |exact cd _ ⟨fw,fg,z,dC,hc,rfl⟩
       |(refine du ?_)
       |(refine e5 ?_)
       |(obtain rfl:=aI (hcl 6 7 _ rfl (by decide) rfl);obtain rfl:=aI (hcl 7 8 _ rfl (by decide) rfl);obtain rfl:=aI (hcl 8 9 _ rfl (by decide) rfl);obtain rfl:=aI (hcl 9 10 _ rfl (by decide) rfl);simp only[cond_false];refine ab.inl (kc bs hm fw fg [bU] [bb,bD,bR,bJ,ch,cZ,dq,.ar 39 (x.streams.map ae.enc) true,.ar 2 (x.packets.map aD.enc) true,.box (J.vc x (.sl 9 0 x.streams.length) (.sl 10 0 x.packets.length)),.box J.bw,.box (J.vc x (.sl 9 0 x.streams.length) (.sl 10 0 x.packets.length))] _ (x.packets.length:Int) (by omega) (by omega) _ dC fun ek aj gj cx ew jj=>?_);obtain⟨ee,rfl⟩:=mj ew;simp only[go_sem,fT];exact cd _ ⟨_,_,(ee,((x.packets[ee]?).getD (⟨0,[]⟩:aD)).number),‹_›,⟨(by omega),rfl⟩,rfl⟩)
       |(refine⟨⟨by omega,by omega⟩,?_⟩)
       |(refine⟨hc1,?_⟩)
       |simp only[go_sem,I,aq,iQ,aD.enc,aC]))
   rintro _ ⟨iL,aE,z,np,hc,rfl⟩;simp only[Pq,List.replicate,ay,e4,e1,cond_true];simp only[go_sem];refine ab.inl (wm bs hm iL aE [bU] [bb,bD,bR,bJ,ch,cZ,dq,.ar 39 (x.streams.map ae.enc) true,.ar 2 (x.packets.map aD.enc) true,.box (J.vc x (.sl 9 0 x.streams.length) (.sl 10 0 x.packets.length)),.box J.bw,.box (J.vc x (.sl 9 0 x.streams.length) (.sl 10 0 x.packets.length))] _ 3 (by omega) (by omega) _ np fun DV b3 mv gI=>?_)
   cases mv with
   |true=>
    have cT:=Xh x z.2 m hv (by omega);simp only[go_sem,I];refine ab.af cT ?_;simp only[go_sem,I,bB,bx];exact u6 bu _ 14 (by omega) (nJ _ _) rfl rfl (hk _ _ _ (by assumption) (.K8 _))
   |false=>
    have cT:=Xe x z.2 m hv (by omega);simp only[go_sem,I];refine ab.af cT ?_;simp only[go_sem,I,bB,bx];exact u6 bu _ 14 (by omega) (nJ _ _) rfl rfl (hk _ _ _ (by assumption) (.K9 _))
set_option maxRecDepth 100000
theorem Qa{ρ:List Nat}{m:Nat}:∀{xs ys:List V},u_ ρ m xs→u_ ρ m ys→u_ ρ m (xs++ys)
 |[],_,_,h=>h
 |_::_,_,h,k=>⟨h.1,Qa h.2 k⟩
theorem GC{kv:List V}{hs:List H}{n:Nat}(hn:hs.length=n)(hr:roks n hs)(bu:bg n kv)(y:J)(a:Nat)(ha:n≤a){ex:List H}{K:V→List H→Prop}(ah:aL (hs++ex) a=.ar 39 (y.streams.map ae.enc) true)(ai:aL (hs++ex) (a+1)=.ar 2 (y.packets.map aD.enc) true)
  (b6:K (gR y n) (hs++gH y)):pe kv K (gR y a) (hs++ex):=by
 subst hn;refine⟨List.range hs.length++[a,a+1],gR y hs.length,hs++gH y,?_,b6⟩;refine Kx (hs:=hs) (ex:=ex) [a,a+1] (by simp) (by simp;omega) hr ?_ (by simp[allOk,hok,gH]) bu ?_ ?_
 ·simp only[gH,hsees,ah,ai];simp[hsee]
 ·have h1:=nP hs.length 0 [a,a+1];have h2:=nP hs.length 1 [a,a+1];simp only[Nat.add_zero,e1,e4]at h1 h2;simp[gR,vsees,vsee,ren,rens]
 ·simp[gR,gH,bg,vok]
theorem X1{ts kv:List V}(X2:u_ (List.range 11) 11 ts)(bu:bg 7 kv){bU c bb bD bR bJ ch cZ:H}(h0:rok 11 bU)(hc:rok 11 c)(h2:rok 11 bb)(aj:rok 11 bD)(aE:rok 11 bR)(b3:rok 11 bJ)(e2:rok 11 ch)(j4:rok 11 cZ)(cs:List V)(hcs:cs.length=50)(x:J) :
  kk (ts++kv) (List.range 11) ⟨[.ptr 1 0 0,gR x 9],bU::c::bb::bD::bR::bJ::ch::cZ::.box cs::gH x⟩ ⟨[.ptr 1 0 0,gR x 9],bU::c::bb::bD::bR::bJ::ch::cZ::.box (List.replicate 50 .ak)::gH x⟩:=by
 have hf:mQ (List.range 11) 11:=v_ (Nat.le_refl _);refine⟨List.nodup_range,?_,⟨nK hf h0,nK hf hc,nK hf h2,nK hf aj,nK hf aE,nK hf b3,nK hf e2,nK hf j4,hcs▸Qb _ cs,⟨rfl,rfl,rfl⟩,⟨rfl,rfl,rfl⟩,trivial⟩,?_,?_,Qa X2 (pf hf (by simp[gH]) (kV (by omega) _ bu))⟩
 ·simp[gR,vsees,vsee,ren,rens,List.range,List.range.loop]
 ·simp[gR,gH,bg,vok]
 ·exact y1 (xs:=bU::c::bb::bD::bR::bJ::ch::cZ::.box (List.replicate 50 .ak)::gH x) ⟨h0,hc,h2,aj,aE,b3,e2,j4,Ky _ _,trivial,trivial,trivial⟩
def gS:H:=.box J.bw
theorem Xj(bs:List Int)(hm:bs.length≤maxLen)(i:Nat)(h:Int)(bU bb bD bR bJ ch:H)(hq:rok 7 bU∧rok 7 bb∧rok 7 bD∧rok 7 bR∧rok 7 bJ∧rok 7 ch)(kv:List V)(bu:bg 7 kv)(K:V→List H→Prop)(hi:i≤bs.length)
  (hk:∀(cr:Nat) (h':Int) (y:J),cr≤bs.length→Drawn 14 y→K (gR y 7) ([bU,cD bs cr h',bb,bD,bR,bJ,ch]++gH y)):dx Tryz.prog 87 kv [bU,cD bs i h,bb,bD,bR,bJ,ch] [.ptr 1 0 0] K:=by
 have Kz:∀ts:List V,bg 8 ts→bg 8 (ts++kv):=fun ts h=>BX h (kV (by omega) kv bu);have Qc:roks 8 [bU]∧roks 8 [bb,bD,bR,bJ,ch,gS]:=⟨⟨fe (by omega) _ hq.1,trivial⟩,fe (by omega) _ hq.2.1,fe (by omega) _ hq.2.2.1,fe (by omega) _ hq.2.2.2.1,fe (by omega) _ hq.2.2.2.2.1,fe (by omega) _ hq.2.2.2.2.2,by simp[gS,roks,rok,bg,vok]⟩;have KA:∀(cr:Nat) (h':Int),roks 7 [bU,cD bs cr h',bb,bD,bR,bJ,ch]:=fun cr h'=>⟨hq.1,by simp[cD,rok,bg,vok],hq.2.1,hq.2.2.1,hq.2.2.2.1,hq.2.2.2.2.1,hq.2.2.2.2.2,trivial⟩;have JU:∀(cr:Nat) (h':Int),roks 8 [bU,cD bs cr h',bb,bD,bR,bJ,ch,gS]:=fun cr h'=>⟨fe (by omega) _ hq.1,by simp[cD,rok,bg,vok],fe (by omega) _ hq.2.1,fe (by omega) _ hq.2.2.1,fe (by omega) _ hq.2.2.2.1,fe (by omega) _ hq.2.2.2.2.1,fe (by omega) _ hq.2.2.2.2.2,by simp[gS,rok,bg,vok],trivial⟩;have ui:rok 11 bU∧rok 11 bb∧rok 11 bD∧rok 11 bR∧rok 11 bJ∧rok 11 ch:=⟨fe (by omega) _ hq.1,fe (by omega) _ hq.2.1,fe (by omega) _ hq.2.2.1,fe (by omega) _ hq.2.2.2.1,fe (by omega) _ hq.2.2.2.2.1,fe (by omega) _ hq.2.2.2.2.2⟩;refine dx.nh ?_;refine(fc (n:=27) (rs:=[.cell 2 37]) Tryz.func87 rfl Tryz.call87 b1 rfl rfl ?_);simp only[go_sem];refine ab.inl (wm bs hm i h [bU] [bb,bD,bR,bJ,ch,gS] _ 2 (by omega) (by omega) _ hi fun fm h1 eF cm=>?_);simp only[go_sem,bB,bx];refine ab.inl (KB bs hm fm h1 [bU] [bb,bD,bR,bJ,ch,gS] _ 8 rfl Qc (Kz _ (by simp[bg,vok])) _ cm fun dM h2 o cB=>?_);simp only[go_sem,bB,bx];refine ab.inl (KB bs hm dM h2 [bU] [bb,bD,bR,bJ,ch,gS] _ 8 rfl Qc (Kz _ (by simp[bg,vok])) _ cB fun ek aj p cx=>?_);simp only[go_sem,bB,bx];have bT:=Qd eF o.ring o.bX o.iK o.cY o.kl o.jE o.ey o.g7 p.ring p.bX p.iK p.cY p.kl p.jE p.ey p.g7;change PureCall _ _ _ [.agg (J.enc ((kY eF o p))),.one (.bool _)]at bT;have b4:=Drawn.new eF o p;generalize kY eF o p=x at bT b4;refine ab.intro bT ?_;simp only[go_sem,I,bB,bx];refine ab.inl (kc bs hm ek aj [bU] [bb,bD,bR,bJ,ch,gS,.ar 39 (x.streams.map ae.enc) true,.ar 2 (x.packets.map aD.enc) true,.box (J.vc x (.sl 8 0 x.streams.length) (.sl 9 0 x.packets.length))] _ 12 (by omega) (by omega) _ cx fun iL aE k e0 oH uj=>?_);obtain⟨k,rfl⟩:=mj oH;simp only[go_sem,bB,bx];rw[show IntKind.i64.wrap (2+(k:Int))=((k+2:Nat):Int)by rw[bz]<;>omega];refine b7.intro (α:=Nat×Int×J×Nat) (fun y=>⟨(.ptr 1 0 0::.ak::.ptr 7 0 0::.ptr 8 0 0::.ak::.i y.2.2.2::jn 21 []),[bU,cD bs y.1 y.2.1,bb,bD,bR,bJ,ch,gS,.box (J.vc (y.2.2.1) (.sl 9 0 (y.2.2.1).streams.length) (.sl 10 0 (y.2.2.1).packets.length)),.ar 39 ((y.2.2.1).streams.map ae.enc) true,.ar 2 ((y.2.2.1).packets.map aD.enc) true]⟩)
  (fun y=>y.2.2.2) (fun y=>y.1≤bs.length∧y.2.2.2≤14∧Drawn (14-y.2.2.2) y.2.2.1) (iL,aE,x,k+2) [0,1,2,3,4,5,6,7,10,8,9] ⟨e0,by simp only;omega,b4.mono (by omega)⟩ ?_ ?_
 ·refine Kx (hs:=[bU,cD bs iL aE,bb,bD,bR,bJ,ch,gS]) (ex:=[.ar 39 (x.streams.map ae.enc) true,.ar 2 (x.packets.map aD.enc) true,.box (J.vc x (.sl 8 0 x.streams.length) (.sl 9 0 x.packets.length))]) (ex':=[.box (J.vc x (.sl 9 0 x.streams.length) (.sl 10 0 x.packets.length)),.ar 39 (x.streams.map ae.enc) true,.ar 2 (x.packets.map aD.enc) true]) [10,8,9] (by decide) (by simp) (JU _ _) ?_ (by simp[allOk,hok,bg,vok]) (Kz [] trivial) ?_ ?_
  ·simp[hsees,hsee,aL,vsees,vsee,ren,List.range,List.range.loop]
  ·simp[vsees,vsee,ren,List.range,List.range.loop]
  ·simp[bg,vok]
 ·rintro⟨DV,b3,x,n⟩ ⟨KC,hn,hd⟩;simp only at KC hn hd;have hx:=hd.zb (by omega);simp only[go_sem]
  cases n with
  |zero=>
   rw[show decide ((0:Int)<((0:Nat):Int))=false from rfl];simp only[go_sem,gS];exact GC (n:=7) (hs:=[bU,cD bs DV b3,bb,bD,bR,bJ,ch]) (ex:=[_,_,_,_]) rfl (KA _ _) bu x 9 (by omega) (by rfl) (by rfl) (hk _ _ _ KC hd)
  |succ n=>
   rw[show decide ((0:Int)<((n+1:Nat):Int))=true from bp (by omega)];simp only[go_sem];refine ab.ij [0,2,3,5] (by simp only[keepT,List.elem_cons,List.elem_nil,Nat.reduceBEq,Nat.reduceAdd,cond_true,cond_false];rfl) (dx.y0 (X1 (by simp[u_,vsee,vok,ren,List.range,List.range.loop]) bu ui.1 (by simp[cD,rok,bg,vok]) ui.2.1 ui.2.2.1 ui.2.2.2.1 ui.2.2.2.2.1 ui.2.2.2.2.2 (by simp[gS,rok,bg,vok]) _ rfl x) (X3 bs hm DV b3 x (14-(n+1)) hx (by omega) bU bb bD bR bJ ch gS (.box (List.replicate 50 .ak)) ⟨fe (by omega) _ hq.1,fe (by omega) _ hq.2.1,fe (by omega) _ hq.2.2.1,fe (by omega) _ hq.2.2.2.1,fe (by omega) _ hq.2.2.2.2.1,fe (by omega) _ hq.2.2.2.2.2,by simp[gS,rok,bg,vok],Ky 9 50⟩ _ (BX (by simp[bg,vok]) (kV (by omega) kv bu)) _ KC fun GW e2 y hL hy=>?_));simp only[go_sem,gR,gH,List.replicate,eW,ft,bB,bx];rw[show IntKind.i64.wrap (((n+1:Nat):Int)-1)=(n:Int)by rw[bz]<;>omega];refine bA.intro (GW,e2,y,n) (List.range 11) ⟨hL,by simp only;omega,by simp only;have:=hd.step hy;rwa [show 14-(n+1)+1=14-n from by omega]at this⟩ (Nat.lt_succ_self n) ?_;refine GX (hs:=[bU,cD bs GW e2,bb,bD,bR,bJ,ch,gS,.box (J.vc y (.sl 9 0 y.streams.length) (.sl 10 0 y.packets.length)),.ar 39 (y.streams.map ae.enc) true,.ar 2 (y.packets.map aD.enc) true]) ⟨ui.1,by simp[cD,rok,bg,vok],ui.2.1,ui.2.2.1,ui.2.2.2.1,ui.2.2.2.2.1,ui.2.2.2.2.2,by simp[gS,rok,bg,vok],by simp[rok,bg,vok],trivial,trivial,trivial⟩ (kV (by simp) kv bu) ?_ ?_
   ·simp[vsees,vsee,ren,List.range,List.range.loop]
   ·simp[bg,vok]
set_option maxRecDepth 100000
theorem JY(bs:List Int)(hm:bs.length≤maxLen)(i:Nat)(h:Int)(bU bb bD bR bJ:H)(hq:rok 6 bU∧rok 6 bb∧rok 6 bD∧rok 6 bR∧rok 6 bJ)(kv:List V)(bu:bg 6 kv)(K:V→List H→Prop)(hi:i≤bs.length)
  (hk:∀(cr:Nat) (h':Int) (y:J),cr≤bs.length→oA y→K (gR y 6) ([bU,cD bs cr h',bb,bD,bR,bJ]++gH y)):dx Tryz.prog 29 kv [bU,cD bs i h,bb,bD,bR,bJ] [.ptr 1 0 0] K:=by
 have hr2:∀(cr:Nat) (h':Int),roks 6 [bU,cD bs cr h',bb,bD,bR,bJ]:=fun cr h'=>⟨hq.1,by simp[cD,rok,bg,vok],hq.2.1,hq.2.2.1,hq.2.2.2.1,hq.2.2.2.2,trivial⟩;refine dx.nh ?_;refine(fc (n:=34) (rs:=[.cell 2 37]) Tryz.func29 rfl Tryz.call29 b1 rfl rfl ?_);simp only[go_sem];refine ab.inl (Xj bs hm i h bU bb bD bR bJ gS ⟨fe (by omega) _ hq.1,fe (by omega) _ hq.2.1,fe (by omega) _ hq.2.2.1,fe (by omega) _ hq.2.2.2.1,fe (by omega) _ hq.2.2.2.2,by simp[gS,rok,bg,vok]⟩ _ (BX (by simp[bg,vok]) (kV (by omega) kv bu)) _ hi fun fm h1 y cm b4=>?_);simp only[go_sem,gR,gH,gS,bB,bx];refine ab.inl (kc bs hm fm h1 [bU] [bb,bD,bR,bJ,.box J.bw,.ar 39 (y.streams.map ae.enc) true,.ar 2 (y.packets.map aD.enc) true,.box (J.vc y (.sl 7 0 y.streams.length) (.sl 8 0 y.packets.length))] _ 20 (by omega) (by omega) _ cm fun dM h2 k cB eS dI=>?_);have a2:∀(x:J) (ek:Nat) (aj:Int) (cF jy:H) (ex:List H),ek≤bs.length→oA x→pe kv K (gR x 7) (bU::cD bs ek aj::bb::bD::bR::bJ::cF::.ar 39 (x.streams.map ae.enc) true::.ar 2 (x.packets.map aD.enc) true::jy::ex):=by
  intro x ek aj cF jy ex Xk hx;exact GC (n:=6) (hs:=[bU,cD bs ek aj,bb,bD,bR,bJ]) (ex:=cF::.ar 39 (x.streams.map ae.enc) true::.ar 2 (x.packets.map aD.enc) true::jy::ex) rfl (hr2 _ _) bu x 7 (by omega) rfl rfl (hk _ _ _ Xk hx)
 obtain rfl|rfl|rfl|rfl|aE:k=0∨k=1∨k=2∨k=3∨4≤k:=by omega
 ·have d0:decide ((0:Int)=0)=true:=rfl;simp only[go_sem];refine ab.inl (v8 bs hm dM h2 [bU] [bb,bD,bR,bJ,.box J.bw,.ar 39 (y.streams.map ae.enc) true,.ar 2 (y.packets.map aD.enc) true,.box (J.vc y (.sl 7 0 y.streams.length) (.sl 8 0 y.packets.length)),.ar 1 ([-1,3,7,256].map aW) true] _ 8 [-1,3,7,256] rfl (by decide) (by decide) _ cB fun ek aj v cx ew=>?_);simp only[go_sem,bB,bx];exact a2 {y with closed:=v} ek aj _ _ _ cx ⟨y,_,_,_,_,b4,rfl⟩
 ·have d0:decide ((1:Int)=0)=false:=rfl;have eT:decide ((1:Int)=1)=true:=rfl;simp only[go_sem,d0];refine ab.inl (v8 bs hm dM h2 [bU] [bb,bD,bR,bJ,.box J.bw,.ar 39 (y.streams.map ae.enc) true,.ar 2 (y.packets.map aD.enc) true,.box (J.vc y (.sl 7 0 y.streams.length) (.sl 8 0 y.packets.length)),.ar 1 ([-1,1000000,1000001].map aW) true] _ 8 [-1,1000000,1000001] rfl (by decide) (by decide) _ cB fun ek aj v cx ew=>?_);simp only[go_sem,bB,bx];exact a2 {y with h8:=v} ek aj _ _ _ cx ⟨y,_,_,_,_,b4,rfl⟩
 ·have d0:decide ((2:Int)=0)=false:=rfl;have eT:decide ((2:Int)=1)=false:=rfl;have fW:decide ((2:Int)=2)=true:=rfl;simp only[go_sem,d0,eT];refine ab.inl (v8 bs hm dM h2 [bU] [bb,bD,bR,bJ,.box J.bw,.ar 39 (y.streams.map ae.enc) true,.ar 2 (y.packets.map aD.enc) true,.box (J.vc y (.sl 7 0 y.streams.length) (.sl 8 0 y.packets.length)),.ar 1 ([-1,0].map aW) true] _ 8 [-1,0] rfl (by decide) (by decide) _ cB fun ek aj v cx ew=>?_);simp only[go_sem,bB,bx];exact a2 {y with cY:={y.cY with used:=v}} ek aj _ _ _ cx ⟨y,_,_,_,_,b4,rfl⟩
 ·have d0:decide ((3:Int)=0)=false:=rfl;have eT:decide ((3:Int)=1)=false:=rfl;have fW:decide ((3:Int)=2)=false:=rfl;have iF:decide ((3:Int)=3)=true:=rfl;simp only[go_sem,d0,eT,fW];refine ab.inl (v8 bs hm dM h2 [bU] [bb,bD,bR,bJ,.box J.bw,.ar 39 (y.streams.map ae.enc) true,.ar 2 (y.packets.map aD.enc) true,.box (J.vc y (.sl 7 0 y.streams.length) (.sl 8 0 y.packets.length)),.ar 1 ([0,1000000,1000001].map aW) true] _ 8 [0,1000000,1000001] rfl (by decide) (by decide) _ cB fun ek aj v cx ew=>?_);simp only[go_sem,bB,bx];exact a2 {y with number:=v} ek aj _ _ _ cx ⟨y,_,_,_,_,b4,rfl⟩
 ·have d0:decide (k=0)=false:=bo (by omega);have eT:decide (k=1)=false:=bo (by omega);have fW:decide (k=2)=false:=bo (by omega);have iF:decide (k=3)=false:=bo (by omega);simp only[go_sem,d0,eT,fW,iF,bB,bx];exact a2 y dM h2 _ _ _ cB ⟨y,_,_,_,_,b4,rfl⟩
theorem JZ(bs:List Int)(hm:bs.length≤maxLen)(i:Nat)(h:Int)(bU:H)(hq:rok 2 bU)(kv:List V)(bu:bg 2 kv)(K:V→List H→Prop)(hi:i≤bs.length)
  (hk:∀(cr:Nat) (h':Int) (y:J),cr≤bs.length→oA y→K (gR y 2) ([bU,cD bs cr h']++gH y)):dx Tryz.prog 29 kv [bU,cD bs i h] [.ptr 1 0 0] K:=by
 have hr2:∀(cr:Nat) (h':Int),roks 2 [bU,cD bs cr h']:=fun cr h'=>⟨hq,by simp[cD,rok,bg,vok],trivial⟩;refine dx.nh (dx.y0 (hs':=[bU,cD bs i h,.b',.b',.b',.b']) (vs':=[.ptr 1 0 0]) (ρ:=List.range 6) ?_ (JY bs hm i h bU .b' .b' .b' .b' ⟨fe (by omega) _ hq,trivial,trivial,trivial,trivial⟩ kv (kV (by omega) kv bu) _ hi fun cr h' y a hy=>?_))
 ·have hf:mQ (List.range 6) 6:=v_ (Nat.le_refl _);exact⟨List.nodup_range,by simp[vsees,vsee,ren,List.range,List.range.loop],⟨nK hf (fe (by omega) _ hq),nK hf (DG _ _ _ _),trivial,trivial,trivial,trivial,trivial⟩,by simp[bg,vok],y1 (xs:=[bU,cD bs i h,.b',.b',.b',.b']) ⟨fe (by simp) _ hq,DG _ _ _ _,trivial,trivial,trivial,trivial,trivial⟩,pf hf (by simp) (kV (by omega) kv bu)⟩
 ·exact GC (n:=2) (hs:=[bU,cD bs cr h']) (ex:=[.b',.b',.b',.b']++gH y) rfl (hr2 _ _) bu y 6 (by omega) rfl rfl (hk _ _ _ a hy)
theorem Xl(bs:List Int)(hm:bs.length≤maxLen)(i:Nat)(h:Int)(bU bb:H)(hq:rok 3 bU∧rok 3 bb)(kv:List V)(bu:bg 3 kv)(K:V→List H→Prop)(hi:i≤bs.length)
  (hk:∀(cr:Nat) (h':Int) (y:J),cr≤bs.length→oA y→K (gR y 3) ([bU,cD bs cr h',bb]++gH y)):dx Tryz.prog 29 kv [bU,cD bs i h,bb] [.ptr 1 0 0] K:=by
 have hr2:∀(cr:Nat) (h':Int),roks 3 [bU,cD bs cr h',bb]:=fun cr h'=>⟨hq.1,by simp[cD,rok,bg,vok],hq.2,trivial⟩;refine dx.nh (dx.y0 (hs':=[bU,cD bs i h,bb,.b',.b',.b']) (vs':=[.ptr 1 0 0]) (ρ:=List.range 6) ?_ (JY bs hm i h bU bb .b' .b' .b' ⟨fe (by omega) _ hq.1,fe (by omega) _ hq.2,trivial,trivial,trivial⟩ kv (kV (by omega) kv bu) _ hi fun cr h' y a hy=>?_))
 ·have hf:mQ (List.range 6) 6:=v_ (Nat.le_refl _);exact⟨List.nodup_range,by simp[vsees,vsee,ren,List.range,List.range.loop],⟨nK hf (fe (by omega) _ hq.1),nK hf (DG _ _ _ _),nK hf (fe (by omega) _ hq.2),trivial,trivial,trivial,trivial⟩,by simp[bg,vok],y1 (xs:=[bU,cD bs i h,bb,.b',.b',.b']) ⟨fe (by simp) _ hq.1,DG _ _ _ _,fe (by simp) _ hq.2,trivial,trivial,trivial,trivial⟩,pf hf (by simp) (kV (by omega) kv bu)⟩
 ·exact GC (n:=3) (hs:=[bU,cD bs cr h',bb]) (ex:=[.b',.b',.b']++gH y) rfl (hr2 _ _) bu y 6 (by omega) rfl rfl (hk _ _ _ a hy)
set_option maxRecDepth 100000
theorem Yl(bs:List Int)(hm:bs.length≤maxLen)(i:Nat)(h:Int)(pre a6:List H)(kv:List V)(n:Nat)(hn:pre.length+(a6.length+1)=n)(hr:roks n pre∧roks n a6)(bu:bg n kv)(K:V→List H→Prop)(hi:i≤bs.length)
  (hk:∀(cr:Nat) (h' x:Int),cr≤bs.length→K (.i x) (pre++cD bs cr h'::a6)):dx Tryz.prog 30 kv (pre++cD bs i h::a6) [.ptr pre.length 0 0] K:=by
 have a2:∀(cr:Nat) (h' x:Int) (ex:List H),cr≤bs.length→pe kv K (.i x) (pre++cD bs cr h'::(a6++ex)):=by
  intro cr h' x ex dC;subst hn;exact⟨List.range (pre.length+(a6.length+1)),.i x,pre++cD bs cr h'::a6,Cb hr bu (by simp only[vsees,vsee,ren,and_true]) (by simp[bg,vok]),hk cr h' x dC⟩
 refine dx.nh ?_;refine(fc (n:=10) (rs:=[.tmp 2]) Tryz.func30 rfl Tryz.call30 b1 rfl rfl ?_);simp only[go_sem];refine ab.inl (wm bs hm i h pre a6 _ 8 (by omega) (by omega) _ hi fun fm h1 eF cm=>?_);simp only[go_sem]
 cases eF with
 |true=>
  simp only[go_sem,gm,ez,dU,eY];refine ab.inl (v8 bs hm fm h1 pre (a6++[.ar 1 ([-1,4611686018427387903,4611686018427387904].map aW) true]) _ a6.length [-1,4611686018427387903,4611686018427387904] (by rw[eY];rfl) (by decide) (by decide) _ cm fun dM h2 x2 cB eS=>?_);simp only[go_sem];exact a2 dM h2 x2 _ cB
 |false=>
  simp only[go_sem];refine ab.inl (kc bs hm fm h1 pre a6 _ 20 (by omega) (by omega) _ cm fun dM h2 x2 cB eS dI=>?_);simp only[go_sem];have:=a2 dM h2 x2 [] cB
  rwa [List.append_nil]at this
theorem KZ{S:List Bool}(h:S.length=5):∃fX cm cB cx e0,S=[fX,cm,cB,cx,e0]:=by
 match S,h with|[fX,cm,cB,cx,e0],_=>exact⟨fX,cm,cB,cx,e0,rfl⟩
theorem Ym{S:List Bool}(h:S.length=6):∃fX cm cB cx e0 gI,S=[fX,cm,cB,cx,e0,gI]:=by
 match S,h with|[fX,cm,cB,cx,e0,gI],_=>exact⟨fX,cm,cB,cx,e0,gI,rfl⟩
theorem Yn{S:List Bool}(h:S.length=7):∃fX cm cB cx e0 gI hL,S=[fX,cm,cB,cx,e0,gI,hL]:=by
 match S,h with|[fX,cm,cB,cx,e0,gI,hL],_=>exact⟨fX,cm,cB,cx,e0,gI,hL,rfl⟩
def K0(bs:List Int)(x:J)(i:Nat)(h z:Int)(S:List Bool):St:=⟨[.d (.sl 1 (bs.map eU8)),.ak,.ptr 0 0 0,(bif S.getD 4 false then .i z else .i 0),.ptr 1 0 0,.ptr 4 0 0,.d (.sl 1 (bs.map eU8)),.ptr 1 0 0,.ptr 1 0 0,.agg (J.vc x (.sl 2 0 x.streams.length) (.sl 3 0 x.packets.length)),(ay S 0 (.agg (J.vc x (.sl 2 0 x.streams.length) (.sl 3 0 x.packets.length)))),(ay S 1 (.ptr 1 0 0)),(ay S 2 (.i z))],[(bif S.getD 3 false then .box (J.vc x (.sl 2 0 x.streams.length) (.sl 3 0 x.packets.length))else .box J.bw),cD bs i h,.ar 39 (x.streams.map ae.enc) true,.ar 2 (x.packets.map aD.enc) true,.box (J.vc x (.sl 2 0 x.streams.length) (.sl 3 0 x.packets.length))]⟩
theorem Yo(bs:List Int):vl Tryz.prog 5 [.one (.sl 1 (bs.map eU8))] (fun rs=>∃(x:J) (k:Int),oA x∧rs=[.agg (J.enc x),.one (.int .i64 k)]):=by
 refine G' Tryz.func5 rfl Tryz.call5 b1 (.d (.sl 1 (bs.map eU8))::List.replicate 12 .ak) rfl [.cell 2 37,.tmp 3] rfl ?_;intro ok;have hm:=fr ok;simp only[List.replicate];simp only[go_sem];refine ab.inl (D4 bs hm [gS] _ (by simp[gS,roks,rok,bg,vok]) (by simp[bg,vok]) _ fun h1=>?_);simp only[go_sem,bB,bx];refine ab.inl (JZ bs hm 0 h1 gS (by simp[gS,rok,bg,vok]) _ (by simp[bg,vok]) _ (by omega) fun dM h2 x cB b4=>?_);simp only[go_sem,gR,gH,gS,bB,bx];refine jB _ (kz (fun S σ=>∃i h z,i≤bs.length∧True∧σ=K0 bs x i h z S) (N:=5) rfl rfl ⟨dM,h2,0,‹_›,by first|trivial|simp,rfl⟩ ?_) ?_
 ·repeat'(first|exact kA|refine kB ?_ ?_)
  all_goals(
   rintro S σ F hl aT hp hcl ⟨fw,fg,z,dC,hc,rfl⟩ cd;obtain⟨hZ,dy,dT,c2,d',rfl⟩:=KZ hl;simp only[ke,iG,bF]at aT;subst aT;simp[iH,Region.binds]at hp
   repeat(obtain⟨ef,hp⟩:=hp;subst ef)
   try subst hp
   simp only[K0,ay,e4,e1,cond_true,cond_false]
   repeat'(first
     |exact cd _ ⟨fw,fg,z,dC,hc,rfl⟩
     |(refine du ?_)
     |(refine e5 ?_)
     |(obtain rfl:=aI (hcl 2 3 _ rfl (by decide) rfl);obtain rfl:=aI (hcl 2 4 _ rfl (by decide) rfl);simp only[cond_false];refine ab.inl (Yl bs hm fw fg [.box J.bw] [.ar 39 (x.streams.map ae.enc) true,.ar 2 (x.packets.map aD.enc) true,.box (J.vc x (.sl 2 0 x.streams.length) (.sl 3 0 x.packets.length))] _ 5 rfl (by simp[roks,rok,bg,vok]) (by simp[bg,vok,Az]) _ dC fun ek aj gj cx=>?_);simp only[go_sem,fT,bB,bx];exact cd _ ⟨_,_,gj,‹_›,trivial,rfl⟩)
     |simp only[go_sem,bB,bx]))
 rintro _ ⟨iL,aE,z,np,hc,rfl⟩;simp only[K0,List.replicate,ay,e4,e1,cond_true];simp only[go_sem];refine⟨_,⟨x,z,b4,rfl⟩,?_⟩;simp only[go_sem];simp[outOA]
def K3(bs:List Int)(x:J)(i:Nat)(h z:Int)(S:List Bool):St:=⟨[.d (.sl 1 (bs.map eU8)),.ak,.ptr 0 0 0,(bif S.getD 4 false then .i z else .i 0),.ptr 1 0 0,.ptr 4 0 0,.d (.sl 1 (bs.map eU8)),.ptr 1 0 0,.ptr 1 0 0,.agg (J.vc x (.sl 2 0 x.streams.length) (.sl 3 0 x.packets.length)),(ay S 0 (.agg (J.vc x (.sl 2 0 x.streams.length) (.sl 3 0 x.packets.length)))),(ay S 1 (.ptr 1 0 0)),(ay S 2 (.i z))],[(bif S.getD 3 false then .box (J.vc x (.sl 2 0 x.streams.length) (.sl 3 0 x.packets.length))else .box J.bw),cD bs i h,.ar 39 (x.streams.map ae.enc) true,.ar 2 (x.packets.map aD.enc) true,.box (J.vc x (.sl 2 0 x.streams.length) (.sl 3 0 x.packets.length))]⟩
theorem Yp(bs:List Int):vl Tryz.prog 16 [.one (.sl 1 (bs.map eU8))] (fun rs=>∃(x:J) (k:Int),oA x∧rs=[.agg (J.enc x),.one (.int .i64 k)]):=by
 refine G' Tryz.func16 rfl Tryz.call16 b1 (.d (.sl 1 (bs.map eU8))::List.replicate 12 .ak) rfl [.cell 2 37,.tmp 3] rfl ?_;intro ok;have hm:=fr ok;simp only[List.replicate];simp only[go_sem];refine ab.inl (D4 bs hm [gS] _ (by simp[gS,roks,rok,bg,vok]) (by simp[bg,vok]) _ fun h1=>?_);simp only[go_sem,bB,bx];refine ab.inl (JZ bs hm 0 h1 gS (by simp[gS,rok,bg,vok]) _ (by simp[bg,vok]) _ (by omega) fun dM h2 x cB b4=>?_);simp only[go_sem,gR,gH,gS,bB,bx];refine jB _ (kz (fun S σ=>∃i h z,i≤bs.length∧True∧σ=K3 bs x i h z S) (N:=5) rfl rfl ⟨dM,h2,0,‹_›,by first|trivial|simp,rfl⟩ ?_) ?_
 ·repeat'(first|exact kA|refine kB ?_ ?_)
  all_goals(
   rintro S σ F hl aT hp hcl ⟨fw,fg,z,dC,hc,rfl⟩ cd;obtain⟨hZ,dy,dT,c2,d',rfl⟩:=KZ hl;simp only[ke,iG,bF]at aT;subst aT;simp[iH,Region.binds]at hp
   repeat(obtain⟨ef,hp⟩:=hp;subst ef)
   try subst hp
   simp only[K3,ay,e4,e1,cond_true,cond_false]
   repeat'(first
     |exact cd _ ⟨fw,fg,z,dC,hc,rfl⟩
     |(refine du ?_)
     |(refine e5 ?_)
     |(obtain rfl:=aI (hcl 2 3 _ rfl (by decide) rfl);obtain rfl:=aI (hcl 2 4 _ rfl (by decide) rfl);simp only[cond_false];refine ab.inl (kc bs hm fw fg [.box J.bw] [.ar 39 (x.streams.map ae.enc) true,.ar 2 (x.packets.map aD.enc) true,.box (J.vc x (.sl 2 0 x.streams.length) (.sl 3 0 x.packets.length))] _ 12 (by omega) (by omega) _ dC fun ek aj gj cx ew jj=>?_);simp only[go_sem,fT,bB,bx];exact cd _ ⟨_,_,gj,‹_›,trivial,rfl⟩)
     |simp only[go_sem,bB,bx]))
 rintro _ ⟨iL,aE,z,np,hc,rfl⟩;simp only[K3,List.replicate,ay,e4,e1,cond_true];simp only[go_sem];refine⟨_,⟨x,z,b4,rfl⟩,?_⟩;simp only[go_sem];simp[outOA]
def K4(bs:List Int)(x:J)(i:Nat)(h z:Int)(S:List Bool):St:=⟨[.d (.sl 1 (bs.map eU8)),.ak,.ptr 0 0 0,(bif S.getD 5 false then .i z else .i 0),.ptr 1 0 0,.ptr 4 0 0,.d (.sl 1 (bs.map eU8)),.ptr 1 0 0,.ptr 1 0 0,.agg (J.vc x (.sl 2 0 x.streams.length) (.sl 3 0 x.packets.length)),(ay S 0 (.agg (J.vc x (.sl 2 0 x.streams.length) (.sl 3 0 x.packets.length)))),(ay S 1 (.ptr 1 0 0)),(ay S 2 (.sl 5 0 5)),(ay S 3 (.i z))],[(bif S.getD 4 false then .box (J.vc x (.sl 2 0 x.streams.length) (.sl 3 0 x.packets.length))else .box J.bw),cD bs i h,.ar 39 (x.streams.map ae.enc) true,.ar 2 (x.packets.map aD.enc) true,.box (J.vc x (.sl 2 0 x.streams.length) (.sl 3 0 x.packets.length))]++(bif S.getD 2 false then [.ar 1 ([-1,0,3,255,256].map aW) true]else [])⟩
theorem Yq(bs:List Int):vl Tryz.prog 19 [.one (.sl 1 (bs.map eU8))] (fun rs=>∃(x:J) (k:Int),oA x∧rs=[.agg (J.enc x),.one (.int .i64 k)]):=by
 refine G' Tryz.func19 rfl Tryz.call19 b1 (.d (.sl 1 (bs.map eU8))::List.replicate 13 .ak) rfl [.cell 2 37,.tmp 3] rfl ?_;intro ok;have hm:=fr ok;simp only[List.replicate];simp only[go_sem];refine ab.inl (D4 bs hm [gS] _ (by simp[gS,roks,rok,bg,vok]) (by simp[bg,vok]) _ fun h1=>?_);simp only[go_sem,bB,bx];refine ab.inl (JZ bs hm 0 h1 gS (by simp[gS,rok,bg,vok]) _ (by simp[bg,vok]) _ (by omega) fun dM h2 x cB b4=>?_);simp only[go_sem,gR,gH,gS,bB,bx];refine jB _ (kz (fun S σ=>∃i h z,i≤bs.length∧True∧σ=K4 bs x i h z S) (N:=6) rfl rfl ⟨dM,h2,0,‹_›,by first|trivial|simp,rfl⟩ ?_) ?_
 ·repeat'(first|exact kA|refine kB ?_ ?_)
  all_goals(
   rintro S σ F hl aT hp hcl ⟨fw,fg,z,dC,hc,rfl⟩ cd;obtain⟨hZ,dy,dT,c2,d',l0,rfl⟩:=Ym hl;simp only[ke,iG,bF]at aT;subst aT;simp[iH,Region.binds]at hp
   repeat(obtain⟨ef,hp⟩:=hp;subst ef)
   try subst hp
   simp only[K4,ay,e4,e1,cond_true,cond_false,bB,bx,List.append_nil]
   repeat'(first
     |exact cd _ ⟨fw,fg,z,dC,hc,rfl⟩
     |(refine du ?_)
     |(refine e5 ?_)
     |(obtain rfl:=aI (hcl 3 4 _ rfl (by decide) rfl);obtain rfl:=aI (hcl 3 5 _ rfl (by decide) rfl);simp only[cond_false];refine ab.inl (v8 bs hm fw fg [.box J.bw] [.ar 39 (x.streams.map ae.enc) true,.ar 2 (x.packets.map aD.enc) true,.box (J.vc x (.sl 2 0 x.streams.length) (.sl 3 0 x.packets.length)),.ar 1 ([-1,0,3,255,256].map aW) true] _ 3 [-1,0,3,255,256] rfl (by decide) (by decide) _ dC fun ek aj gj cx ew=>?_);simp only[go_sem,fT,bB,bx];exact cd _ ⟨_,_,gj,‹_›,trivial,rfl⟩)
     |simp only[go_sem,bB,bx]))
 rintro _ ⟨iL,aE,z,np,hc,rfl⟩;simp only[K4,List.replicate,ay,e4,e1,cond_true,bB,bx];simp only[go_sem];refine⟨_,⟨x,z,b4,rfl⟩,?_⟩;simp only[go_sem];simp[outOA]
theorem QH(bs:List Int)(hm:bs.length≤maxLen)(i:Nat)(h:Int)(pre a6:List H)(kv:List V)(n:Nat)(hn:pre.length+(a6.length+1)=n)(hr:roks n pre∧roks n a6)(bu:bg n kv)(K:V→List H→Prop)(hi:i≤bs.length)
  (hk:∀(cr:Nat) (h':Int) (c:bW),cr≤bs.length→K (.agg (bW.bE c)) (pre++cD bs cr h'::a6)):dx Tryz.prog 67 kv (pre++cD bs i h::a6) [.ptr pre.length 0 0] K:=by
 have a2:∀(cr:Nat) (h':Int) (c:bW) (ex:List H),cr≤bs.length→pe kv K (.agg (bW.bE c)) (pre++cD bs cr h'::(a6++ex)):=by
  intro cr h' c ex dC;subst hn;exact⟨List.range (pre.length+(a6.length+1)),.agg (bW.bE c),pre++cD bs cr h'::a6,Cb hr bu (by simp only[bW.bE,vsees,vsee,ren,rens,and_true]) (by simp[bg,vok]),hk cr h' c dC⟩
 refine dx.nh ?_;refine(fc (n:=27) (rs:=[.cell 2 25]) Tryz.func67 rfl Tryz.call67 b1 rfl rfl ?_);simp only[go_sem,gm,ez];refine ab.inl (KB bs hm i h pre (a6++[.box bW.bw]) _ (n+1) (by rw[eG];simp;omega) ⟨x9 (by omega) hr.1,Ca (x9 (by omega) hr.2) (by simp[roks,rok,bg,vok])⟩ (BX (by simp[bg,vok];omega) (kV (by omega) kv bu)) _ hi fun fm h1 cM cm=>?_);simp only[go_sem,bB,bx,ez,dU];refine ab.inl (kc bs hm fm h1 pre (a6++[.box bW.bw,.box (bW.bE cM)]) _ 10 (by omega) (by omega) _ cm fun dM h2 k cB eS dI=>?_);simp only[go_sem];obtain rfl|rfl|rfl|aE:k=0∨k=1∨k=2∨3≤k:=by omega
 ·skip
  have d0:decide ((0:Int)=0)=true:=rfl;simp only[go_sem,ez,dU];refine ab.inl (v8 bs hm dM h2 pre (a6++[.box bW.bw,.box (bW.bE cM),.ar 1 ([0,3,64,128].map aW) true]) _ (a6.length+2) [0,3,64,128] (by rw[dU];rfl) (by decide) (by decide) _ cB fun ek aj v cx ew=>?_);simp only[go_sem,ez,dU,eY,fG];exact a2 ek aj {cM with ring:=v} _ cx
 ·skip
  have d0:decide ((1:Int)=0)=false:=rfl;have eT:decide ((1:Int)=1)=true:=rfl;simp only[go_sem,d0,ez,dU];refine ab.inl (v8 bs hm dM h2 pre (a6++[.box bW.bw,.box (bW.bE cM),.ar 1 ([0,32,33].map aW) true]) _ (a6.length+2) [0,32,33] (by rw[dU];rfl) (by decide) (by decide) _ cB fun ek aj v cx ew=>?_);simp only[go_sem,ez,dU,eY,fG];exact a2 ek aj {cM with bX:=v} _ cx
 ·skip
  have d0:decide ((2:Int)=0)=false:=rfl;have eT:decide ((2:Int)=1)=false:=rfl;have fW:decide ((2:Int)=2)=true:=rfl;simp only[go_sem,d0,eT,ez,dU];refine ab.inl (v8 bs hm dM h2 pre (a6++[.box bW.bw,.box (bW.bE cM),.ar 1 ([0,1000,1001].map aW) true]) _ (a6.length+2) [0,1000,1001] (by rw[dU];rfl) (by decide) (by decide) _ cB fun ek aj v cx ew=>?_);simp only[go_sem,ez,dU,eY,fG];exact a2 ek aj {cM with g7:=v} _ cx
 ·have d0:decide (k=0)=false:=bo (by omega);have eT:decide (k=1)=false:=bo (by omega);have fW:decide (k=2)=false:=bo (by omega);simp only[go_sem,d0,eT,fW,ez,dU,eY,fG];exact a2 dM h2 cM _ cB
def K5(bs:List Int)(s:Bool)(a:bW)(i:Nat)(h:Int)(z:bW)(S:List Bool):St:=⟨[.d (.sl 1 (bs.map eU8)),.ak,(bif S.getD 4 false then .d (.bool s)else .d (.bool false)),.ptr 0 0 0,.ptr 1 0 0,.ptr 2 0 0,.d (.bool s),.ptr 3 0 0,.d (.sl 1 (bs.map eU8)),.ptr 2 0 0,.ptr 2 0 0,.d (.bool s),.ptr 2 0 0,.agg (bW.bE a),(ay S 0 (.d (.bool s))),(ay S 1 (.agg (bW.bE a))),(ay S 2 (.ptr 2 0 0)),(ay S 3 (.agg (bW.bE z)))],[(bif S.getD 5 false then .box (bW.bE a)else .box bW.bw),(bif S.getD 6 false then .box (bW.bE z)else .box bW.bw),cD bs i h,.box (bW.bE a)]⟩
theorem Yr(bs:List Int):vl Tryz.prog 13 [.one (.sl 1 (bs.map eU8))] (fun rs=>∃(s:Bool) (a b:bW),rs=[.one (.bool s),.agg (bW.enc a),.agg (bW.enc b)]):=by
 refine G' Tryz.func13 rfl Tryz.call13 b1 (.d (.sl 1 (bs.map eU8))::List.replicate 17 .ak) rfl [.tmp 2,.cell 3 25,.cell 4 25] rfl ?_;intro ok;have hm:=fr ok;simp only[List.replicate];simp only[go_sem];refine ab.inl (D4 bs hm [.box bW.bw,.box bW.bw] _ (by simp[roks,rok,bg,vok]) (by simp[bg,vok]) _ fun h1=>?_);simp only[go_sem,bB,bx];refine ab.inl (wm bs hm 0 h1 [.box bW.bw,.box bW.bw] [] _ 2 (by omega) (by omega) _ (by omega) fun dM h2 s cB=>?_);simp only[go_sem,bB,bx];refine ab.inl (QH bs hm dM h2 [.box bW.bw,.box bW.bw] [] _ 3 rfl (by simp[roks,rok,bg,vok]) (by simp[bg,vok]) _ cB fun ek aj a cx=>?_);simp only[go_sem,bB,bx];refine jB _ (kz (fun S σ=>∃i h z,i≤bs.length∧True∧σ=K5 bs s a i h z S) (N:=7) rfl rfl ⟨ek,aj,a,‹_›,trivial,rfl⟩ ?_) ?_
 ·repeat'(first|exact kA|refine kB ?_ ?_)
  all_goals(
   rintro S σ F hl aT hp hcl ⟨fw,fg,z,dC,hc,rfl⟩ cd;obtain⟨hZ,dy,dT,c2,d',l0,mh,rfl⟩:=Yn hl;simp only[ke,iG,bF]at aT;subst aT;simp[iH,Region.binds]at hp
   repeat(obtain⟨ef,hp⟩:=hp;subst ef)
   try subst hp
   simp only[K5,ay,e4,e1,cond_true,cond_false]
   repeat'(first
     |exact cd _ ⟨fw,fg,z,dC,hc,rfl⟩
     |(refine du ?_)
     |(refine e5 ?_)
     |(obtain rfl:=aI (hcl 3 4 _ rfl (by decide) rfl);obtain rfl:=aI (hcl 4 5 _ rfl (by decide) rfl);obtain rfl:=aI (hcl 3 6 _ rfl (by decide) rfl);simp only[cond_false];refine ab.inl (QH bs hm fw fg [.box bW.bw,.box bW.bw] [.box (bW.bE a)] _ 4 rfl (by simp[roks,rok,bg,vok]) (by simp[bg,vok,Az]) _ dC fun ek aj gj cx=>?_);simp only[go_sem,fT,bB,bx];exact cd _ ⟨_,_,gj,‹_›,trivial,rfl⟩)
     |simp only[go_sem,bB,bx]))
 rintro _ ⟨iL,aE,z,np,hc,rfl⟩;simp only[K5,List.replicate,ay,e4,e1,cond_true];simp only[go_sem];refine⟨_,⟨s,a,z,rfl⟩,?_⟩;simp only[go_sem]
def K6(bs:List Int)(x:J)(i:Nat)(h:Int)(z:J)(S:List Bool):St:=⟨(.ak::.ak::.ptr 0 0 0::.ptr 2 0 0::.ptr 1 0 0::.ptr 5 0 0::.ak::.ak::.ptr 1 0 0::.agg (J.vc x (.sl 3 0 x.streams.length) (.sl 4 0 x.packets.length))::.ptr 1 0 0::.d (.bool false)::jn 3 [(ay S 0 (.agg (J.vc x (.sl 3 0 x.streams.length) (.sl 4 0 x.packets.length)))),(ay S 1 (.ptr 1 0 0)),(ay S 2 (.agg (J.vc z (.sl 6 0 z.streams.length) (.sl 7 0 z.packets.length))))]),[(bif S.getD 3 false then .box (J.vc x (.sl 3 0 x.streams.length) (.sl 4 0 x.packets.length))else .box J.bw),cD bs i h,(bif S.getD 4 false then .box (J.vc z (.sl 6 0 z.streams.length) (.sl 7 0 z.packets.length))else .box J.bw),.ar 39 (x.streams.map ae.enc) true,.ar 2 (x.packets.map aD.enc) true,.box (J.vc x (.sl 3 0 x.streams.length) (.sl 4 0 x.packets.length))]++(bif S.getD 2 false then [.ar 39 (z.streams.map ae.enc) true,.ar 2 (z.packets.map aD.enc) true]else [])⟩
theorem Ys{P:Program}{f:FuncId}{fn:Func}{c:Code}{args:List AD}{Q:List AD→Prop}(hf:P.funcs[f]?=some fn)(hb:fn.body=some c)(hcall:∀(args:Array Value) (w:World),(callFunc f args).run P w=.ok (.enter f args) w)(ts:List V)
  (hn:args.map AD.py++List.replicate (fn.ntmps-args.length) .ak=ts) (rs:List ResultVar) (hr:fn.results.toList=rs) (h0:um args→gL P [] c ⟨ts,[]⟩ (bG (zh P rs Q) .mk) [] (bG (zh P rs Q) .mk)):vl P f args Q:=by
 intro w us F hg ha;have h:=h0 (D6 _ _ _ ha);clear h0;subst hr;subst hn;have ff:us.length=args.length:=(Ha args us F 0 ha).1;have a2:∀(σ:St) (a:Act) (w':World),zh P fn.results.toList Q σ→eQ (fun b=>w.heap.size≤b) w [] σ a w'→a.defers=[]∧∃v,(results fn a.tmps).run P w'=.ok v w'∧
   ∃res,Q res∧∃F',Bel (fun b=>w.heap.size≤b) w w'∧trep w'.heap true res v F'∧F'.Nodup∧∀b∈F',w.heap.size≤b:=by
  rintro σ a w' ⟨res,hq,vm⟩ ⟨aK,φ,r,_⟩;obtain⟨v,F',h1,h2,aj,aE⟩:=Hb r vm;exact⟨r.mV,v,h1,res,hq,F',r.fP,h2,aj,fun b hb=>(aE b hb).1⟩
 refine Does.enter (hcall _ _) (calls_of_wp hf hb ?_);refine h (fun b=>w.heap.size≤b) w [] _ _ w rfl (fun σ a w' h' c4=>?_) (fun id σ a w' h' _=>h'.elim) (fun σ a w' h' c4=>?_) ?_
 ·exact a2 σ a w' h' c4
 ·exact a2 σ a w' h' c4
 ·have:=Hc hg ha (fn.ntmps-args.length) [] (by simp);have hs:us.toArray.size=args.length:=by rw[List.size_toArray,ff]
  rw[hs];exact this
theorem Yt(bs:List Int):vl Tryz.prog 20 [.one (.sl 1 (bs.map eU8))] (fun rs=>∃(x y:J),oA x∧oA y∧rs=[.agg (J.enc x),.agg (J.enc y)]):=by
 refine Ys Tryz.func20 rfl Tryz.call20 (.d (.sl 1 (bs.map eU8))::List.replicate 17 .ak) rfl [.cell 2 37,.cell 3 37] rfl ?_;intro ok;have hm:=fr ok;clear ok;simp only[List.replicate];refine fi b1 2 (α:=Int) (fun h=>⟨(.ak::.ak::.ptr 0 0 0::.ptr 2 0 0::.ptr 1 0 0::jn 13 []),[.box J.bw,cD bs 0 h,.box J.bw]⟩) (fun _=>True) ?_ ?_
 ·simp only[go_sem];refine ab.inl (D4 bs hm [.box J.bw,.box J.bw] _ (by simp[roks,rok,bg,vok]) (by simp[bg,vok]) _ fun h1=>?_);simp only[go_sem,bB,bx];refine dS.intro h1 [0,2,1] trivial ?_;simp only[go_sem];simp[cD,vsees,vsee,bg,vok,ren]
 rintro h1 _;refine ng b1 ?_;simp only[go_sem];refine ab.inl (Xl bs hm 0 h1 (.box J.bw) (.box J.bw) (by simp[rok,bg,vok]) _ (by simp[bg,vok]) _ (by omega) fun dM h2 x cB hx=>?_);simp only[go_sem,gR,gH,bB,bx];refine ab.inl (wm bs hm dM h2 [.box J.bw] [.box J.bw,.ar 39 (x.streams.map ae.enc) true,.ar 2 (x.packets.map aD.enc) true,.box (J.vc x (.sl 3 0 x.streams.length) (.sl 4 0 x.packets.length))] _ 2 (by omega) (by omega) _ cB fun ek aj b cx=>?_)
 cases b with
 |true=>
  have i':=iE (hx.zb.sz (by omega));have vf:=gb x;simp only[go_sem,bB,bx]
  try simp only[go_sem,I,bB,bx]
  repeat'((first|refine au.intro (by(apply gb<;>exact aP)) ?_|refine ba [[.post,.dv,.dv,.post,.post],[.dv,.post,.post,.post,.post],[.dv,.pre,.post,.post,.post],[.pre,.pre,.pre,.post,.post],[.pre,.pre,.pre,.pre,.post]] (by kernel_rfl) (by rfl) ?_)<;>simp only[go_sem,I,bB,bx])
  refine⟨_,⟨x,x,hx,hx,rfl⟩,?_⟩;simp only[go_sem];simp[outOA]
 |false=>
  simp only[go_sem,bB,bx];refine jB _ (kz (fun S σ=>∃i h z,i≤bs.length∧oA z∧σ=K6 bs x i h z S) (N:=5) rfl rfl ⟨ek,aj,x,‹_›,hx,rfl⟩ ?_) ?_
  ·repeat'(first|exact kA|refine kB ?_ ?_)
   all_goals(
    rintro S σ F hl aT hp hcl ⟨fw,fg,z,dC,hc,rfl⟩ cd;obtain⟨hZ,dy,dT,c2,d',rfl⟩:=KZ hl;simp only[ke,iG,bF]at aT;subst aT;simp[iH,Region.binds]at hp
    repeat(obtain⟨ef,hp⟩:=hp;subst ef)
    try subst hp
    simp only[K6,ay,e4,e1,cond_true,cond_false,bB,bx,List.append_nil]
    repeat'(first
      |exact cd _ ⟨fw,fg,z,dC,hc,rfl⟩
      |(refine du ?_)
      |(refine e5 ?_)
      |(obtain rfl:=aI (hcl 2 3 _ rfl (by decide) rfl);obtain rfl:=aI (hcl 2 4 _ rfl (by decide) rfl);simp only[cond_false];refine ab.inl (JY bs hm fw fg (.box J.bw) (.box J.bw) (.ar 39 (x.streams.map ae.enc) true) (.ar 2 (x.packets.map aD.enc) true) (.box (J.vc x (.sl 3 0 x.streams.length) (.sl 4 0 x.packets.length))) (by simp[rok,bg,vok]) _ (by simp[bg,vok,Az]) _ dC fun ek aj gj cx dk=>?_);simp only[go_sem,fT,gR,gH,bB,bx];exact cd _ ⟨_,_,gj,‹_›,dk,rfl⟩)
      |simp only[go_sem,bB,bx]))
  rintro _ ⟨iL,aE,z,np,hc,rfl⟩;simp only[K6,List.replicate,ay,e4,e1,cond_true,bB,bx];simp only[go_sem];refine⟨_,⟨x,z,hx,hc,rfl⟩,?_⟩;simp only[go_sem];simp[outOA]
def insA(s:ae):List ae→List ae
 |[]=>[s]
 |x::l=>if s.id<x.id then s::x::l else x::insA s l
theorem VC(s:ae):∀(l jx:List ae),l.foldl (iq s) (jx,true)=(jx++l,true)
 |[],jx=>by simp
 |x::l,jx=>by
  have e:iq s (jx,true) x=(jx++[x],true):=rfl;rw[List.foldl_cons,e,VC s l];simp
theorem VD(s:ae):∀(l jx:List ae),(if(l.foldl (iq s) (jx,false)).2 then(l.foldl (iq s) (jx,false)).1 else(l.foldl (iq s) (jx,false)).1++[s])=jx++insA s l
 |[],jx=>by simp[insA]
 |x::l,jx=>by
  rw[List.foldl_cons];by_cases h:s.id<x.id
  ·have e:iq s (jx,false) x=(jx++[s,x],true):=by simp[iq,h]
   rw[e,VC];simp[insA,h]
  ·have e:iq s (jx,false) x=(jx++[x],false):=by simp[iq,h]
   rw[e,VD s l (jx++[x])];simp[insA,h]
theorem Jj{l:List ae}{s:ae}(h:fIx (eP s.id) l=-1):putS l s=insA s l:=by
 rw[VE h];have:=VD s l []
 rwa [bx]at this
theorem BK{s x:ae}:∀{l:List ae},x∈insA s l↔x=s∨x∈l
 |[]=>by simp[insA]
 |y::l=>by
  unfold insA;split
  ·simp
  ·rw[List.mem_cons,BK,List.mem_cons];constructor
   ·rintro(h|h|h)<;>simp[h]
   ·rintro(h|h|h)<;>simp[h]
theorem VF{s:ae}:∀{l:List ae},(l.map (fun x=>x.id)).Pairwise (·<·)→s.id∉l.map (fun x=>x.id)→((insA s l).map (fun x=>x.id)).Pairwise (·<·)
 |[],_,_=>by simp[insA]
 |y::l,h,hn=>by
  rw[List.map_cons,List.pairwise_cons]at h;rw[List.map_cons,List.mem_cons,not_or]at hn;unfold insA;split
  ·rename_i hlt;rw[List.map_cons,List.pairwise_cons];refine⟨fun b hb=>?_,by rw[List.map_cons,List.pairwise_cons];exact h⟩;rw[List.map_cons,List.mem_cons]at hb;rcases hb with rfl|hb
   ·exact hlt
   ·have:=h.1 b hb;omega
  ·rename_i hlt;rw[List.map_cons,List.pairwise_cons];refine⟨fun b hb=>?_,VF h.2 hn.2⟩;obtain⟨x,hx,rfl⟩:=List.mem_map.1 hb;rcases BK.1 hx with rfl|hx
   ·omega
   ·exact h.1 _ (List.mem_map.2 ⟨x,hx,rfl⟩)
theorem Dm{l:List ae}{id:Int}:fIx (eP id) l=-1↔id∉l.map (fun x=>x.id):=by
 constructor
 ·intro h hm;obtain⟨x,hx,e⟩:=List.mem_map.1 hm;rcases uk (eP id) l with ⟨_,h2⟩|⟨j,al,h1,_⟩
  ·rw[List.find?_eq_none]at h2;exact h2 x hx (by simpa [eP]using e)
  ·omega
 ·intro h;rcases uk (eP id) l with ⟨h1,_⟩|⟨j,al,_,_,aj⟩
  ·exact h1
  ·exact absurd (List.mem_map.2 ⟨l[j],eR al,by simpa [eP]using aj⟩) h
theorem Oh{l:List ae}{id:Int}:(strOf l id).2=true↔id∈l.map (fun x=>x.id):=by
 constructor
 ·intro h;obtain⟨h1,h2⟩:=FN h;exact List.mem_map.2 ⟨_,h2,h1⟩
 ·intro h;obtain⟨x,hx,rfl⟩:=List.mem_map.1 h;exact NT hx
theorem VG{l:List ae}{s:ae}(hf:(strOf l s.id).2=true):(putS l s).map (fun x=>x.id)=l.map (fun x=>x.id):=by
 obtain⟨h1,h2⟩:=FN hf;rcases uk (eP s.id) l with ⟨aj,_⟩|⟨i,hi,aj,_,aE⟩
 ·exact absurd (Oh.1 hf) (Dm.1 aj)
 ·rw[Ol aj,List.map_set];have:l[i].id=s.id:=by simpa [eP]using aE
  rw[←this,←List.getElem_map (f:=fun x:ae=>x.id) (h:=by simpa using hi)];exact List.set_getElem_self _
theorem u0{n:Int}:bN n=true↔0≤n∧n≤4611686018427387903:=by simp[bN,bK]
theorem VH{m k:Nat}{x y:Int}(hx:x=m)(hy:y=k)(hm:m<2^64)(hk:k<2^64):bitI .and .i64 x y=IntKind.i64.wrap ((Nat.land m k:Nat):Int):=by
 subst hx hy;unfold bitI;simp only
 congr 1
 have ah:BitVec.ofInt IntKind.i64.bits (m:Int)=BitVec.ofNat 64 m:=by rw[BitVec.ofInt_natCast];rfl
 have ai:BitVec.ofInt IntKind.i64.bits (k:Int)=BitVec.ofNat 64 k:=by rw[BitVec.ofInt_natCast];rfl
 rw[ah,ai];have aj:(HAnd.hAnd (BitVec.ofNat 64 m) (BitVec.ofNat 64 k)).toNat=Nat.land m k:=by
  rw[BitVec.toNat_and,BitVec.toNat_ofNat,BitVec.toNat_ofNat,Nat.mod_eq_of_lt hm,Nat.mod_eq_of_lt hk];rfl
 exact congrArg Int.ofNat aj
theorem afu{n:Int}(h:bN n=true):bitI .and .i64 n 1=n % 2:=by
 have hq:=u0.1 h;obtain⟨m,rfl⟩:=mj hq.1;have:=VH (m:=m) (k:=1) rfl rfl (by omega) (by omega);rw[show Nat.land m 1=m % 2 from Nat.and_one_is_mod m]at this;rw[show(1:Int)=((1:Nat):Int)from rfl,this,bz (by omega) (by omega)];omega
theorem afv{n:Int}(h:bN n=true):bitI .and .i64 n 2=2 * (n / 2 % 2):=by
 have hq:=u0.1 h;obtain⟨m,rfl⟩:=mj hq.1;have:=VH (m:=m) (k:=2) rfl rfl (by omega) (by omega);have e:Nat.land m 2=2 * (m / 2 % 2):=by
  have h1:(HAnd.hAnd m 2) / 2=m / 2 % 2:=by rw[Nat.and_div_two];exact Nat.and_one_is_mod _
  have h2:(HAnd.hAnd m 2) % 2=0:=by
   rcases Nat.mod_two_eq_zero_or_one (HAnd.hAnd m 2)with h|h
   ·exact h
   ·exact absurd (Nat.and_mod_two_eq_one.1 h).2 (by decide)
  show HAnd.hAnd m 2=_
  omega
 rw[e]at this;rw[show(2:Int)=((2:Nat):Int)from rfl,this,bz (by omega) (by omega)];omega
theorem afw{n:Int}(h:bN n=true):BG n=decide (n % 2=1):=by unfold BG;rw[h,afu h];rfl
theorem VI{n:Int}(h:bN n=true):j3 n=decide (n / 2 % 2=1):=by
 unfold j3;rw[h,afv h,Bool.true_and];exact decide_eq_decide.2 (by omega)
theorem Oj{v:Bool}{n:Int}(h:bN n=true):im v n=decide (decide (n % 2=1)=v):=by unfold im;rw[afw h,h];rfl
theorem afx{n:Int}(h:bN n=true):bZ n=n / 4:=by
 unfold bZ;rw[h,if_pos rfl];exact Int.fdiv_eq_ediv_of_nonneg _ (by omega)
def gF(b:Bool):Int:=if b then 1 else 0
theorem afy{n:Int}(h0:0≤n)(h1:n≤1152921504606846975)(s u:Bool):ve n s u=4 * n+gF s+2 * gF u:=by
 unfold ve bK;rw[bp h0,bp h1]
 cases s<;>cases u<;>simp only[Bool.and_self,if_true,if_false,Bool.false_eq_true,gF,Int.add_zero,Int.mul_zero,Int.mul_one]
 ·rw[bz]<;>omega
 ·rw[bz (n:=n * 4),bz]<;>omega
 ·rw[bz (n:=n * 4),bz]<;>omega
 ·rw[bz (n:=n * 4) (by omega) (by omega),bz (n:=n * 4+1) (by omega) (by omega),bz]<;>omega
structure o7(v:Bool)(F1:List Int)(o a:Bool→Int):Prop where
 q:∀n∈F1,bN n=true
 own:∀n∈F1,decide (n % 2=1)=v→n / 4<o (decide (n / 2 % 2=1))
 peer:∀n∈F1,decide (n % 2=1)≠v→n / 4<a (decide (n / 2 % 2=1))
 all:∀(u:Bool) (j:Int),0≤j→j<a u→4 * j+gF (!v)+2 * gF u∈F1
 asc:F1.Pairwise (·<·)
 MZ:∀u,0≤a u
def ih(c:J)(u:Bool):Int:=(jD c u).opened
def o8(c:J)(u:Bool):dB:=if u then c.ct else c.cu
def j'(c:J)(u:Bool):Int:=(o8 c u).seen
def vX(c:J):List Int:=c.streams.map fun x=>x.id
def lX(c:J):Prop:=o7 c.bV (vX c) (ih c) (j' c)
structure ej(c d:J):Prop where
 i:vX d=vX c
 s:d.bV=c.bV
 kP:d.e7.opened=c.e7.opened
 zY:d.e6.opened=c.e6.opened
 Bt:d.cu.seen=c.cu.seen
 Dn:d.ct.seen=c.ct.seen
theorem ej.refl(c:J):ej c c:=⟨rfl,rfl,rfl,rfl,rfl,rfl⟩
theorem ej.trans{c d e:J}(h:ej c d)(k:ej d e):ej c e:=⟨k.i.trans h.i,k.s.trans h.s,k.kP.trans h.kP,k.zY.trans h.zY,k.Bt.trans h.Bt,k.Dn.trans h.Dn⟩
theorem lX.nb{c d:J}(h:lX c)(k:ej c d):lX d:=by
 have ah:ih d=ih c:=by funext u;unfold ih jD;split;exact k.zY;exact k.kP
 have ai:j' d=j' c:=by funext u;unfold j' o8;split;exact k.Dn;exact k.Bt
 unfold lX;rw[k.i,k.s,ah,ai];exact h
theorem Ad{c:J}{id:Int}{s:ae}(hf:(strOf c.streams id).2=true)(hi:s.id=(aS c id).id):ej c (lH c s):=
 ⟨VG (by rw[hi,pS hf];exact hf),rfl,rfl,rfl,rfl,rfl⟩
theorem VJ(a:dB):(po a).seen=a.seen:=by unfold po;split<;>rfl
theorem afz(c:J)(s:ae):ej c (xL c s):=by
 unfold xL
 repeat' split
 all_goals first|exact ej.refl c|exact⟨rfl,rfl,rfl,rfl,rfl,VJ _⟩|exact⟨rfl,rfl,rfl,rfl,VJ _,rfl⟩
theorem Om{c:J}{id:Int}{s:ae}(hf:(strOf c.streams id).2=true)(hi:s.id=(aS c id).id):ej c (eE c s):=by
 obtain⟨dJ,e9,e_⟩:=NR c s;have h1:=afz c s;refine⟨?_,h1.s,h1.kP,h1.zY,h1.Bt,h1.Dn⟩;have e:(ug c s).id=id:=by rw[e_,hi,pS hf]
 exact VG (by rw[e];exact hf)
theorem afA(a:dB):(xi a).seen=a.seen:=by unfold xi;split<;>rfl
theorem VK(a:dB)(t:Bool):(jM a t).1.seen=a.seen:=by unfold jM;split;exact afA a;rfl
theorem VL(a:gZ)(l:Int):(xj a l).opened=a.opened:=by unfold xj;split<;>rfl
theorem afB(c:J)(f:ao):ej c (lI c f):=by
 unfold lI
 repeat' split
 all_goals first
  |exact⟨rfl,rfl,rfl,rfl,rfl,rfl⟩
  |exact⟨rfl,rfl,rfl,rfl,rfl,VK _ _⟩
  |exact⟨rfl,rfl,rfl,rfl,VK _ _,rfl⟩
  |(rename_i hf;exact Ad hf (Hn c (aS c f.stream) f.kind).2.2)
theorem afC(c:J)(id:Int)(p:cf):ej c (A0 c id p):=by
 unfold A0;split
 ·rename_i hok;have h:=Ad (s:=vu (aS c id) p) (UP hok) rfl;exact⟨h.i,rfl,rfl,rfl,rfl,rfl⟩
 ·exact ej.refl c
theorem afD{c:J}{id:Int}(hf:(strOf c.streams id).2=true):ej c (Ht c id):=by
 have h:=Ad (s:=ye (aS c id)) hf rfl;exact⟨h.i,rfl,rfl,rfl,rfl,rfl⟩
theorem On:∀(n:Nat) (q:nS),ej q.x (fillGo n q).x
 |0,q=>ej.refl _
 |n+1,q=>by
  unfold fillGo;split
  ·exact ej.refl _
  ·rename_i h0;split
   ·split
    ·exact(afC q.x _ _).trans (On n (Cp q))
    ·exact ej.refl _
   ·exact(afD (Lp (by omega))).trans (On n (AX q))
theorem VM:∀(l:List ao) (q:AW),ej q.x (l.foldl nt q).x
 |[],q=>ej.refl _
 |f::l,q=>by
  have h:ej q.x (nt q f).x:=by
   unfold nt;split
   ·exact afB q.x f
   ·exact ej.refl _
  exact h.trans (VM l (nt q f))
theorem afE(c:J)(b:Int):ej c (gn c b):=by
 have hB:ej c (lJ c b).x:=(VM (iO c) ⟨c,[],b⟩).trans (On 200 ⟨(dP c b).x,[],(dP c b).cg,(dP c b).db⟩);unfold gn
 repeat' split
 all_goals first|exact hB|exact ej.refl c|exact⟨hB.i,hB.s,hB.kP,hB.zY,hB.Bt,hB.Dn⟩
theorem afF(c:J)(id:Int)(d:List UInt8):ej c (gK c id d):=by
 unfold gK;split
 ·rename_i hg;exact Ad (id:=id) (s:=gY (aS c id) (uh (aS c id).send d)) (z' hg) rfl
 ·exact ej.refl c
theorem afG(c:J)(id:Int):ej c (AF c id):=by
 unfold AF;split
 ·rename_i hg;simp only[B5,bP]at hg;exact Ad (id:=id) (s:=gY (aS c id) (wk (aS c id).send)) (z' hg.1) rfl
 ·exact ej.refl c
theorem afH(c:J)(id:Int)(t:List UInt8):ej c (kE c id t):=by
 unfold kE;split
 ·rename_i hg;exact Ad (id:=id) (s:={aS c id with priority:=y_ (aS c id).priority t}) (z' hg) rfl
 ·exact ej.refl c
theorem afI(c:J)(id k:Int):ej c (kF c id k):=by
 unfold kF;split
 ·rename_i hg;simp only[xJ,bP]at hg;exact Om (id:=id) (s:=gg (aS c id) k) (z' hg.1) rfl
 ·exact ej.refl c
theorem Oo(c:J)(i:ep):ej c {c with dO:=i}:=⟨rfl,rfl,rfl,rfl,rfl,rfl⟩
theorem Jl{c x:J}{id:Int}{s:ae}(hx:ej c x)(hs:x.streams=c.streams)(hf:(strOf c.streams id).2=true)(hi:s.id=id):ej c (eE x s):=by
 refine hx.trans (Om (id:=id) (by rw[hs];exact hf) ?_);unfold aS;rw[hs];exact hi.trans (FN hf).1.symm
theorem afJ(c:J)(id m:Int):ej c (kH c id m):=by
 unfold kH;split
 ·rename_i hg;simp only[uR,bP]at hg;have hf:=hg.1.2;refine Jl ?_ (Ng c id m).1 hf ((NY c id m).2.2.trans (pS hf));unfold yH uS;split
  ·exact Oo c _
  ·exact ej.refl c
 ·exact ej.refl c
theorem Oq(c:J)(s:ae)(e:Int):ej c (lR c s e):=by
 unfold lR;split
 ·exact ej.refl c
 ·exact Oo c _
theorem afK{m:Nat}{c:J}(hv:cl m c)(f:ao)(h:yC c f=0):ej (bI c f.stream) (zV c f):=by
 have hf:=xh hv (US h);unfold zV;rw[if_pos h];exact Jl (Oq _ _ _) (IJ _ _ _).1 hf ((UX _ f).trans (pS hf))
theorem afL{m:Nat}{c:J}(hv:cl m c)(f:ao)(h:yI c f=0):ej (bI c f.stream) (zW c f):=by
 have hf:=xh hv (UT h);unfold zW;rw[if_pos h];refine Jl ?_ (Nh _ f).1 hf ((NV _ f).2.2.trans (pS hf));unfold yJ I7 uS;split
 ·exact(Oq _ _ _).trans (Oo _ _)
 ·exact Oq _ _ _
theorem afM{m:Nat}{c:J}(hv:cl m c)(f:ao)(h:yK c f=0):ej (bI c f.stream) (zX c f):=by
 have hf:=xh hv (UU h);unfold zX;rw[if_pos h];exact Jl (ej.refl _) rfl hf ((UY _ f).trans (pS hf))
theorem afN(c:J)(f:ao):ej c (ox c f):=by
 unfold ox;split
 ·rename_i hg;simp only[Dd,bP]at hg;exact Om (id:=f.stream) hg.1 (UZ _ f)
 ·exact ej.refl c
theorem afO(c:J)(f:ao):ej c (oz c f):=by
 unfold oz
 repeat' split
 all_goals first
  |exact⟨rfl,rfl,rfl,rfl,rfl,rfl⟩
  |(rename_i hg;simp only[Dd,bP]at hg;exact Ad (id:=f.stream) hg.1 (U0 _ f))
theorem Ot{g:J→ao→J}(hg:∀c f,ej c (g c f)):∀(l:List ao) (c:J),ej c (l.foldl g c)
 |[],c=>ej.refl c
 |f::l,c=>(hg c f).trans (Ot hg l (g c f))
theorem afP(c:J)(n:Int):ej c (At c n):=by
 unfold At;split
 ·have h0:ej c (lZ c n):=⟨rfl,rfl,rfl,rfl,rfl,rfl⟩;exact h0.trans (Ot afN _ (lZ c n))
 ·exact ej.refl c
theorem afQ(c:J)(n:Int):ej c (Av c n):=by
 unfold Av;split
 ·have h0:ej c (lZ c n):=⟨rfl,rfl,rfl,rfl,rfl,rfl⟩;exact h0.trans (Ot afO _ (lZ c n))
 ·exact ej.refl c
theorem o7.add{v:Bool}{l:List ae}{o a o' a':Bool→Int}{s:ae}(h:o7 v (l.map fun x=>x.id) o a)(hn:s.id∉l.map fun x=>x.id)(hq:bN s.id=true)(av:∀u,o u≤o' u)(ha:∀u,a u≤a' u)
  (h1:decide (s.id % 2=1)=v→s.id / 4<o' (decide (s.id / 2 % 2=1))) (h2:decide (s.id % 2=1)≠v→s.id / 4<a' (decide (s.id / 2 % 2=1)))
  (aj:∀(u:Bool) (j:Int),0≤j→a u≤j→j<a' u→4 * j+gF (!v)+2 * gF u=s.id):o7 v ((putS l s).map fun x=>x.id) o' a':=by
 rw[Jj (Dm.2 hn)];have hm:∀n,n∈(insA s l).map (fun x=>x.id)↔n=s.id∨n∈l.map fun x=>x.id:=by
  intro n;rw[List.mem_map,List.mem_map];constructor
  ·rintro⟨x,hx,rfl⟩;rcases BK.1 hx with rfl|hx
   ·exact .inl rfl
   ·exact .inr ⟨x,hx,rfl⟩
  ·rintro(rfl|⟨x,hx,rfl⟩)
   ·exact⟨s,BK.2 (.inl rfl),rfl⟩
   ·exact⟨x,BK.2 (.inr hx),rfl⟩
 refine⟨fun n hx=>?_,fun n hx hv=>?_,fun n hx hv=>?_,fun u j h0 al=>?_,VF h.asc hn,fun u=>Int.le_trans (h.MZ u) (ha u)⟩
 ·rcases(hm n).1 hx with rfl|hx
  ·exact hq
  ·exact h.q n hx
 ·rcases(hm n).1 hx with rfl|hx
  ·exact h1 hv
  ·exact Int.lt_of_lt_of_le (h.own n hx hv) (av _)
 ·rcases(hm n).1 hx with rfl|hx
  ·exact h2 hv
  ·exact Int.lt_of_lt_of_le (h.peer n hx hv) (ha _)
 ·by_cases hlt:j<a u
  ·exact(hm _).2 (.inr (h.all u j h0 hlt))
  ·exact(hm _).2 (.inl (aj u j h0 (by omega) al))
theorem Og{v:Bool}{i:Int}{o p:bW}(h:lV i o p=true):(eX v i o p).id=i:=by unfold eX;rw[if_pos h]
theorem VN{c:J}(h:en c=true):eV c.own=true∧eV c.peer=true:=by
 simp only[en,pt,oJ,bP,and_assoc]at h;exact⟨h.1,h.2.1⟩
theorem VO{c:J}(h:en c=true)(u:Bool):jf (jD c u)=true∧g0 (o8 c u)=true:=by
 simp only[en,pt,oJ,bP,and_assoc]at h;obtain⟨_,_,_,_,_,h1,h2,aj,aE,_⟩:=h
 cases u
 ·exact⟨h1,aj⟩
 ·exact⟨h2,aE⟩
theorem afR{c:J}{u:Bool}(hc:en c=true)(av:mn (jD c u)=true):0≤ih c u∧ih c u<1152921504606846976∧ve (pj (jD c u)) c.bV u=4 * ih c u+gF c.bV+2 * gF u∧(oG (jD c u)).opened=ih c u+1:=by
 have h1:=(VO hc u).1;simp only[mn,bP,b2]at av;have h2:=h1;simp only[jf,bK,bP,b2]at h2;have e:pj (jD c u)=ih c u:=by unfold pj mn;rw[h1,bp av.2];rfl
 unfold ih at *;refine⟨by omega,by omega,?_,?_⟩
 ·rw[e,afy]<;>omega
 ·unfold oG mn;rw[h1,bp av.2];simp only[Bool.and_self,if_true];rw[bz]<;>omega
theorem afS(n:Int)(s u:Bool)(h:0≤n)(h1:n<1152921504606846976):bN (4 * n+gF s+2 * gF u)=true∧decide ((4 * n+gF s+2 * gF u) % 2=1)=s∧(4 * n+gF s+2 * gF u) / 4=n∧decide ((4 * n+gF s+2 * gF u) / 2 % 2=1)=u:=by
 cases s<;>cases u<;>simp only[gF,if_true,if_false,Bool.false_eq_true]<;>refine⟨u0.2 (by omega),?_,by omega,?_⟩<;>simp<;>omega
theorem afT{c:J}(h:lX c)(u:Bool):lX (ki c u)∧(xH c u=true→im c.bV (vd c u)=true∧j3 (vd c u)=u∧fIx (eP (vd c u)) c.streams=-1∧0≤fIx (eP (vd c u)) (ki c u).streams):=by
 have hA:xH c u=(va c&&mn (jD c u)):=rfl;unfold ki
 cases ha:va c with
 |false=>rw[hA,ha];exact⟨h,fun h=>by cases h⟩
 |true=>
  have hc:en c=true:=by simp only[va,kb,bP]at ha;exact ha.1.1
  rw[if_pos rfl]
  cases av:mn (jD c u)with
  |false=>
   rw[hA,ha,av];refine⟨h.nb ?_,fun h=>by cases h⟩;have e:(oG (jD c u)).opened=(jD c u).opened:=by unfold oG;rw[av];split<;>(try split)<;>first|rfl|contradiction
   simp only[Bool.false_eq_true,if_false];unfold mm
   cases u
   ·exact⟨rfl,rfl,e,rfl,rfl,rfl⟩
   ·exact⟨rfl,rfl,rfl,e,rfl,rfl⟩
  |true=>
   obtain⟨fm,dM,ek,iL⟩:=afR hc av;obtain⟨dp,da,gk,iy⟩:=afS (ih c u) c.bV u fm dM;obtain⟨k1,k2⟩:=VN hc;have aU:vd c u=4 * ih c u+gF c.bV+2 * gF u:=by unfold vd;rw[hA,ha,av];exact ek
   rw[if_pos rfl];rw[ek,aU];have ec:(eX c.bV (4 * ih c u+gF c.bV+2 * gF u) c.own c.peer).id=4 * ih c u+gF c.bV+2 * gF u:=Og (by unfold lV;rw[dp,k1,k2];rfl);have hn:4 * ih c u+gF c.bV+2 * gF u∉c.streams.map fun x=>x.id:=by
    intro hm;have:=h.own _ hm da;rw[gk,iy]at this;omega
   have Ih:∀w,ih (mm c u) w=if w=u then ih c u+1 else ih c w:=by
    intro w
    cases u<;>cases w<;>simp[ih,jD,mm]at iL⊢<;>exact iL
   have nZ:j' (mm c u)=j' c:=by funext w;cases u<;>cases w<;>rfl
   have Oi:(mm c u).bV=c.bV:=by cases u<;>rfl
   refine⟨?_,fun _=>⟨?_,?_,Dm.2 hn,?_⟩⟩
   ·have:=o7.add (o':=ih (mm c u)) (a':=j' c) (s:=eX c.bV (4 * ih c u+gF c.bV+2 * gF u) c.own c.peer) h (by rw[ec];exact hn) (by rw[ec];exact dp) (fun w=>by
     rw[Ih];split
     ·rename_i e;rw[e];omega
     ·omega) (fun w=>Int.le_refl _) (fun _=>by rw[ec,gk,iy,Ih,if_pos rfl];omega) (fun hne=>absurd (by rw[ec];exact da) hne) (fun w j _ h1 h2=>by omega)
    show o7 (mm c u).bV _ (ih (mm c u)) (j' (mm c u))
    rw[Oi,nZ];exact this
   ·rw[Oj dp,da];simp
   ·rw[VI dp,iy]
   ·rcases uk (eP (4 * ih c u+gF c.bV+2 * gF u)) (putS c.streams (eX c.bV (4 * ih c u+gF c.bV+2 * gF u) c.own c.peer))with ⟨cC,_⟩|⟨j,al,cC,_⟩
    ·rw[Dm]at cC;refine absurd ?_ cC;rw[Jj (Dm.2 (by rw[ec];exact hn))];exact List.mem_map.2 ⟨_,BK.2 (.inl rfl),ec⟩
    ·rw[cC];omega
theorem afU{id:Int}{k:Nat}(h:bN id=true)(hk:(k:Int)≤id / 4):hN id k=id-4 * (k:Int):=by
 have hq:=u0.1 h;unfold hN;rw[bz (n:=4 * (k:Int)) (by omega) (by omega),bz]<;>omega
theorem o7.VP{v:Bool}{o p:bW}{id:Int}{oo:Bool→Int}(Q:List ae→Prop)(m1:∀(l:List ae) (i:Int),Q l→lV i o p=true→i∉l.map (fun x=>x.id)→Q (putS l (eX v i o p)))
  (hq:bN id=true) (hv:decide (id % 2=1)≠v) (Ou:eV o=true∧eV p=true):∀(k:Nat) (l:List ae) (a:Bool→Int),(k:Int)≤id / 4+1→a (decide (id / 2 % 2=1))=id / 4+1-(k:Int)→o7 v (l.map fun x=>x.id) oo a→Q l→
  o7 v ((ensL v o p id k l).map fun x=>x.id) oo (fun u=>if u=decide (id / 2 % 2=1)then id / 4+1 else a u)∧Q (ensL v o p id k l)
 |0,l,a,_,ha,h,hl=>by
  have e:(fun u=>if u=decide (id / 2 % 2=1)then id / 4+1 else a u)=a:=by
   funext u;split
   ·rename_i hu;rw[hu,ha];omega
   ·rfl
  rw[e];exact⟨h,hl⟩
 |k+1,l,a,hk,ha,h,hl=>by
  have Vw:=u0.1 hq;have ah:hN id k=id-4 * (k:Int):=afU hq (by omega);have Jm:bN (id-4 * (k:Int))=true:=u0.2 (by omega);have BJ:lV (id-4 * (k:Int)) o p=true:=by unfold lV;rw[Jm,Ou.1,Ou.2];rfl
  have ec:(eX v (id-4 * (k:Int)) o p).id=id-4 * (k:Int):=Og BJ;have vH:(id-4 * (k:Int)) % 2=id % 2:=by omega
  have zK:(id-4 * (k:Int)) / 2 % 2=id / 2 % 2:=by omega
  have CO:(id-4 * (k:Int)) / 4=id / 4-(k:Int):=by omega
  have hn:id-4 * (k:Int)∉l.map fun x=>x.id:=by
   intro hm;have:=h.peer _ hm (by rw[vH];exact hv);rw[zK,CO,ha]at this;omega
  have Ok:decide (id % 2=1)=!v:=by
   cases v<;>cases hd:decide (id % 2=1)<;>simp_all
  have MG:=o7.add (o':=oo) (a':=fun u=>if u=decide (id / 2 % 2=1)then id / 4-(k:Int)+1 else a u) (s:=eX v (id-4 * (k:Int)) o p) h (by rw[ec];exact hn) (by rw[ec];exact Jm) (fun u=>Int.le_refl _)
   (fun u=>by
    split
    ·rename_i hu;rw[hu,ha];omega
    ·exact Int.le_refl _)
   (fun hw=>absurd (by rw[←hw,ec,vH]) hv) (fun _=>by rw[ec,zK,CO,if_pos rfl];omega)
   (fun u j h0 h1 h2=>by
    rw[ec];split at h2
    ·rename_i hu;rw[hu,ha]at h1;rw[←Ok,hu];have al:j=id / 4-(k:Int):=by omega
     subst al;unfold gF;by_cases cM:id % 2=1<;>by_cases dI:id / 2 % 2=1<;>simp[cM,dI]<;>omega
    ·omega)
  have VQ:=o7.VP (oo:=oo) Q m1 hq hv Ou k (putS l (eX v (id-4 * (k:Int)) o p)) (fun u=>if u=decide (id / 2 % 2=1)then id / 4-(k:Int)+1 else a u) (by omega) (by rw[if_pos rfl];omega) MG (m1 l _ hl BJ hn);have ai:(fun u=>if u=decide (id / 2 % 2=1)then id / 4+1 else(if u=decide (id / 2 % 2=1)then id / 4-(k:Int)+1 else a u))=fun u=>if u=decide (id / 2 % 2=1)then id / 4+1 else a u:=by
   funext u;split<;>rfl
  rw[ai]at VQ
  show o7 v ((ensL v o p id k (putS l (eX v (hN id k) o p))).map _) _ _∧Q (ensL v o p id k (putS l (eX v (hN id k) o p)))
  rw[ah];exact VQ
theorem Vt{c:J}(h:lX c)(id:Int)(Q:List ae→Prop)(m1:∀(l:List ae) (i:Int),Q l→lV i c.own c.peer=true→i∉l.map (fun x=>x.id)→Q (putS l (eX c.bV i c.own c.peer)))(hl:Q c.streams):lX (bI c id)∧Q (bI c id).streams:=by
 unfold bI;split
 ·rename_i hg;simp only[bP,Bool.not_eq_true',b2,and_assoc]at hg;obtain⟨hc,hq,_,av,bM⟩:=hg;have hv:decide (id % 2=1)≠c.bV:=by rw[Oj hq]at av;simpa using av
  have hu:=VI hq;have hA:gi c id=o8 c (decide (id / 2 % 2=1)):=by unfold gi o8;rw[hu]
  have BL:=(VO hc (decide (id / 2 % 2=1))).2;simp only[mo,bP,Bool.not_eq_true',dN,and_assoc]at bM;obtain⟨hs,hn,_⟩:=bM;have Jn:=afx hq;have Vw:=u0.1 hq;rw[hA,Jn]at hs;have nm:=hs;simp only[ia,bP,b2,and_assoc]at nm;have o6:=BL;simp only[g0,bK,bP,b2,and_assoc]at o6;have bT:fB c id=eb 0 (id / 4+1-j' c (decide (id / 2 % 2=1))):=by
   unfold fB fj j';rw[hA,Jn,if_pos hs,bz (n:=id / 4+1) (by omega) (by omega),bz]<;>omega
  have afV:fB c id=id / 4+1-j' c (decide (id / 2 % 2=1))∧0<fB c id:=by
   rw[bT]at hn⊢;unfold eb at *;split at hn<;>simp_all<;>omega
  have Cr:(dd (gi c id) (bZ id)).seen=id / 4+1:=by
   unfold dd;rw[hA,Jn,if_pos hs]
   show IntKind.i64.wrap ((o8 c _).seen+fj (o8 c _) (id / 4))=_
   have e:fj (o8 c (decide (id / 2 % 2=1))) (id / 4)=fB c id:=by unfold fB;rw[hA,Jn]
   rw[e,afV.1];unfold j';rw[bz]<;>omega
  have hk:((fB c id).toNat:Int)=fB c id:=Int.toNat_of_nonneg (by omega);have GK:0≤j' c (decide (id / 2 % 2=1)):=h.MZ _;obtain⟨key,h4⟩:=o7.VP (v:=c.bV) (oo:=ih c) Q m1 hq hv (VN hc) (fB c id).toNat c.streams (j' c) (by rw[hk];omega) (by rw[hk];omega) h hl;have ah:ih (jb c id (dd (gi c id) (bZ id)))=ih c:=by funext u;unfold jb;split<;>rfl
  have ai:j' (jb c id (dd (gi c id) (bZ id)))=fun u=>if u=decide (id / 2 % 2=1)then id / 4+1 else j' c u:=by
   funext u
   unfold jb;rw[hu];by_cases dI:id / 2 % 2=1
   ·rw[bp dI];cases u<;>simp[j',o8,Cr]
   ·rw[bo dI];cases u<;>simp[j',o8,Cr]
  have aX:(jb c id (dd (gi c id) (bZ id))).bV=c.bV:=by unfold jb;split<;>rfl
  refine⟨?_,h4⟩
  show o7 (jb c id (dd (gi c id) (bZ id))).bV _ (ih (jb c id (dd (gi c id) (bZ id)))) (j' (jb c id (dd (gi c id) (bZ id))))
  rw[ah,ai,aX];exact key
 ·exact⟨h,hl⟩
theorem Vv{c:J}(h:lX c)(id:Int):lX (bI c id):=(Vt h id (fun _=>True) (fun _ _ _ _ _=>trivial) trivial).1
theorem afW{m:Nat}{c:J}(hv:cl m c)(h:lX c)(f:ao):lX (wq c f):=by
 have he:=Vv h f.stream;unfold wq;split
 ·by_cases h0:yC c f=0
  ·exact he.nb (afK hv f h0)
  ·unfold zV;rw[if_neg h0];exact h
 ·split
  ·by_cases h0:yI c f=0
   ·exact he.nb (afL hv f h0)
   ·unfold zW;rw[if_neg h0];exact h
  ·split
   ·by_cases h0:yK c f=0
    ·exact he.nb (afM hv f h0)
    ·unfold zX;rw[if_neg h0];exact h
   ·unfold oW
    repeat' split
    all_goals first
     |exact h
     |exact h.nb ⟨rfl,rfl,rfl,rfl,rfl,rfl⟩
     |exact h.nb ⟨rfl,rfl,rfl,VL _ _,rfl,rfl⟩
     |exact h.nb ⟨rfl,rfl,VL _ _,rfl,rfl,rfl⟩
     |(unfold C5
       repeat' split
       all_goals first
        |exact h
        |exact he
        |(rename_i h0 _;exact he.nb (Ad (id:=f.stream) (s:=C6 (bI c f.stream) f) (xh hv (UW h0)) rfl)))
theorem afX{m:Nat}{x y:J}(hv:cl m x)(h:lX x)(hs:nQ x y):lX y:=by
 cases hs with
 |same=>exact h
 |He u=>exact(afT h u).1
 |write id d _=>exact h.nb (afF x id d)
 |a2 id=>exact h.nb (afG x id)
 |read id k=>exact h.nb (afJ x id k)
 |reset id k=>exact h.nb (afI x id k)
 |K7 id t=>exact h.nb (afH x id t)
 |em b=>exact h.nb (afE x b)
 |hf f _ _=>exact afW hv h f
 |K8 n=>exact h.nb (afQ x n)
 |K9 n=>exact h.nb (afP x n)
theorem afY(v:Bool)(o p:bW):lX (kY v o p):=by
 unfold kY;split
 ·refine⟨by simp[vX],by simp[vX],by simp[vX],fun u j h0 h1=>?_,by simp[vX],fun u=>?_⟩
  ·exfalso;revert h1;unfold j' o8 mN;cases u<;>simp<;>split<;>simp<;>omega
  ·unfold j' o8 mN;cases u<;>simp<;>split<;>simp
 ·refine⟨by simp[vX],by simp[vX],by simp[vX],fun u j h0 h1=>?_,by simp[vX],fun u=>?_⟩
  ·exfalso;revert h1;unfold j' o8;cases u<;>simp<;>omega
  ·unfold j' o8;cases u<;>simp
theorem afZ{k:Nat}{c:J}(h:Drawn k c)(hk:k≤1000):lX c:=by
 induction h with
 |new v o p=>exact afY v o p
 |step hd hs dW=>exact afX (hd.zb (by omega)) (dW (by omega)) hs
theorem oA.aeC{y:J}(h:oA y):lX y:=by
 obtain⟨x,a,b,c,d,h,rfl⟩:=h;exact(afZ h (by omega)).nb ⟨rfl,rfl,rfl,rfl,rfl,rfl⟩
set_option maxRecDepth 100000
theorem PE(cg:List ao)(hm:cg.length≤500)(num:Int)(kv:List V)(bu:bg 1 kv)(K:V→List H→Prop)(hk:K (.d (.bool (!cg.all fM))) [.box [.i num,.d (.sl 9 (cg.map ao.enc))]]) :
  dx Tryz.prog 102 kv [.box [.i num,.d (.sl 9 (cg.map ao.enc))]] [.d (.sl 9 (cg.map ao.enc)),.fn 103 []] K:=by
 have a2:∀(ex:List H) (b:Bool),b=!cg.all fM→pe kv K (.d (.bool b)) (.box [.i num,.d (.sl 9 (cg.map ao.enc))]::ex):=by
  intro ex b hb;subst hb;exact⟨List.range 1,_,[.box [.i num,.d (.sl 9 (cg.map ao.enc))]],BZ (hs:=[.box [.i num,.d (.sl 9 (cg.map ao.enc))]]) (ex:=ex) (by simp[roks,rok,bg,vok]) bu (by simp[vsees,vsee,ren]) (by simp[bg,vok]),hk⟩
 have hx:∀ρ:List Nat,ρ=[0]→u_ ρ 1 kv:=fun ρ e=>by subst e;exact pf (v_ (m:=1) (n:=1) (by omega)) (by omega) bu
 refine dx.nh ?_;refine(fc (n:=9) (rs:=[.tmp 4]) Tryz.func102 rfl Tryz.call102 b1 rfl rfl ?_);simp only[go_sem];refine ab.inl (fc (n:=19) (rs:=[.tmp 4]) Tryz.func142 rfl Tryz.call142 b1 rfl rfl ?_);simp only[go_sem,I];refine b7.intro (fun i:Nat=>⟨(.d (.sl 9 (cg.map ao.enc))::.fn 103 []::.ak::.ak::.i 0::.ak::.d (.sl 9 (cg.map ao.enc))::.i cg.length::.i i::jn 10 []),[.box [.i num,.d (.sl 9 (cg.map ao.enc))]]⟩)
   (fun i=>cg.length-i) (fun i=>i≤cg.length∧(cg.take i).all fM=true) 0 [0] ⟨by omega,by simp⟩ ?_ ?_
 ·simp only[go_sem];simp[hx];try trace_state
 ·rintro i ⟨hi,he⟩;by_cases h1:i<cg.length
  ·have ax:decide ((i:Int)<(cg.length:Int))=true:=bp (by omega);have aq:=b5 ao.enc cg i h1;have hw:IntKind.i64.wrap ((i:Int)+1)=((i+1:Nat):Int):=by rw[bz]<;>omega
   have hs:=PF fM cg i h1;have hn:=fun h=>PG fM cg i h1 h;generalize cg[i]=f at *;have cd:=Xq f.kind f.stream f.offset f.data f.a2 f.code f.aR f.bn f.ey;change PureCall _ _ _ [.one (.bool (fM f))]at cd;simp only[go_sem,I,ax,aq,ao.enc,aC];refine⟨⟨by omega,by omega⟩,?_⟩;refine ab.inl (fc (n:=6) (rs:=[.tmp 2]) Tryz.func103 rfl Tryz.call103 b1 rfl rfl ?_);simp only[go_sem];refine ab.intro cd ?_
   cases hb:fM f with
   |true=>
    simp only[go_sem,hw,bS];refine bA.intro (i+1) [0] ⟨by omega,by rw[hs,he,hb];rfl⟩ (by omega) ?_;simp only[go_sem];simp[hx]
   |false=>
    have:=hn hb;simp only[go_sem,cc];have h0:decide ((0:Int)≤(i:Int))=true:=bp (by omega);exact a2 _ _ (by simp[this])
  ·have ax:decide ((i:Int)<(cg.length:Int))=false:=bo (by omega);obtain rfl:i=cg.length:=by omega
   rw[d_]at he;simp only[go_sem,ax];exact a2 _ _ (by simp[he])
set_option maxRecDepth 100000
theorem GD{S:List Bool}(h:S.length=26):∃fX cm cB cx e0 gI hL jz jA kW oB v' wa wb wc we BY J0 J1 J2 J3 J4 J5 J6 J7 J8,S=[fX,cm,cB,cx,e0,gI,hL,jz,jA,kW,oB,v',wa,wb,wc,we,BY,J0,J1,J2,J3,J4,J5,J6,J7,J8]:=by
 match S,h with|[fX,cm,cB,cx,e0,gI,hL,jz,jA,kW,oB,v',wa,wb,wc,we,BY,J0,J1,J2,J3,J4,J5,J6,J7,J8],_=>exact⟨fX,cm,cB,cx,e0,gI,hL,jz,jA,kW,oB,v',wa,wb,wc,we,BY,J0,J1,J2,J3,J4,J5,J6,J7,J8,rfl⟩
def J9(l:List aD)(n:Int)(i _:Nat)(p _:aD)(_:Bool)(S:List Bool):St:=⟨[.d (.sl 2 (l.map aD.enc)),.i n,.ak,.ak,.d (.bool false),.i i,.ptr 0 0 0,.d (.sl 2 (l.map aD.enc)),.i l.length,.i i,.d (.bool true),.i i,.fo [.int .i64 p.number,.sl 9 (p.frames.map ao.enc)] 0,.agg [.i p.number,.d (.sl 9 (p.frames.map ao.enc))],(ay S 0 (.ptr 0 0 0)),(ay S 1 (.i p.number)),(ay S 2 (.i n)),(ay S 3 (.i (IntKind.i64.wrap (n-1)))),(ay S 4 (.d (.bool false))),(ay S 5 (.d (.bool true))),(ay S 6 (.d (.bool true))),(ay S 7 (.bC false (.d (.bool false)))),(ay S 8 (.bC false (.d (.bool false)))),(ay S 9 (.bC false (.d (.bool false)))),(ay S 10 (.bC false (.d (.bool false)))),(ay S 11 (.bC false (.d (.bool false)))),(ay S 12 (.bC false (.d (.bool false)))),(ay S 13 (.bC false (.d (.bool false)))),(ay S 14 (.bC false (.d (.bool false)))),(ay S 15 (.bC false (.d (.bool false)))),(ay S 16 (.bC false (.d (.bool false)))),(ay S 17 (.bC false (.d (.bool false)))),(ay S 18 (.bC false (.d (.bool false)))),(ay S 19 (.bC false (.d (.bool false)))),(ay S 20 (.d (.bool true))),(ay S 21 (.d (.bool true))),(ay S 22 (.bC false (.d (.bool false)))),(ay S 23 (.bC false (.d (.bool false)))),(ay S 24 (.bC false (.d (.bool false)))),(ay S 25 (.d (.bool true))),.ak],[.box [.i p.number,.d (.sl 9 (p.frames.map ao.enc))]]⟩
def J_(l:List aD)(n:Int)(i _:Nat)(p _:aD)(w:Bool)(S:List Bool):St:=⟨[.d (.sl 2 (l.map aD.enc)),.i n,.ak,.ak,.d (.bool false),.i i,.ptr 0 0 0,.d (.sl 2 (l.map aD.enc)),.i l.length,.i i,.d (.bool true),.i i,.fo [.int .i64 p.number,.sl 9 (p.frames.map ao.enc)] 0,.agg [.i p.number,.d (.sl 9 (p.frames.map ao.enc))],(ay S 0 (.ptr 0 0 0)),(ay S 1 (.i p.number)),(ay S 2 (.i n)),(ay S 3 (.i (IntKind.i64.wrap (n-1)))),(ay S 4 (.d (.bool true))),(ay S 5 (.d (.bool false))),(ay S 6 (.d (.bool false))),(ay S 7 (.i i)),(ay S 8 (.d (.bool false))),(ay S 9 (.d (.bool false))),(ay S 10 (.bC false (.d (.bool false)))),(ay S 11 (.bC false (.d (.bool false)))),(ay S 12 (.bC false (.d (.bool false)))),(ay S 13 (.bC false (.d (.bool false)))),(ay S 14 (.bC false (.d (.bool false)))),(ay S 15 (.bC false (.d (.bool false)))),(ay S 16 (.bC false (.d (.bool false)))),(ay S 17 (.bC false (.d (.bool false)))),(ay S 18 (.bC false (.d (.bool false)))),(ay S 19 (.d (.bool false))),(ay S 20 (.d (.bool false))),(ay S 21 (.d (.bool false))),(ay S 22 (.ptr 0 0 1)),(ay S 23 (.d (.sl 9 (p.frames.map ao.enc)))),(ay S 24 (.d (.bool w))),(ay S 25 (.d (.bool w))),.ak],[.box [.i p.number,.d (.sl 9 (p.frames.map ao.enc))]]⟩
def J'(l:List aD)(n:Int)(i j:Nat)(p q:aD)(_:Bool)(S:List Bool):St:=⟨[.d (.sl 2 (l.map aD.enc)),.i n,.ak,.ak,.d (.bool false),.i i,.ptr 0 0 0,.d (.sl 2 (l.map aD.enc)),.i l.length,.i i,.d (.bool true),.i i,.fo [.int .i64 p.number,.sl 9 (p.frames.map ao.enc)] 0,.agg [.i p.number,.d (.sl 9 (p.frames.map ao.enc))],(ay S 0 (.ptr 0 0 0)),(ay S 1 (.i p.number)),(ay S 2 (.i n)),(ay S 3 (.i (IntKind.i64.wrap (n-1)))),(ay S 4 (.d (.bool true))),(ay S 5 (.d (.bool false))),(ay S 6 (.d (.bool false))),(ay S 7 (.i i)),(ay S 8 (.d (.bool true))),(ay S 9 (.d (.bool true))),(ay S 10 (.d (.sl 2 (l.map aD.enc)))),(ay S 11 (.i i)),(ay S 12 (.i j)),(ay S 13 (.fo [.int .i64 q.number,.sl 9 (q.frames.map ao.enc)] 0)),(ay S 14 (.fo [.int .i64 q.number,.sl 9 (q.frames.map ao.enc)] 0)),(ay S 15 (.i q.number)),(ay S 16 (.ptr 0 0 0)),(ay S 17 (.i p.number)),(ay S 18 (.d (.bool true))),(ay S 19 (.d (.bool true))),(ay S 20 (.d (.bool true))),(ay S 21 (.d (.bool true))),(ay S 22 (.bC false (.d (.bool false)))),(ay S 23 (.bC false (.d (.bool false)))),(ay S 24 (.bC false (.d (.bool false)))),(ay S 25 (.d (.bool true))),.ak],[.box [.i p.number,.d (.sl 9 (p.frames.map ao.enc))]]⟩
def Ka(l:List aD)(n:Int)(i j:Nat)(p q:aD)(w:Bool)(S:List Bool):St:=⟨[.d (.sl 2 (l.map aD.enc)),.i n,.ak,.ak,.d (.bool false),.i i,.ptr 0 0 0,.d (.sl 2 (l.map aD.enc)),.i l.length,.i i,.d (.bool true),.i i,.fo [.int .i64 p.number,.sl 9 (p.frames.map ao.enc)] 0,.agg [.i p.number,.d (.sl 9 (p.frames.map ao.enc))],(ay S 0 (.ptr 0 0 0)),(ay S 1 (.i p.number)),(ay S 2 (.i n)),(ay S 3 (.i (IntKind.i64.wrap (n-1)))),(ay S 4 (.d (.bool true))),(ay S 5 (.d (.bool false))),(ay S 6 (.d (.bool false))),(ay S 7 (.i i)),(ay S 8 (.d (.bool true))),(ay S 9 (.d (.bool true))),(ay S 10 (.d (.sl 2 (l.map aD.enc)))),(ay S 11 (.i i)),(ay S 12 (.i j)),(ay S 13 (.fo [.int .i64 q.number,.sl 9 (q.frames.map ao.enc)] 0)),(ay S 14 (.fo [.int .i64 q.number,.sl 9 (q.frames.map ao.enc)] 0)),(ay S 15 (.i q.number)),(ay S 16 (.ptr 0 0 0)),(ay S 17 (.i p.number)),(ay S 18 (.d (.bool false))),(ay S 19 (.d (.bool false))),(ay S 20 (.d (.bool false))),(ay S 21 (.d (.bool false))),(ay S 22 (.ptr 0 0 1)),(ay S 23 (.d (.sl 9 (p.frames.map ao.enc)))),(ay S 24 (.d (.bool w))),(ay S 25 (.d (.bool w))),.ak],[.box [.i p.number,.d (.sl 9 (p.frames.map ao.enc))]]⟩
theorem Xp(l:List aD)(n:Int)(hz:∀p∈l,GF p)(hl:l.length≤30):aJ 50 [.one (.sl 2 (l.map aD.enc)),.one (.int .i64 n)] [.one (.bool (xA n l))]:=by
 refine aN 41 Tryz.func50 Tryz.call50 [.tmp 4] ?_;intro ok;clear ok;simp only[go_sem,I];refine b7.intro (fun i:Nat=>⟨(.d (.sl 2 (l.map aD.enc))::.i n::.ak::.ak::.d (.bool false)::.ak::.ak::.d (.sl 2 (l.map aD.enc))::.i l.length::.i i::jn 31 []),[]⟩)
   (fun i=>l.length-i) (fun i=>i≤l.length∧kd (jX n l) i=true) 0 [] ⟨by omega,by simp[kd]⟩ ?_ ?_
 ·simp only[go_sem];simp
 ·rintro i ⟨hi,he⟩;by_cases h1:i<l.length
  ·have ax:decide ((i:Int)<(l.length:Int))=true:=bp (by omega);have aq:=b5 aD.enc l i h1;have yZ:=(hz _ (eR h1)).1;have hs:=DH (jX n l) i;have hf:jX n l i=false→xA n l=false:=fun h=>GG (jX n l) h1 h;have PD:IntKind.i64.wrap ((i:Int)+1)=((i+1:Nat):Int):=by rw[bz]<;>omega
   have ik:∀h:i=0,jX n l i=wg n l[i]:=by
    intro h;subst h;exact y2 _ _ _ h1
   have GH:∀(j:Nat) (h:i=j+1) (al:j<l.length),jX n l i=(wg n l[i]&&decide (l[j].number<l[i].number)):=by
    intro j h al;subst h;exact xB _ _ _ _ h1
   have jY:∀h:wg n l[i]=false,jX n l i=false:=by
    intro h;cases i with
    |zero=>rw[ik rfl,h]
    |succ j=>rw[GH j rfl (by omega),h];rfl
   generalize l[i]=p at *;have hW:=il p.number 0 (IntKind.i64.wrap (n-1))
   cases ha:bK p.number 0 (IntKind.i64.wrap (n-1))with
   |false=>
    rw[ha]at hW;have ef:jX n l i=false:=jY (by unfold wg;rw[ha];rfl);simp only[go_sem,I,ax,aq,aD.enc,aC];refine⟨⟨by omega,by omega⟩,?_⟩;refine jB _ (kz (fun S σ=>σ=J9 l n i 0 p p false S) (N:=26) rfl rfl rfl ?_) ?_
    ·repeat'(first|exact kA|refine kB ?_ ?_)
     all_goals(
      rintro S σ F hl aT hp hcl rfl cd;obtain⟨hZ,dy,dT,c2,d',l0,mh,mR,mS,u9,Aw,DI,Ax,Ay,DJ,DK,Kb,Kc,Kd,Ke,Kf,Kg,Kh,Ki,Kj,Kk,rfl⟩:=GD hl;simp only[ke,iG,bF]at aT;subst aT;simp[iH,Region.binds]at hp
      repeat(obtain⟨ef,hp⟩:=hp;subst ef)
      try subst hp
      simp only[J9,ay,e4,e1,cond_true,cond_false]
      repeat'(first
        |exact cd _ rfl
        |(refine du ?_)
        |(refine e5 ?_)
        |(refine ab.intro hW ?_)
        |simp only[go_sem]))
    rintro _ rfl;simp only[J9,List.replicate,ay,e4,e1,cond_true];simp only[go_sem];simp[hf ef]
   |true=>
    rw[ha]at hW
    cases i with
    |zero=>
     have h2:decide ((0:Int)<((0:Nat):Int))=false:=by decide
     simp only[go_sem,I,ax,aq,aD.enc,aC];refine⟨⟨by omega,by omega⟩,?_⟩;refine jB _ (kz (fun S σ=>σ=J_ l n 0 0 p p (!p.frames.all fM) S) (N:=26) rfl rfl rfl ?_) ?_
     ·repeat'(first|exact kA|refine kB ?_ ?_)
      all_goals(
       rintro S σ F hl aT hp hcl rfl cd;obtain⟨hZ,dy,dT,c2,d',l0,mh,mR,mS,u9,Aw,DI,Ax,Ay,DJ,DK,Kb,Kc,Kd,Ke,Kf,Kg,Kh,Ki,Kj,Kk,rfl⟩:=GD hl;simp only[ke,iG,bF]at aT;subst aT;simp[iH,Region.binds]at hp
       repeat(obtain⟨ef,hp⟩:=hp;subst ef)
       try subst hp
       simp only[J_,ay,e4,e1,cond_true,cond_false]
       repeat'(first
         |exact cd _ rfl
         |(refine du ?_)
         |(refine e5 ?_)
         |(refine ab.intro hW ?_)
         |(refine ab.inl (PE p.frames yZ p.number _ (by simp[bg,vok,Az]) _ ?_))
         |simp only[go_sem,h2]))
     rintro _ rfl;simp only[J_,List.replicate,ay,e4,e1,cond_true]
     cases hw:p.frames.all fM with
     |false=>
      have ef:jX n l 0=false:=by rw[ik rfl];unfold wg;rw[ha,hw];rfl
      simp only[go_sem,cc];simp[hf ef]
     |true=>
      have ef:jX n l 0=true:=by rw[ik rfl];unfold wg;rw[ha,hw];rfl
      simp only[go_sem,bS,PD];refine bA.intro 1 [] ⟨by omega,by rw[hs,he,ef];rfl⟩ (by omega) ?_;simp only[go_sem];try simp
    |succ j=>
     have gT:=b5 aD.enc l j (by omega);have h2:decide ((0:Int)<((j+1:Nat):Int))=true:=bp (by omega);have hp:IntKind.i64.wrap (((j+1:Nat):Int)-1)=(j:Int):=by rw[bz]<;>omega
     have hb:=GH j rfl (by omega);generalize l[j]=q at *
     cases hc:decide (q.number<p.number)with
     |false=>
      have hd:decide (p.number≤q.number)=true:=by simp at hc⊢;omega
      have gX:decide (q.number≥p.number)=true:=hd;have ef:jX n l (j+1)=false:=by rw[hb,hc];simp
      simp only[go_sem,I,ax,aq,aD.enc,aC];refine⟨⟨by omega,by omega⟩,?_⟩;refine jB _ (kz (fun S σ=>σ=J' l n (j+1) j p q false S) (N:=26) rfl rfl rfl ?_) ?_
      ·repeat'(first|exact kA|refine kB ?_ ?_)
       all_goals(
        rintro S σ F hl aT hp hcl rfl cd;obtain⟨hZ,dy,dT,c2,d',l0,mh,mR,mS,u9,Aw,DI,Ax,Ay,DJ,DK,Kb,Kc,Kd,Ke,Kf,Kg,Kh,Ki,Kj,Kk,rfl⟩:=GD hl;simp only[ke,iG,bF]at aT;subst aT;simp[iH,Region.binds]at hp
        repeat(obtain⟨ef,hp⟩:=hp;subst ef)
        try subst hp
        simp only[J',ay,e4,e1,cond_true,cond_false]
        repeat'(first
          |exact cd _ rfl
          |(refine du ?_)
          |(refine e5 ?_)
          |(refine ab.intro hW ?_)
          |(refine⟨⟨by omega,by omega⟩,?_⟩)
          |simp only[go_sem,I,bS,h2,hp,gT,aD.enc,aC,hd]))
      rintro _ rfl;simp only[J',List.replicate,ay,e4,e1,cond_true];simp only[go_sem];simp[hf ef]
     |true=>
      have hd:decide (p.number≤q.number)=false:=by simp at hc⊢;omega
      have gX:decide (q.number≥p.number)=false:=hd;simp only[go_sem,I,ax,aq,aD.enc,aC];refine⟨⟨by omega,by omega⟩,?_⟩;refine jB _ (kz (fun S σ=>σ=Ka l n (j+1) j p q (!p.frames.all fM) S) (N:=26) rfl rfl rfl ?_) ?_
      ·repeat'(first|exact kA|refine kB ?_ ?_)
       all_goals(
        rintro S σ F hl aT hp hcl rfl cd;obtain⟨hZ,dy,dT,c2,d',l0,mh,mR,mS,u9,Aw,DI,Ax,Ay,DJ,DK,Kb,Kc,Kd,Ke,Kf,Kg,Kh,Ki,Kj,Kk,rfl⟩:=GD hl;simp only[ke,iG,bF]at aT;subst aT;simp[iH,Region.binds]at hp
        repeat(obtain⟨ef,hp⟩:=hp;subst ef)
        try subst hp
        simp only[Ka,ay,e4,e1,cond_true,cond_false]
        repeat'(first
          |exact cd _ rfl
          |(refine du ?_)
          |(refine e5 ?_)
          |(refine ab.intro hW ?_)
          |(refine⟨⟨by omega,by omega⟩,?_⟩)
          |(refine ab.inl (PE p.frames yZ p.number _ (by simp[bg,vok,Az]) _ ?_))
          |simp only[go_sem,I,h2,hp,gT,aD.enc,aC,hd]))
      rintro _ rfl;simp only[Ka,List.replicate,ay,e4,e1,cond_true]
      cases hw:p.frames.all fM with
      |false=>
       have ef:jX n l (j+1)=false:=by rw[hb];unfold wg;rw[ha,hw];rfl
       simp only[go_sem,cc];simp[hf ef]
      |true=>
       have ef:jX n l (j+1)=true:=by rw[hb];unfold wg;rw[ha,hw,hc];rfl
       simp only[go_sem,bS,PD];refine bA.intro (j+1+1) [] ⟨by omega,by rw[hs,he,ef];rfl⟩ (by omega) ?_;simp only[go_sem];try simp
  ·have ax:decide ((i:Int)<(l.length:Int))=false:=bo (by omega);obtain rfl:i=l.length:=by omega
   have hK:xA n l=true:=he;simp only[go_sem,ax];simp[hK]
set_option maxRecDepth 100000
theorem aey(l:List ae)(hz:∀x∈l,eO x):aJ 51 [.one (.sl 39 (l.map ae.enc))] [.one (.int .i64 (jd hC je l))]:=by
 refine aN 5 Tryz.func51 Tryz.call51 [.tmp 2] ?_;intro ok;have hm:=fr ok;clear ok;simp only[go_sem];refine ab.inl (fc (n:=25) (rs:=[.tmp 4]) Tryz.func105 rfl Tryz.call105 b1 rfl rfl ?_);simp only[go_sem]
 cases hA:ho hC l with
 |false=>
  have ag:=JT (f:=je) hA
  try simp only[go_sem,I,hA]
  repeat'(refine ab.intro (by(apply FR<;>exact aP)) ?_<;>simp only[go_sem,hA])
  all_goals simp[ag]
 |true=>
  have ag:=JS (f:=je) hA
  try simp only[go_sem,I,hA]
  repeat'(refine ab.intro (by(apply FR<;>exact aP)) ?_<;>simp only[go_sem,I,hA])
  refine b7.intro (fun i:Nat=>⟨(.ak::.fn 106 []::jn 3 (.i ((l.take i).foldl (ir je) 0)::jn 5 (.d (.sl 39 (l.map ae.enc))::.i l.length::.i i::jn 11 []))),[]⟩)
   (fun i=>l.length-i) (fun i=>i≤l.length) 0 [] (by omega) ?_ ?_
  ·simp only[go_sem];simp
  ·intro i hi;by_cases h1:i<l.length
   ·have ax:decide ((i:Int)<(l.length:Int))=true:=bp (by omega);have aq:=b5 ae.enc l i h1;have hw:=dK h1 hm;have hs:=JR je l i h1;simp only[go_sem,I,aC,aq,ae.enc,ax];refine⟨⟨by omega,by omega⟩,?_⟩;refine ab.inl (fc (n:=6) (rs:=[.tmp 2]) Tryz.func106 rfl Tryz.call106 b1 rfl rfl ?_);simp only[go_sem];refine bA.intro (i+1) [] (by omega) (by omega) ?_;simp only[go_sem,hw,hs];simp[ir,je];try exact JQ _ _
   ·have ax:decide ((i:Int)<(l.length:Int))=false:=bo (by omega);obtain rfl:i=l.length:=by omega
    simp only[go_sem,ax,d_];simp[ag]
theorem aez(l:List ae)(hz:∀x∈l,eO x):aJ 52 [.one (.sl 39 (l.map ae.enc))] [.one (.int .i64 (jd hC jH l))]:=by
 refine aN 5 Tryz.func52 Tryz.call52 [.tmp 2] ?_;intro ok;have hm:=fr ok;clear ok;simp only[go_sem];refine ab.inl (fc (n:=25) (rs:=[.tmp 4]) Tryz.func105 rfl Tryz.call105 b1 rfl rfl ?_);simp only[go_sem]
 cases hA:ho hC l with
 |false=>
  have ag:=JT (f:=jH) hA
  try simp only[go_sem,I,hA]
  repeat'(refine ab.intro (by(apply FR<;>exact aP)) ?_<;>simp only[go_sem,hA])
  all_goals simp[ag]
 |true=>
  have ag:=JS (f:=jH) hA
  try simp only[go_sem,I,hA]
  repeat'(refine ab.intro (by(apply FR<;>exact aP)) ?_<;>simp only[go_sem,I,hA])
  refine b7.intro (fun i:Nat=>⟨(.ak::.fn 107 []::jn 3 (.i ((l.take i).foldl (ir jH) 0)::jn 5 (.d (.sl 39 (l.map ae.enc))::.i l.length::.i i::jn 11 []))),[]⟩)
   (fun i=>l.length-i) (fun i=>i≤l.length) 0 [] (by omega) ?_ ?_
  ·simp only[go_sem];simp
  ·intro i hi;by_cases h1:i<l.length
   ·have ax:decide ((i:Int)<(l.length:Int))=true:=bp (by omega);have aq:=b5 ae.enc l i h1;have hw:=dK h1 hm;have hs:=JR jH l i h1;simp only[go_sem,I,aC,aq,ae.enc,ax];refine⟨⟨by omega,by omega⟩,?_⟩;refine ab.inl (fc (n:=6) (rs:=[.tmp 2]) Tryz.func107 rfl Tryz.call107 b1 rfl rfl ?_);simp only[go_sem];refine bA.intro (i+1) [] (by omega) (by omega) ?_;simp only[go_sem,hw,hs];simp[ir,jH];try exact JQ _ _
   ·have ax:decide ((i:Int)<(l.length:Int))=false:=bo (by omega);obtain rfl:i=l.length:=by omega
    simp only[go_sem,ax,d_];simp[ag]
end Gv

namespace Gv
open Go Go.Proofs
end Gv

namespace Gv
open Go Go.Proofs
set_option maxRecDepth 100000
def apx:List (List bH):=cP 9 [16439,16441,16434,16416,19399,19561,18994,17536,13122]
attribute [go_sem] apx
theorem PH(a b:aa):(decide (a.low=b.low)&&decide (a.high=b.high))=decide (a=b):=by
 have h:((decide (a.low=b.low)&&decide (a.high=b.high))=true)↔(decide (a=b)=true):=by
  cases a;cases b;simp
 cases h1:(decide (a.low=b.low)&&decide (a.high=b.high))<;>cases h2:decide (a=b)<;>simp_all
theorem ahk(xs ys:List aa):aJ 275 [.one (.sl 2 (xs.map aa.enc)),.one (.sl 2 (ys.map aa.enc))] [.one (.bool (decide (xs=ys)))]:=by
 refine aN 26 Tryz.func275 Tryz.call275 [.tmp 4] ?_;intro ok;have hm:=fr ok;simp only[go_sem,I];refine bt (fun h=>?_) (fun h=>?_)
 ·simp only[go_sem];simp only[ne_eq,decide_not,Bool.not_eq_true',dN]at h;have:xs≠ys:=fun e=>h (by rw[e]);simp[this]
 ·simp only[ne_eq,decide_not,Bool.not_eq_false',b2]at h;simp only[go_sem,I];refine b7.intro (fun i:Nat=>⟨(.d (.sl 2 (xs.map aa.enc))::.d (.sl 2 (ys.map aa.enc))::.ak::.ak::.d (.bool false)::jn 7 (.i xs.length::.i i::jn 12 [])),[]⟩)
   (fun i=>xs.length-i) (fun i=>i≤xs.length∧xs.take i=ys.take i) 0 [] ⟨by omega,by simp⟩ ?_ ?_
  ·simp only[go_sem];simp
  ·rintro i ⟨hi,he⟩;simp only[go_sem];refine bt (fun h1=>?_) (fun h1=>?_)
   ·simp only[b2]at h1;have fp:i<xs.length:=by omega
    have gJ:i<ys.length:=by omega
    have aq:=b5 aa.enc xs i fp;have dz:=b5 aa.enc ys i gJ;have hw:=dK (i:=i) (m:=xs.length) fp hm;by_cases hq:xs[i]=ys[i]
    ·have hz:(decide (xs[i].low=ys[i].low)&&decide (xs[i].high=ys[i].high))=true:=by rw[PH];exact bp hq
     try simp only[go_sem]
     repeat'(first|(refine ba apx (by kernel_rfl) (by rfl) ?_<;>simp only[go_sem,I,aC,aq,dz,aa.enc,hz,hw,bS])|(with_reducible refine aw ?_)|fail)
     all_goals(refine bA.intro (i+1) [] ⟨by omega,u' he fp gJ hq⟩ (by omega) ?_;simp only[go_sem])
    ·have hz:(decide (xs[i].low=ys[i].low)&&decide (xs[i].high=ys[i].high))=false:=by rw[PH];exact bo hq
     have hne:xs≠ys:=fun e=>by subst e;exact hq rfl
     try simp only[go_sem]
     repeat'(first|(refine ba apx (by kernel_rfl) (by rfl) ?_<;>simp only[go_sem,I,aC,aq,dz,aa.enc,hz,cc])|(with_reducible refine aw ?_)|fail)
     all_goals simp[hne]
   ·simp only[go_sem];simp only[dN]at h1;have:xs=ys:=by rw[dH (by omega),dH (by omega)]at he;exact he
    simp[this]
theorem Xr(xs ys:List aa):aJ 227 [.one (.sl 2 (xs.map aa.enc)),.one (.sl 2 (ys.map aa.enc))] [.one (.bool (decide (xs=ys)))]:=by
 refine aN 8 Tryz.func227 Tryz.call227 [.tmp 4] ?_;intro ok
 try simp only[go_sem]
 repeat'(refine ab.intro (by apply ahk) ?_<;>simp only[go_sem])
 all_goals simp
set_option maxRecDepth 100000
def U1:List (List bH):=cP 24 [282429536444,282429536442,282429536476,282429536458,282429536400,282429536238,282429279873,282429278415,282429274041,282429526275,282429486909,282429368811,282429005040,282427942158,282424753512,277378721217,277350023403,277263929961,282228651783,281453810805,279129287871,271969183278,251048476872,188286357654]
attribute [go_sem] U1
def FO(c:J):Bool:=eV c.own&&eV c.peer&&ho hC c.streams&&jI c.cY&&kG c.dO
def FP(c:J):Bool:=jf c.e7&&jf c.e6&&g0 c.cu&&g0 c.ct
def FQ(c:J):Bool:=bK c.fq (-1) 4611686018427387903&&bK c.number 0 1000000&&bK c.h8 0 1000000&&bK c.closed 0 255
def NZ(c:J):Bool:=xA c.number c.packets&&decide (jd hC je c.streams≤c.cY.used)&&decide (jd hC jH c.streams≤c.dO.seen)
theorem aer(c:J):(bif bif bif bif !eV c.own then true else !eV c.peer then true else !ho hC c.streams then true else !jI c.cY then true else !kG c.dO)=!FO c:=by
 unfold FO;cases eV c.own<;>cases eV c.peer<;>cases ho hC c.streams<;>cases jI c.cY<;>cases kG c.dO<;>rfl
theorem aes(c:J):(bif bif bif !jf c.e7 then true else !jf c.e6 then true else !g0 c.cu then true else !g0 c.ct)=!FP c:=by
 unfold FP;cases jf c.e7<;>cases jf c.e6<;>cases g0 c.cu<;>cases g0 c.ct<;>rfl
theorem aet(c:J):(bif bif bif !bK c.fq (-1) 4611686018427387903 then true else !bK c.number 0 1000000 then true else !bK c.h8 0 1000000 then true else !bK c.closed 0 255)=!FQ c:=by
 unfold FQ;cases bK c.fq (-1) 4611686018427387903<;>cases bK c.number 0 1000000<;>cases bK c.h8 0 1000000<;>cases bK c.closed 0 255<;>rfl
theorem aeu(c:J):AL c=(FO c&&FP c&&FQ c&&NZ c):=by
 unfold AL pt oJ x7 FO FP FQ NZ
 ac_rfl
theorem Ep(c:J)(hz:gG c):aJ 9 [.agg (J.enc c)] [.one (.bool (AL c))]:=by
 refine aN 101 Tryz.func9 Tryz.call9 [.tmp 2] ?_;intro ok;clear ok;have aev:=aer c;have aew:=aes c;have aex:=aet c;obtain⟨nk,jc,pq,zc⟩:=hz;rw[aeu c]
 try simp only[go_sem]
 repeat'((first|refine ab.intro (by apply DU) ?_|refine au.intro (by first|apply DU|(apply FR<;>exact aP)|apply Nk|apply Nj) ?_|refine a7 ?_)<;>simp only[go_sem])
 rw[aev]
 cases hA:FO c with
 |false=>simp only[go_sem,cc,Bool.false_and]
 |true=>
 simp only[bS]
 try simp only[go_sem]
 repeat'((first|refine ab.intro (by apply U2) ?_|refine au.intro (by first|apply U2|apply Fx) ?_|refine a7 ?_)<;>simp only[go_sem])
 rw[aew]
 cases hB:FP c with
 |false=>simp only[go_sem,cc,Bool.false_and,Bool.and_false]
 |true=>
 simp only[bS]
 try simp only[go_sem]
 repeat'((first|refine ab.intro (by apply il) ?_|refine au.intro (by apply il) ?_|refine a7 ?_)<;>simp only[go_sem])
 rw[aex]
 cases bm:FQ c with
 |false=>simp only[go_sem,cc,Bool.false_and,Bool.and_false]
 |true=>
 simp only[bS]
 try simp only[go_sem]
 repeat'((first|refine au.intro (by first|(apply Xp<;>exact aP)|(apply aey<;>exact aP)|(apply aez<;>exact aP)) ?_|refine e8 ?_|refine ba U1 (by kernel_rfl) (by rfl) ?_)<;>simp only[go_sem])
 refine eo ?_;unfold NZ;simp only[cw]
set_option maxRecDepth 100000
theorem Er(l:List ae)(id:Int):aJ 11 [.one (.sl 39 (l.map ae.enc)),.one (.int .i64 id)] [.one (.int .i64 (fIx (eP id) l))]:=by
 refine aN 8 Tryz.func11 Tryz.call11 [.tmp 4] ?_;intro ok;have hm:=fr ok;clear ok;simp only[go_sem];refine ab.inl (fc (n:=19) (rs:=[.tmp 4]) Tryz.func63 rfl Tryz.call63 b1 rfl rfl ?_);simp only[go_sem,I];refine b7.intro (fun i:Nat=>⟨(.d (.sl 39 (l.map ae.enc))::.fn 64 [.ptr 0 0 0]::.ak::.ak::.i 0::.ak::.ak::.i l.length::.i i::jn 10 []),[.box [.i id]]⟩)
  (fun i=>l.length-i) (fun i=>i≤l.length∧(l.take i).any (eP id)=false) 0 [0] ⟨by omega,by simp⟩ ?_ ?_
 ·simp only[go_sem];simp
 ·rintro i ⟨hi,he⟩;by_cases h1:i<l.length
  ·have ax:decide ((i:Int)<(l.length:Int))=true:=bp (by omega);have aq:=b5 ae.enc l i h1;have hw:=dK h1 hm;simp only[go_sem,I,aC,aq,ae.enc,ax];refine⟨⟨by omega,by omega⟩,?_⟩;refine ab.inl (fc (n:=8) (rs:=[.tmp 3]) Tryz.func64 rfl Tryz.call64 b1 rfl rfl ?_);simp only[go_sem];refine bt (fun h=>?_) (fun h=>?_)
   ·simp only[go_sem];have:=RG (eP id) l i h1 he h;simp[this]
   ·simp only[go_sem,hw];refine bA.intro (i+1) [0] ⟨by omega,As _ l i h1 he h⟩ (by omega) ?_;simp only[go_sem];simp
  ·have ax:decide ((i:Int)<(l.length:Int))=false:=bo (by omega);obtain rfl:i=l.length:=by omega
   rw[d_]at he;simp only[go_sem,ax];simp[RH _ _ he]
theorem U'(c:J):aJ 25 [.agg (J.enc c)] [.one (.bool (decide (c.closed≠0)))]:=by
 refine aN 6 Tryz.func25 Tryz.call25 [.tmp 2] ?_;intro _
 try simp only[go_sem]
theorem Nl(c:J)(hz:gG c):aJ 80 [.agg (J.enc c)] [.one (.bool (AL c&&decide (c.closed=0)))]:=by
 refine aN 10 Tryz.func80 Tryz.call80 [.tmp 2] ?_;intro ok;clear ok
 try simp only[go_sem]
 repeat'((first|refine ab.intro (by(apply Ep<;>exact aP)) ?_|refine au.intro (by apply U') ?_|refine a7 ?_)<;>simp only[go_sem])
 all_goals(refine eo ?_;simp)
end Gv
