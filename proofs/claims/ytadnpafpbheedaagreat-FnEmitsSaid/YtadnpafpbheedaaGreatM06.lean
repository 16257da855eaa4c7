/-
  Part of the proof: the machine, what functions compute, and the plain laws.
-/
import Derived.Test.YtadnpafpbheedaaGreatM05
set_option maxHeartbeats 80000000
set_option maxRecDepth 100000
namespace Gv
open Go Go.Proofs Tryz IntKind
theorem vk{S:List UInt8}{a:Nat}{b:UInt8}{t:List UInt8}(h:ou S a (b::t)):a<S.length∧S[a]?=some b∧ou S (a+1) t:=by
 have h1:=BP (t:=[b]) (u:=t) h;refine⟨by have:=h1.1.1;simp at this;omega,?_,h1.2⟩;have:=h1.1.2 0 ξ;simpa using this
theorem wu(a n:Nat):a+1+n=a+(n+1):=by omega
theorem abJ(S:List UInt8)(a:Nat)(s o:Int)(d:List UInt8)(ki:Bool)(hf:d_ ⟨8,s,o,d,ki,0,0,0,false⟩=true)(a1:S.length≤1000)(h:ou S a (bM s++((if o=0 then []else bM o)++(bM (d.length:Int)++d)))):aL 110 [.one (.str S),.one (.int .i64 (a:Int)),.one (.int .i64 ((if ki then 11 else 10)+(if o=0 then 0 else 4)))] [.agg (aq.enc ((⟨8,s,o,d,ki,0,0,0,false⟩:aq))),.one (.int .i64 ((a+(bM s++((if o=0 then []else bM o)++(bM (d.length:Int)++d))).length:Nat):Int)),.one (.bool true)]:=by
 refine a3 88 func110 call110 [.cell 6 82,.tmp 7,.tmp 8] ?_;intro ok;clear ok;obtain⟨h1,h2,ao,aN,b6,dP,gY,e9,j4,o2⟩:=z' hf;simp only at ao aN e9;have vl:=yS 8 s o d ki 0 0 0 false;rw[hf]at vl;clear hf h1 h2 b6 dP gY j4 o2;have hq:bQ (d.length:Int)=true:=ov.2 ω;by_cases aJ:o=0
 ·subst aJ;simp only[if_true,bx,Int.add_zero]at h⊢;obtain⟨cn,cG⟩:=BP h;obtain⟨d4,ic⟩:=BP cG;have la:=S5 ic;have bt:=ic.1;have h5:aL 111 [.one (.str S),.one (.int .i64 (a:Int)),.one (.int .i64 1)] [.one (.sl 1 ([s].map aR)),.one (.int .i64 ((a+(bM s).length:Nat):Int)),.one (.bool true)]:=by
   have:=vm S a [s] ξ (by simp[ao]) a1 (by simpa using cn);simp only[List.flatMap_cons,List.flatMap_nil,gm]at this;exact this
  simp only[eT,List.map_nil,aR]at h5;have S6:=MY S (a+(bM s).length) (d.length:Int) hq a1 d4;generalize gB:(bM s).length=P at *;generalize m6:(bM (d.length:Int)).length=Q at *;have cE:i64.wrap ((S.length:Int)-((a+P+Q:Nat):Int))=(S.length:Int)-((a+P+Q:Nat):Int):=by rw[bA]<;>omega
  have fZ:i64.wrap (((a+P+Q:Nat):Int)+(d.length:Int))=((a+P+Q+d.length:Nat):Int):=by rw[bA]<;>omega
  have ag:=bm (p:=(S.length:Int)-((a+P+Q:Nat):Int)<(d.length:Int)) ω
  cases ki with
  |false=>
   have db:bitI .and .i64 10 1=0:=by decide
   have cW:bitI .and .i64 10 2=2:=by decide
   have je:bitI .and .i64 10 4=0:=by decide
   simp only[Bool.false_eq_true,if_false];have hx:a+P+Q+d.length-(a+P+Q)=d.length:=by omega
   try simp only[go_sem,db,je,Int.reduceEq,eQ,dA,eI,eW,fm]
   repeat'(first|((first|refine ae.intro ‹_› ?_|refine ay.intro ‹_› ?_|with_reducible refine cN ?_)<;>simp only[go_sem,aE,hx,la,bN,cW,cE,fZ,ag,Int.reduceEq,eJ,eQ,dA,eI,el,eW,fm])|(with_reducible refine az ?_)|fail)
   all_goals(have cM:a+((bM s).length+((bM (d.length:Int)).length+d.length))=a+P+Q+d.length:=(by(try rw[dY]at gB);omega))
   all_goals(rw[cM])
  |true=>
   have db:bitI .and .i64 11 1=1:=by decide
   have cW:bitI .and .i64 11 2=2:=by decide
   have je:bitI .and .i64 11 4=0:=by decide
   simp only[if_true];have hx:a+P+Q+d.length-(a+P+Q)=d.length:=by omega
   try simp only[go_sem,db,je,Int.reduceEq,eJ,eQ,dA,eI,eW,fm]
   repeat'(first|((first|refine ae.intro ‹_› ?_|refine ay.intro ‹_› ?_|with_reducible refine cN ?_)<;>simp only[go_sem,aE,hx,la,bN,cW,cE,fZ,ag,Int.reduceEq,eJ,eQ,dA,eI,el,eW,fm])|(with_reducible refine az ?_)|fail)
   all_goals(have cM:a+((bM s).length+((bM (d.length:Int)).length+d.length))=a+P+Q+d.length:=(by(try rw[dY]at gB);omega))
   all_goals(rw[cM])
 ·simp only[if_neg aJ,←List.append_assoc]at h⊢;simp only[List.append_assoc]at h⊢;rw[←List.append_assoc]at h⊢;obtain⟨cn,cG⟩:=BP h;obtain⟨d4,ic⟩:=BP cG;have la:=S5 ic;have bt:=ic.1;have h5:aL 111 [.one (.str S),.one (.int .i64 (a:Int)),.one (.int .i64 2)] [.one (.sl 1 ([s,o].map aR)),.one (.int .i64 ((a+(bM s++(bM o)).length:Nat):Int)),.one (.bool true)]:=by
   have:=vm S a [s,o] ξ (by simp[ao,aN]) a1 (by simpa using cn);simp only[List.flatMap_cons,List.flatMap_nil,gm]at this;exact this
  simp only[eT,List.map_nil,aR]at h5;have S6:=MY S (a+(bM s++(bM o)).length) (d.length:Int) hq a1 d4;generalize gB:(bM s++(bM o)).length=P at *;generalize m6:(bM (d.length:Int)).length=Q at *;have cE:i64.wrap ((S.length:Int)-((a+P+Q:Nat):Int))=(S.length:Int)-((a+P+Q:Nat):Int):=by rw[bA]<;>omega
  have fZ:i64.wrap (((a+P+Q:Nat):Int)+(d.length:Int))=((a+P+Q+d.length:Nat):Int):=by rw[bA]<;>omega
  have ag:=bm (p:=(S.length:Int)-((a+P+Q:Nat):Int)<(d.length:Int)) ω
  cases ki with
  |false=>
   have db:bitI .and .i64 14 1=0:=by decide
   have cW:bitI .and .i64 14 2=2:=by decide
   have je:bitI .and .i64 14 4=4:=by decide
   simp only[Bool.false_eq_true,if_false,Int.reduceAdd];have hx:a+P+Q+d.length-(a+P+Q)=d.length:=by omega
   try simp only[go_sem,db,je,Int.reduceEq,eJ,eQ,dA,eI,eW,fm]
   repeat'(first|((first|refine ae.intro ‹_› ?_|refine ay.intro ‹_› ?_|with_reducible refine cN ?_)<;>simp only[go_sem,aE,hx,la,bN,cW,cE,fZ,ag,eJ,dA,eI,el,Int.reduceToNat,eW,fm])|(with_reducible refine az ?_)|fail)
   all_goals(have cM:a+((bM s).length+(bM o).length+((bM (d.length:Int)).length+d.length))=a+P+Q+d.length:=(by(try rw[dY]at gB);omega))
   all_goals(simp only[if_neg aJ];rw[cM])
  |true=>
   have db:bitI .and .i64 15 1=1:=by decide
   have cW:bitI .and .i64 15 2=2:=by decide
   have je:bitI .and .i64 15 4=4:=by decide
   simp only[if_true,Int.reduceAdd];have hx:a+P+Q+d.length-(a+P+Q)=d.length:=by omega
   try simp only[go_sem,db,je,eJ,dA,eI,eW,fm]
   repeat'(first|((first|refine ae.intro ‹_› ?_|refine ay.intro ‹_› ?_|with_reducible refine cN ?_)<;>simp only[go_sem,aE,hx,la,bN,cW,cE,fZ,ag,eJ,dA,eI,el,Int.reduceToNat,eW,fm])|(with_reducible refine az ?_)|fail)
   all_goals(have cM:a+((bM s).length+(bM o).length+((bM (d.length:Int)).length+d.length))=a+P+Q+d.length:=(by(try rw[dY]at gB);omega))
   all_goals(simp only[if_neg aJ];rw[cM])
def S7(S:List UInt8)(a:Nat)(iK:Int)(F:aq)(n:Int):Prop:=aL 110 [.one (.str S),.one (.int .i64 ((a+1:Nat):Int)),.one (.int .i64 iK)] [.agg (aq.enc F),.one (.int .i64 n),.one (.bool true)]
theorem abK(S:List UInt8)(a:Nat)(iK:Int)(b:UInt8)(F:aq)(n:Int)(a1:S.length≤1000)(ha:a<S.length)(hb:S[a]?=some b)(ag:((b.toNat:Nat):Int)=iK)(w:i64.wrap iK=iK)(k1:decide (23<iK)=false)(k2:decide (8≤iK)=true)(dR:decide (iK<16)=true)(xw:S7 S a iK F n):aL 49 [.one (.str S),.one (.int .i64 (a:Int))] [.agg (aq.enc F),.one (.int .i64 n),.one (.bool true)]:=by
 refine a3 141 func49 call49 [.cell 4 82,.tmp 5,.tmp 6] ?_;intro ok;clear ok;unfold S7 at xw;have dc:=bm (p:=(a:Int)<0) ω;have ar:=bm (p:=(S.length:Int)≤(a:Int)) ω;have cE:i64.wrap ((a:Int)+1)=((a+1:Nat):Int):=by rw[bA]<;>omega
 try simp only[go_sem,dc]
 repeat'(first|((first|refine ae.intro ‹_› ?_|refine ay.intro ‹_› ?_|with_reducible refine cN ?_)<;>simp only[go_sem,ar,aE,hb,fh,ag,w,cE,k1,k2,dR])|(with_reducible refine az ?_)|fail)
theorem abL(S:List UInt8)(a:Nat)(s o:Int)(d:List UInt8)(ki:Bool)(hf:d_ ⟨8,s,o,d,ki,0,0,0,false⟩=true)(a1:S.length≤1000)(h:ou S a (dy ⟨8,s,o,d,ki,0,0,0,false⟩)):aL 49 [.one (.str S),.one (.int .i64 (a:Int))] [.agg (aq.enc ((⟨8,s,o,d,ki,0,0,0,false⟩:aq))),.one (.int .i64 ((a+(dy ⟨8,s,o,d,ki,0,0,0,false⟩).length:Nat):Int)),.one (.bool true)]:=by
 rw[Fs hf]at h⊢;have ht:gL (⟨8,s,o,d,ki,0,0,0,false⟩:aq)=bM ((if ki then 11 else 10)+(if o=0 then 0 else 4))++(bM s++((if o=0 then []else bM o)++(bM (d.length:Int)++d))):=by simp[gL]
 rw[ht]at h⊢;obtain⟨b,hb,e9⟩:∃b:UInt8,bM ((if ki then 11 else 10)+(if o=0 then 0 else 4))=[b]∧((b.toNat:Nat):Int)=(if ki then 11 else 10)+(if o=0 then 0 else 4):=by
  by_cases aJ:o=0<;>cases ki<;>simp only[aJ,if_true,if_false,Bool.false_eq_true,Int.reduceAdd]
  ·exact⟨10,by decide,rfl⟩
  ·exact⟨11,by decide,rfl⟩
  ·exact⟨14,by decide,rfl⟩
  ·exact⟨15,by decide,rfl⟩
 rw[hb]at h⊢;obtain⟨db,cW,c8⟩:=vk h;have xw:=abJ S (a+1) s o d ki hf a1 c8;rw[List.singleton_append,dA,←wu];have hr:(10:Int)≤(if ki then 11 else 10)+(if o=0 then 0 else 4)∧(if ki then 11 else 10)+(if o=0 then 0 else 4)≤(15:Int):=by split<;>split<;>omega
 generalize ((if ki then 11 else 10)+(if o=0 then 0 else 4):Int)=iK at *;exact abK S a iK b _ _ a1 db cW e9 (by rw[bA]<;>omega) (bm ω) (bC ω) (bC ω) xw
theorem abM(S:List UInt8)(a:Nat)(f:aq)(hf:d_ f=true)(abN:f.bp≠8)(a1:S.length≤1000)(h:ou S a (dy f)):aL 49 [.one (.str S),.one (.int .i64 (a:Int))] [.agg (aq.enc f),.one (.int .i64 ((a+(dy f).length:Nat):Int)),.one (.bool true)]:=by
 refine a3 141 func49 call49 [.cell 4 82,.tmp 5,.tmp 6] ?_;intro ok;clear ok;obtain⟨h1,h2,ao,aN,b6,dP,gY,e9,j4,o2⟩:=z' hf;have hk:=Dl h1;have vl:=yS f.bp f.aC f.aH f.data f.aW f.c4 f.aZ f.br f.ft;change PureCall _ _ _ [.one (.bool (d_ f))]at vl;rw[hf]at vl;have vn:=hf;rw[Fs hf]at h⊢;clear hf h1;have ag:=bm (p:=(a:Int)<0) ω;have cE:a<S.length→i64.wrap ((a:Int)+1)=((a+1:Nat):Int):=fun _=>by rw[bA]<;>omega
 obtain⟨k,s,o,d,ki,c,fj,fn,u⟩:=f;simp only at hk ao aN b6 dP gY e9 j4 o2 vl;rcases hk with rfl|rfl|rfl|rfl|rfl|rfl|rfl|rfl|rfl
 ·simp[gE,h6]at h2;obtain⟨rfl,rfl,rfl,rfl,rfl⟩:=h2;have iK:bM 4=[4]:=by decide
  have ht:gL (⟨4,s,0,[],false,c,0,fn,false⟩:aq)=4::(bM s++(bM c++(bM fn))):=by
   have:gL (⟨4,s,0,[],false,c,0,fn,false⟩:aq)=bM 4++(bM s++(bM c++(bM fn))):=by simp[gL]
   rw[this,iK];rfl
  rw[ht]at h⊢;obtain⟨db,cW,c8⟩:=vk h;have ar:=bm (p:=(S.length:Int)≤(a:Int)) ω;have cE:=cE db;have hb:((UInt8.toNat 4:Nat):Int)=4:=rfl;have jj:i64.wrap 4=4:=rfl;have aY:Int.tmod 1 ((3:Nat):Int)=1:=rfl;have bn:Int.tmod 2 ((3:Nat):Int)=2:=rfl;have h5:aL 111 [.one (.str S),.one (.int .i64 ((a+1:Nat):Int)),.one (.int .i64 3)] [.one (.sl 1 ([s,c,fn].map aR)),.one (.int .i64 ((a+1+(bM s++(bM c++(bM fn))).length:Nat):Int)),.one (.bool true)]:=by
   have:=vm S (a+1) [s,c,fn] ξ (by simp[ao,b6,gY]) a1 (by simpa using c8);simp only[List.flatMap_cons,List.flatMap_nil,gm]at this;exact this
  simp only[eT,List.map_nil,aR]at h5
  try simp only[go_sem,ag,Int.reduceLE,dA,eI]
  repeat'(first|((first|refine ae.intro ‹_› ?_|refine ay.intro ‹_› ?_|with_reducible refine cN ?_|with_reducible refine eB ?_)<;>simp only[go_sem,ar,aE,cW,fh,cE,hb,jj,Int.reduceLT,Int.reduceLE,eJ,eQ,dA,eI,el,aY,bn,Int.reduceToNat,eW,fm])|(with_reducible refine az ?_)|fail)
  rw[wu]
 ·simp[gE,h6]at h2;obtain⟨rfl,rfl,rfl,rfl,rfl,rfl⟩:=h2;have iK:bM 5=[5]:=by decide
  have ht:gL (⟨5,s,0,[],false,c,0,0,false⟩:aq)=5::(bM s++(bM c)):=by
   have:gL (⟨5,s,0,[],false,c,0,0,false⟩:aq)=bM 5++(bM s++(bM c)):=by simp[gL]
   rw[this,iK];rfl
  rw[ht]at h⊢;obtain⟨db,cW,c8⟩:=vk h;have ar:=bm (p:=(S.length:Int)≤(a:Int)) ω;have cE:=cE db;have hb:((UInt8.toNat 5:Nat):Int)=5:=rfl;have jj:i64.wrap 5=5:=rfl;have aY:Int.tmod 1 ((2:Nat):Int)=1:=rfl;have bn:Int.tmod 2 ((2:Nat):Int)=0:=rfl;have h5:aL 111 [.one (.str S),.one (.int .i64 ((a+1:Nat):Int)),.one (.int .i64 2)] [.one (.sl 1 ([s,c].map aR)),.one (.int .i64 ((a+1+(bM s++(bM c)).length:Nat):Int)),.one (.bool true)]:=by
   have:=vm S (a+1) [s,c] ξ (by simp[ao,b6]) a1 (by simpa using c8);simp only[List.flatMap_cons,List.flatMap_nil,gm]at this;exact this
  simp only[eT,List.map_nil,aR]at h5
  try simp only[go_sem,ag,Int.reduceLE,dA,eI]
  repeat'(first|((first|refine ae.intro ‹_› ?_|refine ay.intro ‹_› ?_|with_reducible refine cN ?_|with_reducible refine eB ?_)<;>simp only[go_sem,ar,aE,cW,fh,cE,hb,jj,Int.reduceLT,Int.reduceLE,Int.reduceEq,eJ,eQ,dA,eI,el,aY,Int.reduceToNat,eW,fm])|(with_reducible refine az ?_)|fail)
  rw[wu]
 ·exact absurd rfl abN
 ·simp[gE,h6]at h2;obtain⟨rfl,rfl,rfl,rfl,rfl,rfl,rfl⟩:=h2;have iK:bM 16=[16]:=by decide
  have ht:gL (⟨16,0,0,[],false,0,fj,0,false⟩:aq)=16::(bM fj):=by
   have:gL (⟨16,0,0,[],false,0,fj,0,false⟩:aq)=bM 16++(bM fj):=by simp[gL]
   rw[this,iK];rfl
  rw[ht]at h⊢;obtain⟨db,cW,c8⟩:=vk h;have ar:=bm (p:=(S.length:Int)≤(a:Int)) ω;have cE:=cE db;have hb:((UInt8.toNat 16:Nat):Int)=16:=rfl;have jj:i64.wrap 16=16:=rfl;have aY:Int.tmod 1 ((1:Nat):Int)=0:=rfl;have bn:Int.tmod 2 ((1:Nat):Int)=0:=rfl;have h5:aL 111 [.one (.str S),.one (.int .i64 ((a+1:Nat):Int)),.one (.int .i64 1)] [.one (.sl 1 ([fj].map aR)),.one (.int .i64 ((a+1+(bM fj).length:Nat):Int)),.one (.bool true)]:=by
   have:=vm S (a+1) [fj] ξ (by simp[dP]) a1 (by simpa using c8);simp only[List.flatMap_cons,List.flatMap_nil,gm]at this;exact this
  simp only[eT,List.map_nil,aR]at h5
  try simp only[go_sem,ag,Int.reduceLE,dA,eI]
  repeat'(first|((first|refine ae.intro ‹_› ?_|refine ay.intro ‹_› ?_|with_reducible refine cN ?_)<;>simp only[go_sem,ar,aE,cW,fh,cE,hb,jj,Int.reduceLT,Int.reduceLE,Int.reduceEq,eJ,eQ,dA,eI,el,eW,fm])|(with_reducible refine az ?_)|fail)
  rw[wu]
 ·simp[gE,h6]at h2;obtain⟨rfl,rfl,rfl,rfl,rfl,rfl⟩:=h2;have iK:bM 17=[17]:=by decide
  have ht:gL (⟨17,s,0,[],false,0,fj,0,false⟩:aq)=17::(bM s++(bM fj)):=by
   have:gL (⟨17,s,0,[],false,0,fj,0,false⟩:aq)=bM 17++(bM s++(bM fj)):=by simp[gL]
   rw[this,iK];rfl
  rw[ht]at h⊢;obtain⟨db,cW,c8⟩:=vk h;have ar:=bm (p:=(S.length:Int)≤(a:Int)) ω;have cE:=cE db;have hb:((UInt8.toNat 17:Nat):Int)=17:=rfl;have jj:i64.wrap 17=17:=rfl;have aY:Int.tmod 1 ((2:Nat):Int)=1:=rfl;have bn:Int.tmod 2 ((2:Nat):Int)=0:=rfl;have h5:aL 111 [.one (.str S),.one (.int .i64 ((a+1:Nat):Int)),.one (.int .i64 2)] [.one (.sl 1 ([s,fj].map aR)),.one (.int .i64 ((a+1+(bM s++(bM fj)).length:Nat):Int)),.one (.bool true)]:=by
   have:=vm S (a+1) [s,fj] ξ (by simp[ao,dP]) a1 (by simpa using c8);simp only[List.flatMap_cons,List.flatMap_nil,gm]at this;exact this
  simp only[eT,List.map_nil,aR]at h5
  try simp only[go_sem,ag,Int.reduceLE,dA,eI]
  repeat'(first|((first|refine ae.intro ‹_› ?_|refine ay.intro ‹_› ?_|with_reducible refine cN ?_)<;>simp only[go_sem,ar,aE,cW,fh,cE,hb,jj,Int.reduceLT,Int.reduceLE,Int.reduceEq,eJ,eQ,dA,eI,el,aY,Int.reduceToNat,eW,fm])|(with_reducible refine az ?_)|fail)
  rw[wu]
 ·simp[gE,h6]at h2;obtain⟨rfl,rfl,rfl,rfl,rfl,rfl⟩:=h2
  cases u with
  |false=>
   have iK:bM 18=[18]:=by decide
   have ht:gL (⟨18,0,0,[],false,0,fj,0,false⟩:aq)=18::(bM fj):=by
    have:gL (⟨18,0,0,[],false,0,fj,0,false⟩:aq)=bM 18++(bM fj):=by simp[gL]
    rw[this,iK];rfl
   rw[ht]at h⊢;obtain⟨db,cW,c8⟩:=vk h;have ar:=bm (p:=(S.length:Int)≤(a:Int)) ω;have cE:=cE db;have hb:((UInt8.toNat 18:Nat):Int)=18:=rfl;have jj:i64.wrap 18=18:=rfl;have aY:Int.tmod 1 ((1:Nat):Int)=0:=rfl;have bn:Int.tmod 2 ((1:Nat):Int)=0:=rfl;have h5:aL 111 [.one (.str S),.one (.int .i64 ((a+1:Nat):Int)),.one (.int .i64 1)] [.one (.sl 1 ([fj].map aR)),.one (.int .i64 ((a+1+(bM fj).length:Nat):Int)),.one (.bool true)]:=by
    have:=vm S (a+1) [fj] ξ (by simp[dP]) a1 (by simpa using c8);simp only[List.flatMap_cons,List.flatMap_nil,gm]at this;exact this
   simp only[eT,List.map_nil,aR]at h5
   try simp only[go_sem,ag,Int.reduceLE,dA,eI]
   repeat'(first|((first|refine ae.intro ‹_› ?_|refine ay.intro ‹_› ?_|with_reducible refine cN ?_)<;>simp only[go_sem,ar,aE,cW,fh,cE,hb,jj,Int.reduceLT,Int.reduceLE,Int.reduceEq,eJ,eQ,dA,eI,el,eW,fm])|(with_reducible refine az ?_)|fail)
   rw[wu]
  |true=>
   have iK:bM 19=[19]:=by decide
   have ht:gL (⟨18,0,0,[],false,0,fj,0,true⟩:aq)=19::(bM fj):=by
    have:gL (⟨18,0,0,[],false,0,fj,0,true⟩:aq)=bM 19++(bM fj):=by simp[gL]
    rw[this,iK];rfl
   rw[ht]at h⊢;obtain⟨db,cW,c8⟩:=vk h;have ar:=bm (p:=(S.length:Int)≤(a:Int)) ω;have cE:=cE db;have hb:((UInt8.toNat 19:Nat):Int)=19:=rfl;have jj:i64.wrap 19=19:=rfl;have Ft:i64.wrap (19-1)=18:=rfl;have aY:Int.tmod 1 ((1:Nat):Int)=0:=rfl;have bn:Int.tmod 2 ((1:Nat):Int)=0:=rfl;have h5:aL 111 [.one (.str S),.one (.int .i64 ((a+1:Nat):Int)),.one (.int .i64 1)] [.one (.sl 1 ([fj].map aR)),.one (.int .i64 ((a+1+(bM fj).length:Nat):Int)),.one (.bool true)]:=by
    have:=vm S (a+1) [fj] ξ (by simp[dP]) a1 (by simpa using c8);simp only[List.flatMap_cons,List.flatMap_nil,gm]at this;exact this
   simp only[eT,List.map_nil,aR]at h5
   try simp only[go_sem,ag,Int.reduceLE,dA,eI]
   repeat'(first|((first|refine ae.intro ‹_› ?_|refine ay.intro ‹_› ?_|with_reducible refine cN ?_)<;>simp only[go_sem,ar,aE,cW,fh,cE,hb,jj,Ft,Int.reduceLT,Int.reduceLE,Int.reduceEq,eJ,eQ,dA,eI,el,eW,fm])|(with_reducible refine az ?_)|fail)
   rw[wu]
 ·simp[gE,h6]at h2;obtain⟨rfl,rfl,rfl,rfl,rfl,rfl,rfl⟩:=h2;have iK:bM 20=[20]:=by decide
  have ht:gL (⟨20,0,0,[],false,0,fj,0,false⟩:aq)=20::(bM fj):=by
   have:gL (⟨20,0,0,[],false,0,fj,0,false⟩:aq)=bM 20++(bM fj):=by simp[gL]
   rw[this,iK];rfl
  rw[ht]at h⊢;obtain⟨db,cW,c8⟩:=vk h;have ar:=bm (p:=(S.length:Int)≤(a:Int)) ω;have cE:=cE db;have hb:((UInt8.toNat 20:Nat):Int)=20:=rfl;have jj:i64.wrap 20=20:=rfl;have aY:Int.tmod 1 ((1:Nat):Int)=0:=rfl;have bn:Int.tmod 2 ((1:Nat):Int)=0:=rfl;have h5:aL 111 [.one (.str S),.one (.int .i64 ((a+1:Nat):Int)),.one (.int .i64 1)] [.one (.sl 1 ([fj].map aR)),.one (.int .i64 ((a+1+(bM fj).length:Nat):Int)),.one (.bool true)]:=by
   have:=vm S (a+1) [fj] ξ (by simp[dP]) a1 (by simpa using c8);simp only[List.flatMap_cons,List.flatMap_nil,gm]at this;exact this
  simp only[eT,List.map_nil,aR]at h5
  try simp only[go_sem,ag,Int.reduceLE,dA,eI]
  repeat'(first|((first|refine ae.intro ‹_› ?_|refine ay.intro ‹_› ?_|with_reducible refine cN ?_)<;>simp only[go_sem,ar,aE,cW,fh,cE,hb,jj,Int.reduceLT,Int.reduceLE,Int.reduceEq,eJ,eQ,dA,eI,el,eW,fm])|(with_reducible refine az ?_)|fail)
  rw[wu]
 ·simp[gE,h6]at h2;obtain⟨rfl,rfl,rfl,rfl,rfl,rfl⟩:=h2;have iK:bM 21=[21]:=by decide
  have ht:gL (⟨21,s,0,[],false,0,fj,0,false⟩:aq)=21::(bM s++(bM fj)):=by
   have:gL (⟨21,s,0,[],false,0,fj,0,false⟩:aq)=bM 21++(bM s++(bM fj)):=by simp[gL]
   rw[this,iK];rfl
  rw[ht]at h⊢;obtain⟨db,cW,c8⟩:=vk h;have ar:=bm (p:=(S.length:Int)≤(a:Int)) ω;have cE:=cE db;have hb:((UInt8.toNat 21:Nat):Int)=21:=rfl;have jj:i64.wrap 21=21:=rfl;have aY:Int.tmod 1 ((2:Nat):Int)=1:=rfl;have bn:Int.tmod 2 ((2:Nat):Int)=0:=rfl;have h5:aL 111 [.one (.str S),.one (.int .i64 ((a+1:Nat):Int)),.one (.int .i64 2)] [.one (.sl 1 ([s,fj].map aR)),.one (.int .i64 ((a+1+(bM s++(bM fj)).length:Nat):Int)),.one (.bool true)]:=by
   have:=vm S (a+1) [s,fj] ξ (by simp[ao,dP]) a1 (by simpa using c8);simp only[List.flatMap_cons,List.flatMap_nil,gm]at this;exact this
  simp only[eT,List.map_nil,aR]at h5
  try simp only[go_sem,ag,Int.reduceLE,dA,eI]
  repeat'(first|((first|refine ae.intro ‹_› ?_|refine ay.intro ‹_› ?_|with_reducible refine cN ?_)<;>simp only[go_sem,ar,aE,cW,fh,cE,hb,jj,Int.reduceLT,Int.reduceLE,Int.reduceEq,eJ,eQ,dA,eI,el,aY,Int.reduceToNat,eW,fm])|(with_reducible refine az ?_)|fail)
  rw[wu]
 ·simp[gE,h6]at h2;obtain⟨rfl,rfl,rfl,rfl,rfl,rfl⟩:=h2
  cases u with
  |false=>
   have iK:bM 22=[22]:=by decide
   have ht:gL (⟨22,0,0,[],false,0,fj,0,false⟩:aq)=22::(bM fj):=by
    have:gL (⟨22,0,0,[],false,0,fj,0,false⟩:aq)=bM 22++(bM fj):=by simp[gL]
    rw[this,iK];rfl
   rw[ht]at h⊢;obtain⟨db,cW,c8⟩:=vk h;have ar:=bm (p:=(S.length:Int)≤(a:Int)) ω;have cE:=cE db;have hb:((UInt8.toNat 22:Nat):Int)=22:=rfl;have jj:i64.wrap 22=22:=rfl;have aY:Int.tmod 1 ((1:Nat):Int)=0:=rfl;have bn:Int.tmod 2 ((1:Nat):Int)=0:=rfl;have h5:aL 111 [.one (.str S),.one (.int .i64 ((a+1:Nat):Int)),.one (.int .i64 1)] [.one (.sl 1 ([fj].map aR)),.one (.int .i64 ((a+1+(bM fj).length:Nat):Int)),.one (.bool true)]:=by
    have:=vm S (a+1) [fj] ξ (by simp[dP]) a1 (by simpa using c8);simp only[List.flatMap_cons,List.flatMap_nil,gm]at this;exact this
   simp only[eT,List.map_nil,aR]at h5
   try simp only[go_sem,ag,Int.reduceLE,dA,eI]
   repeat'(first|((first|refine ae.intro ‹_› ?_|refine ay.intro ‹_› ?_|with_reducible refine cN ?_)<;>simp only[go_sem,ar,aE,cW,fh,cE,hb,jj,Int.reduceLT,Int.reduceLE,Int.reduceEq,eJ,eQ,dA,eI,el,eW,fm])|(with_reducible refine az ?_)|fail)
   rw[wu]
  |true=>
   have iK:bM 23=[23]:=by decide
   have ht:gL (⟨22,0,0,[],false,0,fj,0,true⟩:aq)=23::(bM fj):=by
    have:gL (⟨22,0,0,[],false,0,fj,0,true⟩:aq)=bM 23++(bM fj):=by simp[gL]
    rw[this,iK];rfl
   rw[ht]at h⊢;obtain⟨db,cW,c8⟩:=vk h;have ar:=bm (p:=(S.length:Int)≤(a:Int)) ω;have cE:=cE db;have hb:((UInt8.toNat 23:Nat):Int)=23:=rfl;have jj:i64.wrap 23=23:=rfl;have Ft:i64.wrap (23-1)=22:=rfl;have aY:Int.tmod 1 ((1:Nat):Int)=0:=rfl;have bn:Int.tmod 2 ((1:Nat):Int)=0:=rfl;have h5:aL 111 [.one (.str S),.one (.int .i64 ((a+1:Nat):Int)),.one (.int .i64 1)] [.one (.sl 1 ([fj].map aR)),.one (.int .i64 ((a+1+(bM fj).length:Nat):Int)),.one (.bool true)]:=by
    have:=vm S (a+1) [fj] ξ (by simp[dP]) a1 (by simpa using c8);simp only[List.flatMap_cons,List.flatMap_nil,gm]at this;exact this
   simp only[eT,List.map_nil,aR]at h5
   try simp only[go_sem,ag,Int.reduceLE,dA,eI]
   repeat'(first|((first|refine ae.intro ‹_› ?_|refine ay.intro ‹_› ?_|with_reducible refine cN ?_)<;>simp only[go_sem,ar,aE,cW,fh,cE,hb,jj,Ft,Int.reduceLT,Int.reduceLE,Int.reduceEq,eJ,eQ,dA,eI,el,eW,fm])|(with_reducible refine az ?_)|fail)
   rw[wu]
theorem abO(S:List UInt8)(a:Nat)(f:aq)(hf:d_ f=true)(a1:S.length≤1000)(h:ou S a (dy f)):aL 49 [.one (.str S),.one (.int .i64 (a:Int))] [.agg (aq.enc f),.one (.int .i64 ((a+(dy f).length:Nat):Int)),.one (.bool true)]:=by
 by_cases e9:f.bp=8
 ·obtain⟨h1,h2,_⟩:=z' hf;obtain⟨k,s,o,d,ki,c,fj,fn,u⟩:=f;simp only at e9;subst e9;simp[gE,h6]at h2;obtain⟨rfl,rfl,rfl,rfl⟩:=h2;exact abL S a s o d ki hf a1 h
 ·exact abM S a f hf e9 a1 h
theorem abZ{k:Int}(h:1≤k)(h2:k<64):∃b:UInt8,bM k=[b]∧((b.toNat:Nat):Int)=k:=by
 obtain⟨m,rfl⟩:=kt (show 0≤k by omega);have hm:m<64:=by omega
 have:∀j:Fin 64,bM ((j.val:Nat):Int)=[UInt8.ofNat j.val]:=by decide
 refine⟨UInt8.ofNat m,this ⟨m,hm⟩,?_⟩;simp;omega
theorem ab0{f:aq}(h:kindOk f.bp=true):∃(Fv:Int) (t:List UInt8),gL f=bM Fv++t∧4≤Fv∧Fv≤23:=by
 have hk:=Dl h;unfold gL
 repeat' split
 all_goals first
  |exact⟨_,_,rfl,by omega,by omega⟩
  |(refine⟨_,_,rfl,?_,?_⟩<;>(repeat' split)<;>omega)
theorem Tf{f:aq}(h:d_ f=true):∃(b:UInt8) (t:List UInt8),dy f=b::t∧((b.toNat:Nat):Int)≠0:=by
 obtain⟨h1,_⟩:=z' h;obtain⟨Fv,t,e,k1,k2⟩:=ab0 h1;obtain⟨b,ar,ba⟩:=abZ (k:=Fv) ω ω;refine⟨b,t,?_,by omega⟩;rw[Fs h,e,ar];rfl
theorem ab1(l:List aq)(S:List UInt8)(a1:S=l.flatMap dy)(hf:∀f∈l,d_ f=true)(hl:S.length≤400)(hn:S≠[]):aL 9 [.one (.str S)] [.one (.sl 9 (l.map aq.enc)),.one (.bool true)]:=by
 refine a3 39 func9 call9 [.tmp 2,.tmp 3] ?_;intro ok;clear ok;have fK:l.length≤S.length:=by
  rw[a1];clear a1 hl hn
  induction l with
  |nil=>simp
  |cons f l df=>
   obtain⟨b,t,e,_⟩:=Tf (hf f ξ);have:=df (fun g hg=>hf g (by simp[hg]));rw[List.flatMap_cons,dY,e];simp only[dA];omega
 have q2:ca (S.length:Int) 1 400=true:=by
  have:=List.length_pos_iff.2 hn;rw[ca];simp;omega
 simp only[go_sem];refine cr.intro (fun i:Nat=>⟨(.d (.str S)::aA 3 (.sl 0 0 i::.i (((l.take i).flatMap dy).length:Int)::aA 33 [])),[.ah 9 ((l.take i).map aq.enc) true]⟩)
  (fun i=>l.length-i) (fun i=>i≤l.length) 0 [0] ω ?_ ?_
 ·simp only[go_sem];simp
 ·intro i hi;by_cases h1:i<l.length
  ·have hA:ou S (0+((l.take i).flatMap dy).length) (dy l[i]):=Te (by rw[←a1];exact ab2 S) i h1;rw[Nat.zero_add]at hA;have Fw:=hf _ (eS h1);have b5:=abO S ((l.take i).flatMap dy).length l[i] Fw ω hA;have cM:(l.take i).length=i:=by simp;omega
   have em:(l.take (i+1)).map aq.enc=(l.take i).map aq.enc++[aq.enc l[i]]:=by rw[gV,cD h1,List.map_append];rfl
   have yW:((l.take (i+1)).flatMap dy).length=((l.take i).flatMap dy).length+(dy l[i]).length:=by
    rw[gV,cD h1,List.flatMap_append,dY];simp
   obtain⟨b,t,e,hb⟩:=Tf Fw;rw[e]at hA;obtain⟨db,cW,_⟩:=vk hA;have ax:=bC (p:=(((l.take i).flatMap dy).length:Int)<(S.length:Int)) ω;have hz:=bm (p:=((b.toNat:Nat):Int)=0) hb;generalize ((l.take i).flatMap dy).length=P at *;generalize l[i]=f at *
   try simp only[go_sem,ax,aE,cW,fh,hz]
   repeat'(first|((first|refine ae.intro ‹_› ?_|refine ay.intro ‹_› ?_)<;>simp only[go_sem,I,cM])|(with_reducible refine az ?_)|fail)
   refine bE.intro (i+1) [3] ω ω ?_;simp only[go_sem,em,yW];try simp
  ·obtain rfl:i=l.length:=by omega
   have ax:=bm (p:=(((l.take l.length).flatMap dy).length:Int)<(S.length:Int)) (by rw[d3,←a1];omega)
   try simp only[go_sem,ax]
   repeat'(refine ae.intro (by apply j1) ?_<;>simp only[go_sem,I,q2])
   simp[outOA,e7]
def NK:List (List bR):=cS 11 [147734,147732,147739,147717,147663,174838,174352,176053,170707,157585,118098]
def Uh:List (List bR):=cS 10 [55805,55807,55800,55782,58765,58927,58360,56902,52488,39366]
def Ui:List (List bR):=cS 26 [2541865798922,2541865798924,2541865798917,2541865798899,2541865798845,2541865827478,2541865827964,2541865826263,2541865821889,2541865808767,2541865769280,2541865651182,2400842644569,2400843707451,2400839987364,2400830421426,2400801723612,2400715630170,2540509590897,2541284431875,2538572488452,2531598919650,2510678213244,2447916094026,2259436291848,1694577218886]
def Uj:List (List bR):=cS 17 [107619836,107619838,107619831,107619813,107619759,107619961,107619354,107617896,127522876,127535998,127490071,127371973,127017679,128343001,124360474,114794536,86093442]
attribute [go_sem] NK Uh Ui Uj
theorem adD(x:dd):aL 231 [.agg [.int .i64 x.size,.int .i64 x.base,.int .i64 x.cu,.sl 1 (x.cells.map aR)],.agg [.int .i64 x.size,.int .i64 x.base,.int .i64 x.cu,.sl 1 (x.cells.map aR)]] [.one (.bool true)]:=by
 refine a3 52 func231 call231 [.tmp 4] ?_;intro ok;have hm:x.cells.length≤maxLen:=by have h:=(ok.1.2.2.2.1).1;rwa [I]at h
 clear ok;simp only[go_sem]
 repeat((first|refine bw ?_|refine f' ?_);simp only[go_sem,I])
 refine bP (fun h=>absurd h ξ) (fun _=>?_);simp only[go_sem];refine cr.intro (fun i:Nat=>⟨(.al::.al::.ptr 0 0 0::.ptr 1 0 0::.d (.bool false)::.i i::aA 46 []),[.box [.i x.size,.i x.base,.i x.cu,.d (.sl 1 (x.cells.map aR))],.box [.i x.size,.i x.base,.i x.cu,.d (.sl 1 (x.cells.map aR))]]⟩) (fun i=>x.cells.length-i) (fun i=>i≤x.cells.length) 0 [0,1] ω ?_ ?_
 ·simp only[go_sem];simp
 ·intro i hi;simp only[go_sem,I];refine bP (fun h1=>?_) (fun _=>by simp only[go_sem]);simp only[b8]at h1;have hl:i<x.cells.length:=by omega
  have hx:=cq aR x.cells i hl;have hw:=dX (i:=i) (m:=x.cells.length) hl hm;have hz:decide (x.cells[i]≠x.cells[i])=false:=by simp
  try simp only[go_sem]
  repeat'(first|(refine bo NK χ ψ ?_<;>simp only[go_sem,I,aE,hx,aR,hw,hz])|(with_reducible refine az ?_)|fail)
  all_goals(refine bE.intro (i+1) [0,1] ω ω ?_;simp only[go_sem];try simp)
theorem adE(x:mr):aL 233 [.agg [.int .i64 x.next,.sl 2 (x.cp.map aU.enc)],.agg [.int .i64 x.next,.sl 2 (x.cp.map aU.enc)]] [.one (.bool true)]:=by
 refine a3 38 func233 call233 [.tmp 4] ?_;intro ok;have hm:x.cp.length≤maxLen:=by have h:=(ok.1.2.1).1;rwa [I]at h
 clear ok;simp only[go_sem]
 repeat((first|refine bw ?_|refine f' ?_);simp only[go_sem,I])
 refine bP (fun h=>absurd h ξ) (fun _=>?_);simp only[go_sem];refine cr.intro (fun i:Nat=>⟨(.al::.al::.ptr 0 0 0::.ptr 1 0 0::.d (.bool false)::.i i::aA 32 []),[.box [.i x.next,.d (.sl 2 (x.cp.map aU.enc))],.box [.i x.next,.d (.sl 2 (x.cp.map aU.enc))]]⟩) (fun i=>x.cp.length-i) (fun i=>i≤x.cp.length) 0 [0,1] ω ?_ ?_
 ·simp only[go_sem];simp
 ·intro i hi;simp only[go_sem,I];refine bP (fun h1=>?_) (fun _=>by simp only[go_sem]);simp only[b8]at h1;have hl:i<x.cp.length:=by omega
  have hx:=cq aU.enc x.cp i hl;have hw:=dX (i:=i) (m:=x.cp.length) hl hm;have hz:(decide (x.cp[i].aH=x.cp[i].aH)&&decide (x.cp[i].data=x.cp[i].data))=true:=by simp
  try simp only[go_sem]
  repeat'(first|(refine bo NK χ ψ ?_<;>simp only[go_sem,I,aE,hx,aU.enc,hw,bN])|(with_reducible refine az ?_)|fail)
  all_goals(refine bE.intro (i+1) [0,1] ω ω ?_;simp only[go_sem];try simp)
theorem adF(x:b'):aL 184 [.agg (b'.enc x),.agg (b'.enc x)] [.one (.bool true)]:=by
 refine a3 38 func184 call184 [.tmp 4] ?_;intro ok;clear ok
 try simp only[go_sem]
 repeat'((first|refine ae.intro (by apply adE) ?_|with_reducible refine cN ?_)<;>simp only[go_sem])
 all_goals(refine gd ?_;simp)
theorem adG(x:au):aL 183 [.agg (au.enc x),.agg (au.enc x)] [.one (.bool true)]:=by
 refine a3 66 func183 call183 [.tmp 4] ?_;intro ok;clear ok
 try simp only[go_sem]
 repeat'((first|refine ae.intro (by first|apply adD|apply aaX) ?_|with_reducible refine cN ?_)<;>simp only[go_sem])
 all_goals(refine gd ?_;simp)
theorem adH(x:af):aL 109 [.agg (af.enc x),.agg (af.enc x)] [.one (.bool true)]:=by
 refine a3 101 func109 call109 [.tmp 4] ?_;intro ok;clear ok
 try simp only[go_sem]
 repeat'((first|refine ae.intro (by first|apply adG|apply adF) ?_|with_reducible refine cN ?_)<;>simp only[go_sem])
 all_goals(refine gd ?_;simp)
theorem adI(xs:List af):aL 47 [.one (.sl 39 (xs.map af.enc)),.one (.sl 39 (xs.map af.enc))] [.one (.bool true)]:=by
 refine a3 27 func47 call47 [.tmp 4] ?_;intro ok;have hm:=fI ok;clear ok;simp only[go_sem,I];refine bP (fun h=>absurd h ξ) (fun _=>?_);simp only[go_sem];refine cr.intro (fun i:Nat=>⟨(.d (.sl 39 (xs.map af.enc))::.d (.sl 39 (xs.map af.enc))::.al::.al::.d (.bool false)::.i i::aA 21 []),[]⟩) (fun i=>xs.length-i) (fun i=>i≤xs.length) 0 [] ω ?_ ?_
 ·simp only[go_sem];simp
 ·intro i hi;simp only[go_sem,I];refine bP (fun h1=>?_) (fun _=>by simp only[go_sem]);simp only[b8]at h1;have hl:i<xs.length:=by omega
  have hx:=cq af.enc xs i hl;have hw:=dX (i:=i) (m:=xs.length) hl hm
  try simp only[go_sem]
  repeat'(first|((first|refine ay.intro (by apply adH) ?_|refine bo Uh χ ψ ?_)<;>simp only[go_sem,I,aE,hx,af.enc,hw,bN])|(with_reducible refine az ?_)|fail)
  all_goals(refine bE.intro (i+1) [] ω ω ?_;simp only[go_sem];try simp)
theorem adJ(xs:List aT):aL 48 [.one (.sl 2 (xs.map aT.enc)),.one (.sl 2 (xs.map aT.enc))] [.one (.bool true)]:=by
 refine a3 71 func48 call48 [.tmp 4] ?_;intro ok;have hm:=fI ok;have o6:∀(i:Nat) (h:i<xs.length),xs[i].c0.length≤maxLen:=by
  intro i h;have h1:dOk (.sl 2 (xs.map aT.enc)):=ok.1;have h2:=Mm h1.2 _ (List.mem_map.2 ⟨xs[i],eS h,rfl⟩);have ao:=NL h2 (.sl 9 (xs[i].c0.map aq.enc)) (by simp[aT.enc]);have:=ao.1;rwa [I]at this
 clear ok;simp only[go_sem,I];refine bP (fun h=>absurd h ξ) (fun _=>?_);simp only[go_sem];refine cr.intro (fun i:Nat=>⟨(.d (.sl 2 (xs.map aT.enc))::.d (.sl 2 (xs.map aT.enc))::.al::.al::.d (.bool false)::.i i::aA 65 []),[]⟩) (fun i=>xs.length-i) (fun i=>i≤xs.length) 0 [] ω ?_ ?_
 ·simp only[go_sem];simp
 ·intro i hi;simp only[go_sem,I];refine bP (fun h1=>?_) (fun _=>by simp only[go_sem]);simp only[b8]at h1;have hl:i<xs.length:=by omega
  have hx:=cq aT.enc xs i hl;have hw:=dX (i:=i) (m:=xs.length) hl hm;have Fw:=o6 i hl;have qf:decide (xs[i].bO≠xs[i].bO)=false:=by simp
  have nF:decide ((xs[i].c0.length:Int)≠(xs[i].c0.length:Int))=false:=by simp
  try simp only[go_sem]
  repeat'(first|((first|with_reducible refine nt ?_|refine bo Ui χ ψ ?_)<;>simp only[go_sem,I,aE,hx,aT.enc,qf,nF])|(with_reducible refine az ?_)|fail)
  refine cr.intro (fun k:Nat=>⟨(.d (.sl 2 (xs.map aT.enc))::.d (.sl 2 (xs.map aT.enc))::.al::.al::.d (.bool false)::.i i::.i k::aA 64 []),[]⟩) (fun k=>xs[i].c0.length-k) (fun k=>k≤xs[i].c0.length) 0 [] ω ?_ ?_
  ·simp only[go_sem];simp
  ·intro k hk;simp only[go_sem,I,aE,hx,aT.enc];refine⟨⟨by omega,by omega⟩,?_⟩;refine bP (fun h2=>?_) (fun h2=>?_)
   ·simp only[b8]at h2;have NM:k<xs[i].c0.length:=by omega
    have FW:=cq aq.enc xs[i].c0 k NM;have yL:=dX (i:=k) (m:=xs[i].c0.length) NM Fw
    try simp only[go_sem]
    repeat'(first|(refine bo Uj χ ψ ?_<;>simp only[go_sem,I,aE,hx,aT.enc,FW,aq.enc,bN,eJ,Bool.and_self])|(with_reducible refine az ?_)|fail)
    all_goals(refine bE.intro (k+1) [] ω ω ?_;simp only[go_sem,yL])
   ·simp only[go_sem];refine bE.intro (i+1) [] ω ω ?_;simp only[go_sem,hw]
theorem Uk(x:aa):aL 8 [.agg (aa.enc x),.agg (aa.enc x)] [.one (.bool true)]:=by
 refine a3 129 func8 call8 [.tmp 4] ?_;intro ok;clear ok
 try simp only[go_sem]
 repeat'((first|refine ae.intro (by first|apply adI|apply adJ) ?_|with_reducible refine cN ?_)<;>simp only[go_sem])
 all_goals(refine gd ?_;simp)
theorem aiX{sz:Nat}{xs:List (List D)}{ds:List D}{rs:List AD}(h:wG (.agg ds::rs))(hm:.sl sz xs∈ds):xs.length≤maxLen:=(NL h.1 _ hm).1
theorem aiY(c:aa)(n:Int):aL 50 [.agg (aa.enc c),.one (.int .i64 n)] [.one (.int .i64 (iH (jU n) c.an))]:=by
 refine a3 9 func50 call50 [.tmp 4] ?_;intro ok;have hm:c.an.length≤maxLen:=by have:=aiX ok (sz:=2) (xs:=c.an.map aT.enc) ξ;rwa [I]at this
 clear ok;simp only[go_sem];refine ae.inl (fY (n:=19) (rs:=[.tmp 4]) func113 rfl call113 b2 rfl rfl ?_);simp only[go_sem,I];refine cr.intro (fun i:Nat=>⟨(.d (.sl 2 (c.an.map aT.enc))::.fn 114 [.ptr 1 0 0]::.al::.al::.i 0::.al::.al::.i c.an.length::.i i::aA 10 []),[.box (aa.bT c),.box [.i n]]⟩)
   (fun i=>c.an.length-i) (fun i=>i≤c.an.length∧(c.an.take i).any (jU n)=false) 0 [0,1] ⟨by omega,by simp⟩ ?_ ?_
 ·simp only[go_sem];simp
 ·rintro i ⟨hi,he⟩;simp only[go_sem];refine bP (fun h1=>?_) (fun h1=>?_)
  ·simp only[b8]at h1;have hlt:i<c.an.length:=by omega
   have aB:=cq aT.enc c.an i hlt;have hw:=dX hlt hm;simp only[go_sem,I,aE,aB,aT.enc];refine⟨⟨by omega,by omega⟩,?_⟩;refine ae.inl (fY (n:=8) (rs:=[.tmp 3]) func114 rfl call114 b2 rfl rfl ?_);simp only[go_sem];refine bP (fun h2=>?_) (fun h2=>?_)
   ·simp only[go_sem];have:=Jj (jU n) c.an i hlt he h2;simp[this]
   ·simp only[go_sem,hw];refine bE.intro (i+1) [0,1] ⟨by omega,xe _ c.an i hlt he h2⟩ ω ?_;simp only[go_sem];simp
  ·simp only[eG]at h1;simp only[go_sem];rw[e7 ω]at he;simp[Jk _ _ he]
theorem ain(c:aa)(n:Int)(hx:(c.an.length+mc aT.fo c.an)≤1048576):aL 10 [.agg (aa.enc c),.one (.int .i64 n)] [.agg [.int .i64 ((jT c.an n).1).bO,.sl 9 (((jT c.an n).1).c0.map aq.enc)],.one (.bool (jT c.an n).2)]:=by
 refine a3 22 func10 call10 [.cell 4 47,.tmp 5] ?_;intro ok;clear ok;simp only[go_sem];refine ae.intro (aiY c n) ?_;rcases oq (jU n) c.an with ⟨h1,h2⟩|⟨i,hi,h1,h2,ao⟩
 ·simp only[go_sem,h1]
  try simp only[go_sem,h1]
  all_goals simp[jT,h2]
 ·have hlt:=bm (p:=(i:Int)<0) ω;have hb:=E5 aT.fo c.an i hi;have hw:i64.wrap ((i:Int)+1)=((i+1:Nat):Int):=by rw[bA]<;>omega
  have p_:(List.take (i+1-i) (List.drop i (c.an.map aT.enc)))=[c.an[i]].map aT.enc:=by
   rw[show i+1-i=1 from by omega,List.drop_eq_getElem_cons (by simpa using hi)];simp
  simp only[go_sem,h1,hlt,hw,I,aE]
  repeat'(first
   |(with_reducible refine And.intro ?_ ?_;(focus (first|omega|(constructor<;>omega)|(simp;done)|(simp;omega)));try simp only[go_sem,p_])
   |(refine ae.I1 2 0 (Se [c.an[i]] (by simp[mc];omega)) ?_;simp only[go_sem,I,aT.enc]))
  all_goals simp[jT,h2]
def XM:List (List bR):=cS 9 [16439,16441,16434,16416,19399,19561,18994,17536,13122]
def XN:List (List bR):=cS 15 [11958506,11958504,11958511,11958489,11958435,11958273,11957787,14328130,14323756,14339065,14290951,14172853,13818559,12755677,9565938]
def PY:List (List bR):=cS 47 [26588814358957503287783,26588814358957503287785,26588814358957503287778,26588814358957503287760,26588814358957503287463,26588814358957503287625,26588814358957503287058,26588814358957503285600,26588814358957503281226,26588814358957503268104,26588814358957503228738,26588814358957503110640,26588814358957458115302,26588814358957459178184,26588814358957455458097,26588814358957445892159,26588814358957481498706,26588814358957374147624,26588814358957115867298,26588814358956341026320,26588814358954016503386,26588814358915661874975,26588814358936582581381,26588814358863360108960,26588814358675073751306,26588814358110214678344,26588814348790039974471,26588814353873771631129,26588814336080710832826,26588814290327125922904,26588814153066371193138,26588745179537119485723,26588746414883912053617,26588742091170138065988,26588755679984856312822,26588789034348255645960,26588664264322206288666,26588364075051612290424,26587463507239830295698,26584761803804484311520,26467237704366933999777,26442922373448820142175,26528026031662218643782,26260557391562966210160,25604043456773892054906,23634501652406669589144,17725876239305002191858]
attribute [go_sem] XM XN PY
theorem aih(bs:List Int):aL 4 [.one (.sl 1 (bs.map eU8))] [.one (.bool (decide (1048576<(bs.length:Int))))]:=by
 refine a3 6 func4 call4 [.tmp 2] ?_;intro ok
 try simp only[go_sem,I]
theorem aii(xs:List aq):aL 11 [.one (.sl 9 (xs.map aq.enc)),.one (.sl 9 (xs.map aq.enc))] [.one (.bool true)]:=by
 refine a3 26 func11 call11 [.tmp 4] ?_;intro ok;have hm:=fI ok;clear ok;simp only[go_sem,I];refine bP (fun h=>absurd h ξ) (fun _=>?_);simp only[go_sem];refine cr.intro (fun i:Nat=>⟨(.d (.sl 9 (xs.map aq.enc))::.d (.sl 9 (xs.map aq.enc))::.al::.al::.d (.bool false)::.i i::aA 20 []),[]⟩) (fun i=>xs.length-i) (fun i=>i≤xs.length) 0 [] ω ?_ ?_
 ·simp only[go_sem];simp
 ·intro i hi;simp only[go_sem,I];refine bP (fun h1=>?_) (fun _=>by simp only[go_sem]);simp only[b8]at h1;have hl:i<xs.length:=by omega
  have hx:=cq aq.enc xs i hl;have hw:=dX (i:=i) (m:=xs.length) hl hm
  try simp only[go_sem]
  repeat'(first|(refine bo XM χ ψ ?_<;>simp only[go_sem,I,aE,hx,aq.enc,hw,eJ,Bool.and_self,bN])|(with_reducible refine az ?_)|fail)
  all_goals(refine bE.intro (i+1) [] ω ω ?_;simp only[go_sem];try simp)
theorem laws_FnEmits(bs:List Int):aL 3 [.one (.sl 1 (bs.map eU8))] [.one (.bool true)]:=by
 refine om 248 func3 call3 [.tmp 2] ?_;intro ok;refine e2 b2 11 (α:=Unit) (fun _=>⟨(.d (.sl 1 (bs.map eU8))::aA 247 []),[]⟩) (fun _=>True) ?_ ?_
 ·simp only[go_sem];refine ae.intro (aih bs) ?_;simp only[go_sem];refine bP (fun h=>?_) (fun h=>?_)
  ·simp only[go_sem]
  simp only[go_sem];refine ae.qo (ace bs) rfl ?_;rintro _ ⟨c,b,b5,rfl⟩;have hv:=b5.qa;have vl:=TY c b 14 hv ω;have xw:=Nm c b 14 hv ω;have PZ:=Uk (gy c b)
  cases aJ:oC c b with
  |false=>
   obtain⟨ag,ar,ba⟩:=aij aJ;rw[ag,ba]at vl xw;generalize gy c b=y at *;clear hv b5 aJ ag ba;have h1:decide ((-1:Int)=-1)=true:=rfl;have h2:=bC (p:=(y.an.length:Int)=(c.an.length:Int)) ω;simp only[go_sem,fM,I]
   try simp only[go_sem,I]
   repeat'((first|refine ae.intro ‹_› ?_|refine ay.intro ‹_› ?_|refine bw ?_)<;>simp only[go_sem,I])
   try simp only[go_sem,ne_eq,not_true_eq_false,eQ]
   repeat'((first|refine ae.intro ‹_› ?_|refine ay.intro ‹_› ?_|with_reducible refine cN ?_)<;>simp only[go_sem,h2])
  |true=>
   obtain⟨ag,ar,ba,bF,c6,js,nK,Eg⟩:=aik hv ω aJ;have hg:pI c b=true:=by simp only[oC,bW]at aJ;exact aJ.1
   obtain⟨cn,_,_,ic,la⟩:=Dz hg;have hc:=ail hv ω (Am.1 cn) b;have P0:=Tt hv ω b;have Hy:jC (gy c b):=P0.sz ω;have vV:=Hr (gy c b) Hy;rw[←Di (B0 P0),Am.2 hc]at vV;obtain⟨k1,k2⟩:=aim hc;have hl:(me c b).length≤400:=by omega
   have S6:=ab1 (c5 c b).bY (me c b) ag ar hl bF;have Cw:=ain (gy c b) c.bO (by have ao:=Hy.2.2.1;have aN:=Dj aT.fo 30500 _ fun p hp=>SB (Hy.2.2.2 p hp);omega);rw[js]at Cw;have T6:=aii (c5 c b).bY;rw[nK]at vl xw;have nL:=bm (p:=c.bO=-1) ω;have qp:=bm (p:=(gy c b).bO≠i64.wrap (c.bO+1)) (by rw[bA]<;>omega);have xK:=bm (p:=b<((me c b).length:Int)) ω;have q8:=bm (p:=(gy c b).cm.aZ<(gy c b).cm.eg) ω;generalize (c5 c b).bY=l at *;generalize me c b=t at *;generalize gy c b=y at *;have p_:y.ab.length≤30:=Hy.1;clear hv b5 aJ ag ar ba bF c6 js nK hg cn hc P0 Hy;simp only[go_sem,fM,I]
   try simp only[go_sem,I]
   repeat'((first|refine ae.intro ‹_› ?_|refine ay.intro ‹_› ?_|refine bw ?_)<;>simp only[go_sem,I])
   try simp only[go_sem,ne_eq,not_true_eq_false,eQ,nL]
   repeat'((first|refine ae.intro ‹_› ?_|refine ay.intro ‹_› ?_|with_reducible refine cN ?_|refine bw ?_)<;>simp only[go_sem,I,ne_eq,bN])
   simp only[ne_eq]at qp;simp only[go_sem,qp,xK,q8,dK];refine cr.intro (fun i:Nat=>⟨(.d (.sl 1 (bs.map eU8))::aA 9 (.ptr 2 0 0::aA 4 (.i i::aA 232 []))),[.ah 39 (y.ab.map af.enc) true,.ah 2 (y.an.map aT.enc) true,.box (aa.aG y (.sl 0 0 y.ab.length) (.sl 1 0 y.an.length))]⟩)
    (fun i=>y.ab.length-i) (fun i=>i≤y.ab.length) 0 [6,7,8] ω ?_ ?_
   ·simp only[go_sem];simp
   ·intro i hi;simp only[go_sem];refine bP (fun h1=>?_) (fun h1=>?_)
    ·simp only[b8]at h1;have hl:i<y.ab.length:=by omega
     have hx:=cq af.enc y.ab i hl;have hz:=bm (p:=y.ab[i].cV.aZ<y.ab[i].cV.eg) (by have:=k2 _ (eS hl);omega);have hw:i64.wrap ((i:Int)+1)=((i+1:Nat):Int):=by rw[bA]<;>omega
     try simp only[go_sem]
     repeat'(first|((first|refine ae.intro ‹_› ?_|refine ay.intro ‹_› ?_|refine bo XN χ ψ ?_)<;>simp only[go_sem,I,aE,hx,af.enc,hz,hw])|(with_reducible refine az ?_)|fail)
     all_goals(refine bE.intro (i+1) [0,1,2] ω ω ?_;simp only[go_sem];try simp)
    ·simp only[go_sem];refine dm.intro () [] trivial ?_;simp only[go_sem]
     try simp
 rintro _ _;clear ok;refine lx b2 ?_;simp only[go_sem];refine ae.qo (Tl bs) rfl ?_;rintro _ ⟨d,id,room,b5,rfl⟩;have w9:=T4 d id room 14 b5.qa ω;have asX:=Nv d id room 14 b5.qa ω;have fD:=BY b5.qa ω id room;have pK:(iX d id room).2=true→((dy (gG id (iX d id room).1)).length:Int)≤room:=fun h=>by
  have hc:gq d=true:=by
   unfold iX at h;split at h
   ·rename_i hp;simp only[vz,bW]at hp;exact hp.1.1.1
   ·simp at h
  exact(XO b5.qa ω (Am.1 hc) h).2
 generalize (iX d id room).1=p at *;generalize (iX d id room).2=one at *;have T3:=Jg id p.aH p.data p.aW;have B2:=Jb 8 id p.aH p.data p.aW 0 0 0 false ω;change PureCall _ _ _ [.one (.int .i64 ((dy (gG id p)).length:Int))]at B2;generalize ((dy (gG id p)).length:Int)=n at *;clear fD b5;simp only[go_sem,fM,I,bz,bx]
 try simp only[go_sem,I]
 repeat'((first|refine ae.intro ‹_› ?_|refine ay.intro ‹_› ?_)<;>simp only[go_sem,I])
 refine ae.qo (aif bs) rfl ?_;rintro _ ⟨e,k,q,ai,hq,rfl⟩;have Et:=ai.qa;have P1:jC e:=Et.sz ω;have Ja:f_ (jx (aO e k) q):=gP.sz (m:=14) (s:=jx (aO e k) q) ⟨FO (Et.aO _).snd ω,(Et.aO _).gp,(Et.aO _).xE⟩ ω;have SO:=T8 e k q P1 (B0 Et) ω;have Hw:=TS e k q P1 ω Ja;have PZ:=Uk (q5 e k q);generalize q5 e k q=f at *;generalize o7 e k q=asY at *;clear ai Et P1 Ja;simp only[go_sem,fM,I,bz,bx]
 try simp only[go_sem,I]
 repeat'((first|refine ae.intro ‹_› ?_|refine ay.intro ‹_› ?_)<;>simp only[go_sem,I])
 refine ae.qo (aie bs) rfl ?_;rintro _ ⟨h,o,aJ,rfl⟩;have h5:=Jg h o.aH o.data o.aW;have xw:=Ny h o.aH o.data o.aW;simp only[go_sem,fM,bz,bx];refine ae.qo (acd bs) rfl ?_;rintro _ ⟨w,hW,rfl⟩;have BN:=agR w 14 hW.qa ω;have asZ:=agS w 14 hW.qa ω;generalize decide (nH w 400≠-1)=jj at *;clear hW hq aJ;simp only[go_sem,fM,I,bz,bx]
 cases one with
 |false=>
  clear pK
  try simp only[go_sem,I,cR,eJ,Bool.and_self,gG]
  repeat'((first|refine ae.intro ‹_› ?_|refine ay.intro ‹_› ?_|with_reducible refine nt ?_|with_reducible refine lR ?_|refine bo PY χ ψ ?_)<;>simp only[go_sem,I,cR,eJ,Bool.and_self,gG])
  all_goals(try simp)
 |true=>
  have hr:=bC (p:=n≤room) (pK rfl)
  try simp only[go_sem,I,bN,eJ,Bool.and_self,gG,hr]
  repeat'((first|refine ae.intro ‹_› ?_|refine ay.intro ‹_› ?_|with_reducible refine nt ?_|refine bo PY χ ψ ?_)<;>simp only[go_sem,I,bN,eJ,Bool.and_self,gG,hr])
  all_goals(try simp)
end Gv
