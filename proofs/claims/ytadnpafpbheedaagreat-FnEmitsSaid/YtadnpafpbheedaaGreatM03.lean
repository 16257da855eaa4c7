/-
  Part of the proof: the machine, what functions compute, and the plain laws.
-/
import Derived.Test.YtadnpafpbheedaaGreatM02
set_option maxHeartbeats 80000000
set_option maxRecDepth 100000
namespace Gv
open Go Go.Proofs Tryz IntKind
def qy(off:Int)(data:List UInt8)(o:Int):Int:=(((data[(o-off).toNat]?).getD 0).toNat:Nat)
def pY(off:Int)(data:List UInt8)(low m:Int):aU:=⟨low,(data.drop (low-off).toNat).take ((m-off).toNat-(low-off).toNat)⟩
def X8(off hi:Int)(data:List UInt8)(low fr:Int)(ps:List aU):List aU:=
 if low<(if hi<fr then hi else fr)then ps++[pY off data low (if hi<fr then hi else fr)]else ps
def P_(off hi:Int)(data:List UInt8)(s:Int×List aU)(c:aU):Int×List aU:=
 (if c.aH+(c.data.length:Int)>s.1 then c.aH+(c.data.length:Int)else s.1,X8 off hi data s.1 c.aH s.2++[c])
theorem X9{off:Int}{data:List UInt8}{low m:Int}(h1:off≤low)(h2:low≤m)(ao:m≤off+data.length):((pY off data low m).data.length:Int)=m-low:=by
 simp only[pY,List.length_take,List.length_drop];omega
theorem aiK{off:Int}{data:List UInt8}{low m:Int}(h0:0≤off)(h1:off≤low)(h2:low≤m)(ao:m≤off+data.length)(o:Int):qD o (pY off data low m)=if low≤o∧o<m then qy off data o else -1:=by
 have hl:=X9 h1 h2 ao;have aJ:(pY off data low m).aH=low:=rfl;by_cases h:low≤o∧o<m
 ·rw[if_pos h,zu (by rw[hl,aJ];omega),aJ];unfold qy
  show(((((data.drop (low-off).toNat).take ((m-off).toNat-(low-off).toNat))[(o-low).toNat]?).getD 0).toNat:Int)=_
  rw[List.getElem?_take,if_pos ω,List.getElem?_drop];rw[show(low-off).toNat+(o-low).toNat=(o-off).toNat from by omega]
 ·rw[if_neg h,KI (by rw[hl,aJ];omega)]
theorem K8{dc e:Int}(c:aU):∀(ps:List aU) (cU:Int),i0 dc cU ps=true→dc≤c.aH→c.data≠[]→c.aH+(c.data.length:Int)≤e→i0 e cU (ps++[c])=true
 |[],cU,h,h1,h2,ao=>by
  have:=PI h;simp only[bx,i0,bW,b8];exact⟨⟨h2,by omega⟩,ao⟩
 |d::ps,cU,h,h1,h2,ao=>by
  obtain⟨k1,k2,dR⟩:=XA h;simp only[bz,i0,bW,b8];exact⟨⟨k1,k2⟩,K8 c ps _ dR h1 h2 ao⟩
theorem P'(ed:List aU)(c:aU):∃l,(yd ed c).getLast?=some l∧l.aH+(l.data.length:Int)=c.aH+(c.data.length:Int):=by
 unfold yd;split
 ·split
  ·rename_i l hl h;exact⟨⟨l.aH,l.data++c.data⟩,by simp,by simp only[dY,Int.natCast_add];omega⟩
  ·exact⟨c,by simp,rfl⟩
 ·exact⟨c,by simp,rfl⟩
theorem aiL{ed:List aU}{c l:aU}(h:ed.getLast?=some l)(h2:l.aH+(l.data.length:Int)=c.aH):(yd ed c).length=ed.length:=by
 unfold yd;rw[h];simp only[if_pos h2];have:=congrArg List.length (Xz h);simp only[dY,List.length_singleton]at this⊢;omega
structure HJ(n off hi ni:Int)(data:List UInt8)(ys:List aU)(rl low:Int)(ps:List aU):Prop where
 za:i0 rl n ps=true
 yW:rl≤low
 Ez:low=ni∨ni<low∧low=rl
 Es:∀o,hK ps o=if hK ys o=-1 then(if ni≤o∧o<low∧o<hi then qy off data o else -1)else hK ys o
 X_:((ps.length:Int)-ys.length) * 2≤low-ni∧((ps.length:Int)-ys.length) * 2≤hi+1-ni
 X':low=ni→(qE ps).length≤ys.length
 Ya:(qE ps).length≤ys.length+1
 aiM:ni<low→∃l,(qE ps).getLast?=some l∧l.aH+(l.data.length:Int)=low
theorem HJ.aiN{n off hi ni:Int}{data:List UInt8}{ys:List aU}{rl low:Int}{ps:List aU}(h:HJ n off hi ni data ys rl low ps)(h0:0≤off)(xg:off≤ni)(Qa:hi≤off+data.length){m:Int}(hm:low<m)(xr:m≤hi) :
  i0 m n (ps++[pY off data low m])=true∧(∀o,hK (ps++[pY off data low m]) o=if hK ys o=-1 then(if ni≤o∧o<m then qy off data o else -1)else hK ys o)∧
  (qE (ps++[pY off data low m])).length≤ys.length+1∧∃l,(qE (ps++[pY off data low m])).getLast?=some l∧l.aH+(l.data.length:Int)=m:=by
 have KK:ni≤low:=by rcases h.Ez with h|h<;>omega
 have fD:((pY off data low m).data.length:Int)=m-low:=X9 ω ω ω;have K9:(pY off data low m).aH=low:=rfl;refine⟨K8 _ ps n h.za (by rw[K9];exact h.yW) (fun g=>by rw[g]at fD;simp at fD;omega) (by rw[fD,K9];omega),fun o=>?_,?_,?_⟩
 ·rw[vU,h.Es o,aiK h0 ω ω ω];by_cases g:hK ys o=-1
  ·simp only[if_pos g];by_cases cn:ni≤o∧o<low∧o<hi
   ·have:qy off data o≠-1:=by unfold qy;omega
    rw[if_pos cn,if_neg this,if_pos ⟨cn.1,by omega⟩]
   ·rw[if_neg cn,if_pos rfl];by_cases cG:low≤o∧o<m
    ·rw[if_pos cG,if_pos ω]
    ·rw[if_neg cG,if_neg ω]
  ·simp only[if_neg g]
 ·rw[Cu];rcases h.Ez with hq|hq
  ·have:=h.X' hq;have:=KJ (qE ps) (pY off data low m);omega
  ·obtain⟨l,ag,ar⟩:=h.aiM hq.1;rw[aiL ag (by rw[ar,K9])];exact h.Ya
 ·obtain⟨l,ag,ar⟩:=P' (qE ps) (pY off data low m);exact⟨l,by rw[Cu];exact ag,by rw[ar,fD,K9];omega⟩
theorem HJ.step{n off hi ni:Int}{data:List UInt8}{ys:List aU}{rl low:Int}{ps:List aU}(h:HJ n off hi ni data ys rl low ps)(h0:0≤off)(xg:off≤ni)(Qa:hi≤off+data.length)(hn:0≤n)
  (c:aU) (hc:rl≤c.aH) (hd:c.data≠[]) :
  HJ n off hi ni data (ys++[c]) (c.aH+c.data.length) (P_ off hi data (low,ps) c).1 (P_ off hi data (low,ps) c).2:=by
 have KK:ni≤low:=by rcases h.Ez with h|h<;>omega
 have wb:0<c.data.length:=List.length_pos_iff.2 hd;have hne:n≤rl:=PI h.za;unfold P_ X8;simp only;generalize hm:(if hi<c.aH then hi else c.aH)=m;have aiO:m≤hi∧m≤c.aH∧(m=hi∨m=c.aH):=by rw[←hm];split<;>omega
 have aiP:(if c.aH+(c.data.length:Int)>low then c.aH+(c.data.length:Int)else low)=max low (c.aH+c.data.length):=by split<;>omega
 rw[aiP];by_cases hp:low<m
 ·rw[if_pos hp];obtain⟨eY,eK,jl,l,AJ,y8⟩:=h.aiN h0 xg Qa hp aiO.1;have JM:(ps++[pY off data low m]).length=ps.length+1:=by simp
  generalize ps++[pY off data low m]=cX at eY eK jl AJ JM⊢;have IW:max low (c.aH+c.data.length)=c.aH+c.data.length:=by omega
  rw[IW];refine⟨K8 c cX n eY ω hd (Int.le_refl _),by omega,.inr ⟨by omega,rfl⟩,fun o=>?_,?_,fun g=>by omega,?_,fun _=>?_⟩
  ·rw[vU,vU,eK o];by_cases g:hK ys o=-1
   ·simp only[if_pos g];by_cases cn:ni≤o∧o<m
    ·have b5:qy off data o≠-1:=by unfold qy;omega
     rw[if_pos cn,if_neg b5,KI ω,if_pos rfl,if_pos ω]
    ·rw[if_neg cn,if_pos rfl];by_cases cG:qD o c=-1
     ·rw[if_pos cG,cG,if_neg];intro d4;rw[zu ω]at cG;omega
     ·rw[if_neg cG]
   ·simp only[if_neg g]
  ·have:=h.X_;simp only[dY,List.length_singleton,JM];omega
  ·rw[Cu];have:=KJ (qE cX) c;simp only[dY,List.length_singleton];omega
  ·rw[Cu];exact P' _ _
 ·rw[if_neg hp];refine⟨K8 c ps n h.za hc hd (Int.le_refl _),by omega,?_,fun o=>?_,?_,fun g=>?_,?_,fun g=>?_⟩
  ·by_cases g:low<c.aH+c.data.length
   ·right;omega
   ·left;rcases h.Ez with cG|cG<;>omega
  ·rw[vU,vU,h.Es o];by_cases g:hK ys o=-1
   ·simp only[if_pos g];by_cases cn:ni≤o∧o<low∧o<hi
    ·have b5:qy off data o≠-1:=by unfold qy;omega
     rw[if_pos cn,if_neg b5,KI (by rcases h.Ez with cG|cG<;>omega),if_pos rfl,if_pos ω]
    ·rw[if_neg cn,if_pos rfl];by_cases cG:qD o c=-1
     ·rw[if_pos cG,cG,if_neg];intro d4;rw[zu ω]at cG;omega
     ·rw[if_neg cG]
   ·simp only[if_neg g]
  ·have:=h.X_;simp only[dY,List.length_singleton];omega
  ·rw[Cu];have:=KJ (qE ps) c;have:=h.X' ω;simp only[dY,List.length_singleton];omega
  ·rw[Cu];have:=KJ (qE ps) c;have:=h.Ya;simp only[dY,List.length_singleton];omega
  ·rw[Cu];obtain⟨l,ag,ar⟩:=P' (qE ps) c;exact⟨l,ag,by rcases h.Ez with cG|cG<;>omega⟩
def Pm:List (List bR):=cS 13 [1564802,1564800,1592104,1592122,1592059,1591897,1591411,1593229,1587766,1574644,1535274,1417176,1062882]
attribute [go_sem] Pm
def p9(n off:Int):Int:=if n>off then n else off
def pU(xs:List aU)(off:Int)(data:List UInt8)(o:Int):Int:=if hK xs o<0 then qy off data o else hK xs o
def py(xs:List aU)(off:Int)(data:List UInt8)(cU:Int)(k:Nat):List UInt8:=(List.range k).map fun j=>o3 (pU xs off data (cU+(j:Nat)))
def vR(xs:List aU)(off:Int)(data:List UInt8)(r:J):aU:=⟨r.low,py xs off data r.low (r.high-r.low).toNat⟩
def x'(n:Int)(xs:List aU)(off:Int)(data:List UInt8):List J:=gT (mq xs) ⟨p9 n off,off+data.length⟩
def De(n:Int)(xs:List aU)(off:Int)(data:List UInt8):Bool:=kd ⟨n,xs⟩&&decide (data≠[])&&decide (p9 n off<off+data.length)
def oX(n:Int)(xs:List aU)(off:Int)(data:List UInt8):List aU:=
 if De n xs off data=true then(x' n xs off data).map (vR xs off data)else xs
theorem WX(xs:List aU)(off:Int)(data:List UInt8)(cU:Int)(k:Nat):py xs off data cU (k+1)=py xs off data cU k++[o3 (pU xs off data (cU+(k:Nat)))]:=by
 simp[py,List.range_succ]
theorem Mo(xs:List aU)(off:Int)(data:List UInt8)(cU:Int)(k:Nat):(py xs off data cU k).length=k:=by simp[py]
def WY(rs:List J)(q y:J):Prop:=∀a,y.low≤a→a<y.high→(∃x∈rs,x.low≤a∧a<x.high)∨(q.low≤a∧a<q.high)
def zW(E:Int)(y:J):Prop:=0≤y.low∧y.low≤E∧y.high≤E
theorem WZ(Q:J→Prop)(rs:List J)(q:J)(hq:Q q)(hx:∀x∈rs,Q x)(hm:∀a b:J,Q a→Q b→¬b.high<a.low→¬a.high<b.low→Q ⟨cj a.low b.low,dp a.high b.high⟩) :
  ∀i,(∀y∈(hj rs q i).1,Q y)∧Q (hj rs q i).2.2
 |0=>⟨(fun y hy=>by cases hy),hq⟩
 |i+1=>by
  obtain⟨h1,h2⟩:=WZ Q rs q hq hx hm i;rw[hj];split
  ·rename_i x he;have A1:=hx x (List.mem_of_getElem? he);unfold l_;split
   ·refine⟨fun y hy=>?_,h2⟩;rcases fi.1 hy with hy|hy
    ·exact h1 y hy
    ·rw[List.mem_singleton.1 hy];exact A1
   ·rename_i cn;split
    ·refine⟨fun y hy=>?_,h2⟩;rcases fi.1 hy with hy|hy
     ·split at hy
      ·exact h1 y hy
      ·rcases fi.1 hy with hy|hy
       ·exact h1 y hy
       ·rw[List.mem_singleton.1 hy];exact h2
     ·rw[List.mem_singleton.1 hy];exact A1
    ·rename_i cG;exact⟨h1,hm _ _ h2 A1 cn cG⟩
  ·exact⟨h1,h2⟩
theorem Pn(Q:J→Prop)(rs:List J)(q:J)(hq:Q q)(hx:∀x∈rs,Q x)(hm:∀a b:J,Q a→Q b→¬b.high<a.low→¬a.high<b.low→Q ⟨cj a.low b.low,dp a.high b.high⟩):∀y∈gT rs q,Q y:=by
 obtain⟨h1,h2⟩:=WZ Q rs q hq hx hm rs.length;unfold gT;split
 ·split
  ·exact h1
  ·intro y hy;rcases fi.1 hy with hy|hy
   ·exact h1 y hy
   ·rw[List.mem_singleton.1 hy];exact h2
 ·exact hx
theorem agT(rs:List J)(q:J):∀y∈gT rs q,WY rs q y:=by
 refine Pn _ rs q (fun a h1 h2=>.inr ⟨h1,h2⟩) (fun x hx a h1 h2=>.inl ⟨x,hx,h1,h2⟩) fun a b ha hb cn cG c h1 h2=>?_;simp only[cj,dp]at h1 h2;by_cases k:a.low≤c∧c<a.high
 ·exact ha c k.1 k.2
 ·refine hb c ?_ ?_<;>(split at h1<;>split at h2<;>omega)
theorem Mn(E:Int)(rs:List J)(q:J)(hq:zW E q)(hx:∀x∈rs,zW E x):∀y∈gT rs q,zW E y:=by
 refine Pn _ rs q hq hx fun a b ha hb cn cG=>?_;simp only[zW,cj,dp]at *;refine⟨?_,?_,?_⟩<;>split<;>omega
theorem Po(o:Int):∀(cs:List aU),(∀c∈cs,0≤c.aH)→∀x∈mq cs,x.low≤o→o<x.high→0≤hK cs o
 |[],_,x,hx,_,_=>by cases hx
 |c::cs,h0,x,hx,h1,h2=>by
  rw[hK];by_cases g:yJ o c=true
  ·rw[if_pos g];omega
  ·rw[if_neg g];rcases List.mem_cons.1 hx with rfl|hx
   ·exact absurd ((Db _ _).2 ⟨by have:=h0 c ξ;simp only at h1;omega,h0 c ξ,h1,by simp only at h2;omega⟩) g
   ·exact Po o cs (fun d hd=>h0 d (by simp[hd])) x hx h1 h2
theorem W0(o:Int):∀(cs:List aU),hK cs o<256
 |[]=>by simp[hK]
 |c::cs=>by
  rw[hK];split
  ·have:=((c.data[(o-c.aH).toNat]?).getD 0).toNat_lt;omega
  ·exact W0 o cs
theorem Ks(xs:List aU)(off:Int)(data:List UInt8)(o:Int):0≤pU xs off data o∧pU xs off data o≤255:=by
 unfold pU;have:=W0 o xs;split
 ·unfold qy;have:=((data[(o-off).toNat]?).getD 0).toNat_lt;omega
 ·omega
theorem agU(n:Int)(xs:List aU)(off:Int)(data:List UInt8)(hb:∀c∈xs,c.data.length≤1048576)(hx:xs.length≤1048575)(ai:∀c∈xs,c.aH≤1000∧c.aH+(c.data.length:Int)≤1000)(hd:data.length≤8)(aJ:0≤off)(jd:off+(data.length:Int)≤1000):aL 307 [.agg [.int .i64 n,.sl 2 (xs.map aU.enc)],.one (.int .i64 off),.one (.str data)] [.agg [.int .i64 n,.sl 2 ((oX n xs off data).map aU.enc)]]:=by
 refine a3 105 func307 call307 [.cell 6 60] ?_;intro ok;have E3:xs.length≤1048576:=by omega
 have AG:xs.length≤1048577:=by omega
 have ar:=bm (p:=off<0) ω;have hw:i64.wrap (4611686018427387903-(data.length:Int))=4611686018427387903-(data.length:Int):=by rw[bA]<;>omega
 have ba:=bm (p:=4611686018427387903-(data.length:Int)<off) ω;have lQ:i64.wrap (off+(data.length:Int))=off+(data.length:Int):=by rw[bA]<;>omega
 cases aS:kd ⟨n,xs⟩with
 |false=>
  have dF:oX n xs off data=xs:=by unfold oX De;rw[aS];rfl
  try simp only[go_sem]
  repeat'(first|((first|refine ae.intro (by first|(apply p7<;>exact a6)|(apply zY<;>exact a6)) ?_|with_reducible refine eB ?_)<;>simp only[go_sem,I,aS])|(with_reducible refine az ?_)|fail)
  all_goals(rw[dF];try simp)
 |true=>
 obtain⟨zV,we,zX⟩:=Ms aS;by_cases Ce:data=[]
 ·have ag:=bC (p:=data=[]) Ce;have dF:oX n xs off data=xs:=by unfold oX De;simp[Ce]
  try simp only[go_sem]
  repeat'(first|((first|refine ae.intro (by first|(apply p7<;>exact a6)|(apply zY<;>exact a6)) ?_|with_reducible refine cN ?_|with_reducible refine eB ?_)<;>simp only[go_sem,I,aS,ag])|(with_reducible refine az ?_)|fail)
  all_goals(rw[dF];try simp)
 ·have ag:=bm (p:=data=[]) Ce;obtain⟨low,g6⟩:∃low,(if n>off then n else off)=low:=⟨_,rfl⟩;have xg:off≤low∧0≤low:=by rw[←g6];split<;>omega
  by_cases bt:off+(data.length:Int)≤low
  ·have bF:=bC (p:=off+(data.length:Int)≤low) bt;have dF:oX n xs off data=xs:=by unfold oX De p9;rw[g6,bm (show ¬low<off+(data.length:Int)by omega)];simp
   try simp only[go_sem]
   repeat'(first|((first|refine ae.intro (by first|(apply p7<;>exact a6)|(apply zY<;>exact a6)) ?_|with_reducible refine cN ?_)<;>simp only[go_sem,I,aS,ag,ar,hw,ba,lQ,g6,bF])|(with_reducible refine az ?_)|fail)
   all_goals(rw[dF];try simp)
  ·have bF:=bm (p:=off+(data.length:Int)≤low) bt;have dF:oX n xs off data=(x' n xs off data).map (vR xs off data):=by
    unfold oX De p9;rw[g6,aS,bC Ce,bC (show low<off+(data.length:Int)by omega)];rfl
   have agV:(x' n xs off data).length≤1048576:=by
    have:=Mp (mq xs) ⟨p9 n off,off+data.length⟩;rw[Iv]at this;unfold x';omega
   have Pp:∀y∈x' n xs off data,WY (mq xs) ⟨low,off+data.length⟩ y:=by
    unfold x' p9;rw[g6];exact agT _ _
   have Pq:∀y∈x' n xs off data,zW 1000 y:=by
    refine Mn 1000 _ _ ⟨by unfold p9;rw[g6];exact xg.2,by unfold p9;rw[g6];show low≤1000;omega,jd⟩ fun x hx=>?_;obtain⟨c,hc,rfl⟩:=List.mem_map.1 hx;have:=xj _ _ zX c hc;have:=ai c hc;exact⟨by show 0≤c.aH;omega,this.1,this.2⟩
   have W1:gT (mq xs) ⟨low,off+(data.length:Int)⟩=x' n xs off data:=by unfold x' p9;rw[g6]
   have W2:Dd n xs=mq xs:=by unfold Dd;rw[if_pos aS]
   have wc:(mq xs).length≤1048576:=by rw[Iv];omega
   try simp only[go_sem]
   repeat'((first|refine ae.intro (by first|(apply p7<;>exact a6)|(apply aaW<;>exact a6)|(apply vS<;>exact a6)) ?_|with_reducible refine cN ?_)<;>simp only[go_sem,I,aS,ag,ar,hw,ba,lQ,g6,bF,W2,W1])
   generalize x' n xs off data=R at dF agV Pp Pq;refine cr.intro (fun i:Nat=>match i with
     |0=>⟨(.agg [.i n,.d (.sl 2 (xs.map aU.enc))]::.i off::.d (.str data)::.ptr 0 0 0::.al::.al::.ptr 1 0 0::.i low::.i (off+(data.length:Int))::.ptr 2 0 0::.sl 3 0 R.length::.i 0::aA 93 []),[.box [.i n,.d (.sl 2 (xs.map aU.enc))],.box [.i 0,.ee 2],.box [.i n,.ee 2],.ah 2 (R.map J.enc) true]⟩
     |i+1=>⟨(.agg [.i n,.d (.sl 2 (xs.map aU.enc))]::.i off::.d (.str data)::.ptr 0 0 0::.al::.al::.ptr 1 0 0::.i low::.i (off+(data.length:Int))::.ptr 2 0 0::.sl 3 0 R.length::.i ((i+1:Nat):Int)::aA 93 []),[.box [.i n,.d (.sl 2 (xs.map aU.enc))],.box [.i 0,.ee 2],.box [.i n,.sl 4 0 (i+1)],.ah 2 (R.map J.enc) true,.ah 2 (((R.take (i+1)).map (vR xs off data)).map aU.enc) true]⟩)
    (fun i=>R.length-i) (fun i=>i≤R.length) 0 [0,1,2,4] ω ?_ ?_
   ·simp only[go_sem];simp
   ·intro i hi
    cases i with
    |zero=>
     simp only[go_sem];refine bP (fun h1=>?_) (fun h1=>?_)
     ·have ax:=cQ h1;have hlt:0<R.length:=by omega
      have zq:=cq J.enc R 0 hlt;have Pr:=Pq R[0] (eS hlt);have Ps:=Pp R[0] (eS hlt);have Hh:=dX (i:=0) (m:=R.length) hlt (by simp only[maxLen];omega);obtain⟨j_,y5⟩:∃j_,(R[0].high-R[0].low).toNat=j_:=⟨_,rfl⟩;have hin:=Pr;simp only[zW]at hin;simp only[go_sem,I,el,zq,J.enc]
      repeat(with_reducible refine And.intro ω ?_)
      try simp only[go_sem]
      refine cr.intro (fun k:Nat=>⟨(.agg [.i n,.d (.sl 2 (xs.map aU.enc))]::.i off::.d (.str data)::.ptr 0 0 0::.al::.al::.ptr 1 0 0::.i low::.i (off+(data.length:Int))::.ptr 2 0 0::.sl 3 0 R.length::.i 0::.d (.str (py xs off data R[0].low k))::.i (R[0].low+(k:Nat))::aA 91 []),[.box [.i n,.d (.sl 2 (xs.map aU.enc))],.box [.i 0,.ee 2],.box [.i n,.ee 2],.ah 2 (R.map J.enc) true]⟩)
       (fun k=>j_-k) (fun k=>k≤j_) 0 [0,1,2,3] ω ?_ ?_
      ·simp only[go_sem];simp[py]
      ·intro k hk;simp only[go_sem,I,el,zq,J.enc]
       repeat(with_reducible refine And.intro ω ?_)
       try simp only[go_sem]
       have qU:=Mo xs off data R[0].low k;refine bP (fun ao=>?_) (fun ao=>?_)
       ·have Ee:=cQ ao;have Hi:=WX xs off data R[0].low k;have pw:i64.wrap (R[0].low+(k:Int)+1)=R[0].low+((k+1:Nat):Int):=by rw[bA]<;>omega
        simp only[go_sem];refine ae.intro (R6 n xs (R[0].low+(k:Int)) hb E3) ?_;simp only[go_sem];refine bP (fun aN=>?_) (fun aN=>?_)
        ·have kH:=cQ aN;have Kt:low≤R[0].low+(k:Int)∧R[0].low+(k:Int)<off+(data.length:Int):=by
          rcases Ps (R[0].low+(k:Int)) ω ω with ⟨x,Pt,cn,cG⟩|g
          ·have:=Po (R[0].low+(k:Int)) xs (fun c hc=>by have:=xj _ _ zX c hc;omega) x Pt cn cG;omega
          ·exact g
         have FJ:i64.wrap (R[0].low+(k:Int)-off)=(((R[0].low+(k:Int)-off).toNat:Nat):Int):=by rw[bA]<;>omega
         have Cj:(R[0].low+(k:Int)-off).toNat<data.length:=by omega
         have Hj:data[(R[0].low+(k:Int)-off).toNat]?=some data[(R[0].low+(k:Int)-off).toNat]:=cD Cj;have hv:((data[(R[0].low+(k:Int)-off).toNat].toNat:Nat):Int)=pU xs off data (R[0].low+(k:Int)):=by unfold pU qy;rw[if_pos kH,Hj];rfl
         have Dc:i64.wrap ((data[(R[0].low+(k:Int)-off).toNat].toNat:Nat):Int)=pU xs off data (R[0].low+(k:Int)):=by
          have:=data[(R[0].low+(k:Int)-off).toNat].toNat_lt;rw[←hv,bA]<;>omega
         try simp only[go_sem,FJ,Hj,Dc,aE,fh]
         repeat'(first|(with_reducible refine az ?_)|fail)
         refine ae.intro (Hk _ (Ks xs off data _)) ?_
         try simp only[go_sem,pw,qU]
         repeat'(first|(with_reducible refine az ?_)|fail)
         all_goals(
          try(with_reducible refine And.intro (by simp only[maxLen];omega) ?_)
          refine bE.intro (k+1) [0,1,2,3] ω ω ?_;simp only[go_sem,Hi]
          try simp)
        ·have kH:=c2 aN;have hv:hK xs (R[0].low+(k:Int))=pU xs off data (R[0].low+(k:Int)):=by unfold pU;rw[if_neg kH]
         simp only[go_sem,hv];refine ae.intro (Hk _ (Ks xs off data _)) ?_
         try simp only[go_sem,pw,qU]
         repeat'(first|(with_reducible refine az ?_)|fail)
         all_goals(
          try(with_reducible refine And.intro (by simp only[maxLen];omega) ?_)
          refine bE.intro (k+1) [0,1,2,3] ω ω ?_;simp only[go_sem,Hi]
          try simp)
       ·have Ee:=c2 ao;have Em:k=j_:=by omega
        have G4:vR xs off data R[0]=⟨R[0].low,py xs off data R[0].low k⟩:=by unfold vR;rw[y5,Em]
        have dx:((R.take (0+1)).map (vR xs off data)).map aU.enc=((R.take 0).map (vR xs off data)).map aU.enc++[[.int .i64 R[0].low,.str (py xs off data R[0].low k)]]:=by
         rw[gV,cD hlt,Option.toList_some,List.map_append,List.map_append,List.map_singleton,List.map_singleton,G4];rfl
        try simp only[go_sem]
        repeat'(first|(refine bo Pm χ ψ ?_<;>simp only[go_sem,I,el,zq,J.enc])|(with_reducible refine az ?_)|fail)
        all_goals(
         refine bE.intro (0+1) [0,1,2,3,5] ω ω ?_;simp only[go_sem,dx];simp
         try first|decide|omega)
     ·have ax:=c2 h1
      try simp only[go_sem]
      all_goals(have Ku:R=[]:=List.length_eq_zero_iff.1 ω;rw[dF,Ku];try simp)
    |succ i=>
     simp only[go_sem];refine bP (fun h1=>?_) (fun h1=>?_)
     ·have ax:=cQ h1;have hlt:i+1<R.length:=by omega
      have zq:=cq J.enc R (i+1) hlt;have Pr:=Pq R[i+1] (eS hlt);have Ps:=Pp R[i+1] (eS hlt);have Hh:=dX (i:=(i+1)) (m:=R.length) hlt (by simp only[maxLen];omega);obtain⟨j_,y5⟩:∃j_,(R[i+1].high-R[i+1].low).toNat=j_:=⟨_,rfl⟩;have hin:=Pr;simp only[zW]at hin;simp only[go_sem,I,aE,zq,J.enc]
      repeat(with_reducible refine And.intro ω ?_)
      try simp only[go_sem]
      refine cr.intro (fun k:Nat=>⟨(.agg [.i n,.d (.sl 2 (xs.map aU.enc))]::.i off::.d (.str data)::.ptr 0 0 0::.al::.al::.ptr 1 0 0::.i low::.i (off+(data.length:Int))::.ptr 2 0 0::.sl 3 0 R.length::.i ((i+1:Nat):Int)::.d (.str (py xs off data R[i+1].low k))::.i (R[i+1].low+(k:Nat))::aA 91 []),[.box [.i n,.d (.sl 2 (xs.map aU.enc))],.box [.i 0,.ee 2],.box [.i n,.sl 4 0 (i+1)],.ah 2 (R.map J.enc) true,.ah 2 (((R.take (i+1)).map (vR xs off data)).map aU.enc) true]⟩)
       (fun k=>j_-k) (fun k=>k≤j_) 0 [0,1,2,3,4] ω ?_ ?_
      ·simp only[go_sem];simp[py]
      ·intro k hk;simp only[go_sem,I,aE,zq,J.enc]
       repeat(with_reducible refine And.intro ω ?_)
       try simp only[go_sem]
       have qU:=Mo xs off data R[i+1].low k;refine bP (fun ao=>?_) (fun ao=>?_)
       ·have Ee:=cQ ao;have Hi:=WX xs off data R[i+1].low k;have pw:i64.wrap (R[i+1].low+(k:Int)+1)=R[i+1].low+((k+1:Nat):Int):=by rw[bA]<;>omega
        simp only[go_sem];refine ae.intro (R6 n xs (R[i+1].low+(k:Int)) hb E3) ?_;simp only[go_sem];refine bP (fun aN=>?_) (fun aN=>?_)
        ·have kH:=cQ aN;have Kt:low≤R[i+1].low+(k:Int)∧R[i+1].low+(k:Int)<off+(data.length:Int):=by
          rcases Ps (R[i+1].low+(k:Int)) ω ω with ⟨x,Pt,cn,cG⟩|g
          ·have:=Po (R[i+1].low+(k:Int)) xs (fun c hc=>by have:=xj _ _ zX c hc;omega) x Pt cn cG;omega
          ·exact g
         have FJ:i64.wrap (R[i+1].low+(k:Int)-off)=(((R[i+1].low+(k:Int)-off).toNat:Nat):Int):=by rw[bA]<;>omega
         have Cj:(R[i+1].low+(k:Int)-off).toNat<data.length:=by omega
         have Hj:data[(R[i+1].low+(k:Int)-off).toNat]?=some data[(R[i+1].low+(k:Int)-off).toNat]:=cD Cj;have hv:((data[(R[i+1].low+(k:Int)-off).toNat].toNat:Nat):Int)=pU xs off data (R[i+1].low+(k:Int)):=by unfold pU qy;rw[if_pos kH,Hj];rfl
         have Dc:i64.wrap ((data[(R[i+1].low+(k:Int)-off).toNat].toNat:Nat):Int)=pU xs off data (R[i+1].low+(k:Int)):=by
          have:=data[(R[i+1].low+(k:Int)-off).toNat].toNat_lt;rw[←hv,bA]<;>omega
         try simp only[go_sem,FJ,Hj,Dc,aE,fh]
         repeat'(first|(with_reducible refine az ?_)|fail)
         refine ae.intro (Hk _ (Ks xs off data _)) ?_
         try simp only[go_sem,pw,qU]
         repeat'(first|(with_reducible refine az ?_)|fail)
         all_goals(
          try(with_reducible refine And.intro (by simp only[maxLen];omega) ?_)
          refine bE.intro (k+1) [0,1,2,3,4] ω ω ?_;simp only[go_sem,Hi]
          try simp)
        ·have kH:=c2 aN;have hv:hK xs (R[i+1].low+(k:Int))=pU xs off data (R[i+1].low+(k:Int)):=by unfold pU;rw[if_neg kH]
         simp only[go_sem,hv];refine ae.intro (Hk _ (Ks xs off data _)) ?_
         try simp only[go_sem,pw,qU]
         repeat'(first|(with_reducible refine az ?_)|fail)
         all_goals(
          try(with_reducible refine And.intro (by simp only[maxLen];omega) ?_)
          refine bE.intro (k+1) [0,1,2,3,4] ω ω ?_;simp only[go_sem,Hi]
          try simp)
       ·have Ee:=c2 ao;have Em:k=j_:=by omega
        have G4:vR xs off data R[i+1]=⟨R[i+1].low,py xs off data R[i+1].low k⟩:=by unfold vR;rw[y5,Em]
        have dx:((R.take ((i+1)+1)).map (vR xs off data)).map aU.enc=((R.take (i+1)).map (vR xs off data)).map aU.enc++[[.int .i64 R[i+1].low,.str (py xs off data R[i+1].low k)]]:=by
         rw[gV,cD hlt,Option.toList_some,List.map_append,List.map_append,List.map_singleton,List.map_singleton,G4];rfl
        try simp only[go_sem,I,Hh]
        repeat'(first|(refine bo Pm χ ψ ?_<;>simp only[go_sem,I,aE,zq,J.enc,Hh])|(with_reducible refine az ?_)|fail)
        all_goals(
         refine bE.intro (i+1+1) [0,1,2,3,6] ω ω ?_;simp only[go_sem,dx];simp
         try first|decide|omega)
     ·have ax:=c2 h1
      try simp only[go_sem]
      all_goals(have Ku:R.length=i+1:=ω;rw[e7 (Nat.le_of_eq Ku),dF];try simp[outOA,Ku,e7])
def Rk:List (List bR):=cS 54 [58149737003040059690380331,58149737003040059690380329,58149737003040059690380363,58149737003040059690380345,58149737003040059690380651,58149737003040059690380489,58149737003040059690389804,58149737003040059690388346,58149737003040059690383972,58149737003040059690370486,58149737003040059690331120,58149737003040059628034425,58149737003040059627680131,58149737003040059626617249,58149737003040059687910111,58149737003040059678344173,58149737003040059649646359,58149737003040059561250006,58149737003040059302969680,58149737003040058528128702,58149737003039930679367332,58149737003039923705798530,58149737003040042256468164,58149737003039979494348946,58149737003039777260853688,58149737003039212401780726,58149737003037517824561840,58149737003032434092905182,58149737002193618369556612,58149737002147864784646690,58149737002925675728115364,58149737002513893463926066,58149737001187039501538328,58149736997480999123834646,58149736986362877990723600,58149736953008514591390462,58149736852945424393391048,58149736552756153799392806,58149735652188342017398080,58149732950484906671413902,58149724845374600633461368,58149372273076287982526139,58149299327083533640953333,58149554638058173836458154,58148752232137876079157288,58146782690333508856691526,58140874064920407189294240,57165950871758632068742050,57112773243040717062166476,58016792931245272173951234,57538194272784037114771068,55996043039964501924079422,51688655113813386391457928,38766491335360039793593446]
attribute [go_sem] Rk
def Bj(s:au):Int:=
 if s.aW=3∧s.av.base=s.av.cu then 3
 else if(s.aW=2∨s.aW=3)∨(s.aW=1∧s.b0=2)then 2
 else if 0<s.cw∨(s.aW=1∧s.b0=1)then 1 else 0
theorem EK(a' bf bg a_:Int)(a7:List Int)(aF aD aI:List J)(bc a9 a8 bh:Int):aL 151 [.agg [.int .i64 a',.int .i64 bf,.int .i64 bg,.int .i64 a_,.sl 1 (a7.map aR),.sl 2 (aF.map J.enc),.sl 2 (aD.map J.enc),.sl 2 (aI.map J.enc),.int .i64 bc,.int .i64 a9,.int .i64 a8,.int .i64 bh]] [.one (.int .i64 (Bj (⟨a',⟨bf,bg,a_,a7⟩,aF,aD,aI,bc,a9,a8,bh⟩:au)))]:=by
 refine a3 49 func151 call151 [.tmp 2] ?_;intro _
 try simp only[go_sem]
 repeat'((first|refine bw ?_|refine bP (fun h=>?_) (fun h=>?_))<;>simp only[go_sem])
 all_goals(simp at *;simp only[Bj];repeat' split)
 all_goals first|rfl|(exfalso;grind)
def xd(xs:List J)(p:Int):Bool:=match xs.getLast? with|some r=>decide (p<r.high)|none=>false
theorem Rl(xs:List J)(p:Int):aL 237 [.one (.sl 2 (xs.map J.enc)),.one (.int .i64 p)] [.one (.bool (xd xs p))]:=by
 refine a3 19 func237 call237 [.tmp 4] ?_;intro ok;have hm:=fI ok;by_cases h:xs.length=0
 ·have ag:=bm (p:=(0:Int)<(xs.length:Int)) ω
  try simp only[go_sem,I,ag]
  repeat'(first|(with_reducible refine eB ?_<;>simp only[go_sem]))
  all_goals simp[xd,List.length_eq_zero_iff.1 h]
 ·have ag:=bC (p:=(0:Int)<(xs.length:Int)) ω;have hl:xs.length-1<xs.length:=by omega
  have aB:=cq J.enc xs (xs.length-1) hl;have cE:i64.wrap ((xs.length:Int)-1)=((xs.length-1:Nat):Int):=by simp only[maxLen]at hm;rw[bA]<;>omega
  have Rm:xs.getLast?=some xs[xs.length-1]:=by rw[List.getLast?_eq_getElem?,cD hl]
  try simp only[go_sem,I,ag]
  repeat'(first|(with_reducible refine cN ?_<;>simp only[go_sem,I,cE,aB,J.enc,aE])|(with_reducible refine az ?_)|fail)
  all_goals simp[xd,Rm]
def CV(a b c:List J)(e:Int):Bool:=
 decide (i64.wrap (i64.wrap (jq a+jq b)+jq c)=e)&&decide (jq (fg a (b++c))=e)&&!xd (fg a (b++c)) e
theorem Z_(a b c:List J)(e:Int)(hc:a.length+b.length+c.length≤524288):aL 235 [.one (.sl 2 (a.map J.enc)),.one (.sl 2 (b.map J.enc)),.one (.sl 2 (c.map J.enc)),.one (.int .i64 e)] [.one (.bool (CV a b c e))]:=by
 refine a3 47 func235 call235 [.tmp 8] ?_;intro ok
 cases ag:decide (i64.wrap (i64.wrap (jq a+jq b)+jq c)≠e)with
 |true=>
  have g':=cQ ag
  try simp only[go_sem]
  repeat'(refine ae.intro (by apply Q3) ?_<;>simp only[go_sem,ag])
  all_goals simp[CV,g']
 |false=>
  have g':i64.wrap (i64.wrap (jq a+jq b)+jq c)=e:=by have:=c2 ag;omega
  try simp only[go_sem]
  repeat'(first|(refine ae.intro (by first|apply Q3|(apply IM<;>exact a6)) ?_<;>simp only[go_sem,I,ag])|(with_reducible refine az ?_)|fail)
  refine cr.intro (fun i:Nat=>⟨(aA 3 (.i e::aA 4 (.d (.bool false)::.sl 0 0 (fg a ((b++c).take i)).length::aA 17 (.sl 1 0 (b++c).length::.d (.int .i64 (b++c).length)::.i i::aA 17 [])))),[.ah 2 ((fg a ((b++c).take i)).map J.enc) true,.ah 2 ((b++c).map J.enc) true]⟩)
   (fun i=>(b++c).length-i) (fun i=>i≤(b++c).length) 0 [0,2] ω ?_ ?_
  ·simp only[go_sem];simp[fg]
  ·intro i hi;generalize AV:b++c=l at *;have hl:l.length=b.length+c.length:=by rw[←AV];simp
   have g6:=qQ (l.take i) a;have cM:(l.take i).length=i:=by simp;omega
   by_cases h1:i<l.length
   ·have ax:=bC (p:=(i:Int)<(l.length:Int)) ω;have aB:=cq J.enc l i h1;have hw:=dX (i:=i) (m:=524288) ω (by simp[maxLen]);have dx:=Bh a l i h1;generalize hq:fg a (l.take i)=hF at *
    try simp only[go_sem,I,aE,aB,J.enc,ax]
    repeat'(first|(refine ae.intro (by(apply Zm<;>exact a6)) ?_<;>simp only[go_sem,I])|(with_reducible refine az ?_)|fail)
    refine bE.intro (i+1) [3,1] ω ω ?_;simp only[go_sem,hw,dx];simp
   ·have ax:=bm (p:=(i:Int)<(l.length:Int)) ω;obtain rfl:i=l.length:=by omega
    try simp only[go_sem,I,ax,d3]
    repeat'((first|refine ae.intro (by apply Q3) ?_|refine ay.intro (by apply Rl) ?_|refine bw ?_)<;>simp only[go_sem,I])
    all_goals(refine gd ?_;simp[CV,AV,g'])
def EL(s:au):Int:=if s.aW=0 then -1 else s.av.cu
def LK(s:au):Bool:=CV s.aP s.aM s.a0 s.av.cu&&decide (rk s.a0 0=s.av.base)&&!xd s.aM s.cw&&!xd s.a0 s.cw&&decide (s.c4=0)&&decide (s.br=EL s)&&decide (s.b0=Bj s)
def yy(s:au):Bool:=j' s&&(if km s then LJ s else LK s)
theorem Z'(a' bf bg a_:Int)(a7:List Int)(aF aD aI:List J)(bc a9 a8 bh:Int)(hc:aF.length+aD.length+aI.length≤524288):aL 189 [.agg [.int .i64 a',.int .i64 bf,.int .i64 bg,.int .i64 a_,.sl 1 (a7.map aR),.sl 2 (aF.map J.enc),.sl 2 (aD.map J.enc),.sl 2 (aI.map J.enc),.int .i64 bc,.int .i64 a9,.int .i64 a8,.int .i64 bh]] [.one (.bool (yy (⟨a',⟨bf,bg,a_,a7⟩,aF,aD,aI,bc,a9,a8,bh⟩:au)))]:=by
 refine a3 161 func189 call189 [.tmp 2] ?_;intro ok;refine yn fun akK LG=>?_;simp only[go_sem];refine LG _ (yn fun K2 LH=>?_)
 try simp only[go_sem]
 repeat'((first|refine ae.intro (by apply Q1) ?_|refine ay.intro (by first|apply Bd|apply jt|apply pt) ?_|refine bw ?_)<;>simp only[go_sem])
 refine bP (fun h0=>?_) (fun h0=>?_)
 ·simp only[go_sem];have:j' (⟨a',⟨bf,bg,a_,a7⟩,aF,aD,aI,bc,a9,a8,bh⟩:au)=false:=by
   rw[Bool.eq_false_iff];intro g;simp[j']at h0 g;simp_all
  simp[yy,this]
 ·have er:j' (⟨a',⟨bf,bg,a_,a7⟩,aF,aD,aI,bc,a9,a8,bh⟩:au)=true:=by
   simp[j']at h0⊢;simp_all
  simp only[go_sem];refine LH _ (yn fun akM LI=>?_)
  try simp only[go_sem]
  repeat'(refine bw ?_<;>simp only[go_sem])
  refine bP (fun bj=>?_) (fun bj=>?_)
  ·have fz:km (⟨a',⟨bf,bg,a_,a7⟩,aF,aD,aI,bc,a9,a8,bh⟩:au)=true:=by simpa [km,d5]using bj
   simp only[go_sem,I]
   try simp only[go_sem,I]
   repeat'(refine bw ?_<;>simp only[go_sem,I])
   all_goals(refine gd ?_;simp[yy,er,fz,LJ];grind)
  ·have fz:km (⟨a',⟨bf,bg,a_,a7⟩,aF,aD,aI,bc,a9,a8,bh⟩:au)=false:=by simpa [km,d5]using bj
   simp only[go_sem];refine LI _ ?_
   cases ag:decide (a9=0)with
   |true=>
    have g':=cQ ag;clear LG LH LI
    try simp only[go_sem,ag]
    repeat'((first|refine ay.intro (by first|(apply Z_<;>exact a6)|apply ZM|apply Rl|apply EK) ?_|refine f' ?_|refine bo Rk χ ψ ?_)<;>simp only[go_sem])
    all_goals(subst g';refine gd ?_;simp[yy,er,fz,LK,EL,fJ])
   |false=>
    have g':¬a9=0:=c2 ag
    try simp only[go_sem,ag]
    repeat'((first|refine ay.intro (by first|(apply Z_<;>exact a6)|apply ZM|apply Rl|apply EK) ?_|refine f' ?_|refine bo Rk χ ψ ?_)<;>simp only[go_sem])
    all_goals(refine gd ?_;simp[yy,er,fz,LK,EL,g',fJ])
def wo(s:au):Prop:=∀r,r∈s.aP∨r∈s.aM∨r∈s.a0→r.high≤s.av.cu
theorem Rn{xs:List J}{p:Int}(h:cY xs=true):below xs p=!xd xs p:=by
 have hs:=(h_ xs).1 h;rw[Bool.eq_iff_iff];unfold below xd
 cases hl:xs.getLast? with
 |none=>rw[List.getLast?_eq_none_iff.1 hl];simp
 |some r=>
  have hr:=List.mem_of_getLast? hl;simp only[List.all_eq_true,b8,Bool.not_eq_true',eG,Int.not_lt];constructor
  ·intro g;exact g r hr
  ·intro g x hx;obtain⟨i,hi,rfl⟩:=List.getElem_of_mem hx;have Rm:xs.getLast?=some (xs[xs.length-1]' ω):=by rw[List.getLast?_eq_getElem?,cD ω]
   have Bw:xs[xs.length-1]' ω=r:=bd (Rm.symm.trans hl);by_cases he:i=xs.length-1
   ·subst he;rw[Bw];exact g
   ·have h1:=(List.pairwise_iff_getElem.1 hs.2) i (xs.length-1) hi ω ω;have h2:=(gI _).1 (hs.1 _ hr);rw[Bw]at h1;omega
theorem Ro{E:Int}:∀(ys xs:List J),cY xs=true→(∀y∈ys,dj y=true)→(∀x∈xs,x.high≤E)→(∀y∈ys,y.high≤E)→∀z∈fg xs ys,z.high≤E
 |[],xs,_,_,hx,_,z,hz=>hx z hz
 |y::ys,xs,h,hy,hx,hh,z,hz=>by
  have h1:=Kw h (hy y ξ);refine Ro ys (gT xs y) h1 (fun w hw=>hy w (by simp[hw])) ?_ (fun w hw=>hh w (by simp[hw])) z hz;have:=Mn E xs y ?_ ?_
  ·intro w hw;exact(this w hw).2.2
  ·have g:=(gI _).1 (hy y ξ);have:=hh y ξ;exact⟨by omega,by omega,by omega⟩
  ·intro w hw;have g:=(gI _).1 (((h_ xs).1 h).1 w hw);have:=hx w hw;exact⟨by omega,by omega,by omega⟩
theorem Rp{s:au}(hn:wo s):e1 s=yy s:=by
 unfold e1 yy
 cases er:j' s with
 |false=>rfl
 |true=>
  simp only[Bool.true_and]
  cases bj:km s with
  |true=>rfl
  |false=>
   simp only[Bool.false_eq_true,if_false];have hh:=er;simp only[j',bW,fJ]at hh;obtain⟨h1,h2,ao,aN,b6,dP,gY⟩:=hh;have hg:=qz h1;have hf:=(h_ s.aM).1 ao;have ha:=(h_ s.a0).1 aN;have aaa:=H5 s.aM s.aP h2 hf.1;have LB:=H5 s.a0 _ aaa.1 ha.1;have N2:fg s.aP (s.aM++s.a0)=l' s:=by unfold l' fg;rw[List.foldl_append]
   have LL:=Ro (E:=s.av.cu) s.aM s.aP h2 hf.1 (fun x hx=>hn x (.inl hx)) (fun x hx=>hn x (.inr (.inl hx)));have hC:=Ro (E:=s.av.cu) s.a0 _ aaa.1 ha.1 LL (fun x hx=>hn x (.inr (.inr hx)));have ai:xd (l' s) s.av.cu=false:=by
    have e9:=Rn (p:=s.av.cu) LB.1;have j4:below (l' s) s.av.cu=true:=by
     unfold below;rw[List.all_eq_true];intro x hx;exact bC (hC x hx)
    unfold l' at j4⊢;rw[j4]at e9;simpa using e9.symm
   have akN:Bj s=lg s:=by
    simp only[ca,bW,b8]at gY;unfold Bj lg;by_cases ep:s.aW=3∧s.av.base=s.av.cu
    ·rw[if_pos ep,if_pos ep]
    ·rw[if_neg ep,if_neg ep];have:((s.aW=2∨s.aW=3)∨(s.aW=1∧s.b0=2))↔(1<s.aW∨(s.aW=1∧s.b0=2)):=by omega
     simp only[this]
   have QG:zy s=decide (s.br=EL s):=by
    have:=hg.2.2.2.1;have:=hg.2.2.2.2.1;unfold zy EL;by_cases ep:s.aW=0<;>by_cases eE:s.br=-1<;>simp[ep,eE]<;>omega
   have akO:oj s=(CV s.aP s.aM s.a0 s.av.cu&&decide (rk s.a0 0=s.av.base)&&decide (s.c4=0)):=by
    unfold oj CV yi;rw[N2,ai];have akP:jq (l' s)=s.av.cu→0<s.av.cu→p2 (l' s)=s.av.cu:=YT LB.1 hC;rw[Bool.eq_iff_iff];simp only[bW,b8,Bool.not_eq_true',Bool.and_eq_false_iff,eG,cR,and_true];constructor
    ·rintro⟨⟨⟨⟨a,b⟩,c⟩,d⟩,e⟩;exact⟨⟨⟨b,a⟩,d⟩,e⟩
    ·rintro⟨⟨⟨b,a⟩,d⟩,e⟩;refine⟨⟨⟨⟨a,b⟩,?_⟩,d⟩,e⟩;by_cases c:0<s.av.cu
     ·right;intro g;exact g (akP a c)
     ·left;exact c
   unfold LK;rw[akO,QG,akN,Rn ao,Rn aN]
   cases CV s.aP s.aM s.a0 s.av.cu<;>cases decide (rk s.a0 0=s.av.base)<;>cases decide (s.c4=0)<;>cases xd s.aM s.cw<;>cases xd s.a0 s.cw<;>cases decide (s.br=EL s)<;>simp
def va(c:aU):Prop:=0≤c.aH∧c.aH≤1000∧c.aH+(c.data.length:Int)≤1000
theorem R8{n:Int}{xs:List aU}{off:Int}{data:List UInt8}(h:∀c∈xs,va c)(aJ:0≤off)(jd:off+(data.length:Int)≤1000):∀c∈oX n xs off data,va c:=by
 unfold oX;split
 ·rename_i hk;intro c hc;obtain⟨r,hr,rfl⟩:=List.mem_map.1 hc;simp only[De,bW,b8]at hk;have xg:0≤p9 n off:=by unfold p9;split<;>omega
  have hin:=Mn 1000 (mq xs) ⟨p9 n off,off+data.length⟩ ⟨xg,by show p9 n off≤1000;omega,jd⟩ (fun x hx=>by
   obtain⟨d,hd,rfl⟩:=List.mem_map.1 hx;exact h d hd) r hr
  simp only[zW]at hin;refine⟨hin.1,hin.2.1,?_⟩
  show r.low+((py xs off data r.low (r.high-r.low).toNat).length:Int)≤1000
  rw[Mo];omega
 ·exact h
theorem R9(n:Int)(xs:List aU)(off:Int)(data:List UInt8):(oX n xs off data).length≤xs.length+1:=by
 unfold oX;split
 ·rw[I];have:=Mp (mq xs) ⟨p9 n off,off+data.length⟩;rw[Iv]at this;exact this
 ·omega
theorem aaT{n:Int}{xs:List aU}{ck:Int}(h:∀c∈xs,va c):∀c∈vb n xs ck,va c:=by
 unfold vb;split
 ·exact h
 ·rename_i h1;split
  ·exact fun c hc=>h c (List.mem_of_mem_drop hc)
  ·rename_i h2;have hr:k7 n xs≠0:=by unfold n4 at h1;omega
   obtain⟨_,hlt,aJ,wc,E2⟩:=Mq hr;have hk:n4 n xs ck≤xs[0].data.length:=by unfold n4;omega
   have hx:=h xs[0] (eS hlt);intro c hc;rcases List.mem_cons.1 hc with rfl|hc
   ·simp only[va]at hx⊢;rw[E2,List.length_drop];omega
   ·exact h c (List.mem_of_mem_drop hc)
theorem aaU(n:Int)(xs:List aU)(ck:Int):(vb n xs ck).length≤xs.length:=by
 unfold vb;split
 ·omega
 ·rename_i h1;have hr:k7 n xs≠0:=by unfold n4 at h1;omega
  obtain⟨_,hlt,_⟩:=Mq hr;split
  ·simp
  ·simp;omega
def QW:List (List bR):=cS 46 [8862938119652501095928,8862938119652501095926,8862938119652501095920,8862938119652501095902,8862938119652501095848,8862938119652501095686,8862938119652501095200,8862938119652501093742,8862938119652501089368,8862938119652501076246,8862938119652501036880,8862938119652481786906,8862938119652481432612,8862938119652480369730,8862938119652498615871,8862938119652489049933,8862938119652458049208,8862938119652371955766,8862938119652113675440,8862938119651338834462,8862938119649014311528,8862938119642040742726,8862938119621120036320,8862938119558357917102,8862938119370071559448,8862938118805212486486,8862938117110635267600,8862938112026903610942,8862938096775708640968,8862935580328538595258,8862935443067783865492,8862937776500614271514,8862936541153821703620,8862932560591934540406,8862921442470801429360,8862888088107402096222,8862788025017204096808,8862487835746610098566,8861587267934828103840,8858885564499482119662,8850780454193444167128,8826465123275330309526,8753519130520988736720,8534681152257964018302,7878167217468889863048,5908625413101667397286]
def Zn:List (List bR):=cS 16 [43046720,43046718,43046712,43046694,42309621,42309459,42308973,42336999,42332625,42319503,42279084,42958107,42603813,41452398,38263752,28697814]
attribute [go_sem] QW Zn
def Be(r:b'):Bool:=kd r.bV&&bQ r.gw&&!decide (r.gw<p8 r.bV)&&bQ r.c4&&!(decide (r.br≠-1)&&decide (r.br<r.gw))&&!decide (4611686018427387903<r.br)&&!decide (r.br < -1)
def EF(r:b'):Bool:=decide (r.br≠-1)&&decide (i64.wrap (r.bV.next+(k7 r.bV.next r.bV.cp:Int))=r.br)
def BZ(r:b'):Bool:=
 if r.b0=0 then decide (r.br=-1)&&decide (r.c4=0)
 else if r.b0=1 then decide (r.br≠-1)&&!EF r&&decide (r.c4=0)
 else if r.b0=2 then EF r&&decide (r.c4=0)
 else if r.b0=3 then EF r&&decide ((r.bV.cp.length:Int)=0)&&decide (r.c4=0)
 else if r.b0=4∨r.b0=5 then decide (r.br≠-1)&&decide (r.gw=r.br)&&decide ((r.bV.cp.length:Int)=0)
 else false
def kC(r:b'):Bool:=Be r&&BZ r
theorem aj6(r:b'):(bif bif bif bif bif bif !kd r.bV then true else !bQ r.gw then true else decide (r.gw<p8 r.bV)then true else !bQ r.c4 then true else bif decide (r.br≠-1)then decide (r.br<r.gw)else false then true else decide (4611686018427387903<r.br)then true else decide (r.br < -1))=!Be r:=by
 unfold Be
 cases kd r.bV<;>cases bQ r.gw<;>cases decide (r.gw<p8 r.bV)<;>cases bQ r.c4<;>cases decide (r.br≠-1)<;>cases decide (r.br<r.gw)<;>cases decide (4611686018427387903<r.br)<;>cases decide (r.br < -1)<;>rfl
theorem yl(dH du:Int)(cZ:List aU)(dT dO dQ:Int)(hb:∀c∈cZ,c.data.length≤1048576)(hx:cZ.length≤1048576):aL 243 [.agg [.int .i64 dH,.int .i64 du,.sl 2 (cZ.map aU.enc),.int .i64 dT,.int .i64 dO,.int .i64 dQ]] [.one (.bool (kC (⟨dH,⟨du,cZ⟩,dT,dO,dQ⟩:b')))]:=by
 refine a3 134 func243 call243 [.tmp 2] ?_;intro _;have ai:=aj6 (⟨dH,⟨du,cZ⟩,dT,dO,dQ⟩:b')
 cases er:Be (⟨dH,⟨du,cZ⟩,dT,dO,dQ⟩:b')with
 |false=>
  rw[er]at ai
  try simp only[go_sem]
  repeat'((first|refine ay.intro (by first|(apply p7<;>exact a6)|apply jF|(apply R5<;>exact a6)) ?_|refine f' ?_|refine bo QW χ ψ ?_)<;>simp only[go_sem])
  rw[ai];simp only[go_sem,cR];simp[kC,er]
 |true=>
  rw[er]at ai
  try simp only[go_sem]
  repeat'((first|refine ay.intro (by first|(apply p7<;>exact a6)|apply jF|(apply R5<;>exact a6)) ?_|refine f' ?_|refine bo QW χ ψ ?_)<;>simp only[go_sem])
  rw[ai];simp only[go_sem,bN]
  try simp only[go_sem,I]
  repeat'((first|refine ay.intro (by(apply E0<;>exact a6)) ?_|refine bw ?_|refine f' ?_|refine bo Zn χ ψ ?_|refine bP (fun h=>?_) (fun h=>?_))<;>simp only[go_sem,I])
  all_goals(rw[show kC (⟨dH,⟨du,cZ⟩,dT,dO,dQ⟩:b')=BZ (⟨dH,⟨du,cZ⟩,dT,dO,dQ⟩:b')from by unfold kC;rw[er];rfl];clear er ai;simp only[b8,eG]at *;first|(exfalso;omega)|(simp[BZ,EF, *]))
def z4:b':=⟨0,⟨0,[]⟩,-1,0,0⟩
theorem aj7 :aL 279 [] [.agg (b'.enc (z4))]:=by
 refine a3 2 func279 call279 [.cell 0 62] ?_;intro _
 try simp only[go_sem]
 all_goals simp[z4]
def iq(r:b')(e:Int):Int:=if kC r&&bQ e then dp 0 (i64.wrap (e-r.gw))else 0
theorem WL(dH du:Int)(cZ:List aU)(dT dO dQ e:Int)(hb:∀c∈cZ,c.data.length≤1048576)(hx:cZ.length≤1048576):aL 308 [.agg [.int .i64 dH,.int .i64 du,.sl 2 (cZ.map aU.enc),.int .i64 dT,.int .i64 dO,.int .i64 dQ],.one (.int .i64 e)] [.one (.int .i64 (iq (⟨dH,⟨du,cZ⟩,dT,dO,dQ⟩:b') e))]:=by
 refine a3 18 func308 call308 [.tmp 4] ?_;intro _
 try simp only[go_sem]
 repeat'((first|refine ae.intro (by(apply yl<;>exact a6)) ?_|refine ay.intro (by apply jF) ?_|refine bw ?_|refine bP (fun h=>?_) (fun h=>?_))<;>simp only[go_sem])
 all_goals(cases h1:kC (⟨dH,⟨du,cZ⟩,dT,dO,dQ⟩:b')<;>cases h2:bQ e<;>simp_all [iq,dp])
def QX(r:b'):Bool:=kC r&&(decide (r.b0=3)||decide (r.b0=5))
theorem aj8(dH du:Int)(cZ:List aU)(dT dO dQ:Int)(hb:∀c∈cZ,c.data.length≤1048576)(hx:cZ.length≤1048576):aL 315 [.agg [.int .i64 dH,.int .i64 du,.sl 2 (cZ.map aU.enc),.int .i64 dT,.int .i64 dO,.int .i64 dQ]] [.one (.bool (QX (⟨dH,⟨du,cZ⟩,dT,dO,dQ⟩:b')))]:=by
 refine a3 15 func315 call315 [.tmp 2] ?_;intro _
 try simp only[go_sem]
 repeat'((first|refine ae.intro (by(apply yl<;>exact a6)) ?_|refine bw ?_)<;>simp only[go_sem])
 all_goals(refine gd ?_;simp[QX])
def ym(r:b')(e:Int)(f:Bool):Int:=
 if((decide (r.br≠-1)&&(decide (r.br<e)||(f&&decide (e≠r.br))))||(f&&decide (e<r.gw)))=true then 6 else 0
theorem Zo(dH du:Int)(cZ:List aU)(dT dO dQ e:Int)(f:Bool)(_:cZ.length≤1048576):aL 306 [.agg [.int .i64 dH,.int .i64 du,.sl 2 (cZ.map aU.enc),.int .i64 dT,.int .i64 dO,.int .i64 dQ],.one (.int .i64 e),.one (.bool f)] [.one (.int .i64 (ym (⟨dH,⟨du,cZ⟩,dT,dO,dQ⟩:b') e f))]:=by
 refine a3 34 func306 call306 [.tmp 6] ?_;intro _
 try simp only[go_sem]
 repeat'((first|refine bw ?_|refine bP (fun h=>?_) (fun h=>?_))<;>simp only[go_sem])
 ·simp only[di,d5]at h;unfold ym;rw[if_pos h]
 ·simp only[di,d5]at h;unfold ym;rw[if_neg (by rw[h];simp)]
def EG(r:b')(m:Int):Int:=if r.b0=2∧r.bV.next+(n4 r.bV.next r.bV.cp m:Int)=r.br then 3 else r.b0
def x8(r:b')(m:Int):b':=
 if kC r then(if r.b0=4 then {r with b0:=5}else {r with b0:=EG r m,bV:=⟨r.bV.next+(n4 r.bV.next r.bV.cp m:Int),vb r.bV.next r.bV.cp m⟩})else r
def w5(r:b')(m:Int):List UInt8:=if kC r&&!decide (r.b0=4)then By r.bV.next r.bV.cp m else []
theorem agN(dH du:Int)(cZ:List aU)(dT dO dQ m:Int)(hb:∀c∈cZ,c.data.length≤1048576)(hx:cZ.length≤1048576):aL 253 [.agg [.int .i64 dH,.int .i64 du,.sl 2 (cZ.map aU.enc),.int .i64 dT,.int .i64 dO,.int .i64 dQ],.one (.int .i64 m)] [.one (.str (w5 (⟨dH,⟨du,cZ⟩,dT,dO,dQ⟩:b') m)),.agg (b'.enc (x8 (⟨dH,⟨du,cZ⟩,dT,dO,dQ⟩:b') m))]:=by
 refine a3 42 func253 call253 [.tmp 4,.cell 5 62] ?_;intro _;have abC:=aa0 du cZ m hb hx
 cases aS:kC (⟨dH,⟨du,cZ⟩,dT,dO,dQ⟩:b')with
 |false=>
  try simp only[go_sem]
  repeat'(first|((first|refine ae.intro (by first|assumption|(apply z9<;>exact a6)|(apply yl<;>exact a6)) ?_|refine ay.intro ‹_› ?_|refine bo [[.post,.dN,.post],[.dN,.post,.post],[.pre,.pre,.post]] χ ψ ?_)<;>simp only[go_sem,I,aS])|(with_reducible refine az ?_)|fail)
  all_goals simp[x8,w5,aS]
 |true=>
  by_cases aN:dH=4
  ·have ag:=bC (p:=dH=4) aN;have bj:x8 (⟨dH,⟨du,cZ⟩,dT,dO,dQ⟩:b') m={(⟨dH,⟨du,cZ⟩,dT,dO,dQ⟩:b')with b0:=5}:=by unfold x8;rw[if_pos aS];exact if_pos aN
   have a1:w5 (⟨dH,⟨du,cZ⟩,dT,dO,dQ⟩:b') m=[]:=by unfold w5;rw[aS];simp[aN]
   try simp only[go_sem]
   repeat'(first|((first|refine ae.intro (by first|assumption|(apply z9<;>exact a6)|(apply yl<;>exact a6)) ?_|refine ay.intro ‹_› ?_|refine bo [[.post,.dN,.post],[.dN,.post,.post],[.pre,.pre,.post]] χ ψ ?_)<;>simp only[go_sem,I,aS,ag])|(with_reducible refine az ?_)|fail)
   all_goals(rw[bj,a1];try simp[outOA,gW])
  ·have ag:=bm (p:=dH=4) aN;have bj:x8 (⟨dH,⟨du,cZ⟩,dT,dO,dQ⟩:b') m={(⟨dH,⟨du,cZ⟩,dT,dO,dQ⟩:b')with b0:=EG (⟨dH,⟨du,cZ⟩,dT,dO,dQ⟩:b') m,bV:=⟨du+(n4 du cZ m:Int),vb du cZ m⟩}:=by unfold x8;rw[if_pos aS];exact if_neg aN
   have a1:w5 (⟨dH,⟨du,cZ⟩,dT,dO,dQ⟩:b') m=By du cZ m:=by unfold w5;rw[aS];simp[aN]
   try simp only[go_sem]
   repeat'(first|((first|refine ae.intro (by first|assumption|(apply z9<;>exact a6)|(apply yl<;>exact a6)) ?_|refine ay.intro ‹_› ?_|refine bw ?_|refine bo [[.post,.dN,.post,.post],[.dN,.post,.dN,.post],[.pre,.dN,.post,.post],[.pre,.pre,.pre,.post]] χ ψ ?_|refine bP (fun h=>?_) (fun h=>?_))<;>simp only[go_sem,I,aS,ag])|(with_reducible refine az ?_)|fail)
   ·simp only[di,bW,b8]at h;have hq:EG (⟨dH,⟨du,cZ⟩,dT,dO,dQ⟩:b') m=3:=by unfold EG;exact if_pos h
    rw[bj,a1,hq]
    try simp[outOA,gW]
   ·have hq:EG (⟨dH,⟨du,cZ⟩,dT,dO,dQ⟩:b') m=dH:=by
     unfold EG;refine if_neg fun g=>?_;rw[bC g.1,bC g.2]at h;cases h
    rw[bj,a1,hq]
    try simp[outOA,gW]
def HW(r:b')(c f:Int):Bool:=kC r&&bQ c&&bQ f
def x_(r:b')(c f:Int):Int:=if HW r c f then ym r f true else 7
def CP(r:b')(c f:Int):Bool:=HW r c f&&!(decide (ym r f true≠0)||decide (1<r.b0))
def w6(r:b')(c f:Int):b':=if CP r c f then⟨4,⟨r.bV.next,[]⟩,f,f,c⟩else r
theorem agO(dH du:Int)(cZ:List aU)(dT dO dQ c f:Int)(hb:∀c∈cZ,c.data.length≤1048576)(hx:cZ.length≤1048576):aL 291 [.agg [.int .i64 dH,.int .i64 du,.sl 2 (cZ.map aU.enc),.int .i64 dT,.int .i64 dO,.int .i64 dQ],.one (.int .i64 c),.one (.int .i64 f)] [.agg (b'.enc (w6 (⟨dH,⟨du,cZ⟩,dT,dO,dQ⟩:b') c f)),.one (.int .i64 (x_ (⟨dH,⟨du,cZ⟩,dT,dO,dQ⟩:b') c f))]:=by
 refine a3 46 func291 call291 [.cell 6 62,.tmp 7] ?_;intro _
 cases c3:HW (⟨dH,⟨du,cZ⟩,dT,dO,dQ⟩:b') c f with
 |false=>
  have b7:CP (⟨dH,⟨du,cZ⟩,dT,dO,dQ⟩:b') c f=false:=by simp[CP,c3]
  have ai:(bif bif !kC (⟨dH,⟨du,cZ⟩,dT,dO,dQ⟩:b')then true else !bQ c then true else !bQ f)=true:=by
   have:=c3;unfold HW at this
   revert this;cases kC (⟨dH,⟨du,cZ⟩,dT,dO,dQ⟩:b')<;>cases bQ c<;>cases bQ f<;>simp
  try simp only[go_sem]
  repeat'((first|refine ae.intro (by first|(apply z9<;>exact a6)|(apply yl<;>exact a6)) ?_|refine ay.intro (by apply jF) ?_|refine bw ?_)<;>simp only[go_sem,I])
  rw[ai];simp only[go_sem,I];simp[w6,b7,x_,c3]
 |true=>
  have ai:(bif bif !kC (⟨dH,⟨du,cZ⟩,dT,dO,dQ⟩:b')then true else !bQ c then true else !bQ f)=false:=by
   have:=c3;unfold HW at this
   revert this;cases kC (⟨dH,⟨du,cZ⟩,dT,dO,dQ⟩:b')<;>cases bQ c<;>cases bQ f<;>simp
  try simp only[go_sem]
  repeat'((first|refine ae.intro (by first|(apply z9<;>exact a6)|(apply yl<;>exact a6)) ?_|refine ay.intro (by apply jF) ?_|refine bw ?_)<;>simp only[go_sem,I])
  rw[ai];simp only[go_sem]
  try simp only[go_sem,I]
  repeat'((first|refine ae.intro (by(apply Zo<;>exact a6)) ?_|refine bw ?_)<;>simp only[go_sem])
  refine bP (fun h=>?_) (fun h=>?_)
  ·have b7:CP (⟨dH,⟨du,cZ⟩,dT,dO,dQ⟩:b') c f=false:=by unfold CP;simp only[d5]at h;rw[c3,h];rfl
   simp only[go_sem,I];simp[w6,b7,x_,c3]
  ·have b7:CP (⟨dH,⟨du,cZ⟩,dT,dO,dQ⟩:b') c f=true:=by unfold CP;simp only[d5]at h;rw[c3,h];rfl
   have h0:ym (⟨dH,⟨du,cZ⟩,dT,dO,dQ⟩:b') f true=0:=by
    simp only[d5,Bool.or_eq_false_iff,eG]at h;omega
   simp only[go_sem]
   try simp only[go_sem,I]
   all_goals simp[w6,b7,x_,c3,h0]
def Zp:List (List bR):=cS 6 [692,690,724,706,648,486]
def QY:List (List bR):=cS 37 [450283905890997362,450283905890997360,450283905890997354,450283905890997336,450283905890997282,450283905890970876,450283905890970390,450283905890968932,450283905890993961,450283905890980839,450283905890938314,450283905890820216,450283905890465922,450283905889403040,450283905886214394,450283905876648456,450283905847950642,450283905761857200,450283905503576874,450283904728735896,450283902404212962,450283895430644160,450283874509937754,450283811747818536,450283623461460882,450283058602387920,450281364025169034,450276280293512376,450261029098542402,447744581928496692,447607321173766926,449940754004172948,448705407211605054,444724845324441840,433606724191330794,400252360791997656,300189270593998242]
def Zq:List (List bR):=cS 12 [531440,531438,531432,531414,522612,522450,521964,530307,525933,511758,472392,354294]
attribute [go_sem] Zp QY Zq
theorem aj9(n:Int)(xs:List aU)(hb:∀c∈xs,c.data.length≤1048576)(hx:xs.length≤1048576):aL 240 [.agg [.int .i64 n,.sl 2 (xs.map aU.enc)]] [.one (.int .i64 (i64.wrap (n+(k7 n xs:Int))))]:=by
 refine a3 8 func240 call240 [.tmp 2] ?_;intro _
 try simp only[go_sem]
 repeat'((first|refine ay.intro (by(apply aaR<;>exact a6)) ?_|refine bo Zp χ ψ ?_)<;>simp only[go_sem])
 all_goals simp
def Lx(r:b'):Bool:=kd r.bV&&!decide (r.gw<p8 r.bV)&&bQ r.gw&&bQ r.c4&&!(decide (r.br≠-1)&&!ca r.br r.gw 4611686018427387903)
theorem aka(r:b'):(bif bif bif bif !kd r.bV then true else decide (r.gw<p8 r.bV)then true else !bQ r.gw then true else !bQ r.c4 then true else bif decide (r.br≠-1)then !ca r.br r.gw 4611686018427387903 else false)=!Lx r:=by
 unfold Lx
 cases kd r.bV<;>cases bQ r.gw<;>cases decide (r.gw<p8 r.bV)<;>cases bQ r.c4<;>cases decide (r.br≠-1)<;>cases ca r.br r.gw 4611686018427387903<;>rfl
theorem akb(r:b'):Lx r=Be r:=by
 rw[Bool.eq_iff_iff];simp only[Lx,Be,bQ,ca,bW,Bool.not_eq_true',b8,eG,Bool.and_eq_false_iff,Bool.not_eq_false'];constructor
 ·rintro⟨⟨⟨⟨h1,h2⟩,ao⟩,aN⟩,b6⟩;refine⟨⟨⟨⟨⟨⟨h1,ao⟩,h2⟩,aN⟩,?_⟩,?_⟩,?_⟩<;>omega
 ·rintro⟨⟨⟨⟨⟨⟨h1,ao⟩,h2⟩,aN⟩,b6⟩,dP⟩,gY⟩;refine⟨⟨⟨⟨h1,h2⟩,ao⟩,aN⟩,?_⟩;omega
theorem akc(dH du:Int)(cZ:List aU)(dT dO dQ:Int)(hb:∀c∈cZ,c.data.length≤1048576)(hx:cZ.length≤1048576):aL 190 [.agg [.int .i64 dH,.int .i64 du,.sl 2 (cZ.map aU.enc),.int .i64 dT,.int .i64 dO,.int .i64 dQ]] [.one (.bool (kC (⟨dH,⟨du,cZ⟩,dT,dO,dQ⟩:b')))]:=by
 refine a3 116 func190 call190 [.tmp 2] ?_;intro _;have ai:=aka (⟨dH,⟨du,cZ⟩,dT,dO,dQ⟩:b');rw[akb]at ai
 cases er:Be (⟨dH,⟨du,cZ⟩,dT,dO,dQ⟩:b')with
 |false=>
  rw[er]at ai
  try simp only[go_sem]
  repeat'((first|refine ay.intro (by first|(apply yK<;>exact a6)|(apply R4<;>exact a6)|apply pt|apply jt) ?_|refine f' ?_|refine bo QY χ ψ ?_)<;>simp only[go_sem])
  rw[ai];simp only[go_sem,cR];simp[kC,er]
 |true=>
  have h0:0≤dO:=by
   have:=er;simp only[Be,bQ,ca,bW,b8,fJ]at this;exact this.2.1
  rw[er]at ai
  try simp only[go_sem]
  repeat'((first|refine ay.intro (by first|(apply yK<;>exact a6)|(apply R4<;>exact a6)|apply pt|apply jt) ?_|refine f' ?_|refine bo QY χ ψ ?_)<;>simp only[go_sem])
  rw[ai];simp only[go_sem,bN]
  try simp only[go_sem,I]
  repeat'((first|refine ay.intro (by(apply aj9<;>exact a6)) ?_|refine bw ?_|refine f' ?_|refine bo Zq χ ψ ?_|refine bP (fun h=>?_) (fun h=>?_))<;>simp only[go_sem,I])
  all_goals(rw[show kC (⟨dH,⟨du,cZ⟩,dT,dO,dQ⟩:b')=BZ (⟨dH,⟨du,cZ⟩,dT,dO,dQ⟩:b')from by unfold kC;rw[er];rfl];clear er ai;simp only[b8,eG]at *;first|(exfalso;omega)|(refine gd ?_;simp[BZ,EF, *];done)|(refine gd ?_;simp[BZ,EF, *];grind))
def RH(s:af):Bool:=!s.fF||decide (s.ak.b0=3)||decide (s.ak.b0=5)
theorem alg(mv mw mx my mz:Int)(lY:List Int)(ky kz kA:List J)(mA mB mC mD mE mF mG mH mI mJ:Int)(jh:List aU)(mK mL mM mN mO mP mQ mR mS mT:Int)(mU mV mW mX mY mZ m0:Bool)(m1:Int)(m2:Bool):aL 311 [.agg [.int .i64 mv,.int .i64 mw,.int .i64 mx,.int .i64 my,.int .i64 mz,.sl 1 (lY.map aR),.sl 2 (ky.map J.enc),.sl 2 (kz.map J.enc),.sl 2 (kA.map J.enc),.int .i64 mA,.int .i64 mB,.int .i64 mC,.int .i64 mD,.int .i64 mE,.int .i64 mF,.int .i64 mG,.int .i64 mH,.int .i64 mI,.int .i64 mJ,.sl 2 (jh.map aU.enc),.int .i64 mK,.int .i64 mL,.int .i64 mM,.int .i64 mN,.int .i64 mO,.int .i64 mP,.int .i64 mQ,.int .i64 mR,.int .i64 mS,.int .i64 mT,.bool mU,.bool mV,.bool mW,.bool mX,.bool mY,.bool mZ,.bool m0,.int .i64 m1,.bool m2]] [.one (.bool (RH (⟨mv,⟨mw,⟨mx,my,mz,lY⟩,ky,kz,kA,mA,mB,mC,mD⟩,⟨mE,mF,mG,mH⟩,⟨mI,⟨mJ,jh⟩,mK,mL,mM⟩,⟨mN,mO,mP,mQ,mR,mS⟩,⟨mT,mU⟩,mV,mW,mX,mY,mZ,m0,m1,m2⟩:af)))]:=by
 refine a3 18 func311 call311 [.tmp 2] ?_;intro _
 try simp only[go_sem]
 repeat'(refine bw ?_<;>simp only[go_sem])
 all_goals(refine gd ?_;simp[RH])
def RI(s:af):Bool:=!s.gO||QX s.a2
theorem alh(mv mw mx my mz:Int)(lY:List Int)(ky kz kA:List J)(mA mB mC mD mE mF mG mH mI mJ:Int)(jh:List aU)(mK mL mM mN mO mP mQ mR mS mT:Int)(mU mV mW mX mY mZ m0:Bool)(m1:Int)(m2:Bool)(hb:∀c∈jh,c.data.length≤1048576)(hx:jh.length≤1048576):aL 312 [.agg [.int .i64 mv,.int .i64 mw,.int .i64 mx,.int .i64 my,.int .i64 mz,.sl 1 (lY.map aR),.sl 2 (ky.map J.enc),.sl 2 (kz.map J.enc),.sl 2 (kA.map J.enc),.int .i64 mA,.int .i64 mB,.int .i64 mC,.int .i64 mD,.int .i64 mE,.int .i64 mF,.int .i64 mG,.int .i64 mH,.int .i64 mI,.int .i64 mJ,.sl 2 (jh.map aU.enc),.int .i64 mK,.int .i64 mL,.int .i64 mM,.int .i64 mN,.int .i64 mO,.int .i64 mP,.int .i64 mQ,.int .i64 mR,.int .i64 mS,.int .i64 mT,.bool mU,.bool mV,.bool mW,.bool mX,.bool mY,.bool mZ,.bool m0,.int .i64 m1,.bool m2]] [.one (.bool (RI (⟨mv,⟨mw,⟨mx,my,mz,lY⟩,ky,kz,kA,mA,mB,mC,mD⟩,⟨mE,mF,mG,mH⟩,⟨mI,⟨mJ,jh⟩,mK,mL,mM⟩,⟨mN,mO,mP,mQ,mR,mS⟩,⟨mT,mU⟩,mV,mW,mX,mY,mZ,m0,m1,m2⟩:af)))]:=by
 refine a3 11 func312 call312 [.tmp 2] ?_;intro _
 try simp only[go_sem]
 repeat'((first|refine ay.intro (by(apply aj8<;>exact a6)) ?_|refine bw ?_)<;>simp only[go_sem])
 all_goals(refine gd ?_;simp[RI])
def FQ(s:af):Bool:=bQ s.id&&ju s.cV&&kC s.a2&&k9 s.b1&&lu s.cL&&bQ s.oB&&(s.fF||s.gO)
def Lo(s:af):Bool:=!decide (s.cV.eg<s.ak.cw)&&!decide (s.b1.seen<s.a2.gw)&&!(s.jG&&decide (s.ak.b0≠4))&&!(s.hL&&!s.j2)&&!(decide (s.oB≠0)&&!s.j2)
def Lp(s:af):Bool:=(s.fF||decide (s.ak.b0=0)&&decide (s.ak.av.cu=0)&&decide (s.ak.br=-1))&&(s.gO||decide (s.a2.b0=0)&&decide (s.a2.gw=0)&&!s.j2)
def Dy(b:Bool)(s:af):Bool:=b&&FQ s&&Lo s&&Lp s
def gh(s:af):Bool:=Dy (e1 s.ak) s
def iI(s:af):Bool:=Dy (yy s.ak) s
theorem abl{s:af}(hn:wo s.ak):gh s=iI s:=by unfold gh iI;rw[Rp hn]
theorem aaj(mv mw mx my mz:Int)(lY:List Int)(ky kz kA:List J)(mA mB mC mD mE mF mG mH mI mJ:Int)(jh:List aU)(mK mL mM mN mO mP mQ mR mS mT:Int)(mU mV mW mX mY mZ m0:Bool)(m1:Int)(m2:Bool)(hc:ky.length+kz.length+kA.length≤524288)(hb:∀c∈jh,c.data.length≤1048576)(hx:jh.length≤1048576):aL 194 [.agg [.int .i64 mv,.int .i64 mw,.int .i64 mx,.int .i64 my,.int .i64 mz,.sl 1 (lY.map aR),.sl 2 (ky.map J.enc),.sl 2 (kz.map J.enc),.sl 2 (kA.map J.enc),.int .i64 mA,.int .i64 mB,.int .i64 mC,.int .i64 mD,.int .i64 mE,.int .i64 mF,.int .i64 mG,.int .i64 mH,.int .i64 mI,.int .i64 mJ,.sl 2 (jh.map aU.enc),.int .i64 mK,.int .i64 mL,.int .i64 mM,.int .i64 mN,.int .i64 mO,.int .i64 mP,.int .i64 mQ,.int .i64 mR,.int .i64 mS,.int .i64 mT,.bool mU,.bool mV,.bool mW,.bool mX,.bool mY,.bool mZ,.bool m0,.int .i64 m1,.bool m2]] [.one (.bool (gh (⟨mv,⟨mw,⟨mx,my,mz,lY⟩,ky,kz,kA,mA,mB,mC,mD⟩,⟨mE,mF,mG,mH⟩,⟨mI,⟨mJ,jh⟩,mK,mL,mM⟩,⟨mN,mO,mP,mQ,mR,mS⟩,⟨mT,mU⟩,mV,mW,mX,mY,mZ,m0,m1,m2⟩:af)))]:=by
 refine a3 140 func194 call194 [.tmp 2] ?_;intro _
 try simp only[go_sem]
 repeat'((first|refine ae.intro (by apply jF) ?_|refine ay.intro (by first|apply jF|(apply mn<;>exact a6)|apply z8|(apply yl<;>exact a6)|apply Fi|apply HI) ?_|refine bw ?_|refine bP (fun h=>?_) (fun h=>?_))<;>simp only[go_sem])
 all_goals(refine gd ?_;simp only[gh,Dy,FQ,Lo,Lp,di,d5]at *;grind)
theorem ali(mv mw mx my mz:Int)(lY:List Int)(ky kz kA:List J)(mA mB mC mD mE mF mG mH mI mJ:Int)(jh:List aU)(mK mL mM mN mO mP mQ mR mS mT:Int)(mU mV mW mX mY mZ m0:Bool)(m1:Int)(m2:Bool)(hc:ky.length+kz.length+kA.length≤524288)(hb:∀c∈jh,c.data.length≤1048576)(hx:jh.length≤1048576):aL 116 [.agg [.int .i64 mv,.int .i64 mw,.int .i64 mx,.int .i64 my,.int .i64 mz,.sl 1 (lY.map aR),.sl 2 (ky.map J.enc),.sl 2 (kz.map J.enc),.sl 2 (kA.map J.enc),.int .i64 mA,.int .i64 mB,.int .i64 mC,.int .i64 mD,.int .i64 mE,.int .i64 mF,.int .i64 mG,.int .i64 mH,.int .i64 mI,.int .i64 mJ,.sl 2 (jh.map aU.enc),.int .i64 mK,.int .i64 mL,.int .i64 mM,.int .i64 mN,.int .i64 mO,.int .i64 mP,.int .i64 mQ,.int .i64 mR,.int .i64 mS,.int .i64 mT,.bool mU,.bool mV,.bool mW,.bool mX,.bool mY,.bool mZ,.bool m0,.int .i64 m1,.bool m2]] [.one (.bool (iI (⟨mv,⟨mw,⟨mx,my,mz,lY⟩,ky,kz,kA,mA,mB,mC,mD⟩,⟨mE,mF,mG,mH⟩,⟨mI,⟨mJ,jh⟩,mK,mL,mM⟩,⟨mN,mO,mP,mQ,mR,mS⟩,⟨mT,mU⟩,mV,mW,mX,mY,mZ,m0,m1,m2⟩:af)))]:=by
 refine a3 141 func116 call116 [.tmp 2] ?_;intro _
 try simp only[go_sem]
 repeat'((first|refine ae.intro (by apply pt) ?_|refine ay.intro (by first|apply pt|(apply Z'<;>exact a6)|apply yc|(apply akc<;>exact a6)|apply PF|apply P9) ?_|refine bw ?_|refine bP (fun h=>?_) (fun h=>?_))<;>simp only[go_sem])
 all_goals(refine gd ?_;simp only[iI,Dy,FQ,Lo,Lp,di,d5]at *;grind)
def Fa(s:af):Bool:=gh s&&RH s&&RI s
theorem Sk(mv mw mx my mz:Int)(lY:List Int)(ky kz kA:List J)(mA mB mC mD mE mF mG mH mI mJ:Int)(jh:List aU)(mK mL mM mN mO mP mQ mR mS mT:Int)(mU mV mW mX mY mZ m0:Bool)(m1:Int)(m2:Bool)(hc:ky.length+kz.length+kA.length≤524288)(hb:∀c∈jh,c.data.length≤1048576)(hx:jh.length≤1048576):aL 301 [.agg [.int .i64 mv,.int .i64 mw,.int .i64 mx,.int .i64 my,.int .i64 mz,.sl 1 (lY.map aR),.sl 2 (ky.map J.enc),.sl 2 (kz.map J.enc),.sl 2 (kA.map J.enc),.int .i64 mA,.int .i64 mB,.int .i64 mC,.int .i64 mD,.int .i64 mE,.int .i64 mF,.int .i64 mG,.int .i64 mH,.int .i64 mI,.int .i64 mJ,.sl 2 (jh.map aU.enc),.int .i64 mK,.int .i64 mL,.int .i64 mM,.int .i64 mN,.int .i64 mO,.int .i64 mP,.int .i64 mQ,.int .i64 mR,.int .i64 mS,.int .i64 mT,.bool mU,.bool mV,.bool mW,.bool mX,.bool mY,.bool mZ,.bool m0,.int .i64 m1,.bool m2]] [.one (.bool (Fa (⟨mv,⟨mw,⟨mx,my,mz,lY⟩,ky,kz,kA,mA,mB,mC,mD⟩,⟨mE,mF,mG,mH⟩,⟨mI,⟨mJ,jh⟩,mK,mL,mM⟩,⟨mN,mO,mP,mQ,mR,mS⟩,⟨mT,mU⟩,mV,mW,mX,mY,mZ,m0,m1,m2⟩:af)))]:=by
 refine a3 13 func301 call301 [.tmp 2] ?_;intro _
 try simp only[go_sem]
 repeat'((first|refine ae.intro (by(apply aaj<;>exact a6)) ?_|refine ay.intro (by first|apply alg|(apply alh<;>exact a6)) ?_|refine bw ?_)<;>simp only[go_sem])
 all_goals(refine gd ?_;simp[Fa])
def lD:af:=⟨0,⟨0,⟨0,0,0,[]⟩,[],[],[],0,0,0,0⟩,⟨0,0,0,0⟩,⟨0,⟨0,[]⟩,0,0,0⟩,⟨0,0,0,0,0,0⟩,⟨0,false⟩,false,false,false,false,false,false,0,false⟩
def zt(i:Int)(o p:ff):Bool:=bQ i&&jg o&&jg p
def lA(v:Bool)(i:Int)(o p:ff):af:=
 if zt i o p then⟨i,pD o.av,A8 p.b1,z4,HE o.b1 o.lW,yg,fF v i,gO v i,false,false,false,false,0,false⟩else lD
theorem alj(i:Int)(o p:ff):(bif bif !bQ i then true else !jg o then true else !jg p)=!zt i o p:=by
 unfold zt
 cases bQ i<;>cases jg o<;>cases jg p<;>rfl
theorem Iz(v:Bool)(i Bn Bo Bp CX CY CZ C0 C1 C2 Bq C3 C4 C5 C6 C7 C8:Int):aL 250 [.one (.bool v),.one (.int .i64 i),.agg [.int .i64 Bn,.int .i64 Bo,.int .i64 Bp,.int .i64 CX,.int .i64 CY,.int .i64 CZ,.int .i64 C0,.int .i64 C1],.agg [.int .i64 C2,.int .i64 Bq,.int .i64 C3,.int .i64 C4,.int .i64 C5,.int .i64 C6,.int .i64 C7,.int .i64 C8]] [.agg (af.enc (lA v i (⟨Bn,Bo,Bp,CX,CY,CZ,C0,C1⟩:ff) (⟨C2,Bq,C3,C4,C5,C6,C7,C8⟩:ff))),.one (.bool (zt i (⟨Bn,Bo,Bp,CX,CY,CZ,C0,C1⟩:ff) (⟨C2,Bq,C3,C4,C5,C6,C7,C8⟩:ff)))]:=by
 refine a3 68 func250 call250 [.cell 8 66,.tmp 9] ?_;intro _;have ai:=alj i (⟨Bn,Bo,Bp,CX,CY,CZ,C0,C1⟩:ff) (⟨C2,Bq,C3,C4,C5,C6,C7,C8⟩:ff);have a1:lA v i (⟨Bn,Bo,Bp,CX,CY,CZ,C0,C1⟩:ff) (⟨C2,Bq,C3,C4,C5,C6,C7,C8⟩:ff)=if zt i (⟨Bn,Bo,Bp,CX,CY,CZ,C0,C1⟩:ff) (⟨C2,Bq,C3,C4,C5,C6,C7,C8⟩:ff)then⟨i,pD Bn,A8 Bq,z4,HE Bo Bp,yg,fF v i,gO v i,false,false,false,false,0,false⟩else lD:=rfl
 try simp only[go_sem]
 repeat'((first|refine ae.intro (by apply jF) ?_|refine ay.intro (by apply Fg) ?_|refine bw ?_)<;>simp only[go_sem])
 rw[ai]
 cases bH:zt i (⟨Bn,Bo,Bp,CX,CY,CZ,C0,C1⟩:ff) (⟨C2,Bq,C3,C4,C5,C6,C7,C8⟩:ff)with
 |false=>
  rw[bH]at a1;simp only[go_sem,cR];rw[a1];simp[lD]
 |true=>
  rw[bH]at a1;simp only[go_sem,bN]
  try simp only[go_sem]
  repeat'(first|(refine ae.intro (by first|apply X7|apply aj7|apply Pj|apply Ko|apply XJ|apply X3|apply X4) ?_<;>simp only[go_sem])|(with_reducible refine az ?_)|fail)
  all_goals(rw[a1];simp[gW])
theorem xe{α:Type}(p:α→Bool)(xs:List α)(i:Nat)(h:i<xs.length)(h1:(xs.take i).any p=false)(h2:p xs[i]=false):(xs.take (i+1)).any p=false:=by
 rw[gV,cD h,List.any_append,h1];simp[h2]
def iH{α:Type}(p:α→Bool)(xs:List α):Int:=match xs.findIdx? p with|some i=>(i:Int)|none=>-1
theorem adL{α:Type}(xs:List α)(i:Nat)(h:i<xs.length):xs=xs.take i++xs[i]::xs.drop (i+1):=by rw[List.getElem_cons_drop,List.take_append_drop]
theorem C9{α:Type}(p:α→Bool)(xs:List α)(i:Nat)(h:i<xs.length)(h1:(xs.take i).any p=false)(h2:p xs[i]=true):xs.find? p=some xs[i]:=by
 conv=>lhs;rw[adL xs i h]
 have:(xs.take i).find? p=none:=by rw[List.find?_eq_none];intro x hx;have:=List.any_eq_false.1 h1 x hx;simpa using this
 rw[List.find?_append,this,List.find?_cons_of_pos h2];rfl
theorem EP{α:Type}(p:α→Bool)(xs:List α)(h:xs.any p=false):xs.find? p=none:=by
 rw[List.find?_eq_none];intro x hx;have:=List.any_eq_false.1 h x hx;simpa using this
theorem Jj{α:Type}(p:α→Bool)(xs:List α)(i:Nat)(h:i<xs.length)(h1:(xs.take i).any p=false)(h2:p xs[i]=true):iH p xs=(i:Int):=by
 have:xs.findIdx? p=some i:=by
  rw[List.findIdx?_eq_some_iff_getElem];refine⟨h,h2,fun j aK l7=>?_⟩;have:=List.any_eq_false.1 h1 xs[j] (List.mem_take_iff_getElem.2 ⟨j,by omega,rfl⟩);exact this l7
 rw[iH,this]
theorem Jk{α:Type}(p:α→Bool)(xs:List α)(h:xs.any p=false):iH p xs=-1:=by
 have:xs.findIdx? p=none:=by rw[List.findIdx?_eq_none_iff];intro x hx;have:=List.any_eq_false.1 h x hx;simpa using this
 rw[iH,this]
theorem oq{α:Type}(p:α→Bool)(xs:List α):(iH p xs=-1∧xs.find? p=none)∨∃(i:Nat) (h:i<xs.length),iH p xs=(i:Int)∧xs.find? p=some xs[i]∧p xs[i]=true:=by
 unfold iH
 cases hf:xs.findIdx? p with
 |none=>left;refine⟨rfl,?_⟩;rw[List.findIdx?_eq_none_iff]at hf;rw[List.find?_eq_none];simpa using hf
 |some i=>
  right;rw[List.findIdx?_eq_some_iff_getElem]at hf;obtain⟨h,h1,h2⟩:=hf;refine⟨i,h,rfl,C9 p xs i h ?_ h1,h1⟩;rw[List.any_eq_false];intro x hx;obtain⟨j,aK,rfl⟩:=List.mem_take_iff_getElem.1 hx;exact h2 j ω
def k6(p:Nat→Bool)(n:Nat):Bool:=(List.range n).all p
theorem C_(p:Nat→Bool)(n:Nat):k6 p (n+1)=(k6 p n&&p n):=by simp[k6,List.range_succ]
theorem EX(p:Nat→Bool){i n:Nat}(h:i<n)(hb:p i=false):k6 p n=false:=by
 simp only[k6,List.all_eq_false,List.mem_range];exact⟨i,h,by simp[hb]⟩
theorem adM{p q:Nat→Bool}{n:Nat}(h:∀i,i<n→p i=q i):k6 p n=k6 q n:=by
 rw[Bool.eq_iff_iff];simp only[k6,List.all_eq_true,List.mem_range];exact⟨fun g i hi=>(h i hi)▸g i hi,fun g i hi=>(h i hi).symm▸g i hi⟩
def z7{α:Type}(key:α→Int)(ok:α→Bool)(l:List α)(i:Nat):Bool:=
 match l[i]? with
 |none=>false
 |some c=>ok c&&(match i with|0=>true|j+1=>(match l[j]? with|none=>false|some d=>decide (key d<key c)))
def xt{α:Type}(key:α→Int)(ok:α→Bool)(l:List α):Bool:=k6 (z7 key ok l) l.length
theorem zQ{α:Type}(key:α→Int)(ok:α→Bool)(l:List α)(h:0<l.length):z7 key ok l 0=ok l[0]:=by
 simp[z7,cD h]
theorem yC{α:Type}(key:α→Int)(ok:α→Bool)(l:List α)(j:Nat)(h:j+1<l.length):z7 key ok l (j+1)=(ok l[j+1]&&decide (key l[j]<key l[j+1])):=by
 simp[z7,cD h,cD (show j<l.length by omega)]
theorem abj{α:Type}{key:α→Int}{ok wm:α→Bool}{l:List α}(h:∀c∈l,ok c=wm c):xt key ok l=xt key wm l:=by
 refine adM fun i hi=>?_
 cases i with
 |zero=>rw[zQ _ _ _ hi,zQ _ _ _ hi,h _ (eS hi)]
 |succ j=>rw[yC _ _ _ _ hi,yC _ _ _ _ hi,h _ (eS hi)]
def xG(k:Int):List UInt8:=
 if k=4 then [114,101,115,101,116]
 else if k=5 then [115,116,111,112]
 else if k=8 then [115,116,114,101,97,109]
 else if k=16 then [109,97,120,100,97,116,97]
 else if k=17 then [109,97,120,115,116,114,101,97,109,100,97,116,97]
 else if k=18 then [109,97,120,115,116,114,101,97,109,115]
 else if k=20 then [100,97,116,97,98,108,111,99,107,101,100]
 else if k=21 then [115,116,114,101,97,109,100,97,116,97,98,108,111,99,107,101,100]
 else if k=22 then [115,116,114,101,97,109,115,98,108,111,99,107,101,100]
 else []
def kindOk(k:Int):Bool:=decide (k=4)||decide (k=5)||decide (k=8)||decide (k=16)||decide (k=17)||decide (k=18)||decide (k=20)||decide (k=21)||decide (k=22)
theorem Uo(k:Int):(xG k == [])=!kindOk k:=by
 unfold xG kindOk
 repeat' split
 all_goals simp_all
theorem adS(k:Int):aL 186 [.one (.int .i64 k)] [.one (.str (xG k))]:=by
 refine a3 22 func186 call186 [.tmp 2] ?_;intro _
 try simp only[go_sem]
 repeat'(refine bP (fun h=>?_) (fun h=>?_)<;>simp only[go_sem])
 all_goals(simp only[b8,eG]at *;first|(exfalso;omega)|simp[xG, *])
theorem adT(k:Int):aL 171 [.one (.int .i64 k)] [.one (.str (xG k))]:=by
 refine a3 22 func171 call171 [.tmp 2] ?_;intro _
 try simp only[go_sem]
 repeat'(refine bP (fun h=>?_) (fun h=>?_)<;>simp only[go_sem])
 all_goals(simp only[b8,eG]at *;first|(exfalso;omega)|simp[xG, *])
def h6(k:Int):Bool:=decide (k=4)||decide (k=5)||decide (k=8)||decide (k=17)||decide (k=21)
theorem F1(eZ eR e_:Int)(eU:List UInt8)(fG:Bool)(fy fv fR:Int)(fV:Bool):aL 234 [.agg [.int .i64 eZ,.int .i64 eR,.int .i64 e_,.str eU,.bool fG,.int .i64 fy,.int .i64 fv,.int .i64 fR,.bool fV]] [.one (.bool (h6 eZ))]:=by
 refine a3 11 func234 call234 [.tmp 2] ?_;intro _
 try simp only[go_sem]
 repeat'(refine bP (fun h=>?_) (fun h=>?_)<;>simp only[go_sem])
 all_goals(simp only[b8,eG]at *;first|(exfalso;omega)|simp[h6, *])
theorem Jm(eZ eR e_:Int)(eU:List UInt8)(fG:Bool)(fy fv fR:Int)(fV:Bool):aL 84 [.agg [.int .i64 eZ,.int .i64 eR,.int .i64 e_,.str eU,.bool fG,.int .i64 fy,.int .i64 fv,.int .i64 fR,.bool fV]] [.one (.bool (h6 eZ))]:=by
 refine a3 11 func84 call84 [.tmp 2] ?_;intro _
 try simp only[go_sem]
 repeat'(refine bP (fun h=>?_) (fun h=>?_)<;>simp only[go_sem])
 all_goals(simp only[b8,eG]at *;first|(exfalso;omega)|simp[h6, *])
def gE(f:aq):aq:=
 ⟨f.bp,if h6 f.bp then f.aC else 0,if f.bp=8 then f.aH else 0,if f.bp=8 then f.data else [],if f.bp=8 then f.aW else false,if f.bp=4∨f.bp=5 then f.c4 else 0,
  if f.bp=4∨f.bp=5∨f.bp=8 then 0 else f.aZ,if f.bp=4 then f.br else 0,if f.bp=18∨f.bp=22 then f.ft else false⟩
theorem Tk(eZ eR e_:Int)(eU:List UInt8)(fG:Bool)(fy fv fR:Int)(fV:Bool):aL 187 [.agg [.int .i64 eZ,.int .i64 eR,.int .i64 e_,.str eU,.bool fG,.int .i64 fy,.int .i64 fv,.int .i64 fR,.bool fV]] [.agg (aq.enc (gE (⟨eZ,eR,e_,eU,fG,fy,fv,fR,fV⟩:aq)))]:=by
 refine a3 51 func187 call187 [.cell 2 82] ?_;intro _
 try simp only[go_sem]
 repeat'((first|refine ae.intro (by apply F1) ?_|refine bP (fun h=>?_) (fun h=>?_))<;>simp only[go_sem])
 all_goals(simp only[b8,eG]at *;first|(exfalso;omega)|(exfalso;simp_all [h6];done)|(simp[gE, *];done)|(simp[gE,h6]at *;simp[ *];done)|(simp_all [gE,h6];done))
def y2(f:aq):Bool:=kindOk f.bp&&decide (gE f=f)&&bQ f.aC&&bQ f.aH&&bQ f.c4&&bQ f.aZ&&bQ f.br&&!decide (400<(f.data.length:Int))
def d_(f:aq):Bool:=y2 f&&(if f.bp=8 then decide (f.aH≤i64.wrap (4611686018427387903-(f.data.length:Int)))else if f.bp=18∨f.bp=22 then decide (f.aZ≤1152921504606846976)else true)
def Up:List (List bR):=cS 46 [8862938119652501095928,8862938119652501095926,8862938119652501095920,8862938119652501095902,8862938119652501095848,8862938119652501093499,8862938119652501093013,8862938119652501094714,8862938119652501089368,8862938119652501076246,8862938119652501036880,8862938119652500918782,8862938119652500564488,8862938119652499501606,8862938119652496312960,8862938119652486747022,8862938119652458049208,8862938119652371955766,8862938119652113675440,8862938119651338834462,8862938119649014311528,8862938119642040742726,8862938119621120036320,8862938119558357917102,8862938119370071559448,8862938118805212486486,8862938117110635267600,8862938112026903610942,8862938096775708640968,8862938051022123731046,8862937913761369001280,8862937501979104811982,8862936266632312244088,8862932560591934540406,8862921442470801429360,8862888088107402096222,8862788025017204096808,8862487835746610098566,8861587267934828103840,8858885564499482119662,8850780454193444167128,8826465123275330309526,8753519130520988736720,8534681152257964018302,7878167217468889863048,5908625413101667397286]
attribute [go_sem] Up
theorem Uq(a b:aq):(decide (a.bp=b.bp)&&(decide (a.aC=b.aC)&&(decide (a.aH=b.aH)&&(decide (a.data=b.data)&&(decide (a.aW=b.aW)&&(decide (a.c4=b.c4)&&(decide (a.aZ=b.aZ)&&(decide (a.br=b.br)&&decide (a.ft=b.ft)))))))))=decide (a=b):=by
 cases a;cases b
 rw[Bool.eq_iff_iff];simp only[bW,b8,aq.mk.injEq]
theorem adU(f:aq):(bif bif bif bif bif bif bif !kindOk f.bp then true else !decide (gE f=f)then true else !bQ f.aC then true else !bQ f.aH then true else !bQ f.c4 then true else !bQ f.aZ then true else !bQ f.br then true else decide (400<(f.data.length:Int)))=!y2 f:=by
 unfold y2
 cases kindOk f.bp<;>cases decide (gE f=f)<;>cases bQ f.aC<;>cases bQ f.aH<;>cases bQ f.c4<;>cases bQ f.aZ<;>cases bQ f.br<;>cases decide (400<(f.data.length:Int))<;>rfl
theorem yS(eZ eR e_:Int)(eU:List UInt8)(fG:Bool)(fy fv fR:Int)(fV:Bool):aL 112 [.agg [.int .i64 eZ,.int .i64 eR,.int .i64 e_,.str eU,.bool fG,.int .i64 fy,.int .i64 fv,.int .i64 fR,.bool fV]] [.one (.bool (d_ (⟨eZ,eR,e_,eU,fG,fy,fv,fR,fV⟩:aq)))]:=by
 refine a3 66 func112 call112 [.tmp 2] ?_;intro _;have hk:decide (xG eZ=[])=!kindOk eZ:=by have:=Uo eZ;rw[←this];cases xG eZ<;>rfl
 have hf:=Uq (gE (⟨eZ,eR,e_,eU,fG,fy,fv,fR,fV⟩:aq)) (⟨eZ,eR,e_,eU,fG,fy,fv,fR,fV⟩:aq);simp only at hf;have ai:=adU (⟨eZ,eR,e_,eU,fG,fy,fv,fR,fV⟩:aq)
 try simp only[go_sem]
 repeat'((first|refine ay.intro (by first|apply adS|apply Tk|apply jF) ?_|refine f' ?_|refine bo Up χ ψ ?_)<;>simp only[go_sem,hk,hf])
 rw[ai]
 cases er:y2 (⟨eZ,eR,e_,eU,fG,fy,fv,fR,fV⟩:aq)with
 |false=>
  simp only[go_sem,cR];simp[d_,er]
 |true=>
  simp only[go_sem,bN]
  try simp only[go_sem]
  repeat'(refine bP (fun h=>?_) (fun h=>?_)<;>simp only[go_sem])
  all_goals(rw[show d_ (⟨eZ,eR,e_,eU,fG,fy,fv,fR,fV⟩:aq)=(if eZ=8 then decide (e_≤i64.wrap (4611686018427387903-(eU.length:Int)))else if eZ=18∨eZ=22 then decide (fv≤1152921504606846976)else true)from by unfold d_;rw[er];rfl];clear er ai hf hk;simp only[b8,eG]at *;first|(exfalso;omega)|simp[*])
def fp(id:Int)(s:af):Bool:=decide (s.id=id)
def cf(l:List af)(id:Int):af×Bool:=match l.find? (fp id)with|some s=>(s,true)|none=>(lD,false)
def jZ(s:af)(q:List af×Bool)(x:af):List af×Bool:=
 if !q.2&&decide (s.id<x.id)then(q.1++[s,x],true)else(q.1++[x],q.2)
def nD(s:af)(l:List af):List af×Bool:=l.foldl (jZ s) ([],false)
def eC(l:List af)(s:af):List af:=
 match l.findIdx? (fp s.id)with
 |some i=>l.set i s
 |none=>if(nD s l).2 then(nD s l).1 else(nD s l).1++[s]
def j0(ok:af→Bool)(l:List af):Bool:=xt (fun s=>s.id) ok l&&decide ((l.length:Int)≤24)
def ke(f:af→Int)(n:Int)(s:af):Int:=if 4611686018427387904<i64.wrap (n+f s)then 4611686018427387904 else i64.wrap (n+f s)
def nE(ok:af→Bool)(f:af→Int)(l:List af):Int:=if j0 ok l then l.foldl (ke f) 0 else 0
def jf(s:af):Int:=s.ak.cw
def ku(s:af):Int:=s.a2.gw
def qS(n:Int)(p:aT):Bool:=ca p.bO 0 (i64.wrap (n-1))&&p.c0.all d_
def wa(n:Int)(l:List aT):Bool:=xt (fun p=>p.bO) (qS n) l
def yR(ok:af→Bool)(c:aa):Bool:=jg c.own&&jg c.da&&j0 ok c.ab&&ju c.cm&&k9 c.dq&&kx c.fe&&kx c.fc&&jJ c.eo&&jJ c.en
def BK(ok:af→Bool)(c:aa):Bool:=ca c.dE (-1) 4611686018427387903&&ca c.bO 0 1000000&&ca c.ef 0 1000000&&ca c.d9 0 255&&decide (nE ok jf c.ab≤c.cm.eg)&&decide (nE ok ku c.ab≤c.dq.seen)
def z6(ok:af→Bool)(c:aa):Bool:=yR ok c&&wa c.bO c.an&&BK ok c
def gq(c:aa):Bool:=z6 gh c
def BL(c:aa):Bool:=z6 iI c
theorem Sx{ok wm:af→Bool}{l:List af}(h:∀s∈l,ok s=wm s):j0 ok l=j0 wm l:=by unfold j0;rw[abj h]
theorem Sy{ok wm:af→Bool}{f:af→Int}{l:List af}(h:∀s∈l,ok s=wm s):nE ok f l=nE wm f l:=by unfold nE;rw[Sx h]
theorem abk{ok wm:af→Bool}{c:aa}(h:∀s∈c.ab,ok s=wm s):z6 ok c=z6 wm c:=by unfold z6 yR BK;rw[Sx h,Sy h,Sy h]
theorem Di{c:aa}(h:∀s∈c.ab,wo s.ak):gq c=BL c:=abk fun s hs=>abl (h s hs)
theorem MG(s:af):∀(l:List af) (q:List af×Bool),(∀x∈(l.foldl (jZ s) q).1,x∈q.1∨x∈l∨x=s)∧(l.foldl (jZ s) q).1.length+q.2.toNat=q.1.length+l.length+(l.foldl (jZ s) q).2.toNat
 |[],q=>⟨fun x hx=>Or.inl hx,by simp⟩
 |y::l,q=>by
  obtain⟨h1,h2⟩:=MG s l (jZ s q y);rw[List.foldl_cons];refine⟨fun x hx=>?_,?_⟩
  ·rcases h1 x hx with h|h|h
   ·unfold jZ at h;split at h
    ·simp only[fi,List.mem_cons,List.not_mem_nil,or_false]at h;rcases h with h|h|h
     ·exact Or.inl h
     ·exact Or.inr (Or.inr h)
     ·exact Or.inr (Or.inl (by simp[h]))
    ·simp only[fi,List.mem_cons,List.not_mem_nil,or_false]at h;rcases h with h|h
     ·exact Or.inl h
     ·exact Or.inr (Or.inl (by simp[h]))
   ·exact Or.inr (Or.inl (List.mem_cons_of_mem _ h))
   ·exact Or.inr (Or.inr h)
  ·have e:(jZ s q y).1.length+q.2.toNat=q.1.length+1+(jZ s q y).2.toNat:=by
    unfold jZ
    cases hq:q.2<;>by_cases hlt:s.id<y.id<;>simp[hlt]
   rw[dA];omega
theorem Sz(s:af)(l:List af):(nD s l).1.length=l.length+(nD s l).2.toNat:=by
 have:=(MG s l ([],false)).2;simpa [nD]using this
theorem BI{l:List af}{s x:af}(h:x∈eC l s):x∈l∨x=s:=by
 unfold eC at h;split at h
 ·rcases List.mem_or_eq_of_mem_set h with h|h
  ·exact Or.inl h
  ·exact Or.inr h
 ·have:=(MG s l ([],false)).1 x;simp only[List.not_mem_nil,false_or]at this;split at h
  ·exact this h
  ·rcases fi.1 h with h|h
   ·exact this h
   ·exact Or.inr (by simpa using h)
theorem II(l:List af)(s:af):(eC l s).length≤l.length+1:=by
 unfold eC;split
 ·rw[List.length_set];omega
 ·have:=Sz s l;split
  ·rename_i h;rw[this,h];simp
  ·rename_i h;rw[dY,this];simp only[Bool.not_eq_true]at h;rw[h];simp
def RJ:List (List bR):=cS 24 [282429536477,282429536479,282429536472,282429536454,282429536400,282429536238,282429535752,282429534294,282429529920,282429516798,277206298137,277206416235,277206002892,277204940010,277201751364,282250145619,282407983596,282321890154,282049260921,281274419943,278949897009,271969183278,251048476872,188286357654]
def LW:List (List bR):=cS 22 [31381059608,31381059606,31381059600,31381059582,31381059528,31381059366,31381058880,31381057422,31381053048,31381039926,31381000560,30862196046,30864144663,30863081781,30859715988,30850150050,30821452236,31316400954,31058120628,30218798142,27894275208,20920706406]
attribute [go_sem] RJ LW
def f_(s:af):Prop:=s.ak.aP.length+s.ak.aM.length+s.ak.a0.length≤1000∧s.ak.av.cells.length≤100∧(∀c∈s.a2.bV.cp,c.data.length≤1000)∧s.a2.bV.cp.length≤100
theorem MD(l:List af)(id:Int):aL 131 [.one (.sl 39 (l.map af.enc)),.one (.int .i64 id)] [.one (.int .i64 (iH (fp id) l))]:=by
 refine a3 20 func131 call131 [.tmp 4] ?_;intro ok;have hm:=fI ok;clear ok;simp only[go_sem];refine cr.intro (fun i:Nat=>⟨(.d (.sl 39 (l.map af.enc))::.i id::aA 3 (.i i::aA 14 [])),[]⟩)
  (fun i=>l.length-i) (fun i=>i≤l.length∧(l.take i).any (fp id)=false) 0 [] ⟨by omega,by simp⟩ ?_ ?_
 ·simp only[go_sem];simp
 ·rintro i ⟨hi,he⟩;by_cases h1:i<l.length
  ·have ax:=bC (p:=(i:Int)<(l.length:Int)) ω;have aB:=cq af.enc l i h1;have hw:=dX h1 hm
   try simp only[go_sem,I,aE,aB,af.enc,ax]
   repeat'(first|(refine bP (fun h=>?_) (fun h=>?_)<;>simp only[go_sem])|(with_reducible refine az ?_)|fail)
   ·have:=Jj (fp id) l i h1 he h;simp[this]
   ·refine bE.intro (i+1) [] ⟨by omega,xe _ l i h1 he h⟩ ω ?_;simp only[go_sem,hw];try simp
  ·have ax:=bm (p:=(i:Int)<(l.length:Int)) ω;obtain rfl:i=l.length:=by omega
   rw[d3]at he;simp only[go_sem,I,ax];simp[Jk _ _ he]
def oU(ok:af→Bool)(l:List af)(i:Nat):Bool:=z7 (fun s=>s.id) ok l i
theorem aap(ok:af→Bool)(l:List af)(h:0<l.length):oU ok l 0=ok l[0]:=zQ _ _ _ h
theorem aaq(ok:af→Bool)(l:List af)(j:Nat)(h:j+1<l.length):oU ok l (j+1)=(ok l[j+1]&&decide (l[j].id<l[j+1].id)):=yC _ _ _ _ h
theorem aar{ok:af→Bool}{l:List af}(h:k6 (oU ok l) l.length=true):j0 ok l=decide ((l.length:Int)≤24):=by
 have:xt (fun s:af=>s.id) ok l=true:=h;unfold j0;rw[this];rfl
theorem aas{ok:af→Bool}{l:List af}{i:Nat}(hi:i<l.length)(h:oU ok l i=false):j0 ok l=false:=by
 have:xt (fun s:af=>s.id) ok l=false:=EX (oU ok l) hi h;unfold j0;rw[this];rfl
theorem Fh(l:List af)(hz:∀s∈l,f_ s):aL 133 [.one (.sl 39 (l.map af.enc))] [.one (.bool (j0 gh l))]:=by
 refine a3 37 func133 call133 [.tmp 2] ?_;intro ok;have hm:=fI ok;clear ok;simp only[go_sem];refine cr.intro (fun i:Nat=>⟨(.d (.sl 39 (l.map af.enc))::.al::.al::.i i::aA 33 []),[]⟩)
  (fun i=>l.length-i) (fun i=>i≤l.length∧k6 (oU gh l) i=true) 0 [] ⟨by omega,by simp[k6]⟩ ?_ ?_
 ·simp only[go_sem];simp
 ·rintro i ⟨hi,he⟩;by_cases h1:i<l.length
  ·have ax:=bC (p:=(i:Int)<(l.length:Int)) ω;have aB:=cq af.enc l i h1;have hw:=dX h1 hm;have hs:=C_ (oU gh l) i;have hf:=fun h=>aas (ok:=gh) (l:=l) h1 h;obtain⟨hc,_,hb,hx⟩:=hz _ (eS h1)
   replace hb:∀c∈l[i].a2.bV.cp,c.data.length≤1048576:=fun c h=>by have:=hb c h;omega
   have bB:=aaj l[i].id l[i].ak.b0 l[i].ak.av.size l[i].ak.av.base l[i].ak.av.cu l[i].ak.av.cells l[i].ak.aP l[i].ak.aM l[i].ak.a0 l[i].ak.br l[i].ak.aW l[i].ak.cw l[i].ak.c4 l[i].cV.aZ l[i].cV.eg l[i].cV.blocked l[i].cV.gr l[i].a2.b0 l[i].a2.bV.next l[i].a2.bV.cp l[i].a2.br l[i].a2.gw l[i].a2.c4 l[i].b1.size l[i].b1.ck l[i].b1.aZ l[i].b1.seen l[i].b1.gF l[i].b1.kk l[i].cL.ew l[i].cL.hO l[i].fF l[i].gO l[i].jG l[i].hL l[i].k_ l[i].j2 l[i].oB l[i].nz ω hb ω;change PureCall _ _ _ [.one (.bool (gh l[i]))]at bB
   cases i with
   |zero=>
    have hb:=aap gh l h1;have h2:decide ((0:Int)<((0:Nat):Int))=false:=by decide
    try simp only[go_sem,I,ax]
    repeat'(first|((first|refine ae.intro ‹_› ?_|refine ay.intro ‹_› ?_|with_reducible refine lR ?_|refine f' ?_|refine bo RJ χ ψ ?_|refine bP (fun h=>?_) (fun h=>?_))<;>simp only[go_sem,I,aE,aB,af.enc,h2])|(with_reducible refine az ?_)|fail)
    ·have e:oU gh l 0=false:=by rw[hb];revert h;cases gh l[0]<;>simp
     simp[hf e]
    ·have e:oU gh l 0=true:=by rw[hb];revert h;cases gh l[0]<;>simp
     refine bE.intro 1 [] ⟨by omega,by rw[hs,he,e];rfl⟩ ω ?_;simp only[go_sem,hw];try simp
   |succ j=>
    have hb:=aaq gh l j h1;have g3:=cq af.enc l j ω;have h2:=bC (p:=(0:Int)<((j+1:Nat):Int)) ω;have hp:i64.wrap (((j+1:Nat):Int)-1)=(j:Int):=by simp only[maxLen]at hm;rw[bA]<;>omega
    try simp only[go_sem,I,ax]
    repeat'(first|((first|refine ae.intro ‹_› ?_|refine ay.intro ‹_› ?_|refine f' ?_|refine bo RJ χ ψ ?_|refine bP (fun h=>?_) (fun h=>?_))<;>simp only[go_sem,I,aE,aB,g3,af.enc,h2,hp])|(with_reducible refine az ?_)|fail)
    ·have e:oU gh l (j+1)=false:=by rw[hb];revert h;cases gh l[j+1]<;>simp
     simp[hf e]
    ·have e:oU gh l (j+1)=true:=by rw[hb];revert h;cases gh l[j+1]<;>simp
     refine bE.intro (j+1+1) [] ⟨by omega,by rw[hs,he,e];rfl⟩ ω ?_;simp only[go_sem,hw];try simp
  ·have ax:=bm (p:=(i:Int)<(l.length:Int)) ω;obtain rfl:i=l.length:=by omega
   simp only[go_sem,I,ax];simp[aar he]
theorem Hs(l:List af)(hz:∀s∈l,f_ s):aL 53 [.one (.sl 39 (l.map af.enc))] [.one (.bool (j0 iI l))]:=by
 refine a3 35 func53 call53 [.tmp 2] ?_;intro ok;have hm:=fI ok;clear ok;simp only[go_sem,I];refine cr.intro (fun i:Nat=>⟨(.d (.sl 39 (l.map af.enc))::aA 4 (.d (.sl 39 (l.map af.enc))::.i l.length::.i i::aA 27 [])),[]⟩)
  (fun i=>l.length-i) (fun i=>i≤l.length∧i≤24∧k6 (oU iI l) i=true) 0 [] ⟨by omega,by omega,by simp[k6]⟩ ?_ ?_
 ·simp only[go_sem];simp
 ·rintro i ⟨hi,atq,he⟩;by_cases h1:i<l.length
  ·have ax:=bC (p:=(i:Int)<(l.length:Int)) ω;have aB:=cq af.enc l i h1;have hw:=dX h1 hm;by_cases atr:i=24
   ·have ao:=bC (p:=(24:Int)≤(i:Int)) ω;have hr:j0 iI l=false:=by unfold j0;rw[show decide ((l.length:Int)≤24)=false from bm ω];simp
    cases i with
    |zero=>omega
    |succ j=>
     have h2:=bC (p:=(0:Int)<((j+1:Nat):Int)) ω
     try simp only[go_sem,I,aE,aB,af.enc,ax]
     repeat'(first|((first|with_reducible refine lR ?_|refine bo LW χ ψ ?_)<;>simp only[go_sem,ao])|(with_reducible refine az ?_)|fail)
     all_goals simp[hr]
   ·have ao:=bm (p:=(24:Int)≤(i:Int)) ω;have hs:=C_ (oU iI l) i;have hf:=fun h=>aas (ok:=iI) (l:=l) h1 h;obtain⟨hc,_,hb,hx⟩:=hz _ (eS h1)
    replace hb:∀c∈l[i].a2.bV.cp,c.data.length≤1048576:=fun c h=>by have:=hb c h;omega
    have bB:=ali l[i].id l[i].ak.b0 l[i].ak.av.size l[i].ak.av.base l[i].ak.av.cu l[i].ak.av.cells l[i].ak.aP l[i].ak.aM l[i].ak.a0 l[i].ak.br l[i].ak.aW l[i].ak.cw l[i].ak.c4 l[i].cV.aZ l[i].cV.eg l[i].cV.blocked l[i].cV.gr l[i].a2.b0 l[i].a2.bV.next l[i].a2.bV.cp l[i].a2.br l[i].a2.gw l[i].a2.c4 l[i].b1.size l[i].b1.ck l[i].b1.aZ l[i].b1.seen l[i].b1.gF l[i].b1.kk l[i].cL.ew l[i].cL.hO l[i].fF l[i].gO l[i].jG l[i].hL l[i].k_ l[i].j2 l[i].oB l[i].nz ω hb ω;change PureCall _ _ _ [.one (.bool (iI l[i]))]at bB
    cases i with
    |zero=>
     have hb:=aap iI l h1;have h2:decide ((0:Int)<((0:Nat):Int))=false:=by decide
     try simp only[go_sem,I,aE,aB,af.enc,ax]
     repeat'(first|((first|refine ae.intro ‹_› ?_|refine ay.intro ‹_› ?_|with_reducible refine nt ?_|with_reducible refine lR ?_|refine f' ?_|refine bo LW χ ψ ?_|refine bP (fun h=>?_) (fun h=>?_))<;>simp only[go_sem,h2,ao])|(with_reducible refine az ?_)|fail)
     ·have e:oU iI l 0=false:=by rw[hb];revert h;cases iI l[0]<;>simp
      simp[hf e]
     ·have e:oU iI l 0=true:=by rw[hb];revert h;cases iI l[0]<;>simp
      refine bE.intro 1 [] ⟨by omega,by omega,by rw[hs,he,e];rfl⟩ ω ?_;simp only[go_sem,hw];try simp
    |succ j=>
     have hb:=aaq iI l j h1;have g3:=cq af.enc l j ω;have h2:=bC (p:=(0:Int)<((j+1:Nat):Int)) ω;have hp:i64.wrap (((j+1:Nat):Int)-1)=(j:Int):=by simp only[maxLen]at hm;rw[bA]<;>omega
     try simp only[go_sem,I,aE,aB,af.enc,ax]
     repeat'(first|((first|refine ae.intro ‹_› ?_|refine ay.intro ‹_› ?_|with_reducible refine nt ?_|refine f' ?_|refine bo LW χ ψ ?_|refine bP (fun h=>?_) (fun h=>?_))<;>simp only[go_sem,I,aE,g3,af.enc,h2,hp,ao])|(with_reducible refine az ?_)|fail)
     ·have e:oU iI l (j+1)=false:=by rw[hb];revert h;cases iI l[j+1]<;>simp
      simp[hf e]
     ·have e:oU iI l (j+1)=true:=by rw[hb];revert h;cases iI l[j+1]<;>simp
      refine bE.intro (j+1+1) [] ⟨by omega,by omega,by rw[hs,he,e];rfl⟩ ω ?_;simp only[go_sem,hw];try simp
  ·have ax:=bm (p:=(i:Int)<(l.length:Int)) ω;obtain rfl:i=l.length:=by omega
   have hr:j0 iI l=true:=by rw[aar he];exact bC ω
   simp only[go_sem,ax];simp[hr]
def Ij:List (List bR):=cS 12 [531440,531438,531432,505089,505143,504954,504468,503010,528147,515025,472392,354294]
attribute [go_sem] Ij
theorem LX{p:Prop}{fw fH:Decidable p}{α:Type}(a b:α):@ite α p fw a b=@ite α p fH a b:=by rw[Subsingleton.elim fw fH]
theorem IB{l:List af}{s:af}{i:Nat}(h:iH (fp s.id) l=(i:Int)):eC l s=l.set i s:=by
 unfold eC;unfold iH at h;split at h
 ·rename_i j aK;first|(rw[aK];simp only;congr 1;omega)|(congr 1;omega)
 ·omega
theorem YE{l:List af}{s:af}(h:iH (fp s.id) l=-1):eC l s=if(nD s l).2 then(nD s l).1 else(nD s l).1++[s]:=by
 unfold eC;unfold iH at h;split at h
 ·omega
 ·rename_i aK;first|rw[aK]|rfl
theorem alq(s:af)(l:List af)(i:Nat)(h:i<l.length):nD s (l.take (i+1))=jZ s (nD s (l.take i)) l[i]:=by
 unfold nD;rw[gV,cD h,List.foldl_append];rfl
theorem nu(l:List af)(s:af)(hl:l.length≤1000)(hz:∀x∈l,f_ x)(hs:f_ s):aL 75 [.one (.sl 39 (l.map af.enc)),.agg (af.enc s)] [.one (.sl 39 (((eC l s)).map af.enc))]:=by
 refine a3 66 func75 call75 [.tmp 4] ?_;intro ok;have hm:=fI ok;clear ok;obtain⟨dW,ek,dt,eF⟩:=hs;simp only[go_sem];refine ae.intro (MD l s.id) ?_;simp only[go_sem];rcases oq (fp s.id) l with ⟨h1,h2⟩|⟨j,aK,h1,h2,ao⟩
 ·have ai:=YE h1;rw[h1];refine cr.intro (fun i:Nat=>⟨(.d (.sl 39 (l.map af.enc))::.al::.al::.ptr 0 0 0::.al::.sl 1 0 (nD s (l.take i)).1.length::.i (-1)::.d (.bool (nD s (l.take i)).2)::.i i::aA 57 []),[.box (af.bT s),.ah 39 ((nD s (l.take i)).1.map af.enc) true]⟩)
   (fun i=>l.length-i) (fun i=>i≤l.length) 0 [0,1] ω ?_ ?_
  ·simp only[go_sem];simp[nD]
  ·intro i hi;have mo:=Sz s (l.take i);have cM:(l.take i).length=i:=by simp;omega
   rw[cM]at mo;have hb:(nD s (l.take i)).2.toNat≤1:=Bool.toNat_le _;by_cases aN:i<l.length
   ·have kH:=bC (p:=(i:Int)<(l.length:Int)) ω;have aB:=cq af.enc l i aN;have hw:=dX aN hm;obtain⟨qY,nC,yQ,Dh⟩:=hz _ (eS aN);have dx:=alq s l i aN;have b6:=bm (p:=(i:Int)=-1) ω;generalize nD s (l.take i)=q at *;obtain⟨ed,RK⟩:=q;simp only at mo hb;simp only[af.enc]at aB
    cases RK with
    |true=>
     have Ik:jZ s (ed,true) l[i]=(ed++[l[i]],true):=rfl
     try simp only[go_sem,I,aE,aB,kH]
     repeat'(first|((first|refine ae.intro (by(apply zZ<;>exact a6)) ?_|with_reducible refine lR ?_|refine bo Ij χ ψ ?_)<;>simp only[go_sem,I,Bool.cond_self])|(with_reducible refine az ?_)|fail)
     all_goals(refine bE.intro (i+1) [0,9] ω ω ?_;simp only[go_sem,hw,dx,Ik];simp[af.enc])
    |false=>
     cases hd:decide (s.id<l[i].id)with
     |true=>
      have Ik:jZ s (ed,false) l[i]=(ed++[s,l[i]],true):=by unfold jZ;rw[hd];rfl
      try simp only[go_sem,I,aE,aB,kH]
      repeat'(first|((first|refine ae.intro (by(apply zZ<;>exact a6)) ?_|with_reducible refine nt ?_|refine bo Ij χ ψ ?_)<;>simp only[go_sem,I,aE,aB,hd])|(with_reducible refine az ?_)|fail)
      all_goals(refine bE.intro (i+1) [0,17] ω ω ?_;simp only[go_sem,hw,dx,Ik];simp[af.enc])
     |false=>
      have Ik:jZ s (ed,false) l[i]=(ed++[l[i]],false):=by unfold jZ;rw[hd];rfl
      try simp only[go_sem,I,aE,aB,kH]
      repeat'(first|((first|refine ae.intro (by(apply zZ<;>exact a6)) ?_|with_reducible refine nt ?_|refine bo Ij χ ψ ?_)<;>simp only[go_sem,I,aE,aB,hd])|(with_reducible refine az ?_)|fail)
      all_goals(refine bE.intro (i+1) [0,9] ω ω ?_;simp only[go_sem,hw,dx,Ik];simp[af.enc])
   ·have kH:=bm (p:=(i:Int)<(l.length:Int)) ω;obtain rfl:i=l.length:=by omega
    rw[d3]at *;generalize nD s l=q at *;obtain⟨ed,RK⟩:=q
    cases RK with
    |true=>
     try simp only[go_sem,I,kH]
     repeat'(first|(with_reducible refine az ?_)|fail)
     all_goals simp[ai]
    |false=>
     try simp only[go_sem,I,kH]
     repeat'(first|(refine ae.intro (by(apply zZ<;>exact a6)) ?_<;>simp only[go_sem,I])|(with_reducible refine az ?_)|fail)
     all_goals(simp only[Bool.toNat_false]at mo;refine⟨⟨by omega,rfl⟩,by simp,?_⟩;simp[ai,af.enc,e7])
 ·have ai:=IB h1;rw[h1];have dP:=bC (p:=(0:Int)≤(j:Int)) ω;simp only[go_sem,dP];refine cr.intro (fun i:Nat=>⟨(.d (.sl 39 (l.map af.enc))::.al::.al::.ptr 0 0 0::.al::.sl 1 0 i::.i (j:Int)::.d (.bool true)::.i i::aA 57 []),[.box (af.bT s),.ah 39 (((l.set j s).take i).map af.enc) true]⟩)
   (fun i=>l.length-i) (fun i=>i≤l.length) 0 [0,1] ω ?_ ?_
  ·simp only[go_sem];simp
  ·intro i hi;have cM:((l.set j s).take i).length=i:=by simp;omega
   by_cases aN:i<l.length
   ·have kH:=bC (p:=(i:Int)<(l.length:Int)) ω;have aB:=cq af.enc l i aN;have hw:=dX aN hm;obtain⟨qY,nC,yQ,Dh⟩:=hz _ (eS aN);have dx:(l.set j s).take (i+1)=(l.set j s).take i++[(l.set j s)[i]'(by simpa using aN)]:=by
     rw[gV,cD (by simpa using aN)];rfl
    simp only[af.enc]at aB;by_cases oa:i=j
    ·subst oa;have hq:(l.set i s)[i]'(by simpa using aN)=s:=by simp
     rw[hq]at dx;have b6:decide ((i:Int)=(i:Int))=true:=by simp
     try simp only[go_sem,I,aE,aB,kH]
     repeat'(first|(refine ae.intro (by(apply zZ<;>exact a6)) ?_<;>simp only[go_sem,I])|(with_reducible refine az ?_)|fail)
     all_goals(refine bE.intro (i+1) [0,14] ω ω ?_;simp only[go_sem,hw,dx];simp[af.enc];omega)
    ·have hq:(l.set j s)[i]'(by simpa using aN)=l[i]:=by rw[List.getElem_set_ne ω]
     rw[hq]at dx;have b6:=bm (p:=(i:Int)=(j:Int)) ω
     try simp only[go_sem,I,aE,aB,kH]
     repeat'(first|((first|refine ae.intro (by(apply zZ<;>exact a6)) ?_|with_reducible refine lR ?_|refine bo Ij χ ψ ?_)<;>simp only[go_sem,I,b6,Bool.cond_self])|(with_reducible refine az ?_)|fail)
     all_goals(refine bE.intro (i+1) [0,9] ω ω ?_;simp only[go_sem,hw,dx];simp[af.enc];omega)
   ·have kH:=bm (p:=(i:Int)<(l.length:Int)) ω;obtain rfl:i=l.length:=by omega
    have Ao:(l.set j s).take l.length=l.set j s:=e7 ξ
    try simp only[go_sem,I,kH,Ao]
    have Nd:∀v,List.take l.length ((l.map af.enc).set j v)=(l.map af.enc).set j v:=fun v=>e7 ξ
    all_goals simp[ai,outOA,Nd]
theorem LY(f:af→Int)(l:List af)(i:Nat)(h:i<l.length):(l.take (i+1)).foldl (ke f) 0=ke f ((l.take i).foldl (ke f) 0) l[i]:=by
 rw[gV,cD h,List.foldl_append];rfl
theorem LZ{ok:af→Bool}{f:af→Int}{l:List af}(h:j0 ok l=true):nE ok f l=l.foldl (ke f) 0:=by unfold nE;rw[h];rfl
theorem L0{ok:af→Bool}{f:af→Int}{l:List af}(h:j0 ok l=false):nE ok f l=0:=by unfold nE;rw[h];rfl
theorem abr(l:List af)(hz:∀x∈l,f_ x):aL 139 [.one (.sl 39 (l.map af.enc))] [.one (.int .i64 (nE gh jf l))]:=by
 refine a3 25 func139 call139 [.tmp 2] ?_;intro ok;have hm:=fI ok;clear ok;simp only[go_sem]
 cases hA:j0 gh l with
 |false=>
  have ai:=L0 (f:=jf) hA;refine cr.intro (fun i:Nat=>⟨(.d (.sl 39 (l.map af.enc))::.al::.al::.i 0::.i i::aA 20 []),[]⟩)
   (fun i=>0) (fun i=>i=0) 0 [] rfl ?_ ?_
  ·simp only[go_sem];simp
  ·rintro i rfl
   try simp only[go_sem,I]
   repeat'((first|refine ay.intro (by(apply Fh<;>exact a6)) ?_|refine bw ?_)<;>simp only[go_sem,hA,Bool.cond_self])
   all_goals simp[ai]
 |true=>
  have ai:=LZ (f:=jf) hA;refine cr.intro (fun i:Nat=>⟨(.d (.sl 39 (l.map af.enc))::.al::.al::.i ((l.take i).foldl (ke jf) 0)::.i i::aA 20 []),[]⟩)
   (fun i=>l.length-i) (fun i=>i≤l.length) 0 [] ω ?_ ?_
  ·simp only[go_sem];simp
  ·intro i hi;by_cases h1:i<l.length
   ·have ax:=bC (p:=(i:Int)<(l.length:Int)) ω;have aB:=cq af.enc l i h1;have hw:=dX h1 hm;have hs:=LY jf l i h1
    try simp only[go_sem,I,ax]
    repeat'(first|((first|refine ae.intro (by(apply Fh<;>exact a6)) ?_|with_reducible refine cN ?_)<;>simp only[go_sem,I,aE,aB,af.enc,hA])|(with_reducible refine az ?_)|fail)
    all_goals(refine bE.intro (i+1) [] ω ω ?_;simp only[go_sem,hw,hs];simp[ke,jf];try exact LX _ _)
   ·have ax:=bm (p:=(i:Int)<(l.length:Int)) ω;obtain rfl:i=l.length:=by omega
    try simp only[go_sem,I,ax,d3]
    repeat'(first|(with_reducible refine eB ?_<;>simp only[go_sem,Bool.cond_self]))
    all_goals simp[ai]
theorem abt(l:List af)(hz:∀x∈l,f_ x):aL 140 [.one (.sl 39 (l.map af.enc))] [.one (.int .i64 (nE gh ku l))]:=by
 refine a3 25 func140 call140 [.tmp 2] ?_;intro ok;have hm:=fI ok;clear ok;simp only[go_sem]
 cases hA:j0 gh l with
 |false=>
  have ai:=L0 (f:=ku) hA;refine cr.intro (fun i:Nat=>⟨(.d (.sl 39 (l.map af.enc))::.al::.al::.i 0::.i i::aA 20 []),[]⟩)
   (fun i=>0) (fun i=>i=0) 0 [] rfl ?_ ?_
  ·simp only[go_sem];simp
  ·rintro i rfl
   try simp only[go_sem,I]
   repeat'((first|refine ay.intro (by(apply Fh<;>exact a6)) ?_|refine bw ?_)<;>simp only[go_sem,hA,Bool.cond_self])
   all_goals simp[ai]
 |true=>
  have ai:=LZ (f:=ku) hA;refine cr.intro (fun i:Nat=>⟨(.d (.sl 39 (l.map af.enc))::.al::.al::.i ((l.take i).foldl (ke ku) 0)::.i i::aA 20 []),[]⟩)
   (fun i=>l.length-i) (fun i=>i≤l.length) 0 [] ω ?_ ?_
  ·simp only[go_sem];simp
  ·intro i hi;by_cases h1:i<l.length
   ·have ax:=bC (p:=(i:Int)<(l.length:Int)) ω;have aB:=cq af.enc l i h1;have hw:=dX h1 hm;have hs:=LY ku l i h1
    try simp only[go_sem,I,ax]
    repeat'(first|((first|refine ae.intro (by(apply Fh<;>exact a6)) ?_|with_reducible refine cN ?_)<;>simp only[go_sem,I,aE,aB,af.enc,hA])|(with_reducible refine az ?_)|fail)
    all_goals(refine bE.intro (i+1) [] ω ω ?_;simp only[go_sem,hw,hs];simp[ke,ku];try exact LX _ _)
   ·have ax:=bm (p:=(i:Int)<(l.length:Int)) ω;obtain rfl:i=l.length:=by omega
    try simp only[go_sem,I,ax,d3]
    repeat'(first|(with_reducible refine eB ?_<;>simp only[go_sem,Bool.cond_self]))
    all_goals simp[ai]
def MH:List (List bR):=cS 41 [36472996377170776916,36472996377170776914,36472996377170776921,36472996377170776899,36472996377170776845,36472996377170776683,36472996377170786038,36472996377170784580,36472996377170780206,36472996377170766720,36472996377170727354,36472996377170609256,36472996377170254962,36472996377169192080,36472996377166003434,36472984943861246454,36472984943832548640,36472984943932990989,36472984943617315035,36472984942842474057,36472984940517951123,36472995995360720040,36472995974440013634,36472996330092022536,36472996141805664882,36472995535105179108,36472993840527960222,36472988756796303564,36472973500378331442,36472927746793421520,36472790486038691754,36472378703774502456,36454466175282267993,36450760134904564311,36463731276226527198,36422964832071786696,36322901741873787282,36022712471279789040,35122144659497794314,32420441224151810136,24315330918113857602]
def SA:List (List bR):=cS 37 [450283905890997362,450283905890997360,450283905890997354,450283905890997336,450283905890997282,450283905890997120,450283905890996634,450283905890995176,450283905890990802,450283905890977680,450283905890938314,450283905890820216,450283905890465922,450283905889403040,450283905886214394,450283905876648456,450283905847950642,450283905761857200,450283905503576874,450283496774960979,450283494450438045,450283487476869243,450283889619336825,450283826857217607,450283638570859953,450283058602387920,450281364025169034,450276280293512376,442231274946851091,442185521361941169,442048260607211403,449963630796627909,448728284004060015,445022243626356333,433606724191330794,400252360791997656,300189270593998242]
attribute [go_sem] MH SA
def Ip(p:aT):Prop:=p.c0.length≤500∧∀f∈p.c0,f.data.length≤60
def jC(c:aa):Prop:=c.ab.length≤30∧(∀s∈c.ab,f_ s)∧c.an.length≤30∧∀p∈c.an,Ip p
theorem Dj{α:Type}(f:α→Nat)(m:Nat):∀(xs:List α),(∀x∈xs,f x≤m)→mc f xs≤m * xs.length
 |[],_=>by simp[mc]
 |x::xs,h=>by
  have h1:=Dj f m xs (fun y hy=>h y (List.mem_cons_of_mem _ hy));have h2:=h x ξ;have e:mc f (x::xs)=f x+mc f xs:=by simp[mc]
  rw[e,dA,Nat.mul_add];omega
theorem abm{s:af}(h:f_ s):af.fo s≤101300:=by
 obtain⟨h1,h2,ao,aN⟩:=h;have:=Dj aU.fo 1000 s.a2.bV.cp ao;simp only[af.fo,au.fo,dd.fo,b'.fo,mr.fo];omega
theorem SB{p:aT}(h:Ip p):aT.fo p≤30500:=by
 obtain⟨h1,h2⟩:=h;have:=Dj aq.fo 60 p.c0 h2;simp only[aT.fo];omega
theorem k5{c:aa}(h:jC c):aa.fo c≤4194304:=by
 obtain⟨h1,h2,ao,aN⟩:=h;have a:=Dj af.fo 101300 c.ab fun s hs=>abm (h2 s hs);have b:=Dj aT.fo 30500 c.an fun p hp=>SB (aN p hp);simp only[aa.fo];omega
theorem RW{α:Type}(p:α→Bool)(xs:List α)(i:Nat)(h:i<xs.length):(xs.take (i+1)).all p=((xs.take i).all p&&p xs[i]):=by
 rw[gV,cD h,List.all_append];simp
theorem RX{α:Type}(p:α→Bool)(xs:List α)(i:Nat)(h:i<xs.length)(h2:p xs[i]=false):xs.all p=false:=by
 rw[List.all_eq_false];exact⟨_,eS h,by simp[h2]⟩
theorem SC(xs:List aq):aL 138 [.one (.sl 9 (xs.map aq.enc))] [.one (.bool (xs.all d_))]:=by
 refine a3 16 func138 call138 [.tmp 2] ?_;intro ok;have hm:=fI ok;clear ok;simp only[go_sem];refine cr.intro (fun i:Nat=>⟨(.d (.sl 9 (xs.map aq.enc))::.al::.al::.i i::aA 12 []),[]⟩)
  (fun i=>xs.length-i) (fun i=>i≤xs.length∧(xs.take i).all d_=true) 0 [] ⟨by omega,by simp⟩ ?_ ?_
 ·simp only[go_sem];simp
 ·rintro i ⟨hi,he⟩;by_cases h1:i<xs.length
  ·have ax:=bC (p:=(i:Int)<(xs.length:Int)) ω;have aB:=cq aq.enc xs i h1;have hw:=dX h1 hm;have hs:=RW d_ xs i h1;have bB:=yS xs[i].bp xs[i].aC xs[i].aH xs[i].data xs[i].aW xs[i].c4 xs[i].aZ xs[i].br xs[i].ft;change PureCall _ _ _ [.one (.bool (d_ xs[i]))]at bB
   try simp only[go_sem,I,aE,aB,aq.enc,ax]
   repeat'(first|((first|refine ae.intro ‹_› ?_|refine ay.intro ‹_› ?_|refine bP (fun h=>?_) (fun h=>?_))<;>simp only[go_sem])|(with_reducible refine az ?_)|fail)
   ·have:=RX d_ xs i h1 (by simpa using h);simp[this]
   ·refine bE.intro (i+1) [] ⟨by omega,by rw[hs,he];simpa using h⟩ ω ?_;simp only[go_sem,hw];try simp
  ·have ax:=bm (p:=(i:Int)<(xs.length:Int)) ω;obtain rfl:i=xs.length:=by omega
   rw[d3]at he;simp only[go_sem,I,ax];simp[he]
def lz(n:Int)(l:List aT)(i:Nat):Bool:=z7 (fun p=>p.bO) (qS n) l i
theorem abn(n:Int)(l:List aT)(h:0<l.length):lz n l 0=(ca l[0].bO 0 (i64.wrap (n-1))&&l[0].c0.all d_):=zQ _ _ _ h
theorem abo(n:Int)(l:List aT)(j:Nat)(h:j+1<l.length):lz n l (j+1)=(ca l[j+1].bO 0 (i64.wrap (n-1))&&l[j+1].c0.all d_&&decide (l[j].bO<l[j+1].bO)):=yC _ _ _ _ h
theorem abp(ok:af→Bool)(c:aa):(bif bif bif bif bif bif bif bif !jg c.own then true else !jg c.da then true else !j0 ok c.ab then true else !ju c.cm then true else !k9 c.dq then true else !kx c.fe then true else !kx c.fc then true else !jJ c.eo then true else !jJ c.en)=!yR ok c:=by
 unfold yR
 cases jg c.own<;>cases jg c.da<;>cases j0 ok c.ab<;>cases ju c.cm<;>cases k9 c.dq<;>cases kx c.fe<;>cases kx c.fc<;>cases jJ c.eo<;>cases jJ c.en<;>rfl
theorem abq(ok:af→Bool)(c:aa):(bif bif bif bif bif ca c.dE (-1) 4611686018427387903 then ca c.bO 0 1000000 else false then ca c.ef 0 1000000 else false then ca c.d9 0 255 else false then decide (nE ok jf c.ab≤c.cm.eg)else false then decide (nE ok ku c.ab≤c.dq.seen)else false)=BK ok c:=by
 unfold BK;simp only[di]
theorem xq(c:aa)(hz:jC c):aL 67 [.agg (aa.enc c)] [.one (.bool (gq c))]:=by
 refine a3 140 func67 call67 [.tmp 2] ?_;intro ok;clear ok;obtain⟨qY,nC,yQ,Dh⟩:=hz;have ai:=abp gh c;have hB:=abq gh c;have aS:gq c=(yR gh c&&wa c.bO c.an&&BK gh c):=rfl
 try simp only[go_sem]
 repeat'((first|refine ae.intro (by apply Fg) ?_|refine ay.intro (by first|apply Fg|(apply Fh<;>exact a6)|apply z8|apply Fi|apply MI|apply IK) ?_|refine bw ?_)<;>simp only[go_sem])
 rw[ai]
 cases hA:yR gh c with
 |false=>
  simp only[go_sem,cR];simp[aS,hA]
 |true=>
  rw[hA]at aS;simp only[go_sem,bN];refine cr.intro (fun i:Nat=>⟨(.al::.ptr 0 0 0::.al::.i i::aA 136 []),[.box (aa.bT c)]⟩)
   (fun i=>c.an.length-i) (fun i=>i≤c.an.length∧k6 (lz c.bO c.an) i=true) 0 [0] ⟨by omega,by simp[k6]⟩ ?_ ?_
  ·simp only[go_sem];simp
  ·rintro i ⟨hi,he⟩;by_cases h1:i<c.an.length
   ·have ax:=bC (p:=(i:Int)<(c.an.length:Int)) ω;have aB:=cq aT.enc c.an i h1;have hw:i64.wrap ((i:Int)+1)=((i+1:Nat):Int):=by rw[bA]<;>omega
    have hs:=C_ (lz c.bO c.an) i;have hf:lz c.bO c.an i=false→wa c.bO c.an=false:=fun h=>EX (lz c.bO c.an) h1 h
    cases i with
    |zero=>
     have hb:=abn c.bO c.an h1;have h2:decide ((0:Int)<((0:Nat):Int))=false:=by decide
     try simp only[go_sem,I,ax]
     repeat'(first|((first|refine ay.intro (by first|apply j1|apply SC) ?_|with_reducible refine lR ?_|refine f' ?_|refine bo MH χ ψ ?_|refine bP (fun h=>?_) (fun h=>?_))<;>simp only[go_sem,I,aE,aB,aT.enc,h2])|(with_reducible refine az ?_)|fail)
     ·have e:lz c.bO c.an 0=false:=by rw[hb];revert h;cases ca c.an[0].bO 0 (i64.wrap (c.bO-1))<;>cases c.an[0].c0.all d_<;>simp
      simp[aS,hf e]
     ·have e:lz c.bO c.an 0=true:=by rw[hb];revert h;cases ca c.an[0].bO 0 (i64.wrap (c.bO-1))<;>cases c.an[0].c0.all d_<;>simp
      refine bE.intro 1 [0] ⟨by omega,by rw[hs,he,e];rfl⟩ ω ?_;simp only[go_sem,hw];try simp
    |succ j=>
     have hb:=abo c.bO c.an j h1;have g3:=cq aT.enc c.an j ω;have h2:=bC (p:=(0:Int)<((j+1:Nat):Int)) ω;have hp:i64.wrap (((j+1:Nat):Int)-1)=(j:Int):=by rw[bA]<;>omega
     try simp only[go_sem,I,ax]
     repeat'(first|((first|refine ay.intro (by first|apply j1|apply SC) ?_|refine f' ?_|refine bo MH χ ψ ?_|refine bP (fun h=>?_) (fun h=>?_))<;>simp only[go_sem,I,aE,aB,g3,aT.enc,h2,hp])|(with_reducible refine az ?_)|fail)
     ·have e:lz c.bO c.an (j+1)=false:=by rw[hb];revert h;cases ca c.an[j+1].bO 0 (i64.wrap (c.bO-1))<;>cases c.an[j+1].c0.all d_<;>simp
      simp[aS,hf e]
     ·have e:lz c.bO c.an (j+1)=true:=by rw[hb];revert h;cases ca c.an[j+1].bO 0 (i64.wrap (c.bO-1))<;>cases c.an[j+1].c0.all d_<;>simp
      refine bE.intro (j+1+1) [0] ⟨by omega,by rw[hs,he,e];rfl⟩ ω ?_;simp only[go_sem,hw];try simp
   ·have ax:=bm (p:=(i:Int)<(c.an.length:Int)) ω;obtain rfl:i=c.an.length:=by omega
    have gB:wa c.bO c.an=true:=he;rw[gB]at aS
    try simp only[go_sem,I,ax]
    repeat'((first|refine ay.intro (by first|apply j1|(apply abr<;>exact a6)|(apply abt<;>exact a6)) ?_|refine f' ?_|refine bo SA χ ψ ?_)<;>simp only[go_sem])
    rw[hB];simp[aS]
theorem abu(c:aa):aL 97 [.agg (aa.enc c)] [.one (.bool (decide (c.d9≠0)))]:=by
 refine a3 6 func97 call97 [.tmp 2] ?_;intro _
 try simp only[go_sem]
def iv(c:aa):Bool:=gq c&&decide (c.d9=0)
theorem xf(c:aa)(hz:jC c):aL 40 [.agg (aa.enc c)] [.one (.bool (iv c))]:=by
 refine a3 10 func40 call40 [.tmp 2] ?_;intro _
 try simp only[go_sem]
 repeat'((first|refine ae.intro (by(apply xq<;>exact a6)) ?_|refine ay.intro (by apply abu) ?_|refine bw ?_)<;>simp only[go_sem])
 all_goals(refine gd ?_;simp[iv])
theorem pA{l:List af}(hz:∀s∈l,f_ s)(id:Int):f_ (cf l id).1:=by
 unfold cf;split
 ·rename_i s h;exact hz _ (List.mem_of_find?_eq_some h)
 ·exact⟨by simp[lD],by simp[lD],by simp[lD],by simp[lD]⟩
theorem oY(c:aa)(id:Int)(hz:jC c):aL 66 [.agg (aa.enc c),.one (.int .i64 id)] [.agg (af.enc ((cf c.ab id).1)),.one (.bool (cf c.ab id).2)]:=by
 refine a3 20 func66 call66 [.cell 4 66,.tmp 5] ?_;intro ok;clear ok;obtain⟨qY,nC,yQ,Dh⟩:=hz;simp only[go_sem];refine ae.intro (MD c.ab id) ?_;simp only[go_sem];rcases oq (fp id) c.ab with ⟨h1,h2⟩|⟨j,aK,h1,h2,ao⟩
 ·rw[h1];have ai:cf c.ab id=(lD,false):=by unfold cf;rw[h2]
  try simp only[go_sem]
  all_goals simp[ai,lD]
 ·rw[h1];have ai:cf c.ab id=(c.ab[j],true):=by unfold cf;rw[h2]
  have hlt:=bm (p:=(j:Int)<0) ω;have aB:=cq af.enc c.ab j aK;obtain⟨bD,bX,bu,bS⟩:=nC _ (eS aK)
  try simp only[go_sem,I,hlt,aE,aB,af.enc]
  repeat'(first|(refine ae.intro (by(apply zZ<;>exact a6)) ?_<;>simp only[go_sem,I,af.enc])|(with_reducible refine az ?_)|fail)
  all_goals simp[ai]
def Sd:List (List bR):=cS 10 [58940,58938,58932,59035,58981,58077,58563,56862,52488,39366]
attribute [go_sem] Sd
theorem Mt(c:aa)(hx:aa.fo c≤4194304):aL 29 [.agg (aa.enc c)] [.agg (aa.enc c)]:=by
 refine a3 12 func29 call29 [.cell 2 37] ?_;intro _;simp only[aa.fo]at hx
 try simp only[go_sem]
 repeat'((first|refine ay.intro (by first|(apply aa2<;>exact a6)|(apply Se<;>exact a6)) ?_|refine bo Sd χ ψ ?_)<;>simp only[go_sem,I])
 all_goals simp
theorem iw(c:aa)(hx:aa.fo c≤4194304):aL 39 [.agg (aa.enc c)] [.agg (aa.enc c)]:=by
 refine a3 33 func39 call39 [.cell 2 37] ?_;intro _;simp only[aa.fo]at hx;have hm:c.ab.length≤maxLen:=by simp only[maxLen];omega
 simp only[go_sem];refine cr.intro (fun i:Nat=>⟨(.al::.ptr 0 0 0::.ptr 1 0 0::.ptr 2 0 0::.i i::aA 28 []),[.box (aa.bT c),.box aa.cc,.box (aa.aG c (.sl 3 0 i) (.d (.sl 2 (c.an.map aT.enc)))),.ah 39 ((c.ab.take i).map af.enc) true]⟩)
   (fun i=>c.ab.length-i) (fun i=>i≤c.ab.length) 0 [0,1,2,3] ω ?_ ?_
 ·simp only[go_sem];simp
 ·intro i hi;have hl:(c.ab.take i).length=i:=by simp;omega
  simp only[go_sem,I];refine bP (fun h1=>?_) (fun h1=>?_)
  ·simp only[b8]at h1;have hlt:i<c.ab.length:=by omega
   have aB:=cq af.enc c.ab i hlt;have hw:=dX hlt hm;have hb:=E5 af.fo c.ab i hlt;simp only[af.fo,au.fo,dd.fo,b'.fo,mr.fo]at hb;simp only[af.enc]at aB;have mb:((c.ab.take i).map af.enc).take i=(c.ab.take i).map af.enc:=e7 (by rw[I,hl];exact fE _);have dx:=Ix af.enc c.ab i hlt;simp only[af.enc]at dx
   try simp only[go_sem,I,aE,aB]
   repeat'(first|(refine ae.intro (by(apply zZ<;>exact a6)) ?_<;>simp only[go_sem,I,hl])|(with_reducible refine az ?_)|fail)
   all_goals(refine bE.intro (i+1) [0,1,2,11] ω ω ?_;simp only[go_sem,hw];simp[dx])
  ·simp only[eG]at h1;have hC:i=c.ab.length:=by omega
   subst hC
   try simp only[go_sem,d3]
   repeat'(refine ae.intro (by(apply aa3<;>exact a6)) ?_<;>simp only[go_sem,I])
   all_goals simp
@[go_sem] theorem J.oH(a:J):(⟨a.low,a.high⟩:J)=a:=rfl
@[go_sem] theorem dd.oH(a:dd):(⟨a.size,a.base,a.cu,a.cells⟩:dd)=a:=rfl
@[go_sem] theorem au.oH(a:au):(⟨a.b0,a.av,a.aP,a.aM,a.a0,a.br,a.aW,a.cw,a.c4⟩:au)=a:=rfl
@[go_sem] theorem aU.oH(a:aU):(⟨a.aH,a.data⟩:aU)=a:=rfl
@[go_sem] theorem mr.oH(a:mr):(⟨a.next,a.cp⟩:mr)=a:=rfl
@[go_sem] theorem b'.oH(a:b'):(⟨a.b0,a.bV,a.br,a.gw,a.c4⟩:b')=a:=rfl
@[go_sem] theorem dU.oH(a:dU):(⟨a.aZ,a.eg,a.blocked,a.gr⟩:dU)=a:=rfl
@[go_sem] theorem eD.oH(a:eD):(⟨a.size,a.ck,a.aZ,a.seen,a.gF,a.kk⟩:eD)=a:=rfl
@[go_sem] theorem j6.oH(a:j6):(⟨a.ew,a.hO⟩:j6)=a:=rfl
@[go_sem] theorem iy.oH(a:iy):(⟨a.aZ,a.jO,a.blocked⟩:iy)=a:=rfl
@[go_sem] theorem eL.oH(a:eL):(⟨a.ck,a.aZ,a.seen,a.d9⟩:eL)=a:=rfl
@[go_sem] theorem ff.oH(a:ff):(⟨a.av,a.b1,a.lW,a.cm,a.lX,a.k8,a.ft,a.eP⟩:ff)=a:=rfl
@[go_sem] theorem aq.oH(a:aq):(⟨a.bp,a.aC,a.aH,a.data,a.aW,a.c4,a.aZ,a.br,a.ft⟩:aq)=a:=rfl
@[go_sem] theorem af.oH(a:af):(⟨a.id,a.ak,a.cV,a.a2,a.b1,a.cL,a.fF,a.gO,a.jG,a.hL,a.k_,a.j2,a.oB,a.nz⟩:af)=a:=rfl
@[go_sem] theorem bL.oH(a:bL):(⟨a.aH,a.data,a.aW⟩:bL)=a:=rfl
@[go_sem] theorem b9.oH(a:b9):(⟨a.id,a.cL⟩:b9)=a:=rfl
@[go_sem] theorem aT.oH(a:aT):(⟨a.bO,a.c0⟩:aT)=a:=rfl
@[go_sem] theorem aa.oH(a:aa):(⟨a.eO,a.own,a.da,a.ab,a.cm,a.dq,a.fe,a.fc,a.eo,a.en,a.pF,a.lF,a.lG,a.dE,a.bO,a.an,a.ef,a.d9⟩:aa)=a:=rfl
def Mz:List (List bR):=cS 12 [524867,524878,524872,524853,524799,521721,502524,444933,528160,514674,474579,354294]
def MA:List (List bR):=cS 23 [90634871105,90634871103,90634871097,90634871079,90634873333,90634874224,90634873738,90634872199,90635133505,90635120383,90635081017,90634962919,90656128705,90655065823,90651877177,90642311239,90613347705,90527254263,89106712470,79421200245,92399786626,84845087091,62762119218]
def MB:List (List bR):=cS 10 [57956,58804,58798,58780,58726,58927,58321,56862,52488,39366]
attribute [go_sem] Mz MA MB
def pB(id:Int)(k:Nat):Int:=i64.wrap (id-i64.wrap (4 * (k:Int)))
def pC(v:Bool)(o p:ff)(id:Int):Nat→List af→List af
 |0,l=>l
 |k+1,l=>pC v o p id k (eC l (lA v (pB id k) o p))
theorem abh(n:Int):(pD n).av.cells.length≤64∧(pD n).aP=[]∧(pD n).aM=[]∧(pD n).a0=[]:=by
 unfold pD;split
 ·rename_i h;have:=Dg h;refine⟨?_,rfl,rfl,rfl⟩;simp only[vg,h,if_true,List.length_replicate];omega
 ·simp[MC]
theorem E9(v:Bool)(i:Int)(o p:ff):f_ (lA v i o p):=by
 unfold lA;split
 ·obtain⟨h1,h2,ao,aN⟩:=abh o.av;refine⟨by simp only[h2,ao,aN];simp,by simp only;omega,by simp[z4],by simp[z4]⟩
 ·exact⟨by simp[lD],by simp[lD],by simp[lD],by simp[lD]⟩
theorem Sq{l:List af}{s:af}(hz:∀x∈l,f_ x)(hs:f_ s):∀x∈eC l s,f_ x:=fun x hx=>by
 rcases BI hx with h|rfl
 ·exact hz x h
 ·exact hs
def qb(c:aa)(id:Int):eL:=if ve id then c.en else c.eo
def qc(c:aa)(id:Int):Int:=ot (qb c id) (jI id)
def xo(c:aa)(id:Int):Bool:=xp (qb c id) (jI id)&&!decide (qc c id=0)&&!decide (24<i64.wrap ((c.ab.length:Int)+qc c id))
def ie(c:aa)(id:Int):Int:=if !(gq c&&bQ id)then 7 else if 0≤iH (fp id) c.ab then 0 else if qW c.eO id then 5 else if xo c id then 0 else 4
def z5(c:aa)(id:Int)(a:eL):aa:=if ve id then {c with en:=a}else {c with eo:=a}
def cP(c:aa)(id:Int):aa:=
 if gq c&&bQ id&&decide (iH (fp id) c.ab<0)&&!qW c.eO id&&xo c id then
  {z5 c id (mu (qb c id) (jI id))with ab:=pC c.eO c.own c.da id (qc c id).toNat c.ab}else c
theorem abi(a:eL)(i:Int):0≤ot a i∧ot a i≤1152921504606846977:=by
 unfold ot;split
 ·rename_i h;simp only[xp,jJ,ca,bW,b8]at h;rw[bA (n:=i+1) ω ω,bA (n:=i+1-a.seen) ω ω];unfold dp;split<;>omega
 ·omega
theorem IH{c:aa}{id:Int}(h:xo c id=true)(hl:c.ab.length≤1000):0<qc c id∧(c.ab.length:Int)+qc c id≤24:=by
 have:=abi (qb c id) (jI id);simp only[xo,bW,Bool.not_eq_true',eG]at h;unfold qc at h⊢;rw[bA ω ω]at h;omega
theorem Sr(v:Bool)(o p:ff)(id:Int):∀(k:Nat) (l:List af),(pC v o p id k l).length≤l.length+k
 |0,l=>by simp[pC]
 |k+1,l=>by
  have h1:=Sr v o p id k (eC l (lA v (pB id k) o p));have h2:=II l (lA v (pB id k) o p);rw[pC];omega
theorem Ss(c:aa)(id:Int)(a:eL)(h:qb c id=a):(bif bif !xp a (jI id)then true else decide (ot a (jI id)=0)then true else decide (24<i64.wrap ((c.ab.length:Int)+ot a (jI id))))=!xo c id:=by
 subst h;unfold xo qc
 cases xp (qb c id) (jI id)<;>cases decide (ot (qb c id) (jI id)=0)<;>cases decide (24<i64.wrap ((c.ab.length:Int)+ot (qb c id) (jI id)))<;>rfl
theorem IJ(c:aa)(id:Int)(hz:jC c):aL 288 [.agg (aa.enc c),.one (.int .i64 id)] [.agg (aa.enc ((cP c id))),.one (.int .i64 (ie c id))]:=by
 refine a3 72 func288 call288 [.cell 4 37,.tmp 5] ?_;intro ok;clear ok;have lv:=k5 hz;have eX:=hz;obtain⟨qY,nC,yQ,Dh⟩:=hz;have a1:cP c id=if gq c&&bQ id&&decide (iH (fp id) c.ab<0)&&!qW c.eO id&&xo c id then {z5 c id (mu (qb c id) (jI id))with ab:=pC c.eO c.own c.da id (qc c id).toNat c.ab}else c:=rfl
 have ai:ie c id=if !(gq c&&bQ id)then 7 else if 0≤iH (fp id) c.ab then 0 else if qW c.eO id then 5 else if xo c id then 0 else 4:=rfl
 try simp only[go_sem]
 repeat'((first|refine ae.aj (by first|(apply iw<;>exact a6)|(apply xq<;>exact a6)) ?_|refine ay.aj (by apply jF) ?_|refine bw ?_)<;>simp only[go_sem,I])
 cases h1:gq c&&bQ id with
 |false=>
  have hb:(bif !gq c then true else !bQ id)=true:=by revert h1;cases gq c<;>cases bQ id<;>simp
  rw[h1]at a1 ai;simp only[hb];simp only[go_sem,I];simp[a1,ai]
 |true=>
  have hb:(bif !gq c then true else !bQ id)=false:=by revert h1;cases gq c<;>cases bQ id<;>simp
  rw[h1]at a1 ai;simp only[hb];simp only[go_sem];refine ae.intro (MD c.ab id) ?_;simp only[go_sem];rcases oq (fp id) c.ab with ⟨eH,fU⟩|⟨j,aK,eH,fU,f3⟩
  ·have ME:decide ((0:Int)≤-1)=false:=by decide
   have xr:decide ((-1:Int)<0)=true:=by decide
   rw[eH,xr]at a1;rw[eH]at ai;simp only[eH,ME];simp only[go_sem];refine ae.intro (E' c.eO id) ?_;simp only[go_sem]
   cases c3:qW c.eO id with
   |true=>
    rw[c3]at a1 ai;simp only[go_sem,I];simp[a1,ai]
   |false=>
    rw[c3]at a1 ai;simp only[go_sem];refine ae.intro (BB id) ?_;simp only[go_sem]
    cases lU:ve id with
    |true=>
     have hA:qb c id=c.en:=by unfold qb;rw[lU];rfl
     have hW:∀a,z5 c id a={c with en:=a}:=fun a=>by unfold z5;rw[lU];rfl
     have b7:=Ss c id _ hA
     try simp only[go_sem]
     repeat'((first|refine ae.aj ‹_› ?_|refine ay.aj (by first|assumption|apply Su|apply Sv) ?_|refine bw ?_|refine bo Mz χ ψ ?_)<;>simp only[go_sem,I])
     rw[b7]
     cases hg:xo c id with
     |false=>
      rw[hg]at a1 ai;simp only[go_sem,I,cR];simp[a1,ai]
     |true=>
      rw[hg]at a1 ai;have hn:qc c id=ot c.en (jI id):=by unfold qc;rw[hA]
      simp only[go_sem,bN];refine ae.intro (BB id) ?_;simp only[go_sem,lU];obtain⟨we,vh⟩:=IH hg ω;rw[hn]at we vh a1;obtain⟨N,bH⟩:=kt (show 0≤ot c.en (jI id)by omega);rw[bH]at we vh a1;rw[aE]at a1;have MF:i64.wrap ((N:Int)-1)=(N:Int)-1:=by rw[bA]<;>omega
      refine ae.jD [1,2,4,5,6] (by simp only[hZ,List.elem_cons,List.elem_nil,Nat.reduceBEq,Nat.reduceAdd,c_,dK];rfl) (fY (n:=44) (rs:=[]) func305 rfl call305 b2 rfl rfl ?_);simp only[go_sem,bH,MF];refine cr.intro (α:=Nat×List af) (fun y=>⟨(.ptr 4 0 0::.i id::aA 4 (.i ((y.1:Int)-1)::aA 37 [])),[.box (aa.bT c),.box aa.cc,.aj 39 (y.2.map af.enc),.aj 2 (c.an.map aT.enc),.box (aa.aG ({c with en:=mu c.en (jI id)}) (.sl 2 0 y.2.length) (.sl 3 0 c.an.length)),.box [.i c.en.ck,.i c.en.aZ,.i c.en.seen,.i c.en.d9],.box [.d (.int .i64 (mu c.en (jI id)).ck),.d (.int .i64 (mu c.en (jI id)).aZ),.d (.int .i64 (mu c.en (jI id)).seen),.d (.int .i64 (mu c.en (jI id)).d9)]]⟩)
       (fun y=>y.1) (fun y=>y.1≤N∧pC c.eO c.own c.da id y.1 y.2=pC c.eO c.own c.da id N c.ab∧y.2.length+y.1≤c.ab.length+N∧∀s∈y.2,f_ s) (N,c.ab) [0,1,2,3,4,5,6] ⟨by omega,rfl,by simp,nC⟩ ?_ ?_
      ·simp only[go_sem];simp
      ·rintro⟨k,l⟩ ⟨hk,he,u',d'⟩;simp only at hk he u' d'
       cases k with
       |zero=>
        have hd:decide ((0:Int)≤((0:Nat):Int)-1)=false:=by decide
        simp only[go_sem,hd];have BJ:pC c.eO c.own c.da id N c.ab=l:=he.symm;rw[BJ,hW,hA]at a1;simp[a1,ai,outOA]
       |succ k=>
        have hd:=bC (p:=(0:Int)≤(k:Int)) ω;have vi:((k+1:Nat):Int)-1=(k:Int):=by omega
        have qZ:i64.wrap ((k:Int)-1)=(k:Int)-1:=by rw[bA]<;>omega
        have gg:i64.wrap (id-i64.wrap (4 * (k:Int)))=pB id k:=rfl;have gB:=nu l (lA c.eO (pB id k) c.own c.da) ω d' (E9 _ _ _ _)
        try simp only[go_sem,vi,hd]
        repeat'((first|refine ae.aj ‹_› ?_|refine ay.aj (by first|assumption|apply Iz) ?_|refine bo MA χ ψ ?_|refine bo MB χ ψ ?_)<;>simp only[go_sem,I,qZ,gg])
        have Sw:=II l (lA c.eO (pB id k) c.own c.da);refine bE.intro (k,eC l (lA c.eO (pB id k) c.own c.da)) [0,1,13,3,4,5,6] ⟨by omega,he,by simp only;omega,Sq d' (E9 _ _ _ _)⟩ (by simp only;omega) ?_;simp only[go_sem];simp
    |false=>
     have hA:qb c id=c.eo:=by unfold qb;rw[lU];rfl
     have hW:∀a,z5 c id a={c with eo:=a}:=fun a=>by unfold z5;rw[lU];rfl
     have b7:=Ss c id _ hA
     try simp only[go_sem]
     repeat'((first|refine ay.aj (by first|apply Su|apply Sv) ?_|refine bw ?_|refine bo Mz χ ψ ?_)<;>simp only[go_sem,I])
     rw[b7]
     cases hg:xo c id with
     |false=>
      rw[hg]at a1 ai;simp only[go_sem,I,cR];simp[a1,ai]
     |true=>
      rw[hg]at a1 ai;have hn:qc c id=ot c.eo (jI id):=by unfold qc;rw[hA]
      simp only[go_sem,bN];refine ae.intro (BB id) ?_;simp only[go_sem,lU];obtain⟨we,vh⟩:=IH hg ω;rw[hn]at we vh a1;obtain⟨N,bH⟩:=kt (show 0≤ot c.eo (jI id)by omega);rw[bH]at we vh a1;rw[aE]at a1;have MF:i64.wrap ((N:Int)-1)=(N:Int)-1:=by rw[bA]<;>omega
      refine ae.jD [1,2,4,5,6] (by simp only[hZ,List.elem_cons,List.elem_nil,Nat.reduceBEq,Nat.reduceAdd,c_,dK];rfl) (fY (n:=44) (rs:=[]) func305 rfl call305 b2 rfl rfl ?_);simp only[go_sem,bH,MF];refine cr.intro (α:=Nat×List af) (fun y=>⟨(.ptr 4 0 0::.i id::aA 4 (.i ((y.1:Int)-1)::aA 37 [])),[.box (aa.bT c),.box aa.cc,.aj 39 (y.2.map af.enc),.aj 2 (c.an.map aT.enc),.box (aa.aG ({c with eo:=mu c.eo (jI id)}) (.sl 2 0 y.2.length) (.sl 3 0 c.an.length)),.box [.i c.eo.ck,.i c.eo.aZ,.i c.eo.seen,.i c.eo.d9],.box [.d (.int .i64 (mu c.eo (jI id)).ck),.d (.int .i64 (mu c.eo (jI id)).aZ),.d (.int .i64 (mu c.eo (jI id)).seen),.d (.int .i64 (mu c.eo (jI id)).d9)]]⟩)
       (fun y=>y.1) (fun y=>y.1≤N∧pC c.eO c.own c.da id y.1 y.2=pC c.eO c.own c.da id N c.ab∧y.2.length+y.1≤c.ab.length+N∧∀s∈y.2,f_ s) (N,c.ab) [0,1,2,3,4,5,6] ⟨by omega,rfl,by simp,nC⟩ ?_ ?_
      ·simp only[go_sem];simp
      ·rintro⟨k,l⟩ ⟨hk,he,u',d'⟩;simp only at hk he u' d'
       cases k with
       |zero=>
        have hd:decide ((0:Int)≤((0:Nat):Int)-1)=false:=by decide
        simp only[go_sem,hd];have BJ:pC c.eO c.own c.da id N c.ab=l:=he.symm;rw[BJ,hW,hA]at a1;simp[a1,ai,outOA]
       |succ k=>
        have hd:=bC (p:=(0:Int)≤(k:Int)) ω;have vi:((k+1:Nat):Int)-1=(k:Int):=by omega
        have qZ:i64.wrap ((k:Int)-1)=(k:Int)-1:=by rw[bA]<;>omega
        have gg:i64.wrap (id-i64.wrap (4 * (k:Int)))=pB id k:=rfl;have gB:=nu l (lA c.eO (pB id k) c.own c.da) ω d' (E9 _ _ _ _)
        try simp only[go_sem,vi,hd]
        repeat'((first|refine ae.aj ‹_› ?_|refine ay.aj (by first|assumption|apply Iz) ?_|refine bw ?_|refine bo MA χ ψ ?_|refine bo MB χ ψ ?_)<;>simp only[go_sem,I,qZ,gg])
        have Sw:=II l (lA c.eO (pB id k) c.own c.da);refine bE.intro (k,eC l (lA c.eO (pB id k) c.own c.da)) [0,1,13,3,4,5,6] ⟨by omega,he,by simp only;omega,Sq d' (E9 _ _ _ _)⟩ (by simp only;omega) ?_;simp only[go_sem];simp
  ·have ME:=bC (p:=(0:Int)≤(j:Int)) ω;have xr:=bm (p:=(j:Int)<0) ω;rw[eH,xr]at a1;rw[eH]at ai;simp only[eH,ME];simp only[go_sem,I];simp[a1,ai]
def aO(c:aa)(id:Int):af:=(cf c.ab id).1
def lS(c:aa)(id:Int):Bool:=iv c&&(cf c.ab id).2&&(aO c id).fF
theorem Iy(c:aa)(id:Int):(bif bif !iv c then true else !(cf c.ab id).2 then true else !(aO c id).fF)=!lS c id:=by
 unfold lS
 cases iv c<;>cases(cf c.ab id).2<;>cases(aO c id).fF<;>rfl
def iG(s:af)(x:au):af:={s with ak:=x}
def nA(c:aa)(id:Int)(d:List UInt8):aa:=if lS c id then {c with ab:=eC c.ab (iG (aO c id) (g5 (aO c id).ak d))}else c
def Fb(c:aa)(id:Int)(d:List UInt8):Int:=if lS c id then xm (aO c id).ak d else 0
theorem abd(c:aa)(id:Int)(d:List UInt8)(hz:jC c)(hd:d.length≤1048576)(hw:f_ (iG (aO c id) (g5 (aO c id).ak d))):aL 217 [.agg (aa.enc c),.one (.int .i64 id),.one (.str d)] [.one (.int .i64 (Fb c id d)),.agg (aa.enc ((nA c id d)))]:=by
 refine a3 50 func217 call217 [.tmp 6,.cell 7 37] ?_;intro ok;clear ok;have lv:=k5 hz;have bq:nA c id d=if lS c id then {c with ab:=eC c.ab (iG (aO c id) (g5 (aO c id).ak d))}else c:=rfl
 have bH:Fb c id d=if lS c id then xm (aO c id).ak d else 0:=rfl
 have b7:=Iy c id;obtain⟨dW,ek,dt,eF⟩:=pA hz.2.1 id;have c3:=oY c id hz;rw[show(cf c.ab id).1=aO c id from rfl]at dW ek dt eF c3;have gB:=nu c.ab (iG (aO c id) (g5 (aO c id).ak d)) (by have:=hz.1;omega) hz.2.1 hw;generalize aO c id=s at *
 try simp only[go_sem]
 repeat'((first|refine ae.aj (by first|assumption|(apply iw<;>exact a6)|(apply xf<;>exact a6)) ?_|refine ay.aj ‹_› ?_|refine bw ?_)<;>simp only[go_sem,I])
 rw[b7]
 cases hg:lS c id with
 |false=>
  rw[hg]at bq bH
  try simp only[go_sem,cR]
  repeat'(first|((first|refine ae.aj ‹_› ?_|refine ay.aj ‹_› ?_|refine bo [[.post,.dN,.post],[.dN,.post,.post],[.pre,.pre,.post]] χ ψ ?_)<;>simp only[go_sem,I])|(with_reducible refine az ?_)|fail)
  all_goals simp[bq,bH]
 |true=>
  rw[hg]at bq bH
  try simp only[go_sem,I,bN]
  repeat'(first|((first|refine ae.aj (by first|assumption|(apply So<;>exact a6)) ?_|refine ay.aj ‹_› ?_|refine bo [[.post,.dN,.post,.post],[.dN,.post,.dN,.post],[.pre,.dN,.post,.post],[.pre,.pre,.pre,.post]] χ ψ ?_)<;>simp only[go_sem,I,iG])|(with_reducible refine az ?_)|fail)
  all_goals simp[bq,bH,iG]
def yO(c:aa)(s:af):Bool:=!s.nz&&!qW c.eO s.id&&Fa s
def wh(c:aa)(s:af):af:=if yO c s then {s with nz:=true}else s
def BC(c:aa)(s:af):aa:=if yO c s then(if ve s.id then {c with en:=wi c.en}else {c with eo:=wi c.eo})else c
def fL(c:aa)(s:af):aa:={BC c s with ab:=eC c.ab (wh c s)}
theorem Sj(c:aa)(s:af):(bif bif s.nz then true else qW c.eO s.id then true else !Fa s)=!yO c s:=by
 unfold yO
 cases s.nz<;>cases qW c.eO s.id<;>cases Fa s<;>rfl
theorem Sl{c:aa}{s:af}(h:yO c s=false):fL c s={c with ab:=eC c.ab s}:=by unfold fL BC wh;rw[h];rfl
theorem Sm{c:aa}{s:af}(h:yO c s=true)(hu:ve s.id=true):fL c s={c with en:=wi c.en,ab:=eC c.ab {s with nz:=true}}:=by unfold fL BC wh;rw[h,hu];rfl
theorem Sn{c:aa}{s:af}(h:yO c s=true)(hu:ve s.id=false):fL c s={c with eo:=wi c.eo,ab:=eC c.ab {s with nz:=true}}:=by unfold fL BC wh;rw[h,hu];rfl
def Si:List (List bR):=cS 22 [31381059608,31381059606,31381059600,31381059582,31381059528,31380272046,31380271560,31380270102,31380265728,31381049646,31381010280,31380892182,31380537888,31379465286,31376276640,31366710702,31338012888,31251919446,30993639120,30218798142,27894275208,20920706406]
def ID:List (List bR):=cS 10 [57956,58804,58798,58780,58726,58927,58321,56862,52488,39366]
attribute [go_sem] Si ID
def g4(s:af)(k:Int):af:={s with ak:=iz s.ak k,jG:=true}
def z3(c:aa)(id k:Int):Bool:=lS c id&&oZ (aO c id).ak k
def nx(c:aa)(id k:Int):aa:=if z3 c id k then fL c (g4 (aO c id) k)else c
theorem aba(c:aa)(id k:Int)(hz:jC c)(hw:f_ (g4 (aO c id) k)):aL 220 [.agg (aa.enc c),.one (.int .i64 id),.one (.int .i64 k)] [.agg (aa.enc ((nx c id k))),.one (.bool (z3 c id k))]:=by
 refine a3 50 func220 call220 [.cell 6 37,.tmp 7] ?_;intro ok;clear ok;have lv:=k5 hz;have lB:c.ab.length≤1000:=by have:=hz.1;omega
 have lT:=hz.2.1;have bq:nx c id k=if z3 c id k then fL c (g4 (aO c id) k)else c:=rfl
 have bH:z3 c id k=(lS c id&&oZ (aO c id).ak k):=rfl;have b7:=Iy c id;obtain⟨dW,ek,dt,eF⟩:=pA hz.2.1 id;have c3:=oY c id hz;rw[show(cf c.ab id).1=aO c id from rfl]at dW ek dt eF c3;generalize aO c id=s at *
 try simp only[go_sem]
 repeat'((first|refine ae.aj (by first|assumption|(apply iw<;>exact a6)|(apply xf<;>exact a6)) ?_|refine ay.aj ‹_› ?_|refine bw ?_)<;>simp only[go_sem,I])
 rw[b7]
 cases hg:lS c id with
 |false=>
  rw[hg,Bool.false_and]at bH;rw[bH]at bq
  try simp only[go_sem,I,cR]
  repeat'(first|((first|refine ae.aj ‹_› ?_|refine ay.aj ‹_› ?_)<;>simp only[go_sem,I,cR])|(with_reducible refine az ?_)|fail)
  all_goals simp[bq,bH]
 |true=>
  rw[hg,Bool.true_and]at bH
  try simp only[go_sem,I,bN]
  repeat'((first|refine ae.aj (by first|assumption|(apply Mv<;>exact a6)) ?_|refine ay.aj ‹_› ?_)<;>simp only[go_sem,I])
  cases hr:oZ s.ak k with
  |false=>
   rw[hr]at bH;rw[bH]at bq
   try simp only[go_sem,I,cR]
   repeat'(first|((first|refine ae.aj ‹_› ?_|refine ay.aj ‹_› ?_)<;>simp only[go_sem,I,cR])|(with_reducible refine az ?_)|fail)
   all_goals simp[bq,bH]
  |true=>
   rw[hr]at bH;rw[bH]at bq
   try simp only[go_sem,I,bN]
   repeat'((first|refine ae.aj ‹_› ?_|refine ay.aj ‹_› ?_)<;>simp only[go_sem,I,bN])
   have Df:=Sj c (g4 s k);obtain⟨B,hv⟩:∃B,yO c (g4 s k)=B:=⟨_,rfl⟩;rw[hv]at Df;simp only[g4]at Df;have qV:=hw;obtain⟨cE,fZ,ny,E_⟩:=hw;have ny:∀gp∈((g4 s k)).a2.bV.cp,gp.data.length≤1048576:=fun gp hc=>by have:=ny gp hc;omega
   simp only[g4]at cE fZ ny E_;have abb:=nu (c).ab ((g4 s k)) lB lT qV;have abc:=nu (c).ab {(g4 s k)with nz:=true} lB lT qV;refine ae.jD [6,7,8] (by simp only[hZ,List.elem_cons,List.elem_nil,Nat.reduceBEq,Nat.reduceAdd,c_,dK];rfl) (fY (n:=15) (rs:=[]) func255 rfl call255 b2 rfl rfl ?_);simp only[go_sem];refine ae.jD [0,3] (by simp only[hZ,List.elem_cons,List.elem_nil,Nat.reduceBEq,Nat.reduceAdd,c_,dK];rfl) (fY (n:=62) (rs:=[]) func285 rfl call285 b2 rfl rfl ?_);simp only[go_sem]
   try simp only[go_sem,I,g4]
   repeat'((first|refine ae.intro ‹_› ?_|refine ay.intro (by first|assumption|apply E'|(apply Sk<;>exact a6)) ?_|refine f' ?_|refine bo Si χ ψ ?_)<;>simp only[go_sem,I])
   rw[Df]
   cases B with
   |false=>
    have ai:=Sl hv;simp only[go_sem,cR]
    try simp only[go_sem,I,g4]
    repeat'(first|((first|refine ae.aj ‹_› ?_|refine ay.aj ‹_› ?_|refine bo ID χ ψ ?_)<;>simp only[go_sem,I,g4])|(with_reducible refine az ?_)|fail)
    rw[ai]at bq;simp[bq,bH,g4]
   |true=>
    try simp only[go_sem,bN]
    repeat'((first|refine ae.intro (by first|assumption|apply BB) ?_|refine ay.intro ‹_› ?_)<;>simp only[go_sem])
    cases lU:ve ((g4 s k)).id with
    |true=>
     have ai:=Sm hv lU;simp only[g4]at lU
     try simp only[go_sem,lU]
     repeat'((first|refine ae.intro (by first|assumption|apply IE) ?_|refine ay.intro ‹_› ?_)<;>simp only[go_sem])
     try simp only[go_sem,I,g4]
     repeat'(first|((first|refine ae.aj ‹_› ?_|refine ay.aj ‹_› ?_|refine bo ID χ ψ ?_)<;>simp only[go_sem,I,g4])|(with_reducible refine az ?_)|fail)
     rw[ai]at bq;simp[bq,bH,g4]
    |false=>
     have ai:=Sn hv lU;simp only[g4]at lU
     try simp only[go_sem,lU]
     repeat'((first|refine ae.intro (by first|assumption|apply IE) ?_|refine ay.intro ‹_› ?_)<;>simp only[go_sem])
     try simp only[go_sem,I,g4]
     repeat'(first|((first|refine ae.aj ‹_› ?_|refine ay.aj ‹_› ?_|refine bo ID χ ψ ?_)<;>simp only[go_sem,I,g4])|(with_reducible refine az ?_)|fail)
     rw[ai]at bq;simp[bq,bH,g4]
def jL(n:Int):Int:=if n<0∨4611686018427387903<n then 0 else if n<64 then 1 else if n<16384 then 2 else if n<1073741824 then 4 else 8
theorem Zf(n:Int):aL 228 [.one (.int .i64 n)] [.one (.int .i64 (jL n))]:=by
 refine a3 19 func228 call228 [.tmp 2] ?_;intro _
 try simp only[go_sem]
 repeat'((first|refine bw ?_|refine bP (fun h=>?_) (fun h=>?_))<;>simp only[go_sem])
 all_goals(simp only[b8,eG,d5,Bool.or_eq_true,Bool.or_eq_false_iff]at *;first|(exfalso;omega)|(simp[jL, *];try omega))
theorem Zg(n:Int):aL 199 [.one (.int .i64 n)] [.one (.str [o3 (bitI .and .i64 n 255)])]:=by
 refine a3 6 func199 call199 [.tmp 2] ?_;intro _;simp only[go_sem];refine ae.intro (Zh _ (Fj n)) ?_;simp only[go_sem]
def Ab(n:Int)(k i:Nat):Int:=
 let b:=bitI .and .i64 (n.fdiv (2^min (8 * i) 64)) 255
 if i+1=k then(if k=2 then bitI .or .i64 b 64 else if k=4 then bitI .or .i64 b 128 else if k=8 then bitI .or .i64 b 192 else b)else b
def wv(n:Int)(k j:Nat):List UInt8:=(List.range j).map fun x=>o3 (bitI .and .i64 (Ab n k (k-1-x)) 255)
def bM(n:Int):List UInt8:=wv n (jL n).toNat (jL n).toNat
theorem ajV(n:Int)(k j:Nat):wv n k (j+1)=wv n k j++[o3 (bitI .and .i64 (Ab n k (k-1-j)) 255)]:=by simp[wv,List.range_succ]
theorem QP(n:Int):jL n=0∨jL n=1∨jL n=2∨jL n=4∨jL n=8:=by
 unfold jL
 repeat' split
 all_goals simp
theorem Ld(n:Int):((bM n).length:Int)=jL n:=by rcases QP n with h|h|h|h|h<;>simp[bM,wv,h]
theorem vB(n:Int):(bM n).length≤8:=by have:=Ld n;rcases QP n with h|h|h|h|h<;>omega
theorem ajW(n:Int):decide (jL n=0)=decide (bM n=[]):=by
 have:=Ld n;by_cases h:jL n=0
 ·have:(bM n).length=0:=by omega
  simp[h,List.length_eq_zero_iff.1 this]
 ·have:bM n≠[]:=by intro e;rw[e]at this;simp at this;omega
  simp[h,this]
theorem ajX(n:Int):aL 229 [.one (.int .i64 n)] [.one (.str (bM n))]:=by
 refine a3 42 func229 call229 [.tmp 2] ?_;intro _;obtain⟨k,hk⟩:∃k:Nat,jL n=(k:Int):=⟨(bM n).length,(Ld n).symm⟩;have hc:k=0∨k=1∨k=2∨k=4∨k=8:=by have:=QP n;omega
 have ai:bM n=wv n k k:=by simp[bM,hk]
 have q2:i64.wrap ((k:Int)-1)=(k:Int)-1:=by rw[bA]<;>omega
 rw[ai]
 try simp only[go_sem]
 repeat'(refine ae.intro (by apply Zf) ?_<;>simp only[go_sem,hk,q2])
 refine cr.intro (fun j:Nat=>⟨(.i n::.al::.al::.i (k:Int)::.d (.str (wv n k j))::.i ((k:Int)-1-(j:Int))::aA 36 []),[]⟩)
   (fun j=>k-j) (fun j=>j≤k) 0 [] ω ?_ ?_
 ·simp only[go_sem];simp[wv]
 ·intro j aK;by_cases h1:j<k
  ·have ax:=bC (p:=0≤(k:Int)-1-(j:Int)) ω;have ag:i64.wrap (8 * ((k:Int)-1-(j:Int)))=8 * ((k:Int)-1-(j:Int)):=by rw[bA]<;>omega
   have ar:i64.wrap ((k:Int)-1-(j:Int)-1)=(k:Int)-1-((j+1:Nat):Int):=by rw[bA]<;>omega
   have ba:(8 * ((k:Int)-1-(j:Int))).toNat=8 * (k-1-j):=by omega
   have Aa:shI .shr .i64 n (8 * ((k:Int)-1-(j:Int)))=some ((0:Int)≤8 * ((k:Int)-1-(j:Int)),.i (n.fdiv (2^min (8 * (k-1-j)) 64))):=by simp only[shI];rw[ba];rfl
   have hs:=ajV n k j;have NM:(wv n k j).length=j:=by simp[wv]
   simp only[go_sem,ax,ag,Aa];refine⟨by omega,?_⟩;simp only[go_sem,q2];by_cases ajY:j=0
   ·subst ajY;have aN:=bC (p:=(k:Int)-1-((0:Nat):Int)=(k:Int)-1) ω;have vi:k-1+1=k:=by omega
    have hq:Ab n k (k-1-0)=(if k=2 then bitI .or .i64 (bitI .and .i64 (n.fdiv (2^min (8 * (k-1-0)) 64)) 255) 64 else if k=4 then bitI .or .i64 (bitI .and .i64 (n.fdiv (2^min (8 * (k-1-0)) 64)) 255) 128 else if k=8 then bitI .or .i64 (bitI .and .i64 (n.fdiv (2^min (8 * (k-1-0)) 64)) 255) 192 else bitI .and .i64 (n.fdiv (2^min (8 * (k-1-0)) 64)) 255):=by
     unfold Ab;rw[if_pos (show k-1-0+1=k by omega)]
    rw[hq]at hs
    try simp only[go_sem,aN]
    repeat'(first|((first|refine ae.intro (by apply Zg) ?_|refine bP (fun h=>?_) (fun h=>?_))<;>simp only[go_sem,ar])|(with_reducible refine az ?_)|fail)
    all_goals(simp only[b8,eG]at *;refine bE.intro 1 [] ω ω ?_;simp only[go_sem,hs];first|rw[if_pos (show k=2 by omega)]|rw[if_neg (show ¬k=2 by omega),if_pos (show k=4 by omega)]|rw[if_neg (show ¬k=2 by omega),if_neg (show ¬k=4 by omega),if_pos (show k=8 by omega)]|rw[if_neg (show ¬k=2 by omega),if_neg (show ¬k=4 by omega),if_neg (show ¬k=8 by omega)])
    all_goals simp
   ·have aN:=bm (p:=(k:Int)-1-(j:Int)=(k:Int)-1) ω;have hq:Ab n k (k-1-j)=bitI .and .i64 (n.fdiv (2^min (8 * (k-1-j)) 64)) 255:=by
     unfold Ab;rw[if_neg (show ¬k-1-j+1=k by omega)]
    rw[hq]at hs
    try simp only[go_sem,aN]
    repeat'(first|(refine ae.intro (by apply Zg) ?_<;>simp only[go_sem,ar])|(with_reducible refine az ?_)|fail)
    all_goals(refine bE.intro (j+1) [] ω ω ?_;simp only[go_sem,hs])
    all_goals simp
  ·have ax:=bm (p:=0≤(k:Int)-1-(j:Int)) ω;obtain rfl:j=k:=by omega
   try simp only[go_sem,ax]
   all_goals simp
def oG(l:List Int):List UInt8:=if l.any (fun n=>decide (jL n=0))then []else l.flatMap bM
theorem Fu{α β:Type}(f:α→List β)(l:List α)(i:Nat)(h:i<l.length):(l.take (i+1)).flatMap f=(l.take i).flatMap f++f l[i]:=by
 rw[gV,cD h,List.flatMap_append];simp
theorem FV{α β:Type}(f:α→List β)(b:Nat):∀(l:List α),(∀x∈l,(f x).length≤b)→(l.flatMap f).length≤b * l.length
 |[],_=>by simp
 |x::l,h=>by
  have h1:=FV f b l (fun y hy=>h y (List.mem_cons_of_mem _ hy));have h2:=h x ξ;rw[List.flatMap_cons,dY,dA,Nat.mul_add];omega
theorem DD(l:List Int):(oG l).length≤8 * l.length:=by
 unfold oG;split
 ·simp
 ·exact FV bM 8 l fun n _=>vB n
theorem Uf{α:Type}(p:α→Bool)(xs:List α)(i:Nat)(h:i<xs.length)(h2:p xs[i]=true):xs.any p=true:=List.any_eq_true.2 ⟨_,eS h,h2⟩
theorem Ug{α:Type}(p:α→Bool)(xs:List α)(i:Nat)(h:i<xs.length)(h1:(xs.take i).any p=false)(h2:p xs[i]=false):(xs.take (i+1)).any p=false:=by
 rw[gV,cD h,List.any_append,h1];simp[h2]
theorem y4(l:List Int)(hl:l.length≤100000):aL 179 [.one (.sl 1 (l.map aR))] [.one (.str (oG l))]:=by
 refine a3 25 func179 call179 [.tmp 2] ?_;intro ok;have hm:=fI ok;clear ok;simp only[go_sem];refine cr.intro (fun i:Nat=>⟨(.d (.sl 1 (l.map aR))::.al::.al::.d (.str ((l.take i).flatMap bM))::.i i::aA 20 []),[]⟩)
   (fun i=>l.length-i) (fun i=>i≤l.length∧(l.take i).any (fun n=>decide (jL n=0))=false) 0 [] ⟨by omega,by simp⟩ ?_ ?_
 ·simp only[go_sem];simp
 ·rintro i ⟨hi,he⟩;by_cases h1:i<l.length
  ·have ax:=bC (p:=(i:Int)<(l.length:Int)) ω;have aB:=cq aR l i h1;have hw:=dX h1 hm;have hs:=Fu bM l i h1;have hb:=FV bM 8 (l.take i) fun n _=>vB n;have cM:(l.take i).length=i:=by simp;omega
   rw[cM]at hb;have lP:=vB l[i]
   try simp only[go_sem,I,aE,aB,aR,ax]
   repeat'(first|((first|refine ae.intro (by first|apply Zf|apply ajX) ?_|refine bP (fun h=>?_) (fun h=>?_))<;>simp only[go_sem,I,aE,aB,aR])|(with_reducible refine az ?_)|fail)
   ·have:=Uf (fun n=>decide (jL n=0)) l i h1 h;simp[oG,this]
   ·refine bE.intro (i+1) [] ⟨by omega,Ug _ l i h1 he h⟩ ω ?_;simp only[go_sem,hw,hs];try simp
  ·have ax:=bm (p:=(i:Int)<(l.length:Int)) ω;obtain rfl:i=l.length:=by omega
   rw[d3]at *
   try simp only[go_sem,I,ax]
   all_goals simp[oG,he]
def Ub:List (List bR):=cS 12 [504833,504844,504838,505183,505129,504967,504468,503010,528160,515038,472392,354294]
def Uc:List (List bR):=cS 15 [13630481,13630479,13630513,13630495,13630801,13630639,13639954,13638496,13634122,13620636,13581270,14260333,13906039,12754584,9565938]
attribute [go_sem] Ub Uc
def FT(f:aq):List UInt8:=
 if f.bp=4 then oG [4,f.aC,f.c4,f.br]
 else if f.bp=5 then oG [5,f.aC,f.c4]
 else if f.bp=8 then
  (if f.aH=0 then oG [if f.aW then 11 else 10,f.aC,(f.data.length:Int)]++f.data else oG [if f.aW then 15 else 14,f.aC,f.aH,(f.data.length:Int)]++f.data)
 else if f.bp=16∨f.bp=20 then oG [f.bp,f.aZ]
 else if f.bp=17∨f.bp=21 then oG [f.bp,f.aC,f.aZ]
 else oG [if f.ft then i64.wrap (f.bp+1)else f.bp,f.aZ]
def dy(f:aq):List UInt8:=if d_ f then FT f else []
theorem adC{f:aq}(h:d_ f=true):f.data.length≤400:=by
 simp only[d_,y2,bW,Bool.not_eq_true',eG]at h;omega
theorem NI(f:aq):(dy f).length≤500:=by
 unfold dy;split
 ·rename_i h;have hd:=adC h;unfold FT
  repeat' split
  all_goals(try rw[dY])
  all_goals(first|exact Nat.le_trans (DD _) ξ|exact Nat.le_trans (Nat.add_le_add (DD _) (fE _)) (by simp;omega))
 ·simp
theorem Ud(eZ eR e_:Int)(eU:List UInt8)(fG:Bool)(fy fv fR:Int)(fV:Bool)(hd:eU.length≤1048576):aL 102 [.agg [.int .i64 eZ,.int .i64 eR,.int .i64 e_,.str eU,.bool fG,.int .i64 fy,.int .i64 fv,.int .i64 fR,.bool fV]] [.one (.str (dy (⟨eZ,eR,e_,eU,fG,fy,fv,fR,fV⟩:aq)))]:=by
 refine a3 93 func102 call102 [.tmp 2] ?_;intro _
 cases bB:d_ (⟨eZ,eR,e_,eU,fG,fy,fv,fR,fV⟩:aq)with
 |false=>
  try simp only[go_sem]
  repeat'(refine ae.intro (by apply yS) ?_<;>simp only[go_sem,bB])
  all_goals simp[dy,bB]
 |true=>
  have ai:dy (⟨eZ,eR,e_,eU,fG,fy,fv,fR,fV⟩:aq)=FT (⟨eZ,eR,e_,eU,fG,fy,fv,fR,fV⟩:aq):=by unfold dy;rw[bB];rfl
  rw[ai];have jy:=DD [10,eR,(eU.length:Int)];have j5:=DD [11,eR,(eU.length:Int)];have y3:=DD [14,eR,e_,(eU.length:Int)];have Ji:=DD [15,eR,e_,(eU.length:Int)];simp only[dA,eI]at jy j5 y3 Ji;have bD:=y4 [4,eR,fy,fR] ξ;have bX:=y4 [5,eR,fy] ξ;have bu:=y4 [10,eR,(eU.length:Int)] ξ;have bS:=y4 [11,eR,(eU.length:Int)] ξ;have dD:=y4 [14,eR,e_,(eU.length:Int)] ξ;have wF:=y4 [15,eR,e_,(eU.length:Int)] ξ;have FU:=y4 [eZ,fv] ξ;have NJ:=y4 [eZ,eR,fv] ξ;have Ue:=y4 [i64.wrap (eZ+1),fv] ξ;simp only[eT,List.map_nil,aR]at bD bX bu bS dD wF FU NJ Ue;have cE:i64.wrap (10+1)=11:=by decide
  have fZ:i64.wrap (10+4)=14:=by decide
  have ny:i64.wrap (11+4)=15:=by decide
  try simp only[go_sem]
  repeat'(first|((first|refine ae.intro (by first|assumption|apply yS) ?_|refine ay.intro ‹_› ?_|refine bo Ub χ ψ ?_|refine bo Uc χ ψ ?_|refine bP (fun h=>?_) (fun h=>?_))<;>simp only[go_sem,bB,cE,fZ,ny])|(with_reducible refine az ?_)|fail)
  all_goals(clear ai bB bD bX bu bS dD wF FU NJ Ue jy j5 y3 Ji cE fZ ny;simp only[b8,eG]at *;first|(exfalso;omega)|(simp[FT, *];done))
theorem Np(eZ eR e_:Int)(eU:List UInt8)(fG:Bool)(fy fv fR:Int)(fV:Bool)(hd:eU.length≤1048576):aL 43 [.agg [.int .i64 eZ,.int .i64 eR,.int .i64 e_,.str eU,.bool fG,.int .i64 fy,.int .i64 fv,.int .i64 fR,.bool fV]] [.one (.int .i64 (((dy (⟨eZ,eR,e_,eU,fG,fy,fv,fR,fV⟩:aq)).length:Int)))]:=by
 refine a3 6 func43 call43 [.tmp 2] ?_;intro _;have:=NI (⟨eZ,eR,e_,eU,fG,fy,fv,fR,fV⟩:aq)
 try simp only[go_sem]
 repeat'(refine ae.intro (by(apply Ud<;>exact a6)) ?_<;>simp only[go_sem])
 all_goals simp
def vv(l:List aq):List UInt8:=if l.any (fun f=>decide (dy f=[]))then []else if 400<(l.flatMap dy).length then []else l.flatMap dy
theorem acV(l:List aq)(hl:l.length≤10000)(hd:∀f∈l,f.data.length≤1048576):aL 46 [.one (.sl 9 (l.map aq.enc))] [.one (.str (vv l))]:=by
 refine a3 26 func46 call46 [.tmp 2] ?_;intro ok;have hm:=fI ok;clear ok;simp only[go_sem];refine cr.intro (fun i:Nat=>⟨(.d (.sl 9 (l.map aq.enc))::.al::.al::.d (.str ((l.take i).flatMap dy))::.i i::aA 21 []),[]⟩)
   (fun i=>l.length-i) (fun i=>i≤l.length∧(l.take i).any (fun f=>decide (dy f=[]))=false) 0 [] ⟨by omega,by simp⟩ ?_ ?_
 ·simp only[go_sem];simp
 ·rintro i ⟨hi,he⟩;have hb:=FV dy 500 (l.take i) fun n _=>NI n;have cM:(l.take i).length=i:=by simp;omega
  rw[cM]at hb;by_cases h1:i<l.length
  ·have ax:=bC (p:=(i:Int)<(l.length:Int)) ω;have aB:=cq aq.enc l i h1;have hw:=dX h1 hm;have hs:=Fu dy l i h1;have lP:=NI l[i];have bB:=Ud l[i].bp l[i].aC l[i].aH l[i].data l[i].aW l[i].c4 l[i].aZ l[i].br l[i].ft (hd _ (eS h1));change PureCall _ _ _ [.one (.str (dy l[i]))]at bB
   try simp only[go_sem,I,aE,aB,aq.enc,ax]
   repeat'(first|((first|refine ae.intro ‹_› ?_|refine ay.intro ‹_› ?_|refine bP (fun h=>?_) (fun h=>?_))<;>simp only[go_sem])|(with_reducible refine az ?_)|fail)
   ·have:=Uf (fun f=>decide (dy f=[])) l i h1 h;simp[vv,this]
   ·refine bE.intro (i+1) [] ⟨by omega,Ug _ l i h1 he h⟩ ω ?_;simp only[go_sem,hw,hs];try simp
  ·have ax:=bm (p:=(i:Int)<(l.length:Int)) ω;obtain rfl:i=l.length:=by omega
   rw[d3]at *
   try simp only[go_sem,I,ax]
   repeat'(refine bP (fun h=>?_) (fun h=>?_)<;>simp only[go_sem])
   ·have h0:=cQ h;have:vv l=[]:=by unfold vv;rw[he];exact(if_neg ξ).trans (if_pos ω)
    simp[this]
   ·have h0:=c2 h;have:vv l=l.flatMap dy:=by unfold vv;rw[he];exact(if_neg ξ).trans (if_neg ω)
    simp[this]
def Rb:List (List bR):=cS 34 [16677181699666565,16677181699666567,16677181699666560,16677181699666542,16677181699666488,16677181699666326,16677181699665840,16677181699664382,16677181699640325,16677181699653447,16677181699607520,16677181699489422,16677181699135128,16677181698072246,16677181694883600,16677181685317662,16677181656619848,16677181570526406,16677181312246080,16677180537405102,16368754698691713,16368761672260515,16368737264769708,16368674502650490,16368486216292836,16666588848656331,16675909023360204,16670825291703546,16654726808124129,16608973223214207,16471712468484441,16059508303382622,14824161510814728,11118121133111046]
def LD:List (List bR):=cS 19 [1162251662,1162251664,1162251657,1162251639,1162261183,1162261345,1162260778,1162259320,1162254946,1162241784,1162202418,1161552879,1161907173,1160667144,1157478498,1147912560,1119214746,1033121304,774840978]
def Rc:List (List bR):=cS 10 [49244,49246,49239,49221,58765,58927,58360,56902,52528,39366]
attribute [go_sem] Rb LD Rc
theorem Ls{α β:Type}(f:β→α→β)(b:β)(l:List α)(i:Nat)(h:i<l.length):(l.take (i+1)).foldl f b=f ((l.take i).foldl f b) l[i]:=by
 rw[gV,cD h,List.foldl_append];rfl
def oT(l:List b9)(i:Nat):Bool:=z7 (fun c=>c.id) (fun c=>bQ c.id&&lu c.cL) l i
def k3(l:List b9):Bool:=k6 (oT l) l.length
theorem Z1(l:List b9)(h:0<l.length):oT l 0=(bQ l[0].id&&lu l[0].cL):=zQ _ _ _ h
theorem Z2(l:List b9)(j:Nat)(h:j+1<l.length):oT l (j+1)=(bQ l[j+1].id&&lu l[j+1].cL&&decide (l[j].id<l[j+1].id)):=yC _ _ _ _ h
theorem Z3(l:List b9):aL 230 [.one (.sl 3 (l.map b9.enc))] [.one (.bool (k3 l))]:=by
 refine a3 44 func230 call230 [.tmp 2] ?_;intro ok;have hm:=fI ok;clear ok;simp only[go_sem];refine cr.intro (fun i:Nat=>⟨(.d (.sl 3 (l.map b9.enc))::.al::.al::.i i::aA 40 []),[]⟩)
  (fun i=>l.length-i) (fun i=>i≤l.length∧k6 (oT l) i=true) 0 [] ⟨by omega,by simp[k6]⟩ ?_ ?_
 ·simp only[go_sem];simp
 ·rintro i ⟨hi,he⟩;by_cases h1:i<l.length
  ·have ax:=bC (p:=(i:Int)<(l.length:Int)) ω;have aB:=cq b9.enc l i h1;have hw:=dX h1 hm;have hs:=C_ (oT l) i;have hf:=fun h=>EX (oT l) (n:=l.length) h1 h
   cases i with
   |zero=>
    have hb:=Z1 l h1;have h2:decide ((0:Int)<((0:Nat):Int))=false:=by decide
    try simp only[go_sem,I,ax]
    repeat'(first|((first|refine ay.intro (by first|apply jF|apply HI) ?_|with_reducible refine lR ?_|refine f' ?_|refine bo Rb χ ψ ?_|refine bP (fun h=>?_) (fun h=>?_))<;>simp only[go_sem,I,aE,aB,b9.enc,h2])|(with_reducible refine az ?_)|fail)
    ·have e:oT l 0=false:=by rw[hb];revert h;cases bQ l[0].id<;>cases lu l[0].cL<;>simp
     simp[k3,hf e]
    ·have e:oT l 0=true:=by rw[hb];revert h;cases bQ l[0].id<;>cases lu l[0].cL<;>simp
     refine bE.intro 1 [] ⟨by omega,by rw[hs,he,e];rfl⟩ ω ?_;simp only[go_sem,hw];try simp
   |succ j=>
    have hb:=Z2 l j h1;have g3:=cq b9.enc l j ω;have h2:=bC (p:=(0:Int)<((j+1:Nat):Int)) ω;have hp:i64.wrap (((j+1:Nat):Int)-1)=(j:Int):=by simp only[maxLen]at hm;rw[bA]<;>omega
    try simp only[go_sem,I,ax]
    repeat'(first|((first|refine ay.intro (by first|apply jF|apply HI) ?_|refine f' ?_|refine bo Rb χ ψ ?_|refine bP (fun h=>?_) (fun h=>?_))<;>simp only[go_sem,I,aE,aB,g3,b9.enc,h2,hp])|(with_reducible refine az ?_)|fail)
    ·have e:oT l (j+1)=false:=by rw[hb];revert h;cases bQ l[j+1].id<;>cases lu l[j+1].cL<;>simp
     simp[k3,hf e]
    ·have e:oT l (j+1)=true:=by rw[hb];revert h;cases bQ l[j+1].id<;>cases lu l[j+1].cL<;>simp
     refine bE.intro (j+1+1) [] ⟨by omega,by rw[hs,he,e];rfl⟩ ω ?_;simp only[go_sem,hw];try simp
  ·have ax:=bm (p:=(i:Int)<(l.length:Int)) ω;obtain rfl:i=l.length:=by omega
   simp only[go_sem,I,ax];simp[k3,he]
def yb(l:List Int)(dE:Int):Int:=match l.find? (fun x=>decide (dE<x))with|some x=>x|none=>(match l with|[]=>-1|x::_=>x)
theorem akx(l:List Int)(dE:Int):aL 181 [.one (.sl 1 (l.map aR)),.one (.int .i64 dE)] [.one (.int .i64 (yb l dE))]:=by
 refine a3 28 func181 call181 [.tmp 4] ?_;intro ok;have hm:=fI ok;clear ok;simp only[go_sem];refine cr.intro (fun i:Nat=>⟨(.d (.sl 1 (l.map aR))::.i dE::aA 3 (.i i::aA 22 [])),[]⟩)
  (fun i=>l.length-i) (fun i=>i≤l.length∧(l.take i).any (fun x=>decide (dE<x))=false) 0 [] ⟨by omega,by simp⟩ ?_ ?_
 ·simp only[go_sem];simp
 ·rintro i ⟨hi,he⟩;by_cases h1:i<l.length
  ·have ax:=bC (p:=(i:Int)<(l.length:Int)) ω;have aB:=cq aR l i h1;have hw:=dX h1 hm
   try simp only[go_sem,I,aE,aB,aR,ax]
   repeat'(first|(refine bP (fun h=>?_) (fun h=>?_)<;>simp only[go_sem,I,aE,aB,aR])|(with_reducible refine az ?_)|fail)
   ·have:=C9 (fun x=>decide (dE<x)) l i h1 he h;simp[yb,this]
   ·refine bE.intro (i+1) [] ⟨by omega,xe _ l i h1 he h⟩ ω ?_;simp only[go_sem,hw];try simp
  ·have ax:=bm (p:=(i:Int)<(l.length:Int)) ω;obtain rfl:i=l.length:=by omega
   rw[d3]at he;have hn:=EP _ l he
   cases l with
   |nil=>
    try simp only[go_sem]
    repeat'(refine bP (fun h=>?_) (fun h=>?_)<;>simp only[go_sem])
    all_goals first|(exfalso;simp at h;done)|simp[yb]
   |cons x r=>
    have h2:=bm (p:=((r.length+1:Nat):Int)=0) ω
    try simp only[go_sem,I,dA,eT,aR]
    repeat'(first|(refine bP (fun h=>?_) (fun h=>?_)<;>simp only[go_sem,I,dA,eT,h2])|(with_reducible refine az ?_)|fail)
    all_goals first|(exfalso;simp at h;done)|(simp[yb,hn])
def p0(s:Int×List Int)(c:b9):Int×List Int:=
 if c.cL.ew<s.1 then(c.cL.ew,[c.id])else if c.cL.ew=s.1 then(s.1,s.2++[c.id])else s
def nZ(l:List b9):Int×List Int:=l.foldl p0 (8,[])
def qC(l:List b9):List Int:=if k3 l then(nZ l).2 else []
theorem Rd:∀(l:List b9) (s:Int×List Int),(l.foldl p0 s).2.length≤s.2.length+l.length
 |[],s=>by simp
 |c::l,s=>by
  have:=Rd l (p0 s c);rw[List.foldl_cons,dA];have:(p0 s c).2.length≤s.2.length+1:=by
   unfold p0;split
   ·simp
   ·split<;>simp
  omega
theorem aky(l:List b9)(hl:l.length≤1048576):aL 180 [.one (.sl 3 (l.map b9.enc))] [.one (.sl 1 ((qC l).map aR))]:=by
 refine a3 49 func180 call180 [.tmp 2] ?_;intro ok;have hm:=fI ok;clear ok;have ai:qC l=if k3 l then(nZ l).2 else []:=rfl
 simp only[go_sem]
 cases hA:k3 l with
 |false=>
  rw[hA]at ai;refine cr.intro (fun i:Nat=>⟨(.d (.sl 3 (l.map b9.enc))::.al::.al::.sl 0 0 0::.i 8::.i i::aA 43 []),[.ah 1 [] true]⟩)
   (fun i=>0) (fun i=>i=0) 0 [0] rfl ?_ ?_
  ·simp only[go_sem];simp
  ·rintro i rfl
   try simp only[go_sem,I]
   repeat'(first|((first|refine ay.intro (by apply Z3) ?_|refine bw ?_)<;>simp only[go_sem,hA,Bool.cond_self])|(with_reducible refine az ?_)|fail)
   all_goals simp[ai]
 |true=>
  rw[hA]at ai;refine cr.intro (fun i:Nat=>⟨(.d (.sl 3 (l.map b9.enc))::.al::.al::.sl 0 0 (nZ (l.take i)).2.length::.d (.int .i64 (nZ (l.take i)).1)::.i i::aA 43 []),[.ah 1 ((nZ (l.take i)).2.map aR) true]⟩)
   (fun i=>l.length-i) (fun i=>i≤l.length) 0 [0] ω ?_ ?_
  ·simp only[go_sem];simp[nZ]
  ·intro i hi;by_cases h1:i<l.length
   ·have ax:=bC (p:=(i:Int)<(l.length:Int)) ω;have aB:=cq b9.enc l i h1;have hw:=dX h1 hm;have hs:nZ (l.take (i+1))=p0 (nZ (l.take i)) l[i]:=Ls _ _ _ _ h1;have mo:(nZ (l.take i)).2.length≤i:=by
     have:=Rd (l.take i) (8,[]);have cM:(l.take i).length=i:=by simp;omega
     simp only[eI]at this;unfold nZ;omega
    generalize nZ (l.take i)=q at *;obtain⟨H6,ed⟩:=q;simp only at mo
    try simp only[go_sem,I,ax]
    repeat'(first|((first|refine ae.intro (by apply Z3) ?_|with_reducible refine cN ?_|refine bP (fun h=>?_) (fun h=>?_))<;>simp only[go_sem,I,aE,aB,b9.enc,hA])|(with_reducible refine az ?_)|fail)
    ·have h0:=cQ h;have hs':p0 (H6,ed) l[i]=(l[i].cL.ew,[l[i].id]):=by unfold p0;exact if_pos h0
     refine bE.intro (i+1) [3] ω ω ?_;simp only[go_sem,hw,hs,hs'];simp[aR]
    ·rename_i ao;have h0:=c2 ao;have aN:=cQ h;have hs':p0 (H6,ed) l[i]=(H6,ed++[l[i].id]):=by unfold p0;exact(if_neg h0).trans (if_pos aN)
     refine bE.intro (i+1) [2] ω ω ?_;simp only[go_sem,hw,hs,hs'];simp[aR]
    ·rename_i ao;have h0:=c2 ao;have aN:=c2 h;have hs':p0 (H6,ed) l[i]=(H6,ed):=by unfold p0;exact(if_neg h0).trans (if_neg aN)
     refine bE.intro (i+1) [0] ω ω ?_;simp only[go_sem,hw,hs,hs'];simp
   ·have ax:=bm (p:=(i:Int)<(l.length:Int)) ω;obtain rfl:i=l.length:=by omega
    rw[d3]
    try simp only[go_sem,I,ax]
    repeat'(first|(with_reducible refine eB ?_<;>simp only[go_sem,I])|(with_reducible refine az ?_)|fail)
    all_goals simp[ai]
def m7(l:List b9)(id:Int):List b9:=l.filter fun c=>decide (c.id≠id)
theorem acZ(l:List b9)(id:Int)(hl:l.length≤1048576):aL 106 [.one (.sl 3 (l.map b9.enc)),.one (.int .i64 id)] [.one (.sl 3 ((m7 l id).map b9.enc))]:=by
 refine a3 29 func106 call106 [.tmp 4] ?_;intro ok;have hm:=fI ok;clear ok;simp only[go_sem];refine cr.intro (fun i:Nat=>⟨(.d (.sl 3 (l.map b9.enc))::.i id::aA 3 (.sl 0 0 (m7 (l.take i) id).length::.i i::aA 22 [])),[.ah 3 ((m7 (l.take i) id).map b9.enc) true]⟩)
  (fun i=>l.length-i) (fun i=>i≤l.length) 0 [0] ω ?_ ?_
 ·simp only[go_sem];simp[m7]
 ·intro i hi;by_cases h1:i<l.length
  ·have ax:=bC (p:=(i:Int)<(l.length:Int)) ω;have aB:=cq b9.enc l i h1;have hw:=dX h1 hm;have hs:m7 (l.take (i+1)) id=m7 (l.take i) id++(if decide (l[i].id≠id)then [l[i]]else []):=by
    unfold m7;rw[gV,cD h1,List.filter_append];simp[List.filter_cons]
   have mo:(m7 (l.take i) id).length≤i:=Nat.le_trans (List.length_filter_le _ _) (by simp;omega);generalize m7 (l.take i) id=q at *
   try simp only[go_sem,I,aE,aB,b9.enc,ax]
   repeat'(first|(refine bP (fun h=>?_) (fun h=>?_)<;>simp only[go_sem,I,aE,aB,b9.enc])|(with_reducible refine az ?_)|fail)
   ·rw[h,if_pos rfl]at hs;refine bE.intro (i+1) [2] ω ω ?_;simp only[go_sem,hw,hs];simp[b9.enc]
   ·rw[h,if_neg ξ]at hs;refine bE.intro (i+1) [0] ω ω ?_;simp only[go_sem,hw,hs];simp
  ·have ax:=bm (p:=(i:Int)<(l.length:Int)) ω;obtain rfl:i=l.length:=by omega
   rw[d3]
   try simp only[go_sem,I,ax]
   all_goals simp
def qK(m:List Int)(c:b9):Bool:=!c.cL.hO&&m.any (fun x=>decide (x=c.id))
def oO(m:List Int)(l:List b9):List Int:=l.flatMap fun c=>m.filter (fun x=>decide (x=c.id))
theorem akz(m:List Int)(c:b9):qK m c=true↔c.cL.hO=false∧∃x∈m,x=c.id:=by simp[qK]
theorem Z4(m:List Int):∀l:List b9,(oO m l).length≤m.length * l.length
 |[]=>by simp[oO]
 |c::l=>by
  have h1:=Z4 m l;have h2:=List.length_filter_le (fun x=>decide (x=c.id)) m;unfold oO at h1⊢;rw[List.flatMap_cons,dY,dA,Nat.mul_add];omega
def xD(l:List b9)(dE:Int):Int:=match l.find? (qK (qC l))with|some c=>c.id|none=>yb (oO (qC l) l) dE
theorem akA(l:List b9):(qC l).length≤l.length:=by
 unfold qC;split
 ·have:=Rd l (8,[]);simpa [nZ]using this
 ·simp
theorem ac1(l:List b9)(dE:Int)(hl:l.length≤1000):aL 107 [.one (.sl 3 (l.map b9.enc)),.one (.int .i64 dE)] [.one (.int .i64 (xD l dE))]:=by
 refine a3 69 func107 call107 [.tmp 4] ?_;intro ok;have hm:=fI ok;clear ok;have ai:xD l dE=match l.find? (qK (qC l))with|some c=>c.id|none=>yb (oO (qC l) l) dE:=rfl
 have Wq:=akA l;simp only[go_sem];refine ae.intro (aky l ω) ?_;generalize qC l=m at *;simp only[go_sem,I];refine cr.intro (fun i:Nat=>⟨(.d (.sl 3 (l.map b9.enc))::.i dE::aA 3 (.sl 0 0 m.length::.sl 1 0 (oO m (l.take i)).length::.i i::aA 61 [])),[.ah 1 (m.map aR) true,.ah 1 ((oO m (l.take i)).map aR) true]⟩)
  (fun i=>l.length-i) (fun i=>i≤l.length∧(l.take i).any (qK m)=false) 0 [0,1] ⟨by omega,by simp⟩ ?_ ?_
 ·simp only[go_sem];simp[oO]
 ·rintro i ⟨hi,he⟩;have cM:(l.take i).length=i:=by simp;omega
  have p_:=Z4 m (l.take i);have ath:m.length * (l.take i).length≤1000 * 1000:=Nat.mul_le_mul ω ω;by_cases h1:i<l.length
  ·have ax:=bC (p:=(i:Int)<(l.length:Int)) ω;have aB:=cq b9.enc l i h1;have hw:=dX h1 hm;have hs:oO m (l.take (i+1))=oO m (l.take i)++m.filter (fun x=>decide (x=l[i].id)):=by
    unfold oO;rw[gV,cD h1,List.flatMap_append];simp
   generalize oO m (l.take i)=Re at *;simp only[go_sem,I,ax];refine cr.intro (fun k:Nat=>⟨(.d (.sl 3 (l.map b9.enc))::.i dE::aA 3 (.sl 0 0 m.length::.sl 1 0 (Re++(m.take k).filter (fun x=>decide (x=l[i].id))).length::.i i::.i k::aA 60 [])),[.ah 1 (m.map aR) true,.ah 1 ((Re++(m.take k).filter (fun x=>decide (x=l[i].id))).map aR) true]⟩)
    (fun k=>m.length-k) (fun k=>k≤m.length∧(l[i].cL.hO=false→(m.take k).any (fun x=>decide (x=l[i].id))=false)) 0 [0,1] ⟨by omega,by simp⟩ ?_ ?_
   ·simp only[go_sem];simp
   ·rintro k ⟨hk,Em⟩;have e6:=List.length_filter_le (fun x=>decide (x=l[i].id)) (m.take k);have ati:(m.take k).length=k:=by simp;omega
    by_cases h2:k<m.length
    ·have g7:=bC (p:=(k:Int)<(m.length:Int)) ω;have qj:=cq aR m k h2;have yL:i64.wrap ((k:Int)+1)=((k+1:Nat):Int):=by rw[bA]<;>omega
     have de:(m.take (k+1)).filter (fun x=>decide (x=l[i].id))=(m.take k).filter (fun x=>decide (x=l[i].id))++(if decide (m[k]=l[i].id)then [m[k]]else []):=by
      rw[gV,cD h2,List.filter_append];simp[List.filter_cons]
     generalize xi:(m.take k).filter (fun x=>decide (x=l[i].id))=akB at *;have fK:(Re++akB).length≤1002000:=by rw[dY];omega
     cases hd:decide (m[k]=l[i].id)with
     |true=>
      rw[hd,if_pos rfl]at de;have hx:=cQ hd
      cases zL:l[i].cL.hO with
      |false=>
       have hh:qK m l[i]=true:=(akz _ _).2 ⟨zL,_,eS h2,hx⟩;have hf:=C9 (qK m) l i h1 he hh
       try simp only[go_sem,g7]
       repeat'(first|((first|with_reducible refine nt ?_|refine bo LD χ ψ ?_)<;>simp only[go_sem,I,aE,aB,qj,b9.enc,aR,hd,zL])|(with_reducible refine az ?_)|fail)
       all_goals simp[ai,hf]
      |true=>
       try simp only[go_sem,g7]
       repeat'(first|((first|with_reducible refine nt ?_|refine bo LD χ ψ ?_|refine bo Rc χ ψ ?_)<;>simp only[go_sem,I,aE,aB,qj,b9.enc,aR,hd,zL])|(with_reducible refine az ?_)|fail)
       all_goals first|omega|(refine bE.intro (k+1) [0,3] (by first|omega|exact⟨by omega,fun h=>by rw[zL]at h;cases h⟩) ω ?_;simp only[go_sem,yL,de];simp[aR,hx];try omega)
     |false=>
      rw[hd,if_neg ξ]at de
      try simp only[go_sem,g7]
      repeat'(first|((first|with_reducible refine lR ?_|refine bo LD χ ψ ?_|refine bo Rc χ ψ ?_)<;>simp only[go_sem,I,aE,aB,qj,b9.enc,aR,hd,Bool.cond_self])|(with_reducible refine az ?_)|fail)
      all_goals(refine bE.intro (k+1) [0,1] ⟨by omega,fun h=>xe _ m k h2 (Em h) hd⟩ ω ?_;simp only[go_sem,yL,de];simp)
    ·have g7:=bm (p:=(k:Int)<(m.length:Int)) ω;obtain rfl:k=m.length:=by omega
     rw[d3]at *;simp only[go_sem,I,g7,hw];have hh:qK m l[i]=false:=by
      cases zL:l[i].cL.hO with
      |true=>simp[qK,zL]
      |false=>simp only[qK,Em zL];simp
     refine bE.intro (i+1) [0,1] ⟨by omega,xe _ l i h1 he hh⟩ ω ?_;simp only[go_sem,hs];simp
  ·have ax:=bm (p:=(i:Int)<(l.length:Int)) ω;obtain rfl:i=l.length:=by omega
   rw[d3]at *;have hf:=EP _ l he;rw[hf]at ai
   try simp only[go_sem,I,ax]
   repeat'(refine ae.intro (by apply akx) ?_<;>simp only[go_sem])
   all_goals simp[ai]
def kI(E:Int)(xs:List J):Prop:=cY xs=true∧∀x∈xs,x.high≤E
theorem zr(E:Int):kI E []:=⟨by simp[cY],by simp⟩
theorem Kv{E F:Int}{xs:List J}(h:E≤F)(hx:kI E xs):kI F xs:=⟨hx.1,fun x hm=>by have:=hx.2 x hm;omega⟩
theorem Hl{E:Int}{xs:List J}{r:J}(hx:kI E xs)(hr:dj r=true)(hh:r.high≤E):kI E (gT xs r):=by
 refine⟨Kw hx.1 hr,?_⟩;refine Pn (fun x=>x.high≤E) xs r hh hx.2 ?_;intro a b ha hb _ _;simp only[dp]at *;split<;>omega
theorem W3{E:Int}{xs:List J}{r:J}(hx:kI E xs):kI E (mh xs r):=by
 obtain⟨h1,_,ao⟩:=W4 (r:=r) hx.1;refine⟨h1,fun y hy=>?_⟩;obtain⟨x,hm,aN⟩:=ao y hy;have:=hx.2 x hm;omega
theorem W5{E:Int}{kJ c:List J}(hx:kI E kJ):kI E (mi kJ c):=by
 obtain⟨h1,_,ao⟩:=Kx c kJ hx.1;refine⟨h1,fun y hy=>?_⟩;obtain⟨x,hm,aN⟩:=ao y hy;have:=hx.2 x hm;omega
theorem Cr{E:Int}:∀(ys xs:List J),kI E xs→(∀y∈ys,dj y=true∧y.high≤E)→kI E (fg xs ys)
 |[],xs,h,_=>h
 |y::ys,xs,h,hy=>Cr ys (gT xs y) (Hl h (hy y ξ).1 (hy y ξ).2) fun z hz=>hy z (by simp[hz])
theorem W6{E:Int}{xs:List J}{r:J}(hx:kI E xs):∀y∈iE xs [r],dj y=true∧y.high≤E:=by
 intro y hy;obtain⟨h1,x,hm,h2⟩:=(Pu xs r).2 y hy;have:=hx.2 x hm;exact⟨h1,by omega⟩
theorem W7:∀(xs:List J) (cU E:Int),(∀x∈xs,dj x=true∧cU≤x.low∧x.high≤E)→xs.Pairwise (fun a b=>a.high<b.low)→cU≤E→(xs.length:Int)≤E-cU
 |[],cU,E,_,_,h=>by simp;omega
 |x::xs,cU,E,hx,hp,h=>by
  obtain⟨h1,h2,ao⟩:=hx x ξ;have aN:=(gI _).1 h1;rw[List.pairwise_cons]at hp;have:=W7 xs x.high E (fun y hy=>⟨(hx y (by simp[hy])).1,by have:=hp.1 y hy;omega,(hx y (by simp[hy])).2.2⟩) hp.2 ao;rw[dA];omega
theorem Pv{E:Int}{xs:List J}(h:kI E xs)(ai:0≤E):(xs.length:Int)≤E:=by
 have h1:=(h_ xs).1 h.1;have:=W7 xs 0 E (fun x hx=>⟨h1.1 x hx,((gI _).1 (h1.1 x hx)).1,h.2 x hx⟩) h1.2 ai;omega
structure fA(E:Int)(s:au):Prop where
 p:kI s.av.cu s.aP
 f:kI s.av.cu s.aM
 a:kI s.av.cu s.a0
 dc:0≤s.av.cu
 ag:s.av.cu≤E
 c:s.av.cells.length≤64
theorem fA.mono{E F:Int}{s:au}(h:fA E s)(ai:E≤F):fA F s:=⟨h.p,h.f,h.a,h.dc,by have:=h.ag;omega,h.c⟩
theorem fA.agW{E:Int}{s:au}(h:fA E s):wo s:=by
 intro r hr;rcases hr with hr|hr|hr
 ·exact h.p.2 r hr
 ·exact h.f.2 r hr
 ·exact h.a.2 r hr
theorem fA.size{E:Int}{s:au}(h:fA E s):((s.aP.length+s.aM.length+s.a0.length:Nat):Int)≤3 * E:=by
 have h1:=Pv h.p h.dc;have h2:=Pv h.f h.dc;have ao:=Pv h.a h.dc;have:=h.ag;omega
theorem W8{E:Int}(ai:0≤E)(v w c:Int):fA E ⟨0,⟨0,0,0,[]⟩,[],[],[],v,w,c,0⟩:=⟨zr _,zr _,zr _,by simp,ai,by simp⟩
theorem W9{E:Int}(ai:0≤E)(n:Int):fA E (pD n):=by
 unfold pD;split
 ·rename_i h;have:=Dg h;refine⟨zr _,zr _,zr _,?_,?_,?_⟩
  ·simp[vg,h]
  ·simp only[vg,h,if_true];exact ai
  ·simp only[vg,h,if_true,List.length_replicate];omega
 ·exact W8 ai _ _ _
theorem Cs{s:au}(h:e1 s=true):kr s.av=true∧0≤s.cw∧s.cw≤s.av.cu:=by
 simp only[e1,j',ca,bW,fJ,b8]at h;exact⟨h.1,h.2.2.2.2.1,h.2.2.2.2.2.1⟩
theorem Pw{E:Int}{s:au}{d:List UInt8}(h:fA E s)(hd:d.length≤8):fA (E+8) (g5 s d):=by
 unfold g5;split
 ·rename_i hw;have agX:kr s.av=true:=by
   simp only[pz,bW]at hw;exact(Cs hw.1.1).1
  have hi:=qz agX;have hr:=W_ s.av;have hn:nQ s.av d=(cj (oi s.av) d.length).toNat:=rfl;have we:(nQ s.av d:Int)≤8:=by rw[hn];unfold cj;split<;>omega
  have h0:=h.dc;have h1:=h.ag;have he:(vT s.av d).cu=s.av.cu+(nQ s.av d:Int):=by
   simp only[vT];by_cases hp:0<nQ s.av d
   ·have GX:0<oi s.av:=by rw[hn]at hp;unfold cj at hp;split at hp<;>omega
    obtain⟨aY,bn,dg⟩:=hr.2 GX;have bt:(nQ s.av d:Int)≤oi s.av:=by rw[hn];unfold cj;split<;>omega
    rw[bA]<;>omega
   ·rw[bA]<;>omega
  have hq:0<nQ s.av d→(vT s.av d).cu≤4611686018427387903:=fun hp=>by
   have GX:0<oi s.av:=by rw[hn]at hp;unfold cj at hp;split at hp<;>omega
   obtain⟨aY,bn,dg⟩:=hr.2 GX;have bt:(nQ s.av d:Int)≤oi s.av:=by rw[hn];unfold cj;split<;>omega
   omega
  have hm:s.av.cu≤(vT s.av d).cu:=by omega
  refine⟨?_,Kv hm h.f,Kv hm h.a,by simp only[he];omega,by simp only[he];omega,by simp only[vT,Ky];exact h.c⟩;simp only;split
  ·rename_i hp;have:=hq hp;exact Hl (Kv hm h.p) ((gI _).2 (by simp only;omega)) ξ
  ·exact Kv hm h.p
 ·exact h.mono ω
theorem Px{E:Int}{s:au}(h:fA E s):fA E (wg s):=by
 unfold wg;split
 ·exact⟨h.p,h.f,h.a,h.dc,h.ag,h.c⟩
 ·exact h
theorem Xa{E:Int}{s:au}(h:fA E s)(c:Int):fA E (iz s c):=by
 unfold iz;split
 ·rename_i hw;simp only[oZ,bW]at hw;obtain⟨aY,bn,dg⟩:=Cs hw.1.1;have hi:=qz aY;have h1:=h.ag;exact⟨zr _,zr _,zr _,bn,by simp only;omega,by simp only[List.length_replicate];omega⟩
 ·exact h
theorem agY{E:Int}{s:au}(h:fA E s):fA E (En s):=by
 unfold En;split
 ·exact⟨h.p,h.f,h.a,h.dc,h.ag,h.c⟩
 ·exact h
theorem Xb{s:au}{p:bL}(h:nd s p=true)(hq:s.av.cu≤4611686018427387903)(hd:p.data.length≤1048576):0≤(eN p).low∧(eN p).high≤s.av.cu∧(p.data≠[]→(eN p).low<(eN p).high):=by
 simp only[nd,bW,b8,fJ]at h;obtain⟨h1,h2,ao,_⟩:=h;rw[bA ω ω]at ao;simp only[eN];rw[bA ω ω];refine⟨h1,by omega,fun hn=>?_⟩;have:=List.length_pos_iff.2 hn;omega
theorem Kz{E:Int}{s:au}(h:fA E s):fA E (lp s):=⟨h.p,h.f,h.a,h.dc,h.ag,h.c⟩
theorem Xc{E:Int}{s:au}{p:bL}(h:fA E s):fA E (mj s p):=by
 unfold mj;split
 ·exact⟨h.p,h.f,h.a,h.dc,h.ag,h.c⟩
 ·exact h
theorem FO{E:Int}{s:au}{p:bL}(h:fA E s)(hd:p.data.length≤1048576):fA E (gv s p):=by
 unfold gv;split
 ·rename_i hw;refine Kz (Xc ?_);unfold jQ;split
  ·exact h
  ·rename_i hne;simp only[h8,rj,bW,fJ]at hw;obtain⟨cn,cG,d4,_⟩:=hw;have hi:=qz (Cs cn).1;obtain⟨k1,k2,dR⟩:=Xb d4 ω hd;have i1:=dR hne;exact⟨W3 h.p,Hl h.f ((gI _).2 ω) k2,h.a,h.dc,h.ag,h.c⟩
 ·exact h
theorem agZ(r:dd)(t:Int):(ya r t).cu=r.cu∧(ya r t).cells.length=r.cells.length:=by
 unfold ya;split
 ·exact⟨rfl,KA _ _ _ _⟩
 ·exact⟨rfl,rfl⟩
theorem Xd{E:Int}{s:au}{p:bL}(f:Int)(h:fA E s):fA E (oN f s p):=by
 unfold oN;split
 ·exact⟨h.p,h.f,h.a,h.dc,h.ag,h.c⟩
 ·exact h
theorem ag0(f:Int)(s:au)(p:bL):(oN f s p).av=s.av:=by unfold oN;split<;>rfl
theorem ag1(s:au)(p:bL):(qA s p).av=s.av:=by unfold qA;split<;>rfl
theorem Xe{E:Int}{s:au}{p:bL}(h:fA E s):fA E (lq s p):=by
 unfold lq;split
 ·have h1:fA E (oN 3 (qA s p) p):=by
   refine Xd 3 ?_;unfold qA;split
   ·exact h
   ·exact⟨h.p,W5 h.f,Cr _ _ h.a (W6 h.f),h.dc,h.ag,h.c⟩
  have hr:(oN 3 (qA s p) p).av=s.av:=by rw[ag0,ag1]
  have hd:=agZ s.av (rk (oN 3 (qA s p) p).a0 0);have e:(Hm s.av (oN 3 (qA s p) p)).av.cu=(oN 3 (qA s p) p).av.cu:=by rw[hr];exact hd.1
  refine Kz ⟨?_,?_,?_,?_,?_,?_⟩
  ·rw[e];exact h1.p
  ·rw[e];exact h1.f
  ·rw[e];exact h1.a
  ·rw[e];exact h1.dc
  ·rw[e];exact h1.ag
  ·exact Nat.le_trans (Nat.le_of_eq hd.2) h.c
 ·exact h
theorem Xf{E:Int}{s:au}{p:bL}(h:fA E s):fA E (kK s p):=by
 unfold kK;split
 ·refine Kz (Xd 1 ?_);unfold Ct;split
  ·exact h
  ·exact⟨Cr _ _ h.p (W6 h.f),W5 h.f,h.a,h.dc,h.ag,h.c⟩
 ·exact h
def QZ:List (List bR):=cS 15 [14348906,14348904,14348898,14348880,13611807,13611645,13611159,13639185,13634811,13621689,13581270,14260293,13905999,12754584,9565938]
attribute [go_sem] QZ
def Ly(r:b')(o:Int)(d:List UInt8):Bool:=kC r&&decide (0≤o)&&decide (o≤i64.wrap (4611686018427387903-(d.length:Int)))
def w1(r:b')(o:Int)(d:List UInt8)(f:Bool):Int:=if Ly r o d then ym r (o+d.length) f else 7
def CQ(r:b')(o:Int)(d:List UInt8)(f:Bool):Bool:=Ly r o d&&!(decide (ym r (o+d.length) f≠0)||decide (1<r.b0))
def A4(r:b')(o:Int)(d:List UInt8):List aU:=oX r.bV.next r.bV.cp o d
def Bf(r:b')(o:Int)(d:List UInt8)(f:Bool):Int:=if f then o+d.length else r.br
def EH(r:b')(o:Int)(d:List UInt8)(f:Bool):Bool:=decide (Bf r o d f≠-1)&&decide (i64.wrap (r.bV.next+(k7 r.bV.next (A4 r o d):Int))=Bf r o d f)
def rf(r:b')(o:Int)(d:List UInt8)(f:Bool):b':=
 if CQ r o d f then⟨if EH r o d f then 2 else if f then 1 else r.b0,⟨r.bV.next,A4 r o d⟩,Bf r o d f,dp r.gw (o+d.length),r.c4⟩else r
theorem agy(dH du:Int)(cZ:List aU)(dT dO dQ o:Int)(d:List UInt8)(f:Bool)(hb:∀c∈cZ,va c)(hx:cZ.length≤1000)(hd:d.length≤8)(aJ:0≤o∧o≤900):aL 289 [.agg [.int .i64 dH,.int .i64 du,.sl 2 (cZ.map aU.enc),.int .i64 dT,.int .i64 dO,.int .i64 dQ],.one (.int .i64 o),.one (.str d),.one (.bool f)] [.agg (b'.enc (rf (⟨dH,⟨du,cZ⟩,dT,dO,dQ⟩:b') o d f)),.one (.int .i64 (w1 (⟨dH,⟨du,cZ⟩,dT,dO,dQ⟩:b') o d f))]:=by
 refine a3 79 func289 call289 [.cell 8 62,.tmp 9] ?_;intro _;have lP:∀c∈cZ,c.data.length≤1048576:=fun c hc=>by have:=hb c hc;simp only[va]at this;omega
 have hok:=R8 (n:=du) (off:=o) (data:=d) hb aJ.1 ω;have mo:=R9 du cZ o d;have Q0:∀c∈oX du cZ o d,c.data.length≤1048576:=fun c hc=>by have:=hok c hc;simp only[va]at this;omega
 have vl:=agU du cZ o d lP ω (fun c hc=>by have:=hb c hc;simp only[va]at this;omega) hd aJ.1 ω;have h5:=E0 du (oX du cZ o d) Q0 ω;have cE:i64.wrap (4611686018427387903-(d.length:Int))=4611686018427387903-(d.length:Int):=by rw[bA]<;>omega
 have fZ:i64.wrap (o+(d.length:Int))=o+(d.length:Int):=by rw[bA]<;>omega
 have ag:=bm (p:=o<0) ω;have ar:=bm (p:=4611686018427387903-(d.length:Int)<o) ω;have er:Ly (⟨dH,⟨du,cZ⟩,dT,dO,dQ⟩:b') o d=kC (⟨dH,⟨du,cZ⟩,dT,dO,dQ⟩:b'):=by
  unfold Ly;rw[cE,bC aJ.1,bC (show o≤4611686018427387903-(d.length:Int)by omega)];simp
 cases aS:kC (⟨dH,⟨du,cZ⟩,dT,dO,dQ⟩:b')with
 |false=>
  have b7:CQ (⟨dH,⟨du,cZ⟩,dT,dO,dQ⟩:b') o d f=false:=by unfold CQ;rw[er,aS];rfl
  have ai:w1 (⟨dH,⟨du,cZ⟩,dT,dO,dQ⟩:b') o d f=7:=by unfold w1;rw[er,aS];rfl
  try simp only[go_sem]
  repeat'(first|((first|refine ae.intro (by first|assumption|(apply z9<;>exact a6)|(apply yl<;>exact a6)) ?_|refine ay.intro ‹_› ?_|with_reducible refine eB ?_)<;>simp only[go_sem,I,aS])|(with_reducible refine az ?_)|fail)
  all_goals(rw[ai];simp[rf,b7])
 |true=>
  have ai:w1 (⟨dH,⟨du,cZ⟩,dT,dO,dQ⟩:b') o d f=ym (⟨dH,⟨du,cZ⟩,dT,dO,dQ⟩:b') (o+d.length) f:=by unfold w1;rw[er,aS];rfl
  try simp only[go_sem]
  repeat'((first|refine ae.intro (by first|assumption|(apply z9<;>exact a6)|(apply yl<;>exact a6)|(apply Zo<;>exact a6)) ?_|refine ay.intro ‹_› ?_|with_reducible refine cN ?_|refine bw ?_)<;>simp only[go_sem,I,aS,cE,fZ,ag,ar])
  refine bP (fun h=>?_) (fun h=>?_)
  ·have b7:CQ (⟨dH,⟨du,cZ⟩,dT,dO,dQ⟩:b') o d f=false:=by unfold CQ;simp only[d5]at h;rw[er,aS,h];rfl
   simp only[go_sem,I];rw[ai];simp[rf,b7]
  ·have b7:CQ (⟨dH,⟨du,cZ⟩,dT,dO,dQ⟩:b') o d f=true:=by unfold CQ;simp only[d5]at h;rw[er,aS,h];rfl
   have h0:ym (⟨dH,⟨du,cZ⟩,dT,dO,dQ⟩:b') (o+d.length) f=0:=by
    simp only[d5,Bool.or_eq_false_iff,eG]at h;omega
   rw[h0]at ai;have bj:rf (⟨dH,⟨du,cZ⟩,dT,dO,dQ⟩:b') o d f=⟨if EH (⟨dH,⟨du,cZ⟩,dT,dO,dQ⟩:b') o d f then 2 else if f then 1 else dH,⟨du,A4 (⟨dH,⟨du,cZ⟩,dT,dO,dQ⟩:b') o d⟩,Bf (⟨dH,⟨du,cZ⟩,dT,dO,dQ⟩:b') o d f,dp dO (o+d.length),dQ⟩:=by unfold rf;exact if_pos b7
   simp only[go_sem]
   cases f with
   |true=>
    try simp only[go_sem]
    repeat'(first|((first|refine ae.intro ‹_› ?_|refine ay.intro ‹_› ?_|refine f' ?_|refine bo QZ χ ψ ?_|refine bP (fun h=>?_) (fun h=>?_))<;>simp only[go_sem,I])|(with_reducible refine az ?_)|fail)
    ·simp only[di]at h;have hq:EH (⟨dH,⟨du,cZ⟩,dT,dO,dQ⟩:b') o d true=true:=h;rw[ai,bj,hq];simp[dp,Bf,A4]
    ·simp only[di]at h;have hq:EH (⟨dH,⟨du,cZ⟩,dT,dO,dQ⟩:b') o d true=false:=h;rw[ai,bj,hq];simp[dp,Bf,A4]
   |false=>
    try simp only[go_sem]
    repeat'(first|((first|refine ae.intro ‹_› ?_|refine ay.intro ‹_› ?_|refine f' ?_|refine bo QZ χ ψ ?_|refine bP (fun h=>?_) (fun h=>?_))<;>simp only[go_sem,I])|(with_reducible refine az ?_)|fail)
    ·simp only[di]at h;have hq:EH (⟨dH,⟨du,cZ⟩,dT,dO,dQ⟩:b') o d false=true:=h;rw[ai,bj,hq];simp[dp,Bf,A4]
    ·simp only[di]at h;have hq:EH (⟨dH,⟨du,cZ⟩,dT,dO,dQ⟩:b') o d false=false:=h;rw[ai,bj,hq];simp[dp,Bf,A4]
structure gP(m:Nat)(s:af):Prop where
 snd:fA (8 * m) s.ak
 gp:∀c∈s.a2.bV.cp,va c
 xE:s.a2.bV.cp.length≤m
structure cI(m:Nat)(c:aa):Prop where
 l2:c.ab.length≤24
 ml:∀s∈c.ab,gP m s
 vw:c.an.length≤m
 i4:∀p∈c.an,Ip p
theorem gP.mono{m n:Nat}{s:af}(h:gP m s)(hm:m≤n):gP n s:=⟨h.snd.mono ω,h.gp,by have:=h.xE;omega⟩
theorem cI.mono{m n:Nat}{c:aa}(h:cI m c)(hm:m≤n):cI n c:=⟨h.l2,fun s hs=>(h.ml s hs).mono hm,by have:=h.vw;omega,h.i4⟩
theorem gP.sz{m:Nat}{s:af}(h:gP m s)(hm:m≤20):f_ s:=by
 have h1:=h.snd.size;have h2:=h.snd.c;have ao:=h.xE;refine⟨by omega,by omega,fun c hc=>?_,by omega⟩;have:=h.gp c hc;simp only[va]at this;omega
theorem cI.sz{m:Nat}{c:aa}(h:cI m c)(hm:m≤20):jC c:=by
 have h1:=h.l2;have ao:=h.vw;exact⟨by omega,fun s hs=>(h.ml s hs).sz hm,by omega,h.i4⟩
theorem Xg(m:Nat):gP m lD:=⟨W8 ω _ _ _,by simp[lD],by simp[lD]⟩
theorem Xh(m:Nat)(v:Bool)(i:Int)(o p:ff):gP m (lA v i o p):=by
 unfold lA;split
 ·exact⟨W9 ω _,by simp[z4],by simp[z4]⟩
 ·exact Xg m
theorem ag2{m:Nat}{l:List af}(h:∀s∈l,gP m s)(id:Int):gP m (cf l id).1:=by
 unfold cf;split
 ·rename_i s hs;exact h s (List.mem_of_find?_eq_some hs)
 ·exact Xg m
theorem Hn{l:List af}{id:Int}(h:(cf l id).2=true):(cf l id).1.id=id∧(cf l id).1∈l:=by
 unfold cf at h⊢;split at h
 ·rename_i s hs;have h1:=List.find?_some hs;exact⟨cQ h1,List.mem_of_find?_eq_some hs⟩
 ·cases h
theorem T7{l:List af}{s:af}(h:(cf l s.id).2=true):(eC l s).length=l.length:=by
 unfold eC;split
 ·rw[List.length_set]
 ·rename_i hn;obtain⟨h1,h2⟩:=Hn h;rw[List.findIdx?_eq_none_iff]at hn;have:=hn _ h2;simp[fp,h1]at this
def lI(c:aa)(s:af):aa:={c with ab:=eC c.ab s}
theorem Xi{m:Nat}{c:aa}{s:af}(h:cI m c)(hs:gP m s)(hf:(cf c.ab s.id).2=true):cI m (lI c s):=by
 refine⟨?_,fun x hx=>?_,h.vw,h.i4⟩
 ·simp only[lI,T7 hf];exact h.l2
 ·rcases BI hx with hx|rfl
  ·exact h.ml x hx
  ·exact hs
theorem Xj{v:Bool}{o p:ff}{id:Int}:∀(k:Nat) (l:List af) (x:af),x∈pC v o p id k l→x∈l∨∃i,x=lA v i o p
 |0,l,x,h=>Or.inl h
 |k+1,l,x,h=>by
  rcases Xj k _ x h with h|h
  ·rcases BI h with h|h
   ·exact Or.inl h
   ·exact Or.inr ⟨_,h⟩
  ·exact Or.inr h
theorem AY{m:Nat}{c:aa}(h:cI m c)(id:Int):cI m (cP c id):=by
 unfold cP;split
 ·rename_i hg;simp only[bW]at hg;have hn:=IH hg.2 (by have:=h.l2;omega);have hl:=Sr c.eO c.own c.da id (qc c id).toNat c.ab;have hw:(z5 c id (mu (qb c id) (jI id))).an=c.an:=by unfold z5;split<;>rfl
  refine⟨by simp only;omega,fun x hx=>?_,by simp only[hw];exact h.vw,by simp only[hw];exact h.i4⟩;rcases Xj _ _ x hx with hx|⟨i,rfl⟩
  ·exact h.ml x hx
  ·exact Xh m _ _ _ _
 ·exact h
def md(c:aa):eD×Bool:=if qd c.dq then(iJ c.dq c.ef c.own.eP,lZ c.dq c.ef c.own.eP)else(c.dq,c.pF)
def hD(a:eL)(t:Bool):eL×Bool:=if yU a then(kf a,qe a)else(a,t)
def q1(s:af):Bool:=s.gO&&decide (s.a2.b0=0)&&!s.j2
def lE(c:aa)(s:af):eD×Bool:=if q1 s then(if qd s.b1 then(iJ s.b1 c.ef c.own.eP,lZ s.b1 c.ef c.own.eP)else(s.b1,s.k_))else(s.b1,false)
def m3(k i l:Int):aq:=⟨k,i,0,[],false,0,l,0,false⟩
def gi(k l:Int)(u:Bool):aq:=⟨k,0,0,[],false,0,l,0,u⟩
def n7(k i c z:Int):aq:=⟨k,i,0,[],false,c,0,z,false⟩
def ji(s:af):List aq:=if s.jG then [n7 4 s.id s.ak.c4 s.ak.cw]else []
def k'(s:af):List aq:=if s.hL&&decide (s.a2.b0<2)then [n7 5 s.id s.oB 0]else []
def l0(c:aa)(s:af):List aq:=if(lE c s).2 then [m3 17 s.id (lE c s).1.aZ]else []
def pE(s:af):List aq:=if n6 s.cV&&s.fF&&decide (0<(s.ak.aP.length:Int))then [m3 21 s.id s.cV.aZ]else []
def gk(c:aa)(s:af):List aq:=ji s++k' s++l0 c s++pE s
def Ep(c:aa):List aq:=(if(md c).2 then [gi 16 (md c).1.aZ false]else [])++(if(hD c.eo c.lF).2 then [gi 18 (hD c.eo c.lF).1.aZ false]else [])++(if(hD c.en c.lG).2 then [gi 18 (hD c.en c.lG).1.aZ true]else [])
def Er(c:aa):List aq:=(if n6 c.cm then [gi 20 c.cm.aZ false]else [])++(if c.fe.blocked=c.fe.aZ then [gi 22 c.fe.aZ false]else [])++(if c.fc.blocked=c.fc.aZ then [gi 22 c.fc.aZ true]else [])
def fq(c:aa):List aq:=if iv c then Ep c++c.ab.flatMap (gk c)++Er c else []
def jN(c:aa)(s:af)(k:Int):af:=
 if k=4 then {s with jG:=false}else if k=5 then {s with hL:=false}else if k=17 then {s with b1:=if(lE c s).2 then(lE c s).1 else s.b1,k_:=false}else if k=21 then {s with cV:=kl s.cV}else s
def iV(c:aa)(f:aq):aa:=
 if gq c then
  (if f.bp=16 then {c with dq:=(md c).1,pF:=false}
   else if f.bp=18 then(if f.ft then {c with en:=(hD c.en false).1,lG:=false}else {c with eo:=(hD c.eo false).1,lF:=false})
   else if f.bp=20 then {c with cm:=kl c.cm}
   else if f.bp=22 then(if f.ft then {c with fc:={c.fc with blocked:=-1}}else {c with fe:={c.fe with blocked:=-1}})
   else if(cf c.ab f.aC).2 then lI c (jN c (aO c f.aC) f.bp)else c)
 else c
def gG(id:Int)(p:bL):aq:=⟨8,id,p.aH,p.data,p.aW,0,0,0,false⟩
def Aq(c:aa)(s:af):Int:=cj s.cV.aZ (i64.wrap (s.ak.cw+wE c.cm))
def oF(s:au)(id fr room:Int):Nat→bL×Bool
 |0=>(mf,false)
 |n+1=>if gH s (n+1:Nat) fr then(if((dy (gG id (eM s (n+1:Nat) fr))).length:Int)≤room then(eM s (n+1:Nat) fr,true)else oF s id fr room n)else(mf,false)
def vz(c:aa)(id room:Int):Bool:=gq c&&(cf c.ab id).2&&(aO c id).fF&&!decide (room<3)
def iX(c:aa)(id room:Int):bL×Bool:=if vz c id room then oF (aO c id).ak id (Aq c (aO c id)) room (cj room 60).toNat else(mf,false)
def wD(c:aa)(id:Int):Bool:=gq c&&(cf c.ab id).2&&(aO c id).fF
def l5(s:af)(p:bL):Int:=i64.wrap ((gv s.ak p).cw-s.ak.cw)
def o7(c:aa)(id:Int)(p:bL):Bool:=wD c id&&(h8 (aO c id).ak p&&lJ (aO c id).cV (l5 (aO c id) p)&&lJ c.cm (l5 (aO c id) p))
def jx(s:af)(p:bL):af:={s with ak:=gv s.ak p,cV:=hP s.cV (l5 s p)}
def q5(c:aa)(id:Int)(p:bL):aa:=if o7 c id p then {c with cm:=hP c.cm (l5 (aO c id) p),dE:=id,ab:=eC c.ab (jx (aO c id) p)}else c
def qk(s:af):Bool:=s.fF&&decide (s.ak.b0<3)&&(decide (0<(s.ak.aP.length:Int))||decide (s.ak.aW=1))
def o8(s:af):b9:=⟨s.id,s.cL⟩
def xC(c:aa):List b9:=(c.ab.filter qk).map o8
def pL(s:af):af:={s with cV:=kB s.cV}
def FN(c:aa)(id:Int):aa:={c with cm:=kB c.cm,ab:=eC c.ab (pL (aO c id))}
structure nI where
 x:aa
 skip:List Int
 bY:List aq
 room:Int
def y1(q:nI):List b9:=q.skip.foldl m7 (xC q.x)
def fl(q:nI):Int:=xD (y1 q) q.x.dE
def iY(q:nI):bL×Bool:=iX q.x (fl q) q.room
def vy(q:nI):nI:=⟨FN q.x (fl q),q.skip++[fl q],q.bY,q.room⟩
def xF(q:nI):nI:=⟨q5 q.x (fl q) (iY q).1,q.skip,q.bY++[gG (fl q) (iY q).1],i64.wrap (q.room-((dy (gG (fl q) (iY q).1)).length:Int))⟩
def iW:Nat→nI→nI
 |0,q=>q
 |k+1,q=>if fl q<0 then q else if(iY q).2 then(if o7 q.x (fl q) (iY q).1 then iW k (xF q)else q)else iW k (vy q)
structure xB where
 x:aa
 bY:List aq
 room:Int
def jw(q:xB)(f:aq):xB:=if((dy f).length:Int)≤q.room then⟨iV q.x f,q.bY++[f],i64.wrap (q.room-((dy f).length:Int))⟩else q
def pI(c:aa)(b:Int):Bool:=iv c&&ca b 1 400&&!decide (1000000≤c.bO)
def ch(c:aa)(b:Int):xB:=(fq c).foldl jw ⟨c,[],b⟩
def c5(c:aa)(b:Int):nI:=iW 200 ⟨(ch c b).x,[],(ch c b).bY,(ch c b).room⟩
def gy(c:aa)(b:Int):aa:=
 if pI c b then(if(c5 c b).bY=[]then(c5 c b).x else {(c5 c b).x with an:=(c5 c b).x.an++[⟨c.bO,(c5 c b).bY⟩],bO:=i64.wrap (c.bO+1)})else c
def oC(c:aa)(b:Int):Bool:=pI c b&&!decide ((c5 c b).bY=[])
def nH(c:aa)(b:Int):Int:=if oC c b then c.bO else -1
def me(c:aa)(b:Int):List UInt8:=if oC c b then vv (c5 c b).bY else []
def w2(s:af)(e:Int):Int:=iq s.a2 e
def lo(c:aa)(s:af)(e:Int):Int:=if w2 s e=0 then 0 else if j9 s.b1 (w2 s e)&&j9 c.dq (w2 s e)then 0 else 3
def nb(s:af)(e:Int):af:=if w2 s e=0 then s else {s with b1:=qx s.b1 (w2 s e)}
def og(c:aa)(s:af)(e:Int):aa:=if w2 s e=0 then c else {c with dq:=qx c.dq (w2 s e)}
def Kq(s:af)(t:Int):Int:=dp 0 (i64.wrap (t-s.b1.gF))
def x6(s:af)(t:Int):af:={s with b1:=Ew s.b1 (Kq s t)}
def x7(c:aa)(s:af)(t:Int):aa:={c with dq:=Ew c.dq (Kq s t)}
def vQ(f:aq):Int:=i64.wrap (f.aH+(f.data.length:Int))
def im(s:af)(r:b'):af:={s with a2:=r}
def qw(c:aa)(f:aq)(k:Int):Bool:=gq c&&d_ f&&decide (f.bp=k)
def Cl(c:aa)(f:aq):Int:=
 if qw c f 8 then(if gO c.eO f.aC then(if ie c f.aC=0 then(if lo (cP c f.aC) (aO (cP c f.aC) f.aC) (vQ f)=0 then w1 (aO (cP c f.aC) f.aC).a2 f.aH f.data f.aW else lo (cP c f.aC) (aO (cP c f.aC) f.aC) (vQ f))else ie c f.aC)else 5)else 7
def Cm(x:aa)(f:aq):af:=im (nb (aO x f.aC) (vQ f)) (rf (aO x f.aC).a2 f.aH f.data f.aW)
def G3(c:aa)(f:aq):aa:=if Cl c f=0 then fL (og (cP c f.aC) (aO (cP c f.aC) f.aC) (vQ f)) (Cm (cP c f.aC) f)else c
def Co(c:aa)(f:aq):Int:=
 if qw c f 4 then(if gO c.eO f.aC then(if ie c f.aC=0 then(if lo (cP c f.aC) (aO (cP c f.aC) f.aC) f.br=0 then x_ (aO (cP c f.aC) f.aC).a2 f.c4 f.br else lo (cP c f.aC) (aO (cP c f.aC) f.aC) f.br)else ie c f.aC)else 5)else 7
def PC(x:aa)(f:aq):b':=w6 (aO x f.aC).a2 f.c4 f.br
def Cp(x:aa)(f:aq):Bool:=decide ((PC x f).b0=4)&&decide ((aO x f.aC).a2.b0≠4)
def KE(x:aa)(f:aq):af:=nb (aO x f.aC) f.br
def PB(x:aa)(f:aq):aa:=og x (aO x f.aC) f.br
def x9(x:aa)(f:aq):af:=im (if Cp x f then x6 (KE x f) f.br else KE x f) (PC x f)
def A0(x:aa)(f:aq):aa:=if Cp x f then x7 (PB x f) (KE x f) f.br else PB x f
def Hf(c:aa)(f:aq):aa:=if Co c f=0 then fL (A0 (cP c f.aC) f) (x9 (cP c f.aC) f)else c
def Cq(c:aa)(f:aq):Int:=if qw c f 5 then(if fF c.eO f.aC then ie c f.aC else 5)else 7
def vx(x:aa)(f:aq):af:=if oZ (aO x f.aC).ak f.c4 then g4 (aO x f.aC) f.c4 else aO x f.aC
def Hg(c:aa)(f:aq):aa:=if Cq c f=0 then fL (cP c f.aC) (vx (cP c f.aC) f)else c
def Ek(c:aa)(f:aq):Bool:=if f.bp=21 then gO c.eO f.aC else fF c.eO f.aC
def Cn(c:aa)(f:aq):Int:=if Ek c f then ie c f.aC else 5
def G'(x:aa)(f:aq):af:={aO x f.aC with cV:=x3 (aO x f.aC).cV f.aZ}
def G_(c:aa)(f:aq):aa:=if Cn c f=0 then(if f.bp=17 then lI (cP c f.aC) (G' (cP c f.aC) f)else cP c f.aC)else c
def Hb(c:aa)(f:aq):Bool:=gq c&&d_ f
def w3(c:aa)(f:aq):Int:=if Hb c f then(if f.bp=16∨f.bp=18∨f.bp=20∨f.bp=22 then 0 else if f.bp=17∨f.bp=21 then Cn c f else 7)else 7
def ri(c:aa)(f:aq):aa:=
 if Hb c f then(if f.bp=16 then {c with cm:=x3 c.cm f.aZ}else if f.bp=18 then(if f.ft then {c with fc:=A7 c.fc f.aZ}else {c with fe:=A7 c.fe f.aZ})else if f.bp=17∨f.bp=21 then G_ c f else c)else c
def El(c:aa)(f:aq):Int:=if f.bp=8 then Cl c f else if f.bp=4 then Co c f else if f.bp=5 then Cq c f else w3 c f
def Ad(c:aa)(f:aq):aa:=if f.bp=8 then G3 c f else if f.bp=4 then Hf c f else if f.bp=5 then Hg c f else ri c f
def w4(c:aa)(id:Int):Bool:=iv c&&(cf c.ab id).2&&(aO c id).gO
def oh(c:aa)(id m:Int):b':=x8 (aO c id).a2 m
def X2(c:aa)(id m:Int):Bool:=decide ((oh c id m).b0<4)
def KG(c:aa)(id m:Int):af:=im (aO c id) (oh c id m)
def x5(c:aa)(id m:Int):af:=if X2 c id m then x6 (KG c id m) (oh c id m).bV.next else KG c id m
def AZ(c:aa)(id m:Int):aa:=if X2 c id m then x7 c (KG c id m) (oh c id m).bV.next else c
def nG(c:aa)(id m:Int):aa:=if w4 c id then fL (AZ c id m) (x5 c id m)else c
def Hc(c:aa)(id m:Int):List UInt8:=if w4 c id then w5 (aO c id).a2 m else []
def Hd(c:aa)(id m:Int):Bool:=w4 c id&&(decide ((oh c id m).b0=3)||decide ((oh c id m).b0=5))
def jU(n:Int)(p:aT):Bool:=decide (p.bO=n)
def jT(xs:List aT)(n:Int):aT×Bool:=match xs.find? (jU n)with|some p=>(p,true)|none=>(⟨0,[]⟩,false)
def po(c:aa)(n:Int):aa:={c with an:=c.an.filter fun p=>!jU n p}
def Cz(f:aq):bL:=⟨f.aH,f.data,f.aW⟩
def jo(s:af)(f:aq):af:=
 if f.bp=8 then iG s (lq s.ak (Cz f))else if f.bp=4 then {s with ak:=En s.ak,jG:=if CA s.ak then false else s.jG}else if f.bp=5 then {s with hL:=false}else s
def KH(c:aa)(f:aq):Bool:=(cf c.ab f.aC).2&&h6 f.bp
def u6(c:aa)(f:aq):aa:=if KH c f then fL c (jo (aO c f.aC) f)else c
def oP(s:af)(f:aq):af:=
 if f.bp=8 then iG s (kK s.ak (Cz f))else if f.bp=4 then {s with jG:=decide (s.ak.b0=4)}else if f.bp=5 then {s with hL:=decide (s.a2.b0<2)}else if f.bp=17 then {s with k_:=true}else s
def u9(c:aa)(f:aq):aa:=
 if f.bp=16 then {c with pF:=true}else if f.bp=18 then(if f.ft then {c with lG:=true}else {c with lF:=true})else if KH c f then lI c (oP (aO c f.aC) f)else c
def oV(c:aa)(n:Int):Bool:=iv c&&(jT c.an n).2
def ER(c:aa)(n:Int):aa:=if oV c n then(jT c.an n).1.c0.foldl u6 (po c n)else c
def EW(c:aa)(n:Int):aa:=if oV c n then(jT c.an n).1.c0.foldl u9 (po c n)else c
def BF(v:Bool)(o p:ff):aa:=
 if jg o&&jg p then⟨v,o,p,[],A8 p.cm,HE o.cm o.lX,Ex p.k8,Ex p.ft,CB o.k8,CB o.ft,false,false,false,-1,0,[],0,0⟩
 else⟨false,⟨0,0,0,0,0,0,0,0⟩,⟨0,0,0,0,0,0,0,0⟩,[],⟨0,0,0,0⟩,⟨0,0,0,0,0,0⟩,⟨0,0,0⟩,⟨0,0,0⟩,⟨0,0,0,0⟩,⟨0,0,0,0⟩,false,false,false,0,0,[],0,0⟩
theorem gP.same{m:Nat}{s t:af}(h:gP m s)(h1:t.ak=s.ak)(h2:t.a2=s.a2):gP m t:=⟨h1▸h.snd,h2▸h.gp,h2▸h.xE⟩
theorem gP.Eo{m:Nat}{s:af}(h:gP m s){x:au}(hx:fA (8 * m) x):gP m (iG s x):=⟨hx,h.gp,h.xE⟩
theorem cI.same{m:Nat}{c d:aa}(h:cI m c)(h1:d.ab=c.ab)(h2:d.an=c.an):cI m d:=⟨h1▸h.l2,h1▸h.ml,h2▸h.vw,h2▸h.i4⟩
theorem cI.aO{m:Nat}{c:aa}(h:cI m c)(id:Int):gP m (aO c id):=ag2 h.ml id
theorem w7{c:aa}{id:Int}(h:(cf c.ab id).2=true):(aO c id).id=id:=(Hn h).1
theorem A2{m:Nat}{c:aa}{id:Int}{s:af}(h:cI m c)(hf:(cf c.ab id).2=true)(hi:s.id=(aO c id).id)(hs:gP m s):cI m (lI c s):=
 Xi h hs (by rw[hi,w7 hf];exact hf)
theorem Br(c:aa)(s:af):(BC c s).ab=c.ab∧(BC c s).an=c.an:=by
 unfold BC;repeat' split
 all_goals exact⟨rfl,rfl⟩
theorem Xk(c:aa)(s:af):(wh c s).ak=s.ak∧(wh c s).a2=s.a2∧(wh c s).id=s.id:=by
 unfold wh;split<;>exact⟨rfl,rfl,rfl⟩
theorem ag3(c:aa)(s:af):(fL c s).ab=(lI c (wh c s)).ab∧(fL c s).an=(lI c (wh c s)).an:=⟨rfl,(Br c s).2⟩
theorem Py{m:Nat}{c:aa}{id:Int}{s:af}(h:cI m c)(hf:(cf c.ab id).2=true)(hi:s.id=id)(hs:gP m s):cI m (fL c s):=by
 obtain⟨dZ,gu,gZ⟩:=Xk c s;obtain⟨eY,eK⟩:=ag3 c s;exact(Xi h (hs.same dZ gu) (by rw[gZ,hi];exact hf)).same eY eK
theorem f_.asP{c:aa}{s:af}(h:f_ s):f_ (wh c s):=by
 obtain⟨dZ,gu,gZ⟩:=Xk c s;unfold f_;rw[dZ,gu];exact h
theorem FG(c:aa)(s:af)(k:Int):(jN c s k).ak=s.ak∧(jN c s k).a2=s.a2∧(jN c s k).id=s.id:=by
 unfold jN;repeat' split
 all_goals exact⟨rfl,rfl,rfl⟩
theorem Xl{m:Nat}{c:aa}(h:cI m c)(f:aq):cI m (iV c f):=by
 unfold iV
 repeat' split
 all_goals first
  |exact h.same rfl rfl
  |(rename_i hf;obtain⟨dZ,gu,gZ⟩:=FG c (aO c f.aC) f.bp;exact A2 h hf gZ ((h.aO f.aC).same dZ gu))
def pJ(f:aq):Prop:=f.data.length≤60
theorem ag4{c:aa}{s:af}:∀f∈gk c s,pJ f:=by
 intro f hf;simp only[gk,ji,k',l0,pE,fi]at hf;rcases hf with ((hf|hf)|hf)|hf<;>(split at hf<;>simp at hf;subst hf;simp[pJ,n7,m3])
theorem yV(c:aa)(s:af):(gk c s).length≤4:=by
 simp only[gk,ji,k',l0,pE,dY];have h:∀(b:Bool) (f:aq),(if b=true then [f]else []).length≤1:=fun b f=>by cases b<;>simp
 have h1:=h s.jG (n7 4 s.id s.ak.c4 s.ak.cw);have h2:=h (s.hL&&decide (s.a2.b0<2)) (n7 5 s.id s.oB 0);have ao:=h (lE c s).2 (m3 17 s.id (lE c s).1.aZ);have aN:=h (n6 s.cV&&s.fF&&decide (0<(s.ak.aP.length:Int))) (m3 21 s.id s.cV.aZ);omega
theorem Dk{α β:Type}(g:α→List β)(k:Nat):∀(l:List α),(∀x∈l,(g x).length≤k)→(l.flatMap g).length≤k * l.length
 |[],_=>by simp
 |x::l,h=>by
  have h1:=h x ξ;have h2:=Dk g k l fun y hy=>h y (by simp[hy]);rw[List.flatMap_cons,dY,dA,Nat.mul_add];omega
theorem ag5(c:aa):(Ep c).length≤3∧∀f∈Ep c,pJ f:=by
 unfold Ep
 cases(md c).2<;>cases(hD c.eo c.lF).2<;>cases(hD c.en c.lG).2<;>simp[pJ,gi]
theorem ag6(c:aa):(Er c).length≤3∧∀f∈Er c,pJ f:=by
 unfold Er
 cases n6 c.cm<;>by_cases h1:c.fe.blocked=c.fe.aZ<;>by_cases h2:c.fc.blocked=c.fc.aZ<;>simp[pJ,gi,h1,h2]
theorem Nn{m:Nat}{c:aa}(h:cI m c):(fq c).length≤102∧∀f∈fq c,pJ f:=by
 unfold fq;split
 ·obtain⟨cB,cJ⟩:=ag5 c;obtain⟨qY,nC⟩:=ag6 c;have:=Dk (gk c) 4 c.ab fun s _=>yV c s;have:=h.l2;refine⟨by simp only[dY];omega,fun f hf=>?_⟩;rcases fi.1 hf with hf|hf
  ·rcases fi.1 hf with hf|hf
   ·exact cJ f hf
   ·obtain⟨s,_,hs⟩:=List.mem_flatMap.1 hf;exact ag4 f hs
  ·exact nC f hf
 ·simp
structure n9(m k:Nat)(x:aa)(bY:List aq):Prop where
 c:cI m x
 n:bY.length≤k
 d:∀f∈bY,pJ f
theorem n9.mono{m k j:Nat}{x:aa}{bY:List aq}(h:n9 m k x bY)(hk:k≤j):n9 m j x bY:=⟨h.c,by have:=h.n;omega,h.d⟩
theorem n9.add{m k:Nat}{x y:aa}{bY:List aq}{f:aq}(h:n9 m k x bY)(hy:cI m y)(hf:pJ f):n9 m (k+1) y (bY++[f]):=
 ⟨hy,by have:=h.n;simp;omega,fun g hg=>by rcases fi.1 hg with hg|hg;exact h.d g hg;simp at hg;subst hg;exact hf⟩
theorem No{m k:Nat}{q:xB}{f:aq}(h:n9 m k q.x q.bY)(hf:pJ f):n9 m (k+1) (jw q f).x (jw q f).bY:=by
 unfold jw;split
 ·exact h.add (Xl h.c f) hf
 ·exact h.mono ω
theorem Xm{m:Nat}:∀(l:List aq) (k:Nat) (q:xB),n9 m k q.x q.bY→(∀f∈l,pJ f)→n9 m (k+l.length) (l.foldl jw q).x (l.foldl jw q).bY
 |[],k,q,h,_=>h
 |f::l,k,q,h,hl=>by
  have:=Xm l (k+1) (jw q f) (No h (hl f ξ)) fun g hg=>hl g (by simp[hg]);rw[dA,show k+(l.length+1)=k+1+l.length from by omega];exact this
theorem KB(r:dd)(o n:Int):((qB r o n).length:Int)≤dp 0 n:=by
 unfold qB;split
 ·rw[Xn];unfold dp;split<;>omega
 ·unfold dp;simp;split<;>omega
theorem DC{s:au}{m l:Int}(h0:0≤m)(h1:m≤1000)(hp:kI s.av.cu s.aP)(_:s.av.cu≤4611686018427387903):((eM s m l).data.length:Int)≤m:=by
 unfold eM;split
 ·split
  ·rename_i hok _ r hr;have hm:r∈s.aP:=List.mem_of_getElem? hr;have y9:=(gI _).1 (((h_ _).1 hp.1).1 r hm);have hr2:=hp.2 r hm;have:=KB s.av r.low (i64.wrap (hX r m l-r.low));simp only[gH,hr,bW,b8]at hok;obtain⟨_,k1,k2⟩:=hok;have Fx:cj r.high l≤r.high:=by unfold cj;split<;>omega
   have hh:hX r m l-r.low≤m∧0≤hX r m l-r.low:=by
    unfold hX at k2⊢;split
    ·rename_i g;rw[if_pos g]at k2;have e:dp m 0=m:=by unfold dp;split<;>omega
     rw[e]at k2⊢;rw[bA]at k2⊢<;>omega
    ·rename_i g;rw[bA]at g<;>omega
   have hw:i64.wrap (hX r m l-r.low)=hX r m l-r.low:=by rw[bA]<;>omega
   simp only;rw[hw]at this⊢;unfold dp at this;split at this<;>omega
  ·simpa using h0
 ·simp[mf];omega
theorem Xo{s:au}{id fr room:Int}(hp:kI s.av.cu s.aP)(he:s.av.cu≤4611686018427387903):∀(n:Nat),n≤60→(oF s id fr room n).1.data.length≤60
 |0,_=>by simp[oF,mf]
 |n+1,hn=>by
  unfold oF;have:=DC (m:=(n+1:Nat)) (l:=fr) ω ω hp he;split
  ·split
   ·show(eM s ((n+1:Nat):Int) fr).data.length≤60
    omega
   ·exact Xo hp he n ω
  ·simp[mf]
theorem BY{m:Nat}{c:aa}(h:cI m c)(hm:m≤1000)(id room:Int):(iX c id room).1.data.length≤60:=by
 have hs:=(h.aO id).snd;unfold iX;split
 ·refine Xo hs.p (by have:=hs.ag;omega) _ ?_;unfold cj;split<;>omega
 ·simp[mf]
theorem ag7{c:aa}{id:Int}{p:bL}(h:o7 c id p=true):(cf c.ab id).2=true:=by
 simp only[o7,wD,bW,fJ]at h;exact h.2.1
theorem FP{m:Nat}{c:aa}(h:cI m c)(id:Int)(p:bL)(hp:p.data.length≤1048576):cI m (q5 c id p):=by
 unfold q5;split
 ·rename_i hok;have:=A2 (s:=jx (aO c id) p) h (ag7 hok) rfl ⟨FO (h.aO id).snd hp,(h.aO id).gp,(h.aO id).xE⟩;exact this.same rfl rfl
 ·exact h
theorem FM{m:Nat}{c:aa}{id:Int}(h:cI m c)(hf:(cf c.ab id).2=true):cI m (FN c id):=by
 have:=A2 (s:=pL (aO c id)) h hf rfl ((h.aO id).same rfl rfl);exact this.same rfl rfl
theorem ag8(l:List Int)(dE:Int):yb l dE=-1∨yb l dE∈l:=by
 unfold yb;split
 ·rename_i x hx;exact Or.inr (List.mem_of_find?_eq_some hx)
 ·split
  ·exact Or.inl rfl
  ·exact Or.inr ξ
theorem ag9(l:List b9)(dE:Int):xD l dE=-1∨∃c∈l,c.id=xD l dE:=by
 unfold xD;split
 ·rename_i c hc;exact Or.inr ⟨c,List.mem_of_find?_eq_some hc,rfl⟩
 ·rcases ag8 (oO (qC l) l) dE with h|h
  ·exact Or.inl h
  ·right;unfold oO at h⊢;obtain⟨c,hc,hx⟩:=List.mem_flatMap.1 h;exact⟨c,hc,by simpa using((List.mem_filter.1 hx).2:_) |> cQ |>.symm⟩
theorem Xp:∀(cz:List Int) (l:List b9) (c:b9),c∈cz.foldl m7 l→c∈l
 |[],_,_,h=>h
 |i::cz,l,c,h=>(List.mem_filter.1 (Xp cz (m7 l i) c h)).1
theorem Pz{l:List af}{s:af}(h:s∈l):(cf l s.id).2=true:=by
 unfold cf;split
 ·rfl
 ·rename_i hn;rw[List.find?_eq_none]at hn;have:=hn s h;simp[fp]at this
theorem FK{q:nI}(h:0≤fl q):(cf q.x.ab (fl q)).2=true:=by
 rcases ag9 (y1 q) q.x.dE with h1|⟨c,hc,h1⟩
 ·unfold fl at h;omega
 ·have hw:=Xp q.skip (xC q.x) c hc;obtain⟨s,hs,rfl⟩:=List.mem_map.1 hw;have:=Pz (List.mem_filter.1 hs).1;have e:s.id=fl q:=h1;rw[←e];exact this
theorem PA{m:Nat}(hm:m≤1000):∀(n k:Nat) (q:nI),n9 m k q.x q.bY→n9 m (k+n) (iW n q).x (iW n q).bY
 |0,k,q,h=>h
 |n+1,k,q,h=>by
  unfold iW;split
  ·exact h.mono ω
  ·rename_i h0;split
   ·split
    ·rw[show k+(n+1)=k+1+n from by omega];refine PA hm n (k+1) (xF q) ?_;have hl:=BY h.c hm (fl q) q.room;exact h.add (FP h.c _ _ (by unfold iY;omega)) hl
    ·exact h.mono ω
   ·refine(PA hm n k (vy q) ⟨FM h.c (FK ω),h.n,h.d⟩).mono ω
theorem Nq{m:Nat}{c:aa}(h:cI m c)(b:Int):n9 m 102 (ch c b).x (ch c b).bY:=by
 obtain⟨h1,h2⟩:=Nn h;exact(Xm (fq c) 0 ⟨c,[],b⟩ ⟨h,by simp,by simp⟩ h2).mono ω
theorem Nr{m:Nat}{c:aa}(h:cI m c)(hm:m≤1000)(b:Int):n9 m 302 (c5 c b).x (c5 c b).bY:=(PA hm 200 102 _ (Nq h b)).mono ω
theorem Tt{m:Nat}{c:aa}(h:cI m c)(hm:m≤1000)(b:Int):cI (m+1) (gy c b):=by
 have hb:=Nr h hm b;unfold gy;split
 ·split
  ·exact hb.c.mono ω
  ·have hc:=hb.c.mono (show m≤m+1 by omega);refine⟨hc.l2,hc.ml,?_,fun p hp=>?_⟩
   ·have:=hb.c.vw;simp;omega
   ·rcases fi.1 hp with hp|hp
    ·exact hc.i4 p hp
    ·simp at hp;subst hp;exact⟨by have:=hb.n;show(c5 c b).bY.length≤500;omega,hb.d⟩
 ·exact h.mono ω
theorem aha(l:List af)(s:af):s∈eC l s:=by
 unfold eC;split
 ·rename_i i hi;rw[List.findIdx?_eq_some_iff_getElem]at hi;obtain⟨h,_⟩:=hi;exact List.mem_set h _
 ·have:∀(l:List af) (q:List af×Bool),(q.2=true→s∈q.1)→((l.foldl (jZ s) q).2=true→s∈(l.foldl (jZ s) q).1):=by
   intro l
   induction l with
   |nil=>intro q h;exact h
   |cons x l df=>
    intro q h;rw[List.foldl_cons];refine df _ ?_;unfold jZ;split
    ·intro _;simp
    ·intro hq;simp only at hq⊢;exact List.mem_append_left _ (h hq)
  split
  ·rename_i h2;exact this l ([],false) ξ h2
  ·simp
theorem ahb{id:Int}(h:bQ id=true):pB id 0=id:=by
 simp only[bQ,ca,bW,b8]at h;unfold pB;simp only[Int.natCast_zero,Int.mul_zero];rw[bA (n:=0) ω ω,bA]<;>omega
theorem Xq{v:Bool}{o p:ff}{id:Int}(hn:zt id o p=true):∀(k:Nat) (l:List af),0<k→(cf (pC v o p id k l) id).2=true
 |0,_,h=>by omega
 |k+1,l,_=>by
  cases k with
  |zero=>
   have hq:bQ id=true:=by simp only[zt,bW]at hn;exact hn.1.1
   have hi:(lA v (pB id 0) o p).id=id:=by rw[ahb hq];unfold lA;rw[hn];rfl
   have:=Pz (aha l (lA v (pB id 0) o p));rw[hi]at this;exact this
  |succ k=>exact Xq hn (k+1) _ ω
theorem ahc{l:List af}{id:Int}(h:0≤iH (fp id) l):(cf l id).2=true:=by
 rcases oq (fp id) l with ⟨h1,_⟩|⟨j,aK,h1,h2,ao⟩
 ·omega
 ·unfold cf;rw[h2]
theorem KC{m:Nat}{c:aa}{id:Int}(hc:cI m c)(h:ie c id=0):(cf (cP c id).ab id).2=true:=by
 unfold ie at h;split at h
 ·omega
 ·rename_i h1;simp only[Bool.not_eq_true',Bool.not_eq_false,bW]at h1;split at h
  ·rename_i h2;have e:cP c id=c:=by
    unfold cP;have:decide (iH (fp id) c.ab<0)=false:=bm ω;rw[this];simp
   rw[e];exact ahc h2
  ·rename_i h2;split at h
   ·omega
   ·rename_i ao;split at h
    ·rename_i aN;have hlt:=bC (p:=iH (fp id) c.ab<0) ω;have e:(cP c id).ab=pC c.eO c.own c.da id (qc c id).toNat c.ab:=by
      unfold cP;rw[h1.1,h1.2,hlt,aN];have Ee:qW c.eO id=false:=by simpa using ao
      rw[Ee];rfl
     rw[e];obtain⟨we,_⟩:=IH aN (by have:=hc.l2;omega);have hk:=h1.1;simp only[gq,z6,yR,bW,fJ]at hk;exact Xq (by simp only[zt,bW];exact⟨⟨h1.2,hk.1⟩,hk.2.1⟩) _ _ ω
    ·omega
theorem Kr(s:af)(e:Int):(nb s e).ak=s.ak∧(nb s e).a2=s.a2∧(nb s e).id=s.id:=by unfold nb;split<;>exact⟨rfl,rfl,rfl⟩
theorem Ph(c:aa)(s:af)(e:Int):(og c s e).ab=c.ab∧(og c s e).an=c.an:=by unfold og;split<;>exact⟨rfl,rfl⟩
def A3(m:Nat)(r:b'):Prop:=(∀c∈r.bV.cp,va c)∧r.bV.cp.length≤m
theorem gP.ahd{m:Nat}{s:af}(h:gP m s){r:b'}(hr:A3 m r):gP m (im s r):=⟨h.snd,hr.1,hr.2⟩
theorem gP.cA{m:Nat}{s:af}(h:gP m s):A3 m s.a2:=⟨h.gp,h.xE⟩
theorem ahe{m:Nat}{r:b'}(h:A3 m r)(o:Int)(d:List UInt8)(f:Bool)(hd:d.length≤8)(aJ:0≤o∧o≤900):A3 (m+1) (rf r o d f):=by
 unfold rf;split
 ·have:=R9 r.bV.next r.bV.cp o d;exact⟨R8 h.1 aJ.1 ω,by have:=h.2;simp only[A4];omega⟩
 ·exact⟨h.1,by have:=h.2;omega⟩
theorem ahf{m:Nat}{r:b'}(h:A3 m r)(c f:Int):A3 m (w6 r c f):=by
 unfold w6;split
 ·exact⟨by simp,by simp⟩
 ·exact h
theorem ahg{m:Nat}{r:b'}(h:A3 m r)(k:Int):A3 m (x8 r k):=by
 unfold x8;split
 ·split
  ·exact h
  ·exact⟨aaT h.1,by have:=aaU r.bV.next r.bV.cp k;have:=h.2;simp only;omega⟩
 ·exact h
theorem KD{m:Nat}{c x:aa}{id:Int}{s:af}(h:cI m c)(hx:x.ab=c.ab∧x.an=c.an)(hf:(cf c.ab id).2=true)(hi:s.id=id)(hs:gP m s):cI m (fL x s):=
 Py (h.same hx.1 hx.2) (by rw[hx.1];exact hf) hi hs
theorem ahh{c:aa}{f:aq}(h:Cl c f=0):ie c f.aC=0:=by
 unfold Cl at h
 repeat' split at h
 all_goals first|omega|assumption
theorem ahi{c:aa}{f:aq}(h:Co c f=0):ie c f.aC=0:=by
 unfold Co at h
 repeat' split at h
 all_goals first|omega|assumption
theorem ahj{c:aa}{f:aq}(h:Cq c f=0):ie c f.aC=0:=by
 unfold Cq at h
 repeat' split at h
 all_goals first|omega|assumption
theorem ahk{c:aa}{f:aq}(h:Cn c f=0):ie c f.aC=0:=by
 unfold Cn at h
 repeat' split at h
 all_goals first|omega|assumption
theorem WK{m:Nat}{x:aa}{f:aq}(h:cI m x)(hd:f.data.length≤8)(aJ:0≤f.aH∧f.aH≤900):gP (m+1) (Cm x f):=by
 obtain⟨dZ,gu,gZ⟩:=Kr (aO x f.aC) (vQ f);exact(((h.aO f.aC).mono (show m≤m+1 by omega)).same dZ gu).ahd (ahe (h.aO f.aC).cA _ _ _ hd aJ)
theorem ahl(x:aa)(f:aq):(Cm x f).id=(aO x f.aC).id:=(Kr (aO x f.aC) (vQ f)).2.2
theorem ahm{m:Nat}{c:aa}{f:aq}(h:cI m c)(hd:f.data.length≤8)(aJ:0≤f.aH∧f.aH≤900):cI (m+1) (G3 c f):=by
 unfold G3;split
 ·rename_i he;have hx:=AY h f.aC;have hf:=KC h (ahh he);exact KD (hx.mono ω) (Ph _ _ _) hf ((ahl _ f).trans (w7 hf)) (WK hx hd aJ)
 ·exact h.mono ω
theorem WV(x:aa)(f:aq):(A0 x f).ab=x.ab∧(A0 x f).an=x.an:=by
 unfold A0 PB x7;split<;>exact Ph _ _ _
theorem Xr(x:aa)(f:aq):(x9 x f).ak=(aO x f.aC).ak∧(x9 x f).a2=PC x f∧(x9 x f).id=(aO x f.aC).id:=by
 obtain⟨dZ,gu,gZ⟩:=Kr (aO x f.aC) f.br;unfold x9 KE x6 im;split<;>exact⟨dZ,rfl,gZ⟩
theorem WU{m:Nat}{x:aa}{f:aq}(h:cI m x):gP m (x9 x f):=by
 obtain⟨dZ,gu,gZ⟩:=Xr x f;have hr:=ahf (h.aO f.aC).cA f.c4 f.br;exact⟨dZ▸(h.aO f.aC).snd,by rw[gu];exact hr.1,by rw[gu];exact hr.2⟩
theorem ahn{m:Nat}{c:aa}{f:aq}(h:cI m c):cI m (Hf c f):=by
 unfold Hf;split
 ·rename_i he;have hx:=AY h f.aC;have hf:=KC h (ahi he);exact KD hx (WV _ f) hf ((Xr _ f).2.2.trans (w7 hf)) (WU hx)
 ·exact h
theorem gP.PD{m:Nat}{s:af}(h:gP m s)(k:Int):gP m (g4 s k):=⟨Xa h.snd k,h.gp,h.xE⟩
theorem WW{m:Nat}{x:aa}{f:aq}(h:cI m x):gP m (vx x f):=by
 unfold vx;split
 ·exact(h.aO f.aC).PD f.c4
 ·exact h.aO f.aC
theorem aho(x:aa)(f:aq):(vx x f).id=(aO x f.aC).id:=by unfold vx;split<;>rfl
theorem ahp{m:Nat}{c:aa}{f:aq}(h:cI m c):cI m (Hg c f):=by
 unfold Hg;split
 ·rename_i he;have hx:=AY h f.aC;have hf:=KC h (ahj he);exact KD hx ⟨rfl,rfl⟩ hf ((aho _ f).trans (w7 hf)) (WW hx)
 ·exact h
theorem ahq{m:Nat}{c:aa}{f:aq}(h:cI m c):cI m (G_ c f):=by
 unfold G_;split
 ·rename_i he;have hx:=AY h f.aC;have hf:=KC h (ahk he);split
  ·exact A2 (id:=f.aC) hx hf rfl ((hx.aO f.aC).same rfl rfl)
  ·exact hx
 ·exact h
theorem ahr{m:Nat}{c:aa}{f:aq}(h:cI m c):cI m (ri c f):=by
 unfold ri
 repeat' split
 all_goals first|exact h.same rfl rfl|exact ahq h
theorem acn{m:Nat}{c:aa}{f:aq}(h:cI m c)(hd:f.data.length≤8)(aJ:0≤f.aH∧f.aH≤900):cI (m+1) (Ad c f):=by
 unfold Ad
 repeat' split
 ·exact ahm h hd aJ
 ·exact(ahn h).mono ω
 ·exact(ahp h).mono ω
 ·exact(ahr h).mono ω
theorem KF{c:aa}{id:Int}(h:lS c id=true):(cf c.ab id).2=true:=by simp only[lS,bW]at h;exact h.1.2
theorem ach{m:Nat}{c:aa}(h:cI m c)(id:Int){d:List UInt8}(hd:d.length≤8):cI (m+1) (nA c id d):=by
 unfold nA;split
 ·rename_i hg;have hw:gP (m+1) (iG (aO c id) (g5 (aO c id).ak d)):=((h.aO id).mono ω).Eo (by have:=Pw (h.aO id).snd hd;rw[show(8 * (m+1:Nat):Int)=8 * m+8 from by omega];exact this);exact(A2 (id:=id) (h.mono (show m≤m+1 by omega)) (KF hg) rfl hw)
 ·exact h.mono ω
theorem ack{m:Nat}{c:aa}(h:cI m c)(id k:Int):cI m (nx c id k):=by
 unfold nx;split
 ·rename_i hg;simp only[z3,bW]at hg;have hf:=KF hg.1;exact Py h hf (w7 hf) ((h.aO id).PD k)
 ·exact h
theorem WS(c:aa)(id m:Int):(AZ c id m).ab=c.ab∧(AZ c id m).an=c.an:=by unfold AZ x7;split<;>exact⟨rfl,rfl⟩
theorem Xs(c:aa)(id m:Int):(x5 c id m).ak=(aO c id).ak∧(x5 c id m).a2=oh c id m∧(x5 c id m).id=(aO c id).id:=by unfold x5 x6 KG im;split<;>exact⟨rfl,rfl,rfl⟩
theorem WR{m:Nat}{c:aa}(h:cI m c)(id k:Int):gP m (x5 c id k):=by
 obtain⟨dZ,gu,gZ⟩:=Xs c id k;have hr:=ahg (h.aO id).cA k;exact⟨dZ▸(h.aO id).snd,by rw[gu];exact hr.1,by rw[gu];exact hr.2⟩
theorem acj{m:Nat}{c:aa}(h:cI m c)(id k:Int):cI m (nG c id k):=by
 unfold nG;split
 ·rename_i hg;simp only[w4,bW]at hg;have hf:=hg.1.2;exact KD h (WS c id k) hf ((Xs c id k).2.2.trans (w7 hf)) (WR h id k)
 ·exact h
theorem Im{m:Nat}{c:aa}(h:cI m c)(n:Int):cI m (po c n):=
 ⟨h.l2,h.ml,Nat.le_trans (List.length_filter_le _ _) h.vw,fun p hp=>h.i4 p (List.mem_filter.1 hp).1⟩
theorem ahs(s:af)(f:aq):(jo s f).id=s.id:=by
 unfold jo;repeat' split
 all_goals rfl
theorem RP{m:Nat}{s:af}(h:gP m s)(f:aq):gP m (jo s f):=by
 unfold jo;split
 ·exact h.Eo (Xe h.snd)
 ·split
  ·exact⟨agY h.snd,h.gp,h.xE⟩
  ·split
   ·exact h.same rfl rfl
   ·exact h
theorem RO{m:Nat}{c:aa}(h:cI m c)(f:aq):cI m (u6 c f):=by
 unfold u6;split
 ·rename_i hg;simp only[KH,bW]at hg;exact Py h hg.1 ((ahs _ f).trans (w7 hg.1)) (RP (h.aO _) f)
 ·exact h
theorem aht(s:af)(f:aq):(oP s f).id=s.id:=by
 unfold oP;repeat' split
 all_goals rfl
theorem RR{m:Nat}{s:af}(h:gP m s)(f:aq):gP m (oP s f):=by
 unfold oP
 repeat' split
 ·exact h.Eo (Xf h.snd)
 all_goals exact h.same rfl rfl
theorem RQ{m:Nat}{c:aa}(h:cI m c)(f:aq):cI m (u9 c f):=by
 unfold u9
 repeat' split
 all_goals first
  |exact h.same rfl rfl
  |(rename_i hg;simp only[KH,bW]at hg;exact A2 h hg.1 (aht _ f) (RR (h.aO _) f))
theorem EV{m:Nat}{g:aa→aq→aa}(hg:∀c f,cI m c→cI m (g c f)):∀(l:List aq) (c:aa),cI m c→cI m (l.foldl g c)
 |[],_,h=>h
 |f::l,c,h=>EV hg l (g c f) (hg c f h)
theorem acp{m:Nat}{c:aa}(h:cI m c)(n:Int):cI m (ER c n):=by
 unfold ER;split
 ·exact EV (fun c f h=>RO h f) _ _ (Im h n)
 ·exact h
theorem aco{m:Nat}{c:aa}(h:cI m c)(n:Int):cI m (EW c n):=by
 unfold EW;split
 ·exact EV (fun c f h=>RQ h f) _ _ (Im h n)
 ·exact h
theorem acq(v:Bool)(o p:ff):cI 0 (BF v o p):=by
 unfold BF;split<;>exact⟨by simp,by simp,by simp,by simp⟩
def oR(b:UInt8)(q:List (List UInt8)×List UInt8)(x:UInt8):List (List UInt8)×List UInt8:=if x=b then(q.1++[q.2],[])else(q.1,q.2++[x])
def qN(b:UInt8)(s:List UInt8):List (List UInt8)×List UInt8:=s.foldl (oR b) ([],[])
def Bb(s:List UInt8)(b:UInt8):List (List UInt8):=(qN b s).1++[(qN b s).2]
theorem QM(b:UInt8):∀(s:List UInt8) (q:List (List UInt8)×List UInt8),(s.foldl (oR b) q).1.length+(s.foldl (oR b) q).2.length≤q.1.length+q.2.length+s.length
 |[],q=>by simp
 |x::s,q=>by
  have:=QM b s (oR b q x);have e:(oR b q x).1.length+(oR b q x).2.length≤q.1.length+q.2.length+1:=by
   unfold oR;split<;>simp<;>omega
  rw[List.foldl_cons,dA];omega
theorem ajQ(s:List UInt8)(b:UInt8)(hl:s.length≤1048576):aL 286 [.one (.str s),.one (.int .u8 (b.toNat:Int))] [.one (.sl 1 ((Bb s b).map n8))]:=by
 refine a3 35 func286 call286 [.tmp 4] ?_;intro ok;simp only[go_sem];refine cr.intro (fun i:Nat=>⟨(.d (.str s)::.d (.int .u8 (b.toNat:Int))::aA 3 (.sl 0 0 (qN b (s.take i)).1.length::.d (.str (qN b (s.take i)).2)::.i i::aA 27 [])),[.ah 1 ((qN b (s.take i)).1.map n8) true]⟩)
  (fun i=>s.length-i) (fun i=>i≤s.length) 0 [0] ω ?_ ?_
 ·simp only[go_sem];simp[qN]
 ·intro i hi;have mo:=QM b (s.take i) ([],[]);have cM:(s.take i).length=i:=by simp;omega
  simp only[eI]at mo;have ajR:(qN b (s.take i)).1.length+(qN b (s.take i)).2.length≤i:=by unfold qN;omega
  by_cases h1:i<s.length
  ·have ax:=bC (p:=(i:Int)<(s.length:Int)) ω;have hw:=dX h1 (show s.length≤maxLen by simp only[maxLen];omega);have hs:qN b (s.take (i+1))=oR b (qN b (s.take i)) s[i]:=Ls _ _ _ _ h1;generalize qN b (s.take i)=q at *;obtain⟨ed,part⟩:=q;simp only at ajR;have hx:s[i]?.getD 0=s[i]:=by rw[cD h1];rfl
   have p_:List.take (i+1-i) (List.drop i s)=[s[i]]:=by
    rw[show i+1-i=1 from by omega,List.drop_eq_getElem_cons h1];rfl
   cases hd:decide (s[i]=b)with
   |true=>
    have hb:decide ((s[i].toNat:Int)=(b.toNat:Int))=true:=by rw[cQ hd];simp
    have dx:oR b (ed,part) s[i]=(ed++[part],[]):=by unfold oR;exact if_pos (cQ hd)
    try simp only[go_sem,I,aE,ax,hw,hx,hb]
    repeat'(first|(with_reducible refine az ?_)|fail)
    all_goals(first|(refine⟨⟨by omega,rfl⟩,?_⟩)|skip;refine bE.intro (i+1) [2] ω ω ?_;simp only[go_sem,hs,dx];simp[n8])
   |false=>
    have hb:=bm (p:=(s[i].toNat:Int)=(b.toNat:Int)) (fun h=>absurd (UInt8.toNat_inj.1 (Int.ofNat.inj h)) (c2 hd));have dx:oR b (ed,part) s[i]=(ed,part++[s[i]]):=by unfold oR;exact if_neg (c2 hd)
    try simp only[go_sem,aE,ax,hw,hx,p_,hb]
    repeat'(first|(with_reducible refine az ?_)|fail)
    all_goals(first|(refine⟨by simp only[dA,eI,maxLen];omega,?_⟩)|skip;refine bE.intro (i+1) [0] ω ω ?_;simp only[go_sem,hs,dx];simp)
  ·have ax:=bm (p:=(i:Int)<(s.length:Int)) ω;obtain rfl:i=s.length:=by omega
   rw[d3]at *
   try simp only[go_sem,I,ax]
   repeat'(first|(with_reducible refine az ?_)|fail)
   all_goals(simp[Bb];try exact e7 ξ)
def Bc(s:List UInt8):List UInt8:=s.dropWhile (fun x=>decide (x=32))
def yk(s:List UInt8):List UInt8:=(s.reverse.dropWhile (fun x=>decide (x=32))).reverse
def pl(s:List UInt8):List UInt8:=yk (Bc s)
theorem ajS(r:List UInt8):Bc (32::r)=Bc r:=by simp[Bc]
theorem ajT{x:UInt8}{r:List UInt8}(h:x≠32):Bc (x::r)=x::r:=by simp[Bc,h]
theorem Zc{r:List UInt8}(h:r≠[])(hl:r.getLast h=32):yk r=yk r.dropLast:=by
 have e:r.reverse=32::r.dropLast.reverse:=by
  conv=>lhs;rw[←List.dropLast_concat_getLast h]
  simp[hl]
 unfold yk;rw[e,List.dropWhile_cons_of_pos ξ]
theorem Zd{r:List UInt8}(h:r≠[])(hl:r.getLast h≠32):yk r=r:=by
 have e:r.reverse=r.getLast h::r.dropLast.reverse:=by
  conv=>lhs;rw[←List.dropLast_concat_getLast h]
  simp
 unfold yk;rw[e,List.dropWhile_cons_of_neg (by simp[hl])];rw[←e,List.reverse_reverse]
theorem Ze(s:List UInt8)(hl:s.length≤1048576):aL 287 [.one (.str s)] [.one (.str (pl s))]:=by
 refine a3 30 func287 call287 [.tmp 2] ?_;intro ok;simp only[go_sem];refine cr.intro (fun u:List UInt8=>⟨(.d (.str u)::aA 29 []),[]⟩) (fun u=>u.length) (fun u=>u.length≤1048576∧Bc u=Bc s) s [] ⟨hl,rfl⟩ ?_ ?_
 ·simp only[go_sem]
 ·rintro u ⟨hu,he⟩
  cases u with
  |nil=>
   have dc:pl s=yk []:=by unfold pl;rw[←he];rfl
   have h0:decide ((0:Int)<((0:Nat):Int))=false:=by decide
   try simp only[go_sem,eI,h0]
   repeat'(first|(with_reducible refine eB ?_<;>simp only[go_sem,eI]))
   refine cr.intro (fun v:List UInt8=>⟨(.d (.str v)::aA 29 []),[]⟩) (fun v=>v.length) (fun v=>v.length≤1048576∧yk v=pl s) [] [] ⟨by simp,dc.symm⟩ ?_ ?_
   ·simp only[go_sem]
   ·rintro v ⟨hv,CO⟩;by_cases hn:v=[]
    ·subst hn;have e:pl s=[]:=by rw[←CO];rfl
     have h0:decide ((0:Int)<((0:Nat):Int))=false:=by decide
     try simp only[go_sem,eI,h0]
     repeat'(first|(with_reducible refine eB ?_<;>simp only[go_sem,eI]))
     all_goals first|(exfalso;simp at h;done)|simp[e]
    ·have hp:0<v.length:=List.length_pos_iff.2 hn;have h1:=bC (p:=(0:Int)<(v.length:Int)) ω;have h2:i64.wrap ((v.length:Int)-1)=((v.length-1:Nat):Int):=by rw[bA]<;>omega
     have ao:v[v.length-1]?.getD 0=v.getLast hn:=by rw[cD ω,List.getLast_eq_getElem];rfl
     have aN:List.take (v.length-1-0) (List.drop 0 v)=v.dropLast:=by rw[List.drop_zero,Nat.sub_zero,List.dropLast_eq_take]
     cases hd:decide (v.getLast hn=32)with
     |true=>
      have hb:decide (((v.getLast hn).toNat:Int)=32)=true:=by rw[cQ hd];rfl
      try simp only[go_sem,h1]
      repeat'(first|(with_reducible refine cN ?_<;>simp only[go_sem,h2,ao,hb,aE])|(with_reducible refine az ?_)|fail)
      all_goals(refine bE.intro v.dropLast [] ⟨by rw[List.length_dropLast];omega,by rw[←Zc hn (cQ hd)];exact CO⟩ (by rw[List.length_dropLast];omega) ?_;simp only[go_sem];try simp[List.dropLast_eq_take])
     |false=>
      have hb:=bm (p:=((v.getLast hn).toNat:Int)=32) (fun h=>absurd (UInt8.toNat_inj.1 (show(v.getLast hn).toNat=(32:UInt8).toNat by have:(32:UInt8).toNat=32:=rfl;omega)) (c2 hd));have e:pl s=v:=by rw[←CO];exact Zd hn (c2 hd)
      try simp only[go_sem,h1]
      repeat'(first|(with_reducible refine cN ?_<;>simp only[go_sem,h2,ao,hb,aE])|(with_reducible refine az ?_)|fail)
      all_goals simp[e]
  |cons x r=>
   have h1:=bC (p:=(0:Int)<((r.length+1:Nat):Int)) ω;have hx:(x::r)[0]?.getD 0=x:=rfl
   cases hd:decide (x=32)with
   |true=>
    have hb:decide ((x.toNat:Int)=32)=true:=by rw[cQ hd];rfl
    have p_:List.take ((x::r).length-1) (List.drop 1 (x::r))=r:=by simp
    try simp only[go_sem,dA,h1]
    repeat'(first|(with_reducible refine cN ?_<;>simp only[go_sem,dA,hb])|(with_reducible refine az ?_)|fail)
    all_goals(refine bE.intro r [] ⟨by rw[dA]at hu;omega,by rw[←he,cQ hd];exact(ajS r).symm⟩ ξ ?_;simp only[go_sem];try simp)
   |false=>
    have hb:=bm (p:=(x.toNat:Int)=32) (fun h=>absurd (UInt8.toNat_inj.1 (show x.toNat=(32:UInt8).toNat by have:(32:UInt8).toNat=32:=rfl;omega)) (c2 hd));have dc:pl s=yk (x::r):=by unfold pl;rw[←he,ajT (c2 hd)]
    try simp only[go_sem,dA,h1]
    repeat'(first|(with_reducible refine cN ?_<;>simp only[go_sem,dA,hb])|(with_reducible refine az ?_)|fail)
    refine cr.intro (fun v:List UInt8=>⟨(.d (.str v)::aA 29 []),[]⟩) (fun v=>v.length) (fun v=>v.length≤1048576∧yk v=pl s) (x::r) [] ⟨hu,dc.symm⟩ ?_ ?_
    ·simp only[go_sem]
    ·rintro v ⟨hv,CO⟩;by_cases hn:v=[]
     ·subst hn;have e:pl s=[]:=by rw[←CO];rfl
      have h0:decide ((0:Int)<((0:Nat):Int))=false:=by decide
      try simp only[go_sem,eI,h0]
      repeat'(first|(with_reducible refine eB ?_<;>simp only[go_sem,eI]))
      all_goals first|(exfalso;simp at h;done)|simp[e]
     ·have hp:0<v.length:=List.length_pos_iff.2 hn;have h1:=bC (p:=(0:Int)<(v.length:Int)) ω;have h2:i64.wrap ((v.length:Int)-1)=((v.length-1:Nat):Int):=by rw[bA]<;>omega
      have ao:v[v.length-1]?.getD 0=v.getLast hn:=by rw[cD ω,List.getLast_eq_getElem];rfl
      have aN:List.take (v.length-1-0) (List.drop 0 v)=v.dropLast:=by rw[List.drop_zero,Nat.sub_zero,List.dropLast_eq_take]
      cases hd:decide (v.getLast hn=32)with
      |true=>
       have hb:decide (((v.getLast hn).toNat:Int)=32)=true:=by rw[cQ hd];rfl
       try simp only[go_sem,h1]
       repeat'(first|(with_reducible refine cN ?_<;>simp only[go_sem,h2,ao,hb,aE])|(with_reducible refine az ?_)|fail)
       all_goals(refine bE.intro v.dropLast [] ⟨by rw[List.length_dropLast];omega,by rw[←Zc hn (cQ hd)];exact CO⟩ (by rw[List.length_dropLast];omega) ?_;simp only[go_sem];try simp[List.dropLast_eq_take])
      |false=>
       have hb:=bm (p:=((v.getLast hn).toNat:Int)=32) (fun h=>absurd (UInt8.toNat_inj.1 (show(v.getLast hn).toNat=(32:UInt8).toNat by have:(32:UInt8).toNat=32:=rfl;omega)) (c2 hd));have e:pl s=v:=by rw[←CO];exact Zd hn (c2 hd)
       try simp only[go_sem,h1]
       repeat'(first|(with_reducible refine cN ?_<;>simp only[go_sem,h2,ao,hb,aE])|(with_reducible refine az ?_)|fail)
       all_goals simp[e]
def p3(p:j6)(t:List UInt8):j6:=
 if t=[105]∨t=[105,61,63,49]then {p with hO:=true}
 else if t=[105,61,63,48]then {p with hO:=false}
 else if t.length=3∧t.take 2=[117,61]∧48≤(t[2]?.getD 0).toNat∧(t[2]?.getD 0).toNat≤55 then {p with ew:=((t[2]?.getD 0).toNat:Int)-48}
 else p
def pn(p:j6)(t:List UInt8):j6:=p3 p (pl t)
def Bz(p:j6)(s:List UInt8):j6:=(Bb s 44).foldl pn (if lu p then p else yg)
theorem ajU(s:List UInt8)(b:UInt8):(Bb s b).length≤s.length+1∧∀t∈Bb s b,t.length≤s.length:=by
 have h:∀(s:List UInt8) (q:List (List UInt8)×List UInt8) (n:Nat),(∀t∈q.1,t.length≤n)→q.2.length≤n→(∀t∈(s.foldl (oR b) q).1,t.length≤n+s.length)∧(s.foldl (oR b) q).2.length≤n+s.length:=by
  intro s
  induction s with
  |nil=>intro q n h1 h2;exact⟨fun t ht=>by have:=h1 t ht;simp;omega,by simp;omega⟩
  |cons x s df=>
   intro q n h1 h2;have:=df (oR b q x) (n+1) (by
    intro t ht;unfold oR at ht;split at ht
    ·rcases fi.1 ht with ht|ht
     ·have:=h1 t ht;omega
     ·rw[List.mem_singleton.1 ht];omega
    ·have:=h1 t ht;omega) (by unfold oR;split<;>simp<;>omega)
   rw[List.foldl_cons,dA];exact⟨fun t ht=>by have:=this.1 t ht;omega,by omega⟩
 have h1:=QM b s ([],[]);have h2:=h s ([],[]) 0 ξ ξ;simp only[eI]at h1;unfold Bb;refine⟨by rw[dY];simp only[qN,dA,eI];omega,fun t ht=>?_⟩;rcases fi.1 ht with ht|ht
 ·have:=h2.1 t ht;omega
 ·rw[List.mem_singleton.1 ht];have:=h2.2;simp only[qN];omega
theorem aa6(pW:Int)(pX:Bool)(s:List UInt8)(hl:s.length≤1000):aL 257 [.agg [.int .i64 pW,.bool pX],.one (.str s)] [.agg [.int .i64 (Bz (⟨pW,pX⟩:j6) s).ew,.bool (Bz (⟨pW,pX⟩:j6) s).hO]]:=by
 refine a3 62 func257 call257 [.cell 4 64] ?_;intro ok;clear ok;obtain⟨ep,eE⟩:=ajU s 44;have bq:=ajQ s 44 ω;have ai:Bz (⟨pW,pX⟩:j6) s=(Bb s 44).foldl pn (if lu (⟨pW,pX⟩:j6)then(⟨pW,pX⟩:j6)else yg):=rfl;obtain⟨qO,eu⟩:∃qO,qO=(if lu (⟨pW,pX⟩:j6)then(⟨pW,pX⟩:j6)else yg):=⟨_,rfl⟩;rw[←eu]at ai;generalize Bb s 44=l at *;simp only[show((44:UInt8).toNat:Int)=44 from rfl]at bq
 cases aS:lu (⟨pW,pX⟩:j6)with
 |false=>
  try simp only[go_sem]
  repeat'((first|refine ae.intro (by first|assumption|apply HI|apply X7) ?_|refine ay.intro ‹_› ?_)<;>simp only[go_sem,I,aS])
  refine cr.intro (fun i:Nat=>⟨(.al::.al::.ptr 0 0 0::.al::.ptr 1 0 0::.sl 2 0 l.length::.i i::aA 55 []),[.box [.d (.int .i64 ((l.take i).foldl pn qO).ew),.d (.bool ((l.take i).foldl pn qO).hO)],.box [.i 0,.d (.bool false)],.ah 1 (l.map n8) true]⟩)
   (fun i=>l.length-i) (fun i=>i≤l.length) 0 [0,1,2] ω ?_ ?_
  ·simp only[go_sem];simp[eu,aS,yg]
  ·intro i hi;by_cases h1:i<l.length
   ·have ax:=bC (p:=(i:Int)<(l.length:Int)) ω;have aB:=cq n8 l i h1;have hw:i64.wrap ((i:Int)+1)=((i+1:Nat):Int):=by rw[bA]<;>omega
    have hs:=Ls pn qO l i h1;have qg:pn ((l.take i).foldl pn qO) l[i]=p3 ((l.take i).foldl pn qO) (pl l[i]):=rfl;have cM:=Ze l[i] (by have:=eE _ (eS h1);omega);rw[qg]at hs;generalize (l.take i).foldl pn qO=q at *;generalize pl l[i]=t at *
    try simp only[go_sem,I,aE,aB,n8,ax]
    repeat'(first|((first|refine ae.intro ‹_› ?_|refine ay.intro ‹_› ?_|refine bw ?_)<;>simp only[go_sem])|(with_reducible refine az ?_)|fail)
    by_cases cB:t=[105]∨t=[105,61,63,49]
    ·have hm:p3 q t={q with hO:=true}:=by unfold p3;exact if_pos cB
     have db:(bif decide (t=[105])then true else decide (t=[105,61,63,49]))=true:=by rcases cB with h|h<;>simp[h]
     simp only[db]
     try simp only[go_sem]
     repeat'((first|refine ae.intro ‹_› ?_|refine ay.intro ‹_› ?_)<;>simp only[go_sem,I])
     refine bE.intro (i+1) [0,1,2] ω ω ?_;simp only[go_sem,hw,hs,hm];simp
    ·have db:(bif decide (t=[105])then true else decide (t=[105,61,63,49]))=false:=by simp only[not_or]at cB;simp[cB.1,cB.2]
     simp only[db];by_cases cJ:t=[105,61,63,48]
     ·have hm:p3 q t={q with hO:=false}:=by unfold p3;exact(if_neg cB).trans (if_pos cJ)
      have cW:=bC (p:=t=[105,61,63,48]) cJ
      try simp only[go_sem,cW]
      repeat'((first|refine ae.intro ‹_› ?_|refine ay.intro ‹_› ?_)<;>simp only[go_sem,I,cW])
      refine bE.intro (i+1) [0,1,2] ω ω ?_;simp only[go_sem,hw,hs,hm];simp
     ·have cW:=bm (p:=t=[105,61,63,48]) cJ;have hm:p3 q t=if t.length=3∧t.take 2=[117,61]∧48≤(t[2]?.getD 0).toNat∧(t[2]?.getD 0).toNat≤55 then {q with ew:=((t[2]?.getD 0).toNat:Int)-48}else q:=by unfold p3;exact(if_neg cB).trans (if_neg cJ)
      by_cases ct:t.length=3
      ·have c8:=bC (p:=(t.length:Int)=3) ω
       try simp only[go_sem,cW,c8]
       repeat'(first|((first|refine ae.intro ‹_› ?_|refine ay.intro ‹_› ?_|with_reducible refine cN ?_|refine bw ?_|refine bP (fun h=>?_) (fun h=>?_))<;>simp only[go_sem])|(with_reducible refine az ?_)|fail)
       ·have hh:t.take 2=[117,61]∧48≤(t[2]?.getD 0).toNat∧(t[2]?.getD 0).toNat≤55:=by
         simp only[di,bW,b8,fJ]at h;exact⟨h.1,by omega,by omega⟩
        rw[if_pos ⟨ct,hh⟩]at hm;have ag:IntKind.u8.wrap (((t[2]?.getD 0).toNat:Int)-48)=((t[2]?.getD 0).toNat:Int)-48:=OF ω ω;have ar:i64.wrap (((t[2]?.getD 0).toNat:Int)-48)=((t[2]?.getD 0).toNat:Int)-48:=by rw[bA]<;>omega
        refine bE.intro (i+1) [0,1,2] ω ω ?_;simp only[go_sem,hw,hs,hm,ag,ar];simp
       ·have hh:¬(t.length=3∧t.take 2=[117,61]∧48≤(t[2]?.getD 0).toNat∧(t[2]?.getD 0).toNat≤55):=by
         rintro⟨_,cn,cG,d4⟩;have QN:=bC (p:=48≤((t[2]?.getD 0).toNat:Int)) ω;have QO:=bC (p:=((t[2]?.getD 0).toNat:Int)≤55) ω;rw[QN,QO,bC cn]at h
         cases h
        rw[if_neg hh]at hm;refine bE.intro (i+1) [0,1,2] ω ω ?_;simp only[go_sem,hw,hs,hm];simp
      ·have c8:=bm (p:=(t.length:Int)=3) ω;rw[if_neg (fun h=>ct h.1)]at hm
       try simp only[go_sem,cW,c8]
       repeat'((first|refine ae.intro ‹_› ?_|refine ay.intro ‹_› ?_|with_reducible refine eB ?_)<;>simp only[go_sem])
       all_goals(refine bE.intro (i+1) [0,1,2] ω ω ?_;simp only[go_sem,hw,hs,hm];simp)
   ·have ax:=bm (p:=(i:Int)<(l.length:Int)) ω;obtain rfl:i=l.length:=by omega
    rw[d3]
    try simp only[go_sem,ax]
    repeat'((first|refine ae.intro ‹_› ?_|refine ay.intro ‹_› ?_)<;>simp only[go_sem,I,ax])
    all_goals simp[ai]
 |true=>
  try simp only[go_sem]
  repeat'((first|refine ae.intro (by first|assumption|apply HI) ?_|refine ay.intro ‹_› ?_)<;>simp only[go_sem,I,aS])
  refine cr.intro (fun i:Nat=>⟨(.al::.al::.ptr 0 0 0::.al::.ptr 1 0 0::.sl 2 0 l.length::.i i::aA 55 []),[.box [.d (.int .i64 ((l.take i).foldl pn qO).ew),.d (.bool ((l.take i).foldl pn qO).hO)],.box [.i 0,.d (.bool false)],.ah 1 (l.map n8) true]⟩)
   (fun i=>l.length-i) (fun i=>i≤l.length) 0 [0,1,2] ω ?_ ?_
  ·simp only[go_sem];simp[eu,aS]
  ·intro i hi;by_cases h1:i<l.length
   ·have ax:=bC (p:=(i:Int)<(l.length:Int)) ω;have aB:=cq n8 l i h1;have hw:i64.wrap ((i:Int)+1)=((i+1:Nat):Int):=by rw[bA]<;>omega
    have hs:=Ls pn qO l i h1;have qg:pn ((l.take i).foldl pn qO) l[i]=p3 ((l.take i).foldl pn qO) (pl l[i]):=rfl;have cM:=Ze l[i] (by have:=eE _ (eS h1);omega);rw[qg]at hs;generalize (l.take i).foldl pn qO=q at *;generalize pl l[i]=t at *
    try simp only[go_sem,I,aE,aB,n8,ax]
    repeat'(first|((first|refine ae.intro ‹_› ?_|refine ay.intro ‹_› ?_|refine bw ?_)<;>simp only[go_sem])|(with_reducible refine az ?_)|fail)
    by_cases cB:t=[105]∨t=[105,61,63,49]
    ·have hm:p3 q t={q with hO:=true}:=by unfold p3;exact if_pos cB
     have db:(bif decide (t=[105])then true else decide (t=[105,61,63,49]))=true:=by rcases cB with h|h<;>simp[h]
     simp only[db]
     try simp only[go_sem]
     repeat'((first|refine ae.intro ‹_› ?_|refine ay.intro ‹_› ?_)<;>simp only[go_sem,I])
     refine bE.intro (i+1) [0,1,2] ω ω ?_;simp only[go_sem,hw,hs,hm];simp
    ·have db:(bif decide (t=[105])then true else decide (t=[105,61,63,49]))=false:=by simp only[not_or]at cB;simp[cB.1,cB.2]
     simp only[db];by_cases cJ:t=[105,61,63,48]
     ·have hm:p3 q t={q with hO:=false}:=by unfold p3;exact(if_neg cB).trans (if_pos cJ)
      have cW:=bC (p:=t=[105,61,63,48]) cJ
      try simp only[go_sem,cW]
      repeat'((first|refine ae.intro ‹_› ?_|refine ay.intro ‹_› ?_)<;>simp only[go_sem,I,cW])
      refine bE.intro (i+1) [0,1,2] ω ω ?_;simp only[go_sem,hw,hs,hm];simp
     ·have cW:=bm (p:=t=[105,61,63,48]) cJ;have hm:p3 q t=if t.length=3∧t.take 2=[117,61]∧48≤(t[2]?.getD 0).toNat∧(t[2]?.getD 0).toNat≤55 then {q with ew:=((t[2]?.getD 0).toNat:Int)-48}else q:=by unfold p3;exact(if_neg cB).trans (if_neg cJ)
      by_cases ct:t.length=3
      ·have c8:=bC (p:=(t.length:Int)=3) ω
       try simp only[go_sem,cW,c8]
       repeat'(first|((first|refine ae.intro ‹_› ?_|refine ay.intro ‹_› ?_|with_reducible refine cN ?_|refine bw ?_|refine bP (fun h=>?_) (fun h=>?_))<;>simp only[go_sem])|(with_reducible refine az ?_)|fail)
       ·have hh:t.take 2=[117,61]∧48≤(t[2]?.getD 0).toNat∧(t[2]?.getD 0).toNat≤55:=by
         simp only[di,bW,b8,fJ]at h;exact⟨h.1,by omega,by omega⟩
        rw[if_pos ⟨ct,hh⟩]at hm;have ag:IntKind.u8.wrap (((t[2]?.getD 0).toNat:Int)-48)=((t[2]?.getD 0).toNat:Int)-48:=OF ω ω;have ar:i64.wrap (((t[2]?.getD 0).toNat:Int)-48)=((t[2]?.getD 0).toNat:Int)-48:=by rw[bA]<;>omega
        refine bE.intro (i+1) [0,1,2] ω ω ?_;simp only[go_sem,hw,hs,hm,ag,ar];simp
       ·have hh:¬(t.length=3∧t.take 2=[117,61]∧48≤(t[2]?.getD 0).toNat∧(t[2]?.getD 0).toNat≤55):=by
         rintro⟨_,cn,cG,d4⟩;have QN:=bC (p:=48≤((t[2]?.getD 0).toNat:Int)) ω;have QO:=bC (p:=((t[2]?.getD 0).toNat:Int)≤55) ω;rw[QN,QO,bC cn]at h
         cases h
        rw[if_neg hh]at hm;refine bE.intro (i+1) [0,1,2] ω ω ?_;simp only[go_sem,hw,hs,hm];simp
      ·have c8:=bm (p:=(t.length:Int)=3) ω;rw[if_neg (fun h=>ct h.1)]at hm
       try simp only[go_sem,cW,c8]
       repeat'((first|refine ae.intro ‹_› ?_|refine ay.intro ‹_› ?_|with_reducible refine eB ?_)<;>simp only[go_sem])
       all_goals(refine bE.intro (i+1) [0,1,2] ω ω ?_;simp only[go_sem,hw,hs,hm];simp)
   ·have ax:=bm (p:=(i:Int)<(l.length:Int)) ω;obtain rfl:i=l.length:=by omega
    rw[d3]
    try simp only[go_sem,ax]
    repeat'((first|refine ae.intro ‹_› ?_|refine ay.intro ‹_› ?_)<;>simp only[go_sem,I,ax])
    all_goals simp[ai]
def E6(c:aa)(id:Int):Bool:=lS c id&&pz (aO c id).ak
def E7(c:aa)(id:Int):aa:=if E6 c id then {c with ab:=eC c.ab (iG (aO c id) (wg (aO c id).ak))}else c
theorem aa4(c:aa)(id:Int)(hz:jC c)(hw:f_ (iG (aO c id) (wg (aO c id).ak))):aL 218 [.agg (aa.enc c),.one (.int .i64 id)] [.agg (aa.enc ((E7 c id))),.one (.bool (E6 c id))]:=by
 refine a3 49 func218 call218 [.cell 4 37,.tmp 5] ?_;intro ok;clear ok;have lv:=k5 hz;have bq:E7 c id=if E6 c id then {c with ab:=eC c.ab (iG (aO c id) (wg (aO c id).ak))}else c:=rfl
 have bH:E6 c id=(lS c id&&pz (aO c id).ak):=rfl;have b7:=Iy c id;obtain⟨dW,ek,dt,eF⟩:=pA hz.2.1 id;have c3:=oY c id hz;rw[show(cf c.ab id).1=aO c id from rfl]at dW ek dt eF c3;have gB:=nu c.ab (iG (aO c id) (wg (aO c id).ak)) (by have:=hz.1;omega) hz.2.1 hw;generalize aO c id=s at *
 try simp only[go_sem]
 repeat'((first|refine ae.aj (by first|assumption|(apply iw<;>exact a6)|(apply xf<;>exact a6)) ?_|refine ay.aj ‹_› ?_|refine bw ?_)<;>simp only[go_sem,I])
 rw[b7]
 cases hg:lS c id with
 |false=>
  rw[hg,Bool.false_and]at bH;rw[bH]at bq
  try simp only[go_sem,I,cR]
  repeat'(first|((first|refine ae.aj ‹_› ?_|refine ay.aj ‹_› ?_)<;>simp only[go_sem,I,cR])|(with_reducible refine az ?_)|fail)
  all_goals simp[bq,bH]
 |true=>
  rw[hg,Bool.true_and]at bH
  try simp only[go_sem,I,bN]
  repeat'((first|refine ae.aj (by first|assumption|(apply Sf<;>exact a6)) ?_|refine ay.aj ‹_› ?_)<;>simp only[go_sem,I])
  cases hr:pz s.ak with
  |false=>
   rw[hr]at bH;rw[bH]at bq
   try simp only[go_sem,I,cR]
   repeat'(first|((first|refine ae.aj ‹_› ?_|refine ay.aj ‹_› ?_)<;>simp only[go_sem,I,cR])|(with_reducible refine az ?_)|fail)
   all_goals simp[bq,bH]
  |true=>
   rw[hr]at bH;rw[bH]at bq
   try simp only[go_sem,I,bN]
   repeat'(first|((first|refine ae.aj ‹_› ?_|refine ay.aj ‹_› ?_)<;>simp only[go_sem,I,iG])|(with_reducible refine az ?_)|fail)
   all_goals simp[bq,bH,iG]
def nv(c:aa)(id:Int)(t:List UInt8):aa:=if lS c id then {c with ab:=eC c.ab {aO c id with cL:=Bz (aO c id).cL t}}else c
theorem aa5(c:aa)(id:Int)(t:List UInt8)(hz:jC c)(ht:t.length≤1000):aL 221 [.agg (aa.enc c),.one (.int .i64 id),.one (.str t)] [.agg (aa.enc ((nv c id t))),.one (.bool (lS c id))]:=by
 refine a3 43 func221 call221 [.cell 6 37,.tmp 7] ?_;intro ok;clear ok;have lv:=k5 hz;have bq:nv c id t=if lS c id then {c with ab:=eC c.ab {aO c id with cL:=Bz (aO c id).cL t}}else c:=rfl
 have b7:=Iy c id;have z0:f_ (aO c id):=pA hz.2.1 id;have c3:=oY c id hz;rw[show(cf c.ab id).1=aO c id from rfl]at c3;have gB:=nu c.ab {aO c id with cL:=Bz (aO c id).cL t} (by have:=hz.1;omega) hz.2.1 z0;generalize aO c id=s at *;obtain⟨dW,ek,dt,eF⟩:=z0
 try simp only[go_sem]
 repeat'((first|refine ae.aj (by first|assumption|(apply iw<;>exact a6)|(apply xf<;>exact a6)) ?_|refine ay.aj ‹_› ?_|refine bw ?_)<;>simp only[go_sem,I])
 rw[b7]
 cases hg:lS c id with
 |false=>
  rw[hg]at bq
  try simp only[go_sem,I,cR]
  repeat'(first|((first|refine ae.aj ‹_› ?_|refine ay.aj ‹_› ?_)<;>simp only[go_sem,I,cR])|(with_reducible refine az ?_)|fail)
  all_goals simp[bq]
 |true=>
  rw[hg]at bq
  try simp only[go_sem,bN]
  repeat'(first|((first|refine ae.aj (by first|assumption|(apply aa6<;>exact a6)) ?_|refine ay.aj ‹_› ?_)<;>simp only[go_sem,I])|(with_reducible refine az ?_)|fail)
  all_goals simp[bq]
def vc(c:aa)(u:Bool):iy:=if u then c.fc else c.fe
def z1(c:aa):Bool:=iv c&&!decide (24≤(c.ab.length:Int))
def yN(c:aa)(u:Bool):aa:=if u then {c with fc:=xk c.fc}else {c with fe:=xk c.fe}
def BA(c:aa)(u:Bool):Bool:=z1 c&&vd (vc c u)
def E8(c:aa)(u:Bool):Int:=if BA c u then z2 (xl (vc c u)) c.eO u else -1
def nw(c:aa)(u:Bool):aa:=
 if z1 c then(if vd (vc c u)then {yN c u with ab:=eC c.ab (lA c.eO (z2 (xl (vc c u)) c.eO u) c.own c.da)}else yN c u)else c
theorem aa7(c:aa):(bif !iv c then true else decide (24≤(c.ab.length:Int)))=!z1 c:=by
 unfold z1
 cases iv c<;>cases decide (24≤(c.ab.length:Int))<;>rfl
theorem aa8(c:aa)(u:Bool)(hz:jC c):aL 216 [.agg (aa.enc c),.one (.bool u)] [.one (.int .i64 (E8 c u)),.agg (aa.enc ((nw c u))),.one (.bool (BA c u))]:=by
 refine a3 69 func216 call216 [.tmp 4,.cell 5 37,.tmp 6] ?_;intro ok;clear ok;have lv:=k5 hz;have bq:nw c u=if z1 c then(if vd (vc c u)then {yN c u with ab:=eC c.ab (lA c.eO (z2 (xl (vc c u)) c.eO u) c.own c.da)}else yN c u)else c:=rfl
 have bH:BA c u=(z1 c&&vd (vc c u)):=rfl;have aS:E8 c u=if BA c u then z2 (xl (vc c u)) c.eO u else -1:=rfl
 have b7:=aa7 c;have gB:=nu c.ab (lA c.eO (z2 (xl (vc c u)) c.eO u) c.own c.da) (by have:=hz.1;omega) hz.2.1 (E9 _ _ _ _)
 try simp only[go_sem]
 repeat'((first|refine ae.aj (by first|assumption|(apply iw<;>exact a6)|(apply xf<;>exact a6)) ?_|refine ay.aj ‹_› ?_|refine bw ?_)<;>simp only[go_sem,I])
 rw[b7]
 cases hg:z1 c with
 |false=>
  rw[hg]at bq;rw[hg,Bool.false_and]at bH;rw[bH]at aS
  try simp only[go_sem,cR]
  repeat'(first|((first|refine ae.aj ‹_› ?_|refine ay.aj ‹_› ?_|refine bo [[.post,.dN,.post,.post],[.dN,.post,.post,.post],[.pre,.pre,.post,.post],[.pre,.pre,.pre,.post]] χ ψ ?_)<;>simp only[go_sem,I])|(with_reducible refine az ?_)|fail)
  all_goals simp[bq,bH,aS]
 |true=>
  rw[hg]at bq;rw[hg,Bool.true_and]at bH
  cases u with
  |true=>
   have ag:vc c true=c.fc:=rfl;have ar:yN c true={c with fc:=xk c.fc}:=rfl;rw[ag]at bq bH aS gB;rw[ar]at bq
   try simp only[go_sem,bN]
   repeat'((first|refine ae.aj (by first|assumption|apply Sg) ?_|refine ay.aj ‹_› ?_)<;>simp only[go_sem])
   cases aJ:vd c.fc with
   |false=>
    rw[aJ]at bq bH;rw[bH]at aS
    try simp only[go_sem,cR]
    repeat'(first|((first|refine ae.aj ‹_› ?_|refine ay.aj ‹_› ?_|refine bo [[.post,.dN,.post,.post],[.dN,.post,.post,.post],[.pre,.pre,.post,.post],[.pre,.pre,.pre,.post]] χ ψ ?_)<;>simp only[go_sem,I])|(with_reducible refine az ?_)|fail)
    all_goals simp[bq,bH,aS]
   |true=>
    rw[aJ]at bq bH;rw[bH]at aS
    try simp only[go_sem,bN]
    repeat'(first|((first|refine ae.aj (by first|assumption|apply Sh|apply Iz) ?_|refine ay.aj ‹_› ?_|refine bo [[.post,.dN,.post,.post,.post],[.dN,.post,.dN,.post,.post],[.pre,.dN,.post,.post,.post],[.pre,.pre,.pre,.post,.post],[.pre,.pre,.pre,.pre,.post]] χ ψ ?_)<;>simp only[go_sem,I])|(with_reducible refine az ?_)|fail)
    all_goals simp[bq,bH,aS]
  |false=>
   have ag:vc c false=c.fe:=rfl;have ar:yN c false={c with fe:=xk c.fe}:=rfl;rw[ag]at bq bH aS gB;rw[ar]at bq
   try simp only[go_sem,bN]
   repeat'((first|refine ae.aj (by first|assumption|apply Sg) ?_|refine ay.aj ‹_› ?_)<;>simp only[go_sem])
   cases aJ:vd c.fe with
   |false=>
    rw[aJ]at bq bH;rw[bH]at aS
    try simp only[go_sem,cR]
    repeat'(first|((first|refine ae.aj ‹_› ?_|refine ay.aj ‹_› ?_|refine bo [[.post,.dN,.post,.post],[.dN,.post,.post,.post],[.pre,.pre,.post,.post],[.pre,.pre,.pre,.post]] χ ψ ?_)<;>simp only[go_sem,I])|(with_reducible refine az ?_)|fail)
    all_goals simp[bq,bH,aS]
   |true=>
    rw[aJ]at bq bH;rw[bH]at aS
    try simp only[go_sem,bN]
    repeat'(first|((first|refine ae.aj (by first|assumption|apply Sh|apply Iz) ?_|refine ay.aj ‹_› ?_|refine bo [[.post,.dN,.post,.post,.post],[.dN,.post,.dN,.post,.post],[.pre,.dN,.post,.post,.post],[.pre,.pre,.pre,.post,.post],[.pre,.pre,.pre,.pre,.post]] χ ψ ?_)<;>simp only[go_sem,I])|(with_reducible refine az ?_)|fail)
    all_goals simp[bq,bH,aS]
theorem aci{m:Nat}{c:aa}(h:cI m c)(id:Int):cI m (E7 c id):=by
 unfold E7;split
 ·rename_i hg;simp only[E6,bW]at hg;exact A2 (id:=id) h (KF hg.1) rfl ((h.aO id).Eo (Px (h.aO id).snd))
 ·exact h
theorem acm{m:Nat}{c:aa}(h:cI m c)(id:Int)(t:List UInt8):cI m (nv c id t):=by
 unfold nv;split
 ·rename_i hg;exact A2 (id:=id) (s:={aO c id with cL:=Bz (aO c id).cL t}) h (KF hg) rfl ((h.aO id).same rfl rfl)
 ·exact h
theorem ahu(c:aa)(u:Bool):(yN c u).ab=c.ab∧(yN c u).an=c.an:=by unfold yN;split<;>exact⟨rfl,rfl⟩
theorem acg{m:Nat}{c:aa}(h:cI m c)(u:Bool):cI m (nw c u):=by
 unfold nw;obtain⟨cE,fZ⟩:=ahu c u;split
 ·rename_i hg;split
  ·simp only[z1,bW,Bool.not_eq_true',eG]at hg;have hl:=II c.ab (lA c.eO (z2 (xl (vc c u)) c.eO u) c.own c.da);refine⟨by simp only;omega,fun x hx=>?_,by simp only[fZ];exact h.vw,by simp only[fZ];exact h.i4⟩;rcases BI hx with hx|rfl
   ·exact h.ml x hx
   ·exact Xh m _ _ _ _
  ·exact h.same cE fZ
 ·exact h
def ZN:List (List bR):=cS 12 [502001,501999,502033,502015,501957,463522,463036,471298,466924,452830,501795,354294]
def ZO:List (List bR):=cS 15 [13551746,14339077,14339071,14345896,14345950,14345761,14348542,14347084,14342359,14329225,14289859,14171761,13817467,12754584,9565938]
attribute [go_sem] ZN ZO
theorem akm(xs:List J)(l h:Int)(hx:xs.length≤1048576):aL 149 [.one (.sl 2 (xs.map J.enc)),.agg [.int .i64 l,.int .i64 h]] [.one (.sl 2 ((mh xs ⟨l,h⟩).map J.enc))]:=by
 refine a3 65 func149 call149 [.tmp 4] ?_;intro ok;have hm:=fI ok
 try simp only[go_sem]
 repeat'((first|refine ae.intro (by apply Bd) ?_|refine ay.intro (by apply HT) ?_|refine bw ?_)<;>simp only[go_sem])
 refine bP (fun h0=>?_) (fun h0=>?_)
 ·have hg:(cY xs&&dj ⟨l,h⟩)=false:=by revert h0;cases cY xs<;>cases dj ⟨l,h⟩<;>simp
  try simp only[go_sem]
  repeat'(first|(refine ae.intro (by(apply IM<;>exact a6)) ?_<;>simp only[go_sem,I])|(with_reducible refine az ?_)|fail)
  all_goals simp[mh,hg]
 ·have hg:(cY xs&&dj ⟨l,h⟩)=true:=by revert h0;cases cY xs<;>cases dj ⟨l,h⟩<;>simp
  simp only[go_sem,I];refine cr.intro (fun i:Nat=>⟨(aA 3 (.ptr 0 0 0::.al::.sl 1 0 ((xs.take i).flatMap (ir ⟨l,h⟩)).length::aA 13 (.d (.sl 2 (xs.map J.enc))::.i xs.length::.i i::aA 43 []))),[.box [.i l,.i h],.ah 2 (((xs.take i).flatMap (ir ⟨l,h⟩)).map J.enc) true]⟩)
   (fun i=>xs.length-i) (fun i=>i≤xs.length) 0 [0,1] ω ?_ ?_
  ·simp only[go_sem];simp
  ·intro i hi;by_cases h1:i<xs.length
   ·have ax:=bC (p:=(i:Int)<(xs.length:Int)) ω;have aB:=cq J.enc xs i h1;have hw:=dX h1 hm;have e:=EJ (ir ⟨l,h⟩) xs i h1;have g6:=yu (ir ⟨l,h⟩) 2 (Q4 _) (xs.take i);have cM:(xs.take i).length=i:=by simp;omega
    generalize hq:(xs.take i).flatMap (ir ⟨l,h⟩)=hF at e g6
    try simp only[go_sem,I,aE,aB,J.enc,ax]
    repeat'(first|(refine bP (fun h=>?_) (fun h=>?_)<;>simp only[go_sem,I])|(with_reducible refine az ?_)|fail)
    all_goals(simp only[b8,eG]at *)
    all_goals rename_i h2
    all_goals first
     |(refine bE.intro (i+1) [0,6] ω ω ?_;simp only[go_sem,hw,e,ir,cj,dp];rw[if_pos h2,if_pos h];simp[J.enc];done)
     |(refine bE.intro (i+1) [0,4] ω ω ?_;simp only[go_sem,hw,e,ir,cj,dp];rw[if_pos h2,if_neg h];simp[J.enc];done)
     |(refine bE.intro (i+1) [0,4] ω ω ?_;simp only[go_sem,hw,e,ir,cj,dp];rw[if_neg h2,if_pos h];simp[J.enc];done)
     |(refine bE.intro (i+1) [0,1] ω ω ?_;simp only[go_sem,hw,e,ir,cj,dp];rw[if_neg h2,if_neg h];simp;done)
   ·have ax:=bm (p:=(i:Int)<(xs.length:Int)) ω;obtain rfl:i=xs.length:=by omega
    simp only[go_sem,I,ax,d3];simp[mh,hg]
theorem akn(xs ys:List J)(hx:xs.length≤1048576)(hy:ys.length≤8):aL 148 [.one (.sl 2 (xs.map J.enc)),.one (.sl 2 (ys.map J.enc))] [.one (.sl 2 ((iE xs ys).map J.enc))]:=by
 refine a3 56 func148 call148 [.tmp 4] ?_;intro ok;have hm:=fI ok;clear ok;have eH:=Bd xs;have fU:=Bd ys
 try simp only[go_sem]
 repeat'((first|refine ae.intro ‹_› ?_|refine ay.intro ‹_› ?_|refine bw ?_)<;>simp only[go_sem])
 refine bP (fun h0=>?_) (fun h0=>?_)
 ·have hg:(cY xs&&cY ys)=false:=by revert h0;cases cY xs<;>cases cY ys<;>simp
  try simp only[go_sem]
  repeat'(first|(with_reducible refine az ?_)|fail)
  all_goals simp[iE,hg]
 have hg:(cY xs&&cY ys)=true:=by revert h0;cases cY xs<;>cases cY ys<;>simp
 have hc:iE xs ys=xs.flatMap fun x=>ys.flatMap (f1 x):=by unfold iE;rw[hg,if_pos rfl]
 simp only[go_sem,I];refine cr.intro (fun i:Nat=>⟨(.al::.d (.sl 2 (ys.map J.enc))::aA 3 (.sl 0 0 ((xs.take i).flatMap fun x=>ys.flatMap (f1 x)).length::aA 16 (.d (.sl 2 (xs.map J.enc))::.i xs.length::.i i::aA 31 []))),[.ah 2 (((xs.take i).flatMap fun x=>ys.flatMap (f1 x)).map J.enc) true]⟩)
   (fun i=>xs.length-i) (fun i=>i≤xs.length) 0 [0] ω ?_ ?_
 ·simp only[go_sem];simp
 ·intro i hi;by_cases h1:i<xs.length
  ·have ax:=bC (p:=(i:Int)<(xs.length:Int)) ω;have aB:=cq J.enc xs i h1;have hw:=dX h1 hm;have e:=EJ (fun x=>ys.flatMap (f1 x)) xs i h1;have g6:=yu (fun x=>ys.flatMap (f1 x)) ys.length (fun x=>by have:=yu (f1 x) 1 (H3 x) ys;omega) (xs.take i);have cM:(xs.take i).length=i:=by simp;omega
   have Q7:((xs.take i).flatMap fun x=>ys.flatMap (f1 x)).length≤8388608:=by
    have:ys.length * (xs.take i).length≤8 * 1048576:=Nat.mul_le_mul hy ω;omega
   generalize hq:((xs.take i).flatMap fun x=>ys.flatMap (f1 x))=hF at e g6 Q7
   try simp only[go_sem,I,aE,aB,J.enc,ax]
   repeat'(first|(with_reducible refine az ?_)|fail)
   refine cr.intro (fun k:Nat=>⟨(.al::.d (.sl 2 (ys.map J.enc))::aA 3 (.sl 0 0 (hF++(ys.take k).flatMap (f1 xs[i])).length::.al::.ptr 1 0 0::aA 14 (.d (.sl 2 (xs.map J.enc))::.i xs.length::.i i::aA 3 (.d (.sl 2 (ys.map J.enc))::.i ys.length::.i k::aA 25 [])))),[.ah 2 ((hF++(ys.take k).flatMap (f1 xs[i])).map J.enc) true,.box [.d (.int .i64 xs[i].low),.d (.int .i64 xs[i].high)]]⟩)
    (fun k=>ys.length-k) (fun k=>k≤ys.length) 0 [0,1] ω ?_ ?_
   ·simp only[go_sem];simp
   ·intro k hk;by_cases h2:k<ys.length
    ·have g7:=bC (p:=(k:Int)<(ys.length:Int)) ω;have n3:=cq J.enc ys k h2;have lQ:=dX (m:=8) (i:=k) ω (by simp[maxLen]);have ar:=EJ (f1 xs[i]) ys k h2;have akl:=yu (f1 xs[i]) 1 (H3 _) (ys.take k);have Ao:(ys.take k).length=k:=by simp;omega
     generalize zU:hF++(ys.take k).flatMap (f1 xs[i])=H4;have LB:H4.length≤8388616:=by rw[←zU,dY];omega
     have ba:hF++(ys.take (k+1)).flatMap (f1 xs[i])=H4++f1 xs[i] ys[k]:=by rw[ar,←List.append_assoc,zU]
     try simp only[go_sem,I,aE,n3,J.enc,g7]
     repeat'(first|((first|refine bo ZN χ ψ ?_|refine bP (fun h=>?_) (fun h=>?_))<;>simp only[go_sem,I])|(with_reducible refine az ?_)|fail)
     ·have hc:f1 xs[i] ys[k]=[⟨dp xs[i].low ys[k].low,cj xs[i].high ys[k].high⟩]:=by unfold f1;exact if_pos (cQ h)
      rw[hc]at ba;have bF:=congrArg List.length ba;simp only[dY,List.length_singleton]at bF;refine bE.intro (k+1) [4,1] ω ω ?_;simp only[go_sem,lQ,ba,bF];simp[J.enc,cj,dp]
     ·have hc:f1 xs[i] ys[k]=[]:=by unfold f1;exact if_neg (c2 h)
      rw[hc,gm]at ba;have bF:=congrArg List.length ba;simp only[dY]at bF;refine bE.intro (k+1) [0,1] ω ω ?_;simp only[go_sem,lQ,ba,bF];simp
    ·have g7:=bm (p:=(k:Int)<(ys.length:Int)) ω;obtain rfl:k=ys.length:=by omega
     simp only[go_sem,I,g7,d3];refine bE.intro (i+1) [0] ω ω ?_;simp only[go_sem,hw,e];simp
  ·have ax:=bm (p:=(i:Int)<(xs.length:Int)) ω;obtain rfl:i=xs.length:=by omega
   rw[hc];simp only[go_sem,I,ax,d3];simp
def qP(r:dd)(o:Int)(k:Nat):List Int:=(List.range k).map fun j=>r.cells[((o+(j:Nat)).tmod r.size).toNat]?.getD 0
theorem ako(r:dd)(o:Int)(k:Nat):qP r o (k+1)=qP r o k++[r.cells[((o+(k:Nat)).tmod r.size).toNat]?.getD 0]:=by simp[qP,List.range_succ]
theorem akp(r:dd)(o:Int)(k:Nat):(qP r o k).length=k:=by simp[qP]
theorem akq(r:dd)(o:Int)(k:Nat):(qP r o k).map o3=rv r o k:=by unfold qP rv;rw[List.map_map];rfl
theorem Qf(cK cC cH:Int)(cg:List Int)(o n:Int):aL 130 [.agg [.int .i64 cK,.int .i64 cC,.int .i64 cH,.sl 1 (cg.map aR)],.one (.int .i64 o),.one (.int .i64 n)] [.one (.str (qB (⟨cK,cC,cH,cg⟩:dd) o n)),.one (.bool (w8 (⟨cK,cC,cH,cg⟩:dd) o n))]:=by
 refine a3 56 func130 call130 [.tmp 6,.tmp 7] ?_;intro ok;clear ok
 cases b5:w8 (⟨cK,cC,cH,cg⟩:dd) o n with
 |false=>
  try simp only[go_sem]
  repeat'((first|refine ae.intro (by apply Q1) ?_|refine ay.intro (by apply jt) ?_|refine bw ?_)<;>simp only[go_sem])
  refine bP (fun h0=>?_) (fun h0=>?_)
  ·simp only[go_sem];simp[qB,b5]
  ·exfalso;simp[w8,ca]at b5 h0;grind
 |true=>
  have aS:kr (⟨cK,cC,cH,cg⟩:dd)=true∧cC≤o∧0≤n∧o≤cH∧n≤i64.wrap (cH-o):=by
   simp only[w8,bW,b8,fJ]at b5;exact b5
  obtain⟨aS,hb,zV,he,hn⟩:=aS;obtain⟨cn,cG,d4,ic,la,vX,zH,LA,zI⟩:=qz aS;simp only at cn cG d4 ic la vX zH zI;have ag:ca o cC cH=true:=by simp[ca];omega
  have ba:=bm (p:=n<0) ω;have bF:=bm (p:=i64.wrap (cH-o)<n) ω;rw[bA (n:=cH-o) ω ω]at hn;obtain⟨m,rfl⟩:=kt zV
  try simp only[go_sem]
  repeat'((first|refine ae.intro (by first|apply Q1|apply jt) ?_|with_reducible refine cN ?_)<;>simp only[go_sem,aS,ag,ba,bF])
  refine cr.intro (fun k:Nat=>⟨(.al::.i o::.al::.ptr 0 0 0::aA 4 (.sl 1 0 k::aA 26 (.i m::.i k::aA 19 []))),[.box [.i cK,.i cC,.i cH,.d (.sl 1 (cg.map aR))],.ah 1 ((qP (⟨cK,cC,cH,cg⟩:dd) o k).map eU8) true]⟩)
   (fun k=>m-k) (fun k=>k≤m) 0 [0,1] ω ?_ ?_
  ·simp only[go_sem];simp[qP]
  ·intro k hk;have fD:=akp (⟨cK,cC,cH,cg⟩:dd) o k;by_cases h1:k<m
   ·have ax:=bC (p:=(k:Int)<(m:Int)) ω;have hw:=dX (i:=k) (m:=100) ω (by simp[maxLen]);have cE:i64.wrap (o+(k:Int))=o+(k:Int):=by rw[bA]<;>omega
    have ih:=Int.tmod_nonneg cK (show(0:Int)≤o+(k:Int)by omega);have hQ:=Int.tmod_lt_of_pos (o+(k:Int)) (show 0<cK by omega);obtain⟨j,n1⟩:=kt ih;rw[n1]at hQ;have aK:j<cg.length:=by omega
    have xc:=cq aR _ j aK;have dx:qP (⟨cK,cC,cH,cg⟩:dd) o (k+1)=qP (⟨cK,cC,cH,cg⟩:dd) o k++[cg[j]]:=by rw[ako];simp only[n1,aE,cD aK,fh]
    have hc:=zI j aK;have Lu:IntKind.u8.wrap cg[j]=cg[j]:=by
     unfold IntKind.wrap;simp[IntKind.bits,IntKind.signed];omega
    generalize qP (⟨cK,cC,cH,cg⟩:dd) o k=hF at *
    try simp only[go_sem,ax]
    repeat'(first|(refine bo ZO χ ψ ?_<;>simp only[go_sem,I,aE,cE,n1,xc,aR,Lu,fD])|(with_reducible refine az ?_)|fail)
    all_goals(refine bE.intro (k+1) [0,3] ω ω ?_;simp only[go_sem,hw,dx];simp[eU8])
   ·have ax:=bm (p:=(k:Int)<(m:Int)) ω;obtain rfl:k=m:=by omega
    have hb:=akq (⟨cK,cC,cH,cg⟩:dd) o k;have bj:qB (⟨cK,cC,cH,cg⟩:dd) o (k:Int)=rv (⟨cK,cC,cH,cg⟩:dd) o k:=by unfold qB;rw[b5,if_pos rfl,aE]
    rw[bj,←hb];have mb:((qP (⟨cK,cC,cH,cg⟩:dd) o k).map eU8).take k=(qP (⟨cK,cC,cH,cg⟩:dd) o k).map eU8:=e7 (by rw[I,fD];exact fE _);simp only[go_sem,I,ax,fD,Zr,mb]
theorem akX{s:au}(h:e1 s=true):0≤s.b0:=by
 simp only[e1,bW]at h;have h2:=h.2;split at h2
 ·rename_i ao;simp only[km,Bool.or_eq_true,b8]at ao;omega
 ·simp only[bW,b8]at h2;have aN:lg s=3∨lg s=2∨lg s=1∨lg s=0:=by
   unfold lg;repeat' split
   all_goals simp
  omega
def LR(s:au):Bool:=yy s&&ca s.b0 0 2
theorem Yd{s:au}(hn:wo s):LR s=nW s:=by
 unfold LR nW;rw[Rp hn]
 cases h:yy s with
 |false=>rfl
 |true=>
  have h0:=akX (s:=s) (by rw[Rp hn];exact h);have:ca s.b0 0 2=decide (s.b0≤2):=by
   unfold ca;rw[bC h0];rfl
  rw[this]
theorem Qe(a' bf bg a_:Int)(a7:List Int)(aF aD aI:List J)(bc a9 a8 bh:Int)(hc:aF.length+aD.length+aI.length≤524288):aL 128 [.agg [.int .i64 a',.int .i64 bf,.int .i64 bg,.int .i64 a_,.sl 1 (a7.map aR),.sl 2 (aF.map J.enc),.sl 2 (aD.map J.enc),.sl 2 (aI.map J.enc),.int .i64 bc,.int .i64 a9,.int .i64 a8,.int .i64 bh]] [.one (.bool (LR (⟨a',⟨bf,bg,a_,a7⟩,aF,aD,aI,bc,a9,a8,bh⟩:au)))]:=by
 refine a3 10 func128 call128 [.tmp 2] ?_;intro _
 try simp only[go_sem]
 repeat'((first|refine ae.intro (by(apply Z'<;>exact a6)) ?_|refine ay.intro (by apply jt) ?_|refine bw ?_)<;>simp only[go_sem])
 all_goals(refine gd ?_;simp[LR])
def aaH(f:aq):J:=⟨f.aH,i64.wrap (f.aH+(f.data.length:Int))⟩
def R0(id:Int)(f:aq):Bool:=decide (f.bp=8)&&decide (f.aC=id)&&decide (f.data≠[])
theorem ahC(l:List af)(hz:∀x∈l,f_ x):aL 59 [.one (.sl 39 (l.map af.enc))] [.one (.int .i64 (nE iI jf l))]:=by
 refine a3 5 func59 call59 [.tmp 2] ?_;intro ok;have hm:=fI ok;clear ok;simp only[go_sem];refine ae.inl (fY (n:=25) (rs:=[.tmp 4]) func120 rfl call120 b2 rfl rfl ?_);simp only[go_sem]
 cases hA:j0 iI l with
 |false=>
  have ai:=L0 (f:=jf) hA
  try simp only[go_sem,I,hA]
  repeat'(refine ae.intro (by(apply Hs<;>exact a6)) ?_<;>simp only[go_sem,hA])
  all_goals simp[ai]
 |true=>
  have ai:=LZ (f:=jf) hA
  try simp only[go_sem,I,hA]
  repeat'(refine ae.intro (by(apply Hs<;>exact a6)) ?_<;>simp only[go_sem,I,hA])
  refine cr.intro (fun i:Nat=>⟨(.al::.fn 121 []::aA 3 (.i ((l.take i).foldl (ke jf) 0)::aA 5 (.d (.sl 39 (l.map af.enc))::.i l.length::.i i::aA 11 []))),[]⟩)
   (fun i=>l.length-i) (fun i=>i≤l.length) 0 [] ω ?_ ?_
  ·simp only[go_sem];simp
  ·intro i hi;by_cases h1:i<l.length
   ·have ax:=bC (p:=(i:Int)<(l.length:Int)) ω;have aB:=cq af.enc l i h1;have hw:=dX h1 hm;have hs:=LY jf l i h1;simp only[go_sem,I,aE,aB,af.enc,ax];refine⟨⟨by omega,by omega⟩,?_⟩;refine ae.inl (fY (n:=6) (rs:=[.tmp 2]) func121 rfl call121 b2 rfl rfl ?_);simp only[go_sem];refine bE.intro (i+1) [] ω ω ?_;simp only[go_sem,hw,hs];simp[ke,jf];try exact LX _ _
   ·have ax:=bm (p:=(i:Int)<(l.length:Int)) ω;obtain rfl:i=l.length:=by omega
    simp only[go_sem,ax,d3];simp[ai]
theorem ahD(l:List af)(hz:∀x∈l,f_ x):aL 60 [.one (.sl 39 (l.map af.enc))] [.one (.int .i64 (nE iI ku l))]:=by
 refine a3 5 func60 call60 [.tmp 2] ?_;intro ok;have hm:=fI ok;clear ok;simp only[go_sem];refine ae.inl (fY (n:=25) (rs:=[.tmp 4]) func120 rfl call120 b2 rfl rfl ?_);simp only[go_sem]
 cases hA:j0 iI l with
 |false=>
  have ai:=L0 (f:=ku) hA
  try simp only[go_sem,I,hA]
  repeat'(refine ae.intro (by(apply Hs<;>exact a6)) ?_<;>simp only[go_sem,hA])
  all_goals simp[ai]
 |true=>
  have ai:=LZ (f:=ku) hA
  try simp only[go_sem,I,hA]
  repeat'(refine ae.intro (by(apply Hs<;>exact a6)) ?_<;>simp only[go_sem,I,hA])
  refine cr.intro (fun i:Nat=>⟨(.al::.fn 122 []::aA 3 (.i ((l.take i).foldl (ke ku) 0)::aA 5 (.d (.sl 39 (l.map af.enc))::.i l.length::.i i::aA 11 []))),[]⟩)
   (fun i=>l.length-i) (fun i=>i≤l.length) 0 [] ω ?_ ?_
  ·simp only[go_sem];simp
  ·intro i hi;by_cases h1:i<l.length
   ·have ax:=bC (p:=(i:Int)<(l.length:Int)) ω;have aB:=cq af.enc l i h1;have hw:=dX h1 hm;have hs:=LY ku l i h1;simp only[go_sem,I,aE,aB,af.enc,ax];refine⟨⟨by omega,by omega⟩,?_⟩;refine ae.inl (fY (n:=6) (rs:=[.tmp 2]) func122 rfl call122 b2 rfl rfl ?_);simp only[go_sem];refine bE.intro (i+1) [] ω ω ?_;simp only[go_sem,hw,hs];simp[ke,ku];try exact LX _ _
   ·have ax:=bm (p:=(i:Int)<(l.length:Int)) ω;obtain rfl:i=l.length:=by omega
    simp only[go_sem,ax,d3];simp[ai]
def Mf:List (List bR):=cS 9 [16439,16441,16434,16416,19399,19561,18994,17536,13122]
attribute [go_sem] Mf
theorem RY(a b:J):(decide (a.low=b.low)&&decide (a.high=b.high))=decide (a=b):=by
 have h:((decide (a.low=b.low)&&decide (a.high=b.high))=true)↔(decide (a=b)=true):=by
  cases a;cases b;simp
 cases h1:(decide (a.low=b.low)&&decide (a.high=b.high))<;>cases h2:decide (a=b)<;>simp_all
theorem aaE(xs ys:List J):aL 204 [.one (.sl 2 (xs.map J.enc)),.one (.sl 2 (ys.map J.enc))] [.one (.bool (decide (xs=ys)))]:=by
 refine a3 26 func204 call204 [.tmp 4] ?_;intro ok;have hm:=fI ok;simp only[go_sem,I];refine bP (fun h=>?_) (fun h=>?_)
 ·simp only[go_sem];simp only[ne_eq,decide_not,Bool.not_eq_true',eG]at h;have:xs≠ys:=fun e=>h (by rw[e]);simp[this]
 ·simp only[ne_eq,decide_not,Bool.not_eq_false',b8]at h;simp only[go_sem,I];refine cr.intro (fun i:Nat=>⟨(.d (.sl 2 (xs.map J.enc))::.d (.sl 2 (ys.map J.enc))::.al::.al::.d (.bool false)::aA 7 (.i xs.length::.i i::aA 12 [])),[]⟩)
   (fun i=>xs.length-i) (fun i=>i≤xs.length∧xs.take i=ys.take i) 0 [] ⟨by omega,by simp⟩ ?_ ?_
  ·simp only[go_sem];simp
  ·rintro i ⟨hi,he⟩;simp only[go_sem];refine bP (fun h1=>?_) (fun h1=>?_)
   ·simp only[b8]at h1;have Mg:i<xs.length:=by omega
    have RZ:i<ys.length:=by omega
    have aB:=cq J.enc xs i Mg;have n3:=cq J.enc ys i RZ;have hw:=dX (i:=i) (m:=xs.length) Mg hm;by_cases hq:xs[i]=ys[i]
    ·have hz:(decide (xs[i].low=ys[i].low)&&decide (xs[i].high=ys[i].high))=true:=by rw[RY];exact bC hq
     try simp only[go_sem]
     repeat'(first|(refine bo Mf χ ψ ?_<;>simp only[go_sem,I,aE,aB,n3,J.enc,hz,hw,bN])|(with_reducible refine az ?_)|fail)
     all_goals(refine bE.intro (i+1) [] ⟨by omega,aaF he Mg RZ hq⟩ ω ?_;simp only[go_sem])
    ·have hz:(decide (xs[i].low=ys[i].low)&&decide (xs[i].high=ys[i].high))=false:=by rw[RY];exact bm hq
     have hne:xs≠ys:=fun e=>by subst e;exact hq rfl
     try simp only[go_sem]
     repeat'(first|(refine bo Mf χ ψ ?_<;>simp only[go_sem,I,aE,aB,n3,J.enc,hz,cR])|(with_reducible refine az ?_)|fail)
     all_goals simp[hne]
   ·simp only[go_sem];simp only[eG]at h1;have:xs=ys:=by rw[e7 ω,e7 ω]at he;exact he
    simp[this]
theorem aaG(xs ys:List J):aL 147 [.one (.sl 2 (xs.map J.enc)),.one (.sl 2 (ys.map J.enc))] [.one (.bool (decide (xs=ys)))]:=by
 refine a3 8 func147 call147 [.tmp 4] ?_;intro ok
 try simp only[go_sem]
 repeat'(refine ae.intro (by apply aaE) ?_<;>simp only[go_sem])
 all_goals simp
def LQ:List (List bR):=cS 9 [18674,18672,18706,18688,18630,19561,19075,17496,13122]
def Rt:List (List bR):=cS 12 [530378,530376,530383,530361,524110,523948,524515,522693,528120,511758,472392,354294]
attribute [go_sem] LQ Rt
theorem akT{s:au}(h0:0≤s.aW)(h1:s.aW≤3):Bj s=lg s:=by
 unfold Bj lg
 repeat' split
 all_goals first|rfl|(exfalso;omega)
theorem akU(a' bf bg a_:Int)(a7:List Int)(aF aD aI:List J)(bc a9 a8 bh b_:Int)(bZ:List UInt8)(cb:Bool)(h0:0≤a_)(h1:a_≤4611686018427387903)(hd:bZ.length≤1048576):aL 146 [.agg [.int .i64 a',.int .i64 bf,.int .i64 bg,.int .i64 a_,.sl 1 (a7.map aR),.sl 2 (aF.map J.enc),.sl 2 (aD.map J.enc),.sl 2 (aI.map J.enc),.int .i64 bc,.int .i64 a9,.int .i64 a8,.int .i64 bh],.agg [.int .i64 b_,.str bZ,.bool cb]] [.one (.bool (nd (⟨a',⟨bf,bg,a_,a7⟩,aF,aD,aI,bc,a9,a8,bh⟩:au) (⟨b_,bZ,cb⟩:bL)))]:=by
 refine a3 42 func146 call146 [.tmp 4] ?_;intro ok;clear ok;by_cases aJ:0≤b_∧b_≤a_
 ·have cE:i64.wrap (a_-b_)=a_-b_:=by rw[bA]<;>omega
  have fZ:i64.wrap (b_+(bZ.length:Int))=b_+(bZ.length:Int):=by rw[bA]<;>omega
  have ag:=bm (p:=b_<0) ω;have ar:=bm (p:=a_<b_) ω
  try simp only[go_sem,ag]
  repeat'((first|with_reducible refine cN ?_|refine bw ?_|refine bP (fun h=>?_) (fun h=>?_))<;>simp only[go_sem,cE,fZ,ar])
  all_goals(refine gd ?_;rw[Bool.eq_iff_iff];simp[nd,cE,fZ]at *;first|omega|(constructor<;>intro g<;>simp_all<;>omega)|grind)
 ·have aS:nd (⟨a',⟨bf,bg,a_,a7⟩,aF,aD,aI,bc,a9,a8,bh⟩:au) (⟨b_,bZ,cb⟩:bL)=false:=by
   simp only[nd,Bool.and_eq_false_iff,eG];by_cases h:0≤b_
   ·exact .inl (.inl (.inr (fun g=>aJ ⟨h,g⟩)))
   ·exact .inl (.inl (.inl h))
  rw[aS];by_cases h:b_<0
  ·have ag:=bC (p:=b_<0) h
   try simp only[go_sem,ag]
   repeat'(first|(with_reducible refine eB ?_<;>simp only[go_sem]))
  ·have ag:=bm (p:=b_<0) h;have ar:=bC (p:=a_<b_) ω
   try simp only[go_sem,ag]
   repeat'((first|with_reducible refine cN ?_|with_reducible refine eB ?_)<;>simp only[go_sem,ar])
theorem akV{s:au}(h:e1 s=true):0≤s.aW∧s.aW≤3:=by
 simp only[e1,j',bW,fJ]at h;have:=h.2.2.2.2.2.2.1;simpa [ca]using this
theorem aiC(a' bf bg a_:Int)(a7:List Int)(aF aD aI:List J)(bc a9 a8 bh b_:Int)(bZ:List UInt8)(cb:Bool)(hc:aF.length+aD.length+aI.length≤524288)(hr:a7.length≤8388608)(hd:bZ.length≤1048576)(hn:wo (⟨a',⟨bf,bg,a_,a7⟩,aF,aD,aI,bc,a9,a8,bh⟩:au)):aL 71 [.agg [.int .i64 a',.int .i64 bf,.int .i64 bg,.int .i64 a_,.sl 1 (a7.map aR),.sl 2 (aF.map J.enc),.sl 2 (aD.map J.enc),.sl 2 (aI.map J.enc),.int .i64 bc,.int .i64 a9,.int .i64 a8,.int .i64 bh],.agg [.int .i64 b_,.str bZ,.bool cb]] [.agg (au.enc (gv (⟨a',⟨bf,bg,a_,a7⟩,aF,aD,aI,bc,a9,a8,bh⟩:au) (⟨b_,bZ,cb⟩:bL))),.one (.bool (h8 (⟨a',⟨bf,bg,a_,a7⟩,aF,aD,aI,bc,a9,a8,bh⟩:au) (⟨b_,bZ,cb⟩:bL)))]:=by
 refine a3 84 func71 call71 [.cell 4 57,.tmp 5] ?_;intro ok;clear ok;have A9:=Yd (s:=(⟨a',⟨bf,bg,a_,a7⟩,aF,aD,aI,bc,a9,a8,bh⟩:au)) hn;have Ru:rj (⟨a',⟨bf,bg,a_,a7⟩,aF,aD,aI,bc,a9,a8,bh⟩:au) (⟨b_,bZ,cb⟩:bL)=(nW (⟨a',⟨bf,bg,a_,a7⟩,aF,aD,aI,bc,a9,a8,bh⟩:au)&&nd (⟨a',⟨bf,bg,a_,a7⟩,aF,aD,aI,bc,a9,a8,bh⟩:au) (⟨b_,bZ,cb⟩:bL)&&!(decide (bZ=[])&&!cb)&&!(cb&&decide (a9≠1))):=rfl
 cases bH:nW (⟨a',⟨bf,bg,a_,a7⟩,aF,aD,aI,bc,a9,a8,bh⟩:au)with
 |false=>
  rw[bH]at A9;rw[bH,Bool.false_and,Bool.false_and,Bool.false_and]at Ru;have c3:h8 (⟨a',⟨bf,bg,a_,a7⟩,aF,aD,aI,bc,a9,a8,bh⟩:au) (⟨b_,bZ,cb⟩:bL)=false:=by unfold h8;rw[Ru];rfl
  try simp only[go_sem]
  repeat'(first|((first|refine ae.intro (by first|(apply MK<;>exact a6)|(apply Qe<;>exact a6)) ?_|with_reducible refine eB ?_)<;>simp only[go_sem,I,A9,cR])|(with_reducible refine az ?_)|fail)
  all_goals simp[gv,c3]
 |true=>
  rw[bH]at A9;have hw:=bH;simp only[nW,bW,b8]at hw;obtain⟨cn,cG,d4,ic,la,vX,zH,LA,zI⟩:=qz (Qb hw.1);simp only at cn cG d4 ic la vX zH zI;have atk:=akU a' bf bg a_ a7 aF aD aI bc a9 a8 bh b_ bZ cb ω ω hd;have ai:(bif bif !nd (⟨a',⟨bf,bg,a_,a7⟩,aF,aD,aI,bc,a9,a8,bh⟩:au) (⟨b_,bZ,cb⟩:bL)then true else(bif cb then decide (a9≠1)else false)then true else(bif decide (bZ=[])then !cb else false))=!rj (⟨a',⟨bf,bg,a_,a7⟩,aF,aD,aI,bc,a9,a8,bh⟩:au) (⟨b_,bZ,cb⟩:bL):=by
   rw[Ru,bH]
   cases nd (⟨a',⟨bf,bg,a_,a7⟩,aF,aD,aI,bc,a9,a8,bh⟩:au) (⟨b_,bZ,cb⟩:bL)<;>cases decide (bZ=[])<;>cases cb<;>cases decide (a9≠1)<;>rfl
  obtain⟨f0,jA⟩:=akV hw.1;simp only at f0 jA;have e6:Bj (mj (jQ (⟨a',⟨bf,bg,a_,a7⟩,aF,aD,aI,bc,a9,a8,bh⟩:au) (⟨b_,bZ,cb⟩:bL)) (⟨b_,bZ,cb⟩:bL))=lg (mj (jQ (⟨a',⟨bf,bg,a_,a7⟩,aF,aD,aI,bc,a9,a8,bh⟩:au) (⟨b_,bZ,cb⟩:bL)) (⟨b_,bZ,cb⟩:bL)):=by
   have:(jQ (⟨a',⟨bf,bg,a_,a7⟩,aF,aD,aI,bc,a9,a8,bh⟩:au) (⟨b_,bZ,cb⟩:bL)).aW=a9:=by unfold jQ;split<;>rfl
   apply akT<;>(unfold mj;split)<;>first|(rw[this];omega)|(show(0:Int)≤2;omega)|(show(2:Int)≤3;omega)
  have vV:=akn aF [eN (⟨b_,bZ,cb⟩:bL)] ω ξ;have PZ:=aaG (iE aF [eN (⟨b_,bZ,cb⟩:bL)]) [eN (⟨b_,bZ,cb⟩:bL)];have h5:=akm aF (eN (⟨b_,bZ,cb⟩:bL)).low (eN (⟨b_,bZ,cb⟩:bL)).high ω;have w9:=Zm aD (eN (⟨b_,bZ,cb⟩:bL)).low (eN (⟨b_,bZ,cb⟩:bL)).high ω;simp only[eT,List.map_nil,J.enc]at vV PZ
  try simp only[go_sem]
  repeat'((first|refine ae.intro (by first|assumption|(apply MK<;>exact a6)|(apply Qe<;>exact a6)) ?_|refine ay.intro ‹_› ?_|with_reducible refine cN ?_|refine bw ?_)<;>simp only[go_sem,I,A9])
  rw[ai]
  cases b7:rj (⟨a',⟨bf,bg,a_,a7⟩,aF,aD,aI,bc,a9,a8,bh⟩:au) (⟨b_,bZ,cb⟩:bL)with
  |false=>
   have c3:h8 (⟨a',⟨bf,bg,a_,a7⟩,aF,aD,aI,bc,a9,a8,bh⟩:au) (⟨b_,bZ,cb⟩:bL)=false:=by unfold h8;rw[b7];rfl
   try simp only[go_sem,I,cR]
   repeat'(first|(with_reducible refine az ?_)|fail)
   all_goals simp[gv,c3]
  |true=>
   simp only[go_sem,bN];by_cases lN:bZ=[]
   ·have ba:=bm (p:=bZ≠[]) (fun h=>h lN);have c3:h8 (⟨a',⟨bf,bg,a_,a7⟩,aF,aD,aI,bc,a9,a8,bh⟩:au) (⟨b_,bZ,cb⟩:bL)=true:=by unfold h8;rw[b7];simp only[lN,eJ,Bool.true_or,Bool.and_self]
    have a1:gv (⟨a',⟨bf,bg,a_,a7⟩,aF,aD,aI,bc,a9,a8,bh⟩:au) (⟨b_,bZ,cb⟩:bL)=lp (mj (jQ (⟨a',⟨bf,bg,a_,a7⟩,aF,aD,aI,bc,a9,a8,bh⟩:au) (⟨b_,bZ,cb⟩:bL)) (⟨b_,bZ,cb⟩:bL)):=by unfold gv;rw[c3];rfl
    have b5:jQ (⟨a',⟨bf,bg,a_,a7⟩,aF,aD,aI,bc,a9,a8,bh⟩:au) (⟨b_,bZ,cb⟩:bL)=(⟨a',⟨bf,bg,a_,a7⟩,aF,aD,aI,bc,a9,a8,bh⟩:au):=by unfold jQ;exact if_pos lN
    rw[b5]at a1 e6
    cases cb with
    |false=>
     simp only[mj,Bool.false_eq_true,if_false]at a1 e6
     try simp only[go_sem,I,ba]
     repeat'(first|((first|refine ae.intro (by first|assumption|apply EK) ?_|refine ay.intro ‹_› ?_)<;>simp only[go_sem,I,e6])|(with_reducible refine az ?_)|fail)
     all_goals(rw[a1,c3];simp[lp])
    |true=>
     simp only[mj,if_true]at a1 e6
     try simp only[go_sem,I,ba]
     repeat'(first|((first|refine ae.intro (by first|assumption|apply EK) ?_|refine ay.intro ‹_› ?_)<;>simp only[go_sem,I,e6])|(with_reducible refine az ?_)|fail)
     all_goals(rw[a1,c3];simp[lp])
   ·have ba:=bC (p:=bZ≠[]) lN
    cases n5:decide (iE aF [eN (⟨b_,bZ,cb⟩:bL)]=[eN (⟨b_,bZ,cb⟩:bL)])with
    |true=>
     have c3:h8 (⟨a',⟨bf,bg,a_,a7⟩,aF,aD,aI,bc,a9,a8,bh⟩:au) (⟨b_,bZ,cb⟩:bL)=true:=by unfold h8;rw[b7];simp only[n5,Bool.or_true,Bool.and_self]
     have a1:gv (⟨a',⟨bf,bg,a_,a7⟩,aF,aD,aI,bc,a9,a8,bh⟩:au) (⟨b_,bZ,cb⟩:bL)=lp (mj (jQ (⟨a',⟨bf,bg,a_,a7⟩,aF,aD,aI,bc,a9,a8,bh⟩:au) (⟨b_,bZ,cb⟩:bL)) (⟨b_,bZ,cb⟩:bL)):=by unfold gv;rw[c3];rfl
     have b5:jQ (⟨a',⟨bf,bg,a_,a7⟩,aF,aD,aI,bc,a9,a8,bh⟩:au) (⟨b_,bZ,cb⟩:bL)={(⟨a',⟨bf,bg,a_,a7⟩,aF,aD,aI,bc,a9,a8,bh⟩:au)with aP:=mh aF (eN (⟨b_,bZ,cb⟩:bL)),aM:=gT aD (eN (⟨b_,bZ,cb⟩:bL)),cw:=dp a8 (eN (⟨b_,bZ,cb⟩:bL)).high}:=by unfold jQ;exact if_neg lN
     rw[b5]at a1 e6
     cases cb with
     |false=>
      simp only[mj,Bool.false_eq_true,if_false]at a1 e6
      try simp only[go_sem,ba]
      repeat'(first|((first|refine ae.intro (by first|assumption|apply EK) ?_|refine ay.intro ‹_› ?_|refine bo LQ χ ψ ?_|refine bo Rt χ ψ ?_)<;>simp only[go_sem,I,n5])|(with_reducible refine az ?_)|fail)
      all_goals(rw[a1,c3];simp only[lp,←e6];simp only[dp];first|rfl|simp[outOA]|skip)
     |true=>
      simp only[mj,if_true]at a1 e6
      try simp only[go_sem,ba]
      repeat'(first|((first|refine ae.intro (by first|assumption|apply EK) ?_|refine ay.intro ‹_› ?_|refine bo LQ χ ψ ?_|refine bo Rt χ ψ ?_)<;>simp only[go_sem,I,n5])|(with_reducible refine az ?_)|fail)
      all_goals(rw[a1,c3];simp only[lp,←e6];simp only[dp];first|rfl|simp[outOA]|skip)
    |false=>
     have c3:h8 (⟨a',⟨bf,bg,a_,a7⟩,aF,aD,aI,bc,a9,a8,bh⟩:au) (⟨b_,bZ,cb⟩:bL)=false:=by unfold h8;rw[b7];simp only[bm lN,n5,Bool.or_self,Bool.and_false]
     have a1:gv (⟨a',⟨bf,bg,a_,a7⟩,aF,aD,aI,bc,a9,a8,bh⟩:au) (⟨b_,bZ,cb⟩:bL)=(⟨a',⟨bf,bg,a_,a7⟩,aF,aD,aI,bc,a9,a8,bh⟩:au):=by unfold gv;rw[c3];rfl
     try simp only[go_sem,ba]
     repeat'(first|((first|refine ae.intro ‹_› ?_|refine ay.intro ‹_› ?_|refine bo LQ χ ψ ?_)<;>simp only[go_sem,I,n5,cR])|(with_reducible refine az ?_)|fail)
     all_goals(rw[a1,c3];try simp[outOA,gW])
theorem MX{P:Program}{kv:List V}{aQ:List Oper}{K:St→Prop}(Inv:Nat→List Bool→St→Prop)
  (h0:∀S σ,Inv 0 S σ→rdyE S aQ [] S=[]∧K σ)
  (h1:∀n S σ (F:List Bool→St→Prop),Inv (n+1) S σ→(∀m5 σ',Inv n m5 σ'→F m5 σ')→(rdyE S aQ [] S=[]→K σ)∧wq (rdyE S aQ [] S) fun o m5=>wt P kv aQ σ o (b3 (fun σ'=>F m5 σ') .mk)) :
  ∀n S σ,Inv n S σ→exE P kv aQ n S σ K
 |0,S,σ,h=>h0 S σ h
 |n+1,S,σ,h=>h1 n S σ (fun m5 σ'=>exE P kv aQ n m5 σ' K) h fun m5 σ' h'=>MX Inv h0 h1 n m5 σ' h'
theorem S4{aQ:List Oper}{S:List Bool}{Q:Prop}{x:Oper×List Bool}{r:List (Oper×List Bool)}{G:Oper→List Bool→Prop}(e:rdyE S aQ [] S=x::r)(h:wq (x::r) G):(rdyE S aQ [] S=[]→Q)∧wq (rdyE S aQ [] S) G:=⟨fun h'=>(by rw[e]at h';cases h'),(by rw[e];exact h)⟩
def Ur:List (List bR):=cS 40 [12157665459056928800,12157665459056928798,12157665459056928792,12157665459056928774,12157665459056928720,12157665459056925642,12157665459056928315,12157665459056926857,12157665459056922240,12157665459056909118,12157665459056869752,12157665459056751654,12157665459056397360,12157665459055334478,12157665459052145832,12157665459042579894,12157665459013882080,12157665458927788638,12157665458669508312,12157665457894667334,12157665455570144400,12157665448596575598,12157665427675869192,12157665364913749974,12157665176627392320,12157664611768319358,12157662917191100472,12157657833459443814,12157642582264473840,12157596828679563918,12157459567924834152,12157047785660644854,12155812438868076960,12152106398490373278,12140988277357262232,12107633913957929094,12007570823759929680,11707381553165931438,10806813741383936712,8105110306037952534]
attribute [go_sem] Ur
theorem I6{P:Program}{kv:List V}{aQ:List Oper}{σ:St}{K:St→Prop}(s:St)(h:exE P kv aQ aQ.length (List.replicate aQ.length false) σ (fun σ'=>σ'=s))(hk:K s):DE P kv aQ.toArray σ K:=gC (fun σ'=>σ'=s) h (fun σ' e=>by rw[e];exact hk)
def oneB(b:Bool):Int:=if b then 1 else 0
theorem y6(b:Bool):aL 129 [.one (.bool b)] [.one (.int .i64 (oneB b))]:=by
 refine a3 4 func129 call129 [.tmp 2] ?_;intro _
 try simp only[go_sem]
 repeat'(refine bP (fun h=>?_) (fun h=>?_)<;>simp only[go_sem])
 all_goals simp_all [oneB]
def NQ:List (Nat×List Bool):=[(12,[false,false,false,false,false,false,false,false,false,false,false,false]),(11,[true,false,false,false,false,false,false,false,false,false,false,false]),(11,[false,false,true,false,false,false,false,false,false,false,false,false]),(11,[false,false,false,false,true,false,false,false,false,false,false,false]),(10,[true,true,false,false,false,false,false,false,false,false,false,false]),(10,[true,false,true,false,false,false,false,false,false,false,false,false]),(10,[true,false,false,false,true,false,false,false,false,false,false,false]),(10,[false,false,true,true,false,false,false,false,false,false,false,false]),(10,[false,false,true,false,true,false,false,false,false,false,false,false]),(10,[false,false,false,false,true,true,false,false,false,false,false,false]),(9,[true,true,true,false,false,false,false,false,false,false,false,false]),(9,[true,true,false,false,true,false,false,false,false,false,false,false]),(9,[true,true,false,false,false,false,true,false,false,false,false,false]),(9,[true,false,true,true,false,false,false,false,false,false,false,false]),(9,[true,false,true,false,true,false,false,false,false,false,false,false]),(9,[true,false,false,false,true,true,false,false,false,false,false,false]),(9,[false,false,true,true,true,false,false,false,false,false,false,false]),(9,[false,false,true,false,true,true,false,false,false,false,false,false]),(8,[true,true,true,true,false,false,false,false,false,false,false,false]),(8,[true,true,true,false,true,false,false,false,false,false,false,false]),(8,[true,true,true,false,false,false,true,false,false,false,false,false]),(8,[true,true,false,false,true,true,false,false,false,false,false,false]),(8,[true,true,false,false,true,false,true,false,false,false,false,false]),(8,[true,true,false,false,false,false,true,true,false,false,false,false]),(8,[true,false,true,true,true,false,false,false,false,false,false,false]),(8,[true,false,true,false,true,true,false,false,false,false,false,false]),(8,[false,false,true,true,true,true,false,false,false,false,false,false]),(7,[true,true,true,true,true,false,false,false,false,false,false,false]),(7,[true,true,true,true,false,false,true,false,false,false,false,false]),(7,[true,true,true,false,true,true,false,false,false,false,false,false]),(7,[true,true,true,false,true,false,true,false,false,false,false,false]),(7,[true,true,true,false,false,false,true,true,false,false,false,false]),(7,[true,true,false,false,true,true,true,false,false,false,false,false]),(7,[true,true,false,false,true,false,true,true,false,false,false,false]),(7,[true,false,true,true,true,true,false,false,false,false,false,false]),(6,[true,true,true,true,true,true,false,false,false,false,false,false]),(6,[true,true,true,true,true,false,true,false,false,false,false,false]),(6,[true,true,true,true,false,false,true,true,false,false,false,false]),(6,[true,true,true,false,true,true,true,false,false,false,false,false]),(6,[true,true,true,false,true,false,true,true,false,false,false,false]),(6,[true,true,false,false,true,true,true,true,false,false,false,false]),(5,[true,true,true,true,true,true,true,false,false,false,false,false]),(5,[true,true,true,true,true,false,true,true,false,false,false,false]),(5,[true,true,true,true,false,false,true,true,true,false,false,false]),(5,[true,true,true,false,true,true,true,true,false,false,false,false]),(4,[true,true,true,true,true,true,true,true,false,false,false,false]),(4,[true,true,true,true,true,false,true,true,true,false,false,false]),(4,[true,true,true,true,false,false,true,true,true,true,false,false]),(3,[true,true,true,true,true,true,true,true,true,false,false,false]),(3,[true,true,true,true,true,false,true,true,true,true,false,false]),(2,[true,true,true,true,true,true,true,true,true,true,false,false]),(1,[true,true,true,true,true,true,true,true,true,true,true,false]),(0,[true,true,true,true,true,true,true,true,true,true,true,true])]
def Jn(eR e_:Int)(eU:List UInt8)(fG:Bool)(fy fv fR:Int)(fV:Bool)(S:List Bool):St:=⟨(.agg [.i 8,.i eR,.i e_,.d (.str eU),.d (.bool fG),.i fy,.i fv,.i fR,.d (.bool fV)]::.ptr 0 0 0::.ptr 1 0 0::.ptr 2 0 0::.ptr 0 0 0::.i 8::.agg [.i 8,.i 0,.i 0,.d (.str []),.d (.bool false),.i 0,.i 0,.i 0,.d (.bool false)]::.agg [.i 8,.i eR,.i e_,.d (.str eU),.d (.bool fG),.i fy,.i fv,.i fR,.d (.bool fV)]::.d (.bool true)::.ptr 0 0 1::.i eR::.ptr 2 0 1::.ptr 0 0 0::.i 8::aA 3 (.d (.bool false)::.d (.bool false)::aA 6 (.d (.bool false)::.d (.bool false)::aA 3 (.d (.bool true)::.d (.bool true)::(aw S 0 (.ptr 0 0 2))::(aw S 1 (.i e_))::(aw S 2 (.ptr 0 0 3))::(aw S 3 (.d (.str eU)))::(aw S 4 (.ptr 0 0 4))::(aw S 5 (.d (.bool fG)))::(aw S 6 (.ptr 2 0 2))::(aw S 8 (.ptr 2 0 3))::(aw S 10 (.ptr 2 0 4))::aA 10 [])))),[.box [.i 8,.i eR,.i e_,.d (.str eU),.d (.bool fG),.i fy,.i fv,.i fR,.d (.bool fV)],.box aq.cc,.box [.i 8,.i eR,(bif S.getD 7 false then .i e_ else .i 0),(bif S.getD 9 false then .d (.str eU)else .d (.str [])),(bif S.getD 11 false then .d (.bool fG)else .d (.bool false)),.i 0,.i 0,.i 0,.d (.bool false)]]⟩
theorem adV(eZ eR e_:Int)(eU:List UInt8)(fG:Bool)(fy fv fR:Int)(fV:Bool):aL 172 [.agg [.int .i64 eZ,.int .i64 eR,.int .i64 e_,.str eU,.bool fG,.int .i64 fy,.int .i64 fv,.int .i64 fR,.bool fV]] [.agg (aq.enc (gE (⟨eZ,eR,e_,eU,fG,fy,fv,fR,fV⟩:aq)))]:=by
 refine a3 51 func172 call172 [.cell 2 82] ?_;intro _;by_cases e9:eZ=8
 ·subst e9;have ag:h6 8=true:=rfl
  try simp only[go_sem]
  repeat'(refine ae.intro (by apply Jm) ?_<;>simp only[go_sem,ag,show decide ((8:Int)=4)=false from rfl,show decide ((8:Int)=5)=false from rfl])
  refine gC (fun σ'=>σ'=Jn eR e_ eU fG fy fv fR fV (List.replicate 12 true)) ?_ ?_
  ·refine MX (fun n S σ=>(n,S)∈NQ∧σ=Jn eR e_ eU fG fy fv fR fV S) ?_ ?_ _ _ _ ⟨by first|exact List.Mem.head _|decide +kernel,rfl⟩
   ·rintro S σ ⟨a1,rfl⟩;simp only[NQ,List.mem_cons,dL,List.not_mem_nil,or_false]at a1;rcases a1 with ⟨hn,rfl⟩|⟨hn,rfl⟩|⟨hn,rfl⟩|⟨hn,rfl⟩|⟨hn,rfl⟩|⟨hn,rfl⟩|⟨hn,rfl⟩|⟨hn,rfl⟩|⟨hn,rfl⟩|⟨hn,rfl⟩|⟨hn,rfl⟩|⟨hn,rfl⟩|⟨hn,rfl⟩|⟨hn,rfl⟩|⟨hn,rfl⟩|⟨hn,rfl⟩|⟨hn,rfl⟩|⟨hn,rfl⟩|⟨hn,rfl⟩|⟨hn,rfl⟩|⟨hn,rfl⟩|⟨hn,rfl⟩|⟨hn,rfl⟩|⟨hn,rfl⟩|⟨hn,rfl⟩|⟨hn,rfl⟩|⟨hn,rfl⟩|⟨hn,rfl⟩|⟨hn,rfl⟩|⟨hn,rfl⟩|⟨hn,rfl⟩|⟨hn,rfl⟩|⟨hn,rfl⟩|⟨hn,rfl⟩|⟨hn,rfl⟩|⟨hn,rfl⟩|⟨hn,rfl⟩|⟨hn,rfl⟩|⟨hn,rfl⟩|⟨hn,rfl⟩|⟨hn,rfl⟩|⟨hn,rfl⟩|⟨hn,rfl⟩|⟨hn,rfl⟩|⟨hn,rfl⟩|⟨hn,rfl⟩|⟨hn,rfl⟩|⟨hn,rfl⟩|⟨hn,rfl⟩|⟨hn,rfl⟩|⟨hn,rfl⟩|⟨hn,rfl⟩|⟨hn,rfl⟩
    all_goals(first|exact absurd hn ζ|skip)
    exact⟨rfl,rfl⟩
   ·rintro n S σ F ⟨a1,rfl⟩ bB;simp only[NQ,List.mem_cons,dL,List.not_mem_nil,or_false]at a1;rcases a1 with ⟨hn,rfl⟩|⟨hn,rfl⟩|⟨hn,rfl⟩|⟨hn,rfl⟩|⟨hn,rfl⟩|⟨hn,rfl⟩|⟨hn,rfl⟩|⟨hn,rfl⟩|⟨hn,rfl⟩|⟨hn,rfl⟩|⟨hn,rfl⟩|⟨hn,rfl⟩|⟨hn,rfl⟩|⟨hn,rfl⟩|⟨hn,rfl⟩|⟨hn,rfl⟩|⟨hn,rfl⟩|⟨hn,rfl⟩|⟨hn,rfl⟩|⟨hn,rfl⟩|⟨hn,rfl⟩|⟨hn,rfl⟩|⟨hn,rfl⟩|⟨hn,rfl⟩|⟨hn,rfl⟩|⟨hn,rfl⟩|⟨hn,rfl⟩|⟨hn,rfl⟩|⟨hn,rfl⟩|⟨hn,rfl⟩|⟨hn,rfl⟩|⟨hn,rfl⟩|⟨hn,rfl⟩|⟨hn,rfl⟩|⟨hn,rfl⟩|⟨hn,rfl⟩|⟨hn,rfl⟩|⟨hn,rfl⟩|⟨hn,rfl⟩|⟨hn,rfl⟩|⟨hn,rfl⟩|⟨hn,rfl⟩|⟨hn,rfl⟩|⟨hn,rfl⟩|⟨hn,rfl⟩|⟨hn,rfl⟩|⟨hn,rfl⟩|⟨hn,rfl⟩|⟨hn,rfl⟩|⟨hn,rfl⟩|⟨hn,rfl⟩|⟨hn,rfl⟩|⟨hn,rfl⟩
    rotate_right 1
    ·exact absurd hn ω
    all_goals(
     simp only[Nat.reduceEqDiff]at hn
     try subst hn
     simp only[Jn,aw,e3,e0,c_,dK];refine S4 rfl ?_
     repeat'(first
      |exact vp
      |(refine vq ?_ ?_)
      |exact bB _ _ ⟨by first|exact List.Mem.head _|decide +kernel,rfl⟩
      |simp only[go_sem]))
  ·rintro _ rfl;simp only[Jn,List.replicate,aw,e3,e0,c_];simp only[go_sem];simp[gE,h6]
 ·skip
  try simp only[go_sem]
  repeat'((first|refine ae.intro (by apply Jm) ?_|refine bP (fun h=>?_) (fun h=>?_))<;>simp only[go_sem])
  all_goals(first|(exfalso;simp only[b8,eG]at *;omega)|skip)
  all_goals(try(apply I6;(focus ((repeat'(first|exact vp|(refine vq ?_ ?_)|(refine xx rfl ?_)|(refine xy rfl ?_)|(simp only[go_sem])));all_goals exact rfl));simp only[go_sem]))
  all_goals(simp only[b8,eG]at *;first|(exfalso;omega)|(exfalso;simp_all [h6];done)|(simp[gE, *];done)|(simp[gE,h6]at *;simp[ *];done)|(simp_all [gE,h6];done))
theorem adW(f:aq):(bif bif bif bif bif bif !kindOk f.bp then true else !decide (f=gE f)then true else !bQ f.aC then true else !bQ f.aH then true else !bQ f.c4 then true else !bQ f.aZ then true else !bQ f.br)=!(kindOk f.bp&&decide (f=gE f)&&bQ f.aC&&bQ f.aH&&bQ f.c4&&bQ f.aZ&&bQ f.br):=by
 cases kindOk f.bp<;>cases decide (f=gE f)<;>cases bQ f.aC<;>cases bQ f.aH<;>cases bQ f.c4<;>cases bQ f.aZ<;>cases bQ f.br<;>rfl
def DF(f:aq):Bool:=kindOk f.bp&&decide (f=gE f)&&bQ f.aC&&bQ f.aH&&bQ f.c4&&bQ f.aZ&&bQ f.br
theorem adX(f:aq):d_ f=(DF f&&if f.bp=18∨f.bp=22 then decide (f.aZ≤1152921504606846976)else(decide ((f.data.length:Int)≤400)&&decide (f.aH≤i64.wrap (4611686018427387903-(f.data.length:Int))))):=by
 by_cases hu:gE f=f
 ·have h1:f.aH=if f.bp=8 then f.aH else 0:=congrArg aq.aH hu.symm
  have h2:f.data=if f.bp=8 then f.data else []:=congrArg aq.data hu.symm
  have ag:=bC (p:=gE f=f) hu;have ar:=bC (p:=f=gE f) hu.symm;unfold d_ y2 DF;rw[ag,ar];by_cases e9:f.bp=8
  ·have jv:¬(f.bp=18∨f.bp=22):=by omega
   simp only[e9,if_true];rw[←e9];simp only[jv,if_false];have e:(!decide (400<(f.data.length:Int)))=decide ((f.data.length:Int)≤400):=by by_cases h:(f.data.length:Int)≤400<;>simp[h]<;>omega
   rw[e];simp only[Bool.and_assoc]
  ·rw[if_neg e9]at h1 h2;have w:decide ((0:Int)≤i64.wrap (4611686018427387903-(([]:List UInt8).length:Int)))=true:=by decide
   by_cases jv:f.bp=18∨f.bp=22
   ·rw[if_neg e9,if_pos jv,if_pos jv,h1,h2];simp
   ·rw[if_neg e9,if_neg jv,if_neg jv,h1,h2,w];simp
 ·have ag:=bm (p:=gE f=f) hu;have ar:=bm (p:=f=gE f) (fun h=>hu h.symm);unfold d_ y2 DF;rw[ag,ar];simp
theorem oo(eZ eR e_:Int)(eU:List UInt8)(fG:Bool)(fy fv fR:Int)(fV:Bool):aL 94 [.agg [.int .i64 eZ,.int .i64 eR,.int .i64 e_,.str eU,.bool fG,.int .i64 fy,.int .i64 fv,.int .i64 fR,.bool fV]] [.one (.bool (d_ (⟨eZ,eR,e_,eU,fG,fy,fv,fR,fV⟩:aq)))]:=by
 refine a3 67 func94 call94 [.tmp 2] ?_;intro _;have hk:decide (xG eZ=[])=!kindOk eZ:=by have:=Uo eZ;rw[←this];cases xG eZ<;>rfl
 have hf:=Uq (⟨eZ,eR,e_,eU,fG,fy,fv,fR,fV⟩:aq) (gE (⟨eZ,eR,e_,eU,fG,fy,fv,fR,fV⟩:aq));simp only at hf;have ai:=adW (⟨eZ,eR,e_,eU,fG,fy,fv,fR,fV⟩:aq)
 try simp only[go_sem]
 repeat'((first|refine ay.intro (by first|apply adT|apply adV|apply pt) ?_|refine f' ?_|refine bo Ur χ ψ ?_)<;>simp only[go_sem,hk,hf])
 rw[ai];rw[adX]
 cases er:DF (⟨eZ,eR,e_,eU,fG,fy,fv,fR,fV⟩:aq)with
 |false=>
  unfold DF at er;rw[er];simp only[go_sem,cR]
  try simp
 |true=>
  unfold DF at er;rw[er];simp only[go_sem,bN]
  try simp only[go_sem]
  repeat'((first|refine bw ?_|refine bP (fun h=>?_) (fun h=>?_))<;>simp only[go_sem])
  ·have h':eZ=18∨eZ=22:=by revert h;simp
   simp[h']
  ·have h':¬(eZ=18∨eZ=22):=by revert h;simp
   simp only[if_neg h',di]
theorem RV(bY:List aq)(hm:bY.length≤500)(num:Int)(kv:List V)(bJ:bk 1 kv)(K:V→List H→Prop)(hk:K (.d (.bool (!bY.all d_))) [.box [.i num,.d (.sl 9 (bY.map aq.enc))]]) :
  d6 prog 118 kv [.box [.i num,.d (.sl 9 (bY.map aq.enc))]] [.d (.sl 9 (bY.map aq.enc)),.fn 119 []] K:=by
 have aW:∀(ex:List H) (b:Bool),b=!bY.all d_→oW kv K (.d (.bool b)) (.box [.i num,.d (.sl 9 (bY.map aq.enc))]::ex):=by
  intro ex b hb;subst hb;exact⟨List.range 1,_,[.box [.i num,.d (.sl 9 (bY.map aq.enc))]],zS (hs:=[.box [.i num,.d (.sl 9 (bY.map aq.enc))]]) (ex:=ex) (by simp[dB,cA,bk,vok]) bJ (by simp[vsees,vsee,ren]) (by simp[bk,vok]),hk⟩
 have hx:∀ρ:List Nat,ρ=[0]→qT ρ 1 kv:=fun ρ e=>by subst e;exact u_ (yI (m:=1) (n:=1) ω) ω bJ
 refine d6.n2 ?_;refine(fY (n:=9) (rs:=[.tmp 4]) func118 rfl call118 b2 rfl rfl ?_);simp only[go_sem];refine ae.inl (fY (n:=19) (rs:=[.tmp 4]) func191 rfl call191 b2 rfl rfl ?_);simp only[go_sem,I];refine cr.intro (fun i:Nat=>⟨(.d (.sl 9 (bY.map aq.enc))::.fn 119 []::.al::.al::.i 0::.al::.d (.sl 9 (bY.map aq.enc))::.i bY.length::.i i::aA 10 []),[.box [.i num,.d (.sl 9 (bY.map aq.enc))]]⟩)
   (fun i=>bY.length-i) (fun i=>i≤bY.length∧(bY.take i).all d_=true) 0 [0] ⟨by omega,by simp⟩ ?_ ?_
 ·simp only[go_sem];simp[hx];try trace_state
 ·rintro i ⟨hi,he⟩;by_cases h1:i<bY.length
  ·have ax:=bC (p:=(i:Int)<(bY.length:Int)) ω;have aB:=cq aq.enc bY i h1;have hw:i64.wrap ((i:Int)+1)=((i+1:Nat):Int):=by rw[bA]<;>omega
   have hs:=RW d_ bY i h1;have hn:=fun h=>RX d_ bY i h1 h;generalize bY[i]=f at *;have bB:=oo f.bp f.aC f.aH f.data f.aW f.c4 f.aZ f.br f.ft;change PureCall _ _ _ [.one (.bool (d_ f))]at bB;simp only[go_sem,I,ax,aB,aq.enc,aE];refine⟨⟨by omega,by omega⟩,?_⟩;refine ae.inl (fY (n:=6) (rs:=[.tmp 2]) func119 rfl call119 b2 rfl rfl ?_);simp only[go_sem];refine ae.intro bB ?_
   cases hb:d_ f with
   |true=>
    simp only[go_sem,hw,bN];refine bE.intro (i+1) [0] ⟨by omega,by rw[hs,he,hb];rfl⟩ ω ?_;simp only[go_sem];simp[hx]
   |false=>
    have:=hn hb;simp only[go_sem,cR];have h0:=bC (p:=(0:Int)≤(i:Int)) ω;exact aW _ _ (by simp[this])
  ·have ax:=bm (p:=(i:Int)<(bY.length:Int)) ω;obtain rfl:i=bY.length:=by omega
   rw[d3]at he;simp only[go_sem,ax];exact aW _ _ (by simp[he])
end Gv
