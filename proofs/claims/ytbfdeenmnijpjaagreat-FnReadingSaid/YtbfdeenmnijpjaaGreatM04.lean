/-
  Part of the proof: the machine, what functions compute, and the plain laws.
-/
import Derived.Test.YtbfdeenmnijpjaaGreatM03
namespace Gv
open Go Go.Proofs
set_option maxRecDepth 100000
def OZ:List (List bt):=cE 10 [57956,58804,58798,58780,58726,58927,58321,56862,52488,39366]
def O0:List (List bt):=cE 12 [511649,511647,511641,511663,511717,511515,511029,503010,448335,521599,478953,354294]
attribute [go_sem] OZ O0
def eP(x:J)(a b:Nat):H:=.box (J.aK x (.sl a 0 x.streams.length) (.sl b 0 x.packets.length))
def dX(x:J):H:=.ag 39 (x.streams.map ae.enc)
def Fm(x:J):H:=.ag 2 (x.packets.map aI.enc)
def tL(c x:J)(bT:List al):List H:=[.box (J.bC c),.box J.bJ,eP x 3 4,dX x,Fm x,.ao 9 (bT.map al.enc) true]
set_option maxHeartbeats 8000000 in
theorem WG(c x:J)(bT:List al)(room:Int)(m:Nat)(hv:bZ m x)(hm:m≤20)(xp:bT.length≤102)(BP:∀f∈bT,ni f)(kv:List V)(bp:bf 3 kv)(K:V→List H→Prop)
  (hk:K (.sl 5 0 (jC 200 ⟨x,[],bT,room⟩).bT.length) (tL c (jC 200 ⟨x,[],bT,room⟩).x (jC 200 ⟨x,[],bT,room⟩).bT)) :
  di Tryz.prog 179 kv (tL c x bT) [.ptr 2 0 0,.sl 5 0 bT.length,.d (.int .i64 room)] K:=by
 have ba:∀(q:mK) (ex:List H),q=jC 200 ⟨x,[],bT,room⟩→nN kv K (.sl 5 0 q.bT.length) (tL c q.x q.bT++ex):=by
  rintro q ex rfl;refine⟨List.range 6,.sl 5 0 (jC 200 ⟨x,[],bT,room⟩).bT.length,tL c (jC 200 ⟨x,[],bT,room⟩).x (jC 200 ⟨x,[],bT,room⟩).bT,?_,hk⟩;have eD:∀a b c,(tL a b c).length=6:=fun _ _ _=>rfl;refine yw (hs:=tL c (jC 200 ⟨x,[],bT,room⟩).x (jC 200 ⟨x,[],bT,room⟩).bT) (ex:=ex) ?_ (ld (by rw[eD];decide) _ bp) ?_ ?_
  ·simp[tL,eP,dX,Fm,dd,db,bf,vok]
  ·simp[tL,vsees,vsee,ren]
  ·simp[tL,bf,vok]
 refine di.see ?_;refine(el (n:=92) (rs:=[.tmp 6]) Tryz.func179 rfl Tryz.call179 Tryz.checked.mixed rfl rfl ?_);simp only[go_sem,tL,eP,dX,Fm];refine b9.intro (α:=Nat×mK) (fun y=>⟨(.ptr 2 0 0::.sl 5 0 y.2.bT.length::.d (.int .i64 y.2.room)::aF 4 (.sl 6 0 y.2.skip.length::.d (.int .i64 (200-(y.1:Int)))::aF 83 [])),[.box (J.bC c),.box J.bJ,.box (J.aK y.2.x (.sl 3 0 y.2.x.streams.length) (.sl 4 0 y.2.x.packets.length)),.ag 39 (y.2.x.streams.map ae.enc),.ag 2 (y.2.x.packets.map aI.enc),.ao 9 (y.2.bT.map al.enc) true,.ao 1 (y.2.skip.map a') true]⟩)
  (fun y=>y.1) (fun y=>y.1≤200∧jC y.1 y.2=jC 200 ⟨x,[],bT,room⟩∧l_ m (302-y.1) y.2.x y.2.bT∧y.2.skip.length+y.1≤200) (200,⟨x,[],bT,room⟩) [0,1,2,3,4,5,6] ⟨by simp,rfl,⟨hv,by simpa using xp,BP⟩,by simp⟩ ?_ ?_
 ·simp only[go_sem];simp;exact tv (wW (show 3≤7 by decide)) (by decide) bp
 ·rintro⟨n,q⟩ ⟨hn,ah,aO,WI⟩;simp only at hn ah aO WI;have hz:=aO.c.sz hm
  cases n with
  |zero=>
   have hd:decide ((200:Int)-((0:Nat):Int)<200)=false:=by decide
   rw[jC]at ah;simp only[go_sem,hd];exact ba q [.ao 1 (q.skip.map a') true] ah
  |succ k=>
   have hd:decide ((200:Int)-((k+1:Nat):Int)<200)=true:=bk (by omega);have hw:IntKind.i64.wrap ((200:Int)-((k+1:Nat):Int)+1)=200-(k:Int):=by rw[bE]<;>omega
   have ad7:q.skip.length≤200:=by omega
   try simp only[go_sem,I,hd]
   repeat'(refine af.intro (by(apply WJ<;>first|assumption|omega)) ?_<;>simp only[go_sem,I])
   have WK:(vS q.x).length≤30:=by
    unfold vS;rw[I];exact Nat.le_trans (List.length_filter_le _ _) hz.1
   have WL:∀(bP:List Int) (l:List c4),(bP.foldl kZ l).length≤l.length:=by
    intro bP;induction bP with
    |nil=>intro l;exact Nat.le_refl _
    |cons i bP dx=>intro l;exact Nat.le_trans (dx (kZ l i)) (List.length_filter_le _ _)
   refine b9.intro (α:=Nat×List c4) (fun y=>⟨(.ptr 2 0 0::.sl 5 0 q.bT.length::.d (.int .i64 q.room)::aF 4 (.sl 6 0 q.skip.length::.d (.int .i64 (200-((k+1:Nat):Int)))::.sl 7 0 y.2.length::.d (.int .i64 y.1)::aF 81 [])),[.box (J.bC c),.box J.bJ,.box (J.aK q.x (.sl 3 0 q.x.streams.length) (.sl 4 0 q.x.packets.length)),.ag 39 (q.x.streams.map ae.enc),.ag 2 (q.x.packets.map aI.enc),.ao 9 (q.bT.map al.enc) true,.ao 1 (q.skip.map a') true,.ao 3 (y.2.map c4.enc) true]⟩)
    (fun y=>q.skip.length-y.1) (fun y=>y.1≤q.skip.length∧y.2=(q.skip.take y.1).foldl kZ (vS q.x)) (0,vS q.x) [0,1,2,3,4,5,6,7] ⟨by simp,by simp⟩ ?_ ?_
   ·simp only[go_sem];simp;exact tv (wW (show 3≤8 by decide)) (by decide) bp
   ·rintro⟨j,l⟩ ⟨av,hl⟩;simp only at av hl;have ad8:l.length≤30:=by rw[hl];exact Nat.le_trans (WL _ _) WK
    by_cases h1:j<q.skip.length
    ·have au:decide ((j:Int)<(q.skip.length:Int))=true:=bk (by omega);have aB:=b4 a' q.skip j h1;have Ct:IntKind.i64.wrap ((j:Int)+1)=((j+1:Nat):Int):=by rw[bE]<;>omega
     have hs:(q.skip.take (j+1)).foldl kZ (vS q.x)=kZ l q.skip[j]:=by
      rw[List.take_add_one,dk h1,List.foldl_append,←hl];rfl
     try simp only[go_sem,I,aJ,aB,a',au]
     repeat'(first|((first|refine af.intro (by first|assumption|(apply WM<;>first|assumption|omega)) ?_|refine ar.intro (by assumption) ?_)<;>simp only[go_sem,I])|(with_reducible refine aq ?_)|fail)
     refine bu.intro (j+1,kZ l q.skip[j]) [0,1,2,3,4,5,6,8] ⟨by simp only;omega,hs.symm⟩ (by simp only;omega) ?_;simp only[go_sem,Ct];simp;exact tv (fun i hi=>by match i,hi with|0,_=>rfl|1,_=>rfl|2,_=>rfl) (by decide) bp
    ·have au:decide ((j:Int)<(q.skip.length:Int))=false:=bb (by omega);obtain rfl:j=q.skip.length:=by omega
     rw[dK]at hl;have nZ:l=Au q:=hl;clear hl;subst nZ;have WN:=WO (Au q) q.x.eZ (by omega);rw[show yQ (Au q) q.x.eZ=fS q from rfl]at WN;have WQ:=JB (q:=q);rw[jC]at ah;have WR:=WS q.x (fS q) q.room m aO.c hm;rw[show uH q.x (fS q) q.room=kA q from rfl]at WR;have fz:(kA q).1.data.length≤60:=O1 aO.c (by omega) (fS q) q.room
     try simp only[go_sem,I,au]
     repeat'(first|((first|refine af.intro (by assumption) ?_|refine ar.intro (by assumption) ?_)<;>simp only[go_sem])|(with_reducible refine aq ?_)|fail)
     cases O2:decide (fS q<0)with
     |true=>
      rw[if_pos (cl O2)]at ah;simp only[go_sem];exact ba q [.ao 1 (q.skip.map a') true,.ao 3 ((Au q).map c4.enc) true] ah
     |false=>
      have WT:=cG O2;rw[if_neg WT]at ah
      try simp only[go_sem,I]
      repeat'((first|refine af.intro (by assumption) ?_|refine ar.intro (by assumption) ?_)<;>simp only[go_sem])
      cases hp:(kA q).2 with
      |false=>
       rw[hp,if_neg (by simp)]at ah;simp only[go_sem,Bool.not_false];have cn:=kR q.x (fS q) hz;rw[show(bN q.x.streams (fS q)).1=aw q.x (fS q)from rfl]at cn;have nj:eb (aw q.x (fS q)):=lY hz.2.1 _;have gU:=kr q.x.streams (vT (aw q.x (fS q))) (by have:=hz.1;omega) hz.2.1 nj;have Cr:=O3 aO.c (WQ (by omega));have hB:Fo q.x (fS q)={q.x with c0:=uI q.x.c0,streams:=dq q.x.streams (vT (aw q.x (fS q)))}:=rfl;obtain⟨c9,dc,cB,de⟩:=nj;generalize aw q.x (fS q)=s at *;simp only[vT]at gU;refine af.gV [0,1,2,7,8,11] (by simp only[gn,List.elem_cons,List.elem_nil,Nat.reduceBEq,Nat.reduceAdd,cond_true,cond_false];rfl) (el (n:=35) (rs:=[]) Tryz.func217 rfl Tryz.call217 Tryz.checked.mixed rfl rfl ?_);simp only[go_sem,I]
       try simp only[go_sem,I,vT]
       repeat'(first|((first|refine af.ag (by first|assumption|apply WU) ?_|refine ar.ag (by assumption) ?_|refine a9 OZ (by kernel_rfl) (by rfl) ?_)<;>simp only[go_sem,I])|(with_reducible refine aq ?_)|fail)
       try simp only[go_sem,I]
       refine bu.intro (k,yR q) [0,1,2,15,4,5,17] ⟨by simp only;omega,ah,⟨Cr,by have:=aO.n;simp only[yR];omega,aO.d⟩,by simp only[yR,List.length_append,List.length_cons,List.length_nil];omega⟩ (by simp only;omega) ?_;simp only[go_sem,hw,yR,hB,vT];simp;exact⟨rfl,tv (fun i hi=>by match i,hi with|0,_=>rfl|1,_=>rfl|2,_=>rfl) (by decide) bp⟩
      |true=>
       rw[hp,if_pos rfl]at ah;simp only[go_sem,Bool.not_true];have WV:eb (tM (aw q.x (fS q)) (kA q).1):=e_.sz (m:=m) (s:=tM (aw q.x (fS q)) (kA q).1) ⟨O4 (aO.c.aw _).snd (by omega),(aO.c.aw _).d9,(aO.c.aw _).vU⟩ hm;have ad9:=WW q.x (fS q) (kA q).1 hz (by omega) WV;have WX:=O5 aO.c (fS q) (kA q).1 (by omega)
       try simp only[go_sem,I]
       repeat'(first|((first|refine af.ag (by assumption) ?_|refine ar.ag (by assumption) ?_|refine a9 O0 (by kernel_rfl) (by rfl) ?_)<;>simp only[go_sem,I])|(with_reducible refine aq ?_)|fail)
       cases tN:vV q.x (fS q) (kA q).1 with
       |false=>
        rw[tN,if_neg (by simp)]at ah;simp only[go_sem,Bool.not_false];exact ba q _ ah
       |true=>
        rw[tN,if_pos rfl]at ah;have Cq:=Jy 8 (fS q) (kA q).1.offset (kA q).1.data (kA q).1.ba 0 0 0 false (by omega);change PureCall _ _ _ [.one (.int .i64 ((gC (mL (fS q) (kA q).1)).length:Int))]at Cq;have aea:=aO.n
        try simp only[go_sem,Bool.not_true]
        repeat'(first|((first|refine af.intro (by first|assumption|apply O6) ?_|refine ar.intro (by assumption) ?_)<;>simp only[go_sem,I,mL])|(with_reducible refine aq ?_)|fail)
        refine bu.intro (k,Av q) [0,1,2,9,10,14,6] ⟨by simp only;omega,ah,(aO.add WX (f:=mL (fS q) (kA q).1) fz).mono (by omega),by simp only[Av];omega⟩ (by simp only;omega) ?_;simp only[go_sem,hw,Av,mL];simp;have O7:=tv (ρ:=[0,1,2,9,10,14,6]) (m:=3) (n:=7) (fun i hi=>by match i,hi with|0,_=>rfl|1,_=>rfl|2,_=>rfl) (by decide) bp
        first|exact⟨rfl,O7⟩|exact O7
set_option maxRecDepth 100000
def Uj:List (List bt):=cE 22 [31381059608,31381059606,31381059600,31381059582,31381059528,31380272046,31380271560,31380270102,31380265728,31381049646,31381010280,31380892182,31380537888,31379465286,31376276640,31366710702,31338012888,31251919446,30993639120,30218798142,27894275208,20920706406]
def HD:List (List bt):=cE 10 [57956,58804,58798,58780,58726,58927,58321,56862,52488,39366]
attribute [go_sem] Uj HD
def om(s:ae)(m:Nat):List V:=(ae.aK s (.sl (m+4) 0 s.send.ring.cells.length) (.sl (m+5) 0 s.send.pending.length) (.sl (m+6) 0 s.send.flight.length) (.sl (m+7) 0 s.send.cb.length) (.sl (m+8) 0 s.recv.buffer.bd.length))
def zE(s:ae):List H:=[.ag 1 (s.send.ring.cells.map a'),.ag 2 (s.send.pending.map aa.enc),.ag 2 (s.send.flight.map aa.enc),.ag 2 (s.send.cb.map aa.enc),.ag 2 (s.recv.buffer.bd.map ax.enc)]
def dW(x:J)(m:Nat)(kI:H):List H:=[eP x (m+1) (m+2),dX x,kI]
def tm(x:J)(s:ae)(m:Nat)(kI:H):List H:=dW x m kI++(.box (om s m)::zE s)
theorem Cl{kv ts ts':List V}{pre ex ex':List H}(l3:List Nat)(hnd:(pre.length::l3).Nodup)(nX:∀k∈l3,pre.length≤k)(hr:dd pre.length pre)(bp:bf (pre.length+1) kv)(hx:hsees (List.range pre.length++pre.length::l3) (pre++ex) (pre.length::l3) ex')(Cb:kS (pre.length+ex'.length) ex')(L2:0<ex'.length)(ht:vsees (List.range pre.length++pre.length::l3) ts' ts)(kx:bf (pre.length+ex'.length) ts') :
  jQ kv (List.range pre.length++pre.length::l3) ⟨ts,pre++ex⟩ ⟨ts',pre++ex'⟩:=by
 have hf:mC (List.range pre.length++pre.length::l3) pre.length:=I6 (Nat.le_refl _) _;have Ix:mC (List.range pre.length++pre.length::l3) (pre.length+1):=fun i hi=>by
  by_cases h:i<pre.length
  ·exact hf i h
  ·rw[show i=pre.length from by omega,Oj]
 have hl:(pre++ex').length=pre.length+ex'.length:=by simp
 refine⟨?_,ht,I_ (E0 hf _ _ _ (by simp) fun j av=>?_) hx,by rw[hl];exact kx,?_,by rw[hl];exact tv Ix (by omega) bp⟩
 ·rw[List.nodup_append];refine⟨List.nodup_range,hnd,fun a ha b hb=>?_⟩;have:pre.length≤b:=by
   rcases List.mem_cons.1 hb with rfl|hb
   ·exact Nat.le_refl _
   ·exact nX b hb
  simp at ha;omega
 ·refine⟨pre[j],dk av,?_,E1 hr (dk av)⟩;have:(List.range pre.length).getD j 0=j:=wW (Nat.le_refl _) j av;rw[this];exact E2 (by rw[List.getElem?_append_left av];exact dk av)
 ·rw[hl];exact I' (z_ (yJ (by omega) hr)) Cb
set_option maxHeartbeats 8000000 in
theorem wu(x:J)(s:ae)(kI:H)(m_:∀n,db n kI)(hx:x.streams.length≤1000)(hz:∀t∈x.streams,eb t)(hs:eb s)(pre:List H)(kv:List V)(hr:dd pre.length pre)(bp:bf (pre.length+1) kv)(K:V→List H→Prop)
  (hk:K (.dB []) (pre++dW (dt x s) pre.length kI)):di Tryz.prog 27 kv (pre++tm x s pre.length kI) [.ptr pre.length 0 0,.agg (om s pre.length)] K:=by
 have ba:∀(ex:List H) (k:Nat),3≤k→ex[k]?=some (.ag 39 ((dt x s).streams.map ae.enc))→ex[0]?=some (eP (dt x s) (pre.length+k) (pre.length+2))→ex[2]?=some kI→nN kv K (.dB []) (pre++ex):=by
  intro ex k alc h1 h2 ak;have hg:∀j y,ex[j]?=some y→aN (pre++ex) (pre.length+j)=y:=fun j y h=>E2 (by rw[List.getElem?_append_right (by omega),Nat.add_sub_cancel_left];exact h);refine⟨_,.dB [],pre++dW (dt x s) pre.length kI,Cl [pre.length+k,pre.length+2] (by simp;omega) (by simp) hr bp ?_ ?_ (by simp[dW]) (by simp[vsees,vsee,ren,rens]) (by simp[bf,vok]),hk⟩
  ·have Uk:=hg 0 _ h2;rw[Nat.add_zero]at Uk;have aH:(List.range pre.length++[pre.length,pre.length+k,pre.length+2]).getD (pre.length+1) 0=pre.length+k:=by rw[mB];rfl
   have aZ:(List.range pre.length++[pre.length,pre.length+k,pre.length+2]).getD (pre.length+2) 0=pre.length+2:=by rw[mB];rfl
   have hp:(dt x s).packets=x.packets:=(yq x s).2;have hf:mC (List.range pre.length++[pre.length,pre.length+k,pre.length+2]) pre.length:=I6 (Nat.le_refl _) _;have ac9:=z9 hf (m_ pre.length);simp only[dW,dX,hsees,Uk,hg k _ h1,hg 2 _ ak,and_true,ac9];simp only[eP,J.aK,hsee,vsees,vsee,ren,aH,aZ,and_self,hp]
  ·have:=z_ (m:=pre.length+3) (xs:=[kI]) ⟨m_ _,trivial⟩;simp only[dW,dX,eP,J.aK,kS,hok,bf,vok,List.length_cons,List.length_nil]at this⊢;simp[this]
 have z7:=NR x s;obtain⟨B,hv⟩:∃B,ln x s=B:=⟨_,rfl⟩;rw[hv]at z7;have hs':=hs;obtain⟨e5,gr,lo,EN⟩:=hs;have lo:∀d9∈s.recv.buffer.bd,d9.data.length≤1048576:=fun d9 hc=>by have:=lo d9 hc;omega
 have Vu:=kr x.streams s hx hz hs';have Vv:=kr x.streams {s with counted:=true} hx hz hs';refine di.see ?_;refine(el (n:=15) (rs:=[]) Tryz.func27 rfl Tryz.call27 Tryz.checked.mixed rfl rfl ?_);simp only[go_sem,tm,dW,dX,om,zE,eP,bx,b1,e8];refine af.gV [0,3] (by simp only[gn,List.elem_cons,List.elem_nil,Nat.reduceBEq,Nat.reduceAdd,cond_true,cond_false];rfl) (el (n:=62) (rs:=[]) Tryz.func75 rfl Tryz.call75 Tryz.checked.mixed rfl rfl ?_);simp only[go_sem]
 try simp only[go_sem,I,jy,e8,ei,fH,iz,Nat.add_zero]
 repeat'(first|((first|refine af.intro (by assumption) ?_|refine ar.intro (by first|assumption|apply BZ|(apply NS<;>first|assumption|omega)) ?_|refine en ?_|refine a9 Uj (by kernel_rfl) (by rfl) ?_)<;>simp only[go_sem,I,ei,fH,Nat.add_zero])|(with_reducible refine aq ?_)|fail)
 rw[z7]
 cases B with
 |false=>
  have ah:=B0 hv;simp only[ah]at ba;simp only[go_sem,Bool.not_false]
  try simp only[go_sem,I,jy,e8,ei,fH,iz,Nat.add_zero]
  repeat'(first|((first|refine af.ag (by assumption) ?_|refine ar.ag (by assumption) ?_|refine en ?_|refine a9 HD (by kernel_rfl) (by rfl) ?_)<;>simp only[go_sem,I,e8,ei,fH,iz,Nat.add_zero])|(with_reducible refine aq ?_)|fail)
  refine ba _ 10 (by decide) ?_ ?_ ?_<;>rfl
 |true=>
  try simp only[go_sem,Bool.not_true,e8,ei,Nat.add_zero]
  repeat'((first|refine af.intro (by first|assumption|apply yD) ?_|refine ar.intro (by assumption) ?_)<;>simp only[go_sem])
  cases hC:lp s.id with
  |true=>
   have ah:=IG hv hC;simp only[ah]at ba
   try simp only[go_sem,fH]
   repeat'((first|refine af.intro (by first|assumption|apply EO) ?_|refine ar.intro (by assumption) ?_)<;>simp only[go_sem,e8,ei,fH,iz])
   try simp only[go_sem,I,jy,e8,ei,fH,iz,Nat.add_zero]
   repeat'(first|((first|refine af.ag (by assumption) ?_|refine ar.ag (by assumption) ?_|refine en ?_|refine a9 HD (by kernel_rfl) (by rfl) ?_)<;>simp only[go_sem,I,e8,ei,fH,iz,Nat.add_zero])|(with_reducible refine aq ?_)|fail)
   refine ba _ 11 (by decide) ?_ ?_ ?_<;>rfl
  |false=>
   have ah:=IH hv hC;simp only[ah]at ba
   try simp only[go_sem,fH]
   repeat'((first|refine af.intro (by first|assumption|apply EO) ?_|refine ar.intro (by assumption) ?_)<;>simp only[go_sem,e8,ei,fH,iz])
   try simp only[go_sem,I,jy,e8,ei,fH,iz,Nat.add_zero]
   repeat'(first|((first|refine af.ag (by assumption) ?_|refine ar.ag (by assumption) ?_|refine en ?_|refine a9 HD (by kernel_rfl) (by rfl) ?_)<;>simp only[go_sem,I,e8,ei,fH,iz,Nat.add_zero])|(with_reducible refine aq ?_)|fail)
   refine ba _ 11 (by decide) ?_ ?_ ?_<;>rfl
def jA(q:aI×Value):List D:=[.int .i64 q.1.number,.xf q.2]
theorem Wb(bX:List (aI×Value)):fv (bX.map jA)=true:=by
 simp only[fv,List.all_map,List.all_eq_true];intro q _;simp[jA,D.flat]
theorem Oy{h:Array Obj}{b:Nat}:∀(ps:List aI) (f:Nat) (G:List Nat),repE h true b f 2 (ps.map aI.enc) G→
  ∃(bX:List (aI×Value)) (iZ:List (List Nat)),bX.map (·.1)=ps∧repE h true b f 2 (bX.map jA) []∧iZ.length=bX.length∧G=iZ.flatten∧∀(j:Nat) (q:aI×Value) (F:List Nat),bX[j]?=some q→iZ[j]?=some F→rep h true (.sl 9 (q.1.frames.map al.enc)) q.2 F
 |[],f,G,r=>by simp only[List.map_nil,repE]at r;exact⟨[],[],rfl,by simp[repE],rfl,by simp[r],by simp⟩
 |p::ps,f,G,r=>by
  simp only[List.map_cons,repE]at r;obtain⟨bH,bA,rfl,_,aH,aZ⟩:=r;simp only[aI.enc,repC]at aH;obtain⟨l6,Oz,Wc,rfl,dv,eH,kY,OA,Wd,rfl,dD,gg,rfl⟩:=aH;obtain⟨bX,iZ,ai,aj,aT,bj,cr⟩:=Oy ps (f+2) bA aZ;have hA:Oz=[]:=by simp only[rep]at eH;exact eH.2.1
  subst hA;have E_:kY.oneCell'=true∧kY.cells=#[kY]:=by
   obtain⟨a,c,h1,_⟩:=(by simpa only[rep]using gg:∃a c,kY=.slice a (p.frames.map al.enc).length c∧_);rw[h1];exact⟨rfl,rfl⟩
  refine⟨(p,kY)::bX,OA::iZ,by simp[ai],?_,by simp[aT],by simp[bj],?_⟩
  ·simp only[List.map_cons,repE];refine⟨[],[],rfl,rfl,?_,aj⟩;simp only[jA,repC,rep];exact⟨l6,[],[],rfl,dv,by simpa only[rep]using eH,kY,[],[],rfl,dD,⟨rfl,rfl,E_.1,E_.2⟩,rfl⟩
  ·intro j q F hq bV
   cases j with
   |zero=>simp at hq bV;subst hq;subst bV;exact gg
   |succ j=>exact cr j q F (by simpa using hq) (by simpa using bV)
theorem Jh{h h':Array Obj}(hs:h.size≤h'.size){b:Nat}(g:aI→Bool):∀(bX:List (aI×Value)) (iZ:List (List Nat)) (f:Nat),iZ.length=bX.length→(∀x∈iZ.flatten,h'[x]?=h[x]?)→
  (∀(j:Nat) (q:aI×Value) (F:List Nat),bX[j]?=some q→iZ[j]?=some F→rep h true (.sl 9 (q.1.frames.map al.enc)) q.2 F)→repE h' true b f 2 ((bX.filter fun q=>g q.1).map jA) []→
  ∃G,G.Sublist iZ.flatten∧repE h' true b f 2 (((bX.map (·.1)).filter g).map aI.enc) G
 |[],iZ,f,hl,_,_,_=>⟨[],List.nil_sublist _,by simp[repE]⟩
 |q::bX,[],f,hl,_,_,_=>by simp at hl
 |q::bX,F::iZ,f,hl,cU,bV,r=>by
  have We:∀x∈F,h'[x]?=h[x]?:=fun x hx=>cU x (by simp[hx]);have OB:∀x∈iZ.flatten,h'[x]?=h[x]?:=fun x hx=>cU x (by rw[List.flatten_cons];exact List.mem_append_right _ hx);have OC:∀(j:Nat) (yL:aI×Value) (F':List Nat),bX[j]?=some yL→iZ[j]?=some F'→rep h true (.sl 9 (yL.1.frames.map al.enc)) yL.2 F':=fun j yL F' h1 h2=>bV (j+1) yL F' (by simpa using h1) (by simpa using h2);by_cases hg:g q.1=true
  ·rw[List.filter_cons_of_pos (by simpa using hg)]at r;simp only[List.map_cons,repE]at r;obtain⟨bH,bA,e,_,aH,aZ⟩:=r;obtain⟨rfl,rfl⟩:=List.append_eq_nil_iff.1 e.symm;obtain⟨G,c9,dc⟩:=Jh hs g bX iZ (f+2) (by simpa using hl) OB OC aZ;simp only[jA,repC,rep]at aH;obtain⟨l6,Oz,Wc,ai,dv,eH,kY,OA,Wd,aj,dD,gg,aT⟩:=aH;refine⟨F++G,by rw[List.flatten_cons];exact List.Sublist.append (List.Sublist.refl _) c9,?_⟩;rw[List.map_cons,List.filter_cons_of_pos (by simpa using hg),List.map_cons];simp only[repE];refine⟨F,G,rfl,rfl,?_,dc⟩;simp only[aI.enc,repC,rep];have hq:=bV 0 q F rfl rfl;refine⟨l6,[],F,rfl,dv,⟨eH.1,rfl,eH.2.2⟩,kY,F,[],by simp,dD,?_,rfl⟩;rw[gg.1];have:=Cc hs _ _ F We hq;simpa only[rep]using this
  ·rw[List.filter_cons_of_neg (by simpa using hg)]at r;obtain⟨G,c9,dc⟩:=Jh hs g bX iZ f (by simpa using hl) OB OC r;refine⟨G,by rw[List.flatten_cons];exact c9.trans (List.sublist_append_right _ _),?_⟩;rw[List.map_cons,List.filter_cons_of_neg (by simpa using hg)];exact dc
theorem Wf{P:Program}{f:FuncId}{kv:List V}{vs:List V}{V0:V}{ps:List aI}(g:aI→Bool)(id:Nat){hs hf:List H}{hr hr2:List (aI×Value)→List H}
  (dM:aN hs id=.ag 2 (ps.map aI.enc)) (ai:∀bX,aN (hr bX) id=.ao 2 (bX.map jA) true∧(hr bX).length=hs.length∧∀i,i≠id→aN (hr bX) i=aN hs i)
  (aj:∀bX,bX.map (·.1)=ps→aN (hr2 bX) id=.ao 2 ((bX.filter fun q=>g q.1).map jA) true∧(hr2 bX).length=hf.length∧∀i,i≠id→aN (hr2 bX) i=aN hf i) (aT:aN hf id=.ao 2 ((ps.filter g).map aI.enc) true)
  {K:V→List H→Prop} (E_:∀bX,bX.map (·.1)=ps→di P f kv (hr bX) vs (fun v hs'=>v=V0∧hs'=hr2 bX)) (hk:K V0 hf):di P f kv hs vs K:=by
 intro B w0 kp OD w bp Cd;obtain⟨aG,φ,r,bR⟩:=Cd;rcases r.hp id with hd|⟨β,Ak,Ce⟩
 ·rw[dM]at hd;cases hd
 rw[dM]at Ce;simp only[dG]at Ce;obtain⟨OE,Ce⟩:=Ce;have Ji:∀b∈β.cS,cN φ hs id b:=fun b hb=>⟨β,Ak,.inr ⟨by rw[dM];rfl,hb⟩⟩;have Wg:∀b,β.dP=some b→cN φ hs id b:=fun b hb=>⟨β,Ak,.inl ⟨by rw[dM];rfl,hb⟩⟩;have gF:=r.d_ id β Ak (by rw[show(⟨vs,hs⟩:St).heap=hs from rfl,dM];rfl);obtain⟨bX,iZ,hq,Cf,Wh,OF,Wi,ad0⟩:∃(bX:List (aI×Value)) (iZ:List (List Nat)),bX.map (·.1)=ps∧dG (cZ φ id {β with cS:=[]}) (b8 (cZ φ id {β with cS:=[]}) (hr bX)) w.heap {β with cS:=[]} (.ao 2 (bX.map jA) true)∧iZ.length=bX.length∧β.cS=iZ.flatten∧
   (∀(j:Nat) (q:aI×Value) (F:List Nat),bX[j]?=some q→iZ[j]?=some F→rep w.heap true (.sl 9 (q.1.frames.map al.enc)) q.2 F)∧True:=by
  rcases Ce with ⟨h1,h2,ak,aC⟩|⟨b,h1,h2,ak,aC⟩
  ·have hps:ps=[]:=List.map_eq_nil_iff.1 h2;exact⟨[],[],by simp[hps],by simp only[dG];exact⟨OE,.inl ⟨h1,rfl,ak,trivial⟩⟩,rfl,by simp[aC],by simp,trivial⟩
  ·obtain⟨bX,iZ,b5,cv,cm,dY,e4⟩:=Oy ps β.off β.cS aC;refine⟨bX,iZ,b5,?_,cm,dY,e4,trivial⟩;simp only[dG];refine⟨OE,.inr ⟨b,[],h1,?_,ak,cv,fun _=>rfl,fun q=>by cases q⟩⟩;have:(bX.map jA).length=(ps.map aI.enc).length:=by rw[I,I,←b5,I]
   rw[this];exact h2
 obtain⟨cF,bh,bI⟩:=ai bX
 let tH:b2:=cZ φ id {β with cS:=[]}
 have Cg:tH id=some {β with cS:=[]}:=by simp[tH,cZ]
 have Al:∀i,i≠id→tH i=φ i:=fun i hi=>by simp[tH,cZ,hi]
 have E':∀i b,cN tH (hr bX) i b→cN φ hs i b∧b∉β.cS:=by
  rintro i b ⟨a7,e,az⟩;by_cases hi:i=id
  ·subst hi;rw[Cg]at e;cases e;rw[cF]at az;rcases az with ⟨_,hb⟩|⟨_,hb⟩
   ·exact⟨Wg b hb,fun hn=>gF.2 b hb hn⟩
   ·cases hb
  ·rw[Al i hi]at e;rw[bI i hi]at az;refine⟨⟨a7,e,az⟩,fun hn=>hi (r.dy i id b ⟨a7,e,az⟩ (Ji b hn))⟩
 have aR:l7 φ tH:=fun i a7 e=>by
  by_cases hi:i=id
  ·subst hi;rw[Ak]at e;cases e;exact⟨_,Cg,rfl,rfl,rfl,rfl⟩
  ·exact⟨a7,by rw[Al i hi];exact e,rfl,rfl,rfl,rfl⟩
 have cw:∀b,b<w.heap.size→b8 φ hs b→b8 tH (hr bX) b:=by
  intro b _ ht i a7 e he;by_cases hi:i=id
  ·subst hi;rw[Cg]at e;cases e;rw[cF]at he;rcases he with ⟨_,he⟩|⟨he,_⟩
   ·exact ht i β Ak (.inl ⟨by rw[dM];rfl,he⟩)
   ·cases he
  ·rw[Al i hi]at e;rw[bI i hi]at he;exact ht i a7 e he
 have Jj:Am φ tH (b8 φ hs) (b8 tH (hr bX)) w.heap w.heap:=⟨aR,cw,fun _ _ _=>rfl,Nat.le_refl _⟩;have Wj:R (fun b=>B b∧b∉β.cS) w aG tH ⟨vs,hr bX⟩ kp ⟨OD.toArray,[]⟩ w:=by
  refine⟨sN Jj _ _ r.gB,fun p hp=>Ch Jj _ _ (r.kp p hp),fun i=>?_,fun i j b hi av=>r.dy i j b (E' i b hi).1 (E' j b av).1,fun i a7 e hx=>?_,fun i b az=>⟨r.ej i b (E' i b az).1,(E' i b az).2⟩,fun i a7 e=>?_,Bel.refl _ _,fun k hk=>⟨r.bs k hk,fun hn=>by have:=cN.lt r (Ji k hn);omega⟩,r.l8,⟨fun p hp h=>r.jS.1 p hp h.1,?_⟩⟩
  ·by_cases hi:i=id
   ·subst hi;exact .inr ⟨_,Cg,by rw[show(⟨vs,hr bX⟩:St).heap=hr bX from rfl,cF];exact Cf⟩
   ·simp only[bI i hi,Al i hi];rcases r.hp i with hd|⟨a7,e,i0⟩
    ·exact .inl hd
    ·exact .inr ⟨a7,e,Jk Jj i0 (fun _ _ _=>rfl) (fun _ _ _=>rfl)⟩
  ·by_cases hi:i=id
   ·subst hi;rw[Cg]at e;cases e;exact⟨List.nodup_nil,fun _ _ h=>by cases h⟩
   ·rw[Al i hi]at e;simp only[bI i hi]at hx;exact r.d_ i a7 e hx
  ·by_cases hi:i=id
   ·subst hi;exact r.f1 _ β Ak
   ·rw[Al i hi]at e;exact r.f1 i a7 e
  ·exact Ao.mono r.jS.2 fun p hp=>r.fg.block p.1 (r.jS.1 p hp)
 obtain⟨dh,c_,fK⟩:=aj bX hq;refine(E_ bX hq (fun b=>B b∧b∉β.cS) w kp OD w bp ⟨aG,tH,Wj,fun i hi=>by have:=bR i hi;simp only at this⊢;rw[bh];exact this⟩).mono ?_;rintro v w' ⟨x,hs',⟨rfl,rfl⟩,Wk,vN,aZ,Wl⟩;refine⟨x,hf,hk,?_⟩;have yM:∀b∈β.cS,w'.heap[b]?=w.heap[b]?:=fun b hb=>aZ.fg.block b fun h=>h.2 hb;rcases aZ.hp id with hd|⟨i1,Fa,Ci⟩
 ·rw[show(⟨[x],hr2 bX⟩:St).heap=hr2 bX from rfl,dh]at hd;cases hd
 rw[show(⟨[x],hr2 bX⟩:St).heap=hr2 bX from rfl,dh]at Ci;simp only[dG]at Ci;obtain⟨OG,Ci⟩:=Ci;obtain⟨xg,sO,Wm⟩:∃xg,xg.Sublist β.cS∧∀T,dG (cZ vN id {i1 with cS:=xg}) T w'.heap {i1 with cS:=xg} (.ao 2 ((ps.filter g).map aI.enc) true):=by
  rcases Ci with ⟨h1,h2,ak,aC⟩|⟨dO,bA,h1,h2,ak,aC,bL,eD⟩
  ·have hn:bX.filter (fun q=>g q.1)=[]:=List.map_eq_nil_iff.1 h2;have nV:ps.filter g=[]:=by rw[←hq,List.filter_map,show(g∘fun q:aI×Value=>q.1)=fun q=>g q.1 from rfl,hn];rfl
   exact⟨[],List.nil_sublist _,fun T=>by simp only[dG];exact⟨OG,.inl ⟨h1,by rw[nV];rfl,ak,trivial⟩⟩⟩
  ·have Jl:=Cj _ _ _ _ (Wb _) aC;subst Jl;obtain⟨G,c9,dc⟩:=Jh aZ.fg.size g bX iZ i1.off Wh (by rw[←OF];exact yM) Wi aC;refine⟨G,by rw[OF];exact c9,fun T=>?_⟩;simp only[dG];refine⟨OG,.inr ⟨dO,G,h1,?_,ak,by rw[←hq];exact dc,fun _=>rfl,fun q=>by cases q⟩⟩;have:((ps.filter g).map aI.enc).length=((bX.filter fun q=>g q.1).map jA).length:=by
    rw[I,I,←hq,List.filter_map,I];rfl
   rw[this];exact h2
 let uB:b2:=cZ vN id {i1 with cS:=xg}
 have Ck:uB id=some {i1 with cS:=xg}:=by simp[uB,cZ]
 have Ap:∀i,i≠id→uB i=vN i:=fun i hi=>by simp[uB,cZ,hi]
 have OH:∀b,i1.dP=some b→cN vN (hr2 bX) id b:=fun b hb=>⟨i1,Fa,.inl ⟨by rw[dh];rfl,hb⟩⟩;have Jm:∀i b,cN uB hf i b→cN vN (hr2 bX) i b∨(i=id∧b∈xg):=by
  rintro i b ⟨a7,e,az⟩;by_cases hi:i=id
  ·subst hi;rw[Ck]at e;cases e;rw[aT]at az;rcases az with ⟨_,hb⟩|⟨_,hb⟩
   ·exact .inl (OH b hb)
   ·exact .inr ⟨rfl,hb⟩
  ·rw[Ap i hi]at e;rw[←fK i hi]at az;exact .inl ⟨a7,e,az⟩
 have Fb:∀b∈xg,B b∧b∈β.cS:=fun b hb=>⟨r.ej id b (Ji b (sO.subset hb)),sO.subset hb⟩;have Wn:l7 vN uB:=fun i a7 e=>by
  by_cases hi:i=id
  ·subst hi;rw[Fa]at e;cases e;exact⟨_,Ck,rfl,rfl,rfl,rfl⟩
  ·exact⟨a7,by rw[Ap i hi];exact e,rfl,rfl,rfl,rfl⟩
 have Jn:∀b,b<w'.heap.size→b8 vN (hr2 bX) b→b8 uB hf b:=by
  intro b _ ht i a7 e he;by_cases hi:i=id
  ·subst hi;rw[Ck]at e;cases e;rw[aT]at he;rcases he with ⟨_,he⟩|⟨he,_⟩
   ·exact ht i i1 Fa (.inl ⟨by rw[show(⟨[x],hr2 bX⟩:St).heap=hr2 bX from rfl]at *;rw[dh];rfl,he⟩)
   ·cases he
  ·rw[Ap i hi]at e;rw[←fK i hi]at he;exact ht i a7 e he
 have Jo:Am vN uB (b8 vN (hr2 bX)) (b8 uB hf) w'.heap w'.heap:=⟨Wn,Jn,fun _ _ _=>rfl,Nat.le_refl _⟩;refine⟨Wk,uB,⟨sN Jo _ _ aZ.gB,fun p hp=>Ch Jo _ _ (aZ.kp p hp),fun i=>?_,fun i j b hi av=>?_,fun i a7 e hx=>?_,fun i b az=>?_,fun i a7 e=>?_,?_,fun k hk=>(aZ.bs k hk).1,aZ.l8,r.jS⟩,fun i hi=>by have:=Wl i hi;simp only at this⊢;rw[←c_];exact this⟩
 ·by_cases hi:i=id
  ·subst hi;exact .inr ⟨_,Ck,by rw[show(⟨[x],hf⟩:St).heap=hf from rfl,aT];exact Wm _⟩
  ·simp only[Ap i hi];rw[←fK i hi];rcases aZ.hp i with hd|⟨a7,e,i0⟩
   ·exact .inl hd
   ·exact .inr ⟨a7,e,Jk Jo i0 (fun _ _ _=>rfl) (fun _ _ _=>rfl)⟩
 ·rcases Jm i b hi with h1|⟨h1,au⟩<;>rcases Jm j b av with h2|⟨h2,hG⟩
  ·exact aZ.dy i j b h1 h2
  ·exact absurd (Fb b hG).2 (aZ.ej i b h1).2
  ·exact absurd (Fb b au).2 (aZ.ej j b h2).2
  ·exact h1.trans h2.symm
 ·by_cases hi:i=id
  ·subst hi;rw[Ck]at e;cases e;exact⟨sO.nodup gF.1,fun b hb hn=>(aZ.ej _ b (OH b hb)).2 (Fb b hn).2⟩
  ·rw[Ap i hi]at e;rw[show(⟨[x],hf⟩:St).heap=hf from rfl,←fK i hi]at hx;exact aZ.d_ i a7 e hx
 ·rcases Jm i b az with h1|⟨_,h1⟩
  ·exact(aZ.ej i b h1).1
  ·exact(Fb b h1).1
 ·by_cases hi:i=id
  ·subst hi;exact aZ.f1 _ i1 Fa
  ·rw[Ap i hi]at e;exact aZ.f1 i a7 e
 ·exact r.fg.trans (aZ.fg.mono fun _ h=>h.1)
set_option maxRecDepth 100000
def sP(x:J)(a b k:Nat):H:=.box (J.aK x (.sl a 0 x.streams.length) (.sl b 0 k))
set_option maxHeartbeats 8000000 in
theorem Wo(x:J)(n:Int)(bX:List (aI×Value))(hq:bX.length≤1000)(pre:List H)(kv:List V)(hr:dd pre.length pre)(bp:bf (pre.length+1) kv)(K:V→List H→Prop)
  (hk:K (.dB []) (pre++[sP x (pre.length+1) (pre.length+2) (bX.filter fun q=>!j3 n q.1).length,dX x,.ao 2 ((bX.filter fun q=>!j3 n q.1).map jA) true])) :
  di Tryz.prog 186 kv (pre++[sP x (pre.length+1) (pre.length+2) bX.length,dX x,.ao 2 (bX.map jA) true]) [.ptr pre.length 0 0,.d (.int .i64 n)] K:=by
 have Jp:∀l:List Nat,(List.range pre.length++pre.length::l).getD pre.length 0=pre.length:=fun l=>Oj _ _ _;refine di.see ?_;refine(el (n:=40) (rs:=[]) Tryz.func186 rfl Tryz.call186 Tryz.checked.mixed rfl rfl ?_);simp only[go_sem,sP,dX,e8];refine b9.intro (α:=Nat×List (aI×Value)) (fun y=>⟨[.ptr pre.length 0 0,.d (.int .i64 n),.ab,.ab,.sl (pre.length+3) 0 y.2.length,.d (.int .i64 y.1)]++List.replicate 34 .ab,pre++[sP x (pre.length+1) (pre.length+2) bX.length,dX x,.ao 2 (bX.map jA) true,.ao 2 (y.2.map jA) true]⟩)
  (fun y=>bX.length-y.1) (fun y=>y.1≤bX.length∧y.2=(bX.take y.1).filter fun q=>!j3 n q.1) (0,[]) (List.range pre.length++pre.length::[pre.length+1,pre.length+2,pre.length+3]) ⟨by simp,by simp⟩ ?_ ?_
 ·have aH:(List.range pre.length++[pre.length,pre.length+1,pre.length+2,pre.length+3]).getD (pre.length+1) 0=pre.length+1:=by rw[mB];rfl
  have aZ:(List.range pre.length++[pre.length,pre.length+1,pre.length+2,pre.length+3]).getD (pre.length+2) 0=pre.length+2:=by rw[mB];rfl
  have ca:(List.range pre.length++[pre.length,pre.length+1,pre.length+2,pre.length+3]).getD (pre.length+3) 0=pre.length+3:=by rw[mB];rfl
  refine Cl _ (by simp) (by simp) hr bp ?_ ?_ (by simp) ?_ ?_
  ·simp only[hsees,ei,fH,xh,xi,hsee,sP,dX,and_true];simp only[J.aK,vsees,vsee,ren,aH,aZ,and_self,List.map_nil]
  ·simp only[sP,J.aK,dX,kS,hok,bf,vok,List.length_cons,List.length_nil];simp
  ·simp only[List.replicate,bx,b1,vsees,vsee,ren,ca,Jp,and_self,List.length_nil,true_and];simp
  ·simp[bf,vok,List.replicate]
 ·rintro⟨i,out⟩ ⟨hi,az⟩;simp only at hi az;have ad1:out.length≤bX.length:=by rw[az];exact Nat.le_trans (List.length_filter_le _ _) (by simp;omega)
  simp only[List.replicate,bx,b1,sP,dX];by_cases h1:i<bX.length
  ·have au:decide ((i:Int)<(bX.length:Int))=true:=bk (by omega);have aB:=b4 jA bX i h1;have hw:IntKind.i64.wrap ((i:Int)+1)=((i+1:Nat):Int):=by rw[bE]<;>omega
   have hf:(bX.take (i+1)).filter (fun q=>!j3 n q.1)=out++(if !j3 n bX[i].1 then [bX[i]]else []):=by
    rw[List.take_add_one,dk h1,List.filter_append,←az]
    cases h:j3 n bX[i].1<;>simp[h]
   generalize bX[i]=q at *;simp only[go_sem,I,aJ,ei,fH,Nat.add_zero,au,aB,jA];refine⟨⟨by omega,by omega⟩,h1,?_⟩
   cases hb:decide (q.fst.number≠n)with
   |true=>
    have hg:(if !j3 n q.1 then [q]else [])=[q]:=by
     have:j3 n q.1=false:=by unfold j3;simpa using hb
     rw[this];rfl
    simp only[go_sem,I,aJ,e8,ei,fH,aB,jA];have Wp:(pre.length=pre.length+1)=False:=by simp
    simp only[Wp,if_false,go_sem];refine⟨⟨by omega,by omega⟩,h1,⟨by omega,by simp⟩,?_⟩;have aH:(List.range pre.length++[pre.length,pre.length+1,pre.length+2,pre.length+5]).getD (pre.length+1) 0=pre.length+1:=by rw[mB];rfl
    have aZ:(List.range pre.length++[pre.length,pre.length+1,pre.length+2,pre.length+5]).getD (pre.length+2) 0=pre.length+2:=by rw[mB];rfl
    have ca:(List.range pre.length++[pre.length,pre.length+1,pre.length+2,pre.length+5]).getD (pre.length+3) 0=pre.length+5:=by rw[mB];rfl
    try simp only[go_sem,e8]
    simp only[hw];refine bu.intro (i+1,out++[q]) (List.range pre.length++pre.length::[pre.length+1,pre.length+2,pre.length+5]) ⟨by simp only;omega,by simp only;rw[hf,hg];try simp⟩ (show bX.length-(i+1)<bX.length-i by omega) ?_;refine Cl _ (by simp) (by simp) hr bp ?_ ?_ (by simp) ?_ ?_
    ·simp only[hsees,ei,fH,xh,xi,hsee,and_true];simp only[vsees,vsee,ren,aH,aZ,and_self,List.map_nil,List.map_append,List.map_cons,jA]
    ·simp only[kS,hok,bf,vok,List.length_cons,List.length_nil];simp
    ·simp only[vsees,vsee,ren,ca,Jp,and_self,List.length_nil,List.length_append,List.length_cons]
    ·simp[bf,vok]
   |false=>
    have hg:(if !j3 n q.1 then [q]else [])=[]:=by
     have:j3 n q.1=true:=by unfold j3;simpa using hb
     rw[this];rfl
    have aH:(List.range pre.length++[pre.length,pre.length+1,pre.length+2,pre.length+3]).getD (pre.length+1) 0=pre.length+1:=by rw[mB];rfl
    have aZ:(List.range pre.length++[pre.length,pre.length+1,pre.length+2,pre.length+3]).getD (pre.length+2) 0=pre.length+2:=by rw[mB];rfl
    have ca:(List.range pre.length++[pre.length,pre.length+1,pre.length+2,pre.length+3]).getD (pre.length+3) 0=pre.length+3:=by rw[mB];rfl
    try simp only[go_sem]
    simp only[hw];refine bu.intro (i+1,out) (List.range pre.length++pre.length::[pre.length+1,pre.length+2,pre.length+3]) ⟨by simp only;omega,by simp only;rw[hf,hg];try simp⟩ (show bX.length-(i+1)<bX.length-i by omega) ?_;refine Cl _ (by simp) (by simp) hr bp ?_ ?_ (by simp) ?_ ?_
    ·simp only[hsees,ei,fH,xh,xi,hsee,and_true];simp only[vsees,vsee,ren,aH,aZ,and_self]
    ·simp only[kS,hok,bf,vok,List.length_cons,List.length_nil];simp
    ·simp only[vsees,vsee,ren,ca,Jp,and_self]
    ·simp[bf,vok]
  ·have au:decide ((i:Int)<(bX.length:Int))=false:=bb (by omega);obtain rfl:i=bX.length:=by omega
   rw[dK]at az;simp only[go_sem,fH,iz,au];have aH:(List.range pre.length++[pre.length,pre.length+1,pre.length+3]).getD (pre.length+1) 0=pre.length+1:=by rw[mB];rfl
   have aZ:(List.range pre.length++[pre.length,pre.length+1,pre.length+3]).getD (pre.length+2) 0=pre.length+3:=by rw[mB];rfl
   rw[←az]at hk;refine⟨_,.dB [],_,Cl [pre.length+1,pre.length+3] (by simp) (by simp) hr bp ?_ ?_ (by simp) (by simp[vsees,vsee,ren,rens]) (by simp[bf,vok]),hk⟩
   ·simp only[hsees,ei,fH,xh,xi,hsee,and_true,sP,dX];simp only[J.aK,vsees,vsee,ren,aH,aZ,and_self]
   ·simp only[J.aK,kS,hok,bf,vok,List.length_cons,List.length_nil,sP,dX];simp
theorem OI(pre:List H)(a b c:H)(i:Nat):aN (pre++[a,b,c]) i=if i<pre.length then aN pre i else aN [a,b,c] (i-pre.length):=by
 split
 ·simp only[aN,List.getD_eq_getElem?_getD,List.getElem?_append_left ‹_›]
 ·simp only[aN,List.getD_eq_getElem?_getD,List.getElem?_append_right (by omega:pre.length≤i)]
theorem Nj(x:J)(n:Int)(hq:x.packets.length≤1000)(pre:List H)(kv:List V)(hr:dd pre.length pre)(bp:bf (pre.length+1) kv)(K:V→List H→Prop)
  (hk:K (.dB []) (pre++dW (lS x n) pre.length (.ao 2 ((lS x n).packets.map aI.enc) true))) :
  di Tryz.prog 186 kv (pre++dW x pre.length (.ag 2 (x.packets.map aI.enc))) [.ptr pre.length 0 0,.d (.int .i64 n)] K:=by
 refine Wf (V0:=.dB []) (ps:=x.packets) (fun p=>!j3 n p) (pre.length+2)
  (hr:=fun bX=>pre++[sP x (pre.length+1) (pre.length+2) x.packets.length,dX x,.ao 2 (bX.map jA) true])
  (hr2:=fun bX=>pre++[sP x (pre.length+1) (pre.length+2) (lS x n).packets.length,dX x,.ao 2 ((bX.filter fun q=>!j3 n q.1).map jA) true])
  (hf:=pre++dW (lS x n) pre.length (.ao 2 ((lS x n).packets.map aI.enc) true)) ?_ ?_ ?_ ?_ ?_ hk
 ·simp only[dW,ei,xh,xi]
 ·intro bX;refine⟨by simp only[ei,xh,xi],by simp[dW],fun i hi=>?_⟩;simp only[dW,OI];split
  ·rfl
  ·obtain⟨j,rfl⟩:∃j,i=pre.length+j:=⟨i-pre.length,by omega⟩;rw[Nat.add_sub_cancel_left]
   match j,hi with
   |0,_=>rfl
   |1,_=>rfl
   |2,hi=>exact absurd rfl hi
   |j+3,_=>rfl
 ·intro bX Jq;refine⟨by simp only[ei,xh,xi],by simp[dW],fun i hi=>?_⟩;simp only[dW,OI];split
  ·rfl
  ·obtain⟨j,rfl⟩:∃j,i=pre.length+j:=⟨i-pre.length,by omega⟩;rw[Nat.add_sub_cancel_left]
   match j,hi with
   |0,_=>rfl
   |1,_=>rfl
   |2,hi=>exact absurd rfl hi
   |j+3,_=>rfl
 ·simp only[dW,ei,xh,xi];rfl
 ·intro bX Jq;have hl:bX.length=x.packets.length:=by rw[←Jq];simp
  have hf:(lS x n).packets=(bX.filter fun q=>!j3 n q.1).map (·.1):=by
   simp only[lS,←Jq,List.filter_map];rfl
  have:=Wo x n bX (by omega) pre kv hr bp (fun v hs'=>v=.dB []∧hs'=pre++[sP x (pre.length+1) (pre.length+2) (lS x n).packets.length,dX x,.ao 2 ((bX.filter fun q=>!j3 n q.1).map jA) true]) ⟨rfl,by rw[hf,I]⟩
  rwa [hl]at this
set_option maxRecDepth 100000
def TK:List (List bt):=cE 12 [511649,511647,511641,511744,511690,511515,511029,503010,448335,521599,478953,354294]
def TL:List (List bt):=cE 7 [2150,2148,2182,2164,2106,1944,1458]
attribute [go_sem] TK TL
theorem di.Aa{P:Program}{f:FuncId}{kv:List V}{hs hs':List H}{vs vs':List V}{K:V→List H→Prop}{ρ:List Nat}(h1:jQ kv ρ ⟨vs,hs⟩ ⟨vs',hs'⟩)(h:di P f kv hs' vs' K):di P f kv hs vs K:=
 fun B w0 kp us w bp aL=>h B w0 kp us w bp (B' bp h1 aL)
theorem TM(f:al):PureCall Tryz.prog 228 [.agg (al.enc f)] [.agg [.int .i64 f.offset,.str f.data,.bool f.ba]]:=by
 refine aP 10 Tryz.func228 Tryz.call228 [.cell 2 220] ?_;intro ok
 try simp only[go_sem]
def eX(x:J):H:=.ao 2 (x.packets.map aI.enc) true
def dL(n:Int)(l:List al):List H:=[.box J.bJ,.box [.d (.int .i64 n),.sl 2 0 l.length],.ao 9 (l.map al.enc) true]
def gE(k:Int):List V:=(aF 4 [.ptr 0 0 0,.ab,.ptr 3 0 0,.ptr 1 0 0,.ab,.d (.int .i64 k)])++List.replicate 32 .ab
set_option maxHeartbeats 8000000 in
theorem US(x:J)(f:al)(hx:iH x)(hs:eb (gm (aw x f.stream) f))(hd:f.data.length≤1000)(n k:Int)(l:List al)(K:V→List H→Prop)
  (hk:K (.dB []) (dL n l++dW (m9 x f) 3 (eX x))):di Tryz.prog 188 (gE k) (dL n l++dW x 3 (eX x)) [.ptr 3 0 0,.agg (al.bC f)] K:=by
 have cn:=kR x f.stream hx;have cH:=lY hx.2.1 f.stream;obtain⟨c9,dc,cB,de⟩:=cH;have wo:=cB;have cB:∀d9∈(bN x.streams f.stream).1.recv.buffer.bd,d9.data.length≤1048576:=fun d9 hc=>by have:=cB d9 hc;omega
 have a0:m9 x f=if(bN x.streams f.stream).2&&ke f.bn then dt x (gm (aw x f.stream) f)else x:=rfl
 rw[show aw x f.stream=(bN x.streams f.stream).1 from rfl]at a0 hs;obtain⟨s,s_⟩:∃s,s=(bN x.streams f.stream).1:=⟨_,rfl⟩;obtain⟨b,kM⟩:∃b,b=(bN x.streams f.stream).2:=⟨_,rfl⟩;rw[←s_,←kM]at cn;rw[←s_]at a0 hs c9 dc cB wo de;rw[←kM]at a0;clear s_ kM;have j4:=jq hx;have jb:x.streams.length≤1000:=by have:=hx.1;omega
 have jx:=hx.2.1;refine di.see ?_;refine(el (n:=52) (rs:=[]) Tryz.func188 rfl Tryz.call188 Tryz.checked.mixed rfl rfl ?_);simp only[go_sem,dL,gE,dW,dX,eP,eX,List.replicate,bx,b1]
 try simp only[go_sem,I]
 repeat'((first|refine af.ag (by assumption) ?_|refine ar.ag (by assumption) ?_|refine a8 ?_|refine a9 TK (by kernel_rfl) (by rfl) ?_)<;>simp only[go_sem,I])
 cases b with
 |false=>
  rw[Bool.false_and,if_neg (by simp)]at a0;rw[a0]at hk
  try simp only[go_sem,I]
  repeat'((first|refine af.intro (by assumption) ?_|refine ar.intro (by first|assumption|apply Cv) ?_|with_reducible refine dC ?_)<;>simp only[go_sem])
  refine⟨[0,1,2,3,4,5],.dB [],_,?_,hk⟩;simp only[go_sem,dL,dW,dX,eP,eX,bx,b1];simp
 |true=>
  rw[Bool.true_and]at a0
  try simp only[go_sem,I]
  repeat'((first|refine af.intro (by assumption) ?_|refine ar.intro (by first|assumption|apply Cv) ?_|with_reducible refine ct ?_)<;>simp only[go_sem])
  cases D8:ke f.bn with
  |false=>
   rw[D8,if_neg (by simp)]at a0;rw[a0]at hk
   try simp only[go_sem]
   refine⟨[0,1,2,3,4,5],.dB [],_,?_,hk⟩;simp only[go_sem,dL,dW,dX,eP,eX,bx,b1];simp
  |true=>
   rw[D8,if_pos rfl]at a0;rw[a0]at hk
   cases fI:decide (f.bn=8)with
   |true=>
    have aQ:gm s f=f0 s (xS s.send (zu f)):=by unfold gm;rw[if_pos (cl fI)]
    try simp only[go_sem,fI]
    repeat'((first|refine af.ag (by assumption) ?_|refine ar.ag (by first|assumption|apply TM|(apply acV<;>first|assumption|omega)) ?_|refine a9 TL (by kernel_rfl) (by rfl) ?_)<;>simp only[go_sem,I])
    refine af.gV [] (by simp only[gn,List.elem_nil,Nat.reduceAdd,cond_false];rfl) (di.Aa (ρ:=[0,1,2,3,4,5,12,13,14,15,16,11]) (hs':=dL n l++tm x (gm s f) 3 (eX x)) (vs':=[.ptr 3 0 0,.agg (om (gm s f) 3)]) ?_ (wu x (gm s f) (eX x) (fun _=>trivial) jb jx hs (dL n l) _ (by simp[dL,dd,db,bf,vok]) (by simp[dL,bf,vok]) _ ?_))
    ·simp only[go_sem,aQ,dL,tm,dW,dX,eP,eX,om,zE,bx,b1,f0,zu];simp
    ·simp only[go_sem];refine⟨[0,1,2,3,4,5],.dB [],_,?_,hk⟩;simp only[go_sem,dL,dW,dX,eP,eX,bx,b1];simp
   |false=>
    have u':=cG fI
    cases aC:decide (f.bn=4)with
    |true=>
     have aQ:gm s f={s with send:=Bi s.send,ho:=if zv s.send then false else s.ho}:=by unfold gm;rw[if_neg u',if_pos (cl aC)]
     try simp only[go_sem,I,fI,aC]
     repeat'((first|refine af.ag (by first|assumption|(apply acW<;>first|assumption|omega)) ?_|refine ar.ag (by assumption) ?_)<;>simp only[go_sem,I])
     cases GH:zv s.send with
     |true=>
      rw[GH,if_pos rfl]at aQ
      try simp only[go_sem,I]
      refine af.gV [] (by simp only[gn,List.elem_nil,Nat.reduceAdd,cond_false];rfl) (di.Aa (ρ:=[0,1,2,3,4,5,12,13,14,15,16,11]) (hs':=dL n l++tm x (gm s f) 3 (eX x)) (vs':=[.ptr 3 0 0,.agg (om (gm s f) 3)]) ?_ (wu x (gm s f) (eX x) (fun _=>trivial) jb jx hs (dL n l) _ (by simp[dL,dd,db,bf,vok]) (by simp[dL,bf,vok]) _ ?_))
      ·simp only[go_sem,aQ,dL,tm,dW,dX,eP,eX,om,zE,bx,b1];simp
      ·simp only[go_sem];refine⟨[0,1,2,3,4,5],.dB [],_,?_,hk⟩;simp only[go_sem,dL,dW,dX,eP,eX,bx,b1];simp
     |false=>
      rw[GH,if_neg (by simp)]at aQ
      try simp only[go_sem,I]
      refine af.gV [] (by simp only[gn,List.elem_nil,Nat.reduceAdd,cond_false];rfl) (di.Aa (ρ:=[0,1,2,3,4,5,12,13,14,15,16,11]) (hs':=dL n l++tm x (gm s f) 3 (eX x)) (vs':=[.ptr 3 0 0,.agg (om (gm s f) 3)]) ?_ (wu x (gm s f) (eX x) (fun _=>trivial) jb jx hs (dL n l) _ (by simp[dL,dd,db,bf,vok]) (by simp[dL,bf,vok]) _ ?_))
      ·simp only[go_sem,aQ,dL,tm,dW,dX,eP,eX,om,zE,bx,b1];simp
      ·simp only[go_sem];refine⟨[0,1,2,3,4,5],.dB [],_,?_,hk⟩;simp only[go_sem,dL,dW,dX,eP,eX,bx,b1];simp
    |false=>
     have n2:=cG aC
     cases bL:decide (f.bn=5)with
     |true=>
      have aQ:gm s f={s with hH:=false}:=by unfold gm;rw[if_neg u',if_neg n2,if_pos (cl bL)]
      try simp only[go_sem,I,fI,aC,bL]
      refine af.gV [] (by simp only[gn,List.elem_nil,Nat.reduceAdd,cond_false];rfl) (di.Aa (ρ:=[0,1,2,3,4,5,12,7,8,9,10,11]) (hs':=dL n l++tm x (gm s f) 3 (eX x)) (vs':=[.ptr 3 0 0,.agg (om (gm s f) 3)]) ?_ (wu x (gm s f) (eX x) (fun _=>trivial) jb jx hs (dL n l) _ (by simp[dL,dd,db,bf,vok]) (by simp[dL,bf,vok]) _ ?_))
      ·simp only[go_sem,aQ,dL,tm,dW,dX,eP,eX,om,zE,bx,b1];simp
      ·simp only[go_sem];refine⟨[0,1,2,3,4,5],.dB [],_,?_,hk⟩;simp only[go_sem,dL,dW,dX,eP,eX,bx,b1];simp
     |false=>
      have aQ:gm s f=s:=by unfold gm;rw[if_neg u',if_neg n2,if_neg (cG bL)]
      try simp only[go_sem,I,fI,aC,bL]
      refine af.gV [] (by simp only[gn,List.elem_nil,Nat.reduceAdd,cond_false];rfl) (di.Aa (ρ:=[0,1,2,3,4,5,12,7,8,9,10,11]) (hs':=dL n l++tm x (gm s f) 3 (eX x)) (vs':=[.ptr 3 0 0,.agg (om (gm s f) 3)]) ?_ (wu x (gm s f) (eX x) (fun _=>trivial) jb jx hs (dL n l) _ (by simp[dL,dd,db,bf,vok]) (by simp[dL,bf,vok]) _ ?_))
      ·simp only[go_sem,aQ,dL,tm,dW,dX,eP,eX,om,zE,bx,b1];simp
      ·simp only[go_sem];refine⟨[0,1,2,3,4,5],.dB [],_,?_,hk⟩;simp only[go_sem,dL,dW,dX,eP,eX,bx,b1];simp
set_option maxRecDepth 100000
def TN:List (List bt):=cE 12 [511649,511647,511641,511744,511690,511515,511029,503010,448335,521599,478953,354294]
def TO:List (List bt):=cE 7 [2150,2148,2182,2164,2106,1944,1458]
def BA:List (List bt):=cE 10 [57956,58804,58798,58780,58726,58927,58321,56862,52488,39366]
attribute [go_sem] TN TO BA
set_option maxHeartbeats 8000000 in
theorem UU(x:J)(f:al)(hx:iH x)(hs:eb (kJ (aw x f.stream) f))(hd:f.data.length≤1000)(n k:Int)(l:List al)(K:V→List H→Prop)
  (hk:K (.dB []) (dL n l++dW (m' x f) 3 (eX x))):di Tryz.prog 187 (gE k) (dL n l++dW x 3 (eX x)) [.ptr 3 0 0,.agg (al.bC f)] K:=by
 have cn:=kR x f.stream hx;have cH:=lY hx.2.1 f.stream;obtain⟨c9,dc,cB,de⟩:=cH;have wo:=cB;have cB:∀d9∈(bN x.streams f.stream).1.recv.buffer.bd,d9.data.length≤1048576:=fun d9 hc=>by have:=cB d9 hc;omega
 have a0:m' x f=if f.bn=16 then {x with vQ:=true}else if f.bn=18 then(if f.fc then {x with mI:=true}else {x with mH:=true})else if(bN x.streams f.stream).2&&ke f.bn then jV x (kJ (aw x f.stream) f)else x:=rfl
 rw[show aw x f.stream=(bN x.streams f.stream).1 from rfl]at a0 hs;obtain⟨s,s_⟩:∃s,s=(bN x.streams f.stream).1:=⟨_,rfl⟩;obtain⟨b,kM⟩:∃b,b=(bN x.streams f.stream).2:=⟨_,rfl⟩;rw[←s_,←kM]at cn;rw[←s_]at a0 hs c9 dc cB wo de;rw[←kM]at a0;clear s_ kM;have j4:=jq hx;have jb:x.streams.length≤1000:=by have:=hx.1;omega
 have jx:=hx.2.1;refine di.see ?_;refine(el (n:=75) (rs:=[]) Tryz.func187 rfl Tryz.call187 Tryz.checked.mixed rfl rfl ?_);simp only[go_sem,dL,gE,dW,dX,eP,eX,List.replicate,bx,b1]
 cases kz:decide (f.bn=16)with
 |true=>
  rw[if_pos (cl kz)]at a0;rw[a0]at hk
  try simp only[go_sem]
  refine⟨[0,1,2,3,4,5],.dB [],_,?_,hk⟩;simp only[go_sem,dL,dW,dX,eP,eX,bx,b1];simp
 |false=>
  rw[if_neg (cG kz)]at a0
  cases iL:decide (f.bn=18)with
  |true=>
   rw[if_pos (cl iL)]at a0
   cases hu:f.fc with
   |true=>
    rw[hu,if_pos rfl]at a0;rw[a0]at hk
    try simp only[go_sem,iL]
    refine⟨[0,1,2,3,4,5],.dB [],_,?_,hk⟩;simp only[go_sem,dL,dW,dX,eP,eX,bx,b1];simp
   |false=>
    rw[hu,if_neg (by simp)]at a0;rw[a0]at hk
    try simp only[go_sem,iL]
    refine⟨[0,1,2,3,4,5],.dB [],_,?_,hk⟩;simp only[go_sem,dL,dW,dX,eP,eX,bx,b1];simp
  |false=>
   rw[if_neg (cG iL)]at a0
   try simp only[go_sem,iL]
   repeat'((first|refine af.ag (by assumption) ?_|refine ar.ag (by assumption) ?_|refine a8 ?_|refine a9 TN (by kernel_rfl) (by rfl) ?_|fail)<;>simp only[go_sem,I])
   cases b with
   |false=>
    rw[Bool.false_and,if_neg (by simp)]at a0;rw[a0]at hk
    try simp only[go_sem,I]
    repeat'((first|refine af.intro (by assumption) ?_|refine ar.intro (by first|assumption|apply Cv) ?_|with_reducible refine dC ?_)<;>simp only[go_sem])
    refine⟨[0,1,2,3,4,5],.dB [],_,?_,hk⟩;simp only[go_sem,dL,dW,dX,eP,eX,bx,b1];simp
   |true=>
    rw[Bool.true_and]at a0
    try simp only[go_sem,I]
    repeat'((first|refine af.intro (by assumption) ?_|refine ar.intro (by first|assumption|apply Cv) ?_|with_reducible refine ct ?_)<;>simp only[go_sem])
    cases D8:ke f.bn with
    |false=>
     rw[D8,if_neg (by simp)]at a0;rw[a0]at hk
     try simp only[go_sem]
     refine⟨[0,1,2,3,4,5],.dB [],_,?_,hk⟩;simp only[go_sem,dL,dW,dX,eP,eX,bx,b1];simp
    |true=>
     rw[D8,if_pos rfl]at a0;rw[a0]at hk
     cases fI:decide (f.bn=8)with
     |true=>
      have aQ:kJ s f=f0 s (wA s.send (zu f)):=by unfold kJ;rw[if_pos (cl fI)]
      try simp only[go_sem,fI]
      repeat'((first|refine af.ag (by assumption) ?_|refine ar.ag (by first|assumption|apply TM|(apply acX<;>first|assumption|omega)) ?_|refine a9 TO (by kernel_rfl) (by rfl) ?_|fail)<;>simp only[go_sem,I])
      have gU:=kr x.streams (f0 s (wA s.send (zu f))) jb jx (aQ▸hs)
      try simp only[go_sem,I]
      repeat'((first|refine af.ag (by assumption) ?_|refine ar.ag (by assumption) ?_|refine a9 BA (by kernel_rfl) (by rfl) ?_|fail)<;>simp only[go_sem,I])
      refine⟨[0,1,2,3,17,5],.dB [],_,?_,hk⟩;simp only[go_sem,aQ,dL,dW,dX,eP,eX,jV,bx,b1,f0,zu];simp
     |false=>
      have u':=cG fI
      cases aC:decide (f.bn=4)with
      |true=>
       have aQ:kJ s f={s with ho:=decide (s.send.state=4)}:=by unfold kJ;rw[if_neg u',if_pos (cl aC)]
       try simp only[go_sem,fI,aC]
       have gU:=kr x.streams ({s with ho:=decide (s.send.state=4)}) jb jx (aQ▸hs)
       try simp only[go_sem,I]
       repeat'((first|refine af.ag (by assumption) ?_|refine ar.ag (by assumption) ?_|refine a9 BA (by kernel_rfl) (by rfl) ?_|fail)<;>simp only[go_sem,I])
       refine⟨[0,1,2,3,13,5],.dB [],_,?_,hk⟩;simp only[go_sem,aQ,dL,dW,dX,eP,eX,jV,bx,b1];simp
      |false=>
       have n2:=cG aC
       cases bL:decide (f.bn=5)with
       |true=>
        have aQ:kJ s f={s with hH:=decide (s.recv.state<2)}:=by unfold kJ;rw[if_neg u',if_neg n2,if_pos (cl bL)]
        try simp only[go_sem,fI,aC,bL]
        have gU:=kr x.streams ({s with hH:=decide (s.recv.state<2)}) jb jx (aQ▸hs)
        try simp only[go_sem,I]
        repeat'((first|refine af.ag (by assumption) ?_|refine ar.ag (by assumption) ?_|refine a9 BA (by kernel_rfl) (by rfl) ?_|fail)<;>simp only[go_sem,I])
        refine⟨[0,1,2,3,13,5],.dB [],_,?_,hk⟩;simp only[go_sem,aQ,dL,dW,dX,eP,eX,jV,bx,b1];simp
       |false=>
        have GD:=cG bL
        cases ta:decide (f.bn=17)with
        |true=>
         have aQ:kJ s f={s with kb:=true}:=by unfold kJ;rw[if_neg u',if_neg n2,if_neg GD,if_pos (cl ta)]
         try simp only[go_sem,fI,aC,bL,ta]
         have gU:=kr x.streams ({s with kb:=true}) jb jx (aQ▸hs)
         try simp only[go_sem,I]
         repeat'((first|refine af.ag (by assumption) ?_|refine ar.ag (by assumption) ?_|refine a9 BA (by kernel_rfl) (by rfl) ?_|fail)<;>simp only[go_sem,I])
         refine⟨[0,1,2,3,13,5],.dB [],_,?_,hk⟩;simp only[go_sem,aQ,dL,dW,dX,eP,eX,jV,bx,b1];simp
        |false=>
         have aQ:kJ s f=s:=by unfold kJ;rw[if_neg u',if_neg n2,if_neg GD,if_neg (cG ta)]
         try simp only[go_sem,fI,aC,bL,ta]
         have gU:=kr x.streams (s) jb jx (aQ▸hs)
         try simp only[go_sem,I]
         repeat'((first|refine af.ag (by assumption) ?_|refine ar.ag (by assumption) ?_|refine a9 BA (by kernel_rfl) (by rfl) ?_|fail)<;>simp only[go_sem,I])
         refine⟨[0,1,2,3,13,5],.dB [],_,?_,hk⟩;simp only[go_sem,aQ,dL,dW,dX,eP,eX,jV,bx,b1];simp
set_option maxRecDepth 100000
set_option maxHeartbeats 2000000 in
theorem Nh(c:J)(n:Int)(hz:iH c):PureCall Tryz.prog 185 [.agg (J.enc c),.one (.int .i64 n)] [.agg [.int .i64 ((j2 c.packets n).1).number,.sl 9 (((j2 c.packets n).1).frames.map al.enc)],.one (.bool (j2 c.packets n).2)]:=by
 refine aP 33 Tryz.func185 Tryz.call185 [.cell 4 92,.tmp 5] ?_;intro ok;have hm:c.packets.length≤30:=hz.2.2.1;have H0:=hz.2.2.2;clear ok;simp only[go_sem];refine b9.intro (fun i:Nat=>⟨(.ab::.d (.int .i64 n)::.ptr 0 0 0::.ab::.ptr 1 0 0::.d (.bool false)::.d (.int .i64 i)::aF 26 []),[.box (J.bC c),.box [.d (.int .i64 0),.c6 9]]⟩)
   (fun i=>c.packets.length-i) (fun i=>i≤c.packets.length∧(c.packets.take i).any (j3 n)=false) 0 [0,1] ⟨by omega,by simp⟩ ?_ ?_
 ·simp only[go_sem];simp
 ·rintro i ⟨hi,he⟩;by_cases h1:i<c.packets.length
  ·have au:decide ((i:Int)<(c.packets.length:Int))=true:=bk (by omega);have aB:=b4 aI.enc c.packets i h1;have hw:IntKind.i64.wrap ((i:Int)+1)=((i+1:Nat):Int):=by rw[bE]<;>omega
   have gM:c.packets[i].frames.length≤500:=(H0 _ (List.getElem_mem h1)).1;simp only[aI.enc]at aB
   cases hq:decide (c.packets[i].number=n)with
   |true=>
    have hf:=Ex (j3 n) c.packets i h1 he hq;have nM:=cl hq
    try simp only[go_sem,I,aJ,aB,au,hq]
    repeat'(first|(with_reducible refine aq ?_)|fail)
    all_goals simp[j2,hf,nM]
   |false=>
    try simp only[go_sem,I,aJ,aB,au,hq]
    repeat'(first|(with_reducible refine aq ?_)|fail)
    refine bu.intro (i+1) [0,1] ⟨by omega,zX _ c.packets i h1 he hq⟩ (by omega) ?_;simp only[go_sem,hw];simp
  ·have au:decide ((i:Int)<(c.packets.length:Int))=false:=bb (by omega);obtain rfl:i=c.packets.length:=by omega
   rw[dK]at he;have hf:=H2 _ _ he
   try simp only[go_sem,I,au]
   simp[j2,hf]
theorem Ni(c:J)(n:Int):(bif !iS c then true else !(j2 c.packets n).2)=!lR c n:=by
 unfold lR
 cases iS c<;>cases(j2 c.packets n).2<;>rfl
set_option maxHeartbeats 8000000 in
theorem UQ(c:J)(n:Int)(m:Nat)(hv:bZ m c)(hm:m≤20):PureCall Tryz.prog 146 [.agg (J.enc c),.one (.int .i64 n)] [.agg (J.enc ((yp c n))),.one (.bool (lR c n))]:=by
 refine ui 42 Tryz.func146 Tryz.call146 [.cell 4 37,.tmp 5] ?_;intro ok;clear ok;have hz:=hv.sz hm;have j4:=jq hz;have br:=Ni c n;have a0:yp c n=if lR c n then(j2 c.packets n).1.frames.foldl m9 (lS c n)else c:=rfl
 have gU:=Nh c n hz;have H3:lR c n=true→(j2 c.packets n).1∈c.packets:=by
  intro h;simp only[lR,Bool.and_eq_true]at h;have h2:=h.2;unfold j2 at h2⊢;split
  ·rename_i p hp;exact List.mem_of_find?_eq_some hp
  ·rename_i hp;rw[hp]at h2;cases h2
 generalize (j2 c.packets n).2=UR at *;generalize (j2 c.packets n).1=p at *;refine eu Tryz.checked.mixed 4 (α:=Unit) (fun _=>⟨(.ab::.d (.int .i64 n)::.ab::.ab::.ptr 0 0 0::.ab::.ptr 3 0 0::.ptr 1 0 0::aF 34 []),[.box J.bJ,.box [.d (.int .i64 p.number),.sl 2 0 p.frames.length],.ag 9 (p.frames.map al.enc),.box (J.aK c (.sl 4 0 c.streams.length) (.sl 5 0 c.packets.length)),.ag 39 (c.streams.map ae.enc),.ag 2 (c.packets.map aI.enc)]⟩) (fun _=>lR c n=true) ?_ ?_
 ·skip
  try simp only[go_sem]
  repeat'((first|refine af.ag (by first|assumption|(apply gf<;>first|assumption|omega)) ?_|refine ar.ag (by assumption) ?_)<;>simp only[go_sem,I])
  try simp only[go_sem,I]
  repeat'((first|refine af.intro (by first|assumption|(apply uj<;>first|assumption|omega)) ?_|refine ar.intro (by assumption) ?_|refine a8 ?_)<;>simp only[go_sem])
  rw[br]
  cases hg:lR c n with
  |false=>
   rw[hg,if_neg (by simp)]at a0
   try simp only[go_sem,I,Bool.not_false]
   repeat'(first|(with_reducible refine aq ?_)|fail)
   simp[a0]
  |true=>
   simp only[go_sem,Bool.not_true];refine dp.intro () [1,6,5,4,2,3] (by first|exact hg|trivial) ?_;simp only[go_sem];simp
 rintro _ hg;rw[hg,if_pos rfl]at a0;refine H4 2 rfl ?_;simp only[b3];have BM:=Ey hv n;obtain⟨y,hy⟩:∃y,y=lS c n:=⟨_,rfl⟩;rw[←hy]at a0 BM;refine eu Tryz.checked.mixed 1 (α:=Unit) (fun _=>⟨(aF 4 (.ptr 0 0 0::.ab::.ptr 3 0 0::.ptr 1 0 0::aF 34 [])),[.box J.bJ,.box [.d (.int .i64 p.number),.sl 2 0 p.frames.length],.ao 9 (p.frames.map al.enc) true,.box (J.aK y (.sl 4 0 y.streams.length) (.sl 5 0 y.packets.length)),.ag 39 (y.streams.map ae.enc),.ao 2 (y.packets.map aI.enc) true]⟩) (fun _=>True) ?_ ?_
 ·simp only[go_sem];refine af.gV [4,6,7] (by simp only[gn,List.elem_cons,List.elem_nil,Nat.reduceBEq,Nat.reduceAdd,cond_true,cond_false];rfl) (Nj c n (by have:=hz.2.2.1;omega) (dL p.number p.frames) _ (by simp[dL,dd,db,bf,vok]) (by simp[dL,bf,vok]) _ ?_);rw[←hy];simp only[dL,dW,dX,eP,go_sem,bx,b1];refine dp.intro () [0,1,2,3,4,5] trivial ?_;simp only[go_sem];simp
 rintro _ _;refine jr Tryz.checked.mixed ?_;have wU:=hz.2.2.2 p (H3 hg)
 try simp only[go_sem]
 refine b9.intro (α:=Nat×J) (fun q=>⟨(aF 4 (.ptr 0 0 0::.ab::.ptr 3 0 0::.ptr 1 0 0::.ab::.d (.int .i64 q.1)::aF 32 [])),[.box J.bJ,.box [.d (.int .i64 p.number),.sl 2 0 p.frames.length],.ao 9 (p.frames.map al.enc) true,.box (J.aK q.2 (.sl 4 0 q.2.streams.length) (.sl 5 0 q.2.packets.length)),.ag 39 (q.2.streams.map ae.enc),.ao 2 (q.2.packets.map aI.enc) true]⟩)
  (fun q=>p.frames.length-q.1) (fun q=>q.1≤p.frames.length∧q.2=(p.frames.take q.1).foldl m9 y) (0,y) [0,1,2,3,4,5] ⟨by simp,by simp⟩ ?_ ?_
 ·simp only[go_sem];simp
 ·rintro⟨i,z⟩ ⟨hi,tr⟩;simp only at hi tr;have BN:bZ m z:=by rw[tr];exact BO (fun c f h=>Nk h f) _ _ BM
  by_cases h1:i<p.frames.length
  ·have au:decide ((i:Int)<(p.frames.length:Int))=true:=bk (by omega);have aB:=b4 al.enc p.frames i h1;have fz:=wU.1;have hw:IntKind.i64.wrap ((i:Int)+1)=((i+1:Nat):Int):=by rw[bE]<;>omega
   have BP:=wU.2 _ (List.getElem_mem h1);have cD:(p.frames.take (i+1)).foldl m9 y=m9 z p.frames[i]:=by
    rw[List.take_add_one,dk h1,List.foldl_append,←tr];rfl
   generalize p.frames[i]=f at *
   try simp only[go_sem,I,aJ,aB,al.enc,au]
   repeat'(first|(with_reducible refine aq ?_)|fail)
   have m_:(m9 z f).packets=z.packets:=by
    unfold m9;split
    ·exact(yq z _).2
    ·rfl
   refine af.gV [4,6,7,9] (by simp only[gn,List.elem_cons,List.elem_nil,Nat.reduceBEq,Nat.reduceAdd,cond_true,cond_false];rfl) (US z f (BN.sz hm) ((Nl (BN.aw _) f).sz hm) (by omega) p.number i p.frames _ ?_);simp only[dL,dW,dX,eP,eX,go_sem,bx,b1];refine bu.intro (i+1,m9 z f) [0,1,2,3,4,5] ⟨by simp only;omega,by simp only;rw[cD]⟩ (show p.frames.length-(i+1)<p.frames.length-i by omega) ?_;simp only[go_sem,hw];simp[m_]
  ·have au:decide ((i:Int)<(p.frames.length:Int))=false:=bb (by omega);obtain rfl:i=p.frames.length:=by omega
   rw[dK]at tr
   try simp only[go_sem,I,au]
   repeat'(first|(with_reducible refine aq ?_)|fail)
   simp[a0,←tr,hg]
set_option maxRecDepth 100000
set_option maxHeartbeats 8000000 in
theorem UT(c:J)(n:Int)(m:Nat)(hv:bZ m c)(hm:m≤20):PureCall Tryz.prog 145 [.agg (J.enc c),.one (.int .i64 n)] [.agg (J.enc ((yr c n))),.one (.bool (lR c n))]:=by
 refine ui 42 Tryz.func145 Tryz.call145 [.cell 4 37,.tmp 5] ?_;intro ok;clear ok;have hz:=hv.sz hm;have j4:=jq hz;have br:=Ni c n;have a0:yr c n=if lR c n then(j2 c.packets n).1.frames.foldl m' (lS c n)else c:=rfl
 have gU:=Nh c n hz;have H3:lR c n=true→(j2 c.packets n).1∈c.packets:=by
  intro h;simp only[lR,Bool.and_eq_true]at h;have h2:=h.2;unfold j2 at h2⊢;split
  ·rename_i p hp;exact List.mem_of_find?_eq_some hp
  ·rename_i hp;rw[hp]at h2;cases h2
 generalize (j2 c.packets n).2=UR at *;generalize (j2 c.packets n).1=p at *;refine eu Tryz.checked.mixed 4 (α:=Unit) (fun _=>⟨(.ab::.d (.int .i64 n)::.ab::.ab::.ptr 0 0 0::.ab::.ptr 3 0 0::.ptr 1 0 0::aF 34 []),[.box J.bJ,.box [.d (.int .i64 p.number),.sl 2 0 p.frames.length],.ag 9 (p.frames.map al.enc),.box (J.aK c (.sl 4 0 c.streams.length) (.sl 5 0 c.packets.length)),.ag 39 (c.streams.map ae.enc),.ag 2 (c.packets.map aI.enc)]⟩) (fun _=>lR c n=true) ?_ ?_
 ·skip
  try simp only[go_sem]
  repeat'((first|refine af.ag (by first|assumption|(apply gf<;>first|assumption|omega)) ?_|refine ar.ag (by assumption) ?_)<;>simp only[go_sem,I])
  try simp only[go_sem,I]
  repeat'((first|refine af.intro (by first|assumption|(apply uj<;>first|assumption|omega)) ?_|refine ar.intro (by assumption) ?_|refine a8 ?_)<;>simp only[go_sem])
  rw[br]
  cases hg:lR c n with
  |false=>
   rw[hg,if_neg (by simp)]at a0
   try simp only[go_sem,I,Bool.not_false]
   repeat'(first|(with_reducible refine aq ?_)|fail)
   simp[a0]
  |true=>
   simp only[go_sem,Bool.not_true];refine dp.intro () [1,6,5,4,2,3] (by first|exact hg|trivial) ?_;simp only[go_sem];simp
 rintro _ hg;rw[hg,if_pos rfl]at a0;refine H4 2 rfl ?_;simp only[b3];have BM:=Ey hv n;obtain⟨y,hy⟩:∃y,y=lS c n:=⟨_,rfl⟩;rw[←hy]at a0 BM;refine eu Tryz.checked.mixed 1 (α:=Unit) (fun _=>⟨(aF 4 (.ptr 0 0 0::.ab::.ptr 3 0 0::.ptr 1 0 0::aF 34 [])),[.box J.bJ,.box [.d (.int .i64 p.number),.sl 2 0 p.frames.length],.ao 9 (p.frames.map al.enc) true,.box (J.aK y (.sl 4 0 y.streams.length) (.sl 5 0 y.packets.length)),.ag 39 (y.streams.map ae.enc),.ao 2 (y.packets.map aI.enc) true]⟩) (fun _=>True) ?_ ?_
 ·simp only[go_sem];refine af.gV [4,6,7] (by simp only[gn,List.elem_cons,List.elem_nil,Nat.reduceBEq,Nat.reduceAdd,cond_true,cond_false];rfl) (Nj c n (by have:=hz.2.2.1;omega) (dL p.number p.frames) _ (by simp[dL,dd,db,bf,vok]) (by simp[dL,bf,vok]) _ ?_);rw[←hy];simp only[dL,dW,dX,eP,go_sem,bx,b1];refine dp.intro () [0,1,2,3,4,5] trivial ?_;simp only[go_sem];simp
 rintro _ _;refine jr Tryz.checked.mixed ?_;have wU:=hz.2.2.2 p (H3 hg)
 try simp only[go_sem]
 refine b9.intro (α:=Nat×J) (fun q=>⟨(aF 4 (.ptr 0 0 0::.ab::.ptr 3 0 0::.ptr 1 0 0::.ab::.d (.int .i64 q.1)::aF 32 [])),[.box J.bJ,.box [.d (.int .i64 p.number),.sl 2 0 p.frames.length],.ao 9 (p.frames.map al.enc) true,.box (J.aK q.2 (.sl 4 0 q.2.streams.length) (.sl 5 0 q.2.packets.length)),.ag 39 (q.2.streams.map ae.enc),.ao 2 (q.2.packets.map aI.enc) true]⟩)
  (fun q=>p.frames.length-q.1) (fun q=>q.1≤p.frames.length∧q.2=(p.frames.take q.1).foldl m' y) (0,y) [0,1,2,3,4,5] ⟨by simp,by simp⟩ ?_ ?_
 ·simp only[go_sem];simp
 ·rintro⟨i,z⟩ ⟨hi,tr⟩;simp only at hi tr;have BN:bZ m z:=by rw[tr];exact BO (fun c f h=>Nm h f) _ _ BM
  by_cases h1:i<p.frames.length
  ·have au:decide ((i:Int)<(p.frames.length:Int))=true:=bk (by omega);have aB:=b4 al.enc p.frames i h1;have fz:=wU.1;have hw:IntKind.i64.wrap ((i:Int)+1)=((i+1:Nat):Int):=by rw[bE]<;>omega
   have BP:=wU.2 _ (List.getElem_mem h1);have cD:(p.frames.take (i+1)).foldl m' y=m' z p.frames[i]:=by
    rw[List.take_add_one,dk h1,List.foldl_append,←tr];rfl
   generalize p.frames[i]=f at *
   try simp only[go_sem,I,aJ,aB,al.enc,au]
   repeat'(first|(with_reducible refine aq ?_)|fail)
   have m_:(m' z f).packets=z.packets:=by
    unfold m'
    repeat' split
    all_goals rfl
   refine af.gV [4,6,7,9] (by simp only[gn,List.elem_cons,List.elem_nil,Nat.reduceBEq,Nat.reduceAdd,cond_true,cond_false];rfl) (UU z f (BN.sz hm) ((Nn (BN.aw _) f).sz hm) (by omega) p.number i p.frames _ ?_);simp only[dL,dW,dX,eP,eX,go_sem,bx,b1];refine bu.intro (i+1,m' z f) [0,1,2,3,4,5] ⟨by simp only;omega,by simp only;rw[cD]⟩ (show p.frames.length-(i+1)<p.frames.length-i by omega) ?_;simp only[go_sem,hw];simp[m_]
  ·have au:decide ((i:Int)<(p.frames.length:Int))=false:=bb (by omega);obtain rfl:i=p.frames.length:=by omega
   rw[dK]at tr
   try simp only[go_sem,I,au]
   repeat'(first|(with_reducible refine aq ?_)|fail)
   simp[a0,←tr,hg]
set_option maxRecDepth 100000
theorem Lf(c:J)(f:al)(k:Int):(bif bif !e6 c then true else !eQ f then true else decide (f.bn≠k))=!nx c f k:=by
 unfold nx
 cases e6 c<;>cases eQ f<;>by_cases h:f.bn=k<;>simp[h]
set_option maxHeartbeats 8000000 in
theorem aaf(c:J)(f:al)(m:Nat)(hv:bZ m c)(hm:m≤19):PureCall Tryz.prog 183 [.agg (J.enc c),.agg (al.enc f)] [.agg (J.enc ((zk c f))),.one (.int .i64 (zl c f))]:=by
 refine ui 69 Tryz.func183 Tryz.call183 [.cell 4 37,.tmp 5] ?_;intro ok;clear ok;have hz:=hv.sz (by omega);have j4:=jq hz;have s':=xQ hv f.stream;have kF:=s'.sz (by omega);have jb:(bw c f.stream).streams.length≤1000:=by have:=kF.1;omega
 have jx:=kF.2.1;have a0:zk c f=if zl c f=0 then dt (bw c f.stream) (nj (bw c f.stream) f)else c:=rfl
 have ah:zl c f=if nx c f 5 then(if eo c.df f.stream then fG c f.stream else 5)else 7:=rfl
 have aQ:nj (bw c f.stream) f=if sH (aw (bw c f.stream) f.stream).send f.code then fe (aw (bw c f.stream) f.stream) f.code else aw (bw c f.stream) f.stream:=rfl
 have nT:eb (nj (bw c f.stream) f):=(RS s').sz (by omega);have br:=Lf c f 5;obtain⟨c9,dc,cB,de⟩:=lY kF.2.1 f.stream;have wo:=cB;have cB:∀d9∈(bN (bw c f.stream).streams f.stream).1.recv.buffer.bd,d9.data.length≤1048576:=fun d9 hc=>by have:=cB d9 hc;omega
 have cn:=kR (bw c f.stream) f.stream kF;rw[show(bN (bw c f.stream).streams f.stream).1=aw (bw c f.stream) f.stream from rfl]at c9 dc cB wo de cn;have GB:=EU c f.stream hz;generalize aw (bw c f.stream) f.stream=s at *;generalize bw c f.stream=x at *;refine eu Tryz.checked.mixed 6 (α:=Unit) (fun _=>⟨(.ab::.ab::.ptr 0 0 0::.ptr 1 0 0::.ptr 2 0 0::.ab::.ptr 3 0 0::.ab::.ptr 6 0 0::aF 60 []),[.box (J.bC c),.box (al.bC f),.box J.bJ,.box (J.aK x (.sl 4 0 x.streams.length) (.sl 5 0 x.packets.length)),.ag 39 (x.streams.map ae.enc),.ag 2 (x.packets.map aI.enc),.box (ae.aK s (.sl 7 0 s.send.ring.cells.length) (.sl 8 0 s.send.pending.length) (.sl 9 0 s.send.flight.length) (.sl 10 0 s.send.cb.length) (.sl 11 0 s.recv.buffer.bd.length)),.ag 1 (s.send.ring.cells.map a'),.ag 2 (s.send.pending.map aa.enc),.ag 2 (s.send.flight.map aa.enc),.ag 2 (s.send.cb.map aa.enc),.ag 2 (s.recv.buffer.bd.map ax.enc)]⟩) (fun _=>nx c f 5=true∧eo c.df f.stream=true∧fG c f.stream=0) ?_ ?_
 ·skip
  try simp only[go_sem]
  repeat'((first|refine af.ag (by first|assumption|(apply tB<;>first|assumption|omega)) ?_|refine ar.ag (by first|assumption|apply yI) ?_|refine a8 ?_)<;>simp only[go_sem])
  rw[br]
  cases hg:nx c f 5 with
  |false=>
   rw[hg,if_neg (by simp)]at ah;rw[ah,if_neg (by decide)]at a0
   try simp only[go_sem,Bool.not_false]
   repeat'(first|((first|refine af.ag (by first|assumption|(apply gf<;>first|assumption|omega)) ?_|refine ar.ag (by assumption) ?_)<;>simp only[go_sem,I])|(with_reducible refine aq ?_)|fail)
   simp[a0,ah]
  |true=>
   rw[hg,if_pos rfl]at ah
   try simp only[go_sem,Bool.not_true]
   repeat'((first|refine af.ag (by first|assumption|apply Lj) ?_|refine ar.ag (by assumption) ?_)<;>simp only[go_sem])
   cases ji:eo c.df f.stream with
   |false=>
    rw[ji,if_neg (by simp)]at ah;rw[ah,if_neg (by decide)]at a0
    try simp only[go_sem,Bool.not_false]
    repeat'(first|((first|refine af.ag (by first|assumption|(apply gf<;>first|assumption|omega)) ?_|refine ar.ag (by assumption) ?_)<;>simp only[go_sem,I])|(with_reducible refine aq ?_)|fail)
    simp[a0,ah]
   |true=>
    rw[ji,if_pos rfl]at ah
    try simp only[go_sem,Bool.not_true]
    repeat'((first|refine af.ag (by assumption) ?_|refine ar.ag (by assumption) ?_)<;>simp only[go_sem,I])
    cases jD:decide (fG c f.stream≠0)with
    |true=>
     have hL:=cl jD
     skip
     rw[ah,if_neg hL]at a0
     try simp only[go_sem]
     repeat'(first|((first|refine af.ag (by first|assumption|(apply gf<;>first|assumption|omega)) ?_|refine ar.ag (by assumption) ?_)<;>simp only[go_sem,I])|(with_reducible refine aq ?_)|fail)
     simp[a0,ah]
    |false=>
     have hL:fG c f.stream=0:=Decidable.not_not.1 (cG jD)
     try simp only[go_sem,I]
     repeat'((first|refine af.ag (by assumption) ?_|refine ar.ag (by assumption) ?_)<;>simp only[go_sem,I])
     refine dp.intro () [0,1,2,5,3,4,11,6,7,8,9,10] (by first|exact⟨hg,ji,hL⟩|(simp only[true_and];exact hL)|simp[hL]) ?_;simp only[go_sem];simp
 rintro _ ⟨hg,ji,jD⟩;rw[hg,if_pos rfl,ji,if_pos rfl,jD]at ah;rw[ah,if_pos rfl]at a0;generalize nj x f=t at *;obtain⟨y,hy⟩:∃y,y=x:=⟨_,rfl⟩;refine eu Tryz.checked.mixed 2 (α:=Unit) (fun _=>⟨(aF 4 (.ptr 2 0 0::.ab::.ptr 3 0 0::.ab::.ptr 6 0 0::aF 60 [])),[.box (J.bC c),.box (al.bC f),.box J.bJ,.box (J.aK y (.sl 4 0 y.streams.length) (.sl 5 0 y.packets.length)),.ag 39 (y.streams.map ae.enc),.ag 2 (y.packets.map aI.enc),.box (ae.aK t (.sl 7 0 t.send.ring.cells.length) (.sl 8 0 t.send.pending.length) (.sl 9 0 t.send.flight.length) (.sl 10 0 t.send.cb.length) (.sl 11 0 t.recv.buffer.bd.length)),.ag 1 (t.send.ring.cells.map a'),.ag 2 (t.send.pending.map aa.enc),.ag 2 (t.send.flight.map aa.enc),.ag 2 (t.send.cb.map aa.enc),.ag 2 (t.recv.buffer.bd.map ax.enc)]⟩) (fun _=>True) ?_ ?_
 ·skip
  try simp only[go_sem,I]
  repeat'((first|refine af.ag (by first|assumption|(apply NQ<;>first|assumption|omega)) ?_|refine ar.ag (by assumption) ?_)<;>simp only[go_sem,I])
  cases hr:sH s.send f.code with
  |true=>
   rw[hr,if_pos rfl]at aQ;simp only[go_sem];refine dp.intro () [0,1,2,3,4,5,6,12,13,14,15,11] trivial ?_;simp only[go_sem,aQ,fe,hy];simp
  |false=>
   rw[hr,if_neg (by simp)]at aQ;simp only[go_sem];refine dp.intro () [0,1,2,3,4,5,6,7,8,9,10,11] trivial ?_;simp only[go_sem,aQ,hy];simp
 rintro _ _;have Dw:y.streams.length≤1000:=by rw[hy];exact jb
 have Dx:∀q∈y.streams,eb q:=by rw[hy];exact jx
 rw[←hy]at a0;refine eu Tryz.checked.mixed 1 (α:=Unit) (fun _=>⟨(aF 4 (.ptr 2 0 0::.ab::.ptr 3 0 0::aF 62 [])),[.box (J.bC c),.box (al.bC f),.box J.bJ,.box (J.aK ((dt y t)) (.sl 4 0 ((dt y t)).streams.length) (.sl 5 0 ((dt y t)).packets.length)),.ag 39 (((dt y t)).streams.map ae.enc),.ag 2 (((dt y t)).packets.map aI.enc)]⟩) (fun _=>True) ?_ ?_
 ·simp only[go_sem,I];refine af.gV [4,6] (by simp only[gn,List.elem_cons,List.elem_nil,Nat.reduceBEq,Nat.reduceAdd,cond_true,cond_false];rfl) (wu y t (.ag 2 (y.packets.map aI.enc)) (fun _=>trivial) Dw Dx nT [.box (J.bC c),.box (al.bC f),.box J.bJ] _ (by simp[dd,db,bf,vok]) (by simp[bf,vok]) _ ?_);simp only[dW,dX,eP,go_sem];have m_:(dt y t).packets=y.packets:=(yq y t).2;refine dp.intro () [0,1,2,3,4,5] trivial ?_;simp only[go_sem];simp[m_]
 rintro _ _;refine jr Tryz.checked.mixed ?_
 try simp only[go_sem,I]
 repeat'(first|(with_reducible refine aq ?_)|fail)
 simp[a0,ah]
set_option maxRecDepth 100000
set_option maxHeartbeats 8000000 in
theorem Z4(c:J)(f:al)(m:Nat)(hv:bZ m c)(hm:m≤19)(hd:f.data.length≤8)(az:0≤f.offset∧f.offset≤900):PureCall Tryz.prog 181 [.agg (J.enc c),.agg (al.enc f)] [.agg (J.enc ((zg c f))),.one (.int .i64 (wm c f))]:=by
 refine ui 88 Tryz.func181 Tryz.call181 [.cell 4 37,.tmp 5] ?_;intro ok;clear ok;have hz:=hv.sz (by omega);have j4:=jq hz;have s':=xQ hv f.stream;have kF:=s'.sz (by omega);have jb:(bw c f.stream).streams.length≤1000:=by have:=kF.1;omega
 have jx:=kF.2.1;have a0:zg c f=if wm c f=0 then dt (kk (bw c f.stream) (aw (bw c f.stream) f.stream) (nw f)) (zh (bw c f.stream) f)else c:=rfl
 have ah:wm c f=if nx c f 8 then(if eJ c.df f.stream then(if fG c f.stream=0 then(if gK (bw c f.stream) (aw (bw c f.stream) f.stream) (nw f)=0 then t8 (aw (bw c f.stream) f.stream).recv f.offset f.data f.ba else gK (bw c f.stream) (aw (bw c f.stream) f.stream) (nw f))else fG c f.stream)else 5)else 7:=rfl
 have aQ:zh (bw c f.stream) f=fi (i9 (aw (bw c f.stream) f.stream) (nw f)) (oa (aw (bw c f.stream) f.stream).recv f.offset f.data f.ba):=rfl;have nT:eb (zh (bw c f.stream) f):=(RG s' hd az).sz (by omega);have mz:=s'.aw f.stream;have Dt:=mz.d9;clear mz;have br:=Lf c f 8;obtain⟨c9,dc,cB,de⟩:=lY kF.2.1 f.stream;have wo:=cB;have cB:∀d9∈(bN (bw c f.stream).streams f.stream).1.recv.buffer.bd,d9.data.length≤1048576:=fun d9 hc=>by have:=cB d9 hc;omega
 have cn:=kR (bw c f.stream) f.stream kF;rw[show(bN (bw c f.stream).streams f.stream).1=aw (bw c f.stream) f.stream from rfl]at c9 dc cB wo de cn;have GB:=EU c f.stream hz;generalize aw (bw c f.stream) f.stream=s at *;generalize bw c f.stream=x at *;refine eu Tryz.checked.mixed 6 (α:=Unit) (fun _=>⟨(.ab::.ab::.ptr 0 0 0::.ptr 1 0 0::.ptr 2 0 0::.ab::.ptr 3 0 0::.ab::.ptr 6 0 0::aF 79 []),[.box (J.bC c),.box (al.bC f),.box J.bJ,.box (J.aK x (.sl 4 0 x.streams.length) (.sl 5 0 x.packets.length)),.ag 39 (x.streams.map ae.enc),.ag 2 (x.packets.map aI.enc),.box (ae.aK s (.sl 7 0 s.send.ring.cells.length) (.sl 8 0 s.send.pending.length) (.sl 9 0 s.send.flight.length) (.sl 10 0 s.send.cb.length) (.sl 11 0 s.recv.buffer.bd.length)),.ag 1 (s.send.ring.cells.map a'),.ag 2 (s.send.pending.map aa.enc),.ag 2 (s.send.flight.map aa.enc),.ag 2 (s.send.cb.map aa.enc),.ag 2 (s.recv.buffer.bd.map ax.enc)]⟩) (fun _=>nx c f 8=true∧eJ c.df f.stream=true∧fG c f.stream=0) ?_ ?_
 ·skip
  try simp only[go_sem]
  repeat'(first|((first|refine af.ag (by first|assumption|(apply tB<;>first|assumption|omega)) ?_|refine ar.ag (by first|assumption|apply yI) ?_|refine a8 ?_)<;>simp only[go_sem])|(with_reducible refine aq ?_)|fail)
  rw[br]
  cases hg:nx c f 8 with
  |false=>
   rw[hg,if_neg (by simp)]at ah;rw[ah,if_neg (by decide)]at a0
   try simp only[go_sem,Bool.not_false]
   repeat'(first|((first|refine af.ag (by first|assumption|(apply gf<;>first|assumption|omega)) ?_|refine ar.ag (by assumption) ?_)<;>simp only[go_sem,I])|(with_reducible refine aq ?_)|fail)
   simp[a0,ah]
  |true=>
   rw[hg,if_pos rfl]at ah
   try simp only[go_sem,Bool.not_true]
   repeat'(first|((first|refine af.ag (by first|assumption|apply GC) ?_|refine ar.ag (by assumption) ?_)<;>simp only[go_sem])|(with_reducible refine aq ?_)|fail)
   cases ji:eJ c.df f.stream with
   |false=>
    rw[ji,if_neg (by simp)]at ah;rw[ah,if_neg (by decide)]at a0
    try simp only[go_sem,Bool.not_false]
    repeat'(first|((first|refine af.ag (by first|assumption|(apply gf<;>first|assumption|omega)) ?_|refine ar.ag (by assumption) ?_)<;>simp only[go_sem,I])|(with_reducible refine aq ?_)|fail)
    simp[a0,ah]
   |true=>
    rw[ji,if_pos rfl]at ah
    try simp only[go_sem,Bool.not_true]
    repeat'((first|refine af.ag (by assumption) ?_|refine ar.ag (by assumption) ?_)<;>simp only[go_sem,I])
    cases jD:decide (fG c f.stream≠0)with
    |true=>
     have hL:=cl jD;rw[if_neg hL]at ah;rw[ah,if_neg hL]at a0
     try simp only[go_sem]
     repeat'(first|((first|refine af.ag (by first|assumption|(apply gf<;>first|assumption|omega)) ?_|refine ar.ag (by assumption) ?_)<;>simp only[go_sem,I])|(with_reducible refine aq ?_)|fail)
     simp[a0,ah]
    |false=>
     have hL:fG c f.stream=0:=Decidable.not_not.1 (cG jD)
     try simp only[go_sem,I]
     repeat'((first|refine af.ag (by assumption) ?_|refine ar.ag (by assumption) ?_)<;>simp only[go_sem,I])
     refine dp.intro () [0,1,2,5,3,4,11,6,7,8,9,10] (by first|exact⟨hg,ji,hL⟩|(simp only[true_and];exact hL)|simp[hL]) ?_;simp only[go_sem];simp
 rintro _ ⟨hg,ji,jD⟩;rw[hg,if_pos rfl,ji,if_pos rfl,jD,if_pos rfl]at ah;have aL:oa s.recv f.offset f.data f.ba=oa s.recv f.offset f.data f.ba:=rfl;generalize Lg:oa s.recv f.offset f.data f.ba=r at aQ aL;have aL:r=oa s.recv f.offset f.data f.ba:=Lg.symm;have Fz:IntKind.i64.wrap (f.offset+(f.data.length:Int))=nw f:=rfl;generalize nw f=e at *;refine eu Tryz.checked.mixed 1 (α:=Unit) (fun _=>⟨(.ab::.ab::.ptr 0 0 0::.ptr 1 0 0::.ptr 2 0 0::.ab::.ptr 3 0 0::.ab::.ptr 6 0 0::.ab::.ptr 12 0 0::.d (.int .i64 (t8 s.recv f.offset f.data f.ba))::aF 76 []),[.box (J.bC c),.box (al.bC f),.box J.bJ,.box (J.aK x (.sl 4 0 x.streams.length) (.sl 5 0 x.packets.length)),.ag 39 (x.streams.map ae.enc),.ag 2 (x.packets.map aI.enc),.box (ae.aK s (.sl 7 0 s.send.ring.cells.length) (.sl 8 0 s.send.pending.length) (.sl 9 0 s.send.flight.length) (.sl 10 0 s.send.cb.length) (.sl 11 0 s.recv.buffer.bd.length)),.ag 1 (s.send.ring.cells.map a'),.ag 2 (s.send.pending.map aa.enc),.ag 2 (s.send.flight.map aa.enc),.ag 2 (s.send.cb.map aa.enc),.ag 2 (s.recv.buffer.bd.map ax.enc),.box (bc.aK r (.sl 13 0 r.buffer.bd.length)),.ag 2 (r.buffer.bd.map ax.enc)]⟩) (fun _=>True) ?_ ?_
 ·skip
  try simp only[go_sem,I]
  repeat'((first|refine af.ag (by first|assumption|(apply Z5<;>first|assumption|omega)) ?_|refine ar.ag (by assumption) ?_)<;>simp only[go_sem,I])
  refine dp.intro () [0,1,2,3,4,5,6,7,8,9,10,11,13,12] trivial ?_;simp only[go_sem];simp[←aL]
 rintro _ _;refine eu Tryz.checked.mixed 1 (α:=J×ae) (fun y=>⟨(.ab::.ab::.ptr 0 0 0::.ptr 1 0 0::.ptr 2 0 0::.ab::.ptr 3 0 0::.d (.int .i64 (gK x s (e)))::.ptr 6 0 0::.ab::.ptr 12 0 0::.d (.int .i64 (t8 s.recv f.offset f.data f.ba))::aF 76 []),[.box (J.bC c),.box (al.bC f),.box J.bJ,.box (J.aK y.1 (.sl 4 0 y.1.streams.length) (.sl 5 0 y.1.packets.length)),.ag 39 (y.1.streams.map ae.enc),.ag 2 (y.1.packets.map aI.enc),.box (ae.aK y.2 (.sl 7 0 y.2.send.ring.cells.length) (.sl 8 0 y.2.send.pending.length) (.sl 9 0 y.2.send.flight.length) (.sl 10 0 y.2.send.cb.length) (.sl 11 0 y.2.recv.buffer.bd.length)),.ag 1 (y.2.send.ring.cells.map a'),.ag 2 (y.2.send.pending.map aa.enc),.ag 2 (y.2.send.flight.map aa.enc),.ag 2 (y.2.send.cb.map aa.enc),.ag 2 (y.2.recv.buffer.bd.map ax.enc),.box (bc.aK r (.sl 13 0 r.buffer.bd.length)),.ag 2 (r.buffer.bd.map ax.enc)]⟩) (fun y=>gK x s (e)=0→y.1=kk x s (e)∧y.2=i9 s (e)) ?_ ?_
 ·simp only[go_sem,Fz];refine af.gV [2,3,4,6,8,10,11] (by simp only[gn,List.elem_cons,List.elem_nil,Nat.reduceBEq,Nat.reduceAdd,cond_true,cond_false];rfl) (el (n:=52) (rs:=[.tmp 6]) Tryz.func222 rfl Tryz.call222 Tryz.checked.mixed rfl rfl ?_);simp only[go_sem,I]
  try simp only[go_sem,I]
  repeat'((first|refine af.intro (by first|assumption|(apply RH<;>first|assumption|omega)) ?_|refine ar.intro (by assumption) ?_)<;>simp only[go_sem])
  cases hn:decide (fV s.recv (e)=0)with
  |true=>
   have iP:lK s (e)=0:=cl hn;have ai:gK x s (e)=0:=by unfold gK;rw[if_pos iP]
   have aj:kk x s (e)=x:=by unfold kk;rw[if_pos iP]
   have aT:i9 s (e)=s:=by unfold i9;rw[if_pos iP]
   try simp only[go_sem]
   refine dp.intro (x,s) [0,1,2,3,4,5,6,7,8,9,10,11,12,13] (fun _=>⟨aj.symm,aT.symm⟩) ?_;simp only[go_sem,ai];simp
  |false=>
   have iP:¬lK s (e)=0:=cG hn;have ai:gK x s (e)=if gD s.window (fV s.recv (e))&&gD x.bO (fV s.recv (e))then 0 else 3:=by unfold gK;rw[if_neg iP];rfl
   have aj:kk x s (e)={x with bO:=kl x.bO (fV s.recv (e))}:=by unfold kk;rw[if_neg iP];rfl
   have aT:i9 s (e)={s with window:=kl s.window (fV s.recv (e))}:=by unfold i9;rw[if_neg iP];rfl
   try simp only[go_sem]
   repeat'((first|refine af.intro (by first|assumption|apply RI) ?_|refine ar.intro (by assumption) ?_|refine a8 ?_)<;>simp only[go_sem])
   have Lh:(bif !gD s.window (fV s.recv (e))then true else !gD x.bO (fV s.recv (e)))=!(gD s.window (fV s.recv (e))&&gD x.bO (fV s.recv (e))):=by
    cases gD s.window (fV s.recv (e))<;>cases gD x.bO (fV s.recv (e))<;>rfl
   rw[Lh]
   cases hk:gD s.window (fV s.recv (e))&&gD x.bO (fV s.recv (e))with
   |false=>
    rw[hk,if_neg (by simp)]at ai
    try simp only[go_sem,Bool.not_false]
    refine dp.intro (x,s) [0,1,2,3,4,5,6,7,8,9,10,11,12,13] (fun h=>by rw[ai]at h;cases h) ?_;simp only[go_sem,ai];simp
   |true=>
    rw[hk,if_pos rfl]at ai
    try simp only[go_sem,Bool.not_true]
    refine dp.intro ({x with bO:=kl x.bO (fV s.recv (e))},{s with window:=kl s.window (fV s.recv (e))}) [0,1,2,3,4,5,6,7,8,9,10,11,12,13] (fun _=>⟨aj.symm,aT.symm⟩) ?_;simp only[go_sem,ai];simp
 rintro⟨x2,u⟩ Du;simp only at Du;refine eu Tryz.checked.mixed 2 (α:=Unit) (fun _=>⟨(.ab::.ab::.ptr 0 0 0::.ptr 1 0 0::.ptr 2 0 0::.ab::.ptr 3 0 0::.ab::.ptr 6 0 0::.ab::.ptr 12 0 0::aF 77 []),[.box (J.bC c),.box (al.bC f),.box J.bJ,.box (J.aK x2 (.sl 4 0 x2.streams.length) (.sl 5 0 x2.packets.length)),.ag 39 (x2.streams.map ae.enc),.ag 2 (x2.packets.map aI.enc),.box (ae.aK u (.sl 7 0 u.send.ring.cells.length) (.sl 8 0 u.send.pending.length) (.sl 9 0 u.send.flight.length) (.sl 10 0 u.send.cb.length) (.sl 11 0 u.recv.buffer.bd.length)),.ag 1 (u.send.ring.cells.map a'),.ag 2 (u.send.pending.map aa.enc),.ag 2 (u.send.flight.map aa.enc),.ag 2 (u.send.cb.map aa.enc),.ag 2 (u.recv.buffer.bd.map ax.enc),.box (bc.aK r (.sl 13 0 r.buffer.bd.length)),.ag 2 (r.buffer.bd.map ax.enc)]⟩) (fun _=>gK x s (e)=0∧t8 s.recv f.offset f.data f.ba=0) ?_ ?_
 ·simp only[go_sem]
  cases t9:decide (gK x s (e)≠0)with
  |true=>
   have ob:=cl t9;rw[if_neg ob]at ah;rw[ah,if_neg ob]at a0
   try simp only[go_sem]
   repeat'(first|((first|refine af.ag (by first|assumption|(apply gf<;>first|assumption|omega)) ?_|refine ar.ag (by assumption) ?_|refine a8 ?_)<;>simp only[go_sem,I])|(with_reducible refine aq ?_)|fail)
   simp[a0,ah]
  |false=>
   have ob:=Decidable.not_not.1 (cG t9);rw[ob,if_pos rfl]at ah;simp only[go_sem]
   cases wq:decide (t8 s.recv f.offset f.data f.ba≠0)with
   |true=>
    have wt:=cl wq;rw[ah,if_neg wt]at a0
    try simp only[go_sem]
    repeat'(first|((first|refine af.ag (by first|assumption|(apply gf<;>first|assumption|omega)) ?_|refine ar.ag (by assumption) ?_)<;>simp only[go_sem,I])|(with_reducible refine aq ?_)|fail)
    simp[a0,ah]
   |false=>
    have wt:=Decidable.not_not.1 (cG wq);simp only[go_sem];refine dp.intro () [0,1,2,3,4,5,6,7,8,9,10,11,12,13] (by first|exact⟨ob,wt⟩|simp[ob,wt]) ?_;simp only[go_sem];simp
 rintro _ ⟨t9,wq⟩;obtain⟨uS,hu⟩:=Du t9;rw[t9,if_pos rfl,wq]at ah;rw[ah,if_pos rfl]at a0;obtain⟨y,hy⟩:∃y,y=x2:=⟨_,rfl⟩;have Dv:y.streams=x.streams:=by rw[hy,uS];exact(Li _ _ _).1
 have Dw:y.streams.length≤1000:=by rw[Dv];exact jb
 have Dx:∀q∈y.streams,eb q:=by rw[Dv];exact jx
 rw[←hu]at aQ;rw[←uS,←hy]at a0;generalize zh x f=t at *;refine eu Tryz.checked.mixed 1 (α:=Unit) (fun _=>⟨(aF 4 (.ptr 2 0 0::.ab::.ptr 3 0 0::.ab::.ptr 6 0 0::aF 79 [])),[.box (J.bC c),.box (al.bC f),.box J.bJ,.box (J.aK y (.sl 4 0 y.streams.length) (.sl 5 0 y.packets.length)),.ag 39 (y.streams.map ae.enc),.ag 2 (y.packets.map aI.enc),.box (ae.aK t (.sl 7 0 t.send.ring.cells.length) (.sl 8 0 t.send.pending.length) (.sl 9 0 t.send.flight.length) (.sl 10 0 t.send.cb.length) (.sl 11 0 t.recv.buffer.bd.length)),.ag 1 (t.send.ring.cells.map a'),.ag 2 (t.send.pending.map aa.enc),.ag 2 (t.send.flight.map aa.enc),.ag 2 (t.send.cb.map aa.enc),.ag 2 (t.recv.buffer.bd.map ax.enc)]⟩) (fun _=>True) ?_ ?_
 ·simp only[go_sem];refine dp.intro () [0,1,2,3,4,5,6,7,8,9,10,13] trivial ?_;simp only[go_sem,aQ,hy,fi];simp
 rintro _ _;refine eu Tryz.checked.mixed 1 (α:=Unit) (fun _=>⟨(aF 4 (.ptr 2 0 0::.ab::.ptr 3 0 0::aF 81 [])),[.box (J.bC c),.box (al.bC f),.box J.bJ,.box (J.aK ((dt y t)) (.sl 4 0 ((dt y t)).streams.length) (.sl 5 0 ((dt y t)).packets.length)),.ag 39 (((dt y t)).streams.map ae.enc),.ag 2 (((dt y t)).packets.map aI.enc)]⟩) (fun _=>True) ?_ ?_
 ·simp only[go_sem,I];refine af.gV [4,6] (by simp only[gn,List.elem_cons,List.elem_nil,Nat.reduceBEq,Nat.reduceAdd,cond_true,cond_false];rfl) (wu y t (.ag 2 (y.packets.map aI.enc)) (fun _=>trivial) Dw Dx nT [.box (J.bC c),.box (al.bC f),.box J.bJ] _ (by simp[dd,db,bf,vok]) (by simp[bf,vok]) _ ?_);simp only[dW,dX,eP,go_sem];have m_:(dt y t).packets=y.packets:=(yq y t).2;refine dp.intro () [0,1,2,3,4,5] trivial ?_;simp only[go_sem];simp[m_]
 rintro _ _;refine jr Tryz.checked.mixed ?_
 try simp only[go_sem,I]
 repeat'(first|(with_reducible refine aq ?_)|fail)
 simp[a0,ah]
set_option maxRecDepth 100000
set_option maxHeartbeats 8000000 in
theorem aae(c:J)(f:al)(m:Nat)(hv:bZ m c)(hm:m≤19):PureCall Tryz.prog 182 [.agg (J.enc c),.agg (al.enc f)] [.agg (J.enc ((zj c f))),.one (.int .i64 (wx c f))]:=by
 refine ui 94 Tryz.func182 Tryz.call182 [.cell 4 37,.tmp 5] ?_;intro ok;clear ok;have hz:=hv.sz (by omega);have j4:=jq hz;have s':=xQ hv f.stream;have kF:=s'.sz (by omega);have jb:(bw c f.stream).streams.length≤1000:=by have:=kF.1;omega
 have jx:=kF.2.1;have a0:zj c f=if wx c f=0 then dt (va (bw c f.stream) f) (oe (bw c f.stream) f)else c:=rfl
 have ah:wx c f=if nx c f 4 then(if eJ c.df f.stream then(if fG c f.stream=0 then(if gK (bw c f.stream) (aw (bw c f.stream) f.stream) f.bg=0 then vb (aw (bw c f.stream) f.stream).recv f.code f.bg else gK (bw c f.stream) (aw (bw c f.stream) f.stream) f.bg)else fG c f.stream)else 5)else 7:=rfl
 have hB:t' (bw c f.stream) f=(decide ((tb (aw (bw c f.stream) f.stream).recv f.code f.bg).state=4)&&decide ((aw (bw c f.stream) f.stream).recv.state≠4)):=rfl;have aQ:oe (bw c f.stream) f=fi (if t' (bw c f.stream) f then nA (i9 (aw (bw c f.stream) f.stream) f.bg) f.bg else i9 (aw (bw c f.stream) f.stream) f.bg) (tb (aw (bw c f.stream) f.stream).recv f.code f.bg):=rfl;have cJ:va (bw c f.stream) f=if t' (bw c f.stream) f then oc (kk (bw c f.stream) (aw (bw c f.stream) f.stream) f.bg) (i9 (aw (bw c f.stream) f.stream) f.bg) f.bg else kk (bw c f.stream) (aw (bw c f.stream) f.stream) f.bg:=rfl
 have nT:eb (oe (bw c f.stream) f):=(RQ s').sz (by omega);have DA:(va (bw c f.stream) f).streams=(bw c f.stream).streams:=(RR _ f).1;have Dt:=(s'.aw f.stream).d9;have br:=Lf c f 4;obtain⟨c9,dc,cB,de⟩:=lY kF.2.1 f.stream;have wo:=cB;have cB:∀d9∈(bN (bw c f.stream).streams f.stream).1.recv.buffer.bd,d9.data.length≤1048576:=fun d9 hc=>by have:=cB d9 hc;omega
 have cn:=kR (bw c f.stream) f.stream kF;rw[show(bN (bw c f.stream).streams f.stream).1=aw (bw c f.stream) f.stream from rfl]at c9 dc cB wo de cn;have GB:=EU c f.stream hz;generalize aw (bw c f.stream) f.stream=s at *;generalize bw c f.stream=x at *;refine eu Tryz.checked.mixed 6 (α:=Unit) (fun _=>⟨(.ab::.ab::.ptr 0 0 0::.ptr 1 0 0::.ptr 2 0 0::.ab::.ptr 3 0 0::.ab::.ptr 6 0 0::aF 85 []),[.box (J.bC c),.box (al.bC f),.box J.bJ,.box (J.aK x (.sl 4 0 x.streams.length) (.sl 5 0 x.packets.length)),.ag 39 (x.streams.map ae.enc),.ag 2 (x.packets.map aI.enc),.box (ae.aK s (.sl 7 0 s.send.ring.cells.length) (.sl 8 0 s.send.pending.length) (.sl 9 0 s.send.flight.length) (.sl 10 0 s.send.cb.length) (.sl 11 0 s.recv.buffer.bd.length)),.ag 1 (s.send.ring.cells.map a'),.ag 2 (s.send.pending.map aa.enc),.ag 2 (s.send.flight.map aa.enc),.ag 2 (s.send.cb.map aa.enc),.ag 2 (s.recv.buffer.bd.map ax.enc)]⟩) (fun _=>nx c f 4=true∧eJ c.df f.stream=true∧fG c f.stream=0) ?_ ?_
 ·skip
  try simp only[go_sem]
  repeat'(first|((first|refine af.ag (by first|assumption|(apply tB<;>first|assumption|omega)) ?_|refine ar.ag (by first|assumption|apply yI) ?_|refine a8 ?_)<;>simp only[go_sem])|(with_reducible refine aq ?_)|fail)
  rw[br]
  cases hg:nx c f 4 with
  |false=>
   rw[hg,if_neg (by simp)]at ah;rw[ah,if_neg (by decide)]at a0
   try simp only[go_sem,Bool.not_false]
   repeat'(first|((first|refine af.ag (by first|assumption|(apply gf<;>first|assumption|omega)) ?_|refine ar.ag (by assumption) ?_)<;>simp only[go_sem,I])|(with_reducible refine aq ?_)|fail)
   simp[a0,ah]
  |true=>
   rw[hg,if_pos rfl]at ah
   try simp only[go_sem,Bool.not_true]
   repeat'((first|refine af.ag (by first|assumption|apply GC) ?_|refine ar.ag (by assumption) ?_|refine a8 ?_)<;>simp only[go_sem])
   cases ji:eJ c.df f.stream with
   |false=>
    rw[ji,if_neg (by simp)]at ah;rw[ah,if_neg (by decide)]at a0
    try simp only[go_sem,Bool.not_false]
    repeat'(first|((first|refine af.ag (by first|assumption|(apply gf<;>first|assumption|omega)) ?_|refine ar.ag (by assumption) ?_)<;>simp only[go_sem,I])|(with_reducible refine aq ?_)|fail)
    simp[a0,ah]
   |true=>
    rw[ji,if_pos rfl]at ah
    try simp only[go_sem,Bool.not_true]
    repeat'((first|refine af.ag (by assumption) ?_|refine ar.ag (by assumption) ?_)<;>simp only[go_sem,I])
    cases jD:decide (fG c f.stream≠0)with
    |true=>
     have hL:=cl jD;rw[if_neg hL]at ah;rw[ah,if_neg hL]at a0
     try simp only[go_sem]
     repeat'(first|((first|refine af.ag (by first|assumption|(apply gf<;>first|assumption|omega)) ?_|refine ar.ag (by assumption) ?_)<;>simp only[go_sem,I])|(with_reducible refine aq ?_)|fail)
     simp[a0,ah]
    |false=>
     have hL:fG c f.stream=0:=Decidable.not_not.1 (cG jD)
     try simp only[go_sem,I]
     repeat'((first|refine af.ag (by assumption) ?_|refine ar.ag (by assumption) ?_)<;>simp only[go_sem,I])
     refine dp.intro () [0,1,2,5,3,4,11,6,7,8,9,10] (by first|exact⟨hg,ji,hL⟩|(simp only[true_and];exact hL)|simp[hL]) ?_;simp only[go_sem];simp
 rintro _ ⟨hg,ji,jD⟩;rw[hg,if_pos rfl,ji,if_pos rfl,jD,if_pos rfl]at ah;generalize Lg:tb s.recv f.code f.bg=r at aQ hB;have aL:r=tb s.recv f.code f.bg:=Lg.symm;refine eu Tryz.checked.mixed 1 (α:=Unit) (fun _=>⟨(.ab::.ab::.ptr 0 0 0::.ptr 1 0 0::.ptr 2 0 0::.ab::.ptr 3 0 0::.ab::.ptr 6 0 0::.ab::.ptr 12 0 0::.d (.int .i64 (vb s.recv f.code f.bg))::aF 82 []),[.box (J.bC c),.box (al.bC f),.box J.bJ,.box (J.aK x (.sl 4 0 x.streams.length) (.sl 5 0 x.packets.length)),.ag 39 (x.streams.map ae.enc),.ag 2 (x.packets.map aI.enc),.box (ae.aK s (.sl 7 0 s.send.ring.cells.length) (.sl 8 0 s.send.pending.length) (.sl 9 0 s.send.flight.length) (.sl 10 0 s.send.cb.length) (.sl 11 0 s.recv.buffer.bd.length)),.ag 1 (s.send.ring.cells.map a'),.ag 2 (s.send.pending.map aa.enc),.ag 2 (s.send.flight.map aa.enc),.ag 2 (s.send.cb.map aa.enc),.ag 2 (s.recv.buffer.bd.map ax.enc),.box (bc.aK r (.sl 13 0 r.buffer.bd.length)),.ag 2 (r.buffer.bd.map ax.enc)]⟩) (fun _=>True) ?_ ?_
 ·skip
  try simp only[go_sem,I]
  repeat'((first|refine af.ag (by first|assumption|(apply aah<;>first|assumption|omega)) ?_|refine ar.ag (by assumption) ?_)<;>simp only[go_sem,I])
  refine dp.intro () [0,1,2,3,4,5,6,7,8,9,10,11,13,12] trivial ?_;simp only[go_sem];simp[←aL]
 rintro _ _;refine eu Tryz.checked.mixed 1 (α:=J×ae) (fun y=>⟨(.ab::.ab::.ptr 0 0 0::.ptr 1 0 0::.ptr 2 0 0::.ab::.ptr 3 0 0::.d (.int .i64 (gK x s (f.bg)))::.ptr 6 0 0::.ab::.ptr 12 0 0::.d (.int .i64 (vb s.recv f.code f.bg))::aF 82 []),[.box (J.bC c),.box (al.bC f),.box J.bJ,.box (J.aK y.1 (.sl 4 0 y.1.streams.length) (.sl 5 0 y.1.packets.length)),.ag 39 (y.1.streams.map ae.enc),.ag 2 (y.1.packets.map aI.enc),.box (ae.aK y.2 (.sl 7 0 y.2.send.ring.cells.length) (.sl 8 0 y.2.send.pending.length) (.sl 9 0 y.2.send.flight.length) (.sl 10 0 y.2.send.cb.length) (.sl 11 0 y.2.recv.buffer.bd.length)),.ag 1 (y.2.send.ring.cells.map a'),.ag 2 (y.2.send.pending.map aa.enc),.ag 2 (y.2.send.flight.map aa.enc),.ag 2 (y.2.send.cb.map aa.enc),.ag 2 (y.2.recv.buffer.bd.map ax.enc),.box (bc.aK r (.sl 13 0 r.buffer.bd.length)),.ag 2 (r.buffer.bd.map ax.enc)]⟩) (fun y=>gK x s (f.bg)=0→y.1=kk x s (f.bg)∧y.2=i9 s (f.bg)) ?_ ?_
 ·simp only[go_sem];refine af.gV [2,3,4,6,8,10,11] (by simp only[gn,List.elem_cons,List.elem_nil,Nat.reduceBEq,Nat.reduceAdd,cond_true,cond_false];rfl) (el (n:=52) (rs:=[.tmp 6]) Tryz.func222 rfl Tryz.call222 Tryz.checked.mixed rfl rfl ?_);simp only[go_sem,I]
  try simp only[go_sem,I]
  repeat'((first|refine af.intro (by first|assumption|(apply RH<;>first|assumption|omega)) ?_|refine ar.intro (by assumption) ?_)<;>simp only[go_sem])
  cases hn:decide (fV s.recv (f.bg)=0)with
  |true=>
   have iP:lK s (f.bg)=0:=cl hn;have ai:gK x s (f.bg)=0:=by unfold gK;rw[if_pos iP]
   have aj:kk x s (f.bg)=x:=by unfold kk;rw[if_pos iP]
   have aT:i9 s (f.bg)=s:=by unfold i9;rw[if_pos iP]
   try simp only[go_sem]
   refine dp.intro (x,s) [0,1,2,3,4,5,6,7,8,9,10,11,12,13] (fun _=>⟨aj.symm,aT.symm⟩) ?_;simp only[go_sem,ai];simp
  |false=>
   have iP:¬lK s (f.bg)=0:=cG hn;have ai:gK x s (f.bg)=if gD s.window (fV s.recv (f.bg))&&gD x.bO (fV s.recv (f.bg))then 0 else 3:=by unfold gK;rw[if_neg iP];rfl
   have aj:kk x s (f.bg)={x with bO:=kl x.bO (fV s.recv (f.bg))}:=by unfold kk;rw[if_neg iP];rfl
   have aT:i9 s (f.bg)={s with window:=kl s.window (fV s.recv (f.bg))}:=by unfold i9;rw[if_neg iP];rfl
   try simp only[go_sem]
   repeat'((first|refine af.intro (by first|assumption|apply RI) ?_|refine ar.intro (by assumption) ?_|refine a8 ?_)<;>simp only[go_sem])
   have Lh:(bif !gD s.window (fV s.recv (f.bg))then true else !gD x.bO (fV s.recv (f.bg)))=!(gD s.window (fV s.recv (f.bg))&&gD x.bO (fV s.recv (f.bg))):=by
    cases gD s.window (fV s.recv (f.bg))<;>cases gD x.bO (fV s.recv (f.bg))<;>rfl
   rw[Lh]
   cases hk:gD s.window (fV s.recv (f.bg))&&gD x.bO (fV s.recv (f.bg))with
   |false=>
    rw[hk,if_neg (by simp)]at ai
    try simp only[go_sem,Bool.not_false]
    refine dp.intro (x,s) [0,1,2,3,4,5,6,7,8,9,10,11,12,13] (fun h=>by rw[ai]at h;cases h) ?_;simp only[go_sem,ai];simp
   |true=>
    rw[hk,if_pos rfl]at ai
    try simp only[go_sem,Bool.not_true]
    refine dp.intro ({x with bO:=kl x.bO (fV s.recv (f.bg))},{s with window:=kl s.window (fV s.recv (f.bg))}) [0,1,2,3,4,5,6,7,8,9,10,11,12,13] (fun _=>⟨aj.symm,aT.symm⟩) ?_;simp only[go_sem,ai];simp
 rintro⟨x2,u⟩ Du;simp only at Du;refine eu Tryz.checked.mixed 2 (α:=Unit) (fun _=>⟨(.ab::.ab::.ptr 0 0 0::.ptr 1 0 0::.ptr 2 0 0::.ab::.ptr 3 0 0::.ab::.ptr 6 0 0::.ab::.ptr 12 0 0::aF 83 []),[.box (J.bC c),.box (al.bC f),.box J.bJ,.box (J.aK x2 (.sl 4 0 x2.streams.length) (.sl 5 0 x2.packets.length)),.ag 39 (x2.streams.map ae.enc),.ag 2 (x2.packets.map aI.enc),.box (ae.aK u (.sl 7 0 u.send.ring.cells.length) (.sl 8 0 u.send.pending.length) (.sl 9 0 u.send.flight.length) (.sl 10 0 u.send.cb.length) (.sl 11 0 u.recv.buffer.bd.length)),.ag 1 (u.send.ring.cells.map a'),.ag 2 (u.send.pending.map aa.enc),.ag 2 (u.send.flight.map aa.enc),.ag 2 (u.send.cb.map aa.enc),.ag 2 (u.recv.buffer.bd.map ax.enc),.box (bc.aK r (.sl 13 0 r.buffer.bd.length)),.ag 2 (r.buffer.bd.map ax.enc)]⟩) (fun _=>gK x s (f.bg)=0∧vb s.recv f.code f.bg=0) ?_ ?_
 ·simp only[go_sem]
  cases t9:decide (gK x s (f.bg)≠0)with
  |true=>
   have ob:=cl t9;rw[if_neg ob]at ah;rw[ah,if_neg ob]at a0
   try simp only[go_sem]
   repeat'(first|((first|refine af.ag (by first|assumption|(apply gf<;>first|assumption|omega)) ?_|refine ar.ag (by assumption) ?_|refine a8 ?_)<;>simp only[go_sem,I])|(with_reducible refine aq ?_)|fail)
   simp[a0,ah]
  |false=>
   have ob:=Decidable.not_not.1 (cG t9);rw[ob,if_pos rfl]at ah;simp only[go_sem]
   cases wq:decide (vb s.recv f.code f.bg≠0)with
   |true=>
    have wt:=cl wq;rw[ah,if_neg wt]at a0
    try simp only[go_sem]
    repeat'(first|((first|refine af.ag (by first|assumption|(apply gf<;>first|assumption|omega)) ?_|refine ar.ag (by assumption) ?_)<;>simp only[go_sem,I])|(with_reducible refine aq ?_)|fail)
    simp[a0,ah]
   |false=>
    have wt:=Decidable.not_not.1 (cG wq);simp only[go_sem];refine dp.intro () [0,1,2,3,4,5,6,7,8,9,10,11,12,13] (by first|exact⟨ob,wt⟩|simp[ob,wt]) ?_;simp only[go_sem];simp
 rintro _ ⟨t9,wq⟩;obtain⟨uS,hu⟩:=Du t9;rw[t9,if_pos rfl,wq]at ah;rw[ah,if_pos rfl]at a0;have aai:u.recv.state=s.recv.state:=by rw[hu,(GF s f.bg).2.1]
 rw[←aai]at hB;rw[←hu]at aQ cJ;rw[←uS]at cJ;have aaj:(bif decide (r.state=4)then decide (u.recv.state≠4)else false)=t' x f:=by rw[hB];cases decide (r.state=4)<;>rfl
 generalize t' x f=B at *;refine eu Tryz.checked.mixed 1 (α:=J×ae) (fun y=>⟨(.ab::.ab::.ptr 0 0 0::.ptr 1 0 0::.ptr 2 0 0::.ab::.ptr 3 0 0::.ab::.ptr 6 0 0::.ab::.ptr 12 0 0::aF 83 []),[.box (J.bC c),.box (al.bC f),.box J.bJ,.box (J.aK y.1 (.sl 4 0 y.1.streams.length) (.sl 5 0 y.1.packets.length)),.ag 39 (y.1.streams.map ae.enc),.ag 2 (y.1.packets.map aI.enc),.box (ae.aK y.2 (.sl 7 0 y.2.send.ring.cells.length) (.sl 8 0 y.2.send.pending.length) (.sl 9 0 y.2.send.flight.length) (.sl 10 0 y.2.send.cb.length) (.sl 11 0 y.2.recv.buffer.bd.length)),.ag 1 (y.2.send.ring.cells.map a'),.ag 2 (y.2.send.pending.map aa.enc),.ag 2 (y.2.send.flight.map aa.enc),.ag 2 (y.2.send.cb.map aa.enc),.ag 2 (y.2.recv.buffer.bd.map ax.enc),.box (bc.aK r (.sl 13 0 r.buffer.bd.length)),.ag 2 (r.buffer.bd.map ax.enc)]⟩) (fun y=>y.1=va x f∧fi y.2 r=oe x f) ?_ ?_
 ·skip
  try simp only[go_sem]
  repeat'(refine a8 ?_<;>simp only[go_sem])
  rw[aaj]
  cases B with
  |false=>
   rw[if_neg (by simp)]at aQ cJ;simp only[go_sem];refine dp.intro (x2,u) [0,1,2,3,4,5,6,7,8,9,10,11,12,13] ⟨cJ.symm,aQ.symm⟩ ?_;simp only[go_sem];simp
  |true=>
   rw[if_pos rfl]at aQ cJ;simp only[go_sem];refine af.gV [2,3,4,6,8,10] (by simp only[gn,List.elem_cons,List.elem_nil,Nat.reduceBEq,Nat.reduceAdd,cond_true,cond_false];rfl) (el (n:=45) (rs:=[]) Tryz.func26 rfl Tryz.call26 Tryz.checked.mixed rfl rfl ?_);simp only[go_sem]
   try simp only[go_sem,I]
   repeat'(first|((first|refine af.intro (by first|assumption|apply RP) ?_|refine ar.intro (by assumption) ?_)<;>simp only[go_sem])|(with_reducible refine aq ?_)|fail)
   refine dp.intro (oc x2 u f.bg,nA u f.bg) [0,1,2,3,4,5,6,7,8,9,10,11,12,13] ⟨cJ.symm,aQ.symm⟩ ?_;simp only[go_sem,oc,nA,od,dg];simp
 rintro⟨y,v⟩ ⟨hy,Lm⟩;simp only at hy Lm;have Dv:y.streams=x.streams:=by rw[hy];exact DA
 have Dw:y.streams.length≤1000:=by rw[Dv];exact jb
 have Dx:∀q∈y.streams,eb q:=by rw[Dv];exact jx
 rw[←hy,←Lm]at a0;rw[←Lm]at nT;obtain⟨t,ht⟩:∃t,t=fi v r:=⟨_,rfl⟩;rw[←ht]at a0 nT;refine eu Tryz.checked.mixed 1 (α:=Unit) (fun _=>⟨(aF 4 (.ptr 2 0 0::.ab::.ptr 3 0 0::.ab::.ptr 6 0 0::aF 85 [])),[.box (J.bC c),.box (al.bC f),.box J.bJ,.box (J.aK y (.sl 4 0 y.streams.length) (.sl 5 0 y.packets.length)),.ag 39 (y.streams.map ae.enc),.ag 2 (y.packets.map aI.enc),.box (ae.aK t (.sl 7 0 t.send.ring.cells.length) (.sl 8 0 t.send.pending.length) (.sl 9 0 t.send.flight.length) (.sl 10 0 t.send.cb.length) (.sl 11 0 t.recv.buffer.bd.length)),.ag 1 (t.send.ring.cells.map a'),.ag 2 (t.send.pending.map aa.enc),.ag 2 (t.send.flight.map aa.enc),.ag 2 (t.send.cb.map aa.enc),.ag 2 (t.recv.buffer.bd.map ax.enc)]⟩) (fun _=>True) ?_ ?_
 ·simp only[go_sem];refine dp.intro () [0,1,2,3,4,5,6,7,8,9,10,13] trivial ?_;simp only[go_sem,ht,fi];simp
 rintro _ _;refine eu Tryz.checked.mixed 1 (α:=Unit) (fun _=>⟨(aF 4 (.ptr 2 0 0::.ab::.ptr 3 0 0::aF 87 [])),[.box (J.bC c),.box (al.bC f),.box J.bJ,.box (J.aK ((dt y t)) (.sl 4 0 ((dt y t)).streams.length) (.sl 5 0 ((dt y t)).packets.length)),.ag 39 (((dt y t)).streams.map ae.enc),.ag 2 (((dt y t)).packets.map aI.enc)]⟩) (fun _=>True) ?_ ?_
 ·simp only[go_sem,I];refine af.gV [4,6] (by simp only[gn,List.elem_cons,List.elem_nil,Nat.reduceBEq,Nat.reduceAdd,cond_true,cond_false];rfl) (wu y t (.ag 2 (y.packets.map aI.enc)) (fun _=>trivial) Dw Dx nT [.box (J.bC c),.box (al.bC f),.box J.bJ] _ (by simp[dd,db,bf,vok]) (by simp[bf,vok]) _ ?_);simp only[dW,dX,eP,go_sem];have m_:(dt y t).packets=y.packets:=(yq y t).2;refine dp.intro () [0,1,2,3,4,5] trivial ?_;simp only[go_sem];simp[m_]
 rintro _ _;refine jr Tryz.checked.mixed ?_
 try simp only[go_sem,I]
 repeat'(first|(refine a8 ?_<;>simp only[go_sem,I])|(with_reducible refine aq ?_)|fail)
 simp[a0,ah]
set_option maxRecDepth 100000
set_option maxHeartbeats 8000000 in
theorem Z6(c:J)(f:al)(m:Nat)(hv:bZ m c)(hm:m≤19):PureCall Tryz.prog 226 [.agg (J.enc c),.agg (al.enc f)] [.agg (J.enc ((zi c f))),.one (.int .i64 (wv c f))]:=by
 refine aP 62 Tryz.func226 Tryz.call226 [.cell 4 37,.tmp 5] ?_;intro ok;clear ok;have hz:=hv.sz (by omega);have j4:=jq hz;have s':=xQ hv f.stream;have kF:=s'.sz (by omega);have GB:=EU c f.stream hz;have cn:=kR (bw c f.stream) f.stream kF;rw[show(bN (bw c f.stream).streams f.stream).1=aw (bw c f.stream) f.stream from rfl]at cn;have w9:eb (aw (bw c f.stream) f.stream):=lY kF.2.1 f.stream;have cH:eb (Be (bw c f.stream) f):=w9;have gU:=kr (bw c f.stream).streams (Be (bw c f.stream) f) (by have:=kF.1;omega) kF.2.1 cH;have a0:zi c f=if wv c f=0 then(if f.bn=17 then jV (bw c f.stream) (Be (bw c f.stream) f)else bw c f.stream)else c:=rfl
 have ah:wv c f=if Bf c f then fG c f.stream else 5:=rfl
 have aQ:Be (bw c f.stream) f={aw (bw c f.stream) f.stream with c2:=u_ (aw (bw c f.stream) f.stream).c2 f.a1}:=rfl;rw[aQ]at gU a0;generalize aw (bw c f.stream) f.stream=s at *;generalize bw c f.stream=x at *;obtain⟨c9,dc,cB,de⟩:=w9
 try simp only[go_sem]
 repeat'((first|refine af.ag (by first|assumption|apply Lj) ?_|refine ar.ag (by assumption) ?_)<;>simp only[go_sem])
 cases Dy:decide (f.bn=21)with
 |true=>
  have Lk:=cl Dy;have hk:Bf c f=eJ c.df f.stream:=by unfold Bf;exact if_pos Lk
  rw[hk]at ah;rw[if_neg (show ¬f.bn=17 by omega)]at a0;have ta:decide (f.bn=17)=false:=bb (by omega)
  try simp only[go_sem]
  repeat'((first|refine af.ag (by first|assumption|apply GC) ?_|refine ar.ag (by assumption) ?_)<;>simp only[go_sem])
  cases ji:eJ c.df f.stream with
  |false=>
   rw[ji,if_neg (by simp)]at ah;rw[ah,if_neg (by decide)]at a0
   try simp only[go_sem,Bool.not_false]
   repeat'(first|((first|refine af.ag (by first|assumption|(apply gf<;>first|assumption|omega)) ?_|refine ar.ag (by assumption) ?_)<;>simp only[go_sem,I])|(with_reducible refine aq ?_)|fail)
   simp[a0,ah]
  |true=>
   rw[ji,if_pos rfl]at ah
   try simp only[go_sem,Bool.not_true]
   repeat'((first|refine af.ag (by assumption) ?_|refine ar.ag (by assumption) ?_)<;>simp only[go_sem,I])
   cases jD:decide (fG c f.stream≠0)with
   |true=>
    have hL:=cl jD;rw[ah,if_neg hL]at a0
    try simp only[go_sem]
    repeat'(first|((first|refine af.ag (by first|assumption|(apply gf<;>first|assumption|omega)) ?_|refine ar.ag (by assumption) ?_)<;>simp only[go_sem,I])|(with_reducible refine aq ?_)|fail)
    simp[a0,ah]
   |false=>
    have hL:fG c f.stream=0:=Decidable.not_not.1 (cG jD);rw[hL]at ah;rw[ah,if_pos rfl]at a0
    try simp only[go_sem,I,ta]
    repeat'(first|(with_reducible refine aq ?_)|fail)
    simp[a0,ah]
 |false=>
  have Lk:=cG Dy;have hk:Bf c f=eo c.df f.stream:=by unfold Bf;exact if_neg Lk
  rw[hk]at ah;simp only[go_sem]
  try simp only[go_sem,I]
  repeat'((first|refine af.ag (by assumption) ?_|refine ar.ag (by assumption) ?_)<;>simp only[go_sem,I])
  cases ji:eo c.df f.stream with
  |false=>
   rw[ji,if_neg (by simp)]at ah;rw[ah,if_neg (by decide)]at a0
   try simp only[go_sem,Bool.not_false]
   repeat'(first|((first|refine af.ag (by first|assumption|(apply gf<;>first|assumption|omega)) ?_|refine ar.ag (by assumption) ?_)<;>simp only[go_sem,I])|(with_reducible refine aq ?_)|fail)
   simp[a0,ah]
  |true=>
   rw[ji,if_pos rfl]at ah
   try simp only[go_sem,Bool.not_true]
   repeat'((first|refine af.ag (by assumption) ?_|refine ar.ag (by assumption) ?_)<;>simp only[go_sem,I])
   cases jD:decide (fG c f.stream≠0)with
   |true=>
    have hL:=cl jD;rw[ah,if_neg hL]at a0
    try simp only[go_sem]
    repeat'(first|((first|refine af.ag (by first|assumption|(apply gf<;>first|assumption|omega)) ?_|refine ar.ag (by assumption) ?_)<;>simp only[go_sem,I])|(with_reducible refine aq ?_)|fail)
    simp[a0,ah]
   |false=>
    have hL:fG c f.stream=0:=Decidable.not_not.1 (cG jD);rw[hL]at ah;rw[ah,if_pos rfl]at a0;simp only[go_sem]
    cases ta:decide (f.bn=17)with
    |true=>
     rw[if_pos (cl ta)]at a0
     try simp only[go_sem,I]
     repeat'(first|((first|refine af.ag (by first|assumption|apply RJ) ?_|refine ar.ag (by assumption) ?_)<;>simp only[go_sem,I])|(with_reducible refine aq ?_)|fail)
     simp[a0,ah,jV]
    |false=>
     rw[if_neg (cG ta)]at a0
     try simp only[go_sem,I]
     repeat'(first|(with_reducible refine aq ?_)|fail)
     simp[a0,ah]
theorem Z7(c:J)(f:al):(bif !e6 c then true else !eQ f)=!Dz c f:=by
 unfold Dz
 cases e6 c<;>cases eQ f<;>rfl
set_option maxHeartbeats 8000000 in
theorem Z8(c:J)(f:al)(m:Nat)(hv:bZ m c)(hm:m≤19):PureCall Tryz.prog 184 [.agg (J.enc c),.agg (al.enc f)] [.agg (J.enc ((mU c f))),.one (.int .i64 (t_ c f))]:=by
 refine aP 64 Tryz.func184 Tryz.call184 [.cell 4 37,.tmp 5] ?_;intro ok;clear ok;have hz:=hv.sz (by omega);have j4:=jq hz;have e9:=Z6 c f m hv hm;have br:=Z7 c f
 try simp only[go_sem]
 repeat'((first|refine af.ag (by first|assumption|(apply gf<;>first|assumption|omega)|(apply tB<;>first|assumption|omega)) ?_|refine ar.ag (by first|assumption|apply yI) ?_|refine a8 ?_)<;>simp only[go_sem,I])
 rw[br]
 cases hg:Dz c f with
 |false=>
  try simp only[go_sem,I,Bool.not_false]
  repeat'(first|(with_reducible refine aq ?_)|fail)
  simp[mU,t_,hg]
 |true=>
  simp only[go_sem,Bool.not_true]
  cases kz:decide (f.bn=16)with
  |true=>
   have h':=cl kz
   try simp only[go_sem]
   repeat'(first|((first|refine af.ag (by first|assumption|apply RJ) ?_|refine ar.ag (by assumption) ?_)<;>simp only[go_sem,I])|(with_reducible refine aq ?_)|fail)
   simp[mU,t_,hg,h']
  |false=>
   have Z9:=cG kz;simp only[go_sem]
   cases iL:decide (f.bn=18)with
   |true=>
    have h':=cl iL;simp only[go_sem]
    cases hu:f.fc with
    |true=>
     try simp only[go_sem]
     repeat'(first|((first|refine af.ag (by first|assumption|apply RK) ?_|refine ar.ag (by assumption) ?_)<;>simp only[go_sem,I])|(with_reducible refine aq ?_)|fail)
     simp[mU,t_,hg,h',hu]
    |false=>
     try simp only[go_sem]
     repeat'(first|((first|refine af.ag (by first|assumption|apply RK) ?_|refine ar.ag (by assumption) ?_)<;>simp only[go_sem,I])|(with_reducible refine aq ?_)|fail)
     simp[mU,t_,hg,h',hu]
   |false=>
    have Z_:=cG iL;simp only[go_sem]
    cases tJ:decide (f.bn=20)with
    |true=>
     have h':=cl tJ
     try simp only[go_sem,I]
     repeat'(first|(with_reducible refine aq ?_)|fail)
     simp[mU,t_,hg,h']
    |false=>
     have Z':=cG tJ;simp only[go_sem]
     cases tK:decide (f.bn=22)with
     |true=>
      have h':=cl tK
      try simp only[go_sem,I]
      repeat'(first|(with_reducible refine aq ?_)|fail)
      simp[mU,t_,hg,h']
     |false=>
      have aaa:=cG tK;simp only[go_sem]
      cases ta:decide (f.bn=17)with
      |true=>
       have h':=cl ta
       try simp only[go_sem]
       repeat'(first|((first|refine af.ag (by assumption) ?_|refine ar.ag (by assumption) ?_)<;>simp only[go_sem,I])|(with_reducible refine aq ?_)|fail)
       simp[mU,t_,hg,h']
      |false=>
       have aab:=cG ta;simp only[go_sem]
       cases Dy:decide (f.bn=21)with
       |true=>
        have h':=cl Dy
        try simp only[go_sem]
        repeat'(first|((first|refine af.ag (by assumption) ?_|refine ar.ag (by assumption) ?_)<;>simp only[go_sem,I])|(with_reducible refine aq ?_)|fail)
        simp[mU,t_,hg,h']
       |false=>
        have aac:=cG Dy
        try simp only[go_sem,I]
        repeat'(first|(with_reducible refine aq ?_)|fail)
        simp[mU,t_,hg,Z9,aab,Z_,Z',aac,aaa]
set_option maxHeartbeats 8000000 in
theorem aad(c:J)(f:al)(m:Nat)(hv:bZ m c)(hm:m≤19)(hd:f.data.length≤8)(az:0≤f.offset∧f.offset≤900):PureCall Tryz.prog 144 [.agg (J.enc c),.agg (al.enc f)] [.agg (J.enc ((uA c f))),.one (.int .i64 (Bg c f))]:=by
 refine aP 44 Tryz.func144 Tryz.call144 [.cell 4 37,.tmp 5] ?_;intro ok;clear ok;have hz:=hv.sz (by omega);have j4:=jq hz;have b5:=Z4 c f m hv hm hd az;have cv:=aae c f m hv hm;have cm:=aaf c f m hv hm;have dY:=Z8 c f m hv hm
 try simp only[go_sem]
 repeat'((first|refine af.ag (by first|assumption|(apply gf<;>first|assumption|omega)) ?_|refine ar.ag (by assumption) ?_)<;>simp only[go_sem,I])
 cases fI:decide (f.bn=8)with
 |true=>
  have h':=cl fI
  try simp only[go_sem]
  repeat'(first|((first|refine af.ag (by assumption) ?_|refine ar.ag (by assumption) ?_)<;>simp only[go_sem,I])|(with_reducible refine aq ?_)|fail)
  simp[uA,Bg,h']
 |false=>
  have u':=cG fI;simp only[go_sem]
  cases aC:decide (f.bn=4)with
  |true=>
   have h':=cl aC
   try simp only[go_sem]
   repeat'(first|((first|refine af.ag (by assumption) ?_|refine ar.ag (by assumption) ?_)<;>simp only[go_sem,I])|(with_reducible refine aq ?_)|fail)
   simp[uA,Bg,h']
  |false=>
   have n2:=cG aC;simp only[go_sem]
   cases bL:decide (f.bn=5)with
   |true=>
    have h':=cl bL
    try simp only[go_sem]
    repeat'(first|((first|refine af.ag (by assumption) ?_|refine ar.ag (by assumption) ?_)<;>simp only[go_sem,I])|(with_reducible refine aq ?_)|fail)
    simp[uA,Bg,h']
   |false=>
    have GD:=cG bL
    try simp only[go_sem]
    repeat'(first|((first|refine af.ag (by assumption) ?_|refine ar.ag (by assumption) ?_)<;>simp only[go_sem,I])|(with_reducible refine aq ?_)|fail)
    simp[uA,Bg,u',n2,GD]
set_option maxRecDepth 100000
def RL:List (List bt):=cE 13 [1564799,1574638,1574632,1574614,1574560,1515349,1514863,1513405,1509031,1348285,1564677,1436859,1062882]
attribute [go_sem] RL
theorem aag(c:J)(id:Int):(bif bif !iS c then true else !(bN c.streams id).2 then true else !(aw c id).eJ)=!i_ c id:=by
 unfold i_
 cases iS c<;>cases(bN c.streams id).2<;>cases(aw c id).eJ<;>rfl
set_option maxHeartbeats 8000000 in
theorem RM(c:J)(id k:Int)(m:Nat)(hv:bZ m c)(hm:m≤20):PureCall Tryz.prog 7 [.agg (J.enc c),.one (.int .i64 id),.one (.int .i64 k)] [.one (.str (ny c id k)),.one (.bool (nz c id k)),.agg (J.enc ((er c id k)))]:=by
 refine ui 63 Tryz.func7 Tryz.call7 [.tmp 6,.tmp 7,.cell 8 37] ?_;intro ok;clear ok;have hz:=hv.sz hm;have j4:=jq hz;have jb:c.streams.length≤1000:=by have:=hz.1;omega
 have jx:=hz.2.1;have a0:er c id k=if i_ c id then dt (fr c id k) (fW c id k)else c:=rfl
 have cw:ny c id k=if i_ c id then jI (aw c id).recv k else []:=rfl
 have ah:nz c id k=(i_ c id&&(decide ((fX c id k).state=3)||decide ((fX c id k).state=5))):=rfl;have aQ:fW c id k=if decide ((fX c id k).state<4)then nA (fi (aw c id) (fX c id k)) (fX c id k).buffer.next else fi (aw c id) (fX c id k):=rfl
 have cJ:fr c id k=if decide ((fX c id k).state<4)then oc c (fi (aw c id) (fX c id k)) (fX c id k).buffer.next else c:=rfl
 have br:=aag c id;have nT:eb (fW c id k):=(Ll hv id k).sz hm;have DA:(fr c id k).streams=c.streams:=(RN c id k).1;obtain⟨c9,dc,cB,de⟩:=lY hz.2.1 id;have cB:∀d9∈(bN c.streams id).1.recv.buffer.bd,d9.data.length≤1048576:=fun d9 hc=>by have:=cB d9 hc;omega
 have cn:=kR c id hz;have aL:fX c id k=g5 (aw c id).recv k:=rfl;rw[show(bN c.streams id).1=aw c id from rfl]at c9 dc cB de cn;generalize fX c id k=r at *;generalize aw c id=s at *;refine eu Tryz.checked.mixed 6 (α:=Unit) (fun _=>⟨(aF 6 (.d (.str [])::.d (.bool false)::.ptr 1 0 0::.ptr 3 0 0::.ptr 6 0 0::.ab::.d (.str (jI s.recv k))::.ptr 2 0 0::aF 49 [])),[.box (J.bC c),.box J.bJ,.box (bc.aK r (.ab)),.box (J.aK c (.sl 4 0 c.streams.length) (.sl 5 0 c.packets.length)),.ag 39 (c.streams.map ae.enc),.ag 2 (c.packets.map aI.enc),.box (ae.aK (fi s r) (.sl 7 0 (fi s r).send.ring.cells.length) (.sl 8 0 (fi s r).send.pending.length) (.sl 9 0 (fi s r).send.flight.length) (.sl 10 0 (fi s r).send.cb.length) (.sl 11 0 (fi s r).recv.buffer.bd.length)),.ag 1 ((fi s r).send.ring.cells.map a'),.ag 2 ((fi s r).send.pending.map aa.enc),.ag 2 ((fi s r).send.flight.map aa.enc),.ag 2 ((fi s r).send.cb.map aa.enc),.ag 2 ((fi s r).recv.buffer.bd.map ax.enc)]⟩) (fun _=>i_ c id=true) ?_ ?_
 ·skip
  try simp only[go_sem]
  repeat'(first|((first|refine af.ag (by first|assumption|(apply gf<;>first|assumption|omega)|(apply uj<;>first|assumption|omega)) ?_|refine ar.ag (by assumption) ?_|refine a8 ?_|refine en ?_)<;>simp only[go_sem,I])|(with_reducible refine aq ?_)|fail)
  rw[br]
  cases hg:i_ c id with
  |false=>
   rw[hg]at a0 cw ah
   try simp only[go_sem,Bool.not_false]
   repeat'(first|(refine a9 [[.post,.cY,.cY,.post],[.cY,.post,.post,.post],[.cY,.pre,.post,.post],[.pre,.pre,.pre,.post]] (by kernel_rfl) (by rfl) ?_<;>simp only[go_sem,I])|(with_reducible refine aq ?_)|fail)
   simp[a0,cw,ah]
  |true=>
   try simp only[go_sem,I,Bool.not_true]
   repeat'((first|refine af.ag (by first|assumption|(apply RO<;>first|assumption|omega)) ?_|refine ar.ag (by assumption) ?_)<;>simp only[go_sem,I])
   refine dp.intro () [0,1,12,4,2,3,10,5,6,7,8,11] (by first|exact hg|trivial) ?_;simp only[go_sem,fi];simp[←aL]
 rintro _ hg;rw[hg,if_pos rfl]at a0 cw;rw[hg,Bool.true_and]at ah;refine eu Tryz.checked.mixed 1 (α:=J×ae) (fun y=>⟨(aF 6 (.d (.str [])::.d (.bool false)::.ptr 1 0 0::.ptr 3 0 0::.ptr 6 0 0::.ab::.d (.str (jI s.recv k))::.ptr 2 0 0::aF 49 [])),[.box (J.bC c),.box J.bJ,.box (bc.aK r (.ab)),.box (J.aK y.1 (.sl 4 0 y.1.streams.length) (.sl 5 0 y.1.packets.length)),.ag 39 (y.1.streams.map ae.enc),.ag 2 (y.1.packets.map aI.enc),.box (ae.aK y.2 (.sl 7 0 y.2.send.ring.cells.length) (.sl 8 0 y.2.send.pending.length) (.sl 9 0 y.2.send.flight.length) (.sl 10 0 y.2.send.cb.length) (.sl 11 0 y.2.recv.buffer.bd.length)),.ag 1 (y.2.send.ring.cells.map a'),.ag 2 (y.2.send.pending.map aa.enc),.ag 2 (y.2.send.flight.map aa.enc),.ag 2 (y.2.send.cb.map aa.enc),.ag 2 (y.2.recv.buffer.bd.map ax.enc)]⟩) (fun y=>y.1=fr c id k∧y.2=fW c id k) ?_ ?_
 ·simp only[go_sem,fi]
  cases hB:decide (r.state<4)with
  |false=>
   rw[hB,if_neg (by simp)]at aQ cJ;simp only[go_sem];refine dp.intro (c,fi s r) [0,1,2,3,4,5,6,7,8,9,10,11] ⟨cJ.symm,aQ.symm⟩ ?_;simp only[go_sem,fi];simp
  |true=>
   rw[hB,if_pos rfl]at aQ cJ;simp only[go_sem];refine af.gV [6,7,8,9,10,12,13] (by simp only[gn,List.elem_cons,List.elem_nil,Nat.reduceBEq,Nat.reduceAdd,cond_true,cond_false];rfl) (el (n:=45) (rs:=[]) Tryz.func26 rfl Tryz.call26 Tryz.checked.mixed rfl rfl ?_);simp only[go_sem]
   try simp only[go_sem,I]
   repeat'((first|refine af.intro (by first|assumption|apply RP) ?_|refine ar.intro (by assumption) ?_)<;>simp only[go_sem])
   refine dp.intro (oc c (fi s r) r.buffer.next,nA (fi s r) r.buffer.next) [0,1,2,3,4,5,6,7,8,9,10,11] ⟨cJ.symm,aQ.symm⟩ ?_;simp only[go_sem,fi,oc,nA,od,dg];simp
 rintro⟨x,t⟩ ⟨hx,ht⟩;simp only at hx ht;rw[←hx,←ht]at a0;rw[←hx]at DA;rw[←ht]at nT;refine eu Tryz.checked.mixed 1 (α:=Unit) (fun _=>⟨(aF 6 (.d (.str [])::.d (.bool false)::.ptr 1 0 0::.ptr 3 0 0::.ab::.ab::.d (.str (jI s.recv k))::.ptr 2 0 0::aF 49 [])),[.box (J.bC c),.box J.bJ,.box (bc.aK r (.ab)),.box (J.aK ((dt x t)) (.sl 4 0 ((dt x t)).streams.length) (.sl 5 0 ((dt x t)).packets.length)),.ag 39 (((dt x t)).streams.map ae.enc),.ag 2 (((dt x t)).packets.map aI.enc)]⟩) (fun _=>True) ?_ ?_
 ·simp only[go_sem,I];refine af.gV [6,7,8,9,12,13] (by simp only[gn,List.elem_cons,List.elem_nil,Nat.reduceBEq,Nat.reduceAdd,cond_true,cond_false];rfl) (wu x t (.ag 2 (x.packets.map aI.enc)) (fun _=>trivial) (by rw[DA];exact jb) (by rw[DA];exact jx) nT [.box (J.bC c),.box J.bJ,.box (bc.aK r (.ab))] _ (by simp[dd,db,bf,vok]) (by simp[bf,vok]) _ ?_);simp only[dW,dX,eP,go_sem];have m_:(dt x t).packets=x.packets:=(yq x t).2;refine dp.intro () [0,1,2,3,4,5] trivial ?_;simp only[go_sem];simp[m_]
 rintro _ _;refine jr Tryz.checked.mixed ?_
 try simp only[go_sem]
 repeat'(first|((first|refine a8 ?_|refine en ?_|refine a9 RL (by kernel_rfl) (by rfl) ?_)<;>simp only[go_sem,I])|(with_reducible refine aq ?_)|fail)
 simp[a0,cw,ah]
set_option maxRecDepth 100000
theorem Fg{P:Program}{kv:List V}{c:Operand}{a b:Code}{σ:St}{K:St→Prop}{aS:List (Nat×(St→Prop))}{cq:St→Prop}(h:σ.ev c=.d (.bool false))(hg:gQ P kv b σ K aS cq):gQ P kv (.cond c a b) σ K aS cq:=by
 intro B w0 kp Q u w bp bU cJ aL r;obtain⟨aG,φ,r0,bR⟩:=r;have hc:=xl r0 c;rw[h]at hc;exact wp_cond_false (lB hc) (hg B w0 kp Q u w bp bU cJ aL ⟨aG,φ,r0,bR⟩)
theorem Ww{P:Program}{kv:List V}{c:Operand}{a b:Code}{σ:St}{K:St→Prop}{aS:List (Nat×(St→Prop))}{cq:St→Prop}(h:σ.ev c=.d (.bool true))(hg:gQ P kv a σ K aS cq):gQ P kv (.cond c a b) σ K aS cq:=by
 intro B w0 kp Q u w bp bU cJ aL r;obtain⟨aG,φ,r0,bR⟩:=r;have hc:=xl r0 c;rw[h]at hc;exact wp_cond_true (lB hc) (hg B w0 kp Q u w bp bU cJ aL ⟨aG,φ,r0,bR⟩)
theorem Wx{P:Program}{kv:List V}{a b:Code}{σ:St}{K K2:St→Prop}{aS:List (Nat×(St→Prop))}{cq:St→Prop}(h1:gQ P kv a σ K2 aS cq)(h2:∀σ',K2 σ'→gQ P kv b σ' K aS cq):gQ P kv (.seq a b) σ K aS cq:=by
 intro B w0 kp Q u w bp bU cJ aL r;exact wp_seq (h1 B w0 kp _ u w bp (fun σ' fh w' h' c3=>h2 σ' h' B w0 kp Q fh w' bp bU cJ aL c3) (fun id σ' fh w' h' c3=>cJ id σ' fh w' h' c3) (fun σ' fh w' h' c3=>aL σ' fh w' h' c3) r)
def tI(c:J)(s:ae)(k:Int):ae:={ka c s k with send:=s.send,recv:=s.recv}
theorem Wy(c:J)(s:ae)(k:Int):ka c s k=tI c s k:=by
 obtain⟨h1,h2,_⟩:=Fh c s k;unfold tI;rw[←h1,←h2]
def Jv:List (Nat×List Bool):=[(10,[false,false,false,false,false,false,false,false,false,false]),(9,[true,false,false,false,false,false,false,false,false,false]),(9,[false,false,true,false,false,false,false,false,false,false]),(9,[false,false,false,true,false,false,false,false,false,false]),(9,[false,false,false,false,true,false,false,false,false,false]),(8,[true,true,false,false,false,false,false,false,false,false]),(8,[true,false,true,false,false,false,false,false,false,false]),(8,[true,false,false,true,false,false,false,false,false,false]),(8,[true,false,false,false,true,false,false,false,false,false]),(8,[false,false,true,true,false,false,false,false,false,false]),(8,[false,false,true,false,true,false,false,false,false,false]),(8,[false,false,false,true,true,false,false,false,false,false]),(8,[false,false,false,false,true,true,false,false,false,false]),(7,[true,true,true,false,false,false,false,false,false,false]),(7,[true,true,false,true,false,false,false,false,false,false]),(7,[true,true,false,false,true,false,false,false,false,false]),(7,[true,false,true,true,false,false,false,false,false,false]),(7,[true,false,true,false,true,false,false,false,false,false]),(7,[true,false,false,true,true,false,false,false,false,false]),(7,[true,false,false,false,true,true,false,false,false,false]),(7,[false,false,true,true,true,false,false,false,false,false]),(7,[false,false,true,false,true,true,false,false,false,false]),(7,[false,false,false,true,true,true,false,false,false,false]),(6,[true,true,true,true,false,false,false,false,false,false]),(6,[true,true,true,false,true,false,false,false,false,false]),(6,[true,true,false,true,true,false,false,false,false,false]),(6,[true,true,false,false,true,true,false,false,false,false]),(6,[true,false,true,true,true,false,false,false,false,false]),(6,[true,false,true,false,true,true,false,false,false,false]),(6,[true,false,false,true,true,true,false,false,false,false]),(6,[false,false,true,true,true,true,false,false,false,false]),(5,[true,true,true,true,true,false,false,false,false,false]),(5,[true,true,true,false,true,true,false,false,false,false]),(5,[true,true,false,true,true,true,false,false,false,false]),(5,[true,false,true,true,true,true,false,false,false,false]),(5,[false,false,true,true,true,true,true,false,false,false]),(4,[true,true,true,true,true,true,false,false,false,false]),(4,[true,false,true,true,true,true,true,false,false,false]),(3,[true,true,true,true,true,true,true,false,false,false]),(2,[true,true,true,true,true,true,true,true,false,false]),(1,[true,true,true,true,true,true,true,true,true,false]),(0,[true,true,true,true,true,true,true,true,true,true])]
def yO(c:J)(f:al)(s e:ae)(S:List Bool):St:=⟨(.ab::.ab::.ptr 0 0 0::.ptr 1 0 0::.ptr 2 0 0::.ptr 5 0 0::aF 6 (.ptr 11 0 0::aF 17 ((bif S.getD 0 false then .ptr 5 0 17 else .ab)::(bif S.getD 1 false then .sl 3 0 c.streams.length else .ab)::(bif S.getD 2 false then .agg (J.bC c)else .ab)::(bif S.getD 3 false then .agg (ae.aK s (.sl 6 0 s.send.ring.cells.length) (.sl 7 0 s.send.pending.length) (.sl 8 0 s.send.flight.length) (.sl 9 0 s.send.cb.length) (.sl 10 0 s.recv.buffer.bd.length))else .ab)::(bif S.getD 4 false then .ptr 1 0 0 else .ab)::(bif S.getD 5 false then .d (.int .i64 f.bn)else .ab)::(bif S.getD 6 false then .agg [.d (.int .i64 e.id),.d (.int .i64 s.send.state),.d (.int .i64 s.send.ring.size),.d (.int .i64 s.send.ring.base),.d (.int .i64 s.send.ring.cj),.sl 6 0 s.send.ring.cells.length,.sl 7 0 s.send.pending.length,.sl 8 0 s.send.flight.length,.sl 9 0 s.send.cb.length,.d (.int .i64 s.send.bg),.d (.int .i64 s.send.ba),.d (.int .i64 s.send.sent),.d (.int .i64 s.send.code),.d (.int .i64 e.c2.a1),.d (.int .i64 e.c2.used),.d (.int .i64 e.c2.blocked),.d (.int .i64 e.c2.i4),.d (.int .i64 s.recv.state),.d (.int .i64 s.recv.buffer.next),.sl 10 0 s.recv.buffer.bd.length,.d (.int .i64 s.recv.bg),.d (.int .i64 s.recv.d2),.d (.int .i64 s.recv.code),.d (.int .i64 e.window.size),.d (.int .i64 e.window.most),.d (.int .i64 e.window.a1),.d (.int .i64 e.window.seen),.d (.int .i64 e.window.read),.d (.int .i64 e.window.jU),.d (.int .i64 e.priority.iK),.d (.bool e.priority.g2),.d (.bool e.eo),.d (.bool e.eJ),.d (.bool e.ho),.d (.bool e.hH),.d (.bool e.kb),.d (.bool e.ky),.d (.int .i64 e.lC),.d (.bool e.counted)]else .ab)::(bif S.getD 7 false then .sl 12 0 (dq c.streams e).length else .ab)::(bif S.getD 8 false then .ptr 5 0 17 else .ab)::aF 47 []))),[.box (J.bC c),.box (al.bC f),.box J.bJ,.ag 39 (c.streams.map ae.enc),.ag 2 (c.packets.map aI.enc),.box (J.aK c ((bif S.getD 9 false then .sl 12 0 (dq c.streams e).length else .sl 3 0 c.streams.length)) (.sl 4 0 c.packets.length)),.ag 1 (s.send.ring.cells.map a'),.ag 2 (s.send.pending.map aa.enc),.ag 2 (s.send.flight.map aa.enc),.ag 2 (s.send.cb.map aa.enc),.ag 2 (s.recv.buffer.bd.map ax.enc),.box (ae.aK s (.sl 6 0 s.send.ring.cells.length) (.sl 7 0 s.send.pending.length) (.sl 8 0 s.send.flight.length) (.sl 9 0 s.send.cb.length) (.sl 10 0 s.recv.buffer.bd.length))]++(bif S.getD 7 false then [.ag 39 ((dq c.streams e).map ae.enc)]else [])⟩
set_option maxHeartbeats 8000000 in
theorem Wz(c:J)(f:al)(s:ae)(k:Int)(hs:eb s)(kv:List V)(bp:bf 12 kv)(K:V→List H→Prop)
  (hk:∀e,e=tI c s k→K (.agg [.d (.int .i64 e.id),.d (.int .i64 s.send.state),.d (.int .i64 s.send.ring.size),.d (.int .i64 s.send.ring.base),.d (.int .i64 s.send.ring.cj),.sl 6 0 s.send.ring.cells.length,.sl 7 0 s.send.pending.length,.sl 8 0 s.send.flight.length,.sl 9 0 s.send.cb.length,.d (.int .i64 s.send.bg),.d (.int .i64 s.send.ba),.d (.int .i64 s.send.sent),.d (.int .i64 s.send.code),.d (.int .i64 e.c2.a1),.d (.int .i64 e.c2.used),.d (.int .i64 e.c2.blocked),.d (.int .i64 e.c2.i4),.d (.int .i64 s.recv.state),.d (.int .i64 s.recv.buffer.next),.sl 10 0 s.recv.buffer.bd.length,.d (.int .i64 s.recv.bg),.d (.int .i64 s.recv.d2),.d (.int .i64 s.recv.code),.d (.int .i64 e.window.size),.d (.int .i64 e.window.most),.d (.int .i64 e.window.a1),.d (.int .i64 e.window.seen),.d (.int .i64 e.window.read),.d (.int .i64 e.window.jU),.d (.int .i64 e.priority.iK),.d (.bool e.priority.g2),.d (.bool e.eo),.d (.bool e.eJ),.d (.bool e.ho),.d (.bool e.hH),.d (.bool e.kb),.d (.bool e.ky),.d (.int .i64 e.lC),.d (.bool e.counted)]) [.box (J.bC c),.box (al.bC f),.box J.bJ,.ag 39 (c.streams.map ae.enc),.ag 2 (c.packets.map aI.enc),.box (J.aK c (.sl 3 0 c.streams.length) (.sl 4 0 c.packets.length)),.ag 1 (s.send.ring.cells.map a'),.ag 2 (s.send.pending.map aa.enc),.ag 2 (s.send.flight.map aa.enc),.ag 2 (s.send.cb.map aa.enc),.ag 2 (s.recv.buffer.bd.map ax.enc),.box (ae.aK s (.sl 6 0 s.send.ring.cells.length) (.sl 7 0 s.send.pending.length) (.sl 8 0 s.send.flight.length) (.sl 9 0 s.send.cb.length) (.sl 10 0 s.recv.buffer.bd.length))]) :
  di Tryz.prog 212 kv [.box (J.bC c),.box (al.bC f),.box J.bJ,.ag 39 (c.streams.map ae.enc),.ag 2 (c.packets.map aI.enc),.box (J.aK c (.sl 3 0 c.streams.length) (.sl 4 0 c.packets.length)),.ag 1 (s.send.ring.cells.map a'),.ag 2 (s.send.pending.map aa.enc),.ag 2 (s.send.flight.map aa.enc),.ag 2 (s.send.cb.map aa.enc),.ag 2 (s.recv.buffer.bd.map ax.enc),.box (ae.aK s (.sl 6 0 s.send.ring.cells.length) (.sl 7 0 s.send.pending.length) (.sl 8 0 s.send.flight.length) (.sl 9 0 s.send.cb.length) (.sl 10 0 s.recv.buffer.bd.length))] [.agg (J.bC c),.agg (ae.aK s (.sl 6 0 s.send.ring.cells.length) (.sl 7 0 s.send.pending.length) (.sl 8 0 s.send.flight.length) (.sl 9 0 s.send.cb.length) (.sl 10 0 s.recv.buffer.bd.length)),.d (.int .i64 k)] K:=by
 have ba:∀(ex:List H) (e:ae),e=tI c s k→nN kv K (.agg [.d (.int .i64 e.id),.d (.int .i64 s.send.state),.d (.int .i64 s.send.ring.size),.d (.int .i64 s.send.ring.base),.d (.int .i64 s.send.ring.cj),.sl 6 0 s.send.ring.cells.length,.sl 7 0 s.send.pending.length,.sl 8 0 s.send.flight.length,.sl 9 0 s.send.cb.length,.d (.int .i64 s.send.bg),.d (.int .i64 s.send.ba),.d (.int .i64 s.send.sent),.d (.int .i64 s.send.code),.d (.int .i64 e.c2.a1),.d (.int .i64 e.c2.used),.d (.int .i64 e.c2.blocked),.d (.int .i64 e.c2.i4),.d (.int .i64 s.recv.state),.d (.int .i64 s.recv.buffer.next),.sl 10 0 s.recv.buffer.bd.length,.d (.int .i64 s.recv.bg),.d (.int .i64 s.recv.d2),.d (.int .i64 s.recv.code),.d (.int .i64 e.window.size),.d (.int .i64 e.window.most),.d (.int .i64 e.window.a1),.d (.int .i64 e.window.seen),.d (.int .i64 e.window.read),.d (.int .i64 e.window.jU),.d (.int .i64 e.priority.iK),.d (.bool e.priority.g2),.d (.bool e.eo),.d (.bool e.eJ),.d (.bool e.ho),.d (.bool e.hH),.d (.bool e.kb),.d (.bool e.ky),.d (.int .i64 e.lC),.d (.bool e.counted)]) ([.box (J.bC c),.box (al.bC f),.box J.bJ,.ag 39 (c.streams.map ae.enc),.ag 2 (c.packets.map aI.enc),.box (J.aK c (.sl 3 0 c.streams.length) (.sl 4 0 c.packets.length)),.ag 1 (s.send.ring.cells.map a'),.ag 2 (s.send.pending.map aa.enc),.ag 2 (s.send.flight.map aa.enc),.ag 2 (s.send.cb.map aa.enc),.ag 2 (s.recv.buffer.bd.map ax.enc),.box (ae.aK s (.sl 6 0 s.send.ring.cells.length) (.sl 7 0 s.send.pending.length) (.sl 8 0 s.send.flight.length) (.sl 9 0 s.send.cb.length) (.sl 10 0 s.recv.buffer.bd.length))]++ex):=by
  intro ex e he;refine⟨List.range 12,.agg [.d (.int .i64 e.id),.d (.int .i64 s.send.state),.d (.int .i64 s.send.ring.size),.d (.int .i64 s.send.ring.base),.d (.int .i64 s.send.ring.cj),.sl 6 0 s.send.ring.cells.length,.sl 7 0 s.send.pending.length,.sl 8 0 s.send.flight.length,.sl 9 0 s.send.cb.length,.d (.int .i64 s.send.bg),.d (.int .i64 s.send.ba),.d (.int .i64 s.send.sent),.d (.int .i64 s.send.code),.d (.int .i64 e.c2.a1),.d (.int .i64 e.c2.used),.d (.int .i64 e.c2.blocked),.d (.int .i64 e.c2.i4),.d (.int .i64 s.recv.state),.d (.int .i64 s.recv.buffer.next),.sl 10 0 s.recv.buffer.bd.length,.d (.int .i64 s.recv.bg),.d (.int .i64 s.recv.d2),.d (.int .i64 s.recv.code),.d (.int .i64 e.window.size),.d (.int .i64 e.window.most),.d (.int .i64 e.window.a1),.d (.int .i64 e.window.seen),.d (.int .i64 e.window.read),.d (.int .i64 e.window.jU),.d (.int .i64 e.priority.iK),.d (.bool e.priority.g2),.d (.bool e.eo),.d (.bool e.eJ),.d (.bool e.ho),.d (.bool e.hH),.d (.bool e.kb),.d (.bool e.ky),.d (.int .i64 e.lC),.d (.bool e.counted)],[.box (J.bC c),.box (al.bC f),.box J.bJ,.ag 39 (c.streams.map ae.enc),.ag 2 (c.packets.map aI.enc),.box (J.aK c (.sl 3 0 c.streams.length) (.sl 4 0 c.packets.length)),.ag 1 (s.send.ring.cells.map a'),.ag 2 (s.send.pending.map aa.enc),.ag 2 (s.send.flight.map aa.enc),.ag 2 (s.send.cb.map aa.enc),.ag 2 (s.recv.buffer.bd.map ax.enc),.box (ae.aK s (.sl 6 0 s.send.ring.cells.length) (.sl 7 0 s.send.pending.length) (.sl 8 0 s.send.flight.length) (.sl 9 0 s.send.cb.length) (.sl 10 0 s.recv.buffer.bd.length))],?_,hk e he⟩;refine yw (hs:=[.box (J.bC c),.box (al.bC f),.box J.bJ,.ag 39 (c.streams.map ae.enc),.ag 2 (c.packets.map aI.enc),.box (J.aK c (.sl 3 0 c.streams.length) (.sl 4 0 c.packets.length)),.ag 1 (s.send.ring.cells.map a'),.ag 2 (s.send.pending.map aa.enc),.ag 2 (s.send.flight.map aa.enc),.ag 2 (s.send.cb.map aa.enc),.ag 2 (s.recv.buffer.bd.map ax.enc),.box (ae.aK s (.sl 6 0 s.send.ring.cells.length) (.sl 7 0 s.send.pending.length) (.sl 8 0 s.send.flight.length) (.sl 9 0 s.send.cb.length) (.sl 10 0 s.recv.buffer.bd.length))]) (ex:=ex) ?_ bp ?_ ?_
  ·simp[dd,db,bf,vok]
  ·simp[vsees,vsee,ren,rens]
  ·simp[bf,vok]
 obtain⟨c9,dc,cB,de⟩:=hs;refine di.see ?_;refine(el (n:=35) (rs:=[.cell 6 57]) Tryz.func212 rfl Tryz.call212 Tryz.checked.mixed rfl rfl ?_);simp only[go_sem]
 try simp only[go_sem,I]
 repeat'((first|refine af.intro (by first|apply ON|apply OP) ?_|refine bq (fun h=>?_) (fun h=>?_))<;>simp only[go_sem,I])
 all_goals simp only[decide_eq_true_eq,decide_eq_false_iff_not]at *
 ·exact ba _ {s with ho:=false} (by simp[tI,ka, *])
 ·exact ba _ {s with hH:=false} (by simp[tI,ka, *])
 ·exact ba _ {s with window:=(l9 c s).1,kb:=false} (by simp[tI,ka, *])
 ·exact ba _ {s with kb:=false} (by simp[tI,ka, *])
 ·exact ba _ {s with c2:=uE s.c2} (by simp[tI,ka, *])
 ·exact ba _ s (by simp[tI,ka, *])
set_option maxHeartbeats 8000000 in
theorem WA(c:J)(f:al)(hz:iH c)(aO:e6 c=true)(kz:decide (f.bn=16)=false)(iL:decide (f.bn=18)=false)(tJ:decide (f.bn=20)=false)(tK:decide (f.bn=22)=false)(hf:(bN c.streams f.stream).2=true):PureCall Tryz.prog 178 [.agg (J.enc c),.agg (al.enc f)] [.agg (J.enc ((jV c (ka c (aw c f.stream) f.bn))))]:=by
 refine ui 86 Tryz.func178 Tryz.call178 [.cell 4 37] ?_;intro ok;clear ok;have j4:=jq hz;have w9:eb (aw c f.stream):=lY hz.2.1 f.stream;obtain⟨eH,gg,iI⟩:=Fh c (aw c f.stream) f.bn;have sS:eb (ka c (aw c f.stream) f.bn):=by unfold eb;rw[eH,gg];exact w9
 have cn:=kR c f.stream hz;rw[show(bN c.streams f.stream).1=aw c f.stream from rfl,hf]at cn;have gU:=kr c.streams (ka c (aw c f.stream) f.bn) (by have:=hz.1;omega) hz.2.1 sS;rw[Wy]at gU⊢;generalize aw c f.stream=s at *;clear sS eH gg iI;obtain⟨e,he⟩:∃e,e=tI c s f.bn:=⟨_,rfl⟩;have ai:e.send=s.send:=by rw[he];rfl
 have aj:e.recv=s.recv:=by rw[he];rfl
 rw[←he]at gU⊢;simp only[ae.enc,ai,aj]at gU;refine eu Tryz.checked.mixed 3 (α:=Unit) (fun _=>⟨(.ab::.ab::.ptr 0 0 0::.ptr 1 0 0::.ptr 2 0 0::.ptr 5 0 0::aF 80 []),[.box (J.bC c),.box (al.bC f),.box J.bJ,.ag 39 (c.streams.map ae.enc),.ag 2 (c.packets.map aI.enc),.box (J.aK c (.sl 3 0 c.streams.length) (.sl 4 0 c.packets.length))]⟩) (fun _=>True) ?_ ?_
 ·skip
  try simp only[go_sem]
  repeat'((first|refine af.ag (by first|assumption|(apply gf<;>first|assumption|omega)|(apply tB<;>first|assumption|omega)) ?_|refine ar.ag (by assumption) ?_)<;>simp only[go_sem,I,aO,Bool.not_true])
  refine dp.intro () [0,1,2,3,4,5] trivial ?_;simp only[go_sem];simp
 rintro _ _;simp only[xm,xn];refine Wx (K2:=fun σ=>σ=yO c f s e (List.replicate 10 true)) ?_ ?_
 ·skip
  refine eu Tryz.checked.mixed 1 (α:=Unit) (fun _=>⟨(.ab::.ab::.ptr 0 0 0::.ptr 1 0 0::.ptr 2 0 0::.ptr 5 0 0::aF 15 (.d (.int .i64 f.bn)::aF 64 [])),[.box (J.bC c),.box (al.bC f),.box J.bJ,.ag 39 (c.streams.map ae.enc),.ag 2 (c.packets.map aI.enc),.box (J.aK c (.sl 3 0 c.streams.length) (.sl 4 0 c.packets.length))]⟩) (fun _=>True) ?_ ?_
  ·skip
   try simp only[go_sem]
   refine dp.intro () [0,1,2,3,4,5] trivial ?_;simp only[go_sem];simp
  rintro _ _;simp only[xm,xn];refine WB ?_;refine eu Tryz.checked.mixed 1 (α:=Unit) (fun _=>⟨(.ab::.ab::.ptr 0 0 0::.ptr 1 0 0::.ptr 2 0 0::.ptr 5 0 0::aF 15 (.d (.int .i64 f.bn)::aF 17 (.d (.bool false)::aF 46 []))),[.box (J.bC c),.box (al.bC f),.box J.bJ,.ag 39 (c.streams.map ae.enc),.ag 2 (c.packets.map aI.enc),.box (J.aK c (.sl 3 0 c.streams.length) (.sl 4 0 c.packets.length))]⟩) (fun _=>True) ?_ ?_
  ·skip
   try simp only[go_sem,kz]
   refine dp.intro () [0,1,2,3,4,5] trivial ?_;simp only[go_sem];simp
  rintro _ _;simp only[xm,xn];refine Fg rfl ?_;refine eu Tryz.checked.mixed 1 (α:=Unit) (fun _=>⟨(.ab::.ab::.ptr 0 0 0::.ptr 1 0 0::.ptr 2 0 0::.ptr 5 0 0::aF 15 (.d (.int .i64 f.bn)::aF 27 (.d (.bool false)::aF 36 []))),[.box (J.bC c),.box (al.bC f),.box J.bJ,.ag 39 (c.streams.map ae.enc),.ag 2 (c.packets.map aI.enc),.box (J.aK c (.sl 3 0 c.streams.length) (.sl 4 0 c.packets.length))]⟩) (fun _=>True) ?_ ?_
  ·skip
   try simp only[go_sem,iL]
   refine dp.intro () [0,1,2,3,4,5] trivial ?_;simp only[go_sem];simp
  rintro _ _;simp only[xm,xn];refine Fg rfl ?_;refine eu Tryz.checked.mixed 1 (α:=Unit) (fun _=>⟨(.ab::.ab::.ptr 0 0 0::.ptr 1 0 0::.ptr 2 0 0::.ptr 5 0 0::aF 15 (.d (.int .i64 f.bn)::aF 49 (.d (.bool false)::aF 14 []))),[.box (J.bC c),.box (al.bC f),.box J.bJ,.ag 39 (c.streams.map ae.enc),.ag 2 (c.packets.map aI.enc),.box (J.aK c (.sl 3 0 c.streams.length) (.sl 4 0 c.packets.length))]⟩) (fun _=>True) ?_ ?_
  ·skip
   try simp only[go_sem,tJ]
   refine dp.intro () [0,1,2,3,4,5] trivial ?_;simp only[go_sem];simp
  rintro _ _;simp only[xm,xn];refine Fg rfl ?_;refine eu Tryz.checked.mixed 1 (α:=Unit) (fun _=>⟨(.ab::.ab::.ptr 0 0 0::.ptr 1 0 0::.ptr 2 0 0::.ptr 5 0 0::aF 15 (.d (.int .i64 f.bn)::aF 55 (.d (.bool false)::aF 8 []))),[.box (J.bC c),.box (al.bC f),.box J.bJ,.ag 39 (c.streams.map ae.enc),.ag 2 (c.packets.map aI.enc),.box (J.aK c (.sl 3 0 c.streams.length) (.sl 4 0 c.packets.length))]⟩) (fun _=>True) ?_ ?_
  ·skip
   try simp only[go_sem,tK]
   refine dp.intro () [0,1,2,3,4,5] trivial ?_;simp only[go_sem];simp
  rintro _ _;simp only[xm,xn];refine Fg rfl ?_;refine eu Tryz.checked.mixed 2 (α:=Unit) (fun _=>⟨(.ab::.ab::.ptr 0 0 0::.ptr 1 0 0::.ptr 2 0 0::.ptr 5 0 0::aF 6 (.ptr 11 0 0::aF 16 (.d (.bool true)::aF 56 []))),[.box (J.bC c),.box (al.bC f),.box J.bJ,.ag 39 (c.streams.map ae.enc),.ag 2 (c.packets.map aI.enc),.box (J.aK c (.sl 3 0 c.streams.length) (.sl 4 0 c.packets.length)),.ag 1 (s.send.ring.cells.map a'),.ag 2 (s.send.pending.map aa.enc),.ag 2 (s.send.flight.map aa.enc),.ag 2 (s.send.cb.map aa.enc),.ag 2 (s.recv.buffer.bd.map ax.enc),.box (ae.aK s (.sl 6 0 s.send.ring.cells.length) (.sl 7 0 s.send.pending.length) (.sl 8 0 s.send.flight.length) (.sl 9 0 s.send.cb.length) (.sl 10 0 s.recv.buffer.bd.length))]⟩) (fun _=>True) ?_ ?_
  ·skip
   try simp only[go_sem]
   repeat'((first|refine af.ag (by assumption) ?_|refine ar.ag (by assumption) ?_)<;>simp only[go_sem,I])
   refine dp.intro () [0,1,2,3,4,5,6,7,8,9,10,11] trivial ?_;simp only[go_sem];simp
  rintro _ _;simp only[xm,xn];refine Ww rfl ?_;refine OQ (σ':=yO c f s e (List.replicate 10 false)) (ρ:=[0,1,2,3,4,5,6,7,8,9,10,11]) (by simp only[yO,List.replicate,List.getD_cons_succ,List.getD_cons_zero,cond_false,List.append_nil];simp only[go_sem];simp) ?_;refine jr Tryz.checked.mixed ?_;simp only[go_sem];refine j6 (fun σ'=>σ'=yO c f s e (List.replicate 10 true)) ?_ (fun σ' h=>h);refine Ja (fun n S σ=>(n,S)∈Jv∧σ=yO c f s e S) ?_ ?_ _ _ _ ⟨by first|exact List.Mem.head _|decide +kernel,rfl⟩
  ·rintro S σ ⟨aQ,rfl⟩;simp only[Jv,List.mem_cons,Prod.mk.injEq,List.not_mem_nil,or_false]at aQ;rcases aQ with ⟨hn,rfl⟩|⟨hn,rfl⟩|⟨hn,rfl⟩|⟨hn,rfl⟩|⟨hn,rfl⟩|⟨hn,rfl⟩|⟨hn,rfl⟩|⟨hn,rfl⟩|⟨hn,rfl⟩|⟨hn,rfl⟩|⟨hn,rfl⟩|⟨hn,rfl⟩|⟨hn,rfl⟩|⟨hn,rfl⟩|⟨hn,rfl⟩|⟨hn,rfl⟩|⟨hn,rfl⟩|⟨hn,rfl⟩|⟨hn,rfl⟩|⟨hn,rfl⟩|⟨hn,rfl⟩|⟨hn,rfl⟩|⟨hn,rfl⟩|⟨hn,rfl⟩|⟨hn,rfl⟩|⟨hn,rfl⟩|⟨hn,rfl⟩|⟨hn,rfl⟩|⟨hn,rfl⟩|⟨hn,rfl⟩|⟨hn,rfl⟩|⟨hn,rfl⟩|⟨hn,rfl⟩|⟨hn,rfl⟩|⟨hn,rfl⟩|⟨hn,rfl⟩|⟨hn,rfl⟩|⟨hn,rfl⟩|⟨hn,rfl⟩|⟨hn,rfl⟩|⟨hn,rfl⟩|⟨hn,rfl⟩
   all_goals(first|exact absurd hn (by decide)|skip)
   exact⟨rfl,rfl⟩
  ·rintro n S σ F ⟨aQ,rfl⟩ bV;simp only[Jv,List.mem_cons,Prod.mk.injEq,List.not_mem_nil,or_false]at aQ;rcases aQ with ⟨hn,rfl⟩|⟨hn,rfl⟩|⟨hn,rfl⟩|⟨hn,rfl⟩|⟨hn,rfl⟩|⟨hn,rfl⟩|⟨hn,rfl⟩|⟨hn,rfl⟩|⟨hn,rfl⟩|⟨hn,rfl⟩|⟨hn,rfl⟩|⟨hn,rfl⟩|⟨hn,rfl⟩|⟨hn,rfl⟩|⟨hn,rfl⟩|⟨hn,rfl⟩|⟨hn,rfl⟩|⟨hn,rfl⟩|⟨hn,rfl⟩|⟨hn,rfl⟩|⟨hn,rfl⟩|⟨hn,rfl⟩|⟨hn,rfl⟩|⟨hn,rfl⟩|⟨hn,rfl⟩|⟨hn,rfl⟩|⟨hn,rfl⟩|⟨hn,rfl⟩|⟨hn,rfl⟩|⟨hn,rfl⟩|⟨hn,rfl⟩|⟨hn,rfl⟩|⟨hn,rfl⟩|⟨hn,rfl⟩|⟨hn,rfl⟩|⟨hn,rfl⟩|⟨hn,rfl⟩|⟨hn,rfl⟩|⟨hn,rfl⟩|⟨hn,rfl⟩|⟨hn,rfl⟩|⟨hn,rfl⟩
   rotate_right 1
   ·exact absurd hn (by omega)
   all_goals(
    simp only[Nat.reduceEqDiff]at hn
    try subst hn
    simp only[yO,List.getD_cons_succ,List.getD_cons_zero,cond_true,cond_false,bx,b1,List.append_nil];refine Oq rfl ?_
    repeat'(first
     |exact Cm
     |(refine Cn ?_ ?_)
     |exact bV _ _ ⟨by first|exact List.Mem.head _|decide +kernel,rfl⟩
     |(refine af.ag gU ?_)
     |(refine af.inl (Wz c f s f.bn w9 _ (by simp[bf,vok]) _ (fun e' yF=>?_));obtain rfl:e'=e:=yF.trans he.symm)
     |simp only[go_sem,I]))
   all_goals trace_state
 ·rintro _ rfl;refine jr Tryz.checked.mixed ?_;simp only[yO,List.replicate,List.getD_cons_succ,List.getD_cons_zero,cond_true,bx,b1];simp only[go_sem];simp[jV,outOA]
set_option maxRecDepth 100000
def OR:List (List bt):=cE 7 [2066,2176,2182,2161,2107,1944,1458]
def OS:List (List bt):=cE 8 [6443,6441,6232,6214,5548,6435,5913,4374]
attribute [go_sem] OR OS
set_option maxHeartbeats 8000000 in
theorem WC(c:J)(f:al)(hz:iH c)(hn:¬(e6 c=true∧decide (f.bn=16)=false∧decide (f.bn=18)=false∧decide (f.bn=20)=false∧decide (f.bn=22)=false∧(bN c.streams f.stream).2=true)):PureCall Tryz.prog 178 [.agg (J.enc c),.agg (al.enc f)] [.agg (J.enc ((kc c f)))]:=by
 refine aP 86 Tryz.func178 Tryz.call178 [.cell 4 37] ?_;intro ok;clear ok;have j4:=jq hz;have cn:=kR c f.stream hz
 try simp only[go_sem]
 repeat'((first|refine af.ag (by first|assumption|(apply gf<;>first|assumption|omega)|(apply tB<;>first|assumption|omega)) ?_|refine ar.ag (by assumption) ?_)<;>simp only[go_sem,I])
 cases aO:e6 c with
 |false=>
  simp only[go_sem,I,Bool.not_false];simp[kc,aO]
 |true=>
  simp only[go_sem,Bool.not_true]
  cases kz:decide (f.bn=16)with
  |true=>
   have Jw:=cl kz
   try simp only[go_sem]
   repeat'(first|((first|refine af.ag (by first|assumption|apply OK) ?_|refine ar.ag (by assumption) ?_)<;>simp only[go_sem,I])|(with_reducible refine aq ?_)|fail)
   simp[kc,aO,Jw]
  |false=>
   have Jw:=cG kz;simp only[go_sem]
   cases iL:decide (f.bn=18)with
   |true=>
    have Fi:=cl iL;simp only[go_sem]
    cases hu:f.fc with
    |true=>
     try simp only[go_sem]
     repeat'(first|((first|refine af.ag (by first|assumption|apply Fc) ?_|refine ar.ag (by assumption) ?_)<;>simp only[go_sem,I])|(with_reducible refine aq ?_)|fail)
     simp[kc,aO,Fi,hu]
    |false=>
     try simp only[go_sem]
     repeat'(first|((first|refine af.ag (by first|assumption|apply Fc) ?_|refine ar.ag (by assumption) ?_)<;>simp only[go_sem,I])|(with_reducible refine aq ?_)|fail)
     simp[kc,aO,Fi,hu]
   |false=>
    have Fi:=cG iL;simp only[go_sem]
    cases tJ:decide (f.bn=20)with
    |true=>
     have Jx:=cl tJ
     try simp only[go_sem]
     repeat'(first|((first|refine af.ag (by first|assumption|apply OP) ?_|refine ar.ag (by assumption) ?_)<;>simp only[go_sem,I])|(with_reducible refine aq ?_)|fail)
     simp[kc,aO,Jx]
    |false=>
     have Jx:=cG tJ;simp only[go_sem]
     cases tK:decide (f.bn=22)with
     |true=>
      have Fj:=cl tK;simp only[go_sem]
      cases hu:f.fc with
      |true=>
       try simp only[go_sem,I]
       repeat'(first|(with_reducible refine aq ?_)|fail)
       simp[kc,aO,Fj,hu]
      |false=>
       try simp only[go_sem,I]
       repeat'(first|(with_reducible refine aq ?_)|fail)
       simp[kc,aO,Fj,hu]
     |false=>
      have Fj:=cG tK;have hf:(bN c.streams f.stream).2=false:=by
       cases hf:(bN c.streams f.stream).2 with
       |false=>rfl
       |true=>exact absurd ⟨aO,kz,iL,tJ,tK,hf⟩ hn
      have ah:kc c f=c:=by unfold kc;rw[aO,if_neg Jw,if_neg Fi,if_neg Jx,if_neg Fj,hf];rfl
      rw[hf]at cn;simp only[go_sem]
      try simp only[go_sem,I]
      repeat'(first|((first|refine af.ag (by assumption) ?_|refine ar.ag (by assumption) ?_)<;>simp only[go_sem,I])|(with_reducible refine aq ?_)|fail)
      simp[ah]
theorem WD(c:J)(f:al)(hz:iH c):PureCall Tryz.prog 178 [.agg (J.enc c),.agg (al.enc f)] [.agg (J.enc ((kc c f)))]:=by
 by_cases hn:e6 c=true∧decide (f.bn=16)=false∧decide (f.bn=18)=false∧decide (f.bn=20)=false∧decide (f.bn=22)=false∧(bN c.streams f.stream).2=true
 ·obtain⟨aO,kz,iL,tJ,tK,hf⟩:=hn;have ah:kc c f=jV c (ka c (aw c f.stream) f.bn):=by
   unfold kc;rw[aO,if_neg (cG kz),if_neg (cG iL),if_neg (cG tJ),if_neg (cG tK),hf];rfl
  rw[ah];exact WA c f hz aO kz iL tJ tK hf
 ·exact WC c f hz hn
theorem WE(c:J)(b:Int):(bif bif !iS c then true else !bz b 1 400 then true else decide (1000000≤c.number))=!Ar c b:=by
 unfold Ar
 cases iS c<;>cases bz b 1 400<;>cases decide (1000000≤c.number)<;>rfl
set_option maxHeartbeats 8000000 in
theorem OT(c:J)(b:Int)(m:Nat)(hv:bZ m c)(hm:m≤20):PureCall Tryz.prog 142 [.agg (J.enc c),.one (.int .i64 b)] [.one (.str (vP c b)),.one (.int .i64 (uF c b)),.agg (J.enc ((fo c b)))]:=by
 refine ui 90 Tryz.func142 Tryz.call142 [.tmp 4,.tmp 5,.cell 6 37] ?_;intro ok;clear ok;have hz:=hv.sz hm;have j4:=jq hz;have br:=WE c b;obtain⟨hcl,nO⟩:=OU hv;refine eu Tryz.checked.mixed 6 (α:=Unit) (fun _=>⟨(.ab::.d (.int .i64 b)::.ptr 0 0 0::aF 3 (.ptr 1 0 0::.ptr 2 0 0::.sl 5 0 0::.d (.int .i64 b)::.sl 6 0 (iB c).length::aF 79 [])),[.box (J.bC c),.box J.bJ,.box (J.aK c (.sl 3 0 c.streams.length) (.sl 4 0 c.packets.length)),.ag 39 (c.streams.map ae.enc),.ag 2 (c.packets.map aI.enc),.ao 9 [] true,.ao 9 ((iB c).map al.enc) true]⟩) (fun _=>Ar c b=true) ?_ ?_
 ·skip
  try simp only[go_sem]
  repeat'((first|refine af.ag (by first|(apply gf<;>first|assumption|omega)|(apply uj<;>first|assumption|omega)) ?_|refine ar.ag (by apply hP) ?_|refine a8 ?_)<;>simp only[go_sem,I])
  rw[br]
  cases hg:Ar c b with
  |false=>
   try simp only[go_sem,Bool.not_false]
   repeat'(first|(refine a9 [[.post,.cY,.cY,.post],[.cY,.post,.post,.post],[.cY,.pre,.post,.post],[.pre,.pre,.pre,.post]] (by kernel_rfl) (by rfl) ?_<;>simp only[go_sem,I])|(with_reducible refine aq ?_)|fail)
   simp[fo,vP,uF,As,hg]
  |true=>
   try simp only[go_sem,Bool.not_true]
   repeat'(refine af.intro (by(apply Wv<;>first|assumption|omega)) ?_<;>simp only[go_sem,I])
   refine dp.intro () [0,1,4,2,3,5,6] (by first|exact hg|trivial) ?_;simp only[go_sem];simp
 rintro _ hg;have hA:dj c b=(iB c).foldl mJ ⟨c,[],b⟩:=rfl;refine eu Tryz.checked.mixed 1 (α:=Unit) (fun _=>⟨(.ab::.d (.int .i64 b)::.ptr 0 0 0::aF 3 (.ptr 1 0 0::.ptr 2 0 0::.sl 5 0 (dj c b).bT.length::.d (.int .i64 (dj c b).room)::aF 80 [])),[.box (J.bC c),.box J.bJ,.box [.d (.bool (dj c b).x.df),.d (.int .i64 (dj c b).x.own.ring),.d (.int .i64 (dj c b).x.own.window),.d (.int .i64 (dj c b).x.own.lu),.d (.int .i64 (dj c b).x.own.c0),.d (.int .i64 (dj c b).x.own.lZ),.d (.int .i64 (dj c b).x.own.kT),.d (.int .i64 (dj c b).x.own.fc),.d (.int .i64 (dj c b).x.own.hD),.d (.int .i64 (dj c b).x.dr.ring),.d (.int .i64 (dj c b).x.dr.window),.d (.int .i64 (dj c b).x.dr.lu),.d (.int .i64 (dj c b).x.dr.c0),.d (.int .i64 (dj c b).x.dr.lZ),.d (.int .i64 (dj c b).x.dr.kT),.d (.int .i64 (dj c b).x.dr.fc),.d (.int .i64 (dj c b).x.dr.hD),.sl 3 0 (dj c b).x.streams.length,.d (.int .i64 (dj c b).x.c0.a1),.d (.int .i64 (dj c b).x.c0.used),.d (.int .i64 (dj c b).x.c0.blocked),.d (.int .i64 (dj c b).x.c0.i4),.d (.int .i64 (dj c b).x.bO.size),.d (.int .i64 (dj c b).x.bO.most),.d (.int .i64 (dj c b).x.bO.a1),.d (.int .i64 (dj c b).x.bO.seen),.d (.int .i64 (dj c b).x.bO.read),.d (.int .i64 (dj c b).x.bO.jU),.d (.int .i64 (dj c b).x.eT.a1),.d (.int .i64 (dj c b).x.eT.opened),.d (.int .i64 (dj c b).x.eT.blocked),.d (.int .i64 (dj c b).x.eS.a1),.d (.int .i64 (dj c b).x.eS.opened),.d (.int .i64 (dj c b).x.eS.blocked),.d (.int .i64 (dj c b).x.dA.most),.d (.int .i64 (dj c b).x.dA.a1),.d (.int .i64 (dj c b).x.dA.seen),.d (.int .i64 (dj c b).x.dA.closed),.d (.int .i64 (dj c b).x.dz.most),.d (.int .i64 (dj c b).x.dz.a1),.d (.int .i64 (dj c b).x.dz.seen),.d (.int .i64 (dj c b).x.dz.closed),.d (.bool (dj c b).x.vQ),.d (.bool (dj c b).x.mH),.d (.bool (dj c b).x.mI),.d (.int .i64 (dj c b).x.eZ),.d (.int .i64 (dj c b).x.number),.sl 4 0 (dj c b).x.packets.length,.d (.int .i64 (dj c b).x.hO),.d (.int .i64 (dj c b).x.closed)],.ag 39 ((dj c b).x.streams.map ae.enc),.ag 2 ((dj c b).x.packets.map aI.enc),.ao 9 ((dj c b).bT.map al.enc) true]⟩) (fun _=>True) ?_ ?_
 ·simp only[go_sem];refine b9.intro (α:=Nat×yP) (fun y=>⟨(.ab::.d (.int .i64 b)::.ptr 0 0 0::aF 3 (.ptr 1 0 0::.ptr 2 0 0::.sl 5 0 y.2.bT.length::.d (.int .i64 y.2.room)::.sl 6 0 (iB c).length::.d (.int .i64 y.1)::aF 78 [])),[.box (J.bC c),.box J.bJ,.box (J.aK y.2.x (.sl 3 0 y.2.x.streams.length) (.sl 4 0 y.2.x.packets.length)),.ag 39 (y.2.x.streams.map ae.enc),.ag 2 (y.2.x.packets.map aI.enc),.ao 9 (y.2.bT.map al.enc) true,.ao 9 ((iB c).map al.enc) true]⟩)
   (fun y=>(iB c).length-y.1) (fun y=>y.1≤(iB c).length∧y.2=((iB c).take y.1).foldl mJ ⟨c,[],b⟩∧l_ m y.1 y.2.x y.2.bT) (0,⟨c,[],b⟩) [0,1,2,3,4,5,6] ⟨by simp,by simp,hv,by simp,by simp⟩ ?_ ?_
  ·simp only[go_sem];simp
  ·rintro⟨i,q⟩ ⟨hi,hq,aO⟩;simp only at hi hq aO;by_cases h1:i<(iB c).length
   ·have au:decide ((i:Int)<((iB c).length:Int))=true:=bk (by omega);have aB:=b4 al.enc (iB c) i h1;have hw:IntKind.i64.wrap ((i:Int)+1)=((i+1:Nat):Int):=by rw[bE]<;>omega
    have hs:((iB c).take (i+1)).foldl mJ ⟨c,[],b⟩=mJ q (iB c)[i]:=by
     rw[List.take_add_one,dk h1,List.foldl_append,←hq];rfl
    have OV:ni (iB c)[i]:=nO _ (List.getElem_mem h1);have Fk:=OW aO OV;generalize (iB c)[i]=f at *;have gM:f.data.length≤60:=OV;have ad4:=WD q.x f (aO.c.sz hm);have Cq:=Jy f.bn f.stream f.offset f.data f.ba f.code f.a1 f.bg f.fc (by omega);change PureCall _ _ _ [.one (.int .i64 ((gC f).length:Int))]at Cq;have Fl:mJ q f=if((gC f).length:Int)≤q.room then⟨kc q.x f,q.bT++[f],IntKind.i64.wrap (q.room-((gC f).length:Int))⟩else q:=rfl
    have ad5:=aO.n
    try simp only[go_sem,I,aJ,aB,al.enc,au]
    repeat'(first|((first|refine af.intro (by assumption) ?_|refine ar.intro (by assumption) ?_)<;>simp only[go_sem])|(with_reducible refine aq ?_)|fail)
    cases vR:decide (((gC f).length:Int)≤q.room)with
    |true=>
     rw[if_pos (cl vR)]at Fl;rw[Fl]at hs Fk
     try simp only[go_sem,I,aJ,aB,al.enc]
     repeat'(first|((first|refine af.intro (by assumption) ?_|refine ar.intro (by assumption) ?_)<;>simp only[go_sem])|(with_reducible refine aq ?_)|fail)
     try simp only[go_sem,I,aJ,aB,al.enc]
     repeat'(first|((first|refine af.ag (by assumption) ?_|refine ar.ag (by assumption) ?_|refine a9 OR (by kernel_rfl) (by rfl) ?_)<;>simp only[go_sem,I,aJ,aB,al.enc])|(with_reducible refine aq ?_)|fail)
     refine bu.intro (i+1,⟨kc q.x f,q.bT++[f],IntKind.i64.wrap (q.room-((gC f).length:Int))⟩) [0,1,2,7,8,10,6] ⟨by simp only;omega,hs.symm,Fk⟩ (by simp only;omega) ?_;simp only[go_sem,hw];simp[al.enc]
    |false=>
     rw[if_neg (cG vR)]at Fl;rw[Fl]at hs Fk;simp only[go_sem];refine bu.intro (i+1,q) [0,1,2,3,4,5,6] ⟨by simp only;omega,hs.symm,Fk⟩ (by simp only;omega) ?_;simp only[go_sem,hw];simp
   ·have au:decide ((i:Int)<((iB c).length:Int))=false:=bb (by omega);obtain rfl:i=(iB c).length:=by omega
    rw[dK,←hA]at hq;subst hq;simp only[go_sem,au];refine dp.intro () [0,1,2,3,4,5] trivial ?_;simp only[go_sem];simp
 rintro _ _;have Jz:=OX hv b;have Cr:=OY hv (by omega) b;have hB:jC 200 ⟨(dj c b).x,[],(dj c b).bT,(dj c b).room⟩=kd c b:=rfl;have a0:fo c b=if(kd c b).bT=[]then(kd c b).x else {(kd c b).x with packets:=(kd c b).x.packets++[⟨c.number,(kd c b).bT⟩],number:=IntKind.i64.wrap (c.number+1)}:=by unfold fo;rw[hg];rfl
 have At:As c b=!decide ((kd c b).bT=[]):=by unfold As;rw[hg];rfl
 have cw:vP c b=if As c b then xo (kd c b).bT else []:=rfl
 generalize dj c b=JA at *;generalize kd c b=sT at *;refine eu Tryz.checked.mixed 1 (α:=Unit) (fun _=>⟨(.ab::.ab::.ptr 0 0 0::aF 3 (.ptr 1 0 0::.ptr 2 0 0::.sl 5 0 sT.bT.length::aF 81 [])),[.box (J.bC c),.box J.bJ,.box (J.aK sT.x (.sl 3 0 sT.x.streams.length) (.sl 4 0 sT.x.packets.length)),.ag 39 (sT.x.streams.map ae.enc),.ag 2 (sT.x.packets.map aI.enc),.ao 9 (sT.bT.map al.enc) true]⟩) (fun _=>True) ?_ ?_
 ·simp only[go_sem,I];refine af.gV [2,6,7] (by simp only[gn,List.elem_cons,List.elem_nil,Nat.reduceBEq,Nat.reduceAdd,cond_true,cond_false];rfl) (WG c JA.x JA.bT JA.room m Jz.c hm Jz.n Jz.d _ (by simp[bf,vok]) _ ?_);rw[hB];simp only[tL,eP,dX,Fm,go_sem];refine dp.intro () [0,1,2,3,4,5] trivial ?_;simp only[go_sem];simp
 rintro _ _;refine H4 4 rfl ?_;refine jr Tryz.checked.mixed ?_;simp only[go_sem];have fz:sT.x.packets.length≤20:=Nat.le_trans Cr.c.uG hm
 cases xp:decide (sT.bT=[])with
 |true=>
  have Cs:=cl xp;have hd:decide ((sT.bT.length:Int)=0)=true:=bk (by rw[Cs];rfl);rw[xp]at At;rw[if_pos Cs]at a0;rw[At]at cw
  try simp only[go_sem,hd]
  repeat'(first|(refine a9 [[.post,.cY,.cY,.post],[.cY,.post,.post,.post],[.cY,.pre,.post,.post],[.pre,.pre,.pre,.post]] (by kernel_rfl) (by rfl) ?_<;>simp only[go_sem,I])|(with_reducible refine aq ?_)|fail)
  simp[a0,cw,uF,At]
 |false=>
  have Cs:=cG xp;have hd:decide ((sT.bT.length:Int)=0)=false:=bb (fun h=>Cs (List.length_eq_zero_iff.1 (by omega)));rw[xp]at At;rw[if_neg Cs]at a0;have ad6:=WH sT.bT (by have:=Cr.n;omega) (fun f hf=>by have:=Cr.d f hf;unfold ni at this;omega)
  try simp only[go_sem,I,hd]
  repeat'(first|((first|refine af.intro (by assumption) ?_|refine ar.intro (by assumption) ?_|refine a9 OS (by kernel_rfl) (by rfl) ?_)<;>simp only[go_sem,I])|(with_reducible refine aq ?_)|fail)
  rw[At]at cw;simp[a0,cw,uF,At,aI.enc,List.take_of_length_le]
set_option maxRecDepth 100000
def lN(b:UInt8)(q:List (List UInt8)×List UInt8)(x:UInt8):List (List UInt8)×List UInt8:=if x=b then(q.1++[q.2],[])else(q.1,q.2++[x])
def nH(b:UInt8)(s:List UInt8):List (List UInt8)×List UInt8:=s.foldl (lN b) ([],[])
def x9(s:List UInt8)(b:UInt8):List (List UInt8):=(nH b s).1++[(nH b s).2]
theorem Mj(b:UInt8):∀(s:List UInt8) (q:List (List UInt8)×List UInt8),(s.foldl (lN b) q).1.length+(s.foldl (lN b) q).2.length≤q.1.length+q.2.length+s.length
 |[],q=>by simp
 |x::s,q=>by
  have:=Mj b s (lN b q x);have e:(lN b q x).1.length+(lN b q x).2.length≤q.1.length+q.2.length+1:=by
   unfold lN;split<;>simp<;>omega
  rw[List.foldl_cons,List.length_cons];omega
set_option maxHeartbeats 1000000 in
theorem acf(s:List UInt8)(b:UInt8)(hl:s.length≤1048576):PureCall Tryz.prog 204 [.one (.str s),.one (.int .u8 (b.toNat:Int))] [.one (.sl 1 ((x9 s b).map kW))]:=by
 refine aP 35 Tryz.func204 Tryz.call204 [.tmp 4] ?_;intro ok;simp only[go_sem];refine b9.intro (fun i:Nat=>⟨(.d (.str s)::.d (.int .u8 (b.toNat:Int))::aF 3 (.sl 0 0 (nH b (s.take i)).1.length::.d (.str (nH b (s.take i)).2)::.d (.int .i64 i)::aF 27 [])),[.ao 1 ((nH b (s.take i)).1.map kW) true]⟩)
  (fun i=>s.length-i) (fun i=>i≤s.length) 0 [0] (by omega) ?_ ?_
 ·simp only[go_sem];simp[nH]
 ·intro i hi;have jv:=Mj b (s.take i) ([],[]);have cw:(s.take i).length=i:=by simp;omega
  simp only[List.length_nil]at jv;have acg:(nH b (s.take i)).1.length+(nH b (s.take i)).2.length≤i:=by unfold nH;omega
  by_cases h1:i<s.length
  ·have au:decide ((i:Int)<(s.length:Int))=true:=bk (by omega);have hw:=dE h1 (show s.length≤maxLen by simp only[maxLen];omega);have hs:nH b (s.take (i+1))=lN b (nH b (s.take i)) s[i]:=Hr _ _ _ _ h1;generalize nH b (s.take i)=q at *;obtain⟨out,part⟩:=q;simp only at acg;have hx:s[i]?.getD 0=s[i]:=by rw[dk h1];rfl
   have sE:List.take (i+1-i) (List.drop i s)=[s[i]]:=by
    rw[show i+1-i=1 from by omega,List.drop_eq_getElem_cons h1];rfl
   cases hd:decide (s[i]=b)with
   |true=>
    have hb:decide ((s[i].toNat:Int)=(b.toNat:Int))=true:=by rw[cl hd];simp
    have cD:lN b (out,part) s[i]=(out++[part],[]):=by unfold lN;exact if_pos (cl hd)
    try simp only[go_sem,I,aJ,au,hw,hx,hb]
    repeat'(first|(with_reducible refine aq ?_)|fail)
    all_goals(first|(refine⟨⟨by omega,rfl⟩,?_⟩)|skip;refine bu.intro (i+1) [2] (by omega) (by omega) ?_;simp only[go_sem,hs,cD];simp[kW])
   |false=>
    have hb:decide ((s[i].toNat:Int)=(b.toNat:Int))=false:=bb (fun h=>absurd (UInt8.toNat_inj.1 (Int.ofNat.inj h)) (cG hd));have cD:lN b (out,part) s[i]=(out,part++[s[i]]):=by unfold lN;exact if_neg (cG hd)
    try simp only[go_sem,aJ,au,hw,hx,sE,hb]
    repeat'(first|(with_reducible refine aq ?_)|fail)
    all_goals(first|(refine⟨by simp only[List.length_cons,List.length_nil,maxLen];omega,?_⟩)|skip;refine bu.intro (i+1) [0] (by omega) (by omega) ?_;simp only[go_sem,hs,cD];simp)
  ·have au:decide ((i:Int)<(s.length:Int))=false:=bb (by omega);obtain rfl:i=s.length:=by omega
   rw[dK]at *
   try simp only[go_sem,I,au]
   repeat'(first|(with_reducible refine aq ?_)|fail)
   all_goals(simp[x9];try exact List.take_of_length_le (by simp))
def x_(s:List UInt8):List UInt8:=s.dropWhile (fun x=>decide (x=32))
def vk(s:List UInt8):List UInt8:=(s.reverse.dropWhile (fun x=>decide (x=32))).reverse
def mo(s:List UInt8):List UInt8:=vk (x_ s)
theorem ach(r:List UInt8):x_ (32::r)=x_ r:=by simp[x_]
theorem aci{x:UInt8}{r:List UInt8}(h:x≠32):x_ (x::r)=x::r:=by simp[x_,h]
theorem Tl{r:List UInt8}(h:r≠[])(hl:r.getLast h=32):vk r=vk r.dropLast:=by
 have e:r.reverse=32::r.dropLast.reverse:=by
  conv=>lhs;rw[←List.dropLast_concat_getLast h]
  simp[hl]
 unfold vk;rw[e,List.dropWhile_cons_of_pos (by simp)]
theorem Tm{r:List UInt8}(h:r≠[])(hl:r.getLast h≠32):vk r=r:=by
 have e:r.reverse=r.getLast h::r.dropLast.reverse:=by
  conv=>lhs;rw[←List.dropLast_concat_getLast h]
  simp
 unfold vk;rw[e,List.dropWhile_cons_of_neg (by simp[hl])];rw[←e,List.reverse_reverse]
set_option maxHeartbeats 1000000 in
theorem Tn(s:List UInt8)(hl:s.length≤1048576):PureCall Tryz.prog 205 [.one (.str s)] [.one (.str (mo s))]:=by
 refine aP 30 Tryz.func205 Tryz.call205 [.tmp 2] ?_;intro ok;simp only[go_sem];refine b9.intro (fun u:List UInt8=>⟨(.d (.str u)::aF 29 []),[]⟩) (fun u=>u.length) (fun u=>u.length≤1048576∧x_ u=x_ s) s [] ⟨hl,rfl⟩ ?_ ?_
 ·simp only[go_sem]
 ·rintro u ⟨hu,he⟩
  cases u with
  |nil=>
   have dM:mo s=vk []:=by unfold mo;rw[←he];rfl
   have h0:decide ((0:Int)<((0:Nat):Int))=false:=by decide
   try simp only[go_sem,List.length_nil,h0]
   repeat'(first|(with_reducible refine dC ?_<;>simp only[go_sem,List.length_nil]))
   refine b9.intro (fun v:List UInt8=>⟨(.d (.str v)::aF 29 []),[]⟩) (fun v=>v.length) (fun v=>v.length≤1048576∧vk v=mo s) [] [] ⟨by simp,dM.symm⟩ ?_ ?_
   ·simp only[go_sem]
   ·rintro v ⟨hv,zz⟩;by_cases hn:v=[]
    ·subst hn;have e:mo s=[]:=by rw[←zz];rfl
     have h0:decide ((0:Int)<((0:Nat):Int))=false:=by decide
     try simp only[go_sem,List.length_nil,h0]
     repeat'(first|(with_reducible refine dC ?_<;>simp only[go_sem,List.length_nil]))
     all_goals first|(exfalso;simp at h;done)|simp[e]
    ·have hp:0<v.length:=List.length_pos_iff.2 hn;have h1:decide ((0:Int)<(v.length:Int))=true:=bk (by omega);have h2:IntKind.i64.wrap ((v.length:Int)-1)=((v.length-1:Nat):Int):=by rw[bE]<;>omega
     have ak:v[v.length-1]?.getD 0=v.getLast hn:=by rw[dk (by omega),List.getLast_eq_getElem];rfl
     have aC:List.take (v.length-1-0) (List.drop 0 v)=v.dropLast:=by rw[List.drop_zero,Nat.sub_zero,List.dropLast_eq_take]
     cases hd:decide (v.getLast hn=32)with
     |true=>
      have hb:decide (((v.getLast hn).toNat:Int)=32)=true:=by rw[cl hd];rfl
      try simp only[go_sem,h1]
      repeat'(first|(with_reducible refine ct ?_<;>simp only[go_sem,h2,ak,hb,aJ])|(with_reducible refine aq ?_)|fail)
      all_goals(refine bu.intro v.dropLast [] ⟨by rw[List.length_dropLast];omega,by rw[←Tl hn (cl hd)];exact zz⟩ (by rw[List.length_dropLast];omega) ?_;simp only[go_sem];try simp[List.dropLast_eq_take])
     |false=>
      have hb:decide (((v.getLast hn).toNat:Int)=32)=false:=bb (fun h=>absurd (UInt8.toNat_inj.1 (show(v.getLast hn).toNat=(32:UInt8).toNat by have:(32:UInt8).toNat=32:=rfl;omega)) (cG hd));have e:mo s=v:=by rw[←zz];exact Tm hn (cG hd)
      try simp only[go_sem,h1]
      repeat'(first|(with_reducible refine ct ?_<;>simp only[go_sem,h2,ak,hb,aJ])|(with_reducible refine aq ?_)|fail)
      all_goals simp[e]
  |cons x r=>
   have h1:decide ((0:Int)<((r.length+1:Nat):Int))=true:=bk (by omega);have hx:(x::r)[0]?.getD 0=x:=rfl
   cases hd:decide (x=32)with
   |true=>
    have hb:decide ((x.toNat:Int)=32)=true:=by rw[cl hd];rfl
    have sE:List.take ((x::r).length-1) (List.drop 1 (x::r))=r:=by simp
    try simp only[go_sem,List.length_cons,h1]
    repeat'(first|(with_reducible refine ct ?_<;>simp only[go_sem,List.length_cons,hb])|(with_reducible refine aq ?_)|fail)
    all_goals(refine bu.intro r [] ⟨by rw[List.length_cons]at hu;omega,by rw[←he,cl hd];exact(ach r).symm⟩ (by simp) ?_;simp only[go_sem];try simp)
   |false=>
    have hb:decide ((x.toNat:Int)=32)=false:=bb (fun h=>absurd (UInt8.toNat_inj.1 (show x.toNat=(32:UInt8).toNat by have:(32:UInt8).toNat=32:=rfl;omega)) (cG hd));have dM:mo s=vk (x::r):=by unfold mo;rw[←he,aci (cG hd)]
    try simp only[go_sem,List.length_cons,h1]
    repeat'(first|(with_reducible refine ct ?_<;>simp only[go_sem,List.length_cons,hb])|(with_reducible refine aq ?_)|fail)
    refine b9.intro (fun v:List UInt8=>⟨(.d (.str v)::aF 29 []),[]⟩) (fun v=>v.length) (fun v=>v.length≤1048576∧vk v=mo s) (x::r) [] ⟨hu,dM.symm⟩ ?_ ?_
    ·simp only[go_sem]
    ·rintro v ⟨hv,zz⟩;by_cases hn:v=[]
     ·subst hn;have e:mo s=[]:=by rw[←zz];rfl
      have h0:decide ((0:Int)<((0:Nat):Int))=false:=by decide
      try simp only[go_sem,List.length_nil,h0]
      repeat'(first|(with_reducible refine dC ?_<;>simp only[go_sem,List.length_nil]))
      all_goals first|(exfalso;simp at h;done)|simp[e]
     ·have hp:0<v.length:=List.length_pos_iff.2 hn;have h1:decide ((0:Int)<(v.length:Int))=true:=bk (by omega);have h2:IntKind.i64.wrap ((v.length:Int)-1)=((v.length-1:Nat):Int):=by rw[bE]<;>omega
      have ak:v[v.length-1]?.getD 0=v.getLast hn:=by rw[dk (by omega),List.getLast_eq_getElem];rfl
      have aC:List.take (v.length-1-0) (List.drop 0 v)=v.dropLast:=by rw[List.drop_zero,Nat.sub_zero,List.dropLast_eq_take]
      cases hd:decide (v.getLast hn=32)with
      |true=>
       have hb:decide (((v.getLast hn).toNat:Int)=32)=true:=by rw[cl hd];rfl
       try simp only[go_sem,h1]
       repeat'(first|(with_reducible refine ct ?_<;>simp only[go_sem,h2,ak,hb,aJ])|(with_reducible refine aq ?_)|fail)
       all_goals(refine bu.intro v.dropLast [] ⟨by rw[List.length_dropLast];omega,by rw[←Tl hn (cl hd)];exact zz⟩ (by rw[List.length_dropLast];omega) ?_;simp only[go_sem];try simp[List.dropLast_eq_take])
      |false=>
       have hb:decide (((v.getLast hn).toNat:Int)=32)=false:=bb (fun h=>absurd (UInt8.toNat_inj.1 (show(v.getLast hn).toNat=(32:UInt8).toNat by have:(32:UInt8).toNat=32:=rfl;omega)) (cG hd));have e:mo s=v:=by rw[←zz];exact Tm hn (cG hd)
       try simp only[go_sem,h1]
       repeat'(first|(with_reducible refine ct ?_<;>simp only[go_sem,h2,ak,hb,aJ])|(with_reducible refine aq ?_)|fail)
       all_goals simp[e]
def m4(p:hJ)(t:List UInt8):hJ:=
 if t=[105]∨t=[105,61,63,49]then {p with g2:=true}
 else if t=[105,61,63,48]then {p with g2:=false}
 else if t.length=3∧t.take 2=[117,61]∧48≤(t[2]?.getD 0).toNat∧(t[2]?.getD 0).toNat≤55 then {p with iK:=((t[2]?.getD 0).toNat:Int)-48}
 else p
def mq(p:hJ)(t:List UInt8):hJ:=m4 p (mo t)
def w8(p:hJ)(s:List UInt8):hJ:=(x9 s 44).foldl mq (if mn p then p else vi)
theorem acj(s:List UInt8)(b:UInt8):(x9 s b).length≤s.length+1∧∀t∈x9 s b,t.length≤s.length:=by
 have h:∀(s:List UInt8) (q:List (List UInt8)×List UInt8) (n:Nat),(∀t∈q.1,t.length≤n)→q.2.length≤n→(∀t∈(s.foldl (lN b) q).1,t.length≤n+s.length)∧(s.foldl (lN b) q).2.length≤n+s.length:=by
  intro s
  induction s with
  |nil=>intro q n h1 h2;exact⟨fun t ht=>by have:=h1 t ht;simp;omega,by simp;omega⟩
  |cons x s dx=>
   intro q n h1 h2;have:=dx (lN b q x) (n+1) (by
    intro t ht;unfold lN at ht;split at ht
    ·rcases List.mem_append.1 ht with ht|ht
     ·have:=h1 t ht;omega
     ·rw[List.mem_singleton.1 ht];omega
    ·have:=h1 t ht;omega) (by unfold lN;split<;>simp<;>omega)
   rw[List.foldl_cons,List.length_cons];exact⟨fun t ht=>by have:=this.1 t ht;omega,by omega⟩
 have h1:=Mj b s ([],[]);have h2:=h s ([],[]) 0 (by simp) (by simp);simp only[List.length_nil]at h1;unfold x9;refine⟨by rw[List.length_append];simp only[nH,List.length_cons,List.length_nil];omega,fun t ht=>?_⟩;rcases List.mem_append.1 ht with ht|ht
 ·have:=h2.1 t ht;omega
 ·rw[List.mem_singleton.1 ht];have:=h2.2;simp only[nH];omega
set_option maxHeartbeats 4000000 in
theorem Vq(m0:Int)(m1:Bool)(s:List UInt8)(hl:s.length≤1000):PureCall Tryz.prog 175 [.agg [.int .i64 m0,.bool m1],.one (.str s)] [.agg [.int .i64 (w8 (⟨m0,m1⟩:hJ) s).iK,.bool (w8 (⟨m0,m1⟩:hJ) s).g2]]:=by
 refine aP 62 Tryz.func175 Tryz.call175 [.cell 4 55] ?_;intro ok;clear ok;obtain⟨dv,dD⟩:=acj s 44;have a0:=acf s 44 (by omega);have ah:w8 (⟨m0,m1⟩:hJ) s=(x9 s 44).foldl mq (if mn (⟨m0,m1⟩:hJ)then(⟨m0,m1⟩:hJ)else vi):=rfl;obtain⟨nI,d1⟩:∃nI,nI=(if mn (⟨m0,m1⟩:hJ)then(⟨m0,m1⟩:hJ)else vi):=⟨_,rfl⟩;rw[←d1]at ah;generalize x9 s 44=l at *;simp only[show((44:UInt8).toNat:Int)=44 from rfl]at a0
 cases aO:mn (⟨m0,m1⟩:hJ)with
 |false=>
  try simp only[go_sem]
  repeat'((first|refine af.intro (by first|assumption|apply DR|apply SN) ?_|refine ar.intro (by assumption) ?_)<;>simp only[go_sem,I,aO])
  refine b9.intro (fun i:Nat=>⟨(.ab::.ab::.ptr 0 0 0::.ab::.ptr 1 0 0::.sl 2 0 l.length::.d (.int .i64 i)::aF 55 []),[.box [.d (.int .i64 ((l.take i).foldl mq nI).iK),.d (.bool ((l.take i).foldl mq nI).g2)],.box [.d (.int .i64 0),.d (.bool false)],.ao 1 (l.map kW) true]⟩)
   (fun i=>l.length-i) (fun i=>i≤l.length) 0 [0,1,2] (by omega) ?_ ?_
  ·simp only[go_sem];simp[d1,aO,vi]
  ·intro i hi;by_cases h1:i<l.length
   ·have au:decide ((i:Int)<(l.length:Int))=true:=bk (by omega);have aB:=b4 kW l i h1;have hw:IntKind.i64.wrap ((i:Int)+1)=((i+1:Nat):Int):=by rw[bE]<;>omega
    have hs:=Hr mq nI l i h1;have nf:mq ((l.take i).foldl mq nI) l[i]=m4 ((l.take i).foldl mq nI) (mo l[i]):=rfl;have cw:=Tn l[i] (by have:=dD _ (List.getElem_mem h1);omega);rw[nf]at hs;generalize (l.take i).foldl mq nI=q at *;generalize mo l[i]=t at *
    try simp only[go_sem,I,aJ,aB,kW,au]
    repeat'(first|((first|refine af.intro (by assumption) ?_|refine ar.intro (by assumption) ?_|refine a8 ?_)<;>simp only[go_sem])|(with_reducible refine aq ?_)|fail)
    by_cases b5:t=[105]∨t=[105,61,63,49]
    ·have hm:m4 q t={q with g2:=true}:=by unfold m4;exact if_pos b5
     have dF:(bif decide (t=[105])then true else decide (t=[105,61,63,49]))=true:=by rcases b5 with h|h<;>simp[h]
     simp only[dF]
     try simp only[go_sem]
     repeat'((first|refine af.intro (by assumption) ?_|refine ar.intro (by assumption) ?_)<;>simp only[go_sem,I])
     refine bu.intro (i+1) [0,1,2] (by omega) (by omega) ?_;simp only[go_sem,hw,hs,hm];simp
    ·have dF:(bif decide (t=[105])then true else decide (t=[105,61,63,49]))=false:=by simp only[not_or]at b5;simp[b5.1,b5.2]
     simp only[dF];by_cases cv:t=[105,61,63,48]
     ·have hm:m4 q t={q with g2:=false}:=by unfold m4;exact(if_neg b5).trans (if_pos cv)
      have dO:decide (t=[105,61,63,48])=true:=bk cv
      try simp only[go_sem,dO]
      repeat'((first|refine af.intro (by assumption) ?_|refine ar.intro (by assumption) ?_)<;>simp only[go_sem,I,dO])
      refine bu.intro (i+1) [0,1,2] (by omega) (by omega) ?_;simp only[go_sem,hw,hs,hm];simp
     ·have dO:decide (t=[105,61,63,48])=false:=bb cv;have hm:m4 q t=if t.length=3∧t.take 2=[117,61]∧48≤(t[2]?.getD 0).toNat∧(t[2]?.getD 0).toNat≤55 then {q with iK:=((t[2]?.getD 0).toNat:Int)-48}else q:=by unfold m4;exact(if_neg b5).trans (if_neg cv)
      by_cases cm:t.length=3
      ·have dR:decide ((t.length:Int)=3)=true:=bk (by omega)
       try simp only[go_sem,dO,dR]
       repeat'(first|((first|refine af.intro (by assumption) ?_|refine ar.intro (by assumption) ?_|with_reducible refine ct ?_|refine a8 ?_|refine bq (fun h=>?_) (fun h=>?_))<;>simp only[go_sem])|(with_reducible refine aq ?_)|fail)
       ·have hh:t.take 2=[117,61]∧48≤(t[2]?.getD 0).toNat∧(t[2]?.getD 0).toNat≤55:=by
         simp only[b7,Bool.and_eq_true,decide_eq_true_eq,and_assoc]at h;exact⟨h.1,by omega,by omega⟩
        rw[if_pos ⟨cm,hh⟩]at hm;have ai:IntKind.u8.wrap (((t[2]?.getD 0).toNat:Int)-48)=((t[2]?.getD 0).toNat:Int)-48:=Kx (by omega) (by omega);have aj:IntKind.i64.wrap (((t[2]?.getD 0).toNat:Int)-48)=((t[2]?.getD 0).toNat:Int)-48:=by rw[bE]<;>omega
        refine bu.intro (i+1) [0,1,2] (by omega) (by omega) ?_;simp only[go_sem,hw,hs,hm,ai,aj];simp
       ·have hh:¬(t.length=3∧t.take 2=[117,61]∧48≤(t[2]?.getD 0).toNat∧(t[2]?.getD 0).toNat≤55):=by
         rintro⟨_,cC,cT,eI⟩;have Mk:decide (48≤((t[2]?.getD 0).toNat:Int))=true:=bk (by omega);have Ml:decide (((t[2]?.getD 0).toNat:Int)≤55)=true:=bk (by omega);rw[Mk,Ml,bk cC]at h
         cases h
        rw[if_neg hh]at hm;refine bu.intro (i+1) [0,1,2] (by omega) (by omega) ?_;simp only[go_sem,hw,hs,hm];simp
      ·have dR:decide ((t.length:Int)=3)=false:=bb (by omega);rw[if_neg (fun h=>cm h.1)]at hm
       try simp only[go_sem,dO,dR]
       repeat'((first|refine af.intro (by assumption) ?_|refine ar.intro (by assumption) ?_|with_reducible refine dC ?_)<;>simp only[go_sem])
       all_goals(refine bu.intro (i+1) [0,1,2] (by omega) (by omega) ?_;simp only[go_sem,hw,hs,hm];simp)
   ·have au:decide ((i:Int)<(l.length:Int))=false:=bb (by omega);obtain rfl:i=l.length:=by omega
    rw[dK]
    try simp only[go_sem,au]
    repeat'((first|refine af.intro (by assumption) ?_|refine ar.intro (by assumption) ?_)<;>simp only[go_sem,I,au])
    all_goals simp[ah]
 |true=>
  try simp only[go_sem]
  repeat'((first|refine af.intro (by first|assumption|apply DR) ?_|refine ar.intro (by assumption) ?_)<;>simp only[go_sem,I,aO])
  refine b9.intro (fun i:Nat=>⟨(.ab::.ab::.ptr 0 0 0::.ab::.ptr 1 0 0::.sl 2 0 l.length::.d (.int .i64 i)::aF 55 []),[.box [.d (.int .i64 ((l.take i).foldl mq nI).iK),.d (.bool ((l.take i).foldl mq nI).g2)],.box [.d (.int .i64 0),.d (.bool false)],.ao 1 (l.map kW) true]⟩)
   (fun i=>l.length-i) (fun i=>i≤l.length) 0 [0,1,2] (by omega) ?_ ?_
  ·simp only[go_sem];simp[d1,aO]
  ·intro i hi;by_cases h1:i<l.length
   ·have au:decide ((i:Int)<(l.length:Int))=true:=bk (by omega);have aB:=b4 kW l i h1;have hw:IntKind.i64.wrap ((i:Int)+1)=((i+1:Nat):Int):=by rw[bE]<;>omega
    have hs:=Hr mq nI l i h1;have nf:mq ((l.take i).foldl mq nI) l[i]=m4 ((l.take i).foldl mq nI) (mo l[i]):=rfl;have cw:=Tn l[i] (by have:=dD _ (List.getElem_mem h1);omega);rw[nf]at hs;generalize (l.take i).foldl mq nI=q at *;generalize mo l[i]=t at *
    try simp only[go_sem,I,aJ,aB,kW,au]
    repeat'(first|((first|refine af.intro (by assumption) ?_|refine ar.intro (by assumption) ?_|refine a8 ?_)<;>simp only[go_sem])|(with_reducible refine aq ?_)|fail)
    by_cases b5:t=[105]∨t=[105,61,63,49]
    ·have hm:m4 q t={q with g2:=true}:=by unfold m4;exact if_pos b5
     have dF:(bif decide (t=[105])then true else decide (t=[105,61,63,49]))=true:=by rcases b5 with h|h<;>simp[h]
     simp only[dF]
     try simp only[go_sem]
     repeat'((first|refine af.intro (by assumption) ?_|refine ar.intro (by assumption) ?_)<;>simp only[go_sem,I])
     refine bu.intro (i+1) [0,1,2] (by omega) (by omega) ?_;simp only[go_sem,hw,hs,hm];simp
    ·have dF:(bif decide (t=[105])then true else decide (t=[105,61,63,49]))=false:=by simp only[not_or]at b5;simp[b5.1,b5.2]
     simp only[dF];by_cases cv:t=[105,61,63,48]
     ·have hm:m4 q t={q with g2:=false}:=by unfold m4;exact(if_neg b5).trans (if_pos cv)
      have dO:decide (t=[105,61,63,48])=true:=bk cv
      try simp only[go_sem,dO]
      repeat'((first|refine af.intro (by assumption) ?_|refine ar.intro (by assumption) ?_)<;>simp only[go_sem,I,dO])
      refine bu.intro (i+1) [0,1,2] (by omega) (by omega) ?_;simp only[go_sem,hw,hs,hm];simp
     ·have dO:decide (t=[105,61,63,48])=false:=bb cv;have hm:m4 q t=if t.length=3∧t.take 2=[117,61]∧48≤(t[2]?.getD 0).toNat∧(t[2]?.getD 0).toNat≤55 then {q with iK:=((t[2]?.getD 0).toNat:Int)-48}else q:=by unfold m4;exact(if_neg b5).trans (if_neg cv)
      by_cases cm:t.length=3
      ·have dR:decide ((t.length:Int)=3)=true:=bk (by omega)
       try simp only[go_sem,dO,dR]
       repeat'(first|((first|refine af.intro (by assumption) ?_|refine ar.intro (by assumption) ?_|with_reducible refine ct ?_|refine a8 ?_|refine bq (fun h=>?_) (fun h=>?_))<;>simp only[go_sem])|(with_reducible refine aq ?_)|fail)
       ·have hh:t.take 2=[117,61]∧48≤(t[2]?.getD 0).toNat∧(t[2]?.getD 0).toNat≤55:=by
         simp only[b7,Bool.and_eq_true,decide_eq_true_eq,and_assoc]at h;exact⟨h.1,by omega,by omega⟩
        rw[if_pos ⟨cm,hh⟩]at hm;have ai:IntKind.u8.wrap (((t[2]?.getD 0).toNat:Int)-48)=((t[2]?.getD 0).toNat:Int)-48:=Kx (by omega) (by omega);have aj:IntKind.i64.wrap (((t[2]?.getD 0).toNat:Int)-48)=((t[2]?.getD 0).toNat:Int)-48:=by rw[bE]<;>omega
        refine bu.intro (i+1) [0,1,2] (by omega) (by omega) ?_;simp only[go_sem,hw,hs,hm,ai,aj];simp
       ·have hh:¬(t.length=3∧t.take 2=[117,61]∧48≤(t[2]?.getD 0).toNat∧(t[2]?.getD 0).toNat≤55):=by
         rintro⟨_,cC,cT,eI⟩;have Mk:decide (48≤((t[2]?.getD 0).toNat:Int))=true:=bk (by omega);have Ml:decide (((t[2]?.getD 0).toNat:Int)≤55)=true:=bk (by omega);rw[Mk,Ml,bk cC]at h
         cases h
        rw[if_neg hh]at hm;refine bu.intro (i+1) [0,1,2] (by omega) (by omega) ?_;simp only[go_sem,hw,hs,hm];simp
      ·have dR:decide ((t.length:Int)=3)=false:=bb (by omega);rw[if_neg (fun h=>cm h.1)]at hm
       try simp only[go_sem,dO,dR]
       repeat'((first|refine af.intro (by assumption) ?_|refine ar.intro (by assumption) ?_|with_reducible refine dC ?_)<;>simp only[go_sem])
       all_goals(refine bu.intro (i+1) [0,1,2] (by omega) (by omega) ?_;simp only[go_sem,hw,hs,hm];simp)
   ·have au:decide ((i:Int)<(l.length:Int))=false:=bb (by omega);obtain rfl:i=l.length:=by omega
    rw[dK]
    try simp only[go_sem,au]
    repeat'((first|refine af.intro (by assumption) ?_|refine ar.intro (by assumption) ?_)<;>simp only[go_sem,I,au])
    all_goals simp[ah]
set_option maxRecDepth 100000
def z5(c:J)(id:Int):Bool:=jw c id&&nc (aw c id).send
def yB(c:J)(id:Int):J:=if z5 c id then {c with streams:=dq c.streams (f0 (aw c id) (uv (aw c id).send))}else c
set_option maxHeartbeats 8000000 in
theorem Vn(c:J)(id:Int)(hz:iH c)(hw:eb (f0 (aw c id) (uv (aw c id).send))):PureCall Tryz.prog 138 [.agg (J.enc c),.one (.int .i64 id)] [.agg (J.enc ((yB c id))),.one (.bool (z5 c id))]:=by
 refine aP 49 Tryz.func138 Tryz.call138 [.cell 4 37,.tmp 5] ?_;intro ok;clear ok;have j4:=jq hz;have a0:yB c id=if z5 c id then {c with streams:=dq c.streams (f0 (aw c id) (uv (aw c id).send))}else c:=rfl
 have bF:z5 c id=(jw c id&&nc (aw c id).send):=rfl;have br:=EK c id;obtain⟨c9,dc,cB,de⟩:=lY hz.2.1 id;have cn:=kR c id hz;rw[show(bN c.streams id).1=aw c id from rfl]at c9 dc cB de cn;have gU:=kr c.streams (f0 (aw c id) (uv (aw c id).send)) (by have:=hz.1;omega) hz.2.1 hw;generalize aw c id=s at *
 try simp only[go_sem]
 repeat'((first|refine af.ag (by first|assumption|(apply gf<;>first|assumption|omega)|(apply uj<;>first|assumption|omega)) ?_|refine ar.ag (by assumption) ?_|refine a8 ?_)<;>simp only[go_sem,I])
 rw[br]
 cases hg:jw c id with
 |false=>
  rw[hg,Bool.false_and]at bF;rw[bF]at a0
  try simp only[go_sem,I,Bool.not_false]
  repeat'(first|((first|refine af.ag (by assumption) ?_|refine ar.ag (by assumption) ?_)<;>simp only[go_sem,I,Bool.not_false])|(with_reducible refine aq ?_)|fail)
  all_goals simp[a0,bF]
 |true=>
  rw[hg,Bool.true_and]at bF
  try simp only[go_sem,I,Bool.not_true]
  repeat'((first|refine af.ag (by first|assumption|(apply Vo<;>first|assumption|omega)) ?_|refine ar.ag (by assumption) ?_)<;>simp only[go_sem,I])
  cases hr:nc s.send with
  |false=>
   rw[hr]at bF;rw[bF]at a0
   try simp only[go_sem,I,Bool.not_false]
   repeat'(first|((first|refine af.ag (by assumption) ?_|refine ar.ag (by assumption) ?_)<;>simp only[go_sem,I,Bool.not_false])|(with_reducible refine aq ?_)|fail)
   all_goals simp[a0,bF]
  |true=>
   rw[hr]at bF;rw[bF]at a0
   try simp only[go_sem,I,Bool.not_true]
   repeat'(first|((first|refine af.ag (by assumption) ?_|refine ar.ag (by assumption) ?_)<;>simp only[go_sem,I,f0])|(with_reducible refine aq ?_)|fail)
   all_goals simp[a0,bF,f0]
def jN(c:J)(id:Int)(t:List UInt8):J:=if jw c id then {c with streams:=dq c.streams {aw c id with priority:=w8 (aw c id).priority t}}else c
set_option maxHeartbeats 8000000 in
theorem Vp(c:J)(id:Int)(t:List UInt8)(hz:iH c)(ht:t.length≤1000):PureCall Tryz.prog 140 [.agg (J.enc c),.one (.int .i64 id),.one (.str t)] [.agg (J.enc ((jN c id t))),.one (.bool (jw c id))]:=by
 refine aP 43 Tryz.func140 Tryz.call140 [.cell 6 37,.tmp 7] ?_;intro ok;clear ok;have j4:=jq hz;have a0:jN c id t=if jw c id then {c with streams:=dq c.streams {aw c id with priority:=w8 (aw c id).priority t}}else c:=rfl
 have br:=EK c id;have w9:eb (aw c id):=lY hz.2.1 id;have cn:=kR c id hz;rw[show(bN c.streams id).1=aw c id from rfl]at cn;have gU:=kr c.streams {aw c id with priority:=w8 (aw c id).priority t} (by have:=hz.1;omega) hz.2.1 w9;generalize aw c id=s at *;obtain⟨c9,dc,cB,de⟩:=w9
 try simp only[go_sem]
 repeat'((first|refine af.ag (by first|assumption|(apply gf<;>first|assumption|omega)|(apply uj<;>first|assumption|omega)) ?_|refine ar.ag (by assumption) ?_|refine a8 ?_)<;>simp only[go_sem,I])
 rw[br]
 cases hg:jw c id with
 |false=>
  rw[hg]at a0
  try simp only[go_sem,I,Bool.not_false]
  repeat'(first|((first|refine af.ag (by assumption) ?_|refine ar.ag (by assumption) ?_)<;>simp only[go_sem,I,Bool.not_false])|(with_reducible refine aq ?_)|fail)
  all_goals simp[a0]
 |true=>
  rw[hg]at a0
  try simp only[go_sem,Bool.not_true]
  repeat'(first|((first|refine af.ag (by first|assumption|(apply Vq<;>first|assumption|omega)) ?_|refine ar.ag (by assumption) ?_)<;>simp only[go_sem,I])|(with_reducible refine aq ?_)|fail)
  all_goals simp[a0]
def nS(c:J)(u:Bool):gp:=if u then c.eS else c.eT
def w_(c:J):Bool:=iS c&&!decide (24≤(c.streams.length:Int))
def sF(c:J)(u:Bool):J:=if u then {c with eS:=uw c.eS}else {c with eT:=uw c.eT}
def yC(c:J)(u:Bool):Bool:=w_ c&&sG (nS c u)
def BX(c:J)(u:Bool):Int:=if yC c u then vF (tz (nS c u)) c.df u else -1
def jO(c:J)(u:Bool):J:=
 if w_ c then(if sG (nS c u)then {sF c u with streams:=dq c.streams (gq c.df (vF (tz (nS c u)) c.df u) c.own c.dr)}else sF c u)else c
theorem Vr(c:J):(bif !iS c then true else decide (24≤(c.streams.length:Int)))=!w_ c:=by
 unfold w_
 cases iS c<;>cases decide (24≤(c.streams.length:Int))<;>rfl
set_option maxHeartbeats 8000000 in
theorem Vs(c:J)(u:Bool)(hz:iH c):PureCall Tryz.prog 135 [.agg (J.enc c),.one (.bool u)] [.one (.int .i64 (BX c u)),.agg (J.enc ((jO c u))),.one (.bool (yC c u))]:=by
 refine aP 69 Tryz.func135 Tryz.call135 [.tmp 4,.cell 5 37,.tmp 6] ?_;intro ok;clear ok;have j4:=jq hz;have a0:jO c u=if w_ c then(if sG (nS c u)then {sF c u with streams:=dq c.streams (gq c.df (vF (tz (nS c u)) c.df u) c.own c.dr)}else sF c u)else c:=rfl
 have bF:yC c u=(w_ c&&sG (nS c u)):=rfl;have aO:BX c u=if yC c u then vF (tz (nS c u)) c.df u else -1:=rfl
 have br:=Vr c;have gU:=kr c.streams (gq c.df (vF (tz (nS c u)) c.df u) c.own c.dr) (by have:=hz.1;omega) hz.2.1 (BY _ _ _ _)
 try simp only[go_sem]
 repeat'((first|refine af.ag (by first|assumption|(apply gf<;>first|assumption|omega)|(apply uj<;>first|assumption|omega)) ?_|refine ar.ag (by assumption) ?_|refine a8 ?_)<;>simp only[go_sem,I])
 rw[br]
 cases hg:w_ c with
 |false=>
  rw[hg]at a0;rw[hg,Bool.false_and]at bF;rw[bF]at aO
  try simp only[go_sem,Bool.not_false]
  repeat'(first|((first|refine af.ag (by assumption) ?_|refine ar.ag (by assumption) ?_|refine a9 [[.post,.cY,.post,.post],[.cY,.post,.post,.post],[.pre,.pre,.post,.post],[.pre,.pre,.pre,.post]] (by kernel_rfl) (by rfl) ?_)<;>simp only[go_sem,I])|(with_reducible refine aq ?_)|fail)
  all_goals simp[a0,bF,aO]
 |true=>
  rw[hg]at a0;rw[hg,Bool.true_and]at bF
  cases u with
  |true=>
   have ai:nS c true=c.eS:=rfl;have aj:sF c true={c with eS:=uw c.eS}:=rfl;rw[ai]at a0 bF aO gU;rw[aj]at a0
   try simp only[go_sem,Bool.not_true]
   repeat'((first|refine af.ag (by first|assumption|apply NN) ?_|refine ar.ag (by assumption) ?_)<;>simp only[go_sem])
   cases az:sG c.eS with
   |false=>
    rw[az]at a0 bF;rw[bF]at aO
    try simp only[go_sem,Bool.not_false]
    repeat'(first|((first|refine af.ag (by assumption) ?_|refine ar.ag (by assumption) ?_|refine a9 [[.post,.cY,.post,.post],[.cY,.post,.post,.post],[.pre,.pre,.post,.post],[.pre,.pre,.pre,.post]] (by kernel_rfl) (by rfl) ?_)<;>simp only[go_sem,I])|(with_reducible refine aq ?_)|fail)
    all_goals simp[a0,bF,aO]
   |true=>
    rw[az]at a0 bF;rw[bF]at aO
    try simp only[go_sem,Bool.not_true]
    repeat'(first|((first|refine af.ag (by first|assumption|apply NO|apply EL) ?_|refine ar.ag (by assumption) ?_|refine a9 [[.post,.cY,.post,.post,.post],[.cY,.post,.cY,.post,.post],[.pre,.cY,.post,.post,.post],[.pre,.pre,.pre,.post,.post],[.pre,.pre,.pre,.pre,.post]] (by kernel_rfl) (by rfl) ?_)<;>simp only[go_sem,I])|(with_reducible refine aq ?_)|fail)
    all_goals simp[a0,bF,aO]
  |false=>
   have ai:nS c false=c.eT:=rfl;have aj:sF c false={c with eT:=uw c.eT}:=rfl;rw[ai]at a0 bF aO gU;rw[aj]at a0
   try simp only[go_sem,Bool.not_true]
   repeat'((first|refine af.ag (by first|assumption|apply NN) ?_|refine ar.ag (by assumption) ?_)<;>simp only[go_sem])
   cases az:sG c.eT with
   |false=>
    rw[az]at a0 bF;rw[bF]at aO
    try simp only[go_sem,Bool.not_false]
    repeat'(first|((first|refine af.ag (by assumption) ?_|refine ar.ag (by assumption) ?_|refine a9 [[.post,.cY,.post,.post],[.cY,.post,.post,.post],[.pre,.pre,.post,.post],[.pre,.pre,.pre,.post]] (by kernel_rfl) (by rfl) ?_)<;>simp only[go_sem,I])|(with_reducible refine aq ?_)|fail)
    all_goals simp[a0,bF,aO]
   |true=>
    rw[az]at a0 bF;rw[bF]at aO
    try simp only[go_sem,Bool.not_true]
    repeat'(first|((first|refine af.ag (by first|assumption|apply NO|apply EL) ?_|refine ar.ag (by assumption) ?_|refine a9 [[.post,.cY,.post,.post,.post],[.cY,.post,.cY,.post,.post],[.pre,.cY,.post,.post,.post],[.pre,.pre,.pre,.post,.post],[.pre,.pre,.pre,.pre,.post]] (by kernel_rfl) (by rfl) ?_)<;>simp only[go_sem,I])|(with_reducible refine aq ?_)|fail)
    all_goals simp[a0,bF,aO]
theorem V5{m:Nat}{c:J}(h:bZ m c)(id:Int):bZ m (yB c id):=by
 unfold yB;split
 ·rename_i hg;simp only[z5,Bool.and_eq_true]at hg;exact xT (id:=id) h (xX hg.1) rfl ((h.aw id).zo (R6 (h.aw id).snd))
 ·exact h
theorem V7{m:Nat}{c:J}(h:bZ m c)(id:Int)(t:List UInt8):bZ m (jN c id t):=by
 unfold jN;split
 ·rename_i hg;exact xT (id:=id) (s:={aw c id with priority:=w8 (aw c id).priority t}) h (xX hg) rfl ((h.aw id).same rfl rfl)
 ·exact h
theorem Sp(c:J)(u:Bool):(sF c u).streams=c.streams∧(sF c u).packets=c.packets:=by unfold sF;split<;>exact⟨rfl,rfl⟩
theorem V3{m:Nat}{c:J}(h:bZ m c)(u:Bool):bZ m (jO c u):=by
 unfold jO;obtain⟨e5,gr⟩:=Sp c u;split
 ·rename_i hg;split
  ·simp only[w_,Bool.and_eq_true,Bool.not_eq_true',decide_eq_false_iff_not]at hg;have hl:=ET c.streams (gq c.df (vF (tz (nS c u)) c.df u) c.own c.dr);refine⟨by simp only;omega,fun x hx=>?_,by simp only[gr];exact h.uG,by simp only[gr];exact h.kI⟩;rcases yE hx with hx|rfl
   ·exact h.kH x hx
   ·exact R9 m _ _ _ _
  ·exact h.same e5 gr
 ·exact h
inductive mE(c:J):J→Prop
 |same:mE c c
 |E9 (u:Bool):mE c (jO c u)
 |write (id:Int) (d:List UInt8) (h:d.length≤8):mE c (fF c id d)
 |ba (id:Int):mE c (yB c id)
 |read (id k:Int):mE c (er c id k)
 |reset (id k:Int):mE c (jP c id k)
 |Je (id:Int) (t:List UInt8):mE c (jN c id t)
 |Aj (b:Int):mE c (fo c b)
 |hf (f:al) (h:f.data.length≤8) (az:0≤f.offset∧f.offset≤900):mE c (uA c f)
 |Jf (n:Int):mE c (yr c n)
 |Jg (n:Int):mE c (yp c n)
theorem V2{m:Nat}{x y:J}(h:bZ m x)(hm:m≤1000)(hs:mE x y):bZ (m+1) y:=by
 cases hs with
 |same=>exact h.mono (by omega)
 |E9 u=>exact V3 (h.mono (by omega)) u
 |write id d hd=>exact V4 h id hd
 |ba id=>exact(V5 h id).mono (by omega)
 |read id k=>exact(Ox h id k).mono (by omega)
 |reset id k=>exact(V6 h id k).mono (by omega)
 |Je id t=>exact(V7 h id t).mono (by omega)
 |Aj b=>exact V8 h hm b
 |hf f hd az=>exact V9 h hd az
 |Jf n=>exact(V_ h n).mono (by omega)
 |Jg n=>exact(V' h n).mono (by omega)
inductive Drawn:Nat→J→Prop
 |new (v:Bool) (o p:du):Drawn 0 (vJ v o p)
 |step {k:Nat} {x y:J}:Drawn k x→mE x y→Drawn (k+1) y
theorem Drawn.mono{k j:Nat}{x:J}(h:Drawn k x)(hk:k≤j):Drawn j x:=by
 obtain⟨d,rfl⟩:=Nat.le.dest hk;clear hk
 induction d with
 |zero=>exact h
 |succ d dx=>exact dx.step .same
theorem Drawn.z'{k:Nat}{x:J}(h:Drawn k x)(hk:k≤1000):bZ k x:=by
 induction h with
 |new v o p=>exact Wa v o p
 |step _ hs dx=>exact V2 (dx (by omega)) (by omega) hs
def yt(y:J):Prop:=∃x a b c d,Drawn 14 x∧y={x with closed:=a,hO:=b,c0:={x.c0 with used:=c},number:=d}
theorem yt.z'{y:J}(h:yt y):bZ 14 y:=by
 obtain⟨x,a,b,c,d,h,rfl⟩:=h;exact(h.z' (by omega)).same rfl rfl
set_option maxRecDepth 100000
set_option maxHeartbeats 2000000 in
theorem NY(bs:List Int)(hm:bs.length≤maxLen)(i:Nat)(h:Int)(pre a_:List H)(kv:List V)(n:Nat)(hn:pre.length+(a_.length+1)=n)(hr:dd n pre∧dd n a_)(bp:bf n kv)(K:V→List H→Prop)(hi:i≤bs.length)
  (hk:∀(cA:Nat) (h':Int) (c:du),cA≤bs.length→K (.agg (du.bC c)) (pre++cM bs cA h'::a_)):di Tryz.prog 97 kv (pre++cM bs i h::a_) [.ptr pre.length 0 0] K:=by
 have ba:∀(cA:Nat) (h':Int) (c:du) (ex:List H),cA≤bs.length→nN kv K (.agg (du.bC c)) (pre++cM bs cA h'::(a_++ex)):=by
  intro cA h' c ex dn;subst hn;exact⟨List.range (pre.length+(a_.length+1)),.agg (du.bC c),pre++cM bs cA h'::a_,B_ hr bp (by simp only[du.bC,vsees,vsee,ren,rens,and_true]) (by simp[bf,vok]),hk cA h' c dn⟩
 refine di.see ?_;refine(el (n:=19) (rs:=[.cell 2 25]) Tryz.func97 rfl Tryz.call97 Tryz.checked.mixed rfl rfl ?_);simp only[go_sem,jy,e8];refine af.intro VS ?_;simp only[go_sem,e8,ei];refine af.inl (js bs hm i h pre (a_++[.box du.bJ,.box (du.bC Ae)]) _ 3 (by omega) (by omega) _ hi fun ew h1 x1 b5 dF dv=>?_);simp only[go_sem];refine bq (fun q=>?_) (fun q=>?_)
 ·simp only[go_sem,e8,ei,fH,iz];exact ba ew h1 {Ae with ring:=8,window:=4,c0:=6,kT:=1} _ b5
 ·simp only[go_sem];refine bq (fun bh=>?_) (fun bh=>?_)
  ·simp only[go_sem,e8,ei,fH,iz];exact ba ew h1 {Ae with kT:=3,fc:=1,hD:=2} _ b5
  ·simp only[go_sem,e8,ei,fH,iz];exact ba ew h1 Ae _ b5
set_option maxHeartbeats 4000000 in
theorem VT(bs:List Int)(hm:bs.length≤maxLen)(i:Nat)(h:Int)(pre a_:List H)(kv:List V)(n:Nat)(hn:pre.length+(a_.length+1)=n)(hr:dd n pre∧dd n a_)(bp:bf n kv)(K:V→List H→Prop)(hi:i≤bs.length)
  (hk:∀(cA:Nat) (h':Int) (f:al),cA≤bs.length→f.data.length≤6→0≤f.offset→f.offset≤11→K (.agg (al.bC f)) (pre++cM bs cA h'::a_)):di Tryz.prog 143 kv (pre++cM bs i h::a_) [.ptr pre.length 0 0] K:=by
 have ba:∀(cA:Nat) (h':Int) (f:al) (ex:List H),cA≤bs.length→f.data.length≤6→0≤f.offset→f.offset≤11→nN kv K (.agg (al.bC f)) (pre++cM bs cA h'::(a_++ex)):=by
  intro cA h' f ex dn cC cT eI;subst hn;exact⟨List.range (pre.length+(a_.length+1)),.agg (al.bC f),pre++cM bs cA h'::a_,B_ hr bp (by simp only[al.bC,vsees,vsee,ren,rens,and_true]) (by simp[bf,vok]),hk cA h' f dn cC cT eI⟩
 have Cb:∀l:List H,dd (pre.length+((a_++l).length+1)) l→dd (pre.length+((a_++l).length+1)) pre∧dd (pre.length+((a_++l).length+1)) (a_++l):=by
  intro l hl;have e:n≤pre.length+((a_++l).length+1):=by simp only[List.length_append];omega
  exact⟨yJ e hr.1,B9 (yJ e hr.2) hl⟩
 have VU:∀k,n≤k→bf k kv:=fun k hk=>ld hk _ bp;refine di.see ?_;refine(el (n:=34) (rs:=[.cell 2 120]) Tryz.func143 rfl Tryz.call143 Tryz.checked.mixed rfl rfl ?_);simp only[go_sem,jy,e8,ei];refine af.inl (zY bs hm i h pre (a_++[.box al.bJ,.ao 1 ([4,5,8,8,8,8,16,17,18,20,21,22].map a') true]) _ (a_.length+1) [4,5,8,8,8,8,16,17,18,20,21,22] (by rw[ei];rfl) (by decide) (by decide) _ hi fun ew h1 x1 b5 dF=>?_);simp only[go_sem,e8,ei];refine af.inl (js bs hm ew h1 pre (a_++[.box al.bJ,.ao 1 ([4,5,8,8,8,8,16,17,18,20,21,22].map a') true,.box [.d (.int .i64 x1),.d (.int .i64 0),.d (.int .i64 0),.d (.str []),.d (.bool false),.d (.int .i64 0),.d (.int .i64 0),.d (.int .i64 0),.d (.bool false)]]) _ 8 (by omega) (by omega) _ b5 fun dN h2 x2 cv dO dD=>?_);simp only[go_sem,e8,ei];refine af.inl (js bs hm dN h2 pre (a_++[.box al.bJ,.ao 1 ([4,5,8,8,8,8,16,17,18,20,21,22].map a') true,.box [.d (.int .i64 x1),.d (.int .i64 x2),.d (.int .i64 0),.d (.str []),.d (.bool false),.d (.int .i64 0),.d (.int .i64 0),.d (.int .i64 0),.d (.bool false)]]) _ 12 (by omega) (by omega) _ cv fun eG ak gy cm dR jz=>?_);simp only[go_sem,e8,ei];refine af.gV [0,2,3] (by simp only[gn,List.elem_cons,List.elem_nil,Nat.reduceBEq,Nat.reduceAdd,cond_true,cond_false];rfl) (I9 bs hm eG ak pre (a_++[.box al.bJ,.ao 1 ([4,5,8,8,8,8,16,17,18,20,21,22].map a') true,.box [.d (.int .i64 x1),.d (.int .i64 x2),.d (.int .i64 gy),.d (.str []),.d (.bool false),.d (.int .i64 0),.d (.int .i64 0),.d (.int .i64 0),.d (.bool false)]]) _ 6 (Cb _ (by simp[dd,db,bf,vok])) (by
  simp only[List.length_append,List.length_cons,List.length_nil,bx,b1,bf,vok,true_and];have hq:=VU (pre.length+(a_.length+(0+1+1+1)+1)) (by omega);simp only[hq,and_true];omega) (by omega) _ cm fun jR aC de dY kq=>?_)
 simp only[go_sem,e8,ei];refine af.inl (vI bs hm jR aC pre (a_++[.box al.bJ,.ao 1 ([4,5,8,8,8,8,16,17,18,20,21,22].map a') true,.box [.d (.int .i64 x1),.d (.int .i64 x2),.d (.int .i64 gy),.d (.str de),.d (.bool false),.d (.int .i64 0),.d (.int .i64 0),.d (.int .i64 0),.d (.bool false)]]) _ 4 (by omega) (by omega) _ dY fun B1 bL l4 e4=>?_);simp only[go_sem,e8,ei];refine af.inl (js bs hm B1 bL pre (a_++[.box al.bJ,.ao 1 ([4,5,8,8,8,8,16,17,18,20,21,22].map a') true,.box [.d (.int .i64 x1),.d (.int .i64 x2),.d (.int .i64 gy),.d (.str de),.d (.bool l4),.d (.int .i64 0),.d (.int .i64 0),.d (.int .i64 0),.d (.bool false)]]) _ 5 (by omega) (by omega) _ e4 fun ER eD xe eY E6 E7=>?_);simp only[go_sem,e8,ei];refine af.inl (js bs hm ER eD pre (a_++[.box al.bJ,.ao 1 ([4,5,8,8,8,8,16,17,18,20,21,22].map a') true,.box [.d (.int .i64 x1),.d (.int .i64 x2),.d (.int .i64 gy),.d (.str de),.d (.bool l4),.d (.int .i64 xe),.d (.int .i64 0),.d (.int .i64 0),.d (.bool false)]]) _ 40 (by omega) (by omega) _ eY fun VV l5 yK fA E8 adY=>?_);simp only[go_sem,e8,ei];refine af.inl (js bs hm VV l5 pre (a_++[.box al.bJ,.ao 1 ([4,5,8,8,8,8,16,17,18,20,21,22].map a') true,.box [.d (.int .i64 x1),.d (.int .i64 x2),.d (.int .i64 gy),.d (.str de),.d (.bool l4),.d (.int .i64 xe),.d (.int .i64 yK),.d (.int .i64 0),.d (.bool false)]]) _ 14 (by omega) (by omega) _ fA fun i8 fI Af gh Ag adZ=>?_);simp only[go_sem,e8,ei];refine af.inl (vI bs hm i8 fI pre (a_++[.box al.bJ,.ao 1 ([4,5,8,8,8,8,16,17,18,20,21,22].map a') true,.box [.d (.int .i64 x1),.d (.int .i64 x2),.d (.int .i64 gy),.d (.str de),.d (.bool l4),.d (.int .i64 xe),.d (.int .i64 yK),.d (.int .i64 Af),.d (.bool false)]]) _ 2 (by omega) (by omega) _ gh fun VW Ah vM gX=>?_);simp only[go_sem,e8,ei];refine af.intro (Ot x1 x2 gy de l4 xe yK Af vM) ?_;simp only[go_sem,e8,ei,fH,iz];have hu:(gz ⟨x1,x2,gy,de,l4,xe,yK,Af,vM⟩).data.length≤6:=by simp only[gz];split<;>first|exact kq|simp
 have Ou:0≤(gz ⟨x1,x2,gy,de,l4,xe,yK,Af,vM⟩).offset∧(gz ⟨x1,x2,gy,de,l4,xe,yK,Af,vM⟩).offset≤11:=by simp only[gz];split<;>omega
 exact ba VW Ah (gz ⟨x1,x2,gy,de,l4,xe,yK,Af,vM⟩) _ gX hu Ou.1 Ou.2
set_option maxRecDepth 100000
set_option maxHeartbeats 4000000 in
theorem Vz(s:Bool)(GY GZ G0 G1 G2 G3 G4 G5 G6 G7 G8 G9 G_ G' Ha I0:Int):PureCall Tryz.prog 96 [.one (.bool s),.agg [.int .i64 GY,.int .i64 GZ,.int .i64 G0,.int .i64 G1,.int .i64 G2,.int .i64 G3,.int .i64 G4,.int .i64 G5],.agg [.int .i64 G6,.int .i64 G7,.int .i64 G8,.int .i64 G9,.int .i64 G_,.int .i64 G',.int .i64 Ha,.int .i64 I0]] [.agg (J.enc (vJ s (⟨GY,GZ,G0,G1,G2,G3,G4,G5⟩:du) (⟨G6,G7,G8,G9,G_,G',Ha,I0⟩:du))),.one (.bool (gO (⟨GY,GZ,G0,G1,G2,G3,G4,G5⟩:du)&&gO (⟨G6,G7,G8,G9,G_,G',Ha,I0⟩:du)))]:=by
 refine aP 85 Tryz.func96 Tryz.call96 [.cell 6 37,.tmp 7] ?_;intro _
 try simp only[go_sem]
 repeat'((first|refine af.intro (by first|apply B5|apply SJ|apply SK|apply abl|apply abm) ?_|refine ar.intro (by apply B5) ?_|refine a8 ?_|refine bq (fun h=>?_) (fun h=>?_))<;>simp only[go_sem])
 all_goals(cases h1:gO (⟨GY,GZ,G0,G1,G2,G3,G4,G5⟩:du)<;>cases h2:gO (⟨G6,G7,G8,G9,G_,G',Ha,I0⟩:du)<;>simp_all [vJ])
set_option maxRecDepth 100000
theorem HR{S:List Bool}(h:S.length=9):∃fP b5 cv cm dY e4 eY fA gh,S=[fP,b5,cv,cm,dY,e4,eY,fA,gh]:=by
 match S,h with|[fP,b5,cv,cm,dY,e4,eY,fA,gh],_=>exact⟨fP,b5,cv,cm,dY,e4,eY,fA,gh,rfl⟩
theorem HS{S:List Bool}(h:S.length=10):∃fP b5 cv cm dY e4 eY fA gh gX,S=[fP,b5,cv,cm,dY,e4,eY,fA,gh,gX]:=by
 match S,h with|[fP,b5,cv,cm,dY,e4,eY,fA,gh,gX],_=>exact⟨fP,b5,cv,cm,dY,e4,eY,fA,gh,gX,rfl⟩
theorem Jc{S:List Bool}(h:S.length=11):∃fP b5 cv cm dY e4 eY fA gh gX j5,S=[fP,b5,cv,cm,dY,e4,eY,fA,gh,gX,j5]:=by
 match S,h with|[fP,b5,cv,cm,dY,e4,eY,fA,gh,gX,j5],_=>exact⟨fP,b5,cv,cm,dY,e4,eY,fA,gh,gX,j5,rfl⟩
def hj(y:J):List H:=[.ao 39 (y.streams.map ae.enc) true,.ao 2 (y.packets.map aI.enc) true]
def gW(y:J)(a:Nat):V:=.agg (J.aK y (.sl a 0 y.streams.length) (.sl (a+1) 0 y.packets.length))
def HT(K:V→List H→Prop):V→List H→Prop:=fun x hs'=>K x hs'∨∃id sz xs,aN hs' id=.ag sz xs∧K x (b3 hs' id (.ao sz xs true))
theorem tq{kv:List V}(bp:bf 5 kv)(y:J)(a:Nat)(ha:5≤a){bD c bh bI cd:H}(hq:dd 5 [bD,c,bh,bI,cd]){ex:List H}{K:V→List H→Prop}(ai:aN (bD::c::bh::bI::cd::ex) a=.ag 39 (y.streams.map ae.enc))(aj:aN (bD::c::bh::bI::cd::ex) (a+1)=.ag 2 (y.packets.map aI.enc))
  (bU:K (gW y 5) ([bD,c,bh,bI,cd]++hj y)):nN kv (HT (HT K)) (gW y a) (bD::c::bh::bI::cd::ex):=by
 refine⟨List.range 5++[a,a+1],gW y 5,[bD,c,bh,bI,cd]++[H.ag 39 (y.streams.map ae.enc),H.ag 2 (y.packets.map aI.enc)],?_,Or.inr ⟨5,39,_,rfl,Or.inr ⟨6,2,_,rfl,bU⟩⟩⟩;refine IJ (hs:=[bD,c,bh,bI,cd]) (ex:=ex) [a,a+1] (by simp) (by simp;omega) hq ?_ (by simp[kS,hok]) bp ?_ ?_
 ·simp only[bx,b1,hsees,ai,aj];simp[hsee]
 ·simp[gW,vsees,vsee,ren,rens,List.range,List.range.loop]
 ·simp[gW,bf,vok]
theorem M4{kv:List V}(bp:bf 5 kv)(x:J){bD c bh bI cd:H}(hq:dd 5 [bD,c,bh,bI,cd]){ex:List H}{K:V→List H→Prop}(bU:K (gW x 5) ([bD,c,bh,bI,cd]++hj x)) :
  nN kv (HT (HT K)) (gW x 5) (bD::c::bh::bI::cd::.ao 39 (x.streams.map ae.enc) true::.ao 2 (x.packets.map aI.enc) true::ex):=by
 have hr:dd 7 ([bD,c,bh,bI,cd]++hj x):=B9 (yJ (m:=5) (n:=7) (by omega) hq) (by simp[hj,dd,db]);refine⟨List.range 7,gW x 5,[bD,c,bh,bI,cd]++hj x,?_,Or.inl (Or.inl bU)⟩;refine yw (hs:=[bD,c,bh,bI,cd]++hj x) (ex:=ex) hr (ld (by simp[hj]) _ bp) ?_ ?_
 ·simp[gW,hj,vsees,vsee,ren,rens,List.range,List.range.loop]
 ·simp[gW,hj,bf,vok]
def Eu(bD c bh bI cd:H)(x:J):List H:=[bD,c,bh,bI,cd,.ao 39 (x.streams.map ae.enc) true,.ao 2 (x.packets.map aI.enc) true,.box (J.aK x (.sl 5 0 x.streams.length) (.sl 6 0 x.packets.length)),.box J.bJ]
def M5(bs:List Int)(bD bh bI cd:H)(x:J)(id:Int)(i:Nat)(h:Int)(z:Nat×Int)(S:List Bool):St:=⟨(.ptr 1 0 0::.agg (J.aK x (.sl 5 0 x.streams.length) (.sl 6 0 x.packets.length))::.ab::.ptr 7 0 0::.ptr 8 0 0::(bif S.getD 10 false then .d (.int .i64 z.2)else .d (.int .i64 id))::aF 5 (.ptr 7 0 17::.sl 5 0 x.streams.length::.d (.int .i64 x.streams.length)::.d (.bool true)::(bif S.getD 0 false then .ptr 7 0 17 else .ab)::(bif S.getD 1 false then .sl 5 0 x.streams.length else .ab)::(bif S.getD 2 false then .ptr 1 0 0 else .ab)::(bif S.getD 3 false then .ptr 7 0 17 else .ab)::(bif S.getD 4 false then .sl 5 0 x.streams.length else .ab)::(bif S.getD 5 false then .d (.int .i64 x.streams.length)else .ab)::(bif S.getD 6 false then .d (.int .i64 z.1)else .ab)::(bif S.getD 7 false then .ptr 5 z.1 0 else .ab)::(bif S.getD 8 false then .ptr 5 z.1 0 else .ab)::(bif S.getD 9 false then .d (.int .i64 z.2)else .ab)::aF 122 [])),[bD,cM bs i h,bh,bI,cd,.ao 39 (x.streams.map ae.enc) true,.ao 2 (x.packets.map aI.enc) true,.box (J.aK x (.sl 5 0 x.streams.length) (.sl 6 0 x.packets.length)),.box J.bJ]⟩
def M6(bs:List Int)(bD bh bI cd:H)(x:J)(id:Int)(i:Nat)(h:Int)(z:Bool)(S:List Bool):St:=⟨(.ptr 1 0 0::.ab::.ab::.ptr 7 0 0::.ptr 8 0 0::.d (.int .i64 id)::.ptr 9 0 0::aF 18 (.agg (J.aK x (.sl 5 0 x.streams.length) (.sl 6 0 x.packets.length))::.ptr 1 0 0::.d (.int .i64 0)::.d (.bool true)::.d (.bool true)::(bif S.getD 4 false then .dB [.d (.int .i64 (BX x z)),.agg (J.aK (jO x z) (.sl 10 0 (jO x z).streams.length) (.sl 11 0 (jO x z).packets.length)),.d (.bool (yC x z))]else .ab)::(bif S.getD 0 false then .agg (J.aK x (.sl 5 0 x.streams.length) (.sl 6 0 x.packets.length))else .ab)::(bif S.getD 1 false then .ptr 1 0 0 else .ab)::(bif S.getD 2 false then .d (.bool z)else .ab)::(bif S.getD 3 false then .dB [.d (.int .i64 (BX x z)),.agg (J.aK (jO x z) (.sl 10 0 (jO x z).streams.length) (.sl 11 0 (jO x z).packets.length)),.d (.bool (yC x z))]else .ab)::(bif S.getD 5 false then .d (.int .i64 (BX x z))else .ab)::(bif S.getD 6 false then .agg (J.aK (jO x z) (.sl 10 0 (jO x z).streams.length) (.sl 11 0 (jO x z).packets.length))else .ab)::(bif S.getD 7 false then .d (.bool (yC x z))else .ab)::aF 109 [])),[bD,cM bs i h,bh,bI,cd,.ao 39 (x.streams.map ae.enc) true,.ao 2 (x.packets.map aI.enc) true,.box (J.aK x (.sl 5 0 x.streams.length) (.sl 6 0 x.packets.length)),.box J.bJ,(bif S.getD 8 false then .box (J.aK (jO x z) (.sl 10 0 (jO x z).streams.length) (.sl 11 0 (jO x z).packets.length))else .box (J.aK x (.sl 5 0 x.streams.length) (.sl 6 0 x.packets.length)))]++(bif S.getD 3 false then [.ag 39 ((jO x z).streams.map ae.enc),.ag 2 ((jO x z).packets.map aI.enc)]else [])⟩
def M7(bs:List Int)(bD bh bI cd:H)(x:J)(id:Int)(i:Nat)(h:Int)(z:List UInt8)(S:List Bool):St:=⟨(.ptr 1 0 0::.ab::.ab::.ptr 7 0 0::.ptr 8 0 0::.d (.int .i64 id)::.ptr 9 0 0::aF 18 (.agg (J.aK x (.sl 5 0 x.streams.length) (.sl 6 0 x.packets.length))::.ptr 1 0 0::.d (.int .i64 1)::.d (.bool false)::.d (.bool false)::aF 8 (.d (.bool true)::.d (.bool true)::.ab::(bif S.getD 5 false then .dB [.d (.int .i64 (xa x id z)),.agg (J.aK (fF x id z) (.sl 10 0 (fF x id z).streams.length) (.sl 11 0 (fF x id z).packets.length))]else .ab)::(bif S.getD 0 false then .agg (J.aK x (.sl 5 0 x.streams.length) (.sl 6 0 x.packets.length))else .ab)::(bif S.getD 1 false then .d (.int .i64 id)else .ab)::(bif S.getD 2 false then .ptr 1 0 0 else .ab)::(bif S.getD 3 false then .d (.str z)else .ab)::(bif S.getD 4 false then .dB [.d (.int .i64 (xa x id z)),.agg (J.aK (fF x id z) (.sl 10 0 (fF x id z).streams.length) (.sl 11 0 (fF x id z).packets.length))]else .ab)::(bif S.getD 6 false then .d (.int .i64 (xa x id z))else .ab)::(bif S.getD 7 false then .agg (J.aK (fF x id z) (.sl 10 0 (fF x id z).streams.length) (.sl 11 0 (fF x id z).packets.length))else .ab)::aF 98 []))),[bD,cM bs i h,bh,bI,cd,.ao 39 (x.streams.map ae.enc) true,.ao 2 (x.packets.map aI.enc) true,.box (J.aK x (.sl 5 0 x.streams.length) (.sl 6 0 x.packets.length)),.box J.bJ,(bif S.getD 8 false then .box (J.aK (fF x id z) (.sl 10 0 (fF x id z).streams.length) (.sl 11 0 (fF x id z).packets.length))else .box (J.aK x (.sl 5 0 x.streams.length) (.sl 6 0 x.packets.length)))]++(bif S.getD 4 false then [.ag 39 ((fF x id z).streams.map ae.enc),.ag 2 ((fF x id z).packets.map aI.enc)]else [])⟩
def M8(bs:List Int)(bD bh bI cd:H)(x:J)(id:Int)(i:Nat)(h:Int)(z:List UInt8)(S:List Bool):St:=⟨(.ptr 1 0 0::.ab::.ab::.ptr 7 0 0::.ptr 8 0 0::.d (.int .i64 id)::.ptr 9 0 0::aF 18 (.agg (J.aK x (.sl 5 0 x.streams.length) (.sl 6 0 x.packets.length))::.ptr 1 0 0::.d (.int .i64 2)::.d (.bool false)::.d (.bool false)::aF 8 (.d (.bool true)::.d (.bool false)::.d (.bool true)::(bif S.getD 5 false then .dB [.d (.int .i64 (xa x id z)),.agg (J.aK (fF x id z) (.sl 10 0 (fF x id z).streams.length) (.sl 11 0 (fF x id z).packets.length))]else .ab)::(bif S.getD 0 false then .agg (J.aK x (.sl 5 0 x.streams.length) (.sl 6 0 x.packets.length))else .ab)::(bif S.getD 1 false then .d (.int .i64 id)else .ab)::(bif S.getD 2 false then .ptr 1 0 0 else .ab)::(bif S.getD 3 false then .d (.str z)else .ab)::(bif S.getD 4 false then .dB [.d (.int .i64 (xa x id z)),.agg (J.aK (fF x id z) (.sl 10 0 (fF x id z).streams.length) (.sl 11 0 (fF x id z).packets.length))]else .ab)::(bif S.getD 6 false then .d (.int .i64 (xa x id z))else .ab)::(bif S.getD 7 false then .agg (J.aK (fF x id z) (.sl 10 0 (fF x id z).streams.length) (.sl 11 0 (fF x id z).packets.length))else .ab)::aF 98 []))),[bD,cM bs i h,bh,bI,cd,.ao 39 (x.streams.map ae.enc) true,.ao 2 (x.packets.map aI.enc) true,.box (J.aK x (.sl 5 0 x.streams.length) (.sl 6 0 x.packets.length)),.box J.bJ,(bif S.getD 8 false then .box (J.aK (fF x id z) (.sl 10 0 (fF x id z).streams.length) (.sl 11 0 (fF x id z).packets.length))else .box (J.aK x (.sl 5 0 x.streams.length) (.sl 6 0 x.packets.length)))]++(bif S.getD 4 false then [.ag 39 ((fF x id z).streams.map ae.enc),.ag 2 ((fF x id z).packets.map aI.enc)]else [])⟩
def M9(bs:List Int)(bD bh bI cd:H)(x:J)(id:Int)(i:Nat)(h z:Int)(S:List Bool):St:=⟨(.ptr 1 0 0::.ab::.ab::.ptr 7 0 0::.ptr 8 0 0::.d (.int .i64 id)::.ptr 9 0 0::aF 18 (.agg (J.aK x (.sl 5 0 x.streams.length) (.sl 6 0 x.packets.length))::.ptr 1 0 0::.d (.int .i64 4)::.d (.bool false)::.d (.bool false)::aF 8 (.d (.bool false)::.d (.bool false)::.d (.bool false)::aF 8 (.d (.bool false)::.d (.bool false)::aF 8 (.d (.bool true)::.d (.bool true)::(bif S.getD 5 false then .dB [.d (.str (ny x id z)),.d (.bool (nz x id z)),.agg (J.aK (er x id z) (.sl 10 0 (er x id z).streams.length) (.sl 11 0 (er x id z).packets.length))]else .ab)::(bif S.getD 0 false then .agg (J.aK x (.sl 5 0 x.streams.length) (.sl 6 0 x.packets.length))else .ab)::(bif S.getD 1 false then .d (.int .i64 id)else .ab)::(bif S.getD 2 false then .ptr 1 0 0 else .ab)::(bif S.getD 3 false then .d (.int .i64 z)else .ab)::(bif S.getD 4 false then .dB [.d (.str (ny x id z)),.d (.bool (nz x id z)),.agg (J.aK (er x id z) (.sl 10 0 (er x id z).streams.length) (.sl 11 0 (er x id z).packets.length))]else .ab)::(bif S.getD 6 false then .d (.str (ny x id z))else .ab)::(bif S.getD 7 false then .d (.bool (nz x id z))else .ab)::(bif S.getD 8 false then .agg (J.aK (er x id z) (.sl 10 0 (er x id z).streams.length) (.sl 11 0 (er x id z).packets.length))else .ab)::aF 77 []))))),[bD,cM bs i h,bh,bI,cd,.ao 39 (x.streams.map ae.enc) true,.ao 2 (x.packets.map aI.enc) true,.box (J.aK x (.sl 5 0 x.streams.length) (.sl 6 0 x.packets.length)),.box J.bJ,(bif S.getD 9 false then .box (J.aK (er x id z) (.sl 10 0 (er x id z).streams.length) (.sl 11 0 (er x id z).packets.length))else .box (J.aK x (.sl 5 0 x.streams.length) (.sl 6 0 x.packets.length)))]++(bif S.getD 4 false then [.ag 39 ((er x id z).streams.map ae.enc),.ag 2 ((er x id z).packets.map aI.enc)]else [])⟩
def M_(bs:List Int)(bD bh bI cd:H)(x:J)(id:Int)(i:Nat)(h z:Int)(S:List Bool):St:=⟨(.ptr 1 0 0::.ab::.ab::.ptr 7 0 0::.ptr 8 0 0::.d (.int .i64 id)::.ptr 9 0 0::aF 18 (.agg (J.aK x (.sl 5 0 x.streams.length) (.sl 6 0 x.packets.length))::.ptr 1 0 0::.d (.int .i64 5)::.d (.bool false)::.d (.bool false)::aF 8 (.d (.bool false)::.d (.bool false)::.d (.bool false)::aF 8 (.d (.bool false)::.d (.bool false)::aF 8 (.d (.bool false)::.d (.bool false)::aF 9 (.d (.bool true)::.d (.bool true)::.ptr 1 0 0::.d (.bool true)::(bif S.getD 5 false then .dB [.agg (J.aK (jP x id z) (.sl 10 0 (jP x id z).streams.length) (.sl 11 0 (jP x id z).packets.length)),.d (.bool (vG x id z))]else .ab)::(bif S.getD 0 false then .agg (J.aK x (.sl 5 0 x.streams.length) (.sl 6 0 x.packets.length))else .ab)::(bif S.getD 1 false then .d (.int .i64 id)else .ab)::(bif S.getD 2 false then .ptr 1 0 0 else .ab)::(bif S.getD 3 false then .d (.int .i64 z)else .ab)::(bif S.getD 4 false then .dB [.agg (J.aK (jP x id z) (.sl 10 0 (jP x id z).streams.length) (.sl 11 0 (jP x id z).packets.length)),.d (.bool (vG x id z))]else .ab)::(bif S.getD 6 false then .agg (J.aK (jP x id z) (.sl 10 0 (jP x id z).streams.length) (.sl 11 0 (jP x id z).packets.length))else .ab)::(bif S.getD 7 false then .d (.bool (vG x id z))else .ab)::aF 65 [])))))),[bD,cM bs i h,bh,bI,cd,.ao 39 (x.streams.map ae.enc) true,.ao 2 (x.packets.map aI.enc) true,.box (J.aK x (.sl 5 0 x.streams.length) (.sl 6 0 x.packets.length)),.box J.bJ,(bif S.getD 8 false then .box (J.aK (jP x id z) (.sl 10 0 (jP x id z).streams.length) (.sl 11 0 (jP x id z).packets.length))else .box (J.aK x (.sl 5 0 x.streams.length) (.sl 6 0 x.packets.length)))]++(bif S.getD 4 false then [.ag 39 ((jP x id z).streams.map ae.enc),.ag 2 ((jP x id z).packets.map aI.enc)]else [])⟩
def M'(bs:List Int)(bD bh bI cd:H)(x:J)(id:Int)(i:Nat)(h:Int)(z:List UInt8)(S:List Bool):St:=⟨(.ptr 1 0 0::.ab::.ab::.ptr 7 0 0::.ptr 8 0 0::.d (.int .i64 id)::.ptr 9 0 0::aF 18 (.agg (J.aK x (.sl 5 0 x.streams.length) (.sl 6 0 x.packets.length))::.ptr 1 0 0::.d (.int .i64 5)::.d (.bool false)::.d (.bool false)::aF 8 (.d (.bool false)::.d (.bool false)::.d (.bool false)::aF 8 (.d (.bool false)::.d (.bool false)::aF 8 (.d (.bool false)::.d (.bool false)::aF 9 (.d (.bool true)::.d (.bool true)::.ptr 1 0 0::.d (.bool false)::aF 8 ((bif S.getD 6 false then .dB [.agg (J.aK (jN x id z) (.sl 11 0 (jN x id z).streams.length) (.sl 12 0 (jN x id z).packets.length)),.d (.bool (jw x id))]else .ab)::(bif S.getD 0 false then .agg (J.aK x (.sl 5 0 x.streams.length) (.sl 6 0 x.packets.length))else .ab)::(bif S.getD 1 false then .d (.int .i64 id)else .ab)::(bif S.getD 2 false then .ptr 1 0 0 else .ab)::(bif S.getD 3 false then .sl 10 0 3 else .ab)::(bif S.getD 4 false then .d (.str z)else .ab)::(bif S.getD 5 false then .dB [.agg (J.aK (jN x id z) (.sl 11 0 (jN x id z).streams.length) (.sl 12 0 (jN x id z).packets.length)),.d (.bool (jw x id))]else .ab)::(bif S.getD 7 false then .agg (J.aK (jN x id z) (.sl 11 0 (jN x id z).streams.length) (.sl 12 0 (jN x id z).packets.length))else .ab)::(bif S.getD 8 false then .d (.bool (jw x id))else .ab)::aF 56 []))))))),[bD,cM bs i h,bh,bI,cd,.ao 39 (x.streams.map ae.enc) true,.ao 2 (x.packets.map aI.enc) true,.box (J.aK x (.sl 5 0 x.streams.length) (.sl 6 0 x.packets.length)),.box J.bJ,(bif S.getD 9 false then .box (J.aK (jN x id z) (.sl 11 0 (jN x id z).streams.length) (.sl 12 0 (jN x id z).packets.length))else .box (J.aK x (.sl 5 0 x.streams.length) (.sl 6 0 x.packets.length)))]++(bif S.getD 3 false then [.ao 1 ([[117,61,49],[105],[117,61,53,44,32,105]].map kW) true]else [])++(bif S.getD 5 false then [.ag 39 ((jN x id z).streams.map ae.enc),.ag 2 ((jN x id z).packets.map aI.enc)]else [])⟩
def Na(bs:List Int)(bD bh bI cd:H)(x:J)(id:Int)(i:Nat)(h z:Int)(S:List Bool):St:=⟨(.ptr 1 0 0::.ab::.ab::.ptr 7 0 0::.ptr 8 0 0::.d (.int .i64 id)::.ptr 9 0 0::aF 18 (.agg (J.aK x (.sl 5 0 x.streams.length) (.sl 6 0 x.packets.length))::.ptr 1 0 0::.d (.int .i64 6)::.d (.bool false)::.d (.bool false)::aF 8 (.d (.bool false)::.d (.bool false)::.d (.bool false)::aF 8 (.d (.bool false)::.d (.bool false)::aF 8 (.d (.bool false)::.d (.bool false)::aF 9 (.d (.bool false)::.d (.bool false)::aF 19 (.d (.bool true)::.d (.bool true)::.ab::(bif S.getD 5 false then .dB [.d (.str (vP x (IntKind.i64.wrap (8+z)))),.d (.int .i64 (uF x (IntKind.i64.wrap (8+z)))),.agg (J.aK (fo x (IntKind.i64.wrap (8+z))) (.sl 10 0 (fo x (IntKind.i64.wrap (8+z))).streams.length) (.sl 11 0 (fo x (IntKind.i64.wrap (8+z))).packets.length))]else .ab)::(bif S.getD 0 false then .agg (J.aK x (.sl 5 0 x.streams.length) (.sl 6 0 x.packets.length))else .ab)::(bif S.getD 1 false then .ptr 1 0 0 else .ab)::(bif S.getD 2 false then .d (.int .i64 z)else .ab)::(bif S.getD 3 false then .d (.int .i64 (IntKind.i64.wrap (8+z)))else .ab)::(bif S.getD 4 false then .dB [.d (.str (vP x (IntKind.i64.wrap (8+z)))),.d (.int .i64 (uF x (IntKind.i64.wrap (8+z)))),.agg (J.aK (fo x (IntKind.i64.wrap (8+z))) (.sl 10 0 (fo x (IntKind.i64.wrap (8+z))).streams.length) (.sl 11 0 (fo x (IntKind.i64.wrap (8+z))).packets.length))]else .ab)::(bif S.getD 6 false then .d (.str (vP x (IntKind.i64.wrap (8+z))))else .ab)::(bif S.getD 7 false then .d (.int .i64 (uF x (IntKind.i64.wrap (8+z))))else .ab)::(bif S.getD 8 false then .agg (J.aK (fo x (IntKind.i64.wrap (8+z))) (.sl 10 0 (fo x (IntKind.i64.wrap (8+z))).streams.length) (.sl 11 0 (fo x (IntKind.i64.wrap (8+z))).packets.length))else .ab)::aF 44 []))))))),[bD,cM bs i h,bh,bI,cd,.ao 39 (x.streams.map ae.enc) true,.ao 2 (x.packets.map aI.enc) true,.box (J.aK x (.sl 5 0 x.streams.length) (.sl 6 0 x.packets.length)),.box J.bJ,(bif S.getD 9 false then .box (J.aK (fo x (IntKind.i64.wrap (8+z))) (.sl 10 0 (fo x (IntKind.i64.wrap (8+z))).streams.length) (.sl 11 0 (fo x (IntKind.i64.wrap (8+z))).packets.length))else .box (J.aK x (.sl 5 0 x.streams.length) (.sl 6 0 x.packets.length)))]++(bif S.getD 4 false then [.ag 39 ((fo x (IntKind.i64.wrap (8+z))).streams.map ae.enc),.ag 2 ((fo x (IntKind.i64.wrap (8+z))).packets.map aI.enc)]else [])⟩
def Nb(bs:List Int)(bD bh bI cd:H)(x:J)(id:Int)(i:Nat)(h z:Int)(S:List Bool):St:=⟨(.ptr 1 0 0::.ab::.ab::.ptr 7 0 0::.ptr 8 0 0::.d (.int .i64 id)::.ptr 9 0 0::aF 18 (.agg (J.aK x (.sl 5 0 x.streams.length) (.sl 6 0 x.packets.length))::.ptr 1 0 0::.d (.int .i64 7)::.d (.bool false)::.d (.bool false)::aF 8 (.d (.bool false)::.d (.bool false)::.d (.bool false)::aF 8 (.d (.bool false)::.d (.bool false)::aF 8 (.d (.bool false)::.d (.bool false)::aF 9 (.d (.bool false)::.d (.bool false)::aF 19 (.d (.bool true)::.d (.bool false)::.d (.bool true)::(bif S.getD 5 false then .dB [.d (.str (vP x (IntKind.i64.wrap (8+z)))),.d (.int .i64 (uF x (IntKind.i64.wrap (8+z)))),.agg (J.aK (fo x (IntKind.i64.wrap (8+z))) (.sl 10 0 (fo x (IntKind.i64.wrap (8+z))).streams.length) (.sl 11 0 (fo x (IntKind.i64.wrap (8+z))).packets.length))]else .ab)::(bif S.getD 0 false then .agg (J.aK x (.sl 5 0 x.streams.length) (.sl 6 0 x.packets.length))else .ab)::(bif S.getD 1 false then .ptr 1 0 0 else .ab)::(bif S.getD 2 false then .d (.int .i64 z)else .ab)::(bif S.getD 3 false then .d (.int .i64 (IntKind.i64.wrap (8+z)))else .ab)::(bif S.getD 4 false then .dB [.d (.str (vP x (IntKind.i64.wrap (8+z)))),.d (.int .i64 (uF x (IntKind.i64.wrap (8+z)))),.agg (J.aK (fo x (IntKind.i64.wrap (8+z))) (.sl 10 0 (fo x (IntKind.i64.wrap (8+z))).streams.length) (.sl 11 0 (fo x (IntKind.i64.wrap (8+z))).packets.length))]else .ab)::(bif S.getD 6 false then .d (.str (vP x (IntKind.i64.wrap (8+z))))else .ab)::(bif S.getD 7 false then .d (.int .i64 (uF x (IntKind.i64.wrap (8+z))))else .ab)::(bif S.getD 8 false then .agg (J.aK (fo x (IntKind.i64.wrap (8+z))) (.sl 10 0 (fo x (IntKind.i64.wrap (8+z))).streams.length) (.sl 11 0 (fo x (IntKind.i64.wrap (8+z))).packets.length))else .ab)::aF 44 []))))))),[bD,cM bs i h,bh,bI,cd,.ao 39 (x.streams.map ae.enc) true,.ao 2 (x.packets.map aI.enc) true,.box (J.aK x (.sl 5 0 x.streams.length) (.sl 6 0 x.packets.length)),.box J.bJ,(bif S.getD 9 false then .box (J.aK (fo x (IntKind.i64.wrap (8+z))) (.sl 10 0 (fo x (IntKind.i64.wrap (8+z))).streams.length) (.sl 11 0 (fo x (IntKind.i64.wrap (8+z))).packets.length))else .box (J.aK x (.sl 5 0 x.streams.length) (.sl 6 0 x.packets.length)))]++(bif S.getD 4 false then [.ag 39 ((fo x (IntKind.i64.wrap (8+z))).streams.map ae.enc),.ag 2 ((fo x (IntKind.i64.wrap (8+z))).packets.map aI.enc)]else [])⟩
def Nc(bs:List Int)(bD bh bI cd:H)(x:J)(id:Int)(i:Nat)(h:Int)(z:Nat×Int)(S:List Bool):St:=⟨(.ptr 1 0 0::.ab::.ab::.ptr 7 0 0::.ptr 8 0 0::.d (.int .i64 id)::.ptr 9 0 0::aF 3 ((bif S.getD 10 false then .d (.int .i64 z.2)else .ab)::aF 14 (.agg (J.aK x (.sl 5 0 x.streams.length) (.sl 6 0 x.packets.length))::.ptr 1 0 0::.d (.int .i64 9)::.d (.bool false)::.d (.bool false)::aF 8 (.d (.bool false)::.d (.bool false)::.d (.bool false)::aF 8 (.d (.bool false)::.d (.bool false)::aF 8 (.d (.bool false)::.d (.bool false)::aF 9 (.d (.bool false)::.d (.bool false)::aF 19 (.d (.bool false)::.d (.bool false)::.d (.bool false)::aF 9 (.d (.bool false)::.d (.bool false)::aF 11 (.d (.bool true)::.d (.bool true)::.ptr 7 0 47::.sl 6 0 x.packets.length::.d (.int .i64 x.packets.length)::.d (.bool true)::(bif S.getD 0 false then .ptr 7 0 47 else .ab)::(bif S.getD 1 false then .sl 6 0 x.packets.length else .ab)::(bif S.getD 2 false then .ptr 1 0 0 else .ab)::(bif S.getD 3 false then .ptr 7 0 47 else .ab)::(bif S.getD 4 false then .sl 6 0 x.packets.length else .ab)::(bif S.getD 5 false then .d (.int .i64 x.packets.length)else .ab)::(bif S.getD 6 false then .d (.int .i64 z.1)else .ab)::(bif S.getD 7 false then .ptr 6 z.1 0 else .ab)::(bif S.getD 8 false then .ptr 6 z.1 0 else .ab)::(bif S.getD 9 false then .d (.int .i64 z.2)else .ab)::aF 15 [])))))))))),[bD,cM bs i h,bh,bI,cd,.ao 39 (x.streams.map ae.enc) true,.ao 2 (x.packets.map aI.enc) true,.box (J.aK x (.sl 5 0 x.streams.length) (.sl 6 0 x.packets.length)),.box J.bJ,.box (J.aK x (.sl 5 0 x.streams.length) (.sl 6 0 x.packets.length))]⟩
set_option maxHeartbeats 16000000 in
theorem VA(bs:List Int)(hm:bs.length≤maxLen)(i:Nat)(h:Int)(x:J)(m:Nat)(hv:bZ m x)(alg:m≤18)(bD bh bI cd:H)(hq:db 5 bD∧db 5 bh∧db 5 bI∧db 5 cd)(kv:List V)(bp:bf 5 kv)(K:V→List H→Prop)(hi:i≤bs.length)
  (hk:∀(cA:Nat) (h':Int) (y:J),cA≤bs.length→mE x y→K (gW y 5) ([bD,cM bs cA h',bh,bI,cd]++hj y)):di Tryz.prog 98 kv ([bD,cM bs i h,bh,bI,cd]++hj x) [.ptr 1 0 0,gW x 5] K:=by
 have hz:=hv.sz (by omega);have alh:=hv.je;have N4:=hv.uG;have mv:∀(cA:Nat) (h':Int),dd 5 [bD,cM bs cA h',bh,bI,cd]:=fun cA h'=>⟨hq.1,by simp[cM,db,bf,vok],hq.2.1,hq.2.2.1,hq.2.2.2,trivial⟩;have CH:∀ts:List V,bf 10 ts→bf 10 (ts++kv):=fun ts h=>yu h (ld (by omega) kv bp);have HU:db 10 bD∧db 10 bh∧db 10 bI∧db 10 cd:=⟨mw (by omega) _ hq.1,mw (by omega) _ hq.2.1,mw (by omega) _ hq.2.2.1,mw (by omega) _ hq.2.2.2⟩;refine di.Un ?_;refine di.Un ?_;refine di.see ?_;refine(Hx (n:=147) (rs:=[.cell 4 37]) Tryz.func98 rfl Tryz.call98 rfl rfl ?_);simp only[hj,gW,bx,b1];have UC:∀(cA:Nat) (h':Int) (ts ts':List V),vsees (List.range 9) ts' ts→bf 9 ts'→jQ kv (List.range 9) ⟨ts,Eu bD (cM bs cA h') bh bI cd x⟩ ⟨ts',Eu bD (cM bs cA h') bh bI cd x⟩:=by
  intro cA h' ts ts' ai aj;have adJ:dd 9 (Eu bD (cM bs cA h') bh bI cd x):=by
   have:=B9 (yJ (m:=5) (n:=9) (by omega) (mv cA h')) (ys:=[.ao 39 (x.streams.map ae.enc) true,.ao 2 (x.packets.map aI.enc) true,.box (J.aK x (.sl 5 0 x.streams.length) (.sl 6 0 x.packets.length)),.box J.bJ]) (by simp[dd,db,bf,vok]);exact this
  exact ES (hs:=Eu bD (cM bs cA h') bh bI cd x) adJ (ld (by simp[Eu]) kv bp) ai aj
 refine eu Tryz.checked.mixed 3 (α:=Nat×Int×Int) (fun y=>⟨(.ptr 1 0 0::.ab::.ab::.ptr 7 0 0::.ptr 8 0 0::.d (.int .i64 y.2.2)::aF 141 []),[bD,cM bs y.1 y.2.1,bh,bI,cd,.ao 39 (x.streams.map ae.enc) true,.ao 2 (x.packets.map aI.enc) true,.box (J.aK x (.sl 5 0 x.streams.length) (.sl 6 0 x.packets.length)),.box J.bJ]⟩) (fun y=>y.1≤bs.length) ?_ ?_
 ·simp only[go_sem]
  cases gA:decide (0<(x.streams.length:Int))with
  |false=>
   simp only[go_sem];refine dp.intro (i,h,0) (List.range 9) hi (UC i h _ _ ?_ ?_)
   ·simp[vsees,vsee,ren,List.range,List.range.loop]
   ·simp[bf,vok]
  |true=>
   simp only[go_sem];have w4:=cl gA;refine j6 _ (lf (fun S σ=>∃i h z,i≤bs.length∧(z.1<x.streams.length∧((x.streams[z.1]?).getD jc).id=z.2)∧σ=M5 bs bD bh bI cd x 0 i h z S) (N:=11) rfl rfl ⟨i,h,(0,((x.streams[0]?).getD jc).id),‹_›,by first|assumption|(simp;done)|exact⟨by omega,rfl⟩,rfl⟩ ?_) ?_
   ·repeat'(first|exact lg|refine lh ?_ ?_)
    all_goals(
     rintro S σ F hl aQ hp hcl ⟨fJ,eU,z,dn,hc,rfl⟩ bV;obtain⟨iW,c9,dc,cB,de,j7,kN,kO,lj,tt,yv,rfl⟩:=Jc hl;simp only[List.getElem?_cons_succ,List.getElem?_cons_zero,Option.some.injEq]at aQ;subst aQ;simp[ju,Region.binds]at hp
     repeat(obtain⟨d1,hp⟩:=hp;subst d1)
     try subst hp
     have aB:=b4 ae.enc x.streams z.1 hc.1;have kX:=hc.2;have hc1:=hc.1;rw[dk hc.1,Option.getD_some]at kX;simp only[M5,List.getD_cons_succ,List.getD_cons_zero,cond_true,cond_false]
     repeat'(first
       |exact bV _ ⟨fJ,eU,z,dn,hc,rfl⟩
       |(refine ct ?_)
       |(refine dC ?_)
       |(obtain rfl:=Option.some.inj (hcl 6 7 _ rfl (by decide) rfl);obtain rfl:=Option.some.inj (hcl 7 8 _ rfl (by decide) rfl);obtain rfl:=Option.some.inj (hcl 8 9 _ rfl (by decide) rfl);obtain rfl:=Option.some.inj (hcl 9 10 _ rfl (by decide) rfl);simp only[cond_false];refine af.inl (js bs hm fJ eU [bD] [bh,bI,cd,.ao 39 (x.streams.map ae.enc) true,.ao 2 (x.packets.map aI.enc) true,.box (J.aK x (.sl 5 0 x.streams.length) (.sl 6 0 x.packets.length)),.box J.bJ] _ (x.streams.length:Int) (by omega) (by omega) _ dn fun eG ak gy cm dR jz=>?_);obtain⟨dw,rfl⟩:=Int.eq_ofNat_of_zero_le dR;simp only[go_sem,gP];exact bV _ ⟨_,_,(dw,((x.streams[dw]?).getD jc).id),‹_›,⟨(by omega),rfl⟩,rfl⟩)
       |(refine⟨⟨by omega,by omega⟩,?_⟩)
       |(refine⟨hc1,?_⟩)
       |simp only[go_sem,I,aB,kX,ae.enc,aJ]))
   rintro _ ⟨jR,aC,z,ng,hc,rfl⟩;simp only[M5,List.replicate,List.getD_cons_succ,List.getD_cons_zero,cond_true];simp only[go_sem];refine dp.intro (jR,aC,z.2) (List.range 9) ng (UC jR aC _ _ ?_ ?_)
   ·simp[vsees,vsee,ren,List.range,List.range.loop]
   ·simp[bf,vok]
 rintro⟨ew,h1,id⟩ HL;simp only at HL;refine jr Tryz.checked.mixed ?_;simp only[go_sem];refine af.inl (js bs hm ew h1 [bD] [bh,bI,cd,.ao 39 (x.streams.map ae.enc) true,.ao 2 (x.packets.map aI.enc) true,.box (J.aK x (.sl 5 0 x.streams.length) (.sl 6 0 x.packets.length)),.box J.bJ,.box (J.aK x (.sl 5 0 x.streams.length) (.sl 6 0 x.packets.length))] _ 10 (by omega) (by omega) _ HL fun dN h2 k cv dO dD=>?_);have Nd:dd 10 [bD]∧dd 10 [bh,bI,cd,.ao 39 (x.streams.map ae.enc) true,.ao 2 (x.packets.map aI.enc) true,.box (J.aK x (.sl 5 0 x.streams.length) (.sl 6 0 x.packets.length)),.box J.bJ,.box (J.aK x (.sl 5 0 x.streams.length) (.sl 6 0 x.packets.length))]:=⟨⟨HU.1,trivial⟩,HU.2.1,HU.2.2.1,HU.2.2.2,by simp[dd,db,bf,vok]⟩;obtain rfl|rfl|rfl|rfl|rfl|rfl|rfl|rfl|rfl|rfl:k=0∨k=1∨k=2∨k=3∨k=4∨k=5∨k=6∨k=7∨k=8∨k=9:=by omega
 ·skip
  have d0:decide ((0:Int)=0)=true:=rfl;simp only[go_sem];have cn:∀b,_:=fun b=>Vs x b hz;refine j6 _ (lf (fun S σ=>∃i h z,i≤bs.length∧(True)∧σ=M6 bs bD bh bI cd x id i h z S) (N:=9) rfl rfl ⟨dN,h2,false,‹_›,by first|assumption|(simp;done)|exact⟨by omega,rfl⟩,rfl⟩ ?_) ?_
  ·repeat'(first|exact lg|refine lh ?_ ?_)
   all_goals(
    rintro S σ F hl aQ hp hcl ⟨fJ,eU,z,dn,hc,rfl⟩ bV;obtain⟨iW,c9,dc,cB,de,j7,kN,kO,lj,rfl⟩:=HR hl;simp only[List.getElem?_cons_succ,List.getElem?_cons_zero,Option.some.injEq]at aQ;subst aQ;simp[ju,Region.binds]at hp
    repeat(obtain⟨d1,hp⟩:=hp;subst d1)
    try subst hp
    simp only[M6,List.getD_cons_succ,List.getD_cons_zero,cond_true,cond_false,bx,b1,List.append_nil]
    repeat'(first
      |exact bV _ ⟨fJ,eU,z,dn,hc,rfl⟩
      |(refine ct ?_)
      |(refine dC ?_)
      |(obtain rfl:=Option.some.inj (hcl 2 3 _ rfl (by decide) rfl);obtain rfl:=Option.some.inj (hcl 3 4 _ rfl (by decide) rfl);obtain rfl:=Option.some.inj (hcl 4 5 _ rfl (by decide) rfl);obtain rfl:=Option.some.inj (hcl 4 6 _ rfl (by decide) rfl);obtain rfl:=Option.some.inj (hcl 4 7 _ rfl (by decide) rfl);obtain rfl:=Option.some.inj (hcl 6 8 _ rfl (by decide) rfl);simp only[cond_false];refine af.inl (vI bs hm fJ eU [bD] [bh,bI,cd,.ao 39 (x.streams.map ae.enc) true,.ao 2 (x.packets.map aI.enc) true,.box (J.aK x (.sl 5 0 x.streams.length) (.sl 6 0 x.packets.length)),.box J.bJ,.box (J.aK x (.sl 5 0 x.streams.length) (.sl 6 0 x.packets.length))] _ 2 (by omega) (by omega) _ dn fun eG ak dR cm=>?_);simp only[go_sem,gP];exact bV _ ⟨_,_,dR,‹_›,by first|assumption|simp|(constructor<;>assumption),rfl⟩)
      |(refine af.ag (cn _) ?_)
      |simp only[go_sem,I,bx,b1]))
  rintro _ ⟨jR,aC,z,ng,hc,rfl⟩;simp only[M6,List.replicate,List.getD_cons_succ,List.getD_cons_zero,cond_true,bx,b1];simp only[go_sem,bx,b1];exact tq bp _ 10 (by omega) (mv _ _) rfl rfl (hk _ _ _ (by assumption) (.E9 _))
 ·skip
  have d0:decide ((1:Int)=0)=false:=rfl;have eH:decide ((1:Int)=1)=true:=rfl;simp only[go_sem,d0];have cn:∀d:List UInt8,d.length≤8→_:=fun d hd=>NT x id d hz (by omega) (((hv.aw id).mono (show m≤m+1 by omega)).zo (by have:=LD (hv.aw id).snd hd;rw[show(8 * (m+1:Nat):Int)=8 * m+8 from by omega];exact this) |>.sz (by omega));refine j6 _ (lf (fun S σ=>∃i h z,i≤bs.length∧(z.length≤8)∧σ=M7 bs bD bh bI cd x id i h z S) (N:=9) rfl rfl ⟨dN,h2,[],‹_›,by first|assumption|(simp;done)|exact⟨by omega,rfl⟩,rfl⟩ ?_) ?_
  ·repeat'(first|exact lg|refine lh ?_ ?_)
   all_goals(
    rintro S σ F hl aQ hp hcl ⟨fJ,eU,z,dn,hc,rfl⟩ bV;obtain⟨iW,c9,dc,cB,de,j7,kN,kO,lj,rfl⟩:=HR hl;simp only[List.getElem?_cons_succ,List.getElem?_cons_zero,Option.some.injEq]at aQ;subst aQ;simp[ju,Region.binds]at hp
    repeat(obtain⟨d1,hp⟩:=hp;subst d1)
    try subst hp
    simp only[M7,List.getD_cons_succ,List.getD_cons_zero,cond_true,cond_false,bx,b1,List.append_nil]
    repeat'(first
      |exact bV _ ⟨fJ,eU,z,dn,hc,rfl⟩
      |(refine ct ?_)
      |(refine dC ?_)
      |(obtain rfl:=Option.some.inj (hcl 3 4 _ rfl (by decide) rfl);obtain rfl:=Option.some.inj (hcl 4 5 _ rfl (by decide) rfl);obtain rfl:=Option.some.inj (hcl 5 6 _ rfl (by decide) rfl);obtain rfl:=Option.some.inj (hcl 5 7 _ rfl (by decide) rfl);obtain rfl:=Option.some.inj (hcl 7 8 _ rfl (by decide) rfl);simp only[cond_false];refine af.inl (I9 bs hm fJ eU [bD] [bh,bI,cd,.ao 39 (x.streams.map ae.enc) true,.ao 2 (x.packets.map aI.enc) true,.box (J.aK x (.sl 5 0 x.streams.length) (.sl 6 0 x.packets.length)),.box J.bJ,.box (J.aK x (.sl 5 0 x.streams.length) (.sl 6 0 x.packets.length))] _ 8 Nd (CH _ (by simp[bf,vok,EF])) (by omega) _ dn fun eG ak cB cm eI=>?_);simp only[go_sem,gP];exact bV _ ⟨_,_,cB,‹_›,by first|assumption|simp|(constructor<;>assumption),rfl⟩)
      |(refine af.ag (cn _ hc) ?_)
      |simp only[go_sem,I,bx,b1]))
  rintro _ ⟨jR,aC,z,ng,hc,rfl⟩;simp only[M7,List.replicate,List.getD_cons_succ,List.getD_cons_zero,cond_true,bx,b1];simp only[go_sem,bx,b1];exact tq bp _ 10 (by omega) (mv _ _) rfl rfl (hk _ _ _ (by assumption) (.write _ _ hc))
 ·skip
  have d0:decide ((2:Int)=0)=false:=rfl;have eH:decide ((2:Int)=1)=false:=rfl;have gg:decide ((2:Int)=2)=true:=rfl;simp only[go_sem,d0,eH];have cn:∀d:List UInt8,d.length≤8→_:=fun d hd=>NT x id d hz (by omega) (((hv.aw id).mono (show m≤m+1 by omega)).zo (by have:=LD (hv.aw id).snd hd;rw[show(8 * (m+1:Nat):Int)=8 * m+8 from by omega];exact this) |>.sz (by omega));refine j6 _ (lf (fun S σ=>∃i h z,i≤bs.length∧(z.length≤8)∧σ=M8 bs bD bh bI cd x id i h z S) (N:=9) rfl rfl ⟨dN,h2,[],‹_›,by first|assumption|(simp;done)|exact⟨by omega,rfl⟩,rfl⟩ ?_) ?_
  ·repeat'(first|exact lg|refine lh ?_ ?_)
   all_goals(
    rintro S σ F hl aQ hp hcl ⟨fJ,eU,z,dn,hc,rfl⟩ bV;obtain⟨iW,c9,dc,cB,de,j7,kN,kO,lj,rfl⟩:=HR hl;simp only[List.getElem?_cons_succ,List.getElem?_cons_zero,Option.some.injEq]at aQ;subst aQ;simp[ju,Region.binds]at hp
    repeat(obtain⟨d1,hp⟩:=hp;subst d1)
    try subst hp
    simp only[M8,List.getD_cons_succ,List.getD_cons_zero,cond_true,cond_false,bx,b1,List.append_nil]
    repeat'(first
      |exact bV _ ⟨fJ,eU,z,dn,hc,rfl⟩
      |(refine ct ?_)
      |(refine dC ?_)
      |(obtain rfl:=Option.some.inj (hcl 3 4 _ rfl (by decide) rfl);obtain rfl:=Option.some.inj (hcl 4 5 _ rfl (by decide) rfl);obtain rfl:=Option.some.inj (hcl 5 6 _ rfl (by decide) rfl);obtain rfl:=Option.some.inj (hcl 5 7 _ rfl (by decide) rfl);obtain rfl:=Option.some.inj (hcl 7 8 _ rfl (by decide) rfl);simp only[cond_false];refine af.inl (I9 bs hm fJ eU [bD] [bh,bI,cd,.ao 39 (x.streams.map ae.enc) true,.ao 2 (x.packets.map aI.enc) true,.box (J.aK x (.sl 5 0 x.streams.length) (.sl 6 0 x.packets.length)),.box J.bJ,.box (J.aK x (.sl 5 0 x.streams.length) (.sl 6 0 x.packets.length))] _ 8 Nd (CH _ (by simp[bf,vok,EF])) (by omega) _ dn fun eG ak cB cm eI=>?_);simp only[go_sem,gP];exact bV _ ⟨_,_,cB,‹_›,by first|assumption|simp|(constructor<;>assumption),rfl⟩)
      |(refine af.ag (cn _ hc) ?_)
      |simp only[go_sem,I,bx,b1]))
  rintro _ ⟨jR,aC,z,ng,hc,rfl⟩;simp only[M8,List.replicate,List.getD_cons_succ,List.getD_cons_zero,cond_true,bx,b1];simp only[go_sem,bx,b1];exact tq bp _ 10 (by omega) (mv _ _) rfl rfl (hk _ _ _ (by assumption) (.write _ _ hc))
 ·skip
  have d0:decide ((3:Int)=0)=false:=rfl;have eH:decide ((3:Int)=1)=false:=rfl;have gg:decide ((3:Int)=2)=false:=rfl;have iI:decide ((3:Int)=3)=true:=rfl;simp only[go_sem,d0,eH,gg];refine af.inl (vI bs hm dN h2 [bD] [bh,bI,cd,.ao 39 (x.streams.map ae.enc) true,.ao 2 (x.packets.map aI.enc) true,.box (J.aK x (.sl 5 0 x.streams.length) (.sl 6 0 x.packets.length)),.box J.bJ,.box (J.aK x (.sl 5 0 x.streams.length) (.sl 6 0 x.packets.length))] _ 2 (by omega) (by omega) _ cv fun eG ak dR cm=>?_)
  cases dR with
  |true=>
   have cn:=Vn x id hz (((hv.aw id).zo (R6 (hv.aw id).snd)).sz (by omega));simp only[go_sem,I];refine af.ag cn ?_;simp only[go_sem,I,bx,b1];exact tq bp _ 10 (by omega) (mv _ _) rfl rfl (hk _ _ _ (by assumption) (.ba _))
  |false=>
   simp only[go_sem,bx,b1];exact M4 bp _ (mv _ _) (hk _ _ _ (by assumption) .same)
 ·skip
  have d0:decide ((4:Int)=0)=false:=rfl;have eH:decide ((4:Int)=1)=false:=rfl;have gg:decide ((4:Int)=2)=false:=rfl;have iI:decide ((4:Int)=3)=false:=rfl;have n6:decide ((4:Int)=4)=true:=rfl;simp only[go_sem,d0,eH,gg,iI];have cn:∀k,_:=fun k=>RM x id k m hv (by omega);refine j6 _ (lf (fun S σ=>∃i h z,i≤bs.length∧(True)∧σ=M9 bs bD bh bI cd x id i h z S) (N:=10) rfl rfl ⟨dN,h2,0,‹_›,by first|assumption|(simp;done)|exact⟨by omega,rfl⟩,rfl⟩ ?_) ?_
  ·repeat'(first|exact lg|refine lh ?_ ?_)
   all_goals(
    rintro S σ F hl aQ hp hcl ⟨fJ,eU,z,dn,hc,rfl⟩ bV;obtain⟨iW,c9,dc,cB,de,j7,kN,kO,lj,tt,rfl⟩:=HS hl;simp only[List.getElem?_cons_succ,List.getElem?_cons_zero,Option.some.injEq]at aQ;subst aQ;simp[ju,Region.binds]at hp
    repeat(obtain⟨d1,hp⟩:=hp;subst d1)
    try subst hp
    simp only[M9,List.getD_cons_succ,List.getD_cons_zero,cond_true,cond_false,bx,b1,List.append_nil]
    repeat'(first
      |exact bV _ ⟨fJ,eU,z,dn,hc,rfl⟩
      |(refine ct ?_)
      |(refine dC ?_)
      |(obtain rfl:=Option.some.inj (hcl 3 4 _ rfl (by decide) rfl);obtain rfl:=Option.some.inj (hcl 4 5 _ rfl (by decide) rfl);obtain rfl:=Option.some.inj (hcl 5 6 _ rfl (by decide) rfl);obtain rfl:=Option.some.inj (hcl 5 7 _ rfl (by decide) rfl);obtain rfl:=Option.some.inj (hcl 5 8 _ rfl (by decide) rfl);obtain rfl:=Option.some.inj (hcl 8 9 _ rfl (by decide) rfl);simp only[cond_false];refine af.inl (js bs hm fJ eU [bD] [bh,bI,cd,.ao 39 (x.streams.map ae.enc) true,.ao 2 (x.packets.map aI.enc) true,.box (J.aK x (.sl 5 0 x.streams.length) (.sl 6 0 x.packets.length)),.box J.bJ,.box (J.aK x (.sl 5 0 x.streams.length) (.sl 6 0 x.packets.length))] _ 6 (by omega) (by omega) _ dn fun eG ak gy cm dR jz=>?_);simp only[go_sem,gP];exact bV _ ⟨_,_,gy,‹_›,by first|assumption|simp|(constructor<;>assumption),rfl⟩)
      |(refine af.ag (cn _) ?_)
      |simp only[go_sem,I,bx,b1]))
  rintro _ ⟨jR,aC,z,ng,hc,rfl⟩;simp only[M9,List.replicate,List.getD_cons_succ,List.getD_cons_zero,cond_true,bx,b1];simp only[go_sem,bx,b1];exact tq bp _ 10 (by omega) (mv _ _) rfl rfl (hk _ _ _ (by assumption) (.read _ _))
 ·skip
  have d0:decide ((5:Int)=0)=false:=rfl;have eH:decide ((5:Int)=1)=false:=rfl;have gg:decide ((5:Int)=2)=false:=rfl;have iI:decide ((5:Int)=3)=false:=rfl;have n6:decide ((5:Int)=4)=false:=rfl;have yl:decide ((5:Int)=5)=true:=rfl;simp only[go_sem,d0,eH,gg,iI,n6];refine af.inl (vI bs hm dN h2 [bD] [bh,bI,cd,.ao 39 (x.streams.map ae.enc) true,.ao 2 (x.packets.map aI.enc) true,.box (J.aK x (.sl 5 0 x.streams.length) (.sl 6 0 x.packets.length)),.box J.bJ,.box (J.aK x (.sl 5 0 x.streams.length) (.sl 6 0 x.packets.length))] _ 3 (by omega) (by omega) _ cv fun eG ak dR cm=>?_)
  cases dR with
  |true=>
   have cn:∀k,_:=fun k=>Vt x id k hz (((hv.aw id).LM k).sz (by omega));simp only[go_sem];refine j6 _ (lf (fun S σ=>∃i h z,i≤bs.length∧(True)∧σ=M_ bs bD bh bI cd x id i h z S) (N:=9) rfl rfl ⟨eG,ak,0,‹_›,by first|assumption|(simp;done)|exact⟨by omega,rfl⟩,rfl⟩ ?_) ?_
   ·repeat'(first|exact lg|refine lh ?_ ?_)
    all_goals(
     rintro S σ F hl aQ hp hcl ⟨fJ,eU,z,dn,hc,rfl⟩ bV;obtain⟨iW,c9,dc,cB,de,j7,kN,kO,lj,rfl⟩:=HR hl;simp only[List.getElem?_cons_succ,List.getElem?_cons_zero,Option.some.injEq]at aQ;subst aQ;simp[ju,Region.binds]at hp
     repeat(obtain⟨d1,hp⟩:=hp;subst d1)
     try subst hp
     simp only[M_,List.getD_cons_succ,List.getD_cons_zero,cond_true,cond_false,bx,b1,List.append_nil]
     repeat'(first
       |exact bV _ ⟨fJ,eU,z,dn,hc,rfl⟩
       |(refine ct ?_)
       |(refine dC ?_)
       |(obtain rfl:=Option.some.inj (hcl 3 4 _ rfl (by decide) rfl);obtain rfl:=Option.some.inj (hcl 4 5 _ rfl (by decide) rfl);obtain rfl:=Option.some.inj (hcl 5 6 _ rfl (by decide) rfl);obtain rfl:=Option.some.inj (hcl 5 7 _ rfl (by decide) rfl);obtain rfl:=Option.some.inj (hcl 6 8 _ rfl (by decide) rfl);simp only[cond_false];refine af.inl (js bs hm fJ eU [bD] [bh,bI,cd,.ao 39 (x.streams.map ae.enc) true,.ao 2 (x.packets.map aI.enc) true,.box (J.aK x (.sl 5 0 x.streams.length) (.sl 6 0 x.packets.length)),.box J.bJ,.box (J.aK x (.sl 5 0 x.streams.length) (.sl 6 0 x.packets.length))] _ 3 (by omega) (by omega) _ dn fun eG ak gy cm dR jz=>?_);simp only[go_sem,gP];exact bV _ ⟨_,_,gy,‹_›,by first|assumption|simp|(constructor<;>assumption),rfl⟩)
       |(refine af.ag (cn _) ?_)
       |simp only[go_sem,I,bx,b1]))
   rintro _ ⟨jR,aC,z,ng,hc,rfl⟩;simp only[M_,List.replicate,List.getD_cons_succ,List.getD_cons_zero,cond_true,bx,b1];simp only[go_sem,bx,b1];exact tq bp _ 10 (by omega) (mv _ _) rfl rfl (hk _ _ _ (by assumption) (.reset _ _))
  |false=>
   have cn:∀t:List UInt8,t∈[[117,61,49],[105],[117,61,53,44,32,105]]→_:=fun t ht=>Vp x id t hz (by simp only[List.mem_cons,List.not_mem_nil,or_false]at ht;rcases ht with rfl|rfl|rfl<;>decide);simp only[go_sem];refine j6 _ (lf (fun S σ=>∃i h z,i≤bs.length∧(z∈[[117,61,49],[105],[117,61,53,44,32,105]])∧σ=M' bs bD bh bI cd x id i h z S) (N:=10) rfl rfl ⟨eG,ak,[105],‹_›,by first|assumption|(simp;done)|exact⟨by omega,rfl⟩,rfl⟩ ?_) ?_
   ·repeat'(first|exact lg|refine lh ?_ ?_)
    all_goals(
     rintro S σ F hl aQ hp hcl ⟨fJ,eU,z,dn,hc,rfl⟩ bV;obtain⟨iW,c9,dc,cB,de,j7,kN,kO,lj,tt,rfl⟩:=HS hl;simp only[List.getElem?_cons_succ,List.getElem?_cons_zero,Option.some.injEq]at aQ;subst aQ;simp[ju,Region.binds]at hp
     repeat(obtain⟨d1,hp⟩:=hp;subst d1)
     try subst hp
     simp only[M',List.getD_cons_succ,List.getD_cons_zero,cond_true,cond_false,bx,b1,List.append_nil]
     repeat'(first
       |exact bV _ ⟨fJ,eU,z,dn,hc,rfl⟩
       |(refine ct ?_)
       |(refine dC ?_)
       |(obtain rfl:=Option.some.inj (hcl 4 5 _ rfl (by decide) rfl);obtain rfl:=Option.some.inj (hcl 5 6 _ rfl (by decide) rfl);obtain rfl:=Option.some.inj (hcl 6 7 _ rfl (by decide) rfl);obtain rfl:=Option.some.inj (hcl 6 8 _ rfl (by decide) rfl);obtain rfl:=Option.some.inj (hcl 7 9 _ rfl (by decide) rfl);simp only[cond_false];refine af.inl (Oo bs hm fJ eU [bD] [bh,bI,cd,.ao 39 (x.streams.map ae.enc) true,.ao 2 (x.packets.map aI.enc) true,.box (J.aK x (.sl 5 0 x.streams.length) (.sl 6 0 x.packets.length)),.box J.bJ,.box (J.aK x (.sl 5 0 x.streams.length) (.sl 6 0 x.packets.length)),.ao 1 ([[117,61,49],[105],[117,61,53,44,32,105]].map kW) true] _ 8 [[117,61,49],[105],[117,61,53,44,32,105]] rfl (by decide) (by decide) _ dn fun eG ak gy cm dR=>?_);simp only[go_sem,gP];exact bV _ ⟨_,_,gy,‹_›,by first|assumption|simp|(constructor<;>assumption),rfl⟩)
       |(refine af.ag (cn _ hc) ?_)
       |(obtain rfl:=Option.some.inj (hcl 3 4 _ rfl (by decide) rfl);obtain rfl:=Option.some.inj (hcl 4 5 _ rfl (by decide) rfl);obtain rfl:=Option.some.inj (hcl 5 6 _ rfl (by decide) rfl);obtain rfl:=Option.some.inj (hcl 6 7 _ rfl (by decide) rfl);obtain rfl:=Option.some.inj (hcl 6 8 _ rfl (by decide) rfl);obtain rfl:=Option.some.inj (hcl 7 9 _ rfl (by decide) rfl);simp only[cond_false];skip)
       |(cases cB;exact Bool.noConfusion (show true=false from Option.some.inj (hcl 3 4 _ rfl (by decide) rfl));simp only[cond_true])
       |simp only[go_sem,I,bx,b1]))
   rintro _ ⟨jR,aC,z,ng,hc,rfl⟩;simp only[M',List.replicate,List.getD_cons_succ,List.getD_cons_zero,cond_true,bx,b1];simp only[go_sem,bx,b1];exact tq bp _ 11 (by omega) (mv _ _) rfl rfl (hk _ _ _ (by assumption) (.Je _ _))
 ·skip
  have d0:decide ((6:Int)=0)=false:=rfl;have eH:decide ((6:Int)=1)=false:=rfl;have gg:decide ((6:Int)=2)=false:=rfl;have iI:decide ((6:Int)=3)=false:=rfl;have n6:decide ((6:Int)=4)=false:=rfl;have yl:decide ((6:Int)=5)=false:=rfl;have BH:decide ((6:Int)=6)=true:=rfl;simp only[go_sem,d0,eH,gg,iI,n6,yl];have cn:∀b,_:=fun b=>OT x b m hv (by omega);refine j6 _ (lf (fun S σ=>∃i h z,i≤bs.length∧(True)∧σ=Na bs bD bh bI cd x id i h z S) (N:=10) rfl rfl ⟨dN,h2,0,‹_›,by first|assumption|(simp;done)|exact⟨by omega,rfl⟩,rfl⟩ ?_) ?_
  ·repeat'(first|exact lg|refine lh ?_ ?_)
   all_goals(
    rintro S σ F hl aQ hp hcl ⟨fJ,eU,z,dn,hc,rfl⟩ bV;obtain⟨iW,c9,dc,cB,de,j7,kN,kO,lj,tt,rfl⟩:=HS hl;simp only[List.getElem?_cons_succ,List.getElem?_cons_zero,Option.some.injEq]at aQ;subst aQ;simp[ju,Region.binds]at hp
    repeat(obtain⟨d1,hp⟩:=hp;subst d1)
    try subst hp
    simp only[Na,List.getD_cons_succ,List.getD_cons_zero,cond_true,cond_false,bx,b1,List.append_nil]
    repeat'(first
      |exact bV _ ⟨fJ,eU,z,dn,hc,rfl⟩
      |(refine ct ?_)
      |(refine dC ?_)
      |(obtain rfl:=Option.some.inj (hcl 2 3 _ rfl (by decide) rfl);obtain rfl:=Option.some.inj (hcl 3 4 _ rfl (by decide) rfl);obtain rfl:=Option.some.inj (hcl 4 5 _ rfl (by decide) rfl);obtain rfl:=Option.some.inj (hcl 5 6 _ rfl (by decide) rfl);obtain rfl:=Option.some.inj (hcl 5 7 _ rfl (by decide) rfl);obtain rfl:=Option.some.inj (hcl 5 8 _ rfl (by decide) rfl);obtain rfl:=Option.some.inj (hcl 8 9 _ rfl (by decide) rfl);simp only[cond_false];refine af.inl (js bs hm fJ eU [bD] [bh,bI,cd,.ao 39 (x.streams.map ae.enc) true,.ao 2 (x.packets.map aI.enc) true,.box (J.aK x (.sl 5 0 x.streams.length) (.sl 6 0 x.packets.length)),.box J.bJ,.box (J.aK x (.sl 5 0 x.streams.length) (.sl 6 0 x.packets.length))] _ 20 (by omega) (by omega) _ dn fun eG ak gy cm dR jz=>?_);simp only[go_sem,gP];exact bV _ ⟨_,_,gy,‹_›,by first|assumption|simp|(constructor<;>assumption),rfl⟩)
      |(refine af.ag (cn _) ?_)
      |simp only[go_sem,I,bx,b1]))
  rintro _ ⟨jR,aC,z,ng,hc,rfl⟩;simp only[Na,List.replicate,List.getD_cons_succ,List.getD_cons_zero,cond_true,bx,b1];simp only[go_sem,bx,b1];exact tq bp _ 10 (by omega) (mv _ _) rfl rfl (hk _ _ _ (by assumption) (.Aj _))
 ·skip
  have d0:decide ((7:Int)=0)=false:=rfl;have eH:decide ((7:Int)=1)=false:=rfl;have gg:decide ((7:Int)=2)=false:=rfl;have iI:decide ((7:Int)=3)=false:=rfl;have n6:decide ((7:Int)=4)=false:=rfl;have yl:decide ((7:Int)=5)=false:=rfl;have BH:decide ((7:Int)=6)=false:=rfl;have HV:decide ((7:Int)=7)=true:=rfl;simp only[go_sem,d0,eH,gg,iI,n6,yl,BH];have cn:∀b,_:=fun b=>OT x b m hv (by omega);refine j6 _ (lf (fun S σ=>∃i h z,i≤bs.length∧(True)∧σ=Nb bs bD bh bI cd x id i h z S) (N:=10) rfl rfl ⟨dN,h2,0,‹_›,by first|assumption|(simp;done)|exact⟨by omega,rfl⟩,rfl⟩ ?_) ?_
  ·repeat'(first|exact lg|refine lh ?_ ?_)
   all_goals(
    rintro S σ F hl aQ hp hcl ⟨fJ,eU,z,dn,hc,rfl⟩ bV;obtain⟨iW,c9,dc,cB,de,j7,kN,kO,lj,tt,rfl⟩:=HS hl;simp only[List.getElem?_cons_succ,List.getElem?_cons_zero,Option.some.injEq]at aQ;subst aQ;simp[ju,Region.binds]at hp
    repeat(obtain⟨d1,hp⟩:=hp;subst d1)
    try subst hp
    simp only[Nb,List.getD_cons_succ,List.getD_cons_zero,cond_true,cond_false,bx,b1,List.append_nil]
    repeat'(first
      |exact bV _ ⟨fJ,eU,z,dn,hc,rfl⟩
      |(refine ct ?_)
      |(refine dC ?_)
      |(obtain rfl:=Option.some.inj (hcl 2 3 _ rfl (by decide) rfl);obtain rfl:=Option.some.inj (hcl 3 4 _ rfl (by decide) rfl);obtain rfl:=Option.some.inj (hcl 4 5 _ rfl (by decide) rfl);obtain rfl:=Option.some.inj (hcl 5 6 _ rfl (by decide) rfl);obtain rfl:=Option.some.inj (hcl 5 7 _ rfl (by decide) rfl);obtain rfl:=Option.some.inj (hcl 5 8 _ rfl (by decide) rfl);obtain rfl:=Option.some.inj (hcl 8 9 _ rfl (by decide) rfl);simp only[cond_false];refine af.inl (js bs hm fJ eU [bD] [bh,bI,cd,.ao 39 (x.streams.map ae.enc) true,.ao 2 (x.packets.map aI.enc) true,.box (J.aK x (.sl 5 0 x.streams.length) (.sl 6 0 x.packets.length)),.box J.bJ,.box (J.aK x (.sl 5 0 x.streams.length) (.sl 6 0 x.packets.length))] _ 20 (by omega) (by omega) _ dn fun eG ak gy cm dR jz=>?_);simp only[go_sem,gP];exact bV _ ⟨_,_,gy,‹_›,by first|assumption|simp|(constructor<;>assumption),rfl⟩)
      |(refine af.ag (cn _) ?_)
      |simp only[go_sem,I,bx,b1]))
  rintro _ ⟨jR,aC,z,ng,hc,rfl⟩;simp only[Nb,List.replicate,List.getD_cons_succ,List.getD_cons_zero,cond_true,bx,b1];simp only[go_sem,bx,b1];exact tq bp _ 10 (by omega) (mv _ _) rfl rfl (hk _ _ _ (by assumption) (.Aj _))
 ·skip
  have d0:decide ((8:Int)=0)=false:=rfl;have eH:decide ((8:Int)=1)=false:=rfl;have gg:decide ((8:Int)=2)=false:=rfl;have iI:decide ((8:Int)=3)=false:=rfl;have n6:decide ((8:Int)=4)=false:=rfl;have yl:decide ((8:Int)=5)=false:=rfl;have BH:decide ((8:Int)=6)=false:=rfl;have HV:decide ((8:Int)=7)=false:=rfl;have UD:decide ((8:Int)=8)=true:=rfl;simp only[go_sem,d0,eH,gg,iI,n6,yl,BH,HV];refine af.inl (VT bs hm dN h2 [bD] [bh,bI,cd,.ao 39 (x.streams.map ae.enc) true,.ao 2 (x.packets.map aI.enc) true,.box (J.aK x (.sl 5 0 x.streams.length) (.sl 6 0 x.packets.length)),.box J.bJ,.box (J.aK x (.sl 5 0 x.streams.length) (.sl 6 0 x.packets.length))] _ 10 rfl Nd (CH _ (by simp[bf,vok])) _ cv fun eG ak f cm d4 fD f3=>?_);simp only[go_sem,I];have cn:=aad x f m hv (by omega) (by omega) ⟨fD,by omega⟩;refine af.ag cn ?_;simp only[go_sem,I,bx,b1]
  cases he:decide (Bg x f=0)with
  |true=>
   simp only[go_sem,bx,b1];exact tq bp _ 11 (by omega) (mv _ _) rfl rfl (hk _ _ _ (by assumption) (.hf f (by omega) ⟨fD,by omega⟩))
  |false=>
   simp only[go_sem,bx,b1];exact M4 bp _ (mv _ _) (hk _ _ _ (by assumption) .same)
 ·skip
  have d0:decide ((9:Int)=0)=false:=rfl;have eH:decide ((9:Int)=1)=false:=rfl;have gg:decide ((9:Int)=2)=false:=rfl;have iI:decide ((9:Int)=3)=false:=rfl;have n6:decide ((9:Int)=4)=false:=rfl;have yl:decide ((9:Int)=5)=false:=rfl;have BH:decide ((9:Int)=6)=false:=rfl;have HV:decide ((9:Int)=7)=false:=rfl;have UD:decide ((9:Int)=8)=false:=rfl;have ali:decide ((9:Int)=9)=true:=rfl;simp only[go_sem,d0,eH,gg,iI,n6,yl,BH,HV,UD]
  cases d1:decide (0<(x.packets.length:Int))with
  |false=>
   simp only[go_sem,bx,b1];exact M4 bp _ (mv _ _) (hk _ _ _ (by assumption) .same)
  |true=>
   have alj:=cl d1;simp only[go_sem];refine j6 _ (lf (fun S σ=>∃i h z,i≤bs.length∧(z.1<x.packets.length∧((x.packets[z.1]?).getD (⟨0,[]⟩:aI)).number=z.2)∧σ=Nc bs bD bh bI cd x id i h z S) (N:=11) rfl rfl ⟨dN,h2,(0,((x.packets[0]?).getD (⟨0,[]⟩:aI)).number),‹_›,by first|assumption|(simp;done)|exact⟨by omega,rfl⟩,rfl⟩ ?_) ?_
   ·repeat'(first|exact lg|refine lh ?_ ?_)
    all_goals(
     rintro S σ F hl aQ hp hcl ⟨fJ,eU,z,dn,hc,rfl⟩ bV;obtain⟨iW,c9,dc,cB,de,j7,kN,kO,lj,tt,yv,rfl⟩:=Jc hl;simp only[List.getElem?_cons_succ,List.getElem?_cons_zero,Option.some.injEq]at aQ;subst aQ;simp[ju,Region.binds]at hp
     repeat(obtain⟨d1,hp⟩:=hp;subst d1)
     try subst hp
     have aB:=b4 aI.enc x.packets z.1 hc.1;have kX:=hc.2;have hc1:=hc.1;rw[dk hc.1,Option.getD_some]at kX;simp only[Nc,List.getD_cons_succ,List.getD_cons_zero,cond_true,cond_false]
     repeat'(first
       |exact bV _ ⟨fJ,eU,z,dn,hc,rfl⟩
       |(refine ct ?_)
       |(refine dC ?_)
       |(obtain rfl:=Option.some.inj (hcl 6 7 _ rfl (by decide) rfl);obtain rfl:=Option.some.inj (hcl 7 8 _ rfl (by decide) rfl);obtain rfl:=Option.some.inj (hcl 8 9 _ rfl (by decide) rfl);obtain rfl:=Option.some.inj (hcl 9 10 _ rfl (by decide) rfl);simp only[cond_false];refine af.inl (js bs hm fJ eU [bD] [bh,bI,cd,.ao 39 (x.streams.map ae.enc) true,.ao 2 (x.packets.map aI.enc) true,.box (J.aK x (.sl 5 0 x.streams.length) (.sl 6 0 x.packets.length)),.box J.bJ,.box (J.aK x (.sl 5 0 x.streams.length) (.sl 6 0 x.packets.length))] _ (x.packets.length:Int) (by omega) (by omega) _ dn fun eG ak gy cm dR jz=>?_);obtain⟨dw,rfl⟩:=Int.eq_ofNat_of_zero_le dR;simp only[go_sem,gP];exact bV _ ⟨_,_,(dw,((x.packets[dw]?).getD (⟨0,[]⟩:aI)).number),‹_›,⟨(by omega),rfl⟩,rfl⟩)
       |(refine⟨⟨by omega,by omega⟩,?_⟩)
       |(refine⟨hc1,?_⟩)
       |simp only[go_sem,I,aB,kX,aI.enc,aJ]))
   rintro _ ⟨jR,aC,z,ng,hc,rfl⟩;simp only[Nc,List.replicate,List.getD_cons_succ,List.getD_cons_zero,cond_true];simp only[go_sem];refine af.inl (vI bs hm jR aC [bD] [bh,bI,cd,.ao 39 (x.streams.map ae.enc) true,.ao 2 (x.packets.map aI.enc) true,.box (J.aK x (.sl 5 0 x.streams.length) (.sl 6 0 x.packets.length)),.box J.bJ,.box (J.aK x (.sl 5 0 x.streams.length) (.sl 6 0 x.packets.length))] _ 3 (by omega) (by omega) _ ng fun B1 bL l4 e4=>?_)
   cases l4 with
   |true=>
    have cn:=UT x z.2 m hv (by omega);simp only[go_sem,I];refine af.ag cn ?_;simp only[go_sem,I,bx,b1];exact tq bp _ 10 (by omega) (mv _ _) rfl rfl (hk _ _ _ (by assumption) (.Jf _))
   |false=>
    have cn:=UQ x z.2 m hv (by omega);simp only[go_sem,I];refine af.ag cn ?_;simp only[go_sem,I,bx,b1];exact tq bp _ 10 (by omega) (mv _ _) rfl rfl (hk _ _ _ (by assumption) (.Jg _))
set_option maxRecDepth 100000
theorem NU{ρ:List Nat}{m:Nat}:∀{xs ys:List V},tu ρ m xs→tu ρ m ys→tu ρ m (xs++ys)
 |[],_,_,h=>h
 |NV::II,_,h,k=>⟨h.1,NU h.2 k⟩
theorem Np{kv:List V}{hs:List H}{n:Nat}(hn:hs.length=n)(hr:dd n hs)(bp:bf n kv)(y:J)(a:Nat)(ha:n≤a){ex:List H}{K:V→List H→Prop}(ai:aN (hs++ex) a=.ao 39 (y.streams.map ae.enc) true)(aj:aN (hs++ex) (a+1)=.ao 2 (y.packets.map aI.enc) true)
  (bU:K (gW y n) (hs++hj y)):nN kv K (gW y a) (hs++ex):=by
 subst hn;refine⟨List.range hs.length++[a,a+1],gW y hs.length,hs++hj y,?_,bU⟩;refine IJ (hs:=hs) (ex:=ex) [a,a+1] (by simp) (by simp;omega) hr ?_ (by simp[kS,hok,hj]) bp ?_ ?_
 ·simp only[hj,hsees,ai,aj];simp[hsee]
 ·have h1:=mB hs.length 0 [a,a+1];have h2:=mB hs.length 1 [a,a+1];simp only[Nat.add_zero,List.getD_cons_zero,List.getD_cons_succ]at h1 h2;simp[gW,vsees,vsee,ren,rens]
 ·simp[gW,hj,bf,vok]
theorem Vx{ts kv:List V}(Vy:tu (List.range 7) 7 ts)(bp:bf 3 kv){bD c bh bI:H}(h0:db 7 bD)(hc:db 7 c)(h2:db 7 bh)(ak:db 7 bI)(cs:List V)(hcs:cs.length=50)(x:J) :
  jQ (ts++kv) (List.range 7) ⟨[.ptr 1 0 0,gW x 5],bD::c::bh::bI::.box cs::hj x⟩ ⟨[.ptr 1 0 0,gW x 5],bD::c::bh::bI::.box (List.replicate 50 .ab)::hj x⟩:=by
 have hf:mC (List.range 7) 7:=wW (Nat.le_refl _);refine⟨List.nodup_range,?_,⟨z9 hf h0,z9 hf hc,z9 hf h2,z9 hf ak,hcs▸NW _ cs,⟨rfl,rfl,rfl⟩,⟨rfl,rfl,rfl⟩,trivial⟩,?_,?_,NU Vy (tv hf (by simp[hj]) (ld (by omega) _ bp))⟩
 ·simp[gW,vsees,vsee,ren,rens,List.range,List.range.loop]
 ·simp[gW,hj,bf,vok]
 ·exact z_ (xs:=bD::c::bh::bI::.box (List.replicate 50 .ab)::hj x) ⟨h0,hc,h2,ak,IK _ _,trivial,trivial,trivial⟩
def iT:H:=.box J.bJ
set_option maxHeartbeats 8000000 in
theorem UX(bs:List Int)(hm:bs.length≤maxLen)(i:Nat)(h:Int)(bD bh:H)(hq:db 3 bD∧db 3 bh)(kv:List V)(bp:bf 3 kv)(K:V→List H→Prop)(hi:i≤bs.length)
  (hk:∀(cA:Nat) (h':Int) (y:J),cA≤bs.length→Drawn 14 y→K (gW y 3) ([bD,cM bs cA h',bh]++hj y)):di Tryz.prog 56 kv [bD,cM bs i h,bh] [.ptr 1 0 0] K:=by
 have IL:∀ts:List V,bf 4 ts→bf 4 (ts++kv):=fun ts h=>yu h (ld (by omega) kv bp);have NX:dd 4 [bD]∧dd 4 [bh,iT]:=⟨⟨mw (by omega) _ hq.1,trivial⟩,mw (by omega) _ hq.2,by simp[iT,dd,db,bf,vok]⟩;have IM:∀(cA:Nat) (h':Int),dd 3 [bD,cM bs cA h',bh]:=fun cA h'=>⟨hq.1,by simp[cM,db,bf,vok],hq.2,trivial⟩;have H0:∀(cA:Nat) (h':Int),dd 4 [bD,cM bs cA h',bh,iT]:=fun cA h'=>⟨mw (by omega) _ hq.1,by simp[cM,db,bf,vok],mw (by omega) _ hq.2,by simp[iT,db,bf,vok],trivial⟩;have EP:db 7 bD∧db 7 bh:=⟨mw (by omega) _ hq.1,mw (by omega) _ hq.2⟩;refine di.see ?_;refine(el (n:=27) (rs:=[.cell 2 37]) Tryz.func56 rfl Tryz.call56 Tryz.checked.mixed rfl rfl ?_);simp only[go_sem];refine af.inl (vI bs hm i h [bD] [bh,iT] _ 2 (by omega) (by omega) _ hi fun ew h1 dF b5=>?_);simp only[go_sem,bx,b1];refine af.inl (NY bs hm ew h1 [bD] [bh,iT] _ 4 rfl NX (IL _ (by simp[bf,vok])) _ b5 fun dN h2 o cv=>?_);simp only[go_sem,bx,b1];refine af.inl (NY bs hm dN h2 [bD] [bh,iT] _ 4 rfl NX (IL _ (by simp[bf,vok])) _ cv fun eG ak p cm=>?_);simp only[go_sem,bx,b1];have bF:=Vz dF o.ring o.window o.lu o.c0 o.lZ o.kT o.fc o.hD p.ring p.window p.lu p.c0 p.lZ p.kT p.fc p.hD;change PureCall _ _ _ [.agg (J.enc ((vJ dF o p))),.one (.bool _)]at bF;have bR:=Drawn.new dF o p;generalize vJ dF o p=x at bF bR;refine af.intro bF ?_;simp only[go_sem,I,bx,b1];refine af.inl (js bs hm eG ak [bD] [bh,iT,.ao 39 (x.streams.map ae.enc) true,.ao 2 (x.packets.map aI.enc) true,.box (J.aK x (.sl 4 0 x.streams.length) (.sl 5 0 x.packets.length))] _ 12 (by omega) (by omega) _ cm fun jR aC k dY l0 nU=>?_);obtain⟨k,rfl⟩:=Int.eq_ofNat_of_zero_le l0;simp only[go_sem,bx,b1];rw[show IntKind.i64.wrap (2+(k:Int))=((k+2:Nat):Int)by rw[bE]<;>omega];refine b9.intro (α:=Nat×Int×J×Nat) (fun y=>⟨(.ptr 1 0 0::.ab::.ptr 3 0 0::.ptr 4 0 0::.ab::.d (.int .i64 y.2.2.2)::aF 21 []),[bD,cM bs y.1 y.2.1,bh,iT,.box (J.aK (y.2.2.1) (.sl 5 0 (y.2.2.1).streams.length) (.sl 6 0 (y.2.2.1).packets.length)),.ao 39 ((y.2.2.1).streams.map ae.enc) true,.ao 2 ((y.2.2.1).packets.map aI.enc) true]⟩)
  (fun y=>y.2.2.2) (fun y=>y.1≤bs.length∧y.2.2.2≤14∧Drawn (14-y.2.2.2) y.2.2.1) (jR,aC,x,k+2) [0,1,2,3,6,4,5] ⟨dY,by simp only;omega,bR.mono (by omega)⟩ ?_ ?_
 ·refine IJ (hs:=[bD,cM bs jR aC,bh,iT]) (ex:=[.ao 39 (x.streams.map ae.enc) true,.ao 2 (x.packets.map aI.enc) true,.box (J.aK x (.sl 4 0 x.streams.length) (.sl 5 0 x.packets.length))]) (ex':=[.box (J.aK x (.sl 5 0 x.streams.length) (.sl 6 0 x.packets.length)),.ao 39 (x.streams.map ae.enc) true,.ao 2 (x.packets.map aI.enc) true]) [6,4,5] (by decide) (by simp) (H0 _ _) ?_ (by simp[kS,hok,bf,vok]) (IL [] trivial) ?_ ?_
  ·simp[hsees,hsee,aN,vsees,vsee,ren,List.range,List.range.loop]
  ·simp[vsees,vsee,ren,List.range,List.range.loop]
  ·simp[bf,vok]
 ·rintro⟨B1,bL,x,n⟩ ⟨IN,hn,hd⟩;simp only at IN hn hd;have hx:=hd.z' (by omega);simp only[go_sem]
  cases n with
  |zero=>
   rw[show decide ((0:Int)<((0:Nat):Int))=false from rfl];simp only[go_sem,iT];exact Np (n:=3) (hs:=[bD,cM bs B1 bL,bh]) (ex:=[_,_,_,_]) rfl (IM _ _) bp x 5 (by omega) (by rfl) (by rfl) (hk _ _ _ IN hd)
  |succ n=>
   rw[show decide ((0:Int)<((n+1:Nat):Int))=true from bk (by omega)];simp only[go_sem];refine af.gV [0,2,3,5] (by simp only[gn,List.elem_cons,List.elem_nil,Nat.reduceBEq,Nat.reduceAdd,cond_true,cond_false];rfl) (di.Aa (Vx (by simp[tu,vsee,vok,ren,List.range,List.range.loop]) bp EP.1 (by simp[cM,db,bf,vok]) EP.2 (by simp[iT,db,bf,vok]) _ rfl x) (VA bs hm B1 bL x (14-(n+1)) hx (by omega) bD bh iT (.box (List.replicate 50 .ab)) ⟨mw (by omega) _ hq.1,mw (by omega) _ hq.2,by simp[iT,db,bf,vok],IK 5 50⟩ _ (yu (by simp[bf,vok]) (ld (by omega) kv bp)) _ IN fun ER eD y eY hy=>?_));simp only[go_sem,gW,hj,List.replicate,List.length_cons,List.length_nil,bx,b1];rw[show IntKind.i64.wrap (((n+1:Nat):Int)-1)=(n:Int)by rw[bE]<;>omega];refine bu.intro (ER,eD,y,n) (List.range 7) ⟨eY,by simp only;omega,by simp only;have:=hd.step hy;rwa [show 14-(n+1)+1=14-n from by omega]at this⟩ (Nat.lt_succ_self n) ?_;refine ES (hs:=[bD,cM bs ER eD,bh,iT,.box (J.aK y (.sl 5 0 y.streams.length) (.sl 6 0 y.packets.length)),.ao 39 (y.streams.map ae.enc) true,.ao 2 (y.packets.map aI.enc) true]) ⟨EP.1,by simp[cM,db,bf,vok],EP.2,by simp[iT,db,bf,vok],by simp[db,bf,vok],trivial,trivial,trivial⟩ (ld (by simp) kv bp) ?_ ?_
   ·simp[vsees,vsee,ren,List.range,List.range.loop]
   ·simp[bf,vok]
set_option maxRecDepth 100000
set_option maxHeartbeats 8000000 in
theorem UW(bs:List Int)(hm:bs.length≤maxLen)(i:Nat)(h:Int)(bD:H)(hq:db 2 bD)(kv:List V)(bp:bf 2 kv)(K:V→List H→Prop)(hi:i≤bs.length)
  (hk:∀(cA:Nat) (h':Int) (y:J),cA≤bs.length→yt y→K (gW y 2) ([bD,cM bs cA h']++hj y)):di Tryz.prog 16 kv [bD,cM bs i h] [.ptr 1 0 0] K:=by
 have hr2:∀(cA:Nat) (h':Int),dd 2 [bD,cM bs cA h']:=fun cA h'=>⟨hq,by simp[cM,db,bf,vok],trivial⟩;refine di.see ?_;refine(el (n:=34) (rs:=[.cell 2 37]) Tryz.func16 rfl Tryz.call16 Tryz.checked.mixed rfl rfl ?_);simp only[go_sem];refine af.inl (UX bs hm i h bD iT ⟨mw (by omega) _ hq,by simp[iT,db,bf,vok]⟩ _ (yu (by simp[bf,vok]) (ld (by omega) kv bp)) _ hi fun ew h1 y b5 bR=>?_);simp only[go_sem,gW,hj,iT,bx,b1];refine af.inl (js bs hm ew h1 [bD] [.box J.bJ,.ao 39 (y.streams.map ae.enc) true,.ao 2 (y.packets.map aI.enc) true,.box (J.aK y (.sl 3 0 y.streams.length) (.sl 4 0 y.packets.length))] _ 20 (by omega) (by omega) _ b5 fun dN h2 k cv dO dD=>?_);have ba:∀(x:J) (eG:Nat) (ak:Int) (cr iU:H) (ex:List H),eG≤bs.length→yt x→nN kv K (gW x 3) (bD::cM bs eG ak::cr::.ao 39 (x.streams.map ae.enc) true::.ao 2 (x.packets.map aI.enc) true::iU::ex):=by
  intro x eG ak cr iU ex UY hx;exact Np (n:=2) (hs:=[bD,cM bs eG ak]) (ex:=cr::.ao 39 (x.streams.map ae.enc) true::.ao 2 (x.packets.map aI.enc) true::iU::ex) rfl (hr2 _ _) bp x 3 (by omega) rfl rfl (hk _ _ _ UY hx)
 obtain rfl|rfl|rfl|rfl|aC:k=0∨k=1∨k=2∨k=3∨4≤k:=by omega
 ·have d0:decide ((0:Int)=0)=true:=rfl;simp only[go_sem];refine af.inl (zY bs hm dN h2 [bD] [.box J.bJ,.ao 39 (y.streams.map ae.enc) true,.ao 2 (y.packets.map aI.enc) true,.box (J.aK y (.sl 3 0 y.streams.length) (.sl 4 0 y.packets.length)),.ao 1 ([-1,3,7,256].map a') true] _ 4 [-1,3,7,256] rfl (by decide) (by decide) _ cv fun eG ak v cm dR=>?_);simp only[go_sem,bx,b1];exact ba {y with closed:=v} eG ak _ _ _ cm ⟨y,_,_,_,_,bR,rfl⟩
 ·have d0:decide ((1:Int)=0)=false:=rfl;have eH:decide ((1:Int)=1)=true:=rfl;simp only[go_sem,d0];refine af.inl (zY bs hm dN h2 [bD] [.box J.bJ,.ao 39 (y.streams.map ae.enc) true,.ao 2 (y.packets.map aI.enc) true,.box (J.aK y (.sl 3 0 y.streams.length) (.sl 4 0 y.packets.length)),.ao 1 ([-1,1000000,1000001].map a') true] _ 4 [-1,1000000,1000001] rfl (by decide) (by decide) _ cv fun eG ak v cm dR=>?_);simp only[go_sem,bx,b1];exact ba {y with hO:=v} eG ak _ _ _ cm ⟨y,_,_,_,_,bR,rfl⟩
 ·have d0:decide ((2:Int)=0)=false:=rfl;have eH:decide ((2:Int)=1)=false:=rfl;have gg:decide ((2:Int)=2)=true:=rfl;simp only[go_sem,d0,eH];refine af.inl (zY bs hm dN h2 [bD] [.box J.bJ,.ao 39 (y.streams.map ae.enc) true,.ao 2 (y.packets.map aI.enc) true,.box (J.aK y (.sl 3 0 y.streams.length) (.sl 4 0 y.packets.length)),.ao 1 ([-1,0].map a') true] _ 4 [-1,0] rfl (by decide) (by decide) _ cv fun eG ak v cm dR=>?_);simp only[go_sem,bx,b1];exact ba {y with c0:={y.c0 with used:=v}} eG ak _ _ _ cm ⟨y,_,_,_,_,bR,rfl⟩
 ·have d0:decide ((3:Int)=0)=false:=rfl;have eH:decide ((3:Int)=1)=false:=rfl;have gg:decide ((3:Int)=2)=false:=rfl;have iI:decide ((3:Int)=3)=true:=rfl;simp only[go_sem,d0,eH,gg];refine af.inl (zY bs hm dN h2 [bD] [.box J.bJ,.ao 39 (y.streams.map ae.enc) true,.ao 2 (y.packets.map aI.enc) true,.box (J.aK y (.sl 3 0 y.streams.length) (.sl 4 0 y.packets.length)),.ao 1 ([0,1000000,1000001].map a') true] _ 4 [0,1000000,1000001] rfl (by decide) (by decide) _ cv fun eG ak v cm dR=>?_);simp only[go_sem,bx,b1];exact ba {y with number:=v} eG ak _ _ _ cm ⟨y,_,_,_,_,bR,rfl⟩
 ·have d0:decide (k=0)=false:=bb (by omega);have eH:decide (k=1)=false:=bb (by omega);have gg:decide (k=2)=false:=bb (by omega);have iI:decide (k=3)=false:=bb (by omega);simp only[go_sem,d0,eH,gg,iI,bx,b1];exact ba y dN h2 _ _ _ cv ⟨y,_,_,_,_,bR,rfl⟩
set_option maxRecDepth 100000
set_option maxHeartbeats 2000000 in
theorem Ov(bs:List Int)(hm:bs.length≤maxLen)(i:Nat)(h:Int)(pre a_:List H)(kv:List V)(n:Nat)(hn:pre.length+(a_.length+1)=n)(hr:dd n pre∧dd n a_)(bp:bf n kv)(K:V→List H→Prop)(hi:i≤bs.length)
  (hk:∀(cA:Nat) (h' x:Int),cA≤bs.length→K (.d (.int .i64 x)) (pre++cM bs cA h'::a_)):di Tryz.prog 59 kv (pre++cM bs i h::a_) [.ptr pre.length 0 0] K:=by
 have ba:∀(cA:Nat) (h' x:Int) (ex:List H),cA≤bs.length→nN kv K (.d (.int .i64 x)) (pre++cM bs cA h'::(a_++ex)):=by
  intro cA h' x ex dn;subst hn;exact⟨List.range (pre.length+(a_.length+1)),.d (.int .i64 x),pre++cM bs cA h'::a_,B_ hr bp (by simp only[vsees,vsee,ren,and_true]) (by simp[bf,vok]),hk cA h' x dn⟩
 refine di.see ?_;refine(el (n:=10) (rs:=[.tmp 2]) Tryz.func59 rfl Tryz.call59 Tryz.checked.mixed rfl rfl ?_);simp only[go_sem];refine af.inl (vI bs hm i h pre a_ _ 8 (by omega) (by omega) _ hi fun ew h1 dF b5=>?_);simp only[go_sem]
 cases dF with
 |true=>
  simp only[go_sem,jy,e8,ei,fH];refine af.inl (zY bs hm ew h1 pre (a_++[.ao 1 ([-1,4611686018427387903,4611686018427387904].map a') true]) _ a_.length [-1,4611686018427387903,4611686018427387904] (by rw[fH];rfl) (by decide) (by decide) _ b5 fun dN h2 x2 cv dO=>?_);simp only[go_sem];exact ba dN h2 x2 _ cv
 |false=>
  simp only[go_sem];refine af.inl (js bs hm ew h1 pre a_ _ 20 (by omega) (by omega) _ b5 fun dN h2 x2 cv dO dD=>?_);simp only[go_sem];have:=ba dN h2 x2 [] cv
  rwa [List.append_nil]at this
def Jb(bs:List Int)(bD:H)(x:J)(i:Nat)(h:Int)(z:Nat×Int)(S:List Bool):St:=⟨[.ptr 1 0 0,.agg (J.aK x (.sl 2 0 x.streams.length) (.sl 3 0 x.packets.length)),.ab,.ptr 5 0 0,(bif S.getD 10 false then .d (.int .i64 z.2)else .d (.int .i64 0)),.ptr 5 0 17,.sl 2 0 x.streams.length,.d (.int .i64 x.streams.length),.d (.bool true),.d (.bool true),.ptr 1 0 0,.d (.bool false),.d (.bool true),.d (.bool true),(bif S.getD 0 false then .ptr 5 0 17 else .ab),(bif S.getD 1 false then .sl 2 0 x.streams.length else .ab),(bif S.getD 2 false then .ptr 1 0 0 else .ab),(bif S.getD 3 false then .ptr 5 0 17 else .ab),(bif S.getD 4 false then .sl 2 0 x.streams.length else .ab),(bif S.getD 5 false then .d (.int .i64 x.streams.length)else .ab),(bif S.getD 6 false then .d (.int .i64 z.1)else .ab),(bif S.getD 7 false then .ptr 2 z.1 0 else .ab),(bif S.getD 8 false then .ptr 2 z.1 0 else .ab),(bif S.getD 9 false then .d (.int .i64 z.2)else .ab),.ab,.ab],[bD,cM bs i h,.ao 39 (x.streams.map ae.enc) true,.ao 2 (x.packets.map aI.enc) true,.box (J.aK x (.sl 2 0 x.streams.length) (.sl 3 0 x.packets.length)),.box (J.aK x (.sl 2 0 x.streams.length) (.sl 3 0 x.packets.length))]⟩
set_option maxHeartbeats 8000000 in
theorem VX(bs:List Int)(hm:bs.length≤maxLen)(i:Nat)(h:Int)(x:J)(hl:x.streams.length≤1000)(bD:H)(hq:db 5 bD)(kv:List V)(bp:bf 5 kv)(K:V→List H→Prop)(hi:i≤bs.length)
  (hk:∀(cA:Nat) (h' id:Int),cA≤bs.length→K (.d (.int .i64 id)) [bD,cM bs cA h',.ao 39 (x.streams.map ae.enc) true,.ao 2 (x.packets.map aI.enc) true,.box (J.aK x (.sl 2 0 x.streams.length) (.sl 3 0 x.packets.length))]):di Tryz.prog 17 kv [bD,cM bs i h,.ao 39 (x.streams.map ae.enc) true,.ao 2 (x.packets.map aI.enc) true,.box (J.aK x (.sl 2 0 x.streams.length) (.sl 3 0 x.packets.length))] [.ptr 1 0 0,.agg (J.aK x (.sl 2 0 x.streams.length) (.sl 3 0 x.packets.length))] K:=by
 have ba:∀(cA:Nat) (h' id:Int) (ex:List H),cA≤bs.length→nN kv K (.d (.int .i64 id)) ([bD,cM bs cA h',.ao 39 (x.streams.map ae.enc) true,.ao 2 (x.packets.map aI.enc) true,.box (J.aK x (.sl 2 0 x.streams.length) (.sl 3 0 x.packets.length))]++ex):=by
  intro cA h' id ex dn;refine⟨List.range 5,.d (.int .i64 id),_,yw (hs:=[bD,cM bs cA h',.ao 39 (x.streams.map ae.enc) true,.ao 2 (x.packets.map aI.enc) true,.box (J.aK x (.sl 2 0 x.streams.length) (.sl 3 0 x.packets.length))]) ?_ bp (by simp only[vsees,vsee,ren,and_true]) (by simp[bf,vok]),hk cA h' id dn⟩;exact⟨hq,by simp[cM,db,bf,vok],by simp[dd,db,bf,vok]⟩
 refine di.see ?_;refine(el (n:=26) (rs:=[.tmp 4]) Tryz.func17 rfl Tryz.call17 Tryz.checked.mixed rfl rfl ?_);simp only[go_sem];have Ow:dd 6 [bD]∧dd 6 [.ao 39 (x.streams.map ae.enc) true,.ao 2 (x.packets.map aI.enc) true,.box (J.aK x (.sl 2 0 x.streams.length) (.sl 3 0 x.packets.length)),.box (J.aK x (.sl 2 0 x.streams.length) (.sl 3 0 x.packets.length))]:=⟨⟨mw (by omega) _ hq,trivial⟩,by simp[dd,db,bf,vok]⟩
 cases gA:decide (0<(x.streams.length:Int))with
 |false=>
  refine dC ?_;simp only[go_sem];refine dC ?_;simp only[go_sem]
  try(refine dC ?_;simp only[go_sem])
  refine af.inl (Ov bs hm i h [bD] [.ao 39 (x.streams.map ae.enc) true,.ao 2 (x.packets.map aI.enc) true,.box (J.aK x (.sl 2 0 x.streams.length) (.sl 3 0 x.packets.length)),.box (J.aK x (.sl 2 0 x.streams.length) (.sl 3 0 x.packets.length))] _ 6 rfl Ow (yu (by simp[bf,vok]) (ld (by omega) kv bp)) _ hi fun dN h2 x2 cv=>?_);simp only[go_sem,bx,b1];exact ba dN h2 x2 [_] cv
 |true=>
  have w4:=cl gA;refine ct ?_;simp only[go_sem];refine ct ?_;simp only[go_sem];refine af.inl (vI bs hm i h [bD] [.ao 39 (x.streams.map ae.enc) true,.ao 2 (x.packets.map aI.enc) true,.box (J.aK x (.sl 2 0 x.streams.length) (.sl 3 0 x.packets.length)),.box (J.aK x (.sl 2 0 x.streams.length) (.sl 3 0 x.packets.length))] _ 5 (by omega) (by omega) _ hi fun ew h1 dF b5=>?_)
  cases dF with
  |true=>
   simp only[go_sem,bx,b1]
   try(refine ct ?_;simp only[go_sem])
   refine af.inl (Ov bs hm ew h1 [bD] [.ao 39 (x.streams.map ae.enc) true,.ao 2 (x.packets.map aI.enc) true,.box (J.aK x (.sl 2 0 x.streams.length) (.sl 3 0 x.packets.length)),.box (J.aK x (.sl 2 0 x.streams.length) (.sl 3 0 x.packets.length))] _ 6 rfl Ow (yu (by simp[bf,vok]) (ld (by omega) kv bp)) _ b5 fun dN h2 x2 cv=>?_);simp only[go_sem,bx,b1];exact ba dN h2 x2 [_] cv
  |false=>
   simp only[go_sem,bx,b1]
   try(refine ct ?_;simp only[go_sem])
   refine j6 _ (lf (fun S σ=>∃i h z,i≤bs.length∧(z.1<x.streams.length∧((x.streams[z.1]?).getD jc).id=z.2)∧σ=Jb bs bD x i h z S) (N:=11) rfl rfl ⟨ew,h1,(0,((x.streams[0]?).getD jc).id),‹_›,by first|assumption|(simp;done)|exact⟨by omega,rfl⟩,rfl⟩ ?_) ?_
   ·repeat'(first|exact lg|refine lh ?_ ?_)
    all_goals(
     rintro S σ F hl aQ hp hcl ⟨fJ,eU,z,dn,hc,rfl⟩ bV;obtain⟨iW,c9,dc,cB,de,j7,kN,kO,lj,tt,yv,rfl⟩:=Jc hl;simp only[List.getElem?_cons_succ,List.getElem?_cons_zero,Option.some.injEq]at aQ;subst aQ;simp[ju,Region.binds]at hp
     repeat(obtain⟨d1,hp⟩:=hp;subst d1)
     try subst hp
     have aB:=b4 ae.enc x.streams z.1 hc.1;have kX:=hc.2;have hc1:=hc.1;rw[dk hc.1,Option.getD_some]at kX;simp only[Jb,List.getD_cons_succ,List.getD_cons_zero,cond_true,cond_false]
     repeat'(first
       |exact bV _ ⟨fJ,eU,z,dn,hc,rfl⟩
       |(refine ct ?_)
       |(refine dC ?_)
       |(obtain rfl:=Option.some.inj (hcl 6 7 _ rfl (by decide) rfl);obtain rfl:=Option.some.inj (hcl 7 8 _ rfl (by decide) rfl);obtain rfl:=Option.some.inj (hcl 8 9 _ rfl (by decide) rfl);obtain rfl:=Option.some.inj (hcl 9 10 _ rfl (by decide) rfl);simp only[cond_false];refine af.inl (js bs hm fJ eU [bD] [.ao 39 (x.streams.map ae.enc) true,.ao 2 (x.packets.map aI.enc) true,.box (J.aK x (.sl 2 0 x.streams.length) (.sl 3 0 x.packets.length)),.box (J.aK x (.sl 2 0 x.streams.length) (.sl 3 0 x.packets.length))] _ (x.streams.length:Int) (by omega) (by omega) _ dn fun eG ak gy cm dR jz=>?_);obtain⟨dw,rfl⟩:=Int.eq_ofNat_of_zero_le dR;simp only[go_sem,gP];exact bV _ ⟨_,_,(dw,((x.streams[dw]?).getD jc).id),‹_›,⟨by omega,rfl⟩,rfl⟩)
       |(refine⟨⟨by omega,by omega⟩,?_⟩)
       |(refine⟨hc1,?_⟩)
       |simp only[go_sem,I,aB,kX,ae.enc,aJ]))
   rintro _ ⟨jR,aC,z,ng,hc,rfl⟩;simp only[Jb,List.replicate,List.getD_cons_succ,List.getD_cons_zero,cond_true];simp only[go_sem];exact ba jR aC z.2 [_] ng
theorem VY{S:List Bool}(h:S.length=8):∃fP b5 cv cm dY e4 eY fA,S=[fP,b5,cv,cm,dY,e4,eY,fA]:=by
 match S,h with|[fP,b5,cv,cm,dY,e4,eY,fA],_=>exact⟨fP,b5,cv,cm,dY,e4,eY,fA,rfl⟩
def Jd(bs:List Int)(x:J)(id:Int)(i:Nat)(h z:Int)(S:List Bool):St:=⟨[.d (.sl 1 (bs.map eU8)),.ab,.ptr 0 0 0,(bif S.getD 6 false then .d (.int .i64 id)else .d (.int .i64 0)),(bif S.getD 7 false then .d (.int .i64 (IntKind.i64.wrap (z-1)))else .d (.int .i64 0)),.ptr 1 0 0,.ptr 4 0 0,.d (.int .i64 id),.d (.sl 1 (bs.map eU8)),.ptr 1 0 0,.ptr 1 0 0,.agg (J.aK x (.sl 2 0 x.streams.length) (.sl 3 0 x.packets.length)),.ptr 1 0 0,.agg (J.aK x (.sl 2 0 x.streams.length) (.sl 3 0 x.packets.length)),.d (.int .i64 id),(bif S.getD 0 false then .agg (J.aK x (.sl 2 0 x.streams.length) (.sl 3 0 x.packets.length))else .ab),(bif S.getD 1 false then .d (.int .i64 id)else .ab),(bif S.getD 2 false then .ptr 1 0 0 else .ab),(bif S.getD 3 false then .d (.int .i64 z)else .ab),(bif S.getD 4 false then .d (.int .i64 (IntKind.i64.wrap (z-1)))else .ab)],[(bif S.getD 5 false then .box (J.aK x (.sl 2 0 x.streams.length) (.sl 3 0 x.packets.length))else .box J.bJ),cM bs i h,.ao 39 (x.streams.map ae.enc) true,.ao 2 (x.packets.map aI.enc) true,.box (J.aK x (.sl 2 0 x.streams.length) (.sl 3 0 x.packets.length))]⟩
set_option maxHeartbeats 8000000 in
theorem VZ(bs:List Int):Ai Tryz.prog 5 [.one (.sl 1 (bs.map eU8))] (fun rs=>∃(x:J) (id k:Int),yt x∧rs=[.agg (J.enc x),.one (.int .i64 id),.one (.int .i64 k)]):=by
 refine V1 Tryz.func5 rfl Tryz.call5 Tryz.checked.mixed (.d (.sl 1 (bs.map eU8))::List.replicate 19 .ab) rfl [.cell 2 37,.tmp 3,.tmp 4] rfl ?_;intro ok;have hm:=fZ ok;simp only[List.replicate];simp only[go_sem];refine af.inl (VR bs hm [iT] _ (by simp[iT,dd,db,bf,vok]) (by simp[bf,vok]) _ fun h1=>?_);simp only[go_sem,bx,b1];refine af.inl (UW bs hm 0 h1 iT (by simp[iT,db,bf,vok]) _ (by simp[bf,vok]) _ (by omega) fun dN h2 x cv bR=>?_);have aO:=bR.z';have hl:x.streams.length≤1000:=by have:=aO.je;omega
 simp only[go_sem,gW,hj,iT,I,bx,b1];refine af.inl (VX bs hm dN h2 x hl (.box J.bJ) (by simp[db,bf,vok]) _ (by simp[bf,vok]) _ cv fun eG ak id cm=>?_);simp only[go_sem];refine j6 _ (lf (fun S σ=>∃i h z,i≤bs.length∧True∧σ=Jd bs x id i h z S) (N:=8) rfl rfl ⟨eG,ak,0,‹_›,trivial,rfl⟩ ?_) ?_
 ·repeat'(first|exact lg|refine lh ?_ ?_)
  all_goals(
   rintro S σ F hl aQ hp hcl ⟨fJ,eU,z,dn,hc,rfl⟩ bV;obtain⟨iW,c9,dc,cB,de,j7,kN,kO,rfl⟩:=VY hl;simp only[List.getElem?_cons_succ,List.getElem?_cons_zero,Option.some.injEq]at aQ;subst aQ;simp[ju,Region.binds]at hp
   repeat(obtain⟨d1,hp⟩:=hp;subst d1)
   try subst hp
   simp only[Jd,List.getD_cons_succ,List.getD_cons_zero,cond_true,cond_false]
   repeat'(first
     |exact bV _ ⟨fJ,eU,z,dn,hc,rfl⟩
     |(refine ct ?_)
     |(refine dC ?_)
     |(obtain rfl:=Option.some.inj (hcl 3 4 _ rfl (by decide) rfl);obtain rfl:=Option.some.inj (hcl 3 5 _ rfl (by decide) rfl);obtain rfl:=Option.some.inj (hcl 5 6 _ rfl (by decide) rfl);obtain rfl:=Option.some.inj (hcl 4 7 _ rfl (by decide) rfl);simp only[cond_false];refine af.inl (js bs hm fJ eU [.box J.bJ] [.ao 39 (x.streams.map ae.enc) true,.ao 2 (x.packets.map aI.enc) true,.box (J.aK x (.sl 2 0 x.streams.length) (.sl 3 0 x.packets.length))] _ 9 (by omega) (by omega) _ dn fun eG ak gy cm dR jz=>?_);simp only[go_sem,gP];exact bV _ ⟨_,_,gy,‹_›,trivial,rfl⟩)
     |simp only[go_sem,bx,b1]))
 rintro _ ⟨jR,aC,z,ng,hc,rfl⟩;simp only[Jd,List.replicate,List.getD_cons_succ,List.getD_cons_zero,cond_true];simp only[go_sem];refine⟨_,⟨x,id,IntKind.i64.wrap (z-1),bR,rfl⟩,?_⟩;simp only[go_sem];simp[outOA]
set_option maxRecDepth 100000
set_option maxHeartbeats 4000000 in
theorem Ns(bT:List al)(hm:bT.length≤500)(num:Int)(kv:List V)(bp:bf 1 kv)(K:V→List H→Prop)(hk:K (.d (.bool (!bT.all eQ))) [.box [.d (.int .i64 num),.d (.sl 9 (bT.map al.enc))]]) :
  di Tryz.prog 90 kv [.box [.d (.int .i64 num),.d (.sl 9 (bT.map al.enc))]] [.d (.sl 9 (bT.map al.enc)),.fn 91 []] K:=by
 have ba:∀(ex:List H) (b:Bool),b=!bT.all eQ→nN kv K (.d (.bool b)) (.box [.d (.int .i64 num),.d (.sl 9 (bT.map al.enc))]::ex):=by
  intro ex b hb;subst hb;exact⟨List.range 1,_,[.box [.d (.int .i64 num),.d (.sl 9 (bT.map al.enc))]],yw (hs:=[.box [.d (.int .i64 num),.d (.sl 9 (bT.map al.enc))]]) (ex:=ex) (by simp[dd,db,bf,vok]) bp (by simp[vsees,vsee,ren]) (by simp[bf,vok]),hk⟩
 have hx:∀ρ:List Nat,ρ=[0]→tu ρ 1 kv:=fun ρ e=>by subst e;exact tv (wW (m:=1) (n:=1) (by omega)) (by omega) bp
 refine di.see ?_;refine(el (n:=9) (rs:=[.tmp 4]) Tryz.func90 rfl Tryz.call90 Tryz.checked.mixed rfl rfl ?_);simp only[go_sem];refine af.inl (el (n:=19) (rs:=[.tmp 4]) Tryz.func127 rfl Tryz.call127 Tryz.checked.mixed rfl rfl ?_);simp only[go_sem,I];refine b9.intro (fun i:Nat=>⟨(.d (.sl 9 (bT.map al.enc))::.fn 91 []::.ab::.ab::.d (.int .i64 0)::.ab::.d (.sl 9 (bT.map al.enc))::.d (.int .i64 bT.length)::.d (.int .i64 i)::aF 10 []),[.box [.d (.int .i64 num),.d (.sl 9 (bT.map al.enc))]]⟩)
   (fun i=>bT.length-i) (fun i=>i≤bT.length∧(bT.take i).all eQ=true) 0 [0] ⟨by omega,by simp⟩ ?_ ?_
 ·simp only[go_sem];simp[hx];try trace_state
 ·rintro i ⟨hi,he⟩;by_cases h1:i<bT.length
  ·have au:decide ((i:Int)<(bT.length:Int))=true:=bk (by omega);have aB:=b4 al.enc bT i h1;have hw:IntKind.i64.wrap ((i:Int)+1)=((i+1:Nat):Int):=by rw[bE]<;>omega
   have hs:=Nt eQ bT i h1;have hn:=fun h=>Nu eQ bT i h1 h;generalize bT[i]=f at *;have bV:=U3 f.bn f.stream f.offset f.data f.ba f.code f.a1 f.bg f.fc;change PureCall _ _ _ [.one (.bool (eQ f))]at bV;simp only[go_sem,I,au,aB,al.enc,aJ];refine⟨⟨by omega,by omega⟩,?_⟩;refine af.inl (el (n:=6) (rs:=[.tmp 2]) Tryz.func91 rfl Tryz.call91 Tryz.checked.mixed rfl rfl ?_);simp only[go_sem];refine af.intro bV ?_
   cases hb:eQ f with
   |true=>
    simp only[go_sem,hw,Bool.not_true];refine bu.intro (i+1) [0] ⟨by omega,by rw[hs,he,hb];rfl⟩ (by omega) ?_;simp only[go_sem];simp[hx]
   |false=>
    have:=hn hb;simp only[go_sem,Bool.not_false];have h0:decide ((0:Int)≤(i:Int))=true:=bk (by omega);exact ba _ _ (by simp[this])
  ·have au:decide ((i:Int)<(bT.length:Int))=false:=bb (by omega);obtain rfl:i=bT.length:=by omega
   rw[dK]at he;simp only[go_sem,au];exact ba _ _ (by simp[he])
set_option maxRecDepth 100000
theorem Ez{S:List Bool}(h:S.length=26):∃fP b5 cv cm dY e4 eY fA gh gX j5 lT lU lV zZ BQ BR H5 H6 H7 H8 H9 H_ H' Ia Ib,S=[fP,b5,cv,cm,dY,e4,eY,fA,gh,gX,j5,lT,lU,lV,zZ,BQ,BR,H5,H6,H7,H8,H9,H_,H',Ia,Ib]:=by
 match S,h with|[fP,b5,cv,cm,dY,e4,eY,fA,gh,gX,j5,lT,lU,lV,zZ,BQ,BR,H5,H6,H7,H8,H9,H_,H',Ia,Ib],_=>exact⟨fP,b5,cv,cm,dY,e4,eY,fA,gh,gX,j5,lT,lU,lV,zZ,BQ,BR,H5,H6,H7,H8,H9,H_,H',Ia,Ib,rfl⟩
def Ic(l:List aI)(n:Int)(i UZ:Nat)(p U0:aI)(U1:Bool)(S:List Bool):St:=⟨[.d (.sl 2 (l.map aI.enc)),.d (.int .i64 n),.ab,.ab,.d (.bool false),.d (.int .i64 i),.ptr 0 0 0,.d (.sl 2 (l.map aI.enc)),.d (.int .i64 l.length),.d (.int .i64 i),.d (.bool true),.d (.int .i64 i),.ep [.int .i64 p.number,.sl 9 (p.frames.map al.enc)] 0,.agg [.d (.int .i64 p.number),.d (.sl 9 (p.frames.map al.enc))],(bif S.getD 0 false then .ptr 0 0 0 else .ab),(bif S.getD 1 false then .d (.int .i64 p.number)else .ab),(bif S.getD 2 false then .d (.int .i64 n)else .ab),(bif S.getD 3 false then .d (.int .i64 (IntKind.i64.wrap (n-1)))else .ab),(bif S.getD 4 false then .d (.bool false)else .ab),(bif S.getD 5 false then .d (.bool true)else .ab),(bif S.getD 6 false then .d (.bool true)else .ab),(bif S.getD 7 false then .bm false (.d (.bool false))else .ab),(bif S.getD 8 false then .bm false (.d (.bool false))else .ab),(bif S.getD 9 false then .bm false (.d (.bool false))else .ab),(bif S.getD 10 false then .bm false (.d (.bool false))else .ab),(bif S.getD 11 false then .bm false (.d (.bool false))else .ab),(bif S.getD 12 false then .bm false (.d (.bool false))else .ab),(bif S.getD 13 false then .bm false (.d (.bool false))else .ab),(bif S.getD 14 false then .bm false (.d (.bool false))else .ab),(bif S.getD 15 false then .bm false (.d (.bool false))else .ab),(bif S.getD 16 false then .bm false (.d (.bool false))else .ab),(bif S.getD 17 false then .bm false (.d (.bool false))else .ab),(bif S.getD 18 false then .bm false (.d (.bool false))else .ab),(bif S.getD 19 false then .bm false (.d (.bool false))else .ab),(bif S.getD 20 false then .d (.bool true)else .ab),(bif S.getD 21 false then .d (.bool true)else .ab),(bif S.getD 22 false then .bm false (.d (.bool false))else .ab),(bif S.getD 23 false then .bm false (.d (.bool false))else .ab),(bif S.getD 24 false then .bm false (.d (.bool false))else .ab),(bif S.getD 25 false then .d (.bool true)else .ab),.ab],[.box [.d (.int .i64 p.number),.d (.sl 9 (p.frames.map al.enc))]]⟩
def Ie(l:List aI)(n:Int)(i UZ:Nat)(p U0:aI)(w:Bool)(S:List Bool):St:=⟨[.d (.sl 2 (l.map aI.enc)),.d (.int .i64 n),.ab,.ab,.d (.bool false),.d (.int .i64 i),.ptr 0 0 0,.d (.sl 2 (l.map aI.enc)),.d (.int .i64 l.length),.d (.int .i64 i),.d (.bool true),.d (.int .i64 i),.ep [.int .i64 p.number,.sl 9 (p.frames.map al.enc)] 0,.agg [.d (.int .i64 p.number),.d (.sl 9 (p.frames.map al.enc))],(bif S.getD 0 false then .ptr 0 0 0 else .ab),(bif S.getD 1 false then .d (.int .i64 p.number)else .ab),(bif S.getD 2 false then .d (.int .i64 n)else .ab),(bif S.getD 3 false then .d (.int .i64 (IntKind.i64.wrap (n-1)))else .ab),(bif S.getD 4 false then .d (.bool true)else .ab),(bif S.getD 5 false then .d (.bool false)else .ab),(bif S.getD 6 false then .d (.bool false)else .ab),(bif S.getD 7 false then .d (.int .i64 i)else .ab),(bif S.getD 8 false then .d (.bool false)else .ab),(bif S.getD 9 false then .d (.bool false)else .ab),(bif S.getD 10 false then .bm false (.d (.bool false))else .ab),(bif S.getD 11 false then .bm false (.d (.bool false))else .ab),(bif S.getD 12 false then .bm false (.d (.bool false))else .ab),(bif S.getD 13 false then .bm false (.d (.bool false))else .ab),(bif S.getD 14 false then .bm false (.d (.bool false))else .ab),(bif S.getD 15 false then .bm false (.d (.bool false))else .ab),(bif S.getD 16 false then .bm false (.d (.bool false))else .ab),(bif S.getD 17 false then .bm false (.d (.bool false))else .ab),(bif S.getD 18 false then .bm false (.d (.bool false))else .ab),(bif S.getD 19 false then .d (.bool false)else .ab),(bif S.getD 20 false then .d (.bool false)else .ab),(bif S.getD 21 false then .d (.bool false)else .ab),(bif S.getD 22 false then .ptr 0 0 1 else .ab),(bif S.getD 23 false then .d (.sl 9 (p.frames.map al.enc))else .ab),(bif S.getD 24 false then .d (.bool w)else .ab),(bif S.getD 25 false then .d (.bool w)else .ab),.ab],[.box [.d (.int .i64 p.number),.d (.sl 9 (p.frames.map al.enc))]]⟩
def Ig(l:List aI)(n:Int)(i j:Nat)(p q:aI)(U1:Bool)(S:List Bool):St:=⟨[.d (.sl 2 (l.map aI.enc)),.d (.int .i64 n),.ab,.ab,.d (.bool false),.d (.int .i64 i),.ptr 0 0 0,.d (.sl 2 (l.map aI.enc)),.d (.int .i64 l.length),.d (.int .i64 i),.d (.bool true),.d (.int .i64 i),.ep [.int .i64 p.number,.sl 9 (p.frames.map al.enc)] 0,.agg [.d (.int .i64 p.number),.d (.sl 9 (p.frames.map al.enc))],(bif S.getD 0 false then .ptr 0 0 0 else .ab),(bif S.getD 1 false then .d (.int .i64 p.number)else .ab),(bif S.getD 2 false then .d (.int .i64 n)else .ab),(bif S.getD 3 false then .d (.int .i64 (IntKind.i64.wrap (n-1)))else .ab),(bif S.getD 4 false then .d (.bool true)else .ab),(bif S.getD 5 false then .d (.bool false)else .ab),(bif S.getD 6 false then .d (.bool false)else .ab),(bif S.getD 7 false then .d (.int .i64 i)else .ab),(bif S.getD 8 false then .d (.bool true)else .ab),(bif S.getD 9 false then .d (.bool true)else .ab),(bif S.getD 10 false then .d (.sl 2 (l.map aI.enc))else .ab),(bif S.getD 11 false then .d (.int .i64 i)else .ab),(bif S.getD 12 false then .d (.int .i64 j)else .ab),(bif S.getD 13 false then .ep [.int .i64 q.number,.sl 9 (q.frames.map al.enc)] 0 else .ab),(bif S.getD 14 false then .ep [.int .i64 q.number,.sl 9 (q.frames.map al.enc)] 0 else .ab),(bif S.getD 15 false then .d (.int .i64 q.number)else .ab),(bif S.getD 16 false then .ptr 0 0 0 else .ab),(bif S.getD 17 false then .d (.int .i64 p.number)else .ab),(bif S.getD 18 false then .d (.bool true)else .ab),(bif S.getD 19 false then .d (.bool true)else .ab),(bif S.getD 20 false then .d (.bool true)else .ab),(bif S.getD 21 false then .d (.bool true)else .ab),(bif S.getD 22 false then .bm false (.d (.bool false))else .ab),(bif S.getD 23 false then .bm false (.d (.bool false))else .ab),(bif S.getD 24 false then .bm false (.d (.bool false))else .ab),(bif S.getD 25 false then .d (.bool true)else .ab),.ab],[.box [.d (.int .i64 p.number),.d (.sl 9 (p.frames.map al.enc))]]⟩
def Ih(l:List aI)(n:Int)(i j:Nat)(p q:aI)(w:Bool)(S:List Bool):St:=⟨[.d (.sl 2 (l.map aI.enc)),.d (.int .i64 n),.ab,.ab,.d (.bool false),.d (.int .i64 i),.ptr 0 0 0,.d (.sl 2 (l.map aI.enc)),.d (.int .i64 l.length),.d (.int .i64 i),.d (.bool true),.d (.int .i64 i),.ep [.int .i64 p.number,.sl 9 (p.frames.map al.enc)] 0,.agg [.d (.int .i64 p.number),.d (.sl 9 (p.frames.map al.enc))],(bif S.getD 0 false then .ptr 0 0 0 else .ab),(bif S.getD 1 false then .d (.int .i64 p.number)else .ab),(bif S.getD 2 false then .d (.int .i64 n)else .ab),(bif S.getD 3 false then .d (.int .i64 (IntKind.i64.wrap (n-1)))else .ab),(bif S.getD 4 false then .d (.bool true)else .ab),(bif S.getD 5 false then .d (.bool false)else .ab),(bif S.getD 6 false then .d (.bool false)else .ab),(bif S.getD 7 false then .d (.int .i64 i)else .ab),(bif S.getD 8 false then .d (.bool true)else .ab),(bif S.getD 9 false then .d (.bool true)else .ab),(bif S.getD 10 false then .d (.sl 2 (l.map aI.enc))else .ab),(bif S.getD 11 false then .d (.int .i64 i)else .ab),(bif S.getD 12 false then .d (.int .i64 j)else .ab),(bif S.getD 13 false then .ep [.int .i64 q.number,.sl 9 (q.frames.map al.enc)] 0 else .ab),(bif S.getD 14 false then .ep [.int .i64 q.number,.sl 9 (q.frames.map al.enc)] 0 else .ab),(bif S.getD 15 false then .d (.int .i64 q.number)else .ab),(bif S.getD 16 false then .ptr 0 0 0 else .ab),(bif S.getD 17 false then .d (.int .i64 p.number)else .ab),(bif S.getD 18 false then .d (.bool false)else .ab),(bif S.getD 19 false then .d (.bool false)else .ab),(bif S.getD 20 false then .d (.bool false)else .ab),(bif S.getD 21 false then .d (.bool false)else .ab),(bif S.getD 22 false then .ptr 0 0 1 else .ab),(bif S.getD 23 false then .d (.sl 9 (p.frames.map al.enc))else .ab),(bif S.getD 24 false then .d (.bool w)else .ab),(bif S.getD 25 false then .d (.bool w)else .ab),.ab],[.box [.d (.int .i64 p.number),.d (.sl 9 (p.frames.map al.enc))]]⟩
set_option maxHeartbeats 8000000 in
theorem U2(l:List aI)(n:Int)(hz:∀p∈l,EA p)(hl:l.length≤30):PureCall Tryz.prog 53 [.one (.sl 2 (l.map aI.enc)),.one (.int .i64 n)] [.one (.bool (wV n l))]:=by
 refine aP 41 Tryz.func53 Tryz.call53 [.tmp 4] ?_;intro ok;clear ok;simp only[go_sem,I];refine b9.intro (fun i:Nat=>⟨(.d (.sl 2 (l.map aI.enc))::.d (.int .i64 n)::.ab::.ab::.d (.bool false)::.ab::.ab::.d (.sl 2 (l.map aI.enc))::.d (.int .i64 l.length)::.d (.int .i64 i)::aF 31 []),[]⟩)
   (fun i=>l.length-i) (fun i=>i≤l.length∧iV (i' n l) i=true) 0 [] ⟨by omega,by simp[iV]⟩ ?_ ?_
 ·simp only[go_sem];simp
 ·rintro i ⟨hi,he⟩;by_cases h1:i<l.length
  ·have au:decide ((i:Int)<(l.length:Int))=true:=bk (by omega);have aB:=b4 aI.enc l i h1;have wU:=(hz _ (List.getElem_mem h1)).1;have hs:=BS (i' n l) i;have hf:i' n l i=false→wV n l=false:=fun h=>EB (i' n l) h1 h;have Nq:IntKind.i64.wrap ((i:Int)+1)=((i+1:Nat):Int):=by rw[bE]<;>omega
   have kM:∀h:i=0,i' n l i=uk n l[i]:=by
    intro h;subst h;exact um _ _ _ h1
   have Nr:∀(j:Nat) (h:i=j+1) (av:j<l.length),i' n l i=(uk n l[i]&&decide (l[j].number<l[i].number)):=by
    intro j h av;subst h;exact uo _ _ _ _ h1
   have jt:∀h:uk n l[i]=false,i' n l i=false:=by
    intro h;cases i with
    |zero=>rw[kM rfl,h]
    |succ j=>rw[Nr j rfl (by omega),h];rfl
   generalize l[i]=p at *;have hW:=jM p.number 0 (IntKind.i64.wrap (n-1))
   cases ha:bz p.number 0 (IntKind.i64.wrap (n-1))with
   |false=>
    rw[ha]at hW;have d1:i' n l i=false:=jt (by unfold uk;rw[ha];rfl);simp only[go_sem,I,au,aB,aI.enc,aJ];refine⟨⟨by omega,by omega⟩,?_⟩;refine j6 _ (lf (fun S σ=>σ=Ic l n i 0 p p false S) (N:=26) rfl rfl rfl ?_) ?_
    ·repeat'(first|exact lg|refine lh ?_ ?_)
     all_goals(
      rintro S σ F hl aQ hp hcl rfl bV;obtain⟨iW,c9,dc,cB,de,j7,kN,kO,lj,tt,yv,EC,ED,EE,Ii,Ij,Ik,Il,Im,Io,Ip,Iq,Ir,Is,It,Iu,rfl⟩:=Ez hl;simp only[List.getElem?_cons_succ,List.getElem?_cons_zero,Option.some.injEq]at aQ;subst aQ;simp[ju,Region.binds]at hp
      repeat(obtain⟨d1,hp⟩:=hp;subst d1)
      try subst hp
      simp only[Ic,List.getD_cons_succ,List.getD_cons_zero,cond_true,cond_false]
      repeat'(first
        |exact bV _ rfl
        |(refine ct ?_)
        |(refine dC ?_)
        |(refine af.intro hW ?_)
        |simp only[go_sem]))
    rintro _ rfl;simp only[Ic,List.replicate,List.getD_cons_succ,List.getD_cons_zero,cond_true];simp only[go_sem];simp[hf d1]
   |true=>
    rw[ha]at hW
    cases i with
    |zero=>
     have h2:decide ((0:Int)<((0:Nat):Int))=false:=by decide
     simp only[go_sem,I,au,aB,aI.enc,aJ];refine⟨⟨by omega,by omega⟩,?_⟩;refine j6 _ (lf (fun S σ=>σ=Ie l n 0 0 p p (!p.frames.all eQ) S) (N:=26) rfl rfl rfl ?_) ?_
     ·repeat'(first|exact lg|refine lh ?_ ?_)
      all_goals(
       rintro S σ F hl aQ hp hcl rfl bV;obtain⟨iW,c9,dc,cB,de,j7,kN,kO,lj,tt,yv,EC,ED,EE,Ii,Ij,Ik,Il,Im,Io,Ip,Iq,Ir,Is,It,Iu,rfl⟩:=Ez hl;simp only[List.getElem?_cons_succ,List.getElem?_cons_zero,Option.some.injEq]at aQ;subst aQ;simp[ju,Region.binds]at hp
       repeat(obtain⟨d1,hp⟩:=hp;subst d1)
       try subst hp
       simp only[Ie,List.getD_cons_succ,List.getD_cons_zero,cond_true,cond_false]
       repeat'(first
         |exact bV _ rfl
         |(refine ct ?_)
         |(refine dC ?_)
         |(refine af.intro hW ?_)
         |(refine af.inl (Ns p.frames wU p.number _ (by simp[bf,vok,EF]) _ ?_))
         |simp only[go_sem,h2]))
     rintro _ rfl;simp only[Ie,List.replicate,List.getD_cons_succ,List.getD_cons_zero,cond_true]
     cases hw:p.frames.all eQ with
     |false=>
      have d1:i' n l 0=false:=by rw[kM rfl];unfold uk;rw[ha,hw];rfl
      simp only[go_sem,Bool.not_false];simp[hf d1]
     |true=>
      have d1:i' n l 0=true:=by rw[kM rfl];unfold uk;rw[ha,hw];rfl
      simp only[go_sem,Bool.not_true,Nq];refine bu.intro 1 [] ⟨by omega,by rw[hs,he,d1];rfl⟩ (by omega) ?_;simp only[go_sem];try simp
    |succ j=>
     have fQ:=b4 aI.enc l j (by omega);have h2:decide ((0:Int)<((j+1:Nat):Int))=true:=bk (by omega);have hp:IntKind.i64.wrap (((j+1:Nat):Int)-1)=(j:Int):=by rw[bE]<;>omega
     have hb:=Nr j rfl (by omega);generalize l[j]=q at *
     cases hc:decide (q.number<p.number)with
     |false=>
      have hd:decide (p.number≤q.number)=true:=by simp at hc⊢;omega
      have fY:decide (q.number≥p.number)=true:=hd;have d1:i' n l (j+1)=false:=by rw[hb,hc];simp
      simp only[go_sem,I,au,aB,aI.enc,aJ];refine⟨⟨by omega,by omega⟩,?_⟩;refine j6 _ (lf (fun S σ=>σ=Ig l n (j+1) j p q false S) (N:=26) rfl rfl rfl ?_) ?_
      ·repeat'(first|exact lg|refine lh ?_ ?_)
       all_goals(
        rintro S σ F hl aQ hp hcl rfl bV;obtain⟨iW,c9,dc,cB,de,j7,kN,kO,lj,tt,yv,EC,ED,EE,Ii,Ij,Ik,Il,Im,Io,Ip,Iq,Ir,Is,It,Iu,rfl⟩:=Ez hl;simp only[List.getElem?_cons_succ,List.getElem?_cons_zero,Option.some.injEq]at aQ;subst aQ;simp[ju,Region.binds]at hp
        repeat(obtain⟨d1,hp⟩:=hp;subst d1)
        try subst hp
        simp only[Ig,List.getD_cons_succ,List.getD_cons_zero,cond_true,cond_false]
        repeat'(first
          |exact bV _ rfl
          |(refine ct ?_)
          |(refine dC ?_)
          |(refine af.intro hW ?_)
          |(refine⟨⟨by omega,by omega⟩,?_⟩)
          |simp only[go_sem,I,Bool.not_true,h2,hp,fQ,aI.enc,aJ,hd]))
      rintro _ rfl;simp only[Ig,List.replicate,List.getD_cons_succ,List.getD_cons_zero,cond_true];simp only[go_sem];simp[hf d1]
     |true=>
      have hd:decide (p.number≤q.number)=false:=by simp at hc⊢;omega
      have fY:decide (q.number≥p.number)=false:=hd;simp only[go_sem,I,au,aB,aI.enc,aJ];refine⟨⟨by omega,by omega⟩,?_⟩;refine j6 _ (lf (fun S σ=>σ=Ih l n (j+1) j p q (!p.frames.all eQ) S) (N:=26) rfl rfl rfl ?_) ?_
      ·repeat'(first|exact lg|refine lh ?_ ?_)
       all_goals(
        rintro S σ F hl aQ hp hcl rfl bV;obtain⟨iW,c9,dc,cB,de,j7,kN,kO,lj,tt,yv,EC,ED,EE,Ii,Ij,Ik,Il,Im,Io,Ip,Iq,Ir,Is,It,Iu,rfl⟩:=Ez hl;simp only[List.getElem?_cons_succ,List.getElem?_cons_zero,Option.some.injEq]at aQ;subst aQ;simp[ju,Region.binds]at hp
        repeat(obtain⟨d1,hp⟩:=hp;subst d1)
        try subst hp
        simp only[Ih,List.getD_cons_succ,List.getD_cons_zero,cond_true,cond_false]
        repeat'(first
          |exact bV _ rfl
          |(refine ct ?_)
          |(refine dC ?_)
          |(refine af.intro hW ?_)
          |(refine⟨⟨by omega,by omega⟩,?_⟩)
          |(refine af.inl (Ns p.frames wU p.number _ (by simp[bf,vok,EF]) _ ?_))
          |simp only[go_sem,I,h2,hp,fQ,aI.enc,aJ,hd]))
      rintro _ rfl;simp only[Ih,List.replicate,List.getD_cons_succ,List.getD_cons_zero,cond_true]
      cases hw:p.frames.all eQ with
      |false=>
       have d1:i' n l (j+1)=false:=by rw[hb];unfold uk;rw[ha,hw];rfl
       simp only[go_sem,Bool.not_false];simp[hf d1]
      |true=>
       have d1:i' n l (j+1)=true:=by rw[hb];unfold uk;rw[ha,hw,hc];rfl
       simp only[go_sem,Bool.not_true,Nq];refine bu.intro (j+1+1) [] ⟨by omega,by rw[hs,he,d1];rfl⟩ (by omega) ?_;simp only[go_sem];try simp
  ·have au:decide ((i:Int)<(l.length:Int))=false:=bb (by omega);obtain rfl:i=l.length:=by omega
   have gU:wV n l=true:=he;simp only[go_sem,au];simp[gU]
set_option maxRecDepth 100000
set_option maxHeartbeats 2000000 in
theorem aa0(l:List ae)(hz:∀x∈l,eb x):PureCall Tryz.prog 54 [.one (.sl 39 (l.map ae.enc))] [.one (.int .i64 (kt gi kU l))]:=by
 refine aP 5 Tryz.func54 Tryz.call54 [.tmp 2] ?_;intro ok;have hm:=fZ ok;clear ok;simp only[go_sem];refine af.inl (el (n:=25) (rs:=[.tmp 4]) Tryz.func93 rfl Tryz.call93 Tryz.checked.mixed rfl rfl ?_);simp only[go_sem]
 cases hA:gu gi l with
 |false=>
  have ah:=HZ (f:=kU) hA
  try simp only[go_sem,I,hA]
  repeat'(refine af.intro (by(apply DK<;>first|assumption|omega)) ?_<;>simp only[go_sem,hA])
  all_goals simp[ah]
 |true=>
  have ah:=Bt (f:=kU) hA
  try simp only[go_sem,I,hA]
  repeat'(refine af.intro (by(apply DK<;>first|assumption|omega)) ?_<;>simp only[go_sem,I,hA])
  refine b9.intro (fun i:Nat=>⟨(.ab::.fn 94 []::aF 3 (.d (.int .i64 ((l.take i).foldl (l1 kU) 0))::aF 5 (.d (.sl 39 (l.map ae.enc))::.d (.int .i64 l.length)::.d (.int .i64 i)::aF 11 []))),[]⟩)
   (fun i=>l.length-i) (fun i=>i≤l.length) 0 [] (by omega) ?_ ?_
  ·simp only[go_sem];simp
  ·intro i hi;by_cases h1:i<l.length
   ·have au:decide ((i:Int)<(l.length:Int))=true:=bk (by omega);have aB:=b4 ae.enc l i h1;have hw:=dE h1 hm;have hs:=HY kU l i h1;simp only[go_sem,I,aJ,aB,ae.enc,au];refine⟨⟨by omega,by omega⟩,?_⟩;refine af.inl (el (n:=6) (rs:=[.tmp 2]) Tryz.func94 rfl Tryz.call94 Tryz.checked.mixed rfl rfl ?_);simp only[go_sem];refine bu.intro (i+1) [] (by omega) (by omega) ?_;simp only[go_sem,hw,hs];simp[l1,kU];try exact HX _ _
   ·have au:decide ((i:Int)<(l.length:Int))=false:=bb (by omega);obtain rfl:i=l.length:=by omega
    simp only[go_sem,au,dK];simp[ah]
set_option maxHeartbeats 2000000 in
theorem aa1(l:List ae)(hz:∀x∈l,eb x):PureCall Tryz.prog 55 [.one (.sl 39 (l.map ae.enc))] [.one (.int .i64 (kt gi kV l))]:=by
 refine aP 5 Tryz.func55 Tryz.call55 [.tmp 2] ?_;intro ok;have hm:=fZ ok;clear ok;simp only[go_sem];refine af.inl (el (n:=25) (rs:=[.tmp 4]) Tryz.func93 rfl Tryz.call93 Tryz.checked.mixed rfl rfl ?_);simp only[go_sem]
 cases hA:gu gi l with
 |false=>
  have ah:=HZ (f:=kV) hA
  try simp only[go_sem,I,hA]
  repeat'(refine af.intro (by(apply DK<;>first|assumption|omega)) ?_<;>simp only[go_sem,hA])
  all_goals simp[ah]
 |true=>
  have ah:=Bt (f:=kV) hA
  try simp only[go_sem,I,hA]
  repeat'(refine af.intro (by(apply DK<;>first|assumption|omega)) ?_<;>simp only[go_sem,I,hA])
  refine b9.intro (fun i:Nat=>⟨(.ab::.fn 95 []::aF 3 (.d (.int .i64 ((l.take i).foldl (l1 kV) 0))::aF 5 (.d (.sl 39 (l.map ae.enc))::.d (.int .i64 l.length)::.d (.int .i64 i)::aF 11 []))),[]⟩)
   (fun i=>l.length-i) (fun i=>i≤l.length) 0 [] (by omega) ?_ ?_
  ·simp only[go_sem];simp
  ·intro i hi;by_cases h1:i<l.length
   ·have au:decide ((i:Int)<(l.length:Int))=true:=bk (by omega);have aB:=b4 ae.enc l i h1;have hw:=dE h1 hm;have hs:=HY kV l i h1;simp only[go_sem,I,aJ,aB,ae.enc,au];refine⟨⟨by omega,by omega⟩,?_⟩;refine af.inl (el (n:=6) (rs:=[.tmp 2]) Tryz.func95 rfl Tryz.call95 Tryz.checked.mixed rfl rfl ?_);simp only[go_sem];refine bu.intro (i+1) [] (by omega) (by omega) ?_;simp only[go_sem,hw,hs];simp[l1,kV];try exact HX _ _
   ·have au:decide ((i:Int)<(l.length:Int))=false:=bb (by omega);obtain rfl:i=l.length:=by omega
    simp only[go_sem,au,dK];simp[ah]
end Gv

namespace Gv
open Go Go.Proofs
end Gv

namespace Gv
open Go Go.Proofs
end Gv

namespace Gv
open Go Go.Proofs
set_option maxRecDepth 100000
def Sq:List (List bt):=cE 24 [282429536444,282429536442,282429536476,282429536458,282429536400,282429536238,282429279873,282429278415,282429274041,282429526275,282429486909,282429368811,282429005040,282427942158,282424753512,277378721217,277350023403,277263929961,282228651783,281453810805,279129287871,271969183278,251048476872,188286357654]
attribute [go_sem] Sq
def DH(c:J):Bool:=gO c.own&&gO c.dr&&gu gi c.streams&&lz c.c0&&fl c.bO
def DI(c:J):Bool:=ku c.eT&&ku c.eS&&gN c.dA&&gN c.dz
def DJ(c:J):Bool:=bz c.eZ (-1) 4611686018427387903&&bz c.number 0 1000000&&bz c.hO 0 1000000&&bz c.closed 0 255
def LN(c:J):Bool:=wV c.number c.packets&&decide (kt gi kU c.streams≤c.c0.used)&&decide (kt gi kV c.streams≤c.bO.seen)
theorem aaT(c:J):(bif bif bif bif !gO c.own then true else !gO c.dr then true else !gu gi c.streams then true else !lz c.c0 then true else !fl c.bO)=!DH c:=by
 unfold DH;cases gO c.own<;>cases gO c.dr<;>cases gu gi c.streams<;>cases lz c.c0<;>cases fl c.bO<;>rfl
theorem aaU(c:J):(bif bif bif !ku c.eT then true else !ku c.eS then true else !gN c.dA then true else !gN c.dz)=!DI c:=by
 unfold DI;cases ku c.eT<;>cases ku c.eS<;>cases gN c.dA<;>cases gN c.dz<;>rfl
theorem aaV(c:J):(bif bif bif !bz c.eZ (-1) 4611686018427387903 then true else !bz c.number 0 1000000 then true else !bz c.hO 0 1000000 then true else !bz c.closed 0 255)=!DJ c:=by
 unfold DJ;cases bz c.eZ (-1) 4611686018427387903<;>cases bz c.number 0 1000000<;>cases bz c.hO 0 1000000<;>cases bz c.closed 0 255<;>rfl
theorem aaW(c:J):tD c=(DH c&&DI c&&DJ c&&LN c):=by
 unfold tD l2 sM yH DH DI DJ LN
 ac_rfl
set_option maxHeartbeats 8000000 in
theorem Sr(c:J)(hz:iH c):PureCall Tryz.prog 14 [.agg (J.enc c)] [.one (.bool (tD c))]:=by
 refine aP 101 Tryz.func14 Tryz.call14 [.tmp 2] ?_;intro ok;clear ok;have aaX:=aaT c;have aaY:=aaU c;have aaZ:=aaV c;obtain⟨tA,mD,vL,B3⟩:=hz;rw[aaW c]
 try simp only[go_sem]
 repeat'((first|refine af.intro (by apply Ss) ?_|refine ar.intro (by first|apply Ss|(apply DK<;>first|assumption|omega)|apply Su|apply LO) ?_|refine a8 ?_)<;>simp only[go_sem])
 rw[aaX]
 cases hA:DH c with
 |false=>simp only[go_sem,Bool.not_false,Bool.false_and]
 |true=>
 simp only[Bool.not_true]
 try simp only[go_sem]
 repeat'((first|refine af.intro (by apply Sv) ?_|refine ar.intro (by first|apply Sv|apply Sw) ?_|refine a8 ?_)<;>simp only[go_sem])
 rw[aaY]
 cases hB:DI c with
 |false=>simp only[go_sem,Bool.not_false,Bool.false_and,Bool.and_false]
 |true=>
 simp only[Bool.not_true]
 try simp only[go_sem]
 repeat'((first|refine af.intro (by apply jM) ?_|refine ar.intro (by apply jM) ?_|refine a8 ?_)<;>simp only[go_sem])
 rw[aaZ]
 cases a0:DJ c with
 |false=>simp only[go_sem,Bool.not_false,Bool.false_and,Bool.and_false]
 |true=>
 simp only[Bool.not_true]
 try simp only[go_sem]
 repeat'((first|refine ar.intro (by first|(apply U2<;>first|assumption|omega)|(apply aa0<;>first|assumption|omega)|(apply aa1<;>first|assumption|omega)) ?_|refine en ?_|refine a9 Sq (by kernel_rfl) (by rfl) ?_)<;>simp only[go_sem])
 refine ec ?_;unfold LN;simp only[b7]
end Gv
