/-
  Part of the proof: the machine, what functions compute, and the plain laws.
-/
import Derived.Test.YtadnpafpbheedaaGreatM03
set_option maxHeartbeats 80000000
set_option maxRecDepth 100000
namespace Gv
open Go Go.Proofs Tryz IntKind
theorem Io{S:List Bool}(h:S.length=26):∃e8 cB cJ ct eA fb fs fT gK g2 iF nm nn np nq nr pq v_ v' Bs Bt L3 L4 L5 L6 L7,S=[e8,cB,cJ,ct,eA,fb,fs,fT,gK,g2,iF,nm,nn,np,nq,nr,pq,v_,v',Bs,Bt,L3,L4,L5,L6,L7]:=by
 match S,h with|[e8,cB,cJ,ct,eA,fb,fs,fT,gK,g2,iF,nm,nn,np,nq,nr,pq,v_,v',Bs,Bt,L3,L4,L5,L6,L7],_=>exact⟨e8,cB,cJ,ct,eA,fb,fs,fT,gK,g2,iF,nm,nn,np,nq,nr,pq,v_,v',Bs,Bt,L3,L4,L5,L6,L7,rfl⟩
def L8(l:List aT)(n:Int)(i _:Nat)(p _:aT)(_:Bool)(S:List Bool):St:=⟨[.d (.sl 2 (l.map aT.enc)),.i n,.al,.al,.d (.bool false),.i i,.ptr 0 0 0,.d (.sl 2 (l.map aT.enc)),.i l.length,.i i,.d (.bool true),.i i,.gj [.int .i64 p.bO,.sl 9 (p.c0.map aq.enc)] 0,.agg [.i p.bO,.d (.sl 9 (p.c0.map aq.enc))],(aw S 0 (.ptr 0 0 0)),(aw S 1 (.i p.bO)),(aw S 2 (.i n)),(aw S 3 (.i (i64.wrap (n-1)))),(aw S 4 (.d (.bool false))),(aw S 5 (.d (.bool true))),(aw S 6 (.d (.bool true))),(aw S 7 (.bU false (.d (.bool false)))),(aw S 8 (.bU false (.d (.bool false)))),(aw S 9 (.bU false (.d (.bool false)))),(aw S 10 (.bU false (.d (.bool false)))),(aw S 11 (.bU false (.d (.bool false)))),(aw S 12 (.bU false (.d (.bool false)))),(aw S 13 (.bU false (.d (.bool false)))),(aw S 14 (.bU false (.d (.bool false)))),(aw S 15 (.bU false (.d (.bool false)))),(aw S 16 (.bU false (.d (.bool false)))),(aw S 17 (.bU false (.d (.bool false)))),(aw S 18 (.bU false (.d (.bool false)))),(aw S 19 (.bU false (.d (.bool false)))),(aw S 20 (.d (.bool true))),(aw S 21 (.d (.bool true))),(aw S 22 (.bU false (.d (.bool false)))),(aw S 23 (.bU false (.d (.bool false)))),(aw S 24 (.bU false (.d (.bool false)))),(aw S 25 (.d (.bool true))),.al],[.box [.i p.bO,.d (.sl 9 (p.c0.map aq.enc))]]⟩
def L9(l:List aT)(n:Int)(i _:Nat)(p _:aT)(w:Bool)(S:List Bool):St:=⟨[.d (.sl 2 (l.map aT.enc)),.i n,.al,.al,.d (.bool false),.i i,.ptr 0 0 0,.d (.sl 2 (l.map aT.enc)),.i l.length,.i i,.d (.bool true),.i i,.gj [.int .i64 p.bO,.sl 9 (p.c0.map aq.enc)] 0,.agg [.i p.bO,.d (.sl 9 (p.c0.map aq.enc))],(aw S 0 (.ptr 0 0 0)),(aw S 1 (.i p.bO)),(aw S 2 (.i n)),(aw S 3 (.i (i64.wrap (n-1)))),(aw S 4 (.d (.bool true))),(aw S 5 (.d (.bool false))),(aw S 6 (.d (.bool false))),(aw S 7 (.i i)),(aw S 8 (.d (.bool false))),(aw S 9 (.d (.bool false))),(aw S 10 (.bU false (.d (.bool false)))),(aw S 11 (.bU false (.d (.bool false)))),(aw S 12 (.bU false (.d (.bool false)))),(aw S 13 (.bU false (.d (.bool false)))),(aw S 14 (.bU false (.d (.bool false)))),(aw S 15 (.bU false (.d (.bool false)))),(aw S 16 (.bU false (.d (.bool false)))),(aw S 17 (.bU false (.d (.bool false)))),(aw S 18 (.bU false (.d (.bool false)))),(aw S 19 (.d (.bool false))),(aw S 20 (.d (.bool false))),(aw S 21 (.d (.bool false))),(aw S 22 (.ptr 0 0 1)),(aw S 23 (.d (.sl 9 (p.c0.map aq.enc)))),(aw S 24 (.d (.bool w))),(aw S 25 (.d (.bool w))),.al],[.box [.i p.bO,.d (.sl 9 (p.c0.map aq.enc))]]⟩
def L_(l:List aT)(n:Int)(i j:Nat)(p q:aT)(_:Bool)(S:List Bool):St:=⟨[.d (.sl 2 (l.map aT.enc)),.i n,.al,.al,.d (.bool false),.i i,.ptr 0 0 0,.d (.sl 2 (l.map aT.enc)),.i l.length,.i i,.d (.bool true),.i i,.gj [.int .i64 p.bO,.sl 9 (p.c0.map aq.enc)] 0,.agg [.i p.bO,.d (.sl 9 (p.c0.map aq.enc))],(aw S 0 (.ptr 0 0 0)),(aw S 1 (.i p.bO)),(aw S 2 (.i n)),(aw S 3 (.i (i64.wrap (n-1)))),(aw S 4 (.d (.bool true))),(aw S 5 (.d (.bool false))),(aw S 6 (.d (.bool false))),(aw S 7 (.i i)),(aw S 8 (.d (.bool true))),(aw S 9 (.d (.bool true))),(aw S 10 (.d (.sl 2 (l.map aT.enc)))),(aw S 11 (.i i)),(aw S 12 (.i j)),(aw S 13 (.gj [.int .i64 q.bO,.sl 9 (q.c0.map aq.enc)] 0)),(aw S 14 (.gj [.int .i64 q.bO,.sl 9 (q.c0.map aq.enc)] 0)),(aw S 15 (.i q.bO)),(aw S 16 (.ptr 0 0 0)),(aw S 17 (.i p.bO)),(aw S 18 (.d (.bool true))),(aw S 19 (.d (.bool true))),(aw S 20 (.d (.bool true))),(aw S 21 (.d (.bool true))),(aw S 22 (.bU false (.d (.bool false)))),(aw S 23 (.bU false (.d (.bool false)))),(aw S 24 (.bU false (.d (.bool false)))),(aw S 25 (.d (.bool true))),.al],[.box [.i p.bO,.d (.sl 9 (p.c0.map aq.enc))]]⟩
def L'(l:List aT)(n:Int)(i j:Nat)(p q:aT)(w:Bool)(S:List Bool):St:=⟨[.d (.sl 2 (l.map aT.enc)),.i n,.al,.al,.d (.bool false),.i i,.ptr 0 0 0,.d (.sl 2 (l.map aT.enc)),.i l.length,.i i,.d (.bool true),.i i,.gj [.int .i64 p.bO,.sl 9 (p.c0.map aq.enc)] 0,.agg [.i p.bO,.d (.sl 9 (p.c0.map aq.enc))],(aw S 0 (.ptr 0 0 0)),(aw S 1 (.i p.bO)),(aw S 2 (.i n)),(aw S 3 (.i (i64.wrap (n-1)))),(aw S 4 (.d (.bool true))),(aw S 5 (.d (.bool false))),(aw S 6 (.d (.bool false))),(aw S 7 (.i i)),(aw S 8 (.d (.bool true))),(aw S 9 (.d (.bool true))),(aw S 10 (.d (.sl 2 (l.map aT.enc)))),(aw S 11 (.i i)),(aw S 12 (.i j)),(aw S 13 (.gj [.int .i64 q.bO,.sl 9 (q.c0.map aq.enc)] 0)),(aw S 14 (.gj [.int .i64 q.bO,.sl 9 (q.c0.map aq.enc)] 0)),(aw S 15 (.i q.bO)),(aw S 16 (.ptr 0 0 0)),(aw S 17 (.i p.bO)),(aw S 18 (.d (.bool false))),(aw S 19 (.d (.bool false))),(aw S 20 (.d (.bool false))),(aw S 21 (.d (.bool false))),(aw S 22 (.ptr 0 0 1)),(aw S 23 (.d (.sl 9 (p.c0.map aq.enc)))),(aw S 24 (.d (.bool w))),(aw S 25 (.d (.bool w))),.al],[.box [.i p.bO,.d (.sl 9 (p.c0.map aq.enc))]]⟩
theorem aaD(l:List aT)(n:Int)(hz:∀p∈l,Ip p)(hl:l.length≤30):aL 58 [.one (.sl 2 (l.map aT.enc)),.one (.int .i64 n)] [.one (.bool (wa n l))]:=by
 refine a3 41 func58 call58 [.tmp 4] ?_;intro ok;clear ok;simp only[go_sem,I];refine cr.intro (fun i:Nat=>⟨(.d (.sl 2 (l.map aT.enc))::.i n::.al::.al::.d (.bool false)::.al::.al::.d (.sl 2 (l.map aT.enc))::.i l.length::.i i::aA 31 []),[]⟩)
   (fun i=>l.length-i) (fun i=>i≤l.length∧k6 (lz n l) i=true) 0 [] ⟨by omega,by simp[k6]⟩ ?_ ?_
 ·simp only[go_sem];simp
 ·rintro i ⟨hi,he⟩;by_cases h1:i<l.length
  ·have ax:=bC (p:=(i:Int)<(l.length:Int)) ω;have aB:=cq aT.enc l i h1;have zO:=(hz _ (eS h1)).1;have hs:=C_ (lz n l) i;have hf:lz n l i=false→wa n l=false:=fun h=>EX (lz n l) h1 h;have RT:i64.wrap ((i:Int)+1)=((i+1:Nat):Int):=by rw[bA]<;>omega
   have lO:∀h:i=0,lz n l i=qS n l[i]:=by
    intro h;subst h;exact zQ _ _ _ h1
   have RU:∀(j:Nat) (h:i=j+1) (aK:j<l.length),lz n l i=(qS n l[i]&&decide (l[j].bO<l[i].bO)):=by
    intro j h aK;subst h;exact yC _ _ _ _ h1
   have lP:∀h:qS n l[i]=false,lz n l i=false:=by
    intro h;cases i with
    |zero=>rw[lO rfl,h]
    |succ j=>rw[RU j rfl ω,h];rfl
   generalize l[i]=p at *;have hW:=jt p.bO 0 (i64.wrap (n-1))
   cases ha:ca p.bO 0 (i64.wrap (n-1))with
   |false=>
    rw[ha]at hW;have eu:lz n l i=false:=lP (by unfold qS;rw[ha];rfl);simp only[go_sem,I,ax,aB,aT.enc,aE];refine⟨⟨by omega,by omega⟩,?_⟩;refine gC _ (ia (fun S σ=>σ=L8 l n i 0 p p false S) (N:=26) rfl rfl rfl ?_) ?_
    ·repeat'(first|exact jW|refine jX ?_ ?_)
     all_goals(
      rintro S σ F hl a1 hp hcl rfl bB;obtain⟨ib,dW,ek,dt,eF,jE,kb,kc,ks,ns,pr,yD,yE,yF,yG,yH,zR,Bu,Bv,Iq,Ir,Ma,Mb,Mc,Md,Me,rfl⟩:=Io hl;simp only[fm,eW,b4]at a1;subst a1;simp[ix,Region.binds]at hp
      repeat(obtain⟨eu,hp⟩:=hp;subst eu)
      try subst hp
      simp only[L8,aw,e3,e0,c_,dK]
      repeat'(first
        |exact bB _ rfl
        |(refine cN ?_)
        |(refine eB ?_)
        |(refine ae.intro hW ?_)
        |simp only[go_sem]))
    rintro _ rfl;simp only[L8,List.replicate,aw,e3,e0,c_];simp only[go_sem];simp[hf eu]
   |true=>
    rw[ha]at hW
    cases i with
    |zero=>
     have h2:decide ((0:Int)<((0:Nat):Int))=false:=by decide
     simp only[go_sem,I,ax,aB,aT.enc,aE];refine⟨⟨by omega,by omega⟩,?_⟩;refine gC _ (ia (fun S σ=>σ=L9 l n 0 0 p p (!p.c0.all d_) S) (N:=26) rfl rfl rfl ?_) ?_
     ·repeat'(first|exact jW|refine jX ?_ ?_)
      all_goals(
       rintro S σ F hl a1 hp hcl rfl bB;obtain⟨ib,dW,ek,dt,eF,jE,kb,kc,ks,ns,pr,yD,yE,yF,yG,yH,zR,Bu,Bv,Iq,Ir,Ma,Mb,Mc,Md,Me,rfl⟩:=Io hl;simp only[fm,eW,b4]at a1;subst a1;simp[ix,Region.binds]at hp
       repeat(obtain⟨eu,hp⟩:=hp;subst eu)
       try subst hp
       simp only[L9,aw,e3,e0,c_,dK]
       repeat'(first
         |exact bB _ rfl
         |(refine cN ?_)
         |(refine eB ?_)
         |(refine ae.intro hW ?_)
         |(refine ae.inl (RV p.c0 zO p.bO _ (by simp[bk,vok,C']) _ ?_))
         |simp only[go_sem,h2]))
     rintro _ rfl;simp only[L9,List.replicate,aw,e3,e0,c_]
     cases hw:p.c0.all d_ with
     |false=>
      have eu:lz n l 0=false:=by rw[lO rfl];unfold qS;rw[ha,hw];rfl
      simp only[go_sem,cR];simp[hf eu]
     |true=>
      have eu:lz n l 0=true:=by rw[lO rfl];unfold qS;rw[ha,hw];rfl
      simp only[go_sem,bN,RT];refine bE.intro 1 [] ⟨by omega,by rw[hs,he,eu];rfl⟩ ω ?_;simp only[go_sem];try simp
    |succ j=>
     have g3:=cq aT.enc l j ω;have h2:=bC (p:=(0:Int)<((j+1:Nat):Int)) ω;have hp:i64.wrap (((j+1:Nat):Int)-1)=(j:Int):=by rw[bA]<;>omega
     have hb:=RU j rfl ω;generalize l[j]=q at *
     cases hc:decide (q.bO<p.bO)with
     |false=>
      have hd:decide (p.bO≤q.bO)=true:=by simp at hc⊢;omega
      have jY:decide (q.bO≥p.bO)=true:=hd;have eu:lz n l (j+1)=false:=by rw[hb,hc];simp
      simp only[go_sem,I,ax,aB,aT.enc,aE];refine⟨⟨by omega,by omega⟩,?_⟩;refine gC _ (ia (fun S σ=>σ=L_ l n (j+1) j p q false S) (N:=26) rfl rfl rfl ?_) ?_
      ·repeat'(first|exact jW|refine jX ?_ ?_)
       all_goals(
        rintro S σ F hl a1 hp hcl rfl bB;obtain⟨ib,dW,ek,dt,eF,jE,kb,kc,ks,ns,pr,yD,yE,yF,yG,yH,zR,Bu,Bv,Iq,Ir,Ma,Mb,Mc,Md,Me,rfl⟩:=Io hl;simp only[fm,eW,b4]at a1;subst a1;simp[ix,Region.binds]at hp
        repeat(obtain⟨eu,hp⟩:=hp;subst eu)
        try subst hp
        simp only[L_,aw,e3,e0,c_,dK]
        repeat'(first
          |exact bB _ rfl
          |(refine cN ?_)
          |(refine eB ?_)
          |(refine ae.intro hW ?_)
          |(refine⟨⟨by omega,by omega⟩,?_⟩)
          |simp only[go_sem,I,bN,h2,hp,g3,aT.enc,aE,hd]))
      rintro _ rfl;simp only[L_,List.replicate,aw,e3,e0,c_];simp only[go_sem];simp[hf eu]
     |true=>
      have hd:decide (p.bO≤q.bO)=false:=by simp at hc⊢;omega
      have jY:decide (q.bO≥p.bO)=false:=hd;simp only[go_sem,I,ax,aB,aT.enc,aE];refine⟨⟨by omega,by omega⟩,?_⟩;refine gC _ (ia (fun S σ=>σ=L' l n (j+1) j p q (!p.c0.all d_) S) (N:=26) rfl rfl rfl ?_) ?_
      ·repeat'(first|exact jW|refine jX ?_ ?_)
       all_goals(
        rintro S σ F hl a1 hp hcl rfl bB;obtain⟨ib,dW,ek,dt,eF,jE,kb,kc,ks,ns,pr,yD,yE,yF,yG,yH,zR,Bu,Bv,Iq,Ir,Ma,Mb,Mc,Md,Me,rfl⟩:=Io hl;simp only[fm,eW,b4]at a1;subst a1;simp[ix,Region.binds]at hp
        repeat(obtain⟨eu,hp⟩:=hp;subst eu)
        try subst hp
        simp only[L',aw,e3,e0,c_,dK]
        repeat'(first
          |exact bB _ rfl
          |(refine cN ?_)
          |(refine eB ?_)
          |(refine ae.intro hW ?_)
          |(refine⟨⟨by omega,by omega⟩,?_⟩)
          |(refine ae.inl (RV p.c0 zO p.bO _ (by simp[bk,vok,C']) _ ?_))
          |simp only[go_sem,I,h2,hp,g3,aT.enc,aE,hd]))
      rintro _ rfl;simp only[L',List.replicate,aw,e3,e0,c_]
      cases hw:p.c0.all d_ with
      |false=>
       have eu:lz n l (j+1)=false:=by rw[hb];unfold qS;rw[ha,hw];rfl
       simp only[go_sem,cR];simp[hf eu]
      |true=>
       have eu:lz n l (j+1)=true:=by rw[hb];unfold qS;rw[ha,hw,hc];rfl
       simp only[go_sem,bN,RT];refine bE.intro (j+1+1) [] ⟨by omega,by rw[hs,he,eu];rfl⟩ ω ?_;simp only[go_sem];try simp
  ·have ax:=bm (p:=(i:Int)<(l.length:Int)) ω;obtain rfl:i=l.length:=by omega
   have gB:wa n l=true:=he;simp only[go_sem,ax];simp[gB]
def Xt:List (List bR):=cS 24 [282429536444,282429536442,282429536476,282429536458,282429536400,282429536238,282429279873,282429278415,282429274041,282429526275,282429486909,282429368811,282429005040,282427942158,282424753512,277378721217,277350023403,277263929961,282228651783,281453810805,279129287871,271969183278,251048476872,188286357654]
attribute [go_sem] Xt
def Ho(c:aa):Bool:=jg c.own&&jg c.da&&j0 iI c.ab&&ju c.cm&&k9 c.dq
def Hp(c:aa):Bool:=kx c.fe&&kx c.fc&&jJ c.eo&&jJ c.en
def Hq(c:aa):Bool:=ca c.dE (-1) 4611686018427387903&&ca c.bO 0 1000000&&ca c.ef 0 1000000&&ca c.d9 0 255
def PE(c:aa):Bool:=wa c.bO c.an&&decide (nE iI jf c.ab≤c.cm.eg)&&decide (nE iI ku c.ab≤c.dq.seen)
theorem ahv(c:aa):(bif bif bif bif !jg c.own then true else !jg c.da then true else !j0 iI c.ab then true else !ju c.cm then true else !k9 c.dq)=!Ho c:=by
 unfold Ho;cases jg c.own<;>cases jg c.da<;>cases j0 iI c.ab<;>cases ju c.cm<;>cases k9 c.dq<;>rfl
theorem ahw(c:aa):(bif bif bif !kx c.fe then true else !kx c.fc then true else !jJ c.eo then true else !jJ c.en)=!Hp c:=by
 unfold Hp;cases kx c.fe<;>cases kx c.fc<;>cases jJ c.eo<;>cases jJ c.en<;>rfl
theorem ahx(c:aa):(bif bif bif !ca c.dE (-1) 4611686018427387903 then true else !ca c.bO 0 1000000 then true else !ca c.ef 0 1000000 then true else !ca c.d9 0 255)=!Hq c:=by
 unfold Hq;cases ca c.dE (-1) 4611686018427387903<;>cases ca c.bO 0 1000000<;>cases ca c.ef 0 1000000<;>cases ca c.d9 0 255<;>rfl
theorem ahy(c:aa):BL c=(Ho c&&Hp c&&Hq c&&PE c):=by
 unfold BL z6 yR BK Ho Hp Hq PE
 ac_rfl
theorem Hr(c:aa)(hz:jC c):aL 12 [.agg (aa.enc c)] [.one (.bool (BL c))]:=by
 refine a3 101 func12 call12 [.tmp 2] ?_;intro ok;clear ok;have ahz:=ahv c;have ahA:=ahw c;have ahB:=ahx c;obtain⟨qY,nC,yQ,Dh⟩:=hz;rw[ahy c]
 try simp only[go_sem]
 repeat'((first|refine ae.intro (by apply Xu) ?_|refine ay.intro (by first|apply Xu|(apply Hs<;>exact a6)|apply yc|apply PF) ?_|refine bw ?_)<;>simp only[go_sem])
 rw[ahz]
 cases hA:Ho c with
 |false=>simp only[go_sem,cR,Bool.false_and]
 |true=>
 simp only[bN]
 try simp only[go_sem]
 repeat'((first|refine ae.intro (by apply Xv) ?_|refine ay.intro (by first|apply Xv|apply Xw) ?_|refine bw ?_)<;>simp only[go_sem])
 rw[ahA]
 cases hB:Hp c with
 |false=>simp only[go_sem,cR,Bool.false_and,Bool.and_false]
 |true=>
 simp only[bN]
 try simp only[go_sem]
 repeat'((first|refine ae.intro (by apply jt) ?_|refine ay.intro (by apply jt) ?_|refine bw ?_)<;>simp only[go_sem])
 rw[ahB]
 cases bq:Hq c with
 |false=>simp only[go_sem,cR,Bool.false_and,Bool.and_false]
 |true=>
 simp only[bN]
 try simp only[go_sem]
 repeat'((first|refine ay.intro (by first|(apply aaD<;>exact a6)|(apply ahC<;>exact a6)|(apply ahD<;>exact a6)) ?_|refine f' ?_|refine bo Xt χ ψ ?_)<;>simp only[go_sem])
 refine gd ?_;unfold PE;simp only[di]
theorem Jf(l:List af)(id:Int):aL 63 [.one (.sl 39 (l.map af.enc)),.one (.int .i64 id)] [.one (.int .i64 (iH (fp id) l))]:=by
 refine a3 8 func63 call63 [.tmp 4] ?_;intro ok;have hm:=fI ok;clear ok;simp only[go_sem];refine ae.inl (fY (n:=19) (rs:=[.tmp 4]) func126 rfl call126 b2 rfl rfl ?_);simp only[go_sem,I];refine cr.intro (fun i:Nat=>⟨(.d (.sl 39 (l.map af.enc))::.fn 127 [.ptr 0 0 0]::.al::.al::.i 0::.al::.al::.i l.length::.i i::aA 10 []),[.box [.i id]]⟩)
  (fun i=>l.length-i) (fun i=>i≤l.length∧(l.take i).any (fp id)=false) 0 [0] ⟨by omega,by simp⟩ ?_ ?_
 ·simp only[go_sem];simp
 ·rintro i ⟨hi,he⟩;by_cases h1:i<l.length
  ·have ax:=bC (p:=(i:Int)<(l.length:Int)) ω;have aB:=cq af.enc l i h1;have hw:=dX h1 hm;simp only[go_sem,I,aE,aB,af.enc,ax];refine⟨⟨by omega,by omega⟩,?_⟩;refine ae.inl (fY (n:=8) (rs:=[.tmp 3]) func127 rfl call127 b2 rfl rfl ?_);simp only[go_sem];refine bP (fun h=>?_) (fun h=>?_)
   ·simp only[go_sem];have:=Jj (fp id) l i h1 he h;simp[this]
   ·simp only[go_sem,hw];refine bE.intro (i+1) [0] ⟨by omega,xe _ l i h1 he h⟩ ω ?_;simp only[go_sem];simp
  ·have ax:=bm (p:=(i:Int)<(l.length:Int)) ω;obtain rfl:i=l.length:=by omega
   rw[d3]at he;simp only[go_sem,ax];simp[Jk _ _ he]
theorem akd(c:aa):aL 79 [.agg (aa.enc c)] [.one (.bool (decide (c.d9≠0)))]:=by
 refine a3 6 func79 call79 [.tmp 2] ?_;intro _
 try simp only[go_sem]
theorem SS(c:aa)(hz:jC c):aL 30 [.agg (aa.enc c)] [.one (.bool (BL c&&decide (c.d9=0)))]:=by
 refine a3 10 func30 call30 [.tmp 2] ?_;intro ok;clear ok
 try simp only[go_sem]
 repeat'((first|refine ae.intro (by(apply Hr<;>exact a6)) ?_|refine ay.intro (by apply akd) ?_|refine bw ?_)<;>simp only[go_sem])
 all_goals(refine gd ?_;simp)
section
variable {P:Program} {kv:List V} {c:Code} {σ:St} {K:St→Prop} {aX:List (Nat×(St→Prop))} {dh:St→Prop}
theorem DA(hm:P.follows .mixedOrders=true)(k:Nat)(h:codeE P kv (zM k c) σ (b3 (fun σ'=>iB P kv (Bi k c) σ' K aX dh) .mk) aX dh):iB P kv c σ K aX dh:=Rf hm k c σ h fun _ h=>h
theorem aat{σ':St}(hs:ra σ σ')(h:iB P kv c σ' K aX dh):iB P kv c σ K aX dh:=fun B w0 kp Q a w bJ cd dF bj r=>h B w0 kp Q a w bJ cd dF bj (JX hs r)
theorem ND(id cx:Nat)(h:Ea id cx σ (b3 (fun na=>iB P kv c na K aX dh) .mk)):iB P kv c σ K aX dh:=by
 obtain⟨na,h1,h2⟩:=OE h;exact aat h1 h2
theorem XX(id:Nat)(h:GF id σ (b3 (fun na=>iB P kv c na K aX dh) .mk)):iB P kv c σ K aX dh:=by
 obtain⟨na,h1,h2⟩:=VV h;exact aat h1 h2
end
section
variable {P:Program} {kv:List V} {c x y:Code} {σ:St} {K:St→Prop} {aX:List (Nat×(St→Prop))} {dh:St→Prop}
end
theorem IA{c:aa}{id:Int}{i:Nat}(h:iH (fp id) c.ab=(i:Int))(hi:i<c.ab.length):aO c id=c.ab[i]:=by
 rcases oq (fp id) c.ab with ⟨cn,_⟩|⟨j,aK,cn,cG,d4⟩
 ·omega
 ·have:j=i:=by omega
  subst this;unfold aO cf;rw[cG]
theorem Mu{l:List af}{id:Int}{i:Nat}{Y:af}(h:iH (fp id) l=(i:Int))(hi:i<l.length)(aa9:Y.id=id):List.take l.length ((l.map af.enc).take i++Y.enc::(l.map af.enc).drop (i+1))=(eC l Y).map af.enc:=by
 rw[e7 (by simp;omega),IB (s:=Y) (i:=i) (by rw[aa9];exact h),List.set_eq_take_append_cons_drop,if_pos hi];simp
theorem IC{l:List af}{id:Int}{i:Nat}(h:iH (fp id) l=(i:Int))(hi:i<l.length):l[i].id=id:=by
 rcases oq (fp id) l with ⟨cn,_⟩|⟨j,aK,cn,cG,d4⟩
 ·omega
 ·have:j=i:=by omega
  subst this;simpa [fp]using d4
theorem SL(i5 i6 i7 i9 i_ i':Int):aL 166 [.agg [.int .i64 i5,.int .i64 i6,.int .i64 i7,.int .i64 i9,.int .i64 i_,.int .i64 i']] [.one (.bool (qd (⟨i5,i6,i7,i9,i_,i'⟩:eD)))]:=by
 refine a3 25 func166 call166 [.tmp 2] ?_;intro _
 try simp only[go_sem]
 repeat'((first|refine ae.intro (by apply PF) ?_|refine bw ?_)<;>simp only[go_sem])
 all_goals(refine gd ?_;simp[qd])
theorem MM(i5 i6 i7 i9 i_ i' n t:Int):aL 85 [.agg [.int .i64 i5,.int .i64 i6,.int .i64 i7,.int .i64 i9,.int .i64 i_,.int .i64 i'],.one (.int .i64 n),.one (.int .i64 t)] [.agg (eD.enc (iJ (⟨i5,i6,i7,i9,i_,i'⟩:eD) n t)),.one (.bool (lZ (⟨i5,i6,i7,i9,i_,i'⟩:eD) n t))]:=by
 refine a3 48 func85 call85 [.cell 6 30,.tmp 7] ?_;intro _
 try simp only[go_sem]
 repeat'((first|refine ae.intro (by apply SL) ?_|refine ay.intro (by apply jt) ?_|refine bw ?_|refine bP (fun h=>?_) (fun h=>?_))<;>simp only[go_sem])
 all_goals(cases hc:lZ (⟨i5,i6,i7,i9,i_,i'⟩:eD) n t<;>first|(simp[iJ,vY,cj,hc];done)|(simp[iJ,vY,cj,hc];simp_all;done)|((try(simp only[b8,eG]at *));simp[iJ,vY,cj, *];done)|(exfalso;simp[lZ]at hc h;first|(simp_all;done)|(simp_all;omega)|omega|grind)|(exfalso;simp[lZ,d5,di]at *;first|(simp_all;done)|(simp_all;omega)|omega|grind))
theorem SN(fN fO fP fQ:Int):aL 167 [.agg [.int .i64 fN,.int .i64 fO,.int .i64 fP,.int .i64 fQ]] [.one (.bool (yU (⟨fN,fO,fP,fQ⟩:eL)))]:=by
 refine a3 25 func167 call167 [.tmp 2] ?_;intro _
 try simp only[go_sem]
 repeat'((first|refine ae.intro (by apply Xw) ?_|refine bw ?_)<;>simp only[go_sem])
 all_goals(refine gd ?_;simp[yU,and_comm,and_left_comm])
theorem MN(fN fO fP fQ:Int):aL 86 [.agg [.int .i64 fN,.int .i64 fO,.int .i64 fP,.int .i64 fQ]] [.agg [.int .i64 (kf (⟨fN,fO,fP,fQ⟩:eL)).ck,.int .i64 (kf (⟨fN,fO,fP,fQ⟩:eL)).aZ,.int .i64 (kf (⟨fN,fO,fP,fQ⟩:eL)).seen,.int .i64 (kf (⟨fN,fO,fP,fQ⟩:eL)).d9],.one (.bool (qe (⟨fN,fO,fP,fQ⟩:eL)))]:=by
 refine a3 23 func86 call86 [.cell 2 34,.tmp 3] ?_;intro _
 try simp only[go_sem]
 repeat'((first|refine ae.intro (by apply SN) ?_|refine bw ?_|refine bP (fun h=>?_) (fun h=>?_))<;>simp only[go_sem])
 all_goals(cases hc:qe (⟨fN,fO,fP,fQ⟩:eL)<;>first|(simp[kf,hc];done)|(simp[kf,hc];simp_all;done)|((try(simp only[b8,eG]at *));simp[kf, *];done)|(exfalso;simp[qe]at hc h;first|(simp_all;done)|(simp_all;omega)|omega|grind)|(exfalso;simp[qe,d5,di]at *;first|(simp_all;done)|(simp_all;omega)|omega|grind))
theorem SP(dk ej dr ey:Int):aL 83 [.agg [.int .i64 dk,.int .i64 ej,.int .i64 dr,.int .i64 ey]] [.one (.bool (n6 (⟨dk,ej,dr,ey⟩:dU)))]:=by
 refine a3 12 func83 call83 [.tmp 2] ?_;intro _
 try simp only[go_sem]
 repeat'((first|refine ae.intro (by apply yc) ?_|refine bw ?_)<;>simp only[go_sem])
 all_goals(refine gd ?_;simp[n6])
theorem XU(dk ej dr ey:Int):aL 87 [.agg [.int .i64 dk,.int .i64 ej,.int .i64 dr,.int .i64 ey]] [.agg [.int .i64 (kl (⟨dk,ej,dr,ey⟩:dU)).aZ,.int .i64 (kl (⟨dk,ej,dr,ey⟩:dU)).eg,.int .i64 (kl (⟨dk,ej,dr,ey⟩:dU)).blocked,.int .i64 (kl (⟨dk,ej,dr,ey⟩:dU)).gr]]:=by
 refine a3 15 func87 call87 [.cell 2 28] ?_;intro _
 try simp only[go_sem]
 repeat'((first|refine ae.intro (by apply yc) ?_|refine bw ?_|refine bP (fun h=>?_) (fun h=>?_))<;>simp only[go_sem])
 all_goals(cases hc:CD (⟨dk,ej,dr,ey⟩:dU)<;>first|(simp[kl,hc];done)|(simp[kl,hc];simp_all;done)|((try(simp only[b8,eG]at *));simp[kl, *];done)|(exfalso;simp[CD]at hc h;first|(simp_all;done)|(simp_all;omega)|omega|grind)|(exfalso;simp[CD,d5,di]at *;first|(simp_all;done)|(simp_all;omega)|omega|grind))
theorem adq(dk ej dr ey:Int):aL 37 [.agg [.int .i64 dk,.int .i64 ej,.int .i64 dr,.int .i64 ey]] [.agg [.int .i64 (kB (⟨dk,ej,dr,ey⟩:dU)).aZ,.int .i64 (kB (⟨dk,ej,dr,ey⟩:dU)).eg,.int .i64 (kB (⟨dk,ej,dr,ey⟩:dU)).blocked,.int .i64 (kB (⟨dk,ej,dr,ey⟩:dU)).gr]]:=by
 refine a3 28 func37 call37 [.cell 2 28] ?_;intro _
 try simp only[go_sem]
 repeat'((first|refine ae.intro (by apply yc) ?_|refine bw ?_|refine bP (fun h=>?_) (fun h=>?_))<;>simp only[go_sem])
 all_goals(cases hc:CC (⟨dk,ej,dr,ey⟩:dU)<;>first|(simp[kB,hc];done)|(simp[kB,hc];simp_all;done)|((try(simp only[b8,eG]at *));simp[kB, *];done)|(exfalso;simp[CC]at hc h;first|(simp_all;done)|(simp_all;omega)|omega|grind)|(exfalso;simp[CC,d5,di]at *;first|(simp_all;done)|(simp_all;omega)|omega|grind))
theorem X1(dk ej dr ey n:Int):aL 72 [.agg [.int .i64 dk,.int .i64 ej,.int .i64 dr,.int .i64 ey],.one (.int .i64 n)] [.agg [.int .i64 (hP (⟨dk,ej,dr,ey⟩:dU) n).aZ,.int .i64 (hP (⟨dk,ej,dr,ey⟩:dU) n).eg,.int .i64 (hP (⟨dk,ej,dr,ey⟩:dU) n).blocked,.int .i64 (hP (⟨dk,ej,dr,ey⟩:dU) n).gr],.one (.bool (lJ (⟨dk,ej,dr,ey⟩:dU) n))]:=by
 refine a3 26 func72 call72 [.cell 4 28,.tmp 5] ?_;intro _;have hb:lJ (⟨dk,ej,dr,ey⟩:dU) n=(ju (⟨dk,ej,dr,ey⟩:dU)&&ca n 0 (i64.wrap (dk-ej))):=by
  rw[Bool.eq_iff_iff];simp[lJ,ca,fJ]
 cases aS:ju (⟨dk,ej,dr,ey⟩:dU)with
 |false=>
  rw[aS,Bool.false_and]at hb
  try simp only[go_sem]
  repeat'((first|refine ae.intro (by apply yc) ?_|with_reducible refine eB ?_)<;>simp only[go_sem,aS])
  all_goals simp[hP,hb]
 |true=>
  rw[aS,Bool.true_and]at hb
  cases hi:ca n 0 (i64.wrap (dk-ej))with
  |false=>
   rw[hi]at hb
   try simp only[go_sem]
   repeat'((first|refine ae.intro (by first|apply yc|apply jt) ?_|with_reducible refine cN ?_)<;>simp only[go_sem,aS,hi])
   all_goals simp[hP,hb]
  |true=>
   rw[hi]at hb
   try simp only[go_sem]
   repeat'((first|refine ae.intro (by first|apply yc|apply jt) ?_|with_reducible refine cN ?_)<;>simp only[go_sem,aS,hi])
   all_goals simp[hP,hb]
theorem aiJ(dk ej dr ey:Int):aL 64 [.agg [.int .i64 dk,.int .i64 ej,.int .i64 dr,.int .i64 ey]] [.one (.int .i64 (wE (⟨dk,ej,dr,ey⟩:dU)))]:=by
 refine a3 11 func64 call64 [.tmp 2] ?_;intro _
 cases aS:ju (⟨dk,ej,dr,ey⟩:dU)with
 |false=>
  try simp only[go_sem]
  repeat'(refine ae.intro (by apply yc) ?_<;>simp only[go_sem,aS])
  all_goals simp[wE,aS]
 |true=>
  try simp only[go_sem]
  repeat'(refine ae.intro (by apply yc) ?_<;>simp only[go_sem,aS])
  all_goals simp[wE,aS]
def KM:List (List bR):=cS 9 [18836,18834,18868,18850,18913,18711,19318,17496,13122]
def XY:List (List bR):=cS 12 [511676,511674,511668,511650,511717,511515,511029,503010,448335,521599,478953,354294]
def XZ:List (List bR):=cS 9 [18593,18591,19678,19660,19606,19444,18958,17496,13122]
attribute [go_sem] KM XY XZ
theorem X0{φ:c1}{T:Nat→Prop}{h:Array Obj}:∀{vs' vs:List V} {us:List Value},AP vs' vs→VRels φ T h vs us→VRels φ T h vs' us
 |[],[],_,_,g=>g
 |[],_::_,_,j,_=>j.elim
 |_::_,[],_,j,_=>j.elim
 |gS::vs',v::vs,us,j,g=>by
  obtain⟨u,cT,e,cn,cG⟩:=g;refine⟨u,cT,e,?_,X0 j.2 cG⟩;rcases j.1 with rfl|rfl
  ·exact cn
  ·trivial
theorem XI{P:Program}{kv:List V}{c:Code}{σ:St}{K:St→Prop}{aX:List (Nat×(St→Prop))}{dh:St→Prop}(dJ:List Nat){ts:List V}(ht:hZ dJ 0 σ.tmps=ts)(h:iB P kv c ⟨ts,σ.heap⟩ K aX dh):iB P kv c σ K aX dh:=by
 intro B w0 kp Q a w bJ cd dF bj r;obtain⟨a4,φ,r,b5⟩:=r;exact h B w0 kp Q a w bJ cd dF bj ⟨a4,φ,⟨X0 (by rw[←ht];exact Oy dJ 0 _) r.iA,r.kp,r.hp,r.dZ,r.gu,r.gZ,r.h7,r.g0,r.bs,r.oz,r.l4⟩,b5⟩
theorem aiB{S:List Bool}(h:S.length=16):∃e8 cB cJ ct eA fb fs fT gK g2 iF nm nn np nq nr,S=[e8,cB,cJ,ct,eA,fb,fs,fT,gK,g2,iF,nm,nn,np,nq,nr]:=by
 match S,h with|[e8,cB,cJ,ct,eA,fb,fs,fT,gK,g2,iF,nm,nn,np,nq,nr],_=>exact⟨e8,cB,cJ,ct,eA,fb,fs,fT,gK,g2,iF,nm,nn,np,nq,nr,rfl⟩
def P5(c:aa)(id:Int)(i:Nat)(p:bL)(aX:af)(gM:au)(k1 k2:dU)(S:List Bool):St:=⟨(.al::.i id::aA 4 (.ptr 2 0 0::.al::.ptr 5 0 0::.al::.ptr 3 i 0::.ptr 15 0 0::.al::.al::.ptr 16 0 0::.al::.ptr 17 0 0::aA 73 [(aw S 0 (.ptr 3 i 0)),(aw S 1 (.ptr 3 i 0)),(aw S 2 (.agg (au.aG gM (.sl 11 0 gM.av.cells.length) (.sl 12 0 gM.aP.length) (.sl 13 0 gM.aM.length) (.sl 14 0 gM.a0.length)))),(aw S 3 (.agg [.i k1.aZ,.i k1.eg,.i k1.blocked,.i k1.gr])),(aw S 4 (.agg [.i k2.aZ,.i k2.eg,.i k2.blocked,.i k2.gr])),(aw S 5 (.i id)),(aw S 6 (.ptr 3 i 0)),(aw S 7 (.ptr 3 i 1)),(aw S 9 (.ptr 3 i 0)),(aw S 10 (.ptr 3 i 13)),(aw S 12 (.ptr 5 0 18)),(aw S 14 (.ptr 5 0 45)),.al])),[.box (aa.bT c),.box [.i p.aH,.d (.str p.data),.d (.bool p.aW)],.box aa.cc,.hN 39 ((c.ab.map af.enc).take i) [.i aX.id,(bif S.getD 8 false then .i gM.b0 else .i aX.ak.b0),(bif S.getD 8 false then .i gM.av.size else .i aX.ak.av.size),(bif S.getD 8 false then .i gM.av.base else .i aX.ak.av.base),(bif S.getD 8 false then .i gM.av.cu else .i aX.ak.av.cu),(bif S.getD 8 false then .sl 11 0 gM.av.cells.length else .sl 6 0 aX.ak.av.cells.length),(bif S.getD 8 false then .sl 12 0 gM.aP.length else .sl 7 0 aX.ak.aP.length),(bif S.getD 8 false then .sl 13 0 gM.aM.length else .sl 8 0 aX.ak.aM.length),(bif S.getD 8 false then .sl 14 0 gM.a0.length else .sl 9 0 aX.ak.a0.length),(bif S.getD 8 false then .i gM.br else .i aX.ak.br),(bif S.getD 8 false then .i gM.aW else .i aX.ak.aW),(bif S.getD 8 false then .i gM.cw else .i aX.ak.cw),(bif S.getD 8 false then .i gM.c4 else .i aX.ak.c4),(bif S.getD 11 false then .i k1.aZ else .i aX.cV.aZ),(bif S.getD 11 false then .i k1.eg else .i aX.cV.eg),(bif S.getD 11 false then .i k1.blocked else .i aX.cV.blocked),(bif S.getD 11 false then .i k1.gr else .i aX.cV.gr),.i aX.a2.b0,.i aX.a2.bV.next,.sl 10 0 aX.a2.bV.cp.length,.i aX.a2.br,.i aX.a2.gw,.i aX.a2.c4,.i aX.b1.size,.i aX.b1.ck,.i aX.b1.aZ,.i aX.b1.seen,.i aX.b1.gF,.i aX.b1.kk,.i aX.cL.ew,.d (.bool aX.cL.hO),.d (.bool aX.fF),.d (.bool aX.gO),.d (.bool aX.jG),.d (.bool aX.hL),.d (.bool aX.k_),.d (.bool aX.j2),.i aX.oB,.d (.bool aX.nz)] ((c.ab.map af.enc).drop (i+1)),.aj 2 (c.an.map aT.enc),.box [.d (.bool c.eO),.i c.own.av,.i c.own.b1,.i c.own.lW,.i c.own.cm,.i c.own.lX,.i c.own.k8,.i c.own.ft,.i c.own.eP,.i c.da.av,.i c.da.b1,.i c.da.lW,.i c.da.cm,.i c.da.lX,.i c.da.k8,.i c.da.ft,.i c.da.eP,.sl 3 0 c.ab.length,(bif S.getD 13 false then .i k2.aZ else .i c.cm.aZ),(bif S.getD 13 false then .i k2.eg else .i c.cm.eg),(bif S.getD 13 false then .i k2.blocked else .i c.cm.blocked),(bif S.getD 13 false then .i k2.gr else .i c.cm.gr),.i c.dq.size,.i c.dq.ck,.i c.dq.aZ,.i c.dq.seen,.i c.dq.gF,.i c.dq.kk,.i c.fe.aZ,.i c.fe.jO,.i c.fe.blocked,.i c.fc.aZ,.i c.fc.jO,.i c.fc.blocked,.i c.eo.ck,.i c.eo.aZ,.i c.eo.seen,.i c.eo.d9,.i c.en.ck,.i c.en.aZ,.i c.en.seen,.i c.en.d9,.d (.bool c.pF),.d (.bool c.lF),.d (.bool c.lG),(bif S.getD 15 false then .i id else .i c.dE),.i c.bO,.sl 4 0 c.an.length,.i c.ef,.i c.d9],.ah 1 (aX.ak.av.cells.map aR) true,.ah 2 (aX.ak.aP.map J.enc) true,.ah 2 (aX.ak.aM.map J.enc) true,.ah 2 (aX.ak.a0.map J.enc) true,.ah 2 (aX.a2.bV.cp.map aU.enc) true,.ah 1 (gM.av.cells.map aR) true,.ah 2 (gM.aP.map J.enc) true,.ah 2 (gM.aM.map J.enc) true,.ah 2 (gM.a0.map J.enc) true,.box (au.aG gM (.sl 11 0 gM.av.cells.length) (.sl 12 0 gM.aP.length) (.sl 13 0 gM.aM.length) (.sl 14 0 gM.a0.length)),.box [.i k1.aZ,.i k1.eg,.i k1.blocked,.i k1.gr],.box [.i k2.aZ,.i k2.eg,.i k2.blocked,.i k2.gr]]⟩
theorem T8(c:aa)(id:Int)(p:bL)(hz:jC c)(bH:∀s∈c.ab,wo s.ak)(hd:p.data.length≤1048576):aL 17 [.agg (aa.enc c),.one (.int .i64 id),.agg [.int .i64 p.aH,.str p.data,.bool p.aW]] [.agg (aa.enc ((q5 c id p))),.one (.bool (o7 c id p))]:=by
 refine om 103 func17 call17 [.cell 6 37,.tmp 7] ?_;intro ok;clear ok;have lv:=k5 hz;have TZ:=Mt c ω;have Ev:=Jf c.ab id;have zx:=Hr c hz;rw[←Di bH]at zx;have bq:q5 c id p=if o7 c id p then {c with cm:=hP c.cm (l5 (aO c id) p),dE:=id,ab:=eC c.ab (jx (aO c id) p)}else c:=rfl
 have c3:o7 c id p=(wD c id&&(h8 (aO c id).ak p&&lJ (aO c id).cV (l5 (aO c id) p)&&lJ c.cm (l5 (aO c id) p))):=rfl;have b7:wD c id=(gq c&&(cf c.ab id).2&&(aO c id).fF):=rfl;rcases oq (fp id) c.ab with ⟨h1,h2⟩|⟨i,hi,h1,h2,ao⟩
 ·rw[h1]at Ev;have hs:(cf c.ab id).2=false:=by unfold cf;rw[h2]
  rw[hs,Bool.and_false,Bool.false_and]at b7;rw[b7,Bool.false_and]at c3;rw[c3]at bq;have ag:decide ((-1:Int)<0)=true:=by decide
  refine lx b2 ?_
  cases aS:gq c with
  |false=>
   rw[aS]at zx
   try simp only[go_sem]
   repeat'(first|((first|refine ae.aj ‹_› ?_|refine ay.aj ‹_› ?_|with_reducible refine eB ?_|refine bw ?_|refine bo KM χ ψ ?_)<;>simp only[go_sem,I,cR])|(with_reducible refine az ?_)|fail)
   simp[bq,c3]
  |true=>
   rw[aS]at zx
   try simp only[go_sem]
   repeat'(first|((first|refine ae.aj ‹_› ?_|refine ay.aj ‹_› ?_|with_reducible refine cN ?_|with_reducible refine eB ?_|refine bw ?_|refine bo KM χ ψ ?_)<;>simp only[go_sem,I,bN])|(with_reducible refine az ?_)|fail)
   simp[bq,c3]
 obtain⟨aX,dF⟩:∃aX,aX=c.ab[i]:=⟨_,rfl⟩;have hm:aX∈c.ab:=dF▸eS hi;have aB:=cq af.enc c.ab i hi;rw[←dF]at aB;have Ap:aO c id=aX:=by rw[dF];exact IA h1 hi
 have gg:aX.id=id:=by rw[dF];exact IC h1 hi
 have hs:(cf c.ab id).2=true:=by unfold cf;rw[h2]
 rw[Ap]at c3 bq b7;rw[hs,Bool.and_true]at b7;rw[h1]at Ev;obtain⟨dW,ek,dt,eF⟩:=hz.2.1 aX hm;have ag:=bm (p:=(i:Int)<0) ω;have P6:∀b q:Bool,(bif bif !b then true else false then true else !q)=!(b&&q):=by intro b q;cases b<;>cases q<;>rfl
 refine e2 b2 4 (α:=Unit) (fun _=>⟨(.al::.i id::.al::.ptr 0 0 0::.al::.ptr 1 0 0::.ptr 2 0 0::.al::.ptr 5 0 0::.al::.ptr 3 i 0::aA 92 []),[.box (aa.bT c),.box [.i p.aH,.d (.str p.data),.d (.bool p.aW)],.box aa.cc,.aj 39 (c.ab.map af.enc),.aj 2 (c.an.map aT.enc),.box (aa.aG c (.sl 3 0 c.ab.length) (.sl 4 0 c.an.length))]⟩) (fun _=>wD c id=true) ?_ ?_
 ·skip
  try simp only[go_sem]
  repeat'(first|((first|refine ae.aj ‹_› ?_|refine ay.aj ‹_› ?_|with_reducible refine eB ?_|refine bw ?_|refine bo KM χ ψ ?_)<;>simp only[go_sem,I,ag,aE,aB,af.enc])|(with_reducible refine az ?_)|fail)
  rw[P6,←b7]
  cases hg:wD c id with
  |false=>
   rw[hg,Bool.false_and]at c3;rw[c3]at bq;simp only[go_sem,I,cR];simp[bq,c3]
  |true=>
   simp only[go_sem,bN,aE];refine⟨by omega,?_⟩;refine dm.intro () [0,1,2,3,4,5] (by first|trivial|exact hg) ?_;simp only[go_sem];simp
 rintro _ hg;rw[hg,Bool.true_and]at c3;have hn:=bH aX hm;have xw:aL 71 [.agg (au.enc aX.ak),.agg [.int .i64 p.aH,.str p.data,.bool p.aW]] [.agg (au.enc ((gv aX.ak p))),.one (.bool (h8 aX.ak p))]:=by
  apply aiC<;>first|assumption|omega
 have KN:l5 aX p=i64.wrap ((gv aX.ak p).cw-aX.ak.cw):=rfl;have P7:jx aX p={aX with ak:=gv aX.ak p,cV:=hP aX.cV (l5 aX p)}:=rfl;rw[P7]at bq;generalize gv aX.ak p=gM at *;generalize h8 aX.ak p=cn at *;rw[KN]at c3 bq P7;refine ND 3 i ?_;simp only[go_sem,I,aB,af.enc];refine DA b2 1 ?_
 try simp only[go_sem]
 repeat'(first|((first|refine ae.intro ‹_› ?_|refine ay.intro ‹_› ?_|with_reducible refine eB ?_|refine bw ?_|refine bo XY χ ψ ?_)<;>simp only[go_sem,I])|(with_reducible refine az ?_)|fail)
 have aiD:aL 72 [.agg [.int .i64 aX.cV.aZ,.int .i64 aX.cV.eg,.int .i64 aX.cV.blocked,.int .i64 aX.cV.gr],.one (.int .i64 (i64.wrap (gM.cw-aX.ak.cw)))] [.agg [.int .i64 ((hP aX.cV (i64.wrap (gM.cw-aX.ak.cw)))).aZ,.int .i64 ((hP aX.cV (i64.wrap (gM.cw-aX.ak.cw)))).eg,.int .i64 ((hP aX.cV (i64.wrap (gM.cw-aX.ak.cw)))).blocked,.int .i64 ((hP aX.cV (i64.wrap (gM.cw-aX.ak.cw)))).gr],.one (.bool (lJ aX.cV (i64.wrap (gM.cw-aX.ak.cw))))]:=X1 _ _ _ _ _;have aiE:aL 72 [.agg [.int .i64 c.cm.aZ,.int .i64 c.cm.eg,.int .i64 c.cm.blocked,.int .i64 c.cm.gr],.one (.int .i64 (i64.wrap (gM.cw-aX.ak.cw)))] [.agg [.int .i64 ((hP c.cm (i64.wrap (gM.cw-aX.ak.cw)))).aZ,.int .i64 ((hP c.cm (i64.wrap (gM.cw-aX.ak.cw)))).eg,.int .i64 ((hP c.cm (i64.wrap (gM.cw-aX.ak.cw)))).blocked,.int .i64 ((hP c.cm (i64.wrap (gM.cw-aX.ak.cw)))).gr],.one (.bool (lJ c.cm (i64.wrap (gM.cw-aX.ak.cw))))]:=X1 _ _ _ _ _;refine DA b2 4 ?_
 try simp only[go_sem]
 repeat'(first|((first|refine ae.aj ‹_› ?_|refine ay.aj ‹_› ?_|with_reducible refine cN ?_|with_reducible refine eB ?_|refine bw ?_|refine bo XZ χ ψ ?_)<;>simp only[go_sem])|(with_reducible refine az ?_)|fail)
 clear aiD aiE;generalize i64.wrap (gM.cw-aX.ak.cw)=n at *;generalize hP aX.cV n=k1 at *;generalize hP c.cm n=k2 at *;generalize lJ aX.cV n=cG at *;generalize lJ c.cm n=d4 at *;have aiF:∀a b q:Bool,(bif bif !a then true else !b then true else !q)=!(a&&b&&q):=by intro a b q;cases a<;>cases b<;>cases q<;>rfl
 rw[aiF,←c3]
 cases hk:o7 c id p with
 |false=>
  rw[hk]at bq
  try simp only[go_sem,cR]
  repeat'(first|((first|refine ae.aj ‹_› ?_|refine ay.aj ‹_› ?_)<;>simp only[go_sem,I])|(with_reducible refine az ?_)|fail)
  simp[bq]
 |true=>
  rw[hk,if_pos rfl]at bq;simp only[go_sem,bN];have hlt:i=((c.ab.map af.enc).take i).length:=by rw[List.length_take,I];omega
  refine XI [1,6,8,10,11,14,16] (by simp only[hZ,List.elem_cons,List.elem_nil,Nat.reduceBEq,Nat.reduceAdd,c_,dK];rfl) ?_;refine DA b2 1 ?_;simp only[go_sem];refine gC _ (ia (fun S σ=>σ=P5 c id i p aX gM k1 k2 S) (N:=16) rfl rfl rfl ?_) ?_
  ·repeat'(first|exact jW|refine jX ?_ ?_)
   all_goals(
    rintro S σ F hl a1 hp hcl rfl bB;obtain⟨ib,dW,ek,dt,eF,jE,kb,kc,ks,ns,pr,yD,yE,yF,yG,yH,rfl⟩:=aiB hl;simp only[fm,eW,b4]at a1;subst a1;simp[ix,Region.binds]at hp
    repeat(obtain⟨eu,hp⟩:=hp;subst eu)
    try subst hp
    try obtain rfl:=bd (hcl 0 6 _ rfl ζ rfl)
    try obtain rfl:=bd (hcl 1 9 _ rfl ζ rfl)
    try obtain rfl:=bd (hcl 2 6 _ rfl ζ rfl)
    try obtain rfl:=bd (hcl 3 9 _ rfl ζ rfl)
    try obtain rfl:=bd (hcl 4 12 _ rfl ζ rfl)
    try obtain rfl:=bd (hcl 5 14 _ rfl ζ rfl)
    try obtain rfl:=bd (hcl 6 7 _ rfl ζ rfl)
    try obtain rfl:=bd (hcl 7 8 _ rfl ζ rfl)
    try obtain rfl:=bd (hcl 8 9 _ rfl ζ rfl)
    try obtain rfl:=bd (hcl 9 10 _ rfl ζ rfl)
    try obtain rfl:=bd (hcl 10 11 _ rfl ζ rfl)
    try obtain rfl:=bd (hcl 11 12 _ rfl ζ rfl)
    try obtain rfl:=bd (hcl 12 13 _ rfl ζ rfl)
    try obtain rfl:=bd (hcl 13 14 _ rfl ζ rfl)
    try obtain rfl:=bd (hcl 14 15 _ rfl ζ rfl)
    simp only[P5,aw,e3,e0,c_,dK]
    repeat'(first
      |exact bB _ rfl
      |(with_reducible refine az ?_)
      |exact hlt
      |simp only[go_sem,bz,bx]))
  rintro _ rfl;simp only[P5,List.replicate,aw,e3,e0,c_];simp only[go_sem];refine XX 3 ?_;simp only[go_sem,I];refine az ?_;refine lx b2 ?_;have bt:(c.ab.length≤((c.ab.map af.enc).take i).length+(((c.ab.map af.enc).drop (i+1)).length+1))=True:=eq_true (by rw[List.length_take,List.length_drop,I];omega);have cO:=Mu (Y:=jx aX p) h1 hi gg;rw[P7]at cO;simp only[af.enc]at cO
  try simp only[go_sem,I,bt,if_true]
  repeat'(first|(with_reducible refine az ?_)|fail)
  rw[bq];simp only[cO]
theorem XB{S:List Bool}(h:S.length=6):∃e8 cB cJ ct eA fb,S=[e8,cB,cJ,ct,eA,fb]:=by
 match S,h with|[e8,cB,cJ,ct,eA,fb],_=>exact⟨e8,cB,cJ,ct,eA,fb,rfl⟩
theorem XC{S:List Bool}(h:S.length=8):∃e8 cB cJ ct eA fb fs fT,S=[e8,cB,cJ,ct,eA,fb,fs,fT]:=by
 match S,h with|[e8,cB,cJ,ct,eA,fb,fs,fT],_=>exact⟨e8,cB,cJ,ct,eA,fb,fs,fT,rfl⟩
theorem XD{S:List Bool}(h:S.length=11):∃e8 cB cJ ct eA fb fs fT gK g2 iF,S=[e8,cB,cJ,ct,eA,fb,fs,fT,gK,g2,iF]:=by
 match S,h with|[e8,cB,cJ,ct,eA,fb,fs,fT,gK,g2,iF],_=>exact⟨e8,cB,cJ,ct,eA,fb,fs,fT,gK,g2,iF,rfl⟩
theorem PJ{S:List Bool}(h:S.length=19):∃e8 cB cJ ct eA fb fs fT gK g2 iF nm nn np nq nr pq v_ v',S=[e8,cB,cJ,ct,eA,fb,fs,fT,gK,g2,iF,nm,nn,np,nq,nr,pq,v_,v']:=by
 match S,h with|[e8,cB,cJ,ct,eA,fb,fs,fT,gK,g2,iF,nm,nn,np,nq,nr,pq,v_,v'],_=>exact⟨e8,cB,cJ,ct,eA,fb,fs,fT,gK,g2,iF,nm,nn,np,nq,nr,pq,v_,v',rfl⟩
def kL(y:au)(a:Nat):V:=.agg (au.aG y (.sl a 0 y.av.cells.length) (.sl (a+1) 0 y.aP.length) (.sl (a+2) 0 y.aM.length) (.sl (a+3) 0 y.a0.length))
def ka(y:au):List H:=[.ah 1 ((y).av.cells.map aR) true,.ah 2 ((y).aP.map J.enc) true,.ah 2 ((y).aM.map J.enc) true,.ah 2 ((y).a0.map J.enc) true]
theorem zv{kv:List V}(bJ:bk 6 kv)(y:au)(a:Nat)(ha:6≤a){bb bD c bu bS dD:H}(hq:dB 6 [bb,bD,c,bu,bS,dD]){ex:List H}{K:V→List H→Prop}(ag:a5 (bb::bD::c::bu::bS::dD::ex) a=.ah 1 (y.av.cells.map aR) true)(ar:a5 (bb::bD::c::bu::bS::dD::ex) (a+1)=.ah 2 (y.aP.map J.enc) true)(ba:a5 (bb::bD::c::bu::bS::dD::ex) (a+2)=.ah 2 (y.aM.map J.enc) true)(bF:a5 (bb::bD::c::bu::bS::dD::ex) (a+3)=.ah 2 (y.a0.map J.enc) true)
  (cd:K (kL y 6) ([bb,bD,c,bu,bS,dD]++ka y)):oW kv K (kL y a) (bb::bD::c::bu::bS::dD::ex):=by
 refine⟨List.range 6++[a,a+1,a+2,a+3],kL y 6,[bb,bD,c,bu,bS,dD]++ka y,?_,cd⟩;refine BD (hs:=[bb,bD,c,bu,bS,dD]) (ex:=ex) [a,a+1,a+2,a+3] ξ (by simp;omega) hq ?_ (by simp[ka,lV,hok]) bJ ?_ ?_
 ·simp only[ka,bz,bx,hsees,ag,ar,ba,bF];simp[hsee]
 ·simp[kL,vsees,vsee,ren,rens,List.range,List.range.loop]
 ·simp[kL,ka,bk,vok]
def PK(bs:List Int)(bb bD bu bS dD jk nf ng:H)(s:au)(i:Nat)(h:Int)(z:Nat×J)(S:List Bool):St:=⟨(.ptr 2 0 0::.agg (au.aG (s) (.sl 6 0 (s).av.cells.length) (.sl 7 0 (s).aP.length) (.sl 8 0 (s).aM.length) (.sl 9 0 (s).a0.length))::.al::.ptr 13 0 0::.ptr 14 0 0::(aw S 9 (.ptr 15 0 0))::.al::.al::.ptr 13 0 6::.sl 8 0 s.aM.length::.i s.aM.length::.d (.bool false)::aA 7 ((aw S 0 (.ptr 13 0 6))::(aw S 1 (.sl 8 0 s.aM.length))::(aw S 2 (.ptr 2 0 0))::(aw S 3 (.ptr 13 0 6))::(aw S 4 (.sl 8 0 s.aM.length))::(aw S 5 (.i s.aM.length))::(aw S 6 (.i z.1))::(aw S 7 (.ptr 8 z.1 0))::(aw S 8 (.agg [.i z.2.low,.i z.2.high]))::aA 31 [])),[bb,bD,cv bs i h,bu,bS,dD,.ah 1 ((s).av.cells.map aR) true,.ah 2 ((s).aP.map J.enc) true,.ah 2 ((s).aM.map J.enc) true,.ah 2 ((s).a0.map J.enc) true,jk,nf,ng,.box (au.aG (s) (.sl 6 0 (s).av.cells.length) (.sl 7 0 (s).aP.length) (.sl 8 0 (s).aM.length) (.sl 9 0 (s).a0.length)),.box [.i 0,.d (.str []),.d (.bool false)]]++(bif S.getD 9 false then [.box [(bif S.getD 10 false then .i z.2.low else .i 0),(bif S.getD 10 false then .i z.2.high else .i 0)]]else [])⟩
def PL(bs:List Int)(bb bD bu bS dD jk nf ng:H)(s:au)(k:Nat)(r:J)(d:List UInt8)(g:Bool)(i:Nat)(h:Int)(_:Bool)(S:List Bool):St:=⟨(.ptr 2 0 0::.agg (au.aG (s) (.sl 6 0 (s).av.cells.length) (.sl 7 0 (s).aP.length) (.sl 8 0 (s).aM.length) (.sl 9 0 (s).a0.length))::.al::.ptr 13 0 0::.ptr 14 0 0::.ptr 15 0 0::.d (.str d)::.d (.bool g)::.ptr 13 0 6::.sl 8 0 s.aM.length::.i s.aM.length::.d (.bool false)::aA 7 [.ptr 13 0 6,.sl 8 0 s.aM.length,.ptr 2 0 0,.ptr 13 0 6,.sl 8 0 s.aM.length,.i s.aM.length,.i k,.ptr 8 k 0,.agg [.i r.low,.i r.high],.eh [.d (.str d),.d (.bool g)],.ptr 13 0 1,.agg [.i s.av.size,.i s.av.base,.i s.av.cu,.sl 6 0 s.av.cells.length],.ptr 15 0 0,.i r.low,.ptr 15 0 1,.i r.high,.ptr 15 0 0,.i r.low,.i (i64.wrap (r.high-r.low)),.eh [.d (.str d),.d (.bool g)],.d (.str d),.d (.bool g),(aw S 0 (.ptr 15 0 0)),(aw S 1 (.i r.low)),(aw S 2 (.d (.str d))),(aw S 3 (.ptr 13 0 9)),(aw S 4 (.i s.aW)),(aw S 5 (.d (.bool false))),(aw S 6 (.d (.bool false))),(aw S 7 (.bU false (.d (.bool false)))),(aw S 8 (.bU false (.d (.bool false)))),(aw S 9 (.bU false (.d (.bool false)))),(aw S 10 (.bU false (.d (.bool false)))),(aw S 11 (.bU false (.d (.bool false)))),(aw S 12 (.d (.bool false))),(aw S 13 (.d (.bool false))),(aw S 14 (.bU false (.d (.bool false)))),(aw S 15 (.bU false (.d (.bool false)))),(aw S 16 (.d (.bool false))),(aw S 17 (.agg [.i r.low,.d (.str d),.d (.bool false)]))]),[bb,bD,cv bs i h,bu,bS,dD,.ah 1 ((s).av.cells.map aR) true,.ah 2 ((s).aP.map J.enc) true,.ah 2 ((s).aM.map J.enc) true,.ah 2 ((s).a0.map J.enc) true,jk,nf,ng,.box (au.aG (s) (.sl 6 0 (s).av.cells.length) (.sl 7 0 (s).aP.length) (.sl 8 0 (s).aM.length) (.sl 9 0 (s).a0.length)),.box [(bif S.getD 18 false then .i r.low else .i 0),.d (.str (bif S.getD 18 false then d else [])),.d (.bool (bif S.getD 18 false then false else false))],.box [.i r.low,.i r.high]]⟩
def PM(bs:List Int)(bb bD bu bS dD jk nf ng:H)(s:au)(k:Nat)(r:J)(d:List UInt8)(g:Bool)(i:Nat)(h:Int)(_:Bool)(S:List Bool):St:=⟨(.ptr 2 0 0::.agg (au.aG (s) (.sl 6 0 (s).av.cells.length) (.sl 7 0 (s).aP.length) (.sl 8 0 (s).aM.length) (.sl 9 0 (s).a0.length))::.al::.ptr 13 0 0::.ptr 14 0 0::.ptr 15 0 0::.d (.str d)::.d (.bool g)::.ptr 13 0 6::.sl 8 0 s.aM.length::.i s.aM.length::.d (.bool false)::aA 7 [.ptr 13 0 6,.sl 8 0 s.aM.length,.ptr 2 0 0,.ptr 13 0 6,.sl 8 0 s.aM.length,.i s.aM.length,.i k,.ptr 8 k 0,.agg [.i r.low,.i r.high],.eh [.d (.str d),.d (.bool g)],.ptr 13 0 1,.agg [.i s.av.size,.i s.av.base,.i s.av.cu,.sl 6 0 s.av.cells.length],.ptr 15 0 0,.i r.low,.ptr 15 0 1,.i r.high,.ptr 15 0 0,.i r.low,.i (i64.wrap (r.high-r.low)),.eh [.d (.str d),.d (.bool g)],.d (.str d),.d (.bool g),(aw S 0 (.ptr 15 0 0)),(aw S 1 (.i r.low)),(aw S 2 (.d (.str d))),(aw S 3 (.ptr 13 0 9)),(aw S 4 (.i s.aW)),(aw S 5 (.d (.bool true))),(aw S 6 (.d (.bool true))),(aw S 7 (.ptr 15 0 1)),(aw S 8 (.i r.high)),(aw S 9 (.ptr 13 0 8)),(aw S 10 (.i s.br)),(aw S 11 (.d (.bool false))),(aw S 12 (.d (.bool false))),(aw S 13 (.d (.bool false))),(aw S 14 (.bU false (.d (.bool false)))),(aw S 15 (.bU false (.d (.bool false)))),(aw S 16 (.d (.bool false))),(aw S 17 (.agg [.i r.low,.d (.str d),.d (.bool false)]))]),[bb,bD,cv bs i h,bu,bS,dD,.ah 1 ((s).av.cells.map aR) true,.ah 2 ((s).aP.map J.enc) true,.ah 2 ((s).aM.map J.enc) true,.ah 2 ((s).a0.map J.enc) true,jk,nf,ng,.box (au.aG (s) (.sl 6 0 (s).av.cells.length) (.sl 7 0 (s).aP.length) (.sl 8 0 (s).aM.length) (.sl 9 0 (s).a0.length)),.box [(bif S.getD 18 false then .i r.low else .i 0),.d (.str (bif S.getD 18 false then d else [])),.d (.bool (bif S.getD 18 false then false else false))],.box [.i r.low,.i r.high]]⟩
def PN(bs:List Int)(bb bD bu bS dD jk nf ng:H)(s:au)(k:Nat)(r:J)(d:List UInt8)(g:Bool)(i:Nat)(h:Int)(z:Bool)(S:List Bool):St:=⟨(.ptr 2 0 0::.agg (au.aG (s) (.sl 6 0 (s).av.cells.length) (.sl 7 0 (s).aP.length) (.sl 8 0 (s).aM.length) (.sl 9 0 (s).a0.length))::.al::.ptr 13 0 0::.ptr 14 0 0::.ptr 15 0 0::.d (.str d)::.d (.bool g)::.ptr 13 0 6::.sl 8 0 s.aM.length::.i s.aM.length::.d (.bool false)::aA 7 [.ptr 13 0 6,.sl 8 0 s.aM.length,.ptr 2 0 0,.ptr 13 0 6,.sl 8 0 s.aM.length,.i s.aM.length,.i k,.ptr 8 k 0,.agg [.i r.low,.i r.high],.eh [.d (.str d),.d (.bool g)],.ptr 13 0 1,.agg [.i s.av.size,.i s.av.base,.i s.av.cu,.sl 6 0 s.av.cells.length],.ptr 15 0 0,.i r.low,.ptr 15 0 1,.i r.high,.ptr 15 0 0,.i r.low,.i (i64.wrap (r.high-r.low)),.eh [.d (.str d),.d (.bool g)],.d (.str d),.d (.bool g),(aw S 0 (.ptr 15 0 0)),(aw S 1 (.i r.low)),(aw S 2 (.d (.str d))),(aw S 3 (.ptr 13 0 9)),(aw S 4 (.i s.aW)),(aw S 5 (.d (.bool true))),(aw S 6 (.d (.bool true))),(aw S 7 (.ptr 15 0 1)),(aw S 8 (.i r.high)),(aw S 9 (.ptr 13 0 8)),(aw S 10 (.i s.br)),(aw S 11 (.d (.bool true))),(aw S 12 (.d (.bool true))),(aw S 13 (.d (.bool true))),(aw S 14 (.ptr 2 0 0)),(aw S 15 (.d (.bool z))),(aw S 16 (.d (.bool z))),(aw S 17 (.agg [.i r.low,.d (.str d),.d (.bool z)]))]),[bb,bD,cv bs i h,bu,bS,dD,.ah 1 ((s).av.cells.map aR) true,.ah 2 ((s).aP.map J.enc) true,.ah 2 ((s).aM.map J.enc) true,.ah 2 ((s).a0.map J.enc) true,jk,nf,ng,.box (au.aG (s) (.sl 6 0 (s).av.cells.length) (.sl 7 0 (s).aP.length) (.sl 8 0 (s).aM.length) (.sl 9 0 (s).a0.length)),.box [(bif S.getD 18 false then .i r.low else .i 0),.d (.str (bif S.getD 18 false then d else [])),.d (.bool (bif S.getD 18 false then z else false))],.box [.i r.low,.i r.high]]⟩
theorem XE(bs:List Int)(hm:bs.length≤maxLen)(i:Nat)(h:Int)(s:au)(E:Int)(hv:fA E s)(ai:E≤1000)(bb bD bu bS dD jk nf ng:H)(hq:dB 13 [bb,bD,bu,bS,dD,jk,nf,ng])(kv:List V)(bJ:bk 13 kv)(K:V→List H→Prop)(hi:i≤bs.length)
  (hk:∀(cF:Nat) (h':Int) (p:bL),cF≤bs.length→p.data.length≤1000→K (.agg [.i p.aH,.d (.str p.data),.d (.bool p.aW)]) [bb,bD,cv bs cF h',bu,bS,dD,.ah 1 ((s).av.cells.map aR) true,.ah 2 ((s).aP.map J.enc) true,.ah 2 ((s).aM.map J.enc) true,.ah 2 ((s).a0.map J.enc) true,jk,nf,ng]):d6 prog 276 kv [bb,bD,cv bs i h,bu,bS,dD,.ah 1 ((s).av.cells.map aR) true,.ah 2 ((s).aP.map J.enc) true,.ah 2 ((s).aM.map J.enc) true,.ah 2 ((s).a0.map J.enc) true,jk,nf,ng] [.ptr 2 0 0,.agg (au.aG (s) (.sl 6 0 (s).av.cells.length) (.sl 7 0 (s).aP.length) (.sl 8 0 (s).aM.length) (.sl 9 0 (s).a0.length))] K:=by
 obtain⟨r0,aY,dg,dz,gb,ahF,ahG,ahH,_⟩:=hq;have aW:∀(cF:Nat) (h':Int) (p:bL) (ex:List H),cF≤bs.length→p.data.length≤1000→oW kv K (.agg [.i p.aH,.d (.str p.data),.d (.bool p.aW)]) ([bb,bD,cv bs cF h',bu,bS,dD,.ah 1 ((s).av.cells.map aR) true,.ah 2 ((s).aP.map J.enc) true,.ah 2 ((s).aM.map J.enc) true,.ah 2 ((s).a0.map J.enc) true,jk,nf,ng]++ex):=by
  intro cF h' p ex dC hp;refine⟨List.range 13,.agg [.i p.aH,.d (.str p.data),.d (.bool p.aW)],_,zS (hs:=[bb,bD,cv bs cF h',bu,bS,dD,.ah 1 ((s).av.cells.map aR) true,.ah 2 ((s).aP.map J.enc) true,.ah 2 ((s).aM.map J.enc) true,.ah 2 ((s).a0.map J.enc) true,jk,nf,ng]) ?_ bJ (by simp[vsees,vsee,ren,rens]) (by simp[bk,vok]),hk cF h' p dC hp⟩;exact⟨r0,aY,by simp[cv,cA,bk,vok],dg,dz,gb,by simp[cA],by simp[cA],by simp[cA],by simp[cA],ahF,ahG,ahH,trivial⟩
 have d':=hv.size;refine d6.n2 ?_;refine(fY (n:=59) (rs:=[.cell 4 70]) func276 rfl call276 b2 rfl rfl ?_);simp only[go_sem]
 cases h0:decide ((s.aM.length:Int)=0)with
 |true=>
  simp only[go_sem];exact aW i h ⟨_,[],_⟩ [_,_] hi ξ
 |false=>
  have KK:0<s.aM.length:=by have:=c2 h0;omega
  simp only[go_sem];refine gC _ (ia (fun S σ=>∃i h z,i≤bs.length∧(z.1<s.aM.length∧(s.aM[z.1]?).getD ⟨0,0⟩=z.2)∧σ=PK bs bb bD bu bS dD jk nf ng s i h z S) (N:=11) rfl rfl ⟨i,h,(0,(s.aM[0]?).getD ⟨0,0⟩),‹_›,⟨by omega,rfl⟩,rfl⟩ ?_) ?_
  ·repeat'(first|exact jW|refine jX ?_ ?_)
   all_goals(
    rintro S σ F hl a1 hp hcl ⟨e4,eX,z,dC,hc,rfl⟩ bB;obtain⟨ib,dW,ek,dt,eF,jE,kb,kc,ks,ns,pr,rfl⟩:=XD hl;simp only[fm,eW,b4]at a1;subst a1;simp[ix,Region.binds]at hp
    repeat(obtain⟨eu,hp⟩:=hp;subst eu)
    try subst hp
    have aB:=cq J.enc s.aM z.1 hc.1;have nF:=hc.2;have hc1:=hc.1;rw[cD hc.1,fh]at nF
    try obtain rfl:=bd (hcl 0 1 _ rfl ζ rfl)
    try obtain rfl:=bd (hcl 1 7 _ rfl ζ rfl)
    try obtain rfl:=bd (hcl 2 6 _ rfl ζ rfl)
    try obtain rfl:=bd (hcl 3 4 _ rfl ζ rfl)
    try obtain rfl:=bd (hcl 4 5 _ rfl ζ rfl)
    try obtain rfl:=bd (hcl 5 6 _ rfl ζ rfl)
    try obtain rfl:=bd (hcl 6 7 _ rfl ζ rfl)
    try obtain rfl:=bd (hcl 7 8 _ rfl ζ rfl)
    try obtain rfl:=bd (hcl 8 10 _ rfl ζ rfl)
    try obtain rfl:=bd (hcl 9 10 _ rfl ζ rfl)
    simp only[PK,aw,e3,e0,c_,dK,bz,bx,gm]
    repeat'(first
      |exact bB _ ⟨e4,eX,z,dC,hc,rfl⟩
      |(refine cN ?_)
      |(refine eB ?_)
      |(cases ns<;>simp only[c_,dK])
      |(refine ae.inl (g1 bs hm e4 eX [bb,bD] [bu,bS,dD,.ah 1 ((s).av.cells.map aR) true,.ah 2 ((s).aP.map J.enc) true,.ah 2 ((s).aM.map J.enc) true,.ah 2 ((s).a0.map J.enc) true,jk,nf,ng,.box (au.aG (s) (.sl 6 0 (s).av.cells.length) (.sl 7 0 (s).aP.length) (.sl 8 0 (s).aM.length) (.sl 9 0 (s).a0.length)),.box [.i 0,.d (.str []),.d (.bool false)]] _ (s.aM.length:Int) ω ω _ dC fun dV ao gx ct c8 hE=>?_);obtain⟨dR,rfl⟩:=kt c8;simp only[go_sem,fM];exact bB _ ⟨_,_,(dR,(s.aM[dR]?).getD ⟨0,0⟩),‹_›,⟨ω,rfl⟩,rfl⟩)
      |(refine⟨⟨by omega,by omega⟩,?_⟩)
      |(refine⟨hc1,?_⟩)
      |(refine ae.inl (g1 bs hm e4 eX [bb,bD] [bu,bS,dD,.ah 1 ((s).av.cells.map aR) true,.ah 2 ((s).aP.map J.enc) true,.ah 2 ((s).aM.map J.enc) true,.ah 2 ((s).a0.map J.enc) true,jk,nf,ng,.box (au.aG (s) (.sl 6 0 (s).av.cells.length) (.sl 7 0 (s).aP.length) (.sl 8 0 (s).aM.length) (.sl 9 0 (s).a0.length)),.box [.i 0,.d (.str []),.d (.bool false)],.box [.i 0,.i 0]] _ (s.aM.length:Int) ω ω _ dC fun dV ao gx ct c8 hE=>?_);obtain⟨dR,rfl⟩:=kt c8;simp only[go_sem,fM];exact bB _ ⟨_,_,(dR,(s.aM[dR]?).getD ⟨0,0⟩),‹_›,⟨ω,rfl⟩,rfl⟩)
      |simp only[go_sem,I,bz,bx,aB,nF,J.enc,aE]))
  rintro _ ⟨dG,h2,z,hC,⟨hc1,hc2⟩,rfl⟩;obtain⟨k,r⟩:=z;simp only at hc1 hc2;rw[cD hc1,fh]at hc2;have hin:=hv.f;have Cv:0≤r.low∧r.low<r.high∧r.high≤1000:=by
   have xr:r∈s.aM:=hc2▸eS hc1;have h1:=(gI _).1 (((h_ _).1 hv.f.1).1 r xr);have h2:=hv.f.2 r xr;have:=hv.ag;omega
  simp only[PK,List.replicate,aw,e3,e0,c_,bz,bx];have Cw:=PO s.av.size s.av.base s.av.cu s.av.cells r.low (i64.wrap (r.high-r.low));change PureCall _ _ _ [.one (.str (qB s.av r.low (i64.wrap (r.high-r.low)))),.one (.bool (w8 s.av r.low (i64.wrap (r.high-r.low))))]at Cw;have hd:(qB s.av r.low (i64.wrap (r.high-r.low))).length≤1000:=by
   have:=KB s.av r.low (i64.wrap (r.high-r.low));rw[bA (n:=r.high-r.low) ω ω]at this⊢;unfold dp at this;split at this<;>omega
  generalize (qB s.av r.low (i64.wrap (r.high-r.low)))=d at *;generalize (w8 s.av r.low (i64.wrap (r.high-r.low)))=g at *;simp only[go_sem,I];refine ae.intro Cw ?_;simp only[go_sem,bx];have hg:∀b:Bool,b=b:=fun _=>rfl
  cases pV:decide (s.aW=2)with
  |false=>
   have oK:=hg true;refine gC _ (ia (fun S σ=>∃i h z,i≤bs.length∧True∧σ=PL bs bb bD bu bS dD jk nf ng s k r d g i h z S) (N:=19) rfl rfl ⟨dG,h2,false,‹_›,trivial,rfl⟩ ?_) ?_
   ·repeat'(first|exact jW|refine jX ?_ ?_)
    all_goals(
     rintro S σ F hl a1 hp hcl ⟨e4,eX,z,dC,hc,rfl⟩ bB;obtain⟨ib,dW,ek,dt,eF,jE,kb,kc,ks,ns,pr,yD,yE,yF,yG,yH,zR,Bu,Bv,rfl⟩:=PJ hl;simp only[fm,eW,b4]at a1;subst a1;simp[ix,Region.binds]at hp
     repeat(obtain⟨eu,hp⟩:=hp;subst eu)
     try subst hp
     try obtain rfl:=bd (hcl 0 1 _ rfl ζ rfl)
     try obtain rfl:=bd (hcl 1 17 _ rfl ζ rfl)
     try obtain rfl:=bd (hcl 2 17 _ rfl ζ rfl)
     try obtain rfl:=bd (hcl 3 4 _ rfl ζ rfl)
     try obtain rfl:=bd (hcl 4 5 _ rfl ζ rfl)
     try obtain rfl:=bd (hcl 5 6 _ rfl ζ rfl)
     try obtain rfl:=bd (hcl 6 7 _ rfl ζ rfl)
     try obtain rfl:=bd (hcl 6 9 _ rfl ζ rfl)
     try obtain rfl:=bd (hcl 7 8 _ rfl ζ rfl)
     try obtain rfl:=bd (hcl 8 11 _ rfl ζ rfl)
     try obtain rfl:=bd (hcl 9 10 _ rfl ζ rfl)
     try obtain rfl:=bd (hcl 10 11 _ rfl ζ rfl)
     try obtain rfl:=bd (hcl 11 12 _ rfl ζ rfl)
     try obtain rfl:=bd (hcl 12 13 _ rfl ζ rfl)
     try obtain rfl:=bd (hcl 13 14 _ rfl ζ rfl)
     try obtain rfl:=bd (hcl 14 15 _ rfl ζ rfl)
     try obtain rfl:=bd (hcl 15 16 _ rfl ζ rfl)
     try obtain rfl:=bd (hcl 16 17 _ rfl ζ rfl)
     try obtain rfl:=bd (hcl 17 18 _ rfl ζ rfl)
     simp only[PL,aw,e3,e0,c_,dK]
     repeat'(first
       |exact bB _ ⟨e4,eX,z,dC,hc,rfl⟩
       |(refine cN ?_)
       |(refine eB ?_)
       |simp only[go_sem,bz,bx,pV]))
   rintro _ ⟨dV,ao,z,yA,_,rfl⟩;simp only[PL,List.replicate,aw,e3,e0,c_];simp only[go_sem];exact aW dV ao ⟨r.low,d,false⟩ [_,_,_] yA hd
  |true=>
   cases oK:decide (r.high=s.br)with
   |false=>
    refine gC _ (ia (fun S σ=>∃i h z,i≤bs.length∧True∧σ=PM bs bb bD bu bS dD jk nf ng s k r d g i h z S) (N:=19) rfl rfl ⟨dG,h2,false,‹_›,trivial,rfl⟩ ?_) ?_
    ·repeat'(first|exact jW|refine jX ?_ ?_)
     all_goals(
      rintro S σ F hl a1 hp hcl ⟨e4,eX,z,dC,hc,rfl⟩ bB;obtain⟨ib,dW,ek,dt,eF,jE,kb,kc,ks,ns,pr,yD,yE,yF,yG,yH,zR,Bu,Bv,rfl⟩:=PJ hl;simp only[fm,eW,b4]at a1;subst a1;simp[ix,Region.binds]at hp
      repeat(obtain⟨eu,hp⟩:=hp;subst eu)
      try subst hp
      try obtain rfl:=bd (hcl 0 1 _ rfl ζ rfl)
      try obtain rfl:=bd (hcl 1 17 _ rfl ζ rfl)
      try obtain rfl:=bd (hcl 2 17 _ rfl ζ rfl)
      try obtain rfl:=bd (hcl 3 4 _ rfl ζ rfl)
      try obtain rfl:=bd (hcl 4 5 _ rfl ζ rfl)
      try obtain rfl:=bd (hcl 5 6 _ rfl ζ rfl)
      try obtain rfl:=bd (hcl 6 7 _ rfl ζ rfl)
      try obtain rfl:=bd (hcl 6 9 _ rfl ζ rfl)
      try obtain rfl:=bd (hcl 7 8 _ rfl ζ rfl)
      try obtain rfl:=bd (hcl 8 11 _ rfl ζ rfl)
      try obtain rfl:=bd (hcl 9 10 _ rfl ζ rfl)
      try obtain rfl:=bd (hcl 10 11 _ rfl ζ rfl)
      try obtain rfl:=bd (hcl 11 12 _ rfl ζ rfl)
      try obtain rfl:=bd (hcl 12 13 _ rfl ζ rfl)
      try obtain rfl:=bd (hcl 13 14 _ rfl ζ rfl)
      try obtain rfl:=bd (hcl 14 15 _ rfl ζ rfl)
      try obtain rfl:=bd (hcl 15 16 _ rfl ζ rfl)
      try obtain rfl:=bd (hcl 16 17 _ rfl ζ rfl)
      try obtain rfl:=bd (hcl 17 18 _ rfl ζ rfl)
      simp only[PM,aw,e3,e0,c_,dK]
      repeat'(first
        |exact bB _ ⟨e4,eX,z,dC,hc,rfl⟩
        |(refine cN ?_)
        |(refine eB ?_)
        |simp only[go_sem,bz,bx,pV,oK]))
    rintro _ ⟨dV,ao,z,yA,_,rfl⟩;simp only[PM,List.replicate,aw,e3,e0,c_];simp only[go_sem];exact aW dV ao ⟨r.low,d,false⟩ [_,_,_] yA hd
   |true=>
    refine gC _ (ia (fun S σ=>∃i h z,i≤bs.length∧True∧σ=PN bs bb bD bu bS dD jk nf ng s k r d g i h z S) (N:=19) rfl rfl ⟨dG,h2,false,‹_›,trivial,rfl⟩ ?_) ?_
    ·repeat'(first|exact jW|refine jX ?_ ?_)
     all_goals(
      rintro S σ F hl a1 hp hcl ⟨e4,eX,z,dC,hc,rfl⟩ bB;obtain⟨ib,dW,ek,dt,eF,jE,kb,kc,ks,ns,pr,yD,yE,yF,yG,yH,zR,Bu,Bv,rfl⟩:=PJ hl;simp only[fm,eW,b4]at a1;subst a1;simp[ix,Region.binds]at hp
      repeat(obtain⟨eu,hp⟩:=hp;subst eu)
      try subst hp
      try obtain rfl:=bd (hcl 0 1 _ rfl ζ rfl)
      try obtain rfl:=bd (hcl 1 17 _ rfl ζ rfl)
      try obtain rfl:=bd (hcl 2 17 _ rfl ζ rfl)
      try obtain rfl:=bd (hcl 3 4 _ rfl ζ rfl)
      try obtain rfl:=bd (hcl 4 5 _ rfl ζ rfl)
      try obtain rfl:=bd (hcl 5 6 _ rfl ζ rfl)
      try obtain rfl:=bd (hcl 6 7 _ rfl ζ rfl)
      try obtain rfl:=bd (hcl 6 9 _ rfl ζ rfl)
      try obtain rfl:=bd (hcl 7 8 _ rfl ζ rfl)
      try obtain rfl:=bd (hcl 8 11 _ rfl ζ rfl)
      try obtain rfl:=bd (hcl 9 10 _ rfl ζ rfl)
      try obtain rfl:=bd (hcl 10 11 _ rfl ζ rfl)
      try obtain rfl:=bd (hcl 11 12 _ rfl ζ rfl)
      try obtain rfl:=bd (hcl 12 13 _ rfl ζ rfl)
      try obtain rfl:=bd (hcl 13 14 _ rfl ζ rfl)
      try obtain rfl:=bd (hcl 14 15 _ rfl ζ rfl)
      try obtain rfl:=bd (hcl 15 16 _ rfl ζ rfl)
      try obtain rfl:=bd (hcl 16 17 _ rfl ζ rfl)
      try obtain rfl:=bd (hcl 17 18 _ rfl ζ rfl)
      simp only[PN,aw,e3,e0,c_,dK]
      repeat'(first
        |exact bB _ ⟨e4,eX,z,dC,hc,rfl⟩
        |(refine cN ?_)
        |(refine eB ?_)
        |(refine ae.inl (p' bs hm e4 eX [bb,bD] [bu,bS,dD,.ah 1 ((s).av.cells.map aR) true,.ah 2 ((s).aP.map J.enc) true,.ah 2 ((s).aM.map J.enc) true,.ah 2 ((s).a0.map J.enc) true,jk,nf,ng,.box (au.aG (s) (.sl 6 0 (s).av.cells.length) (.sl 7 0 (s).aP.length) (.sl 8 0 (s).aM.length) (.sl 9 0 (s).a0.length)),.box [.i 0,.d (.str []),.d (.bool false)],.box [.i r.low,.i r.high]] _ 2 ω ω _ dC fun dV ao gx ct=>?_);simp only[go_sem,fM];exact bB _ ⟨_,_,gx,‹_›,trivial,rfl⟩)
        |simp only[go_sem,bz,bx,pV,oK]))
    rintro _ ⟨dV,ao,z,yA,_,rfl⟩;simp only[PN,List.replicate,aw,e3,e0,c_];simp only[go_sem];exact aW dV ao ⟨r.low,d,z⟩ [_,_,_] yA hd
def Hu(bs:List Int)(bb bD bu bS dD:H)(s:au)(PQ ahI ahJ ahK:V)(i:Nat)(h:Int)(z:List UInt8)(S:List Bool):St:=⟨(.ptr 2 0 0::.al::.al::.ptr 10 0 0::.ptr 11 0 0::.ptr 12 0 0::aA 3 (.ptr 2 0 0::PQ::.d (.bool true)::ahI::ahJ::ahK::(aw S 4 (.eh [.agg (au.aG ((g5 s z)) (.sl 13 0 ((g5 s z)).av.cells.length) (.sl 14 0 ((g5 s z)).aP.length) (.sl 15 0 ((g5 s z)).aM.length) (.sl 16 0 ((g5 s z)).a0.length)),.i (xm s z)]))::(aw S 0 (.agg (au.aG (s) (.sl 6 0 (s).av.cells.length) (.sl 7 0 (s).aP.length) (.sl 8 0 (s).aM.length) (.sl 9 0 (s).a0.length))))::(aw S 1 (.ptr 2 0 0))::(aw S 2 (.d (.str z)))::(aw S 3 (.eh [.agg (au.aG ((g5 s z)) (.sl 13 0 ((g5 s z)).av.cells.length) (.sl 14 0 ((g5 s z)).aP.length) (.sl 15 0 ((g5 s z)).aM.length) (.sl 16 0 ((g5 s z)).a0.length)),.i (xm s z)]))::(aw S 5 (.agg (au.aG ((g5 s z)) (.sl 13 0 ((g5 s z)).av.cells.length) (.sl 14 0 ((g5 s z)).aP.length) (.sl 15 0 ((g5 s z)).aM.length) (.sl 16 0 ((g5 s z)).a0.length))))::(aw S 6 (.i (xm s z)))::aA 54 [])),[bb,bD,cv bs i h,bu,bS,dD,.ah 1 ((s).av.cells.map aR) true,.ah 2 ((s).aP.map J.enc) true,.ah 2 ((s).aM.map J.enc) true,.ah 2 ((s).a0.map J.enc) true,.box (au.aG (s) (.sl 6 0 (s).av.cells.length) (.sl 7 0 (s).aP.length) (.sl 8 0 (s).aM.length) (.sl 9 0 (s).a0.length)),.box au.cc,(bif S.getD 7 false then .box (au.aG ((g5 s z)) (.sl 13 0 ((g5 s z)).av.cells.length) (.sl 14 0 ((g5 s z)).aP.length) (.sl 15 0 ((g5 s z)).aM.length) (.sl 16 0 ((g5 s z)).a0.length))else .box (au.aG (s) (.sl 6 0 (s).av.cells.length) (.sl 7 0 (s).aP.length) (.sl 8 0 (s).aM.length) (.sl 9 0 (s).a0.length)))]++(bif S.getD 3 false then [.ah 1 (((g5 s z)).av.cells.map aR) true,.ah 2 (((g5 s z)).aP.map J.enc) true,.ah 2 (((g5 s z)).aM.map J.enc) true,.ah 2 (((g5 s z)).a0.map J.enc) true]else [])⟩
def Hv(bs:List Int)(bb bD bu bS dD:H)(s:au)(PQ ahL ahM ahN:V)(i:Nat)(h z:Int)(S:List Bool):St:=⟨(.ptr 2 0 0::.al::.al::.ptr 10 0 0::.ptr 11 0 0::.ptr 12 0 0::(aw S 8 (.ptr 13 0 0))::(aw S 10 (.d (.bool (gH s (i64.wrap (1+z)) 40))))::.al::.ptr 2 0 0::PQ::.d (.bool false)::.d (.bool false)::.d (.bool false)::.d (.bool false)::aA 7 (.d (.bool true)::ahL::ahM::ahN::(aw S 5 (.eh [.agg [.d (.int .i64 (eM s (i64.wrap (1+z)) 40).aH),.d (.str (eM s (i64.wrap (1+z)) 40).data),.d (.bool (eM s (i64.wrap (1+z)) 40).aW)],.d (.bool (gH s (i64.wrap (1+z)) 40))]))::(aw S 0 (.agg (au.aG (s) (.sl 6 0 (s).av.cells.length) (.sl 7 0 (s).aP.length) (.sl 8 0 (s).aM.length) (.sl 9 0 (s).a0.length))))::(aw S 1 (.ptr 2 0 0))::(aw S 2 (.i z))::(aw S 3 (.i (i64.wrap (1+z))))::(aw S 4 (.eh [.agg [.d (.int .i64 (eM s (i64.wrap (1+z)) 40).aH),.d (.str (eM s (i64.wrap (1+z)) 40).data),.d (.bool (eM s (i64.wrap (1+z)) 40).aW)],.d (.bool (gH s (i64.wrap (1+z)) 40))]))::(aw S 6 (.agg [.d (.int .i64 (eM s (i64.wrap (1+z)) 40).aH),.d (.str (eM s (i64.wrap (1+z)) 40).data),.d (.bool (eM s (i64.wrap (1+z)) 40).aW)]))::(aw S 7 (.d (.bool (gH s (i64.wrap (1+z)) 40))))::aA 42 [])),[bb,bD,cv bs i h,bu,bS,dD,.ah 1 ((s).av.cells.map aR) true,.ah 2 ((s).aP.map J.enc) true,.ah 2 ((s).aM.map J.enc) true,.ah 2 ((s).a0.map J.enc) true,.box (au.aG (s) (.sl 6 0 (s).av.cells.length) (.sl 7 0 (s).aP.length) (.sl 8 0 (s).aM.length) (.sl 9 0 (s).a0.length)),.box au.cc,.box (au.aG (s) (.sl 6 0 (s).av.cells.length) (.sl 7 0 (s).aP.length) (.sl 8 0 (s).aM.length) (.sl 9 0 (s).a0.length))]++(bif S.getD 8 false then [.box [(bif S.getD 9 false then .d (.int .i64 (eM s (i64.wrap (1+z)) 40).aH)else .i 0),.d (.str (bif S.getD 9 false then(eM s (i64.wrap (1+z)) 40).data else [])),.d (.bool (bif S.getD 9 false then(eM s (i64.wrap (1+z)) 40).aW else false))]]else [])⟩
def PR(bs:List Int)(bb bD bu bS dD:H)(s:au)(i:Nat)(h:Int)(z:bL)(S:List Bool):St:=⟨(.ptr 2 0 0::.al::.al::.ptr 10 0 0::.ptr 11 0 0::.ptr 12 0 0::aA 3 (.ptr 2 0 0::.i 6::.d (.bool false)::.d (.bool false)::.d (.bool false)::.d (.bool false)::aA 7 (.d (.bool false)::.d (.bool false)::.d (.bool false)::.d (.bool false)::aA 15 (.d (.bool true)::.d (.bool true)::(aw S 0 (.agg (au.aG (s) (.sl 6 0 (s).av.cells.length) (.sl 7 0 (s).aP.length) (.sl 8 0 (s).aM.length) (.sl 9 0 (s).a0.length))))::(aw S 1 (.ptr 2 0 0))::(aw S 2 (.agg (au.aG (s) (.sl 6 0 (s).av.cells.length) (.sl 7 0 (s).aP.length) (.sl 8 0 (s).aM.length) (.sl 9 0 (s).a0.length))))::(aw S 3 (.agg [.i z.aH,.d (.str z.data),.d (.bool z.aW)]))::(aw S 4 (.agg (au.aG ((lq s z)) (.sl 13 0 ((lq s z)).av.cells.length) (.sl 14 0 ((lq s z)).aP.length) (.sl 15 0 ((lq s z)).aM.length) (.sl 16 0 ((lq s z)).a0.length))))::aA 28 [])))),[bb,bD,cv bs i h,bu,bS,dD,.ah 1 ((s).av.cells.map aR) true,.ah 2 ((s).aP.map J.enc) true,.ah 2 ((s).aM.map J.enc) true,.ah 2 ((s).a0.map J.enc) true,.box (au.aG (s) (.sl 6 0 (s).av.cells.length) (.sl 7 0 (s).aP.length) (.sl 8 0 (s).aM.length) (.sl 9 0 (s).a0.length)),.box au.cc,(bif S.getD 5 false then .box (au.aG ((lq s z)) (.sl 13 0 ((lq s z)).av.cells.length) (.sl 14 0 ((lq s z)).aP.length) (.sl 15 0 ((lq s z)).aM.length) (.sl 16 0 ((lq s z)).a0.length))else .box (au.aG (s) (.sl 6 0 (s).av.cells.length) (.sl 7 0 (s).aP.length) (.sl 8 0 (s).aM.length) (.sl 9 0 (s).a0.length)))]++(bif S.getD 4 false then [.ah 1 (((lq s z)).av.cells.map aR) true,.ah 2 (((lq s z)).aP.map J.enc) true,.ah 2 (((lq s z)).aM.map J.enc) true,.ah 2 (((lq s z)).a0.map J.enc) true]else [])⟩
def PS(bs:List Int)(bb bD bu bS dD:H)(s:au)(i:Nat)(h:Int)(z:bL)(S:List Bool):St:=⟨(.ptr 2 0 0::.al::.al::.ptr 10 0 0::.ptr 11 0 0::.ptr 12 0 0::aA 3 (.ptr 2 0 0::.i 7::.d (.bool false)::.d (.bool false)::.d (.bool false)::.d (.bool false)::aA 7 (.d (.bool false)::.d (.bool false)::.d (.bool false)::.d (.bool false)::aA 15 (.d (.bool false)::.d (.bool false)::aA 5 (.d (.bool true)::.d (.bool true)::(aw S 0 (.agg (au.aG (s) (.sl 6 0 (s).av.cells.length) (.sl 7 0 (s).aP.length) (.sl 8 0 (s).aM.length) (.sl 9 0 (s).a0.length))))::(aw S 1 (.ptr 2 0 0))::(aw S 2 (.agg (au.aG (s) (.sl 6 0 (s).av.cells.length) (.sl 7 0 (s).aP.length) (.sl 8 0 (s).aM.length) (.sl 9 0 (s).a0.length))))::(aw S 3 (.agg [.i z.aH,.d (.str z.data),.d (.bool z.aW)]))::(aw S 4 (.agg (au.aG ((kK s z)) (.sl 13 0 ((kK s z)).av.cells.length) (.sl 14 0 ((kK s z)).aP.length) (.sl 15 0 ((kK s z)).aM.length) (.sl 16 0 ((kK s z)).a0.length))))::aA 21 []))))),[bb,bD,cv bs i h,bu,bS,dD,.ah 1 ((s).av.cells.map aR) true,.ah 2 ((s).aP.map J.enc) true,.ah 2 ((s).aM.map J.enc) true,.ah 2 ((s).a0.map J.enc) true,.box (au.aG (s) (.sl 6 0 (s).av.cells.length) (.sl 7 0 (s).aP.length) (.sl 8 0 (s).aM.length) (.sl 9 0 (s).a0.length)),.box au.cc,(bif S.getD 5 false then .box (au.aG ((kK s z)) (.sl 13 0 ((kK s z)).av.cells.length) (.sl 14 0 ((kK s z)).aP.length) (.sl 15 0 ((kK s z)).aM.length) (.sl 16 0 ((kK s z)).a0.length))else .box (au.aG (s) (.sl 6 0 (s).av.cells.length) (.sl 7 0 (s).aP.length) (.sl 8 0 (s).aM.length) (.sl 9 0 (s).a0.length)))]++(bif S.getD 4 false then [.ah 1 (((kK s z)).av.cells.map aR) true,.ah 2 (((kK s z)).aP.map J.enc) true,.ah 2 (((kK s z)).aM.map J.enc) true,.ah 2 (((kK s z)).a0.map J.enc) true]else [])⟩
def PT(bs:List Int)(bb bD bu bS dD:H)(s:au)(i:Nat)(h z:Int)(S:List Bool):St:=⟨(.ptr 2 0 0::.al::.al::.ptr 10 0 0::.ptr 11 0 0::.ptr 12 0 0::aA 3 (.ptr 2 0 0::.i 9::.d (.bool false)::.d (.bool false)::.d (.bool false)::.d (.bool false)::aA 7 (.d (.bool false)::.d (.bool false)::.d (.bool false)::.d (.bool false)::aA 15 (.d (.bool false)::.d (.bool false)::aA 5 (.d (.bool false)::.d (.bool false)::aA 5 (.d (.bool false)::.d (.bool false)::aA 7 [.d (.bool true),.d (.bool true),.ptr 2 0 0,.d (.bool true),(aw S 4 (.eh [.agg (au.aG ((iz s z)) (.sl 13 0 ((iz s z)).av.cells.length) (.sl 14 0 ((iz s z)).aP.length) (.sl 15 0 ((iz s z)).aM.length) (.sl 16 0 ((iz s z)).a0.length)),.d (.bool (oZ s z))])),(aw S 0 (.agg (au.aG (s) (.sl 6 0 (s).av.cells.length) (.sl 7 0 (s).aP.length) (.sl 8 0 (s).aM.length) (.sl 9 0 (s).a0.length)))),(aw S 1 (.ptr 2 0 0)),(aw S 2 (.i z)),(aw S 3 (.eh [.agg (au.aG ((iz s z)) (.sl 13 0 ((iz s z)).av.cells.length) (.sl 14 0 ((iz s z)).aP.length) (.sl 15 0 ((iz s z)).aM.length) (.sl 16 0 ((iz s z)).a0.length)),.d (.bool (oZ s z))])),(aw S 5 (.agg (au.aG ((iz s z)) (.sl 13 0 ((iz s z)).av.cells.length) (.sl 14 0 ((iz s z)).aP.length) (.sl 15 0 ((iz s z)).aM.length) (.sl 16 0 ((iz s z)).a0.length)))),(aw S 6 (.d (.bool (oZ s z)))),.al])))))),[bb,bD,cv bs i h,bu,bS,dD,.ah 1 ((s).av.cells.map aR) true,.ah 2 ((s).aP.map J.enc) true,.ah 2 ((s).aM.map J.enc) true,.ah 2 ((s).a0.map J.enc) true,.box (au.aG (s) (.sl 6 0 (s).av.cells.length) (.sl 7 0 (s).aP.length) (.sl 8 0 (s).aM.length) (.sl 9 0 (s).a0.length)),.box au.cc,(bif S.getD 7 false then .box (au.aG ((iz s z)) (.sl 13 0 ((iz s z)).av.cells.length) (.sl 14 0 ((iz s z)).aP.length) (.sl 15 0 ((iz s z)).aM.length) (.sl 16 0 ((iz s z)).a0.length))else .box (au.aG (s) (.sl 6 0 (s).av.cells.length) (.sl 7 0 (s).aP.length) (.sl 8 0 (s).aM.length) (.sl 9 0 (s).a0.length)))]++(bif S.getD 3 false then [.ah 1 (((iz s z)).av.cells.map aR) true,.ah 2 (((iz s z)).aP.map J.enc) true,.ah 2 (((iz s z)).aM.map J.enc) true,.ah 2 (((iz s z)).a0.map J.enc) true]else [])⟩
theorem ahO(bs:List Int)(hm:bs.length≤maxLen)(i:Nat)(h:Int)(s:au)(E:Int)(hv:fA E s)(ai:E≤300)(bb bD bu bS dD:H)(hq:cA 6 bb∧cA 6 bD∧cA 6 bu∧cA 6 bS∧cA 6 dD)(kv:List V)(bJ:bk 6 kv)(K:V→List H→Prop)(hi:i≤bs.length)
  (hk:∀(cF:Nat) (h':Int) (y:au),cF≤bs.length→fA (E+8) y→K (kL y 6) ([bb,bD,cv bs cF h',bu,bS,dD]++ka y)):d6 prog 247 kv ([bb,bD,cv bs i h,bu,bS,dD]++ka s) [.ptr 2 0 0,kL s 6] K:=by
 have d':=hv.size;have hcl:=hv.c;have lr:∀(cF:Nat) (h':Int),dB 6 [bb,bD,cv bs cF h',bu,bS,dD]:=fun cF h'=>⟨hq.1,hq.2.1,by simp[cv,cA,bk,vok],hq.2.2.1,hq.2.2.2.1,hq.2.2.2.2,trivial⟩;have xI:∀ts:List V,bk 13 ts→bk 13 (ts++kv):=fun ts h=>v9 h (ly ω kv bJ);have ye:∀{x:H},cA 6 x→cA 13 x:=fun h=>jV ω _ h;have Cv:dB 13 [bb,bD]∧dB 13 [bu,bS,dD,.ah 1 ((s).av.cells.map aR) true,.ah 2 ((s).aP.map J.enc) true,.ah 2 ((s).aM.map J.enc) true,.ah 2 ((s).a0.map J.enc) true,.box (au.aG (s) (.sl 6 0 (s).av.cells.length) (.sl 7 0 (s).aP.length) (.sl 8 0 (s).aM.length) (.sl 9 0 (s).a0.length)),.box au.cc,.box (au.aG (s) (.sl 6 0 (s).av.cells.length) (.sl 7 0 (s).aP.length) (.sl 8 0 (s).aM.length) (.sl 9 0 (s).a0.length))]:=⟨⟨ye hq.1,ye hq.2.1,trivial⟩,ye hq.2.2.1,ye hq.2.2.2.1,ye hq.2.2.2.2,by simp[dB,cA,bk,vok]⟩;have XF:dB 13 [bb,bD,bu,bS,dD,.box (au.aG (s) (.sl 6 0 (s).av.cells.length) (.sl 7 0 (s).aP.length) (.sl 8 0 (s).aM.length) (.sl 9 0 (s).a0.length)),.box au.cc,.box (au.aG (s) (.sl 6 0 (s).av.cells.length) (.sl 7 0 (s).aP.length) (.sl 8 0 (s).aM.length) (.sl 9 0 (s).a0.length))]:=⟨ye hq.1,ye hq.2.1,ye hq.2.2.1,ye hq.2.2.2.1,ye hq.2.2.2.2,by simp[dB,cA,bk,vok]⟩;have MO:∀d:List UInt8,d.length≤5→aL 251 [.agg (au.enc s),.one (.str d)] [.agg (au.enc ((g5 s d))),.one (.int .i64 (xm s d))]:=fun d hd=>by apply So<;>omega
 have Hw:∀m l:Int,aL 69 [.agg (au.enc s),.one (.int .i64 m),.one (.int .i64 l)] [.agg [.int .i64 ((eM s m l)).aH,.str ((eM s m l)).data,.bool ((eM s m l)).aW],.one (.bool (gH s m l))]:=fun m l=>by apply NH;omega
 have xw:∀p:bL,p.data.length≤1000→aL 73 [.agg (au.enc s),.agg [.int .i64 p.aH,.str p.data,.bool p.aW]] [.agg (au.enc ((gv s p))),.one (.bool (h8 s p))]:=fun p hp=>by apply T_<;>omega
 have w9:∀p:bL,p.data.length≤1000→aL 275 [.agg (au.enc s),.agg [.int .i64 p.aH,.str p.data,.bool p.aW]] [.agg (au.enc ((lq s p)))]:=fun p hp=>by apply XG<;>omega
 have ahP:∀p:bL,p.data.length≤1000→aL 277 [.agg (au.enc s),.agg [.int .i64 p.aH,.str p.data,.bool p.aW]] [.agg (au.enc ((kK s p)))]:=fun p hp=>by apply XH<;>omega
 have vV:aL 252 [.agg (au.enc s)] [.agg (au.enc ((wg s))),.one (.bool (pz s))]:=by apply Sf<;>omega
 have h5:∀k:Int,aL 256 [.agg (au.enc s),.one (.int .i64 k)] [.agg (au.enc ((iz s k))),.one (.bool (oZ s k))]:=fun k=>by apply Mv<;>omega
 refine d6.n2 ?_;refine(NC (n:=76) (rs:=[.cell 4 57]) func247 rfl call247 rfl rfl ?_);simp only[ka,kL,bz,bx];refine DA b2 2 ?_;simp only[go_sem];refine XI [0,3,4,5] (by simp only[hZ,List.elem_cons,List.elem_nil,Nat.reduceBEq,Nat.reduceAdd,c_,dK];rfl) ?_;refine lx b2 ?_;simp only[go_sem];refine ae.inl (g1 bs hm i h [bb,bD] [bu,bS,dD,.ah 1 ((s).av.cells.map aR) true,.ah 2 ((s).aP.map J.enc) true,.ah 2 ((s).aM.map J.enc) true,.ah 2 ((s).a0.map J.enc) true,.box (au.aG (s) (.sl 6 0 (s).av.cells.length) (.sl 7 0 (s).aP.length) (.sl 8 0 (s).aM.length) (.sl 9 0 (s).a0.length)),.box au.cc,.box (au.aG (s) (.sl 6 0 (s).av.cells.length) (.sl 7 0 (s).aP.length) (.sl 8 0 (s).aM.length) (.sl 9 0 (s).a0.length))] _ 10 ω ω _ hi fun dG h2 k cJ cW eE=>?_);obtain hk|hk|rfl|rfl|rfl|rfl:(k=0∨k=1∨k=2)∨(k=3∨k=4∨k=5)∨k=6∨k=7∨k=8∨k=9:=by omega
 ·skip
  have asT:decide ((0:Int)=0)=true:=rfl;have PU:decide ((1:Int)=0)=false:=rfl;have ahQ:decide ((1:Int)=1)=true:=rfl;have PV:decide ((2:Int)=0)=false:=rfl;have PW:decide ((2:Int)=1)=false:=rfl;have ahR:decide ((2:Int)=2)=true:=rfl;obtain rfl|rfl|rfl:=hk
  all_goals simp only[go_sem,PU,PV,PW]
  all_goals(first|(refine gC _ (ia (fun S σ=>∃i h z,i≤bs.length∧(z.length≤5)∧σ=Hu bs bb bD bu bS dD s (.i 0) (.d (.bool true)) (.al) (.al) i h z S) (N:=8) rfl rfl ⟨dG,h2,[],‹_›,by first|trivial|(simp;done),rfl⟩ ?_) ?_)|(refine gC _ (ia (fun S σ=>∃i h z,i≤bs.length∧(z.length≤5)∧σ=Hu bs bb bD bu bS dD s (.i 1) (.d (.bool false)) (.d (.bool true)) (.al) i h z S) (N:=8) rfl rfl ⟨dG,h2,[],‹_›,by first|trivial|(simp;done),rfl⟩ ?_) ?_)|(refine gC _ (ia (fun S σ=>∃i h z,i≤bs.length∧(z.length≤5)∧σ=Hu bs bb bD bu bS dD s (.i 2) (.d (.bool false)) (.d (.bool false)) (.d (.bool true)) i h z S) (N:=8) rfl rfl ⟨dG,h2,[],‹_›,by first|trivial|(simp;done),rfl⟩ ?_) ?_))
  all_goals(try(
   rintro _ ⟨jH,aN,z,oy,hc,rfl⟩;simp only[Hu,List.replicate,aw,e3,e0,c_,bz,bx];simp only[go_sem,bz,bx];exact zv bJ (g5 s z) 13 ω (lr _ _) rfl rfl rfl rfl (hk _ _ _ ‹_› (Pw hv ω))))
  all_goals(repeat'(first|exact jW|refine jX ?_ ?_))
  all_goals(
   rintro S σ F hl a1 hp hcl ⟨e4,eX,z,dC,hc,rfl⟩ bB;obtain⟨ib,dW,ek,dt,eF,jE,kb,kc,rfl⟩:=XC hl;simp only[fm,eW,b4]at a1;subst a1;simp[ix,Region.binds]at hp
   repeat(obtain⟨eu,hp⟩:=hp;subst eu)
   try subst hp
   try obtain rfl:=bd (hcl 0 3 _ rfl ζ rfl)
   try obtain rfl:=bd (hcl 1 2 _ rfl ζ rfl)
   try obtain rfl:=bd (hcl 2 3 _ rfl ζ rfl)
   try obtain rfl:=bd (hcl 3 4 _ rfl ζ rfl)
   try obtain rfl:=bd (hcl 4 5 _ rfl ζ rfl)
   try obtain rfl:=bd (hcl 4 6 _ rfl ζ rfl)
   try obtain rfl:=bd (hcl 5 7 _ rfl ζ rfl)
   simp only[Hu,aw,e3,e0,c_,dK,bz,bx,gm]
   repeat'(first
     |exact bB _ ⟨e4,eX,z,dC,hc,rfl⟩
     |(refine cN ?_)
     |(refine eB ?_)
     |(refine ae.inl (IT bs hm e4 eX [bb,bD] [bu,bS,dD,.ah 1 ((s).av.cells.map aR) true,.ah 2 ((s).aP.map J.enc) true,.ah 2 ((s).aM.map J.enc) true,.ah 2 ((s).a0.map J.enc) true,.box (au.aG (s) (.sl 6 0 (s).av.cells.length) (.sl 7 0 (s).aP.length) (.sl 8 0 (s).aM.length) (.sl 9 0 (s).a0.length)),.box au.cc,.box (au.aG (s) (.sl 6 0 (s).av.cells.length) (.sl 7 0 (s).aP.length) (.sl 8 0 (s).aM.length) (.sl 9 0 (s).a0.length))] _ 5 Cv (xI _ (by simp[bk,vok,C'])) ω _ dC fun dV ao dt ct d4=>?_);simp only[go_sem,fM];exact bB _ ⟨_,_,dt,‹_›,by first|assumption|trivial,rfl⟩)
     |(refine ae.intro (MO _ hc) ?_)
     |simp only[go_sem,I,bz,bx]))
 ·skip
  have ahS:decide ((3:Int)=0)=false:=rfl;have ahT:decide ((3:Int)=1)=false:=rfl;have ahU:decide ((3:Int)=2)=false:=rfl;have asU:decide ((3:Int)=3)=true:=rfl;have ahV:decide ((4:Int)=0)=false:=rfl;have ahW:decide ((4:Int)=1)=false:=rfl;have ahX:decide ((4:Int)=2)=false:=rfl;have ahY:decide ((4:Int)=3)=false:=rfl;have asV:decide ((4:Int)=4)=true:=rfl;have ahZ:decide ((5:Int)=0)=false:=rfl;have ah0:decide ((5:Int)=1)=false:=rfl;have ah1:decide ((5:Int)=2)=false:=rfl;have ah2:decide ((5:Int)=3)=false:=rfl;have ah3:decide ((5:Int)=4)=false:=rfl;have asW:decide ((5:Int)=5)=true:=rfl;obtain rfl|rfl|rfl:=hk
  all_goals simp only[go_sem,ahS,ahT,ahU,ahV,ahW,ahX,ahY,ahZ,ah0,ah1,ah2,ah3]
  all_goals(first|(refine gC _ (ia (fun S σ=>∃i h z,i≤bs.length∧(0≤z∧z<4)∧σ=Hv bs bb bD bu bS dD s (.i 3) (.d (.bool true)) (.al) (.al) i h z S) (N:=11) rfl rfl ⟨dG,h2,0,‹_›,by first|trivial|(simp;done),rfl⟩ ?_) ?_)|(refine gC _ (ia (fun S σ=>∃i h z,i≤bs.length∧(0≤z∧z<4)∧σ=Hv bs bb bD bu bS dD s (.i 4) (.d (.bool false)) (.d (.bool true)) (.al) i h z S) (N:=11) rfl rfl ⟨dG,h2,0,‹_›,by first|trivial|(simp;done),rfl⟩ ?_) ?_)|(refine gC _ (ia (fun S σ=>∃i h z,i≤bs.length∧(0≤z∧z<4)∧σ=Hv bs bb bD bu bS dD s (.i 5) (.d (.bool false)) (.d (.bool false)) (.d (.bool true)) i h z S) (N:=11) rfl rfl ⟨dG,h2,0,‹_›,by first|trivial|(simp;done),rfl⟩ ?_) ?_))
  all_goals(try(
   rintro _ ⟨jH,aN,z,oy,hc,rfl⟩;simp only[Hv,List.replicate,aw,e3,e0,c_,bz,bx];have fD:(eM s (i64.wrap (1+z)) 40).data.length≤1000:=by
    have hw:i64.wrap (1+z)=1+z:=by rw[bA]<;>omega
    have:=DC (s:=s) (m:=(i64.wrap (1+z))) (l:=40) (by rw[bA]<;>omega) (by rw[bA]<;>omega) hv.p (by have:=hv.ag;omega);omega
   generalize (eM s (i64.wrap (1+z)) 40)=p at *;generalize (gH s (i64.wrap (1+z)) 40)=g at *;simp only[go_sem]
   cases g with
   |true=>
    simp only[go_sem,I];refine ae.intro (xw p fD) ?_;simp only[go_sem,I,bz,bx];exact zv bJ (gv s p) 14 ω (lr _ _) rfl rfl rfl rfl (hk _ _ _ ‹_› ((FO hv ω).mono ω))
   |false=>
    simp only[go_sem,bz,bx];exact zv bJ s 6 ω (lr _ _) rfl rfl rfl rfl (hk _ _ _ ‹_› (hv.mono ω))))
  all_goals(repeat'(first|exact jW|refine jX ?_ ?_))
  all_goals(
   rintro S σ F hl a1 hp hcl ⟨e4,eX,z,dC,hc,rfl⟩ bB;obtain⟨ib,dW,ek,dt,eF,jE,kb,kc,ks,ns,pr,rfl⟩:=XD hl;simp only[fm,eW,b4]at a1;subst a1;simp[ix,Region.binds]at hp
   repeat(obtain⟨eu,hp⟩:=hp;subst eu)
   try subst hp
   try obtain rfl:=bd (hcl 0 4 _ rfl ζ rfl)
   try obtain rfl:=bd (hcl 1 2 _ rfl ζ rfl)
   try obtain rfl:=bd (hcl 2 3 _ rfl ζ rfl)
   try obtain rfl:=bd (hcl 3 4 _ rfl ζ rfl)
   try obtain rfl:=bd (hcl 4 5 _ rfl ζ rfl)
   try obtain rfl:=bd (hcl 5 6 _ rfl ζ rfl)
   try obtain rfl:=bd (hcl 5 7 _ rfl ζ rfl)
   try obtain rfl:=bd (hcl 6 9 _ rfl ζ rfl)
   try obtain rfl:=bd (hcl 7 10 _ rfl ζ rfl)
   try obtain rfl:=bd (hcl 8 9 _ rfl ζ rfl)
   try obtain rfl:=bd (hcl 9 10 _ rfl ζ rfl)
   simp only[Hv,aw,e3,e0,c_,dK,bz,bx,gm]
   repeat'(first
     |exact bB _ ⟨e4,eX,z,dC,hc,rfl⟩
     |(refine cN ?_)
     |(refine eB ?_)
     |(cases ks<;>simp only[c_,dK])
     |(refine ae.inl (g1 bs hm e4 eX [bb,bD] [bu,bS,dD,.ah 1 ((s).av.cells.map aR) true,.ah 2 ((s).aP.map J.enc) true,.ah 2 ((s).aM.map J.enc) true,.ah 2 ((s).a0.map J.enc) true,.box (au.aG (s) (.sl 6 0 (s).av.cells.length) (.sl 7 0 (s).aP.length) (.sl 8 0 (s).aM.length) (.sl 9 0 (s).a0.length)),.box au.cc,.box (au.aG (s) (.sl 6 0 (s).av.cells.length) (.sl 7 0 (s).aP.length) (.sl 8 0 (s).aM.length) (.sl 9 0 (s).a0.length))] _ 4 ω ω _ dC fun dV ao gx ct c8 hE=>?_);simp only[go_sem,fM];exact bB _ ⟨_,_,gx,‹_›,by first|exact⟨c8,hE⟩|trivial,rfl⟩)
     |(refine ae.inl (g1 bs hm e4 eX [bb,bD] [bu,bS,dD,.ah 1 ((s).av.cells.map aR) true,.ah 2 ((s).aP.map J.enc) true,.ah 2 ((s).aM.map J.enc) true,.ah 2 ((s).a0.map J.enc) true,.box (au.aG (s) (.sl 6 0 (s).av.cells.length) (.sl 7 0 (s).aP.length) (.sl 8 0 (s).aM.length) (.sl 9 0 (s).a0.length)),.box au.cc,.box (au.aG (s) (.sl 6 0 (s).av.cells.length) (.sl 7 0 (s).aP.length) (.sl 8 0 (s).aM.length) (.sl 9 0 (s).a0.length)),.box [.i 0,.d (.str []),.d (.bool false)]] _ 4 ω ω _ dC fun dV ao gx ct c8 hE=>?_);simp only[go_sem,fM];exact bB _ ⟨_,_,gx,‹_›,by first|exact⟨c8,hE⟩|trivial,rfl⟩)
     |(refine ae.intro (Hw _ 40) ?_)
     |simp only[go_sem,I,bz,bx]))
 ·skip
  have d0:decide ((6:Int)=0)=false:=rfl;have fw:decide ((6:Int)=1)=false:=rfl;have fH:decide ((6:Int)=2)=false:=rfl;have h4:decide ((6:Int)=3)=false:=rfl;have kF:decide ((6:Int)=4)=false:=rfl;have vW:decide ((6:Int)=5)=false:=rfl;have yf:decide ((6:Int)=6)=true:=rfl;simp only[go_sem,d0,fw,fH,h4,kF,vW];refine gC _ (ia (fun S σ=>∃i h z,i≤bs.length∧(z.data.length≤1000)∧σ=PR bs bb bD bu bS dD s i h z S) (N:=6) rfl rfl ⟨dG,h2,⟨0,[],false⟩,‹_›,by first|trivial|(simp;done),rfl⟩ ?_) ?_
  ·repeat'(first|exact jW|refine jX ?_ ?_)
   all_goals(
    rintro S σ F hl a1 hp hcl ⟨e4,eX,z,dC,hc,rfl⟩ bB;obtain⟨ib,dW,ek,dt,eF,jE,rfl⟩:=XB hl;simp only[fm,eW,b4]at a1;subst a1;simp[ix,Region.binds]at hp
    repeat(obtain⟨eu,hp⟩:=hp;subst eu)
    try subst hp
    try obtain rfl:=bd (hcl 0 4 _ rfl ζ rfl)
    try obtain rfl:=bd (hcl 1 3 _ rfl ζ rfl)
    try obtain rfl:=bd (hcl 2 3 _ rfl ζ rfl)
    try obtain rfl:=bd (hcl 3 4 _ rfl ζ rfl)
    try obtain rfl:=bd (hcl 4 5 _ rfl ζ rfl)
    simp only[PR,aw,e3,e0,c_,dK,bz,bx,gm]
    repeat'(first
      |exact bB _ ⟨e4,eX,z,dC,hc,rfl⟩
      |(refine cN ?_)
      |(refine eB ?_)
      |(refine ae.inl (XE bs hm e4 eX s E hv ω bb bD bu bS dD _ _ _ XF _ (xI _ (by simp[bk,vok,C'])) _ dC fun dV ao jl ct d4=>?_);simp only[go_sem,fM];exact bB _ ⟨_,_,jl,‹_›,d4,rfl⟩)
      |(refine ae.intro (w9 z hc) ?_)
      |simp only[go_sem,I,bz,bx]))
  rintro _ ⟨jH,aN,z,oy,hc,rfl⟩;simp only[PR,List.replicate,aw,e3,e0,c_,bz,bx];simp only[go_sem,bz,bx];exact zv bJ (lq s z) 13 ω (lr _ _) rfl rfl rfl rfl (hk _ _ _ ‹_› ((Xe hv).mono ω))
 ·skip
  have d0:decide ((7:Int)=0)=false:=rfl;have fw:decide ((7:Int)=1)=false:=rfl;have fH:decide ((7:Int)=2)=false:=rfl;have h4:decide ((7:Int)=3)=false:=rfl;have kF:decide ((7:Int)=4)=false:=rfl;have vW:decide ((7:Int)=5)=false:=rfl;have yf:decide ((7:Int)=6)=false:=rfl;have A5:decide ((7:Int)=7)=true:=rfl;simp only[go_sem,d0,fw,fH,h4,kF,vW,yf];refine gC _ (ia (fun S σ=>∃i h z,i≤bs.length∧(z.data.length≤1000)∧σ=PS bs bb bD bu bS dD s i h z S) (N:=6) rfl rfl ⟨dG,h2,⟨0,[],false⟩,‹_›,by first|trivial|(simp;done),rfl⟩ ?_) ?_
  ·repeat'(first|exact jW|refine jX ?_ ?_)
   all_goals(
    rintro S σ F hl a1 hp hcl ⟨e4,eX,z,dC,hc,rfl⟩ bB;obtain⟨ib,dW,ek,dt,eF,jE,rfl⟩:=XB hl;simp only[fm,eW,b4]at a1;subst a1;simp[ix,Region.binds]at hp
    repeat(obtain⟨eu,hp⟩:=hp;subst eu)
    try subst hp
    try obtain rfl:=bd (hcl 0 4 _ rfl ζ rfl)
    try obtain rfl:=bd (hcl 1 3 _ rfl ζ rfl)
    try obtain rfl:=bd (hcl 2 3 _ rfl ζ rfl)
    try obtain rfl:=bd (hcl 3 4 _ rfl ζ rfl)
    try obtain rfl:=bd (hcl 4 5 _ rfl ζ rfl)
    simp only[PS,aw,e3,e0,c_,dK,bz,bx,gm]
    repeat'(first
      |exact bB _ ⟨e4,eX,z,dC,hc,rfl⟩
      |(refine cN ?_)
      |(refine eB ?_)
      |(refine ae.inl (XE bs hm e4 eX s E hv ω bb bD bu bS dD _ _ _ XF _ (xI _ (by simp[bk,vok,C'])) _ dC fun dV ao jl ct d4=>?_);simp only[go_sem,fM];exact bB _ ⟨_,_,jl,‹_›,d4,rfl⟩)
      |(refine ae.intro (ahP z hc) ?_)
      |simp only[go_sem,I,bz,bx]))
  rintro _ ⟨jH,aN,z,oy,hc,rfl⟩;simp only[PS,List.replicate,aw,e3,e0,c_,bz,bx];simp only[go_sem,bz,bx];exact zv bJ (kK s z) 13 ω (lr _ _) rfl rfl rfl rfl (hk _ _ _ ‹_› ((Xf hv).mono ω))
 ·skip
  have d0:decide ((8:Int)=0)=false:=rfl;have fw:decide ((8:Int)=1)=false:=rfl;have fH:decide ((8:Int)=2)=false:=rfl;have h4:decide ((8:Int)=3)=false:=rfl;have kF:decide ((8:Int)=4)=false:=rfl;have vW:decide ((8:Int)=5)=false:=rfl;have yf:decide ((8:Int)=6)=false:=rfl;have A5:decide ((8:Int)=7)=false:=rfl;have rm:decide ((8:Int)=8)=true:=rfl;simp only[go_sem,d0,fw,fH,h4,kF,vW,yf,A5];refine ae.inl (p' bs hm dG h2 [bb,bD] [bu,bS,dD,.ah 1 ((s).av.cells.map aR) true,.ah 2 ((s).aP.map J.enc) true,.ah 2 ((s).aM.map J.enc) true,.ah 2 ((s).a0.map J.enc) true,.box (au.aG (s) (.sl 6 0 (s).av.cells.length) (.sl 7 0 (s).aP.length) (.sl 8 0 (s).aM.length) (.sl 9 0 (s).a0.length)),.box au.cc,.box (au.aG (s) (.sl 6 0 (s).av.cells.length) (.sl 7 0 (s).aP.length) (.sl 8 0 (s).aM.length) (.sl 9 0 (s).a0.length))] _ 2 ω ω _ cJ fun dV ao c8 ct=>?_)
  cases c8 with
  |true=>
   simp only[go_sem,I,bz,bx];refine ae.intro vV ?_;simp only[go_sem,I,bz,bx];exact zv bJ (wg s) 13 ω (lr _ _) rfl rfl rfl rfl (hk _ _ _ ‹_› ((Px hv).mono ω))
  |false=>
   simp only[go_sem,bz,bx];exact zv bJ s 6 ω (lr _ _) rfl rfl rfl rfl (hk _ _ _ ‹_› (hv.mono ω))
 ·skip
  have d0:decide ((9:Int)=0)=false:=rfl;have fw:decide ((9:Int)=1)=false:=rfl;have fH:decide ((9:Int)=2)=false:=rfl;have h4:decide ((9:Int)=3)=false:=rfl;have kF:decide ((9:Int)=4)=false:=rfl;have vW:decide ((9:Int)=5)=false:=rfl;have yf:decide ((9:Int)=6)=false:=rfl;have A5:decide ((9:Int)=7)=false:=rfl;have rm:decide ((9:Int)=8)=false:=rfl;have ah4:decide ((9:Int)=9)=true:=rfl;simp only[go_sem,d0,fw,fH,h4,kF,vW,yf,A5,rm];refine ae.inl (p' bs hm dG h2 [bb,bD] [bu,bS,dD,.ah 1 ((s).av.cells.map aR) true,.ah 2 ((s).aP.map J.enc) true,.ah 2 ((s).aM.map J.enc) true,.ah 2 ((s).a0.map J.enc) true,.box (au.aG (s) (.sl 6 0 (s).av.cells.length) (.sl 7 0 (s).aP.length) (.sl 8 0 (s).aM.length) (.sl 9 0 (s).a0.length)),.box au.cc,.box (au.aG (s) (.sl 6 0 (s).av.cells.length) (.sl 7 0 (s).aP.length) (.sl 8 0 (s).aM.length) (.sl 9 0 (s).a0.length))] _ 4 ω ω _ cJ fun dV ao c8 ct=>?_)
  cases c8 with
  |true=>
   simp only[go_sem,bz,bx];refine gC _ (ia (fun S σ=>∃i h z,i≤bs.length∧(True)∧σ=PT bs bb bD bu bS dD s i h z S) (N:=8) rfl rfl ⟨dV,ao,0,‹_›,by first|trivial|(simp;done),rfl⟩ ?_) ?_
   ·repeat'(first|exact jW|refine jX ?_ ?_)
    all_goals(
     rintro S σ F hl a1 hp hcl ⟨e4,eX,z,dC,hc,rfl⟩ bB;obtain⟨ib,dW,ek,dt,eF,jE,kb,kc,rfl⟩:=XC hl;simp only[fm,eW,b4]at a1;subst a1;simp[ix,Region.binds]at hp
     repeat(obtain⟨eu,hp⟩:=hp;subst eu)
     try subst hp
     try obtain rfl:=bd (hcl 0 3 _ rfl ζ rfl)
     try obtain rfl:=bd (hcl 1 2 _ rfl ζ rfl)
     try obtain rfl:=bd (hcl 2 3 _ rfl ζ rfl)
     try obtain rfl:=bd (hcl 3 4 _ rfl ζ rfl)
     try obtain rfl:=bd (hcl 4 5 _ rfl ζ rfl)
     try obtain rfl:=bd (hcl 4 6 _ rfl ζ rfl)
     try obtain rfl:=bd (hcl 5 7 _ rfl ζ rfl)
     simp only[PT,aw,e3,e0,c_,dK,bz,bx,gm]
     repeat'(first
       |exact bB _ ⟨e4,eX,z,dC,hc,rfl⟩
       |(refine cN ?_)
       |(refine eB ?_)
       |(refine ae.inl (g1 bs hm e4 eX [bb,bD] [bu,bS,dD,.ah 1 ((s).av.cells.map aR) true,.ah 2 ((s).aP.map J.enc) true,.ah 2 ((s).aM.map J.enc) true,.ah 2 ((s).a0.map J.enc) true,.box (au.aG (s) (.sl 6 0 (s).av.cells.length) (.sl 7 0 (s).aP.length) (.sl 8 0 (s).aM.length) (.sl 9 0 (s).a0.length)),.box au.cc,.box (au.aG (s) (.sl 6 0 (s).av.cells.length) (.sl 7 0 (s).aP.length) (.sl 8 0 (s).aM.length) (.sl 9 0 (s).a0.length))] _ 4 ω ω _ dC fun dV ao gx ct c8 hE=>?_);simp only[go_sem,fM];exact bB _ ⟨_,_,gx,‹_›,by first|assumption|trivial,rfl⟩)
       |(refine ae.intro (h5 _) ?_)
       |simp only[go_sem,I,bz,bx]))
   rintro _ ⟨jH,aN,z,oy,hc,rfl⟩;simp only[PT,List.replicate,aw,e3,e0,c_,bz,bx];simp only[go_sem,bz,bx];exact zv bJ (iz s z) 13 ω (lr _ _) rfl rfl rfl rfl (hk _ _ _ ‹_› ((Xa hv z).mono ω))
  |false=>
   simp only[go_sem,bz,bx];exact zv bJ s 6 ω (lr _ _) rfl rfl rfl rfl (hk _ _ _ ‹_› (hv.mono ω))
def TF:List (List bR):=cS 10 [55769,57958,58963,58945,59008,58810,58324,56863,52488,39366]
attribute [go_sem] TF
theorem TG(c:aa):aL 98 [.agg (aa.enc c)] [.agg (eD.enc ((md c).1)),.one (.bool (md c).2)]:=by
 refine a3 26 func98 call98 [.cell 2 30,.tmp 3] ?_;intro _
 try simp only[go_sem]
 repeat'(refine ae.intro (by apply Ni) ?_<;>simp only[go_sem])
 cases h:qd c.dq with
 |true=>
  try simp only[go_sem]
  repeat'(refine ae.intro (by apply TH) ?_<;>simp only[go_sem])
  simp[md,h]
 |false=>
  simp only[go_sem];apply I6;(focus ((repeat'(first|exact vp|(refine vq ?_ ?_)|(refine xx rfl ?_)|(refine xy rfl ?_)|(simp only[go_sem])));all_goals exact rfl));simp only[go_sem];simp[md,h]
theorem I7(fN fO fP fQ:Int)(t:Bool):aL 99 [.agg [.int .i64 fN,.int .i64 fO,.int .i64 fP,.int .i64 fQ],.one (.bool t)] [.agg [.int .i64 ((hD (⟨fN,fO,fP,fQ⟩:eL) t).1).ck,.int .i64 ((hD (⟨fN,fO,fP,fQ⟩:eL) t).1).aZ,.int .i64 ((hD (⟨fN,fO,fP,fQ⟩:eL) t).1).seen,.int .i64 ((hD (⟨fN,fO,fP,fQ⟩:eL) t).1).d9],.one (.bool ((hD (⟨fN,fO,fP,fQ⟩:eL) t).2))]:=by
 refine a3 19 func99 call99 [.cell 4 34,.tmp 5] ?_;intro _
 try simp only[go_sem]
 repeat'((first|refine ae.intro (by first|apply TI|apply acH) ?_|refine bP (fun h=>?_) (fun h=>?_))<;>simp only[go_sem])
 all_goals simp[hD, *]
theorem acI(s:af):(bif bif !s.gO then true else decide (s.a2.b0≠0)then true else s.j2)=!q1 s:=by
 unfold q1
 cases s.gO<;>cases s.j2<;>by_cases h:s.a2.b0=0<;>simp[h]
theorem TJ(c:aa)(s:af):aL 178 [.agg (aa.enc c),.agg (af.enc s)] [.agg (eD.enc ((lE c s).1)),.one (.bool (lE c s).2)]:=by
 refine a3 43 func178 call178 [.cell 4 30,.tmp 5] ?_;intro _;have b7:=acI s
 try simp only[go_sem]
 repeat'(refine bw ?_<;>simp only[go_sem])
 rw[b7]
 cases hg:q1 s with
 |false=>
  try simp only[go_sem,cR]
  all_goals simp[lE, *]
 |true=>
  try simp only[go_sem,bN]
  repeat'(refine ae.intro (by apply Ni) ?_<;>simp only[go_sem])
  cases h:qd s.b1 with
  |true=>
   try simp only[go_sem]
   repeat'(refine ae.intro (by apply TH) ?_<;>simp only[go_sem])
   simp[lE,h,hg]
  |false=>
   simp only[go_sem];apply I6;(focus ((repeat'(first|exact vp|(refine vq ?_ ?_)|(refine xx rfl ?_)|(refine xy rfl ?_)|(simp only[go_sem])));all_goals exact rfl));simp only[go_sem];simp[lE,h,hg]
theorem SR(s:af):(bif bif n6 s.cV then s.fF else false then decide (0<(s.ak.aP.length:Int))else false)=(n6 s.cV&&s.fF&&decide (0<(s.ak.aP.length:Int))):=by cases n6 s.cV<;>cases s.fF<;>rfl
theorem SQ(s:af):(bif s.hL then decide (s.a2.b0<2)else false)=(s.hL&&decide (s.a2.b0<2)):=by cases s.hL<;>rfl
theorem acJ(c:aa)(s:af):aL 100 [.agg (aa.enc c),.agg (af.enc s)] [.one (.sl 9 ((gk c s).map aq.enc))]:=by
 refine om 78 func100 call100 [.tmp 4] ?_;intro ok;clear ok;have ai:gk c s=ji s++k' s++l0 c s++pE s:=rfl;have g6:=yV c s;rw[ai]at g6;simp only[dY]at g6;refine e2 b2 3 (α:=List aq) (fun bK=>⟨(.al::.al::.ptr 0 0 0::.ptr 1 0 0::.al::.sl 2 0 bK.length::aA 72 []),[.box (aa.bT c),.box (af.bT s),.ah 9 (bK.map aq.enc) true]⟩) (fun bK=>bK=ji s) ?_ ?_
 ·skip
  try simp only[go_sem]
  cases h:s.jG with
  |true=>
   try simp only[go_sem]
   repeat'(first|(with_reducible refine az ?_)|fail)
   refine dm.intro (ji s) [0,1,4] rfl ?_;simp only[go_sem];simp[ji,h,n7,aq.enc]
  |false=>
   simp only[go_sem];refine dm.intro (ji s) [0,1,2] rfl ?_;simp only[go_sem];simp[ji,h]
 rintro bK de;have e6:bK.length≤4:=by rw[de];(try simp only[dY]);omega
 refine e2 b2 1 (α:=List aq) (fun bK=>⟨(.al::.al::.ptr 0 0 0::.ptr 1 0 0::.al::.sl 2 0 bK.length::aA 72 []),[.box (aa.bT c),.box (af.bT s),.ah 9 (bK.map aq.enc) true]⟩) (fun bK=>bK=ji s++k' s) ?_ ?_
 ·skip
  try simp only[go_sem]
  repeat'(refine bw ?_<;>simp only[go_sem])
  rw[SQ s]
  cases h:s.hL&&decide (s.a2.b0<2)with
  |true=>
   try simp only[go_sem,I]
   repeat'(first|(with_reducible refine az ?_)|fail)
   refine dm.intro (ji s++k' s) [0,1,4] rfl ?_;simp only[go_sem];simp[k',h,de,n7,aq.enc]
  |false=>
   simp only[go_sem];refine dm.intro (ji s++k' s) [0,1,2] rfl ?_;simp only[go_sem];simp[k',h,de]
 rintro bK de;have e6:bK.length≤4:=by rw[de];(try simp only[dY]);omega
 refine e2 b2 2 (α:=List aq) (fun bK=>⟨(.al::.al::.ptr 0 0 0::.ptr 1 0 0::.al::.sl 2 0 bK.length::aA 72 []),[.box (aa.bT c),.box (af.bT s),.ah 9 (bK.map aq.enc) true]⟩) (fun bK=>bK=ji s++k' s++l0 c s) ?_ ?_
 ·skip
  try simp only[go_sem]
  repeat'(refine ae.intro (by apply TJ) ?_<;>simp only[go_sem])
  cases h:(lE c s).2 with
  |true=>
   try simp only[go_sem,I]
   repeat'(first|(with_reducible refine az ?_)|fail)
   refine dm.intro (ji s++k' s++l0 c s) [0,1,5] rfl ?_;simp only[go_sem];simp[l0,h,de,m3,aq.enc]
  |false=>
   simp only[go_sem];refine dm.intro (ji s++k' s++l0 c s) [0,1,2] rfl ?_;simp only[go_sem];simp[l0,h,de]
 rintro bK de;have e6:bK.length≤4:=by rw[de];(try simp only[dY]);omega
 refine lx b2 ?_
 try simp only[go_sem]
 repeat'((first|refine ae.intro (by apply TK) ?_|refine bw ?_)<;>simp only[go_sem,I])
 rw[SR s]
 cases h:n6 s.cV&&s.fF&&decide (0<(s.ak.aP.length:Int))with
 |true=>
  have bB:pE s=[m3 21 s.id s.cV.aZ]:=by unfold pE;rw[h];rfl
  try simp only[go_sem,I]
  repeat'(first|(with_reducible refine az ?_)|fail)
  rw[ai,←de,bB];simp[m3,aq.enc,e7]
 |false=>
  have bB:pE s=[]:=by unfold pE;rw[h];rfl
  try simp only[go_sem,I]
  repeat'(first|(with_reducible refine az ?_)|fail)
  rw[ai,←de,bB];simp
def fu(c:aa):List aq:=(if(md c).2 then [gi 16 (md c).1.aZ false]else [])
def ga(c:aa):List aq:=(if(hD c.eo c.lF).2 then [gi 18 (hD c.eo c.lF).1.aZ false]else [])
def gD(c:aa):List aq:=(if(hD c.en c.lG).2 then [gi 18 (hD c.en c.lG).1.aZ true]else [])
def kg(c:aa):List aq:=(if n6 c.cm then [gi 20 c.cm.aZ false]else [])
def m4(c:aa):List aq:=(if c.fe.blocked=c.fe.aZ then [gi 22 c.fe.aZ false]else [])
def vj(c:aa):List aq:=(if c.fc.blocked=c.fc.aZ then [gi 22 c.fc.aZ true]else [])
theorem xv(b:Prop)[Decidable b](f:aq):(if b then [f]else []).length≤1:=by split<;>simp
theorem acK(c:aa)(hz:jC c):aL 42 [.agg (aa.enc c)] [.one (.sl 9 ((fq c).map aq.enc))]:=by
 refine om 113 func42 call42 [.tmp 2] ?_;intro ok;clear ok;have qf:c.ab.length≤30:=hz.1;have ai:fq c=if iv c then fu c++ga c++gD c++c.ab.flatMap (gk c)++(kg c++m4 c++vj c)else []:=rfl
 have cB:(fu c).length≤1:=xv _ _;have cJ:(ga c).length≤1:=xv _ _;have ct:(gD c).length≤1:=xv _ _;have qY:(kg c).length≤1:=xv _ _;have nC:(m4 c).length≤1:=xv _ _;have abE:=Dk (gk c) 4 c.ab fun s _=>yV c s;refine e2 b2 3 (α:=List aq) (fun bK=>⟨(.al::.ptr 0 0 0::.al::.sl 1 0 bK.length::aA 109 []),[.box (aa.bT c),.ah 9 (bK.map aq.enc) true]⟩) (fun bK=>bK=[]∧iv c=true) ?_ ?_
 ·skip
  try simp only[go_sem]
  repeat'(refine ae.intro (by(apply xf<;>exact a6)) ?_<;>simp only[go_sem])
  cases h:iv c with
  |false=>
   simp only[go_sem,cR];rw[ai,h];simp
  |true=>
   simp only[go_sem,bN];refine dm.intro [] [0,1] (by first|exact⟨rfl,rfl⟩|rfl) ?_;simp only[go_sem];simp
 rintro bK ⟨de,bB⟩;have ai:fq c=fu c++ga c++gD c++c.ab.flatMap (gk c)++(kg c++m4 c++vj c):=by rw[ai,bB];rfl
 have e6:bK.length≤0:=by rw[de];simp
 refine e2 b2 2 (α:=List aq) (fun bK=>⟨(.al::.ptr 0 0 0::.al::.sl 1 0 bK.length::aA 109 []),[.box (aa.bT c),.ah 9 (bK.map aq.enc) true]⟩) (fun bK=>bK=fu c) ?_ ?_
 ·skip
  try simp only[go_sem]
  repeat'(refine ae.intro (by apply TG) ?_<;>simp only[go_sem])
  cases h:(md c).2 with
  |true=>
   have bH:fu c=[gi 16 (md c).1.aZ false]:=by unfold fu;rw[h];rfl
   try simp only[go_sem,I]
   repeat'(first|(with_reducible refine az ?_)|fail)
   refine dm.intro (fu c) [0,4] rfl ?_;simp only[go_sem];simp[bH,de,gi,aq.enc]
  |false=>
   have bH:fu c=[]:=by unfold fu;rw[h];rfl
   simp only[go_sem];refine dm.intro (fu c) [0,1] rfl ?_;simp only[go_sem];simp[bH,de]
 clear e6 de;rintro bK de;have e6:bK.length≤100:=by rw[de];(try simp only[dY]);omega
 refine e2 b2 2 (α:=List aq) (fun bK=>⟨(.al::.ptr 0 0 0::.al::.sl 1 0 bK.length::aA 109 []),[.box (aa.bT c),.ah 9 (bK.map aq.enc) true]⟩) (fun bK=>bK=fu c++ga c) ?_ ?_
 ·skip
  try simp only[go_sem]
  repeat'(refine ae.intro (by apply I7) ?_<;>simp only[go_sem])
  cases h:(hD c.eo c.lF).2 with
  |true=>
   have bH:ga c=[gi 18 (hD c.eo c.lF).1.aZ false]:=by unfold ga;rw[h];rfl
   try simp only[go_sem,I]
   repeat'(first|(with_reducible refine az ?_)|fail)
   refine dm.intro (fu c++ga c) [0,4] rfl ?_;simp only[go_sem];simp[bH,de,gi,aq.enc]
  |false=>
   have bH:ga c=[]:=by unfold ga;rw[h];rfl
   simp only[go_sem];refine dm.intro (fu c++ga c) [0,1] rfl ?_;simp only[go_sem];simp[bH,de]
 clear e6 de;rintro bK de;have e6:bK.length≤100:=by rw[de];(try simp only[dY]);omega
 refine e2 b2 2 (α:=List aq) (fun bK=>⟨(.al::.ptr 0 0 0::.al::.sl 1 0 bK.length::aA 109 []),[.box (aa.bT c),.ah 9 (bK.map aq.enc) true]⟩) (fun bK=>bK=fu c++ga c++gD c) ?_ ?_
 ·skip
  try simp only[go_sem]
  repeat'(refine ae.intro (by apply I7) ?_<;>simp only[go_sem])
  cases h:(hD c.en c.lG).2 with
  |true=>
   have bH:gD c=[gi 18 (hD c.en c.lG).1.aZ true]:=by unfold gD;rw[h];rfl
   try simp only[go_sem,I]
   repeat'(first|(with_reducible refine az ?_)|fail)
   refine dm.intro (fu c++ga c++gD c) [0,4] rfl ?_;simp only[go_sem];simp[bH,de,gi,aq.enc,Nat.add_assoc]
  |false=>
   have bH:gD c=[]:=by unfold gD;rw[h];rfl
   simp only[go_sem];refine dm.intro (fu c++ga c++gD c) [0,1] rfl ?_;simp only[go_sem];simp[bH,de]
 clear e6 de;rintro bK de;have e6:bK.length≤100:=by rw[de];(try simp only[dY]);omega
 refine e2 b2 1 (α:=List aq) (fun bK=>⟨(.al::.ptr 0 0 0::.al::.sl 1 0 bK.length::aA 109 []),[.box (aa.bT c),.ah 9 (bK.map aq.enc) true]⟩) (fun bK=>bK=fu c++ga c++gD c++c.ab.flatMap (gk c)) ?_ ?_
 ·simp only[go_sem];subst de;refine cr.intro (α:=Nat×List aq) (fun y=>⟨(.al::.ptr 0 0 0::.al::.sl 1 0 y.2.length::aA 6 (.i y.1::aA 102 [])),[.box (aa.bT c),.ah 9 (y.2.map aq.enc) true]⟩)
   (fun y=>c.ab.length-y.1) (fun y=>y.1≤c.ab.length∧y.2=fu c++ga c++gD c++(c.ab.take y.1).flatMap (gk c)) (0,fu c++ga c++gD c) [0,1] ⟨by simp,by simp⟩ ?_ ?_
  ·simp only[go_sem];simp
  ·rintro⟨i,q⟩ ⟨hi,hq⟩;simp only at hi hq;by_cases h1:i<c.ab.length
   ·have ax:=bC (p:=(i:Int)<(c.ab.length:Int)) ω;have aB:=cq af.enc c.ab i h1;have hw:i64.wrap ((i:Int)+1)=((i+1:Nat):Int):=by rw[bA]<;>omega
    have hs:fu c++ga c++gD c++(c.ab.take (i+1)).flatMap (gk c)=q++gk c c.ab[i]:=by
     rw[hq,gV,cD h1,List.flatMap_append];simp
    have mo:q.length≤3+4 * i:=by
     have:=Dk (gk c) 4 (c.ab.take i) fun s _=>yV c s;rw[List.length_take]at this;rw[hq];simp only[dY];omega
    have abF:=yV c c.ab[i];have a1:=acJ c c.ab[i];generalize gk c c.ab[i]=r at *
    try simp only[go_sem,I,ax]
    repeat'(first|((first|refine ae.intro ‹_› ?_|refine ay.intro ‹_› ?_|refine bo TF χ ψ ?_)<;>simp only[go_sem,I,aE,aB,af.enc])|(with_reducible refine az ?_)|fail)
    refine bE.intro (i+1,q++r) [0,3] ⟨by simp only;omega,hs.symm⟩ (by simp only;omega) ?_;simp only[go_sem,hw];simp
   ·have ax:=bm (p:=(i:Int)<(c.ab.length:Int)) ω;obtain rfl:i=c.ab.length:=by omega
    rw[d3]at hq;subst hq;simp only[go_sem,I,ax];refine dm.intro (fu c++ga c++gD c++c.ab.flatMap (gk c)) [0,1] rfl ?_;simp only[go_sem];simp
 clear e6 de;rintro bK de;have e6:bK.length≤123:=by rw[de];(try simp only[dY]);omega
 refine e2 b2 1 (α:=List aq) (fun bK=>⟨(.al::.ptr 0 0 0::.al::.sl 1 0 bK.length::aA 109 []),[.box (aa.bT c),.ah 9 (bK.map aq.enc) true]⟩) (fun bK=>bK=fu c++ga c++gD c++c.ab.flatMap (gk c)++kg c) ?_ ?_
 ·skip
  try simp only[go_sem]
  repeat'(refine ae.intro (by apply TK) ?_<;>simp only[go_sem])
  cases h:n6 c.cm with
  |true=>
   have bH:kg c=[gi 20 c.cm.aZ false]:=by unfold kg;rw[h];rfl
   try simp only[go_sem,I]
   repeat'(first|(with_reducible refine az ?_)|fail)
   refine dm.intro (fu c++ga c++gD c++c.ab.flatMap (gk c)++kg c) [0,3] rfl ?_;simp only[go_sem];simp[bH,de,gi,aq.enc,Nat.add_assoc]
  |false=>
   have bH:kg c=[]:=by unfold kg;rw[h];rfl
   simp only[go_sem];refine dm.intro (fu c++ga c++gD c++c.ab.flatMap (gk c)++kg c) [0,1] rfl ?_;simp only[go_sem];simp[bH,de,Nat.add_assoc]
 clear e6 de;rintro bK de;have e6:bK.length≤130:=by rw[de];(try simp only[dY]);omega
 refine e2 b2 1 (α:=List aq) (fun bK=>⟨(.al::.ptr 0 0 0::.al::.sl 1 0 bK.length::aA 109 []),[.box (aa.bT c),.ah 9 (bK.map aq.enc) true]⟩) (fun bK=>bK=fu c++ga c++gD c++c.ab.flatMap (gk c)++kg c++m4 c) ?_ ?_
 ·skip
  try simp only[go_sem]
  cases h:decide (c.fe.blocked=c.fe.aZ)with
  |true=>
   have bH:m4 c=[gi 22 c.fe.aZ false]:=by unfold m4;exact if_pos (cQ h)
   try simp only[go_sem,I]
   repeat'(first|(with_reducible refine az ?_)|fail)
   refine dm.intro (fu c++ga c++gD c++c.ab.flatMap (gk c)++kg c++m4 c) [0,3] rfl ?_;simp only[go_sem];simp[bH,de,gi,aq.enc,Nat.add_assoc]
  |false=>
   have bH:m4 c=[]:=by unfold m4;exact if_neg (c2 h)
   simp only[go_sem];refine dm.intro (fu c++ga c++gD c++c.ab.flatMap (gk c)++kg c++m4 c) [0,1] rfl ?_;simp only[go_sem];simp[bH,de,Nat.add_assoc]
 clear e6 de;rintro bK de;have e6:bK.length≤130:=by rw[de];(try simp only[dY]);omega
 refine lx b2 ?_
 try simp only[go_sem]
 cases h:decide (c.fc.blocked=c.fc.aZ)with
 |true=>
  have bH:vj c=[gi 22 c.fc.aZ true]:=by unfold vj;exact if_pos (cQ h)
  try simp only[go_sem,I]
  repeat'(first|(with_reducible refine az ?_)|fail)
  rw[ai,←List.append_assoc,←List.append_assoc,←de,bH];simp[gi,aq.enc,e7]
 |false=>
  have bH:vj c=[]:=by unfold vj;exact if_neg (c2 h)
  try simp only[go_sem,I]
  repeat'(first|(with_reducible refine az ?_)|fail)
  rw[ai,←List.append_assoc,←List.append_assoc,←de,bH];simp
theorem Ny(i b_:Int)(bZ:List UInt8)(cb:Bool):aL 23 [.one (.int .i64 i),.agg [.int .i64 b_,.str bZ,.bool cb]] [.agg (aq.enc (gG i (⟨b_,bZ,cb⟩:bL)))]:=by
 refine a3 13 func23 call23 [.cell 4 82] ?_;intro _
 try simp only[go_sem]
 all_goals simp[gG]
theorem adt(s:af):(bif bif s.fF then decide (s.ak.b0<3)else false then bif decide (0<(s.ak.aP.length:Int))then true else decide (s.ak.aW=1)else false)=qk s:=by
 unfold qk
 cases s.fF<;>cases decide (s.ak.b0<3)<;>cases decide (0<(s.ak.aP.length:Int))<;>rfl
theorem adu(l:List af)(i:Nat)(h:i<l.length):((l.take (i+1)).filter qk).map o8=((l.take i).filter qk).map o8++(if qk l[i]then [o8 l[i]]else []):=by
 rw[gV,cD h,List.filter_append,List.map_append]
 cases hw:qk l[i]<;>simp[hw]
theorem acX(c:aa)(hz:jC c):aL 105 [.agg (aa.enc c)] [.one (.sl 3 ((xC c).map b9.enc))]:=by
 refine a3 49 func105 call105 [.tmp 2] ?_;intro ok;clear ok;have qf:=hz.1;simp only[go_sem];refine cr.intro (α:=Nat×List b9) (fun y=>⟨(.al::.ptr 0 0 0::.al::.sl 1 0 y.2.length::.i y.1::aA 44 []),[.box (aa.bT c),.ah 3 (y.2.map b9.enc) true]⟩)
  (fun y=>c.ab.length-y.1) (fun y=>y.1≤c.ab.length∧y.2=((c.ab.take y.1).filter qk).map o8) (0,[]) [0,1] ⟨by simp,by simp⟩ ?_ ?_
 ·simp only[go_sem];simp
 ·rintro⟨i,q⟩ ⟨hi,hq⟩;simp only at hi hq;by_cases h1:i<c.ab.length
  ·have ax:=bC (p:=(i:Int)<(c.ab.length:Int)) ω;have aB:=cq af.enc c.ab i h1;have hw:i64.wrap ((i:Int)+1)=((i+1:Nat):Int):=by rw[bA]<;>omega
   have hs:=adu c.ab i h1;rw[←hq]at hs;have mo:q.length≤i:=by rw[hq,I];exact Nat.le_trans (List.length_filter_le _ _) (by simp;omega)
   have b7:=adt c.ab[i];generalize c.ab[i]=s at *
   try simp only[go_sem,I,aE,aB,af.enc,ax]
   repeat'(first|(refine bw ?_<;>simp only[go_sem,I])|(with_reducible refine az ?_)|fail)
   rw[b7]
   cases hW:qk s with
   |true=>
    rw[hW,if_pos rfl]at hs
    try simp only[go_sem,I]
    repeat'(first|(with_reducible refine az ?_)|fail)
    refine bE.intro (i+1,q++[o8 s]) [0,4] ⟨by simp only;omega,hs.symm⟩ (by simp only;omega) ?_;simp only[go_sem,hw];simp[o8,b9.enc]
   |false=>
    rw[hW,if_neg ξ,gm]at hs;simp only[go_sem];refine bE.intro (i+1,q) [0,1] ⟨by simp only;omega,hs.symm⟩ (by simp only;omega) ?_;simp only[go_sem,hw];simp
  ·have ax:=bm (p:=(i:Int)<(c.ab.length:Int)) ω;obtain rfl:i=c.ab.length:=by omega
   rw[d3]at hq;simp only[go_sem,I,ax];simp[xC,hq]
theorem adv(c:aa)(id room:Int):(bif bif bif !gq c then true else !(cf c.ab id).2 then true else !(aO c id).fF then true else decide (room<3))=!vz c id room:=by
 unfold vz
 cases gq c<;>cases(cf c.ab id).2<;>cases(aO c id).fF<;>cases decide (room<3)<;>rfl
theorem adw(c:aa)(id:Int):(bif bif !gq c then true else !(cf c.ab id).2 then true else !(aO c id).fF)=!wD c id:=by
 unfold wD
 cases gq c<;>cases(cf c.ab id).2<;>cases(aO c id).fF<;>rfl
theorem adx(a b c:Bool):(bif bif !a then true else !b then true else !c)=!(a&&b&&c):=by cases a<;>cases b<;>cases c<;>rfl
theorem TS(c:aa)(id:Int)(p:bL)(hz:jC c)(hd:p.data.length≤1048576)(hw:f_ (jx (aO c id) p)):aL 18 [.agg (aa.enc c),.one (.int .i64 id),.agg [.int .i64 p.aH,.str p.data,.bool p.aW]] [.agg (aa.enc ((q5 c id p))),.one (.bool (o7 c id p))]:=by
 refine a3 91 func18 call18 [.cell 6 37,.tmp 7] ?_;intro ok;clear ok;have lv:=k5 hz;have bq:q5 c id p=if o7 c id p then {c with cm:=hP c.cm (l5 (aO c id) p),dE:=id,ab:=eC c.ab (jx (aO c id) p)}else c:=rfl
 have bH:o7 c id p=(wD c id&&(h8 (aO c id).ak p&&lJ (aO c id).cV (l5 (aO c id) p)&&lJ c.cm (l5 (aO c id) p))):=rfl;have b7:=adw c id;obtain⟨dW,ek,dt,eF⟩:=pA hz.2.1 id;have c3:=oY c id hz;rw[show(cf c.ab id).1=aO c id from rfl]at dW ek dt eF c3;have gB:=nu c.ab (jx (aO c id) p) (by have:=hz.1;omega) hz.2.1 hw;generalize aO c id=s at *;have hn:i64.wrap ((gv s.ak p).cw-s.ak.cw)=l5 s p:=rfl
 try simp only[go_sem]
 repeat'((first|refine ae.aj (by first|assumption|(apply iw<;>exact a6)|(apply xq<;>exact a6)) ?_|refine ay.aj ‹_› ?_|refine bw ?_)<;>simp only[go_sem,I])
 rw[b7]
 cases hg:wD c id with
 |false=>
  rw[hg,Bool.false_and]at bH;rw[bH]at bq;simp only[go_sem,I,cR];simp[bq,bH]
 |true=>
  rw[hg,Bool.true_and]at bH
  try simp only[go_sem,I,bN]
  repeat'((first|refine ae.aj (by first|assumption|(apply T_<;>exact a6)|apply ady) ?_|refine ay.aj ‹_› ?_|refine bw ?_)<;>simp only[go_sem,I,hn])
  have Na:=adx (h8 s.ak p) (lJ s.cV (l5 s p)) (lJ c.cm (l5 s p));rw[Na,←bH]
  cases hk:o7 c id p with
  |false=>
   rw[hk]at bq;simp only[go_sem,I,cR];simp[bq]
  |true=>
   rw[hk]at bq
   try simp only[go_sem,I,bN]
   repeat'(first|((first|refine ae.aj ‹_› ?_|refine ay.aj ‹_› ?_)<;>simp only[go_sem,I,jx])|(with_reducible refine az ?_)|fail)
   simp[bq,jx]
def T':List (List bR):=cS 12 [501929,501927,501921,521950,521896,521734,531076,529618,525244,511771,472392,354294]
attribute [go_sem] T'
theorem Nv(c:aa)(id room:Int)(m:Nat)(hv:cI m c)(hm:m≤20):aL 15 [.agg (aa.enc c),.one (.int .i64 id),.one (.int .i64 room)] [.agg [.int .i64 ((iX c id room).1).aH,.str ((iX c id room).1).data,.bool ((iX c id room).1).aW],.one (.bool (iX c id room).2)]:=by
 refine a3 73 func15 call15 [.cell 6 70,.tmp 7] ?_;intro ok;clear ok;have hz:=hv.sz hm;have NG:=(hv.aO id).snd;have DB:=NG.p;have l6:(aO c id).ak.av.cu≤4611686018427387903:=by have:=NG.ag;omega
 clear NG;have bq:iX c id room=if vz c id room then oF (aO c id).ak id (Aq c (aO c id)) room (cj room 60).toNat else(mf,false):=rfl
 have b7:=adv c id room;have hl:Aq c (aO c id)=cj (aO c id).cV.aZ (i64.wrap ((aO c id).ak.cw+wE c.cm)):=rfl;obtain⟨dW,ek,dt,eF⟩:=pA hz.2.1 id;have c3:=oY c id hz;rw[show(cf c.ab id).1=aO c id from rfl]at dW ek dt eF c3;have wk:vz c id room=true→3≤room:=fun h=>by
  simp only[vz,bW,Bool.not_eq_true',eG]at h;omega
 generalize aO c id=s at *
 try simp only[go_sem]
 repeat'((first|refine ae.aj (by first|assumption|(apply xq<;>exact a6)) ?_|refine ay.aj ‹_› ?_|refine bw ?_)<;>simp only[go_sem,I])
 rw[b7]
 cases hg:vz c id room with
 |false=>
  rw[hg]at bq;simp only[go_sem,cR];simp[bq,mf]
 |true=>
  rw[hg,if_pos rfl]at bq;have ao:=wk hg
  try simp only[go_sem,bN]
  repeat'((first|refine ae.aj ‹_› ?_|refine ay.aj (by first|assumption|apply adz) ?_|refine bo T' χ ψ ?_)<;>simp only[go_sem])
  obtain⟨N,bH⟩:=kt (show 0≤cj room 60 by unfold cj;split<;>omega);have adA:cj room 60≤60:=by unfold cj;split<;>omega
  have Jh:N≤60:=by omega
  rw[bH,aE]at bq;have adB:(if 60<room then 60 else room)=(N:Int):=by rw[←bH];rfl
  have FR:(if i64.wrap (s.ak.cw+wE c.cm)<s.cV.aZ then i64.wrap (s.ak.cw+wE c.cm)else s.cV.aZ)=Aq c s:=rfl;generalize Aq c s=fr at *;refine cr.intro (fun n:Nat=>⟨(.al::.i id::.i room::.ptr 0 0 0::.al::.al::.ptr 1 0 0::.al::.ptr 7 0 0::.al::.i fr::.i n::aA 61 []),[.box (aa.bT c),.box [.i 0,.d (.str []),.d (.bool false)],.aj 1 (s.ak.av.cells.map aR),.aj 2 (s.ak.aP.map J.enc),.aj 2 (s.ak.aM.map J.enc),.aj 2 (s.ak.a0.map J.enc),.aj 2 (s.a2.bV.cp.map aU.enc),.box (af.aG s (.sl 2 0 s.ak.av.cells.length) (.sl 3 0 s.ak.aP.length) (.sl 4 0 s.ak.aM.length) (.sl 5 0 s.ak.a0.length) (.sl 6 0 s.a2.bV.cp.length))]⟩)
   (fun n=>n) (fun n=>n≤60∧oF s.ak id fr room n=iX c id room) N [0,1,2,3,4,5,6,7] ⟨Jh,bq.symm⟩ ?_ ?_
  ·simp only[go_sem];simp[adB,FR]
  ·rintro n ⟨hn,ai⟩
   cases n with
   |zero=>
    have hd:decide ((0:Int)<((0:Nat):Int))=false:=by decide
    simp only[go_sem,hd];rw[oF]at ai;rw[←ai];simp[mf]
   |succ k=>
    have hd:=bC (p:=(0:Int)<((k+1:Nat):Int)) ω;have hw:i64.wrap (((k+1:Nat):Int)-1)=(k:Int):=by rw[bA]<;>omega
    rw[oF]at ai;have Ua:=NH s.ak.b0 s.ak.av.size s.ak.av.base s.ak.av.cu s.ak.av.cells s.ak.aP s.ak.aM s.ak.a0 s.ak.br s.ak.aW s.ak.cw s.ak.c4 ((k+1:Nat):Int) fr ω;change PureCall _ _ _ (vA s.ak ((k+1:Nat):Int) fr)at Ua;simp only[vA]at Ua;generalize hp:eM s.ak ((k+1:Nat):Int) fr=p at *
    try simp only[go_sem,I,hd]
    repeat'((first|refine ae.intro ‹_› ?_|refine ay.intro ‹_› ?_)<;>simp only[go_sem])
    cases hok:gH s.ak ((k+1:Nat):Int) fr with
    |false=>
     rw[hok]at ai;simp only[go_sem,cR];rw[←ai];simp[mf]
    |true=>
     rw[hok,if_pos rfl]at ai;have fD:p.data.length≤1048576:=by
      have:=DC (m:=((k+1:Nat):Int)) (l:=fr) ω ω DB l6;rw[hp]at this;omega
     have FI:=Np 8 id p.aH p.data p.aW 0 0 0 false fD;change PureCall _ _ _ [.one (.int .i64 ((dy (gG id p)).length:Int))]at FI
     try simp only[go_sem,bN]
     repeat'((first|refine ae.intro (by first|assumption|apply Ny) ?_|refine ay.intro ‹_› ?_)<;>simp only[go_sem,gG])
     cases pK:decide (((dy ⟨8,id,p.aH,p.data,p.aW,0,0,0,false⟩).length:Int)≤room)with
     |true=>
      have:((dy (gG id p)).length:Int)≤room:=cQ pK;rw[if_pos this]at ai;rw[←ai];simp only[go_sem]
      try simp[outOA]
     |false=>
      have:¬((dy (gG id p)).length:Int)≤room:=c2 pK;rw[if_neg this]at ai;simp only[go_sem];refine bE.intro k [0,1,2,3,4,5,6,7] ⟨by omega,ai⟩ ω ?_;simp only[go_sem,hw];simp
def TQ:List (List bR):=cS 10 [57956,58804,58798,58780,58726,58927,58321,56862,52488,39366]
def TR:List (List bR):=cS 12 [511649,511647,511641,511663,511717,511515,511029,503010,448335,521599,478953,354294]
attribute [go_sem] TQ TR
def gJ(x:aa)(a b:Nat):H:=.box (aa.aG x (.sl a 0 x.ab.length) (.sl b 0 x.an.length))
def fC(x:aa):H:=.aj 39 (x.ab.map af.enc)
def I'(x:aa):H:=.aj 2 (x.an.map aT.enc)
def wB(c x:aa)(bY:List aq):List H:=[.box (aa.bT c),.box aa.cc,gJ x 3 4,fC x,I' x,.ah 9 (bY.map aq.enc) true]
theorem acU(c x:aa)(bY:List aq)(room:Int)(m:Nat)(hv:cI m x)(hm:m≤20)(o6:bY.length≤102)(u7:∀f∈bY,pJ f)(kv:List V)(bJ:bk 3 kv)(K:V→List H→Prop)
  (hk:K (.sl 5 0 (iW 200 ⟨x,[],bY,room⟩).bY.length) (wB c (iW 200 ⟨x,[],bY,room⟩).x (iW 200 ⟨x,[],bY,room⟩).bY)) :
  d6 prog 45 kv (wB c x bY) [.ptr 2 0 0,.sl 5 0 bY.length,.i room] K:=by
 have aW:∀(q:nI) (ex:List H),q=iW 200 ⟨x,[],bY,room⟩→oW kv K (.sl 5 0 q.bY.length) (wB c q.x q.bY++ex):=by
  rintro q ex rfl;refine⟨List.range 6,.sl 5 0 (iW 200 ⟨x,[],bY,room⟩).bY.length,wB c (iW 200 ⟨x,[],bY,room⟩).x (iW 200 ⟨x,[],bY,room⟩).bY,?_,hk⟩;have dP:∀a b c,(wB a b c).length=6:=fun _ _ _=>rfl;refine zS (hs:=wB c (iW 200 ⟨x,[],bY,room⟩).x (iW 200 ⟨x,[],bY,room⟩).bY) (ex:=ex) ?_ (ly (by rw[dP];decide) _ bJ) ?_ ?_
  ·simp[wB,gJ,fC,I',dB,cA,bk,vok]
  ·simp[wB,vsees,vsee,ren]
  ·simp[wB,bk,vok]
 refine d6.n2 ?_;refine(fY (n:=92) (rs:=[.tmp 6]) func45 rfl call45 b2 rfl rfl ?_);simp only[go_sem,wB,gJ,fC,I'];refine cr.intro (α:=Nat×nI) (fun y=>⟨(.ptr 2 0 0::.sl 5 0 y.2.bY.length::.i y.2.room::aA 4 (.sl 6 0 y.2.skip.length::.i (200-(y.1:Int))::aA 83 [])),[.box (aa.bT c),.box aa.cc,.box (aa.aG y.2.x (.sl 3 0 y.2.x.ab.length) (.sl 4 0 y.2.x.an.length)),.aj 39 (y.2.x.ab.map af.enc),.aj 2 (y.2.x.an.map aT.enc),.ah 9 (y.2.bY.map aq.enc) true,.ah 1 (y.2.skip.map aR) true]⟩)
  (fun y=>y.1) (fun y=>y.1≤200∧iW y.1 y.2=iW 200 ⟨x,[],bY,room⟩∧n9 m (302-y.1) y.2.x y.2.bY∧y.2.skip.length+y.1≤200) (200,⟨x,[],bY,room⟩) [0,1,2,3,4,5,6] ⟨by simp,rfl,⟨hv,by simpa using o6,u7⟩,by simp⟩ ?_ ?_
 ·simp only[go_sem];simp;exact u_ (yI (show 3≤7 by decide)) ζ bJ
 ·rintro⟨n,q⟩ ⟨hn,ai,aS,Ns⟩;simp only at hn ai aS Ns;have hz:=aS.c.sz hm
  cases n with
  |zero=>
   have hd:decide ((200:Int)-((0:Nat):Int)<200)=false:=by decide
   rw[iW]at ai;simp only[go_sem,hd];exact aW q [.ah 1 (q.skip.map aR) true] ai
  |succ k=>
   have hd:=bC (p:=(200:Int)-((k+1:Nat):Int)<200) ω;have hw:i64.wrap ((200:Int)-((k+1:Nat):Int)+1)=200-(k:Int):=by rw[bA]<;>omega
   have acW:q.skip.length≤200:=by omega
   try simp only[go_sem,I,hd]
   repeat'(refine ae.intro (by(apply acX<;>exact a6)) ?_<;>simp only[go_sem,I])
   have Nt:(xC q.x).length≤30:=by
    unfold xC;rw[I];exact Nat.le_trans (List.length_filter_le _ _) hz.1
   have acY:∀(cz:List Int) (l:List b9),(cz.foldl m7 l).length≤l.length:=by
    intro cz;induction cz with
    |nil=>intro l;exact fE _
    |cons i cz df=>intro l;exact Nat.le_trans (df (m7 l i)) (List.length_filter_le _ _)
   refine cr.intro (α:=Nat×List b9) (fun y=>⟨(.ptr 2 0 0::.sl 5 0 q.bY.length::.i q.room::aA 4 (.sl 6 0 q.skip.length::.i (200-((k+1:Nat):Int))::.sl 7 0 y.2.length::.i y.1::aA 81 [])),[.box (aa.bT c),.box aa.cc,.box (aa.aG q.x (.sl 3 0 q.x.ab.length) (.sl 4 0 q.x.an.length)),.aj 39 (q.x.ab.map af.enc),.aj 2 (q.x.an.map aT.enc),.ah 9 (q.bY.map aq.enc) true,.ah 1 (q.skip.map aR) true,.ah 3 (y.2.map b9.enc) true]⟩)
    (fun y=>q.skip.length-y.1) (fun y=>y.1≤q.skip.length∧y.2=(q.skip.take y.1).foldl m7 (xC q.x)) (0,xC q.x) [0,1,2,3,4,5,6,7] ⟨by simp,by simp⟩ ?_ ?_
   ·simp only[go_sem];simp;exact u_ (yI (show 3≤8 by decide)) ζ bJ
   ·rintro⟨j,l⟩ ⟨aK,hl⟩;simp only at aK hl;have alG:l.length≤30:=by rw[hl];exact Nat.le_trans (acY _ _) Nt
    by_cases h1:j<q.skip.length
    ·have ax:=bC (p:=(j:Int)<(q.skip.length:Int)) ω;have aB:=cq aR q.skip j h1;have FJ:i64.wrap ((j:Int)+1)=((j+1:Nat):Int):=by rw[bA]<;>omega
     have hs:(q.skip.take (j+1)).foldl m7 (xC q.x)=m7 l q.skip[j]:=by
      rw[gV,cD h1,List.foldl_append,←hl];rfl
     try simp only[go_sem,I,aE,aB,aR,ax]
     repeat'(first|((first|refine ae.intro (by first|assumption|(apply acZ<;>exact a6)) ?_|refine ay.intro ‹_› ?_)<;>simp only[go_sem,I])|(with_reducible refine az ?_)|fail)
     refine bE.intro (j+1,m7 l q.skip[j]) [0,1,2,3,4,5,6,8] ⟨by simp only;omega,hs.symm⟩ (by simp only;omega) ?_;simp only[go_sem,FJ];simp;exact u_ (fun i hi=>by match i,hi with|0,_=>rfl|1,_=>rfl|2,_=>rfl) ζ bJ
    ·have ax:=bm (p:=(j:Int)<(q.skip.length:Int)) ω;obtain rfl:j=q.skip.length:=by omega
     rw[d3]at hl;have q4:l=y1 q:=hl;clear hl;subst q4;have ac0:=ac1 (y1 q) q.x.dE ω;rw[show xD (y1 q) q.x.dE=fl q from rfl]at ac0;have Nu:=FK (q:=q);rw[iW]at ai;have ac2:=Nv q.x (fl q) q.room m aS.c hm;rw[show iX q.x (fl q) q.room=iY q from rfl]at ac2;have fD:(iY q).1.data.length≤60:=BY aS.c ω (fl q) q.room
     try simp only[go_sem,I,ax]
     repeat'(first|((first|refine ae.intro ‹_› ?_|refine ay.intro ‹_› ?_)<;>simp only[go_sem])|(with_reducible refine az ?_)|fail)
     cases FL:decide (fl q<0)with
     |true=>
      rw[if_pos (cQ FL)]at ai;simp only[go_sem];exact aW q [.ah 1 (q.skip.map aR) true,.ah 3 ((y1 q).map b9.enc) true] ai
     |false=>
      have Nw:=c2 FL;rw[if_neg Nw]at ai
      try simp only[go_sem,I]
      repeat'((first|refine ae.intro ‹_› ?_|refine ay.intro ‹_› ?_)<;>simp only[go_sem])
      cases hp:(iY q).2 with
      |false=>
       rw[hp,if_neg ξ]at ai;simp only[go_sem,cR];have c3:=oY q.x (fl q) hz;rw[show(cf q.x.ab (fl q)).1=aO q.x (fl q)from rfl]at c3;have vx:f_ (aO q.x (fl q)):=pA hz.2.1 _;have gB:=nu q.x.ab (pL (aO q.x (fl q))) (by have:=hz.1;omega) hz.2.1 vx;have BW:=FM aS.c (Nu ω);have hB:FN q.x (fl q)={q.x with cm:=kB q.x.cm,ab:=eC q.x.ab (pL (aO q.x (fl q)))}:=rfl;obtain⟨dW,ek,dt,eF⟩:=vx;generalize aO q.x (fl q)=s at *;simp only[pL]at gB;refine ae.jD [0,1,2,7,8,11] (by simp only[hZ,List.elem_cons,List.elem_nil,Nat.reduceBEq,Nat.reduceAdd,c_,dK];rfl) (fY (n:=35) (rs:=[]) func108 rfl call108 b2 rfl rfl ?_);simp only[go_sem,I]
       try simp only[go_sem,I,pL]
       repeat'(first|((first|refine ae.aj (by first|assumption|apply ac3) ?_|refine ay.aj ‹_› ?_|refine bo TQ χ ψ ?_)<;>simp only[go_sem,I])|(with_reducible refine az ?_)|fail)
       try simp only[go_sem,I]
       refine bE.intro (k,vy q) [0,1,2,15,4,5,17] ⟨by simp only;omega,ai,⟨BW,by have:=aS.n;simp only[vy];omega,aS.d⟩,by simp only[vy,dY,dA,eI];omega⟩ (by simp only;omega) ?_;simp only[go_sem,hw,vy,hB,pL];simp;exact⟨rfl,u_ (fun i hi=>by match i,hi with|0,_=>rfl|1,_=>rfl|2,_=>rfl) ζ bJ⟩
      |true=>
       rw[hp,if_pos rfl]at ai;simp only[go_sem,bN];have Ja:f_ (jx (aO q.x (fl q)) (iY q).1):=gP.sz (m:=m) (s:=jx (aO q.x (fl q)) (iY q).1) ⟨FO (aS.c.aO _).snd ω,(aS.c.aO _).gp,(aS.c.aO _).xE⟩ hm;have alH:=TS q.x (fl q) (iY q).1 hz ω Ja;have Nx:=FP aS.c (fl q) (iY q).1 ω
       try simp only[go_sem,I]
       repeat'(first|((first|refine ae.aj ‹_› ?_|refine ay.aj ‹_› ?_|refine bo TR χ ψ ?_)<;>simp only[go_sem,I])|(with_reducible refine az ?_)|fail)
       cases qj:o7 q.x (fl q) (iY q).1 with
       |false=>
        rw[qj,if_neg ξ]at ai;simp only[go_sem,cR];exact aW q _ ai
       |true=>
        rw[qj,if_pos rfl]at ai;have FI:=Np 8 (fl q) (iY q).1.aH (iY q).1.data (iY q).1.aW 0 0 0 false ω;change PureCall _ _ _ [.one (.int .i64 ((dy (gG (fl q) (iY q).1)).length:Int))]at FI;have ac4:=aS.n
        try simp only[go_sem,bN]
        repeat'(first|((first|refine ae.intro (by first|assumption|apply Ny) ?_|refine ay.intro ‹_› ?_)<;>simp only[go_sem,I,gG])|(with_reducible refine az ?_)|fail)
        refine bE.intro (k,xF q) [0,1,2,9,10,14,6] ⟨by simp only;omega,ai,(aS.add Nx (f:=gG (fl q) (iY q).1) fD).mono ω,by simp only[xF];omega⟩ (by simp only;omega) ?_;simp only[go_sem,hw,xF,gG];simp;have TT:=u_ (ρ:=[0,1,2,9,10,14,6]) (m:=3) (n:=7) (fun i hi=>by match i,hi with|0,_=>rfl|1,_=>rfl|2,_=>rfl) ζ bJ
        first|exact⟨rfl,TT⟩|exact TT
def ZY:List (List bR):=cS 22 [31381059608,31381059606,31381059600,31381059582,31381059528,31380272046,31380271560,31380270102,31380265728,31381049646,31381010280,31380892182,31380537888,31379465286,31376276640,31366710702,31338012888,31251919446,30993639120,30218798142,27894275208,20920706406]
def LC:List (List bR):=cS 10 [57956,58804,58798,58780,58726,58927,58321,56862,52488,39366]
attribute [go_sem] ZY LC
def rr(s:af)(m:Nat):List V:=(af.aG s (.sl (m+4) 0 s.ak.av.cells.length) (.sl (m+5) 0 s.ak.aP.length) (.sl (m+6) 0 s.ak.aM.length) (.sl (m+7) 0 s.ak.a0.length) (.sl (m+8) 0 s.a2.bV.cp.length))
def CS(s:af):List H:=[.aj 1 (s.ak.av.cells.map aR),.aj 2 (s.ak.aP.map J.enc),.aj 2 (s.ak.aM.map J.enc),.aj 2 (s.ak.a0.map J.enc),.aj 2 (s.a2.bV.cp.map aU.enc)]
def fB(x:aa)(m:Nat)(i4:H):List H:=[gJ x (m+1) (m+2),fC x,i4]
def v5(x:aa)(s:af)(m:Nat)(i4:H):List H:=fB x m i4++(.box (rr s m)::CS s)
theorem FF{kv ts ts':List V}{pre ex ex':List H}(o1:List Nat)(hnd:(pre.length::o1).Nodup)(pH:∀k∈o1,pre.length≤k)(hr:dB pre.length pre)(bJ:bk (pre.length+1) kv)(hx:hsees (List.range pre.length++pre.length::o1) (pre++ex) (pre.length::o1) ex')(Fq:lV (pre.length+ex'.length) ex')(KK:0<ex'.length)(ht:vsees (List.range pre.length++pre.length::o1) ts' ts)(pG:bk (pre.length+ex'.length) ts') :
  lC kv (List.range pre.length++pre.length::o1) ⟨ts,pre++ex⟩ ⟨ts',pre++ex'⟩:=by
 have hf:o0 (List.range pre.length++pre.length::o1) pre.length:=MS (fE _) _;have Mj:o0 (List.range pre.length++pre.length::o1) (pre.length+1):=fun i hi=>by
  by_cases h:i<pre.length
  ·exact hf i h
  ·rw[show i=pre.length from by omega,SX]
 have hl:(pre++ex').length=pre.length+ex'.length:=by simp
 refine⟨?_,ht,MV (IP hf _ _ _ ξ fun j aK=>?_) hx,by rw[hl];exact pG,?_,by rw[hl];exact u_ Mj ω bJ⟩
 ·rw[List.nodup_append];refine⟨List.nodup_range,hnd,fun a ha b hb=>?_⟩;have:pre.length≤b:=by
   rcases List.mem_cons.1 hb with rfl|hb
   ·exact fE _
   ·exact pH b hb
  simp at ha;omega
 ·refine⟨pre[j],cD aK,?_,IQ hr (cD aK)⟩;have:(List.range pre.length).getD j 0=j:=yI (fE _) j aK;rw[this];exact IS (by rw[List.getElem?_append_left aK];exact cD aK)
 ·rw[hl];exact MW (BE (BO ω hr)) Fq
theorem zp(x:aa)(s:af)(i4:H)(p6:∀n,cA n i4)(hx:x.ab.length≤1000)(hz:∀t∈x.ab,f_ t)(hs:f_ s)(pre:List H)(kv:List V)(hr:dB pre.length pre)(bJ:bk (pre.length+1) kv)(K:V→List H→Prop)
  (hk:K (.eh []) (pre++fB (fL x s) pre.length i4)):d6 prog 255 kv (pre++v5 x s pre.length i4) [.ptr pre.length 0 0,.agg (rr s pre.length)] K:=by
 have aW:∀(ex:List H) (k:Nat),3≤k→ex[k]?=some (.aj 39 ((fL x s).ab.map af.enc))→ex[0]?=some (gJ (fL x s) (pre.length+k) (pre.length+2))→ex[2]?=some i4→oW kv K (.eh []) (pre++ex):=by
  intro ex k aib h1 h2 ao;have hg:∀j y,ex[j]?=some y→a5 (pre++ex) (pre.length+j)=y:=fun j y h=>IS (by rw[List.getElem?_append_right ω,Nat.add_sub_cancel_left];exact h);refine⟨_,.eh [],pre++fB (fL x s) pre.length i4,FF [pre.length+k,pre.length+2] (by simp;omega) ξ hr bJ ?_ ?_ (by simp[fB]) (by simp[vsees,vsee,ren,rens]) (by simp[bk,vok]),hk⟩
  ·have ZZ:=hg 0 _ h2;rw[Nat.add_zero]at ZZ;have aY:(List.range pre.length++[pre.length,pre.length+k,pre.length+2]).getD (pre.length+1) 0=pre.length+k:=by rw[nB];rfl
   have bn:(List.range pre.length++[pre.length,pre.length+k,pre.length+2]).getD (pre.length+2) 0=pre.length+2:=by rw[nB];rfl
   have hp:(fL x s).an=x.an:=(Br x s).2;have hf:o0 (List.range pre.length++[pre.length,pre.length+k,pre.length+2]) pre.length:=MS (fE _) _;have aku:=wj hf (p6 pre.length);simp only[fB,fC,hsees,ZZ,hg k _ h1,hg 2 _ ao,and_true,aku];simp only[gJ,aa.aG,hsee,vsees,vsee,ren,aY,bn,and_self,hp]
  ·have:=BE (m:=pre.length+3) (xs:=[i4]) ⟨p6 _,trivial⟩;simp only[fB,fC,gJ,aa.aG,lV,hok,bk,vok,dA,eI]at this⊢;simp[this]
 have Df:=Sj x s;obtain⟨B,hv⟩:∃B,yO x s=B:=⟨_,rfl⟩;rw[hv]at Df;have hs':=hs;obtain⟨cE,fZ,ny,E_⟩:=hs;have ny:∀gp∈s.a2.bV.cp,gp.data.length≤1048576:=fun gp hc=>by have:=ny gp hc;omega
 have abb:=nu x.ab s hx hz hs';have abc:=nu x.ab {s with nz:=true} hx hz hs';refine d6.n2 ?_;refine(fY (n:=15) (rs:=[]) func255 rfl call255 b2 rfl rfl ?_);simp only[go_sem,v5,fB,fC,rr,CS,gJ,bz,bx,gX];refine ae.jD [0,3] (by simp only[hZ,List.elem_cons,List.elem_nil,Nat.reduceBEq,Nat.reduceAdd,c_,dK];rfl) (fY (n:=62) (rs:=[]) func285 rfl call285 b2 rfl rfl ?_);simp only[go_sem]
 try simp only[go_sem,I,l1,gX,gf,hM,kh,Nat.add_zero]
 repeat'(first|((first|refine ae.intro ‹_› ?_|refine ay.intro (by first|assumption|apply E'|(apply Sk<;>exact a6)) ?_|refine f' ?_|refine bo ZY χ ψ ?_)<;>simp only[go_sem,I,gf,hM,Nat.add_zero])|(with_reducible refine az ?_)|fail)
 rw[Df]
 cases B with
 |false=>
  have ai:=Sl hv;simp only[ai]at aW;simp only[go_sem,cR]
  try simp only[go_sem,I,l1,gX,gf,hM,kh,Nat.add_zero]
  repeat'(first|((first|refine ae.aj ‹_› ?_|refine ay.aj ‹_› ?_|refine f' ?_|refine bo LC χ ψ ?_)<;>simp only[go_sem,I,gX,gf,hM,kh,Nat.add_zero])|(with_reducible refine az ?_)|fail)
  refine aW _ 10 ζ ?_ ?_ ?_<;>rfl
 |true=>
  try simp only[go_sem,bN,gX,gf,Nat.add_zero]
  repeat'((first|refine ae.intro (by first|assumption|apply BB) ?_|refine ay.intro ‹_› ?_)<;>simp only[go_sem])
  cases lU:ve s.id with
  |true=>
   have ai:=Sm hv lU;simp only[ai]at aW
   try simp only[go_sem,hM]
   repeat'((first|refine ae.intro (by first|assumption|apply IE) ?_|refine ay.intro ‹_› ?_)<;>simp only[go_sem,gX,gf,hM,kh])
   try simp only[go_sem,I,l1,gX,gf,hM,kh,Nat.add_zero]
   repeat'(first|((first|refine ae.aj ‹_› ?_|refine ay.aj ‹_› ?_|refine f' ?_|refine bo LC χ ψ ?_)<;>simp only[go_sem,I,gX,gf,hM,kh,Nat.add_zero])|(with_reducible refine az ?_)|fail)
   refine aW _ 11 ζ ?_ ?_ ?_<;>rfl
  |false=>
   have ai:=Sn hv lU;simp only[ai]at aW
   try simp only[go_sem,hM]
   repeat'((first|refine ae.intro (by first|assumption|apply IE) ?_|refine ay.intro ‹_› ?_)<;>simp only[go_sem,gX,gf,hM,kh])
   try simp only[go_sem,I,l1,gX,gf,hM,kh,Nat.add_zero]
   repeat'(first|((first|refine ae.aj ‹_› ?_|refine ay.aj ‹_› ?_|refine f' ?_|refine bo LC χ ψ ?_)<;>simp only[go_sem,I,gX,gf,hM,kh,Nat.add_zero])|(with_reducible refine az ?_)|fail)
   refine aW _ 11 ζ ?_ ?_ ?_<;>rfl
def l3(q:aT×Value):List D:=[.int .i64 q.1.bO,.Ae q.2]
theorem acr(cX:List (aT×Value)):ig (cX.map l3)=true:=by
 simp only[ig,List.all_map,List.all_eq_true];intro q _;simp[l3,D.flat]
theorem Tu{h:Array Obj}{b:Nat}:∀(ps:List aT) (f:Nat) (G:List Nat),repE h true b f 2 (ps.map aT.enc) G→
  ∃(cX:List (aT×Value)) (ld:List (List Nat)),cX.map (·.1)=ps∧repE h true b f 2 (cX.map l3) []∧ld.length=cX.length∧G=ld.flatten∧∀(j:Nat) (q:aT×Value) (F:List Nat),cX[j]?=some q→ld[j]?=some F→rep h true (.sl 9 (q.1.c0.map aq.enc)) q.2 F
 |[],f,G,r=>by simp only[List.map_nil,repE]at r;exact⟨[],[],rfl,by simp[repE],rfl,by simp[r],by simp⟩
 |p::ps,f,G,r=>by
  simp only[eT,repE]at r;obtain⟨cy,cl,rfl,_,aY,bn⟩:=r;simp only[aT.enc,repC]at aY;obtain⟨yX,Tv,acs,rfl,ep,fw,qi,Tw,acu,rfl,eE,fH,rfl⟩:=aY;obtain⟨cX,ld,ag,ar,ba,bF,c6⟩:=Tu ps (f+2) cl bn;have hA:Tv=[]:=by simp only[rep]at fw;exact fw.2.1
  subst hA;have I2:qi.oneCell'=true∧qi.cells=#[qi]:=by
   obtain⟨a,c,h1,_⟩:=(by simpa only[rep]using fH:∃a c,qi=.slice a (p.c0.map aq.enc).length c∧_);rw[h1];exact⟨rfl,rfl⟩
  refine⟨(p,qi)::cX,Tw::ld,by simp[ag],?_,by simp[ba],by simp[bF],?_⟩
  ·simp only[eT,repE];refine⟨[],[],rfl,rfl,?_,ar⟩;simp only[l3,repC,rep];exact⟨yX,[],[],rfl,ep,by simpa only[rep]using fw,qi,[],[],rfl,eE,⟨rfl,rfl,I2.1,I2.2⟩,rfl⟩
  ·intro j q F hq bB
   cases j with
   |zero=>simp at hq bB;subst hq;subst bB;exact fH
   |succ j=>exact c6 j q F (by simpa using hq) (by simpa using bB)
theorem M7{h h':Array Obj}(hs:h.size≤h'.size){b:Nat}(g:aT→Bool):∀(cX:List (aT×Value)) (ld:List (List Nat)) (f:Nat),ld.length=cX.length→(∀x∈ld.flatten,h'[x]?=h[x]?)→
  (∀(j:Nat) (q:aT×Value) (F:List Nat),cX[j]?=some q→ld[j]?=some F→rep h true (.sl 9 (q.1.c0.map aq.enc)) q.2 F)→repE h' true b f 2 ((cX.filter fun q=>g q.1).map l3) []→
  ∃G,G.Sublist ld.flatten∧repE h' true b f 2 (((cX.map (·.1)).filter g).map aT.enc) G
 |[],ld,f,hl,_,_,_=>⟨[],List.nil_sublist _,by simp[repE]⟩
 |q::cX,[],f,hl,_,_,_=>by simp at hl
 |q::cX,F::ld,f,hl,er,bB,r=>by
  have acv:∀x∈F,h'[x]?=h[x]?:=fun x hx=>er x (by simp[hx]);have Tx:∀x∈ld.flatten,h'[x]?=h[x]?:=fun x hx=>er x (by rw[List.flatten_cons];exact List.mem_append_right _ hx);have Ty:∀(j:Nat) (BS:aT×Value) (F':List Nat),cX[j]?=some BS→ld[j]?=some F'→rep h true (.sl 9 (BS.1.c0.map aq.enc)) BS.2 F':=fun j BS F' h1 h2=>bB (j+1) BS F' (by simpa using h1) (by simpa using h2);by_cases hg:g q.1=true
  ·rw[List.filter_cons_of_pos (by simpa using hg)]at r;simp only[eT,repE]at r;obtain⟨cy,cl,e,_,aY,bn⟩:=r;obtain⟨rfl,rfl⟩:=List.append_eq_nil_iff.1 e.symm;obtain⟨G,dW,ek⟩:=M7 hs g cX ld (f+2) (by simpa using hl) Tx Ty bn;simp only[l3,repC,rep]at aY;obtain⟨yX,Tv,acs,ag,ep,fw,qi,Tw,acu,ar,eE,fH,ba⟩:=aY;refine⟨F++G,by rw[List.flatten_cons];exact List.Sublist.append (List.Sublist.refl _) dW,?_⟩;rw[eT,List.filter_cons_of_pos (by simpa using hg),eT];simp only[repE];refine⟨F,G,rfl,rfl,?_,ek⟩;simp only[aT.enc,repC,rep];have hq:=bB 0 q F rfl rfl;refine⟨yX,[],F,rfl,ep,⟨fw.1,rfl,fw.2.2⟩,qi,F,[],by simp,eE,?_,rfl⟩;rw[fH.1];have:=Fy hs _ _ F acv hq;simpa only[rep]using this
  ·rw[List.filter_cons_of_neg (by simpa using hg)]at r;obtain⟨G,dW,ek⟩:=M7 hs g cX ld f (by simpa using hl) Tx Ty r;refine⟨G,by rw[List.flatten_cons];exact dW.trans (List.sublist_append_right _ _),?_⟩;rw[eT,List.filter_cons_of_neg (by simpa using hg)];exact ek
theorem acw{P:Program}{f:FuncId}{kv:List V}{vs:List V}{V0:V}{ps:List aT}(g:aT→Bool)(id:Nat){hs hf:List H}{hr hr2:List (aT×Value)→List H}
  (dc:a5 hs id=.aj 2 (ps.map aT.enc)) (ag:∀cX,a5 (hr cX) id=.ah 2 (cX.map l3) true∧(hr cX).length=hs.length∧∀i,i≠id→a5 (hr cX) i=a5 hs i)
  (ar:∀cX,cX.map (·.1)=ps→a5 (hr2 cX) id=.ah 2 ((cX.filter fun q=>g q.1).map l3) true∧(hr2 cX).length=hf.length∧∀i,i≠id→a5 (hr2 cX) i=a5 hf i) (ba:a5 hf id=.ah 2 ((ps.filter g).map aT.enc) true)
  {K:V→List H→Prop} (I2:∀cX,cX.map (·.1)=ps→d6 P f kv (hr cX) vs (fun v hs'=>v=V0∧hs'=hr2 cX)) (hk:K V0 hf):d6 P f kv hs vs K:=by
 intro B w0 kp Tz w bJ acx;obtain⟨a4,φ,r,b5⟩:=acx;rcases r.hp id with hd|⟨β,Dt,Fz⟩
 ·rw[dc]at hd;cases hd
 rw[dc]at Fz;simp only[fk]at Fz;obtain⟨TA,Fz⟩:=Fz;have M8:∀b∈β.d7,dS φ hs id b:=fun b hb=>⟨β,Dt,.inr ⟨by rw[dc];rfl,hb⟩⟩;have acy:∀b,β.fx=some b→dS φ hs id b:=fun b hb=>⟨β,Dt,.inl ⟨by rw[dc];rfl,hb⟩⟩;have jd:=r.gu id β Dt (by rw[show(⟨vs,hs⟩:St).heap=hs from rfl,dc];rfl);obtain⟨cX,ld,hq,M9,FA,TB,acz,alD⟩:∃(cX:List (aT×Value)) (ld:List (List Nat)),cX.map (·.1)=ps∧fk (ec φ id {β with d7:=[]}) (c9 (ec φ id {β with d7:=[]}) (hr cX)) w.heap {β with d7:=[]} (.ah 2 (cX.map l3) true)∧ld.length=cX.length∧β.d7=ld.flatten∧
   (∀(j:Nat) (q:aT×Value) (F:List Nat),cX[j]?=some q→ld[j]?=some F→rep w.heap true (.sl 9 (q.1.c0.map aq.enc)) q.2 F)∧True:=by
  rcases Fz with ⟨h1,h2,ao,aN⟩|⟨b,h1,h2,ao,aN⟩
  ·have hps:ps=[]:=List.map_eq_nil_iff.1 h2;exact⟨[],[],by simp[hps],by simp only[fk];exact⟨TA,.inl ⟨h1,rfl,ao,trivial⟩⟩,rfl,by simp[aN],by simp,trivial⟩
  ·obtain⟨cX,ld,cB,cJ,ct,eA,fb⟩:=Tu ps β.off β.d7 aN;refine⟨cX,ld,cB,?_,ct,eA,fb,trivial⟩;simp only[fk];refine⟨TA,.inr ⟨b,[],h1,?_,ao,cJ,fun _=>rfl,fun q=>by cases q⟩⟩;have:(cX.map l3).length=(ps.map aT.enc).length:=by rw[I,I,←cB,I]
   rw[this];exact h2
 obtain⟨bD,bX,bu⟩:=ag cX
 let wy:c1:=ec φ id {β with d7:=[]}
 have FB:wy id=some {β with d7:=[]}:=by simp[wy,ec]
 have Du:∀i,i≠id→wy i=φ i:=fun i hi=>by simp[wy,ec,hi]
 have I3:∀i b,dS wy (hr cX) i b→dS φ hs i b∧b∉β.d7:=by
  rintro i b ⟨bI,e,aJ⟩;by_cases hi:i=id
  ·subst hi;rw[FB]at e;cases e;rw[bD]at aJ;rcases aJ with ⟨_,hb⟩|⟨_,hb⟩
   ·exact⟨acy b hb,fun hn=>jd.2 b hb hn⟩
   ·cases hb
  ·rw[Du i hi]at e;rw[bu i hi]at aJ;refine⟨⟨bI,e,aJ⟩,fun hn=>hi (r.dZ i id b ⟨bI,e,aJ⟩ (M8 b hn))⟩
 have bt:o4 φ wy:=fun i bI e=>by
  by_cases hi:i=id
  ·subst hi;rw[Dt]at e;cases e;exact⟨_,FB,rfl,rfl,rfl,rfl⟩
  ·exact⟨bI,by rw[Du i hi];exact e,rfl,rfl,rfl,rfl⟩
 have cM:∀b,b<w.heap.size→c9 φ hs b→c9 wy (hr cX) b:=by
  intro b _ ht i bI e he;by_cases hi:i=id
  ·subst hi;rw[FB]at e;cases e;rw[bD]at he;rcases he with ⟨_,he⟩|⟨he,_⟩
   ·exact ht i β Dt (.inl ⟨by rw[dc];rfl,he⟩)
   ·cases he
  ·rw[Du i hi]at e;rw[bu i hi]at he;exact ht i bI e he
 have M_:Dv φ wy (c9 φ hs) (c9 wy (hr cX)) w.heap w.heap:=⟨bt,cM,fun _ _ _=>rfl,fE _⟩;have acA:R (fun b=>B b∧b∉β.d7) w a4 wy ⟨vs,hr cX⟩ kp ⟨Tz.toArray,[]⟩ w:=by
  refine⟨vr M_ _ _ r.iA,fun p hp=>FC M_ _ _ (r.kp p hp),fun i=>?_,fun i j b hi aK=>r.dZ i j b (I3 i b hi).1 (I3 j b aK).1,fun i bI e hx=>?_,fun i b aJ=>⟨r.gZ i b (I3 i b aJ).1,(I3 i b aJ).2⟩,fun i bI e=>?_,Bel.refl _ _,fun k hk=>⟨r.bs k hk,fun hn=>by have:=dS.lt r (M8 k hn);omega⟩,r.oz,⟨fun p hp h=>r.l4.1 p hp h.1,?_⟩⟩
  ·by_cases hi:i=id
   ·subst hi;exact .inr ⟨_,FB,by rw[show(⟨vs,hr cX⟩:St).heap=hr cX from rfl,bD];exact M9⟩
   ·simp only[bu i hi,Du i hi];rcases r.hp i with hd|⟨bI,e,kj⟩
    ·exact .inl hd
    ·exact .inr ⟨bI,e,M' M_ kj (fun _ _ _=>rfl) (fun _ _ _=>rfl)⟩
  ·by_cases hi:i=id
   ·subst hi;rw[FB]at e;cases e;exact⟨List.nodup_nil,fun _ _ h=>by cases h⟩
   ·rw[Du i hi]at e;simp only[bu i hi]at hx;exact r.gu i bI e hx
  ·by_cases hi:i=id
   ·subst hi;exact r.h7 _ β Dt
   ·rw[Du i hi]at e;exact r.h7 i bI e
  ·exact Dw.mono r.l4.2 fun p hp=>r.g0.block p.1 (r.l4.1 p hp)
 obtain⟨eY,eK,jl⟩:=ar cX hq;refine(I2 cX hq (fun b=>B b∧b∉β.d7) w kp Tz w bJ ⟨a4,wy,acA,fun i hi=>by have:=b5 i hi;simp only at this⊢;rw[bX];exact this⟩).mono ?_;rintro v w' ⟨x,hs',⟨rfl,rfl⟩,acB,yY,bn,acC⟩;refine⟨x,hf,hk,?_⟩;have BT:∀b∈β.d7,w'.heap[b]?=w.heap[b]?:=fun b hb=>bn.g0.block b fun h=>h.2 hb;rcases bn.hp id with hd|⟨lf,I4,FD⟩
 ·rw[show(⟨[x],hr2 cX⟩:St).heap=hr2 cX from rfl,eY]at hd;cases hd
 rw[show(⟨[x],hr2 cX⟩:St).heap=hr2 cX from rfl,eY]at FD;simp only[fk]at FD;obtain⟨TC,FD⟩:=FD;obtain⟨Af,vt,acD⟩:∃Af,Af.Sublist β.d7∧∀T,fk (ec yY id {lf with d7:=Af}) T w'.heap {lf with d7:=Af} (.ah 2 ((ps.filter g).map aT.enc) true):=by
  rcases FD with ⟨h1,h2,ao,aN⟩|⟨cW,cl,h1,h2,ao,aN,b6,dP⟩
  ·have hn:cX.filter (fun q=>g q.1)=[]:=List.map_eq_nil_iff.1 h2;have vh:ps.filter g=[]:=by rw[←hq,List.filter_map,show(g∘fun q:aT×Value=>q.1)=fun q=>g q.1 from rfl,hn];rfl
   exact⟨[],List.nil_sublist _,fun T=>by simp only[fk];exact⟨TC,.inl ⟨h1,by rw[vh];rfl,ao,trivial⟩⟩⟩
  ·have Na:=Nb _ _ _ _ (acr _) aN;subst Na;obtain⟨G,dW,ek⟩:=M7 bn.g0.size g cX ld lf.off FA (by rw[←TB];exact BT) acz aN;refine⟨G,by rw[TB];exact dW,fun T=>?_⟩;simp only[fk];refine⟨TC,.inr ⟨cW,G,h1,?_,ao,by rw[←hq];exact ek,fun _=>rfl,fun q=>by cases q⟩⟩;have:((ps.filter g).map aT.enc).length=((cX.filter fun q=>g q.1).map l3).length:=by
    rw[I,I,←hq,List.filter_map,I];rfl
   rw[this];exact h2
 let xz:c1:=ec yY id {lf with d7:=Af}
 have FE:xz id=some {lf with d7:=Af}:=by simp[xz,ec]
 have Dx:∀i,i≠id→xz i=yY i:=fun i hi=>by simp[xz,ec,hi]
 have TD:∀b,lf.fx=some b→dS yY (hr2 cX) id b:=fun b hb=>⟨lf,I4,.inl ⟨by rw[eY];rfl,hb⟩⟩;have Nc:∀i b,dS xz hf i b→dS yY (hr2 cX) i b∨(i=id∧b∈Af):=by
  rintro i b ⟨bI,e,aJ⟩;by_cases hi:i=id
  ·subst hi;rw[FE]at e;cases e;rw[ba]at aJ;rcases aJ with ⟨_,hb⟩|⟨_,hb⟩
   ·exact .inl (TD b hb)
   ·exact .inr ⟨rfl,hb⟩
  ·rw[Dx i hi]at e;rw[←jl i hi]at aJ;exact .inl ⟨bI,e,aJ⟩
 have I5:∀b∈Af,B b∧b∈β.d7:=fun b hb=>⟨r.gZ id b (M8 b (vt.subset hb)),vt.subset hb⟩;have acE:o4 yY xz:=fun i bI e=>by
  by_cases hi:i=id
  ·subst hi;rw[I4]at e;cases e;exact⟨_,FE,rfl,rfl,rfl,rfl⟩
  ·exact⟨bI,by rw[Dx i hi];exact e,rfl,rfl,rfl,rfl⟩
 have Nd:∀b,b<w'.heap.size→c9 yY (hr2 cX) b→c9 xz hf b:=by
  intro b _ ht i bI e he;by_cases hi:i=id
  ·subst hi;rw[FE]at e;cases e;rw[ba]at he;rcases he with ⟨_,he⟩|⟨he,_⟩
   ·exact ht i lf I4 (.inl ⟨by rw[show(⟨[x],hr2 cX⟩:St).heap=hr2 cX from rfl]at *;rw[eY];rfl,he⟩)
   ·cases he
  ·rw[Dx i hi]at e;rw[←jl i hi]at he;exact ht i bI e he
 have Nf:Dv yY xz (c9 yY (hr2 cX)) (c9 xz hf) w'.heap w'.heap:=⟨acE,Nd,fun _ _ _=>rfl,fE _⟩;refine⟨acB,xz,⟨vr Nf _ _ bn.iA,fun p hp=>FC Nf _ _ (bn.kp p hp),fun i=>?_,fun i j b hi aK=>?_,fun i bI e hx=>?_,fun i b aJ=>?_,fun i bI e=>?_,?_,fun k hk=>(bn.bs k hk).1,bn.oz,r.l4⟩,fun i hi=>by have:=acC i hi;simp only at this⊢;rw[←eK];exact this⟩
 ·by_cases hi:i=id
  ·subst hi;exact .inr ⟨_,FE,by rw[show(⟨[x],hf⟩:St).heap=hf from rfl,ba];exact acD _⟩
  ·simp only[Dx i hi];rw[←jl i hi];rcases bn.hp i with hd|⟨bI,e,kj⟩
   ·exact .inl hd
   ·exact .inr ⟨bI,e,M' Nf kj (fun _ _ _=>rfl) (fun _ _ _=>rfl)⟩
 ·rcases Nc i b hi with h1|⟨h1,ax⟩<;>rcases Nc j b aK with h2|⟨h2,g7⟩
  ·exact bn.dZ i j b h1 h2
  ·exact absurd (I5 b g7).2 (bn.gZ i b h1).2
  ·exact absurd (I5 b ax).2 (bn.gZ j b h2).2
  ·exact h1.trans h2.symm
 ·by_cases hi:i=id
  ·subst hi;rw[FE]at e;cases e;exact⟨vt.nodup jd.1,fun b hb hn=>(bn.gZ _ b (TD b hb)).2 (I5 b hn).2⟩
  ·rw[Dx i hi]at e;rw[show(⟨[x],hf⟩:St).heap=hf from rfl,←jl i hi]at hx;exact bn.gu i bI e hx
 ·rcases Nc i b aJ with h1|⟨_,h1⟩
  ·exact(bn.gZ i b h1).1
  ·exact(I5 b h1).1
 ·by_cases hi:i=id
  ·subst hi;exact bn.h7 _ lf I4
  ·rw[Dx i hi]at e;exact bn.h7 i bI e
 ·exact r.g0.trans (bn.g0.mono fun _ h=>h.1)
def vu(x:aa)(a b k:Nat):H:=.box (aa.aG x (.sl a 0 x.ab.length) (.sl b 0 k))
theorem acF(x:aa)(n:Int)(cX:List (aT×Value))(hq:cX.length≤1000)(pre:List H)(kv:List V)(hr:dB pre.length pre)(bJ:bk (pre.length+1) kv)(K:V→List H→Prop)
  (hk:K (.eh []) (pre++[vu x (pre.length+1) (pre.length+2) (cX.filter fun q=>!jU n q.1).length,fC x,.ah 2 ((cX.filter fun q=>!jU n q.1).map l3) true])) :
  d6 prog 263 kv (pre++[vu x (pre.length+1) (pre.length+2) cX.length,fC x,.ah 2 (cX.map l3) true]) [.ptr pre.length 0 0,.i n] K:=by
 have Ng:∀l:List Nat,(List.range pre.length++pre.length::l).getD pre.length 0=pre.length:=fun l=>SX _ _ _;refine d6.n2 ?_;refine(fY (n:=40) (rs:=[]) func263 rfl call263 b2 rfl rfl ?_);simp only[go_sem,vu,fC,gX];refine cr.intro (α:=Nat×List (aT×Value)) (fun y=>⟨[.ptr pre.length 0 0,.i n,.al,.al,.sl (pre.length+3) 0 y.2.length,.i y.1]++List.replicate 34 .al,pre++[vu x (pre.length+1) (pre.length+2) cX.length,fC x,.ah 2 (cX.map l3) true,.ah 2 (y.2.map l3) true]⟩)
  (fun y=>cX.length-y.1) (fun y=>y.1≤cX.length∧y.2=(cX.take y.1).filter fun q=>!jU n q.1) (0,[]) (List.range pre.length++pre.length::[pre.length+1,pre.length+2,pre.length+3]) ⟨by simp,by simp⟩ ?_ ?_
 ·have aY:(List.range pre.length++[pre.length,pre.length+1,pre.length+2,pre.length+3]).getD (pre.length+1) 0=pre.length+1:=by rw[nB];rfl
  have bn:(List.range pre.length++[pre.length,pre.length+1,pre.length+2,pre.length+3]).getD (pre.length+2) 0=pre.length+2:=by rw[nB];rfl
  have dg:(List.range pre.length++[pre.length,pre.length+1,pre.length+2,pre.length+3]).getD (pre.length+3) 0=pre.length+3:=by rw[nB];rfl
  refine FF _ ξ ξ hr bJ ?_ ?_ ξ ?_ ?_
  ·simp only[hsees,gf,hM,Ag,Ah,hsee,vu,fC,and_true];simp only[aa.aG,vsees,vsee,ren,aY,bn,and_self,List.map_nil]
  ·simp only[vu,aa.aG,fC,lV,hok,bk,vok,dA,eI];simp
  ·simp only[List.replicate,bz,bx,vsees,vsee,ren,dg,Ng,and_self,eI,true_and];simp
  ·simp[bk,vok,List.replicate]
 ·rintro⟨i,ed⟩ ⟨hi,aJ⟩;simp only at hi aJ;have Ai:ed.length≤cX.length:=by rw[aJ];exact Nat.le_trans (List.length_filter_le _ _) (by simp;omega)
  simp only[List.replicate,bz,bx,vu,fC];by_cases h1:i<cX.length
  ·have ax:=bC (p:=(i:Int)<(cX.length:Int)) ω;have aB:=cq l3 cX i h1;have hw:i64.wrap ((i:Int)+1)=((i+1:Nat):Int):=by rw[bA]<;>omega
   have hf:(cX.take (i+1)).filter (fun q=>!jU n q.1)=ed++(if !jU n cX[i].1 then [cX[i]]else []):=by
    rw[gV,cD h1,List.filter_append,←aJ]
    cases h:jU n cX[i].1<;>simp[h]
   generalize cX[i]=q at *;simp only[go_sem,I,aE,gf,hM,Nat.add_zero,ax,aB,l3];refine⟨⟨by omega,by omega⟩,h1,?_⟩
   cases hb:decide (q.fst.bO≠n)with
   |true=>
    have hg:(if !jU n q.1 then [q]else [])=[q]:=by
     have:jU n q.1=false:=by unfold jU;simpa using hb
     rw[this];rfl
    simp only[go_sem,I,aE,gX,gf,hM,aB,l3];have acG:(pre.length=pre.length+1)=False:=by simp
    try simp only[acG,if_false,go_sem]
    refine⟨⟨by omega,by omega⟩,h1,⟨by omega,by simp⟩,?_⟩;have aY:(List.range pre.length++[pre.length,pre.length+1,pre.length+2,pre.length+5]).getD (pre.length+1) 0=pre.length+1:=by rw[nB];rfl
    have bn:(List.range pre.length++[pre.length,pre.length+1,pre.length+2,pre.length+5]).getD (pre.length+2) 0=pre.length+2:=by rw[nB];rfl
    have dg:(List.range pre.length++[pre.length,pre.length+1,pre.length+2,pre.length+5]).getD (pre.length+3) 0=pre.length+5:=by rw[nB];rfl
    try simp only[go_sem,gX]
    simp only[hw];refine bE.intro (i+1,ed++[q]) (List.range pre.length++pre.length::[pre.length+1,pre.length+2,pre.length+5]) ⟨by simp only;omega,by simp only;rw[hf,hg];try simp⟩ (show cX.length-(i+1)<cX.length-i by omega) ?_;refine FF _ ξ ξ hr bJ ?_ ?_ ξ ?_ ?_
    ·simp only[hsees,gf,hM,Ag,Ah,hsee,and_true];simp only[vsees,vsee,ren,aY,bn,and_self,List.map_nil,List.map_append,eT,l3]
    ·simp only[lV,hok,bk,vok,dA,eI];simp
    ·simp only[vsees,vsee,ren,dg,Ng,and_self,eI,dY,dA]
    ·simp[bk,vok]
   |false=>
    have hg:(if !jU n q.1 then [q]else [])=[]:=by
     have:jU n q.1=true:=by unfold jU;simpa using hb
     rw[this];rfl
    have aY:(List.range pre.length++[pre.length,pre.length+1,pre.length+2,pre.length+3]).getD (pre.length+1) 0=pre.length+1:=by rw[nB];rfl
    have bn:(List.range pre.length++[pre.length,pre.length+1,pre.length+2,pre.length+3]).getD (pre.length+2) 0=pre.length+2:=by rw[nB];rfl
    have dg:(List.range pre.length++[pre.length,pre.length+1,pre.length+2,pre.length+3]).getD (pre.length+3) 0=pre.length+3:=by rw[nB];rfl
    try simp only[go_sem]
    simp only[hw];refine bE.intro (i+1,ed) (List.range pre.length++pre.length::[pre.length+1,pre.length+2,pre.length+3]) ⟨by simp only;omega,by simp only;rw[hf,hg];try simp⟩ (show cX.length-(i+1)<cX.length-i by omega) ?_;refine FF _ ξ ξ hr bJ ?_ ?_ ξ ?_ ?_
    ·simp only[hsees,gf,hM,Ag,Ah,hsee,and_true];simp only[vsees,vsee,ren,aY,bn,and_self]
    ·simp only[lV,hok,bk,vok,dA,eI];simp
    ·simp only[vsees,vsee,ren,dg,Ng,and_self]
    ·simp[bk,vok]
  ·have ax:=bm (p:=(i:Int)<(cX.length:Int)) ω;obtain rfl:i=cX.length:=by omega
   rw[d3]at aJ;simp only[go_sem,hM,kh,ax];have aY:(List.range pre.length++[pre.length,pre.length+1,pre.length+3]).getD (pre.length+1) 0=pre.length+1:=by rw[nB];rfl
   have bn:(List.range pre.length++[pre.length,pre.length+1,pre.length+3]).getD (pre.length+2) 0=pre.length+3:=by rw[nB];rfl
   rw[←aJ]at hk;refine⟨_,.eh [],_,FF [pre.length+1,pre.length+3] ξ ξ hr bJ ?_ ?_ ξ (by simp[vsees,vsee,ren,rens]) (by simp[bk,vok]),hk⟩
   ·simp only[hsees,gf,hM,Ag,Ah,hsee,and_true,vu,fC];simp only[aa.aG,vsees,vsee,ren,aY,bn,and_self]
   ·simp only[aa.aG,lV,hok,bk,vok,dA,eI,vu,fC];simp
theorem TE(pre:List H)(a b c:H)(i:Nat):a5 (pre++[a,b,c]) i=if i<pre.length then a5 pre i else a5 [a,b,c] (i-pre.length):=by
 split
 ·simp only[a5,j3,List.getElem?_append_left ‹_›]
 ·simp only[a5,j3,List.getElem?_append_right (by omega:pre.length≤i)]
theorem RN(x:aa)(n:Int)(hq:x.an.length≤1000)(pre:List H)(kv:List V)(hr:dB pre.length pre)(bJ:bk (pre.length+1) kv)(K:V→List H→Prop)
  (hk:K (.eh []) (pre++fB (po x n) pre.length (.ah 2 ((po x n).an.map aT.enc) true))) :
  d6 prog 263 kv (pre++fB x pre.length (.aj 2 (x.an.map aT.enc))) [.ptr pre.length 0 0,.i n] K:=by
 refine acw (V0:=.eh []) (ps:=x.an) (fun p=>!jU n p) (pre.length+2)
  (hr:=fun cX=>pre++[vu x (pre.length+1) (pre.length+2) x.an.length,fC x,.ah 2 (cX.map l3) true])
  (hr2:=fun cX=>pre++[vu x (pre.length+1) (pre.length+2) (po x n).an.length,fC x,.ah 2 ((cX.filter fun q=>!jU n q.1).map l3) true])
  (hf:=pre++fB (po x n) pre.length (.ah 2 ((po x n).an.map aT.enc) true)) ?_ ?_ ?_ ?_ ?_ hk
 ·simp only[fB,gf,Ag,Ah]
 ·intro cX;refine⟨by simp only[gf,Ag,Ah],by simp[fB],fun i hi=>?_⟩;simp only[fB,TE];split
  ·rfl
  ·obtain⟨j,rfl⟩:∃j,i=pre.length+j:=⟨i-pre.length,by omega⟩;rw[Nat.add_sub_cancel_left]
   match j,hi with
   |0,_=>rfl
   |1,_=>rfl
   |2,hi=>exact absurd rfl hi
   |j+3,_=>rfl
 ·intro cX Nh;refine⟨by simp only[gf,Ag,Ah],by simp[fB],fun i hi=>?_⟩;simp only[fB,TE];split
  ·rfl
  ·obtain⟨j,rfl⟩:∃j,i=pre.length+j:=⟨i-pre.length,by omega⟩;rw[Nat.add_sub_cancel_left]
   match j,hi with
   |0,_=>rfl
   |1,_=>rfl
   |2,hi=>exact absurd rfl hi
   |j+3,_=>rfl
 ·simp only[fB,gf,Ag,Ah];rfl
 ·intro cX Nh;have hl:cX.length=x.an.length:=by rw[←Nh];simp
  have hf:(po x n).an=(cX.filter fun q=>!jU n q.1).map (·.1):=by
   simp only[po,←Nh,List.filter_map];rfl
  have:=acF x n cX ω pre kv hr bJ (fun v hs'=>v=.eh []∧hs'=pre++[vu x (pre.length+1) (pre.length+2) (po x n).an.length,fC x,.ah 2 ((cX.filter fun q=>!jU n q.1).map l3) true]) ⟨rfl,by rw[hf,I]⟩
  rwa [hl]at this
def Zs:List (List bR):=cS 12 [511649,511647,511641,511744,511690,511515,511029,503010,448335,521599,478953,354294]
def Zt:List (List bR):=cS 7 [2150,2148,2182,2164,2106,1944,1458]
attribute [go_sem] Zs Zt
theorem d6.BH{P:Program}{f:FuncId}{kv:List V}{hs hs':List H}{vs vs':List V}{K:V→List H→Prop}{ρ:List Nat}(h1:lC kv ρ ⟨vs,hs⟩ ⟨vs',hs'⟩)(h:d6 P f kv hs' vs' K):d6 P f kv hs vs K:=
 fun B w0 kp us w bJ bj=>h B w0 kp us w bJ (Fm bJ h1 bj)
theorem Zu(f:aq):aL 295 [.agg (aq.enc f)] [.agg [.int .i64 f.aH,.str f.data,.bool f.aW]]:=by
 refine a3 10 func295 call295 [.cell 2 70] ?_;intro ok
 try simp only[go_sem]
def gN(x:aa):H:=.ah 2 (x.an.map aT.enc) true
def fa(n:Int)(l:List aq):List H:=[.box aa.cc,.box [.i n,.sl 2 0 l.length],.ah 9 (l.map aq.enc) true]
def ja(k:Int):List V:=(aA 4 [.ptr 0 0 0,.al,.ptr 3 0 0,.ptr 1 0 0,.al,.i k])++List.replicate 32 .al
theorem aaw(x:aa)(f:aq)(hx:jC x)(hs:f_ (jo (aO x f.aC) f))(hd:f.data.length≤1000)(n k:Int)(l:List aq)(K:V→List H→Prop)
  (hk:K (.eh []) (fa n l++fB (u6 x f) 3 (gN x))):d6 prog 265 (ja k) (fa n l++fB x 3 (gN x)) [.ptr 3 0 0,.agg (aq.bT f)] K:=by
 have c3:=oY x f.aC hx;have d':=pA hx.2.1 f.aC;obtain⟨dW,ek,dt,eF⟩:=d';have zm:=dt;have dt:∀gp∈(cf x.ab f.aC).1.a2.bV.cp,gp.data.length≤1048576:=fun gp hc=>by have:=dt gp hc;omega
 have bq:u6 x f=if(cf x.ab f.aC).2&&h6 f.bp then fL x (jo (aO x f.aC) f)else x:=rfl
 rw[show aO x f.aC=(cf x.ab f.aC).1 from rfl]at bq hs;obtain⟨s,CR⟩:∃s,s=(cf x.ab f.aC).1:=⟨_,rfl⟩;obtain⟨b,lO⟩:∃b,b=(cf x.ab f.aC).2:=⟨_,rfl⟩;rw[←CR,←lO]at c3;rw[←CR]at bq hs dW ek dt zm eF;rw[←lO]at bq;clear CR lO;have lv:=k5 hx;have lB:x.ab.length≤1000:=by have:=hx.1;omega
 have lT:=hx.2.1;refine d6.n2 ?_;refine(fY (n:=52) (rs:=[]) func265 rfl call265 b2 rfl rfl ?_);simp only[go_sem,fa,ja,fB,fC,gJ,gN,List.replicate,bz,bx]
 try simp only[go_sem,I]
 repeat'((first|refine ae.aj ‹_› ?_|refine ay.aj ‹_› ?_|refine bw ?_|refine bo Zs χ ψ ?_)<;>simp only[go_sem,I])
 cases b with
 |false=>
  rw[Bool.false_and,if_neg ξ]at bq;rw[bq]at hk
  try simp only[go_sem,I]
  repeat'((first|refine ae.intro ‹_› ?_|refine ay.intro (by first|assumption|apply F1) ?_|with_reducible refine eB ?_)<;>simp only[go_sem])
  refine⟨[0,1,2,3,4,5],.eh [],_,?_,hk⟩;simp only[go_sem,fa,fB,fC,gJ,gN,bz,bx];simp
 |true=>
  rw[Bool.true_and]at bq
  try simp only[go_sem,I]
  repeat'((first|refine ae.intro ‹_› ?_|refine ay.intro (by first|assumption|apply F1) ?_|with_reducible refine cN ?_)<;>simp only[go_sem])
  cases HY:h6 f.bp with
  |false=>
   rw[HY,if_neg ξ]at bq;rw[bq]at hk
   try simp only[go_sem]
   refine⟨[0,1,2,3,4,5],.eh [],_,?_,hk⟩;simp only[go_sem,fa,fB,fC,gJ,gN,bz,bx];simp
  |true=>
   rw[HY,if_pos rfl]at bq;rw[bq]at hk
   cases e9:decide (f.bp=8)with
   |true=>
    have a1:jo s f=iG s (lq s.ak (Cz f)):=by unfold jo;rw[if_pos (cQ e9)]
    try simp only[go_sem,e9]
    repeat'((first|refine ae.aj ‹_› ?_|refine ay.aj (by first|assumption|apply Zu|(apply XG<;>exact a6)) ?_|refine bo Zt χ ψ ?_)<;>simp only[go_sem,I])
    refine ae.jD [] (by simp only[hZ,List.elem_nil,Nat.reduceAdd,dK];rfl) (d6.BH (ρ:=[0,1,2,3,4,5,12,13,14,15,16,11]) (hs':=fa n l++v5 x (jo s f) 3 (gN x)) (vs':=[.ptr 3 0 0,.agg (rr (jo s f) 3)]) ?_ (zp x (jo s f) (gN x) (fun _=>trivial) lB lT hs (fa n l) _ (by simp[fa,dB,cA,bk,vok]) (by simp[fa,bk,vok]) _ ?_))
    ·simp only[go_sem,a1,fa,v5,fB,fC,gJ,gN,rr,CS,bz,bx,iG,Cz];simp
    ·simp only[go_sem];refine⟨[0,1,2,3,4,5],.eh [],_,?_,hk⟩;simp only[go_sem,fa,fB,fC,gJ,gN,bz,bx];simp
   |false=>
    have x4:=c2 e9
    cases aN:decide (f.bp=4)with
    |true=>
     have a1:jo s f={s with ak:=En s.ak,jG:=if CA s.ak then false else s.jG}:=by unfold jo;rw[if_neg x4,if_pos (cQ aN)]
     try simp only[go_sem,I,e9,aN]
     repeat'((first|refine ae.aj (by first|assumption|(apply akf<;>exact a6)) ?_|refine ay.aj ‹_› ?_)<;>simp only[go_sem,I])
     cases Kt:CA s.ak with
     |true=>
      rw[Kt,if_pos rfl]at a1
      try simp only[go_sem,I]
      refine ae.jD [] (by simp only[hZ,List.elem_nil,Nat.reduceAdd,dK];rfl) (d6.BH (ρ:=[0,1,2,3,4,5,12,13,14,15,16,11]) (hs':=fa n l++v5 x (jo s f) 3 (gN x)) (vs':=[.ptr 3 0 0,.agg (rr (jo s f) 3)]) ?_ (zp x (jo s f) (gN x) (fun _=>trivial) lB lT hs (fa n l) _ (by simp[fa,dB,cA,bk,vok]) (by simp[fa,bk,vok]) _ ?_))
      ·simp only[go_sem,a1,fa,v5,fB,fC,gJ,gN,rr,CS,bz,bx];simp
      ·simp only[go_sem];refine⟨[0,1,2,3,4,5],.eh [],_,?_,hk⟩;simp only[go_sem,fa,fB,fC,gJ,gN,bz,bx];simp
     |false=>
      rw[Kt,if_neg ξ]at a1
      try simp only[go_sem,I]
      refine ae.jD [] (by simp only[hZ,List.elem_nil,Nat.reduceAdd,dK];rfl) (d6.BH (ρ:=[0,1,2,3,4,5,12,13,14,15,16,11]) (hs':=fa n l++v5 x (jo s f) 3 (gN x)) (vs':=[.ptr 3 0 0,.agg (rr (jo s f) 3)]) ?_ (zp x (jo s f) (gN x) (fun _=>trivial) lB lT hs (fa n l) _ (by simp[fa,dB,cA,bk,vok]) (by simp[fa,bk,vok]) _ ?_))
      ·simp only[go_sem,a1,fa,v5,fB,fC,gJ,gN,rr,CS,bz,bx];simp
      ·simp only[go_sem];refine⟨[0,1,2,3,4,5],.eh [],_,?_,hk⟩;simp only[go_sem,fa,fB,fC,gJ,gN,bz,bx];simp
    |false=>
     have q8:=c2 aN
     cases b6:decide (f.bp=5)with
     |true=>
      have a1:jo s f={s with hL:=false}:=by unfold jo;rw[if_neg x4,if_neg q8,if_pos (cQ b6)]
      try simp only[go_sem,I,e9,aN,b6]
      refine ae.jD [] (by simp only[hZ,List.elem_nil,Nat.reduceAdd,dK];rfl) (d6.BH (ρ:=[0,1,2,3,4,5,12,7,8,9,10,11]) (hs':=fa n l++v5 x (jo s f) 3 (gN x)) (vs':=[.ptr 3 0 0,.agg (rr (jo s f) 3)]) ?_ (zp x (jo s f) (gN x) (fun _=>trivial) lB lT hs (fa n l) _ (by simp[fa,dB,cA,bk,vok]) (by simp[fa,bk,vok]) _ ?_))
      ·simp only[go_sem,a1,fa,v5,fB,fC,gJ,gN,rr,CS,bz,bx];simp
      ·simp only[go_sem];refine⟨[0,1,2,3,4,5],.eh [],_,?_,hk⟩;simp only[go_sem,fa,fB,fC,gJ,gN,bz,bx];simp
     |false=>
      have a1:jo s f=s:=by unfold jo;rw[if_neg x4,if_neg q8,if_neg (c2 b6)]
      try simp only[go_sem,I,e9,aN,b6]
      refine ae.jD [] (by simp only[hZ,List.elem_nil,Nat.reduceAdd,dK];rfl) (d6.BH (ρ:=[0,1,2,3,4,5,12,7,8,9,10,11]) (hs':=fa n l++v5 x (jo s f) 3 (gN x)) (vs':=[.ptr 3 0 0,.agg (rr (jo s f) 3)]) ?_ (zp x (jo s f) (gN x) (fun _=>trivial) lB lT hs (fa n l) _ (by simp[fa,dB,cA,bk,vok]) (by simp[fa,bk,vok]) _ ?_))
      ·simp only[go_sem,a1,fa,v5,fB,fC,gJ,gN,rr,CS,bz,bx];simp
      ·simp only[go_sem];refine⟨[0,1,2,3,4,5],.eh [],_,?_,hk⟩;simp only[go_sem,fa,fB,fC,gJ,gN,bz,bx];simp
def Zv:List (List bR):=cS 12 [511649,511647,511641,511744,511690,511515,511029,503010,448335,521599,478953,354294]
def Zw:List (List bR):=cS 7 [2150,2148,2182,2164,2106,1944,1458]
def EI:List (List bR):=cS 10 [57956,58804,58798,58780,58726,58927,58321,56862,52488,39366]
attribute [go_sem] Zv Zw EI
theorem aay(x:aa)(f:aq)(hx:jC x)(hs:f_ (oP (aO x f.aC) f))(hd:f.data.length≤1000)(n k:Int)(l:List aq)(K:V→List H→Prop)
  (hk:K (.eh []) (fa n l++fB (u9 x f) 3 (gN x))):d6 prog 264 (ja k) (fa n l++fB x 3 (gN x)) [.ptr 3 0 0,.agg (aq.bT f)] K:=by
 have c3:=oY x f.aC hx;have d':=pA hx.2.1 f.aC;obtain⟨dW,ek,dt,eF⟩:=d';have zm:=dt;have dt:∀gp∈(cf x.ab f.aC).1.a2.bV.cp,gp.data.length≤1048576:=fun gp hc=>by have:=dt gp hc;omega
 have bq:u9 x f=if f.bp=16 then {x with pF:=true}else if f.bp=18 then(if f.ft then {x with lG:=true}else {x with lF:=true})else if(cf x.ab f.aC).2&&h6 f.bp then lI x (oP (aO x f.aC) f)else x:=rfl
 rw[show aO x f.aC=(cf x.ab f.aC).1 from rfl]at bq hs;obtain⟨s,CR⟩:∃s,s=(cf x.ab f.aC).1:=⟨_,rfl⟩;obtain⟨b,lO⟩:∃b,b=(cf x.ab f.aC).2:=⟨_,rfl⟩;rw[←CR,←lO]at c3;rw[←CR]at bq hs dW ek dt zm eF;rw[←lO]at bq;clear CR lO;have lv:=k5 hx;have lB:x.ab.length≤1000:=by have:=hx.1;omega
 have lT:=hx.2.1;refine d6.n2 ?_;refine(fY (n:=75) (rs:=[]) func264 rfl call264 b2 rfl rfl ?_);simp only[go_sem,fa,ja,fB,fC,gJ,gN,List.replicate,bz,bx]
 cases lH:decide (f.bp=16)with
 |true=>
  rw[if_pos (cQ lH)]at bq;rw[bq]at hk
  try simp only[go_sem]
  refine⟨[0,1,2,3,4,5],.eh [],_,?_,hk⟩;simp only[go_sem,fa,fB,fC,gJ,gN,bz,bx];simp
 |false=>
  rw[if_neg (c2 lH)]at bq
  cases jv:decide (f.bp=18)with
  |true=>
   rw[if_pos (cQ jv)]at bq
   cases hu:f.ft with
   |true=>
    rw[hu,if_pos rfl]at bq;rw[bq]at hk
    try simp only[go_sem,jv]
    refine⟨[0,1,2,3,4,5],.eh [],_,?_,hk⟩;simp only[go_sem,fa,fB,fC,gJ,gN,bz,bx];simp
   |false=>
    rw[hu,if_neg ξ]at bq;rw[bq]at hk
    try simp only[go_sem,jv]
    refine⟨[0,1,2,3,4,5],.eh [],_,?_,hk⟩;simp only[go_sem,fa,fB,fC,gJ,gN,bz,bx];simp
  |false=>
   rw[if_neg (c2 jv)]at bq
   try simp only[go_sem,jv]
   repeat'((first|refine ae.aj ‹_› ?_|refine ay.aj ‹_› ?_|refine bw ?_|refine bo Zv χ ψ ?_|fail)<;>simp only[go_sem,I])
   cases b with
   |false=>
    rw[Bool.false_and,if_neg ξ]at bq;rw[bq]at hk
    try simp only[go_sem,I]
    repeat'((first|refine ae.intro ‹_› ?_|refine ay.intro (by first|assumption|apply F1) ?_|with_reducible refine eB ?_)<;>simp only[go_sem])
    refine⟨[0,1,2,3,4,5],.eh [],_,?_,hk⟩;simp only[go_sem,fa,fB,fC,gJ,gN,bz,bx];simp
   |true=>
    rw[Bool.true_and]at bq
    try simp only[go_sem,I]
    repeat'((first|refine ae.intro ‹_› ?_|refine ay.intro (by first|assumption|apply F1) ?_|with_reducible refine cN ?_)<;>simp only[go_sem])
    cases HY:h6 f.bp with
    |false=>
     rw[HY,if_neg ξ]at bq;rw[bq]at hk
     try simp only[go_sem]
     refine⟨[0,1,2,3,4,5],.eh [],_,?_,hk⟩;simp only[go_sem,fa,fB,fC,gJ,gN,bz,bx];simp
    |true=>
     rw[HY,if_pos rfl]at bq;rw[bq]at hk
     cases e9:decide (f.bp=8)with
     |true=>
      have a1:oP s f=iG s (kK s.ak (Cz f)):=by unfold oP;rw[if_pos (cQ e9)]
      try simp only[go_sem,e9]
      repeat'((first|refine ae.aj ‹_› ?_|refine ay.aj (by first|assumption|apply Zu|(apply XH<;>exact a6)) ?_|refine bo Zw χ ψ ?_|fail)<;>simp only[go_sem,I])
      have gB:=nu x.ab (iG s (kK s.ak (Cz f))) lB lT (a1▸hs)
      try simp only[go_sem,I]
      repeat'((first|refine ae.aj ‹_› ?_|refine ay.aj ‹_› ?_|refine bo EI χ ψ ?_|fail)<;>simp only[go_sem,I])
      refine⟨[0,1,2,3,17,5],.eh [],_,?_,hk⟩;simp only[go_sem,a1,fa,fB,fC,gJ,gN,lI,bz,bx,iG,Cz];simp
     |false=>
      have x4:=c2 e9
      cases aN:decide (f.bp=4)with
      |true=>
       have a1:oP s f={s with jG:=decide (s.ak.b0=4)}:=by unfold oP;rw[if_neg x4,if_pos (cQ aN)]
       try simp only[go_sem,e9,aN]
       have gB:=nu x.ab ({s with jG:=decide (s.ak.b0=4)}) lB lT (a1▸hs)
       try simp only[go_sem,I]
       repeat'((first|refine ae.aj ‹_› ?_|refine ay.aj ‹_› ?_|refine bo EI χ ψ ?_|fail)<;>simp only[go_sem,I])
       refine⟨[0,1,2,3,13,5],.eh [],_,?_,hk⟩;simp only[go_sem,a1,fa,fB,fC,gJ,gN,lI,bz,bx];simp
      |false=>
       have q8:=c2 aN
       cases b6:decide (f.bp=5)with
       |true=>
        have a1:oP s f={s with hL:=decide (s.a2.b0<2)}:=by unfold oP;rw[if_neg x4,if_neg q8,if_pos (cQ b6)]
        try simp only[go_sem,e9,aN,b6]
        have gB:=nu x.ab ({s with hL:=decide (s.a2.b0<2)}) lB lT (a1▸hs)
        try simp only[go_sem,I]
        repeat'((first|refine ae.aj ‹_› ?_|refine ay.aj ‹_› ?_|refine bo EI χ ψ ?_|fail)<;>simp only[go_sem,I])
        refine⟨[0,1,2,3,13,5],.eh [],_,?_,hk⟩;simp only[go_sem,a1,fa,fB,fC,gJ,gN,lI,bz,bx];simp
       |false=>
        have Kp:=c2 b6
        cases nc:decide (f.bp=17)with
        |true=>
         have a1:oP s f={s with k_:=true}:=by unfold oP;rw[if_neg x4,if_neg q8,if_neg Kp,if_pos (cQ nc)]
         try simp only[go_sem,e9,aN,b6,nc]
         have gB:=nu x.ab ({s with k_:=true}) lB lT (a1▸hs)
         try simp only[go_sem,I]
         repeat'((first|refine ae.aj ‹_› ?_|refine ay.aj ‹_› ?_|refine bo EI χ ψ ?_|fail)<;>simp only[go_sem,I])
         refine⟨[0,1,2,3,13,5],.eh [],_,?_,hk⟩;simp only[go_sem,a1,fa,fB,fC,gJ,gN,lI,bz,bx];simp
        |false=>
         have a1:oP s f=s:=by unfold oP;rw[if_neg x4,if_neg q8,if_neg Kp,if_neg (c2 nc)]
         try simp only[go_sem,e9,aN,b6,nc]
         have gB:=nu x.ab (s) lB lT (a1▸hs)
         try simp only[go_sem,I]
         repeat'((first|refine ae.aj ‹_› ?_|refine ay.aj ‹_› ?_|refine bo EI χ ψ ?_|fail)<;>simp only[go_sem,I])
         refine⟨[0,1,2,3,13,5],.eh [],_,?_,hk⟩;simp only[go_sem,a1,fa,fB,fC,gJ,gN,lI,bz,bx];simp
theorem RL(c:aa)(n:Int)(hz:jC c):aL 262 [.agg (aa.enc c),.one (.int .i64 n)] [.agg [.int .i64 ((jT c.an n).1).bO,.sl 9 (((jT c.an n).1).c0.map aq.enc)],.one (.bool (jT c.an n).2)]:=by
 refine a3 33 func262 call262 [.cell 4 47,.tmp 5] ?_;intro ok;have hm:c.an.length≤30:=hz.2.2.1;have L1:=hz.2.2.2;clear ok;simp only[go_sem];refine cr.intro (fun i:Nat=>⟨(.al::.i n::.ptr 0 0 0::.al::.ptr 1 0 0::.d (.bool false)::.i i::aA 26 []),[.box (aa.bT c),.box [.i 0,.ee 9]]⟩)
   (fun i=>c.an.length-i) (fun i=>i≤c.an.length∧(c.an.take i).any (jU n)=false) 0 [0,1] ⟨by omega,by simp⟩ ?_ ?_
 ·simp only[go_sem];simp
 ·rintro i ⟨hi,he⟩;by_cases h1:i<c.an.length
  ·have ax:=bC (p:=(i:Int)<(c.an.length:Int)) ω;have aB:=cq aT.enc c.an i h1;have hw:i64.wrap ((i:Int)+1)=((i+1:Nat):Int):=by rw[bA]<;>omega
   have e6:c.an[i].c0.length≤500:=(L1 _ (eS h1)).1;simp only[aT.enc]at aB
   cases hq:decide (c.an[i].bO=n)with
   |true=>
    have hf:=C9 (jU n) c.an i h1 he hq;have qR:=cQ hq
    try simp only[go_sem,I,aE,aB,ax,hq]
    repeat'(first|(with_reducible refine az ?_)|fail)
    all_goals simp[jT,hf,qR]
   |false=>
    try simp only[go_sem,I,aE,aB,ax,hq]
    repeat'(first|(with_reducible refine az ?_)|fail)
    refine bE.intro (i+1) [0,1] ⟨by omega,xe _ c.an i h1 he hq⟩ ω ?_;simp only[go_sem,hw];simp
  ·have ax:=bm (p:=(i:Int)<(c.an.length:Int)) ω;obtain rfl:i=c.an.length:=by omega
   rw[d3]at he;have hf:=EP _ _ he
   try simp only[go_sem,I,ax]
   simp[jT,hf]
theorem RM(c:aa)(n:Int):(bif !iv c then true else !(jT c.an n).2)=!oV c n:=by
 unfold oV
 cases iv c<;>cases(jT c.an n).2<;>rfl
theorem aau(c:aa)(n:Int)(m:Nat)(hv:cI m c)(hm:m≤20):aL 225 [.agg (aa.enc c),.one (.int .i64 n)] [.agg (aa.enc ((ER c n))),.one (.bool (oV c n))]:=by
 refine om 42 func225 call225 [.cell 4 37,.tmp 5] ?_;intro ok;clear ok;have hz:=hv.sz hm;have lv:=k5 hz;have b7:=RM c n;have bq:ER c n=if oV c n then(jT c.an n).1.c0.foldl u6 (po c n)else c:=rfl
 have gB:=RL c n hz;have ES:oV c n=true→(jT c.an n).1∈c.an:=by
  intro h;simp only[oV,bW]at h;have h2:=h.2;unfold jT at h2⊢;split
  ·rename_i p hp;exact List.mem_of_find?_eq_some hp
  ·rename_i hp;rw[hp]at h2;cases h2
 generalize (jT c.an n).2=aav at *;generalize (jT c.an n).1=p at *;refine e2 b2 4 (α:=Unit) (fun _=>⟨(.al::.i n::.al::.al::.ptr 0 0 0::.al::.ptr 3 0 0::.ptr 1 0 0::aA 34 []),[.box aa.cc,.box [.i p.bO,.sl 2 0 p.c0.length],.aj 9 (p.c0.map aq.enc),.box (aa.aG c (.sl 4 0 c.ab.length) (.sl 5 0 c.an.length)),.aj 39 (c.ab.map af.enc),.aj 2 (c.an.map aT.enc)]⟩) (fun _=>oV c n=true) ?_ ?_
 ·skip
  try simp only[go_sem]
  repeat'((first|refine ae.aj (by first|assumption|(apply iw<;>exact a6)) ?_|refine ay.aj ‹_› ?_)<;>simp only[go_sem,I])
  try simp only[go_sem,I]
  repeat'((first|refine ae.intro (by first|assumption|(apply xf<;>exact a6)) ?_|refine ay.intro ‹_› ?_|refine bw ?_)<;>simp only[go_sem])
  rw[b7]
  cases hg:oV c n with
  |false=>
   rw[hg,if_neg ξ]at bq
   try simp only[go_sem,I,cR]
   repeat'(first|(with_reducible refine az ?_)|fail)
   simp[bq]
  |true=>
   simp only[go_sem,bN];refine dm.intro () [1,6,5,4,2,3] (by first|exact hg|trivial) ?_;simp only[go_sem];simp
 rintro _ hg;rw[hg,if_pos rfl]at bq;refine Il 2 rfl ?_;simp only[cO];have ET:=Im hv n;obtain⟨y,hy⟩:∃y,y=po c n:=⟨_,rfl⟩;rw[←hy]at bq ET;refine e2 b2 1 (α:=Unit) (fun _=>⟨(aA 4 (.ptr 0 0 0::.al::.ptr 3 0 0::.ptr 1 0 0::aA 34 [])),[.box aa.cc,.box [.i p.bO,.sl 2 0 p.c0.length],.ah 9 (p.c0.map aq.enc) true,.box (aa.aG y (.sl 4 0 y.ab.length) (.sl 5 0 y.an.length)),.aj 39 (y.ab.map af.enc),.ah 2 (y.an.map aT.enc) true]⟩) (fun _=>True) ?_ ?_
 ·simp only[go_sem];refine ae.jD [4,6,7] (by simp only[hZ,List.elem_cons,List.elem_nil,Nat.reduceBEq,Nat.reduceAdd,c_,dK];rfl) (RN c n (by have:=hz.2.2.1;omega) (fa p.bO p.c0) _ (by simp[fa,dB,cA,bk,vok]) (by simp[fa,bk,vok]) _ ?_);rw[←hy];simp only[fa,fB,fC,gJ,go_sem,bz,bx];refine dm.intro () [0,1,2,3,4,5] trivial ?_;simp only[go_sem];simp
 rintro _ _;refine lx b2 ?_;have zO:=hz.2.2.2 p (ES hg)
 try simp only[go_sem]
 refine cr.intro (α:=Nat×aa) (fun q=>⟨(aA 4 (.ptr 0 0 0::.al::.ptr 3 0 0::.ptr 1 0 0::.al::.i q.1::aA 32 [])),[.box aa.cc,.box [.i p.bO,.sl 2 0 p.c0.length],.ah 9 (p.c0.map aq.enc) true,.box (aa.aG q.2 (.sl 4 0 q.2.ab.length) (.sl 5 0 q.2.an.length)),.aj 39 (q.2.ab.map af.enc),.ah 2 (q.2.an.map aT.enc) true]⟩)
  (fun q=>p.c0.length-q.1) (fun q=>q.1≤p.c0.length∧q.2=(p.c0.take q.1).foldl u6 y) (0,y) [0,1,2,3,4,5] ⟨by simp,by simp⟩ ?_ ?_
 ·simp only[go_sem];simp
 ·rintro⟨i,z⟩ ⟨hi,v8⟩;simp only at hi v8;have EU:cI m z:=by rw[v8];exact EV (fun c f h=>RO h f) _ _ ET
  by_cases h1:i<p.c0.length
  ·have ax:=bC (p:=(i:Int)<(p.c0.length:Int)) ω;have aB:=cq aq.enc p.c0 i h1;have fD:=zO.1;have hw:i64.wrap ((i:Int)+1)=((i+1:Nat):Int):=by rw[bA]<;>omega
   have u7:=zO.2 _ (eS h1);have dx:(p.c0.take (i+1)).foldl u6 y=u6 z p.c0[i]:=by
    rw[gV,cD h1,List.foldl_append,←v8];rfl
   generalize p.c0[i]=f at *
   try simp only[go_sem,I,aE,aB,aq.enc,ax]
   repeat'(first|(with_reducible refine az ?_)|fail)
   have p6:(u6 z f).an=z.an:=by
    unfold u6;split
    ·exact(Br z _).2
    ·rfl
   refine ae.jD [4,6,7,9] (by simp only[hZ,List.elem_cons,List.elem_nil,Nat.reduceBEq,Nat.reduceAdd,c_,dK];rfl) (aaw z f (EU.sz hm) ((RP (EU.aO _) f).sz hm) ω p.bO i p.c0 _ ?_);simp only[fa,fB,fC,gJ,gN,go_sem,bz,bx];refine bE.intro (i+1,u6 z f) [0,1,2,3,4,5] ⟨by simp only;omega,by simp only;rw[dx]⟩ (show p.c0.length-(i+1)<p.c0.length-i by omega) ?_;simp only[go_sem,hw];simp[p6]
  ·have ax:=bm (p:=(i:Int)<(p.c0.length:Int)) ω;obtain rfl:i=p.c0.length:=by omega
   rw[d3]at v8
   try simp only[go_sem,I,ax]
   repeat'(first|(with_reducible refine az ?_)|fail)
   simp[bq,←v8,hg]
theorem aax(c:aa)(n:Int)(m:Nat)(hv:cI m c)(hm:m≤20):aL 224 [.agg (aa.enc c),.one (.int .i64 n)] [.agg (aa.enc ((EW c n))),.one (.bool (oV c n))]:=by
 refine om 42 func224 call224 [.cell 4 37,.tmp 5] ?_;intro ok;clear ok;have hz:=hv.sz hm;have lv:=k5 hz;have b7:=RM c n;have bq:EW c n=if oV c n then(jT c.an n).1.c0.foldl u9 (po c n)else c:=rfl
 have gB:=RL c n hz;have ES:oV c n=true→(jT c.an n).1∈c.an:=by
  intro h;simp only[oV,bW]at h;have h2:=h.2;unfold jT at h2⊢;split
  ·rename_i p hp;exact List.mem_of_find?_eq_some hp
  ·rename_i hp;rw[hp]at h2;cases h2
 generalize (jT c.an n).2=aav at *;generalize (jT c.an n).1=p at *;refine e2 b2 4 (α:=Unit) (fun _=>⟨(.al::.i n::.al::.al::.ptr 0 0 0::.al::.ptr 3 0 0::.ptr 1 0 0::aA 34 []),[.box aa.cc,.box [.i p.bO,.sl 2 0 p.c0.length],.aj 9 (p.c0.map aq.enc),.box (aa.aG c (.sl 4 0 c.ab.length) (.sl 5 0 c.an.length)),.aj 39 (c.ab.map af.enc),.aj 2 (c.an.map aT.enc)]⟩) (fun _=>oV c n=true) ?_ ?_
 ·skip
  try simp only[go_sem]
  repeat'((first|refine ae.aj (by first|assumption|(apply iw<;>exact a6)) ?_|refine ay.aj ‹_› ?_)<;>simp only[go_sem,I])
  try simp only[go_sem,I]
  repeat'((first|refine ae.intro (by first|assumption|(apply xf<;>exact a6)) ?_|refine ay.intro ‹_› ?_|refine bw ?_)<;>simp only[go_sem])
  rw[b7]
  cases hg:oV c n with
  |false=>
   rw[hg,if_neg ξ]at bq
   try simp only[go_sem,I,cR]
   repeat'(first|(with_reducible refine az ?_)|fail)
   simp[bq]
  |true=>
   simp only[go_sem,bN];refine dm.intro () [1,6,5,4,2,3] (by first|exact hg|trivial) ?_;simp only[go_sem];simp
 rintro _ hg;rw[hg,if_pos rfl]at bq;refine Il 2 rfl ?_;simp only[cO];have ET:=Im hv n;obtain⟨y,hy⟩:∃y,y=po c n:=⟨_,rfl⟩;rw[←hy]at bq ET;refine e2 b2 1 (α:=Unit) (fun _=>⟨(aA 4 (.ptr 0 0 0::.al::.ptr 3 0 0::.ptr 1 0 0::aA 34 [])),[.box aa.cc,.box [.i p.bO,.sl 2 0 p.c0.length],.ah 9 (p.c0.map aq.enc) true,.box (aa.aG y (.sl 4 0 y.ab.length) (.sl 5 0 y.an.length)),.aj 39 (y.ab.map af.enc),.ah 2 (y.an.map aT.enc) true]⟩) (fun _=>True) ?_ ?_
 ·simp only[go_sem];refine ae.jD [4,6,7] (by simp only[hZ,List.elem_cons,List.elem_nil,Nat.reduceBEq,Nat.reduceAdd,c_,dK];rfl) (RN c n (by have:=hz.2.2.1;omega) (fa p.bO p.c0) _ (by simp[fa,dB,cA,bk,vok]) (by simp[fa,bk,vok]) _ ?_);rw[←hy];simp only[fa,fB,fC,gJ,go_sem,bz,bx];refine dm.intro () [0,1,2,3,4,5] trivial ?_;simp only[go_sem];simp
 rintro _ _;refine lx b2 ?_;have zO:=hz.2.2.2 p (ES hg)
 try simp only[go_sem]
 refine cr.intro (α:=Nat×aa) (fun q=>⟨(aA 4 (.ptr 0 0 0::.al::.ptr 3 0 0::.ptr 1 0 0::.al::.i q.1::aA 32 [])),[.box aa.cc,.box [.i p.bO,.sl 2 0 p.c0.length],.ah 9 (p.c0.map aq.enc) true,.box (aa.aG q.2 (.sl 4 0 q.2.ab.length) (.sl 5 0 q.2.an.length)),.aj 39 (q.2.ab.map af.enc),.ah 2 (q.2.an.map aT.enc) true]⟩)
  (fun q=>p.c0.length-q.1) (fun q=>q.1≤p.c0.length∧q.2=(p.c0.take q.1).foldl u9 y) (0,y) [0,1,2,3,4,5] ⟨by simp,by simp⟩ ?_ ?_
 ·simp only[go_sem];simp
 ·rintro⟨i,z⟩ ⟨hi,v8⟩;simp only at hi v8;have EU:cI m z:=by rw[v8];exact EV (fun c f h=>RQ h f) _ _ ET
  by_cases h1:i<p.c0.length
  ·have ax:=bC (p:=(i:Int)<(p.c0.length:Int)) ω;have aB:=cq aq.enc p.c0 i h1;have fD:=zO.1;have hw:i64.wrap ((i:Int)+1)=((i+1:Nat):Int):=by rw[bA]<;>omega
   have u7:=zO.2 _ (eS h1);have dx:(p.c0.take (i+1)).foldl u9 y=u9 z p.c0[i]:=by
    rw[gV,cD h1,List.foldl_append,←v8];rfl
   generalize p.c0[i]=f at *
   try simp only[go_sem,I,aE,aB,aq.enc,ax]
   repeat'(first|(with_reducible refine az ?_)|fail)
   have p6:(u9 z f).an=z.an:=by
    unfold u9
    repeat' split
    all_goals rfl
   refine ae.jD [4,6,7,9] (by simp only[hZ,List.elem_cons,List.elem_nil,Nat.reduceBEq,Nat.reduceAdd,c_,dK];rfl) (aay z f (EU.sz hm) ((RR (EU.aO _) f).sz hm) ω p.bO i p.c0 _ ?_);simp only[fa,fB,fC,gJ,gN,go_sem,bz,bx];refine bE.intro (i+1,u9 z f) [0,1,2,3,4,5] ⟨by simp only;omega,by simp only;rw[dx]⟩ (show p.c0.length-(i+1)<p.c0.length-i by omega) ?_;simp only[go_sem,hw];simp[p6]
  ·have ax:=bm (p:=(i:Int)<(p.c0.length:Int)) ω;obtain rfl:i=p.c0.length:=by omega
   rw[d3]at v8
   try simp only[go_sem,I,ax]
   repeat'(first|(with_reducible refine az ?_)|fail)
   simp[bq,←v8,hg]
theorem Pe(c:aa)(f:aq)(k:Int):(bif bif !gq c then true else !d_ f then true else decide (f.bp≠k))=!qw c f k:=by
 unfold qw
 cases gq c<;>cases d_ f<;>by_cases h:f.bp=k<;>simp[h]
theorem agK(c:aa)(f:aq)(m:Nat)(hv:cI m c)(hm:m≤19):aL 260 [.agg (aa.enc c),.agg (aq.enc f)] [.agg (aa.enc ((Hg c f))),.one (.int .i64 (Cq c f))]:=by
 refine om 69 func260 call260 [.cell 4 37,.tmp 5] ?_;intro ok;clear ok;have hz:=hv.sz ω;have lv:=k5 hz;have vP:=AY hv f.aC;have nP:=vP.sz ω;have lB:(cP c f.aC).ab.length≤1000:=by have:=nP.1;omega
 have lT:=nP.2.1;have bq:Hg c f=if Cq c f=0 then fL (cP c f.aC) (vx (cP c f.aC) f)else c:=rfl
 have ai:Cq c f=if qw c f 5 then(if fF c.eO f.aC then ie c f.aC else 5)else 7:=rfl
 have a1:vx (cP c f.aC) f=if oZ (aO (cP c f.aC) f.aC).ak f.c4 then g4 (aO (cP c f.aC) f.aC) f.c4 else aO (cP c f.aC) f.aC:=rfl
 have qV:f_ (vx (cP c f.aC) f):=(WW vP).sz ω;have b7:=Pe c f 5;obtain⟨dW,ek,dt,eF⟩:=pA nP.2.1 f.aC;have zm:=dt;have dt:∀gp∈(cf (cP c f.aC).ab f.aC).1.a2.bV.cp,gp.data.length≤1048576:=fun gp hc=>by have:=dt gp hc;omega
 have c3:=oY (cP c f.aC) f.aC nP;rw[show(cf (cP c f.aC).ab f.aC).1=aO (cP c f.aC) f.aC from rfl]at dW ek dt zm eF c3;have Pf:=IJ c f.aC hz;generalize aO (cP c f.aC) f.aC=s at *;generalize cP c f.aC=x at *;refine e2 b2 6 (α:=Unit) (fun _=>⟨(.al::.al::.ptr 0 0 0::.ptr 1 0 0::.ptr 2 0 0::.al::.ptr 3 0 0::.al::.ptr 6 0 0::aA 60 []),[.box (aa.bT c),.box (aq.bT f),.box aa.cc,.box (aa.aG x (.sl 4 0 x.ab.length) (.sl 5 0 x.an.length)),.aj 39 (x.ab.map af.enc),.aj 2 (x.an.map aT.enc),.box (af.aG s (.sl 7 0 s.ak.av.cells.length) (.sl 8 0 s.ak.aP.length) (.sl 9 0 s.ak.aM.length) (.sl 10 0 s.ak.a0.length) (.sl 11 0 s.a2.bV.cp.length)),.aj 1 (s.ak.av.cells.map aR),.aj 2 (s.ak.aP.map J.enc),.aj 2 (s.ak.aM.map J.enc),.aj 2 (s.ak.a0.map J.enc),.aj 2 (s.a2.bV.cp.map aU.enc)]⟩) (fun _=>qw c f 5=true∧fF c.eO f.aC=true∧ie c f.aC=0) ?_ ?_
 ·skip
  try simp only[go_sem]
  repeat'((first|refine ae.aj (by first|assumption|(apply xq<;>exact a6)) ?_|refine ay.aj (by first|assumption|apply yS) ?_|refine bw ?_)<;>simp only[go_sem])
  rw[b7]
  cases hg:qw c f 5 with
  |false=>
   rw[hg,if_neg ξ]at ai;rw[ai,if_neg ζ]at bq
   try simp only[go_sem,cR]
   repeat'(first|((first|refine ae.aj (by first|assumption|(apply iw<;>exact a6)) ?_|refine ay.aj ‹_› ?_)<;>simp only[go_sem,I])|(with_reducible refine az ?_)|fail)
   simp[bq,ai]
  |true=>
   rw[hg,if_pos rfl]at ai
   try simp only[go_sem,bN]
   repeat'((first|refine ae.aj (by first|assumption|apply Pj) ?_|refine ay.aj ‹_› ?_)<;>simp only[go_sem])
   cases lL:fF c.eO f.aC with
   |false=>
    rw[lL,if_neg ξ]at ai;rw[ai,if_neg ζ]at bq
    try simp only[go_sem,cR]
    repeat'(first|((first|refine ae.aj (by first|assumption|(apply iw<;>exact a6)) ?_|refine ay.aj ‹_› ?_)<;>simp only[go_sem,I])|(with_reducible refine az ?_)|fail)
    simp[bq,ai]
   |true=>
    rw[lL,if_pos rfl]at ai
    try simp only[go_sem,bN]
    repeat'((first|refine ae.aj ‹_› ?_|refine ay.aj ‹_› ?_)<;>simp only[go_sem,I])
    cases l6:decide (ie c f.aC≠0)with
    |true=>
     have j8:=cQ l6
     skip
     rw[ai,if_neg j8]at bq
     try simp only[go_sem]
     repeat'(first|((first|refine ae.aj (by first|assumption|(apply iw<;>exact a6)) ?_|refine ay.aj ‹_› ?_)<;>simp only[go_sem,I])|(with_reducible refine az ?_)|fail)
     simp[bq,ai]
    |false=>
     have j8:ie c f.aC=0:=Decidable.not_not.1 (c2 l6)
     try simp only[go_sem,I]
     repeat'((first|refine ae.aj ‹_› ?_|refine ay.aj ‹_› ?_)<;>simp only[go_sem,I])
     refine dm.intro () [0,1,2,5,3,4,11,6,7,8,9,10] (by first|exact⟨hg,lL,j8⟩|(simp only[true_and];exact j8)|simp[j8]) ?_;simp only[go_sem];simp
 rintro _ ⟨hg,lL,l6⟩;rw[hg,if_pos rfl,lL,if_pos rfl,l6]at ai;rw[ai,if_pos rfl]at bq;generalize vx x f=t at *;obtain⟨y,hy⟩:∃y,y=x:=⟨_,rfl⟩;refine e2 b2 2 (α:=Unit) (fun _=>⟨(aA 4 (.ptr 2 0 0::.al::.ptr 3 0 0::.al::.ptr 6 0 0::aA 60 [])),[.box (aa.bT c),.box (aq.bT f),.box aa.cc,.box (aa.aG y (.sl 4 0 y.ab.length) (.sl 5 0 y.an.length)),.aj 39 (y.ab.map af.enc),.aj 2 (y.an.map aT.enc),.box (af.aG t (.sl 7 0 t.ak.av.cells.length) (.sl 8 0 t.ak.aP.length) (.sl 9 0 t.ak.aM.length) (.sl 10 0 t.ak.a0.length) (.sl 11 0 t.a2.bV.cp.length)),.aj 1 (t.ak.av.cells.map aR),.aj 2 (t.ak.aP.map J.enc),.aj 2 (t.ak.aM.map J.enc),.aj 2 (t.ak.a0.map J.enc),.aj 2 (t.a2.bV.cp.map aU.enc)]⟩) (fun _=>True) ?_ ?_
 ·skip
  try simp only[go_sem,I]
  repeat'((first|refine ae.aj (by first|assumption|(apply Mv<;>exact a6)) ?_|refine ay.aj ‹_› ?_)<;>simp only[go_sem,I])
  cases hr:oZ s.ak f.c4 with
  |true=>
   rw[hr,if_pos rfl]at a1;simp only[go_sem];refine dm.intro () [0,1,2,3,4,5,6,12,13,14,15,11] trivial ?_;simp only[go_sem,a1,g4,hy];simp
  |false=>
   rw[hr,if_neg ξ]at a1;simp only[go_sem];refine dm.intro () [0,1,2,3,4,5,6,7,8,9,10,11] trivial ?_;simp only[go_sem,a1,hy];simp
 rintro _ _;have G8:y.ab.length≤1000:=by rw[hy];exact lB
 have G9:∀q∈y.ab,f_ q:=by rw[hy];exact lT
 rw[←hy]at bq;refine e2 b2 1 (α:=Unit) (fun _=>⟨(aA 4 (.ptr 2 0 0::.al::.ptr 3 0 0::aA 62 [])),[.box (aa.bT c),.box (aq.bT f),.box aa.cc,.box (aa.aG ((fL y t)) (.sl 4 0 ((fL y t)).ab.length) (.sl 5 0 ((fL y t)).an.length)),.aj 39 (((fL y t)).ab.map af.enc),.aj 2 (((fL y t)).an.map aT.enc)]⟩) (fun _=>True) ?_ ?_
 ·simp only[go_sem,I];refine ae.jD [4,6] (by simp only[hZ,List.elem_cons,List.elem_nil,Nat.reduceBEq,Nat.reduceAdd,c_,dK];rfl) (zp y t (.aj 2 (y.an.map aT.enc)) (fun _=>trivial) G8 G9 qV [.box (aa.bT c),.box (aq.bT f),.box aa.cc] _ (by simp[dB,cA,bk,vok]) (by simp[bk,vok]) _ ?_);simp only[fB,fC,gJ,go_sem];have p6:(fL y t).an=y.an:=(Br y t).2;refine dm.intro () [0,1,2,3,4,5] trivial ?_;simp only[go_sem];simp[p6]
 rintro _ _;refine lx b2 ?_
 try simp only[go_sem,I]
 repeat'(first|(with_reducible refine az ?_)|fail)
 simp[bq,ai]
theorem agx(c:aa)(f:aq)(m:Nat)(hv:cI m c)(hm:m≤19)(hd:f.data.length≤8)(aJ:0≤f.aH∧f.aH≤900):aL 258 [.agg (aa.enc c),.agg (aq.enc f)] [.agg (aa.enc ((G3 c f))),.one (.int .i64 (Cl c f))]:=by
 refine om 88 func258 call258 [.cell 4 37,.tmp 5] ?_;intro ok;clear ok;have hz:=hv.sz ω;have lv:=k5 hz;have vP:=AY hv f.aC;have nP:=vP.sz ω;have lB:(cP c f.aC).ab.length≤1000:=by have:=nP.1;omega
 have lT:=nP.2.1;have bq:G3 c f=if Cl c f=0 then fL (og (cP c f.aC) (aO (cP c f.aC) f.aC) (vQ f)) (Cm (cP c f.aC) f)else c:=rfl
 have ai:Cl c f=if qw c f 8 then(if gO c.eO f.aC then(if ie c f.aC=0 then(if lo (cP c f.aC) (aO (cP c f.aC) f.aC) (vQ f)=0 then w1 (aO (cP c f.aC) f.aC).a2 f.aH f.data f.aW else lo (cP c f.aC) (aO (cP c f.aC) f.aC) (vQ f))else ie c f.aC)else 5)else 7:=rfl
 have a1:Cm (cP c f.aC) f=im (nb (aO (cP c f.aC) f.aC) (vQ f)) (rf (aO (cP c f.aC) f.aC).a2 f.aH f.data f.aW):=rfl;have qV:f_ (Cm (cP c f.aC) f):=(WK vP hd aJ).sz ω;have zX:=vP.aO f.aC;have G4:=zX.gp;clear zX;have b7:=Pe c f 8;obtain⟨dW,ek,dt,eF⟩:=pA nP.2.1 f.aC;have zm:=dt;have dt:∀gp∈(cf (cP c f.aC).ab f.aC).1.a2.bV.cp,gp.data.length≤1048576:=fun gp hc=>by have:=dt gp hc;omega
 have c3:=oY (cP c f.aC) f.aC nP;rw[show(cf (cP c f.aC).ab f.aC).1=aO (cP c f.aC) f.aC from rfl]at dW ek dt zm eF c3;have Pf:=IJ c f.aC hz;generalize aO (cP c f.aC) f.aC=s at *;generalize cP c f.aC=x at *;refine e2 b2 6 (α:=Unit) (fun _=>⟨(.al::.al::.ptr 0 0 0::.ptr 1 0 0::.ptr 2 0 0::.al::.ptr 3 0 0::.al::.ptr 6 0 0::aA 79 []),[.box (aa.bT c),.box (aq.bT f),.box aa.cc,.box (aa.aG x (.sl 4 0 x.ab.length) (.sl 5 0 x.an.length)),.aj 39 (x.ab.map af.enc),.aj 2 (x.an.map aT.enc),.box (af.aG s (.sl 7 0 s.ak.av.cells.length) (.sl 8 0 s.ak.aP.length) (.sl 9 0 s.ak.aM.length) (.sl 10 0 s.ak.a0.length) (.sl 11 0 s.a2.bV.cp.length)),.aj 1 (s.ak.av.cells.map aR),.aj 2 (s.ak.aP.map J.enc),.aj 2 (s.ak.aM.map J.enc),.aj 2 (s.ak.a0.map J.enc),.aj 2 (s.a2.bV.cp.map aU.enc)]⟩) (fun _=>qw c f 8=true∧gO c.eO f.aC=true∧ie c f.aC=0) ?_ ?_
 ·skip
  try simp only[go_sem]
  repeat'(first|((first|refine ae.aj (by first|assumption|(apply xq<;>exact a6)) ?_|refine ay.aj (by first|assumption|apply yS) ?_|refine bw ?_)<;>simp only[go_sem])|(with_reducible refine az ?_)|fail)
  rw[b7]
  cases hg:qw c f 8 with
  |false=>
   rw[hg,if_neg ξ]at ai;rw[ai,if_neg ζ]at bq
   try simp only[go_sem,cR]
   repeat'(first|((first|refine ae.aj (by first|assumption|(apply iw<;>exact a6)) ?_|refine ay.aj ‹_› ?_)<;>simp only[go_sem,I])|(with_reducible refine az ?_)|fail)
   simp[bq,ai]
  |true=>
   rw[hg,if_pos rfl]at ai
   try simp only[go_sem,bN]
   repeat'(first|((first|refine ae.aj (by first|assumption|apply Ko) ?_|refine ay.aj ‹_› ?_)<;>simp only[go_sem])|(with_reducible refine az ?_)|fail)
   cases lL:gO c.eO f.aC with
   |false=>
    rw[lL,if_neg ξ]at ai;rw[ai,if_neg ζ]at bq
    try simp only[go_sem,cR]
    repeat'(first|((first|refine ae.aj (by first|assumption|(apply iw<;>exact a6)) ?_|refine ay.aj ‹_› ?_)<;>simp only[go_sem,I])|(with_reducible refine az ?_)|fail)
    simp[bq,ai]
   |true=>
    rw[lL,if_pos rfl]at ai
    try simp only[go_sem,bN]
    repeat'((first|refine ae.aj ‹_› ?_|refine ay.aj ‹_› ?_)<;>simp only[go_sem,I])
    cases l6:decide (ie c f.aC≠0)with
    |true=>
     have j8:=cQ l6;rw[if_neg j8]at ai;rw[ai,if_neg j8]at bq
     try simp only[go_sem]
     repeat'(first|((first|refine ae.aj (by first|assumption|(apply iw<;>exact a6)) ?_|refine ay.aj ‹_› ?_)<;>simp only[go_sem,I])|(with_reducible refine az ?_)|fail)
     simp[bq,ai]
    |false=>
     have j8:ie c f.aC=0:=Decidable.not_not.1 (c2 l6)
     try simp only[go_sem,I]
     repeat'((first|refine ae.aj ‹_› ?_|refine ay.aj ‹_› ?_)<;>simp only[go_sem,I])
     refine dm.intro () [0,1,2,5,3,4,11,6,7,8,9,10] (by first|exact⟨hg,lL,j8⟩|(simp only[true_and];exact j8)|simp[j8]) ?_;simp only[go_sem];simp
 rintro _ ⟨hg,lL,l6⟩;rw[hg,if_pos rfl,lL,if_pos rfl,l6,if_pos rfl]at ai;have bj:rf s.a2 f.aH f.data f.aW=rf s.a2 f.aH f.data f.aW:=rfl;generalize Pg:rf s.a2 f.aH f.data f.aW=r at a1 bj;have bj:r=rf s.a2 f.aH f.data f.aW:=Pg.symm;have Jt:i64.wrap (f.aH+(f.data.length:Int))=vQ f:=rfl;generalize vQ f=e at *;refine e2 b2 1 (α:=Unit) (fun _=>⟨(.al::.al::.ptr 0 0 0::.ptr 1 0 0::.ptr 2 0 0::.al::.ptr 3 0 0::.al::.ptr 6 0 0::.al::.ptr 12 0 0::.i (w1 s.a2 f.aH f.data f.aW)::aA 76 []),[.box (aa.bT c),.box (aq.bT f),.box aa.cc,.box (aa.aG x (.sl 4 0 x.ab.length) (.sl 5 0 x.an.length)),.aj 39 (x.ab.map af.enc),.aj 2 (x.an.map aT.enc),.box (af.aG s (.sl 7 0 s.ak.av.cells.length) (.sl 8 0 s.ak.aP.length) (.sl 9 0 s.ak.aM.length) (.sl 10 0 s.ak.a0.length) (.sl 11 0 s.a2.bV.cp.length)),.aj 1 (s.ak.av.cells.map aR),.aj 2 (s.ak.aP.map J.enc),.aj 2 (s.ak.aM.map J.enc),.aj 2 (s.ak.a0.map J.enc),.aj 2 (s.a2.bV.cp.map aU.enc),.box (b'.aG r (.sl 13 0 r.bV.cp.length)),.aj 2 (r.bV.cp.map aU.enc)]⟩) (fun _=>True) ?_ ?_
 ·skip
  try simp only[go_sem,I]
  repeat'((first|refine ae.aj (by first|assumption|(apply agy<;>exact a6)) ?_|refine ay.aj ‹_› ?_)<;>simp only[go_sem,I])
  refine dm.intro () [0,1,2,3,4,5,6,7,8,9,10,11,13,12] trivial ?_;simp only[go_sem];simp[←bj]
 rintro _ _;refine e2 b2 1 (α:=aa×af) (fun y=>⟨(.al::.al::.ptr 0 0 0::.ptr 1 0 0::.ptr 2 0 0::.al::.ptr 3 0 0::.i (lo x s (e))::.ptr 6 0 0::.al::.ptr 12 0 0::.i (w1 s.a2 f.aH f.data f.aW)::aA 76 []),[.box (aa.bT c),.box (aq.bT f),.box aa.cc,.box (aa.aG y.1 (.sl 4 0 y.1.ab.length) (.sl 5 0 y.1.an.length)),.aj 39 (y.1.ab.map af.enc),.aj 2 (y.1.an.map aT.enc),.box (af.aG y.2 (.sl 7 0 y.2.ak.av.cells.length) (.sl 8 0 y.2.ak.aP.length) (.sl 9 0 y.2.ak.aM.length) (.sl 10 0 y.2.ak.a0.length) (.sl 11 0 y.2.a2.bV.cp.length)),.aj 1 (y.2.ak.av.cells.map aR),.aj 2 (y.2.ak.aP.map J.enc),.aj 2 (y.2.ak.aM.map J.enc),.aj 2 (y.2.ak.a0.map J.enc),.aj 2 (y.2.a2.bV.cp.map aU.enc),.box (b'.aG r (.sl 13 0 r.bV.cp.length)),.aj 2 (r.bV.cp.map aU.enc)]⟩) (fun y=>lo x s (e)=0→y.1=og x s (e)∧y.2=nb s (e)) ?_ ?_
 ·simp only[go_sem,Jt];refine ae.jD [2,3,4,6,8,10,11] (by simp only[hZ,List.elem_cons,List.elem_nil,Nat.reduceBEq,Nat.reduceAdd,c_,dK];rfl) (fY (n:=52) (rs:=[.tmp 6]) func290 rfl call290 b2 rfl rfl ?_);simp only[go_sem,I]
  try simp only[go_sem,I]
  repeat'((first|refine ae.intro (by first|assumption|(apply WL<;>exact a6)) ?_|refine ay.intro ‹_› ?_)<;>simp only[go_sem])
  cases hn:decide (iq s.a2 (e)=0)with
  |true=>
   have kG:w2 s (e)=0:=cQ hn;have ag:lo x s (e)=0:=by unfold lo;rw[if_pos kG]
   have ar:og x s (e)=x:=by unfold og;rw[if_pos kG]
   have ba:nb s (e)=s:=by unfold nb;rw[if_pos kG]
   try simp only[go_sem]
   refine dm.intro (x,s) [0,1,2,3,4,5,6,7,8,9,10,11,12,13] (fun _=>⟨ar.symm,ba.symm⟩) ?_;simp only[go_sem,ag];simp
  |false=>
   have kG:¬w2 s (e)=0:=c2 hn;have ag:lo x s (e)=if j9 s.b1 (iq s.a2 (e))&&j9 x.dq (iq s.a2 (e))then 0 else 3:=by unfold lo;rw[if_neg kG];rfl
   have ar:og x s (e)={x with dq:=qx x.dq (iq s.a2 (e))}:=by unfold og;rw[if_neg kG];rfl
   have ba:nb s (e)={s with b1:=qx s.b1 (iq s.a2 (e))}:=by unfold nb;rw[if_neg kG];rfl
   try simp only[go_sem]
   repeat'((first|refine ae.intro (by first|assumption|apply WM) ?_|refine ay.intro ‹_› ?_|refine bw ?_)<;>simp only[go_sem])
   have G5:(bif !j9 s.b1 (iq s.a2 (e))then true else !j9 x.dq (iq s.a2 (e)))=!(j9 s.b1 (iq s.a2 (e))&&j9 x.dq (iq s.a2 (e))):=by
    cases j9 s.b1 (iq s.a2 (e))<;>cases j9 x.dq (iq s.a2 (e))<;>rfl
   rw[G5]
   cases hk:j9 s.b1 (iq s.a2 (e))&&j9 x.dq (iq s.a2 (e))with
   |false=>
    rw[hk,if_neg ξ]at ag
    try simp only[go_sem,cR]
    refine dm.intro (x,s) [0,1,2,3,4,5,6,7,8,9,10,11,12,13] (fun h=>by rw[ag]at h;cases h) ?_;simp only[go_sem,ag];simp
   |true=>
    rw[hk,if_pos rfl]at ag
    try simp only[go_sem,bN]
    refine dm.intro ({x with dq:=qx x.dq (iq s.a2 (e))},{s with b1:=qx s.b1 (iq s.a2 (e))}) [0,1,2,3,4,5,6,7,8,9,10,11,12,13] (fun _=>⟨ar.symm,ba.symm⟩) ?_;simp only[go_sem,ag];simp
 rintro⟨x2,u⟩ G6;simp only at G6;refine e2 b2 2 (α:=Unit) (fun _=>⟨(.al::.al::.ptr 0 0 0::.ptr 1 0 0::.ptr 2 0 0::.al::.ptr 3 0 0::.al::.ptr 6 0 0::.al::.ptr 12 0 0::aA 77 []),[.box (aa.bT c),.box (aq.bT f),.box aa.cc,.box (aa.aG x2 (.sl 4 0 x2.ab.length) (.sl 5 0 x2.an.length)),.aj 39 (x2.ab.map af.enc),.aj 2 (x2.an.map aT.enc),.box (af.aG u (.sl 7 0 u.ak.av.cells.length) (.sl 8 0 u.ak.aP.length) (.sl 9 0 u.ak.aM.length) (.sl 10 0 u.ak.a0.length) (.sl 11 0 u.a2.bV.cp.length)),.aj 1 (u.ak.av.cells.map aR),.aj 2 (u.ak.aP.map J.enc),.aj 2 (u.ak.aM.map J.enc),.aj 2 (u.ak.a0.map J.enc),.aj 2 (u.a2.bV.cp.map aU.enc),.box (b'.aG r (.sl 13 0 r.bV.cp.length)),.aj 2 (r.bV.cp.map aU.enc)]⟩) (fun _=>lo x s (e)=0∧w1 s.a2 f.aH f.data f.aW=0) ?_ ?_
 ·simp only[go_sem]
  cases vn:decide (lo x s (e)≠0)with
  |true=>
   have rh:=cQ vn;rw[if_neg rh]at ai;rw[ai,if_neg rh]at bq
   try simp only[go_sem]
   repeat'(first|((first|refine ae.aj (by first|assumption|(apply iw<;>exact a6)) ?_|refine ay.aj ‹_› ?_|refine bw ?_)<;>simp only[go_sem,I])|(with_reducible refine az ?_)|fail)
   simp[bq,ai]
  |false=>
   have rh:=Decidable.not_not.1 (c2 vn);rw[rh,if_pos rfl]at ai;simp only[go_sem]
   cases zn:decide (w1 s.a2 f.aH f.data f.aW≠0)with
   |true=>
    have zo:=cQ zn;rw[ai,if_neg zo]at bq
    try simp only[go_sem]
    repeat'(first|((first|refine ae.aj (by first|assumption|(apply iw<;>exact a6)) ?_|refine ay.aj ‹_› ?_)<;>simp only[go_sem,I])|(with_reducible refine az ?_)|fail)
    simp[bq,ai]
   |false=>
    have zo:=Decidable.not_not.1 (c2 zn);simp only[go_sem];refine dm.intro () [0,1,2,3,4,5,6,7,8,9,10,11,12,13] (by first|exact⟨rh,zo⟩|simp[rh,zo]) ?_;simp only[go_sem];simp
 rintro _ ⟨vn,zn⟩;obtain⟨AG,hu⟩:=G6 vn;rw[vn,if_pos rfl,zn]at ai;rw[ai,if_pos rfl]at bq;obtain⟨y,hy⟩:∃y,y=x2:=⟨_,rfl⟩;have G7:y.ab=x.ab:=by rw[hy,AG];exact(Ph _ _ _).1
 have G8:y.ab.length≤1000:=by rw[G7];exact lB
 have G9:∀q∈y.ab,f_ q:=by rw[G7];exact lT
 rw[←hu]at a1;rw[←AG,←hy]at bq;generalize Cm x f=t at *;refine e2 b2 1 (α:=Unit) (fun _=>⟨(aA 4 (.ptr 2 0 0::.al::.ptr 3 0 0::.al::.ptr 6 0 0::aA 79 [])),[.box (aa.bT c),.box (aq.bT f),.box aa.cc,.box (aa.aG y (.sl 4 0 y.ab.length) (.sl 5 0 y.an.length)),.aj 39 (y.ab.map af.enc),.aj 2 (y.an.map aT.enc),.box (af.aG t (.sl 7 0 t.ak.av.cells.length) (.sl 8 0 t.ak.aP.length) (.sl 9 0 t.ak.aM.length) (.sl 10 0 t.ak.a0.length) (.sl 11 0 t.a2.bV.cp.length)),.aj 1 (t.ak.av.cells.map aR),.aj 2 (t.ak.aP.map J.enc),.aj 2 (t.ak.aM.map J.enc),.aj 2 (t.ak.a0.map J.enc),.aj 2 (t.a2.bV.cp.map aU.enc)]⟩) (fun _=>True) ?_ ?_
 ·simp only[go_sem];refine dm.intro () [0,1,2,3,4,5,6,7,8,9,10,13] trivial ?_;simp only[go_sem,a1,hy,im];simp
 rintro _ _;refine e2 b2 1 (α:=Unit) (fun _=>⟨(aA 4 (.ptr 2 0 0::.al::.ptr 3 0 0::aA 81 [])),[.box (aa.bT c),.box (aq.bT f),.box aa.cc,.box (aa.aG ((fL y t)) (.sl 4 0 ((fL y t)).ab.length) (.sl 5 0 ((fL y t)).an.length)),.aj 39 (((fL y t)).ab.map af.enc),.aj 2 (((fL y t)).an.map aT.enc)]⟩) (fun _=>True) ?_ ?_
 ·simp only[go_sem,I];refine ae.jD [4,6] (by simp only[hZ,List.elem_cons,List.elem_nil,Nat.reduceBEq,Nat.reduceAdd,c_,dK];rfl) (zp y t (.aj 2 (y.an.map aT.enc)) (fun _=>trivial) G8 G9 qV [.box (aa.bT c),.box (aq.bT f),.box aa.cc] _ (by simp[dB,cA,bk,vok]) (by simp[bk,vok]) _ ?_);simp only[fB,fC,gJ,go_sem];have p6:(fL y t).an=y.an:=(Br y t).2;refine dm.intro () [0,1,2,3,4,5] trivial ?_;simp only[go_sem];simp[p6]
 rintro _ _;refine lx b2 ?_
 try simp only[go_sem,I]
 repeat'(first|(with_reducible refine az ?_)|fail)
 simp[bq,ai]
theorem agJ(c:aa)(f:aq)(m:Nat)(hv:cI m c)(hm:m≤19):aL 259 [.agg (aa.enc c),.agg (aq.enc f)] [.agg (aa.enc ((Hf c f))),.one (.int .i64 (Co c f))]:=by
 refine om 94 func259 call259 [.cell 4 37,.tmp 5] ?_;intro ok;clear ok;have hz:=hv.sz ω;have lv:=k5 hz;have vP:=AY hv f.aC;have nP:=vP.sz ω;have lB:(cP c f.aC).ab.length≤1000:=by have:=nP.1;omega
 have lT:=nP.2.1;have bq:Hf c f=if Co c f=0 then fL (A0 (cP c f.aC) f) (x9 (cP c f.aC) f)else c:=rfl
 have ai:Co c f=if qw c f 4 then(if gO c.eO f.aC then(if ie c f.aC=0 then(if lo (cP c f.aC) (aO (cP c f.aC) f.aC) f.br=0 then x_ (aO (cP c f.aC) f.aC).a2 f.c4 f.br else lo (cP c f.aC) (aO (cP c f.aC) f.aC) f.br)else ie c f.aC)else 5)else 7:=rfl
 have hB:Cp (cP c f.aC) f=(decide ((w6 (aO (cP c f.aC) f.aC).a2 f.c4 f.br).b0=4)&&decide ((aO (cP c f.aC) f.aC).a2.b0≠4)):=rfl;have a1:x9 (cP c f.aC) f=im (if Cp (cP c f.aC) f then x6 (nb (aO (cP c f.aC) f.aC) f.br) f.br else nb (aO (cP c f.aC) f.aC) f.br) (w6 (aO (cP c f.aC) f.aC).a2 f.c4 f.br):=rfl;have dF:A0 (cP c f.aC) f=if Cp (cP c f.aC) f then x7 (og (cP c f.aC) (aO (cP c f.aC) f.aC) f.br) (nb (aO (cP c f.aC) f.aC) f.br) f.br else og (cP c f.aC) (aO (cP c f.aC) f.aC) f.br:=rfl
 have qV:f_ (x9 (cP c f.aC) f):=(WU vP).sz ω;have He:(A0 (cP c f.aC) f).ab=(cP c f.aC).ab:=(WV _ f).1;have G4:=(vP.aO f.aC).gp;have b7:=Pe c f 4;obtain⟨dW,ek,dt,eF⟩:=pA nP.2.1 f.aC;have zm:=dt;have dt:∀gp∈(cf (cP c f.aC).ab f.aC).1.a2.bV.cp,gp.data.length≤1048576:=fun gp hc=>by have:=dt gp hc;omega
 have c3:=oY (cP c f.aC) f.aC nP;rw[show(cf (cP c f.aC).ab f.aC).1=aO (cP c f.aC) f.aC from rfl]at dW ek dt zm eF c3;have Pf:=IJ c f.aC hz;generalize aO (cP c f.aC) f.aC=s at *;generalize cP c f.aC=x at *;refine e2 b2 6 (α:=Unit) (fun _=>⟨(.al::.al::.ptr 0 0 0::.ptr 1 0 0::.ptr 2 0 0::.al::.ptr 3 0 0::.al::.ptr 6 0 0::aA 85 []),[.box (aa.bT c),.box (aq.bT f),.box aa.cc,.box (aa.aG x (.sl 4 0 x.ab.length) (.sl 5 0 x.an.length)),.aj 39 (x.ab.map af.enc),.aj 2 (x.an.map aT.enc),.box (af.aG s (.sl 7 0 s.ak.av.cells.length) (.sl 8 0 s.ak.aP.length) (.sl 9 0 s.ak.aM.length) (.sl 10 0 s.ak.a0.length) (.sl 11 0 s.a2.bV.cp.length)),.aj 1 (s.ak.av.cells.map aR),.aj 2 (s.ak.aP.map J.enc),.aj 2 (s.ak.aM.map J.enc),.aj 2 (s.ak.a0.map J.enc),.aj 2 (s.a2.bV.cp.map aU.enc)]⟩) (fun _=>qw c f 4=true∧gO c.eO f.aC=true∧ie c f.aC=0) ?_ ?_
 ·skip
  try simp only[go_sem]
  repeat'(first|((first|refine ae.aj (by first|assumption|(apply xq<;>exact a6)) ?_|refine ay.aj (by first|assumption|apply yS) ?_|refine bw ?_)<;>simp only[go_sem])|(with_reducible refine az ?_)|fail)
  rw[b7]
  cases hg:qw c f 4 with
  |false=>
   rw[hg,if_neg ξ]at ai;rw[ai,if_neg ζ]at bq
   try simp only[go_sem,cR]
   repeat'(first|((first|refine ae.aj (by first|assumption|(apply iw<;>exact a6)) ?_|refine ay.aj ‹_› ?_)<;>simp only[go_sem,I])|(with_reducible refine az ?_)|fail)
   simp[bq,ai]
  |true=>
   rw[hg,if_pos rfl]at ai
   try simp only[go_sem,bN]
   repeat'((first|refine ae.aj (by first|assumption|apply Ko) ?_|refine ay.aj ‹_› ?_|refine bw ?_)<;>simp only[go_sem])
   cases lL:gO c.eO f.aC with
   |false=>
    rw[lL,if_neg ξ]at ai;rw[ai,if_neg ζ]at bq
    try simp only[go_sem,cR]
    repeat'(first|((first|refine ae.aj (by first|assumption|(apply iw<;>exact a6)) ?_|refine ay.aj ‹_› ?_)<;>simp only[go_sem,I])|(with_reducible refine az ?_)|fail)
    simp[bq,ai]
   |true=>
    rw[lL,if_pos rfl]at ai
    try simp only[go_sem,bN]
    repeat'((first|refine ae.aj ‹_› ?_|refine ay.aj ‹_› ?_)<;>simp only[go_sem,I])
    cases l6:decide (ie c f.aC≠0)with
    |true=>
     have j8:=cQ l6;rw[if_neg j8]at ai;rw[ai,if_neg j8]at bq
     try simp only[go_sem]
     repeat'(first|((first|refine ae.aj (by first|assumption|(apply iw<;>exact a6)) ?_|refine ay.aj ‹_› ?_)<;>simp only[go_sem,I])|(with_reducible refine az ?_)|fail)
     simp[bq,ai]
    |false=>
     have j8:ie c f.aC=0:=Decidable.not_not.1 (c2 l6)
     try simp only[go_sem,I]
     repeat'((first|refine ae.aj ‹_› ?_|refine ay.aj ‹_› ?_)<;>simp only[go_sem,I])
     refine dm.intro () [0,1,2,5,3,4,11,6,7,8,9,10] (by first|exact⟨hg,lL,j8⟩|(simp only[true_and];exact j8)|simp[j8]) ?_;simp only[go_sem];simp
 rintro _ ⟨hg,lL,l6⟩;rw[hg,if_pos rfl,lL,if_pos rfl,l6,if_pos rfl]at ai;generalize Pg:w6 s.a2 f.c4 f.br=r at a1 hB;have bj:r=w6 s.a2 f.c4 f.br:=Pg.symm;refine e2 b2 1 (α:=Unit) (fun _=>⟨(.al::.al::.ptr 0 0 0::.ptr 1 0 0::.ptr 2 0 0::.al::.ptr 3 0 0::.al::.ptr 6 0 0::.al::.ptr 12 0 0::.i (x_ s.a2 f.c4 f.br)::aA 82 []),[.box (aa.bT c),.box (aq.bT f),.box aa.cc,.box (aa.aG x (.sl 4 0 x.ab.length) (.sl 5 0 x.an.length)),.aj 39 (x.ab.map af.enc),.aj 2 (x.an.map aT.enc),.box (af.aG s (.sl 7 0 s.ak.av.cells.length) (.sl 8 0 s.ak.aP.length) (.sl 9 0 s.ak.aM.length) (.sl 10 0 s.ak.a0.length) (.sl 11 0 s.a2.bV.cp.length)),.aj 1 (s.ak.av.cells.map aR),.aj 2 (s.ak.aP.map J.enc),.aj 2 (s.ak.aM.map J.enc),.aj 2 (s.ak.a0.map J.enc),.aj 2 (s.a2.bV.cp.map aU.enc),.box (b'.aG r (.sl 13 0 r.bV.cp.length)),.aj 2 (r.bV.cp.map aU.enc)]⟩) (fun _=>True) ?_ ?_
 ·skip
  try simp only[go_sem,I]
  repeat'((first|refine ae.aj (by first|assumption|(apply agO<;>exact a6)) ?_|refine ay.aj ‹_› ?_)<;>simp only[go_sem,I])
  refine dm.intro () [0,1,2,3,4,5,6,7,8,9,10,11,13,12] trivial ?_;simp only[go_sem];simp[←bj]
 rintro _ _;refine e2 b2 1 (α:=aa×af) (fun y=>⟨(.al::.al::.ptr 0 0 0::.ptr 1 0 0::.ptr 2 0 0::.al::.ptr 3 0 0::.i (lo x s (f.br))::.ptr 6 0 0::.al::.ptr 12 0 0::.i (x_ s.a2 f.c4 f.br)::aA 82 []),[.box (aa.bT c),.box (aq.bT f),.box aa.cc,.box (aa.aG y.1 (.sl 4 0 y.1.ab.length) (.sl 5 0 y.1.an.length)),.aj 39 (y.1.ab.map af.enc),.aj 2 (y.1.an.map aT.enc),.box (af.aG y.2 (.sl 7 0 y.2.ak.av.cells.length) (.sl 8 0 y.2.ak.aP.length) (.sl 9 0 y.2.ak.aM.length) (.sl 10 0 y.2.ak.a0.length) (.sl 11 0 y.2.a2.bV.cp.length)),.aj 1 (y.2.ak.av.cells.map aR),.aj 2 (y.2.ak.aP.map J.enc),.aj 2 (y.2.ak.aM.map J.enc),.aj 2 (y.2.ak.a0.map J.enc),.aj 2 (y.2.a2.bV.cp.map aU.enc),.box (b'.aG r (.sl 13 0 r.bV.cp.length)),.aj 2 (r.bV.cp.map aU.enc)]⟩) (fun y=>lo x s (f.br)=0→y.1=og x s (f.br)∧y.2=nb s (f.br)) ?_ ?_
 ·simp only[go_sem];refine ae.jD [2,3,4,6,8,10,11] (by simp only[hZ,List.elem_cons,List.elem_nil,Nat.reduceBEq,Nat.reduceAdd,c_,dK];rfl) (fY (n:=52) (rs:=[.tmp 6]) func290 rfl call290 b2 rfl rfl ?_);simp only[go_sem,I]
  try simp only[go_sem,I]
  repeat'((first|refine ae.intro (by first|assumption|(apply WL<;>exact a6)) ?_|refine ay.intro ‹_› ?_)<;>simp only[go_sem])
  cases hn:decide (iq s.a2 (f.br)=0)with
  |true=>
   have kG:w2 s (f.br)=0:=cQ hn;have ag:lo x s (f.br)=0:=by unfold lo;rw[if_pos kG]
   have ar:og x s (f.br)=x:=by unfold og;rw[if_pos kG]
   have ba:nb s (f.br)=s:=by unfold nb;rw[if_pos kG]
   try simp only[go_sem]
   refine dm.intro (x,s) [0,1,2,3,4,5,6,7,8,9,10,11,12,13] (fun _=>⟨ar.symm,ba.symm⟩) ?_;simp only[go_sem,ag];simp
  |false=>
   have kG:¬w2 s (f.br)=0:=c2 hn;have ag:lo x s (f.br)=if j9 s.b1 (iq s.a2 (f.br))&&j9 x.dq (iq s.a2 (f.br))then 0 else 3:=by unfold lo;rw[if_neg kG];rfl
   have ar:og x s (f.br)={x with dq:=qx x.dq (iq s.a2 (f.br))}:=by unfold og;rw[if_neg kG];rfl
   have ba:nb s (f.br)={s with b1:=qx s.b1 (iq s.a2 (f.br))}:=by unfold nb;rw[if_neg kG];rfl
   try simp only[go_sem]
   repeat'((first|refine ae.intro (by first|assumption|apply WM) ?_|refine ay.intro ‹_› ?_|refine bw ?_)<;>simp only[go_sem])
   have G5:(bif !j9 s.b1 (iq s.a2 (f.br))then true else !j9 x.dq (iq s.a2 (f.br)))=!(j9 s.b1 (iq s.a2 (f.br))&&j9 x.dq (iq s.a2 (f.br))):=by
    cases j9 s.b1 (iq s.a2 (f.br))<;>cases j9 x.dq (iq s.a2 (f.br))<;>rfl
   rw[G5]
   cases hk:j9 s.b1 (iq s.a2 (f.br))&&j9 x.dq (iq s.a2 (f.br))with
   |false=>
    rw[hk,if_neg ξ]at ag
    try simp only[go_sem,cR]
    refine dm.intro (x,s) [0,1,2,3,4,5,6,7,8,9,10,11,12,13] (fun h=>by rw[ag]at h;cases h) ?_;simp only[go_sem,ag];simp
   |true=>
    rw[hk,if_pos rfl]at ag
    try simp only[go_sem,bN]
    refine dm.intro ({x with dq:=qx x.dq (iq s.a2 (f.br))},{s with b1:=qx s.b1 (iq s.a2 (f.br))}) [0,1,2,3,4,5,6,7,8,9,10,11,12,13] (fun _=>⟨ar.symm,ba.symm⟩) ?_;simp only[go_sem,ag];simp
 rintro⟨x2,u⟩ G6;simp only at G6;refine e2 b2 2 (α:=Unit) (fun _=>⟨(.al::.al::.ptr 0 0 0::.ptr 1 0 0::.ptr 2 0 0::.al::.ptr 3 0 0::.al::.ptr 6 0 0::.al::.ptr 12 0 0::aA 83 []),[.box (aa.bT c),.box (aq.bT f),.box aa.cc,.box (aa.aG x2 (.sl 4 0 x2.ab.length) (.sl 5 0 x2.an.length)),.aj 39 (x2.ab.map af.enc),.aj 2 (x2.an.map aT.enc),.box (af.aG u (.sl 7 0 u.ak.av.cells.length) (.sl 8 0 u.ak.aP.length) (.sl 9 0 u.ak.aM.length) (.sl 10 0 u.ak.a0.length) (.sl 11 0 u.a2.bV.cp.length)),.aj 1 (u.ak.av.cells.map aR),.aj 2 (u.ak.aP.map J.enc),.aj 2 (u.ak.aM.map J.enc),.aj 2 (u.ak.a0.map J.enc),.aj 2 (u.a2.bV.cp.map aU.enc),.box (b'.aG r (.sl 13 0 r.bV.cp.length)),.aj 2 (r.bV.cp.map aU.enc)]⟩) (fun _=>lo x s (f.br)=0∧x_ s.a2 f.c4 f.br=0) ?_ ?_
 ·simp only[go_sem]
  cases vn:decide (lo x s (f.br)≠0)with
  |true=>
   have rh:=cQ vn;rw[if_neg rh]at ai;rw[ai,if_neg rh]at bq
   try simp only[go_sem]
   repeat'(first|((first|refine ae.aj (by first|assumption|(apply iw<;>exact a6)) ?_|refine ay.aj ‹_› ?_|refine bw ?_)<;>simp only[go_sem,I])|(with_reducible refine az ?_)|fail)
   simp[bq,ai]
  |false=>
   have rh:=Decidable.not_not.1 (c2 vn);rw[rh,if_pos rfl]at ai;simp only[go_sem]
   cases zn:decide (x_ s.a2 f.c4 f.br≠0)with
   |true=>
    have zo:=cQ zn;rw[ai,if_neg zo]at bq
    try simp only[go_sem]
    repeat'(first|((first|refine ae.aj (by first|assumption|(apply iw<;>exact a6)) ?_|refine ay.aj ‹_› ?_)<;>simp only[go_sem,I])|(with_reducible refine az ?_)|fail)
    simp[bq,ai]
   |false=>
    have zo:=Decidable.not_not.1 (c2 zn);simp only[go_sem];refine dm.intro () [0,1,2,3,4,5,6,7,8,9,10,11,12,13] (by first|exact⟨rh,zo⟩|simp[rh,zo]) ?_;simp only[go_sem];simp
 rintro _ ⟨vn,zn⟩;obtain⟨AG,hu⟩:=G6 vn;rw[vn,if_pos rfl,zn]at ai;rw[ai,if_pos rfl]at bq;have agP:u.a2.b0=s.a2.b0:=by rw[hu,(Kr s f.br).2.1]
 rw[←agP]at hB;rw[←hu]at a1 dF;rw[←AG]at dF;have agQ:(bif decide (r.b0=4)then decide (u.a2.b0≠4)else false)=Cp x f:=by rw[hB];cases decide (r.b0=4)<;>rfl
 generalize Cp x f=B at *;refine e2 b2 1 (α:=aa×af) (fun y=>⟨(.al::.al::.ptr 0 0 0::.ptr 1 0 0::.ptr 2 0 0::.al::.ptr 3 0 0::.al::.ptr 6 0 0::.al::.ptr 12 0 0::aA 83 []),[.box (aa.bT c),.box (aq.bT f),.box aa.cc,.box (aa.aG y.1 (.sl 4 0 y.1.ab.length) (.sl 5 0 y.1.an.length)),.aj 39 (y.1.ab.map af.enc),.aj 2 (y.1.an.map aT.enc),.box (af.aG y.2 (.sl 7 0 y.2.ak.av.cells.length) (.sl 8 0 y.2.ak.aP.length) (.sl 9 0 y.2.ak.aM.length) (.sl 10 0 y.2.ak.a0.length) (.sl 11 0 y.2.a2.bV.cp.length)),.aj 1 (y.2.ak.av.cells.map aR),.aj 2 (y.2.ak.aP.map J.enc),.aj 2 (y.2.ak.aM.map J.enc),.aj 2 (y.2.ak.a0.map J.enc),.aj 2 (y.2.a2.bV.cp.map aU.enc),.box (b'.aG r (.sl 13 0 r.bV.cp.length)),.aj 2 (r.bV.cp.map aU.enc)]⟩) (fun y=>y.1=A0 x f∧im y.2 r=x9 x f) ?_ ?_
 ·skip
  try simp only[go_sem]
  repeat'(refine bw ?_<;>simp only[go_sem])
  rw[agQ]
  cases B with
  |false=>
   rw[if_neg ξ]at a1 dF;simp only[go_sem];refine dm.intro (x2,u) [0,1,2,3,4,5,6,7,8,9,10,11,12,13] ⟨dF.symm,a1.symm⟩ ?_;simp only[go_sem];simp
  |true=>
   rw[if_pos rfl]at a1 dF;simp only[go_sem];refine ae.jD [2,3,4,6,8,10] (by simp only[hZ,List.elem_cons,List.elem_nil,Nat.reduceBEq,Nat.reduceAdd,c_,dK];rfl) (fY (n:=45) (rs:=[]) func254 rfl call254 b2 rfl rfl ?_);simp only[go_sem]
   try simp only[go_sem,I]
   repeat'(first|((first|refine ae.intro (by first|assumption|apply WT) ?_|refine ay.intro ‹_› ?_)<;>simp only[go_sem])|(with_reducible refine az ?_)|fail)
   refine dm.intro (x7 x2 u f.br,x6 u f.br) [0,1,2,3,4,5,6,7,8,9,10,11,12,13] ⟨dF.symm,a1.symm⟩ ?_;simp only[go_sem,x7,x6,Kq,dp];simp
 rintro⟨y,v⟩ ⟨hy,Pl⟩;simp only at hy Pl;have G7:y.ab=x.ab:=by rw[hy];exact He
 have G8:y.ab.length≤1000:=by rw[G7];exact lB
 have G9:∀q∈y.ab,f_ q:=by rw[G7];exact lT
 rw[←hy,←Pl]at bq;rw[←Pl]at qV;obtain⟨t,ht⟩:∃t,t=im v r:=⟨_,rfl⟩;rw[←ht]at bq qV;refine e2 b2 1 (α:=Unit) (fun _=>⟨(aA 4 (.ptr 2 0 0::.al::.ptr 3 0 0::.al::.ptr 6 0 0::aA 85 [])),[.box (aa.bT c),.box (aq.bT f),.box aa.cc,.box (aa.aG y (.sl 4 0 y.ab.length) (.sl 5 0 y.an.length)),.aj 39 (y.ab.map af.enc),.aj 2 (y.an.map aT.enc),.box (af.aG t (.sl 7 0 t.ak.av.cells.length) (.sl 8 0 t.ak.aP.length) (.sl 9 0 t.ak.aM.length) (.sl 10 0 t.ak.a0.length) (.sl 11 0 t.a2.bV.cp.length)),.aj 1 (t.ak.av.cells.map aR),.aj 2 (t.ak.aP.map J.enc),.aj 2 (t.ak.aM.map J.enc),.aj 2 (t.ak.a0.map J.enc),.aj 2 (t.a2.bV.cp.map aU.enc)]⟩) (fun _=>True) ?_ ?_
 ·simp only[go_sem];refine dm.intro () [0,1,2,3,4,5,6,7,8,9,10,13] trivial ?_;simp only[go_sem,ht,im];simp
 rintro _ _;refine e2 b2 1 (α:=Unit) (fun _=>⟨(aA 4 (.ptr 2 0 0::.al::.ptr 3 0 0::aA 87 [])),[.box (aa.bT c),.box (aq.bT f),.box aa.cc,.box (aa.aG ((fL y t)) (.sl 4 0 ((fL y t)).ab.length) (.sl 5 0 ((fL y t)).an.length)),.aj 39 (((fL y t)).ab.map af.enc),.aj 2 (((fL y t)).an.map aT.enc)]⟩) (fun _=>True) ?_ ?_
 ·simp only[go_sem,I];refine ae.jD [4,6] (by simp only[hZ,List.elem_cons,List.elem_nil,Nat.reduceBEq,Nat.reduceAdd,c_,dK];rfl) (zp y t (.aj 2 (y.an.map aT.enc)) (fun _=>trivial) G8 G9 qV [.box (aa.bT c),.box (aq.bT f),.box aa.cc] _ (by simp[dB,cA,bk,vok]) (by simp[bk,vok]) _ ?_);simp only[fB,fC,gJ,go_sem];have p6:(fL y t).an=y.an:=(Br y t).2;refine dm.intro () [0,1,2,3,4,5] trivial ?_;simp only[go_sem];simp[p6]
 rintro _ _;refine lx b2 ?_
 try simp only[go_sem,I]
 repeat'(first|(refine bw ?_<;>simp only[go_sem,I])|(with_reducible refine az ?_)|fail)
 simp[bq,ai]
theorem agz(c:aa)(f:aq)(m:Nat)(hv:cI m c)(hm:m≤19):aL 294 [.agg (aa.enc c),.agg (aq.enc f)] [.agg (aa.enc ((G_ c f))),.one (.int .i64 (Cn c f))]:=by
 refine a3 62 func294 call294 [.cell 4 37,.tmp 5] ?_;intro ok;clear ok;have hz:=hv.sz ω;have lv:=k5 hz;have vP:=AY hv f.aC;have nP:=vP.sz ω;have Pf:=IJ c f.aC hz;have c3:=oY (cP c f.aC) f.aC nP;rw[show(cf (cP c f.aC).ab f.aC).1=aO (cP c f.aC) f.aC from rfl]at c3;have z0:f_ (aO (cP c f.aC) f.aC):=pA nP.2.1 f.aC;have d':f_ (G' (cP c f.aC) f):=z0;have gB:=nu (cP c f.aC).ab (G' (cP c f.aC) f) (by have:=nP.1;omega) nP.2.1 d';have bq:G_ c f=if Cn c f=0 then(if f.bp=17 then lI (cP c f.aC) (G' (cP c f.aC) f)else cP c f.aC)else c:=rfl
 have ai:Cn c f=if Ek c f then ie c f.aC else 5:=rfl
 have a1:G' (cP c f.aC) f={aO (cP c f.aC) f.aC with cV:=x3 (aO (cP c f.aC) f.aC).cV f.aZ}:=rfl;rw[a1]at gB bq;generalize aO (cP c f.aC) f.aC=s at *;generalize cP c f.aC=x at *;obtain⟨dW,ek,dt,eF⟩:=z0
 try simp only[go_sem]
 repeat'((first|refine ae.aj (by first|assumption|apply Pj) ?_|refine ay.aj ‹_› ?_)<;>simp only[go_sem])
 cases Ha:decide (f.bp=21)with
 |true=>
  have Pk:=cQ Ha;have hk:Ek c f=gO c.eO f.aC:=by unfold Ek;exact if_pos Pk
  rw[hk]at ai;rw[if_neg (show ¬f.bp=17 by omega)]at bq;have nc:=bm (p:=f.bp=17) ω
  try simp only[go_sem]
  repeat'((first|refine ae.aj (by first|assumption|apply Ko) ?_|refine ay.aj ‹_› ?_)<;>simp only[go_sem])
  cases lL:gO c.eO f.aC with
  |false=>
   rw[lL,if_neg ξ]at ai;rw[ai,if_neg ζ]at bq
   try simp only[go_sem,cR]
   repeat'(first|((first|refine ae.aj (by first|assumption|(apply iw<;>exact a6)) ?_|refine ay.aj ‹_› ?_)<;>simp only[go_sem,I])|(with_reducible refine az ?_)|fail)
   simp[bq,ai]
  |true=>
   rw[lL,if_pos rfl]at ai
   try simp only[go_sem,bN]
   repeat'((first|refine ae.aj ‹_› ?_|refine ay.aj ‹_› ?_)<;>simp only[go_sem,I])
   cases l6:decide (ie c f.aC≠0)with
   |true=>
    have j8:=cQ l6;rw[ai,if_neg j8]at bq
    try simp only[go_sem]
    repeat'(first|((first|refine ae.aj (by first|assumption|(apply iw<;>exact a6)) ?_|refine ay.aj ‹_› ?_)<;>simp only[go_sem,I])|(with_reducible refine az ?_)|fail)
    simp[bq,ai]
   |false=>
    have j8:ie c f.aC=0:=Decidable.not_not.1 (c2 l6);rw[j8]at ai;rw[ai,if_pos rfl]at bq
    try simp only[go_sem,I,nc]
    repeat'(first|(with_reducible refine az ?_)|fail)
    simp[bq,ai]
 |false=>
  have Pk:=c2 Ha;have hk:Ek c f=fF c.eO f.aC:=by unfold Ek;exact if_neg Pk
  rw[hk]at ai;simp only[go_sem]
  try simp only[go_sem,I]
  repeat'((first|refine ae.aj ‹_› ?_|refine ay.aj ‹_› ?_)<;>simp only[go_sem,I])
  cases lL:fF c.eO f.aC with
  |false=>
   rw[lL,if_neg ξ]at ai;rw[ai,if_neg ζ]at bq
   try simp only[go_sem,cR]
   repeat'(first|((first|refine ae.aj (by first|assumption|(apply iw<;>exact a6)) ?_|refine ay.aj ‹_› ?_)<;>simp only[go_sem,I])|(with_reducible refine az ?_)|fail)
   simp[bq,ai]
  |true=>
   rw[lL,if_pos rfl]at ai
   try simp only[go_sem,bN]
   repeat'((first|refine ae.aj ‹_› ?_|refine ay.aj ‹_› ?_)<;>simp only[go_sem,I])
   cases l6:decide (ie c f.aC≠0)with
   |true=>
    have j8:=cQ l6;rw[ai,if_neg j8]at bq
    try simp only[go_sem]
    repeat'(first|((first|refine ae.aj (by first|assumption|(apply iw<;>exact a6)) ?_|refine ay.aj ‹_› ?_)<;>simp only[go_sem,I])|(with_reducible refine az ?_)|fail)
    simp[bq,ai]
   |false=>
    have j8:ie c f.aC=0:=Decidable.not_not.1 (c2 l6);rw[j8]at ai;rw[ai,if_pos rfl]at bq;simp only[go_sem]
    cases nc:decide (f.bp=17)with
    |true=>
     rw[if_pos (cQ nc)]at bq
     try simp only[go_sem,I]
     repeat'(first|((first|refine ae.aj (by first|assumption|apply WN) ?_|refine ay.aj ‹_› ?_)<;>simp only[go_sem,I])|(with_reducible refine az ?_)|fail)
     simp[bq,ai,lI]
    |false=>
     rw[if_neg (c2 nc)]at bq
     try simp only[go_sem,I]
     repeat'(first|(with_reducible refine az ?_)|fail)
     simp[bq,ai]
theorem agA(c:aa)(f:aq):(bif !gq c then true else !d_ f)=!Hb c f:=by
 unfold Hb
 cases gq c<;>cases d_ f<;>rfl
theorem agB(c:aa)(f:aq)(m:Nat)(hv:cI m c)(hm:m≤19):aL 261 [.agg (aa.enc c),.agg (aq.enc f)] [.agg (aa.enc ((ri c f))),.one (.int .i64 (w3 c f))]:=by
 refine a3 64 func261 call261 [.cell 4 37,.tmp 5] ?_;intro ok;clear ok;have hz:=hv.sz ω;have lv:=k5 hz;have g6:=agz c f m hv hm;have b7:=agA c f
 try simp only[go_sem]
 repeat'((first|refine ae.aj (by first|assumption|(apply iw<;>exact a6)|(apply xq<;>exact a6)) ?_|refine ay.aj (by first|assumption|apply yS) ?_|refine bw ?_)<;>simp only[go_sem,I])
 rw[b7]
 cases hg:Hb c f with
 |false=>
  try simp only[go_sem,I,cR]
  repeat'(first|(with_reducible refine az ?_)|fail)
  simp[ri,w3,hg]
 |true=>
  simp only[go_sem,bN]
  cases lH:decide (f.bp=16)with
  |true=>
   have h':=cQ lH
   try simp only[go_sem]
   repeat'(first|((first|refine ae.aj (by first|assumption|apply WN) ?_|refine ay.aj ‹_› ?_)<;>simp only[go_sem,I])|(with_reducible refine az ?_)|fail)
   simp[ri,w3,hg,h']
  |false=>
   have agC:=c2 lH;simp only[go_sem]
   cases jv:decide (f.bp=18)with
   |true=>
    have h':=cQ jv;simp only[go_sem]
    cases hu:f.ft with
    |true=>
     try simp only[go_sem]
     repeat'(first|((first|refine ae.aj (by first|assumption|apply WO) ?_|refine ay.aj ‹_› ?_)<;>simp only[go_sem,I])|(with_reducible refine az ?_)|fail)
     simp[ri,w3,hg,h',hu]
    |false=>
     try simp only[go_sem]
     repeat'(first|((first|refine ae.aj (by first|assumption|apply WO) ?_|refine ay.aj ‹_› ?_)<;>simp only[go_sem,I])|(with_reducible refine az ?_)|fail)
     simp[ri,w3,hg,h',hu]
   |false=>
    have agD:=c2 jv;simp only[go_sem]
    cases o5:decide (f.bp=20)with
    |true=>
     have h':=cQ o5
     try simp only[go_sem,I]
     repeat'(first|(with_reducible refine az ?_)|fail)
     simp[ri,w3,hg,h']
    |false=>
     have agE:=c2 o5;simp only[go_sem]
     cases wA:decide (f.bp=22)with
     |true=>
      have h':=cQ wA
      try simp only[go_sem,I]
      repeat'(first|(with_reducible refine az ?_)|fail)
      simp[ri,w3,hg,h']
     |false=>
      have agF:=c2 wA;simp only[go_sem]
      cases nc:decide (f.bp=17)with
      |true=>
       have h':=cQ nc
       try simp only[go_sem]
       repeat'(first|((first|refine ae.aj ‹_› ?_|refine ay.aj ‹_› ?_)<;>simp only[go_sem,I])|(with_reducible refine az ?_)|fail)
       simp[ri,w3,hg,h']
      |false=>
       have agG:=c2 nc;simp only[go_sem]
       cases Ha:decide (f.bp=21)with
       |true=>
        have h':=cQ Ha
        try simp only[go_sem]
        repeat'(first|((first|refine ae.aj ‹_› ?_|refine ay.aj ‹_› ?_)<;>simp only[go_sem,I])|(with_reducible refine az ?_)|fail)
        simp[ri,w3,hg,h']
       |false=>
        have agH:=c2 Ha
        try simp only[go_sem,I]
        repeat'(first|(with_reducible refine az ?_)|fail)
        simp[ri,w3,hg,agC,agG,agD,agE,agH,agF]
theorem agI(c:aa)(f:aq)(m:Nat)(hv:cI m c)(hm:m≤19)(hd:f.data.length≤8)(aJ:0≤f.aH∧f.aH≤900):aL 223 [.agg (aa.enc c),.agg (aq.enc f)] [.agg (aa.enc ((Ad c f))),.one (.int .i64 (El c f))]:=by
 refine a3 44 func223 call223 [.cell 4 37,.tmp 5] ?_;intro ok;clear ok;have hz:=hv.sz ω;have lv:=k5 hz;have cB:=agx c f m hv hm hd aJ;have cJ:=agJ c f m hv hm;have ct:=agK c f m hv hm;have eA:=agB c f m hv hm
 try simp only[go_sem]
 repeat'((first|refine ae.aj (by first|assumption|(apply iw<;>exact a6)) ?_|refine ay.aj ‹_› ?_)<;>simp only[go_sem,I])
 cases e9:decide (f.bp=8)with
 |true=>
  have h':=cQ e9
  try simp only[go_sem]
  repeat'(first|((first|refine ae.aj ‹_› ?_|refine ay.aj ‹_› ?_)<;>simp only[go_sem,I])|(with_reducible refine az ?_)|fail)
  simp[Ad,El,h']
 |false=>
  have x4:=c2 e9;simp only[go_sem]
  cases aN:decide (f.bp=4)with
  |true=>
   have h':=cQ aN
   try simp only[go_sem]
   repeat'(first|((first|refine ae.aj ‹_› ?_|refine ay.aj ‹_› ?_)<;>simp only[go_sem,I])|(with_reducible refine az ?_)|fail)
   simp[Ad,El,h']
  |false=>
   have q8:=c2 aN;simp only[go_sem]
   cases b6:decide (f.bp=5)with
   |true=>
    have h':=cQ b6
    try simp only[go_sem]
    repeat'(first|((first|refine ae.aj ‹_› ?_|refine ay.aj ‹_› ?_)<;>simp only[go_sem,I])|(with_reducible refine az ?_)|fail)
    simp[Ad,El,h']
   |false=>
    have Kp:=c2 b6
    try simp only[go_sem]
    repeat'(first|((first|refine ae.aj ‹_› ?_|refine ay.aj ‹_› ?_)<;>simp only[go_sem,I])|(with_reducible refine az ?_)|fail)
    simp[Ad,El,x4,q8,Kp]
def WQ:List (List bR):=cS 13 [1564799,1574638,1574632,1574614,1574560,1515349,1514863,1513405,1509031,1348285,1564677,1436859,1062882]
attribute [go_sem] WQ
theorem agL(c:aa)(id:Int):(bif bif !iv c then true else !(cf c.ab id).2 then true else !(aO c id).gO)=!w4 c id:=by
 unfold w4
 cases iv c<;>cases(cf c.ab id).2<;>cases(aO c id).gO<;>rfl
theorem agM(c:aa)(id k:Int)(m:Nat)(hv:cI m c)(hm:m≤20):aL 219 [.agg (aa.enc c),.one (.int .i64 id),.one (.int .i64 k)] [.one (.str (Hc c id k)),.one (.bool (Hd c id k)),.agg (aa.enc ((nG c id k)))]:=by
 refine om 63 func219 call219 [.tmp 6,.tmp 7,.cell 8 37] ?_;intro ok;clear ok;have hz:=hv.sz hm;have lv:=k5 hz;have lB:c.ab.length≤1000:=by have:=hz.1;omega
 have lT:=hz.2.1;have bq:nG c id k=if w4 c id then fL (AZ c id k) (x5 c id k)else c:=rfl
 have cM:Hc c id k=if w4 c id then w5 (aO c id).a2 k else []:=rfl
 have ai:Hd c id k=(w4 c id&&(decide ((oh c id k).b0=3)||decide ((oh c id k).b0=5))):=rfl;have a1:x5 c id k=if decide ((oh c id k).b0<4)then x6 (im (aO c id) (oh c id k)) (oh c id k).bV.next else im (aO c id) (oh c id k):=rfl
 have dF:AZ c id k=if decide ((oh c id k).b0<4)then x7 c (im (aO c id) (oh c id k)) (oh c id k).bV.next else c:=rfl
 have b7:=agL c id;have qV:f_ (x5 c id k):=(WR hv id k).sz hm;have He:(AZ c id k).ab=c.ab:=(WS c id k).1;obtain⟨dW,ek,dt,eF⟩:=pA hz.2.1 id;have dt:∀gp∈(cf c.ab id).1.a2.bV.cp,gp.data.length≤1048576:=fun gp hc=>by have:=dt gp hc;omega
 have c3:=oY c id hz;have bj:oh c id k=x8 (aO c id).a2 k:=rfl;rw[show(cf c.ab id).1=aO c id from rfl]at dW ek dt eF c3;generalize oh c id k=r at *;generalize aO c id=s at *;refine e2 b2 6 (α:=Unit) (fun _=>⟨(aA 6 (.d (.str [])::.d (.bool false)::.ptr 1 0 0::.ptr 3 0 0::.ptr 6 0 0::.al::.d (.str (w5 s.a2 k))::.ptr 2 0 0::aA 49 [])),[.box (aa.bT c),.box aa.cc,.box (b'.aG r (.al)),.box (aa.aG c (.sl 4 0 c.ab.length) (.sl 5 0 c.an.length)),.aj 39 (c.ab.map af.enc),.aj 2 (c.an.map aT.enc),.box (af.aG (im s r) (.sl 7 0 (im s r).ak.av.cells.length) (.sl 8 0 (im s r).ak.aP.length) (.sl 9 0 (im s r).ak.aM.length) (.sl 10 0 (im s r).ak.a0.length) (.sl 11 0 (im s r).a2.bV.cp.length)),.aj 1 ((im s r).ak.av.cells.map aR),.aj 2 ((im s r).ak.aP.map J.enc),.aj 2 ((im s r).ak.aM.map J.enc),.aj 2 ((im s r).ak.a0.map J.enc),.aj 2 ((im s r).a2.bV.cp.map aU.enc)]⟩) (fun _=>w4 c id=true) ?_ ?_
 ·skip
  try simp only[go_sem]
  repeat'(first|((first|refine ae.aj (by first|assumption|(apply iw<;>exact a6)|(apply xf<;>exact a6)) ?_|refine ay.aj ‹_› ?_|refine bw ?_|refine f' ?_)<;>simp only[go_sem,I])|(with_reducible refine az ?_)|fail)
  rw[b7]
  cases hg:w4 c id with
  |false=>
   rw[hg]at bq cM ai
   try simp only[go_sem,cR]
   repeat'(first|(refine bo [[.post,.dN,.dN,.post],[.dN,.post,.post,.post],[.dN,.pre,.post,.post],[.pre,.pre,.pre,.post]] χ ψ ?_<;>simp only[go_sem,I])|(with_reducible refine az ?_)|fail)
   simp[bq,cM,ai]
  |true=>
   try simp only[go_sem,I,bN]
   repeat'((first|refine ae.aj (by first|assumption|(apply agN<;>exact a6)) ?_|refine ay.aj ‹_› ?_)<;>simp only[go_sem,I])
   refine dm.intro () [0,1,12,4,2,3,10,5,6,7,8,11] (by first|exact hg|trivial) ?_;simp only[go_sem,im];simp[←bj]
 rintro _ hg;rw[hg,if_pos rfl]at bq cM;rw[hg,Bool.true_and]at ai;refine e2 b2 1 (α:=aa×af) (fun y=>⟨(aA 6 (.d (.str [])::.d (.bool false)::.ptr 1 0 0::.ptr 3 0 0::.ptr 6 0 0::.al::.d (.str (w5 s.a2 k))::.ptr 2 0 0::aA 49 [])),[.box (aa.bT c),.box aa.cc,.box (b'.aG r (.al)),.box (aa.aG y.1 (.sl 4 0 y.1.ab.length) (.sl 5 0 y.1.an.length)),.aj 39 (y.1.ab.map af.enc),.aj 2 (y.1.an.map aT.enc),.box (af.aG y.2 (.sl 7 0 y.2.ak.av.cells.length) (.sl 8 0 y.2.ak.aP.length) (.sl 9 0 y.2.ak.aM.length) (.sl 10 0 y.2.ak.a0.length) (.sl 11 0 y.2.a2.bV.cp.length)),.aj 1 (y.2.ak.av.cells.map aR),.aj 2 (y.2.ak.aP.map J.enc),.aj 2 (y.2.ak.aM.map J.enc),.aj 2 (y.2.ak.a0.map J.enc),.aj 2 (y.2.a2.bV.cp.map aU.enc)]⟩) (fun y=>y.1=AZ c id k∧y.2=x5 c id k) ?_ ?_
 ·simp only[go_sem,im]
  cases hB:decide (r.b0<4)with
  |false=>
   rw[hB,if_neg ξ]at a1 dF;simp only[go_sem];refine dm.intro (c,im s r) [0,1,2,3,4,5,6,7,8,9,10,11] ⟨dF.symm,a1.symm⟩ ?_;simp only[go_sem,im];simp
  |true=>
   rw[hB,if_pos rfl]at a1 dF;simp only[go_sem];refine ae.jD [6,7,8,9,10,12,13] (by simp only[hZ,List.elem_cons,List.elem_nil,Nat.reduceBEq,Nat.reduceAdd,c_,dK];rfl) (fY (n:=45) (rs:=[]) func254 rfl call254 b2 rfl rfl ?_);simp only[go_sem]
   try simp only[go_sem,I]
   repeat'((first|refine ae.intro (by first|assumption|apply WT) ?_|refine ay.intro ‹_› ?_)<;>simp only[go_sem])
   refine dm.intro (x7 c (im s r) r.bV.next,x6 (im s r) r.bV.next) [0,1,2,3,4,5,6,7,8,9,10,11] ⟨dF.symm,a1.symm⟩ ?_;simp only[go_sem,im,x7,x6,Kq,dp];simp
 rintro⟨x,t⟩ ⟨hx,ht⟩;simp only at hx ht;rw[←hx,←ht]at bq;rw[←hx]at He;rw[←ht]at qV;refine e2 b2 1 (α:=Unit) (fun _=>⟨(aA 6 (.d (.str [])::.d (.bool false)::.ptr 1 0 0::.ptr 3 0 0::.al::.al::.d (.str (w5 s.a2 k))::.ptr 2 0 0::aA 49 [])),[.box (aa.bT c),.box aa.cc,.box (b'.aG r (.al)),.box (aa.aG ((fL x t)) (.sl 4 0 ((fL x t)).ab.length) (.sl 5 0 ((fL x t)).an.length)),.aj 39 (((fL x t)).ab.map af.enc),.aj 2 (((fL x t)).an.map aT.enc)]⟩) (fun _=>True) ?_ ?_
 ·simp only[go_sem,I];refine ae.jD [6,7,8,9,12,13] (by simp only[hZ,List.elem_cons,List.elem_nil,Nat.reduceBEq,Nat.reduceAdd,c_,dK];rfl) (zp x t (.aj 2 (x.an.map aT.enc)) (fun _=>trivial) (by rw[He];exact lB) (by rw[He];exact lT) qV [.box (aa.bT c),.box aa.cc,.box (b'.aG r (.al))] _ (by simp[dB,cA,bk,vok]) (by simp[bk,vok]) _ ?_);simp only[fB,fC,gJ,go_sem];have p6:(fL x t).an=x.an:=(Br x t).2;refine dm.intro () [0,1,2,3,4,5] trivial ?_;simp only[go_sem];simp[p6]
 rintro _ _;refine lx b2 ?_
 try simp only[go_sem]
 repeat'(first|((first|refine bw ?_|refine f' ?_|refine bo WQ χ ψ ?_)<;>simp only[go_sem,I])|(with_reducible refine az ?_)|fail)
 simp[bq,cM,ai]
theorem I8{P:Program}{kv:List V}{c:Operand}{a b:Code}{σ:St}{K:St→Prop}{aX:List (Nat×(St→Prop))}{dh:St→Prop}(h:σ.ev c=.d (.bool false))(hg:iB P kv b σ K aX dh):iB P kv (.cond c a b) σ K aX dh:=by
 intro B w0 kp Q u w bJ cd dF bj r;obtain⟨a4,φ,r0,b5⟩:=r;have hc:=Aj r0 c;rw[h]at hc;exact wp_cond_false (oA hc) (hg B w0 kp Q u w bJ cd dF bj ⟨a4,φ,r0,b5⟩)
theorem acL{P:Program}{kv:List V}{c:Operand}{a b:Code}{σ:St}{K:St→Prop}{aX:List (Nat×(St→Prop))}{dh:St→Prop}(h:σ.ev c=.d (.bool true))(hg:iB P kv a σ K aX dh):iB P kv (.cond c a b) σ K aX dh:=by
 intro B w0 kp Q u w bJ cd dF bj r;obtain⟨a4,φ,r0,b5⟩:=r;have hc:=Aj r0 c;rw[h]at hc;exact wp_cond_true (oA hc) (hg B w0 kp Q u w bJ cd dF bj ⟨a4,φ,r0,b5⟩)
theorem acM{P:Program}{kv:List V}{a b:Code}{σ:St}{K K2:St→Prop}{aX:List (Nat×(St→Prop))}{dh:St→Prop}(h1:iB P kv a σ K2 aX dh)(h2:∀σ',K2 σ'→iB P kv b σ' K aX dh):iB P kv (.seq a b) σ K aX dh:=by
 intro B w0 kp Q u w bJ cd dF bj r;exact wp_seq (h1 B w0 kp _ u w bJ (fun σ' gz w' h' ei=>h2 σ' h' B w0 kp Q gz w' bJ cd dF bj ei) (fun id σ' gz w' h' ei=>dF id σ' gz w' h' ei) (fun σ' gz w' h' ei=>bj σ' gz w' h' ei) r)
def wz(c:aa)(s:af)(k:Int):af:={jN c s k with ak:=s.ak,a2:=s.a2}
theorem acN(c:aa)(s:af)(k:Int):jN c s k=wz c s k:=by
 obtain⟨h1,h2,_⟩:=FG c s k;unfold wz;rw[←h1,←h2]
def Nj:List (Nat×List Bool):=[(10,[false,false,false,false,false,false,false,false,false,false]),(9,[true,false,false,false,false,false,false,false,false,false]),(9,[false,false,true,false,false,false,false,false,false,false]),(9,[false,false,false,true,false,false,false,false,false,false]),(9,[false,false,false,false,true,false,false,false,false,false]),(8,[true,true,false,false,false,false,false,false,false,false]),(8,[true,false,true,false,false,false,false,false,false,false]),(8,[true,false,false,true,false,false,false,false,false,false]),(8,[true,false,false,false,true,false,false,false,false,false]),(8,[false,false,true,true,false,false,false,false,false,false]),(8,[false,false,true,false,true,false,false,false,false,false]),(8,[false,false,false,true,true,false,false,false,false,false]),(8,[false,false,false,false,true,true,false,false,false,false]),(7,[true,true,true,false,false,false,false,false,false,false]),(7,[true,true,false,true,false,false,false,false,false,false]),(7,[true,true,false,false,true,false,false,false,false,false]),(7,[true,false,true,true,false,false,false,false,false,false]),(7,[true,false,true,false,true,false,false,false,false,false]),(7,[true,false,false,true,true,false,false,false,false,false]),(7,[true,false,false,false,true,true,false,false,false,false]),(7,[false,false,true,true,true,false,false,false,false,false]),(7,[false,false,true,false,true,true,false,false,false,false]),(7,[false,false,false,true,true,true,false,false,false,false]),(6,[true,true,true,true,false,false,false,false,false,false]),(6,[true,true,true,false,true,false,false,false,false,false]),(6,[true,true,false,true,true,false,false,false,false,false]),(6,[true,true,false,false,true,true,false,false,false,false]),(6,[true,false,true,true,true,false,false,false,false,false]),(6,[true,false,true,false,true,true,false,false,false,false]),(6,[true,false,false,true,true,true,false,false,false,false]),(6,[false,false,true,true,true,true,false,false,false,false]),(5,[true,true,true,true,true,false,false,false,false,false]),(5,[true,true,true,false,true,true,false,false,false,false]),(5,[true,true,false,true,true,true,false,false,false,false]),(5,[true,false,true,true,true,true,false,false,false,false]),(5,[false,false,true,true,true,true,true,false,false,false]),(4,[true,true,true,true,true,true,false,false,false,false]),(4,[true,false,true,true,true,true,true,false,false,false]),(3,[true,true,true,true,true,true,true,false,false,false]),(2,[true,true,true,true,true,true,true,true,false,false]),(1,[true,true,true,true,true,true,true,true,true,false]),(0,[true,true,true,true,true,true,true,true,true,true])]
def BU(c:aa)(f:aq)(s e:af)(S:List Bool):St:=⟨(.al::.al::.ptr 0 0 0::.ptr 1 0 0::.ptr 2 0 0::.ptr 5 0 0::aA 6 (.ptr 11 0 0::aA 17 ((aw S 0 (.ptr 5 0 17))::(aw S 1 (.sl 3 0 c.ab.length))::(aw S 2 (.agg (aa.bT c)))::(aw S 3 (.agg (af.aG s (.sl 6 0 s.ak.av.cells.length) (.sl 7 0 s.ak.aP.length) (.sl 8 0 s.ak.aM.length) (.sl 9 0 s.ak.a0.length) (.sl 10 0 s.a2.bV.cp.length))))::(aw S 4 (.ptr 1 0 0))::(aw S 5 (.i f.bp))::(aw S 6 (.agg [.i e.id,.i s.ak.b0,.i s.ak.av.size,.i s.ak.av.base,.i s.ak.av.cu,.sl 6 0 s.ak.av.cells.length,.sl 7 0 s.ak.aP.length,.sl 8 0 s.ak.aM.length,.sl 9 0 s.ak.a0.length,.i s.ak.br,.i s.ak.aW,.i s.ak.cw,.i s.ak.c4,.i e.cV.aZ,.i e.cV.eg,.i e.cV.blocked,.i e.cV.gr,.i s.a2.b0,.i s.a2.bV.next,.sl 10 0 s.a2.bV.cp.length,.i s.a2.br,.i s.a2.gw,.i s.a2.c4,.i e.b1.size,.i e.b1.ck,.i e.b1.aZ,.i e.b1.seen,.i e.b1.gF,.i e.b1.kk,.i e.cL.ew,.d (.bool e.cL.hO),.d (.bool e.fF),.d (.bool e.gO),.d (.bool e.jG),.d (.bool e.hL),.d (.bool e.k_),.d (.bool e.j2),.i e.oB,.d (.bool e.nz)]))::(aw S 7 (.sl 12 0 (eC c.ab e).length))::(aw S 8 (.ptr 5 0 17))::aA 47 []))),[.box (aa.bT c),.box (aq.bT f),.box aa.cc,.aj 39 (c.ab.map af.enc),.aj 2 (c.an.map aT.enc),.box (aa.aG c ((bif S.getD 9 false then .sl 12 0 (eC c.ab e).length else .sl 3 0 c.ab.length)) (.sl 4 0 c.an.length)),.aj 1 (s.ak.av.cells.map aR),.aj 2 (s.ak.aP.map J.enc),.aj 2 (s.ak.aM.map J.enc),.aj 2 (s.ak.a0.map J.enc),.aj 2 (s.a2.bV.cp.map aU.enc),.box (af.aG s (.sl 6 0 s.ak.av.cells.length) (.sl 7 0 s.ak.aP.length) (.sl 8 0 s.ak.aM.length) (.sl 9 0 s.ak.a0.length) (.sl 10 0 s.a2.bV.cp.length))]++(bif S.getD 7 false then [.aj 39 ((eC c.ab e).map af.enc)]else [])⟩
theorem acO(c:aa)(f:aq)(s:af)(k:Int)(hs:f_ s)(kv:List V)(bJ:bk 12 kv)(K:V→List H→Prop)
  (hk:∀e,e=wz c s k→K (.agg [.i e.id,.i s.ak.b0,.i s.ak.av.size,.i s.ak.av.base,.i s.ak.av.cu,.sl 6 0 s.ak.av.cells.length,.sl 7 0 s.ak.aP.length,.sl 8 0 s.ak.aM.length,.sl 9 0 s.ak.a0.length,.i s.ak.br,.i s.ak.aW,.i s.ak.cw,.i s.ak.c4,.i e.cV.aZ,.i e.cV.eg,.i e.cV.blocked,.i e.cV.gr,.i s.a2.b0,.i s.a2.bV.next,.sl 10 0 s.a2.bV.cp.length,.i s.a2.br,.i s.a2.gw,.i s.a2.c4,.i e.b1.size,.i e.b1.ck,.i e.b1.aZ,.i e.b1.seen,.i e.b1.gF,.i e.b1.kk,.i e.cL.ew,.d (.bool e.cL.hO),.d (.bool e.fF),.d (.bool e.gO),.d (.bool e.jG),.d (.bool e.hL),.d (.bool e.k_),.d (.bool e.j2),.i e.oB,.d (.bool e.nz)]) [.box (aa.bT c),.box (aq.bT f),.box aa.cc,.aj 39 (c.ab.map af.enc),.aj 2 (c.an.map aT.enc),.box (aa.aG c (.sl 3 0 c.ab.length) (.sl 4 0 c.an.length)),.aj 1 (s.ak.av.cells.map aR),.aj 2 (s.ak.aP.map J.enc),.aj 2 (s.ak.aM.map J.enc),.aj 2 (s.ak.a0.map J.enc),.aj 2 (s.a2.bV.cp.map aU.enc),.box (af.aG s (.sl 6 0 s.ak.av.cells.length) (.sl 7 0 s.ak.aP.length) (.sl 8 0 s.ak.aM.length) (.sl 9 0 s.ak.a0.length) (.sl 10 0 s.a2.bV.cp.length))]) :
  d6 prog 104 kv [.box (aa.bT c),.box (aq.bT f),.box aa.cc,.aj 39 (c.ab.map af.enc),.aj 2 (c.an.map aT.enc),.box (aa.aG c (.sl 3 0 c.ab.length) (.sl 4 0 c.an.length)),.aj 1 (s.ak.av.cells.map aR),.aj 2 (s.ak.aP.map J.enc),.aj 2 (s.ak.aM.map J.enc),.aj 2 (s.ak.a0.map J.enc),.aj 2 (s.a2.bV.cp.map aU.enc),.box (af.aG s (.sl 6 0 s.ak.av.cells.length) (.sl 7 0 s.ak.aP.length) (.sl 8 0 s.ak.aM.length) (.sl 9 0 s.ak.a0.length) (.sl 10 0 s.a2.bV.cp.length))] [.agg (aa.bT c),.agg (af.aG s (.sl 6 0 s.ak.av.cells.length) (.sl 7 0 s.ak.aP.length) (.sl 8 0 s.ak.aM.length) (.sl 9 0 s.ak.a0.length) (.sl 10 0 s.a2.bV.cp.length)),.i k] K:=by
 have aW:∀(ex:List H) (e:af),e=wz c s k→oW kv K (.agg [.i e.id,.i s.ak.b0,.i s.ak.av.size,.i s.ak.av.base,.i s.ak.av.cu,.sl 6 0 s.ak.av.cells.length,.sl 7 0 s.ak.aP.length,.sl 8 0 s.ak.aM.length,.sl 9 0 s.ak.a0.length,.i s.ak.br,.i s.ak.aW,.i s.ak.cw,.i s.ak.c4,.i e.cV.aZ,.i e.cV.eg,.i e.cV.blocked,.i e.cV.gr,.i s.a2.b0,.i s.a2.bV.next,.sl 10 0 s.a2.bV.cp.length,.i s.a2.br,.i s.a2.gw,.i s.a2.c4,.i e.b1.size,.i e.b1.ck,.i e.b1.aZ,.i e.b1.seen,.i e.b1.gF,.i e.b1.kk,.i e.cL.ew,.d (.bool e.cL.hO),.d (.bool e.fF),.d (.bool e.gO),.d (.bool e.jG),.d (.bool e.hL),.d (.bool e.k_),.d (.bool e.j2),.i e.oB,.d (.bool e.nz)]) ([.box (aa.bT c),.box (aq.bT f),.box aa.cc,.aj 39 (c.ab.map af.enc),.aj 2 (c.an.map aT.enc),.box (aa.aG c (.sl 3 0 c.ab.length) (.sl 4 0 c.an.length)),.aj 1 (s.ak.av.cells.map aR),.aj 2 (s.ak.aP.map J.enc),.aj 2 (s.ak.aM.map J.enc),.aj 2 (s.ak.a0.map J.enc),.aj 2 (s.a2.bV.cp.map aU.enc),.box (af.aG s (.sl 6 0 s.ak.av.cells.length) (.sl 7 0 s.ak.aP.length) (.sl 8 0 s.ak.aM.length) (.sl 9 0 s.ak.a0.length) (.sl 10 0 s.a2.bV.cp.length))]++ex):=by
  intro ex e he;refine⟨List.range 12,.agg [.i e.id,.i s.ak.b0,.i s.ak.av.size,.i s.ak.av.base,.i s.ak.av.cu,.sl 6 0 s.ak.av.cells.length,.sl 7 0 s.ak.aP.length,.sl 8 0 s.ak.aM.length,.sl 9 0 s.ak.a0.length,.i s.ak.br,.i s.ak.aW,.i s.ak.cw,.i s.ak.c4,.i e.cV.aZ,.i e.cV.eg,.i e.cV.blocked,.i e.cV.gr,.i s.a2.b0,.i s.a2.bV.next,.sl 10 0 s.a2.bV.cp.length,.i s.a2.br,.i s.a2.gw,.i s.a2.c4,.i e.b1.size,.i e.b1.ck,.i e.b1.aZ,.i e.b1.seen,.i e.b1.gF,.i e.b1.kk,.i e.cL.ew,.d (.bool e.cL.hO),.d (.bool e.fF),.d (.bool e.gO),.d (.bool e.jG),.d (.bool e.hL),.d (.bool e.k_),.d (.bool e.j2),.i e.oB,.d (.bool e.nz)],[.box (aa.bT c),.box (aq.bT f),.box aa.cc,.aj 39 (c.ab.map af.enc),.aj 2 (c.an.map aT.enc),.box (aa.aG c (.sl 3 0 c.ab.length) (.sl 4 0 c.an.length)),.aj 1 (s.ak.av.cells.map aR),.aj 2 (s.ak.aP.map J.enc),.aj 2 (s.ak.aM.map J.enc),.aj 2 (s.ak.a0.map J.enc),.aj 2 (s.a2.bV.cp.map aU.enc),.box (af.aG s (.sl 6 0 s.ak.av.cells.length) (.sl 7 0 s.ak.aP.length) (.sl 8 0 s.ak.aM.length) (.sl 9 0 s.ak.a0.length) (.sl 10 0 s.a2.bV.cp.length))],?_,hk e he⟩;refine zS (hs:=[.box (aa.bT c),.box (aq.bT f),.box aa.cc,.aj 39 (c.ab.map af.enc),.aj 2 (c.an.map aT.enc),.box (aa.aG c (.sl 3 0 c.ab.length) (.sl 4 0 c.an.length)),.aj 1 (s.ak.av.cells.map aR),.aj 2 (s.ak.aP.map J.enc),.aj 2 (s.ak.aM.map J.enc),.aj 2 (s.ak.a0.map J.enc),.aj 2 (s.a2.bV.cp.map aU.enc),.box (af.aG s (.sl 6 0 s.ak.av.cells.length) (.sl 7 0 s.ak.aP.length) (.sl 8 0 s.ak.aM.length) (.sl 9 0 s.ak.a0.length) (.sl 10 0 s.a2.bV.cp.length))]) (ex:=ex) ?_ bJ ?_ ?_
  ·simp[dB,cA,bk,vok]
  ·simp[vsees,vsee,ren,rens]
  ·simp[bk,vok]
 obtain⟨dW,ek,dt,eF⟩:=hs;refine d6.n2 ?_;refine(fY (n:=35) (rs:=[.cell 6 66]) func104 rfl call104 b2 rfl rfl ?_);simp only[go_sem]
 try simp only[go_sem,I]
 repeat'((first|refine ae.intro (by first|apply TJ|apply TL) ?_|refine bP (fun h=>?_) (fun h=>?_))<;>simp only[go_sem,I])
 all_goals simp only[b8,eG]at *
 ·exact aW _ {s with jG:=false} (by simp[wz,jN, *])
 ·exact aW _ {s with hL:=false} (by simp[wz,jN, *])
 ·exact aW _ {s with b1:=(lE c s).1,k_:=false} (by simp[wz,jN, *])
 ·exact aW _ {s with k_:=false} (by simp[wz,jN, *])
 ·exact aW _ {s with cV:=kl s.cV} (by simp[wz,jN, *])
 ·exact aW _ s (by simp[wz,jN, *])
theorem acP(c:aa)(f:aq)(hz:jC c)(aS:gq c=true)(lH:decide (f.bp=16)=false)(jv:decide (f.bp=18)=false)(o5:decide (f.bp=20)=false)(wA:decide (f.bp=22)=false)(hf:(cf c.ab f.aC).2=true):aL 44 [.agg (aa.enc c),.agg (aq.enc f)] [.agg (aa.enc ((lI c (jN c (aO c f.aC) f.bp))))]:=by
 refine om 86 func44 call44 [.cell 4 37] ?_;intro ok;clear ok;have lv:=k5 hz;have z0:f_ (aO c f.aC):=pA hz.2.1 f.aC;obtain⟨fw,fH,h4⟩:=FG c (aO c f.aC) f.bp;have xA:f_ (jN c (aO c f.aC) f.bp):=by unfold f_;rw[fw,fH];exact z0
 have c3:=oY c f.aC hz;rw[show(cf c.ab f.aC).1=aO c f.aC from rfl,hf]at c3;have gB:=nu c.ab (jN c (aO c f.aC) f.bp) (by have:=hz.1;omega) hz.2.1 xA;rw[acN]at gB⊢;generalize aO c f.aC=s at *;clear xA fw fH h4;obtain⟨e,he⟩:∃e,e=wz c s f.bp:=⟨_,rfl⟩;have ag:e.ak=s.ak:=by rw[he];rfl
 have ar:e.a2=s.a2:=by rw[he];rfl
 rw[←he]at gB⊢;simp only[af.enc,ag,ar]at gB;refine e2 b2 3 (α:=Unit) (fun _=>⟨(.al::.al::.ptr 0 0 0::.ptr 1 0 0::.ptr 2 0 0::.ptr 5 0 0::aA 80 []),[.box (aa.bT c),.box (aq.bT f),.box aa.cc,.aj 39 (c.ab.map af.enc),.aj 2 (c.an.map aT.enc),.box (aa.aG c (.sl 3 0 c.ab.length) (.sl 4 0 c.an.length))]⟩) (fun _=>True) ?_ ?_
 ·skip
  try simp only[go_sem]
  repeat'((first|refine ae.aj (by first|assumption|(apply iw<;>exact a6)|(apply xq<;>exact a6)) ?_|refine ay.aj ‹_› ?_)<;>simp only[go_sem,I,aS,bN])
  refine dm.intro () [0,1,2,3,4,5] trivial ?_;simp only[go_sem];simp
 rintro _ _;simp only[Ak,Al];refine acM (K2:=fun σ=>σ=BU c f s e (List.replicate 10 true)) ?_ ?_
 ·skip
  refine e2 b2 1 (α:=Unit) (fun _=>⟨(.al::.al::.ptr 0 0 0::.ptr 1 0 0::.ptr 2 0 0::.ptr 5 0 0::aA 15 (.i f.bp::aA 64 [])),[.box (aa.bT c),.box (aq.bT f),.box aa.cc,.aj 39 (c.ab.map af.enc),.aj 2 (c.an.map aT.enc),.box (aa.aG c (.sl 3 0 c.ab.length) (.sl 4 0 c.an.length))]⟩) (fun _=>True) ?_ ?_
  ·skip
   try simp only[go_sem]
   refine dm.intro () [0,1,2,3,4,5] trivial ?_;simp only[go_sem];simp
  rintro _ _;simp only[Ak,Al];refine acQ ?_;refine e2 b2 1 (α:=Unit) (fun _=>⟨(.al::.al::.ptr 0 0 0::.ptr 1 0 0::.ptr 2 0 0::.ptr 5 0 0::aA 15 (.i f.bp::aA 17 (.d (.bool false)::aA 46 []))),[.box (aa.bT c),.box (aq.bT f),.box aa.cc,.aj 39 (c.ab.map af.enc),.aj 2 (c.an.map aT.enc),.box (aa.aG c (.sl 3 0 c.ab.length) (.sl 4 0 c.an.length))]⟩) (fun _=>True) ?_ ?_
  ·skip
   try simp only[go_sem,lH]
   refine dm.intro () [0,1,2,3,4,5] trivial ?_;simp only[go_sem];simp
  rintro _ _;simp only[Ak,Al];refine I8 rfl ?_;refine e2 b2 1 (α:=Unit) (fun _=>⟨(.al::.al::.ptr 0 0 0::.ptr 1 0 0::.ptr 2 0 0::.ptr 5 0 0::aA 15 (.i f.bp::aA 27 (.d (.bool false)::aA 36 []))),[.box (aa.bT c),.box (aq.bT f),.box aa.cc,.aj 39 (c.ab.map af.enc),.aj 2 (c.an.map aT.enc),.box (aa.aG c (.sl 3 0 c.ab.length) (.sl 4 0 c.an.length))]⟩) (fun _=>True) ?_ ?_
  ·skip
   try simp only[go_sem,jv]
   refine dm.intro () [0,1,2,3,4,5] trivial ?_;simp only[go_sem];simp
  rintro _ _;simp only[Ak,Al];refine I8 rfl ?_;refine e2 b2 1 (α:=Unit) (fun _=>⟨(.al::.al::.ptr 0 0 0::.ptr 1 0 0::.ptr 2 0 0::.ptr 5 0 0::aA 15 (.i f.bp::aA 49 (.d (.bool false)::aA 14 []))),[.box (aa.bT c),.box (aq.bT f),.box aa.cc,.aj 39 (c.ab.map af.enc),.aj 2 (c.an.map aT.enc),.box (aa.aG c (.sl 3 0 c.ab.length) (.sl 4 0 c.an.length))]⟩) (fun _=>True) ?_ ?_
  ·skip
   try simp only[go_sem,o5]
   refine dm.intro () [0,1,2,3,4,5] trivial ?_;simp only[go_sem];simp
  rintro _ _;simp only[Ak,Al];refine I8 rfl ?_;refine e2 b2 1 (α:=Unit) (fun _=>⟨(.al::.al::.ptr 0 0 0::.ptr 1 0 0::.ptr 2 0 0::.ptr 5 0 0::aA 15 (.i f.bp::aA 55 (.d (.bool false)::aA 8 []))),[.box (aa.bT c),.box (aq.bT f),.box aa.cc,.aj 39 (c.ab.map af.enc),.aj 2 (c.an.map aT.enc),.box (aa.aG c (.sl 3 0 c.ab.length) (.sl 4 0 c.an.length))]⟩) (fun _=>True) ?_ ?_
  ·skip
   try simp only[go_sem,wA]
   refine dm.intro () [0,1,2,3,4,5] trivial ?_;simp only[go_sem];simp
  rintro _ _;simp only[Ak,Al];refine I8 rfl ?_;refine e2 b2 2 (α:=Unit) (fun _=>⟨(.al::.al::.ptr 0 0 0::.ptr 1 0 0::.ptr 2 0 0::.ptr 5 0 0::aA 6 (.ptr 11 0 0::aA 16 (.d (.bool true)::aA 56 []))),[.box (aa.bT c),.box (aq.bT f),.box aa.cc,.aj 39 (c.ab.map af.enc),.aj 2 (c.an.map aT.enc),.box (aa.aG c (.sl 3 0 c.ab.length) (.sl 4 0 c.an.length)),.aj 1 (s.ak.av.cells.map aR),.aj 2 (s.ak.aP.map J.enc),.aj 2 (s.ak.aM.map J.enc),.aj 2 (s.ak.a0.map J.enc),.aj 2 (s.a2.bV.cp.map aU.enc),.box (af.aG s (.sl 6 0 s.ak.av.cells.length) (.sl 7 0 s.ak.aP.length) (.sl 8 0 s.ak.aM.length) (.sl 9 0 s.ak.a0.length) (.sl 10 0 s.a2.bV.cp.length))]⟩) (fun _=>True) ?_ ?_
  ·skip
   try simp only[go_sem]
   repeat'((first|refine ae.aj ‹_› ?_|refine ay.aj ‹_› ?_)<;>simp only[go_sem,I])
   refine dm.intro () [0,1,2,3,4,5,6,7,8,9,10,11] trivial ?_;simp only[go_sem];simp
  rintro _ _;simp only[Ak,Al];refine acL rfl ?_;refine TM (σ':=BU c f s e (List.replicate 10 false)) (ρ:=[0,1,2,3,4,5,6,7,8,9,10,11]) (by simp only[BU,List.replicate,aw,e3,e0,dK,gm];simp only[go_sem];simp) ?_;refine lx b2 ?_;simp only[go_sem];refine gC (fun σ'=>σ'=BU c f s e (List.replicate 10 true)) ?_ (fun σ' h=>h);refine MX (fun n S σ=>(n,S)∈Nj∧σ=BU c f s e S) ?_ ?_ _ _ _ ⟨by first|exact List.Mem.head _|decide +kernel,rfl⟩
  ·rintro S σ ⟨a1,rfl⟩;simp only[Nj,List.mem_cons,dL,List.not_mem_nil,or_false]at a1;rcases a1 with ⟨hn,rfl⟩|⟨hn,rfl⟩|⟨hn,rfl⟩|⟨hn,rfl⟩|⟨hn,rfl⟩|⟨hn,rfl⟩|⟨hn,rfl⟩|⟨hn,rfl⟩|⟨hn,rfl⟩|⟨hn,rfl⟩|⟨hn,rfl⟩|⟨hn,rfl⟩|⟨hn,rfl⟩|⟨hn,rfl⟩|⟨hn,rfl⟩|⟨hn,rfl⟩|⟨hn,rfl⟩|⟨hn,rfl⟩|⟨hn,rfl⟩|⟨hn,rfl⟩|⟨hn,rfl⟩|⟨hn,rfl⟩|⟨hn,rfl⟩|⟨hn,rfl⟩|⟨hn,rfl⟩|⟨hn,rfl⟩|⟨hn,rfl⟩|⟨hn,rfl⟩|⟨hn,rfl⟩|⟨hn,rfl⟩|⟨hn,rfl⟩|⟨hn,rfl⟩|⟨hn,rfl⟩|⟨hn,rfl⟩|⟨hn,rfl⟩|⟨hn,rfl⟩|⟨hn,rfl⟩|⟨hn,rfl⟩|⟨hn,rfl⟩|⟨hn,rfl⟩|⟨hn,rfl⟩|⟨hn,rfl⟩
   all_goals(first|exact absurd hn ζ|skip)
   exact⟨rfl,rfl⟩
  ·rintro n S σ F ⟨a1,rfl⟩ bB;simp only[Nj,List.mem_cons,dL,List.not_mem_nil,or_false]at a1;rcases a1 with ⟨hn,rfl⟩|⟨hn,rfl⟩|⟨hn,rfl⟩|⟨hn,rfl⟩|⟨hn,rfl⟩|⟨hn,rfl⟩|⟨hn,rfl⟩|⟨hn,rfl⟩|⟨hn,rfl⟩|⟨hn,rfl⟩|⟨hn,rfl⟩|⟨hn,rfl⟩|⟨hn,rfl⟩|⟨hn,rfl⟩|⟨hn,rfl⟩|⟨hn,rfl⟩|⟨hn,rfl⟩|⟨hn,rfl⟩|⟨hn,rfl⟩|⟨hn,rfl⟩|⟨hn,rfl⟩|⟨hn,rfl⟩|⟨hn,rfl⟩|⟨hn,rfl⟩|⟨hn,rfl⟩|⟨hn,rfl⟩|⟨hn,rfl⟩|⟨hn,rfl⟩|⟨hn,rfl⟩|⟨hn,rfl⟩|⟨hn,rfl⟩|⟨hn,rfl⟩|⟨hn,rfl⟩|⟨hn,rfl⟩|⟨hn,rfl⟩|⟨hn,rfl⟩|⟨hn,rfl⟩|⟨hn,rfl⟩|⟨hn,rfl⟩|⟨hn,rfl⟩|⟨hn,rfl⟩|⟨hn,rfl⟩
   rotate_right 1
   ·exact absurd hn ω
   all_goals(
    simp only[Nat.reduceEqDiff]at hn
    try subst hn
    simp only[BU,aw,e3,e0,c_,dK,bz,bx,gm];refine S4 rfl ?_
    repeat'(first
     |exact vp
     |(refine vq ?_ ?_)
     |exact bB _ _ ⟨by first|exact List.Mem.head _|decide +kernel,rfl⟩
     |(refine ae.aj gB ?_)
     |(refine ae.inl (acO c f s f.bp z0 _ (by simp[bk,vok]) _ (fun e' BJ=>?_));obtain rfl:e'=e:=BJ.trans he.symm)
     |simp only[go_sem,I]))
   all_goals trace_state
 ·rintro _ rfl;refine lx b2 ?_;simp only[BU,List.replicate,aw,e3,e0,c_,bz,bx];simp only[go_sem];simp[lI,outOA]
def TN:List (List bR):=cS 7 [2066,2176,2182,2161,2107,1944,1458]
def TO:List (List bR):=cS 8 [6443,6441,6232,6214,5548,6435,5913,4374]
attribute [go_sem] TN TO
theorem acR(c:aa)(f:aq)(hz:jC c)(hn:¬(gq c=true∧decide (f.bp=16)=false∧decide (f.bp=18)=false∧decide (f.bp=20)=false∧decide (f.bp=22)=false∧(cf c.ab f.aC).2=true)):aL 44 [.agg (aa.enc c),.agg (aq.enc f)] [.agg (aa.enc ((iV c f)))]:=by
 refine a3 86 func44 call44 [.cell 4 37] ?_;intro ok;clear ok;have lv:=k5 hz;have c3:=oY c f.aC hz
 try simp only[go_sem]
 repeat'((first|refine ae.aj (by first|assumption|(apply iw<;>exact a6)|(apply xq<;>exact a6)) ?_|refine ay.aj ‹_› ?_)<;>simp only[go_sem,I])
 cases aS:gq c with
 |false=>
  simp only[go_sem,I,cR];simp[iV,aS]
 |true=>
  simp only[go_sem,bN]
  cases lH:decide (f.bp=16)with
  |true=>
   have Nk:=cQ lH
   try simp only[go_sem]
   repeat'(first|((first|refine ae.aj (by first|assumption|apply TG) ?_|refine ay.aj ‹_› ?_)<;>simp only[go_sem,I])|(with_reducible refine az ?_)|fail)
   simp[iV,aS,Nk]
  |false=>
   have Nk:=c2 lH;simp only[go_sem]
   cases jv:decide (f.bp=18)with
   |true=>
    have I9:=cQ jv;simp only[go_sem]
    cases hu:f.ft with
    |true=>
     try simp only[go_sem]
     repeat'(first|((first|refine ae.aj (by first|assumption|apply I7) ?_|refine ay.aj ‹_› ?_)<;>simp only[go_sem,I])|(with_reducible refine az ?_)|fail)
     simp[iV,aS,I9,hu]
    |false=>
     try simp only[go_sem]
     repeat'(first|((first|refine ae.aj (by first|assumption|apply I7) ?_|refine ay.aj ‹_› ?_)<;>simp only[go_sem,I])|(with_reducible refine az ?_)|fail)
     simp[iV,aS,I9,hu]
   |false=>
    have I9:=c2 jv;simp only[go_sem]
    cases o5:decide (f.bp=20)with
    |true=>
     have Nl:=cQ o5
     try simp only[go_sem]
     repeat'(first|((first|refine ae.aj (by first|assumption|apply TL) ?_|refine ay.aj ‹_› ?_)<;>simp only[go_sem,I])|(with_reducible refine az ?_)|fail)
     simp[iV,aS,Nl]
    |false=>
     have Nl:=c2 o5;simp only[go_sem]
     cases wA:decide (f.bp=22)with
     |true=>
      have I_:=cQ wA;simp only[go_sem]
      cases hu:f.ft with
      |true=>
       try simp only[go_sem,I]
       repeat'(first|(with_reducible refine az ?_)|fail)
       simp[iV,aS,I_,hu]
      |false=>
       try simp only[go_sem,I]
       repeat'(first|(with_reducible refine az ?_)|fail)
       simp[iV,aS,I_,hu]
     |false=>
      have I_:=c2 wA;have hf:(cf c.ab f.aC).2=false:=by
       cases hf:(cf c.ab f.aC).2 with
       |false=>rfl
       |true=>exact absurd ⟨aS,lH,jv,o5,wA,hf⟩ hn
      have ai:iV c f=c:=by unfold iV;rw[aS,if_neg Nk,if_neg I9,if_neg Nl,if_neg I_,hf];rfl
      rw[hf]at c3;simp only[go_sem]
      try simp only[go_sem,I]
      repeat'(first|((first|refine ae.aj ‹_› ?_|refine ay.aj ‹_› ?_)<;>simp only[go_sem,I])|(with_reducible refine az ?_)|fail)
      simp[ai]
theorem acS(c:aa)(f:aq)(hz:jC c):aL 44 [.agg (aa.enc c),.agg (aq.enc f)] [.agg (aa.enc ((iV c f)))]:=by
 by_cases hn:gq c=true∧decide (f.bp=16)=false∧decide (f.bp=18)=false∧decide (f.bp=20)=false∧decide (f.bp=22)=false∧(cf c.ab f.aC).2=true
 ·obtain⟨aS,lH,jv,o5,wA,hf⟩:=hn;have ai:iV c f=lI c (jN c (aO c f.aC) f.bp):=by
   unfold iV;rw[aS,if_neg (c2 lH),if_neg (c2 jv),if_neg (c2 o5),if_neg (c2 wA),hf];rfl
  rw[ai];exact acP c f hz aS lH jv o5 wA hf
 ·exact acR c f hz hn
theorem TP(c:aa)(b:Int):(bif bif !iv c then true else !ca b 1 400 then true else decide (1000000≤c.bO))=!pI c b:=by
 unfold pI
 cases iv c<;>cases ca b 1 400<;>cases decide (1000000≤c.bO)<;>rfl
theorem Nm(c:aa)(b:Int)(m:Nat)(hv:cI m c)(hm:m≤20):aL 7 [.agg (aa.enc c),.one (.int .i64 b)] [.one (.str (me c b)),.one (.int .i64 (nH c b)),.agg (aa.enc ((gy c b)))]:=by
 refine om 90 func7 call7 [.tmp 4,.tmp 5,.cell 6 37] ?_;intro ok;clear ok;have hz:=hv.sz hm;have lv:=k5 hz;have b7:=TP c b;obtain⟨hcl,px⟩:=Nn hv;refine e2 b2 6 (α:=Unit) (fun _=>⟨(.al::.i b::.ptr 0 0 0::aA 3 (.ptr 1 0 0::.ptr 2 0 0::.sl 5 0 0::.i b::.sl 6 0 (fq c).length::aA 79 [])),[.box (aa.bT c),.box aa.cc,.box (aa.aG c (.sl 3 0 c.ab.length) (.sl 4 0 c.an.length)),.aj 39 (c.ab.map af.enc),.aj 2 (c.an.map aT.enc),.ah 9 [] true,.ah 9 ((fq c).map aq.enc) true]⟩) (fun _=>pI c b=true) ?_ ?_
 ·skip
  try simp only[go_sem]
  repeat'((first|refine ae.aj (by first|(apply iw<;>exact a6)|(apply xf<;>exact a6)) ?_|refine ay.aj (by apply j1) ?_|refine bw ?_)<;>simp only[go_sem,I])
  rw[b7]
  cases hg:pI c b with
  |false=>
   try simp only[go_sem,cR]
   repeat'(first|(refine bo [[.post,.dN,.dN,.post],[.dN,.post,.post,.post],[.dN,.pre,.post,.post],[.pre,.pre,.pre,.post]] χ ψ ?_<;>simp only[go_sem,I])|(with_reducible refine az ?_)|fail)
   simp[gy,me,nH,oC,hg]
  |true=>
   try simp only[go_sem,bN]
   repeat'(refine ae.intro (by(apply acK<;>exact a6)) ?_<;>simp only[go_sem,I])
   refine dm.intro () [0,1,4,2,3,5,6] (by first|exact hg|trivial) ?_;simp only[go_sem];simp
 rintro _ hg;have hA:ch c b=(fq c).foldl jw ⟨c,[],b⟩:=rfl;refine e2 b2 1 (α:=Unit) (fun _=>⟨(.al::.i b::.ptr 0 0 0::aA 3 (.ptr 1 0 0::.ptr 2 0 0::.sl 5 0 (ch c b).bY.length::.d (.int .i64 (ch c b).room)::aA 80 [])),[.box (aa.bT c),.box aa.cc,.box [.d (.bool (ch c b).x.eO),.d (.int .i64 (ch c b).x.own.av),.d (.int .i64 (ch c b).x.own.b1),.d (.int .i64 (ch c b).x.own.lW),.d (.int .i64 (ch c b).x.own.cm),.d (.int .i64 (ch c b).x.own.lX),.d (.int .i64 (ch c b).x.own.k8),.d (.int .i64 (ch c b).x.own.ft),.d (.int .i64 (ch c b).x.own.eP),.d (.int .i64 (ch c b).x.da.av),.d (.int .i64 (ch c b).x.da.b1),.d (.int .i64 (ch c b).x.da.lW),.d (.int .i64 (ch c b).x.da.cm),.d (.int .i64 (ch c b).x.da.lX),.d (.int .i64 (ch c b).x.da.k8),.d (.int .i64 (ch c b).x.da.ft),.d (.int .i64 (ch c b).x.da.eP),.sl 3 0 (ch c b).x.ab.length,.d (.int .i64 (ch c b).x.cm.aZ),.d (.int .i64 (ch c b).x.cm.eg),.d (.int .i64 (ch c b).x.cm.blocked),.d (.int .i64 (ch c b).x.cm.gr),.d (.int .i64 (ch c b).x.dq.size),.d (.int .i64 (ch c b).x.dq.ck),.d (.int .i64 (ch c b).x.dq.aZ),.d (.int .i64 (ch c b).x.dq.seen),.d (.int .i64 (ch c b).x.dq.gF),.d (.int .i64 (ch c b).x.dq.kk),.d (.int .i64 (ch c b).x.fe.aZ),.d (.int .i64 (ch c b).x.fe.jO),.d (.int .i64 (ch c b).x.fe.blocked),.d (.int .i64 (ch c b).x.fc.aZ),.d (.int .i64 (ch c b).x.fc.jO),.d (.int .i64 (ch c b).x.fc.blocked),.d (.int .i64 (ch c b).x.eo.ck),.d (.int .i64 (ch c b).x.eo.aZ),.d (.int .i64 (ch c b).x.eo.seen),.d (.int .i64 (ch c b).x.eo.d9),.d (.int .i64 (ch c b).x.en.ck),.d (.int .i64 (ch c b).x.en.aZ),.d (.int .i64 (ch c b).x.en.seen),.d (.int .i64 (ch c b).x.en.d9),.d (.bool (ch c b).x.pF),.d (.bool (ch c b).x.lF),.d (.bool (ch c b).x.lG),.d (.int .i64 (ch c b).x.dE),.d (.int .i64 (ch c b).x.bO),.sl 4 0 (ch c b).x.an.length,.d (.int .i64 (ch c b).x.ef),.d (.int .i64 (ch c b).x.d9)],.aj 39 ((ch c b).x.ab.map af.enc),.aj 2 ((ch c b).x.an.map aT.enc),.ah 9 ((ch c b).bY.map aq.enc) true]⟩) (fun _=>True) ?_ ?_
 ·simp only[go_sem];refine cr.intro (α:=Nat×xB) (fun y=>⟨(.al::.i b::.ptr 0 0 0::aA 3 (.ptr 1 0 0::.ptr 2 0 0::.sl 5 0 y.2.bY.length::.i y.2.room::.sl 6 0 (fq c).length::.i y.1::aA 78 [])),[.box (aa.bT c),.box aa.cc,.box (aa.aG y.2.x (.sl 3 0 y.2.x.ab.length) (.sl 4 0 y.2.x.an.length)),.aj 39 (y.2.x.ab.map af.enc),.aj 2 (y.2.x.an.map aT.enc),.ah 9 (y.2.bY.map aq.enc) true,.ah 9 ((fq c).map aq.enc) true]⟩)
   (fun y=>(fq c).length-y.1) (fun y=>y.1≤(fq c).length∧y.2=((fq c).take y.1).foldl jw ⟨c,[],b⟩∧n9 m y.1 y.2.x y.2.bY) (0,⟨c,[],b⟩) [0,1,2,3,4,5,6] ⟨by simp,by simp,hv,by simp,by simp⟩ ?_ ?_
  ·simp only[go_sem];simp
  ·rintro⟨i,q⟩ ⟨hi,hq,aS⟩;simp only at hi hq aS;by_cases h1:i<(fq c).length
   ·have ax:=bC (p:=(i:Int)<((fq c).length:Int)) ω;have aB:=cq aq.enc (fq c) i h1;have hw:i64.wrap ((i:Int)+1)=((i+1:Nat):Int):=by rw[bA]<;>omega
    have hs:((fq c).take (i+1)).foldl jw ⟨c,[],b⟩=jw q (fq c)[i]:=by
     rw[gV,cD h1,List.foldl_append,←hq];rfl
    have FH:pJ (fq c)[i]:=px _ (eS h1);have yZ:=No aS FH;generalize (fq c)[i]=f at *;have e6:f.data.length≤60:=FH;have alE:=acS q.x f (aS.c.sz hm);have FI:=Np f.bp f.aC f.aH f.data f.aW f.c4 f.aZ f.br f.ft ω;change PureCall _ _ _ [.one (.int .i64 ((dy f).length:Int))]at FI;have y0:jw q f=if((dy f).length:Int)≤q.room then⟨iV q.x f,q.bY++[f],i64.wrap (q.room-((dy f).length:Int))⟩else q:=rfl
    have acT:=aS.n
    try simp only[go_sem,I,aE,aB,aq.enc,ax]
    repeat'(first|((first|refine ae.intro ‹_› ?_|refine ay.intro ‹_› ?_)<;>simp only[go_sem])|(with_reducible refine az ?_)|fail)
    cases pK:decide (((dy f).length:Int)≤q.room)with
    |true=>
     rw[if_pos (cQ pK)]at y0;rw[y0]at hs yZ
     try simp only[go_sem,I,aE,aB,aq.enc]
     repeat'(first|((first|refine ae.intro ‹_› ?_|refine ay.intro ‹_› ?_)<;>simp only[go_sem])|(with_reducible refine az ?_)|fail)
     try simp only[go_sem,I,aE,aB,aq.enc]
     repeat'(first|((first|refine ae.aj ‹_› ?_|refine ay.aj ‹_› ?_|refine bo TN χ ψ ?_)<;>simp only[go_sem,I,aE,aB,aq.enc])|(with_reducible refine az ?_)|fail)
     refine bE.intro (i+1,⟨iV q.x f,q.bY++[f],i64.wrap (q.room-((dy f).length:Int))⟩) [0,1,2,7,8,10,6] ⟨by simp only;omega,hs.symm,yZ⟩ (by simp only;omega) ?_;simp only[go_sem,hw];simp[aq.enc]
    |false=>
     rw[if_neg (c2 pK)]at y0;rw[y0]at hs yZ;simp only[go_sem];refine bE.intro (i+1,q) [0,1,2,3,4,5,6] ⟨by simp only;omega,hs.symm,yZ⟩ (by simp only;omega) ?_;simp only[go_sem,hw];simp
   ·have ax:=bm (p:=(i:Int)<((fq c).length:Int)) ω;obtain rfl:i=(fq c).length:=by omega
    rw[d3,←hA]at hq;subst hq;simp only[go_sem,ax];refine dm.intro () [0,1,2,3,4,5] trivial ?_;simp only[go_sem];simp
 rintro _ _;have BV:=Nq hv b;have BW:=Nr hv ω b;have hB:iW 200 ⟨(ch c b).x,[],(ch c b).bY,(ch c b).room⟩=c5 c b:=rfl;have bq:gy c b=if(c5 c b).bY=[]then(c5 c b).x else {(c5 c b).x with an:=(c5 c b).x.an++[⟨c.bO,(c5 c b).bY⟩],bO:=i64.wrap (c.bO+1)}:=by unfold gy;rw[hg];rfl
 have q3:oC c b=!decide ((c5 c b).bY=[]):=by unfold oC;rw[hg];rfl
 have cM:me c b=if oC c b then vv (c5 c b).bY else []:=rfl
 generalize ch c b=BX at *;generalize c5 c b=n_ at *;refine e2 b2 1 (α:=Unit) (fun _=>⟨(.al::.al::.ptr 0 0 0::aA 3 (.ptr 1 0 0::.ptr 2 0 0::.sl 5 0 n_.bY.length::aA 81 [])),[.box (aa.bT c),.box aa.cc,.box (aa.aG n_.x (.sl 3 0 n_.x.ab.length) (.sl 4 0 n_.x.an.length)),.aj 39 (n_.x.ab.map af.enc),.aj 2 (n_.x.an.map aT.enc),.ah 9 (n_.bY.map aq.enc) true]⟩) (fun _=>True) ?_ ?_
 ·simp only[go_sem,I];refine ae.jD [2,6,7] (by simp only[hZ,List.elem_cons,List.elem_nil,Nat.reduceBEq,Nat.reduceAdd,c_,dK];rfl) (acU c BX.x BX.bY BX.room m BV.c hm BV.n BV.d _ (by simp[bk,vok]) _ ?_);rw[hB];simp only[wB,gJ,fC,I',go_sem];refine dm.intro () [0,1,2,3,4,5] trivial ?_;simp only[go_sem];simp
 rintro _ _;refine Il 4 rfl ?_;refine lx b2 ?_;simp only[go_sem];have fD:n_.x.an.length≤20:=Nat.le_trans BW.c.vw hm
 cases o6:decide (n_.bY=[])with
 |true=>
  have wC:=cQ o6;have hd:=bC (p:=(n_.bY.length:Int)=0) (by rw[wC];rfl);rw[o6]at q3;rw[if_pos wC]at bq;rw[q3]at cM
  try simp only[go_sem,hd]
  repeat'(first|(refine bo [[.post,.dN,.dN,.post],[.dN,.post,.post,.post],[.dN,.pre,.post,.post],[.pre,.pre,.pre,.post]] χ ψ ?_<;>simp only[go_sem,I])|(with_reducible refine az ?_)|fail)
  simp[bq,cM,nH,q3]
 |false=>
  have wC:=c2 o6;have hd:=bm (p:=(n_.bY.length:Int)=0) (fun h=>wC (List.length_eq_zero_iff.1 ω));rw[o6]at q3;rw[if_neg wC]at bq;have alF:=acV n_.bY (by have:=BW.n;omega) (fun f hf=>by have:=BW.d f hf;unfold pJ at this;omega)
  try simp only[go_sem,I,hd]
  repeat'(first|((first|refine ae.intro ‹_› ?_|refine ay.intro ‹_› ?_|refine bo TO χ ψ ?_)<;>simp only[go_sem,I])|(with_reducible refine az ?_)|fail)
  rw[q3]at cM;simp[bq,cM,nH,q3,aT.enc,e7]
inductive qh(c:aa):aa→Prop
 |same:qh c c
 |I1 (u:Bool):qh c (nw c u)
 |To (id:Int) (d:List UInt8) (h:d.length≤8):qh c (nA c id d)
 |aW (id:Int):qh c (E7 c id)
 |gF (id k:Int):qh c (nG c id k)
 |Tp (id k:Int):qh c (nx c id k)
 |Tq (id:Int) (t:List UInt8):qh c (nv c id t)
 |em (b:Int):qh c (gy c b)
 |hf (f:aq) (h:f.data.length≤8) (aJ:0≤f.aH∧f.aH≤900):qh c (Ad c f)
 |Tr (n:Int):qh c (EW c n)
 |Ts (n:Int):qh c (ER c n)
theorem acf{m:Nat}{x y:aa}(h:cI m x)(hm:m≤1000)(hs:qh x y):cI (m+1) y:=by
 cases hs with
 |same=>exact h.mono ω
 |I1 u=>exact acg (h.mono ω) u
 |To id d hd=>exact ach h id hd
 |aW id=>exact(aci h id).mono ω
 |gF id k=>exact(acj h id k).mono ω
 |Tp id k=>exact(ack h id k).mono ω
 |Tq id t=>exact(acm h id t).mono ω
 |em b=>exact Tt h hm b
 |hf f hd aJ=>exact acn h hd aJ
 |Tr n=>exact(aco h n).mono ω
 |Ts n=>exact(acp h n).mono ω
inductive vf:Nat→aa→Prop
 |new (v:Bool) (o p:ff):vf 0 (BF v o p)
 |step {k:Nat} {x y:aa}:vf k x→qh x y→vf (k+1) y
theorem vf.mono{k j:Nat}{x:aa}(h:vf k x)(hk:k≤j):vf j x:=by
 obtain⟨d,rfl⟩:=Nat.le.dest hk;clear hk
 induction d with
 |zero=>exact h
 |succ d df=>exact df.step .same
theorem vf.qa{k:Nat}{x:aa}(h:vf k x)(hk:k≤1000):cI k x:=by
 induction h with
 |new v o p=>exact acq v o p
 |step _ hs df=>exact acf (df ω) ω hs
def zP(y:aa):Prop:=∃x a b c d,vf 14 x∧y={x with d9:=a,ef:=b,cm:={x.cm with eg:=c},bO:=d}
theorem zP.qa{y:aa}(h:zP y):cI 14 y:=by
 obtain⟨x,a,b,c,d,h,rfl⟩:=h;exact(h.qa ω).same rfl rfl
theorem Sp(bs:List Int)(hm:bs.length≤maxLen)(i:Nat)(h:Int)(pre bG:List H)(kv:List V)(n:Nat)(hn:pre.length+(bG.length+1)=n)(hr:dB n pre∧dB n bG)(bJ:bk n kv)(K:V→List H→Prop)(hi:i≤bs.length)
  (hk:∀(cF:Nat) (h':Int) (c:ff),cF≤bs.length→K (.agg (ff.bT c)) (pre++cv bs cF h'::bG)):d6 prog 163 kv (pre++cv bs i h::bG) [.ptr pre.length 0 0] K:=by
 have aW:∀(cF:Nat) (h':Int) (c:ff) (ex:List H),cF≤bs.length→oW kv K (.agg (ff.bT c)) (pre++cv bs cF h'::(bG++ex)):=by
  intro cF h' c ex dC;subst hn;exact⟨List.range (pre.length+(bG.length+1)),.agg (ff.bT c),pre++cv bs cF h'::bG,Fl hr bJ (by simp only[ff.bT,vsees,vsee,ren,rens,and_true]) (by simp[bk,vok]),hk cF h' c dC⟩
 refine d6.n2 ?_;refine(fY (n:=19) (rs:=[.cell 2 25]) func163 rfl call163 b2 rfl rfl ?_);simp only[go_sem,l1,gX];refine ae.intro ab6 ?_;simp only[go_sem,gX,gf];refine ae.inl (g1 bs hm i h pre (bG++[.box ff.cc,.box (ff.bT Dp)]) _ 3 ω ω _ hi fun f2 h1 x1 cB db ep=>?_);simp only[go_sem];refine bP (fun q=>?_) (fun q=>?_)
 ·simp only[go_sem,gX,gf,hM,kh];exact aW f2 h1 {Dp with av:=8,b1:=4,cm:=6,k8:=1} _ cB
 ·simp only[go_sem];refine bP (fun bX=>?_) (fun bX=>?_)
  ·simp only[go_sem,gX,gf,hM,kh];exact aW f2 h1 {Dp with k8:=3,ft:=1,eP:=2} _ cB
  ·simp only[go_sem,gX,gf,hM,kh];exact aW f2 h1 Dp _ cB
theorem ab7(bs:List Int)(hm:bs.length≤maxLen)(i:Nat)(h:Int)(pre bG:List H)(kv:List V)(n:Nat)(hn:pre.length+(bG.length+1)=n)(hr:dB n pre∧dB n bG)(bJ:bk n kv)(K:V→List H→Prop)(hi:i≤bs.length)
  (hk:∀(cF:Nat) (h':Int) (f:aq),cF≤bs.length→f.data.length≤6→0≤f.aH→f.aH≤11→K (.agg (aq.bT f)) (pre++cv bs cF h'::bG)):d6 prog 222 kv (pre++cv bs i h::bG) [.ptr pre.length 0 0] K:=by
 have aW:∀(cF:Nat) (h':Int) (f:aq) (ex:List H),cF≤bs.length→f.data.length≤6→0≤f.aH→f.aH≤11→oW kv K (.agg (aq.bT f)) (pre++cv bs cF h'::(bG++ex)):=by
  intro cF h' f ex dC cn cG d4;subst hn;exact⟨List.range (pre.length+(bG.length+1)),.agg (aq.bT f),pre++cv bs cF h'::bG,Fl hr bJ (by simp only[aq.bT,vsees,vsee,ren,rens,and_true]) (by simp[bk,vok]),hk cF h' f dC cn cG d4⟩
 have Fq:∀l:List H,dB (pre.length+((bG++l).length+1)) l→dB (pre.length+((bG++l).length+1)) pre∧dB (pre.length+((bG++l).length+1)) (bG++l):=by
  intro l hl;have e:n≤pre.length+((bG++l).length+1):=by simp only[dY];omega
  exact⟨BO e hr.1,Fk (BO e hr.2) hl⟩
 have ab8:∀k,n≤k→bk k kv:=fun k hk=>ly hk _ bJ;refine d6.n2 ?_;refine(fY (n:=34) (rs:=[.cell 2 82]) func222 rfl call222 b2 rfl rfl ?_);simp only[go_sem,l1,gX,gf];refine ae.inl (yB bs hm i h pre (bG++[.box aq.cc,.ah 1 ([4,5,8,8,8,8,16,17,18,20,21,22].map aR) true]) _ (bG.length+1) [4,5,8,8,8,8,16,17,18,20,21,22] (by rw[gf];rfl) ζ ζ _ hi fun f2 h1 x1 cB db=>?_);simp only[go_sem,gX,gf];refine ae.inl (g1 bs hm f2 h1 pre (bG++[.box aq.cc,.ah 1 ([4,5,8,8,8,8,16,17,18,20,21,22].map aR) true,.box [.i x1,.i 0,.i 0,.d (.str []),.d (.bool false),.i 0,.i 0,.i 0,.d (.bool false)]]) _ 8 ω ω _ cB fun dG h2 x2 cJ cW eE=>?_);simp only[go_sem,gX,gf];refine ae.inl (g1 bs hm dG h2 pre (bG++[.box aq.cc,.ah 1 ([4,5,8,8,8,8,16,17,18,20,21,22].map aR) true,.box [.i x1,.i x2,.i 0,.d (.str []),.d (.bool false),.i 0,.i 0,.i 0,.d (.bool false)]]) _ 12 ω ω _ cJ fun dV ao gx ct c8 hE=>?_);simp only[go_sem,gX,gf];refine ae.jD [0,2,3] (by simp only[hZ,List.elem_cons,List.elem_nil,Nat.reduceBEq,Nat.reduceAdd,c_,dK];rfl) (IT bs hm dV ao pre (bG++[.box aq.cc,.ah 1 ([4,5,8,8,8,8,16,17,18,20,21,22].map aR) true,.box [.i x1,.i x2,.i gx,.d (.str []),.d (.bool false),.i 0,.i 0,.i 0,.d (.bool false)]]) _ 6 (Fq _ (by simp[dB,cA,bk,vok])) (by
  simp only[dY,dA,eI,bz,bx,bk,vok,true_and];have hq:=ab8 (pre.length+(bG.length+(0+1+1+1)+1)) ω;simp only[hq,and_true];omega) ω _ ct fun jH aN eF eA ic=>?_)
 simp only[go_sem,gX,gf];refine ae.inl (p' bs hm jH aN pre (bG++[.box aq.cc,.ah 1 ([4,5,8,8,8,8,16,17,18,20,21,22].map aR) true,.box [.i x1,.i x2,.i gx,.d (.str eF),.d (.bool false),.i 0,.i 0,.i 0,.d (.bool false)]]) _ 4 ω ω _ eA fun xn b6 lb fb=>?_);simp only[go_sem,gX,gf];refine ae.inl (g1 bs hm xn b6 pre (bG++[.box aq.cc,.ah 1 ([4,5,8,8,8,8,16,17,18,20,21,22].map aR) true,.box [.i x1,.i x2,.i gx,.d (.str eF),.d (.bool lb),.i 0,.i 0,.i 0,.d (.bool false)]]) _ 5 ω ω _ fb fun yP dP Ac fs IX IY=>?_);simp only[go_sem,gX,gf];refine ae.inl (g1 bs hm yP dP pre (bG++[.box aq.cc,.ah 1 ([4,5,8,8,8,8,16,17,18,20,21,22].map aR) true,.box [.i x1,.i x2,.i gx,.d (.str eF),.d (.bool lb),.i Ac,.i 0,.i 0,.d (.bool false)]]) _ 40 ω ω _ fs fun Tj gY BR fT IZ alB=>?_);simp only[go_sem,gX,gf];refine ae.inl (g1 bs hm Tj gY pre (bG++[.box aq.cc,.ah 1 ([4,5,8,8,8,8,16,17,18,20,21,22].map aR) true,.box [.i x1,.i x2,.i gx,.d (.str eF),.d (.bool lb),.i Ac,.i BR,.i 0,.d (.bool false)]]) _ 14 ω ω _ fT fun i8 e9 Dq gK Dr alC=>?_);simp only[go_sem,gX,gf];refine ae.inl (p' bs hm i8 e9 pre (bG++[.box aq.cc,.ah 1 ([4,5,8,8,8,8,16,17,18,20,21,22].map aR) true,.box [.i x1,.i x2,.i gx,.d (.str eF),.d (.bool lb),.i Ac,.i BR,.i Dq,.d (.bool false)]]) _ 2 ω ω _ gK fun ab9 j4 jk g2=>?_);simp only[go_sem,gX,gf];refine ae.intro (Tk x1 x2 gx eF lb Ac BR Dq jk) ?_;simp only[go_sem,gX,gf,hM,kh];have hu:(gE ⟨x1,x2,gx,eF,lb,Ac,BR,Dq,jk⟩).data.length≤6:=by simp only[gE];split<;>first|exact ic|simp
 have I0:0≤(gE ⟨x1,x2,gx,eF,lb,Ac,BR,Dq,jk⟩).aH∧(gE ⟨x1,x2,gx,eF,lb,Ac,BR,Dq,jk⟩).aH≤11:=by simp only[gE];split<;>omega
 exact aW ab9 j4 (gE ⟨x1,x2,gx,eF,lb,Ac,BR,Dq,jk⟩) _ g2 hu I0.1 I0.2
theorem abf(s:Bool)(KO KP KQ KR KS KT KU KV KW KX KY KZ K0 K1 K3 K4:Int):aL 162 [.one (.bool s),.agg [.int .i64 KO,.int .i64 KP,.int .i64 KQ,.int .i64 KR,.int .i64 KS,.int .i64 KT,.int .i64 KU,.int .i64 KV],.agg [.int .i64 KW,.int .i64 KX,.int .i64 KY,.int .i64 KZ,.int .i64 K0,.int .i64 K1,.int .i64 K3,.int .i64 K4]] [.agg (aa.enc (BF s (⟨KO,KP,KQ,KR,KS,KT,KU,KV⟩:ff) (⟨KW,KX,KY,KZ,K0,K1,K3,K4⟩:ff))),.one (.bool (jg (⟨KO,KP,KQ,KR,KS,KT,KU,KV⟩:ff)&&jg (⟨KW,KX,KY,KZ,K0,K1,K3,K4⟩:ff)))]:=by
 refine a3 85 func162 call162 [.cell 6 37,.tmp 7] ?_;intro _
 try simp only[go_sem]
 repeat'((first|refine ae.intro (by first|apply Fg|apply X3|apply X4|apply aiG|apply aiH) ?_|refine ay.intro (by apply Fg) ?_|refine bw ?_|refine bP (fun h=>?_) (fun h=>?_))<;>simp only[go_sem])
 all_goals(cases h1:jg (⟨KO,KP,KQ,KR,KS,KT,KU,KV⟩:ff)<;>cases h2:jg (⟨KW,KX,KY,KZ,K0,K1,K3,K4⟩:ff)<;>simp_all [BF])
end Gv
