/-
  Part of the proof: the machine, what functions compute, and the plain laws.
-/
import Derived.Test.YtcnmbnmmhocolaaGreatDoorM04
import Derived.Lib.Overlaps
import Derived.Lib.AppendZerosOnto
import Derived.Shelf.Spec.SlicesInsert
import Derived.Lib.Split
import Derived.Lib.TrimByte
import Derived.Shelf.Strings.Split
import Derived.Lib.IndexBytes
import Derived.Lib.SplitLaws
namespace Gv
open Go Go.Proofs
set_option maxRecDepth 100000
theorem Ge{S:List Bool}(h:S.length=26):∃a0 bD bR a3 a4 a5 ec e9 fC a9 j1 lz nf uK JU JV JW JX JY JZ J0 a21 J1 J2 J3 J4,S=[a0,bD,bR,a3,a4,a5,ec,e9,fC,a9,j1,lz,nf,uK,JU,JV,JW,JX,JY,JZ,J0,a21,J1,J2,J3,J4]:=by
 match S,h with|[a0,bD,bR,a3,a4,a5,ec,e9,fC,a9,j1,lz,nf,uK,JU,JV,JW,JX,JY,JZ,J0,a21,J1,J2,J3,J4],_=>exact⟨a0,bD,bR,a3,a4,a5,ec,e9,fC,a9,j1,lz,nf,uK,JU,JV,JW,JX,JY,JZ,J0,a21,J1,J2,J3,J4,rfl⟩
def J5(l:List aC)(n:Int)(i _Xg:Nat)(p _Xh:aC)(_Xi:Bool)(S:List Bool):St:=⟨[.d (.sl 2 (l.map aC.enc)),.d (.int .i64 n),.J,.J,.d (.bool false),.d (.int .i64 i),.ptr 0 0 0,.d (.sl 2 (l.map aC.enc)),.d (.int .i64 l.length),.d (.int .i64 i),.d (.bool true),.d (.int .i64 i),.eN [.int .i64 p.number,.sl 9 (p.frames.map aq.enc)] 0,.agg [.d (.int .i64 p.number),.d (.sl 9 (p.frames.map aq.enc))],(bif S.getD 0 false then .ptr 0 0 0 else .J),(bif S.getD 1 false then .d (.int .i64 p.number)else .J),(bif S.getD 2 false then .d (.int .i64 n)else .J),(bif S.getD 3 false then .d (.int .i64 (IntKind.i64.wrap (n-1)))else .J),(bif S.getD 4 false then .d (.bool false)else .J),(bif S.getD 5 false then .d (.bool true)else .J),(bif S.getD 6 false then .d (.bool true)else .J),(bif S.getD 7 false then .bq false (.d (.bool false))else .J),(bif S.getD 8 false then .bq false (.d (.bool false))else .J),(bif S.getD 9 false then .bq false (.d (.bool false))else .J),(bif S.getD 10 false then .bq false (.d (.bool false))else .J),(bif S.getD 11 false then .bq false (.d (.bool false))else .J),(bif S.getD 12 false then .bq false (.d (.bool false))else .J),(bif S.getD 13 false then .bq false (.d (.bool false))else .J),(bif S.getD 14 false then .bq false (.d (.bool false))else .J),(bif S.getD 15 false then .bq false (.d (.bool false))else .J),(bif S.getD 16 false then .bq false (.d (.bool false))else .J),(bif S.getD 17 false then .bq false (.d (.bool false))else .J),(bif S.getD 18 false then .bq false (.d (.bool false))else .J),(bif S.getD 19 false then .bq false (.d (.bool false))else .J),(bif S.getD 20 false then .d (.bool true)else .J),(bif S.getD 21 false then .d (.bool true)else .J),(bif S.getD 22 false then .bq false (.d (.bool false))else .J),(bif S.getD 23 false then .bq false (.d (.bool false))else .J),(bif S.getD 24 false then .bq false (.d (.bool false))else .J),(bif S.getD 25 false then .d (.bool true)else .J),.J],[.box [.d (.int .i64 p.number),.d (.sl 9 (p.frames.map aq.enc))]]⟩
def J6(l:List aC)(n:Int)(i _Xg:Nat)(p _Xh:aC)(w:Bool)(S:List Bool):St:=⟨[.d (.sl 2 (l.map aC.enc)),.d (.int .i64 n),.J,.J,.d (.bool false),.d (.int .i64 i),.ptr 0 0 0,.d (.sl 2 (l.map aC.enc)),.d (.int .i64 l.length),.d (.int .i64 i),.d (.bool true),.d (.int .i64 i),.eN [.int .i64 p.number,.sl 9 (p.frames.map aq.enc)] 0,.agg [.d (.int .i64 p.number),.d (.sl 9 (p.frames.map aq.enc))],(bif S.getD 0 false then .ptr 0 0 0 else .J),(bif S.getD 1 false then .d (.int .i64 p.number)else .J),(bif S.getD 2 false then .d (.int .i64 n)else .J),(bif S.getD 3 false then .d (.int .i64 (IntKind.i64.wrap (n-1)))else .J),(bif S.getD 4 false then .d (.bool true)else .J),(bif S.getD 5 false then .d (.bool false)else .J),(bif S.getD 6 false then .d (.bool false)else .J),(bif S.getD 7 false then .d (.int .i64 i)else .J),(bif S.getD 8 false then .d (.bool false)else .J),(bif S.getD 9 false then .d (.bool false)else .J),(bif S.getD 10 false then .bq false (.d (.bool false))else .J),(bif S.getD 11 false then .bq false (.d (.bool false))else .J),(bif S.getD 12 false then .bq false (.d (.bool false))else .J),(bif S.getD 13 false then .bq false (.d (.bool false))else .J),(bif S.getD 14 false then .bq false (.d (.bool false))else .J),(bif S.getD 15 false then .bq false (.d (.bool false))else .J),(bif S.getD 16 false then .bq false (.d (.bool false))else .J),(bif S.getD 17 false then .bq false (.d (.bool false))else .J),(bif S.getD 18 false then .bq false (.d (.bool false))else .J),(bif S.getD 19 false then .d (.bool false)else .J),(bif S.getD 20 false then .d (.bool false)else .J),(bif S.getD 21 false then .d (.bool false)else .J),(bif S.getD 22 false then .ptr 0 0 1 else .J),(bif S.getD 23 false then .d (.sl 9 (p.frames.map aq.enc))else .J),(bif S.getD 24 false then .d (.bool w)else .J),(bif S.getD 25 false then .d (.bool w)else .J),.J],[.box [.d (.int .i64 p.number),.d (.sl 9 (p.frames.map aq.enc))]]⟩
def J7(l:List aC)(n:Int)(i j:Nat)(p q:aC)(_Xi:Bool)(S:List Bool):St:=⟨[.d (.sl 2 (l.map aC.enc)),.d (.int .i64 n),.J,.J,.d (.bool false),.d (.int .i64 i),.ptr 0 0 0,.d (.sl 2 (l.map aC.enc)),.d (.int .i64 l.length),.d (.int .i64 i),.d (.bool true),.d (.int .i64 i),.eN [.int .i64 p.number,.sl 9 (p.frames.map aq.enc)] 0,.agg [.d (.int .i64 p.number),.d (.sl 9 (p.frames.map aq.enc))],(bif S.getD 0 false then .ptr 0 0 0 else .J),(bif S.getD 1 false then .d (.int .i64 p.number)else .J),(bif S.getD 2 false then .d (.int .i64 n)else .J),(bif S.getD 3 false then .d (.int .i64 (IntKind.i64.wrap (n-1)))else .J),(bif S.getD 4 false then .d (.bool true)else .J),(bif S.getD 5 false then .d (.bool false)else .J),(bif S.getD 6 false then .d (.bool false)else .J),(bif S.getD 7 false then .d (.int .i64 i)else .J),(bif S.getD 8 false then .d (.bool true)else .J),(bif S.getD 9 false then .d (.bool true)else .J),(bif S.getD 10 false then .d (.sl 2 (l.map aC.enc))else .J),(bif S.getD 11 false then .d (.int .i64 i)else .J),(bif S.getD 12 false then .d (.int .i64 j)else .J),(bif S.getD 13 false then .eN [.int .i64 q.number,.sl 9 (q.frames.map aq.enc)] 0 else .J),(bif S.getD 14 false then .eN [.int .i64 q.number,.sl 9 (q.frames.map aq.enc)] 0 else .J),(bif S.getD 15 false then .d (.int .i64 q.number)else .J),(bif S.getD 16 false then .ptr 0 0 0 else .J),(bif S.getD 17 false then .d (.int .i64 p.number)else .J),(bif S.getD 18 false then .d (.bool true)else .J),(bif S.getD 19 false then .d (.bool true)else .J),(bif S.getD 20 false then .d (.bool true)else .J),(bif S.getD 21 false then .d (.bool true)else .J),(bif S.getD 22 false then .bq false (.d (.bool false))else .J),(bif S.getD 23 false then .bq false (.d (.bool false))else .J),(bif S.getD 24 false then .bq false (.d (.bool false))else .J),(bif S.getD 25 false then .d (.bool true)else .J),.J],[.box [.d (.int .i64 p.number),.d (.sl 9 (p.frames.map aq.enc))]]⟩
def J8(l:List aC)(n:Int)(i j:Nat)(p q:aC)(w:Bool)(S:List Bool):St:=⟨[.d (.sl 2 (l.map aC.enc)),.d (.int .i64 n),.J,.J,.d (.bool false),.d (.int .i64 i),.ptr 0 0 0,.d (.sl 2 (l.map aC.enc)),.d (.int .i64 l.length),.d (.int .i64 i),.d (.bool true),.d (.int .i64 i),.eN [.int .i64 p.number,.sl 9 (p.frames.map aq.enc)] 0,.agg [.d (.int .i64 p.number),.d (.sl 9 (p.frames.map aq.enc))],(bif S.getD 0 false then .ptr 0 0 0 else .J),(bif S.getD 1 false then .d (.int .i64 p.number)else .J),(bif S.getD 2 false then .d (.int .i64 n)else .J),(bif S.getD 3 false then .d (.int .i64 (IntKind.i64.wrap (n-1)))else .J),(bif S.getD 4 false then .d (.bool true)else .J),(bif S.getD 5 false then .d (.bool false)else .J),(bif S.getD 6 false then .d (.bool false)else .J),(bif S.getD 7 false then .d (.int .i64 i)else .J),(bif S.getD 8 false then .d (.bool true)else .J),(bif S.getD 9 false then .d (.bool true)else .J),(bif S.getD 10 false then .d (.sl 2 (l.map aC.enc))else .J),(bif S.getD 11 false then .d (.int .i64 i)else .J),(bif S.getD 12 false then .d (.int .i64 j)else .J),(bif S.getD 13 false then .eN [.int .i64 q.number,.sl 9 (q.frames.map aq.enc)] 0 else .J),(bif S.getD 14 false then .eN [.int .i64 q.number,.sl 9 (q.frames.map aq.enc)] 0 else .J),(bif S.getD 15 false then .d (.int .i64 q.number)else .J),(bif S.getD 16 false then .ptr 0 0 0 else .J),(bif S.getD 17 false then .d (.int .i64 p.number)else .J),(bif S.getD 18 false then .d (.bool false)else .J),(bif S.getD 19 false then .d (.bool false)else .J),(bif S.getD 20 false then .d (.bool false)else .J),(bif S.getD 21 false then .d (.bool false)else .J),(bif S.getD 22 false then .ptr 0 0 1 else .J),(bif S.getD 23 false then .d (.sl 9 (p.frames.map aq.enc))else .J),(bif S.getD 24 false then .d (.bool w)else .J),(bif S.getD 25 false then .d (.bool w)else .J),.J],[.box [.d (.int .i64 p.number),.d (.sl 9 (p.frames.map aq.enc))]]⟩
set_option maxHeartbeats 8000000 in
theorem Xj(l:List aC)(n:Int)(hz:∀p∈l,Gf p)(hl:l.length≤30):PureCall Tryz.prog 149 [.one (.sl 2 (l.map aC.enc)),.one (.int .i64 n)] [.one (.bool (yo n l))]:=by
 refine aL 41 Tryz.func149 Tryz.call149 [.tmp 4] ?_;intro ok;clear ok;simp only[go_sem,lM];refine b5.intro (fun i:Nat=>⟨(.d (.sl 2 (l.map aC.enc))::.d (.int .i64 n)::.J::.J::.d (.bool false)::.J::.J::.d (.sl 2 (l.map aC.enc))::.d (.int .i64 l.length)::.d (.int .i64 i)::jn 31 []),[]⟩)
   (fun i=>l.length-i) (fun i=>i≤l.length∧ks (j2 n l) i=true) 0 [] ⟨by omega,by simp[ks]⟩ ?_ ?_
 ·simp only[go_sem];simp
 ·rintro i ⟨hi,he⟩;by_cases h1:i<l.length
  ·have ar:decide ((i:Int)<(l.length:Int))=true:=bc (by omega);have av:=bZ aC.enc l i h1;have yn:=(hz _ (List.getElem_mem h1)).1;have hs:=Dk (j2 n l) i;have hf:j2 n l i=false→yo n l=false:=fun h=>Gg (j2 n l) h1 h;have Pw:IntKind.i64.wrap ((i:Int)+1)=((i+1:Nat):Int):=by rw[bC]<;>omega
   have iC:∀h:i=0,j2 n l i=vH n l[i]:=by
    intro h;subst h;exact yp _ _ _ h1
   have Gh:∀(j:Nat) (h:i=j+1) (ak:j<l.length),j2 n l i=(vH n l[i]&&decide (l[j].number<l[i].number)):=by
    intro j h ak;subst h;exact xi _ _ _ _ h1
   have j3:∀h:vH n l[i]=false,j2 n l i=false:=by
    intro h;cases i with
    |zero=>rw[iC rfl,h]
    |succ j=>rw[Gh j rfl (by omega),h];rfl
   generalize l[i]=p at *;have hW:=iS p.number 0 (IntKind.i64.wrap (n-1))
   cases ha:bN p.number 0 (IntKind.i64.wrap (n-1))with
   |false=>
    rw[ha]at hW;have c_:j2 n l i=false:=j3 (by unfold vH;rw[ha];rfl);simp only[go_sem,lM,ar,av,aC.enc,aF];refine⟨⟨by omega,by omega⟩,?_⟩;refine hH _ (iT (fun S σ=>σ=J5 l n i 0 p p false S) (N:=26) rfl rfl rfl ?_) ?_
    ·repeat'(first|exact iU|refine iV ?_ ?_)
     all_goals(
      rintro S σ F hl aX hp hcl rfl aZ;obtain⟨gq,cU,c9,cq,dd,iD,jI,j4,kM,mO,vI,yq,Bp,Dl,J9,J_,J',Ka,Kb,Kc,Kd,Ke,Kf,Kg,Kh,Ki,rfl⟩:=Ge hl;simp only[List.getElem?_cons_succ,List.getElem?_cons_zero,uB]at aX;subst aX;simp[gQ,Region.binds]at hp
      repeat(obtain⟨c_,hp⟩:=hp;subst c_)
      try subst hp
      simp only[J5,pG,oV,cond_true,cond_false]
      repeat'(first
        |exact aZ _ rfl
        |(refine b9 ?_)
        |(refine de ?_)
        |(refine ae.intro hW ?_)
        |simp only[go_sem]))
    rintro _ rfl;simp only[J5,List.replicate,pG,oV,cond_true];simp only[go_sem];simp[hf c_]
   |true=>
    rw[ha]at hW
    cases i with
    |zero=>
     have h2:decide ((0:Int)<((0:Nat):Int))=false:=by decide
     simp only[go_sem,lM,ar,av,aC.enc,aF];refine⟨⟨by omega,by omega⟩,?_⟩;refine hH _ (iT (fun S σ=>σ=J6 l n 0 0 p p (!p.frames.all e_) S) (N:=26) rfl rfl rfl ?_) ?_
     ·repeat'(first|exact iU|refine iV ?_ ?_)
      all_goals(
       rintro S σ F hl aX hp hcl rfl aZ;obtain⟨gq,cU,c9,cq,dd,iD,jI,j4,kM,mO,vI,yq,Bp,Dl,J9,J_,J',Ka,Kb,Kc,Kd,Ke,Kf,Kg,Kh,Ki,rfl⟩:=Ge hl;simp only[List.getElem?_cons_succ,List.getElem?_cons_zero,uB]at aX;subst aX;simp[gQ,Region.binds]at hp
       repeat(obtain⟨c_,hp⟩:=hp;subst c_)
       try subst hp
       simp only[J6,pG,oV,cond_true,cond_false]
       repeat'(first
         |exact aZ _ rfl
         |(refine b9 ?_)
         |(refine de ?_)
         |(refine ae.intro hW ?_)
         |(refine ae.inl (Px p.frames yn p.number _ (by simp[a6,vok,Bq]) _ ?_))
         |simp only[go_sem,h2]))
     rintro _ rfl;simp only[J6,List.replicate,pG,oV,cond_true]
     cases hw:p.frames.all e_ with
     |false=>
      have c_:j2 n l 0=false:=by rw[iC rfl];unfold vH;rw[ha,hw];rfl
      simp only[go_sem,Bool.not_false];simp[hf c_]
     |true=>
      have c_:j2 n l 0=true:=by rw[iC rfl];unfold vH;rw[ha,hw];rfl
      simp only[go_sem,Bool.not_true,Pw];refine bm.intro 1 [] ⟨by omega,by rw[hs,he,c_];rfl⟩ (by omega) ?_;simp only[go_sem];try simp
    |succ j=>
     have gi:=bZ aC.enc l j (by omega);have h2:decide ((0:Int)<((j+1:Nat):Int))=true:=bc (by omega);have hp:IntKind.i64.wrap (((j+1:Nat):Int)-1)=(j:Int):=by rw[bC]<;>omega
     have hb:=Gh j rfl (by omega);generalize l[j]=q at *
     cases hc:decide (q.number<p.number)with
     |false=>
      have hd:decide (p.number≤q.number)=true:=by simp at hc⊢;omega
      have gr:decide (q.number≥p.number)=true:=hd;have c_:j2 n l (j+1)=false:=by rw[hb,hc];simp
      simp only[go_sem,lM,ar,av,aC.enc,aF];refine⟨⟨by omega,by omega⟩,?_⟩;refine hH _ (iT (fun S σ=>σ=J7 l n (j+1) j p q false S) (N:=26) rfl rfl rfl ?_) ?_
      ·repeat'(first|exact iU|refine iV ?_ ?_)
       all_goals(
        rintro S σ F hl aX hp hcl rfl aZ;obtain⟨gq,cU,c9,cq,dd,iD,jI,j4,kM,mO,vI,yq,Bp,Dl,J9,J_,J',Ka,Kb,Kc,Kd,Ke,Kf,Kg,Kh,Ki,rfl⟩:=Ge hl;simp only[List.getElem?_cons_succ,List.getElem?_cons_zero,uB]at aX;subst aX;simp[gQ,Region.binds]at hp
        repeat(obtain⟨c_,hp⟩:=hp;subst c_)
        try subst hp
        simp only[J7,pG,oV,cond_true,cond_false]
        repeat'(first
          |exact aZ _ rfl
          |(refine b9 ?_)
          |(refine de ?_)
          |(refine ae.intro hW ?_)
          |(refine⟨⟨by omega,by omega⟩,?_⟩)
          |simp only[go_sem,lM,Bool.not_true,h2,hp,gi,aC.enc,aF,hd]))
      rintro _ rfl;simp only[J7,List.replicate,pG,oV,cond_true];simp only[go_sem];simp[hf c_]
     |true=>
      have hd:decide (p.number≤q.number)=false:=by simp at hc⊢;omega
      have gr:decide (q.number≥p.number)=false:=hd;simp only[go_sem,lM,ar,av,aC.enc,aF];refine⟨⟨by omega,by omega⟩,?_⟩;refine hH _ (iT (fun S σ=>σ=J8 l n (j+1) j p q (!p.frames.all e_) S) (N:=26) rfl rfl rfl ?_) ?_
      ·repeat'(first|exact iU|refine iV ?_ ?_)
       all_goals(
        rintro S σ F hl aX hp hcl rfl aZ;obtain⟨gq,cU,c9,cq,dd,iD,jI,j4,kM,mO,vI,yq,Bp,Dl,J9,J_,J',Ka,Kb,Kc,Kd,Ke,Kf,Kg,Kh,Ki,rfl⟩:=Ge hl;simp only[List.getElem?_cons_succ,List.getElem?_cons_zero,uB]at aX;subst aX;simp[gQ,Region.binds]at hp
        repeat(obtain⟨c_,hp⟩:=hp;subst c_)
        try subst hp
        simp only[J8,pG,oV,cond_true,cond_false]
        repeat'(first
          |exact aZ _ rfl
          |(refine b9 ?_)
          |(refine de ?_)
          |(refine ae.intro hW ?_)
          |(refine⟨⟨by omega,by omega⟩,?_⟩)
          |(refine ae.inl (Px p.frames yn p.number _ (by simp[a6,vok,Bq]) _ ?_))
          |simp only[go_sem,lM,h2,hp,gi,aC.enc,aF,hd]))
      rintro _ rfl;simp only[J8,List.replicate,pG,oV,cond_true]
      cases hw:p.frames.all e_ with
      |false=>
       have c_:j2 n l (j+1)=false:=by rw[hb];unfold vH;rw[ha,hw];rfl
       simp only[go_sem,Bool.not_false];simp[hf c_]
      |true=>
       have c_:j2 n l (j+1)=true:=by rw[hb];unfold vH;rw[ha,hw,hc];rfl
       simp only[go_sem,Bool.not_true,Pw];refine bm.intro (j+1+1) [] ⟨by omega,by rw[hs,he,c_];rfl⟩ (by omega) ?_;simp only[go_sem];try simp
  ·have ar:decide ((i:Int)<(l.length:Int))=false:=a_ (by omega);obtain rfl:i=l.length:=by omega
   have gp:yo n l=true:=he;simp only[go_sem,ar];simp[gp]
set_option maxRecDepth 100000
set_option maxHeartbeats 2000000 in
theorem aes(l:List aa)(hz:∀x∈l,dT x):PureCall Tryz.prog 150 [.one (.sl 39 (l.map aa.enc))] [.one (.int .i64 (mr gI nI l))]:=by
 refine aL 5 Tryz.func150 Tryz.call150 [.tmp 2] ?_;intro ok;have hm:=fj ok;clear ok;simp only[go_sem];refine ae.inl (en (n:=25) (rs:=[.tmp 4]) Tryz.func209 rfl Tryz.call209 hZ rfl rfl ?_);simp only[go_sem]
 cases hA:i' gI l with
 |false=>
  have ah:=JP (f:=nI) hA
  try simp only[go_sem,lM,hA]
  repeat'(refine ae.intro (by(apply Fj<;>first|assumption|omega)) ?_<;>simp only[go_sem,hA])
  all_goals simp[ah]
 |true=>
  have ah:=JO (f:=nI) hA
  try simp only[go_sem,lM,hA]
  repeat'(refine ae.intro (by(apply Fj<;>first|assumption|omega)) ?_<;>simp only[go_sem,lM,hA])
  refine b5.intro (fun i:Nat=>⟨(.J::.fn 210 []::jn 3 (.d (.int .i64 ((l.take i).foldl (pe nI) 0))::jn 5 (.d (.sl 39 (l.map aa.enc))::.d (.int .i64 l.length)::.d (.int .i64 i)::jn 11 []))),[]⟩)
   (fun i=>l.length-i) (fun i=>i≤l.length) 0 [] (by omega) ?_ ?_
  ·simp only[go_sem];simp
  ·intro i hi;by_cases h1:i<l.length
   ·have ar:decide ((i:Int)<(l.length:Int))=true:=bc (by omega);have av:=bZ aa.enc l i h1;have hw:=dv h1 hm;have hs:=JN nI l i h1;simp only[go_sem,lM,aF,av,aa.enc,ar];refine⟨⟨by omega,by omega⟩,?_⟩;refine ae.inl (en (n:=6) (rs:=[.tmp 2]) Tryz.func210 rfl Tryz.call210 hZ rfl rfl ?_);simp only[go_sem];refine bm.intro (i+1) [] (by omega) (by omega) ?_;simp only[go_sem,hw,hs];simp[pe,nI];try exact JM _ _
   ·have ar:decide ((i:Int)<(l.length:Int))=false:=a_ (by omega);obtain rfl:i=l.length:=by omega
    simp only[go_sem,ar,dB];simp[ah]
set_option maxHeartbeats 2000000 in
theorem aet(l:List aa)(hz:∀x∈l,dT x):PureCall Tryz.prog 151 [.one (.sl 39 (l.map aa.enc))] [.one (.int .i64 (mr gI nJ l))]:=by
 refine aL 5 Tryz.func151 Tryz.call151 [.tmp 2] ?_;intro ok;have hm:=fj ok;clear ok;simp only[go_sem];refine ae.inl (en (n:=25) (rs:=[.tmp 4]) Tryz.func209 rfl Tryz.call209 hZ rfl rfl ?_);simp only[go_sem]
 cases hA:i' gI l with
 |false=>
  have ah:=JP (f:=nJ) hA
  try simp only[go_sem,lM,hA]
  repeat'(refine ae.intro (by(apply Fj<;>first|assumption|omega)) ?_<;>simp only[go_sem,hA])
  all_goals simp[ah]
 |true=>
  have ah:=JO (f:=nJ) hA
  try simp only[go_sem,lM,hA]
  repeat'(refine ae.intro (by(apply Fj<;>first|assumption|omega)) ?_<;>simp only[go_sem,lM,hA])
  refine b5.intro (fun i:Nat=>⟨(.J::.fn 211 []::jn 3 (.d (.int .i64 ((l.take i).foldl (pe nJ) 0))::jn 5 (.d (.sl 39 (l.map aa.enc))::.d (.int .i64 l.length)::.d (.int .i64 i)::jn 11 []))),[]⟩)
   (fun i=>l.length-i) (fun i=>i≤l.length) 0 [] (by omega) ?_ ?_
  ·simp only[go_sem];simp
  ·intro i hi;by_cases h1:i<l.length
   ·have ar:decide ((i:Int)<(l.length:Int))=true:=bc (by omega);have av:=bZ aa.enc l i h1;have hw:=dv h1 hm;have hs:=JN nJ l i h1;simp only[go_sem,lM,aF,av,aa.enc,ar];refine⟨⟨by omega,by omega⟩,?_⟩;refine ae.inl (en (n:=6) (rs:=[.tmp 2]) Tryz.func211 rfl Tryz.call211 hZ rfl rfl ?_);simp only[go_sem];refine bm.intro (i+1) [] (by omega) (by omega) ?_;simp only[go_sem,hw,hs];simp[pe,nJ];try exact JM _ _
   ·have ar:decide ((i:Int)<(l.length:Int))=false:=a_ (by omega);obtain rfl:i=l.length:=by omega
    simp only[go_sem,ar,dB];simp[ah]
end Gv

namespace Gv
open Go Go.Proofs
end Gv

namespace Gv
open Go Go.Proofs
end Gv

namespace Gv
open Go Go.Proofs
set_option maxRecDepth 100000
def UR:List (List bt):=ct 24 [282429536444,282429536442,282429536476,282429536458,282429536400,282429536238,282429279873,282429278415,282429274041,282429526275,282429486909,282429368811,282429005040,282427942158,282424753512,277378721217,277350023403,277263929961,282228651783,281453810805,279129287871,271969183278,251048476872,188286357654]
attribute [go_sem] UR
def Fg(c:I):Bool:=gG c.own&&gG c.peer&&i' gI c.streams&&mu c.c8&&oB c.dA
def Fh(c:I):Bool:=j_ c.eC&&j_ c.eB&&kB c.dH&&kB c.dI
def Fi(c:I):Bool:=bN c.fk (-1) 4611686018427387903&&bN c.number 0 1000000&&bN c.gh 0 1000000&&bN c.closed 0 255
def N0(c:I):Bool:=yo c.number c.packets&&decide (mr gI nI c.streams≤c.c8.used)&&decide (mr gI nJ c.streams≤c.dA.seen)
theorem aek(c:I):(bif bif bif bif !gG c.own then true else !gG c.peer then true else !i' gI c.streams then true else !mu c.c8 then true else !oB c.dA)=!Fg c:=by
 unfold Fg;cases gG c.own<;>cases gG c.peer<;>cases i' gI c.streams<;>cases mu c.c8<;>cases oB c.dA<;>rfl
theorem ael(c:I):(bif bif bif !j_ c.eC then true else !j_ c.eB then true else !kB c.dH then true else !kB c.dI)=!Fh c:=by
 unfold Fh;cases j_ c.eC<;>cases j_ c.eB<;>cases kB c.dH<;>cases kB c.dI<;>rfl
theorem aem(c:I):(bif bif bif !bN c.fk (-1) 4611686018427387903 then true else !bN c.number 0 1000000 then true else !bN c.gh 0 1000000 then true else !bN c.closed 0 255)=!Fi c:=by
 unfold Fi;cases bN c.fk (-1) 4611686018427387903<;>cases bN c.number 0 1000000<;>cases bN c.gh 0 1000000<;>cases bN c.closed 0 255<;>rfl
theorem aen(c:I):o7 c=(Fg c&&Fh c&&Fi c&&N0 c):=by
 unfold o7 vW uV BJ Fg Fh Fi N0
 ac_rfl
set_option maxHeartbeats 8000000 in
theorem aeo(c:I)(hz:e0 c):PureCall Tryz.prog 85 [.agg (I.enc c)] [.one (.bool (o7 c))]:=by
 refine aL 101 Tryz.func85 Tryz.call85 [.tmp 2] ?_;intro ok;clear ok;have aep:=aek c;have aeq:=ael c;have aer:=aem c;obtain⟨nH,kC,z3,z4⟩:=hz;rw[aen c]
 try simp only[go_sem]
 repeat'((first|refine ae.intro (by apply N1) ?_|refine ao.intro (by first|apply N1|(apply Fj<;>first|assumption|omega)|apply US|apply UT) ?_|refine bb ?_)<;>simp only[go_sem])
 rw[aep]
 cases hA:Fg c with
 |false=>simp only[go_sem,Bool.not_false,Bool.false_and]
 |true=>
 simp only[Bool.not_true]
 try simp only[go_sem]
 repeat'((first|refine ae.intro (by apply Fk) ?_|refine ao.intro (by first|apply Fk|apply UU) ?_|refine bb ?_)<;>simp only[go_sem])
 rw[aeq]
 cases hB:Fh c with
 |false=>simp only[go_sem,Bool.not_false,Bool.false_and,Bool.and_false]
 |true=>
 simp only[Bool.not_true]
 try simp only[go_sem]
 repeat'((first|refine ae.intro (by apply iS) ?_|refine ao.intro (by apply iS) ?_|refine bb ?_)<;>simp only[go_sem])
 rw[aer]
 cases hC:Fi c with
 |false=>simp only[go_sem,Bool.not_false,Bool.false_and,Bool.and_false]
 |true=>
 simp only[Bool.not_true]
 try simp only[go_sem]
 repeat'((first|refine ao.intro (by first|(apply Xj<;>first|assumption|omega)|(apply aes<;>first|assumption|omega)|(apply aet<;>first|assumption|omega)) ?_|refine eJ ?_|refine ba UR (by kernel_rfl) (by rfl) ?_)<;>simp only[go_sem])
 refine d' ?_;unfold N0;simp only[cf]
set_option maxRecDepth 100000
theorem X8(et eu ew eF:Int):PureCall Tryz.prog 133 [.agg [.int .i64 et,.int .i64 eu,.int .i64 ew,.int .i64 eF]] [.agg [.int .i64 (i_ (⟨et,eu,ew,eF⟩:du)).most,.int .i64 (i_ (⟨et,eu,ew,eF⟩:du)).a8,.int .i64 (i_ (⟨et,eu,ew,eF⟩:du)).seen,.int .i64 (i_ (⟨et,eu,ew,eF⟩:du)).closed],.one (.bool (vS (⟨et,eu,ew,eF⟩:du)))]:=by
 refine aL 20 Tryz.func133 Tryz.call133 [.cell 2 34,.tmp 3] ?_;intro _
 try simp only[go_sem]
 repeat'((first|refine ae.intro (by apply UU) ?_|refine bb ?_|refine bp (fun h=>?_) (fun h=>?_))<;>simp only[go_sem])
 all_goals(cases hc:vS (⟨et,eu,ew,eF⟩:du)<;>first|(simp[i_,hc];done)|(simp[i_,hc];simp_all;done)|((try(simp only[il,kk]at *));simp[i_, *];done)|(exfalso;simp[vS]at hc h;first|(simp_all;done)|(simp_all;omega)|omega|grind)|(exfalso;simp[vS,c3,cf]at *;first|(simp_all;done)|(simp_all;omega)|omega|grind))
set_option maxHeartbeats 1000000 in
theorem By(l:List aa)(id:Int):PureCall Tryz.prog 11 [.one (.sl 39 (l.map aa.enc)),.one (.int .i64 id)] [.one (.int .i64 (fIx (ed id) l))]:=by
 refine aL 8 Tryz.func11 Tryz.call11 [.tmp 4] ?_;intro ok;have hm:=fj ok;clear ok;simp only[go_sem];refine ae.inl (en (n:=19) (rs:=[.tmp 4]) Tryz.func51 rfl Tryz.call51 hZ rfl rfl ?_);simp only[go_sem,lM];refine b5.intro (fun i:Nat=>⟨(.d (.sl 39 (l.map aa.enc))::.fn 52 [.ptr 0 0 0]::.J::.J::.d (.int .i64 0)::.J::.J::.d (.int .i64 l.length)::.d (.int .i64 i)::jn 10 []),[.box [.d (.int .i64 id)]]⟩)
  (fun i=>l.length-i) (fun i=>i≤l.length∧(l.take i).any (ed id)=false) 0 [0] ⟨by omega,by simp⟩ ?_ ?_
 ·simp only[go_sem];simp
 ·rintro i ⟨hi,he⟩;by_cases h1:i<l.length
  ·have ar:decide ((i:Int)<(l.length:Int))=true:=bc (by omega);have av:=bZ aa.enc l i h1;have hw:=dv h1 hm;simp only[go_sem,lM,aF,av,aa.enc,ar];refine⟨⟨by omega,by omega⟩,?_⟩;refine ae.inl (en (n:=8) (rs:=[.tmp 3]) Tryz.func52 rfl Tryz.call52 hZ rfl rfl ?_);simp only[go_sem];refine bp (fun h=>?_) (fun h=>?_)
   ·simp only[go_sem];have:=LO (ed id) l i h1 he h;simp[this]
   ·simp only[go_sem,hw];refine bm.intro (i+1) [0] ⟨by omega,zL _ l i h1 he h⟩ (by omega) ?_;simp only[go_sem];simp
  ·have ar:decide ((i:Int)<(l.length:Int))=false:=a_ (by omega);obtain rfl:i=l.length:=by omega
   rw[dB]at he;simp only[go_sem,ar];simp[RC _ _ he]
theorem af2(c:I):PureCall Tryz.prog 86 [.agg (I.enc c)] [.one (.bool (decide (c.closed≠0)))]:=by
 refine aL 6 Tryz.func86 Tryz.call86 [.tmp 2] ?_;intro _
 try simp only[go_sem]
theorem KI(c:I)(hz:e0 c):PureCall Tryz.prog 35 [.agg (I.enc c)] [.one (.bool (o7 c&&decide (c.closed=0)))]:=by
 refine aL 10 Tryz.func35 Tryz.call35 [.tmp 2] ?_;intro ok;clear ok
 try simp only[go_sem]
 repeat'((first|refine ae.intro (by(apply aeo<;>first|assumption|omega)) ?_|refine ao.intro (by apply af2) ?_|refine bb ?_)<;>simp only[go_sem])
 all_goals(refine d' ?_;simp)
theorem run_copy_row{P:Program}(w:World)(Ui adE ty elem te:TypeId)(b o Uj adF k n:Nat)(lZ so xH Ed:Nat)(cur:Array Value)(cs:List Value)
  (hu:P.underlying Ui=some (.slice elem)) (hs:(P.info? elem).map (·.size)=some k) (hn:n=Nat.min xH Uj) (hl:cs.length=n * k)
  (pq:∀(j:Nat) (v:Value),cs[j]?=some v→cellAt w.heap lZ (so+j)=some v) (hg:w.heap[b]?=some (.cells cur te (0,0))) (kT:o+cs.length≤cur.size) (h1:∀v∈cs,v.oneCell'=true) :
  (Builtin.copy_ #[Ui,adE] ty #[.slice (some ⟨b,o,none⟩) Uj adF,.slice (some ⟨lZ,so,none⟩) xH Ed]).run P w=.ok (goInt n) (w.setRow b (dn cur.toList o cs).toArray):=by
 have jg:=run_loadCells_list (P:=P) w ⟨lZ,so,none⟩ cs (fun j v ak=>by rw[add_lit,cell_eq];exact pq j v ak);have cw:=run_storeCells_at P b o te cs 0 cur w hg (by simpa using kT) h1;simp only[Nat.add_zero,List.append_assoc]at cw;rw[hl]at jg
 cases hq:P.info? elem with
 |none=>simp[hq]at hs
 |some i=>
  have hi:i.size=k:=by simpa [hq]using hs
  simp[Builtin.copy_,run_underlying hu,Builtin.lenOf,Builtin.firstCells,Go.sizeOf,typeInfo,hq,hi,←hn,jg,cw,dn]
def Nx(w:World)(b:Option Nat)(k n:Nat)(ir:List Value)(v:Value)(w':World):Prop:=
 ∃T f c,v=.slice (some ⟨T,f,none⟩) (n+1) c∧n+1≤c∧c≤maxLen∧(∀j,j<(n+1) * k→cellAt w'.heap T (f+j)=ir[j]?)∧l6 w'.heap T (f+c * k)∧(b=some T∨w.heap.size≤T)∧
  Bel (fun x=>b=some x∨w.heap.size≤x) w w'
theorem adw{w w':World}{k i n b f vb Iu:Nat}{xs:List (List D)}{x:List D}{bE bh:List Nat}{mc:Option Nat}{us fJ:List Value}{v:Value}
  (lA:xs.length=n) (hi:i≤n) (aK:repE w.heap true b f k xs bE) (a7:repE w.heap true vb Iu k [x] bh) (eM:us.length=n * k) (u2:∀(j:Nat) (u:Value),us[j]?=some u→cellAt w.heap b (f+j)=some u)
  (g':fJ.length=k) (hj:∀(j:Nat) (u:Value),fJ[j]?=some u→cellAt w.heap vb (Iu+j)=some u) (bw:∀g∈bE++bh,g<w.heap.size∧mc≠some g) (hnd:(bE++bh).Nodup)
  (aI:Nx w mc k n (us.take (i * k)++(fJ++us.drop (i * k))) v w') :
  ∃T jX,rep w'.heap true (.sl k (xs.take i++x::xs.drop i)) v (T::jX)∧(T::jX).Nodup∧(∀g∈jX,g∈bE++bh)∧(mc=some T∨w.heap.size≤T):=by
 obtain⟨T,gK,c,rfl,hc1,hc2,lI,ho,cn,hB⟩:=aI;have CK:i * k≤n * k:=Nat.mul_le_mul_right _ hi;have o5:(n+1) * k=n * k+k:=by rw[Nat.add_mul,Nat.one_mul]
 have Dq:(n-i) * k=n * k-i * k:=Nat.sub_mul _ _ _;have ht:(xs.take i).length=i:=by simp;omega
 have hd:(xs.drop i).length=n-i:=by simp;omega
 have Uk:(us.take (i * k)).length=i * k:=by simp;omega
 rw[←List.take_append_drop i xs]at aK;obtain⟨kc,jy,rfl,adG,Ul⟩:=(repE_append _ _ _ _).1 aK;rw[ht]at Ul;obtain⟨hx,cL⟩:=abt.1 a7;have keep:∀g∈(kc++jy)++bh,w'.heap[g]?=w.heap[g]?:=fun g hg=>hB.block g fun h=>by
  obtain⟨k1,k2⟩:=bw g hg;rcases h with h|h
  ·exact k2 h
  ·omega
 have Cy:∀j,j<n * k→us[j]?=cellAt w.heap b (f+j):=fun j ak=>by
  have:=u2 j us[j] (dg (by omega));rw[this,dg]
 have add:∀j,j<k→fJ[j]?=cellAt w.heap vb (Iu+j):=fun j ak=>by
  have:=hj j fJ[j] (dg (by omega));rw[this,dg]
 have adH:T<w'.heap.size:=ho.lt;have j':(kc++(bh++jy)).Nodup:=by
  refine(List.Perm.nodup_iff ?_).1 hnd;rw[List.append_assoc];exact List.Perm.append_left _ List.perm_append_comm
 have hin:∀g,g∈kc++(bh++jy)→g∈(kc++jy)++bh:=fun g hg=>by
  simp only[List.mem_append]at hg⊢;rcases hg with h|h|h<;>simp[h]
 refine⟨T,kc++(bh++jy),?_,?_,hin,cn⟩
 ·simp only[rep];refine⟨some ⟨T,gK,none⟩,c,?_,by simp;omega,hc2,.inr ⟨T,gK,kc++(bh++jy),rfl,rfl,adH,?_,fun _=>⟨by omega,ho⟩⟩⟩
  ·congr 1;simp;omega
  ·refine(repE_append _ _ _ _).2 ⟨kc,bh++jy,rfl,po _ f gK k kc hB.size (fun g hg=>keep g (by simp[hg])) (fun j ak=>?_) adG,?_⟩
   ·rw[ht]at ak;rw[lI j (by omega),List.getElem?_append_left (by omega),List.getElem?_take_of_lt ak];exact Cy j (by omega)
   ·rw[ht];simp only[repE];refine⟨bh,jy,rfl,hx,Ey x Iu (gK+i * k) bh hB.size (fun g hg=>keep g (by simp[hg])) (fun j ak=>?_) cL,po _ (f+i * k) (gK+i * k+k) k jy hB.size (fun g hg=>keep g (by simp[hg])) (fun j ak=>?_) Ul⟩
    ·rw[hx]at ak;rw[Nat.add_assoc,lI _ (by omega),List.getElem?_append_right (by omega),Uk,List.getElem?_append_left (by omega),Nat.add_sub_cancel_left];exact add j ak
    ·rw[hd,Dq]at ak;rw[Nat.add_assoc,Nat.add_assoc,lI _ (by omega),List.getElem?_append_right (by omega),Uk,List.getElem?_append_right (by omega),g',List.getElem?_drop,show i * k+(i * k+(k+j)-i * k-k)=i * k+j from by omega,Cy _ (by omega),Nat.add_assoc]
 ·rw[List.nodup_cons];refine⟨fun h=>?_,j'⟩;obtain⟨k1,k2⟩:=bw T (hin T h);rcases cn with h|h
  ·exact k2 h
  ·omega
set_option maxRecDepth 100000
open Go.RowKit
def AR(w' W:World):Prop:=w'.heap=W.heap∧w'.os=W.os∧w'.tape=W.tape∧w'.output=W.output
theorem Bel.adj{m7:Nat→Prop}{w W w':World}(h:Bel m7 w W)(e:AR w' W):Bel m7 w w':=by
 obtain⟨ag,e2,aY,bk⟩:=e;exact⟨e2.trans h.os,aY.trans h.tape,bk.trans h.output,by rw[ag];exact h.size,fun k hk=>by rw[ag];exact h.block k hk,fun b n r=>by rw[ag];exact h.cO b n r⟩
section
variable {w:World} {b off n c i vb voff m vc:Nat} {cs vs:List Value} {cur cur2:Array Value} {te te2:TypeId}
theorem T3{w:World}{b:Nat}{cur:Array Value}{te:TypeId}(h:w.heap[b]?=some (.cells cur te (0,0))):w.shape? b=some (te,cur.size):=by unfold World.shape?;rw[h]
theorem T4{w:World}{b o:Nat}{cur:Array Value}{te:TypeId}(h:w.heap[b]?=some (.cells cur te (0,0))):w.frozen? ⟨b,o,none⟩=false:=by unfold World.frozen?;simp[h]
set_option maxHeartbeats 8000000 in
theorem adk(hi:i<n)(hm:0<m)(ho:n+m≤c)(adl:c≤maxLen)(Iq:vb≠b)(hcl:cs.length=n * 39)(oO:vs.length=m * 39)
  (hg:w.heap[b]?=some (.cells cur te (0,0))) (kT:off+c * 39≤cur.size) (lj:w.heap[vb]?=some (.cells cur2 te2 (0,0)))
  (hcs:∀(j:Nat) (v:Value),cs[j]?=some v→cellAt w.heap b (off+j)=some v) (pD:∀(j:Nat) (v:Value),vs[j]?=some v→cellAt w.heap vb (voff+j)=some v) (E5:∀v∈cs,v.oneCell'=true) (vy:∀v∈vs,v.oneCell'=true) :
  Calls Tryz.prog 99 #[.slice (some ⟨b,off,none⟩) n c,.int .i64 i,.slice (some ⟨vb,voff,none⟩) m vc] w fun e w'=>
   e=.returned (.slice (some ⟨b,off,none⟩) (n+m) c)∧AR w' ((w.setRow b (dn cur.toList (off+(i+m) * 39) (cs.drop (i * 39))).toArray).setRow b (dn (dn cur.toList (off+(i+m) * 39) (cs.drop (i * 39))).toArray.toList (off+i * 39) vs).toArray):=by
 have jU:¬((m:Int)=0):=by omega
 have jc:¬((i:Int)=(n:Int)):=by omega
 have hu:Tryz.prog.underlying 26=some (.slice 67):=by kernel_rfl
 have hs:(Tryz.prog.info? 67).map (·.size)=some 39:=by kernel_rfl
 have cB:∀w,(Go.sizeOf 67).run Tryz.prog w=.ok 39 w:=fun w=>by
  cases hq:Tryz.prog.info? 67 with
  |none=>rw[hq]at hs;cases hs
  |some i=>rw[hq]at hs;simp at hs;simp[Go.sizeOf,typeInfo,hq,hs]
 have T5:cur.size≠0:=by omega
 have KC:∀xp Cw,(callFunc 155 #[.slice (some ⟨vb,voff,none⟩) m vc,.slice (some ⟨b,off+(i+m) * 39,none⟩) xp Cw]).run Tryz.prog w=.ok (.value (.bool false)) w:=fun xp Cw=>by
  rw[run_callFunc_extern Tryz.func155 (by kernel_rfl) (by kernel_rfl) (by kernel_rfl) (e:=Extern.SlicesOverlaps.overlaps #[26,26] #[4]) (by kernel_rfl),
   Lib.run_overlaps_apart w 26 4 67 hu 39 cB ⟨vb,voff,none⟩ ⟨b,off+(i+m) * 39,none⟩ m vc xp Cw Iq te2 te cur2.size cur.size (T3 lj) (T3 hg) T5 (T4 lj) (T4 lj)]
  rfl
 have iX:(cs.drop (i * 39)).length=(n-i) * 39:=by rw[List.length_drop,hcl];omega
 unfold maxLen at adl;have yv:IntKind.i64.wrap ((i:Int)+(m:Int))=(i:Int)+(m:Int):=by rw[IntKind.wrap_i64];omega
 have ml:IntKind.i64.wrap ((n:Int)+(m:Int))=(n:Int)+(m:Int):=by rw[IntKind.wrap_i64];omega
 have Gh:(0:Int)≤(i:Int)+(m:Int):=by omega
 have hin:i≤n:=by omega
 have adm:((i:Int)+(m:Int)).toNat=i+m:=by omega
 have an4:((n:Int)+(m:Int)).toNat=n+m:=by omega
 have j3:¬(c=i+m):=by omega
 have E6:(i:Int)≤(n:Int)+(m:Int):=by omega
 have T6:¬(c=i):=by omega
 have an5:¬((c:Int)<(n:Int)+(m:Int)):=by omega
 obtain⟨iI,x'⟩:∃iI,iI=(dn cur.toList (off+(i+m) * 39) (cs.drop (i * 39))).toArray:=⟨_,rfl⟩;have j5:off+(i+m) * 39+(cs.drop (i * 39)).length≤cur.size:=by rw[iX];omega
 have adn:∀ty nW AS,(Builtin.copy_ #[26,26] ty #[.slice (some ⟨b,off+(i+m) * 39,none⟩) (n+m-(i+m)) nW,.slice (some ⟨b,off+i * 39,none⟩) (n+m-i) AS]).run Tryz.prog w.drew=.ok (goInt ((n-i:Nat):Int)) (w.drew.setRow b iI):=fun ty nW AS=>by
  rw[x'];exact run_copy_row w.drew 26 26 ty 67 te b (off+(i+m) * 39) (n+m-(i+m)) nW 39 (n-i) b (off+i * 39) (n+m-i) AS cur (cs.drop (i * 39)) hu hs (by simp only[Nat.min_def];split<;>omega) iX
   (fun j v ak=>by rw[Nat.add_assoc];exact hcs _ v (by rwa [List.getElem?_drop]at ak)) hg j5 (fun v hv=>E5 v (List.mem_of_mem_drop hv))
 have lr:(w.drew.setRow b iI).heap[b]?=some (.cells iI te (0,0)):=setRow_heap w.drew b cur iI te (0,0) hg;have ado:cur.size≤iI.size:=by rw[x'];exact pt j5
 have adp:∀W:World,W.heap=(w.drew.setRow b iI).heap→∀ty nW,(Builtin.copy_ #[26,26] ty #[.slice (some ⟨b,off+i * 39,none⟩) (n+m-i) nW,.slice (some ⟨vb,voff,none⟩) m vc]).run Tryz.prog W=.ok (goInt (m:Int)) (W.setRow b (dn iI.toList (off+i * 39) vs).toArray):=fun W hW ty nW=>
  run_copy_row W 26 26 ty 67 te b (off+i * 39) (n+m-i) nW 39 m vb voff m vc iI vs hu hs (by simp only[Nat.min_def];split<;>omega) oO
   (fun j v ak=>by rw[hW,Cu (setRow_other w.drew b vb iI Iq)];exact pD j v ak) (by rw[hW];exact lr) (by rw[oO];omega) vy
 rw[←x'];have mixed:=hZ;clear hcs pD E5 vy hg lj lr kT x' j5 iX cB hu hs hcl oO T5 ado
 go_enter Tryz.func99,Tryz.ntmps99
 go_wp2_with (simp only[KC])
 go_region_law_o (refine step_copy_runI rfl _ _ 26 26 rfl _ _ (by simp[Act.eval,Act.put]) (by simp[Act.eval,Act.put]) (adn _ _ _) ?_)
 go_wp2_with (at_builtin;refine wpList_copy_runI _ rfl _ _ 26 26 rfl _ _ rfl rfl (adp _ rfl _ _) ?_)
 go_ret
 exact⟨rfl,rfl,rfl,rfl,rfl⟩
theorem Ns:∃i z,Tryz.prog.info? 67=some i∧i.zero=some z∧i.size=39∧i.bytes=352∧z.cells.size=39:=by
 have h:((Tryz.prog.info? 67).map fun i=>(i.zero.map (fun z=>z.cells.size),i.size,i.bytes))=some (some 39,39,352):=by kernel_rfl
 cases hq:Tryz.prog.info? 67 with
 |none=>rw[hq]at h;cases h
 |some i=>
  rw[hq]at h;simp only[Option.map_some,uB,N3]at h;obtain⟨h1,h2,aj⟩:=h
  cases hz:i.zero with
  |none=>rw[hz]at h1;cases h1
  |some z=>rw[hz]at h1;simp only[Option.map_some,uB]at h1;exact⟨i,z,rfl,hz,h2,aj,h1⟩
set_option maxHeartbeats 8000000 in
theorem adq(hm:0<m)(ho:n+m≤c)(_an6:c≤maxLen)(oO:vs.length=m * 39)(hg:w.heap[b]?=some (.cells cur te (0,0)))(kT:off+c * 39≤cur.size)
  (pD:∀(j:Nat) (v:Value),vs[j]?=some v→cellAt w.heap vb (voff+j)=some v) (vy:∀v∈vs,v.oneCell'=true) :
  Calls Tryz.prog 99 #[.slice (some ⟨b,off,none⟩) n c,.int .i64 n,.slice (some ⟨vb,voff,none⟩) m vc] w fun e w'=>
   e=.returned (.slice (some ⟨b,off,none⟩) (n+m) c)∧AR w' (w.setRow b (dn cur.toList (off+n * 39) vs).toArray):=by
 have jU:¬((m:Int)=0):=by omega
 have hu:Tryz.prog.underlying 26=some (.slice 67):=by kernel_rfl
 obtain⟨zo,z,ke,AT,jz,iC,_⟩:=Ns;have Sk:n * 39+m * 39≤c * 39:=by rw[←Nat.add_mul];exact Nat.mul_le_mul_right _ ho
 have jg:=run_loadCells_list (P:=Tryz.prog) w ⟨vb,voff,none⟩ vs (fun j v ak=>by rw[add_lit,cell_eq];exact pD j v ak);rw[oO]at jg;have ey:∀ty,(Builtin.append_ #[26,26] ty #[.slice (some ⟨b,off,none⟩) n c,.slice (some ⟨vb,voff,none⟩) m vc]).run Tryz.prog w=.ok (.slice (some ⟨b,off,none⟩) (n+m) c) (w.setRow b (dn cur.toList (off+n * 39) vs).toArray):=fun ty=>by
  have:=L6 (P:=Tryz.prog) (w:=w) 26 ty 67 zo hu ke b off n c cur te hg m (.slice (some ⟨vb,voff,none⟩) m vc) vs rfl (by rw[jz];simpa [Builtin.firstCells]using jg) vy ho (by rw[jz,oO];omega);rw[jz]at this;exact this
 have mixed:=hZ;clear pD vy hg kT hu jg oO ke AT jz iC
 go_enter Tryz.func99,Tryz.ntmps99
 go_wp2_with (at_builtin;refine Lib.wpList_append_run _ rfl _ _ _ _ rfl _ _ rfl rfl _ _ (ey _) ?_)
 go_ret
 exact⟨rfl,rfl,rfl,rfl,rfl⟩
set_option maxHeartbeats 8000000 in
theorem T7(base:Option Addr)(hm:0<m)(adr:n≤c)(ho:c<n+m)(Ir:(n+m) * 352≤140737488355328)(hcl:cs.length=n * 39)(oO:vs.length=m * 39)(Az:base=none→n=0)
  (hcs:∀a,base=some a→∀(j:Nat) (v:Value),cs[j]?=some v→w.cell? (a.add j)=some v)
  (pD:∀(j:Nat) (v:Value),vs[j]?=some v→cellAt w.heap vb (voff+j)=some v) (vy:∀v∈vs,v.oneCell'=true) :
  Calls Tryz.prog 99 #[.slice base n c,.int .i64 n,.slice (some ⟨vb,voff,none⟩) m vc] w fun e w'=>
   ∃bO:Array Value,bO.size=(grownCap w (n+m) c 67-(n+m)) * 39∧e=.returned (.slice (some ⟨w.heap.size,0,none⟩) (n+m) (grownCap w (n+m) c 67))∧AR w' (w.alloc (.cells ((cs++vs).toArray++bO) 67)):=by
 have jU:¬((m:Int)=0):=by omega
 have hu:Tryz.prog.underlying 26=some (.slice 67):=by kernel_rfl
 obtain⟨zo,z,ke,AT,jz,iC,E7⟩:=Ns;have pq:Src Tryz.prog zo.size 26 (.slice (some ⟨vb,voff,none⟩) m vc) m vs w:=by
  rw[jz];exact Src.ofSlice w hu ⟨vb,voff,none⟩ m vc vs oO (fun j u ak=>by rw[add_lit,cell_eq];exact pD j u ak) vy
 have hold:(Builtin.firstCells zo.size n (.slice base n c)).run Tryz.prog w.drew=.ok cs.toArray w.drew:=by
  rw[jz]
  cases base with
  |none=>
   have h0:=Az rfl;subst h0;have wJ:cs=[]:=List.length_eq_zero_iff.1 (by simpa using hcl);rw[wJ];exact run_firstCells_none w.drew 39 0 0 c
  |some a=>
   have jg:=run_loadCells_list (P:=Tryz.prog) w.drew a cs (fun j v ak=>hcs a rfl j v ak);rw[hcl]at jg;simpa [Builtin.firstCells]using jg
 have ey:∀ty,(Builtin.append_ #[26,26] ty #[.slice base n c,.slice (some ⟨vb,voff,none⟩) m vc]).run Tryz.prog w=_:=fun ty=>
  run_append_grow_src w 26 26 ty 67 zo z hu ke AT base n c cs hold _ m vs pq ho (by omega) (by rw[iC];exact growslice_fits ho Ir)
 have ky:(Builtin.zeroCells z.cells (grownCap w (n+m) c 67-(n+m))).size=(grownCap w (n+m) c 67-(n+m)) * 39:=by rw[size_zeroCells,E7]
 generalize Builtin.zeroCells z.cells (grownCap w (n+m) c 67-(n+m))=bO at *;generalize grownCap w (n+m) c 67=G at *;have mixed:=hZ;clear pD vy hu oO ke AT jz iC hcs pq hold E7
 go_enter Tryz.func99,Tryz.ntmps99
 cases base with
 |none=>
  have h0:=Az rfl;subst h0
  go_wp2_with (at_builtin;refine Lib.wpList_append_run _ rfl _ _ _ _ rfl _ _ rfl rfl _ _ (ey _) ?_)
  go_ret
  exact⟨bO,by simpa using ky,rfl,rfl,rfl,rfl,rfl⟩
 |some a=>
  obtain⟨CJ,xP,an7⟩:=a
  go_wp2_with (at_builtin;refine Lib.wpList_append_run _ rfl _ _ _ _ rfl _ _ rfl rfl _ _ (ey _) ?_)
  all_goals(go_ret;exact⟨bO,ky,rfl,rfl,rfl,rfl,rfl⟩)
set_option maxHeartbeats 8000000 in
theorem ads(hi:i<n)(hm:0<m)(adr:n≤c)(ho:c<n+m)(Ir:(n+m) * 352≤140737488355328)(hcl:cs.length=n * 39)(oO:vs.length=m * 39)(adt:b<w.heap.size)(adu:vb<w.heap.size)
  (hcs:∀(j:Nat) (v:Value),cs[j]?=some v→cellAt w.heap b (off+j)=some v) (pD:∀(j:Nat) (v:Value),vs[j]?=some v→cellAt w.heap vb (voff+j)=some v) (E5:∀v∈cs,v.oneCell'=true) (vy:∀v∈vs,v.oneCell'=true) :
  Calls Tryz.prog 99 #[.slice (some ⟨b,off,none⟩) n c,.int .i64 i,.slice (some ⟨vb,voff,none⟩) m vc] w fun e w'=>
   ∃bO:Array Value,bO.size=(n+m-i) * 39+(grownCap w (n+m) c 67-(n+m)) * 39∧e=.returned (.slice (some ⟨w.heap.size,0,none⟩) (n+m) (grownCap w (n+m) c 67))∧
    AR w' (((w.alloc (.cells ((cs.take (i * 39)).toArray++bO) 67)).setRow w.heap.size (dn ((cs.take (i * 39)).toArray++bO).toList (i * 39) vs).toArray).setRow w.heap.size
     (dn (dn ((cs.take (i * 39)).toArray++bO).toList (i * 39) vs).toArray.toList ((i+m) * 39) (cs.drop (i * 39))).toArray):=by
 have jU:¬((m:Int)=0):=by omega
 have jc:¬((i:Int)=(n:Int)):=by omega
 have an8:(c:Int)<(n:Int)+(m:Int):=by omega
 have hu:Tryz.prog.underlying 26=some (.slice 67):=by kernel_rfl
 have T8:Tryz.prog.underlying 3=some (.int .i64):=by kernel_rfl
 have hs:(Tryz.prog.info? 67).map (·.size)=some 39:=by kernel_rfl
 obtain⟨zo,z,ke,AT,jz,iC,E7⟩:=Ns;have y0:(n:Int)+(m:Int)-(i:Int)=((n+m-i:Nat):Int):=by omega
 have CK:i+(n+m-i)=n+m:=by omega
 have jr:(cs.take (i * 39)).length=i * 39:=by rw[List.length_take,hcl];omega
 have iX:(cs.drop (i * 39)).length=(n-i) * 39:=by rw[List.length_drop,hcl];omega
 have hold:(Builtin.firstCells zo.size i (.slice (some ⟨b,off,none⟩) i c)).run Tryz.prog w.drew=.ok (cs.take (i * 39)).toArray w.drew:=by
  rw[jz];have jg:=run_loadCells_list (P:=Tryz.prog) w.drew ⟨b,off,none⟩ (cs.take (i * 39)) (fun j v ak=>by
   rw[add_lit,cell_eq];rw[List.getElem?_take]at ak;split at ak
   ·exact hcs j v ak
   ·cases ak)
  rw[jr]at jg;simpa [Builtin.firstCells]using jg
 have Nt:∀ty,(Builtin.append_ #[26,3] ty #[.slice (some ⟨b,off,none⟩) i c,.int .i64 ((n:Int)+(m:Int)-(i:Int))]).run Tryz.prog w =
   .ok (.slice (some ⟨w.heap.size,0,none⟩) (n+m) (grownCap w (n+m) c 67)) (w.drew.alloc (.cells ((cs.take (i * 39)).toArray++Builtin.zeroCells z.cells (n+m-i)++Builtin.zeroCells z.cells (grownCap w (n+m) c 67-(n+m))) 67)):=fun ty=>by
  have h:=Lib.run_append_grow_zeros w 26 3 ty 67 zo z .i64 .i64 hu T8 ke AT (some ⟨b,off,none⟩) i c (cs.take (i * 39)) hold (n+m-i) (by omega) (by rw[jz];exact Nat.zero_lt_succ _) (by omega) (by rw[CK];omega) (by rw[iC];exact Nat.le_trans (Nat.mul_le_mul_right _ (Nat.sub_le _ _)) (Nat.le_trans Ir (by decide))) (by rw[iC,CK];exact growslice_fits ho Ir);rw[CK]at h;rw[y0];exact h
 have ky:(Builtin.zeroCells z.cells (n+m-i)++Builtin.zeroCells z.cells (grownCap w (n+m) c 67-(n+m))).size=(n+m-i) * 39+(grownCap w (n+m) c 67-(n+m)) * 39:=by rw[Array.size_append,size_zeroCells,size_zeroCells,E7]
 rw[Array.append_assoc]at Nt;generalize Builtin.zeroCells z.cells (n+m-i)++Builtin.zeroCells z.cells (grownCap w (n+m) c 67-(n+m))=bO at *;have HF:n+m≤grownCap w (n+m) c 67:=grownCap_ge w _ _ _;have an9:grownCap w (n+m) c 67≤9223372036854775807:=by
  have:=grownCap_le_maxLen w (n+m) c 67 (by unfold maxLen;omega);unfold maxLen at this;omega
 generalize grownCap w (n+m) c 67=G at *;have HJ:bO.size=(n+m-i) * 39+(G-(n+m)) * 39:=ky;obtain⟨fU,zp⟩:∃fU:Array Value,fU=(cs.take (i * 39)).toArray++bO:=⟨_,rfl⟩;have Nu:(n+m) * 39≤fU.size:=by rw[zp];simp only[Array.size_append,List.size_toArray,jr,ky];omega
 rw[←zp]at Nt;obtain⟨iI,x'⟩:∃iI:Array Value,iI=(dn fU.toList (i * 39) vs).toArray:=⟨_,rfl⟩;have j5:i * 39+vs.length≤fU.size:=by rw[oO];omega
 have E8:fU.size≤iI.size:=by rw[x'];exact pt j5
 have Nv:∀W:World,W.heap=w.heap.push (.cells fU 67)→W.heap[w.heap.size]?=some (.cells fU 67 (0,0)):=fun W h=>by rw[h];simp
 have Nw:∀W:World,W.heap=w.heap.push (.cells fU 67)→∀k,k<w.heap.size→W.heap[k]?=w.heap[k]?:=fun W h k hk=>by rw[h,Array.getElem?_push_lt hk,Array.getElem?_eq_getElem hk]
 have T9:∀W:World,W.heap=w.heap.push (.cells fU 67)→∀ty nW,(Builtin.copy_ #[26,26] ty #[.slice (some ⟨w.heap.size,i * 39,none⟩) (n+m-i) nW,.slice (some ⟨vb,voff,none⟩) m vc]).run Tryz.prog W=.ok (goInt (m:Int)) (W.setRow w.heap.size iI):=fun W hW ty nW=>by
  rw[x'];exact run_copy_row W 26 26 ty 67 67 w.heap.size (i * 39) (n+m-i) nW 39 m vb voff m vc fU vs hu hs (by simp only[Nat.min_def];split<;>omega) oO
   (fun j v ak=>by rw[Cu (Nw W hW vb adu)];exact pD j v ak) (Nv W hW) j5 vy
 have T_:∀W:World,(∃AU:World,AU.heap=w.heap.push (.cells fU 67)∧W.heap=(AU.setRow w.heap.size iI).heap)→∀ty nW AS,(Builtin.copy_ #[26,26] ty #[.slice (some ⟨w.heap.size,(i+m) * 39,none⟩) (n+m-(i+m)) nW,.slice (some ⟨b,off+i * 39,none⟩) (n-i) AS]).run Tryz.prog W=.ok (goInt ((n-i:Nat):Int)) (W.setRow w.heap.size (dn iI.toList ((i+m) * 39) (cs.drop (i * 39))).toArray):=by
  rintro W ⟨AU,h1,hW⟩ ty nW AS;exact run_copy_row W 26 26 ty 67 67 w.heap.size ((i+m) * 39) (n+m-(i+m)) nW 39 (n-i) b (off+i * 39) (n-i) AS iI (cs.drop (i * 39)) hu hs (by simp only[Nat.min_def];split<;>omega) iX
   (fun j v ak=>by rw[hW,Cu (setRow_other AU w.heap.size b iI (by omega)),Cu (Nw AU h1 b adt),Nat.add_assoc];exact hcs _ v (by rwa [List.getElem?_drop]at ak))
   (by rw[hW];exact setRow_heap AU w.heap.size fU iI 67 (0,0) (Nv AU h1)) (by rw[iX];omega) (fun v hv=>E5 v (List.mem_of_mem_drop hv))
 rw[show(n+m-i) * 39+(G-(n+m)) * 39=bO.size from HJ.symm];have wC:¬(G=i):=by omega
 have aoa:¬(G=i+m):=by omega
 have Ng:¬(c=i):=by omega
 have yv:IntKind.i64.wrap ((i:Int)+(m:Int))=(i:Int)+(m:Int):=by rw[IntKind.wrap_i64];omega
 have Gh:(0:Int)≤(i:Int)+(m:Int):=by omega
 have hin:i≤n:=by omega
 have adm:((i:Int)+(m:Int)).toNat=i+m:=by omega
 have E6:(i:Int)≤(n:Int):=by omega
 have mixed:=hZ
 suffices core:Calls Tryz.prog 99 #[.slice (some ⟨b,off,none⟩) n c,.int .i64 i,.slice (some ⟨vb,voff,none⟩) m vc] w fun e w'=>e=.returned (.slice (some ⟨w.heap.size,0,none⟩) (n+m) G)∧AR w' (((w.alloc (.cells fU 67)).setRow w.heap.size iI).setRow w.heap.size (dn iI.toList ((i+m) * 39) (cs.drop (i * 39))).toArray)by
  refine core.mono fun e w' h=>⟨bO,rfl,h.1,?_⟩;have h2:=h.2;rw[x',zp]at h2;exact h2
 generalize (dn iI.toList ((i+m) * 39) (cs.drop (i * 39))).toArray=aob at *;clear y0 CK hold Nu hcs pD E5 vy hu T8 hs ke AT jz iC E7 jr iX hcl oO ky HJ j5 E8 Nv Nw zp x';have hA:=T9 (w.alloc (.cells fU 67)).drew rfl;have hB:=T_ (((w.alloc (.cells fU 67)).drew.setRow w.heap.size iI).drew) ⟨w.alloc (.cells fU 67),rfl,rfl⟩;clear T9 T_
 go_enter Tryz.func99,Tryz.ntmps99
 go_wp2_with (first
  |(at_builtin;refine Lib.wpList_append_run _ rfl _ _ _ _ rfl _ _ rfl rfl _ _ (Nt _) ?_)
  |(at_builtin;refine wpList_copy_runI _ rfl _ _ 26 26 rfl _ _ rfl rfl (hA _ _) ?_))
 go_region_law_o (refine step_copy_runI rfl _ _ 26 26 rfl _ _ (by simp[Act.eval,Act.put]) (by simp[Act.eval,Act.put]) (hB _ _ _) ?_)
 go_wp2
 go_ret
 exact⟨rfl,rfl,rfl,rfl,rfl⟩
end
set_option maxRecDepth 100000
open Go.RowKit
theorem AV{α:Type}{l vs:List α}{o:Nat}(h:o+vs.length≤l.length)(j:Nat):(dn l o vs)[j]?=if o≤j∧j<o+vs.length then vs[j-o]? else l[j]?:=by
 unfold dn;have ht:(l.take o).length=o:=by rw[List.length_take];omega
 by_cases h1:j<o
 ·rw[if_neg (by omega),List.getElem?_append_left (by omega),List.getElem?_take_of_lt h1]
 ·rw[List.getElem?_append_right (by omega),ht];by_cases h2:j<o+vs.length
  ·rw[if_pos (by omega),List.getElem?_append_left (by omega)]
  ·rw[if_neg (by omega),List.getElem?_append_right (by omega),List.getElem?_drop]
   congr 1;omega
theorem E9{w w' W:World}{mc:Option Nat}{k n T f c:Nat}{te:TypeId}{R:Array Value}{ir:List Value}(ah:AR w' W)(hB:Bel (fun x=>mc=some x∨w.heap.size≤x) w W)(cn:W.heap[T]?=some (.cells R te (0,0)))(h1:n+1≤c)(h2:c≤maxLen)(hs:f+c * k≤R.size)
  (hw:∀j,j<(n+1) * k→R[f+j]?=ir[j]?) (ax:mc=some T∨w.heap.size≤T):Nx w mc k n ir (.slice (some ⟨T,f,none⟩) (n+1) c) w':=by
 have ze:w'.heap[T]?=some (.cells R te (0,0)):=by rw[ah.1];exact cn
 refine⟨T,f,c,rfl,h1,h2,fun j ak=>?_,⟨R,te,ze,hs⟩,ax,hB.adj ah⟩;rw[←hw j ak];unfold cellAt;rw[ze]
theorem T'{cs vs:List Value}{a k:Nat}(hv:vs.length=k)(ha:a≤cs.length)(j:Nat):(cs.take a++(vs++cs.drop a))[j]?=if j<a then cs[j]? else if j<a+k then vs[j-a]? else cs[j-k]?:=by
 have ht:(cs.take a).length=a:=by rw[List.length_take];omega
 by_cases h1:j<a
 ·rw[if_pos h1,List.getElem?_append_left (by omega),List.getElem?_take_of_lt h1]
 ·rw[if_neg h1,List.getElem?_append_right (by omega),ht];by_cases h2:j<a+k
  ·rw[if_pos h2,List.getElem?_append_left (by omega)]
  ·rw[if_neg h2,List.getElem?_append_right (by omega),List.getElem?_drop]
   congr 1;omega
set_option maxHeartbeats 4000000 in
theorem adv(xs:List aa)(i:Nat)(s:aa)(hi:i≤xs.length)(hx:xs.length≤1000)(w:World)(eM js:Value)(F1:List Nat)(vb:Nat)(bh:List Nat)(aK:rep w.heap true (.sl 39 (xs.map aa.enc)) eM F1)(b8:rep w.heap true (.sl 39 [s.enc]) js (vb::bh))(j':(F1++vb::bh).Nodup) :
  Does Tryz.prog 99 #[eM,.int .i64 i,js] w fun v w'=>∃T jX,rep w'.heap true (.sl 39 ((xs.take i++s::xs.drop i).map aa.enc)) v (T::jX)∧(T::jX).Nodup∧(∀g∈jX,g∈F1.tail++bh)∧(F1.head?=some T∨w.heap.size≤T)∧Bel (fun x=>F1.head?=some x∨w.heap.size≤x) w w':=by
 have tQ:(xs.map aa.enc).length=xs.length:=lM _;have he:s.enc.length=39:=by simp[aa.enc]
 simp only[rep]at aK b8;obtain⟨a3,ja,rfl,k1,k2,dC⟩:=b8;rcases dC with ⟨dC,_⟩|⟨aoc,voff,aod,rfl,iK,Iq,Ny,fW⟩
 ·cases dC
 obtain⟨rfl,rfl⟩:=List.cons.inj iK;obtain⟨_,cur2,te2,lj,Kl⟩:=fW trivial;obtain⟨vs,g',hj,v3⟩:=Ht _ _ _ _ Ny;simp only[oW,List.length_nil,Nat.zero_add]at g' k1 Kl;have Ua:((xs.take i++s::xs.drop i).map aa.enc)=(xs.map aa.enc).take i++s.enc::(xs.map aa.enc).drop i:=by simp
 have bd:∀(mc:Option Nat) (b off:Nat) (cs:List Value) (bE:List Nat) (v:Value) (w':World),repE w.heap true b off 39 (xs.map aa.enc) bE→cs.length=xs.length * 39→(∀(j:Nat) (u:Value),cs[j]?=some u→cellAt w.heap b (off+j)=some u)→
   (∀g∈bE++bh,mc≠some g)→(bE++bh).Nodup→(∀g∈bE,g∈F1.tail)→(∀g,mc=some g→F1.head?=some g)→Nx w mc 39 xs.length (cs.take (i * 39)++(vs++cs.drop (i * 39))) v w'→
   ∃T jX,rep w'.heap true (.sl 39 ((xs.take i++s::xs.drop i).map aa.enc)) v (T::jX)∧(T::jX).Nodup∧(∀g∈jX,g∈F1.tail++bh)∧(F1.head?=some T∨w.heap.size≤T)∧Bel (fun x=>F1.head?=some x∨w.heap.size≤x) w w':=by
  intro mc b off cs bE v w' cH bg bT bY eV mS kP aI;obtain⟨T,jX,c5,cS,fQ,ju⟩:=adw tQ hi cH Ny bg bT (by rw[g',Nat.one_mul]) hj (fun g hg=>⟨by
   rcases List.mem_append.1 hg with h|h
   ·exact wG _ _ _ _ _ cH g h
   ·exact wG _ _ _ _ _ Ny g h,bY g hg⟩) eV aI
  obtain⟨_,_,_,_,_,_,_,_,_,hB⟩:=aI;refine⟨T,jX,by rw[Ua];exact c5,cS,fun g hg=>?_,?_,hB.mono fun k hk=>?_⟩
  ·rcases List.mem_append.1 (fQ g hg)with h|h
   ·exact List.mem_append_left _ (mS g h)
   ·exact List.mem_append_right _ h
  ·rcases ju with h|h
   ·exact .inl (kP T h)
   ·exact .inr h
  ·rcases hk with h|h
   ·exact .inl (kP k h)
   ·exact .inr h
 refine Does.enter (Tryz.call99 _ _) ?_;obtain⟨bD,c1,rfl,fR,gw,t'⟩:=aK;rw[tQ]at fR;have aoe:(1:Nat) * 39=39:=Nat.one_mul _;have Is:(xs.length+1) * 352≤140737488355328:=Nat.le_trans (Nat.mul_le_mul_right _ (show xs.length+1≤1001 by omega)) (by decide);have CK:i * 39≤xs.length * 39:=Nat.mul_le_mul_right _ hi;have o5:(xs.length+1) * 39=xs.length * 39+39:=by rw[Nat.add_mul,Nat.one_mul]
 have AW:(i+1) * 39=i * 39+39:=by rw[Nat.add_mul,Nat.one_mul]
 rw[tQ];rcases t' with ⟨t',rfl,D5⟩|⟨b,off,bE,rfl,rfl,hb,E_,adx⟩
 ·
  have gv:xs=[]:=List.map_eq_nil_iff.1 t';have h0:=D5 trivial;subst gv h0;obtain rfl:i=0:=by simpa using hi
  simp only[List.length_nil,Nat.zero_add]at fR Is bd⊢;have ady:bh.Nodup:=by rw[bn,List.nodup_cons]at j';exact j'.2
  refine(T7 (cs:=[]) (vs:=vs) (n:=0) (c:=0) (m:=1) bD (by omega) (by omega) (by omega) Is (by simp) (by rw[g']) (fun _=>rfl) (fun _ _ j v ak=>by simp at ak) hj v3).mono ?_;rintro e w' ⟨bO,ky,rfl,ah⟩;have bw:=grownCap_ge w (0+1) 0 67;have xw:=grownCap_le_maxLen w (0+1) 0 67 (by unfold maxLen;omega);refine bd none 0 0 [] [] _ _ (by simp[repE]) (by simp) (by simp) (by simp) (by simpa using ady) (by simp) (by simp) (E9 (R:=([]++vs).toArray++bO) ah (Ax (Bel.refl _ _) (fun k hk=>.inr hk) _) (te:=67) (by show(w.heap.push _)[w.heap.size]?=_;simp) bw xw ?_ ?_ (.inr (Nat.le_refl _)))
  ·simp only[bn,Array.size_append,List.size_toArray,g',ky];omega
  ·intro j ak;rw[T' (k:=39) (by omega) (by simp),if_neg (by omega),if_pos (by omega),Array.getElem?_append_left (by simp;omega)];simp
 ·obtain⟨wJ,cur,te,hg,hf⟩:=adx trivial;obtain⟨cs,eM,u2,js⟩:=Ht _ _ _ _ E_;rw[tQ]at eM;have hne:vb≠b:=by rintro rfl;simp at j'
  have It:(bE++bh).Nodup:=by
   refine List.Nodup.sublist ?_ j';exact List.Sublist.append (List.sublist_cons_self _ _) (List.sublist_cons_self _ _)
  have Ub:∀g∈bE++bh,(some b:Option Nat)≠some g:=by
   intro g hg h
   cases h
   rw[bf,List.nodup_cons]at j';refine j'.1 ?_;rcases List.mem_append.1 hg with h|h
   ·exact List.mem_append_left _ h
   ·exact List.mem_append_right _ (List.mem_cons_of_mem _ h)
  have adz:∀(j:Nat) (u:Value),cs[j]?=some u→w.cell? ((⟨b,off,none⟩:Addr).add j)=some u:=fun j u ak=>by rw[add_lit,cell_eq];exact u2 j u ak
  have hw:=fun j=>T' (cs:=cs) (vs:=vs) (a:=i * 39) (k:=39) (by omega) (by omega) j;have Uc:∀j,j<xs.length * 39→cur[off+j]?=cs[j]?:=fun j ak=>by
   have:=u2 j cs[j] (dg (by omega));unfold cellAt at this;rw[hg]at this;rw[dg (by omega)];exact this
  have CL:cur.toList.length=cur.size:=Array.length_toList;have E':∀a c:Nat,a≤c→a * 39≤c * 39:=fun a c h=>Nat.mul_le_mul_right _ h;by_cases ho:xs.length+1≤c1
  ·have hcc:=E' _ _ ho;by_cases hin:i=xs.length
   ·subst hin;refine(adq (w:=w) (b:=b) (off:=off) (n:=xs.length) (c:=c1) (m:=1) (vb:=vb) (voff:=voff) (vc:=ja) (vs:=vs) (cur:=cur) (te:=te) (by omega) ho gw g' hg hf hj v3).mono ?_;rintro e w' ⟨rfl,ah⟩;have kT:off+xs.length * 39+vs.length≤cur.toList.length:=by rw[CL];omega
    refine bd (some b) b off cs bE _ _ E_ eM u2 Ub It (fun g h=>h) (fun g h=>by cases h;rfl) (E9 ah (wo (Bel.refl _ _) (.inl rfl) hg (pt (by rw[CL]at kT;exact kT))) (setRow_heap w b cur _ te (0,0) hg) ho gw ?_ ?_ (.inl rfl))
    ·exact Nat.le_trans hf (pt (by rw[CL]at kT;exact kT))
    ·intro j ak;rw[hw,List.getElem?_toArray,AV kT];by_cases h1:j<xs.length * 39
     ·rw[if_neg (by omega),if_pos h1,Array.getElem?_toList,Uc j h1]
     ·rw[if_pos (by omega),if_neg h1,if_pos (by omega)]
      congr 1;omega
   ·have hlt:i<xs.length:=by omega
    have LY:=E' _ _ (show i+1≤xs.length from hlt);refine(adk (w:=w) (b:=b) (off:=off) (n:=xs.length) (c:=c1) (i:=i) (m:=1) (vb:=vb) (voff:=voff) (vc:=ja) (cs:=cs) (vs:=vs) (cur:=cur) (te:=te) (cur2:=cur2) (te2:=te2) hlt (by omega) ho gw hne eM g' hg hf lj u2 hj js v3).mono ?_;rintro e w' ⟨rfl,ah⟩;have iX:(cs.drop (i * 39)).length=xs.length * 39-i * 39:=by rw[List.length_drop,eM]
    have j5:off+(i+1) * 39+(cs.drop (i * 39)).length≤cur.toList.length:=by rw[CL,iX,AW];omega
    have jU:=pt (cs:=cur) (f:=off+(i+1) * 39) (us:=cs.drop (i * 39)) (by rw[CL]at j5;exact j5);have lr:=setRow_heap w b cur (dn cur.toList (off+(i+1) * 39) (cs.drop (i * 39))).toArray te (0,0) hg;have Nz:=wo (w0:=w) (B:=fun x=>(some b:Option Nat)=some x∨w.heap.size≤x) (Bel.refl _ _) (.inl rfl) hg jU;have xG:(dn cur.toList (off+(i+1) * 39) (cs.drop (i * 39))).length=cur.size:=by rw[xK j5,CL]
    have Fa:off+i * 39+vs.length≤(dn cur.toList (off+(i+1) * 39) (cs.drop (i * 39))).length:=by rw[xG];omega
    have jc:=pt (cs:=(dn cur.toList (off+(i+1) * 39) (cs.drop (i * 39))).toArray) (f:=off+i * 39) (us:=vs) (by rw[List.size_toArray];exact Fa);refine bd (some b) b off cs bE _ _ E_ eM u2 Ub It (fun g h=>h) (fun g h=>by cases h;rfl) (E9 ah (wo Nz (.inl rfl) lr jc) (setRow_heap _ b _ _ te (0,0) lr) ho gw ?_ ?_ (.inl rfl))
    ·exact Nat.le_trans hf (Nat.le_trans jU jc)
    ·intro j ak;rw[hw,List.getElem?_toArray,AV (by simpa using Fa)];by_cases h1:j<i * 39
     ·rw[if_neg (by omega),if_pos h1,List.toList_toArray,AV j5,if_neg (by omega),Array.getElem?_toList,Uc j (by omega)]
     ·by_cases h2:j<i * 39+39
      ·rw[if_pos (by omega),if_neg h1,if_pos h2]
       congr 1;omega
      ·rw[if_neg (by omega),if_neg h1,if_neg h2,List.toList_toArray,AV j5,if_pos (by omega),List.getElem?_drop]
       congr 1;omega
  ·by_cases hin:i=xs.length
   ·subst hin;refine(T7 (w:=w) (cs:=cs) (vs:=vs) (n:=xs.length) (c:=c1) (m:=1) (vb:=vb) (voff:=voff) (vc:=ja) (some ⟨b,off,none⟩) (by omega) fR (by omega) Is eM g' (fun h=>by cases h) (fun a h j u ak=>by cases h;exact adz j u ak) hj v3).mono ?_;rintro e w' ⟨bO,ky,rfl,ah⟩;have bw:=grownCap_ge w (xs.length+1) c1 67;have xw:=grownCap_le_maxLen w (xs.length+1) c1 67 (by unfold maxLen;omega);refine bd none b off cs bE _ _ E_ eM u2 (by simp) It (fun g h=>h) (by simp) (E9 (R:=(cs++vs).toArray++bO) ah (Ax (Bel.refl _ _) (fun k hk=>.inr hk) _) (te:=67) (by show(w.heap.push _)[w.heap.size]?=_;simp) bw xw ?_ ?_ (.inr (Nat.le_refl _)))
    ·have:=E' _ _ bw;have aj:(grownCap w (xs.length+1) c1 67-(xs.length+1)) * 39=grownCap w (xs.length+1) c1 67 * 39-(xs.length+1) * 39:=Nat.sub_mul _ _ _;simp only[Array.size_append,List.size_toArray,List.length_append,eM,g',ky,aj];omega
    ·intro j ak;rw[hw,Nat.zero_add,Array.getElem?_append_left (by simp;omega),List.getElem?_toArray];by_cases h1:j<xs.length * 39
     ·rw[if_pos h1,List.getElem?_append_left (by omega)]
     ·rw[if_neg h1,if_pos (by omega),List.getElem?_append_right (by omega),eM]
   ·have hlt:i<xs.length:=by omega
    have LY:=E' _ _ (show i+1≤xs.length from hlt);refine(ads (w:=w) (b:=b) (off:=off) (n:=xs.length) (c:=c1) (i:=i) (m:=1) (vb:=vb) (voff:=voff) (vc:=ja) (cs:=cs) (vs:=vs) hlt (by omega) fR (by omega) Is eM g' hb Iq u2 hj js v3).mono ?_;rintro e w' ⟨bO,ky,rfl,ah⟩;have bw:=grownCap_ge w (xs.length+1) c1 67;have xw:=grownCap_le_maxLen w (xs.length+1) c1 67 (by unfold maxLen;omega);have aof:=E' _ _ bw;have aj:(grownCap w (xs.length+1) c1 67-(xs.length+1)) * 39=grownCap w (xs.length+1) c1 67 * 39-(xs.length+1) * 39:=Nat.sub_mul _ _ _;have aD:(xs.length+1-i) * 39=(xs.length+1) * 39-i * 39:=Nat.sub_mul _ _ _;have jr:(cs.take (i * 39)).length=i * 39:=by rw[List.length_take,eM];omega
    have iX:(cs.drop (i * 39)).length=xs.length * 39-i * 39:=by rw[List.length_drop,eM]
    obtain⟨fU,zp⟩:∃fU:Array Value,fU=(cs.take (i * 39)).toArray++bO:=⟨_,rfl⟩;have E8:fU.size=grownCap w (xs.length+1) c1 67 * 39:=by rw[zp];simp only[Array.size_append,List.size_toArray,jr,ky,aj,aD];omega
    have NA:fU.toList.length=fU.size:=Array.length_toList;have Ud:∀j,j<i * 39→fU.toList[j]?=cs[j]?:=fun j ak=>by rw[zp,Array.getElem?_toList,Array.getElem?_append_left (by simp;omega),List.getElem?_toArray,List.getElem?_take_of_lt ak]
    rw[←zp]at ah;have j5:i * 39+vs.length≤fU.toList.length:=by rw[NA,E8];omega
    have jU:=pt (cs:=fU) (f:=i * 39) (us:=vs) (by rw[NA]at j5;exact j5);have CM:(w.alloc (.cells fU 67)).heap[w.heap.size]?=some (.cells fU 67 (0,0)):=by show(w.heap.push _)[w.heap.size]?=_;simp
    have lr:=setRow_heap (w.alloc (.cells fU 67)) w.heap.size fU (dn fU.toList (i * 39) vs).toArray 67 (0,0) CM;have adA:=Ax (w0:=w) (B:=fun x=>(none:Option Nat)=some x∨w.heap.size≤x) (Bel.refl _ _) (fun k hk=>.inr hk) (.cells fU 67);have Nz:=wo adA (.inr (Nat.le_refl _)) CM jU;have xG:(dn fU.toList (i * 39) vs).length=fU.size:=by rw[xK j5,NA]
    have Fa:(i+1) * 39+(cs.drop (i * 39)).length≤(dn fU.toList (i * 39) vs).length:=by rw[xG,iX,E8,AW];omega
    have jc:=pt (cs:=(dn fU.toList (i * 39) vs).toArray) (f:=(i+1) * 39) (us:=cs.drop (i * 39)) (by rw[List.size_toArray];exact Fa);refine bd none b off cs bE _ _ E_ eM u2 (by simp) It (fun g h=>h) (by simp) (E9 ah (wo Nz (.inr (Nat.le_refl _)) lr jc) (setRow_heap _ w.heap.size _ _ 67 (0,0) lr) bw xw ?_ ?_ (.inr (Nat.le_refl _)))
    ·rw[Nat.zero_add,←E8];exact Nat.le_trans jU jc
    ·intro j ak;rw[hw,Nat.zero_add,List.getElem?_toArray,AV (by simpa using Fa)];by_cases h1:j<i * 39
     ·rw[if_neg (by omega),if_pos h1,List.toList_toArray,AV j5,if_neg (by omega),Ud j h1]
     ·by_cases h2:j<i * 39+39
      ·rw[if_neg (by omega),if_neg h1,if_pos h2,List.toList_toArray,AV j5,if_pos (by omega)]
      ·rw[if_pos (by omega),if_neg h1,if_neg h2,List.getElem?_drop]
       congr 1;omega
set_option maxRecDepth 100000
open Go.RowKit
theorem Ue{B:Nat→Prop}{w0:World}{aJ:Nat→Prop}{φ:ca}{σ:St}{kp:List (V×Value)}{a:Act}{w:World}(r:R B w0 aJ φ σ kp a w){id sz n:Nat}{xs:List (List D)}{u:Value}(hx:aG σ.heap id=.ai sz xs true∨aG σ.heap id=.af sz xs)(hn:n=xs.length)
  (v:VRel φ (cb φ σ.heap) w.heap (.sl id 0 n) u):∃β F,φ id=some β∧rep w.heap true (.sl sz xs) u F∧F.Nodup∧(∀g∈F,cJ φ σ.heap id g)∧∀g,F.head?=some g→jw (aG σ.heap id) β g:=by
 simp only[VRel]at v;obtain⟨β,ad,c,dw,rfl,vj,nH⟩:=v;subst hn;have fH:(aG σ.heap id).own=true:=by rcases hx with h|h<;>rw[h]<;>rfl
 have xJ:(aG σ.heap id).my=true:=H.HX fH;have fW:=r.eK id β dw fH;have hr:β.sz=sz∧((β.dJ=none∧xs=[]∧β.cap=0∧β.cN=[])∨∃b,β.dJ=some b∧xs.length≤β.cap∧l6 w.heap b (β.off+β.cap * sz)∧repE w.heap true b β.off sz xs β.cN):=by
  rcases r.hp id with hd|⟨a1,e,hr⟩
  ·rw[hd]at fH;cases fH
  ·rw[dw]at e;cases e;rcases hx with h|h
   ·rw[h]at hr;simp only[dD]at hr;obtain⟨h1,h2⟩:=hr;refine⟨h1,?_⟩;rcases h2 with h2|⟨b,G,cH,bg,bT,bY,eV,_⟩
    ·exact .inl h2
    ·exact .inr ⟨b,cH,bg,bT,(eV trivial)▸bY⟩
   ·rw[h]at hr;simp only[dD]at hr;exact hr
 obtain⟨cB,hr⟩:=hr;have nil:xs=[]→c=0→∃β F,φ id=some β∧rep w.heap true (.sl sz xs) (.slice ad xs.length c) F∧F.Nodup∧(∀g∈F,cJ φ σ.heap id g)∧∀g,F.head?=some g→jw (aG σ.heap id) β g:=by
  intro h0 hc;refine⟨β,[],dw,?_,List.nodup_nil,by simp,by simp⟩;simp only[rep];exact⟨ad,c,rfl,by rw[h0];simp,vj,.inl ⟨h0,trivial,fun _=>hc⟩⟩
 rcases hr with ⟨_,h2,aj,_⟩|⟨b,h1,h2,aj,aD⟩
 ·rcases nH with ⟨z,_,_⟩|⟨dc,z,_⟩
  ·exact nil h2 z
  ·simp_all
 ·rcases nH with ⟨z,kC,_⟩|⟨dc,z,kC,z3,z4⟩
  ·exact nil (List.length_eq_zero_iff.1 kC) z
  ·rw[h1]at z;cases z;by_cases hc:c=0
   ·exact nil (List.length_eq_zero_iff.1 (by omega)) hc
   ·refine⟨β,b::β.cN,dw,?_,List.nodup_cons.2 ⟨fW.2 b h1,fW.1⟩,fun g hg=>?_,fun g hg=>?_⟩
    ·simp only[rep];rw[Nat.zero_mul,Nat.add_zero]at kC;exact⟨ad,c,rfl,z3,vj,.inr ⟨b,β.off,β.cN,kC,rfl,aj.lt,aD,fun _=>⟨by omega,by rw[show c=β.cap by omega];exact aj⟩⟩⟩
    ·rcases List.mem_cons.1 hg with rfl|hg
     ·exact⟨β,dw,.inl ⟨xJ,h1⟩⟩
     ·exact⟨β,dw,.inr ⟨fH,hg⟩⟩
    ·simp only[List.head?_cons,uB]at hg;subst hg;exact .inl ⟨xJ,h1⟩
theorem NB{hs:List H}{i:Nat}{x:H}(h:i<hs.length):(bI hs i x).length=hs.length:=by unfold bI;rw[if_pos h,List.length_set]
theorem adB(hs:List H)(x:H)(j:Nat):aG (hs++[x]) j=if j=hs.length then x else aG hs j:=by
 unfold aG;simp only[List.getD_eq_getElem?_getD];by_cases h1:j<hs.length
 ·rw[List.getElem?_append_left h1,if_neg (by omega)]
 ·rw[List.getElem?_append_right (by omega)];by_cases h2:j=hs.length
  ·rw[if_pos h2,h2];simp
  ·rw[if_neg h2,List.getElem?_eq_none (by simp;omega),List.getElem?_eq_none (by omega)]
set_option maxHeartbeats 4000000 in
theorem Uf(xs:List aa)(i:Nat)(s:aa)(hi:i≤xs.length)(hx:xs.length≤1000){kv:List V}{hs:List H}{lO oP:Nat}(h1:aG hs lO=.ai 39 (xs.map aa.enc) true∨aG hs lO=.af 39 (xs.map aa.enc))(h2:aG hs oP=.ai 39 [s.enc] true)(hne:lO≠oP){K:V→List H→Prop}
  (bF:K (.sl hs.length 0 (xs.length+1)) (bI (bI hs lO .cF) oP .cF++[.ai 39 ((xs.take i++s::xs.drop i).map aa.enc) true])):dj Tryz.prog 99 kv hs [.sl lO 0 xs.length,.d (.int .i64 i),.sl oP 0 1] K:=by
 intro B w0 kp us w br Lq;obtain⟨aJ,φ,r,bz⟩:=Lq;have Ug:=r.gJ;simp only[VRels]at Ug;obtain⟨eM,Tc,ag,g',u2,us2,rfl,hj,js,aog,rfl,v3,rfl⟩:=Ug;obtain rfl:us=[eM,u2,js]:=ag;simp only[VRel,rep]at hj;obtain⟨_,⟨rfl,_⟩,_⟩:=hj;obtain⟨Cq,F1,dw,aK,lH,dy,fF⟩:=Ue r h1 (by simp) g';obtain⟨adC,F3,f3,b8,ug,eL,_⟩:=Ue r (sz:=39) (xs:=[s.enc]) (.inl h2) rfl v3;obtain⟨vb,bh,rfl⟩:∃vb bh,F3=vb::bh:=by
  simp only[rep]at b8;obtain⟨_,_,_,_,_,h|⟨b,_,G,_,h,_⟩⟩:=b8
  ·cases h.1
  ·exact⟨b,G,h⟩
 have j':(F1++vb::bh).Nodup:=List.nodup_append.2 ⟨lH,ug,fun a ha b hb e=>hne (r.dy lO oP a (dy a ha) (e▸eL b hb))⟩;have fl:=fun i β e=>bz i (r.fl i β e);have fR:lO<hs.length:=fl lO Cq dw;have gw:oP<hs.length:=fl oP adC f3;refine(adv xs i s hi hx w eM js F1 vb bh aK b8 j').mono ?_;rintro v w' ⟨T,jX,c5,cS,fQ,ju,px⟩;refine⟨_,_,bF,?_⟩;have hlen:((xs.take i++s::xs.drop i).map aa.enc).length=xs.length+1:=by simp;omega
 simp only[rep]at c5;obtain⟨ad,c,rfl,cH,bg,bT⟩:=c5;rcases bT with ⟨bT,_⟩|⟨b,f,G,rfl,bY,hb,adD,ax⟩
 ·rw[bT]at hlen;simp at hlen
 obtain⟨rfl,rfl⟩:=List.cons.inj bY;obtain⟨wJ,ho⟩:=ax trivial;rw[hlen]at cH;obtain⟨a1,pg⟩:∃a1:gd,a1=⟨some T,f,c,39,jX⟩:=⟨_,rfl⟩;obtain⟨X,b_⟩:∃X:H,X=.ai 39 ((xs.take i++s::xs.drop i).map aa.enc) true:=⟨_,rfl⟩;rw[←b_];obtain⟨hs',AE⟩:∃hs',hs'=bI (bI hs lO .cF) oP .cF++[X]:=⟨_,rfl⟩;have fx:(bI (bI hs lO .cF) oP .cF).length=hs.length:=by rw[NB (by rw[NB fR];exact gw),NB fR]
 have hg:∀j,aG hs' j=if j=hs.length then X else if j=oP then .cF else if j=lO then .cF else aG hs j:=fun j=>by
  rw[AE,adB,fx,gF,gF]
 rw[←AE];have y6:φ hs.length=none:=by
  cases h:φ hs.length with
  |none=>rfl
  |some β=>exact absurd (fl _ _ h) (Nat.lt_irrefl _)
 have pd:aG hs' hs.length=X:=by rw[hg,if_pos rfl]
 have g1:aG hs' lO=.cF:=by rw[hg,if_neg (by omega)];split<;>simp
 have cx:aG hs' oP=.cF:=by rw[hg,if_neg (by omega),if_pos rfl]
 have gq:cK φ hs.length a1 hs.length=some a1:=by unfold cK;rw[if_pos rfl]
 have cU:∀j,j≠hs.length→cK φ hs.length a1 j=φ j:=fun j ak=>by unfold cK;rw[if_neg ak]
 have ub:∀j,j=lO∨j=oP→∀b,¬cJ (cK φ hs.length a1) hs' j b:=by
  rintro j ak b ⟨β,_,ax⟩;have:aG hs' j=.cF:=by rcases ak with rfl|rfl;exact g1;exact cx
  rw[this]at ax;rcases ax with ⟨h,_⟩|⟨h,_⟩<;>cases h
 have hnew:∀b,cJ (cK φ hs.length a1) hs' hs.length b→b=T∨b∈jX:=by
  rintro b ⟨β,e,ax⟩;rw[gq]at e;cases e;rw[pg]at ax;rcases ax with ⟨_,h⟩|⟨_,h⟩
  ·exact .inl (ob h).symm
  ·exact .inr h
 have Uh:∀g,F1.head?=some g→g∈F1:=fun g hg=>List.mem_of_head? hg;have master:=wx r (fun j=>j=lO∨j=oP∨j=hs.length) (fun j=>aJ j∨j=hs.length) (cK φ hs.length a1) hs' w'
  (fun j ak=>by
   simp only[not_or]at ak;exact⟨by rw[hg,if_neg ak.2.2,if_neg ak.2.1,if_neg ak.1],cU j ak.2.2⟩)
  (fun j β e=>by
   by_cases ak:j=hs.length
   ·subst ak;rw[y6]at e;cases e
   ·exact⟨β,by rw[cU j ak];exact e,rfl,rfl,rfl,rfl⟩)
  px.size
  (fun b hb ht=>px.block b fun h=>by
   rcases h with h|h
   ·exact ht lO (.inl rfl) Cq dw (fF b h)
   ·omega)
  (fun j ak b ax=>by
   rcases ak with rfl|rfl|rfl
   ·exact absurd ax (ub _ (.inl rfl) b)
   ·exact absurd ax (ub _ (.inr rfl) b)
   ·rcases hnew b ax with rfl|h
    ·rcases ju with h|h
     ·exact .inr ⟨lO,.inl rfl,dy _ (Uh _ h)⟩
     ·exact .inl h
    ·rcases List.mem_append.1 (fQ b h)with h|h
     ·exact .inr ⟨lO,.inl rfl,dy b (List.mem_of_mem_tail h)⟩
     ·exact .inr ⟨oP,.inr (.inl rfl),eL b (List.mem_cons_of_mem _ h)⟩)
  (fun j ak β e b ht=>by
   have ax:=jw.wD e ht;rcases ak with rfl|rfl|rfl
   ·exact absurd ax (ub _ (.inl rfl) b)
   ·exact absurd ax (ub _ (.inr rfl) b)
   ·rw[gq]at e;cases e;rw[pd,b_,pg]at ht;rcases ht with ⟨_,h⟩|⟨h,_⟩
    ·obtain rfl:=ob h;rcases ju with h|h
     ·exact .inr ⟨lO,Cq,.inl rfl,dw,fF _ h⟩
     ·exact .inl h
    ·cases h)
  (fun j k b ak hk aj aD=>by
   rcases ak with rfl|rfl|rfl
   ·exact absurd aj (ub _ (.inl rfl) b)
   ·exact absurd aj (ub _ (.inr rfl) b)
   ·rcases hk with rfl|rfl|rfl
    ·exact absurd aD (ub _ (.inl rfl) b)
    ·exact absurd aD (ub _ (.inr rfl) b)
    ·rfl)
  (fun j β ak e fH=>by
   rcases ak with rfl|rfl|rfl
   ·rw[g1]at fH;cases fH
   ·rw[cx]at fH;cases fH
   ·rw[gq]at e;cases e;rw[pg];rw[List.nodup_cons]at cS;exact⟨cS.2,fun b hb=>by obtain rfl:=ob hb;exact cS.1⟩)
  (fun j ak=>by
   rcases ak with rfl|rfl|rfl
   ·exact .inl g1
   ·exact .inl cx
   ·refine .inr ⟨a1,gq,?_⟩;rw[pd,b_,pg];simp only[dD];exact⟨trivial,.inr ⟨T,jX,rfl,by rw[hlen];exact cH,ho,adD,fun _=>rfl,fun h=>by cases h⟩⟩)
  (fun j β e=>by
   by_cases ak:j=hs.length
   ·exact .inr ak
   ·rw[cU j ak]at e;exact .inl (r.fl j β e))
  (r.fm.trans (px.mono fun x hx=>by
   rcases hx with h|h
   ·exact r.eL lO x (dy x (Uh x h))
   ·exact r.bs x h))
 refine⟨_,_,⟨?_,master.kp,master.hp,master.dy,master.eK,master.eL,master.fl,master.fm,master.bs,rfl,master.kE⟩,fun j ak=>?_⟩
 ·simp only[VRels];refine⟨_,[],rfl,?_,rfl⟩;simp only[VRel];refine⟨a1,some ⟨T,f,none⟩,c,gq,by rw[hlen],bg,.inr ⟨T,by rw[pg],by rw[pg];simp,cH,by rw[pg];simp⟩⟩
 ·show j<hs'.length
  rw[AE,List.length_append,fx];rcases ak with h|h
  ·have:=bz j h;simp only[oW,List.length_nil];simp only at this;omega
  ·rw[h];simp
section
variable {P:Program} {kv:List V} {c:Code} {σ:St} {K:St→Prop} {X:List (Nat×(St→Prop))} {cc:St→Prop}
theorem uP(hm:P.follows .mixedOrders=true)(k:Nat)(h:codeE P kv (headC k c) σ (bx (fun σ'=>gk P kv (w1 k c) σ' K X cc) .mk) X cc):gk P kv c σ K X cc:=OT hm k c σ h fun _ h=>h
theorem W9{σ':St}(hs:pA σ σ')(h:gk P kv c σ' K X cc):gk P kv c σ K X cc:=fun B w0 kp Q a w br bF b_ aI r=>h B w0 kp Q a w br bF b_ aI (HQ hs r)
theorem zW(id bU:Nat)(h:openE id bU σ (bx (fun ln=>gk P kv c ln K X cc) .mk)):gk P kv c σ K X cc:=by
 obtain⟨ln,h1,h2⟩:=Mx h;exact W9 h1 h2
theorem uQ(id:Nat)(h:closeE id σ (bx (fun ln=>gk P kv c ln K X cc) .mk)):gk P kv c σ K X cc:=by
 obtain⟨ln,h1,h2⟩:=abA h;exact W9 h1 h2
end
section
variable {P:Program} {kv:List V} {c x y:Code} {σ:St} {K:St→Prop} {X:List (Nat×(St→Prop))} {cc:St→Prop}
theorem afQ{K1:St→Prop}(h1:gk P kv x σ K1 X cc)(h2:∀σ',K1 σ'→gk P kv y σ' K X cc):gk P kv (.seq x y) σ K X cc:=by
 intro B w0 kp Q a w br bF b_ aI r;exact wp_seq (h1 B w0 kp _ a w br (fun σ' a' w' h' cW=>h2 σ' h' B w0 kp Q a' w' br bF b_ aI cW) (fun id σ' a' w' h' cW=>b_ id σ' a' w' h' cW) (fun σ' a' w' h' cW=>aI σ' a' w' h' cW) r)
theorem afR{o:Operand}{b:Bool}(hv:σ.ev o=.d (.bool b))(h:gk P kv (if b then x else y) σ K X cc):gk P kv (.cond o x y) σ K X cc:=by
 intro B w0 kp Q a w br bF b_ aI r;obtain⟨aJ,φ,r0,bz⟩:=r;have xT:=xy r0 o;rw[hv]at xT;simp only[VRel,rep]at xT;obtain⟨F,⟨he,_⟩,_⟩:=xT;exact wp_cond he (h B w0 kp Q a w br bF b_ aI ⟨aJ,φ,r0,bz⟩)
end
set_option maxRecDepth 100000
def Bb(id:Int)(s:aa):Bool:=decide (id<s.id)
theorem VL{s:aa}:∀(l:List aa) (i:Nat),i≤l.length→(l.take i).any (Bb s.id)=false→(∀h:i<l.length,Bb s.id l[i]=true)→insA s l=l.take i++s::l.drop i
 |[],i,hi,_,_=>by simp[insA]
 |x::l,0,_,_,h=>by
  have:=h (by simp);simp only[Bb,List.getElem_cons_zero,il]at this;simp[insA,this]
 |x::l,i+1,hi,h1,h2=>by
  simp only[List.take_succ_cons,List.any_cons,Bool.or_eq_false_iff]at h1;have hx:¬s.id<x.id:=by simpa [Bb]using h1.1
  rw[insA,if_neg hx,VL l i (by simpa using hi) h1.2 (fun h=>by have:=h2 (by simpa using h);simpa using this)];simp
theorem afO{l:List aa}(hl:l.length≤30)(hz:∀x∈l,dT x):l.length+k_ aa.dO l≤4194304:=by
 have:=BK aa.dO 101300 l fun x hx=>Qo (hz x hx);omega
theorem afP{l:List aa}{s:aa}{i:Nat}(h:fIx (ed s.id) l=(i:Int))(hi:i<l.length):putS l s=l.take i++s::l.drop (i+1):=by
 rw[Dx h,List.set_eq_take_append_cons_drop,if_pos hi]
set_option maxHeartbeats 8000000 in
theorem ae1(l:List aa)(s:aa)(hl:l.length≤30)(hz:∀x∈l,dT x)(hs:dT s):PureCall Tryz.prog 40 [.one (.sl 39 (l.map aa.enc)),.agg (aa.enc s)] [.one (.sl 39 (((putS l s)).map aa.enc))]:=by
 refine tC 35 Tryz.func40 Tryz.call40 [.tmp 4] ?_;intro ok;clear ok;obtain⟨cU,c9,cq,dd⟩:=hs;have KH:=PQ l (afO hl hz);have DE:=By l s.id;rcases ox (ed s.id) l with ⟨h1,_⟩|⟨i,hi,h1,_,_⟩
 ·rw[h1]at DE;have ag:decide ((0:Int)≤-1)=false:=by decide
  have e2:decide ((-1:Int)<0)=true:=by decide
  have hm:l.length≤maxLen:=by simp only[maxLen];omega
  have bI:∀i,i≤l.length→(l.take i).any (Bb s.id)=false→(∀h:i<l.length,Bb s.id l[i]=true)→putS l s=l.take i++s::l.drop i:=fun i h2 aj aD=>by rw[Of h1,VL l i h2 aj aD]
  refine gO hZ ?_
  try simp only[go_sem]
  repeat'(first|((first|refine ae.af (by assumption) ?_|refine ao.af (by assumption) ?_)<;>simp only[go_sem,lM])|(with_reducible refine al ?_)|fail)
  refine ae.inl (en (n:=19) (rs:=[.tmp 4]) Tryz.func51 rfl Tryz.call51 hZ rfl rfl ?_);simp only[go_sem,lM];refine b5.intro (fun i:Nat=>⟨(.d (.sl 39 (l.map aa.enc))::.fn 98 [.ptr 0 0 0]::.J::.J::.d (.int .i64 0)::.J::.J::.d (.int .i64 l.length)::.d (.int .i64 i)::jn 10 []),[.box (aa.bM s),.af 39 (l.map aa.enc)]⟩)
   (fun i=>l.length-i) (fun i=>i≤l.length∧(l.take i).any (Bb s.id)=false) 0 [0,1] ⟨by omega,by simp⟩ ?_ ?_
  ·simp only[go_sem];simp
  ·rintro i ⟨hi,he⟩;by_cases h2:i<l.length
   ·have gW:decide ((i:Int)<(l.length:Int))=true:=bc (by omega);have av:=bZ aa.enc l i h2;have hw:=dv h2 hm;simp only[go_sem,lM,aF,av,aa.enc,gW];refine⟨⟨by omega,by omega⟩,?_⟩;refine ae.inl (en (n:=9) (rs:=[.tmp 3]) Tryz.func98 rfl Tryz.call98 hZ rfl rfl ?_);simp only[go_sem];refine bp (fun h=>?_) (fun h=>?_)
    ·have aY:decide ((i:Int)<0)=false:=a_ (by omega);have hp:=bI i hi he fun _=>h
     try simp only[go_sem,aY]
     repeat'(first|((first|refine ae.intro (by first|assumption|(apply DJ<;>first|assumption|omega)) ?_|refine ao.intro (by assumption) ?_)<;>simp only[go_sem,lM])|(with_reducible refine al ?_)|fail)
     refine ae.inl (Uf l i s (by omega) (by omega) (.inr rfl) rfl (by decide) ?_);simp only[go_sem];have cg:((l.take i++s::l.drop i).map aa.enc).length=l.length+1:=by simp;omega
     rw[hp,if_pos (Nat.le_of_eq cg.symm),List.take_of_length_le (Nat.le_of_eq cg)];simp[outOA]
    ·simp only[go_sem,hw];refine bm.intro (i+1) [0,1] ⟨by omega,zL _ l i h2 he h⟩ (by omega) ?_;simp only[go_sem];simp
   ·have gW:decide ((i:Int)<(l.length:Int))=false:=a_ (by omega);obtain rfl:i=l.length:=by omega
    have hp:=bI l.length hi he fun h=>absurd h (Nat.lt_irrefl _);simp only[go_sem,lM,gW]
    try simp only[go_sem,lM,e2]
    repeat'(first|((first|refine ae.intro (by first|assumption|(apply DJ<;>first|assumption|omega)) ?_|refine ao.intro (by assumption) ?_)<;>simp only[go_sem,lM])|(with_reducible refine al ?_)|fail)
    refine ae.inl (Uf l l.length s (by omega) (by omega) (.inr rfl) rfl (by decide) ?_);simp only[go_sem];have cg:((l.take l.length++s::l.drop l.length).map aa.enc).length=l.length+1:=by simp
    rw[hp,if_pos (Nat.le_of_eq cg.symm),List.take_of_length_le (Nat.le_of_eq cg)];simp[outOA]
 ·rw[h1]at DE;have bI:=afP h1 hi;have av:=bZ aa.enc l i hi;have ag:decide ((0:Int)≤(i:Int))=true:=bc (by omega);refine uP hZ 2 ?_
  try simp only[go_sem]
  repeat'(first|((first|refine ae.af (by assumption) ?_|refine ao.af (by assumption) ?_)<;>simp only[go_sem,lM])|(with_reducible refine al ?_)|fail)
  refine afQ (K1:=fun _=>False) ?_ fun _ h=>h.elim;refine uP hZ 2 ?_
  try simp only[go_sem]
  repeat'((first|refine ae.af (by assumption) ?_|refine ao.af (by assumption) ?_)<;>simp only[go_sem,ag])
  refine afR (b:=true) (by simp only[go_sem]) ?_;refine zW 1 i ?_;simp only[go_sem,lM,av,aa.enc];refine uP hZ 1 ?_
  try simp only[go_sem]
  repeat'(first|((first|refine ae.intro (by first|assumption|(apply DJ<;>first|assumption|omega)) ?_|refine ao.intro (by assumption) ?_)<;>simp only[go_sem,lM,aF])|(with_reducible refine al ?_)|fail)
  refine uQ 1 ?_;simp only[go_sem,lM];refine al ?_;refine gO hZ ?_
  try simp only[go_sem]
  rw[bI];have bk:l.length≤min i l.length+(l.length-(i+1)+1):=by omega
  simp[outOA,bk];exact List.take_of_length_le (by simp;omega)
set_option maxRecDepth 100000
def Va:List (List bt):=ct 7 [2159,2157,2151,2092,2133,1944,1458]
attribute [go_sem] Va
theorem aeU(s:Bool)(n:Int):PureCall Tryz.prog 93 [.one (.bool s),.one (.int .i64 n)] [.one (.bool (ee s n))]:=by
 refine aL 17 Tryz.func93 Tryz.call93 [.tmp 4] ?_;intro _
 try simp only[go_sem]
 repeat'((first|refine ae.intro (by apply C0) ?_|refine ao.intro (by first|apply BA|apply Bz) ?_|refine bb ?_)<;>simp only[go_sem])
 all_goals(refine d' ?_;simp[ee])
theorem aeV(s:Bool)(n:Int):PureCall Tryz.prog 94 [.one (.bool s),.one (.int .i64 n)] [.one (.bool (eD s n))]:=by
 refine aL 18 Tryz.func94 Tryz.call94 [.tmp 4] ?_;intro _
 try simp only[go_sem]
 repeat'((first|refine ae.intro (by apply C0) ?_|refine ao.intro (by first|apply BA|apply Bz) ?_|refine bb ?_)<;>simp only[go_sem])
 all_goals(refine d' ?_;simp[eD])
theorem Vb(dp fX dP:Int):PureCall Tryz.prog 36 [.agg [.int .i64 dp,.int .i64 fX,.int .i64 dP]] [.one (.int .i64 (k5 (⟨dp,fX,dP⟩:fz))),.agg [.int .i64 (kx (⟨dp,fX,dP⟩:fz)).a8,.int .i64 (kx (⟨dp,fX,dP⟩:fz)).opened,.int .i64 (kx (⟨dp,fX,dP⟩:fz)).blocked],.one (.bool (iY (⟨dp,fX,dP⟩:fz)))]:=by
 refine aL 26 Tryz.func36 Tryz.call36 [.tmp 2,.cell 3 32,.tmp 4] ?_;intro _
 cases hI:j_ (⟨dp,fX,dP⟩:fz)with
 |false=>
  try simp only[go_sem]
  repeat'((first|refine ae.intro (by apply Fk) ?_|refine ba [[.post,.cA,.post,.post],[.cA,.post,.post,.post],[.pre,.pre,.post,.post],[.pre,.pre,.pre,.post]] (by kernel_rfl) (by rfl) ?_)<;>simp only[go_sem,hI])
  all_goals simp[k5,kx,iY,hI]
 |true=>
  have hb:=hI;simp only[j_,bN,cX,il]at hb;by_cases h0:fX=dp
  ·subst h0;have ag:decide (fX=fX)=true:=bc rfl
   try simp only[go_sem]
   repeat'((first|refine ae.intro (by apply Fk) ?_|refine ba [[.post,.cA,.post,.post],[.cA,.post,.post,.post],[.pre,.pre,.post,.post],[.pre,.pre,.pre,.post]] (by kernel_rfl) (by rfl) ?_)<;>simp only[go_sem,hI])
   all_goals simp[k5,kx,iY,hI]
  ·have ag:decide (fX=dp)=false:=a_ h0;have eI:IntKind.i64.wrap (fX+1)=fX+1:=by rw[bC]<;>omega
   have gj:IntKind.i64.wrap (fX+1-1)=fX:=by rw[bC]<;>omega
   try simp only[go_sem]
   repeat'((first|refine ae.intro (by apply Fk) ?_|refine ba Va (by kernel_rfl) (by rfl) ?_)<;>simp only[go_sem,hI,ag,eI,gj])
   all_goals simp[k5,kx,iY,hI,h0,eI]
theorem Vc(n:Int)(s u:Bool):PureCall Tryz.prog 38 [.one (.int .i64 n),.one (.bool s),.one (.bool u)] [.one (.int .i64 (mn n s u))]:=by
 refine aL 19 Tryz.func38 Tryz.call38 [.tmp 6] ?_;intro _
 cases hI:bN n 0 1152921504606846975 with
 |false=>
  try simp only[go_sem]
  repeat'(refine ae.intro (by apply iS) ?_<;>simp only[go_sem,hI])
  all_goals simp[mn,hI]
 |true=>
  have hb:=hI;simp only[bN,cX,il]at hb;have cn:IntKind.i64.wrap (IntKind.i64.wrap (IntKind.i64.wrap (4 * n)+oneB s)+IntKind.i64.wrap (2 * oneB u))=mn n s u:=by
   rw[Vd hb.1 hb.2 s u];have h1:0≤oneB s∧oneB s≤1:=Ve s;have h2:0≤oneB u∧oneB u≤1:=Ve u
   show _=4 * n+oneB s+2 * oneB u
   rw[bC (n:=4 * n) (by omega) (by omega),bC (n:=4 * n+oneB s) (by omega) (by omega),bC (n:=2 * oneB u) (by omega) (by omega),bC]<;>omega
  try simp only[go_sem]
  repeat'(refine ae.intro (by first|apply iS|apply aac) ?_<;>simp only[go_sem,hI])
  all_goals rw[cn]
theorem aeW :PureCall Tryz.prog 91 [] [.agg (bA.enc (uS))]:=by
 refine aL 2 Tryz.func91 Tryz.call91 [.cell 0 63] ?_;intro _
 try simp only[go_sem]
 all_goals simp[uS]
theorem Vf :PureCall Tryz.prog 92 [] [.agg [.int .i64 (mg).fB,.bool (mg).eW]]:=by
 refine aL 2 Tryz.func92 Tryz.call92 [.cell 0 65] ?_;intro _
 try simp only[go_sem]
 all_goals simp[mg]
theorem Vg(n:Int):PureCall Tryz.prog 154 [.one (.int .i64 n)] [.agg [.int .i64 (lC n).size,.int .i64 (lC n).base,.int .i64 (lC n).b',.sl 1 ((lC n).cells.map aW)],.one (.bool (kK n))]:=by
 refine aL 12 Tryz.func154 Tryz.call154 [.cell 2 55,.tmp 3] ?_;intro _
 cases hI:kK n with
 |false=>
  try simp only[go_sem]
  repeat'(refine ae.intro (by apply A9) ?_<;>simp only[go_sem,hI])
  all_goals simp[lC,hI]
 |true=>
  have hn:=yH hI
  try simp only[go_sem]
  repeat'(first|(refine ae.intro (by apply A9) ?_<;>simp only[go_sem,hI])|(with_reducible refine al ?_)|fail)
  all_goals simp[lC,hI,aW]
theorem aeX(n:Int):PureCall Tryz.prog 95 [.one (.int .i64 n)] [.agg (az.enc (mV n)),.one (.bool (kK n))]:=by
 refine aL 16 Tryz.func95 Tryz.call95 [.cell 2 58,.tmp 3] ?_;intro _
 cases hI:kK n with
 |false=>
  try simp only[go_sem]
  repeat'(refine ae.intro (by apply Vg) ?_<;>simp only[go_sem,hI])
  all_goals simp[mV,GH,hI]
 |true=>
  have hn:=yH hI
  try simp only[go_sem]
  repeat'(first|(refine ae.intro (by apply Vg) ?_<;>simp only[go_sem,hI])|(with_reducible refine al ?_)|fail)
  all_goals simp[mV,lC,hI,aW]
set_option maxHeartbeats 4000000 in
theorem Vh(v:Bool)(i n4 n5 n6 n8 n9 n_ n' oa xt n7 Aa FP FQ FR FT FU:Int):PureCall Tryz.prog 39 [.one (.bool v),.one (.int .i64 i),.agg [.int .i64 n4,.int .i64 n5,.int .i64 n6,.int .i64 n8,.int .i64 n9,.int .i64 n_,.int .i64 n',.int .i64 oa],.agg [.int .i64 xt,.int .i64 n7,.int .i64 Aa,.int .i64 FP,.int .i64 FQ,.int .i64 FR,.int .i64 FT,.int .i64 FU]] [.agg (aa.enc (ft v i (⟨n4,n5,n6,n8,n9,n_,n',oa⟩:da) (⟨xt,n7,Aa,FP,FQ,FR,FT,FU⟩:da))),.one (.bool (mf i (⟨n4,n5,n6,n8,n9,n_,n',oa⟩:da) (⟨xt,n7,Aa,FP,FQ,FR,FT,FU⟩:da)))]:=by
 refine aL 59 Tryz.func39 Tryz.call39 [.cell 8 67,.tmp 9] ?_;intro _;have ah:=Vi i (⟨n4,n5,n6,n8,n9,n_,n',oa⟩:da) (⟨xt,n7,Aa,FP,FQ,FR,FT,FU⟩:da);have aX:ft v i (⟨n4,n5,n6,n8,n9,n_,n',oa⟩:da) (⟨xt,n7,Aa,FP,FQ,FR,FT,FU⟩:da)=if mf i (⟨n4,n5,n6,n8,n9,n_,n',oa⟩:da) (⟨xt,n7,Aa,FP,FQ,FR,FT,FU⟩:da)then⟨i,mV n4,oX n7,uS,zz n5 n6,mg,ee v i,eD v i,false,false,false,false,0,false⟩else iG:=rfl
 try simp only[go_sem]
 repeat'((first|refine ae.intro (by apply C0) ?_|refine ao.intro (by apply N1) ?_|refine bb ?_)<;>simp only[go_sem])
 rw[ah]
 cases bo:mf i (⟨n4,n5,n6,n8,n9,n_,n',oa⟩:da) (⟨xt,n7,Aa,FP,FQ,FR,FT,FU⟩:da)with
 |false=>
  rw[bo]at aX;simp only[go_sem,Bool.not_false];rw[aX];simp[iG]
 |true=>
  rw[bo]at aX;simp only[go_sem,Bool.not_true]
  try simp only[go_sem]
  repeat'(first|(refine ae.intro (by first|apply aeW|apply Vf|apply aeU|apply aeV|apply aeX|apply aeY|apply aeZ) ?_<;>simp only[go_sem])|(with_reducible refine al ?_)|fail)
  all_goals(rw[aX];simp[fa])
set_option maxRecDepth 100000
theorem Jc{kv:List V}{hs:List H}{id:Nat}(u:Bool){K:V→List H→Prop}(bF:K (.ptr id 0 (if u then 31 else 28)) hs):dj Tryz.prog 37 kv hs [.ptr id 0 0,.d (.bool u)] K:=by
 refine(en (n:=12) (rs:=[.tmp 4]) Tryz.func37 rfl Tryz.call37 hZ rfl rfl ?_)
 cases u
 ·simp only[go_sem];exact bF
 ·simp only[go_sem];exact bF
theorem ae0{c:I}(hI:eQ c=o7 c):(bif !(o7 c&&decide (c.closed=0))then true else decide (24≤(c.streams.length:Int)))=!nm c:=by
 have:=PT c;rw[show fM c=(o7 c&&decide (c.closed=0))by unfold fM;rw[hI]]at this;exact this
set_option maxHeartbeats 8000000 in
theorem aeC(c:I)(u:Bool)(hz:e0 c)(bo:∀s∈c.streams,jm s.send):PureCall Tryz.prog 6 [.agg (I.enc c),.one (.bool u)] [.one (.int .i64 (ow c u)),.agg (I.enc ((iZ c u))),.one (.bool (o6 c u))]:=by
 refine aL 65 Tryz.func6 Tryz.call6 [.tmp 4,.cell 5 37,.tmp 6] ?_;intro ok;clear ok;have jk:=iQ hz;have KH:=Kt c (by omega);have GA:=KI c hz;have hC:iZ c u=if nm c then(if iY (gS c u)then {ku c u with streams:=putS c.streams (ft c.cr (mn (k5 (gS c u)) c.cr u) c.own c.peer)}else ku c u)else c:=rfl
 have b1:o6 c u=(nm c&&iY (gS c u)):=rfl;have gE:ow c u=if o6 c u then mn (k5 (gS c u)) c.cr u else -1:=rfl
 have bw:=ae0 (zV bo);have gp:=ae1 c.streams (ft c.cr (mn (k5 (gS c u)) c.cr u) c.own c.peer) (by have:=hz.1;omega) hz.2.1 (Bw _ _ _ _)
 try simp only[go_sem]
 repeat'((first|refine ae.af (by assumption) ?_|refine ao.af (by assumption) ?_|refine bb ?_)<;>simp only[go_sem,lM])
 rw[bw]
 cases hg:nm c with
 |false=>
  rw[hg]at hC;rw[hg,Bool.false_and]at b1;rw[b1]at gE
  try simp only[go_sem,Bool.not_false]
  repeat'(first|(refine ba [[.post,.cA,.post,.post],[.cA,.post,.post,.post],[.pre,.pre,.post,.post],[.pre,.pre,.pre,.post]] (by kernel_rfl) (by rfl) ?_<;>simp only[go_sem,lM])|(with_reducible refine al ?_)|fail)
  all_goals simp[hC,b1,gE]
 |true=>
  rw[hg]at hC;rw[hg,Bool.true_and]at b1
  cases u with
  |true=>
   have ag:gS c true=c.eB:=rfl;have e2:ku c true={c with eB:=kx c.eB}:=rfl;rw[ag]at hC b1 gE gp;rw[e2]at hC
   try simp only[go_sem,Bool.not_true]
   refine ae.inl (Jc true ?_)
   try simp only[go_sem]
   repeat'((first|refine ae.af (by first|assumption|apply Vb) ?_|refine ao.af (by assumption) ?_)<;>simp only[go_sem])
   apply yB;(focus ((repeat'(first|exact vQ|(refine vR ?_ ?_)|(refine yC rfl ?_)|(refine yD rfl ?_)|(refine ae.inl (Jc true ?_))|(simp only[go_sem,ep])));all_goals exact rfl));simp only[go_sem]
   cases ax:iY c.eB with
   |false=>
    rw[ax]at hC b1;rw[b1]at gE
    try simp only[go_sem,Bool.not_false]
    repeat'(first|(refine ba [[.post,.cA,.post,.post],[.cA,.post,.post,.post],[.pre,.pre,.post,.post],[.pre,.pre,.pre,.post]] (by kernel_rfl) (by rfl) ?_<;>simp only[go_sem,lM])|(with_reducible refine al ?_)|fail)
    all_goals simp[hC,b1,gE]
   |true=>
    rw[ax]at hC b1;rw[b1]at gE
    try simp only[go_sem,Bool.not_true]
    repeat'(first|((first|refine ae.af (by first|assumption|apply Vc|apply Vh) ?_|refine ao.af (by assumption) ?_|refine ba [[.post,.cA,.post,.post,.post],[.cA,.post,.cA,.post,.post],[.pre,.cA,.post,.post,.post],[.pre,.pre,.pre,.post,.post],[.pre,.pre,.pre,.pre,.post]] (by kernel_rfl) (by rfl) ?_)<;>simp only[go_sem,lM])|(with_reducible refine al ?_)|fail)
    all_goals simp[hC,b1,gE]
  |false=>
   have ag:gS c false=c.eC:=rfl;have e2:ku c false={c with eC:=kx c.eC}:=rfl;rw[ag]at hC b1 gE gp;rw[e2]at hC
   try simp only[go_sem,Bool.not_true]
   refine ae.inl (Jc false ?_)
   try simp only[go_sem]
   repeat'((first|refine ae.af (by first|assumption|apply Vb) ?_|refine ao.af (by assumption) ?_)<;>simp only[go_sem])
   apply yB;(focus ((repeat'(first|exact vQ|(refine vR ?_ ?_)|(refine yC rfl ?_)|(refine yD rfl ?_)|(refine ae.inl (Jc false ?_))|(simp only[go_sem,ep])));all_goals exact rfl));simp only[go_sem]
   cases ax:iY c.eC with
   |false=>
    rw[ax]at hC b1;rw[b1]at gE
    try simp only[go_sem,Bool.not_false]
    repeat'(first|(refine ba [[.post,.cA,.post,.post],[.cA,.post,.post,.post],[.pre,.pre,.post,.post],[.pre,.pre,.pre,.post]] (by kernel_rfl) (by rfl) ?_<;>simp only[go_sem,lM])|(with_reducible refine al ?_)|fail)
    all_goals simp[hC,b1,gE]
   |true=>
    rw[ax]at hC b1;rw[b1]at gE
    try simp only[go_sem,Bool.not_true]
    repeat'(first|((first|refine ae.af (by first|assumption|apply Vc|apply Vh) ?_|refine ao.af (by assumption) ?_|refine ba [[.post,.cA,.post,.post,.post],[.cA,.post,.cA,.post,.post],[.pre,.cA,.post,.post,.post],[.pre,.pre,.pre,.post,.post],[.pre,.pre,.pre,.pre,.post]] (by kernel_rfl) (by rfl) ?_)<;>simp only[go_sem,lM])|(with_reducible refine al ?_)|fail)
    all_goals simp[hC,b1,gE]
set_option maxRecDepth 100000
def zZ:List (List bt):=ct 9 [18836,18834,18868,18850,18913,18711,19318,17496,13122]
attribute [go_sem] zZ
def tI(c:I)(id:Int)(r:Bool):Bool:=o7 c&&decide (c.closed=0)&&(strOf c.streams id).2&&(if r then(aE c id).eD else(aE c id).ee)
theorem BE(hs:List H)(i:Nat)(x:H):aG (bI hs i x) i=x:=by rw[gF,if_pos rfl]
theorem P8{hs ys:List H}{i:Nat}(h:i<hs.length):aG (hs++ys) i=aG hs i:=by
 unfold aG;simp only[List.getD_eq_getElem?_getD];rw[List.getElem?_append_left h]
theorem P9{hs:List H}{i:Nat}{cs:List V}(h:aG hs i=.box cs):i<hs.length:=by
 rcases Nat.lt_or_ge i hs.length with h1|h1
 ·exact h1
 ·unfold aG at h;rw[List.getD_eq_getElem?_getD,List.getElem?_eq_none h1]at h;cases h
def Yh(c:I)(n:Nat)(K:V→List H→Prop)(v:V)(hs:List H):Prop:=
 ∃(b:Bool) (d:I) (DC DD lZ xp:Nat),v=.d (.bool b)∧aG hs (n+4)=.box (I.vc d (.sl DC 0 DD) (.sl lZ 0 xp))∧aG hs n=.box (I.bM c)∧aG hs (n+1)=.box I.bH∧
  (b=true→K (.c6 [.agg (I.vc d (.sl DC 0 DD) (.sl lZ 0 xp)),.d (.bool true)]) (bI hs (n+1) (.box (I.vc d (.sl DC 0 DD) (.sl lZ 0 xp)))))∧
  (b=false→K (.c6 [.agg (I.vc c (.sl hs.length 0 c.streams.length) (.sl (hs.length+1) 0 c.packets.length)),.d (.bool false)]) (bI (hs++[.af 39 (c.streams.map aa.enc),.af 2 (c.packets.map aC.enc)]) (n+1) (.box (I.vc c (.sl hs.length 0 c.streams.length) (.sl (hs.length+1) 0 c.packets.length)))))
set_option maxHeartbeats 8000000 in
theorem Dz(c:I)(hz:e0 c)(id:Int)(r:Bool)(f:FuncId)(dU:List V){kv:List V}{hs:List H}{K:V→List H→Prop}
  (BF:tI c id r=false→K (.c6 [.agg (I.vc c (.sl (hs.length+2) 0 c.streams.length) (.sl (hs.length+3) 0 c.packets.length)),.d (.bool false)]) (hs++[.box (I.bM c),.box (I.vc c (.sl (hs.length+2) 0 c.streams.length) (.sl (hs.length+3) 0 c.packets.length)),.af 39 (c.streams.map aa.enc),.af 2 (c.packets.map aC.enc),.box (I.vc c (.sl (hs.length+2) 0 c.streams.length) (.sl (hs.length+3) 0 c.packets.length))]))
  (P_:∀(i:Nat) (_:i<c.streams.length) (vP:List V),fIx (ed id) c.streams=(i:Int)→tI c id r=true→dj Tryz.prog f vP (hs++[.box (I.bM c),.box I.bH,.af 39 (c.streams.map aa.enc),.af 2 (c.packets.map aC.enc),.box (I.vc c (.sl (hs.length+2) 0 c.streams.length) (.sl (hs.length+3) 0 c.packets.length))]) (.ptr (hs.length+4) 0 0::.ptr (hs.length+2) i 0::dU) (Yh c hs.length K)) :
  dj Tryz.prog 55 kv hs [.agg (I.bM c),.d (.int .i64 id),.d (.bool r),.fn f dU] K:=by
 have jk:=iQ hz;have KH:=Kt c (by omega);have DE:=By c.streams id;have GA:=KI c hz;refine(yA (n:=61) (rs:=[.cell 8 37,.tmp 9]) Tryz.func55 rfl Tryz.call55 rfl rfl ?_);simp only[go_sem]
 cases gT:(o7 c&&decide (c.closed=0))with
 |false=>
  rw[gT]at GA;have bF:=BF (by unfold tI;rw[gT];rfl);refine gO hZ ?_
  try simp only[go_sem,fu,dN,Nat.add_assoc]
  repeat'(first|((first|refine ae.af (by assumption) ?_|refine ao.af (by assumption) ?_|with_reducible refine b9 ?_|with_reducible refine de ?_|refine ba zZ (by kernel_rfl) (by rfl) ?_)<;>simp only[go_sem,lM,dN,dz,d_,Nat.add_zero,Nat.add_assoc])|(with_reducible refine al ?_)|fail)
  exact bF
 |true=>
  rw[gT]at GA;rcases ox (ed id) c.streams with ⟨h1,h2⟩|⟨i,hi,h1,h2,aj⟩
  ·rw[h1]at DE;have bF:=BF (by unfold tI strOf;rw[gT,h2];rfl);have ag:decide ((-1:Int)<0)=true:=by decide
   refine gO hZ ?_
   try simp only[go_sem,fu,dN,Nat.add_assoc]
   repeat'(first|((first|refine ae.af (by assumption) ?_|refine ao.af (by assumption) ?_|with_reducible refine b9 ?_|with_reducible refine de ?_|refine ba zZ (by kernel_rfl) (by rfl) ?_)<;>simp only[go_sem,lM,dN,dz,d_,Nat.add_zero,Nat.add_assoc])|(with_reducible refine al ?_)|fail)
   exact bF
  ·rw[h1]at DE;have pc:strOf c.streams id=(c.streams[i],true):=by unfold strOf;rw[h2]
   have nn:aE c id=c.streams[i]:=by unfold aE;rw[pc]
   have av:=bZ aa.enc c.streams i hi;have ag:decide ((i:Int)<0)=false:=a_ (by omega)
   cases r with
   |true=>
    cases aI:c.streams[i].eD with
    |false=>
     have bF:=BF (by unfold tI;rw[gT,pc,nn,aI];rfl);refine gO hZ ?_
     try simp only[go_sem,fu,dN,Nat.add_assoc]
     repeat'(first|((first|refine ae.af (by assumption) ?_|refine ao.af (by assumption) ?_|with_reducible refine b9 ?_|with_reducible refine de ?_|refine ba zZ (by kernel_rfl) (by rfl) ?_)<;>simp only[go_sem,lM,dN,dz,d_,Nat.add_zero,Nat.add_assoc,ag,av,aa.enc,aI,aF])|(with_reducible refine al ?_)|fail)
     exact bF
    |true=>
     have tJ:=fun vP=>P_ i hi vP h1 (by unfold tI;rw[gT,pc,nn,aI];rfl);refine gO hZ ?_
     try simp only[go_sem,fu,dN,Nat.add_assoc]
     repeat'(first|((first|refine ae.af (by assumption) ?_|refine ao.af (by assumption) ?_|with_reducible refine b9 ?_|with_reducible refine de ?_|refine ba zZ (by kernel_rfl) (by rfl) ?_)<;>simp only[go_sem,lM,dN,dz,d_,Nat.add_zero,Nat.add_assoc,ag,av,aa.enc,aI,aF])|(with_reducible refine al ?_)|fail)
     refine ae.inl ((tJ _).mono ?_);rintro _ jN ⟨b,d,DC,DD,lZ,xp,rfl,g4,pd,g1,z1,z6⟩
     cases b with
     |true=>
      have z1:=z1 rfl
      try simp only[go_sem,g4,g1,BE]
      exact z1
     |false=>
      have z6:=z6 rfl;have z7:=fun ys=>P8 (ys:=ys) (P9 g1);rw[g1]at z7
      try simp only[go_sem,pd]
      repeat'((first|refine ae.af (by assumption) ?_|refine ao.af (by assumption) ?_)<;>simp only[go_sem,lM,fu,dN,Nat.add_zero,Nat.add_assoc,z7,BE])
      exact z6
   |false=>
    cases aI:c.streams[i].ee with
    |false=>
     have bF:=BF (by unfold tI;rw[gT,pc,nn,aI];rfl);refine gO hZ ?_
     try simp only[go_sem,fu,dN,Nat.add_assoc]
     repeat'(first|((first|refine ae.af (by assumption) ?_|refine ao.af (by assumption) ?_|with_reducible refine b9 ?_|with_reducible refine de ?_|refine ba zZ (by kernel_rfl) (by rfl) ?_)<;>simp only[go_sem,lM,dN,dz,d_,Nat.add_zero,Nat.add_assoc,ag,av,aa.enc,aI,aF])|(with_reducible refine al ?_)|fail)
     exact bF
    |true=>
     have tJ:=fun vP=>P_ i hi vP h1 (by unfold tI;rw[gT,pc,nn,aI];rfl);refine gO hZ ?_
     try simp only[go_sem,fu,dN,Nat.add_assoc]
     repeat'(first|((first|refine ae.af (by assumption) ?_|refine ao.af (by assumption) ?_|with_reducible refine b9 ?_|with_reducible refine de ?_|refine ba zZ (by kernel_rfl) (by rfl) ?_)<;>simp only[go_sem,lM,dN,dz,d_,Nat.add_zero,Nat.add_assoc,ag,av,aa.enc,aI,aF])|(with_reducible refine al ?_)|fail)
     refine ae.inl ((tJ _).mono ?_);rintro _ jN ⟨b,d,DC,DD,lZ,xp,rfl,g4,pd,g1,z1,z6⟩
     cases b with
     |true=>
      have z1:=z1 rfl
      try simp only[go_sem,g4,g1,BE]
      exact z1
     |false=>
      have z6:=z6 rfl;have z7:=fun ys=>P8 (ys:=ys) (P9 g1);rw[g1]at z7
      try simp only[go_sem,pd]
      repeat'((first|refine ae.af (by assumption) ?_|refine ao.af (by assumption) ?_)<;>simp only[go_sem,lM,fu,dN,Nat.add_zero,Nat.add_assoc,z7,BE])
      exact z6
set_option maxRecDepth 100000
def WQ:List (List bt):=ct 10 [56744,56742,49972,49954,56821,56655,49572,57955,53253,39366]
def WR:List (List bt):=ct 15 [13551749,13551747,13558585,13558567,13558630,13558432,13561222,13559764,13555030,14280016,14319382,14181601,13827307,12754584,9565938]
attribute [go_sem] WQ WR
theorem agM(bS bQ bL:Int)(bB:List Int):PureCall Tryz.prog 170 [.agg [.int .i64 bS,.int .i64 bQ,.int .i64 bL,.sl 1 (bB.map aW)]] [.one (.int .i64 (hE (⟨bS,bQ,bL,bB⟩:cl)))]:=by
 refine aL 18 Tryz.func170 Tryz.call170 [.tmp 2] ?_;intro _
 cases hI:jC (⟨bS,bQ,bL,bB⟩:cl)with
 |false=>
  try simp only[go_sem]
  repeat'(refine ae.intro (by apply OC) ?_<;>simp only[go_sem,hI])
  all_goals simp[hE,hI]
 |true=>
  obtain⟨h1,h2,aj,aD,bX,eR,l2,fO,Ae⟩:=nZ hI;simp only at h1 h2 aj aD bX eR l2;have eI:IntKind.i64.wrap (bL-bQ)=bL-bQ:=by rw[bC]<;>omega
  have gj:IntKind.i64.wrap (bS-(bL-bQ))=bS-(bL-bQ):=by rw[bC]<;>omega
  have lY:IntKind.i64.wrap (4611686018427387903-bL)=4611686018427387903-bL:=by rw[bC]<;>omega
  try simp only[go_sem]
  repeat'(refine ae.intro (by apply OC) ?_<;>simp only[go_sem,hI,eI,gj,lY])
  all_goals simp[hE,hI,cG]
set_option maxHeartbeats 1000000 in
theorem agN(bS bQ bL:Int)(bB:List Int)(d:List UInt8)(hc:bB.length≤8388608)(hd:d.length≤1048576):PureCall Tryz.prog 118 [.agg [.int .i64 bS,.int .i64 bQ,.int .i64 bL,.sl 1 (bB.map aW)],.one (.str d)] [.agg [.int .i64 (kh (⟨bS,bQ,bL,bB⟩:cl) d).size,.int .i64 (kh (⟨bS,bQ,bL,bB⟩:cl) d).base,.int .i64 (kh (⟨bS,bQ,bL,bB⟩:cl) d).b',.sl 1 ((kh (⟨bS,bQ,bL,bB⟩:cl) d).cells.map aW)],.one (.int .i64 ((fL (⟨bS,bQ,bL,bB⟩:cl) d:Int)))]:=by
 refine aL 42 Tryz.func118 Tryz.call118 [.cell 4 55,.tmp 5] ?_;intro ok;have hr:=IB (⟨bS,bQ,bL,bB⟩:cl);have bo:(fL (⟨bS,bQ,bL,bB⟩:cl) d:Int)=cG (hE (⟨bS,bQ,bL,bB⟩:cl)) d.length:=by unfold fL cG;split<;>omega
 have agb:fL (⟨bS,bQ,bL,bB⟩:cl) d≤d.length:=by have:=bo;unfold cG at this;split at this<;>omega
 have agc:(fL (⟨bS,bQ,bL,bB⟩:cl) d:Int)≤hE (⟨bS,bQ,bL,bB⟩:cl):=by have:=bo;unfold cG at this;split at this<;>omega
 generalize hn:fL (⟨bS,bQ,bL,bB⟩:cl) d=n at *;have FI:(if hE (⟨bS,bQ,bL,bB⟩:cl)<((d.length:Nat):Int)then hE (⟨bS,bQ,bL,bB⟩:cl)else((d.length:Nat):Int))=(n:Int):=by rw[bo];unfold cG;split<;>split<;>omega
 try simp only[go_sem]
 repeat'((first|refine ao.intro (by first|(apply Qx<;>first|assumption|omega)|apply agM) ?_|refine ba WQ (by kernel_rfl) (by rfl) ?_)<;>simp only[go_sem,lM,FI])
 refine b5.intro (fun k:Nat=>⟨(.J::.d (.str d)::.ptr 0 0 0::.J::.ptr 1 0 0::.d (.int .i64 0)::.ptr 3 0 0::.d (.int .i64 n)::jn 8 (.d (.int .i64 n)::.d (.int .i64 k)::jn 24 [])),[.box [.d (.int .i64 bS),.d (.int .i64 bQ),.d (.int .i64 bL),.d (.sl 1 (bB.map aW))],.box [.d (.int .i64 0),.d (.int .i64 0),.d (.int .i64 0),.c7 1],.ai 1 ((wrS bB bL bS d k).map aW) true,.box [.d (.int .i64 bS),.d (.int .i64 bQ),.d (.int .i64 bL),.sl 2 0 bB.length]]⟩)
  (fun k=>n-k) (fun k=>k≤n) 0 [0,1,2,3] (by omega) ?_ ?_
 ·simp only[go_sem];simp[wrS]
 ·intro k hk;by_cases h1:k<n
  ·have ar:decide ((k:Int)<(n:Int))=true:=bc (by omega);obtain⟨hI,pc,jN⟩:=hr.2 (by omega);obtain⟨g1,cx,g3,g4,Bg,Bh,Bi,OD,FJ⟩:=nZ hI;simp only at g1 cx g3 g4 Bg Bh Bi pc jN;have hw:=dv (i:=k) (m:=d.length) (by omega) (by simp only[maxLen];omega);have eI:IntKind.i64.wrap (bL+(k:Int))=bL+(k:Int):=by rw[bC]<;>omega
   have fF:=Int.tmod_nonneg bS (show(0:Int)≤bL+(k:Int)by omega);have gm:=Int.tmod_lt_of_pos (bL+(k:Int)) (show 0<bS by omega);have hl:=AX bB bL bS d k;obtain⟨j,lS⟩:=Int.eq_ofNat_of_zero_le fF;rw[lS]at gm;have ak:j<(wrS bB bL bS d k).length:=by omega
   have vD:=bZ aW _ j ak;have cw:wrS bB bL bS d (k+1)=(wrS bB bL bS d k).set j ((d[k]?.getD 0).toNat:Int):=by rw[wrS,lS,aF]
   try simp only[go_sem,ar]
   repeat'(first|(refine ba WR (by kernel_rfl) (by rfl) ?_<;>simp only[go_sem,lM,aF,eI,lS,vD,aW,Jq,Option.getD_some])|(with_reducible refine al ?_)|fail)
   all_goals(first|(refine⟨⟨ak,by simp,by simp⟩,?_⟩)|skip)
   all_goals(refine bm.intro (k+1) [0,1,2,3] (by omega) (by omega) ?_;simp only[go_sem,hw,cw];simp[aW])
  ·have ar:decide ((k:Int)<(n:Int))=false:=a_ (by omega);obtain rfl:k=n:=by omega
   try simp only[go_sem,lM,ar]
   all_goals simp[outOA,kh,hn,AX,List.take_of_length_le]
theorem WS{s:az}(h:eA s=true):0≤s.state:=by
 simp only[eA,cX]at h;have h2:=h.2;split at h2
 ·rename_i aj;simp only[lT,Bool.or_eq_true,il]at aj;omega
 ·simp only[cX,il]at h2;have aD:vG s=3∨vG s=2∨vG s=1∨vG s=0:=by
   unfold vG;repeat' split
   all_goals simp
  omega
def JE(s:az):Bool:=uH s&&(decide (s.state=0)||decide (s.state=1))&&decide (s.bj=-1)
theorem WT{s:az}(hn:jm s):JE s=jK s:=by
 unfold JE jK;rw[F6 hn]
 cases h:uH s with
 |false=>rfl
 |true=>
  have h0:=WS (s:=s) (by rw[F6 hn];exact h);have:(decide (s.state=0)||decide (s.state=1))=decide (s.state≤1):=by
   rw[Bool.eq_iff_iff];simp only[Bool.or_eq_true,il];omega
  rw[this]
def Bo(s:az):Bool:=uH s&&bN s.state 0 2
theorem agO{s:az}(hn:jm s):Bo s=xh s:=by
 unfold Bo xh;rw[F6 hn]
 cases h:uH s with
 |false=>rfl
 |true=>
  have h0:=WS (s:=s) (by rw[F6 hn];exact h);have:bN s.state 0 2=decide (s.state≤2):=by
   unfold bN;rw[bc h0];rfl
  rw[this]
theorem JF(aO aS aT aP:Int)(aM:List Int)(aw au ay:List ab)(aR aQ aN aU:Int)(hc:aw.length+au.length+ay.length≤524288):PureCall Tryz.prog 117 [.agg [.int .i64 aO,.int .i64 aS,.int .i64 aT,.int .i64 aP,.sl 1 (aM.map aW),.sl 2 (aw.map ab.enc),.sl 2 (au.map ab.enc),.sl 2 (ay.map ab.enc),.int .i64 aR,.int .i64 aQ,.int .i64 aN,.int .i64 aU]] [.one (.bool (JE (⟨aO,⟨aS,aT,aP,aM⟩,aw,au,ay,aR,aQ,aN,aU⟩:az)))]:=by
 refine aL 20 Tryz.func117 Tryz.call117 [.tmp 2] ?_;intro _
 try simp only[go_sem]
 repeat'((first|refine ae.intro (by(apply O0<;>first|assumption|omega)) ?_|refine bb ?_)<;>simp only[go_sem])
 all_goals(refine d' ?_;simp[JE])
theorem WU(aO aS aT aP:Int)(aM:List Int)(aw au ay:List ab)(aR aQ aN aU:Int)(hc:aw.length+au.length+ay.length≤524288):PureCall Tryz.prog 129 [.agg [.int .i64 aO,.int .i64 aS,.int .i64 aT,.int .i64 aP,.sl 1 (aM.map aW),.sl 2 (aw.map ab.enc),.sl 2 (au.map ab.enc),.sl 2 (ay.map ab.enc),.int .i64 aR,.int .i64 aQ,.int .i64 aN,.int .i64 aU]] [.one (.bool (Bo (⟨aO,⟨aS,aT,aP,aM⟩,aw,au,ay,aR,aQ,aN,aU⟩:az)))]:=by
 refine aL 10 Tryz.func129 Tryz.call129 [.tmp 2] ?_;intro _
 try simp only[go_sem]
 repeat'((first|refine ae.intro (by(apply O0<;>first|assumption|omega)) ?_|refine ao.intro (by apply iS) ?_|refine bb ?_)<;>simp only[go_sem])
 all_goals(refine d' ?_;simp[Bo])
set_option maxRecDepth 100000
def WV:List (List bt):=ct 14 [4162967,4162965,4162959,4163062,4163008,4163926,4163440,4250434,4246060,4232938,4193572,4074381,4517248,3188646]
attribute [go_sem] WV
theorem agP{xs:List ab}{r:ab}(h:¬r.low<r.high):fh xs r=xs:=by
 have:cT r=false:=by rw[Bool.eq_false_iff];intro g;exact h ((gM _).1 g).2.1
 unfold fh;rw[this];simp
set_option maxHeartbeats 4000000 in
theorem XM(aO aS aT aP:Int)(aM:List Int)(aw au ay:List ab)(aR aQ aN aU:Int)(d:List UInt8)(hc:aw.length+au.length+ay.length≤524288)(hr:aM.length≤8388608)(hd:d.length≤1048576)(hn:jm (⟨aO,⟨aS,aT,aP,aM⟩,aw,au,ay,aR,aQ,aN,aU⟩:az)):PureCall Tryz.prog 57 [.agg [.int .i64 aO,.int .i64 aS,.int .i64 aT,.int .i64 aP,.sl 1 (aM.map aW),.sl 2 (aw.map ab.enc),.sl 2 (au.map ab.enc),.sl 2 (ay.map ab.enc),.int .i64 aR,.int .i64 aQ,.int .i64 aN,.int .i64 aU],.one (.str d)] [.agg (az.enc (kz (⟨aO,⟨aS,aT,aP,aM⟩,aw,au,ay,aR,aQ,aN,aU⟩:az) d)),.one (.int .i64 (o8 (⟨aO,⟨aS,aT,aP,aM⟩,aw,au,ay,aR,aQ,aN,aU⟩:az) d))]:=by
 refine aL 37 Tryz.func57 Tryz.call57 [.cell 4 58,.tmp 5] ?_;intro _;have nb:=WT (s:=(⟨aO,⟨aS,aT,aP,aM⟩,aw,au,ay,aR,aQ,aN,aU⟩:az)) hn
 cases hW:jK (⟨aO,⟨aS,aT,aP,aM⟩,aw,au,ay,aR,aQ,aN,aU⟩:az)with
 |false=>
  rw[hW]at nb
  try simp only[go_sem]
  repeat'(first|(refine ae.intro (by first|(apply BL<;>first|assumption|omega)|(apply JF<;>first|assumption|omega)) ?_<;>simp only[go_sem,lM,nb])|(with_reducible refine al ?_)|fail)
  all_goals simp[kz,o8,hW]
 |true=>
  rw[hW]at nb;have hs:eA (⟨aO,⟨aS,aT,aP,aM⟩,aw,au,ay,aR,aQ,aN,aU⟩:az)=true:=by
   simp only[jK,cX]at hW;exact hW.1.1
  have hg:=nZ (O3 hs);simp only at hg;have hp:(if 0<fL (⟨aO,⟨aS,aT,aP,aM⟩,aw,au,ay,aR,aQ,aN,aU⟩:az).ring d then fh aw ⟨aP,(kh (⟨aO,⟨aS,aT,aP,aM⟩,aw,au,ay,aR,aQ,aN,aU⟩:az).ring d).b'⟩else aw)=fh aw ⟨aP,IntKind.i64.wrap (aP+(fL (⟨aO,⟨aS,aT,aP,aM⟩,aw,au,ay,aR,aQ,aN,aU⟩:az).ring d:Int))⟩:=by
   split
   ·rfl
   ·rename_i h0;have hz:fL (⟨aO,⟨aS,aT,aP,aM⟩,aw,au,ay,aR,aQ,aN,aU⟩:az).ring d=0:=Nat.eq_zero_of_not_pos h0;rw[agP];rw[hz]
    show ¬aP<IntKind.i64.wrap (aP+0)
    rw[bC]<;>omega
  simp only at hp
  try simp only[go_sem]
  repeat'(first|(refine ae.intro (by first|(apply BL<;>first|assumption|omega)|(apply JF<;>first|assumption|omega)|(apply agN<;>first|assumption|omega)|(apply VT<;>first|assumption|omega)) ?_<;>simp only[go_sem,lM,nb])|(with_reducible refine al ?_)|fail)
  all_goals(simp only[kz,o8,hW,if_true,hp];try simp[outOA,fa])
set_option maxHeartbeats 4000000 in
theorem XJ(aO aS aT aP:Int)(aM:List Int)(aw au ay:List ab)(aR aQ aN aU:Int)(hc:aw.length+au.length+ay.length≤524288)(hr:aM.length≤8388608)(hn:jm (⟨aO,⟨aS,aT,aP,aM⟩,aw,au,ay,aR,aQ,aN,aU⟩:az)):PureCall Tryz.prog 61 [.agg [.int .i64 aO,.int .i64 aS,.int .i64 aT,.int .i64 aP,.sl 1 (aM.map aW),.sl 2 (aw.map ab.enc),.sl 2 (au.map ab.enc),.sl 2 (ay.map ab.enc),.int .i64 aR,.int .i64 aQ,.int .i64 aN,.int .i64 aU]] [.agg (az.enc (mQ (⟨aO,⟨aS,aT,aP,aM⟩,aw,au,ay,aR,aQ,aN,aU⟩:az))),.one (.bool (jK (⟨aO,⟨aS,aT,aP,aM⟩,aw,au,ay,aR,aQ,aN,aU⟩:az)))]:=by
 refine aL 17 Tryz.func61 Tryz.call61 [.cell 2 58,.tmp 3] ?_;intro _;have nb:=WT (s:=(⟨aO,⟨aS,aT,aP,aM⟩,aw,au,ay,aR,aQ,aN,aU⟩:az)) hn
 cases hW:jK (⟨aO,⟨aS,aT,aP,aM⟩,aw,au,ay,aR,aQ,aN,aU⟩:az)with
 |false=>
  rw[hW]at nb
  try simp only[go_sem]
  repeat'(first|(refine ae.intro (by first|(apply BL<;>first|assumption|omega)|(apply JF<;>first|assumption|omega)) ?_<;>simp only[go_sem,lM,nb])|(with_reducible refine al ?_)|fail)
  all_goals simp[mQ,hW]
 |true=>
  rw[hW]at nb
  try simp only[go_sem]
  repeat'(first|(refine ae.intro (by first|(apply BL<;>first|assumption|omega)|(apply JF<;>first|assumption|omega)) ?_<;>simp only[go_sem,lM,nb])|(with_reducible refine al ?_)|fail)
  all_goals simp[mQ,hW]
set_option maxHeartbeats 4000000 in
theorem XW(aO aS aT aP:Int)(aM:List Int)(aw au ay:List ab)(aR aQ aN aU c:Int)(hc:aw.length+au.length+ay.length≤524288)(hr:aM.length≤8388608)(hn:jm (⟨aO,⟨aS,aT,aP,aM⟩,aw,au,ay,aR,aQ,aN,aU⟩:az)):PureCall Tryz.prog 68 [.agg [.int .i64 aO,.int .i64 aS,.int .i64 aT,.int .i64 aP,.sl 1 (aM.map aW),.sl 2 (aw.map ab.enc),.sl 2 (au.map ab.enc),.sl 2 (ay.map ab.enc),.int .i64 aR,.int .i64 aQ,.int .i64 aN,.int .i64 aU],.one (.int .i64 c)] [.agg (az.enc (o9 (⟨aO,⟨aS,aT,aP,aM⟩,aw,au,ay,aR,aQ,aN,aU⟩:az) c)),.one (.bool (lX (⟨aO,⟨aS,aT,aP,aM⟩,aw,au,ay,aR,aQ,aN,aU⟩:az) c))]:=by
 refine aL 36 Tryz.func68 Tryz.call68 [.cell 4 58,.tmp 5] ?_;intro _;have nb:=agO (s:=(⟨aO,⟨aS,aT,aP,aM⟩,aw,au,ay,aR,aQ,aN,aU⟩:az)) hn;have aI:lX (⟨aO,⟨aS,aT,aP,aM⟩,aw,au,ay,aR,aQ,aN,aU⟩:az) c=(xh (⟨aO,⟨aS,aT,aP,aM⟩,aw,au,ay,aR,aQ,aN,aU⟩:az)&&bJ c):=rfl;rw[←nb]at aI
 cases hW:lX (⟨aO,⟨aS,aT,aP,aM⟩,aw,au,ay,aR,aQ,aN,aU⟩:az) c with
 |false=>
  rw[hW]at aI
  try simp only[go_sem]
  repeat'((first|refine ae.intro (by(apply WU<;>first|assumption|omega)) ?_|refine ao.intro (by apply ng) ?_|refine bb ?_)<;>simp only[go_sem])
  refine bp (fun h0=>?_) (fun h0=>?_)
  ·simp only[go_sem]
   try simp only[go_sem,lM]
   repeat'(first|(refine ae.intro (by(apply BL<;>first|assumption|omega)) ?_<;>simp only[go_sem,lM])|(with_reducible refine al ?_)|fail)
   all_goals simp[o9,hW]
  ·exfalso
   cases h1:Bo (⟨aO,⟨aS,aT,aP,aM⟩,aw,au,ay,aR,aQ,aN,aU⟩:az)<;>cases h2:bJ c<;>rw[h1,h2]at aI h0<;>simp at aI h0
 |true=>
  rw[hW]at aI;have hp:Bo (⟨aO,⟨aS,aT,aP,aM⟩,aw,au,ay,aR,aQ,aN,aU⟩:az)=true∧bJ c=true:=by
   cases h1:Bo (⟨aO,⟨aS,aT,aP,aM⟩,aw,au,ay,aR,aQ,aN,aU⟩:az)<;>cases h2:bJ c<;>rw[h1,h2]at aI<;>simp at aI⊢
  have hs:eA (⟨aO,⟨aS,aT,aP,aM⟩,aw,au,ay,aR,aQ,aN,aU⟩:az)=true:=by
   have:=hp.1;rw[nb]at this;simp only[xh,cX]at this;exact this.1
  have hg:=nZ (O3 hs);simp only at hg
  try simp only[go_sem]
  repeat'(first|((first|refine ae.intro (by first|(apply WU<;>first|assumption|omega)|apply ng) ?_|with_reducible refine b9 ?_|refine ba WV (by kernel_rfl) (by rfl) ?_)<;>simp only[go_sem,hp.1,hp.2])|(with_reducible refine al ?_)|fail)
  all_goals simp[o9,hW,aW]
set_option maxRecDepth 100000
theorem Gu{c:I}(hI:eQ c=o7 c)(id:Int):tI c id false=gR c id:=by
 unfold tI gR fM;rw[hI];rfl
theorem Dw{c:I}{id:Int}{i:Nat}(h:fIx (ed id) c.streams=(i:Int))(hi:i<c.streams.length):aE c id=c.streams[i]:=by
 rcases ox (ed id) c.streams with ⟨g1,_⟩|⟨j,ak,g1,cx,g3⟩
 ·omega
 ·have:j=i:=by omega
  subst this;unfold aE strOf;rw[cx]
theorem Gw{l:List aa}{id:Int}{i:Nat}{Y:aa}(h:fIx (ed id) l=(i:Int))(hi:i<l.length)(tJ:Y.id=id):List.take l.length ((l.map aa.enc).take i++Y.enc::(l.map aa.enc).drop (i+1))=(putS l Y).map aa.enc:=by
 rw[List.take_of_length_le (by simp;omega),Dx (s:=Y) (i:=i) (by rw[tJ];exact h),List.set_eq_take_append_cons_drop,if_pos hi];simp
theorem Dy{l:List aa}{id:Int}{i:Nat}(h:fIx (ed id) l=(i:Int))(hi:i<l.length):l[i].id=id:=by
 rcases ox (ed id) l with ⟨g1,_⟩|⟨j,ak,g1,cx,g3⟩
 ·omega
 ·have:j=i:=by omega
  subst this;simpa [ed]using g3
set_option maxHeartbeats 8000000 in
theorem XI(c:I)(id:Int)(hz:e0 c)(bo:∀s∈c.streams,jm s.send):PureCall Tryz.prog 16 [.agg (I.enc c),.one (.int .i64 id)] [.agg (I.enc ((uN c id))),.one (.bool (vO c id))]:=by
 refine aL 11 Tryz.func16 Tryz.call16 [.cell 4 37,.tmp 5] ?_;intro ok;clear ok;have hI:=Gu (zV bo) id;have hC:uN c id=if vO c id then {c with streams:=putS c.streams (fb (aE c id) (mQ (aE c id).send))}else c:=rfl
 have aZ:vO c id=(gR c id&&jK (aE c id).send):=rfl;simp only[go_sem];refine ae.inl (Dz c hz id false 60 [] (fun h=>?_) (fun i hi vP h1 h=>?_))
 ·rw[hI]at h;rw[h,Bool.false_and]at aZ;rw[aZ]at hC;simp only[go_sem,oW,List.length_nil,bf,bn,Nat.reduceAdd]
  try simp only[go_sem,lM]
  repeat'(first|(with_reducible refine al ?_)|fail)
  all_goals simp[hC,aZ]
 ·rw[hI]at h;rw[h,Bool.true_and]at aZ;obtain⟨X,b_⟩:∃X,X=c.streams[i]:=⟨_,rfl⟩;have hm:X∈c.streams:=b_▸List.getElem_mem hi;have av:=bZ aa.enc c.streams i hi;rw[←b_]at av;have nn:aE c id=X:=by rw[b_];exact Dw h1 hi
  have hid:X.id=id:=by rw[b_];exact Dy h1 hi
  rw[nn]at aZ hC;have hn:=bo X hm;obtain⟨cU,c9,cq,dd⟩:=hz.2.1 X hm;have tK:PureCall Tryz.prog 61 [.agg (az.enc X.send)] [.agg (az.enc ((mQ X.send))),.one (.bool (jK X.send))]:=by
   apply XJ<;>first|assumption|omega
  obtain⟨bO,ky⟩:∃bO,bO=mQ X.send:=⟨_,rfl⟩;rw[←ky]at tK hC;refine(yA (n:=18) (rs:=[.tmp 4]) Tryz.func60 rfl Tryz.call60 rfl rfl ?_);simp only[go_sem,oW,List.length_nil,bf,bn,Nat.reduceAdd];refine zW 4 i ?_;simp only[go_sem,lM,av,aa.enc];refine uP hZ 3 ?_
  try simp only[go_sem,lM]
  repeat'(first|((first|refine ae.intro (by assumption) ?_|refine ao.intro (by assumption) ?_)<;>simp only[go_sem,lM])|(with_reducible refine al ?_)|fail)
  refine uQ 4 ?_;simp only[go_sem,lM];refine al ?_;refine gO hZ ?_
  try simp only[go_sem]
  have hle:(c.streams.length≤((c.streams.map aa.enc).take i).length+(((c.streams.map aa.enc).drop (i+1)).length+1))=True:=eq_true (by rw[List.length_take,List.length_drop,lM];omega);have bI:=Gw (Y:=fb X bO) h1 hi hid;simp only[aa.enc,fb]at bI;refine⟨jK X.send,c,4,c.streams.length,5,c.packets.length,rfl,rfl,rfl,rfl,fun hb=>?_,fun hb=>?_⟩
  ·rw[hb]at aZ;rw[aZ]at hC;simp only[go_sem]
   try simp only[go_sem,lM,hle,if_true]
   repeat'(first|(with_reducible refine al ?_)|fail)
   rw[hC,aZ];simp only[if_true,bI];rfl
  ·rw[hb]at aZ;rw[aZ]at hC;simp only[go_sem]
   try simp only[go_sem,lM]
   repeat'(first|(with_reducible refine al ?_)|fail)
   all_goals simp[hC,aZ]
set_option maxRecDepth 100000
theorem XK{S:List Bool}(h:S.length=14):∃a0 bD bR a3 a4 a5 ec e9 fC a9 j1 lz nf uK,S=[a0,bD,bR,a3,a4,a5,ec,e9,fC,a9,j1,lz,nf,uK]:=by
 match S,h with|[a0,bD,bR,a3,a4,a5,ec,e9,fC,a9,j1,lz,nf,uK],_=>exact⟨a0,bD,bR,a3,a4,a5,ec,e9,fC,a9,j1,lz,nf,uK,rfl⟩
def Ku(c:I)(d:List UInt8)(i:Nat)(X:aa)(bO:az)(w:Int)(bG bg bY eV kP tL:H)(S:List Bool):St:=⟨[.ptr 8 0 0,.ptr 6 i 0,.ptr 1 0 0,.ptr 3 0 0,.J,.J,.d (.bool false),(bif S.getD 7 false then .c6 [.agg (az.vc bO (.sl 14 0 bO.ring.cells.length) (.sl 15 0 bO.pending.length) (.sl 16 0 bO.flight.length) (.sl 17 0 bO.bK.length)),.d (.int .i64 w)]else .J),(bif S.getD 0 false then .ptr 6 i 0 else .J),(bif S.getD 1 false then .ptr 6 i 0 else .J),(bif S.getD 2 false then .ptr 6 i 0 else .J),(bif S.getD 3 false then .ptr 6 i 1 else .J),(bif S.getD 4 false then .agg (az.vc X.send (.sl 9 0 X.send.ring.cells.length) (.sl 10 0 X.send.pending.length) (.sl 11 0 X.send.flight.length) (.sl 12 0 X.send.bK.length))else .J),(bif S.getD 5 false then .d (.str d)else .J),(bif S.getD 6 false then .c6 [.agg (az.vc bO (.sl 14 0 bO.ring.cells.length) (.sl 15 0 bO.pending.length) (.sl 16 0 bO.flight.length) (.sl 17 0 bO.bK.length)),.d (.int .i64 w)]else .J),(bif S.getD 8 false then .agg (az.vc bO (.sl 14 0 bO.ring.cells.length) (.sl 15 0 bO.pending.length) (.sl 16 0 bO.flight.length) (.sl 17 0 bO.bK.length))else .J),(bif S.getD 9 false then .d (.int .i64 w)else .J),(bif S.getD 10 false then .ptr 6 i 0 else .J),(bif S.getD 11 false then .ptr 6 i 1 else .J)],[bG,.box [.d (.str d)],bg,.box [.d (.int .i64 ((bif S.getD 13 false then w else 0)))],bY,eV,.fA 39 ((c.streams.map aa.enc).take i) (bif S.getD 12 false then [.d (.int .i64 X.id),.d (.int .i64 bO.state),.d (.int .i64 bO.ring.size),.d (.int .i64 bO.ring.base),.d (.int .i64 bO.ring.b'),.sl 14 0 bO.ring.cells.length,.sl 15 0 bO.pending.length,.sl 16 0 bO.flight.length,.sl 17 0 bO.bK.length,.d (.int .i64 bO.bj),.d (.int .i64 bO.bd),.d (.int .i64 bO.sent),.d (.int .i64 bO.code),.d (.int .i64 X.cV.a8),.d (.int .i64 X.cV.used),.d (.int .i64 X.cV.blocked),.d (.int .i64 X.cV.told),.d (.int .i64 X.recv.state),.d (.int .i64 X.recv.buffer.next),.sl 13 0 X.recv.buffer.bu.length,.d (.int .i64 X.recv.bj),.d (.int .i64 X.recv.fc),.d (.int .i64 X.recv.code),.d (.int .i64 X.bP.size),.d (.int .i64 X.bP.most),.d (.int .i64 X.bP.a8),.d (.int .i64 X.bP.seen),.d (.int .i64 X.bP.read),.d (.int .i64 X.bP.j6),.d (.int .i64 X.priority.fB),.d (.bool X.priority.eW),.d (.bool X.ee),.d (.bool X.eD),.d (.bool X.ix),.d (.bool X.iy),.d (.bool X.k6),.d (.bool X.jo),.d (.int .i64 X.lW),.d (.bool X.counted)]else(aa.vc X (.sl 9 0 X.send.ring.cells.length) (.sl 10 0 X.send.pending.length) (.sl 11 0 X.send.flight.length) (.sl 12 0 X.send.bK.length) (.sl 13 0 X.recv.buffer.bu.length))) ((c.streams.map aa.enc).drop (i+1)),kP,tL,.ai 1 (X.send.ring.cells.map aW) true,.ai 2 (X.send.pending.map ab.enc) true,.ai 2 (X.send.flight.map ab.enc) true,.ai 2 (X.send.bK.map ab.enc) true,.ai 2 (X.recv.buffer.bu.map aB.enc) true]++(bif S.getD 6 false then [.ai 1 (bO.ring.cells.map aW) true,.ai 2 (bO.pending.map ab.enc) true,.ai 2 (bO.flight.map ab.enc) true,.ai 2 (bO.bK.map ab.enc) true]else [])⟩
set_option maxHeartbeats 80000000 in
theorem XL(c:I)(id:Int)(d:List UInt8)(hz:e0 c)(bo:∀s∈c.streams,jm s.send)(hd:d.length≤1048576):PureCall Tryz.prog 13 [.agg (I.enc c),.one (.int .i64 id),.one (.str d)] [.one (.int .i64 (oy c id d)),.agg (I.enc ((eH c id d)))]:=by
 refine aL 20 Tryz.func13 Tryz.call13 [.tmp 6,.cell 7 37] ?_;intro ok;clear ok;have hI:=Gu (zV bo) id;have hC:eH c id d=if gR c id then {c with streams:=putS c.streams (fb (aE c id) (kz (aE c id).send d))}else c:=rfl
 have aZ:oy c id d=if gR c id then o8 (aE c id).send d else 0:=rfl
 simp only[go_sem];refine ae.inl (Dz c hz id false 56 [.ptr 1 0 0,.ptr 3 0 0] (fun h=>?_) (fun i hi vP h1 h=>?_))
 ·rw[hI]at h;rw[h]at hC aZ;simp only[go_sem,oW,List.length_nil,bf,bn,Nat.reduceAdd];apply yB;(focus ((repeat'(first|exact vQ|(refine vR ?_ ?_)|(refine yC rfl ?_)|(refine yD rfl ?_)|(simp only[go_sem])));all_goals exact rfl));simp only[go_sem,lM]
  all_goals simp[hC,aZ]
 ·rw[hI]at h;rw[h]at hC aZ;obtain⟨X,b_⟩:∃X,X=c.streams[i]:=⟨_,rfl⟩;have hm:X∈c.streams:=b_▸List.getElem_mem hi;have av:=bZ aa.enc c.streams i hi;rw[←b_]at av;have nn:aE c id=X:=by rw[b_];exact Dw h1 hi
  have hid:X.id=id:=by rw[b_];exact Dy h1 hi
  rw[nn]at aZ hC;have hn:=bo X hm;obtain⟨cU,c9,cq,dd⟩:=hz.2.1 X hm;obtain⟨w,hw⟩:∃w,w=o8 X.send d:=⟨_,rfl⟩;have tK:PureCall Tryz.prog 57 [.agg (az.enc X.send),.one (.str d)] [.agg (az.enc ((kz X.send d))),.one (.int .i64 (o8 X.send d))]:=by
   apply XM<;>first|assumption|omega
  obtain⟨bO,ky⟩:∃bO,bO=kz X.send d:=⟨_,rfl⟩;rw[←ky]at tK hC;rw[←hw]at tK aZ;refine(yA (n:=19) (rs:=[.tmp 6]) Tryz.func56 rfl Tryz.call56 rfl rfl ?_);simp only[go_sem,oW,List.length_nil,bf,bn,Nat.reduceAdd];refine zW 6 i ?_;simp only[go_sem,lM,av,aa.enc];refine uP hZ 3 ?_;simp only[go_sem];refine hH _ (iT (fun S σ=>σ=Ku c d i X bO w _ _ _ _ _ _ S) (N:=14) rfl rfl rfl ?_) ?_
  ·repeat'(first|exact iU|refine iV ?_ ?_)
   all_goals(
    rintro S σ F hl aX hp hcl rfl aZ;obtain⟨gq,cU,c9,cq,dd,iD,jI,j4,kM,mO,vI,yq,Bp,Dl,rfl⟩:=XK hl;simp only[List.getElem?_cons_succ,List.getElem?_cons_zero,uB]at aX;subst aX;simp[gQ,Region.binds]at hp
    repeat(obtain⟨c_,hp⟩:=hp;subst c_)
    try subst hp
    simp only[Ku,pG,oV,cond_true,cond_false,bf,bn,List.append_nil]
    repeat'(first
      |exact aZ _ rfl
      |(refine b9 ?_)
      |(refine de ?_)
      |(obtain rfl:=ob (hcl 4 6 _ rfl (by decide) rfl);obtain rfl:=ob (hcl 6 7 _ rfl (by decide) rfl);obtain rfl:=ob (hcl 7 8 _ rfl (by decide) rfl);obtain rfl:=ob (hcl 7 9 _ rfl (by decide) rfl);obtain rfl:=ob (hcl 4 10 _ rfl (by decide) rfl);obtain rfl:=ob (hcl 10 11 _ rfl (by decide) rfl);obtain rfl:=ob (hcl 11 12 _ rfl (by decide) rfl);obtain rfl:=ob (hcl 9 13 _ rfl (by decide) rfl);simp only[cond_false];refine al ?_;simp only[go_sem];exact aZ _ rfl)
      |(obtain rfl:=ob (hcl 6 7 _ rfl (by decide) rfl);obtain rfl:=ob (hcl 7 8 _ rfl (by decide) rfl);obtain rfl:=ob (hcl 7 9 _ rfl (by decide) rfl);obtain rfl:=ob (hcl 6 10 _ rfl (by decide) rfl);obtain rfl:=ob (hcl 10 11 _ rfl (by decide) rfl);obtain rfl:=ob (hcl 11 12 _ rfl (by decide) rfl);obtain rfl:=ob (hcl 9 13 _ rfl (by decide) rfl);simp only[cond_false];refine ae.intro (by assumption) ?_;simp only[go_sem,lM,bf,bn];exact aZ _ rfl)
      |(with_reducible refine al ?_)
      |simp only[go_sem,lM,bf,bn]))
  rintro _ rfl;simp only[Ku,List.replicate,pG,oV,cond_true,bf,bn];simp only[go_sem];refine uQ 6 ?_;simp only[go_sem,lM];refine al ?_;refine gO hZ ?_
  try simp only[go_sem]
  have hle:(c.streams.length≤((c.streams.map aa.enc).take i).length+(((c.streams.map aa.enc).drop (i+1)).length+1))=True:=eq_true (by rw[List.length_take,List.length_drop,lM];omega);have bI:=Gw (Y:=fb X bO) h1 hi hid;simp only[aa.enc,fb]at bI;refine⟨true,c,6,c.streams.length,7,c.packets.length,rfl,rfl,rfl,rfl,fun hb=>?_,fun hb=>Bool.noConfusion hb⟩;simp only[go_sem];apply yB;(focus ((repeat'(first|exact vQ|(refine vR ?_ ?_)|(refine yC rfl ?_)|(refine yD rfl ?_)|(simp only[go_sem,if_true])));all_goals exact rfl));simp only[go_sem,lM,hle,if_true];refine al ?_;rw[hC,aZ];simp only[if_true,bI];rfl
set_option maxRecDepth 100000
def oz(c:I)(id k:Int):Bool:=fM c&&(strOf c.streams id).2&&(aE c id).eD&&!(aE c id).jo&&!decide (1<(aE c id).recv.state)&&bJ k
def zX(s:aa)(k:Int):aa:={s with jo:=true,lW:=k,iy:=true}
def DA(c:I)(id k:Int):I:=if oz c id k then {c with streams:=putS c.streams (zX (aE c id) k)}else c
theorem Ye(c:I)(id k:Int):(bif bif bif bif bif !fM c then true else !(strOf c.streams id).2 then true else !(aE c id).eD then true else(aE c id).jo then true else decide (1<(aE c id).recv.state)then true else !bJ k)=!oz c id k:=by
 unfold oz
 cases fM c<;>cases(strOf c.streams id).2<;>cases(aE c id).eD<;>cases(aE c id).jo<;>cases decide (1<(aE c id).recv.state)<;>cases bJ k<;>rfl
set_option maxHeartbeats 8000000 in
theorem Yf(c:I)(id k:Int)(hz:e0 c):PureCall Tryz.prog 24 [.agg (I.enc c),.one (.int .i64 id),.one (.int .i64 k)] [.agg (I.enc ((DA c id k))),.one (.bool (oz c id k))]:=by
 refine aL 57 Tryz.func24 Tryz.call24 [.cell 6 37,.tmp 7] ?_;intro ok;clear ok;have jk:=iQ hz;have hC:DA c id k=if oz c id k then {c with streams:=putS c.streams (zX (aE c id) k)}else c:=rfl
 have bw:=Ye c id k;have uO:dT (aE c id):=mR hz.2.1 id;have b1:=mm c id hz;rw[show(strOf c.streams id).1=aE c id from rfl]at b1;have gp:=k4 c.streams (zX (aE c id) k) (by have:=hz.1;omega) hz.2.1 uO;generalize aE c id=s at *;obtain⟨cU,c9,cq,dd⟩:=uO
 try simp only[go_sem]
 repeat'((first|refine ae.af (by first|assumption|(apply gg<;>first|assumption|omega)|(apply tD<;>first|assumption|omega)) ?_|refine ao.af (by first|assumption|apply hJ) ?_|refine bb ?_)<;>simp only[go_sem,lM])
 rw[bw]
 cases hg:oz c id k with
 |false=>
  rw[hg]at hC
  try simp only[go_sem,lM,Bool.not_false]
  repeat'(first|((first|refine ae.af (by assumption) ?_|refine ao.af (by assumption) ?_)<;>simp only[go_sem,lM,Bool.not_false])|(with_reducible refine al ?_)|fail)
  all_goals simp[hC]
 |true=>
  rw[hg]at hC;simp only[zX]at gp hC
  try simp only[go_sem,lM,Bool.not_true]
  repeat'(first|((first|refine ae.af (by assumption) ?_|refine ao.af (by assumption) ?_)<;>simp only[go_sem,lM])|(with_reducible refine al ?_)|fail)
  all_goals simp[hC]
def vT(c:I)(n:Int):Bool:=fM c&&bN n 1 1000&&!decide (1000000<IntKind.i64.wrap (c.gh+n))
def BB(c:I)(n:Int):I:=if vT c n then {c with gh:=IntKind.i64.wrap (c.gh+n)}else c
theorem P2(c:I)(n:Int):(bif bif !fM c then true else !bN n 1 1000 then true else decide (1000000<IntKind.i64.wrap (c.gh+n)))=!vT c n:=by
 unfold vT
 cases fM c<;>cases bN n 1 1000<;>cases decide (1000000<IntKind.i64.wrap (c.gh+n))<;>rfl
set_option maxHeartbeats 8000000 in
theorem Yg(c:I)(n:Int)(hz:e0 c):PureCall Tryz.prog 30 [.agg (I.enc c),.one (.int .i64 n)] [.agg (I.enc ((BB c n))),.one (.bool (vT c n))]:=by
 refine aL 31 Tryz.func30 Tryz.call30 [.cell 4 37,.tmp 5] ?_;intro ok;clear ok;have jk:=iQ hz;have hC:BB c n=if vT c n then {c with gh:=IntKind.i64.wrap (c.gh+n)}else c:=rfl
 have bw:=P2 c n
 try simp only[go_sem]
 repeat'((first|refine ae.af (by first|(apply gg<;>first|assumption|omega)|(apply tD<;>first|assumption|omega)) ?_|refine ao.af (by apply iE) ?_|refine bb ?_)<;>simp only[go_sem,lM])
 rw[bw]
 cases hg:vT c n with
 |false=>
  rw[hg]at hC
  try simp only[go_sem,lM,Bool.not_false]
  repeat'(first|(with_reducible refine al ?_)|fail)
  all_goals simp[hC]
 |true=>
  rw[hg]at hC
  try simp only[go_sem,lM,Bool.not_true]
  repeat'(first|(with_reducible refine al ?_)|fail)
  all_goals simp[hC]
set_option maxRecDepth 100000
theorem XN{x:Int}(h:0≤x):(bif decide (x=0)then true else decide (x=1))=!decide (1<x):=by
 rw[Bool.eq_iff_iff];simp;omega
theorem XO(r:bA)(h:0≤r.state):PureCall Tryz.prog 73 [.agg (bA.enc r)] [.one (.bool (!decide (1<r.state)))]:=by
 refine aL 11 Tryz.func73 Tryz.call73 [.tmp 2] ?_;intro ok;clear ok;have h2:=XN h
 try simp only[go_sem]
 repeat'(refine bb ?_<;>simp only[go_sem])
 all_goals rw[h2]
def Bx(c:I)(id:Int):Bool:=fM c&&(strOf c.streams id).2&&(aE c id).eD
theorem XP{c:I}(hI:eQ c=o7 c)(id:Int):tI c id true=Bx c id:=by
 unfold tI Bx fM;rw[hI];rfl
theorem XQ{c:I}{id k:Int}{X:aa}(h:Bx c id=true)(hs:aE c id=X):(bif bif X.jo then true else decide (1<X.recv.state)then true else !bJ k)=!oz c id k:=by
 unfold oz;unfold Bx at h;rw[h,hs]
 cases X.jo<;>cases decide (1<X.recv.state)<;>cases bJ k<;>rfl
theorem XR{S:List Bool}(h:S.length=13):∃a0 bD bR a3 a4 a5 ec e9 fC a9 j1 lz nf,S=[a0,bD,bR,a3,a4,a5,ec,e9,fC,a9,j1,lz,nf]:=by
 match S,h with|[a0,bD,bR,a3,a4,a5,ec,e9,fC,a9,j1,lz,nf],_=>exact⟨a0,bD,bR,a3,a4,a5,ec,e9,fC,a9,j1,lz,nf,rfl⟩
def Kv(c:I)(k:Int)(i:Nat)(X:aa)(np nq u8 nr ns nt nu nv nw nx u16 ny nz nA nB nC nD:V)(bG bg bT bY mS kP:H)(S:List Bool):St:=⟨[.ptr 7 0 0,.ptr 5 i 0,.ptr 1 0 0,.J,.J,.d (.bool false),np,nq,u8,nr,ns,nt,nu,nv,nw,nx,u16,ny,nz,nA,nB,nC,nD,(bif S.getD 0 false then .ptr 5 i 0 else .J),(bif S.getD 1 false then .ptr 5 i 0 else .J),(bif S.getD 2 false then .ptr 5 i 0 else .J),(bif S.getD 3 false then .d (.int .i64 k)else .J),(bif S.getD 4 false then .ptr 5 i 0 else .J),(bif S.getD 5 false then .ptr 5 i 36 else .J),(bif S.getD 7 false then .ptr 5 i 0 else .J),(bif S.getD 8 false then .ptr 5 i 37 else .J),(bif S.getD 10 false then .ptr 5 i 0 else .J),(bif S.getD 11 false then .ptr 5 i 34 else .J)],[bG,.box [.d (.int .i64 k)],bg,bT,bY,.fA 39 ((c.streams.map aa.enc).take i) [.d (.int .i64 X.id),.d (.int .i64 X.send.state),.d (.int .i64 X.send.ring.size),.d (.int .i64 X.send.ring.base),.d (.int .i64 X.send.ring.b'),.sl 8 0 X.send.ring.cells.length,.sl 9 0 X.send.pending.length,.sl 10 0 X.send.flight.length,.sl 11 0 X.send.bK.length,.d (.int .i64 X.send.bj),.d (.int .i64 X.send.bd),.d (.int .i64 X.send.sent),.d (.int .i64 X.send.code),.d (.int .i64 X.cV.a8),.d (.int .i64 X.cV.used),.d (.int .i64 X.cV.blocked),.d (.int .i64 X.cV.told),.d (.int .i64 X.recv.state),.d (.int .i64 X.recv.buffer.next),.sl 12 0 X.recv.buffer.bu.length,.d (.int .i64 X.recv.bj),.d (.int .i64 X.recv.fc),.d (.int .i64 X.recv.code),.d (.int .i64 X.bP.size),.d (.int .i64 X.bP.most),.d (.int .i64 X.bP.a8),.d (.int .i64 X.bP.seen),.d (.int .i64 X.bP.read),.d (.int .i64 X.bP.j6),.d (.int .i64 X.priority.fB),.d (.bool X.priority.eW),.d (.bool X.ee),.d (.bool X.eD),.d (.bool X.ix),.d (.bool (bif S.getD 12 false then true else X.iy)),.d (.bool X.k6),.d (.bool (bif S.getD 6 false then true else X.jo)),.d (.int .i64 (bif S.getD 9 false then k else X.lW)),.d (.bool X.counted)] ((c.streams.map aa.enc).drop (i+1)),mS,kP,.ai 1 (X.send.ring.cells.map aW) true,.ai 2 (X.send.pending.map ab.enc) true,.ai 2 (X.send.flight.map ab.enc) true,.ai 2 (X.send.bK.map ab.enc) true,.ai 2 (X.recv.buffer.bu.map aB.enc) true]⟩
set_option maxHeartbeats 80000000 in
theorem XS(c:I)(id k:Int)(hz:e0 c)(bo:∀s∈c.streams,jm s.send)(aI:eQ c=true→∀s∈c.streams,0≤s.recv.state):PureCall Tryz.prog 23 [.agg (I.enc c),.one (.int .i64 id),.one (.int .i64 k)] [.agg (I.enc ((DA c id k))),.one (.bool (oz c id k))]:=by
 refine aL 14 Tryz.func23 Tryz.call23 [.cell 6 37,.tmp 7] ?_;intro ok;clear ok;have hI:=XP (zV bo) id;have hC:DA c id k=if oz c id k then {c with streams:=putS c.streams (zX (aE c id) k)}else c:=rfl
 simp only[go_sem];refine ae.inl (Dz c hz id true 72 [.ptr 1 0 0] (fun h=>?_) (fun i hi vP h1 h=>?_))
 ·rw[hI]at h;have aZ:oz c id k=false:=by unfold oz;unfold Bx at h;rw[h];rfl
  rw[aZ]at hC;simp only[go_sem,oW,List.length_nil,bf,bn,Nat.reduceAdd]
  try simp only[go_sem,lM]
  repeat'(first|(with_reducible refine al ?_)|fail)
  all_goals simp[hC,aZ]
 ·rw[hI]at h;obtain⟨X,b_⟩:∃X,X=c.streams[i]:=⟨_,rfl⟩;have hm:X∈c.streams:=b_▸List.getElem_mem hi;have av:=bZ aa.enc c.streams i hi;rw[←b_]at av;have nn:aE c id=X:=by rw[b_];exact Dw h1 hi
  have hid:X.id=id:=by rw[b_];exact Dy h1 hi
  have bw:=XQ (k:=k) h nn;rw[nn]at hC;have hn:=bo X hm;have hr:=aI (by unfold Bx fM at h;simp only[cX]at h;exact h.1.1.1) X hm;obtain⟨cU,c9,cq,dd⟩:=hz.2.1 X hm;refine(yA (n:=33) (rs:=[.tmp 5]) Tryz.func72 rfl Tryz.call72 rfl rfl ?_);simp only[go_sem,oW,List.length_nil,bf,bn,Nat.reduceAdd];refine zW 5 i ?_;simp only[go_sem,lM,av,aa.enc];refine uP hZ 2 ?_
  try simp only[go_sem]
  repeat'(first|((first|refine ao.intro (by first|(apply XO<;>first|assumption|omega)|apply ng) ?_|refine bb ?_)<;>simp only[go_sem,lM])|(with_reducible refine al ?_)|fail)
  rw[bw]
  cases hg:oz c id k with
  |false=>
   rw[hg]at hC;simp only[go_sem,Bool.not_false];refine⟨false,c,5,c.streams.length,6,c.packets.length,rfl,rfl,rfl,rfl,fun hb=>Bool.noConfusion hb,fun hb=>?_⟩;simp only[go_sem]
   try simp only[go_sem,lM]
   repeat'(first|(with_reducible refine al ?_)|fail)
   all_goals simp[hC]
  |true=>
   rw[hg]at hC;simp only[go_sem,Bool.not_true];refine uP hZ 1 ?_;simp only[go_sem];refine hH _ (iT (fun S σ=>σ=Kv c k i X _ _ _ _ _ _ _ _ _ _ _ _ _ _ _ _ _ _ _ _ _ _ _ S) (N:=13) rfl rfl rfl ?_) ?_
   ·repeat'(first|exact iU|refine iV ?_ ?_)
    all_goals(
     rintro S σ F hl aX hp hcl rfl aZ;obtain⟨gq,cU,c9,cq,dd,iD,jI,j4,kM,mO,vI,yq,Bp,rfl⟩:=XR hl;simp only[List.getElem?_cons_succ,List.getElem?_cons_zero,uB]at aX;subst aX;simp[gQ,Region.binds]at hp
     repeat(obtain⟨c_,hp⟩:=hp;subst c_)
     try subst hp
     simp only[Kv,pG,oV,cond_true,cond_false]
     repeat'(first
       |exact aZ _ rfl
       |(refine b9 ?_)
       |(refine de ?_)
       |(with_reducible refine al ?_)
       |simp only[go_sem,bf,bn]))
   rintro _ rfl;simp only[Kv,List.replicate,pG,oV,cond_true];simp only[go_sem];refine uQ 5 ?_;simp only[go_sem,lM];refine al ?_;refine gO hZ ?_
   try simp only[go_sem]
   repeat'(first|(refine bb ?_<;>simp only[go_sem,lM])|(with_reducible refine al ?_)|fail)
   have hle:(c.streams.length≤((c.streams.map aa.enc).take i).length+(((c.streams.map aa.enc).drop (i+1)).length+1))=True:=eq_true (by rw[List.length_take,List.length_drop,lM];omega);have bI:=Gw (Y:=zX X k) h1 hi hid;simp only[aa.enc,zX]at bI;refine⟨true,c,5,c.streams.length,6,c.packets.length,rfl,rfl,rfl,rfl,fun hb=>?_,fun hb=>Bool.noConfusion hb⟩;simp only[go_sem]
   try simp only[go_sem,lM,hle,if_true]
   repeat'(first|(with_reducible refine al ?_)|fail)
   rw[hC];simp only[if_true,bI];rfl
theorem X5{l:List aa}{s:aa}{i:Nat}(h:fIx (ed s.id) l=(i:Int))(hi:i<l.length):putS l s=l.take i++s::l.drop (i+1):=by
 have h2:l.findIdx? (ed s.id)=some i:=by
  unfold fIx at h;split at h
  ·rename_i j e;rw[e];congr 1;omega
  ·omega
 have e:putS l s=l.set i s:=by unfold putS;rw[h2]
 rw[e,List.set_eq_take_append_cons_drop,if_pos hi]
theorem XZ{α:Type}{p:α→Bool}{l:List α}{i:Nat}{s:α}(h:fIx p l=(i:Int))(hi:i<l.length)(hs:p s=true):fIx p (l.take i++s::l.drop (i+1))=(i:Int):=by
 have h2:l.findIdx? p=some i:=by
  unfold fIx at h;split at h
  ·rename_i j e;rw[e];congr 1;omega
  ·omega
 rw[List.findIdx?_eq_some_iff_getElem]at h2;obtain⟨_,_,aj⟩:=h2;have hl:(l.take i).length=i:=by rw[List.length_take];omega
 refine LO p _ i (by simp;omega) ?_ ?_
 ·rw[List.take_append_of_le_length (by omega),List.take_of_length_le (by omega),List.any_eq_false];intro x hx;obtain⟨j,ak,rfl⟩:=List.mem_take_iff_getElem.1 hx;exact aj j (by omega)
 ·rw[List.getElem_append_right (by omega)];simp[hl,hs]
theorem X4{α β:Type}(f:α→β)(l:List α)(i:Nat)(hi:i<l.length)(y:α){L:List α}(hL:L=l.take i++y::l.drop (i+1)) :
  L.length=l.length∧(L.map f)[i]?=some (f y)∧(L.map f).take i=(l.map f).take i∧(L.map f).drop (i+1)=(l.map f).drop (i+1)∧(l.map f).take i++f y::(l.map f).drop (i+1)=L.map f:=by
 have hl:((l.map f).take i).length=i:=by rw[List.length_take,lM];omega
 have e:(l.map f).take i++f y::(l.map f).drop (i+1)=L.map f:=by rw[hL];simp
 refine⟨by rw[hL];simp;omega,?_,?_,?_,e⟩
 ·rw[←e,List.getElem?_append_right (by omega),hl,Nat.sub_self];rfl
 ·rw[←e,List.take_append_of_le_length (by omega),List.take_of_length_le (by omega)]
 ·rw[←e,List.drop_append,hl,List.drop_of_length_le (by omega),Nat.add_sub_cancel_left];rfl
theorem X6{α β:Type}{f:α→β}{l:List α}{i:Nat}{y:α}{L:List α}(hL:L=l.take i++y::l.drop (i+1)):(l.map f).take i++f y::(l.map f).drop (i+1)=L.map f:=by rw[hL];simp
theorem Gz(b:Bool){p:Prop}(h1:b=true→p)(h2:b=false→p):p:=by cases b<;>simp_all
set_option maxRecDepth 100000
def PX:List (List bt):=ct 12 [501956,501954,501948,501930,524839,524677,524191,522733,528160,511798,472392,354294]
attribute [go_sem] PX
theorem XT{s:az}(h:jm s)(k:Int):jm (o9 s k):=by
 unfold o9;split
 ·simp[jm]
 ·exact h
theorem XU{S:List Bool}(h:S.length=12):∃a0 bD bR a3 a4 a5 ec e9 fC a9 j1 lz,S=[a0,bD,bR,a3,a4,a5,ec,e9,fC,a9,j1,lz]:=by
 match S,h with|[a0,bD,bR,a3,a4,a5,ec,e9,fC,a9,j1,lz],_=>exact⟨a0,bD,bR,a3,a4,a5,ec,e9,fC,a9,j1,lz,rfl⟩
def lv(bO:az)(a b c d:Nat):List V:=(az.vc bO (.sl a 0 bO.ring.cells.length) (.sl b 0 bO.pending.length) (.sl c 0 bO.flight.length) (.sl d 0 bO.bK.length))
def Kw(c:I)(id k:Int)(i:Nat)(X:aa)(bO:az)(b:Bool)(bG bT bY eV kP tL:H)(S:List Bool):St:=⟨(.ptr 8 0 0::.ptr 6 i 0::.ptr 2 0 0::.ptr 1 0 0::.J::.J::.d (.bool false)::(bif S.getD 9 false then .ptr 14 0 0 else .J)::(bif S.getD 11 false then .d (.bool b)else .J)::(bif S.getD 6 false then .c6 [.agg (lv bO 15 16 17 18),.d (.bool b)]else .J)::(bif S.getD 0 false then .ptr 6 i 0 else .J)::(bif S.getD 1 false then .ptr 6 i 0 else .J)::(bif S.getD 2 false then .ptr 6 i 1 else .J)::(bif S.getD 3 false then .agg (lv X.send 9 10 11 12)else .J)::(bif S.getD 4 false then .d (.int .i64 k)else .J)::(bif S.getD 5 false then .c6 [.agg (lv bO 15 16 17 18),.d (.bool b)]else .J)::(bif S.getD 7 false then .agg (lv bO 15 16 17 18)else .J)::(bif S.getD 8 false then .d (.bool b)else .J)::jn 11 []),[bG,.box [.d (.int .i64 id)],.box [.d (.int .i64 k)],bT,bY,eV,.fA 39 ((c.streams.map aa.enc).take i) (aa.vc X (.sl 9 0 X.send.ring.cells.length) (.sl 10 0 X.send.pending.length) (.sl 11 0 X.send.flight.length) (.sl 12 0 X.send.bK.length) (.sl 13 0 X.recv.buffer.bu.length)) ((c.streams.map aa.enc).drop (i+1)),kP,tL,.ai 1 (X.send.ring.cells.map aW) true,.ai 2 (X.send.pending.map ab.enc) true,.ai 2 (X.send.flight.map ab.enc) true,.ai 2 (X.send.bK.map ab.enc) true,.ai 2 (X.recv.buffer.bu.map aB.enc) true]++((bif S.getD 9 false then [.box (bif S.getD 10 false then(lv bO 15 16 17 18)else az.bH)]else [])++(bif S.getD 5 false then [.ai 1 (bO.ring.cells.map aW) true,.ai 2 (bO.pending.map ab.enc) true,.ai 2 (bO.flight.map ab.enc) true,.ai 2 (bO.bK.map ab.enc) true]else []))⟩
def Kx(c:I)(id k:Int)(i:Nat)(X:aa)(bO:az)(b:Bool)(bG bT bY eV kP tL:H)(S:List Bool):St:=⟨(.ptr 8 0 0::.ptr 6 i 0::.ptr 2 0 0::.ptr 1 0 0::.J::.J::.d (.bool false)::(bif S.getD 9 false then .ptr 18 0 0 else .J)::(bif S.getD 11 false then .d (.bool b)else .J)::(bif S.getD 6 false then .c6 [.agg (lv bO 14 15 16 17),.d (.bool b)]else .J)::(bif S.getD 0 false then .ptr 6 i 0 else .J)::(bif S.getD 1 false then .ptr 6 i 0 else .J)::(bif S.getD 2 false then .ptr 6 i 1 else .J)::(bif S.getD 3 false then .agg (lv X.send 9 10 11 12)else .J)::(bif S.getD 4 false then .d (.int .i64 k)else .J)::(bif S.getD 5 false then .c6 [.agg (lv bO 14 15 16 17),.d (.bool b)]else .J)::(bif S.getD 7 false then .agg (lv bO 14 15 16 17)else .J)::(bif S.getD 8 false then .d (.bool b)else .J)::jn 11 []),[bG,.box [.d (.int .i64 id)],.box [.d (.int .i64 k)],bT,bY,eV,.fA 39 ((c.streams.map aa.enc).take i) (aa.vc X (.sl 9 0 X.send.ring.cells.length) (.sl 10 0 X.send.pending.length) (.sl 11 0 X.send.flight.length) (.sl 12 0 X.send.bK.length) (.sl 13 0 X.recv.buffer.bu.length)) ((c.streams.map aa.enc).drop (i+1)),kP,tL,.ai 1 (X.send.ring.cells.map aW) true,.ai 2 (X.send.pending.map ab.enc) true,.ai 2 (X.send.flight.map ab.enc) true,.ai 2 (X.send.bK.map ab.enc) true,.ai 2 (X.recv.buffer.bu.map aB.enc) true]++((bif S.getD 5 false then [.ai 1 (bO.ring.cells.map aW) true,.ai 2 (bO.pending.map ab.enc) true,.ai 2 (bO.flight.map ab.enc) true,.ai 2 (bO.bK.map ab.enc) true]else [])++(bif S.getD 9 false then [.box (bif S.getD 10 false then(lv bO 14 15 16 17)else az.bH)]else []))⟩
def Ky(o:Bool)(c:I)(id k:Int)(i:Nat)(X:aa)(bO:az)(b:Bool)(bG bT bY eV kP tL:H)(S:List Bool):St:=bif o then Kw c id k i X bO b bG bT bY eV kP tL S else Kx c id k i X bO b bG bT bY eV kP tL S
set_option maxHeartbeats 80000000 in
theorem XV(c:I)(id k:Int)(hz:e0 c)(bo:∀s∈c.streams,jm s.send)(hw:dT (e3 (aE c id) k)):PureCall Tryz.prog 21 [.agg (I.enc c),.one (.int .i64 id),.one (.int .i64 k)] [.agg (I.enc ((jM c id k))),.one (.bool (o_ c id k))]:=by
 refine aL 14 Tryz.func21 Tryz.call21 [.cell 6 37,.tmp 7] ?_;intro ok;clear ok;have hI:=Gu (zV bo) id;have hC:jM c id k=if o_ c id k then dR c (e3 (aE c id) k)else c:=rfl
 have aZ:o_ c id k=(gR c id&&lX (aE c id).send k):=rfl;simp only[go_sem];refine ae.inl (Dz c hz id false 67 [.ptr 2 0 0,.ptr 1 0 0] (fun h=>?_) (fun i hi vP h1 h=>?_))
 ·rw[hI]at h;rw[h,Bool.false_and]at aZ;rw[aZ]at hC;simp only[go_sem,oW,List.length_nil,bf,bn,Nat.reduceAdd]
  try simp only[go_sem,lM]
  repeat'(first|(with_reducible refine al ?_)|fail)
  all_goals simp[hC,aZ]
 ·rw[hI]at h;rw[h,Bool.true_and]at aZ;obtain⟨X,b_⟩:∃X,X=c.streams[i]:=⟨_,rfl⟩;have hm:X∈c.streams:=b_▸List.getElem_mem hi;have av:=bZ aa.enc c.streams i hi;rw[←b_]at av;have nn:aE c id=X:=by rw[b_];exact Dw h1 hi
  have hid:X.id=id:=by rw[b_];exact Dy h1 hi
  rw[nn]at aZ hC hw;have hn:=bo X hm;have PY:=XT hn k;obtain⟨cU,c9,cq,dd⟩:=hz.2.1 X hm;have tK:PureCall Tryz.prog 68 [.agg (az.enc X.send),.one (.int .i64 k)] [.agg (az.enc ((o9 X.send k))),.one (.bool (lX X.send k))]:=by
   apply XW<;>first|assumption|omega
  obtain⟨bO,ky⟩:∃bO,bO=o9 X.send k:=⟨_,rfl⟩;obtain⟨b,hb⟩:∃b,b=lX X.send k:=⟨_,rfl⟩;obtain⟨Y,tJ⟩:∃Y,Y=e3 X k:=⟨_,rfl⟩;have Kz:Y={X with send:=bO,ix:=true}:=by rw[tJ,ky];rfl
  rw[←ky,←hb]at tK;rw[←hb]at aZ;rw[←ky]at PY;rw[←tJ]at hC hw;have zY:Y.id=id:=by rw[Kz];exact hid
  have XX:ed id Y=true:=by simp[ed,zY]
  obtain⟨L,hL⟩:∃L,L=c.streams.take i++Y::c.streams.drop (i+1):=⟨_,rfl⟩;have XY:=By L id;rw[hL,XZ h1 hi XX,←hL]at XY;obtain⟨X0,X1,X2,X3,yE⟩:=X4 aa.enc c.streams i hi Y hL;simp only[aa.enc]at yE;have bI:∀bO:aa,bO.id=id→(putS c.streams bO).map aa.enc=(c.streams.map aa.enc).take i++bO.enc::(c.streams.map aa.enc).drop (i+1):=fun bO ky=>by rw[X5 (s:=bO) (i:=i) (by rw[ky];exact h1) hi,List.map_append,List.map_cons,List.map_take,List.map_drop]
  have KA:L.map aa.enc=(putS c.streams Y).map aa.enc:=by rw[bI Y zY,X6 hL]
  have KB:List.take L.length ((c.streams.map aa.enc).take i++aa.enc {Y with counted:=true}::(c.streams.map aa.enc).drop (i+1))=(putS c.streams {Y with counted:=true}).map aa.enc:=by rw[bI {Y with counted:=true} zY,List.take_of_length_le (by rw[List.length_append,oW,List.length_take,List.length_drop,lM];omega)]
  simp only[aa.enc]at KB;have hle:(L.length≤((c.streams.map aa.enc).take i).length+(((c.streams.map aa.enc).drop (i+1)).length+1))=True:=eq_true (by rw[List.length_take,List.length_drop,lM];omega);have KC:Gx Y=xn Y:=by unfold Gx xn;rw[PZ (by rw[Kz];exact PY)]
  have Gy:PureCall Tryz.prog 132 [.agg (aa.enc Y)] [.one (.bool (xn Y))]:=by
   obtain⟨eI,gj,lY,KD⟩:=hw;rw[←KC];apply X7<;>first|assumption|omega|(intro eO hc;have:=lY eO hc;omega)
  have P0:∀a:du,PureCall Tryz.prog 133 [.agg [.int .i64 a.most,.int .i64 a.a8,.int .i64 a.seen,.int .i64 a.closed]] [.agg [.int .i64 ((i_ a)).most,.int .i64 ((i_ a)).a8,.int .i64 ((i_ a)).seen,.int .i64 ((i_ a)).closed],.one (.bool (vS a))]:=fun a=>by apply X8
  have ag7:=P0 c.dH;have ag8:=P0 c.dI;have P1:aa.enc Y=aa.enc Y:=rfl
  conv at P1=>lhs;rw[Kz];simp only[aa.enc]
  refine(yA (n:=29) (rs:=[.tmp 6]) Tryz.func67 rfl Tryz.call67 rfl rfl ?_);simp only[go_sem,oW,List.length_nil,bf,bn,Nat.reduceAdd];refine zW 6 i ?_;simp only[go_sem,lM,av,aa.enc];refine uP hZ 3 ?_;have hlt:i=((c.streams.map aa.enc).take i).length:=by rw[List.length_take,lM];omega
  simp only[go_sem];refine hH _ (iT (fun S σ=>∃o,(S.getD (bif o then 5 else 9) false=true→S.getD (bif o then 9 else 5) false=true)∧σ=Ky o c id k i X bO b _ _ _ _ _ _ S) (N:=12) rfl rfl ⟨true,fun h=>Bool.noConfusion h,rfl⟩ ?_) ?_
  ·repeat'(first|exact iU|refine iV ?_ ?_)
   all_goals(
    rintro S σ F hl aX hp hcl ⟨_|_,hc,rfl⟩ aZ)
   all_goals(
    obtain⟨gq,cU,c9,cq,dd,iD,jI,j4,kM,mO,vI,yq,rfl⟩:=XU hl;simp only[List.getElem?_cons_succ,List.getElem?_cons_zero,uB]at aX;subst aX;simp[gQ,Region.binds]at hp
    repeat(obtain⟨c_,hp⟩:=hp;subst c_)
    try subst hp
    first|(obtain rfl:=ob (hcl 0 1 _ rfl (by decide) rfl);obtain rfl:=ob (hcl 1 2 _ rfl (by decide) rfl);obtain rfl:=ob (hcl 2 3 _ rfl (by decide) rfl);obtain rfl:=ob (hcl 3 5 _ rfl (by decide) rfl);obtain rfl:=ob (hcl 5 6 _ rfl (by decide) rfl);obtain rfl:=ob (hcl 6 7 _ rfl (by decide) rfl);obtain rfl:=ob (hcl 6 8 _ rfl (by decide) rfl);obtain rfl:=ob (hcl 7 10 _ rfl (by decide) rfl);obtain rfl:=ob (hcl 8 11 _ rfl (by decide) rfl))|(obtain rfl:=ob (hcl 1 2 _ rfl (by decide) rfl);obtain rfl:=ob (hcl 2 3 _ rfl (by decide) rfl);obtain rfl:=ob (hcl 3 5 _ rfl (by decide) rfl);obtain rfl:=ob (hcl 5 6 _ rfl (by decide) rfl);obtain rfl:=ob (hcl 6 7 _ rfl (by decide) rfl);obtain rfl:=ob (hcl 6 8 _ rfl (by decide) rfl);obtain rfl:=ob (hcl 7 10 _ rfl (by decide) rfl);obtain rfl:=ob (hcl 8 11 _ rfl (by decide) rfl))|(obtain rfl:=ob (hcl 2 3 _ rfl (by decide) rfl);obtain rfl:=ob (hcl 3 5 _ rfl (by decide) rfl);obtain rfl:=ob (hcl 5 6 _ rfl (by decide) rfl);obtain rfl:=ob (hcl 6 7 _ rfl (by decide) rfl);obtain rfl:=ob (hcl 6 8 _ rfl (by decide) rfl);obtain rfl:=ob (hcl 7 10 _ rfl (by decide) rfl);obtain rfl:=ob (hcl 8 11 _ rfl (by decide) rfl))|(obtain rfl:=ob (hcl 3 5 _ rfl (by decide) rfl);obtain rfl:=ob (hcl 5 6 _ rfl (by decide) rfl);obtain rfl:=ob (hcl 6 7 _ rfl (by decide) rfl);obtain rfl:=ob (hcl 6 8 _ rfl (by decide) rfl);obtain rfl:=ob (hcl 7 10 _ rfl (by decide) rfl);obtain rfl:=ob (hcl 8 11 _ rfl (by decide) rfl))|(obtain rfl:=ob (hcl 4 5 _ rfl (by decide) rfl);obtain rfl:=ob (hcl 5 6 _ rfl (by decide) rfl);obtain rfl:=ob (hcl 6 7 _ rfl (by decide) rfl);obtain rfl:=ob (hcl 6 8 _ rfl (by decide) rfl);obtain rfl:=ob (hcl 7 10 _ rfl (by decide) rfl);obtain rfl:=ob (hcl 8 11 _ rfl (by decide) rfl))|(obtain rfl:=ob (hcl 5 6 _ rfl (by decide) rfl);obtain rfl:=ob (hcl 6 7 _ rfl (by decide) rfl);obtain rfl:=ob (hcl 6 8 _ rfl (by decide) rfl);obtain rfl:=ob (hcl 7 10 _ rfl (by decide) rfl);obtain rfl:=ob (hcl 8 11 _ rfl (by decide) rfl))|(obtain rfl:=ob (hcl 6 7 _ rfl (by decide) rfl);obtain rfl:=ob (hcl 6 8 _ rfl (by decide) rfl);obtain rfl:=ob (hcl 7 10 _ rfl (by decide) rfl);obtain rfl:=ob (hcl 8 11 _ rfl (by decide) rfl))|(obtain rfl:=ob (hcl 7 10 _ rfl (by decide) rfl);obtain rfl:=ob (hcl 10 11 _ rfl (by decide) rfl))|(obtain rfl:=ob (hcl 8 11 _ rfl (by decide) rfl))|(obtain rfl:=ob (hcl 9 10 _ rfl (by decide) rfl);obtain rfl:=ob (hcl 10 11 _ rfl (by decide) rfl))|(obtain rfl:=ob (hcl 10 11 _ rfl (by decide) rfl))|skip
    try cases iD)
   all_goals(try cases mO)
   all_goals(try(try obtain rfl:=ob (hcl 5 6 _ rfl (by decide) rfl);try obtain rfl:=ob (hcl 6 7 _ rfl (by decide) rfl);try obtain rfl:=ob (hcl 6 8 _ rfl (by decide) rfl);try obtain rfl:=ob (hcl 7 10 _ rfl (by decide) rfl);try obtain rfl:=ob (hcl 8 11 _ rfl (by decide) rfl)))
   all_goals(try(try obtain rfl:=ob (hcl 9 10 _ rfl (by decide) rfl);try obtain rfl:=ob (hcl 10 11 _ rfl (by decide) rfl)))
   all_goals(try(exact absurd (show false=true from hc rfl) (by decide)))
   all_goals(
    simp only[Ky,Kw,Kx,lv,pG,oV,cond_true,cond_false,bf,bn,List.append_nil]
    repeat'(first
      |exact aZ _ (⟨true,hc,rfl⟩)|exact aZ _ (⟨false,hc,rfl⟩)|exact aZ _ (⟨true,fun _=>rfl,rfl⟩)|exact aZ _ (⟨false,fun _=>rfl,rfl⟩)|exact aZ _ (⟨true,fun h=>Bool.noConfusion h,rfl⟩)|exact aZ _ (⟨false,fun h=>Bool.noConfusion h,rfl⟩)
      |(refine b9 ?_)
      |(refine de ?_)
      |(refine ae.intro (by assumption) ?_)
      |(with_reducible refine al ?_)
      |(refine⟨⟨hlt,by omega⟩,?_⟩)
      |simp only[go_sem,lM,bf,bn]))
  rintro _ ⟨_|_,_,rfl⟩
  all_goals(
   simp only[Ky,Kw,Kx,lv,cond_false,List.replicate,pG,oV,cond_true,bf,bn];simp only[go_sem])
  all_goals(
   skip
   try simp only[go_sem,lM]
   repeat'(first|(with_reducible refine al ?_)|fail)
   refine uQ 6 ?_;simp only[go_sem,lM,P1,yE,←X0];refine al ?_;refine uP hZ 1 ?_;simp only[go_sem];refine ae.inl (yA (n:=43) (rs:=[]) Tryz.func69 rfl Tryz.call69 rfl rfl ?_);refine uP hZ 1 ?_;simp only[go_sem];refine ae.inl (en (n:=16) (rs:=[.tmp 4]) Tryz.func130 rfl Tryz.call130 hZ rfl rfl ?_);simp only[go_sem]
   try simp only[go_sem,lM,aF]
   repeat'(first|((first|refine ae.intro (by assumption) ?_|refine ao.intro (by assumption) ?_|refine ba PX (by kernel_rfl) (by rfl) ?_)<;>simp only[go_sem,lM,aF])|(with_reducible refine al ?_)|fail)
   refine zW 6 i ?_;simp only[go_sem,lM,X1,X2,X3,aa.enc];refine gO hZ ?_;refine Gz (lB c.cr id) (fun b1=>?_) (fun b1=>?_)
   ·skip
    have yF:mo c Y=false:=by unfold mo;rw[zY];simp[b1]
    try simp only[go_sem]
    repeat'(first|((first|refine ae.intro (by first|assumption|apply Bz) ?_|refine ao.intro (by assumption) ?_|with_reducible refine b9 ?_|with_reducible refine de ?_)<;>simp only[go_sem,b1])|(with_reducible refine al ?_)|fail)
    refine uQ 6 ?_;simp only[go_sem,lM,yE];refine al ?_;refine gO hZ ?_
    try simp only[go_sem]
    repeat'(first|(with_reducible refine al ?_)|fail)
    refine⟨b,c,6,_,7,_,rfl,rfl,rfl,rfl,fun dM=>?_,fun dM=>?_⟩
    ·rw[dM]at aZ;rw[aZ,if_pos rfl]at hC;simp only[go_sem]
     try simp only[go_sem,lM,if_true]
     repeat'(first|(with_reducible refine al ?_)|fail)
     rw[hC,aZ,DB yF];simp only[KA]
     try rfl
    ·rw[dM]at aZ;rw[aZ]at hC;simp only[go_sem]
     try simp only[go_sem,lM]
     repeat'(first|(with_reducible refine al ?_)|fail)
     all_goals simp[hC,aZ]
   refine Gz Y.counted (fun bF=>?_) (fun bF=>?_)
   ·skip
    have yF:mo c Y=false:=by unfold mo;simp[bF]
    simp only[bF]at yE
    try simp only[go_sem,bF]
    repeat'(first|((first|refine ae.intro (by first|assumption|apply Bz) ?_|refine ao.intro (by assumption) ?_|with_reducible refine b9 ?_|with_reducible refine de ?_)<;>simp only[go_sem,b1])|(with_reducible refine al ?_)|fail)
    refine uQ 6 ?_;simp only[go_sem,lM,yE];refine al ?_;refine gO hZ ?_
    try simp only[go_sem]
    repeat'(first|(with_reducible refine al ?_)|fail)
    refine⟨b,c,6,_,7,_,rfl,rfl,rfl,rfl,fun dM=>?_,fun dM=>?_⟩
    ·rw[dM]at aZ;rw[aZ,if_pos rfl]at hC;simp only[go_sem]
     try simp only[go_sem,lM,if_true]
     repeat'(first|(with_reducible refine al ?_)|fail)
     rw[hC,aZ,DB yF];simp only[KA]
     try rfl
    ·rw[dM]at aZ;rw[aZ]at hC;simp only[go_sem]
     try simp only[go_sem,lM]
     repeat'(first|(with_reducible refine al ?_)|fail)
     all_goals simp[hC,aZ]
   refine Gz (xn Y) (fun hV=>?_) (fun hV=>?_)
   ·skip
    have yF:mo c Y=true:=by unfold mo;rw[zY];simp[b1,bF,hV]
    rw[hV]at Gy;simp only[aa.enc,bF]at Gy yE
    try simp only[go_sem,bF]
    repeat'(first|((first|refine ae.intro (by first|assumption|apply Bz) ?_|refine ao.intro (by assumption) ?_|with_reducible refine b9 ?_|with_reducible refine de ?_)<;>simp only[go_sem,lM,b1])|(with_reducible refine al ?_)|fail)
    refine ae.inl (en (n:=13) (rs:=[.tmp 4]) Tryz.func134 rfl Tryz.call134 hZ rfl rfl ?_);simp only[go_sem];refine Gz (k7 id) (fun uR=>?_) (fun uR=>?_)
    ·skip
     have KE:k7 Y.id=true:=by rw[zY];exact uR
     try simp only[go_sem,lM,uR]
     repeat'((first|refine ae.intro (by first|assumption|apply BA) ?_|refine ao.intro (by assumption) ?_)<;>simp only[go_sem,uR])
     try simp only[go_sem,lM]
     repeat'(first|((first|with_reducible refine b9 ?_|with_reducible refine de ?_)<;>simp only[go_sem,lM])|(with_reducible refine al ?_)|fail)
     refine ae.inl (en (n:=13) (rs:=[.tmp 4]) Tryz.func134 rfl Tryz.call134 hZ rfl rfl ?_);simp only[go_sem]
     try simp only[go_sem,lM,uR]
     repeat'((first|refine ae.intro (by first|assumption|apply BA) ?_|refine ao.intro (by assumption) ?_)<;>simp only[go_sem,uR])
     try simp only[go_sem,lM]
     repeat'(first|((first|with_reducible refine b9 ?_|with_reducible refine de ?_)<;>simp only[go_sem,lM])|(with_reducible refine al ?_)|fail)
     refine uQ 6 ?_;simp only[go_sem,lM];refine al ?_;refine gO hZ ?_
     try simp only[go_sem]
     repeat'(first|(with_reducible refine al ?_)|fail)
     refine⟨b,{c with dI:=i_ c.dI},6,_,7,_,rfl,rfl,rfl,rfl,fun dM=>?_,fun dM=>?_⟩
     ·rw[dM]at aZ;rw[aZ,if_pos rfl]at hC;simp only[go_sem]
      try simp only[go_sem,lM,hle,if_true]
      repeat'(first|(with_reducible refine al ?_)|fail)
      rw[hC,aZ,KF yF KE];simp only[KB]
      try rfl
     ·rw[dM]at aZ;rw[aZ]at hC;simp only[go_sem]
      try simp only[go_sem,lM]
      repeat'(first|(with_reducible refine al ?_)|fail)
      all_goals simp[hC,aZ]
    ·skip
     have KE:k7 Y.id=false:=by rw[zY];exact uR
     try simp only[go_sem,lM,uR]
     repeat'((first|refine ae.intro (by first|assumption|apply BA) ?_|refine ao.intro (by assumption) ?_)<;>simp only[go_sem,uR])
     try simp only[go_sem,lM]
     repeat'(first|((first|with_reducible refine b9 ?_|with_reducible refine de ?_)<;>simp only[go_sem,lM])|(with_reducible refine al ?_)|fail)
     refine ae.inl (en (n:=13) (rs:=[.tmp 4]) Tryz.func134 rfl Tryz.call134 hZ rfl rfl ?_);simp only[go_sem]
     try simp only[go_sem,lM,uR]
     repeat'((first|refine ae.intro (by first|assumption|apply BA) ?_|refine ao.intro (by assumption) ?_)<;>simp only[go_sem,uR])
     try simp only[go_sem,lM]
     repeat'(first|((first|with_reducible refine b9 ?_|with_reducible refine de ?_)<;>simp only[go_sem,lM])|(with_reducible refine al ?_)|fail)
     refine uQ 6 ?_;simp only[go_sem,lM];refine al ?_;refine gO hZ ?_
     try simp only[go_sem]
     repeat'(first|(with_reducible refine al ?_)|fail)
     refine⟨b,{c with dH:=i_ c.dH},6,_,7,_,rfl,rfl,rfl,rfl,fun dM=>?_,fun dM=>?_⟩
     ·rw[dM]at aZ;rw[aZ,if_pos rfl]at hC;simp only[go_sem]
      try simp only[go_sem,lM,hle,if_true]
      repeat'(first|(with_reducible refine al ?_)|fail)
      rw[hC,aZ,KG yF KE];simp only[KB]
      try rfl
     ·rw[dM]at aZ;rw[aZ]at hC;simp only[go_sem]
      try simp only[go_sem,lM]
      repeat'(first|(with_reducible refine al ?_)|fail)
      all_goals simp[hC,aZ]
   ·skip
    have yF:mo c Y=false:=by unfold mo;simp[hV]
    rw[hV]at Gy;simp only[aa.enc,bF]at Gy yE
    try simp only[go_sem,bF]
    repeat'(first|((first|refine ae.intro (by first|assumption|apply Bz) ?_|refine ao.intro (by assumption) ?_|with_reducible refine b9 ?_|with_reducible refine de ?_)<;>simp only[go_sem,lM,b1])|(with_reducible refine al ?_)|fail)
    refine uQ 6 ?_;simp only[go_sem,lM,yE];refine al ?_;refine gO hZ ?_
    try simp only[go_sem]
    repeat'(first|(with_reducible refine al ?_)|fail)
    refine⟨b,c,6,_,7,_,rfl,rfl,rfl,rfl,fun dM=>?_,fun dM=>?_⟩
    ·rw[dM]at aZ;rw[aZ,if_pos rfl]at hC;simp only[go_sem]
     try simp only[go_sem,lM,if_true]
     repeat'(first|(with_reducible refine al ?_)|fail)
     rw[hC,aZ,DB yF];simp only[KA]
     try rfl
    ·rw[dM]at aZ;rw[aZ]at hC;simp only[go_sem]
     try simp only[go_sem,lM]
     repeat'(first|(with_reducible refine al ?_)|fail)
     all_goals simp[hC,aZ]    )
set_option maxRecDepth 100000
set_option maxHeartbeats 8000000 in
theorem X9(c:I)(n:Int)(hz:e0 c)(bo:∀s∈c.streams,jm s.send):PureCall Tryz.prog 29 [.agg (I.enc c),.one (.int .i64 n)] [.agg (I.enc ((BB c n))),.one (.bool (vT c n))]:=by
 refine aL 31 Tryz.func29 Tryz.call29 [.cell 4 37,.tmp 5] ?_;intro ok;clear ok;have jk:=iQ hz;have KH:=Kt c (by omega);have GA:=KI c hz;have ag9:=iS n 1 1000;have hC:BB c n=if vT c n then {c with gh:=IntKind.i64.wrap (c.gh+n)}else c:=rfl
 have bw:=P2 c n;rw[show fM c=(o7 c&&decide (c.closed=0))by unfold fM;rw[zV bo]]at bw
 try simp only[go_sem]
 repeat'((first|refine ae.af (by assumption) ?_|refine ao.af (by assumption) ?_|refine bb ?_)<;>simp only[go_sem,lM])
 rw[bw]
 cases hg:vT c n with
 |false=>
  rw[hg]at hC
  try simp only[go_sem,lM,Bool.not_false]
  repeat'(first|(with_reducible refine al ?_)|fail)
  all_goals simp[hC]
 |true=>
  rw[hg]at hC
  try simp only[go_sem,lM,Bool.not_true]
  repeat'(first|(with_reducible refine al ?_)|fail)
  all_goals simp[hC]
set_option maxRecDepth 100000
def SplitAt(s:List UInt8):Prop:=PureCall Tryz.prog 137 [.one (.str s),.one (.str [44])] [.one (.sl 1 ((cutL s 44).map eS))]
def TrimAt:Prop:=∀t:List UInt8,t.length≤1000→PureCall Tryz.prog 138 [.one (.str t),.one (.str [32])] [.one (.str (jG t))]
set_option maxHeartbeats 4000000 in
theorem Ya(km:Int)(kn:Bool)(s:List UInt8)(hl:s.length≤1000)(hC:SplitAt s)(KK:TrimAt):PureCall Tryz.prog 77 [.agg [.int .i64 km,.bool kn],.one (.str s)] [.agg [.int .i64 (nk (⟨km,kn⟩:fN) s).fB,.bool (nk (⟨km,kn⟩:fN) s).eW]]:=by
 refine aL 58 Tryz.func77 Tryz.call77 [.cell 4 65] ?_;intro ok;clear ok;obtain⟨c1,c2⟩:=cutL_len s 44;unfold SplitAt at hC;have ah:nk (⟨km,kn⟩:fN) s=(cutL s 44).foldl gY (if lR (⟨km,kn⟩:fN)then(⟨km,kn⟩:fN)else mg):=rfl;obtain⟨iw,c_⟩:∃iw,iw=(if lR (⟨km,kn⟩:fN)then(⟨km,kn⟩:fN)else mg):=⟨_,rfl⟩;rw[←c_]at ah;generalize cutL s 44=l at *
 cases hI:lR (⟨km,kn⟩:fN)with
 |false=>
  try simp only[go_sem]
  repeat'((first|refine ae.intro (by first|assumption|apply Ob|apply Vf) ?_|refine ao.intro (by assumption) ?_)<;>simp only[go_sem,lM,hI])
  refine b5.intro (fun i:Nat=>⟨(.J::.J::.ptr 0 0 0::.J::.ptr 1 0 0::jn 7 (.sl 2 0 l.length::.d (.int .i64 l.length)::.d (.int .i64 i)::jn 43 [])),[.box [.d (.int .i64 ((l.take i).foldl gY iw).fB),.d (.bool ((l.take i).foldl gY iw).eW)],.box [.d (.int .i64 0),.d (.bool false)],.ai 1 (l.map eS) true]⟩)
   (fun i=>l.length-i) (fun i=>i≤l.length) 0 [0,1,2] (by omega) ?_ ?_
  ·simp only[go_sem];simp[c_,hI,mg]
  ·intro i hi;by_cases h1:i<l.length
   ·have ar:decide ((i:Int)<(l.length:Int))=true:=bc (by omega);have av:=bZ eS l i h1;have hw:IntKind.i64.wrap ((i:Int)+1)=((i+1:Nat):Int):=by rw[bC]<;>omega
    have hs:=C4 gY iw l i h1;have jN:gY ((l.take i).foldl gY iw) l[i]=iv ((l.take i).foldl gY iw) (jG l[i]):=rfl;have cn:=KK l[i] (by have:=c2 _ (List.getElem_mem h1);omega);rw[jN]at hs;generalize (l.take i).foldl gY iw=q at *;generalize jG l[i]=t at *
    try simp only[go_sem,lM,aF,av,eS,ar]
    repeat'(first|((first|refine ae.intro (by assumption) ?_|refine ao.intro (by assumption) ?_|refine bb ?_)<;>simp only[go_sem])|(with_reducible refine al ?_)|fail)
    by_cases bD:t=[105]∨t=[105,61,63,49]
    ·have hm:iv q t={q with eW:=true}:=by unfold iv;exact if_pos bD
     have dx:(bif decide (t=[105])then true else decide (t=[105,61,63,49]))=true:=by rcases bD with h|h<;>simp[h]
     simp only[dx]
     try simp only[go_sem]
     repeat'((first|refine ae.intro (by assumption) ?_|refine ao.intro (by assumption) ?_)<;>simp only[go_sem,lM])
     refine bm.intro (i+1) [0,1,2] (by omega) (by omega) ?_;simp only[go_sem,hw,hs,hm];simp
    ·have dx:(bif decide (t=[105])then true else decide (t=[105,61,63,49]))=false:=by simp only[not_or]at bD;simp[bD.1,bD.2]
     simp only[dx];by_cases bR:t=[105,61,63,48]
     ·have hm:iv q t={q with eW:=false}:=by unfold iv;exact(if_neg bD).trans (if_pos bR)
      have dt:decide (t=[105,61,63,48])=true:=bc bR
      try simp only[go_sem,dt]
      repeat'((first|refine ae.intro (by assumption) ?_|refine ao.intro (by assumption) ?_)<;>simp only[go_sem,lM,dt])
      refine bm.intro (i+1) [0,1,2] (by omega) (by omega) ?_;simp only[go_sem,hw,hs,hm];simp
     ·have dt:decide (t=[105,61,63,48])=false:=a_ bR;have hm:iv q t=if t.length=3∧t.take 2=[117,61]∧48≤(t[2]?.getD 0).toNat∧(t[2]?.getD 0).toNat≤55 then {q with fB:=((t[2]?.getD 0).toNat:Int)-48}else q:=by unfold iv;exact(if_neg bD).trans (if_neg bR)
      by_cases a3:t.length=3
      ·have dq:decide ((t.length:Int)=3)=true:=bc (by omega)
       try simp only[go_sem,dt,dq]
       repeat'(first|((first|refine ae.intro (by assumption) ?_|refine ao.intro (by assumption) ?_|with_reducible refine b9 ?_|refine bb ?_|refine bp (fun h=>?_) (fun h=>?_))<;>simp only[go_sem])|(with_reducible refine al ?_)|fail)
       ·have hh:t.take 2=[117,61]∧48≤(t[2]?.getD 0).toNat∧(t[2]?.getD 0).toNat≤55:=by
         simp only[cf,cX,il,and_assoc]at h;exact⟨h.1,by omega,by omega⟩
        rw[if_pos ⟨a3,hh⟩]at hm;have ag:IntKind.u8.wrap (((t[2]?.getD 0).toNat:Int)-48)=((t[2]?.getD 0).toNat:Int)-48:=EB (by omega) (by omega);have e2:IntKind.i64.wrap (((t[2]?.getD 0).toNat:Int)-48)=((t[2]?.getD 0).toNat:Int)-48:=by rw[bC]<;>omega
        refine bm.intro (i+1) [0,1,2] (by omega) (by omega) ?_;simp only[go_sem,hw,hs,hm,ag,e2];simp
       ·have hh:¬(t.length=3∧t.take 2=[117,61]∧48≤(t[2]?.getD 0).toNat∧(t[2]?.getD 0).toNat≤55):=by
         rintro⟨_,g1,cx,g3⟩;have A':decide (48≤((t[2]?.getD 0).toNat:Int))=true:=bc (by omega);have Ba:decide (((t[2]?.getD 0).toNat:Int)≤55)=true:=bc (by omega);rw[A',Ba,bc g1]at h
         cases h
        rw[if_neg hh]at hm;refine bm.intro (i+1) [0,1,2] (by omega) (by omega) ?_;simp only[go_sem,hw,hs,hm];simp
      ·have dq:decide ((t.length:Int)=3)=false:=a_ (by omega);rw[if_neg (fun h=>a3 h.1)]at hm
       try simp only[go_sem,dt,dq]
       repeat'((first|refine ae.intro (by assumption) ?_|refine ao.intro (by assumption) ?_|with_reducible refine de ?_)<;>simp only[go_sem])
       all_goals(refine bm.intro (i+1) [0,1,2] (by omega) (by omega) ?_;simp only[go_sem,hw,hs,hm];simp)
   ·have ar:decide ((i:Int)<(l.length:Int))=false:=a_ (by omega);obtain rfl:i=l.length:=by omega
    rw[dB]
    try simp only[go_sem,ar]
    repeat'((first|refine ae.intro (by assumption) ?_|refine ao.intro (by assumption) ?_)<;>simp only[go_sem,lM,ar])
    all_goals simp[ah]
 |true=>
  try simp only[go_sem]
  repeat'((first|refine ae.intro (by first|assumption|apply Ob) ?_|refine ao.intro (by assumption) ?_)<;>simp only[go_sem,lM,hI])
  refine b5.intro (fun i:Nat=>⟨(.J::.J::.ptr 0 0 0::.J::.ptr 1 0 0::jn 7 (.sl 2 0 l.length::.d (.int .i64 l.length)::.d (.int .i64 i)::jn 43 [])),[.box [.d (.int .i64 ((l.take i).foldl gY iw).fB),.d (.bool ((l.take i).foldl gY iw).eW)],.box [.d (.int .i64 0),.d (.bool false)],.ai 1 (l.map eS) true]⟩)
   (fun i=>l.length-i) (fun i=>i≤l.length) 0 [0,1,2] (by omega) ?_ ?_
  ·simp only[go_sem];simp[c_,hI]
  ·intro i hi;by_cases h1:i<l.length
   ·have ar:decide ((i:Int)<(l.length:Int))=true:=bc (by omega);have av:=bZ eS l i h1;have hw:IntKind.i64.wrap ((i:Int)+1)=((i+1:Nat):Int):=by rw[bC]<;>omega
    have hs:=C4 gY iw l i h1;have jN:gY ((l.take i).foldl gY iw) l[i]=iv ((l.take i).foldl gY iw) (jG l[i]):=rfl;have cn:=KK l[i] (by have:=c2 _ (List.getElem_mem h1);omega);rw[jN]at hs;generalize (l.take i).foldl gY iw=q at *;generalize jG l[i]=t at *
    try simp only[go_sem,lM,aF,av,eS,ar]
    repeat'(first|((first|refine ae.intro (by assumption) ?_|refine ao.intro (by assumption) ?_|refine bb ?_)<;>simp only[go_sem])|(with_reducible refine al ?_)|fail)
    by_cases bD:t=[105]∨t=[105,61,63,49]
    ·have hm:iv q t={q with eW:=true}:=by unfold iv;exact if_pos bD
     have dx:(bif decide (t=[105])then true else decide (t=[105,61,63,49]))=true:=by rcases bD with h|h<;>simp[h]
     simp only[dx]
     try simp only[go_sem]
     repeat'((first|refine ae.intro (by assumption) ?_|refine ao.intro (by assumption) ?_)<;>simp only[go_sem,lM])
     refine bm.intro (i+1) [0,1,2] (by omega) (by omega) ?_;simp only[go_sem,hw,hs,hm];simp
    ·have dx:(bif decide (t=[105])then true else decide (t=[105,61,63,49]))=false:=by simp only[not_or]at bD;simp[bD.1,bD.2]
     simp only[dx];by_cases bR:t=[105,61,63,48]
     ·have hm:iv q t={q with eW:=false}:=by unfold iv;exact(if_neg bD).trans (if_pos bR)
      have dt:decide (t=[105,61,63,48])=true:=bc bR
      try simp only[go_sem,dt]
      repeat'((first|refine ae.intro (by assumption) ?_|refine ao.intro (by assumption) ?_)<;>simp only[go_sem,lM,dt])
      refine bm.intro (i+1) [0,1,2] (by omega) (by omega) ?_;simp only[go_sem,hw,hs,hm];simp
     ·have dt:decide (t=[105,61,63,48])=false:=a_ bR;have hm:iv q t=if t.length=3∧t.take 2=[117,61]∧48≤(t[2]?.getD 0).toNat∧(t[2]?.getD 0).toNat≤55 then {q with fB:=((t[2]?.getD 0).toNat:Int)-48}else q:=by unfold iv;exact(if_neg bD).trans (if_neg bR)
      by_cases a3:t.length=3
      ·have dq:decide ((t.length:Int)=3)=true:=bc (by omega)
       try simp only[go_sem,dt,dq]
       repeat'(first|((first|refine ae.intro (by assumption) ?_|refine ao.intro (by assumption) ?_|with_reducible refine b9 ?_|refine bb ?_|refine bp (fun h=>?_) (fun h=>?_))<;>simp only[go_sem])|(with_reducible refine al ?_)|fail)
       ·have hh:t.take 2=[117,61]∧48≤(t[2]?.getD 0).toNat∧(t[2]?.getD 0).toNat≤55:=by
         simp only[cf,cX,il,and_assoc]at h;exact⟨h.1,by omega,by omega⟩
        rw[if_pos ⟨a3,hh⟩]at hm;have ag:IntKind.u8.wrap (((t[2]?.getD 0).toNat:Int)-48)=((t[2]?.getD 0).toNat:Int)-48:=EB (by omega) (by omega);have e2:IntKind.i64.wrap (((t[2]?.getD 0).toNat:Int)-48)=((t[2]?.getD 0).toNat:Int)-48:=by rw[bC]<;>omega
        refine bm.intro (i+1) [0,1,2] (by omega) (by omega) ?_;simp only[go_sem,hw,hs,hm,ag,e2];simp
       ·have hh:¬(t.length=3∧t.take 2=[117,61]∧48≤(t[2]?.getD 0).toNat∧(t[2]?.getD 0).toNat≤55):=by
         rintro⟨_,g1,cx,g3⟩;have A':decide (48≤((t[2]?.getD 0).toNat:Int))=true:=bc (by omega);have Ba:decide (((t[2]?.getD 0).toNat:Int)≤55)=true:=bc (by omega);rw[A',Ba,bc g1]at h
         cases h
        rw[if_neg hh]at hm;refine bm.intro (i+1) [0,1,2] (by omega) (by omega) ?_;simp only[go_sem,hw,hs,hm];simp
      ·have dq:decide ((t.length:Int)=3)=false:=a_ (by omega);rw[if_neg (fun h=>a3 h.1)]at hm
       try simp only[go_sem,dt,dq]
       repeat'((first|refine ae.intro (by assumption) ?_|refine ao.intro (by assumption) ?_|with_reducible refine de ?_)<;>simp only[go_sem])
       all_goals(refine bm.intro (i+1) [0,1,2] (by omega) (by omega) ?_;simp only[go_sem,hw,hs,hm];simp)
   ·have ar:decide ((i:Int)<(l.length:Int))=false:=a_ (by omega);obtain rfl:i=l.length:=by omega
    rw[dB]
    try simp only[go_sem,ar]
    repeat'((first|refine ae.intro (by assumption) ?_|refine ao.intro (by assumption) ?_)<;>simp only[go_sem,lM,ar])
    all_goals simp[ah]
set_option maxRecDepth 100000
theorem X_{S:List Bool}(h:S.length=10):∃a0 bD bR a3 a4 a5 ec e9 fC a9,S=[a0,bD,bR,a3,a4,a5,ec,e9,fC,a9]:=by
 match S,h with|[a0,bD,bR,a3,a4,a5,ec,e9,fC,a9],_=>exact⟨a0,bD,bR,a3,a4,a5,ec,e9,fC,a9,rfl⟩
def KJ(c:I)(t:List UInt8)(i:Nat)(X:aa)(Q:fN)(bG bg bT bY mS kP:H)(S:List Bool):St:=⟨[.ptr 7 0 0,.ptr 5 i 0,.ptr 1 0 0,.J,.J,.d (.bool false),(bif S.getD 0 false then .ptr 5 i 0 else .J),(bif S.getD 1 false then .ptr 5 i 0 else .J),(bif S.getD 2 false then .ptr 5 i 0 else .J),(bif S.getD 3 false then .ptr 5 i 29 else .J),(bif S.getD 4 false then .agg [.d (.int .i64 X.priority.fB),.d (.bool X.priority.eW)]else .J),(bif S.getD 5 false then .d (.str t)else .J),(bif S.getD 6 false then .agg [.d (.int .i64 Q.fB),.d (.bool Q.eW)]else .J),(bif S.getD 7 false then .ptr 5 i 0 else .J),(bif S.getD 8 false then .ptr 5 i 29 else .J)],[bG,.box [.d (.str t)],bg,bT,bY,.fA 39 ((c.streams.map aa.enc).take i) [.d (.int .i64 X.id),.d (.int .i64 X.send.state),.d (.int .i64 X.send.ring.size),.d (.int .i64 X.send.ring.base),.d (.int .i64 X.send.ring.b'),.sl 8 0 X.send.ring.cells.length,.sl 9 0 X.send.pending.length,.sl 10 0 X.send.flight.length,.sl 11 0 X.send.bK.length,.d (.int .i64 X.send.bj),.d (.int .i64 X.send.bd),.d (.int .i64 X.send.sent),.d (.int .i64 X.send.code),.d (.int .i64 X.cV.a8),.d (.int .i64 X.cV.used),.d (.int .i64 X.cV.blocked),.d (.int .i64 X.cV.told),.d (.int .i64 X.recv.state),.d (.int .i64 X.recv.buffer.next),.sl 12 0 X.recv.buffer.bu.length,.d (.int .i64 X.recv.bj),.d (.int .i64 X.recv.fc),.d (.int .i64 X.recv.code),.d (.int .i64 X.bP.size),.d (.int .i64 X.bP.most),.d (.int .i64 X.bP.a8),.d (.int .i64 X.bP.seen),.d (.int .i64 X.bP.read),.d (.int .i64 X.bP.j6),.d (.int .i64 (bif S.getD 9 false then Q.fB else X.priority.fB)),.d (.bool (bif S.getD 9 false then Q.eW else X.priority.eW)),.d (.bool X.ee),.d (.bool X.eD),.d (.bool X.ix),.d (.bool X.iy),.d (.bool X.k6),.d (.bool X.jo),.d (.int .i64 X.lW),.d (.bool X.counted)] ((c.streams.map aa.enc).drop (i+1)),mS,kP,.ai 1 (X.send.ring.cells.map aW) true,.ai 2 (X.send.pending.map ab.enc) true,.ai 2 (X.send.flight.map ab.enc) true,.ai 2 (X.send.bK.map ab.enc) true,.ai 2 (X.recv.buffer.bu.map aB.enc) true]⟩
set_option maxHeartbeats 80000000 in
theorem X'(c:I)(id:Int)(t:List UInt8)(hz:e0 c)(bo:∀s∈c.streams,jm s.send)(hl:t.length≤1000)(aha:SplitAt t)(KK:TrimAt):PureCall Tryz.prog 26 [.agg (I.enc c),.one (.int .i64 id),.one (.str t)] [.agg (I.enc ((jL c id t))),.one (.bool (gR c id))]:=by
 refine aL 14 Tryz.func26 Tryz.call26 [.cell 6 37,.tmp 7] ?_;intro ok;clear ok;have hI:=Gu (zV bo) id;have hC:jL c id t=if gR c id then {c with streams:=putS c.streams {aE c id with priority:=nk (aE c id).priority t}}else c:=rfl
 simp only[go_sem];refine ae.inl (Dz c hz id false 76 [.ptr 1 0 0] (fun h=>?_) (fun i hi vP h1 h=>?_))
 ·rw[hI]at h;rw[h]at hC;simp only[go_sem,oW,List.length_nil,bf,bn,Nat.reduceAdd]
  try simp only[go_sem,lM]
  repeat'(first|(with_reducible refine al ?_)|fail)
  all_goals simp[hC,h]
 ·rw[hI]at h;rw[h]at hC;obtain⟨X,b_⟩:∃X,X=c.streams[i]:=⟨_,rfl⟩;have hm:X∈c.streams:=b_▸List.getElem_mem hi;have av:=bZ aa.enc c.streams i hi;rw[←b_]at av;have nn:aE c id=X:=by rw[b_];exact Dw h1 hi
  have hid:X.id=id:=by rw[b_];exact Dy h1 hi
  rw[nn]at hC;have hn:=bo X hm;obtain⟨cU,c9,cq,dd⟩:=hz.2.1 X hm;have tK:PureCall Tryz.prog 77 [.agg [.int .i64 X.priority.fB,.bool X.priority.eW],.one (.str t)] [.agg [.int .i64 ((nk X.priority t)).fB,.bool ((nk X.priority t)).eW]]:=by
   apply Ya<;>first|assumption|omega
  obtain⟨Q,gE⟩:∃Q,Q=nk X.priority t:=⟨_,rfl⟩;rw[←gE]at tK hC;refine(yA (n:=15) (rs:=[.tmp 5]) Tryz.func76 rfl Tryz.call76 rfl rfl ?_);simp only[go_sem,oW,List.length_nil,bf,bn,Nat.reduceAdd];refine zW 5 i ?_;simp only[go_sem,lM,av,aa.enc];refine uP hZ 3 ?_;simp only[go_sem];refine hH _ (iT (fun S σ=>σ=KJ c t i X Q _ _ _ _ _ _ S) (N:=10) rfl rfl rfl ?_) ?_
  ·repeat'(first|exact iU|refine iV ?_ ?_)
   all_goals(
    rintro S σ F hl aX hp hcl rfl aZ;obtain⟨gq,cU,c9,cq,dd,iD,jI,j4,kM,mO,rfl⟩:=X_ hl;simp only[List.getElem?_cons_succ,List.getElem?_cons_zero,uB]at aX;subst aX;simp[gQ,Region.binds]at hp
    repeat(obtain⟨c_,hp⟩:=hp;subst c_)
    try subst hp
    simp only[KJ,pG,oV,cond_true,cond_false]
    repeat'(first
      |exact aZ _ rfl
      |(refine b9 ?_)
      |(refine de ?_)
      |(obtain rfl:=ob (hcl 4 6 _ rfl (by decide) rfl);obtain rfl:=ob (hcl 4 7 _ rfl (by decide) rfl);obtain rfl:=ob (hcl 7 8 _ rfl (by decide) rfl);obtain rfl:=ob (hcl 8 9 _ rfl (by decide) rfl);simp only[cond_false];exact aZ _ rfl)
      |(refine ae.intro (by assumption) ?_)
      |(with_reducible refine al ?_)
      |simp only[go_sem,bf,bn]))
  rintro _ rfl;simp only[KJ,List.replicate,pG,oV,cond_true];simp only[go_sem];refine uQ 5 ?_;simp only[go_sem,lM];refine al ?_;refine gO hZ ?_
  try simp only[go_sem]
  have hle:(c.streams.length≤((c.streams.map aa.enc).take i).length+(((c.streams.map aa.enc).drop (i+1)).length+1))=True:=eq_true (by rw[List.length_take,List.length_drop,lM];omega);have bI:=Gw (Y:={X with priority:=Q}) h1 hi hid;simp only[aa.enc]at bI;refine⟨true,c,5,c.streams.length,6,c.packets.length,rfl,rfl,rfl,rfl,fun hb=>?_,fun hb=>Bool.noConfusion hb⟩;simp only[go_sem]
  try simp only[go_sem,lM,hle,if_true]
  repeat'(first|(with_reducible refine al ?_)|fail)
  rw[hC,h];simp only[if_true,bI]
  try rfl
set_option maxRecDepth 100000
set_option maxHeartbeats 8000000 in
theorem aeA(c:I)(id:Int)(hz:e0 c):PureCall Tryz.prog 18 [.agg (I.enc c),.one (.int .i64 id)] [.agg (aa.enc ((strOf c.streams id).1)),.one (.bool (strOf c.streams id).2)]:=by
 refine aL 20 Tryz.func18 Tryz.call18 [.cell 4 67,.tmp 5] ?_;intro ok;clear ok;obtain⟨nH,kC,z3,z4⟩:=hz;simp only[go_sem];refine ae.intro (By c.streams id) ?_;simp only[go_sem];rcases ox (ed id) c.streams with ⟨h1,h2⟩|⟨j,ak,h1,h2,aj⟩
 ·rw[h1];have ah:strOf c.streams id=(iG,false):=by unfold strOf;rw[h2]
  try simp only[go_sem]
  all_goals simp[ah,iG]
 ·rw[h1];have ah:strOf c.streams id=(c.streams[j],true):=by unfold strOf;rw[h2]
  have hlt:decide ((j:Int)<0)=false:=a_ (by omega);have av:=bZ aa.enc c.streams j ak;obtain⟨cH,bg,bT,bY⟩:=kC _ (List.getElem_mem ak)
  try simp only[go_sem,lM,hlt,aF,av,aa.enc]
  repeat'(first|(refine ae.intro (by(apply DJ<;>first|assumption|omega)) ?_<;>simp only[go_sem,lM,aa.enc])|(with_reducible refine al ?_)|fail)
  all_goals simp[ah]
def cutR(b:UInt8):List UInt8→List (List UInt8)
 |[]=>[[]]
 |x::s=>if x=b then []::cutR b s else(match cutR b s with|[]=>[[x]]|h::t=>(x::h)::t)
theorem Ot(b:UInt8):∀(s:List UInt8) (ps:List (List UInt8)) (p:List UInt8),(s.foldl (kq b) (ps,p)).1++[(s.foldl (kq b) (ps,p)).2]=ps++(match cutR b s with|[]=>[p]|h::t=>(p++h)::t)
 |[],ps,p=>by simp[cutR]
 |x::s,ps,p=>by
  rw[List.foldl_cons];by_cases hx:x=b
  ·have e:kq b (ps,p) x=(ps++[p],[]):=by unfold kq;exact if_pos hx
   rw[e,Ot b s];have e2:cutR b (x::s)=[]::cutR b s:=by rw[cutR,if_pos hx]
   rw[e2]
   cases h:cutR b s with
   |nil=>cases s<;>simp[cutR]at h;split at h<;>first|cases h|(split at h<;>cases h)
   |cons h t=>simp
  ·have e:kq b (ps,p) x=(ps,p++[x]):=by unfold kq;exact if_neg hx
   rw[e,Ot b s];have e2:cutR b (x::s)=(match cutR b s with|[]=>[[x]]|h::t=>(x::h)::t):=by rw[cutR,if_neg hx]
   rw[e2]
   cases cutR b s<;>simp
theorem afM(s:List UInt8)(b:UInt8):cutL s b=cutR b s:=by
 have h:=Ot b s [] [];unfold cutL oc;rw[h]
 cases h2:cutR b s with
 |nil=>cases s<;>simp[cutR]at h2;split at h2<;>first|cases h2|(split at h2<;>cases h2)
 |cons h t=>simp
theorem VJ(b:UInt8):∀(s:List UInt8),(Lib.index s [b]=-1→cutR b s=[s])∧∀i:Nat,Lib.index s [b]=i→cutR b s=s.take i::cutR b (s.drop (i+1))
 |[]=>by
  refine⟨fun _=>rfl,fun i h=>?_⟩;have:Lib.index [] [b]=-1:=rfl;omega
 |x::s=>by
  obtain⟨h1,h2⟩:=VJ b s;by_cases hx:x=b
  ·subst hx;have e:Lib.index (x::s) [x]=0:=by unfold Lib.index;simp
   refine⟨fun h=>by omega,fun i h=>?_⟩;have:i=0:=by omega
   subst this;simp[cutR]
  ·have hb:(b == x)=false:=by simpa using fun h:b=x=>hx h.symm
   have e:Lib.index (x::s) [b]=if Lib.index s [b] == -1 then -1 else Lib.index s [b]+1:=by
    conv=>lhs;unfold Lib.index
    simp[List.isPrefixOf,hb]
   have e2:cutR b (x::s)=(match cutR b s with|[]=>[[x]]|h::t=>(x::h)::t):=by rw[cutR,if_neg hx]
   have nK:=Lib.index_ge s [b];by_cases h0:Lib.index s [b]=-1
   ·refine⟨fun _=>by rw[e2,h1 h0],fun i h=>?_⟩;rw[e,h0]at h;exfalso;revert h;simp
   ·obtain⟨j,ak⟩:=Int.eq_ofNat_of_zero_le (show 0≤Lib.index s [b]by omega);have aY:Lib.index (x::s) [b]=Lib.index s [b]+1:=by rw[e,if_neg (by simpa using h0)]
    refine⟨fun h=>by omega,fun i h=>?_⟩;have hi:i=j+1:=by omega
    subst hi;rw[e2,h2 j ak];simp
theorem VK(b:UInt8):∀(n:Nat) (s:List UInt8),s.length<n→Lib.splitK [b] 0 (Lib.countFrom [b] n s) s=cutR b s
 |0,s,h=>by omega
 |n+1,s,h=>by
  obtain⟨h1,h2⟩:=VJ b s;have nK:=Lib.index_ge s [b];by_cases h0:Lib.index s [b]=-1
  ·have e:Lib.countFrom [b] (n+1) s=0:=by unfold Lib.countFrom;rw[if_pos (by simpa using h0)]
   rw[e,h1 h0];rfl
  ·obtain⟨i,hi⟩:=Int.eq_ofNat_of_zero_le (show 0≤Lib.index s [b]by omega);have hr:=Lib.index_room s [b] (by omega);have e:Lib.countFrom [b] (n+1) s=Lib.countFrom [b] n (s.drop (i+1))+1:=by
    conv=>lhs;unfold Lib.countFrom
    rw[if_neg (by simpa using h0),hi];simp only[aF,oW,List.length_nil,Nat.zero_add];omega
   rw[e,h2 i hi]
   conv=>lhs;unfold Lib.splitK
   rw[if_neg (by simpa using h0),hi];simp only[aF,oW,List.length_nil,Nat.add_zero,Nat.zero_add];rw[VK b n _ (by simp only[List.length_drop,oW,List.length_nil]at *;omega)]
theorem split_cut(s:List UInt8)(b:UInt8):Lib.split s [b]=cutL s b:=by
 unfold Lib.split Lib.count;rw[VK b _ s (by omega),afM]
theorem afN(l:List UInt8):Lib.trimB l 32=jG l:=by
 have ag:∀l:List UInt8,Lib.trimLeftB l 32=mi l:=fun l=>by
  unfold Lib.trimLeftB mi;congr 1
 have e2:∀l:List UInt8,Lib.trimRightB l 32=gN l:=fun l=>by
  unfold Lib.trimRightB gN;congr 2
 unfold Lib.trimB jG;rw[ag,e2]
 induction l with
 |nil=>rfl
 |cons x r dr=>
  have hr:gN (x::r)=if gN r=[]then gN [x]else x::gN r:=by
   unfold gN;rw[List.reverse_cons,List.dropWhile_append]
   cases hd:r.reverse.dropWhile (fun x=>decide (x=32))with
   |nil=>simp
   |cons y t=>simp
  by_cases hx:x=32
  ·subst hx;rw[Ji,←dr,hr];by_cases h0:gN r=[]
   ·rw[if_pos h0,h0];rfl
   ·rw[if_neg h0,Ji]
  ·rw[Fy hx,hr];split
   ·rename_i h0;have:gN [x]=[x]:=by simp[gN,hx]
    rw[this,Fy hx]
   ·rw[Fy hx]
set_option maxRecDepth 100000
theorem ag1(p:UInt8→Bool)(l:List UInt8):(l.dropWhile p).length≤l.length:=(List.dropWhile_suffix p).length_le
theorem ag2(s:List UInt8):(gN s).length≤s.length:=by
 unfold gN;rw[List.length_reverse];have:=ag1 (fun x=>decide (x=32)) s.reverse;rw[List.length_reverse]at this;exact this
theorem ag3(s:List UInt8):jG s=mi (gN s):=by
 have ag:∀l:List UInt8,Lib.trimLeftB l 32=mi l:=fun l=>by
  unfold Lib.trimLeftB mi;congr 1
 have e2:∀l:List UInt8,Lib.trimRightB l 32=gN l:=fun l=>by
  unfold Lib.trimRightB gN;congr 2
 rw[←afN];unfold Lib.trimB;rw[ag,e2]
set_option maxHeartbeats 1000000 in
theorem ag4(s:List UInt8)(hl:s.length≤1048576):PureCall Tryz.prog 190 [.one (.str s),.one (.int .u8 32)] [.one (.str (mi s))]:=by
 refine aL 17 Tryz.func190 Tryz.call190 [.tmp 4] ?_;intro ok;simp only[go_sem];refine b5.intro (fun u:List UInt8=>⟨(.d (.str u)::.d (.int .u8 32)::jn 15 []),[]⟩) (fun u=>u.length) (fun u=>u.length≤1048576∧mi u=mi s) s [] ⟨hl,rfl⟩ ?_ ?_
 ·simp only[go_sem]
 ·rintro u ⟨hu,he⟩
  cases u with
  |nil=>
   have dE:mi s=[]:=by rw[←he];rfl
   have h0:decide ((0:Int)<((0:Nat):Int))=false:=by decide
   try simp only[go_sem,List.length_nil,h0]
   repeat'(first|(with_reducible refine de ?_<;>simp only[go_sem,List.length_nil]))
   all_goals first|(exfalso;simp at h;done)|simp[dE]
  |cons x r=>
   have h1:decide ((0:Int)<((r.length+1:Nat):Int))=true:=bc (by omega);have hx:(x::r)[0]?.getD 0=x:=rfl
   cases hd:decide (x=32)with
   |true=>
    have hb:decide ((x.toNat:Int)=32)=true:=by rw[ch hd];rfl
    have vN:List.take ((x::r).length-1) (List.drop 1 (x::r))=r:=by simp
    try simp only[go_sem,oW,h1]
    repeat'(first|(with_reducible refine b9 ?_<;>simp only[go_sem,hb])|(with_reducible refine al ?_)|fail)
    all_goals(refine bm.intro r [] ⟨by rw[oW]at hu;omega,by rw[←he,ch hd];exact(Ji r).symm⟩ (by simp) ?_;simp only[go_sem];try simp)
   |false=>
    have hb:decide ((x.toNat:Int)=32)=false:=a_ (fun h=>absurd (UInt8.toNat_inj.1 (show x.toNat=(32:UInt8).toNat by have:(32:UInt8).toNat=32:=rfl;omega)) (cD hd));have dE:mi s=x::r:=by rw[←he,Fy (cD hd)]
    try simp only[go_sem,oW,h1]
    repeat'(first|(with_reducible refine b9 ?_<;>simp only[go_sem,hb])|(with_reducible refine al ?_)|fail)
    all_goals simp[dE]
set_option maxHeartbeats 1000000 in
theorem ag5(s:List UInt8)(hl:s.length≤1048576):PureCall Tryz.prog 191 [.one (.str s),.one (.int .u8 32)] [.one (.str (gN s))]:=by
 refine aL 23 Tryz.func191 Tryz.call191 [.tmp 4] ?_;intro ok;simp only[go_sem];refine b5.intro (fun u:List UInt8=>⟨(.d (.str u)::.d (.int .u8 32)::jn 21 []),[]⟩) (fun u=>u.length) (fun u=>u.length≤1048576∧gN u=gN s) s [] ⟨hl,rfl⟩ ?_ ?_
 ·simp only[go_sem]
 ·rintro v ⟨hv,m'⟩;by_cases hn:v=[]
  ·subst hn;have e:gN s=[]:=by rw[←m'];rfl
   have h0:decide ((0:Int)<((0:Nat):Int))=false:=by decide
   try simp only[go_sem,List.length_nil,h0]
   repeat'(first|(with_reducible refine de ?_<;>simp only[go_sem,List.length_nil]))
   all_goals first|(exfalso;simp at h;done)|simp[e]
  ·have hp:0<v.length:=List.length_pos_iff.2 hn;have h1:decide ((0:Int)<(v.length:Int))=true:=bc (by omega);have h2:IntKind.i64.wrap ((v.length:Int)-1)=((v.length-1:Nat):Int):=by rw[bC]<;>omega
   have aj:v[v.length-1]?.getD 0=v.getLast hn:=by rw[dg (by omega),List.getLast_eq_getElem];rfl
   have aD:List.take (v.length-1-0) (List.drop 0 v)=v.dropLast:=by rw[List.drop_zero,Nat.sub_zero,List.dropLast_eq_take]
   cases hd:decide (v.getLast hn=32)with
   |true=>
    have hb:decide (((v.getLast hn).toNat:Int)=32)=true:=by rw[ch hd];rfl
    try simp only[go_sem,h1]
    repeat'(first|(with_reducible refine b9 ?_<;>simp only[go_sem,h2,aj,hb,aF])|(with_reducible refine al ?_)|fail)
    all_goals(refine bm.intro v.dropLast [] ⟨by rw[List.length_dropLast];omega,by rw[←Oo hn (ch hd)];exact m'⟩ (by rw[List.length_dropLast];omega) ?_;simp only[go_sem];try simp[List.dropLast_eq_take])
   |false=>
    have hb:decide (((v.getLast hn).toNat:Int)=32)=false:=a_ (fun h=>absurd (UInt8.toNat_inj.1 (show(v.getLast hn).toNat=(32:UInt8).toNat by have:(32:UInt8).toNat=32:=rfl;omega)) (cD hd));have e:gN s=v:=by rw[←m'];exact Oq hn (cD hd)
    try simp only[go_sem,h1]
    repeat'(first|(with_reducible refine b9 ?_<;>simp only[go_sem,h2,aj,hb,aF])|(with_reducible refine al ?_)|fail)
    all_goals simp[e]
set_option maxHeartbeats 4000000 in
theorem strings_Trim(s:List UInt8)(hl:s.length≤1048576):PureCall Tryz.prog 138 [.one (.str s),.one (.str [32])] [.one (.str (jG s))]:=by
 refine aL 43 Tryz.func138 Tryz.call138 [.tmp 4] ?_;intro ok;clear ok;have aI:=ag5 s hl;have hL:=ag4 (gN s) (by have:(gN s).length≤s.length:=ag2 s;omega);rw[←ag3]at hL;by_cases h0:s=[]
 ·subst h0
  try simp only[go_sem]
  repeat'(first|(with_reducible refine de ?_<;>simp only[go_sem]))
  all_goals rfl
 ·have dE:decide (s=[])=false:=a_ h0;have ag:decide (((1:Nat):Int)=1)=true:=by decide
  have e2:((UInt8.toNat 32:Nat):Int)=32:=rfl;have aY:decide ((32:Int)<128)=true:=by decide
  try simp only[go_sem,dE]
  repeat'(first|(with_reducible refine b9 ?_<;>simp only[go_sem,ag,e2]))
  apply yB;(focus ((repeat'(first|exact vQ|(refine vR ?_ ?_)|(refine yC rfl ?_)|(refine yD rfl ?_)|(refine ae.intro (by assumption) ?_)|(with_reducible refine al ?_)|(simp only[go_sem,e2])));all_goals exact rfl));simp only[go_sem]
end Gv

namespace Go.Proofs
open Go.Shelf
def Tryz.lays146_ren:Go.Shelf.Ren:=⟨fun|146=>137|221=>189|268=>225|138=>226|143=>227|195=>261|197=>229|218=>262|219=>263|260=>264|217=>302|225=>303|224=>304|267=>305|266=>333|314=>334|n=>n,fun|9=>9|31=>137|3=>3|4=>4|0=>0|105=>212|21=>21|5=>5|46=>129|119=>268|139=>271|138=>270|146=>295|51=>294|n=>n,fun|1=>0|3=>1|4=>2|n=>n⟩
theorem Tryz.lays146:Go.Proofs.Lays.n146 Tryz.prog Tryz.lays146_ren:={
 mixed:=by kernel_rfl
 f138:=Tryz.func226.trans (congrArg some (by kernel_rfl))
 f143:=Tryz.func227.trans (congrArg some (by kernel_rfl))
 f146:=Tryz.func137.trans (congrArg some (by kernel_rfl))
 f195:=Tryz.func261.trans (congrArg some (by kernel_rfl))
 f197:=Tryz.func229.trans (congrArg some (by kernel_rfl))
 f217:=Tryz.func302.trans (congrArg some (by kernel_rfl))
 f218:=Tryz.func262.trans (congrArg some (by kernel_rfl))
 f219:=Tryz.func263.trans (congrArg some (by kernel_rfl))
 f221:=Tryz.func189.trans (congrArg some (by kernel_rfl))
 f224:=Tryz.func304.trans (congrArg some (by kernel_rfl))
 f225:=Tryz.func303.trans (congrArg some (by kernel_rfl))
 f260:=Tryz.func264.trans (congrArg some (by kernel_rfl))
 f266:=Tryz.func333.trans (congrArg some (by kernel_rfl))
 f267:=Tryz.func305.trans (congrArg some (by kernel_rfl))
 f268:=Tryz.func225.trans (congrArg some (by kernel_rfl))
 f314:=Tryz.func334.trans (congrArg some (by kernel_rfl))
 t0:=Tryz.underlying0
 a0:=Tryz.isAgg0
 z0:=Tryz.sizeOf0
 v0:=Tryz.zeroValue0
 t3:=Tryz.underlying3
 a3:=Tryz.isAgg3
 z3:=Tryz.sizeOf3
 v3:=Tryz.zeroValue3
 t4:=Tryz.underlying4
 a4:=Tryz.isAgg4
 z4:=Tryz.sizeOf4
 v4:=Tryz.zeroValue4
 t5:=Tryz.underlying5
 a5:=Tryz.isAgg5
 z5:=Tryz.sizeOf5
 v5:=Tryz.zeroValue5
 t9:=Tryz.underlying9
 a9:=Tryz.isAgg9
 z9:=Tryz.sizeOf9
 v9:=Tryz.zeroValue9
 t21:=Tryz.underlying21
 a21:=Tryz.isAgg21
 z21:=Tryz.sizeOf21
 v21:=Tryz.zeroValue21
 t31:=Tryz.underlying137
 a31:=Tryz.isAgg137
 z31:=Tryz.sizeOf137
 v31:=Tryz.zeroValue137
 t46:=Tryz.underlying129
 a46:=Tryz.isAgg129
 z46:=Tryz.sizeOf129
 v46:=Tryz.zeroValue129
 t51:=Tryz.underlying294
 a51:=Tryz.isAgg294
 z51:=Tryz.sizeOf294
 v51:=Tryz.zeroValue294
 t105:=Tryz.underlying212
 a105:=Tryz.isAgg212
 z105:=Tryz.sizeOf212
 v105:=Tryz.zeroValue212
 t119:=Tryz.underlying268
 a119:=Tryz.isAgg268
 z119:=Tryz.sizeOf268
 t138:=Tryz.underlying270
 a138:=Tryz.isAgg270
 z138:=Tryz.sizeOf270
 v138:=Tryz.zeroValue270
 t139:=Tryz.underlying271
 a139:=Tryz.isAgg271
 z139:=Tryz.sizeOf271
 v139:=Tryz.zeroValue271
 t146:=Tryz.underlying295
 a146:=Tryz.isAgg295
 z146:=Tryz.sizeOf295
 v146:=Tryz.zeroValue295
 g1:=by kernel_rfl
 g3:=by kernel_rfl
 g4:=by kernel_rfl}
end Go.Proofs

namespace Go.Proofs
open Go.Shelf Go.RowKit Go.Lib
variable {P:Program} {ρ:Ren}
set_option maxHeartbeats 1000000 in
theorem split_one(L:Lays.n146 P ρ)(hi9:(P.info? (ρ.t 9)).map (fun i=>(i.zero,i.size,i.bytes))=some (some (.string ByteArray.empty),1,16))(s:ByteArray)(b:UInt8)(w:World)(hs:s.size<4294967281) :
  Calls P (ρ.f 146) #[.string s,.string ⟨#[b]⟩] w fun e w'=>
   e=.returned (.slice (some ⟨w.heap.size,0,none⟩) (Lib.countB s ⟨#[b]⟩+1) (Lib.countB s ⟨#[b]⟩+1))∧w'=w.alloc (.cells ((Lib.splitB ⟨#[b]⟩ 0 (Lib.countB s ⟨#[b]⟩) s).map Value.string).toArray (ρ.t 9)):=by
 have hI:∀(x:ByteArray) (c:Array Value),x.size≤s.size→Calls P (ρ.f 143) #[.string x,.string ⟨#[b]⟩] (w.alloc (.cells c (ρ.t 9))) fun e w'=>e=.returned (.int .i64 (Lib.indexB x ⟨#[b]⟩))∧w'=w.alloc (.cells c (ρ.t 9)):=fun x c _=>by
  refine(Any.strings_Index_one {L with} x b _).mono fun e w' ⟨he,hw⟩=>⟨?_,hw⟩;rw[he]
  show _=Ending.returned (Value.int .i64 (Lib.index x.data.toList [b]))
  rw[Lib.index_one]
 have hC:Calls P (ρ.f 138) #[.string s,.string ⟨#[b]⟩] w fun e w'=>e=.returned (.int .i64 (Lib.countB s ⟨#[b]⟩))∧w'=w:=by
  refine(Any.strings_Count_one {L with} s b w).mono fun e w' ⟨he,hw⟩=>⟨?_,hw⟩;rw[he]
  show _=Ending.returned (Value.int .i64 ((Lib.count s.data.toList [b]:Nat):Int))
  rw[Lib.count_one];rfl
 have h1:1≤(⟨#[b]⟩:ByteArray).size:=Nat.le_refl 1;generalize (⟨#[b]⟩:ByteArray)=sep at *;have hle:=Lib.countB_le sep h1 s.size s (Nat.le_refl _);have hlen:=Lib.splitB_all sep h1 0 _ s rfl;have c:=Any.strings_genSplit_core {L with} hi9 s sep 0 (-1) (Lib.countB s sep+1) w hs h1 (Nat.zero_le _) hI hC (by decide) (by decide) (by rw[if_pos (by decide)];omega);rw[Nat.add_sub_cancel,hlen]at c;have e2:Lib.cellsOf (Lib.splitB sep 0 (Lib.countB s sep) s) (Lib.countB s sep+1)=((Lib.splitB sep 0 (Lib.countB s sep) s).map Value.string).toArray:=by rw[←hlen];exact Lib.cellsOf_full _
 rw[e2]at c;clear hI hC hle hlen e2;have t3:=L.t3;have t9:=L.t9;have t31:=L.t31;have a3:=L.a3;have a9:=L.a9;have a31:=L.a31;have z3:=L.z3;have v3:=L.v3;have z9:=L.z9;have v9:=L.v9;have z31:=L.z31;have v31:=L.v31;have e221:∀args w,(callFunc (ρ.f 221) args).run P w=.ok (.enter (ρ.f 221) args) w:=enters_of L.f221 (by kernel_rfl) rfl
 go_enter L.f146,Body.n146_ntmps ρ
 go_wp2_with (go_at_fn (ρ.f 221);refine c.mono ?_;rintro e w' ⟨rfl,hw⟩;rw[hw])
 go_ret
 exact⟨rfl,rfl⟩
end Go.Proofs
namespace Gv
open Go Go.Proofs
set_option maxRecDepth 100000
theorem Bel.put{w:World}(o:Obj):Bel (fun b=>w.heap.size≤b) w (w.alloc o):=by
 have h:∀i,i<w.heap.size→(w.heap.push o)[i]?=w.heap[i]?:=fun i hi=>by rw[Array.getElem?_push_lt hi,Array.getElem?_eq_getElem hi]
 refine⟨rfl,rfl,rfl,?_,fun i hi=>h i (by omega),fun b n hr=>?_⟩
 ·show w.heap.size≤(w.heap.push o).size
  simp
 ·obtain⟨cs,e,h1,h2⟩:=hr;have hb:b<w.heap.size:=by
   rcases Nat.lt_or_ge b w.heap.size with h|h
   ·exact h
   ·rw[Array.getElem?_eq_none h]at h1;cases h1
  exact⟨cs,e,(h b hb).trans h1,h2⟩
theorem repE_strs{h:Array Obj}{b:Nat}:∀(xs:List (List UInt8)) (f:Nat),(∀i (hi:i<xs.length),cellAt h b (f+i)=some (.string ⟨(xs[i]).toArray⟩))→(∀x∈xs,x.length≤maxLen)→repE h true b f 1 (xs.map eS) []
 |[],_,_,_=>by simp[repE]
 |x::xs,f,hc,hl=>by
  simp only[List.map_cons,repE];refine⟨[],[],rfl,rfl,?_,?_⟩
  ·simp only[eS,repC];exact⟨_,[],[],rfl,hc 0 (by simp),⟨rfl,rfl,hl x (by simp)⟩,rfl⟩
  ·refine repE_strs xs (f+1) (fun i hi=>?_) (fun y hy=>hl y (by simp[hy]));have:=hc (i+1) (by simp;omega);rw[show f+1+i=f+(i+1)by omega];simpa using this
theorem split_laid(s:List UInt8)(hs:s.length≤1000):SplitAt s:=by
 intro w us F hg ha;simp only[areps,arep,rep]at ha;obtain⟨u,us',F1,F2,rfl,rfl,⟨rfl,rfl,h0⟩,u2,us2,F3,F4,rfl,rfl,⟨rfl,rfl,h1⟩,rfl,rfl⟩:=ha;refine Does.enter (Tryz.call137 _ _) ?_;refine(split_one Tryz.lays146 (by kernel_rfl) ⟨s.toArray⟩ 44 w (by show s.toArray.size<_;rw[List.size_toArray];omega)).mono ?_;rintro e w' ⟨rfl,rfl⟩;have hd:(Lib.splitB ⟨#[44]⟩ 0 (Lib.countB ⟨s.toArray⟩ ⟨#[44]⟩) ⟨s.toArray⟩).map (·.data.toList)=cutL s 44:=by
  rw[Lib.splitB_data,←split_cut];rfl
 have hlen:=Lib.splitB_all ⟨#[44]⟩ (Nat.le_refl 1) 0 _ (⟨s.toArray⟩:ByteArray) rfl;obtain⟨c1,c2⟩:=cutL_len s 44;generalize Lib.splitB ⟨#[44]⟩ 0 (Lib.countB ⟨s.toArray⟩ ⟨#[44]⟩) ⟨s.toArray⟩=ps at *;generalize Lib.countB ⟨s.toArray⟩ ⟨#[44]⟩=n at *;rw[←hd]at c1 c2⊢;rw[lM]at c1;have hb:(w.alloc (Obj.cells (List.map Value.string ps).toArray (Tryz.lays146_ren.t 9))).heap[w.heap.size]?=some (Obj.cells (List.map Value.string ps).toArray (Tryz.lays146_ren.t 9)):=by
  show(w.heap.push _)[w.heap.size]?=_
  exact Array.getElem?_push_size
 refine⟨[w.heap.size],Bel.put _,?_,by simp,by simp⟩;simp only[trep,arep,rep];refine⟨some ⟨w.heap.size,0,none⟩,n+1,by rw[lM,lM,hlen],by rw[lM,lM,hlen];exact Nat.le_refl _,by simp only[maxLen];omega,Or.inr ⟨w.heap.size,0,[],rfl,rfl,by show w.heap.size<(w.heap.push _).size;simp,?_,fun _=>⟨Nat.succ_pos _,_,_,hb,by simp[hlen]⟩⟩⟩;refine repE_strs _ 0 (fun i hi=>?_) (fun x hx=>by have:=c2 x hx;simp only[maxLen];omega);unfold cellAt;rw[hb];rw[lM]at hi;simp[hi]
theorem trim_laid:TrimAt:=fun t h=>strings_Trim t (by omega)
set_option maxRecDepth 100000
def LL:List (List bt):=ct 11 [147734,147732,147739,147717,147663,174838,174352,176053,170707,157585,118098]
def Rw:List (List bt):=ct 10 [55805,55807,55800,55782,58765,58927,58360,56902,52488,39366]
def Rx:List (List bt):=ct 26 [2541865798922,2541865798924,2541865798917,2541865798899,2541865798845,2541865827478,2541865827964,2541865826263,2541865821889,2541865808767,2541865769280,2541865651182,2400842644569,2400843707451,2400839987364,2400830421426,2400801723612,2400715630170,2540509590897,2541284431875,2538572488452,2531598919650,2510678213244,2447916094026,2259436291848,1694577218886]
def Ry:List (List bt):=ct 17 [107619836,107619838,107619831,107619813,107619759,107619961,107619354,107617896,127522876,127535998,127490071,127371973,127017679,128343001,124360474,114794536,86093442]
attribute [go_sem] LL Rw Rx Ry
theorem Z1(x:cl):PureCall Tryz.prog 125 [.agg [.int .i64 x.size,.int .i64 x.base,.int .i64 x.b',.sl 1 (x.cells.map aW)],.agg [.int .i64 x.size,.int .i64 x.base,.int .i64 x.b',.sl 1 (x.cells.map aW)]] [.one (.bool true)]:=by
 refine aL 52 Tryz.func125 Tryz.call125 [.tmp 4] ?_;intro ok;have hm:x.cells.length≤maxLen:=by have h:=(ok.1.2.2.2.1).1;rwa [lM]at h
 clear ok;simp only[go_sem]
 repeat((first|refine bb ?_|refine eJ ?_);simp only[go_sem,lM])
 refine bp (fun h=>absurd h (by simp)) (fun _=>?_);simp only[go_sem];refine b5.intro (fun i:Nat=>⟨(.J::.J::.ptr 0 0 0::.ptr 1 0 0::.d (.bool false)::.d (.int .i64 i)::jn 46 []),[.box [.d (.int .i64 x.size),.d (.int .i64 x.base),.d (.int .i64 x.b'),.d (.sl 1 (x.cells.map aW))],.box [.d (.int .i64 x.size),.d (.int .i64 x.base),.d (.int .i64 x.b'),.d (.sl 1 (x.cells.map aW))]]⟩) (fun i=>x.cells.length-i) (fun i=>i≤x.cells.length) 0 [0,1] (by omega) ?_ ?_
 ·simp only[go_sem];simp
 ·intro i hi;simp only[go_sem,lM];refine bp (fun h1=>?_) (fun _=>by simp only[go_sem]);simp only[il]at h1;have hl:i<x.cells.length:=by omega
  have hx:=bZ aW x.cells i hl;have hw:=dv (i:=i) (m:=x.cells.length) hl hm;have hz:decide (x.cells[i]≠x.cells[i])=false:=by simp
  try simp only[go_sem]
  repeat'(first|(refine ba LL (by kernel_rfl) (by rfl) ?_<;>simp only[go_sem,lM,aF,hx,aW,hw,hz])|(with_reducible refine al ?_)|fail)
  all_goals(refine bm.intro (i+1) [0,1] (by omega) (by omega) ?_;simp only[go_sem];try simp)
theorem Z2(x:k3):PureCall Tryz.prog 127 [.agg [.int .i64 x.next,.sl 2 (x.bu.map aB.enc)],.agg [.int .i64 x.next,.sl 2 (x.bu.map aB.enc)]] [.one (.bool true)]:=by
 refine aL 38 Tryz.func127 Tryz.call127 [.tmp 4] ?_;intro ok;have hm:x.bu.length≤maxLen:=by have h:=(ok.1.2.1).1;rwa [lM]at h
 clear ok;simp only[go_sem]
 repeat((first|refine bb ?_|refine eJ ?_);simp only[go_sem,lM])
 refine bp (fun h=>absurd h (by simp)) (fun _=>?_);simp only[go_sem];refine b5.intro (fun i:Nat=>⟨(.J::.J::.ptr 0 0 0::.ptr 1 0 0::.d (.bool false)::.d (.int .i64 i)::jn 32 []),[.box [.d (.int .i64 x.next),.d (.sl 2 (x.bu.map aB.enc))],.box [.d (.int .i64 x.next),.d (.sl 2 (x.bu.map aB.enc))]]⟩) (fun i=>x.bu.length-i) (fun i=>i≤x.bu.length) 0 [0,1] (by omega) ?_ ?_
 ·simp only[go_sem];simp
 ·intro i hi;simp only[go_sem,lM];refine bp (fun h1=>?_) (fun _=>by simp only[go_sem]);simp only[il]at h1;have hl:i<x.bu.length:=by omega
  have hx:=bZ aB.enc x.bu i hl;have hw:=dv (i:=i) (m:=x.bu.length) hl hm;have hz:(decide (x.bu[i].offset=x.bu[i].offset)&&decide (x.bu[i].data=x.bu[i].data))=true:=by simp
  try simp only[go_sem]
  repeat'(first|(refine ba LL (by kernel_rfl) (by rfl) ?_<;>simp only[go_sem,lM,aF,hx,aB.enc,hw,Bool.not_true])|(with_reducible refine al ?_)|fail)
  all_goals(refine bm.intro (i+1) [0,1] (by omega) (by omega) ?_;simp only[go_sem];try simp)
set_option maxHeartbeats 4000000 in
theorem Z3(x:bA):PureCall Tryz.prog 65 [.agg (bA.enc x),.agg (bA.enc x)] [.one (.bool true)]:=by
 refine aL 38 Tryz.func65 Tryz.call65 [.tmp 4] ?_;intro ok;clear ok
 try simp only[go_sem]
 repeat'((first|refine ae.intro (by apply Z2) ?_|with_reducible refine b9 ?_)<;>simp only[go_sem])
 all_goals(refine d' ?_;simp)
set_option maxHeartbeats 4000000 in
theorem Z4(x:az):PureCall Tryz.prog 64 [.agg (az.enc x),.agg (az.enc x)] [.one (.bool true)]:=by
 refine aL 66 Tryz.func64 Tryz.call64 [.tmp 4] ?_;intro ok;clear ok
 try simp only[go_sem]
 repeat'((first|refine ae.intro (by first|apply Z1|apply Xz) ?_|with_reducible refine b9 ?_)<;>simp only[go_sem])
 all_goals(refine d' ?_;simp)
set_option maxHeartbeats 4000000 in
theorem Rz(x:aa):PureCall Tryz.prog 19 [.agg (aa.enc x),.agg (aa.enc x)] [.one (.bool true)]:=by
 refine aL 101 Tryz.func19 Tryz.call19 [.tmp 4] ?_;intro ok;clear ok
 try simp only[go_sem]
 repeat'((first|refine ae.intro (by first|apply Z4|apply Z3) ?_|with_reducible refine b9 ?_)<;>simp only[go_sem])
 all_goals(refine d' ?_;simp)
theorem Z5(xs:List aa):PureCall Tryz.prog 47 [.one (.sl 39 (xs.map aa.enc)),.one (.sl 39 (xs.map aa.enc))] [.one (.bool true)]:=by
 refine aL 27 Tryz.func47 Tryz.call47 [.tmp 4] ?_;intro ok;have hm:=fj ok;clear ok;simp only[go_sem,lM];refine bp (fun h=>absurd h (by simp)) (fun _=>?_);simp only[go_sem];refine b5.intro (fun i:Nat=>⟨(.d (.sl 39 (xs.map aa.enc))::.d (.sl 39 (xs.map aa.enc))::.J::.J::.d (.bool false)::.d (.int .i64 i)::jn 21 []),[]⟩) (fun i=>xs.length-i) (fun i=>i≤xs.length) 0 [] (by omega) ?_ ?_
 ·simp only[go_sem];simp
 ·intro i hi;simp only[go_sem,lM];refine bp (fun h1=>?_) (fun _=>by simp only[go_sem]);simp only[il]at h1;have hl:i<xs.length:=by omega
  have hx:=bZ aa.enc xs i hl;have hw:=dv (i:=i) (m:=xs.length) hl hm
  try simp only[go_sem]
  repeat'(first|((first|refine ao.intro (by apply Rz) ?_|refine ba Rw (by kernel_rfl) (by rfl) ?_)<;>simp only[go_sem,lM,aF,hx,aa.enc,hw,Bool.not_true])|(with_reducible refine al ?_)|fail)
  all_goals(refine bm.intro (i+1) [] (by omega) (by omega) ?_;simp only[go_sem];try simp)
set_option maxHeartbeats 2000000 in
theorem Z6(xs:List aC):PureCall Tryz.prog 48 [.one (.sl 2 (xs.map aC.enc)),.one (.sl 2 (xs.map aC.enc))] [.one (.bool true)]:=by
 refine aL 71 Tryz.func48 Tryz.call48 [.tmp 4] ?_;intro ok;have hm:=fj ok;have yV:∀(i:Nat) (h:i<xs.length),xs[i].frames.length≤maxLen:=by
  intro i h;have h1:dOk (.sl 2 (xs.map aC.enc)):=ok.1;have h2:=Km h1.2 _ (List.mem_map.2 ⟨xs[i],List.getElem_mem h,rfl⟩);have aj:=RA h2 (.sl 9 (xs[i].frames.map aq.enc)) (by simp[aC.enc]);have:=aj.1;rwa [lM]at this
 clear ok;simp only[go_sem,lM];refine bp (fun h=>absurd h (by simp)) (fun _=>?_);simp only[go_sem];refine b5.intro (fun i:Nat=>⟨(.d (.sl 2 (xs.map aC.enc))::.d (.sl 2 (xs.map aC.enc))::.J::.J::.d (.bool false)::.d (.int .i64 i)::jn 65 []),[]⟩) (fun i=>xs.length-i) (fun i=>i≤xs.length) 0 [] (by omega) ?_ ?_
 ·simp only[go_sem];simp
 ·intro i hi;simp only[go_sem,lM];refine bp (fun h1=>?_) (fun _=>by simp only[go_sem]);simp only[il]at h1;have hl:i<xs.length:=by omega
  have hx:=bZ aC.enc xs i hl;have hw:=dv (i:=i) (m:=xs.length) hl hm;have Z7:=yV i hl;have jU:decide (xs[i].number≠xs[i].number)=false:=by simp
  have jc:decide ((xs[i].frames.length:Int)≠(xs[i].frames.length:Int))=false:=by simp
  try simp only[go_sem]
  repeat'(first|((first|with_reducible refine kN ?_|refine ba Rx (by kernel_rfl) (by rfl) ?_)<;>simp only[go_sem,lM,aF,hx,aC.enc,jU,jc])|(with_reducible refine al ?_)|fail)
  refine b5.intro (fun k:Nat=>⟨(.d (.sl 2 (xs.map aC.enc))::.d (.sl 2 (xs.map aC.enc))::.J::.J::.d (.bool false)::.d (.int .i64 i)::.d (.int .i64 k)::jn 64 []),[]⟩) (fun k=>xs[i].frames.length-k) (fun k=>k≤xs[i].frames.length) 0 [] (by omega) ?_ ?_
  ·simp only[go_sem];simp
  ·intro k hk;simp only[go_sem,lM,aF,hx,aC.enc];refine⟨⟨by omega,by omega⟩,?_⟩;refine bp (fun h2=>?_) (fun h2=>?_)
   ·simp only[il]at h2;have LM:k<xs[i].frames.length:=by omega
    have RB:=bZ aq.enc xs[i].frames k LM;have xl:=dv (i:=k) (m:=xs[i].frames.length) LM Z7
    try simp only[go_sem]
    repeat'(first|(refine ba Ry (by kernel_rfl) (by rfl) ?_<;>simp only[go_sem,lM,aF,hx,aC.enc,RB,aq.enc,Bool.not_true,decide_true,Bool.and_self])|(with_reducible refine al ?_)|fail)
    all_goals(refine bm.intro (k+1) [] (by omega) (by omega) ?_;simp only[go_sem,xl])
   ·simp only[go_sem];refine bm.intro (i+1) [] (by omega) (by omega) ?_;simp only[go_sem,hw]
set_option maxHeartbeats 8000000 in
theorem Ar(x:I):PureCall Tryz.prog 8 [.agg (I.enc x),.agg (I.enc x)] [.one (.bool true)]:=by
 refine aL 129 Tryz.func8 Tryz.call8 [.tmp 4] ?_;intro ok;clear ok
 try simp only[go_sem]
 repeat'((first|refine ae.intro (by first|apply Z5|apply Z6) ?_|with_reducible refine b9 ?_)<;>simp only[go_sem])
 all_goals(refine d' ?_;simp)
theorem afG{l:List aa}(h:(l.map (fun x=>x.id)).Pairwise (·<·)){s:aa}(hs:s∈l):strOf l s.id=(s,true):=by
 have hf:=IF hs;obtain⟨h1,h2⟩:=CR hf;have key:∀(l:List aa),(l.map (fun x=>x.id)).Pairwise (·<·)→∀a∈l,∀b∈l,a.id=b.id→a=b:=by
  intro l
  induction l with
  |nil=>intro _ a ha;cases ha
  |cons x l dr=>
   intro h a ha b hb e;rw[List.map_cons,List.pairwise_cons]at h;rcases List.mem_cons.1 ha with h1|h1<;>rcases List.mem_cons.1 hb with h2|h2
   ·rw[h1,h2]
   ·have:=h.1 _ (List.mem_map.2 ⟨b,h2,rfl⟩);rw[h1]at e;omega
   ·have:=h.1 _ (List.mem_map.2 ⟨a,h1,rfl⟩);rw[h2]at e;omega
   ·exact dr h.2 a h1 b h2 e
 have e:=key l h _ h2 _ hs h1;exact Prod.ext e hf
theorem afH{l:List aa}{t s:aa}(_afI:(l.map (fun x=>x.id)).Pairwise (·<·))(hf:(strOf l t.id).2=true)(hs:s∈l)(hn:s.id≠t.id):s∈putS l t:=by
 rcases ox (ed t.id) l with ⟨aj,_⟩|⟨i,hi,aj,_,aD⟩
 ·exact absurd (Og.1 hf) (C3.1 aj)
 ·rw[Dx aj];obtain⟨j,ak,rfl⟩:=List.getElem_of_mem hs;have lg:i≠j:=by
   rintro rfl;exact hn (by simpa [ed]using aD)
  refine List.mem_iff_getElem.2 ⟨j,by simpa using ak,?_⟩;rw[List.getElem_set_ne lg]
theorem aeE{c:I}(h:mh c)(id:Int)(d:List UInt8):∀s∈c.streams,(strOf (eH c id d).streams s.id).2=true∧(s.id≠id→strOf (eH c id d).streams s.id=(s,true)):=by
 intro s hs;have afJ:=VB c id d;have hi:(eH c id d).streams.map (fun x=>x.id)=c.streams.map (fun x=>x.id):=afJ.i;have ud:(c.streams.map (fun x=>x.id)).Pairwise (·<·):=h.asc;refine⟨Og.2 (by rw[hi];exact List.mem_map.2 ⟨s,hs,rfl⟩),fun hn=>afG (by rw[hi];exact ud) ?_⟩;unfold eH;split
 ·rename_i hg;have hf:=wZ hg;have hid:(aE c id).id=id:=oT hf;refine afH (t:=fb (aE c id) (kz (aE c id).send d)) ud ?_ hs ?_
  ·show(strOf c.streams (aE c id).id).2=true;rw[hid];exact hf
  ·show s.id≠(aE c id).id;rw[hid];exact hn
 ·exact hs
theorem aeD{m:Nat}{c:I}(_afI:b6 m c)(id:Int)(d:List UInt8)(hd:d.length≤1048576):0≤oy c id d∧oy c id d≤(d.length:Int):=by
 unfold oy;split
 ·unfold o8;split
  ·have:fL (aE c id).send.ring d≤d.length:=by
    unfold fL cG;split<;>omega
   omega
  ·omega
 ·omega
theorem aei{N:Nat}{E:Int}{s:az}{d:List UInt8}(h:gn E s)(hd:d.length≤N):gn (E+N) (kz s d):=by
 unfold kz;split
 ·rename_i hw;have NR:jC s.ring=true:=by
   simp only[jK,cX]at hw;exact(IA hw.1.1).1
  have hi:=nZ NR;have hr:=IB s.ring;have hn:fL s.ring d=(cG (hE s.ring) d.length).toNat:=rfl;have o5:(fL s.ring d:Int)≤N:=by rw[hn];unfold cG;split<;>omega
  have h0:=h.dE;have h1:=h.ag;have he:(kh s.ring d).b'=s.ring.b'+(fL s.ring d:Int):=by
   simp only[kh];by_cases hp:0<fL s.ring d
   ·have zj:0<hE s.ring:=by rw[hn]at hp;unfold cG at hp;split at hp<;>omega
    obtain⟨aK,a7,b8⟩:=hr.2 zj;have hle:(fL s.ring d:Int)≤hE s.ring:=by rw[hn];unfold cG;split<;>omega
    rw[bC]<;>omega
   ·rw[bC]<;>omega
  have hq:0<fL s.ring d→(kh s.ring d).b'≤4611686018427387903:=fun hp=>by
   have zj:0<hE s.ring:=by rw[hn]at hp;unfold cG at hp;split at hp<;>omega
   obtain⟨aK,a7,b8⟩:=hr.2 zj;have hle:(fL s.ring d:Int)≤hE s.ring:=by rw[hn];unfold cG;split<;>omega
   omega
  have hm:s.ring.b'≤(kh s.ring d).b':=by omega
  refine⟨?_,zq hm h.f,zq hm h.a,by simp only[he];omega,by simp only[he];omega,by simp only[kh,AX];exact h.c⟩;simp only;split
  ·rename_i hp;have:=hq hp;exact Iy (zq hm h.p) ((gM _).2 (by simp only;omega)) (by simp)
  ·exact zq hm h.p
 ·exact h.mono (by omega)
theorem UQ{m:Nat}{c:I}(h:b6 m c)(id:Int){d:List UInt8}(hd:d.length≤12):fo (m+2) (fb (aE c id) (kz (aE c id).send d)):=
 ((h.aE id).mono (by omega)).yd ((aei (N:=12) (h.aE id).snd hd).mono (by omega))
theorem aej{m:Nat}{c:I}(h:b6 m c)(id:Int){d:List UInt8}(hd:d.length≤12):b6 (m+2) (eH c id d):=by
 unfold eH;split
 ·rename_i hg;exact(ye (id:=id) (h.mono (show m≤m+2 by omega)) (wZ hg) rfl (UQ h id hd))
 ·exact h.mono (by omega)
theorem ae7{α:Type}{key:α→Int}{ok:α→Bool}{l:List α}:xr key ok l=true↔(∀x∈l,ok x=true)∧(l.map key).Pairwise (·<·):=by
 have hB:xr key ok l=true↔(∀(i:Nat) (h:i<l.length),ok l[i]=true)∧∀(j:Nat) (h:j+1<l.length),key l[j]<key l[j+1]:=by
  simp only[xr,ks,List.all_eq_true,List.mem_range];constructor
  ·intro h;refine⟨fun i hi=>?_,fun j ak=>?_⟩
   ·have:=h i hi
    cases i with
    |zero=>rwa [yp _ _ _ hi]at this
    |succ j=>rw[xi _ _ _ _ hi,cX]at this;exact this.1
   ·have:=h (j+1) ak;rw[xi _ _ _ _ ak,cX]at this;exact ch this.2
  ·rintro⟨h1,h2⟩ i hi
   cases i with
   |zero=>rw[yp _ _ _ hi];exact h1 0 hi
   |succ j=>rw[xi _ _ _ _ hi,cX];exact⟨h1 _ hi,bc (h2 j hi)⟩
 rw[hB];constructor
 ·rintro⟨h1,h2⟩;refine⟨fun x hx=>?_,List.pairwise_iff_getElem.2 fun i j hi ak lg=>?_⟩
  ·obtain⟨i,hi,rfl⟩:=List.getElem_of_mem hx;exact h1 i hi
  ·rw[List.getElem_map,List.getElem_map];rw[lM]at hi ak;obtain⟨d,rfl⟩:=Nat.le.dest (show i+1≤j from lg);clear lg
   induction d with
   |zero=>exact h2 i ak
   |succ d dr=>exact Int.lt_trans (dr (by simp;omega) (by omega)) (h2 (i+1+d) ak)
 ·rintro⟨h1,h2⟩;refine⟨fun i hi=>h1 _ (List.getElem_mem hi),fun j ak=>?_⟩;have:=List.pairwise_iff_getElem.1 h2 j (j+1) (by simp;omega) (by simpa using ak) (by omega)
  rwa [List.getElem_map,List.getElem_map]at this
theorem aex{c:I}(h:eQ c=true):(∀x∈c.streams,gH x=true)∧(c.streams.map fun x=>x.id).Pairwise (·<·):=by
 simp only[eQ,vW,uV,i',cX,and_assoc]at h;exact ae7.1 h.2.2.1
set_option maxRecDepth 100000
def N5:List (List bt):=ct 22 [31381059608,31381059606,31381059600,31381039656,31381039602,31381039791,31381039197,31381037739,31381033365,31381049754,31381000560,31380882462,31187615085,31365647820,31362459174,31373619435,31338544329,31252450887,30993639120,30218798142,27894275208,20920706406]
attribute [go_sem] N5
theorem aeu(bs:List Int):PureCall Tryz.prog 4 [.one (.sl 1 (bs.map eU8))] [.one (.bool (decide (1048576<(bs.length:Int))))]:=by
 refine aL 6 Tryz.func4 Tryz.call4 [.tmp 2] ?_;intro ok
 try simp only[go_sem,lM]
theorem aev{g u a b:Bool}{i j:Int}(h:g=true→a=true∧b=u∧i=-1∧0≤j):(bif g then(bif bif bif !a then true else b != u then true else decide (0≤i)then true else decide (j<0))else false)=false:=by
 cases g with
 |false=>rfl
 |true=>
  obtain⟨h1,h2,aj,aD⟩:=h rfl;rw[h1,h2,aj,a_ (show ¬j<0 by omega)];simp
theorem aew{c:I}(h:eQ c=true):∀s∈c.streams,0≤s.recv.state:=fun s hs=>by
 have h1:=(aex h).1 s hs;simp only[gH,Fm,IN,cX,and_assoc]at h1;obtain⟨_,_,_,h2,_⟩:=h1;simp only[jZ,A2,cX]at h2;have h:=h2.2
 repeat' split at h
 all_goals first|omega|cases h
theorem aey{S:List Bool}(h:S.length=14):∃a0 bD bR a3 a4 a5 ec e9 fC a9 j1 lz nf uK,S=[a0,bD,bR,a3,a4,a5,ec,e9,fC,a9,j1,lz,nf,uK]:=by
 match S,h with|[a0,bD,bR,a3,a4,a5,ec,e9,fC,a9,j1,lz,nf,uK],_=>exact⟨a0,bD,bR,a3,a4,a5,ec,e9,fC,a9,j1,lz,nf,uK,rfl⟩
def lQ(Y:aa)(a b c d e:Nat):List V:=(aa.vc Y (.sl a 0 Y.send.ring.cells.length) (.sl b 0 Y.send.pending.length) (.sl c 0 Y.send.flight.length) (.sl d 0 Y.send.bK.length) (.sl e 0 Y.recv.buffer.bu.length))
def N6(bs:List Int)(d eG:I)(k:Int)(i:Nat)(X Y:aa)(b:Bool)(S:List Bool):St:=⟨(.d (.sl 1 (bs.map eU8))::jn 10 (.ptr 2 0 0::.d (.int .i64 k)::jn 4 (.ptr 5 0 0::jn 6 (.d (.int .i64 i)::(bif S.getD 11 false then .ptr 6 0 0 else .J)::(bif S.getD 13 false then .d (.bool b)else .J)::jn 156 (.d (.int .i64 i)::.ptr 2 0 17::.sl 0 0 d.streams.length::.d (.int .i64 d.streams.length)::.d (.bool true)::.J::.J::(bif S.getD 8 false then .c6 [.agg (lQ Y 7 8 9 10 11),.d (.bool b)]else .J)::(bif S.getD 0 false then .agg (I.vc eG (.sl 3 0 eG.streams.length) (.sl 4 0 eG.packets.length))else .J)::(bif S.getD 1 false then .ptr 2 0 17 else .J)::(bif S.getD 2 false then .sl 0 0 d.streams.length else .J)::(bif S.getD 3 false then .d (.int .i64 i)else .J)::(bif S.getD 4 false then .ptr 0 i 0 else .J)::(bif S.getD 5 false then .ptr 0 i 0 else .J)::(bif S.getD 6 false then .d (.int .i64 X.id)else .J)::(bif S.getD 7 false then .c6 [.agg (lQ Y 7 8 9 10 11),.d (.bool b)]else .J)::(bif S.getD 9 false then .agg (lQ Y 7 8 9 10 11)else .J)::(bif S.getD 10 false then .d (.bool b)else .J)::jn 131 []))))),[.ai 39 (d.streams.map aa.enc) true,.ai 2 (d.packets.map aC.enc) true,.box (I.vc d (.sl 0 0 d.streams.length) (.sl 1 0 d.packets.length)),.ai 39 (eG.streams.map aa.enc) true,.ai 2 (eG.packets.map aC.enc) true,.box (I.vc eG (.sl 3 0 eG.streams.length) (.sl 4 0 eG.packets.length))]++((bif S.getD 11 false then [.box (bif S.getD 12 false then(lQ Y 7 8 9 10 11)else aa.bH)]else [])++(bif S.getD 7 false then [.ai 1 (Y.send.ring.cells.map aW) true,.ai 2 (Y.send.pending.map ab.enc) true,.ai 2 (Y.send.flight.map ab.enc) true,.ai 2 (Y.send.bK.map ab.enc) true,.ai 2 (Y.recv.buffer.bu.map aB.enc) true]else []))⟩
def N7(bs:List Int)(d eG:I)(k:Int)(i:Nat)(X Y:aa)(b:Bool)(S:List Bool):St:=⟨(.d (.sl 1 (bs.map eU8))::jn 10 (.ptr 2 0 0::.d (.int .i64 k)::jn 4 (.ptr 5 0 0::jn 6 (.d (.int .i64 i)::(bif S.getD 11 false then .ptr 11 0 0 else .J)::(bif S.getD 13 false then .d (.bool b)else .J)::jn 156 (.d (.int .i64 i)::.ptr 2 0 17::.sl 0 0 d.streams.length::.d (.int .i64 d.streams.length)::.d (.bool true)::.J::.J::(bif S.getD 8 false then .c6 [.agg (lQ Y 6 7 8 9 10),.d (.bool b)]else .J)::(bif S.getD 0 false then .agg (I.vc eG (.sl 3 0 eG.streams.length) (.sl 4 0 eG.packets.length))else .J)::(bif S.getD 1 false then .ptr 2 0 17 else .J)::(bif S.getD 2 false then .sl 0 0 d.streams.length else .J)::(bif S.getD 3 false then .d (.int .i64 i)else .J)::(bif S.getD 4 false then .ptr 0 i 0 else .J)::(bif S.getD 5 false then .ptr 0 i 0 else .J)::(bif S.getD 6 false then .d (.int .i64 X.id)else .J)::(bif S.getD 7 false then .c6 [.agg (lQ Y 6 7 8 9 10),.d (.bool b)]else .J)::(bif S.getD 9 false then .agg (lQ Y 6 7 8 9 10)else .J)::(bif S.getD 10 false then .d (.bool b)else .J)::jn 131 []))))),[.ai 39 (d.streams.map aa.enc) true,.ai 2 (d.packets.map aC.enc) true,.box (I.vc d (.sl 0 0 d.streams.length) (.sl 1 0 d.packets.length)),.ai 39 (eG.streams.map aa.enc) true,.ai 2 (eG.packets.map aC.enc) true,.box (I.vc eG (.sl 3 0 eG.streams.length) (.sl 4 0 eG.packets.length))]++((bif S.getD 7 false then [.ai 1 (Y.send.ring.cells.map aW) true,.ai 2 (Y.send.pending.map ab.enc) true,.ai 2 (Y.send.flight.map ab.enc) true,.ai 2 (Y.send.bK.map ab.enc) true,.ai 2 (Y.recv.buffer.bu.map aB.enc) true]else [])++(bif S.getD 11 false then [.box (bif S.getD 12 false then(lQ Y 6 7 8 9 10)else aa.bH)]else []))⟩
def N8(o:Bool)(bs:List Int)(d eG:I)(k:Int)(i:Nat)(X Y:aa)(b:Bool)(S:List Bool):St:=bif o then N6 bs d eG k i X Y b S else N7 bs d eG k i X Y b S
set_option maxHeartbeats 8000000 in
theorem aez(bs:List Int)(d:I)(k:Int)(eG:I)(xO:d.streams.length≤1000)(A3:e0 eG)(pC:∀s∈d.streams,(strOf eG.streams s.id).2=true∧(s.id≠k→strOf eG.streams s.id=(s,true))){X:List (Nat×(St→Prop))}{cc:St→Prop} :
  codeE Tryz.prog [] (headC 1 (w1 7 (w1 6 (zx Tryz.f3)))) ⟨(.d (.sl 1 (bs.map eU8))::jn 10 (.ptr 2 0 0::.d (.int .i64 k)::jn 4 (.ptr 5 0 0::jn 314 []))),[.ai 39 (d.streams.map aa.enc) true,.ai 2 (d.packets.map aC.enc) true,.box (I.vc d (.sl 0 0 d.streams.length) (.sl 1 0 d.packets.length)),.ai 39 (eG.streams.map aa.enc) true,.ai 2 (eG.packets.map aC.enc) true,.box (I.vc eG (.sl 3 0 eG.streams.length) (.sl 4 0 eG.packets.length))]⟩ (bx (di (α:=Unit) [] (fun _=>⟨(.d (.sl 1 (bs.map eU8))::jn 331 []),[]⟩) (fun _=>True)) .mk) X cc:=by
 conv=>arg 3;whnf
 simp only[go_sem];refine b5.intro (fun i:Nat=>⟨(.d (.sl 1 (bs.map eU8))::jn 10 (.ptr 2 0 0::.d (.int .i64 k)::jn 4 (.ptr 5 0 0::jn 6 (.d (.int .i64 i)::jn 307 [])))),[.ai 39 (d.streams.map aa.enc) true,.ai 2 (d.packets.map aC.enc) true,.box (I.vc d (.sl 0 0 d.streams.length) (.sl 1 0 d.packets.length)),.ai 39 (eG.streams.map aa.enc) true,.ai 2 (eG.packets.map aC.enc) true,.box (I.vc eG (.sl 3 0 eG.streams.length) (.sl 4 0 eG.packets.length))]⟩)
  (fun i=>d.streams.length-i) (fun i=>i≤d.streams.length) 0 [0,1,2,3,4,5] (by omega) ?_ ?_
 ·simp only[go_sem];simp
 ·intro i hi;by_cases hlt:i<d.streams.length
  ·have ar:decide ((i:Int)<(d.streams.length:Int))=true:=bc (by omega);have av:=bZ aa.enc d.streams i hlt;have wV:=dv (i:=i) (m:=d.streams.length) hlt (by simp only[maxLen];omega);obtain⟨X,b_⟩:∃X,X=d.streams[i]:=⟨_,rfl⟩;have hm:X∈d.streams:=b_▸List.getElem_mem hlt;rw[←b_]at av;have N9:=aeA eG X.id A3;have aok:=Rz X;obtain⟨k1,k2⟩:=pC X hm;rw[k1]at N9;obtain⟨Y,tJ⟩:∃Y,Y=(strOf eG.streams X.id).1:=⟨_,rfl⟩;rw[←tJ]at N9;obtain⟨b,hb⟩:∃b,b=true:=⟨_,rfl⟩;rw[←hb]at N9;simp only[go_sem,ar];refine hH _ (iT (fun S σ=>∃o,(S.getD (bif o then 7 else 11) false=true→S.getD (bif o then 11 else 7) false=true)∧σ=N8 o bs d eG k i X Y b S) (N:=14) rfl rfl ⟨true,fun h=>Bool.noConfusion h,rfl⟩ ?_) ?_
   ·repeat'(first|exact iU|refine iV ?_ ?_)
    all_goals(
     rintro S σ F hl aX hp hcl ⟨_|_,hc,rfl⟩ aZ)
    all_goals(
     obtain⟨gq,cU,c9,cq,dd,iD,jI,j4,kM,mO,vI,yq,Bp,Dl,rfl⟩:=aey hl;simp only[List.getElem?_cons_succ,List.getElem?_cons_zero,uB]at aX;subst aX;simp[gQ,Region.binds]at hp
     repeat(obtain⟨c_,hp⟩:=hp;subst c_)
     try subst hp
     first|(obtain rfl:=ob (hcl 0 7 _ rfl (by decide) rfl);obtain rfl:=ob (hcl 7 8 _ rfl (by decide) rfl);obtain rfl:=ob (hcl 8 9 _ rfl (by decide) rfl);obtain rfl:=ob (hcl 8 10 _ rfl (by decide) rfl);obtain rfl:=ob (hcl 9 12 _ rfl (by decide) rfl);obtain rfl:=ob (hcl 10 13 _ rfl (by decide) rfl))|(obtain rfl:=ob (hcl 1 2 _ rfl (by decide) rfl);obtain rfl:=ob (hcl 2 4 _ rfl (by decide) rfl);obtain rfl:=ob (hcl 4 5 _ rfl (by decide) rfl);obtain rfl:=ob (hcl 5 6 _ rfl (by decide) rfl);obtain rfl:=ob (hcl 6 7 _ rfl (by decide) rfl);obtain rfl:=ob (hcl 7 8 _ rfl (by decide) rfl);obtain rfl:=ob (hcl 8 9 _ rfl (by decide) rfl);obtain rfl:=ob (hcl 8 10 _ rfl (by decide) rfl);obtain rfl:=ob (hcl 9 12 _ rfl (by decide) rfl);obtain rfl:=ob (hcl 10 13 _ rfl (by decide) rfl))|(obtain rfl:=ob (hcl 2 4 _ rfl (by decide) rfl);obtain rfl:=ob (hcl 4 5 _ rfl (by decide) rfl);obtain rfl:=ob (hcl 5 6 _ rfl (by decide) rfl);obtain rfl:=ob (hcl 6 7 _ rfl (by decide) rfl);obtain rfl:=ob (hcl 7 8 _ rfl (by decide) rfl);obtain rfl:=ob (hcl 8 9 _ rfl (by decide) rfl);obtain rfl:=ob (hcl 8 10 _ rfl (by decide) rfl);obtain rfl:=ob (hcl 9 12 _ rfl (by decide) rfl);obtain rfl:=ob (hcl 10 13 _ rfl (by decide) rfl))|(obtain rfl:=ob (hcl 3 4 _ rfl (by decide) rfl);obtain rfl:=ob (hcl 4 5 _ rfl (by decide) rfl);obtain rfl:=ob (hcl 5 6 _ rfl (by decide) rfl);obtain rfl:=ob (hcl 6 7 _ rfl (by decide) rfl);obtain rfl:=ob (hcl 7 8 _ rfl (by decide) rfl);obtain rfl:=ob (hcl 8 9 _ rfl (by decide) rfl);obtain rfl:=ob (hcl 8 10 _ rfl (by decide) rfl);obtain rfl:=ob (hcl 9 12 _ rfl (by decide) rfl);obtain rfl:=ob (hcl 10 13 _ rfl (by decide) rfl))|(obtain rfl:=ob (hcl 4 5 _ rfl (by decide) rfl);obtain rfl:=ob (hcl 5 6 _ rfl (by decide) rfl);obtain rfl:=ob (hcl 6 7 _ rfl (by decide) rfl);obtain rfl:=ob (hcl 7 8 _ rfl (by decide) rfl);obtain rfl:=ob (hcl 8 9 _ rfl (by decide) rfl);obtain rfl:=ob (hcl 8 10 _ rfl (by decide) rfl);obtain rfl:=ob (hcl 9 12 _ rfl (by decide) rfl);obtain rfl:=ob (hcl 10 13 _ rfl (by decide) rfl))|(obtain rfl:=ob (hcl 5 6 _ rfl (by decide) rfl);obtain rfl:=ob (hcl 6 7 _ rfl (by decide) rfl);obtain rfl:=ob (hcl 7 8 _ rfl (by decide) rfl);obtain rfl:=ob (hcl 8 9 _ rfl (by decide) rfl);obtain rfl:=ob (hcl 8 10 _ rfl (by decide) rfl);obtain rfl:=ob (hcl 9 12 _ rfl (by decide) rfl);obtain rfl:=ob (hcl 10 13 _ rfl (by decide) rfl))|(obtain rfl:=ob (hcl 6 7 _ rfl (by decide) rfl);obtain rfl:=ob (hcl 7 8 _ rfl (by decide) rfl);obtain rfl:=ob (hcl 8 9 _ rfl (by decide) rfl);obtain rfl:=ob (hcl 8 10 _ rfl (by decide) rfl);obtain rfl:=ob (hcl 9 12 _ rfl (by decide) rfl);obtain rfl:=ob (hcl 10 13 _ rfl (by decide) rfl))|(obtain rfl:=ob (hcl 7 8 _ rfl (by decide) rfl);obtain rfl:=ob (hcl 8 9 _ rfl (by decide) rfl);obtain rfl:=ob (hcl 8 10 _ rfl (by decide) rfl);obtain rfl:=ob (hcl 9 12 _ rfl (by decide) rfl);obtain rfl:=ob (hcl 10 13 _ rfl (by decide) rfl))|(obtain rfl:=ob (hcl 8 9 _ rfl (by decide) rfl);obtain rfl:=ob (hcl 8 10 _ rfl (by decide) rfl);obtain rfl:=ob (hcl 9 12 _ rfl (by decide) rfl);obtain rfl:=ob (hcl 10 13 _ rfl (by decide) rfl))|(obtain rfl:=ob (hcl 9 12 _ rfl (by decide) rfl);obtain rfl:=ob (hcl 12 13 _ rfl (by decide) rfl))|(obtain rfl:=ob (hcl 10 13 _ rfl (by decide) rfl))|(obtain rfl:=ob (hcl 11 12 _ rfl (by decide) rfl);obtain rfl:=ob (hcl 12 13 _ rfl (by decide) rfl))|(obtain rfl:=ob (hcl 12 13 _ rfl (by decide) rfl))|skip
     try cases j4)
    all_goals(try cases yq)
    all_goals(try(try obtain rfl:=ob (hcl 7 8 _ rfl (by decide) rfl);try obtain rfl:=ob (hcl 8 9 _ rfl (by decide) rfl);try obtain rfl:=ob (hcl 8 10 _ rfl (by decide) rfl);try obtain rfl:=ob (hcl 9 12 _ rfl (by decide) rfl);try obtain rfl:=ob (hcl 10 13 _ rfl (by decide) rfl)))
    all_goals(try(try obtain rfl:=ob (hcl 11 12 _ rfl (by decide) rfl);try obtain rfl:=ob (hcl 12 13 _ rfl (by decide) rfl)))
    all_goals(try(exact absurd (show false=true from hc rfl) (by decide)))
    all_goals(
     simp only[N8,N6,N7,lQ,pG,oV,cond_true,cond_false,bf,bn,List.append_nil]
     repeat'(first
       |exact aZ _ ⟨true,hc,rfl⟩|exact aZ _ ⟨false,hc,rfl⟩|exact aZ _ ⟨true,fun _=>rfl,rfl⟩|exact aZ _ ⟨false,fun _=>rfl,rfl⟩|exact aZ _ ⟨true,fun h=>Bool.noConfusion h,rfl⟩|exact aZ _ ⟨false,fun h=>Bool.noConfusion h,rfl⟩
       |(refine b9 ?_)
       |(refine de ?_)
       |(refine ae.intro (by assumption) ?_)
       |(with_reducible refine al ?_)
       |(refine⟨⟨by omega,by omega⟩,?_⟩)
       |(refine⟨hlt,?_⟩)
       |simp only[go_sem,lM,bf,bn,av,aa.enc,aF]))
   rintro _ ⟨_|_,_,rfl⟩
   all_goals(
    simp only[N8,N6,N7,lQ,pG,oV,List.replicate,cond_true,cond_false,bf,bn];subst hb;by_cases hk:X.id=k
    ·have l1:decide (X.id≠k)=false:=by simp[hk]
     try simp only[go_sem]
     repeat'(first|((first|with_reducible refine b9 ?_|with_reducible refine kN ?_|with_reducible refine kt ?_|refine bb ?_|refine ba N5 (by kernel_rfl) (by rfl) ?_)<;>simp only[go_sem,lM,av,aa.enc,aF,l1,Bool.not_true,wV])|(with_reducible refine al ?_)|fail)
     refine bm.intro (i+1) [0,1,2,3,4,5] (by omega) (by omega) ?_;simp only[go_sem]
     try simp
    ·have l1:decide (X.id≠k)=true:=by simp[hk]
     have aeB:Y=X:=by rw[tJ,k2 hk]
     clear tJ;subst aeB
     try simp only[go_sem]
     repeat'(first|((first|refine ae.intro (by assumption) ?_|refine ao.intro (by assumption) ?_|with_reducible refine kN ?_|refine ba N5 (by kernel_rfl) (by rfl) ?_)<;>simp only[go_sem,lM,av,aa.enc,aF,l1,Bool.not_true,wV])|(with_reducible refine al ?_)|fail)
     refine bm.intro (i+1) [0,1,2,3,4,5] (by omega) (by omega) ?_;simp only[go_sem]
     try simp)
  ·have ar:decide ((i:Int)<(d.streams.length:Int))=false:=a_ (by omega);simp only[go_sem,ar];refine di.intro () [] trivial ?_;simp only[go_sem]
   try simp
set_option maxHeartbeats 8000000 in
theorem laws_FnCalls(bs:List Int):PureCall Tryz.prog 3 [.one (.sl 1 (bs.map eU8))] [.one (.bool true)]:=by
 refine tC 332 Tryz.func3 Tryz.call3 [.tmp 2] ?_;intro ok;clear ok;refine ej hZ 6 (α:=Unit) (fun _=>⟨(.d (.sl 1 (bs.map eU8))::jn 331 []),[]⟩) (fun _=>True) ?_ ?_
 ·simp only[go_sem];refine ae.intro (aeu bs) ?_;simp only[go_sem];refine bp (fun h=>?_) (fun h=>?_)
  ·simp only[go_sem]
  simp only[go_sem];refine ae.j' (YL bs) rfl ?_;rintro _ ⟨c,u,bz,rfl⟩;have hv:=bz.nG;have hz:e0 c:=hv.sz (by omega);have bo:∀s∈c.streams,jm s.send:=fun s hs=>(hv.n0 s hs).snd.CO;have IP:=aeC c u hz bo;have tK:=PU c u hz;have N_:=Ar (iZ c u);have U0:=(U1 bz.U2 u).2;obtain⟨g,hg⟩:∃g,g=o6 c u:=⟨_,rfl⟩;obtain⟨n,hn⟩:∃n,n=ow c u:=⟨_,rfl⟩;obtain⟨y,hy⟩:∃y,y=iZ c u:=⟨_,rfl⟩;rw[←hg,←hn,←hy]at IP tK;rw[←hy]at N_;rw[←hg,←hn,←hy]at U0;clear hg hn hy;have aol:=BD c.cr n;have aom:=yG n;have dw:=By c.streams n;have fs:=By y.streams n;simp only[go_sem,ep,lM]
  try simp only[go_sem,lM,ne_eq,not_true_eq_false,decide_false,bne_self_eq_false]
  repeat'(first|((first|refine ae.intro (by assumption) ?_|refine ao.intro (by assumption) ?_|with_reducible refine b9 ?_|with_reducible refine kN ?_|with_reducible refine kt ?_|refine bb ?_)<;>simp only[go_sem,lM,ne_eq,not_true_eq_false,decide_false,bne_self_eq_false])|(with_reducible refine al ?_)|fail)
  rw[aev U0];simp only[go_sem];refine di.intro () [] trivial ?_;simp only[go_sem]
  try simp
 rintro _ _;refine ej hZ 7 (α:=I×Int×I) (fun q=>⟨(.d (.sl 1 (bs.map eU8))::jn 10 (.ptr 2 0 0::.d (.int .i64 q.2.1)::jn 4 (.ptr 5 0 0::jn 314 []))),[.ai 39 (q.1.streams.map aa.enc) true,.ai 2 (q.1.packets.map aC.enc) true,.box (I.vc q.1 (.sl 0 0 q.1.streams.length) (.sl 1 0 q.1.packets.length)),.ai 39 (q.2.2.streams.map aa.enc) true,.ai 2 (q.2.2.packets.map aC.enc) true,.box (I.vc q.2.2 (.sl 3 0 q.2.2.streams.length) (.sl 4 0 q.2.2.packets.length))]⟩) (fun q=>q.1.streams.length≤1000∧e0 q.2.2∧∀s∈q.1.streams,(strOf q.2.2.streams s.id).2=true∧(s.id≠q.2.1→strOf q.2.2.streams s.id=(s,true))) ?_ ?_
 ·simp only[go_sem];refine ae.j' (YO bs) rfl ?_;rintro _ ⟨d,k,data,bz,iX,rfl⟩;have hv:=bz.nG;have hz:e0 d:=hv.sz (by omega);have bo:∀s∈d.streams,jm s.send:=fun s hs=>(hv.n0 s hs).snd.CO;have IP:=XL d k data hz bo (by omega);have tK:=KL d k data hz (by omega) ((UQ hv k iX).sz (by omega));have N_:=Ar (eH d k data);have hw:=aeD hv k data (by omega);have pC:=aeE bz.U2 k data;have A3:e0 (eH d k data):=(aej hv k iX).sz (by omega);have xO:d.streams.length≤1000:=by have:=hz.1;omega
  obtain⟨mA,hn⟩:∃n,n=oy d k data:=⟨_,rfl⟩;obtain⟨eG,hy⟩:∃y,y=eH d k data:=⟨_,rfl⟩;rw[←hn,←hy]at IP tK;rw[←hy]at N_ pC A3;rw[←hn]at hw;clear hn hy;simp only[go_sem,ep,lM]
  try simp only[go_sem,ne_eq]
  repeat'(first|((first|refine ae.intro (by assumption) ?_|refine ao.intro (by assumption) ?_|with_reducible refine kN ?_)<;>simp only[go_sem,lM])|(with_reducible refine al ?_)|fail)
  refine ae.j' (YM bs) rfl ?_;rintro _ ⟨e,f,aeF,rfl⟩;have m':=aeF.nG;have U3:e0 e:=m'.sz (by omega);have aeG:∀s∈e.streams,jm s.send:=fun s hs=>(m'.n0 s hs).snd.CO;have aeH:=XI e f U3 aeG;have aeI:=PR e f U3 (((m'.aE f).yd (NS (m'.aE f).snd)).sz (by omega));have aeJ:=Ar (uN e f);obtain⟨g3,hg⟩:∃n,n=vO e f:=⟨_,rfl⟩;obtain⟨IQ,hy⟩:∃y,y=uN e f:=⟨_,rfl⟩;rw[←hg,←hy]at aeH aeI;rw[←hy]at aeJ;clear hg hy;simp only[go_sem,ep,lM]
  try simp only[go_sem,lM,ne_eq,not_true_eq_false,decide_false,bne_self_eq_false]
  repeat'((first|refine ae.intro (by assumption) ?_|refine ao.intro (by assumption) ?_|with_reducible refine b9 ?_|refine bb ?_)<;>simp only[go_sem,lM,ne_eq,not_true_eq_false,decide_false,bne_self_eq_false])
  rw[show(bif bif bif decide (mA<0)then true else decide ((data.length:Int)<mA)then true else false then true else false)=false by rw[a_ (show ¬mA<0 by omega),a_ (show ¬(data.length:Int)<mA by omega)];rfl];simp only[go_sem];refine di.intro (d,k,eG) [0,1,2,6,7,8] ⟨xO,A3,pC⟩ ?_;simp only[go_sem]
  try simp
 rintro⟨d,k,eG⟩ ⟨xO,A3,pC⟩;simp only at xO A3 pC⊢;refine ej hZ 1 (α:=Unit) (fun _=>⟨(.d (.sl 1 (bs.map eU8))::jn 331 []),[]⟩) (fun _=>True) ?_ ?_
 ·exact aez bs d k eG xO A3 pC
 rintro _ _;refine ej hZ 5 (α:=(I×Bool)×I×Bool) (fun q=>⟨(.d (.sl 1 (bs.map eU8))::jn 29 (.ptr 2 0 0::.d (.bool q.1.2)::.ptr 5 0 0::.d (.bool q.1.2)::.ptr 8 0 0::.d (.bool q.2.2)::.ptr 11 0 0::.d (.bool q.2.2)::jn 294 [])),[.ai 39 (q.1.1.streams.map aa.enc) true,.ai 2 (q.1.1.packets.map aC.enc) true,.box (I.vc q.1.1 (.sl 0 0 q.1.1.streams.length) (.sl 1 0 q.1.1.packets.length)),.ai 39 (q.1.1.streams.map aa.enc) true,.ai 2 (q.1.1.packets.map aC.enc) true,.box (I.vc q.1.1 (.sl 3 0 q.1.1.streams.length) (.sl 4 0 q.1.1.packets.length)),.ai 39 (q.2.1.streams.map aa.enc) true,.ai 2 (q.2.1.packets.map aC.enc) true,.box (I.vc q.2.1 (.sl 6 0 q.2.1.streams.length) (.sl 7 0 q.2.1.packets.length)),.ai 39 (q.2.1.streams.map aa.enc) true,.ai 2 (q.2.1.packets.map aC.enc) true,.box (I.vc q.2.1 (.sl 9 0 q.2.1.streams.length) (.sl 10 0 q.2.1.packets.length))]⟩) (fun _=>True) ?_ ?_
 ·simp only[go_sem];refine ae.j' (QL bs) rfl ?_;rintro _ ⟨c,id,n,bz,rfl⟩;have hv:=bz.nG;have hz:e0 c:=hv.sz (by omega);have bo:∀s∈c.streams,jm s.send:=fun s hs=>(hv.n0 s hs).snd.CO;have hw:dT (e3 (aE c id) n):=(((hv.aE id).IJ n).sz (by omega));have dw:=XV c id n hz bo hw;have fs:=P4 c id n hz hw;have f3:=XS c id n hz bo aew;have f4:=Yf c id n hz;generalize jM c id n=Fo at *;generalize o_ c id n=dx at *;generalize DA c id n=eG at *;generalize oz c id n=dt at *;clear hw bo hz hv bz;simp only[go_sem,ep,lM]
  try simp only[go_sem,lM]
  repeat'((first|refine ae.intro (by assumption) ?_|refine ao.intro (by assumption) ?_)<;>simp only[go_sem,lM])
  refine di.intro ((Fo,dx),eG,dt) [3,4,5,6,7,8,9,10,11,12,13,14] trivial ?_;simp only[go_sem]
  try simp
 rintro⟨⟨Fo,dx⟩,eG,dt⟩ _;simp only;refine ej hZ 3 (α:=(I×Bool)×(I×Bool)×I×Bool) (fun q=>⟨(.d (.sl 1 (bs.map eU8))::jn 29 (.ptr 2 0 0::.d (.bool q.1.2)::.ptr 5 0 0::.d (.bool q.1.2)::.ptr 8 0 0::.d (.bool q.2.1.2)::.ptr 11 0 0::.d (.bool q.2.1.2)::jn 3 (.ptr 14 0 0::.d (.bool q.2.2.2)::.ptr 17 0 0::.d (.bool q.2.2.2)::jn 287 []))),[.ai 39 (q.1.1.streams.map aa.enc) true,.ai 2 (q.1.1.packets.map aC.enc) true,.box (I.vc q.1.1 (.sl 0 0 q.1.1.streams.length) (.sl 1 0 q.1.1.packets.length)),.ai 39 (q.1.1.streams.map aa.enc) true,.ai 2 (q.1.1.packets.map aC.enc) true,.box (I.vc q.1.1 (.sl 3 0 q.1.1.streams.length) (.sl 4 0 q.1.1.packets.length)),.ai 39 (q.2.1.1.streams.map aa.enc) true,.ai 2 (q.2.1.1.packets.map aC.enc) true,.box (I.vc q.2.1.1 (.sl 6 0 q.2.1.1.streams.length) (.sl 7 0 q.2.1.1.packets.length)),.ai 39 (q.2.1.1.streams.map aa.enc) true,.ai 2 (q.2.1.1.packets.map aC.enc) true,.box (I.vc q.2.1.1 (.sl 9 0 q.2.1.1.streams.length) (.sl 10 0 q.2.1.1.packets.length)),.ai 39 (q.2.2.1.streams.map aa.enc) true,.ai 2 (q.2.2.1.packets.map aC.enc) true,.box (I.vc q.2.2.1 (.sl 12 0 q.2.2.1.streams.length) (.sl 13 0 q.2.2.1.packets.length)),.ai 39 (q.2.2.1.streams.map aa.enc) true,.ai 2 (q.2.2.1.packets.map aC.enc) true,.box (I.vc q.2.2.1 (.sl 15 0 q.2.2.1.streams.length) (.sl 16 0 q.2.2.1.packets.length))]⟩) (fun _=>True) ?_ ?_
 ·simp only[go_sem];refine ae.j' (YU bs) rfl ?_;rintro _ ⟨c,id,t,bz,ht,rfl⟩;have hv:=bz.nG;have hz:e0 c:=hv.sz (by omega);have bo:∀s∈c.streams,jm s.send:=fun s hs=>(hv.n0 s hs).snd.CO;have dw:=X' c id t hz bo (by omega) (split_laid t (by omega)) trim_laid;have fs:=PS c id t hz (by omega);generalize jL c id t=IQ at *;generalize gR c id=dq at *;clear bo hz hv bz;simp only[go_sem,ep,lM]
  try simp only[go_sem,lM]
  repeat'((first|refine ae.intro (by assumption) ?_|refine ao.intro (by assumption) ?_)<;>simp only[go_sem,lM])
  refine di.intro ((Fo,dx),(eG,dt),IQ,dq) [0,1,2,3,4,5,6,7,8,9,10,11,15,16,17,18,19,20] trivial ?_;simp only[go_sem]
  try simp
 rintro⟨⟨Fo,dx⟩,⟨eG,dt⟩,IQ,dq⟩ _;simp only;refine gO hZ ?_;simp only[go_sem];refine ae.j' (YN bs) rfl ?_;rintro _ ⟨c,n,bz,rfl⟩;have hv:=bz.nG;have hz:e0 c:=hv.sz (by omega);have bo:∀s∈c.streams,jm s.send:=fun s hs=>(hv.n0 s hs).snd.CO;have dw:=X9 c n hz bo;have fs:=Yg c n hz;have ag:=Ar Fo;have e2:=Ar eG;have aY:=Ar IQ;have bk:=Ar (BB c n);generalize BB c n=aon at *;generalize vT c n=oA at *;clear bo hz hv bz;simp only[go_sem,ep,lM]
 try simp only[go_sem,lM,beq_self_eq_true,decide_true]
 repeat'((first|refine ae.intro (by assumption) ?_|refine ao.intro (by assumption) ?_|with_reducible refine b9 ?_)<;>simp only[go_sem,lM,beq_self_eq_true])
 try simp
end Gv
