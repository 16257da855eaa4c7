/-
  Part of the proof: the machine, what functions compute, and the plain laws.
-/
import Derived.Test.YtadnpafpbheedaaGreatM00
import GoSem.ClaimChange
set_option maxHeartbeats 80000000
set_option maxRecDepth 100000
namespace Gv
open Go
variable {P:Program}
abbrev d1:=Oper×Nat×fW
def wH(n:Nat)(r:fW)(id:Nat):Option H:=
 match(r.upd.reverse.find? (·.1 == id))with
 |some p=>some p.2
 |none=>if n≤id∧id<n+r.new.length then some (r.new.getD (id-n) .eb)else none
theorem Us:∀(upd:List (Nat×H)) (hs:List H) (id:Nat),a5 (hupd hs upd) id=((upd.reverse.find? (·.1 == id)).map (·.2)).getD (a5 hs id)
 |[],hs,id=>rfl
 |(i,x)::r,hs,id=>by
  rw[hupd,Us r (cO hs i x) id,jz];simp only[List.reverse_cons,List.find?_append]
  cases h:r.reverse.find? (·.1 == id)with
  |some p=>simp
  |none=>
   by_cases hi:i=id
   ·subst hi;simp
   ·have hb:(i == id)=false:=by simpa using hi
    have dC:¬id=i:=fun e=>hi e.symm;simp[hb,dC]
theorem xH(σ:St)(dst:Option Tmp)(n:Nat)(r:fW)(id:Nat):a5 (σ.dM dst n r).heap id=(wH n r id).getD (a5 σ.heap id):=by
 simp only[St.dM];rw[Us,B5];unfold wH
 cases h:r.upd.reverse.find? (·.1 == id)with
 |some p=>simp
 |none=>
  by_cases hc:n≤id∧id<n+r.new.length
  ·simp[hc]
  ·simp[hc]
theorem Ax(σ:St)(dst:Option Tmp)(n:Nat)(r:fW)(t:Nat):(σ.dM dst n r).tmps[t]?=if dst=some t then(if t<σ.tmps.length then some r.v else none)else σ.tmps[t]?:=by
 cases dst with
 |none=>simp[St.dM]
 |some d=>
  simp only[St.dM,List.getElem?_set,b4];by_cases h:d=t
  ·subst h;simp
  ·simp[h]
theorem B6(σ:St)(dst:Option Tmp)(n:Nat)(r:fW):(σ.dM dst n r).tmps.length=σ.tmps.length:=by
 cases dst<;>simp[St.dM]
def apS(S:Nat→Bool):Nat→List d1→St→St
 |_,[],σ=>σ
 |k,(o,n,r)::l,σ=>apS S (k+1) l (if S k then σ.dM o.dst n r else σ)
theorem Ut(S:Nat→Bool):∀(l:List d1) (k:Nat) (σ:St),(apS S k l σ).tmps.length=σ.tmps.length
 |[],_,_=>rfl
 |(o,n,r)::l,k,σ=>by
  rw[apS,Ut S l];split
  ·exact B6 σ o.dst n r
  ·rfl
theorem Jo(S m5:Nat→Bool)(t:Nat):∀(l:List d1) (k:Nat) (σ σ':St),σ.tmps[t]?=σ'.tmps[t]?→σ.tmps.length=σ'.tmps.length→(∀(j:Nat) (x:d1),l[j]?=some x→x.1.dst=some t→S (k+j)=m5 (k+j))→(apS S k l σ).tmps[t]?=(apS m5 k l σ').tmps[t]?
 |[],_,_,_,h,_,_=>h
 |(o,n,r)::l,k,σ,σ',h,hl,aK=>by
  rw[apS,apS];have q4:∀b ez:Bool,(if b=true then σ.dM o.dst n r else σ).tmps.length=(if ez=true then σ'.dM o.dst n r else σ').tmps.length:=by
   intro b ez;cases b<;>cases ez<;>simp[B6,hl]
  refine Jo S m5 t l (k+1) _ _ ?_ (q4 _ _) fun j x hx hd=>by
   have:=aK (j+1) x (by simpa using hx) hd;rw[show k+1+j=k+(j+1)from by omega];exact this
  by_cases hd:o.dst=some t
  ·have h0:=aK 0 (o,n,r) rfl hd;simp only[Nat.add_zero]at h0;rw[h0];split
   ·rw[Ax,Ax,if_pos hd,if_pos hd,hl]
   ·exact h
  ·have h1:∀(b:Bool) (hG:St),(if b=true then hG.dM o.dst n r else hG).tmps[t]?=hG.tmps[t]?:=by
    intro b hG;cases b
    ·rfl
    ·simp only[if_true];rw[Ax,if_neg hd]
   rw[h1,h1,h]
theorem F2(S m5:Nat→Bool)(id:Nat):∀(l:List d1) (k:Nat) (σ σ':St),a5 σ.heap id=a5 σ'.heap id→(∀(j:Nat) (x:d1),l[j]?=some x→wH x.2.1 x.2.2 id≠none→S (k+j)=m5 (k+j))→a5 (apS S k l σ).heap id=a5 (apS m5 k l σ').heap id
 |[],_,_,_,h,_=>h
 |(o,n,r)::l,k,σ,σ',h,aK=>by
  rw[apS,apS];refine F2 S m5 id l (k+1) _ _ ?_ fun j x hx hd=>by
   have:=aK (j+1) x (by simpa using hx) hd;rw[show k+1+j=k+(j+1)from by omega];exact this
  by_cases hd:wH n r id=none
  ·have h1:∀(b:Bool) (hG:St),a5 (if b=true then hG.dM o.dst n r else hG).heap id=a5 hG.heap id:=by
    intro b hG;cases b
    ·rfl
    ·simp only[if_true];rw[xH,hd];rfl
   rw[h1,h1,h]
  ·have h0:=aK 0 (o,n,r) rfl hd;simp only[Nat.add_zero]at h0;rw[h0];split
   ·rw[xH,xH,h]
   ·exact h
theorem Uu(S:Nat→Bool)(t:Nat):∀(l:List d1) (k:Nat) (σ:St) (i:Nat) (x:d1),l[i]?=some x→x.1.dst=some t→S (k+i)=true→(∀(j:Nat) (y:d1),i<j→l[j]?=some y→y.1.dst=some t→S (k+j)=false)→(apS S k l σ).tmps[t]?=if t<σ.tmps.length then some x.2.2.v else none
 |[],_,_,i,_,hi,_,_,_=>by simp at hi
 |(o,n,r)::l,k,σ,0,x,hi,hd,hs,hl=>by
  simp at hi;subst hi;rw[apS];simp only[Nat.add_zero]at hs;rw[hs];have:=Jo S (fun _=>false) t l (k+1) (σ.dM o.dst n r) (σ.dM o.dst n r) rfl rfl fun j y hy jY=>by
   have:=hl (j+1) y ω (by simpa using hy) jY;rw[show k+1+j=k+(j+1)from by omega];exact this
  simp only[if_true];rw[this];have gg:∀(l:List d1) (k:Nat) (hG:St),apS (fun _=>false) k l hG=hG:=by
   intro l
   induction l with
   |nil=>intro k hG;rfl
   |cons y l df=>intro k hG;obtain⟨o,n,r⟩:=y;rw[apS];simpa using df (k+1) hG
  rw[gg,Ax,if_pos hd]
 |(o,n,r)::l,k,σ,i+1,x,hi,hd,hs,hl=>by
  rw[apS,Uu S t l (k+1) _ i x (by simpa using hi) hd (by rw[show k+1+i=k+(i+1)from by omega];exact hs) fun j y oa hy jY=>by
   have:=hl (j+1) y ω (by simpa using hy) jY;rw[show k+1+j=k+(j+1)from by omega];exact this]
  split
  ·rw[B6]
  ·rfl
theorem Uv(S:Nat→Bool)(id:Nat):∀(l:List d1) (k:Nat) (σ:St) (i:Nat) (x:d1) (y:H),l[i]?=some x→wH x.2.1 x.2.2 id=some y→S (k+i)=true→(∀(j:Nat) (z:d1),i<j→l[j]?=some z→wH z.2.1 z.2.2 id≠none→S (k+j)=false)→a5 (apS S k l σ).heap id=y
 |[],_,_,i,_,_,hi,_,_,_=>by simp at hi
 |(o,n,r)::l,k,σ,0,x,y,hi,hd,hs,hl=>by
  simp at hi;subst hi;rw[apS];simp only[Nat.add_zero]at hs;rw[hs];have:=F2 S (fun _=>false) id l (k+1) (σ.dM o.dst n r) (σ.dM o.dst n r) rfl fun j y hy jY=>by
   have:=hl (j+1) y ω (by simpa using hy) jY;rw[show k+1+j=k+(j+1)from by omega];exact this
  simp only[if_true];rw[this];have gg:∀(l:List d1) (k:Nat) (hG:St),apS (fun _=>false) k l hG=hG:=by
   intro l
   induction l with
   |nil=>intro k hG;rfl
   |cons y l df=>intro k hG;obtain⟨o,n,r⟩:=y;rw[apS];simpa using df (k+1) hG
  rw[gg,xH,hd];rfl
 |(o,n,r)::l,k,σ,i+1,x,y,hi,hd,hs,hl=>by
  rw[apS];exact Uv S id l (k+1) _ i x y (by simpa using hi) hd (by rw[show k+1+i=k+(i+1)from by omega];exact hs) fun j z oa hz jY=>by
   have:=hl (j+1) z ω (by simpa using hz) jY;rw[show k+1+j=k+(j+1)from by omega];exact this
theorem Uw{B:Nat→Prop}{w0:World}{a4:Nat→Prop}{φ:c1}{ts ts':List V}{hs hs':List H}{kp:List (V×Value)}{a:Act}{w:World}(r:R B w0 a4 φ ⟨ts,hs⟩ kp a w)(ht:ts'=ts)(h:∀i,a5 hs' i=a5 hs i):R B w0 a4 φ ⟨ts',hs'⟩ kp a w:=by
 subst ht;have ag:c9 φ hs'=c9 φ hs:=by funext b;simp only[c9,h]
 have ar:∀i b,dS φ hs' i b=dS φ hs i b:=by intro i b;simp only[dS,h]
 refine⟨by simp only[ag];exact r.iA,by simp only[ag];exact r.kp,fun i=>by simp only[ag,h];exact r.hp i,fun i j b h1 h2=>?_,fun i β e hx=>r.gu i β e (by simp only[h]at hx;exact hx),fun i b h1=>r.gZ i b (by rw[←ar];exact h1),r.h7,r.g0,r.bs,r.oz,r.l4⟩;simp only[ar]at h1 h2;exact r.dZ i j b h1 h2
inductive bR where
 |pre
 |dN
 |post
 deriving DecidableEq
abbrev bR.p:bR:=.post
abbrev bR.q:bR:=.pre
abbrev bR.u:bR:=.dN
def o9(dv:List (List bR))(i j:Nat):bR:=(dv.getD i []).getD j .post
def DG(aQ:List Oper)(i j:Nat):Bool:=match aQ[i]? with|some o=>o.after.toList.any fun e=>Region.binds .any e&&e.on == j|none=>false
def DH(aQ:List Oper)(dv:List (List bR))(m i j:Nat):Bool:=
 (match o9 dv i j with
  |.pre=>decide (j<i)&&(DG aQ i j||(List.range m).any fun k=>DG aQ i k&&decide (o9 dv k j=.pre)&&decide (k<i))
  |.post=>decide (j=i)||decide (o9 dv j i=.pre)
  |.dN=>decide (j≠i)&&decide (o9 dv j i=.dN)) &&
 (decide (j=i)||match aQ[i]?,aQ[j]? with|some x,some y=>decide (x.dst=none)||decide (x.dst≠y.dst)|_,_=>true)
def vC(aQ:List Oper)(dv:List (List bR)):Bool:=
 decide (dv.length=aQ.length)&&(List.range aQ.length).all fun i=>((match aQ[i]? with|some o=>o.after.toList.all fun e=>!Region.binds .any e||decide (e.on<i)|none=>true))&&(List.range aQ.length).all fun j=>DH aQ dv aQ.length i j
theorem Jp{aQ:List Oper}{dv:List (List bR)}(h:vC aQ dv=true){i j:Nat}(hi:i<aQ.length)(aK:j<aQ.length):DH aQ dv aQ.length i j=true:=by
 simp only[vC,bW,List.all_eq_true,List.mem_range]at h;exact(h.2 i hi).2 j aK
theorem adY{aQ:List Oper}{dv:List (List bR)}(h:vC aQ dv=true){i:Nat}{o:Oper}(hi:aQ[i]?=some o){e:Edge}(he:e∈o.after.toList)(hb:Region.binds .any e=true):e.on<i:=by
 have hlt:i<aQ.length:=(List.getElem?_eq_some_iff.1 hi).1;simp only[vC,bW,List.all_eq_true,List.mem_range]at h;have:=(h.2 i hlt).1;rw[hi]at this;simp only[List.all_eq_true]at this;have:=this e he;simpa [hb]using this
theorem Ux{aQ:List Oper}{dv:List (List bR)}(h:vC aQ dv=true){i j:Nat}(hi:i<aQ.length)(aK:j<aQ.length)(hr:o9 dv i j=.pre):j<i∧(DG aQ i j=true∨∃k,DG aQ i k=true∧o9 dv k j=.pre∧k<i):=by
 have:=Jp h hi aK;unfold DH at this;rw[hr]at this;simp only[bW,Bool.or_eq_true,b8,List.any_eq_true,List.mem_range]at this;refine⟨this.1.1,this.1.2.imp id ?_⟩;rintro⟨k,_,⟨h1,h2⟩,ao⟩;exact⟨k,h1,h2,ao⟩
theorem adZ{aQ:List Oper}{dv:List (List bR)}(h:vC aQ dv=true){i j:Nat}(hi:i<aQ.length)(aK:j<aQ.length)(hr:o9 dv i j=.post):j=i∨o9 dv j i=.pre:=by
 have:=Jp h hi aK;unfold DH at this;rw[hr]at this;simp only[bW,Bool.or_eq_true,b8]at this;exact this.1
theorem ad0{aQ:List Oper}{dv:List (List bR)}(h:vC aQ dv=true){i j:Nat}(hi:i<aQ.length)(aK:j<aQ.length)(hr:o9 dv i j=.dN):o9 dv j i=.dN:=by
 have:=Jp h hi aK;unfold DH at this;rw[hr]at this;simp only[bW,b8]at this;exact this.1.2
theorem ad1{aQ:List Oper}{dv:List (List bR)}(h:vC aQ dv=true){i j:Nat}{x y:Oper}(hx:aQ[i]?=some x)(hy:aQ[j]?=some y)(hne:j≠i){d:Tmp}(hd:x.dst=some d):y.dst≠some d:=by
 have hi:i<aQ.length:=(List.getElem?_eq_some_iff.1 hx).1;have aK:j<aQ.length:=(List.getElem?_eq_some_iff.1 hy).1;have:=Jp h hi aK;unfold DH at this;simp only[bW,Bool.or_eq_true,b8,hne,false_or,hx,hy,hd]at this;rcases this.2 with h1|h1
 ·cases h1
 ·exact fun e=>h1 e.symm
def wI(ts:List V)(d:Option Tmp):List V:=match d with|some t=>ts.set t .al|none=>ts
def kilH:List H→List (Nat×H)→List H
 |hs,[]=>hs
 |hs,(i,_)::r=>kilH (cO hs i .eb) r
def mask:List bR→List d1→List Oper→St→St
 |.pre::row,(o,n,r)::l,bG,σ=>mask row l bG (σ.dM o.dst n r)
 |.dN::row,(o,_,r)::l,bG,σ=>mask row l bG ⟨wI σ.tmps o.dst,kilH σ.heap r.upd⟩
 |.post::row,_::l,bG,σ=>mask row l bG σ
 |.dN::row,[],o::bG,σ=>mask row [] bG ⟨wI σ.tmps o.dst,σ.heap⟩
 |.pre::row,[],_::bG,σ=>mask row [] bG σ
 |.post::row,[],_::bG,σ=>mask row [] bG σ
 |[],_,_,σ=>σ
 |_::_,[],[],σ=>σ
theorem NR:∀(upd:List (Nat×H)) (hs:List H) (id:Nat),a5 (kilH hs upd) id=.eb∨(a5 (kilH hs upd) id=a5 hs id∧∀x,(id,x)∉upd)
 |[],hs,id=>.inr ⟨rfl,by simp⟩
 |(i,y)::r,hs,id=>by
  rw[kilH];rcases NR r (cO hs i .eb) id with h|⟨h1,h2⟩
  ·exact .inl h
  ·rw[jz]at h1;by_cases hi:id=i
   ·rw[if_pos hi]at h1;exact .inl h1
   ·rw[if_neg hi]at h1;exact .inr ⟨h1,fun x hx=>by
     rcases List.mem_cons.1 hx with hx|hx
     ·cases hx;exact hi rfl
     ·exact h2 x hx⟩
theorem Ay{n:Nat}{r:fW}{id:Nat}(h1:∀x,(id,x)∉r.upd)(h2:¬(n≤id∧id<n+r.new.length)):wH n r id=none:=by
 unfold wH;rw[if_neg h2]
 cases h:r.upd.reverse.find? (·.1 == id)with
 |none=>rfl
 |some p=>
  exfalso;have hm:=List.mem_of_find?_eq_some h;have hp:=List.find?_some h;simp only[beq_iff_eq]at hp;exact h1 p.2 (by rw[←hp];simpa using hm)
def Asc:Nat→List d1→Prop
 |_,[]=>True
 |c,(_,n,r)::l=>n=c∧(∀p∈r.upd,p.1<n+r.new.length)∧Asc (c+r.new.length) l
structure DI(lh o_:St):Prop where
 len:lh.tmps.length=o_.tmps.length
 iA:∀(t:Nat) (v:V),lh.tmps[t]?=some v→v=.al∨o_.tmps[t]?=some v
 hp:∀i,a5 lh.heap i=.eb∨a5 o_.heap i=a5 lh.heap i
theorem DI.dM{lh o_:St}(h:DI lh o_)(dst:Option Tmp)(n:Nat)(r:fW):DI (lh.dM dst n r) (o_.dM dst n r):=by
 refine⟨by rw[B6,B6,h.len],fun t v e=>?_,fun i=>?_⟩
 ·rw[Ax]at e⊢;by_cases hd:dst=some t
  ·rw[if_pos hd]at e⊢;rw[←h.len];exact .inr e
  ·rw[if_neg hd]at e⊢;exact h.iA t v e
 ·rw[xH,xH]
  cases wH n r i with
  |none=>exact h.hp i
  |some x=>exact .inr rfl
theorem Uy(ts:List V)(d:Option Tmp)(t:Nat)(v:V)(h:(wI ts d)[t]?=some v):v=.al∨(ts[t]?=some v∧d≠some t):=by
 cases d with
 |none=>exact .inr ⟨h,by simp⟩
 |some x=>
  simp only[wI,List.getElem?_set]at h;by_cases hx:x=t
  ·rw[if_pos hx]at h;split at h
   ·cases h;exact .inl rfl
   ·cases h
  ·rw[if_neg hx]at h;exact .inr ⟨h,fun e=>hx (bd e)⟩
theorem Uz(ts:List V)(d:Option Tmp):(wI ts d).length=ts.length:=by cases d<;>simp[wI]
theorem F3:∀(row:List bR) (bG:List Oper) (σ:St),(mask row [] bG σ).heap=σ.heap
 |[],[],_=>rfl
 |[],_::_,_=>rfl
 |.pre::_,[],_=>rfl
 |.dN::_,[],_=>rfl
 |.post::_,[],_=>rfl
 |.pre::row,_::bG,σ=>F3 row bG σ
 |.dN::row,o::bG,σ=>F3 row bG ⟨wI σ.tmps o.dst,σ.heap⟩
 |.post::row,_::bG,σ=>F3 row bG σ
theorem DJ(S:Nat→Bool):∀(row:List bR) (l:List d1) (bG:List Oper) (tail:List d1) (k c:Nat) (lh o_:St),tail.map (·.1)=bG→row.length=l.length+bG.length→Asc c (l++tail)→DI lh o_→(∀id,c≤id→a5 lh.heap id=.eb)→
  (∀j,row[j]?=some .pre→j<l.length∧S (k+j)=true)→(∀j,row[j]?=some .post→S (k+j)=false)→(∀(j:Nat) (x:d1),row[j]?=some .dN→l.length≤j→tail[j-l.length]?=some x→S (k+j)=true→∀p∈x.2.2.upd,a5 (mask row l bG lh).heap p.1=.eb)→
  DI (mask row l bG lh) (apS S k (l++tail) o_)
 |[],l,bG,tail,k,c,lh,o_,ht,hl,_,h,_,_,_,_=>by
  have h1:l=[]:=List.eq_nil_of_length_eq_zero (by simp at hl;omega);have h2:bG=[]:=List.eq_nil_of_length_eq_zero (by simp at hl;omega);subst h1;subst h2;have ao:tail=[]:=by simpa using ht
  subst ao;simpa [mask,apS]using h
 |x::row,(o,n,r)::l,bG,tail,k,c,lh,o_,ht,hl,ha,h,hd,hp,hq,hu=>by
  simp only[bz,Asc]at ha;obtain⟨rfl,Jq,Az⟩:=ha;rw[bz,apS];have DK:∀j,row[j]?=some .pre→j<l.length∧S (k+1+j)=true:=fun j aK=>by
   have:=hp (j+1) (by simpa using aK);rw[show k+1+j=k+(j+1)from by omega];exact⟨by simpa using this.1,this.2⟩
  have qR:∀j,row[j]?=some .post→S (k+1+j)=false:=fun j aK=>by
   have:=hq (j+1) (by simpa using aK);rw[show k+1+j=k+(j+1)from by omega];exact this
  have qm:∀(j:Nat) (mg:d1),row[j]?=some .dN→l.length≤j→tail[j-l.length]?=some mg→S (k+1+j)=true→∀p∈mg.2.2.upd,a5 (mask (x::row) ((o,n,r)::l) bG lh).heap p.1=.eb:=fun j x h1 h2 ao aN=>by
   refine hu (j+1) x (by simpa using h1) (by simp;omega) ?_ (by rw[show k+(j+1)=k+1+j from by omega];exact aN);simpa using ao
  have NS:∀id,n+r.new.length≤id→∀y,(id,y)∉r.upd:=fun id gg y hy=>by have:=Jq _ hy;simp only at this;omega
  cases x with
  |pre=>
   have h0:=(hp 0 rfl).2;simp only[Nat.add_zero]at h0;rw[h0];simp only[if_true,mask];refine DJ S row l bG tail (k+1) _ _ _ ht (by simpa [Nat.add_right_comm]using hl) Az (h.dM o.dst n r) (fun id gg=>?_) DK qR qm;rw[xH,Ay (NS id gg) ω];exact hd id ω
  |dN=>
   simp only[mask];refine DJ S row l bG tail (k+1) _ _ _ ht (by simpa [Nat.add_right_comm]using hl) Az ?_ (fun id gg=>?_) DK qR qm
   ·refine⟨?_,fun t v e=>?_,fun i=>?_⟩
    ·simp only[Uz];rw[h.len];split
     ·rw[B6]
     ·rfl
    ·rcases Uy _ _ _ _ e with h1|⟨h1,h2⟩
     ·exact .inl h1
     ·split
      ·rw[Ax,if_neg h2];exact h.iA t v h1
      ·exact h.iA t v h1
    ·rcases NR r.upd lh.heap i with h1|⟨h1,h2⟩
     ·exact .inl h1
     ·rw[h1];split
      ·by_cases hr:n≤i∧i<n+r.new.length
       ·exact .inl (hd i hr.1)
       ·rw[xH,Ay h2 hr];exact h.hp i
      ·exact h.hp i
   ·rcases NR r.upd lh.heap id with h1|⟨h1,h2⟩
    ·exact h1
    ·rw[h1];exact hd id ω
  |post=>
   have h0:=hq 0 rfl;simp only[Nat.add_zero]at h0;rw[h0];simp only[Bool.false_eq_true,if_false,mask];exact DJ S row l bG tail (k+1) _ _ _ ht (by simpa [Nat.add_right_comm]using hl) Az h (fun id gg=>hd id ω) DK qR qm
 |x::row,[],[],tail,k,c,lh,o_,ht,hl,_,_,_,_,_,_=>by simp at hl
 |x::row,[],o::bG,tail,k,c,lh,o_,ht,hl,ha,h,hd,hp,hq,hu=>by
  cases tail with
  |nil=>simp at ht
  |cons y tail=>
   obtain⟨vD,n,r⟩:=y;simp only[eT,List.cons.injEq]at ht;obtain⟨rfl,ht⟩:=ht;simp only[bx,Asc]at ha;obtain⟨rfl,Jq,Az⟩:=ha;simp only[bx,apS];have DK:∀j,row[j]?=some .pre→j<([]:List d1).length∧S (k+1+j)=true:=fun j aK=>by
    have:=(hp (j+1) (by simpa using aK)).1;simp at this
   have qR:∀j,row[j]?=some .post→S (k+1+j)=false:=fun j aK=>by
    have:=hq (j+1) (by simpa using aK);rw[show k+1+j=k+(j+1)from by omega];exact this
   have qm:∀(hG:St),hG.heap=lh.heap→∀(j:Nat) (mg:d1),row[j]?=some .dN→([]:List d1).length≤j→tail[j-([]:List d1).length]?=some mg→S (k+1+j)=true→∀p∈mg.2.2.upd,a5 (mask row [] bG hG).heap p.1=.eb:=fun hG ad2 j mg h1 h2 ao aN p hp=>by
    have:=hu (j+1) mg (by simpa using h1) ξ (by simpa using ao) (by rw[show k+(j+1)=k+1+j from by omega];exact aN) p hp;rw[F3]at this⊢;rw[ad2];exact this
   have q4:row.length=([]:List d1).length+bG.length:=by simp at hl⊢;omega
   have jY:∀id,n+r.new.length≤id→a5 lh.heap id=.eb:=fun id gg=>hd id ω
   cases x with
   |pre=>have:=(hp 0 rfl).1;simp at this
   |dN=>
    simp only[mask];have:=DJ S row [] bG tail (k+1) _ ⟨wI lh.tmps vD.dst,lh.heap⟩ (if S k=true then o_.dM vD.dst n r else o_) ht q4 (by simpa using Az) ?_ jY DK qR (qm _ rfl)
    ·simpa using this
    ·refine⟨?_,fun t v e=>?_,fun i=>?_⟩
     ·simp only[Uz];rw[h.len];split
      ·rw[B6]
      ·rfl
     ·rcases Uy _ _ _ _ e with h1|⟨h1,h2⟩
      ·exact .inl h1
      ·split
       ·rw[Ax,if_neg h2];exact h.iA t v h1
       ·exact h.iA t v h1
     ·split
      ·rename_i hs;have ad3:=hu 0 (vD,n,r) rfl ξ ξ hs;by_cases hr:n≤i∧i<n+r.new.length
       ·exact .inl (hd i hr.1)
       ·by_cases hx:∃z,(i,z)∈r.upd
        ·obtain⟨z,hz⟩:=hx;have:=ad3 (i,z) hz;rw[F3]at this;exact .inl this
        ·rw[xH,Ay (fun z hz=>hx ⟨z,hz⟩) hr];exact h.hp i
      ·exact h.hp i
   |post=>
    have h0:=hq 0 rfl;simp only[Nat.add_zero]at h0;rw[h0];simp only[Bool.false_eq_true,if_false,mask];have:=DJ S row [] bG tail (k+1) _ lh o_ ht q4 (by simpa using Az) h jY DK qR (qm _ rfl);simpa using this
def anyE(P:Program)(aQ:List Oper)(e5:St):List (List bR)→List Oper→List d1→Nat→(List d1→Prop)→Prop
 |row::dv,o::bG,l,n,K=>stepE P aQ (mask row l (o::bG) e5) n o fun r=>anyE P aQ e5 dv bG (l++[(o,n,r)]) (n+r.new.length) K
 |_,[],l,_,K=>K l
 |[],_::_,_,_,_=>False
def NT:Nat→List d1→Prop
 |_,[]=>True
 |c,(_,n,r)::l=>n=c∧NT (c+r.new.length) l
theorem UA{aQ:Array Oper}{e5:St}:∀(bG:List Oper) (dv:List (List bR)) (l:List d1) (n:Nat) (K:List d1→Prop),anyE P aQ.toList e5 dv bG l n K→
  ∃tail:List d1,tail.map (·.1)=bG∧K (l++tail)∧NT n tail∧∀(j:Nat) (x:d1),tail[j]?=some x→∃row,dv[j]?=some row∧Jr P aQ x.1 (mask row (l++tail.take j) (bG.drop j) e5) x.2.1 x.2.2
 |[],dv,l,n,K,h=>by
  have:K l:=by cases dv<;>exact h
  exact⟨[],rfl,by simpa using this,trivial,by simp⟩
 |o::bG,[],l,n,K,h=>h.elim
 |o::bG,row::dv,l,n,K,h=>by
  simp only[anyE]at h;obtain⟨r,h1,h2⟩:=ad4 h;obtain⟨tail,ih,hQ,B7,B8⟩:=UA bG dv _ _ K h2;refine⟨(o,n,r)::tail,by simp[ih],by simpa using hQ,⟨rfl,B7⟩,fun j x aK=>?_⟩
  cases j with
  |zero=>simp at aK;subst aK;exact⟨row,rfl,by simpa using h1⟩
  |succ j=>
   obtain⟨F4,k1,k2⟩:=B8 j x (by simpa using aK);exact⟨F4,by simpa using k1,by simpa using k2⟩
def allPre:List bR→Bool
 |[]=>true
 |.pre::r=>allPre r
 |_::_=>false
def F5(b:Nat):List (Nat×H)→Prop
 |[]=>True
 |(i,_)::r=>i<b∧F5 b r
def updE:List (List bR)→Nat→List d1→Prop
 |row::dv,i,(_,n,r)::l=>(match r.upd with|[]=>True|_::_=>allPre (row.take i)=true)∧F5 (n+r.new.length) r.upd∧updE dv (i+1) l
 |_,_,[]=>True
 |[],_,_::_=>False
def AA(x:d1)(id:Nat):Bool:=!(decide (x.2.1≤id)&&decide (id<x.2.1+x.2.2.new.length))&&!(x.2.2.upd.any fun q=>q.1 == id)
def NU:H→Bool
 |.eb=>true
 |_=>false
def okR(e5:St)(cz:List Nat):List bR→List (List bR)→List d1→List d1→List Oper→Bool
 |r::row,vE::dv,pre,x::l,o::aQ=>(match r with|.pre=>true|_=>cz.all fun id=>NU (a5 (mask vE pre (o::aQ) e5).heap id)&&AA x id)&&okR e5 cz row dv (pre++[x]) l aQ
 |_,_,_,[],_=>true
 |_,_,_,_::_,_=>false
def Js(e5:St)(row:List bR)(dv:List (List bR))(pre:List d1)(aQ:List Oper):List (Nat×H)→Bool
 |[]=>true
 |p::u=>okR e5 (p.1::u.map (·.1)) row dv [] pre aQ
def F6(e5:St)(F7:List (List bR))(F8:List Oper):List (List bR)→List d1→List d1→Prop
 |row::dv,pre,(o,n,r)::l=>Js e5 row F7 pre F8 r.upd=true∧F5 (n+r.new.length) r.upd∧F6 e5 F7 F8 dv (pre++[(o,n,r)]) l
 |_,_,[]=>True
 |[],_,_::_=>False
theorem UB{x:H}(h:NU x=true):x=.eb:=by cases x<;>first|rfl|cases h
theorem UC{e5:St}{cz:List Nat}:∀{l:List d1} {row:List bR} {dv:List (List bR)} {pre:List d1} {aQ:List Oper},okR e5 cz row dv pre l aQ=true→∀(k:Nat) (y:d1) (ρ:bR),l[k]?=some y→row[k]?=some ρ→ρ≠.pre→∀id∈cz,
  ∃vE,dv[k]?=some vE∧a5 (mask vE (pre++l.take k) (aQ.drop k) e5).heap id=.eb∧AA y id=true
 |[],_,_,_,_,_,k,y,ρ,hy,_,_,_,_=>by simp at hy
 |x::l,[],_,_,_,h,_,_,_,_,_,_,_,_=>by simp[okR]at h
 |x::l,_::_,[],_,_,h,_,_,_,_,_,_,_,_=>by simp[okR]at h
 |x::l,_::_,_::_,_,[],h,_,_,_,_,_,_,_,_=>by simp[okR]at h
 |x::l,r::row,vE::dv,pre,o::aQ,h,k,y,ρ,hy,hr,hne,id,gg=>by
  simp only[okR,bW]at h
  cases k with
  |zero=>
   simp at hy hr;subst hy;subst hr;have h1:=h.1;refine⟨vE,rfl,?_⟩
   cases r with
   |pre=>exact absurd rfl hne
   |dN=>
    simp only[List.all_eq_true,bW]at h1;obtain⟨ao,aN⟩:=h1 id gg;exact⟨by simpa using UB ao,aN⟩
   |post=>
    simp only[List.all_eq_true,bW]at h1;obtain⟨ao,aN⟩:=h1 id gg;exact⟨by simpa using UB ao,aN⟩
  |succ k=>
   obtain⟨ad5,k1,k2,dR⟩:=UC h.2 k y ρ (by simpa using hy) (by simpa using hr) hne id gg;exact⟨ad5,by simpa using k1,by simpa using k2,dR⟩
theorem UD:∀{row:List bR},allPre row=true→∀(j:Nat) (x:bR),row[j]?=some x→x=.pre
 |[],_,j,x,h=>by simp at h
 |y::row,h,j,x,hx=>by
  cases y<;>simp only[allPre]at h
  ·cases j with
   |zero=>simp at hx;exact hx.symm
   |succ j=>exact UD h j x (by simpa using hx)
  ·cases h
  ·cases h
theorem NV{b:Nat}:∀{upd:List (Nat×H)},F5 b upd→∀p∈upd,p.1<b
 |[],_,p,hp=>by cases hp
 |(i,x)::r,h,p,hp=>by
  rcases List.mem_cons.1 hp with rfl|hp
  ·exact h.1
  ·exact NV h.2 p hp
theorem NW{e5:St}{F7:List (List bR)}{F8:List Oper}:∀{l:List d1} {dv:List (List bR)} {pre:List d1},F6 e5 F7 F8 dv pre l→∀(j:Nat) (x:d1),l[j]?=some x→∃row,dv[j]?=some row∧Js e5 row F7 (pre++l.take j) F8 x.2.2.upd=true∧∀p∈x.2.2.upd,p.1<x.2.1+x.2.2.new.length
 |[],_,_,_,j,x,h=>by simp at h
 |(o,n,r)::l,[],_,h,j,x,hx=>h.elim
 |(o,n,r)::l,row::dv,pre,h,j,x,hx=>by
  obtain⟨h1,h2,ao⟩:=h
  cases j with
  |zero=>simp at hx;subst hx;exact⟨row,rfl,by simpa using h1,NV h2⟩
  |succ j=>
   obtain⟨F4,k1,k2,dR⟩:=NW ao j x (by simpa using hx);exact⟨F4,by simpa using k1,by simpa using k2,dR⟩
theorem NX:∀{l:List d1} {dv:List (List bR)} {i:Nat},updE dv i l→∀(j:Nat) (x:d1),l[j]?=some x→∃row,dv[j]?=some row∧(x.2.2.upd=[]∨∀k,k<i+j→k<row.length→row[k]?=some .pre)∧∀p∈x.2.2.upd,p.1<x.2.1+x.2.2.new.length
 |[],_,_,_,j,x,h=>by simp at h
 |(o,n,r)::l,[],i,h,j,x,hx=>h.elim
 |(o,n,r)::l,row::dv,i,h,j,x,hx=>by
  obtain⟨h1,h2,ao⟩:=h
  cases j with
  |zero=>
   simp at hx;subst hx;refine⟨row,rfl,?_,NV h2⟩
   cases hu:r.upd with
   |nil=>exact .inl rfl
   |cons p ps=>
    rw[hu]at h1;right;intro k hk u';have ad6:k<(row.take i).length:=by simp;omega
    have:=UD h1 k _ (cD ad6);rw[cD u'];rw[List.getElem_take]at this;rw[this]
  |succ j=>
   obtain⟨F4,k1,k2,dR⟩:=NX ao j x (by simpa using hx);exact⟨F4,by simpa using k1,k2.imp id fun h k hk=>h k ω,dR⟩
theorem UE{c:Nat}:∀{l:List d1},NT c l→(∀(j:Nat) (x:d1),l[j]?=some x→∀p∈x.2.2.upd,p.1<x.2.1+x.2.2.new.length)→Asc c l
 |[],_,_=>trivial
 |(o,n,r)::l,h,hu=>⟨h.1,hu 0 (o,n,r) rfl,UE h.2 fun j x hx=>hu (j+1) x (by simpa using hx)⟩
theorem F9{c:Nat}:∀{l:List d1},Asc c l→∀(j:Nat) (x:d1),l[j]?=some x→c≤x.2.1∧(∀p∈x.2.2.upd,p.1<x.2.1+x.2.2.new.length)∧∀(k:Nat) (y:d1),j<k→l[k]?=some y→x.2.1+x.2.2.new.length≤y.2.1
 |[],_,j,x,h=>by simp at h
 |(o,n,r)::l,h,j,x,hx=>by
  obtain⟨rfl,h1,h2⟩:=h
  cases j with
  |zero=>
   simp at hx;subst hx;refine⟨fE _,h1,fun k y hk hy=>?_⟩
   cases k with
   |zero=>omega
   |succ k=>exact(F9 h2 k y (by simpa using hy)).1
  |succ j=>
   obtain⟨k1,k2,dR⟩:=F9 h2 j x (by simpa using hx);refine⟨by omega,k2,fun k y hk hy=>?_⟩
   cases k with
   |zero=>omega
   |succ k=>exact dR k y ω (by simpa using hy)
theorem UF{p q:Nat→Bool}:∀(l:List Nat) (x:Nat),x∈l→(∀y,p y=true→q y=true)→q x=true→p x=false→l.countP p<l.countP q
 |[],x,h,_,_,_=>by cases h
 |y::l,x,h,NY,hq,hp=>by
  have bt:l.countP p≤l.countP q:=List.countP_mono_left fun z _=>NY z;rcases List.mem_cons.1 h with rfl|h
  ·rw[List.countP_cons_of_neg (by simp[hp]),List.countP_cons_of_pos hq];omega
  ·have:=UF l x h NY hq hp;by_cases hy:p y=true
   ·rw[List.countP_cons_of_pos hy,List.countP_cons_of_pos (NY y hy)];omega
   ·rw[List.countP_cons_of_neg hy];by_cases UG:q y=true
    ·rw[List.countP_cons_of_pos UG];omega
    ·rw[List.countP_cons_of_neg UG];exact this
structure UH(P:Program)(aQ:Array Oper)(dv:List (List bR))(eV:List d1)(e5:St):Prop where
 B9:vC aQ.toList dv=true
 fst:eV.map (·.1)=aQ.toList
 i0:Asc e5.heap.length eV
 upd:∀(i:Nat) (x:d1),eV[i]?=some x→∀p∈x.2.2.upd,∀(k:Nat) (y:d1),k<i→eV[k]?=some y→o9 dv i k≠.pre→∃vE,dv[k]?=some vE∧a5 (mask vE (eV.take k) (aQ.toList.drop k) e5).heap p.1=.eb∧AA y p.1=true
 wJ:∀(i:Nat) (row:List bR),dv[i]?=some row→row.length=aQ.size
 step:∀(i:Nat) (x:d1),eV[i]?=some x→∃row,dv[i]?=some row∧Jr P aQ x.1 (mask row (eV.take i) (aQ.toList.drop i) e5) x.2.1 x.2.2
def UI(aQ:Array Oper)(S:Nat→Bool):Prop:=∀i o,aQ[i]?=some o→S i=true→∀e∈o.after,Region.binds .any e=true→S e.on=true
theorem UJ{aQ:Array Oper}{dv:List (List bR)}(h:vC aQ.toList dv=true){S:Nat→Bool}(hc:UI aQ S):∀(i:Nat),(∀e o,aQ[i]?=some o→e∈o.after→Region.binds .any e=true→S e.on=true)→∀j,i<aQ.size→j<aQ.size→o9 dv i j=.pre→S j=true:=by
 intro i
 induction i using Nat.strongRecOn with
 |_ i df=>
  intro he j hi aK hr;have Jt:∀k,DG aQ.toList i k=true→S k=true:=by
   intro k hk;unfold DG at hk;rw[Array.getElem?_toList,Array.getElem?_eq_getElem hi]at hk;simp only[List.any_eq_true,bW,beq_iff_eq]at hk;obtain⟨e,h1,h2,ao⟩:=hk;rw[←ao];exact he e _ (Array.getElem?_eq_getElem hi) (by simpa using h1) h2
  obtain⟨h1,h2|⟨k,h2,ao,aN⟩⟩:=Ux h (by simpa using hi) (by simpa using aK) hr
  ·exact Jt j h2
  ·have hk:=Jt k h2;exact df k aN (fun e o aJ BJ hb=>hc k o aJ hk e BJ hb) j ω aK ao
section
variable {aQ:Array Oper} {dv:List (List bR)} {eV:List d1} {e5:St} {B:Nat→Prop} {w0:World} {kp:List (V×Value)} {Q:Exit→Act→World→Prop}
theorem ad7(G:UH P aQ dv eV e5)(m6:∀a w,(∃a4 φ,R B w0 a4 φ (apS (fun _=>true) 0 eV e5) kp a w∧∀id,a4 id→id<e5.heap.length∨∃(j:Nat) (x:d1),eV[j]?=some x∧x.2.1≤id∧id<x.2.1+x.2.2.new.length)→Q .normal a w) :
  ∀(fuel:Nat) (et:Array Bool) (a:Act) (w:World),et.size=aQ.size→UI aQ (fun i=>et.getD i false)→(List.range aQ.size).countP (fun i=>!(et.getD i false))≤fuel→
   (∃a4 φ,R B w0 a4 φ (apS (fun i=>et.getD i false) 0 eV e5) kp a w∧∀id,a4 id→id<e5.heap.length∨∃(j:Nat) (x:d1),eV[j]?=some x∧et.getD j false=true∧x.2.1≤id∧id<x.2.1+x.2.2.new.length)→
   wpAny P .any aQ Q fuel et a w:=by
 have fK:eV.length=aQ.size:=by
  have:=congrArg List.length G.fst;simpa using this
 have NZ:∀(i:Nat) (x:d1),eV[i]?=some x→aQ[i]?=some x.1:=by
  intro i x hx;have:=congrArg (·[i]?) G.fst;simp only[List.getElem?_map,hx,Option.map_some,Array.getElem?_toList]at this;exact this.symm
 have B_:∀(et:Array Bool),et.size=aQ.size→Region.ready .any aQ et=[]→∀i,i<aQ.size→et.getD i false=true:=by
  intro et hs hr i
  induction i using Nat.strongRecOn with
  |_ i df=>
   intro hi;by_cases h:et.getD i false=true
   ·exact h
   ·exfalso;have:i∈Region.ready .any aQ et:=by
     rw[mem_ready];refine⟨?_,aQ[i],Array.getElem?_eq_getElem hi,fun e he hb=>?_⟩
     ·have:i<et.size:=by omega
      simp only[Array.getD_eq_getD_getElem?,Array.getElem?_eq_getElem this,fh]at h⊢;simpa using h
     ·have:=adY G.B9 (i:=i) (o:=aQ[i]) (by simp[hi]) (e:=e) (by simpa using he) hb;exact df e.on this ω
    rw[hr]at this;cases this
 have UK:∀(et:Array Bool) (a:Act) (w:World),et.size=aQ.size→Region.ready .any aQ et=[]→(∃a4 φ,R B w0 a4 φ (apS (fun i=>et.getD i false) 0 eV e5) kp a w∧∀id,a4 id→id<e5.heap.length∨∃(j:Nat) (x:d1),eV[j]?=some x∧et.getD j false=true∧x.2.1≤id∧id<x.2.1+x.2.2.new.length)→Q .normal a w:=by
  rintro et a w hs hr ⟨a4,φ,bj,b5⟩;refine m6 a w ⟨a4,φ,Uw bj ?_ ?_,fun id gg=>(b5 id gg).imp (fun h=>h) fun⟨j,x,h1,_,h2⟩=>⟨j,x,h1,h2⟩⟩
  ·apply List.ext_getElem?;intro t;refine Jo _ _ t eV 0 e5 e5 rfl rfl fun j x hx _=>?_;have aK:j<eV.length:=(List.getElem?_eq_some_iff.1 hx).1;simp only[Nat.zero_add];exact(B_ et hs hr j ω).symm
  ·intro id;refine F2 _ _ id eV 0 e5 e5 rfl fun j x hx _=>?_;have aK:j<eV.length:=(List.getElem?_eq_some_iff.1 hx).1;simp only[Nat.zero_add];exact(B_ et hs hr j ω).symm
 intro fuel
 induction fuel with
 |zero=>
  intro et a w hs hc ad8 bj;have hr:Region.ready .any aQ et=[]:=by
   apply List.eq_nil_iff_forall_not_mem.2;intro i hi;obtain⟨h1,o,aJ,_⟩:=mem_ready.1 hi;have hlt:i<aQ.size:=(Array.getElem?_eq_some_iff.1 aJ).1;have h2:(List.range aQ.size).countP (fun i=>!(et.getD i false))=0:=by omega
   have:=List.countP_eq_zero.1 h2 i (List.mem_range.2 hlt);have hl:i<et.size:=by omega
   simp only[Array.getD_eq_getD_getElem?,Array.getElem?_eq_getElem hl,fh]at this h1;rw[h1]at this;simp at this
  exact⟨hr,UK et a w hs hr bj⟩
 |succ fuel df=>
  intro et a w hs hc ad8 bj;refine⟨fun hr=>UK et a w hs hr bj,fun i hi=>?_⟩;obtain⟨h1,o,aJ,DL⟩:=mem_ready.1 hi;have hlt:i<aQ.size:=(Array.getElem?_eq_some_iff.1 aJ).1;have hl:i<et.size:=by omega
  have DM:et.getD i false=false:=by
   simp only[Array.getD_eq_getD_getElem?,Array.getElem?_eq_getElem hl,fh]at h1⊢;exact h1
  have ad9:i<eV.length:=by omega
  have hx:eV[i]?=some eV[i]:=cD ad9;generalize eV[i]=x at hx;have aea:x.1=o:=by have:=NZ i x hx;rw[aJ]at this;exact(bd this).symm
  obtain⟨row,F_,aeb⟩:=G.step i x hx;have wc:∀j y,row[j]?=some y→o9 dv i j=y∧j<aQ.size:=by
   intro j y hy;refine⟨by unfold o9;simp[F_,hy],?_⟩;have:=(List.getElem?_eq_some_iff.1 hy).1;rw[G.wJ i row F_]at this;exact this
  have UL:∀j,row[j]?=some .pre→j<i∧et.getD j false=true:=by
   intro j aK;obtain⟨h2,ao⟩:=wc j _ aK;exact⟨(Ux G.B9 (by simpa using hlt) (by simpa using ao) h2).1,UJ G.B9 hc i (fun e vD Ju he hb=>by rw[aJ]at Ju;cases Ju;exact DL e he hb) j hlt ao h2⟩
  have UM:∀j,row[j]?=some .post→et.getD j false=false:=by
   intro j aK;obtain⟨h2,ao⟩:=wc j _ aK;rcases adZ G.B9 (by simpa using hlt) (by simpa using ao) h2 with aN|aN
   ·rw[aN];exact DM
   ·cases hs':et.getD j false with
    |false=>rfl
    |true=>
     have:=UJ G.B9 hc j (fun e vD Ju he hb=>hc j vD Ju hs' e he hb) i ao hlt aN;rw[DM]at this;cases this
  have UN:∀(j:Nat) (y:d1),row[j]?=some .dN→i<j→eV[j]?=some y→∀p∈y.2.2.upd,a5 (mask row (eV.take i) (aQ.toList.drop i) e5).heap p.1=.eb∧AA x p.1=true:=by
   intro j y aK oa hy p hp;obtain⟨h2,ao⟩:=wc j _ aK;obtain⟨vE,cn,cG,d4⟩:=G.upd j y hy p hp i x oa hx (by
    rw[ad0 G.B9 (by simpa using hlt) (by simpa using ao) h2];intro h;cases h)
   rw[F_]at cn;cases cn;exact⟨cG,d4⟩
  have UO:∀(j:Nat) (y:d1),i<j→eV[j]?=some y→et.getD j false=true→∀p∈y.2.2.upd,AA x p.1=true:=by
   intro j y oa hy hs';have aK:j<aQ.size:=by have:=(List.getElem?_eq_some_iff.1 hy).1;omega
   have aec:j<row.length:=by rw[G.wJ i row F_];exact aK
   have h2:row[j]?=some row[j]:=cD aec
   cases hR:row[j]with
   |pre=>rw[hR]at h2;have:=(UL j h2).1;omega
   |post=>rw[hR]at h2;have:=UM j h2;rw[this]at hs';cases hs'
   |dN=>rw[hR]at h2;exact fun p hp=>(UN j y h2 oa hy p hp).2
  have bt:DI (mask row (eV.take i) (aQ.toList.drop i) e5) (apS (fun i=>et.getD i false) 0 eV e5):=by
   have nJ:(eV.take i).length=i:=by simp;omega
   have:=DJ (fun i=>et.getD i false) row (eV.take i) (aQ.toList.drop i) (eV.drop i) 0 e5.heap.length e5 e5 (by rw[List.map_drop,G.fst]) (by rw[G.wJ i row F_];simp;omega) (by rw[List.take_append_drop];exact G.i0)
    ⟨rfl,fun t v e=>.inr e,fun i=>.inr rfl⟩ (fun id gg=>by unfold a5;rw[j3,List.getElem?_eq_none gg];rfl)
    (fun j aK=>by rw[nJ,Nat.zero_add];exact UL j aK) (fun j aK=>by rw[Nat.zero_add];exact UM j aK)
    (fun j y aK oa hy hs'=>by
     rw[nJ]at oa hy;rw[Nat.zero_add]at hs';rw[List.getElem?_drop,show i+(j-i)=j from by omega]at hy;rcases Nat.lt_or_ge i j with h|h
     ·exact fun p hp=>(UN j y aK h hy p hp).1
     ·have:j=i:=by omega
      subst this;rw[DM]at hs';cases hs')
   rw[List.take_append_drop]at this;exact this
  obtain⟨a4,φ,fz,b5⟩:=bj;have vF:=F9 G.i0 i x hx;have Jv:∀(j:Nat) (y:d1) (id:Nat),j≠i→eV[j]?=some y→et.getD j false=true→x.2.1≤id→id<x.2.1+x.2.2.new.length→wH y.2.1 y.2.2 id=none:=by
   intro j y id l7 hy hs' h2 ao;have UP:=F9 G.i0 j y hy;rcases Nat.lt_or_gt_of_ne l7 with h|h
   ·have aN:=UP.2.2 i x h hx;exact Ay (fun z hz=>by have:=UP.2.1 _ hz;simp only at this;omega) ω
   ·have aN:=vF.2.2 j y h hy;refine Ay (fun z hz=>?_) ω;have:=UO j y h hy hs' (id,z) hz;simp only[AA,bW,Bool.not_eq_true',Bool.and_eq_false_iff,eG]at this;omega
  have NS:∀id,x.2.1≤id→id<x.2.1+x.2.2.new.length→a5 (apS (fun i=>et.getD i false) 0 eV e5).heap id=.eb:=by
   intro id h2 ao;have:=F2 (fun i=>et.getD i false) (fun _=>false) id eV 0 e5 e5 rfl fun j y hy hne=>by
    simp only[Nat.zero_add]
    cases hs':et.getD j false with
    |false=>rfl
    |true=>
     exfalso;by_cases l7:j=i
     ·subst l7;rw[DM]at hs';cases hs'
     ·exact hne (Jv j y id l7 hy hs' h2 ao)
   rw[this];have gg:∀(l:List d1) (k:Nat) (hG:St),apS (fun _=>false) k l hG=hG:=by
    intro l
    induction l with
    |nil=>intro k hG;rfl
    |cons y l df=>intro k hG;obtain⟨o,n,r⟩:=y;rw[apS];simpa using df (k+1) hG
   rw[gg];have:e5.heap.length≤id:=by have:=vF.1;omega
   unfold a5;rw[j3,List.getElem?_eq_none this];rfl
  have lj:∀id,x.2.1≤id→id<x.2.1+x.2.2.new.length→¬a4 id:=by
   intro id h2 ao hd;rcases b5 id hd with aN|⟨j,y,hy,hs',aN,b6⟩
   ·have:=vF.1;omega
   ·by_cases l7:j=i
    ·subst l7;rw[DM]at hs';cases hs'
    ·rcases Nat.lt_or_gt_of_ne l7 with h|h
     ·have:=(F9 G.i0 j y hy).2.2 i x h hx;omega
     ·have:=vF.2.2 j y h hy;omega
  have qn:∀j,(et.setIfInBounds i true).getD j false=if j=i then true else et.getD j false:=by
   intro j;by_cases l7:j=i
   ·subst l7;rw[if_pos rfl];simp[hl]
   ·rw[if_neg l7];exact getD_set_ne false (Ne.symm l7)
  have hk:=aeb (apS (fun i=>et.getD i false) 0 eV e5) ⟨bt.iA,bt.hp⟩ NS B w0 a4 φ kp a w lj fz (wpAny P .any aQ Q fuel (et.setIfInBounds i true)) Q fun u w' dw kj=>by
   refine df _ _ w' (by simp[hs]) (fun j aed aK N0 e he hb=>?_) ?_ ⟨_,dw,Uw kj ?_ ?_,fun id gg=>?_⟩
   ·simp only[qn]at N0⊢;by_cases UQ:e.on=i
    ·rw[if_pos UQ]
    ·rw[if_neg UQ];by_cases l7:j=i
     ·subst l7;rw[aJ]at aK;cases aK;exact DL e he hb
     ·rw[if_neg l7]at N0;exact hc j aed aK N0 e he hb
   ·have:=UF (p:=fun j=>!((et.setIfInBounds i true).getD j false)) (q:=fun j=>!(et.getD j false)) (List.range aQ.size) i (List.mem_range.2 hlt) (fun y hy=>by
     rw[qn]at hy;by_cases n3:y=i
     ·rw[if_pos n3]at hy;cases hy
     ·rw[if_neg n3]at hy;exact hy) (by rw[DM];rfl) (by rw[qn,if_pos rfl];rfl)
    omega
   ·apply List.ext_getElem?;intro t;have aee:=Ax (apS (fun i=>et.getD i false) 0 eV e5) x.1.dst x.2.1 x.2.2 t;refine Eq.trans ?_ aee.symm;by_cases hd:x.1.dst=some t
    ·rw[if_pos hd,Ut];refine Uu _ t eV 0 e5 i x hx hd (by simp[qn]) fun j y oa hy N1=>?_;exfalso;exact ad1 G.B9 (i:=i) (j:=j) (x:=x.1) (y:=y.1) (by simp[NZ i x hx]) (by simp[NZ j y hy]) ω hd N1
    ·rw[if_neg hd];refine Jo _ _ t eV 0 e5 e5 rfl rfl fun j y hy N1=>?_;simp only[Nat.zero_add,qn];by_cases l7:j=i
     ·subst l7;rw[hx]at hy;cases hy;exact absurd N1 hd
     ·rw[if_neg l7]
   ·intro id;refine Eq.trans ?_ (xH (apS (fun i=>et.getD i false) 0 eV e5) x.1.dst x.2.1 x.2.2 id).symm
    cases ht:wH x.2.1 x.2.2 id with
    |none=>
     refine F2 _ _ id eV 0 e5 e5 rfl fun j y hy hne=>?_;simp only[Nat.zero_add,qn];by_cases l7:j=i
     ·subst l7;rw[hx]at hy;cases hy;exact absurd ht hne
     ·rw[if_neg l7]
    |some z=>
     refine Uv _ id eV 0 e5 i x z hx ht (by simp[qn]) fun j y oa hy hne=>?_;simp only[Nat.zero_add,qn];rw[if_neg ω]
     cases hs':et.getD j false with
     |false=>rfl
     |true=>
      exfalso;have hu:∀z,(id,z)∉y.2.2.upd:=fun aef eX=>by
       have b6:=UO j y oa hy hs' (id,aef) eX;simp only[AA,bW,Bool.not_eq_true',Bool.and_eq_false_iff,eG]at b6;rw[Ay (fun q hq=>by
        have dP:=List.any_eq_false.1 b6.2 (id,q) hq;simp at dP) ω]at ht
       cases ht
      have aN:=vF.2.2 j y oa hy;have aoY:id<x.2.1+x.2.2.new.length:=by
       rcases Nat.lt_or_ge id (x.2.1+x.2.2.new.length)with h|h
       ·exact h
       ·rw[Ay (fun z hz=>by have:=vF.2.1 _ hz;simp only at this;omega) ω]at ht;cases ht
      exact hne (Ay hu ω)
   ·rcases gg with gg|gg
    ·rcases b5 id gg with aN|⟨j,y,hy,hs',aN⟩
     ·exact .inl aN
     ·exact .inr ⟨j,y,hy,by rw[qn];split<;>first|rfl|exact hs',aN⟩
    ·exact .inr ⟨i,x,hx,by rw[qn,if_pos rfl],gg⟩
  unfold wpOp;simp only[aJ];rw[aea]at hk;split at hk
  ·rename_i hw;rw[if_pos hw];exact hk
  ·rename_i hw;rw[if_neg hw];exact hk
end
def seqAp:List d1→St→St
 |[],σ=>σ
 |(o,n,r)::l,σ=>seqAp l (σ.dM o.dst n r)
theorem UR:∀(l:List d1) (k:Nat) (σ:St),apS (fun _=>true) k l σ=seqAp l σ
 |[],_,_=>rfl
 |(o,n,r)::l,k,σ=>by rw[apS,seqAp];simpa using UR l (k+1) (σ.dM o.dst n r)
theorem US:∀(l:List d1) (c:Nat) (σ:St),Asc c l→c≤σ.heap.length→σ.heap.length≤(seqAp l σ).heap.length∧∀(j:Nat) (x:d1),l[j]?=some x→x.2.1+x.2.2.new.length≤(seqAp l σ).heap.length
 |[],_,_,_,_=>⟨fE _,by simp⟩
 |(o,n,r)::l,c,σ,ha,hc=>by
  obtain⟨rfl,h1,h2⟩:=ha;have Ga:=Gb r.new σ.heap n;have FR:=Jw r.upd (hnew σ.heap n r.new);have N2:σ.heap.length≤(σ.dM o.dst n r).heap.length∧n+r.new.length≤(σ.dM o.dst n r).heap.length:=by
   simp only[St.dM];refine⟨by omega,?_⟩;rcases Ga.2 with h|h
   ·have ao:=Ga.1;rw[h]at FR ao⊢;simp only[eI];omega
   ·omega
  obtain⟨k1,k2⟩:=US l _ (σ.dM o.dst n r) h2 N2.2;simp only[seqAp];refine⟨by omega,fun j x hx=>?_⟩
  cases j with
  |zero=>simp at hx;subst hx;simp only;omega
  |succ j=>exact k2 j x (by simpa using hx)
def UT(P:Program)(aQ:Array Oper)(σ:St)(K:St→Prop):Prop:=
 ∃dv,vC aQ.toList dv=true∧dv.all (fun r=>r.length == aQ.size)=true∧anyE P aQ.toList σ dv aQ.toList [] σ.heap.length fun eV=>(updE dv 0 eV∨F6 σ dv aQ.toList dv [] eV)∧K (seqAp eV σ)
theorem aeg{aQ:Array Oper}{B:Nat→Prop}{w0:World}{kp:List (V×Value)}{Q:Exit→Act→World→Prop}{K:St→Prop}(hm:P.follows .mixedOrders=true){id:Nat}(m6:∀σ a w,K σ→fS B w0 kp σ a w→Q .normal a w){σ:St}{a:Act}{w:World}
  (h:UT P aQ σ K) (hr:fS B w0 kp σ a w):(Code.region id aQ true).wp P Q a w:=by
 obtain⟨dv,h1,h2,ao⟩:=h;obtain⟨eV,ih,⟨hQ,UU⟩,B7,B8⟩:=UA _ _ _ _ _ ao;simp only[bx]at hQ UU B8;have fK:eV.length=aQ.size:=by
  have:=congrArg List.length ih;simpa using this
 have wc:∀(i:Nat) (row:List bR),dv[i]?=some row→row.length=aQ.size:=fun i row hi=>by
  have:=List.all_eq_true.1 h2 row (List.mem_of_getElem? hi);simpa using this
 have vF:Asc σ.heap.length eV:=UE B7 fun j x hx=>by
  rcases hQ with hQ|hQ
  ·obtain⟨_,_,_,h⟩:=NX hQ j x hx;exact h
  ·obtain⟨_,_,_,h⟩:=NW hQ j x hx;exact h
 have G:UH P aQ dv eV σ:=⟨h1,ih,vF,fun i x hx p hp k y hk hy hne=>by
  have UW:k<aQ.size:=by have:=(List.getElem?_eq_some_iff.1 hy).1;omega
  rcases hQ with hQ|hQ
  ·exfalso;obtain⟨row,k1,k2,_⟩:=NX hQ i x hx;rcases k2 with k2|k2
   ·rw[k2]at hp;cases hp
   ·have u':k<row.length:=by rw[wc i row k1];exact UW
    have:=k2 k ω u';apply hne;unfold o9;simp[k1,this]
  ·obtain⟨row,k1,k2,_⟩:=NW hQ i x hx;have u':k<row.length:=by rw[wc i row k1];exact UW
   have UX:row[k]?=some row[k]:=cD u';have aeh:row[k]≠.pre:=fun h=>hne (by unfold o9;simp[k1,UX,h])
   cases hu:x.2.2.upd with
   |nil=>rw[hu]at hp;cases hp
   |cons q u=>
    rw[hu]at hp k2;simp only[Js,bx]at k2;have aei:(eV.take i)[k]?=some y:=by rw[List.getElem?_take,if_pos hk];exact hy
    obtain⟨vE,cn,cG,d4⟩:=UC k2 k y _ aei UX aeh p.1 (by
     rcases List.mem_cons.1 hp with rfl|hp
     ·simp
     ·exact List.mem_cons_of_mem _ (List.mem_map.2 ⟨p,hp,rfl⟩))
    refine⟨vE,cn,?_,d4⟩;rw[bx,List.take_take,Nat.min_eq_left ω]at cG;exact cG,wc,B8⟩
 obtain⟨a4,φ,bj,b5⟩:=hr;refine wp_region_any hm (ad7 G (B:=B) (w0:=w0) (kp:=kp) (fun gz w' hA=>?_) aQ.size (Array.replicate aQ.size false) a {w with drawn:=w.drawn+1} ξ (fun i o aJ hs=>?_) ?_ ⟨a4,φ,?_,fun i hi=>.inl (b5 i hi)⟩)
 ·obtain⟨AB,dw,fz,aej⟩:=hA;rw[UR]at fz;have p_:=US eV _ σ vF (fE _);refine m6 (seqAp eV σ) gz w' UU ⟨AB,dw,fz,fun i hi=>?_⟩;rcases aej i hi with h|⟨j,x,hx,_,h⟩
  ·omega
  ·have:=p_.2 j x hx;omega
 ·exfalso;have hlt:i<aQ.size:=(Array.getElem?_eq_some_iff.1 aJ).1;simp[hlt]at hs
 ·refine Nat.le_trans (List.countP_le_length) ?_;simp
 ·have gg:∀(l:List d1) (k:Nat) (hG:St),apS (fun i=>(Array.replicate aQ.size false).getD i false) k l hG=hG:=by
   intro l
   induction l with
   |nil=>intro k hG;rfl
   |cons y l df=>
    intro k hG;obtain⟨o,n,r⟩:=y;rw[apS,df];have:(Array.replicate aQ.size false).getD k false=false:=by
     by_cases hk:k<aQ.size<;>simp[hk]
    simp only[this];rfl
  rw[gg];exact UY bj rfl bj.g0.drew
def rdyE(S:List Bool):List Oper→List Bool→List Bool→List (Oper×List Bool)
 |o::os,pre,false::post=>if o.after.toList.all (fun e=>!Region.binds .any e||S.getD e.on false)=true then(o,pre++true::post)::rdyE S os (pre++[false]) post else rdyE S os (pre++[false]) post
 |_::os,pre,true::post=>rdyE S os (pre++[true]) post
 |_,_,_=>[]
def wq(l:List (Oper×List Bool))(F:Oper→List Bool→Prop):Prop:=
 match l with
 |[]=>True
 |x::r=>F x.1 x.2∧wq r F
def exE(P:Program)(kv:List V)(aQ:List Oper):Nat→List Bool→St→(St→Prop)→Prop
 |0,S,σ,K=>rdyE S aQ [] S=[]∧K σ
 |n+1,S,σ,K=>(rdyE S aQ [] S=[]→K σ)∧wq (rdyE S aQ [] S) fun o m5=>wt P kv aQ σ o fun σ'=>exE P kv aQ n m5 σ' K
theorem Jx{S:List Bool}:∀(os:List Oper) (pre post:List Bool) (i:Nat) (o:Oper),os[i]?=some o→post[i]?=some false→(∀e∈o.after,Region.binds .any e=true→S.getD e.on false=true)→(o,pre++post.set i true)∈rdyE S os pre post
 |[],_,_,i,o,h,_,_=>by simp at h
 |x::os,pre,[],i,o,_,h,_=>by simp at h
 |x::os,pre,p::post,0,o,h1,h2,ao=>by
  simp at h1 h2;subst h1;subst h2;rw[rdyE];have hc:(x.after.toList.all fun e=>!Region.binds .any e||S.getD e.on false)=true:=by
   rw[List.all_eq_true];intro e he
   cases hb:Region.binds .any e with
   |false=>rfl
   |true=>simpa using ao e (by simpa using he) hb
  rw[if_pos hc];simp
 |x::os,pre,p::post,i+1,o,h1,h2,ao=>by
  have:=Jx os (pre++[p]) post i o (by simpa using h1) (by simpa using h2) ao;rw[List.append_assoc,List.singleton_append]at this;rw[List.set_cons_succ]
  cases p with
  |true=>rw[rdyE];exact this
  |false=>
   rw[rdyE];split
   ·exact List.mem_cons_of_mem _ this
   ·exact this
theorem Jy{S:List Bool}:∀(os:List Oper) (pre post:List Bool) (x:Oper×List Bool),x∈rdyE S os pre post→∃(i:Nat),os[i]?=some x.1∧post[i]?=some false∧x.2=pre++post.set i true∧∀e∈x.1.after,Region.binds .any e=true→S.getD e.on false=true
 |[],_,_,x,h=>by simp[rdyE]at h
 |o::os,pre,[],x,h=>by simp[rdyE]at h
 |o::os,pre,p::post,x,h=>by
  have step:∀x,x∈rdyE S os (pre++[p]) post→∃(i:Nat),(o::os)[i]?=some x.1∧(p::post)[i]?=some false∧x.2=pre++(p::post).set i true∧∀e∈x.1.after,Region.binds .any e=true→S.getD e.on false=true:=by
   intro x hx;obtain⟨i,h1,h2,ao,aN⟩:=Jy os (pre++[p]) post x hx;exact⟨i+1,by simpa using h1,by simpa using h2,by rw[ao];simp,aN⟩
  cases p with
  |true=>rw[rdyE]at h;exact step x h
  |false=>
   rw[rdyE]at h;split at h
   ·rename_i hc;rcases List.mem_cons.1 h with rfl|h
    ·refine⟨0,rfl,rfl,by simp,fun e he hb=>?_⟩;have:=List.all_eq_true.1 hc e (by simpa using he);rw[hb]at this;simpa using this
    ·exact step x h
   ·exact step x h
theorem UZ{F:Oper→List Bool→Prop}:∀{l:List (Oper×List Bool)},wq l F→∀x∈l,F x.1 x.2
 |[],_,x,hx=>by cases hx
 |y::l,h,x,hx=>by
  rcases List.mem_cons.1 hx with rfl|hx
  ·exact h.1
  ·exact UZ h.2 x hx
theorem aek{aQ:Array Oper}{B:Nat→Prop}{w0:World}{kp:List (V×Value)}{kv:List V}(bJ:kp.map (·.1)=kv){Q:Exit→Act→World→Prop}{K:St→Prop}(m6:∀σ a w,K σ→fS B w0 kp σ a w→Q .normal a w) :
  ∀(n:Nat) (et:Array Bool) (σ:St) (a:Act) (w:World),et.size=aQ.size→exE P kv aQ.toList n et.toList σ K→fS B w0 kp σ a w→wpAny P .any aQ Q n et a w:=by
 have N3:∀(et:Array Bool),et.size=aQ.size→Region.ready .any aQ et=[]→rdyE et.toList aQ.toList [] et.toList=[]:=by
  intro et hs hr;apply List.eq_nil_iff_forall_not_mem.2;intro x hx;obtain⟨i,h1,h2,_,aN⟩:=Jy _ _ _ x hx;have:i∈Region.ready .any aQ et:=by
   rw[mem_ready];refine⟨?_,x.1,by simpa using h1,fun e he hb=>?_⟩
   ·rw[Array.getElem?_toList]at h2;simp[Array.getD_eq_getD_getElem?,h2]
   ·have:=aN e he hb;rw[j3,Array.getElem?_toList]at this;simpa [Array.getD_eq_getD_getElem?]using this
  rw[hr]at this;cases this
 intro n
 induction n with
 |zero=>
  intro et σ a w hs h hr;simp only[exE]at h;refine⟨?_,m6 σ a w h.2 hr⟩;apply List.eq_nil_iff_forall_not_mem.2;intro i hi;obtain⟨h1,o,aJ,DL⟩:=mem_ready.1 hi;have hlt:i<et.size:=by have:=(Array.getElem?_eq_some_iff.1 aJ).1;omega
  have hm:=Jx (S:=et.toList) aQ.toList [] et.toList i o (by simpa using aJ) (by
   rw[Array.getElem?_toList];simpa [Array.getD_eq_getD_getElem?,hlt]using h1) (fun e he hb=>by
   have:=DL e he hb;rw[j3,Array.getElem?_toList];simpa [Array.getD_eq_getD_getElem?]using this)
  rw[h.1]at hm;cases hm
 |succ n df=>
  intro et σ a w hs h hr;simp only[exE]at h;refine⟨fun he=>m6 σ a w (h.1 (N3 et hs he)) hr,fun i hi=>?_⟩;obtain⟨h1,o,aJ,DL⟩:=mem_ready.1 hi;have hlt:i<et.size:=by have:=(Array.getElem?_eq_some_iff.1 aJ).1;omega
  have hm:=Jx (S:=et.toList) aQ.toList [] et.toList i o (by simpa using aJ) (by
   rw[Array.getElem?_toList];simpa [Array.getD_eq_getD_getElem?,hlt]using h1) (fun e he hb=>by
   have:=DL e he hb;rw[j3,Array.getElem?_toList];simpa [Array.getD_eq_getD_getElem?]using this)
  have hx:=UZ h.2 _ hm;simp only[bx]at hx;have:=ael (Q:=Q) (N:=wpAny P .any aQ Q n (et.setIfInBounds i true)) bJ hx hr fun σ' u w' hk kj=>by
   refine df (et.setIfInBounds i true) σ' _ w' (by simpa using hs) ?_ kj;simpa using hk
  unfold wpOp;simp only[aJ];exact this
def DE(P:Program)(kv:List V)(aQ:Array Oper)(σ:St)(K:St→Prop):Prop:=
 UT P aQ σ K∨∃iC,(∀σ',iC σ'→K σ')∧exE P kv aQ.toList aQ.size (List.replicate aQ.size false) σ iC
theorem aem{aQ:Array Oper}{B:Nat→Prop}{w0:World}{kp:List (V×Value)}{kv:List V}(bJ:kp.map (·.1)=kv){Q:Exit→Act→World→Prop}{K:St→Prop}(hm:P.follows .mixedOrders=true){id:Nat}(m6:∀σ a w,K σ→fS B w0 kp σ a w→Q .normal a w){σ:St}{a:Act}{w:World}
  (h:DE P kv aQ σ K) (hr:fS B w0 kp σ a w):(Code.region id aQ true).wp P Q a w:=by
 rcases h with h|⟨iC,xI,h⟩
 ·exact aeg hm m6 h hr
 ·refine wp_region_any hm (aek bJ (fun σ a w N4=>m6 σ a w (xI σ N4)) aQ.size (Array.replicate aQ.size false) σ a _ ξ (by simpa using h) ?_);obtain⟨a4,φ,bj,b5⟩:=hr;exact⟨a4,φ,UY bj rfl bj.g0.drew,b5⟩
variable {P:Program}
def Cg(t:Bool)(pQ B:Prop):Prop:=(t=true→pQ)∧(t=false→B)
def outE:List (Nat×(St→Prop))→Nat→St→Prop
 |[],_,_=>False
 |(i,K)::aX,id,σ=>if id=i then K σ else outE aX id σ
mutual
def ren(ρ:List Nat):V→V
 |.al=>.al
 |.d x=>.d x
 |.ee s=>.ee s
 |.agg vs=>.agg (rens ρ vs)
 |.ptr id cx off=>.ptr (ρ.getD id 0) cx off
 |.gj cells off=>.gj cells off
 |.sl id off len=>.sl (ρ.getD id 0) off len
 |.fn f fX=>.fn f (rens ρ fX)
 |.eh vs=>.eh (rens ρ vs)
 |.bU c v=>.bU c (ren ρ v)
def rens(ρ:List Nat):List V→List V
 |[]=>[]
 |v::vs=>ren ρ v::rens ρ vs
end
def vsee(ρ:List Nat)(gS v:V):Prop:=match gS with|.al=>True|gS=>ren ρ gS=v
def vsees(ρ:List Nat):List V→List V→Prop
 |[],[]=>True
 |gS::vs',v::vs=>vsee ρ gS v∧vsees ρ vs' vs
 |_,_=>False
def hsee(ρ:List Nat)(mg x:H):Prop:=
 match mg,x with
 |.eb,_=>True
 |.box D8,.box cs=>vsees ρ D8 cs
 |.ah xV nN af2,.ah s xs kD=>xV=s∧nN=xs∧af2=kD
 |.jK xV nN,.jK s xs=>xV=s∧nN=xs
 |.aj xV nN,.aj s xs=>xV=s∧nN=xs
 |_,_=>False
def hsees(ρ:List Nat)(hs:List H):List Nat→List H→Prop
 |[],[]=>True
 |i::gl,mg::nN=>hsee ρ mg (a5 hs i)∧hsees ρ hs gl nN
 |_,_=>False
structure af3(ρ:List Nat)(σ σ':St):Prop where
 qo:ρ.Nodup
 iA:vsees ρ σ'.tmps σ.tmps
 hp:hsees ρ σ.heap ρ σ'.heap
theorem Ww{ρ:List Nat}{hs:List H}:∀{gl:List Nat} {nN:List H},hsees ρ hs gl nN→nN.length=gl.length∧∀i,i<gl.length→hsee ρ (a5 nN i) (a5 hs (gl.getD i 0))
 |[],[],_=>⟨rfl,by simp⟩
 |[],_::_,h=>by simp[hsees]at h
 |_::_,[],h=>by simp[hsees]at h
 |i::gl,mg::nN,h=>by
  simp only[hsees]at h;obtain⟨h1,h2⟩:=h;obtain⟨k1,k2⟩:=Ww h2;refine⟨by simp[k1],fun j aK=>?_⟩
  cases j with
  |zero=>simpa [a5]using h1
  |succ j=>simpa [a5]using k2 j (by simpa using aK)
section
variable {φ:c1} {T hS:Nat→Prop} {h:Array Obj} {ρ:List Nat}
def qv(φ:c1)(ρ:List Nat):c1:=fun i=>if i<ρ.length then φ (ρ.getD i 0)else none
mutual
def vok(m:Nat):V→Prop
 |.ptr id _ _=>id<m
 |.sl id _ _=>id<m
 |.agg vs=>bk m vs
 |.fn _ vs=>bk m vs
 |.eh vs=>bk m vs
 |.bU _ v=>vok m v
 |_=>True
def bk(m:Nat):List V→Prop
 |[]=>True
 |v::vs=>vok m v∧bk m vs
end
mutual
theorem Kh(cM:∀b,T b→hS b):∀(v:V) (u:Value),vok ρ.length v→VRel φ T h (ren ρ v) u→VRel (qv φ ρ) hS h v u
 |.al,_,_,_=>by simp[VRel]
 |.d x,u,_,r=>by
  simp only[ren,VRel]at r⊢;obtain⟨F,aY,bn⟩:=r;exact⟨F,aY,fun b hb=>cM b (bn b hb)⟩
 |.ee _,_,_,r=>by simpa [ren,VRel]using r
 |.agg vs,u,k,r=>by
  simp only[ren,VRel,vok]at r k⊢;obtain⟨us,aY,bn⟩:=r;exact⟨us,aY,Ki cM vs us.toList k bn⟩
 |.ptr id cx off,u,k,r=>by
  simp only[ren,VRel,vok]at r k⊢;obtain⟨β,b,aY,bn,dg⟩:=r;exact⟨β,b,by simp only[qv,if_pos k];exact aY,bn,dg⟩
 |.gj cells off,u,_,r=>by
  simp only[ren,VRel]at r⊢;obtain⟨b,f,G,aY,bn,dg,dz,gb⟩:=r;exact⟨b,f,G,aY,bn,cM b dg,dz,fun g hg=>cM g (gb g hg)⟩
 |.sl id off len,u,k,r=>by
  simp only[ren,VRel,vok]at r k⊢;obtain⟨β,a,c,aY,bn⟩:=r;exact⟨β,a,c,by simp only[qv,if_pos k];exact aY,bn⟩
 |.fn f fX,u,k,r=>by
  simp only[ren,VRel,vok]at r k⊢;obtain⟨us,aY,bn⟩:=r;exact⟨us,aY,Ki cM fX us.toList k bn⟩
 |.eh vs,u,k,r=>by
  simp only[ren,VRel,vok]at r k⊢;obtain⟨us,aY,bn⟩:=r;exact⟨us,aY,Ki cM vs us.toList k bn⟩
 |.bU c v,u,k,r=>by
  simp only[ren,VRel,vok]at r k⊢;exact⟨fun e=>Kh cM v u k (r.1 e),r.2⟩
theorem Ki(cM:∀b,T b→hS b):∀(vs:List V) (us:List Value),bk ρ.length vs→VRels φ T h (rens ρ vs) us→VRels (qv φ ρ) hS h vs us
 |[],us,_,r=>by simpa [rens,VRels]using r
 |v::vs,us,k,r=>by
  simp only[rens,VRels,bk]at r k⊢;obtain⟨u,cT,aY,bn,dg⟩:=r;exact⟨u,cT,aY,Kh cM v u k.1 bn,Ki cM vs cT k.2 dg⟩
end
theorem Wx(cM:∀b,T b→hS b){gS v:V}{u:Value}(hs:vsee ρ gS v)(k:vok ρ.length gS)(r:VRel φ T h v u):VRel (qv φ ρ) hS h gS u:=by
 unfold vsee at hs;split at hs
 ·simp[VRel]
 ·subst hs;exact Kh cM _ u k r
theorem O5(cM:∀b,T b→hS b):∀{vs' vs:List V} {us:List Value},vsees ρ vs' vs→bk ρ.length vs'→VRels φ T h vs us→VRels (qv φ ρ) hS h vs' us
 |[],[],us,_,_,r=>by simpa [VRels]using r
 |[],_::_,_,hs,_,_=>by simp[vsees]at hs
 |_::_,[],_,hs,_,_=>by simp[vsees]at hs
 |gS::vs',v::vs,us,hs,k,r=>by
  simp only[vsees,bk,VRels]at hs k r⊢;obtain⟨u,cT,rfl,aY,bn⟩:=r;exact⟨u,cT,rfl,Wx cM hs.1 k.1 aY,O5 cM hs.2 k.2 bn⟩
end
def hok(m:Nat):H→Prop
 |.box cs=>bk m cs
 |_=>True
theorem O6{ρ:List Nat}{mg x:H}(h:hsee ρ mg x):(mg.o'=true→x.o'=true)∧(mg.own=true→x.own=true)∧(mg.Cb=true→x.Cb=true):=by
 unfold hsee at h;split at h
 ·exact⟨fun e=>(by cases e),fun e=>(by cases e),fun e=>(by cases e)⟩
 ·exact⟨fun _=>rfl,fun e=>(by cases e),fun e=>(by cases e)⟩
 ·obtain⟨rfl,rfl,rfl⟩:=h;exact⟨id,id,id⟩
 ·exact⟨fun e=>(by cases e),fun e=>(by cases e),fun e=>(by cases e)⟩
 ·exact⟨fun _=>rfl,fun _=>rfl,fun _=>rfl⟩
 ·exact h.elim
theorem af4{B:Nat→Prop}{w0:World}{σ σ':St}{a:Act}{w:World}{ρ:List Nat}(hs:af3 ρ σ σ')(h1:bk σ'.heap.length σ'.tmps)(h2:∀x∈σ'.heap,hok σ'.heap.length x){kp:List (V×Value)}(GY:∀p∈kp,vsee ρ p.1 p.1∧vok σ'.heap.length p.1)(r:fS B w0 kp σ a w):fS B w0 kp σ' a w:=by
 obtain⟨a4,φ,r,_⟩:=r;obtain⟨hl,Kj⟩:=Ww hs.hp;rw[hl]at h1 h2 GY;have e6:∀i,(a5 σ'.heap i).o'=true→i<ρ.length:=by
  intro i hi;rcases Nat.lt_or_ge i σ'.heap.length with h|h
  ·omega
  ·rw[zc h]at hi;cases hi
 have Ec:∀i β b,l8 (a5 σ'.heap i) β b→i<ρ.length∧l8 (a5 σ.heap (ρ.getD i 0)) β b:=by
  intro i β b ht;have hlt:i<ρ.length:=by
   rcases ht with ⟨h,_⟩|⟨h,_⟩
   ·exact e6 i h
   ·exact e6 i (H.OL (H.J3 h))
  obtain⟨eH,fU,f3⟩:=O6 (Kj i hlt);exact⟨hlt,ht.imp (fun h=>⟨eH h.1,h.2⟩) (fun h=>⟨f3 h.1,h.2⟩)⟩
 have cM:∀b,c9 φ σ.heap b→c9 (qv φ ρ) σ'.heap b:=by
  intro b ht i β e hi;obtain⟨hlt,q4⟩:=Ec i β b hi;simp only[qv,if_pos hlt]at e;exact ht _ β e q4
 have af5:∀i,i<ρ.length→∀x,a5 σ'.heap i=x→hok ρ.length x:=by
  intro i hi x hx;have hlt:i<σ'.heap.length:=by omega
  have:x∈σ'.heap:=by
   rw[←hx];unfold a5;rw[j3,cD hlt];simp
  exact h2 x this
 have af6:∀i j,i<ρ.length→j<ρ.length→ρ.getD i 0=ρ.getD j 0→i=j:=by
  intro i j hi aK e;rw[j3,j3,cD hi,cD aK]at e;have e:ρ[i]=ρ[j]:=by simpa using e
  have hp:=List.pairwise_iff_getElem.1 hs.qo;rcases Nat.lt_trichotomy i j with h|h|h
  ·exact absurd e (hp i j hi aK h)
  ·exact h
  ·exact absurd e.symm (hp j i aK hi h)
 have kn:∀i b,dS (qv φ ρ) σ'.heap i b→i<ρ.length∧dS φ σ.heap (ρ.getD i 0) b:=by
  rintro i b ⟨β,e,h⟩;have hlt:i<ρ.length:=by
   rcases h with ⟨h,_⟩|⟨h,_⟩
   ·exact e6 i h
   ·exact e6 i (H.OL h)
  obtain⟨eH,fU,f3⟩:=O6 (Kj i hlt);simp only[qv,if_pos hlt]at e;exact⟨hlt,β,e,h.imp (fun h=>⟨eH h.1,h.2⟩) (fun h=>⟨fU h.1,h.2⟩)⟩
 refine⟨fun i=>i<ρ.length,qv φ ρ,⟨O5 cM hs.iA h1 r.iA,fun p hp=>(by
  have ao:=r.kp p hp;rcases fi.1 hp with hp|hp
  ·obtain⟨q,_,rfl⟩:=List.mem_map.1 hp;exact Kh (ρ:=ρ) cM (.gj q.2 0) _ trivial ao
  ·exact Wx cM (GY p hp).1 (GY p hp).2 ao),fun i=>?_,fun i j b hi aK=>?_,fun i β e hx=>?_,fun i b aJ=>?_,fun i β e=>?_,r.g0,r.bs,r.oz,r.l4⟩,fun i hi=>by rw[hl];exact hi⟩
 ·by_cases hlt:i<ρ.length
  ·have re:=Kj i hlt;have Wy:=af5 i hlt _ rfl;rcases r.hp (ρ.getD i 0)with hd|⟨β,e,hr⟩
   ·left;rw[hd]at re;unfold hsee at re;split at re
    ·rename_i ag;exact ag
    ·rename_i ar;cases ar
    ·rename_i ar;cases ar
    ·rename_i ar;cases ar
    ·rename_i ar;cases ar
    ·exact re.elim
   ·by_cases O7:a5 σ'.heap i=.eb
    ·exact .inl O7
    ·refine .inr ⟨β,by simp only[qv,if_pos hlt];exact e,?_⟩;generalize a5 σ'.heap i=mg at re Wy O7;generalize a5 σ.heap (ρ.getD i 0)=x at re hr;unfold hsee at re;split at re
     ·exact absurd rfl O7
     ·simp only[fk]at hr⊢;obtain⟨b,cs,t,aY,bn,dg,dz⟩:=hr;exact⟨b,cs,t,aY,bn,dg,O5 cM re Wy dz⟩
     ·obtain⟨rfl,rfl,rfl⟩:=re;simp only[fk]at hr⊢;obtain⟨b6,hr⟩:=hr;refine⟨b6,hr.imp id fun⟨b,G,aY,bn,dg,dz,gb,jB⟩=>⟨b,G,aY,bn,dg,dz,gb,fun e g hg=>cM g (jB e g hg)⟩⟩
     ·obtain⟨rfl,rfl⟩:=re;simp only[fk]at hr⊢;obtain⟨b6,hr⟩:=hr;refine⟨b6,hr.imp id fun⟨b,G,aY,bn,dg,dz,gb⟩=>⟨b,G,aY,cM b bn,dg,dz,fun g hg=>cM g (gb g hg)⟩⟩
     ·obtain⟨rfl,rfl⟩:=re;simpa only[fk]using hr
     ·exact re.elim
  ·left;exact zc ω
 ·obtain⟨ao,aN⟩:=kn i b hi;obtain⟨b6,dP⟩:=kn j b aK;exact af6 i j ao b6 (r.dZ _ _ b aN dP)
 ·have hlt:=e6 i (H.OL hx);simp only[qv,if_pos hlt]at e;exact r.gu _ β e ((O6 (Kj i hlt)).2.1 hx)
 ·exact r.gZ _ b (kn i b aJ).2
 ·by_cases hlt:i<ρ.length
  ·exact hlt
  ·simp only[qv,if_neg hlt]at e;cases e
def lV(m:Nat):List H→Prop
 |[]=>True
 |x::xs=>hok m x∧lV m xs
theorem Wz{m:Nat}:∀{xs:List H},lV m xs→∀x∈xs,hok m x
 |[],_,x,hx=>by cases hx
 |y::ys,h,x,hx=>by
  rcases List.mem_cons.1 hx with rfl|hx
  ·exact h.1
  ·exact Wz h.2 x hx
def qT(ρ:List Nat)(m:Nat):List V→Prop
 |[]=>True
 |v::vs=>(vsee ρ v v∧vok m v)∧qT ρ m vs
theorem WA{ρ:List Nat}{m:Nat}:∀{kv:List V},qT ρ m kv→∀v∈kv,vsee ρ v v∧vok m v
 |[],_,x,hx=>by cases hx
 |y::ys,h,x,hx=>by
  rcases List.mem_cons.1 hx with rfl|hx
  ·exact h.1
  ·exact WA h.2 x hx
def lC(kv:List V)(ρ:List Nat)(σ σ':St):Prop:=
 ρ.Nodup∧vsees ρ σ'.tmps σ.tmps∧hsees ρ σ.heap ρ σ'.heap∧bk σ'.heap.length σ'.tmps∧lV σ'.heap.length σ'.heap∧qT ρ σ'.heap.length kv
theorem Fm{B:Nat→Prop}{w0:World}{kv:List V}{kp:List (V×Value)}{σ σ':St}{a:Act}{w:World}{ρ:List Nat}(bJ:kp.map (·.1)=kv)(h:lC kv ρ σ σ')(r:fS B w0 kp σ a w):fS B w0 kp σ' a w:=by
 obtain⟨h1,h2,ao,aN,b6,dP⟩:=h;exact af4 ⟨h1,h2,ao⟩ aN (Wz b6) (fun p hp=>WA dP p.1 (by rw[←bJ];exact List.mem_map.2 ⟨p,hp,rfl⟩)) r
def cr(kv:List V)(body:St→(St→Prop)→Prop)(σ:St):Prop:=
 ∃(α:Type) (hU:α→St) (ln:α→Nat) (iD:α→Prop) (x:α) (ρ:List Nat),iD x∧lC kv ρ σ (hU x)∧∀x,iD x→∃na,ra (hU x) na∧body na fun σ'=>∃oL,ra σ' oL∧∃y xW,iD y∧ln y<ln x∧lC kv xW oL (hU y)
def codeE(P:Program)(kv:List V):Code→St→(St→Prop)→List (Nat×(St→Prop))→(St→Prop)→Prop
 |.skip,σ,K,_,_=>K σ
 |.region _ aQ false,σ,K,_,_=>opsE P kv aQ.toList aQ.toList σ K
 |.region _ aQ true,σ,K,_,_=>DE P kv aQ σ K
 |.seq a b,σ,K,aX,dh=>codeE P kv a σ (fun σ'=>codeE P kv b σ' K aX dh) aX dh
 |.cond c a b,σ,K,aX,dh=>evg true (σ.ev c) fun v=>asB v fun t=>Cg t (codeE P kv a σ K aX dh) (codeE P kv b σ K aX dh)
 |.block id c,σ,K,aX,dh=>codeE P kv c σ K ((id,K)::aX) dh
 |.exit id,σ,_,aX,_=>outE aX id σ
 |.ret,σ,_,_,dh=>dh σ
 |.loop c,σ,_,aX,dh=>cr kv (fun σ iC=>codeE P kv c σ iC aX dh) σ
 |_,_,_,_,_=>False
def WB(B:Nat→Prop)(w0:World)(kp:List (V×Value))(Q:Exit→Act→World→Prop)(aX:List (Nat×(St→Prop))):Prop:=
 ∀id σ a w,outE aX id σ→fS B w0 kp σ a w→Q (.exit id) a w
theorem af7(aQ:Array Oper):(List.range aQ.size).map (aQ[·]?)=aQ.toList.map some:=by
 apply List.ext_getElem?;intro i;simp only[List.getElem?_map,Array.getElem?_toList];by_cases h:i<aQ.size
 ·simp[h]
 ·simp[h]
theorem GZ{B:Nat→Prop}{w0:World}{kp:List (V×Value)}{kv:List V}(bJ:kp.map (·.1)=kv)(hm:P.follows .mixedOrders=true):∀(c:Code) (σ:St) (K:St→Prop) (aX:List (Nat×(St→Prop))) (dh:St→Prop) (Q:Exit→Act→World→Prop) (a:Act) (w:World),
  (∀σ a w,K σ→fS B w0 kp σ a w→Q .normal a w)→WB B w0 kp Q aX→(∀σ a w,dh σ→fS B w0 kp σ a w→Q .ret a w)→codeE P kv c σ K aX dh→fS B w0 kp σ a w→c.wp P Q a w:=by
 intro c
 induction c with
 |skip=>intro σ K aX dh Q a w cd _ _ h r;exact wp_skip (cd σ a w h r)
 |region id aQ af8=>
  intro σ K aX dh Q a w cd _ _ h r
  cases af8 with
  |false=>exact wp_region (VJ bJ cd _ _ σ a w (af7 aQ) h r)
  |true=>exact aem bJ hm cd h r
 |seq x y O8 O9=>
  intro σ K aX dh Q a w cd dF bj h r;refine wp_seq (O8 σ _ aX dh _ a w (fun σ' gz w' h' ei=>?_) (fun id σ' gz w' h' ei=>dF id σ' gz w' h' ei) (fun σ' gz w' h' ei=>bj σ' gz w' h' ei) h r);exact O9 σ' K aX dh Q gz w' cd dF bj h' ei
 |cond c x y O8 O9=>
  intro σ K aX dh Q a w cd dF bj h r;simp only[codeE]at h;obtain⟨v,h,hv⟩:=hT h;obtain⟨t,rfl,h⟩:=J8 h;obtain⟨a4,φ,r0,b5⟩:=r;have hc:=oA (hv _ _ _ _ rfl (Aj r0 c));refine wp_cond hc ?_
  cases t with
  |true=>exact O8 σ K aX dh Q a w cd dF bj (h.1 rfl) ⟨a4,φ,r0,b5⟩
  |false=>exact O9 σ K aX dh Q a w cd dF bj (h.2 rfl) ⟨a4,φ,r0,b5⟩
 |block id c df=>
  intro σ K aX dh Q a w cd dF bj h r;simp only[codeE]at h;refine wp_block (df σ K ((id,K)::aX) dh _ a w (fun σ' gz w' h' ei=>cd σ' gz w' h' ei) (fun wN σ' gz w' h' ei=>?_) (fun σ' gz w' h' ei=>bj σ' gz w' h' ei) h r);simp only[outE]at h';simp only[Exit.inBlock];by_cases hi:wN=id
  ·rw[if_pos hi];rw[if_pos hi]at h';exact cd σ' gz w' h' ei
  ·rw[if_neg hi];rw[if_neg hi]at h';exact dF wN σ' gz w' h' ei
 |exit id=>intro σ K aX dh Q a w _ dF _ h r;exact wp_exit (dF id σ a w h r)
 |ret=>intro σ K aX dh Q a w _ _ bj h r;exact wp_ret (bj σ a w h r)
 |loop c df=>
  intro σ K aX dh Q a w cd dF bj h r;simp only[codeE,cr]at h;obtain⟨α,hU,ln,iD,x,ρ,hp,hs,GC⟩:=h;refine wp_loop_ghost (fun n a w=>∃x,iD x∧ln x=n∧fS B w0 kp (hU x) a w) (ln x) ⟨x,hp,rfl,Fm bJ hs r⟩ ?_;rintro n a w ⟨x,hp,rfl,r⟩;obtain⟨na,Aa,af9⟩:=GC x hp;refine df na _ aX dh _ a w (fun σ' gz w' h' ei=>?_) (fun id σ' gz w' h' ei=>dF id σ' gz w' h' ei) (fun σ' gz w' h' ei=>bj σ' gz w' h' ei) af9 (JX Aa r);obtain⟨oL,aga,y,xW,h1,h2,ao⟩:=h';exact⟨ln y,h2,y,h1,rfl,Fm bJ ao (JX aga ei)⟩
 |_=>intro σ K aX dh Q a w _ _ _ h;exact h.elim
def AD.vM:AD→V
 |.one d=>.d d
 |.agg ds=>.agg (ds.map V.d)
def rvE(P:Program)(σ:St)(r:ResultVar)(K:V→Prop):Prop:=
 match r with
 |.tmp t=>K (σ.ev (.tmp t))
 |.cell a T=>evg true (σ.ev (.tmp a)) fun v=>withR (loadE P σ.heap T v) K
def rvsE(P:Program)(σ:St):List ResultVar→(List V→Prop)→Prop
 |[],K=>K []
 |r::rs,K=>rvE P σ r fun v=>rvsE P σ rs fun vs=>K (v::vs)
def outOA(r:Option (List AD×List Nat))(res:List AD):Prop:=match r with|some (as,cz)=>cz.Nodup∧as=res|none=>False
def g8(P:Program)(rs:List ResultVar)(res:List AD)(σ:St):Prop:=rvsE P σ rs fun vs=>outOA (toOAs σ.heap vs) res
section
variable {B:Nat→Prop} {w0:World} {a4:Nat→Prop} {φ:c1} {kp:List (V×Value)} {a:Act} {w:World} {σ:St}
def Kk(tmps:Array Value)(x:ResultVar):Sem Value:=
 match x with
 |.tmp t=>pure (tmps.getD t undef)
 |.cell b t=>do loadVar t (←asAddr (tmps.getD b undef))
theorem O_(fn:Func)(tmps:Array Value):results fn tmps=(do
  let vs ←fn.results.mapM (Kk tmps)
  pure (if h:vs.size=1 then vs[0]else .tuple vs)):=rfl
theorem agb(r:R B w0 a4 φ σ kp a w){x:ResultVar}{K:V→Prop}(h:rvE P σ x K):∃v u,K v∧VRel φ (c9 φ σ.heap) w.heap v u∧
  (Kk a.tmps x).run P w=.ok u w:=by
 unfold rvE at h;split at h
 ·rename_i t;exact⟨_,_,h,Aj r (.tmp t),rfl⟩
 ·rename_i b T;obtain⟨m8,h,hx⟩:=hT h;obtain⟨p,v,ai,hp,cd⟩:=Ck h;obtain⟨fx,f,u,hu,hl,hv⟩:=Wn (St.le.refl σ) r ai hp (hx _ _ _ _ rfl (Aj r (.tmp b)));refine⟨v,u,cd,hv,?_⟩;simp only[Act.eval]at hu;simp only[Kk,Sem.run_bind,hu,asAddr];simp[hl]
theorem Kl(r:R B w0 a4 φ σ kp a w):∀(xs:List ResultVar) (K:List V→Prop),rvsE P σ xs K→∃vs us,K vs∧VRels φ (c9 φ σ.heap) w.heap vs us∧
  (xs.mapM (Kk a.tmps)).run P w=.ok us w
 |[],K,h=>⟨[],[],h,by simp[VRels],by simp⟩
 |x::xs,K,h=>by
  simp only[rvsE]at h;obtain⟨v,u,h,hv,hu⟩:=agb r h;obtain⟨vs,us,h,G0,wX⟩:=Kl r xs _ h;refine⟨v::vs,u::us,h,by simp only[VRels];exact⟨u,us,rfl,hv,G0⟩,?_⟩;rw[List.mapM_cons];simp only[Sem.run_bind,hu,Result.andThen_ok,wX,Sem.run_pure]
theorem O'{fn:Func}(r:R B w0 a4 φ σ kp a w){res:List AD}(h:g8 P fn.results.toList res σ):∃v F,(results fn a.tmps).run P w=.ok v w∧trep w.heap true res v F∧F.Nodup∧∀b∈F,B b∧b<w.heap.size:=by
 obtain⟨vs,us,h,hv,hu⟩:=Kl r _ _ h;unfold outOA at h;split at h
 ·rename_i as cz aJ;obtain⟨hn,rfl⟩:=h;obtain⟨F,eH,fU,f3⟩:=Vo r vs as cz us aJ hn hv;refine⟨if h:us.length=1 then us[0]else .tuple us.toArray,F,?_,?_,fU,fun b hb=>?_⟩
  ·rw[O_,Array.mapM_eq_mapM_toList];simp only[Sem.run_bind,Sem.run_map,hu];simp only[Result.andThen,List.size_toArray,Sem.run_pure];split<;>simp_all
  ·have hl:us.length=as.length:=by
    clear hu hv aJ fU f3 h
    induction as generalizing us F with
    |nil=>simp only[areps]at eH;simp[eH.1]
    |cons d ds df=>
     simp only[areps]at eH;obtain⟨u,cT,jP,ik,rfl,rfl,aY,bn⟩:=eH;simp[df cT ik bn]
   unfold trep;split
   ·rename_i x;simp only[areps]at eH;obtain⟨u,cT,jP,ik,rfl,rfl,aY,bn,rfl⟩:=eH;subst bn;simpa using aY
   ·rename_i hne;refine⟨us.toArray,?_,eH⟩;rw[dif_neg];intro h1;rw[hl]at h1;obtain⟨x,hx⟩:=List.length_eq_one_iff.1 h1;exact hne x hx
  ·obtain⟨id,_,aJ⟩:=f3 b hb;exact⟨r.gZ id b aJ,dS.lt r aJ⟩
 ·exact h.elim
end
mutual
def dOk:D→Prop
 |.int k n=>k.min≤n∧n≤k.max
 |.bool _=>True
 |.str s=>s.length≤maxLen
 |.Ae _=>True
 |.sl _ xs=>xs.length≤maxLen∧eOk xs
def cOk:List D→Prop
 |[]=>True
 |d::ds=>dOk d∧cOk ds
def eOk:List (List D)→Prop
 |[]=>True
 |c::cs=>cOk c∧eOk cs
end
mutual
theorem Pa{h:Array Obj}{o:Bool}:∀(d:D) (u:Value) (F:List Nat),rep h o d u F→dOk d
 |.int k n,u,F,r=>by simp only[rep]at r;simp only[dOk];exact r.2.2
 |.bool b,u,F,r=>by simp only[dOk]
 |.str s,u,F,r=>by simp only[rep]at r;simp only[dOk];exact r.2.2
 |.Ae v,u,F,r=>by simp only[dOk]
 |.sl sz xs,u,F,r=>by
  simp only[rep]at r;obtain⟨a,c,h1,h2,ao,aN⟩:=r;simp only[dOk];refine⟨by omega,?_⟩;rcases aN with ⟨rfl,_⟩|⟨b,f,G,ag,ar,ba,bF,c6⟩
  ·simp[eOk]
  ·exact WC xs b f sz G bF
theorem WD{h:Array Obj}{o:Bool}:∀(ds:List D) (b f:Nat) (G:List Nat),repC h o b f ds G→cOk ds
 |[],_,_,_,_=>by simp[cOk]
 |d::ds,b,f,G,r=>by
  simp only[repC]at r;obtain⟨v,cy,cl,_,_,ba,bF⟩:=r;simp only[cOk];exact⟨Pa d v cy ba,WD ds b (f+1) cl bF⟩
theorem WC{h:Array Obj}{o:Bool}:∀(cs:List (List D)) (b f sz:Nat) (G:List Nat),repE h o b f sz cs G→eOk cs
 |[],_,_,_,_,_=>by simp[eOk]
 |c::cs,b,f,sz,G,r=>by
  simp only[repE]at r;obtain⟨cy,cl,_,_,ba,bF⟩:=r;simp only[eOk];exact⟨WD c b f cy ba,WC cs b (f+sz) sz cl bF⟩
end
def agc:AD→Prop
 |.one d=>dOk d
 |.agg ds=>cOk ds
def wG:List AD→Prop
 |[]=>True
 |a::as=>agc a∧wG as
theorem Km{h:Array Obj}{o:Bool}:∀(as:List AD) (us:List Value) (F:List Nat),areps h o as us F→wG as
 |[],_,_,_=>trivial
 |a::as,us,F,r=>by
  simp only[areps]at r;obtain⟨u,cT,jP,ik,rfl,rfl,aY,bn⟩:=r;refine⟨?_,Km as cT ik bn⟩
  cases a with
  |one d=>exact Pa d u jP aY
  |agg ds=>
   obtain⟨vs,_,aY⟩:=aY;have:∀(ds:List D) (us:List Value) (F:List Nat),reps h o ds us F→cOk ds:=by
    intro ds
    induction ds with
    |nil=>intro _ _ _;simp[cOk]
    |cons d ds df=>
     intro us F r;simp only[reps]at r;obtain⟨u,cT,jP,ik,rfl,rfl,aY,bn⟩:=r;simp only[cOk];exact⟨Pa d u jP aY,df cT ik bn⟩
   exact this ds _ _ aY
theorem NL:∀{ds:List D},cOk ds→∀d∈ds,dOk d
 |[],_,d,hd=>by cases hd
 |x::xs,h,d,hd=>by
  simp only[cOk]at h;rcases List.mem_cons.1 hd with rfl|hd
  ·exact h.1
  ·exact NL h.2 d hd
theorem Mm:∀{ds:List (List D)},eOk ds→∀d∈ds,cOk d
 |[],_,d,hd=>by cases hd
 |x::xs,h,d,hd=>by
  simp only[eOk]at h;rcases List.mem_cons.1 hd with rfl|hd
  ·exact h.1
  ·exact Mm h.2 d hd
theorem Pb{w:World}{args:List AD}{us:List Value}{F:List Nat}(hg:GOk w.heap)(h:areps w.heap false args us F)(m:Nat)(kp:List (V×Value))(GY:∀p∈kp,∀φ T,VRel φ T w.heap p.1 p.2) :
  fS (fun b=>w.heap.size≤b) w kp ⟨args.map AD.vM++List.replicate m .al,[]⟩ ⟨us.toArray++Array.replicate m undef,[]⟩ w:=by
 have Ci:∀b,c9 (fun _=>none) [] b:=fun b i β e=>by cases e
 refine⟨fun _=>False,fun _=>none,⟨?_,fun p hp=>(fi.1 hp).elim (afw hg (fun _ _=>Ci _) p) (fun hp=>GY p hp _ _),fun i=>.inl (zc ξ),fun i j b hi=>?_,fun i β e=>(by cases e),fun i b hi=>?_,fun i β e=>(by cases e),Bel.refl _ _,fun k hk=>hk,rfl,fun p hp hb=>by have:=(hg.1 p hp).1;omega,hg.2⟩,fun i hi=>hi.elim⟩
 ·have agd:∀(ds:List D) (us:List Value) (F:List Nat),reps w.heap false ds us F→VRels (fun _=>none) (c9 (fun _=>none) []) w.heap (ds.map V.d) us:=by
   intro ds
   induction ds with
   |nil=>intro us F r;simp only[reps]at r;simp[VRels,r.1]
   |cons d ds df=>
    intro us F r;simp only[reps]at r;obtain⟨u,cT,jP,ik,rfl,rfl,aY,bn⟩:=r;simp only[eT,VRels,VRel];exact⟨u,cT,rfl,⟨jP,aY,fun b _=>Ci b⟩,df cT ik bn⟩
  have hargs:∀(args:List AD) (us:List Value) (F:List Nat),areps w.heap false args us F→VRels (fun _=>none) (c9 (fun _=>none) []) w.heap (args.map AD.vM) us:=by
   intro args
   induction args with
   |nil=>intro us F r;simp only[areps]at r;simp[VRels,r.1]
   |cons d ds df=>
    intro us F r;simp only[areps]at r;obtain⟨u,cT,jP,ik,rfl,rfl,aY,bn⟩:=r;simp only[eT,VRels];refine⟨u,cT,rfl,?_,df cT ik bn⟩
    cases d with
    |one d=>simp only[AD.vM,VRel];exact⟨jP,aY,fun b _=>Ci b⟩
    |agg ds=>
     obtain⟨vs,rfl,aY⟩:=aY;simp only[AD.vM,VRel];exact⟨vs,rfl,agd ds _ _ aY⟩
  have:=D9 (hargs args us F h) (OM (φ:=fun _=>none) (T:=c9 (fun _=>none) []) (h:=w.heap) (v:=.al) (u:=undef) (by simp[VRel]) m);simpa using this
 ·obtain⟨β,e,_⟩:=hi;cases e
 ·obtain⟨β,e,_⟩:=hi;cases e
theorem age{f:FuncId}{fn:Func}{c:Code}{args res:List AD}(hf:P.funcs[f]?=some fn)(hb:fn.body=some c)(hcall:∀(args:Array Value) (w:World),(callFunc f args).run P w=.ok (.enter f args) w)(hm:P.follows .mixedOrders=true){m:Nat}(hn:fn.ntmps-args.length=m)
  {rs:List ResultVar} (hr:fn.results.toList=rs) (h0:wG args→codeE P [] c ⟨args.map AD.vM++List.replicate m .al,[]⟩ (g8 P rs res) [] (g8 P rs res)):PureCall P f args res:=by
 intro w us F hg ha;have h:=h0 (Km _ _ _ ha);clear h0;subst hr;have fK:us.length=args.length:=by
  clear h hn
  induction args generalizing us F with
  |nil=>simp only[areps]at ha;simp[ha.1]
  |cons d ds df=>
   simp only[areps]at ha;obtain⟨u,cT,jP,ik,rfl,rfl,aY,bn⟩:=ha;simp[df cT ik bn]
 have aW:∀(σ:St) (a:Act) (w':World),g8 P fn.results.toList res σ→fS (fun b=>w.heap.size≤b) w [] σ a w'→a.defers=[]∧∃v,(results fn a.tmps).run P w'=.ok v w'∧
   ∃F',Bel (fun b=>w.heap.size≤b) w w'∧trep w'.heap true res v F'∧F'.Nodup∧∀b∈F',w.heap.size≤b:=by
  rintro σ a w' zl ⟨a4,φ,r,_⟩;obtain⟨v,F',h1,h2,ao,aN⟩:=O' r zl;exact⟨r.oz,v,h1,F',r.g0,h2,ao,fun b hb=>(aN b hb).1⟩
 refine Does.enter (hcall _ _) (calls_of_wp hf hb ?_);refine GZ (B:=fun b=>w.heap.size≤b) (w0:=w) (kp:=[]) (kv:=[]) rfl hm c _ (g8 P fn.results.toList res) [] (g8 P fn.results.toList res) _ _ w (fun σ a w' h' ei=>?_) (fun id σ a w' h' _=>h'.elim) (fun σ a w' h' ei=>?_) h ?_
 ·exact aW σ a w' h' ei
 ·exact aW σ a w' h' ei
 ·have:=Pb hg ha m [] ξ;have hs:us.toArray.size=args.length:=by rw[List.size_toArray,fK]
  rw[hs,hn];exact this
theorem afh{f:FuncId}{fn:Func}{c:Code}{args res:List AD}(hf:P.funcs[f]?=some fn)(hb:fn.body=some c)(hcall:∀(args:Array Value) (w:World),(callFunc f args).run P w=.ok (.enter f args) w)(hm:P.follows .mixedOrders=true){ts:List V}
  (hn:args.map AD.vM++List.replicate (fn.ntmps-args.length) .al=ts) {rs:List ResultVar} (hr:fn.results.toList=rs) (h:wG args→codeE P [] c ⟨ts,[]⟩ (g8 P rs res) [] (g8 P rs res)):PureCall P f args res:=
 age hf hb hcall hm rfl hr (by rw[hn];exact h)
def VW(r:Option (List AD×List Nat))(res:List AD):Prop:=r=some (res,[])
theorem Pc{h:Array Obj}{o:Bool}:∀(args:List AD) (us:List Value) (F:List Nat) (n:Nat),areps h o args us F→us.length=args.length∧(aVs args n).length=args.length
 |[],us,F,n,r=>by simp only[areps]at r;simp[r.1,aVs]
 |d::ds,us,F,n,r=>by
  simp only[areps]at r;obtain⟨u,cT,jP,ik,rfl,rfl,aY,bn⟩:=r;obtain⟨h1,h2⟩:=Pc ds cT ik (n+(Gk d).length) bn;simp[aVs,h1,h2]
def tupV(vs:List V):V:=match vs with|[v]=>v|vs=>.eh vs
def wT(P:Program)(rs:List ResultVar)(K:V→List H→Prop)(σ:St):Prop:=rvsE P σ rs fun vs=>K (tupV vs) σ.heap
theorem WE{φ:c1}{T:Nat→Prop}{h:Array Obj}{vs:List V}{us:List Value}(r:VRels φ T h vs us):VRel φ T h (tupV vs) (if hl:us.length=1 then us[0]else .tuple us.toArray):=by
 have hl:=lk _ _ r;unfold tupV;split
 ·rename_i v;simp only[VRels]at r;obtain⟨u,cT,rfl,aY,bn⟩:=r;subst bn;simpa using aY
 ·rename_i hne;rw[dif_neg (fun e=>by
   rw[hl]at e;obtain⟨x,hx⟩:=List.length_eq_one_iff.1 e;exact hne x hx)]
  simp only[VRel];exact⟨_,rfl,r⟩
theorem afi{f:FuncId}{fn:Func}{c:Code}{kv:List V}{hs:List H}{vs:List V}{K:V→List H→Prop}(hf:P.funcs[f]?=some fn)(hb:fn.body=some c)(hcall:∀(args:Array Value) (w:World),(callFunc f args).run P w=.ok (.enter f args) w)(hm:P.follows .mixedOrders=true){ts:List V}
  (hn:vs++List.replicate (fn.ntmps-vs.length) .al=ts) {rs:List ResultVar} (hr:fn.results.toList=rs) (h:codeE P kv c ⟨ts,hs⟩ (wT P rs K) [] (wT P rs K)):d6 P f kv hs vs K:=by
 intro B w0 kp us w bJ bj;subst hr;subst hn;have fK:us.length=vs.length:=by
  obtain⟨a4,φ,r,_⟩:=bj;have:=lk _ _ r.iA;simpa using this
 have aW:∀(σ:St) (a:Act) (w':World),wT P fn.results.toList K σ→fS B w0 kp σ a w'→a.defers=[]∧∃v,(results fn a.tmps).run P w'=.ok v w'∧
   ∃x hs',K x hs'∧fS B w0 kp ⟨[x],hs'⟩ ⟨#[v],[]⟩ w':=by
  rintro σ a w' zl ⟨a4,φ,r,b5⟩;obtain⟨xs,i3,cn,hv,hu⟩:=Kl r _ _ zl;refine⟨r.oz,if h:i3.length=1 then i3[0]else .tuple i3.toArray,?_,_,_,cn,a4,φ,⟨?_,r.kp,r.hp,r.dZ,r.gu,r.gZ,r.h7,r.g0,r.bs,rfl,r.l4⟩,b5⟩
  ·rw[O_,Array.mapM_eq_mapM_toList];simp only[Sem.run_bind,Sem.run_map,hu];simp only[Result.andThen,List.size_toArray,Sem.run_pure];split<;>simp_all
  ·simp only[VRels];exact⟨_,_,rfl,WE hv,rfl⟩
 refine Does.enter (hcall _ _) (calls_of_wp hf hb ?_);refine GZ (B:=B) (w0:=w0) (kp:=kp) (kv:=kv) bJ hm c _ (wT P fn.results.toList K) [] (wT P fn.results.toList K) _ _ w (fun σ a w' h' ei=>?_) (fun id σ a w' h' _=>h'.elim) (fun σ a w' h' ei=>?_) h ?_
 ·exact aW σ a w' h' ei
 ·exact aW σ a w' h' ei
 ·obtain⟨a4,φ,r,b5⟩:=bj;have hs':us.toArray.size=vs.length:=by rw[List.size_toArray,fK]
  refine⟨a4,φ,⟨?_,r.kp,r.hp,r.dZ,r.gu,r.gZ,r.h7,r.g0,r.bs,rfl,r.l4⟩,b5⟩;have:=D9 r.iA (OM (φ:=φ) (T:=c9 φ hs) (h:=w.heap) (v:=.al) (u:=undef) (by simp[VRel]) (fn.ntmps-vs.length));rw[hs'];simpa using this
theorem d6.mono{f:FuncId}{kv:List V}{hs:List H}{vs:List V}{K iC:V→List H→Prop}(h:d6 P f kv hs vs K)(hk:∀x hs',K x hs'→iC x hs'):d6 P f kv hs vs iC:=by
 intro B w0 kp us w bJ bj;exact(h B w0 kp us w bJ bj).mono fun v w' ⟨x,hs',h1,h2⟩=>⟨x,hs',hk x hs' h1,h2⟩
variable {P:Program}
inductive wS{α:Type}(a:α):Type where
 |mk
theorem c7{a b:Prop}(h:a=b):a=b:=h
def b3{α:Type}(K:α→Prop)(_:wS K):α→Prop:=K
def AS(pQ:Prop)(_:wS pQ):Prop:=pQ
def m'{α β:Type}(K:α→β→Prop)(_:wS K):α→β→Prop:=K
@[go_sem] theorem apb{α:Type}(K:α→Prop)(s:wS K)(x:α):b3 K s x=K x:=c7 rfl
@[go_sem] theorem apc{α β:Type}(K:α→β→Prop)(s:wS K)(x:α)(y:β):m' K s x y=K x y:=c7 rfl
section
variable {g:Bool} {K:V→Prop}
@[go_sem] theorem apd(x:D):evg g (.d x) K=K (.d x):=c7 rfl
@[go_sem] theorem ape(s:Nat):evg g (.ee s) K=K (.ee s):=c7 rfl
@[go_sem] theorem apf(vs:List V):evg g (.agg vs) K=K (.agg vs):=c7 rfl
@[go_sem] theorem apg(a b c:Nat):evg g (.ptr a b c) K=K (.ptr a b c):=c7 rfl
@[go_sem] theorem aph(a:List D)(b:Nat):evg g (.gj a b) K=K (.gj a b):=c7 rfl
@[go_sem] theorem api(a b c:Nat):evg g (.sl a b c) K=K (.sl a b c):=c7 rfl
@[go_sem] theorem apj(a:FuncId)(b:List V):evg g (.fn a b) K=K (.fn a b):=c7 rfl
@[go_sem] theorem apk(a:List V):evg g (.eh a) K=K (.eh a):=c7 rfl
@[go_sem] theorem apl(c:Bool)(v:V):evg g (.bU c v) K=((g=true→c=true)∧K v):=c7 rfl
@[go_sem] theorem apm:evg g .al K=K .al:=c7 rfl
end
@[go_sem] theorem apn(b:Bool)(K:Bool→Prop):asB (.d (.bool b)) K=K b:=c7 rfl
@[go_sem] theorem apo(k:IntKind)(n:Int)(K:IntKind→Int→Prop):asI (.d (.int k n)) K=K k n:=c7 rfl
@[go_sem] theorem apq(p:Prop)(v:V)(K:V→Prop):withR (some (p,v)) K=(p∧K v):=c7 rfl
@[go_sem] theorem apr(v:V)(K:V→Prop):withO (some v) K=K v:=c7 rfl
@[go_sem] theorem aps(p:Prop)(r:fW)(K:fW→Prop):y' (some (p,r)) K=(p∧K r):=c7 rfl
@[go_sem] theorem apt(n:Nat)(K:Nat→Prop):Om (some n) K=K n:=c7 rfl
@[go_sem] theorem apu(pQ B:Prop)(s:wS pQ):Cg true (AS pQ s) B=pQ:=by simp[Cg,AS]
@[go_sem] theorem apv(pQ B:Prop)(s:wS B):Cg false pQ (AS B s)=B:=by simp[Cg,AS]
@[go_sem] theorem apw(n:Nat):List.replicate (n+1) V.al=V.al::List.replicate n V.al:=rfl
def nth:List V→Nat→V
 |[],_=>.al
 |v::_,0=>v
 |_::vs,n+1=>nth vs n
theorem VN:∀(vs:List V) (n:Nat),vs.getD n .al=nth vs n
 |[],n=>by simp[nth]
 |v::vs,0=>by simp[nth]
 |v::vs,n+1=>by simpa [nth]using VN vs n
@[go_sem] theorem apx(v:V)(vs:List V):nth (v::vs) 0=v:=rfl
@[go_sem] theorem apy(v:V)(vs:List V)(n:Nat):nth (v::vs) (n+1)=nth vs n:=rfl
@[go_sem] theorem apz(ts:List V)(hs:List H)(t:Nat):St.ev ⟨ts,hs⟩ (.tmp t)=nth ts t:=VN ts t
@[go_sem] theorem apA(σ:St)(v:Value):σ.ev (.const v)=ofVal v:=rfl
@[go_sem] theorem apB(σ:St)(f:FuncId):σ.ev (.func f)=.fn f []:=rfl
@[go_sem] theorem apC(n:Int):ofVal (.int .i64 n)=if -9223372036854775808≤n∧n≤9223372036854775807 then .d (.int .i64 n)else .al:=by
 have h1:IntKind.i64.min=-9223372036854775808:=by decide
 have h2:IntKind.i64.max=9223372036854775807:=by decide
 simp only[ofVal,J1,h1,h2,bW,b8]
@[go_sem] theorem apD(n:Int):ofVal (.int .u8 n)=if 0≤n∧n≤255 then .d (.int .u8 n)else .al:=by
 have h1:IntKind.u8.min=0:=by decide
 have h2:IntKind.u8.max=255:=by decide
 simp only[ofVal,J1,h1,h2,bW,b8]
theorem VO{n:Nat}(h:n≤1000000):n≤maxLen:=by simp only[maxLen];omega
@[go_sem] theorem apF(l:List UInt8)(h:l.length≤1000000):ofVal (.string ⟨l.toArray⟩)=.d (.str l):=by
 have:=VO h;simp[ofVal,this]
@[go_sem] theorem apG(b:Bool):ofVal (.bool b)=.d (.bool b):=rfl
@[go_sem] theorem apH:ofVal (.slice none 0 0)=.ee 0:=rfl
@[go_sem] theorem Ag(x:H)(hs:List H):a5 (x::hs) 0=x:=rfl
@[go_sem] theorem Ah(x:H)(hs:List H)(n:Nat):a5 (x::hs) (n+1)=a5 hs n:=by simp[a5]
@[go_sem] theorem apI(n:Nat):a5 [] n=.eb:=by simp[a5]
@[go_sem] theorem apJ(x:H):cO [] 0 x=[x]:=rfl
@[go_sem] theorem apK(n:Nat)(x:H):cO [] (n+1) x=.eb::cO [] n x:=by
 unfold cO;simp[List.replicate_succ]
@[go_sem] theorem apL(y:H)(ys:List H)(x:H):cO (y::ys) 0 x=x::ys:=by
 unfold cO;simp
@[go_sem] theorem apM(y:H)(ys:List H)(n:Nat)(x:H):cO (y::ys) (n+1) x=y::cO ys n x:=by
 unfold cO;by_cases h:n<ys.length
 ·simp[h]
 ·simp[h]
@[go_sem] theorem apN(hs:List H)(n:Nat):hnew hs n []=hs:=rfl
@[go_sem] theorem apO(hs:List H)(n:Nat)(x:H)(xs:List H):hnew hs n (x::xs)=hnew (cO hs n x) (n+1) xs:=rfl
@[go_sem] theorem apP(hs:List H):hupd hs []=hs:=rfl
@[go_sem] theorem apQ(hs:List H)(i:Nat)(x:H)(r:List (Nat×H)):hupd hs ((i,x)::r)=hupd (cO hs i x) r:=rfl
@[go_sem] theorem apR(ts:List V)(hs:List H)(d:Tmp)(n:Nat)(v:V):St.dM ⟨ts,hs⟩ (some d) n (dn v)=⟨ts.set d v,hs⟩:=rfl
@[go_sem] theorem apT(ts:List V)(hs:List H)(n:Nat)(v:V):St.dM ⟨ts,hs⟩ none n (dn v)=⟨ts,hs⟩:=rfl
@[go_sem] theorem apU(ts:List V)(hs:List H)(d:Tmp)(n:Nat)(v:V)(new:List H)(upd:List (Nat×H)):St.dM ⟨ts,hs⟩ (some d) n ⟨v,new,upd⟩=⟨ts.set d v,hupd (hnew hs n new) upd⟩:=rfl
@[go_sem] theorem apV(ts:List V)(hs:List H)(n:Nat)(v:V)(new:List H)(upd:List (Nat×H)):St.dM ⟨ts,hs⟩ none n ⟨v,new,upd⟩=⟨ts,hupd (hnew hs n new) upd⟩:=rfl
@[go_sem] theorem apW(v w:V)(vs:List V):(v::vs).set 0 w=w::vs:=rfl
@[go_sem] theorem apX(v w:V)(vs:List V)(n:Nat):(v::vs).set (n+1) w=v::vs.set n w:=rfl
section
variable {kv:List V} {σ:St} {K:St→Prop} {aX:List (Nat×(St→Prop))} {dh:St→Prop}
@[go_sem] theorem apY:codeE P kv .skip σ K aX dh=K σ:=c7 rfl
@[go_sem] theorem apZ(id:Nat)(aQ:List Oper):codeE P kv (.region id aQ.toArray false) σ K aX dh=opsE P kv aQ aQ σ K:=by simp[codeE]
@[go_sem] theorem ap0(id:Nat)(aQ:Array Oper):codeE P kv (.region id aQ true) σ K aX dh=DE P kv aQ σ K:=c7 rfl
@[go_sem] theorem aff(a b:Code):codeE P kv (.seq a b) σ K aX dh=codeE P kv a σ (b3 (fun σ'=>codeE P kv b σ' K aX dh) .mk) aX dh:=c7 rfl
@[go_sem] theorem ap1(c:Operand)(a b:Code):codeE P kv (.cond c a b) σ K aX dh=evg true (σ.ev c) (b3 (fun v=>asB v (b3 (fun t=>Cg t (AS (codeE P kv a σ K aX dh) .mk) (AS (codeE P kv b σ K aX dh) .mk)) .mk)) .mk):=c7 rfl
@[go_sem] theorem ap2(id:Nat)(c:Code):codeE P kv (.block id c) σ K aX dh=codeE P kv c σ K ((id,K)::aX) dh:=c7 rfl
@[go_sem] theorem ap3(id:Nat):codeE P kv (.exit id) σ K aX dh=outE aX id σ:=c7 rfl
@[go_sem] theorem ap4:codeE P kv .ret σ K aX dh=dh σ:=c7 rfl
@[go_sem] theorem ap5(c:Code):codeE P kv (.loop c) σ K aX dh=cr kv (m' (fun σ iC=>codeE P kv c σ iC aX dh) .mk) σ:=c7 rfl
@[go_sem] theorem ap6(id:Nat):outE [] id σ=False:=c7 rfl
@[go_sem] theorem ap7(i:Nat)(id:Nat):outE ((i,K)::aX) id σ=if id=i then K σ else outE aX id σ:=c7 rfl
end
section
variable {σ:St} {aQ:List Oper} {n:Nat} {K:fW→Prop}
@[go_sem] theorem ap8(kv:List V)(K:St→Prop):opsE P kv aQ [] σ K=K σ:=c7 rfl
@[go_sem] theorem ap9(kv:List V)(o:Oper)(bG:List Oper)(K:St→Prop):opsE P kv aQ (o::bG) σ K=wt P kv aQ σ o (b3 (fun σ'=>opsE P kv aQ bG σ' K) .mk):=c7 rfl
@[go_sem] theorem aqa(dst:Option Tmp)(op:Op)(T:TypeId)(d2:String)(after:Array Edge)(K:fW→Prop):stepE P aQ σ n ⟨dst,op,T,d2,after,none⟩ K=opE P true σ n ⟨dst,op,T,d2,after,none⟩ K:=c7 rfl
end
@[go_sem] theorem aqb(b ll:Bool)(K:Bool→Prop):AM (.d (.bool b)) ll K=K (b == ll):=c7 rfl
@[go_sem] theorem aqc(c b ll:Bool)(K:Bool→Prop):AM (.bU c (.d (.bool b))) ll K=K (c&&(b == ll)):=c7 rfl
@[go_sem] theorem aqd(d:Tmp)(op:Op)(T:TypeId)(d2:String)(after:Array Edge)(g:Option (Nat×Bool))(aQ:List Oper)(K:Tmp→Prop):xQ (⟨some d,op,T,d2,after,g⟩::aQ) 0 K=K d:=c7 rfl
@[go_sem] theorem aqe(o:Oper)(aQ:List Oper)(j:Nat)(K:Tmp→Prop):xQ (o::aQ) (j+1) K=xQ aQ j K:=by simp[xQ]
@[go_sem] theorem aqf{σ:St}{aQ:List Oper}{n:Nat}(dst:Option Tmp)(op:Op)(T:TypeId)(d2:String)(after:Array Edge)(j:Nat)(ll:Bool)(K:fW→Prop) :
  stepE P aQ σ n ⟨dst,op,T,d2,after,some (j,ll)⟩ K=xQ aQ j (b3 (fun d=>AM (σ.ev (.tmp d)) ll (b3 (fun g=>vJ P g σ n ⟨dst,op,T,d2,after,some (j,ll)⟩ K) .mk)) .mk):=by
 unfold stepE xQ b3;simp only
 cases h:(aQ[j]?).bind (·.dst)with
 |none=>rfl
 |some d=>
  simp only;generalize σ.ev (.tmp d)=v;unfold AM
  cases v with
  |d x=>cases x<;>rfl
  |bU c v=>cases v with
   |d x=>cases x<;>rfl
   |_=>rfl
  |_=>rfl
section
variable {kv:List V} {σ:St} {aQ:List Oper} {dst:Option Tmp} {T:TypeId} {d2:String} {after:Array Edge} {K:St→Prop}
@[go_sem] theorem aqg(op:Op)(j:Nat)(ll:Bool):wt P kv aQ σ ⟨dst,op,T,d2,after,some (j,ll)⟩ K=xQ aQ j (b3 (fun d=>AM (σ.ev (.tmp d)) ll (b3 (fun g=>zg P kv g σ ⟨dst,op,T,d2,after,some (j,ll)⟩ K) .mk)) .mk):=c7 rfl
@[go_sem] theorem aqh(op:Op):wt P kv aQ σ ⟨dst,op,T,d2,after,none⟩ K=bareE P kv σ ⟨dst,op,T,d2,after,none⟩ K:=c7 rfl
@[go_sem] theorem aqi(x:Operand)(bU:Option (Nat×Bool)):bareE P kv σ ⟨dst,.move x,T,d2,after,bU⟩ K=opE P true σ σ.heap.length ⟨dst,.move x,T,d2,after,bU⟩ (b3 (fun r=>K (σ.dM dst σ.heap.length r)) .mk):=c7 rfl
@[go_sem] theorem aqj(x:Operand)(bU:Option (Nat×Bool)):bareE P kv σ ⟨dst,.assign x,T,d2,after,bU⟩ K=opE P true σ σ.heap.length ⟨dst,.assign x,T,d2,after,bU⟩ (b3 (fun r=>K (σ.dM dst σ.heap.length r)) .mk):=c7 rfl
@[go_sem] theorem aqk(c x y:Operand)(bU:Option (Nat×Bool)):bareE P kv σ ⟨dst,.pick c x y,T,d2,after,bU⟩ K=opE P true σ σ.heap.length ⟨dst,.pick c x y,T,d2,after,bU⟩ (b3 (fun r=>K (σ.dM dst σ.heap.length r)) .mk):=c7 rfl
@[go_sem] theorem aql(op:BinOp)(U VP:TypeId)(x y:Operand)(bU:Option (Nat×Bool)):bareE P kv σ ⟨dst,.binOp op U x y VP,T,d2,after,bU⟩ K=opE P true σ σ.heap.length ⟨dst,.binOp op U x y VP,T,d2,after,bU⟩ (b3 (fun r=>K (σ.dM dst σ.heap.length r)) .mk):=c7 rfl
@[go_sem] theorem aqm(op:UnOp)(U:TypeId)(x:Operand)(bU:Option (Nat×Bool)):bareE P kv σ ⟨dst,.unOp op U x,T,d2,after,bU⟩ K=opE P true σ σ.heap.length ⟨dst,.unOp op U x,T,d2,after,bU⟩ (b3 (fun r=>K (σ.dM dst σ.heap.length r)) .mk):=c7 rfl
@[go_sem] theorem aqn(x:Operand)(i:Nat)(bU:Option (Nat×Bool)):bareE P kv σ ⟨dst,.extract x i,T,d2,after,bU⟩ K=opE P true σ σ.heap.length ⟨dst,.extract x i,T,d2,after,bU⟩ (b3 (fun r=>K (σ.dM dst σ.heap.length r)) .mk):=c7 rfl
@[go_sem] theorem aqo(x:Operand)(bU:Option (Nat×Bool)):bareE P kv σ ⟨dst,.nilCheck x,T,d2,after,bU⟩ K=opE P true σ σ.heap.length ⟨dst,.nilCheck x,T,d2,after,bU⟩ (b3 (fun r=>K (σ.dM dst σ.heap.length r)) .mk):=c7 rfl
@[go_sem] theorem aqp(S:TypeId)(x:Operand)(f:Nat)(bU:Option (Nat×Bool)):bareE P kv σ ⟨dst,.fieldAddr S x f,T,d2,after,bU⟩ K=opE P true σ σ.heap.length ⟨dst,.fieldAddr S x f,T,d2,after,bU⟩ (b3 (fun r=>K (σ.dM dst σ.heap.length r)) .mk):=c7 rfl
@[go_sem] theorem aqq(U:TypeId)(x kE:Operand)(bU:Option (Nat×Bool)):bareE P kv σ ⟨dst,.indexAddr U x kE,T,d2,after,bU⟩ K=opE P true σ σ.heap.length ⟨dst,.indexAddr U x kE,T,d2,after,bU⟩ (b3 (fun r=>K (σ.dM dst σ.heap.length r)) .mk):=c7 rfl
@[go_sem] theorem aqr(U:TypeId)(x:Operand)(bU:Option (Nat×Bool)):bareE P kv σ ⟨dst,.load U x,T,d2,after,bU⟩ K=opE P true σ σ.heap.length ⟨dst,.load U x,T,d2,after,bU⟩ (b3 (fun r=>K (σ.dM dst σ.heap.length r)) .mk):=c7 rfl
@[go_sem] theorem aqs(U:TypeId)(x kE:Operand)(bU:Option (Nat×Bool)):bareE P kv σ ⟨dst,.index U x kE,T,d2,after,bU⟩ K=opE P true σ σ.heap.length ⟨dst,.index U x kE,T,d2,after,bU⟩ (b3 (fun r=>K (σ.dM dst σ.heap.length r)) .mk):=c7 rfl
@[go_sem] theorem aqt(U:TypeId)(x:Operand)(cU hi JE:Option Operand)(bU:Option (Nat×Bool)):bareE P kv σ ⟨dst,.slice U x cU hi JE,T,d2,after,bU⟩ K=opE P true σ σ.heap.length ⟨dst,.slice U x cU hi JE,T,d2,after,bU⟩ (b3 (fun r=>K (σ.dM dst σ.heap.length r)) .mk):=c7 rfl
@[go_sem] theorem aqu(S U:TypeId)(x:Operand)(bU:Option (Nat×Bool)):bareE P kv σ ⟨dst,.convert S U x,T,d2,after,bU⟩ K=opE P true σ σ.heap.length ⟨dst,.convert S U x,T,d2,after,bU⟩ (b3 (fun r=>K (σ.dM dst σ.heap.length r)) .mk):=c7 rfl
@[go_sem] theorem aqv(U:TypeId)(gR:Array (Nat×Operand))(bU:Option (Nat×Bool)):bareE P kv σ ⟨dst,.build U gR,T,d2,after,bU⟩ K=opE P true σ σ.heap.length ⟨dst,.build U gR,T,d2,after,bU⟩ (b3 (fun r=>K (σ.dM dst σ.heap.length r)) .mk):=c7 rfl
@[go_sem] theorem aqw(U:TypeId)(bU:Option (Nat×Bool)):bareE P kv σ ⟨dst,.alloc U,T,d2,after,bU⟩ K=opE P true σ σ.heap.length ⟨dst,.alloc U,T,d2,after,bU⟩ (b3 (fun r=>K (σ.dM dst σ.heap.length r)) .mk):=c7 rfl
@[go_sem] theorem aqx(U:TypeId)(x:Operand)(bU:Option (Nat×Bool)):bareE P kv σ ⟨dst,.box U x,T,d2,after,bU⟩ K=opE P true σ σ.heap.length ⟨dst,.box U x,T,d2,after,bU⟩ (b3 (fun r=>K (σ.dM dst σ.heap.length r)) .mk):=c7 rfl
@[go_sem] theorem aqy(U:TypeId)(p x:Operand)(bU:Option (Nat×Bool)):bareE P kv σ ⟨dst,.store U p x,T,d2,after,bU⟩ K=opE P true σ σ.heap.length ⟨dst,.store U p x,T,d2,after,bU⟩ (b3 (fun r=>K (σ.dM dst σ.heap.length r)) .mk):=c7 rfl
@[go_sem] theorem aqz(U:TypeId)(len:Nat)(gR:Array (Nat×Operand))(bU:Option (Nat×Bool)):bareE P kv σ ⟨dst,.buildSlice U len gR,T,d2,after,bU⟩ K=opE P true σ σ.heap.length ⟨dst,.buildSlice U len gR,T,d2,after,bU⟩ (b3 (fun r=>K (σ.dM dst σ.heap.length r)) .mk):=c7 rfl
@[go_sem] theorem aqA(U:TypeId)(x y:Operand)(bU:Option (Nat×Bool)):bareE P kv σ ⟨dst,.makeSlice U x y,T,d2,after,bU⟩ K=opE P true σ σ.heap.length ⟨dst,.makeSlice U x y,T,d2,after,bU⟩ (b3 (fun r=>K (σ.dM dst σ.heap.length r)) .mk):=c7 rfl
@[go_sem] theorem aqB(f:Fn)(ys fX:Array Operand)(bU:Option (Nat×Bool)):bareE P kv σ ⟨dst,.makeFunc f ys fX,T,d2,after,bU⟩ K=opE P true σ σ.heap.length ⟨dst,.makeFunc f ys fX,T,d2,after,bU⟩ (b3 (fun r=>K (σ.dM dst σ.heap.length r)) .mk):=c7 rfl
@[go_sem] theorem aqC(b:Builtin)(xs:Array Operand)(ts:Array TypeId)(bU:Option (Nat×Bool)):bareE P kv σ ⟨dst,.call ⟨.builtin b,xs,ts⟩,T,d2,after,bU⟩ K=opE P true σ σ.heap.length ⟨dst,.call ⟨.builtin b,xs,ts⟩,T,d2,after,bU⟩ (b3 (fun r=>K (σ.dM dst σ.heap.length r)) .mk):=c7 rfl
@[go_sem] theorem aqD(x:Operand)(xs:List Operand)(ts:Array TypeId)(bU:Option (Nat×Bool)):bareE P kv σ ⟨dst,.call ⟨.value x,xs.toArray,ts⟩,T,d2,after,bU⟩ K=evg true (σ.ev x) (b3 (fun zb=>fnE zb (m' (fun f fX=>evs true σ xs (b3 (fun vs=>ae P kv σ dst f fX (toADs σ.heap vs) vs K) .mk)) .mk)) .mk):=c7 rfl
@[go_sem] theorem aqE(f:FuncId)(fX:List V)(K:FuncId→List V→Prop):fnE (.fn f fX) K=K f fX:=c7 rfl
attribute [go_sem] fM
theorem ae.intro{f:FuncId}{as rs:List AD}{vs:List V}(h:PureCall P f as rs)(hk:K (σ.dM dst σ.heap.length ⟨oI rs σ.heap.length,aHs rs,[]⟩)):ae P kv σ dst f [] (some as) vs K:=.inl ⟨rfl,.inl (.inl ⟨as,rs,rfl,h,hk⟩)⟩
theorem ae.aj{f:FuncId}{as rs:List AD}{vs:List V}(h:PureCall P f as rs)(hk:K (σ.dM dst σ.heap.length ⟨oI rs σ.heap.length,(aHs rs).map H.toCln,[]⟩)):ae P kv σ dst f [] (some as) vs K:=.inl ⟨rfl,.inl (.inr ⟨as,rs,rfl,h,hk⟩)⟩
theorem ae.inl{f:FuncId}{fX vs:List V}{AQ:Option (List AD)}(h:d6 P f (σ.tmps++kv) σ.heap (vs++fX) (m' (fun x hs=>K ⟨fM σ.tmps dst x,hs⟩) .mk)):ae P kv σ dst f fX AQ vs K:=.inr ⟨σ.tmps,VC _,h⟩
theorem ae.jD(dJ:List Nat){f:FuncId}{fX vs ts:List V}{AQ:Option (List AD)}(ht:hZ dJ 0 σ.tmps=ts)(h:d6 P f (ts++kv) σ.heap (vs++fX) (m' (fun x hs=>K ⟨fM ts dst x,hs⟩) .mk)):ae P kv σ dst f fX AQ vs K:=.inr ⟨ts,by rw[←ht];exact Oy dJ 0 _,h⟩
theorem bw{g:Bool}{o:Oper}(h:opE P g σ σ.heap.length o (b3 (fun r=>r.new=[]∧r.upd=[]∧K (σ.dM o.dst σ.heap.length (dn (.bU g r.v)))) .mk)):zg P kv g σ o K:=.inl (Vv h)
theorem cN{o:Oper}(h:bareE P kv σ o K):zg P kv true σ o K:=.inr ⟨fun _=>h,fun e=>(by cases e)⟩
theorem eB{o:Oper}(h:K (σ.dM o.dst σ.heap.length (dn (.bU false (.d (.bool false)))))):zg P kv false σ o K:=.inr ⟨fun e=>(by cases e),fun _=>h⟩
end
section
variable {g:Bool} {σ:St} {n:Nat} {dst:Option Tmp} {T:TypeId} {d2:String} {after:Array Edge} {bU:Option (Nat×Bool)} {K:fW→Prop}
@[go_sem] theorem aqF(x:Operand):opE P g σ n ⟨dst,.move x,T,d2,after,bU⟩ K=evg g (σ.ev x) (b3 (fun v=>K (dn (lK P T v))) .mk):=c7 rfl
@[go_sem] theorem aqG(x:Operand):opE P g σ n ⟨dst,.assign x,T,d2,after,bU⟩ K=evg g (σ.ev x) (b3 (fun v=>K (dn (lK P T v))) .mk):=c7 rfl
@[go_sem] theorem aqH(c x y:Operand):opE P g σ n ⟨dst,.pick c x y,T,d2,after,bU⟩ K=Cc g (σ.ev c) (σ.ev x) (σ.ev y) (b3 (fun v=>K (dn v)) .mk):=c7 rfl
@[go_sem] theorem aqI(op:BinOp)(U AT:TypeId)(x y:Operand):opE P g σ n ⟨dst,.binOp op U x y AT,T,d2,after,bU⟩ K=evg g (σ.ev x) (b3 (fun a=>evg g (σ.ev y) (b3 (fun b=>withR (binE P op U a b) (b3 (fun v=>K (dn v)) .mk)) .mk)) .mk):=c7 rfl
@[go_sem] theorem aqJ(op:UnOp)(U:TypeId)(x:Operand):opE P g σ n ⟨dst,.unOp op U x,T,d2,after,bU⟩ K=evg g (σ.ev x) (b3 (fun a=>withO (unE op a) (b3 (fun v=>K (dn v)) .mk)) .mk):=c7 rfl
@[go_sem] theorem aqK(x:Operand)(i:Nat):opE P g σ n ⟨dst,.extract x i,T,d2,after,bU⟩ K=evg g (σ.ev x) (b3 (fun a=>withO (extE a i) (b3 (fun v=>K (dn v)) .mk)) .mk):=c7 rfl
@[go_sem] theorem aqL(x:Operand):opE P g σ n ⟨dst,.nilCheck x,T,d2,after,bU⟩ K=evg g (σ.ev x) (b3 (fun a=>ptrE a=true∧K (dn a)) .mk):=c7 rfl
@[go_sem] theorem aqM(S:TypeId)(x:Operand)(f:Nat):opE P g σ n ⟨dst,.fieldAddr S x f,T,d2,after,bU⟩ K=evg g (σ.ev x) (b3 (fun a=>withO (faE P S f a) (b3 (fun v=>K (dn v)) .mk)) .mk):=c7 rfl
@[go_sem] theorem aqN(U:TypeId)(x kE:Operand):opE P g σ n ⟨dst,.indexAddr U x kE,T,d2,after,bU⟩ K=evg g (σ.ev x) (b3 (fun a=>evg g (σ.ev kE) (b3 (fun b=>asI b (m' (fun _ i=>withR (iaE P σ.heap U a i) (b3 (fun v=>K (dn v)) .mk)) .mk)) .mk)) .mk):=c7 rfl
@[go_sem] theorem aqO(U:TypeId)(x:Operand):opE P g σ n ⟨dst,.load U x,T,d2,after,bU⟩ K=evg g (σ.ev x) (b3 (fun a=>withR (loadE P σ.heap U a) (b3 (fun v=>K (dn v)) .mk)) .mk):=c7 rfl
@[go_sem] theorem aqP(U:TypeId)(x kE:Operand):opE P g σ n ⟨dst,.index U x kE,T,d2,after,bU⟩ K=evg g (σ.ev x) (b3 (fun a=>evg g (σ.ev kE) (b3 (fun b=>asI b (m' (fun _ i=>withR (ixE P U a i) (b3 (fun v=>K (dn v)) .mk)) .mk)) .mk)) .mk):=c7 rfl
@[go_sem] theorem aqQ(U:TypeId)(x:Operand)(cU hi:Option Operand):opE P g σ n ⟨dst,.slice U x cU hi none,T,d2,after,bU⟩ K=evg g (σ.ev x) (b3 (fun a=>bndE g σ 0 cU (b3 (fun l=>bndE g σ (D0 a) hi (b3 (fun h=>withR (cutE P σ.heap U a l h) (b3 (fun v=>K (dn v)) .mk)) .mk)) .mk)) .mk):=c7 rfl
@[go_sem] theorem aqR(S U:TypeId)(x:Operand):opE P g σ n ⟨dst,.convert S U x,T,d2,after,bU⟩ K=evg g (σ.ev x) (b3 (fun a=>withR (cvE P σ.heap S U a) (b3 (fun v=>K (dn v)) .mk)) .mk):=c7 rfl
@[go_sem] theorem aqS(U:TypeId)(gR:List (Nat×Operand)):opE P g σ n ⟨dst,.build U gR.toArray,T,d2,after,bU⟩ K=evParts g σ gR (b3 (fun ps=>withO (bldE P U ps) (b3 (fun v=>K (dn v)) .mk)) .mk):=by simp[opE,b3]
@[go_sem] theorem aqT(U:TypeId):opE P g σ n ⟨dst,.alloc U,T,d2,after,bU⟩ K=withO ((zrI P U).map V.agg) (b3 (fun v=>K ⟨.ptr n 0 0,[.box v.cells],[]⟩) .mk):=c7 rfl
@[go_sem] theorem aqU(U:TypeId)(x:Operand):opE P g σ n ⟨dst,.box U x,T,d2,after,bU⟩ K=evg g (σ.ev x) (b3 (fun v=>v.xO=true∧K ⟨.ptr n 0 0,[.box v.cells],[]⟩) .mk):=c7 rfl
@[go_sem] theorem aqV(U:TypeId)(p x:Operand):opE P g σ n ⟨dst,.store U p x,T,d2,after,bU⟩ K=evg g (σ.ev p) (b3 (fun q=>evg g (σ.ev x) (b3 (fun v=>y' ((storeE P σ.heap U q (lK P U v)).map fun(c,upd)=>(c,⟨.al,[],upd⟩)) K) .mk)) .mk):=c7 rfl
@[go_sem] theorem aqW(U:TypeId)(len:Nat)(gR:List (Nat×Operand)):opE P g σ n ⟨dst,.buildSlice U len gR.toArray,T,d2,after,bU⟩ K=evParts g σ gR (b3 (fun ps=>y' (bsE P σ.heap U len ps n) K) .mk):=by simp[opE,b3]
@[go_sem] theorem aqX(U:TypeId)(x y:Operand):opE P g σ n ⟨dst,.makeSlice U x y,T,d2,after,bU⟩ K=(x=y∧evg g (σ.ev x) (b3 (fun v=>asI v (m' (fun _ i=>y' (mkE P U i n) K) .mk)) .mk)):=c7 rfl
@[go_sem] theorem aqY(f:FuncId)(fX:List Operand):opE P g σ n ⟨dst,.makeFunc (.func f) #[] fX.toArray,T,d2,after,bU⟩ K=evs g σ fX (b3 (fun vs=>K (dn (.fn f vs))) .mk):=by simp[opE,b3]
@[go_sem] theorem aqZ(c:Callee)(xs:List Operand)(ts:List TypeId):opE P g σ n ⟨dst,.call ⟨c,xs.toArray,ts.toArray⟩,T,d2,after,bU⟩ K=callE P g σ n c xs ts K:=by simp only[opE]
@[go_sem] theorem aq0(x:Operand)(U:TypeId):callE P g σ n (.builtin .len) [x] [U] K=evg g (σ.ev x) (b3 (fun a=>Om (lenE P U a) (b3 (fun m=>K (dn (qs .i64 m))) .mk)) .mk):=c7 rfl
@[go_sem] theorem aq1(x y:Operand)(U AT:TypeId):callE P g σ n (.builtin .append) [x,y] [U,AT] K=(U=AT∧evg g (σ.ev x) (b3 (fun a=>evg g (σ.ev y) (b3 (fun b=>y' (apE P σ.heap U a b n) K) .mk)) .mk)):=c7 rfl
@[go_sem] theorem aq2(x y:Operand)(U AT:TypeId):callE P g σ n (.builtin .min) [x,y] [U,AT] K=evg g (σ.ev x) (b3 (fun a=>evg g (σ.ev y) (b3 (fun b=>asI a (m' (fun k i=>asI b (m' (fun ko j=>k=ko∧K (dn (qs k (if j<i then j else i)))) .mk)) .mk)) .mk)) .mk):=c7 rfl
@[go_sem] theorem aq3(x y:Operand)(U AT:TypeId):callE P g σ n (.builtin .max) [x,y] [U,AT] K=evg g (σ.ev x) (b3 (fun a=>evg g (σ.ev y) (b3 (fun b=>asI a (m' (fun k i=>asI b (m' (fun ko j=>k=ko∧K (dn (qs k (if j>i then j else i)))) .mk)) .mk)) .mk)) .mk):=c7 rfl
@[go_sem] theorem aq4(t:Tmp)(xs:List Operand)(ts:List TypeId):callE P g σ n (.value (.tmp t)) xs ts K=evg g (σ.ev (.tmp t)) (b3 (fun zb=>fnE zb (m' (fun f fX=>fX=[]∧evs g σ xs (b3 (fun vs=>ay P f (toADs σ.heap vs) σ.heap vs n K) .mk)) .mk)) .mk):=by unfold callE;rfl
@[go_sem] theorem aq5(f:FuncId)(xs:List Operand)(ts:List TypeId):callE P g σ n (.value (.func f)) xs ts K=evs g σ xs (b3 (fun vs=>ay P f (toADs σ.heap vs) σ.heap vs n K) .mk):=by unfold callE;rfl
end
section
variable {g:Bool} {σ:St}
@[go_sem] theorem aq6(K:List V→Prop):evs g σ [] K=K []:=c7 rfl
@[go_sem] theorem aq7(x:Operand)(xs:List Operand)(K:List V→Prop):evs g σ (x::xs) K=evg g (σ.ev x) (b3 (fun v=>evs g σ xs (b3 (fun vs=>K (v::vs)) .mk)) .mk):=c7 rfl
@[go_sem] theorem aq8(K:List (Nat×V)→Prop):evParts g σ [] K=K []:=c7 rfl
@[go_sem] theorem aq9(i:Nat)(x:Operand)(xs:List (Nat×Operand))(K:List (Nat×V)→Prop):evParts g σ ((i,x)::xs) K=evg g (σ.ev x) (b3 (fun v=>evParts g σ xs (b3 (fun vs=>K ((i,v)::vs)) .mk)) .mk):=c7 rfl
@[go_sem] theorem ara(d:Nat)(K:Nat→Prop):bndE g σ d none K=K d:=c7 rfl
@[go_sem] theorem arb(d:Nat)(x:Operand)(K:Nat→Prop):bndE g σ d (some x) K=evg g (σ.ev x) (b3 (fun v=>asI v (m' (fun _ i=>0≤i∧K i.toNat) .mk)) .mk):=c7 rfl
@[go_sem] theorem arc(K:List V→Prop):rvsE P σ [] K=K []:=c7 rfl
@[go_sem] theorem ard(r:ResultVar)(rs:List ResultVar)(K:List V→Prop):rvsE P σ (r::rs) K=rvE P σ r (b3 (fun v=>rvsE P σ rs (b3 (fun vs=>K (v::vs)) .mk)) .mk):=c7 rfl
@[go_sem] theorem are(t:Tmp)(K:V→Prop):rvE P σ (.tmp t) K=K (σ.ev (.tmp t)):=c7 rfl
@[go_sem] theorem arf(t:Tmp)(T:TypeId)(K:V→Prop):rvE P σ (.cell t T) K=evg true (σ.ev (.tmp t)) (b3 (fun v=>withR (loadE P σ.heap T v) K) .mk):=c7 rfl
@[go_sem] theorem arh(rs:List ResultVar)(res:List AD):g8 P rs res σ=rvsE P σ rs (b3 (fun vs=>outOA (toOAs σ.heap vs) res) .mk):=c7 rfl
@[go_sem] theorem ari(as:List AD)(cz:List Nat)(res:List AD):outOA (some (as,cz)) res=(cz.Nodup∧as=res):=c7 rfl
end
@[go_sem] theorem arj(T:TypeId)(x:D):lK P T (.d x)=.d x:=rfl
@[go_sem] theorem ark(T:TypeId)(x:List V):lK P T (.agg x)=.agg x:=rfl
@[go_sem] theorem arl(T:TypeId)(a b c:Nat):lK P T (.ptr a b c)=.ptr a b c:=rfl
@[go_sem] theorem arn(T:TypeId)(a:List D)(b:Nat):lK P T (.gj a b)=.gj a b:=rfl
@[go_sem] theorem aro(T:TypeId)(a b c:Nat):lK P T (.sl a b c)=.sl a b c:=rfl
@[go_sem] theorem arp(T:TypeId)(a:FuncId)(b:List V):lK P T (.fn a b)=.fn a b:=rfl
@[go_sem] theorem arq(T:TypeId)(b:List V):lK P T (.eh b)=.eh b:=rfl
@[go_sem] theorem ars(T:TypeId)(c:Bool)(v:V):lK P T (.bU c v)=.bU c v:=rfl
@[go_sem] theorem art(T:TypeId):lK P T .al=.al:=rfl
@[go_sem] theorem aru(T:TypeId)(s:Nat):lK P T (.ee s)=.ee (match elI P T with|some (_,sz,_)=>sz|none=>s):=rfl
@[go_sem] theorem arv(g:Bool)(c a b:Bool)(K:V→Prop):Cc g (.d (.bool c)) (.d (.bool a)) (.d (.bool b)) K=K (.d (.bool (bif c then a else b))):=c7 rfl
@[go_sem] theorem arw(g:Bool)(c a:Bool)(VQ b:Bool)(K:V→Prop):Cc g (.d (.bool c)) (.d (.bool a)) (.bU VQ (.d (.bool b))) K=(((g&&!c)=true→VQ=true)∧K (.d (.bool (bif c then a else b)))):=c7 rfl
@[go_sem] theorem arx(g:Bool)(c a:Bool)(VR b:Bool)(K:V→Prop):Cc g (.d (.bool c)) (.bU VR (.d (.bool a))) (.d (.bool b)) K=(((g&&c)=true→VR=true)∧K (.d (.bool (bif c then a else b)))):=c7 rfl
@[go_sem] theorem ary(g:Bool)(DX c:Bool)(a b:V)(K:V→Prop):Cc g (.bU DX (.d (.bool c))) a b K=((g=true→DX=true)∧evg (g&&c) a (b3 (fun a=>asB a (b3 (fun y=>evg (g&&!c) b (b3 (fun b=>asB b (b3 (fun z=>K (.d (.bool (bif c then y else z)))) .mk)) .mk)) .mk)) .mk)):=c7 rfl
@[go_sem] theorem arz(T:TypeId)(k:IntKind)(a b:Int):binE P .add T (.d (.int k a)) (.d (.int k b))=some (True,.d (.int k (k.wrap (a+b)))):=by simp[binE,binI]
@[go_sem] theorem arA(T:TypeId)(k:IntKind)(a b:Int):binE P .sub T (.d (.int k a)) (.d (.int k b))=some (True,.d (.int k (k.wrap (a-b)))):=by simp[binE,binI]
@[go_sem] theorem arB(T:TypeId)(k:IntKind)(a b:Int):binE P .mul T (.d (.int k a)) (.d (.int k b))=some (True,.d (.int k (k.wrap (a * b)))):=by simp[binE,binI]
@[go_sem] theorem arC(T:TypeId)(k:IntKind)(a b:Int):binE P .quo T (.d (.int k a)) (.d (.int k b))=some (b≠0,.d (.int k (k.wrap (a.tdiv b)))):=by simp[binE,binI]
@[go_sem] theorem arD(T:TypeId)(k:IntKind)(a b:Int):binE P .rem T (.d (.int k a)) (.d (.int k b))=some (b≠0,.d (.int k (a.tmod b))):=by simp[binE,binI]
@[go_sem] theorem arE(T:TypeId)(k:IntKind)(a b:Int):binE P .and T (.d (.int k a)) (.d (.int k b))=some (True,.d (.int k (bitI .and k a b))):=by simp[binE,binI]
@[go_sem] theorem arF(T:TypeId)(k:IntKind)(a b:Int):binE P .or T (.d (.int k a)) (.d (.int k b))=some (True,.d (.int k (bitI .or k a b))):=by simp[binE,binI]
@[go_sem] theorem arG(T:TypeId)(k:IntKind)(a b:Int):binE P .xor T (.d (.int k a)) (.d (.int k b))=some (True,.d (.int k (bitI .xor k a b))):=by simp[binE,binI]
@[go_sem] theorem arH(T:TypeId)(k:IntKind)(a b:Int):binE P .eql T (.d (.int k a)) (.d (.int k b))=some (True,.d (.bool (decide (a=b)))):=by simp[binE,binI];rfl
@[go_sem] theorem arJ(T:TypeId)(k:IntKind)(a b:Int):binE P .neq T (.d (.int k a)) (.d (.int k b))=some (True,.d (.bool (decide (a≠b)))):=by simp[binE,binI,bne];rfl
@[go_sem] theorem arK(T:TypeId)(k:IntKind)(a b:Int):binE P .lss T (.d (.int k a)) (.d (.int k b))=some (True,.d (.bool (decide (a<b)))):=by simp[binE,binI]
@[go_sem] theorem arL(T:TypeId)(k:IntKind)(a b:Int):binE P .leq T (.d (.int k a)) (.d (.int k b))=some (True,.d (.bool (decide (a≤b)))):=by simp[binE,binI]
@[go_sem] theorem arM(T:TypeId)(k:IntKind)(a b:Int):binE P .gtr T (.d (.int k a)) (.d (.int k b))=some (True,.d (.bool (decide (b<a)))):=by simp[binE,binI]
@[go_sem] theorem arN(T:TypeId)(k:IntKind)(a b:Int):binE P .geq T (.d (.int k a)) (.d (.int k b))=some (True,.d (.bool (decide (b≤a)))):=by simp[binE,binI]
@[go_sem] theorem arO(T:TypeId)(k ko:IntKind)(a b:Int):binE P .shl T (.d (.int k a)) (.d (.int ko b))=shI .shl k a b:=rfl
@[go_sem] theorem arP(T:TypeId)(k ko:IntKind)(a b:Int):binE P .shr T (.d (.int k a)) (.d (.int ko b))=shI .shr k a b:=rfl
@[go_sem] theorem arQ(T:TypeId)(a b:List UInt8):binE P .add T (.d (.str a)) (.d (.str b))=binS .add a b:=rfl
@[go_sem] theorem arR(T:TypeId)(a b:List UInt8):binE P .eql T (.d (.str a)) (.d (.str b))=binS .eql a b:=rfl
@[go_sem] theorem arS(T:TypeId)(a b:List UInt8):binE P .neq T (.d (.str a)) (.d (.str b))=binS .neq a b:=rfl
@[go_sem] theorem arT(a b:List UInt8):binS .add a b=some (a.length+b.length≤maxLen,.d (.str (a++b))):=rfl
@[go_sem] theorem arU(a b:List UInt8):binS .eql a b=some (True,.d (.bool (decide (a=b)))):=by
 have:(a == b)=decide (a=b):=by rw[Bool.eq_iff_iff];simp
 simp only[binS,this]
@[go_sem] theorem arV(a b:List UInt8):binS .neq a b=some (True,.d (.bool (decide (a≠b)))):=by
 have:(a != b)=decide (a≠b):=by rw[Bool.eq_iff_iff];simp
 simp only[binS,this]
@[go_sem] theorem arW(T:TypeId)(a b:Bool):binE P .eql T (.d (.bool a)) (.d (.bool b))=if isBoolI P T then some (True,.d (.bool (a == b)))else none:=rfl
@[go_sem] theorem arX(T:TypeId)(a b:Bool):binE P .neq T (.d (.bool a)) (.d (.bool b))=if isBoolI P T then some (True,.d (.bool (a != b)))else none:=rfl
@[go_sem] theorem arY(T:TypeId)(xs ys:List V):binE P .eql T (.agg xs) (.agg ys)=(eqCells xs ys).map fun b=>(pM P T (kindsV xs),.d (.bool b)):=by simp only[binE];cases eqCells xs ys<;>rfl
@[go_sem] theorem arZ(T:TypeId)(xs ys:List V):binE P .neq T (.agg xs) (.agg ys)=(eqCells xs ys).map fun b=>(pM P T (kindsV xs),.d (.bool !b)):=by simp only[binE];cases eqCells xs ys<;>rfl
@[go_sem] theorem ar0(T:TypeId)(id cx off AU:Nat):binE P .eql T (.ptr id cx off) (.ptr id cx AU)=if isPtrI P T=true then some (True,.d (.bool (decide (off=AU))))else none:=by simp[binE,zi]
attribute [go_sem] eqCells eqD kindsV
@[go_sem] theorem ar1(b:Bool):unE .not (.d (.bool b))=some (.d (.bool !b)):=rfl
@[go_sem] theorem ar2(k:IntKind)(x:Int):unE .neg (.d (.int k x))=some (.d (.int k (k.wrap (0-x)))):=rfl
attribute [go_sem] bR.p bR.q bR.u qs zi GB lenE extE ptrE faE iaE H.els xU loadE ixE cutE reachE D0 cvE bldE V.cells V.xO V.oneB storeE toDs toD apE srcE elsOf bsE vfill mkE g9 chunk N6 D.flat D.plain toADs toAD toRDs toRD toOAs JS oI Gj aVs aHs Gk rV rVs xN rHs zDs zD AD.vM
attribute [go_sem] false_implies true_implies true_and and_true Option.map_some Option.map_none eT List.map_nil dA eI if_true if_false Option.isSome_some Option.isSome_none Bool.false_eq_true fh Option.getD_none gm bx bz List.drop_zero List.drop_succ_cons List.take_zero List.take_succ_cons List.headD_cons List.replicate_zero List.all_nil List.all_cons List.zipIdx_nil Bool.and_true Bool.true_and Bool.and_self Bool.false_and Bool.and_false List.nodup_nil reduceCtorEq Nat.zero_add eJ eQ dY List.length_replicate bN cR
@[go_sem] theorem ar3:ig []=true:=rfl
@[go_sem] theorem ar4(c:List D)(cs:List (List D)):ig (c::cs)=(c.all D.flat&&ig cs):=rfl
@[go_sem] theorem ar5(cs ds:List (List D)):ig (cs++ds)=(ig cs&&ig ds):=by simp[ig]
theorem afg{α:Type}(f:α→List D)(xs:List α):(xs.map f).take xs.length=xs.map f:=e7 ξ
attribute [go_sem] afg fE imp_self beq_true beq_false Bool.not_not
attribute [go_sem] Int.reduceLE Int.reduceLT Int.reduceNeg Int.reduceToNat Nat.reduceAdd Nat.reduceSub Nat.reduceMul Nat.reduceLT Nat.reduceLeDiff Nat.reduceEqDiff
@[go_sem] theorem ar6(v:V):(dn v).v=v:=rfl
@[go_sem] theorem ar7(v:V):(dn v).new=[]:=rfl
@[go_sem] theorem ar8(v:V):(dn v).upd=[]:=rfl
@[go_sem] theorem ar9:bytesL []=some []:=rfl
@[go_sem] theorem asa(n:Int):bytesL [[.int .u8 n]]=some [UInt8.ofNat n.toNat]:=rfl
@[go_sem] theorem asb(n m:Int):bytesL [[.int .u8 n],[.int .u8 m]]=some [UInt8.ofNat n.toNat,UInt8.ofNat m.toNat]:=rfl
@[go_sem] theorem asd{n:Nat}(h:n≤1000000):(n≤maxLen)=True:=eq_true (VO h)
attribute [go_sem] c_ dK Int.reduceNe eW fm
theorem adK{f:FuncId}{fn:Func}{c:Code}{args res:List AD}(hf:P.funcs[f]?=some fn)(hb:fn.body=some c)(hcall:∀(args:Array Value) (w:World),(callFunc f args).run P w=.ok (.enter f args) w)(hm:P.follows .mixedOrders=true)(ts:List V)
  (hn:args.map AD.vM++List.replicate (fn.ntmps-args.length) .al=ts) (rs:List ResultVar) (hr:fn.results.toList=rs) (h:wG args→codeE P [] c ⟨ts,[]⟩ (b3 (g8 P rs res) .mk) [] (b3 (g8 P rs res) .mk)):PureCall P f args res:=
 afh hf hb hcall hm hn hr h
def aA:Nat→List V→List V
 |0,l=>l
 |n+1,l=>.al::aA n l
def VS:Nat→bR
 |0=>.pre
 |1=>.dN
 |_+2=>.post
def OD:Nat→Nat→List bR
 |0,_=>[]
 |n+1,c=>VS (c % 3)::OD n (c / 3)
def cS(n:Nat)(l:List Nat):List (List bR):=l.map (OD n)
def B4:List AD→Nat→List V
 |[],n=>aA n []
 |a::l,n=>a.vM::B4 l (n-1)
theorem VT:∀(n:Nat),aA n []=List.replicate n .al
 |0=>rfl
 |n+1=>by rw[aA,VT n,List.replicate_succ]
theorem NN:∀(l:List AD) (n:Nat),l.map AD.vM++List.replicate (n-l.length) .al=B4 l n
 |[],n=>by simp[B4,VT]
 |a::l,n=>by
  have h:=NN l (n-1);rw[eT,bz,dA,B4,←h,show n-(l.length+1)=n-1-l.length from by omega]
attribute [go_sem,simp] aA
attribute [go_sem] B4 VS OD cS Nat.reduceDiv Nat.reduceMod
theorem az{p q:Prop}(k:q)(h:p:=by first|omega|(exact⟨by omega,by omega⟩)|(simp only[maxLen];omega)|(simp;done)|(simp;omega)):p∧q:=⟨h,k⟩
theorem nt{σ:St}{n:Nat}{o:Oper}{K:fW→Prop}(h:opE P true σ n o K):vJ P true σ n o K:=aeX h
theorem lR{σ:St}{n:Nat}{o:Oper}{K:fW→Prop}(h:K (dn (.bU false (.d (.bool false))))):vJ P false σ n o K:=aeY h
theorem f'{g:Bool}{σ:St}{n:Nat}{o:Oper}{K:fW→Prop}(h:opE P g σ n o (b3 (fun r=>r.new=[]∧r.upd=[]∧K (dn (.bU g r.v))) .mk)):vJ P g σ n o K:=Vv h
theorem bP{t:Bool}{pQ B:Prop}{s:wS pQ}{xV:wS B}(h1:t=true→pQ)(h2:t=false→B):Cg t (AS pQ s) (AS B xV):=⟨h1,h2⟩
theorem ay.aj{f:FuncId}{as rs:List AD}{hs:List H}{vs:List V}{n:Nat}{K:fW→Prop}(h:PureCall P f as rs)(hk:K ⟨oI rs n,(aHs rs).map H.toCln,[]⟩):ay P f (some as) hs vs n K:=.inr ⟨as,rs,rfl,h,hk⟩
def bE{α:Type}(kv:List V)(hU:α→St)(ln:α→Nat)(iD:α→Prop)(x:α)(σ':St):Prop:=∃oL,ra σ' oL∧∃y xW,iD y∧ln y<ln x∧lC kv xW oL (hU y)
theorem bE.intro{α:Type}{kv:List V}{hU:α→St}{ln:α→Nat}{iD:α→Prop}{x:α}{σ':St}(y:α)(xW:List Nat)(h1:iD y)(h2:ln y<ln x)(ao:lC kv xW σ' (hU y)):bE kv hU ln iD x σ':=⟨σ',ra.refl σ',y,xW,h1,h2,ao⟩
theorem cr.intro{kv:List V}{body:St→(St→Prop)→Prop}{s:wS body}{σ:St}{α:Type}(hU:α→St)(ln:α→Nat)(iD:α→Prop)(x:α)(ρ:List Nat)(hp:iD x)(hs:lC kv ρ σ (hU x))
  (GC:∀x,iD x→body (hU x) (b3 (bE kv hU ln iD x) .mk)):cr kv (m' body s) σ:=⟨α,hU,ln,iD,x,ρ,hp,hs,fun x hx=>⟨hU x,ra.refl _,GC x hx⟩⟩
def Ea(id cx:Nat)(σ:St)(K:St→Prop):Prop:=
 match a5 σ.heap id with
 |.aj sz xs=>match xs[cx]? with
  |some c=>K ⟨σ.tmps,hnew (cO σ.heap id (.hN sz (xs.take cx) (rVs c σ.heap.length) (xs.drop (cx+1)))) σ.heap.length (rHs c)⟩
  |none=>False
 |_=>False
def GD(hs:List H):List Nat→Prop
 |[]=>True
 |i::gl=>(match a5 hs i with|.ah _ ys true=>ig ys=true|_=>False)∧GD hs gl
def GF(id:Nat)(σ:St)(K:St→Prop):Prop:=
 match a5 σ.heap id with
 |.hN sz pre cells post=>match toDs σ.heap cells with
  |some (ds,cz)=>cz.Nodup∧GD σ.heap cz∧K ⟨σ.tmps,hupd (cO σ.heap id (.aj sz (pre++ds::post))) (cz.map fun i=>(i,H.eb))⟩
  |none=>False
 |_=>False
theorem VU{hs:List H}:∀{cz:List Nat},GD hs cz→∀i∈cz,∃s ys,a5 hs i=.ah s ys true∧ig ys=true
 |[],_,i,h=>by cases h
 |j::gl,hc,i,h=>by
  simp only[GD]at hc;rcases List.mem_cons.1 h with rfl|h
  ·have h1:=hc.1;split at h1
   ·rename_i s ys e;exact⟨s,ys,e,h1⟩
   ·exact h1.elim
  ·exact VU hc.2 i h
theorem OE{id cx:Nat}{σ:St}{K:St→Prop}(h:Ea id cx σ K):∃na,ra σ na∧K na:=by
 unfold Ea at h;split at h
 ·rename_i sz xs hx;split at h
  ·rename_i c hc;exact⟨_,.inr (.inl ⟨id,cx,sz,xs,c,hx,hc,rfl⟩),h⟩
  ·exact h.elim
 ·exact h.elim
theorem VV{id:Nat}{σ:St}{K:St→Prop}(h:GF id σ K):∃na,ra σ na∧K na:=by
 unfold GF at h;split at h
 ·rename_i sz pre cells post hx;split at h
  ·rename_i ds cz hd;obtain⟨h1,h2,ao⟩:=h;exact⟨_,.inr (.inr ⟨id,sz,pre,cells,post,ds,cz,hx,hd,h1,VU h2,rfl⟩),ao⟩
  ·exact h.elim
 ·exact h.elim
theorem ae.I1{kv:List V}{σ:St}{dst:Option Tmp}{K:St→Prop}{f:FuncId}{vs:List V}{as rs:List AD}(id cx:Nat)(h:PureCall P f as rs)(hk:Ea id cx (σ.dM dst σ.heap.length ⟨oI rs σ.heap.length,(aHs rs).map H.toCln,[]⟩) (b3 K .mk)):ae P kv σ dst f [] (some as) vs K:=by
 obtain⟨na,h1,h2⟩:=OE hk;exact Or.inl ⟨rfl,Or.inr ⟨as,rs,rfl,h,na,h1,h2⟩⟩
theorem cr.hN{kv:List V}{body:St→(St→Prop)→Prop}{s:wS body}{σ:St}{α:Type}(hU:α→St)(ln:α→Nat)(iD:α→Prop)(x:α)(ρ:List Nat)(hp:iD x)(hs:lC kv ρ σ (hU x))
  (GC:∀x,iD x→body (hU x) (b3 (bE kv hU ln iD x) .mk)∨∃id cx,Ea id cx (hU x) (b3 (fun na=>body na (b3 (bE kv hU ln iD x) .mk)) .mk)):cr kv (m' body s) σ:=
 ⟨α,hU,ln,iD,x,ρ,hp,hs,fun x hx=>by
  rcases GC x hx with h|⟨id,cx,h⟩
  ·exact⟨hU x,ra.refl _,h⟩
  ·exact OE h⟩
theorem bE.close{α:Type}{kv:List V}{hU:α→St}{ln:α→Nat}{iD:α→Prop}{x:α}{σ':St}(id:Nat)(y:α)(xW:List Nat)(h1:iD y)(h2:ln y<ln x)(ao:GF id σ' (b3 (fun oL=>lC kv xW oL (hU y)) .mk)):bE kv hU ln iD x σ':=by
 obtain⟨oL,k1,k2⟩:=VV ao;exact⟨oL,k1,y,xW,h1,h2,k2⟩
attribute [go_sem] Ea GF GD H.toCln H.esz toX toXs clnOf
attribute [go_sem] lC vsees vsee hsees hsee bk vok lV hok qT ren rens
theorem bA{n:Int}(h1:-9223372036854775808≤n)(h2:n≤9223372036854775807):IntKind.i64.wrap n=n:=by
 rw[IntKind.wrap_i64];omega
theorem OF{n:Int}(h1:0≤n)(h2:n≤255):IntKind.u8.wrap n=n:=by
 simp only[IntKind.wrap,IntKind.signed,IntKind.bits];simp;omega
theorem bo{kv:List V}{aQ:List Oper}{σ:St}{K:St→Prop}(dv:List (List bR))(h1:vC aQ dv=true)(h2:dv.all (fun r=>r.length == aQ.length)=true)
  (h:anyE P aQ σ dv aQ [] σ.heap.length (b3 (fun eV=>(updE dv 0 eV∨F6 σ dv aQ dv [] eV)∧K (seqAp eV σ)) .mk)):DE P kv aQ.toArray σ K:=.inl ⟨dv,h1,h2,h⟩
theorem gC{kv:List V}{aQ:List Oper}{σ:St}{K:St→Prop}(iC:St→Prop)(h:exE P kv aQ aQ.length (List.replicate aQ.length false) σ iC)(hk:∀σ',iC σ'→K σ'):DE P kv aQ.toArray σ K:=.inr ⟨iC,hk,by simpa using h⟩
theorem xy{kv:List V}{aQ:List Oper}{n:Nat}{S:List Bool}{σ:St}{K:St→Prop}(h:rdyE S aQ [] S=[])(hk:K σ):exE P kv aQ n S σ K:=by
 cases n with
 |zero=>exact⟨h,hk⟩
 |succ n=>refine⟨fun _=>hk,?_⟩;rw[h];trivial
theorem xx{kv:List V}{aQ:List Oper}{n:Nat}{S:List Bool}{σ:St}{K:St→Prop}{x:Oper×List Bool}{r:List (Oper×List Bool)}(e:rdyE S aQ [] S=x::r)(h:wq (x::r) fun o m5=>wt P kv aQ σ o (b3 (fun σ'=>exE P kv aQ n m5 σ' K) .mk)):exE P kv aQ (n+1) S σ K:=
 ⟨fun q=>(by rw[e]at q;cases q),by rw[e];exact h⟩
theorem vq{F:Oper→List Bool→Prop}{o:Oper}{S:List Bool}{r:List (Oper×List Bool)}(h:F o S)(hr:wq r F):wq ((o,S)::r) F:=⟨h,hr⟩
theorem vp{F:Oper→List Bool→Prop}:wq [] F:=trivial
@[go_sem] theorem ase(aQ:List Oper)(e5:St)(l:List d1)(n:Nat)(K:List d1→Prop):anyE P aQ e5 [] [] l n K=K l:=c7 rfl
@[go_sem] theorem asf(aQ:List Oper)(e5:St)(row:List bR)(dv:List (List bR))(o:Oper)(bG:List Oper)(l:List d1)(n:Nat)(K:List d1→Prop) :
  anyE P aQ e5 (row::dv) (o::bG) l n K=stepE P aQ (mask row l (o::bG) e5) n o (b3 (fun r=>anyE P aQ e5 dv bG (l++[(o,n,r)]) (n+r.new.length) K) .mk):=c7 rfl
@[go_sem] theorem asg(row:List bR)(o:Oper)(n:Nat)(r:fW)(l:List d1)(bG:List Oper)(σ:St):mask (.pre::row) ((o,n,r)::l) bG σ=mask row l bG (σ.dM o.dst n r):=rfl
@[go_sem] theorem ash(row:List bR)(o:Oper)(n:Nat)(r:fW)(l:List d1)(bG:List Oper)(σ:St):mask (.dN::row) ((o,n,r)::l) bG σ=mask row l bG ⟨wI σ.tmps o.dst,kilH σ.heap r.upd⟩:=rfl
@[go_sem] theorem asi(row:List bR)(o:Oper)(bG:List Oper)(σ:St):mask (.dN::row) [] (o::bG) σ=mask row [] bG ⟨wI σ.tmps o.dst,σ.heap⟩:=rfl
@[go_sem] theorem asj(row:List bR)(o:Oper)(bG:List Oper)(σ:St):mask (.post::row) [] (o::bG) σ=mask row [] bG σ:=rfl
@[go_sem] theorem asl(l:List d1)(bG:List Oper)(σ:St):mask [] l bG σ=σ:=by cases l<;>cases bG<;>rfl
attribute [go_sem] wI kilH updE allPre F5 seqAp F6 Js okR AA NU List.all_cons List.all_nil eT List.map_nil true_or false_or
theorem fY{f:FuncId}{fn:Func}{c:Code}{kv:List V}{hs:List H}{vs:List V}{K:V→List H→Prop}{n:Nat}(hf:P.funcs[f]?=some fn)(hb:fn.body=some c)(hcall:∀(args:Array Value) (w:World),(callFunc f args).run P w=.ok (.enter f args) w)(hm:P.follows .mixedOrders=true)
  (hn:fn.ntmps=n) {rs:List ResultVar} (hr:fn.results.toList=rs) (h:codeE P kv c ⟨vs++List.replicate (n-vs.length) .al,hs⟩ (b3 (wT P rs (m' K .mk)) .mk) [] (b3 (wT P rs (m' K .mk)) .mk)):d6 P f kv hs vs K:=
 afi hf hb hcall hm (by rw[hn]) hr h
@[go_sem] theorem asm(rs:List ResultVar)(K:V→List H→Prop)(σ:St):wT P rs K σ=rvsE P σ rs (b3 (fun vs=>K (tupV vs) σ.heap) .mk):=c7 rfl
attribute [go_sem] tupV
@[go_sem] theorem asn(as:List AD)(cz:List Nat)(res:List AD):VW (some (as,cz)) res=(as=res∧cz=[]):=by simp[VW]
def J2:List Nat→List (Nat×H)→Bool
 |[],[]=>true
 |i::gl,q::upd=>q.1 == i&&J2 gl upd
 |_,_=>false
@[go_sem] theorem aso:J2 [] []=true:=rfl
@[go_sem] theorem asp(i:Nat)(gl:List Nat)(q:Nat×H)(upd:List (Nat×H)):J2 (i::gl) (q::upd)=(q.1 == i&&J2 gl upd):=rfl
attribute [go_sem] List.any_cons List.any_nil Bool.or_true Bool.true_or Bool.or_false Bool.false_or Nat.reduceBEq BEq.rfl beq_self_eq_true
@[go_sem] theorem asq{α:Type}(a:α)(l m:List α):List.append (a::l) m=a::List.append l m:=rfl
@[go_sem] theorem asr{α:Type}(m:List α):List.append [] m=m:=rfl
variable {P:Program}
section
variable {O4:Type} {enc:TypeId×Value→O4} {w:World} {sp:Nat→Bool} {held:Bool}
end
section
variable {O4:Type} {enc:TypeId×Value→O4} {w:World} {sp:Nat→Bool} {held:Bool}
end
end Gv
