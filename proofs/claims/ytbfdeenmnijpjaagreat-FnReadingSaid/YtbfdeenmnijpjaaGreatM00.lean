/-
  Part of the proof: the machine, what functions compute, and the plain laws.
-/
import Derived.Calls
import Derived.Orders
import Derived.Below
import Derived.Laws.Cells
import Derived.Laws.CopyRow
import Derived.Laws.Strings
import Derived.DeepKeys
import Derived.Laws.StructEq
import Derived.Laws.BytesString
import Derived.Great.BuildSlice
import Derived.Maps.AppendAt
import Derived.Laws.MakeOwn
import Derived.Deep.AppendSrc
namespace Gv
open Go
inductive D where
 |int (k:IntKind) (n:Int)
 |bool (b:Bool)
 |str (s:List UInt8)
 |sl (sz:Nat) (xs:List (List D))
  /-- a ahv value, whatever it is -/
 |xf (u:Value)
def cellAt(h:Array Obj)(b o:Nat):Option Value:=
 match h[b]? with
 |some (.cells c _ _)=>c[o]?
 |_=>none
theorem cell_eq(w:World)(b o:Nat):w.cell? ⟨b,o,none⟩=cellAt w.heap b o:=by
 unfold World.cell? cellAt
 cases w.heap[b]? with
 |none=>rfl
 |some x=>cases x<;>rfl
theorem QJ{h h':Array Obj}{b:Nat}(e:h'[b]?=h[b]?)(o:Nat):cellAt h' b o=cellAt h b o:=by
 unfold cellAt;rw[e]
def mg(h:Array Obj)(b n:Nat):Prop:=∃cs e,h[b]?=some (.cells cs e (0,0))∧n≤cs.size
mutual
def rep(h:Array Obj)(o:Bool):D→Value→List Nat→Prop
 |.int k n,v,F=>v=.int k n∧F=[]∧k.min≤n∧n≤k.max
 |.bool b,v,F=>v=.bool b∧F=[]
 |.str s,v,F=>v=.string ⟨s.toArray⟩∧F=[]∧s.length≤maxLen
 |.xf u,v,F=>v=u∧F=[]∧u.oneCell'=true∧u.cells=#[u]
 |.sl sz xs,v,F=>∃a c,v=.slice a xs.length c∧xs.length≤c∧c≤maxLen∧
   ((xs=[]∧F=[]∧(o=true→c=0))∨
    ∃b f G,a=some ⟨b,f,none⟩∧F=b::G∧b<h.size∧repE h o b f sz xs G∧(o=true→0<c∧mg h b (f+c * sz)))
def repC(h:Array Obj)(o:Bool)(b:Nat):Nat→List D→List Nat→Prop
 |_,[],G=>G=[]
 |f,d::ds,G=>∃v bH bA,G=bH++bA∧cellAt h b f=some v∧rep h o d v bH∧repC h o b (f+1) ds bA
def repE(h:Array Obj)(o:Bool)(b:Nat):Nat→Nat→List (List D)→List Nat→Prop
 |_,_,[],G=>G=[]
 |f,sz,c::cs,G=>∃bH bA,G=bH++bA∧c.length=sz∧repC h o b f c bH∧repE h o b (f+sz) sz cs bA
end
theorem mg.mono{h h':Array Obj}{b n:Nat}(e:h'[b]?=h[b]?)(r:mg h b n):mg h' b n:=by
 obtain⟨cs,t,h1,h2⟩:=r;exact⟨cs,t,by rw[e];exact h1,h2⟩
theorem mg.lt{h:Array Obj}{b n:Nat}(r:mg h b n):b<h.size:=by
 obtain⟨cs,t,h1,_⟩:=r;rcases Nat.lt_or_ge b h.size with h'|h'
 ·exact h'
 ·rw[Array.getElem?_eq_none h']at h1;cases h1
mutual
theorem Cc{h h':Array Obj}{o:Bool}(hs:h.size≤h'.size):∀(d:D) (v:Value) (F:List Nat),(∀b∈F,h'[b]?=h[b]?)→rep h o d v F→rep h' o d v F
 |.int k n,v,F,_,r=>by simpa [rep]using r
 |.bool b,v,F,_,r=>by simpa [rep]using r
 |.str s,v,F,_,r=>by simpa [rep]using r
 |.xf u,v,F,_,r=>by simpa [rep]using r
 |.sl sz xs,v,F,bV,r=>by
  simp only[rep]at r⊢;obtain⟨a,c,h1,h2,ak,aC⟩:=r;refine⟨a,c,h1,h2,ak,?_⟩;rcases aC with aC|⟨b,f,G,ai,aj,aT,bj,cr⟩
  ·exact .inl aC
  ·subst aj;exact .inr ⟨b,f,G,ai,rfl,by omega,wc hs xs b f sz G (bV b (by simp)) (fun g hg=>bV g (by simp[hg])) bj,fun az=>⟨(cr az).1,(cr az).2.mono (bV b (by simp))⟩⟩
theorem F6{h h':Array Obj}{o:Bool}(hs:h.size≤h'.size):∀(ds:List D) (b f:Nat) (G:List Nat),h'[b]?=h[b]?→(∀g∈G,h'[g]?=h[g]?)→repC h o b f ds G→repC h' o b f ds G
 |[],_,_,_,_,_,r=>by simpa [repC]using r
 |d::ds,b,f,G,hb,br,r=>by
  simp only[repC]at r⊢;obtain⟨v,bH,bA,ai,aj,aT,bj⟩:=r;subst ai;exact⟨v,bH,bA,rfl,by rw[QJ hb];exact aj,Cc hs d v bH (fun g hg=>br g (by simp[hg])) aT,F6 hs ds b (f+1) bA hb (fun g hg=>br g (by simp[hg])) bj⟩
theorem wc{h h':Array Obj}{o:Bool}(hs:h.size≤h'.size):∀(cs:List (List D)) (b f sz:Nat) (G:List Nat),h'[b]?=h[b]?→(∀g∈G,h'[g]?=h[g]?)→repE h o b f sz cs G→repE h' o b f sz cs G
 |[],_,_,_,_,_,_,r=>by simpa [repE]using r
 |c::cs,b,f,sz,G,hb,br,r=>by
  simp only[repE]at r⊢;obtain⟨bH,bA,ai,aj,aT,bj⟩:=r;subst ai;exact⟨bH,bA,rfl,aj,F6 hs c b f bH hb (fun g hg=>br g (by simp[hg])) aT,wc hs cs b (f+sz) sz bA hb (fun g hg=>br g (by simp[hg])) bj⟩
end
mutual
theorem QK{h:Array Obj}{o:Bool}:∀(d:D) (v:Value) (F:List Nat),rep h o d v F→∀b∈F,b<h.size
 |.int k n,v,F,r=>by simp only[rep]at r;simp[r.2.1]
 |.bool b,v,F,r=>by simp only[rep]at r;simp[r.2]
 |.str s,v,F,r=>by simp only[rep]at r;simp[r.2.1]
 |.xf u,v,F,r=>by simp only[rep]at r;simp[r.2.1]
 |.sl sz xs,v,F,r=>by
  simp only[rep]at r;obtain⟨a,c,h1,h2,ak,aC⟩:=r;rcases aC with aC|⟨b,f,G,ai,aj,aT,bj,cr⟩
  ·simp[aC.2.1]
  ·subst aj;intro g hg;rcases List.mem_cons.1 hg with rfl|hg
   ·exact aT
   ·exact xG xs b f sz G bj g hg
theorem Kr{h:Array Obj}{o:Bool}:∀(ds:List D) (b f:Nat) (G:List Nat),repC h o b f ds G→∀g∈G,g<h.size
 |[],_,_,_,r=>by simp only[repC]at r;simp[r]
 |d::ds,b,f,G,r=>by
  simp only[repC]at r;obtain⟨v,bH,bA,ai,aj,aT,bj⟩:=r;subst ai;intro g hg;rcases List.mem_append.1 hg with hg|hg
  ·exact QK d v bH aT g hg
  ·exact Kr ds b (f+1) bA bj g hg
theorem xG{h:Array Obj}{o:Bool}:∀(cs:List (List D)) (b f sz:Nat) (G:List Nat),repE h o b f sz cs G→∀g∈G,g<h.size
 |[],_,_,_,_,r=>by simp only[repE]at r;simp[r]
 |c::cs,b,f,sz,G,r=>by
  simp only[repE]at r;obtain⟨bH,bA,ai,aj,aT,bj⟩:=r;subst ai;intro g hg;rcases List.mem_append.1 hg with hg|hg
  ·exact Kr c b f bH aT g hg
  ·exact xG cs b (f+sz) sz bA bj g hg
end
mutual
theorem Qd{h:Array Obj}:∀(d:D) (v:Value) (F:List Nat),rep h true d v F→rep h false d v F
 |.int k n,v,F,r=>by simpa [rep]using r
 |.bool b,v,F,r=>by simpa [rep]using r
 |.str s,v,F,r=>by simpa [rep]using r
 |.xf u,v,F,r=>by simpa [rep]using r
 |.sl sz xs,v,F,r=>by
  simp only[rep]at r⊢;obtain⟨a,c,h1,h2,ak,aC⟩:=r;refine⟨a,c,h1,h2,ak,?_⟩;rcases aC with aC|⟨b,f,G,ai,aj,aT,bj,cr⟩
  ·exact .inl ⟨aC.1,aC.2.1,fun e=>by cases e⟩
  ·exact .inr ⟨b,f,G,ai,aj,aT,C4 xs b f sz G bj,fun e=>by cases e⟩
theorem Ks{h:Array Obj}:∀(ds:List D) (b f:Nat) (G:List Nat),repC h true b f ds G→repC h false b f ds G
 |[],_,_,_,r=>by simpa [repC]using r
 |d::ds,b,f,G,r=>by
  simp only[repC]at r⊢;obtain⟨v,bH,bA,ai,aj,aT,bj⟩:=r;exact⟨v,bH,bA,ai,aj,Qd d v bH aT,Ks ds b (f+1) bA bj⟩
theorem C4{h:Array Obj}:∀(cs:List (List D)) (b f sz:Nat) (G:List Nat),repE h true b f sz cs G→repE h false b f sz cs G
 |[],_,_,_,_,r=>by simpa [repE]using r
 |c::cs,b,f,sz,G,r=>by
  simp only[repE]at r⊢;obtain⟨bH,bA,ai,aj,aT,bj⟩:=r;exact⟨bH,bA,ai,aj,Ks c b f bH aT,C4 cs b (f+sz) sz bA bj⟩
end
theorem zb{h:Array Obj}{o:Bool}{b:Nat}:∀(ds A5:List D) (f:Nat) (G:List Nat),repC h o b f (ds++A5) G↔∃bH bA,G=bH++bA∧repC h o b f ds bH∧repC h o b (f+ds.length) A5 bA
 |[],A5,f,G=>by
  simp only[List.nil_append,repC,List.length_nil,Nat.add_zero];exact⟨fun r=>⟨[],G,rfl,rfl,r⟩,fun⟨bH,bA,e,ai,r⟩=>by subst ai;rw[e];exact r⟩
 |d::ds,A5,f,G=>by
  simp only[List.cons_append,repC,List.length_cons];constructor
  ·rintro⟨v,bH,bA,rfl,aj,aT,bj⟩;obtain⟨s7,s8,rfl,k1,k2⟩:=(zb ds A5 (f+1) bA).1 bj;exact⟨bH++s7,s8,by simp,⟨v,bH,s7,rfl,aj,aT,k1⟩,by rw[show f+(ds.length+1)=f+1+ds.length from by omega];exact k2⟩
  ·rintro⟨bH,bA,rfl,⟨v,s7,s8,rfl,aj,aT,bj⟩,k⟩;refine⟨v,s7,s8++bA,by simp,aj,aT,(zb ds A5 (f+1) _).2 ⟨s8,bA,rfl,bj,?_⟩⟩;rw[show f+1+ds.length=f+(ds.length+1)from by omega];exact k
theorem repE_append{h:Array Obj}{o:Bool}{b sz:Nat}:∀(cs ds:List (List D)) (f:Nat) (G:List Nat),repE h o b f sz (cs++ds) G↔∃bH bA,G=bH++bA∧repE h o b f sz cs bH∧repE h o b (f+cs.length * sz) sz ds bA
 |[],ds,f,G=>by
  simp only[List.nil_append,repE,List.length_nil,Nat.zero_mul,Nat.add_zero];exact⟨fun r=>⟨[],G,rfl,rfl,r⟩,fun⟨bH,bA,e,ai,r⟩=>by subst ai;rw[e];exact r⟩
 |c::cs,ds,f,G=>by
  simp only[List.cons_append,repE,List.length_cons];have hf:f+sz+cs.length * sz=f+(cs.length+1) * sz:=by rw[Nat.add_mul];omega
  constructor
  ·rintro⟨bH,bA,rfl,aj,aT,bj⟩;obtain⟨s7,s8,rfl,k1,k2⟩:=(repE_append cs ds (f+sz) bA).1 bj;exact⟨bH++s7,s8,by simp,⟨bH,s7,rfl,aj,aT,k1⟩,by rw[←hf];exact k2⟩
  ·rintro⟨bH,bA,rfl,⟨s7,s8,rfl,aj,aT,bj⟩,k⟩;exact⟨s7,s8++bA,by simp,aj,aT,(repE_append cs ds (f+sz) _).2 ⟨s8,bA,rfl,bj,by rw[hf];exact k⟩⟩
theorem C0{h:Array Obj}{o:Bool}{b sz:Nat}{cs:List (List D)}{f:Nat}{G:List Nat}(r:repE h o b f sz cs G){i:Nat}{c:List D}(hi:cs[i]?=some c) :
  ∃bH mi bA,G=bH++(mi++bA)∧c.length=sz∧repE h o b f sz (cs.take i) bH∧repC h o b (f+i * sz) c mi∧repE h o b (f+(i+1) * sz) sz (cs.drop (i+1)) bA:=by
 have hlt:i<cs.length:=(List.getElem?_eq_some_iff.1 hi).1;have hc:cs[i]=c:=(List.getElem?_eq_some_iff.1 hi).2;have e:cs=cs.take i++(c::cs.drop (i+1)):=by
  rw[←hc,List.getElem_cons_drop,List.take_append_drop]
 rw[e]at r;obtain⟨bH,bA,rfl,aH,aZ⟩:=(repE_append _ _ _ _).1 r;simp only[repE]at aZ;obtain⟨s7,s8,rfl,aj,aT,bj⟩:=aZ;have hl:(cs.take i).length=i:=by simp;omega
 rw[hl]at aT bj;refine⟨bH,s7,s8,rfl,aj,aH,aT,?_⟩;rw[Nat.add_mul,Nat.one_mul,←Nat.add_assoc];exact bj
theorem JY{h:Array Obj}{o:Bool}{b:Nat}:∀(ds:List D) (f:Nat) (G:List Nat),repC h o b f ds G→∃us:List Value,us.length=ds.length∧(∀(j:Nat) (u:Value),us[j]?=some u→cellAt h b (f+j)=some u)∧
  (∀(j:Nat) (d:D) (u:Value),ds[j]?=some d→us[j]?=some u→∃AN,(∀g∈AN,g∈G)∧rep h o d u AN)
 |[],f,G,r=>⟨[],rfl,by simp,by simp⟩
 |d::ds,f,G,r=>by
  simp only[repC]at r;obtain⟨v,bH,bA,rfl,aj,aT,bj⟩:=r;obtain⟨us,h1,h2,ak⟩:=JY ds (f+1) bA bj;refine⟨v::us,by simp[h1],?_,?_⟩
  ·intro j u av
   cases j with
   |zero=>simp at av;subst av;simpa using aj
   |succ j=>
    have:=h2 j u (by simpa using av);rw[show f+(j+1)=f+1+j from by omega];exact this
  ·intro j YE u hd hu
   cases j with
   |zero=>simp at hd hu;subst hd;subst hu;exact⟨bH,fun g hg=>by simp[hg],aT⟩
   |succ j=>
    obtain⟨AN,k1,k2⟩:=ak j YE u (by simpa using hd) (by simpa using hu);exact⟨AN,fun g hg=>by simp[k1 g hg],k2⟩
theorem JZ{h:Array Obj}{o:Bool}{d:D}{v:Value}{F:List Nat}(r:rep h o d v F):v.oneCell'=true:=by
 cases d<;>simp only[rep]at r
 ·rw[r.1];rfl
 ·rw[r.1];rfl
 ·rw[r.1];rfl
 ·obtain⟨a,c,h1,_⟩:=r;rw[h1];rfl
 ·rw[r.1];exact r.2.2.1
def D.flat:D→Bool
 |.sl _ _=>false
 |_=>true
def fv(xs:List (List D)):Bool:=xs.all fun c=>c.all D.flat
def D.plain:D→Bool
 |.sl _ _=>false
 |.xf _=>false
 |_=>true
theorem CS{h:Array Obj}{o:Bool}{d:D}{v:Value}{F:List Nat}(hf:d.flat=true)(r:rep h o d v F):F=[]:=by
 cases d<;>simp only[rep]at r
 ·exact r.2.1
 ·exact r.2
 ·exact r.2.1
 ·simp[D.flat]at hf
 ·exact r.2.1
theorem FV{h h':Array Obj}{o xt:Bool}{d:D}{v:Value}{F:List Nat}(hf:d.flat=true)(r:rep h o d v F):rep h' xt d v F:=by
 cases d<;>simp only[rep]at r⊢
 ·exact r
 ·exact r
 ·exact r
 ·simp[D.flat]at hf
 ·exact r
theorem Kt{h:Array Obj}{o:Bool}{b:Nat}:∀(ds:List D) (f:Nat) (G:List Nat),ds.all D.flat=true→repC h o b f ds G→G=[]
 |[],_,_,_,r=>by simpa [repC]using r
 |d::ds,f,G,hf,r=>by
  simp only[repC]at r;obtain⟨v,bH,bA,rfl,aj,aT,bj⟩:=r;simp only[List.all_cons,Bool.and_eq_true]at hf;rw[CS hf.1 aT,Kt ds (f+1) bA hf.2 bj];rfl
theorem Cj{h:Array Obj}{o:Bool}{b:Nat}:∀(cs:List (List D)) (f sz:Nat) (G:List Nat),fv cs=true→repE h o b f sz cs G→G=[]
 |[],_,_,_,_,r=>by simpa [repE]using r
 |c::cs,f,sz,G,hf,r=>by
  simp only[repE]at r;obtain⟨bH,bA,rfl,aj,aT,bj⟩:=r;simp only[fv,List.all_cons,Bool.and_eq_true]at hf;rw[Kt c f bH hf.1 aT,Cj cs (f+sz) sz bA hf.2 bj];rfl
theorem QL{h:Array Obj}{o:Bool}{b:Nat}:∀(ds:List D) (f:Nat) (G:List Nat),ds.all D.flat=true→repC h o b f ds G→repC h true b f ds []
 |[],_,_,_,r=>by simp[repC]
 |d::ds,f,G,hf,r=>by
  simp only[repC]at r⊢;obtain⟨v,bH,bA,rfl,aj,aT,bj⟩:=r;simp only[List.all_cons,Bool.and_eq_true]at hf;have h1:=CS hf.1 aT;subst h1;exact⟨v,[],[],rfl,aj,FV hf.1 aT,QL ds (f+1) bA hf.2 bj⟩
theorem P4{h:Array Obj}{o:Bool}{b:Nat}:∀(cs:List (List D)) (f sz:Nat) (G:List Nat),fv cs=true→repE h o b f sz cs G→repE h true b f sz cs []
 |[],_,_,_,_,r=>by simp[repE]
 |c::cs,f,sz,G,hf,r=>by
  simp only[repE]at r⊢;obtain⟨bH,bA,rfl,aj,aT,bj⟩:=r;simp only[fv,List.all_cons,Bool.and_eq_true]at hf;exact⟨[],[],rfl,aj,QL c f bH hf.1 aT,P4 cs (f+sz) sz bA hf.2 bj⟩
theorem F7{h h':Array Obj}{o:Bool}{b c8:Nat}:∀(ds:List D) (f iD:Nat) (G:List Nat),h.size≤h'.size→(∀g∈G,h'[g]?=h[g]?)→(∀j,j<ds.length→cellAt h' c8 (iD+j)=cellAt h b (f+j))→
  repC h o b f ds G→repC h' o c8 iD ds G
 |[],_,_,_,_,_,_,r=>by simpa [repC]using r
 |d::ds,f,iD,G,hs,br,hc,r=>by
  simp only[repC]at r⊢;obtain⟨v,bH,bA,rfl,aj,aT,bj⟩:=r;refine⟨v,bH,bA,rfl,?_,Cc hs d v bH (fun g hg=>br g (by simp[hg])) aT,F7 ds (f+1) (iD+1) bA hs (fun g hg=>br g (by simp[hg])) ?_ bj⟩
  ·have:=hc 0 (by simp);simpa [aj]using this
  ·intro j av;have:=hc (j+1) (by simp;omega);rw[show iD+1+j=iD+(j+1)from by omega,show f+1+j=f+(j+1)from by omega];exact this
theorem tU{h h':Array Obj}{o:Bool}{b c8:Nat}:∀(cs:List (List D)) (f iD sz:Nat) (G:List Nat),h.size≤h'.size→(∀g∈G,h'[g]?=h[g]?)→(∀j,j<cs.length * sz→cellAt h' c8 (iD+j)=cellAt h b (f+j))→
  repE h o b f sz cs G→repE h' o c8 iD sz cs G
 |[],_,_,_,_,_,_,_,r=>by simpa [repE]using r
 |c::cs,f,iD,sz,G,hs,br,hc,r=>by
  simp only[repE]at r⊢;obtain⟨bH,bA,rfl,aj,aT,bj⟩:=r;have hm:(c::cs).length * sz=sz+cs.length * sz:=by rw[List.length_cons,Nat.add_mul];omega
  refine⟨bH,bA,rfl,aj,F7 c f iD bH hs (fun g hg=>br g (by simp[hg])) (fun j av=>hc j (by omega)) aT,tU cs (f+sz) (iD+sz) sz bA hs (fun g hg=>br g (by simp[hg])) ?_ bj⟩;intro j av;have:=hc (sz+j) (by omega);rw[show iD+sz+j=iD+(sz+j)from by omega,show f+sz+j=f+(sz+j)from by omega];exact this
def t1:List (Nat×List D):=[]
theorem YF:∀p∈t1,p.2.all D.flat=true:=by
 have h:t1.all (fun p=>p.2.all D.flat)=true:=rfl;exact List.all_eq_true.1 h
def Ku:List (Nat×(Array Value→Prop)):=[]
theorem YG:∀q∈Ku,∃p∈t1,p.1=q.1:=by
 have h:Ku.all (fun q=>t1.any (fun p=>p.1 == q.1))=true:=rfl;intro q hq;have h2:=List.all_eq_true.1 h q hq;obtain⟨p,hp,e⟩:=List.any_eq_true.1 h2;exact⟨p,hp,by simpa using e⟩
def Ao(h:Array Obj):Prop:=∀q∈Ku,∃cs e bT,h[q.1]?=some (.cells cs e bT)∧q.2 cs
theorem Ao.mono{h h':Array Obj}(g:Ao h)(hb:∀p∈t1,h'[p.1]?=h[p.1]?):Ao h':=fun q hq=>by
 obtain⟨p,hp,e⟩:=YG q hq;obtain⟨cs,t,bT,h1,h2⟩:=g q hq;exact⟨cs,t,bT,by rw[←e,hb p hp,e];exact h1,h2⟩
def GOk(h:Array Obj):Prop:=(∀p∈t1,p.1<h.size∧repC h false p.1 0 p.2 [])∧Ao h
theorem GOk.mono{h h':Array Obj}(g:GOk h)(hs:h.size≤h'.size)(hb:∀p∈t1,h'[p.1]?=h[p.1]?):GOk h':=⟨fun p hp=>by
 obtain⟨h1,h2⟩:=g.1 p hp;exact⟨Nat.lt_of_lt_of_le h1 hs,F6 hs p.2 p.1 0 [] (hb p hp) (by simp) h2⟩,g.2.mono hb⟩
inductive V where
 |ab
 |d (x:D)
 |c6 (sz:Nat)
 |agg (vs:List V)
 |ptr (id bG off:Nat)
 |ep (cells:List D) (off:Nat)
 |sl (id off len:Nat)
 |fn (f:FuncId) (d8:List V)
 |dB (vs:List V)
 |bm (c:Bool) (v:V)
inductive H where
 |c1
 |box (cells:List V)
 |ao (sz:Nat) (xs:List (List D)) (iN:Bool)
 |g1 (sz:Nat) (xs:List (List D))
  /-- owned whole, and nobody akF into it -/
 |ag (sz:Nat) (xs:List (List D))
  /-- such a one, of which one element is open: its slices are entries of their own -/
 |fR (sz:Nat) (pre:List (List D)) (cells:List V) (post:List (List D))
def H.me:H→Bool
 |.box _=>true
 |.ao _ _ _=>true
 |.ag _ _=>true
 |.fR _ _ _ _=>true
 |_=>false
def H.own:H→Bool
 |.ao _ _ true=>true
 |.ag _ _=>true
 |.fR _ _ _ _=>true
 |_=>false
def H.shut:H→Bool
 |.ag _ _=>true
 |.fR _ _ _ _=>true
 |_=>false
theorem H.KD{x:H}(h:x.own=true):x.me=true:=by
 cases x<;>first|rfl|(rename_i iN;cases iN<;>first|rfl|cases h)|cases h
theorem H.Ga{x:H}(h:x.shut=true):x.own=true:=by
 cases x<;>first|rfl|cases h
structure fU where
 dP:Option Nat
 off:Nat
 cap:Nat
 sz:Nat
 cS:List Nat
abbrev b2:=Nat→Option fU
def aN(hs:List H)(i:Nat):H:=hs.getD i .c1
def jH(x:H)(β:fU)(b:Nat):Prop:=(x.me=true∧β.dP=some b)∨(x.shut=true∧b∈β.cS)
def b8(φ:b2)(hs:List H)(b:Nat):Prop:=∀i β,φ i=some β→¬jH (aN hs i) β b
mutual
def VRel(φ:b2)(T:Nat→Prop)(h:Array Obj):V→Value→Prop
 |.ab,_=>True
 |.d x,u=>∃F,rep h false x u F∧∀b∈F,T b
 |.c6 _,u=>u=.slice none 0 0
 |.agg vs,u=>∃us:Array Value,u=.agg us∧VRels φ T h vs us.toList
 |.ptr id bG off,u=>∃β b,φ id=some β∧β.dP=some b∧u=.pointer (some ⟨b,β.off+bG * β.sz+off,none⟩)
 |.ep cells off,u=>∃b f G,u=.pointer (some ⟨b,f+off,none⟩)∧b<h.size∧T b∧repC h false b f cells G∧∀g∈G,T g
 |.sl id off len,u=>∃β a c,φ id=some β∧u=.slice a len c∧c≤maxLen∧((c=0∧len=0∧off=β.cap)∨∃b,β.dP=some b∧a=some ⟨b,β.off+off * β.sz,none⟩∧len≤c∧off+c=β.cap)
 |.fn f d8,u=>∃us:Array Value,u=.func (.func f) #[] us∧VRels φ T h d8 us.toList
 |.dB vs,u=>∃us:Array Value,u=.tuple us∧VRels φ T h vs us.toList
 |.bm c v,u=>(c=true→VRel φ T h v u)∧(c=false→u=undef)
def VRels(φ:b2)(T:Nat→Prop)(h:Array Obj):List V→List Value→Prop
 |[],us=>us=[]
 |v::vs,us=>∃u bY,us=u::bY∧VRel φ T h v u∧VRels φ T h vs bY
end
def dG(φ:b2)(T:Nat→Prop)(h:Array Obj)(β:fU):H→Prop
 |.c1=>True
 |.box cells=>∃b cs e,β.dP=some b∧β.off=0∧h[b]?=some (.cells cs e (0,0))∧VRels φ T h cells cs.toList
 |.ao sz xs iN=>β.sz=sz∧((β.dP=none∧xs=[]∧β.cap=0∧β.cS=[])∨
   ∃b G,β.dP=some b∧xs.length≤β.cap∧mg h b (β.off+β.cap * sz)∧repE h iN b β.off sz xs G∧(iN=true→G=β.cS)∧(iN=false→∀g∈G,T g))
 |.g1 sz xs=>β.sz=sz∧(xs=[]∨∃b G,β.dP=some b∧T b∧b<h.size∧repE h false b β.off sz xs G∧∀g∈G,T g)
 |.ag sz xs=>β.sz=sz∧((β.dP=none∧xs=[]∧β.cap=0∧β.cS=[])∨
   ∃b,β.dP=some b∧xs.length≤β.cap∧mg h b (β.off+β.cap * sz)∧repE h true b β.off sz xs β.cS)
 |.fR sz pre cells post=>β.sz=sz∧cells.length=sz∧∃b bH bA us,β.dP=some b∧pre.length+1+post.length≤β.cap∧mg h b (β.off+β.cap * sz)∧β.cS=bH++bA∧
   repE h true b β.off sz pre bH∧VRels φ T h cells us∧(∀(j:Nat) (u:Value),us[j]?=some u→cellAt h b (β.off+pre.length * sz+j)=some u)∧repE h true b (β.off+(pre.length+1) * sz) sz post bA
def cN(φ:b2)(hs:List H)(i b:Nat):Prop:=
 ∃β,φ i=some β∧(((aN hs i).me=true∧β.dP=some b)∨((aN hs i).own=true∧b∈β.cS))
theorem jH.wa{φ:b2}{hs:List H}{i:Nat}{β:fU}{b:Nat}(e:φ i=some β)(h:jH (aN hs i) β b):cN φ hs i b:=
 ⟨β,e,h.imp id fun h=>⟨H.Ga h.1,h.2⟩⟩
structure Bel(n9:Nat→Prop)(w w':World):Prop where
 os:w'.os=w.os
 tape:w'.tape=w.tape
 output:w'.output=w.output
 size:w.heap.size≤w'.heap.size
 block:∀k,¬n9 k→w'.heap[k]?=w.heap[k]?
 room:∀b n,mg w.heap b n→mg w'.heap b n
theorem Bel.refl(n9:Nat→Prop)(w:World):Bel n9 w w:=⟨rfl,rfl,rfl,Nat.le_refl _,fun _ _=>rfl,fun _ _ h=>h⟩
theorem Bel.trans{n9:Nat→Prop}{a b c:World}(h:Bel n9 a b)(k:Bel n9 b c):Bel n9 a c:=
 ⟨k.os.trans h.os,k.tape.trans h.tape,k.output.trans h.output,Nat.le_trans h.size k.size,fun i hi=>(k.block i hi).trans (h.block i hi),fun b n r=>k.room b n (h.room b n r)⟩
theorem Bel.mono{n9 QZ:Nat→Prop}{w w':World}(h:Bel n9 w w')(wi:∀k,n9 k→QZ k):Bel QZ w w':=
 ⟨h.os,h.tape,h.output,h.size,fun k hk=>h.block k fun e=>hk (wi k e),h.room⟩
theorem Bel.drew{n9:Nat→Prop}{a w:World}(h:Bel n9 a w):Bel n9 a w.drew:=⟨h.os,h.tape,h.output,h.size,h.block,h.room⟩
structure St where
 tmps:List V
 heap:List H
def Q0:List (V×Value):=t1.map fun p=>(.ep p.2 0,.pointer (some ⟨p.1,0,none⟩))
structure R(B:Nat→Prop)(w0:World)(aG:Nat→Prop)(φ:b2)(σ:St)(kp:List (V×Value))(a:Act)(w:World):Prop where
 gB:VRels φ (b8 φ σ.heap) w.heap σ.tmps a.tmps.toList
 kp:∀p∈Q0++kp,VRel φ (b8 φ σ.heap) w.heap p.1 p.2
 hp:∀i,aN σ.heap i=.c1∨∃β,φ i=some β∧dG φ (b8 φ σ.heap) w.heap β (aN σ.heap i)
 dy:∀i j b,cN φ σ.heap i b→cN φ σ.heap j b→i=j
 d_:∀i β,φ i=some β→(aN σ.heap i).own=true→β.cS.Nodup∧∀b,β.dP=some b→b∉β.cS
 ej:∀i b,cN φ σ.heap i b→B b
 f1:∀i β,φ i=some β→aG i
 fg:Bel B w0 w
 bs:∀k,w.heap.size≤k→B k
 l8:a.defers=[]
 jS:(∀p∈t1,¬B p.1)∧Ao w0.heap
section
variable {φ:b2} {T:Nat→Prop} {h:Array Obj}
theorem i6:∀(vs:List V) (us:List Value),VRels φ T h vs us→us.length=vs.length
 |[],us,r=>by simp only[VRels]at r;rw[r];rfl
 |v::vs,us,r=>by
  simp only[VRels]at r;obtain⟨u,bY,rfl,_,aZ⟩:=r;simp[i6 vs bY aZ]
theorem t0:∀(vs:List V) (us:List Value),VRels φ T h vs us→∀(t:Nat) (v:V),vs[t]?=some v→∃u,us[t]?=some u∧VRel φ T h v u
 |[],_,_,t,v,e=>by simp at e
 |v::vs,us,r,t,eO,e=>by
  simp only[VRels]at r;obtain⟨u,bY,rfl,aH,aZ⟩:=r
  cases t with
  |zero=>simp at e;subst e;exact⟨u,by simp,aH⟩
  |succ t=>exact t0 vs bY aZ t eO (by simpa using e)
theorem xB:∀(vs:List V) (us:List Value),us.length=vs.length→(∀(t:Nat) (v:V) (u:Value),vs[t]?=some v→us[t]?=some u→VRel φ T h v u)→VRels φ T h vs us
 |[],us,e,_=>by simp only[VRels];exact List.eq_nil_of_length_eq_zero (by simpa using e)
 |v::vs,us,e,r=>by
  cases us with
  |nil=>simp at e
  |cons u us=>
   simp only[VRels];exact⟨u,us,rfl,r 0 v u rfl rfl,xB vs us (by simpa using e) fun t eO uZ hv hu=>r (t+1) eO uZ (by simpa using hv) (by simpa using hu)⟩
theorem YT{vs:List V}{us:List Value}(r:VRels φ T h vs us){v:V}{u:Value}(hv:VRel φ T h v u)(t:Nat):VRels φ T h (vs.set t v) (us.set t u):=by
 refine xB _ _ (by simp[i6 _ _ r]) fun i eO uZ ai aj=>?_;rw[List.getElem?_set]at ai aj;by_cases hi:t=i
 ·subst hi;simp only[if_true]at ai aj;split at ai
  ·split at aj
   ·cases ai;cases aj;exact hv
   ·cases aj
  ·cases ai
 ·simp only[hi,if_false]at ai aj;obtain⟨akG,k1,k2⟩:=t0 _ _ r i eO ai;rw[k1]at aj;cases aj;exact k2
theorem A3{vs vs':List V}{us bY:List Value}(r:VRels φ T h vs us)(c3:VRels φ T h vs' bY):VRels φ T h (vs++vs') (us++bY):=by
 induction vs generalizing us with
 |nil=>simp only[VRels]at r;subst r;simpa using c3
 |cons v vs dx=>
  simp only[VRels]at r;obtain⟨u,YU,rfl,aH,aZ⟩:=r;simp only[List.cons_append,VRels];exact⟨u,YU++bY,rfl,aH,dx aZ⟩
theorem Q1{vs:List V}{us:List Value}(r:VRels φ T h vs us)(n:Nat):VRels φ T h (vs.take n) (us.take n):=by
 refine xB _ _ (by simp[i6 _ _ r]) fun i v u ai aj=>?_;rw[List.getElem?_take]at ai aj;split at ai
 ·rename_i hi;rw[if_pos hi]at aj;obtain⟨uZ,k1,k2⟩:=t0 _ _ r i v ai;rw[k1]at aj;cases aj;exact k2
 ·cases ai
theorem Q2{vs:List V}{us:List Value}(r:VRels φ T h vs us)(n:Nat):VRels φ T h (vs.drop n) (us.drop n):=by
 refine xB _ _ (by simp[i6 _ _ r]) fun i v u ai aj=>?_;rw[List.getElem?_drop]at ai aj;obtain⟨uZ,k1,k2⟩:=t0 _ _ r (n+i) v ai;rw[k1]at aj;cases aj;exact k2
theorem KE{v:V}{u:Value}(r:VRel φ T h v u)(n:Nat):VRels φ T h (List.replicate n v) (List.replicate n u):=by
 induction n with
 |zero=>simp[VRels]
 |succ n dx=>simp only[List.replicate_succ,VRels];exact⟨u,_,rfl,r,dx⟩
end
def l7(φ cu:b2):Prop:=∀i β,φ i=some β→∃a7,cu i=some a7∧a7.dP=β.dP∧a7.off=β.off∧a7.cap=β.cap∧a7.sz=β.sz
theorem l7.refl(φ:b2):l7 φ φ:=fun _ β e=>⟨β,e,rfl,rfl,rfl,rfl⟩
structure Am(φ cu:b2)(T fN:Nat→Prop)(h h':Array Obj):Prop where
 AS:l7 φ cu
 cw:∀b,b<h.size→T b→fN b
 cU:∀b,b<h.size→T b→h'[b]?=h[b]?
 hs:h.size≤h'.size
section
variable {φ cu:b2} {T fN:Nat→Prop} {h h':Array Obj}
mutual
theorem Ch(K:Am φ cu T fN h h'):∀(v:V) (u:Value),VRel φ T h v u→VRel cu fN h' v u
 |.ab,_,_=>by simp[VRel]
 |.d x,u,r=>by
  simp only[VRel]at r⊢;obtain⟨F,aH,aZ⟩:=r;have hl:=QK x u F aH;exact⟨F,Cc K.hs x u F (fun b hb=>K.cU b (hl b hb) (aZ b hb)) aH,fun b hb=>K.cw b (hl b hb) (aZ b hb)⟩
 |.c6 _,_,r=>by simpa [VRel]using r
 |.agg vs,u,r=>by
  simp only[VRel]at r⊢;obtain⟨us,aH,aZ⟩:=r;exact⟨us,aH,sN K vs us.toList aZ⟩
 |.ptr id bG off,u,r=>by
  simp only[VRel]at r⊢;obtain⟨β,b,aH,aZ,ca⟩:=r;obtain⟨a7,k1,k2,dw,gj,xw⟩:=K.AS id β aH;exact⟨a7,b,k1,by rw[k2];exact aZ,by rw[dw,xw];exact ca⟩
 |.ep cells off,u,r=>by
  simp only[VRel]at r⊢;obtain⟨b,f,G,aH,aZ,ca,cf,eh⟩:=r;have hl:=Kr cells b f G cf;exact⟨b,f,G,aH,Nat.lt_of_lt_of_le aZ K.hs,K.cw b aZ ca,F6 K.hs cells b f G (K.cU b aZ ca) (fun g hg=>K.cU g (hl g hg) (eh g hg)) cf,fun g hg=>K.cw g (hl g hg) (eh g hg)⟩
 |.sl id off len,u,r=>by
  simp only[VRel]at r⊢;obtain⟨β,a,c,aH,aZ,ca,cf⟩:=r;obtain⟨a7,k1,k2,dw,gj,xw⟩:=K.AS id β aH;refine⟨a7,a,c,k1,aZ,ca,?_⟩;rcases cf with cf|⟨b,cf,eh,gJ,u1⟩
  ·exact .inl ⟨cf.1,cf.2.1,by rw[gj];exact cf.2.2⟩
  ·exact .inr ⟨b,by rw[k2];exact cf,by rw[dw,xw];exact eh,gJ,by rw[gj];exact u1⟩
 |.fn f d8,u,r=>by
  simp only[VRel]at r⊢;obtain⟨us,aH,aZ⟩:=r;exact⟨us,aH,sN K d8 us.toList aZ⟩
 |.dB vs,u,r=>by
  simp only[VRel]at r⊢;obtain⟨us,aH,aZ⟩:=r;exact⟨us,aH,sN K vs us.toList aZ⟩
 |.bm c v,u,r=>by
  simp only[VRel]at r⊢;exact⟨fun e=>Ch K v u (r.1 e),r.2⟩
theorem sN(K:Am φ cu T fN h h'):∀(vs:List V) (us:List Value),VRels φ T h vs us→VRels cu fN h' vs us
 |[],us,r=>by simpa [VRels]using r
 |v::vs,us,r=>by
  simp only[VRels]at r⊢;obtain⟨u,bY,aH,aZ,ca⟩:=r;exact⟨u,bY,aH,Ch K v u aZ,sN K vs bY ca⟩
end
theorem Jk(K:Am φ cu T fN h h'){β:fU}{x:H}(r:dG φ T h β x)(hb:∀b,x.me=true→β.dP=some b→h'[b]?=h[b]?)(hn:∀b,x.own=true→b∈β.cS→h'[b]?=h[b]?):dG cu fN h' β x:=by
 cases x with
 |c1=>trivial
 |box cells=>
  simp only[dG]at r⊢;obtain⟨b,cs,e,aH,aZ,ca,cf⟩:=r;exact⟨b,cs,e,aH,aZ,by rw[hb b rfl aH];exact ca,sN K cells cs.toList cf⟩
 |ao sz xs iN=>
  simp only[dG]at r⊢;obtain⟨e,r⟩:=r;refine⟨e,?_⟩;rcases r with r|⟨b,G,aH,aZ,ca,cf,eh,gJ⟩
  ·exact .inl r
  ·have hl:=xG xs b β.off sz G cf;refine .inr ⟨b,G,aH,aZ,ca.mono (hb b rfl aH),?_,eh,fun k g hg=>K.cw g (hl g hg) (gJ k g hg)⟩;refine wc K.hs xs b β.off sz G (hb b rfl aH) (fun g hg=>?_) cf
   cases iN with
   |true=>exact hn g rfl (eh rfl▸hg)
   |false=>exact K.cU g (hl g hg) (gJ rfl g hg)
 |g1 sz xs=>
  simp only[dG]at r⊢;obtain⟨e,r⟩:=r;refine⟨e,?_⟩;rcases r with r|⟨b,G,aH,aZ,ca,cf,eh⟩
  ·exact .inl r
  ·have hl:=xG xs b β.off sz G cf;exact .inr ⟨b,G,aH,K.cw b ca aZ,Nat.lt_of_lt_of_le ca K.hs,wc K.hs xs b β.off sz G (K.cU b ca aZ) (fun g hg=>K.cU g (hl g hg) (eh g hg)) cf,fun g hg=>K.cw g (hl g hg) (eh g hg)⟩
 |ag sz xs=>
  simp only[dG]at r⊢;obtain⟨e,r⟩:=r;refine⟨e,?_⟩;rcases r with r|⟨b,aH,aZ,ca,cf⟩
  ·exact .inl r
  ·exact .inr ⟨b,aH,aZ,ca.mono (hb b rfl aH),wc K.hs xs b β.off sz _ (hb b rfl aH) (fun g hg=>hn g rfl hg) cf⟩
 |fR sz pre cells post=>
  simp only[dG]at r⊢;obtain⟨e,hc,b,bH,bA,us,aH,aZ,ca,cf,eh,gJ,u1,xE⟩:=r;refine⟨e,hc,b,bH,bA,us,aH,aZ,ca.mono (hb b rfl aH),cf,?_,sN K cells us gJ,fun j u av=>?_,?_⟩
  ·exact wc K.hs pre b β.off sz bH (hb b rfl aH) (fun g hg=>hn g rfl (by rw[cf];simp[hg])) eh
  ·rw[QJ (hb b rfl aH)];exact u1 j u av
  ·exact wc K.hs post b _ sz bA (hb b rfl aH) (fun g hg=>hn g rfl (by rw[cf];simp[hg])) xE
end
theorem cN.lt{B:Nat→Prop}{w0:World}{aG:Nat→Prop}{φ:b2}{σ:St}{kp:List (V×Value)}{a:Act}{w:World}(r:R B w0 aG φ σ kp a w){i b:Nat}(az:cN φ σ.heap i b):b<w.heap.size:=by
 obtain⟨β,e,az⟩:=az;rcases r.hp i with hd|⟨a7,e',hr⟩
 ·rw[hd]at az;rcases az with ⟨h1,_⟩|⟨h1,_⟩<;>cases h1
 ·rw[e]at e';cases e';rcases az with ⟨h1,h2⟩|⟨h1,h2⟩
  ·cases hx:aN σ.heap i with
   |c1=>rw[hx]at h1;cases h1
   |g1 sz xs=>rw[hx]at h1;cases h1
   |box cells=>
    rw[hx]at hr;simp only[dG]at hr;obtain⟨c8,cs,t,aH,aZ,ca,cf⟩:=hr;rw[h2]at aH;cases aH;exact mg.lt ⟨cs,t,ca,Nat.zero_le _⟩
   |ao sz xs iN=>
    rw[hx]at hr;simp only[dG]at hr;rcases hr.2 with hr|⟨c8,G,aH,aZ,ca,cf,eh,gJ⟩
    ·rw[h2]at hr;cases hr.1
    ·rw[h2]at aH;cases aH;exact ca.lt
   |ag sz xs=>
    rw[hx]at hr;simp only[dG]at hr;rcases hr.2 with hr|⟨c8,aH,aZ,ca,cf⟩
    ·rw[h2]at hr;cases hr.1
    ·rw[h2]at aH;cases aH;exact ca.lt
   |fR sz pre cells post=>
    rw[hx]at hr;simp only[dG]at hr;obtain⟨_,_,c8,bH,bA,us,aH,aZ,ca,cf⟩:=hr;rw[h2]at aH;cases aH;exact ca.lt
  ·cases hx:aN σ.heap i with
   |c1=>rw[hx]at h1;cases h1
   |g1 sz xs=>rw[hx]at h1;cases h1
   |box cells=>rw[hx]at h1;cases h1
   |ao sz xs iN=>
    cases iN with
    |false=>rw[hx]at h1;cases h1
    |true=>
     rw[hx]at hr;simp only[dG]at hr;rcases hr.2 with hr|⟨c8,G,aH,aZ,ca,cf,eh,gJ⟩
     ·rw[hr.2.2.2]at h2;cases h2
     ·exact xG xs c8 β.off sz G cf b ((eh trivial)▸h2)
   |ag sz xs=>
    rw[hx]at hr;simp only[dG]at hr;rcases hr.2 with hr|⟨c8,aH,aZ,ca,cf⟩
    ·rw[hr.2.2.2]at h2;cases h2
    ·exact xG xs c8 β.off sz _ cf b h2
   |fR sz pre cells post=>
    rw[hx]at hr;simp only[dG]at hr;obtain⟨_,_,c8,bH,bA,us,aH,aZ,ca,cf,eh,gJ,u1,xE⟩:=hr;rw[cf]at h2;rcases List.mem_append.1 h2 with h2|h2
    ·exact xG pre c8 β.off sz _ eh b h2
    ·exact xG post c8 _ sz _ xE b h2
theorem Q3{B:Nat→Prop}{w0:World}{aG:Nat→Prop}{φ:b2}{σ:St}{kp:List (V×Value)}{a:Act}{w:World}(r:R B w0 aG φ σ kp a w){i:Nat}{β:fU}(e:φ i=some β)
  (hx:(aN σ.heap i).own=true) (hs:(aN σ.heap i).shut=false) {b:Nat} (hb:b∈β.cS):b8 φ σ.heap b:=by
 intro j a7 e' ht;have:=r.dy i j b ⟨β,e,.inr ⟨hx,hb⟩⟩ (jH.wa e' ht);subst this;rw[e]at e';cases e';rcases ht with ⟨_,he⟩|⟨hl,_⟩
 ·exact(r.d_ i β e hx).2 b he hb
 ·rw[hs]at hl;cases hl
theorem v7{B:Nat→Prop}{w0:World}{aG:Nat→Prop}{φ:b2}{σ:St}{kp:List (V×Value)}{a:Act}{w:World}(r:R B w0 aG φ σ kp a w)
  (S:Nat→Prop) (xv:Nat→Prop) (cu:b2) (hs':List H) (w':World)
  (k1:∀i,¬S i→aN hs' i=aN σ.heap i∧cu i=φ i)
  (k2:l7 φ cu)
  (dw:w.heap.size≤w'.heap.size)
  (gj:∀b,b<w.heap.size→(∀i,S i→∀β,φ i=some β→¬jH (aN σ.heap i) β b)→w'.heap[b]?=w.heap[b]?)
  (xw:∀i,S i→∀b,cN cu hs' i b→w.heap.size≤b∨∃j,S j∧cN φ σ.heap j b)
  (YV:∀i,S i→∀a7,cu i=some a7→∀b,jH (aN hs' i) a7 b→w.heap.size≤b∨∃j β,S j∧φ j=some β∧jH (aN σ.heap j) β b)
  (YW:∀i j b,S i→S j→cN cu hs' i b→cN cu hs' j b→i=j)
  (YX:∀i β,S i→cu i=some β→(aN hs' i).own=true→β.cS.Nodup∧∀b,β.dP=some b→b∉β.cS)
  (YY:∀i,S i→aN hs' i=.c1∨∃β,cu i=some β∧dG cu (b8 cu hs') w'.heap β (aN hs' i))
  (YZ:∀i β,cu i=some β→xv i)
  (Y0:Bel B w0 w') :
  R B w0 xv cu ⟨σ.tmps,hs'⟩ kp a w':=by
 have cw:∀b,b<w.heap.size→b8 φ σ.heap b→b8 cu hs' b:=by
  intro b hb ht i a7 e' he;by_cases hi:S i
  ·rcases YV i hi a7 e' b he with h1|⟨j,β,h1,h2,ak⟩
   ·omega
   ·exact ht j β h2 ak
  ·obtain⟨ai,aj⟩:=k1 i hi;exact ht i a7 (aj▸e') (ai▸he)
 have cU:∀b,b<w.heap.size→b8 φ σ.heap b→w'.heap[b]?=w.heap[b]?:=fun b hb ht=>gj b hb fun i _ β e=>ht i β e;have iE:∀i b,¬S i→cN cu hs' i b→cN φ σ.heap i b:=by
  intro i b hi az;obtain⟨ai,aj⟩:=k1 i hi;unfold cN at az⊢;rw[ai,aj]at az;exact az
 have K:Am φ cu (b8 φ σ.heap) (b8 cu hs') w.heap w'.heap:=⟨k2,cw,cU,dw⟩;refine⟨sN K _ _ r.gB,fun p hp=>Ch K _ _ (r.kp p hp),fun i=>?_,fun i j b hi av=>?_,fun i β e hx=>?_,fun i b az=>?_,YZ,Y0,fun k hk=>r.bs k (Nat.le_trans dw hk),r.l8,r.jS⟩
 ·by_cases hi:S i
  ·exact YY i hi
  ·obtain⟨ai,aj⟩:=k1 i hi;simp only[ai,aj];rcases r.hp i with hd|⟨β,e,hr⟩
   ·exact .inl hd
   ·refine .inr ⟨β,e,Jk K hr (fun b hl hb=>?_) (fun b hx hb=>?_)⟩
    ·refine gj b (cN.lt r ⟨β,e,.inl ⟨hl,hb⟩⟩) fun j av a7 e' kx=>?_;have:=r.dy i j b ⟨β,e,.inl ⟨hl,hb⟩⟩ (jH.wa e' kx);exact hi (this▸av)
    ·refine gj b (cN.lt r ⟨β,e,.inr ⟨hx,hb⟩⟩) fun j av a7 e' kx=>?_;have:=r.dy i j b ⟨β,e,.inr ⟨hx,hb⟩⟩ (jH.wa e' kx);exact hi (this▸av)
 ·by_cases Dg:S i<;>by_cases Dh:S j
  ·exact YW i j b Dg Dh hi av
  ·have h2:=iE j b Dh av;rcases xw i Dg b hi with h1|⟨k,h1,ak⟩
   ·have:=cN.lt r h2;omega
   ·exact absurd (r.dy k j b ak h2▸h1) Dh
  ·have h2:=iE i b Dg hi;rcases xw j Dh b av with h1|⟨k,h1,ak⟩
   ·have:=cN.lt r h2;omega
   ·exact absurd (r.dy k i b ak h2▸h1) Dg
  ·exact r.dy i j b (iE i b Dg hi) (iE j b Dh av)
 ·by_cases hi:S i
  ·exact YX i β hi e hx
  ·obtain⟨ai,aj⟩:=k1 i hi;simp only[ai,aj]at hx e;exact r.d_ i β e hx
 ·by_cases hi:S i
  ·rcases xw i hi b az with h1|⟨j,h1,h2⟩
   ·exact r.bs _ h1
   ·exact r.ej j b h2
  ·exact r.ej i b (iE i b hi az)
theorem k4{B:Nat→Prop}{w0:World}{aG:Nat→Prop}{φ:b2}{σ:St}{kp:List (V×Value)}{a:Act}{w:World}(r:R B w0 aG φ σ kp a w)(dst:Option Tmp){v:V}{u:Value}
  (hv:VRel φ (b8 φ σ.heap) w.heap v u):R B w0 aG φ ⟨match dst with|some t=>σ.tmps.set t v|none=>σ.tmps,σ.heap⟩ kp (a.put dst u) w:=by
 cases dst with
 |none=>exact r
 |some t=>
  refine⟨?_,r.kp,r.hp,r.dy,r.d_,r.ej,r.f1,r.fg,r.bs,r.l8,r.jS⟩;have:=YT r.gB hv t;simpa [Act.put]using this
theorem Y1(hs:List H)(n i:Nat)(x:H)(hn:n<hs.length):aN (hs.set n x) i=if i=n then x else aN hs i:=by
 unfold aN;simp only[List.getD_eq_getElem?_getD,List.getElem?_set];by_cases hi:n=i
 ·subst hi;simp[hn]
 ·have:¬i=n:=fun e=>hi e.symm;simp[hi,this]
theorem PZ{B:Nat→Prop}{w0:World}{aG:Nat→Prop}{φ:b2}{σ:St}{kp:List (V×Value)}{a:Act}{w w':World}(r:R B w0 aG φ σ kp a w)(hh:w'.heap=w.heap)(hb:Bel B w0 w'):R B w0 aG φ σ kp a w':=
 ⟨by rw[hh];exact r.gB,by rw[hh];exact r.kp,by rw[hh];exact r.hp,r.dy,r.d_,r.ej,r.f1,hb,by rw[hh];exact r.bs,r.l8,r.jS⟩
def tyI(P:Program)(T:TypeId):Option (Nat×Bool):=
 match P.info? T,P.underlying T with
 |some i,some d=>some (i.size,match d with|.struct _|.array _ _=>true|_=>false)
 |_,_=>none
def elI(P:Program)(T:TypeId):Option (TypeId×Nat×Nat):=
 match P.underlying T with
 |some (.slice e)=>(P.info? e).map fun i=>(e,i.size,i.bytes)
 |_=>none
def arI(P:Program)(T:TypeId):Option (Nat×Nat):=
 match P.underlying T with
 |some (.array n e)=>(P.info? e).map fun i=>(n,i.size)
 |_=>none
def fdI(P:Program)(S f:Nat):Option Nat:=
 match P.underlying S with
 |some (.struct cp)=>
  match cp[f]? with
  |some u5=>
   match P.info? u5.type with
   |some i=>if i.size=0 then none else some u5.offset
   |none=>none
  |none=>none
 |_=>none
def isStrI(P:Program)(T:TypeId):Bool:=match P.underlying T with|some .string=>true|_=>false
def intI(P:Program)(T:TypeId):Option IntKind:=match P.underlying T with|some (.int k)=>some k|_=>none
def F8(k:IntKind)(n:Int):Bool:=decide (k.min≤n)&&decide (n≤k.max)
def ofVal:Value→V
 |.int k n=>if F8 k n then .d (.int k n)else .ab
 |.bool b=>.d (.bool b)
 |.string s=>if s.data.toList.length≤maxLen then .d (.str s.data.toList)else .ab
 |.slice none 0 0=>.c6 0
 |_=>.ab
theorem Rb{φ:b2}{T:Nat→Prop}{h:Array Obj}(u:Value):VRel φ T h (ofVal u) u:=by
 unfold ofVal;split
 ·split
  ·rename_i k n hk;simp only[F8,Bool.and_eq_true,decide_eq_true_eq]at hk;exact⟨[],⟨rfl,rfl,hk.1,hk.2⟩,by simp⟩
  ·trivial
 ·rename_i b;exact⟨[],⟨rfl,rfl⟩,by simp⟩
 ·split
  ·rename_i s hs;exact⟨[],⟨rfl,rfl,hs⟩,by simp⟩
  ·trivial
 ·simp[VRel]
 ·trivial
def St.ev(σ:St):Operand→V
 |.tmp t=>σ.tmps.getD t .ab
 |.const v=>ofVal v
 |.func f=>.fn f []
 |.global g=>match t1.find? (fun p=>p.1 == g)with|some p=>.ep p.2 0|none=>.ab
section
variable {B:Nat→Prop} {w0:World} {aG:Nat→Prop} {φ:b2} {σ:St} {kp:List (V×Value)} {a:Act} {w:World}
theorem xl(r:R B w0 aG φ σ kp a w)(x:Operand):VRel φ (b8 φ σ.heap) w.heap (σ.ev x) (a.eval x):=by
 cases x with
 |tmp t=>
  simp only[St.ev,Act.eval,List.getD_eq_getElem?_getD]
  cases ht:σ.tmps[t]? with
  |none=>simp[VRel]
  |some v=>
   obtain⟨u,h1,h2⟩:=t0 _ _ r.gB t v ht;rw[Array.getElem?_toList]at h1;simpa [h1]using h2
 |const v=>exact Rb v
 |func f=>simp only[St.ev,Act.eval,VRel];exact⟨#[],rfl,by simp[VRels]⟩
 |global g=>
  simp only[St.ev];split
  ·rename_i p hp;have h1:=List.find?_some hp;have h2:=List.mem_of_find?_eq_some hp;have:=r.kp (.ep p.2 0,.pointer (some ⟨p.1,0,none⟩)) (List.mem_append_left _ (List.mem_map.2 ⟨p,h2,rfl⟩));have e:p.1=g:=by simpa using h1
   rw[e]at this;exact this
  ·simp[VRel]
theorem R.Ke(r:R B w0 aG φ σ kp a w):GOk w.heap:=⟨fun p hp=>by
 have:=r.kp (.ep p.2 0,.pointer (some ⟨p.1,0,none⟩)) (List.mem_append_left _ (List.mem_map.2 ⟨p,hp,rfl⟩));simp only[VRel]at this;obtain⟨b,f,G,e,h1,_,h2,_⟩:=this
 cases e
 have br:=Kt _ _ _ (YF p hp) h2;subst br;exact⟨h1,h2⟩,r.jS.2.mono fun p hp=>r.fg.block p.1 (r.jS.1 p hp)⟩
theorem Y8{φ:b2}{T:Nat→Prop}{h:Array Obj}(g:GOk h)(cw:∀p∈t1,T p.1):∀p∈Q0,VRel φ T h p.1 p.2:=by
 intro p hp;obtain⟨q,hq,rfl⟩:=List.mem_map.1 hp;obtain⟨h1,h2⟩:=g.1 q hq;simp only[VRel];exact⟨q.1,0,[],rfl,h1,cw q hq,h2,by simp⟩
end
structure dS where
 v:V
 new:List H
 upd:List (Nat×H)
def b3(hs:List H)(i:Nat)(x:H):List H:=
 if i<hs.length then hs.set i x else hs++List.replicate (i-hs.length) .c1++[x]
theorem gS(hs:List H)(i:Nat)(x:H)(j:Nat):aN (b3 hs i x) j=if j=i then x else aN hs j:=by
 unfold b3;split
 ·rename_i hi;exact Y1 hs i j x hi
 ·rename_i hi;unfold aN;simp only[List.getD_eq_getElem?_getD,List.append_assoc,List.getElem?_append];by_cases av:j=i
  ·subst av;simp[hi]
  ·simp only[av,if_false,List.length_replicate];by_cases h1:j<hs.length
   ·simp[h1]
   ·simp only[h1,if_false,List.getElem?_eq_none (Nat.le_of_not_lt h1)];by_cases h2:j-hs.length<i-hs.length
    ·simp[h2]
    ·have:1≤j-hs.length-(i-hs.length):=by omega
     simp[h2,List.getElem?_eq_none,this]
def hnew:List H→Nat→List H→List H
 |hs,_,[]=>hs
 |hs,n,x::xs=>hnew (b3 hs n x) (n+1) xs
def hupd:List H→List (Nat×H)→List H
 |hs,[]=>hs
 |hs,(i,x)::r=>hupd (b3 hs i x) r
theorem yY:∀(xs:List H) (hs:List H) (n j:Nat),aN (hnew hs n xs) j=if n≤j∧j<n+xs.length then xs.getD (j-n) .c1 else aN hs j
 |[],hs,n,j=>by
  have:¬(n≤j∧j<n+([]:List H).length):=by simp only[List.length_nil];omega
  rw[if_neg this];rfl
 |x::xs,hs,n,j=>by
  rw[hnew,yY xs (b3 hs n x) (n+1) j,gS];by_cases h1:n+1≤j∧j<n+1+xs.length
  ·rw[if_pos h1,if_pos (by simp only[List.length_cons];omega)];rw[show j-n=(j-(n+1))+1 from by omega];simp[List.getD]
  ·rw[if_neg h1];by_cases h2:j=n
   ·subst h2;rw[if_pos rfl,if_pos (by simp)];simp
   ·rw[if_neg h2,if_neg (by simp only[List.length_cons];omega)]
def St.cK(σ:St)(dst:Option Tmp)(n:Nat)(r:dS):St:=
 ⟨match dst with|some t=>σ.tmps.set t r.v|none=>σ.tmps,hupd (hnew σ.heap n r.new) r.upd⟩
def St.le(σ σ':St):Prop:=
 (∀(t:Nat) (v:V),σ.tmps[t]?=some v→v=V.ab∨σ'.tmps[t]?=some v)∧∀i,aN σ.heap i=.c1∨aN σ'.heap i=aN σ.heap i
theorem St.le.refl(σ:St):σ.le σ:=⟨fun _ _ h=>.inr h,fun _=>.inr rfl⟩
theorem St.le.ev{σ σ':St}(h:σ.le σ')(x:Operand):σ.ev x=.ab∨σ'.ev x=σ.ev x:=by
 cases x with
 |tmp t=>
  simp only[St.ev,List.getD_eq_getElem?_getD]
  cases ht:σ.tmps[t]? with
  |none=>exact .inl rfl
  |some v=>
   rcases h.1 t v ht with rfl|h2
   ·exact .inl rfl
   ·exact .inr (by rw[h2])
 |const v=>exact .inr rfl
 |func f=>exact .inr rfl
 |global g=>exact .inr rfl
def fO(P:Program)(o:Oper)(g:Bool)(σ:St)(n:Nat)(r:dS):Prop:=
 ∀σ':St,σ.le σ'→(∀i,n≤i→i<n+r.new.length→aN σ'.heap i=.c1)→
 ∀(B:Nat→Prop) (w0:World) (aG:Nat→Prop) (φ:b2) (kp:List (V×Value)) (a:Act) (w:World),(∀i,n≤i→i<n+r.new.length→¬aG i)→R B w0 aG φ σ' kp a w→g=true→
 ∀(K:Act→World→Prop) (Q:Exit→Act→World→Prop),
  (∀u w' cu,R B w0 (fun i=>aG i∨(n≤i∧i<n+r.new.length)) cu (σ'.cK o.dst n r) kp (a.put o.dst u) w'→K (a.put o.dst u) w')→o.wp P a w K Q
def evg(g:Bool)(v:V)(K:V→Prop):Prop:=
 match v with
 |.bm c v=>(g=true→c=true)∧K v
 |v=>K v
theorem k8{P:Program}{o:Oper}{g:Bool}{σ:St}{n:Nat}{v:V}
  (h:∀σ':St,σ.le σ'→∀(B:Nat→Prop) (w0:World) (aG:Nat→Prop) (φ:b2) (kp:List (V×Value)) (a:Act) (w:World),R B w0 aG φ σ' kp a w→g=true→
   ∃u,(execOp a.eval o).run P w=.ok (.value u) w∧VRel φ (b8 φ σ'.heap) w.heap v u):fO P o g σ n ⟨v,[],[]⟩:=by
 intro σ' aR _ B w0 aG φ kp a w _ aL hg K Q bU;obtain⟨u,h1,h2⟩:=h σ' aR B w0 aG φ kp a w aL hg;unfold Oper.wp;rw[h1,Oper.upon_value];refine bU u w φ ?_;have hr:=k4 aL o.dst h2;refine⟨hr.gB,hr.kp,hr.hp,hr.dy,hr.d_,hr.ej,fun i β e=>.inl (hr.f1 i β e),hr.fg,hr.bs,hr.l8,hr.jS⟩
theorem fb{g:Bool}{v:V}{K:V→Prop}(h:evg g v K):∃eO,K eO∧∀(φ:b2) (T:Nat→Prop) (hp:Array Obj) (u:Value),g=true→VRel φ T hp v u→VRel φ T hp eO u:=by
 unfold evg at h;split at h
 ·rename_i c eO;exact⟨eO,h.2,fun φ T hp u hg hr=>by simp only[VRel]at hr;exact hr.1 (h.1 hg)⟩
 ·exact⟨v,h,fun _ _ _ _ _ hr=>hr⟩
theorem eW{σ σ':St}{B:Nat→Prop}{w0:World}{aG:Nat→Prop}{φ:b2}{kp:List (V×Value)}{a:Act}{w:World}(aR:σ.le σ')(r:R B w0 aG φ σ' kp a w)(x:Operand) :
  VRel φ (b8 φ σ'.heap) w.heap (σ.ev x) (a.eval x):=by
 rcases aR.ev x with h|h
 ·rw[h];trivial
 ·rw[←h];exact xl r x
def jh(P:Program)(T:TypeId):V→V
 |.c6 s=>.c6 (match elI P T with|some (_,sz,_)=>sz|none=>s)
 |v=>v
theorem Rc{P:Program}{T:TypeId}{φ:b2}{fN:Nat→Prop}{h:Array Obj}{v:V}{u:Value}(r:VRel φ fN h v u):VRel φ fN h (jh P T v) u:=by
 cases v<;>first|exact r|(simp only[jh,VRel]at r⊢;exact r)
def V.cells:V→List V
 |.agg vs=>vs
 |v=>[v]
def V.oneB:V→Bool
 |.d _|.c6 _|.ptr _ _ _|.ep _ _|.sl _ _ _|.fn _ _=>true
 |_=>false
theorem kE{φ:b2}{T:Nat→Prop}{h:Array Obj}{v:V}{u:Value}(hb:v.oneB=true)(r:VRel φ T h v u):u.oneCell'=true∧u.cells=#[u]:=by
 cases v<;>simp only[V.oneB]at hb<;>simp only[VRel]at r
 case d x=>
  obtain⟨F,aH,_⟩:=r;have:=JZ aH;refine⟨this,?_⟩
  cases u<;>first|rfl|(simp[Value.oneCell']at this)
 case c6 s=>subst r;exact⟨rfl,rfl⟩
 case ptr id bG off=>obtain⟨β,b,_,_,r⟩:=r;subst r;exact⟨rfl,rfl⟩
 case ep cells off=>obtain⟨b,f,G,r,_⟩:=r;subst r;exact⟨rfl,rfl⟩
 case sl id off len=>obtain⟨β,a,c,_,r,_⟩:=r;subst r;exact⟨rfl,rfl⟩
 case fn f d8=>obtain⟨us,r,_⟩:=r;subst r;exact⟨rfl,rfl⟩
 all_goals cases hb
def V.uY:V→Bool
 |.agg vs=>vs.all V.oneB
 |v=>v.oneB
theorem De{φ:b2}{T:Nat→Prop}{h:Array Obj}{v:V}{u:Value}(hb:v.uY=true)(r:VRel φ T h v u):VRels φ T h v.cells u.cells.toList∧∀x∈u.cells.toList,x.oneCell'=true:=by
 cases v with
 |agg vs=>
  simp only[VRel]at r;obtain⟨us,rfl,r⟩:=r;simp only[V.uY,List.all_eq_true]at hb;refine⟨r,fun x hx=>?_⟩;obtain⟨j,av,rfl⟩:=List.getElem_of_mem hx;have hl:=i6 _ _ r;obtain⟨jX,h1,h2⟩:=t0 _ _ r j (vs[j]'(by simp only[Value.cells]at av;omega)) (List.getElem?_eq_getElem _);simp only[Value.cells]at av⊢;rw[List.getElem?_eq_getElem av]at h1
  cases h1
  exact(kE (hb _ (List.getElem_mem _)) h2).1
 |d x=>exact⟨by rw[(kE rfl r).2];simp only[V.cells,VRels];exact⟨_,_,rfl,r,rfl⟩,by rw[(kE rfl r).2];simpa using(kE rfl r).1⟩
 |c6 x=>exact⟨by rw[(kE rfl r).2];simp only[V.cells,VRels];exact⟨_,_,rfl,r,rfl⟩,by rw[(kE rfl r).2];simpa using(kE rfl r).1⟩
 |ptr x y z=>exact⟨by rw[(kE rfl r).2];simp only[V.cells,VRels];exact⟨_,_,rfl,r,rfl⟩,by rw[(kE rfl r).2];simpa using(kE rfl r).1⟩
 |ep x y=>exact⟨by rw[(kE rfl r).2];simp only[V.cells,VRels];exact⟨_,_,rfl,r,rfl⟩,by rw[(kE rfl r).2];simpa using(kE rfl r).1⟩
 |sl x y z=>exact⟨by rw[(kE rfl r).2];simp only[V.cells,VRels];exact⟨_,_,rfl,r,rfl⟩,by rw[(kE rfl r).2];simpa using(kE rfl r).1⟩
 |fn x y=>exact⟨by rw[(kE rfl r).2];simp only[V.cells,VRels];exact⟨_,_,rfl,r,rfl⟩,by rw[(kE rfl r).2];simpa using(kE rfl r).1⟩
 |ab=>cases hb
 |dB x=>cases hb
 |bm x y=>cases hb
theorem u7(k:IntKind)(n:Int):k.min≤k.wrap n∧k.wrap n≤k.max:=by
 cases k<;>simp only[IntKind.min,IntKind.max,IntKind.wrap,IntKind.bits,IntKind.signed]<;>simp<;>(try split)<;>omega
theorem RE(k:IntKind):k.min≤0∧0≤k.max:=by
 cases k<;>simp[IntKind.min,IntKind.max,IntKind.bits,IntKind.signed]
theorem Z1{k:IntKind}{x y:Int}(h:k.min≤x∧x≤k.max):k.min≤x.tmod y∧x.tmod y≤k.max:=by
 have hk:=RE k;rcases Int.le_total 0 x with h0|h0
 ·have h1:=Int.tmod_nonneg y h0;have h2:x.tmod y≤x:=by
   have:=Int.natAbs_tmod x y;have ak:x.natAbs % y.natAbs≤x.natAbs:=Nat.mod_le _ _;omega
  omega
 ·have h1:x.tmod y≤0:=by
   have:=Int.tmod_nonneg (a:=-x) y (by omega);rw[Int.neg_tmod]at this;omega
  have h2:x≤x.tmod y:=by
   have:=Int.natAbs_tmod x y;have ak:x.natAbs % y.natAbs≤x.natAbs:=Nat.mod_le _ _;omega
  omega
theorem Z2{k:IntKind}{x:Int}{n:Nat}(h:k.min≤x∧x≤k.max):k.min≤x.fdiv (2^n)∧x.fdiv (2^n)≤k.max:=by
 have hk:=RE k;have hp:(0:Int)<2^n:=Int.pow_pos (by omega);have he:x.fdiv (2^n)=x / (2^n):=Int.fdiv_eq_ediv_of_nonneg x (by omega);rw[he];rcases Int.le_total 0 x with h0|h0
 ·have h1:0≤x / 2^n:=Int.ediv_nonneg h0 (by omega);have h2:x / 2^n≤x:=Int.ediv_le_self _ h0;omega
 ·have h1:x / 2^n≤0:=by
   have:=Int.ediv_le_ediv hp h0;simpa using this
  have h2:x≤x / 2^n:=by
   rw[Int.le_ediv_iff_mul_le hp];have:x * (2^n-1)≤0:=Int.mul_nonpos_of_nonpos_of_nonneg h0 (by omega);rw[Int.mul_sub]at this;omega
  omega
def bitI(op:BinOp)(k:IntKind)(x y:Int):Int:=
 let a:=BitVec.ofInt k.bits x
 let b:=BitVec.ofInt k.bits y
 k.wrap (match op with
  |.and=>(a &&& b).toNat
  |.or=>(a ||| b).toNat
  |.xor=>(a ^^^ b).toNat
  |_=>(a &&& ~~~b).toNat)
def we(b:Bool):V:=.d (.bool b)
def nr(k:IntKind)(n:Int):V:=.d (.int k n)
def C5(s:List UInt8):V:=.d (.str s)
def binI(op:BinOp)(k:IntKind)(x y:Int):Option (Prop×V):=
 match op with
 |.add=>some (True,.d (.int k (k.wrap (x+y))))
 |.sub=>some (True,.d (.int k (k.wrap (x-y))))
 |.mul=>some (True,.d (.int k (k.wrap (x * y))))
 |.quo=>some (y≠0,.d (.int k (k.wrap (x.tdiv y))))
 |.rem=>some (y≠0,.d (.int k (x.tmod y)))
 |.and=>some (True,.d (.int k (bitI .and k x y)))
 |.or=>some (True,.d (.int k (bitI .or k x y)))
 |.xor=>some (True,.d (.int k (bitI .xor k x y)))
 |.eql=>some (True,.d (.bool (x == y)))
 |.neq=>some (True,.d (.bool (x != y)))
 |.lss=>some (True,.d (.bool (decide (x<y))))
 |.leq=>some (True,.d (.bool (decide (x≤y))))
 |.gtr=>some (True,.d (.bool (decide (y<x))))
 |.geq=>some (True,.d (.bool (decide (y≤x))))
 |_=>none
def shI(op:BinOp)(k:IntKind)(x y:Int):Option (Prop×V):=
 match op with
 |.shl=>some (0≤y,.d (.int k (k.wrap (x * 2^min y.toNat k.bits))))
 |.shr=>some (0≤y,.d (.int k (x.fdiv (2^min y.toNat k.bits))))
 |_=>none
def binS(op:BinOp)(x y:List UInt8):Option (Prop×V):=
 match op with
 |.add=>some (x.length+y.length≤maxLen,.d (.str (x++y)))
 |.eql=>some (True,.d (.bool (x == y)))
 |.neq=>some (True,.d (.bool (x != y)))
 |_=>none
def eqD:D→D→Option Bool
 |.int k x,.int iF y=>if k=iF then some (decide (x=y))else none
 |.bool x,.bool y=>some (decide (x=y))
 |.str x,.str y=>some (decide (x=y))
 |_,_=>none
section
variable {φ:b2} {T:Nat→Prop} {h:Array Obj}
theorem k7{k:IntKind}{n:Int}{u:Value}(r:VRel φ T h (.d (.int k n)) u):u=.int k n∧k.min≤n∧n≤k.max:=by
 simp only[VRel,rep]at r;obtain⟨F,⟨aH,_,aZ,ca⟩,_⟩:=r;exact⟨aH,aZ,ca⟩
theorem lB{b:Bool}{u:Value}(r:VRel φ T h (.d (.bool b)) u):u=.bool b:=by
 simp only[VRel,rep]at r;obtain⟨F,⟨aH,_⟩,_⟩:=r;exact aH
theorem xO{s:List UInt8}{u:Value}(r:VRel φ T h (.d (.str s)) u):u=.string ⟨s.toArray⟩∧s.length≤maxLen:=by
 simp only[VRel,rep]at r;obtain⟨F,⟨aH,_,aZ⟩,_⟩:=r;exact⟨aH,aZ⟩
theorem mj{k:IntKind}{n:Int}(h1:k.min≤n∧n≤k.max):VRel φ T h (.d (.int k n)) (.int k n):=by
 simp only[VRel,rep];exact⟨[],⟨trivial,rfl,h1.1,h1.2⟩,by simp⟩
theorem t7(b:Bool):VRel φ T h (.d (.bool b)) (.bool b):=by
 simp only[VRel,rep];exact⟨[],⟨trivial,rfl⟩,by simp⟩
theorem Dn{s:List UInt8}(h1:s.length≤maxLen):VRel φ T h (.d (.str s)) (.string ⟨s.toArray⟩):=by
 simp only[VRel,rep];exact⟨[],⟨trivial,rfl,h1⟩,by simp⟩
end
theorem Z3(x y:List UInt8):(⟨x.toArray⟩:ByteArray)++(⟨y.toArray⟩:ByteArray)=⟨(x++y).toArray⟩:=by
 apply ByteArray.ext;simp[ByteArray.data_append]
theorem RF(x:List UInt8):(⟨x.toArray⟩:ByteArray).toList=x:=by
 rw[Go.ByteArray.toList_eq]
section
variable {P:Program} {w:World} {φ:b2} {T:Nat→Prop} {h:Array Obj}
theorem Zi{op:BinOp}{k:IntKind}{x y:Int}{p:Prop}{v:V}(hx:k.min≤x∧x≤k.max)(ah:binI op k x y=some (p,v))(hp:p)(t:TypeId) :
  ∃u,(binOp op t (.int k x) (.int k y)).run P w=.ok u w∧VRel φ T h v u:=by
 cases op<;>simp only[binI,Option.some.injEq,Prod.mk.injEq,reduceCtorEq]at ah<;>obtain⟨rfl,rfl⟩:=ah
 case add=>exact⟨_,by simp[binOp,Op.intArith],mj (u7 _ _)⟩
 case sub=>exact⟨_,by simp[binOp,Op.intArith],mj (u7 _ _)⟩
 case mul=>exact⟨_,by simp[binOp,Op.intArith],mj (u7 _ _)⟩
 case quo=>exact⟨_,by simp[binOp,Op.intDiv,hp],mj (u7 _ _)⟩
 case rem=>exact⟨_,by simp[binOp,Op.intDiv,hp],mj (Z1 hx)⟩
 case and=>exact⟨_,by simp[binOp,Op.intBits,bitI],mj (u7 _ _)⟩
 case or=>exact⟨_,by simp[binOp,Op.intBits,bitI],mj (u7 _ _)⟩
 case xor=>exact⟨_,by simp[binOp,Op.intBits,bitI],mj (u7 _ _)⟩
 all_goals exact⟨_,by simp[binOp,Op.intCmp],t7 _⟩
theorem Ri{op:BinOp}{k iF:IntKind}{x y:Int}{p:Prop}{v:V}(hx:k.min≤x∧x≤k.max)(ah:shI op k x y=some (p,v))(hp:p)(t:TypeId) :
  ∃u,(binOp op t (.int k x) (.int iF y)).run P w=.ok u w∧VRel φ T h v u:=by
 cases op<;>simp only[shI,Option.some.injEq,Prod.mk.injEq,reduceCtorEq]at ah<;>obtain⟨rfl,rfl⟩:=ah
 case shl=>exact⟨_,by simp[binOp,Op.shift,Int.not_lt.2 hp],mj (u7 _ _)⟩
 case shr=>exact⟨_,by simp[binOp,Op.shift,Int.not_lt.2 hp],mj (Z2 hx)⟩
theorem Zj{op:BinOp}{x y:List UInt8}{p:Prop}{v:V}(ah:binS op x y=some (p,v))(hp:p)(t:TypeId) :
  ∃u,(binOp op t (.string ⟨x.toArray⟩) (.string ⟨y.toArray⟩)).run P w=.ok u w∧VRel φ T h v u:=by
 cases op<;>simp only[binS,Option.some.injEq,Prod.mk.injEq,reduceCtorEq]at ah<;>obtain⟨rfl,rfl⟩:=ah
 case add=>
  refine⟨_,?_,Dn (by simpa using hp)⟩;have h1:¬(((⟨x.toArray⟩:ByteArray).size+(⟨y.toArray⟩:ByteArray).size:Nat):Int)>IntKind.i64.max:=by
   have h2:(⟨x.toArray⟩:ByteArray).size=x.length:=by simp[ByteArray.size]
   have ak:(⟨y.toArray⟩:ByteArray).size=y.length:=by simp[ByteArray.size]
   have bL:IntKind.i64.max=9223372036854775807:=by decide
   rw[h2,ak,bL];simp only[maxLen]at hp;omega
  simp only[binOp,Op.stringOp];rw[if_neg h1,Z3];rfl
 case eql=>exact⟨_,by simp only[binOp,Op.stringOp,RF];rfl,t7 _⟩
 case neq=>exact⟨_,by simp only[binOp,Op.stringOp,RF];rfl,t7 _⟩
end
def asB(v:V)(K:Bool→Prop):Prop:=match v with|.d (.bool b)=>K b|_=>False
def asI(v:V)(K:IntKind→Int→Prop):Prop:=match v with|.d (.int k n)=>K k n|_=>False
theorem Gf{v:V}{K:Bool→Prop}(h:asB v K):∃b,v=.d (.bool b)∧K b:=by
 unfold asB at h;split at h
 ·exact⟨_,rfl,h⟩
 ·exact h.elim
theorem xL{v:V}{K:IntKind→Int→Prop}(h:asI v K):∃k n,v=.d (.int k n)∧K k n:=by
 unfold asI at h;split at h
 ·exact⟨_,_,rfl,h⟩
 ·exact h.elim
variable {P:Program} {o:Oper} {g:Bool} {σ:St} {n:Nat} {K:dS→Prop}
def cg(v:V):dS:=⟨v,[],[]⟩
theorem Qs{x:Operand}(az:o.op=.move x∨o.op=.assign x)(h:evg g (σ.ev x) fun v=>K (cg (jh P o.type v))):∃r,fO P o g σ n r∧K r:=by
 obtain⟨v,bU,hr⟩:=fb h;refine⟨_,k8 fun σ' aR B w0 aG φ kp a w r hg=>⟨a.eval x,?_,Rc (hr _ _ _ _ hg (eW aR r x))⟩,bU⟩;rcases az with az|az<;>(unfold execOp;rw[az];rfl)
def y7(g:Bool)(c a b:V)(K:V→Prop):Prop:=
 evg g c fun c=>asB c fun x=>evg (g&&x) a fun a=>asB a fun y=>evg (g&&!x) b fun b=>asB b fun z=>K (we (bif x then y else z))
theorem X'{c x y:Operand}(az:o.op=.pick c x y)(h:y7 g (σ.ev c) (σ.ev x) (σ.ev y) fun v=>K (cg v)):∃r,fO P o g σ n r∧K r:=by
 obtain⟨c',h,hc⟩:=fb h;obtain⟨b,rfl,h⟩:=Gf h;obtain⟨jX,h,hx⟩:=fb h;obtain⟨Y9,rfl,h⟩:=Gf h;obtain⟨akJ,h,hy⟩:=fb h;obtain⟨Y_,rfl,h⟩:=Gf h;refine⟨_,k8 fun σ' aR B w0 aG φ kp a w r hg=>?_,h⟩;have ai:=lB (hc _ _ _ _ hg (eW aR r c))
 cases b with
 |true=>
  have aj:=lB (hx _ _ _ _ (by simp[hg]) (eW aR r x));exact⟨.bool Y9,by unfold execOp;rw[az];simp[ai,aj,asBool],t7 _⟩
 |false=>
  have aj:=lB (hy _ _ _ _ (by simp[hg]) (eW aR r y));exact⟨.bool Y_,by unfold execOp;rw[az];simp[ai,aj,asBool],t7 _⟩
def eqCells:List V→List V→Option Bool
 |[],[]=>some true
 |.d x::xs,.d y::ys=>match eqD x y,eqCells xs ys with|some a,some b=>some (a&&b)|_,_=>none
 |_,_=>none
inductive nt where
 |i (k:IntKind)
 |b
 |s
def Fit1:nt→Value→Prop
 |.i q,.int yL n=>yL=q∧q.min≤n∧n≤q.max
 |.b,.bool _=>True
 |.s,.string s=>s.size≤maxLen
 |_,_=>False
def FitL:List nt→List Value→Prop
 |[],us=>us=[]
 |k::cQ,us=>∃u bY,us=u::bY∧Fit1 k u∧FitL cQ bY
def litV:Value→Lit
 |.int q n=>.int q n
 |.bool b=>.bool b
 |.string s=>.string s.data.toList
 |_=>.bool false
theorem Gg:∀{cQ:List nt} {us:List Value},FitL cQ us→us.length=cQ.length
 |[],us,h=>by simp only[FitL]at h;rw[h];rfl
 |k::cQ,us,h=>by
  simp only[FitL]at h;obtain⟨u,bY,rfl,_,h⟩:=h;simp[Gg h]
theorem KN:∀{cQ je:List nt} {us:List Value},FitL (cQ++je) us→FitL cQ (us.take cQ.length)∧FitL je (us.drop cQ.length)
 |[],je,us,h=>by simpa [FitL]using h
 |k::cQ,je,us,h=>by
  simp only[List.cons_append,FitL]at h;obtain⟨u,bY,rfl,h1,h⟩:=h;obtain⟨h2,ak⟩:=KN h;exact⟨⟨u,bY.take cQ.length,by simp,h1,h2⟩,by simpa using ak⟩
def shpF(P:Program)(g:TypeId→Option (List nt)):Nat→List Field→Option (List nt)
 |_,[]=>some []
 |off,f::cp=>
  match g f.type with
  |some cQ=>if f.offset=off∧P.cellsOf f.type=cQ.length then(shpF P g (off+cQ.length) cp).map (cQ++·)else none
  |none=>none
def shp(P:Program):Nat→TypeId→Option (List nt)
 |0,_=>none
 |d+1,t=>
  match P.underlying t with
  |some .bool=>some [.b]
  |some (.int q)=>some [.i q]
  |some .string=>some [.s]
  |some (.struct cp)=>
   match shpF P (shp P d) 0 cp.toList with
   |some cQ => if P.cellsOf t = cQ.length ∧ cp.all (·.name != "_") = true then some cQ else none
   |none=>none
  |some (.array n e)=>
   match shp P d e with
   |some cQ=>if P.cellsOf e=cQ.length∧P.cellsOf t=n * cQ.length then some (List.replicate n cQ).flatten else none
   |none=>none
  |_=>none
theorem Rd{α β:Type}{g:α→Option β}{h:α→β}:∀(l:List α),(∀x∈l,g x=some (h x))→l.mapM g=some (l.map h)
 |[],_=>rfl
 |x::l,e=>by
  rw[List.mapM_cons,e x (by simp),Rd l fun y hy=>e y (by simp[hy])];rfl
theorem Re{cQ:List nt}:∀(n:Nat) (us:List Value),FitL (List.replicate n cQ).flatten us→us.length=n * cQ.length∧(∀i,i<n→FitL cQ ((us.drop (i * cQ.length)).take cQ.length))∧
  ((List.range n).map fun i=>((us.drop (i * cQ.length)).take cQ.length).map litV).flatten=us.map litV
 |0,us,h=>by
  have:us=[]:=by simpa [FitL]using h
  subst this;simp
 |n+1,us,h=>by
  rw[List.replicate_succ,List.flatten_cons]at h;obtain⟨h1,h2⟩:=KN h;obtain⟨ak,aC,bL⟩:=Re n _ h2;have hl:=Gg h;rw[List.length_append]at hl;have A':=ak;rw[List.length_drop]at ak;have hk:cQ.length≤us.length:=by omega
  refine⟨by rw[Nat.add_mul];omega,fun i hi=>?_,?_⟩
  ·cases i with
   |zero=>simpa using h1
   |succ i=>
    have:=aC i (by omega)
    rwa [List.drop_drop,show cQ.length+i * cQ.length=(i+1) * cQ.length from by rw[Nat.add_mul];omega]at this
  ·rw[List.range_succ_eq_map,List.map_cons,List.flatten_cons,List.map_map];have:((fun i=>((us.drop (i * cQ.length)).take cQ.length).map litV)∘Nat.succ)=fun i=>(((us.drop cQ.length).drop (i * cQ.length)).take cQ.length).map litV:=by
    funext i
    simp only[Function.comp,List.drop_drop,Nat.succ_eq_add_one];rw[show cQ.length+i * cQ.length=(i+1) * cQ.length from by rw[Nat.add_mul];omega]
   rw[this,bL,Nat.zero_mul,List.drop_zero,←List.map_append,List.take_append_drop]
theorem Rf{P:Program}{g:TypeId→Option (List nt)}{d:Nat}(hg:∀t cQ us,g t=some cQ→FitL cQ us→P.keyLits d t us=some (us.map litV))(cs:List Value):∀(cp:List Field) (off:Nat) (cQ:List nt),
  shpF P g off cp=some cQ→FitL cQ (cs.drop off)→∃je,cp.mapM (fun f=>P.keyLits d f.type ((cs.drop f.offset).take (P.cellsOf f.type)))=some je∧je.flatten=(cs.drop off).map litV
 |[],off,cQ,h,hf=>by
  simp only[shpF,Option.some.injEq]at h;subst h;simp only[FitL]at hf;exact⟨[],rfl,by rw[hf];rfl⟩
 |f::cp,off,cQ,h,hf=>by
  simp only[shpF]at h;split at h
  ·rename_i k1 sL;split at h
   ·rename_i hc
    cases hr:shpF P g (off+k1.length) cp with
    |none=>rw[hr]at h;cases h
    |some k2=>
     rw[hr]at h;simp only[Option.map_some,Option.some.injEq]at h;subst h;obtain⟨h1,h2⟩:=KN hf;rw[List.drop_drop]at h2;obtain⟨je,ak,aC⟩:=Rf hg cs cp (off+k1.length) k2 hr h2;refine⟨((cs.drop off).take k1.length).map litV::je,?_,?_⟩
     ·rw[List.mapM_cons,hc.1,hc.2,hg _ _ _ sL h1,ak];rfl
     ·rw[List.flatten_cons,aC,←List.drop_drop,←List.map_append,List.take_append_drop]
   ·cases h
  ·cases h
theorem Gh{P:Program}:∀(d:Nat) (t:TypeId) (cQ:List nt) (us:List Value),shp P d t=some cQ→FitL cQ us→P.keyLits d t us=some (us.map litV)
 |0,t,cQ,us,h,_=>by simp[shp]at h
 |d+1,t,cQ,us,h,hf=>by
  have one:∀k,cQ=[k]→∃u,us=[u]∧Fit1 k u:=by
   rintro k rfl;simp only[FitL]at hf;obtain⟨u,bY,rfl,h1,h2⟩:=hf;exact⟨u,by rw[h2],h1⟩
  unfold shp at h;unfold Program.keyLits;split at h
  ·rename_i hu
   cases h
   obtain⟨u,rfl,h1⟩:=one _ rfl
   cases u<;>simp only[Fit1]at h1
   simp[hu,litV]
  ·rename_i q hu
   cases h
   obtain⟨u,rfl,h1⟩:=one _ rfl
   cases u<;>simp only[Fit1]at h1
   obtain⟨rfl,h1,h2⟩:=h1;simp[hu,litV,Lit.wf,h1,h2]
  ·rename_i hu
   cases h
   obtain⟨u,rfl,h1⟩:=one _ rfl
   cases u<;>simp only[Fit1]at h1
   simp[hu,litV,h1]
  ·rename_i cp hu;split at h
   ·rename_i k1 sL;split at h
    ·rename_i hc
     cases h
     obtain⟨je,ak,aC⟩:=Rf (d:=d) (fun t cQ us=>Gh d t cQ us) us cp.toList 0 _ sL (by simpa using hf);have hl:=Gg hf;simp only[hu];rw[if_pos ⟨by omega,hc.2⟩,ak];simp[aC]
    ·cases h
   ·cases h
  ·rename_i n e hu;split at h
   ·rename_i k1 sL;split at h
    ·rename_i hc
     cases h
     obtain⟨h1,h2,ak⟩:=Re n us hf;simp only[hu];rw[if_pos (by omega),Rd (h:=fun i=>((us.drop (i * k1.length)).take k1.length).map litV) _ fun i hi=>by
      rw[hc.1];exact Gh d e k1 _ sL (h2 i (by simpa using hi))]
     simp only[Option.map_some,ak]
    ·cases h
   ·cases h
  ·cases h
def nm(P:Program)(T:TypeId)(cQ:List nt):Prop:=
 ∀(us fy:List Value) (b:Bool) (x y:Operand) (w:World),FitL cQ us→FitL cQ fy→(b=true↔us.map litV=fy.map litV)→
  (do eqGuard .eql T x y (.agg us.toArray) (.agg fy.toArray);binOp .eql T (.agg us.toArray) (.agg fy.toArray)).run P w=.ok (.bool b) w∧
  (do eqGuard .neq T x y (.agg us.toArray) (.agg fy.toArray);binOp .neq T (.agg us.toArray) (.agg fy.toArray)).run P w=.ok (.bool !b) w
theorem EqOK_of{P:Program}{T:TypeId}{cQ:List nt}(h1:shp P 100 T=some cQ)(h2:P.eqGuardType P.depth T=false)(ak:P.keyTypeAt 100 T=true)(aC:(match P.underlying T with|some (.struct _)|some (.array _ _)=>true|_=>false)=true)(bL:P.cellsOf T=cQ.length):nm P T cQ:=by
 intro us fy b x y w hu hw hb;have Rg:∀vs:List Value,FitL cQ vs→Value.formed P T (.agg vs.toArray)=true:=by
  intro vs hv;have:=Gg hv;unfold Value.formed;simp only;split at aC<;>first|(simp only[*];simp[this])|cases aC
 obtain⟨r,hr,hr2⟩:=run_equalIn_deep (P:=P) 9900 100 T ak w 100 100 (.agg us.toArray) (.agg fy.toArray) _ _ (Rg us hu) (Rg fy hw) (Gh 100 T cQ _ h1 (by simpa [Value.cells]using hu)) (Gh 100 T cQ _ h1 (by simpa [Value.cells]using hw));have Y':r=b:=by
  simp only[Value.cells]at hr2;rw[Bool.eq_iff_iff,hr2,hb]
 subst Y';constructor
 ·simp only[Sem.run_bind,run_eqGuard_agg w _ T x y _ _ h2,Result.andThen_ok,run_eql_struct];rw[show(10000:Nat)=9900+100 from rfl,hr];rfl
 ·simp only[Sem.run_bind,run_eqGuard_agg w _ T x y _ _ h2,Result.andThen_ok,run_neq_struct];rw[show(10000:Nat)=9900+100 from rfl,hr];rfl
def kindsV:List V→List nt
 |[]=>[]
 |.d (.int k _)::xs=>.i k::kindsV xs
 |.d (.str _)::xs=>.s::kindsV xs
 |_::xs=>.b::kindsV xs
def isBoolI(P:Program)(T:TypeId):Bool:=match P.underlying T with|some .bool=>true|_=>false
def isPtrI(P:Program)(T:TypeId):Bool:=
 match P.underlying T with
 |some (.pointer e)=>match P.info? e with|some i=>i.size != 0|none=>false
 |_=>false
theorem Za{T:TypeId}(h:isPtrI P T=true):∃e i,P.underlying T=some (.pointer e)∧P.info? e=some i∧i.size≠0:=by
 unfold isPtrI at h;split at h
 ·rename_i e hu;split at h
  ·rename_i i hi;exact⟨e,i,hu,hi,by simpa using h⟩
  ·cases h
 ·cases h
theorem Zb{T:TypeId}(b f iD:Nat)(w:World)(h:isPtrI P T=true):(binOp .eql T (.pointer (some ⟨b,f,none⟩)) (.pointer (some ⟨b,iD,none⟩))).run P w=.ok (.bool (decide (f=iD))) w:=by
 obtain⟨e,i,hu,hi,hs⟩:=Za h;have h2:∀d:Nat,(Op.equalIn (d+1) T (.pointer (some ⟨b,f,none⟩)) (.pointer (some ⟨b,iD,none⟩))).run P w=.ok (decide (f=iD)) w:=fun d=>by
  have he:((⟨b,f,none⟩:Addr) == ⟨b,iD,none⟩)=decide (f=iD):=by
   rw[Bool.eq_iff_iff];simp
  have hz:(Go.sizeOf e).run P w=Result.ok i.size w:=by simp[Go.sizeOf,typeInfo,hi]
  simp[Op.equalIn,run_underlying hu,hz,hs,sameAddr,he]
 simp only[binOp];simp[Op.equal,Op.maxDepth,h2 9999]
def binE(P:Program)(op:BinOp)(T:TypeId)(x y:V):Option (Prop×V):=
 match x,y with
 |.d (.int k a),.d (.int iF b)=>
  match op with
  |.shl=>shI .shl k a b
  |.shr=>shI .shr k a b
  |op=>if k=iF then binI op k a b else none
 |.d (.str a),.d (.str b)=>binS op a b
 |.d (.bool a),.d (.bool b)=>
  match op with
  |.eql=>if isBoolI P T then some (True,we (a == b))else none
  |.neq=>if isBoolI P T then some (True,we (a != b))else none
  |_=>none
 |.agg xs,.agg ys=>
  match op,eqCells xs ys with
  |.eql,some b=>some (nm P T (kindsV xs),we b)
  |.neq,some b=>some (nm P T (kindsV xs),we !b)
  |_,_=>none
 |.ptr id bG off,.ptr np Rh xJ=>
  match op with
  |.eql=>if id=np∧bG=Rh∧isPtrI P T=true then some (True,we (decide (off=xJ)))else none
  |_=>none
 |_,_=>none
def withR(r:Option (Prop×V))(K:V→Prop):Prop:=match r with|some (p,v)=>p∧K v|none=>False
theorem xN{r:Option (Prop×V)}{K:V→Prop}(h:withR r K):∃p v,r=some (p,v)∧p∧K v:=by
 unfold withR at h;split at h
 ·exact⟨_,_,rfl,h.1,h.2⟩
 ·exact h.elim
theorem KO{φ:b2}{T:Nat→Prop}{h:Array Obj}:∀(xs ys:List V) (b:Bool) (us fy:List Value),eqCells xs ys=some b→VRels φ T h xs us→VRels φ T h ys fy→(b=true↔us.map litV=fy.map litV)∧FitL (kindsV xs) us∧FitL (kindsV xs) fy
 |[],[],b,us,fy,e,r,c3=>by
  simp only[VRels]at r c3;subst r;subst c3;simp only[eqCells,Option.some.injEq]at e;subst e;simp[kindsV,FitL]
 |[],y::ys,b,us,fy,e,_,_=>by cases e
 |x::xs,[],b,us,fy,e,_,_=>by cases x<;>cases e
 |x::xs,y::ys,b,us,fy,e,r,c3=>by
  simp only[VRels]at r c3;obtain⟨u,bY,rfl,aH,aZ⟩:=r;obtain⟨v,Zc,rfl,KP,Zd⟩:=c3
  cases x with
  |d Ze=>
   cases y with
   |d Zf=>
    simp only[eqCells]at e;split at e
    ·rename_i a c8 ai aj;obtain⟨dx,KQ,KR⟩:=KO xs ys c8 bY Zc aj aZ Zd
     cases e
     cases Ze<;>cases Zf<;>simp only[eqD]at ai<;>first|(cases ai;done)|skip
     ·split at ai
      ·rename_i hk;subst hk;have k1:=k7 aH;have k2:=k7 KP;rw[k1.1,k2.1];cases ai;simp only[kindsV,FitL,List.map_cons,litV];exact⟨by simp[dx],⟨_,_,rfl,⟨rfl,k1.2⟩,KQ⟩,⟨_,_,rfl,⟨rfl,k2.2⟩,KR⟩⟩
      ·cases ai
     ·rw[lB aH,lB KP];cases ai;simp only[kindsV,FitL,List.map_cons,litV];exact⟨by simp[dx],⟨_,_,rfl,trivial,KQ⟩,⟨_,_,rfl,trivial,KR⟩⟩
     ·have k1:=xO aH;have k2:=xO KP;rw[k1.1,k2.1];cases ai;simp only[kindsV,FitL,List.map_cons,litV];exact⟨by simp[dx],⟨_,_,rfl,by simpa [Fit1,ByteArray.size]using k1.2,KQ⟩,⟨_,_,rfl,by simpa [Fit1,ByteArray.size]using k2.2,KR⟩⟩
    ·cases e
   |_=>cases e
  |_=>cases e
theorem CP{φ:b2}{T:Nat→Prop}{h:Array Obj}{vs:List V}{u:Value}(r:VRel φ T h (.agg vs) u):∃us:Array Value,u=.agg us∧VRels φ T h vs us.toList:=by
 simpa only[VRel]using r
theorem run_equalIn_bool(d:Nat){T:TypeId}(a b:Bool)(w:World)(hu:P.underlying T=some .bool):(Op.equalIn (d+1) T (.bool a) (.bool b)).run P w=.ok (a == b) w:=by
 simp[Op.equalIn,run_underlying hu]
theorem run_eql_bool{T:TypeId}(a b:Bool)(w:World)(hu:P.underlying T=some .bool):(binOp .eql T (.bool a) (.bool b)).run P w=.ok (.bool (a == b)) w:=by
 simp only[binOp];simp[Op.equal,Op.maxDepth,run_equalIn_bool 9999 a b w hu]
theorem run_neq_bool{T:TypeId}(a b:Bool)(w:World)(hu:P.underlying T=some .bool):(binOp .neq T (.bool a) (.bool b)).run P w=.ok (.bool (a != b)) w:=by
 simp only[binOp];simp[Op.equal,Op.maxDepth,run_equalIn_bool 9999 a b w hu,bne]
theorem Zg{op:BinOp}{T:TypeId}{x y:V}{p:Prop}{v:V}(ah:binE P op T x y=some (p,v))(hp:p){φ:b2}{KS:Nat→Prop}{h:Array Obj}{u uZ:Value}(cL:VRel φ KS h x u)(jG:VRel φ KS h y uZ)
  (Gi u6:Operand) (w:World):∃z,(do eqGuard op T Gi u6 u uZ;binOp op T u uZ).run P w=.ok z w∧VRel φ KS h v z:=by
 have Gj:∀(op:BinOp) (a b:Value),(∀cs ds,¬(a=.agg cs∧b=.agg ds))→¬(a=.nilIface∧b=.nilIface)→(eqGuard op T Gi u6 a b).run P w=.ok () w:=by
  intro op a b h1 h2;unfold eqGuard
  cases op<;>simp<;>(split<;>first|rfl|(exact absurd ⟨rfl,rfl⟩ h2)|(exact absurd ⟨rfl,rfl⟩ (h1 _ _)))
 unfold binE at ah;split at ah
 ·rename_i k Zh iF q;have ai:=k7 cL;have aj:=k7 jG;rw[ai.1,aj.1];have hg:=Gj op (.int k Zh) (.int iF q) (fun _ _ h=>by cases h.1) (fun h=>by cases h.1);simp only[Sem.run_bind,hg,Result.andThen_ok];split at ah
  ·exact Ri ai.2 ah hp T
  ·exact Ri ai.2 ah hp T
  ·split at ah
   ·rename_i hk;subst hk;exact Zi ai.2 ah hp T
   ·cases ah
 ·rename_i a b;have ai:=xO cL;have aj:=xO jG;rw[ai.1,aj.1];have hg:=Gj op (.string ⟨a.toArray⟩) (.string ⟨b.toArray⟩) (fun _ _ h=>by cases h.1) (fun h=>by cases h.1);simp only[Sem.run_bind,hg,Result.andThen_ok];exact Zj ah hp T
 ·rename_i a b;have ai:=lB cL;have aj:=lB jG;rw[ai,aj];have hg:=Gj op (.bool a) (.bool b) (fun _ _ h=>by cases h.1) (fun h=>by cases h.1);simp only[Sem.run_bind,hg,Result.andThen_ok];split at ah
  ·split at ah
   ·rename_i hb;simp only[Option.some.injEq,Prod.mk.injEq]at ah;obtain⟨_,rfl⟩:=ah;have hu:P.underlying T=some .bool:=by unfold isBoolI at hb;split at hb<;>first|assumption|cases hb
    exact⟨.bool (a == b),run_eql_bool a b w hu,t7 _⟩
   ·cases ah
  ·split at ah
   ·rename_i hb;simp only[Option.some.injEq,Prod.mk.injEq]at ah;obtain⟨_,rfl⟩:=ah;have hu:P.underlying T=some .bool:=by unfold isBoolI at hb;split at hb<;>first|assumption|cases hb
    exact⟨.bool (a != b),run_neq_bool a b w hu,t7 _⟩
   ·cases ah
  ·cases ah
 ·rename_i xs ys;obtain⟨us,rfl,aH⟩:=CP cL;obtain⟨fy,rfl,aZ⟩:=CP jG;split at ah
  ·rename_i b he;simp only[Option.some.injEq,Prod.mk.injEq]at ah;obtain⟨rfl,rfl⟩:=ah;obtain⟨ai,aj,aT⟩:=KO _ _ _ _ _ he aH aZ;have:=(hp us.toList fy.toList b Gi u6 w aj aT ai).1;exact⟨_,this,t7 _⟩
  ·rename_i b he;simp only[Option.some.injEq,Prod.mk.injEq]at ah;obtain⟨rfl,rfl⟩:=ah;obtain⟨ai,aj,aT⟩:=KO _ _ _ _ _ he aH aZ;have:=(hp us.toList fy.toList b Gi u6 w aj aT ai).2;exact⟨_,this,t7 _⟩
  ·cases ah
 ·rename_i id bG off np Rh xJ;split at ah
  ·split at ah
   ·rename_i hc;obtain⟨rfl,rfl,hc⟩:=hc;simp only[Option.some.injEq,Prod.mk.injEq]at ah;obtain⟨_,rfl⟩:=ah;simp only[VRel]at cL jG;obtain⟨β,b,cF,bh,bI⟩:=cL;obtain⟨a7,c8,k1,k2,dw⟩:=jG;rw[cF]at k1;cases k1;rw[bh]at k2;cases k2;rw[bI,dw];have hg:=Gj .eql (.pointer (some ⟨b,β.off+bG * β.sz+off,none⟩)) (.pointer (some ⟨b,β.off+bG * β.sz+xJ,none⟩)) (fun _ _ h=>by cases h.1) (fun h=>by cases h.1);simp only[Sem.run_bind,hg,Result.andThen_ok];have e:decide (off=xJ)=decide (β.off+bG * β.sz+off=β.off+bG * β.sz+xJ):=by
     rw[decide_eq_decide];omega
    rw[e];exact⟨_,Zb b _ _ w hc,t7 _⟩
   ·cases ah
  ·cases ah
 ·cases ah
theorem Ya{op:BinOp}{T fN:TypeId}{x y:Operand}(az:o.op=.binOp op T x y fN)
  (h:evg g (σ.ev x) fun a=>evg g (σ.ev y) fun b=>withR (binE P op T a b) fun v=>K (cg v)):∃r,fO P o g σ n r∧K r:=by
 obtain⟨jg,h,hx⟩:=fb h;obtain⟨y5,h,hy⟩:=fb h;obtain⟨p,v,ah,hp,bU⟩:=xN h;refine⟨_,k8 fun σ' aR B w0 aG φ kp a w r hg=>?_,bU⟩;obtain⟨z,h1,h2⟩:=Zg ah hp (hx _ _ _ _ hg (eW aR r x)) (hy _ _ _ _ hg (eW aR r y)) x y w;refine⟨z,?_,h2⟩;unfold execOp;simp only[az,Sem.run_bind,h1,Result.andThen_ok];rfl
variable {P:Program} {o:Oper} {g:Bool} {σ:St} {n:Nat} {K:dS→Prop}
def unE(op:UnOp)(v:V):Option V:=
 match op,v with
 |.not,.d (.bool b)=>some (we !b)
 |.neg,.d (.int k x)=>some (nr k (k.wrap (0-x)))
 |_,_=>none
def withO(r:Option V)(K:V→Prop):Prop:=match r with|some v=>K v|none=>False
theorem Gk{r:Option V}{K:V→Prop}(h:withO r K):∃v,r=some v∧K v:=by
 unfold withO at h;split at h
 ·exact⟨_,rfl,h⟩
 ·exact h.elim
theorem Yb{op:UnOp}{T:TypeId}{x:Operand}(az:o.op=.unOp op T x)(h:evg g (σ.ev x) fun a=>withO (unE op a) fun v=>K (cg v)):∃r,fO P o g σ n r∧K r:=by
 obtain⟨jg,h,hx⟩:=fb h;obtain⟨v,ah,bU⟩:=Gk h;refine⟨_,k8 fun σ' aR B w0 aG φ kp a w r hg=>?_,bU⟩;have cL:=hx _ _ _ _ hg (eW aR r x);unfold unE at ah;split at ah
 ·cases ah;exact⟨.bool _,by unfold execOp;rw[az];simp[lB cL,Op.unary],t7 _⟩
 ·cases ah;exact⟨.int _ _,by unfold execOp;rw[az];simp[(k7 cL).1,Op.unary,Op.intArith],mj (u7 _ _)⟩
 ·cases ah
def lenE(P:Program)(T:TypeId)(v:V):Option Nat:=
 match v with
 |.d (.str s)=>if isStrI P T then some s.length else none
 |.d (.sl _ xs)=>if(elI P T).isSome then some xs.length else none
 |.c6 _=>if(elI P T).isSome then some 0 else none
 |.sl _ _ len=>if(elI P T).isSome then some len else none
 |_=>none
theorem tX{T:TypeId}{e sz fa:Nat}(h:elI P T=some (e,sz,fa)):∃i,P.underlying T=some (.slice e)∧P.info? e=some i∧i.size=sz∧i.bytes=fa:=by
 unfold elI at h;split at h
 ·rename_i e' hu
  cases hi:P.info? e' with
  |none=>rw[hi]at h;cases h
  |some i=>
   rw[hi]at h;simp only[Option.map_some,Option.some.injEq,Prod.mk.injEq]at h;obtain⟨rfl,rfl,rfl⟩:=h;exact⟨i,hu,hi,rfl,rfl⟩
 ·cases h
theorem Ba{T:TypeId}(h:isStrI P T=true):P.underlying T=some .string:=by
 unfold isStrI at h;split at h<;>first|assumption|cases h
theorem KT{T:TypeId}{k:IntKind}(h:intI P T=some k):P.underlying T=some (.int k):=by
 unfold intI at h;split at h
 ·cases h;assumption
 ·cases h
theorem s0{φ:b2}{T:Nat→Prop}{h:Array Obj}{id off len:Nat}{u:Value}(r:VRel φ T h (.sl id off len) u) :
  ∃β a c,φ id=some β∧u=.slice a len c∧len≤c∧c≤maxLen∧((c=0∧len=0∧off=β.cap)∨∃b,β.dP=some b∧a=some ⟨b,β.off+off * β.sz,none⟩∧off+c=β.cap):=by
 simp only[VRel]at r;obtain⟨β,a,c,h1,h2,ak,aC⟩:=r;rcases aC with aC|⟨b,aC,bL,eD,l5⟩
 ·exact⟨β,a,c,h1,h2,by omega,ak,.inl aC⟩
 ·exact⟨β,a,c,h1,h2,eD,ak,.inr ⟨b,aC,bL,l5⟩⟩
theorem CJ{φ:b2}{T:Nat→Prop}{h:Array Obj}{sz:Nat}{xs:List (List D)}{u:Value}(r:VRel φ T h (.d (.sl sz xs)) u) :
  ∃a c,u=.slice a xs.length c∧xs.length≤c∧c≤maxLen∧(xs=[]∨∃b f G,a=some ⟨b,f,none⟩∧b<h.size∧T b∧repE h false b f sz xs G∧∀g∈G,T g):=by
 simp only[VRel,rep]at r;obtain⟨F,⟨a,c,h1,h2,ak,aC⟩,cw⟩:=r;refine⟨a,c,h1,h2,ak,?_⟩;rcases aC with aC|⟨b,f,G,ai,aj,aT,bj,_⟩
 ·exact .inl aC.1
 ·subst aj;exact .inr ⟨b,f,G,ai,aT,cw b (by simp),bj,fun g hg=>cw g (by simp[hg])⟩
theorem Gl{φ:b2}{T:Nat→Prop}{h:Array Obj}{m:Nat}(hm:m≤maxLen):VRel φ T h (nr .i64 m) (goInt m):=by
 refine mj ⟨?_,?_⟩
 ·have:IntKind.i64.min=-9223372036854775808:=by decide
  rw[this];omega
 ·have:IntKind.i64.max=9223372036854775807:=by decide
  rw[this];simp only[maxLen]at hm;omega
theorem ok_len{c:Call}{x:Operand}{T:TypeId}(az:o.op=.call c)(hc:c={callee:=.builtin .len,args:=#[x],argTypes:=#[T]})
  (h:evg g (σ.ev x) fun a=>match lenE P T a with|some m=>K (cg (nr .i64 m))|none=>False):∃r,fO P o g σ n r∧K r:=by
 subst hc;obtain⟨jg,h,hx⟩:=fb h;split at h
 ·rename_i m hm;refine⟨_,k8 fun σ' aR B w0 aG φ kp a w r hg=>?_,h⟩;have cL:=hx _ _ _ _ hg (eW aR r x);have hs:∀{e sz fa:Nat} {ad:Option Addr} {l kC:Nat},elI P T=some (e,sz,fa)→a.eval x=.slice ad l kC→(execOp a.eval o).run P w=.ok (.value (goInt l)) w:=by
   intro e sz fa ad l kC he hu;obtain⟨i,mb,_⟩:=tX he;unfold execOp;rw[az];simp[resolve,invoke,builtin,Builtin.len_,run_underlying mb,hu]
  unfold lenE at hm;split at hm
  ·split at hm
   ·rename_i s hs'
    cases hm
    have ai:=xO cL;refine⟨goInt s.length,?_,Gl ai.2⟩;unfold execOp;rw[az];have:(⟨s.toArray⟩:ByteArray).size=s.length:=by simp[ByteArray.size]
    simp[resolve,invoke,builtin,Builtin.len_,run_underlying (Ba hs'),ai.1,this]
   ·cases hm
  ·split at hm
   ·rename_i sz xs he
    cases hm
    obtain⟨ad,kC,ai,aj,aT,_⟩:=CJ cL;obtain⟨⟨e,s,fa⟩,he⟩:=Option.isSome_iff_exists.1 he;exact⟨_,hs he ai,Gl (by omega)⟩
   ·cases hm
  ·split at hm
   ·rename_i sz he
    cases hm
    obtain⟨⟨e,s,fa⟩,he⟩:=Option.isSome_iff_exists.1 he;simp only[VRel]at cL;exact⟨_,hs he cL,Gl (by decide)⟩
   ·cases hm
  ·split at hm
   ·rename_i id off len he
    cases hm
    obtain⟨β,ad,kC,_,ai,aj,aT,_⟩:=s0 cL;obtain⟨⟨e,s,fa⟩,he⟩:=Option.isSome_iff_exists.1 he;exact⟨_,hs he ai,Gl (by omega)⟩
   ·cases hm
  ·cases hm
 ·exact h.elim
def extE(v:V)(i:Nat):Option V:=match v with|.dB vs=>vs[i]?|_=>none
theorem Yc{x:Operand}{i:Nat}(az:o.op=.extract x i)(h:evg g (σ.ev x) fun a=>withO (extE a i) fun v=>K (cg v)):∃r,fO P o g σ n r∧K r:=by
 obtain⟨jg,h,hx⟩:=fb h;obtain⟨v,ah,bU⟩:=Gk h;refine⟨_,k8 fun σ' aR B w0 aG φ kp a w r hg=>?_,bU⟩;have cL:=hx _ _ _ _ hg (eW aR r x);unfold extE at ah;split at ah
 ·simp only[VRel]at cL;obtain⟨us,ai,aH⟩:=cL;obtain⟨u,aj,aZ⟩:=t0 _ _ aH i v ah;rw[Array.getElem?_toList]at aj;exact⟨u,by unfold execOp;rw[az];simp[ai,Instr.extract,aj],aZ⟩
 ·cases ah
def ptrE(v:V):Bool:=match v with|.ptr _ _ _|.ep _ _=>true|_=>false
theorem Zk{φ:b2}{T:Nat→Prop}{h:Array Obj}{v:V}{u:Value}(hv:ptrE v=true)(r:VRel φ T h v u):∃b f,u=.pointer (some ⟨b,f,none⟩):=by
 unfold ptrE at hv;split at hv
 ·simp only[VRel]at r;obtain⟨β,b,_,_,r⟩:=r;exact⟨_,_,r⟩
 ·simp only[VRel]at r;obtain⟨b,f,G,r,_⟩:=r;exact⟨_,_,r⟩
 ·cases hv
theorem Yd{x:Operand}(az:o.op=.nilCheck x)(h:evg g (σ.ev x) fun a=>ptrE a=true∧K (cg a)):∃r,fO P o g σ n r∧K r:=by
 obtain⟨jg,h,hx⟩:=fb h;refine⟨_,k8 fun σ' aR B w0 aG φ kp a w r hg=>?_,h.2⟩;have cL:=hx _ _ _ _ hg (eW aR r x);obtain⟨b,f,e⟩:=Zk h.1 cL;exact⟨a.eval x,by unfold execOp;rw[az];simp[e],cL⟩
def faE(P:Program)(S:TypeId)(f:Nat)(v:V):Option V:=
 match fdI P S f,v with
 |some d,.ptr id bG off=>some (.ptr id bG (off+d))
 |some d,.ep cells off=>some (.ep cells (off+d))
 |_,_=>none
theorem add_lit(b f m:Nat):(⟨b,f,none⟩:Addr).add m=⟨b,f+m,none⟩:=by
 unfold Addr.add;split<;>simp_all
theorem Ye{S:TypeId}{x:Operand}{f:Nat}(az:o.op=.fieldAddr S x f)(h:evg g (σ.ev x) fun a=>withO (faE P S f a) fun v=>K (cg v)):∃r,fO P o g σ n r∧K r:=by
 obtain⟨jg,h,hx⟩:=fb h;obtain⟨v,ah,bU⟩:=Gk h;refine⟨_,k8 fun σ' aR B w0 aG φ kp a w r hg=>?_,bU⟩;have cL:=hx _ _ _ _ hg (eW aR r x);unfold faE at ah;have key:∀{d b p:Nat},fdI P S f=some d→a.eval x=.pointer (some ⟨b,p,none⟩)→(execOp a.eval o).run P w=.ok (.value (.pointer (some ⟨b,p+d,none⟩))) w:=by
  intro d b p hd hu;unfold fdI at hd;split at hd
  ·rename_i cp aQ;split at hd
   ·rename_i u5 BP;split at hd
    ·rename_i i hi;split at hd
     ·cases hd
     ·rename_i hz
      cases hd
      unfold execOp;rw[az];have h1:(Go.sizeOf u5.type).run P w=Result.ok i.size w:=by simp[Go.sizeOf,typeInfo,hi]
      simp[Instr.fieldAt,run_underlying aQ,BP,hu,Instr.sureAddr,fieldPlace,h1,hz,add_lit]
    ·cases hd
   ·cases hd
  ·cases hd
 split at ah
 ·rename_i d id bG off hd
  cases ah
  simp only[VRel]at cL;obtain⟨β,b,ai,aj,aT⟩:=cL;exact⟨_,key hd aT,by simp only[VRel];exact⟨β,b,ai,aj,by simp[Nat.add_assoc]⟩⟩
 ·rename_i d cells off hd
  cases ah
  simp only[VRel]at cL;obtain⟨b,p,G,ai,aj⟩:=cL;exact⟨_,key hd ai,by simp only[VRel];exact⟨b,p,G,by simp[Nat.add_assoc],aj⟩⟩
 ·cases ah
variable {P:Program} {o:Oper} {g:Bool} {σ:St} {n:Nat} {K:dS→Prop}
def H.els:H→Option (Nat×List (List D))
 |.ao sz xs _=>some (sz,xs)
 |.g1 sz xs=>some (sz,xs)
 |_=>none
def H.esz:H→Option Nat
 |.ao sz _ _=>some sz
 |.g1 sz _=>some sz
 |.ag sz _=>some sz
 |.fR sz _ _ _=>some sz
 |_=>none
def iaE(P:Program)(hs:List H)(T:TypeId)(x:V)(i:Int):Option (Prop×V):=
 match x with
 |.sl id off len=>
  match elI P T,(aN hs id).esz with
  |some (_,sz,_),some f'=>if sz=f' then some (0≤i∧i<len,.ptr id (off+i.toNat) 0)else none
  |some (_,sz,_),none=>match aN hs id with|.box _=>if sz=1∧off=0 then some (0≤i∧i<len,.ptr id 0 i.toNat)else none|_=>none
  |_,_=>none
 |.d (.sl f' xs)=>
  match elI P T with
  |some (_,sz,_)=>if sz=f' then some (0≤i∧i.toNat<xs.length,.ep ((xs[i.toNat]?).getD []) 0)else none
  |none=>none
 |.ptr id bG off=>
  match arI P T with
  |some (len,sz)=>some (0≤i∧i<len,.ptr id bG (off+i.toNat * sz))
  |none=>none
 |.ep cells off=>
  match arI P T with
  |some (len,sz)=>some (0≤i∧i<len,.ep cells (off+i.toNat * sz))
  |none=>none
 |_=>none
theorem KU{φ:b2}{T:Nat→Prop}{h:Array Obj}{β:fU}{x:H}{sz:Nat}{xs:List (List D)}(he:x.els=some (sz,xs))(r:dG φ T h β x):β.sz=sz:=by
 cases x<;>simp only[H.els,reduceCtorEq,Option.some.injEq,Prod.mk.injEq]at he
 ·simp only[dG]at r;rw[r.1,he.1]
 ·simp only[dG]at r;rw[r.1,he.1]
theorem Zl{φ:b2}{T:Nat→Prop}{h:Array Obj}{β:fU}{x:H}{sz:Nat}(he:x.esz=some sz)(r:dG φ T h β x):β.sz=sz:=by
 cases x<;>simp only[H.esz,reduceCtorEq,Option.some.injEq]at he<;>(simp only[dG]at r;rw[r.1,he])
theorem Rj{σ σ':St}(aR:σ.le σ'){id:Nat}{p:Nat}(he:(aN σ.heap id).esz=some p):(aN σ'.heap id).esz=some p:=by
 rcases aR.2 id with h|h
 ·rw[h]at he;cases he
 ·rw[h];exact he
theorem Zm{B:Nat→Prop}{w0:World}{aG:Nat→Prop}{φ:b2}{kp:List (V×Value)}{a:Act}{w:World}{σ:St}(r:R B w0 aG φ σ kp a w){id:Nat}{p:Nat}(he:(aN σ.heap id).esz=some p) :
  ∃β,φ id=some β∧dG φ (b8 φ σ.heap) w.heap β (aN σ.heap id):=by
 rcases r.hp id with h|h
 ·rw[h]at he;cases he
 ·exact h
theorem AQ{σ σ':St}(aR:σ.le σ'){id:Nat}{p:Nat×List (List D)}(he:(aN σ.heap id).els=some p):(aN σ'.heap id).els=some p:=by
 rcases aR.2 id with h|h
 ·rw[h]at he;cases he
 ·rw[h];exact he
theorem FJ{B:Nat→Prop}{w0:World}{aG:Nat→Prop}{φ:b2}{kp:List (V×Value)}{a:Act}{w:World}{σ:St}(r:R B w0 aG φ σ kp a w){id:Nat}{p:Nat×List (List D)}(he:(aN σ.heap id).els=some p) :
  ∃β,φ id=some β∧dG φ (b8 φ σ.heap) w.heap β (aN σ.heap id):=by
 rcases r.hp id with h|h
 ·rw[h]at he;cases he
 ·exact h
theorem Zn{T:TypeId}{l sz:Nat}(h:arI P T=some (l,sz)):∃e i,P.underlying T=some (.array l e)∧P.info? e=some i∧i.size=sz:=by
 unfold arI at h;split at h
 ·rename_i akK e' hu
  cases hi:P.info? e' with
  |none=>rw[hi]at h;cases h
  |some i=>
   rw[hi]at h;simp only[Option.map_some,Option.some.injEq,Prod.mk.injEq]at h;obtain⟨rfl,rfl⟩:=h;exact⟨e',i,hu,hi,rfl⟩
 ·cases h
theorem Yf{T:TypeId}{x iO:Operand}(az:o.op=.indexAddr T x iO)
  (h:evg g (σ.ev x) fun a=>evg g (σ.ev iO) fun b=>asI b fun _ i=>withR (iaE P σ.heap T a i) fun v=>K (cg v)):∃r,fO P o g σ n r∧K r:=by
 obtain⟨jg,h,hx⟩:=fb h;obtain⟨y5,h,hy⟩:=fb h;obtain⟨k,i,rfl,h⟩:=xL h;obtain⟨p,v,ah,hp,bU⟩:=xN h;refine⟨_,k8 fun σ' aR B w0 aG φ kp a w r hg=>?_,bU⟩;have cL:=hx _ _ _ _ hg (eW aR r x);have jG:=k7 (hy _ _ _ _ hg (eW aR r iO));have slice:∀{e sz fa:Nat} {b f len kC:Nat},elI P T=some (e,sz,fa)→a.eval x=.slice (some ⟨b,f,none⟩) len kC→0≤i→i<len→
   (execOp a.eval o).run P w=.ok (.value (.pointer (some ⟨b,f+i.toNat * sz,none⟩))) w:=by
  intro e sz fa b f len kC he hu h0 h1;obtain⟨xM,mb,hi,hs,_⟩:=tX he;unfold execOp;rw[az];have cH:(Go.sizeOf e).run P w=Result.ok sz w:=by simp[Go.sizeOf,typeInfo,hi,hs]
  simp[Instr.indexAt,run_underlying mb,hu,jG.1,asIntOf,h0,h1,cH,add_lit]
 have array:∀{l sz b f:Nat},arI P T=some (l,sz)→a.eval x=.pointer (some ⟨b,f,none⟩)→0≤i→i<l→(execOp a.eval o).run P w=.ok (.value (.pointer (some ⟨b,f+i.toNat * sz,none⟩))) w:=by
  intro l sz b f he hu h0 h1;obtain⟨e,xM,mb,hi,hs⟩:=Zn he;unfold execOp;rw[az];have cH:(Go.sizeOf e).run P w=Result.ok sz w:=by simp[Go.sizeOf,typeInfo,hi,hs]
  simp[Instr.indexAt,run_underlying mb,hu,jG.1,asIntOf,h0,h1,cH,add_lit,Instr.sureAddr]
 unfold iaE at ah;split at ah
 ·rename_i id off len;split at ah
  ·rename_i e sz fa f' he hel;split at ah
   ·rename_i cH;subst cH;simp only[Option.some.injEq,Prod.mk.injEq]at ah;obtain⟨rfl,rfl⟩:=ah;obtain⟨β,ad,c,ai,aj,aT,bj,cr⟩:=s0 cL;obtain⟨a7,fq,hr⟩:=Zm r (Rj aR hel);rw[ai]at fq;cases fq;have hs:=Zl (Rj aR hel) hr;rcases cr with cr|⟨b,cr,iU,mf⟩
    ·have:=hp.2;omega
    ·subst iU;refine⟨_,slice he aj hp.1 hp.2,?_⟩;simp only[VRel];refine⟨β,b,ai,cr,?_⟩;rw[hs,Nat.add_mul];simp[Nat.add_assoc]
   ·cases ah
  ·rename_i e sz fa he akL;split at ah
   ·rename_i cells akM;split at ah
    ·rename_i hc;obtain⟨rfl,rfl⟩:=hc;simp only[Option.some.injEq,Prod.mk.injEq]at ah;obtain⟨rfl,rfl⟩:=ah;obtain⟨β,ad,c,ai,aj,aT,bj,cr⟩:=s0 cL;rcases cr with cr|⟨b,cr,iU,mf⟩
     ·have:=hp.2;omega
     ·subst iU;refine⟨_,slice he aj hp.1 hp.2,?_⟩;simp only[VRel];exact⟨β,b,ai,cr,by simp⟩
    ·cases ah
   ·cases ah
  ·cases ah
 ·rename_i f' xs;split at ah
  ·rename_i e sz fa he;split at ah
   ·rename_i cH;subst cH;simp only[Option.some.injEq,Prod.mk.injEq]at ah;obtain⟨rfl,rfl⟩:=ah;obtain⟨ad,c,ai,aj,aT,bj⟩:=CJ cL;rcases bj with bj|⟨b,f,G,bj,cr,iU,mf,Dl⟩
    ·subst bj;simp at hp
    ·subst bj;have hlt:=hp.2;obtain⟨bH,mi,bA,rfl,k1,_,k2,_⟩:=C0 mf (List.getElem?_eq_getElem hlt);refine⟨_,slice he ai hp.1 (by omega),?_⟩;simp only[VRel];refine⟨b,f+i.toNat * sz,mi,by simp,cr,iU,?_,fun g hg=>Dl g (by simp[hg])⟩;rw[List.getElem?_eq_getElem hlt];exact k2
   ·cases ah
  ·cases ah
 ·rename_i id bG off;split at ah
  ·rename_i len sz he;simp only[Option.some.injEq,Prod.mk.injEq]at ah;obtain⟨rfl,rfl⟩:=ah;simp only[VRel]at cL;obtain⟨β,b,ai,aj,aT⟩:=cL;exact⟨_,array he aT hp.1 hp.2,by simp only[VRel];exact⟨β,b,ai,aj,by simp[Nat.add_assoc]⟩⟩
  ·cases ah
 ·rename_i cells off;split at ah
  ·rename_i len sz he;simp only[Option.some.injEq,Prod.mk.injEq]at ah;obtain⟨rfl,rfl⟩:=ah;simp only[VRel]at cL;obtain⟨b,f,G,ai,aj⟩:=cL;exact⟨_,array he ai hp.1 hp.2,by simp only[VRel];exact⟨b,f,G,by simp[Nat.add_assoc],aj⟩⟩
  ·cases ah
 ·cases ah
def u3(fx:Bool)(vs:List V):V:=if fx then .agg vs else vs.headD .ab
def loadE(P:Program)(hs:List H)(T:TypeId)(x:V):Option (Prop×V):=
 match tyI P T,x with
 |some (sz,fx),.ptr id bG off=>
  match aN hs id with
  |.box cells=>some (bG=0∧off+sz≤cells.length∧(fx=false→sz=1),u3 fx ((cells.drop off).take sz))
  |.ao _ xs _=>some (bG<xs.length∧off+sz≤((xs[bG]?).getD []).length∧(fx=false→sz=1),u3 fx (((((xs[bG]?).getD []).drop off).take sz).map V.d))
  |.g1 _ xs=>some (bG<xs.length∧off+sz≤((xs[bG]?).getD []).length∧(fx=false→sz=1),u3 fx (((((xs[bG]?).getD []).drop off).take sz).map V.d))
  |.fR _ pre cells _=>some (bG=pre.length∧off+sz≤cells.length∧(fx=false→sz=1),u3 fx ((cells.drop off).take sz))
  |_=>none
 |some (sz,fx),.ep cells off=>some (off+sz≤cells.length∧(fx=false→sz=1),u3 fx (((cells.drop off).take sz).map V.d))
 |_,_=>none
theorem KC{T:TypeId}{sz:Nat}{fx:Bool}(h:tyI P T=some (sz,fx)):∃i,P.info? T=some i∧i.size=sz∧∀w,(isAgg T).run P w=.ok fx w:=by
 unfold tyI at h;split at h
 ·rename_i i d h1 h2;simp only[Option.some.injEq,Prod.mk.injEq]at h;obtain⟨rfl,rfl⟩:=h;refine⟨i,h1,rfl,fun w=>?_⟩;unfold isAgg;simp only[Sem.run_bind,run_underlying h2,Result.andThen_ok]
  cases d<;>rfl
 ·cases h
theorem run_load{T:TypeId}{sz:Nat}{fx:Bool}(h:tyI P T=some (sz,fx)){w:World}{b f:Nat}{us:List Value}(hl:us.length=sz)(h1:fx=false→sz=1)(hc:∀(j:Nat) (u:Value),us[j]?=some u→cellAt w.heap b (f+j)=some u) :
  (loadVar T ⟨b,f,none⟩).run P w=.ok (if fx then .agg us.toArray else us.headD undef) w:=by
 obtain⟨i,hi,hs,KV⟩:=KC h;unfold loadVar;simp only[Sem.run_bind,KV,Result.andThen_ok]
 cases fx with
 |true=>
  have:=run_loadCells_list (P:=P) w ⟨b,f,none⟩ us (fun j v av=>by rw[add_lit,cell_eq];exact hc j v av);simp[Go.sizeOf,typeInfo,hi,hs,←hl,this]
 |false=>
  have cH:=h1 rfl
  match us,hl,cH with
  |[u],_,_=>
   have h0:=hc 0 u rfl;rw[Nat.add_zero,←cell_eq]at h0;simp[h0]
theorem Zo{φ:b2}{T:Nat→Prop}{h:Array Obj}{fx:Bool}{vs:List V}{us:List Value}{sz:Nat}(hl:us.length=sz)(h1:fx=false→sz=1)(r:VRels φ T h vs us) :
  VRel φ T h (u3 fx vs) (if fx then .agg us.toArray else us.headD undef):=by
 cases fx with
 |true=>simp only[u3,if_true,VRel];exact⟨us.toArray,rfl,r⟩
 |false=>
  have cH:=h1 rfl
  match us,hl,cH with
  |[u],_,_=>
   cases vs with
   |nil=>simp only[VRels]at r;cases r
   |cons v vs=>
    simp only[VRels]at r;obtain⟨uZ,bY,e,aH,aZ⟩:=r
    cases e
    simpa [u3]using aH
theorem Gm{φ:b2}{T:Nat→Prop}{h:Array Obj}{b:Nat}:∀(ds:List D) (f:Nat) (G:List Nat),repC h false b f ds G→(∀g∈G,T g)→∃us:List Value,us.length=ds.length∧VRels φ T h (ds.map V.d) us∧∀(j:Nat) (u:Value),us[j]?=some u→cellAt h b (f+j)=some u
 |[],_,_,_,_=>⟨[],rfl,by simp[VRels],by simp⟩
 |d::ds,f,G,r,cw=>by
  simp only[repC]at r;obtain⟨v,bH,bA,rfl,aj,aT,bj⟩:=r;obtain⟨us,k1,k2,dw⟩:=Gm ds (f+1) bA bj (fun g hg=>cw g (by simp[hg]));refine⟨v::us,by simp[k1],?_,fun j u av=>?_⟩
  ·simp only[List.map_cons,VRels,VRel];exact⟨v,us,rfl,⟨bH,aT,fun g hg=>cw g (by simp[hg])⟩,k2⟩
  ·cases j with
   |zero=>simp at av;subst av;simpa using aj
   |succ j=>rw[show f+(j+1)=f+1+j from by omega];exact dw j u (by simpa using av)
theorem Zp{h:Array Obj}{b f:Nat}{us:List Value}(hc:∀(j:Nat) (u:Value),us[j]?=some u→cellAt h b (f+j)=some u)(off sz:Nat) :
  ∀(j:Nat) (u:Value),((us.drop off).take sz)[j]?=some u→cellAt h b (f+off+j)=some u:=by
 intro j u av;rw[List.getElem?_take]at av;split at av
 ·rw[List.getElem?_drop]at av;rw[Nat.add_assoc];exact hc _ _ av
 ·cases av
theorem Rk{B:Nat→Prop}{w0:World}{aG:Nat→Prop}{φ:b2}{kp:List (V×Value)}{a:Act}{w:World}{σ:St}(r:R B w0 aG φ σ kp a w){id:Nat}{sz:Nat}{xs:List (List D)}(he:(aN σ.heap id).els=some (sz,xs))
  {β:fU} (hb:φ id=some β) {bG:Nat} (hi:bG<xs.length):∃b,β.dP=some b∧∃us:List Value,us.length=((xs[bG]?).getD []).length∧VRels φ (b8 φ σ.heap) w.heap (((xs[bG]?).getD []).map V.d) us∧
   ∀(j:Nat) (u:Value),us[j]?=some u→cellAt w.heap b (β.off+bG * β.sz+j)=some u:=by
 obtain⟨a7,ai,hr⟩:=FJ r he;rw[hb]at ai;cases ai;have cH:=KU he hr;have nX:xs[bG]?=some xs[bG]:=List.getElem?_eq_getElem hi;rw[nX]
 cases hx:aN σ.heap id with
 |c1=>rw[hx]at he;cases he
 |box cells=>rw[hx]at he;cases he
 |ag _ _=>rw[hx]at he;cases he
 |fR _ _ _ _=>rw[hx]at he;cases he
 |ao f' kD iN=>
  rw[hx]at he hr;simp only[H.els,Option.some.injEq,Prod.mk.injEq]at he;obtain⟨rfl,rfl⟩:=he;simp only[dG]at hr;rcases hr.2 with hr|⟨b,G,aH,aZ,ca,cf,eh,gJ⟩
  ·rw[hr.2.1]at hi;simp at hi
  ·obtain⟨bH,mi,bA,rfl,k1,_,k2,_⟩:=C0 cf nX;have cw:∀g∈mi,b8 φ σ.heap g:=by
    intro g hg
    cases iN with
    |true=>exact Q3 r hb (by rw[hx];rfl) (by rw[hx];rfl) (by rw[←eh rfl];simp[hg])
    |false=>exact gJ rfl g (by simp[hg])
   have Zq:repC w.heap false b (β.off+bG * f') (kD[bG]) mi:=by
    cases iN with
    |true=>exact Ks _ _ _ _ k2
    |false=>exact k2
   obtain⟨us,iM,jf,mc⟩:=Gm (φ:=φ) _ _ _ Zq cw;exact⟨b,aH,us,iM,jf,by rw[cH];exact mc⟩
 |g1 f' kD=>
  rw[hx]at he hr;simp only[H.els,Option.some.injEq,Prod.mk.injEq]at he;obtain⟨rfl,rfl⟩:=he;simp only[dG]at hr;rcases hr.2 with hr|⟨b,G,aH,aZ,ca,cf,eh⟩
  ·rw[hr]at hi;simp at hi
  ·obtain⟨bH,mi,bA,rfl,k1,_,k2,_⟩:=C0 cf nX;obtain⟨us,iM,jf,mc⟩:=Gm (φ:=φ) _ _ _ k2 (fun g hg=>eh g (by simp[hg]));exact⟨b,aH,us,iM,jf,by rw[cH];exact mc⟩
theorem Rl{T:TypeId}{B:Nat→Prop}{w0:World}{aG:Nat→Prop}{φ:b2}{kp:List (V×Value)}{a:Act}{w:World}{σ σ':St}(aR:σ.le σ')(r:R B w0 aG φ σ' kp a w){jg v:V}{p:Prop}(ah:loadE P σ.heap T jg=some (p,v))(hp:p)
  {Gn:Value} (cL:VRel φ (b8 φ σ'.heap) w.heap jg Gn):∃b f u,Gn=.pointer (some ⟨b,f,none⟩)∧(loadVar T ⟨b,f,none⟩).run P w=.ok u w∧VRel φ (b8 φ σ'.heap) w.heap v u:=by
 have ba:∀{sz:Nat} {fx:Bool} {b f off:Nat} {vs:List V} {us:List Value},tyI P T=some (sz,fx)→(fx=false→sz=1)→off+sz≤us.length→VRels φ (b8 φ σ'.heap) w.heap vs us→
   (∀(j:Nat) (u:Value),us[j]?=some u→cellAt w.heap b (f+j)=some u)→Gn=.pointer (some ⟨b,f+off,none⟩)→
   ∃b f u,Gn=.pointer (some ⟨b,f,none⟩)∧(loadVar T ⟨b,f,none⟩).run P w=.ok u w∧VRel φ (b8 φ σ'.heap) w.heap (u3 fx ((vs.drop off).take sz)) u:=by
  intro sz fx b f off vs us nu h1 akN hv hc hu;have hl:((us.drop off).take sz).length=sz:=by simp;omega
  refine⟨_,_,_,hu,run_load nu hl h1 (Zp hc off sz),?_⟩;exact Zo hl h1 (Q1 (Q2 hv off) sz)
 unfold loadE at ah;split at ah
 ·rename_i sz fx id bG off nu;simp only[VRel]at cL;obtain⟨β,b,ai,aj,aT⟩:=cL;have hh:=aR.2 id;split at ah
  ·rename_i cells hc;simp only[Option.some.injEq,Prod.mk.injEq]at ah;obtain⟨rfl,rfl⟩:=ah;have fM:aN σ'.heap id=.box cells:=by
    rcases hh with hh|hh
    ·rw[hc]at hh;cases hh
    ·rw[hh,hc]
   rcases r.hp id with hd|⟨a7,fq,hr⟩
   ·rw[fM]at hd;cases hd
   ·rw[ai]at fq;cases fq;rw[fM]at hr;simp only[dG]at hr;obtain⟨c8,cs,t,aH,aZ,ca,cf⟩:=hr;rw[aj]at aH;cases aH;obtain⟨dh,c_,fK⟩:=hp;have eB:=i6 _ _ cf;refine ba (b:=b) (f:=0) nu fK (by rw[eB];exact c_) cf (fun j u av=>?_) (by rw[aT,dh,aZ];simp);unfold cellAt;rw[ca];simpa using av
  ·rename_i f' xs iN hc;simp only[Option.some.injEq,Prod.mk.injEq]at ah;obtain⟨rfl,rfl⟩:=ah;have fM:(aN σ'.heap id).els=some (f',xs):=AQ aR (by rw[hc];rfl);obtain⟨dh,c_,fK⟩:=hp;obtain⟨c8,k1,us,k2,dw,gj⟩:=Rk r fM ai dh;rw[aj]at k1;cases k1;have:=ba (b:=b) (f:=β.off+bG * β.sz) nu fK (by rw[k2];exact c_) dw gj aT;rw[List.map_take,List.map_drop];exact this
  ·rename_i f' xs hc;simp only[Option.some.injEq,Prod.mk.injEq]at ah;obtain⟨rfl,rfl⟩:=ah;have fM:(aN σ'.heap id).els=some (f',xs):=AQ aR (by rw[hc];rfl);obtain⟨dh,c_,fK⟩:=hp;obtain⟨c8,k1,us,k2,dw,gj⟩:=Rk r fM ai dh;rw[aj]at k1;cases k1;have:=ba (b:=b) (f:=β.off+bG * β.sz) nu fK (by rw[k2];exact c_) dw gj aT;rw[List.map_take,List.map_drop];exact this
  ·rename_i f' pre cells post hc;simp only[Option.some.injEq,Prod.mk.injEq]at ah;obtain⟨rfl,rfl⟩:=ah;have fM:aN σ'.heap id=.fR f' pre cells post:=by
    rcases hh with hh|hh
    ·rw[hc]at hh;cases hh
    ·rw[hh,hc]
   rcases r.hp id with hd|⟨a7,fq,hr⟩
   ·rw[fM]at hd;cases hd
   ·rw[ai]at fq;cases fq;rw[fM]at hr;simp only[dG]at hr;obtain⟨hs,hcl,c8,bH,bA,us,aH,aZ,ca,cf,eh,gJ,u1,xE⟩:=hr;rw[aj]at aH;cases aH;obtain⟨dh,c_,fK⟩:=hp;have eB:=i6 _ _ gJ;exact ba (b:=b) (f:=β.off+pre.length * f') nu fK (by rw[eB];exact c_) gJ u1 (by rw[aT,dh,hs])
  ·cases ah
 ·rename_i sz fx cells off nu;simp only[Option.some.injEq,Prod.mk.injEq]at ah;obtain⟨rfl,rfl⟩:=ah;simp only[VRel]at cL;obtain⟨b,f,G,ai,aj,aT,bj,cr⟩:=cL;obtain⟨us,iM,jf,mc⟩:=Gm (φ:=φ) _ _ _ bj cr;have:=ba (b:=b) (f:=f) nu hp.2 (by rw[iM];exact hp.1) jf mc ai;rw[List.map_take,List.map_drop];exact this
 ·cases ah
theorem Yg{T:TypeId}{x:Operand}(az:o.op=.load T x)(h:evg g (σ.ev x) fun a=>withR (loadE P σ.heap T a) fun v=>K (cg v)):∃r,fO P o g σ n r∧K r:=by
 obtain⟨jg,h,hx⟩:=fb h;obtain⟨p,v,ah,hp,bU⟩:=xN h;refine⟨_,k8 fun σ' aR B w0 aG φ kp a w r hg=>?_,bU⟩;obtain⟨b,f,u,hu,hl,hv⟩:=Rl aR r ah hp (hx _ _ _ _ hg (eW aR r x));refine⟨u,?_,hv⟩;unfold execOp;rw[az];simp[Instr.loadAt,hu,Instr.sureAddr,hl]
variable {P:Program} {o:Oper} {g:Bool} {σ:St} {n:Nat} {K:dS→Prop}
def ixE(P:Program)(T:TypeId)(x:V)(i:Int):Option (Prop×V):=
 match x with
 |.d (.str s)=>if isStrI P T then some (0≤i∧i.toNat<s.length,nr .u8 ((s[i.toNat]?).getD 0).toNat)else none
 |.agg vs=>
  match P.underlying T with
  |some (.array len e)=>if tyI P e=some (1,false)then some (0≤i∧i<len∧i.toNat<vs.length,(vs[i.toNat]?).getD .ab)else none
  |_=>none
 |_=>none
theorem Zr(b:UInt8):IntKind.u8.min≤(b.toNat:Int)∧(b.toNat:Int)≤IntKind.u8.max:=by
 have h:=b.toNat_lt;have h1:IntKind.u8.min=0:=by decide
 have h2:IntKind.u8.max=255:=by decide
 rw[h1,h2];omega
theorem Yh{T:TypeId}{x iO:Operand}(az:o.op=.index T x iO)
  (h:evg g (σ.ev x) fun a=>evg g (σ.ev iO) fun b=>asI b fun _ i=>withR (ixE P T a i) fun v=>K (cg v)):∃r,fO P o g σ n r∧K r:=by
 obtain⟨jg,h1,hx⟩:=fb h;obtain⟨y5,h2,hy⟩:=fb h1;obtain⟨k,i,rfl,ak⟩:=xL h2;obtain⟨p,v,ah,hp,bU⟩:=xN ak;clear h h1 h2 ak;refine⟨_,k8 fun σ' aR B w0 aG φ kp a w r hg=>?_,bU⟩;have cL:=hx _ _ _ _ hg (eW aR r x);have jG:=k7 (hy _ _ _ _ hg (eW aR r iO));unfold ixE at ah;split at ah
 ·rename_i s;split at ah
  ·rename_i hs;simp only[Option.some.injEq,Prod.mk.injEq]at ah;obtain⟨rfl,rfl⟩:=ah;have ai:=xO cL;have hlt:=hp.2;refine⟨.int .u8 (s[i.toNat]'hlt).toNat,?_,?_⟩
   ·unfold execOp;rw[az];have hb:(⟨s.toArray⟩:ByteArray)[i.toNat]?=some (s[i.toNat]'hlt):=by
     have cH:i.toNat<(⟨s.toArray⟩:ByteArray).size:=by simpa [ByteArray.size]using hlt
     rw[getElem?_pos (⟨s.toArray⟩:ByteArray) i.toNat cH];rfl
    simp[Instr.index,run_underlying (Ba hs),ai.1,jG.1,asIntOf,hp.1,hb]
   ·rw[List.getElem?_eq_getElem hlt];exact mj (Zr _)
  ·cases ah
 ·rename_i vs;split at ah
  ·rename_i len e hu;split at ah
   ·rename_i nu;simp only[Option.some.injEq,Prod.mk.injEq]at ah;obtain⟨rfl,rfl⟩:=ah;obtain⟨us,ai,aH⟩:=CP cL;have hlt:=hp.2.2;obtain⟨u,iM,jf⟩:=t0 _ _ aH i.toNat _ (List.getElem?_eq_getElem hlt);refine⟨u,?_,by rw[List.getElem?_eq_getElem hlt];exact jf⟩;obtain⟨xM,hi,hs,KV⟩:=KC nu;unfold execOp;rw[az];rw[Array.getElem?_toList]at iM;simp[Instr.index,run_underlying hu,ai,jG.1,asIntOf,hp.1,hp.2.1,part,KV,Go.sizeOf,typeInfo,hi,hs,iM]
   ·cases ah
  ·cases ah
 ·cases ah
theorem Rm(Zs:Bool)(len cap:Nat)(bK hi:Option Value)(l h:Nat)(w:World)(hl:bK=none∧l=0∨∃k,bK=some (.int k l))(hh:hi=none∧h=len∨∃k,hi=some (.int k h))
  (h1:l≤h) (h2:h≤cap):(Instr.sliceBounds Zs len cap bK hi none).run P w=.ok (l,h,cap) w:=by
 have xP:∀(k:IntKind) (x y:Nat) (c:BoundsCode),x≤y→(Instr.sliceBound (.int k x) y c).run P w=.ok x w:=by
  intro k x y c lF;simp[Instr.sliceBound,asIntOf,lF]
 unfold Instr.sliceBounds;rcases hl with ⟨rfl,rfl⟩|⟨k,rfl⟩<;>rcases hh with ⟨rfl,rfl⟩|⟨iF,rfl⟩
 ·simp
 ·simp[xP _ _ _ _ h2]
 ·simp[xP _ _ _ _ h1]
 ·simp[xP _ _ _ _ h2,xP _ _ _ _ h1]
def reachE(x:H)(k:Nat):Prop:=match x with|.ao _ xs true=>k≤xs.length|_=>False
def cutE(P:Program)(hs:List H)(T:TypeId)(x:V)(l h:Nat):Option (Prop×V):=
 match x with
 |.d (.str s)=>if isStrI P T then some (l≤h∧h≤s.length,C5 ((s.drop l).take (h-l)))else none
 |.sl id off len=>
  match elI P T,(aN hs id).els with
  |some (_,sz,_),some (f',_)=>if sz=f' then some (l≤h∧(h≤len∨reachE (aN hs id) (off+h)),.sl id (off+l) (h-l))else none
  |_,_=>none
 |.d (.sl f' xs)=>
  match elI P T with
  |some (_,sz,_)=>if sz=f' then some (l≤h∧h≤xs.length,.d (.sl f' ((xs.drop l).take (h-l))))else none
  |none=>none
 |.c6 s=>if(elI P T).isSome then some (l=0∧h=0,.c6 s)else none
 |_=>none
def AV(x:V):Nat:=match x with|.d (.str s)=>s.length|.d (.sl _ xs)=>xs.length|.sl _ _ len=>len|_=>0
def bndE(g:Bool)(σ:St)(d:Nat)(x:Option Operand)(K:Nat→Prop):Prop:=
 match x with
 |none=>K d
 |some x=>evg g (σ.ev x) fun v=>asI v fun _ i=>0≤i∧K i.toNat
theorem Dm{d:Nat}{x:Option Operand}{K:Nat→Prop}(h:bndE g σ d x K):∃l:Nat,K l∧∀{σ':St} {B:Nat→Prop} {w0:World} {aG:Nat→Prop} {φ:b2} {kp:List (V×Value)} {a:Act} {w:World},σ.le σ'→R B w0 aG φ σ' kp a w→g=true→
  (x=none∧l=d∨∃k y,x=some y∧a.eval y=.int k l):=by
 unfold bndE at h;split at h
 ·exact⟨d,h,fun _ _ _=>.inl ⟨rfl,rfl⟩⟩
 ·rename_i y;obtain⟨v,h,hy⟩:=fb h;obtain⟨k,i,rfl,h0,bU⟩:=xL h;refine⟨i.toNat,bU,fun aR r hg=>.inr ⟨k,y,rfl,?_⟩⟩;have:=k7 (hy _ _ _ _ hg (eW aR r y));rw[this.1,Int.toNat_of_nonneg h0]
theorem Zt(s:List UInt8)(l h:Nat):(⟨s.toArray⟩:ByteArray).extract l h=⟨((s.drop l).take (h-l)).toArray⟩:=by
 apply ByteArray.ext;apply Array.ext';simp[ByteArray.data_extract,List.extract]
theorem Yi{T:TypeId}{x:Operand}{bK hi:Option Operand}(az:o.op=.slice T x bK hi none)
  (h:evg g (σ.ev x) fun a=>bndE g σ 0 bK fun l=>bndE g σ (AV a) hi fun h=>withR (cutE P σ.heap T a l h) fun v=>K (cg v)):∃r,fO P o g σ n r∧K r:=by
 obtain⟨jg,h1,hx⟩:=fb h;obtain⟨l,h2,hl⟩:=Dm h1;obtain⟨m,ak,hm⟩:=Dm h2;obtain⟨p,v,ah,hp,bU⟩:=xN ak;clear h h1 h2 ak;refine⟨_,k8 fun σ' aR B w0 aG φ kp a w r hg=>?_,bU⟩;have cL:=hx _ _ _ _ hg (eW aR r x);have tS:=hl aR r hg;have n_:=hm aR r hg;have bl:(bK.map a.eval)=none∧l=0∨∃k,(bK.map a.eval)=some (.int k l):=by
  rcases tS with ⟨rfl,rfl⟩|⟨k,y,rfl,e⟩
  ·exact .inl ⟨rfl,rfl⟩
  ·exact .inr ⟨k,by simp[e]⟩
 have KW:(hi.map a.eval)=none∧m=AV jg∨∃k,(hi.map a.eval)=some (.int k m):=by
  rcases n_ with ⟨rfl,rfl⟩|⟨k,y,rfl,e⟩
  ·exact .inl ⟨rfl,rfl⟩
  ·exact .inr ⟨k,by simp[e]⟩
 have KX:∀{e sz fa:Nat} {ad:Option Addr} {len kC:Nat},elI P T=some (e,sz,fa)→a.eval x=.slice ad len kC→AV jg=len→l≤m→m≤kC→
   (execOp a.eval o).run P w=.ok (.value (.slice (if kC=l then ad else ad.map (·.add (l * sz))) (m-l) (kC-l))) w:=by
  intro e sz fa ad len kC he hu eB h1 h2;obtain⟨xM,mb,dn,hs,_⟩:=tX he;have cH:(Go.sizeOf e).run P w=Result.ok sz w:=by simp[Go.sizeOf,typeInfo,dn,hs]
  have hb:=Rm (P:=P) true len kC (bK.map a.eval) (hi.map a.eval) l m w bl (by rw[eB]at KW;exact KW) h1 h2;unfold execOp;rw[az];simp[Instr.sliceAt,Instr.slice,run_underlying mb,hu,hb,cH]
 unfold cutE at ah;split at ah
 ·rename_i s;split at ah
  ·rename_i hs;simp only[Option.some.injEq,Prod.mk.injEq]at ah;obtain⟨rfl,rfl⟩:=ah;have ai:=xO cL;have cH:(⟨s.toArray⟩:ByteArray).size=s.length:=by simp[ByteArray.size]
   have hb:=Rm (P:=P) false s.length s.length (bK.map a.eval) (hi.map a.eval) l m w bl KW hp.1 hp.2;refine⟨.string ⟨((s.drop l).take (m-l)).toArray⟩,?_,Dn (by simp;omega)⟩;unfold execOp;rw[az];simp[Instr.sliceAt,Instr.slice,run_underlying (Ba hs),ai.1,cH,hb,Zt]
  ·cases ah
 ·rename_i id off len;split at ah
  ·rename_i e sz fa f' xs he hel;split at ah
   ·rename_i cH;subst cH;simp only[Option.some.injEq,Prod.mk.injEq]at ah;obtain⟨rfl,rfl⟩:=ah;obtain⟨β,ad,c,ai,aj,aT,bj,cr⟩:=s0 cL;obtain⟨a7,fq,hr⟩:=FJ r (AQ aR hel);rw[ai]at fq;cases fq;have hs:=KU (AQ aR hel) hr;have Zu:m≤c:=by
     rcases hp.2 with hp|hp
     ·omega
     ·unfold reachE at hp;split at hp
      ·rename_i u4 kD gA;have eN:aN σ'.heap id=.ao u4 kD true:=by
        rcases aR.2 id with hh|hh
        ·rw[gA]at hh;cases hh
        ·rw[hh,gA]
       rw[eN]at hr;simp only[dG]at hr;have akO:off+c=β.cap:=by
        rcases cr with cr|⟨_,_,_,cr⟩
        ·omega
        ·exact cr
       rcases hr.2 with hr|⟨_,_,_,hr,_⟩
       ·rw[hr.2.1]at hp;simp at hp;omega
       ·omega
      ·exact hp.elim
    refine⟨_,KX he aj rfl hp.1 Zu,?_⟩;simp only[VRel];refine⟨β,_,c-l,ai,rfl,by omega,?_⟩;by_cases hcl:c=l
    ·exact .inl ⟨by omega,by omega⟩
    ·rcases cr with cr|⟨b,cr,iU,mf⟩
     ·exfalso;omega
     ·subst iU;refine .inr ⟨b,cr,?_,by omega,by omega⟩;rw[if_neg hcl];simp only[Option.map_some,add_lit,hs];rw[Nat.add_mul,←Nat.add_assoc]
   ·cases ah
  ·cases ah
 ·rename_i f' xs;split at ah
  ·rename_i e sz fa he;split at ah
   ·rename_i cH;subst cH;simp only[Option.some.injEq,Prod.mk.injEq]at ah;obtain⟨rfl,rfl⟩:=ah;obtain⟨ad,c,ai,aj,aT,bj⟩:=CJ cL;have eB:((xs.drop l).take (m-l)).length=m-l:=by simp;omega
    refine⟨_,KX he ai rfl hp.1 (by omega),?_⟩;simp only[VRel,rep];by_cases hne:(xs.drop l).take (m-l)=[]
    ·have Rn:m-l=0:=by rw[←eB,hne];rfl
     exact⟨[],⟨_,c-l,by rw[eB],by omega,by omega,.inl ⟨hne,rfl,fun h=>by cases h⟩⟩,by simp⟩
    ·rcases bj with bj|⟨b,f,G,bj,cr,iU,mf,Dl⟩
     ·subst bj;simp at hne
     ·subst bj;have Rn:0<m-l:=by rw[←eB];exact List.length_pos_iff.2 hne
      have AR:xs=xs.take l++((xs.drop l).take (m-l)++(xs.drop l).drop (m-l)):=by rw[List.take_append_drop,List.take_append_drop]
      rw[AR]at mf;obtain⟨bH,bA,rfl,k1,k2⟩:=(repE_append _ _ _ _).1 mf;obtain⟨ze,QW,rfl,dw,gj⟩:=(repE_append _ _ _ _).1 k2;have kB:(xs.take l).length=l:=by simp;omega
      rw[kB]at dw;refine⟨b::ze,⟨_,c-l,by rw[eB],by omega,by omega,.inr ⟨b,f+l * sz,ze,?_,rfl,cr,dw,fun h=>by cases h⟩⟩,?_⟩
      ·have hcl:¬c=l:=by omega
       rw[if_neg hcl];simp[add_lit]
      ·intro y hy;rcases List.mem_cons.1 hy with rfl|hy
       ·exact iU
       ·exact Dl y (by simp[hy])
   ·cases ah
  ·cases ah
 ·rename_i s;split at ah
  ·rename_i he;simp only[Option.some.injEq,Prod.mk.injEq]at ah;obtain⟨rfl,rfl⟩:=ah;obtain⟨⟨e,sz,fa⟩,he⟩:=Option.isSome_iff_exists.1 he;simp only[VRel]at cL;have hh:=KX he cL rfl (by omega) (by omega);obtain⟨rfl,rfl⟩:=hp;refine⟨_,hh,?_⟩;simp[VRel]
  ·cases ah
 ·cases ah
def cut3E(P:Program)(T:TypeId)(x:V)(l h m:Nat):Option (Prop×V):=
 match x with
 |.sl _ _ len=>if(elI P T).isSome then some (l≤h∧h≤m∧m≤len,.ab)else none
 |_=>none
theorem Yo{T:TypeId}{x bK hi uT:Operand}(az:o.op=.slice T x (some bK) (some hi) (some uT))
  (h:evg g (σ.ev x) fun a=>bndE g σ 0 (some bK) fun l=>bndE g σ 0 (some hi) fun h=>bndE g σ 0 (some uT) fun m=>withR (cut3E P T a l h m) fun v=>K (cg v)):∃r,fO P o g σ n r∧K r:=by
 obtain⟨jg,h1,hx⟩:=fb h;obtain⟨l,h2,hl⟩:=Dm h1;obtain⟨m,ak,hm⟩:=Dm h2;obtain⟨q,aC,hq⟩:=Dm ak;obtain⟨p,v,ah,hp,bU⟩:=xN aC;clear h h1 h2 ak aC;refine⟨_,k8 fun σ' aR B w0 aG φ kp a w r hg=>?_,bU⟩;have cL:=hx _ _ _ _ hg (eW aR r x);have KY:∀{z:Operand} {d t:Nat},((some z=none∧t=d)∨∃k y,some z=some y∧a.eval y=.int k t)→∃k,a.eval z=.int k t:=by
  rintro z d t (⟨h,_⟩|⟨k,y,h,e⟩)
  ·cases h
  ·cases h;exact⟨k,e⟩
 obtain⟨k1,KZ⟩:=KY (hl aR r hg);obtain⟨k2,Aj⟩:=KY (hm aR r hg);obtain⟨dw,eq⟩:=KY (hq aR r hg);unfold cut3E at ah;split at ah
 ·rename_i id off len;split at ah
  ·rename_i hs;simp only[Option.some.injEq,Prod.mk.injEq]at ah;obtain⟨rfl,rfl⟩:=ah;obtain⟨dh,c_,fK⟩:=hp;obtain⟨⟨e,sz,fa⟩,he⟩:=Option.isSome_iff_exists.1 hs;obtain⟨xM,mb,dn,hs,_⟩:=tX he;have cH:(Go.sizeOf e).run P w=Result.ok sz w:=by simp[Go.sizeOf,typeInfo,dn,hs]
   obtain⟨β,ad,c,ai,aj,aT,bj,cr⟩:=s0 cL;have xP:∀(k:IntKind) (x y:Nat) (c:BoundsCode),x≤y→(Instr.sliceBound (.int k x) y c).run P w=.ok x w:=by
    intro k x y c lF;simp[Instr.sliceBound,asIntOf,lF]
   have hb:(Instr.sliceBounds true len c (some (.int k1 l)) (some (.int k2 m)) (some (.int dw q))).run P w=.ok (l,m,q) w:=by
    unfold Instr.sliceBounds;simp[xP _ _ _ _ (show q≤c by omega),xP _ _ _ _ c_,xP _ _ _ _ dh]
   refine⟨.slice (if q=l then ad else ad.map (·.add (l * sz))) (m-l) (q-l),?_,by simp only[VRel]⟩;unfold execOp;rw[az];simp[Instr.sliceAt,Instr.slice,run_underlying mb,KZ,Aj,eq,aj,hb,cH]
  ·cases ah
 ·cases ah
variable {P:Program} {o:Oper} {g:Bool} {σ:St} {n:Nat} {K:dS→Prop}
def byte1:List D→Option UInt8
 |[.int .u8 n]=>some (UInt8.ofNat n.toNat)
 |_=>none
def bytesL:List (List D)→Option (List UInt8)
 |[]=>some []
 |c::cs=>match byte1 c,bytesL cs with|some b,some r=>some (b::r)|_,_=>none
def elsOf(hs:List H)(x:V):Option (Nat×List (List D)):=
 match x with
 |.sl id off len=>match(aN hs id).els with|some (sz,xs)=>if off+len≤xs.length then some (sz,(xs.drop off).take len)else none|none=>none
 |.d (.sl sz xs)=>some (sz,xs)
 |.c6 sz=>some (sz,[])
 |_=>none
theorem FH{B:Nat→Prop}{w0:World}{aG:Nat→Prop}{φ:b2}{kp:List (V×Value)}{a:Act}{w:World}{σ σ':St}(aR:σ.le σ')(r:R B w0 aG φ σ' kp a w){x:V}{sz:Nat}{xs:List (List D)}(he:elsOf σ.heap x=some (sz,xs))
  {u:Value} (cL:VRel φ (b8 φ σ'.heap) w.heap x u):∃ad c,u=.slice ad xs.length c∧xs.length≤c∧c≤maxLen∧
   (xs=[]∨∃b f G,ad=some ⟨b,f,none⟩∧b<w.heap.size∧repE w.heap false b f sz xs G∧∀g∈G,b8 φ σ'.heap g):=by
 unfold elsOf at he;split at he
 ·rename_i id off len;split at he
  ·rename_i f' ys hel;split at he
   ·rename_i hb;simp only[Option.some.injEq,Prod.mk.injEq]at he;obtain⟨rfl,rfl⟩:=he;obtain⟨β,ad,c,ai,aj,aT,bj,cr⟩:=s0 cL;have mm:=AQ aR hel;obtain⟨a7,fq,hr⟩:=FJ r mm;rw[ai]at fq;cases fq;have hs:=KU mm hr;have eB:((ys.drop off).take len).length=len:=by simp;omega
    refine⟨ad,c,by rw[eB];exact aj,by omega,bj,?_⟩;by_cases hne:(ys.drop off).take len=[]
    ·exact .inl hne
    ·have Gp:0<len:=by rw[←eB];exact List.length_pos_iff.2 hne
     rcases cr with cr|⟨b,cr,iU,mf⟩
     ·omega
     ·subst iU;have AR:ys=ys.take off++((ys.drop off).take len++(ys.drop off).drop len):=by rw[List.take_append_drop,List.take_append_drop]
      have kB:(ys.take off).length=off:=by simp;omega
      have key:∀{bl:Bool} {G:List Nat},repE w.heap bl b β.off f' ys G→∃Bb,(∀g∈Bb,g∈G)∧repE w.heap bl b (β.off+off * f') f' ((ys.drop off).take len) Bb:=by
       intro bl G br;rw[AR]at br;obtain⟨bH,bA,rfl,k1,k2⟩:=(repE_append _ _ _ _).1 br;obtain⟨ze,QW,rfl,dw,gj⟩:=(repE_append _ _ _ _).1 k2;rw[kB]at dw;exact⟨ze,fun y hy=>by simp[hy],dw⟩
      cases hx:aN σ'.heap id with
      |c1=>rw[hx]at mm;cases mm
      |box cells=>rw[hx]at mm;cases mm
      |ag _ _=>rw[hx]at mm;cases mm
      |fR _ _ _ _=>rw[hx]at mm;cases mm
      |ao Zv K0 iN=>
       rw[hx]at mm hr;simp only[H.els,Option.some.injEq,Prod.mk.injEq]at mm;obtain⟨rfl,rfl⟩:=mm;simp only[dG]at hr;rcases hr.2 with hr|⟨c8,G,aH,aZ,ca,cf,eh,gJ⟩
       ·rw[hr.2.1]at hb;simp at hb;omega
       ·rw[cr]at aH;cases aH;obtain⟨Bb,cC,cT⟩:=key cf;refine .inr ⟨b,_,Bb,rfl,ca.lt,?_,fun g hg=>?_⟩
        ·rw[hs]
         cases iN with
         |true=>exact C4 _ _ _ _ _ cT
         |false=>exact cT
        ·cases iN with
         |true=>exact Q3 r ai (by rw[hx];rfl) (by rw[hx];rfl) (by rw[←eh rfl];exact cC g hg)
         |false=>exact gJ rfl g (cC g hg)
      |g1 Zv K0=>
       rw[hx]at mm hr;simp only[H.els,Option.some.injEq,Prod.mk.injEq]at mm;obtain⟨rfl,rfl⟩:=mm;simp only[dG]at hr;rcases hr.2 with hr|⟨c8,G,aH,aZ,ca,cf,eh⟩
       ·rw[hr]at hb;simp at hb;omega
       ·rw[cr]at aH;cases aH;obtain⟨Bb,cC,cT⟩:=key cf;exact .inr ⟨b,_,Bb,rfl,ca,by rw[hs];exact cT,fun g hg=>eh g (cC g hg)⟩
   ·cases he
  ·cases he
 ·simp only[Option.some.injEq,Prod.mk.injEq]at he;obtain⟨rfl,rfl⟩:=he;obtain⟨ad,c,ai,aj,aT,bj⟩:=CJ cL;refine⟨ad,c,ai,aj,aT,?_⟩;rcases bj with bj|⟨b,f,G,bj,cr,iU,mf,Dl⟩
  ·exact .inl bj
  ·exact .inr ⟨b,f,G,bj,cr,mf,Dl⟩
 ·simp only[Option.some.injEq,Prod.mk.injEq]at he;obtain⟨rfl,rfl⟩:=he;simp only[VRel]at cL;exact⟨none,0,cL,by simp,by decide,.inl rfl⟩
 ·cases he
theorem K1{h:Array Obj}{b:Nat}:∀(cs:List (List D)) (s:List UInt8) (f:Nat) (G:List Nat),bytesL cs=some s→repE h false b f 1 cs G→
  s.length=cs.length∧∀(j:Nat) (c:UInt8),s[j]?=some c→∃n:Int,cellAt h b (f+j)=some (.int .u8 n)∧UInt8.ofNat n.toNat=c
 |[],s,f,G,e,_=>by simp only[bytesL,Option.some.injEq]at e;subst e;simp
 |c::cs,s,f,G,e,r=>by
  simp only[bytesL]at e;split at e
  ·rename_i c8 c3 ai aj
   cases e
   simp only[repE]at r;obtain⟨bH,bA,rfl,k1,k2,dw⟩:=r;obtain⟨Zw,Zx⟩:=K1 cs c3 (f+1) bA aj dw;refine⟨by simp[Zw],fun j x av=>?_⟩
   cases j with
   |zero=>
    simp at av;subst av;unfold byte1 at ai;split at ai
    ·rename_i m
     cases ai
     simp only[repC]at k2;obtain⟨v,s7,s8,_,dv,dD,_⟩:=k2;simp only[rep]at dD;exact⟨m,by rw[Nat.add_zero,dv,dD.1],rfl⟩
    ·cases ai
   |succ j=>
    have:=Zx j x (by simpa using av);rw[show f+(j+1)=f+1+j from by omega];exact this
  ·cases e
theorem Ro:∀(kj:List Int) (s:ByteArray),kj.foldl (fun r n=>r.push (UInt8.ofNat n.toNat)) s=⟨(s.data.toList++kj.map fun n=>UInt8.ofNat n.toNat).toArray⟩
 |[],s=>by simp
 |m::kj,s=>by
  rw[List.foldl_cons,Ro kj];simp[ByteArray.push]
def cvE(P:Program)(hs:List H)(k0 dst:TypeId)(x:V):Option (Prop×V):=
 match x with
 |.d (.int _ n)=>
  match intI P k0,intI P dst with
  |some _,some k=>some (True,nr k (k.wrap n))
  |_,_=>none
 |.d (.str s)=>if isStrI P k0&&isStrI P dst then some (True,C5 s)else none
 |x=>
  match elI P k0,elsOf hs x with
  |some (e,1,_),some (1,xs)=>if intI P e=some .u8&&isStrI P dst then some ((bytesL xs).isSome=true,C5 ((bytesL xs).getD []))else none
  |some (e,1,_),some (_,[])=>if intI P e=some .u8&&isStrI P dst then some (True,C5 [])else none
  |_,_=>none
theorem Rp{w:World}{k0 dst e:TypeId}{s fa:Nat}(he:elI P k0=some (e,s,fa))(hk:(intI P e=some .u8&&isStrI P dst)=true){ad:Option Addr}{c:Nat}{xs:List (List D)}{t:List UInt8}(ht:bytesL xs=some t)
  (h:xs=[]∨∃b f G,ad=some ⟨b,f,none⟩∧repE w.heap false b f 1 xs G):(convert k0 dst (.slice ad xs.length c)).run P w=.ok (.string ⟨t.toArray⟩) w:=by
 simp only[Bool.and_eq_true,decide_eq_true_eq]at hk;obtain⟨xM,hu,_⟩:=tX he;rw[run_convert_bytes_string w k0 dst e _ _ _ hu (KT hk.1) (Ba hk.2)];have nil:∀(ad:Option Addr) (c:Nat),(Conv.bytesToString (.slice ad 0 c)).run P w=.ok (.string ⟨#[]⟩) w:=by
  intro ad c
  cases ad with
  |none=>rfl
  |some ad=>exact run_bytesToString w ad 0 c [] (by simp[loadCells,loadCellsFrom])
 rcases h with rfl|⟨b,f,G,rfl,h⟩
 ·simp only[bytesL,Option.some.injEq]at ht;subst ht;exact nil ad c
 ·obtain⟨h1,h2⟩:=K1 _ _ _ _ ht h;have k6:∃kj:List Int,kj.length=xs.length∧(∀(j:Nat) (n:Int),kj[j]?=some n→cellAt w.heap b (f+j)=some (.int .u8 n))∧kj.map (fun n=>UInt8.ofNat n.toNat)=t:=by
   clear ht h;have:∀(t:List UInt8) (f:Nat),(∀(j:Nat) (c:UInt8),t[j]?=some c→∃n:Int,cellAt w.heap b (f+j)=some (.int .u8 n)∧UInt8.ofNat n.toNat=c)→
     ∃kj:List Int,kj.length=t.length∧(∀(j:Nat) (n:Int),kj[j]?=some n→cellAt w.heap b (f+j)=some (.int .u8 n))∧kj.map (fun n=>UInt8.ofNat n.toNat)=t:=by
    intro t
    induction t with
    |nil=>exact fun f _=>⟨[],rfl,by simp,rfl⟩
    |cons c t dx=>
     intro f h;obtain⟨m,s6,y8⟩:=h 0 c rfl;obtain⟨kj,ga,g3,jF⟩:=dx (f+1) (fun j c av=>by have:=h (j+1) c (by simpa using av);rw[show f+1+j=f+(j+1)from by omega];exact this);refine⟨m::kj,by simp[ga],fun j n av=>?_,by simp[y8,jF]⟩
     cases j with
     |zero=>simp at av;subst av;exact s6
     |succ j=>rw[show f+(j+1)=f+1+j from by omega];exact g3 j n (by simpa using av)
   obtain⟨kj,ga,g3,jF⟩:=this t f h2;exact⟨kj,by rw[ga,h1],g3,jF⟩
  obtain⟨kj,ga,g3,jF⟩:=k6;have hl:=run_loadCells_list (P:=P) w ⟨b,f,none⟩ (kj.map (Value.int .u8)) (fun j v av=>by
   rw[add_lit,cell_eq];rw[List.getElem?_map]at av
   cases hn:kj[j]? with
   |none=>rw[hn]at av;cases av
   |some m=>rw[hn]at av;cases av;exact g3 j m hn)
  rw[List.length_map,ga]at hl;rw[run_bytesToString w _ _ c kj hl,Ro,jF];rfl
theorem Yj{k0 dst:TypeId}{x:Operand}(az:o.op=.convert k0 dst x)(h:evg g (σ.ev x) fun a=>withR (cvE P σ.heap k0 dst a) fun v=>K (cg v)):∃r,fO P o g σ n r∧K r:=by
 obtain⟨jg,h1,hx⟩:=fb h;obtain⟨p,v,ah,hp,bU⟩:=xN h1;clear h h1;refine⟨_,k8 fun σ' aR B w0 aG φ kp a w r hg=>?_,bU⟩;have cL:=hx _ _ _ _ hg (eW aR r x);have k6:∀{u:Value},(convert k0 dst (a.eval x)).run P w=.ok u w→(execOp a.eval o).run P w=.ok (.value u) w:=by
  intro u hu;unfold execOp;rw[az];simp[hu]
 unfold cvE at ah;split at ah
 ·rename_i k m;split at ah
  ·rename_i k1 k2 h1 h2;simp only[Option.some.injEq,Prod.mk.injEq]at ah;obtain⟨_,rfl⟩:=ah;refine⟨_,k6 (u:=.int k2 (k2.wrap m)) ?_,mj (u7 _ _)⟩;rw[(k7 cL).1];simp[convert,run_underlying (KT h1),run_underlying (KT h2),Conv.intToInt]
  ·cases ah
 ·split at ah
  ·rename_i s hs;simp only[Option.some.injEq,Prod.mk.injEq]at ah;obtain⟨_,rfl⟩:=ah;simp only[Bool.and_eq_true]at hs;have ai:=xO cL;refine⟨_,k6 (u:=.string ⟨s.toArray⟩) ?_,Dn ai.2⟩;rw[ai.1];simp[convert,run_underlying (Ba hs.1),run_underlying (Ba hs.2)]
  ·cases ah
 ·split at ah
  ·rename_i e fa xs he hel;split at ah
   ·rename_i hk;simp only[Option.some.injEq,Prod.mk.injEq]at ah;obtain⟨rfl,rfl⟩:=ah;obtain⟨t,ht⟩:=Option.isSome_iff_exists.1 hp;obtain⟨ad,c,ai,aj,aT,bj⟩:=FH aR r hel cL;have Zy:xs=[]∨∃b f G,ad=some ⟨b,f,none⟩∧repE w.heap false b f 1 xs G:=by
     rcases bj with bj|⟨b,f,G,bj,_,cr,_⟩
     ·exact .inl bj
     ·exact .inr ⟨b,f,G,bj,cr⟩
    have eF:=Rp (w:=w) (dst:=dst) he hk ht (ad:=ad) (c:=c) Zy;refine⟨_,k6 (u:=.string ⟨t.toArray⟩) (by rw[ai];exact eF),?_⟩;have eB:t.length=xs.length:=by
     rcases bj with rfl|⟨b,f,G,bj,_,cr,_⟩
     ·simp only[bytesL,Option.some.injEq]at ht;subst ht;rfl
     ·exact(K1 _ _ _ _ ht cr).1
    rw[ht];exact Dn (by simp;omega)
   ·cases ah
  ·rename_i e fa s _ he hel;split at ah
   ·rename_i hk;simp only[Option.some.injEq,Prod.mk.injEq]at ah;obtain⟨_,rfl⟩:=ah;obtain⟨ad,c,ai,aj,aT,bj⟩:=FH aR r hel cL;have eF:=Rp (w:=w) (dst:=dst) he hk (xs:=[]) (t:=[]) rfl (ad:=ad) (c:=c) (.inl rfl);exact⟨_,k6 (by rw[ai];exact eF),Dn (by decide)⟩
   ·cases ah
  ·cases ah
def eM{α:Type}(l:List α)(off:Nat)(vs:List α):List α:=l.take off++(vs++l.drop (off+vs.length))
theorem y4{α:Type}{l:List α}{off:Nat}{vs:List α}(h:off+vs.length≤l.length):(eM l off vs).length=l.length:=by
 simp[eM];omega
theorem K3{φ:b2}{T:Nat→Prop}{h:Array Obj}{cs vs:List V}{us fy:List Value}(r:VRels φ T h cs us)(c3:VRels φ T h vs fy)(off:Nat):VRels φ T h (eM cs off vs) (eM us off fy):=by
 unfold eM;rw[i6 _ _ c3];exact A3 (Q1 r off) (A3 c3 (Q2 r _))
theorem Rq:∀(vs:List Value) (k off:Nat) (cells:Array Value),off+k+vs.length≤cells.size→
  (vs.zipIdx k).foldl (fun cs (c,j)=>cs.setIfInBounds (off+j) c) cells=(eM cells.toList (off+k) vs).toArray
 |[],k,off,cells,_=>by simp[eM]
 |v::vs,k,off,cells,h=>by
  simp only[List.length_cons]at h;rw[List.zipIdx_cons,List.foldl_cons,Rq vs (k+1) off _ (by simp;omega)];have hi:off+k<cells.toList.length:=by simp;omega
  have e:=list_seg_step cells.toList (off+k) v vs (by simp;omega)
  congr 1
  unfold eM;simpa [Array.toList_setIfInBounds,Nat.add_assoc]using e
def vfill(s4:Nat→Option (Nat×Nat)):List V→List (Nat×V)→Option (List V)
 |cells,[]=>some cells
 |cells,(i,v)::r=>
  match s4 i with
  |some (off,sz)=>if v.cells.length=sz∧off+sz≤cells.length∧v.uY=true then vfill s4 (eM cells off v.cells) r else none
  |none=>none
def partsRel(φ:b2)(T:Nat→Prop)(h:Array Obj):List (Nat×V)→List (Nat×Value)→Prop
 |[],us=>us=[]
 |(i,v)::r,us=>∃u bY,us=(i,u)::bY∧VRel φ T h v u∧partsRel φ T h r bY
theorem Gd{φ:b2}{T:Nat→Prop}{h:Array Obj}(s4:Nat→Option (Nat×Nat)):∀(parts:List (Nat×V)) (cells cells':List V) (us:List Value) (ps:List (Nat×Value)),vfill s4 cells parts=some cells'→VRels φ T h cells us→partsRel φ T h parts ps→
  ∃bY:List Value,Instr.fill s4 us.toArray ps=some bY.toArray∧VRels φ T h cells' bY
 |[],cells,cells',us,ps,e,r,ep=>by
  simp only[vfill,Option.some.injEq]at e;subst e;simp only[partsRel]at ep;subst ep;exact⟨us,rfl,r⟩
 |(i,v)::parts,cells,cells',us,ps,e,r,ep=>by
  simp only[partsRel]at ep;obtain⟨u,Zz,rfl,cg,ep⟩:=ep;simp only[vfill]at e;split at e
  ·rename_i off sz fz;split at e
   ·rename_i hb;have hc:=(De hb.2.2 cg).1;have hl:=i6 _ _ hc;have nZ:=i6 _ _ r;obtain⟨bY,k1,k2⟩:=Gd s4 parts _ cells' _ Zz e (K3 r hc off) ep;refine⟨bY,?_,k2⟩;rw[←k1];have cH:u.cells.size=sz:=by rw[←Array.length_toList,hl];exact hb.1
    have K4:¬(u.cells.size≠sz∨off+u.cells.size>us.toArray.size):=by
     have:=hb.2.1;simp only[List.size_toArray,cH];omega
    have ZA:(decide (u.cells.size≠sz)||decide (off+u.cells.size>us.toArray.size))=false:=by
     rw[Bool.eq_false_iff];intro hh;exact K4 (by simpa using hh)
    simp only[Instr.fill,fz,ZA,Bool.false_eq_true,if_false]
    congr 1
    have:=Rq u.cells.toList 0 off us.toArray (by
     have:=hb.2.1;simp only[Nat.add_zero,Array.length_toList,List.size_toArray,cH];omega)
    simp only[Nat.add_zero]at this;rw[←this,←Array.foldl_toList,Array.toList_zipIdx]
   ·cases e
  ·cases e
def plI(P:Program)(T:TypeId):Option (Nat→Option (Nat×Nat)):=
 match P.underlying T with
 |some (.array _ e)=>(P.info? e).map fun i=>fun j=>some (j * i.size,i.size)
 |some (.struct cp)=>(cp.toList.mapM fun f=>(P.info? f.type).map fun i=>(f.offset,i.size)).map fun l=>fun j=>l[j]?
 |_=>none
def Gq(P:Program):Nat→TypeId→List Nat
 |0,_=>[]
 |f+1,T=>
  match P.underlying T with
  |some (.array n e)=>(List.replicate n (Gq P f e)).flatten
  |some (.struct cp)=>(cp.toList.map fun x=>Gq P f x.type).flatten
  |some (.slice e)=>[P.cellsOf e]
  |_=>[0]
def Rr:V→Nat→V
 |.c6 _,s=>.c6 s
 |v,_=>v
def zrI(P:Program)(T:TypeId):Option (List V):=
 match P.info? T with
 |some i=>
  match i.zero with
  |some z=>
   let l:=List.zipWith Rr (z.cells.toList.map ofVal) (Gq P 8 T)
   if l.length=z.cells.toList.length then some l else none
  |none=>none
 |none=>none
theorem y6{T:TypeId}{vs:List V}(h:zrI P T=some vs):∃i z,P.info? T=some i∧i.zero=some z∧∀(φ:b2) (fN:Nat→Prop) (hp:Array Obj),VRels φ fN hp vs z.cells.toList:=by
 unfold zrI at h;split at h
 ·rename_i i hi;split at h
  ·rename_i z hz;simp only at h;split at h
   ·rename_i hl
    cases h
    refine⟨i,z,hi,hz,fun φ fN hp=>xB _ _ hl.symm fun t v u ai aj=>?_⟩;rw[List.getElem?_zipWith]at ai;rw[List.getElem?_map,aj]at ai;simp only[Option.map_some]at ai
    cases hs:(Gq P 8 T)[t]? with
    |none=>rw[hs]at ai;cases ai
    |some s=>
     rw[hs]at ai
     cases ai
     have:=Rb (φ:=φ) (T:=fN) (h:=hp) u
     cases hv:ofVal u<;>rw[hv]at this<;>first|exact this|(simp only[Rr,VRel]at this⊢;exact this)
   ·cases h
  ·cases h
 ·cases h
def evParts(g:Bool)(σ:St):List (Nat×Operand)→(List (Nat×V)→Prop)→Prop
 |[],K=>K []
 |(i,x)::r,K=>evg g (σ.ev x) fun v=>evParts g σ r fun vs=>K ((i,v)::vs)
theorem KG:∀(ps:List (Nat×Operand)) (K:List (Nat×V)→Prop),evParts g σ ps K→∃vs,K vs∧∀{σ':St} {B:Nat→Prop} {w0:World} {aG:Nat→Prop} {φ:b2} {kp:List (V×Value)} {a:Act} {w:World},σ.le σ'→R B w0 aG φ σ' kp a w→g=true→
  partsRel φ (b8 φ σ'.heap) w.heap vs (ps.map fun(i,x)=>(i,a.eval x))
 |[],K,h=>⟨[],h,fun _ _ _=>by simp[partsRel]⟩
 |(i,x)::ps,K,h=>by
  simp only[evParts]at h;obtain⟨v,h1,hx⟩:=fb h;obtain⟨vs,bU,hr⟩:=KG ps _ h1;refine⟨(i,v)::vs,bU,fun aR r hg=>?_⟩;simp only[List.map_cons,partsRel];exact⟨_,_,rfl,hx _ _ _ _ hg (eW aR r x),hr aR r hg⟩
def bldE(P:Program)(T:TypeId)(parts:List (Nat×V)):Option V:=
 match plI P T,zrI P T with
 |some s4,some z=>(vfill s4 z parts).map V.agg
 |_,_=>none
theorem Yk{T:TypeId}{parts:Array (Nat×Operand)}(az:o.op=.build T parts)(h:evParts g σ parts.toList fun ps=>withO (bldE P T ps) fun v=>K (cg v)):∃r,fO P o g σ n r∧K r:=by
 obtain⟨ps,h1,hx⟩:=KG _ _ h;obtain⟨v,ah,bU⟩:=Gk h1;clear h h1;refine⟨_,k8 fun σ' aR B w0 aG φ kp a w r hg=>?_,bU⟩;unfold bldE at ah;split at ah
 ·rename_i s4 z fz hz
  cases hf:vfill s4 z ps with
  |none=>rw[hf]at ah;cases ah
  |some cells=>
   rw[hf]at ah;cases ah;obtain⟨i,akP,hi,Gb,n3⟩:=y6 hz;obtain⟨us,k1,k2⟩:=Gd (φ:=φ) (T:=b8 φ σ'.heap) (h:=w.heap) s4 ps z cells _ _ hf (n3 _ _ _) (hx aR r hg);have hb:P.built T (parts.map fun(i,x)=>(i,a.eval x)).toList=some us.toArray:=by
    unfold Program.built;unfold plI at fz;simp only[Array.toArray_toList]at k1;split at fz
    ·rename_i akQ e hu
     cases A9:P.info? e with
     |none=>rw[A9]at fz;cases fz
     |some t5=>
      rw[A9]at fz;cases fz;simp only[hi,hu,Gb,A9,Array.toList_map];exact k1
    ·rename_i cp hu
     cases hp:cp.toList.mapM (fun f=>(P.info? f.type).map fun i=>(f.offset,i.size))with
     |none=>rw[hp]at fz;cases fz
     |some akR=>
      rw[hp]at fz;cases fz;simp only[hi,hu,Gb,hp,Array.toList_map];simpa using k1
    ·cases fz
   refine⟨.agg us.toArray,?_,by simp only[VRel];exact⟨us.toArray,rfl,by simpa using k2⟩⟩;unfold execOp;rw[az];have:=run_build (P:=P) w T (parts.map fun(i,x)=>(i,a.eval x)) us.toArray hb;simp[this]
 ·cases ah
variable {P:Program} {o:Oper} {g:Bool} {σ:St} {n:Nat} {K:dS→Prop}
def cZ(φ:b2)(n:Nat)(β:fU):b2:=fun i=>if i=n then some β else φ i
section
variable {B:Nat→Prop} {w0:World} {aG:Nat→Prop} {φ:b2} {kp:List (V×Value)} {a:Act} {w:World}
theorem QV(kC sz:Nat)(r:R B w0 aG φ σ kp a w){n:Nat}(hd:aN σ.heap n=.c1)(hn:¬aG n){cells:List V}{cs:Array Value}{e:TypeId}(hc:VRels φ (b8 φ σ.heap) w.heap cells cs.toList){w':World}
  (hh:w'.heap=w.heap.push (.cells cs e)) (hb:Bel B w0 w') :
  R B w0 (fun i=>aG i∨(n≤i∧i<n+1)) (cZ φ n ⟨some w.heap.size,0,kC,sz,[]⟩) ⟨σ.tmps,b3 σ.heap n (.box cells)⟩ kp a w':=by
 have Ky:φ n=none:=by
  cases h:φ n with
  |none=>rfl
  |some β=>exact absurd (r.f1 n β h) hn
 have hnew:w'.heap[w.heap.size]?=some (.cells cs e (0,0)):=by rw[hh];simp
 have aR:l7 φ (cZ φ n ⟨some w.heap.size,0,kC,sz,[]⟩):=fun i β hi=>by
  have:i≠n:=fun e=>by subst e;rw[Ky]at hi;cases hi
  exact⟨β,by simp[cZ,this,hi],rfl,rfl,rfl,rfl⟩
 have hold:∀b,b<w.heap.size→w'.heap[b]?=w.heap[b]?:=fun b hb=>by rw[hh,Array.getElem?_push];simp[Nat.ne_of_lt hb]
 have cw:∀b,b<w.heap.size→b8 φ σ.heap b→b8 (cZ φ n ⟨some w.heap.size,0,kC,sz,[]⟩) (b3 σ.heap n (.box cells)) b:=by
  intro b hb ht i β hi he;rw[gS]at he;by_cases h:i=n
  ·subst h;simp only[cZ,if_true,Option.some.injEq]at hi;subst hi;rcases he with ⟨_,he⟩|⟨_,he⟩
   ·simp only[Option.some.injEq]at he;omega
   ·cases he
  ·simp only[h,if_false]at he;exact ht i β (by simpa [cZ,h]using hi) he
 refine v7 r (fun i=>i=n) _ _ _ w' (fun i hi=>⟨by rw[gS];simp[hi],by simp[cZ,hi]⟩) aR (by rw[hh];simp) (fun b hb _=>hold b hb) ?_ ?_ (fun i j b hi av _ _=>hi.trans av.symm) ?_ ?_ ?_ hb
 ·rintro i rfl b ⟨β,h1,h2⟩;simp only[cZ,if_true,Option.some.injEq]at h1;subst h1;rcases h2 with ⟨_,h2⟩|⟨_,h2⟩
  ·simp only[Option.some.injEq]at h2;exact .inl (by omega)
  ·cases h2
 ·rintro i rfl β h1 b h2;simp only[cZ,if_true,Option.some.injEq]at h1;subst h1;rcases h2 with ⟨_,h2⟩|⟨_,h2⟩
  ·simp only[Option.some.injEq]at h2;exact .inl (by omega)
  ·cases h2
 ·rintro i β rfl _ hx;rw[gS,if_pos rfl]at hx;cases hx
 ·rintro i rfl;refine .inr ⟨⟨some w.heap.size,0,kC,sz,[]⟩,by simp[cZ],?_⟩;rw[gS,if_pos rfl];exact⟨_,cs,e,rfl,rfl,hnew,sN ⟨aR,cw,fun b hb _=>hold b hb,by rw[hh];simp⟩ _ _ hc⟩
 ·intro i β hi;by_cases h:i=n
  ·exact .inr ⟨by omega,by omega⟩
  ·exact .inl (r.f1 i β (by simpa [cZ,h]using hi))
theorem YM(r:R B w0 aG φ σ kp a w){n:Nat}(hd:aN σ.heap n=.c1)(hn:¬aG n){cells:List V}{cs:Array Value}{e:TypeId}(hc:VRels φ (b8 φ σ.heap) w.heap cells cs.toList){w':World}
  (hh:w'.heap=w.heap.push (.cells cs e)) (hb:Bel B w0 w') :
  R B w0 (fun i=>aG i∨(n≤i∧i<n+1)) (cZ φ n ⟨some w.heap.size,0,0,0,[]⟩) ⟨σ.tmps,b3 σ.heap n (.box cells)⟩ kp a w':=QV 0 0 r hd hn hc hh hb
def toD(hs:List H)(v:V):Option (D×List Nat):=
 match v with
 |.d x=>if x.flat then some (x,[])else none
 |.c6 s=>some (.sl s [],[])
 |.sl id off len=>match aN hs id with|.ao sz xs true=>if off+len≤xs.length then some (.sl sz ((xs.drop off).take len),[id])else none|_=>none
 |_=>none
def toDs(hs:List H):List V→Option (List D×List Nat)
 |[]=>some ([],[])
 |v::vs=>match toD hs v,toDs hs vs with|some (d,i),some (ds,is)=>some (d::ds,i++is)|_,_=>none
def H.mine:H→Option (Nat×List (List D))
 |.ao sz xs true=>some (sz,xs)
 |.ag sz xs=>some (sz,xs)
 |_=>none
theorem H.YN{x:H}{p:Nat×List (List D)}(h:x.mine=some p):x.own=true∧x.me=true:=by
 cases x<;>first|exact⟨rfl,rfl⟩|(rename_i iN;cases iN<;>first|exact⟨rfl,rfl⟩|cases h)|cases h
theorem Ka{φ:b2}{T:Nat→Prop}{h:Array Obj}{β:fU}{x:H}{sz:Nat}{xs:List (List D)}(he:x.mine=some (sz,xs))(r:dG φ T h β x):β.sz=sz∧((β.dP=none∧xs=[]∧β.cap=0∧β.cS=[])∨
  ∃b,β.dP=some b∧xs.length≤β.cap∧mg h b (β.off+β.cap * sz)∧repE h true b β.off sz xs β.cS):=by
 cases x with
 |ao f' kD iN=>
  cases iN with
  |false=>cases he
  |true=>
   simp only[H.mine,Option.some.injEq,Prod.mk.injEq]at he;obtain⟨rfl,rfl⟩:=he;simp only[dG]at r;obtain⟨r0,r⟩:=r;refine⟨r0,r.imp id ?_⟩;rintro⟨b,G,aH,aZ,ca,cf,eh,gJ⟩;exact⟨b,aH,aZ,ca,(eh trivial)▸cf⟩
 |ag f' kD=>
  simp only[H.mine,Option.some.injEq,Prod.mk.injEq]at he;obtain⟨rfl,rfl⟩:=he;simpa only[dG]using r
 |_=>cases he
theorem J9(r:R B w0 aG φ σ kp a w){id off len:Nat}{sz:Nat}{xs:List (List D)}(hx:(aN σ.heap id).mine=some (sz,xs))(hl:off+len≤xs.length){u:Value}(eE:VRel φ (b8 φ σ.heap) w.heap (.sl id off len) u) :
  ∃F,rep w.heap true (.sl sz ((xs.drop off).take len)) u F∧F.Nodup∧∀b∈F,cN φ σ.heap id b:=by
 obtain⟨β,ad,c,ai,aj,aT,bj,cr⟩:=s0 eE;rcases r.hp id with hd|⟨a7,fq,hr⟩
 ·rw[hd]at hx;cases hx
 ·rw[ai]at fq;cases fq;obtain⟨hs,hr⟩:=Ka hx hr;obtain⟨iE,AP⟩:=H.YN hx;have eB:((xs.drop off).take len).length=len:=by simp;omega
  simp only[rep];by_cases hne:len=0
  ·have h0:(xs.drop off).take len=[]:=List.eq_nil_of_length_eq_zero (by omega);rcases cr with cr|⟨b,cr,iU,mf⟩
   ·exact⟨[],⟨ad,c,by rw[eB];exact aj,by omega,bj,.inl ⟨h0,rfl,fun _=>cr.1⟩⟩,List.nodup_nil,by simp⟩
   ·rcases hr with hr|⟨c8,aH,aZ,ca,cf⟩
    ·rw[cr]at hr;cases hr.1
    ·rw[cr]at aH;cases aH;rcases Nat.eq_zero_or_pos c with A7|A7
     ·exact⟨[],⟨ad,c,by rw[eB];exact aj,by omega,bj,.inl ⟨h0,rfl,fun _=>A7⟩⟩,List.nodup_nil,by simp⟩
     refine⟨[b],⟨ad,c,by rw[eB];exact aj,by omega,bj,.inr ⟨b,_,[],iU,rfl,ca.lt,by rw[h0];simp[repE],fun _=>⟨A7,?_⟩⟩⟩,by simp,?_⟩
     ·obtain⟨cs,t,dv,dD⟩:=ca;refine⟨cs,t,dv,Nat.le_trans ?_ dD⟩;rw[hs,Nat.add_assoc,←Nat.add_mul];exact Nat.add_le_add_left (Nat.mul_le_mul_right _ (Nat.le_of_eq mf)) _
     ·intro x eN;simp only[List.mem_singleton]at eN;subst eN;exact⟨β,ai,.inl ⟨AP,cr⟩⟩
  ·rcases cr with cr|⟨b,cr,iU,mf⟩
   ·omega
   ·rcases hr with hr|⟨c8,aH,aZ,ca,cf⟩
    ·rw[hr.2.1]at hl;simp at hl;omega
    ·rw[cr]at aH;cases aH;generalize br:β.cS=G at cf;have AR:xs=xs.take off++((xs.drop off).take len++(xs.drop off).drop len):=by rw[List.take_append_drop,List.take_append_drop]
     have kB:(xs.take off).length=off:=by simp;omega
     rw[AR]at cf;obtain⟨bH,bA,rfl,k1,k2⟩:=(repE_append _ _ _ _).1 cf;obtain⟨ze,QW,rfl,dw,gj⟩:=(repE_append _ _ _ _).1 k2;rw[kB]at dw;have gF:=r.d_ id β ai iE;rw[br]at gF;refine⟨b::ze,⟨ad,c,by rw[eB];exact aj,by omega,bj,.inr ⟨b,_,ze,iU,rfl,ca.lt,by rw[hs];exact dw,fun _=>⟨by omega,?_⟩⟩⟩,?_,?_⟩
     ·obtain⟨cs,t,dv,dD⟩:=ca;refine⟨cs,t,dv,Nat.le_trans ?_ dD⟩;rw[hs,Nat.add_assoc,←Nat.add_mul];exact Nat.add_le_add_left (Nat.mul_le_mul_right _ (Nat.le_of_eq mf)) _
     ·refine List.nodup_cons.2 ⟨fun hb=>gF.2 b cr (by simp[hb]),?_⟩;have:=gF.1;rw[List.nodup_append]at this;have:=this.2.1;rw[List.nodup_append]at this;exact this.1
     ·intro x eN;rcases List.mem_cons.1 eN with rfl|eN
      ·exact⟨β,ai,.inl ⟨AP,cr⟩⟩
      ·exact⟨β,ai,.inr ⟨iE,by rw[br];simp[eN]⟩⟩
theorem P5(r:R B w0 aG φ σ kp a w){id off len:Nat}{sz:Nat}{xs:List (List D)}(hx:aN σ.heap id=.ao sz xs true)(hl:off+len≤xs.length){u:Value}(eE:VRel φ (b8 φ σ.heap) w.heap (.sl id off len) u) :
  ∃F,rep w.heap true (.sl sz ((xs.drop off).take len)) u F∧F.Nodup∧∀b∈F,cN φ σ.heap id b:=J9 r (by rw[hx];rfl) hl eE
theorem Kg(r:R B w0 aG φ σ kp a w){v:V}{d:D}{bP:List Nat}(h:toD σ.heap v=some (d,bP)){u:Value}(eE:VRel φ (b8 φ σ.heap) w.heap v u) :
  ∃F,rep w.heap true d u F∧F.Nodup∧(∀b∈F,∃id∈bP,cN φ σ.heap id b)∧∀id∈bP,∃sz xs,aN σ.heap id=.ao sz xs true:=by
 unfold toD at h;split at h
 ·split at h
  ·rename_i x hf;simp only[Option.some.injEq,Prod.mk.injEq]at h;obtain⟨rfl,rfl⟩:=h;simp only[VRel]at eE;obtain⟨F,aH,_⟩:=eE;have:=CS hf aH;subst this;exact⟨[],FV hf aH,List.nodup_nil,by simp,by simp⟩
  ·cases h
 ·simp only[Option.some.injEq,Prod.mk.injEq]at h;obtain⟨rfl,rfl⟩:=h;simp only[VRel]at eE;subst eE;exact⟨[],⟨none,0,rfl,by simp,by decide,.inl ⟨rfl,rfl,fun _=>rfl⟩⟩,List.nodup_nil,by simp,by simp⟩
 ·rename_i id off len;split at h
  ·rename_i sz xs hx;split at h
   ·rename_i hl;simp only[Option.some.injEq,Prod.mk.injEq]at h;obtain⟨rfl,rfl⟩:=h;obtain⟨F,k1,k2,dw⟩:=P5 r hx hl eE;exact⟨F,k1,k2,fun b hb=>⟨id,by simp,dw b hb⟩,by simp[hx]⟩
   ·cases h
  ·cases h
 ·cases h
theorem u2:∀(upd:List (Nat×H)) (hs:List H) (i:Nat),(∃x,(i,x)∈upd∧aN (hupd hs upd) i=x)∨((∀x,(i,x)∉upd)∧aN (hupd hs upd) i=aN hs i)
 |[],hs,i=>.inr ⟨by simp,rfl⟩
 |(j,y)::r,hs,i=>by
  rw[hupd];rcases u2 r (b3 hs j y) i with ⟨x,h1,h2⟩|⟨h1,h2⟩
  ·exact .inl ⟨x,by simp[h1],h2⟩
  ·rw[gS]at h2;by_cases h:i=j
   ·subst h;rw[if_pos rfl]at h2;exact .inl ⟨y,by simp,h2⟩
   ·rw[if_neg h]at h2;exact .inr ⟨fun x hx=>by
     rcases List.mem_cons.1 hx with hx|hx
     ·cases hx;exact h rfl
     ·exact h1 x hx,h2⟩
theorem FM(r:R B w0 aG φ σ kp a w){n:Nat}(hd:aN σ.heap n=.c1)(hn:¬aG n){upd:List (Nat×H)}(hnd:(upd.map (·.1)).Nodup)
  (hu:∀p∈upd,∃sz xs,aN σ.heap p.1=.ao sz xs true∧(p.2=.c1∨p.2=.g1 sz xs)) {β:fU} {sz:Nat} {xs:List (List D)} (cH:β.sz=sz) {w':World} (hs:w.heap.size≤w'.heap.size) (hb:Bel B w0 w')
  (yM:∀b,b<w.heap.size→(∀p∈upd,p.2=.c1→∀a7,φ p.1=some a7→a7.dP≠some b)→w'.heap[b]?=w.heap[b]?)
  (C8:(β.dP=none∧xs=[]∧β.cap=0∧β.cS=[])∨∃b,β.dP=some b∧xs.length≤β.cap∧mg w'.heap b (β.off+β.cap * sz)∧repE w'.heap true b β.off sz xs β.cS)
  (A8:∀b,β.dP=some b→w.heap.size≤b∨∃p∈upd,p.2=.c1∧∃a7,φ p.1=some a7∧a7.dP=some b)
  (xz:∀b∈β.cS,w.heap.size≤b∨∃p∈upd,cN φ σ.heap p.1 b) (Kz:β.cS.Nodup) (KA:∀b,β.dP=some b→b∉β.cS) :
  R B w0 (fun i=>aG i∨(n≤i∧i<n+1)) (cZ φ n β) ⟨σ.tmps,hupd (b3 σ.heap n (.ao sz xs true)) upd⟩ kp a w':=by
 have Ky:φ n=none:=by
  cases h:φ n with
  |none=>rfl
  |some β=>exact absurd (r.f1 n β h) hn
 have C9:∀x,(n,x)∉upd:=fun x hx=>by
  obtain⟨s,ys,h1,_⟩:=hu _ hx;rw[hd]at h1;cases h1
 have aR:l7 φ (cZ φ n β):=fun i a7 hi=>by
  have:i≠n:=fun e=>by subst e;rw[Ky]at hi;cases hi
  exact⟨a7,by simp[cZ,this,hi],rfl,rfl,rfl,rfl⟩
 have iP:aN (hupd (b3 σ.heap n (.ao sz xs true)) upd) n=.ao sz xs true:=by
  rcases u2 upd (b3 σ.heap n (.ao sz xs true)) n with ⟨x,h1,_⟩|⟨_,h2⟩
  ·exact absurd h1 (C9 x)
  ·rw[h2,gS,if_pos rfl]
 have hin:∀i x,(i,x)∈upd→aN (hupd (b3 σ.heap n (.ao sz xs true)) upd) i=x:=by
  intro i x hx;rcases u2 upd (b3 σ.heap n (.ao sz xs true)) i with ⟨y,h1,h2⟩|⟨h1,_⟩
  ·have:y=x:=by
    have hp:List.Pairwise (fun p q=>p.1≠q.1) upd:=by simpa [List.Nodup,List.pairwise_map]using hnd
    by_cases lF:y=x
    ·exact lF
    ·exfalso;have:=List.Pairwise.forall_of_forall_of_flip (R:=fun p q:Nat×H=>p=q∨p.1≠q.1) (l:=upd) (fun p _=>.inl rfl) (hp.imp fun h=>.inr h) (hp.imp fun h=>.inr (Ne.symm h)) h1 hx;rcases this with this|this
     ·cases this;exact lF rfl
     ·exact this rfl
   rw[h2,this]
  ·exact absurd hx (h1 x)
 have lI:∀i,i≠n→(∀x,(i,x)∉upd)→aN (hupd (b3 σ.heap n (.ao sz xs true)) upd) i=aN σ.heap i:=by
  intro i hi hx;rcases u2 upd (b3 σ.heap n (.ao sz xs true)) i with ⟨y,h1,h2⟩|⟨_,h2⟩
  ·exact absurd h1 (hx y)
  ·rw[h2,gS,if_neg hi]
 have t4:∀i,i≠n→cZ φ n β i=φ i:=fun i hi=>by simp[cZ,hi]
 have wg:∀i x,(i,x)∈upd→x.me=false∧x.own=false:=by
  intro i x hx;obtain⟨s,ys,_,h2⟩:=hu _ hx;rcases h2 with h2|h2<;>simp only at h2<;>subst h2<;>exact⟨rfl,rfl⟩
 have C_:∀i x,(i,x)∈upd→∀a7 b,¬jH x a7 b:=by
  intro i x hx a7 b ht;rcases ht with ⟨h,_⟩|⟨h,_⟩
  ·rw[(wg i x hx).1]at h;cases h
  ·have:=H.Ga h;rw[(wg i x hx).2]at this;cases this
 have wh:∀i,(i=n∨∃x,(i,x)∈upd)→∀b,cN (cZ φ n β) (hupd (b3 σ.heap n (.ao sz xs true)) upd) i b→i=n∧(β.dP=some b∨b∈β.cS):=by
  rintro i (rfl|⟨x,hx⟩) b ⟨a7,h1,h2⟩
  ·simp only[cZ,if_true,Option.some.injEq]at h1;subst h1;refine⟨rfl,?_⟩;rcases h2 with ⟨_,h2⟩|⟨_,h2⟩
   ·exact .inl h2
   ·exact .inr h2
  ·rw[hin i x hx]at h2;obtain⟨k1,k2⟩:=wg i x hx;rcases h2 with ⟨h2,_⟩|⟨h2,_⟩
   ·rw[k1]at h2;cases h2
   ·rw[k2]at h2;cases h2
 have C':∀p∈upd,∀a7 b,φ p.1=some a7→a7.dP=some b→cN φ σ.heap p.1 b:=by
  intro p hp a7 b h1 h2;obtain⟨s,ys,ak,_⟩:=hu p hp;exact⟨a7,h1,.inl ⟨by rw[ak];rfl,h2⟩⟩
 have YO:∀b,b<w.heap.size→b8 φ σ.heap b→b8 (cZ φ n β) (hupd (b3 σ.heap n (.ao sz xs true)) upd) b:=by
  intro b et ht i a7 hi he;by_cases h:i=n
  ·subst h;simp only[cZ,if_true,Option.some.injEq]at hi;subst hi;rw[iP]at he;rcases he with ⟨_,he⟩|⟨he,_⟩
   ·rcases A8 b he with h1|⟨p,hp,_,a7,h1,h2⟩
    ·omega
    ·obtain⟨s,ys,ak,_⟩:=hu p hp;exact ht p.1 a7 h1 (.inl ⟨by rw[ak];rfl,h2⟩)
   ·cases he
  ·rw[t4 i h]at hi;by_cases hx:∃x,(i,x)∈upd
   ·obtain⟨x,hx⟩:=hx;rw[hin i x hx]at he;exact C_ i x hx _ _ he
   ·rw[lI i h (fun x eN=>hx ⟨x,eN⟩)]at he;exact ht i a7 hi he
 refine v7 r (fun i=>i=n∨∃x,(i,x)∈upd) _ _ _ w' (fun i hi=>?_) aR hs (fun b et ht=>?_) (fun i hi b az=>?_) (fun i hi a7 h1 b h2=>?_) (fun i j b hi av h1 h2=>?_) (fun i a7 hi h1 hx=>?_) (fun i hi=>?_) (fun i a7 hi=>?_) hb
 ·exact⟨lI i (fun e=>hi (.inl e)) (fun x hx=>hi (.inr ⟨x,hx⟩)),t4 i (fun e=>hi (.inl e))⟩
 ·refine yM b et fun p hp _ a7 h1 h2=>?_;obtain⟨s,ys,ak,_⟩:=hu p hp;exact ht p.1 (.inr ⟨p.2,hp⟩) a7 h1 (.inl ⟨by rw[ak];rfl,h2⟩)
 ·obtain⟨rfl,h1⟩:=wh i hi b az;rcases h1 with h1|h1
  ·rcases A8 b h1 with h2|⟨p,hp,_,a7,h2,ak⟩
   ·exact .inl h2
   ·exact .inr ⟨p.1,.inr ⟨p.2,hp⟩,C' p hp a7 b h2 ak⟩
  ·rcases xz b h1 with h2|⟨p,hp,h2⟩
   ·exact .inl h2
   ·exact .inr ⟨p.1,.inr ⟨p.2,hp⟩,h2⟩
 ·have az:cN (cZ φ n β) (hupd (b3 σ.heap n (.ao sz xs true)) upd) i b:=jH.wa h1 h2;obtain⟨rfl,_⟩:=wh i hi b az;simp only[cZ,if_true,Option.some.injEq]at h1;subst h1;rw[iP]at h2;rcases h2 with ⟨_,h2⟩|⟨h2,_⟩
  ·rcases A8 b h2 with ak|⟨p,hp,_,a7,ak,aC⟩
   ·exact .inl ak
   ·obtain⟨s,ys,bL,_⟩:=hu p hp;exact .inr ⟨p.1,a7,.inr ⟨p.2,hp⟩,ak,.inl ⟨by rw[bL];rfl,aC⟩⟩
  ·cases h2
 ·rw[(wh i hi b h1).1,(wh j av b h2).1]
 ·rcases hi with rfl|⟨x,eN⟩
  ·simp only[cZ,if_true,Option.some.injEq]at h1;subst h1;exact⟨Kz,KA⟩
  ·rw[hin i x eN,(wg i x eN).2]at hx;cases hx
 ·rcases hi with rfl|⟨x,hx⟩
  ·refine .inr ⟨β,by simp[cZ],?_⟩;rw[iP];refine⟨cH,?_⟩;rcases C8 with h1|⟨b,h1,h2,ak,aC⟩
   ·exact .inl h1
   ·exact .inr ⟨b,β.cS,h1,h2,ak,aC,fun _=>rfl,fun h=>by cases h⟩
  ·rw[hin i x hx];obtain⟨s,ys,h1,h2⟩:=hu _ hx;rcases h2 with h2|h2
   ·exact .inl h2
   ·simp only at h2 h1;subst h2;have Da:i≠n:=fun e=>by subst e;exact C9 _ hx
    rcases r.hp i with fY|⟨a7,ai,hr⟩
    ·rw[h1]at fY;cases fY
    ·refine .inr ⟨a7,by rw[t4 i Da];exact ai,?_⟩;rw[h1]at hr;obtain⟨tY,hr⟩:=hr;refine⟨tY,?_⟩;rcases hr with hr|⟨b,G,aH,aZ,ca,cf,eh,gJ⟩
     ·exact .inl hr.2.1
     ·have br:=eh rfl;have tV:cN φ σ.heap i b:=⟨a7,ai,.inl ⟨by rw[h1];rfl,aH⟩⟩;have Db:∀g∈G,cN φ σ.heap i g:=fun g hg=>⟨a7,ai,.inr ⟨by rw[h1];rfl,br▸hg⟩⟩;have hk:∀c,cN φ σ.heap i c→w'.heap[c]?=w.heap[c]?:=by
       intro c hc;refine yM c (cN.lt r hc) fun p hp Dc i1 cF bh=>?_;have:=r.dy i p.1 c hc (C' p hp i1 c cF bh);have ak:=hin p.1 p.2 hp;rw[←this,hin i _ hx,Dc]at ak;cases ak
      have cw:∀c,cN φ σ.heap i c→b8 (cZ φ n β) (hupd (b3 σ.heap n (.ao sz xs true)) upd) c∨∃c8,β.dP=some c8∧c8=c:=by
       intro c hc;by_cases xK:β.dP=some c
       ·exact .inr ⟨c,xK,rfl⟩
       ·refine .inl fun j i1 av he=>?_;by_cases h:j=n
        ·subst h;simp only[cZ,if_true,Option.some.injEq]at av;subst av;rw[iP]at he;rcases he with ⟨_,he⟩|⟨he,_⟩
         ·exact xK he
         ·cases he
        ·rw[t4 j h]at av;by_cases fQ:∃x,(j,x)∈upd
         ·obtain⟨x,fQ⟩:=fQ;rw[hin j x fQ]at he;exact C_ j x fQ _ _ he
         ·rw[lI j h (fun x eN=>fQ ⟨x,eN⟩)]at he;have:=r.dy i j c hc (jH.wa av he);exact fQ ⟨_,this▸hx⟩
      have Dd:∀c,cN φ σ.heap i c→b8 (cZ φ n β) (hupd (b3 σ.heap n (.ao sz xs true)) upd) c:=by
       intro c hc;rcases cw c hc with h|⟨c8,cF,rfl⟩
       ·exact h
       ·exfalso;rcases A8 c8 cF with ak|⟨p,hp,Dc,i1,bh,bI⟩
        ·have:=cN.lt r hc;omega
        ·have:=r.dy i p.1 c8 hc (C' p hp i1 c8 bh bI);have ak:=hin p.1 p.2 hp;rw[←this,hin i _ hx,Dc]at ak;cases ak
      exact .inr ⟨b,G,aH,Dd b tV,Nat.lt_of_lt_of_le ca.lt hs,wc hs ys b a7.off s G (hk b tV) (fun g hg=>hk g (Db g hg)) (C4 _ _ _ _ _ cf),fun g hg=>Dd g (Db g hg)⟩
 ·by_cases h:i=n
  ·exact .inr ⟨by omega,by omega⟩
  ·exact .inl (r.f1 i a7 (by rw[←t4 i h];exact hi))
theorem QX(r:R B w0 aG φ σ kp a w){n:Nat}{upd:List (Nat×H)}(hnd:(upd.map (·.1)).Nodup)
  (hu:∀p∈upd,∃sz xs,aN σ.heap p.1=.ao sz xs true∧(p.2=.c1∨p.2=.g1 sz xs)) {β β0:fU} {iW:Nat} {YP:List (List D)} (dM:φ n=some β0) (h0:aN σ.heap n=.ao iW YP true) (fz:β.dP=β0.dP∧β.off=β0.off∧β.cap=β0.cap∧β.sz=β0.sz) (C9:∀x,(n,x)∉upd) {sz:Nat} {xs:List (List D)} (cH:β.sz=sz) {w':World} (hs:w.heap.size≤w'.heap.size) (hb:Bel B w0 w')
  (yM:∀b,b<w.heap.size→β0.dP≠some b→(∀p∈upd,p.2=.c1→∀a7,φ p.1=some a7→a7.dP≠some b)→w'.heap[b]?=w.heap[b]?)
  (C8:(β.dP=none∧xs=[]∧β.cap=0∧β.cS=[])∨∃b,β.dP=some b∧xs.length≤β.cap∧mg w'.heap b (β.off+β.cap * sz)∧repE w'.heap true b β.off sz xs β.cS)
  (xz:∀b∈β.cS,cN φ σ.heap n b∨∃p∈upd,cN φ σ.heap p.1 b) (Kz:β.cS.Nodup) (KA:∀b,β.dP=some b→b∉β.cS) :
  R B w0 aG (cZ φ n β) ⟨σ.tmps,hupd (b3 σ.heap n (.ao sz xs true)) upd⟩ kp a w':=by
 have aR:l7 φ (cZ φ n β):=fun i a7 hi=>by
  by_cases h:i=n
  ·subst h;rw[dM]at hi;cases hi;exact⟨β,by simp[cZ],fz.1,fz.2.1,fz.2.2.1,fz.2.2.2⟩
  ·exact⟨a7,by simp[cZ,h,hi],rfl,rfl,rfl,rfl⟩
 have iP:aN (hupd (b3 σ.heap n (.ao sz xs true)) upd) n=.ao sz xs true:=by
  rcases u2 upd (b3 σ.heap n (.ao sz xs true)) n with ⟨x,h1,_⟩|⟨_,h2⟩
  ·exact absurd h1 (C9 x)
  ·rw[h2,gS,if_pos rfl]
 have hin:∀i x,(i,x)∈upd→aN (hupd (b3 σ.heap n (.ao sz xs true)) upd) i=x:=by
  intro i x hx;rcases u2 upd (b3 σ.heap n (.ao sz xs true)) i with ⟨y,h1,h2⟩|⟨h1,_⟩
  ·have:y=x:=by
    have hp:List.Pairwise (fun p q=>p.1≠q.1) upd:=by simpa [List.Nodup,List.pairwise_map]using hnd
    by_cases lF:y=x
    ·exact lF
    ·exfalso;have:=List.Pairwise.forall_of_forall_of_flip (R:=fun p q:Nat×H=>p=q∨p.1≠q.1) (l:=upd) (fun p _=>.inl rfl) (hp.imp fun h=>.inr h) (hp.imp fun h=>.inr (Ne.symm h)) h1 hx;rcases this with this|this
     ·cases this;exact lF rfl
     ·exact this rfl
   rw[h2,this]
  ·exact absurd hx (h1 x)
 have lI:∀i,i≠n→(∀x,(i,x)∉upd)→aN (hupd (b3 σ.heap n (.ao sz xs true)) upd) i=aN σ.heap i:=by
  intro i hi hx;rcases u2 upd (b3 σ.heap n (.ao sz xs true)) i with ⟨y,h1,h2⟩|⟨_,h2⟩
  ·exact absurd h1 (hx y)
  ·rw[h2,gS,if_neg hi]
 have t4:∀i,i≠n→cZ φ n β i=φ i:=fun i hi=>by simp[cZ,hi]
 have wg:∀i x,(i,x)∈upd→x.me=false∧x.own=false:=by
  intro i x hx;obtain⟨s,ys,_,h2⟩:=hu _ hx;rcases h2 with h2|h2<;>simp only at h2<;>subst h2<;>exact⟨rfl,rfl⟩
 have C_:∀i x,(i,x)∈upd→∀a7 b,¬jH x a7 b:=by
  intro i x hx a7 b ht;rcases ht with ⟨h,_⟩|⟨h,_⟩
  ·rw[(wg i x hx).1]at h;cases h
  ·have:=H.Ga h;rw[(wg i x hx).2]at this;cases this
 have wh:∀i,(i=n∨∃x,(i,x)∈upd)→∀b,cN (cZ φ n β) (hupd (b3 σ.heap n (.ao sz xs true)) upd) i b→i=n∧(β.dP=some b∨b∈β.cS):=by
  rintro i (rfl|⟨x,hx⟩) b ⟨a7,h1,h2⟩
  ·simp only[cZ,if_true,Option.some.injEq]at h1;subst h1;refine⟨rfl,?_⟩;rcases h2 with ⟨_,h2⟩|⟨_,h2⟩
   ·exact .inl h2
   ·exact .inr h2
  ·rw[hin i x hx]at h2;obtain⟨k1,k2⟩:=wg i x hx;rcases h2 with ⟨h2,_⟩|⟨h2,_⟩
   ·rw[k1]at h2;cases h2
   ·rw[k2]at h2;cases h2
 have C':∀p∈upd,∀a7 b,φ p.1=some a7→a7.dP=some b→cN φ σ.heap p.1 b:=by
  intro p hp a7 b h1 h2;obtain⟨s,ys,ak,_⟩:=hu p hp;exact⟨a7,h1,.inl ⟨by rw[ak];rfl,h2⟩⟩
 have YO:∀b,b<w.heap.size→b8 φ σ.heap b→b8 (cZ φ n β) (hupd (b3 σ.heap n (.ao sz xs true)) upd) b:=by
  intro b et ht i a7 hi he;by_cases h:i=n
  ·subst h;simp only[cZ,if_true,Option.some.injEq]at hi;subst hi;rw[iP]at he;rcases he with ⟨_,he⟩|⟨he,_⟩
   ·exact ht i β0 dM (.inl ⟨by rw[h0];rfl,fz.1▸he⟩)
   ·cases he
  ·rw[t4 i h]at hi;by_cases hx:∃x,(i,x)∈upd
   ·obtain⟨x,hx⟩:=hx;rw[hin i x hx]at he;exact C_ i x hx _ _ he
   ·rw[lI i h (fun x eN=>hx ⟨x,eN⟩)]at he;exact ht i a7 hi he
 refine v7 r (fun i=>i=n∨∃x,(i,x)∈upd) _ _ _ w' (fun i hi=>?_) aR hs (fun b et ht=>?_) (fun i hi b az=>?_) (fun i hi a7 h1 b h2=>?_) (fun i j b hi av h1 h2=>?_) (fun i a7 hi h1 hx=>?_) (fun i hi=>?_) (fun i a7 hi=>?_) hb
 ·exact⟨lI i (fun e=>hi (.inl e)) (fun x hx=>hi (.inr ⟨x,hx⟩)),t4 i (fun e=>hi (.inl e))⟩
 ·refine yM b et (fun nP=>ht n (.inl rfl) β0 dM (.inl ⟨by rw[h0];rfl,nP⟩)) fun p hp _ a7 h1 h2=>?_;obtain⟨s,ys,ak,_⟩:=hu p hp;exact ht p.1 (.inr ⟨p.2,hp⟩) a7 h1 (.inl ⟨by rw[ak];rfl,h2⟩)
 ·obtain⟨rfl,h1⟩:=wh i hi b az;rcases h1 with h1|h1
  ·exact .inr ⟨i,.inl rfl,β0,dM,.inl ⟨by rw[h0];rfl,fz.1▸h1⟩⟩
  ·rcases xz b h1 with h2|⟨p,hp,h2⟩
   ·exact .inr ⟨i,.inl rfl,h2⟩
   ·exact .inr ⟨p.1,.inr ⟨p.2,hp⟩,h2⟩
 ·have az:cN (cZ φ n β) (hupd (b3 σ.heap n (.ao sz xs true)) upd) i b:=jH.wa h1 h2;obtain⟨rfl,_⟩:=wh i hi b az;simp only[cZ,if_true,Option.some.injEq]at h1;subst h1;rw[iP]at h2;rcases h2 with ⟨_,h2⟩|⟨h2,_⟩
  ·exact .inr ⟨i,β0,.inl rfl,dM,.inl ⟨by rw[h0];rfl,fz.1▸h2⟩⟩
  ·cases h2
 ·rw[(wh i hi b h1).1,(wh j av b h2).1]
 ·rcases hi with rfl|⟨x,eN⟩
  ·simp only[cZ,if_true,Option.some.injEq]at h1;subst h1;exact⟨Kz,KA⟩
  ·rw[hin i x eN,(wg i x eN).2]at hx;cases hx
 ·rcases hi with rfl|⟨x,hx⟩
  ·refine .inr ⟨β,by simp[cZ],?_⟩;rw[iP];refine⟨cH,?_⟩;rcases C8 with h1|⟨b,h1,h2,ak,aC⟩
   ·exact .inl h1
   ·exact .inr ⟨b,β.cS,h1,h2,ak,aC,fun _=>rfl,fun h=>by cases h⟩
  ·rw[hin i x hx];obtain⟨s,ys,h1,h2⟩:=hu _ hx;rcases h2 with h2|h2
   ·exact .inl h2
   ·simp only at h2 h1;subst h2;have Da:i≠n:=fun e=>by subst e;exact C9 _ hx
    rcases r.hp i with fY|⟨a7,ai,hr⟩
    ·rw[h1]at fY;cases fY
    ·refine .inr ⟨a7,by rw[t4 i Da];exact ai,?_⟩;rw[h1]at hr;obtain⟨tY,hr⟩:=hr;refine⟨tY,?_⟩;rcases hr with hr|⟨b,G,aH,aZ,ca,cf,eh,gJ⟩
     ·exact .inl hr.2.1
     ·have br:=eh rfl;have tV:cN φ σ.heap i b:=⟨a7,ai,.inl ⟨by rw[h1];rfl,aH⟩⟩;have Db:∀g∈G,cN φ σ.heap i g:=fun g hg=>⟨a7,ai,.inr ⟨by rw[h1];rfl,br▸hg⟩⟩;have hk:∀c,cN φ σ.heap i c→w'.heap[c]?=w.heap[c]?:=by
       intro c hc;refine yM c (cN.lt r hc) (fun A7=>Da (r.dy i n c hc ⟨β0,dM,.inl ⟨by rw[h0];rfl,A7⟩⟩)) fun p hp Dc i1 cF bh=>?_;have:=r.dy i p.1 c hc (C' p hp i1 c cF bh);have ak:=hin p.1 p.2 hp;rw[←this,hin i _ hx,Dc]at ak;cases ak
      have cw:∀c,cN φ σ.heap i c→b8 (cZ φ n β) (hupd (b3 σ.heap n (.ao sz xs true)) upd) c∨∃c8,β.dP=some c8∧c8=c:=by
       intro c hc;by_cases xK:β.dP=some c
       ·exact .inr ⟨c,xK,rfl⟩
       ·refine .inl fun j i1 av he=>?_;by_cases h:j=n
        ·subst h;simp only[cZ,if_true,Option.some.injEq]at av;subst av;rw[iP]at he;rcases he with ⟨_,he⟩|⟨he,_⟩
         ·exact xK he
         ·cases he
        ·rw[t4 j h]at av;by_cases fQ:∃x,(j,x)∈upd
         ·obtain⟨x,fQ⟩:=fQ;rw[hin j x fQ]at he;exact C_ j x fQ _ _ he
         ·rw[lI j h (fun x eN=>fQ ⟨x,eN⟩)]at he;have:=r.dy i j c hc (jH.wa av he);exact fQ ⟨_,this▸hx⟩
      have Dd:∀c,cN φ σ.heap i c→b8 (cZ φ n β) (hupd (b3 σ.heap n (.ao sz xs true)) upd) c:=by
       intro c hc;rcases cw c hc with h|⟨c8,cF,rfl⟩
       ·exact h
       ·exfalso;exact Da (r.dy i n c8 hc ⟨β0,dM,.inl ⟨by rw[h0];rfl,fz.1▸cF⟩⟩)
      exact .inr ⟨b,G,aH,Dd b tV,Nat.lt_of_lt_of_le ca.lt hs,wc hs ys b a7.off s G (hk b tV) (fun g hg=>hk g (Db g hg)) (C4 _ _ _ _ _ cf),fun g hg=>Dd g (Db g hg)⟩
 ·by_cases h:i=n
  ·subst h;exact r.f1 i β0 dM
  ·exact r.f1 i a7 (by rw[←t4 i h];exact hi)
end
variable {P:Program} {o:Oper} {g:Bool} {σ:St} {n:Nat} {K:dS→Prop}
section
variable {B:Nat→Prop} {w0:World} {aG:Nat→Prop} {φ:b2} {kp:List (V×Value)} {a:Act} {w:World}
theorem YQ(r:R B w0 aG φ σ kp a w){id:Nat}{β:fU}(dM:φ id=some β){cells cells':List V}(h0:aN σ.heap id=.box cells){b:Nat}(kM:β.dP=some b){A2:Array Value}{e:TypeId}{w':World}
  (hc:VRels φ (b8 φ σ.heap) w.heap cells' A2.toList) (hw:w'.heap[b]?=some (.cells A2 e (0,0))) (hk:∀c,c≠b→w'.heap[c]?=w.heap[c]?) (hs:w'.heap.size=w.heap.size) (hb:Bel B w0 w') :
  R B w0 aG φ ⟨σ.tmps,b3 σ.heap id (.box cells')⟩ kp a w':=by
 have cw:∀c,b8 φ σ.heap c→b8 φ (b3 σ.heap id (.box cells')) c:=by
  intro c ht i a7 hi he;rw[gS]at he;by_cases h:i=id
  ·subst h;rw[if_pos rfl]at he;rcases he with ⟨_,he⟩|⟨he,_⟩
   ·exact ht i a7 hi (.inl ⟨by rw[h0];rfl,he⟩)
   ·cases he
  ·rw[if_neg h]at he;exact ht i a7 hi he
 have zf:∀c,b8 φ σ.heap c→c≠b:=fun c ht lJ=>by subst lJ;exact ht id β dM (.inl ⟨by rw[h0];rfl,kM⟩)
 refine v7 r (fun i=>i=id) _ _ _ w' (fun i hi=>⟨by rw[gS,if_neg hi],rfl⟩) (l7.refl φ) (by omega) (fun c _ ht=>hk c fun lJ=>?_) ?_ ?_ (fun i j b hi av _ _=>hi.trans av.symm) ?_ ?_ r.f1 hb
 ·subst lJ;exact ht id rfl β dM (.inl ⟨by rw[h0];rfl,kM⟩)
 ·rintro i rfl c ⟨a7,h1,h2⟩;rw[dM]at h1;cases h1;rw[gS,if_pos rfl]at h2;rcases h2 with ⟨_,h2⟩|⟨h2,_⟩
  ·exact .inr ⟨i,rfl,β,dM,.inl ⟨by rw[h0];rfl,h2⟩⟩
  ·cases h2
 ·rintro i rfl a7 h1 c h2;rw[dM]at h1;cases h1;rw[gS,if_pos rfl]at h2;rcases h2 with ⟨_,h2⟩|⟨h2,_⟩
  ·exact .inr ⟨i,β,rfl,dM,.inl ⟨by rw[h0];rfl,h2⟩⟩
  ·cases h2
 ·rintro i a7 rfl _ hx;rw[gS,if_pos rfl]at hx;cases hx
 ·rintro i rfl;refine .inr ⟨β,dM,?_⟩;rw[gS,if_pos rfl];have YR:β.off=0:=by
   rcases r.hp i with hd|⟨a7,ai,hr⟩
   ·rw[h0]at hd;cases hd
   ·rw[dM]at ai;cases ai;rw[h0]at hr;obtain⟨_,_,_,_,h,_⟩:=hr;exact h
  exact⟨b,A2,e,kM,YR,hw,sN ⟨l7.refl φ,fun c _ ht=>cw c ht,fun c _ ht=>hk c (zf c ht),by omega⟩ _ _ hc⟩
end
theorem FQ{B:Nat→Prop}{w0 w:World}(h:Bel B w0 w)(hB:∀k,w.heap.size≤k→B k)(o:Obj):Bel B w0 (w.alloc o):=
 h.trans ⟨rfl,rfl,rfl,by simp,fun k hk=>RowKit.Below.heap_alloc _ _ _ (by
  rcases Nat.lt_or_ge k w.heap.size with h|h
  ·exact h
  ·exact absurd (hB k h) hk),fun b n r=>r.mono (RowKit.Below.heap_alloc _ _ _ r.lt)⟩
theorem CY{B:Nat→Prop}{w0:World}{aG xv:Nat→Prop}{φ:b2}{kp:List (V×Value)}{a:Act}{w:World}(r:R B w0 aG φ σ kp a w)(h:∀i,aG i→xv i):R B w0 xv φ σ kp a w:=
 ⟨r.gB,r.kp,r.hp,r.dy,r.d_,r.ej,fun i β e=>h i (r.f1 i β e),r.fg,r.bs,r.l8,r.jS⟩
theorem YS{φ:b2}{T:Nat→Prop}{h:Array Obj}{n b:Nat}:VRel (cZ φ n ⟨some b,0,0,0,[]⟩) T h (.ptr n 0 0) (.pointer (some ⟨b,0,none⟩)):=by
 simp only[VRel];exact⟨⟨some b,0,0,0,[]⟩,b,by simp[cZ],rfl,by simp⟩
theorem QY{cells:List V}{cs:Act→Array Value}{e:TypeId}(eF:∀(a:Act) (w:World),(execOp a.eval o).run P w=.ok (.value (.pointer (some ⟨w.heap.size,0,none⟩))) (w.alloc (.cells (cs a) e)))
  (C8:∀{σ':St} {B:Nat→Prop} {w0:World} {aG:Nat→Prop} {φ:b2} {kp:List (V×Value)} {a:Act} {w:World},σ.le σ'→R B w0 aG φ σ' kp a w→g=true→VRels φ (b8 φ σ'.heap) w.heap cells (cs a).toList) :
  fO P o g σ n ⟨.ptr n 0 0,[.box cells],[]⟩:=by
 intro σ' aR hd B w0 aG φ kp a w iC aL hg K Q bU;unfold Oper.wp;rw[eF,Oper.upon_value];have h1:=YM aL (n:=n) (hd n (Nat.le_refl _) (by simp)) (iC n (Nat.le_refl _) (by simp)) (C8 aR aL hg) (w':=w.alloc (.cells (cs a) e)) rfl (FQ aL.fg aL.bs _);exact bU _ _ _ (k4 h1 o.dst YS)
theorem ok_alloc{T:TypeId}(az:o.op=.alloc T)(h:match zrI P T with|some cells=>K ⟨.ptr n 0 0,[.box cells],[]⟩|none=>False):∃r,fO P o g σ n r∧K r:=by
 split at h
 ·rename_i cells hz;obtain⟨i,z,hi,Gb,hr⟩:=y6 hz;refine⟨_,QY (cs:=fun _=>z.cells) (e:=T) (fun a w=>?_) (fun _ _ _=>hr _ _ _),h⟩;unfold execOp;rw[az];simp[Instr.alloc,zeroValue,typeInfo,hi,Gb,newVar,newRow]
 ·exact h.elim
theorem Yl{T:TypeId}{x:Operand}(az:o.op=.box T x)(h:evg g (σ.ev x) fun v=>v.uY=true∧K ⟨.ptr n 0 0,[.box v.cells],[]⟩):∃r,fO P o g σ n r∧K r:=by
 obtain⟨v,h1,hx⟩:=fb h;refine⟨_,QY (cs:=fun a=>(a.eval x).cells) (e:=T) (fun a w=>?_) (fun aR r hg=>(De h1.1 (hx _ _ _ _ hg (eW aR r x))).1),h1.2⟩;unfold execOp;rw[az];simp[Instr.box,newVar,newRow]
def storeE(P:Program)(hs:List H)(T:TypeId)(p v:V):Option (Prop×List (Nat×H)):=
 match tyI P T,p with
 |some (sz,_),.ptr id bG off=>
  match aN hs id with
  |.box cells=>some (bG=0∧v.uY=true∧v.cells.length=sz∧off+sz≤cells.length,[(id,.box (eM cells off v.cells))])
  |.ao s xs true=>
   match toDs hs v.cells with
   |some (ds,bP)=>some (v.uY=true∧v.cells.length=sz∧bG<xs.length∧off+sz≤((xs[bG]?).getD []).length∧bP.Nodup∧id∉bP,(id,.ao s (xs.set bG (eM ((xs[bG]?).getD []) off ds)) true)::bP.map fun i=>(i,match aN hs i with|.ao s ys _=>.g1 s ys|x=>x))
   |none=>none
  |.fR s pre cells post=>some (bG=pre.length∧v.uY=true∧v.cells.length=sz∧off+sz≤cells.length,[(id,.fR s pre (eM cells off v.cells) post)])
  |_=>none
 |_,_=>none
def reps(h:Array Obj)(o:Bool):List D→List Value→List Nat→Prop
 |[],us,G=>us=[]∧G=[]
 |d::ds,us,G=>∃u bY bH bA,us=u::bY∧G=bH++bA∧rep h o d u bH∧reps h o ds bY bA
theorem y_{h:Array Obj}{o:Bool}{b:Nat}:∀(ds:List D) (us:List Value) (f:Nat) (G:List Nat),reps h o ds us G→(∀(j:Nat) (u:Value),us[j]?=some u→cellAt h b (f+j)=some u)→repC h o b f ds G
 |[],us,f,G,r,_=>by simp only[reps]at r;simpa [repC]using r.2
 |d::ds,us,f,G,r,hc=>by
  simp only[reps]at r;obtain⟨u,bY,bH,bA,rfl,rfl,aH,aZ⟩:=r;simp only[repC];refine⟨u,bH,bA,rfl,by simpa using hc 0 u rfl,aH,y_ ds bY (f+1) bA aZ fun j v av=>?_⟩;rw[show f+1+j=f+(j+1)from by omega];exact hc (j+1) v (by simpa using av)
theorem KB{h h':Array Obj}{o:Bool}(hs:h.size≤h'.size):∀(ds:List D) (us:List Value) (G:List Nat),(∀g∈G,h'[g]?=h[g]?)→reps h o ds us G→reps h' o ds us G
 |[],us,G,_,r=>by simpa [reps]using r
 |d::ds,us,G,br,r=>by
  simp only[reps]at r⊢;obtain⟨u,bY,bH,bA,rfl,rfl,aH,aZ⟩:=r;exact⟨u,bY,bH,bA,rfl,rfl,Cc hs d u bH (fun g hg=>br g (by simp[hg])) aH,KB hs ds bY bA (fun g hg=>br g (by simp[hg])) aZ⟩
theorem y9{h:Array Obj}{o:Bool}:∀(ds:List D) (us:List Value) (G:List Nat),reps h o ds us G→us.length=ds.length
 |[],us,G,r=>by simp only[reps]at r;rw[r.1];rfl
 |d::ds,us,G,r=>by
  simp only[reps]at r;obtain⟨u,bY,bH,bA,rfl,rfl,aH,aZ⟩:=r;simp[y9 ds bY bA aZ]
section
variable {B:Nat→Prop} {w0:World} {aG:Nat→Prop} {φ:b2} {kp:List (V×Value)} {a:Act} {w:World}
theorem F3(r:R B w0 aG φ σ kp a w):∀(vs:List V) (ds:List D) (bP:List Nat) (us:List Value),toDs σ.heap vs=some (ds,bP)→bP.Nodup→VRels φ (b8 φ σ.heap) w.heap vs us→
  ∃G,reps w.heap true ds us G∧G.Nodup∧(∀b∈G,∃id∈bP,cN φ σ.heap id b)∧∀id∈bP,∃sz xs,aN σ.heap id=.ao sz xs true
 |[],ds,bP,us,e,_,cg=>by
  simp only[toDs,Option.some.injEq,Prod.mk.injEq]at e;obtain⟨rfl,rfl⟩:=e;simp only[VRels]at cg;subst cg;exact⟨[],by simp[reps],List.nodup_nil,by simp,by simp⟩
 |v::vs,ds,bP,us,e,hnd,cg=>by
  simp only[VRels]at cg;obtain⟨u,bY,rfl,CT,CU⟩:=cg;simp only[toDs]at e;split at e
  ·rename_i d i nq is ai aj;simp only[Option.some.injEq,Prod.mk.injEq]at e;obtain⟨rfl,rfl⟩:=e;rw[List.nodup_append]at hnd;obtain⟨F,d4,fD,f3,yy⟩:=Kg r ai CT;obtain⟨G,cC,cT,eI,kq⟩:=F3 r vs nq is bY aj hnd.2.1 CU;refine⟨F++G,?_,?_,?_,?_⟩
   ·simp only[reps];exact⟨u,bY,F,G,rfl,rfl,d4,cC⟩
   ·rw[List.nodup_append];refine⟨fD,cT,fun x hx y hy lF=>?_⟩;subst lF;obtain⟨p,dh,c_⟩:=f3 x hx;obtain⟨q,cF,bh⟩:=eI x hy;have:=r.dy p q x c_ bh;exact hnd.2.2 p dh q cF this
   ·intro b hb;rcases List.mem_append.1 hb with hb|hb
    ·obtain⟨p,dh,c_⟩:=f3 b hb;exact⟨p,by simp[dh],c_⟩
    ·obtain⟨p,dh,c_⟩:=eI b hb;exact⟨p,by simp[dh],c_⟩
   ·intro p hp;rcases List.mem_append.1 hp with hp|hp
    ·exact yy p hp
    ·exact kq p hp
  ·cases e
end
theorem run_store{T:TypeId}{sz:Nat}{fx:Bool}(h:tyI P T=some (sz,fx)){w:World}{b f:Nat}{cs:Array Value}{e:TypeId}(hb:w.heap[b]?=some (.cells cs e (0,0))){u:Value}(hl:u.cells.size=sz)(hf:f+sz≤cs.size)(h1:∀x∈u.cells.toList,x.oneCell'=true) :
  (storeVar T ⟨b,f,none⟩ u).run P w=.ok () (w.setRow b (eM cs.toList f u.cells.toList).toArray):=by
 obtain⟨i,hi,hs,_⟩:=KC h;have:=run_storeCells_at P b f e u.cells.toList 0 cs w hb (by simp;omega) h1;simp only[Nat.add_zero,List.append_assoc]at this;simp[storeVar,Go.sizeOf,typeInfo,hi,hs,hl,this,eM]
theorem setRow_size(w:World)(b:Nat)(cs:Array Value):(w.setRow b cs).heap.size=w.heap.size:=by simp[World.setRow]
theorem CM{B:Nat→Prop}{b:Nat}{w0 w:World}(h:Bel B w0 w)(hb:B b){Df cs:Array Value}{e:TypeId}{bT:Nat×Nat}(hg:w.heap[b]?=some (.cells Df e bT))(hl:Df.size≤cs.size):Bel B w0 (w.setRow b cs):=
 h.trans ⟨rfl,rfl,rfl,by simp[World.setRow],fun k hk=>setRow_other w b k cs (fun e=>hk (e▸hb)),fun k n r=>by
  by_cases hk:k=b
  ·subst hk;obtain⟨c,t,h1,h2⟩:=r;rw[hg]at h1;cases h1;exact⟨cs,e,setRow_heap w k Df cs e (0,0) hg,Nat.le_trans h2 hl⟩
  ·exact r.mono (setRow_other w b k cs hk)⟩
variable {P:Program} {o:Oper} {g:Bool} {σ:St} {n:Nat} {K:dS→Prop}
theorem ZO{α:Type}(c:List α)(off m:Nat):c=c.take off++((c.drop off).take m++c.drop (off+m)):=by
 have h1:=(List.take_append_drop off c).symm;have h2:=(List.take_append_drop m (c.drop off)).symm;rw[List.drop_drop]at h2;rw[←h2];exact h1
theorem ZP{h h':Array Obj}{b f off:Nat}{c ds:List D}{G hK:List Nat}(r:repC h true b f c G)(hl:off+ds.length≤c.length)(hs:h.size≤h'.size)(br:∀g∈G,h'[g]?=h[g]?)
  (lI:∀j,j<off∨off+ds.length≤j→cellAt h' b (f+j)=cellAt h b (f+j)) (Gz:repC h' true b (f+off) ds hK) :
  ∃ns Dr mS,G=ns++(Dr++mS)∧repC h' true b f (eM c off ds) (ns++(hK++mS)):=by
 rw[ZO c off ds.length]at r;obtain⟨ns,bA,rfl,aH,aZ⟩:=(zb _ _ _ _).1 r;obtain⟨Dr,mS,rfl,ca,cf⟩:=(zb _ _ _ _).1 aZ;have gH:(c.take off).length=off:=by simp;omega
 have gR:((c.drop off).take ds.length).length=ds.length:=by simp;omega
 rw[gH]at ca cf;rw[gR]at cf;refine⟨ns,Dr,mS,rfl,(zb _ _ _ _).2 ⟨ns,hK++mS,rfl,?_,(zb _ _ _ _).2 ⟨hK,mS,rfl,by rw[gH];exact Gz,?_⟩⟩⟩
 ·exact F7 _ f f ns hs (fun x hx=>br x (by simp[hx])) (fun j av=>lI j (.inl (by omega))) aH
 ·rw[gH];refine F7 _ _ _ mS hs (fun x hx=>br x (by simp[hx])) (fun j av=>?_) cf;rw[Nat.add_assoc,Nat.add_assoc];exact lI _ (.inr (by omega))
theorem ZQ{α:Type}(xs:List α)(i:Nat)(c:α)(h:i<xs.length):xs.set i c=xs.take i++(c::xs.drop (i+1)):=by
 rw[List.set_eq_take_append_cons_drop,if_pos h]
theorem ZR{hs:List H}{v:V}{d:D}{bP:List Nat}(h:toD hs v=some (d,bP)):∀i∈bP,∃s ys,aN hs i=.ao s ys true:=by
 unfold toD at h;split at h
 ·split at h
  ·simp only[Option.some.injEq,Prod.mk.injEq]at h;obtain⟨_,rfl⟩:=h;simp
  ·cases h
 ·simp only[Option.some.injEq,Prod.mk.injEq]at h;obtain⟨_,rfl⟩:=h;simp
 ·rename_i id off len;split at h
  ·rename_i sz xs hx;split at h
   ·simp only[Option.some.injEq,Prod.mk.injEq]at h;obtain⟨_,rfl⟩:=h;intro i hi;simp only[List.mem_singleton]at hi;subst hi;exact⟨_,_,hx⟩
   ·cases h
  ·cases h
 ·cases h
theorem KI{hs:List H}:∀(vs:List V) (ds:List D) (bP:List Nat),toDs hs vs=some (ds,bP)→∀i∈bP,∃s ys,aN hs i=.ao s ys true
 |[],ds,bP,h=>by simp only[toDs,Option.some.injEq,Prod.mk.injEq]at h;obtain⟨_,rfl⟩:=h;simp
 |v::vs,ds,bP,h=>by
  simp only[toDs]at h;split at h
  ·rename_i d i nq is ai aj;simp only[Option.some.injEq,Prod.mk.injEq]at h;obtain⟨_,rfl⟩:=h;intro j av;rcases List.mem_append.1 av with av|av
   ·exact ZR ai j av
   ·exact KI vs nq is aj j av
  ·cases h
theorem ZS{σ σ':St}(aR:σ.le σ'){v:V}{r:D×List Nat}(h:toD σ.heap v=some r):toD σ'.heap v=some r:=by
 cases v<;>simp only[toD]at h⊢<;>try exact h
 rename_i id off len;split at h
 ·rename_i sz xs hx;rcases aR.2 id with hh|hh
  ·rw[hx]at hh;cases hh
  ·rw[hh,hx];exact h
 ·cases h
theorem KH{σ σ':St}(aR:σ.le σ'):∀(vs:List V) (r:List D×List Nat),toDs σ.heap vs=some r→toDs σ'.heap vs=some r
 |[],_,h=>h
 |v::vs,r,h=>by
  simp only[toDs]at h⊢;split at h
  ·rename_i d i nq is ai aj;rw[ZS aR ai,KH aR vs _ aj];exact h
  ·cases h
theorem FP{w:World}{b f:Nat}{cs:Array Value}{e:TypeId}(hb:w.heap[b]?=some (.cells cs e (0,0))){us:List Value}(hl:f+us.length≤cs.size)(j:Nat) :
  cellAt (w.setRow b (eM cs.toList f us).toArray).heap b j=if f≤j∧j<f+us.length then us[j-f]? else cellAt w.heap b j:=by
 have hnew:=setRow_heap w b cs (eM cs.toList f us).toArray e (0,0) hb;unfold cellAt;rw[hnew,hb];simp only[List.getElem?_toArray];unfold eM;have kB:(cs.toList.take f).length=f:=by simp;omega
 by_cases h1:j<f
 ·rw[List.getElem?_append_left (by omega),if_neg (by omega),List.getElem?_take,if_pos h1,Array.getElem?_toList]
 ·rw[List.getElem?_append_right (by omega),kB];by_cases h2:j<f+us.length
  ·rw[if_pos ⟨by omega,h2⟩,List.getElem?_append_left (by omega)]
  ·rw[if_neg (by omega),List.getElem?_append_right (by omega),List.getElem?_drop,Array.getElem?_toList]
   congr 1;omega
theorem ZT{l:List Value}{off:Nat}{vs:List Value}(h:off+vs.length≤l.length)(j:Nat):(eM l off vs)[j]?=if off≤j∧j<off+vs.length then vs[j-off]? else l[j]?:=by
 unfold eM;have kB:(l.take off).length=off:=by simp;omega
 by_cases h1:j<off
 ·rw[List.getElem?_append_left (by omega),if_neg (by omega),List.getElem?_take,if_pos h1]
 ·rw[List.getElem?_append_right (by omega),kB];by_cases h2:j<off+vs.length
  ·rw[if_pos ⟨by omega,h2⟩,List.getElem?_append_left (by omega)]
  ·rw[if_neg (by omega),List.getElem?_append_right (by omega),List.getElem?_drop]
   congr 1;omega
theorem CN{cs:Array Value}{f:Nat}{us:List Value}(h:f+us.length≤cs.size):cs.size≤(eM cs.toList f us).toArray.size:=by
 have:=y4 (l:=cs.toList) (off:=f) (vs:=us) (by simpa using h);simp only[List.size_toArray,this,Array.length_toList];exact Nat.le_refl _
theorem ok_store{T:TypeId}{p x:Operand}(az:o.op=.store T p x)
  (h:evg g (σ.ev p) fun q=>evg g (σ.ev x) fun v=>match storeE P σ.heap T q (jh P T v)with|some (c,upd)=>c∧K ⟨.ab,[],upd⟩|none=>False):∃r,fO P o g σ n r∧K r:=by
 obtain⟨q,h1,hp⟩:=fb h;obtain⟨v,h2,hx⟩:=fb h1;clear h h1;split at h2
 ·rename_i c upd ah;obtain⟨hc,bU⟩:=h2;refine⟨_,?_,bU⟩;intro σ' aR _ B w0 aG φ kp a w _ aL hg fp Q JX;have ep:=hp _ _ _ _ hg (eW aR aL p);have cL:VRel φ (b8 φ σ'.heap) w.heap (jh P T v) (a.eval x):=Rc (hx _ _ _ _ hg (eW aR aL x));generalize jh P T v=eO at ah cL;clear hp hx;have ba:∀(w':World) (cu:b2),(storeVar T (match a.eval p with|.pointer (some ad)=>ad|_=>⟨0,0,none⟩) (a.eval x)).run P w=.ok () w'→(∃ad,a.eval p=.pointer (some ad))→
    R B w0 aG cu ⟨σ'.tmps,hupd σ'.heap upd⟩ kp a w'→o.wp P a w fp Q:=by
   rintro w' cu eF ⟨ad,CI⟩ dV;have k6:(execOp a.eval o).run P w=.ok .skip w':=by
    rw[CI]at eF;unfold execOp;rw[az];simp[Instr.storeAt,CI,Instr.sureAddr,eF]
   unfold Oper.wp;rw[k6,Oper.upon_skip];exact JX undef w' cu (k4 (CY dV fun i hi=>.inl hi) o.dst (v:=.ab) (by simp[VRel]))
  unfold storeE at ah;split at ah
  ·rename_i sz fx id bG off nu;simp only[VRel]at ep;obtain⟨β,b,ai,aj,aT⟩:=ep;have hh:=aR.2 id;split at ah
   ·
    rename_i cells mP;simp only[Option.some.injEq,Prod.mk.injEq]at ah;obtain⟨rfl,rfl⟩:=ah;obtain⟨dv,dD,jz,nU⟩:=hc;have fM:aN σ'.heap id=.box cells:=by
     rcases hh with hh|hh
     ·rw[mP]at hh;cases hh
     ·rw[hh,mP]
    rcases aL.hp id with hd|⟨a7,fq,hr⟩
    ·rw[fM]at hd;cases hd
    ·rw[ai]at fq;cases fq;rw[fM]at hr;obtain⟨c8,cs,e,aH,aZ,ca,cf⟩:=hr;rw[aj]at aH;cases aH;obtain⟨k1,k2⟩:=De dD cL;have Bc:=i6 _ _ k1;have Ds:=i6 _ _ cf;have cH:(a.eval x).cells.size=sz:=by rw[←Array.length_toList,Bc];exact jz
     have ZU:β.off+bG * β.sz+off=off:=by rw[aZ,dv];simp
     rw[ZU]at aT;have eF:=run_store nu ca cH (f:=off) (by rw[←Array.length_toList,Ds];exact nU) k2;have hnew:=setRow_heap w b cs (eM cs.toList off (a.eval x).cells.toList).toArray e (0,0) ca;have hB:B b:=aL.ej id b ⟨β,ai,.inl ⟨by rw[fM];rfl,aj⟩⟩;refine ba _ φ (by rw[aT];exact eF) ⟨_,aT⟩ ?_;exact YQ aL ai fM aj (cells':=eM cells off eO.cells) (by simpa using K3 cf k1 off) hnew (fun c lJ=>setRow_other w b c _ lJ) (setRow_size _ _ _) (CM aL.fg hB ca (CN (by rw[Array.length_toList,cH,←Array.length_toList (xs:=cs),Ds];exact nU)))
   ·
    rename_i s xs mP;split at ah
    ·rename_i ds bP sS;simp only[Option.some.injEq,Prod.mk.injEq]at ah;obtain⟨rfl,rfl⟩:=ah;obtain⟨dv,dD,jz,nU,RB,E7⟩:=hc;have fM:aN σ'.heap id=.ao s xs true:=by
      rcases hh with hh|hh
      ·rw[mP]at hh;cases hh
      ·rw[hh,mP]
     rcases aL.hp id with hd|⟨a7,fq,hr⟩
     ·rw[fM]at hd;cases hd
     ·rw[ai]at fq;cases fq;rw[fM]at hr;obtain⟨cH,hr⟩:=hr;rcases hr with hr|⟨c8,G,aH,aZ,ca,cf,eh,gJ⟩
      ·rw[hr.2.1]at jz;simp at jz
      ·rw[aj]at aH;cases aH;have br:=eh rfl;obtain⟨cs,e,cF,bh⟩:=ca;obtain⟨k1,k2⟩:=De dv cL;have Bc:=i6 _ _ k1;have t6:(a.eval x).cells.size=sz:=by rw[←Array.length_toList,Bc];exact dD
       obtain⟨hK,eH,gg,iI,n6⟩:=F3 aL _ _ _ _ (KH aR _ _ sS) RB k1;have sA:ds.length=sz:=by rw[←y9 _ _ _ eH,Bc];exact dD
       obtain⟨c,RC⟩:∃c,xs[bG]?=some c:=⟨_,List.getElem?_eq_getElem jz⟩;simp only[RC,Option.getD_some]at nU ba;obtain⟨bH,mi,bA,sO,s6,y8,Kj,Kk⟩:=C0 cf RC;have hf:β.off+bG * s+off+sz≤cs.size:=by
        have ak:(bG+1) * s≤β.cap * s:=Nat.mul_le_mul_right _ (by omega);rw[Nat.add_mul]at ak;omega
       rw[cH]at aT;have eF:=run_store nu cF t6 (f:=β.off+bG * s+off) hf k2;have ml:(a.eval x).cells.toList.length=sz:=by rw[Array.length_toList];exact t6
       have u9:=FP cF (us:=(a.eval x).cells.toList) (f:=β.off+bG * s+off) (by rw[ml];exact hf);generalize tT:w.setRow b (eM cs.toList (β.off+bG * s+off) (a.eval x).cells.toList).toArray=w' at eF u9;have ZV:w'.heap.size=w.heap.size:=by rw[←tT];exact setRow_size _ _ _
       have uR:∀c,c≠b→w'.heap[c]?=w.heap[c]?:=fun c lJ=>by rw[←tT];exact setRow_other w b c _ lJ
       have hnew:w'.heap[b]?=some (.cells (eM cs.toList (β.off+bG * s+off) (a.eval x).cells.toList).toArray e (0,0)):=by rw[←tT];exact setRow_heap w b cs _ e (0,0) cF
       have tV:cN φ σ'.heap id b:=⟨β,ai,.inl ⟨by rw[fM];rfl,aj⟩⟩;have hB:B b:=aL.ej id b tV;have Bd:∀g∈G,cN φ σ'.heap id g:=fun g hg=>⟨β,ai,.inr ⟨by rw[fM];rfl,br▸hg⟩⟩;have gF:=aL.d_ id β ai (by rw[fM];rfl);rw[←br]at gF;have mT:∀g∈G,g≠b:=fun g hg mT=>gF.2 b aj (mT▸hg);have RD:∀g∈hK,g≠b:=fun g hg mT=>by
        obtain⟨i,ew,dN⟩:=iI g hg;have:=aL.dy i id b (mT▸dN) tV;exact E7 (this▸ew)
       have GA:∀g∈G,w'.heap[g]?=w.heap[g]?:=fun g hg=>uR g (mT g hg);have ZW:∀g∈hK,w'.heap[g]?=w.heap[g]?:=fun g hg=>uR g (RD g hg);have JW:repC w'.heap true b (β.off+bG * s+off) ds hK:=y_ _ _ _ _ (KB (by omega) _ _ _ ZW eH) fun j u av=>by
        have wj:j<(a.eval x).cells.toList.length:=(List.getElem?_eq_some_iff.1 av).1;rw[u9,if_pos ⟨by omega,by omega⟩];rw[show β.off+bG * s+off+j-(β.off+bG * s+off)=j from by omega];exact av
       rw[sO]at GA;obtain⟨ns,Dr,mS,v',ga⟩:=ZP (h':=w'.heap) (off:=off) Kj (by rw[sA];exact nU) (by omega) (fun g hg=>GA g (by simp[hg])) (fun j av=>by
        rw[u9,if_neg (by rw[ml,←sA];omega)]) JW
       have sZ:repE w'.heap true b β.off s (xs.set bG (eM c off ds)) (bH++((ns++(hK++mS))++bA)):=by
        rw[ZQ xs bG _ jz];have kB:(xs.take bG).length=bG:=by simp;omega
        refine(repE_append _ _ _ _).2 ⟨bH,_,rfl,?_,?_⟩
        ·refine tU _ _ _ _ _ (by omega) (fun g hg=>GA g (by simp[hg])) (fun j av=>?_) y8;rw[kB]at av;rw[u9,if_neg (by omega)]
        ·rw[kB];simp only[repE];refine⟨_,_,rfl,by rw[y4 (by rw[sA];exact nU)];exact s6,ga,?_⟩;have aC:β.off+bG * s+s=β.off+(bG+1) * s:=by rw[Nat.add_mul];omega
         rw[aC];refine tU _ _ _ _ _ (by omega) (fun g hg=>GA g (by simp[hg])) (fun j av=>?_) Kk;rw[u9,if_neg (by rw[←aC,ml];omega)]
       have ZX:=KI _ _ _ sS;refine ba w' (cZ φ id {β with cS:=bH++((ns++(hK++mS))++bA)}) (by rw[aT];exact eF) ⟨_,aT⟩ ?_;have ZY:(bH++((ns++(Dr++mS))++bA)).Nodup:=by rw[←v',←sO];exact gF.1
       have FB:∀x∈hK,x∉G:=fun y hy ZZ=>by
        obtain⟨i,ew,dN⟩:=iI y hy;have:=aL.dy i id y dN (Bd y ZZ);exact E7 (this▸ew)
       rw[sO,v']at FB Bd;refine QX aL (n:=id) (β:={β with cS:=bH++((ns++(hK++mS))++bA)}) (β0:=β) (upd:=bP.map fun i=>(i,match aN σ.heap i with|.ao s ys _=>.g1 s ys|x=>x)) ?_ ?_ ai fM ⟨rfl,rfl,rfl,rfl⟩ ?_ cH (by omega) ?_ ?_ ?_ ?_ ?_ ?_
       ·rw[List.map_map];have:((fun x:Nat×H=>x.1)∘fun i=>(i,match aN σ.heap i with|.ao s ys _=>H.g1 s ys|x=>x))=(fun i:Nat=>i):=rfl;rw[this,List.map_id'];exact RB
       ·intro p hp;obtain⟨i,ew,rfl⟩:=List.mem_map.1 hp;obtain⟨u4,v3,dN⟩:=ZX i ew;obtain⟨dc,K0,eG⟩:=n6 i ew;refine⟨dc,K0,eG,.inr ?_⟩;rcases aR.2 i with bL|bL
        ·rw[dN]at bL;cases bL
        ·rw[←bL,eG]
       ·intro y hy;obtain⟨i,ew,dN⟩:=List.mem_map.1 hy;simp only[Prod.mk.injEq]at dN;exact E7 (dN.1▸ew)
       ·rw[←tT];exact CM aL.fg hB cF (CN (by rw[ml];exact hf))
       ·intro c' _ hne _;exact uR c' fun lJ=>hne (lJ▸aj)
       ·exact .inr ⟨b,aj,by simpa using aZ,⟨_,e,hnew,by
         have:(eM cs.toList (β.off+bG * s+off) (a.eval x).cells.toList).length=cs.toList.length:=y4 (by rw[ml];simpa using hf);simp only[List.size_toArray,this,Array.length_toList];exact bh⟩,sZ⟩
       ·intro g hg;simp only[List.mem_append]at hg;rcases hg with hg|(hg|hg|hg)|hg
        ·exact .inl (Bd g (by simp[hg]))
        ·exact .inl (Bd g (by simp[hg]))
        ·obtain⟨i,ew,dN⟩:=iI g hg;exact .inr ⟨(i,_),List.mem_map.2 ⟨i,ew,rfl⟩,dN⟩
        ·exact .inl (Bd g (by simp[hg]))
        ·exact .inl (Bd g (by simp[hg]))
       ·simp only[List.nodup_append,List.mem_append]at ZY FB⊢;grind
       ·intro c8 et;simp only at et;rw[aj]at et;cases et;intro jt;simp only[List.mem_append]at jt;rcases jt with hg|(hg|hg|hg)|hg
        ·exact mT _ (by rw[sO,v'];simp[hg]) rfl
        ·exact mT _ (by rw[sO,v'];simp[hg]) rfl
        ·exact RD _ hg rfl
        ·exact mT _ (by rw[sO,v'];simp[hg]) rfl
        ·exact mT _ (by rw[sO,v'];simp[hg]) rfl
    ·cases ah
   ·
    rename_i s pre cells post mP;simp only[Option.some.injEq,Prod.mk.injEq]at ah;obtain⟨rfl,rfl⟩:=ah;obtain⟨dv,dD,jz,nU⟩:=hc;have fM:aN σ'.heap id=.fR s pre cells post:=by
     rcases hh with hh|hh
     ·rw[mP]at hh;cases hh
     ·rw[hh,mP]
    rcases aL.hp id with hd|⟨a7,fq,hr⟩
    ·rw[fM]at hd;cases hd
    ·rw[ai]at fq;cases fq;rw[fM]at hr;obtain⟨hs,hcl,c8,bH,bA,us,aH,aZ,ca,cf,eh,gJ,u1,xE⟩:=hr;rw[aj]at aH;cases aH;obtain⟨cs,e,cF,bh⟩:=ca;obtain⟨k1,k2⟩:=De dD cL;have Bc:=i6 _ _ k1;have Ds:=i6 _ _ gJ;have cH:(a.eval x).cells.size=sz:=by rw[←Array.length_toList,Bc];exact jz
     have hf:β.off+pre.length * s+off+sz≤cs.size:=by
      have ak:(pre.length+1) * s≤β.cap * s:=Nat.mul_le_mul_right _ (by omega);rw[Nat.add_mul]at ak;omega
     rw[dv,hs]at aT;have eF:=run_store nu cF cH (f:=β.off+pre.length * s+off) hf k2;have ml:(a.eval x).cells.toList.length=sz:=by rw[Array.length_toList];exact cH
     have u9:=FP cF (us:=(a.eval x).cells.toList) (f:=β.off+pre.length * s+off) (by rw[ml];exact hf);generalize tT:w.setRow b (eM cs.toList (β.off+pre.length * s+off) (a.eval x).cells.toList).toArray=w' at eF u9;have ZV:w'.heap.size=w.heap.size:=by rw[←tT];exact setRow_size _ _ _
     have uR:∀c,c≠b→w'.heap[c]?=w.heap[c]?:=fun c lJ=>by rw[←tT];exact setRow_other w b c _ lJ
     have hnew:w'.heap[b]?=some (.cells (eM cs.toList (β.off+pre.length * s+off) (a.eval x).cells.toList).toArray e (0,0)):=by rw[←tT];exact setRow_heap w b cs _ e (0,0) cF
     have hB:B b:=aL.ej id b ⟨β,ai,.inl ⟨by rw[fM];rfl,aj⟩⟩;have gF:=aL.d_ id β ai (by rw[fM];rfl);have mT:∀g∈β.cS,w'.heap[g]?=w.heap[g]?:=fun g hg=>uR g fun mT=>gF.2 b aj (mT▸hg);rw[cf]at mT;have cw:∀c,b8 φ σ'.heap c→b8 φ (b3 σ'.heap id (.fR s pre (eM cells off eO.cells) post)) c:=by
      intro c ht i a7 hi he;rw[gS]at he;by_cases h:i=id
      ·subst h;rw[if_pos rfl]at he;exact ht i a7 hi (by rw[fM];exact he)
      ·rw[if_neg h]at he;exact ht i a7 hi he
     have zf:∀c,b8 φ σ'.heap c→c≠b:=fun c ht lJ=>by subst lJ;exact ht id β ai (.inl ⟨by rw[fM];rfl,aj⟩)
     refine ba _ φ (by rw[aT];exact eF) ⟨_,aT⟩ ?_;refine v7 aL (fun i=>i=id) _ _ _ w' (fun i hi=>⟨by show aN (b3 σ'.heap id _) i=_;rw[gS,if_neg hi],rfl⟩) (l7.refl φ) (by omega) (fun c _ ht=>uR c fun lJ=>?_) ?_ ?_ (fun i j b hi av _ _=>hi.trans av.symm) ?_ ?_ aL.f1
      (by rw[←tT];exact CM aL.fg hB cF (CN (by rw[ml];exact hf)))
     ·subst lJ;exact ht id rfl β ai (.inl ⟨by rw[fM];rfl,aj⟩)
     ·rintro i rfl c ⟨a7,h1,h2⟩;rw[ai]at h1;cases h1;change (((aN (b3 σ'.heap i _) i).me=true∧_)∨((aN (b3 σ'.heap i _) i).own=true∧_))at h2;rw[gS,if_pos rfl]at h2;exact .inr ⟨i,rfl,β,ai,by rw[fM];exact h2⟩
     ·rintro i rfl a7 h1 c h2;rw[ai]at h1;cases h1;change jH (aN (b3 σ'.heap i _) i) β c at h2;rw[gS,if_pos rfl]at h2;exact .inr ⟨i,β,rfl,ai,by rw[fM];exact h2⟩
     ·rintro i a7 rfl h1 _;rw[ai]at h1;cases h1;exact gF
     ·rintro i rfl;refine .inr ⟨β,ai,?_⟩
      show dG φ (b8 φ (b3 σ'.heap i _)) w'.heap β (aN (b3 σ'.heap i _) i)
      rw[gS,if_pos rfl];have Z0:∀(vs:List V) (us:List Value),VRels φ (b8 φ σ'.heap) w.heap vs us→VRels φ (b8 φ (b3 σ'.heap i (.fR s pre (eM cells off eO.cells) post))) w'.heap vs us:=
       fun vs us hv=>sN ⟨l7.refl φ,fun c _ ht=>cw c ht,fun c _ ht=>uR c (zf c ht),by omega⟩ _ _ hv
      refine⟨hs,?_,b,bH,bA,eM us off (a.eval x).cells.toList,aj,aZ,⟨_,e,hnew,?_⟩,cf,?_,Z0 _ _ (K3 gJ k1 off),fun j u av=>?_,?_⟩
      ·rw[y4 (by rw[jz];omega)];exact hcl
      ·have:(eM cs.toList (β.off+pre.length * s+off) (a.eval x).cells.toList).length=cs.toList.length:=y4 (by rw[ml];simpa using hf);simp only[List.size_toArray,this,Array.length_toList];exact bh
      ·refine tU _ _ _ _ _ (by omega) (fun g hg=>mT g (by simp[hg])) (fun j av=>?_) eh;rw[u9,if_neg (by omega)]
      ·rw[u9,ml];have t6:off+sz≤us.length:=by rw[Ds];exact nU
       have hsp:=ZT (l:=us) (off:=off) (vs:=(a.eval x).cells.toList) (by rw[ml];exact t6) j;rw[hsp,ml]at av;by_cases hin:off≤j∧j<off+sz
       ·rw[if_pos hin]at av;rw[if_pos (by omega),show β.off+pre.length * s+j-(β.off+pre.length * s+off)=j-off from by omega];exact av
       ·rw[if_neg hin]at av;rw[if_neg (by omega)];exact u1 j u av
      ·refine tU _ _ _ _ _ (by omega) (fun g hg=>mT g (by simp[hg])) (fun j av=>?_) xE;rw[u9,if_neg (by rw[ml,Nat.add_mul];omega)]
   ·cases ah
  ·cases ah
 ·exact h2.elim
variable {P:Program} {o:Oper} {g:Bool} {σ:St} {n:Nat} {K:dS→Prop}
theorem P1{h:Array Obj}{bl:Bool}{b:Nat}:∀(cs:List (List D)) (f sz:Nat) (G:List Nat),repE h bl b f sz cs G→∃us:List Value,us.length=cs.length * sz∧(∀(j:Nat) (u:Value),us[j]?=some u→cellAt h b (f+j)=some u)∧∀u∈us,u.oneCell'=true
 |[],f,sz,G,_=>⟨[],by simp,by simp,by simp⟩
 |c::cs,f,sz,G,r=>by
  simp only[repE]at r;obtain⟨bH,bA,rfl,aj,aT,bj⟩:=r;obtain⟨us,iM,jf,mc⟩:=JY c f bH aT;obtain⟨vs,l6,kY,FF⟩:=P1 cs (f+sz) sz bA bj;refine⟨us++vs,by rw[List.length_append,iM,l6,aj,List.length_cons,Nat.add_mul];omega,fun j u av=>?_,fun u hu=>?_⟩
  ·rw[List.getElem?_append]at av;split at av
   ·exact jf j u av
   ·rename_i nX;have:=kY _ u av;rw[show f+sz+(j-us.length)=f+j from by rw[iM,aj]at *;omega]at this;exact this
  ·rcases List.mem_append.1 hu with hu|hu
   ·obtain⟨j,av,rfl⟩:=List.getElem_of_mem hu;obtain⟨AN,_,k2⟩:=mc j c[j] us[j] (List.getElem?_eq_getElem (by omega)) (List.getElem?_eq_getElem av);exact JZ k2
   ·exact FF u hu
theorem P2{w:World}(t ty e:TypeId)(i:TypeInfo)(ht:P.underlying t=some (.slice e))(hi:P.info? e=some i)(b f AO J0:Nat)(FG:Array Value)(md:TypeId)(hg:w.heap[b]?=some (.cells FG md (0,0)))
  (m:Nat) (k0:Value) (f_:List Value) (hl:Builtin.lenOf k0=(pure m:Sem Nat)) (hf:(Builtin.firstCells i.size m k0).run P w=.ok f_.toArray w) (h1:∀u∈f_,u.oneCell'=true) (uQ:AO+m≤J0) (vR:f+AO * i.size+f_.length≤FG.size) :
  (Builtin.append_ #[t,t] ty #[.slice (some ⟨b,f,none⟩) AO J0,k0]).run P w=.ok (.slice (some ⟨b,f,none⟩) (AO+m) J0) (w.setRow b (eM FG.toList (f+AO * i.size) f_).toArray):=by
 have cD:=run_storeCells_at P b (f+AO * i.size) md f_ 0 FG w hg (by simpa using vR) h1;simp only[Nat.add_zero,List.append_assoc]at cD;simp[Builtin.append_,run_underlying ht,Go.sizeOf,typeInfo,hi,hl,uQ,hf,add_lit,cD,eM]
theorem J1{w:World}{ad:Option Addr}{c sz:Nat}{ys:List (List D)}{bl:Bool}(h:ys=[]∨∃b f G,ad=some ⟨b,f,none⟩∧repE w.heap bl b f sz ys G) :
  ∃f_:List Value,f_.length=ys.length * sz∧(∀w':World,w'.heap=w.heap→(Builtin.firstCells sz ys.length (.slice ad ys.length c)).run P w'=.ok f_.toArray w')∧(∀u∈f_,u.oneCell'=true)∧
   (ys≠[]→∃b f,ad=some ⟨b,f,none⟩∧∀(j:Nat) (u:Value),f_[j]?=some u→cellAt w.heap b (f+j)=some u):=by
 by_cases hne:ys=[]
 ·subst hne;refine⟨[],by simp,fun w' _=>?_,by simp,fun h=>absurd rfl h⟩
  cases ad with
  |none=>rfl
  |some ad=>simp[Builtin.firstCells,loadCells,loadCellsFrom]
 ·rcases h with h|⟨b,f,G,rfl,h⟩
  ·exact absurd h hne
  ·obtain⟨us,iM,jf,mc⟩:=P1 _ _ _ _ h;refine⟨us,iM,fun w' tT=>?_,mc,fun _=>⟨b,f,rfl,jf⟩⟩;have:=run_loadCells_list (P:=P) w' ⟨b,f,none⟩ us (fun j v av=>by rw[add_lit,cell_eq,tT];exact jf j v av);rw[iM]at this;simpa [Builtin.firstCells]using this
section
variable {B:Nat→Prop} {w0:World} {aG:Nat→Prop} {φ:b2} {kp:List (V×Value)} {a:Act} {w:World}
theorem P3{w':World}{cs:Array Value}{e:TypeId}{b f sz:Nat}{zs:List (List D)}{G:List Nat}{off:Nat}(hh:w'.heap=w.heap.push (.cells cs e))(hz:repE w.heap true b f sz zs G)
  (hc:∀j,j<zs.length * sz→cs[off+j]?=cellAt w.heap b (f+j)) (br:∀g∈G,g<w.heap.size):repE w'.heap true w.heap.size off sz zs G:=by
 refine tU zs f off sz G (by rw[hh];simp) (fun g hg=>?_) (fun j av=>?_) hz
 ·rw[hh,Array.getElem?_push];simp[Nat.ne_of_lt (br g hg)]
 ·rw[←hc j av];unfold cellAt;rw[hh];simp
def srcE(hs:List H)(sz:Nat)(y:V):Option (List (List D)×List (Nat×H)):=
 match elsOf hs y with
 |some (f',ys)=>
  if f'=sz then
   if fv ys then some (ys,[])
   else match y with
    |.sl id _ _=>match aN hs id with|.ao s zs true=>some (ys,[(id,.g1 s zs)])|_=>none
    |_=>none
  else none
 |none=>none
theorem XP{σ':St}(aR:σ.le σ')(r:R B w0 aG φ σ' kp a w){sz:Nat}{y:V}{ys:List (List D)}{cons:List (Nat×H)}(he:srcE σ.heap sz y=some (ys,cons)){u:Value}(eE:VRel φ (b8 φ σ'.heap) w.heap y u) :
  ∃ad c Gs,u=.slice ad ys.length c∧ys.length≤c∧(ys=[]∧Gs=[]∨∃b f,ad=some ⟨b,f,none⟩∧b<w.heap.size∧repE w.heap true b f sz ys Gs∧∀k β,φ k=some β→β.dP=some b→(aN σ'.heap k).me=true→∃off l,y=.sl k off l)∧Gs.Nodup∧
   (∀g∈Gs,∃p∈cons,cN φ σ'.heap p.1 g)∧(cons.map (·.1)).Nodup∧(∀p∈cons,∃s zs,aN σ'.heap p.1=.ao s zs true∧p.2=.g1 s zs)∧∀p∈cons,∃off l,y=.sl p.1 off l:=by
 unfold srcE at he;split at he
 ·rename_i f' v3 hel;split at he
  ·rename_i cH;subst cH;obtain⟨ad,c,ai,aj,aT,bj⟩:=FH aR r hel eE;have uR:∀{b f:Nat},ad=some ⟨b,f,none⟩→v3≠[]→∀k β,φ k=some β→β.dP=some b→(aN σ'.heap k).me=true→∃off l,y=.sl k off l:=by
    intro b f CI hne k β hk hb AP
    cases y with
    |sl id off l=>
     obtain⟨a7,ad',c',cF,bh,bI,cd,gI⟩:=s0 eE;rw[ai]at bh;simp only[Value.slice.injEq]at bh;rcases gI with gI|⟨c8,gI,sV,yW⟩
     ·exfalso;have:v3.length=0:=by omega
      exact hne (List.eq_nil_of_length_eq_zero this)
     ·rw[←bh.1,CI]at sV;simp only[Option.some.injEq,Addr.mk.injEq]at sV;rw[←sV.1]at gI;have FI:∃q,(aN σ.heap id).els=some q:=by
       simp only[elsOf]at hel;split at hel
       ·exact⟨_,by assumption⟩
       ·cases hel
      obtain⟨q,FI⟩:=FI;have hx:=AQ aR FI;obtain⟨i1,dh,c_⟩:=FJ r hx;rw[cF]at dh;cases dh
      cases hh:aN σ'.heap id with
      |c1=>rw[hh]at hx;cases hx
      |box cells=>rw[hh]at hx;cases hx
      |ag _ _=>rw[hh]at hx;cases hx
      |fR _ _ _ _=>rw[hh]at hx;cases hx
      |ao s zs iN=>
       have:=r.dy k id b ⟨β,hk,.inl ⟨AP,hb⟩⟩ ⟨a7,cF,.inl ⟨by rw[hh];rfl,gI⟩⟩;exact⟨off,l,by rw[this]⟩
      |g1 s zs=>
       rw[hh]at c_;obtain⟨_,c_⟩:=c_;rcases c_ with c_|⟨dO,G,fT,f2,vY,uP,y2⟩
       ·exfalso;subst c_;rw[hh]at hx;simp only[H.els,Option.some.injEq]at hx;subst hx;simp only[elsOf,FI]at hel;split at hel
        ·simp only[Option.some.injEq,Prod.mk.injEq]at hel;exact hne (by rw[←hel.2];simp)
        ·cases hel
       ·rw[gI]at fT;cases fT;exact(f2 k β hk (.inl ⟨AP,hb⟩)).elim
    |d x=>
     cases x with
     |sl s zs=>
      obtain⟨ad',c',cF,bh,bI,cd⟩:=CJ eE;rw[ai]at cF;simp only[Value.slice.injEq]at cF;rcases cd with cd|⟨c8,iD,G,cd,gI,sV,yW,JF⟩
      ·simp only[elsOf,Option.some.injEq,Prod.mk.injEq]at hel;exact absurd (hel.2▸cd) hne
      ·rw[←cF.1,CI]at cd;simp only[Option.some.injEq,Addr.mk.injEq]at cd;exact((cd.1▸sV) k β hk (.inl ⟨AP,hb⟩)).elim
     |_=>simp[elsOf]at hel
    |c6 s=>
     simp only[elsOf,Option.some.injEq,Prod.mk.injEq]at hel;exact absurd hel.2.symm hne
    |_=>simp[elsOf]at hel
   split at he
   ·rename_i hf;simp only[Option.some.injEq,Prod.mk.injEq]at he;obtain⟨rfl,rfl⟩:=he;refine⟨ad,c,[],ai,aj,?_,List.nodup_nil,by simp,by simp,by simp,by simp⟩;rcases bj with bj|⟨b,f,G,bj,cr,iU,mf⟩
    ·exact .inl ⟨bj,rfl⟩
    ·by_cases hne:v3=[]
     ·exact .inl ⟨hne,rfl⟩
     ·exact .inr ⟨b,f,bj,cr,P4 _ _ _ _ hf iU,uR bj hne⟩
   ·split at he
    ·rename_i id off l;split at he
     ·rename_i s zs hx;simp only[Option.some.injEq,Prod.mk.injEq]at he;obtain⟨rfl,rfl⟩:=he;have eN:aN σ'.heap id=.ao s zs true:=by
       rcases aR.2 id with hh|hh
       ·rw[hx]at hh;cases hh
       ·rw[hh,hx]
      simp only[elsOf,hx,H.els]at hel;split at hel
      ·rename_i hb;simp only[Option.some.injEq,Prod.mk.injEq]at hel;obtain⟨rfl,rfl⟩:=hel;obtain⟨F,d4,fD,f3⟩:=P5 r eN hb eE;simp only[rep]at d4;obtain⟨ad',c',cC,cT,eI,kq⟩:=d4;refine⟨ad',c',F.tail,cC,cT,?_,?_,?_,by simp,by simp[eN],by simp⟩
       ·rw[ai]at cC;simp only[Value.slice.injEq,true_and]at cC;rcases kq with kq|⟨b,f,G,k1,k2,dw,gj,xw⟩
        ·exact .inl ⟨kq.1,by rw[kq.2.1];rfl⟩
        ·subst k2;by_cases hne:(zs.drop off).take l=[]
         ·rw[hne]at gj;simp only[repE]at gj;subst gj;exact .inl ⟨hne,rfl⟩
         ·exact .inr ⟨b,f,k1,dw,gj,uR (cC.1.trans k1) hne⟩
       ·exact fD.sublist (List.tail_sublist F)
       ·intro x uS;exact⟨_,List.mem_singleton.2 rfl,f3 x (List.mem_of_mem_tail uS)⟩
      ·cases hel
     ·cases he
    ·cases he
  ·cases he
 ·cases he
end
def J2(id:Nat)(y:V):Bool:=match y with|.sl k _ _=>k != id|_=>true
def apE(P:Program)(hs:List H)(T:TypeId)(x y:V)(n:Nat):Option (Prop×dS):=
 match elI P T with
 |none=>none
 |some (e,sz,fa)=>
  match srcE hs sz y with
  |none=>none
  |some (ys,cons)=>
   match x with
   |.c6 _=>some ((zrI P e).map List.length=some sz∧0<fa∧ys.length * fa≤140737488355328,⟨.sl n 0 ys.length,[.ao sz ys true],cons⟩)
   |.sl id 0 len=>
    match aN hs id with
    |.ao s xs true=>if s=sz then some ((zrI P e).map List.length=some sz∧0<fa∧len=xs.length∧(xs.length+ys.length) * fa≤140737488355328∧J2 id y=true,⟨.sl n 0 (xs.length+ys.length),[.ao sz (xs++ys) true],(id,.c1)::cons⟩)else none
    |_=>none
   |_=>none
section
variable {B:Nat→Prop} {w0:World} {aG:Nat→Prop} {φ:b2} {kp:List (V×Value)} {a:Act} {w:World}
structure FK(σ':St)(φ:b2)(w:World)(sz:Nat)(xs:List (List D))(upd:List (Nat×H))(ad:Option Addr)(c:Nat)(G:List Nat):Prop where
 len:xs.length≤c
 uT:c≤maxLen
 CK:G.Nodup
 own:∀g∈G,∃p∈upd,cN φ σ'.heap p.1 g
 up:upd=[]∨∃id s ys,upd=[(id,.c1)]∧aN σ'.heap id=.ao s ys true
 J3:(c=0∧xs=[]∧G=[])∨∃id β b,upd=[(id,.c1)]∧φ id=some β∧β.dP=some b∧ad=some ⟨b,β.off,none⟩∧c=β.cap∧β.sz=sz∧mg w.heap b (β.off+β.cap * sz)∧repE w.heap true b β.off sz xs G∧b∉G
theorem XQ{t ty e:TypeId}{i:TypeInfo}(ht:P.underlying t=some (.slice e))(hi:P.info? e=some i)(ad ad':Option Addr)(c':Nat)(w:World) :
  (Builtin.append_ #[t,t] ty #[.slice ad 0 0,.slice ad' 0 c']).run P w=.ok (.slice ad 0 0) w:=by
 have hf:(Builtin.firstCells i.size 0 (.slice ad' 0 c')).run P w=.ok #[] w:=by
  cases ad' with
  |none=>rfl
  |some ad=>simp[Builtin.firstCells,loadCells,loadCellsFrom]
 have hs:(Go.sizeOf e).run P w=Result.ok i.size w:=by simp[Go.sizeOf,typeInfo,hi]
 have hl:(Builtin.lenOf (.slice ad' 0 c')).run P w=.ok 0 w:=rfl
 cases ad<;>simp[Builtin.append_,run_underlying ht,hs,hl,hf,storeCells]
theorem XR{σ':St}(aL:R B w0 aG φ σ' kp a w){n:Nat}(hd:aN σ'.heap n=.c1)(hn:¬aG n){T ty e:TypeId}{i:TypeInfo}{z:Value}(ht:P.underlying T=some (.slice e))(hi:P.info? e=some i)(hz:i.zero=some z)
  (XS:z.cells.size=i.size) (xx:0<i.bytes) {xs ys:List (List D)} (vR:(xs.length+ys.length) * i.bytes≤140737488355328) {upd cons:List (Nat×H)} {ad ad':Option Addr} {c c':Nat} {G Gs:List Nat} (bs:FK σ' φ w i.size xs upd ad c G)
  (xy:ys=[]∧Gs=[]∨∃b f,ad'=some ⟨b,f,none⟩∧b<w.heap.size∧repE w.heap true b f i.size ys Gs) (J4:Gs.Nodup) (y3:∀g∈Gs,∃p∈cons,cN φ σ'.heap p.1 g) (XT:(cons.map (·.1)).Nodup)
  (XU:∀p∈cons,∃s zs,aN σ'.heap p.1=.ao s zs true∧p.2=.g1 s zs) (J5:∀p∈cons,∀q∈upd,p.1≠q.1) (ahn:∀b f,ad'=some ⟨b,f,none⟩→ys≠[]→∀q∈upd,∀β,φ q.1=some β→β.dP≠some b) :
  ∃w' cu u,(Builtin.append_ #[T,T] ty #[.slice ad xs.length c,.slice ad' ys.length c']).run P w=.ok u w'∧
   R B w0 (fun i=>aG i∨(n≤i∧i<n+1)) cu ⟨σ'.tmps,hupd (b3 σ'.heap n (.ao i.size (xs++ys) true)) (upd++cons)⟩ kp a w'∧∀fN h',VRel cu fN h' (.sl n 0 (xs.length+ys.length)) u:=by
 have CL:xs.length+ys.length≤maxLen:=by
  have:(xs.length+ys.length) * 1≤(xs.length+ys.length) * i.bytes:=Nat.mul_le_mul_left _ xx;simp only[maxLen];omega
 have P6:∀p∈upd,p.2=.c1∧∃s ys,aN σ'.heap p.1=.ao s ys true:=by
  intro p hp;rcases bs.up with h|⟨id,s,v3,h,h2⟩
  ·rw[h]at hp;cases hp
  ·rw[h]at hp;simp only[List.mem_singleton]at hp;subst hp;exact⟨rfl,s,v3,h2⟩
 have hnd:((upd++cons).map (·.1)).Nodup:=by
  rw[List.map_append];refine List.nodup_append.2 ⟨?_,XT,?_⟩
  ·rcases bs.up with h|⟨id,s,v3,h,h2⟩<;>rw[h]<;>simp
  ·intro x hx y hy lF;obtain⟨p,hp,rfl⟩:=List.mem_map.1 hx;obtain⟨q,hq,rfl⟩:=List.mem_map.1 hy;exact J5 q hq p hp lF.symm
 have hu:∀p∈upd++cons,∃sz xs,aN σ'.heap p.1=.ao sz xs true∧(p.2=.c1∨p.2=.g1 sz xs):=by
  intro p hp;rcases List.mem_append.1 hp with hp|hp
  ·obtain⟨h1,s,v3,h2⟩:=P6 p hp;exact⟨s,v3,h2,.inl h1⟩
  ·obtain⟨s,zs,h1,h2⟩:=XU p hp;exact⟨s,zs,h1,.inr h2⟩
 have XV:∀x∈G,∀y∈Gs,x≠y:=by
  rintro x hx y hy rfl;obtain⟨p,dh,c_⟩:=bs.own x hx;obtain⟨q,cF,bh⟩:=y3 x hy;exact J5 q cF p dh (aL.dy _ _ _ bh c_)
 have FL:∀g∈G,g<w.heap.size:=fun g hg=>by obtain⟨p,_,c_⟩:=bs.own g hg;exact cN.lt aL c_
 have P7:∀g∈Gs,g<w.heap.size:=fun g hg=>by obtain⟨p,_,c_⟩:=y3 g hg;exact cN.lt aL c_
 have P8:(G++Gs).Nodup:=List.nodup_append.2 ⟨bs.CK,J4,XV⟩;have xz:∀b∈G++Gs,w.heap.size≤b∨∃p∈upd++cons,cN φ σ'.heap p.1 b:=by
  intro b hb;rcases List.mem_append.1 hb with hb|hb
  ·obtain⟨p,dh,c_⟩:=bs.own b hb;exact .inr ⟨p,List.mem_append_left _ dh,c_⟩
  ·obtain⟨p,dh,c_⟩:=y3 b hb;exact .inr ⟨p,List.mem_append_right _ dh,c_⟩
 have XW:ys=[]∨∃b f G,ad'=some ⟨b,f,none⟩∧repE w.heap true b f i.size ys G:=by
  rcases xy with h|⟨b,f,h1,_,h2⟩
  ·exact .inl h.1
  ·exact .inr ⟨b,f,Gs,h1,h2⟩
 obtain⟨f_,ga,g3,jF,n2⟩:=J1 (P:=P) (c:=c') XW;by_cases uQ:xs.length+ys.length≤c
 ·rcases bs.J3 with ⟨h1,h2,ak⟩|⟨id,β,b,dF,dO,dR,l0,l4,E6,E8,Ag,vM⟩
  ·subst h1;subst h2;subst ak;have aC:ys=[]:=List.eq_nil_of_length_eq_zero (by simp at uQ;simpa using uQ);subst aC;have sO:Gs=[]:=by
    rcases xy with h|⟨b,f,_,_,h⟩
    ·exact h.2
    ·simpa [repE]using h
   refine⟨w,cZ φ n ⟨none,0,0,i.size,[]⟩,.slice ad 0 0,XQ ht hi ad ad' c' w,?_,fun fN h'=>?_⟩
   ·exact FM aL hd hn hnd hu rfl (Nat.le_refl _) aL.fg (fun _ _ _=>rfl) (.inl ⟨rfl,rfl,rfl,rfl⟩) (fun b hb=>by cases hb) (fun b hb=>by cases hb) List.nodup_nil (fun b hb=>by cases hb)
   ·simp only[VRel];exact⟨⟨none,0,0,i.size,[]⟩,ad,0,by simp[cZ],rfl,by decide,.inl ⟨rfl,rfl,rfl⟩⟩
  ·subst l0;obtain⟨cs,md,aH,aZ⟩:=E8;have XX:(xs.length+ys.length) * i.size≤β.cap * i.size:=Nat.mul_le_mul_right _ (Nat.le_trans uQ (Nat.le_of_eq l4));have AR:(xs.length+ys.length) * i.size=xs.length * i.size+ys.length * i.size:=Nat.add_mul _ _ _;have FN:β.off+xs.length * i.size+f_.length≤cs.size:=by rw[ga];omega
   have eF:=P2 (P:=P) (w:=w) T ty e i ht hi b β.off xs.length c cs md aH ys.length (.slice ad' ys.length c') f_ rfl (g3 w rfl) jF uQ FN;have FO:(id,H.c1)∈upd:=by rw[dF];simp
   obtain⟨_,aho,ahp,XY⟩:=P6 _ FO;have tV:cN φ σ'.heap id b:=⟨β,dO,.inl ⟨by rw[XY];rfl,dR⟩⟩;have J6:∀c8,c8≠b→(w.setRow b (eM cs.toList (β.off+xs.length * i.size) f_).toArray).heap[c8]?=w.heap[c8]?:=fun c8 et=>setRow_other w b c8 _ et;have mP:=FP (f:=β.off+xs.length * i.size) aH FN;have J7:∀g∈G++Gs,g≠b:=by
    rintro g hg rfl;rcases List.mem_append.1 hg with hg|hg
    ·exact vM hg
    ·obtain⟨p,dh,c_⟩:=y3 g hg;exact J5 p dh _ FO (aL.dy _ _ _ c_ tV)
   refine⟨_,cZ φ n {β with cS:=G++Gs},_,eF,?_,fun fN h'=>?_⟩
   ·refine FM aL hd hn hnd hu (β:={β with cS:=G++Gs}) E6 (by rw[setRow_size];exact Nat.le_refl _) (CM aL.fg (aL.ej _ _ tV) aH (CN FN)) (fun c8 _ et=>J6 c8 fun e=>?_) (.inr ⟨b,dR,?_,?_,?_⟩) (fun c8 et=>.inr ⟨(id,.c1),List.mem_append_left _ FO,rfl,β,dO,et⟩) xz P8 (fun c8 et jt=>?_)
    ·exact et (id,.c1) (List.mem_append_left _ FO) rfl β dO (e▸dR)
    ·simp only[List.length_append];omega
    ·refine⟨_,md,setRow_heap w b cs _ md (0,0) aH,?_⟩;have:=y4 (l:=cs.toList) (off:=β.off+xs.length * i.size) (vs:=f_) (by simpa using FN);simp only[List.size_toArray,this,Array.length_toList];exact aZ
    ·refine(repE_append _ _ _ _).2 ⟨G,Gs,rfl,?_,?_⟩
     ·change repE _ true b β.off i.size xs G;refine tU xs β.off β.off i.size G (by rw[setRow_size];exact Nat.le_refl _) (fun g hg=>J6 g (J7 g (by simp[hg]))) (fun j av=>?_) Ag;rw[mP,if_neg (by omega)]
     ·rcases xy with ⟨rfl,rfl⟩|⟨c8,iD,c9,dc,cB⟩
      ·simp[repE]
      ·change repE _ true b (β.off+xs.length * i.size) i.size ys Gs;refine tU ys iD _ i.size Gs (by rw[setRow_size];exact Nat.le_refl _) (fun g hg=>J6 g (J7 g (by simp[hg]))) (fun j av=>?_) cB;rw[mP,if_pos ⟨by omega,by rw[ga];omega⟩,show β.off+xs.length * i.size+j-(β.off+xs.length * i.size)=j from by omega];have hne:ys≠[]:=fun h=>by rw[h]at av;simp at av
       obtain⟨P9,P_,fT,f2⟩:=n2 hne;rw[c9]at fT;simp only[Option.some.injEq,Addr.mk.injEq]at fT;obtain⟨rfl,rfl,_⟩:=fT;have k3:j<f_.length:=by rw[ga];exact av
       rw[f2 j f_[j] (List.getElem?_eq_getElem k3),List.getElem?_eq_getElem k3]
    ·simp only at et jt;rw[dR]at et;cases et;exact J7 _ jt rfl
   ·simp only[VRel];refine⟨{β with cS:=G++Gs},_,c,by simp[cZ],rfl,bs.uT,.inr ⟨b,dR,by simp,uQ,by simpa using l4⟩⟩
 ·have tW:xs=[]∨∃b f G,ad=some ⟨b,f,none⟩∧repE w.heap true b f i.size xs G:=by
   rcases bs.J3 with ⟨h1,h2,ak⟩|⟨id,β,b,dF,dO,dR,l0,l4,E6,E8,Ag,vM⟩
   ·exact .inl h2
   ·exact .inr ⟨b,_,G,l0,Ag⟩
  obtain⟨uU,dy,d_,ej,XZ⟩:=J1 (P:=P) (c:=c) tW;have X0:∃e',P.underlying T=some (.slice e'):=⟨e,ht⟩;have aQ:Src P i.size T (.slice ad' ys.length c') ys.length f_ w:=⟨.inl X0,fun _=>rfl,g3 w rfl,g3 w.drew rfl,ga,jF⟩;have eF:=run_append_grow_src (P:=P) w T T ty e i z ht hi hz ad xs.length c uU (d_ w.drew rfl) _ ys.length f_ aQ (by omega) (by simp only[maxLen]at CL;omega) (growslice_fits (by omega) vR);have nX:=grownCap_ge w (xs.length+ys.length) c e;have aR:=grownCap_le_maxLen w (xs.length+ys.length) c e CL;generalize grownCap w (xs.length+ys.length) c e=gc at eF nX aR;have uV:(w.drew.alloc (.cells ((uU++f_).toArray++Builtin.zeroCells z.cells (gc-(xs.length+ys.length))) e)).heap=w.heap.push (.cells ((uU++f_).toArray++Builtin.zeroCells z.cells (gc-(xs.length+ys.length))) e):=rfl;have P':∀j,j<(uU++f_).length→((uU++f_).toArray++Builtin.zeroCells z.cells (gc-(xs.length+ys.length)))[j]?=(uU++f_)[j]?:=by
   intro j av;rw[Array.getElem?_append_left (by simpa using av)];simp
  refine⟨_,cZ φ n ⟨some w.heap.size,0,gc,i.size,G++Gs⟩,_,eF,?_,fun fN h'=>?_⟩
  ·refine FM aL hd hn hnd hu rfl (by rw[uV];simp) ((FQ (aL.fg.drew) aL.bs _)) (fun c8 et _=>by rw[uV,Array.getElem?_push];simp[Nat.ne_of_lt et]) (.inr ⟨w.heap.size,rfl,?_,?_,?_⟩) (fun c8 et=>.inl (by cases et;exact Nat.le_refl _)) xz P8 (fun c8 et jt=>?_)
   ·simp only[List.length_append];exact nX
   ·refine⟨((uU++f_).toArray++Builtin.zeroCells z.cells (gc-(xs.length+ys.length))),e,by rw[uV];simp,?_⟩;simp only[Array.size_append,List.size_toArray,List.length_append,dy,ga,size_zeroCells,XS,Nat.zero_add];rw[←Nat.add_mul,←Nat.add_mul];exact Nat.mul_le_mul_right _ (show gc≤_ from by omega)
   ·refine(repE_append _ _ _ _).2 ⟨G,Gs,rfl,?_,?_⟩
    ·rcases bs.J3 with ⟨h1,rfl,rfl⟩|⟨id,β,b,dF,dO,dR,l0,l4,E6,E8,Ag,vM⟩
     ·simp[repE]
     ·refine P3 uV Ag (fun j av=>?_) FL;have hne:xs≠[]:=fun h=>by rw[h]at av;simp at av
      obtain⟨P9,P_,fT,f2⟩:=XZ hne;rw[l0]at fT;simp only[Option.some.injEq,Addr.mk.injEq]at fT;obtain⟨rfl,rfl,_⟩:=fT;have k3:j<uU.length:=by rw[dy];exact av
      rw[Nat.zero_add,P' j (by simp;omega),List.getElem?_append_left k3,List.getElem?_eq_getElem k3,f2 j uU[j] (List.getElem?_eq_getElem k3)]
    ·rcases xy with ⟨rfl,rfl⟩|⟨c8,iD,c9,dc,cB⟩
     ·simp[repE]
     ·change repE _ true _ (0+xs.length * i.size) i.size ys Gs;refine P3 uV cB (fun j av=>?_) P7;have hne:ys≠[]:=fun h=>by rw[h]at av;simp at av
      obtain⟨P9,P_,fT,f2⟩:=n2 hne;rw[c9]at fT;simp only[Option.some.injEq,Addr.mk.injEq]at fT;obtain⟨rfl,rfl,_⟩:=fT;have k3:j<f_.length:=by rw[ga];exact av
      rw[P' _ (by simp;omega),List.getElem?_append_right (by omega),show 0+xs.length * i.size+j-uU.length=j from by omega,List.getElem?_eq_getElem k3,f2 j f_[j] (List.getElem?_eq_getElem k3)]
   ·simp only at et jt
    cases et
    rcases List.mem_append.1 jt with h|h
    ·exact Nat.lt_irrefl _ (FL _ h)
    ·exact Nat.lt_irrefl _ (P7 _ h)
  ·simp only[VRel];exact⟨⟨some w.heap.size,0,gc,i.size,G++Gs⟩,_,gc,by simp[cZ],rfl,aR,.inr ⟨w.heap.size,rfl,by simp,nX,by simp⟩⟩
end
theorem ok_append{c:Call}{x y:Operand}{T:TypeId}(az:o.op=.call c)(hc:c={callee:=.builtin .append,args:=#[x,y],argTypes:=#[T,T]})
  (h:evg g (σ.ev x) fun a=>evg g (σ.ev y) fun b=>match apE P σ.heap T a b n with|some (p,r)=>p∧K r|none=>False):∃r,fO P o g σ n r∧K r:=by
 subst hc;obtain⟨jg,h1,hx⟩:=fb h;obtain⟨y5,h2,hy⟩:=fb h1;clear h h1;split at h2
 ·rename_i p r ah;obtain⟨hp,bU⟩:=h2;refine⟨r,?_,bU⟩;intro σ' aR hd B w0 aG φ kp a w iC aL hg lG mQ hk;have cL:=hx _ _ _ _ hg (eW aR aL x);have jG:=hy _ _ _ _ hg (eW aR aL y);unfold apE at ah;split at ah
  ·cases ah
  ·rename_i e sz fa hel;obtain⟨i,ht,hi,cH,xx⟩:=tX hel;split at ah
   ·cases ah
   ·rename_i ys cons xy;obtain⟨ad',c',Gs,c9,dc,cB,de,j7,kN,kO,lj⟩:=XP aR aL xy jG;have key:∀{xs:List (List D)} {upd:List (Nat×H)} {ad:Option Addr} {c:Nat} {G:List Nat},(zrI P e).map List.length=some sz→0<fa→(xs.length+ys.length) * fa≤140737488355328→a.eval x=.slice ad xs.length c→FK σ' φ w sz xs upd ad c G→
      (∀q∈upd,∀off l,y5≠.sl q.1 off l)→(∀q∈upd,(aN σ'.heap q.1).me=true)→r=⟨.sl n 0 (xs.length+ys.length),[.ao sz (xs++ys) true],upd++cons⟩→o.wp P a w lG mQ:=by
     intro xs upd ad c G hz hb hf hu tW hq FR hr;subst hr
     cases n3:zrI P e with
     |none=>rw[n3]at hz;cases hz
     |some vs=>
      rw[n3]at hz;obtain⟨cA,z,dn,nh,kX⟩:=y6 n3;rw[hi]at dn;cases dn;have s3:z.cells.size=i.size:=by
       have:=i6 _ _ (kX φ (fun _=>True) #[]);simp only[Option.map_some,Option.some.injEq]at hz;rw[cH,←hz,←this];simp
      subst cH;obtain⟨w',cu,u,ai,aj,aT⟩:=XR (P:=P) (ty:=o.type) aL (n:=n) (hd n (Nat.le_refl _) (by simp)) (iC n (Nat.le_refl _) (by simp)) ht hi nh s3 (by rw[xx];exact hb) (by rw[xx];exact hf) tW (ad':=ad') (c':=c') (Gs:=Gs)
       (by
        rcases cB with cB|⟨b,f,fT,f2,vY,_⟩
        ·exact .inl cB
        ·exact .inr ⟨b,f,fT,f2,vY⟩) de j7 kN kO
       (fun p hp q nM he=>by
        obtain⟨off,l,h1⟩:=lj p hp;exact hq q nM off l (by rw[h1,he]))
       (fun b f h1 h2 q nM β ak aC=>by
        rcases cB with cB|⟨c8,iD,fT,f2,vY,uP⟩
        ·exact h2 cB.1
        ·rw[fT]at h1;simp only[Option.some.injEq,Addr.mk.injEq]at h1;obtain⟨off,l,bL⟩:=uP q.1 β ak (by rw[h1.1];exact aC) (FR q nM);exact hq q nM off l bL)
      unfold Oper.wp;have eF:(execOp a.eval o).run P w=.ok (.value u) w':=by
       unfold execOp;rw[az];simp[resolve,invoke,builtin,hu,c9,ai]
      rw[eF,Oper.upon_value];exact hk _ _ _ (k4 aj o.dst (aT _ _))
    split at ah
    ·rename_i s;simp only[Option.some.injEq,Prod.mk.injEq]at ah;obtain⟨rfl,rfl⟩:=ah;simp only[VRel]at cL;refine key (xs:=[]) (upd:=[]) (G:=[]) hp.1 hp.2.1 (by simpa using hp.2.2) cL ⟨by simp,by decide,List.nodup_nil,by simp,.inl rfl,.inl ⟨rfl,rfl,rfl⟩⟩ (by simp) (by simp) (by simp)
    ·rename_i id len;split at ah
     ·rename_i s xs gA;split at ah
      ·rename_i hs;subst hs;simp only[Option.some.injEq,Prod.mk.injEq]at ah;obtain⟨rfl,rfl⟩:=ah;obtain⟨dh,c_,fK,mh,nn⟩:=hp;have eN:aN σ'.heap id=.ao s xs true:=by
        rcases aR.2 id with hh|hh
        ·rw[gA]at hh;cases hh
        ·rw[hh,gA]
       obtain⟨β,ad,mR,cF,bh,bI,cd,gI⟩:=s0 cL;have tW:∃G,FK σ' φ w s xs [(id,.c1)] ad mR G:=by
        have Ax:([(id,H.c1)]:List (Nat×H))=[]∨∃np s ys,[(id,H.c1)]=[(np,H.c1)]∧aN σ'.heap np=.ao s ys true:=.inr ⟨id,s,xs,rfl,eN⟩;have FT:mR=0∧len=0→∃G,FK σ' φ w s xs [(id,.c1)] ad mR G:=fun h0=>
         ⟨[],by omega,cd,List.nodup_nil,by simp,Ax,.inl ⟨h0.1,List.eq_nil_of_length_eq_zero (by omega),rfl⟩⟩
        rcases gI with gI|⟨b,gI,sV,yW⟩
        ·exact FT ⟨gI.1,gI.2.1⟩
        ·rcases aL.hp id with fY|⟨a7,ai,hr⟩
         ·rw[eN]at fY;cases fY
         ·rw[cF]at ai;cases ai;rw[eN]at hr;simp only[dG]at hr;obtain⟨tY,hr⟩:=hr;rcases hr with hr|⟨c8,G,aH,aZ,ca,cf,eh,gJ⟩
          ·rw[gI]at hr;cases hr.1
          ·rw[gI]at aH;cases aH;have gF:=aL.d_ id β cF (by rw[eN];rfl);have J8:=eh trivial;refine⟨G,by omega,cd,by rw[J8];exact gF.1,fun g hg=>⟨_,List.mem_singleton.2 rfl,β,cF,.inr ⟨by rw[eN];rfl,by rw[←J8];exact hg⟩⟩,Ax,.inr ⟨id,β,b,rfl,cF,gI,by rw[sV];simp,by omega,tY,ca,cf,by rw[J8];exact gF.2 b gI⟩⟩
       obtain⟨G,tW⟩:=tW;refine key dh c_ mh (by rw[←fK];exact bh) tW ?_ ?_ rfl
       ·intro q hq off l hv;simp only[List.mem_singleton]at hq;subst hq;subst hv;simp[J2]at nn
       ·intro q hq;simp only[List.mem_singleton]at hq;subst hq;rw[eN];rfl
      ·cases ah
     ·cases ah
    ·cases ah
 ·exact h2.elim
variable {P:Program} {o:Oper} {g:Bool} {σ:St} {n:Nat} {K:dS→Prop}
def chunk(sz:Nat):Nat→List D→List (List D)
 |0,_=>[]
 |k+1,ds=>ds.take sz::chunk sz k (ds.drop sz)
theorem Gc(sz:Nat):∀(k:Nat) (ds:List D),(chunk sz k ds).length=k
 |0,_=>rfl
 |k+1,ds=>by simp[chunk,Gc sz k]
theorem Q4{h:Array Obj}{bl:Bool}{b sz:Nat}:∀(k f:Nat) (ds:List D) (G:List Nat),ds.length=k * sz→repC h bl b f ds G→repE h bl b f sz (chunk sz k ds) G
 |0,f,ds,G,hl,r=>by
  have:ds=[]:=List.eq_nil_of_length_eq_zero (by simpa using hl);subst this;simpa [chunk,repE,repC]using r
 |k+1,f,ds,G,hl,r=>by
  rw[Nat.add_mul,Nat.one_mul]at hl;have e:ds=ds.take sz++ds.drop sz:=(List.take_append_drop sz ds).symm;rw[e]at r;obtain⟨bH,bA,rfl,aH,aZ⟩:=(zb _ _ _ _).1 r;have CF:(ds.take sz).length=sz:=by simp;omega
  rw[CF]at aZ;simp only[chunk,repE];exact⟨bH,bA,rfl,CF,aH,Q4 k (f+sz) _ bA (by simp;omega) aZ⟩
def bsE(P:Program)(hs:List H)(T:TypeId)(len:Nat)(parts:List (Nat×V))(n:Nat):Option (Prop×dS):=
 match elI P T with
 |some (e,sz,_)=>
  match vfill (fun i=>some (i * sz,sz)) (List.replicate (len * sz) .ab) parts with
  |some cells=>
   match toDs hs cells with
   |some (ds,bP)=>some ((zrI P e).isSome=true∧ds.length=len * sz∧bP.Nodup∧len * sz≤16777216∧len≤maxLen,⟨.sl n 0 len,[.ao sz (chunk sz len ds) true],bP.map fun i=>(i,match aN hs i with|.ao s ys _=>.g1 s ys|x=>x)⟩)
   |none=>some (((zrI P e).isSome=true∧sz=1)∧len≤16777216∧len≤maxLen,⟨.sl n 0 len,[.box cells],[]⟩)
  |none=>none
 |none=>none
theorem Q5{φ:b2}{T:Nat→Prop}{h:Array Obj}(us:List Value):VRels φ T h (List.replicate us.length .ab) us:=by
 refine xB _ _ (by simp) fun t v u ai aj=>?_;rw[List.getElem?_replicate]at ai;split at ai
 ·cases ai;simp[VRel]
 ·cases ai
theorem Q6(w:World){t e:TypeId}(len:Nat)(parts:Array (Nat×Value)){t5:TypeInfo}{z:Value}(hu:P.underlying t=some (.slice e))(A9:P.info? e=some t5)(hz:t5.zero=some z)
  (akH:len * t5.size≤16777216):∃us:List Value,us.length=len * t5.size∧∀cells,Instr.fill (fun i=>some (i * t5.size,t5.size)) us.toArray parts.toList=some cells→
  (Instr.buildSlice t len parts).run P w=.ok (.slice (some ⟨w.heap.size,0,none⟩) len len) (w.alloc (.cells cells e)):=by
 by_cases h0:len * t5.size=0
 ·refine⟨[],by simp[h0],fun cells h1=>?_⟩;have hs:(Go.sizeOf e).run P w=Result.ok t5.size w:=by simp[Go.sizeOf,typeInfo,A9]
  simp[Instr.buildSlice,run_underlying hu,hs,h0,Array.range_zero',h1,newRow]
 ·refine⟨((Array.range (len * t5.size)).map (z.cells[· % z.cells.size]!)).toList,by simp,fun cells h=>?_⟩;exact run_buildSlice w t e len parts cells t5 z hu A9 hz (by omega) h0 (by rw[←h,Array.toArray_toList])
section
variable {B:Nat→Prop} {w0:World} {aG:Nat→Prop} {φ:b2} {kp:List (V×Value)} {a:Act} {w:World}
theorem Q7{σ':St}(aL:R B w0 aG φ σ' kp a w){n:Nat}(hd:aN σ'.heap n=.c1)(hn:¬aG n){upd:List (Nat×H)}(hnd:(upd.map (·.1)).Nodup)
  (hu:∀p∈upd,∃sz xs,aN σ'.heap p.1=.ao sz xs true∧p.2=.g1 sz xs) {cs:Array Value} {e:TypeId} {sz:Nat} {xs:List (List D)} {G:List Nat} (hcs:cs.size=xs.length * sz)
  (Cf:repE (w.heap.push (.cells cs e)) true w.heap.size 0 sz xs G) (J4:G.Nodup) (y3:∀b∈G,∃p∈upd,cN φ σ'.heap p.1 b) (KF:xs.length≤maxLen) :
  ∃cu,R B w0 (fun i=>aG i∨(n≤i∧i<n+1)) cu ⟨σ'.tmps,hupd (b3 σ'.heap n (.ao sz xs true)) upd⟩ kp a (w.alloc (.cells cs e))∧
   ∀fN h',VRel cu fN h' (.sl n 0 xs.length) (.slice (some ⟨w.heap.size,0,none⟩) xs.length xs.length):=by
 have uV:(w.alloc (.cells cs e)).heap=w.heap.push (.cells cs e):=rfl;have FL:∀b∈G,b<w.heap.size:=fun b hb=>by obtain⟨p,_,h⟩:=y3 b hb;exact cN.lt aL h
 refine⟨cZ φ n ⟨some w.heap.size,0,xs.length,sz,G⟩,?_,fun fN h'=>?_⟩
 ·refine FM aL hd hn hnd (fun p hp=>by obtain⟨s,ys,h1,h2⟩:=hu p hp;exact⟨s,ys,h1,.inr h2⟩) rfl (by rw[uV];simp) (FQ aL.fg aL.bs _) (fun c8 et _=>by rw[uV,Array.getElem?_push];simp[Nat.ne_of_lt et]) (.inr ⟨w.heap.size,rfl,Nat.le_refl _,?_,?_⟩) (fun c8 et=>.inl (by cases et;exact Nat.le_refl _))
   (fun b hb=>.inr (y3 b hb)) J4 (fun c8 et jt=>?_)
  ·exact⟨cs,e,by rw[uV];simp,by simp[hcs]⟩
  ·rw[uV];exact Cf
  ·simp only at et jt
   cases et
   exact Nat.lt_irrefl _ (FL _ jt)
 ·simp only[VRel];exact⟨⟨some w.heap.size,0,xs.length,sz,G⟩,_,xs.length,by simp[cZ],rfl,KF,.inr ⟨w.heap.size,rfl,by simp,Nat.le_refl _,by simp⟩⟩
end
theorem ok_buildSlice{T:TypeId}{len:Nat}{parts:Array (Nat×Operand)}(az:o.op=.buildSlice T len parts)(h:evParts g σ parts.toList fun ps=>match bsE P σ.heap T len ps n with|some (p,r)=>p∧K r|none=>False) :
  ∃r,fO P o g σ n r∧K r:=by
 obtain⟨ps,h1,hx⟩:=KG _ _ h;clear h;split at h1
 ·rename_i p r ah;obtain⟨hp,bU⟩:=h1;unfold bsE at ah;split at ah
  ·rename_i e sz fa hel;split at ah
   ·rename_i cells hf;split at ah
    ·rename_i ds bP sS;simp only[Option.some.injEq,Prod.mk.injEq]at ah;obtain⟨rfl,rfl⟩:=ah;obtain⟨dh,c_,fK,mh,nn⟩:=hp;refine⟨_,?_,bU⟩;intro σ' aR hd B w0 aG φ kp a w iC aL hg lG mQ hk;obtain⟨i,hu,hi,cH,_⟩:=tX hel;subst cH;obtain⟨vs,n3⟩:=Option.isSome_iff_exists.1 dh;obtain⟨cA,z,dn,nh,_⟩:=y6 n3;rw[hi]at dn;cases dn;have hps:=hx aR aL hg;obtain⟨us,t6,eF⟩:=Q6 (P:=P) w len (parts.map fun(j,x)=>(j,a.eval x)) hu hi nh mh;obtain⟨bY,k1,k2⟩:=Gd _ ps _ _ us _ hf (by rw[←t6];exact Q5 us) hps;have eF:=eF bY.toArray (by rw[Array.toList_map];exact k1);obtain⟨G,cC,cT,eI,kq⟩:=F3 aL cells ds bP bY (KH aR _ _ sS) fK k2;have hl:bY.length=ds.length:=y9 _ _ _ cC;have Ax:∀p∈bP.map (fun i=>(i,match aN σ.heap i with|.ao s ys _=>H.g1 s ys|x=>x)),∃sz xs,aN σ'.heap p.1=.ao sz xs true∧p.2=.g1 sz xs:=by
      intro p hp;obtain⟨j,C2,rfl⟩:=List.mem_map.1 hp;obtain⟨s,ys,q⟩:=KI _ _ _ sS j C2;refine⟨s,ys,?_,by simp only[q]⟩;rcases aR.2 j with hh|hh
      ·rw[q]at hh;cases hh
      ·rw[hh,q]
     obtain⟨cu,ai,aj⟩:=Q7 (cs:=bY.toArray) (e:=e) (sz:=i.size) (xs:=chunk i.size len ds) (G:=G) aL (n:=n) (hd n (Nat.le_refl _) (by simp)) (iC n (Nat.le_refl _) (by simp))
      (upd:=bP.map (fun i=>(i,match aN σ.heap i with|.ao s ys _=>H.g1 s ys|x=>x))) (by
       rw[List.map_map];have:((fun x:Nat×H=>x.1)∘fun i=>(i,match aN σ.heap i with|.ao s ys _=>H.g1 s ys|x=>x))=(fun i:Nat=>i):=rfl;rw[this,List.map_id'];exact fK) Ax (by simp[Gc,hl,c_])
      (by
       refine Q4 len 0 ds G c_ (y_ ds bY 0 G (KB (by simp) ds bY G (fun x hx=>?_) cC) fun j u av=>?_)
       ·obtain⟨q,cF,bh⟩:=eI x hx;rw[Array.getElem?_push];simp[Nat.ne_of_lt (cN.lt aL bh)]
       ·unfold cellAt;simp[av]) cT
      (fun x hx=>by
       obtain⟨q,cF,bh⟩:=eI x hx;exact⟨_,List.mem_map.2 ⟨q,cF,rfl⟩,bh⟩) (by rw[Gc];exact nn)
     unfold Oper.wp;have k6:(execOp a.eval o).run P w=.ok (.value (.slice (some ⟨w.heap.size,0,none⟩) len len)) (w.alloc (.cells bY.toArray e)):=by
      unfold execOp;rw[az];simp[eF]
     rw[k6,Oper.upon_value];rw[Gc]at aj;exact hk _ _ _ (k4 ai o.dst (aj _ _))
    ·simp only[Option.some.injEq,Prod.mk.injEq]at ah;obtain⟨rfl,rfl⟩:=ah;obtain⟨⟨dh,fK⟩,mh,nn⟩:=hp;subst fK;refine⟨_,?_,bU⟩;intro σ' aR hd B w0 aG φ kp a w iC aL hg lG mQ hk;obtain⟨i,hu,hi,cH,_⟩:=tX hel;obtain⟨vs,n3⟩:=Option.isSome_iff_exists.1 dh;obtain⟨cA,z,dn,nh,_⟩:=y6 n3;rw[hi]at dn;cases dn;have hps:=hx aR aL hg;obtain⟨us,t6,eF⟩:=Q6 (P:=P) w len (parts.map fun(j,x)=>(j,a.eval x)) hu hi nh (by rw[cH];omega);rw[cH]at t6 eF;obtain⟨bY,k1,k2⟩:=Gd _ ps _ _ us _ hf (by rw[←t6];exact Q5 us) hps;have eF:=eF bY.toArray (by rw[Array.toList_map];exact k1);have h1:=QV len 1 aL (n:=n) (hd n (Nat.le_refl _) (by simp)) (iC n (Nat.le_refl _) (by simp)) (cells:=cells) (cs:=bY.toArray) (e:=e) k2 (w':=w.alloc (.cells bY.toArray e)) rfl (FQ aL.fg aL.bs _);unfold Oper.wp;have k6:(execOp a.eval o).run P w=.ok (.value (.slice (some ⟨w.heap.size,0,none⟩) len len)) (w.alloc (.cells bY.toArray e)):=by
      unfold execOp;rw[az];simp[eF]
     rw[k6,Oper.upon_value];refine hk _ _ _ (k4 h1 o.dst ?_);simp only[VRel];exact⟨⟨some w.heap.size,0,len,1,[]⟩,_,len,by simp[cZ],rfl,nn,.inr ⟨w.heap.size,rfl,by simp,Nat.le_refl _,by simp⟩⟩
   ·cases ah
  ·cases ah
 ·exact h1.elim
def zD:V→Option D
 |.d x=>if x.flat then some x else none
 |.c6 s=>some (.sl s [])
 |_=>none
def zDs:List V→Option (List D)
 |[]=>some []
 |v::vs=>match zD v,zDs vs with|some d,some ds=>some (d::ds)|_,_=>none
theorem KJ{φ:b2}{T:Nat→Prop}{h h':Array Obj}{bl:Bool}:∀(vs:List V) (ds:List D) (us:List Value),zDs vs=some ds→VRels φ T h vs us→reps h' bl ds us []
 |[],ds,us,e,r=>by
  simp only[zDs,Option.some.injEq]at e;subst e;simp only[VRels]at r;subst r;simp[reps]
 |v::vs,ds,us,e,r=>by
  simp only[VRels]at r;obtain⟨u,bY,rfl,aH,aZ⟩:=r;simp only[zDs]at e;split at e
  ·rename_i d nq ai aj
   cases e
   simp only[reps];refine⟨u,bY,[],[],rfl,rfl,?_,KJ vs nq bY aj aZ⟩;unfold zD at ai;split at ai
   ·split at ai
    ·rename_i x hf
     cases ai
     simp only[VRel]at aH;obtain⟨F,aH,_⟩:=aH;have:=CS hf aH;subst this;exact FV hf aH
    ·cases ai
   ·cases ai
    simp only[VRel]at aH;subst aH;exact⟨none,0,rfl,by simp,by decide,.inl ⟨rfl,rfl,fun _=>rfl⟩⟩
   ·cases ai
  ·cases e
theorem KK{h:Array Obj}{b sz:Nat}{ds:List D}(hl:ds.length=sz):∀(m f:Nat),(∀i,i<m→repC h true b (f+i * sz) ds [])→repE h true b f sz (List.replicate m ds) []
 |0,f,_=>by simp[repE]
 |m+1,f,r=>by
  rw[List.replicate_succ];simp only[repE];refine⟨[],[],rfl,hl,by simpa using r 0 (by omega),KK hl m (f+sz) fun i hi=>?_⟩;have:=r (i+1) (by omega);rw[Nat.add_mul,Nat.one_mul]at this;rw[show f+sz+i * sz=f+(i * sz+sz)from by omega];exact this
def mkE(P:Program)(T:TypeId)(i:Int)(n:Nat):Option (Prop×dS):=
 match elI P T with
 |some (e,sz,fa)=>
  match zrI P e with
  |some zs=>
   match zDs zs with
   |some ds=>some (ds.length=sz∧0<sz∧0≤i∧(fa:Int) * i≤281474976710656∧i.toNat≤maxLen,⟨.sl n 0 i.toNat,[.ao sz (List.replicate i.toNat ds) true],[]⟩)
   |none=>none
  |none=>none
 |none=>none
theorem Ym{T:TypeId}{x:Operand}(az:o.op=.makeSlice T x x)(h:evg g (σ.ev x) fun v=>asI v fun _ i=>match mkE P T i n with|some (p,r)=>p∧K r|none=>False):∃r,fO P o g σ n r∧K r:=by
 obtain⟨jg,h1,hx⟩:=fb h;obtain⟨k,c,rfl,h1⟩:=xL h1;simp only[asI]at h1;split at h1
 ·rename_i p r ah;obtain⟨hp,bU⟩:=h1;unfold mkE at ah;split at ah
  ·rename_i e sz fa hel;split at ah
   ·rename_i zs n3;split at ah
    ·rename_i ds sS;simp only[Option.some.injEq,Prod.mk.injEq]at ah;obtain⟨rfl,rfl⟩:=ah;obtain⟨dh,c_,fK,mh,nn⟩:=hp;refine⟨_,?_,bU⟩;intro σ' aR hd B w0 aG φ kp a w iC aL hg lG mQ hk;obtain⟨i,hu,hi,cH,xx⟩:=tX hel;subst cH;subst xx;obtain⟨cA,z,dn,nh,kX⟩:=y6 n3;rw[hi]at dn;cases dn;have A_:=fun h':Array Obj=>KJ (h':=h') (bl:=true) _ _ _ sS (kX φ (fun _=>True) #[]);have s3:z.cells.size=i.size:=by rw[←Array.length_toList,y9 _ _ _ (A_ #[]),dh]
     have cL:=(k7 (hx _ _ _ _ hg (eW aR aL x))).1;have tN:=run_make (P:=P) w T e i z hu hi nh k k c c fK (Int.le_refl _) mh (by simp only[maxLen]at nn;omega);obtain⟨cu,ai,aj⟩:=Q7 (cs:=madeCells z.cells (c.toNat * i.size)) (e:=e) (sz:=i.size) (xs:=List.replicate c.toNat ds) (G:=[]) aL (n:=n) (hd n (Nat.le_refl _) (by simp)) (iC n (Nat.le_refl _) (by simp))
      (upd:=[]) (by simp) (by simp) (by simp[size_madeCells])
      (by
       refine KK dh c.toNat 0 fun m hm=>y_ ds z.cells.toList _ [] (A_ _) fun j u av=>?_;have wj:j<i.size:=by
        rw[←s3];rcases Nat.lt_or_ge j z.cells.size with h|h
        ·exact h
        ·rw[List.getElem?_eq_none (by simpa using h)]at av;cases av
       have hlt:m * i.size+j<c.toNat * i.size:=by
        have:(m+1) * i.size≤c.toNat * i.size:=Nat.mul_le_mul_right _ hm;rw[Nat.add_mul]at this;omega
       have KL:(m * i.size+j) % z.cells.size=j:=by rw[s3,Nat.mul_comm,Nat.mul_add_mod,Nat.mod_eq_of_lt wj]
       have k3:j<z.cells.size:=by rw[s3];exact wj
       unfold cellAt;simp[madeCells,hlt,KL];rw[Array.getElem?_toList]at av;rw[Array.getElem?_eq_getElem k3]at av;rw[getElem!_pos z.cells j k3];exact Option.some.inj av) List.nodup_nil (by simp) (by simpa using nn)
     unfold Oper.wp;have k6:(execOp a.eval o).run P w=.ok (.value (.slice (some ⟨w.heap.size,0,none⟩) c.toNat c.toNat)) (w.alloc (.cells (madeCells z.cells (c.toNat * i.size)) e)):=by
      unfold execOp;rw[az];simp[cL,tN]
     rw[k6,Oper.upon_value];rw[List.length_replicate]at aj;exact hk _ _ _ (k4 ai o.dst (aj _ _))
    ·cases ah
   ·cases ah
  ·cases ah
 ·exact h1.elim
theorem X9{c:Call}{x y:Operand}{T U:TypeId}(az:o.op=.call c)(hc:c={callee:=.builtin .min,args:=#[x,y],argTypes:=#[T,U]})
  (h:evg g (σ.ev x) fun a=>evg g (σ.ev y) fun b=>asI a fun k i=>asI b fun iF j=>k=iF∧K (cg (nr k (if j<i then j else i)))):∃r,fO P o g σ n r∧K r:=by
 subst hc;obtain⟨jg,h1,hx⟩:=fb h;obtain⟨y5,h2,hy⟩:=fb h1;obtain⟨k,i,rfl,h2⟩:=xL h2;simp only[asI]at h2;obtain⟨iF,j,rfl,h2⟩:=xL h2;obtain⟨rfl,bU⟩:=h2;refine⟨_,k8 fun σ' aR B w0 aG φ kp a w r hg=>⟨.int k (if j<i then j else i),?_,?_⟩,bU⟩
 ·have cL:=k7 (hx _ _ _ _ hg (eW aR r x));have jG:=k7 (hy _ _ _ _ hg (eW aR r y));unfold execOp;rw[az];simp[resolve,invoke,builtin,Builtin.min_,Builtin.min2,cL.1,jG.1]
 ·have cL:=k7 (hx _ _ _ _ hg (eW aR r x));have jG:=k7 (hy _ _ _ _ hg (eW aR r y));exact mj (by split<;>omega)
theorem X_{c:Call}{x y:Operand}{T U:TypeId}(az:o.op=.call c)(hc:c={callee:=.builtin .max,args:=#[x,y],argTypes:=#[T,U]})
  (h:evg g (σ.ev x) fun a=>evg g (σ.ev y) fun b=>asI a fun k i=>asI b fun iF j=>k=iF∧K (cg (nr k (if j>i then j else i)))):∃r,fO P o g σ n r∧K r:=by
 subst hc;obtain⟨jg,h1,hx⟩:=fb h;obtain⟨y5,h2,hy⟩:=fb h1;obtain⟨k,i,rfl,h2⟩:=xL h2;simp only[asI]at h2;obtain⟨iF,j,rfl,h2⟩:=xL h2;obtain⟨rfl,bU⟩:=h2;refine⟨_,k8 fun σ' aR B w0 aG φ kp a w r hg=>⟨.int k (if j>i then j else i),?_,?_⟩,bU⟩
 ·have cL:=k7 (hx _ _ _ _ hg (eW aR r x));have jG:=k7 (hy _ _ _ _ hg (eW aR r y));unfold execOp;rw[az];simp[resolve,invoke,builtin,Builtin.max_,Builtin.max2,cL.1,jG.1]
 ·have cL:=k7 (hx _ _ _ _ hg (eW aR r x));have jG:=k7 (hy _ _ _ _ hg (eW aR r y));exact mj (by split<;>omega)
def evs(g:Bool)(σ:St):List Operand→(List V→Prop)→Prop
 |[],K=>K []
 |x::r,K=>evg g (σ.ev x) fun v=>evs g σ r fun vs=>K (v::vs)
theorem CX:∀(xs:List Operand) (K:List V→Prop),evs g σ xs K→∃vs,K vs∧∀{σ':St} {B:Nat→Prop} {w0:World} {aG:Nat→Prop} {φ:b2} {kp:List (V×Value)} {a:Act} {w:World},σ.le σ'→R B w0 aG φ σ' kp a w→g=true→
  VRels φ (b8 φ σ'.heap) w.heap vs (xs.map a.eval)
 |[],K,h=>⟨[],h,fun _ _ _=>by simp[VRels]⟩
 |x::xs,K,h=>by
  simp only[evs]at h;obtain⟨v,h1,hx⟩:=fb h;obtain⟨vs,bU,hr⟩:=CX xs _ h1;refine⟨v::vs,bU,fun aR r hg=>?_⟩;simp only[List.map_cons,VRels];exact⟨_,_,rfl,hx _ _ _ _ hg (eW aR r x),hr aR r hg⟩
theorem Yn{f:FuncId}{d8:Array Operand}(az:o.op=.makeFunc (.func f) #[] d8)(h:evs g σ d8.toList fun vs=>K (cg (.fn f vs))):∃r,fO P o g σ n r∧K r:=by
 obtain⟨vs,bU,hx⟩:=CX _ _ h;refine⟨_,k8 fun σ' aR B w0 aG φ kp a w r hg=>?_,bU⟩;refine⟨.func (.func f) #[] (d8.map a.eval),by unfold execOp;rw[az];simp[Instr.makeFunc],?_⟩;simp only[VRel];exact⟨_,rfl,by simpa using hx aR r hg⟩
section
variable {B:Nat→Prop} {w0:World} {aG:Nat→Prop} {φ:b2} {kp:List (V×Value)} {a:Act} {w:World} {σ:St}
theorem Q8(r:R B w0 aG φ σ kp a w){id:Nat}{β:fU}{b s k:Nat}{xs ys:List (List D)}(dM:φ id=some β)(h0:aN σ.heap id=.ao s xs true)(hx:fv xs=true)(hb:β.dP=some b)(hk:k+ys.length≤xs.length){us:List Value}(ml:us.length=ys.length * s)
  (Cf:∀h':Array Obj,w.heap.size≤h'.size→(∀j,j<us.length→cellAt h' b (β.off+k * s+j)=us[j]?)→repE h' true b (β.off+k * s) s ys []) :
  ∃cs md,w.heap[b]?=some (.cells cs md (0,0))∧β.off+k * s+us.length≤cs.size∧
   R B w0 aG (cZ φ id {β with cS:=[]}) ⟨σ.tmps,b3 σ.heap id (.ao s (xs.take k++(ys++xs.drop (k+ys.length))) true)⟩ kp a (w.setRow b (eM cs.toList (β.off+k * s) us).toArray):=by
 rcases r.hp id with hd|⟨a7,ai,hr⟩
 ·rw[h0]at hd;cases hd
 ·rw[dM]at ai;cases ai;rw[h0]at hr;simp only[dG]at hr;obtain⟨hs,hr⟩:=hr;rcases hr with hr|⟨c8,G,aH,aZ,ca,cf,eh,_⟩
  ·rw[hb]at hr;cases hr.1
  ·rw[hb]at aH;cases aH;have br:=Cj _ _ _ _ hx cf;subst br;obtain⟨cs,md,cF,bh⟩:=ca;have XX:(k+ys.length) * s≤β.cap * s:=Nat.mul_le_mul_right _ (by omega);have Y2:(k+ys.length) * s=k * s+ys.length * s:=Nat.add_mul _ _ _;have hf:β.off+k * s+us.length≤cs.size:=by rw[ml];omega
   have mP:=FP (f:=β.off+k * s) cF hf;have cH:(w.setRow b (eM cs.toList (β.off+k * s) us).toArray).heap.size=w.heap.size:=setRow_size _ _ _;have hB:B b:=r.ej id b ⟨β,dM,.inl ⟨by rw[h0];rfl,hb⟩⟩;have h1:=cf;have h2:=cf;rw[←List.take_append_drop k xs]at h1;rw[←List.take_append_drop (k+ys.length) xs]at h2;obtain⟨ns,mS,Di,b5,cv⟩:=(repE_append _ _ _ _).1 h1;obtain⟨akI,hK,gc,dv,dD⟩:=(repE_append _ _ _ _).1 h2;obtain⟨rfl,rfl⟩:=List.append_eq_nil_iff.1 Di.symm;obtain⟨rfl,rfl⟩:=List.append_eq_nil_iff.1 gc.symm;have mA:(xs.take k).length=k:=by simp;omega
   have Y3:(xs.take (k+ys.length)).length=k+ys.length:=by simp;omega
   rw[Y3,Y2]at dD;refine⟨cs,md,cF,hf,?_⟩;have:=QX r (n:=id) (β:={β with cS:=[]}) (β0:=β) (upd:=[]) (by simp) (by simp) dM h0 ⟨rfl,rfl,rfl,rfl⟩ (by simp) (sz:=s) (xs:=xs.take k++(ys++xs.drop (k+ys.length))) hs (Nat.le_of_eq cH.symm) (CM r.fg hB cF (CN hf))
    (fun c _ hne _=>setRow_other w b c _ fun lJ=>hne (lJ▸hb))
    (.inr ⟨b,hb,by simp;omega,⟨_,md,setRow_heap w b cs _ md (0,0) cF,by
     have:=y4 (l:=cs.toList) (off:=β.off+k * s) (vs:=us) (by simpa using hf);simp only[List.size_toArray,this,Array.length_toList];exact bh⟩,by
     refine(repE_append _ _ _ _).2 ⟨[],[],rfl,?_,(repE_append _ _ _ _).2 ⟨[],[],rfl,?_,?_⟩⟩
     ·refine tU _ _ _ _ _ (Nat.le_of_eq cH.symm) (by simp) (fun j av=>?_) b5;rw[mA]at av
      show cellAt _ b (β.off+j)=_
      rw[mP,if_neg (by omega)]
     ·rw[mA];refine Cf _ (Nat.le_of_eq cH.symm) fun j av=>?_;rw[mP,if_pos (by omega),show β.off+k * s+j-(β.off+k * s)=j from by omega]
     ·rw[mA]
      show repE _ true b (β.off+k * s+ys.length * s) s _ []
      refine tU _ _ _ _ _ (Nat.le_of_eq cH.symm) (by simp) (fun j av=>?_) dD;rw[mP,if_neg (by rw[ml];omega),Nat.add_assoc β.off]⟩)
    (by simp) List.nodup_nil (by simp)
   exact this
end
variable {P:Program} {o:Oper} {g:Bool} {σ:St} {n:Nat} {K:dS→Prop}
def inE(P:Program)(hs:List H)(T:TypeId)(x y:V):Option (Prop×dS):=
 match x,y with
 |.sl id 0 i,.sl np j l=>
  if id=np then
   match elI P T,aN hs id with
   |some (_,sz,_),.ao s xs true=>if s=sz then some (fv xs=true∧i+l≤xs.length∧j+l≤xs.length∧0<xs.length,⟨.sl id 0 (i+l),[],[(id,.ao s (xs.take i++((xs.drop j).take l++xs.drop (i+l))) true)]⟩)else none
   |_,_=>none
  else none
 |_,_=>none
theorem ok_inplace{c:Call}{x y:Operand}{T:TypeId}(az:o.op=.call c)(hc:c={callee:=.builtin .append,args:=#[x,y],argTypes:=#[T,T]})
  (h:evg g (σ.ev x) fun a=>evg g (σ.ev y) fun b=>match inE P σ.heap T a b with|some (p,r)=>p∧K r|none=>False):∃r,fO P o g σ n r∧K r:=by
 subst hc;obtain⟨jg,h1,hx⟩:=fb h;obtain⟨y5,h2,hy⟩:=fb h1;clear h h1;split at h2
 ·rename_i p r ah;obtain⟨hp,bU⟩:=h2;refine⟨r,?_,bU⟩;intro σ' aR hd B w0 aG φ kp a w iC aL hg lG mQ hk;have cL:=hx _ _ _ _ hg (eW aR aL x);have jG:=hy _ _ _ _ hg (eW aR aL y);unfold inE at ah;split at ah
  ·rename_i id i np j l;split at ah
   ·rename_i d6;subst d6;split at ah
    ·rename_i e sz fa s xs hel gA;split at ah
     ·rename_i hs;subst hs;simp only[Option.some.injEq,Prod.mk.injEq]at ah;obtain⟨rfl,rfl⟩:=ah;obtain⟨dh,c_,fK,mh⟩:=hp;obtain⟨xM,ht,hi,cH,xx⟩:=tX hel;have eN:aN σ'.heap id=.ao s xs true:=by
       rcases aR.2 id with hh|hh
       ·rw[gA]at hh;cases hh
       ·rw[hh,gA]
      obtain⟨β,ad,mR,cF,bh,bI,cd,gI⟩:=s0 cL;obtain⟨a7,ad',Q9,fT,f2,vY,uP,y2⟩:=s0 jG;rw[cF]at fT;cases fT;rcases aL.hp id with fY|⟨a7,ai,hr⟩
      ·rw[eN]at fY;cases fY
      ·rw[cF]at ai;cases ai;rw[eN]at hr;simp only[dG]at hr;obtain⟨tY,hr⟩:=hr;have hne:xs≠[]:=fun h=>by rw[h]at mh;simp at mh
       rcases hr with hr|⟨b,G,aH,aZ,ca,cf,eh,gJ⟩
       ·exact absurd hr.2.1 hne
       ·have br:=Cj _ _ _ _ dh cf;subst br;obtain⟨dO,iM,jf,mc⟩:∃b,β.dP=some b∧ad=some ⟨b,β.off+0 * β.sz,none⟩∧0+mR=β.cap:=by
         rcases gI with gI|gI
         ·omega
         ·exact gI
        rw[aH]at iM;cases iM;rw[Nat.zero_mul,Nat.add_zero]at jf;subst jf;have Dj:((xs.drop j).take l).length=l:=by simp;omega
        have Q_:repE w.heap true b (β.off+j * s) s ((xs.drop j).take l) []:=by
         have h1:=cf;rw[←List.take_append_drop j xs]at h1;obtain⟨ns,mS,Di,_,cv⟩:=(repE_append _ _ _ _).1 h1;obtain⟨rfl,rfl⟩:=List.append_eq_nil_iff.1 Di.symm;rw[←List.take_append_drop l (xs.drop j)]at cv;obtain⟨ns,mS,Di,cm,_⟩:=(repE_append _ _ _ _).1 cv;obtain⟨rfl,rfl⟩:=List.append_eq_nil_iff.1 Di.symm;have:(xs.take j).length=j:=by simp;omega
         rw[this]at cm;exact cm
        have xy:(xs.drop j).take l=[]∨∃b f G,ad'=some ⟨b,f,none⟩∧repE w.heap true b f s ((xs.drop j).take l) G:=by
         rcases y2 with y2|⟨dR,l6,kY,_⟩
         ·exact .inl (List.eq_nil_of_length_eq_zero (by rw[Dj];exact y2.2.1))
         ·rw[aH]at l6;cases l6;exact .inr ⟨b,_,[],kY,by rw[tY];exact Q_⟩
        obtain⟨f_,ga,g3,jF,n2⟩:=J1 (P:=P) (c:=Q9) xy;rw[Dj]at g3;have Dk:=Q8 aL (k:=i) (ys:=(xs.drop j).take l) (us:=f_) cF eN dh aH (by rw[Dj];exact c_) ga (fun h' hs' hc=>by
         by_cases hl:(xs.drop j).take l=[]
         ·rw[hl];simp[repE]
         ·obtain⟨dR,f3,l6,kY⟩:=n2 hl;rcases y2 with y2|⟨l0,FF,Y4,_⟩
          ·exact absurd (List.eq_nil_of_length_eq_zero (by rw[Dj];exact y2.2.1)) hl
          ·rw[aH]at FF;cases FF;rw[Y4]at l6;simp only[Option.some.injEq,Addr.mk.injEq]at l6;obtain⟨rfl,rfl,_⟩:=l6;refine tU _ _ _ _ _ hs' (by simp) (fun m hm=>?_) Q_;have KM:m<f_.length:=by rw[ga];exact hm
           rw[hc m KM,←tY,kY m f_[m] (List.getElem?_eq_getElem KM),List.getElem?_eq_getElem KM])
        rw[Dj]at Dk;obtain⟨cs,md,tA,mD,vL⟩:=Dk;have uQ:i+l≤mR:=by omega
        have eF:=P2 (P:=P) (w:=w) T o.type e xM ht hi b β.off i mR cs md tA l (.slice ad' l Q9) f_ rfl (by rw[cH];exact g3 w rfl) jF uQ (by rw[cH];exact mD);rw[cH]at eF;unfold Oper.wp;have k6:(execOp a.eval o).run P w=.ok (.value (.slice (some ⟨b,β.off,none⟩) (i+l) mR)) (w.setRow b (eM cs.toList (β.off+i * s) f_).toArray):=by
         unfold execOp;rw[az];simp[resolve,invoke,builtin,bh,f2,eF]
        rw[k6,Oper.upon_value];have:=k4 vL o.dst (v:=.sl id 0 (i+l)) (u:=.slice (some ⟨b,β.off,none⟩) (i+l) mR) (by
         simp only[VRel];exact⟨{β with cS:=[]},_,mR,by simp[cZ],rfl,cd,.inr ⟨b,aH,by simp,uQ,mc⟩⟩)
        exact hk _ _ _ (CY this fun i h=>.inl h)
     ·cases ah
    ·cases ah
   ·cases ah
  ·cases ah
 ·exact h2.elim
def clrE(P:Program)(hs:List H)(T:TypeId)(x:V):Option (Prop×dS):=
 match x with
 |.sl id off len=>
  match elI P T,aN hs id with
  |some (e,sz,_),.ao s xs true=>
   match zrI P e with
   |some zs=>
    match zDs zs with
    |some ds=>if s=sz then some (fv xs=true∧off+len≤xs.length∧0<len∧ds.length=sz,⟨.ab,[],[(id,.ao s (xs.take off++(List.replicate len ds++xs.drop (off+len))) true)]⟩)else none
    |none=>none
   |none=>none
  |_,_=>none
 |_=>none
theorem X8{c:Call}{x:Operand}{T:TypeId}(az:o.op=.call c)(hc:c={callee:=.builtin .clear,args:=#[x],argTypes:=#[T]})
  (h:evg g (σ.ev x) fun a=>match clrE P σ.heap T a with|some (p,r)=>p∧K r|none=>False):∃r,fO P o g σ n r∧K r:=by
 subst hc;obtain⟨jg,h2,hx⟩:=fb h;clear h;split at h2
 ·rename_i p r ah;obtain⟨hp,bU⟩:=h2;refine⟨r,?_,bU⟩;intro σ' aR hd B w0 aG φ kp a w iC aL hg lG mQ hk;have cL:=hx _ _ _ _ hg (eW aR aL x);unfold clrE at ah;split at ah
  ·rename_i id off len;split at ah
   ·rename_i e sz fa s xs hel gA;split at ah
    ·rename_i zs n3;split at ah
     ·rename_i ds sS;split at ah
      ·rename_i hs;subst hs;simp only[Option.some.injEq,Prod.mk.injEq]at ah;obtain⟨rfl,rfl⟩:=ah;obtain⟨dh,c_,fK,mh⟩:=hp;obtain⟨xM,ht,hi,cH,xx⟩:=tX hel;obtain⟨cA,z,dn,nh,kX⟩:=y6 n3;rw[hi]at dn;cases dn;have A_:=fun h':Array Obj=>KJ (h':=h') (bl:=true) _ _ _ sS (kX φ (fun _=>True) #[]);have s3:z.cells.size=s:=by rw[←Array.length_toList,y9 _ _ _ (A_ #[]),mh]
       have eN:aN σ'.heap id=.ao s xs true:=by
        rcases aR.2 id with hh|hh
        ·rw[gA]at hh;cases hh
        ·rw[hh,gA]
       obtain⟨β,ad,mR,cF,bh,bI,cd,gI⟩:=s0 cL;obtain⟨b,iM,jf,mc⟩:∃b,β.dP=some b∧ad=some ⟨b,β.off+off * β.sz,none⟩∧off+mR=β.cap:=by
        rcases gI with gI|gI
        ·omega
        ·exact gI
       have tY:β.sz=s:=by
        rcases aL.hp id with fY|⟨a7,ai,hr⟩
        ·rw[eN]at fY;cases fY
        ·rw[cF]at ai;cases ai;rw[eN]at hr;simp only[dG]at hr;exact hr.1
       rw[tY]at jf;subst jf;have ja:(List.replicate len ds).length=len:=List.length_replicate;have Ge:(Builtin.zeroCells z.cells len).toList.length=len * s:=by rw[Array.length_toList,size_zeroCells,s3]
       have aN:∀m j,m<len→j<s→(Builtin.zeroCells z.cells len).toList[m * s+j]?=z.cells[j]?:=by
        intro m j hm av;have hlt:m * s+j<len * s:=by
         have:(m+1) * s≤len * s:=Nat.mul_le_mul_right _ hm;rw[Nat.add_mul]at this;omega
        have KL:(m * s+j) % s=j:=by rw[Nat.mul_comm,Nat.mul_add_mod,Nat.mod_eq_of_lt av]
        have k3:j<z.cells.size:=by rw[s3];exact av
        have Y5:m * s+j<len * z.cells.size:=by rw[s3];exact hlt
        unfold Builtin.zeroCells;rw[Array.getElem?_toList,Array.getElem?_map,Array.getElem?_range,if_pos Y5];simp only[Option.map_some,s3,KL];rw[getElem!_pos z.cells j k3,Array.getElem?_eq_getElem k3]
       have Dk:=Q8 aL (k:=off) (ys:=List.replicate len ds) (us:=(Builtin.zeroCells z.cells len).toList) cF eN dh iM (by rw[ja];exact c_) (by rw[ja];exact Ge) (fun h' hs' hc=>by
        refine KK mh len _ fun m hm=>y_ ds z.cells.toList _ [] (A_ _) fun j u av=>?_;have wj:j<s:=by
         rw[←s3];rcases Nat.lt_or_ge j z.cells.size with h|h
         ·exact h
         ·rw[List.getElem?_eq_none (by simpa using h)]at av;cases av
        have hlt:m * s+j<(Builtin.zeroCells z.cells len).toList.length:=by
         rw[Ge];have:(m+1) * s≤len * s:=Nat.mul_le_mul_right _ hm;rw[Nat.add_mul]at this;omega
        have:=hc _ hlt;rw[aN m j hm wj]at this;rw[Nat.add_assoc (β.off+off * s),this,←Array.getElem?_toList];exact av)
       rw[ja]at Dk;obtain⟨cs,md,tA,mD,vL⟩:=Dk;have Y6:∀v∈(Builtin.zeroCells z.cells len).toList,v.oneCell'=true:=by
        intro v hv;obtain⟨t,kx,rfl⟩:=List.getElem_of_mem hv;have s_:0<s:=by
         rcases Nat.eq_zero_or_pos s with h|h
         ·rw[Ge,h,Nat.mul_zero]at kx;omega
         ·exact h
        have h1:t=(t / s) * s+t % s:=by rw[Nat.mul_comm];exact(Nat.div_add_mod t s).symm
        have h2:t / s<len:=Nat.div_lt_of_lt_mul (by rw[Nat.mul_comm,←Ge];exact kx);have ak:=aN (t / s) (t % s) h2 (Nat.mod_lt _ s_);rw[←h1,List.getElem?_eq_getElem kx]at ak;have k3:t % s<z.cells.toList.length:=by rw[Array.length_toList,s3];exact Nat.mod_lt _ s_
        rw[←Array.getElem?_toList,List.getElem?_eq_getElem k3]at ak;rw[Option.some.inj ak];have Y7:repC #[.cells z.cells 0 (0,0)] true 0 0 ds []:=y_ ds z.cells.toList 0 [] (A_ _) fun j u av=>by
         simp[cellAt];rw[Array.getElem?_toList]at av;exact av
        obtain⟨us,k1,k2⟩:=JY ds 0 [] Y7;have Q':t % s<us.length:=by rw[k1,mh];exact Nat.mod_lt _ s_
        have:=k2.1 (t % s) us[t % s] (List.getElem?_eq_getElem Q');obtain⟨AN,_,dw⟩:=k2.2 (t % s) ds[t % s] us[t % s] (List.getElem?_eq_getElem (by rw[mh];exact Nat.mod_lt _ s_)) (List.getElem?_eq_getElem Q');have hz:z.cells.toList[t % s]=us[t % s]:=by
         have aC:=this;simp[cellAt]at aC;have bL:z.cells.toList[t % s]?=some us[t % s]:=by rw[Array.getElem?_toList];exact aC
         rw[List.getElem?_eq_getElem k3]at bL;exact Option.some.inj bL
        rw[hz];exact JZ dw
       have cD:=run_storeCells_at P b (β.off+off * s) md (Builtin.zeroCells z.cells len).toList 0 cs w tA (by simpa using mD) Y6;simp only[Nat.add_zero,List.append_assoc]at cD;unfold Oper.wp;have k6:(execOp a.eval o).run P w=.ok (.value (.tuple #[])) (w.setRow b (eM cs.toList (β.off+off * s) (Builtin.zeroCells z.cells len).toList).toArray):=by
        unfold execOp;rw[az];obtain⟨m,rfl⟩:∃m,len=m+1:=⟨len-1,by omega⟩;simp[resolve,invoke,builtin,bh,Builtin.clear_,run_underlying ht,zeroValue,typeInfo,hi,nh,cD,eM]
       rw[k6,Oper.upon_value];have:=k4 vL o.dst (v:=.ab) (u:=.tuple #[]) (by simp only[VRel]);exact hk _ _ _ (CY this fun i h=>.inl h)
      ·cases ah
     ·cases ah
    ·cases ah
   ·cases ah
  ·cases ah
 ·exact h2.elim
def AU(P:Program)(hs:List H)(T:TypeId)(x y:V)(n:Nat):Option (Prop×dS):=
 match inE P hs T x y with
 |some r=>some r
 |none=>apE P hs T x y n
theorem Ra{g:Bool}{v:V}{K:V→Prop}(h:evg g v K):∃eO,K eO∧∀fp:V→Prop,fp eO→evg g v fp:=by
 unfold evg at h⊢;split at h
 ·exact⟨_,h.2,fun fp h'=>⟨h.1,h'⟩⟩
 ·exact⟨_,h,fun fp h'=>h'⟩
theorem X7{c:Call}{x y:Operand}{T:TypeId}(az:o.op=.call c)(hc:c={callee:=.builtin .append,args:=#[x,y],argTypes:=#[T,T]})
  (h:evg g (σ.ev x) fun a=>evg g (σ.ev y) fun b=>match AU P σ.heap T a b n with|some (p,r)=>p∧K r|none=>False):∃r,fO P o g σ n r∧K r:=by
 obtain⟨a,h1,ha⟩:=Ra h;obtain⟨b,h2,hb⟩:=Ra h1
 cases hi:inE P σ.heap T a b with
 |none=>
  refine ok_append az hc (ha _ (hb _ ?_));unfold AU at h2;rw[hi]at h2;exact h2
 |some r=>
  refine ok_inplace az hc (ha _ (hb _ ?_));unfold AU at h2;rw[hi]at h2;rw[hi];exact h2
inductive AD where
 |one (d:D)
 |agg (ds:List D)
def CO(h:Array Obj)(o:Bool):AD→Value→List Nat→Prop
 |.one d,u,F=>rep h o d u F
 |.agg ds,u,F=>∃us:Array Value,u=.agg us∧reps h o ds us.toList F
def areps(h:Array Obj)(o:Bool):List AD→List Value→List Nat→Prop
 |[],us,F=>us=[]∧F=[]
 |a::as,us,F=>∃u bY g4 gb,us=u::bY∧F=g4++gb∧CO h o a u g4∧areps h o as bY gb
def trep(h:Array Obj)(o:Bool)(rs:List AD)(v:Value)(F:List Nat):Prop:=
 match rs with
 |[r]=>CO h o r v F
 |rs=>∃us:Array Value,v=.tuple us∧areps h o rs us.toList F
def Does(P:Program)(f:FuncId)(us:Array Value)(w:World)(R:Value→World→Prop):Prop:=
 match(callFunc f us).run P w with
 |.ok (.enter g as) w'=>Calls P g as w' fun e Qa=>match e with|.returned v=>R v Qa|_=>False
 |.ok (.value v) w'=>R v w'
 |.ok (.row row as) w'=>Rows P row as w' R
 |_=>False
theorem Does.mono{P:Program}{f:FuncId}{us:Array Value}{w:World}{R Qb:Value→World→Prop}(h:Does P f us w R)(hr:∀v w',R v w'→Qb v w'):Does P f us w Qb:=by
 unfold Does at *;split at h
 ·exact Calls.mono h fun e Qa he=>by cases e<;>first|exact hr _ _ he|exact he.elim
 ·exact hr _ _ h
 ·exact Rows.mono h hr
 ·exact h.elim
theorem Does.enter{P:Program}{f:FuncId}{us:Array Value}{w:World}{R:Value→World→Prop}(eF:(callFunc f us).run P w=.ok (.enter f us) w)
  (h:Calls P f us w fun e w'=>match e with|.returned v=>R v w'|_=>False):Does P f us w R:=by
 unfold Does;rw[eF];exact h
def PureCall(P:Program)(f:FuncId)(args res:List AD):Prop:=
 ∀(w:World) (us:List Value) (F:List Nat),GOk w.heap→areps w.heap false args us F→Does P f us.toArray w fun v w'=>
  ∃F',Bel (fun b=>w.heap.size≤b) w w'∧trep w'.heap true res v F'∧F'.Nodup∧∀b∈F',w.heap.size≤b
def clnOf(hs:List H)(id off len:Nat):Option (Nat×List (List D)):=
 match aN hs id with
 |.ag sz xs=>if off+len≤xs.length then some (sz,(xs.drop off).take len)else none
 |_=>elsOf hs (.sl id off len)
def toRD(hs:List H)(v:V):Option D:=
 match v with
 |.d x=>some x
 |.c6 s=>some (.sl s [])
 |.sl id off len=>match clnOf hs id off len with|some (sz,xs)=>some (.sl sz xs)|none=>none
 |_=>none
def toRDs(hs:List H):List V→Option (List D)
 |[]=>some []
 |v::vs=>match toRD hs v,toRDs hs vs with|some d,some ds=>some (d::ds)|_,_=>none
def toAD(hs:List H)(v:V):Option AD:=
 match v with
 |.agg vs=>(toRDs hs vs).map .agg
 |v=>(toRD hs v).map .one
def toADs(hs:List H):List V→Option (List AD)
 |[]=>some []
 |v::vs=>match toAD hs v,toADs hs vs with|some d,some ds=>some (d::ds)|_,_=>none
section
variable {B:Nat→Prop} {w0:World} {aG:Nat→Prop} {φ:b2} {kp:List (V×Value)} {a:Act} {w:World} {σ σ':St}
theorem Qc(aR:σ.le σ')(r:R B w0 aG φ σ' kp a w){v:V}{d:D}(h:toRD σ.heap v=some d){u:Value}(eE:VRel φ (b8 φ σ'.heap) w.heap v u):∃F,rep w.heap false d u F:=by
 unfold toRD at h;split at h
 ·cases h
  simp only[VRel]at eE;obtain⟨F,aH,_⟩:=eE;exact⟨F,aH⟩
 ·cases h
  simp only[VRel]at eE;subst eE;exact⟨[],none,0,rfl,by simp,by decide,.inl ⟨rfl,rfl,fun e=>by cases e⟩⟩
 ·rename_i id off len;split at h
  ·rename_i sz xs hel
   cases h
   unfold clnOf at hel;split at hel
   ·rename_i f' ys hx;split at hel
    ·rename_i hl;simp only[Option.some.injEq,Prod.mk.injEq]at hel;obtain⟨rfl,rfl⟩:=hel;have eN:aN σ'.heap id=.ag f' ys:=by
      rcases aR.2 id with hh|hh
      ·rw[hx]at hh;cases hh
      ·rw[hh,hx]
     obtain⟨F,d4,_⟩:=J9 r (id:=id) (by rw[eN];rfl) hl eE;exact⟨F,Qd _ _ _ d4⟩
    ·cases hel
   obtain⟨ad,c,ai,aj,aT,bj⟩:=FH aR r hel eE;simp only[rep];rcases bj with bj|⟨b,f,G,bj,cr,iU,mf⟩
   ·exact⟨[],ad,c,ai,aj,aT,.inl ⟨bj,rfl,fun e=>by cases e⟩⟩
   ·exact⟨b::G,ad,c,ai,aj,aT,.inr ⟨b,f,G,bj,rfl,cr,iU,fun e=>by cases e⟩⟩
  ·cases h
 ·cases h
theorem Qe(aR:σ.le σ')(r:R B w0 aG φ σ' kp a w):∀(vs:List V) (ds:List D) (us:List Value),toRDs σ.heap vs=some ds→VRels φ (b8 φ σ'.heap) w.heap vs us→∃F,reps w.heap false ds us F
 |[],ds,us,h,eE=>by
  simp only[toRDs,Option.some.injEq]at h;subst h;simp only[VRels]at eE;subst eE;exact⟨[],rfl,rfl⟩
 |v::vs,ds,us,h,eE=>by
  simp only[VRels]at eE;obtain⟨u,bY,rfl,aH,aZ⟩:=eE;simp only[toRDs]at h;split at h
  ·rename_i d nq ai aj
   cases h
   obtain⟨g4,d4⟩:=Qc aR r ai aH;obtain⟨gb,fD⟩:=Qe aR r vs nq bY aj aZ;exact⟨g4++gb,u,bY,g4,gb,rfl,rfl,d4,fD⟩
  ·cases h
theorem X1(aR:σ.le σ')(r:R B w0 aG φ σ' kp a w){v:V}{d:AD}(h:toAD σ.heap v=some d){u:Value}(eE:VRel φ (b8 φ σ'.heap) w.heap v u):∃F,CO w.heap false d u F:=by
 unfold toAD at h;split at h
 ·rename_i vs
  cases hd:toRDs σ.heap vs with
  |none=>rw[hd]at h;cases h
  |some ds=>
   rw[hd]at h;cases h;obtain⟨us,rfl,aH⟩:=CP eE;obtain⟨F,f⟩:=Qe aR r vs ds _ hd aH;exact⟨F,us,rfl,f⟩
 ·cases hd:toRD σ.heap v with
  |none=>rw[hd]at h;cases h
  |some x=>
   rw[hd]at h;cases h;exact Qc aR r hd eE
theorem FU(aR:σ.le σ')(r:R B w0 aG φ σ' kp a w):∀(vs:List V) (ds:List AD) (us:List Value),toADs σ.heap vs=some ds→VRels φ (b8 φ σ'.heap) w.heap vs us→∃F,areps w.heap false ds us F
 |[],ds,us,h,eE=>by
  simp only[toADs,Option.some.injEq]at h;subst h;simp only[VRels]at eE;subst eE;exact⟨[],rfl,rfl⟩
 |v::vs,ds,us,h,eE=>by
  simp only[VRels]at eE;obtain⟨u,bY,rfl,aH,aZ⟩:=eE;simp only[toADs]at h;split at h
  ·rename_i d nq ai aj
   cases h
   obtain⟨g4,d4⟩:=X1 aR r ai aH;obtain⟨gb,fD⟩:=FU aR r vs nq bY aj aZ;exact⟨g4++gb,u,bY,g4,gb,rfl,rfl,d4,fD⟩
  ·cases h
end
def rV(d:D)(n:Nat):V:=match d with|.sl _ xs=>.sl n 0 xs.length|d=>.d d
def uW(d:D):List H:=match d with|.sl sz xs=>[.ao sz xs true]|_=>[]
def rVs:List D→Nat→List V
 |[],_=>[]
 |d::ds,n=>rV d n::rVs ds (n+(uW d).length)
def rHs:List D→List H
 |[]=>[]
 |d::ds=>uW d++rHs ds
def CQ:AD→Nat→V
 |.one d,n=>rV d n
 |.agg ds,n=>.agg (rVs ds n)
def CR:AD→List H
 |.one d=>uW d
 |.agg ds=>rHs ds
def aVs:List AD→Nat→List V
 |[],_=>[]
 |d::ds,n=>CQ d n::aVs ds (n+(CR d).length)
def aHs:List AD→List H
 |[]=>[]
 |d::ds=>CR d++aHs ds
def lH(rs:List AD)(n:Nat):V:=match rs with|[r]=>CQ r n|rs=>.dB (aVs rs n)
def kf(β:fU):List Nat:=β.dP.toList++β.cS
def tZ(h:Array Obj)(bl:List fU)(hs:List H)(F:List Nat):Prop:=
 bl.length=hs.length∧bl.flatMap kf=F∧(∀(i:Nat) (β:fU) (x:H),bl[i]?=some β→hs[i]?=some x→∀φ T,dG φ T h β x)∧∀x∈hs,∃sz xs,x=.ao sz xs true
def n4(φ:b2)(n:Nat)(bl:List fU):Prop:=∀(i:Nat) (β:fU),bl[i]?=some β→φ (n+i)=some β
theorem tZ.append{h:Array Obj}{dF dO:List fU}{h1 h2:List H}{g4 gb:List Nat}(gH:tZ h dF h1 g4)(gR:tZ h dO h2 gb):tZ h (dF++dO) (h1++h2) (g4++gb):=by
 obtain⟨b5,cv,cm,dY⟩:=gH;obtain⟨dv,dD,jz,nU⟩:=gR;refine⟨by simp[b5,dv],by simp[cv,dD],fun i β x ai aj=>?_,fun x hx=>?_⟩
 ·rw[List.getElem?_append]at ai aj;by_cases hi:i<dF.length
  ·rw[if_pos hi]at ai;rw[if_pos (b5▸hi)]at aj;exact cm i β x ai aj
  ·rw[if_neg hi]at ai;rw[if_neg (b5▸hi),←b5]at aj;exact jz _ β x ai aj
 ·rcases List.mem_append.1 hx with hx|hx
  ·exact dY x hx
  ·exact nU x hx
theorem n4.left{φ:b2}{n:Nat}{dF dO:List fU}(h:n4 φ n (dF++dO)):n4 φ n dF:=fun i β e=>h i β (by
 rw[List.getElem?_append_left (by
  rcases Nat.lt_or_ge i dF.length with h|h
  ·exact h
  ·rw[List.getElem?_eq_none h]at e;cases e)];exact e)
theorem n4.right{φ:b2}{n:Nat}{dF dO:List fU}(h:n4 φ n (dF++dO)):n4 φ (n+dF.length) dO:=fun i β e=>by
 rw[Nat.add_assoc];exact h (dF.length+i) β (by rw[List.getElem?_append_right (by omega),Nat.add_sub_cancel_left];exact e)
theorem Qf{h:Array Obj}{d:D}{u:Value}{F:List Nat}(r:rep h true d u F):∃bl,tZ h bl (uW d) F∧∀φ n T,n4 φ n bl→VRel φ T h (rV d n) u:=by
 cases d with
 |sl sz xs=>
  simp only[rep]at r;obtain⟨ad,c,rfl,h2,ak,aC⟩:=r;rcases aC with ⟨rfl,rfl,aC⟩|⟨b,f,G,rfl,rfl,bL,eD,l5⟩
  ·refine⟨[⟨none,0,0,sz,[]⟩],⟨rfl,rfl,fun i β x ai aj φ T=>?_,by simp[uW]⟩,fun φ n T hA=>?_⟩
   ·cases i with
    |zero=>
     simp[uW]at ai aj;subst ai;subst aj;simp[dG]
    |succ i=>simp at ai
   ·simp only[rV,VRel];exact⟨_,ad,c,hA 0 _ rfl,rfl,ak,.inl ⟨aC trivial,rfl,rfl⟩⟩
  ·refine⟨[⟨some b,f,c,sz,G⟩],⟨rfl,by simp[kf],fun i β x ai aj φ T=>?_,by simp[uW]⟩,fun φ n T hA=>?_⟩
   ·cases i with
    |zero=>
     simp[uW]at ai aj;subst ai;subst aj;simp only[dG];exact⟨trivial,.inr ⟨b,G,rfl,h2,(l5 trivial).2,eD,fun _=>rfl,fun h=>by cases h⟩⟩
    |succ i=>simp at ai
   ·simp only[rV,VRel];exact⟨_,_,c,hA 0 _ rfl,rfl,ak,.inr ⟨b,rfl,by simp,h2,by simp⟩⟩
 |_=>
  have bV:=CS rfl r;subst bV;refine⟨[],⟨rfl,rfl,by simp,by simp[uW]⟩,fun φ n T _=>?_⟩;simp only[rV,VRel];exact⟨[],FV rfl r,by simp⟩
theorem J_{h:Array Obj}:∀(ds:List D) (us:List Value) (F:List Nat),reps h true ds us F→∃bl,tZ h bl (rHs ds) F∧∀φ n T,n4 φ n bl→VRels φ T h (rVs ds n) us
 |[],us,F,r=>by
  simp only[reps]at r;obtain⟨rfl,rfl⟩:=r;exact⟨[],⟨rfl,rfl,by simp,by simp[rHs]⟩,fun _ _ _ _=>by simp[rVs,VRels]⟩
 |d::ds,us,F,r=>by
  simp only[reps]at r;obtain⟨u,bY,g4,gb,rfl,rfl,aH,aZ⟩:=r;obtain⟨dF,gH,l6⟩:=Qf aH;obtain⟨dO,gR,kY⟩:=J_ ds bY gb aZ;refine⟨dF++dO,gH.append gR,fun φ n T hA=>?_⟩;simp only[rVs,VRels];refine⟨u,bY,rfl,l6 φ n T hA.left,kY φ _ T ?_⟩;rw[←gH.1];exact hA.right
theorem Qg{h:Array Obj}{d:AD}{u:Value}{F:List Nat}(r:CO h true d u F):∃bl,tZ h bl (CR d) F∧∀φ n T,n4 φ n bl→VRel φ T h (CQ d n) u:=by
 cases d with
 |one d=>exact Qf r
 |agg ds=>
  obtain⟨us,rfl,r⟩:=r;obtain⟨bl,l,v⟩:=J_ ds _ F r;refine⟨bl,l,fun φ n T hA=>?_⟩;simp only[CQ,VRel];exact⟨us,rfl,v φ n T hA⟩
theorem Qh{h:Array Obj}:∀(ds:List AD) (us:List Value) (F:List Nat),areps h true ds us F→∃bl,tZ h bl (aHs ds) F∧∀φ n T,n4 φ n bl→VRels φ T h (aVs ds n) us
 |[],us,F,r=>by
  simp only[areps]at r;obtain⟨rfl,rfl⟩:=r;exact⟨[],⟨rfl,rfl,by simp,by simp[aHs]⟩,fun _ _ _ _=>by simp[aVs,VRels]⟩
 |d::ds,us,F,r=>by
  simp only[areps]at r;obtain⟨u,bY,g4,gb,rfl,rfl,aH,aZ⟩:=r;obtain⟨dF,gH,l6⟩:=Qg aH;obtain⟨dO,gR,kY⟩:=Qh ds bY gb aZ;refine⟨dF++dO,gH.append gR,fun φ n T hA=>?_⟩;simp only[aVs,VRels];refine⟨u,bY,rfl,l6 φ n T hA.left,kY φ _ T ?_⟩;rw[←gH.1];exact hA.right
theorem J'{h:Array Obj}{rs:List AD}{u:Value}{F:List Nat}(r:trep h true rs u F):∃bl,tZ h bl (aHs rs) F∧∀φ n T,n4 φ n bl→VRel φ T h (lH rs n) u:=by
 unfold trep at r;split at r
 ·rename_i x;obtain⟨bl,l,v⟩:=Qg r;exact⟨bl,by simpa [aHs]using l,fun φ n T hA=>v φ n T hA⟩
 ·rename_i hne;obtain⟨us,rfl,r⟩:=r;obtain⟨bl,l,v⟩:=Qh _ _ F r;refine⟨bl,l,fun φ n T hA=>?_⟩;have:lH rs n=.dB (aVs rs n):=by unfold lH;split<;>first|rfl|(rename_i y;exact absurd rfl (hne y))
  rw[this];simp only[VRel];exact⟨us,rfl,v φ n T hA⟩
def H.toCln:H→H
 |.ao sz xs true=>.ag sz xs
 |x=>x
theorem tZ.ag{h:Array Obj}{bl:List fU}{hs:List H}{F:List Nat}(l:tZ h bl hs F):bl.length=(hs.map H.toCln).length∧bl.flatMap kf=F∧(∀(i:Nat) (β:fU) (x:H),bl[i]?=some β→(hs.map H.toCln)[i]?=some x→∀φ T,dG φ T h β x):=by
 obtain⟨gH,gR,tP,_⟩:=l;refine⟨by simp[gH],gR,fun i β x ai aj φ T=>?_⟩;rw[List.getElem?_map]at aj
 cases hx:hs[i]? with
 |none=>rw[hx]at aj;cases aj
 |some y=>
  rw[hx]at aj;simp only[Option.map_some,Option.some.injEq]at aj;subst aj;have:=tP i β y ai hx φ T;unfold H.toCln;split
  ·rename_i sz xs;have:=Ka (x:=.ao sz xs true) rfl this;simpa only[dG]using this
  ·exact this
theorem Qi{F:List Nat}:∀(bl:List fU),bl.flatMap kf=F→F.Nodup→∀(i j:Nat) (β xA:fU) (b:Nat),bl[i]?=some β→bl[j]?=some xA→b∈kf β→b∈kf xA→i=j:=by
 intro bl
 induction bl generalizing F with
 |nil=>intro _ _ i j β xA b e;simp at e
 |cons x xs dx=>
  intro e hn i j β xA b ai aj h1 h2;subst e;rw[List.flatMap_cons,List.nodup_append]at hn;have v5:∀(k:Nat) (FW:fU),xs[k]?=some FW→b∈kf FW→b∈xs.flatMap kf:=fun k FW hk hb=>List.mem_flatMap.2 ⟨FW,List.mem_of_getElem? hk,hb⟩
  cases i with
  |zero=>
   cases j with
   |zero=>rfl
   |succ j=>
    simp at ai aj;subst ai;exact absurd rfl (hn.2.2 b h1 b (v5 j xA aj h2))
  |succ i=>
   cases j with
   |zero=>
    simp at ai aj;subst aj;exact absurd rfl (hn.2.2 b h2 b (v5 i β ai h1))
   |succ j=>
    simp at ai aj;rw[dx rfl hn.2.1 i j β xA b ai aj h1 h2]
theorem Qj{F:List Nat}:∀(bl:List fU),bl.flatMap kf=F→F.Nodup→∀β∈bl,(kf β).Nodup:=by
 intro bl
 induction bl generalizing F with
 |nil=>simp
 |cons x xs dx=>
  intro e hn β hb;subst e;rw[List.flatMap_cons,List.nodup_append]at hn;rcases List.mem_cons.1 hb with rfl|hb
  ·exact hn.1
  ·exact dx rfl hn.2.1 β hb
section
variable {B:Nat→Prop} {w0:World} {aG:Nat→Prop} {φ:b2} {kp:List (V×Value)} {a:Act} {w:World} {σ:St}
theorem Kb(r:R B w0 aG φ σ kp a w){n:Nat}{bl:List fU}{hs:List H}{F:List Nat}{w':World}(hn:∀i,n≤i→i<n+hs.length→¬aG i)
  (hb:Bel (fun b=>w.heap.size≤b) w w') (hl:bl.length=hs.length∧bl.flatMap kf=F∧(∀(i:Nat) (β:fU) (x:H),bl[i]?=some β→hs[i]?=some x→∀φ T,dG φ T w'.heap β x)) (hnd:F.Nodup) (hnew:∀b∈F,w.heap.size≤b) :
  ∃cu,n4 cu n bl∧R B w0 (fun i=>aG i∨(n≤i∧i<n+hs.length)) cu ⟨σ.tmps,Gv.hnew σ.heap n hs⟩ kp a w':=by
 obtain⟨gH,gR,tP⟩:=hl;have AS:∀i,n≤i→i<n+hs.length→φ i=none:=fun i h1 h2=>by
  cases h:φ i with
  |none=>rfl
  |some β=>exact absurd (r.f1 i β h) (hn i h1 h2)
 let cu:b2:=fun i=>if n≤i∧i<n+hs.length then bl[i-n]? else φ i
 have hin:∀i,n≤i∧i<n+hs.length→cu i=bl[i-n]?:=fun i h=>if_pos h;have lI:∀i,¬(n≤i∧i<n+hs.length)→cu i=φ i:=fun i h=>if_neg h;have X2:∀i,n≤i∧i<n+hs.length→∃x,hs[i-n]?=some x∧aN (Gv.hnew σ.heap n hs) i=x:=by
  intro i h;have hlt:i-n<hs.length:=by omega
  refine⟨hs[i-n],List.getElem?_eq_getElem hlt,?_⟩;rw[yY,if_pos h,List.getD_eq_getElem?_getD,List.getElem?_eq_getElem hlt];rfl
 have X3:∀i,¬(n≤i∧i<n+hs.length)→aN (Gv.hnew σ.heap n hs) i=aN σ.heap i:=fun i h=>by rw[yY,if_neg h]
 have iE:∀i,n≤i∧i<n+hs.length→∀b,cN cu (Gv.hnew σ.heap n hs) i b→∃β,bl[i-n]?=some β∧b∈kf β:=by
  rintro i h b ⟨β,ai,aj⟩;rw[hin i h]at ai;refine⟨β,ai,?_⟩;unfold kf;rcases aj with ⟨_,aj⟩|⟨_,aj⟩
  ·simp[aj]
  ·simp[aj]
 have Qk:∀(i:Nat) (β:fU) (b:Nat),bl[i]?=some β→b∈kf β→w.heap.size≤b:=fun i β b h1 h2=>hnew b (by rw[←gR];exact List.mem_flatMap.2 ⟨β,List.mem_of_getElem? h1,h2⟩);refine⟨cu,fun i β hi=>?_,v7 r (fun i=>n≤i∧i<n+hs.length) _ cu _ w' (fun i hi=>⟨X3 i hi,lI i hi⟩) (fun i β hi=>?_) hb.size (fun b et _=>hb.block b (by omega)) (fun i hi b az=>?_) (fun i hi a7 h1 b h2=>?_)
  (fun i j b hi av h1 h2=>?_) (fun i β hi h1 _=>?_) (fun i hi=>?_) (fun i β hi=>?_) (r.fg.trans (hb.mono fun k hk=>r.bs k hk))⟩
 ·have hlt:i<bl.length:=by
   rcases Nat.lt_or_ge i bl.length with h|h
   ·exact h
   ·rw[List.getElem?_eq_none h]at hi;cases hi
  rw[hin (n+i) ⟨by omega,by omega⟩,Nat.add_sub_cancel_left];exact hi
 ·by_cases h:n≤i∧i<n+hs.length
  ·rw[AS i h.1 h.2]at hi;cases hi
  ·exact⟨β,by rw[lI i h];exact hi,rfl,rfl,rfl,rfl⟩
 ·obtain⟨β,ai,aj⟩:=iE i hi b az;exact .inl (Qk _ β b ai aj)
 ·rw[hin i hi]at h1;refine .inl (Qk _ a7 b h1 ?_);unfold kf;rcases h2 with ⟨_,h2⟩|⟨_,h2⟩<;>simp[h2]
 ·obtain⟨β,ai,aj⟩:=iE i hi b h1;obtain⟨xA,d4,fD⟩:=iE j av b h2;have:=Qi bl gR hnd _ _ β xA b ai d4 aj fD;omega
 ·rw[hin i hi]at h1;have:=Qj bl gR hnd β (List.mem_of_getElem? h1);unfold kf at this;rw[List.nodup_append]at this;refine⟨this.2.1,fun b et jt=>this.2.2 b (by simp[et]) b jt rfl⟩
 ·right;obtain⟨x,h1,h2⟩:=X2 i hi;have hlt:i-n<bl.length:=by omega
  refine⟨bl[i-n],by rw[hin i hi];exact List.getElem?_eq_getElem hlt,?_⟩;rw[h2];exact tP _ _ _ (List.getElem?_eq_getElem hlt) h1 _ _
 ·by_cases h:n≤i∧i<n+hs.length
  ·exact .inr h
  ·rw[lI i h]at hi;exact .inl (r.f1 i β hi)
end
variable {P:Program} {o:Oper} {g:Bool} {σ:St} {n:Nat} {K:dS→Prop}
theorem Kc{c:Call}{f:FuncId}{xs:Array Operand}{ts:Array TypeId}(az:o.op=.call c){x:Operand}(hc:c={callee:=.value x,args:=xs,argTypes:=ts})(hf:∀{σ':St} {B:Nat→Prop} {w0:World} {aG:Nat→Prop} {φ:b2} {kp:List (V×Value)} {a:Act} {w:World},σ.le σ'→R B w0 aG φ σ' kp a w→g=true→a.eval x=.func (.func f) #[] #[])
  {vs:List V} (hx:∀{σ':St} {B:Nat→Prop} {w0:World} {aG:Nat→Prop} {φ:b2} {kp:List (V×Value)} {a:Act} {w:World},σ.le σ'→R B w0 aG φ σ' kp a w→g=true→VRels φ (b8 φ σ'.heap) w.heap vs (xs.toList.map a.eval))
  {as rs:List AD} (ah:toADs σ.heap vs=some as) (Kd:PureCall P f as rs) (bU:K ⟨lH rs n,aHs rs,[]⟩):∃r,fO P o g σ n r∧K r:=by
 subst hc;refine⟨_,?_,bU⟩;intro σ' aR _ B w0 aG φ kp a w iC aL hg lG mQ hk;have hv:=hx aR aL hg;obtain⟨F,bV⟩:=FU aR aL vs as _ ah hv;have hcall:=Kd w _ F aL.Ke bV;unfold Oper.wp;have eF:(execOp a.eval o).run P w=(callFunc f (xs.map a.eval)).run P w:=by
  unfold execOp;rw[az];have Kf:=hf aR aL hg;simp[resolve,Kf,Deferred.ofValue,invoke]
 rw[eF];have kQ:(xs.toList.map a.eval).toArray=xs.map a.eval:=by rw[←Array.toList_map,Array.toArray_toList]
 rw[kQ]at hcall;have ba:∀v w',(∃F',Bel (fun b=>w.heap.size≤b) w w'∧trep w'.heap true rs v F'∧F'.Nodup∧∀b∈F',w.heap.size≤b)→lG (a.put o.dst v) w':=by
  rintro v w' ⟨F',ai,aj,aT,bj⟩;obtain⟨bl,gH,gR⟩:=J' aj;obtain⟨cu,hA,dV⟩:=Kb aL iC ai ⟨gH.1,gH.2.1,gH.2.2.1⟩ aT bj;exact hk v w' cu (k4 dV o.dst (gR cu n _ hA))
 unfold Does at hcall;split at hcall
 ·rename_i h1;rw[h1,Oper.upon_enter];refine Calls.mono hcall fun e w' he=>?_
  cases e with
  |returned v=>exact ba v w' he
  |panicked c=>exact he.elim
  |outgrown=>exact he.elim
 ·rename_i h1;rw[h1,Oper.upon_value];exact ba _ _ hcall
 ·rename_i h1;rw[h1,Oper.upon_row];exact Rows.mono hcall ba
 ·exact hcall.elim
theorem FX{c:Call}{f:FuncId}{xs:Array Operand}{ts:Array TypeId}(az:o.op=.call c){x:Operand}(hc:c={callee:=.value x,args:=xs,argTypes:=ts})(hf:∀{σ':St} {B:Nat→Prop} {w0:World} {aG:Nat→Prop} {φ:b2} {kp:List (V×Value)} {a:Act} {w:World},σ.le σ'→R B w0 aG φ σ' kp a w→g=true→a.eval x=.func (.func f) #[] #[])
  {vs:List V} (hx:∀{σ':St} {B:Nat→Prop} {w0:World} {aG:Nat→Prop} {φ:b2} {kp:List (V×Value)} {a:Act} {w:World},σ.le σ'→R B w0 aG φ σ' kp a w→g=true→VRels φ (b8 φ σ'.heap) w.heap vs (xs.toList.map a.eval))
  {as rs:List AD} (ah:toADs σ.heap vs=some as) (Kd:PureCall P f as rs) (bU:K ⟨lH rs n,(aHs rs).map H.toCln,[]⟩):∃r,fO P o g σ n r∧K r:=by
 subst hc;refine⟨_,?_,bU⟩;intro σ' aR _ B w0 aG φ kp a w iC aL hg lG mQ hk;have hv:=hx aR aL hg;obtain⟨F,bV⟩:=FU aR aL vs as _ ah hv;have hcall:=Kd w _ F aL.Ke bV;unfold Oper.wp;have eF:(execOp a.eval o).run P w=(callFunc f (xs.map a.eval)).run P w:=by
  unfold execOp;rw[az];have Kf:=hf aR aL hg;simp[resolve,Kf,Deferred.ofValue,invoke]
 rw[eF];have kQ:(xs.toList.map a.eval).toArray=xs.map a.eval:=by rw[←Array.toList_map,Array.toArray_toList]
 rw[kQ]at hcall;have ba:∀v w',(∃F',Bel (fun b=>w.heap.size≤b) w w'∧trep w'.heap true rs v F'∧F'.Nodup∧∀b∈F',w.heap.size≤b)→lG (a.put o.dst v) w':=by
  rintro v w' ⟨F',ai,aj,aT,bj⟩;obtain⟨bl,gH,gR⟩:=J' aj;obtain⟨cu,hA,dV⟩:=Kb aL iC ai gH.ag aT bj;exact hk v w' cu (k4 dV o.dst (gR cu n _ hA))
 unfold Does at hcall;split at hcall
 ·rename_i h1;rw[h1,Oper.upon_enter];refine Calls.mono hcall fun e w' he=>?_
  cases e with
  |returned v=>exact ba v w' he
  |panicked c=>exact he.elim
  |outgrown=>exact he.elim
 ·rename_i h1;rw[h1,Oper.upon_value];exact ba _ _ hcall
 ·rename_i h1;rw[h1,Oper.upon_row];exact Rows.mono hcall ba
 ·exact hcall.elim
def toX(hs:List H)(v:V):Option (D×List Nat):=
 match v with
 |.sl id off len=>match aN hs id with|.ag sz xs=>if off+len≤xs.length then some (.sl sz ((xs.drop off).take len),[id])else none|_=>toD hs (.sl id off len)
 |v=>toD hs v
def toXs(hs:List H):List V→Option (List D×List Nat)
 |[]=>some ([],[])
 |v::vs=>match toX hs v,toXs hs vs with|some (d,i),some (ds,is)=>some (d::ds,i++is)|_,_=>none
section
variable {B:Nat→Prop} {w0:World} {aG:Nat→Prop} {φ:b2} {kp:List (V×Value)} {a:Act} {w:World} {σ:St}
theorem Ql(r:R B w0 aG φ σ kp a w){v:V}{d:D}{bP:List Nat}(h:toX σ.heap v=some (d,bP)){u:Value}(eE:VRel φ (b8 φ σ.heap) w.heap v u) :
  ∃F,rep w.heap true d u F∧F.Nodup∧(∀b∈F,∃id∈bP,cN φ σ.heap id b)∧∀id∈bP,(aN σ.heap id).own=true:=by
 unfold toX at h;split at h
 ·rename_i id off len;split at h
  ·rename_i sz xs hx;split at h
   ·rename_i hl;simp only[Option.some.injEq,Prod.mk.injEq]at h;obtain⟨rfl,rfl⟩:=h;obtain⟨F,d4,fD,f3⟩:=J9 r (id:=id) (by rw[hx];rfl) hl eE;refine⟨F,d4,fD,fun b hb=>⟨id,by simp,f3 b hb⟩,fun i hi=>?_⟩;simp only[List.mem_singleton]at hi;subst hi;rw[hx];rfl
   ·cases h
  ·obtain⟨F,d4,fD,f3,yy⟩:=Kg r h eE;exact⟨F,d4,fD,f3,fun i hi=>by obtain⟨s,ys,e⟩:=yy i hi;rw[e];rfl⟩
 ·obtain⟨F,d4,fD,f3,yy⟩:=Kg r h eE;exact⟨F,d4,fD,f3,fun i hi=>by obtain⟨s,ys,e⟩:=yy i hi;rw[e];rfl⟩
theorem Qm(r:R B w0 aG φ σ kp a w):∀(vs:List V) (ds:List D) (bP:List Nat) (us:List Value),toXs σ.heap vs=some (ds,bP)→bP.Nodup→VRels φ (b8 φ σ.heap) w.heap vs us→
  ∃G,reps w.heap true ds us G∧G.Nodup∧(∀b∈G,∃id∈bP,cN φ σ.heap id b)
 |[],ds,bP,us,e,_,cg=>by
  simp only[toXs,Option.some.injEq,Prod.mk.injEq]at e;obtain⟨rfl,rfl⟩:=e;simp only[VRels]at cg;subst cg;exact⟨[],by simp[reps],List.nodup_nil,by simp⟩
 |v::vs,ds,bP,us,e,hnd,cg=>by
  simp only[VRels]at cg;obtain⟨u,bY,rfl,CT,CU⟩:=cg;simp only[toXs]at e;split at e
  ·rename_i d i nq is ai aj;simp only[Option.some.injEq,Prod.mk.injEq]at e;obtain⟨rfl,rfl⟩:=e;rw[List.nodup_append]at hnd;obtain⟨F,d4,fD,f3,yy⟩:=Ql r ai CT;obtain⟨G,cC,cT,eI⟩:=Qm r vs nq is bY aj hnd.2.1 CU;refine⟨F++G,?_,?_,?_⟩
   ·simp only[reps];exact⟨u,bY,F,G,rfl,rfl,d4,cC⟩
   ·rw[List.nodup_append];refine⟨fD,cT,fun x hx y hy lF=>?_⟩;subst lF;obtain⟨p,dh,c_⟩:=f3 x hx;obtain⟨q,cF,bh⟩:=eI x hy;have:=r.dy p q x c_ bh;exact hnd.2.2 p dh q cF this
   ·intro b hb;rcases List.mem_append.1 hb with hb|hb
    ·obtain⟨p,dh,c_⟩:=f3 b hb;exact⟨p,by simp[dh],c_⟩
    ·obtain⟨p,dh,c_⟩:=eI b hb;exact⟨p,by simp[dh],c_⟩
  ·cases e
end
def FY(hs:List H)(v:V):Option (AD×List Nat):=
 match v with
 |.agg vs=>(toXs hs vs).map fun(ds,bP)=>(.agg ds,bP)
 |v=>(toX hs v).map fun(d,bP)=>(.one d,bP)
def toOAs(hs:List H):List V→Option (List AD×List Nat)
 |[]=>some ([],[])
 |v::vs=>match FY hs v,toOAs hs vs with|some (d,i),some (ds,is)=>some (d::ds,i++is)|_,_=>none
section
variable {B:Nat→Prop} {w0:World} {aG:Nat→Prop} {φ:b2} {kp:List (V×Value)} {a:Act} {w:World} {σ:St}
theorem X4(r:R B w0 aG φ σ kp a w){v:V}{d:AD}{bP:List Nat}(h:FY σ.heap v=some (d,bP))(hn:bP.Nodup){u:Value}(eE:VRel φ (b8 φ σ.heap) w.heap v u) :
  ∃F,CO w.heap true d u F∧F.Nodup∧∀b∈F,∃id∈bP,cN φ σ.heap id b:=by
 unfold FY at h;split at h
 ·rename_i vs
  cases hd:toXs σ.heap vs with
  |none=>rw[hd]at h;cases h
  |some p=>
   obtain⟨ds,is⟩:=p;rw[hd]at h;simp only[Option.map_some,Option.some.injEq,Prod.mk.injEq]at h;obtain⟨rfl,rfl⟩:=h;obtain⟨us,rfl,aH⟩:=CP eE;obtain⟨G,cC,cT,eI⟩:=Qm r vs ds is _ hd hn aH;exact⟨G,⟨us,rfl,cC⟩,cT,eI⟩
 ·cases hd:toX σ.heap v with
  |none=>rw[hd]at h;cases h
  |some p=>
   obtain⟨ds,is⟩:=p;rw[hd]at h;simp only[Option.map_some,Option.some.injEq,Prod.mk.injEq]at h;obtain⟨rfl,rfl⟩:=h;obtain⟨G,cC,cT,eI,_⟩:=Ql r hd eE;exact⟨G,cC,cT,eI⟩
theorem Qn(r:R B w0 aG φ σ kp a w):∀(vs:List V) (ds:List AD) (bP:List Nat) (us:List Value),toOAs σ.heap vs=some (ds,bP)→bP.Nodup→VRels φ (b8 φ σ.heap) w.heap vs us→
  ∃F,areps w.heap true ds us F∧F.Nodup∧∀b∈F,∃id∈bP,cN φ σ.heap id b
 |[],ds,bP,us,e,_,cg=>by
  simp only[toOAs,Option.some.injEq,Prod.mk.injEq]at e;obtain⟨rfl,rfl⟩:=e;simp only[VRels]at cg;subst cg;exact⟨[],⟨rfl,rfl⟩,List.nodup_nil,by simp⟩
 |v::vs,ds,bP,us,e,hnd,cg=>by
  simp only[VRels]at cg;obtain⟨u,bY,rfl,CT,CU⟩:=cg;simp only[toOAs]at e;split at e
  ·rename_i d i nq is ai aj;simp only[Option.some.injEq,Prod.mk.injEq]at e;obtain⟨rfl,rfl⟩:=e;rw[List.nodup_append]at hnd;obtain⟨F,d4,fD,f3⟩:=X4 r ai hnd.1 CT;obtain⟨G,cC,cT,eI⟩:=Qn r vs nq is bY aj hnd.2.1 CU;refine⟨F++G,⟨u,bY,F,G,rfl,rfl,d4,cC⟩,?_,?_⟩
   ·rw[List.nodup_append];refine⟨fD,cT,fun x hx y hy lF=>?_⟩;subst lF;obtain⟨p,dh,c_⟩:=f3 x hx;obtain⟨q,cF,bh⟩:=eI x hy;exact hnd.2.2 p dh q cF (r.dy p q x c_ bh)
   ·intro b hb;rcases List.mem_append.1 hb with hb|hb
    ·obtain⟨p,dh,c_⟩:=f3 b hb;exact⟨p,by simp[dh],c_⟩
    ·obtain⟨p,dh,c_⟩:=eI b hb;exact⟨p,by simp[dh],c_⟩
  ·cases e
end
structure CV where
 q:Nat×H
 β:fU
 F:List Nat
 F':List Nat
structure X5(σ':St)(φ:b2)(h':Array Obj)(it:CV):Prop where
 ahq:∀b∈it.F,cN φ σ'.heap it.q.1 b
 s4:∃β,φ it.q.1=some β∧it.β.dP=β.dP∧it.β.off=β.off∧it.β.cap=β.cap∧it.β.sz=β.sz
 hr:∀φ T,dG φ T h' it.β it.q.2
 ahr:(it.F=[]∧it.F'=[]∧it.β.cS=[])∨∃b G,it.β.dP=some b∧it.F=b::G∧it.F'=b::it.β.cS
 me:(aN σ'.heap it.q.1).me=true
 bn:(it.q.2.shut=false∧it.β.cS=[]∧∀β,φ it.q.1=some β→β.cS=[])∨(aN σ'.heap it.q.1).shut=true
section
variable {B:Nat→Prop} {w0:World} {aG:Nat→Prop} {φ:b2} {kp:List (V×Value)} {a:Act} {w:World} {σ σ':St}
def AT(σ':St)(φ:b2)(h':Array Obj)(upd:List (Nat×H))(F F':List Nat):Prop:=
 ∃its:List CV,its.map CV.q=upd∧its.flatMap CV.F=F∧its.flatMap CV.F'=F'∧∀it∈its,X5 σ' φ h' it
theorem AT.nil:AT σ' φ w.heap [] [] []:=⟨[],rfl,rfl,rfl,by simp⟩
theorem AT.append{h':Array Obj}{iM jf:List (Nat×H)}{g4 gb Qo Qp:List Nat}(h1:AT σ' φ h' iM g4 Qo)(h2:AT σ' φ h' jf gb Qp):AT σ' φ h' (iM++jf) (g4++gb) (Qo++Qp):=by
 obtain⟨ew,b5,cv,cm,dY⟩:=h1;obtain⟨dN,dF,dO,dR,l0⟩:=h2;refine⟨ew++dN,by rw[List.map_append,b5,dF],by rw[List.flatMap_append,cv,dO],by rw[List.flatMap_append,cm,dR],fun it CW=>?_⟩;rcases List.mem_append.1 CW with CW|CW
 ·exact dY it CW
 ·exact l0 it CW
end
variable {P:Program} {o:Oper} {g:Bool} {σ:St} {n:Nat} {K:dS→Prop}
section
variable {B:Nat→Prop} {w0:World} {aG:Nat→Prop} {φ:b2} {kp:List (V×Value)} {a:Act} {w:World} {σ:St}
end
section
variable {P:Program} {o:Oper} {g:Bool} {σ:St} {n:Nat} {K:dS→Prop}
end
end Gv
