/-
  Part of the proof: the machine, what functions compute, and the plain laws.
-/
import Derived.Calls
import Derived.Orders
import Derived.Below
import Derived.Laws.Cells
import Derived.Laws.CopyRow
import Derived.Laws.Strings
import Derived.DeepKeys
import Derived.Laws.StructEq
import Derived.Laws.BytesString
import Derived.Great.BuildSlice
import Derived.Maps.AppendAt
import Derived.Laws.MakeOwn
import Derived.Deep.AppendSrc
namespace Gv
open Go
inductive D where
 |int (k:IntKind) (n:Int)
 |bool (b:Bool)
 |str (s:List UInt8)
 |sl (sz:Nat) (xs:List (List D))
  /-- a akG value, whatever it is -/
 |yM (u:Value)
def cellAt(h:Array Obj)(b o:Nat):Option Value:=
 match h[b]? with
 |some (.cells c _ _)=>c[o]?
 |_=>none
theorem cell_eq(w:World)(b o:Nat):w.cell? ⟨b,o,none⟩=cellAt w.heap b o:=by
 unfold World.cell? cellAt
 cases w.heap[b]? with
 |none=>rfl
 |some x=>cases x<;>rfl
theorem Cu{h h':Array Obj}{b:Nat}(e:h'[b]?=h[b]?)(o:Nat):cellAt h' b o=cellAt h b o:=by
 unfold cellAt;rw[e]
def l6(h:Array Obj)(b n:Nat):Prop:=∃cs e,h[b]?=some (.cells cs e (0,0))∧n≤cs.size
mutual
def rep(h:Array Obj)(o:Bool):D→Value→List Nat→Prop
 |.int k n,v,F=>v=.int k n∧F=[]∧k.min≤n∧n≤k.max
 |.bool b,v,F=>v=.bool b∧F=[]
 |.str s,v,F=>v=.string ⟨s.toArray⟩∧F=[]∧s.length≤maxLen
 |.yM u,v,F=>v=u∧F=[]∧u.oneCell'=true∧u.cells=#[u]
 |.sl sz xs,v,F=>∃a c,v=.slice a xs.length c∧xs.length≤c∧c≤maxLen∧
   ((xs=[]∧F=[]∧(o=true→c=0))∨
    ∃b f G,a=some ⟨b,f,none⟩∧F=b::G∧b<h.size∧repE h o b f sz xs G∧(o=true→0<c∧l6 h b (f+c * sz)))
def repC(h:Array Obj)(o:Bool)(b:Nat):Nat→List D→List Nat→Prop
 |_,[],G=>G=[]
 |f,d::ds,G=>∃v bE bh,G=bE++bh∧cellAt h b f=some v∧rep h o d v bE∧repC h o b (f+1) ds bh
def repE(h:Array Obj)(o:Bool)(b:Nat):Nat→Nat→List (List D)→List Nat→Prop
 |_,_,[],G=>G=[]
 |f,sz,c::cs,G=>∃bE bh,G=bE++bh∧c.length=sz∧repC h o b f c bE∧repE h o b (f+sz) sz cs bh
end
theorem l6.mono{h h':Array Obj}{b n:Nat}(e:h'[b]?=h[b]?)(r:l6 h b n):l6 h' b n:=by
 obtain⟨cs,t,h1,h2⟩:=r;exact⟨cs,t,by rw[e];exact h1,h2⟩
theorem l6.lt{h:Array Obj}{b n:Nat}(r:l6 h b n):b<h.size:=by
 obtain⟨cs,t,h1,_⟩:=r;rcases Nat.lt_or_ge b h.size with h'|h'
 ·exact h'
 ·rw[Array.getElem?_eq_none h']at h1;cases h1
mutual
theorem DQ{h h':Array Obj}{o:Bool}(hs:h.size≤h'.size):∀(d:D) (v:Value) (F:List Nat),(∀b∈F,h'[b]?=h[b]?)→rep h o d v F→rep h' o d v F
 |.int k n,v,F,_,r=>by simpa [rep]using r
 |.bool b,v,F,_,r=>by simpa [rep]using r
 |.str s,v,F,_,r=>by simpa [rep]using r
 |.yM u,v,F,_,r=>by simpa [rep]using r
 |.sl sz xs,v,F,aZ,r=>by
  simp only[rep]at r⊢;obtain⟨a,c,h1,h2,aj,aD⟩:=r;refine⟨a,c,h1,h2,aj,?_⟩;rcases aD with aD|⟨b,f,G,ag,e2,aY,bk,cg⟩
  ·exact .inl aD
  ·subst e2;exact .inr ⟨b,f,G,ag,rfl,by omega,xR hs xs b f sz G (aZ b (by simp)) (fun g hg=>aZ g (by simp[hg])) bk,fun ax=>⟨(cg ax).1,(cg ax).2.mono (aZ b (by simp))⟩⟩
theorem HT{h h':Array Obj}{o:Bool}(hs:h.size≤h'.size):∀(ds:List D) (b f:Nat) (G:List Nat),h'[b]?=h[b]?→(∀g∈G,h'[g]?=h[g]?)→repC h o b f ds G→repC h' o b f ds G
 |[],_,_,_,_,_,r=>by simpa [repC]using r
 |d::ds,b,f,G,hb,bw,r=>by
  simp only[repC]at r⊢;obtain⟨v,bE,bh,ag,e2,aY,bk⟩:=r;subst ag;exact⟨v,bE,bh,rfl,by rw[Cu hb];exact e2,DQ hs d v bE (fun g hg=>bw g (by simp[hg])) aY,HT hs ds b (f+1) bh hb (fun g hg=>bw g (by simp[hg])) bk⟩
theorem xR{h h':Array Obj}{o:Bool}(hs:h.size≤h'.size):∀(cs:List (List D)) (b f sz:Nat) (G:List Nat),h'[b]?=h[b]?→(∀g∈G,h'[g]?=h[g]?)→repE h o b f sz cs G→repE h' o b f sz cs G
 |[],_,_,_,_,_,_,r=>by simpa [repE]using r
 |c::cs,b,f,sz,G,hb,bw,r=>by
  simp only[repE]at r⊢;obtain⟨bE,bh,ag,e2,aY,bk⟩:=r;subst ag;exact⟨bE,bh,rfl,e2,HT hs c b f bE hb (fun g hg=>bw g (by simp[hg])) aY,xR hs cs b (f+sz) sz bh hb (fun g hg=>bw g (by simp[hg])) bk⟩
end
mutual
theorem SY{h:Array Obj}{o:Bool}:∀(d:D) (v:Value) (F:List Nat),rep h o d v F→∀b∈F,b<h.size
 |.int k n,v,F,r=>by simp only[rep]at r;simp[r.2.1]
 |.bool b,v,F,r=>by simp only[rep]at r;simp[r.2]
 |.str s,v,F,r=>by simp only[rep]at r;simp[r.2.1]
 |.yM u,v,F,r=>by simp only[rep]at r;simp[r.2.1]
 |.sl sz xs,v,F,r=>by
  simp only[rep]at r;obtain⟨a,c,h1,h2,aj,aD⟩:=r;rcases aD with aD|⟨b,f,G,ag,e2,aY,bk,cg⟩
  ·simp[aD.2.1]
  ·subst e2;intro g hg;rcases List.mem_cons.1 hg with rfl|hg
   ·exact aY
   ·exact wG xs b f sz G bk g hg
theorem Mt{h:Array Obj}{o:Bool}:∀(ds:List D) (b f:Nat) (G:List Nat),repC h o b f ds G→∀g∈G,g<h.size
 |[],_,_,_,r=>by simp only[repC]at r;simp[r]
 |d::ds,b,f,G,r=>by
  simp only[repC]at r;obtain⟨v,bE,bh,ag,e2,aY,bk⟩:=r;subst ag;intro g hg;rcases List.mem_append.1 hg with hg|hg
  ·exact SY d v bE aY g hg
  ·exact Mt ds b (f+1) bh bk g hg
theorem wG{h:Array Obj}{o:Bool}:∀(cs:List (List D)) (b f sz:Nat) (G:List Nat),repE h o b f sz cs G→∀g∈G,g<h.size
 |[],_,_,_,_,r=>by simp only[repE]at r;simp[r]
 |c::cs,b,f,sz,G,r=>by
  simp only[repE]at r;obtain⟨bE,bh,ag,e2,aY,bk⟩:=r;subst ag;intro g hg;rcases List.mem_append.1 hg with hg|hg
  ·exact Mt c b f bE aY g hg
  ·exact wG cs b (f+sz) sz bh bk g hg
end
mutual
theorem Sr{h:Array Obj}:∀(d:D) (v:Value) (F:List Nat),rep h true d v F→rep h false d v F
 |.int k n,v,F,r=>by simpa [rep]using r
 |.bool b,v,F,r=>by simpa [rep]using r
 |.str s,v,F,r=>by simpa [rep]using r
 |.yM u,v,F,r=>by simpa [rep]using r
 |.sl sz xs,v,F,r=>by
  simp only[rep]at r⊢;obtain⟨a,c,h1,h2,aj,aD⟩:=r;refine⟨a,c,h1,h2,aj,?_⟩;rcases aD with aD|⟨b,f,G,ag,e2,aY,bk,cg⟩
  ·exact .inl ⟨aD.1,aD.2.1,fun e=>by cases e⟩
  ·exact .inr ⟨b,f,G,ag,e2,aY,Ex xs b f sz G bk,fun e=>by cases e⟩
theorem Mu{h:Array Obj}:∀(ds:List D) (b f:Nat) (G:List Nat),repC h true b f ds G→repC h false b f ds G
 |[],_,_,_,r=>by simpa [repC]using r
 |d::ds,b,f,G,r=>by
  simp only[repC]at r⊢;obtain⟨v,bE,bh,ag,e2,aY,bk⟩:=r;exact⟨v,bE,bh,ag,e2,Sr d v bE aY,Mu ds b (f+1) bh bk⟩
theorem Ex{h:Array Obj}:∀(cs:List (List D)) (b f sz:Nat) (G:List Nat),repE h true b f sz cs G→repE h false b f sz cs G
 |[],_,_,_,_,r=>by simpa [repE]using r
 |c::cs,b,f,sz,G,r=>by
  simp only[repE]at r⊢;obtain⟨bE,bh,ag,e2,aY,bk⟩:=r;exact⟨bE,bh,ag,e2,Mu c b f bE aY,Ex cs b (f+sz) sz bh bk⟩
end
theorem AJ{h:Array Obj}{o:Bool}{b:Nat}:∀(ds Cv:List D) (f:Nat) (G:List Nat),repC h o b f (ds++Cv) G↔∃bE bh,G=bE++bh∧repC h o b f ds bE∧repC h o b (f+ds.length) Cv bh
 |[],Cv,f,G=>by
  simp only[List.nil_append,repC,List.length_nil,Nat.add_zero];exact⟨fun r=>⟨[],G,rfl,rfl,r⟩,fun⟨bE,bh,e,ag,r⟩=>by subst ag;rw[e];exact r⟩
 |d::ds,Cv,f,G=>by
  simp only[List.cons_append,repC,List.length_cons];constructor
  ·rintro⟨v,bE,bh,rfl,e2,aY,bk⟩;obtain⟨uk,um,rfl,k1,k2⟩:=(AJ ds Cv (f+1) bh).1 bk;exact⟨bE++uk,um,by simp,⟨v,bE,uk,rfl,e2,aY,k1⟩,by rw[show f+(ds.length+1)=f+1+ds.length from by omega];exact k2⟩
  ·rintro⟨bE,bh,rfl,⟨v,uk,um,rfl,e2,aY,bk⟩,k⟩;refine⟨v,uk,um++bh,by simp,e2,aY,(AJ ds Cv (f+1) _).2 ⟨um,bh,rfl,bk,?_⟩⟩;rw[show f+1+ds.length=f+(ds.length+1)from by omega];exact k
theorem repE_append{h:Array Obj}{o:Bool}{b sz:Nat}:∀(cs ds:List (List D)) (f:Nat) (G:List Nat),repE h o b f sz (cs++ds) G↔∃bE bh,G=bE++bh∧repE h o b f sz cs bE∧repE h o b (f+cs.length * sz) sz ds bh
 |[],ds,f,G=>by
  simp only[List.nil_append,repE,List.length_nil,Nat.zero_mul,Nat.add_zero];exact⟨fun r=>⟨[],G,rfl,rfl,r⟩,fun⟨bE,bh,e,ag,r⟩=>by subst ag;rw[e];exact r⟩
 |c::cs,ds,f,G=>by
  simp only[List.cons_append,repE,List.length_cons];have hf:f+sz+cs.length * sz=f+(cs.length+1) * sz:=by rw[Nat.add_mul];omega
  constructor
  ·rintro⟨bE,bh,rfl,e2,aY,bk⟩;obtain⟨uk,um,rfl,k1,k2⟩:=(repE_append cs ds (f+sz) bh).1 bk;exact⟨bE++uk,um,by simp,⟨bE,uk,rfl,e2,aY,k1⟩,by rw[←hf];exact k2⟩
  ·rintro⟨bE,bh,rfl,⟨uk,um,rfl,e2,aY,bk⟩,k⟩;exact⟨uk,um++bh,by simp,e2,aY,(repE_append cs ds (f+sz) _).2 ⟨um,bh,rfl,bk,by rw[hf];exact k⟩⟩
theorem abt{h:Array Obj}{o:Bool}{b sz:Nat}{c:List D}{f:Nat}{G:List Nat}:repE h o b f sz [c] G↔c.length=sz∧repC h o b f c G:=by
 simp only[repE];exact⟨fun⟨bE,bh,e,ag,r,e2⟩=>⟨ag,by subst e2;rw[e,List.append_nil];exact r⟩,fun⟨ag,r⟩=>⟨G,[],by simp,ag,r,rfl⟩⟩
theorem Et{h:Array Obj}{o:Bool}{b sz:Nat}{cs:List (List D)}{f:Nat}{G:List Nat}(r:repE h o b f sz cs G){i:Nat}{c:List D}(hi:cs[i]?=some c) :
  ∃bE m6 bh,G=bE++(m6++bh)∧c.length=sz∧repE h o b f sz (cs.take i) bE∧repC h o b (f+i * sz) c m6∧repE h o b (f+(i+1) * sz) sz (cs.drop (i+1)) bh:=by
 have hlt:i<cs.length:=(List.getElem?_eq_some_iff.1 hi).1;have hc:cs[i]=c:=(List.getElem?_eq_some_iff.1 hi).2;have e:cs=cs.take i++(c::cs.drop (i+1)):=by
  rw[←hc,List.getElem_cons_drop,List.take_append_drop]
 rw[e]at r;obtain⟨bE,bh,rfl,aK,a7⟩:=(repE_append _ _ _ _).1 r;simp only[repE]at a7;obtain⟨uk,um,rfl,e2,aY,bk⟩:=a7;have hl:(cs.take i).length=i:=by simp;omega
 rw[hl]at aY bk;refine⟨bE,uk,um,rfl,e2,aK,aY,?_⟩;rw[Nat.add_mul,Nat.one_mul,←Nat.add_assoc];exact bk
theorem L4{h:Array Obj}{o:Bool}{b:Nat}:∀(ds:List D) (f:Nat) (G:List Nat),repC h o b f ds G→∃us:List Value,us.length=ds.length∧(∀(j:Nat) (u:Value),us[j]?=some u→cellAt h b (f+j)=some u)∧
  (∀(j:Nat) (d:D) (u:Value),ds[j]?=some d→us[j]?=some u→∃Ce,(∀g∈Ce,g∈G)∧rep h o d u Ce)
 |[],f,G,r=>⟨[],rfl,by simp,by simp⟩
 |d::ds,f,G,r=>by
  simp only[repC]at r;obtain⟨v,bE,bh,rfl,e2,aY,bk⟩:=r;obtain⟨us,h1,h2,aj⟩:=L4 ds (f+1) bh bk;refine⟨v::us,by simp[h1],?_,?_⟩
  ·intro j u ak
   cases j with
   |zero=>simp at ak;subst ak;simpa using e2
   |succ j=>
    have:=h2 j u (by simpa using ak);rw[show f+(j+1)=f+1+j from by omega];exact this
  ·intro j abu u hd hu
   cases j with
   |zero=>simp at hd hu;subst hd;subst hu;exact⟨bE,fun g hg=>by simp[hg],aY⟩
   |succ j=>
    obtain⟨Ce,k1,k2⟩:=aj j abu u (by simpa using hd) (by simpa using hu);exact⟨Ce,fun g hg=>by simp[k1 g hg],k2⟩
theorem L5{h:Array Obj}{o:Bool}{d:D}{v:Value}{F:List Nat}(r:rep h o d v F):v.oneCell'=true:=by
 cases d<;>simp only[rep]at r
 ·rw[r.1];rfl
 ·rw[r.1];rfl
 ·rw[r.1];rfl
 ·obtain⟨a,c,h1,_⟩:=r;rw[h1];rfl
 ·rw[r.1];exact r.2.2.1
def D.flat:D→Bool
 |.sl _ _=>false
 |_=>true
def fP(xs:List (List D)):Bool:=xs.all fun c=>c.all D.flat
def D.plain:D→Bool
 |.sl _ _=>false
 |.yM _=>false
 |_=>true
theorem Ek{h:Array Obj}{o:Bool}{d:D}{v:Value}{F:List Nat}(hf:d.flat=true)(r:rep h o d v F):F=[]:=by
 cases d<;>simp only[rep]at r
 ·exact r.2.1
 ·exact r.2
 ·exact r.2.1
 ·simp[D.flat]at hf
 ·exact r.2.1
theorem HH{h h':Array Obj}{o o':Bool}{d:D}{v:Value}{F:List Nat}(hf:d.flat=true)(r:rep h o d v F):rep h' o' d v F:=by
 cases d<;>simp only[rep]at r⊢
 ·exact r
 ·exact r
 ·exact r
 ·simp[D.flat]at hf
 ·exact r
theorem Mv{h:Array Obj}{o:Bool}{b:Nat}:∀(ds:List D) (f:Nat) (G:List Nat),ds.all D.flat=true→repC h o b f ds G→G=[]
 |[],_,_,_,r=>by simpa [repC]using r
 |d::ds,f,G,hf,r=>by
  simp only[repC]at r;obtain⟨v,bE,bh,rfl,e2,aY,bk⟩:=r;simp only[List.all_cons,Bool.and_eq_true]at hf;rw[Ek hf.1 aY,Mv ds (f+1) bh hf.2 bk];rfl
theorem DV{h:Array Obj}{o:Bool}{b:Nat}:∀(cs:List (List D)) (f sz:Nat) (G:List Nat),fP cs=true→repE h o b f sz cs G→G=[]
 |[],_,_,_,_,r=>by simpa [repE]using r
 |c::cs,f,sz,G,hf,r=>by
  simp only[repE]at r;obtain⟨bE,bh,rfl,e2,aY,bk⟩:=r;simp only[fP,List.all_cons,Bool.and_eq_true]at hf;rw[Mv c f bE hf.1 aY,DV cs (f+sz) sz bh hf.2 bk];rfl
theorem SZ{h:Array Obj}{o:Bool}{b:Nat}:∀(ds:List D) (f:Nat) (G:List Nat),ds.all D.flat=true→repC h o b f ds G→repC h true b f ds []
 |[],_,_,_,r=>by simp[repC]
 |d::ds,f,G,hf,r=>by
  simp only[repC]at r⊢;obtain⟨v,bE,bh,rfl,e2,aY,bk⟩:=r;simp only[List.all_cons,Bool.and_eq_true]at hf;have h1:=Ek hf.1 aY;subst h1;exact⟨v,[],[],rfl,e2,HH hf.1 aY,SZ ds (f+1) bh hf.2 bk⟩
theorem Sf{h:Array Obj}{o:Bool}{b:Nat}:∀(cs:List (List D)) (f sz:Nat) (G:List Nat),fP cs=true→repE h o b f sz cs G→repE h true b f sz cs []
 |[],_,_,_,_,r=>by simp[repE]
 |c::cs,f,sz,G,hf,r=>by
  simp only[repE]at r⊢;obtain⟨bE,bh,rfl,e2,aY,bk⟩:=r;simp only[fP,List.all_cons,Bool.and_eq_true]at hf;exact⟨[],[],rfl,e2,SZ c f bE hf.1 aY,Sf cs (f+sz) sz bh hf.2 bk⟩
theorem Ey{h h':Array Obj}{o:Bool}{b dc:Nat}:∀(ds:List D) (f gK:Nat) (G:List Nat),h.size≤h'.size→(∀g∈G,h'[g]?=h[g]?)→(∀j,j<ds.length→cellAt h' dc (gK+j)=cellAt h b (f+j))→
  repC h o b f ds G→repC h' o dc gK ds G
 |[],_,_,_,_,_,_,r=>by simpa [repC]using r
 |d::ds,f,gK,G,hs,bw,hc,r=>by
  simp only[repC]at r⊢;obtain⟨v,bE,bh,rfl,e2,aY,bk⟩:=r;refine⟨v,bE,bh,rfl,?_,DQ hs d v bE (fun g hg=>bw g (by simp[hg])) aY,Ey ds (f+1) (gK+1) bh hs (fun g hg=>bw g (by simp[hg])) ?_ bk⟩
  ·have:=hc 0 (by simp);simpa [e2]using this
  ·intro j ak;have:=hc (j+1) (by simp;omega);rw[show gK+1+j=gK+(j+1)from by omega,show f+1+j=f+(j+1)from by omega];exact this
theorem po{h h':Array Obj}{o:Bool}{b dc:Nat}:∀(cs:List (List D)) (f gK sz:Nat) (G:List Nat),h.size≤h'.size→(∀g∈G,h'[g]?=h[g]?)→(∀j,j<cs.length * sz→cellAt h' dc (gK+j)=cellAt h b (f+j))→
  repE h o b f sz cs G→repE h' o dc gK sz cs G
 |[],_,_,_,_,_,_,_,r=>by simpa [repE]using r
 |c::cs,f,gK,sz,G,hs,bw,hc,r=>by
  simp only[repE]at r⊢;obtain⟨bE,bh,rfl,e2,aY,bk⟩:=r;have hm:(c::cs).length * sz=sz+cs.length * sz:=by rw[List.length_cons,Nat.add_mul];omega
  refine⟨bE,bh,rfl,e2,Ey c f gK bE hs (fun g hg=>bw g (by simp[hg])) (fun j ak=>hc j (by omega)) aY,po cs (f+sz) (gK+sz) sz bh hs (fun g hg=>bw g (by simp[hg])) ?_ bk⟩;intro j ak;have:=hc (sz+j) (by omega);rw[show gK+sz+j=gK+(sz+j)from by omega,show f+sz+j=f+(sz+j)from by omega];exact this
def vk:List (Nat×List D):=[]
theorem abv:∀p∈vk,p.2.all D.flat=true:=by
 have h:vk.all (fun p=>p.2.all D.flat)=true:=rfl;exact List.all_eq_true.1 h
def Mw:List (Nat×(Array Value→Prop)):=[]
theorem abw:∀q∈Mw,∃p∈vk,p.1=q.1:=by
 have h:Mw.all (fun q=>vk.any (fun p=>p.1 == q.1))=true:=rfl;intro q hq;have h2:=List.all_eq_true.1 h q hq;obtain⟨p,hp,e⟩:=List.any_eq_true.1 h2;exact⟨p,hp,by simpa using e⟩
def BT(h:Array Obj):Prop:=∀q∈Mw,∃cs e b4,h[q.1]?=some (.cells cs e b4)∧q.2 cs
theorem BT.mono{h h':Array Obj}(g:BT h)(hb:∀p∈vk,h'[p.1]?=h[p.1]?):BT h':=fun q hq=>by
 obtain⟨p,hp,e⟩:=abw q hq;obtain⟨cs,t,b4,h1,h2⟩:=g q hq;exact⟨cs,t,b4,by rw[←e,hb p hp,e];exact h1,h2⟩
def GOk(h:Array Obj):Prop:=(∀p∈vk,p.1<h.size∧repC h false p.1 0 p.2 [])∧BT h
theorem GOk.mono{h h':Array Obj}(g:GOk h)(hs:h.size≤h'.size)(hb:∀p∈vk,h'[p.1]?=h[p.1]?):GOk h':=⟨fun p hp=>by
 obtain⟨h1,h2⟩:=g.1 p hp;exact⟨Nat.lt_of_lt_of_le h1 hs,HT hs p.2 p.1 0 [] (hb p hp) (by simp) h2⟩,g.2.mono hb⟩
inductive V where
 |J
 |d (x:D)
 |c7 (sz:Nat)
 |agg (vs:List V)
 |ptr (id bU off:Nat)
 |eN (cells:List D) (off:Nat)
 |sl (id off len:Nat)
 |fn (f:FuncId) (dU:List V)
 |c6 (vs:List V)
 |bq (c:Bool) (v:V)
inductive H where
 |cF
 |box (cells:List V)
 |ai (sz:Nat) (xs:List (List D)) (jt:Bool)
 |iA (sz:Nat) (xs:List (List D))
  /-- owned whole, and nobody looks into it -/
 |af (sz:Nat) (xs:List (List D))
  /-- such a one, of which one element is open: its slices are entries of their own -/
 |fA (sz:Nat) (pre:List (List D)) (cells:List V) (post:List (List D))
def H.my:H→Bool
 |.box _=>true
 |.ai _ _ _=>true
 |.af _ _=>true
 |.fA _ _ _ _=>true
 |_=>false
def H.own:H→Bool
 |.ai _ _ true=>true
 |.af _ _=>true
 |.fA _ _ _ _=>true
 |_=>false
def H.shut:H→Bool
 |.af _ _=>true
 |.fA _ _ _ _=>true
 |_=>false
theorem H.HX{x:H}(h:x.own=true):x.my=true:=by
 cases x<;>first|rfl|(rename_i jt;cases jt<;>first|rfl|cases h)|cases h
theorem H.HV{x:H}(h:x.shut=true):x.own=true:=by
 cases x<;>first|rfl|cases h
structure gd where
 dJ:Option Nat
 off:Nat
 cap:Nat
 sz:Nat
 cN:List Nat
abbrev ca:=Nat→Option gd
def aG(hs:List H)(i:Nat):H:=hs.getD i .cF
def jw(x:H)(β:gd)(b:Nat):Prop:=(x.my=true∧β.dJ=some b)∨(x.shut=true∧b∈β.cN)
def cb(φ:ca)(hs:List H)(b:Nat):Prop:=∀i β,φ i=some β→¬jw (aG hs i) β b
mutual
def VRel(φ:ca)(T:Nat→Prop)(h:Array Obj):V→Value→Prop
 |.J,_=>True
 |.d x,u=>∃F,rep h false x u F∧∀b∈F,T b
 |.c7 _,u=>u=.slice none 0 0
 |.agg vs,u=>∃us:Array Value,u=.agg us∧VRels φ T h vs us.toList
 |.ptr id bU off,u=>∃β b,φ id=some β∧β.dJ=some b∧u=.pointer (some ⟨b,β.off+bU * β.sz+off,none⟩)
 |.eN cells off,u=>∃b f G,u=.pointer (some ⟨b,f+off,none⟩)∧b<h.size∧T b∧repC h false b f cells G∧∀g∈G,T g
 |.sl id off len,u=>∃β a c,φ id=some β∧u=.slice a len c∧c≤maxLen∧((c=0∧len=0∧off=β.cap)∨∃b,β.dJ=some b∧a=some ⟨b,β.off+off * β.sz,none⟩∧len≤c∧off+c=β.cap)
 |.fn f dU,u=>∃us:Array Value,u=.func (.func f) #[] us∧VRels φ T h dU us.toList
 |.c6 vs,u=>∃us:Array Value,u=.tuple us∧VRels φ T h vs us.toList
 |.bq c v,u=>(c=true→VRel φ T h v u)∧(c=false→u=undef)
def VRels(φ:ca)(T:Nat→Prop)(h:Array Obj):List V→List Value→Prop
 |[],us=>us=[]
 |v::vs,us=>∃u us',us=u::us'∧VRel φ T h v u∧VRels φ T h vs us'
end
def dD(φ:ca)(T:Nat→Prop)(h:Array Obj)(β:gd):H→Prop
 |.cF=>True
 |.box cells=>∃b cs e,β.dJ=some b∧β.off=0∧h[b]?=some (.cells cs e (0,0))∧VRels φ T h cells cs.toList
 |.ai sz xs jt=>β.sz=sz∧((β.dJ=none∧xs=[]∧β.cap=0∧β.cN=[])∨
   ∃b G,β.dJ=some b∧xs.length≤β.cap∧l6 h b (β.off+β.cap * sz)∧repE h jt b β.off sz xs G∧(jt=true→G=β.cN)∧(jt=false→∀g∈G,T g))
 |.iA sz xs=>β.sz=sz∧(xs=[]∨∃b G,β.dJ=some b∧T b∧b<h.size∧repE h false b β.off sz xs G∧∀g∈G,T g)
 |.af sz xs=>β.sz=sz∧((β.dJ=none∧xs=[]∧β.cap=0∧β.cN=[])∨
   ∃b,β.dJ=some b∧xs.length≤β.cap∧l6 h b (β.off+β.cap * sz)∧repE h true b β.off sz xs β.cN)
 |.fA sz pre cells post=>β.sz=sz∧cells.length=sz∧∃b bE bh us,β.dJ=some b∧pre.length+1+post.length≤β.cap∧l6 h b (β.off+β.cap * sz)∧β.cN=bE++bh∧
   repE h true b β.off sz pre bE∧VRels φ T h cells us∧(∀(j:Nat) (u:Value),us[j]?=some u→cellAt h b (β.off+pre.length * sz+j)=some u)∧repE h true b (β.off+(pre.length+1) * sz) sz post bh
def cJ(φ:ca)(hs:List H)(i b:Nat):Prop:=
 ∃β,φ i=some β∧(((aG hs i).my=true∧β.dJ=some b)∨((aG hs i).own=true∧b∈β.cN))
theorem jw.wD{φ:ca}{hs:List H}{i:Nat}{β:gd}{b:Nat}(e:φ i=some β)(h:jw (aG hs i) β b):cJ φ hs i b:=
 ⟨β,e,h.imp id fun h=>⟨H.HV h.1,h.2⟩⟩
structure Bel(m7:Nat→Prop)(w w':World):Prop where
 os:w'.os=w.os
 tape:w'.tape=w.tape
 output:w'.output=w.output
 size:w.heap.size≤w'.heap.size
 block:∀k,¬m7 k→w'.heap[k]?=w.heap[k]?
 cO:∀b n,l6 w.heap b n→l6 w'.heap b n
theorem Bel.refl(m7:Nat→Prop)(w:World):Bel m7 w w:=⟨rfl,rfl,rfl,Nat.le_refl _,fun _ _=>rfl,fun _ _ h=>h⟩
theorem Bel.trans{m7:Nat→Prop}{a b c:World}(h:Bel m7 a b)(k:Bel m7 b c):Bel m7 a c:=
 ⟨k.os.trans h.os,k.tape.trans h.tape,k.output.trans h.output,Nat.le_trans h.size k.size,fun i hi=>(k.block i hi).trans (h.block i hi),fun b n r=>k.cO b n (h.cO b n r)⟩
theorem Bel.mono{m7 Ta:Nat→Prop}{w w':World}(h:Bel m7 w w')(xW:∀k,m7 k→Ta k):Bel Ta w w':=
 ⟨h.os,h.tape,h.output,h.size,fun k hk=>h.block k fun e=>hk (xW k e),h.cO⟩
theorem Bel.drew{m7:Nat→Prop}{a w:World}(h:Bel m7 a w):Bel m7 a w.drew:=⟨h.os,h.tape,h.output,h.size,h.block,h.cO⟩
structure St where
 tmps:List V
 heap:List H
def Tb:List (V×Value):=vk.map fun p=>(.eN p.2 0,.pointer (some ⟨p.1,0,none⟩))
structure R(B:Nat→Prop)(w0:World)(aJ:Nat→Prop)(φ:ca)(σ:St)(kp:List (V×Value))(a:Act)(w:World):Prop where
 gJ:VRels φ (cb φ σ.heap) w.heap σ.tmps a.tmps.toList
 kp:∀p∈Tb++kp,VRel φ (cb φ σ.heap) w.heap p.1 p.2
 hp:∀i,aG σ.heap i=.cF∨∃β,φ i=some β∧dD φ (cb φ σ.heap) w.heap β (aG σ.heap i)
 dy:∀i j b,cJ φ σ.heap i b→cJ φ σ.heap j b→i=j
 eK:∀i β,φ i=some β→(aG σ.heap i).own=true→β.cN.Nodup∧∀b,β.dJ=some b→b∉β.cN
 eL:∀i b,cJ φ σ.heap i b→B b
 fl:∀i β,φ i=some β→aJ i
 fm:Bel B w0 w
 bs:∀k,w.heap.size≤k→B k
 mZ:a.defers=[]
 kE:(∀p∈vk,¬B p.1)∧BT w0.heap
section
variable {φ:ca} {T:Nat→Prop} {h:Array Obj}
theorem jW:∀(vs:List V) (us:List Value),VRels φ T h vs us→us.length=vs.length
 |[],us,r=>by simp only[VRels]at r;rw[r];rfl
 |v::vs,us,r=>by
  simp only[VRels]at r;obtain⟨u,us',rfl,_,a7⟩:=r;simp[jW vs us' a7]
theorem vi:∀(vs:List V) (us:List Value),VRels φ T h vs us→∀(t:Nat) (v:V),vs[t]?=some v→∃u,us[t]?=some u∧VRel φ T h v u
 |[],_,_,t,v,e=>by simp at e
 |v::vs,us,r,t,e7,e=>by
  simp only[VRels]at r;obtain⟨u,us',rfl,aK,a7⟩:=r
  cases t with
  |zero=>simp at e;subst e;exact⟨u,by simp,aK⟩
  |succ t=>exact vi vs us' a7 t e7 (by simpa using e)
theorem y7:∀(vs:List V) (us:List Value),us.length=vs.length→(∀(t:Nat) (v:V) (u:Value),vs[t]?=some v→us[t]?=some u→VRel φ T h v u)→VRels φ T h vs us
 |[],us,e,_=>by simp only[VRels];exact List.eq_nil_of_length_eq_zero (by simpa using e)
 |v::vs,us,e,r=>by
  cases us with
  |nil=>simp at e
  |cons u us=>
   simp only[VRels];exact⟨u,us,rfl,r 0 v u rfl rfl,y7 vs us (by simpa using e) fun t e7 wA hv hu=>r (t+1) e7 wA (by simpa using hv) (by simpa using hu)⟩
theorem abJ{vs:List V}{us:List Value}(r:VRels φ T h vs us){v:V}{u:Value}(hv:VRel φ T h v u)(t:Nat):VRels φ T h (vs.set t v) (us.set t u):=by
 refine y7 _ _ (by simp[jW _ _ r]) fun i e7 wA ag e2=>?_;rw[List.getElem?_set]at ag e2;by_cases hi:t=i
 ·subst hi;simp only[if_true]at ag e2;split at ag
  ·split at e2
   ·cases ag;cases e2;exact hv
   ·cases e2
  ·cases ag
 ·simp only[hi,if_false]at ag e2;obtain⟨anT,k1,k2⟩:=vi _ _ r i e7 ag;rw[k1]at e2;cases e2;exact k2
theorem Cs{vs vs':List V}{us us':List Value}(r:VRels φ T h vs us)(cW:VRels φ T h vs' us'):VRels φ T h (vs++vs') (us++us'):=by
 induction vs generalizing us with
 |nil=>simp only[VRels]at r;subst r;simpa using cW
 |cons v vs dr=>
  simp only[VRels]at r;obtain⟨u,Tc,rfl,aK,a7⟩:=r;simp only[List.cons_append,VRels];exact⟨u,Tc++us',rfl,aK,dr a7⟩
theorem Td{vs:List V}{us:List Value}(r:VRels φ T h vs us)(n:Nat):VRels φ T h (vs.take n) (us.take n):=by
 refine y7 _ _ (by simp[jW _ _ r]) fun i v u ag e2=>?_;rw[List.getElem?_take]at ag e2;split at ag
 ·rename_i hi;rw[if_pos hi]at e2;obtain⟨wA,k1,k2⟩:=vi _ _ r i v ag;rw[k1]at e2;cases e2;exact k2
 ·cases ag
theorem Te{vs:List V}{us:List Value}(r:VRels φ T h vs us)(n:Nat):VRels φ T h (vs.drop n) (us.drop n):=by
 refine y7 _ _ (by simp[jW _ _ r]) fun i v u ag e2=>?_;rw[List.getElem?_drop]at ag e2;obtain⟨wA,k1,k2⟩:=vi _ _ r (n+i) v ag;rw[k1]at e2;cases e2;exact k2
theorem MD{v:V}{u:Value}(r:VRel φ T h v u)(n:Nat):VRels φ T h (List.replicate n v) (List.replicate n u):=by
 induction n with
 |zero=>simp[VRels]
 |succ n dr=>simp only[List.replicate_succ,VRels];exact⟨u,_,rfl,r,dr⟩
end
def mY(φ cv:ca):Prop:=∀i β,φ i=some β→∃a1,cv i=some a1∧a1.dJ=β.dJ∧a1.off=β.off∧a1.cap=β.cap∧a1.sz=β.sz
theorem mY.refl(φ:ca):mY φ φ:=fun _ β e=>⟨β,e,rfl,rfl,rfl,rfl⟩
structure BS(φ cv:ca)(T ga:Nat→Prop)(h h':Array Obj):Prop where
 y6:mY φ cv
 cn:∀b,b<h.size→T b→ga b
 df:∀b,b<h.size→T b→h'[b]?=h[b]?
 hs:h.size≤h'.size
section
variable {φ cv:ca} {T ga:Nat→Prop} {h h':Array Obj}
mutual
theorem DT(K:BS φ cv T ga h h'):∀(v:V) (u:Value),VRel φ T h v u→VRel cv ga h' v u
 |.J,_,_=>by simp[VRel]
 |.d x,u,r=>by
  simp only[VRel]at r⊢;obtain⟨F,aK,a7⟩:=r;have hl:=SY x u F aK;exact⟨F,DQ K.hs x u F (fun b hb=>K.df b (hl b hb) (a7 b hb)) aK,fun b hb=>K.cn b (hl b hb) (a7 b hb)⟩
 |.c7 _,_,r=>by simpa [VRel]using r
 |.agg vs,u,r=>by
  simp only[VRel]at r⊢;obtain⟨us,aK,a7⟩:=r;exact⟨us,aK,tR K vs us.toList a7⟩
 |.ptr id bU off,u,r=>by
  simp only[VRel]at r⊢;obtain⟨β,b,aK,a7,b8⟩:=r;obtain⟨a1,k1,k2,dC,iK,y1⟩:=K.y6 id β aK;exact⟨a1,b,k1,by rw[k2];exact a7,by rw[dC,y1];exact b8⟩
 |.eN cells off,u,r=>by
  simp only[VRel]at r⊢;obtain⟨b,f,G,aK,a7,b8,cj,ez⟩:=r;have hl:=Mt cells b f G cj;exact⟨b,f,G,aK,Nat.lt_of_lt_of_le a7 K.hs,K.cn b a7 b8,HT K.hs cells b f G (K.df b a7 b8) (fun g hg=>K.df g (hl g hg) (ez g hg)) cj,fun g hg=>K.cn g (hl g hg) (ez g hg)⟩
 |.sl id off len,u,r=>by
  simp only[VRel]at r⊢;obtain⟨β,a,c,aK,a7,b8,cj⟩:=r;obtain⟨a1,k1,k2,dC,iK,y1⟩:=K.y6 id β aK;refine⟨a1,a,c,k1,a7,b8,?_⟩;rcases cj with cj|⟨b,cj,ez,hD,wE⟩
  ·exact .inl ⟨cj.1,cj.2.1,by rw[iK];exact cj.2.2⟩
  ·exact .inr ⟨b,by rw[k2];exact cj,by rw[dC,y1];exact ez,hD,by rw[iK];exact wE⟩
 |.fn f dU,u,r=>by
  simp only[VRel]at r⊢;obtain⟨us,aK,a7⟩:=r;exact⟨us,aK,tR K dU us.toList a7⟩
 |.c6 vs,u,r=>by
  simp only[VRel]at r⊢;obtain⟨us,aK,a7⟩:=r;exact⟨us,aK,tR K vs us.toList a7⟩
 |.bq c v,u,r=>by
  simp only[VRel]at r⊢;exact⟨fun e=>DT K v u (r.1 e),r.2⟩
theorem tR(K:BS φ cv T ga h h'):∀(vs:List V) (us:List Value),VRels φ T h vs us→VRels cv ga h' vs us
 |[],us,r=>by simpa [VRels]using r
 |v::vs,us,r=>by
  simp only[VRels]at r⊢;obtain⟨u,us',aK,a7,b8⟩:=r;exact⟨u,us',aK,DT K v u a7,tR K vs us' b8⟩
end
theorem Lt(K:BS φ cv T ga h h'){β:gd}{x:H}(r:dD φ T h β x)(hb:∀b,x.my=true→β.dJ=some b→h'[b]?=h[b]?)(hn:∀b,x.own=true→b∈β.cN→h'[b]?=h[b]?):dD cv ga h' β x:=by
 cases x with
 |cF=>trivial
 |box cells=>
  simp only[dD]at r⊢;obtain⟨b,cs,e,aK,a7,b8,cj⟩:=r;exact⟨b,cs,e,aK,a7,by rw[hb b rfl aK];exact b8,tR K cells cs.toList cj⟩
 |ai sz xs jt=>
  simp only[dD]at r⊢;obtain⟨e,r⟩:=r;refine⟨e,?_⟩;rcases r with r|⟨b,G,aK,a7,b8,cj,ez,hD⟩
  ·exact .inl r
  ·have hl:=wG xs b β.off sz G cj;refine .inr ⟨b,G,aK,a7,b8.mono (hb b rfl aK),?_,ez,fun k g hg=>K.cn g (hl g hg) (hD k g hg)⟩;refine xR K.hs xs b β.off sz G (hb b rfl aK) (fun g hg=>?_) cj
   cases jt with
   |true=>exact hn g rfl (ez rfl▸hg)
   |false=>exact K.df g (hl g hg) (hD rfl g hg)
 |iA sz xs=>
  simp only[dD]at r⊢;obtain⟨e,r⟩:=r;refine⟨e,?_⟩;rcases r with r|⟨b,G,aK,a7,b8,cj,ez⟩
  ·exact .inl r
  ·have hl:=wG xs b β.off sz G cj;exact .inr ⟨b,G,aK,K.cn b b8 a7,Nat.lt_of_lt_of_le b8 K.hs,xR K.hs xs b β.off sz G (K.df b b8 a7) (fun g hg=>K.df g (hl g hg) (ez g hg)) cj,fun g hg=>K.cn g (hl g hg) (ez g hg)⟩
 |af sz xs=>
  simp only[dD]at r⊢;obtain⟨e,r⟩:=r;refine⟨e,?_⟩;rcases r with r|⟨b,aK,a7,b8,cj⟩
  ·exact .inl r
  ·exact .inr ⟨b,aK,a7,b8.mono (hb b rfl aK),xR K.hs xs b β.off sz _ (hb b rfl aK) (fun g hg=>hn g rfl hg) cj⟩
 |fA sz pre cells post=>
  simp only[dD]at r⊢;obtain⟨e,hc,b,bE,bh,us,aK,a7,b8,cj,ez,hD,wE,y'⟩:=r;refine⟨e,hc,b,bE,bh,us,aK,a7,b8.mono (hb b rfl aK),cj,?_,tR K cells us hD,fun j u ak=>?_,?_⟩
  ·exact xR K.hs pre b β.off sz bE (hb b rfl aK) (fun g hg=>hn g rfl (by rw[cj];simp[hg])) ez
  ·rw[Cu (hb b rfl aK)];exact wE j u ak
  ·exact xR K.hs post b _ sz bh (hb b rfl aK) (fun g hg=>hn g rfl (by rw[cj];simp[hg])) y'
end
theorem cJ.lt{B:Nat→Prop}{w0:World}{aJ:Nat→Prop}{φ:ca}{σ:St}{kp:List (V×Value)}{a:Act}{w:World}(r:R B w0 aJ φ σ kp a w){i b:Nat}(ax:cJ φ σ.heap i b):b<w.heap.size:=by
 obtain⟨β,e,ax⟩:=ax;rcases r.hp i with hd|⟨a1,e',hr⟩
 ·rw[hd]at ax;rcases ax with ⟨h1,_⟩|⟨h1,_⟩<;>cases h1
 ·rw[e]at e';cases e';rcases ax with ⟨h1,h2⟩|⟨h1,h2⟩
  ·cases hx:aG σ.heap i with
   |cF=>rw[hx]at h1;cases h1
   |iA sz xs=>rw[hx]at h1;cases h1
   |box cells=>
    rw[hx]at hr;simp only[dD]at hr;obtain⟨dc,cs,t,aK,a7,b8,cj⟩:=hr;rw[h2]at aK;cases aK;exact l6.lt ⟨cs,t,b8,Nat.zero_le _⟩
   |ai sz xs jt=>
    rw[hx]at hr;simp only[dD]at hr;rcases hr.2 with hr|⟨dc,G,aK,a7,b8,cj,ez,hD⟩
    ·rw[h2]at hr;cases hr.1
    ·rw[h2]at aK;cases aK;exact b8.lt
   |af sz xs=>
    rw[hx]at hr;simp only[dD]at hr;rcases hr.2 with hr|⟨dc,aK,a7,b8,cj⟩
    ·rw[h2]at hr;cases hr.1
    ·rw[h2]at aK;cases aK;exact b8.lt
   |fA sz pre cells post=>
    rw[hx]at hr;simp only[dD]at hr;obtain⟨_,_,dc,bE,bh,us,aK,a7,b8,cj⟩:=hr;rw[h2]at aK;cases aK;exact b8.lt
  ·cases hx:aG σ.heap i with
   |cF=>rw[hx]at h1;cases h1
   |iA sz xs=>rw[hx]at h1;cases h1
   |box cells=>rw[hx]at h1;cases h1
   |ai sz xs jt=>
    cases jt with
    |false=>rw[hx]at h1;cases h1
    |true=>
     rw[hx]at hr;simp only[dD]at hr;rcases hr.2 with hr|⟨dc,G,aK,a7,b8,cj,ez,hD⟩
     ·rw[hr.2.2.2]at h2;cases h2
     ·exact wG xs dc β.off sz G cj b ((ez trivial)▸h2)
   |af sz xs=>
    rw[hx]at hr;simp only[dD]at hr;rcases hr.2 with hr|⟨dc,aK,a7,b8,cj⟩
    ·rw[hr.2.2.2]at h2;cases h2
    ·exact wG xs dc β.off sz _ cj b h2
   |fA sz pre cells post=>
    rw[hx]at hr;simp only[dD]at hr;obtain⟨_,_,dc,bE,bh,us,aK,a7,b8,cj,ez,hD,wE,y'⟩:=hr;rw[cj]at h2;rcases List.mem_append.1 h2 with h2|h2
    ·exact wG pre dc β.off sz _ ez b h2
    ·exact wG post dc _ sz _ y' b h2
theorem Tf{B:Nat→Prop}{w0:World}{aJ:Nat→Prop}{φ:ca}{σ:St}{kp:List (V×Value)}{a:Act}{w:World}(r:R B w0 aJ φ σ kp a w){i:Nat}{β:gd}(e:φ i=some β)
  (hx:(aG σ.heap i).own=true) (hs:(aG σ.heap i).shut=false) {b:Nat} (hb:b∈β.cN):cb φ σ.heap b:=by
 intro j a1 e' ht;have:=r.dy i j b ⟨β,e,.inr ⟨hx,hb⟩⟩ (jw.wD e' ht);subst this;rw[e]at e';cases e';rcases ht with ⟨_,he⟩|⟨hl,_⟩
 ·exact(r.eK i β e hx).2 b he hb
 ·rw[hs]at hl;cases hl
theorem wx{B:Nat→Prop}{w0:World}{aJ:Nat→Prop}{φ:ca}{σ:St}{kp:List (V×Value)}{a:Act}{w:World}(r:R B w0 aJ φ σ kp a w)
  (S:Nat→Prop) (yZ:Nat→Prop) (cv:ca) (hs':List H) (w':World)
  (k1:∀i,¬S i→aG hs' i=aG σ.heap i∧cv i=φ i)
  (k2:mY φ cv)
  (dC:w.heap.size≤w'.heap.size)
  (iK:∀b,b<w.heap.size→(∀i,S i→∀β,φ i=some β→¬jw (aG σ.heap i) β b)→w'.heap[b]?=w.heap[b]?)
  (y1:∀i,S i→∀b,cJ cv hs' i b→w.heap.size≤b∨∃j,S j∧cJ φ σ.heap j b)
  (abK:∀i,S i→∀a1,cv i=some a1→∀b,jw (aG hs' i) a1 b→w.heap.size≤b∨∃j β,S j∧φ j=some β∧jw (aG σ.heap j) β b)
  (abL:∀i j b,S i→S j→cJ cv hs' i b→cJ cv hs' j b→i=j)
  (abM:∀i β,S i→cv i=some β→(aG hs' i).own=true→β.cN.Nodup∧∀b,β.dJ=some b→b∉β.cN)
  (abN:∀i,S i→aG hs' i=.cF∨∃β,cv i=some β∧dD cv (cb cv hs') w'.heap β (aG hs' i))
  (abO:∀i β,cv i=some β→yZ i)
  (abP:Bel B w0 w') :
  R B w0 yZ cv ⟨σ.tmps,hs'⟩ kp a w':=by
 have cn:∀b,b<w.heap.size→cb φ σ.heap b→cb cv hs' b:=by
  intro b hb ht i a1 e' he;by_cases hi:S i
  ·rcases abK i hi a1 e' b he with h1|⟨j,β,h1,h2,aj⟩
   ·omega
   ·exact ht j β h2 aj
  ·obtain⟨ag,e2⟩:=k1 i hi;exact ht i a1 (e2▸e') (ag▸he)
 have df:∀b,b<w.heap.size→cb φ σ.heap b→w'.heap[b]?=w.heap[b]?:=fun b hb ht=>iK b hb fun i _ β e=>ht i β e;have fH:∀i b,¬S i→cJ cv hs' i b→cJ φ σ.heap i b:=by
  intro i b hi ax;obtain⟨ag,e2⟩:=k1 i hi;unfold cJ at ax⊢;rw[ag,e2]at ax;exact ax
 have K:BS φ cv (cb φ σ.heap) (cb cv hs') w.heap w'.heap:=⟨k2,cn,df,dC⟩;refine⟨tR K _ _ r.gJ,fun p hp=>DT K _ _ (r.kp p hp),fun i=>?_,fun i j b hi ak=>?_,fun i β e hx=>?_,fun i b ax=>?_,abO,abP,fun k hk=>r.bs k (Nat.le_trans dC hk),r.mZ,r.kE⟩
 ·by_cases hi:S i
  ·exact abN i hi
  ·obtain⟨ag,e2⟩:=k1 i hi;simp only[ag,e2];rcases r.hp i with hd|⟨β,e,hr⟩
   ·exact .inl hd
   ·refine .inr ⟨β,e,Lt K hr (fun b hl hb=>?_) (fun b hx hb=>?_)⟩
    ·refine iK b (cJ.lt r ⟨β,e,.inl ⟨hl,hb⟩⟩) fun j ak a1 e' lE=>?_;have:=r.dy i j b ⟨β,e,.inl ⟨hl,hb⟩⟩ (jw.wD e' lE);exact hi (this▸ak)
    ·refine iK b (cJ.lt r ⟨β,e,.inr ⟨hx,hb⟩⟩) fun j ak a1 e' lE=>?_;have:=r.dy i j b ⟨β,e,.inr ⟨hx,hb⟩⟩ (jw.wD e' lE);exact hi (this▸ak)
 ·by_cases EJ:S i<;>by_cases EK:S j
  ·exact abL i j b EJ EK hi ak
  ·have h2:=fH j b EK ak;rcases y1 i EJ b hi with h1|⟨k,h1,aj⟩
   ·have:=cJ.lt r h2;omega
   ·exact absurd (r.dy k j b aj h2▸h1) EK
  ·have h2:=fH i b EJ hi;rcases y1 j EK b ak with h1|⟨k,h1,aj⟩
   ·have:=cJ.lt r h2;omega
   ·exact absurd (r.dy k i b aj h2▸h1) EJ
  ·exact r.dy i j b (fH i b EJ hi) (fH j b EK ak)
 ·by_cases hi:S i
  ·exact abM i β hi e hx
  ·obtain⟨ag,e2⟩:=k1 i hi;simp only[ag,e2]at hx e;exact r.eK i β e hx
 ·by_cases hi:S i
  ·rcases y1 i hi b ax with h1|⟨j,h1,h2⟩
   ·exact r.bs _ h1
   ·exact r.eL j b h2
  ·exact r.eL i b (fH i b hi ax)
theorem l8{B:Nat→Prop}{w0:World}{aJ:Nat→Prop}{φ:ca}{σ:St}{kp:List (V×Value)}{a:Act}{w:World}(r:R B w0 aJ φ σ kp a w)(dst:Option Tmp){v:V}{u:Value}
  (hv:VRel φ (cb φ σ.heap) w.heap v u):R B w0 aJ φ ⟨match dst with|some t=>σ.tmps.set t v|none=>σ.tmps,σ.heap⟩ kp (a.put dst u) w:=by
 cases dst with
 |none=>exact r
 |some t=>
  refine⟨?_,r.kp,r.hp,r.dy,r.eK,r.eL,r.fl,r.fm,r.bs,r.mZ,r.kE⟩;have:=abJ r.gJ hv t;simpa [Act.put]using this
theorem abQ(hs:List H)(n i:Nat)(x:H)(hn:n<hs.length):aG (hs.set n x) i=if i=n then x else aG hs i:=by
 unfold aG;simp only[List.getD_eq_getElem?_getD,List.getElem?_set];by_cases hi:n=i
 ·subst hi;simp[hn]
 ·have:¬i=n:=fun e=>hi e.symm;simp[hi,this]
theorem Sc{B:Nat→Prop}{w0:World}{aJ:Nat→Prop}{φ:ca}{σ:St}{kp:List (V×Value)}{a:Act}{w w':World}(r:R B w0 aJ φ σ kp a w)(hh:w'.heap=w.heap)(hb:Bel B w0 w'):R B w0 aJ φ σ kp a w':=
 ⟨by rw[hh];exact r.gJ,by rw[hh];exact r.kp,by rw[hh];exact r.hp,r.dy,r.eK,r.eL,r.fl,hb,by rw[hh];exact r.bs,r.mZ,r.kE⟩
def tyI(P:Program)(T:TypeId):Option (Nat×Bool):=
 match P.info? T,P.underlying T with
 |some i,some d=>some (i.size,match d with|.struct _|.array _ _=>true|_=>false)
 |_,_=>none
def elI(P:Program)(T:TypeId):Option (TypeId×Nat×Nat):=
 match P.underlying T with
 |some (.slice e)=>(P.info? e).map fun i=>(e,i.size,i.bytes)
 |_=>none
def arI(P:Program)(T:TypeId):Option (Nat×Nat):=
 match P.underlying T with
 |some (.array n e)=>(P.info? e).map fun i=>(n,i.size)
 |_=>none
def fdI(P:Program)(S f:Nat):Option Nat:=
 match P.underlying S with
 |some (.struct cu)=>
  match cu[f]? with
  |some H2=>
   match P.info? H2.type with
   |some i=>if i.size=0 then none else some H2.offset
   |none=>none
  |none=>none
 |_=>none
def isStrI(P:Program)(T:TypeId):Bool:=match P.underlying T with|some .string=>true|_=>false
def intI(P:Program)(T:TypeId):Option IntKind:=match P.underlying T with|some (.int k)=>some k|_=>none
def HU(k:IntKind)(n:Int):Bool:=decide (k.min≤n)&&decide (n≤k.max)
def ofVal:Value→V
 |.int k n=>if HU k n then .d (.int k n)else .J
 |.bool b=>.d (.bool b)
 |.string s=>if s.data.toList.length≤maxLen then .d (.str s.data.toList)else .J
 |.slice none 0 0=>.c7 0
 |_=>.J
theorem Tp{φ:ca}{T:Nat→Prop}{h:Array Obj}(u:Value):VRel φ T h (ofVal u) u:=by
 unfold ofVal;split
 ·split
  ·rename_i k n hk;simp only[HU,Bool.and_eq_true,decide_eq_true_eq]at hk;exact⟨[],⟨rfl,rfl,hk.1,hk.2⟩,by simp⟩
  ·trivial
 ·rename_i b;exact⟨[],⟨rfl,rfl⟩,by simp⟩
 ·split
  ·rename_i s hs;exact⟨[],⟨rfl,rfl,hs⟩,by simp⟩
  ·trivial
 ·simp[VRel]
 ·trivial
def St.ev(σ:St):Operand→V
 |.tmp t=>σ.tmps.getD t .J
 |.const v=>ofVal v
 |.func f=>.fn f []
 |.global g=>match vk.find? (fun p=>p.1 == g)with|some p=>.eN p.2 0|none=>.J
section
variable {B:Nat→Prop} {w0:World} {aJ:Nat→Prop} {φ:ca} {σ:St} {kp:List (V×Value)} {a:Act} {w:World}
theorem xy(r:R B w0 aJ φ σ kp a w)(x:Operand):VRel φ (cb φ σ.heap) w.heap (σ.ev x) (a.eval x):=by
 cases x with
 |tmp t=>
  simp only[St.ev,Act.eval,List.getD_eq_getElem?_getD]
  cases ht:σ.tmps[t]? with
  |none=>simp[VRel]
  |some v=>
   obtain⟨u,h1,h2⟩:=vi _ _ r.gJ t v ht;rw[Array.getElem?_toList]at h1;simpa [h1]using h2
 |const v=>exact Tp v
 |func f=>simp only[St.ev,Act.eval,VRel];exact⟨#[],rfl,by simp[VRels]⟩
 |global g=>
  simp only[St.ev];split
  ·rename_i p hp;have h1:=List.find?_some hp;have h2:=List.mem_of_find?_eq_some hp;have:=r.kp (.eN p.2 0,.pointer (some ⟨p.1,0,none⟩)) (List.mem_append_left _ (List.mem_map.2 ⟨p,h2,rfl⟩));have e:p.1=g:=by simpa using h1
   rw[e]at this;exact this
  ·simp[VRel]
theorem R.Mj(r:R B w0 aJ φ σ kp a w):GOk w.heap:=⟨fun p hp=>by
 have:=r.kp (.eN p.2 0,.pointer (some ⟨p.1,0,none⟩)) (List.mem_append_left _ (List.mem_map.2 ⟨p,hp,rfl⟩));simp only[VRel]at this;obtain⟨b,f,G,e,h1,_,h2,_⟩:=this
 cases e
 have bw:=Mv _ _ _ (abv p hp) h2;subst bw;exact⟨h1,h2⟩,r.kE.2.mono fun p hp=>r.fm.block p.1 (r.kE.1 p hp)⟩
theorem abV{φ:ca}{T:Nat→Prop}{h:Array Obj}(g:GOk h)(cn:∀p∈vk,T p.1):∀p∈Tb,VRel φ T h p.1 p.2:=by
 intro p hp;obtain⟨q,hq,rfl⟩:=List.mem_map.1 hp;obtain⟨h1,h2⟩:=g.1 q hq;simp only[VRel];exact⟨q.1,0,[],rfl,h1,cn q hq,h2,by simp⟩
end
structure dS where
 v:V
 new:List H
 upd:List (Nat×H)
def bI(hs:List H)(i:Nat)(x:H):List H:=
 if i<hs.length then hs.set i x else hs++List.replicate (i-hs.length) .cF++[x]
theorem gF(hs:List H)(i:Nat)(x:H)(j:Nat):aG (bI hs i x) j=if j=i then x else aG hs j:=by
 unfold bI;split
 ·rename_i hi;exact abQ hs i j x hi
 ·rename_i hi;unfold aG;simp only[List.getD_eq_getElem?_getD,List.append_assoc,List.getElem?_append];by_cases ak:j=i
  ·subst ak;simp[hi]
  ·simp only[ak,if_false,List.length_replicate];by_cases h1:j<hs.length
   ·simp[h1]
   ·simp only[h1,if_false,List.getElem?_eq_none (Nat.le_of_not_lt h1)];by_cases h2:j-hs.length<i-hs.length
    ·simp[h2]
    ·have:1≤j-hs.length-(i-hs.length):=by omega
     simp[h2,List.getElem?_eq_none,this]
def hnew:List H→Nat→List H→List H
 |hs,_,[]=>hs
 |hs,n,x::xs=>hnew (bI hs n x) (n+1) xs
def hupd:List H→List (Nat×H)→List H
 |hs,[]=>hs
 |hs,(i,x)::r=>hupd (bI hs i x) r
theorem As:∀(xs:List H) (hs:List H) (n j:Nat),aG (hnew hs n xs) j=if n≤j∧j<n+xs.length then xs.getD (j-n) .cF else aG hs j
 |[],hs,n,j=>by
  have:¬(n≤j∧j<n+([]:List H).length):=by simp only[List.length_nil];omega
  rw[if_neg this];rfl
 |x::xs,hs,n,j=>by
  rw[hnew,As xs (bI hs n x) (n+1) j,gF];by_cases h1:n+1≤j∧j<n+1+xs.length
  ·rw[if_pos h1,if_pos (by simp only[List.length_cons];omega)];rw[show j-n=(j-(n+1))+1 from by omega];simp[List.getD]
  ·rw[if_neg h1];by_cases h2:j=n
   ·subst h2;rw[if_pos rfl,if_pos (by simp)];simp
   ·rw[if_neg h2,if_neg (by simp only[List.length_cons];omega)]
def St.cR(σ:St)(dst:Option Tmp)(n:Nat)(r:dS):St:=
 ⟨match dst with|some t=>σ.tmps.set t r.v|none=>σ.tmps,hupd (hnew σ.heap n r.new) r.upd⟩
def St.le(σ σ':St):Prop:=
 (∀(t:Nat) (v:V),σ.tmps[t]?=some v→v=V.J∨σ'.tmps[t]?=some v)∧∀i,aG σ.heap i=.cF∨aG σ'.heap i=aG σ.heap i
theorem St.le.refl(σ:St):σ.le σ:=⟨fun _ _ h=>.inr h,fun _=>.inr rfl⟩
theorem St.le.ev{σ σ':St}(h:σ.le σ')(x:Operand):σ.ev x=.J∨σ'.ev x=σ.ev x:=by
 cases x with
 |tmp t=>
  simp only[St.ev,List.getD_eq_getElem?_getD]
  cases ht:σ.tmps[t]? with
  |none=>exact .inl rfl
  |some v=>
   rcases h.1 t v ht with rfl|h2
   ·exact .inl rfl
   ·exact .inr (by rw[h2])
 |const v=>exact .inr rfl
 |func f=>exact .inr rfl
 |global g=>exact .inr rfl
def gb(P:Program)(o:Oper)(g:Bool)(σ:St)(n:Nat)(r:dS):Prop:=
 ∀σ':St,σ.le σ'→(∀i,n≤i→i<n+r.new.length→aG σ'.heap i=.cF)→
 ∀(B:Nat→Prop) (w0:World) (aJ:Nat→Prop) (φ:ca) (kp:List (V×Value)) (a:Act) (w:World),(∀i,n≤i→i<n+r.new.length→¬aJ i)→R B w0 aJ φ σ' kp a w→g=true→
 ∀(K:Act→World→Prop) (Q:Exit→Act→World→Prop),
  (∀u w' cv,R B w0 (fun i=>aJ i∨(n≤i∧i<n+r.new.length)) cv (σ'.cR o.dst n r) kp (a.put o.dst u) w'→K (a.put o.dst u) w')→o.wp P a w K Q
def evg(g:Bool)(v:V)(K:V→Prop):Prop:=
 match v with
 |.bq c v=>(g=true→c=true)∧K v
 |v=>K v
theorem ma{P:Program}{o:Oper}{g:Bool}{σ:St}{n:Nat}{v:V}
  (h:∀σ':St,σ.le σ'→∀(B:Nat→Prop) (w0:World) (aJ:Nat→Prop) (φ:ca) (kp:List (V×Value)) (a:Act) (w:World),R B w0 aJ φ σ' kp a w→g=true→
   ∃u,(execOp a.eval o).run P w=.ok (.value u) w∧VRel φ (cb φ σ'.heap) w.heap v u):gb P o g σ n ⟨v,[],[]⟩:=by
 intro σ' hle _ B w0 aJ φ kp a w _ aI hg K Q bF;obtain⟨u,h1,h2⟩:=h σ' hle B w0 aJ φ kp a w aI hg;unfold Oper.wp;rw[h1,Oper.upon_value];refine bF u w φ ?_;have hr:=l8 aI o.dst h2;refine⟨hr.gJ,hr.kp,hr.hp,hr.dy,hr.eK,hr.eL,fun i β e=>.inl (hr.fl i β e),hr.fm,hr.bs,hr.mZ,hr.kE⟩
theorem fw{g:Bool}{v:V}{K:V→Prop}(h:evg g v K):∃e7,K e7∧∀(φ:ca) (T:Nat→Prop) (hp:Array Obj) (u:Value),g=true→VRel φ T hp v u→VRel φ T hp e7 u:=by
 unfold evg at h;split at h
 ·rename_i c e7;exact⟨e7,h.2,fun φ T hp u hg hr=>by simp only[VRel]at hr;exact hr.1 (h.1 hg)⟩
 ·exact⟨v,h,fun _ _ _ _ _ hr=>hr⟩
theorem fg{σ σ':St}{B:Nat→Prop}{w0:World}{aJ:Nat→Prop}{φ:ca}{kp:List (V×Value)}{a:Act}{w:World}(hle:σ.le σ')(r:R B w0 aJ φ σ' kp a w)(x:Operand) :
  VRel φ (cb φ σ'.heap) w.heap (σ.ev x) (a.eval x):=by
 rcases hle.ev x with h|h
 ·rw[h];trivial
 ·rw[←h];exact xy r x
def kb(P:Program)(T:TypeId):V→V
 |.c7 s=>.c7 (match elI P T with|some (_,sz,_)=>sz|none=>s)
 |v=>v
theorem Tq{P:Program}{T:TypeId}{φ:ca}{ga:Nat→Prop}{h:Array Obj}{v:V}{u:Value}(r:VRel φ ga h v u):VRel φ ga h (kb P T v) u:=by
 cases v<;>first|exact r|(simp only[kb,VRel]at r⊢;exact r)
def V.cells:V→List V
 |.agg vs=>vs
 |v=>[v]
def V.oneB:V→Bool
 |.d _|.c7 _|.ptr _ _ _|.eN _ _|.sl _ _ _|.fn _ _=>true
 |_=>false
theorem lL{φ:ca}{T:Nat→Prop}{h:Array Obj}{v:V}{u:Value}(hb:v.oneB=true)(r:VRel φ T h v u):u.oneCell'=true∧u.cells=#[u]:=by
 cases v<;>simp only[V.oneB]at hb<;>simp only[VRel]at r
 case d x=>
  obtain⟨F,aK,_⟩:=r;have:=L5 aK;refine⟨this,?_⟩
  cases u<;>first|rfl|(simp[Value.oneCell']at this)
 case c7 s=>subst r;exact⟨rfl,rfl⟩
 case ptr id bU off=>obtain⟨β,b,_,_,r⟩:=r;subst r;exact⟨rfl,rfl⟩
 case eN cells off=>obtain⟨b,f,G,r,_⟩:=r;subst r;exact⟨rfl,rfl⟩
 case sl id off len=>obtain⟨β,a,c,_,r,_⟩:=r;subst r;exact⟨rfl,rfl⟩
 case fn f dU=>obtain⟨us,r,_⟩:=r;subst r;exact⟨rfl,rfl⟩
 all_goals cases hb
def V.wz:V→Bool
 |.agg vs=>vs.all V.oneB
 |v=>v.oneB
theorem EI{φ:ca}{T:Nat→Prop}{h:Array Obj}{v:V}{u:Value}(hb:v.wz=true)(r:VRel φ T h v u):VRels φ T h v.cells u.cells.toList∧∀x∈u.cells.toList,x.oneCell'=true:=by
 cases v with
 |agg vs=>
  simp only[VRel]at r;obtain⟨us,rfl,r⟩:=r;simp only[V.wz,List.all_eq_true]at hb;refine⟨r,fun x hx=>?_⟩;obtain⟨j,ak,rfl⟩:=List.getElem_of_mem hx;have hl:=jW _ _ r;obtain⟨kV,h1,h2⟩:=vi _ _ r j (vs[j]'(by simp only[Value.cells]at ak;omega)) (List.getElem?_eq_getElem _);simp only[Value.cells]at ak⊢;rw[List.getElem?_eq_getElem ak]at h1
  cases h1
  exact(lL (hb _ (List.getElem_mem _)) h2).1
 |d x=>exact⟨by rw[(lL rfl r).2];simp only[V.cells,VRels];exact⟨_,_,rfl,r,rfl⟩,by rw[(lL rfl r).2];simpa using(lL rfl r).1⟩
 |c7 x=>exact⟨by rw[(lL rfl r).2];simp only[V.cells,VRels];exact⟨_,_,rfl,r,rfl⟩,by rw[(lL rfl r).2];simpa using(lL rfl r).1⟩
 |ptr x y z=>exact⟨by rw[(lL rfl r).2];simp only[V.cells,VRels];exact⟨_,_,rfl,r,rfl⟩,by rw[(lL rfl r).2];simpa using(lL rfl r).1⟩
 |eN x y=>exact⟨by rw[(lL rfl r).2];simp only[V.cells,VRels];exact⟨_,_,rfl,r,rfl⟩,by rw[(lL rfl r).2];simpa using(lL rfl r).1⟩
 |sl x y z=>exact⟨by rw[(lL rfl r).2];simp only[V.cells,VRels];exact⟨_,_,rfl,r,rfl⟩,by rw[(lL rfl r).2];simpa using(lL rfl r).1⟩
 |fn x y=>exact⟨by rw[(lL rfl r).2];simp only[V.cells,VRels];exact⟨_,_,rfl,r,rfl⟩,by rw[(lL rfl r).2];simpa using(lL rfl r).1⟩
 |J=>cases hb
 |c6 x=>cases hb
 |bq x y=>cases hb
theorem wL(k:IntKind)(n:Int):k.min≤k.wrap n∧k.wrap n≤k.max:=by
 cases k<;>simp only[IntKind.min,IntKind.max,IntKind.wrap,IntKind.bits,IntKind.signed]<;>simp<;>(try split)<;>omega
theorem TR(k:IntKind):k.min≤0∧0≤k.max:=by
 cases k<;>simp[IntKind.min,IntKind.max,IntKind.bits,IntKind.signed]
theorem acU{k:IntKind}{x y:Int}(h:k.min≤x∧x≤k.max):k.min≤x.tmod y∧x.tmod y≤k.max:=by
 have hk:=TR k;rcases Int.le_total 0 x with h0|h0
 ·have h1:=Int.tmod_nonneg y h0;have h2:x.tmod y≤x:=by
   have:=Int.natAbs_tmod x y;have aj:x.natAbs % y.natAbs≤x.natAbs:=Nat.mod_le _ _;omega
  omega
 ·have h1:x.tmod y≤0:=by
   have:=Int.tmod_nonneg (a:=-x) y (by omega);rw[Int.neg_tmod]at this;omega
  have h2:x≤x.tmod y:=by
   have:=Int.natAbs_tmod x y;have aj:x.natAbs % y.natAbs≤x.natAbs:=Nat.mod_le _ _;omega
  omega
theorem acV{k:IntKind}{x:Int}{n:Nat}(h:k.min≤x∧x≤k.max):k.min≤x.fdiv (2^n)∧x.fdiv (2^n)≤k.max:=by
 have hk:=TR k;have hp:(0:Int)<2^n:=Int.pow_pos (by omega);have he:x.fdiv (2^n)=x / (2^n):=Int.fdiv_eq_ediv_of_nonneg x (by omega);rw[he];rcases Int.le_total 0 x with h0|h0
 ·have h1:0≤x / 2^n:=Int.ediv_nonneg h0 (by omega);have h2:x / 2^n≤x:=Int.ediv_le_self _ h0;omega
 ·have h1:x / 2^n≤0:=by
   have:=Int.ediv_le_ediv hp h0;simpa using this
  have h2:x≤x / 2^n:=by
   rw[Int.le_ediv_iff_mul_le hp];have:x * (2^n-1)≤0:=Int.mul_nonpos_of_nonpos_of_nonneg h0 (by omega);rw[Int.mul_sub]at this;omega
  omega
def bitI(op:BinOp)(k:IntKind)(x y:Int):Int:=
 let a:=BitVec.ofInt k.bits x
 let b:=BitVec.ofInt k.bits y
 k.wrap (match op with
  |.and=>(a &&& b).toNat
  |.or=>(a ||| b).toNat
  |.xor=>(a ^^^ b).toNat
  |_=>(a &&& ~~~b).toNat)
def xS(b:Bool):V:=.d (.bool b)
def oH(k:IntKind)(n:Int):V:=.d (.int k n)
def Ez(s:List UInt8):V:=.d (.str s)
def binI(op:BinOp)(k:IntKind)(x y:Int):Option (Prop×V):=
 match op with
 |.add=>some (True,.d (.int k (k.wrap (x+y))))
 |.sub=>some (True,.d (.int k (k.wrap (x-y))))
 |.mul=>some (True,.d (.int k (k.wrap (x * y))))
 |.quo=>some (y≠0,.d (.int k (k.wrap (x.tdiv y))))
 |.rem=>some (y≠0,.d (.int k (x.tmod y)))
 |.and=>some (True,.d (.int k (bitI .and k x y)))
 |.or=>some (True,.d (.int k (bitI .or k x y)))
 |.xor=>some (True,.d (.int k (bitI .xor k x y)))
 |.eql=>some (True,.d (.bool (x == y)))
 |.neq=>some (True,.d (.bool (x != y)))
 |.lss=>some (True,.d (.bool (decide (x<y))))
 |.leq=>some (True,.d (.bool (decide (x≤y))))
 |.gtr=>some (True,.d (.bool (decide (y<x))))
 |.geq=>some (True,.d (.bool (decide (y≤x))))
 |_=>none
def shI(op:BinOp)(k:IntKind)(x y:Int):Option (Prop×V):=
 match op with
 |.shl=>some (0≤y,.d (.int k (k.wrap (x * 2^min y.toNat k.bits))))
 |.shr=>some (0≤y,.d (.int k (x.fdiv (2^min y.toNat k.bits))))
 |_=>none
def binS(op:BinOp)(x y:List UInt8):Option (Prop×V):=
 match op with
 |.add=>some (x.length+y.length≤maxLen,.d (.str (x++y)))
 |.eql=>some (True,.d (.bool (x == y)))
 |.neq=>some (True,.d (.bool (x != y)))
 |_=>none
def eqD:D→D→Option Bool
 |.int k x,.int ji y=>if k=ji then some (decide (x=y))else none
 |.bool x,.bool y=>some (decide (x=y))
 |.str x,.str y=>some (decide (x=y))
 |_,_=>none
section
variable {φ:ca} {T:Nat→Prop} {h:Array Obj}
theorem l'{k:IntKind}{n:Int}{u:Value}(r:VRel φ T h (.d (.int k n)) u):u=.int k n∧k.min≤n∧n≤k.max:=by
 simp only[VRel,rep]at r;obtain⟨F,⟨aK,_,a7,b8⟩,_⟩:=r;exact⟨aK,a7,b8⟩
theorem mv{b:Bool}{u:Value}(r:VRel φ T h (.d (.bool b)) u):u=.bool b:=by
 simp only[VRel,rep]at r;obtain⟨F,⟨aK,_⟩,_⟩:=r;exact aK
theorem zi{s:List UInt8}{u:Value}(r:VRel φ T h (.d (.str s)) u):u=.string ⟨s.toArray⟩∧s.length≤maxLen:=by
 simp only[VRel,rep]at r;obtain⟨F,⟨aK,_,a7⟩,_⟩:=r;exact⟨aK,a7⟩
theorem m8{k:IntKind}{n:Int}(h1:k.min≤n∧n≤k.max):VRel φ T h (.d (.int k n)) (.int k n):=by
 simp only[VRel,rep];exact⟨[],⟨trivial,rfl,h1.1,h1.2⟩,by simp⟩
theorem vq(b:Bool):VRel φ T h (.d (.bool b)) (.bool b):=by
 simp only[VRel,rep];exact⟨[],⟨trivial,rfl⟩,by simp⟩
theorem ER{s:List UInt8}(h1:s.length≤maxLen):VRel φ T h (.d (.str s)) (.string ⟨s.toArray⟩):=by
 simp only[VRel,rep];exact⟨[],⟨trivial,rfl,h1⟩,by simp⟩
end
theorem acW(x y:List UInt8):(⟨x.toArray⟩:ByteArray)++(⟨y.toArray⟩:ByteArray)=⟨(x++y).toArray⟩:=by
 apply ByteArray.ext;simp[ByteArray.data_append]
theorem TS(x:List UInt8):(⟨x.toArray⟩:ByteArray).toList=x:=by
 rw[Go.ByteArray.toList_eq]
section
variable {P:Program} {w:World} {φ:ca} {T:Nat→Prop} {h:Array Obj}
theorem ab7{op:BinOp}{k:IntKind}{x y:Int}{p:Prop}{v:V}(hx:k.min≤x∧x≤k.max)(ah:binI op k x y=some (p,v))(hp:p)(t:TypeId) :
  ∃u,(binOp op t (.int k x) (.int k y)).run P w=.ok u w∧VRel φ T h v u:=by
 cases op<;>simp only[binI,Option.some.injEq,Prod.mk.injEq,reduceCtorEq]at ah<;>obtain⟨rfl,rfl⟩:=ah
 case add=>exact⟨_,by simp[binOp,Op.intArith],m8 (wL _ _)⟩
 case sub=>exact⟨_,by simp[binOp,Op.intArith],m8 (wL _ _)⟩
 case mul=>exact⟨_,by simp[binOp,Op.intArith],m8 (wL _ _)⟩
 case quo=>exact⟨_,by simp[binOp,Op.intDiv,hp],m8 (wL _ _)⟩
 case rem=>exact⟨_,by simp[binOp,Op.intDiv,hp],m8 (acU hx)⟩
 case and=>exact⟨_,by simp[binOp,Op.intBits,bitI],m8 (wL _ _)⟩
 case or=>exact⟨_,by simp[binOp,Op.intBits,bitI],m8 (wL _ _)⟩
 case xor=>exact⟨_,by simp[binOp,Op.intBits,bitI],m8 (wL _ _)⟩
 all_goals exact⟨_,by simp[binOp,Op.intCmp],vq _⟩
theorem Tw{op:BinOp}{k ji:IntKind}{x y:Int}{p:Prop}{v:V}(hx:k.min≤x∧x≤k.max)(ah:shI op k x y=some (p,v))(hp:p)(t:TypeId) :
  ∃u,(binOp op t (.int k x) (.int ji y)).run P w=.ok u w∧VRel φ T h v u:=by
 cases op<;>simp only[shI,Option.some.injEq,Prod.mk.injEq,reduceCtorEq]at ah<;>obtain⟨rfl,rfl⟩:=ah
 case shl=>exact⟨_,by simp[binOp,Op.shift,Int.not_lt.2 hp],m8 (wL _ _)⟩
 case shr=>exact⟨_,by simp[binOp,Op.shift,Int.not_lt.2 hp],m8 (acV hx)⟩
theorem ab8{op:BinOp}{x y:List UInt8}{p:Prop}{v:V}(ah:binS op x y=some (p,v))(hp:p)(t:TypeId) :
  ∃u,(binOp op t (.string ⟨x.toArray⟩) (.string ⟨y.toArray⟩)).run P w=.ok u w∧VRel φ T h v u:=by
 cases op<;>simp only[binS,Option.some.injEq,Prod.mk.injEq,reduceCtorEq]at ah<;>obtain⟨rfl,rfl⟩:=ah
 case add=>
  refine⟨_,?_,ER (by simpa using hp)⟩;have h1:¬(((⟨x.toArray⟩:ByteArray).size+(⟨y.toArray⟩:ByteArray).size:Nat):Int)>IntKind.i64.max:=by
   have h2:(⟨x.toArray⟩:ByteArray).size=x.length:=by simp[ByteArray.size]
   have aj:(⟨y.toArray⟩:ByteArray).size=y.length:=by simp[ByteArray.size]
   have bX:IntKind.i64.max=9223372036854775807:=by decide
   rw[h2,aj,bX];simp only[maxLen]at hp;omega
  simp only[binOp,Op.stringOp];rw[if_neg h1,acW];rfl
 case eql=>exact⟨_,by simp only[binOp,Op.stringOp,TS];rfl,vq _⟩
 case neq=>exact⟨_,by simp only[binOp,Op.stringOp,TS];rfl,vq _⟩
end
def asB(v:V)(K:Bool→Prop):Prop:=match v with|.d (.bool b)=>K b|_=>False
def asI(v:V)(K:IntKind→Int→Prop):Prop:=match v with|.d (.int k n)=>K k n|_=>False
theorem H3{v:V}{K:Bool→Prop}(h:asB v K):∃b,v=.d (.bool b)∧K b:=by
 unfold asB at h;split at h
 ·exact⟨_,rfl,h⟩
 ·exact h.elim
theorem zf{v:V}{K:IntKind→Int→Prop}(h:asI v K):∃k n,v=.d (.int k n)∧K k n:=by
 unfold asI at h;split at h
 ·exact⟨_,_,rfl,h⟩
 ·exact h.elim
variable {P:Program} {o:Oper} {g:Bool} {σ:St} {n:Nat} {K:dS→Prop}
def ck(v:V):dS:=⟨v,[],[]⟩
theorem SH{x:Operand}(ax:o.op=.move x∨o.op=.assign x)(h:evg g (σ.ev x) fun v=>K (ck (kb P o.type v))):∃r,gb P o g σ n r∧K r:=by
 obtain⟨v,bF,hr⟩:=fw h;refine⟨_,ma fun σ' hle B w0 aJ φ kp a w r hg=>⟨a.eval x,?_,Tq (hr _ _ _ _ hg (fg hle r x))⟩,bF⟩;rcases ax with ax|ax<;>(unfold execOp;rw[ax];rfl)
def AB(g:Bool)(c a b:V)(K:V→Prop):Prop:=
 evg g c fun c=>asB c fun x=>evg (g&&x) a fun a=>asB a fun y=>evg (g&&!x) b fun b=>asB b fun z=>K (xS (bif x then y else z))
theorem aaY{c x y:Operand}(ax:o.op=.pick c x y)(h:AB g (σ.ev c) (σ.ev x) (σ.ev y) fun v=>K (ck v)):∃r,gb P o g σ n r∧K r:=by
 obtain⟨c',h,hc⟩:=fw h;obtain⟨b,rfl,h⟩:=H3 h;obtain⟨kV,h,hx⟩:=fw h;obtain⟨abW,rfl,h⟩:=H3 h;obtain⟨anW,h,hy⟩:=fw h;obtain⟨abX,rfl,h⟩:=H3 h;refine⟨_,ma fun σ' hle B w0 aJ φ kp a w r hg=>?_,h⟩;have ag:=mv (hc _ _ _ _ hg (fg hle r c))
 cases b with
 |true=>
  have e2:=mv (hx _ _ _ _ (by simp[hg]) (fg hle r x));exact⟨.bool abW,by unfold execOp;rw[ax];simp[ag,e2,asBool],vq _⟩
 |false=>
  have e2:=mv (hy _ _ _ _ (by simp[hg]) (fg hle r y));exact⟨.bool abX,by unfold execOp;rw[ax];simp[ag,e2,asBool],vq _⟩
def eqCells:List V→List V→Option Bool
 |[],[]=>some true
 |.d x::xs,.d y::ys=>match eqD x y,eqCells xs ys with|some a,some b=>some (a&&b)|_,_=>none
 |_,_=>none
inductive oI where
 |i (k:IntKind)
 |b
 |s
def Fit1:oI→Value→Prop
 |.i q,.int Ag n=>Ag=q∧q.min≤n∧n≤q.max
 |.b,.bool _=>True
 |.s,.string s=>s.size≤maxLen
 |_,_=>False
def FitL:List oI→List Value→Prop
 |[],us=>us=[]
 |k::cY,us=>∃u us',us=u::us'∧Fit1 k u∧FitL cY us'
def litV:Value→Lit
 |.int q n=>.int q n
 |.bool b=>.bool b
 |.string s=>.string s.data.toList
 |_=>.bool false
theorem H4:∀{cY:List oI} {us:List Value},FitL cY us→us.length=cY.length
 |[],us,h=>by simp only[FitL]at h;rw[h];rfl
 |k::cY,us,h=>by
  simp only[FitL]at h;obtain⟨u,us',rfl,_,h⟩:=h;simp[H4 h]
theorem MN:∀{cY jb:List oI} {us:List Value},FitL (cY++jb) us→FitL cY (us.take cY.length)∧FitL jb (us.drop cY.length)
 |[],jb,us,h=>by simpa [FitL]using h
 |k::cY,jb,us,h=>by
  simp only[List.cons_append,FitL]at h;obtain⟨u,us',rfl,h1,h⟩:=h;obtain⟨h2,aj⟩:=MN h;exact⟨⟨u,us'.take cY.length,by simp,h1,h2⟩,by simpa using aj⟩
def shpF(P:Program)(g:TypeId→Option (List oI)):Nat→List Field→Option (List oI)
 |_,[]=>some []
 |off,f::cu=>
  match g f.type with
  |some cY=>if f.offset=off∧P.cellsOf f.type=cY.length then(shpF P g (off+cY.length) cu).map (cY++·)else none
  |none=>none
def shp(P:Program):Nat→TypeId→Option (List oI)
 |0,_=>none
 |d+1,t=>
  match P.underlying t with
  |some .bool=>some [.b]
  |some (.int q)=>some [.i q]
  |some .string=>some [.s]
  |some (.struct cu)=>
   match shpF P (shp P d) 0 cu.toList with
   |some cY => if P.cellsOf t = cY.length ∧ cu.all (·.name != "_") = true then some cY else none
   |none=>none
  |some (.array n e)=>
   match shp P d e with
   |some cY=>if P.cellsOf e=cY.length∧P.cellsOf t=n * cY.length then some (List.replicate n cY).flatten else none
   |none=>none
  |_=>none
theorem Tr{α β:Type}{g:α→Option β}{h:α→β}:∀(l:List α),(∀x∈l,g x=some (h x))→l.mapM g=some (l.map h)
 |[],_=>rfl
 |x::l,e=>by
  rw[List.mapM_cons,e x (by simp),Tr l fun y hy=>e y (by simp[hy])];rfl
theorem Ts{cY:List oI}:∀(n:Nat) (us:List Value),FitL (List.replicate n cY).flatten us→us.length=n * cY.length∧(∀i,i<n→FitL cY ((us.drop (i * cY.length)).take cY.length))∧
  ((List.range n).map fun i=>((us.drop (i * cY.length)).take cY.length).map litV).flatten=us.map litV
 |0,us,h=>by
  have:us=[]:=by simpa [FitL]using h
  subst this;simp
 |n+1,us,h=>by
  rw[List.replicate_succ,List.flatten_cons]at h;obtain⟨h1,h2⟩:=MN h;obtain⟨aj,aD,bX⟩:=Ts n _ h2;have hl:=H4 h;rw[List.length_append]at hl;have CB:=aj;rw[List.length_drop]at aj;have hk:cY.length≤us.length:=by omega
  refine⟨by rw[Nat.add_mul];omega,fun i hi=>?_,?_⟩
  ·cases i with
   |zero=>simpa using h1
   |succ i=>
    have:=aD i (by omega)
    rwa [List.drop_drop,show cY.length+i * cY.length=(i+1) * cY.length from by rw[Nat.add_mul];omega]at this
  ·rw[List.range_succ_eq_map,List.map_cons,List.flatten_cons,List.map_map];have:((fun i=>((us.drop (i * cY.length)).take cY.length).map litV)∘Nat.succ)=fun i=>(((us.drop cY.length).drop (i * cY.length)).take cY.length).map litV:=by
    funext i
    simp only[Function.comp,List.drop_drop,Nat.succ_eq_add_one];rw[show cY.length+i * cY.length=(i+1) * cY.length from by rw[Nat.add_mul];omega]
   rw[this,bX,Nat.zero_mul,List.drop_zero,←List.map_append,List.take_append_drop]
theorem Tt{P:Program}{g:TypeId→Option (List oI)}{d:Nat}(hg:∀t cY us,g t=some cY→FitL cY us→P.keyLits d t us=some (us.map litV))(cs:List Value):∀(cu:List Field) (off:Nat) (cY:List oI),
  shpF P g off cu=some cY→FitL cY (cs.drop off)→∃jb,cu.mapM (fun f=>P.keyLits d f.type ((cs.drop f.offset).take (P.cellsOf f.type)))=some jb∧jb.flatten=(cs.drop off).map litV
 |[],off,cY,h,hf=>by
  simp only[shpF,Option.some.injEq]at h;subst h;simp only[FitL]at hf;exact⟨[],rfl,by rw[hf];rfl⟩
 |f::cu,off,cY,h,hf=>by
  simp only[shpF]at h;split at h
  ·rename_i k1 l1;split at h
   ·rename_i hc
    cases hr:shpF P g (off+k1.length) cu with
    |none=>rw[hr]at h;cases h
    |some k2=>
     rw[hr]at h;simp only[Option.map_some,Option.some.injEq]at h;subst h;obtain⟨h1,h2⟩:=MN hf;rw[List.drop_drop]at h2;obtain⟨jb,aj,aD⟩:=Tt hg cs cu (off+k1.length) k2 hr h2;refine⟨((cs.drop off).take k1.length).map litV::jb,?_,?_⟩
     ·rw[List.mapM_cons,hc.1,hc.2,hg _ _ _ l1 h1,aj];rfl
     ·rw[List.flatten_cons,aD,←List.drop_drop,←List.map_append,List.take_append_drop]
   ·cases h
  ·cases h
theorem H5{P:Program}:∀(d:Nat) (t:TypeId) (cY:List oI) (us:List Value),shp P d t=some cY→FitL cY us→P.keyLits d t us=some (us.map litV)
 |0,t,cY,us,h,_=>by simp[shp]at h
 |d+1,t,cY,us,h,hf=>by
  have one:∀k,cY=[k]→∃u,us=[u]∧Fit1 k u:=by
   rintro k rfl;simp only[FitL]at hf;obtain⟨u,us',rfl,h1,h2⟩:=hf;exact⟨u,by rw[h2],h1⟩
  unfold shp at h;unfold Program.keyLits;split at h
  ·rename_i hu
   cases h
   obtain⟨u,rfl,h1⟩:=one _ rfl
   cases u<;>simp only[Fit1]at h1
   simp[hu,litV]
  ·rename_i q hu
   cases h
   obtain⟨u,rfl,h1⟩:=one _ rfl
   cases u<;>simp only[Fit1]at h1
   obtain⟨rfl,h1,h2⟩:=h1;simp[hu,litV,Lit.wf,h1,h2]
  ·rename_i hu
   cases h
   obtain⟨u,rfl,h1⟩:=one _ rfl
   cases u<;>simp only[Fit1]at h1
   simp[hu,litV,h1]
  ·rename_i cu hu;split at h
   ·rename_i k1 l1;split at h
    ·rename_i hc
     cases h
     obtain⟨jb,aj,aD⟩:=Tt (d:=d) (fun t cY us=>H5 d t cY us) us cu.toList 0 _ l1 (by simpa using hf);have hl:=H4 hf;simp only[hu];rw[if_pos ⟨by omega,hc.2⟩,aj];simp[aD]
    ·cases h
   ·cases h
  ·rename_i n e hu;split at h
   ·rename_i k1 l1;split at h
    ·rename_i hc
     cases h
     obtain⟨h1,h2,aj⟩:=Ts n us hf;simp only[hu];rw[if_pos (by omega),Tr (h:=fun i=>((us.drop (i * k1.length)).take k1.length).map litV) _ fun i hi=>by
      rw[hc.1];exact H5 d e k1 _ l1 (h2 i (by simpa using hi))]
     simp only[Option.map_some,aj]
    ·cases h
   ·cases h
  ·cases h
def oE(P:Program)(T:TypeId)(cY:List oI):Prop:=
 ∀(us fJ:List Value) (b:Bool) (x y:Operand) (w:World),FitL cY us→FitL cY fJ→(b=true↔us.map litV=fJ.map litV)→
  (do eqGuard .eql T x y (.agg us.toArray) (.agg fJ.toArray);binOp .eql T (.agg us.toArray) (.agg fJ.toArray)).run P w=.ok (.bool b) w∧
  (do eqGuard .neq T x y (.agg us.toArray) (.agg fJ.toArray);binOp .neq T (.agg us.toArray) (.agg fJ.toArray)).run P w=.ok (.bool !b) w
theorem EqOK_of{P:Program}{T:TypeId}{cY:List oI}(h1:shp P 100 T=some cY)(h2:P.eqGuardType P.depth T=false)(aj:P.keyTypeAt 100 T=true)(aD:(match P.underlying T with|some (.struct _)|some (.array _ _)=>true|_=>false)=true)(bX:P.cellsOf T=cY.length):oE P T cY:=by
 intro us fJ b x y w hu hw hb;have Tu:∀vs:List Value,FitL cY vs→Value.formed P T (.agg vs.toArray)=true:=by
  intro vs hv;have:=H4 hv;unfold Value.formed;simp only;split at aD<;>first|(simp only[*];simp[this])|cases aD
 obtain⟨r,hr,hr2⟩:=run_equalIn_deep (P:=P) 9900 100 T aj w 100 100 (.agg us.toArray) (.agg fJ.toArray) _ _ (Tu us hu) (Tu fJ hw) (H5 100 T cY _ h1 (by simpa [Value.cells]using hu)) (H5 100 T cY _ h1 (by simpa [Value.cells]using hw));have abY:r=b:=by
  simp only[Value.cells]at hr2;rw[Bool.eq_iff_iff,hr2,hb]
 subst abY;constructor
 ·simp only[Sem.run_bind,run_eqGuard_agg w _ T x y _ _ h2,Result.andThen_ok,run_eql_struct];rw[show(10000:Nat)=9900+100 from rfl,hr];rfl
 ·simp only[Sem.run_bind,run_eqGuard_agg w _ T x y _ _ h2,Result.andThen_ok,run_neq_struct];rw[show(10000:Nat)=9900+100 from rfl,hr];rfl
def kindsV:List V→List oI
 |[]=>[]
 |.d (.int k _)::xs=>.i k::kindsV xs
 |.d (.str _)::xs=>.s::kindsV xs
 |_::xs=>.b::kindsV xs
def isBoolI(P:Program)(T:TypeId):Bool:=match P.underlying T with|some .bool=>true|_=>false
def isPtrI(P:Program)(T:TypeId):Bool:=
 match P.underlying T with
 |some (.pointer e)=>match P.info? e with|some i=>i.size != 0|none=>false
 |_=>false
theorem abZ{T:TypeId}(h:isPtrI P T=true):∃e i,P.underlying T=some (.pointer e)∧P.info? e=some i∧i.size≠0:=by
 unfold isPtrI at h;split at h
 ·rename_i e hu;split at h
  ·rename_i i hi;exact⟨e,i,hu,hi,by simpa using h⟩
  ·cases h
 ·cases h
theorem ab0{T:TypeId}(b f gK:Nat)(w:World)(h:isPtrI P T=true):(binOp .eql T (.pointer (some ⟨b,f,none⟩)) (.pointer (some ⟨b,gK,none⟩))).run P w=.ok (.bool (decide (f=gK))) w:=by
 obtain⟨e,i,hu,hi,hs⟩:=abZ h;have h2:∀d:Nat,(Op.equalIn (d+1) T (.pointer (some ⟨b,f,none⟩)) (.pointer (some ⟨b,gK,none⟩))).run P w=.ok (decide (f=gK)) w:=fun d=>by
  have he:((⟨b,f,none⟩:Addr) == ⟨b,gK,none⟩)=decide (f=gK):=by
   rw[Bool.eq_iff_iff];simp
  have hz:(Go.sizeOf e).run P w=Result.ok i.size w:=by simp[Go.sizeOf,typeInfo,hi]
  simp[Op.equalIn,run_underlying hu,hz,hs,sameAddr,he]
 simp only[binOp];simp[Op.equal,Op.maxDepth,h2 9999]
def binE(P:Program)(op:BinOp)(T:TypeId)(x y:V):Option (Prop×V):=
 match x,y with
 |.d (.int k a),.d (.int ji b)=>
  match op with
  |.shl=>shI .shl k a b
  |.shr=>shI .shr k a b
  |op=>if k=ji then binI op k a b else none
 |.d (.str a),.d (.str b)=>binS op a b
 |.d (.bool a),.d (.bool b)=>
  match op with
  |.eql=>if isBoolI P T then some (True,xS (a == b))else none
  |.neq=>if isBoolI P T then some (True,xS (a != b))else none
  |_=>none
 |.agg xs,.agg ys=>
  match op,eqCells xs ys with
  |.eql,some b=>some (oE P T (kindsV xs),xS b)
  |.neq,some b=>some (oE P T (kindsV xs),xS !b)
  |_,_=>none
 |.ptr id bU off,.ptr oF Tv zc=>
  match op with
  |.eql=>if id=oF∧bU=Tv∧isPtrI P T=true then some (True,xS (decide (off=zc)))else none
  |_=>none
 |_,_=>none
def withR(r:Option (Prop×V))(K:V→Prop):Prop:=match r with|some (p,v)=>p∧K v|none=>False
theorem zh{r:Option (Prop×V)}{K:V→Prop}(h:withR r K):∃p v,r=some (p,v)∧p∧K v:=by
 unfold withR at h;split at h
 ·exact⟨_,_,rfl,h.1,h.2⟩
 ·exact h.elim
theorem MO{φ:ca}{T:Nat→Prop}{h:Array Obj}:∀(xs ys:List V) (b:Bool) (us fJ:List Value),eqCells xs ys=some b→VRels φ T h xs us→VRels φ T h ys fJ→(b=true↔us.map litV=fJ.map litV)∧FitL (kindsV xs) us∧FitL (kindsV xs) fJ
 |[],[],b,us,fJ,e,r,cW=>by
  simp only[VRels]at r cW;subst r;subst cW;simp only[eqCells,Option.some.injEq]at e;subst e;simp[kindsV,FitL]
 |[],y::ys,b,us,fJ,e,_,_=>by cases e
 |x::xs,[],b,us,fJ,e,_,_=>by cases x<;>cases e
 |x::xs,y::ys,b,us,fJ,e,r,cW=>by
  simp only[VRels]at r cW;obtain⟨u,us',rfl,aK,a7⟩:=r;obtain⟨v,ab1,rfl,MP,ab2⟩:=cW
  cases x with
  |d ab3=>
   cases y with
   |d ab4=>
    simp only[eqCells]at e;split at e
    ·rename_i a dc ag e2;obtain⟨dr,MQ,MR⟩:=MO xs ys dc us' ab1 e2 a7 ab2
     cases e
     cases ab3<;>cases ab4<;>simp only[eqD]at ag<;>first|(cases ag;done)|skip
     ·split at ag
      ·rename_i hk;subst hk;have k1:=l' aK;have k2:=l' MP;rw[k1.1,k2.1];cases ag;simp only[kindsV,FitL,List.map_cons,litV];exact⟨by simp[dr],⟨_,_,rfl,⟨rfl,k1.2⟩,MQ⟩,⟨_,_,rfl,⟨rfl,k2.2⟩,MR⟩⟩
      ·cases ag
     ·rw[mv aK,mv MP];cases ag;simp only[kindsV,FitL,List.map_cons,litV];exact⟨by simp[dr],⟨_,_,rfl,trivial,MQ⟩,⟨_,_,rfl,trivial,MR⟩⟩
     ·have k1:=zi aK;have k2:=zi MP;rw[k1.1,k2.1];cases ag;simp only[kindsV,FitL,List.map_cons,litV];exact⟨by simp[dr],⟨_,_,rfl,by simpa [Fit1,ByteArray.size]using k1.2,MQ⟩,⟨_,_,rfl,by simpa [Fit1,ByteArray.size]using k2.2,MR⟩⟩
    ·cases e
   |_=>cases e
  |_=>cases e
theorem Eh{φ:ca}{T:Nat→Prop}{h:Array Obj}{vs:List V}{u:Value}(r:VRel φ T h (.agg vs) u):∃us:Array Value,u=.agg us∧VRels φ T h vs us.toList:=by
 simpa only[VRel]using r
theorem run_equalIn_bool(d:Nat){T:TypeId}(a b:Bool)(w:World)(hu:P.underlying T=some .bool):(Op.equalIn (d+1) T (.bool a) (.bool b)).run P w=.ok (a == b) w:=by
 simp[Op.equalIn,run_underlying hu]
theorem run_eql_bool{T:TypeId}(a b:Bool)(w:World)(hu:P.underlying T=some .bool):(binOp .eql T (.bool a) (.bool b)).run P w=.ok (.bool (a == b)) w:=by
 simp only[binOp];simp[Op.equal,Op.maxDepth,run_equalIn_bool 9999 a b w hu]
theorem run_neq_bool{T:TypeId}(a b:Bool)(w:World)(hu:P.underlying T=some .bool):(binOp .neq T (.bool a) (.bool b)).run P w=.ok (.bool (a != b)) w:=by
 simp only[binOp];simp[Op.equal,Op.maxDepth,run_equalIn_bool 9999 a b w hu,bne]
theorem ab5{op:BinOp}{T:TypeId}{x y:V}{p:Prop}{v:V}(ah:binE P op T x y=some (p,v))(hp:p){φ:ca}{MS:Nat→Prop}{h:Array Obj}{u wA:Value}(cL:VRel φ MS h x u)(kH:VRel φ MS h y wA)
  (H6 wK:Operand) (w:World):∃z,(do eqGuard op T H6 wK u wA;binOp op T u wA).run P w=.ok z w∧VRel φ MS h v z:=by
 have H7:∀(op:BinOp) (a b:Value),(∀cs ds,¬(a=.agg cs∧b=.agg ds))→¬(a=.nilIface∧b=.nilIface)→(eqGuard op T H6 wK a b).run P w=.ok () w:=by
  intro op a b h1 h2;unfold eqGuard
  cases op<;>simp<;>(split<;>first|rfl|(exact absurd ⟨rfl,rfl⟩ h2)|(exact absurd ⟨rfl,rfl⟩ (h1 _ _)))
 unfold binE at ah;split at ah
 ·rename_i k ab6 ji q;have ag:=l' cL;have e2:=l' kH;rw[ag.1,e2.1];have hg:=H7 op (.int k ab6) (.int ji q) (fun _ _ h=>by cases h.1) (fun h=>by cases h.1);simp only[Sem.run_bind,hg,Result.andThen_ok];split at ah
  ·exact Tw ag.2 ah hp T
  ·exact Tw ag.2 ah hp T
  ·split at ah
   ·rename_i hk;subst hk;exact ab7 ag.2 ah hp T
   ·cases ah
 ·rename_i a b;have ag:=zi cL;have e2:=zi kH;rw[ag.1,e2.1];have hg:=H7 op (.string ⟨a.toArray⟩) (.string ⟨b.toArray⟩) (fun _ _ h=>by cases h.1) (fun h=>by cases h.1);simp only[Sem.run_bind,hg,Result.andThen_ok];exact ab8 ah hp T
 ·rename_i a b;have ag:=mv cL;have e2:=mv kH;rw[ag,e2];have hg:=H7 op (.bool a) (.bool b) (fun _ _ h=>by cases h.1) (fun h=>by cases h.1);simp only[Sem.run_bind,hg,Result.andThen_ok];split at ah
  ·split at ah
   ·rename_i hb;simp only[Option.some.injEq,Prod.mk.injEq]at ah;obtain⟨_,rfl⟩:=ah;have hu:P.underlying T=some .bool:=by unfold isBoolI at hb;split at hb<;>first|assumption|cases hb
    exact⟨.bool (a == b),run_eql_bool a b w hu,vq _⟩
   ·cases ah
  ·split at ah
   ·rename_i hb;simp only[Option.some.injEq,Prod.mk.injEq]at ah;obtain⟨_,rfl⟩:=ah;have hu:P.underlying T=some .bool:=by unfold isBoolI at hb;split at hb<;>first|assumption|cases hb
    exact⟨.bool (a != b),run_neq_bool a b w hu,vq _⟩
   ·cases ah
  ·cases ah
 ·rename_i xs ys;obtain⟨us,rfl,aK⟩:=Eh cL;obtain⟨fJ,rfl,a7⟩:=Eh kH;split at ah
  ·rename_i b he;simp only[Option.some.injEq,Prod.mk.injEq]at ah;obtain⟨rfl,rfl⟩:=ah;obtain⟨ag,e2,aY⟩:=MO _ _ _ _ _ he aK a7;have:=(hp us.toList fJ.toList b H6 wK w e2 aY ag).1;exact⟨_,this,vq _⟩
  ·rename_i b he;simp only[Option.some.injEq,Prod.mk.injEq]at ah;obtain⟨rfl,rfl⟩:=ah;obtain⟨ag,e2,aY⟩:=MO _ _ _ _ _ he aK a7;have:=(hp us.toList fJ.toList b H6 wK w e2 aY ag).2;exact⟨_,this,vq _⟩
  ·cases ah
 ·rename_i id bU off oF Tv zc;split at ah
  ·split at ah
   ·rename_i hc;obtain⟨rfl,rfl,hc⟩:=hc;simp only[Option.some.injEq,Prod.mk.injEq]at ah;obtain⟨_,rfl⟩:=ah;simp only[VRel]at cL kH;obtain⟨β,b,cH,bg,bT⟩:=cL;obtain⟨a1,dc,k1,k2,dC⟩:=kH;rw[cH]at k1;cases k1;rw[bg]at k2;cases k2;rw[bT,dC];have hg:=H7 .eql (.pointer (some ⟨b,β.off+bU * β.sz+off,none⟩)) (.pointer (some ⟨b,β.off+bU * β.sz+zc,none⟩)) (fun _ _ h=>by cases h.1) (fun h=>by cases h.1);simp only[Sem.run_bind,hg,Result.andThen_ok];have e:decide (off=zc)=decide (β.off+bU * β.sz+off=β.off+bU * β.sz+zc):=by
     rw[decide_eq_decide];omega
    rw[e];exact⟨_,ab0 b _ _ w hc,vq _⟩
   ·cases ah
  ·cases ah
 ·cases ah
theorem aaZ{op:BinOp}{T ga:TypeId}{x y:Operand}(ax:o.op=.binOp op T x y ga)
  (h:evg g (σ.ev x) fun a=>evg g (σ.ev y) fun b=>withR (binE P op T a b) fun v=>K (ck v)):∃r,gb P o g σ n r∧K r:=by
 obtain⟨ka,h,hx⟩:=fw h;obtain⟨vb,h,hy⟩:=fw h;obtain⟨p,v,ah,hp,bF⟩:=zh h;refine⟨_,ma fun σ' hle B w0 aJ φ kp a w r hg=>?_,bF⟩;obtain⟨z,h1,h2⟩:=ab5 ah hp (hx _ _ _ _ hg (fg hle r x)) (hy _ _ _ _ hg (fg hle r y)) x y w;refine⟨z,?_,h2⟩;unfold execOp;simp only[ax,Sem.run_bind,h1,Result.andThen_ok];rfl
variable {P:Program} {o:Oper} {g:Bool} {σ:St} {n:Nat} {K:dS→Prop}
def unE(op:UnOp)(v:V):Option V:=
 match op,v with
 |.not,.d (.bool b)=>some (xS !b)
 |.neg,.d (.int k x)=>some (oH k (k.wrap (0-x)))
 |_,_=>none
def withO(r:Option V)(K:V→Prop):Prop:=match r with|some v=>K v|none=>False
theorem H8{r:Option V}{K:V→Prop}(h:withO r K):∃v,r=some v∧K v:=by
 unfold withO at h;split at h
 ·exact⟨_,rfl,h⟩
 ·exact h.elim
theorem aa0{op:UnOp}{T:TypeId}{x:Operand}(ax:o.op=.unOp op T x)(h:evg g (σ.ev x) fun a=>withO (unE op a) fun v=>K (ck v)):∃r,gb P o g σ n r∧K r:=by
 obtain⟨ka,h,hx⟩:=fw h;obtain⟨v,ah,bF⟩:=H8 h;refine⟨_,ma fun σ' hle B w0 aJ φ kp a w r hg=>?_,bF⟩;have cL:=hx _ _ _ _ hg (fg hle r x);unfold unE at ah;split at ah
 ·cases ah;exact⟨.bool _,by unfold execOp;rw[ax];simp[mv cL,Op.unary],vq _⟩
 ·cases ah;exact⟨.int _ _,by unfold execOp;rw[ax];simp[(l' cL).1,Op.unary,Op.intArith],m8 (wL _ _)⟩
 ·cases ah
def lenE(P:Program)(T:TypeId)(v:V):Option Nat:=
 match v with
 |.d (.str s)=>if isStrI P T then some s.length else none
 |.d (.sl _ xs)=>if(elI P T).isSome then some xs.length else none
 |.c7 _=>if(elI P T).isSome then some 0 else none
 |.sl _ _ len=>if(elI P T).isSome then some len else none
 |_=>none
theorem vf{T:TypeId}{e sz fv:Nat}(h:elI P T=some (e,sz,fv)):∃i,P.underlying T=some (.slice e)∧P.info? e=some i∧i.size=sz∧i.bytes=fv:=by
 unfold elI at h;split at h
 ·rename_i e' hu
  cases hi:P.info? e' with
  |none=>rw[hi]at h;cases h
  |some i=>
   rw[hi]at h;simp only[Option.map_some,Option.some.injEq,Prod.mk.injEq]at h;obtain⟨rfl,rfl,rfl⟩:=h;exact⟨i,hu,hi,rfl,rfl⟩
 ·cases h
theorem CC{T:TypeId}(h:isStrI P T=true):P.underlying T=some .string:=by
 unfold isStrI at h;split at h<;>first|assumption|cases h
theorem MT{T:TypeId}{k:IntKind}(h:intI P T=some k):P.underlying T=some (.int k):=by
 unfold intI at h;split at h
 ·cases h;assumption
 ·cases h
theorem uf{φ:ca}{T:Nat→Prop}{h:Array Obj}{id off len:Nat}{u:Value}(r:VRel φ T h (.sl id off len) u) :
  ∃β a c,φ id=some β∧u=.slice a len c∧len≤c∧c≤maxLen∧((c=0∧len=0∧off=β.cap)∨∃b,β.dJ=some b∧a=some ⟨b,β.off+off * β.sz,none⟩∧off+c=β.cap):=by
 simp only[VRel]at r;obtain⟨β,a,c,h1,h2,aj,aD⟩:=r;rcases aD with aD|⟨b,aD,bX,eR,l2⟩
 ·exact⟨β,a,c,h1,h2,by omega,aj,.inl aD⟩
 ·exact⟨β,a,c,h1,h2,eR,aj,.inr ⟨b,aD,bX,l2⟩⟩
theorem Ef{φ:ca}{T:Nat→Prop}{h:Array Obj}{sz:Nat}{xs:List (List D)}{u:Value}(r:VRel φ T h (.d (.sl sz xs)) u) :
  ∃a c,u=.slice a xs.length c∧xs.length≤c∧c≤maxLen∧(xs=[]∨∃b f G,a=some ⟨b,f,none⟩∧b<h.size∧T b∧repE h false b f sz xs G∧∀g∈G,T g):=by
 simp only[VRel,rep]at r;obtain⟨F,⟨a,c,h1,h2,aj,aD⟩,cn⟩:=r;refine⟨a,c,h1,h2,aj,?_⟩;rcases aD with aD|⟨b,f,G,ag,e2,aY,bk,_⟩
 ·exact .inl aD.1
 ·subst e2;exact .inr ⟨b,f,G,ag,aY,cn b (by simp),bk,fun g hg=>cn g (by simp[hg])⟩
theorem H9{φ:ca}{T:Nat→Prop}{h:Array Obj}{m:Nat}(hm:m≤maxLen):VRel φ T h (oH .i64 m) (goInt m):=by
 refine m8 ⟨?_,?_⟩
 ·have:IntKind.i64.min=-9223372036854775808:=by decide
  rw[this];omega
 ·have:IntKind.i64.max=9223372036854775807:=by decide
  rw[this];simp only[maxLen]at hm;omega
theorem ok_len{c:Call}{x:Operand}{T:TypeId}(ax:o.op=.call c)(hc:c={callee:=.builtin .len,args:=#[x],argTypes:=#[T]})
  (h:evg g (σ.ev x) fun a=>match lenE P T a with|some m=>K (ck (oH .i64 m))|none=>False):∃r,gb P o g σ n r∧K r:=by
 subst hc;obtain⟨ka,h,hx⟩:=fw h;split at h
 ·rename_i m hm;refine⟨_,ma fun σ' hle B w0 aJ φ kp a w r hg=>?_,h⟩;have cL:=hx _ _ _ _ hg (fg hle r x);have hs:∀{e sz fv:Nat} {ad:Option Addr} {l lJ:Nat},elI P T=some (e,sz,fv)→a.eval x=.slice ad l lJ→(execOp a.eval o).run P w=.ok (.value (goInt l)) w:=by
   intro e sz fv ad l lJ he hu;obtain⟨i,m4,_⟩:=vf he;unfold execOp;rw[ax];simp[resolve,invoke,builtin,Builtin.len_,run_underlying m4,hu]
  unfold lenE at hm;split at hm
  ·split at hm
   ·rename_i s hs'
    cases hm
    have ag:=zi cL;refine⟨goInt s.length,?_,H9 ag.2⟩;unfold execOp;rw[ax];have:(⟨s.toArray⟩:ByteArray).size=s.length:=by simp[ByteArray.size]
    simp[resolve,invoke,builtin,Builtin.len_,run_underlying (CC hs'),ag.1,this]
   ·cases hm
  ·split at hm
   ·rename_i sz xs he
    cases hm
    obtain⟨ad,lJ,ag,e2,aY,_⟩:=Ef cL;obtain⟨⟨e,s,fv⟩,he⟩:=Option.isSome_iff_exists.1 he;exact⟨_,hs he ag,H9 (by omega)⟩
   ·cases hm
  ·split at hm
   ·rename_i sz he
    cases hm
    obtain⟨⟨e,s,fv⟩,he⟩:=Option.isSome_iff_exists.1 he;simp only[VRel]at cL;exact⟨_,hs he cL,H9 (by decide)⟩
   ·cases hm
  ·split at hm
   ·rename_i id off len he
    cases hm
    obtain⟨β,ad,lJ,_,ag,e2,aY,_⟩:=uf cL;obtain⟨⟨e,s,fv⟩,he⟩:=Option.isSome_iff_exists.1 he;exact⟨_,hs he ag,H9 (by omega)⟩
   ·cases hm
  ·cases hm
 ·exact h.elim
def extE(v:V)(i:Nat):Option V:=match v with|.c6 vs=>vs[i]?|_=>none
theorem aa1{x:Operand}{i:Nat}(ax:o.op=.extract x i)(h:evg g (σ.ev x) fun a=>withO (extE a i) fun v=>K (ck v)):∃r,gb P o g σ n r∧K r:=by
 obtain⟨ka,h,hx⟩:=fw h;obtain⟨v,ah,bF⟩:=H8 h;refine⟨_,ma fun σ' hle B w0 aJ φ kp a w r hg=>?_,bF⟩;have cL:=hx _ _ _ _ hg (fg hle r x);unfold extE at ah;split at ah
 ·simp only[VRel]at cL;obtain⟨us,ag,aK⟩:=cL;obtain⟨u,e2,a7⟩:=vi _ _ aK i v ah;rw[Array.getElem?_toList]at e2;exact⟨u,by unfold execOp;rw[ax];simp[ag,Instr.extract,e2],a7⟩
 ·cases ah
def ptrE(v:V):Bool:=match v with|.ptr _ _ _|.eN _ _=>true|_=>false
theorem ab9{φ:ca}{T:Nat→Prop}{h:Array Obj}{v:V}{u:Value}(hv:ptrE v=true)(r:VRel φ T h v u):∃b f,u=.pointer (some ⟨b,f,none⟩):=by
 unfold ptrE at hv;split at hv
 ·simp only[VRel]at r;obtain⟨β,b,_,_,r⟩:=r;exact⟨_,_,r⟩
 ·simp only[VRel]at r;obtain⟨b,f,G,r,_⟩:=r;exact⟨_,_,r⟩
 ·cases hv
theorem aa2{x:Operand}(ax:o.op=.nilCheck x)(h:evg g (σ.ev x) fun a=>ptrE a=true∧K (ck a)):∃r,gb P o g σ n r∧K r:=by
 obtain⟨ka,h,hx⟩:=fw h;refine⟨_,ma fun σ' hle B w0 aJ φ kp a w r hg=>?_,h.2⟩;have cL:=hx _ _ _ _ hg (fg hle r x);obtain⟨b,f,e⟩:=ab9 h.1 cL;exact⟨a.eval x,by unfold execOp;rw[ax];simp[e],cL⟩
def faE(P:Program)(S:TypeId)(f:Nat)(v:V):Option V:=
 match fdI P S f,v with
 |some d,.ptr id bU off=>some (.ptr id bU (off+d))
 |some d,.eN cells off=>some (.eN cells (off+d))
 |_,_=>none
theorem add_lit(b f m:Nat):(⟨b,f,none⟩:Addr).add m=⟨b,f+m,none⟩:=by
 unfold Addr.add;split<;>simp_all
theorem aa3{S:TypeId}{x:Operand}{f:Nat}(ax:o.op=.fieldAddr S x f)(h:evg g (σ.ev x) fun a=>withO (faE P S f a) fun v=>K (ck v)):∃r,gb P o g σ n r∧K r:=by
 obtain⟨ka,h,hx⟩:=fw h;obtain⟨v,ah,bF⟩:=H8 h;refine⟨_,ma fun σ' hle B w0 aJ φ kp a w r hg=>?_,bF⟩;have cL:=hx _ _ _ _ hg (fg hle r x);unfold faE at ah;have key:∀{d b p:Nat},fdI P S f=some d→a.eval x=.pointer (some ⟨b,p,none⟩)→(execOp a.eval o).run P w=.ok (.value (.pointer (some ⟨b,p+d,none⟩))) w:=by
  intro d b p hd hu;unfold fdI at hd;split at hd
  ·rename_i cu aX;split at hd
   ·rename_i H2 Di;split at hd
    ·rename_i i hi;split at hd
     ·cases hd
     ·rename_i hz
      cases hd
      unfold execOp;rw[ax];have h1:(Go.sizeOf H2.type).run P w=Result.ok i.size w:=by simp[Go.sizeOf,typeInfo,hi]
      simp[Instr.fieldAt,run_underlying aX,Di,hu,Instr.sureAddr,fieldPlace,h1,hz,add_lit]
    ·cases hd
   ·cases hd
  ·cases hd
 split at ah
 ·rename_i d id bU off hd
  cases ah
  simp only[VRel]at cL;obtain⟨β,b,ag,e2,aY⟩:=cL;exact⟨_,key hd aY,by simp only[VRel];exact⟨β,b,ag,e2,by simp[Nat.add_assoc]⟩⟩
 ·rename_i d cells off hd
  cases ah
  simp only[VRel]at cL;obtain⟨b,p,G,ag,e2⟩:=cL;exact⟨_,key hd ag,by simp only[VRel];exact⟨b,p,G,by simp[Nat.add_assoc],e2⟩⟩
 ·cases ah
variable {P:Program} {o:Oper} {g:Bool} {σ:St} {n:Nat} {K:dS→Prop}
def H.els:H→Option (Nat×List (List D))
 |.ai sz xs _=>some (sz,xs)
 |.iA sz xs=>some (sz,xs)
 |_=>none
def H.esz:H→Option Nat
 |.ai sz _ _=>some sz
 |.iA sz _=>some sz
 |.af sz _=>some sz
 |.fA sz _ _ _=>some sz
 |_=>none
def iaE(P:Program)(hs:List H)(T:TypeId)(x:V)(i:Int):Option (Prop×V):=
 match x with
 |.sl id off len=>
  match elI P T,(aG hs id).esz with
  |some (_,sz,_),some gy=>if sz=gy then some (0≤i∧i<len,.ptr id (off+i.toNat) 0)else none
  |some (_,sz,_),none=>match aG hs id with|.box _=>if sz=1∧off=0 then some (0≤i∧i<len,.ptr id 0 i.toNat)else none|_=>none
  |_,_=>none
 |.d (.sl gy xs)=>
  match elI P T with
  |some (_,sz,_)=>if sz=gy then some (0≤i∧i.toNat<xs.length,.eN ((xs[i.toNat]?).getD []) 0)else none
  |none=>none
 |.ptr id bU off=>
  match arI P T with
  |some (len,sz)=>some (0≤i∧i<len,.ptr id bU (off+i.toNat * sz))
  |none=>none
 |.eN cells off=>
  match arI P T with
  |some (len,sz)=>some (0≤i∧i<len,.eN cells (off+i.toNat * sz))
  |none=>none
 |_=>none
theorem MU{φ:ca}{T:Nat→Prop}{h:Array Obj}{β:gd}{x:H}{sz:Nat}{xs:List (List D)}(he:x.els=some (sz,xs))(r:dD φ T h β x):β.sz=sz:=by
 cases x<;>simp only[H.els,reduceCtorEq,Option.some.injEq,Prod.mk.injEq]at he
 ·simp only[dD]at r;rw[r.1,he.1]
 ·simp only[dD]at r;rw[r.1,he.1]
theorem aca{φ:ca}{T:Nat→Prop}{h:Array Obj}{β:gd}{x:H}{sz:Nat}(he:x.esz=some sz)(r:dD φ T h β x):β.sz=sz:=by
 cases x<;>simp only[H.esz,reduceCtorEq,Option.some.injEq]at he<;>(simp only[dD]at r;rw[r.1,he])
theorem Tx{σ σ':St}(hle:σ.le σ'){id:Nat}{p:Nat}(he:(aG σ.heap id).esz=some p):(aG σ'.heap id).esz=some p:=by
 rcases hle.2 id with h|h
 ·rw[h]at he;cases he
 ·rw[h];exact he
theorem acb{B:Nat→Prop}{w0:World}{aJ:Nat→Prop}{φ:ca}{kp:List (V×Value)}{a:Act}{w:World}{σ:St}(r:R B w0 aJ φ σ kp a w){id:Nat}{p:Nat}(he:(aG σ.heap id).esz=some p) :
  ∃β,φ id=some β∧dD φ (cb φ σ.heap) w.heap β (aG σ.heap id):=by
 rcases r.hp id with h|h
 ·rw[h]at he;cases he
 ·exact h
theorem Cf{σ σ':St}(hle:σ.le σ'){id:Nat}{p:Nat×List (List D)}(he:(aG σ.heap id).els=some p):(aG σ'.heap id).els=some p:=by
 rcases hle.2 id with h|h
 ·rw[h]at he;cases he
 ·rw[h];exact he
theorem Hw{B:Nat→Prop}{w0:World}{aJ:Nat→Prop}{φ:ca}{kp:List (V×Value)}{a:Act}{w:World}{σ:St}(r:R B w0 aJ φ σ kp a w){id:Nat}{p:Nat×List (List D)}(he:(aG σ.heap id).els=some p) :
  ∃β,φ id=some β∧dD φ (cb φ σ.heap) w.heap β (aG σ.heap id):=by
 rcases r.hp id with h|h
 ·rw[h]at he;cases he
 ·exact h
theorem acd{T:TypeId}{l sz:Nat}(h:arI P T=some (l,sz)):∃e i,P.underlying T=some (.array l e)∧P.info? e=some i∧i.size=sz:=by
 unfold arI at h;split at h
 ·rename_i anX e' hu
  cases hi:P.info? e' with
  |none=>rw[hi]at h;cases h
  |some i=>
   rw[hi]at h;simp only[Option.map_some,Option.some.injEq,Prod.mk.injEq]at h;obtain⟨rfl,rfl⟩:=h;exact⟨e',i,hu,hi,rfl⟩
 ·cases h
theorem aa4{T:TypeId}{x jv:Operand}(ax:o.op=.indexAddr T x jv)
  (h:evg g (σ.ev x) fun a=>evg g (σ.ev jv) fun b=>asI b fun _ i=>withR (iaE P σ.heap T a i) fun v=>K (ck v)):∃r,gb P o g σ n r∧K r:=by
 obtain⟨ka,h,hx⟩:=fw h;obtain⟨vb,h,hy⟩:=fw h;obtain⟨k,i,rfl,h⟩:=zf h;obtain⟨p,v,ah,hp,bF⟩:=zh h;refine⟨_,ma fun σ' hle B w0 aJ φ kp a w r hg=>?_,bF⟩;have cL:=hx _ _ _ _ hg (fg hle r x);have kH:=l' (hy _ _ _ _ hg (fg hle r jv));have slice:∀{e sz fv:Nat} {b f len lJ:Nat},elI P T=some (e,sz,fv)→a.eval x=.slice (some ⟨b,f,none⟩) len lJ→0≤i→i<len→
   (execOp a.eval o).run P w=.ok (.value (.pointer (some ⟨b,f+i.toNat * sz,none⟩))) w:=by
  intro e sz fv b f len lJ he hu h0 h1;obtain⟨zg,m4,hi,hs,_⟩:=vf he;unfold execOp;rw[ax];have cB:(Go.sizeOf e).run P w=Result.ok sz w:=by simp[Go.sizeOf,typeInfo,hi,hs]
  simp[Instr.indexAt,run_underlying m4,hu,kH.1,asIntOf,h0,h1,cB,add_lit]
 have array:∀{l sz b f:Nat},arI P T=some (l,sz)→a.eval x=.pointer (some ⟨b,f,none⟩)→0≤i→i<l→(execOp a.eval o).run P w=.ok (.value (.pointer (some ⟨b,f+i.toNat * sz,none⟩))) w:=by
  intro l sz b f he hu h0 h1;obtain⟨e,zg,m4,hi,hs⟩:=acd he;unfold execOp;rw[ax];have cB:(Go.sizeOf e).run P w=Result.ok sz w:=by simp[Go.sizeOf,typeInfo,hi,hs]
  simp[Instr.indexAt,run_underlying m4,hu,kH.1,asIntOf,h0,h1,cB,add_lit,Instr.sureAddr]
 unfold iaE at ah;split at ah
 ·rename_i id off len;split at ah
  ·rename_i e sz fv gy he hel;split at ah
   ·rename_i cB;subst cB;simp only[Option.some.injEq,Prod.mk.injEq]at ah;obtain⟨rfl,rfl⟩:=ah;obtain⟨β,ad,c,ag,e2,aY,bk,cg⟩:=uf cL;obtain⟨a1,fI,hr⟩:=acb r (Tx hle hel);rw[ag]at fI;cases fI;have hs:=aca (Tx hle hel) hr;rcases cg with cg|⟨b,cg,jH,m5⟩
    ·have:=hp.2;omega
    ·subst jH;refine⟨_,slice he e2 hp.1 hp.2,?_⟩;simp only[VRel];refine⟨β,b,ag,cg,?_⟩;rw[hs,Nat.add_mul];simp[Nat.add_assoc]
   ·cases ah
  ·rename_i e sz fv he anY;split at ah
   ·rename_i cells anZ;split at ah
    ·rename_i hc;obtain⟨rfl,rfl⟩:=hc;simp only[Option.some.injEq,Prod.mk.injEq]at ah;obtain⟨rfl,rfl⟩:=ah;obtain⟨β,ad,c,ag,e2,aY,bk,cg⟩:=uf cL;rcases cg with cg|⟨b,cg,jH,m5⟩
     ·have:=hp.2;omega
     ·subst jH;refine⟨_,slice he e2 hp.1 hp.2,?_⟩;simp only[VRel];exact⟨β,b,ag,cg,by simp⟩
    ·cases ah
   ·cases ah
  ·cases ah
 ·rename_i gy xs;split at ah
  ·rename_i e sz fv he;split at ah
   ·rename_i cB;subst cB;simp only[Option.some.injEq,Prod.mk.injEq]at ah;obtain⟨rfl,rfl⟩:=ah;obtain⟨ad,c,ag,e2,aY,bk⟩:=Ef cL;rcases bk with bk|⟨b,f,G,bk,cg,jH,m5,EO⟩
    ·subst bk;simp at hp
    ·subst bk;have hlt:=hp.2;obtain⟨bE,m6,bh,rfl,k1,_,k2,_⟩:=Et m5 (List.getElem?_eq_getElem hlt);refine⟨_,slice he ag hp.1 (by omega),?_⟩;simp only[VRel];refine⟨b,f+i.toNat * sz,m6,by simp,cg,jH,?_,fun g hg=>EO g (by simp[hg])⟩;rw[List.getElem?_eq_getElem hlt];exact k2
   ·cases ah
  ·cases ah
 ·rename_i id bU off;split at ah
  ·rename_i len sz he;simp only[Option.some.injEq,Prod.mk.injEq]at ah;obtain⟨rfl,rfl⟩:=ah;simp only[VRel]at cL;obtain⟨β,b,ag,e2,aY⟩:=cL;exact⟨_,array he aY hp.1 hp.2,by simp only[VRel];exact⟨β,b,ag,e2,by simp[Nat.add_assoc]⟩⟩
  ·cases ah
 ·rename_i cells off;split at ah
  ·rename_i len sz he;simp only[Option.some.injEq,Prod.mk.injEq]at ah;obtain⟨rfl,rfl⟩:=ah;simp only[VRel]at cL;obtain⟨b,f,G,ag,e2⟩:=cL;exact⟨_,array he ag hp.1 hp.2,by simp only[VRel];exact⟨b,f,G,by simp[Nat.add_assoc],e2⟩⟩
  ·cases ah
 ·cases ah
def wH(fT:Bool)(vs:List V):V:=if fT then .agg vs else vs.headD .J
def loadE(P:Program)(hs:List H)(T:TypeId)(x:V):Option (Prop×V):=
 match tyI P T,x with
 |some (sz,fT),.ptr id bU off=>
  match aG hs id with
  |.box cells=>some (bU=0∧off+sz≤cells.length∧(fT=false→sz=1),wH fT ((cells.drop off).take sz))
  |.ai _ xs _=>some (bU<xs.length∧off+sz≤((xs[bU]?).getD []).length∧(fT=false→sz=1),wH fT (((((xs[bU]?).getD []).drop off).take sz).map V.d))
  |.iA _ xs=>some (bU<xs.length∧off+sz≤((xs[bU]?).getD []).length∧(fT=false→sz=1),wH fT (((((xs[bU]?).getD []).drop off).take sz).map V.d))
  |.fA _ pre cells _=>some (bU=pre.length∧off+sz≤cells.length∧(fT=false→sz=1),wH fT ((cells.drop off).take sz))
  |_=>none
 |some (sz,fT),.eN cells off=>some (off+sz≤cells.length∧(fT=false→sz=1),wH fT (((cells.drop off).take sz).map V.d))
 |_,_=>none
theorem MC{T:TypeId}{sz:Nat}{fT:Bool}(h:tyI P T=some (sz,fT)):∃i,P.info? T=some i∧i.size=sz∧∀w,(isAgg T).run P w=.ok fT w:=by
 unfold tyI at h;split at h
 ·rename_i i d h1 h2;simp only[Option.some.injEq,Prod.mk.injEq]at h;obtain⟨rfl,rfl⟩:=h;refine⟨i,h1,rfl,fun w=>?_⟩;unfold isAgg;simp only[Sem.run_bind,run_underlying h2,Result.andThen_ok]
  cases d<;>rfl
 ·cases h
theorem run_load{T:TypeId}{sz:Nat}{fT:Bool}(h:tyI P T=some (sz,fT)){w:World}{b f:Nat}{us:List Value}(hl:us.length=sz)(h1:fT=false→sz=1)(hc:∀(j:Nat) (u:Value),us[j]?=some u→cellAt w.heap b (f+j)=some u) :
  (loadVar T ⟨b,f,none⟩).run P w=.ok (if fT then .agg us.toArray else us.headD undef) w:=by
 obtain⟨i,hi,hs,MV⟩:=MC h;unfold loadVar;simp only[Sem.run_bind,MV,Result.andThen_ok]
 cases fT with
 |true=>
  have:=run_loadCells_list (P:=P) w ⟨b,f,none⟩ us (fun j v ak=>by rw[add_lit,cell_eq];exact hc j v ak);simp[Go.sizeOf,typeInfo,hi,hs,←hl,this]
 |false=>
  have cB:=h1 rfl
  match us,hl,cB with
  |[u],_,_=>
   have h0:=hc 0 u rfl;rw[Nat.add_zero,←cell_eq]at h0;simp[h0]
theorem ace{φ:ca}{T:Nat→Prop}{h:Array Obj}{fT:Bool}{vs:List V}{us:List Value}{sz:Nat}(hl:us.length=sz)(h1:fT=false→sz=1)(r:VRels φ T h vs us) :
  VRel φ T h (wH fT vs) (if fT then .agg us.toArray else us.headD undef):=by
 cases fT with
 |true=>simp only[wH,if_true,VRel];exact⟨us.toArray,rfl,r⟩
 |false=>
  have cB:=h1 rfl
  match us,hl,cB with
  |[u],_,_=>
   cases vs with
   |nil=>simp only[VRels]at r;cases r
   |cons v vs=>
    simp only[VRels]at r;obtain⟨wA,us',e,aK,a7⟩:=r
    cases e
    simpa [wH]using aK
theorem H_{φ:ca}{T:Nat→Prop}{h:Array Obj}{b:Nat}:∀(ds:List D) (f:Nat) (G:List Nat),repC h false b f ds G→(∀g∈G,T g)→∃us:List Value,us.length=ds.length∧VRels φ T h (ds.map V.d) us∧∀(j:Nat) (u:Value),us[j]?=some u→cellAt h b (f+j)=some u
 |[],_,_,_,_=>⟨[],rfl,by simp[VRels],by simp⟩
 |d::ds,f,G,r,cn=>by
  simp only[repC]at r;obtain⟨v,bE,bh,rfl,e2,aY,bk⟩:=r;obtain⟨us,k1,k2,dC⟩:=H_ ds (f+1) bh bk (fun g hg=>cn g (by simp[hg]));refine⟨v::us,by simp[k1],?_,fun j u ak=>?_⟩
  ·simp only[List.map_cons,VRels,VRel];exact⟨v,us,rfl,⟨bE,aY,fun g hg=>cn g (by simp[hg])⟩,k2⟩
  ·cases j with
   |zero=>simp at ak;subst ak;simpa using e2
   |succ j=>rw[show f+(j+1)=f+1+j from by omega];exact dC j u (by simpa using ak)
theorem acf{h:Array Obj}{b f:Nat}{us:List Value}(hc:∀(j:Nat) (u:Value),us[j]?=some u→cellAt h b (f+j)=some u)(off sz:Nat) :
  ∀(j:Nat) (u:Value),((us.drop off).take sz)[j]?=some u→cellAt h b (f+off+j)=some u:=by
 intro j u ak;rw[List.getElem?_take]at ak;split at ak
 ·rw[List.getElem?_drop]at ak;rw[Nat.add_assoc];exact hc _ _ ak
 ·cases ak
theorem Ty{B:Nat→Prop}{w0:World}{aJ:Nat→Prop}{φ:ca}{kp:List (V×Value)}{a:Act}{w:World}{σ:St}(r:R B w0 aJ φ σ kp a w){id:Nat}{sz:Nat}{xs:List (List D)}(he:(aG σ.heap id).els=some (sz,xs))
  {β:gd} (hb:φ id=some β) {bU:Nat} (hi:bU<xs.length):∃b,β.dJ=some b∧∃us:List Value,us.length=((xs[bU]?).getD []).length∧VRels φ (cb φ σ.heap) w.heap (((xs[bU]?).getD []).map V.d) us∧
   ∀(j:Nat) (u:Value),us[j]?=some u→cellAt w.heap b (β.off+bU * β.sz+j)=some u:=by
 obtain⟨a1,ag,hr⟩:=Hw r he;rw[hb]at ag;cases ag;have cB:=MU he hr;have nK:xs[bU]?=some xs[bU]:=List.getElem?_eq_getElem hi;rw[nK]
 cases hx:aG σ.heap id with
 |cF=>rw[hx]at he;cases he
 |box cells=>rw[hx]at he;cases he
 |af _ _=>rw[hx]at he;cases he
 |fA _ _ _ _=>rw[hx]at he;cases he
 |ai gy lK jt=>
  rw[hx]at he hr;simp only[H.els,Option.some.injEq,Prod.mk.injEq]at he;obtain⟨rfl,rfl⟩:=he;simp only[dD]at hr;rcases hr.2 with hr|⟨b,G,aK,a7,b8,cj,ez,hD⟩
  ·rw[hr.2.1]at hi;simp at hi
  ·obtain⟨bE,m6,bh,rfl,k1,_,k2,_⟩:=Et cj nK;have cn:∀g∈m6,cb φ σ.heap g:=by
    intro g hg
    cases jt with
    |true=>exact Tf r hb (by rw[hx];rfl) (by rw[hx];rfl) (by rw[←ez rfl];simp[hg])
    |false=>exact hD rfl g (by simp[hg])
   have acg:repC w.heap false b (β.off+bU * gy) (lK[bU]) m6:=by
    cases jt with
    |true=>exact Mu _ _ _ _ k2
    |false=>exact k2
   obtain⟨us,eM,u2,js⟩:=H_ (φ:=φ) _ _ _ acg cn;exact⟨b,aK,us,eM,u2,by rw[cB];exact js⟩
 |iA gy lK=>
  rw[hx]at he hr;simp only[H.els,Option.some.injEq,Prod.mk.injEq]at he;obtain⟨rfl,rfl⟩:=he;simp only[dD]at hr;rcases hr.2 with hr|⟨b,G,aK,a7,b8,cj,ez⟩
  ·rw[hr]at hi;simp at hi
  ·obtain⟨bE,m6,bh,rfl,k1,_,k2,_⟩:=Et cj nK;obtain⟨us,eM,u2,js⟩:=H_ (φ:=φ) _ _ _ k2 (fun g hg=>ez g (by simp[hg]));exact⟨b,aK,us,eM,u2,by rw[cB];exact js⟩
theorem Tz{T:TypeId}{B:Nat→Prop}{w0:World}{aJ:Nat→Prop}{φ:ca}{kp:List (V×Value)}{a:Act}{w:World}{σ σ':St}(hle:σ.le σ')(r:R B w0 aJ φ σ' kp a w){ka v:V}{p:Prop}(ah:loadE P σ.heap T ka=some (p,v))(hp:p)
  {H':Value} (cL:VRel φ (cb φ σ'.heap) w.heap ka H'):∃b f u,H'=.pointer (some ⟨b,f,none⟩)∧(loadVar T ⟨b,f,none⟩).run P w=.ok u w∧VRel φ (cb φ σ'.heap) w.heap v u:=by
 have bd:∀{sz:Nat} {fT:Bool} {b f off:Nat} {vs:List V} {us:List Value},tyI P T=some (sz,fT)→(fT=false→sz=1)→off+sz≤us.length→VRels φ (cb φ σ'.heap) w.heap vs us→
   (∀(j:Nat) (u:Value),us[j]?=some u→cellAt w.heap b (f+j)=some u)→H'=.pointer (some ⟨b,f+off,none⟩)→
   ∃b f u,H'=.pointer (some ⟨b,f,none⟩)∧(loadVar T ⟨b,f,none⟩).run P w=.ok u w∧VRel φ (cb φ σ'.heap) w.heap (wH fT ((vs.drop off).take sz)) u:=by
  intro sz fT b f off vs us oJ h1 an0 hv hc hu;have hl:((us.drop off).take sz).length=sz:=by simp;omega
  refine⟨_,_,_,hu,run_load oJ hl h1 (acf hc off sz),?_⟩;exact ace hl h1 (Td (Te hv off) sz)
 unfold loadE at ah;split at ah
 ·rename_i sz fT id bU off oJ;simp only[VRel]at cL;obtain⟨β,b,ag,e2,aY⟩:=cL;have hh:=hle.2 id;split at ah
  ·rename_i cells hc;simp only[Option.some.injEq,Prod.mk.injEq]at ah;obtain⟨rfl,rfl⟩:=ah;have f':aG σ'.heap id=.box cells:=by
    rcases hh with hh|hh
    ·rw[hc]at hh;cases hh
    ·rw[hh,hc]
   rcases r.hp id with hd|⟨a1,fI,hr⟩
   ·rw[f']at hd;cases hd
   ·rw[ag]at fI;cases fI;rw[f']at hr;simp only[dD]at hr;obtain⟨dc,cs,t,aK,a7,b8,cj⟩:=hr;rw[e2]at aK;cases aK;obtain⟨c5,cS,fQ⟩:=hp;have hlen:=jW _ _ cj;refine bd (b:=b) (f:=0) oJ fQ (by rw[hlen];exact cS) cj (fun j u ak=>?_) (by rw[aY,c5,a7];simp);unfold cellAt;rw[b8];simpa using ak
  ·rename_i gy xs jt hc;simp only[Option.some.injEq,Prod.mk.injEq]at ah;obtain⟨rfl,rfl⟩:=ah;have f':(aG σ'.heap id).els=some (gy,xs):=Cf hle (by rw[hc];rfl);obtain⟨c5,cS,fQ⟩:=hp;obtain⟨dc,k1,us,k2,dC,iK⟩:=Ty r f' ag c5;rw[e2]at k1;cases k1;have:=bd (b:=b) (f:=β.off+bU * β.sz) oJ fQ (by rw[k2];exact cS) dC iK aY;rw[List.map_take,List.map_drop];exact this
  ·rename_i gy xs hc;simp only[Option.some.injEq,Prod.mk.injEq]at ah;obtain⟨rfl,rfl⟩:=ah;have f':(aG σ'.heap id).els=some (gy,xs):=Cf hle (by rw[hc];rfl);obtain⟨c5,cS,fQ⟩:=hp;obtain⟨dc,k1,us,k2,dC,iK⟩:=Ty r f' ag c5;rw[e2]at k1;cases k1;have:=bd (b:=b) (f:=β.off+bU * β.sz) oJ fQ (by rw[k2];exact cS) dC iK aY;rw[List.map_take,List.map_drop];exact this
  ·rename_i gy pre cells post hc;simp only[Option.some.injEq,Prod.mk.injEq]at ah;obtain⟨rfl,rfl⟩:=ah;have f':aG σ'.heap id=.fA gy pre cells post:=by
    rcases hh with hh|hh
    ·rw[hc]at hh;cases hh
    ·rw[hh,hc]
   rcases r.hp id with hd|⟨a1,fI,hr⟩
   ·rw[f']at hd;cases hd
   ·rw[ag]at fI;cases fI;rw[f']at hr;simp only[dD]at hr;obtain⟨hs,hcl,dc,bE,bh,us,aK,a7,b8,cj,ez,hD,wE,y'⟩:=hr;rw[e2]at aK;cases aK;obtain⟨c5,cS,fQ⟩:=hp;have hlen:=jW _ _ hD;exact bd (b:=b) (f:=β.off+pre.length * gy) oJ fQ (by rw[hlen];exact cS) hD wE (by rw[aY,c5,hs])
  ·cases ah
 ·rename_i sz fT cells off oJ;simp only[Option.some.injEq,Prod.mk.injEq]at ah;obtain⟨rfl,rfl⟩:=ah;simp only[VRel]at cL;obtain⟨b,f,G,ag,e2,aY,bk,cg⟩:=cL;obtain⟨us,eM,u2,js⟩:=H_ (φ:=φ) _ _ _ bk cg;have:=bd (b:=b) (f:=f) oJ hp.2 (by rw[eM];exact hp.1) u2 js ag;rw[List.map_take,List.map_drop];exact this
 ·cases ah
theorem aa5{T:TypeId}{x:Operand}(ax:o.op=.load T x)(h:evg g (σ.ev x) fun a=>withR (loadE P σ.heap T a) fun v=>K (ck v)):∃r,gb P o g σ n r∧K r:=by
 obtain⟨ka,h,hx⟩:=fw h;obtain⟨p,v,ah,hp,bF⟩:=zh h;refine⟨_,ma fun σ' hle B w0 aJ φ kp a w r hg=>?_,bF⟩;obtain⟨b,f,u,hu,hl,hv⟩:=Tz hle r ah hp (hx _ _ _ _ hg (fg hle r x));refine⟨u,?_,hv⟩;unfold execOp;rw[ax];simp[Instr.loadAt,hu,Instr.sureAddr,hl]
variable {P:Program} {o:Oper} {g:Bool} {σ:St} {n:Nat} {K:dS→Prop}
def ixE(P:Program)(T:TypeId)(x:V)(i:Int):Option (Prop×V):=
 match x with
 |.d (.str s)=>if isStrI P T then some (0≤i∧i.toNat<s.length,oH .u8 ((s[i.toNat]?).getD 0).toNat)else none
 |.agg vs=>
  match P.underlying T with
  |some (.array len e)=>if tyI P e=some (1,false)then some (0≤i∧i<len∧i.toNat<vs.length,(vs[i.toNat]?).getD .J)else none
  |_=>none
 |_=>none
theorem ach(b:UInt8):IntKind.u8.min≤(b.toNat:Int)∧(b.toNat:Int)≤IntKind.u8.max:=by
 have h:=b.toNat_lt;have h1:IntKind.u8.min=0:=by decide
 have h2:IntKind.u8.max=255:=by decide
 rw[h1,h2];omega
theorem aa6{T:TypeId}{x jv:Operand}(ax:o.op=.index T x jv)
  (h:evg g (σ.ev x) fun a=>evg g (σ.ev jv) fun b=>asI b fun _ i=>withR (ixE P T a i) fun v=>K (ck v)):∃r,gb P o g σ n r∧K r:=by
 obtain⟨ka,h1,hx⟩:=fw h;obtain⟨vb,h2,hy⟩:=fw h1;obtain⟨k,i,rfl,aj⟩:=zf h2;obtain⟨p,v,ah,hp,bF⟩:=zh aj;clear h h1 h2 aj;refine⟨_,ma fun σ' hle B w0 aJ φ kp a w r hg=>?_,bF⟩;have cL:=hx _ _ _ _ hg (fg hle r x);have kH:=l' (hy _ _ _ _ hg (fg hle r jv));unfold ixE at ah;split at ah
 ·rename_i s;split at ah
  ·rename_i hs;simp only[Option.some.injEq,Prod.mk.injEq]at ah;obtain⟨rfl,rfl⟩:=ah;have ag:=zi cL;have hlt:=hp.2;refine⟨.int .u8 (s[i.toNat]'hlt).toNat,?_,?_⟩
   ·unfold execOp;rw[ax];have hb:(⟨s.toArray⟩:ByteArray)[i.toNat]?=some (s[i.toNat]'hlt):=by
     have cB:i.toNat<(⟨s.toArray⟩:ByteArray).size:=by simpa [ByteArray.size]using hlt
     rw[getElem?_pos (⟨s.toArray⟩:ByteArray) i.toNat cB];rfl
    simp[Instr.index,run_underlying (CC hs),ag.1,kH.1,asIntOf,hp.1,hb]
   ·rw[List.getElem?_eq_getElem hlt];exact m8 (ach _)
  ·cases ah
 ·rename_i vs;split at ah
  ·rename_i len e hu;split at ah
   ·rename_i oJ;simp only[Option.some.injEq,Prod.mk.injEq]at ah;obtain⟨rfl,rfl⟩:=ah;obtain⟨us,ag,aK⟩:=Eh cL;have hlt:=hp.2.2;obtain⟨u,eM,u2⟩:=vi _ _ aK i.toNat _ (List.getElem?_eq_getElem hlt);refine⟨u,?_,by rw[List.getElem?_eq_getElem hlt];exact u2⟩;obtain⟨zg,hi,hs,MV⟩:=MC oJ;unfold execOp;rw[ax];rw[Array.getElem?_toList]at eM;simp[Instr.index,run_underlying hu,ag,kH.1,asIntOf,hp.1,hp.2.1,part,MV,Go.sizeOf,typeInfo,hi,hs,eM]
   ·cases ah
  ·cases ah
 ·cases ah
theorem TA(aci:Bool)(len cap:Nat)(b0 hi:Option Value)(l h:Nat)(w:World)(hl:b0=none∧l=0∨∃k,b0=some (.int k l))(hh:hi=none∧h=len∨∃k,hi=some (.int k h))
  (h1:l≤h) (h2:h≤cap):(Instr.sliceBounds aci len cap b0 hi none).run P w=.ok (l,h,cap) w:=by
 have lZ:∀(k:IntKind) (x y:Nat) (c:BoundsCode),x≤y→(Instr.sliceBound (.int k x) y c).run P w=.ok x w:=by
  intro k x y c mz;simp[Instr.sliceBound,asIntOf,mz]
 unfold Instr.sliceBounds;rcases hl with ⟨rfl,rfl⟩|⟨k,rfl⟩<;>rcases hh with ⟨rfl,rfl⟩|⟨ji,rfl⟩
 ·simp
 ·simp[lZ _ _ _ _ h2]
 ·simp[lZ _ _ _ _ h1]
 ·simp[lZ _ _ _ _ h2,lZ _ _ _ _ h1]
def reachE(x:H)(k:Nat):Prop:=match x with|.ai _ xs true=>k≤xs.length|_=>False
def cutE(P:Program)(hs:List H)(T:TypeId)(x:V)(l h:Nat):Option (Prop×V):=
 match x with
 |.d (.str s)=>if isStrI P T then some (l≤h∧h≤s.length,Ez ((s.drop l).take (h-l)))else none
 |.sl id off len=>
  match elI P T,(aG hs id).els with
  |some (_,sz,_),some (gy,_)=>if sz=gy then some (l≤h∧(h≤len∨reachE (aG hs id) (off+h)),.sl id (off+l) (h-l))else none
  |_,_=>none
 |.d (.sl gy xs)=>
  match elI P T with
  |some (_,sz,_)=>if sz=gy then some (l≤h∧h≤xs.length,.d (.sl gy ((xs.drop l).take (h-l))))else none
  |none=>none
 |.c7 s=>if(elI P T).isSome then some (l=0∧h=0,.c7 s)else none
 |_=>none
def lenOfV(x:V):Nat:=match x with|.d (.str s)=>s.length|.d (.sl _ xs)=>xs.length|.sl _ _ len=>len|_=>0
def bndE(g:Bool)(σ:St)(d:Nat)(x:Option Operand)(K:Nat→Prop):Prop:=
 match x with
 |none=>K d
 |some x=>evg g (σ.ev x) fun v=>asI v fun _ i=>0≤i∧K i.toNat
theorem EP{d:Nat}{x:Option Operand}{K:Nat→Prop}(h:bndE g σ d x K):∃l:Nat,K l∧∀{σ':St} {B:Nat→Prop} {w0:World} {aJ:Nat→Prop} {φ:ca} {kp:List (V×Value)} {a:Act} {w:World},σ.le σ'→R B w0 aJ φ σ' kp a w→g=true→
  (x=none∧l=d∨∃k y,x=some y∧a.eval y=.int k l):=by
 unfold bndE at h;split at h
 ·exact⟨d,h,fun _ _ _=>.inl ⟨rfl,rfl⟩⟩
 ·rename_i y;obtain⟨v,h,hy⟩:=fw h;obtain⟨k,i,rfl,h0,bF⟩:=zf h;refine⟨i.toNat,bF,fun hle r hg=>.inr ⟨k,y,rfl,?_⟩⟩;have:=l' (hy _ _ _ _ hg (fg hle r y));rw[this.1,Int.toNat_of_nonneg h0]
theorem acj(s:List UInt8)(l h:Nat):(⟨s.toArray⟩:ByteArray).extract l h=⟨((s.drop l).take (h-l)).toArray⟩:=by
 apply ByteArray.ext;apply Array.ext';simp[ByteArray.data_extract,List.extract]
theorem aa7{T:TypeId}{x:Operand}{b0 hi:Option Operand}(ax:o.op=.slice T x b0 hi none)
  (h:evg g (σ.ev x) fun a=>bndE g σ 0 b0 fun l=>bndE g σ (lenOfV a) hi fun h=>withR (cutE P σ.heap T a l h) fun v=>K (ck v)):∃r,gb P o g σ n r∧K r:=by
 obtain⟨ka,h1,hx⟩:=fw h;obtain⟨l,h2,hl⟩:=EP h1;obtain⟨m,aj,hm⟩:=EP h2;obtain⟨p,v,ah,hp,bF⟩:=zh aj;clear h h1 h2 aj;refine⟨_,ma fun σ' hle B w0 aJ φ kp a w r hg=>?_,bF⟩;have cL:=hx _ _ _ _ hg (fg hle r x);have u':=hl hle r hg;have ack:=hm hle r hg;have bl:(b0.map a.eval)=none∧l=0∨∃k,(b0.map a.eval)=some (.int k l):=by
  rcases u' with ⟨rfl,rfl⟩|⟨k,y,rfl,e⟩
  ·exact .inl ⟨rfl,rfl⟩
  ·exact .inr ⟨k,by simp[e]⟩
 have MW:(hi.map a.eval)=none∧m=lenOfV ka∨∃k,(hi.map a.eval)=some (.int k m):=by
  rcases ack with ⟨rfl,rfl⟩|⟨k,y,rfl,e⟩
  ·exact .inl ⟨rfl,rfl⟩
  ·exact .inr ⟨k,by simp[e]⟩
 have MX:∀{e sz fv:Nat} {ad:Option Addr} {len lJ:Nat},elI P T=some (e,sz,fv)→a.eval x=.slice ad len lJ→lenOfV ka=len→l≤m→m≤lJ→
   (execOp a.eval o).run P w=.ok (.value (.slice (if lJ=l then ad else ad.map (·.add (l * sz))) (m-l) (lJ-l))) w:=by
  intro e sz fv ad len lJ he hu hlen h1 h2;obtain⟨zg,m4,c4,hs,_⟩:=vf he;have cB:(Go.sizeOf e).run P w=Result.ok sz w:=by simp[Go.sizeOf,typeInfo,c4,hs]
  have hb:=TA (P:=P) true len lJ (b0.map a.eval) (hi.map a.eval) l m w bl (by rw[hlen]at MW;exact MW) h1 h2;unfold execOp;rw[ax];simp[Instr.sliceAt,Instr.slice,run_underlying m4,hu,hb,cB]
 unfold cutE at ah;split at ah
 ·rename_i s;split at ah
  ·rename_i hs;simp only[Option.some.injEq,Prod.mk.injEq]at ah;obtain⟨rfl,rfl⟩:=ah;have ag:=zi cL;have cB:(⟨s.toArray⟩:ByteArray).size=s.length:=by simp[ByteArray.size]
   have hb:=TA (P:=P) false s.length s.length (b0.map a.eval) (hi.map a.eval) l m w bl MW hp.1 hp.2;refine⟨.string ⟨((s.drop l).take (m-l)).toArray⟩,?_,ER (by simp;omega)⟩;unfold execOp;rw[ax];simp[Instr.sliceAt,Instr.slice,run_underlying (CC hs),ag.1,cB,hb,acj]
  ·cases ah
 ·rename_i id off len;split at ah
  ·rename_i e sz fv gy xs he hel;split at ah
   ·rename_i cB;subst cB;simp only[Option.some.injEq,Prod.mk.injEq]at ah;obtain⟨rfl,rfl⟩:=ah;obtain⟨β,ad,c,ag,e2,aY,bk,cg⟩:=uf cL;obtain⟨a1,fI,hr⟩:=Hw r (Cf hle hel);rw[ag]at fI;cases fI;have hs:=MU (Cf hle hel) hr;have acm:m≤c:=by
     rcases hp.2 with hp|hp
     ·omega
     ·unfold reachE at hp;split at hp
      ·rename_i wI lK gv;have e6:aG σ'.heap id=.ai wI lK true:=by
        rcases hle.2 id with hh|hh
        ·rw[gv]at hh;cases hh
        ·rw[hh,gv]
       rw[e6]at hr;simp only[dD]at hr;have an1:off+c=β.cap:=by
        rcases cg with cg|⟨_,_,_,cg⟩
        ·omega
        ·exact cg
       rcases hr.2 with hr|⟨_,_,_,hr,_⟩
       ·rw[hr.2.1]at hp;simp at hp;omega
       ·omega
      ·exact hp.elim
    refine⟨_,MX he e2 rfl hp.1 acm,?_⟩;simp only[VRel];refine⟨β,_,c-l,ag,rfl,by omega,?_⟩;by_cases hcl:c=l
    ·exact .inl ⟨by omega,by omega⟩
    ·rcases cg with cg|⟨b,cg,jH,m5⟩
     ·exfalso;omega
     ·subst jH;refine .inr ⟨b,cg,?_,by omega,by omega⟩;rw[if_neg hcl];simp only[Option.map_some,add_lit,hs];rw[Nat.add_mul,←Nat.add_assoc]
   ·cases ah
  ·cases ah
 ·rename_i gy xs;split at ah
  ·rename_i e sz fv he;split at ah
   ·rename_i cB;subst cB;simp only[Option.some.injEq,Prod.mk.injEq]at ah;obtain⟨rfl,rfl⟩:=ah;obtain⟨ad,c,ag,e2,aY,bk⟩:=Ef cL;have hlen:((xs.drop l).take (m-l)).length=m-l:=by simp;omega
    refine⟨_,MX he ag rfl hp.1 (by omega),?_⟩;simp only[VRel,rep];by_cases hne:(xs.drop l).take (m-l)=[]
    ·have TB:m-l=0:=by rw[←hlen,hne];rfl
     exact⟨[],⟨_,c-l,by rw[hlen],by omega,by omega,.inl ⟨hne,rfl,fun h=>by cases h⟩⟩,by simp⟩
    ·rcases bk with bk|⟨b,f,G,bk,cg,jH,m5,EO⟩
     ·subst bk;simp at hne
     ·subst bk;have TB:0<m-l:=by rw[←hlen];exact List.length_pos_iff.2 hne
      have Cg:xs=xs.take l++((xs.drop l).take (m-l)++(xs.drop l).drop (m-l)):=by rw[List.take_append_drop,List.take_append_drop]
      rw[Cg]at m5;obtain⟨bE,bh,rfl,k1,k2⟩:=(repE_append _ _ _ _).1 m5;obtain⟨AM,S9,rfl,dC,iK⟩:=(repE_append _ _ _ _).1 k2;have jr:(xs.take l).length=l:=by simp;omega
      rw[jr]at dC;refine⟨b::AM,⟨_,c-l,by rw[hlen],by omega,by omega,.inr ⟨b,f+l * sz,AM,?_,rfl,cg,dC,fun h=>by cases h⟩⟩,?_⟩
      ·have hcl:¬c=l:=by omega
       rw[if_neg hcl];simp[add_lit]
      ·intro y hy;rcases List.mem_cons.1 hy with rfl|hy
       ·exact jH
       ·exact EO y (by simp[hy])
   ·cases ah
  ·cases ah
 ·rename_i s;split at ah
  ·rename_i he;simp only[Option.some.injEq,Prod.mk.injEq]at ah;obtain⟨rfl,rfl⟩:=ah;obtain⟨⟨e,sz,fv⟩,he⟩:=Option.isSome_iff_exists.1 he;simp only[VRel]at cL;have hh:=MX he cL rfl (by omega) (by omega);obtain⟨rfl,rfl⟩:=hp;refine⟨_,hh,?_⟩;simp[VRel]
  ·cases ah
 ·cases ah
def cut3E(P:Program)(T:TypeId)(x:V)(l h m:Nat):Option (Prop×V):=
 match x with
 |.sl _ _ len=>if(elI P T).isSome then some (l≤h∧h≤m∧m≤len,.J)else none
 |_=>none
theorem abd{T:TypeId}{x b0 hi wm:Operand}(ax:o.op=.slice T x (some b0) (some hi) (some wm))
  (h:evg g (σ.ev x) fun a=>bndE g σ 0 (some b0) fun l=>bndE g σ 0 (some hi) fun h=>bndE g σ 0 (some wm) fun m=>withR (cut3E P T a l h m) fun v=>K (ck v)):∃r,gb P o g σ n r∧K r:=by
 obtain⟨ka,h1,hx⟩:=fw h;obtain⟨l,h2,hl⟩:=EP h1;obtain⟨m,aj,hm⟩:=EP h2;obtain⟨q,aD,hq⟩:=EP aj;obtain⟨p,v,ah,hp,bF⟩:=zh aD;clear h h1 h2 aj aD;refine⟨_,ma fun σ' hle B w0 aJ φ kp a w r hg=>?_,bF⟩;have cL:=hx _ _ _ _ hg (fg hle r x);have MY:∀{z:Operand} {d t:Nat},((some z=none∧t=d)∨∃k y,some z=some y∧a.eval y=.int k t)→∃k,a.eval z=.int k t:=by
  rintro z d t (⟨h,_⟩|⟨k,y,h,e⟩)
  ·cases h
  ·cases h;exact⟨k,e⟩
 obtain⟨k1,MZ⟩:=MY (hl hle r hg);obtain⟨k2,em⟩:=MY (hm hle r hg);obtain⟨dC,eq⟩:=MY (hq hle r hg);unfold cut3E at ah;split at ah
 ·rename_i id off len;split at ah
  ·rename_i hs;simp only[Option.some.injEq,Prod.mk.injEq]at ah;obtain⟨rfl,rfl⟩:=ah;obtain⟨c5,cS,fQ⟩:=hp;obtain⟨⟨e,sz,fv⟩,he⟩:=Option.isSome_iff_exists.1 hs;obtain⟨zg,m4,c4,hs,_⟩:=vf he;have cB:(Go.sizeOf e).run P w=Result.ok sz w:=by simp[Go.sizeOf,typeInfo,c4,hs]
   obtain⟨β,ad,c,ag,e2,aY,bk,cg⟩:=uf cL;have lZ:∀(k:IntKind) (x y:Nat) (c:BoundsCode),x≤y→(Instr.sliceBound (.int k x) y c).run P w=.ok x w:=by
    intro k x y c mz;simp[Instr.sliceBound,asIntOf,mz]
   have hb:(Instr.sliceBounds true len c (some (.int k1 l)) (some (.int k2 m)) (some (.int dC q))).run P w=.ok (l,m,q) w:=by
    unfold Instr.sliceBounds;simp[lZ _ _ _ _ (show q≤c by omega),lZ _ _ _ _ cS,lZ _ _ _ _ c5]
   refine⟨.slice (if q=l then ad else ad.map (·.add (l * sz))) (m-l) (q-l),?_,by simp only[VRel]⟩;unfold execOp;rw[ax];simp[Instr.sliceAt,Instr.slice,run_underlying m4,MZ,em,eq,e2,hb,cB]
  ·cases ah
 ·cases ah
variable {P:Program} {o:Oper} {g:Bool} {σ:St} {n:Nat} {K:dS→Prop}
def byte1:List D→Option UInt8
 |[.int .u8 n]=>some (UInt8.ofNat n.toNat)
 |_=>none
def bytesL:List (List D)→Option (List UInt8)
 |[]=>some []
 |c::cs=>match byte1 c,bytesL cs with|some b,some r=>some (b::r)|_,_=>none
def elsOf(hs:List H)(x:V):Option (Nat×List (List D)):=
 match x with
 |.sl id off len=>match(aG hs id).els with|some (sz,xs)=>if off+len≤xs.length then some (sz,(xs.drop off).take len)else none|none=>none
 |.d (.sl sz xs)=>some (sz,xs)
 |.c7 sz=>some (sz,[])
 |_=>none
theorem Hu{B:Nat→Prop}{w0:World}{aJ:Nat→Prop}{φ:ca}{kp:List (V×Value)}{a:Act}{w:World}{σ σ':St}(hle:σ.le σ')(r:R B w0 aJ φ σ' kp a w){x:V}{sz:Nat}{xs:List (List D)}(he:elsOf σ.heap x=some (sz,xs))
  {u:Value} (cL:VRel φ (cb φ σ'.heap) w.heap x u):∃ad c,u=.slice ad xs.length c∧xs.length≤c∧c≤maxLen∧
   (xs=[]∨∃b f G,ad=some ⟨b,f,none⟩∧b<w.heap.size∧repE w.heap false b f sz xs G∧∀g∈G,cb φ σ'.heap g):=by
 unfold elsOf at he;split at he
 ·rename_i id off len;split at he
  ·rename_i gy ys hel;split at he
   ·rename_i hb;simp only[Option.some.injEq,Prod.mk.injEq]at he;obtain⟨rfl,rfl⟩:=he;obtain⟨β,ad,c,ag,e2,aY,bk,cg⟩:=uf cL;have m_:=Cf hle hel;obtain⟨a1,fI,hr⟩:=Hw r m_;rw[ag]at fI;cases fI;have hs:=MU m_ hr;have hlen:((ys.drop off).take len).length=len:=by simp;omega
    refine⟨ad,c,by rw[hlen];exact e2,by omega,bk,?_⟩;by_cases hne:(ys.drop off).take len=[]
    ·exact .inl hne
    ·have zj:0<len:=by rw[←hlen];exact List.length_pos_iff.2 hne
     rcases cg with cg|⟨b,cg,jH,m5⟩
     ·omega
     ·subst jH;have Cg:ys=ys.take off++((ys.drop off).take len++(ys.drop off).drop len):=by rw[List.take_append_drop,List.take_append_drop]
      have jr:(ys.take off).length=off:=by simp;omega
      have key:∀{bl:Bool} {G:List Nat},repE w.heap bl b β.off gy ys G→∃jX,(∀g∈jX,g∈G)∧repE w.heap bl b (β.off+off * gy) gy ((ys.drop off).take len) jX:=by
       intro bl G bw;rw[Cg]at bw;obtain⟨bE,bh,rfl,k1,k2⟩:=(repE_append _ _ _ _).1 bw;obtain⟨AM,S9,rfl,dC,iK⟩:=(repE_append _ _ _ _).1 k2;rw[jr]at dC;exact⟨AM,fun y hy=>by simp[hy],dC⟩
      cases hx:aG σ'.heap id with
      |cF=>rw[hx]at m_;cases m_
      |box cells=>rw[hx]at m_;cases m_
      |af _ _=>rw[hx]at m_;cases m_
      |fA _ _ _ _=>rw[hx]at m_;cases m_
      |ai acn M0 jt=>
       rw[hx]at m_ hr;simp only[H.els,Option.some.injEq,Prod.mk.injEq]at m_;obtain⟨rfl,rfl⟩:=m_;simp only[dD]at hr;rcases hr.2 with hr|⟨dc,G,aK,a7,b8,cj,ez,hD⟩
       ·rw[hr.2.1]at hb;simp at hb;omega
       ·rw[cg]at aK;cases aK;obtain⟨jX,g1,cx⟩:=key cj;refine .inr ⟨b,_,jX,rfl,b8.lt,?_,fun g hg=>?_⟩
        ·rw[hs]
         cases jt with
         |true=>exact Ex _ _ _ _ _ cx
         |false=>exact cx
        ·cases jt with
         |true=>exact Tf r ag (by rw[hx];rfl) (by rw[hx];rfl) (by rw[←ez rfl];exact g1 g hg)
         |false=>exact hD rfl g (g1 g hg)
      |iA acn M0=>
       rw[hx]at m_ hr;simp only[H.els,Option.some.injEq,Prod.mk.injEq]at m_;obtain⟨rfl,rfl⟩:=m_;simp only[dD]at hr;rcases hr.2 with hr|⟨dc,G,aK,a7,b8,cj,ez⟩
       ·rw[hr]at hb;simp at hb;omega
       ·rw[cg]at aK;cases aK;obtain⟨jX,g1,cx⟩:=key cj;exact .inr ⟨b,_,jX,rfl,b8,by rw[hs];exact cx,fun g hg=>ez g (g1 g hg)⟩
   ·cases he
  ·cases he
 ·simp only[Option.some.injEq,Prod.mk.injEq]at he;obtain⟨rfl,rfl⟩:=he;obtain⟨ad,c,ag,e2,aY,bk⟩:=Ef cL;refine⟨ad,c,ag,e2,aY,?_⟩;rcases bk with bk|⟨b,f,G,bk,cg,jH,m5,EO⟩
  ·exact .inl bk
  ·exact .inr ⟨b,f,G,bk,cg,m5,EO⟩
 ·simp only[Option.some.injEq,Prod.mk.injEq]at he;obtain⟨rfl,rfl⟩:=he;simp only[VRel]at cL;exact⟨none,0,cL,by simp,by decide,.inl rfl⟩
 ·cases he
theorem M1{h:Array Obj}{b:Nat}:∀(cs:List (List D)) (s:List UInt8) (f:Nat) (G:List Nat),bytesL cs=some s→repE h false b f 1 cs G→
  s.length=cs.length∧∀(j:Nat) (c:UInt8),s[j]?=some c→∃n:Int,cellAt h b (f+j)=some (.int .u8 n)∧UInt8.ofNat n.toNat=c
 |[],s,f,G,e,_=>by simp only[bytesL,Option.some.injEq]at e;subst e;simp
 |c::cs,s,f,G,e,r=>by
  simp only[bytesL]at e;split at e
  ·rename_i dc cW ag e2
   cases e
   simp only[repE]at r;obtain⟨bE,bh,rfl,k1,k2,dC⟩:=r;obtain⟨aco,acp⟩:=M1 cs cW (f+1) bh e2 dC;refine⟨by simp[aco],fun j x ak=>?_⟩
   cases j with
   |zero=>
    simp at ak;subst ak;unfold byte1 at ag;split at ag
    ·rename_i m
     cases ag
     simp only[repC]at k2;obtain⟨v,uk,um,_,c1,c2,_⟩:=k2;simp only[rep]at c2;exact⟨m,by rw[Nat.add_zero,c1,c2.1],rfl⟩
    ·cases ag
   |succ j=>
    have:=acp j x (by simpa using ak);rw[show f+(j+1)=f+1+j from by omega];exact this
  ·cases e
theorem TC:∀(lo:List Int) (s:ByteArray),lo.foldl (fun r n=>r.push (UInt8.ofNat n.toNat)) s=⟨(s.data.toList++lo.map fun n=>UInt8.ofNat n.toNat).toArray⟩
 |[],s=>by simp
 |m::lo,s=>by
  rw[List.foldl_cons,TC lo];simp[ByteArray.push]
def cvE(P:Program)(hs:List H)(l5 dst:TypeId)(x:V):Option (Prop×V):=
 match x with
 |.d (.int _ n)=>
  match intI P l5,intI P dst with
  |some _,some k=>some (True,oH k (k.wrap n))
  |_,_=>none
 |.d (.str s)=>if isStrI P l5&&isStrI P dst then some (True,Ez s)else none
 |x=>
  match elI P l5,elsOf hs x with
  |some (e,1,_),some (1,xs)=>if intI P e=some .u8&&isStrI P dst then some ((bytesL xs).isSome=true,Ez ((bytesL xs).getD []))else none
  |some (e,1,_),some (_,[])=>if intI P e=some .u8&&isStrI P dst then some (True,Ez [])else none
  |_,_=>none
theorem TD{w:World}{l5 dst e:TypeId}{s fv:Nat}(he:elI P l5=some (e,s,fv))(hk:(intI P e=some .u8&&isStrI P dst)=true){ad:Option Addr}{c:Nat}{xs:List (List D)}{t:List UInt8}(ht:bytesL xs=some t)
  (h:xs=[]∨∃b f G,ad=some ⟨b,f,none⟩∧repE w.heap false b f 1 xs G):(convert l5 dst (.slice ad xs.length c)).run P w=.ok (.string ⟨t.toArray⟩) w:=by
 simp only[Bool.and_eq_true,decide_eq_true_eq]at hk;obtain⟨zg,hu,_⟩:=vf he;rw[run_convert_bytes_string w l5 dst e _ _ _ hu (MT hk.1) (CC hk.2)];have nil:∀(ad:Option Addr) (c:Nat),(Conv.bytesToString (.slice ad 0 c)).run P w=.ok (.string ⟨#[]⟩) w:=by
  intro ad c
  cases ad with
  |none=>rfl
  |some ad=>exact run_bytesToString w ad 0 c [] (by simp[loadCells,loadCellsFrom])
 rcases h with rfl|⟨b,f,G,rfl,h⟩
 ·simp only[bytesL,Option.some.injEq]at ht;subst ht;exact nil ad c
 ·obtain⟨h1,h2⟩:=M1 _ _ _ _ ht h;have l_:∃lo:List Int,lo.length=xs.length∧(∀(j:Nat) (n:Int),lo[j]?=some n→cellAt w.heap b (f+j)=some (.int .u8 n))∧lo.map (fun n=>UInt8.ofNat n.toNat)=t:=by
   clear ht h;have:∀(t:List UInt8) (f:Nat),(∀(j:Nat) (c:UInt8),t[j]?=some c→∃n:Int,cellAt w.heap b (f+j)=some (.int .u8 n)∧UInt8.ofNat n.toNat=c)→
     ∃lo:List Int,lo.length=t.length∧(∀(j:Nat) (n:Int),lo[j]?=some n→cellAt w.heap b (f+j)=some (.int .u8 n))∧lo.map (fun n=>UInt8.ofNat n.toNat)=t:=by
    intro t
    induction t with
    |nil=>exact fun f _=>⟨[],rfl,by simp,rfl⟩
    |cons c t dr=>
     intro f h;obtain⟨m,vj,y9⟩:=h 0 c rfl;obtain⟨lo,lH,mA,ug⟩:=dr (f+1) (fun j c ak=>by have:=h (j+1) c (by simpa using ak);rw[show f+1+j=f+(j+1)from by omega];exact this);refine⟨m::lo,by simp[lH],fun j n ak=>?_,by simp[y9,ug]⟩
     cases j with
     |zero=>simp at ak;subst ak;exact vj
     |succ j=>rw[show f+(j+1)=f+1+j from by omega];exact mA j n (by simpa using ak)
   obtain⟨lo,lH,mA,ug⟩:=this t f h2;exact⟨lo,by rw[lH,h1],mA,ug⟩
  obtain⟨lo,lH,mA,ug⟩:=l_;have hl:=run_loadCells_list (P:=P) w ⟨b,f,none⟩ (lo.map (Value.int .u8)) (fun j v ak=>by
   rw[add_lit,cell_eq];rw[List.getElem?_map]at ak
   cases hn:lo[j]? with
   |none=>rw[hn]at ak;cases ak
   |some m=>rw[hn]at ak;cases ak;exact mA j m hn)
  rw[List.length_map,lH]at hl;rw[run_bytesToString w _ _ c lo hl,TC,ug];rfl
theorem aa8{l5 dst:TypeId}{x:Operand}(ax:o.op=.convert l5 dst x)(h:evg g (σ.ev x) fun a=>withR (cvE P σ.heap l5 dst a) fun v=>K (ck v)):∃r,gb P o g σ n r∧K r:=by
 obtain⟨ka,h1,hx⟩:=fw h;obtain⟨p,v,ah,hp,bF⟩:=zh h1;clear h h1;refine⟨_,ma fun σ' hle B w0 aJ φ kp a w r hg=>?_,bF⟩;have cL:=hx _ _ _ _ hg (fg hle r x);have l_:∀{u:Value},(convert l5 dst (a.eval x)).run P w=.ok u w→(execOp a.eval o).run P w=.ok (.value u) w:=by
  intro u hu;unfold execOp;rw[ax];simp[hu]
 unfold cvE at ah;split at ah
 ·rename_i k m;split at ah
  ·rename_i k1 k2 h1 h2;simp only[Option.some.injEq,Prod.mk.injEq]at ah;obtain⟨_,rfl⟩:=ah;refine⟨_,l_ (u:=.int k2 (k2.wrap m)) ?_,m8 (wL _ _)⟩;rw[(l' cL).1];simp[convert,run_underlying (MT h1),run_underlying (MT h2),Conv.intToInt]
  ·cases ah
 ·split at ah
  ·rename_i s hs;simp only[Option.some.injEq,Prod.mk.injEq]at ah;obtain⟨_,rfl⟩:=ah;simp only[Bool.and_eq_true]at hs;have ag:=zi cL;refine⟨_,l_ (u:=.string ⟨s.toArray⟩) ?_,ER ag.2⟩;rw[ag.1];simp[convert,run_underlying (CC hs.1),run_underlying (CC hs.2)]
  ·cases ah
 ·split at ah
  ·rename_i e fv xs he hel;split at ah
   ·rename_i hk;simp only[Option.some.injEq,Prod.mk.injEq]at ah;obtain⟨rfl,rfl⟩:=ah;obtain⟨t,ht⟩:=Option.isSome_iff_exists.1 hp;obtain⟨ad,c,ag,e2,aY,bk⟩:=Hu hle r hel cL;have acq:xs=[]∨∃b f G,ad=some ⟨b,f,none⟩∧repE w.heap false b f 1 xs G:=by
     rcases bk with bk|⟨b,f,G,bk,_,cg,_⟩
     ·exact .inl bk
     ·exact .inr ⟨b,f,G,bk,cg⟩
    have ey:=TD (w:=w) (dst:=dst) he hk ht (ad:=ad) (c:=c) acq;refine⟨_,l_ (u:=.string ⟨t.toArray⟩) (by rw[ag];exact ey),?_⟩;have hlen:t.length=xs.length:=by
     rcases bk with rfl|⟨b,f,G,bk,_,cg,_⟩
     ·simp only[bytesL,Option.some.injEq]at ht;subst ht;rfl
     ·exact(M1 _ _ _ _ ht cg).1
    rw[ht];exact ER (by simp;omega)
   ·cases ah
  ·rename_i e fv s _ he hel;split at ah
   ·rename_i hk;simp only[Option.some.injEq,Prod.mk.injEq]at ah;obtain⟨_,rfl⟩:=ah;obtain⟨ad,c,ag,e2,aY,bk⟩:=Hu hle r hel cL;have ey:=TD (w:=w) (dst:=dst) he hk (xs:=[]) (t:=[]) rfl (ad:=ad) (c:=c) (.inl rfl);exact⟨_,l_ (by rw[ag];exact ey),ER (by decide)⟩
   ·cases ah
  ·cases ah
def dn{α:Type}(l:List α)(off:Nat)(vs:List α):List α:=l.take off++(vs++l.drop (off+vs.length))
theorem xK{α:Type}{l:List α}{off:Nat}{vs:List α}(h:off+vs.length≤l.length):(dn l off vs).length=l.length:=by
 simp[dn];omega
theorem M3{φ:ca}{T:Nat→Prop}{h:Array Obj}{cs vs:List V}{us fJ:List Value}(r:VRels φ T h cs us)(cW:VRels φ T h vs fJ)(off:Nat):VRels φ T h (dn cs off vs) (dn us off fJ):=by
 unfold dn;rw[jW _ _ cW];exact Cs (Td r off) (Cs cW (Te r _))
theorem TE:∀(vs:List Value) (k off:Nat) (cells:Array Value),off+k+vs.length≤cells.size→
  (vs.zipIdx k).foldl (fun cs (c,j)=>cs.setIfInBounds (off+j) c) cells=(dn cells.toList (off+k) vs).toArray
 |[],k,off,cells,_=>by simp[dn]
 |v::vs,k,off,cells,h=>by
  simp only[List.length_cons]at h;rw[List.zipIdx_cons,List.foldl_cons,TE vs (k+1) off _ (by simp;omega)];have hi:off+k<cells.toList.length:=by simp;omega
  have e:=list_seg_step cells.toList (off+k) v vs (by simp;omega)
  congr 1
  unfold dn;simpa [Array.toList_setIfInBounds,Nat.add_assoc]using e
def vfill(ui:Nat→Option (Nat×Nat)):List V→List (Nat×V)→Option (List V)
 |cells,[]=>some cells
 |cells,(i,v)::r=>
  match ui i with
  |some (off,sz)=>if v.cells.length=sz∧off+sz≤cells.length∧v.wz=true then vfill ui (dn cells off v.cells) r else none
  |none=>none
def partsRel(φ:ca)(T:Nat→Prop)(h:Array Obj):List (Nat×V)→List (Nat×Value)→Prop
 |[],us=>us=[]
 |(i,v)::r,us=>∃u us',us=(i,u)::us'∧VRel φ T h v u∧partsRel φ T h r us'
theorem HZ{φ:ca}{T:Nat→Prop}{h:Array Obj}(ui:Nat→Option (Nat×Nat)):∀(parts:List (Nat×V)) (cells cells':List V) (us:List Value) (ps:List (Nat×Value)),vfill ui cells parts=some cells'→VRels φ T h cells us→partsRel φ T h parts ps→
  ∃us':List Value,Instr.fill ui us.toArray ps=some us'.toArray∧VRels φ T h cells' us'
 |[],cells,cells',us,ps,e,r,eN=>by
  simp only[vfill,Option.some.injEq]at e;subst e;simp only[partsRel]at eN;subst eN;exact⟨us,rfl,r⟩
 |(i,v)::parts,cells,cells',us,ps,e,r,eN=>by
  simp only[partsRel]at eN;obtain⟨u,acr,rfl,ck,eN⟩:=eN;simp only[vfill]at e;split at e
  ·rename_i off sz fx;split at e
   ·rename_i hb;have hc:=(EI hb.2.2 ck).1;have hl:=jW _ _ hc;have jg:=jW _ _ r;obtain⟨us',k1,k2⟩:=HZ ui parts _ cells' _ acr e (M3 r hc off) eN;refine⟨us',?_,k2⟩;rw[←k1];have cB:u.cells.size=sz:=by rw[←Array.length_toList,hl];exact hb.1
    have BF:¬(u.cells.size≠sz∨off+u.cells.size>us.toArray.size):=by
     have:=hb.2.1;simp only[List.size_toArray,cB];omega
    have acs:(decide (u.cells.size≠sz)||decide (off+u.cells.size>us.toArray.size))=false:=by
     rw[Bool.eq_false_iff];intro hh;exact BF (by simpa using hh)
    simp only[Instr.fill,fx,acs,Bool.false_eq_true,if_false]
    congr 1
    have:=TE u.cells.toList 0 off us.toArray (by
     have:=hb.2.1;simp only[Nat.add_zero,Array.length_toList,List.size_toArray,cB];omega)
    simp only[Nat.add_zero]at this;rw[←this,←Array.foldl_toList,Array.toList_zipIdx]
   ·cases e
  ·cases e
def plI(P:Program)(T:TypeId):Option (Nat→Option (Nat×Nat)):=
 match P.underlying T with
 |some (.array _ e)=>(P.info? e).map fun i=>fun j=>some (j * i.size,i.size)
 |some (.struct cu)=>(cu.toList.mapM fun f=>(P.info? f.type).map fun i=>(f.offset,i.size)).map fun l=>fun j=>l[j]?
 |_=>none
def Ia(P:Program):Nat→TypeId→List Nat
 |0,_=>[]
 |f+1,T=>
  match P.underlying T with
  |some (.array n e)=>(List.replicate n (Ia P f e)).flatten
  |some (.struct cu)=>(cu.toList.map fun x=>Ia P f x.type).flatten
  |some (.slice e)=>[P.cellsOf e]
  |_=>[0]
def TF:V→Nat→V
 |.c7 _,s=>.c7 s
 |v,_=>v
def zrI(P:Program)(T:TypeId):Option (List V):=
 match P.info? T with
 |some i=>
  match i.zero with
  |some z=>
   let l:=List.zipWith TF (z.cells.toList.map ofVal) (Ia P 8 T)
   if l.length=z.cells.toList.length then some l else none
  |none=>none
 |none=>none
theorem Ay{T:TypeId}{vs:List V}(h:zrI P T=some vs):∃i z,P.info? T=some i∧i.zero=some z∧∀(φ:ca) (ga:Nat→Prop) (hp:Array Obj),VRels φ ga hp vs z.cells.toList:=by
 unfold zrI at h;split at h
 ·rename_i i hi;split at h
  ·rename_i z hz;simp only at h;split at h
   ·rename_i hl
    cases h
    refine⟨i,z,hi,hz,fun φ ga hp=>y7 _ _ hl.symm fun t v u ag e2=>?_⟩;rw[List.getElem?_zipWith]at ag;rw[List.getElem?_map,e2]at ag;simp only[Option.map_some]at ag
    cases hs:(Ia P 8 T)[t]? with
    |none=>rw[hs]at ag;cases ag
    |some s=>
     rw[hs]at ag
     cases ag
     have:=Tp (φ:=φ) (T:=ga) (h:=hp) u
     cases hv:ofVal u<;>rw[hv]at this<;>first|exact this|(simp only[TF,VRel]at this⊢;exact this)
   ·cases h
  ·cases h
 ·cases h
def evParts(g:Bool)(σ:St):List (Nat×Operand)→(List (Nat×V)→Prop)→Prop
 |[],K=>K []
 |(i,x)::r,K=>evg g (σ.ev x) fun v=>evParts g σ r fun vs=>K ((i,v)::vs)
theorem MF:∀(ps:List (Nat×Operand)) (K:List (Nat×V)→Prop),evParts g σ ps K→∃vs,K vs∧∀{σ':St} {B:Nat→Prop} {w0:World} {aJ:Nat→Prop} {φ:ca} {kp:List (V×Value)} {a:Act} {w:World},σ.le σ'→R B w0 aJ φ σ' kp a w→g=true→
  partsRel φ (cb φ σ'.heap) w.heap vs (ps.map fun(i,x)=>(i,a.eval x))
 |[],K,h=>⟨[],h,fun _ _ _=>by simp[partsRel]⟩
 |(i,x)::ps,K,h=>by
  simp only[evParts]at h;obtain⟨v,h1,hx⟩:=fw h;obtain⟨vs,bF,hr⟩:=MF ps _ h1;refine⟨(i,v)::vs,bF,fun hle r hg=>?_⟩;simp only[List.map_cons,partsRel];exact⟨_,_,rfl,hx _ _ _ _ hg (fg hle r x),hr hle r hg⟩
def bldE(P:Program)(T:TypeId)(parts:List (Nat×V)):Option V:=
 match plI P T,zrI P T with
 |some ui,some z=>(vfill ui z parts).map V.agg
 |_,_=>none
theorem aa9{T:TypeId}{parts:Array (Nat×Operand)}(ax:o.op=.build T parts)(h:evParts g σ parts.toList fun ps=>withO (bldE P T ps) fun v=>K (ck v)):∃r,gb P o g σ n r∧K r:=by
 obtain⟨ps,h1,hx⟩:=MF _ _ h;obtain⟨v,ah,bF⟩:=H8 h1;clear h h1;refine⟨_,ma fun σ' hle B w0 aJ φ kp a w r hg=>?_,bF⟩;unfold bldE at ah;split at ah
 ·rename_i ui z fx hz
  cases hf:vfill ui z ps with
  |none=>rw[hf]at ah;cases ah
  |some cells=>
   rw[hf]at ah;cases ah;obtain⟨i,an2,hi,HW,pw⟩:=Ay hz;obtain⟨us,k1,k2⟩:=HZ (φ:=φ) (T:=cb φ σ'.heap) (h:=w.heap) ui ps z cells _ _ hf (pw _ _ _) (hx hle r hg);have hb:P.built T (parts.map fun(i,x)=>(i,a.eval x)).toList=some us.toArray:=by
    unfold Program.built;unfold plI at fx;simp only[Array.toArray_toList]at k1;split at fx
    ·rename_i M4 e hu
     cases Cz:P.info? e with
     |none=>rw[Cz]at fx;cases fx
     |some vo=>
      rw[Cz]at fx;cases fx;simp only[hi,hu,HW,Cz,Array.toList_map];exact k1
    ·rename_i cu hu
     cases hp:cu.toList.mapM (fun f=>(P.info? f.type).map fun i=>(f.offset,i.size))with
     |none=>rw[hp]at fx;cases fx
     |some an3=>
      rw[hp]at fx;cases fx;simp only[hi,hu,HW,hp,Array.toList_map];simpa using k1
    ·cases fx
   refine⟨.agg us.toArray,?_,by simp only[VRel];exact⟨us.toArray,rfl,by simpa using k2⟩⟩;unfold execOp;rw[ax];have:=run_build (P:=P) w T (parts.map fun(i,x)=>(i,a.eval x)) us.toArray hb;simp[this]
 ·cases ah
variable {P:Program} {o:Oper} {g:Bool} {σ:St} {n:Nat} {K:dS→Prop}
def cK(φ:ca)(n:Nat)(β:gd):ca:=fun i=>if i=n then some β else φ i
section
variable {B:Nat→Prop} {w0:World} {aJ:Nat→Prop} {φ:ca} {kp:List (V×Value)} {a:Act} {w:World}
theorem S8(lJ sz:Nat)(r:R B w0 aJ φ σ kp a w){n:Nat}(hd:aG σ.heap n=.cF)(hn:¬aJ n){cells:List V}{cs:Array Value}{e:TypeId}(hc:VRels φ (cb φ σ.heap) w.heap cells cs.toList){w':World}
  (hh:w'.heap=w.heap.push (.cells cs e)) (hb:Bel B w0 w') :
  R B w0 (fun i=>aJ i∨(n≤i∧i<n+1)) (cK φ n ⟨some w.heap.size,0,lJ,sz,[]⟩) ⟨σ.tmps,bI σ.heap n (.box cells)⟩ kp a w':=by
 have My:φ n=none:=by
  cases h:φ n with
  |none=>rfl
  |some β=>exact absurd (r.fl n β h) hn
 have hnew:w'.heap[w.heap.size]?=some (.cells cs e (0,0)):=by rw[hh];simp
 have hle:mY φ (cK φ n ⟨some w.heap.size,0,lJ,sz,[]⟩):=fun i β hi=>by
  have:i≠n:=fun e=>by subst e;rw[My]at hi;cases hi
  exact⟨β,by simp[cK,this,hi],rfl,rfl,rfl,rfl⟩
 have hold:∀b,b<w.heap.size→w'.heap[b]?=w.heap[b]?:=fun b hb=>by rw[hh,Array.getElem?_push];simp[Nat.ne_of_lt hb]
 have cn:∀b,b<w.heap.size→cb φ σ.heap b→cb (cK φ n ⟨some w.heap.size,0,lJ,sz,[]⟩) (bI σ.heap n (.box cells)) b:=by
  intro b hb ht i β hi he;rw[gF]at he;by_cases h:i=n
  ·subst h;simp only[cK,if_true,Option.some.injEq]at hi;subst hi;rcases he with ⟨_,he⟩|⟨_,he⟩
   ·simp only[Option.some.injEq]at he;omega
   ·cases he
  ·simp only[h,if_false]at he;exact ht i β (by simpa [cK,h]using hi) he
 refine wx r (fun i=>i=n) _ _ _ w' (fun i hi=>⟨by rw[gF];simp[hi],by simp[cK,hi]⟩) hle (by rw[hh];simp) (fun b hb _=>hold b hb) ?_ ?_ (fun i j b hi ak _ _=>hi.trans ak.symm) ?_ ?_ ?_ hb
 ·rintro i rfl b ⟨β,h1,h2⟩;simp only[cK,if_true,Option.some.injEq]at h1;subst h1;rcases h2 with ⟨_,h2⟩|⟨_,h2⟩
  ·simp only[Option.some.injEq]at h2;exact .inl (by omega)
  ·cases h2
 ·rintro i rfl β h1 b h2;simp only[cK,if_true,Option.some.injEq]at h1;subst h1;rcases h2 with ⟨_,h2⟩|⟨_,h2⟩
  ·simp only[Option.some.injEq]at h2;exact .inl (by omega)
  ·cases h2
 ·rintro i β rfl _ hx;rw[gF,if_pos rfl]at hx;cases hx
 ·rintro i rfl;refine .inr ⟨⟨some w.heap.size,0,lJ,sz,[]⟩,by simp[cK],?_⟩;rw[gF,if_pos rfl];exact⟨_,cs,e,rfl,rfl,hnew,tR ⟨hle,cn,fun b hb _=>hold b hb,by rw[hh];simp⟩ _ _ hc⟩
 ·intro i β hi;by_cases h:i=n
  ·exact .inr ⟨by omega,by omega⟩
  ·exact .inl (r.fl i β (by simpa [cK,h]using hi))
theorem abC(r:R B w0 aJ φ σ kp a w){n:Nat}(hd:aG σ.heap n=.cF)(hn:¬aJ n){cells:List V}{cs:Array Value}{e:TypeId}(hc:VRels φ (cb φ σ.heap) w.heap cells cs.toList){w':World}
  (hh:w'.heap=w.heap.push (.cells cs e)) (hb:Bel B w0 w') :
  R B w0 (fun i=>aJ i∨(n≤i∧i<n+1)) (cK φ n ⟨some w.heap.size,0,0,0,[]⟩) ⟨σ.tmps,bI σ.heap n (.box cells)⟩ kp a w':=S8 0 0 r hd hn hc hh hb
def toD(hs:List H)(v:V):Option (D×List Nat):=
 match v with
 |.d x=>if x.flat then some (x,[])else none
 |.c7 s=>some (.sl s [],[])
 |.sl id off len=>match aG hs id with|.ai sz xs true=>if off+len≤xs.length then some (.sl sz ((xs.drop off).take len),[id])else none|_=>none
 |_=>none
def toDs(hs:List H):List V→Option (List D×List Nat)
 |[]=>some ([],[])
 |v::vs=>match toD hs v,toDs hs vs with|some (d,i),some (ds,is)=>some (d::ds,i++is)|_,_=>none
def H.mine:H→Option (Nat×List (List D))
 |.ai sz xs true=>some (sz,xs)
 |.af sz xs=>some (sz,xs)
 |_=>none
theorem H.abD{x:H}{p:Nat×List (List D)}(h:x.mine=some p):x.own=true∧x.my=true:=by
 cases x<;>first|exact⟨rfl,rfl⟩|(rename_i jt;cases jt<;>first|exact⟨rfl,rfl⟩|cases h)|cases h
theorem Mf{φ:ca}{T:Nat→Prop}{h:Array Obj}{β:gd}{x:H}{sz:Nat}{xs:List (List D)}(he:x.mine=some (sz,xs))(r:dD φ T h β x):β.sz=sz∧((β.dJ=none∧xs=[]∧β.cap=0∧β.cN=[])∨
  ∃b,β.dJ=some b∧xs.length≤β.cap∧l6 h b (β.off+β.cap * sz)∧repE h true b β.off sz xs β.cN):=by
 cases x with
 |ai gy lK jt=>
  cases jt with
  |false=>cases he
  |true=>
   simp only[H.mine,Option.some.injEq,Prod.mk.injEq]at he;obtain⟨rfl,rfl⟩:=he;simp only[dD]at r;obtain⟨r0,r⟩:=r;refine⟨r0,r.imp id ?_⟩;rintro⟨b,G,aK,a7,b8,cj,ez,hD⟩;exact⟨b,aK,a7,b8,(ez trivial)▸cj⟩
 |af gy lK=>
  simp only[H.mine,Option.some.injEq,Prod.mk.injEq]at he;obtain⟨rfl,rfl⟩:=he;simpa only[dD]using r
 |_=>cases he
theorem Mc(r:R B w0 aJ φ σ kp a w){id off len:Nat}{sz:Nat}{xs:List (List D)}(hx:(aG σ.heap id).mine=some (sz,xs))(hl:off+len≤xs.length){u:Value}(eZ:VRel φ (cb φ σ.heap) w.heap (.sl id off len) u) :
  ∃F,rep w.heap true (.sl sz ((xs.drop off).take len)) u F∧F.Nodup∧∀b∈F,cJ φ σ.heap id b:=by
 obtain⟨β,ad,c,ag,e2,aY,bk,cg⟩:=uf eZ;rcases r.hp id with hd|⟨a1,fI,hr⟩
 ·rw[hd]at hx;cases hx
 ·rw[ag]at fI;cases fI;obtain⟨hs,hr⟩:=Mf hx hr;obtain⟨fH,xJ⟩:=H.abD hx;have hlen:((xs.drop off).take len).length=len:=by simp;omega
  simp only[rep];by_cases hne:len=0
  ·have h0:(xs.drop off).take len=[]:=List.eq_nil_of_length_eq_zero (by omega);rcases cg with cg|⟨b,cg,jH,m5⟩
   ·exact⟨[],⟨ad,c,by rw[hlen];exact e2,by omega,bk,.inl ⟨h0,rfl,fun _=>cg.1⟩⟩,List.nodup_nil,by simp⟩
   ·rcases hr with hr|⟨dc,aK,a7,b8,cj⟩
    ·rw[cg]at hr;cases hr.1
    ·rw[cg]at aK;cases aK;rcases Nat.eq_zero_or_pos c with wJ|wJ
     ·exact⟨[],⟨ad,c,by rw[hlen];exact e2,by omega,bk,.inl ⟨h0,rfl,fun _=>wJ⟩⟩,List.nodup_nil,by simp⟩
     refine⟨[b],⟨ad,c,by rw[hlen];exact e2,by omega,bk,.inr ⟨b,_,[],jH,rfl,b8.lt,by rw[h0];simp[repE],fun _=>⟨wJ,?_⟩⟩⟩,by simp,?_⟩
     ·obtain⟨cs,t,c1,c2⟩:=b8;refine⟨cs,t,c1,Nat.le_trans ?_ c2⟩;rw[hs,Nat.add_assoc,←Nat.add_mul];exact Nat.add_le_add_left (Nat.mul_le_mul_right _ (Nat.le_of_eq m5)) _
     ·intro x e6;simp only[List.mem_singleton]at e6;subst e6;exact⟨β,ag,.inl ⟨xJ,cg⟩⟩
  ·rcases cg with cg|⟨b,cg,jH,m5⟩
   ·omega
   ·rcases hr with hr|⟨dc,aK,a7,b8,cj⟩
    ·rw[hr.2.1]at hl;simp at hl;omega
    ·rw[cg]at aK;cases aK;generalize bw:β.cN=G at cj;have Cg:xs=xs.take off++((xs.drop off).take len++(xs.drop off).drop len):=by rw[List.take_append_drop,List.take_append_drop]
     have jr:(xs.take off).length=off:=by simp;omega
     rw[Cg]at cj;obtain⟨bE,bh,rfl,k1,k2⟩:=(repE_append _ _ _ _).1 cj;obtain⟨AM,S9,rfl,dC,iK⟩:=(repE_append _ _ _ _).1 k2;rw[jr]at dC;have fW:=r.eK id β ag fH;rw[bw]at fW;refine⟨b::AM,⟨ad,c,by rw[hlen];exact e2,by omega,bk,.inr ⟨b,_,AM,jH,rfl,b8.lt,by rw[hs];exact dC,fun _=>⟨by omega,?_⟩⟩⟩,?_,?_⟩
     ·obtain⟨cs,t,c1,c2⟩:=b8;refine⟨cs,t,c1,Nat.le_trans ?_ c2⟩;rw[hs,Nat.add_assoc,←Nat.add_mul];exact Nat.add_le_add_left (Nat.mul_le_mul_right _ (Nat.le_of_eq m5)) _
     ·refine List.nodup_cons.2 ⟨fun hb=>fW.2 b cg (by simp[hb]),?_⟩;have:=fW.1;rw[List.nodup_append]at this;have:=this.2.1;rw[List.nodup_append]at this;exact this.1
     ·intro x e6;rcases List.mem_cons.1 e6 with rfl|e6
      ·exact⟨β,ag,.inl ⟨xJ,cg⟩⟩
      ·exact⟨β,ag,.inr ⟨fH,by rw[bw];simp[e6]⟩⟩
theorem Sg(r:R B w0 aJ φ σ kp a w){id off len:Nat}{sz:Nat}{xs:List (List D)}(hx:aG σ.heap id=.ai sz xs true)(hl:off+len≤xs.length){u:Value}(eZ:VRel φ (cb φ σ.heap) w.heap (.sl id off len) u) :
  ∃F,rep w.heap true (.sl sz ((xs.drop off).take len)) u F∧F.Nodup∧∀b∈F,cJ φ σ.heap id b:=Mc r (by rw[hx];rfl) hl eZ
theorem Ml(r:R B w0 aJ φ σ kp a w){v:V}{d:D}{bW:List Nat}(h:toD σ.heap v=some (d,bW)){u:Value}(eZ:VRel φ (cb φ σ.heap) w.heap v u) :
  ∃F,rep w.heap true d u F∧F.Nodup∧(∀b∈F,∃id∈bW,cJ φ σ.heap id b)∧∀id∈bW,∃sz xs,aG σ.heap id=.ai sz xs true:=by
 unfold toD at h;split at h
 ·split at h
  ·rename_i x hf;simp only[Option.some.injEq,Prod.mk.injEq]at h;obtain⟨rfl,rfl⟩:=h;simp only[VRel]at eZ;obtain⟨F,aK,_⟩:=eZ;have:=Ek hf aK;subst this;exact⟨[],HH hf aK,List.nodup_nil,by simp,by simp⟩
  ·cases h
 ·simp only[Option.some.injEq,Prod.mk.injEq]at h;obtain⟨rfl,rfl⟩:=h;simp only[VRel]at eZ;subst eZ;exact⟨[],⟨none,0,rfl,by simp,by decide,.inl ⟨rfl,rfl,fun _=>rfl⟩⟩,List.nodup_nil,by simp,by simp⟩
 ·rename_i id off len;split at h
  ·rename_i sz xs hx;split at h
   ·rename_i hl;simp only[Option.some.injEq,Prod.mk.injEq]at h;obtain⟨rfl,rfl⟩:=h;obtain⟨F,k1,k2,dC⟩:=Sg r hx hl eZ;exact⟨F,k1,k2,fun b hb=>⟨id,by simp,dC b hb⟩,by simp[hx]⟩
   ·cases h
  ·cases h
 ·cases h
theorem wF:∀(upd:List (Nat×H)) (hs:List H) (i:Nat),(∃x,(i,x)∈upd∧aG (hupd hs upd) i=x)∨((∀x,(i,x)∉upd)∧aG (hupd hs upd) i=aG hs i)
 |[],hs,i=>.inr ⟨by simp,rfl⟩
 |(j,y)::r,hs,i=>by
  rw[hupd];rcases wF r (bI hs j y) i with ⟨x,h1,h2⟩|⟨h1,h2⟩
  ·exact .inl ⟨x,by simp[h1],h2⟩
  ·rw[gF]at h2;by_cases h:i=j
   ·subst h;rw[if_pos rfl]at h2;exact .inl ⟨y,by simp,h2⟩
   ·rw[if_neg h]at h2;exact .inr ⟨fun x hx=>by
     rcases List.mem_cons.1 hx with hx|hx
     ·cases hx;exact h rfl
     ·exact h1 x hx,h2⟩
theorem HA(r:R B w0 aJ φ σ kp a w){n:Nat}(hd:aG σ.heap n=.cF)(hn:¬aJ n){upd:List (Nat×H)}(hnd:(upd.map (·.1)).Nodup)
  (hu:∀p∈upd,∃sz xs,aG σ.heap p.1=.ai sz xs true∧(p.2=.cF∨p.2=.iA sz xs)) {β:gd} {sz:Nat} {xs:List (List D)} (cB:β.sz=sz) {w':World} (hs:w.heap.size≤w'.heap.size) (hb:Bel B w0 w')
  (Ah:∀b,b<w.heap.size→(∀p∈upd,p.2=.cF→∀a1,φ p.1=some a1→a1.dJ≠some b)→w'.heap[b]?=w.heap[b]?)
  (xT:(β.dJ=none∧xs=[]∧β.cap=0∧β.cN=[])∨∃b,β.dJ=some b∧xs.length≤β.cap∧l6 w'.heap b (β.off+β.cap * sz)∧repE w'.heap true b β.off sz xs β.cN)
  (Cx:∀b,β.dJ=some b→w.heap.size≤b∨∃p∈upd,p.2=.cF∧∃a1,φ p.1=some a1∧a1.dJ=some b)
  (y4:∀b∈β.cN,w.heap.size≤b∨∃p∈upd,cJ φ σ.heap p.1 b) (Mz:β.cN.Nodup) (MA:∀b,β.dJ=some b→b∉β.cN) :
  R B w0 (fun i=>aJ i∨(n≤i∧i<n+1)) (cK φ n β) ⟨σ.tmps,hupd (bI σ.heap n (.ai sz xs true)) upd⟩ kp a w':=by
 have My:φ n=none:=by
  cases h:φ n with
  |none=>rfl
  |some β=>exact absurd (r.fl n β h) hn
 have EC:∀x,(n,x)∉upd:=fun x hx=>by
  obtain⟨s,ys,h1,_⟩:=hu _ hx;rw[hd]at h1;cases h1
 have hle:mY φ (cK φ n β):=fun i a1 hi=>by
  have:i≠n:=fun e=>by subst e;rw[My]at hi;cases hi
  exact⟨a1,by simp[cK,this,hi],rfl,rfl,rfl,rfl⟩
 have jx:aG (hupd (bI σ.heap n (.ai sz xs true)) upd) n=.ai sz xs true:=by
  rcases wF upd (bI σ.heap n (.ai sz xs true)) n with ⟨x,h1,_⟩|⟨_,h2⟩
  ·exact absurd h1 (EC x)
  ·rw[h2,gF,if_pos rfl]
 have hin:∀i x,(i,x)∈upd→aG (hupd (bI σ.heap n (.ai sz xs true)) upd) i=x:=by
  intro i x hx;rcases wF upd (bI σ.heap n (.ai sz xs true)) i with ⟨y,h1,h2⟩|⟨h1,_⟩
  ·have:y=x:=by
    have hp:List.Pairwise (fun p q=>p.1≠q.1) upd:=by simpa [List.Nodup,List.pairwise_map]using hnd
    by_cases mz:y=x
    ·exact mz
    ·exfalso;have:=List.Pairwise.forall_of_forall_of_flip (R:=fun p q:Nat×H=>p=q∨p.1≠q.1) (l:=upd) (fun p _=>.inl rfl) (hp.imp fun h=>.inr h) (hp.imp fun h=>.inr (Ne.symm h)) h1 hx;rcases this with this|this
     ·cases this;exact mz rfl
     ·exact this rfl
   rw[h2,this]
  ·exact absurd hx (h1 x)
 have mD:∀i,i≠n→(∀x,(i,x)∉upd)→aG (hupd (bI σ.heap n (.ai sz xs true)) upd) i=aG σ.heap i:=by
  intro i hi hx;rcases wF upd (bI σ.heap n (.ai sz xs true)) i with ⟨y,h1,h2⟩|⟨_,h2⟩
  ·exact absurd h1 (hx y)
  ·rw[h2,gF,if_neg hi]
 have vn:∀i,i≠n→cK φ n β i=φ i:=fun i hi=>by simp[cK,hi]
 have xU:∀i x,(i,x)∈upd→x.my=false∧x.own=false:=by
  intro i x hx;obtain⟨s,ys,_,h2⟩:=hu _ hx;rcases h2 with h2|h2<;>simp only at h2<;>subst h2<;>exact⟨rfl,rfl⟩
 have ED:∀i x,(i,x)∈upd→∀a1 b,¬jw x a1 b:=by
  intro i x hx a1 b ht;rcases ht with ⟨h,_⟩|⟨h,_⟩
  ·rw[(xU i x hx).1]at h;cases h
  ·have:=H.HV h;rw[(xU i x hx).2]at this;cases this
 have xV:∀i,(i=n∨∃x,(i,x)∈upd)→∀b,cJ (cK φ n β) (hupd (bI σ.heap n (.ai sz xs true)) upd) i b→i=n∧(β.dJ=some b∨b∈β.cN):=by
  rintro i (rfl|⟨x,hx⟩) b ⟨a1,h1,h2⟩
  ·simp only[cK,if_true,Option.some.injEq]at h1;subst h1;refine⟨rfl,?_⟩;rcases h2 with ⟨_,h2⟩|⟨_,h2⟩
   ·exact .inl h2
   ·exact .inr h2
  ·rw[hin i x hx]at h2;obtain⟨k1,k2⟩:=xU i x hx;rcases h2 with ⟨h2,_⟩|⟨h2,_⟩
   ·rw[k1]at h2;cases h2
   ·rw[k2]at h2;cases h2
 have EE:∀p∈upd,∀a1 b,φ p.1=some a1→a1.dJ=some b→cJ φ σ.heap p.1 b:=by
  intro p hp a1 b h1 h2;obtain⟨s,ys,aj,_⟩:=hu p hp;exact⟨a1,h1,.inl ⟨by rw[aj];rfl,h2⟩⟩
 have abE:∀b,b<w.heap.size→cb φ σ.heap b→cb (cK φ n β) (hupd (bI σ.heap n (.ai sz xs true)) upd) b:=by
  intro b dM ht i a1 hi he;by_cases h:i=n
  ·subst h;simp only[cK,if_true,Option.some.injEq]at hi;subst hi;rw[jx]at he;rcases he with ⟨_,he⟩|⟨he,_⟩
   ·rcases Cx b he with h1|⟨p,hp,_,a1,h1,h2⟩
    ·omega
    ·obtain⟨s,ys,aj,_⟩:=hu p hp;exact ht p.1 a1 h1 (.inl ⟨by rw[aj];rfl,h2⟩)
   ·cases he
  ·rw[vn i h]at hi;by_cases hx:∃x,(i,x)∈upd
   ·obtain⟨x,hx⟩:=hx;rw[hin i x hx]at he;exact ED i x hx _ _ he
   ·rw[mD i h (fun x e6=>hx ⟨x,e6⟩)]at he;exact ht i a1 hi he
 refine wx r (fun i=>i=n∨∃x,(i,x)∈upd) _ _ _ w' (fun i hi=>?_) hle hs (fun b dM ht=>?_) (fun i hi b ax=>?_) (fun i hi a1 h1 b h2=>?_) (fun i j b hi ak h1 h2=>?_) (fun i a1 hi h1 hx=>?_) (fun i hi=>?_) (fun i a1 hi=>?_) hb
 ·exact⟨mD i (fun e=>hi (.inl e)) (fun x hx=>hi (.inr ⟨x,hx⟩)),vn i (fun e=>hi (.inl e))⟩
 ·refine Ah b dM fun p hp _ a1 h1 h2=>?_;obtain⟨s,ys,aj,_⟩:=hu p hp;exact ht p.1 (.inr ⟨p.2,hp⟩) a1 h1 (.inl ⟨by rw[aj];rfl,h2⟩)
 ·obtain⟨rfl,h1⟩:=xV i hi b ax;rcases h1 with h1|h1
  ·rcases Cx b h1 with h2|⟨p,hp,_,a1,h2,aj⟩
   ·exact .inl h2
   ·exact .inr ⟨p.1,.inr ⟨p.2,hp⟩,EE p hp a1 b h2 aj⟩
  ·rcases y4 b h1 with h2|⟨p,hp,h2⟩
   ·exact .inl h2
   ·exact .inr ⟨p.1,.inr ⟨p.2,hp⟩,h2⟩
 ·have ax:cJ (cK φ n β) (hupd (bI σ.heap n (.ai sz xs true)) upd) i b:=jw.wD h1 h2;obtain⟨rfl,_⟩:=xV i hi b ax;simp only[cK,if_true,Option.some.injEq]at h1;subst h1;rw[jx]at h2;rcases h2 with ⟨_,h2⟩|⟨h2,_⟩
  ·rcases Cx b h2 with aj|⟨p,hp,_,a1,aj,aD⟩
   ·exact .inl aj
   ·obtain⟨s,ys,bX,_⟩:=hu p hp;exact .inr ⟨p.1,a1,.inr ⟨p.2,hp⟩,aj,.inl ⟨by rw[bX];rfl,aD⟩⟩
  ·cases h2
 ·rw[(xV i hi b h1).1,(xV j ak b h2).1]
 ·rcases hi with rfl|⟨x,e6⟩
  ·simp only[cK,if_true,Option.some.injEq]at h1;subst h1;exact⟨Mz,MA⟩
  ·rw[hin i x e6,(xU i x e6).2]at hx;cases hx
 ·rcases hi with rfl|⟨x,hx⟩
  ·refine .inr ⟨β,by simp[cK],?_⟩;rw[jx];refine⟨cB,?_⟩;rcases xT with h1|⟨b,h1,h2,aj,aD⟩
   ·exact .inl h1
   ·exact .inr ⟨b,β.cN,h1,h2,aj,aD,fun _=>rfl,fun h=>by cases h⟩
  ·rw[hin i x hx];obtain⟨s,ys,h1,h2⟩:=hu _ hx;rcases h2 with h2|h2
   ·exact .inl h2
   ·simp only at h2 h1;subst h2;have EF:i≠n:=fun e=>by subst e;exact EC _ hx
    rcases r.hp i with gr|⟨a1,ag,hr⟩
    ·rw[h1]at gr;cases gr
    ·refine .inr ⟨a1,by rw[vn i EF];exact ag,?_⟩;rw[h1]at hr;obtain⟨vg,hr⟩:=hr;refine⟨vg,?_⟩;rcases hr with hr|⟨b,G,aK,a7,b8,cj,ez,hD⟩
     ·exact .inl hr.2.1
     ·have bw:=ez rfl;have vd:cJ φ σ.heap i b:=⟨a1,ag,.inl ⟨by rw[h1];rfl,aK⟩⟩;have EG:∀g∈G,cJ φ σ.heap i g:=fun g hg=>⟨a1,ag,.inr ⟨by rw[h1];rfl,bw▸hg⟩⟩;have hk:∀c,cJ φ σ.heap i c→w'.heap[c]?=w.heap[c]?:=by
       intro c hc;refine Ah c (cJ.lt r hc) fun p hp EH jQ cH bg=>?_;have:=r.dy i p.1 c hc (EE p hp jQ c cH bg);have aj:=hin p.1 p.2 hp;rw[←this,hin i _ hx,EH]at aj;cases aj
      have cn:∀c,cJ φ σ.heap i c→cb (cK φ n β) (hupd (bI σ.heap n (.ai sz xs true)) upd) c∨∃dc,β.dJ=some dc∧dc=c:=by
       intro c hc;by_cases zd:β.dJ=some c
       ·exact .inr ⟨c,zd,rfl⟩
       ·refine .inl fun j jQ ak he=>?_;by_cases h:j=n
        ·subst h;simp only[cK,if_true,Option.some.injEq]at ak;subst ak;rw[jx]at he;rcases he with ⟨_,he⟩|⟨he,_⟩
         ·exact zd he
         ·cases he
        ·rw[vn j h]at ak;by_cases gi:∃x,(j,x)∈upd
         ·obtain⟨x,gi⟩:=gi;rw[hin j x gi]at he;exact ED j x gi _ _ he
         ·rw[mD j h (fun x e6=>gi ⟨x,e6⟩)]at he;have:=r.dy i j c hc (jw.wD ak he);exact gi ⟨_,this▸hx⟩
      have ze:∀c,cJ φ σ.heap i c→cb (cK φ n β) (hupd (bI σ.heap n (.ai sz xs true)) upd) c:=by
       intro c hc;rcases cn c hc with h|⟨dc,cH,rfl⟩
       ·exact h
       ·exfalso;rcases Cx dc cH with aj|⟨p,hp,EH,jQ,bg,bT⟩
        ·have:=cJ.lt r hc;omega
        ·have:=r.dy i p.1 dc hc (EE p hp jQ dc bg bT);have aj:=hin p.1 p.2 hp;rw[←this,hin i _ hx,EH]at aj;cases aj
      exact .inr ⟨b,G,aK,ze b vd,Nat.lt_of_lt_of_le b8.lt hs,xR hs ys b a1.off s G (hk b vd) (fun g hg=>hk g (EG g hg)) (Ex _ _ _ _ _ cj),fun g hg=>ze g (EG g hg)⟩
 ·by_cases h:i=n
  ·exact .inr ⟨by omega,by omega⟩
  ·exact .inl (r.fl i a1 (by rw[←vn i h];exact hi))
theorem S_(r:R B w0 aJ φ σ kp a w){n:Nat}{upd:List (Nat×H)}(hnd:(upd.map (·.1)).Nodup)
  (hu:∀p∈upd,∃sz xs,aG σ.heap p.1=.ai sz xs true∧(p.2=.cF∨p.2=.iA sz xs)) {β β0:gd} {gq:Nat} {abF:List (List D)} (dE:φ n=some β0) (h0:aG σ.heap n=.ai gq abF true) (fx:β.dJ=β0.dJ∧β.off=β0.off∧β.cap=β0.cap∧β.sz=β0.sz) (EC:∀x,(n,x)∉upd) {sz:Nat} {xs:List (List D)} (cB:β.sz=sz) {w':World} (hs:w.heap.size≤w'.heap.size) (hb:Bel B w0 w')
  (Ah:∀b,b<w.heap.size→β0.dJ≠some b→(∀p∈upd,p.2=.cF→∀a1,φ p.1=some a1→a1.dJ≠some b)→w'.heap[b]?=w.heap[b]?)
  (xT:(β.dJ=none∧xs=[]∧β.cap=0∧β.cN=[])∨∃b,β.dJ=some b∧xs.length≤β.cap∧l6 w'.heap b (β.off+β.cap * sz)∧repE w'.heap true b β.off sz xs β.cN)
  (y4:∀b∈β.cN,cJ φ σ.heap n b∨∃p∈upd,cJ φ σ.heap p.1 b) (Mz:β.cN.Nodup) (MA:∀b,β.dJ=some b→b∉β.cN) :
  R B w0 aJ (cK φ n β) ⟨σ.tmps,hupd (bI σ.heap n (.ai sz xs true)) upd⟩ kp a w':=by
 have hle:mY φ (cK φ n β):=fun i a1 hi=>by
  by_cases h:i=n
  ·subst h;rw[dE]at hi;cases hi;exact⟨β,by simp[cK],fx.1,fx.2.1,fx.2.2.1,fx.2.2.2⟩
  ·exact⟨a1,by simp[cK,h,hi],rfl,rfl,rfl,rfl⟩
 have jx:aG (hupd (bI σ.heap n (.ai sz xs true)) upd) n=.ai sz xs true:=by
  rcases wF upd (bI σ.heap n (.ai sz xs true)) n with ⟨x,h1,_⟩|⟨_,h2⟩
  ·exact absurd h1 (EC x)
  ·rw[h2,gF,if_pos rfl]
 have hin:∀i x,(i,x)∈upd→aG (hupd (bI σ.heap n (.ai sz xs true)) upd) i=x:=by
  intro i x hx;rcases wF upd (bI σ.heap n (.ai sz xs true)) i with ⟨y,h1,h2⟩|⟨h1,_⟩
  ·have:y=x:=by
    have hp:List.Pairwise (fun p q=>p.1≠q.1) upd:=by simpa [List.Nodup,List.pairwise_map]using hnd
    by_cases mz:y=x
    ·exact mz
    ·exfalso;have:=List.Pairwise.forall_of_forall_of_flip (R:=fun p q:Nat×H=>p=q∨p.1≠q.1) (l:=upd) (fun p _=>.inl rfl) (hp.imp fun h=>.inr h) (hp.imp fun h=>.inr (Ne.symm h)) h1 hx;rcases this with this|this
     ·cases this;exact mz rfl
     ·exact this rfl
   rw[h2,this]
  ·exact absurd hx (h1 x)
 have mD:∀i,i≠n→(∀x,(i,x)∉upd)→aG (hupd (bI σ.heap n (.ai sz xs true)) upd) i=aG σ.heap i:=by
  intro i hi hx;rcases wF upd (bI σ.heap n (.ai sz xs true)) i with ⟨y,h1,h2⟩|⟨_,h2⟩
  ·exact absurd h1 (hx y)
  ·rw[h2,gF,if_neg hi]
 have vn:∀i,i≠n→cK φ n β i=φ i:=fun i hi=>by simp[cK,hi]
 have xU:∀i x,(i,x)∈upd→x.my=false∧x.own=false:=by
  intro i x hx;obtain⟨s,ys,_,h2⟩:=hu _ hx;rcases h2 with h2|h2<;>simp only at h2<;>subst h2<;>exact⟨rfl,rfl⟩
 have ED:∀i x,(i,x)∈upd→∀a1 b,¬jw x a1 b:=by
  intro i x hx a1 b ht;rcases ht with ⟨h,_⟩|⟨h,_⟩
  ·rw[(xU i x hx).1]at h;cases h
  ·have:=H.HV h;rw[(xU i x hx).2]at this;cases this
 have xV:∀i,(i=n∨∃x,(i,x)∈upd)→∀b,cJ (cK φ n β) (hupd (bI σ.heap n (.ai sz xs true)) upd) i b→i=n∧(β.dJ=some b∨b∈β.cN):=by
  rintro i (rfl|⟨x,hx⟩) b ⟨a1,h1,h2⟩
  ·simp only[cK,if_true,Option.some.injEq]at h1;subst h1;refine⟨rfl,?_⟩;rcases h2 with ⟨_,h2⟩|⟨_,h2⟩
   ·exact .inl h2
   ·exact .inr h2
  ·rw[hin i x hx]at h2;obtain⟨k1,k2⟩:=xU i x hx;rcases h2 with ⟨h2,_⟩|⟨h2,_⟩
   ·rw[k1]at h2;cases h2
   ·rw[k2]at h2;cases h2
 have EE:∀p∈upd,∀a1 b,φ p.1=some a1→a1.dJ=some b→cJ φ σ.heap p.1 b:=by
  intro p hp a1 b h1 h2;obtain⟨s,ys,aj,_⟩:=hu p hp;exact⟨a1,h1,.inl ⟨by rw[aj];rfl,h2⟩⟩
 have abE:∀b,b<w.heap.size→cb φ σ.heap b→cb (cK φ n β) (hupd (bI σ.heap n (.ai sz xs true)) upd) b:=by
  intro b dM ht i a1 hi he;by_cases h:i=n
  ·subst h;simp only[cK,if_true,Option.some.injEq]at hi;subst hi;rw[jx]at he;rcases he with ⟨_,he⟩|⟨he,_⟩
   ·exact ht i β0 dE (.inl ⟨by rw[h0];rfl,fx.1▸he⟩)
   ·cases he
  ·rw[vn i h]at hi;by_cases hx:∃x,(i,x)∈upd
   ·obtain⟨x,hx⟩:=hx;rw[hin i x hx]at he;exact ED i x hx _ _ he
   ·rw[mD i h (fun x e6=>hx ⟨x,e6⟩)]at he;exact ht i a1 hi he
 refine wx r (fun i=>i=n∨∃x,(i,x)∈upd) _ _ _ w' (fun i hi=>?_) hle hs (fun b dM ht=>?_) (fun i hi b ax=>?_) (fun i hi a1 h1 b h2=>?_) (fun i j b hi ak h1 h2=>?_) (fun i a1 hi h1 hx=>?_) (fun i hi=>?_) (fun i a1 hi=>?_) hb
 ·exact⟨mD i (fun e=>hi (.inl e)) (fun x hx=>hi (.inr ⟨x,hx⟩)),vn i (fun e=>hi (.inl e))⟩
 ·refine Ah b dM (fun o4=>ht n (.inl rfl) β0 dE (.inl ⟨by rw[h0];rfl,o4⟩)) fun p hp _ a1 h1 h2=>?_;obtain⟨s,ys,aj,_⟩:=hu p hp;exact ht p.1 (.inr ⟨p.2,hp⟩) a1 h1 (.inl ⟨by rw[aj];rfl,h2⟩)
 ·obtain⟨rfl,h1⟩:=xV i hi b ax;rcases h1 with h1|h1
  ·exact .inr ⟨i,.inl rfl,β0,dE,.inl ⟨by rw[h0];rfl,fx.1▸h1⟩⟩
  ·rcases y4 b h1 with h2|⟨p,hp,h2⟩
   ·exact .inr ⟨i,.inl rfl,h2⟩
   ·exact .inr ⟨p.1,.inr ⟨p.2,hp⟩,h2⟩
 ·have ax:cJ (cK φ n β) (hupd (bI σ.heap n (.ai sz xs true)) upd) i b:=jw.wD h1 h2;obtain⟨rfl,_⟩:=xV i hi b ax;simp only[cK,if_true,Option.some.injEq]at h1;subst h1;rw[jx]at h2;rcases h2 with ⟨_,h2⟩|⟨h2,_⟩
  ·exact .inr ⟨i,β0,.inl rfl,dE,.inl ⟨by rw[h0];rfl,fx.1▸h2⟩⟩
  ·cases h2
 ·rw[(xV i hi b h1).1,(xV j ak b h2).1]
 ·rcases hi with rfl|⟨x,e6⟩
  ·simp only[cK,if_true,Option.some.injEq]at h1;subst h1;exact⟨Mz,MA⟩
  ·rw[hin i x e6,(xU i x e6).2]at hx;cases hx
 ·rcases hi with rfl|⟨x,hx⟩
  ·refine .inr ⟨β,by simp[cK],?_⟩;rw[jx];refine⟨cB,?_⟩;rcases xT with h1|⟨b,h1,h2,aj,aD⟩
   ·exact .inl h1
   ·exact .inr ⟨b,β.cN,h1,h2,aj,aD,fun _=>rfl,fun h=>by cases h⟩
  ·rw[hin i x hx];obtain⟨s,ys,h1,h2⟩:=hu _ hx;rcases h2 with h2|h2
   ·exact .inl h2
   ·simp only at h2 h1;subst h2;have EF:i≠n:=fun e=>by subst e;exact EC _ hx
    rcases r.hp i with gr|⟨a1,ag,hr⟩
    ·rw[h1]at gr;cases gr
    ·refine .inr ⟨a1,by rw[vn i EF];exact ag,?_⟩;rw[h1]at hr;obtain⟨vg,hr⟩:=hr;refine⟨vg,?_⟩;rcases hr with hr|⟨b,G,aK,a7,b8,cj,ez,hD⟩
     ·exact .inl hr.2.1
     ·have bw:=ez rfl;have vd:cJ φ σ.heap i b:=⟨a1,ag,.inl ⟨by rw[h1];rfl,aK⟩⟩;have EG:∀g∈G,cJ φ σ.heap i g:=fun g hg=>⟨a1,ag,.inr ⟨by rw[h1];rfl,bw▸hg⟩⟩;have hk:∀c,cJ φ σ.heap i c→w'.heap[c]?=w.heap[c]?:=by
       intro c hc;refine Ah c (cJ.lt r hc) (fun wJ=>EF (r.dy i n c hc ⟨β0,dE,.inl ⟨by rw[h0];rfl,wJ⟩⟩)) fun p hp EH jQ cH bg=>?_;have:=r.dy i p.1 c hc (EE p hp jQ c cH bg);have aj:=hin p.1 p.2 hp;rw[←this,hin i _ hx,EH]at aj;cases aj
      have cn:∀c,cJ φ σ.heap i c→cb (cK φ n β) (hupd (bI σ.heap n (.ai sz xs true)) upd) c∨∃dc,β.dJ=some dc∧dc=c:=by
       intro c hc;by_cases zd:β.dJ=some c
       ·exact .inr ⟨c,zd,rfl⟩
       ·refine .inl fun j jQ ak he=>?_;by_cases h:j=n
        ·subst h;simp only[cK,if_true,Option.some.injEq]at ak;subst ak;rw[jx]at he;rcases he with ⟨_,he⟩|⟨he,_⟩
         ·exact zd he
         ·cases he
        ·rw[vn j h]at ak;by_cases gi:∃x,(j,x)∈upd
         ·obtain⟨x,gi⟩:=gi;rw[hin j x gi]at he;exact ED j x gi _ _ he
         ·rw[mD j h (fun x e6=>gi ⟨x,e6⟩)]at he;have:=r.dy i j c hc (jw.wD ak he);exact gi ⟨_,this▸hx⟩
      have ze:∀c,cJ φ σ.heap i c→cb (cK φ n β) (hupd (bI σ.heap n (.ai sz xs true)) upd) c:=by
       intro c hc;rcases cn c hc with h|⟨dc,cH,rfl⟩
       ·exact h
       ·exfalso;exact EF (r.dy i n dc hc ⟨β0,dE,.inl ⟨by rw[h0];rfl,fx.1▸cH⟩⟩)
      exact .inr ⟨b,G,aK,ze b vd,Nat.lt_of_lt_of_le b8.lt hs,xR hs ys b a1.off s G (hk b vd) (fun g hg=>hk g (EG g hg)) (Ex _ _ _ _ _ cj),fun g hg=>ze g (EG g hg)⟩
 ·by_cases h:i=n
  ·subst h;exact r.fl i β0 dE
  ·exact r.fl i a1 (by rw[←vn i h];exact hi)
end
variable {P:Program} {o:Oper} {g:Bool} {σ:St} {n:Nat} {K:dS→Prop}
section
variable {B:Nat→Prop} {w0:World} {aJ:Nat→Prop} {φ:ca} {kp:List (V×Value)} {a:Act} {w:World}
theorem abG(r:R B w0 aJ φ σ kp a w){id:Nat}{β:gd}(dE:φ id=some β){cells cells':List V}(h0:aG σ.heap id=.box cells){b:Nat}(iC:β.dJ=some b){Cr:Array Value}{e:TypeId}{w':World}
  (hc:VRels φ (cb φ σ.heap) w.heap cells' Cr.toList) (hw:w'.heap[b]?=some (.cells Cr e (0,0))) (hk:∀c,c≠b→w'.heap[c]?=w.heap[c]?) (hs:w'.heap.size=w.heap.size) (hb:Bel B w0 w') :
  R B w0 aJ φ ⟨σ.tmps,bI σ.heap id (.box cells')⟩ kp a w':=by
 have cn:∀c,cb φ σ.heap c→cb φ (bI σ.heap id (.box cells')) c:=by
  intro c ht i a1 hi he;rw[gF]at he;by_cases h:i=id
  ·subst h;rw[if_pos rfl]at he;rcases he with ⟨_,he⟩|⟨he,_⟩
   ·exact ht i a1 hi (.inl ⟨by rw[h0];rfl,he⟩)
   ·cases he
  ·rw[if_neg h]at he;exact ht i a1 hi he
 have AN:∀c,cb φ σ.heap c→c≠b:=fun c ht mE=>by subst mE;exact ht id β dE (.inl ⟨by rw[h0];rfl,iC⟩)
 refine wx r (fun i=>i=id) _ _ _ w' (fun i hi=>⟨by rw[gF,if_neg hi],rfl⟩) (mY.refl φ) (by omega) (fun c _ ht=>hk c fun mE=>?_) ?_ ?_ (fun i j b hi ak _ _=>hi.trans ak.symm) ?_ ?_ r.fl hb
 ·subst mE;exact ht id rfl β dE (.inl ⟨by rw[h0];rfl,iC⟩)
 ·rintro i rfl c ⟨a1,h1,h2⟩;rw[dE]at h1;cases h1;rw[gF,if_pos rfl]at h2;rcases h2 with ⟨_,h2⟩|⟨h2,_⟩
  ·exact .inr ⟨i,rfl,β,dE,.inl ⟨by rw[h0];rfl,h2⟩⟩
  ·cases h2
 ·rintro i rfl a1 h1 c h2;rw[dE]at h1;cases h1;rw[gF,if_pos rfl]at h2;rcases h2 with ⟨_,h2⟩|⟨h2,_⟩
  ·exact .inr ⟨i,β,rfl,dE,.inl ⟨by rw[h0];rfl,h2⟩⟩
  ·cases h2
 ·rintro i a1 rfl _ hx;rw[gF,if_pos rfl]at hx;cases hx
 ·rintro i rfl;refine .inr ⟨β,dE,?_⟩;rw[gF,if_pos rfl];have abH:β.off=0:=by
   rcases r.hp i with hd|⟨a1,ag,hr⟩
   ·rw[h0]at hd;cases hd
   ·rw[dE]at ag;cases ag;rw[h0]at hr;obtain⟨_,_,_,_,h,_⟩:=hr;exact h
  exact⟨b,Cr,e,iC,abH,hw,tR ⟨mY.refl φ,fun c _ ht=>cn c ht,fun c _ ht=>hk c (AN c ht),by omega⟩ _ _ hc⟩
end
theorem Ax{B:Nat→Prop}{w0 w:World}(h:Bel B w0 w)(hB:∀k,w.heap.size≤k→B k)(o:Obj):Bel B w0 (w.alloc o):=
 h.trans ⟨rfl,rfl,rfl,by simp,fun k hk=>RowKit.Below.heap_alloc _ _ _ (by
  rcases Nat.lt_or_ge k w.heap.size with h|h
  ·exact h
  ·exact absurd (hB k h) hk),fun b n r=>r.mono (RowKit.Below.heap_alloc _ _ _ r.lt)⟩
theorem Er{B:Nat→Prop}{w0:World}{aJ yZ:Nat→Prop}{φ:ca}{kp:List (V×Value)}{a:Act}{w:World}(r:R B w0 aJ φ σ kp a w)(h:∀i,aJ i→yZ i):R B w0 yZ φ σ kp a w:=
 ⟨r.gJ,r.kp,r.hp,r.dy,r.eK,r.eL,fun i β e=>h i (r.fl i β e),r.fm,r.bs,r.mZ,r.kE⟩
theorem abI{φ:ca}{T:Nat→Prop}{h:Array Obj}{n b:Nat}:VRel (cK φ n ⟨some b,0,0,0,[]⟩) T h (.ptr n 0 0) (.pointer (some ⟨b,0,none⟩)):=by
 simp only[VRel];exact⟨⟨some b,0,0,0,[]⟩,b,by simp[cK],rfl,by simp⟩
theorem S'{cells:List V}{cs:Act→Array Value}{e:TypeId}(ey:∀(a:Act) (w:World),(execOp a.eval o).run P w=.ok (.value (.pointer (some ⟨w.heap.size,0,none⟩))) (w.alloc (.cells (cs a) e)))
  (xT:∀{σ':St} {B:Nat→Prop} {w0:World} {aJ:Nat→Prop} {φ:ca} {kp:List (V×Value)} {a:Act} {w:World},σ.le σ'→R B w0 aJ φ σ' kp a w→g=true→VRels φ (cb φ σ'.heap) w.heap cells (cs a).toList) :
  gb P o g σ n ⟨.ptr n 0 0,[.box cells],[]⟩:=by
 intro σ' hle hd B w0 aJ φ kp a w jh aI hg K Q bF;unfold Oper.wp;rw[ey,Oper.upon_value];have h1:=abC aI (n:=n) (hd n (Nat.le_refl _) (by simp)) (jh n (Nat.le_refl _) (by simp)) (xT hle aI hg) (w':=w.alloc (.cells (cs a) e)) rfl (Ax aI.fm aI.bs _);exact bF _ _ _ (l8 h1 o.dst abI)
theorem ok_alloc{T:TypeId}(ax:o.op=.alloc T)(h:match zrI P T with|some cells=>K ⟨.ptr n 0 0,[.box cells],[]⟩|none=>False):∃r,gb P o g σ n r∧K r:=by
 split at h
 ·rename_i cells hz;obtain⟨i,z,hi,HW,hr⟩:=Ay hz;refine⟨_,S' (cs:=fun _=>z.cells) (e:=T) (fun a w=>?_) (fun _ _ _=>hr _ _ _),h⟩;unfold execOp;rw[ax];simp[Instr.alloc,zeroValue,typeInfo,hi,HW,newVar,newRow]
 ·exact h.elim
theorem aba{T:TypeId}{x:Operand}(ax:o.op=.box T x)(h:evg g (σ.ev x) fun v=>v.wz=true∧K ⟨.ptr n 0 0,[.box v.cells],[]⟩):∃r,gb P o g σ n r∧K r:=by
 obtain⟨v,h1,hx⟩:=fw h;refine⟨_,S' (cs:=fun a=>(a.eval x).cells) (e:=T) (fun a w=>?_) (fun hle r hg=>(EI h1.1 (hx _ _ _ _ hg (fg hle r x))).1),h1.2⟩;unfold execOp;rw[ax];simp[Instr.box,newVar,newRow]
def storeE(P:Program)(hs:List H)(T:TypeId)(p v:V):Option (Prop×List (Nat×H)):=
 match tyI P T,p with
 |some (sz,_),.ptr id bU off=>
  match aG hs id with
  |.box cells=>some (bU=0∧v.wz=true∧v.cells.length=sz∧off+sz≤cells.length,[(id,.box (dn cells off v.cells))])
  |.ai s xs true=>
   match toDs hs v.cells with
   |some (ds,bW)=>some (v.wz=true∧v.cells.length=sz∧bU<xs.length∧off+sz≤((xs[bU]?).getD []).length∧bW.Nodup∧id∉bW,(id,.ai s (xs.set bU (dn ((xs[bU]?).getD []) off ds)) true)::bW.map fun i=>(i,match aG hs i with|.ai s ys _=>.iA s ys|x=>x))
   |none=>none
  |.fA s pre cells post=>some (bU=pre.length∧v.wz=true∧v.cells.length=sz∧off+sz≤cells.length,[(id,.fA s pre (dn cells off v.cells) post)])
  |_=>none
 |_,_=>none
def reps(h:Array Obj)(o:Bool):List D→List Value→List Nat→Prop
 |[],us,G=>us=[]∧G=[]
 |d::ds,us,G=>∃u us' bE bh,us=u::us'∧G=bE++bh∧rep h o d u bE∧reps h o ds us' bh
theorem AG{h:Array Obj}{o:Bool}{b:Nat}:∀(ds:List D) (us:List Value) (f:Nat) (G:List Nat),reps h o ds us G→(∀(j:Nat) (u:Value),us[j]?=some u→cellAt h b (f+j)=some u)→repC h o b f ds G
 |[],us,f,G,r,_=>by simp only[reps]at r;simpa [repC]using r.2
 |d::ds,us,f,G,r,hc=>by
  simp only[reps]at r;obtain⟨u,us',bE,bh,rfl,rfl,aK,a7⟩:=r;simp only[repC];refine⟨u,bE,bh,rfl,by simpa using hc 0 u rfl,aK,AG ds us' (f+1) bh a7 fun j v ak=>?_⟩;rw[show f+1+j=f+(j+1)from by omega];exact hc (j+1) v (by simpa using ak)
theorem MB{h h':Array Obj}{o:Bool}(hs:h.size≤h'.size):∀(ds:List D) (us:List Value) (G:List Nat),(∀g∈G,h'[g]?=h[g]?)→reps h o ds us G→reps h' o ds us G
 |[],us,G,_,r=>by simpa [reps]using r
 |d::ds,us,G,bw,r=>by
  simp only[reps]at r⊢;obtain⟨u,us',bE,bh,rfl,rfl,aK,a7⟩:=r;exact⟨u,us',bE,bh,rfl,rfl,DQ hs d u bE (fun g hg=>bw g (by simp[hg])) aK,MB hs ds us' bh (fun g hg=>bw g (by simp[hg])) a7⟩
theorem AF{h:Array Obj}{o:Bool}:∀(ds:List D) (us:List Value) (G:List Nat),reps h o ds us G→us.length=ds.length
 |[],us,G,r=>by simp only[reps]at r;rw[r.1];rfl
 |d::ds,us,G,r=>by
  simp only[reps]at r;obtain⟨u,us',bE,bh,rfl,rfl,aK,a7⟩:=r;simp[AF ds us' bh a7]
section
variable {B:Nat→Prop} {w0:World} {aJ:Nat→Prop} {φ:ca} {kp:List (V×Value)} {a:Act} {w:World}
theorem HP(r:R B w0 aJ φ σ kp a w):∀(vs:List V) (ds:List D) (bW:List Nat) (us:List Value),toDs σ.heap vs=some (ds,bW)→bW.Nodup→VRels φ (cb φ σ.heap) w.heap vs us→
  ∃G,reps w.heap true ds us G∧G.Nodup∧(∀b∈G,∃id∈bW,cJ φ σ.heap id b)∧∀id∈bW,∃sz xs,aG σ.heap id=.ai sz xs true
 |[],ds,bW,us,e,_,ck=>by
  simp only[toDs,Option.some.injEq,Prod.mk.injEq]at e;obtain⟨rfl,rfl⟩:=e;simp only[VRels]at ck;subst ck;exact⟨[],by simp[reps],List.nodup_nil,by simp,by simp⟩
 |v::vs,ds,bW,us,e,hnd,ck=>by
  simp only[VRels]at ck;obtain⟨u,us',rfl,El,Em⟩:=ck;simp only[toDs]at e;split at e
  ·rename_i d i oG is ag e2;simp only[Option.some.injEq,Prod.mk.injEq]at e;obtain⟨rfl,rfl⟩:=e;rw[List.nodup_append]at hnd;obtain⟨F,dw,fs,f3,f4⟩:=Ml r ag El;obtain⟨G,g1,cx,g3,g4⟩:=HP r vs oG is us' e2 hnd.2.1 Em;refine⟨F++G,?_,?_,?_,?_⟩
   ·simp only[reps];exact⟨u,us',F,G,rfl,rfl,dw,g1⟩
   ·rw[List.nodup_append];refine⟨fs,cx,fun x hx y hy mz=>?_⟩;subst mz;obtain⟨p,c5,cS⟩:=f3 x hx;obtain⟨q,cH,bg⟩:=g3 x hy;have:=r.dy p q x cS bg;exact hnd.2.2 p c5 q cH this
   ·intro b hb;rcases List.mem_append.1 hb with hb|hb
    ·obtain⟨p,c5,cS⟩:=f3 b hb;exact⟨p,by simp[c5],cS⟩
    ·obtain⟨p,c5,cS⟩:=g3 b hb;exact⟨p,by simp[c5],cS⟩
   ·intro p hp;rcases List.mem_append.1 hp with hp|hp
    ·exact f4 p hp
    ·exact g4 p hp
  ·cases e
end
theorem run_store{T:TypeId}{sz:Nat}{fT:Bool}(h:tyI P T=some (sz,fT)){w:World}{b f:Nat}{cs:Array Value}{e:TypeId}(hb:w.heap[b]?=some (.cells cs e (0,0))){u:Value}(hl:u.cells.size=sz)(hf:f+sz≤cs.size)(h1:∀x∈u.cells.toList,x.oneCell'=true) :
  (storeVar T ⟨b,f,none⟩ u).run P w=.ok () (w.setRow b (dn cs.toList f u.cells.toList).toArray):=by
 obtain⟨i,hi,hs,_⟩:=MC h;have:=run_storeCells_at P b f e u.cells.toList 0 cs w hb (by simp;omega) h1;simp only[Nat.add_zero,List.append_assoc]at this;simp[storeVar,Go.sizeOf,typeInfo,hi,hs,hl,this,dn]
theorem setRow_size(w:World)(b:Nat)(cs:Array Value):(w.setRow b cs).heap.size=w.heap.size:=by simp[World.setRow]
theorem wo{B:Nat→Prop}{b:Nat}{w0 w:World}(h:Bel B w0 w)(hb:B b){Cy cs:Array Value}{e:TypeId}{b4:Nat×Nat}(hg:w.heap[b]?=some (.cells Cy e b4))(hl:Cy.size≤cs.size):Bel B w0 (w.setRow b cs):=
 h.trans ⟨rfl,rfl,rfl,by simp[World.setRow],fun k hk=>setRow_other w b k cs (fun e=>hk (e▸hb)),fun k n r=>by
  by_cases hk:k=b
  ·subst hk;obtain⟨c,t,h1,h2⟩:=r;rw[hg]at h1;cases h1;exact⟨cs,e,setRow_heap w k Cy cs e (0,0) hg,Nat.le_trans h2 hl⟩
  ·exact r.mono (setRow_other w b k cs hk)⟩
variable {P:Program} {o:Oper} {g:Bool} {σ:St} {n:Nat} {K:dS→Prop}
theorem acG{α:Type}(c:List α)(off m:Nat):c=c.take off++((c.drop off).take m++c.drop (off+m)):=by
 have h1:=(List.take_append_drop off c).symm;have h2:=(List.take_append_drop m (c.drop off)).symm;rw[List.drop_drop]at h2;rw[←h2];exact h1
theorem acH{h h':Array Obj}{b f off:Nat}{c ds:List D}{G iL:List Nat}(r:repC h true b f c G)(hl:off+ds.length≤c.length)(hs:h.size≤h'.size)(bw:∀g∈G,h'[g]?=h[g]?)
  (mD:∀j,j<off∨off+ds.length≤j→cellAt h' b (f+j)=cellAt h b (f+j)) (acI:repC h' true b (f+off) ds iL) :
  ∃kc ET jy,G=kc++(ET++jy)∧repC h' true b f (dn c off ds) (kc++(iL++jy)):=by
 rw[acG c off ds.length]at r;obtain⟨kc,bh,rfl,aK,a7⟩:=(AJ _ _ _ _).1 r;obtain⟨ET,jy,rfl,b8,cj⟩:=(AJ _ _ _ _).1 a7;have fR:(c.take off).length=off:=by simp;omega
 have gw:((c.drop off).take ds.length).length=ds.length:=by simp;omega
 rw[fR]at b8 cj;rw[gw]at cj;refine⟨kc,ET,jy,rfl,(AJ _ _ _ _).2 ⟨kc,iL++jy,rfl,?_,(AJ _ _ _ _).2 ⟨iL,jy,rfl,by rw[fR];exact acI,?_⟩⟩⟩
 ·exact Ey _ f f kc hs (fun x hx=>bw x (by simp[hx])) (fun j ak=>mD j (.inl (by omega))) aK
 ·rw[fR];refine Ey _ _ _ jy hs (fun x hx=>bw x (by simp[hx])) (fun j ak=>?_) cj;rw[Nat.add_assoc,Nat.add_assoc];exact mD _ (.inr (by omega))
theorem acJ{α:Type}(xs:List α)(i:Nat)(c:α)(h:i<xs.length):xs.set i c=xs.take i++(c::xs.drop (i+1)):=by
 rw[List.set_eq_take_append_cons_drop,if_pos h]
theorem acK{hs:List H}{v:V}{d:D}{bW:List Nat}(h:toD hs v=some (d,bW)):∀i∈bW,∃s ys,aG hs i=.ai s ys true:=by
 unfold toD at h;split at h
 ·split at h
  ·simp only[Option.some.injEq,Prod.mk.injEq]at h;obtain⟨_,rfl⟩:=h;simp
  ·cases h
 ·simp only[Option.some.injEq,Prod.mk.injEq]at h;obtain⟨_,rfl⟩:=h;simp
 ·rename_i id off len;split at h
  ·rename_i sz xs hx;split at h
   ·simp only[Option.some.injEq,Prod.mk.injEq]at h;obtain⟨_,rfl⟩:=h;intro i hi;simp only[List.mem_singleton]at hi;subst hi;exact⟨_,_,hx⟩
   ·cases h
  ·cases h
 ·cases h
theorem MH{hs:List H}:∀(vs:List V) (ds:List D) (bW:List Nat),toDs hs vs=some (ds,bW)→∀i∈bW,∃s ys,aG hs i=.ai s ys true
 |[],ds,bW,h=>by simp only[toDs,Option.some.injEq,Prod.mk.injEq]at h;obtain⟨_,rfl⟩:=h;simp
 |v::vs,ds,bW,h=>by
  simp only[toDs]at h;split at h
  ·rename_i d i oG is ag e2;simp only[Option.some.injEq,Prod.mk.injEq]at h;obtain⟨_,rfl⟩:=h;intro j ak;rcases List.mem_append.1 ak with ak|ak
   ·exact acK ag j ak
   ·exact MH vs oG is e2 j ak
  ·cases h
theorem acL{σ σ':St}(hle:σ.le σ'){v:V}{r:D×List Nat}(h:toD σ.heap v=some r):toD σ'.heap v=some r:=by
 cases v<;>simp only[toD]at h⊢<;>try exact h
 rename_i id off len;split at h
 ·rename_i sz xs hx;rcases hle.2 id with hh|hh
  ·rw[hx]at hh;cases hh
  ·rw[hh,hx];exact h
 ·cases h
theorem MG{σ σ':St}(hle:σ.le σ'):∀(vs:List V) (r:List D×List Nat),toDs σ.heap vs=some r→toDs σ'.heap vs=some r
 |[],_,h=>h
 |v::vs,r,h=>by
  simp only[toDs]at h⊢;split at h
  ·rename_i d i oG is ag e2;rw[acL hle ag,MG hle vs _ e2];exact h
  ·cases h
theorem HD{w:World}{b f:Nat}{cs:Array Value}{e:TypeId}(hb:w.heap[b]?=some (.cells cs e (0,0))){us:List Value}(hl:f+us.length≤cs.size)(j:Nat) :
  cellAt (w.setRow b (dn cs.toList f us).toArray).heap b j=if f≤j∧j<f+us.length then us[j-f]? else cellAt w.heap b j:=by
 have hnew:=setRow_heap w b cs (dn cs.toList f us).toArray e (0,0) hb;unfold cellAt;rw[hnew,hb];simp only[List.getElem?_toArray];unfold dn;have jr:(cs.toList.take f).length=f:=by simp;omega
 by_cases h1:j<f
 ·rw[List.getElem?_append_left (by omega),if_neg (by omega),List.getElem?_take,if_pos h1,Array.getElem?_toList]
 ·rw[List.getElem?_append_right (by omega),jr];by_cases h2:j<f+us.length
  ·rw[if_pos ⟨by omega,h2⟩,List.getElem?_append_left (by omega)]
  ·rw[if_neg (by omega),List.getElem?_append_right (by omega),List.getElem?_drop,Array.getElem?_toList]
   congr 1;omega
theorem acM{l:List Value}{off:Nat}{vs:List Value}(h:off+vs.length≤l.length)(j:Nat):(dn l off vs)[j]?=if off≤j∧j<off+vs.length then vs[j-off]? else l[j]?:=by
 unfold dn;have jr:(l.take off).length=off:=by simp;omega
 by_cases h1:j<off
 ·rw[List.getElem?_append_left (by omega),if_neg (by omega),List.getElem?_take,if_pos h1]
 ·rw[List.getElem?_append_right (by omega),jr];by_cases h2:j<off+vs.length
  ·rw[if_pos ⟨by omega,h2⟩,List.getElem?_append_left (by omega)]
  ·rw[if_neg (by omega),List.getElem?_append_right (by omega),List.getElem?_drop]
   congr 1;omega
theorem pt{cs:Array Value}{f:Nat}{us:List Value}(h:f+us.length≤cs.size):cs.size≤(dn cs.toList f us).toArray.size:=by
 have:=xK (l:=cs.toList) (off:=f) (vs:=us) (by simpa using h);simp only[List.size_toArray,this,Array.length_toList];exact Nat.le_refl _
theorem ok_store{T:TypeId}{p x:Operand}(ax:o.op=.store T p x)
  (h:evg g (σ.ev p) fun q=>evg g (σ.ev x) fun v=>match storeE P σ.heap T q (kb P T v)with|some (c,upd)=>c∧K ⟨.J,[],upd⟩|none=>False):∃r,gb P o g σ n r∧K r:=by
 obtain⟨q,h1,hp⟩:=fw h;obtain⟨v,h2,hx⟩:=fw h1;clear h h1;split at h2
 ·rename_i c upd ah;obtain⟨hc,bF⟩:=h2;refine⟨_,?_,bF⟩;intro σ' hle _ B w0 aJ φ kp a w _ aI hg fG Q L3;have eN:=hp _ _ _ _ hg (fg hle aI p);have cL:VRel φ (cb φ σ'.heap) w.heap (kb P T v) (a.eval x):=Tq (hx _ _ _ _ hg (fg hle aI x));generalize kb P T v=e7 at ah cL;clear hp hx;have bd:∀(w':World) (cv:ca),(storeVar T (match a.eval p with|.pointer (some ad)=>ad|_=>⟨0,0,none⟩) (a.eval x)).run P w=.ok () w'→(∃ad,a.eval p=.pointer (some ad))→
    R B w0 aJ cv ⟨σ'.tmps,hupd σ'.heap upd⟩ kp a w'→o.wp P a w fG Q:=by
   rintro w' cv ey ⟨ad,Ee⟩ dX;have l_:(execOp a.eval o).run P w=.ok .skip w':=by
    rw[Ee]at ey;unfold execOp;rw[ax];simp[Instr.storeAt,Ee,Instr.sureAddr,ey]
   unfold Oper.wp;rw[l_,Oper.upon_skip];exact L3 undef w' cv (l8 (Er dX fun i hi=>.inl hi) o.dst (v:=.J) (by simp[VRel]))
  unfold storeE at ah;split at ah
  ·rename_i sz fT id bU off oJ;simp only[VRel]at eN;obtain⟨β,b,ag,e2,aY⟩:=eN;have hh:=hle.2 id;split at ah
   ·
    rename_i cells lI;simp only[Option.some.injEq,Prod.mk.injEq]at ah;obtain⟨rfl,rfl⟩:=ah;obtain⟨c1,c2,ja,tN⟩:=hc;have f':aG σ'.heap id=.box cells:=by
     rcases hh with hh|hh
     ·rw[lI]at hh;cases hh
     ·rw[hh,lI]
    rcases aI.hp id with hd|⟨a1,fI,hr⟩
    ·rw[f']at hd;cases hd
    ·rw[ag]at fI;cases fI;rw[f']at hr;obtain⟨dc,cs,e,aK,a7,b8,cj⟩:=hr;rw[e2]at aK;cases aK;obtain⟨k1,k2⟩:=EI c2 cL;have CD:=jW _ _ k1;have EU:=jW _ _ cj;have cB:(a.eval x).cells.size=sz:=by rw[←Array.length_toList,CD];exact ja
     have acN:β.off+bU * β.sz+off=off:=by rw[a7,c1];simp
     rw[acN]at aY;have ey:=run_store oJ b8 cB (f:=off) (by rw[←Array.length_toList,EU];exact tN) k2;have hnew:=setRow_heap w b cs (dn cs.toList off (a.eval x).cells.toList).toArray e (0,0) b8;have hB:B b:=aI.eL id b ⟨β,ag,.inl ⟨by rw[f'];rfl,e2⟩⟩;refine bd _ φ (by rw[aY];exact ey) ⟨_,aY⟩ ?_;exact abG aI ag f' e2 (cells':=dn cells off e7.cells) (by simpa using M3 cj k1 off) hnew (fun c mE=>setRow_other w b c _ mE) (setRow_size _ _ _) (wo aI.fm hB b8 (pt (by rw[Array.length_toList,cB,←Array.length_toList (xs:=cs),EU];exact tN)))
   ·
    rename_i s xs lI;split at ah
    ·rename_i ds bW tX;simp only[Option.some.injEq,Prod.mk.injEq]at ah;obtain⟨rfl,rfl⟩:=ah;obtain⟨c1,c2,ja,tN,TP,GZ⟩:=hc;have f':aG σ'.heap id=.ai s xs true:=by
      rcases hh with hh|hh
      ·rw[lI]at hh;cases hh
      ·rw[hh,lI]
     rcases aI.hp id with hd|⟨a1,fI,hr⟩
     ·rw[f']at hd;cases hd
     ·rw[ag]at fI;cases fI;rw[f']at hr;obtain⟨cB,hr⟩:=hr;rcases hr with hr|⟨dc,G,aK,a7,b8,cj,ez,hD⟩
      ·rw[hr.2.1]at ja;simp at ja
      ·rw[e2]at aK;cases aK;have bw:=ez rfl;obtain⟨cs,e,cH,bg⟩:=b8;obtain⟨k1,k2⟩:=EI c1 cL;have CD:=jW _ _ k1;have vp:(a.eval x).cells.size=sz:=by rw[←Array.length_toList,CD];exact c2
       obtain⟨iL,e1,gC,jl,pz⟩:=HP aI _ _ _ _ (MG hle _ _ tX) TP k1;have iX:ds.length=sz:=by rw[←AF _ _ _ e1,CD];exact c2
       obtain⟨c,Ng⟩:∃c,xs[bU]?=some c:=⟨_,List.getElem?_eq_getElem ja⟩;simp only[Ng,Option.getD_some]at tN bd;obtain⟨bE,m6,bh,tS,vj,y9,Co,Mo⟩:=Et cj Ng;have hf:β.off+bU * s+off+sz≤cs.size:=by
        have aj:(bU+1) * s≤β.cap * s:=Nat.mul_le_mul_right _ (by omega);rw[Nat.add_mul]at aj;omega
       rw[cB]at aY;have ey:=run_store oJ cH vp (f:=β.off+bU * s+off) hf k2;have m9:(a.eval x).cells.toList.length=sz:=by rw[Array.length_toList];exact vp
       have wM:=HD cH (us:=(a.eval x).cells.toList) (f:=β.off+bU * s+off) (by rw[m9];exact hf);generalize va:w.setRow b (dn cs.toList (β.off+bU * s+off) (a.eval x).cells.toList).toArray=w' at ey wM;have acO:w'.heap.size=w.heap.size:=by rw[←va];exact setRow_size _ _ _
       have wk:∀c,c≠b→w'.heap[c]?=w.heap[c]?:=fun c mE=>by rw[←va];exact setRow_other w b c _ mE
       have hnew:w'.heap[b]?=some (.cells (dn cs.toList (β.off+bU * s+off) (a.eval x).cells.toList).toArray e (0,0)):=by rw[←va];exact setRow_heap w b cs _ e (0,0) cH
       have vd:cJ φ σ'.heap id b:=⟨β,ag,.inl ⟨by rw[f'];rfl,e2⟩⟩;have hB:B b:=aI.eL id b vd;have CE:∀g∈G,cJ φ σ'.heap id g:=fun g hg=>⟨β,ag,.inr ⟨by rw[f'];rfl,bw▸hg⟩⟩;have fW:=aI.eK id β ag (by rw[f'];rfl);rw[←bw]at fW;have nV:∀g∈G,g≠b:=fun g hg nV=>fW.2 b e2 (nV▸hg);have TQ:∀g∈iL,g≠b:=fun g hg nV=>by
        obtain⟨i,eo,dk⟩:=jl g hg;have:=aI.dy i id b (nV▸dk) vd;exact GZ (this▸eo)
       have Ij:∀g∈G,w'.heap[g]?=w.heap[g]?:=fun g hg=>wk g (nV g hg);have acP:∀g∈iL,w'.heap[g]?=w.heap[g]?:=fun g hg=>wk g (TQ g hg);have L2:repC w'.heap true b (β.off+bU * s+off) ds iL:=AG _ _ _ _ (MB (by omega) _ _ _ acP e1) fun j u ak=>by
        have xX:j<(a.eval x).cells.toList.length:=(List.getElem?_eq_some_iff.1 ak).1;rw[wM,if_pos ⟨by omega,by omega⟩];rw[show β.off+bU * s+off+j-(β.off+bU * s+off)=j from by omega];exact ak
       rw[tS]at Ij;obtain⟨kc,ET,jy,wC,lH⟩:=acH (h':=w'.heap) (off:=off) Co (by rw[iX];exact tN) (by omega) (fun g hg=>Ij g (by simp[hg])) (fun j ak=>by
        rw[wM,if_neg (by rw[m9,←iX];omega)]) L2
       have ue:repE w'.heap true b β.off s (xs.set bU (dn c off ds)) (bE++((kc++(iL++jy))++bh)):=by
        rw[acJ xs bU _ ja];have jr:(xs.take bU).length=bU:=by simp;omega
        refine(repE_append _ _ _ _).2 ⟨bE,_,rfl,?_,?_⟩
        ·refine po _ _ _ _ _ (by omega) (fun g hg=>Ij g (by simp[hg])) (fun j ak=>?_) y9;rw[jr]at ak;rw[wM,if_neg (by omega)]
        ·rw[jr];simp only[repE];refine⟨_,_,rfl,by rw[xK (by rw[iX];exact tN)];exact vj,lH,?_⟩;have aD:β.off+bU * s+s=β.off+(bU+1) * s:=by rw[Nat.add_mul];omega
         rw[aD];refine po _ _ _ _ _ (by omega) (fun g hg=>Ij g (by simp[hg])) (fun j ak=>?_) Mo;rw[wM,if_neg (by rw[←aD,m9];omega)]
       have acQ:=MH _ _ _ tX;refine bd w' (cK φ id {β with cN:=bE++((kc++(iL++jy))++bh)}) (by rw[aY];exact ey) ⟨_,aY⟩ ?_;have acR:(bE++((kc++(ET++jy))++bh)).Nodup:=by rw[←wC,←tS];exact fW.1
       have Hp:∀x∈iL,x∉G:=fun y hy acS=>by
        obtain⟨i,eo,dk⟩:=jl y hy;have:=aI.dy i id y dk (CE y acS);exact GZ (this▸eo)
       rw[tS,wC]at Hp CE;refine S_ aI (n:=id) (β:={β with cN:=bE++((kc++(iL++jy))++bh)}) (β0:=β) (upd:=bW.map fun i=>(i,match aG σ.heap i with|.ai s ys _=>.iA s ys|x=>x)) ?_ ?_ ag f' ⟨rfl,rfl,rfl,rfl⟩ ?_ cB (by omega) ?_ ?_ ?_ ?_ ?_ ?_
       ·rw[List.map_map];have:((fun x:Nat×H=>x.1)∘fun i=>(i,match aG σ.heap i with|.ai s ys _=>H.iA s ys|x=>x))=(fun i:Nat=>i):=rfl;rw[this,List.map_id'];exact TP
       ·intro p hp;obtain⟨i,eo,rfl⟩:=List.mem_map.1 hp;obtain⟨wI,xI,dk⟩:=acQ i eo;obtain⟨c9,M0,dQ⟩:=pz i eo;refine⟨c9,M0,dQ,.inr ?_⟩;rcases hle.2 i with bX|bX
        ·rw[dk]at bX;cases bX
        ·rw[←bX,dQ]
       ·intro y hy;obtain⟨i,eo,dk⟩:=List.mem_map.1 hy;simp only[Prod.mk.injEq]at dk;exact GZ (dk.1▸eo)
       ·rw[←va];exact wo aI.fm hB cH (pt (by rw[m9];exact hf))
       ·intro c' _ hne _;exact wk c' fun mE=>hne (mE▸e2)
       ·exact .inr ⟨b,e2,by simpa using a7,⟨_,e,hnew,by
         have:(dn cs.toList (β.off+bU * s+off) (a.eval x).cells.toList).length=cs.toList.length:=xK (by rw[m9];simpa using hf);simp only[List.size_toArray,this,Array.length_toList];exact bg⟩,ue⟩
       ·intro g hg;simp only[List.mem_append]at hg;rcases hg with hg|(hg|hg|hg)|hg
        ·exact .inl (CE g (by simp[hg]))
        ·exact .inl (CE g (by simp[hg]))
        ·obtain⟨i,eo,dk⟩:=jl g hg;exact .inr ⟨(i,_),List.mem_map.2 ⟨i,eo,rfl⟩,dk⟩
        ·exact .inl (CE g (by simp[hg]))
        ·exact .inl (CE g (by simp[hg]))
       ·simp only[List.nodup_append,List.mem_append]at acR Hp⊢;grind
       ·intro dc dM;simp only at dM;rw[e2]at dM;cases dM;intro j3;simp only[List.mem_append]at j3;rcases j3 with hg|(hg|hg|hg)|hg
        ·exact nV _ (by rw[tS,wC];simp[hg]) rfl
        ·exact nV _ (by rw[tS,wC];simp[hg]) rfl
        ·exact TQ _ hg rfl
        ·exact nV _ (by rw[tS,wC];simp[hg]) rfl
        ·exact nV _ (by rw[tS,wC];simp[hg]) rfl
    ·cases ah
   ·
    rename_i s pre cells post lI;simp only[Option.some.injEq,Prod.mk.injEq]at ah;obtain⟨rfl,rfl⟩:=ah;obtain⟨c1,c2,ja,tN⟩:=hc;have f':aG σ'.heap id=.fA s pre cells post:=by
     rcases hh with hh|hh
     ·rw[lI]at hh;cases hh
     ·rw[hh,lI]
    rcases aI.hp id with hd|⟨a1,fI,hr⟩
    ·rw[f']at hd;cases hd
    ·rw[ag]at fI;cases fI;rw[f']at hr;obtain⟨hs,hcl,dc,bE,bh,us,aK,a7,b8,cj,ez,hD,wE,y'⟩:=hr;rw[e2]at aK;cases aK;obtain⟨cs,e,cH,bg⟩:=b8;obtain⟨k1,k2⟩:=EI c2 cL;have CD:=jW _ _ k1;have EU:=jW _ _ hD;have cB:(a.eval x).cells.size=sz:=by rw[←Array.length_toList,CD];exact ja
     have hf:β.off+pre.length * s+off+sz≤cs.size:=by
      have aj:(pre.length+1) * s≤β.cap * s:=Nat.mul_le_mul_right _ (by omega);rw[Nat.add_mul]at aj;omega
     rw[c1,hs]at aY;have ey:=run_store oJ cH cB (f:=β.off+pre.length * s+off) hf k2;have m9:(a.eval x).cells.toList.length=sz:=by rw[Array.length_toList];exact cB
     have wM:=HD cH (us:=(a.eval x).cells.toList) (f:=β.off+pre.length * s+off) (by rw[m9];exact hf);generalize va:w.setRow b (dn cs.toList (β.off+pre.length * s+off) (a.eval x).cells.toList).toArray=w' at ey wM;have acO:w'.heap.size=w.heap.size:=by rw[←va];exact setRow_size _ _ _
     have wk:∀c,c≠b→w'.heap[c]?=w.heap[c]?:=fun c mE=>by rw[←va];exact setRow_other w b c _ mE
     have hnew:w'.heap[b]?=some (.cells (dn cs.toList (β.off+pre.length * s+off) (a.eval x).cells.toList).toArray e (0,0)):=by rw[←va];exact setRow_heap w b cs _ e (0,0) cH
     have hB:B b:=aI.eL id b ⟨β,ag,.inl ⟨by rw[f'];rfl,e2⟩⟩;have fW:=aI.eK id β ag (by rw[f'];rfl);have nV:∀g∈β.cN,w'.heap[g]?=w.heap[g]?:=fun g hg=>wk g fun nV=>fW.2 b e2 (nV▸hg);rw[cj]at nV;have cn:∀c,cb φ σ'.heap c→cb φ (bI σ'.heap id (.fA s pre (dn cells off e7.cells) post)) c:=by
      intro c ht i a1 hi he;rw[gF]at he;by_cases h:i=id
      ·subst h;rw[if_pos rfl]at he;exact ht i a1 hi (by rw[f'];exact he)
      ·rw[if_neg h]at he;exact ht i a1 hi he
     have AN:∀c,cb φ σ'.heap c→c≠b:=fun c ht mE=>by subst mE;exact ht id β ag (.inl ⟨by rw[f'];rfl,e2⟩)
     refine bd _ φ (by rw[aY];exact ey) ⟨_,aY⟩ ?_;refine wx aI (fun i=>i=id) _ _ _ w' (fun i hi=>⟨by show aG (bI σ'.heap id _) i=_;rw[gF,if_neg hi],rfl⟩) (mY.refl φ) (by omega) (fun c _ ht=>wk c fun mE=>?_) ?_ ?_ (fun i j b hi ak _ _=>hi.trans ak.symm) ?_ ?_ aI.fl
      (by rw[←va];exact wo aI.fm hB cH (pt (by rw[m9];exact hf)))
     ·subst mE;exact ht id rfl β ag (.inl ⟨by rw[f'];rfl,e2⟩)
     ·rintro i rfl c ⟨a1,h1,h2⟩;rw[ag]at h1;cases h1;change (((aG (bI σ'.heap i _) i).my=true∧_)∨((aG (bI σ'.heap i _) i).own=true∧_))at h2;rw[gF,if_pos rfl]at h2;exact .inr ⟨i,rfl,β,ag,by rw[f'];exact h2⟩
     ·rintro i rfl a1 h1 c h2;rw[ag]at h1;cases h1;change jw (aG (bI σ'.heap i _) i) β c at h2;rw[gF,if_pos rfl]at h2;exact .inr ⟨i,β,rfl,ag,by rw[f'];exact h2⟩
     ·rintro i a1 rfl h1 _;rw[ag]at h1;cases h1;exact fW
     ·rintro i rfl;refine .inr ⟨β,ag,?_⟩
      show dD φ (cb φ (bI σ'.heap i _)) w'.heap β (aG (bI σ'.heap i _) i)
      rw[gF,if_pos rfl];have acT:∀(vs:List V) (us:List Value),VRels φ (cb φ σ'.heap) w.heap vs us→VRels φ (cb φ (bI σ'.heap i (.fA s pre (dn cells off e7.cells) post))) w'.heap vs us:=
       fun vs us hv=>tR ⟨mY.refl φ,fun c _ ht=>cn c ht,fun c _ ht=>wk c (AN c ht),by omega⟩ _ _ hv
      refine⟨hs,?_,b,bE,bh,dn us off (a.eval x).cells.toList,e2,a7,⟨_,e,hnew,?_⟩,cj,?_,acT _ _ (M3 hD k1 off),fun j u ak=>?_,?_⟩
      ·rw[xK (by rw[ja];omega)];exact hcl
      ·have:(dn cs.toList (β.off+pre.length * s+off) (a.eval x).cells.toList).length=cs.toList.length:=xK (by rw[m9];simpa using hf);simp only[List.size_toArray,this,Array.length_toList];exact bg
      ·refine po _ _ _ _ _ (by omega) (fun g hg=>nV g (by simp[hg])) (fun j ak=>?_) ez;rw[wM,if_neg (by omega)]
      ·rw[wM,m9];have vp:off+sz≤us.length:=by rw[EU];exact tN
       have hsp:=acM (l:=us) (off:=off) (vs:=(a.eval x).cells.toList) (by rw[m9];exact vp) j;rw[hsp,m9]at ak;by_cases hin:off≤j∧j<off+sz
       ·rw[if_pos hin]at ak;rw[if_pos (by omega),show β.off+pre.length * s+j-(β.off+pre.length * s+off)=j-off from by omega];exact ak
       ·rw[if_neg hin]at ak;rw[if_neg (by omega)];exact wE j u ak
      ·refine po _ _ _ _ _ (by omega) (fun g hg=>nV g (by simp[hg])) (fun j ak=>?_) y';rw[wM,if_neg (by rw[m9,Nat.add_mul];omega)]
   ·cases ah
  ·cases ah
 ·exact h2.elim
variable {P:Program} {o:Oper} {g:Bool} {σ:St} {n:Nat} {K:dS→Prop}
theorem Ht{h:Array Obj}{bl:Bool}{b:Nat}:∀(cs:List (List D)) (f sz:Nat) (G:List Nat),repE h bl b f sz cs G→∃us:List Value,us.length=cs.length * sz∧(∀(j:Nat) (u:Value),us[j]?=some u→cellAt h b (f+j)=some u)∧∀u∈us,u.oneCell'=true
 |[],f,sz,G,_=>⟨[],by simp,by simp,by simp⟩
 |c::cs,f,sz,G,r=>by
  simp only[repE]at r;obtain⟨bE,bh,rfl,e2,aY,bk⟩:=r;obtain⟨us,eM,u2,js⟩:=L4 c f bE aY;obtain⟨vs,g',hj,v3⟩:=Ht cs (f+sz) sz bh bk;refine⟨us++vs,by rw[List.length_append,eM,g',e2,List.length_cons,Nat.add_mul];omega,fun j u ak=>?_,fun u hu=>?_⟩
  ·rw[List.getElem?_append]at ak;split at ak
   ·exact u2 j u ak
   ·rename_i nK;have:=hj _ u ak;rw[show f+sz+(j-us.length)=f+j from by rw[eM,e2]at *;omega]at this;exact this
  ·rcases List.mem_append.1 hu with hu|hu
   ·obtain⟨j,ak,rfl⟩:=List.getElem_of_mem hu;obtain⟨Ce,_,k2⟩:=js j c[j] us[j] (List.getElem?_eq_getElem (by omega)) (List.getElem?_eq_getElem ak);exact L5 k2
   ·exact v3 u hu
theorem L6{w:World}(t ty e:TypeId)(i:TypeInfo)(ht:P.underlying t=some (.slice e))(hi:P.info? e=some i)(b f xH Ed:Nat)(cur:Array Value)(te:TypeId)(hg:w.heap[b]?=some (.cells cur te (0,0)))
  (m:Nat) (l5:Value) (gx:List Value) (hl:Builtin.lenOf l5=(pure m:Sem Nat)) (hf:(Builtin.firstCells i.size m l5).run P w=.ok gx.toArray w) (h1:∀u∈gx,u.oneCell'=true) (ho:xH+m≤Ed) (kT:f+xH * i.size+gx.length≤cur.size) :
  (Builtin.append_ #[t,t] ty #[.slice (some ⟨b,f,none⟩) xH Ed,l5]).run P w=.ok (.slice (some ⟨b,f,none⟩) (xH+m) Ed) (w.setRow b (dn cur.toList (f+xH * i.size) gx).toArray):=by
 have cw:=run_storeCells_at P b (f+xH * i.size) te gx 0 cur w hg (by simpa using kT) h1;simp only[Nat.add_zero,List.append_assoc]at cw;simp[Builtin.append_,run_underlying ht,Go.sizeOf,typeInfo,hi,hl,ho,hf,add_lit,cw,dn]
theorem L7{w:World}{ad:Option Addr}{c sz:Nat}{ys:List (List D)}{bl:Bool}(h:ys=[]∨∃b f G,ad=some ⟨b,f,none⟩∧repE w.heap bl b f sz ys G) :
  ∃gx:List Value,gx.length=ys.length * sz∧(∀w':World,w'.heap=w.heap→(Builtin.firstCells sz ys.length (.slice ad ys.length c)).run P w'=.ok gx.toArray w')∧(∀u∈gx,u.oneCell'=true)∧
   (ys≠[]→∃b f,ad=some ⟨b,f,none⟩∧∀(j:Nat) (u:Value),gx[j]?=some u→cellAt w.heap b (f+j)=some u):=by
 by_cases hne:ys=[]
 ·subst hne;refine⟨[],by simp,fun w' _=>?_,by simp,fun h=>absurd rfl h⟩
  cases ad with
  |none=>rfl
  |some ad=>simp[Builtin.firstCells,loadCells,loadCellsFrom]
 ·rcases h with h|⟨b,f,G,rfl,h⟩
  ·exact absurd h hne
  ·obtain⟨us,eM,u2,js⟩:=Ht _ _ _ _ h;refine⟨us,eM,fun w' va=>?_,js,fun _=>⟨b,f,rfl,u2⟩⟩;have:=run_loadCells_list (P:=P) w' ⟨b,f,none⟩ us (fun j v ak=>by rw[add_lit,cell_eq,va];exact u2 j v ak);rw[eM]at this;simpa [Builtin.firstCells]using this
section
variable {B:Nat→Prop} {w0:World} {aJ:Nat→Prop} {φ:ca} {kp:List (V×Value)} {a:Act} {w:World}
theorem Se{w':World}{cs:Array Value}{e:TypeId}{b f sz:Nat}{zs:List (List D)}{G:List Nat}{off:Nat}(hh:w'.heap=w.heap.push (.cells cs e))(hz:repE w.heap true b f sz zs G)
  (hc:∀j,j<zs.length * sz→cs[off+j]?=cellAt w.heap b (f+j)) (bw:∀g∈G,g<w.heap.size):repE w'.heap true w.heap.size off sz zs G:=by
 refine po zs f off sz G (by rw[hh];simp) (fun g hg=>?_) (fun j ak=>?_) hz
 ·rw[hh,Array.getElem?_push];simp[Nat.ne_of_lt (bw g hg)]
 ·rw[←hc j ak];unfold cellAt;rw[hh];simp
def srcE(hs:List H)(sz:Nat)(y:V):Option (List (List D)×List (Nat×H)):=
 match elsOf hs y with
 |some (gy,ys)=>
  if gy=sz then
   if fP ys then some (ys,[])
   else match y with
    |.sl id _ _=>match aG hs id with|.ai s zs true=>some (ys,[(id,.iA s zs)])|_=>none
    |_=>none
  else none
 |none=>none
theorem aaE{σ':St}(hle:σ.le σ')(r:R B w0 aJ φ σ' kp a w){sz:Nat}{y:V}{ys:List (List D)}{cons:List (Nat×H)}(he:srcE σ.heap sz y=some (ys,cons)){u:Value}(eZ:VRel φ (cb φ σ'.heap) w.heap y u) :
  ∃ad c Gs,u=.slice ad ys.length c∧ys.length≤c∧(ys=[]∧Gs=[]∨∃b f,ad=some ⟨b,f,none⟩∧b<w.heap.size∧repE w.heap true b f sz ys Gs∧∀k β,φ k=some β→β.dJ=some b→(aG σ'.heap k).my=true→∃off l,y=.sl k off l)∧Gs.Nodup∧
   (∀g∈Gs,∃p∈cons,cJ φ σ'.heap p.1 g)∧(cons.map (·.1)).Nodup∧(∀p∈cons,∃s zs,aG σ'.heap p.1=.ai s zs true∧p.2=.iA s zs)∧∀p∈cons,∃off l,y=.sl p.1 off l:=by
 unfold srcE at he;split at he
 ·rename_i gy xI hel;split at he
  ·rename_i cB;subst cB;obtain⟨ad,c,ag,e2,aY,bk⟩:=Hu hle r hel eZ;have wk:∀{b f:Nat},ad=some ⟨b,f,none⟩→xI≠[]→∀k β,φ k=some β→β.dJ=some b→(aG σ'.heap k).my=true→∃off l,y=.sl k off l:=by
    intro b f Ee hne k β hk hb xJ
    cases y with
    |sl id off l=>
     obtain⟨a1,ad',c',cH,bg,bT,bY,eV⟩:=uf eZ;rw[ag]at bg;simp only[Value.slice.injEq]at bg;rcases eV with eV|⟨dc,eV,mS,kP⟩
     ·exfalso;have:xI.length=0:=by omega
      exact hne (List.eq_nil_of_length_eq_zero this)
     ·rw[←bg.1,Ee]at mS;simp only[Option.some.injEq,Addr.mk.injEq]at mS;rw[←mS.1]at eV;have Hv:∃q,(aG σ.heap id).els=some q:=by
       simp only[elsOf]at hel;split at hel
       ·exact⟨_,by assumption⟩
       ·cases hel
      obtain⟨q,Hv⟩:=Hv;have hx:=Cf hle Hv;obtain⟨jQ,c5,cS⟩:=Hw r hx;rw[cH]at c5;cases c5
      cases hh:aG σ'.heap id with
      |cF=>rw[hh]at hx;cases hx
      |box cells=>rw[hh]at hx;cases hx
      |af _ _=>rw[hh]at hx;cases hx
      |fA _ _ _ _=>rw[hh]at hx;cases hx
      |ai s zs jt=>
       have:=r.dy k id b ⟨β,hk,.inl ⟨xJ,hb⟩⟩ ⟨a1,cH,.inl ⟨by rw[hh];rfl,eV⟩⟩;exact⟨off,l,by rw[this]⟩
      |iA s zs=>
       rw[hh]at cS;obtain⟨_,cS⟩:=cS;rcases cS with cS|⟨dt,G,fF,gm,t3,t4,t5⟩
       ·exfalso;subst cS;rw[hh]at hx;simp only[H.els,Option.some.injEq]at hx;subst hx;simp only[elsOf,Hv]at hel;split at hel
        ·simp only[Option.some.injEq,Prod.mk.injEq]at hel;exact hne (by rw[←hel.2];simp)
        ·cases hel
       ·rw[eV]at fF;cases fF;exact(gm k β hk (.inl ⟨xJ,hb⟩)).elim
    |d x=>
     cases x with
     |sl s zs=>
      obtain⟨ad',c',cH,bg,bT,bY⟩:=Ef eZ;rw[ag]at cH;simp only[Value.slice.injEq]at cH;rcases bY with bY|⟨dc,gK,G,bY,eV,mS,kP,tL⟩
      ·simp only[elsOf,Option.some.injEq,Prod.mk.injEq]at hel;exact absurd (hel.2▸bY) hne
      ·rw[←cH.1,Ee]at bY;simp only[Option.some.injEq,Addr.mk.injEq]at bY;exact((bY.1▸mS) k β hk (.inl ⟨xJ,hb⟩)).elim
     |_=>simp[elsOf]at hel
    |c7 s=>
     simp only[elsOf,Option.some.injEq,Prod.mk.injEq]at hel;exact absurd hel.2.symm hne
    |_=>simp[elsOf]at hel
   split at he
   ·rename_i hf;simp only[Option.some.injEq,Prod.mk.injEq]at he;obtain⟨rfl,rfl⟩:=he;refine⟨ad,c,[],ag,e2,?_,List.nodup_nil,by simp,by simp,by simp,by simp⟩;rcases bk with bk|⟨b,f,G,bk,cg,jH,m5⟩
    ·exact .inl ⟨bk,rfl⟩
    ·by_cases hne:xI=[]
     ·exact .inl ⟨hne,rfl⟩
     ·exact .inr ⟨b,f,bk,cg,Sf _ _ _ _ hf jH,wk bk hne⟩
   ·split at he
    ·rename_i id off l;split at he
     ·rename_i s zs hx;simp only[Option.some.injEq,Prod.mk.injEq]at he;obtain⟨rfl,rfl⟩:=he;have e6:aG σ'.heap id=.ai s zs true:=by
       rcases hle.2 id with hh|hh
       ·rw[hx]at hh;cases hh
       ·rw[hh,hx]
      simp only[elsOf,hx,H.els]at hel;split at hel
      ·rename_i hb;simp only[Option.some.injEq,Prod.mk.injEq]at hel;obtain⟨rfl,rfl⟩:=hel;obtain⟨F,dw,fs,f3⟩:=Sg r e6 hb eZ;simp only[rep]at dw;obtain⟨ad',c',g1,cx,g3,g4⟩:=dw;refine⟨ad',c',F.tail,g1,cx,?_,?_,?_,by simp,by simp[e6],by simp⟩
       ·rw[ag]at g1;simp only[Value.slice.injEq,true_and]at g1;rcases g4 with g4|⟨b,f,G,k1,k2,dC,iK,y1⟩
        ·exact .inl ⟨g4.1,by rw[g4.2.1];rfl⟩
        ·subst k2;by_cases hne:(zs.drop off).take l=[]
         ·rw[hne]at iK;simp only[repE]at iK;subst iK;exact .inl ⟨hne,rfl⟩
         ·exact .inr ⟨b,f,k1,dC,iK,wk (g1.1.trans k1) hne⟩
       ·exact fs.sublist (List.tail_sublist F)
       ·intro x y2;exact⟨_,List.mem_singleton.2 rfl,f3 x (List.mem_of_mem_tail y2)⟩
      ·cases hel
     ·cases he
    ·cases he
  ·cases he
 ·cases he
end
def L8(id:Nat)(y:V):Bool:=match y with|.sl k _ _=>k != id|_=>true
def apE(P:Program)(hs:List H)(T:TypeId)(x y:V)(n:Nat):Option (Prop×dS):=
 match elI P T with
 |none=>none
 |some (e,sz,fv)=>
  match srcE hs sz y with
  |none=>none
  |some (ys,cons)=>
   match x with
   |.c7 _=>some ((zrI P e).map List.length=some sz∧0<fv∧ys.length * fv≤140737488355328,⟨.sl n 0 ys.length,[.ai sz ys true],cons⟩)
   |.sl id 0 len=>
    match aG hs id with
    |.ai s xs true=>if s=sz then some ((zrI P e).map List.length=some sz∧0<fv∧len=xs.length∧(xs.length+ys.length) * fv≤140737488355328∧L8 id y=true,⟨.sl n 0 (xs.length+ys.length),[.ai sz (xs++ys) true],(id,.cF)::cons⟩)else none
    |_=>none
   |_=>none
section
variable {B:Nat→Prop} {w0:World} {aJ:Nat→Prop} {φ:ca} {kp:List (V×Value)} {a:Act} {w:World}
structure Hy(σ':St)(φ:ca)(w:World)(sz:Nat)(xs:List (List D))(upd:List (Nat×H))(ad:Option Addr)(c:Nat)(G:List Nat):Prop where
 len:xs.length≤c
 wm:c≤maxLen
 j':G.Nodup
 own:∀g∈G,∃p∈upd,cJ φ σ'.heap p.1 g
 up:upd=[]∨∃id s ys,upd=[(id,.cF)]∧aG σ'.heap id=.ai s ys true
 L9:(c=0∧xs=[]∧G=[])∨∃id β b,upd=[(id,.cF)]∧φ id=some β∧β.dJ=some b∧ad=some ⟨b,β.off,none⟩∧c=β.cap∧β.sz=sz∧l6 w.heap b (β.off+β.cap * sz)∧repE w.heap true b β.off sz xs G∧b∉G
theorem aaF{t ty e:TypeId}{i:TypeInfo}(ht:P.underlying t=some (.slice e))(hi:P.info? e=some i)(ad ad':Option Addr)(c':Nat)(w:World) :
  (Builtin.append_ #[t,t] ty #[.slice ad 0 0,.slice ad' 0 c']).run P w=.ok (.slice ad 0 0) w:=by
 have hf:(Builtin.firstCells i.size 0 (.slice ad' 0 c')).run P w=.ok #[] w:=by
  cases ad' with
  |none=>rfl
  |some ad=>simp[Builtin.firstCells,loadCells,loadCellsFrom]
 have hs:(Go.sizeOf e).run P w=Result.ok i.size w:=by simp[Go.sizeOf,typeInfo,hi]
 have hl:(Builtin.lenOf (.slice ad' 0 c')).run P w=.ok 0 w:=rfl
 cases ad<;>simp[Builtin.append_,run_underlying ht,hs,hl,hf,storeCells]
theorem aaG{σ':St}(aI:R B w0 aJ φ σ' kp a w){n:Nat}(hd:aG σ'.heap n=.cF)(hn:¬aJ n){T ty e:TypeId}{i:TypeInfo}{z:Value}(ht:P.underlying T=some (.slice e))(hi:P.info? e=some i)(hz:i.zero=some z)
  (aaH:z.cells.size=i.size) (y3:0<i.bytes) {xs ys:List (List D)} (kT:(xs.length+ys.length) * i.bytes≤140737488355328) {upd cons:List (Nat×H)} {ad ad':Option Addr} {c c':Nat} {G Gs:List Nat} (bs:Hy σ' φ w i.size xs upd ad c G)
  (pq:ys=[]∧Gs=[]∨∃b f,ad'=some ⟨b,f,none⟩∧b<w.heap.size∧repE w.heap true b f i.size ys Gs) (L_:Gs.Nodup) (Aw:∀g∈Gs,∃p∈cons,cJ φ σ'.heap p.1 g) (aaI:(cons.map (·.1)).Nodup)
  (aaJ:∀p∈cons,∃s zs,aG σ'.heap p.1=.ai s zs true∧p.2=.iA s zs) (L':∀p∈cons,∀q∈upd,p.1≠q.1) (aky:∀b f,ad'=some ⟨b,f,none⟩→ys≠[]→∀q∈upd,∀β,φ q.1=some β→β.dJ≠some b) :
  ∃w' cv u,(Builtin.append_ #[T,T] ty #[.slice ad xs.length c,.slice ad' ys.length c']).run P w=.ok u w'∧
   R B w0 (fun i=>aJ i∨(n≤i∧i<n+1)) cv ⟨σ'.tmps,hupd (bI σ'.heap n (.ai i.size (xs++ys) true)) (upd++cons)⟩ kp a w'∧∀ga h',VRel cv ga h' (.sl n 0 (xs.length+ys.length)) u:=by
 have Eg:xs.length+ys.length≤maxLen:=by
  have:(xs.length+ys.length) * 1≤(xs.length+ys.length) * i.bytes:=Nat.mul_le_mul_left _ y3;simp only[maxLen];omega
 have Sh:∀p∈upd,p.2=.cF∧∃s ys,aG σ'.heap p.1=.ai s ys true:=by
  intro p hp;rcases bs.up with h|⟨id,s,xI,h,h2⟩
  ·rw[h]at hp;cases hp
  ·rw[h]at hp;simp only[List.mem_singleton]at hp;subst hp;exact⟨rfl,s,xI,h2⟩
 have hnd:((upd++cons).map (·.1)).Nodup:=by
  rw[List.map_append];refine List.nodup_append.2 ⟨?_,aaI,?_⟩
  ·rcases bs.up with h|⟨id,s,xI,h,h2⟩<;>rw[h]<;>simp
  ·intro x hx y hy mz;obtain⟨p,hp,rfl⟩:=List.mem_map.1 hx;obtain⟨q,hq,rfl⟩:=List.mem_map.1 hy;exact L' q hq p hp mz.symm
 have hu:∀p∈upd++cons,∃sz xs,aG σ'.heap p.1=.ai sz xs true∧(p.2=.cF∨p.2=.iA sz xs):=by
  intro p hp;rcases List.mem_append.1 hp with hp|hp
  ·obtain⟨h1,s,xI,h2⟩:=Sh p hp;exact⟨s,xI,h2,.inl h1⟩
  ·obtain⟨s,zs,h1,h2⟩:=aaJ p hp;exact⟨s,zs,h1,.inr h2⟩
 have aaK:∀x∈G,∀y∈Gs,x≠y:=by
  rintro x hx y hy rfl;obtain⟨p,c5,cS⟩:=bs.own x hx;obtain⟨q,cH,bg⟩:=Aw x hy;exact L' q cH p c5 (aI.dy _ _ _ bg cS)
 have Hz:∀g∈G,g<w.heap.size:=fun g hg=>by obtain⟨p,_,cS⟩:=bs.own g hg;exact cJ.lt aI cS
 have Si:∀g∈Gs,g<w.heap.size:=fun g hg=>by obtain⟨p,_,cS⟩:=Aw g hg;exact cJ.lt aI cS
 have Sj:(G++Gs).Nodup:=List.nodup_append.2 ⟨bs.j',L_,aaK⟩;have y4:∀b∈G++Gs,w.heap.size≤b∨∃p∈upd++cons,cJ φ σ'.heap p.1 b:=by
  intro b hb;rcases List.mem_append.1 hb with hb|hb
  ·obtain⟨p,c5,cS⟩:=bs.own b hb;exact .inr ⟨p,List.mem_append_left _ c5,cS⟩
  ·obtain⟨p,c5,cS⟩:=Aw b hb;exact .inr ⟨p,List.mem_append_right _ c5,cS⟩
 have aaL:ys=[]∨∃b f G,ad'=some ⟨b,f,none⟩∧repE w.heap true b f i.size ys G:=by
  rcases pq with h|⟨b,f,h1,_,h2⟩
  ·exact .inl h.1
  ·exact .inr ⟨b,f,Gs,h1,h2⟩
 obtain⟨gx,lH,mA,ug,pr⟩:=L7 (P:=P) (c:=c') aaL;by_cases ho:xs.length+ys.length≤c
 ·rcases bs.L9 with ⟨h1,h2,aj⟩|⟨id,β,b,dx,dt,dq,oA,mX,GY,G0,BP,xu⟩
  ·subst h1;subst h2;subst aj;have aD:ys=[]:=List.eq_nil_of_length_eq_zero (by simp at ho;simpa using ho);subst aD;have tS:Gs=[]:=by
    rcases pq with h|⟨b,f,_,_,h⟩
    ·exact h.2
    ·simpa [repE]using h
   refine⟨w,cK φ n ⟨none,0,0,i.size,[]⟩,.slice ad 0 0,aaF ht hi ad ad' c' w,?_,fun ga h'=>?_⟩
   ·exact HA aI hd hn hnd hu rfl (Nat.le_refl _) aI.fm (fun _ _ _=>rfl) (.inl ⟨rfl,rfl,rfl,rfl⟩) (fun b hb=>by cases hb) (fun b hb=>by cases hb) List.nodup_nil (fun b hb=>by cases hb)
   ·simp only[VRel];exact⟨⟨none,0,0,i.size,[]⟩,ad,0,by simp[cK],rfl,by decide,.inl ⟨rfl,rfl,rfl⟩⟩
  ·subst oA;obtain⟨cs,te,aK,a7⟩:=G0;have Sk:(xs.length+ys.length) * i.size≤β.cap * i.size:=Nat.mul_le_mul_right _ (Nat.le_trans ho (Nat.le_of_eq mX));have Cg:(xs.length+ys.length) * i.size=xs.length * i.size+ys.length * i.size:=Nat.add_mul _ _ _;have HB:β.off+xs.length * i.size+gx.length≤cs.size:=by rw[lH];omega
   have ey:=L6 (P:=P) (w:=w) T ty e i ht hi b β.off xs.length c cs te aK ys.length (.slice ad' ys.length c') gx rfl (mA w rfl) ug ho HB;have HC:(id,H.cF)∈upd:=by rw[dx];simp
   obtain⟨_,akz,akA,aaM⟩:=Sh _ HC;have vd:cJ φ σ'.heap id b:=⟨β,dt,.inl ⟨by rw[aaM];rfl,dq⟩⟩;have Ma:∀dc,dc≠b→(w.setRow b (dn cs.toList (β.off+xs.length * i.size) gx).toArray).heap[dc]?=w.heap[dc]?:=fun dc dM=>setRow_other w b dc _ dM;have lI:=HD (f:=β.off+xs.length * i.size) aK HB;have Mb:∀g∈G++Gs,g≠b:=by
    rintro g hg rfl;rcases List.mem_append.1 hg with hg|hg
    ·exact xu hg
    ·obtain⟨p,c5,cS⟩:=Aw g hg;exact L' p c5 _ HC (aI.dy _ _ _ cS vd)
   refine⟨_,cK φ n {β with cN:=G++Gs},_,ey,?_,fun ga h'=>?_⟩
   ·refine HA aI hd hn hnd hu (β:={β with cN:=G++Gs}) GY (by rw[setRow_size];exact Nat.le_refl _) (wo aI.fm (aI.eL _ _ vd) aK (pt HB)) (fun dc _ dM=>Ma dc fun e=>?_) (.inr ⟨b,dq,?_,?_,?_⟩) (fun dc dM=>.inr ⟨(id,.cF),List.mem_append_left _ HC,rfl,β,dt,dM⟩) y4 Sj (fun dc dM j3=>?_)
    ·exact dM (id,.cF) (List.mem_append_left _ HC) rfl β dt (e▸dq)
    ·simp only[List.length_append];omega
    ·refine⟨_,te,setRow_heap w b cs _ te (0,0) aK,?_⟩;have:=xK (l:=cs.toList) (off:=β.off+xs.length * i.size) (vs:=gx) (by simpa using HB);simp only[List.size_toArray,this,Array.length_toList];exact a7
    ·refine(repE_append _ _ _ _).2 ⟨G,Gs,rfl,?_,?_⟩
     ·change repE _ true b β.off i.size xs G;refine po xs β.off β.off i.size G (by rw[setRow_size];exact Nat.le_refl _) (fun g hg=>Ma g (Mb g (by simp[hg]))) (fun j ak=>?_) BP;rw[lI,if_neg (by omega)]
     ·rcases pq with ⟨rfl,rfl⟩|⟨dc,gK,cU,c9,cq⟩
      ·simp[repE]
      ·change repE _ true b (β.off+xs.length * i.size) i.size ys Gs;refine po ys gK _ i.size Gs (by rw[setRow_size];exact Nat.le_refl _) (fun g hg=>Ma g (Mb g (by simp[hg]))) (fun j ak=>?_) cq;rw[lI,if_pos ⟨by omega,by rw[lH];omega⟩,show β.off+xs.length * i.size+j-(β.off+xs.length * i.size)=j from by omega];have hne:ys≠[]:=fun h=>by rw[h]at ak;simp at ak
       obtain⟨Sl,Sm,fF,gm⟩:=pr hne;rw[cU]at fF;simp only[Option.some.injEq,Addr.mk.injEq]at fF;obtain⟨rfl,rfl,_⟩:=fF;have l7:j<gx.length:=by rw[lH];exact ak
       rw[gm j gx[j] (List.getElem?_eq_getElem l7),List.getElem?_eq_getElem l7]
    ·simp only at dM j3;rw[dq]at dM;cases dM;exact Mb _ j3 rfl
   ·simp only[VRel];refine⟨{β with cN:=G++Gs},_,c,by simp[cK],rfl,bs.wm,.inr ⟨b,dq,by simp,ho,by simpa using mX⟩⟩
 ·have ve:xs=[]∨∃b f G,ad=some ⟨b,f,none⟩∧repE w.heap true b f i.size xs G:=by
   rcases bs.L9 with ⟨h1,h2,aj⟩|⟨id,β,b,dx,dt,dq,oA,mX,GY,G0,BP,xu⟩
   ·exact .inl h2
   ·exact .inr ⟨b,_,G,oA,BP⟩
  obtain⟨wq,dy,eK,eL,aaN⟩:=L7 (P:=P) (c:=c) ve;have aaO:∃e',P.underlying T=some (.slice e'):=⟨e,ht⟩;have aX:Src P i.size T (.slice ad' ys.length c') ys.length gx w:=⟨.inl aaO,fun _=>rfl,mA w rfl,mA w.drew rfl,lH,ug⟩;have ey:=run_append_grow_src (P:=P) w T T ty e i z ht hi hz ad xs.length c wq (eK w.drew rfl) _ ys.length gx aX (by omega) (by simp only[maxLen]at Eg;omega) (growslice_fits (by omega) kT);have nK:=grownCap_ge w (xs.length+ys.length) c e;have hle:=grownCap_le_maxLen w (xs.length+ys.length) c e Eg;generalize grownCap w (xs.length+ys.length) c e=gc at ey nK hle;have wu:(w.drew.alloc (.cells ((wq++gx).toArray++Builtin.zeroCells z.cells (gc-(xs.length+ys.length))) e)).heap=w.heap.push (.cells ((wq++gx).toArray++Builtin.zeroCells z.cells (gc-(xs.length+ys.length))) e):=rfl;have Sn:∀j,j<(wq++gx).length→((wq++gx).toArray++Builtin.zeroCells z.cells (gc-(xs.length+ys.length)))[j]?=(wq++gx)[j]?:=by
   intro j ak;rw[Array.getElem?_append_left (by simpa using ak)];simp
  refine⟨_,cK φ n ⟨some w.heap.size,0,gc,i.size,G++Gs⟩,_,ey,?_,fun ga h'=>?_⟩
  ·refine HA aI hd hn hnd hu rfl (by rw[wu];simp) ((Ax (aI.fm.drew) aI.bs _)) (fun dc dM _=>by rw[wu,Array.getElem?_push];simp[Nat.ne_of_lt dM]) (.inr ⟨w.heap.size,rfl,?_,?_,?_⟩) (fun dc dM=>.inl (by cases dM;exact Nat.le_refl _)) y4 Sj (fun dc dM j3=>?_)
   ·simp only[List.length_append];exact nK
   ·refine⟨((wq++gx).toArray++Builtin.zeroCells z.cells (gc-(xs.length+ys.length))),e,by rw[wu];simp,?_⟩;simp only[Array.size_append,List.size_toArray,List.length_append,dy,lH,size_zeroCells,aaH,Nat.zero_add];rw[←Nat.add_mul,←Nat.add_mul];exact Nat.mul_le_mul_right _ (show gc≤_ from by omega)
   ·refine(repE_append _ _ _ _).2 ⟨G,Gs,rfl,?_,?_⟩
    ·rcases bs.L9 with ⟨h1,rfl,rfl⟩|⟨id,β,b,dx,dt,dq,oA,mX,GY,G0,BP,xu⟩
     ·simp[repE]
     ·refine Se wu BP (fun j ak=>?_) Hz;have hne:xs≠[]:=fun h=>by rw[h]at ak;simp at ak
      obtain⟨Sl,Sm,fF,gm⟩:=aaN hne;rw[oA]at fF;simp only[Option.some.injEq,Addr.mk.injEq]at fF;obtain⟨rfl,rfl,_⟩:=fF;have l7:j<wq.length:=by rw[dy];exact ak
      rw[Nat.zero_add,Sn j (by simp;omega),List.getElem?_append_left l7,List.getElem?_eq_getElem l7,gm j wq[j] (List.getElem?_eq_getElem l7)]
    ·rcases pq with ⟨rfl,rfl⟩|⟨dc,gK,cU,c9,cq⟩
     ·simp[repE]
     ·change repE _ true _ (0+xs.length * i.size) i.size ys Gs;refine Se wu cq (fun j ak=>?_) Si;have hne:ys≠[]:=fun h=>by rw[h]at ak;simp at ak
      obtain⟨Sl,Sm,fF,gm⟩:=pr hne;rw[cU]at fF;simp only[Option.some.injEq,Addr.mk.injEq]at fF;obtain⟨rfl,rfl,_⟩:=fF;have l7:j<gx.length:=by rw[lH];exact ak
      rw[Sn _ (by simp;omega),List.getElem?_append_right (by omega),show 0+xs.length * i.size+j-wq.length=j from by omega,List.getElem?_eq_getElem l7,gm j gx[j] (List.getElem?_eq_getElem l7)]
   ·simp only at dM j3
    cases dM
    rcases List.mem_append.1 j3 with h|h
    ·exact Nat.lt_irrefl _ (Hz _ h)
    ·exact Nat.lt_irrefl _ (Si _ h)
  ·simp only[VRel];exact⟨⟨some w.heap.size,0,gc,i.size,G++Gs⟩,_,gc,by simp[cK],rfl,hle,.inr ⟨w.heap.size,rfl,by simp,nK,by simp⟩⟩
end
theorem ok_append{c:Call}{x y:Operand}{T:TypeId}(ax:o.op=.call c)(hc:c={callee:=.builtin .append,args:=#[x,y],argTypes:=#[T,T]})
  (h:evg g (σ.ev x) fun a=>evg g (σ.ev y) fun b=>match apE P σ.heap T a b n with|some (p,r)=>p∧K r|none=>False):∃r,gb P o g σ n r∧K r:=by
 subst hc;obtain⟨ka,h1,hx⟩:=fw h;obtain⟨vb,h2,hy⟩:=fw h1;clear h h1;split at h2
 ·rename_i p r ah;obtain⟨hp,bF⟩:=h2;refine⟨r,?_,bF⟩;intro σ' hle hd B w0 aJ φ kp a w jh aI hg mB nS hk;have cL:=hx _ _ _ _ hg (fg hle aI x);have kH:=hy _ _ _ _ hg (fg hle aI y);unfold apE at ah;split at ah
  ·cases ah
  ·rename_i e sz fv hel;obtain⟨i,ht,hi,cB,y3⟩:=vf hel;split at ah
   ·cases ah
   ·rename_i ys cons pq;obtain⟨ad',c',Gs,cU,c9,cq,dd,iD,jI,j4,kM⟩:=aaE hle aI pq kH;have key:∀{xs:List (List D)} {upd:List (Nat×H)} {ad:Option Addr} {c:Nat} {G:List Nat},(zrI P e).map List.length=some sz→0<fv→(xs.length+ys.length) * fv≤140737488355328→a.eval x=.slice ad xs.length c→Hy σ' φ w sz xs upd ad c G→
      (∀q∈upd,∀off l,vb≠.sl q.1 off l)→(∀q∈upd,(aG σ'.heap q.1).my=true)→r=⟨.sl n 0 (xs.length+ys.length),[.ai sz (xs++ys) true],upd++cons⟩→o.wp P a w mB nS:=by
     intro xs upd ad c G hz hb hf hu ve hq HE hr;subst hr
     cases pw:zrI P e with
     |none=>rw[pw]at hz;cases hz
     |some vs=>
      rw[pw]at hz;obtain⟨cz,z,c4,jU,jc⟩:=Ay pw;rw[hi]at c4;cases c4;have uh:z.cells.size=i.size:=by
       have:=jW _ _ (jc φ (fun _=>True) #[]);simp only[Option.map_some,Option.some.injEq]at hz;rw[cB,←hz,←this];simp
      subst cB;obtain⟨w',cv,u,ag,e2,aY⟩:=aaG (P:=P) (ty:=o.type) aI (n:=n) (hd n (Nat.le_refl _) (by simp)) (jh n (Nat.le_refl _) (by simp)) ht hi jU uh (by rw[y3];exact hb) (by rw[y3];exact hf) ve (ad':=ad') (c':=c') (Gs:=Gs)
       (by
        rcases cq with cq|⟨b,f,fF,gm,t3,_⟩
        ·exact .inl cq
        ·exact .inr ⟨b,f,fF,gm,t3⟩) dd iD jI j4
       (fun p hp q o1 he=>by
        obtain⟨off,l,h1⟩:=kM p hp;exact hq q o1 off l (by rw[h1,he]))
       (fun b f h1 h2 q o1 β aj aD=>by
        rcases cq with cq|⟨dc,gK,fF,gm,t3,t4⟩
        ·exact h2 cq.1
        ·rw[fF]at h1;simp only[Option.some.injEq,Addr.mk.injEq]at h1;obtain⟨off,l,bX⟩:=t4 q.1 β aj (by rw[h1.1];exact aD) (HE q o1);exact hq q o1 off l bX)
      unfold Oper.wp;have ey:(execOp a.eval o).run P w=.ok (.value u) w':=by
       unfold execOp;rw[ax];simp[resolve,invoke,builtin,hu,cU,ag]
      rw[ey,Oper.upon_value];exact hk _ _ _ (l8 e2 o.dst (aY _ _))
    split at ah
    ·rename_i s;simp only[Option.some.injEq,Prod.mk.injEq]at ah;obtain⟨rfl,rfl⟩:=ah;simp only[VRel]at cL;refine key (xs:=[]) (upd:=[]) (G:=[]) hp.1 hp.2.1 (by simpa using hp.2.2) cL ⟨by simp,by decide,List.nodup_nil,by simp,.inl rfl,.inl ⟨rfl,rfl,rfl⟩⟩ (by simp) (by simp) (by simp)
    ·rename_i id len;split at ah
     ·rename_i s xs gv;split at ah
      ·rename_i hs;subst hs;simp only[Option.some.injEq,Prod.mk.injEq]at ah;obtain⟨rfl,rfl⟩:=ah;obtain⟨c5,cS,fQ,ju,px⟩:=hp;have e6:aG σ'.heap id=.ai s xs true:=by
        rcases hle.2 id with hh|hh
        ·rw[gv]at hh;cases hh
        ·rw[hh,gv]
       obtain⟨β,ad,nT,cH,bg,bT,bY,eV⟩:=uf cL;have ve:∃G,Hy σ' φ w s xs [(id,.cF)] ad nT G:=by
        have B3:([(id,H.cF)]:List (Nat×H))=[]∨∃oF s ys,[(id,H.cF)]=[(oF,H.cF)]∧aG σ'.heap oF=.ai s ys true:=.inr ⟨id,s,xs,rfl,e6⟩;have Az:nT=0∧len=0→∃G,Hy σ' φ w s xs [(id,.cF)] ad nT G:=fun h0=>
         ⟨[],by omega,bY,List.nodup_nil,by simp,B3,.inl ⟨h0.1,List.eq_nil_of_length_eq_zero (by omega),rfl⟩⟩
        rcases eV with eV|⟨b,eV,mS,kP⟩
        ·exact Az ⟨eV.1,eV.2.1⟩
        ·rcases aI.hp id with gr|⟨a1,ag,hr⟩
         ·rw[e6]at gr;cases gr
         ·rw[cH]at ag;cases ag;rw[e6]at hr;simp only[dD]at hr;obtain⟨vg,hr⟩:=hr;rcases hr with hr|⟨dc,G,aK,a7,b8,cj,ez,hD⟩
          ·rw[eV]at hr;cases hr.1
          ·rw[eV]at aK;cases aK;have fW:=aI.eK id β cH (by rw[e6];rfl);have HF:=ez trivial;refine⟨G,by omega,bY,by rw[HF];exact fW.1,fun g hg=>⟨_,List.mem_singleton.2 rfl,β,cH,.inr ⟨by rw[e6];rfl,by rw[←HF];exact hg⟩⟩,B3,.inr ⟨id,β,b,rfl,cH,eV,by rw[mS];simp,by omega,vg,b8,cj,by rw[HF];exact fW.2 b eV⟩⟩
       obtain⟨G,ve⟩:=ve;refine key c5 cS ju (by rw[←fQ];exact bg) ve ?_ ?_ rfl
       ·intro q hq off l hv;simp only[List.mem_singleton]at hq;subst hq;subst hv;simp[L8]at px
       ·intro q hq;simp only[List.mem_singleton]at hq;subst hq;rw[e6];rfl
      ·cases ah
     ·cases ah
    ·cases ah
 ·exact h2.elim
variable {P:Program} {o:Oper} {g:Bool} {σ:St} {n:Nat} {K:dS→Prop}
def chunk(sz:Nat):Nat→List D→List (List D)
 |0,_=>[]
 |k+1,ds=>ds.take sz::chunk sz k (ds.drop sz)
theorem HY(sz:Nat):∀(k:Nat) (ds:List D),(chunk sz k ds).length=k
 |0,_=>rfl
 |k+1,ds=>by simp[chunk,HY sz k]
theorem Tg{h:Array Obj}{bl:Bool}{b sz:Nat}:∀(k f:Nat) (ds:List D) (G:List Nat),ds.length=k * sz→repC h bl b f ds G→repE h bl b f sz (chunk sz k ds) G
 |0,f,ds,G,hl,r=>by
  have:ds=[]:=List.eq_nil_of_length_eq_zero (by simpa using hl);subst this;simpa [chunk,repE,repC]using r
 |k+1,f,ds,G,hl,r=>by
  rw[Nat.add_mul,Nat.one_mul]at hl;have e:ds=ds.take sz++ds.drop sz:=(List.take_append_drop sz ds).symm;rw[e]at r;obtain⟨bE,bh,rfl,aK,a7⟩:=(AJ _ _ _ _).1 r;have xG:(ds.take sz).length=sz:=by simp;omega
  rw[xG]at a7;simp only[chunk,repE];exact⟨bE,bh,rfl,xG,aK,Tg k (f+sz) _ bh (by simp;omega) a7⟩
def bsE(P:Program)(hs:List H)(T:TypeId)(len:Nat)(parts:List (Nat×V))(n:Nat):Option (Prop×dS):=
 match elI P T with
 |some (e,sz,_)=>
  match vfill (fun i=>some (i * sz,sz)) (List.replicate (len * sz) .J) parts with
  |some cells=>
   match toDs hs cells with
   |some (ds,bW)=>some ((zrI P e).isSome=true∧ds.length=len * sz∧bW.Nodup∧len * sz≤16777216∧len≤maxLen,⟨.sl n 0 len,[.ai sz (chunk sz len ds) true],bW.map fun i=>(i,match aG hs i with|.ai s ys _=>.iA s ys|x=>x)⟩)
   |none=>some (((zrI P e).isSome=true∧sz=1)∧len≤16777216∧len≤maxLen,⟨.sl n 0 len,[.box cells],[]⟩)
  |none=>none
 |none=>none
theorem Th{φ:ca}{T:Nat→Prop}{h:Array Obj}(us:List Value):VRels φ T h (List.replicate us.length .J) us:=by
 refine y7 _ _ (by simp) fun t v u ag e2=>?_;rw[List.getElem?_replicate]at ag;split at ag
 ·cases ag;simp[VRel]
 ·cases ag
theorem Ti(w:World){t e:TypeId}(len:Nat)(parts:Array (Nat×Value)){vo:TypeInfo}{z:Value}(hu:P.underlying t=some (.slice e))(Cz:P.info? e=some vo)(hz:vo.zero=some z)
  (anU:len * vo.size≤16777216):∃us:List Value,us.length=len * vo.size∧∀cells,Instr.fill (fun i=>some (i * vo.size,vo.size)) us.toArray parts.toList=some cells→
  (Instr.buildSlice t len parts).run P w=.ok (.slice (some ⟨w.heap.size,0,none⟩) len len) (w.alloc (.cells cells e)):=by
 by_cases h0:len * vo.size=0
 ·refine⟨[],by simp[h0],fun cells h1=>?_⟩;have hs:(Go.sizeOf e).run P w=Result.ok vo.size w:=by simp[Go.sizeOf,typeInfo,Cz]
  simp[Instr.buildSlice,run_underlying hu,hs,h0,Array.range_zero',h1,newRow]
 ·refine⟨((Array.range (len * vo.size)).map (z.cells[· % z.cells.size]!)).toList,by simp,fun cells h=>?_⟩;exact run_buildSlice w t e len parts cells vo z hu Cz hz (by omega) h0 (by rw[←h,Array.toArray_toList])
section
variable {B:Nat→Prop} {w0:World} {aJ:Nat→Prop} {φ:ca} {kp:List (V×Value)} {a:Act} {w:World}
theorem Tj{σ':St}(aI:R B w0 aJ φ σ' kp a w){n:Nat}(hd:aG σ'.heap n=.cF)(hn:¬aJ n){upd:List (Nat×H)}(hnd:(upd.map (·.1)).Nodup)
  (hu:∀p∈upd,∃sz xs,aG σ'.heap p.1=.ai sz xs true∧p.2=.iA sz xs) {cs:Array Value} {e:TypeId} {sz:Nat} {xs:List (List D)} {G:List Nat} (hcs:cs.size=xs.length * sz)
  (DR:repE (w.heap.push (.cells cs e)) true w.heap.size 0 sz xs G) (L_:G.Nodup) (Aw:∀b∈G,∃p∈upd,cJ φ σ'.heap p.1 b) (ME:xs.length≤maxLen) :
  ∃cv,R B w0 (fun i=>aJ i∨(n≤i∧i<n+1)) cv ⟨σ'.tmps,hupd (bI σ'.heap n (.ai sz xs true)) upd⟩ kp a (w.alloc (.cells cs e))∧
   ∀ga h',VRel cv ga h' (.sl n 0 xs.length) (.slice (some ⟨w.heap.size,0,none⟩) xs.length xs.length):=by
 have wu:(w.alloc (.cells cs e)).heap=w.heap.push (.cells cs e):=rfl;have Hz:∀b∈G,b<w.heap.size:=fun b hb=>by obtain⟨p,_,h⟩:=Aw b hb;exact cJ.lt aI h
 refine⟨cK φ n ⟨some w.heap.size,0,xs.length,sz,G⟩,?_,fun ga h'=>?_⟩
 ·refine HA aI hd hn hnd (fun p hp=>by obtain⟨s,ys,h1,h2⟩:=hu p hp;exact⟨s,ys,h1,.inr h2⟩) rfl (by rw[wu];simp) (Ax aI.fm aI.bs _) (fun dc dM _=>by rw[wu,Array.getElem?_push];simp[Nat.ne_of_lt dM]) (.inr ⟨w.heap.size,rfl,Nat.le_refl _,?_,?_⟩) (fun dc dM=>.inl (by cases dM;exact Nat.le_refl _))
   (fun b hb=>.inr (Aw b hb)) L_ (fun dc dM j3=>?_)
  ·exact⟨cs,e,by rw[wu];simp,by simp[hcs]⟩
  ·rw[wu];exact DR
  ·simp only at dM j3
   cases dM
   exact Nat.lt_irrefl _ (Hz _ j3)
 ·simp only[VRel];exact⟨⟨some w.heap.size,0,xs.length,sz,G⟩,_,xs.length,by simp[cK],rfl,ME,.inr ⟨w.heap.size,rfl,by simp,Nat.le_refl _,by simp⟩⟩
end
theorem ok_buildSlice{T:TypeId}{len:Nat}{parts:Array (Nat×Operand)}(ax:o.op=.buildSlice T len parts)(h:evParts g σ parts.toList fun ps=>match bsE P σ.heap T len ps n with|some (p,r)=>p∧K r|none=>False) :
  ∃r,gb P o g σ n r∧K r:=by
 obtain⟨ps,h1,hx⟩:=MF _ _ h;clear h;split at h1
 ·rename_i p r ah;obtain⟨hp,bF⟩:=h1;unfold bsE at ah;split at ah
  ·rename_i e sz fv hel;split at ah
   ·rename_i cells hf;split at ah
    ·rename_i ds bW tX;simp only[Option.some.injEq,Prod.mk.injEq]at ah;obtain⟨rfl,rfl⟩:=ah;obtain⟨c5,cS,fQ,ju,px⟩:=hp;refine⟨_,?_,bF⟩;intro σ' hle hd B w0 aJ φ kp a w jh aI hg mB nS hk;obtain⟨i,hu,hi,cB,_⟩:=vf hel;subst cB;obtain⟨vs,pw⟩:=Option.isSome_iff_exists.1 c5;obtain⟨cz,z,c4,jU,_⟩:=Ay pw;rw[hi]at c4;cases c4;have hps:=hx hle aI hg;obtain⟨us,vp,ey⟩:=Ti (P:=P) w len (parts.map fun(j,x)=>(j,a.eval x)) hu hi jU ju;obtain⟨us',k1,k2⟩:=HZ _ ps _ _ us _ hf (by rw[←vp];exact Th us) hps;have ey:=ey us'.toArray (by rw[Array.toList_map];exact k1);obtain⟨G,g1,cx,g3,g4⟩:=HP aI cells ds bW us' (MG hle _ _ tX) fQ k2;have hl:us'.length=ds.length:=AF _ _ _ g1;have B3:∀p∈bW.map (fun i=>(i,match aG σ.heap i with|.ai s ys _=>H.iA s ys|x=>x)),∃sz xs,aG σ'.heap p.1=.ai sz xs true∧p.2=.iA sz xs:=by
      intro p hp;obtain⟨j,Ev,rfl⟩:=List.mem_map.1 hp;obtain⟨s,ys,q⟩:=MH _ _ _ tX j Ev;refine⟨s,ys,?_,by simp only[q]⟩;rcases hle.2 j with hh|hh
      ·rw[q]at hh;cases hh
      ·rw[hh,q]
     obtain⟨cv,ag,e2⟩:=Tj (cs:=us'.toArray) (e:=e) (sz:=i.size) (xs:=chunk i.size len ds) (G:=G) aI (n:=n) (hd n (Nat.le_refl _) (by simp)) (jh n (Nat.le_refl _) (by simp))
      (upd:=bW.map (fun i=>(i,match aG σ.heap i with|.ai s ys _=>H.iA s ys|x=>x))) (by
       rw[List.map_map];have:((fun x:Nat×H=>x.1)∘fun i=>(i,match aG σ.heap i with|.ai s ys _=>H.iA s ys|x=>x))=(fun i:Nat=>i):=rfl;rw[this,List.map_id'];exact fQ) B3 (by simp[HY,hl,cS])
      (by
       refine Tg len 0 ds G cS (AG ds us' 0 G (MB (by simp) ds us' G (fun x hx=>?_) g1) fun j u ak=>?_)
       ·obtain⟨q,cH,bg⟩:=g3 x hx;rw[Array.getElem?_push];simp[Nat.ne_of_lt (cJ.lt aI bg)]
       ·unfold cellAt;simp[ak]) cx
      (fun x hx=>by
       obtain⟨q,cH,bg⟩:=g3 x hx;exact⟨_,List.mem_map.2 ⟨q,cH,rfl⟩,bg⟩) (by rw[HY];exact px)
     unfold Oper.wp;have l_:(execOp a.eval o).run P w=.ok (.value (.slice (some ⟨w.heap.size,0,none⟩) len len)) (w.alloc (.cells us'.toArray e)):=by
      unfold execOp;rw[ax];simp[ey]
     rw[l_,Oper.upon_value];rw[HY]at e2;exact hk _ _ _ (l8 ag o.dst (e2 _ _))
    ·simp only[Option.some.injEq,Prod.mk.injEq]at ah;obtain⟨rfl,rfl⟩:=ah;obtain⟨⟨c5,fQ⟩,ju,px⟩:=hp;subst fQ;refine⟨_,?_,bF⟩;intro σ' hle hd B w0 aJ φ kp a w jh aI hg mB nS hk;obtain⟨i,hu,hi,cB,_⟩:=vf hel;obtain⟨vs,pw⟩:=Option.isSome_iff_exists.1 c5;obtain⟨cz,z,c4,jU,_⟩:=Ay pw;rw[hi]at c4;cases c4;have hps:=hx hle aI hg;obtain⟨us,vp,ey⟩:=Ti (P:=P) w len (parts.map fun(j,x)=>(j,a.eval x)) hu hi jU (by rw[cB];omega);rw[cB]at vp ey;obtain⟨us',k1,k2⟩:=HZ _ ps _ _ us _ hf (by rw[←vp];exact Th us) hps;have ey:=ey us'.toArray (by rw[Array.toList_map];exact k1);have h1:=S8 len 1 aI (n:=n) (hd n (Nat.le_refl _) (by simp)) (jh n (Nat.le_refl _) (by simp)) (cells:=cells) (cs:=us'.toArray) (e:=e) k2 (w':=w.alloc (.cells us'.toArray e)) rfl (Ax aI.fm aI.bs _);unfold Oper.wp;have l_:(execOp a.eval o).run P w=.ok (.value (.slice (some ⟨w.heap.size,0,none⟩) len len)) (w.alloc (.cells us'.toArray e)):=by
      unfold execOp;rw[ax];simp[ey]
     rw[l_,Oper.upon_value];refine hk _ _ _ (l8 h1 o.dst ?_);simp only[VRel];exact⟨⟨some w.heap.size,0,len,1,[]⟩,_,len,by simp[cK],rfl,px,.inr ⟨w.heap.size,rfl,by simp,Nat.le_refl _,by simp⟩⟩
   ·cases ah
  ·cases ah
 ·exact h1.elim
def zD:V→Option D
 |.d x=>if x.flat then some x else none
 |.c7 s=>some (.sl s [])
 |_=>none
def zDs:List V→Option (List D)
 |[]=>some []
 |v::vs=>match zD v,zDs vs with|some d,some ds=>some (d::ds)|_,_=>none
theorem MI{φ:ca}{T:Nat→Prop}{h h':Array Obj}{bl:Bool}:∀(vs:List V) (ds:List D) (us:List Value),zDs vs=some ds→VRels φ T h vs us→reps h' bl ds us []
 |[],ds,us,e,r=>by
  simp only[zDs,Option.some.injEq]at e;subst e;simp only[VRels]at r;subst r;simp[reps]
 |v::vs,ds,us,e,r=>by
  simp only[VRels]at r;obtain⟨u,us',rfl,aK,a7⟩:=r;simp only[zDs]at e;split at e
  ·rename_i d oG ag e2
   cases e
   simp only[reps];refine⟨u,us',[],[],rfl,rfl,?_,MI vs oG us' e2 a7⟩;unfold zD at ag;split at ag
   ·split at ag
    ·rename_i x hf
     cases ag
     simp only[VRel]at aK;obtain⟨F,aK,_⟩:=aK;have:=Ek hf aK;subst this;exact HH hf aK
    ·cases ag
   ·cases ag
    simp only[VRel]at aK;subst aK;exact⟨none,0,rfl,by simp,by decide,.inl ⟨rfl,rfl,fun _=>rfl⟩⟩
   ·cases ag
  ·cases e
theorem MJ{h:Array Obj}{b sz:Nat}{ds:List D}(hl:ds.length=sz):∀(m f:Nat),(∀i,i<m→repC h true b (f+i * sz) ds [])→repE h true b f sz (List.replicate m ds) []
 |0,f,_=>by simp[repE]
 |m+1,f,r=>by
  rw[List.replicate_succ];simp only[repE];refine⟨[],[],rfl,hl,by simpa using r 0 (by omega),MJ hl m (f+sz) fun i hi=>?_⟩;have:=r (i+1) (by omega);rw[Nat.add_mul,Nat.one_mul]at this;rw[show f+sz+i * sz=f+(i * sz+sz)from by omega];exact this
def mkE(P:Program)(T:TypeId)(i:Int)(n:Nat):Option (Prop×dS):=
 match elI P T with
 |some (e,sz,fv)=>
  match zrI P e with
  |some zs=>
   match zDs zs with
   |some ds=>some (ds.length=sz∧0<sz∧0≤i∧(fv:Int) * i≤281474976710656∧i.toNat≤maxLen,⟨.sl n 0 i.toNat,[.ai sz (List.replicate i.toNat ds) true],[]⟩)
   |none=>none
  |none=>none
 |none=>none
theorem abb{T:TypeId}{x:Operand}(ax:o.op=.makeSlice T x x)(h:evg g (σ.ev x) fun v=>asI v fun _ i=>match mkE P T i n with|some (p,r)=>p∧K r|none=>False):∃r,gb P o g σ n r∧K r:=by
 obtain⟨ka,h1,hx⟩:=fw h;obtain⟨k,c,rfl,h1⟩:=zf h1;simp only[asI]at h1;split at h1
 ·rename_i p r ah;obtain⟨hp,bF⟩:=h1;unfold mkE at ah;split at ah
  ·rename_i e sz fv hel;split at ah
   ·rename_i zs pw;split at ah
    ·rename_i ds tX;simp only[Option.some.injEq,Prod.mk.injEq]at ah;obtain⟨rfl,rfl⟩:=ah;obtain⟨c5,cS,fQ,ju,px⟩:=hp;refine⟨_,?_,bF⟩;intro σ' hle hd B w0 aJ φ kp a w jh aI hg mB nS hk;obtain⟨i,hu,hi,cB,y3⟩:=vf hel;subst cB;subst y3;obtain⟨cz,z,c4,jU,jc⟩:=Ay pw;rw[hi]at c4;cases c4;have CA:=fun h':Array Obj=>MI (h':=h') (bl:=true) _ _ _ tX (jc φ (fun _=>True) #[]);have uh:z.cells.size=i.size:=by rw[←Array.length_toList,AF _ _ _ (CA #[]),c5]
     have cL:=(l' (hx _ _ _ _ hg (fg hle aI x))).1;have u6:=run_make (P:=P) w T e i z hu hi jU k k c c fQ (Int.le_refl _) ju (by simp only[maxLen]at px;omega);obtain⟨cv,ag,e2⟩:=Tj (cs:=madeCells z.cells (c.toNat * i.size)) (e:=e) (sz:=i.size) (xs:=List.replicate c.toNat ds) (G:=[]) aI (n:=n) (hd n (Nat.le_refl _) (by simp)) (jh n (Nat.le_refl _) (by simp))
      (upd:=[]) (by simp) (by simp) (by simp[size_madeCells])
      (by
       refine MJ c5 c.toNat 0 fun m hm=>AG ds z.cells.toList _ [] (CA _) fun j u ak=>?_;have xX:j<i.size:=by
        rw[←uh];rcases Nat.lt_or_ge j z.cells.size with h|h
        ·exact h
        ·rw[List.getElem?_eq_none (by simpa using h)]at ak;cases ak
       have hlt:m * i.size+j<c.toNat * i.size:=by
        have:(m+1) * i.size≤c.toNat * i.size:=Nat.mul_le_mul_right _ hm;rw[Nat.add_mul]at this;omega
       have MK:(m * i.size+j) % z.cells.size=j:=by rw[uh,Nat.mul_comm,Nat.mul_add_mod,Nat.mod_eq_of_lt xX]
       have l7:j<z.cells.size:=by rw[uh];exact xX
       unfold cellAt;simp[madeCells,hlt,MK];rw[Array.getElem?_toList]at ak;rw[Array.getElem?_eq_getElem l7]at ak;rw[getElem!_pos z.cells j l7];exact Option.some.inj ak) List.nodup_nil (by simp) (by simpa using px)
     unfold Oper.wp;have l_:(execOp a.eval o).run P w=.ok (.value (.slice (some ⟨w.heap.size,0,none⟩) c.toNat c.toNat)) (w.alloc (.cells (madeCells z.cells (c.toNat * i.size)) e)):=by
      unfold execOp;rw[ax];simp[cL,u6]
     rw[l_,Oper.upon_value];rw[List.length_replicate]at e2;exact hk _ _ _ (l8 ag o.dst (e2 _ _))
    ·cases ah
   ·cases ah
  ·cases ah
 ·exact h1.elim
theorem aaW{c:Call}{x y:Operand}{T U:TypeId}(ax:o.op=.call c)(hc:c={callee:=.builtin .min,args:=#[x,y],argTypes:=#[T,U]})
  (h:evg g (σ.ev x) fun a=>evg g (σ.ev y) fun b=>asI a fun k i=>asI b fun ji j=>k=ji∧K (ck (oH k (if j<i then j else i)))):∃r,gb P o g σ n r∧K r:=by
 subst hc;obtain⟨ka,h1,hx⟩:=fw h;obtain⟨vb,h2,hy⟩:=fw h1;obtain⟨k,i,rfl,h2⟩:=zf h2;simp only[asI]at h2;obtain⟨ji,j,rfl,h2⟩:=zf h2;obtain⟨rfl,bF⟩:=h2;refine⟨_,ma fun σ' hle B w0 aJ φ kp a w r hg=>⟨.int k (if j<i then j else i),?_,?_⟩,bF⟩
 ·have cL:=l' (hx _ _ _ _ hg (fg hle r x));have kH:=l' (hy _ _ _ _ hg (fg hle r y));unfold execOp;rw[ax];simp[resolve,invoke,builtin,Builtin.min_,Builtin.min2,cL.1,kH.1]
 ·have cL:=l' (hx _ _ _ _ hg (fg hle r x));have kH:=l' (hy _ _ _ _ hg (fg hle r y));exact m8 (by split<;>omega)
theorem aaX{c:Call}{x y:Operand}{T U:TypeId}(ax:o.op=.call c)(hc:c={callee:=.builtin .max,args:=#[x,y],argTypes:=#[T,U]})
  (h:evg g (σ.ev x) fun a=>evg g (σ.ev y) fun b=>asI a fun k i=>asI b fun ji j=>k=ji∧K (ck (oH k (if j>i then j else i)))):∃r,gb P o g σ n r∧K r:=by
 subst hc;obtain⟨ka,h1,hx⟩:=fw h;obtain⟨vb,h2,hy⟩:=fw h1;obtain⟨k,i,rfl,h2⟩:=zf h2;simp only[asI]at h2;obtain⟨ji,j,rfl,h2⟩:=zf h2;obtain⟨rfl,bF⟩:=h2;refine⟨_,ma fun σ' hle B w0 aJ φ kp a w r hg=>⟨.int k (if j>i then j else i),?_,?_⟩,bF⟩
 ·have cL:=l' (hx _ _ _ _ hg (fg hle r x));have kH:=l' (hy _ _ _ _ hg (fg hle r y));unfold execOp;rw[ax];simp[resolve,invoke,builtin,Builtin.max_,Builtin.max2,cL.1,kH.1]
 ·have cL:=l' (hx _ _ _ _ hg (fg hle r x));have kH:=l' (hy _ _ _ _ hg (fg hle r y));exact m8 (by split<;>omega)
def evs(g:Bool)(σ:St):List Operand→(List V→Prop)→Prop
 |[],K=>K []
 |x::r,K=>evg g (σ.ev x) fun v=>evs g σ r fun vs=>K (v::vs)
theorem Ep:∀(xs:List Operand) (K:List V→Prop),evs g σ xs K→∃vs,K vs∧∀{σ':St} {B:Nat→Prop} {w0:World} {aJ:Nat→Prop} {φ:ca} {kp:List (V×Value)} {a:Act} {w:World},σ.le σ'→R B w0 aJ φ σ' kp a w→g=true→
  VRels φ (cb φ σ'.heap) w.heap vs (xs.map a.eval)
 |[],K,h=>⟨[],h,fun _ _ _=>by simp[VRels]⟩
 |x::xs,K,h=>by
  simp only[evs]at h;obtain⟨v,h1,hx⟩:=fw h;obtain⟨vs,bF,hr⟩:=Ep xs _ h1;refine⟨v::vs,bF,fun hle r hg=>?_⟩;simp only[List.map_cons,VRels];exact⟨_,_,rfl,hx _ _ _ _ hg (fg hle r x),hr hle r hg⟩
theorem abc{f:FuncId}{dU:Array Operand}(ax:o.op=.makeFunc (.func f) #[] dU)(h:evs g σ dU.toList fun vs=>K (ck (.fn f vs))):∃r,gb P o g σ n r∧K r:=by
 obtain⟨vs,bF,hx⟩:=Ep _ _ h;refine⟨_,ma fun σ' hle B w0 aJ φ kp a w r hg=>?_,bF⟩;refine⟨.func (.func f) #[] (dU.map a.eval),by unfold execOp;rw[ax];simp[Instr.makeFunc],?_⟩;simp only[VRel];exact⟨_,rfl,by simpa using hx hle r hg⟩
section
variable {B:Nat→Prop} {w0:World} {aJ:Nat→Prop} {φ:ca} {kp:List (V×Value)} {a:Act} {w:World} {σ:St}
theorem Tk(r:R B w0 aJ φ σ kp a w){id:Nat}{β:gd}{b s k:Nat}{xs ys:List (List D)}(dE:φ id=some β)(h0:aG σ.heap id=.ai s xs true)(hx:fP xs=true)(hb:β.dJ=some b)(hk:k+ys.length≤xs.length){us:List Value}(m9:us.length=ys.length * s)
  (DR:∀h':Array Obj,w.heap.size≤h'.size→(∀j,j<us.length→cellAt h' b (β.off+k * s+j)=us[j]?)→repE h' true b (β.off+k * s) s ys []) :
  ∃cs te,w.heap[b]?=some (.cells cs te (0,0))∧β.off+k * s+us.length≤cs.size∧
   R B w0 aJ (cK φ id {β with cN:=[]}) ⟨σ.tmps,bI σ.heap id (.ai s (xs.take k++(ys++xs.drop (k+ys.length))) true)⟩ kp a (w.setRow b (dn cs.toList (β.off+k * s) us).toArray):=by
 rcases r.hp id with hd|⟨a1,ag,hr⟩
 ·rw[h0]at hd;cases hd
 ·rw[dE]at ag;cases ag;rw[h0]at hr;simp only[dD]at hr;obtain⟨hs,hr⟩:=hr;rcases hr with hr|⟨dc,G,aK,a7,b8,cj,ez,_⟩
  ·rw[hb]at hr;cases hr.1
  ·rw[hb]at aK;cases aK;have bw:=DV _ _ _ _ hx cj;subst bw;obtain⟨cs,te,cH,bg⟩:=b8;have Sk:(k+ys.length) * s≤β.cap * s:=Nat.mul_le_mul_right _ (by omega);have ML:(k+ys.length) * s=k * s+ys.length * s:=Nat.add_mul _ _ _;have hf:β.off+k * s+us.length≤cs.size:=by rw[m9];omega
   have lI:=HD (f:=β.off+k * s) cH hf;have cB:(w.setRow b (dn cs.toList (β.off+k * s) us).toArray).heap.size=w.heap.size:=setRow_size _ _ _;have hB:B b:=r.eL id b ⟨β,dE,.inl ⟨by rw[h0];rfl,hb⟩⟩;have h1:=cj;have h2:=cj;rw[←List.take_append_drop k xs]at h1;rw[←List.take_append_drop (k+ys.length) xs]at h2;obtain⟨kc,jy,EL,bD,bR⟩:=(repE_append _ _ _ _).1 h1;obtain⟨anV,iL,gc,c1,c2⟩:=(repE_append _ _ _ _).1 h2;obtain⟨rfl,rfl⟩:=List.append_eq_nil_iff.1 EL.symm;obtain⟨rfl,rfl⟩:=List.append_eq_nil_iff.1 gc.symm;have kO:(xs.take k).length=k:=by simp;omega
   have abR:(xs.take (k+ys.length)).length=k+ys.length:=by simp;omega
   rw[abR,ML]at c2;refine⟨cs,te,cH,hf,?_⟩;have:=S_ r (n:=id) (β:={β with cN:=[]}) (β0:=β) (upd:=[]) (by simp) (by simp) dE h0 ⟨rfl,rfl,rfl,rfl⟩ (by simp) (sz:=s) (xs:=xs.take k++(ys++xs.drop (k+ys.length))) hs (Nat.le_of_eq cB.symm) (wo r.fm hB cH (pt hf))
    (fun c _ hne _=>setRow_other w b c _ fun mE=>hne (mE▸hb))
    (.inr ⟨b,hb,by simp;omega,⟨_,te,setRow_heap w b cs _ te (0,0) cH,by
     have:=xK (l:=cs.toList) (off:=β.off+k * s) (vs:=us) (by simpa using hf);simp only[List.size_toArray,this,Array.length_toList];exact bg⟩,by
     refine(repE_append _ _ _ _).2 ⟨[],[],rfl,?_,(repE_append _ _ _ _).2 ⟨[],[],rfl,?_,?_⟩⟩
     ·refine po _ _ _ _ _ (Nat.le_of_eq cB.symm) (by simp) (fun j ak=>?_) bD;rw[kO]at ak
      show cellAt _ b (β.off+j)=_
      rw[lI,if_neg (by omega)]
     ·rw[kO];refine DR _ (Nat.le_of_eq cB.symm) fun j ak=>?_;rw[lI,if_pos (by omega),show β.off+k * s+j-(β.off+k * s)=j from by omega]
     ·rw[kO]
      show repE _ true b (β.off+k * s+ys.length * s) s _ []
      refine po _ _ _ _ _ (Nat.le_of_eq cB.symm) (by simp) (fun j ak=>?_) c2;rw[lI,if_neg (by rw[m9];omega),Nat.add_assoc β.off]⟩)
    (by simp) List.nodup_nil (by simp)
   exact this
end
variable {P:Program} {o:Oper} {g:Bool} {σ:St} {n:Nat} {K:dS→Prop}
def inE(P:Program)(hs:List H)(T:TypeId)(x y:V):Option (Prop×dS):=
 match x,y with
 |.sl id 0 i,.sl oF j l=>
  if id=oF then
   match elI P T,aG hs id with
   |some (_,sz,_),.ai s xs true=>if s=sz then some (fP xs=true∧i+l≤xs.length∧j+l≤xs.length∧0<xs.length,⟨.sl id 0 (i+l),[],[(id,.ai s (xs.take i++((xs.drop j).take l++xs.drop (i+l))) true)]⟩)else none
   |_,_=>none
  else none
 |_,_=>none
theorem ok_inplace{c:Call}{x y:Operand}{T:TypeId}(ax:o.op=.call c)(hc:c={callee:=.builtin .append,args:=#[x,y],argTypes:=#[T,T]})
  (h:evg g (σ.ev x) fun a=>evg g (σ.ev y) fun b=>match inE P σ.heap T a b with|some (p,r)=>p∧K r|none=>False):∃r,gb P o g σ n r∧K r:=by
 subst hc;obtain⟨ka,h1,hx⟩:=fw h;obtain⟨vb,h2,hy⟩:=fw h1;clear h h1;split at h2
 ·rename_i p r ah;obtain⟨hp,bF⟩:=h2;refine⟨r,?_,bF⟩;intro σ' hle hd B w0 aJ φ kp a w jh aI hg mB nS hk;have cL:=hx _ _ _ _ hg (fg hle aI x);have kH:=hy _ _ _ _ hg (fg hle aI y);unfold inE at ah;split at ah
  ·rename_i id i oF j l;split at ah
   ·rename_i hid;subst hid;split at ah
    ·rename_i e sz fv s xs hel gv;split at ah
     ·rename_i hs;subst hs;simp only[Option.some.injEq,Prod.mk.injEq]at ah;obtain⟨rfl,rfl⟩:=ah;obtain⟨c5,cS,fQ,ju⟩:=hp;obtain⟨zg,ht,hi,cB,y3⟩:=vf hel;have e6:aG σ'.heap id=.ai s xs true:=by
       rcases hle.2 id with hh|hh
       ·rw[gv]at hh;cases hh
       ·rw[hh,gv]
      obtain⟨β,ad,nT,cH,bg,bT,bY,eV⟩:=uf cL;obtain⟨a1,ad',Tl,fF,gm,t3,t4,t5⟩:=uf kH;rw[cH]at fF;cases fF;rcases aI.hp id with gr|⟨a1,ag,hr⟩
      ·rw[e6]at gr;cases gr
      ·rw[cH]at ag;cases ag;rw[e6]at hr;simp only[dD]at hr;obtain⟨vg,hr⟩:=hr;have hne:xs≠[]:=fun h=>by rw[h]at ju;simp at ju
       rcases hr with hr|⟨b,G,aK,a7,b8,cj,ez,hD⟩
       ·exact absurd hr.2.1 hne
       ·have bw:=DV _ _ _ _ c5 cj;subst bw;obtain⟨dt,eM,u2,js⟩:∃b,β.dJ=some b∧ad=some ⟨b,β.off+0 * β.sz,none⟩∧0+nT=β.cap:=by
         rcases eV with eV|eV
         ·omega
         ·exact eV
        rw[aK]at eM;cases eM;rw[Nat.zero_mul,Nat.add_zero]at u2;subst u2;have EM:((xs.drop j).take l).length=l:=by simp;omega
        have Tm:repE w.heap true b (β.off+j * s) s ((xs.drop j).take l) []:=by
         have h1:=cj;rw[←List.take_append_drop j xs]at h1;obtain⟨kc,jy,EL,_,bR⟩:=(repE_append _ _ _ _).1 h1;obtain⟨rfl,rfl⟩:=List.append_eq_nil_iff.1 EL.symm;rw[←List.take_append_drop l (xs.drop j)]at bR;obtain⟨kc,jy,EL,a3,_⟩:=(repE_append _ _ _ _).1 bR;obtain⟨rfl,rfl⟩:=List.append_eq_nil_iff.1 EL.symm;have:(xs.take j).length=j:=by simp;omega
         rw[this]at a3;exact a3
        have pq:(xs.drop j).take l=[]∨∃b f G,ad'=some ⟨b,f,none⟩∧repE w.heap true b f s ((xs.drop j).take l) G:=by
         rcases t5 with t5|⟨dq,g',hj,_⟩
         ·exact .inl (List.eq_nil_of_length_eq_zero (by rw[EM];exact t5.2.1))
         ·rw[aK]at g';cases g';exact .inr ⟨b,_,[],hj,by rw[vg];exact Tm⟩
        obtain⟨gx,lH,mA,ug,pr⟩:=L7 (P:=P) (c:=Tl) pq;rw[EM]at mA;have EN:=Tk aI (k:=i) (ys:=(xs.drop j).take l) (us:=gx) cH e6 c5 aK (by rw[EM];exact cS) lH (fun h' hs' hc=>by
         by_cases hl:(xs.drop j).take l=[]
         ·rw[hl];simp[repE]
         ·obtain⟨dq,f3,g',hj⟩:=pr hl;rcases t5 with t5|⟨oA,v3,v4,_⟩
          ·exact absurd (List.eq_nil_of_length_eq_zero (by rw[EM];exact t5.2.1)) hl
          ·rw[aK]at v3;cases v3;rw[v4]at g';simp only[Option.some.injEq,Addr.mk.injEq]at g';obtain⟨rfl,rfl,_⟩:=g';refine po _ _ _ _ _ hs' (by simp) (fun m hm=>?_) Tm;have MM:m<gx.length:=by rw[lH];exact hm
           rw[hc m MM,←vg,hj m gx[m] (List.getElem?_eq_getElem MM),List.getElem?_eq_getElem MM])
        rw[EM]at EN;obtain⟨cs,te,nH,kC,z3⟩:=EN;have ho:i+l≤nT:=by omega
        have ey:=L6 (P:=P) (w:=w) T o.type e zg ht hi b β.off i nT cs te nH l (.slice ad' l Tl) gx rfl (by rw[cB];exact mA w rfl) ug ho (by rw[cB];exact kC);rw[cB]at ey;unfold Oper.wp;have l_:(execOp a.eval o).run P w=.ok (.value (.slice (some ⟨b,β.off,none⟩) (i+l) nT)) (w.setRow b (dn cs.toList (β.off+i * s) gx).toArray):=by
         unfold execOp;rw[ax];simp[resolve,invoke,builtin,bg,gm,ey]
        rw[l_,Oper.upon_value];have:=l8 z3 o.dst (v:=.sl id 0 (i+l)) (u:=.slice (some ⟨b,β.off,none⟩) (i+l) nT) (by
         simp only[VRel];exact⟨{β with cN:=[]},_,nT,by simp[cK],rfl,bY,.inr ⟨b,aK,by simp,ho,js⟩⟩)
        exact hk _ _ _ (Er this fun i h=>.inl h)
     ·cases ah
    ·cases ah
   ·cases ah
  ·cases ah
 ·exact h2.elim
def clrE(P:Program)(hs:List H)(T:TypeId)(x:V):Option (Prop×dS):=
 match x with
 |.sl id off len=>
  match elI P T,aG hs id with
  |some (e,sz,_),.ai s xs true=>
   match zrI P e with
   |some zs=>
    match zDs zs with
    |some ds=>if s=sz then some (fP xs=true∧off+len≤xs.length∧0<len∧ds.length=sz,⟨.J,[],[(id,.ai s (xs.take off++(List.replicate len ds++xs.drop (off+len))) true)]⟩)else none
    |none=>none
   |none=>none
  |_,_=>none
 |_=>none
theorem aaV{c:Call}{x:Operand}{T:TypeId}(ax:o.op=.call c)(hc:c={callee:=.builtin .clear,args:=#[x],argTypes:=#[T]})
  (h:evg g (σ.ev x) fun a=>match clrE P σ.heap T a with|some (p,r)=>p∧K r|none=>False):∃r,gb P o g σ n r∧K r:=by
 subst hc;obtain⟨ka,h2,hx⟩:=fw h;clear h;split at h2
 ·rename_i p r ah;obtain⟨hp,bF⟩:=h2;refine⟨r,?_,bF⟩;intro σ' hle hd B w0 aJ φ kp a w jh aI hg mB nS hk;have cL:=hx _ _ _ _ hg (fg hle aI x);unfold clrE at ah;split at ah
  ·rename_i id off len;split at ah
   ·rename_i e sz fv s xs hel gv;split at ah
    ·rename_i zs pw;split at ah
     ·rename_i ds tX;split at ah
      ·rename_i hs;subst hs;simp only[Option.some.injEq,Prod.mk.injEq]at ah;obtain⟨rfl,rfl⟩:=ah;obtain⟨c5,cS,fQ,ju⟩:=hp;obtain⟨zg,ht,hi,cB,y3⟩:=vf hel;obtain⟨cz,z,c4,jU,jc⟩:=Ay pw;rw[hi]at c4;cases c4;have CA:=fun h':Array Obj=>MI (h':=h') (bl:=true) _ _ _ tX (jc φ (fun _=>True) #[]);have uh:z.cells.size=s:=by rw[←Array.length_toList,AF _ _ _ (CA #[]),ju]
       have e6:aG σ'.heap id=.ai s xs true:=by
        rcases hle.2 id with hh|hh
        ·rw[gv]at hh;cases hh
        ·rw[hh,gv]
       obtain⟨β,ad,nT,cH,bg,bT,bY,eV⟩:=uf cL;obtain⟨b,eM,u2,js⟩:∃b,β.dJ=some b∧ad=some ⟨b,β.off+off * β.sz,none⟩∧off+nT=β.cap:=by
        rcases eV with eV|eV
        ·omega
        ·exact eV
       have vg:β.sz=s:=by
        rcases aI.hp id with gr|⟨a1,ag,hr⟩
        ·rw[e6]at gr;cases gr
        ·rw[cH]at ag;cases ag;rw[e6]at hr;simp only[dD]at hr;exact hr.1
       rw[vg]at u2;subst u2;have nj:(List.replicate len ds).length=len:=List.length_replicate;have H0:(Builtin.zeroCells z.cells len).toList.length=len * s:=by rw[Array.length_toList,size_zeroCells,uh]
       have aG:∀m j,m<len→j<s→(Builtin.zeroCells z.cells len).toList[m * s+j]?=z.cells[j]?:=by
        intro m j hm ak;have hlt:m * s+j<len * s:=by
         have:(m+1) * s≤len * s:=Nat.mul_le_mul_right _ hm;rw[Nat.add_mul]at this;omega
        have MK:(m * s+j) % s=j:=by rw[Nat.mul_comm,Nat.mul_add_mod,Nat.mod_eq_of_lt ak]
        have l7:j<z.cells.size:=by rw[uh];exact ak
        have abS:m * s+j<len * z.cells.size:=by rw[uh];exact hlt
        unfold Builtin.zeroCells;rw[Array.getElem?_toList,Array.getElem?_map,Array.getElem?_range,if_pos abS];simp only[Option.map_some,uh,MK];rw[getElem!_pos z.cells j l7,Array.getElem?_eq_getElem l7]
       have EN:=Tk aI (k:=off) (ys:=List.replicate len ds) (us:=(Builtin.zeroCells z.cells len).toList) cH e6 c5 eM (by rw[nj];exact cS) (by rw[nj];exact H0) (fun h' hs' hc=>by
        refine MJ ju len _ fun m hm=>AG ds z.cells.toList _ [] (CA _) fun j u ak=>?_;have xX:j<s:=by
         rw[←uh];rcases Nat.lt_or_ge j z.cells.size with h|h
         ·exact h
         ·rw[List.getElem?_eq_none (by simpa using h)]at ak;cases ak
        have hlt:m * s+j<(Builtin.zeroCells z.cells len).toList.length:=by
         rw[H0];have:(m+1) * s≤len * s:=Nat.mul_le_mul_right _ hm;rw[Nat.add_mul]at this;omega
        have:=hc _ hlt;rw[aG m j hm xX]at this;rw[Nat.add_assoc (β.off+off * s),this,←Array.getElem?_toList];exact ak)
       rw[nj]at EN;obtain⟨cs,te,nH,kC,z3⟩:=EN;have abT:∀v∈(Builtin.zeroCells z.cells len).toList,v.oneCell'=true:=by
        intro v hv;obtain⟨t,lE,rfl⟩:=List.getElem_of_mem hv;have jz:0<s:=by
         rcases Nat.eq_zero_or_pos s with h|h
         ·rw[H0,h,Nat.mul_zero]at lE;omega
         ·exact h
        have h1:t=(t / s) * s+t % s:=by rw[Nat.mul_comm];exact(Nat.div_add_mod t s).symm
        have h2:t / s<len:=Nat.div_lt_of_lt_mul (by rw[Nat.mul_comm,←H0];exact lE);have aj:=aG (t / s) (t % s) h2 (Nat.mod_lt _ jz);rw[←h1,List.getElem?_eq_getElem lE]at aj;have l7:t % s<z.cells.toList.length:=by rw[Array.length_toList,uh];exact Nat.mod_lt _ jz
        rw[←Array.getElem?_toList,List.getElem?_eq_getElem l7]at aj;rw[Option.some.inj aj];have abU:repC #[.cells z.cells 0 (0,0)] true 0 0 ds []:=AG ds z.cells.toList 0 [] (CA _) fun j u ak=>by
         simp[cellAt];rw[Array.getElem?_toList]at ak;exact ak
        obtain⟨us,k1,k2⟩:=L4 ds 0 [] abU;have Tn:t % s<us.length:=by rw[k1,ju];exact Nat.mod_lt _ jz
        have:=k2.1 (t % s) us[t % s] (List.getElem?_eq_getElem Tn);obtain⟨Ce,_,dC⟩:=k2.2 (t % s) ds[t % s] us[t % s] (List.getElem?_eq_getElem (by rw[ju];exact Nat.mod_lt _ jz)) (List.getElem?_eq_getElem Tn);have hz:z.cells.toList[t % s]=us[t % s]:=by
         have aD:=this;simp[cellAt]at aD;have bX:z.cells.toList[t % s]?=some us[t % s]:=by rw[Array.getElem?_toList];exact aD
         rw[List.getElem?_eq_getElem l7]at bX;exact Option.some.inj bX
        rw[hz];exact L5 dC
       have cw:=run_storeCells_at P b (β.off+off * s) te (Builtin.zeroCells z.cells len).toList 0 cs w nH (by simpa using kC) abT;simp only[Nat.add_zero,List.append_assoc]at cw;unfold Oper.wp;have l_:(execOp a.eval o).run P w=.ok (.value (.tuple #[])) (w.setRow b (dn cs.toList (β.off+off * s) (Builtin.zeroCells z.cells len).toList).toArray):=by
        unfold execOp;rw[ax];obtain⟨m,rfl⟩:∃m,len=m+1:=⟨len-1,by omega⟩;simp[resolve,invoke,builtin,bg,Builtin.clear_,run_underlying ht,zeroValue,typeInfo,hi,jU,cw,dn]
       rw[l_,Oper.upon_value];have:=l8 z3 o.dst (v:=.J) (u:=.tuple #[]) (by simp only[VRel]);exact hk _ _ _ (Er this fun i h=>.inl h)
      ·cases ah
     ·cases ah
    ·cases ah
   ·cases ah
  ·cases ah
 ·exact h2.elim
def Ci(P:Program)(hs:List H)(T:TypeId)(x y:V)(n:Nat):Option (Prop×dS):=
 match inE P hs T x y with
 |some r=>some r
 |none=>apE P hs T x y n
theorem To{g:Bool}{v:V}{K:V→Prop}(h:evg g v K):∃e7,K e7∧∀fG:V→Prop,fG e7→evg g v fG:=by
 unfold evg at h⊢;split at h
 ·exact⟨_,h.2,fun fG h'=>⟨h.1,h'⟩⟩
 ·exact⟨_,h,fun fG h'=>h'⟩
theorem aaU{c:Call}{x y:Operand}{T:TypeId}(ax:o.op=.call c)(hc:c={callee:=.builtin .append,args:=#[x,y],argTypes:=#[T,T]})
  (h:evg g (σ.ev x) fun a=>evg g (σ.ev y) fun b=>match Ci P σ.heap T a b n with|some (p,r)=>p∧K r|none=>False):∃r,gb P o g σ n r∧K r:=by
 obtain⟨a,h1,ha⟩:=To h;obtain⟨b,h2,hb⟩:=To h1
 cases hi:inE P σ.heap T a b with
 |none=>
  refine ok_append ax hc (ha _ (hb _ ?_));unfold Ci at h2;rw[hi]at h2;exact h2
 |some r=>
  refine ok_inplace ax hc (ha _ (hb _ ?_));unfold Ci at h2;rw[hi]at h2;rw[hi];exact h2
inductive AD where
 |one (d:D)
 |agg (ds:List D)
def arep(h:Array Obj)(o:Bool):AD→Value→List Nat→Prop
 |.one d,u,F=>rep h o d u F
 |.agg ds,u,F=>∃us:Array Value,u=.agg us∧reps h o ds us.toList F
def areps(h:Array Obj)(o:Bool):List AD→List Value→List Nat→Prop
 |[],us,F=>us=[]∧F=[]
 |a::as,us,F=>∃u us' F1 F2,us=u::us'∧F=F1++F2∧arep h o a u F1∧areps h o as us' F2
def trep(h:Array Obj)(o:Bool)(rs:List AD)(v:Value)(F:List Nat):Prop:=
 match rs with
 |[r]=>arep h o r v F
 |rs=>∃us:Array Value,v=.tuple us∧areps h o rs us.toList F
def Does(P:Program)(f:FuncId)(us:Array Value)(w:World)(R:Value→World→Prop):Prop:=
 match(callFunc f us).run P w with
 |.ok (.enter g as) w'=>Calls P g as w' fun e So=>match e with|.returned v=>R v So|_=>False
 |.ok (.value v) w'=>R v w'
 |.ok (.row row as) w'=>Rows P row as w' R
 |_=>False
theorem Does.mono{P:Program}{f:FuncId}{us:Array Value}{w:World}{R Sp:Value→World→Prop}(h:Does P f us w R)(hr:∀v w',R v w'→Sp v w'):Does P f us w Sp:=by
 unfold Does at *;split at h
 ·exact Calls.mono h fun e So he=>by cases e<;>first|exact hr _ _ he|exact he.elim
 ·exact hr _ _ h
 ·exact Rows.mono h hr
 ·exact h.elim
theorem Does.enter{P:Program}{f:FuncId}{us:Array Value}{w:World}{R:Value→World→Prop}(ey:(callFunc f us).run P w=.ok (.enter f us) w)
  (h:Calls P f us w fun e w'=>match e with|.returned v=>R v w'|_=>False):Does P f us w R:=by
 unfold Does;rw[ey];exact h
def PureCall(P:Program)(f:FuncId)(args res:List AD):Prop:=
 ∀(w:World) (us:List Value) (F:List Nat),GOk w.heap→areps w.heap false args us F→Does P f us.toArray w fun v w'=>
  ∃F',Bel (fun b=>w.heap.size≤b) w w'∧trep w'.heap true res v F'∧F'.Nodup∧∀b∈F',w.heap.size≤b
def clnOf(hs:List H)(id off len:Nat):Option (Nat×List (List D)):=
 match aG hs id with
 |.af sz xs=>if off+len≤xs.length then some (sz,(xs.drop off).take len)else none
 |_=>elsOf hs (.sl id off len)
def toRD(hs:List H)(v:V):Option D:=
 match v with
 |.d x=>some x
 |.c7 s=>some (.sl s [])
 |.sl id off len=>match clnOf hs id off len with|some (sz,xs)=>some (.sl sz xs)|none=>none
 |_=>none
def toRDs(hs:List H):List V→Option (List D)
 |[]=>some []
 |v::vs=>match toRD hs v,toRDs hs vs with|some d,some ds=>some (d::ds)|_,_=>none
def toAD(hs:List H)(v:V):Option AD:=
 match v with
 |.agg vs=>(toRDs hs vs).map .agg
 |v=>(toRD hs v).map .one
def toADs(hs:List H):List V→Option (List AD)
 |[]=>some []
 |v::vs=>match toAD hs v,toADs hs vs with|some d,some ds=>some (d::ds)|_,_=>none
section
variable {B:Nat→Prop} {w0:World} {aJ:Nat→Prop} {φ:ca} {kp:List (V×Value)} {a:Act} {w:World} {σ σ':St}
theorem Sq(hle:σ.le σ')(r:R B w0 aJ φ σ' kp a w){v:V}{d:D}(h:toRD σ.heap v=some d){u:Value}(eZ:VRel φ (cb φ σ'.heap) w.heap v u):∃F,rep w.heap false d u F:=by
 unfold toRD at h;split at h
 ·cases h
  simp only[VRel]at eZ;obtain⟨F,aK,_⟩:=eZ;exact⟨F,aK⟩
 ·cases h
  simp only[VRel]at eZ;subst eZ;exact⟨[],none,0,rfl,by simp,by decide,.inl ⟨rfl,rfl,fun e=>by cases e⟩⟩
 ·rename_i id off len;split at h
  ·rename_i sz xs hel
   cases h
   unfold clnOf at hel;split at hel
   ·rename_i gy ys hx;split at hel
    ·rename_i hl;simp only[Option.some.injEq,Prod.mk.injEq]at hel;obtain⟨rfl,rfl⟩:=hel;have e6:aG σ'.heap id=.af gy ys:=by
      rcases hle.2 id with hh|hh
      ·rw[hx]at hh;cases hh
      ·rw[hh,hx]
     obtain⟨F,dw,_⟩:=Mc r (id:=id) (by rw[e6];rfl) hl eZ;exact⟨F,Sr _ _ _ dw⟩
    ·cases hel
   obtain⟨ad,c,ag,e2,aY,bk⟩:=Hu hle r hel eZ;simp only[rep];rcases bk with bk|⟨b,f,G,bk,cg,jH,m5⟩
   ·exact⟨[],ad,c,ag,e2,aY,.inl ⟨bk,rfl,fun e=>by cases e⟩⟩
   ·exact⟨b::G,ad,c,ag,e2,aY,.inr ⟨b,f,G,bk,rfl,cg,jH,fun e=>by cases e⟩⟩
  ·cases h
 ·cases h
theorem Ss(hle:σ.le σ')(r:R B w0 aJ φ σ' kp a w):∀(vs:List V) (ds:List D) (us:List Value),toRDs σ.heap vs=some ds→VRels φ (cb φ σ'.heap) w.heap vs us→∃F,reps w.heap false ds us F
 |[],ds,us,h,eZ=>by
  simp only[toRDs,Option.some.injEq]at h;subst h;simp only[VRels]at eZ;subst eZ;exact⟨[],rfl,rfl⟩
 |v::vs,ds,us,h,eZ=>by
  simp only[VRels]at eZ;obtain⟨u,us',rfl,aK,a7⟩:=eZ;simp only[toRDs]at h;split at h
  ·rename_i d oG ag e2
   cases h
   obtain⟨F1,dw⟩:=Sq hle r ag aK;obtain⟨F2,fs⟩:=Ss hle r vs oG us' e2 a7;exact⟨F1++F2,u,us',F1,F2,rfl,rfl,dw,fs⟩
  ·cases h
theorem aaP(hle:σ.le σ')(r:R B w0 aJ φ σ' kp a w){v:V}{d:AD}(h:toAD σ.heap v=some d){u:Value}(eZ:VRel φ (cb φ σ'.heap) w.heap v u):∃F,arep w.heap false d u F:=by
 unfold toAD at h;split at h
 ·rename_i vs
  cases hd:toRDs σ.heap vs with
  |none=>rw[hd]at h;cases h
  |some ds=>
   rw[hd]at h;cases h;obtain⟨us,rfl,aK⟩:=Eh eZ;obtain⟨F,f⟩:=Ss hle r vs ds _ hd aK;exact⟨F,us,rfl,f⟩
 ·cases hd:toRD σ.heap v with
  |none=>rw[hd]at h;cases h
  |some x=>
   rw[hd]at h;cases h;exact Sq hle r hd eZ
theorem HG(hle:σ.le σ')(r:R B w0 aJ φ σ' kp a w):∀(vs:List V) (ds:List AD) (us:List Value),toADs σ.heap vs=some ds→VRels φ (cb φ σ'.heap) w.heap vs us→∃F,areps w.heap false ds us F
 |[],ds,us,h,eZ=>by
  simp only[toADs,Option.some.injEq]at h;subst h;simp only[VRels]at eZ;subst eZ;exact⟨[],rfl,rfl⟩
 |v::vs,ds,us,h,eZ=>by
  simp only[VRels]at eZ;obtain⟨u,us',rfl,aK,a7⟩:=eZ;simp only[toADs]at h;split at h
  ·rename_i d oG ag e2
   cases h
   obtain⟨F1,dw⟩:=aaP hle r ag aK;obtain⟨F2,fs⟩:=HG hle r vs oG us' e2 a7;exact⟨F1++F2,u,us',F1,F2,rfl,rfl,dw,fs⟩
  ·cases h
end
def rV(d:D)(n:Nat):V:=match d with|.sl _ xs=>.sl n 0 xs.length|d=>.d d
def wv(d:D):List H:=match d with|.sl sz xs=>[.ai sz xs true]|_=>[]
def rVs:List D→Nat→List V
 |[],_=>[]
 |d::ds,n=>rV d n::rVs ds (n+(wv d).length)
def rHs:List D→List H
 |[]=>[]
 |d::ds=>wv d++rHs ds
def Ei:AD→Nat→V
 |.one d,n=>rV d n
 |.agg ds,n=>.agg (rVs ds n)
def Ej:AD→List H
 |.one d=>wv d
 |.agg ds=>rHs ds
def aVs:List AD→Nat→List V
 |[],_=>[]
 |d::ds,n=>Ei d n::aVs ds (n+(Ej d).length)
def aHs:List AD→List H
 |[]=>[]
 |d::ds=>Ej d++aHs ds
def mC(rs:List AD)(n:Nat):V:=match rs with|[r]=>Ei r n|rs=>.c6 (aVs rs n)
def lh(β:gd):List Nat:=β.dJ.toList++β.cN
def vh(h:Array Obj)(bl:List gd)(hs:List H)(F:List Nat):Prop:=
 bl.length=hs.length∧bl.flatMap lh=F∧(∀(i:Nat) (β:gd) (x:H),bl[i]?=some β→hs[i]?=some x→∀φ T,dD φ T h β x)∧∀x∈hs,∃sz xs,x=.ai sz xs true
def py(φ:ca)(n:Nat)(bl:List gd):Prop:=∀(i:Nat) (β:gd),bl[i]?=some β→φ (n+i)=some β
theorem vh.append{h:Array Obj}{dx dt:List gd}{h1 h2:List H}{F1 F2:List Nat}(fR:vh h dx h1 F1)(gw:vh h dt h2 F2):vh h (dx++dt) (h1++h2) (F1++F2):=by
 obtain⟨bD,bR,a3,a4⟩:=fR;obtain⟨c1,c2,ja,tN⟩:=gw;refine⟨by simp[bD,c1],by simp[bR,c2],fun i β x ag e2=>?_,fun x hx=>?_⟩
 ·rw[List.getElem?_append]at ag e2;by_cases hi:i<dx.length
  ·rw[if_pos hi]at ag;rw[if_pos (bD▸hi)]at e2;exact a3 i β x ag e2
  ·rw[if_neg hi]at ag;rw[if_neg (bD▸hi),←bD]at e2;exact ja _ β x ag e2
 ·rcases List.mem_append.1 hx with hx|hx
  ·exact a4 x hx
  ·exact tN x hx
theorem py.left{φ:ca}{n:Nat}{dx dt:List gd}(h:py φ n (dx++dt)):py φ n dx:=fun i β e=>h i β (by
 rw[List.getElem?_append_left (by
  rcases Nat.lt_or_ge i dx.length with h|h
  ·exact h
  ·rw[List.getElem?_eq_none h]at e;cases e)];exact e)
theorem py.right{φ:ca}{n:Nat}{dx dt:List gd}(h:py φ n (dx++dt)):py φ (n+dx.length) dt:=fun i β e=>by
 rw[Nat.add_assoc];exact h (dx.length+i) β (by rw[List.getElem?_append_right (by omega),Nat.add_sub_cancel_left];exact e)
theorem Su{h:Array Obj}{d:D}{u:Value}{F:List Nat}(r:rep h true d u F):∃bl,vh h bl (wv d) F∧∀φ n T,py φ n bl→VRel φ T h (rV d n) u:=by
 cases d with
 |sl sz xs=>
  simp only[rep]at r;obtain⟨ad,c,rfl,h2,aj,aD⟩:=r;rcases aD with ⟨rfl,rfl,aD⟩|⟨b,f,G,rfl,rfl,bX,eR,l2⟩
  ·refine⟨[⟨none,0,0,sz,[]⟩],⟨rfl,rfl,fun i β x ag e2 φ T=>?_,by simp[wv]⟩,fun φ n T hA=>?_⟩
   ·cases i with
    |zero=>
     simp[wv]at ag e2;subst ag;subst e2;simp[dD]
    |succ i=>simp at ag
   ·simp only[rV,VRel];exact⟨_,ad,c,hA 0 _ rfl,rfl,aj,.inl ⟨aD trivial,rfl,rfl⟩⟩
  ·refine⟨[⟨some b,f,c,sz,G⟩],⟨rfl,by simp[lh],fun i β x ag e2 φ T=>?_,by simp[wv]⟩,fun φ n T hA=>?_⟩
   ·cases i with
    |zero=>
     simp[wv]at ag e2;subst ag;subst e2;simp only[dD];exact⟨trivial,.inr ⟨b,G,rfl,h2,(l2 trivial).2,eR,fun _=>rfl,fun h=>by cases h⟩⟩
    |succ i=>simp at ag
   ·simp only[rV,VRel];exact⟨_,_,c,hA 0 _ rfl,rfl,aj,.inr ⟨b,rfl,by simp,h2,by simp⟩⟩
 |_=>
  have aZ:=Ek rfl r;subst aZ;refine⟨[],⟨rfl,rfl,by simp,by simp[wv]⟩,fun φ n T _=>?_⟩;simp only[rV,VRel];exact⟨[],HH rfl r,by simp⟩
theorem Md{h:Array Obj}:∀(ds:List D) (us:List Value) (F:List Nat),reps h true ds us F→∃bl,vh h bl (rHs ds) F∧∀φ n T,py φ n bl→VRels φ T h (rVs ds n) us
 |[],us,F,r=>by
  simp only[reps]at r;obtain⟨rfl,rfl⟩:=r;exact⟨[],⟨rfl,rfl,by simp,by simp[rHs]⟩,fun _ _ _ _=>by simp[rVs,VRels]⟩
 |d::ds,us,F,r=>by
  simp only[reps]at r;obtain⟨u,us',F1,F2,rfl,rfl,aK,a7⟩:=r;obtain⟨dx,fR,g'⟩:=Su aK;obtain⟨dt,gw,hj⟩:=Md ds us' F2 a7;refine⟨dx++dt,fR.append gw,fun φ n T hA=>?_⟩;simp only[rVs,VRels];refine⟨u,us',rfl,g' φ n T hA.left,hj φ _ T ?_⟩;rw[←fR.1];exact hA.right
theorem Sv{h:Array Obj}{d:AD}{u:Value}{F:List Nat}(r:arep h true d u F):∃bl,vh h bl (Ej d) F∧∀φ n T,py φ n bl→VRel φ T h (Ei d n) u:=by
 cases d with
 |one d=>exact Su r
 |agg ds=>
  obtain⟨us,rfl,r⟩:=r;obtain⟨bl,l,v⟩:=Md ds _ F r;refine⟨bl,l,fun φ n T hA=>?_⟩;simp only[Ei,VRel];exact⟨us,rfl,v φ n T hA⟩
theorem Sw{h:Array Obj}:∀(ds:List AD) (us:List Value) (F:List Nat),areps h true ds us F→∃bl,vh h bl (aHs ds) F∧∀φ n T,py φ n bl→VRels φ T h (aVs ds n) us
 |[],us,F,r=>by
  simp only[areps]at r;obtain⟨rfl,rfl⟩:=r;exact⟨[],⟨rfl,rfl,by simp,by simp[aHs]⟩,fun _ _ _ _=>by simp[aVs,VRels]⟩
 |d::ds,us,F,r=>by
  simp only[areps]at r;obtain⟨u,us',F1,F2,rfl,rfl,aK,a7⟩:=r;obtain⟨dx,fR,g'⟩:=Sv aK;obtain⟨dt,gw,hj⟩:=Sw ds us' F2 a7;refine⟨dx++dt,fR.append gw,fun φ n T hA=>?_⟩;simp only[aVs,VRels];refine⟨u,us',rfl,g' φ n T hA.left,hj φ _ T ?_⟩;rw[←fR.1];exact hA.right
theorem Me{h:Array Obj}{rs:List AD}{u:Value}{F:List Nat}(r:trep h true rs u F):∃bl,vh h bl (aHs rs) F∧∀φ n T,py φ n bl→VRel φ T h (mC rs n) u:=by
 unfold trep at r;split at r
 ·rename_i x;obtain⟨bl,l,v⟩:=Sv r;exact⟨bl,by simpa [aHs]using l,fun φ n T hA=>v φ n T hA⟩
 ·rename_i hne;obtain⟨us,rfl,r⟩:=r;obtain⟨bl,l,v⟩:=Sw _ _ F r;refine⟨bl,l,fun φ n T hA=>?_⟩;have:mC rs n=.c6 (aVs rs n):=by unfold mC;split<;>first|rfl|(rename_i y;exact absurd rfl (hne y))
  rw[this];simp only[VRel];exact⟨us,rfl,v φ n T hA⟩
def H.toCln:H→H
 |.ai sz xs true=>.af sz xs
 |x=>x
theorem vh.af{h:Array Obj}{bl:List gd}{hs:List H}{F:List Nat}(l:vh h bl hs F):bl.length=(hs.map H.toCln).length∧bl.flatMap lh=F∧(∀(i:Nat) (β:gd) (x:H),bl[i]?=some β→(hs.map H.toCln)[i]?=some x→∀φ T,dD φ T h β x):=by
 obtain⟨fR,gw,t',_⟩:=l;refine⟨by simp[fR],gw,fun i β x ag e2 φ T=>?_⟩;rw[List.getElem?_map]at e2
 cases hx:hs[i]? with
 |none=>rw[hx]at e2;cases e2
 |some y=>
  rw[hx]at e2;simp only[Option.map_some,Option.some.injEq]at e2;subst e2;have:=t' i β y ag hx φ T;unfold H.toCln;split
  ·rename_i sz xs;have:=Mf (x:=.ai sz xs true) rfl this;simpa only[dD]using this
  ·exact this
theorem Sx{F:List Nat}:∀(bl:List gd),bl.flatMap lh=F→F.Nodup→∀(i j:Nat) (β y5:gd) (b:Nat),bl[i]?=some β→bl[j]?=some y5→b∈lh β→b∈lh y5→i=j:=by
 intro bl
 induction bl generalizing F with
 |nil=>intro _ _ i j β y5 b e;simp at e
 |cons x xs dr=>
  intro e hn i j β y5 b ag e2 h1 h2;subst e;rw[List.flatMap_cons,List.nodup_append]at hn;have AA:∀(k:Nat) (HI:gd),xs[k]?=some HI→b∈lh HI→b∈xs.flatMap lh:=fun k HI hk hb=>List.mem_flatMap.2 ⟨HI,List.mem_of_getElem? hk,hb⟩
  cases i with
  |zero=>
   cases j with
   |zero=>rfl
   |succ j=>
    simp at ag e2;subst ag;exact absurd rfl (hn.2.2 b h1 b (AA j y5 e2 h2))
  |succ i=>
   cases j with
   |zero=>
    simp at ag e2;subst e2;exact absurd rfl (hn.2.2 b h2 b (AA i β ag h1))
   |succ j=>
    simp at ag e2;rw[dr rfl hn.2.1 i j β y5 b ag e2 h1 h2]
theorem Sy{F:List Nat}:∀(bl:List gd),bl.flatMap lh=F→F.Nodup→∀β∈bl,(lh β).Nodup:=by
 intro bl
 induction bl generalizing F with
 |nil=>simp
 |cons x xs dr=>
  intro e hn β hb;subst e;rw[List.flatMap_cons,List.nodup_append]at hn;rcases List.mem_cons.1 hb with rfl|hb
  ·exact hn.1
  ·exact dr rfl hn.2.1 β hb
section
variable {B:Nat→Prop} {w0:World} {aJ:Nat→Prop} {φ:ca} {kp:List (V×Value)} {a:Act} {w:World} {σ:St}
theorem Mg(r:R B w0 aJ φ σ kp a w){n:Nat}{bl:List gd}{hs:List H}{F:List Nat}{w':World}(hn:∀i,n≤i→i<n+hs.length→¬aJ i)
  (hb:Bel (fun b=>w.heap.size≤b) w w') (hl:bl.length=hs.length∧bl.flatMap lh=F∧(∀(i:Nat) (β:gd) (x:H),bl[i]?=some β→hs[i]?=some x→∀φ T,dD φ T w'.heap β x)) (hnd:F.Nodup) (hnew:∀b∈F,w.heap.size≤b) :
  ∃cv,py cv n bl∧R B w0 (fun i=>aJ i∨(n≤i∧i<n+hs.length)) cv ⟨σ.tmps,Gv.hnew σ.heap n hs⟩ kp a w':=by
 obtain⟨fR,gw,t'⟩:=hl;have y6:∀i,n≤i→i<n+hs.length→φ i=none:=fun i h1 h2=>by
  cases h:φ i with
  |none=>rfl
  |some β=>exact absurd (r.fl i β h) (hn i h1 h2)
 let cv:ca:=fun i=>if n≤i∧i<n+hs.length then bl[i-n]? else φ i
 have hin:∀i,n≤i∧i<n+hs.length→cv i=bl[i-n]?:=fun i h=>if_pos h;have mD:∀i,¬(n≤i∧i<n+hs.length)→cv i=φ i:=fun i h=>if_neg h;have aaQ:∀i,n≤i∧i<n+hs.length→∃x,hs[i-n]?=some x∧aG (Gv.hnew σ.heap n hs) i=x:=by
  intro i h;have hlt:i-n<hs.length:=by omega
  refine⟨hs[i-n],List.getElem?_eq_getElem hlt,?_⟩;rw[As,if_pos h,List.getD_eq_getElem?_getD,List.getElem?_eq_getElem hlt];rfl
 have HJ:∀i,¬(n≤i∧i<n+hs.length)→aG (Gv.hnew σ.heap n hs) i=aG σ.heap i:=fun i h=>by rw[As,if_neg h]
 have fH:∀i,n≤i∧i<n+hs.length→∀b,cJ cv (Gv.hnew σ.heap n hs) i b→∃β,bl[i-n]?=some β∧b∈lh β:=by
  rintro i h b ⟨β,ag,e2⟩;rw[hin i h]at ag;refine⟨β,ag,?_⟩;unfold lh;rcases e2 with ⟨_,e2⟩|⟨_,e2⟩
  ·simp[e2]
  ·simp[e2]
 have Sz:∀(i:Nat) (β:gd) (b:Nat),bl[i]?=some β→b∈lh β→w.heap.size≤b:=fun i β b h1 h2=>hnew b (by rw[←gw];exact List.mem_flatMap.2 ⟨β,List.mem_of_getElem? h1,h2⟩);refine⟨cv,fun i β hi=>?_,wx r (fun i=>n≤i∧i<n+hs.length) _ cv _ w' (fun i hi=>⟨HJ i hi,mD i hi⟩) (fun i β hi=>?_) hb.size (fun b dM _=>hb.block b (by omega)) (fun i hi b ax=>?_) (fun i hi a1 h1 b h2=>?_)
  (fun i j b hi ak h1 h2=>?_) (fun i β hi h1 _=>?_) (fun i hi=>?_) (fun i β hi=>?_) (r.fm.trans (hb.mono fun k hk=>r.bs k hk))⟩
 ·have hlt:i<bl.length:=by
   rcases Nat.lt_or_ge i bl.length with h|h
   ·exact h
   ·rw[List.getElem?_eq_none h]at hi;cases hi
  rw[hin (n+i) ⟨by omega,by omega⟩,Nat.add_sub_cancel_left];exact hi
 ·by_cases h:n≤i∧i<n+hs.length
  ·rw[y6 i h.1 h.2]at hi;cases hi
  ·exact⟨β,by rw[mD i h];exact hi,rfl,rfl,rfl,rfl⟩
 ·obtain⟨β,ag,e2⟩:=fH i hi b ax;exact .inl (Sz _ β b ag e2)
 ·rw[hin i hi]at h1;refine .inl (Sz _ a1 b h1 ?_);unfold lh;rcases h2 with ⟨_,h2⟩|⟨_,h2⟩<;>simp[h2]
 ·obtain⟨β,ag,e2⟩:=fH i hi b h1;obtain⟨y5,dw,fs⟩:=fH j ak b h2;have:=Sx bl gw hnd _ _ β y5 b ag dw e2 fs;omega
 ·rw[hin i hi]at h1;have:=Sy bl gw hnd β (List.mem_of_getElem? h1);unfold lh at this;rw[List.nodup_append]at this;refine⟨this.2.1,fun b dM j3=>this.2.2 b (by simp[dM]) b j3 rfl⟩
 ·right;obtain⟨x,h1,h2⟩:=aaQ i hi;have hlt:i-n<bl.length:=by omega
  refine⟨bl[i-n],by rw[hin i hi];exact List.getElem?_eq_getElem hlt,?_⟩;rw[h2];exact t' _ _ _ (List.getElem?_eq_getElem hlt) h1 _ _
 ·by_cases h:n≤i∧i<n+hs.length
  ·exact .inr h
  ·rw[mD i h]at hi;exact .inl (r.fl i β hi)
end
variable {P:Program} {o:Oper} {g:Bool} {σ:St} {n:Nat} {K:dS→Prop}
theorem Mh{c:Call}{f:FuncId}{xs:Array Operand}{ts:Array TypeId}(ax:o.op=.call c){x:Operand}(hc:c={callee:=.value x,args:=xs,argTypes:=ts})(hf:∀{σ':St} {B:Nat→Prop} {w0:World} {aJ:Nat→Prop} {φ:ca} {kp:List (V×Value)} {a:Act} {w:World},σ.le σ'→R B w0 aJ φ σ' kp a w→g=true→a.eval x=.func (.func f) #[] #[])
  {vs:List V} (hx:∀{σ':St} {B:Nat→Prop} {w0:World} {aJ:Nat→Prop} {φ:ca} {kp:List (V×Value)} {a:Act} {w:World},σ.le σ'→R B w0 aJ φ σ' kp a w→g=true→VRels φ (cb φ σ'.heap) w.heap vs (xs.toList.map a.eval))
  {as rs:List AD} (ah:toADs σ.heap vs=some as) (Mi:PureCall P f as rs) (bF:K ⟨mC rs n,aHs rs,[]⟩):∃r,gb P o g σ n r∧K r:=by
 subst hc;refine⟨_,?_,bF⟩;intro σ' hle _ B w0 aJ φ kp a w jh aI hg mB nS hk;have hv:=hx hle aI hg;obtain⟨F,aZ⟩:=HG hle aI vs as _ ah hv;have hcall:=Mi w _ F aI.Mj aZ;unfold Oper.wp;have ey:(execOp a.eval o).run P w=(callFunc f (xs.map a.eval)).run P w:=by
  unfold execOp;rw[ax];have Mk:=hf hle aI hg;simp[resolve,Mk,Deferred.ofValue,invoke]
 rw[ey];have lA:(xs.toList.map a.eval).toArray=xs.map a.eval:=by rw[←Array.toList_map,Array.toArray_toList]
 rw[lA]at hcall;have bd:∀v w',(∃F',Bel (fun b=>w.heap.size≤b) w w'∧trep w'.heap true rs v F'∧F'.Nodup∧∀b∈F',w.heap.size≤b)→mB (a.put o.dst v) w':=by
  rintro v w' ⟨F',ag,e2,aY,bk⟩;obtain⟨bl,fR,gw⟩:=Me e2;obtain⟨cv,hA,dX⟩:=Mg aI jh ag ⟨fR.1,fR.2.1,fR.2.2.1⟩ aY bk;exact hk v w' cv (l8 dX o.dst (gw cv n _ hA))
 unfold Does at hcall;split at hcall
 ·rename_i h1;rw[h1,Oper.upon_enter];refine Calls.mono hcall fun e w' he=>?_
  cases e with
  |returned v=>exact bd v w' he
  |panicked c=>exact he.elim
  |outgrown=>exact he.elim
 ·rename_i h1;rw[h1,Oper.upon_value];exact bd _ _ hcall
 ·rename_i h1;rw[h1,Oper.upon_row];exact Rows.mono hcall bd
 ·exact hcall.elim
theorem HK{c:Call}{f:FuncId}{xs:Array Operand}{ts:Array TypeId}(ax:o.op=.call c){x:Operand}(hc:c={callee:=.value x,args:=xs,argTypes:=ts})(hf:∀{σ':St} {B:Nat→Prop} {w0:World} {aJ:Nat→Prop} {φ:ca} {kp:List (V×Value)} {a:Act} {w:World},σ.le σ'→R B w0 aJ φ σ' kp a w→g=true→a.eval x=.func (.func f) #[] #[])
  {vs:List V} (hx:∀{σ':St} {B:Nat→Prop} {w0:World} {aJ:Nat→Prop} {φ:ca} {kp:List (V×Value)} {a:Act} {w:World},σ.le σ'→R B w0 aJ φ σ' kp a w→g=true→VRels φ (cb φ σ'.heap) w.heap vs (xs.toList.map a.eval))
  {as rs:List AD} (ah:toADs σ.heap vs=some as) (Mi:PureCall P f as rs) (bF:K ⟨mC rs n,(aHs rs).map H.toCln,[]⟩):∃r,gb P o g σ n r∧K r:=by
 subst hc;refine⟨_,?_,bF⟩;intro σ' hle _ B w0 aJ φ kp a w jh aI hg mB nS hk;have hv:=hx hle aI hg;obtain⟨F,aZ⟩:=HG hle aI vs as _ ah hv;have hcall:=Mi w _ F aI.Mj aZ;unfold Oper.wp;have ey:(execOp a.eval o).run P w=(callFunc f (xs.map a.eval)).run P w:=by
  unfold execOp;rw[ax];have Mk:=hf hle aI hg;simp[resolve,Mk,Deferred.ofValue,invoke]
 rw[ey];have lA:(xs.toList.map a.eval).toArray=xs.map a.eval:=by rw[←Array.toList_map,Array.toArray_toList]
 rw[lA]at hcall;have bd:∀v w',(∃F',Bel (fun b=>w.heap.size≤b) w w'∧trep w'.heap true rs v F'∧F'.Nodup∧∀b∈F',w.heap.size≤b)→mB (a.put o.dst v) w':=by
  rintro v w' ⟨F',ag,e2,aY,bk⟩;obtain⟨bl,fR,gw⟩:=Me e2;obtain⟨cv,hA,dX⟩:=Mg aI jh ag fR.af aY bk;exact hk v w' cv (l8 dX o.dst (gw cv n _ hA))
 unfold Does at hcall;split at hcall
 ·rename_i h1;rw[h1,Oper.upon_enter];refine Calls.mono hcall fun e w' he=>?_
  cases e with
  |returned v=>exact bd v w' he
  |panicked c=>exact he.elim
  |outgrown=>exact he.elim
 ·rename_i h1;rw[h1,Oper.upon_value];exact bd _ _ hcall
 ·rename_i h1;rw[h1,Oper.upon_row];exact Rows.mono hcall bd
 ·exact hcall.elim
def toX(hs:List H)(v:V):Option (D×List Nat):=
 match v with
 |.sl id off len=>match aG hs id with|.af sz xs=>if off+len≤xs.length then some (.sl sz ((xs.drop off).take len),[id])else none|_=>toD hs (.sl id off len)
 |v=>toD hs v
def toXs(hs:List H):List V→Option (List D×List Nat)
 |[]=>some ([],[])
 |v::vs=>match toX hs v,toXs hs vs with|some (d,i),some (ds,is)=>some (d::ds,i++is)|_,_=>none
section
variable {B:Nat→Prop} {w0:World} {aJ:Nat→Prop} {φ:ca} {kp:List (V×Value)} {a:Act} {w:World} {σ:St}
theorem SA(r:R B w0 aJ φ σ kp a w){v:V}{d:D}{bW:List Nat}(h:toX σ.heap v=some (d,bW)){u:Value}(eZ:VRel φ (cb φ σ.heap) w.heap v u) :
  ∃F,rep w.heap true d u F∧F.Nodup∧(∀b∈F,∃id∈bW,cJ φ σ.heap id b)∧∀id∈bW,(aG σ.heap id).own=true:=by
 unfold toX at h;split at h
 ·rename_i id off len;split at h
  ·rename_i sz xs hx;split at h
   ·rename_i hl;simp only[Option.some.injEq,Prod.mk.injEq]at h;obtain⟨rfl,rfl⟩:=h;obtain⟨F,dw,fs,f3⟩:=Mc r (id:=id) (by rw[hx];rfl) hl eZ;refine⟨F,dw,fs,fun b hb=>⟨id,by simp,f3 b hb⟩,fun i hi=>?_⟩;simp only[List.mem_singleton]at hi;subst hi;rw[hx];rfl
   ·cases h
  ·obtain⟨F,dw,fs,f3,f4⟩:=Ml r h eZ;exact⟨F,dw,fs,f3,fun i hi=>by obtain⟨s,ys,e⟩:=f4 i hi;rw[e];rfl⟩
 ·obtain⟨F,dw,fs,f3,f4⟩:=Ml r h eZ;exact⟨F,dw,fs,f3,fun i hi=>by obtain⟨s,ys,e⟩:=f4 i hi;rw[e];rfl⟩
theorem SB(r:R B w0 aJ φ σ kp a w):∀(vs:List V) (ds:List D) (bW:List Nat) (us:List Value),toXs σ.heap vs=some (ds,bW)→bW.Nodup→VRels φ (cb φ σ.heap) w.heap vs us→
  ∃G,reps w.heap true ds us G∧G.Nodup∧(∀b∈G,∃id∈bW,cJ φ σ.heap id b)
 |[],ds,bW,us,e,_,ck=>by
  simp only[toXs,Option.some.injEq,Prod.mk.injEq]at e;obtain⟨rfl,rfl⟩:=e;simp only[VRels]at ck;subst ck;exact⟨[],by simp[reps],List.nodup_nil,by simp⟩
 |v::vs,ds,bW,us,e,hnd,ck=>by
  simp only[VRels]at ck;obtain⟨u,us',rfl,El,Em⟩:=ck;simp only[toXs]at e;split at e
  ·rename_i d i oG is ag e2;simp only[Option.some.injEq,Prod.mk.injEq]at e;obtain⟨rfl,rfl⟩:=e;rw[List.nodup_append]at hnd;obtain⟨F,dw,fs,f3,f4⟩:=SA r ag El;obtain⟨G,g1,cx,g3⟩:=SB r vs oG is us' e2 hnd.2.1 Em;refine⟨F++G,?_,?_,?_⟩
   ·simp only[reps];exact⟨u,us',F,G,rfl,rfl,dw,g1⟩
   ·rw[List.nodup_append];refine⟨fs,cx,fun x hx y hy mz=>?_⟩;subst mz;obtain⟨p,c5,cS⟩:=f3 x hx;obtain⟨q,cH,bg⟩:=g3 x hy;have:=r.dy p q x cS bg;exact hnd.2.2 p c5 q cH this
   ·intro b hb;rcases List.mem_append.1 hb with hb|hb
    ·obtain⟨p,c5,cS⟩:=f3 b hb;exact⟨p,by simp[c5],cS⟩
    ·obtain⟨p,c5,cS⟩:=g3 b hb;exact⟨p,by simp[c5],cS⟩
  ·cases e
end
def HL(hs:List H)(v:V):Option (AD×List Nat):=
 match v with
 |.agg vs=>(toXs hs vs).map fun(ds,bW)=>(.agg ds,bW)
 |v=>(toX hs v).map fun(d,bW)=>(.one d,bW)
def toOAs(hs:List H):List V→Option (List AD×List Nat)
 |[]=>some ([],[])
 |v::vs=>match HL hs v,toOAs hs vs with|some (d,i),some (ds,is)=>some (d::ds,i++is)|_,_=>none
section
variable {B:Nat→Prop} {w0:World} {aJ:Nat→Prop} {φ:ca} {kp:List (V×Value)} {a:Act} {w:World} {σ:St}
theorem aaR(r:R B w0 aJ φ σ kp a w){v:V}{d:AD}{bW:List Nat}(h:HL σ.heap v=some (d,bW))(hn:bW.Nodup){u:Value}(eZ:VRel φ (cb φ σ.heap) w.heap v u) :
  ∃F,arep w.heap true d u F∧F.Nodup∧∀b∈F,∃id∈bW,cJ φ σ.heap id b:=by
 unfold HL at h;split at h
 ·rename_i vs
  cases hd:toXs σ.heap vs with
  |none=>rw[hd]at h;cases h
  |some p=>
   obtain⟨ds,is⟩:=p;rw[hd]at h;simp only[Option.map_some,Option.some.injEq,Prod.mk.injEq]at h;obtain⟨rfl,rfl⟩:=h;obtain⟨us,rfl,aK⟩:=Eh eZ;obtain⟨G,g1,cx,g3⟩:=SB r vs ds is _ hd hn aK;exact⟨G,⟨us,rfl,g1⟩,cx,g3⟩
 ·cases hd:toX σ.heap v with
  |none=>rw[hd]at h;cases h
  |some p=>
   obtain⟨ds,is⟩:=p;rw[hd]at h;simp only[Option.map_some,Option.some.injEq,Prod.mk.injEq]at h;obtain⟨rfl,rfl⟩:=h;obtain⟨G,g1,cx,g3,_⟩:=SA r hd eZ;exact⟨G,g1,cx,g3⟩
theorem SC(r:R B w0 aJ φ σ kp a w):∀(vs:List V) (ds:List AD) (bW:List Nat) (us:List Value),toOAs σ.heap vs=some (ds,bW)→bW.Nodup→VRels φ (cb φ σ.heap) w.heap vs us→
  ∃F,areps w.heap true ds us F∧F.Nodup∧∀b∈F,∃id∈bW,cJ φ σ.heap id b
 |[],ds,bW,us,e,_,ck=>by
  simp only[toOAs,Option.some.injEq,Prod.mk.injEq]at e;obtain⟨rfl,rfl⟩:=e;simp only[VRels]at ck;subst ck;exact⟨[],⟨rfl,rfl⟩,List.nodup_nil,by simp⟩
 |v::vs,ds,bW,us,e,hnd,ck=>by
  simp only[VRels]at ck;obtain⟨u,us',rfl,El,Em⟩:=ck;simp only[toOAs]at e;split at e
  ·rename_i d i oG is ag e2;simp only[Option.some.injEq,Prod.mk.injEq]at e;obtain⟨rfl,rfl⟩:=e;rw[List.nodup_append]at hnd;obtain⟨F,dw,fs,f3⟩:=aaR r ag hnd.1 El;obtain⟨G,g1,cx,g3⟩:=SC r vs oG is us' e2 hnd.2.1 Em;refine⟨F++G,⟨u,us',F,G,rfl,rfl,dw,g1⟩,?_,?_⟩
   ·rw[List.nodup_append];refine⟨fs,cx,fun x hx y hy mz=>?_⟩;subst mz;obtain⟨p,c5,cS⟩:=f3 x hx;obtain⟨q,cH,bg⟩:=g3 x hy;exact hnd.2.2 p c5 q cH (r.dy p q x cS bg)
   ·intro b hb;rcases List.mem_append.1 hb with hb|hb
    ·obtain⟨p,c5,cS⟩:=f3 b hb;exact⟨p,by simp[c5],cS⟩
    ·obtain⟨p,c5,cS⟩:=g3 b hb;exact⟨p,by simp[c5],cS⟩
  ·cases e
end
structure En where
 q:Nat×H
 β:gd
 F:List Nat
 F':List Nat
structure aaS(σ':St)(φ:ca)(h':Array Obj)(it:En):Prop where
 akB:∀b∈it.F,cJ φ σ'.heap it.q.1 b
 ui:∃β,φ it.q.1=some β∧it.β.dJ=β.dJ∧it.β.off=β.off∧it.β.cap=β.cap∧it.β.sz=β.sz
 hr:∀φ T,dD φ T h' it.β it.q.2
 akC:(it.F=[]∧it.F'=[]∧it.β.cN=[])∨∃b G,it.β.dJ=some b∧it.F=b::G∧it.F'=b::it.β.cN
 my:(aG σ'.heap it.q.1).my=true
 kind:(it.q.2.shut=false∧it.β.cN=[]∧∀β,φ it.q.1=some β→β.cN=[])∨(aG σ'.heap it.q.1).shut=true
section
variable {B:Nat→Prop} {w0:World} {aJ:Nat→Prop} {φ:ca} {kp:List (V×Value)} {a:Act} {w:World} {σ σ':St}
def Ch(σ':St)(φ:ca)(h':Array Obj)(upd:List (Nat×H))(F F':List Nat):Prop:=
 ∃its:List En,its.map En.q=upd∧its.flatMap En.F=F∧its.flatMap En.F'=F'∧∀it∈its,aaS σ' φ h' it
theorem Ch.nil:Ch σ' φ w.heap [] [] []:=⟨[],rfl,rfl,rfl,by simp⟩
theorem Ch.append{h':Array Obj}{eM u2:List (Nat×H)}{F1 F2 SD SE:List Nat}(h1:Ch σ' φ h' eM F1 SD)(h2:Ch σ' φ h' u2 F2 SE):Ch σ' φ h' (eM++u2) (F1++F2) (SD++SE):=by
 obtain⟨eo,bD,bR,a3,a4⟩:=h1;obtain⟨dk,dx,dt,dq,oA⟩:=h2;refine⟨eo++dk,by rw[List.map_append,bD,dx],by rw[List.flatMap_append,bR,dt],by rw[List.flatMap_append,a3,dq],fun it Eo=>?_⟩;rcases List.mem_append.1 Eo with Eo|Eo
 ·exact a4 it Eo
 ·exact oA it Eo
end
variable {P:Program} {o:Oper} {g:Bool} {σ:St} {n:Nat} {K:dS→Prop}
section
variable {B:Nat→Prop} {w0:World} {aJ:Nat→Prop} {φ:ca} {kp:List (V×Value)} {a:Act} {w:World} {σ:St}
end
section
variable {P:Program} {o:Oper} {g:Bool} {σ:St} {n:Nat} {K:dS→Prop}
end
end Gv
