/-
  Part of the proof: the machine, what functions compute, and the plain laws.
-/
import Derived.Calls
import Derived.Orders
import Derived.Below
import Derived.Laws.Cells
import Derived.Laws.CopyRow
import Derived.Laws.Strings
import Derived.DeepKeys
import Derived.Laws.StructEq
import Derived.Laws.BytesString
import Derived.Great.BuildSlice
import Derived.Maps.AppendAt
import Derived.Laws.MakeOwn
import Derived.Deep.AppendSrc
import Derived.Deep.LoopGhost
set_option maxHeartbeats 80000000
set_option maxRecDepth 100000
namespace Gv
open Go
theorem ω{p:Prop}(h:p:=by omega):p:=h
theorem ξ{p:Prop}(h:p:=by simp):p:=h
theorem ζ{p:Prop}(h:p:=by decide):p:=h
theorem ψ{p:Prop}(h:p:=by rfl):p:=h
theorem I{α:Type _}{β:Type _}{xs:List α}(f:α→β):(List.map f xs).length=xs.length:=List.length_map f
theorem aE(n:Nat):((n:Int)).toNat=n:=Int.toNat_natCast n
theorem cD{α:Type _}{l:List α}{i:Nat}(h:i<l.length):l[i]?=some l[i]:=List.getElem?_eq_getElem h
theorem bm{p:Prop}[Decidable p](h:¬p):decide p=false:=decide_eq_false h
theorem bC{p:Prop}[Decidable p](h:p):decide p=true:=decide_eq_true h
theorem cQ{p:Prop}[Decidable p](h:decide p=true):p:=of_decide_eq_true h
theorem c2{p:Prop}[Decidable p](h:decide p=false):¬p:=of_decide_eq_false h
theorem bz{α:Type _}{a:α}{xs ys:List α}:(a::xs)++ys=a::(xs++ys):=List.cons_append
theorem bx{α:Type _}(xs:List α):[]++xs=xs:=List.nil_append xs
theorem d3{α:Type _}{l:List α}:l.take l.length=l:=List.take_length
theorem bd{α:Type _}{a b:α}(h:some a=some b):a=b:=Option.some.inj h
theorem b4{α:Type _}(a b:α):(some a=some b)=(a=b):=Option.some.injEq a b
theorem bW(a b:Bool):((a&&b)=true)=(a=true∧b=true):=Bool.and_eq_true a b
theorem b8{p:Prop}[Decidable p]:(decide p=true)=p:=decide_eq_true_eq
theorem eG{p:Prop}{_:Decidable p}:decide p=false↔¬p:=decide_eq_false_iff_not
theorem e0{α:Type _}{x:α}{xs:List α}{d:α}:(x::xs).getD 0 d=x:=List.getD_cons_zero
theorem e3{α:Type _}{x:α}{xs:List α}{n:Nat}{d:α}:(x::xs).getD (n+1) d=xs.getD n d:=List.getD_cons_succ
theorem dL{α:Type _}{β:Type _}(a:α)(b:β)(c:α)(d:β):((a,b)=(c,d))=(a=c∧b=d):=Prod.mk.injEq a b c d
theorem dA{α:Type _}{a:α}{l:List α}:(a::l).length=l.length+1:=List.length_cons
theorem eS{α:Type _}{l:List α}{n:Nat}(h:n<l.length):l[n]∈l:=List.getElem_mem h
theorem fi{α:Type _}{a:α}{s t:List α}:a∈s++t↔a∈s∨a∈t:=List.mem_append
theorem dY{α:Type _}{as bs:List α}:(as++bs).length=as.length+bs.length:=List.length_append
theorem eI{α:Type _}:([]:List α).length=0:=List.length_nil
theorem cR:(!false)=true:=Bool.not_false
theorem bN:(!true)=false:=Bool.not_true
theorem e7{α:Type _}{i:Nat}{l:List α}(h:l.length≤i):l.take i=l:=List.take_of_length_le h
theorem eW{α:Type _}{a:α}{l:List α}:(a::l)[0]?=some a:=List.getElem?_cons_zero
theorem fm{α:Type _}{a:α}{i:Nat}{l:List α}:(a::l)[i+1]?=l[i]?:=List.getElem?_cons_succ
theorem j3{α:Type _}{l:List α}{i:Nat}{a:α}:l.getD i a=l[i]?.getD a:=List.getD_eq_getElem?_getD
theorem gV{α:Type _}{l:List α}{i:Nat}:l.take (i+1)=l.take i++l[i]?.toList:=List.take_add_one
theorem kt{a:Int}(h:0≤a):∃n:Nat,a=n:=Int.eq_ofNat_of_zero_le h
theorem fh{α:Type _}{a b:α}:(some a).getD b=a:=rfl
theorem c_{α:Type _}{a b:α}:cond true a b=a:=rfl
theorem dK{α:Type _}{a b:α}:cond false a b=b:=rfl
theorem eT{α:Type _}{β:Type _}{f:α→β}{a:α}{l:List α}:(a::l).map f=f a::l.map f:=rfl
theorem eQ(h:Decidable False):@decide False h=false:=decide_false h
theorem eJ(h:Decidable True):@decide True h=true:=decide_true h
theorem gm{α:Type _}(as:List α):as++[]=as:=List.append_nil as
theorem el:(0:Int).toNat=0:=rfl
theorem fE(n:Nat):n≤n:=Nat.le_refl n
theorem fJ{a b c:Prop}:(a∧b)∧c↔a∧(b∧c):=and_assoc
inductive D where
 |int (k:IntKind) (n:Int)
 |bool (b:Bool)
 |str (s:List UInt8)
 |sl (sz:Nat) (xs:List (List D))
  /-- a ao9 value, apa it gl -/
 |Ae (u:Value)
def cellAt(h:Array Obj)(b o:Nat):Option Value:=
 match h[b]? with
 |some (.cells c _ _)=>c[o]?
 |_=>none
theorem cell_eq(w:World)(b o:Nat):w.cell? ⟨b,o,none⟩=cellAt w.heap b o:=by
 unfold World.cell? cellAt
 cases w.heap[b]? with
 |none=>rfl
 |some x=>cases x<;>rfl
theorem VK{h h':Array Obj}{b:Nat}(e:h'[b]?=h[b]?)(o:Nat):cellAt h' b o=cellAt h b o:=by
 unfold cellAt;rw[e]
def pb(h:Array Obj)(b n:Nat):Prop:=∃cs e,h[b]?=some (.cells cs e (0,0))∧n≤cs.size
mutual
def rep(h:Array Obj)(o:Bool):D→Value→List Nat→Prop
 |.int k n,v,F=>v=.int k n∧F=[]∧k.min≤n∧n≤k.max
 |.bool b,v,F=>v=.bool b∧F=[]
 |.str s,v,F=>v=.string ⟨s.toArray⟩∧F=[]∧s.length≤maxLen
 |.Ae u,v,F=>v=u∧F=[]∧u.oneCell'=true∧u.cells=#[u]
 |.sl sz xs,v,F=>∃a c,v=.slice a xs.length c∧xs.length≤c∧c≤maxLen∧
   ((xs=[]∧F=[]∧(o=true→c=0))∨
    ∃b f G,a=some ⟨b,f,none⟩∧F=b::G∧b<h.size∧repE h o b f sz xs G∧(o=true→0<c∧pb h b (f+c * sz)))
def repC(h:Array Obj)(o:Bool)(b:Nat):Nat→List D→List Nat→Prop
 |_,[],G=>G=[]
 |f,d::ds,G=>∃v cy cl,G=cy++cl∧cellAt h b f=some v∧rep h o d v cy∧repC h o b (f+1) ds cl
def repE(h:Array Obj)(o:Bool)(b:Nat):Nat→Nat→List (List D)→List Nat→Prop
 |_,_,[],G=>G=[]
 |f,sz,c::cs,G=>∃cy cl,G=cy++cl∧c.length=sz∧repC h o b f c cy∧repE h o b (f+sz) sz cs cl
end
theorem pb.mono{h h':Array Obj}{b n:Nat}(e:h'[b]?=h[b]?)(r:pb h b n):pb h' b n:=by
 obtain⟨cs,t,h1,h2⟩:=r;exact⟨cs,t,by rw[e];exact h1,h2⟩
theorem pb.lt{h:Array Obj}{b n:Nat}(r:pb h b n):b<h.size:=by
 obtain⟨cs,t,h1,_⟩:=r;rcases Nat.lt_or_ge b h.size with h'|h'
 ·exact h'
 ·rw[Array.getElem?_eq_none h']at h1;cases h1
mutual
theorem Fy{h h':Array Obj}{o:Bool}(hs:h.size≤h'.size):∀(d:D) (v:Value) (F:List Nat),(∀b∈F,h'[b]?=h[b]?)→rep h o d v F→rep h' o d v F
 |.int k n,v,F,_,r=>by simpa [rep]using r
 |.bool b,v,F,_,r=>by simpa [rep]using r
 |.str s,v,F,_,r=>by simpa [rep]using r
 |.Ae u,v,F,_,r=>by simpa [rep]using r
 |.sl sz xs,v,F,bB,r=>by
  simp only[rep]at r⊢;obtain⟨a,c,h1,h2,ao,aN⟩:=r;refine⟨a,c,h1,h2,ao,?_⟩;rcases aN with aN|⟨b,f,G,ag,ar,ba,bF,c6⟩
  ·exact .inl aN
  ·subst ar;exact .inr ⟨b,f,G,ag,rfl,by omega,zh hs xs b f sz G (bB b ξ) (fun g hg=>bB g (by simp[hg])) bF,fun aJ=>⟨(c6 aJ).1,(c6 aJ).2.mono (bB b ξ)⟩⟩
theorem JZ{h h':Array Obj}{o:Bool}(hs:h.size≤h'.size):∀(ds:List D) (b f:Nat) (G:List Nat),h'[b]?=h[b]?→(∀g∈G,h'[g]?=h[g]?)→repC h o b f ds G→repC h' o b f ds G
 |[],_,_,_,_,_,r=>by simpa [repC]using r
 |d::ds,b,f,G,hb,b7,r=>by
  simp only[repC]at r⊢;obtain⟨v,cy,cl,ag,ar,ba,bF⟩:=r;subst ag;exact⟨v,cy,cl,rfl,by rw[VK hb];exact ar,Fy hs d v cy (fun g hg=>b7 g (by simp[hg])) ba,JZ hs ds b (f+1) cl hb (fun g hg=>b7 g (by simp[hg])) bF⟩
theorem zh{h h':Array Obj}{o:Bool}(hs:h.size≤h'.size):∀(cs:List (List D)) (b f sz:Nat) (G:List Nat),h'[b]?=h[b]?→(∀g∈G,h'[g]?=h[g]?)→repE h o b f sz cs G→repE h' o b f sz cs G
 |[],_,_,_,_,_,_,r=>by simpa [repE]using r
 |c::cs,b,f,sz,G,hb,b7,r=>by
  simp only[repE]at r⊢;obtain⟨cy,cl,ag,ar,ba,bF⟩:=r;subst ag;exact⟨cy,cl,rfl,ar,JZ hs c b f cy hb (fun g hg=>b7 g (by simp[hg])) ba,zh hs cs b (f+sz) sz cl hb (fun g hg=>b7 g (by simp[hg])) bF⟩
end
mutual
theorem VL{h:Array Obj}{o:Bool}:∀(d:D) (v:Value) (F:List Nat),rep h o d v F→∀b∈F,b<h.size
 |.int k n,v,F,r=>by simp only[rep]at r;simp[r.2.1]
 |.bool b,v,F,r=>by simp only[rep]at r;simp[r.2]
 |.str s,v,F,r=>by simp only[rep]at r;simp[r.2.1]
 |.Ae u,v,F,r=>by simp only[rep]at r;simp[r.2.1]
 |.sl sz xs,v,F,r=>by
  simp only[rep]at r;obtain⟨a,c,h1,h2,ao,aN⟩:=r;rcases aN with aN|⟨b,f,G,ag,ar,ba,bF,c6⟩
  ·simp[aN.2.1]
  ·subst ar;intro g hg;rcases List.mem_cons.1 hg with rfl|hg
   ·exact ba
   ·exact AR xs b f sz G bF g hg
theorem Oz{h:Array Obj}{o:Bool}:∀(ds:List D) (b f:Nat) (G:List Nat),repC h o b f ds G→∀g∈G,g<h.size
 |[],_,_,_,r=>by simp only[repC]at r;simp[r]
 |d::ds,b,f,G,r=>by
  simp only[repC]at r;obtain⟨v,cy,cl,ag,ar,ba,bF⟩:=r;subst ag;intro g hg;rcases fi.1 hg with hg|hg
  ·exact VL d v cy ba g hg
  ·exact Oz ds b (f+1) cl bF g hg
theorem AR{h:Array Obj}{o:Bool}:∀(cs:List (List D)) (b f sz:Nat) (G:List Nat),repE h o b f sz cs G→∀g∈G,g<h.size
 |[],_,_,_,_,r=>by simp only[repE]at r;simp[r]
 |c::cs,b,f,sz,G,r=>by
  simp only[repE]at r;obtain⟨cy,cl,ag,ar,ba,bF⟩:=r;subst ag;intro g hg;rcases fi.1 hg with hg|hg
  ·exact Oz c b f cy ba g hg
  ·exact AR cs b (f+sz) sz cl bF g hg
end
mutual
theorem Ve{h:Array Obj}:∀(d:D) (v:Value) (F:List Nat),rep h true d v F→rep h false d v F
 |.int k n,v,F,r=>by simpa [rep]using r
 |.bool b,v,F,r=>by simpa [rep]using r
 |.str s,v,F,r=>by simpa [rep]using r
 |.Ae u,v,F,r=>by simpa [rep]using r
 |.sl sz xs,v,F,r=>by
  simp only[rep]at r⊢;obtain⟨a,c,h1,h2,ao,aN⟩:=r;refine⟨a,c,h1,h2,ao,?_⟩;rcases aN with aN|⟨b,f,G,ag,ar,ba,bF,c6⟩
  ·exact .inl ⟨aN.1,aN.2.1,fun e=>by cases e⟩
  ·exact .inr ⟨b,f,G,ag,ar,ba,GA xs b f sz G bF,fun e=>by cases e⟩
theorem OA{h:Array Obj}:∀(ds:List D) (b f:Nat) (G:List Nat),repC h true b f ds G→repC h false b f ds G
 |[],_,_,_,r=>by simpa [repC]using r
 |d::ds,b,f,G,r=>by
  simp only[repC]at r⊢;obtain⟨v,cy,cl,ag,ar,ba,bF⟩:=r;exact⟨v,cy,cl,ag,ar,Ve d v cy ba,OA ds b (f+1) cl bF⟩
theorem GA{h:Array Obj}:∀(cs:List (List D)) (b f sz:Nat) (G:List Nat),repE h true b f sz cs G→repE h false b f sz cs G
 |[],_,_,_,_,r=>by simpa [repE]using r
 |c::cs,b,f,sz,G,r=>by
  simp only[repE]at r⊢;obtain⟨cy,cl,ag,ar,ba,bF⟩:=r;exact⟨cy,cl,ag,ar,OA c b f cy ba,GA cs b (f+sz) sz cl bF⟩
end
theorem Cf{h:Array Obj}{o:Bool}{b:Nat}:∀(ds D':List D) (f:Nat) (G:List Nat),repC h o b f (ds++D') G↔∃cy cl,G=cy++cl∧repC h o b f ds cy∧repC h o b (f+ds.length) D' cl
 |[],D',f,G=>by
  simp only[bx,repC,eI,Nat.add_zero];exact⟨fun r=>⟨[],G,rfl,rfl,r⟩,fun⟨cy,cl,e,ag,r⟩=>by subst ag;rw[e];exact r⟩
 |d::ds,D',f,G=>by
  simp only[bz,repC,dA];constructor
  ·rintro⟨v,cy,cl,rfl,ar,ba,bF⟩;obtain⟨vK,vL,rfl,k1,k2⟩:=(Cf ds D' (f+1) cl).1 bF;exact⟨cy++vK,vL,by simp,⟨v,cy,vK,rfl,ar,ba,k1⟩,by rw[show f+(ds.length+1)=f+1+ds.length from by omega];exact k2⟩
  ·rintro⟨cy,cl,rfl,⟨v,vK,vL,rfl,ar,ba,bF⟩,k⟩;refine⟨v,vK,vL++cl,by simp,ar,ba,(Cf ds D' (f+1) _).2 ⟨vL,cl,rfl,bF,?_⟩⟩;rw[show f+1+ds.length=f+(ds.length+1)from by omega];exact k
theorem repE_append{h:Array Obj}{o:Bool}{b sz:Nat}:∀(cs ds:List (List D)) (f:Nat) (G:List Nat),repE h o b f sz (cs++ds) G↔∃cy cl,G=cy++cl∧repE h o b f sz cs cy∧repE h o b (f+cs.length * sz) sz ds cl
 |[],ds,f,G=>by
  simp only[bx,repE,eI,Nat.zero_mul,Nat.add_zero];exact⟨fun r=>⟨[],G,rfl,rfl,r⟩,fun⟨cy,cl,e,ag,r⟩=>by subst ag;rw[e];exact r⟩
 |c::cs,ds,f,G=>by
  simp only[bz,repE,dA];have hf:f+sz+cs.length * sz=f+(cs.length+1) * sz:=by rw[Nat.add_mul];omega
  constructor
  ·rintro⟨cy,cl,rfl,ar,ba,bF⟩;obtain⟨vK,vL,rfl,k1,k2⟩:=(repE_append cs ds (f+sz) cl).1 bF;exact⟨cy++vK,vL,by simp,⟨cy,vK,rfl,ar,ba,k1⟩,by rw[←hf];exact k2⟩
  ·rintro⟨cy,cl,rfl,⟨vK,vL,rfl,ar,ba,bF⟩,k⟩;exact⟨vK,vL++cl,by simp,ar,ba,(repE_append cs ds (f+sz) _).2 ⟨vL,cl,rfl,bF,by rw[hf];exact k⟩⟩
theorem Gu{h:Array Obj}{o:Bool}{b sz:Nat}{cs:List (List D)}{f:Nat}{G:List Nat}(r:repE h o b f sz cs G){i:Nat}{c:List D}(hi:cs[i]?=some c) :
  ∃cy pd cl,G=cy++(pd++cl)∧c.length=sz∧repE h o b f sz (cs.take i) cy∧repC h o b (f+i * sz) c pd∧repE h o b (f+(i+1) * sz) sz (cs.drop (i+1)) cl:=by
 have hlt:i<cs.length:=(List.getElem?_eq_some_iff.1 hi).1;have hc:cs[i]=c:=(List.getElem?_eq_some_iff.1 hi).2;have e:cs=cs.take i++(c::cs.drop (i+1)):=by
  rw[←hc,List.getElem_cons_drop,List.take_append_drop]
 rw[e]at r;obtain⟨cy,cl,rfl,aY,bn⟩:=(repE_append _ _ _ _).1 r;simp only[repE]at bn;obtain⟨vK,vL,rfl,ar,ba,bF⟩:=bn;have hl:(cs.take i).length=i:=by simp;omega
 rw[hl]at ba bF;refine⟨cy,vK,vL,rfl,ar,aY,ba,?_⟩;rw[Nat.add_mul,Nat.one_mul,←Nat.add_assoc];exact bF
theorem U1{h:Array Obj}{o:Bool}{b:Nat}:∀(ds:List D) (f:Nat) (G:List Nat),repC h o b f ds G→∃us:List Value,us.length=ds.length∧(∀(j:Nat) (u:Value),us[j]?=some u→cellAt h b (f+j)=some u)∧
  (∀(j:Nat) (d:D) (u:Value),ds[j]?=some d→us[j]?=some u→∃Gc,(∀g∈Gc,g∈G)∧rep h o d u Gc)
 |[],f,G,r=>⟨[],rfl,by simp,by simp⟩
 |d::ds,f,G,r=>by
  simp only[repC]at r;obtain⟨v,cy,cl,rfl,ar,ba,bF⟩:=r;obtain⟨us,h1,h2,ao⟩:=U1 ds (f+1) cl bF;refine⟨v::us,by simp[h1],?_,?_⟩
  ·intro j u aK
   cases j with
   |zero=>simp at aK;subst aK;simpa using ar
   |succ j=>
    have:=h2 j u (by simpa using aK);rw[show f+(j+1)=f+1+j from by omega];exact this
  ·intro j afc u hd hu
   cases j with
   |zero=>simp at hd hu;subst hd;subst hu;exact⟨cy,fun g hg=>by simp[hg],ba⟩
   |succ j=>
    obtain⟨Gc,k1,k2⟩:=ao j afc u (by simpa using hd) (by simpa using hu);exact⟨Gc,fun g hg=>by simp[k1 g hg],k2⟩
theorem U2{h:Array Obj}{o:Bool}{d:D}{v:Value}{F:List Nat}(r:rep h o d v F):v.oneCell'=true:=by
 cases d<;>simp only[rep]at r
 ·rw[r.1];rfl
 ·rw[r.1];rfl
 ·rw[r.1];rfl
 ·obtain⟨a,c,h1,_⟩:=r;rw[h1];rfl
 ·rw[r.1];exact r.2.2.1
def D.flat:D→Bool
 |.sl _ _=>false
 |_=>true
def ig(xs:List (List D)):Bool:=xs.all fun c=>c.all D.flat
def D.plain:D→Bool
 |.sl _ _=>false
 |.Ae _=>false
 |_=>true
theorem Gl{h:Array Obj}{o:Bool}{d:D}{v:Value}{F:List Nat}(hf:d.flat=true)(r:rep h o d v F):F=[]:=by
 cases d<;>simp only[rep]at r
 ·exact r.2.1
 ·exact r.2
 ·exact r.2.1
 ·simp[D.flat]at hf
 ·exact r.2.1
theorem JP{h h':Array Obj}{o vD:Bool}{d:D}{v:Value}{F:List Nat}(hf:d.flat=true)(r:rep h o d v F):rep h' vD d v F:=by
 cases d<;>simp only[rep]at r⊢
 ·exact r
 ·exact r
 ·exact r
 ·simp[D.flat]at hf
 ·exact r
theorem OB{h:Array Obj}{o:Bool}{b:Nat}:∀(ds:List D) (f:Nat) (G:List Nat),ds.all D.flat=true→repC h o b f ds G→G=[]
 |[],_,_,_,r=>by simpa [repC]using r
 |d::ds,f,G,hf,r=>by
  simp only[repC]at r;obtain⟨v,cy,cl,rfl,ar,ba,bF⟩:=r;simp only[List.all_cons,bW]at hf;rw[Gl hf.1 ba,OB ds (f+1) cl hf.2 bF];rfl
theorem Nb{h:Array Obj}{o:Bool}{b:Nat}:∀(cs:List (List D)) (f sz:Nat) (G:List Nat),ig cs=true→repE h o b f sz cs G→G=[]
 |[],_,_,_,_,r=>by simpa [repE]using r
 |c::cs,f,sz,G,hf,r=>by
  simp only[repE]at r;obtain⟨cy,cl,rfl,ar,ba,bF⟩:=r;simp only[ig,List.all_cons,bW]at hf;rw[OB c f cy hf.1 ba,Nb cs (f+sz) sz cl hf.2 bF];rfl
theorem VM{h:Array Obj}{o:Bool}{b:Nat}:∀(ds:List D) (f:Nat) (G:List Nat),ds.all D.flat=true→repC h o b f ds G→repC h true b f ds []
 |[],_,_,_,r=>by simp[repC]
 |d::ds,f,G,hf,r=>by
  simp only[repC]at r⊢;obtain⟨v,cy,cl,rfl,ar,ba,bF⟩:=r;simp only[List.all_cons,bW]at hf;have h1:=Gl hf.1 ba;subst h1;exact⟨v,[],[],rfl,ar,JP hf.1 ba,VM ds (f+1) cl hf.2 bF⟩
theorem U5{h:Array Obj}{o:Bool}{b:Nat}:∀(cs:List (List D)) (f sz:Nat) (G:List Nat),ig cs=true→repE h o b f sz cs G→repE h true b f sz cs []
 |[],_,_,_,_,r=>by simp[repE]
 |c::cs,f,sz,G,hf,r=>by
  simp only[repE]at r⊢;obtain⟨cy,cl,rfl,ar,ba,bF⟩:=r;simp only[ig,List.all_cons,bW]at hf;exact⟨[],[],rfl,ar,VM c f cy hf.1 ba,U5 cs (f+sz) sz cl hf.2 bF⟩
theorem J0{h h':Array Obj}{o:Bool}{b ez:Nat}:∀(ds:List D) (f jm:Nat) (G:List Nat),h.size≤h'.size→(∀g∈G,h'[g]?=h[g]?)→(∀j,j<ds.length→cellAt h' ez (jm+j)=cellAt h b (f+j))→
  repC h o b f ds G→repC h' o ez jm ds G
 |[],_,_,_,_,_,_,r=>by simpa [repC]using r
 |d::ds,f,jm,G,hs,b7,hc,r=>by
  simp only[repC]at r⊢;obtain⟨v,cy,cl,rfl,ar,ba,bF⟩:=r;refine⟨v,cy,cl,rfl,?_,Fy hs d v cy (fun g hg=>b7 g (by simp[hg])) ba,J0 ds (f+1) (jm+1) cl hs (fun g hg=>b7 g (by simp[hg])) ?_ bF⟩
  ·have:=hc 0 ξ;simpa [ar]using this
  ·intro j aK;have:=hc (j+1) (by simp;omega);rw[show jm+1+j=jm+(j+1)from by omega,show f+1+j=f+(j+1)from by omega];exact this
theorem AE{h h':Array Obj}{o:Bool}{b ez:Nat}:∀(cs:List (List D)) (f jm sz:Nat) (G:List Nat),h.size≤h'.size→(∀g∈G,h'[g]?=h[g]?)→(∀j,j<cs.length * sz→cellAt h' ez (jm+j)=cellAt h b (f+j))→
  repE h o b f sz cs G→repE h' o ez jm sz cs G
 |[],_,_,_,_,_,_,_,r=>by simpa [repE]using r
 |c::cs,f,jm,sz,G,hs,b7,hc,r=>by
  simp only[repE]at r⊢;obtain⟨cy,cl,rfl,ar,ba,bF⟩:=r;have hm:(c::cs).length * sz=sz+cs.length * sz:=by rw[dA,Nat.add_mul];omega
  refine⟨cy,cl,rfl,ar,J0 c f jm cy hs (fun g hg=>b7 g (by simp[hg])) (fun j aK=>hc j ω) ba,AE cs (f+sz) (jm+sz) sz cl hs (fun g hg=>b7 g (by simp[hg])) ?_ bF⟩;intro j aK;have:=hc (sz+j) ω;rw[show jm+sz+j=jm+(sz+j)from by omega,show f+sz+j=f+(sz+j)from by omega];exact this
def wR:List (Nat×List D):=[]
theorem afd:∀p∈wR,p.2.all D.flat=true:=by
 have h:wR.all (fun p=>p.2.all D.flat)=true:=rfl;exact List.all_eq_true.1 h
def OC:List (Nat×(Array Value→Prop)):=[]
theorem afe:∀q∈OC,∃p∈wR,p.1=q.1:=by
 have h:OC.all (fun q=>wR.any (fun p=>p.1 == q.1))=true:=rfl;intro q hq;have h2:=List.all_eq_true.1 h q hq;obtain⟨p,hp,e⟩:=List.any_eq_true.1 h2;exact⟨p,hp,by simpa using e⟩
def Dw(h:Array Obj):Prop:=∀q∈OC,∃cs e bY,h[q.1]?=some (.cells cs e bY)∧q.2 cs
theorem Dw.mono{h h':Array Obj}(g:Dw h)(hb:∀p∈wR,h'[p.1]?=h[p.1]?):Dw h':=fun q hq=>by
 obtain⟨p,hp,e⟩:=afe q hq;obtain⟨cs,t,bY,h1,h2⟩:=g q hq;exact⟨cs,t,bY,by rw[←e,hb p hp,e];exact h1,h2⟩
def GOk(h:Array Obj):Prop:=(∀p∈wR,p.1<h.size∧repC h false p.1 0 p.2 [])∧Dw h
theorem GOk.mono{h h':Array Obj}(g:GOk h)(hs:h.size≤h'.size)(hb:∀p∈wR,h'[p.1]?=h[p.1]?):GOk h':=⟨fun p hp=>by
 obtain⟨h1,h2⟩:=g.1 p hp;exact⟨Nat.lt_of_lt_of_le h1 hs,JZ hs p.2 p.1 0 [] (hb p hp) ξ h2⟩,g.2.mono hb⟩
inductive V where
 |al
 |d (x:D)
 |ee (sz:Nat)
 |agg (vs:List V)
 |ptr (id cx off:Nat)
 |gj (cells:List D) (off:Nat)
 |sl (id off len:Nat)
 |fn (f:FuncId) (fX:List V)
 |eh (vs:List V)
 |bU (c:Bool) (v:V)
inductive H where
 |eb
 |box (cells:List V)
 |ah (sz:Nat) (xs:List (List D)) (kD:Bool)
 |jK (sz:Nat) (xs:List (List D))
  /-- ass ast, and asu asv asw it -/
 |aj (sz:Nat) (xs:List (List D))
  /-- asx a one, of asy one asz gl open: eV asA asC asD of asE own -/
 |hN (sz:Nat) (pre:List (List D)) (cells:List V) (post:List (List D))
def H.o':H→Bool
 |.box _=>true
 |.ah _ _ _=>true
 |.aj _ _=>true
 |.hN _ _ _ _=>true
 |_=>false
def H.own:H→Bool
 |.ah _ _ true=>true
 |.aj _ _=>true
 |.hN _ _ _ _=>true
 |_=>false
def H.Cb:H→Bool
 |.aj _ _=>true
 |.hN _ _ _ _=>true
 |_=>false
theorem H.OL{x:H}(h:x.own=true):x.o'=true:=by
 cases x<;>first|rfl|(rename_i kD;cases kD<;>first|rfl|cases h)|cases h
theorem H.J3{x:H}(h:x.Cb=true):x.own=true:=by
 cases x<;>first|rfl|cases h
structure il where
 fx:Option Nat
 off:Nat
 cap:Nat
 sz:Nat
 d7:List Nat
abbrev c1:=Nat→Option il
def a5(hs:List H)(i:Nat):H:=hs.getD i .eb
def l8(x:H)(β:il)(b:Nat):Prop:=(x.o'=true∧β.fx=some b)∨(x.Cb=true∧b∈β.d7)
def c9(φ:c1)(hs:List H)(b:Nat):Prop:=∀i β,φ i=some β→¬l8 (a5 hs i) β b
mutual
def VRel(φ:c1)(T:Nat→Prop)(h:Array Obj):V→Value→Prop
 |.al,_=>True
 |.d x,u=>∃F,rep h false x u F∧∀b∈F,T b
 |.ee _,u=>u=.slice none 0 0
 |.agg vs,u=>∃us:Array Value,u=.agg us∧VRels φ T h vs us.toList
 |.ptr id cx off,u=>∃β b,φ id=some β∧β.fx=some b∧u=.pointer (some ⟨b,β.off+cx * β.sz+off,none⟩)
 |.gj cells off,u=>∃b f G,u=.pointer (some ⟨b,f+off,none⟩)∧b<h.size∧T b∧repC h false b f cells G∧∀g∈G,T g
 |.sl id off len,u=>∃β a c,φ id=some β∧u=.slice a len c∧c≤maxLen∧((c=0∧len=0∧off=β.cap)∨∃b,β.fx=some b∧a=some ⟨b,β.off+off * β.sz,none⟩∧len≤c∧off+c=β.cap)
 |.fn f fX,u=>∃us:Array Value,u=.func (.func f) #[] us∧VRels φ T h fX us.toList
 |.eh vs,u=>∃us:Array Value,u=.tuple us∧VRels φ T h vs us.toList
 |.bU c v,u=>(c=true→VRel φ T h v u)∧(c=false→u=undef)
def VRels(φ:c1)(T:Nat→Prop)(h:Array Obj):List V→List Value→Prop
 |[],us=>us=[]
 |v::vs,us=>∃u cT,us=u::cT∧VRel φ T h v u∧VRels φ T h vs cT
end
def fk(φ:c1)(T:Nat→Prop)(h:Array Obj)(β:il):H→Prop
 |.eb=>True
 |.box cells=>∃b cs e,β.fx=some b∧β.off=0∧h[b]?=some (.cells cs e (0,0))∧VRels φ T h cells cs.toList
 |.ah sz xs kD=>β.sz=sz∧((β.fx=none∧xs=[]∧β.cap=0∧β.d7=[])∨
   ∃b G,β.fx=some b∧xs.length≤β.cap∧pb h b (β.off+β.cap * sz)∧repE h kD b β.off sz xs G∧(kD=true→G=β.d7)∧(kD=false→∀g∈G,T g))
 |.jK sz xs=>β.sz=sz∧(xs=[]∨∃b G,β.fx=some b∧T b∧b<h.size∧repE h false b β.off sz xs G∧∀g∈G,T g)
 |.aj sz xs=>β.sz=sz∧((β.fx=none∧xs=[]∧β.cap=0∧β.d7=[])∨
   ∃b,β.fx=some b∧xs.length≤β.cap∧pb h b (β.off+β.cap * sz)∧repE h true b β.off sz xs β.d7)
 |.hN sz pre cells post=>β.sz=sz∧cells.length=sz∧∃b cy cl us,β.fx=some b∧pre.length+1+post.length≤β.cap∧pb h b (β.off+β.cap * sz)∧β.d7=cy++cl∧
   repE h true b β.off sz pre cy∧VRels φ T h cells us∧(∀(j:Nat) (u:Value),us[j]?=some u→cellAt h b (β.off+pre.length * sz+j)=some u)∧repE h true b (β.off+(pre.length+1) * sz) sz post cl
def dS(φ:c1)(hs:List H)(i b:Nat):Prop:=
 ∃β,φ i=some β∧(((a5 hs i).o'=true∧β.fx=some b)∨((a5 hs i).own=true∧b∈β.d7))
theorem l8.zf{φ:c1}{hs:List H}{i:Nat}{β:il}{b:Nat}(e:φ i=some β)(h:l8 (a5 hs i) β b):dS φ hs i b:=
 ⟨β,e,h.imp id fun h=>⟨H.J3 h.1,h.2⟩⟩
structure Bel(rb:Nat→Prop)(w w':World):Prop where
 os:w'.os=w.os
 tape:w'.tape=w.tape
 output:w'.output=w.output
 size:w.heap.size≤w'.heap.size
 block:∀k,¬rb k→w'.heap[k]?=w.heap[k]?
 room:∀b n,pb w.heap b n→pb w'.heap b n
theorem Bel.refl(rb:Nat→Prop)(w:World):Bel rb w w:=⟨rfl,rfl,rfl,fE _,fun _ _=>rfl,fun _ _ h=>h⟩
theorem Bel.trans{rb:Nat→Prop}{a b c:World}(h:Bel rb a b)(k:Bel rb b c):Bel rb a c:=
 ⟨k.os.trans h.os,k.tape.trans h.tape,k.output.trans h.output,Nat.le_trans h.size k.size,fun i hi=>(k.block i hi).trans (h.block i hi),fun b n r=>k.room b n (h.room b n r)⟩
theorem Bel.mono{rb V1:Nat→Prop}{w w':World}(h:Bel rb w w')(vN:∀k,rb k→V1 k):Bel V1 w w':=
 ⟨h.os,h.tape,h.output,h.size,fun k hk=>h.block k fun e=>hk (vN k e),h.room⟩
theorem Bel.drew{rb:Nat→Prop}{a w:World}(h:Bel rb a w):Bel rb a w.drew:=⟨h.os,h.tape,h.output,h.size,h.block,h.room⟩
structure St where
 tmps:List V
 heap:List H
def V2:List (V×Value):=wR.map fun p=>(.gj p.2 0,.pointer (some ⟨p.1,0,none⟩))
structure R(B:Nat→Prop)(w0:World)(a4:Nat→Prop)(φ:c1)(σ:St)(kp:List (V×Value))(a:Act)(w:World):Prop where
 iA:VRels φ (c9 φ σ.heap) w.heap σ.tmps a.tmps.toList
 kp:∀p∈V2++kp,VRel φ (c9 φ σ.heap) w.heap p.1 p.2
 hp:∀i,a5 σ.heap i=.eb∨∃β,φ i=some β∧fk φ (c9 φ σ.heap) w.heap β (a5 σ.heap i)
 dZ:∀i j b,dS φ σ.heap i b→dS φ σ.heap j b→i=j
 gu:∀i β,φ i=some β→(a5 σ.heap i).own=true→β.d7.Nodup∧∀b,β.fx=some b→b∉β.d7
 gZ:∀i b,dS φ σ.heap i b→B b
 h7:∀i β,φ i=some β→a4 i
 g0:Bel B w0 w
 bs:∀k,w.heap.size≤k→B k
 oz:a.defers=[]
 l4:(∀p∈wR,¬B p.1)∧Dw w0.heap
section
variable {φ:c1} {T:Nat→Prop} {h:Array Obj}
theorem lk:∀(vs:List V) (us:List Value),VRels φ T h vs us→us.length=vs.length
 |[],us,r=>by simp only[VRels]at r;rw[r];rfl
 |v::vs,us,r=>by
  simp only[VRels]at r;obtain⟨u,cT,rfl,_,bn⟩:=r;simp[lk vs cT bn]
theorem wQ:∀(vs:List V) (us:List Value),VRels φ T h vs us→∀(t:Nat) (v:V),vs[t]?=some v→∃u,us[t]?=some u∧VRel φ T h v u
 |[],_,_,t,v,e=>by simp at e
 |v::vs,us,r,t,gS,e=>by
  simp only[VRels]at r;obtain⟨u,cT,rfl,aY,bn⟩:=r
  cases t with
  |zero=>simp at e;subst e;exact⟨u,by simp,aY⟩
  |succ t=>exact wQ vs cT bn t gS (by simpa using e)
theorem AL:∀(vs:List V) (us:List Value),us.length=vs.length→(∀(t:Nat) (v:V) (u:Value),vs[t]?=some v→us[t]?=some u→VRel φ T h v u)→VRels φ T h vs us
 |[],us,e,_=>by simp only[VRels];exact List.eq_nil_of_length_eq_zero (by simpa using e)
 |v::vs,us,e,r=>by
  cases us with
  |nil=>simp at e
  |cons u us=>
   simp only[VRels];exact⟨u,us,rfl,r 0 v u rfl rfl,AL vs us (by simpa using e) fun t gS xP hv hu=>r (t+1) gS xP (by simpa using hv) (by simpa using hu)⟩
theorem afr{vs:List V}{us:List Value}(r:VRels φ T h vs us){v:V}{u:Value}(hv:VRel φ T h v u)(t:Nat):VRels φ T h (vs.set t v) (us.set t u):=by
 refine AL _ _ (by simp[lk _ _ r]) fun i gS xP ag ar=>?_;rw[List.getElem?_set]at ag ar;by_cases hi:t=i
 ·subst hi;simp only[if_true]at ag ar;split at ag
  ·split at ar
   ·cases ag;cases ar;exact hv
   ·cases ar
  ·cases ag
 ·simp only[hi,if_false]at ag ar;obtain⟨asF,k1,k2⟩:=wQ _ _ r i gS ag;rw[k1]at ar;cases ar;exact k2
theorem D9{vs vs':List V}{us cT:List Value}(r:VRels φ T h vs us)(ei:VRels φ T h vs' cT):VRels φ T h (vs++vs') (us++cT):=by
 induction vs generalizing us with
 |nil=>simp only[VRels]at r;subst r;simpa using ei
 |cons v vs df=>
  simp only[VRels]at r;obtain⟨u,afs,rfl,aY,bn⟩:=r;simp only[bz,VRels];exact⟨u,afs++cT,rfl,aY,df bn⟩
theorem V3{vs:List V}{us:List Value}(r:VRels φ T h vs us)(n:Nat):VRels φ T h (vs.take n) (us.take n):=by
 refine AL _ _ (by simp[lk _ _ r]) fun i v u ag ar=>?_;rw[List.getElem?_take]at ag ar;split at ag
 ·rename_i hi;rw[if_pos hi]at ar;obtain⟨xP,k1,k2⟩:=wQ _ _ r i v ag;rw[k1]at ar;cases ar;exact k2
 ·cases ag
theorem V4{vs:List V}{us:List Value}(r:VRels φ T h vs us)(n:Nat):VRels φ T h (vs.drop n) (us.drop n):=by
 refine AL _ _ (by simp[lk _ _ r]) fun i v u ag ar=>?_;rw[List.getElem?_drop]at ag ar;obtain⟨xP,k1,k2⟩:=wQ _ _ r (n+i) v ag;rw[k1]at ar;cases ar;exact k2
theorem OM{v:V}{u:Value}(r:VRel φ T h v u)(n:Nat):VRels φ T h (List.replicate n v) (List.replicate n u):=by
 induction n with
 |zero=>simp[VRels]
 |succ n df=>simp only[List.replicate_succ,VRels];exact⟨u,_,rfl,r,df⟩
end
def o4(φ dw:c1):Prop:=∀i β,φ i=some β→∃bI,dw i=some bI∧bI.fx=β.fx∧bI.off=β.off∧bI.cap=β.cap∧bI.sz=β.sz
theorem o4.refl(φ:c1):o4 φ φ:=fun _ β e=>⟨β,e,rfl,rfl,rfl,rfl⟩
structure Dv(φ dw:c1)(T hS:Nat→Prop)(h h':Array Obj):Prop where
 DY:o4 φ dw
 cM:∀b,b<h.size→T b→hS b
 er:∀b,b<h.size→T b→h'[b]?=h[b]?
 hs:h.size≤h'.size
section
variable {φ dw:c1} {T hS:Nat→Prop} {h h':Array Obj}
mutual
theorem FC(K:Dv φ dw T hS h h'):∀(v:V) (u:Value),VRel φ T h v u→VRel dw hS h' v u
 |.al,_,_=>by simp[VRel]
 |.d x,u,r=>by
  simp only[VRel]at r⊢;obtain⟨F,aY,bn⟩:=r;have hl:=VL x u F aY;exact⟨F,Fy K.hs x u F (fun b hb=>K.er b (hl b hb) (bn b hb)) aY,fun b hb=>K.cM b (hl b hb) (bn b hb)⟩
 |.ee _,_,r=>by simpa [VRel]using r
 |.agg vs,u,r=>by
  simp only[VRel]at r⊢;obtain⟨us,aY,bn⟩:=r;exact⟨us,aY,vr K vs us.toList bn⟩
 |.ptr id cx off,u,r=>by
  simp only[VRel]at r⊢;obtain⟨β,b,aY,bn,dg⟩:=r;obtain⟨bI,k1,k2,dR,i1,oc⟩:=K.DY id β aY;exact⟨bI,b,k1,by rw[k2];exact bn,by rw[dR,oc];exact dg⟩
 |.gj cells off,u,r=>by
  simp only[VRel]at r⊢;obtain⟨b,f,G,aY,bn,dg,dz,gb⟩:=r;have hl:=Oz cells b f G dz;exact⟨b,f,G,aY,Nat.lt_of_lt_of_le bn K.hs,K.cM b bn dg,JZ K.hs cells b f G (K.er b bn dg) (fun g hg=>K.er g (hl g hg) (gb g hg)) dz,fun g hg=>K.cM g (hl g hg) (gb g hg)⟩
 |.sl id off len,u,r=>by
  simp only[VRel]at r⊢;obtain⟨β,a,c,aY,bn,dg,dz⟩:=r;obtain⟨bI,k1,k2,dR,i1,oc⟩:=K.DY id β aY;refine⟨bI,a,c,k1,bn,dg,?_⟩;rcases dz with dz|⟨b,dz,gb,jB,xS⟩
  ·exact .inl ⟨dz.1,dz.2.1,by rw[i1];exact dz.2.2⟩
  ·exact .inr ⟨b,by rw[k2];exact dz,by rw[dR,oc];exact gb,jB,by rw[i1];exact xS⟩
 |.fn f fX,u,r=>by
  simp only[VRel]at r⊢;obtain⟨us,aY,bn⟩:=r;exact⟨us,aY,vr K fX us.toList bn⟩
 |.eh vs,u,r=>by
  simp only[VRel]at r⊢;obtain⟨us,aY,bn⟩:=r;exact⟨us,aY,vr K vs us.toList bn⟩
 |.bU c v,u,r=>by
  simp only[VRel]at r⊢;exact⟨fun e=>FC K v u (r.1 e),r.2⟩
theorem vr(K:Dv φ dw T hS h h'):∀(vs:List V) (us:List Value),VRels φ T h vs us→VRels dw hS h' vs us
 |[],us,r=>by simpa [VRels]using r
 |v::vs,us,r=>by
  simp only[VRels]at r⊢;obtain⟨u,cT,aY,bn,dg⟩:=r;exact⟨u,cT,aY,FC K v u bn,vr K vs cT dg⟩
end
theorem M'(K:Dv φ dw T hS h h'){β:il}{x:H}(r:fk φ T h β x)(hb:∀b,x.o'=true→β.fx=some b→h'[b]?=h[b]?)(hn:∀b,x.own=true→b∈β.d7→h'[b]?=h[b]?):fk dw hS h' β x:=by
 cases x with
 |eb=>trivial
 |box cells=>
  simp only[fk]at r⊢;obtain⟨b,cs,e,aY,bn,dg,dz⟩:=r;exact⟨b,cs,e,aY,bn,by rw[hb b rfl aY];exact dg,vr K cells cs.toList dz⟩
 |ah sz xs kD=>
  simp only[fk]at r⊢;obtain⟨e,r⟩:=r;refine⟨e,?_⟩;rcases r with r|⟨b,G,aY,bn,dg,dz,gb,jB⟩
  ·exact .inl r
  ·have hl:=AR xs b β.off sz G dz;refine .inr ⟨b,G,aY,bn,dg.mono (hb b rfl aY),?_,gb,fun k g hg=>K.cM g (hl g hg) (jB k g hg)⟩;refine zh K.hs xs b β.off sz G (hb b rfl aY) (fun g hg=>?_) dz
   cases kD with
   |true=>exact hn g rfl (gb rfl▸hg)
   |false=>exact K.er g (hl g hg) (jB rfl g hg)
 |jK sz xs=>
  simp only[fk]at r⊢;obtain⟨e,r⟩:=r;refine⟨e,?_⟩;rcases r with r|⟨b,G,aY,bn,dg,dz,gb⟩
  ·exact .inl r
  ·have hl:=AR xs b β.off sz G dz;exact .inr ⟨b,G,aY,K.cM b dg bn,Nat.lt_of_lt_of_le dg K.hs,zh K.hs xs b β.off sz G (K.er b dg bn) (fun g hg=>K.er g (hl g hg) (gb g hg)) dz,fun g hg=>K.cM g (hl g hg) (gb g hg)⟩
 |aj sz xs=>
  simp only[fk]at r⊢;obtain⟨e,r⟩:=r;refine⟨e,?_⟩;rcases r with r|⟨b,aY,bn,dg,dz⟩
  ·exact .inl r
  ·exact .inr ⟨b,aY,bn,dg.mono (hb b rfl aY),zh K.hs xs b β.off sz _ (hb b rfl aY) (fun g hg=>hn g rfl hg) dz⟩
 |hN sz pre cells post=>
  simp only[fk]at r⊢;obtain⟨e,hc,b,cy,cl,us,aY,bn,dg,dz,gb,jB,xS,AO⟩:=r;refine⟨e,hc,b,cy,cl,us,aY,bn,dg.mono (hb b rfl aY),dz,?_,vr K cells us jB,fun j u aK=>?_,?_⟩
  ·exact zh K.hs pre b β.off sz cy (hb b rfl aY) (fun g hg=>hn g rfl (by rw[dz];simp[hg])) gb
  ·rw[VK (hb b rfl aY)];exact xS j u aK
  ·exact zh K.hs post b _ sz cl (hb b rfl aY) (fun g hg=>hn g rfl (by rw[dz];simp[hg])) AO
end
theorem dS.lt{B:Nat→Prop}{w0:World}{a4:Nat→Prop}{φ:c1}{σ:St}{kp:List (V×Value)}{a:Act}{w:World}(r:R B w0 a4 φ σ kp a w){i b:Nat}(aJ:dS φ σ.heap i b):b<w.heap.size:=by
 obtain⟨β,e,aJ⟩:=aJ;rcases r.hp i with hd|⟨bI,e',hr⟩
 ·rw[hd]at aJ;rcases aJ with ⟨h1,_⟩|⟨h1,_⟩<;>cases h1
 ·rw[e]at e';cases e';rcases aJ with ⟨h1,h2⟩|⟨h1,h2⟩
  ·cases hx:a5 σ.heap i with
   |eb=>rw[hx]at h1;cases h1
   |jK sz xs=>rw[hx]at h1;cases h1
   |box cells=>
    rw[hx]at hr;simp only[fk]at hr;obtain⟨ez,cs,t,aY,bn,dg,dz⟩:=hr;rw[h2]at aY;cases aY;exact pb.lt ⟨cs,t,dg,Nat.zero_le _⟩
   |ah sz xs kD=>
    rw[hx]at hr;simp only[fk]at hr;rcases hr.2 with hr|⟨ez,G,aY,bn,dg,dz,gb,jB⟩
    ·rw[h2]at hr;cases hr.1
    ·rw[h2]at aY;cases aY;exact dg.lt
   |aj sz xs=>
    rw[hx]at hr;simp only[fk]at hr;rcases hr.2 with hr|⟨ez,aY,bn,dg,dz⟩
    ·rw[h2]at hr;cases hr.1
    ·rw[h2]at aY;cases aY;exact dg.lt
   |hN sz pre cells post=>
    rw[hx]at hr;simp only[fk]at hr;obtain⟨_,_,ez,cy,cl,us,aY,bn,dg,dz⟩:=hr;rw[h2]at aY;cases aY;exact dg.lt
  ·cases hx:a5 σ.heap i with
   |eb=>rw[hx]at h1;cases h1
   |jK sz xs=>rw[hx]at h1;cases h1
   |box cells=>rw[hx]at h1;cases h1
   |ah sz xs kD=>
    cases kD with
    |false=>rw[hx]at h1;cases h1
    |true=>
     rw[hx]at hr;simp only[fk]at hr;rcases hr.2 with hr|⟨ez,G,aY,bn,dg,dz,gb,jB⟩
     ·rw[hr.2.2.2]at h2;cases h2
     ·exact AR xs ez β.off sz G dz b ((gb trivial)▸h2)
   |aj sz xs=>
    rw[hx]at hr;simp only[fk]at hr;rcases hr.2 with hr|⟨ez,aY,bn,dg,dz⟩
    ·rw[hr.2.2.2]at h2;cases h2
    ·exact AR xs ez β.off sz _ dz b h2
   |hN sz pre cells post=>
    rw[hx]at hr;simp only[fk]at hr;obtain⟨_,_,ez,cy,cl,us,aY,bn,dg,dz,gb,jB,xS,AO⟩:=hr;rw[dz]at h2;rcases fi.1 h2 with h2|h2
    ·exact AR pre ez β.off sz _ gb b h2
    ·exact AR post ez _ sz _ AO b h2
theorem V5{B:Nat→Prop}{w0:World}{a4:Nat→Prop}{φ:c1}{σ:St}{kp:List (V×Value)}{a:Act}{w:World}(r:R B w0 a4 φ σ kp a w){i:Nat}{β:il}(e:φ i=some β)
  (hx:(a5 σ.heap i).own=true) (hs:(a5 σ.heap i).Cb=false) {b:Nat} (hb:b∈β.d7):c9 φ σ.heap b:=by
 intro j bI e' ht;have:=r.dZ i j b ⟨β,e,.inr ⟨hx,hb⟩⟩ (l8.zf e' ht);subst this;rw[e]at e';cases e';rcases ht with ⟨_,he⟩|⟨hl,_⟩
 ·exact(r.gu i β e hx).2 b he hb
 ·rw[hs]at hl;cases hl
theorem y_{B:Nat→Prop}{w0:World}{a4:Nat→Prop}{φ:c1}{σ:St}{kp:List (V×Value)}{a:Act}{w:World}(r:R B w0 a4 φ σ kp a w)
  (S:Nat→Prop) (AB:Nat→Prop) (dw:c1) (hs':List H) (w':World)
  (k1:∀i,¬S i→a5 hs' i=a5 σ.heap i∧dw i=φ i)
  (k2:o4 φ dw)
  (dR:w.heap.size≤w'.heap.size)
  (i1:∀b,b<w.heap.size→(∀i,S i→∀β,φ i=some β→¬l8 (a5 σ.heap i) β b)→w'.heap[b]?=w.heap[b]?)
  (oc:∀i,S i→∀b,dS dw hs' i b→w.heap.size≤b∨∃j,S j∧dS φ σ.heap j b)
  (aft:∀i,S i→∀bI,dw i=some bI→∀b,l8 (a5 hs' i) bI b→w.heap.size≤b∨∃j β,S j∧φ j=some β∧l8 (a5 σ.heap j) β b)
  (GP:∀i j b,S i→S j→dS dw hs' i b→dS dw hs' j b→i=j)
  (V6:∀i β,S i→dw i=some β→(a5 hs' i).own=true→β.d7.Nodup∧∀b,β.fx=some b→b∉β.d7)
  (GQ:∀i,S i→a5 hs' i=.eb∨∃β,dw i=some β∧fk dw (c9 dw hs') w'.heap β (a5 hs' i))
  (GR:∀i β,dw i=some β→AB i)
  (afu:Bel B w0 w') :
  R B w0 AB dw ⟨σ.tmps,hs'⟩ kp a w':=by
 have cM:∀b,b<w.heap.size→c9 φ σ.heap b→c9 dw hs' b:=by
  intro b hb ht i bI e' he;by_cases hi:S i
  ·rcases aft i hi bI e' b he with h1|⟨j,β,h1,h2,ao⟩
   ·omega
   ·exact ht j β h2 ao
  ·obtain⟨ag,ar⟩:=k1 i hi;exact ht i bI (ar▸e') (ag▸he)
 have er:∀b,b<w.heap.size→c9 φ σ.heap b→w'.heap[b]?=w.heap[b]?:=fun b hb ht=>i1 b hb fun i _ β e=>ht i β e;have kn:∀i b,¬S i→dS dw hs' i b→dS φ σ.heap i b:=by
  intro i b hi aJ;obtain⟨ag,ar⟩:=k1 i hi;unfold dS at aJ⊢;rw[ag,ar]at aJ;exact aJ
 have K:Dv φ dw (c9 φ σ.heap) (c9 dw hs') w.heap w'.heap:=⟨k2,cM,er,dR⟩;refine⟨vr K _ _ r.iA,fun p hp=>FC K _ _ (r.kp p hp),fun i=>?_,fun i j b hi aK=>?_,fun i β e hx=>?_,fun i b aJ=>?_,GR,afu,fun k hk=>r.bs k (Nat.le_trans dR hk),r.oz,r.l4⟩
 ·by_cases hi:S i
  ·exact GQ i hi
  ·obtain⟨ag,ar⟩:=k1 i hi;simp only[ag,ar];rcases r.hp i with hd|⟨β,e,hr⟩
   ·exact .inl hd
   ·refine .inr ⟨β,e,M' K hr (fun b hl hb=>?_) (fun b hx hb=>?_)⟩
    ·refine i1 b (dS.lt r ⟨β,e,.inl ⟨hl,hb⟩⟩) fun j aK bI e' pG=>?_;have:=r.dZ i j b ⟨β,e,.inl ⟨hl,hb⟩⟩ (l8.zf e' pG);exact hi (this▸aK)
    ·refine i1 b (dS.lt r ⟨β,e,.inr ⟨hx,hb⟩⟩) fun j aK bI e' pG=>?_;have:=r.dZ i j b ⟨β,e,.inr ⟨hx,hb⟩⟩ (l8.zf e' pG);exact hi (this▸aK)
 ·by_cases GS:S i<;>by_cases GU:S j
  ·exact GP i j b GS GU hi aK
  ·have h2:=kn j b GU aK;rcases oc i GS b hi with h1|⟨k,h1,ao⟩
   ·have:=dS.lt r h2;omega
   ·exact absurd (r.dZ k j b ao h2▸h1) GU
  ·have h2:=kn i b GS hi;rcases oc j GU b aK with h1|⟨k,h1,ao⟩
   ·have:=dS.lt r h2;omega
   ·exact absurd (r.dZ k i b ao h2▸h1) GS
  ·exact r.dZ i j b (kn i b GS hi) (kn j b GU aK)
 ·by_cases hi:S i
  ·exact V6 i β hi e hx
  ·obtain⟨ag,ar⟩:=k1 i hi;simp only[ag,ar]at hx e;exact r.gu i β e hx
 ·by_cases hi:S i
  ·rcases oc i hi b aJ with h1|⟨j,h1,h2⟩
   ·exact r.bs _ h1
   ·exact r.gZ j b h2
  ·exact r.gZ i b (kn i b hi aJ)
theorem pc{B:Nat→Prop}{w0:World}{a4:Nat→Prop}{φ:c1}{σ:St}{kp:List (V×Value)}{a:Act}{w:World}(r:R B w0 a4 φ σ kp a w)(dst:Option Tmp){v:V}{u:Value}
  (hv:VRel φ (c9 φ σ.heap) w.heap v u):R B w0 a4 φ ⟨match dst with|some t=>σ.tmps.set t v|none=>σ.tmps,σ.heap⟩ kp (a.put dst u) w:=by
 cases dst with
 |none=>exact r
 |some t=>
  refine⟨?_,r.kp,r.hp,r.dZ,r.gu,r.gZ,r.h7,r.g0,r.bs,r.oz,r.l4⟩;have:=afr r.iA hv t;simpa [Act.put]using this
theorem afv(hs:List H)(n i:Nat)(x:H)(hn:n<hs.length):a5 (hs.set n x) i=if i=n then x else a5 hs i:=by
 unfold a5;simp only[j3,List.getElem?_set];by_cases hi:n=i
 ·subst hi;simp[hn]
 ·have:¬i=n:=fun e=>hi e.symm;simp[hi,this]
theorem UY{B:Nat→Prop}{w0:World}{a4:Nat→Prop}{φ:c1}{σ:St}{kp:List (V×Value)}{a:Act}{w w':World}(r:R B w0 a4 φ σ kp a w)(hh:w'.heap=w.heap)(hb:Bel B w0 w'):R B w0 a4 φ σ kp a w':=
 ⟨by rw[hh];exact r.iA,by rw[hh];exact r.kp,by rw[hh];exact r.hp,r.dZ,r.gu,r.gZ,r.h7,hb,by rw[hh];exact r.bs,r.oz,r.l4⟩
def tyI(P:Program)(T:TypeId):Option (Nat×Bool):=
 match P.info? T,P.underlying T with
 |some i,some d=>some (i.size,match d with|.struct _|.array _ _=>true|_=>false)
 |_,_=>none
def elI(P:Program)(T:TypeId):Option (TypeId×Nat×Nat):=
 match P.underlying T with
 |some (.slice e)=>(P.info? e).map fun i=>(e,i.size,i.bytes)
 |_=>none
def arI(P:Program)(T:TypeId):Option (Nat×Nat):=
 match P.underlying T with
 |some (.array n e)=>(P.info? e).map fun i=>(n,i.size)
 |_=>none
def fdI(P:Program)(S f:Nat):Option Nat:=
 match P.underlying S with
 |some (.struct bK)=>
  match bK[f]? with
  |some J7=>
   match P.info? J7.type with
   |some i=>if i.size=0 then none else some J7.offset
   |none=>none
  |none=>none
 |_=>none
def isStrI(P:Program)(T:TypeId):Bool:=match P.underlying T with|some .string=>true|_=>false
def intI(P:Program)(T:TypeId):Option IntKind:=match P.underlying T with|some (.int k)=>some k|_=>none
def J1(k:IntKind)(n:Int):Bool:=decide (k.min≤n)&&decide (n≤k.max)
def ofVal:Value→V
 |.int k n=>if J1 k n then .d (.int k n)else .al
 |.bool b=>.d (.bool b)
 |.string s=>if s.data.toList.length≤maxLen then .d (.str s.data.toList)else .al
 |.slice none 0 0=>.ee 0
 |_=>.al
theorem Wc{φ:c1}{T:Nat→Prop}{h:Array Obj}(u:Value):VRel φ T h (ofVal u) u:=by
 unfold ofVal;split
 ·split
  ·rename_i k n hk;simp only[J1,bW,b8]at hk;exact⟨[],⟨rfl,rfl,hk.1,hk.2⟩,by simp⟩
  ·trivial
 ·rename_i b;exact⟨[],⟨rfl,rfl⟩,by simp⟩
 ·split
  ·rename_i s hs;exact⟨[],⟨rfl,rfl,hs⟩,by simp⟩
  ·trivial
 ·simp[VRel]
 ·trivial
def St.ev(σ:St):Operand→V
 |.tmp t=>σ.tmps.getD t .al
 |.const v=>ofVal v
 |.func f=>.fn f []
 |.global g=>match wR.find? (fun p=>p.1 == g)with|some p=>.gj p.2 0|none=>.al
section
variable {B:Nat→Prop} {w0:World} {a4:Nat→Prop} {φ:c1} {σ:St} {kp:List (V×Value)} {a:Act} {w:World}
theorem Aj(r:R B w0 a4 φ σ kp a w)(x:Operand):VRel φ (c9 φ σ.heap) w.heap (σ.ev x) (a.eval x):=by
 cases x with
 |tmp t=>
  simp only[St.ev,Act.eval,j3]
  cases ht:σ.tmps[t]? with
  |none=>simp[VRel]
  |some v=>
   obtain⟨u,h1,h2⟩:=wQ _ _ r.iA t v ht;rw[Array.getElem?_toList]at h1;simpa [h1]using h2
 |const v=>exact Wc v
 |func f=>simp only[St.ev,Act.eval,VRel];exact⟨#[],rfl,by simp[VRels]⟩
 |global g=>
  simp only[St.ev];split
  ·rename_i p hp;have h1:=List.find?_some hp;have h2:=List.mem_of_find?_eq_some hp;have:=r.kp (.gj p.2 0,.pointer (some ⟨p.1,0,none⟩)) (List.mem_append_left _ (List.mem_map.2 ⟨p,h2,rfl⟩));have e:p.1=g:=by simpa using h1
   rw[e]at this;exact this
  ·simp[VRel]
theorem R.Oj(r:R B w0 a4 φ σ kp a w):GOk w.heap:=⟨fun p hp=>by
 have:=r.kp (.gj p.2 0,.pointer (some ⟨p.1,0,none⟩)) (List.mem_append_left _ (List.mem_map.2 ⟨p,hp,rfl⟩));simp only[VRel]at this;obtain⟨b,f,G,e,h1,_,h2,_⟩:=this
 cases e
 have b7:=OB _ _ _ (afd p hp) h2;subst b7;exact⟨h1,h2⟩,r.l4.2.mono fun p hp=>r.g0.block p.1 (r.l4.1 p hp)⟩
theorem afw{φ:c1}{T:Nat→Prop}{h:Array Obj}(g:GOk h)(cM:∀p∈wR,T p.1):∀p∈V2,VRel φ T h p.1 p.2:=by
 intro p hp;obtain⟨q,hq,rfl⟩:=List.mem_map.1 hp;obtain⟨h1,h2⟩:=g.1 q hq;simp only[VRel];exact⟨q.1,0,[],rfl,h1,cM q hq,h2,by simp⟩
end
structure fW where
 v:V
 new:List H
 upd:List (Nat×H)
def cO(hs:List H)(i:Nat)(x:H):List H:=
 if i<hs.length then hs.set i x else hs++List.replicate (i-hs.length) .eb++[x]
theorem jz(hs:List H)(i:Nat)(x:H)(j:Nat):a5 (cO hs i x) j=if j=i then x else a5 hs j:=by
 unfold cO;split
 ·rename_i hi;exact afv hs i j x hi
 ·rename_i hi;unfold a5;simp only[j3,List.append_assoc,List.getElem?_append];by_cases aK:j=i
  ·subst aK;simp[hi]
  ·simp only[aK,if_false,List.length_replicate];by_cases h1:j<hs.length
   ·simp[h1]
   ·simp only[h1,if_false,List.getElem?_eq_none (Nat.le_of_not_lt h1)];by_cases h2:j-hs.length<i-hs.length
    ·simp[h2]
    ·have:1≤j-hs.length-(i-hs.length):=by omega
     simp[h2,List.getElem?_eq_none,this]
def hnew:List H→Nat→List H→List H
 |hs,_,[]=>hs
 |hs,n,x::xs=>hnew (cO hs n x) (n+1) xs
def hupd:List H→List (Nat×H)→List H
 |hs,[]=>hs
 |hs,(i,x)::r=>hupd (cO hs i x) r
theorem B5:∀(xs:List H) (hs:List H) (n j:Nat),a5 (hnew hs n xs) j=if n≤j∧j<n+xs.length then xs.getD (j-n) .eb else a5 hs j
 |[],hs,n,j=>by
  have:¬(n≤j∧j<n+([]:List H).length):=by simp only[eI];omega
  rw[if_neg this];rfl
 |x::xs,hs,n,j=>by
  rw[hnew,B5 xs (cO hs n x) (n+1) j,jz];by_cases h1:n+1≤j∧j<n+1+xs.length
  ·rw[if_pos h1,if_pos (by simp only[dA];omega)];rw[show j-n=(j-(n+1))+1 from by omega];simp[List.getD]
  ·rw[if_neg h1];by_cases h2:j=n
   ·subst h2;rw[if_pos rfl,if_pos ξ];simp
   ·rw[if_neg h2,if_neg (by simp only[dA];omega)]
def St.dM(σ:St)(dst:Option Tmp)(n:Nat)(r:fW):St:=
 ⟨match dst with|some t=>σ.tmps.set t r.v|none=>σ.tmps,hupd (hnew σ.heap n r.new) r.upd⟩
def St.le(σ σ':St):Prop:=
 (∀(t:Nat) (v:V),σ.tmps[t]?=some v→v=V.al∨σ'.tmps[t]?=some v)∧∀i,a5 σ.heap i=.eb∨a5 σ'.heap i=a5 σ.heap i
theorem St.le.refl(σ:St):σ.le σ:=⟨fun _ _ h=>.inr h,fun _=>.inr rfl⟩
theorem St.le.ev{σ σ':St}(h:σ.le σ')(x:Operand):σ.ev x=.al∨σ'.ev x=σ.ev x:=by
 cases x with
 |tmp t=>
  simp only[St.ev,j3]
  cases ht:σ.tmps[t]? with
  |none=>exact .inl rfl
  |some v=>
   rcases h.1 t v ht with rfl|h2
   ·exact .inl rfl
   ·exact .inr (by rw[h2])
 |const v=>exact .inr rfl
 |func f=>exact .inr rfl
 |global g=>exact .inr rfl
def i2(P:Program)(o:Oper)(g:Bool)(σ:St)(n:Nat)(r:fW):Prop:=
 ∀σ':St,σ.le σ'→(∀i,n≤i→i<n+r.new.length→a5 σ'.heap i=.eb)→
 ∀(B:Nat→Prop) (w0:World) (a4:Nat→Prop) (φ:c1) (kp:List (V×Value)) (a:Act) (w:World),(∀i,n≤i→i<n+r.new.length→¬a4 i)→R B w0 a4 φ σ' kp a w→g=true→
 ∀(K:Act→World→Prop) (Q:Exit→Act→World→Prop),
  (∀u w' dw,R B w0 (fun i=>a4 i∨(n≤i∧i<n+r.new.length)) dw (σ'.dM o.dst n r) kp (a.put o.dst u) w'→K (a.put o.dst u) w')→o.wp P a w K Q
def evg(g:Bool)(v:V)(K:V→Prop):Prop:=
 match v with
 |.bU c v=>(g=true→c=true)∧K v
 |v=>K v
theorem oM{P:Program}{o:Oper}{g:Bool}{σ:St}{n:Nat}{v:V}
  (h:∀σ':St,σ.le σ'→∀(B:Nat→Prop) (w0:World) (a4:Nat→Prop) (φ:c1) (kp:List (V×Value)) (a:Act) (w:World),R B w0 a4 φ σ' kp a w→g=true→
   ∃u,(execOp a.eval o).run P w=.ok (.value u) w∧VRel φ (c9 φ σ'.heap) w.heap v u):i2 P o g σ n ⟨v,[],[]⟩:=by
 intro σ' bt _ B w0 a4 φ kp a w _ bj hg K Q cd;obtain⟨u,h1,h2⟩:=h σ' bt B w0 a4 φ kp a w bj hg;unfold Oper.wp;rw[h1,Oper.upon_value];refine cd u w φ ?_;have hr:=pc bj o.dst h2;refine⟨hr.iA,hr.kp,hr.hp,hr.dZ,hr.gu,hr.gZ,fun i β e=>.inl (hr.h7 i β e),hr.g0,hr.bs,hr.oz,hr.l4⟩
theorem hT{g:Bool}{v:V}{K:V→Prop}(h:evg g v K):∃gS,K gS∧∀(φ:c1) (T:Nat→Prop) (hp:Array Obj) (u:Value),g=true→VRel φ T hp v u→VRel φ T hp gS u:=by
 unfold evg at h;split at h
 ·rename_i c gS;exact⟨gS,h.2,fun φ T hp u hg hr=>by simp only[VRel]at hr;exact hr.1 (h.1 hg)⟩
 ·exact⟨v,h,fun _ _ _ _ _ hr=>hr⟩
theorem g_{σ σ':St}{B:Nat→Prop}{w0:World}{a4:Nat→Prop}{φ:c1}{kp:List (V×Value)}{a:Act}{w:World}(bt:σ.le σ')(r:R B w0 a4 φ σ' kp a w)(x:Operand) :
  VRel φ (c9 φ σ'.heap) w.heap (σ.ev x) (a.eval x):=by
 rcases bt.ev x with h|h
 ·rw[h];trivial
 ·rw[←h];exact Aj r x
def lK(P:Program)(T:TypeId):V→V
 |.ee s=>.ee (match elI P T with|some (_,sz,_)=>sz|none=>s)
 |v=>v
theorem Wd{P:Program}{T:TypeId}{φ:c1}{hS:Nat→Prop}{h:Array Obj}{v:V}{u:Value}(r:VRel φ hS h v u):VRel φ hS h (lK P T v) u:=by
 cases v<;>first|exact r|(simp only[lK,VRel]at r⊢;exact r)
def V.cells:V→List V
 |.agg vs=>vs
 |v=>[v]
def V.oneB:V→Bool
 |.d _|.ee _|.ptr _ _ _|.gj _ _|.sl _ _ _|.fn _ _=>true
 |_=>false
theorem nO{φ:c1}{T:Nat→Prop}{h:Array Obj}{v:V}{u:Value}(hb:v.oneB=true)(r:VRel φ T h v u):u.oneCell'=true∧u.cells=#[u]:=by
 cases v<;>simp only[V.oneB]at hb<;>simp only[VRel]at r
 case d x=>
  obtain⟨F,aY,_⟩:=r;have:=U2 aY;refine⟨this,?_⟩
  cases u<;>first|rfl|(simp[Value.oneCell']at this)
 case ee s=>subst r;exact⟨rfl,rfl⟩
 case ptr id cx off=>obtain⟨β,b,_,_,r⟩:=r;subst r;exact⟨rfl,rfl⟩
 case gj cells off=>obtain⟨b,f,G,r,_⟩:=r;subst r;exact⟨rfl,rfl⟩
 case sl id off len=>obtain⟨β,a,c,_,r,_⟩:=r;subst r;exact⟨rfl,rfl⟩
 case fn f fX=>obtain⟨us,r,_⟩:=r;subst r;exact⟨rfl,rfl⟩
 all_goals cases hb
def V.xO:V→Bool
 |.agg vs=>vs.all V.oneB
 |v=>v.oneB
theorem GO{φ:c1}{T:Nat→Prop}{h:Array Obj}{v:V}{u:Value}(hb:v.xO=true)(r:VRel φ T h v u):VRels φ T h v.cells u.cells.toList∧∀x∈u.cells.toList,x.oneCell'=true:=by
 cases v with
 |agg vs=>
  simp only[VRel]at r;obtain⟨us,rfl,r⟩:=r;simp only[V.xO,List.all_eq_true]at hb;refine⟨r,fun x hx=>?_⟩;obtain⟨j,aK,rfl⟩:=List.getElem_of_mem hx;have hl:=lk _ _ r;obtain⟨mg,h1,h2⟩:=wQ _ _ r j (vs[j]'(by simp only[Value.cells]at aK;omega)) (cD _);simp only[Value.cells]at aK⊢;rw[cD aK]at h1
  cases h1
  exact(nO (hb _ (eS _)) h2).1
 |d x=>exact⟨by rw[(nO rfl r).2];simp only[V.cells,VRels];exact⟨_,_,rfl,r,rfl⟩,by rw[(nO rfl r).2];simpa using(nO rfl r).1⟩
 |ee x=>exact⟨by rw[(nO rfl r).2];simp only[V.cells,VRels];exact⟨_,_,rfl,r,rfl⟩,by rw[(nO rfl r).2];simpa using(nO rfl r).1⟩
 |ptr x y z=>exact⟨by rw[(nO rfl r).2];simp only[V.cells,VRels];exact⟨_,_,rfl,r,rfl⟩,by rw[(nO rfl r).2];simpa using(nO rfl r).1⟩
 |gj x y=>exact⟨by rw[(nO rfl r).2];simp only[V.cells,VRels];exact⟨_,_,rfl,r,rfl⟩,by rw[(nO rfl r).2];simpa using(nO rfl r).1⟩
 |sl x y z=>exact⟨by rw[(nO rfl r).2];simp only[V.cells,VRels];exact⟨_,_,rfl,r,rfl⟩,by rw[(nO rfl r).2];simpa using(nO rfl r).1⟩
 |fn x y=>exact⟨by rw[(nO rfl r).2];simp only[V.cells,VRels];exact⟨_,_,rfl,r,rfl⟩,by rw[(nO rfl r).2];simpa using(nO rfl r).1⟩
 |al=>cases hb
 |eh x=>cases hb
 |bU x y=>cases hb
theorem xY(k:IntKind)(n:Int):k.min≤k.wrap n∧k.wrap n≤k.max:=by
 cases k<;>simp only[IntKind.min,IntKind.max,IntKind.wrap,IntKind.bits,IntKind.signed]<;>simp<;>(try split)<;>omega
theorem WI(k:IntKind):k.min≤0∧0≤k.max:=by
 cases k<;>simp[IntKind.min,IntKind.max,IntKind.bits,IntKind.signed]
theorem agu{k:IntKind}{x y:Int}(h:k.min≤x∧x≤k.max):k.min≤x.tmod y∧x.tmod y≤k.max:=by
 have hk:=WI k;rcases Int.le_total 0 x with h0|h0
 ·have h1:=Int.tmod_nonneg y h0;have h2:x.tmod y≤x:=by
   have:=Int.natAbs_tmod x y;have ao:x.natAbs % y.natAbs≤x.natAbs:=Nat.mod_le _ _;omega
  omega
 ·have h1:x.tmod y≤0:=by
   have:=Int.tmod_nonneg (a:=-x) y ω;rw[Int.neg_tmod]at this;omega
  have h2:x≤x.tmod y:=by
   have:=Int.natAbs_tmod x y;have ao:x.natAbs % y.natAbs≤x.natAbs:=Nat.mod_le _ _;omega
  omega
theorem agv{k:IntKind}{x:Int}{n:Nat}(h:k.min≤x∧x≤k.max):k.min≤x.fdiv (2^n)∧x.fdiv (2^n)≤k.max:=by
 have hk:=WI k;have hp:(0:Int)<2^n:=Int.pow_pos ω;have he:x.fdiv (2^n)=x / (2^n):=Int.fdiv_eq_ediv_of_nonneg x ω;rw[he];rcases Int.le_total 0 x with h0|h0
 ·have h1:0≤x / 2^n:=Int.ediv_nonneg h0 ω;have h2:x / 2^n≤x:=Int.ediv_le_self _ h0;omega
 ·have h1:x / 2^n≤0:=by
   have:=Int.ediv_le_ediv hp h0;simpa using this
  have h2:x≤x / 2^n:=by
   rw[Int.le_ediv_iff_mul_le hp];have:x * (2^n-1)≤0:=Int.mul_nonpos_of_nonpos_of_nonneg h0 ω;rw[Int.mul_sub]at this;omega
  omega
def bitI(op:BinOp)(k:IntKind)(x y:Int):Int:=
 let a:=BitVec.ofInt k.bits x
 let b:=BitVec.ofInt k.bits y
 k.wrap (match op with
  |.and=>(a &&& b).toNat
  |.or=>(a ||| b).toNat
  |.xor=>(a ^^^ b).toNat
  |_=>(a &&& ~~~b).toNat)
def zi(b:Bool):V:=.d (.bool b)
def qs(k:IntKind)(n:Int):V:=.d (.int k n)
def GB(s:List UInt8):V:=.d (.str s)
def binI(op:BinOp)(k:IntKind)(x y:Int):Option (Prop×V):=
 match op with
 |.add=>some (True,.d (.int k (k.wrap (x+y))))
 |.sub=>some (True,.d (.int k (k.wrap (x-y))))
 |.mul=>some (True,.d (.int k (k.wrap (x * y))))
 |.quo=>some (y≠0,.d (.int k (k.wrap (x.tdiv y))))
 |.rem=>some (y≠0,.d (.int k (x.tmod y)))
 |.and=>some (True,.d (.int k (bitI .and k x y)))
 |.or=>some (True,.d (.int k (bitI .or k x y)))
 |.xor=>some (True,.d (.int k (bitI .xor k x y)))
 |.eql=>some (True,.d (.bool (x == y)))
 |.neq=>some (True,.d (.bool (x != y)))
 |.lss=>some (True,.d (.bool (decide (x<y))))
 |.leq=>some (True,.d (.bool (decide (x≤y))))
 |.gtr=>some (True,.d (.bool (decide (y<x))))
 |.geq=>some (True,.d (.bool (decide (y≤x))))
 |_=>none
def shI(op:BinOp)(k:IntKind)(x y:Int):Option (Prop×V):=
 match op with
 |.shl=>some (0≤y,.d (.int k (k.wrap (x * 2^min y.toNat k.bits))))
 |.shr=>some (0≤y,.d (.int k (x.fdiv (2^min y.toNat k.bits))))
 |_=>none
def binS(op:BinOp)(x y:List UInt8):Option (Prop×V):=
 match op with
 |.add=>some (x.length+y.length≤maxLen,.d (.str (x++y)))
 |.eql=>some (True,.d (.bool (x == y)))
 |.neq=>some (True,.d (.bool (x != y)))
 |_=>none
def eqD:D→D→Option Bool
 |.int k x,.int ko y=>if k=ko then some (decide (x=y))else none
 |.bool x,.bool y=>some (decide (x=y))
 |.str x,.str y=>some (decide (x=y))
 |_,_=>none
section
variable {φ:c1} {T:Nat→Prop} {h:Array Obj}
theorem oe{k:IntKind}{n:Int}{u:Value}(r:VRel φ T h (.d (.int k n)) u):u=.int k n∧k.min≤n∧n≤k.max:=by
 simp only[VRel,rep]at r;obtain⟨F,⟨aY,_,bn,dg⟩,_⟩:=r;exact⟨aY,bn,dg⟩
theorem oA{b:Bool}{u:Value}(r:VRel φ T h (.d (.bool b)) u):u=.bool b:=by
 simp only[VRel,rep]at r;obtain⟨F,⟨aY,_⟩,_⟩:=r;exact aY
theorem AX{s:List UInt8}{u:Value}(r:VRel φ T h (.d (.str s)) u):u=.string ⟨s.toArray⟩∧s.length≤maxLen:=by
 simp only[VRel,rep]at r;obtain⟨F,⟨aY,_,bn⟩,_⟩:=r;exact⟨aY,bn⟩
theorem pf{k:IntKind}{n:Int}(h1:k.min≤n∧n≤k.max):VRel φ T h (.d (.int k n)) (.int k n):=by
 simp only[VRel,rep];exact⟨[],⟨trivial,rfl,h1.1,h1.2⟩,by simp⟩
theorem wY(b:Bool):VRel φ T h (.d (.bool b)) (.bool b):=by
 simp only[VRel,rep];exact⟨[],⟨trivial,rfl⟩,by simp⟩
theorem GW{s:List UInt8}(h1:s.length≤maxLen):VRel φ T h (.d (.str s)) (.string ⟨s.toArray⟩):=by
 simp only[VRel,rep];exact⟨[],⟨trivial,rfl,h1⟩,by simp⟩
end
theorem agw(x y:List UInt8):(⟨x.toArray⟩:ByteArray)++(⟨y.toArray⟩:ByteArray)=⟨(x++y).toArray⟩:=by
 apply ByteArray.ext;simp[ByteArray.data_append]
theorem WJ(x:List UInt8):(⟨x.toArray⟩:ByteArray).toList=x:=by
 rw[Go.ByteArray.toList_eq]
section
variable {P:Program} {w:World} {φ:c1} {T:Nat→Prop} {h:Array Obj}
theorem afH{op:BinOp}{k:IntKind}{x y:Int}{p:Prop}{v:V}(hx:k.min≤x∧x≤k.max)(ai:binI op k x y=some (p,v))(hp:p)(t:TypeId) :
  ∃u,(binOp op t (.int k x) (.int k y)).run P w=.ok u w∧VRel φ T h v u:=by
 cases op<;>simp only[binI,b4,dL,reduceCtorEq]at ai<;>obtain⟨rfl,rfl⟩:=ai
 case add=>exact⟨_,by simp[binOp,Op.intArith],pf (xY _ _)⟩
 case sub=>exact⟨_,by simp[binOp,Op.intArith],pf (xY _ _)⟩
 case mul=>exact⟨_,by simp[binOp,Op.intArith],pf (xY _ _)⟩
 case quo=>exact⟨_,by simp[binOp,Op.intDiv,hp],pf (xY _ _)⟩
 case rem=>exact⟨_,by simp[binOp,Op.intDiv,hp],pf (agu hx)⟩
 case and=>exact⟨_,by simp[binOp,Op.intBits,bitI],pf (xY _ _)⟩
 case or=>exact⟨_,by simp[binOp,Op.intBits,bitI],pf (xY _ _)⟩
 case xor=>exact⟨_,by simp[binOp,Op.intBits,bitI],pf (xY _ _)⟩
 all_goals exact⟨_,by simp[binOp,Op.intCmp],wY _⟩
theorem Wj{op:BinOp}{k ko:IntKind}{x y:Int}{p:Prop}{v:V}(hx:k.min≤x∧x≤k.max)(ai:shI op k x y=some (p,v))(hp:p)(t:TypeId) :
  ∃u,(binOp op t (.int k x) (.int ko y)).run P w=.ok u w∧VRel φ T h v u:=by
 cases op<;>simp only[shI,b4,dL,reduceCtorEq]at ai<;>obtain⟨rfl,rfl⟩:=ai
 case shl=>exact⟨_,by simp[binOp,Op.shift,Int.not_lt.2 hp],pf (xY _ _)⟩
 case shr=>exact⟨_,by simp[binOp,Op.shift,Int.not_lt.2 hp],pf (agv hx)⟩
theorem afI{op:BinOp}{x y:List UInt8}{p:Prop}{v:V}(ai:binS op x y=some (p,v))(hp:p)(t:TypeId) :
  ∃u,(binOp op t (.string ⟨x.toArray⟩) (.string ⟨y.toArray⟩)).run P w=.ok u w∧VRel φ T h v u:=by
 cases op<;>simp only[binS,b4,dL,reduceCtorEq]at ai<;>obtain⟨rfl,rfl⟩:=ai
 case add=>
  refine⟨_,?_,GW (by simpa using hp)⟩;have h1:¬(((⟨x.toArray⟩:ByteArray).size+(⟨y.toArray⟩:ByteArray).size:Nat):Int)>IntKind.i64.max:=by
   have h2:(⟨x.toArray⟩:ByteArray).size=x.length:=by simp[ByteArray.size]
   have ao:(⟨y.toArray⟩:ByteArray).size=y.length:=by simp[ByteArray.size]
   have b6:IntKind.i64.max=9223372036854775807:=by decide
   rw[h2,ao,b6];simp only[maxLen]at hp;omega
  simp only[binOp,Op.stringOp];rw[if_neg h1,agw];rfl
 case eql=>exact⟨_,by simp only[binOp,Op.stringOp,WJ];rfl,wY _⟩
 case neq=>exact⟨_,by simp only[binOp,Op.stringOp,WJ];rfl,wY _⟩
end
def asB(v:V)(K:Bool→Prop):Prop:=match v with|.d (.bool b)=>K b|_=>False
def asI(v:V)(K:IntKind→Int→Prop):Prop:=match v with|.d (.int k n)=>K k n|_=>False
theorem J8{v:V}{K:Bool→Prop}(h:asB v K):∃b,v=.d (.bool b)∧K b:=by
 unfold asB at h;split at h
 ·exact⟨_,rfl,h⟩
 ·exact h.elim
theorem AW{v:V}{K:IntKind→Int→Prop}(h:asI v K):∃k n,v=.d (.int k n)∧K k n:=by
 unfold asI at h;split at h
 ·exact⟨_,_,rfl,h⟩
 ·exact h.elim
variable {P:Program} {o:Oper} {g:Bool} {σ:St} {n:Nat} {K:fW→Prop}
def dn(v:V):fW:=⟨v,[],[]⟩
theorem Vu{x:Operand}(aJ:o.op=.move x∨o.op=.assign x)(h:evg g (σ.ev x) fun v=>K (dn (lK P o.type v))):∃r,i2 P o g σ n r∧K r:=by
 obtain⟨v,cd,hr⟩:=hT h;refine⟨_,oM fun σ' bt B w0 a4 φ kp a w r hg=>⟨a.eval x,?_,Wd (hr _ _ _ _ hg (g_ bt r x))⟩,cd⟩;rcases aJ with aJ|aJ<;>(unfold execOp;rw[aJ];rfl)
def Cc(g:Bool)(c a b:V)(K:V→Prop):Prop:=
 evg g c fun c=>asB c fun x=>evg (g&&x) a fun a=>asB a fun y=>evg (g&&!x) b fun b=>asB b fun z=>K (zi (bif x then y else z))
theorem aeI{c x y:Operand}(aJ:o.op=.pick c x y)(h:Cc g (σ.ev c) (σ.ev x) (σ.ev y) fun v=>K (dn v)):∃r,i2 P o g σ n r∧K r:=by
 obtain⟨c',h,hc⟩:=hT h;obtain⟨b,rfl,h⟩:=J8 h;obtain⟨mg,h,hx⟩:=hT h;obtain⟨afx,rfl,h⟩:=J8 h;obtain⟨asH,h,hy⟩:=hT h;obtain⟨afy,rfl,h⟩:=J8 h;refine⟨_,oM fun σ' bt B w0 a4 φ kp a w r hg=>?_,h⟩;have ag:=oA (hc _ _ _ _ hg (g_ bt r c))
 cases b with
 |true=>
  have ar:=oA (hx _ _ _ _ (by simp[hg]) (g_ bt r x));exact⟨.bool afx,by unfold execOp;rw[aJ];simp[ag,ar,asBool],wY _⟩
 |false=>
  have ar:=oA (hy _ _ _ _ (by simp[hg]) (g_ bt r y));exact⟨.bool afy,by unfold execOp;rw[aJ];simp[ag,ar,asBool],wY _⟩
def eqCells:List V→List V→Option Bool
 |[],[]=>some true
 |.d x::xs,.d y::ys=>match eqD x y,eqCells xs ys with|some a,some b=>some (a&&b)|_,_=>none
 |_,_=>none
inductive qt where
 |i (k:IntKind)
 |b
 |s
def Fit1:qt→Value→Prop
 |.i q,.int BS n=>BS=q∧q.min≤n∧n≤q.max
 |.b,.bool _=>True
 |.s,.string s=>s.size≤maxLen
 |_,_=>False
def FitL:List qt→List Value→Prop
 |[],us=>us=[]
 |k::dJ,us=>∃u cT,us=u::cT∧Fit1 k u∧FitL dJ cT
def litV:Value→Lit
 |.int q n=>.int q n
 |.bool b=>.bool b
 |.string s=>.string s.data.toList
 |_=>.bool false
theorem J9:∀{dJ:List qt} {us:List Value},FitL dJ us→us.length=dJ.length
 |[],us,h=>by simp only[FitL]at h;rw[h];rfl
 |k::dJ,us,h=>by
  simp only[FitL]at h;obtain⟨u,cT,rfl,_,h⟩:=h;simp[J9 h]
theorem OQ:∀{dJ l2:List qt} {us:List Value},FitL (dJ++l2) us→FitL dJ (us.take dJ.length)∧FitL l2 (us.drop dJ.length)
 |[],l2,us,h=>by simpa [FitL]using h
 |k::dJ,l2,us,h=>by
  simp only[bz,FitL]at h;obtain⟨u,cT,rfl,h1,h⟩:=h;obtain⟨h2,ao⟩:=OQ h;exact⟨⟨u,cT.take dJ.length,by simp,h1,h2⟩,by simpa using ao⟩
def shpF(P:Program)(g:TypeId→Option (List qt)):Nat→List Field→Option (List qt)
 |_,[]=>some []
 |off,f::bK=>
  match g f.type with
  |some dJ=>if f.offset=off∧P.cellsOf f.type=dJ.length then(shpF P g (off+dJ.length) bK).map (dJ++·)else none
  |none=>none
def shp(P:Program):Nat→TypeId→Option (List qt)
 |0,_=>none
 |d+1,t=>
  match P.underlying t with
  |some .bool=>some [.b]
  |some (.int q)=>some [.i q]
  |some .string=>some [.s]
  |some (.struct bK)=>
   match shpF P (shp P d) 0 bK.toList with
   |some dJ => if P.cellsOf t = dJ.length ∧ bK.all (·.name != "_") = true then some dJ else none
   |none=>none
  |some (.array n e)=>
   match shp P d e with
   |some dJ=>if P.cellsOf e=dJ.length∧P.cellsOf t=n * dJ.length then some (List.replicate n dJ).flatten else none
   |none=>none
  |_=>none
theorem We{α β:Type}{g:α→Option β}{h:α→β}:∀(l:List α),(∀x∈l,g x=some (h x))→l.mapM g=some (l.map h)
 |[],_=>rfl
 |x::l,e=>by
  rw[List.mapM_cons,e x ξ,We l fun y hy=>e y (by simp[hy])];rfl
theorem Wf{dJ:List qt}:∀(n:Nat) (us:List Value),FitL (List.replicate n dJ).flatten us→us.length=n * dJ.length∧(∀i,i<n→FitL dJ ((us.drop (i * dJ.length)).take dJ.length))∧
  ((List.range n).map fun i=>((us.drop (i * dJ.length)).take dJ.length).map litV).flatten=us.map litV
 |0,us,h=>by
  have:us=[]:=by simpa [FitL]using h
  subst this;simp
 |n+1,us,h=>by
  rw[List.replicate_succ,List.flatten_cons]at h;obtain⟨h1,h2⟩:=OQ h;obtain⟨ao,aN,b6⟩:=Wf n _ h2;have hl:=J9 h;rw[dY]at hl;have Ee:=ao;rw[List.length_drop]at ao;have hk:dJ.length≤us.length:=by omega
  refine⟨by rw[Nat.add_mul];omega,fun i hi=>?_,?_⟩
  ·cases i with
   |zero=>simpa using h1
   |succ i=>
    have:=aN i ω
    rwa [List.drop_drop,show dJ.length+i * dJ.length=(i+1) * dJ.length from by rw[Nat.add_mul];omega]at this
  ·rw[List.range_succ_eq_map,eT,List.flatten_cons,List.map_map];have:((fun i=>((us.drop (i * dJ.length)).take dJ.length).map litV)∘Nat.succ)=fun i=>(((us.drop dJ.length).drop (i * dJ.length)).take dJ.length).map litV:=by
    funext i
    simp only[Function.comp,List.drop_drop,Nat.succ_eq_add_one];rw[show dJ.length+i * dJ.length=(i+1) * dJ.length from by rw[Nat.add_mul];omega]
   rw[this,b6,Nat.zero_mul,List.drop_zero,←List.map_append,List.take_append_drop]
theorem Wg{P:Program}{g:TypeId→Option (List qt)}{d:Nat}(hg:∀t dJ us,g t=some dJ→FitL dJ us→P.keyLits d t us=some (us.map litV))(cs:List Value):∀(bK:List Field) (off:Nat) (dJ:List qt),
  shpF P g off bK=some dJ→FitL dJ (cs.drop off)→∃l2,bK.mapM (fun f=>P.keyLits d f.type ((cs.drop f.offset).take (P.cellsOf f.type)))=some l2∧l2.flatten=(cs.drop off).map litV
 |[],off,dJ,h,hf=>by
  simp only[shpF,b4]at h;subst h;simp only[FitL]at hf;exact⟨[],rfl,by rw[hf];rfl⟩
 |f::bK,off,dJ,h,hf=>by
  simp only[shpF]at h;split at h
  ·rename_i k1 vi;split at h
   ·rename_i hc
    cases hr:shpF P g (off+k1.length) bK with
    |none=>rw[hr]at h;cases h
    |some k2=>
     rw[hr]at h;simp only[Option.map_some,b4]at h;subst h;obtain⟨h1,h2⟩:=OQ hf;rw[List.drop_drop]at h2;obtain⟨l2,ao,aN⟩:=Wg hg cs bK (off+k1.length) k2 hr h2;refine⟨((cs.drop off).take k1.length).map litV::l2,?_,?_⟩
     ·rw[List.mapM_cons,hc.1,hc.2,hg _ _ _ vi h1,ao];rfl
     ·rw[List.flatten_cons,aN,←List.drop_drop,←List.map_append,List.take_append_drop]
   ·cases h
  ·cases h
theorem J_{P:Program}:∀(d:Nat) (t:TypeId) (dJ:List qt) (us:List Value),shp P d t=some dJ→FitL dJ us→P.keyLits d t us=some (us.map litV)
 |0,t,dJ,us,h,_=>by simp[shp]at h
 |d+1,t,dJ,us,h,hf=>by
  have one:∀k,dJ=[k]→∃u,us=[u]∧Fit1 k u:=by
   rintro k rfl;simp only[FitL]at hf;obtain⟨u,cT,rfl,h1,h2⟩:=hf;exact⟨u,by rw[h2],h1⟩
  unfold shp at h;unfold Program.keyLits;split at h
  ·rename_i hu
   cases h
   obtain⟨u,rfl,h1⟩:=one _ rfl
   cases u<;>simp only[Fit1]at h1
   simp[hu,litV]
  ·rename_i q hu
   cases h
   obtain⟨u,rfl,h1⟩:=one _ rfl
   cases u<;>simp only[Fit1]at h1
   obtain⟨rfl,h1,h2⟩:=h1;simp[hu,litV,Lit.wf,h1,h2]
  ·rename_i hu
   cases h
   obtain⟨u,rfl,h1⟩:=one _ rfl
   cases u<;>simp only[Fit1]at h1
   simp[hu,litV,h1]
  ·rename_i bK hu;split at h
   ·rename_i k1 vi;split at h
    ·rename_i hc
     cases h
     obtain⟨l2,ao,aN⟩:=Wg (d:=d) (fun t dJ us=>J_ d t dJ us) us bK.toList 0 _ vi (by simpa using hf);have hl:=J9 hf;simp only[hu];rw[if_pos ⟨by omega,hc.2⟩,ao];simp[aN]
    ·cases h
   ·cases h
  ·rename_i n e hu;split at h
   ·rename_i k1 vi;split at h
    ·rename_i hc
     cases h
     obtain⟨h1,h2,ao⟩:=Wf n us hf;simp only[hu];rw[if_pos ω,We (h:=fun i=>((us.drop (i * k1.length)).take k1.length).map litV) _ fun i hi=>by
      rw[hc.1];exact J_ d e k1 _ vi (h2 i (by simpa using hi))]
     simp only[Option.map_some,ao]
    ·cases h
   ·cases h
  ·cases h
def pM(P:Program)(T:TypeId)(dJ:List qt):Prop:=
 ∀(us i3:List Value) (b:Bool) (x y:Operand) (w:World),FitL dJ us→FitL dJ i3→(b=true↔us.map litV=i3.map litV)→
  (do eqGuard .eql T x y (.agg us.toArray) (.agg i3.toArray);binOp .eql T (.agg us.toArray) (.agg i3.toArray)).run P w=.ok (.bool b) w∧
  (do eqGuard .neq T x y (.agg us.toArray) (.agg i3.toArray);binOp .neq T (.agg us.toArray) (.agg i3.toArray)).run P w=.ok (.bool !b) w
theorem EqOK_of{P:Program}{T:TypeId}{dJ:List qt}(h1:shp P 100 T=some dJ)(h2:P.eqGuardType P.depth T=false)(ao:P.keyTypeAt 100 T=true)(aN:(match P.underlying T with|some (.struct _)|some (.array _ _)=>true|_=>false)=true)(b6:P.cellsOf T=dJ.length):pM P T dJ:=by
 intro us i3 b x y w hu hw hb;have Wh:∀vs:List Value,FitL dJ vs→Value.formed P T (.agg vs.toArray)=true:=by
  intro vs hv;have:=J9 hv;unfold Value.formed;simp only;split at aN<;>first|(simp only[*];simp[this])|cases aN
 obtain⟨r,hr,hr2⟩:=run_equalIn_deep (P:=P) 9900 100 T ao w 100 100 (.agg us.toArray) (.agg i3.toArray) _ _ (Wh us hu) (Wh i3 hw) (J_ 100 T dJ _ h1 (by simpa [Value.cells]using hu)) (J_ 100 T dJ _ h1 (by simpa [Value.cells]using hw));have afz:r=b:=by
  simp only[Value.cells]at hr2;rw[Bool.eq_iff_iff,hr2,hb]
 subst afz;constructor
 ·simp only[Sem.run_bind,run_eqGuard_agg w _ T x y _ _ h2,Result.andThen_ok,run_eql_struct];rw[show(10000:Nat)=9900+100 from rfl,hr];rfl
 ·simp only[Sem.run_bind,run_eqGuard_agg w _ T x y _ _ h2,Result.andThen_ok,run_neq_struct];rw[show(10000:Nat)=9900+100 from rfl,hr];rfl
def kindsV:List V→List qt
 |[]=>[]
 |.d (.int k _)::xs=>.i k::kindsV xs
 |.d (.str _)::xs=>.s::kindsV xs
 |_::xs=>.b::kindsV xs
def isBoolI(P:Program)(T:TypeId):Bool:=match P.underlying T with|some .bool=>true|_=>false
def isPtrI(P:Program)(T:TypeId):Bool:=
 match P.underlying T with
 |some (.pointer e)=>match P.info? e with|some i=>i.size != 0|none=>false
 |_=>false
theorem afA{T:TypeId}(h:isPtrI P T=true):∃e i,P.underlying T=some (.pointer e)∧P.info? e=some i∧i.size≠0:=by
 unfold isPtrI at h;split at h
 ·rename_i e hu;split at h
  ·rename_i i hi;exact⟨e,i,hu,hi,by simpa using h⟩
  ·cases h
 ·cases h
theorem afB{T:TypeId}(b f jm:Nat)(w:World)(h:isPtrI P T=true):(binOp .eql T (.pointer (some ⟨b,f,none⟩)) (.pointer (some ⟨b,jm,none⟩))).run P w=.ok (.bool (decide (f=jm))) w:=by
 obtain⟨e,i,hu,hi,hs⟩:=afA h;have h2:∀d:Nat,(Op.equalIn (d+1) T (.pointer (some ⟨b,f,none⟩)) (.pointer (some ⟨b,jm,none⟩))).run P w=.ok (decide (f=jm)) w:=fun d=>by
  have he:((⟨b,f,none⟩:Addr) == ⟨b,jm,none⟩)=decide (f=jm):=by
   rw[Bool.eq_iff_iff];simp
  have hz:(Go.sizeOf e).run P w=Result.ok i.size w:=by simp[Go.sizeOf,typeInfo,hi]
  simp[Op.equalIn,run_underlying hu,hz,hs,sameAddr,he]
 simp only[binOp];simp[Op.equal,Op.maxDepth,h2 9999]
def binE(P:Program)(op:BinOp)(T:TypeId)(x y:V):Option (Prop×V):=
 match x,y with
 |.d (.int k a),.d (.int ko b)=>
  match op with
  |.shl=>shI .shl k a b
  |.shr=>shI .shr k a b
  |op=>if k=ko then binI op k a b else none
 |.d (.str a),.d (.str b)=>binS op a b
 |.d (.bool a),.d (.bool b)=>
  match op with
  |.eql=>if isBoolI P T then some (True,zi (a == b))else none
  |.neq=>if isBoolI P T then some (True,zi (a != b))else none
  |_=>none
 |.agg xs,.agg ys=>
  match op,eqCells xs ys with
  |.eql,some b=>some (pM P T (kindsV xs),zi b)
  |.neq,some b=>some (pM P T (kindsV xs),zi !b)
  |_,_=>none
 |.ptr id cx off,.ptr wN Wi AU=>
  match op with
  |.eql=>if id=wN∧cx=Wi∧isPtrI P T=true then some (True,zi (decide (off=AU)))else none
  |_=>none
 |_,_=>none
def withR(r:Option (Prop×V))(K:V→Prop):Prop:=match r with|some (p,v)=>p∧K v|none=>False
theorem Ck{r:Option (Prop×V)}{K:V→Prop}(h:withR r K):∃p v,r=some (p,v)∧p∧K v:=by
 unfold withR at h;split at h
 ·exact⟨_,_,rfl,h.1,h.2⟩
 ·exact h.elim
theorem OR{φ:c1}{T:Nat→Prop}{h:Array Obj}:∀(xs ys:List V) (b:Bool) (us i3:List Value),eqCells xs ys=some b→VRels φ T h xs us→VRels φ T h ys i3→(b=true↔us.map litV=i3.map litV)∧FitL (kindsV xs) us∧FitL (kindsV xs) i3
 |[],[],b,us,i3,e,r,ei=>by
  simp only[VRels]at r ei;subst r;subst ei;simp only[eqCells,b4]at e;subst e;simp[kindsV,FitL]
 |[],y::ys,b,us,i3,e,_,_=>by cases e
 |x::xs,[],b,us,i3,e,_,_=>by cases x<;>cases e
 |x::xs,y::ys,b,us,i3,e,r,ei=>by
  simp only[VRels]at r ei;obtain⟨u,cT,rfl,aY,bn⟩:=r;obtain⟨v,afC,rfl,OS,afD⟩:=ei
  cases x with
  |d afE=>
   cases y with
   |d afF=>
    simp only[eqCells]at e;split at e
    ·rename_i a ez ag ar;obtain⟨df,OT,OU⟩:=OR xs ys ez cT afC ar bn afD
     cases e
     cases afE<;>cases afF<;>simp only[eqD]at ag<;>first|(cases ag;done)|skip
     ·split at ag
      ·rename_i hk;subst hk;have k1:=oe aY;have k2:=oe OS;rw[k1.1,k2.1];cases ag;simp only[kindsV,FitL,eT,litV];exact⟨by simp[df],⟨_,_,rfl,⟨rfl,k1.2⟩,OT⟩,⟨_,_,rfl,⟨rfl,k2.2⟩,OU⟩⟩
      ·cases ag
     ·rw[oA aY,oA OS];cases ag;simp only[kindsV,FitL,eT,litV];exact⟨by simp[df],⟨_,_,rfl,trivial,OT⟩,⟨_,_,rfl,trivial,OU⟩⟩
     ·have k1:=AX aY;have k2:=AX OS;rw[k1.1,k2.1];cases ag;simp only[kindsV,FitL,eT,litV];exact⟨by simp[df],⟨_,_,rfl,by simpa [Fit1,ByteArray.size]using k1.2,OT⟩,⟨_,_,rfl,by simpa [Fit1,ByteArray.size]using k2.2,OU⟩⟩
    ·cases e
   |_=>cases e
  |_=>cases e
theorem Gi{φ:c1}{T:Nat→Prop}{h:Array Obj}{vs:List V}{u:Value}(r:VRel φ T h (.agg vs) u):∃us:Array Value,u=.agg us∧VRels φ T h vs us.toList:=by
 simpa only[VRel]using r
theorem run_equalIn_bool(d:Nat){T:TypeId}(a b:Bool)(w:World)(hu:P.underlying T=some .bool):(Op.equalIn (d+1) T (.bool a) (.bool b)).run P w=.ok (a == b) w:=by
 simp[Op.equalIn,run_underlying hu]
theorem run_eql_bool{T:TypeId}(a b:Bool)(w:World)(hu:P.underlying T=some .bool):(binOp .eql T (.bool a) (.bool b)).run P w=.ok (.bool (a == b)) w:=by
 simp only[binOp];simp[Op.equal,Op.maxDepth,run_equalIn_bool 9999 a b w hu]
theorem run_neq_bool{T:TypeId}(a b:Bool)(w:World)(hu:P.underlying T=some .bool):(binOp .neq T (.bool a) (.bool b)).run P w=.ok (.bool (a != b)) w:=by
 simp only[binOp];simp[Op.equal,Op.maxDepth,run_equalIn_bool 9999 a b w hu,bne]
theorem afG{op:BinOp}{T:TypeId}{x y:V}{p:Prop}{v:V}(ai:binE P op T x y=some (p,v))(hp:p){φ:c1}{OV:Nat→Prop}{h:Array Obj}{u xP:Value}(d8:VRel φ OV h x u)(m9:VRel φ OV h y xP)
  (J' xX:Operand) (w:World):∃z,(do eqGuard op T J' xX u xP;binOp op T u xP).run P w=.ok z w∧VRel φ OV h v z:=by
 have Ka:∀(op:BinOp) (a b:Value),(∀cs ds,¬(a=.agg cs∧b=.agg ds))→¬(a=.nilIface∧b=.nilIface)→(eqGuard op T J' xX a b).run P w=.ok () w:=by
  intro op a b h1 h2;unfold eqGuard
  cases op<;>simp<;>(split<;>first|rfl|(exact absurd ⟨rfl,rfl⟩ h2)|(exact absurd ⟨rfl,rfl⟩ (h1 _ _)))
 unfold binE at ai;split at ai
 ·rename_i k GV ko q;have ag:=oe d8;have ar:=oe m9;rw[ag.1,ar.1];have hg:=Ka op (.int k GV) (.int ko q) (fun _ _ h=>by cases h.1) (fun h=>by cases h.1);simp only[Sem.run_bind,hg,Result.andThen_ok];split at ai
  ·exact Wj ag.2 ai hp T
  ·exact Wj ag.2 ai hp T
  ·split at ai
   ·rename_i hk;subst hk;exact afH ag.2 ai hp T
   ·cases ai
 ·rename_i a b;have ag:=AX d8;have ar:=AX m9;rw[ag.1,ar.1];have hg:=Ka op (.string ⟨a.toArray⟩) (.string ⟨b.toArray⟩) (fun _ _ h=>by cases h.1) (fun h=>by cases h.1);simp only[Sem.run_bind,hg,Result.andThen_ok];exact afI ai hp T
 ·rename_i a b;have ag:=oA d8;have ar:=oA m9;rw[ag,ar];have hg:=Ka op (.bool a) (.bool b) (fun _ _ h=>by cases h.1) (fun h=>by cases h.1);simp only[Sem.run_bind,hg,Result.andThen_ok];split at ai
  ·split at ai
   ·rename_i hb;simp only[b4,dL]at ai;obtain⟨_,rfl⟩:=ai;have hu:P.underlying T=some .bool:=by unfold isBoolI at hb;split at hb<;>first|assumption|cases hb
    exact⟨.bool (a == b),run_eql_bool a b w hu,wY _⟩
   ·cases ai
  ·split at ai
   ·rename_i hb;simp only[b4,dL]at ai;obtain⟨_,rfl⟩:=ai;have hu:P.underlying T=some .bool:=by unfold isBoolI at hb;split at hb<;>first|assumption|cases hb
    exact⟨.bool (a != b),run_neq_bool a b w hu,wY _⟩
   ·cases ai
  ·cases ai
 ·rename_i xs ys;obtain⟨us,rfl,aY⟩:=Gi d8;obtain⟨i3,rfl,bn⟩:=Gi m9;split at ai
  ·rename_i b he;simp only[b4,dL]at ai;obtain⟨rfl,rfl⟩:=ai;obtain⟨ag,ar,ba⟩:=OR _ _ _ _ _ he aY bn;have:=(hp us.toList i3.toList b J' xX w ar ba ag).1;exact⟨_,this,wY _⟩
  ·rename_i b he;simp only[b4,dL]at ai;obtain⟨rfl,rfl⟩:=ai;obtain⟨ag,ar,ba⟩:=OR _ _ _ _ _ he aY bn;have:=(hp us.toList i3.toList b J' xX w ar ba ag).2;exact⟨_,this,wY _⟩
  ·cases ai
 ·rename_i id cx off wN Wi AU;split at ai
  ·split at ai
   ·rename_i hc;obtain⟨rfl,rfl,hc⟩:=hc;simp only[b4,dL]at ai;obtain⟨_,rfl⟩:=ai;simp only[VRel]at d8 m9;obtain⟨β,b,bD,bX,bu⟩:=d8;obtain⟨bI,ez,k1,k2,dR⟩:=m9;rw[bD]at k1;cases k1;rw[bX]at k2;cases k2;rw[bu,dR];have hg:=Ka .eql (.pointer (some ⟨b,β.off+cx * β.sz+off,none⟩)) (.pointer (some ⟨b,β.off+cx * β.sz+AU,none⟩)) (fun _ _ h=>by cases h.1) (fun h=>by cases h.1);simp only[Sem.run_bind,hg,Result.andThen_ok];have e:decide (off=AU)=decide (β.off+cx * β.sz+off=β.off+cx * β.sz+AU):=by
     rw[decide_eq_decide];omega
    rw[e];exact⟨_,afB b _ _ w hc,wY _⟩
   ·cases ai
  ·cases ai
 ·cases ai
theorem aeJ{op:BinOp}{T hS:TypeId}{x y:Operand}(aJ:o.op=.binOp op T x y hS)
  (h:evg g (σ.ev x) fun a=>evg g (σ.ev y) fun b=>withR (binE P op T a b) fun v=>K (dn v)):∃r,i2 P o g σ n r∧K r:=by
 obtain⟨m8,h,hx⟩:=hT h;obtain⟨DV,h,hy⟩:=hT h;obtain⟨p,v,ai,hp,cd⟩:=Ck h;refine⟨_,oM fun σ' bt B w0 a4 φ kp a w r hg=>?_,cd⟩;obtain⟨z,h1,h2⟩:=afG ai hp (hx _ _ _ _ hg (g_ bt r x)) (hy _ _ _ _ hg (g_ bt r y)) x y w;refine⟨z,?_,h2⟩;unfold execOp;simp only[aJ,Sem.run_bind,h1,Result.andThen_ok];rfl
variable {P:Program} {o:Oper} {g:Bool} {σ:St} {n:Nat} {K:fW→Prop}
def unE(op:UnOp)(v:V):Option V:=
 match op,v with
 |.not,.d (.bool b)=>some (zi !b)
 |.neg,.d (.int k x)=>some (qs k (k.wrap (0-x)))
 |_,_=>none
def withO(r:Option V)(K:V→Prop):Prop:=match r with|some v=>K v|none=>False
theorem Kb{r:Option V}{K:V→Prop}(h:withO r K):∃v,r=some v∧K v:=by
 unfold withO at h;split at h
 ·exact⟨_,rfl,h⟩
 ·exact h.elim
theorem aeK{op:UnOp}{T:TypeId}{x:Operand}(aJ:o.op=.unOp op T x)(h:evg g (σ.ev x) fun a=>withO (unE op a) fun v=>K (dn v)):∃r,i2 P o g σ n r∧K r:=by
 obtain⟨m8,h,hx⟩:=hT h;obtain⟨v,ai,cd⟩:=Kb h;refine⟨_,oM fun σ' bt B w0 a4 φ kp a w r hg=>?_,cd⟩;have d8:=hx _ _ _ _ hg (g_ bt r x);unfold unE at ai;split at ai
 ·cases ai;exact⟨.bool _,by unfold execOp;rw[aJ];simp[oA d8,Op.unary],wY _⟩
 ·cases ai;exact⟨.int _ _,by unfold execOp;rw[aJ];simp[(oe d8).1,Op.unary,Op.intArith],pf (xY _ _)⟩
 ·cases ai
def lenE(P:Program)(T:TypeId)(v:V):Option Nat:=
 match v with
 |.d (.str s)=>if isStrI P T then some s.length else none
 |.d (.sl _ xs)=>if(elI P T).isSome then some xs.length else none
 |.ee _=>if(elI P T).isSome then some 0 else none
 |.sl _ _ len=>if(elI P T).isSome then some len else none
 |_=>none
theorem AI{T:TypeId}{e sz hH:Nat}(h:elI P T=some (e,sz,hH)):∃i,P.underlying T=some (.slice e)∧P.info? e=some i∧i.size=sz∧i.bytes=hH:=by
 unfold elI at h;split at h
 ·rename_i e' hu
  cases hi:P.info? e' with
  |none=>rw[hi]at h;cases h
  |some i=>
   rw[hi]at h;simp only[Option.map_some,b4,dL]at h;obtain⟨rfl,rfl,rfl⟩:=h;exact⟨i,hu,hi,rfl,rfl⟩
 ·cases h
theorem Ef{T:TypeId}(h:isStrI P T=true):P.underlying T=some .string:=by
 unfold isStrI at h;split at h<;>first|assumption|cases h
theorem OW{T:TypeId}{k:IntKind}(h:intI P T=some k):P.underlying T=some (.int k):=by
 unfold intI at h;split at h
 ·cases h;assumption
 ·cases h
theorem AF{φ:c1}{T:Nat→Prop}{h:Array Obj}{id off len:Nat}{u:Value}(r:VRel φ T h (.sl id off len) u) :
  ∃β a c,φ id=some β∧u=.slice a len c∧len≤c∧c≤maxLen∧((c=0∧len=0∧off=β.cap)∨∃b,β.fx=some b∧a=some ⟨b,β.off+off * β.sz,none⟩∧off+c=β.cap):=by
 simp only[VRel]at r;obtain⟨β,a,c,h1,h2,ao,aN⟩:=r;rcases aN with aN|⟨b,aN,b6,dP,gY⟩
 ·exact⟨β,a,c,h1,h2,by omega,ao,.inl aN⟩
 ·exact⟨β,a,c,h1,h2,dP,ao,.inr ⟨b,aN,b6,gY⟩⟩
theorem Ge{φ:c1}{T:Nat→Prop}{h:Array Obj}{sz:Nat}{xs:List (List D)}{u:Value}(r:VRel φ T h (.d (.sl sz xs)) u) :
  ∃a c,u=.slice a xs.length c∧xs.length≤c∧c≤maxLen∧(xs=[]∨∃b f G,a=some ⟨b,f,none⟩∧b<h.size∧T b∧repE h false b f sz xs G∧∀g∈G,T g):=by
 simp only[VRel,rep]at r;obtain⟨F,⟨a,c,h1,h2,ao,aN⟩,cM⟩:=r;refine⟨a,c,h1,h2,ao,?_⟩;rcases aN with aN|⟨b,f,G,ag,ar,ba,bF,_⟩
 ·exact .inl aN.1
 ·subst ar;exact .inr ⟨b,f,G,ag,ba,cM b ξ,bF,fun g hg=>cM g (by simp[hg])⟩
theorem Kc{φ:c1}{T:Nat→Prop}{h:Array Obj}{m:Nat}(hm:m≤maxLen):VRel φ T h (qs .i64 m) (goInt m):=by
 refine pf ⟨?_,?_⟩
 ·have:IntKind.i64.min=-9223372036854775808:=by decide
  rw[this];omega
 ·have:IntKind.i64.max=9223372036854775807:=by decide
  rw[this];simp only[maxLen]at hm;omega
theorem ok_len{c:Call}{x:Operand}{T:TypeId}(aJ:o.op=.call c)(hc:c={callee:=.builtin .len,args:=#[x],argTypes:=#[T]})
  (h:evg g (σ.ev x) fun a=>match lenE P T a with|some m=>K (dn (qs .i64 m))|none=>False):∃r,i2 P o g σ n r∧K r:=by
 subst hc;obtain⟨m8,h,hx⟩:=hT h;split at h
 ·rename_i m hm;refine⟨_,oM fun σ' bt B w0 a4 φ kp a w r hg=>?_,h⟩;have d8:=hx _ _ _ _ hg (g_ bt r x);have hs:∀{e sz hH:Nat} {ad:Option Addr} {l nM:Nat},elI P T=some (e,sz,hH)→a.eval x=.slice ad l nM→(execOp a.eval o).run P w=.ok (.value (goInt l)) w:=by
   intro e sz hH ad l nM he hu;obtain⟨i,qm,_⟩:=AI he;unfold execOp;rw[aJ];simp[resolve,invoke,builtin,Builtin.len_,run_underlying qm,hu]
  unfold lenE at hm;split at hm
  ·split at hm
   ·rename_i s hs'
    cases hm
    have ag:=AX d8;refine⟨goInt s.length,?_,Kc ag.2⟩;unfold execOp;rw[aJ];have:(⟨s.toArray⟩:ByteArray).size=s.length:=by simp[ByteArray.size]
    simp[resolve,invoke,builtin,Builtin.len_,run_underlying (Ef hs'),ag.1,this]
   ·cases hm
  ·split at hm
   ·rename_i sz xs he
    cases hm
    obtain⟨ad,nM,ag,ar,ba,_⟩:=Ge d8;obtain⟨⟨e,s,hH⟩,he⟩:=Option.isSome_iff_exists.1 he;exact⟨_,hs he ag,Kc ω⟩
   ·cases hm
  ·split at hm
   ·rename_i sz he
    cases hm
    obtain⟨⟨e,s,hH⟩,he⟩:=Option.isSome_iff_exists.1 he;simp only[VRel]at d8;exact⟨_,hs he d8,Kc ζ⟩
   ·cases hm
  ·split at hm
   ·rename_i id off len he
    cases hm
    obtain⟨β,ad,nM,_,ag,ar,ba,_⟩:=AF d8;obtain⟨⟨e,s,hH⟩,he⟩:=Option.isSome_iff_exists.1 he;exact⟨_,hs he ag,Kc ω⟩
   ·cases hm
  ·cases hm
 ·exact h.elim
def extE(v:V)(i:Nat):Option V:=match v with|.eh vs=>vs[i]?|_=>none
theorem aeL{x:Operand}{i:Nat}(aJ:o.op=.extract x i)(h:evg g (σ.ev x) fun a=>withO (extE a i) fun v=>K (dn v)):∃r,i2 P o g σ n r∧K r:=by
 obtain⟨m8,h,hx⟩:=hT h;obtain⟨v,ai,cd⟩:=Kb h;refine⟨_,oM fun σ' bt B w0 a4 φ kp a w r hg=>?_,cd⟩;have d8:=hx _ _ _ _ hg (g_ bt r x);unfold extE at ai;split at ai
 ·simp only[VRel]at d8;obtain⟨us,ag,aY⟩:=d8;obtain⟨u,ar,bn⟩:=wQ _ _ aY i v ai;rw[Array.getElem?_toList]at ar;exact⟨u,by unfold execOp;rw[aJ];simp[ag,Instr.extract,ar],bn⟩
 ·cases ai
def ptrE(v:V):Bool:=match v with|.ptr _ _ _|.gj _ _=>true|_=>false
theorem afJ{φ:c1}{T:Nat→Prop}{h:Array Obj}{v:V}{u:Value}(hv:ptrE v=true)(r:VRel φ T h v u):∃b f,u=.pointer (some ⟨b,f,none⟩):=by
 unfold ptrE at hv;split at hv
 ·simp only[VRel]at r;obtain⟨β,b,_,_,r⟩:=r;exact⟨_,_,r⟩
 ·simp only[VRel]at r;obtain⟨b,f,G,r,_⟩:=r;exact⟨_,_,r⟩
 ·cases hv
theorem aeM{x:Operand}(aJ:o.op=.nilCheck x)(h:evg g (σ.ev x) fun a=>ptrE a=true∧K (dn a)):∃r,i2 P o g σ n r∧K r:=by
 obtain⟨m8,h,hx⟩:=hT h;refine⟨_,oM fun σ' bt B w0 a4 φ kp a w r hg=>?_,h.2⟩;have d8:=hx _ _ _ _ hg (g_ bt r x);obtain⟨b,f,e⟩:=afJ h.1 d8;exact⟨a.eval x,by unfold execOp;rw[aJ];simp[e],d8⟩
def faE(P:Program)(S:TypeId)(f:Nat)(v:V):Option V:=
 match fdI P S f,v with
 |some d,.ptr id cx off=>some (.ptr id cx (off+d))
 |some d,.gj cells off=>some (.gj cells (off+d))
 |_,_=>none
theorem add_lit(b f m:Nat):(⟨b,f,none⟩:Addr).add m=⟨b,f+m,none⟩:=by
 unfold Addr.add;split<;>simp_all
theorem aeN{S:TypeId}{x:Operand}{f:Nat}(aJ:o.op=.fieldAddr S x f)(h:evg g (σ.ev x) fun a=>withO (faE P S f a) fun v=>K (dn v)):∃r,i2 P o g σ n r∧K r:=by
 obtain⟨m8,h,hx⟩:=hT h;obtain⟨v,ai,cd⟩:=Kb h;refine⟨_,oM fun σ' bt B w0 a4 φ kp a w r hg=>?_,cd⟩;have d8:=hx _ _ _ _ hg (g_ bt r x);unfold faE at ai;have key:∀{d b p:Nat},fdI P S f=some d→a.eval x=.pointer (some ⟨b,p,none⟩)→(execOp a.eval o).run P w=.ok (.value (.pointer (some ⟨b,p+d,none⟩))) w:=by
  intro d b p hd hu;unfold fdI at hd;split at hd
  ·rename_i bK a1;split at hd
   ·rename_i J7 u7;split at hd
    ·rename_i i hi;split at hd
     ·cases hd
     ·rename_i hz
      cases hd
      unfold execOp;rw[aJ];have h1:(Go.sizeOf J7.type).run P w=Result.ok i.size w:=by simp[Go.sizeOf,typeInfo,hi]
      simp[Instr.fieldAt,run_underlying a1,u7,hu,Instr.sureAddr,fieldPlace,h1,hz,add_lit]
    ·cases hd
   ·cases hd
  ·cases hd
 split at ai
 ·rename_i d id cx off hd
  cases ai
  simp only[VRel]at d8;obtain⟨β,b,ag,ar,ba⟩:=d8;exact⟨_,key hd ba,by simp only[VRel];exact⟨β,b,ag,ar,by simp[Nat.add_assoc]⟩⟩
 ·rename_i d cells off hd
  cases ai
  simp only[VRel]at d8;obtain⟨b,p,G,ag,ar⟩:=d8;exact⟨_,key hd ag,by simp only[VRel];exact⟨b,p,G,by simp[Nat.add_assoc],ar⟩⟩
 ·cases ai
variable {P:Program} {o:Oper} {g:Bool} {σ:St} {n:Nat} {K:fW→Prop}
def H.els:H→Option (Nat×List (List D))
 |.ah sz xs _=>some (sz,xs)
 |.jK sz xs=>some (sz,xs)
 |_=>none
def H.esz:H→Option Nat
 |.ah sz _ _=>some sz
 |.jK sz _=>some sz
 |.aj sz _=>some sz
 |.hN sz _ _ _=>some sz
 |_=>none
def iaE(P:Program)(hs:List H)(T:TypeId)(x:V)(i:Int):Option (Prop×V):=
 match x with
 |.sl id off len=>
  match elI P T,(a5 hs id).esz with
  |some (_,sz,_),some ij=>if sz=ij then some (0≤i∧i<len,.ptr id (off+i.toNat) 0)else none
  |some (_,sz,_),none=>match a5 hs id with|.box _=>if sz=1∧off=0 then some (0≤i∧i<len,.ptr id 0 i.toNat)else none|_=>none
  |_,_=>none
 |.d (.sl ij xs)=>
  match elI P T with
  |some (_,sz,_)=>if sz=ij then some (0≤i∧i.toNat<xs.length,.gj ((xs[i.toNat]?).getD []) 0)else none
  |none=>none
 |.ptr id cx off=>
  match arI P T with
  |some (len,sz)=>some (0≤i∧i<len,.ptr id cx (off+i.toNat * sz))
  |none=>none
 |.gj cells off=>
  match arI P T with
  |some (len,sz)=>some (0≤i∧i<len,.gj cells (off+i.toNat * sz))
  |none=>none
 |_=>none
theorem OX{φ:c1}{T:Nat→Prop}{h:Array Obj}{β:il}{x:H}{sz:Nat}{xs:List (List D)}(he:x.els=some (sz,xs))(r:fk φ T h β x):β.sz=sz:=by
 cases x<;>simp only[H.els,reduceCtorEq,b4,dL]at he
 ·simp only[fk]at r;rw[r.1,he.1]
 ·simp only[fk]at r;rw[r.1,he.1]
theorem afK{φ:c1}{T:Nat→Prop}{h:Array Obj}{β:il}{x:H}{sz:Nat}(he:x.esz=some sz)(r:fk φ T h β x):β.sz=sz:=by
 cases x<;>simp only[H.esz,reduceCtorEq,b4]at he<;>(simp only[fk]at r;rw[r.1,he])
theorem Wk{σ σ':St}(bt:σ.le σ'){id:Nat}{p:Nat}(he:(a5 σ.heap id).esz=some p):(a5 σ'.heap id).esz=some p:=by
 rcases bt.2 id with h|h
 ·rw[h]at he;cases he
 ·rw[h];exact he
theorem afL{B:Nat→Prop}{w0:World}{a4:Nat→Prop}{φ:c1}{kp:List (V×Value)}{a:Act}{w:World}{σ:St}(r:R B w0 a4 φ σ kp a w){id:Nat}{p:Nat}(he:(a5 σ.heap id).esz=some p) :
  ∃β,φ id=some β∧fk φ (c9 φ σ.heap) w.heap β (a5 σ.heap id):=by
 rcases r.hp id with h|h
 ·rw[h]at he;cases he
 ·exact h
theorem DQ{σ σ':St}(bt:σ.le σ'){id:Nat}{p:Nat×List (List D)}(he:(a5 σ.heap id).els=some p):(a5 σ'.heap id).els=some p:=by
 rcases bt.2 id with h|h
 ·rw[h]at he;cases he
 ·rw[h];exact he
theorem JC{B:Nat→Prop}{w0:World}{a4:Nat→Prop}{φ:c1}{kp:List (V×Value)}{a:Act}{w:World}{σ:St}(r:R B w0 a4 φ σ kp a w){id:Nat}{p:Nat×List (List D)}(he:(a5 σ.heap id).els=some p) :
  ∃β,φ id=some β∧fk φ (c9 φ σ.heap) w.heap β (a5 σ.heap id):=by
 rcases r.hp id with h|h
 ·rw[h]at he;cases he
 ·exact h
theorem afM{T:TypeId}{l sz:Nat}(h:arI P T=some (l,sz)):∃e i,P.underlying T=some (.array l e)∧P.info? e=some i∧i.size=sz:=by
 unfold arI at h;split at h
 ·rename_i asJ e' hu
  cases hi:P.info? e' with
  |none=>rw[hi]at h;cases h
  |some i=>
   rw[hi]at h;simp only[Option.map_some,b4,dL]at h;obtain⟨rfl,rfl⟩:=h;exact⟨e',i,hu,hi,rfl⟩
 ·cases h
theorem aeO{T:TypeId}{x kE:Operand}(aJ:o.op=.indexAddr T x kE)
  (h:evg g (σ.ev x) fun a=>evg g (σ.ev kE) fun b=>asI b fun _ i=>withR (iaE P σ.heap T a i) fun v=>K (dn v)):∃r,i2 P o g σ n r∧K r:=by
 obtain⟨m8,h,hx⟩:=hT h;obtain⟨DV,h,hy⟩:=hT h;obtain⟨k,i,rfl,h⟩:=AW h;obtain⟨p,v,ai,hp,cd⟩:=Ck h;refine⟨_,oM fun σ' bt B w0 a4 φ kp a w r hg=>?_,cd⟩;have d8:=hx _ _ _ _ hg (g_ bt r x);have m9:=oe (hy _ _ _ _ hg (g_ bt r kE));have slice:∀{e sz hH:Nat} {b f len nM:Nat},elI P T=some (e,sz,hH)→a.eval x=.slice (some ⟨b,f,none⟩) len nM→0≤i→i<len→
   (execOp a.eval o).run P w=.ok (.value (.pointer (some ⟨b,f+i.toNat * sz,none⟩))) w:=by
  intro e sz hH b f len nM he hu h0 h1;obtain⟨pg,qm,hi,hs,_⟩:=AI he;unfold execOp;rw[aJ];have d':(Go.sizeOf e).run P w=Result.ok sz w:=by simp[Go.sizeOf,typeInfo,hi,hs]
  simp[Instr.indexAt,run_underlying qm,hu,m9.1,asIntOf,h0,h1,d',add_lit]
 have array:∀{l sz b f:Nat},arI P T=some (l,sz)→a.eval x=.pointer (some ⟨b,f,none⟩)→0≤i→i<l→(execOp a.eval o).run P w=.ok (.value (.pointer (some ⟨b,f+i.toNat * sz,none⟩))) w:=by
  intro l sz b f he hu h0 h1;obtain⟨e,pg,qm,hi,hs⟩:=afM he;unfold execOp;rw[aJ];have d':(Go.sizeOf e).run P w=Result.ok sz w:=by simp[Go.sizeOf,typeInfo,hi,hs]
  simp[Instr.indexAt,run_underlying qm,hu,m9.1,asIntOf,h0,h1,d',add_lit,Instr.sureAddr]
 unfold iaE at ai;split at ai
 ·rename_i id off len;split at ai
  ·rename_i e sz hH ij he hel;split at ai
   ·rename_i d';subst d';simp only[b4,dL]at ai;obtain⟨rfl,rfl⟩:=ai;obtain⟨β,ad,c,ag,ar,ba,bF,c6⟩:=AF d8;obtain⟨bI,g',hr⟩:=afL r (Wk bt hel);rw[ag]at g';cases g';have hs:=afK (Wk bt hel) hr;rcases c6 with c6|⟨b,c6,js,nK⟩
    ·have:=hp.2;omega
    ·subst js;refine⟨_,slice he ar hp.1 hp.2,?_⟩;simp only[VRel];refine⟨β,b,ag,c6,?_⟩;rw[hs,Nat.add_mul];simp[Nat.add_assoc]
   ·cases ai
  ·rename_i e sz hH he Wl;split at ai
   ·rename_i cells asK;split at ai
    ·rename_i hc;obtain⟨rfl,rfl⟩:=hc;simp only[b4,dL]at ai;obtain⟨rfl,rfl⟩:=ai;obtain⟨β,ad,c,ag,ar,ba,bF,c6⟩:=AF d8;rcases c6 with c6|⟨b,c6,js,nK⟩
     ·have:=hp.2;omega
     ·subst js;refine⟨_,slice he ar hp.1 hp.2,?_⟩;simp only[VRel];exact⟨β,b,ag,c6,by simp⟩
    ·cases ai
   ·cases ai
  ·cases ai
 ·rename_i ij xs;split at ai
  ·rename_i e sz hH he;split at ai
   ·rename_i d';subst d';simp only[b4,dL]at ai;obtain⟨rfl,rfl⟩:=ai;obtain⟨ad,c,ag,ar,ba,bF⟩:=Ge d8;rcases bF with bF|⟨b,f,G,bF,c6,js,nK,Eg⟩
    ·subst bF;simp at hp
    ·subst bF;have hlt:=hp.2;obtain⟨cy,pd,cl,rfl,k1,_,k2,_⟩:=Gu nK (cD hlt);refine⟨_,slice he ag hp.1 ω,?_⟩;simp only[VRel];refine⟨b,f+i.toNat * sz,pd,by simp,c6,js,?_,fun g hg=>Eg g (by simp[hg])⟩;rw[cD hlt];exact k2
   ·cases ai
  ·cases ai
 ·rename_i id cx off;split at ai
  ·rename_i len sz he;simp only[b4,dL]at ai;obtain⟨rfl,rfl⟩:=ai;simp only[VRel]at d8;obtain⟨β,b,ag,ar,ba⟩:=d8;exact⟨_,array he ba hp.1 hp.2,by simp only[VRel];exact⟨β,b,ag,ar,by simp[Nat.add_assoc]⟩⟩
  ·cases ai
 ·rename_i cells off;split at ai
  ·rename_i len sz he;simp only[b4,dL]at ai;obtain⟨rfl,rfl⟩:=ai;simp only[VRel]at d8;obtain⟨b,f,G,ag,ar⟩:=d8;exact⟨_,array he ag hp.1 hp.2,by simp only[VRel];exact⟨b,f,G,by simp[Nat.add_assoc],ar⟩⟩
  ·cases ai
 ·cases ai
def xU(hJ:Bool)(vs:List V):V:=if hJ then .agg vs else vs.headD .al
def loadE(P:Program)(hs:List H)(T:TypeId)(x:V):Option (Prop×V):=
 match tyI P T,x with
 |some (sz,hJ),.ptr id cx off=>
  match a5 hs id with
  |.box cells=>some (cx=0∧off+sz≤cells.length∧(hJ=false→sz=1),xU hJ ((cells.drop off).take sz))
  |.ah _ xs _=>some (cx<xs.length∧off+sz≤((xs[cx]?).getD []).length∧(hJ=false→sz=1),xU hJ (((((xs[cx]?).getD []).drop off).take sz).map V.d))
  |.jK _ xs=>some (cx<xs.length∧off+sz≤((xs[cx]?).getD []).length∧(hJ=false→sz=1),xU hJ (((((xs[cx]?).getD []).drop off).take sz).map V.d))
  |.hN _ pre cells _=>some (cx=pre.length∧off+sz≤cells.length∧(hJ=false→sz=1),xU hJ ((cells.drop off).take sz))
  |_=>none
 |some (sz,hJ),.gj cells off=>some (off+sz≤cells.length∧(hJ=false→sz=1),xU hJ (((cells.drop off).take sz).map V.d))
 |_,_=>none
theorem OK{T:TypeId}{sz:Nat}{hJ:Bool}(h:tyI P T=some (sz,hJ)):∃i,P.info? T=some i∧i.size=sz∧∀w,(isAgg T).run P w=.ok hJ w:=by
 unfold tyI at h;split at h
 ·rename_i i d h1 h2;simp only[b4,dL]at h;obtain⟨rfl,rfl⟩:=h;refine⟨i,h1,rfl,fun w=>?_⟩;unfold isAgg;simp only[Sem.run_bind,run_underlying h2,Result.andThen_ok]
  cases d<;>rfl
 ·cases h
theorem run_load{T:TypeId}{sz:Nat}{hJ:Bool}(h:tyI P T=some (sz,hJ)){w:World}{b f:Nat}{us:List Value}(hl:us.length=sz)(h1:hJ=false→sz=1)(hc:∀(j:Nat) (u:Value),us[j]?=some u→cellAt w.heap b (f+j)=some u) :
  (loadVar T ⟨b,f,none⟩).run P w=.ok (if hJ then .agg us.toArray else us.headD undef) w:=by
 obtain⟨i,hi,hs,OY⟩:=OK h;unfold loadVar;simp only[Sem.run_bind,OY,Result.andThen_ok]
 cases hJ with
 |true=>
  have:=run_loadCells_list (P:=P) w ⟨b,f,none⟩ us (fun j v aK=>by rw[add_lit,cell_eq];exact hc j v aK);simp[Go.sizeOf,typeInfo,hi,hs,←hl,this]
 |false=>
  have d':=h1 rfl
  match us,hl,d' with
  |[u],_,_=>
   have h0:=hc 0 u rfl;rw[Nat.add_zero,←cell_eq]at h0;simp[h0]
theorem afN{φ:c1}{T:Nat→Prop}{h:Array Obj}{hJ:Bool}{vs:List V}{us:List Value}{sz:Nat}(hl:us.length=sz)(h1:hJ=false→sz=1)(r:VRels φ T h vs us) :
  VRel φ T h (xU hJ vs) (if hJ then .agg us.toArray else us.headD undef):=by
 cases hJ with
 |true=>simp only[xU,if_true,VRel];exact⟨us.toArray,rfl,r⟩
 |false=>
  have d':=h1 rfl
  match us,hl,d' with
  |[u],_,_=>
   cases vs with
   |nil=>simp only[VRels]at r;cases r
   |cons v vs=>
    simp only[VRels]at r;obtain⟨xP,cT,e,aY,bn⟩:=r
    cases e
    simpa [xU]using aY
theorem Kd{φ:c1}{T:Nat→Prop}{h:Array Obj}{b:Nat}:∀(ds:List D) (f:Nat) (G:List Nat),repC h false b f ds G→(∀g∈G,T g)→∃us:List Value,us.length=ds.length∧VRels φ T h (ds.map V.d) us∧∀(j:Nat) (u:Value),us[j]?=some u→cellAt h b (f+j)=some u
 |[],_,_,_,_=>⟨[],rfl,by simp[VRels],by simp⟩
 |d::ds,f,G,r,cM=>by
  simp only[repC]at r;obtain⟨v,cy,cl,rfl,ar,ba,bF⟩:=r;obtain⟨us,k1,k2,dR⟩:=Kd ds (f+1) cl bF (fun g hg=>cM g (by simp[hg]));refine⟨v::us,by simp[k1],?_,fun j u aK=>?_⟩
  ·simp only[eT,VRels,VRel];exact⟨v,us,rfl,⟨cy,ba,fun g hg=>cM g (by simp[hg])⟩,k2⟩
  ·cases j with
   |zero=>simp at aK;subst aK;simpa using ar
   |succ j=>rw[show f+(j+1)=f+1+j from by omega];exact dR j u (by simpa using aK)
theorem afO{h:Array Obj}{b f:Nat}{us:List Value}(hc:∀(j:Nat) (u:Value),us[j]?=some u→cellAt h b (f+j)=some u)(off sz:Nat) :
  ∀(j:Nat) (u:Value),((us.drop off).take sz)[j]?=some u→cellAt h b (f+off+j)=some u:=by
 intro j u aK;rw[List.getElem?_take]at aK;split at aK
 ·rw[List.getElem?_drop]at aK;rw[Nat.add_assoc];exact hc _ _ aK
 ·cases aK
theorem Wm{B:Nat→Prop}{w0:World}{a4:Nat→Prop}{φ:c1}{kp:List (V×Value)}{a:Act}{w:World}{σ:St}(r:R B w0 a4 φ σ kp a w){id:Nat}{sz:Nat}{xs:List (List D)}(he:(a5 σ.heap id).els=some (sz,xs))
  {β:il} (hb:φ id=some β) {cx:Nat} (hi:cx<xs.length):∃b,β.fx=some b∧∃us:List Value,us.length=((xs[cx]?).getD []).length∧VRels φ (c9 φ σ.heap) w.heap (((xs[cx]?).getD []).map V.d) us∧
   ∀(j:Nat) (u:Value),us[j]?=some u→cellAt w.heap b (β.off+cx * β.sz+j)=some u:=by
 obtain⟨bI,ag,hr⟩:=JC r he;rw[hb]at ag;cases ag;have d':=OX he hr;have pH:xs[cx]?=some xs[cx]:=cD hi;rw[pH]
 cases hx:a5 σ.heap id with
 |eb=>rw[hx]at he;cases he
 |box cells=>rw[hx]at he;cases he
 |aj _ _=>rw[hx]at he;cases he
 |hN _ _ _ _=>rw[hx]at he;cases he
 |ah ij nN kD=>
  rw[hx]at he hr;simp only[H.els,b4,dL]at he;obtain⟨rfl,rfl⟩:=he;simp only[fk]at hr;rcases hr.2 with hr|⟨b,G,aY,bn,dg,dz,gb,jB⟩
  ·rw[hr.2.1]at hi;simp at hi
  ·obtain⟨cy,pd,cl,rfl,k1,_,k2,_⟩:=Gu dz pH;have cM:∀g∈pd,c9 φ σ.heap g:=by
    intro g hg
    cases kD with
    |true=>exact V5 r hb (by rw[hx];rfl) (by rw[hx];rfl) (by rw[←gb rfl];simp[hg])
    |false=>exact jB rfl g (by simp[hg])
   have afP:repC w.heap false b (β.off+cx * ij) (nN[cx]) pd:=by
    cases kD with
    |true=>exact OA _ _ _ _ k2
    |false=>exact k2
   obtain⟨us,f0,jA,pN⟩:=Kd (φ:=φ) _ _ _ afP cM;exact⟨b,aY,us,f0,jA,by rw[d'];exact pN⟩
 |jK ij nN=>
  rw[hx]at he hr;simp only[H.els,b4,dL]at he;obtain⟨rfl,rfl⟩:=he;simp only[fk]at hr;rcases hr.2 with hr|⟨b,G,aY,bn,dg,dz,gb⟩
  ·rw[hr]at hi;simp at hi
  ·obtain⟨cy,pd,cl,rfl,k1,_,k2,_⟩:=Gu dz pH;obtain⟨us,f0,jA,pN⟩:=Kd (φ:=φ) _ _ _ k2 (fun g hg=>gb g (by simp[hg]));exact⟨b,aY,us,f0,jA,by rw[d'];exact pN⟩
theorem Wn{T:TypeId}{B:Nat→Prop}{w0:World}{a4:Nat→Prop}{φ:c1}{kp:List (V×Value)}{a:Act}{w:World}{σ σ':St}(bt:σ.le σ')(r:R B w0 a4 φ σ' kp a w){m8 v:V}{p:Prop}(ai:loadE P σ.heap T m8=some (p,v))(hp:p)
  {Ke:Value} (d8:VRel φ (c9 φ σ'.heap) w.heap m8 Ke):∃b f u,Ke=.pointer (some ⟨b,f,none⟩)∧(loadVar T ⟨b,f,none⟩).run P w=.ok u w∧VRel φ (c9 φ σ'.heap) w.heap v u:=by
 have aW:∀{sz:Nat} {hJ:Bool} {b f off:Nat} {vs:List V} {us:List Value},tyI P T=some (sz,hJ)→(hJ=false→sz=1)→off+sz≤us.length→VRels φ (c9 φ σ'.heap) w.heap vs us→
   (∀(j:Nat) (u:Value),us[j]?=some u→cellAt w.heap b (f+j)=some u)→Ke=.pointer (some ⟨b,f+off,none⟩)→
   ∃b f u,Ke=.pointer (some ⟨b,f,none⟩)∧(loadVar T ⟨b,f,none⟩).run P w=.ok u w∧VRel φ (c9 φ σ'.heap) w.heap (xU hJ ((vs.drop off).take sz)) u:=by
  intro sz hJ b f off vs us qu h1 asL hv hc hu;have hl:((us.drop off).take sz).length=sz:=by simp;omega
  refine⟨_,_,_,hu,run_load qu hl h1 (afO hc off sz),?_⟩;exact afN hl h1 (V3 (V4 hv off) sz)
 unfold loadE at ai;split at ai
 ·rename_i sz hJ id cx off qu;simp only[VRel]at d8;obtain⟨β,b,ag,ar,ba⟩:=d8;have hh:=bt.2 id;split at ai
  ·rename_i cells hc;simp only[b4,dL]at ai;obtain⟨rfl,rfl⟩:=ai;have hR:a5 σ'.heap id=.box cells:=by
    rcases hh with hh|hh
    ·rw[hc]at hh;cases hh
    ·rw[hh,hc]
   rcases r.hp id with hd|⟨bI,g',hr⟩
   ·rw[hR]at hd;cases hd
   ·rw[ag]at g';cases g';rw[hR]at hr;simp only[fk]at hr;obtain⟨ez,cs,t,aY,bn,dg,dz⟩:=hr;rw[ar]at aY;cases aY;obtain⟨eY,eK,jl⟩:=hp;have fK:=lk _ _ dz;refine aW (b:=b) (f:=0) qu jl (by rw[fK];exact eK) dz (fun j u aK=>?_) (by rw[ba,eY,bn];simp);unfold cellAt;rw[dg];simpa using aK
  ·rename_i ij xs kD hc;simp only[b4,dL]at ai;obtain⟨rfl,rfl⟩:=ai;have hR:(a5 σ'.heap id).els=some (ij,xs):=DQ bt (by rw[hc];rfl);obtain⟨eY,eK,jl⟩:=hp;obtain⟨ez,k1,us,k2,dR,i1⟩:=Wm r hR ag eY;rw[ar]at k1;cases k1;have:=aW (b:=b) (f:=β.off+cx * β.sz) qu jl (by rw[k2];exact eK) dR i1 ba;rw[List.map_take,List.map_drop];exact this
  ·rename_i ij xs hc;simp only[b4,dL]at ai;obtain⟨rfl,rfl⟩:=ai;have hR:(a5 σ'.heap id).els=some (ij,xs):=DQ bt (by rw[hc];rfl);obtain⟨eY,eK,jl⟩:=hp;obtain⟨ez,k1,us,k2,dR,i1⟩:=Wm r hR ag eY;rw[ar]at k1;cases k1;have:=aW (b:=b) (f:=β.off+cx * β.sz) qu jl (by rw[k2];exact eK) dR i1 ba;rw[List.map_take,List.map_drop];exact this
  ·rename_i ij pre cells post hc;simp only[b4,dL]at ai;obtain⟨rfl,rfl⟩:=ai;have hR:a5 σ'.heap id=.hN ij pre cells post:=by
    rcases hh with hh|hh
    ·rw[hc]at hh;cases hh
    ·rw[hh,hc]
   rcases r.hp id with hd|⟨bI,g',hr⟩
   ·rw[hR]at hd;cases hd
   ·rw[ag]at g';cases g';rw[hR]at hr;simp only[fk]at hr;obtain⟨hs,hcl,ez,cy,cl,us,aY,bn,dg,dz,gb,jB,xS,AO⟩:=hr;rw[ar]at aY;cases aY;obtain⟨eY,eK,jl⟩:=hp;have fK:=lk _ _ jB;exact aW (b:=b) (f:=β.off+pre.length * ij) qu jl (by rw[fK];exact eK) jB xS (by rw[ba,eY,hs])
  ·cases ai
 ·rename_i sz hJ cells off qu;simp only[b4,dL]at ai;obtain⟨rfl,rfl⟩:=ai;simp only[VRel]at d8;obtain⟨b,f,G,ag,ar,ba,bF,c6⟩:=d8;obtain⟨us,f0,jA,pN⟩:=Kd (φ:=φ) _ _ _ bF c6;have:=aW (b:=b) (f:=f) qu hp.2 (by rw[f0];exact hp.1) jA pN ag;rw[List.map_take,List.map_drop];exact this
 ·cases ai
theorem aeP{T:TypeId}{x:Operand}(aJ:o.op=.load T x)(h:evg g (σ.ev x) fun a=>withR (loadE P σ.heap T a) fun v=>K (dn v)):∃r,i2 P o g σ n r∧K r:=by
 obtain⟨m8,h,hx⟩:=hT h;obtain⟨p,v,ai,hp,cd⟩:=Ck h;refine⟨_,oM fun σ' bt B w0 a4 φ kp a w r hg=>?_,cd⟩;obtain⟨b,f,u,hu,hl,hv⟩:=Wn bt r ai hp (hx _ _ _ _ hg (g_ bt r x));refine⟨u,?_,hv⟩;unfold execOp;rw[aJ];simp[Instr.loadAt,hu,Instr.sureAddr,hl]
variable {P:Program} {o:Oper} {g:Bool} {σ:St} {n:Nat} {K:fW→Prop}
def ixE(P:Program)(T:TypeId)(x:V)(i:Int):Option (Prop×V):=
 match x with
 |.d (.str s)=>if isStrI P T then some (0≤i∧i.toNat<s.length,qs .u8 ((s[i.toNat]?).getD 0).toNat)else none
 |.agg vs=>
  match P.underlying T with
  |some (.array len e)=>if tyI P e=some (1,false)then some (0≤i∧i<len∧i.toNat<vs.length,(vs[i.toNat]?).getD .al)else none
  |_=>none
 |_=>none
theorem afQ(b:UInt8):IntKind.u8.min≤(b.toNat:Int)∧(b.toNat:Int)≤IntKind.u8.max:=by
 have h:=b.toNat_lt;have h1:IntKind.u8.min=0:=by decide
 have h2:IntKind.u8.max=255:=by decide
 rw[h1,h2];omega
theorem aeQ{T:TypeId}{x kE:Operand}(aJ:o.op=.index T x kE)
  (h:evg g (σ.ev x) fun a=>evg g (σ.ev kE) fun b=>asI b fun _ i=>withR (ixE P T a i) fun v=>K (dn v)):∃r,i2 P o g σ n r∧K r:=by
 obtain⟨m8,h1,hx⟩:=hT h;obtain⟨DV,h2,hy⟩:=hT h1;obtain⟨k,i,rfl,ao⟩:=AW h2;obtain⟨p,v,ai,hp,cd⟩:=Ck ao;clear h h1 h2 ao;refine⟨_,oM fun σ' bt B w0 a4 φ kp a w r hg=>?_,cd⟩;have d8:=hx _ _ _ _ hg (g_ bt r x);have m9:=oe (hy _ _ _ _ hg (g_ bt r kE));unfold ixE at ai;split at ai
 ·rename_i s;split at ai
  ·rename_i hs;simp only[b4,dL]at ai;obtain⟨rfl,rfl⟩:=ai;have ag:=AX d8;have hlt:=hp.2;refine⟨.int .u8 (s[i.toNat]'hlt).toNat,?_,?_⟩
   ·unfold execOp;rw[aJ];have hb:(⟨s.toArray⟩:ByteArray)[i.toNat]?=some (s[i.toNat]'hlt):=by
     have d':i.toNat<(⟨s.toArray⟩:ByteArray).size:=by simpa [ByteArray.size]using hlt
     rw[getElem?_pos (⟨s.toArray⟩:ByteArray) i.toNat d'];rfl
    simp[Instr.index,run_underlying (Ef hs),ag.1,m9.1,asIntOf,hp.1,hb]
   ·rw[cD hlt];exact pf (afQ _)
  ·cases ai
 ·rename_i vs;split at ai
  ·rename_i len e hu;split at ai
   ·rename_i qu;simp only[b4,dL]at ai;obtain⟨rfl,rfl⟩:=ai;obtain⟨us,ag,aY⟩:=Gi d8;have hlt:=hp.2.2;obtain⟨u,f0,jA⟩:=wQ _ _ aY i.toNat _ (cD hlt);refine⟨u,?_,by rw[cD hlt];exact jA⟩;obtain⟨pg,hi,hs,OY⟩:=OK qu;unfold execOp;rw[aJ];rw[Array.getElem?_toList]at f0;simp[Instr.index,run_underlying hu,ag,m9.1,asIntOf,hp.1,hp.2.1,part,OY,Go.sizeOf,typeInfo,hi,hs,f0]
   ·cases ai
  ·cases ai
 ·cases ai
theorem Wo(afR:Bool)(len cap:Nat)(cU hi:Option Value)(l h:Nat)(w:World)(hl:cU=none∧l=0∨∃k,cU=some (.int k l))(hh:hi=none∧h=len∨∃k,hi=some (.int k h))
  (h1:l≤h) (h2:h≤cap):(Instr.sliceBounds afR len cap cU hi none).run P w=.ok (l,h,cap) w:=by
 have Kf:∀(k:IntKind) (x y:Nat) (c:BoundsCode),x≤y→(Instr.sliceBound (.int k x) y c).run P w=.ok x w:=by
  intro k x y c pO;simp[Instr.sliceBound,asIntOf,pO]
 unfold Instr.sliceBounds;rcases hl with ⟨rfl,rfl⟩|⟨k,rfl⟩<;>rcases hh with ⟨rfl,rfl⟩|⟨ko,rfl⟩
 ·simp
 ·simp[Kf _ _ _ _ h2]
 ·simp[Kf _ _ _ _ h1]
 ·simp[Kf _ _ _ _ h2,Kf _ _ _ _ h1]
def reachE(x:H)(k:Nat):Prop:=match x with|.ah _ xs true=>k≤xs.length|_=>False
def cutE(P:Program)(hs:List H)(T:TypeId)(x:V)(l h:Nat):Option (Prop×V):=
 match x with
 |.d (.str s)=>if isStrI P T then some (l≤h∧h≤s.length,GB ((s.drop l).take (h-l)))else none
 |.sl id off len=>
  match elI P T,(a5 hs id).els with
  |some (_,sz,_),some (ij,_)=>if sz=ij then some (l≤h∧(h≤len∨reachE (a5 hs id) (off+h)),.sl id (off+l) (h-l))else none
  |_,_=>none
 |.d (.sl ij xs)=>
  match elI P T with
  |some (_,sz,_)=>if sz=ij then some (l≤h∧h≤xs.length,.d (.sl ij ((xs.drop l).take (h-l))))else none
  |none=>none
 |.ee s=>if(elI P T).isSome then some (l=0∧h=0,.ee s)else none
 |_=>none
def D0(x:V):Nat:=match x with|.d (.str s)=>s.length|.d (.sl _ xs)=>xs.length|.sl _ _ len=>len|_=>0
def bndE(g:Bool)(σ:St)(d:Nat)(x:Option Operand)(K:Nat→Prop):Prop:=
 match x with
 |none=>K d
 |some x=>evg g (σ.ev x) fun v=>asI v fun _ i=>0≤i∧K i.toNat
theorem Wp{d:Nat}{x:Option Operand}{K:Nat→Prop}(h:bndE g σ d x K):∃l:Nat,K l∧∀{σ':St} {B:Nat→Prop} {w0:World} {a4:Nat→Prop} {φ:c1} {kp:List (V×Value)} {a:Act} {w:World},σ.le σ'→R B w0 a4 φ σ' kp a w→g=true→
  (x=none∧l=d∨∃k y,x=some y∧a.eval y=.int k l):=by
 unfold bndE at h;split at h
 ·exact⟨d,h,fun _ _ _=>.inl ⟨rfl,rfl⟩⟩
 ·rename_i y;obtain⟨v,h,hy⟩:=hT h;obtain⟨k,i,rfl,h0,cd⟩:=AW h;refine⟨i.toNat,cd,fun bt r hg=>.inr ⟨k,y,rfl,?_⟩⟩;have:=oe (hy _ _ _ _ hg (g_ bt r y));rw[this.1,Int.toNat_of_nonneg h0]
theorem afS(s:List UInt8)(l h:Nat):(⟨s.toArray⟩:ByteArray).extract l h=⟨((s.drop l).take (h-l)).toArray⟩:=by
 apply ByteArray.ext;apply Array.ext';simp[ByteArray.data_extract,List.extract]
theorem aeR{T:TypeId}{x:Operand}{cU hi:Option Operand}(aJ:o.op=.slice T x cU hi none)
  (h:evg g (σ.ev x) fun a=>bndE g σ 0 cU fun l=>bndE g σ (D0 a) hi fun h=>withR (cutE P σ.heap T a l h) fun v=>K (dn v)):∃r,i2 P o g σ n r∧K r:=by
 obtain⟨m8,h1,hx⟩:=hT h;obtain⟨l,h2,hl⟩:=Wp h1;obtain⟨m,ao,hm⟩:=Wp h2;obtain⟨p,v,ai,hp,cd⟩:=Ck ao;clear h h1 h2 ao;refine⟨_,oM fun σ' bt B w0 a4 φ kp a w r hg=>?_,cd⟩;have d8:=hx _ _ _ _ hg (g_ bt r x);have wJ:=hl bt r hg;have afT:=hm bt r hg;have bl:(cU.map a.eval)=none∧l=0∨∃k,(cU.map a.eval)=some (.int k l):=by
  rcases wJ with ⟨rfl,rfl⟩|⟨k,y,rfl,e⟩
  ·exact .inl ⟨rfl,rfl⟩
  ·exact .inr ⟨k,by simp[e]⟩
 have OZ:(hi.map a.eval)=none∧m=D0 m8∨∃k,(hi.map a.eval)=some (.int k m):=by
  rcases afT with ⟨rfl,rfl⟩|⟨k,y,rfl,e⟩
  ·exact .inl ⟨rfl,rfl⟩
  ·exact .inr ⟨k,by simp[e]⟩
 have O0:∀{e sz hH:Nat} {ad:Option Addr} {len nM:Nat},elI P T=some (e,sz,hH)→a.eval x=.slice ad len nM→D0 m8=len→l≤m→m≤nM→
   (execOp a.eval o).run P w=.ok (.value (.slice (if nM=l then ad else ad.map (·.add (l * sz))) (m-l) (nM-l))) w:=by
  intro e sz hH ad len nM he hu fK h1 h2;obtain⟨pg,qm,dC,hs,_⟩:=AI he;have d':(Go.sizeOf e).run P w=Result.ok sz w:=by simp[Go.sizeOf,typeInfo,dC,hs]
  have hb:=Wo (P:=P) true len nM (cU.map a.eval) (hi.map a.eval) l m w bl (by rw[fK]at OZ;exact OZ) h1 h2;unfold execOp;rw[aJ];simp[Instr.sliceAt,Instr.slice,run_underlying qm,hu,hb,d']
 unfold cutE at ai;split at ai
 ·rename_i s;split at ai
  ·rename_i hs;simp only[b4,dL]at ai;obtain⟨rfl,rfl⟩:=ai;have ag:=AX d8;have d':(⟨s.toArray⟩:ByteArray).size=s.length:=by simp[ByteArray.size]
   have hb:=Wo (P:=P) false s.length s.length (cU.map a.eval) (hi.map a.eval) l m w bl OZ hp.1 hp.2;refine⟨.string ⟨((s.drop l).take (m-l)).toArray⟩,?_,GW (by simp;omega)⟩;unfold execOp;rw[aJ];simp[Instr.sliceAt,Instr.slice,run_underlying (Ef hs),ag.1,d',hb,afS]
  ·cases ai
 ·rename_i id off len;split at ai
  ·rename_i e sz hH ij xs he hel;split at ai
   ·rename_i d';subst d';simp only[b4,dL]at ai;obtain⟨rfl,rfl⟩:=ai;obtain⟨β,ad,c,ag,ar,ba,bF,c6⟩:=AF d8;obtain⟨bI,g',hr⟩:=JC r (DQ bt hel);rw[ag]at g';cases g';have hs:=OX (DQ bt hel) hr;have afU:m≤c:=by
     rcases hp.2 with hp|hp
     ·omega
     ·unfold reachE at hp;split at hp
      ·rename_i xV nN iL;have h9:a5 σ'.heap id=.ah xV nN true:=by
        rcases bt.2 id with hh|hh
        ·rw[iL]at hh;cases hh
        ·rw[hh,iL]
       rw[h9]at hr;simp only[fk]at hr;have asM:off+c=β.cap:=by
        rcases c6 with c6|⟨_,_,_,c6⟩
        ·omega
        ·exact c6
       rcases hr.2 with hr|⟨_,_,_,hr,_⟩
       ·rw[hr.2.1]at hp;simp at hp;omega
       ·omega
      ·exact hp.elim
    refine⟨_,O0 he ar rfl hp.1 afU,?_⟩;simp only[VRel];refine⟨β,_,c-l,ag,rfl,by omega,?_⟩;by_cases hcl:c=l
    ·exact .inl ⟨by omega,by omega⟩
    ·rcases c6 with c6|⟨b,c6,js,nK⟩
     ·exfalso;omega
     ·subst js;refine .inr ⟨b,c6,?_,by omega,by omega⟩;rw[if_neg hcl];simp only[Option.map_some,add_lit,hs];rw[Nat.add_mul,←Nat.add_assoc]
   ·cases ai
  ·cases ai
 ·rename_i ij xs;split at ai
  ·rename_i e sz hH he;split at ai
   ·rename_i d';subst d';simp only[b4,dL]at ai;obtain⟨rfl,rfl⟩:=ai;obtain⟨ad,c,ag,ar,ba,bF⟩:=Ge d8;have fK:((xs.drop l).take (m-l)).length=m-l:=by simp;omega
    refine⟨_,O0 he ag rfl hp.1 ω,?_⟩;simp only[VRel,rep];by_cases hne:(xs.drop l).take (m-l)=[]
    ·have Wq:m-l=0:=by rw[←fK,hne];rfl
     exact⟨[],⟨_,c-l,by rw[fK],by omega,by omega,.inl ⟨hne,rfl,fun h=>by cases h⟩⟩,by simp⟩
    ·rcases bF with bF|⟨b,f,G,bF,c6,js,nK,Eg⟩
     ·subst bF;simp at hne
     ·subst bF;have Wq:0<m-l:=by rw[←fK];exact List.length_pos_iff.2 hne
      have DT:xs=xs.take l++((xs.drop l).take (m-l)++(xs.drop l).drop (m-l)):=by rw[List.take_append_drop,List.take_append_drop]
      rw[DT]at nK;obtain⟨cy,cl,rfl,k1,k2⟩:=(repE_append _ _ _ _).1 nK;obtain⟨Ch,VY,rfl,dR,i1⟩:=(repE_append _ _ _ _).1 k2;have nJ:(xs.take l).length=l:=by simp;omega
      rw[nJ]at dR;refine⟨b::Ch,⟨_,c-l,by rw[fK],by omega,by omega,.inr ⟨b,f+l * sz,Ch,?_,rfl,c6,dR,fun h=>by cases h⟩⟩,?_⟩
      ·have hcl:¬c=l:=by omega
       rw[if_neg hcl];simp[add_lit]
      ·intro y hy;rcases List.mem_cons.1 hy with rfl|hy
       ·exact js
       ·exact Eg y (by simp[hy])
   ·cases ai
  ·cases ai
 ·rename_i s;split at ai
  ·rename_i he;simp only[b4,dL]at ai;obtain⟨rfl,rfl⟩:=ai;obtain⟨⟨e,sz,hH⟩,he⟩:=Option.isSome_iff_exists.1 he;simp only[VRel]at d8;have hh:=O0 he d8 rfl ω ω;obtain⟨rfl,rfl⟩:=hp;refine⟨_,hh,?_⟩;simp[VRel]
  ·cases ai
 ·cases ai
variable {P:Program} {o:Oper} {g:Bool} {σ:St} {n:Nat} {K:fW→Prop}
def byte1:List D→Option UInt8
 |[.int .u8 n]=>some (UInt8.ofNat n.toNat)
 |_=>none
def bytesL:List (List D)→Option (List UInt8)
 |[]=>some []
 |c::cs=>match byte1 c,bytesL cs with|some b,some r=>some (b::r)|_,_=>none
def elsOf(hs:List H)(x:V):Option (Nat×List (List D)):=
 match x with
 |.sl id off len=>match(a5 hs id).els with|some (sz,xs)=>if off+len≤xs.length then some (sz,(xs.drop off).take len)else none|none=>none
 |.d (.sl sz xs)=>some (sz,xs)
 |.ee sz=>some (sz,[])
 |_=>none
theorem JA{B:Nat→Prop}{w0:World}{a4:Nat→Prop}{φ:c1}{kp:List (V×Value)}{a:Act}{w:World}{σ σ':St}(bt:σ.le σ')(r:R B w0 a4 φ σ' kp a w){x:V}{sz:Nat}{xs:List (List D)}(he:elsOf σ.heap x=some (sz,xs))
  {u:Value} (d8:VRel φ (c9 φ σ'.heap) w.heap x u):∃ad c,u=.slice ad xs.length c∧xs.length≤c∧c≤maxLen∧
   (xs=[]∨∃b f G,ad=some ⟨b,f,none⟩∧b<w.heap.size∧repE w.heap false b f sz xs G∧∀g∈G,c9 φ σ'.heap g):=by
 unfold elsOf at he;split at he
 ·rename_i id off len;split at he
  ·rename_i ij ys hel;split at he
   ·rename_i hb;simp only[b4,dL]at he;obtain⟨rfl,rfl⟩:=he;obtain⟨β,ad,c,ag,ar,ba,bF,c6⟩:=AF d8;have ph:=DQ bt hel;obtain⟨bI,g',hr⟩:=JC r ph;rw[ag]at g';cases g';have hs:=OX ph hr;have fK:((ys.drop off).take len).length=len:=by simp;omega
    refine⟨ad,c,by rw[fK];exact ar,by omega,bF,?_⟩;by_cases hne:(ys.drop off).take len=[]
    ·exact .inl hne
    ·have GX:0<len:=by rw[←fK];exact List.length_pos_iff.2 hne
     rcases c6 with c6|⟨b,c6,js,nK⟩
     ·omega
     ·subst js;have DT:ys=ys.take off++((ys.drop off).take len++(ys.drop off).drop len):=by rw[List.take_append_drop,List.take_append_drop]
      have nJ:(ys.take off).length=off:=by simp;omega
      have key:∀{bl:Bool} {G:List Nat},repE w.heap bl b β.off ij ys G→∃Eh,(∀g∈Eh,g∈G)∧repE w.heap bl b (β.off+off * ij) ij ((ys.drop off).take len) Eh:=by
       intro bl G b7;rw[DT]at b7;obtain⟨cy,cl,rfl,k1,k2⟩:=(repE_append _ _ _ _).1 b7;obtain⟨Ch,VY,rfl,dR,i1⟩:=(repE_append _ _ _ _).1 k2;rw[nJ]at dR;exact⟨Ch,fun y hy=>by simp[hy],dR⟩
      cases hx:a5 σ'.heap id with
      |eb=>rw[hx]at ph;cases ph
      |box cells=>rw[hx]at ph;cases ph
      |aj _ _=>rw[hx]at ph;cases ph
      |hN _ _ _ _=>rw[hx]at ph;cases ph
      |ah afV O1 kD=>
       rw[hx]at ph hr;simp only[H.els,b4,dL]at ph;obtain⟨rfl,rfl⟩:=ph;simp only[fk]at hr;rcases hr.2 with hr|⟨ez,G,aY,bn,dg,dz,gb,jB⟩
       ·rw[hr.2.1]at hb;simp at hb;omega
       ·rw[c6]at aY;cases aY;obtain⟨Eh,cn,cG⟩:=key dz;refine .inr ⟨b,_,Eh,rfl,dg.lt,?_,fun g hg=>?_⟩
        ·rw[hs]
         cases kD with
         |true=>exact GA _ _ _ _ _ cG
         |false=>exact cG
        ·cases kD with
         |true=>exact V5 r ag (by rw[hx];rfl) (by rw[hx];rfl) (by rw[←gb rfl];exact cn g hg)
         |false=>exact jB rfl g (cn g hg)
      |jK afV O1=>
       rw[hx]at ph hr;simp only[H.els,b4,dL]at ph;obtain⟨rfl,rfl⟩:=ph;simp only[fk]at hr;rcases hr.2 with hr|⟨ez,G,aY,bn,dg,dz,gb⟩
       ·rw[hr]at hb;simp at hb;omega
       ·rw[c6]at aY;cases aY;obtain⟨Eh,cn,cG⟩:=key dz;exact .inr ⟨b,_,Eh,rfl,dg,by rw[hs];exact cG,fun g hg=>gb g (cn g hg)⟩
   ·cases he
  ·cases he
 ·simp only[b4,dL]at he;obtain⟨rfl,rfl⟩:=he;obtain⟨ad,c,ag,ar,ba,bF⟩:=Ge d8;refine⟨ad,c,ag,ar,ba,?_⟩;rcases bF with bF|⟨b,f,G,bF,c6,js,nK,Eg⟩
  ·exact .inl bF
  ·exact .inr ⟨b,f,G,bF,c6,nK,Eg⟩
 ·simp only[b4,dL]at he;obtain⟨rfl,rfl⟩:=he;simp only[VRel]at d8;exact⟨none,0,d8,by simp,by decide,.inl rfl⟩
 ·cases he
theorem O2{h:Array Obj}{b:Nat}:∀(cs:List (List D)) (s:List UInt8) (f:Nat) (G:List Nat),bytesL cs=some s→repE h false b f 1 cs G→
  s.length=cs.length∧∀(j:Nat) (c:UInt8),s[j]?=some c→∃n:Int,cellAt h b (f+j)=some (.int .u8 n)∧UInt8.ofNat n.toNat=c
 |[],s,f,G,e,_=>by simp only[bytesL,b4]at e;subst e;simp
 |c::cs,s,f,G,e,r=>by
  simp only[bytesL]at e;split at e
  ·rename_i ez ei ag ar
   cases e
   simp only[repE]at r;obtain⟨cy,cl,rfl,k1,k2,dR⟩:=r;obtain⟨afW,afX⟩:=O2 cs ei (f+1) cl ar dR;refine⟨by simp[afW],fun j x aK=>?_⟩
   cases j with
   |zero=>
    simp at aK;subst aK;unfold byte1 at ag;split at ag
    ·rename_i m
     cases ag
     simp only[repC]at k2;obtain⟨v,vK,vL,_,ep,eE,_⟩:=k2;simp only[rep]at eE;exact⟨m,by rw[Nat.add_zero,ep,eE.1],rfl⟩
    ·cases ag
   |succ j=>
    have:=afX j x (by simpa using aK);rw[show f+(j+1)=f+1+j from by omega];exact this
  ·cases e
theorem Wr:∀(l9:List Int) (s:ByteArray),l9.foldl (fun r n=>r.push (UInt8.ofNat n.toNat)) s=⟨(s.data.toList++l9.map fun n=>UInt8.ofNat n.toNat).toArray⟩
 |[],s=>by simp
 |m::l9,s=>by
  rw[List.foldl_cons,Wr l9];simp[ByteArray.push]
def cvE(P:Program)(hs:List H)(ob dst:TypeId)(x:V):Option (Prop×V):=
 match x with
 |.d (.int _ n)=>
  match intI P ob,intI P dst with
  |some _,some k=>some (True,qs k (k.wrap n))
  |_,_=>none
 |.d (.str s)=>if isStrI P ob&&isStrI P dst then some (True,GB s)else none
 |x=>
  match elI P ob,elsOf hs x with
  |some (e,1,_),some (1,xs)=>if intI P e=some .u8&&isStrI P dst then some ((bytesL xs).isSome=true,GB ((bytesL xs).getD []))else none
  |some (e,1,_),some (_,[])=>if intI P e=some .u8&&isStrI P dst then some (True,GB [])else none
  |_,_=>none
theorem Ws{w:World}{ob dst e:TypeId}{s hH:Nat}(he:elI P ob=some (e,s,hH))(hk:(intI P e=some .u8&&isStrI P dst)=true){ad:Option Addr}{c:Nat}{xs:List (List D)}{t:List UInt8}(ht:bytesL xs=some t)
  (h:xs=[]∨∃b f G,ad=some ⟨b,f,none⟩∧repE w.heap false b f 1 xs G):(convert ob dst (.slice ad xs.length c)).run P w=.ok (.string ⟨t.toArray⟩) w:=by
 simp only[bW,b8]at hk;obtain⟨pg,hu,_⟩:=AI he;rw[run_convert_bytes_string w ob dst e _ _ _ hu (OW hk.1) (Ef hk.2)];have nil:∀(ad:Option Addr) (c:Nat),(Conv.bytesToString (.slice ad 0 c)).run P w=.ok (.string ⟨#[]⟩) w:=by
  intro ad c
  cases ad with
  |none=>rfl
  |some ad=>exact run_bytesToString w ad 0 c [] (by simp[loadCells,loadCellsFrom])
 rcases h with rfl|⟨b,f,G,rfl,h⟩
 ·simp only[bytesL,b4]at ht;subst ht;exact nil ad c
 ·obtain⟨h1,h2⟩:=O2 _ _ _ _ ht h;have pe:∃l9:List Int,l9.length=xs.length∧(∀(j:Nat) (n:Int),l9[j]?=some n→cellAt w.heap b (f+j)=some (.int .u8 n))∧l9.map (fun n=>UInt8.ofNat n.toNat)=t:=by
   clear ht h;have:∀(t:List UInt8) (f:Nat),(∀(j:Nat) (c:UInt8),t[j]?=some c→∃n:Int,cellAt w.heap b (f+j)=some (.int .u8 n)∧UInt8.ofNat n.toNat=c)→
     ∃l9:List Int,l9.length=t.length∧(∀(j:Nat) (n:Int),l9[j]?=some n→cellAt w.heap b (f+j)=some (.int .u8 n))∧l9.map (fun n=>UInt8.ofNat n.toNat)=t:=by
    intro t
    induction t with
    |nil=>exact fun f _=>⟨[],rfl,by simp,rfl⟩
    |cons c t df=>
     intro f h;obtain⟨m,xR,zd⟩:=h 0 c rfl;obtain⟨l9,nL,qp,xK⟩:=df (f+1) (fun j c aK=>by have:=h (j+1) c (by simpa using aK);rw[show f+1+j=f+(j+1)from by omega];exact this);refine⟨m::l9,by simp[nL],fun j n aK=>?_,by simp[zd,xK]⟩
     cases j with
     |zero=>simp at aK;subst aK;exact xR
     |succ j=>rw[show f+(j+1)=f+1+j from by omega];exact qp j n (by simpa using aK)
   obtain⟨l9,nL,qp,xK⟩:=this t f h2;exact⟨l9,by rw[nL,h1],qp,xK⟩
  obtain⟨l9,nL,qp,xK⟩:=pe;have hl:=run_loadCells_list (P:=P) w ⟨b,f,none⟩ (l9.map (Value.int .u8)) (fun j v aK=>by
   rw[add_lit,cell_eq];rw[List.getElem?_map]at aK
   cases hn:l9[j]? with
   |none=>rw[hn]at aK;cases aK
   |some m=>rw[hn]at aK;cases aK;exact qp j m hn)
  rw[I,nL]at hl;rw[run_bytesToString w _ _ c l9 hl,Wr,xK];rfl
theorem aeS{ob dst:TypeId}{x:Operand}(aJ:o.op=.convert ob dst x)(h:evg g (σ.ev x) fun a=>withR (cvE P σ.heap ob dst a) fun v=>K (dn v)):∃r,i2 P o g σ n r∧K r:=by
 obtain⟨m8,h1,hx⟩:=hT h;obtain⟨p,v,ai,hp,cd⟩:=Ck h1;clear h h1;refine⟨_,oM fun σ' bt B w0 a4 φ kp a w r hg=>?_,cd⟩;have d8:=hx _ _ _ _ hg (g_ bt r x);have pe:∀{u:Value},(convert ob dst (a.eval x)).run P w=.ok u w→(execOp a.eval o).run P w=.ok (.value u) w:=by
  intro u hu;unfold execOp;rw[aJ];simp[hu]
 unfold cvE at ai;split at ai
 ·rename_i k m;split at ai
  ·rename_i k1 k2 h1 h2;simp only[b4,dL]at ai;obtain⟨_,rfl⟩:=ai;refine⟨_,pe (u:=.int k2 (k2.wrap m)) ?_,pf (xY _ _)⟩;rw[(oe d8).1];simp[convert,run_underlying (OW h1),run_underlying (OW h2),Conv.intToInt]
  ·cases ai
 ·split at ai
  ·rename_i s hs;simp only[b4,dL]at ai;obtain⟨_,rfl⟩:=ai;simp only[bW]at hs;have ag:=AX d8;refine⟨_,pe (u:=.string ⟨s.toArray⟩) ?_,GW ag.2⟩;rw[ag.1];simp[convert,run_underlying (Ef hs.1),run_underlying (Ef hs.2)]
  ·cases ai
 ·split at ai
  ·rename_i e hH xs he hel;split at ai
   ·rename_i hk;simp only[b4,dL]at ai;obtain⟨rfl,rfl⟩:=ai;obtain⟨t,ht⟩:=Option.isSome_iff_exists.1 hp;obtain⟨ad,c,ag,ar,ba,bF⟩:=JA bt r hel d8;have afY:xs=[]∨∃b f G,ad=some ⟨b,f,none⟩∧repE w.heap false b f 1 xs G:=by
     rcases bF with bF|⟨b,f,G,bF,_,c6,_⟩
     ·exact .inl bF
     ·exact .inr ⟨b,f,G,bF,c6⟩
    have gQ:=Ws (w:=w) (dst:=dst) he hk ht (ad:=ad) (c:=c) afY;refine⟨_,pe (u:=.string ⟨t.toArray⟩) (by rw[ag];exact gQ),?_⟩;have fK:t.length=xs.length:=by
     rcases bF with rfl|⟨b,f,G,bF,_,c6,_⟩
     ·simp only[bytesL,b4]at ht;subst ht;rfl
     ·exact(O2 _ _ _ _ ht c6).1
    rw[ht];exact GW (by simp;omega)
   ·cases ai
  ·rename_i e hH s _ he hel;split at ai
   ·rename_i hk;simp only[b4,dL]at ai;obtain⟨_,rfl⟩:=ai;obtain⟨ad,c,ag,ar,ba,bF⟩:=JA bt r hel d8;have gQ:=Ws (w:=w) (dst:=dst) he hk (xs:=[]) (t:=[]) rfl (ad:=ad) (c:=c) (.inl rfl);exact⟨_,pe (by rw[ag];exact gQ),GW ζ⟩
   ·cases ai
  ·cases ai
def g9{α:Type}(l:List α)(off:Nat)(vs:List α):List α:=l.take off++(vs++l.drop (off+vs.length))
theorem DU{α:Type}{l:List α}{off:Nat}{vs:List α}(h:off+vs.length≤l.length):(g9 l off vs).length=l.length:=by
 simp[g9];omega
theorem O3{φ:c1}{T:Nat→Prop}{h:Array Obj}{cs vs:List V}{us i3:List Value}(r:VRels φ T h cs us)(ei:VRels φ T h vs i3)(off:Nat):VRels φ T h (g9 cs off vs) (g9 us off i3):=by
 unfold g9;rw[lk _ _ ei];exact D9 (V3 r off) (D9 ei (V4 r _))
theorem Wt:∀(vs:List Value) (k off:Nat) (cells:Array Value),off+k+vs.length≤cells.size→
  (vs.zipIdx k).foldl (fun cs (c,j)=>cs.setIfInBounds (off+j) c) cells=(g9 cells.toList (off+k) vs).toArray
 |[],k,off,cells,_=>by simp[g9]
 |v::vs,k,off,cells,h=>by
  simp only[dA]at h;rw[List.zipIdx_cons,List.foldl_cons,Wt vs (k+1) off _ (by simp;omega)];have hi:off+k<cells.toList.length:=by simp;omega
  have e:=list_seg_step cells.toList (off+k) v vs (by simp;omega)
  congr 1
  unfold g9;simpa [Array.toList_setIfInBounds,Nat.add_assoc]using e
def vfill(vI:Nat→Option (Nat×Nat)):List V→List (Nat×V)→Option (List V)
 |cells,[]=>some cells
 |cells,(i,v)::r=>
  match vI i with
  |some (off,sz)=>if v.cells.length=sz∧off+sz≤cells.length∧v.xO=true then vfill vI (g9 cells off v.cells) r else none
  |none=>none
def partsRel(φ:c1)(T:Nat→Prop)(h:Array Obj):List (Nat×V)→List (Nat×Value)→Prop
 |[],us=>us=[]
 |(i,v)::r,us=>∃u cT,us=(i,u)::cT∧VRel φ T h v u∧partsRel φ T h r cT
theorem J6{φ:c1}{T:Nat→Prop}{h:Array Obj}(vI:Nat→Option (Nat×Nat)):∀(gR:List (Nat×V)) (cells cells':List V) (us:List Value) (ps:List (Nat×Value)),vfill vI cells gR=some cells'→VRels φ T h cells us→partsRel φ T h gR ps→
  ∃cT:List Value,Instr.fill vI us.toArray ps=some cT.toArray∧VRels φ T h cells' cT
 |[],cells,cells',us,ps,e,r,gj=>by
  simp only[vfill,b4]at e;subst e;simp only[partsRel]at gj;subst gj;exact⟨us,rfl,r⟩
 |(i,v)::gR,cells,cells',us,ps,e,r,gj=>by
  simp only[partsRel]at gj;obtain⟨u,afZ,rfl,dn,gj⟩:=gj;simp only[vfill]at e;split at e
  ·rename_i off sz fD;split at e
   ·rename_i hb;have hc:=(GO hb.2.2 dn).1;have hl:=lk _ _ hc;have q4:=lk _ _ r;obtain⟨cT,k1,k2⟩:=J6 vI gR _ cells' _ afZ e (O3 r hc off) gj;refine⟨cT,?_,k2⟩;rw[←k1];have d':u.cells.size=sz:=by rw[←Array.length_toList,hl];exact hb.1
    have af0:¬(u.cells.size≠sz∨off+u.cells.size>us.toArray.size):=by
     have:=hb.2.1;simp only[List.size_toArray,d'];omega
    have af1:(decide (u.cells.size≠sz)||decide (off+u.cells.size>us.toArray.size))=false:=by
     rw[Bool.eq_false_iff];intro hh;exact af0 (by simpa using hh)
    simp only[Instr.fill,fD,af1,Bool.false_eq_true,if_false]
    congr 1
    have:=Wt u.cells.toList 0 off us.toArray (by
     have:=hb.2.1;simp only[Nat.add_zero,Array.length_toList,List.size_toArray,d'];omega)
    simp only[Nat.add_zero]at this;rw[←this,←Array.foldl_toList,Array.toList_zipIdx]
   ·cases e
  ·cases e
def plI(P:Program)(T:TypeId):Option (Nat→Option (Nat×Nat)):=
 match P.underlying T with
 |some (.array _ e)=>(P.info? e).map fun i=>fun j=>some (j * i.size,i.size)
 |some (.struct bK)=>(bK.toList.mapM fun f=>(P.info? f.type).map fun i=>(f.offset,i.size)).map fun l=>fun j=>l[j]?
 |_=>none
def Kg(P:Program):Nat→TypeId→List Nat
 |0,_=>[]
 |f+1,T=>
  match P.underlying T with
  |some (.array n e)=>(List.replicate n (Kg P f e)).flatten
  |some (.struct bK)=>(bK.toList.map fun x=>Kg P f x.type).flatten
  |some (.slice e)=>[P.cellsOf e]
  |_=>[0]
def Wu:V→Nat→V
 |.ee _,s=>.ee s
 |v,_=>v
def zrI(P:Program)(T:TypeId):Option (List V):=
 match P.info? T with
 |some i=>
  match i.zero with
  |some z=>
   let l:=List.zipWith Wu (z.cells.toList.map ofVal) (Kg P 8 T)
   if l.length=z.cells.toList.length then some l else none
  |none=>none
 |none=>none
theorem DW{T:TypeId}{vs:List V}(h:zrI P T=some vs):∃i z,P.info? T=some i∧i.zero=some z∧∀(φ:c1) (hS:Nat→Prop) (hp:Array Obj),VRels φ hS hp vs z.cells.toList:=by
 unfold zrI at h;split at h
 ·rename_i i hi;split at h
  ·rename_i z hz;simp only at h;split at h
   ·rename_i hl
    cases h
    refine⟨i,z,hi,hz,fun φ hS hp=>AL _ _ hl.symm fun t v u ag ar=>?_⟩;rw[List.getElem?_zipWith]at ag;rw[List.getElem?_map,ar]at ag;simp only[Option.map_some]at ag
    cases hs:(Kg P 8 T)[t]? with
    |none=>rw[hs]at ag;cases ag
    |some s=>
     rw[hs]at ag
     cases ag
     have:=Wc (φ:=φ) (T:=hS) (h:=hp) u
     cases hv:ofVal u<;>rw[hv]at this<;>first|exact this|(simp only[Wu,VRel]at this⊢;exact this)
   ·cases h
  ·cases h
 ·cases h
def evParts(g:Bool)(σ:St):List (Nat×Operand)→(List (Nat×V)→Prop)→Prop
 |[],K=>K []
 |(i,x)::r,K=>evg g (σ.ev x) fun v=>evParts g σ r fun vs=>K ((i,v)::vs)
theorem ON:∀(ps:List (Nat×Operand)) (K:List (Nat×V)→Prop),evParts g σ ps K→∃vs,K vs∧∀{σ':St} {B:Nat→Prop} {w0:World} {a4:Nat→Prop} {φ:c1} {kp:List (V×Value)} {a:Act} {w:World},σ.le σ'→R B w0 a4 φ σ' kp a w→g=true→
  partsRel φ (c9 φ σ'.heap) w.heap vs (ps.map fun(i,x)=>(i,a.eval x))
 |[],K,h=>⟨[],h,fun _ _ _=>by simp[partsRel]⟩
 |(i,x)::ps,K,h=>by
  simp only[evParts]at h;obtain⟨v,h1,hx⟩:=hT h;obtain⟨vs,cd,hr⟩:=ON ps _ h1;refine⟨(i,v)::vs,cd,fun bt r hg=>?_⟩;simp only[eT,partsRel];exact⟨_,_,rfl,hx _ _ _ _ hg (g_ bt r x),hr bt r hg⟩
def bldE(P:Program)(T:TypeId)(gR:List (Nat×V)):Option V:=
 match plI P T,zrI P T with
 |some vI,some z=>(vfill vI z gR).map V.agg
 |_,_=>none
theorem aeT{T:TypeId}{gR:Array (Nat×Operand)}(aJ:o.op=.build T gR)(h:evParts g σ gR.toList fun ps=>withO (bldE P T ps) fun v=>K (dn v)):∃r,i2 P o g σ n r∧K r:=by
 obtain⟨ps,h1,hx⟩:=ON _ _ h;obtain⟨v,ai,cd⟩:=Kb h1;clear h h1;refine⟨_,oM fun σ' bt B w0 a4 φ kp a w r hg=>?_,cd⟩;unfold bldE at ai;split at ai
 ·rename_i vI z fD hz
  cases hf:vfill vI z ps with
  |none=>rw[hf]at ai;cases ai
  |some cells=>
   rw[hf]at ai;cases ai;obtain⟨i,asN,hi,J4,wM⟩:=DW hz;obtain⟨us,k1,k2⟩:=J6 (φ:=φ) (T:=c9 φ σ'.heap) (h:=w.heap) vI ps z cells _ _ hf (wM _ _ _) (hx bt r hg);have hb:P.built T (gR.map fun(i,x)=>(i,a.eval x)).toList=some us.toArray:=by
    unfold Program.built;unfold plI at fD;simp only[Array.toArray_toList]at k1;split at fD
    ·rename_i Wv e hu
     cases Ed:P.info? e with
     |none=>rw[Ed]at fD;cases fD
     |some wW=>
      rw[Ed]at fD;cases fD;simp only[hi,hu,J4,Ed,Array.toList_map];exact k1
    ·rename_i bK hu
     cases hp:bK.toList.mapM (fun f=>(P.info? f.type).map fun i=>(f.offset,i.size))with
     |none=>rw[hp]at fD;cases fD
     |some asO=>
      rw[hp]at fD;cases fD;simp only[hi,hu,J4,hp,Array.toList_map];simpa using k1
    ·cases fD
   refine⟨.agg us.toArray,?_,by simp only[VRel];exact⟨us.toArray,rfl,by simpa using k2⟩⟩;unfold execOp;rw[aJ];have:=run_build (P:=P) w T (gR.map fun(i,x)=>(i,a.eval x)) us.toArray hb;simp[this]
 ·cases ai
variable {P:Program} {o:Oper} {g:Bool} {σ:St} {n:Nat} {K:fW→Prop}
def ec(φ:c1)(n:Nat)(β:il):c1:=fun i=>if i=n then some β else φ i
section
variable {B:Nat→Prop} {w0:World} {a4:Nat→Prop} {φ:c1} {kp:List (V×Value)} {a:Act} {w:World}
theorem VX(nM sz:Nat)(r:R B w0 a4 φ σ kp a w){n:Nat}(hd:a5 σ.heap n=.eb)(hn:¬a4 n){cells:List V}{cs:Array Value}{e:TypeId}(hc:VRels φ (c9 φ σ.heap) w.heap cells cs.toList){w':World}
  (hh:w'.heap=w.heap.push (.cells cs e)) (hb:Bel B w0 w') :
  R B w0 (fun i=>a4 i∨(n≤i∧i<n+1)) (ec φ n ⟨some w.heap.size,0,nM,sz,[]⟩) ⟨σ.tmps,cO σ.heap n (.box cells)⟩ kp a w':=by
 have OG:φ n=none:=by
  cases h:φ n with
  |none=>rfl
  |some β=>exact absurd (r.h7 n β h) hn
 have hnew:w'.heap[w.heap.size]?=some (.cells cs e (0,0)):=by rw[hh];simp
 have bt:o4 φ (ec φ n ⟨some w.heap.size,0,nM,sz,[]⟩):=fun i β hi=>by
  have:i≠n:=fun e=>by subst e;rw[OG]at hi;cases hi
  exact⟨β,by simp[ec,this,hi],rfl,rfl,rfl,rfl⟩
 have hold:∀b,b<w.heap.size→w'.heap[b]?=w.heap[b]?:=fun b hb=>by rw[hh,Array.getElem?_push];simp[Nat.ne_of_lt hb]
 have cM:∀b,b<w.heap.size→c9 φ σ.heap b→c9 (ec φ n ⟨some w.heap.size,0,nM,sz,[]⟩) (cO σ.heap n (.box cells)) b:=by
  intro b hb ht i β hi he;rw[jz]at he;by_cases h:i=n
  ·subst h;simp only[ec,if_true,b4]at hi;subst hi;rcases he with ⟨_,he⟩|⟨_,he⟩
   ·simp only[b4]at he;omega
   ·cases he
  ·simp only[h,if_false]at he;exact ht i β (by simpa [ec,h]using hi) he
 refine y_ r (fun i=>i=n) _ _ _ w' (fun i hi=>⟨by rw[jz];simp[hi],by simp[ec,hi]⟩) bt (by rw[hh];simp) (fun b hb _=>hold b hb) ?_ ?_ (fun i j b hi aK _ _=>hi.trans aK.symm) ?_ ?_ ?_ hb
 ·rintro i rfl b ⟨β,h1,h2⟩;simp only[ec,if_true,b4]at h1;subst h1;rcases h2 with ⟨_,h2⟩|⟨_,h2⟩
  ·simp only[b4]at h2;exact .inl ω
  ·cases h2
 ·rintro i rfl β h1 b h2;simp only[ec,if_true,b4]at h1;subst h1;rcases h2 with ⟨_,h2⟩|⟨_,h2⟩
  ·simp only[b4]at h2;exact .inl ω
  ·cases h2
 ·rintro i β rfl _ hx;rw[jz,if_pos rfl]at hx;cases hx
 ·rintro i rfl;refine .inr ⟨⟨some w.heap.size,0,nM,sz,[]⟩,by simp[ec],?_⟩;rw[jz,if_pos rfl];exact⟨_,cs,e,rfl,rfl,hnew,vr ⟨bt,cM,fun b hb _=>hold b hb,by rw[hh];simp⟩ _ _ hc⟩
 ·intro i β hi;by_cases h:i=n
  ·exact .inr ⟨by omega,by omega⟩
  ·exact .inl (r.h7 i β (by simpa [ec,h]using hi))
theorem afj(r:R B w0 a4 φ σ kp a w){n:Nat}(hd:a5 σ.heap n=.eb)(hn:¬a4 n){cells:List V}{cs:Array Value}{e:TypeId}(hc:VRels φ (c9 φ σ.heap) w.heap cells cs.toList){w':World}
  (hh:w'.heap=w.heap.push (.cells cs e)) (hb:Bel B w0 w') :
  R B w0 (fun i=>a4 i∨(n≤i∧i<n+1)) (ec φ n ⟨some w.heap.size,0,0,0,[]⟩) ⟨σ.tmps,cO σ.heap n (.box cells)⟩ kp a w':=VX 0 0 r hd hn hc hh hb
def toD(hs:List H)(v:V):Option (D×List Nat):=
 match v with
 |.d x=>if x.flat then some (x,[])else none
 |.ee s=>some (.sl s [],[])
 |.sl id off len=>match a5 hs id with|.ah sz xs true=>if off+len≤xs.length then some (.sl sz ((xs.drop off).take len),[id])else none|_=>none
 |_=>none
def toDs(hs:List H):List V→Option (List D×List Nat)
 |[]=>some ([],[])
 |v::vs=>match toD hs v,toDs hs vs with|some (d,i),some (ds,gl)=>some (d::ds,i++gl)|_,_=>none
def H.mine:H→Option (Nat×List (List D))
 |.ah sz xs true=>some (sz,xs)
 |.aj sz xs=>some (sz,xs)
 |_=>none
theorem H.afk{x:H}{p:Nat×List (List D)}(h:x.mine=some p):x.own=true∧x.o'=true:=by
 cases x<;>first|exact⟨rfl,rfl⟩|(rename_i kD;cases kD<;>first|exact⟨rfl,rfl⟩|cases h)|cases h
theorem Of{φ:c1}{T:Nat→Prop}{h:Array Obj}{β:il}{x:H}{sz:Nat}{xs:List (List D)}(he:x.mine=some (sz,xs))(r:fk φ T h β x):β.sz=sz∧((β.fx=none∧xs=[]∧β.cap=0∧β.d7=[])∨
  ∃b,β.fx=some b∧xs.length≤β.cap∧pb h b (β.off+β.cap * sz)∧repE h true b β.off sz xs β.d7):=by
 cases x with
 |ah ij nN kD=>
  cases kD with
  |false=>cases he
  |true=>
   simp only[H.mine,b4,dL]at he;obtain⟨rfl,rfl⟩:=he;simp only[fk]at r;obtain⟨r0,r⟩:=r;refine⟨r0,r.imp id ?_⟩;rintro⟨b,G,aY,bn,dg,dz,gb,jB⟩;exact⟨b,aY,bn,dg,(gb trivial)▸dz⟩
 |aj ij nN=>
  simp only[H.mine,b4,dL]at he;obtain⟨rfl,rfl⟩:=he;simpa only[fk]using r
 |_=>cases he
theorem Oc(r:R B w0 a4 φ σ kp a w){id off len:Nat}{sz:Nat}{xs:List (List D)}(hx:(a5 σ.heap id).mine=some (sz,xs))(hl:off+len≤xs.length){u:Value}(gA:VRel φ (c9 φ σ.heap) w.heap (.sl id off len) u) :
  ∃F,rep w.heap true (.sl sz ((xs.drop off).take len)) u F∧F.Nodup∧∀b∈F,dS φ σ.heap id b:=by
 obtain⟨β,ad,c,ag,ar,ba,bF,c6⟩:=AF gA;rcases r.hp id with hd|⟨bI,g',hr⟩
 ·rw[hd]at hx;cases hx
 ·rw[ag]at g';cases g';obtain⟨hs,hr⟩:=Of hx hr;obtain⟨kn,DP⟩:=H.afk hx;have fK:((xs.drop off).take len).length=len:=by simp;omega
  simp only[rep];by_cases hne:len=0
  ·have h0:(xs.drop off).take len=[]:=List.eq_nil_of_length_eq_zero ω;rcases c6 with c6|⟨b,c6,js,nK⟩
   ·exact⟨[],⟨ad,c,by rw[fK];exact ar,by omega,bF,.inl ⟨h0,rfl,fun _=>c6.1⟩⟩,List.nodup_nil,by simp⟩
   ·rcases hr with hr|⟨ez,aY,bn,dg,dz⟩
    ·rw[c6]at hr;cases hr.1
    ·rw[c6]at aY;cases aY;rcases Nat.eq_zero_or_pos c with Eb|Eb
     ·exact⟨[],⟨ad,c,by rw[fK];exact ar,by omega,bF,.inl ⟨h0,rfl,fun _=>Eb⟩⟩,List.nodup_nil,by simp⟩
     refine⟨[b],⟨ad,c,by rw[fK];exact ar,by omega,bF,.inr ⟨b,_,[],js,rfl,dg.lt,by rw[h0];simp[repE],fun _=>⟨Eb,?_⟩⟩⟩,by simp,?_⟩
     ·obtain⟨cs,t,ep,eE⟩:=dg;refine⟨cs,t,ep,Nat.le_trans ?_ eE⟩;rw[hs,Nat.add_assoc,←Nat.add_mul];exact Nat.add_le_add_left (Nat.mul_le_mul_right _ (Nat.le_of_eq nK)) _
     ·intro x h9;simp only[List.mem_singleton]at h9;subst h9;exact⟨β,ag,.inl ⟨DP,c6⟩⟩
  ·rcases c6 with c6|⟨b,c6,js,nK⟩
   ·omega
   ·rcases hr with hr|⟨ez,aY,bn,dg,dz⟩
    ·rw[hr.2.1]at hl;simp at hl;omega
    ·rw[c6]at aY;cases aY;generalize b7:β.d7=G at dz;have DT:xs=xs.take off++((xs.drop off).take len++(xs.drop off).drop len):=by rw[List.take_append_drop,List.take_append_drop]
     have nJ:(xs.take off).length=off:=by simp;omega
     rw[DT]at dz;obtain⟨cy,cl,rfl,k1,k2⟩:=(repE_append _ _ _ _).1 dz;obtain⟨Ch,VY,rfl,dR,i1⟩:=(repE_append _ _ _ _).1 k2;rw[nJ]at dR;have jd:=r.gu id β ag kn;rw[b7]at jd;refine⟨b::Ch,⟨ad,c,by rw[fK];exact ar,by omega,bF,.inr ⟨b,_,Ch,js,rfl,dg.lt,by rw[hs];exact dR,fun _=>⟨by omega,?_⟩⟩⟩,?_,?_⟩
     ·obtain⟨cs,t,ep,eE⟩:=dg;refine⟨cs,t,ep,Nat.le_trans ?_ eE⟩;rw[hs,Nat.add_assoc,←Nat.add_mul];exact Nat.add_le_add_left (Nat.mul_le_mul_right _ (Nat.le_of_eq nK)) _
     ·refine List.nodup_cons.2 ⟨fun hb=>jd.2 b c6 (by simp[hb]),?_⟩;have:=jd.1;rw[List.nodup_append]at this;have:=this.2.1;rw[List.nodup_append]at this;exact this.1
     ·intro x h9;rcases List.mem_cons.1 h9 with rfl|h9
      ·exact⟨β,ag,.inl ⟨DP,c6⟩⟩
      ·exact⟨β,ag,.inr ⟨kn,by rw[b7];simp[h9]⟩⟩
theorem U6(r:R B w0 a4 φ σ kp a w){id off len:Nat}{sz:Nat}{xs:List (List D)}(hx:a5 σ.heap id=.ah sz xs true)(hl:off+len≤xs.length){u:Value}(gA:VRel φ (c9 φ σ.heap) w.heap (.sl id off len) u) :
  ∃F,rep w.heap true (.sl sz ((xs.drop off).take len)) u F∧F.Nodup∧∀b∈F,dS φ σ.heap id b:=Oc r (by rw[hx];rfl) hl gA
theorem Ol(r:R B w0 a4 φ σ kp a w){v:V}{d:D}{cz:List Nat}(h:toD σ.heap v=some (d,cz)){u:Value}(gA:VRel φ (c9 φ σ.heap) w.heap v u) :
  ∃F,rep w.heap true d u F∧F.Nodup∧(∀b∈F,∃id∈cz,dS φ σ.heap id b)∧∀id∈cz,∃sz xs,a5 σ.heap id=.ah sz xs true:=by
 unfold toD at h;split at h
 ·split at h
  ·rename_i x hf;simp only[b4,dL]at h;obtain⟨rfl,rfl⟩:=h;simp only[VRel]at gA;obtain⟨F,aY,_⟩:=gA;have:=Gl hf aY;subst this;exact⟨[],JP hf aY,List.nodup_nil,by simp,by simp⟩
  ·cases h
 ·simp only[b4,dL]at h;obtain⟨rfl,rfl⟩:=h;simp only[VRel]at gA;subst gA;exact⟨[],⟨none,0,rfl,by simp,by decide,.inl ⟨rfl,rfl,fun _=>rfl⟩⟩,List.nodup_nil,by simp,by simp⟩
 ·rename_i id off len;split at h
  ·rename_i sz xs hx;split at h
   ·rename_i hl;simp only[b4,dL]at h;obtain⟨rfl,rfl⟩:=h;obtain⟨F,k1,k2,dR⟩:=U6 r hx hl gA;exact⟨F,k1,k2,fun b hb=>⟨id,by simp,dR b hb⟩,by simp[hx]⟩
   ·cases h
  ·cases h
 ·cases h
theorem xT:∀(upd:List (Nat×H)) (hs:List H) (i:Nat),(∃x,(i,x)∈upd∧a5 (hupd hs upd) i=x)∨((∀x,(i,x)∉upd)∧a5 (hupd hs upd) i=a5 hs i)
 |[],hs,i=>.inr ⟨by simp,rfl⟩
 |(j,y)::r,hs,i=>by
  rw[hupd];rcases xT r (cO hs j y) i with ⟨x,h1,h2⟩|⟨h1,h2⟩
  ·exact .inl ⟨x,by simp[h1],h2⟩
  ·rw[jz]at h2;by_cases h:i=j
   ·subst h;rw[if_pos rfl]at h2;exact .inl ⟨y,by simp,h2⟩
   ·rw[if_neg h]at h2;exact .inr ⟨fun x hx=>by
     rcases List.mem_cons.1 hx with hx|hx
     ·cases hx;exact h rfl
     ·exact h1 x hx,h2⟩
theorem JG(r:R B w0 a4 φ σ kp a w){n:Nat}(hd:a5 σ.heap n=.eb)(hn:¬a4 n){upd:List (Nat×H)}(hnd:(upd.map (·.1)).Nodup)
  (hu:∀p∈upd,∃sz xs,a5 σ.heap p.1=.ah sz xs true∧(p.2=.eb∨p.2=.jK sz xs)) {β:il} {sz:Nat} {xs:List (List D)} (d':β.sz=sz) {w':World} (hs:w.heap.size≤w'.heap.size) (hb:Bel B w0 w')
  (BT:∀b,b<w.heap.size→(∀p∈upd,p.2=.eb→∀bI,φ p.1=some bI→bI.fx≠some b)→w'.heap[b]?=w.heap[b]?)
  (GG:(β.fx=none∧xs=[]∧β.cap=0∧β.d7=[])∨∃b,β.fx=some b∧xs.length≤β.cap∧pb w'.heap b (β.off+β.cap * sz)∧repE w'.heap true b β.off sz xs β.d7)
  (Ec:∀b,β.fx=some b→w.heap.size≤b∨∃p∈upd,p.2=.eb∧∃bI,φ p.1=some bI∧bI.fx=some b)
  (AH:∀b∈β.d7,w.heap.size≤b∨∃p∈upd,dS φ σ.heap p.1 b) (OH:β.d7.Nodup) (OI:∀b,β.fx=some b→b∉β.d7) :
  R B w0 (fun i=>a4 i∨(n≤i∧i<n+1)) (ec φ n β) ⟨σ.tmps,hupd (cO σ.heap n (.ah sz xs true)) upd⟩ kp a w':=by
 have OG:φ n=none:=by
  cases h:φ n with
  |none=>rfl
  |some β=>exact absurd (r.h7 n β h) hn
 have GH:∀x,(n,x)∉upd:=fun x hx=>by
  obtain⟨s,ys,h1,_⟩:=hu _ hx;rw[hd]at h1;cases h1
 have bt:o4 φ (ec φ n β):=fun i bI hi=>by
  have:i≠n:=fun e=>by subst e;rw[OG]at hi;cases hi
  exact⟨bI,by simp[ec,this,hi],rfl,rfl,rfl,rfl⟩
 have kG:a5 (hupd (cO σ.heap n (.ah sz xs true)) upd) n=.ah sz xs true:=by
  rcases xT upd (cO σ.heap n (.ah sz xs true)) n with ⟨x,h1,_⟩|⟨_,h2⟩
  ·exact absurd h1 (GH x)
  ·rw[h2,jz,if_pos rfl]
 have hin:∀i x,(i,x)∈upd→a5 (hupd (cO σ.heap n (.ah sz xs true)) upd) i=x:=by
  intro i x hx;rcases xT upd (cO σ.heap n (.ah sz xs true)) i with ⟨y,h1,h2⟩|⟨h1,_⟩
  ·have:y=x:=by
    have hp:List.Pairwise (fun p q=>p.1≠q.1) upd:=by simpa [List.Nodup,List.pairwise_map]using hnd
    by_cases pO:y=x
    ·exact pO
    ·exfalso;have:=List.Pairwise.forall_of_forall_of_flip (R:=fun p q:Nat×H=>p=q∨p.1≠q.1) (l:=upd) (fun p _=>.inl rfl) (hp.imp fun h=>.inr h) (hp.imp fun h=>.inr (Ne.symm h)) h1 hx;rcases this with this|this
     ·cases this;exact pO rfl
     ·exact this rfl
   rw[h2,this]
  ·exact absurd hx (h1 x)
 have oJ:∀i,i≠n→(∀x,(i,x)∉upd)→a5 (hupd (cO σ.heap n (.ah sz xs true)) upd) i=a5 σ.heap i:=by
  intro i hi hx;rcases xT upd (cO σ.heap n (.ah sz xs true)) i with ⟨y,h1,h2⟩|⟨_,h2⟩
  ·exact absurd h1 (hx y)
  ·rw[h2,jz,if_neg hi]
 have wU:∀i,i≠n→ec φ n β i=φ i:=fun i hi=>by simp[ec,hi]
 have zj:∀i x,(i,x)∈upd→x.o'=false∧x.own=false:=by
  intro i x hx;obtain⟨s,ys,_,h2⟩:=hu _ hx;rcases h2 with h2|h2<;>simp only at h2<;>subst h2<;>exact⟨rfl,rfl⟩
 have GI:∀i x,(i,x)∈upd→∀bI b,¬l8 x bI b:=by
  intro i x hx bI b ht;rcases ht with ⟨h,_⟩|⟨h,_⟩
  ·rw[(zj i x hx).1]at h;cases h
  ·have:=H.J3 h;rw[(zj i x hx).2]at this;cases this
 have zk:∀i,(i=n∨∃x,(i,x)∈upd)→∀b,dS (ec φ n β) (hupd (cO σ.heap n (.ah sz xs true)) upd) i b→i=n∧(β.fx=some b∨b∈β.d7):=by
  rintro i (rfl|⟨x,hx⟩) b ⟨bI,h1,h2⟩
  ·simp only[ec,if_true,b4]at h1;subst h1;refine⟨rfl,?_⟩;rcases h2 with ⟨_,h2⟩|⟨_,h2⟩
   ·exact .inl h2
   ·exact .inr h2
  ·rw[hin i x hx]at h2;obtain⟨k1,k2⟩:=zj i x hx;rcases h2 with ⟨h2,_⟩|⟨h2,_⟩
   ·rw[k1]at h2;cases h2
   ·rw[k2]at h2;cases h2
 have GJ:∀p∈upd,∀bI b,φ p.1=some bI→bI.fx=some b→dS φ σ.heap p.1 b:=by
  intro p hp bI b h1 h2;obtain⟨s,ys,ao,_⟩:=hu p hp;exact⟨bI,h1,.inl ⟨by rw[ao];rfl,h2⟩⟩
 have afl:∀b,b<w.heap.size→c9 φ σ.heap b→c9 (ec φ n β) (hupd (cO σ.heap n (.ah sz xs true)) upd) b:=by
  intro b hI ht i bI hi he;by_cases h:i=n
  ·subst h;simp only[ec,if_true,b4]at hi;subst hi;rw[kG]at he;rcases he with ⟨_,he⟩|⟨he,_⟩
   ·rcases Ec b he with h1|⟨p,hp,_,bI,h1,h2⟩
    ·omega
    ·obtain⟨s,ys,ao,_⟩:=hu p hp;exact ht p.1 bI h1 (.inl ⟨by rw[ao];rfl,h2⟩)
   ·cases he
  ·rw[wU i h]at hi;by_cases hx:∃x,(i,x)∈upd
   ·obtain⟨x,hx⟩:=hx;rw[hin i x hx]at he;exact GI i x hx _ _ he
   ·rw[oJ i h (fun x h9=>hx ⟨x,h9⟩)]at he;exact ht i bI hi he
 refine y_ r (fun i=>i=n∨∃x,(i,x)∈upd) _ _ _ w' (fun i hi=>?_) bt hs (fun b hI ht=>?_) (fun i hi b aJ=>?_) (fun i hi bI h1 b h2=>?_) (fun i j b hi aK h1 h2=>?_) (fun i bI hi h1 hx=>?_) (fun i hi=>?_) (fun i bI hi=>?_) hb
 ·exact⟨oJ i (fun e=>hi (.inl e)) (fun x hx=>hi (.inr ⟨x,hx⟩)),wU i (fun e=>hi (.inl e))⟩
 ·refine BT b hI fun p hp _ bI h1 h2=>?_;obtain⟨s,ys,ao,_⟩:=hu p hp;exact ht p.1 (.inr ⟨p.2,hp⟩) bI h1 (.inl ⟨by rw[ao];rfl,h2⟩)
 ·obtain⟨rfl,h1⟩:=zk i hi b aJ;rcases h1 with h1|h1
  ·rcases Ec b h1 with h2|⟨p,hp,_,bI,h2,ao⟩
   ·exact .inl h2
   ·exact .inr ⟨p.1,.inr ⟨p.2,hp⟩,GJ p hp bI b h2 ao⟩
  ·rcases AH b h1 with h2|⟨p,hp,h2⟩
   ·exact .inl h2
   ·exact .inr ⟨p.1,.inr ⟨p.2,hp⟩,h2⟩
 ·have aJ:dS (ec φ n β) (hupd (cO σ.heap n (.ah sz xs true)) upd) i b:=l8.zf h1 h2;obtain⟨rfl,_⟩:=zk i hi b aJ;simp only[ec,if_true,b4]at h1;subst h1;rw[kG]at h2;rcases h2 with ⟨_,h2⟩|⟨h2,_⟩
  ·rcases Ec b h2 with ao|⟨p,hp,_,bI,ao,aN⟩
   ·exact .inl ao
   ·obtain⟨s,ys,b6,_⟩:=hu p hp;exact .inr ⟨p.1,bI,.inr ⟨p.2,hp⟩,ao,.inl ⟨by rw[b6];rfl,aN⟩⟩
  ·cases h2
 ·rw[(zk i hi b h1).1,(zk j aK b h2).1]
 ·rcases hi with rfl|⟨x,h9⟩
  ·simp only[ec,if_true,b4]at h1;subst h1;exact⟨OH,OI⟩
  ·rw[hin i x h9,(zj i x h9).2]at hx;cases hx
 ·rcases hi with rfl|⟨x,hx⟩
  ·refine .inr ⟨β,by simp[ec],?_⟩;rw[kG];refine⟨d',?_⟩;rcases GG with h1|⟨b,h1,h2,ao,aN⟩
   ·exact .inl h1
   ·exact .inr ⟨b,β.d7,h1,h2,ao,aN,fun _=>rfl,fun h=>by cases h⟩
  ·rw[hin i x hx];obtain⟨s,ys,h1,h2⟩:=hu _ hx;rcases h2 with h2|h2
   ·exact .inl h2
   ·simp only at h2 h1;subst h2;have GK:i≠n:=fun e=>by subst e;exact GH _ hx
    rcases r.hp i with jY|⟨bI,ag,hr⟩
    ·rw[h1]at jY;cases jY
    ·refine .inr ⟨bI,by rw[wU i GK];exact ag,?_⟩;rw[h1]at hr;obtain⟨y9,hr⟩:=hr;refine⟨y9,?_⟩;rcases hr with hr|⟨b,G,aY,bn,dg,dz,gb,jB⟩
     ·exact .inl hr.2.1
     ·have b7:=gb rfl;have q9:dS φ σ.heap i b:=⟨bI,ag,.inl ⟨by rw[h1];rfl,aY⟩⟩;have GL:∀g∈G,dS φ σ.heap i g:=fun g hg=>⟨bI,ag,.inr ⟨by rw[h1];rfl,b7▸hg⟩⟩;have hk:∀c,dS φ σ.heap i c→w'.heap[c]?=w.heap[c]?:=by
       intro c hc;refine BT c (dS.lt r hc) fun p hp GM lf bD bX=>?_;have:=r.dZ i p.1 c hc (GJ p hp lf c bD bX);have ao:=hin p.1 p.2 hp;rw[←this,hin i _ hx,GM]at ao;cases ao
      have cM:∀c,dS φ σ.heap i c→c9 (ec φ n β) (hupd (cO σ.heap n (.ah sz xs true)) upd) c∨∃ez,β.fx=some ez∧ez=c:=by
       intro c hc;by_cases AV:β.fx=some c
       ·exact .inr ⟨c,AV,rfl⟩
       ·refine .inl fun j lf aK he=>?_;by_cases h:j=n
        ·subst h;simp only[ec,if_true,b4]at aK;subst aK;rw[kG]at he;rcases he with ⟨_,he⟩|⟨he,_⟩
         ·exact AV he
         ·cases he
        ·rw[wU j h]at aK;by_cases g3:∃x,(j,x)∈upd
         ·obtain⟨x,g3⟩:=g3;rw[hin j x g3]at he;exact GI j x g3 _ _ he
         ·rw[oJ j h (fun x h9=>g3 ⟨x,h9⟩)]at he;have:=r.dZ i j c hc (l8.zf aK he);exact g3 ⟨_,this▸hx⟩
      have GN:∀c,dS φ σ.heap i c→c9 (ec φ n β) (hupd (cO σ.heap n (.ah sz xs true)) upd) c:=by
       intro c hc;rcases cM c hc with h|⟨ez,bD,rfl⟩
       ·exact h
       ·exfalso;rcases Ec ez bD with ao|⟨p,hp,GM,lf,bX,bu⟩
        ·have:=dS.lt r hc;omega
        ·have:=r.dZ i p.1 ez hc (GJ p hp lf ez bX bu);have ao:=hin p.1 p.2 hp;rw[←this,hin i _ hx,GM]at ao;cases ao
      exact .inr ⟨b,G,aY,GN b q9,Nat.lt_of_lt_of_le dg.lt hs,zh hs ys b bI.off s G (hk b q9) (fun g hg=>hk g (GL g hg)) (GA _ _ _ _ _ dz),fun g hg=>GN g (GL g hg)⟩
 ·by_cases h:i=n
  ·exact .inr ⟨by omega,by omega⟩
  ·exact .inl (r.h7 i bI (by rw[←wU i h];exact hi))
theorem afm(r:R B w0 a4 φ σ kp a w){n:Nat}{upd:List (Nat×H)}(hnd:(upd.map (·.1)).Nodup)
  (hu:∀p∈upd,∃sz xs,a5 σ.heap p.1=.ah sz xs true∧(p.2=.eb∨p.2=.jK sz xs)) {β β0:il} {ib:Nat} {afn:List (List D)} (dc:φ n=some β0) (h0:a5 σ.heap n=.ah ib afn true) (fD:β.fx=β0.fx∧β.off=β0.off∧β.cap=β0.cap∧β.sz=β0.sz) (GH:∀x,(n,x)∉upd) {sz:Nat} {xs:List (List D)} (d':β.sz=sz) {w':World} (hs:w.heap.size≤w'.heap.size) (hb:Bel B w0 w')
  (BT:∀b,b<w.heap.size→β0.fx≠some b→(∀p∈upd,p.2=.eb→∀bI,φ p.1=some bI→bI.fx≠some b)→w'.heap[b]?=w.heap[b]?)
  (GG:(β.fx=none∧xs=[]∧β.cap=0∧β.d7=[])∨∃b,β.fx=some b∧xs.length≤β.cap∧pb w'.heap b (β.off+β.cap * sz)∧repE w'.heap true b β.off sz xs β.d7)
  (AH:∀b∈β.d7,dS φ σ.heap n b∨∃p∈upd,dS φ σ.heap p.1 b) (OH:β.d7.Nodup) (OI:∀b,β.fx=some b→b∉β.d7) :
  R B w0 a4 (ec φ n β) ⟨σ.tmps,hupd (cO σ.heap n (.ah sz xs true)) upd⟩ kp a w':=by
 have bt:o4 φ (ec φ n β):=fun i bI hi=>by
  by_cases h:i=n
  ·subst h;rw[dc]at hi;cases hi;exact⟨β,by simp[ec],fD.1,fD.2.1,fD.2.2.1,fD.2.2.2⟩
  ·exact⟨bI,by simp[ec,h,hi],rfl,rfl,rfl,rfl⟩
 have kG:a5 (hupd (cO σ.heap n (.ah sz xs true)) upd) n=.ah sz xs true:=by
  rcases xT upd (cO σ.heap n (.ah sz xs true)) n with ⟨x,h1,_⟩|⟨_,h2⟩
  ·exact absurd h1 (GH x)
  ·rw[h2,jz,if_pos rfl]
 have hin:∀i x,(i,x)∈upd→a5 (hupd (cO σ.heap n (.ah sz xs true)) upd) i=x:=by
  intro i x hx;rcases xT upd (cO σ.heap n (.ah sz xs true)) i with ⟨y,h1,h2⟩|⟨h1,_⟩
  ·have:y=x:=by
    have hp:List.Pairwise (fun p q=>p.1≠q.1) upd:=by simpa [List.Nodup,List.pairwise_map]using hnd
    by_cases pO:y=x
    ·exact pO
    ·exfalso;have:=List.Pairwise.forall_of_forall_of_flip (R:=fun p q:Nat×H=>p=q∨p.1≠q.1) (l:=upd) (fun p _=>.inl rfl) (hp.imp fun h=>.inr h) (hp.imp fun h=>.inr (Ne.symm h)) h1 hx;rcases this with this|this
     ·cases this;exact pO rfl
     ·exact this rfl
   rw[h2,this]
  ·exact absurd hx (h1 x)
 have oJ:∀i,i≠n→(∀x,(i,x)∉upd)→a5 (hupd (cO σ.heap n (.ah sz xs true)) upd) i=a5 σ.heap i:=by
  intro i hi hx;rcases xT upd (cO σ.heap n (.ah sz xs true)) i with ⟨y,h1,h2⟩|⟨_,h2⟩
  ·exact absurd h1 (hx y)
  ·rw[h2,jz,if_neg hi]
 have wU:∀i,i≠n→ec φ n β i=φ i:=fun i hi=>by simp[ec,hi]
 have zj:∀i x,(i,x)∈upd→x.o'=false∧x.own=false:=by
  intro i x hx;obtain⟨s,ys,_,h2⟩:=hu _ hx;rcases h2 with h2|h2<;>simp only at h2<;>subst h2<;>exact⟨rfl,rfl⟩
 have GI:∀i x,(i,x)∈upd→∀bI b,¬l8 x bI b:=by
  intro i x hx bI b ht;rcases ht with ⟨h,_⟩|⟨h,_⟩
  ·rw[(zj i x hx).1]at h;cases h
  ·have:=H.J3 h;rw[(zj i x hx).2]at this;cases this
 have zk:∀i,(i=n∨∃x,(i,x)∈upd)→∀b,dS (ec φ n β) (hupd (cO σ.heap n (.ah sz xs true)) upd) i b→i=n∧(β.fx=some b∨b∈β.d7):=by
  rintro i (rfl|⟨x,hx⟩) b ⟨bI,h1,h2⟩
  ·simp only[ec,if_true,b4]at h1;subst h1;refine⟨rfl,?_⟩;rcases h2 with ⟨_,h2⟩|⟨_,h2⟩
   ·exact .inl h2
   ·exact .inr h2
  ·rw[hin i x hx]at h2;obtain⟨k1,k2⟩:=zj i x hx;rcases h2 with ⟨h2,_⟩|⟨h2,_⟩
   ·rw[k1]at h2;cases h2
   ·rw[k2]at h2;cases h2
 have GJ:∀p∈upd,∀bI b,φ p.1=some bI→bI.fx=some b→dS φ σ.heap p.1 b:=by
  intro p hp bI b h1 h2;obtain⟨s,ys,ao,_⟩:=hu p hp;exact⟨bI,h1,.inl ⟨by rw[ao];rfl,h2⟩⟩
 have afl:∀b,b<w.heap.size→c9 φ σ.heap b→c9 (ec φ n β) (hupd (cO σ.heap n (.ah sz xs true)) upd) b:=by
  intro b hI ht i bI hi he;by_cases h:i=n
  ·subst h;simp only[ec,if_true,b4]at hi;subst hi;rw[kG]at he;rcases he with ⟨_,he⟩|⟨he,_⟩
   ·exact ht i β0 dc (.inl ⟨by rw[h0];rfl,fD.1▸he⟩)
   ·cases he
  ·rw[wU i h]at hi;by_cases hx:∃x,(i,x)∈upd
   ·obtain⟨x,hx⟩:=hx;rw[hin i x hx]at he;exact GI i x hx _ _ he
   ·rw[oJ i h (fun x h9=>hx ⟨x,h9⟩)]at he;exact ht i bI hi he
 refine y_ r (fun i=>i=n∨∃x,(i,x)∈upd) _ _ _ w' (fun i hi=>?_) bt hs (fun b hI ht=>?_) (fun i hi b aJ=>?_) (fun i hi bI h1 b h2=>?_) (fun i j b hi aK h1 h2=>?_) (fun i bI hi h1 hx=>?_) (fun i hi=>?_) (fun i bI hi=>?_) hb
 ·exact⟨oJ i (fun e=>hi (.inl e)) (fun x hx=>hi (.inr ⟨x,hx⟩)),wU i (fun e=>hi (.inl e))⟩
 ·refine BT b hI (fun qU=>ht n (.inl rfl) β0 dc (.inl ⟨by rw[h0];rfl,qU⟩)) fun p hp _ bI h1 h2=>?_;obtain⟨s,ys,ao,_⟩:=hu p hp;exact ht p.1 (.inr ⟨p.2,hp⟩) bI h1 (.inl ⟨by rw[ao];rfl,h2⟩)
 ·obtain⟨rfl,h1⟩:=zk i hi b aJ;rcases h1 with h1|h1
  ·exact .inr ⟨i,.inl rfl,β0,dc,.inl ⟨by rw[h0];rfl,fD.1▸h1⟩⟩
  ·rcases AH b h1 with h2|⟨p,hp,h2⟩
   ·exact .inr ⟨i,.inl rfl,h2⟩
   ·exact .inr ⟨p.1,.inr ⟨p.2,hp⟩,h2⟩
 ·have aJ:dS (ec φ n β) (hupd (cO σ.heap n (.ah sz xs true)) upd) i b:=l8.zf h1 h2;obtain⟨rfl,_⟩:=zk i hi b aJ;simp only[ec,if_true,b4]at h1;subst h1;rw[kG]at h2;rcases h2 with ⟨_,h2⟩|⟨h2,_⟩
  ·exact .inr ⟨i,β0,.inl rfl,dc,.inl ⟨by rw[h0];rfl,fD.1▸h2⟩⟩
  ·cases h2
 ·rw[(zk i hi b h1).1,(zk j aK b h2).1]
 ·rcases hi with rfl|⟨x,h9⟩
  ·simp only[ec,if_true,b4]at h1;subst h1;exact⟨OH,OI⟩
  ·rw[hin i x h9,(zj i x h9).2]at hx;cases hx
 ·rcases hi with rfl|⟨x,hx⟩
  ·refine .inr ⟨β,by simp[ec],?_⟩;rw[kG];refine⟨d',?_⟩;rcases GG with h1|⟨b,h1,h2,ao,aN⟩
   ·exact .inl h1
   ·exact .inr ⟨b,β.d7,h1,h2,ao,aN,fun _=>rfl,fun h=>by cases h⟩
  ·rw[hin i x hx];obtain⟨s,ys,h1,h2⟩:=hu _ hx;rcases h2 with h2|h2
   ·exact .inl h2
   ·simp only at h2 h1;subst h2;have GK:i≠n:=fun e=>by subst e;exact GH _ hx
    rcases r.hp i with jY|⟨bI,ag,hr⟩
    ·rw[h1]at jY;cases jY
    ·refine .inr ⟨bI,by rw[wU i GK];exact ag,?_⟩;rw[h1]at hr;obtain⟨y9,hr⟩:=hr;refine⟨y9,?_⟩;rcases hr with hr|⟨b,G,aY,bn,dg,dz,gb,jB⟩
     ·exact .inl hr.2.1
     ·have b7:=gb rfl;have q9:dS φ σ.heap i b:=⟨bI,ag,.inl ⟨by rw[h1];rfl,aY⟩⟩;have GL:∀g∈G,dS φ σ.heap i g:=fun g hg=>⟨bI,ag,.inr ⟨by rw[h1];rfl,b7▸hg⟩⟩;have hk:∀c,dS φ σ.heap i c→w'.heap[c]?=w.heap[c]?:=by
       intro c hc;refine BT c (dS.lt r hc) (fun Eb=>GK (r.dZ i n c hc ⟨β0,dc,.inl ⟨by rw[h0];rfl,Eb⟩⟩)) fun p hp GM lf bD bX=>?_;have:=r.dZ i p.1 c hc (GJ p hp lf c bD bX);have ao:=hin p.1 p.2 hp;rw[←this,hin i _ hx,GM]at ao;cases ao
      have cM:∀c,dS φ σ.heap i c→c9 (ec φ n β) (hupd (cO σ.heap n (.ah sz xs true)) upd) c∨∃ez,β.fx=some ez∧ez=c:=by
       intro c hc;by_cases AV:β.fx=some c
       ·exact .inr ⟨c,AV,rfl⟩
       ·refine .inl fun j lf aK he=>?_;by_cases h:j=n
        ·subst h;simp only[ec,if_true,b4]at aK;subst aK;rw[kG]at he;rcases he with ⟨_,he⟩|⟨he,_⟩
         ·exact AV he
         ·cases he
        ·rw[wU j h]at aK;by_cases g3:∃x,(j,x)∈upd
         ·obtain⟨x,g3⟩:=g3;rw[hin j x g3]at he;exact GI j x g3 _ _ he
         ·rw[oJ j h (fun x h9=>g3 ⟨x,h9⟩)]at he;have:=r.dZ i j c hc (l8.zf aK he);exact g3 ⟨_,this▸hx⟩
      have GN:∀c,dS φ σ.heap i c→c9 (ec φ n β) (hupd (cO σ.heap n (.ah sz xs true)) upd) c:=by
       intro c hc;rcases cM c hc with h|⟨ez,bD,rfl⟩
       ·exact h
       ·exfalso;exact GK (r.dZ i n ez hc ⟨β0,dc,.inl ⟨by rw[h0];rfl,fD.1▸bD⟩⟩)
      exact .inr ⟨b,G,aY,GN b q9,Nat.lt_of_lt_of_le dg.lt hs,zh hs ys b bI.off s G (hk b q9) (fun g hg=>hk g (GL g hg)) (GA _ _ _ _ _ dz),fun g hg=>GN g (GL g hg)⟩
 ·by_cases h:i=n
  ·subst h;exact r.h7 i β0 dc
  ·exact r.h7 i bI (by rw[←wU i h];exact hi)
end
variable {P:Program} {o:Oper} {g:Bool} {σ:St} {n:Nat} {K:fW→Prop}
section
variable {B:Nat→Prop} {w0:World} {a4:Nat→Prop} {φ:c1} {kp:List (V×Value)} {a:Act} {w:World}
theorem afo(r:R B w0 a4 φ σ kp a w){id:Nat}{β:il}(dc:φ id=some β){cells cells':List V}(h0:a5 σ.heap id=.box cells){b:Nat}(lO:β.fx=some b){D8:Array Value}{e:TypeId}{w':World}
  (hc:VRels φ (c9 φ σ.heap) w.heap cells' D8.toList) (hw:w'.heap[b]?=some (.cells D8 e (0,0))) (hk:∀c,c≠b→w'.heap[c]?=w.heap[c]?) (hs:w'.heap.size=w.heap.size) (hb:Bel B w0 w') :
  R B w0 a4 φ ⟨σ.tmps,cO σ.heap id (.box cells')⟩ kp a w':=by
 have cM:∀c,c9 φ σ.heap c→c9 φ (cO σ.heap id (.box cells')) c:=by
  intro c ht i bI hi he;rw[jz]at he;by_cases h:i=id
  ·subst h;rw[if_pos rfl]at he;rcases he with ⟨_,he⟩|⟨he,_⟩
   ·exact ht i bI hi (.inl ⟨by rw[h0];rfl,he⟩)
   ·cases he
  ·rw[if_neg h]at he;exact ht i bI hi he
 have Ci:∀c,c9 φ σ.heap c→c≠b:=fun c ht pR=>by subst pR;exact ht id β dc (.inl ⟨by rw[h0];rfl,lO⟩)
 refine y_ r (fun i=>i=id) _ _ _ w' (fun i hi=>⟨by rw[jz,if_neg hi],rfl⟩) (o4.refl φ) ω (fun c _ ht=>hk c fun pR=>?_) ?_ ?_ (fun i j b hi aK _ _=>hi.trans aK.symm) ?_ ?_ r.h7 hb
 ·subst pR;exact ht id rfl β dc (.inl ⟨by rw[h0];rfl,lO⟩)
 ·rintro i rfl c ⟨bI,h1,h2⟩;rw[dc]at h1;cases h1;rw[jz,if_pos rfl]at h2;rcases h2 with ⟨_,h2⟩|⟨h2,_⟩
  ·exact .inr ⟨i,rfl,β,dc,.inl ⟨by rw[h0];rfl,h2⟩⟩
  ·cases h2
 ·rintro i rfl bI h1 c h2;rw[dc]at h1;cases h1;rw[jz,if_pos rfl]at h2;rcases h2 with ⟨_,h2⟩|⟨h2,_⟩
  ·exact .inr ⟨i,β,rfl,dc,.inl ⟨by rw[h0];rfl,h2⟩⟩
  ·cases h2
 ·rintro i bI rfl _ hx;rw[jz,if_pos rfl]at hx;cases hx
 ·rintro i rfl;refine .inr ⟨β,dc,?_⟩;rw[jz,if_pos rfl];have afp:β.off=0:=by
   rcases r.hp i with hd|⟨bI,ag,hr⟩
   ·rw[h0]at hd;cases hd
   ·rw[dc]at ag;cases ag;rw[h0]at hr;obtain⟨_,_,_,_,h,_⟩:=hr;exact h
  exact⟨b,D8,e,lO,afp,hw,vr ⟨o4.refl φ,fun c _ ht=>cM c ht,fun c _ ht=>hk c (Ci c ht),by omega⟩ _ _ hc⟩
end
theorem JL{B:Nat→Prop}{w0 w:World}(h:Bel B w0 w)(hB:∀k,w.heap.size≤k→B k)(o:Obj):Bel B w0 (w.alloc o):=
 h.trans ⟨rfl,rfl,rfl,by simp,fun k hk=>RowKit.Below.heap_alloc _ _ _ (by
  rcases Nat.lt_or_ge k w.heap.size with h|h
  ·exact h
  ·exact absurd (hB k h) hk),fun b n r=>r.mono (RowKit.Below.heap_alloc _ _ _ r.lt)⟩
theorem Oo{B:Nat→Prop}{w0:World}{a4 AB:Nat→Prop}{φ:c1}{kp:List (V×Value)}{a:Act}{w:World}(r:R B w0 a4 φ σ kp a w)(h:∀i,a4 i→AB i):R B w0 AB φ σ kp a w:=
 ⟨r.iA,r.kp,r.hp,r.dZ,r.gu,r.gZ,fun i β e=>h i (r.h7 i β e),r.g0,r.bs,r.oz,r.l4⟩
theorem afq{φ:c1}{T:Nat→Prop}{h:Array Obj}{n b:Nat}:VRel (ec φ n ⟨some b,0,0,0,[]⟩) T h (.ptr n 0 0) (.pointer (some ⟨b,0,none⟩)):=by
 simp only[VRel];exact⟨⟨some b,0,0,0,[]⟩,b,by simp[ec],rfl,by simp⟩
theorem VZ{cells:List V}{cs:Act→Array Value}{e:TypeId}(gQ:∀(a:Act) (w:World),(execOp a.eval o).run P w=.ok (.value (.pointer (some ⟨w.heap.size,0,none⟩))) (w.alloc (.cells (cs a) e)))
  (GG:∀{σ':St} {B:Nat→Prop} {w0:World} {a4:Nat→Prop} {φ:c1} {kp:List (V×Value)} {a:Act} {w:World},σ.le σ'→R B w0 a4 φ σ' kp a w→g=true→VRels φ (c9 φ σ'.heap) w.heap cells (cs a).toList) :
  i2 P o g σ n ⟨.ptr n 0 0,[.box cells],[]⟩:=by
 intro σ' bt hd B w0 a4 φ kp a w lj bj hg K Q cd;unfold Oper.wp;rw[gQ,Oper.upon_value];have h1:=afj bj (n:=n) (hd n (fE _) ξ) (lj n (fE _) ξ) (GG bt bj hg) (w':=w.alloc (.cells (cs a) e)) rfl (JL bj.g0 bj.bs _);exact cd _ _ _ (pc h1 o.dst afq)
theorem ok_alloc{T:TypeId}(aJ:o.op=.alloc T)(h:match zrI P T with|some cells=>K ⟨.ptr n 0 0,[.box cells],[]⟩|none=>False):∃r,i2 P o g σ n r∧K r:=by
 split at h
 ·rename_i cells hz;obtain⟨i,z,hi,J4,hr⟩:=DW hz;refine⟨_,VZ (cs:=fun _=>z.cells) (e:=T) (fun a w=>?_) (fun _ _ _=>hr _ _ _),h⟩;unfold execOp;rw[aJ];simp[Instr.alloc,zeroValue,typeInfo,hi,J4,newVar,newRow]
 ·exact h.elim
theorem aeU{T:TypeId}{x:Operand}(aJ:o.op=.box T x)(h:evg g (σ.ev x) fun v=>v.xO=true∧K ⟨.ptr n 0 0,[.box v.cells],[]⟩):∃r,i2 P o g σ n r∧K r:=by
 obtain⟨v,h1,hx⟩:=hT h;refine⟨_,VZ (cs:=fun a=>(a.eval x).cells) (e:=T) (fun a w=>?_) (fun bt r hg=>(GO h1.1 (hx _ _ _ _ hg (g_ bt r x))).1),h1.2⟩;unfold execOp;rw[aJ];simp[Instr.box,newVar,newRow]
def storeE(P:Program)(hs:List H)(T:TypeId)(p v:V):Option (Prop×List (Nat×H)):=
 match tyI P T,p with
 |some (sz,_),.ptr id cx off=>
  match a5 hs id with
  |.box cells=>some (cx=0∧v.xO=true∧v.cells.length=sz∧off+sz≤cells.length,[(id,.box (g9 cells off v.cells))])
  |.ah s xs true=>
   match toDs hs v.cells with
   |some (ds,cz)=>some (v.xO=true∧v.cells.length=sz∧cx<xs.length∧off+sz≤((xs[cx]?).getD []).length∧cz.Nodup∧id∉cz,(id,.ah s (xs.set cx (g9 ((xs[cx]?).getD []) off ds)) true)::cz.map fun i=>(i,match a5 hs i with|.ah s ys _=>.jK s ys|x=>x))
   |none=>none
  |.hN s pre cells post=>some (cx=pre.length∧v.xO=true∧v.cells.length=sz∧off+sz≤cells.length,[(id,.hN s pre (g9 cells off v.cells) post)])
  |_=>none
 |_,_=>none
def reps(h:Array Obj)(o:Bool):List D→List Value→List Nat→Prop
 |[],us,G=>us=[]∧G=[]
 |d::ds,us,G=>∃u cT cy cl,us=u::cT∧G=cy++cl∧rep h o d u cy∧reps h o ds cT cl
theorem Gy{h:Array Obj}{o:Bool}{b:Nat}:∀(ds:List D) (us:List Value) (f:Nat) (G:List Nat),reps h o ds us G→(∀(j:Nat) (u:Value),us[j]?=some u→cellAt h b (f+j)=some u)→repC h o b f ds G
 |[],us,f,G,r,_=>by simp only[reps]at r;simpa [repC]using r.2
 |d::ds,us,f,G,r,hc=>by
  simp only[reps]at r;obtain⟨u,cT,cy,cl,rfl,rfl,aY,bn⟩:=r;simp only[repC];refine⟨u,cy,cl,rfl,by simpa using hc 0 u rfl,aY,Gy ds cT (f+1) cl bn fun j v aK=>?_⟩;rw[show f+1+j=f+(j+1)from by omega];exact hc (j+1) v (by simpa using aK)
theorem OJ{h h':Array Obj}{o:Bool}(hs:h.size≤h'.size):∀(ds:List D) (us:List Value) (G:List Nat),(∀g∈G,h'[g]?=h[g]?)→reps h o ds us G→reps h' o ds us G
 |[],us,G,_,r=>by simpa [reps]using r
 |d::ds,us,G,b7,r=>by
  simp only[reps]at r⊢;obtain⟨u,cT,cy,cl,rfl,rfl,aY,bn⟩:=r;exact⟨u,cT,cy,cl,rfl,rfl,Fy hs d u cy (fun g hg=>b7 g (by simp[hg])) aY,OJ hs ds cT cl (fun g hg=>b7 g (by simp[hg])) bn⟩
theorem D7{h:Array Obj}{o:Bool}:∀(ds:List D) (us:List Value) (G:List Nat),reps h o ds us G→us.length=ds.length
 |[],us,G,r=>by simp only[reps]at r;rw[r.1];rfl
 |d::ds,us,G,r=>by
  simp only[reps]at r;obtain⟨u,cT,cy,cl,rfl,rfl,aY,bn⟩:=r;simp[D7 ds cT cl bn]
section
variable {B:Nat→Prop} {w0:World} {a4:Nat→Prop} {φ:c1} {kp:List (V×Value)} {a:Act} {w:World}
theorem JW(r:R B w0 a4 φ σ kp a w):∀(vs:List V) (ds:List D) (cz:List Nat) (us:List Value),toDs σ.heap vs=some (ds,cz)→cz.Nodup→VRels φ (c9 φ σ.heap) w.heap vs us→
  ∃G,reps w.heap true ds us G∧G.Nodup∧(∀b∈G,∃id∈cz,dS φ σ.heap id b)∧∀id∈cz,∃sz xs,a5 σ.heap id=.ah sz xs true
 |[],ds,cz,us,e,_,dn=>by
  simp only[toDs,b4,dL]at e;obtain⟨rfl,rfl⟩:=e;simp only[VRels]at dn;subst dn;exact⟨[],by simp[reps],List.nodup_nil,by simp,by simp⟩
 |v::vs,ds,cz,us,e,hnd,dn=>by
  simp only[VRels]at dn;obtain⟨u,cT,rfl,Gm,Gn⟩:=dn;simp only[toDs]at e;split at e
  ·rename_i d i qq gl ag ar;simp only[b4,dL]at e;obtain⟨rfl,rfl⟩:=e;rw[List.nodup_append]at hnd;obtain⟨F,eH,fU,f3,Bx⟩:=Ol r ag Gm;obtain⟨G,cn,cG,d4,ic⟩:=JW r vs qq gl cT ar hnd.2.1 Gn;refine⟨F++G,?_,?_,?_,?_⟩
   ·simp only[reps];exact⟨u,cT,F,G,rfl,rfl,eH,cn⟩
   ·rw[List.nodup_append];refine⟨fU,cG,fun x hx y hy pO=>?_⟩;subst pO;obtain⟨p,eY,eK⟩:=f3 x hx;obtain⟨q,bD,bX⟩:=d4 x hy;have:=r.dZ p q x eK bX;exact hnd.2.2 p eY q bD this
   ·intro b hb;rcases fi.1 hb with hb|hb
    ·obtain⟨p,eY,eK⟩:=f3 b hb;exact⟨p,by simp[eY],eK⟩
    ·obtain⟨p,eY,eK⟩:=d4 b hb;exact⟨p,by simp[eY],eK⟩
   ·intro p hp;rcases fi.1 hp with hp|hp
    ·exact Bx p hp
    ·exact ic p hp
  ·cases e
end
theorem run_store{T:TypeId}{sz:Nat}{hJ:Bool}(h:tyI P T=some (sz,hJ)){w:World}{b f:Nat}{cs:Array Value}{e:TypeId}(hb:w.heap[b]?=some (.cells cs e (0,0))){u:Value}(hl:u.cells.size=sz)(hf:f+sz≤cs.size)(h1:∀x∈u.cells.toList,x.oneCell'=true) :
  (storeVar T ⟨b,f,none⟩ u).run P w=.ok () (w.setRow b (g9 cs.toList f u.cells.toList).toArray):=by
 obtain⟨i,hi,hs,_⟩:=OK h;have:=run_storeCells_at P b f e u.cells.toList 0 cs w hb (by simp;omega) h1;simp only[Nat.add_zero,List.append_assoc]at this;simp[storeVar,Go.sizeOf,typeInfo,hi,hs,hl,this,g9]
theorem setRow_size(w:World)(b:Nat)(cs:Array Value):(w.setRow b cs).heap.size=w.heap.size:=by simp[World.setRow]
theorem JJ{B:Nat→Prop}{b:Nat}{w0 w:World}(h:Bel B w0 w)(hb:B b){wV cs:Array Value}{e:TypeId}{bY:Nat×Nat}(hg:w.heap[b]?=some (.cells wV e bY))(hl:wV.size≤cs.size):Bel B w0 (w.setRow b cs):=
 h.trans ⟨rfl,rfl,rfl,by simp[World.setRow],fun k hk=>setRow_other w b k cs (fun e=>hk (e▸hb)),fun k n r=>by
  by_cases hk:k=b
  ·subst hk;obtain⟨c,t,h1,h2⟩:=r;rw[hg]at h1;cases h1;exact⟨cs,e,setRow_heap w k wV cs e (0,0) hg,Nat.le_trans h2 hl⟩
  ·exact r.mono (setRow_other w b k cs hk)⟩
variable {P:Program} {o:Oper} {g:Bool} {σ:St} {n:Nat} {K:fW→Prop}
theorem agf{α:Type}(c:List α)(off m:Nat):c=c.take off++((c.drop off).take m++c.drop (off+m)):=by
 have h1:=(List.take_append_drop off c).symm;have h2:=(List.take_append_drop m (c.drop off)).symm;rw[List.drop_drop]at h2;rw[←h2];exact h1
theorem agh{h h':Array Obj}{b f off:Nat}{c ds:List D}{G kq:List Nat}(r:repC h true b f c G)(hl:off+ds.length≤c.length)(hs:h.size≤h'.size)(b7:∀g∈G,h'[g]?=h[g]?)
  (oJ:∀j,j<off∨off+ds.length≤j→cellAt h' b (f+j)=cellAt h b (f+j)) (agi:repC h' true b (f+off) ds kq) :
  ∃wZ G1 vO,G=wZ++(G1++vO)∧repC h' true b f (g9 c off ds) (wZ++(kq++vO)):=by
 rw[agf c off ds.length]at r;obtain⟨wZ,cl,rfl,aY,bn⟩:=(Cf _ _ _ _).1 r;obtain⟨G1,vO,rfl,dg,dz⟩:=(Cf _ _ _ _).1 bn;have jy:(c.take off).length=off:=by simp;omega
 have j5:((c.drop off).take ds.length).length=ds.length:=by simp;omega
 rw[jy]at dg dz;rw[j5]at dz;refine⟨wZ,G1,vO,rfl,(Cf _ _ _ _).2 ⟨wZ,kq++vO,rfl,?_,(Cf _ _ _ _).2 ⟨kq,vO,rfl,by rw[jy];exact agi,?_⟩⟩⟩
 ·exact J0 _ f f wZ hs (fun x hx=>b7 x (by simp[hx])) (fun j aK=>oJ j (.inl ω)) aY
 ·rw[jy];refine J0 _ _ _ vO hs (fun x hx=>b7 x (by simp[hx])) (fun j aK=>?_) dz;rw[Nat.add_assoc,Nat.add_assoc];exact oJ _ (.inr ω)
theorem agj{α:Type}(xs:List α)(i:Nat)(c:α)(h:i<xs.length):xs.set i c=xs.take i++(c::xs.drop (i+1)):=by
 rw[List.set_eq_take_append_cons_drop,if_pos h]
theorem agk{hs:List H}{v:V}{d:D}{cz:List Nat}(h:toD hs v=some (d,cz)):∀i∈cz,∃s ys,a5 hs i=.ah s ys true:=by
 unfold toD at h;split at h
 ·split at h
  ·simp only[b4,dL]at h;obtain⟨_,rfl⟩:=h;simp
  ·cases h
 ·simp only[b4,dL]at h;obtain⟨_,rfl⟩:=h;simp
 ·rename_i id off len;split at h
  ·rename_i sz xs hx;split at h
   ·simp only[b4,dL]at h;obtain⟨_,rfl⟩:=h;intro i hi;simp only[List.mem_singleton]at hi;subst hi;exact⟨_,_,hx⟩
   ·cases h
  ·cases h
 ·cases h
theorem OP{hs:List H}:∀(vs:List V) (ds:List D) (cz:List Nat),toDs hs vs=some (ds,cz)→∀i∈cz,∃s ys,a5 hs i=.ah s ys true
 |[],ds,cz,h=>by simp only[toDs,b4,dL]at h;obtain⟨_,rfl⟩:=h;simp
 |v::vs,ds,cz,h=>by
  simp only[toDs]at h;split at h
  ·rename_i d i qq gl ag ar;simp only[b4,dL]at h;obtain⟨_,rfl⟩:=h;intro j aK;rcases fi.1 aK with aK|aK
   ·exact agk ag j aK
   ·exact OP vs qq gl ar j aK
  ·cases h
theorem agl{σ σ':St}(bt:σ.le σ'){v:V}{r:D×List Nat}(h:toD σ.heap v=some r):toD σ'.heap v=some r:=by
 cases v<;>simp only[toD]at h⊢<;>try exact h
 rename_i id off len;split at h
 ·rename_i sz xs hx;rcases bt.2 id with hh|hh
  ·rw[hx]at hh;cases hh
  ·rw[hh,hx];exact h
 ·cases h
theorem OO{σ σ':St}(bt:σ.le σ'):∀(vs:List V) (r:List D×List Nat),toDs σ.heap vs=some r→toDs σ'.heap vs=some r
 |[],_,h=>h
 |v::vs,r,h=>by
  simp only[toDs]at h⊢;split at h
  ·rename_i d i qq gl ag ar;rw[agl bt ag,OO bt vs _ ar];exact h
  ·cases h
theorem N'{w:World}{b f:Nat}{cs:Array Value}{e:TypeId}(hb:w.heap[b]?=some (.cells cs e (0,0))){us:List Value}(hl:f+us.length≤cs.size)(j:Nat) :
  cellAt (w.setRow b (g9 cs.toList f us).toArray).heap b j=if f≤j∧j<f+us.length then us[j-f]? else cellAt w.heap b j:=by
 have hnew:=setRow_heap w b cs (g9 cs.toList f us).toArray e (0,0) hb;unfold cellAt;rw[hnew,hb];simp only[List.getElem?_toArray];unfold g9;have nJ:(cs.toList.take f).length=f:=by simp;omega
 by_cases h1:j<f
 ·rw[List.getElem?_append_left ω,if_neg ω,List.getElem?_take,if_pos h1,Array.getElem?_toList]
 ·rw[List.getElem?_append_right ω,nJ];by_cases h2:j<f+us.length
  ·rw[if_pos ⟨by omega,h2⟩,List.getElem?_append_left ω]
  ·rw[if_neg ω,List.getElem?_append_right ω,List.getElem?_drop,Array.getElem?_toList]
   congr 1;omega
theorem agm{l:List Value}{off:Nat}{vs:List Value}(h:off+vs.length≤l.length)(j:Nat):(g9 l off vs)[j]?=if off≤j∧j<off+vs.length then vs[j-off]? else l[j]?:=by
 unfold g9;have nJ:(l.take off).length=off:=by simp;omega
 by_cases h1:j<off
 ·rw[List.getElem?_append_left ω,if_neg ω,List.getElem?_take,if_pos h1]
 ·rw[List.getElem?_append_right ω,nJ];by_cases h2:j<off+vs.length
  ·rw[if_pos ⟨by omega,h2⟩,List.getElem?_append_left ω]
  ·rw[if_neg ω,List.getElem?_append_right ω,List.getElem?_drop]
   congr 1;omega
theorem JK{cs:Array Value}{f:Nat}{us:List Value}(h:f+us.length≤cs.size):cs.size≤(g9 cs.toList f us).toArray.size:=by
 have:=DU (l:=cs.toList) (off:=f) (vs:=us) (by simpa using h);simp only[List.size_toArray,this,Array.length_toList];exact fE _
theorem ok_store{T:TypeId}{p x:Operand}(aJ:o.op=.store T p x)
  (h:evg g (σ.ev p) fun q=>evg g (σ.ev x) fun v=>match storeE P σ.heap T q (lK P T v)with|some (c,upd)=>c∧K ⟨.al,[],upd⟩|none=>False):∃r,i2 P o g σ n r∧K r:=by
 obtain⟨q,h1,hp⟩:=hT h;obtain⟨v,h2,hx⟩:=hT h1;clear h h1;split at h2
 ·rename_i c upd ai;obtain⟨hc,cd⟩:=h2;refine⟨_,?_,cd⟩;intro σ' bt _ B w0 a4 φ kp a w _ bj hg iC Q N4;have gj:=hp _ _ _ _ hg (g_ bt bj p);have d8:VRel φ (c9 φ σ'.heap) w.heap (lK P T v) (a.eval x):=Wd (hx _ _ _ _ hg (g_ bt bj x));generalize lK P T v=gS at ai d8;clear hp hx;have aW:∀(w':World) (dw:c1),(storeVar T (match a.eval p with|.pointer (some ad)=>ad|_=>⟨0,0,none⟩) (a.eval x)).run P w=.ok () w'→(∃ad,a.eval p=.pointer (some ad))→
    R B w0 a4 dw ⟨σ'.tmps,hupd σ'.heap upd⟩ kp a w'→o.wp P a w iC Q:=by
   rintro w' dw gQ ⟨ad,Gd⟩ fz;have pe:(execOp a.eval o).run P w=.ok .skip w':=by
    rw[Gd]at gQ;unfold execOp;rw[aJ];simp[Instr.storeAt,Gd,Instr.sureAddr,gQ]
   unfold Oper.wp;rw[pe,Oper.upon_skip];exact N4 undef w' dw (pc (Oo fz fun i hi=>.inl hi) o.dst (v:=.al) (by simp[VRel]))
  unfold storeE at ai;split at ai
  ·rename_i sz hJ id cx off qu;simp only[VRel]at gj;obtain⟨β,b,ag,ar,ba⟩:=gj;have hh:=bt.2 id;split at ai
   ·
    rename_i cells wK;simp only[b4,dL]at ai;obtain⟨rfl,rfl⟩:=ai;obtain⟨ep,eE,hE,qX⟩:=hc;have hR:a5 σ'.heap id=.box cells:=by
     rcases hh with hh|hh
     ·rw[wK]at hh;cases hh
     ·rw[hh,wK]
    rcases bj.hp id with hd|⟨bI,g',hr⟩
    ·rw[hR]at hd;cases hd
    ·rw[ag]at g';cases g';rw[hR]at hr;obtain⟨ez,cs,e,aY,bn,dg,dz⟩:=hr;rw[ar]at aY;cases aY;obtain⟨k1,k2⟩:=GO eE d8;have Ei:=lk _ _ k1;have G2:=lk _ _ dz;have d':(a.eval x).cells.size=sz:=by rw[←Array.length_toList,Ei];exact hE
     have agn:β.off+cx * β.sz+off=off:=by rw[bn,ep];simp
     rw[agn]at ba;have gQ:=run_store qu dg d' (f:=off) (by rw[←Array.length_toList,G2];exact qX) k2;have hnew:=setRow_heap w b cs (g9 cs.toList off (a.eval x).cells.toList).toArray e (0,0) dg;have hB:B b:=bj.gZ id b ⟨β,ag,.inl ⟨by rw[hR];rfl,ar⟩⟩;refine aW _ φ (by rw[ba];exact gQ) ⟨_,ba⟩ ?_;exact afo bj ag hR ar (cells':=g9 cells off gS.cells) (by simpa using O3 dz k1 off) hnew (fun c pR=>setRow_other w b c _ pR) (setRow_size _ _ _) (JJ bj.g0 hB dg (JK (by rw[Array.length_toList,d',←Array.length_toList (xs:=cs),G2];exact qX)))
   ·
    rename_i s xs wK;split at ai
    ·rename_i ds cz xA;simp only[b4,dL]at ai;obtain⟨rfl,rfl⟩:=ai;obtain⟨ep,eE,hE,qX,Pd,IY⟩:=hc;have hR:a5 σ'.heap id=.ah s xs true:=by
      rcases hh with hh|hh
      ·rw[wK]at hh;cases hh
      ·rw[hh,wK]
     rcases bj.hp id with hd|⟨bI,g',hr⟩
     ·rw[hR]at hd;cases hd
     ·rw[ag]at g';cases g';rw[hR]at hr;obtain⟨d',hr⟩:=hr;rcases hr with hr|⟨ez,G,aY,bn,dg,dz,gb,jB⟩
      ·rw[hr.2.1]at hE;simp at hE
      ·rw[ar]at aY;cases aY;have b7:=gb rfl;obtain⟨cs,e,bD,bX⟩:=dg;obtain⟨k1,k2⟩:=GO ep d8;have Ei:=lk _ _ k1;have wX:(a.eval x).cells.size=sz:=by rw[←Array.length_toList,Ei];exact eE
       obtain⟨kq,fw,fH,h4,kF⟩:=JW bj _ _ _ _ (OO bt _ _ xA) Pd k1;have wb:ds.length=sz:=by rw[←D7 _ _ _ fw,Ei];exact eE
       obtain⟨c,WG⟩:∃c,xs[cx]?=some c:=⟨_,cD hE⟩;simp only[WG,fh]at qX aW;obtain⟨cy,pd,cl,vt,xR,zd,JT,Cd⟩:=Gu dz WG;have hf:β.off+cx * s+off+sz≤cs.size:=by
        have ao:(cx+1) * s≤β.cap * s:=Nat.mul_le_mul_right _ ω;rw[Nat.add_mul]at ao;omega
       rw[d']at ba;have gQ:=run_store qu bD wX (f:=β.off+cx * s+off) hf k2;have pS:(a.eval x).cells.toList.length=sz:=by rw[Array.length_toList];exact wX
       have xZ:=N' bD (us:=(a.eval x).cells.toList) (f:=β.off+cx * s+off) (by rw[pS];exact hf);generalize vG:w.setRow b (g9 cs.toList (β.off+cx * s+off) (a.eval x).cells.toList).toArray=w' at gQ xZ;have ago:w'.heap.size=w.heap.size:=by rw[←vG];exact setRow_size _ _ _
       have xJ:∀c,c≠b→w'.heap[c]?=w.heap[c]?:=fun c pR=>by rw[←vG];exact setRow_other w b c _ pR
       have hnew:w'.heap[b]?=some (.cells (g9 cs.toList (β.off+cx * s+off) (a.eval x).cells.toList).toArray e (0,0)):=by rw[←vG];exact setRow_heap w b cs _ e (0,0) bD
       have q9:dS φ σ'.heap id b:=⟨β,ag,.inl ⟨by rw[hR];rfl,ar⟩⟩;have hB:B b:=bj.gZ id b q9;have Ej:∀g∈G,dS φ σ'.heap id g:=fun g hg=>⟨β,ag,.inr ⟨by rw[hR];rfl,b7▸hg⟩⟩;have jd:=bj.gu id β ag (by rw[hR];rfl);rw[←b7]at jd;have pT:∀g∈G,g≠b:=fun g hg pT=>jd.2 b ar (pT▸hg);have WH:∀g∈kq,g≠b:=fun g hg pT=>by
        obtain⟨i,f2,dG⟩:=h4 g hg;have:=bj.dZ i id b (pT▸dG) q9;exact IY (this▸f2)
       have Kn:∀g∈G,w'.heap[g]?=w.heap[g]?:=fun g hg=>xJ g (pT g hg);have agp:∀g∈kq,w'.heap[g]?=w.heap[g]?:=fun g hg=>xJ g (WH g hg);have N3:repC w'.heap true b (β.off+cx * s+off) ds kq:=Gy _ _ _ _ (OJ ω _ _ _ agp fw) fun j u aK=>by
        have Cj:j<(a.eval x).cells.toList.length:=(List.getElem?_eq_some_iff.1 aK).1;rw[xZ,if_pos ⟨by omega,by omega⟩];rw[show β.off+cx * s+off+j-(β.off+cx * s+off)=j from by omega];exact aK
       rw[vt]at Kn;obtain⟨wZ,G1,vO,ze,nL⟩:=agh (h':=w'.heap) (off:=off) JT (by rw[wb];exact qX) ω (fun g hg=>Kn g (by simp[hg])) (fun j aK=>by
        rw[xZ,if_neg (by rw[pS,←wb];omega)]) N3
       have qn:repE w'.heap true b β.off s (xs.set cx (g9 c off ds)) (cy++((wZ++(kq++vO))++cl)):=by
        rw[agj xs cx _ hE];have nJ:(xs.take cx).length=cx:=by simp;omega
        refine(repE_append _ _ _ _).2 ⟨cy,_,rfl,?_,?_⟩
        ·refine AE _ _ _ _ _ ω (fun g hg=>Kn g (by simp[hg])) (fun j aK=>?_) zd;rw[nJ]at aK;rw[xZ,if_neg ω]
        ·rw[nJ];simp only[repE];refine⟨_,_,rfl,by rw[DU (by rw[wb];exact qX)];exact xR,nL,?_⟩;have aN:β.off+cx * s+s=β.off+(cx+1) * s:=by rw[Nat.add_mul];omega
         rw[aN];refine AE _ _ _ _ _ ω (fun g hg=>Kn g (by simp[hg])) (fun j aK=>?_) Cd;rw[xZ,if_neg (by rw[←aN,pS];omega)]
       have agq:=OP _ _ _ xA;refine aW w' (ec φ id {β with d7:=cy++((wZ++(kq++vO))++cl)}) (by rw[ba];exact gQ) ⟨_,ba⟩ ?_;have agr:(cy++((wZ++(G1++vO))++cl)).Nodup:=by rw[←ze,←vt];exact jd.1
       have Jv:∀x∈kq,x∉G:=fun y hy ags=>by
        obtain⟨i,f2,dG⟩:=h4 y hy;have:=bj.dZ i id y dG (Ej y ags);exact IY (this▸f2)
       rw[vt,ze]at Jv Ej;refine afm bj (n:=id) (β:={β with d7:=cy++((wZ++(kq++vO))++cl)}) (β0:=β) (upd:=cz.map fun i=>(i,match a5 σ.heap i with|.ah s ys _=>.jK s ys|x=>x)) ?_ ?_ ag hR ⟨rfl,rfl,rfl,rfl⟩ ?_ d' ω ?_ ?_ ?_ ?_ ?_ ?_
       ·rw[List.map_map];have:((fun x:Nat×H=>x.1)∘fun i=>(i,match a5 σ.heap i with|.ah s ys _=>H.jK s ys|x=>x))=(fun i:Nat=>i):=rfl;rw[this,List.map_id'];exact Pd
       ·intro p hp;obtain⟨i,f2,rfl⟩:=List.mem_map.1 hp;obtain⟨xV,y7,dG⟩:=agq i f2;obtain⟨ek,O1,dV⟩:=kF i f2;refine⟨ek,O1,dV,.inr ?_⟩;rcases bt.2 i with b6|b6
        ·rw[dG]at b6;cases b6
        ·rw[←b6,dV]
       ·intro y hy;obtain⟨i,f2,dG⟩:=List.mem_map.1 hy;simp only[dL]at dG;exact IY (dG.1▸f2)
       ·rw[←vG];exact JJ bj.g0 hB bD (JK (by rw[pS];exact hf))
       ·intro c' _ hne _;exact xJ c' fun pR=>hne (pR▸ar)
       ·exact .inr ⟨b,ar,by simpa using bn,⟨_,e,hnew,by
         have:(g9 cs.toList (β.off+cx * s+off) (a.eval x).cells.toList).length=cs.toList.length:=DU (by rw[pS];simpa using hf);simp only[List.size_toArray,this,Array.length_toList];exact bX⟩,qn⟩
       ·intro g hg;simp only[fi]at hg;rcases hg with hg|(hg|hg|hg)|hg
        ·exact .inl (Ej g (by simp[hg]))
        ·exact .inl (Ej g (by simp[hg]))
        ·obtain⟨i,f2,dG⟩:=h4 g hg;exact .inr ⟨(i,_),List.mem_map.2 ⟨i,f2,rfl⟩,dG⟩
        ·exact .inl (Ej g (by simp[hg]))
        ·exact .inl (Ej g (by simp[hg]))
       ·simp only[List.nodup_append,fi]at agr Jv⊢;grind
       ·intro ez hI;simp only at hI;rw[ar]at hI;cases hI;intro lP;simp only[fi]at lP;rcases lP with hg|(hg|hg|hg)|hg
        ·exact pT _ (by rw[vt,ze];simp[hg]) rfl
        ·exact pT _ (by rw[vt,ze];simp[hg]) rfl
        ·exact WH _ hg rfl
        ·exact pT _ (by rw[vt,ze];simp[hg]) rfl
        ·exact pT _ (by rw[vt,ze];simp[hg]) rfl
    ·cases ai
   ·
    rename_i s pre cells post wK;simp only[b4,dL]at ai;obtain⟨rfl,rfl⟩:=ai;obtain⟨ep,eE,hE,qX⟩:=hc;have hR:a5 σ'.heap id=.hN s pre cells post:=by
     rcases hh with hh|hh
     ·rw[wK]at hh;cases hh
     ·rw[hh,wK]
    rcases bj.hp id with hd|⟨bI,g',hr⟩
    ·rw[hR]at hd;cases hd
    ·rw[ag]at g';cases g';rw[hR]at hr;obtain⟨hs,hcl,ez,cy,cl,us,aY,bn,dg,dz,gb,jB,xS,AO⟩:=hr;rw[ar]at aY;cases aY;obtain⟨cs,e,bD,bX⟩:=dg;obtain⟨k1,k2⟩:=GO eE d8;have Ei:=lk _ _ k1;have G2:=lk _ _ jB;have d':(a.eval x).cells.size=sz:=by rw[←Array.length_toList,Ei];exact hE
     have hf:β.off+pre.length * s+off+sz≤cs.size:=by
      have ao:(pre.length+1) * s≤β.cap * s:=Nat.mul_le_mul_right _ ω;rw[Nat.add_mul]at ao;omega
     rw[ep,hs]at ba;have gQ:=run_store qu bD d' (f:=β.off+pre.length * s+off) hf k2;have pS:(a.eval x).cells.toList.length=sz:=by rw[Array.length_toList];exact d'
     have xZ:=N' bD (us:=(a.eval x).cells.toList) (f:=β.off+pre.length * s+off) (by rw[pS];exact hf);generalize vG:w.setRow b (g9 cs.toList (β.off+pre.length * s+off) (a.eval x).cells.toList).toArray=w' at gQ xZ;have ago:w'.heap.size=w.heap.size:=by rw[←vG];exact setRow_size _ _ _
     have xJ:∀c,c≠b→w'.heap[c]?=w.heap[c]?:=fun c pR=>by rw[←vG];exact setRow_other w b c _ pR
     have hnew:w'.heap[b]?=some (.cells (g9 cs.toList (β.off+pre.length * s+off) (a.eval x).cells.toList).toArray e (0,0)):=by rw[←vG];exact setRow_heap w b cs _ e (0,0) bD
     have hB:B b:=bj.gZ id b ⟨β,ag,.inl ⟨by rw[hR];rfl,ar⟩⟩;have jd:=bj.gu id β ag (by rw[hR];rfl);have pT:∀g∈β.d7,w'.heap[g]?=w.heap[g]?:=fun g hg=>xJ g fun pT=>jd.2 b ar (pT▸hg);rw[dz]at pT;have cM:∀c,c9 φ σ'.heap c→c9 φ (cO σ'.heap id (.hN s pre (g9 cells off gS.cells) post)) c:=by
      intro c ht i bI hi he;rw[jz]at he;by_cases h:i=id
      ·subst h;rw[if_pos rfl]at he;exact ht i bI hi (by rw[hR];exact he)
      ·rw[if_neg h]at he;exact ht i bI hi he
     have Ci:∀c,c9 φ σ'.heap c→c≠b:=fun c ht pR=>by subst pR;exact ht id β ag (.inl ⟨by rw[hR];rfl,ar⟩)
     refine aW _ φ (by rw[ba];exact gQ) ⟨_,ba⟩ ?_;refine y_ bj (fun i=>i=id) _ _ _ w' (fun i hi=>⟨by show a5 (cO σ'.heap id _) i=_;rw[jz,if_neg hi],rfl⟩) (o4.refl φ) ω (fun c _ ht=>xJ c fun pR=>?_) ?_ ?_ (fun i j b hi aK _ _=>hi.trans aK.symm) ?_ ?_ bj.h7
      (by rw[←vG];exact JJ bj.g0 hB bD (JK (by rw[pS];exact hf)))
     ·subst pR;exact ht id rfl β ag (.inl ⟨by rw[hR];rfl,ar⟩)
     ·rintro i rfl c ⟨bI,h1,h2⟩;rw[ag]at h1;cases h1;change (((a5 (cO σ'.heap i _) i).o'=true∧_)∨((a5 (cO σ'.heap i _) i).own=true∧_))at h2;rw[jz,if_pos rfl]at h2;exact .inr ⟨i,rfl,β,ag,by rw[hR];exact h2⟩
     ·rintro i rfl bI h1 c h2;rw[ag]at h1;cases h1;change l8 (a5 (cO σ'.heap i _) i) β c at h2;rw[jz,if_pos rfl]at h2;exact .inr ⟨i,β,rfl,ag,by rw[hR];exact h2⟩
     ·rintro i bI rfl h1 _;rw[ag]at h1;cases h1;exact jd
     ·rintro i rfl;refine .inr ⟨β,ag,?_⟩
      show fk φ (c9 φ (cO σ'.heap i _)) w'.heap β (a5 (cO σ'.heap i _) i)
      rw[jz,if_pos rfl];have agt:∀(vs:List V) (us:List Value),VRels φ (c9 φ σ'.heap) w.heap vs us→VRels φ (c9 φ (cO σ'.heap i (.hN s pre (g9 cells off gS.cells) post))) w'.heap vs us:=
       fun vs us hv=>vr ⟨o4.refl φ,fun c _ ht=>cM c ht,fun c _ ht=>xJ c (Ci c ht),by omega⟩ _ _ hv
      refine⟨hs,?_,b,cy,cl,g9 us off (a.eval x).cells.toList,ar,bn,⟨_,e,hnew,?_⟩,dz,?_,agt _ _ (O3 jB k1 off),fun j u aK=>?_,?_⟩
      ·rw[DU (by rw[hE];omega)];exact hcl
      ·have:(g9 cs.toList (β.off+pre.length * s+off) (a.eval x).cells.toList).length=cs.toList.length:=DU (by rw[pS];simpa using hf);simp only[List.size_toArray,this,Array.length_toList];exact bX
      ·refine AE _ _ _ _ _ ω (fun g hg=>pT g (by simp[hg])) (fun j aK=>?_) gb;rw[xZ,if_neg ω]
      ·rw[xZ,pS];have wX:off+sz≤us.length:=by rw[G2];exact qX
       have hsp:=agm (l:=us) (off:=off) (vs:=(a.eval x).cells.toList) (by rw[pS];exact wX) j;rw[hsp,pS]at aK;by_cases hin:off≤j∧j<off+sz
       ·rw[if_pos hin]at aK;rw[if_pos ω,show β.off+pre.length * s+j-(β.off+pre.length * s+off)=j-off from by omega];exact aK
       ·rw[if_neg hin]at aK;rw[if_neg ω];exact xS j u aK
      ·refine AE _ _ _ _ _ ω (fun g hg=>pT g (by simp[hg])) (fun j aK=>?_) AO;rw[xZ,if_neg (by rw[pS,Nat.add_mul];omega)]
   ·cases ai
  ·cases ai
 ·exact h2.elim
variable {P:Program} {o:Oper} {g:Bool} {σ:St} {n:Nat} {K:fW→Prop}
theorem U0{h:Array Obj}{bl:Bool}{b:Nat}:∀(cs:List (List D)) (f sz:Nat) (G:List Nat),repE h bl b f sz cs G→∃us:List Value,us.length=cs.length * sz∧(∀(j:Nat) (u:Value),us[j]?=some u→cellAt h b (f+j)=some u)∧∀u∈us,u.oneCell'=true
 |[],f,sz,G,_=>⟨[],by simp,by simp,by simp⟩
 |c::cs,f,sz,G,r=>by
  simp only[repE]at r;obtain⟨cy,cl,rfl,ar,ba,bF⟩:=r;obtain⟨us,f0,jA,pN⟩:=U1 c f cy ba;obtain⟨vs,yX,qi,aen⟩:=U0 cs (f+sz) sz cl bF;refine⟨us++vs,by rw[dY,f0,yX,ar,dA,Nat.add_mul];omega,fun j u aK=>?_,fun u hu=>?_⟩
  ·rw[List.getElem?_append]at aK;split at aK
   ·exact jA j u aK
   ·rename_i pH;have:=qi _ u aK;rw[show f+sz+(j-us.length)=f+j from by rw[f0,ar]at *;omega]at this;exact this
  ·rcases fi.1 hu with hu|hu
   ·obtain⟨j,aK,rfl⟩:=List.getElem_of_mem hu;obtain⟨Gc,_,k2⟩:=pN j c[j] us[j] (cD ω) (cD aK);exact U2 k2
   ·exact aen u hu
theorem aeo{w:World}(t ty e:TypeId)(i:TypeInfo)(ht:P.underlying t=some (.slice e))(hi:P.info? e=some i)(b f DN N5:Nat)(Jz:Array Value)(DO:TypeId)(hg:w.heap[b]?=some (.cells Jz DO (0,0)))
  (m:Nat) (ob:Value) (j7:List Value) (hl:Builtin.lenOf ob=(pure m:Sem Nat)) (hf:(Builtin.firstCells i.size m ob).run P w=.ok j7.toArray w) (h1:∀u∈j7,u.oneCell'=true) (B':DN+m≤N5) (pK:f+DN * i.size+j7.length≤Jz.size) :
  (Builtin.append_ #[t,t] ty #[.slice (some ⟨b,f,none⟩) DN N5,ob]).run P w=.ok (.slice (some ⟨b,f,none⟩) (DN+m) N5) (w.setRow b (g9 Jz.toList (f+DN * i.size) j7).toArray):=by
 have dx:=run_storeCells_at P b (f+DN * i.size) DO j7 0 Jz w hg (by simpa using pK) h1;simp only[Nat.add_zero,List.append_assoc]at dx;simp[Builtin.append_,run_underlying ht,Go.sizeOf,typeInfo,hi,hl,B',hf,add_lit,dx,g9]
theorem U3{w:World}{ad:Option Addr}{c sz:Nat}{ys:List (List D)}{bl:Bool}(h:ys=[]∨∃b f G,ad=some ⟨b,f,none⟩∧repE w.heap bl b f sz ys G) :
  ∃j7:List Value,j7.length=ys.length * sz∧(∀w':World,w'.heap=w.heap→(Builtin.firstCells sz ys.length (.slice ad ys.length c)).run P w'=.ok j7.toArray w')∧(∀u∈j7,u.oneCell'=true)∧
   (ys≠[]→∃b f,ad=some ⟨b,f,none⟩∧∀(j:Nat) (u:Value),j7[j]?=some u→cellAt w.heap b (f+j)=some u):=by
 by_cases hne:ys=[]
 ·subst hne;refine⟨[],by simp,fun w' _=>?_,by simp,fun h=>absurd rfl h⟩
  cases ad with
  |none=>rfl
  |some ad=>simp[Builtin.firstCells,loadCells,loadCellsFrom]
 ·rcases h with h|⟨b,f,G,rfl,h⟩
  ·exact absurd h hne
  ·obtain⟨us,f0,jA,pN⟩:=U0 _ _ _ _ h;refine⟨us,f0,fun w' vG=>?_,pN,fun _=>⟨b,f,rfl,jA⟩⟩;have:=run_loadCells_list (P:=P) w' ⟨b,f,none⟩ us (fun j v aK=>by rw[add_lit,cell_eq,vG];exact jA j v aK);rw[f0]at this;simpa [Builtin.firstCells]using this
section
variable {B:Nat→Prop} {w0:World} {a4:Nat→Prop} {φ:c1} {kp:List (V×Value)} {a:Act} {w:World}
theorem U4{w':World}{cs:Array Value}{e:TypeId}{b f sz:Nat}{zs:List (List D)}{G:List Nat}{off:Nat}(hh:w'.heap=w.heap.push (.cells cs e))(hz:repE w.heap true b f sz zs G)
  (hc:∀j,j<zs.length * sz→cs[off+j]?=cellAt w.heap b (f+j)) (b7:∀g∈G,g<w.heap.size):repE w'.heap true w.heap.size off sz zs G:=by
 refine AE zs f off sz G (by rw[hh];simp) (fun g hg=>?_) (fun j aK=>?_) hz
 ·rw[hh,Array.getElem?_push];simp[Nat.ne_of_lt (b7 g hg)]
 ·rw[←hc j aK];unfold cellAt;rw[hh];simp
def srcE(hs:List H)(sz:Nat)(y:V):Option (List (List D)×List (Nat×H)):=
 match elsOf hs y with
 |some (ij,ys)=>
  if ij=sz then
   if ig ys then some (ys,[])
   else match y with
    |.sl id _ _=>match a5 hs id with|.ah s zs true=>some (ys,[(id,.jK s zs)])|_=>none
    |_=>none
  else none
 |none=>none
theorem aep{σ':St}(bt:σ.le σ')(r:R B w0 a4 φ σ' kp a w){sz:Nat}{y:V}{ys:List (List D)}{cons:List (Nat×H)}(he:srcE σ.heap sz y=some (ys,cons)){u:Value}(gA:VRel φ (c9 φ σ'.heap) w.heap y u) :
  ∃ad c Gs,u=.slice ad ys.length c∧ys.length≤c∧(ys=[]∧Gs=[]∨∃b f,ad=some ⟨b,f,none⟩∧b<w.heap.size∧repE w.heap true b f sz ys Gs∧∀k β,φ k=some β→β.fx=some b→(a5 σ'.heap k).o'=true→∃off l,y=.sl k off l)∧Gs.Nodup∧
   (∀g∈Gs,∃p∈cons,dS φ σ'.heap p.1 g)∧(cons.map (·.1)).Nodup∧(∀p∈cons,∃s zs,a5 σ'.heap p.1=.ah s zs true∧p.2=.jK s zs)∧∀p∈cons,∃off l,y=.sl p.1 off l:=by
 unfold srcE at he;split at he
 ·rename_i ij y7 hel;split at he
  ·rename_i d';subst d';obtain⟨ad,c,ag,ar,ba,bF⟩:=JA bt r hel gA;have xJ:∀{b f:Nat},ad=some ⟨b,f,none⟩→y7≠[]→∀k β,φ k=some β→β.fx=some b→(a5 σ'.heap k).o'=true→∃off l,y=.sl k off l:=by
    intro b f Gd hne k β hk hb DP
    cases y with
    |sl id off l=>
     obtain⟨bI,ad',c',bD,bX,bu,bS,dD⟩:=AF gA;rw[ag]at bX;simp only[Value.slice.injEq]at bX;rcases dD with dD|⟨ez,dD,wF,FU⟩
     ·exfalso;have:y7.length=0:=by omega
      exact hne (List.eq_nil_of_length_eq_zero this)
     ·rw[←bX.1,Gd]at wF;simp only[b4,Addr.mk.injEq]at wF;rw[←wF.1]at dD;have JB:∃q,(a5 σ.heap id).els=some q:=by
       simp only[elsOf]at hel;split at hel
       ·exact⟨_,by assumption⟩
       ·cases hel
      obtain⟨q,JB⟩:=JB;have hx:=DQ bt JB;obtain⟨lf,eY,eK⟩:=JC r hx;rw[bD]at eY;cases eY
      cases hh:a5 σ'.heap id with
      |eb=>rw[hh]at hx;cases hx
      |box cells=>rw[hh]at hx;cases hx
      |aj _ _=>rw[hh]at hx;cases hx
      |hN _ _ _ _=>rw[hh]at hx;cases hx
      |ah s zs kD=>
       have:=r.dZ k id b ⟨β,hk,.inl ⟨DP,hb⟩⟩ ⟨bI,bD,.inl ⟨by rw[hh];rfl,dD⟩⟩;exact⟨off,l,by rw[this]⟩
      |jK s zs=>
       rw[hh]at eK;obtain⟨_,eK⟩:=eK;rcases eK with eK|⟨cW,G,ih,hQ,B7,B8,aoZ⟩
       ·exfalso;subst eK;rw[hh]at hx;simp only[H.els,b4]at hx;subst hx;simp only[elsOf,JB]at hel;split at hel
        ·simp only[b4,dL]at hel;exact hne (by rw[←hel.2];simp)
        ·cases hel
       ·rw[dD]at ih;cases ih;exact(hQ k β hk (.inl ⟨DP,hb⟩)).elim
    |d x=>
     cases x with
     |sl s zs=>
      obtain⟨ad',c',bD,bX,bu,bS⟩:=Ge gA;rw[ag]at bD;simp only[Value.slice.injEq]at bD;rcases bS with bS|⟨ez,jm,G,bS,dD,wF,FU,NJ⟩
      ·simp only[elsOf,b4,dL]at hel;exact absurd (hel.2▸bS) hne
      ·rw[←bD.1,Gd]at bS;simp only[b4,Addr.mk.injEq]at bS;exact((bS.1▸wF) k β hk (.inl ⟨DP,hb⟩)).elim
     |_=>simp[elsOf]at hel
    |ee s=>
     simp only[elsOf,b4,dL]at hel;exact absurd hel.2.symm hne
    |_=>simp[elsOf]at hel
   split at he
   ·rename_i hf;simp only[b4,dL]at he;obtain⟨rfl,rfl⟩:=he;refine⟨ad,c,[],ag,ar,?_,List.nodup_nil,by simp,by simp,by simp,by simp⟩;rcases bF with bF|⟨b,f,G,bF,c6,js,nK⟩
    ·exact .inl ⟨bF,rfl⟩
    ·by_cases hne:y7=[]
     ·exact .inl ⟨hne,rfl⟩
     ·exact .inr ⟨b,f,bF,c6,U5 _ _ _ _ hf js,xJ bF hne⟩
   ·split at he
    ·rename_i id off l;split at he
     ·rename_i s zs hx;simp only[b4,dL]at he;obtain⟨rfl,rfl⟩:=he;have h9:a5 σ'.heap id=.ah s zs true:=by
       rcases bt.2 id with hh|hh
       ·rw[hx]at hh;cases hh
       ·rw[hh,hx]
      simp only[elsOf,hx,H.els]at hel;split at hel
      ·rename_i hb;simp only[b4,dL]at hel;obtain⟨rfl,rfl⟩:=hel;obtain⟨F,eH,fU,f3⟩:=U6 r h9 hb gA;simp only[rep]at eH;obtain⟨ad',c',cn,cG,d4,ic⟩:=eH;refine⟨ad',c',F.tail,cn,cG,?_,?_,?_,by simp,by simp[h9],by simp⟩
       ·rw[ag]at cn;simp only[Value.slice.injEq,true_and]at cn;rcases ic with ic|⟨b,f,G,k1,k2,dR,i1,oc⟩
        ·exact .inl ⟨ic.1,by rw[ic.2.1];rfl⟩
        ·subst k2;by_cases hne:(zs.drop off).take l=[]
         ·rw[hne]at i1;simp only[repE]at i1;subst i1;exact .inl ⟨hne,rfl⟩
         ·exact .inr ⟨b,f,k1,dR,i1,xJ (cn.1.trans k1) hne⟩
       ·exact fU.sublist (List.tail_sublist F)
       ·intro x AG;exact⟨_,List.mem_singleton.2 rfl,f3 x (List.mem_of_mem_tail AG)⟩
      ·cases hel
     ·cases he
    ·cases he
  ·cases he
 ·cases he
end
def N6(id:Nat)(y:V):Bool:=match y with|.sl k _ _=>k != id|_=>true
def apE(P:Program)(hs:List H)(T:TypeId)(x y:V)(n:Nat):Option (Prop×fW):=
 match elI P T with
 |none=>none
 |some (e,sz,hH)=>
  match srcE hs sz y with
  |none=>none
  |some (ys,cons)=>
   match x with
   |.ee _=>some ((zrI P e).map List.length=some sz∧0<hH∧ys.length * hH≤140737488355328,⟨.sl n 0 ys.length,[.ah sz ys true],cons⟩)
   |.sl id 0 len=>
    match a5 hs id with
    |.ah s xs true=>if s=sz then some ((zrI P e).map List.length=some sz∧0<hH∧len=xs.length∧(xs.length+ys.length) * hH≤140737488355328∧N6 id y=true,⟨.sl n 0 (xs.length+ys.length),[.ah sz (xs++ys) true],(id,.eb)::cons⟩)else none
    |_=>none
   |_=>none
section
variable {B:Nat→Prop} {w0:World} {a4:Nat→Prop} {φ:c1} {kp:List (V×Value)} {a:Act} {w:World}
structure JD(σ':St)(φ:c1)(w:World)(sz:Nat)(xs:List (List D))(upd:List (Nat×H))(ad:Option Addr)(c:Nat)(G:List Nat):Prop where
 len:xs.length≤c
 JE:c≤maxLen
 qo:G.Nodup
 own:∀g∈G,∃p∈upd,dS φ σ'.heap p.1 g
 up:upd=[]∨∃id s ys,upd=[(id,.eb)]∧a5 σ'.heap id=.ah s ys true
 N7:(c=0∧xs=[]∧G=[])∨∃id β b,upd=[(id,.eb)]∧φ id=some β∧β.fx=some b∧ad=some ⟨b,β.off,none⟩∧c=β.cap∧β.sz=sz∧pb w.heap b (β.off+β.cap * sz)∧repE w.heap true b β.off sz xs G∧b∉G
theorem aeq{t ty e:TypeId}{i:TypeInfo}(ht:P.underlying t=some (.slice e))(hi:P.info? e=some i)(ad ad':Option Addr)(c':Nat)(w:World) :
  (Builtin.append_ #[t,t] ty #[.slice ad 0 0,.slice ad' 0 c']).run P w=.ok (.slice ad 0 0) w:=by
 have hf:(Builtin.firstCells i.size 0 (.slice ad' 0 c')).run P w=.ok #[] w:=by
  cases ad' with
  |none=>rfl
  |some ad=>simp[Builtin.firstCells,loadCells,loadCellsFrom]
 have hs:(Go.sizeOf e).run P w=Result.ok i.size w:=by simp[Go.sizeOf,typeInfo,hi]
 have hl:(Builtin.lenOf (.slice ad' 0 c')).run P w=.ok 0 w:=rfl
 cases ad<;>simp[Builtin.append_,run_underlying ht,hs,hl,hf,storeCells]
theorem aer{σ':St}(bj:R B w0 a4 φ σ' kp a w){n:Nat}(hd:a5 σ'.heap n=.eb)(hn:¬a4 n){T ty e:TypeId}{i:TypeInfo}{z:Value}(ht:P.underlying T=some (.slice e))(hi:P.info? e=some i)(hz:i.zero=some z)
  (aes:z.cells.size=i.size) (DR:0<i.bytes) {xs ys:List (List D)} (pK:(xs.length+ys.length) * i.bytes≤140737488355328) {upd cons:List (Nat×H)} {ad ad':Option Addr} {c c':Nat} {G Gs:List Nat} (bs:JD σ' φ w i.size xs upd ad c G)
  (DS:ys=[]∧Gs=[]∨∃b f,ad'=some ⟨b,f,none⟩∧b<w.heap.size∧repE w.heap true b f i.size ys Gs) (N8:Gs.Nodup) (Ca:∀g∈Gs,∃p∈cons,dS φ σ'.heap p.1 g) (aet:(cons.map (·.1)).Nodup)
  (aeu:∀p∈cons,∃s zs,a5 σ'.heap p.1=.ah s zs true∧p.2=.jK s zs) (N9:∀p∈cons,∀q∈upd,p.1≠q.1) (ao0:∀b f,ad'=some ⟨b,f,none⟩→ys≠[]→∀q∈upd,∀β,φ q.1=some β→β.fx≠some b) :
  ∃w' dw u,(Builtin.append_ #[T,T] ty #[.slice ad xs.length c,.slice ad' ys.length c']).run P w=.ok u w'∧
   R B w0 (fun i=>a4 i∨(n≤i∧i<n+1)) dw ⟨σ'.tmps,hupd (cO σ'.heap n (.ah i.size (xs++ys) true)) (upd++cons)⟩ kp a w'∧∀hS h',VRel dw hS h' (.sl n 0 (xs.length+ys.length)) u:=by
 have Gf:xs.length+ys.length≤maxLen:=by
  have:(xs.length+ys.length) * 1≤(xs.length+ys.length) * i.bytes:=Nat.mul_le_mul_left _ DR;simp only[maxLen];omega
 have U7:∀p∈upd,p.2=.eb∧∃s ys,a5 σ'.heap p.1=.ah s ys true:=by
  intro p hp;rcases bs.up with h|⟨id,s,y7,h,h2⟩
  ·rw[h]at hp;cases hp
  ·rw[h]at hp;simp only[List.mem_singleton]at hp;subst hp;exact⟨rfl,s,y7,h2⟩
 have hnd:((upd++cons).map (·.1)).Nodup:=by
  rw[List.map_append];refine List.nodup_append.2 ⟨?_,aet,?_⟩
  ·rcases bs.up with h|⟨id,s,y7,h,h2⟩<;>rw[h]<;>simp
  ·intro x hx y hy pO;obtain⟨p,hp,rfl⟩:=List.mem_map.1 hx;obtain⟨q,hq,rfl⟩:=List.mem_map.1 hy;exact N9 q hq p hp pO.symm
 have hu:∀p∈upd++cons,∃sz xs,a5 σ'.heap p.1=.ah sz xs true∧(p.2=.eb∨p.2=.jK sz xs):=by
  intro p hp;rcases fi.1 hp with hp|hp
  ·obtain⟨h1,s,y7,h2⟩:=U7 p hp;exact⟨s,y7,h2,.inl h1⟩
  ·obtain⟨s,zs,h1,h2⟩:=aeu p hp;exact⟨s,zs,h1,.inr h2⟩
 have aev:∀x∈G,∀y∈Gs,x≠y:=by
  rintro x hx y hy rfl;obtain⟨p,eY,eK⟩:=bs.own x hx;obtain⟨q,bD,bX⟩:=Ca x hy;exact N9 q bD p eY (bj.dZ _ _ _ bX eK)
 have JF:∀g∈G,g<w.heap.size:=fun g hg=>by obtain⟨p,_,eK⟩:=bs.own g hg;exact dS.lt bj eK
 have U8:∀g∈Gs,g<w.heap.size:=fun g hg=>by obtain⟨p,_,eK⟩:=Ca g hg;exact dS.lt bj eK
 have U9:(G++Gs).Nodup:=List.nodup_append.2 ⟨bs.qo,N8,aev⟩;have AH:∀b∈G++Gs,w.heap.size≤b∨∃p∈upd++cons,dS φ σ'.heap p.1 b:=by
  intro b hb;rcases fi.1 hb with hb|hb
  ·obtain⟨p,eY,eK⟩:=bs.own b hb;exact .inr ⟨p,List.mem_append_left _ eY,eK⟩
  ·obtain⟨p,eY,eK⟩:=Ca b hb;exact .inr ⟨p,List.mem_append_right _ eY,eK⟩
 have aew:ys=[]∨∃b f G,ad'=some ⟨b,f,none⟩∧repE w.heap true b f i.size ys G:=by
  rcases DS with h|⟨b,f,h1,_,h2⟩
  ·exact .inl h.1
  ·exact .inr ⟨b,f,Gs,h1,h2⟩
 obtain⟨j7,nL,qp,xK,q8⟩:=U3 (P:=P) (c:=c') aew;by_cases B':xs.length+ys.length≤c
 ·rcases bs.N7 with ⟨h1,h2,ao⟩|⟨id,β,b,db,cW,c8,je,lb,IX,IZ,Dr,jk⟩
  ·subst h1;subst h2;subst ao;have aN:ys=[]:=List.eq_nil_of_length_eq_zero (by simp at B';simpa using B');subst aN;have vt:Gs=[]:=by
    rcases DS with h|⟨b,f,_,_,h⟩
    ·exact h.2
    ·simpa [repE]using h
   refine⟨w,ec φ n ⟨none,0,0,i.size,[]⟩,.slice ad 0 0,aeq ht hi ad ad' c' w,?_,fun hS h'=>?_⟩
   ·exact JG bj hd hn hnd hu rfl (fE _) bj.g0 (fun _ _ _=>rfl) (.inl ⟨rfl,rfl,rfl,rfl⟩) (fun b hb=>by cases hb) (fun b hb=>by cases hb) List.nodup_nil (fun b hb=>by cases hb)
   ·simp only[VRel];exact⟨⟨none,0,0,i.size,[]⟩,ad,0,by simp[ec],rfl,by decide,.inl ⟨rfl,rfl,rfl⟩⟩
  ·subst je;obtain⟨cs,DO,aY,bn⟩:=IZ;have ao1:(xs.length+ys.length) * i.size≤β.cap * i.size:=Nat.mul_le_mul_right _ (Nat.le_trans B' (Nat.le_of_eq lb));have DT:(xs.length+ys.length) * i.size=xs.length * i.size+ys.length * i.size:=Nat.add_mul _ _ _;have JH:β.off+xs.length * i.size+j7.length≤cs.size:=by rw[nL];omega
   have gQ:=aeo (P:=P) (w:=w) T ty e i ht hi b β.off xs.length c cs DO aY ys.length (.slice ad' ys.length c') j7 rfl (qp w rfl) xK B' JH;have JI:(id,H.eb)∈upd:=by rw[db];simp
   obtain⟨_,ao2,ao3,aex⟩:=U7 _ JI;have q9:dS φ σ'.heap id b:=⟨β,cW,.inl ⟨by rw[aex];rfl,c8⟩⟩;have N_:∀ez,ez≠b→(w.setRow b (g9 cs.toList (β.off+xs.length * i.size) j7).toArray).heap[ez]?=w.heap[ez]?:=fun ez hI=>setRow_other w b ez _ hI;have wK:=N' (f:=β.off+xs.length * i.size) aY JH;have Oa:∀g∈G++Gs,g≠b:=by
    rintro g hg rfl;rcases fi.1 hg with hg|hg
    ·exact jk hg
    ·obtain⟨p,eY,eK⟩:=Ca g hg;exact N9 p eY _ JI (bj.dZ _ _ _ eK q9)
   refine⟨_,ec φ n {β with d7:=G++Gs},_,gQ,?_,fun hS h'=>?_⟩
   ·refine JG bj hd hn hnd hu (β:={β with d7:=G++Gs}) IX (by rw[setRow_size];exact fE _) (JJ bj.g0 (bj.gZ _ _ q9) aY (JK JH)) (fun ez _ hI=>N_ ez fun e=>?_) (.inr ⟨b,c8,?_,?_,?_⟩) (fun ez hI=>.inr ⟨(id,.eb),List.mem_append_left _ JI,rfl,β,cW,hI⟩) AH U9 (fun ez hI lP=>?_)
    ·exact hI (id,.eb) (List.mem_append_left _ JI) rfl β cW (e▸c8)
    ·simp only[dY];omega
    ·refine⟨_,DO,setRow_heap w b cs _ DO (0,0) aY,?_⟩;have:=DU (l:=cs.toList) (off:=β.off+xs.length * i.size) (vs:=j7) (by simpa using JH);simp only[List.size_toArray,this,Array.length_toList];exact bn
    ·refine(repE_append _ _ _ _).2 ⟨G,Gs,rfl,?_,?_⟩
     ·change repE _ true b β.off i.size xs G;refine AE xs β.off β.off i.size G (by rw[setRow_size];exact fE _) (fun g hg=>N_ g (Oa g (by simp[hg]))) (fun j aK=>?_) Dr;rw[wK,if_neg ω]
     ·rcases DS with ⟨rfl,rfl⟩|⟨ez,jm,dW,ek,dt⟩
      ·simp[repE]
      ·change repE _ true b (β.off+xs.length * i.size) i.size ys Gs;refine AE ys jm _ i.size Gs (by rw[setRow_size];exact fE _) (fun g hg=>N_ g (Oa g (by simp[hg]))) (fun j aK=>?_) dt;rw[wK,if_pos ⟨by omega,by rw[nL];omega⟩,show β.off+xs.length * i.size+j-(β.off+xs.length * i.size)=j from by omega];have hne:ys≠[]:=fun h=>by rw[h]at aK;simp at aK
       obtain⟨U_,U',ih,hQ⟩:=q8 hne;rw[dW]at ih;simp only[b4,Addr.mk.injEq]at ih;obtain⟨rfl,rfl,_⟩:=ih;have vH:j<j7.length:=by rw[nL];exact aK
       rw[hQ j j7[j] (cD vH),cD vH]
    ·simp only at hI lP;rw[c8]at hI;cases hI;exact Oa _ lP rfl
   ·simp only[VRel];refine⟨{β with d7:=G++Gs},_,c,by simp[ec],rfl,bs.JE,.inr ⟨b,c8,by simp,B',by simpa using lb⟩⟩
 ·have wL:xs=[]∨∃b f G,ad=some ⟨b,f,none⟩∧repE w.heap true b f i.size xs G:=by
   rcases bs.N7 with ⟨h1,h2,ao⟩|⟨id,β,b,db,cW,c8,je,lb,IX,IZ,Dr,jk⟩
   ·exact .inl h2
   ·exact .inr ⟨b,_,G,je,Dr⟩
  obtain⟨xL,dZ,gu,gZ,aey⟩:=U3 (P:=P) (c:=c) wL;have aez:∃e',P.underlying T=some (.slice e'):=⟨e,ht⟩;have a1:Src P i.size T (.slice ad' ys.length c') ys.length j7 w:=⟨.inl aez,fun _=>rfl,qp w rfl,qp w.drew rfl,nL,xK⟩;have gQ:=run_append_grow_src (P:=P) w T T ty e i z ht hi hz ad xs.length c xL (gu w.drew rfl) _ ys.length j7 a1 ω (by simp only[maxLen]at Gf;omega) (growslice_fits ω pK);have pH:=grownCap_ge w (xs.length+ys.length) c e;have bt:=grownCap_le_maxLen w (xs.length+ys.length) c e Gf;generalize grownCap w (xs.length+ys.length) c e=gc at gQ pH bt;have xM:(w.drew.alloc (.cells ((xL++j7).toArray++Builtin.zeroCells z.cells (gc-(xs.length+ys.length))) e)).heap=w.heap.push (.cells ((xL++j7).toArray++Builtin.zeroCells z.cells (gc-(xs.length+ys.length))) e):=rfl;have Va:∀j,j<(xL++j7).length→((xL++j7).toArray++Builtin.zeroCells z.cells (gc-(xs.length+ys.length)))[j]?=(xL++j7)[j]?:=by
   intro j aK;rw[Array.getElem?_append_left (by simpa using aK)];simp
  refine⟨_,ec φ n ⟨some w.heap.size,0,gc,i.size,G++Gs⟩,_,gQ,?_,fun hS h'=>?_⟩
  ·refine JG bj hd hn hnd hu rfl (by rw[xM];simp) ((JL (bj.g0.drew) bj.bs _)) (fun ez hI _=>by rw[xM,Array.getElem?_push];simp[Nat.ne_of_lt hI]) (.inr ⟨w.heap.size,rfl,?_,?_,?_⟩) (fun ez hI=>.inl (by cases hI;exact fE _)) AH U9 (fun ez hI lP=>?_)
   ·simp only[dY];exact pH
   ·refine⟨((xL++j7).toArray++Builtin.zeroCells z.cells (gc-(xs.length+ys.length))),e,by rw[xM];simp,?_⟩;simp only[Array.size_append,List.size_toArray,dY,dZ,nL,size_zeroCells,aes,Nat.zero_add];rw[←Nat.add_mul,←Nat.add_mul];exact Nat.mul_le_mul_right _ (show gc≤_ from by omega)
   ·refine(repE_append _ _ _ _).2 ⟨G,Gs,rfl,?_,?_⟩
    ·rcases bs.N7 with ⟨h1,rfl,rfl⟩|⟨id,β,b,db,cW,c8,je,lb,IX,IZ,Dr,jk⟩
     ·simp[repE]
     ·refine U4 xM Dr (fun j aK=>?_) JF;have hne:xs≠[]:=fun h=>by rw[h]at aK;simp at aK
      obtain⟨U_,U',ih,hQ⟩:=aey hne;rw[je]at ih;simp only[b4,Addr.mk.injEq]at ih;obtain⟨rfl,rfl,_⟩:=ih;have vH:j<xL.length:=by rw[dZ];exact aK
      rw[Nat.zero_add,Va j (by simp;omega),List.getElem?_append_left vH,cD vH,hQ j xL[j] (cD vH)]
    ·rcases DS with ⟨rfl,rfl⟩|⟨ez,jm,dW,ek,dt⟩
     ·simp[repE]
     ·change repE _ true _ (0+xs.length * i.size) i.size ys Gs;refine U4 xM dt (fun j aK=>?_) U8;have hne:ys≠[]:=fun h=>by rw[h]at aK;simp at aK
      obtain⟨U_,U',ih,hQ⟩:=q8 hne;rw[dW]at ih;simp only[b4,Addr.mk.injEq]at ih;obtain⟨rfl,rfl,_⟩:=ih;have vH:j<j7.length:=by rw[nL];exact aK
      rw[Va _ (by simp;omega),List.getElem?_append_right ω,show 0+xs.length * i.size+j-xL.length=j from by omega,cD vH,hQ j j7[j] (cD vH)]
   ·simp only at hI lP
    cases hI
    rcases fi.1 lP with h|h
    ·exact Nat.lt_irrefl _ (JF _ h)
    ·exact Nat.lt_irrefl _ (U8 _ h)
  ·simp only[VRel];exact⟨⟨some w.heap.size,0,gc,i.size,G++Gs⟩,_,gc,by simp[ec],rfl,bt,.inr ⟨w.heap.size,rfl,by simp,pH,by simp⟩⟩
end
theorem ok_append{c:Call}{x y:Operand}{T:TypeId}(aJ:o.op=.call c)(hc:c={callee:=.builtin .append,args:=#[x,y],argTypes:=#[T,T]})
  (h:evg g (σ.ev x) fun a=>evg g (σ.ev y) fun b=>match apE P σ.heap T a b n with|some (p,r)=>p∧K r|none=>False):∃r,i2 P o g σ n r∧K r:=by
 subst hc;obtain⟨m8,h1,hx⟩:=hT h;obtain⟨DV,h2,hy⟩:=hT h1;clear h h1;split at h2
 ·rename_i p r ai;obtain⟨hp,cd⟩:=h2;refine⟨r,?_,cd⟩;intro σ' bt hd B w0 a4 φ kp a w lj bj hg pP q_ hk;have d8:=hx _ _ _ _ hg (g_ bt bj x);have m9:=hy _ _ _ _ hg (g_ bt bj y);unfold apE at ai;split at ai
  ·cases ai
  ·rename_i e sz hH hel;obtain⟨i,ht,hi,d',DR⟩:=AI hel;split at ai
   ·cases ai
   ·rename_i ys cons DS;obtain⟨ad',c',Gs,dW,ek,dt,eF,jE,kb,kc,ks⟩:=aep bt bj DS m9;have key:∀{xs:List (List D)} {upd:List (Nat×H)} {ad:Option Addr} {c:Nat} {G:List Nat},(zrI P e).map List.length=some sz→0<hH→(xs.length+ys.length) * hH≤140737488355328→a.eval x=.slice ad xs.length c→JD σ' φ w sz xs upd ad c G→
      (∀q∈upd,∀off l,DV≠.sl q.1 off l)→(∀q∈upd,(a5 σ'.heap q.1).o'=true)→r=⟨.sl n 0 (xs.length+ys.length),[.ah sz (xs++ys) true],upd++cons⟩→o.wp P a w pP q_:=by
     intro xs upd ad c G hz hb hf hu wL hq JM hr;subst hr
     cases wM:zrI P e with
     |none=>rw[wM]at hz;cases hz
     |some vs=>
      rw[wM]at hz;obtain⟨cF,z,dC,qf,nF⟩:=DW wM;rw[hi]at dC;cases dC;have Gg:z.cells.size=i.size:=by
       have:=lk _ _ (nF φ (fun _=>True) #[]);simp only[Option.map_some,b4]at hz;rw[d',←hz,←this];simp
      subst d';obtain⟨w',dw,u,ag,ar,ba⟩:=aer (P:=P) (ty:=o.type) bj (n:=n) (hd n (fE _) ξ) (lj n (fE _) ξ) ht hi qf Gg (by rw[DR];exact hb) (by rw[DR];exact hf) wL (ad':=ad') (c':=c') (Gs:=Gs)
       (by
        rcases dt with dt|⟨b,f,ih,hQ,B7,_⟩
        ·exact .inl dt
        ·exact .inr ⟨b,f,ih,hQ,B7⟩) eF jE kb kc
       (fun p hp q qR he=>by
        obtain⟨off,l,h1⟩:=ks p hp;exact hq q qR off l (by rw[h1,he]))
       (fun b f h1 h2 q qR β ao aN=>by
        rcases dt with dt|⟨ez,jm,ih,hQ,B7,B8⟩
        ·exact h2 dt.1
        ·rw[ih]at h1;simp only[b4,Addr.mk.injEq]at h1;obtain⟨off,l,b6⟩:=B8 q.1 β ao (by rw[h1.1];exact aN) (JM q qR);exact hq q qR off l b6)
      unfold Oper.wp;have gQ:(execOp a.eval o).run P w=.ok (.value u) w':=by
       unfold execOp;rw[aJ];simp[resolve,invoke,builtin,hu,dW,ag]
      rw[gQ,Oper.upon_value];exact hk _ _ _ (pc ar o.dst (ba _ _))
    split at ai
    ·rename_i s;simp only[b4,dL]at ai;obtain⟨rfl,rfl⟩:=ai;simp only[VRel]at d8;refine key (xs:=[]) (upd:=[]) (G:=[]) hp.1 hp.2.1 (by simpa using hp.2.2) d8 ⟨by simp,by decide,List.nodup_nil,by simp,.inl rfl,.inl ⟨rfl,rfl,rfl⟩⟩ ξ ξ ξ
    ·rename_i id len;split at ai
     ·rename_i s xs iL;split at ai
      ·rename_i hs;subst hs;simp only[b4,dL]at ai;obtain⟨rfl,rfl⟩:=ai;obtain⟨eY,eK,jl,AJ,y8⟩:=hp;have h9:a5 σ'.heap id=.ah s xs true:=by
        rcases bt.2 id with hh|hh
        ·rw[iL]at hh;cases hh
        ·rw[hh,iL]
       obtain⟨β,ad,DX,bD,bX,bu,bS,dD⟩:=AF d8;have wL:∃G,JD σ' φ w s xs [(id,.eb)] ad DX G:=by
        have DB:([(id,H.eb)]:List (Nat×H))=[]∨∃wN s ys,[(id,H.eb)]=[(wN,H.eb)]∧a5 σ'.heap wN=.ah s ys true:=.inr ⟨id,s,xs,rfl,h9⟩;have JN:DX=0∧len=0→∃G,JD σ' φ w s xs [(id,.eb)] ad DX G:=fun h0=>
         ⟨[],by omega,bS,List.nodup_nil,by simp,DB,.inl ⟨h0.1,List.eq_nil_of_length_eq_zero ω,rfl⟩⟩
        rcases dD with dD|⟨b,dD,wF,FU⟩
        ·exact JN ⟨dD.1,dD.2.1⟩
        ·rcases bj.hp id with jY|⟨bI,ag,hr⟩
         ·rw[h9]at jY;cases jY
         ·rw[bD]at ag;cases ag;rw[h9]at hr;simp only[fk]at hr;obtain⟨y9,hr⟩:=hr;rcases hr with hr|⟨ez,G,aY,bn,dg,dz,gb,jB⟩
          ·rw[dD]at hr;cases hr.1
          ·rw[dD]at aY;cases aY;have jd:=bj.gu id β bD (by rw[h9];rfl);have Ob:=gb trivial;refine⟨G,by omega,bS,by rw[Ob];exact jd.1,fun g hg=>⟨_,List.mem_singleton.2 rfl,β,bD,.inr ⟨by rw[h9];rfl,by rw[←Ob];exact hg⟩⟩,DB,.inr ⟨id,β,b,rfl,bD,dD,by rw[wF];simp,by omega,y9,dg,dz,by rw[Ob];exact jd.2 b dD⟩⟩
       obtain⟨G,wL⟩:=wL;refine key eY eK AJ (by rw[←jl];exact bX) wL ?_ ?_ rfl
       ·intro q hq off l hv;simp only[List.mem_singleton]at hq;subst hq;subst hv;simp[N6]at y8
       ·intro q hq;simp only[List.mem_singleton]at hq;subst hq;rw[h9];rfl
      ·cases ai
     ·cases ai
    ·cases ai
 ·exact h2.elim
variable {P:Program} {o:Oper} {g:Bool} {σ:St} {n:Nat} {K:fW→Prop}
def chunk(sz:Nat):Nat→List D→List (List D)
 |0,_=>[]
 |k+1,ds=>ds.take sz::chunk sz k (ds.drop sz)
theorem J5(sz:Nat):∀(k:Nat) (ds:List D),(chunk sz k ds).length=k
 |0,_=>rfl
 |k+1,ds=>by simp[chunk,J5 sz k]
theorem V7{h:Array Obj}{bl:Bool}{b sz:Nat}:∀(k f:Nat) (ds:List D) (G:List Nat),ds.length=k * sz→repC h bl b f ds G→repE h bl b f sz (chunk sz k ds) G
 |0,f,ds,G,hl,r=>by
  have:ds=[]:=List.eq_nil_of_length_eq_zero (by simpa using hl);subst this;simpa [chunk,repE,repC]using r
 |k+1,f,ds,G,hl,r=>by
  rw[Nat.add_mul,Nat.one_mul]at hl;have e:ds=ds.take sz++ds.drop sz:=(List.take_append_drop sz ds).symm;rw[e]at r;obtain⟨cy,cl,rfl,aY,bn⟩:=(Cf _ _ _ _).1 r;have Ga:(ds.take sz).length=sz:=by simp;omega
  rw[Ga]at bn;simp only[chunk,repE];exact⟨cy,cl,rfl,Ga,aY,V7 k (f+sz) _ cl (by simp;omega) bn⟩
def bsE(P:Program)(hs:List H)(T:TypeId)(len:Nat)(gR:List (Nat×V))(n:Nat):Option (Prop×fW):=
 match elI P T with
 |some (e,sz,_)=>
  match vfill (fun i=>some (i * sz,sz)) (List.replicate (len * sz) .al) gR with
  |some cells=>
   match toDs hs cells with
   |some (ds,cz)=>some ((zrI P e).isSome=true∧ds.length=len * sz∧cz.Nodup∧len * sz≤16777216∧len≤maxLen,⟨.sl n 0 len,[.ah sz (chunk sz len ds) true],cz.map fun i=>(i,match a5 hs i with|.ah s ys _=>.jK s ys|x=>x)⟩)
   |none=>some (((zrI P e).isSome=true∧sz=1)∧len≤16777216∧len≤maxLen,⟨.sl n 0 len,[.box cells],[]⟩)
  |none=>none
 |none=>none
theorem V8{φ:c1}{T:Nat→Prop}{h:Array Obj}(us:List Value):VRels φ T h (List.replicate us.length .al) us:=by
 refine AL _ _ ξ fun t v u ag ar=>?_;rw[List.getElem?_replicate]at ag;split at ag
 ·cases ag;simp[VRel]
 ·cases ag
theorem V9(w:World){t e:TypeId}(len:Nat)(gR:Array (Nat×Value)){wW:TypeInfo}{z:Value}(hu:P.underlying t=some (.slice e))(Ed:P.info? e=some wW)(hz:wW.zero=some z)
  (asG:len * wW.size≤16777216):∃us:List Value,us.length=len * wW.size∧∀cells,Instr.fill (fun i=>some (i * wW.size,wW.size)) us.toArray gR.toList=some cells→
  (Instr.buildSlice t len gR).run P w=.ok (.slice (some ⟨w.heap.size,0,none⟩) len len) (w.alloc (.cells cells e)):=by
 by_cases h0:len * wW.size=0
 ·refine⟨[],by simp[h0],fun cells h1=>?_⟩;have hs:(Go.sizeOf e).run P w=Result.ok wW.size w:=by simp[Go.sizeOf,typeInfo,Ed]
  simp[Instr.buildSlice,run_underlying hu,hs,h0,Array.range_zero',h1,newRow]
 ·refine⟨((Array.range (len * wW.size)).map (z.cells[· % z.cells.size]!)).toList,by simp,fun cells h=>?_⟩;exact run_buildSlice w t e len gR cells wW z hu Ed hz ω h0 (by rw[←h,Array.toArray_toList])
section
variable {B:Nat→Prop} {w0:World} {a4:Nat→Prop} {φ:c1} {kp:List (V×Value)} {a:Act} {w:World}
theorem V_{σ':St}(bj:R B w0 a4 φ σ' kp a w){n:Nat}(hd:a5 σ'.heap n=.eb)(hn:¬a4 n){upd:List (Nat×H)}(hnd:(upd.map (·.1)).Nodup)
  (hu:∀p∈upd,∃sz xs,a5 σ'.heap p.1=.ah sz xs true∧p.2=.jK sz xs) {cs:Array Value} {e:TypeId} {sz:Nat} {xs:List (List D)} {G:List Nat} (hcs:cs.size=xs.length * sz)
  (M9:repE (w.heap.push (.cells cs e)) true w.heap.size 0 sz xs G) (N8:G.Nodup) (Ca:∀b∈G,∃p∈upd,dS φ σ'.heap p.1 b) (IW:xs.length≤maxLen) :
  ∃dw,R B w0 (fun i=>a4 i∨(n≤i∧i<n+1)) dw ⟨σ'.tmps,hupd (cO σ'.heap n (.ah sz xs true)) upd⟩ kp a (w.alloc (.cells cs e))∧
   ∀hS h',VRel dw hS h' (.sl n 0 xs.length) (.slice (some ⟨w.heap.size,0,none⟩) xs.length xs.length):=by
 have xM:(w.alloc (.cells cs e)).heap=w.heap.push (.cells cs e):=rfl;have JF:∀b∈G,b<w.heap.size:=fun b hb=>by obtain⟨p,_,h⟩:=Ca b hb;exact dS.lt bj h
 refine⟨ec φ n ⟨some w.heap.size,0,xs.length,sz,G⟩,?_,fun hS h'=>?_⟩
 ·refine JG bj hd hn hnd (fun p hp=>by obtain⟨s,ys,h1,h2⟩:=hu p hp;exact⟨s,ys,h1,.inr h2⟩) rfl (by rw[xM];simp) (JL bj.g0 bj.bs _) (fun ez hI _=>by rw[xM,Array.getElem?_push];simp[Nat.ne_of_lt hI]) (.inr ⟨w.heap.size,rfl,fE _,?_,?_⟩) (fun ez hI=>.inl (by cases hI;exact fE _))
   (fun b hb=>.inr (Ca b hb)) N8 (fun ez hI lP=>?_)
  ·exact⟨cs,e,by rw[xM];simp,by simp[hcs]⟩
  ·rw[xM];exact M9
  ·simp only at hI lP
   cases hI
   exact Nat.lt_irrefl _ (JF _ lP)
 ·simp only[VRel];exact⟨⟨some w.heap.size,0,xs.length,sz,G⟩,_,xs.length,by simp[ec],rfl,IW,.inr ⟨w.heap.size,rfl,by simp,fE _,by simp⟩⟩
end
theorem ok_buildSlice{T:TypeId}{len:Nat}{gR:Array (Nat×Operand)}(aJ:o.op=.buildSlice T len gR)(h:evParts g σ gR.toList fun ps=>match bsE P σ.heap T len ps n with|some (p,r)=>p∧K r|none=>False) :
  ∃r,i2 P o g σ n r∧K r:=by
 obtain⟨ps,h1,hx⟩:=ON _ _ h;clear h;split at h1
 ·rename_i p r ai;obtain⟨hp,cd⟩:=h1;unfold bsE at ai;split at ai
  ·rename_i e sz hH hel;split at ai
   ·rename_i cells hf;split at ai
    ·rename_i ds cz xA;simp only[b4,dL]at ai;obtain⟨rfl,rfl⟩:=ai;obtain⟨eY,eK,jl,AJ,y8⟩:=hp;refine⟨_,?_,cd⟩;intro σ' bt hd B w0 a4 φ kp a w lj bj hg pP q_ hk;obtain⟨i,hu,hi,d',_⟩:=AI hel;subst d';obtain⟨vs,wM⟩:=Option.isSome_iff_exists.1 eY;obtain⟨cF,z,dC,qf,_⟩:=DW wM;rw[hi]at dC;cases dC;have hps:=hx bt bj hg;obtain⟨us,wX,gQ⟩:=V9 (P:=P) w len (gR.map fun(j,x)=>(j,a.eval x)) hu hi qf AJ;obtain⟨cT,k1,k2⟩:=J6 _ ps _ _ us _ hf (by rw[←wX];exact V8 us) hps;have gQ:=gQ cT.toArray (by rw[Array.toList_map];exact k1);obtain⟨G,cn,cG,d4,ic⟩:=JW bj cells ds cz cT (OO bt _ _ xA) jl k2;have hl:cT.length=ds.length:=D7 _ _ _ cn;have DB:∀p∈cz.map (fun i=>(i,match a5 σ.heap i with|.ah s ys _=>H.jK s ys|x=>x)),∃sz xs,a5 σ'.heap p.1=.ah sz xs true∧p.2=.jK sz xs:=by
      intro p hp;obtain⟨j,Gx,rfl⟩:=List.mem_map.1 hp;obtain⟨s,ys,q⟩:=OP _ _ _ xA j Gx;refine⟨s,ys,?_,by simp only[q]⟩;rcases bt.2 j with hh|hh
      ·rw[q]at hh;cases hh
      ·rw[hh,q]
     obtain⟨dw,ag,ar⟩:=V_ (cs:=cT.toArray) (e:=e) (sz:=i.size) (xs:=chunk i.size len ds) (G:=G) bj (n:=n) (hd n (fE _) ξ) (lj n (fE _) ξ)
      (upd:=cz.map (fun i=>(i,match a5 σ.heap i with|.ah s ys _=>H.jK s ys|x=>x))) (by
       rw[List.map_map];have:((fun x:Nat×H=>x.1)∘fun i=>(i,match a5 σ.heap i with|.ah s ys _=>H.jK s ys|x=>x))=(fun i:Nat=>i):=rfl;rw[this,List.map_id'];exact jl) DB (by simp[J5,hl,eK])
      (by
       refine V7 len 0 ds G eK (Gy ds cT 0 G (OJ ξ ds cT G (fun x hx=>?_) cn) fun j u aK=>?_)
       ·obtain⟨q,bD,bX⟩:=d4 x hx;rw[Array.getElem?_push];simp[Nat.ne_of_lt (dS.lt bj bX)]
       ·unfold cellAt;simp[aK]) cG
      (fun x hx=>by
       obtain⟨q,bD,bX⟩:=d4 x hx;exact⟨_,List.mem_map.2 ⟨q,bD,rfl⟩,bX⟩) (by rw[J5];exact y8)
     unfold Oper.wp;have pe:(execOp a.eval o).run P w=.ok (.value (.slice (some ⟨w.heap.size,0,none⟩) len len)) (w.alloc (.cells cT.toArray e)):=by
      unfold execOp;rw[aJ];simp[gQ]
     rw[pe,Oper.upon_value];rw[J5]at ar;exact hk _ _ _ (pc ag o.dst (ar _ _))
    ·simp only[b4,dL]at ai;obtain⟨rfl,rfl⟩:=ai;obtain⟨⟨eY,jl⟩,AJ,y8⟩:=hp;subst jl;refine⟨_,?_,cd⟩;intro σ' bt hd B w0 a4 φ kp a w lj bj hg pP q_ hk;obtain⟨i,hu,hi,d',_⟩:=AI hel;obtain⟨vs,wM⟩:=Option.isSome_iff_exists.1 eY;obtain⟨cF,z,dC,qf,_⟩:=DW wM;rw[hi]at dC;cases dC;have hps:=hx bt bj hg;obtain⟨us,wX,gQ⟩:=V9 (P:=P) w len (gR.map fun(j,x)=>(j,a.eval x)) hu hi qf (by rw[d'];omega);rw[d']at wX gQ;obtain⟨cT,k1,k2⟩:=J6 _ ps _ _ us _ hf (by rw[←wX];exact V8 us) hps;have gQ:=gQ cT.toArray (by rw[Array.toList_map];exact k1);have h1:=VX len 1 bj (n:=n) (hd n (fE _) ξ) (lj n (fE _) ξ) (cells:=cells) (cs:=cT.toArray) (e:=e) k2 (w':=w.alloc (.cells cT.toArray e)) rfl (JL bj.g0 bj.bs _);unfold Oper.wp;have pe:(execOp a.eval o).run P w=.ok (.value (.slice (some ⟨w.heap.size,0,none⟩) len len)) (w.alloc (.cells cT.toArray e)):=by
      unfold execOp;rw[aJ];simp[gQ]
     rw[pe,Oper.upon_value];refine hk _ _ _ (pc h1 o.dst ?_);simp only[VRel];exact⟨⟨some w.heap.size,0,len,1,[]⟩,_,len,by simp[ec],rfl,y8,.inr ⟨w.heap.size,rfl,by simp,fE _,by simp⟩⟩
   ·cases ai
  ·cases ai
 ·exact h1.elim
def zD:V→Option D
 |.d x=>if x.flat then some x else none
 |.ee s=>some (.sl s [])
 |_=>none
def zDs:List V→Option (List D)
 |[]=>some []
 |v::vs=>match zD v,zDs vs with|some d,some ds=>some (d::ds)|_,_=>none
theorem V'{φ:c1}{T:Nat→Prop}{h h':Array Obj}{bl:Bool}:∀(vs:List V) (ds:List D) (us:List Value),zDs vs=some ds→VRels φ T h vs us→reps h' bl ds us []
 |[],ds,us,e,r=>by
  simp only[zDs,b4]at e;subst e;simp only[VRels]at r;subst r;simp[reps]
 |v::vs,ds,us,e,r=>by
  simp only[VRels]at r;obtain⟨u,cT,rfl,aY,bn⟩:=r;simp only[zDs]at e;split at e
  ·rename_i d qq ag ar
   cases e
   simp only[reps];refine⟨u,cT,[],[],rfl,rfl,?_,V' vs qq cT ar bn⟩;unfold zD at ag;split at ag
   ·split at ag
    ·rename_i x hf
     cases ag
     simp only[VRel]at aY;obtain⟨F,aY,_⟩:=aY;have:=Gl hf aY;subst this;exact JP hf aY
    ·cases ag
   ·cases ag
    simp only[VRel]at aY;subst aY;exact⟨none,0,rfl,by simp,by decide,.inl ⟨rfl,rfl,fun _=>rfl⟩⟩
   ·cases ag
  ·cases e
theorem Wa{h:Array Obj}{b sz:Nat}{ds:List D}(hl:ds.length=sz):∀(m f:Nat),(∀i,i<m→repC h true b (f+i * sz) ds [])→repE h true b f sz (List.replicate m ds) []
 |0,f,_=>by simp[repE]
 |m+1,f,r=>by
  rw[List.replicate_succ];simp only[repE];refine⟨[],[],rfl,hl,by simpa using r 0 ω,Wa hl m (f+sz) fun i hi=>?_⟩;have:=r (i+1) ω;rw[Nat.add_mul,Nat.one_mul]at this;rw[show f+sz+i * sz=f+(i * sz+sz)from by omega];exact this
def mkE(P:Program)(T:TypeId)(i:Int)(n:Nat):Option (Prop×fW):=
 match elI P T with
 |some (e,sz,hH)=>
  match zrI P e with
  |some zs=>
   match zDs zs with
   |some ds=>some (ds.length=sz∧0<sz∧0≤i∧(hH:Int) * i≤281474976710656∧i.toNat≤maxLen,⟨.sl n 0 i.toNat,[.ah sz (List.replicate i.toNat ds) true],[]⟩)
   |none=>none
  |none=>none
 |none=>none
theorem aeV{T:TypeId}{x:Operand}(aJ:o.op=.makeSlice T x x)(h:evg g (σ.ev x) fun v=>asI v fun _ i=>match mkE P T i n with|some (p,r)=>p∧K r|none=>False):∃r,i2 P o g σ n r∧K r:=by
 obtain⟨m8,h1,hx⟩:=hT h;obtain⟨k,c,rfl,h1⟩:=AW h1;simp only[asI]at h1;split at h1
 ·rename_i p r ai;obtain⟨hp,cd⟩:=h1;unfold mkE at ai;split at ai
  ·rename_i e sz hH hel;split at ai
   ·rename_i zs wM;split at ai
    ·rename_i ds xA;simp only[b4,dL]at ai;obtain⟨rfl,rfl⟩:=ai;obtain⟨eY,eK,jl,AJ,y8⟩:=hp;refine⟨_,?_,cd⟩;intro σ' bt hd B w0 a4 φ kp a w lj bj hg pP q_ hk;obtain⟨i,hu,hi,d',DR⟩:=AI hel;subst d';subst DR;obtain⟨cF,z,dC,qf,nF⟩:=DW wM;rw[hi]at dC;cases dC;have Wb:=fun h':Array Obj=>V' (h':=h') (bl:=true) _ _ _ xA (nF φ (fun _=>True) #[]);have Gg:z.cells.size=i.size:=by rw[←Array.length_toList,D7 _ _ _ (Wb #[]),eY]
     have d8:=(oe (hx _ _ _ _ hg (g_ bt bj x))).1;have qj:=run_make (P:=P) w T e i z hu hi qf k k c c jl (Int.le_refl _) AJ (by simp only[maxLen]at y8;omega);obtain⟨dw,ag,ar⟩:=V_ (cs:=madeCells z.cells (c.toNat * i.size)) (e:=e) (sz:=i.size) (xs:=List.replicate c.toNat ds) (G:=[]) bj (n:=n) (hd n (fE _) ξ) (lj n (fE _) ξ)
      (upd:=[]) ξ ξ (by simp[size_madeCells])
      (by
       refine Wa eY c.toNat 0 fun m hm=>Gy ds z.cells.toList _ [] (Wb _) fun j u aK=>?_;have Cj:j<i.size:=by
        rw[←Gg];rcases Nat.lt_or_ge j z.cells.size with h|h
        ·exact h
        ·rw[List.getElem?_eq_none (by simpa using h)]at aK;cases aK
       have hlt:m * i.size+j<c.toNat * i.size:=by
        have:(m+1) * i.size≤c.toNat * i.size:=Nat.mul_le_mul_right _ hm;rw[Nat.add_mul]at this;omega
       have BQ:(m * i.size+j) % z.cells.size=j:=by rw[Gg,Nat.mul_comm,Nat.mul_add_mod,Nat.mod_eq_of_lt Cj]
       have vH:j<z.cells.size:=by rw[Gg];exact Cj
       unfold cellAt;simp[madeCells,hlt,BQ];rw[Array.getElem?_toList]at aK;rw[Array.getElem?_eq_getElem vH]at aK;rw[getElem!_pos z.cells j vH];exact bd aK) List.nodup_nil ξ (by simpa using y8)
     unfold Oper.wp;have pe:(execOp a.eval o).run P w=.ok (.value (.slice (some ⟨w.heap.size,0,none⟩) c.toNat c.toNat)) (w.alloc (.cells (madeCells z.cells (c.toNat * i.size)) e)):=by
      unfold execOp;rw[aJ];simp[d8,qj]
     rw[pe,Oper.upon_value];rw[List.length_replicate]at ar;exact hk _ _ _ (pc ag o.dst (ar _ _))
    ·cases ai
   ·cases ai
  ·cases ai
 ·exact h1.elim
theorem aeG{c:Call}{x y:Operand}{T U:TypeId}(aJ:o.op=.call c)(hc:c={callee:=.builtin .min,args:=#[x,y],argTypes:=#[T,U]})
  (h:evg g (σ.ev x) fun a=>evg g (σ.ev y) fun b=>asI a fun k i=>asI b fun ko j=>k=ko∧K (dn (qs k (if j<i then j else i)))):∃r,i2 P o g σ n r∧K r:=by
 subst hc;obtain⟨m8,h1,hx⟩:=hT h;obtain⟨DV,h2,hy⟩:=hT h1;obtain⟨k,i,rfl,h2⟩:=AW h2;simp only[asI]at h2;obtain⟨ko,j,rfl,h2⟩:=AW h2;obtain⟨rfl,cd⟩:=h2;refine⟨_,oM fun σ' bt B w0 a4 φ kp a w r hg=>⟨.int k (if j<i then j else i),?_,?_⟩,cd⟩
 ·have d8:=oe (hx _ _ _ _ hg (g_ bt r x));have m9:=oe (hy _ _ _ _ hg (g_ bt r y));unfold execOp;rw[aJ];simp[resolve,invoke,builtin,Builtin.min_,Builtin.min2,d8.1,m9.1]
 ·have d8:=oe (hx _ _ _ _ hg (g_ bt r x));have m9:=oe (hy _ _ _ _ hg (g_ bt r y));exact pf (by split<;>omega)
theorem aeH{c:Call}{x y:Operand}{T U:TypeId}(aJ:o.op=.call c)(hc:c={callee:=.builtin .max,args:=#[x,y],argTypes:=#[T,U]})
  (h:evg g (σ.ev x) fun a=>evg g (σ.ev y) fun b=>asI a fun k i=>asI b fun ko j=>k=ko∧K (dn (qs k (if j>i then j else i)))):∃r,i2 P o g σ n r∧K r:=by
 subst hc;obtain⟨m8,h1,hx⟩:=hT h;obtain⟨DV,h2,hy⟩:=hT h1;obtain⟨k,i,rfl,h2⟩:=AW h2;simp only[asI]at h2;obtain⟨ko,j,rfl,h2⟩:=AW h2;obtain⟨rfl,cd⟩:=h2;refine⟨_,oM fun σ' bt B w0 a4 φ kp a w r hg=>⟨.int k (if j>i then j else i),?_,?_⟩,cd⟩
 ·have d8:=oe (hx _ _ _ _ hg (g_ bt r x));have m9:=oe (hy _ _ _ _ hg (g_ bt r y));unfold execOp;rw[aJ];simp[resolve,invoke,builtin,Builtin.max_,Builtin.max2,d8.1,m9.1]
 ·have d8:=oe (hx _ _ _ _ hg (g_ bt r x));have m9:=oe (hy _ _ _ _ hg (g_ bt r y));exact pf (by split<;>omega)
def evs(g:Bool)(σ:St):List Operand→(List V→Prop)→Prop
 |[],K=>K []
 |x::r,K=>evg g (σ.ev x) fun v=>evs g σ r fun vs=>K (v::vs)
theorem Gr:∀(xs:List Operand) (K:List V→Prop),evs g σ xs K→∃vs,K vs∧∀{σ':St} {B:Nat→Prop} {w0:World} {a4:Nat→Prop} {φ:c1} {kp:List (V×Value)} {a:Act} {w:World},σ.le σ'→R B w0 a4 φ σ' kp a w→g=true→
  VRels φ (c9 φ σ'.heap) w.heap vs (xs.map a.eval)
 |[],K,h=>⟨[],h,fun _ _ _=>by simp[VRels]⟩
 |x::xs,K,h=>by
  simp only[evs]at h;obtain⟨v,h1,hx⟩:=hT h;obtain⟨vs,cd,hr⟩:=Gr xs _ h1;refine⟨v::vs,cd,fun bt r hg=>?_⟩;simp only[eT,VRels];exact⟨_,_,rfl,hx _ _ _ _ hg (g_ bt r x),hr bt r hg⟩
theorem aeW{f:FuncId}{fX:Array Operand}(aJ:o.op=.makeFunc (.func f) #[] fX)(h:evs g σ fX.toList fun vs=>K (dn (.fn f vs))):∃r,i2 P o g σ n r∧K r:=by
 obtain⟨vs,cd,hx⟩:=Gr _ _ h;refine⟨_,oM fun σ' bt B w0 a4 φ kp a w r hg=>?_,cd⟩;refine⟨.func (.func f) #[] (fX.map a.eval),by unfold execOp;rw[aJ];simp[Instr.makeFunc],?_⟩;simp only[VRel];exact⟨_,rfl,by simpa using hx bt r hg⟩
inductive AD where
 |one (d:D)
 |agg (ds:List D)
def Gh(h:Array Obj)(o:Bool):AD→Value→List Nat→Prop
 |.one d,u,F=>rep h o d u F
 |.agg ds,u,F=>∃us:Array Value,u=.agg us∧reps h o ds us.toList F
def areps(h:Array Obj)(o:Bool):List AD→List Value→List Nat→Prop
 |[],us,F=>us=[]∧F=[]
 |a::as,us,F=>∃u cT jP ik,us=u::cT∧F=jP++ik∧Gh h o a u jP∧areps h o as cT ik
def trep(h:Array Obj)(o:Bool)(rs:List AD)(v:Value)(F:List Nat):Prop:=
 match rs with
 |[r]=>Gh h o r v F
 |rs=>∃us:Array Value,v=.tuple us∧areps h o rs us.toList F
def Does(P:Program)(f:FuncId)(us:Array Value)(w:World)(R:Value→World→Prop):Prop:=
 match(callFunc f us).run P w with
 |.ok (.enter g as) w'=>Calls P g as w' fun e Vb=>match e with|.returned v=>R v Vb|_=>False
 |.ok (.value v) w'=>R v w'
 |.ok (.row row as) w'=>Rows P row as w' R
 |_=>False
theorem Does.mono{P:Program}{f:FuncId}{us:Array Value}{w:World}{R Vc:Value→World→Prop}(h:Does P f us w R)(hr:∀v w',R v w'→Vc v w'):Does P f us w Vc:=by
 unfold Does at *;split at h
 ·exact Calls.mono h fun e Vb he=>by cases e<;>first|exact hr _ _ he|exact he.elim
 ·exact hr _ _ h
 ·exact Rows.mono h hr
 ·exact h.elim
theorem Does.enter{P:Program}{f:FuncId}{us:Array Value}{w:World}{R:Value→World→Prop}(gQ:(callFunc f us).run P w=.ok (.enter f us) w)
  (h:Calls P f us w fun e w'=>match e with|.returned v=>R v w'|_=>False):Does P f us w R:=by
 unfold Does;rw[gQ];exact h
def PureCall(P:Program)(f:FuncId)(args res:List AD):Prop:=
 ∀(w:World) (us:List Value) (F:List Nat),GOk w.heap→areps w.heap false args us F→Does P f us.toArray w fun v w'=>
  ∃F',Bel (fun b=>w.heap.size≤b) w w'∧trep w'.heap true res v F'∧F'.Nodup∧∀b∈F',w.heap.size≤b
def clnOf(hs:List H)(id off len:Nat):Option (Nat×List (List D)):=
 match a5 hs id with
 |.aj sz xs=>if off+len≤xs.length then some (sz,(xs.drop off).take len)else none
 |_=>elsOf hs (.sl id off len)
def toRD(hs:List H)(v:V):Option D:=
 match v with
 |.d x=>some x
 |.ee s=>some (.sl s [])
 |.sl id off len=>match clnOf hs id off len with|some (sz,xs)=>some (.sl sz xs)|none=>none
 |_=>none
def toRDs(hs:List H):List V→Option (List D)
 |[]=>some []
 |v::vs=>match toRD hs v,toRDs hs vs with|some d,some ds=>some (d::ds)|_,_=>none
def toAD(hs:List H)(v:V):Option AD:=
 match v with
 |.agg vs=>(toRDs hs vs).map .agg
 |v=>(toRD hs v).map .one
def toADs(hs:List H):List V→Option (List AD)
 |[]=>some []
 |v::vs=>match toAD hs v,toADs hs vs with|some d,some ds=>some (d::ds)|_,_=>none
section
variable {B:Nat→Prop} {w0:World} {a4:Nat→Prop} {φ:c1} {kp:List (V×Value)} {a:Act} {w:World} {σ σ':St}
theorem Vd(bt:σ.le σ')(r:R B w0 a4 φ σ' kp a w){v:V}{d:D}(h:toRD σ.heap v=some d){u:Value}(gA:VRel φ (c9 φ σ'.heap) w.heap v u):∃F,rep w.heap false d u F:=by
 unfold toRD at h;split at h
 ·cases h
  simp only[VRel]at gA;obtain⟨F,aY,_⟩:=gA;exact⟨F,aY⟩
 ·cases h
  simp only[VRel]at gA;subst gA;exact⟨[],none,0,rfl,by simp,by decide,.inl ⟨rfl,rfl,fun e=>by cases e⟩⟩
 ·rename_i id off len;split at h
  ·rename_i sz xs hel
   cases h
   unfold clnOf at hel;split at hel
   ·rename_i ij ys hx;split at hel
    ·rename_i hl;simp only[b4,dL]at hel;obtain⟨rfl,rfl⟩:=hel;have h9:a5 σ'.heap id=.aj ij ys:=by
      rcases bt.2 id with hh|hh
      ·rw[hx]at hh;cases hh
      ·rw[hh,hx]
     obtain⟨F,eH,_⟩:=Oc r (id:=id) (by rw[h9];rfl) hl gA;exact⟨F,Ve _ _ _ eH⟩
    ·cases hel
   obtain⟨ad,c,ag,ar,ba,bF⟩:=JA bt r hel gA;simp only[rep];rcases bF with bF|⟨b,f,G,bF,c6,js,nK⟩
   ·exact⟨[],ad,c,ag,ar,ba,.inl ⟨bF,rfl,fun e=>by cases e⟩⟩
   ·exact⟨b::G,ad,c,ag,ar,ba,.inr ⟨b,f,G,bF,rfl,c6,js,fun e=>by cases e⟩⟩
  ·cases h
 ·cases h
theorem Vf(bt:σ.le σ')(r:R B w0 a4 φ σ' kp a w):∀(vs:List V) (ds:List D) (us:List Value),toRDs σ.heap vs=some ds→VRels φ (c9 φ σ'.heap) w.heap vs us→∃F,reps w.heap false ds us F
 |[],ds,us,h,gA=>by
  simp only[toRDs,b4]at h;subst h;simp only[VRels]at gA;subst gA;exact⟨[],rfl,rfl⟩
 |v::vs,ds,us,h,gA=>by
  simp only[VRels]at gA;obtain⟨u,cT,rfl,aY,bn⟩:=gA;simp only[toRDs]at h;split at h
  ·rename_i d qq ag ar
   cases h
   obtain⟨jP,eH⟩:=Vd bt r ag aY;obtain⟨ik,fU⟩:=Vf bt r vs qq cT ar bn;exact⟨jP++ik,u,cT,jP,ik,rfl,rfl,eH,fU⟩
  ·cases h
theorem aeA(bt:σ.le σ')(r:R B w0 a4 φ σ' kp a w){v:V}{d:AD}(h:toAD σ.heap v=some d){u:Value}(gA:VRel φ (c9 φ σ'.heap) w.heap v u):∃F,Gh w.heap false d u F:=by
 unfold toAD at h;split at h
 ·rename_i vs
  cases hd:toRDs σ.heap vs with
  |none=>rw[hd]at h;cases h
  |some ds=>
   rw[hd]at h;cases h;obtain⟨us,rfl,aY⟩:=Gi gA;obtain⟨F,f⟩:=Vf bt r vs ds _ hd aY;exact⟨F,us,rfl,f⟩
 ·cases hd:toRD σ.heap v with
  |none=>rw[hd]at h;cases h
  |some x=>
   rw[hd]at h;cases h;exact Vd bt r hd gA
theorem JO(bt:σ.le σ')(r:R B w0 a4 φ σ' kp a w):∀(vs:List V) (ds:List AD) (us:List Value),toADs σ.heap vs=some ds→VRels φ (c9 φ σ'.heap) w.heap vs us→∃F,areps w.heap false ds us F
 |[],ds,us,h,gA=>by
  simp only[toADs,b4]at h;subst h;simp only[VRels]at gA;subst gA;exact⟨[],rfl,rfl⟩
 |v::vs,ds,us,h,gA=>by
  simp only[VRels]at gA;obtain⟨u,cT,rfl,aY,bn⟩:=gA;simp only[toADs]at h;split at h
  ·rename_i d qq ag ar
   cases h
   obtain⟨jP,eH⟩:=aeA bt r ag aY;obtain⟨ik,fU⟩:=JO bt r vs qq cT ar bn;exact⟨jP++ik,u,cT,jP,ik,rfl,rfl,eH,fU⟩
  ·cases h
end
def rV(d:D)(n:Nat):V:=match d with|.sl _ xs=>.sl n 0 xs.length|d=>.d d
def xN(d:D):List H:=match d with|.sl sz xs=>[.ah sz xs true]|_=>[]
def rVs:List D→Nat→List V
 |[],_=>[]
 |d::ds,n=>rV d n::rVs ds (n+(xN d).length)
def rHs:List D→List H
 |[]=>[]
 |d::ds=>xN d++rHs ds
def Gj:AD→Nat→V
 |.one d,n=>rV d n
 |.agg ds,n=>.agg (rVs ds n)
def Gk:AD→List H
 |.one d=>xN d
 |.agg ds=>rHs ds
def aVs:List AD→Nat→List V
 |[],_=>[]
 |d::ds,n=>Gj d n::aVs ds (n+(Gk d).length)
def aHs:List AD→List H
 |[]=>[]
 |d::ds=>Gk d++aHs ds
def oI(rs:List AD)(n:Nat):V:=match rs with|[r]=>Gj r n|rs=>.eh (aVs rs n)
def m_(β:il):List Nat:=β.fx.toList++β.d7
def wO(h:Array Obj)(bl:List il)(hs:List H)(F:List Nat):Prop:=
 bl.length=hs.length∧bl.flatMap m_=F∧(∀(i:Nat) (β:il) (x:H),bl[i]?=some β→hs[i]?=some x→∀φ T,fk φ T h β x)∧∀x∈hs,∃sz xs,x=.ah sz xs true
def q'(φ:c1)(n:Nat)(bl:List il):Prop:=∀(i:Nat) (β:il),bl[i]?=some β→φ (n+i)=some β
theorem wO.append{h:Array Obj}{db cW:List il}{h1 h2:List H}{jP ik:List Nat}(jy:wO h db h1 jP)(j5:wO h cW h2 ik):wO h (db++cW) (h1++h2) (jP++ik):=by
 obtain⟨cB,cJ,ct,eA⟩:=jy;obtain⟨ep,eE,hE,qX⟩:=j5;refine⟨by simp[cB,ep],by simp[cJ,eE],fun i β x ag ar=>?_,fun x hx=>?_⟩
 ·rw[List.getElem?_append]at ag ar;by_cases hi:i<db.length
  ·rw[if_pos hi]at ag;rw[if_pos (cB▸hi)]at ar;exact ct i β x ag ar
  ·rw[if_neg hi]at ag;rw[if_neg (cB▸hi),←cB]at ar;exact hE _ β x ag ar
 ·rcases fi.1 hx with hx|hx
  ·exact eA x hx
  ·exact qX x hx
theorem q'.left{φ:c1}{n:Nat}{db cW:List il}(h:q' φ n (db++cW)):q' φ n db:=fun i β e=>h i β (by
 rw[List.getElem?_append_left (by
  rcases Nat.lt_or_ge i db.length with h|h
  ·exact h
  ·rw[List.getElem?_eq_none h]at e;cases e)];exact e)
theorem q'.right{φ:c1}{n:Nat}{db cW:List il}(h:q' φ n (db++cW)):q' φ (n+db.length) cW:=fun i β e=>by
 rw[Nat.add_assoc];exact h (db.length+i) β (by rw[List.getElem?_append_right ω,Nat.add_sub_cancel_left];exact e)
theorem Vg{h:Array Obj}{d:D}{u:Value}{F:List Nat}(r:rep h true d u F):∃bl,wO h bl (xN d) F∧∀φ n T,q' φ n bl→VRel φ T h (rV d n) u:=by
 cases d with
 |sl sz xs=>
  simp only[rep]at r;obtain⟨ad,c,rfl,h2,ao,aN⟩:=r;rcases aN with ⟨rfl,rfl,aN⟩|⟨b,f,G,rfl,rfl,b6,dP,gY⟩
  ·refine⟨[⟨none,0,0,sz,[]⟩],⟨rfl,rfl,fun i β x ag ar φ T=>?_,by simp[xN]⟩,fun φ n T hA=>?_⟩
   ·cases i with
    |zero=>
     simp[xN]at ag ar;subst ag;subst ar;simp[fk]
    |succ i=>simp at ag
   ·simp only[rV,VRel];exact⟨_,ad,c,hA 0 _ rfl,rfl,ao,.inl ⟨aN trivial,rfl,rfl⟩⟩
  ·refine⟨[⟨some b,f,c,sz,G⟩],⟨rfl,by simp[m_],fun i β x ag ar φ T=>?_,by simp[xN]⟩,fun φ n T hA=>?_⟩
   ·cases i with
    |zero=>
     simp[xN]at ag ar;subst ag;subst ar;simp only[fk];exact⟨trivial,.inr ⟨b,G,rfl,h2,(gY trivial).2,dP,fun _=>rfl,fun h=>by cases h⟩⟩
    |succ i=>simp at ag
   ·simp only[rV,VRel];exact⟨_,_,c,hA 0 _ rfl,rfl,ao,.inr ⟨b,rfl,by simp,h2,by simp⟩⟩
 |_=>
  have bB:=Gl rfl r;subst bB;refine⟨[],⟨rfl,rfl,by simp,by simp[xN]⟩,fun φ n T _=>?_⟩;simp only[rV,VRel];exact⟨[],JP rfl r,by simp⟩
theorem Od{h:Array Obj}:∀(ds:List D) (us:List Value) (F:List Nat),reps h true ds us F→∃bl,wO h bl (rHs ds) F∧∀φ n T,q' φ n bl→VRels φ T h (rVs ds n) us
 |[],us,F,r=>by
  simp only[reps]at r;obtain⟨rfl,rfl⟩:=r;exact⟨[],⟨rfl,rfl,by simp,by simp[rHs]⟩,fun _ _ _ _=>by simp[rVs,VRels]⟩
 |d::ds,us,F,r=>by
  simp only[reps]at r;obtain⟨u,cT,jP,ik,rfl,rfl,aY,bn⟩:=r;obtain⟨db,jy,yX⟩:=Vg aY;obtain⟨cW,j5,qi⟩:=Od ds cT ik bn;refine⟨db++cW,jy.append j5,fun φ n T hA=>?_⟩;simp only[rVs,VRels];refine⟨u,cT,rfl,yX φ n T hA.left,qi φ _ T ?_⟩;rw[←jy.1];exact hA.right
theorem Vh{h:Array Obj}{d:AD}{u:Value}{F:List Nat}(r:Gh h true d u F):∃bl,wO h bl (Gk d) F∧∀φ n T,q' φ n bl→VRel φ T h (Gj d n) u:=by
 cases d with
 |one d=>exact Vg r
 |agg ds=>
  obtain⟨us,rfl,r⟩:=r;obtain⟨bl,l,v⟩:=Od ds _ F r;refine⟨bl,l,fun φ n T hA=>?_⟩;simp only[Gj,VRel];exact⟨us,rfl,v φ n T hA⟩
theorem Vi{h:Array Obj}:∀(ds:List AD) (us:List Value) (F:List Nat),areps h true ds us F→∃bl,wO h bl (aHs ds) F∧∀φ n T,q' φ n bl→VRels φ T h (aVs ds n) us
 |[],us,F,r=>by
  simp only[areps]at r;obtain⟨rfl,rfl⟩:=r;exact⟨[],⟨rfl,rfl,by simp,by simp[aHs]⟩,fun _ _ _ _=>by simp[aVs,VRels]⟩
 |d::ds,us,F,r=>by
  simp only[areps]at r;obtain⟨u,cT,jP,ik,rfl,rfl,aY,bn⟩:=r;obtain⟨db,jy,yX⟩:=Vh aY;obtain⟨cW,j5,qi⟩:=Vi ds cT ik bn;refine⟨db++cW,jy.append j5,fun φ n T hA=>?_⟩;simp only[aVs,VRels];refine⟨u,cT,rfl,yX φ n T hA.left,qi φ _ T ?_⟩;rw[←jy.1];exact hA.right
theorem Oe{h:Array Obj}{rs:List AD}{u:Value}{F:List Nat}(r:trep h true rs u F):∃bl,wO h bl (aHs rs) F∧∀φ n T,q' φ n bl→VRel φ T h (oI rs n) u:=by
 unfold trep at r;split at r
 ·rename_i x;obtain⟨bl,l,v⟩:=Vh r;exact⟨bl,by simpa [aHs]using l,fun φ n T hA=>v φ n T hA⟩
 ·rename_i hne;obtain⟨us,rfl,r⟩:=r;obtain⟨bl,l,v⟩:=Vi _ _ F r;refine⟨bl,l,fun φ n T hA=>?_⟩;have:oI rs n=.eh (aVs rs n):=by unfold oI;split<;>first|rfl|(rename_i y;exact absurd rfl (hne y))
  rw[this];simp only[VRel];exact⟨us,rfl,v φ n T hA⟩
def H.toCln:H→H
 |.ah sz xs true=>.aj sz xs
 |x=>x
theorem wO.aj{h:Array Obj}{bl:List il}{hs:List H}{F:List Nat}(l:wO h bl hs F):bl.length=(hs.map H.toCln).length∧bl.flatMap m_=F∧(∀(i:Nat) (β:il) (x:H),bl[i]?=some β→(hs.map H.toCln)[i]?=some x→∀φ T,fk φ T h β x):=by
 obtain⟨jy,j5,y3,_⟩:=l;refine⟨by simp[jy],j5,fun i β x ag ar φ T=>?_⟩;rw[List.getElem?_map]at ar
 cases hx:hs[i]? with
 |none=>rw[hx]at ar;cases ar
 |some y=>
  rw[hx]at ar;simp only[Option.map_some,b4]at ar;subst ar;have:=y3 i β y ag hx φ T;unfold H.toCln;split
  ·rename_i sz xs;have:=Of (x:=.ah sz xs true) rfl this;simpa only[fk]using this
  ·exact this
theorem Vj{F:List Nat}:∀(bl:List il),bl.flatMap m_=F→F.Nodup→∀(i j:Nat) (β AK:il) (b:Nat),bl[i]?=some β→bl[j]?=some AK→b∈m_ β→b∈m_ AK→i=j:=by
 intro bl
 induction bl generalizing F with
 |nil=>intro _ _ i j β AK b e;simp at e
 |cons x xs df=>
  intro e hn i j β AK b ag ar h1 h2;subst e;rw[List.flatMap_cons,List.nodup_append]at hn;have wP:∀(k:Nat) (JQ:il),xs[k]?=some JQ→b∈m_ JQ→b∈xs.flatMap m_:=fun k JQ hk hb=>List.mem_flatMap.2 ⟨JQ,List.mem_of_getElem? hk,hb⟩
  cases i with
  |zero=>
   cases j with
   |zero=>rfl
   |succ j=>
    simp at ag ar;subst ag;exact absurd rfl (hn.2.2 b h1 b (wP j AK ar h2))
  |succ i=>
   cases j with
   |zero=>
    simp at ag ar;subst ar;exact absurd rfl (hn.2.2 b h2 b (wP i β ag h1))
   |succ j=>
    simp at ag ar;rw[df rfl hn.2.1 i j β AK b ag ar h1 h2]
theorem Vk{F:List Nat}:∀(bl:List il),bl.flatMap m_=F→F.Nodup→∀β∈bl,(m_ β).Nodup:=by
 intro bl
 induction bl generalizing F with
 |nil=>simp
 |cons x xs df=>
  intro e hn β hb;subst e;rw[List.flatMap_cons,List.nodup_append]at hn;rcases List.mem_cons.1 hb with rfl|hb
  ·exact hn.1
  ·exact df rfl hn.2.1 β hb
section
variable {B:Nat→Prop} {w0:World} {a4:Nat→Prop} {φ:c1} {kp:List (V×Value)} {a:Act} {w:World} {σ:St}
theorem Og(r:R B w0 a4 φ σ kp a w){n:Nat}{bl:List il}{hs:List H}{F:List Nat}{w':World}(hn:∀i,n≤i→i<n+hs.length→¬a4 i)
  (hb:Bel (fun b=>w.heap.size≤b) w w') (hl:bl.length=hs.length∧bl.flatMap m_=F∧(∀(i:Nat) (β:il) (x:H),bl[i]?=some β→hs[i]?=some x→∀φ T,fk φ T w'.heap β x)) (hnd:F.Nodup) (hnew:∀b∈F,w.heap.size≤b) :
  ∃dw,q' dw n bl∧R B w0 (fun i=>a4 i∨(n≤i∧i<n+hs.length)) dw ⟨σ.tmps,Gv.hnew σ.heap n hs⟩ kp a w':=by
 obtain⟨jy,j5,y3⟩:=hl;have DY:∀i,n≤i→i<n+hs.length→φ i=none:=fun i h1 h2=>by
  cases h:φ i with
  |none=>rfl
  |some β=>exact absurd (r.h7 i β h) (hn i h1 h2)
 let dw:c1:=fun i=>if n≤i∧i<n+hs.length then bl[i-n]? else φ i
 have hin:∀i,n≤i∧i<n+hs.length→dw i=bl[i-n]?:=fun i h=>if_pos h;have oJ:∀i,¬(n≤i∧i<n+hs.length)→dw i=φ i:=fun i h=>if_neg h;have aeB:∀i,n≤i∧i<n+hs.length→∃x,hs[i-n]?=some x∧a5 (Gv.hnew σ.heap n hs) i=x:=by
  intro i h;have hlt:i-n<hs.length:=by omega
  refine⟨hs[i-n],cD hlt,?_⟩;rw[B5,if_pos h,j3,cD hlt];rfl
 have aeC:∀i,¬(n≤i∧i<n+hs.length)→a5 (Gv.hnew σ.heap n hs) i=a5 σ.heap i:=fun i h=>by rw[B5,if_neg h]
 have kn:∀i,n≤i∧i<n+hs.length→∀b,dS dw (Gv.hnew σ.heap n hs) i b→∃β,bl[i-n]?=some β∧b∈m_ β:=by
  rintro i h b ⟨β,ag,ar⟩;rw[hin i h]at ag;refine⟨β,ag,?_⟩;unfold m_;rcases ar with ⟨_,ar⟩|⟨_,ar⟩
  ·simp[ar]
  ·simp[ar]
 have Vl:∀(i:Nat) (β:il) (b:Nat),bl[i]?=some β→b∈m_ β→w.heap.size≤b:=fun i β b h1 h2=>hnew b (by rw[←j5];exact List.mem_flatMap.2 ⟨β,List.mem_of_getElem? h1,h2⟩);refine⟨dw,fun i β hi=>?_,y_ r (fun i=>n≤i∧i<n+hs.length) _ dw _ w' (fun i hi=>⟨aeC i hi,oJ i hi⟩) (fun i β hi=>?_) hb.size (fun b hI _=>hb.block b ω) (fun i hi b aJ=>?_) (fun i hi bI h1 b h2=>?_)
  (fun i j b hi aK h1 h2=>?_) (fun i β hi h1 _=>?_) (fun i hi=>?_) (fun i β hi=>?_) (r.g0.trans (hb.mono fun k hk=>r.bs k hk))⟩
 ·have hlt:i<bl.length:=by
   rcases Nat.lt_or_ge i bl.length with h|h
   ·exact h
   ·rw[List.getElem?_eq_none h]at hi;cases hi
  rw[hin (n+i) ⟨by omega,by omega⟩,Nat.add_sub_cancel_left];exact hi
 ·by_cases h:n≤i∧i<n+hs.length
  ·rw[DY i h.1 h.2]at hi;cases hi
  ·exact⟨β,by rw[oJ i h];exact hi,rfl,rfl,rfl,rfl⟩
 ·obtain⟨β,ag,ar⟩:=kn i hi b aJ;exact .inl (Vl _ β b ag ar)
 ·rw[hin i hi]at h1;refine .inl (Vl _ bI b h1 ?_);unfold m_;rcases h2 with ⟨_,h2⟩|⟨_,h2⟩<;>simp[h2]
 ·obtain⟨β,ag,ar⟩:=kn i hi b h1;obtain⟨AK,eH,fU⟩:=kn j aK b h2;have:=Vj bl j5 hnd _ _ β AK b ag eH ar fU;omega
 ·rw[hin i hi]at h1;have:=Vk bl j5 hnd β (List.mem_of_getElem? h1);unfold m_ at this;rw[List.nodup_append]at this;refine⟨this.2.1,fun b hI lP=>this.2.2 b (by simp[hI]) b lP rfl⟩
 ·right;obtain⟨x,h1,h2⟩:=aeB i hi;have hlt:i-n<bl.length:=by omega
  refine⟨bl[i-n],by rw[hin i hi];exact cD hlt,?_⟩;rw[h2];exact y3 _ _ _ (cD hlt) h1 _ _
 ·by_cases h:n≤i∧i<n+hs.length
  ·exact .inr h
  ·rw[oJ i h]at hi;exact .inl (r.h7 i β hi)
end
variable {P:Program} {o:Oper} {g:Bool} {σ:St} {n:Nat} {K:fW→Prop}
theorem Oh{c:Call}{f:FuncId}{xs:Array Operand}{ts:Array TypeId}(aJ:o.op=.call c){x:Operand}(hc:c={callee:=.value x,args:=xs,argTypes:=ts})(hf:∀{σ':St} {B:Nat→Prop} {w0:World} {a4:Nat→Prop} {φ:c1} {kp:List (V×Value)} {a:Act} {w:World},σ.le σ'→R B w0 a4 φ σ' kp a w→g=true→a.eval x=.func (.func f) #[] #[])
  {vs:List V} (hx:∀{σ':St} {B:Nat→Prop} {w0:World} {a4:Nat→Prop} {φ:c1} {kp:List (V×Value)} {a:Act} {w:World},σ.le σ'→R B w0 a4 φ σ' kp a w→g=true→VRels φ (c9 φ σ'.heap) w.heap vs (xs.toList.map a.eval))
  {as rs:List AD} (ai:toADs σ.heap vs=some as) (Oi:PureCall P f as rs) (cd:K ⟨oI rs n,aHs rs,[]⟩):∃r,i2 P o g σ n r∧K r:=by
 subst hc;refine⟨_,?_,cd⟩;intro σ' bt _ B w0 a4 φ kp a w lj bj hg pP q_ hk;have hv:=hx bt bj hg;obtain⟨F,bB⟩:=JO bt bj vs as _ ai hv;have hcall:=Oi w _ F bj.Oj bB;unfold Oper.wp;have gQ:(execOp a.eval o).run P w=(callFunc f (xs.map a.eval)).run P w:=by
  unfold execOp;rw[aJ];have Ok:=hf bt bj hg;simp[resolve,Ok,Deferred.ofValue,invoke]
 rw[gQ];have ma:(xs.toList.map a.eval).toArray=xs.map a.eval:=by rw[←Array.toList_map,Array.toArray_toList]
 rw[ma]at hcall;have aW:∀v w',(∃F',Bel (fun b=>w.heap.size≤b) w w'∧trep w'.heap true rs v F'∧F'.Nodup∧∀b∈F',w.heap.size≤b)→pP (a.put o.dst v) w':=by
  rintro v w' ⟨F',ag,ar,ba,bF⟩;obtain⟨bl,jy,j5⟩:=Oe ar;obtain⟨dw,hA,fz⟩:=Og bj lj ag ⟨jy.1,jy.2.1,jy.2.2.1⟩ ba bF;exact hk v w' dw (pc fz o.dst (j5 dw n _ hA))
 unfold Does at hcall;split at hcall
 ·rename_i h1;rw[h1,Oper.upon_enter];refine Calls.mono hcall fun e w' he=>?_
  cases e with
  |returned v=>exact aW v w' he
  |panicked c=>exact he.elim
  |outgrown=>exact he.elim
 ·rename_i h1;rw[h1,Oper.upon_value];exact aW _ _ hcall
 ·rename_i h1;rw[h1,Oper.upon_row];exact Rows.mono hcall aW
 ·exact hcall.elim
theorem JR{c:Call}{f:FuncId}{xs:Array Operand}{ts:Array TypeId}(aJ:o.op=.call c){x:Operand}(hc:c={callee:=.value x,args:=xs,argTypes:=ts})(hf:∀{σ':St} {B:Nat→Prop} {w0:World} {a4:Nat→Prop} {φ:c1} {kp:List (V×Value)} {a:Act} {w:World},σ.le σ'→R B w0 a4 φ σ' kp a w→g=true→a.eval x=.func (.func f) #[] #[])
  {vs:List V} (hx:∀{σ':St} {B:Nat→Prop} {w0:World} {a4:Nat→Prop} {φ:c1} {kp:List (V×Value)} {a:Act} {w:World},σ.le σ'→R B w0 a4 φ σ' kp a w→g=true→VRels φ (c9 φ σ'.heap) w.heap vs (xs.toList.map a.eval))
  {as rs:List AD} (ai:toADs σ.heap vs=some as) (Oi:PureCall P f as rs) (cd:K ⟨oI rs n,(aHs rs).map H.toCln,[]⟩):∃r,i2 P o g σ n r∧K r:=by
 subst hc;refine⟨_,?_,cd⟩;intro σ' bt _ B w0 a4 φ kp a w lj bj hg pP q_ hk;have hv:=hx bt bj hg;obtain⟨F,bB⟩:=JO bt bj vs as _ ai hv;have hcall:=Oi w _ F bj.Oj bB;unfold Oper.wp;have gQ:(execOp a.eval o).run P w=(callFunc f (xs.map a.eval)).run P w:=by
  unfold execOp;rw[aJ];have Ok:=hf bt bj hg;simp[resolve,Ok,Deferred.ofValue,invoke]
 rw[gQ];have ma:(xs.toList.map a.eval).toArray=xs.map a.eval:=by rw[←Array.toList_map,Array.toArray_toList]
 rw[ma]at hcall;have aW:∀v w',(∃F',Bel (fun b=>w.heap.size≤b) w w'∧trep w'.heap true rs v F'∧F'.Nodup∧∀b∈F',w.heap.size≤b)→pP (a.put o.dst v) w':=by
  rintro v w' ⟨F',ag,ar,ba,bF⟩;obtain⟨bl,jy,j5⟩:=Oe ar;obtain⟨dw,hA,fz⟩:=Og bj lj ag jy.aj ba bF;exact hk v w' dw (pc fz o.dst (j5 dw n _ hA))
 unfold Does at hcall;split at hcall
 ·rename_i h1;rw[h1,Oper.upon_enter];refine Calls.mono hcall fun e w' he=>?_
  cases e with
  |returned v=>exact aW v w' he
  |panicked c=>exact he.elim
  |outgrown=>exact he.elim
 ·rename_i h1;rw[h1,Oper.upon_value];exact aW _ _ hcall
 ·rename_i h1;rw[h1,Oper.upon_row];exact Rows.mono hcall aW
 ·exact hcall.elim
def toX(hs:List H)(v:V):Option (D×List Nat):=
 match v with
 |.sl id off len=>match a5 hs id with|.aj sz xs=>if off+len≤xs.length then some (.sl sz ((xs.drop off).take len),[id])else none|_=>toD hs (.sl id off len)
 |v=>toD hs v
def toXs(hs:List H):List V→Option (List D×List Nat)
 |[]=>some ([],[])
 |v::vs=>match toX hs v,toXs hs vs with|some (d,i),some (ds,gl)=>some (d::ds,i++gl)|_,_=>none
section
variable {B:Nat→Prop} {w0:World} {a4:Nat→Prop} {φ:c1} {kp:List (V×Value)} {a:Act} {w:World} {σ:St}
theorem Vm(r:R B w0 a4 φ σ kp a w){v:V}{d:D}{cz:List Nat}(h:toX σ.heap v=some (d,cz)){u:Value}(gA:VRel φ (c9 φ σ.heap) w.heap v u) :
  ∃F,rep w.heap true d u F∧F.Nodup∧(∀b∈F,∃id∈cz,dS φ σ.heap id b)∧∀id∈cz,(a5 σ.heap id).own=true:=by
 unfold toX at h;split at h
 ·rename_i id off len;split at h
  ·rename_i sz xs hx;split at h
   ·rename_i hl;simp only[b4,dL]at h;obtain⟨rfl,rfl⟩:=h;obtain⟨F,eH,fU,f3⟩:=Oc r (id:=id) (by rw[hx];rfl) hl gA;refine⟨F,eH,fU,fun b hb=>⟨id,by simp,f3 b hb⟩,fun i hi=>?_⟩;simp only[List.mem_singleton]at hi;subst hi;rw[hx];rfl
   ·cases h
  ·obtain⟨F,eH,fU,f3,Bx⟩:=Ol r h gA;exact⟨F,eH,fU,f3,fun i hi=>by obtain⟨s,ys,e⟩:=Bx i hi;rw[e];rfl⟩
 ·obtain⟨F,eH,fU,f3,Bx⟩:=Ol r h gA;exact⟨F,eH,fU,f3,fun i hi=>by obtain⟨s,ys,e⟩:=Bx i hi;rw[e];rfl⟩
theorem Vn(r:R B w0 a4 φ σ kp a w):∀(vs:List V) (ds:List D) (cz:List Nat) (us:List Value),toXs σ.heap vs=some (ds,cz)→cz.Nodup→VRels φ (c9 φ σ.heap) w.heap vs us→
  ∃G,reps w.heap true ds us G∧G.Nodup∧(∀b∈G,∃id∈cz,dS φ σ.heap id b)
 |[],ds,cz,us,e,_,dn=>by
  simp only[toXs,b4,dL]at e;obtain⟨rfl,rfl⟩:=e;simp only[VRels]at dn;subst dn;exact⟨[],by simp[reps],List.nodup_nil,by simp⟩
 |v::vs,ds,cz,us,e,hnd,dn=>by
  simp only[VRels]at dn;obtain⟨u,cT,rfl,Gm,Gn⟩:=dn;simp only[toXs]at e;split at e
  ·rename_i d i qq gl ag ar;simp only[b4,dL]at e;obtain⟨rfl,rfl⟩:=e;rw[List.nodup_append]at hnd;obtain⟨F,eH,fU,f3,Bx⟩:=Vm r ag Gm;obtain⟨G,cn,cG,d4⟩:=Vn r vs qq gl cT ar hnd.2.1 Gn;refine⟨F++G,?_,?_,?_⟩
   ·simp only[reps];exact⟨u,cT,F,G,rfl,rfl,eH,cn⟩
   ·rw[List.nodup_append];refine⟨fU,cG,fun x hx y hy pO=>?_⟩;subst pO;obtain⟨p,eY,eK⟩:=f3 x hx;obtain⟨q,bD,bX⟩:=d4 x hy;have:=r.dZ p q x eK bX;exact hnd.2.2 p eY q bD this
   ·intro b hb;rcases fi.1 hb with hb|hb
    ·obtain⟨p,eY,eK⟩:=f3 b hb;exact⟨p,by simp[eY],eK⟩
    ·obtain⟨p,eY,eK⟩:=d4 b hb;exact⟨p,by simp[eY],eK⟩
  ·cases e
end
def JS(hs:List H)(v:V):Option (AD×List Nat):=
 match v with
 |.agg vs=>(toXs hs vs).map fun(ds,cz)=>(.agg ds,cz)
 |v=>(toX hs v).map fun(d,cz)=>(.one d,cz)
def toOAs(hs:List H):List V→Option (List AD×List Nat)
 |[]=>some ([],[])
 |v::vs=>match JS hs v,toOAs hs vs with|some (d,i),some (ds,gl)=>some (d::ds,i++gl)|_,_=>none
section
variable {B:Nat→Prop} {w0:World} {a4:Nat→Prop} {φ:c1} {kp:List (V×Value)} {a:Act} {w:World} {σ:St}
theorem aeD(r:R B w0 a4 φ σ kp a w){v:V}{d:AD}{cz:List Nat}(h:JS σ.heap v=some (d,cz))(hn:cz.Nodup){u:Value}(gA:VRel φ (c9 φ σ.heap) w.heap v u) :
  ∃F,Gh w.heap true d u F∧F.Nodup∧∀b∈F,∃id∈cz,dS φ σ.heap id b:=by
 unfold JS at h;split at h
 ·rename_i vs
  cases hd:toXs σ.heap vs with
  |none=>rw[hd]at h;cases h
  |some p=>
   obtain⟨ds,gl⟩:=p;rw[hd]at h;simp only[Option.map_some,b4,dL]at h;obtain⟨rfl,rfl⟩:=h;obtain⟨us,rfl,aY⟩:=Gi gA;obtain⟨G,cn,cG,d4⟩:=Vn r vs ds gl _ hd hn aY;exact⟨G,⟨us,rfl,cn⟩,cG,d4⟩
 ·cases hd:toX σ.heap v with
  |none=>rw[hd]at h;cases h
  |some p=>
   obtain⟨ds,gl⟩:=p;rw[hd]at h;simp only[Option.map_some,b4,dL]at h;obtain⟨rfl,rfl⟩:=h;obtain⟨G,cn,cG,d4,_⟩:=Vm r hd gA;exact⟨G,cn,cG,d4⟩
theorem Vo(r:R B w0 a4 φ σ kp a w):∀(vs:List V) (ds:List AD) (cz:List Nat) (us:List Value),toOAs σ.heap vs=some (ds,cz)→cz.Nodup→VRels φ (c9 φ σ.heap) w.heap vs us→
  ∃F,areps w.heap true ds us F∧F.Nodup∧∀b∈F,∃id∈cz,dS φ σ.heap id b
 |[],ds,cz,us,e,_,dn=>by
  simp only[toOAs,b4,dL]at e;obtain⟨rfl,rfl⟩:=e;simp only[VRels]at dn;subst dn;exact⟨[],⟨rfl,rfl⟩,List.nodup_nil,by simp⟩
 |v::vs,ds,cz,us,e,hnd,dn=>by
  simp only[VRels]at dn;obtain⟨u,cT,rfl,Gm,Gn⟩:=dn;simp only[toOAs]at e;split at e
  ·rename_i d i qq gl ag ar;simp only[b4,dL]at e;obtain⟨rfl,rfl⟩:=e;rw[List.nodup_append]at hnd;obtain⟨F,eH,fU,f3⟩:=aeD r ag hnd.1 Gm;obtain⟨G,cn,cG,d4⟩:=Vo r vs qq gl cT ar hnd.2.1 Gn;refine⟨F++G,⟨u,cT,F,G,rfl,rfl,eH,cn⟩,?_,?_⟩
   ·rw[List.nodup_append];refine⟨fU,cG,fun x hx y hy pO=>?_⟩;subst pO;obtain⟨p,eY,eK⟩:=f3 x hx;obtain⟨q,bD,bX⟩:=d4 x hy;exact hnd.2.2 p eY q bD (r.dZ p q x eK bX)
   ·intro b hb;rcases fi.1 hb with hb|hb
    ·obtain⟨p,eY,eK⟩:=f3 b hb;exact⟨p,by simp[eY],eK⟩
    ·obtain⟨p,eY,eK⟩:=d4 b hb;exact⟨p,by simp[eY],eK⟩
  ·cases e
end
structure Gp where
 q:Nat×H
 β:il
 F:List Nat
 F':List Nat
structure aeE(σ':St)(φ:c1)(h':Array Obj)(it:Gp):Prop where
 ao4:∀b∈it.F,dS φ σ'.heap it.q.1 b
 vI:∃β,φ it.q.1=some β∧it.β.fx=β.fx∧it.β.off=β.off∧it.β.cap=β.cap∧it.β.sz=β.sz
 hr:∀φ T,fk φ T h' it.β it.q.2
 ao5:(it.F=[]∧it.F'=[]∧it.β.d7=[])∨∃b G,it.β.fx=some b∧it.F=b::G∧it.F'=b::it.β.d7
 o':(a5 σ'.heap it.q.1).o'=true
 bp:(it.q.2.Cb=false∧it.β.d7=[]∧∀β,φ it.q.1=some β→β.d7=[])∨(a5 σ'.heap it.q.1).Cb=true
section
variable {B:Nat→Prop} {w0:World} {a4:Nat→Prop} {φ:c1} {kp:List (V×Value)} {a:Act} {w:World} {σ σ':St}
def DZ(σ':St)(φ:c1)(h':Array Obj)(upd:List (Nat×H))(F F':List Nat):Prop:=
 ∃eV:List Gp,eV.map Gp.q=upd∧eV.flatMap Gp.F=F∧eV.flatMap Gp.F'=F'∧∀it∈eV,aeE σ' φ h' it
theorem DZ.nil:DZ σ' φ w.heap [] [] []:=⟨[],rfl,rfl,rfl,by simp⟩
theorem DZ.append{h':Array Obj}{f0 jA:List (Nat×H)}{jP ik Vp Vq:List Nat}(h1:DZ σ' φ h' f0 jP Vp)(h2:DZ σ' φ h' jA ik Vq):DZ σ' φ h' (f0++jA) (jP++ik) (Vp++Vq):=by
 obtain⟨f2,cB,cJ,ct,eA⟩:=h1;obtain⟨dG,db,cW,c8,je⟩:=h2;refine⟨f2++dG,by rw[List.map_append,cB,db],by rw[List.flatMap_append,cJ,cW],by rw[List.flatMap_append,ct,c8],fun it Gq=>?_⟩;rcases fi.1 Gq with Gq|Gq
 ·exact eA it Gq
 ·exact je it Gq
end
variable {P:Program} {o:Oper} {g:Bool} {σ:St} {n:Nat} {K:fW→Prop}
section
variable {B:Nat→Prop} {w0:World} {a4:Nat→Prop} {φ:c1} {kp:List (V×Value)} {a:Act} {w:World} {σ:St}
end
section
variable {P:Program} {o:Oper} {g:Bool} {σ:St} {n:Nat} {K:fW→Prop}
end
variable {P:Program} {o:Oper} {g:Bool} {σ:St} {n:Nat} {K:fW→Prop}
def y'(r:Option (Prop×fW))(K:fW→Prop):Prop:=match r with|some (p,r)=>p∧K r|none=>False
def Om(r:Option Nat)(K:Nat→Prop):Prop:=match r with|some m=>K m|none=>False
def ay(P:Program)(f:FuncId)(as:Option (List AD))(_:List H)(_:List V)(n:Nat)(K:fW→Prop):Prop:=
 (∃za rs,as=some za∧PureCall P f za rs∧K ⟨oI rs n,aHs rs,[]⟩)∨
 (∃za rs,as=some za∧PureCall P f za rs∧K ⟨oI rs n,(aHs rs).map H.toCln,[]⟩)
theorem ay.intro{f:FuncId}{as rs:List AD}{hs:List H}{vs:List V}(h:PureCall P f as rs)(hk:K ⟨oI rs n,aHs rs,[]⟩):ay P f (some as) hs vs n K:=.inl ⟨as,rs,rfl,h,hk⟩
def fnE(v:V)(K:FuncId→List V→Prop):Prop:=match v with|.fn f fX=>K f fX|_=>False
theorem Vr{v:V}{K:FuncId→List V→Prop}(h:fnE v K):∃f fX,v=.fn f fX∧K f fX:=by
 unfold fnE at h;split at h
 ·exact⟨_,_,rfl,h⟩
 ·exact h.elim
def callE(P:Program)(g:Bool)(σ:St)(n:Nat)(c:Callee)(xs:List Operand)(ts:List TypeId)(K:fW→Prop):Prop:=
 match c,xs,ts with
 |.builtin .len,[x],[T]=>evg g (σ.ev x) fun a=>Om (lenE P T a) fun m=>K (dn (qs .i64 m))
 |.builtin .append,[x,y],[T,U]=>T=U∧evg g (σ.ev x) fun a=>evg g (σ.ev y) fun b=>y' (apE P σ.heap T a b n) K
 |.builtin .min,[x,y],[_,_]=>evg g (σ.ev x) fun a=>evg g (σ.ev y) fun b=>asI a fun k i=>asI b fun ko j=>k=ko∧K (dn (qs k (if j<i then j else i)))
 |.builtin .max,[x,y],[_,_]=>evg g (σ.ev x) fun a=>evg g (σ.ev y) fun b=>asI a fun k i=>asI b fun ko j=>k=ko∧K (dn (qs k (if j>i then j else i)))
 |.value (.func f),xs,_=>evs g σ xs fun vs=>ay P f (toADs σ.heap vs) σ.heap vs n K
 |.value x,xs,_=>evg g (σ.ev x) fun zb=>fnE zb fun f fX=>fX=[]∧evs g σ xs fun vs=>ay P f (toADs σ.heap vs) σ.heap vs n K
 |_,_,_=>False
def opE(P:Program)(g:Bool)(σ:St)(n:Nat)(o:Oper)(K:fW→Prop):Prop:=
 match o.op with
 |.move x=>evg g (σ.ev x) fun v=>K (dn (lK P o.type v))
 |.assign x=>evg g (σ.ev x) fun v=>K (dn (lK P o.type v))
 |.pick c x y=>Cc g (σ.ev c) (σ.ev x) (σ.ev y) fun v=>K (dn v)
 |.binOp op T x y _=>evg g (σ.ev x) fun a=>evg g (σ.ev y) fun b=>withR (binE P op T a b) fun v=>K (dn v)
 |.unOp op _ x=>evg g (σ.ev x) fun a=>withO (unE op a) fun v=>K (dn v)
 |.extract x i=>evg g (σ.ev x) fun a=>withO (extE a i) fun v=>K (dn v)
 |.nilCheck x=>evg g (σ.ev x) fun a=>ptrE a=true∧K (dn a)
 |.fieldAddr S x f=>evg g (σ.ev x) fun a=>withO (faE P S f a) fun v=>K (dn v)
 |.indexAddr T x kE=>evg g (σ.ev x) fun a=>evg g (σ.ev kE) fun b=>asI b fun _ i=>withR (iaE P σ.heap T a i) fun v=>K (dn v)
 |.load T x=>evg g (σ.ev x) fun a=>withR (loadE P σ.heap T a) fun v=>K (dn v)
 |.index T x kE=>evg g (σ.ev x) fun a=>evg g (σ.ev kE) fun b=>asI b fun _ i=>withR (ixE P T a i) fun v=>K (dn v)
 |.slice T x cU hi none=>evg g (σ.ev x) fun a=>bndE g σ 0 cU fun l=>bndE g σ (D0 a) hi fun h=>withR (cutE P σ.heap T a l h) fun v=>K (dn v)
 |.convert ob dst x=>evg g (σ.ev x) fun a=>withR (cvE P σ.heap ob dst a) fun v=>K (dn v)
 |.build T gR=>evParts g σ gR.toList fun ps=>withO (bldE P T ps) fun v=>K (dn v)
 |.alloc T=>withO ((zrI P T).map V.agg) fun v=>K ⟨.ptr n 0 0,[.box v.cells],[]⟩
 |.box _ x=>evg g (σ.ev x) fun v=>v.xO=true∧K ⟨.ptr n 0 0,[.box v.cells],[]⟩
 |.store T p x=>evg g (σ.ev p) fun q=>evg g (σ.ev x) fun v=>y' ((storeE P σ.heap T q (lK P T v)).map fun(c,upd)=>(c,⟨.al,[],upd⟩)) K
 |.buildSlice T len gR=>evParts g σ gR.toList fun ps=>y' (bsE P σ.heap T len ps n) K
 |.makeSlice T x y=>x=y∧evg g (σ.ev x) fun v=>asI v fun _ i=>y' (mkE P T i n) K
 |.makeFunc (.func f) ys fX=>ys.toList=[]∧evs g σ fX.toList fun vs=>K (dn (.fn f vs))
 |.call c=>callE P g σ n c.callee c.args.toList c.argTypes.toList K
 |_=>False
theorem Vs{g:Bool}{v:V}{K iC:V→Prop}(h:evg g v K)(hk:∀v,K v→iC v):evg g v iC:=by
 unfold evg at *;split at h
 ·exact⟨h.1,hk _ h.2⟩
 ·exact hk _ h
theorem Vt{α:Type}{a:Array α}{x:α}(h:a.toList=[x]):a=#[x]:=by rw[←Array.toArray_toList (xs:=a),h]
theorem D1{α:Type}{a:Array α}{x y:α}(h:a.toList=[x,y]):a=#[x,y]:=by rw[←Array.toArray_toList (xs:=a),h]
theorem aeF{c:Call}(aJ:o.op=.call c)(h:callE P g σ n c.callee c.args.toList c.argTypes.toList K):∃r,i2 P o g σ n r∧K r:=by
 obtain⟨ao6,xs,ts⟩:=c;simp only at h;unfold callE at h;split at h
 ·rename_i x T h1 h2;refine ok_len aJ (x:=x) (T:=T) (by rw[Vt h1,Vt h2]) h
 ·rename_i x y T U h1 h2;obtain⟨rfl,h⟩:=h;exact ok_append aJ (x:=x) (y:=y) (T:=T) (by rw[D1 h1,D1 h2]) h
 ·rename_i x y T U h1 h2;exact aeG aJ (x:=x) (y:=y) (T:=T) (U:=U) (by rw[D1 h1,D1 h2]) h
 ·rename_i x y T U h1 h2;exact aeH aJ (x:=x) (y:=y) (T:=T) (U:=U) (by rw[D1 h1,D1 h2]) h
 ·obtain⟨vs,h,hx⟩:=Gr _ _ h;rcases h with ⟨as,rs,h1,h2,ao⟩|⟨as,rs,h1,h2,ao⟩
  ·exact Oh aJ rfl (fun _ _ _=>rfl) hx h1 h2 ao
  ·exact JR aJ rfl (fun _ _ _=>rfl) hx h1 h2 ao
 ·rename_i x _;obtain⟨zb,h',hf⟩:=hT h;obtain⟨f,fX,rfl,h'⟩:=Vr h';clear h;obtain⟨rfl,h⟩:=h';have D2:∀{σ':St} {B:Nat→Prop} {w0:World} {a4:Nat→Prop} {φ:c1} {kp:List (V×Value)} {a:Act} {w:World},σ.le σ'→R B w0 a4 φ σ' kp a w→g=true→a.eval x=.func (.func f) #[] #[]:=by
   intro σ' B w0 a4 φ kp a w bt bj hg;have:=hf _ _ _ _ hg (g_ bt bj x);simp only[VRel]at this;obtain⟨us,e,ar⟩:=this;simp only[VRels]at ar;rw[e];congr 1;exact Array.toList_eq_nil_iff.1 ar
  obtain⟨vs,h,hx⟩:=Gr _ _ h;rcases h with ⟨as,rs,h1,h2,ao⟩|⟨as,rs,h1,h2,ao⟩
  ·exact Oh aJ rfl D2 hx h1 h2 ao
  ·exact JR aJ rfl D2 hx h1 h2 ao
 ·exact h.elim
theorem D3(h:opE P g σ n o K):∃r,i2 P o g σ n r∧K r:=by
 unfold opE at h;split at h
 case h_1 x aJ=>exact Vu (.inl aJ) h
 case h_2 x aJ=>exact Vu (.inr aJ) h
 case h_3 c x y aJ=>exact aeI aJ h
 case h_4 op T x y hS aJ=>exact aeJ aJ h
 case h_5 op T x aJ=>exact aeK aJ h
 case h_6 x i aJ=>exact aeL aJ h
 case h_7 x aJ=>exact aeM aJ h
 case h_8 S x f aJ=>exact aeN aJ h
 case h_9 T x kE aJ=>exact aeO aJ h
 case h_10 T x aJ=>exact aeP aJ h
 case h_11 T x kE aJ=>exact aeQ aJ h
 case h_12 T x cU hi aJ=>exact aeR aJ h
 case h_13 ob dst x aJ=>exact aeS aJ h
 case h_14 T gR aJ=>exact aeT aJ h
 case h_15 T aJ=>
  refine ok_alloc aJ ?_
  cases hz:zrI P T with
  |none=>rw[hz]at h;exact h
  |some z=>rw[hz]at h;exact h
 case h_16 T x aJ=>exact aeU aJ h
 case h_17 T p x aJ=>
  refine ok_store aJ ?_;refine Vs h fun q h=>Vs h fun v h=>?_
  cases hs:storeE P σ.heap T q (lK P T v)with
  |none=>rw[hs]at h;exact h
  |some p=>rw[hs]at h;exact h
 case h_18 T len gR aJ=>exact ok_buildSlice aJ h
 case h_19 T x y aJ=>obtain⟨rfl,h⟩:=h;exact aeV aJ h
 case h_20 f ys fX aJ=>
  obtain⟨hy,h⟩:=h;have:ys=#[]:=by rw[←Array.toArray_toList (xs:=ys),hy]
  subst this;exact aeW aJ h
 case h_21 c aJ=>exact aeF aJ h
 case h_22=>exact h.elim
def vJ(P:Program)(g:Bool)(σ:St)(n:Nat)(o:Oper)(K:fW→Prop):Prop:=
 (g=true∧opE P true σ n o K)∨(g=false∧K (dn (.bU false (.d (.bool false)))))∨opE P g σ n o fun r=>r.new=[]∧r.upd=[]∧K (dn (.bU g r.v))
theorem aeX(h:opE P true σ n o K):vJ P true σ n o K:=.inl ⟨rfl,h⟩
theorem aeY(h:K (dn (.bU false (.d (.bool false))))):vJ P false σ n o K:=.inr (.inl ⟨rfl,h⟩)
theorem Vv(h:opE P g σ n o fun r=>r.new=[]∧r.upd=[]∧K (dn (.bU g r.v))):vJ P g σ n o K:=.inr (.inr h)
def stepE(P:Program)(aQ:List Oper)(σ:St)(n:Nat)(o:Oper)(K:fW→Prop):Prop:=
 match o.guard with
 |none=>opE P true σ n o K
 |some (j,ll)=>
  match(aQ[j]?).bind (·.dst)with
  |some d=>
   match σ.ev (.tmp d)with
   |.d (.bool b)=>vJ P (b == ll) σ n o K
   |.bU c (.d (.bool b))=>vJ P (c&&(b == ll)) σ n o K
   |_=>False
  |none=>False
def Jr(P:Program)(aQ:Array Oper)(o:Oper)(σ:St)(n:Nat)(r:fW):Prop:=
 ∀σ':St,σ.le σ'→(∀i,n≤i→i<n+r.new.length→a5 σ'.heap i=.eb)→
 ∀(B:Nat→Prop) (w0:World) (a4:Nat→Prop) (φ:c1) (kp:List (V×Value)) (a:Act) (w:World),(∀i,n≤i→i<n+r.new.length→¬a4 i)→R B w0 a4 φ σ' kp a w→
 ∀(K:Act→World→Prop) (Q:Exit→Act→World→Prop),
  (∀u w' dw,R B w0 (fun i=>a4 i∨(n≤i∧i<n+r.new.length)) dw (σ'.dM o.dst n r) kp (a.put o.dst u) w'→K (a.put o.dst u) w')→
  if Region.wanted o (yielded aQ a.tmps)then o.wp P a w K Q∨(o.asks P a w∧LetsOut Q)else K (a.put o.dst undef) w
theorem aeZ{B:Nat→Prop}{w0:World}{a4:Nat→Prop}{φ:c1}{σ:St}{kp:List (V×Value)}{a:Act}{w:World}(r:R B w0 a4 φ σ kp a w){ts:List V}(hl:ts.length=σ.tmps.length)
  (h:∀(t:Nat) (gS v:V) (u:Value),ts[t]?=some gS→σ.tmps[t]?=some v→VRel φ (c9 φ σ.heap) w.heap v u→VRel φ (c9 φ σ.heap) w.heap gS u):R B w0 a4 φ ⟨ts,σ.heap⟩ kp a w:=by
 refine⟨AL _ _ (by rw[lk _ _ r.iA,hl]) fun t gS u ag ar=>?_,r.kp,r.hp,r.dZ,r.gu,r.gZ,r.h7,r.g0,r.bs,r.oz,r.l4⟩;have hlt:t<σ.tmps.length:=by
  rcases Nat.lt_or_ge t ts.length with h|h
  ·omega
  ·rw[List.getElem?_eq_none h]at ag;cases ag
 obtain⟨xP,k1,k2⟩:=wQ _ _ r.iA t _ (cD hlt);rw[k1]at ar;cases ar;exact h t gS _ u ag (cD hlt) k2
theorem On{B:Nat→Prop}{w0:World}{a4:Nat→Prop}{φ:c1}{σ:St}{kp:List (V×Value)}{a:Act}{w:World}{dst:Option Tmp}{v:V}{n:Nat}{hs:List H}{upd:List (Nat×H)}(r:R B w0 a4 φ (σ.dM dst n ⟨v,hs,upd⟩) kp a w) :
  R B w0 a4 φ (σ.dM dst n ⟨.bU true v,hs,upd⟩) kp a w:=by
 cases dst with
 |none=>exact r
 |some d=>
  refine aeZ r (by simp[St.dM]) fun t gS ao7 u ag ar hr=>?_;simp only[St.dM,List.getElem?_set]at ag ar;by_cases h:d=t
  ·subst h;simp only[if_true]at ag ar;split at ag
   ·cases ag
    rw[if_pos ‹_›]at ar;cases ar;simp only[VRel];exact⟨fun _=>hr,fun h=>by cases h⟩
   ·cases ag
  ·simp only[h,if_false]at ag ar;rw[ag]at ar;cases ar;exact hr
theorem D4{B:Nat→Prop}{w0:World}{a4:Nat→Prop}{φ:c1}{σ σ':St}{kp:List (V×Value)}{a:Act}{w:World}(bt:σ.le σ')(r:R B w0 a4 φ σ' kp a w){d:Tmp}{v:V}(hv:σ.ev (.tmp d)=v)(aK:v≠.al) :
  ∃u,a.tmps[d]?=some u∧VRel φ (c9 φ σ'.heap) w.heap v u:=by
 have he:=bt.ev (.tmp d);rw[hv]at he;rcases he with h|h
 ·exact absurd h aK
 ·simp only[St.ev,j3]at h
  cases ht:σ'.tmps[d]? with
  |none=>rw[ht]at h;exact absurd h.symm aK
  |some gS=>
   rw[ht]at h;simp only[fh]at h;subst h;obtain⟨u,k1,k2⟩:=wQ _ _ r.iA d _ ht;rw[Array.getElem?_toList]at k1;exact⟨u,k1,k2⟩
theorem D5{φ:c1}{T:Nat→Prop}{h:Array Obj}(v:V):VRel φ T h (.bU false v) undef:=by
 simp only[VRel];exact⟨fun h=>(Bool.noConfusion h),fun _=>trivial⟩
theorem Vw{aQ:Array Oper}(hw:∀{σ':St} {B:Nat→Prop} {w0:World} {a4:Nat→Prop} {φ:c1} {kp:List (V×Value)} {a:Act} {w:World},σ.le σ'→R B w0 a4 φ σ' kp a w→Region.wanted o (yielded aQ a.tmps)=g)
  (h:vJ P g σ n o K):∃r,Jr P aQ o σ n r∧K r:=by
 rcases h with ⟨rfl,h⟩|⟨rfl,h⟩|h
 ·obtain⟨r,h1,h2⟩:=D3 h;refine⟨r,fun σ' bt hd B w0 a4 φ kp a w lj bj pP q_ hk=>?_,h2⟩;rw[if_pos (hw bt bj)];exact .inl (h1 σ' bt hd B w0 a4 φ kp a w lj bj rfl pP q_ hk)
 ·refine⟨_,fun σ' bt hd B w0 a4 φ kp a w lj bj pP q_ hk=>?_,h⟩;rw[if_neg (by rw[hw bt bj];simp)];exact hk undef w φ (Oo (pc bj o.dst (D5 _)) fun i h=>.inl h)
 ·obtain⟨r,h1,h2,ao,aN⟩:=D3 h;refine⟨_,fun σ' bt hd B w0 a4 φ kp a w lj bj pP q_ hk=>?_,aN⟩;obtain⟨v,new,upd⟩:=r;simp only at h2 ao;subst h2;subst ao
  cases g with
  |true=>
   rw[if_pos (hw bt bj)];refine .inl (h1 σ' bt hd B w0 a4 φ kp a w lj bj rfl pP q_ fun u w' dw hr=>hk u w' dw ?_);exact On (σ:=σ') (v:=v) (dst:=o.dst) hr
  |false=>
   rw[if_neg (by rw[hw bt bj];simp)];exact hk undef w φ (Oo (pc bj o.dst (D5 v)) fun i h=>.inl h)
theorem ad4{aQ:Array Oper}(h:stepE P aQ.toList σ n o K):∃r,Jr P aQ o σ n r∧K r:=by
 unfold stepE at h;split at h
 ·rename_i hg;obtain⟨r,h1,h2⟩:=D3 h;refine⟨r,fun σ' bt hd B w0 a4 φ kp a w lj bj pP q_ hk=>?_,h2⟩;rw[if_pos (by simp[Region.wanted,hg])];exact .inl (h1 σ' bt hd B w0 a4 φ kp a w lj bj rfl pP q_ hk)
 ·rename_i j ll hg;split at h
  ·rename_i d hd;rw[Array.getElem?_toList]at hd;split at h
   ·rename_i b hv;refine Vw (fun bt bj=>?_) h;obtain⟨u,k1,k2⟩:=D4 bt bj hv ξ;rw[oA k2]at k1;simp[Region.wanted,hg,yielded,hd,k1]
   ·rename_i c b hv;refine Vw (fun {σ' B w0 a4 φ kp a w} bt bj=>?_) h;obtain⟨u,k1,k2⟩:=D4 bt bj hv ξ;simp only[VRel]at k2
    cases c with
    |true=>
     rw[oA (φ:=φ) (T:=c9 φ σ'.heap) (h:=w.heap) (b:=b) (u:=u) (by simp only[VRel];exact k2.1 rfl)]at k1;simp[Region.wanted,hg,yielded,hd,k1]
    |false=>
     rw[k2.2 rfl]at k1;simp[Region.wanted,hg,yielded,hd,k1,undef]
   ·exact h.elim
  ·exact h.elim
def AM(v:V)(ll:Bool)(K:Bool→Prop):Prop:=
 match v with
 |.d (.bool b)=>K (b == ll)
 |.bU c (.d (.bool b))=>K (c&&(b == ll))
 |_=>False
def xQ(aQ:List Oper)(j:Nat)(K:Tmp→Prop):Prop:=match(aQ[j]?).bind (·.dst)with|some d=>K d|none=>False
def fS(B:Nat→Prop)(w0:World)(kp:List (V×Value))(σ:St)(a:Act)(w:World):Prop:=∃a4 φ,R B w0 a4 φ σ kp a w∧∀i,a4 i→i<σ.heap.length
def d6(P:Program)(f:FuncId)(kv:List V)(hs:List H)(vs:List V)(K:V→List H→Prop):Prop:=
 ∀(B:Nat→Prop) (w0:World) (kp:List (V×Value)) (us:List Value) (w:World),kp.map (·.1)=kv→fS B w0 kp ⟨vs,hs⟩ ⟨us.toArray,[]⟩ w→
  Does P f us.toArray w fun v w'=>∃x hs',K x hs'∧fS B w0 kp ⟨[x],hs'⟩ ⟨#[v],[]⟩ w'
def fM(ts:List V)(dst:Option Tmp)(v:V):List V:=match dst with|some d=>ts.set d v|none=>ts
theorem Gt(hs:List H)(i:Nat)(x:H):hs.length≤(cO hs i x).length∧i<(cO hs i x).length:=by
 unfold cO;split
 ·rename_i h;simp[h]
 ·rename_i h;simp;omega
theorem Gb:∀(xs:List H) (hs:List H) (n:Nat),hs.length≤(hnew hs n xs).length∧(xs=[]∨n+xs.length≤(hnew hs n xs).length)
 |[],hs,n=>⟨fE _,.inl rfl⟩
 |x::xs,hs,n=>by
  have h1:=Gt hs n x;have h2:=Gb xs (cO hs n x) (n+1);simp only[hnew,dA];refine⟨by omega,.inr ?_⟩;rcases h2.2 with rfl|h
  ·simp only[hnew,eI];omega
  ·omega
theorem Jw:∀(upd:List (Nat×H)) (hs:List H),hs.length≤(hupd hs upd).length
 |[],hs=>fE _
 |(i,x)::r,hs=>by
  have h1:=Gt hs i x;have h2:=Jw r (cO hs i x);simp only[hupd];omega
theorem zc{hs:List H}{i:Nat}(h:hs.length≤i):a5 hs i=.eb:=by
 unfold a5;rw[j3,List.getElem?_eq_none h];rfl
theorem Vx{h:Array Obj}{o:Bool}{b:Nat}:∀(ds:List D) (f:Nat) (G:List Nat),repC h o b f ds G→∃us:List Value,reps h o ds us G∧∀(j:Nat) (u:Value),us[j]?=some u→cellAt h b (f+j)=some u
 |[],f,G,r=>by simp only[repC]at r;exact⟨[],⟨rfl,r⟩,by simp⟩
 |d::ds,f,G,r=>by
  simp only[repC]at r;obtain⟨v,cy,cl,rfl,ar,ba,bF⟩:=r;obtain⟨us,k1,k2⟩:=Vx ds (f+1) cl bF;refine⟨v::us,⟨v,us,cy,cl,rfl,rfl,ba,k1⟩,fun j u aK=>?_⟩
  cases j with
  |zero=>simp at aK;subst aK;simpa using ar
  |succ j=>rw[show f+(j+1)=f+1+j from by omega];exact k2 j u (by simpa using aK)
theorem ae0{B:Nat→Prop}{w0:World}{kp:List (V×Value)}{σ:St}{a:Act}{w:World}(r:fS B w0 kp σ a w){id cx sz:Nat}{xs:List (List D)}{c:List D}(hx:a5 σ.heap id=.aj sz xs)(hc:xs[cx]?=some c) :
  fS B w0 kp ⟨σ.tmps,hnew (cO σ.heap id (.hN sz (xs.take cx) (rVs c σ.heap.length) (xs.drop (cx+1)))) σ.heap.length (rHs c)⟩ a w:=by
 obtain⟨a4,φ,r,b5⟩:=r;have ao8:id<σ.heap.length:=by
  rcases Nat.lt_or_ge id σ.heap.length with h|h
  ·exact h
  ·rw[zc h]at hx;cases hx
 have hlt:cx<xs.length:=(List.getElem?_eq_some_iff.1 hc).1;rcases r.hp id with hd|⟨β,ag,hr⟩
 ·rw[hx]at hd;cases hd
 rw[hx]at hr;simp only[fk]at hr;obtain⟨d',hr⟩:=hr;rcases hr with hr|⟨b,aY,bn,dg,dz⟩
 ·rw[hr.2.1]at hlt;simp at hlt
 obtain⟨cy,pd,cl,b7,xR,zd,JT,Cd⟩:=Gu dz hc;obtain⟨us,f0,jA⟩:=Vx _ _ _ JT;obtain⟨bl,⟨jy,j5,y3,Ji⟩,hv⟩:=Od c us pd f0;have jd:=r.gu id β ag (by rw[hx];rfl);rw[b7]at jd;have ze:pd.Nodup:=by
  have:=jd.1;rw[List.nodup_append]at this;have:=this.2.1;rw[List.nodup_append]at this;exact this.1
 have ae1:(cy++cl).Nodup:=by
  have:=jd.1;simp only[List.nodup_append,fi]at this⊢;grind
 have Vy:∀x∈pd,x∉cy∧x∉cl:=by
  have:=jd.1;simp only[List.nodup_append,fi]at this;grind
 let n:=σ.heap.length
 let dw:c1:=fun i=>if i=id then some {β with d7:=cy++cl}else if n≤i∧i<n+(rHs c).length then bl[i-n]? else φ i
 have DY:∀i,n≤i→φ i=none:=fun i h=>by
  cases h':φ i with
  |none=>rfl
  |some β=>have:=b5 i (r.h7 i β h');omega
 have AN:dw id=some {β with d7:=cy++cl}:=if_pos rfl;have JU:∀i,n≤i∧i<n+(rHs c).length→dw i=bl[i-n]?:=fun i h=>by
  show(if i=id then _ else _)=_
  rw[if_neg ω,if_pos h]
 have Oq:∀i,i≠id→¬(n≤i∧i<n+(rHs c).length)→dw i=φ i:=fun i h1 h2=>by
  show(if i=id then _ else _)=_
  rw[if_neg h1,if_neg h2]
 have Gw:a5 (hnew (cO σ.heap id (.hN sz (xs.take cx) (rVs c σ.heap.length) (xs.drop (cx+1)))) σ.heap.length (rHs c)) id=.hN sz (xs.take cx) (rVs c σ.heap.length) (xs.drop (cx+1)):=by
  rw[B5,if_neg ω,jz,if_pos rfl]
 have Vz:∀i,n≤i∧i<n+(rHs c).length→∃x,(rHs c)[i-n]?=some x∧a5 (hnew (cO σ.heap id (.hN sz (xs.take cx) (rVs c σ.heap.length) (xs.drop (cx+1)))) σ.heap.length (rHs c)) i=x:=by
  intro i h;have hl:i-n<(rHs c).length:=by omega
  refine⟨(rHs c)[i-n],cD hl,?_⟩;rw[B5,if_pos h,j3,cD hl];rfl
 have VA:∀i,i≠id→¬(n≤i∧i<n+(rHs c).length)→a5 (hnew (cO σ.heap id (.hN sz (xs.take cx) (rVs c σ.heap.length) (xs.drop (cx+1)))) σ.heap.length (rHs c)) i=a5 σ.heap i:=by
  intro i h1 h2;rw[B5,if_neg h2,jz,if_neg h1]
 have hA:q' dw n bl:=fun i bI e=>by
  have hl:i<bl.length:=by
   rcases Nat.lt_or_ge i bl.length with h|h
   ·exact h
   ·rw[List.getElem?_eq_none h]at e;cases e
  rw[JU (n+i) ⟨by omega,by omega⟩,Nat.add_sub_cancel_left];exact e
 have JV:∀(i:Nat) (bI:il) (g:Nat),bl[i]?=some bI→g∈m_ bI→g∈pd:=fun i bI g h1 h2=>by rw[←j5];exact List.mem_flatMap.2 ⟨bI,List.mem_of_getElem? h1,h2⟩
 generalize Ot:hnew (cO σ.heap id (.hN sz (xs.take cx) (rVs c σ.heap.length) (xs.drop (cx+1)))) σ.heap.length (rHs c)=hs' at Gw Vz VA⊢;have kn:∀i,(i=id∨(n≤i∧i<n+(rHs c).length))→∀g,dS dw hs' i g→(i=id∧(g=b∨g∈cy++cl))∨(i≠id∧∃bI,bl[i-n]?=some bI∧g∈m_ bI):=by
  rintro i hi g ⟨bI,ar,aJ⟩;by_cases od:i=id
  ·subst od;rw[AN]at ar;cases ar;refine .inl ⟨rfl,?_⟩;rcases aJ with ⟨_,aJ⟩|⟨_,aJ⟩
   ·simp only[aY,b4]at aJ;exact .inl aJ.symm
   ·exact .inr aJ
  ·have hi:=hi.resolve_left od;rw[JU i hi]at ar;refine .inr ⟨od,bI,ar,?_⟩;unfold m_;rcases aJ with ⟨_,aJ⟩|⟨_,aJ⟩<;>simp[aJ]
 have D6:∀g,(g=b∨g∈β.d7)→dS φ σ.heap id g:=by
  intro g hg;rcases hg with rfl|hg
  ·exact⟨β,ag,.inl ⟨by rw[hx];rfl,aY⟩⟩
  ·exact⟨β,ag,.inr ⟨by rw[hx];rfl,hg⟩⟩
 have ae2:∀g,(g=b∨g∈β.d7)→l8 (a5 σ.heap id) β g:=by
  intro g hg;rw[hx];rcases hg with rfl|hg
  ·exact .inl ⟨rfl,aY⟩
  ·exact .inr ⟨rfl,hg⟩
 have wP:∀g,(g∈cy++cl∨g∈pd)→g∈β.d7:=by
  intro g hg;rw[b7];simp only[fi]at hg⊢;grind
 have bt:o4 φ dw:=fun i bI hi=>by
  by_cases h:i=id
  ·subst h;rw[ag]at hi;cases hi;exact⟨_,AN,rfl,rfl,rfl,rfl⟩
  ·have:¬(n≤i∧i<n+(rHs c).length):=fun h'=>by rw[DY i h'.1]at hi;cases hi
   exact⟨bI,by rw[Oq i h this];exact hi,rfl,rfl,rfl,rfl⟩
 refine⟨fun i=>a4 i∨(n≤i∧i<n+(rHs c).length),dw,y_ r (fun i=>i=id∨(n≤i∧i<n+(rHs c).length)) _ dw hs' w (fun i hi=>⟨VA i (fun h=>hi (.inl h)) (fun h=>hi (.inr h)),Oq i (fun h=>hi (.inl h)) (fun h=>hi (.inr h))⟩) bt (fE _) (fun _ _ _=>rfl)
  (fun i hi g aJ=>?_) (fun i hi bI ar g ht=>?_) (fun i j g hi aK h1 h2=>?_) (fun i bI hi ar _=>?_) (fun i hi=>?_) (fun i bI ar=>?_) r.g0,fun i hi=>?_⟩
 ·right;refine⟨id,.inl rfl,D6 g ?_⟩;rcases kn i hi g aJ with ⟨_,h|h⟩|⟨_,bI,h1,h2⟩
  ·exact .inl h
  ·exact .inr (wP g (.inl h))
  ·exact .inr (wP g (.inr (JV _ bI g h1 h2)))
 ·right;refine⟨id,β,.inl rfl,ag,ae2 g ?_⟩;rcases kn i hi g (l8.zf ar ht)with ⟨_,h|h⟩|⟨_,bI,h1,h2⟩
  ·exact .inl h
  ·exact .inr (wP g (.inl h))
  ·exact .inr (wP g (.inr (JV _ bI g h1 h2)))
 ·have lP:b∉pd:=fun h=>jd.2 b aY (by simp[h]);rcases kn i hi g h1 with ⟨bD,bX⟩|⟨bD,VB,bX,bu⟩<;>rcases kn j aK g h2 with ⟨eY,eK⟩|⟨eY,lf,eK,jl⟩
  ·rw[bD,eY]
  ·exfalso;have:=JV _ lf g eK jl;rcases bX with rfl|bX
   ·exact lP this
   ·have b6:=Vy g this;rcases fi.1 bX with h|h
    ·exact b6.1 h
    ·exact b6.2 h
  ·exfalso;have:=JV _ VB g bX bu;rcases eK with rfl|eK
   ·exact lP this
   ·have b6:=Vy g this;rcases fi.1 eK with h|h
    ·exact b6.1 h
    ·exact b6.2 h
  ·have:=Vj bl j5 ze _ _ VB lf g bX eK bu jl;have hi:=hi.resolve_left bD;have aK:=aK.resolve_left eY;omega
 ·by_cases od:i=id
  ·subst od;rw[AN]at ar;cases ar;refine⟨ae1,fun g hg oK=>jd.2 g hg ?_⟩;simp only[fi]at oK⊢;grind
  ·have hi:=hi.resolve_left od;rw[JU i hi]at ar;have:=Vk bl j5 ze bI (List.mem_of_getElem? ar);unfold m_ at this;rw[List.nodup_append]at this;exact⟨this.2.1,fun g hg oK=>this.2.2 g (by simp[hg]) g oK rfl⟩
 ·right;by_cases od:i=id
  ·subst od;refine⟨_,AN,?_⟩;rw[Gw];have nJ:(xs.take cx).length=cx:=by simp;omega
   have hV:=hv dw n (c9 dw hs') hA;refine⟨d',?_,b,cy,cl,us,aY,by rw[nJ,List.length_drop];show cx+1+(xs.length-(cx+1))≤β.cap;omega,dg,rfl,zd,hV,fun j u aK=>?_,?_⟩
   ·rw[←lk _ _ hV,D7 _ _ _ f0];exact xR
   ·rw[nJ];exact jA j u aK
   ·rw[nJ];exact Cd
  ·have hi:=hi.resolve_left od;obtain⟨x,h1,h2⟩:=Vz i hi;have hl:i-n<bl.length:=by omega
   refine⟨bl[i-n],by rw[JU i hi];exact cD hl,?_⟩;rw[h2];exact y3 _ _ _ (cD hl) h1 _ _
 ·by_cases od:i=id
  ·subst od;exact .inl (r.h7 i β ag)
  ·by_cases h:n≤i∧i<n+(rHs c).length
   ·exact .inr h
   ·rw[Oq i od h]at ar;exact .inl (r.h7 i bI ar)
 ·show i<hs'.length
  rw[←Ot];have k1:=Gb (rHs c) (cO σ.heap id (.hN sz (xs.take cx) (rVs c σ.heap.length) (xs.drop (cx+1)))) σ.heap.length;have k2:=Gt σ.heap id (.hN sz (xs.take cx) (rVs c σ.heap.length) (xs.drop (cx+1)));rcases hi with hi|hi
  ·have:=b5 i hi;omega
  ·rcases k1.2 with h|h
   ·rw[h]at hi;simp at hi;omega
   ·omega
theorem ae3{B:Nat→Prop}{w0:World}{kp:List (V×Value)}{σ:St}{a:Act}{w:World}(r:fS B w0 kp σ a w){id sz:Nat}{pre post:List (List D)}{cells:List V}{ds:List D}{cz:List Nat}(hx:a5 σ.heap id=.hN sz pre cells post)(hd:toDs σ.heap cells=some (ds,cz))(hn:cz.Nodup)
  (hf:∀i∈cz,∃s ys,a5 σ.heap i=.ah s ys true∧ig ys=true):fS B w0 kp ⟨σ.tmps,hupd (cO σ.heap id (.aj sz (pre++ds::post))) (cz.map fun i=>(i,H.eb))⟩ a w:=by
 obtain⟨a4,φ,r,b5⟩:=r;rcases r.hp id with jY|⟨β,ag,hr⟩
 ·rw[hx]at jY;cases jY
 rw[hx]at hr;simp only[fk]at hr;obtain⟨d',hcl,b,cy,cl,us,aY,bn,dg,dz,gb,jB,xS,AO⟩:=hr;obtain⟨kq,fw,fH,h4,kF⟩:=JW r _ _ _ _ hd hn jB;have jd:=r.gu id β ag (by rw[hx];rfl);have Ou:id∉cz:=fun h=>by
  obtain⟨s,ys,h1,_⟩:=hf id h;rw[hx]at h1;cases h1
 have D6:∀g,(g=b∨g∈β.d7)→dS φ σ.heap id g:=by
  intro g hg;rcases hg with rfl|hg
  ·exact⟨β,ag,.inl ⟨by rw[hx];rfl,aY⟩⟩
  ·exact⟨β,ag,.inr ⟨by rw[hx];rfl,hg⟩⟩
 have ae4:∀i∈cz,∀bI,φ i=some bI→bI.d7=[]:=by
  intro i hi bI e;obtain⟨s,ys,h1,h2⟩:=hf i hi;rcases r.hp i with jY|⟨lf,ar,hr⟩
  ·rw[h1]at jY;cases jY
  ·rw[e]at ar;cases ar;obtain⟨_,hr⟩:=Of (by rw[h1];rfl) hr;rcases hr with hr|⟨_,_,_,_,hr⟩
   ·exact hr.2.2.2
   ·exact Nb _ _ _ _ h2 hr
 have ae5:∀g∈kq,∃i∈cz,∃bI,φ i=some bI∧l8 (a5 σ.heap i) bI g:=by
  intro g hg;obtain⟨i,f2,bI,ar,dG⟩:=h4 g hg;refine⟨i,f2,bI,ar,?_⟩;rcases dG with dG|⟨_,dG⟩
  ·exact .inl dG
  ·rw[ae4 i f2 bI ar]at dG;cases dG
 have Ov:∀g∈kq,g≠b∧g∉β.d7:=by
  intro g hg;obtain⟨i,f2,dG⟩:=h4 g hg;constructor
  ·intro h;exact Ou (r.dZ i id g dG (D6 g (.inl h))▸f2)
  ·intro h;exact Ou (r.dZ i id g dG (D6 g (.inr h))▸f2)
 have hin:∀i∈cz,a5 (hupd (cO σ.heap id (.aj sz (pre++ds::post))) (cz.map fun i=>(i,H.eb))) i=.eb:=by
  intro i hi;rcases xT (cz.map fun i=>(i,H.eb)) (cO σ.heap id (.aj sz (pre++ds::post))) i with ⟨x,h1,h2⟩|⟨h1,_⟩
  ·obtain⟨j,_,aK⟩:=List.mem_map.1 h1;simp only[dL]at aK;rw[h2,←aK.2]
  ·exact absurd (List.mem_map.2 ⟨i,hi,rfl⟩) (h1 .eb)
 have Gw:a5 (hupd (cO σ.heap id (.aj sz (pre++ds::post))) (cz.map fun i=>(i,H.eb))) id=.aj sz (pre++ds::post):=by
  rcases xT (cz.map fun i=>(i,H.eb)) (cO σ.heap id (.aj sz (pre++ds::post))) id with ⟨x,h1,_⟩|⟨_,h2⟩
  ·obtain⟨j,Ow,aK⟩:=List.mem_map.1 h1;simp only[dL]at aK;exact absurd (aK.1▸Ow) Ou
  ·rw[h2,jz,if_pos rfl]
 have oJ:∀i,i≠id→i∉cz→a5 (hupd (cO σ.heap id (.aj sz (pre++ds::post))) (cz.map fun i=>(i,H.eb))) i=a5 σ.heap i:=by
  intro i h1 h2;rcases xT (cz.map fun i=>(i,H.eb)) (cO σ.heap id (.aj sz (pre++ds::post))) i with ⟨x,ao,_⟩|⟨_,ao⟩
  ·obtain⟨j,Ow,aK⟩:=List.mem_map.1 ao;simp only[dL]at aK;exact absurd (aK.1▸Ow) h2
  ·rw[ao,jz,if_neg h1]
 have AH:(cy++(kq++cl)).Nodup:=by
  have h1:=jd.1;rw[dz]at h1 Ov;simp only[List.nodup_append,fi]at h1 Ov⊢;grind
 have wb:ds.length=sz:=by rw[←D7 _ _ _ fw,lk _ _ jB];exact hcl
 have bt:o4 φ (ec φ id {β with d7:=cy++(kq++cl)}):=fun i bI hi=>by
  by_cases h:i=id
  ·subst h;rw[ag]at hi;cases hi;exact⟨{β with d7:=cy++(kq++cl)},by simp[ec],rfl,rfl,rfl,rfl⟩
  ·exact⟨bI,by simp[ec,h,hi],rfl,rfl,rfl,rfl⟩
 have AN:ec φ id {β with d7:=cy++(kq++cl)} id=some {β with d7:=cy++(kq++cl)}:=by simp[ec]
 generalize Ot:hupd (cO σ.heap id (.aj sz (pre++ds::post))) (cz.map fun i=>(i,H.eb))=hs' at hin Gw oJ⊢;have kn:∀i,(i=id∨i∈cz)→∀g,dS (ec φ id {β with d7:=cy++(kq++cl)}) hs' i g→i=id∧(g=b∨g∈β.d7∨g∈kq):=by
  rintro i hi g ⟨bI,ar,aJ⟩;by_cases od:i=id
  ·subst od;rw[AN]at ar;cases ar;refine⟨rfl,?_⟩;rcases aJ with ⟨_,aJ⟩|⟨_,aJ⟩
   ·simp only[aY,b4]at aJ;exact .inl aJ.symm
   ·rw[dz];simp only[fi]at aJ⊢;grind
  ·have hi:=hi.resolve_left od;rw[hin i hi]at aJ;rcases aJ with ⟨aJ,_⟩|⟨aJ,_⟩<;>cases aJ
 refine⟨a4,ec φ id {β with d7:=cy++(kq++cl)},y_ r (fun i=>i=id∨i∈cz) _ _ hs' w (fun i hi=>⟨oJ i (fun h=>hi (.inl h)) (fun h=>hi (.inr h)),if_neg (fun h=>hi (.inl h))⟩) bt (fE _) (fun _ _ _=>rfl)
  (fun i hi g aJ=>?_) (fun i hi bI ar g ht=>?_) (fun i j g hi aK h1 h2=>?_) (fun i bI hi ar _=>?_) (fun i hi=>?_) (fun i bI ar=>?_) r.g0,fun i hi=>?_⟩
 ·right;obtain⟨_,h⟩:=kn i hi g aJ;rcases h with h|h|h
  ·exact⟨id,.inl rfl,D6 g (.inl h)⟩
  ·exact⟨id,.inl rfl,D6 g (.inr h)⟩
  ·obtain⟨j,Gx,Ox⟩:=h4 g h;exact⟨j,.inr Gx,Ox⟩
 ·right;obtain⟨_,h⟩:=kn i hi g (l8.zf ar ht);rcases h with h|h|h
  ·exact⟨id,β,.inl rfl,ag,by rw[hx];exact .inl ⟨rfl,by rw[aY,h]⟩⟩
  ·exact⟨id,β,.inl rfl,ag,by rw[hx];exact .inr ⟨rfl,h⟩⟩
  ·obtain⟨j,Gx,lf,Ox,ae6⟩:=ae5 g h;exact⟨j,lf,.inr Gx,Ox,ae6⟩
 ·rw[(kn i hi g h1).1,(kn j aK g h2).1]
 ·rcases hi with rfl|hi
  ·rw[AN]at ar;cases ar;refine⟨AH,fun g hg oK=>?_⟩;have b6:=jd.2 g hg;rw[dz]at b6;simp only[aY,b4]at hg;have dP:g∈kq→False:=fun h=>(Ov g h).1 hg.symm;simp only[fi]at oK b6;grind
  ·rename_i aJ;rw[hin i hi]at aJ;cases aJ
 ·rcases hi with rfl|hi
  ·right;refine⟨_,AN,?_⟩;rw[Gw];refine⟨d',.inr ⟨b,aY,by simp only[dY,dA];show pre.length+(post.length+1)≤β.cap;omega,dg,?_⟩⟩;refine(repE_append _ _ _ _).2 ⟨cy,kq++cl,rfl,gb,?_⟩;simp only[repE];refine⟨kq,cl,rfl,wb,Gy _ _ _ _ fw xS,?_⟩;have:β.off+pre.length * sz+sz=β.off+(pre.length+1) * sz:=by rw[Nat.add_mul];omega
   rw[this];exact AO
  ·exact .inl (hin i hi)
 ·by_cases od:i=id
  ·subst od;exact r.h7 i β ag
  ·exact r.h7 i bI (by simpa [ec,od]using ar)
 ·show i<hs'.length
  rw[←Ot];have k1:=Jw (cz.map fun i=>(i,H.eb)) (cO σ.heap id (.aj sz (pre++ds::post)));have k2:=Gt σ.heap id (.aj sz (pre++ds::post));have:=b5 i hi;omega
def ra(σ σ':St):Prop:=σ'=σ∨
 (∃id cx sz xs c,a5 σ.heap id=.aj sz xs∧xs[cx]?=some c∧σ'=⟨σ.tmps,hnew (cO σ.heap id (.hN sz (xs.take cx) (rVs c σ.heap.length) (xs.drop (cx+1)))) σ.heap.length (rHs c)⟩)∨
 ∃id sz pre cells post ds cz,a5 σ.heap id=.hN sz pre cells post∧toDs σ.heap cells=some (ds,cz)∧cz.Nodup∧(∀i∈cz,∃s ys,a5 σ.heap i=.ah s ys true∧ig ys=true)∧σ'=⟨σ.tmps,hupd (cO σ.heap id (.aj sz (pre++ds::post))) (cz.map fun i=>(i,H.eb))⟩
theorem ra.refl(σ:St):ra σ σ:=.inl rfl
theorem JX{B:Nat→Prop}{w0:World}{kp:List (V×Value)}{σ σ':St}{a:Act}{w:World}(h:ra σ σ')(r:fS B w0 kp σ a w):fS B w0 kp σ' a w:=by
 rcases h with rfl|⟨id,cx,sz,xs,c,h1,h2,rfl⟩|⟨id,sz,pre,cells,post,ds,cz,h1,h2,ao,aN,rfl⟩
 ·exact r
 ·exact ae0 r h1 h2
 ·exact ae3 r h1 h2 ao aN
def AP:List V→List V→Prop
 |[],[]=>True
 |gS::vs',v::vs=>(gS=v∨gS=.al)∧AP vs' vs
 |_,_=>False
theorem VC:∀vs:List V,AP vs vs
 |[]=>trivial
 |_::vs=>⟨.inl rfl,VC vs⟩
theorem VD:∀{vs' vs:List V},AP vs' vs→vs'.length=vs.length
 |[],[],_=>rfl
 |_::_,[],h=>h.elim
 |[],_::_,h=>h.elim
 |_::vs',_::vs,h=>by simp[VD h.2]
theorem VE:∀{vs' vs:List V} {us:List Value} {p:V×Value},AP vs' vs→p∈vs'.zip us→p.1=.al∨p∈vs.zip us
 |[],_,us,p,_,hp=>by simp at hp
 |_::_,[],_,_,h,_=>h.elim
 |_::_,_::_,[],p,_,hp=>by simp at hp
 |gS::vs',v::vs,u::us,p,h,hp=>by
  simp only[List.zip_cons_cons,List.mem_cons]at hp⊢;rcases hp with rfl|hp
  ·rcases h.1 with e|e
   ·exact .inr (.inl (by rw[e]))
   ·exact .inl e
  ·rcases VE h.2 hp with e|e
   ·exact .inl e
   ·exact .inr (.inr e)
def hZ(dJ:List Nat):Nat→List V→List V
 |_,[]=>[]
 |i,v::vs=>(bif dJ.elem i then v else .al)::hZ dJ (i+1) vs
theorem Oy(dJ:List Nat):∀(i:Nat) (vs:List V),AP (hZ dJ i vs) vs
 |_,[]=>trivial
 |i,v::vs=>⟨by cases h:dJ.elem i<;>simp,Oy dJ (i+1) vs⟩
def ae(P:Program)(kv:List V)(σ:St)(dst:Option Tmp)(f:FuncId)(fX:List V)(AQ:Option (List AD))(vs:List V)(K:St→Prop):Prop:=
 (fX=[]∧((ay P f AQ σ.heap vs σ.heap.length fun r=>K (σ.dM dst σ.heap.length r))∨
  ∃as rs,AQ=some as∧PureCall P f as rs∧∃oL,ra (σ.dM dst σ.heap.length ⟨oI rs σ.heap.length,(aHs rs).map H.toCln,[]⟩) oL∧K oL))∨
 ∃ts,AP ts σ.tmps∧d6 P f (ts++kv) σ.heap (vs++fX) fun x hs=>K ⟨fM ts dst x,hs⟩
def bareE(P:Program)(kv:List V)(σ:St)(o:Oper)(K:St→Prop):Prop:=
 match o.op with
 |.call ⟨.value x,xs,_⟩=>evg true (σ.ev x) fun zb=>fnE zb fun f fX=>evs true σ xs.toList fun vs=>ae P kv σ o.dst f fX (toADs σ.heap vs) vs K
 |_=>opE P true σ σ.heap.length o fun r=>K (σ.dM o.dst σ.heap.length r)
def zg(P:Program)(kv:List V)(g:Bool)(σ:St)(o:Oper)(K:St→Prop):Prop:=
 vJ P g σ σ.heap.length o (fun r=>K (σ.dM o.dst σ.heap.length r))∨((g=true→bareE P kv σ o K)∧(g=false→K (σ.dM o.dst σ.heap.length (dn (.bU false (.d (.bool false)))))))
def wt(P:Program)(kv:List V)(aQ:List Oper)(σ:St)(o:Oper)(K:St→Prop):Prop:=
 match o.guard with
 |none=>bareE P kv σ o K
 |some (j,ll)=>xQ aQ j fun d=>AM (σ.ev (.tmp d)) ll fun g=>zg P kv g σ o K
def opsE(P:Program)(kv:List V)(aQ:List Oper):List Oper→St→(St→Prop)→Prop
 |[],σ,K=>K σ
 |o::bG,σ,K=>wt P kv aQ σ o fun σ'=>opsE P kv aQ bG σ' K
theorem ae7(σ:St)(dst:Option Tmp)(r:fW):σ.heap.length+r.new.length≤(σ.dM dst σ.heap.length r).heap.length:=by
 have h1:=Gb r.new σ.heap σ.heap.length;have h2:=Jw r.upd (hnew σ.heap σ.heap.length r.new);simp only[St.dM];rcases h1.2 with h|h
 ·have ao:=h1.1;rw[h]at h2 ao⊢;simp only[eI];omega
 ·omega
theorem Gz{a4:Nat→Prop}{σ:St}{dst:Option Tmp}{r:fW}(b5:∀i,a4 i→i<σ.heap.length)(i:Nat)(hi:a4 i∨(σ.heap.length≤i∧i<σ.heap.length+r.new.length)):i<(σ.dM dst σ.heap.length r).heap.length:=by
 have:=ae7 σ dst r;rcases hi with hi|hi
 ·have:=b5 i hi;omega
 ·omega
theorem ae8{B:Nat→Prop}{w0:World}{kp:List (V×Value)}{σ:St}{o:Oper}{K:St→Prop}{iC:Act→World→Prop}{Q:Exit→Act→World→Prop}{a:Act}{w:World}
  (h:opE P true σ σ.heap.length o fun r=>K (σ.dM o.dst σ.heap.length r)) (hr:fS B w0 kp σ a w) (hk:∀σ' u w',K σ'→fS B w0 kp σ' (a.put o.dst u) w'→iC (a.put o.dst u) w'):o.wp P a w iC Q:=by
 obtain⟨r,h1,h2⟩:=D3 h;obtain⟨a4,φ,bj,b5⟩:=hr;exact h1 σ (St.le.refl σ) (fun i hi _=>zc hi) B w0 a4 φ kp a w (fun i hi _ hd=>by have:=b5 i hd;omega) bj rfl iC Q fun u w' dw kj=>hk _ u w' h2 ⟨_,dw,kj,Gz b5⟩
theorem ae9{B:Nat→Prop}{w0:World}{kp:List (V×Value)}{σ:St}{a:Act}{w:World}{vs ts:List V}{us:List Value}(aK:AP ts σ.tmps)(hr:fS B w0 kp σ a w)(hv:∀a4 φ,R B w0 a4 φ σ kp a w→VRels φ (c9 φ σ.heap) w.heap vs us) :
  fS B w0 (ts.zip a.tmps.toList++kp) ⟨vs,σ.heap⟩ ⟨us.toArray,[]⟩ w:=by
 obtain⟨a4,φ,r,b5⟩:=hr;refine⟨a4,φ,⟨hv a4 φ r,fun p hp=>?_,r.hp,r.dZ,r.gu,r.gZ,r.h7,r.g0,r.bs,rfl,r.l4⟩,b5⟩;rcases fi.1 hp with hp|hp
 ·exact r.kp p (List.mem_append_left _ hp)
 rcases fi.1 hp with hp|hp
 ·rcases VE aK hp with e|hp
  ·rw[e];simp[VRel]
  obtain⟨j,aK,rfl⟩:=List.getElem_of_mem hp;have hl:=lk _ _ r.iA;simp only[List.length_zip]at aK;obtain⟨u,k1,k2⟩:=wQ _ _ r.iA j _ (cD ω);rw[cD ω]at k1;rw[List.getElem_zip]
  cases k1;exact k2
 ·exact r.kp p (List.mem_append_right _ hp)
theorem afa{B:Nat→Prop}{w0:World}{kp:List (V×Value)}{ts:List V}{us:Array Value}{hs:List H}{x:V}{v:Value}{w:World}(hl:us.toList.length=ts.length)(dst:Option Tmp)
  (hr:fS B w0 (ts.zip us.toList++kp) ⟨[x],hs⟩ ⟨#[v],[]⟩ w):fS B w0 kp ⟨fM ts dst x,hs⟩ ((Act.mk us []).put dst v) w:=by
 obtain⟨a4,φ,r,b5⟩:=hr;have ht:VRels φ (c9 φ hs) w.heap ts us.toList:=by
  refine AL _ _ hl fun t gS u ag ar=>?_;have hlt:t<ts.length:=(List.getElem?_eq_some_iff.1 ag).1;have:(gS,u)∈ts.zip us.toList:=by
   have ao:(ts.zip us.toList)[t]?=some (gS,u):=by rw[List.getElem?_zip_eq_some];exact⟨ag,ar⟩
   exact List.mem_of_getElem? ao
  exact r.kp _ (List.mem_append_right _ (List.mem_append_left _ this))
 have hx:VRel φ (c9 φ hs) w.heap x v:=by
  have:=r.iA;simp only[VRels]at this;obtain⟨u,cT,e,h1,_⟩:=this
  cases e;exact h1
 have r0:R B w0 a4 φ ⟨ts,hs⟩ kp ⟨us,[]⟩ w:=⟨ht,fun p hp=>r.kp p ((fi.1 hp).elim (List.mem_append_left _) fun h=>List.mem_append_right _ (List.mem_append_right _ h)),r.hp,r.dZ,r.gu,r.gZ,r.h7,r.g0,r.bs,rfl,r.l4⟩;exact⟨a4,φ,by have:=pc r0 dst hx;cases dst<;>exact this,b5⟩
theorem JY{B:Nat→Prop}{w0:World}{kp:List (V×Value)}{kv:List V}(bJ:kp.map (·.1)=kv){σ:St}{o:Oper}{K:St→Prop}{iC:Act→World→Prop}{Q:Exit→Act→World→Prop}{a:Act}{w:World}
  (h:bareE P kv σ o K) (hr:fS B w0 kp σ a w) (hk:∀σ' u w',K σ'→fS B w0 kp σ' (a.put o.dst u) w'→iC (a.put o.dst u) w'):o.wp P a w iC Q:=by
 unfold bareE at h;split at h
 ·rename_i x xs ts aJ;obtain⟨zb,h,hf⟩:=hT h;obtain⟨f,fX,rfl,h⟩:=Vr h;obtain⟨vs,b6,hx⟩:=Gr _ _ h;clear h;unfold ae at b6;rcases b6 with ⟨rfl,dP⟩|dP
  ·have D2:∀{σ':St} {B:Nat→Prop} {w0:World} {a4:Nat→Prop} {φ:c1} {kp:List (V×Value)} {a:Act} {w:World},σ.le σ'→R B w0 a4 φ σ' kp a w→true=true→a.eval x=.func (.func f) #[] #[]:=by
    intro σ' B w0 a4 φ kp a w bt bj _;have:=hf _ _ _ _ rfl (g_ bt bj x);simp only[VRel]at this;obtain⟨us,e,ar⟩:=this;simp only[VRels]at ar;rw[e];congr 1;exact Array.toList_eq_nil_iff.1 ar
   rcases dP with dP|⟨as,rs,bD,bX,oL,bu,bS⟩
   rotate_left
   ·obtain⟨r,h1,h2⟩:=JR (K:=fun r=>r=⟨oI rs σ.heap.length,(aHs rs).map H.toCln,[]⟩) (n:=σ.heap.length) (g:=true) (σ:=σ) aJ rfl D2 hx bD bX rfl;subst h2;obtain⟨a4,φ,bj,b5⟩:=hr;exact h1 σ (St.le.refl σ) (fun i hi _=>zc hi) B w0 a4 φ kp a w (fun i hi _ hd=>by have:=b5 i hd;omega) bj rfl iC Q fun u w' dw kj=>hk oL u w' bS (JX bu ⟨_,dw,kj,Gz b5⟩)
   have afb:∃r,i2 P o true σ σ.heap.length r∧K (σ.dM o.dst σ.heap.length r):=by
    rcases dP with ⟨as,rs,h1,h2,ao⟩|⟨as,rs,h1,h2,ao⟩
    ·exact Oh (K:=fun r=>K (σ.dM o.dst σ.heap.length r)) aJ rfl D2 hx h1 h2 ao
    ·exact JR (K:=fun r=>K (σ.dM o.dst σ.heap.length r)) aJ rfl D2 hx h1 h2 ao
   obtain⟨r,h1,h2⟩:=afb;obtain⟨a4,φ,bj,b5⟩:=hr;exact h1 σ (St.le.refl σ) (fun i hi _=>zc hi) B w0 a4 φ kp a w (fun i hi _ hd=>by have:=b5 i hd;omega) bj rfl iC Q fun u w' dw kj=>hk _ u w' h2 ⟨_,dw,kj,Gz b5⟩
  ·obtain⟨ts,aK,dP⟩:=dP;obtain⟨a4,φ,bj,b5⟩:=hr;have VF:=hf _ _ _ _ rfl (Aj bj x);simp only[VRel]at VF;obtain⟨cs,VG,_⟩:=VF;have hin:fS B w0 (ts.zip a.tmps.toList++kp) ⟨vs++fX,σ.heap⟩ ⟨(xs.toList.map a.eval++cs.toList).toArray,[]⟩ w:=by
    refine ae9 aK ⟨a4,φ,bj,b5⟩ fun AB dw ei=>?_;have h1:=hx (St.le.refl σ) ei rfl;have h2:=hf _ _ _ _ rfl (Aj ei x);simp only[VRel]at h2;obtain⟨D8,VH,ao⟩:=h2;rw[VG]at VH
    cases VH
    exact D9 h1 ao
   have hl:=(lk _ _ bj.iA).trans (VD aK).symm;have D_:=dP B w0 (ts.zip a.tmps.toList++kp) _ w (by rw[List.map_append,bJ,List.map_fst_zip ω]) hin;have gQ:(execOp a.eval o).run P w=(callFunc f (xs.toList.map a.eval++cs.toList).toArray).run P w:=by
    unfold execOp;rw[aJ];have:(xs.toList.map a.eval++cs.toList).toArray=xs.map a.eval++cs:=by
     apply Array.toList_inj.1;simp
    rw[this];simp[resolve,VG,Deferred.ofValue,invoke]
   have Ce:=bj.oz;have aW:∀v w',(∃x hs',K ⟨fM ts o.dst x,hs'⟩∧fS B w0 (ts.zip a.tmps.toList++kp) ⟨[x],hs'⟩ ⟨#[v],[]⟩ w')→iC (a.put o.dst v) w':=by
    rintro v w' ⟨mg,hs',h1,h2⟩;refine hk _ v w' h1 ?_;have:=afa hl o.dst h2;rw[show a=Act.mk a.tmps []from by cases a;simp only at Ce;rw[Ce]];exact this
   unfold Oper.wp;rw[gQ];unfold Does at D_;split at D_
   ·rename_i h1;rw[h1,Oper.upon_enter];refine Calls.mono D_ fun e w' he=>?_
    cases e with
    |returned v=>exact aW v w' he
    |panicked c=>exact he.elim
    |outgrown=>exact he.elim
   ·rename_i h1;rw[h1,Oper.upon_value];exact aW _ _ D_
   ·rename_i h1;rw[h1,Oper.upon_row];exact Rows.mono D_ aW
   ·exact D_.elim
 ·exact ae8 h hr hk
theorem VI{g:Bool}{σ:St}{n:Nat}{o:Oper}{K:fW→Prop}(h:vJ P g σ n o K):(g=true→∃r,i2 P o true σ n r∧∃v,K ⟨v,r.new,r.upd⟩∧(v=r.v∨v=.bU true r.v))∧(g=false→∃v,K (dn (.bU false v))):=by
 rcases h with ⟨rfl,h⟩|⟨rfl,h⟩|h
 ·obtain⟨r,h1,h2⟩:=D3 h;exact⟨fun _=>⟨r,h1,r.v,h2,.inl rfl⟩,fun e=>(by cases e)⟩
 ·exact⟨fun e=>(by cases e),fun _=>⟨_,h⟩⟩
 ·obtain⟨r,h1,h2,ao,aN⟩:=D3 h;obtain⟨v,new,upd⟩:=r;simp only at h2 ao aN;subst h2;subst ao
  cases g with
  |true=>exact⟨fun _=>⟨_,h1,.bU true v,aN,.inr rfl⟩,fun e=>(by cases e)⟩
  |false=>exact⟨fun e=>(by cases e),fun _=>⟨_,aN⟩⟩
theorem VJ{aQ:Array Oper}{B:Nat→Prop}{w0:World}{kp:List (V×Value)}{kv:List V}(bJ:kp.map (·.1)=kv){Q:Exit→Act→World→Prop}{K:St→Prop}(m6:∀σ a w,K σ→fS B w0 kp σ a w→Q .normal a w) :
  ∀(l:List Oper) (cx:List Nat) (σ:St) (a:Act) (w:World),cx.map (aQ[·]?)=l.map some→opsE P kv aQ.toList l σ K→fS B w0 kp σ a w→wpOps P aQ Q cx a w
 |[],cx,σ,a,w,e,h,hr=>by
  have:cx=[]:=by simpa using e
  subst this;exact m6 σ a w h hr
 |o::l,[],σ,a,w,e,h,hr=>by simp at e
 |o::l,i::cx,σ,a,w,e,h,hr=>by
  simp only[eT,List.cons.injEq]at e;simp only[opsE]at h;simp only[wpOps,e.1];have next:∀σ' u w',opsE P kv aQ.toList l σ' K→fS B w0 kp σ' (a.put o.dst u) w'→wpOps P aQ Q cx (a.put o.dst u) w':=fun σ' u w' h' kj=>VJ bJ m6 l cx σ' _ w' e.2 h' kj
  unfold wt at h;split at h
  ·rename_i hg;rw[if_pos (by simp[Region.wanted,hg])];exact .inl (JY bJ h hr next)
  ·rename_i j ll hg;unfold xQ at h;split at h
   ·rename_i d hd;rw[Array.getElem?_toList]at hd;have key:∀g,Region.wanted o (yielded aQ a.tmps)=g→zg P kv g σ o (fun σ'=>opsE P kv aQ.toList l σ' K)→
      if Region.wanted o (yielded aQ a.tmps)then o.wp P a w (wpOps P aQ Q cx) Q∨(o.asks P a w∧LetsOut Q)else wpOps P aQ Q cx (a.put o.dst undef) w:=by
     intro g hw hs;rw[hw];unfold zg at hs;rcases hs with hs|hs
     ·obtain⟨dW,ek⟩:=VI hs
      cases g with
      |true=>
       simp only[if_true];obtain⟨r,h1,v,h2,ao⟩:=dW rfl;obtain⟨a4,φ,bj,b5⟩:=hr;refine .inl (h1 σ (St.le.refl σ) (fun i hi _=>zc hi) B w0 a4 φ kp a w (fun i hi _ hd=>by have:=b5 i hd;omega) bj rfl _ _ fun u w' dw kj=>next _ u w' h2 ⟨_,dw,?_,Gz (r:=⟨v,r.new,r.upd⟩) b5⟩);rcases ao with rfl|rfl
       ·exact kj
       ·exact On (σ:=σ) (dst:=o.dst) kj
      |false=>
       simp only[Bool.false_eq_true,if_false];obtain⟨v,h2⟩:=ek rfl;obtain⟨a4,φ,bj,b5⟩:=hr;exact next _ undef w h2 ⟨_,φ,pc bj o.dst (D5 v),fun i hi=>by have:=b5 i hi;simpa [St.dM,dn,hnew,hupd]using this⟩
     ·cases g with
      |true=>simp only[if_true];exact .inl (JY bJ (hs.1 rfl) hr next)
      |false=>
       simp only[Bool.false_eq_true,if_false];obtain⟨a4,φ,bj,b5⟩:=hr;exact next _ undef w (hs.2 rfl) ⟨_,φ,pc bj o.dst (D5 _),fun i hi=>by have:=b5 i hi;simpa [St.dM,dn,hnew,hupd]using this⟩
    obtain⟨a4,φ,bj,b5⟩:=hr;unfold AM at h;split at h
    ·rename_i b hv;obtain⟨u,k1,k2⟩:=D4 (St.le.refl σ) bj hv ξ;rw[oA k2]at k1;exact key _ (by simp[Region.wanted,hg,yielded,hd,k1]) h
    ·rename_i c b hv;obtain⟨u,k1,k2⟩:=D4 (St.le.refl σ) bj hv ξ;simp only[VRel]at k2;refine key _ ?_ h
     cases c with
     |true=>
      rw[oA (φ:=φ) (T:=c9 φ σ.heap) (h:=w.heap) (b:=b) (u:=u) (by simp only[VRel];exact k2.1 rfl)]at k1;simp[Region.wanted,hg,yielded,hd,k1]
     |false=>
      rw[k2.2 rfl]at k1;simp[Region.wanted,hg,yielded,hd,k1,undef]
    ·exact h.elim
   ·exact h.elim
theorem ael{aQ:Array Oper}{B:Nat→Prop}{w0:World}{kp:List (V×Value)}{kv:List V}(bJ:kp.map (·.1)=kv){Q:Exit→Act→World→Prop}{K:St→Prop}{N:Act→World→Prop}{σ:St}{o:Oper}{a:Act}{w:World}(h:wt P kv aQ.toList σ o K)(hr:fS B w0 kp σ a w)
  (next:∀σ' u w',K σ'→fS B w0 kp σ' (a.put o.dst u) w'→N (a.put o.dst u) w') :
  if Region.wanted o (yielded aQ a.tmps)then o.wp P a w N Q∨(o.asks P a w∧LetsOut Q)else N (a.put o.dst undef) w:=by
 unfold wt at h;split at h
 ·rename_i hg;rw[if_pos (by simp[Region.wanted,hg])];exact .inl (JY bJ h hr next)
 ·rename_i j ll hg;unfold xQ at h;split at h
  ·rename_i d hd;rw[Array.getElem?_toList]at hd;have key:∀g,Region.wanted o (yielded aQ a.tmps)=g→zg P kv g σ o K→
     if Region.wanted o (yielded aQ a.tmps)then o.wp P a w N Q∨(o.asks P a w∧LetsOut Q)else N (a.put o.dst undef) w:=by
    intro g hw hs;rw[hw];unfold zg at hs;rcases hs with hs|hs
    ·obtain⟨dW,ek⟩:=VI hs
     cases g with
     |true=>
      simp only[if_true];obtain⟨r,h1,v,h2,ao⟩:=dW rfl;obtain⟨a4,φ,bj,b5⟩:=hr;refine .inl (h1 σ (St.le.refl σ) (fun i hi _=>zc hi) B w0 a4 φ kp a w (fun i hi _ hd=>by have:=b5 i hd;omega) bj rfl _ _ fun u w' dw kj=>next _ u w' h2 ⟨_,dw,?_,Gz (r:=⟨v,r.new,r.upd⟩) b5⟩);rcases ao with rfl|rfl
      ·exact kj
      ·exact On (σ:=σ) (dst:=o.dst) kj
     |false=>
      simp only[Bool.false_eq_true,if_false];obtain⟨v,h2⟩:=ek rfl;obtain⟨a4,φ,bj,b5⟩:=hr;exact next _ undef w h2 ⟨_,φ,pc bj o.dst (D5 v),fun i hi=>by have:=b5 i hi;simpa [St.dM,dn,hnew,hupd]using this⟩
    ·cases g with
     |true=>simp only[if_true];exact .inl (JY bJ (hs.1 rfl) hr next)
     |false=>
      simp only[Bool.false_eq_true,if_false];obtain⟨a4,φ,bj,b5⟩:=hr;exact next _ undef w (hs.2 rfl) ⟨_,φ,pc bj o.dst (D5 _),fun i hi=>by have:=b5 i hi;simpa [St.dM,dn,hnew,hupd]using this⟩
   obtain⟨a4,φ,bj,b5⟩:=hr;unfold AM at h;split at h
   ·rename_i b hv;obtain⟨u,k1,k2⟩:=D4 (St.le.refl σ) bj hv ξ;rw[oA k2]at k1;exact key _ (by simp[Region.wanted,hg,yielded,hd,k1]) h
   ·rename_i c b hv;obtain⟨u,k1,k2⟩:=D4 (St.le.refl σ) bj hv ξ;simp only[VRel]at k2;refine key _ ?_ h
    cases c with
    |true=>
     rw[oA (φ:=φ) (T:=c9 φ σ.heap) (h:=w.heap) (b:=b) (u:=u) (by simp only[VRel];exact k2.1 rfl)]at k1;simp[Region.wanted,hg,yielded,hd,k1]
    |false=>
     rw[k2.2 rfl]at k1;simp[Region.wanted,hg,yielded,hd,k1,undef]
   ·exact h.elim
  ·exact h.elim
end Gv
