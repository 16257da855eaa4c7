/-
  Part of the proof: the machine, what functions compute, and the plain laws.
-/
import Derived.Calls
import Derived.Orders
import Derived.Below
import Derived.Laws.Cells
import Derived.Laws.CopyRow
import Derived.Laws.Strings
import Derived.DeepKeys
import Derived.Laws.StructEq
import Derived.Laws.BytesString
import Derived.Great.BuildSlice
import Derived.Maps.AppendAt
import Derived.Laws.MakeOwn
import Derived.Deep.AppendSrc
set_option maxHeartbeats 80000000
set_option maxRecDepth 100000
namespace Gv
open Go
theorem I{α:Type _}{β:Type _}{xs:List α}(f:α→β):(List.map f xs).length=xs.length:=List.length_map f
theorem aC(n:Nat):((n:Int)).toNat=n:=Int.toNat_natCast n
theorem b8{α:Type _}{l:List α}{i:Nat}(h:i<l.length):l[i]?=some l[i]:=List.getElem?_eq_getElem h
theorem bo{p:Prop}[Decidable p](h:¬p):decide p=false:=decide_eq_false h
theorem bp{p:Prop}[Decidable p](h:p):decide p=true:=decide_eq_true h
theorem cO{p:Prop}[Decidable p](h:decide p=true):p:=of_decide_eq_true h
theorem c9{p:Prop}[Decidable p](h:decide p=false):¬p:=of_decide_eq_false h
theorem bB{α:Type _}{a:α}{xs ys:List α}:(a::xs)++ys=a::(xs++ys):=List.cons_append
theorem bx{α:Type _}(xs:List α):[]++xs=xs:=List.nil_append xs
theorem d_{α:Type _}{l:List α}:l.take l.length=l:=List.take_length
theorem aI{α:Type _}{a b:α}(h:some a=some b):a=b:=Option.some.inj h
theorem bF{α:Type _}(a b:α):(some a=some b)=(a=b):=Option.some.injEq a b
theorem bP(a b:Bool):((a&&b)=true)=(a=true∧b=true):=Bool.and_eq_true a b
theorem b2{p:Prop}[Decidable p]:(decide p=true)=p:=decide_eq_true_eq
theorem dN{p:Prop}{_:Decidable p}:decide p=false↔¬p:=decide_eq_false_iff_not
theorem e1{α:Type _}{x:α}{xs:List α}{d:α}:(x::xs).getD 0 d=x:=List.getD_cons_zero
theorem e4{α:Type _}{x:α}{xs:List α}{n:Nat}{d:α}:(x::xs).getD (n+1) d=xs.getD n d:=List.getD_cons_succ
theorem c1{α:Type _}{β:Type _}(a:α)(b:β)(c:α)(d:β):((a,b)=(c,d))=(a=c∧b=d):=Prod.mk.injEq a b c d
theorem eW{α:Type _}{a:α}{l:List α}:(a::l).length=l.length+1:=List.length_cons
theorem eR{α:Type _}{l:List α}{n:Nat}(h:n<l.length):l[n]∈l:=List.getElem_mem h
theorem et{α:Type _}{a:α}{s t:List α}:a∈s++t↔a∈s∨a∈t:=List.mem_append
theorem eG{α:Type _}{as bs:List α}:(as++bs).length=as.length+bs.length:=List.length_append
theorem ft{α:Type _}:([]:List α).length=0:=List.length_nil
theorem cc:(!false)=true:=Bool.not_false
theorem bS:(!true)=false:=Bool.not_true
theorem dH{α:Type _}{i:Nat}{l:List α}(h:l.length≤i):l.take i=l:=List.take_of_length_le h
theorem iG{α:Type _}{a:α}{l:List α}:(a::l)[0]?=some a:=List.getElem?_cons_zero
theorem ke{α:Type _}{a:α}{i:Nat}{l:List α}:(a::l)[i+1]?=l[i]?:=List.getElem?_cons_succ
theorem ib{α:Type _}{l:List α}{i:Nat}{a:α}:l.getD i a=l[i]?.getD a:=List.getD_eq_getElem?_getD
theorem hj{α:Type _}{l:List α}{i:Nat}:l.take (i+1)=l.take i++l[i]?.toList:=List.take_add_one
theorem mj{a:Int}(h:0≤a):∃n:Nat,a=n:=Int.eq_ofNat_of_zero_le h
inductive D where
 |int (k:IntKind) (n:Int)
 |bool (b:Bool)
 |str (s:List UInt8)
 |sl (sz:Nat) (xs:List (List D))
  /-- a akZ value, whatever it is -/
 |zj (u:Value)
def cellAt(h:Array Obj)(b o:Nat):Option Value:=
 match h[b]? with
 |some (.cells c _ _)=>c[o]?
 |_=>none
theorem cell_eq(w:World)(b o:Nat):w.cell? ⟨b,o,none⟩=cellAt w.heap b o:=by
 unfold World.cell? cellAt
 cases w.heap[b]? with
 |none=>rfl
 |some x=>cases x<;>rfl
theorem CU{h h':Array Obj}{b:Nat}(e:h'[b]?=h[b]?)(o:Nat):cellAt h' b o=cellAt h b o:=by
 unfold cellAt;rw[e]
def mB(h:Array Obj)(b n:Nat):Prop:=∃cs e,h[b]?=some (.cells cs e (0,0))∧n≤cs.size
mutual
def rep(h:Array Obj)(o:Bool):D→Value→List Nat→Prop
 |.int k n,v,F=>v=.int k n∧F=[]∧k.min≤n∧n≤k.max
 |.bool b,v,F=>v=.bool b∧F=[]
 |.str s,v,F=>v=.string ⟨s.toArray⟩∧F=[]∧s.length≤maxLen
 |.zj u,v,F=>v=u∧F=[]∧u.oneCell'=true∧u.cells=#[u]
 |.sl sz xs,v,F=>∃a c,v=.slice a xs.length c∧xs.length≤c∧c≤maxLen∧
   ((xs=[]∧F=[]∧(o=true→c=0))∨
    ∃b f G,a=some ⟨b,f,none⟩∧F=b::G∧b<h.size∧repE h o b f sz xs G∧(o=true→0<c∧mB h b (f+c * sz)))
def repC(h:Array Obj)(o:Bool)(b:Nat):Nat→List D→List Nat→Prop
 |_,[],G=>G=[]
 |f,d::ds,G=>∃v bQ bq,G=bQ++bq∧cellAt h b f=some v∧rep h o d v bQ∧repC h o b (f+1) ds bq
def repE(h:Array Obj)(o:Bool)(b:Nat):Nat→Nat→List (List D)→List Nat→Prop
 |_,_,[],G=>G=[]
 |f,sz,c::cs,G=>∃bQ bq,G=bQ++bq∧c.length=sz∧repC h o b f c bQ∧repE h o b (f+sz) sz cs bq
end
theorem mB.mono{h h':Array Obj}{b n:Nat}(e:h'[b]?=h[b]?)(r:mB h b n):mB h' b n:=by
 obtain⟨cs,t,h1,h2⟩:=r;exact⟨cs,t,by rw[e];exact h1,h2⟩
theorem mB.lt{h:Array Obj}{b n:Nat}(r:mB h b n):b<h.size:=by
 obtain⟨cs,t,h1,_⟩:=r;rcases Nat.lt_or_ge b h.size with h'|h'
 ·exact h'
 ·rw[Array.getElem?_eq_none h']at h1;cases h1
mutual
theorem D8{h h':Array Obj}{o:Bool}(hs:h.size≤h'.size):∀(d:D) (v:Value) (F:List Nat),(∀b∈F,h'[b]?=h[b]?)→rep h o d v F→rep h' o d v F
 |.int k n,v,F,_,r=>by simpa [rep]using r
 |.bool b,v,F,_,r=>by simpa [rep]using r
 |.str s,v,F,_,r=>by simpa [rep]using r
 |.zj u,v,F,_,r=>by simpa [rep]using r
 |.sl sz xs,v,F,cd,r=>by
  simp only[rep]at r⊢;obtain⟨a,c,h1,h2,aj,aE⟩:=r;refine⟨a,c,h1,h2,aj,?_⟩;rcases aE with aE|⟨b,f,G,ah,ai,aX,br,cF⟩
  ·exact .inl aE
  ·subst ai;exact .inr ⟨b,f,G,ah,rfl,by omega,yv hs xs b f sz G (cd b (by simp)) (fun g hg=>cd g (by simp[hg])) br,fun av=>⟨(cF av).1,(cF av).2.mono (cd b (by simp))⟩⟩
theorem Ii{h h':Array Obj}{o:Bool}(hs:h.size≤h'.size):∀(ds:List D) (b f:Nat) (G:List Nat),h'[b]?=h[b]?→(∀g∈G,h'[g]?=h[g]?)→repC h o b f ds G→repC h' o b f ds G
 |[],_,_,_,_,_,r=>by simpa [repC]using r
 |d::ds,b,f,G,hb,bM,r=>by
  simp only[repC]at r⊢;obtain⟨v,bQ,bq,ah,ai,aX,br⟩:=r;subst ah;exact⟨v,bQ,bq,rfl,by rw[CU hb];exact ai,D8 hs d v bQ (fun g hg=>bM g (by simp[hg])) aX,Ii hs ds b (f+1) bq hb (fun g hg=>bM g (by simp[hg])) br⟩
theorem yv{h h':Array Obj}{o:Bool}(hs:h.size≤h'.size):∀(cs:List (List D)) (b f sz:Nat) (G:List Nat),h'[b]?=h[b]?→(∀g∈G,h'[g]?=h[g]?)→repE h o b f sz cs G→repE h' o b f sz cs G
 |[],_,_,_,_,_,_,r=>by simpa [repE]using r
 |c::cs,b,f,sz,G,hb,bM,r=>by
  simp only[repE]at r⊢;obtain⟨bQ,bq,ah,ai,aX,br⟩:=r;subst ah;exact⟨bQ,bq,rfl,ai,Ii hs c b f bQ hb (fun g hg=>bM g (by simp[hg])) aX,yv hs cs b (f+sz) sz bq hb (fun g hg=>bM g (by simp[hg])) br⟩
end
mutual
theorem S2{h:Array Obj}{o:Bool}:∀(d:D) (v:Value) (F:List Nat),rep h o d v F→∀b∈F,b<h.size
 |.int k n,v,F,r=>by simp only[rep]at r;simp[r.2.1]
 |.bool b,v,F,r=>by simp only[rep]at r;simp[r.2]
 |.str s,v,F,r=>by simp only[rep]at r;simp[r.2.1]
 |.zj u,v,F,r=>by simp only[rep]at r;simp[r.2.1]
 |.sl sz xs,v,F,r=>by
  simp only[rep]at r;obtain⟨a,c,h1,h2,aj,aE⟩:=r;rcases aE with aE|⟨b,f,G,ah,ai,aX,br,cF⟩
  ·simp[aE.2.1]
  ·subst ai;intro g hg;rcases List.mem_cons.1 hg with rfl|hg
   ·exact aX
   ·exact wY xs b f sz G br g hg
theorem Mn{h:Array Obj}{o:Bool}:∀(ds:List D) (b f:Nat) (G:List Nat),repC h o b f ds G→∀g∈G,g<h.size
 |[],_,_,_,r=>by simp only[repC]at r;simp[r]
 |d::ds,b,f,G,r=>by
  simp only[repC]at r;obtain⟨v,bQ,bq,ah,ai,aX,br⟩:=r;subst ah;intro g hg;rcases et.1 hg with hg|hg
  ·exact S2 d v bQ aX g hg
  ·exact Mn ds b (f+1) bq br g hg
theorem wY{h:Array Obj}{o:Bool}:∀(cs:List (List D)) (b f sz:Nat) (G:List Nat),repE h o b f sz cs G→∀g∈G,g<h.size
 |[],_,_,_,_,r=>by simp only[repE]at r;simp[r]
 |c::cs,b,f,sz,G,r=>by
  simp only[repE]at r;obtain⟨bQ,bq,ah,ai,aX,br⟩:=r;subst ah;intro g hg;rcases et.1 hg with hg|hg
  ·exact Mn c b f bQ aX g hg
  ·exact wY cs b (f+sz) sz bq br g hg
end
mutual
theorem Sw{h:Array Obj}:∀(d:D) (v:Value) (F:List Nat),rep h true d v F→rep h false d v F
 |.int k n,v,F,r=>by simpa [rep]using r
 |.bool b,v,F,r=>by simpa [rep]using r
 |.str s,v,F,r=>by simpa [rep]using r
 |.zj u,v,F,r=>by simpa [rep]using r
 |.sl sz xs,v,F,r=>by
  simp only[rep]at r⊢;obtain⟨a,c,h1,h2,aj,aE⟩:=r;refine⟨a,c,h1,h2,aj,?_⟩;rcases aE with aE|⟨b,f,G,ah,ai,aX,br,cF⟩
  ·exact .inl ⟨aE.1,aE.2.1,fun e=>by cases e⟩
  ·exact .inr ⟨b,f,G,ah,ai,aX,EZ xs b f sz G br,fun e=>by cases e⟩
theorem Mo{h:Array Obj}:∀(ds:List D) (b f:Nat) (G:List Nat),repC h true b f ds G→repC h false b f ds G
 |[],_,_,_,r=>by simpa [repC]using r
 |d::ds,b,f,G,r=>by
  simp only[repC]at r⊢;obtain⟨v,bQ,bq,ah,ai,aX,br⟩:=r;exact⟨v,bQ,bq,ah,ai,Sw d v bQ aX,Mo ds b (f+1) bq br⟩
theorem EZ{h:Array Obj}:∀(cs:List (List D)) (b f sz:Nat) (G:List Nat),repE h true b f sz cs G→repE h false b f sz cs G
 |[],_,_,_,_,r=>by simpa [repE]using r
 |c::cs,b,f,sz,G,r=>by
  simp only[repE]at r⊢;obtain⟨bQ,bq,ah,ai,aX,br⟩:=r;exact⟨bQ,bq,ah,ai,Mo c b f bQ aX,EZ cs b (f+sz) sz bq br⟩
end
theorem Bi{h:Array Obj}{o:Bool}{b:Nat}:∀(ds CV:List D) (f:Nat) (G:List Nat),repC h o b f (ds++CV) G↔∃bQ bq,G=bQ++bq∧repC h o b f ds bQ∧repC h o b (f+ds.length) CV bq
 |[],CV,f,G=>by
  simp only[bx,repC,ft,Nat.add_zero];exact⟨fun r=>⟨[],G,rfl,rfl,r⟩,fun⟨bQ,bq,e,ah,r⟩=>by subst ah;rw[e];exact r⟩
 |d::ds,CV,f,G=>by
  simp only[bB,repC,eW];constructor
  ·rintro⟨v,bQ,bq,rfl,ai,aX,br⟩;obtain⟨uL,uM,rfl,k1,k2⟩:=(Bi ds CV (f+1) bq).1 br;exact⟨bQ++uL,uM,by simp,⟨v,bQ,uL,rfl,ai,aX,k1⟩,by rw[show f+(ds.length+1)=f+1+ds.length from by omega];exact k2⟩
  ·rintro⟨bQ,bq,rfl,⟨v,uL,uM,rfl,ai,aX,br⟩,k⟩;refine⟨v,uL,uM++bq,by simp,ai,aX,(Bi ds CV (f+1) _).2 ⟨uM,bq,rfl,br,?_⟩⟩;rw[show f+1+ds.length=f+(ds.length+1)from by omega];exact k
theorem repE_append{h:Array Obj}{o:Bool}{b sz:Nat}:∀(cs ds:List (List D)) (f:Nat) (G:List Nat),repE h o b f sz (cs++ds) G↔∃bQ bq,G=bQ++bq∧repE h o b f sz cs bQ∧repE h o b (f+cs.length * sz) sz ds bq
 |[],ds,f,G=>by
  simp only[bx,repE,ft,Nat.zero_mul,Nat.add_zero];exact⟨fun r=>⟨[],G,rfl,rfl,r⟩,fun⟨bQ,bq,e,ah,r⟩=>by subst ah;rw[e];exact r⟩
 |c::cs,ds,f,G=>by
  simp only[bB,repE,eW];have hf:f+sz+cs.length * sz=f+(cs.length+1) * sz:=by rw[Nat.add_mul];omega
  constructor
  ·rintro⟨bQ,bq,rfl,ai,aX,br⟩;obtain⟨uL,uM,rfl,k1,k2⟩:=(repE_append cs ds (f+sz) bq).1 br;exact⟨bQ++uL,uM,by simp,⟨bQ,uL,rfl,ai,aX,k1⟩,by rw[←hf];exact k2⟩
  ·rintro⟨bQ,bq,rfl,⟨uL,uM,rfl,ai,aX,br⟩,k⟩;exact⟨uL,uM++bq,by simp,ai,aX,(repE_append cs ds (f+sz) _).2 ⟨uM,bq,rfl,br,by rw[hf];exact k⟩⟩
theorem abi{h:Array Obj}{o:Bool}{b sz:Nat}{c:List D}{f:Nat}{G:List Nat}:repE h o b f sz [c] G↔c.length=sz∧repC h o b f c G:=by
 simp only[repE];exact⟨fun⟨bQ,bq,e,ah,r,ai⟩=>⟨ah,by subst ai;rw[e,List.append_nil];exact r⟩,fun⟨ah,r⟩=>⟨G,[],by simp,ah,r,rfl⟩⟩
theorem EV{h:Array Obj}{o:Bool}{b sz:Nat}{cs:List (List D)}{f:Nat}{G:List Nat}(r:repE h o b f sz cs G){i:Nat}{c:List D}(hi:cs[i]?=some c) :
  ∃bQ nz bq,G=bQ++(nz++bq)∧c.length=sz∧repE h o b f sz (cs.take i) bQ∧repC h o b (f+i * sz) c nz∧repE h o b (f+(i+1) * sz) sz (cs.drop (i+1)) bq:=by
 have hlt:i<cs.length:=(List.getElem?_eq_some_iff.1 hi).1;have hc:cs[i]=c:=(List.getElem?_eq_some_iff.1 hi).2;have e:cs=cs.take i++(c::cs.drop (i+1)):=by
  rw[←hc,List.getElem_cons_drop,List.take_append_drop]
 rw[e]at r;obtain⟨bQ,bq,rfl,aM,bc⟩:=(repE_append _ _ _ _).1 r;simp only[repE]at bc;obtain⟨uL,uM,rfl,ai,aX,br⟩:=bc;have hl:(cs.take i).length=i:=by simp;omega
 rw[hl]at aX br;refine⟨bQ,uL,uM,rfl,ai,aM,aX,?_⟩;rw[Nat.add_mul,Nat.one_mul,←Nat.add_assoc];exact br
theorem LW{h:Array Obj}{o:Bool}{b:Nat}:∀(ds:List D) (f:Nat) (G:List Nat),repC h o b f ds G→∃us:List Value,us.length=ds.length∧(∀(j:Nat) (u:Value),us[j]?=some u→cellAt h b (f+j)=some u)∧
  (∀(j:Nat) (d:D) (u:Value),ds[j]?=some d→us[j]?=some u→∃CF,(∀g∈CF,g∈G)∧rep h o d u CF)
 |[],f,G,r=>⟨[],rfl,by simp,by simp⟩
 |d::ds,f,G,r=>by
  simp only[repC]at r;obtain⟨v,bQ,bq,rfl,ai,aX,br⟩:=r;obtain⟨us,h1,h2,aj⟩:=LW ds (f+1) bq br;refine⟨v::us,by simp[h1],?_,?_⟩
  ·intro j u al
   cases j with
   |zero=>simp at al;subst al;simpa using ai
   |succ j=>
    have:=h2 j u (by simpa using al);rw[show f+(j+1)=f+1+j from by omega];exact this
  ·intro j abj u hd hu
   cases j with
   |zero=>simp at hd hu;subst hd;subst hu;exact⟨bQ,fun g hg=>by simp[hg],aX⟩
   |succ j=>
    obtain⟨CF,k1,k2⟩:=aj j abj u (by simpa using hd) (by simpa using hu);exact⟨CF,fun g hg=>by simp[k1 g hg],k2⟩
theorem LX{h:Array Obj}{o:Bool}{d:D}{v:Value}{F:List Nat}(r:rep h o d v F):v.oneCell'=true:=by
 cases d<;>simp only[rep]at r
 ·rw[r.1];rfl
 ·rw[r.1];rfl
 ·rw[r.1];rfl
 ·obtain⟨a,c,h1,_⟩:=r;rw[h1];rfl
 ·rw[r.1];exact r.2.2.1
def D.flat:D→Bool
 |.sl _ _=>false
 |_=>true
def gy(xs:List (List D)):Bool:=xs.all fun c=>c.all D.flat
def D.plain:D→Bool
 |.sl _ _=>false
 |.zj _=>false
 |_=>true
theorem EM{h:Array Obj}{o:Bool}{d:D}{v:Value}{F:List Nat}(hf:d.flat=true)(r:rep h o d v F):F=[]:=by
 cases d<;>simp only[rep]at r
 ·exact r.2.1
 ·exact r.2
 ·exact r.2.1
 ·simp[D.flat]at hf
 ·exact r.2.1
theorem H6{h h':Array Obj}{o o':Bool}{d:D}{v:Value}{F:List Nat}(hf:d.flat=true)(r:rep h o d v F):rep h' o' d v F:=by
 cases d<;>simp only[rep]at r⊢
 ·exact r
 ·exact r
 ·exact r
 ·simp[D.flat]at hf
 ·exact r
theorem Mp{h:Array Obj}{o:Bool}{b:Nat}:∀(ds:List D) (f:Nat) (G:List Nat),ds.all D.flat=true→repC h o b f ds G→G=[]
 |[],_,_,_,r=>by simpa [repC]using r
 |d::ds,f,G,hf,r=>by
  simp only[repC]at r;obtain⟨v,bQ,bq,rfl,ai,aX,br⟩:=r;simp only[List.all_cons,bP]at hf;rw[EM hf.1 aX,Mp ds (f+1) bq hf.2 br];rfl
theorem Eb{h:Array Obj}{o:Bool}{b:Nat}:∀(cs:List (List D)) (f sz:Nat) (G:List Nat),gy cs=true→repE h o b f sz cs G→G=[]
 |[],_,_,_,_,r=>by simpa [repE]using r
 |c::cs,f,sz,G,hf,r=>by
  simp only[repE]at r;obtain⟨bQ,bq,rfl,ai,aX,br⟩:=r;simp only[gy,List.all_cons,bP]at hf;rw[Mp c f bQ hf.1 aX,Eb cs (f+sz) sz bq hf.2 br];rfl
theorem S3{h:Array Obj}{o:Bool}{b:Nat}:∀(ds:List D) (f:Nat) (G:List Nat),ds.all D.flat=true→repC h o b f ds G→repC h true b f ds []
 |[],_,_,_,r=>by simp[repC]
 |d::ds,f,G,hf,r=>by
  simp only[repC]at r⊢;obtain⟨v,bQ,bq,rfl,ai,aX,br⟩:=r;simp only[List.all_cons,bP]at hf;have h1:=EM hf.1 aX;subst h1;exact⟨v,[],[],rfl,ai,H6 hf.1 aX,S3 ds (f+1) bq hf.2 br⟩
theorem Sj{h:Array Obj}{o:Bool}{b:Nat}:∀(cs:List (List D)) (f sz:Nat) (G:List Nat),gy cs=true→repE h o b f sz cs G→repE h true b f sz cs []
 |[],_,_,_,_,r=>by simp[repE]
 |c::cs,f,sz,G,hf,r=>by
  simp only[repE]at r⊢;obtain⟨bQ,bq,rfl,ai,aX,br⟩:=r;simp only[gy,List.all_cons,bP]at hf;exact⟨[],[],rfl,ai,S3 c f bQ hf.1 aX,Sj cs (f+sz) sz bq hf.2 br⟩
theorem E0{h h':Array Obj}{o:Bool}{b dE:Nat}:∀(ds:List D) (f g9:Nat) (G:List Nat),h.size≤h'.size→(∀g∈G,h'[g]?=h[g]?)→(∀j,j<ds.length→cellAt h' dE (g9+j)=cellAt h b (f+j))→
  repC h o b f ds G→repC h' o dE g9 ds G
 |[],_,_,_,_,_,_,r=>by simpa [repC]using r
 |d::ds,f,g9,G,hs,bM,hc,r=>by
  simp only[repC]at r⊢;obtain⟨v,bQ,bq,rfl,ai,aX,br⟩:=r;refine⟨v,bQ,bq,rfl,?_,D8 hs d v bQ (fun g hg=>bM g (by simp[hg])) aX,E0 ds (f+1) (g9+1) bq hs (fun g hg=>bM g (by simp[hg])) ?_ br⟩
  ·have:=hc 0 (by simp);simpa [ai]using this
  ·intro j al;have:=hc (j+1) (by simp;omega);rw[show g9+1+j=g9+(j+1)from by omega,show f+1+j=f+(j+1)from by omega];exact this
theorem pF{h h':Array Obj}{o:Bool}{b dE:Nat}:∀(cs:List (List D)) (f g9 sz:Nat) (G:List Nat),h.size≤h'.size→(∀g∈G,h'[g]?=h[g]?)→(∀j,j<cs.length * sz→cellAt h' dE (g9+j)=cellAt h b (f+j))→
  repE h o b f sz cs G→repE h' o dE g9 sz cs G
 |[],_,_,_,_,_,_,_,r=>by simpa [repE]using r
 |c::cs,f,g9,sz,G,hs,bM,hc,r=>by
  simp only[repE]at r⊢;obtain⟨bQ,bq,rfl,ai,aX,br⟩:=r;have hm:(c::cs).length * sz=sz+cs.length * sz:=by rw[eW,Nat.add_mul];omega
  refine⟨bQ,bq,rfl,ai,E0 c f g9 bQ hs (fun g hg=>bM g (by simp[hg])) (fun j al=>hc j (by omega)) aX,pF cs (f+sz) (g9+sz) sz bq hs (fun g hg=>bM g (by simp[hg])) ?_ br⟩;intro j al;have:=hc (sz+j) (by omega);rw[show g9+sz+j=g9+(sz+j)from by omega,show f+sz+j=f+(sz+j)from by omega];exact this
def vI:List (Nat×List D):=[]
theorem abk:∀p∈vI,p.2.all D.flat=true:=by
 have h:vI.all (fun p=>p.2.all D.flat)=true:=rfl;exact List.all_eq_true.1 h
def Mq:List (Nat×(Array Value→Prop)):=[]
theorem abl:∀q∈Mq,∃p∈vI,p.1=q.1:=by
 have h:Mq.all (fun q=>vI.any (fun p=>p.1 == q.1))=true:=rfl;intro q hq;have h2:=List.all_eq_true.1 h q hq;obtain⟨p,hp,e⟩:=List.any_eq_true.1 h2;exact⟨p,hp,by simpa using e⟩
def Ci(h:Array Obj):Prop:=∀q∈Mq,∃cs e cg,h[q.1]?=some (.cells cs e cg)∧q.2 cs
theorem Ci.mono{h h':Array Obj}(g:Ci h)(hb:∀p∈vI,h'[p.1]?=h[p.1]?):Ci h':=fun q hq=>by
 obtain⟨p,hp,e⟩:=abl q hq;obtain⟨cs,t,cg,h1,h2⟩:=g q hq;exact⟨cs,t,cg,by rw[←e,hb p hp,e];exact h1,h2⟩
def GOk(h:Array Obj):Prop:=(∀p∈vI,p.1<h.size∧repC h false p.1 0 p.2 [])∧Ci h
theorem GOk.mono{h h':Array Obj}(g:GOk h)(hs:h.size≤h'.size)(hb:∀p∈vI,h'[p.1]?=h[p.1]?):GOk h':=⟨fun p hp=>by
 obtain⟨h1,h2⟩:=g.1 p hp;exact⟨Nat.lt_of_lt_of_le h1 hs,Ii hs p.2 p.1 0 [] (hb p hp) (by simp) h2⟩,g.2.mono hb⟩
inductive V where
 |ak
 |d (x:D)
 |dw (sz:Nat)
 |agg (vs:List V)
 |ptr (id b0 off:Nat)
 |fo (cells:List D) (off:Nat)
 |sl (id off len:Nat)
 |fn (f:FuncId) (eZ:List V)
 |dV (vs:List V)
 |bC (c:Bool) (v:V)
inductive H where
 |b'
 |box (cells:List V)
 |ar (sz:Nat) (xs:List (List D)) (jm:Bool)
 |ic (sz:Nat) (xs:List (List D))
  /-- owned whole, and nobody aoc into it -/
 |af (sz:Nat) (xs:List (List D))
  /-- such a one, of which one element is open: its slices are entries of their own -/
 |g1 (sz:Nat) (pre:List (List D)) (cells:List V) (post:List (List D))
def H.m2:H→Bool
 |.box _=>true
 |.ar _ _ _=>true
 |.af _ _=>true
 |.g1 _ _ _ _=>true
 |_=>false
def H.own:H→Bool
 |.ar _ _ true=>true
 |.af _ _=>true
 |.g1 _ _ _ _=>true
 |_=>false
def H.shut:H→Bool
 |.af _ _=>true
 |.g1 _ _ _ _=>true
 |_=>false
theorem H.Im{x:H}(h:x.own=true):x.m2=true:=by
 cases x<;>first|rfl|(rename_i jm;cases jm<;>first|rfl|cases h)|cases h
theorem H.Ik{x:H}(h:x.shut=true):x.own=true:=by
 cases x<;>first|rfl|cases h
structure gQ where
 eh:Option Nat
 off:Nat
 cap:Nat
 sz:Nat
 c_:List Nat
abbrev cp:=Nat→Option gQ
def aL(hs:List H)(i:Nat):H:=hs.getD i .b'
def jq(x:H)(β:gQ)(b:Nat):Prop:=(x.m2=true∧β.eh=some b)∨(x.shut=true∧b∈β.c_)
def cz(φ:cp)(hs:List H)(b:Nat):Prop:=∀i β,φ i=some β→¬jq (aL hs i) β b
mutual
def VRel(φ:cp)(T:Nat→Prop)(h:Array Obj):V→Value→Prop
 |.ak,_=>True
 |.d x,u=>∃F,rep h false x u F∧∀b∈F,T b
 |.dw _,u=>u=.slice none 0 0
 |.agg vs,u=>∃us:Array Value,u=.agg us∧VRels φ T h vs us.toList
 |.ptr id b0 off,u=>∃β b,φ id=some β∧β.eh=some b∧u=.pointer (some ⟨b,β.off+b0 * β.sz+off,none⟩)
 |.fo cells off,u=>∃b f G,u=.pointer (some ⟨b,f+off,none⟩)∧b<h.size∧T b∧repC h false b f cells G∧∀g∈G,T g
 |.sl id off len,u=>∃β a c,φ id=some β∧u=.slice a len c∧c≤maxLen∧((c=0∧len=0∧off=β.cap)∨∃b,β.eh=some b∧a=some ⟨b,β.off+off * β.sz,none⟩∧len≤c∧off+c=β.cap)
 |.fn f eZ,u=>∃us:Array Value,u=.func (.func f) #[] us∧VRels φ T h eZ us.toList
 |.dV vs,u=>∃us:Array Value,u=.tuple us∧VRels φ T h vs us.toList
 |.bC c v,u=>(c=true→VRel φ T h v u)∧(c=false→u=undef)
def VRels(φ:cp)(T:Nat→Prop)(h:Array Obj):List V→List Value→Prop
 |[],us=>us=[]
 |v::vs,us=>∃u ck,us=u::ck∧VRel φ T h v u∧VRels φ T h vs ck
end
def dX(φ:cp)(T:Nat→Prop)(h:Array Obj)(β:gQ):H→Prop
 |.b'=>True
 |.box cells=>∃b cs e,β.eh=some b∧β.off=0∧h[b]?=some (.cells cs e (0,0))∧VRels φ T h cells cs.toList
 |.ar sz xs jm=>β.sz=sz∧((β.eh=none∧xs=[]∧β.cap=0∧β.c_=[])∨
   ∃b G,β.eh=some b∧xs.length≤β.cap∧mB h b (β.off+β.cap * sz)∧repE h jm b β.off sz xs G∧(jm=true→G=β.c_)∧(jm=false→∀g∈G,T g))
 |.ic sz xs=>β.sz=sz∧(xs=[]∨∃b G,β.eh=some b∧T b∧b<h.size∧repE h false b β.off sz xs G∧∀g∈G,T g)
 |.af sz xs=>β.sz=sz∧((β.eh=none∧xs=[]∧β.cap=0∧β.c_=[])∨
   ∃b,β.eh=some b∧xs.length≤β.cap∧mB h b (β.off+β.cap * sz)∧repE h true b β.off sz xs β.c_)
 |.g1 sz pre cells post=>β.sz=sz∧cells.length=sz∧∃b bQ bq us,β.eh=some b∧pre.length+1+post.length≤β.cap∧mB h b (β.off+β.cap * sz)∧β.c_=bQ++bq∧
   repE h true b β.off sz pre bQ∧VRels φ T h cells us∧(∀(j:Nat) (u:Value),us[j]?=some u→cellAt h b (β.off+pre.length * sz+j)=some u)∧repE h true b (β.off+(pre.length+1) * sz) sz post bq
def c5(φ:cp)(hs:List H)(i b:Nat):Prop:=
 ∃β,φ i=some β∧(((aL hs i).m2=true∧β.eh=some b)∨((aL hs i).own=true∧b∈β.c_))
theorem jq.wV{φ:cp}{hs:List H}{i:Nat}{β:gQ}{b:Nat}(e:φ i=some β)(h:jq (aL hs i) β b):c5 φ hs i b:=
 ⟨β,e,h.imp id fun h=>⟨H.Ik h.1,h.2⟩⟩
structure Bel(nA:Nat→Prop)(w w':World):Prop where
 os:w'.os=w.os
 tape:w'.tape=w.tape
 output:w'.output=w.output
 size:w.heap.size≤w'.heap.size
 block:∀k,¬nA k→w'.heap[k]?=w.heap[k]?
 db:∀b n,mB w.heap b n→mB w'.heap b n
theorem Bel.refl(nA:Nat→Prop)(w:World):Bel nA w w:=⟨rfl,rfl,rfl,Nat.le_refl _,fun _ _=>rfl,fun _ _ h=>h⟩
theorem Bel.trans{nA:Nat→Prop}{a b c:World}(h:Bel nA a b)(k:Bel nA b c):Bel nA a c:=
 ⟨k.os.trans h.os,k.tape.trans h.tape,k.output.trans h.output,Nat.le_trans h.size k.size,fun i hi=>(k.block i hi).trans (h.block i hi),fun b n r=>k.db b n (h.db b n r)⟩
theorem Bel.mono{nA Te:Nat→Prop}{w w':World}(h:Bel nA w w')(pO:∀k,nA k→Te k):Bel Te w w':=
 ⟨h.os,h.tape,h.output,h.size,fun k hk=>h.block k fun e=>hk (pO k e),h.db⟩
theorem Bel.drew{nA:Nat→Prop}{a w:World}(h:Bel nA a w):Bel nA a w.drew:=⟨h.os,h.tape,h.output,h.size,h.block,h.db⟩
structure St where
 tmps:List V
 heap:List H
def Tf:List (V×Value):=vI.map fun p=>(.fo p.2 0,.pointer (some ⟨p.1,0,none⟩))
structure R(B:Nat→Prop)(w0:World)(aK:Nat→Prop)(φ:cp)(σ:St)(kp:List (V×Value))(a:Act)(w:World):Prop where
 g8:VRels φ (cz φ σ.heap) w.heap σ.tmps a.tmps.toList
 kp:∀p∈Tf++kp,VRel φ (cz φ σ.heap) w.heap p.1 p.2
 hp:∀i,aL σ.heap i=.b'∨∃β,φ i=some β∧dX φ (cz φ σ.heap) w.heap β (aL σ.heap i)
 dJ:∀i j b,c5 φ σ.heap i b→c5 φ σ.heap j b→i=j
 e9:∀i β,φ i=some β→(aL σ.heap i).own=true→β.c_.Nodup∧∀b,β.eh=some b→b∉β.c_
 e_:∀i b,c5 φ σ.heap i b→B b
 fU:∀i β,φ i=some β→aK i
 fP:Bel B w0 w
 bs:∀k,w.heap.size≤k→B k
 mV:a.defers=[]
 ko:(∀p∈vI,¬B p.1)∧Ci w0.heap
section
variable {φ:cp} {T:Nat→Prop} {h:Array Obj}
theorem jR:∀(vs:List V) (us:List Value),VRels φ T h vs us→us.length=vs.length
 |[],us,r=>by simp only[VRels]at r;rw[r];rfl
 |v::vs,us,r=>by
  simp only[VRels]at r;obtain⟨u,ck,rfl,_,bc⟩:=r;simp[jR vs ck bc]
theorem vG:∀(vs:List V) (us:List Value),VRels φ T h vs us→∀(t:Nat) (v:V),vs[t]?=some v→∃u,us[t]?=some u∧VRel φ T h v u
 |[],_,_,t,v,e=>by simp at e
 |v::vs,us,r,t,fK,e=>by
  simp only[VRels]at r;obtain⟨u,ck,rfl,aM,bc⟩:=r
  cases t with
  |zero=>simp at e;subst e;exact⟨u,by simp,aM⟩
  |succ t=>exact vG vs ck bc t fK (by simpa using e)
theorem zI:∀(vs:List V) (us:List Value),us.length=vs.length→(∀(t:Nat) (v:V) (u:Value),vs[t]?=some v→us[t]?=some u→VRel φ T h v u)→VRels φ T h vs us
 |[],us,e,_=>by simp only[VRels];exact List.eq_nil_of_length_eq_zero (by simpa using e)
 |v::vs,us,e,r=>by
  cases us with
  |nil=>simp at e
  |cons u us=>
   simp only[VRels];exact⟨u,us,rfl,r 0 v u rfl rfl,zI vs us (by simpa using e) fun t fK wS hv hu=>r (t+1) fK wS (by simpa using hv) (by simpa using hu)⟩
theorem abz{vs:List V}{us:List Value}(r:VRels φ T h vs us){v:V}{u:Value}(hv:VRel φ T h v u)(t:Nat):VRels φ T h (vs.set t v) (us.set t u):=by
 refine zI _ _ (by simp[jR _ _ r]) fun i fK wS ah ai=>?_;rw[List.getElem?_set]at ah ai;by_cases hi:t=i
 ·subst hi;simp only[if_true]at ah ai;split at ah
  ·split at ai
   ·cases ah;cases ai;exact hv
   ·cases ai
  ·cases ah
 ·simp only[hi,if_false]at ah ai;obtain⟨aod,k1,k2⟩:=vG _ _ r i fK ah;rw[k1]at ai;cases ai;exact k2
theorem CS{vs vs':List V}{us ck:List Value}(r:VRels φ T h vs us)(c4:VRels φ T h vs' ck):VRels φ T h (vs++vs') (us++ck):=by
 induction vs generalizing us with
 |nil=>simp only[VRels]at r;subst r;simpa using c4
 |cons v vs dW=>
  simp only[VRels]at r;obtain⟨u,Tg,rfl,aM,bc⟩:=r;simp only[bB,VRels];exact⟨u,Tg++ck,rfl,aM,dW bc⟩
theorem Th{vs:List V}{us:List Value}(r:VRels φ T h vs us)(n:Nat):VRels φ T h (vs.take n) (us.take n):=by
 refine zI _ _ (by simp[jR _ _ r]) fun i v u ah ai=>?_;rw[List.getElem?_take]at ah ai;split at ah
 ·rename_i hi;rw[if_pos hi]at ai;obtain⟨wS,k1,k2⟩:=vG _ _ r i v ah;rw[k1]at ai;cases ai;exact k2
 ·cases ah
theorem Ti{vs:List V}{us:List Value}(r:VRels φ T h vs us)(n:Nat):VRels φ T h (vs.drop n) (us.drop n):=by
 refine zI _ _ (by simp[jR _ _ r]) fun i v u ah ai=>?_;rw[List.getElem?_drop]at ah ai;obtain⟨wS,k1,k2⟩:=vG _ _ r (n+i) v ah;rw[k1]at ai;cases ai;exact k2
theorem My{v:V}{u:Value}(r:VRel φ T h v u)(n:Nat):VRels φ T h (List.replicate n v) (List.replicate n u):=by
 induction n with
 |zero=>simp[VRels]
 |succ n dW=>simp only[List.replicate_succ,VRels];exact⟨u,_,rfl,r,dW⟩
end
def nq(φ cV:cp):Prop:=∀i β,φ i=some β→∃a_,cV i=some a_∧a_.eh=β.eh∧a_.off=β.off∧a_.cap=β.cap∧a_.sz=β.sz
theorem nq.refl(φ:cp):nq φ φ:=fun _ β e=>⟨β,e,rfl,rfl,rfl,rfl⟩
structure Ch(φ cV:cp)(T gO:Nat→Prop)(h h':Array Obj):Prop where
 zH:nq φ cV
 cR:∀b,b<h.size→T b→gO b
 dF:∀b,b<h.size→T b→h'[b]?=h[b]?
 hs:h.size≤h'.size
section
variable {φ cV:cp} {T gO:Nat→Prop} {h h':Array Obj}
mutual
theorem D'(K:Ch φ cV T gO h h'):∀(v:V) (u:Value),VRel φ T h v u→VRel cV gO h' v u
 |.ak,_,_=>by simp[VRel]
 |.d x,u,r=>by
  simp only[VRel]at r⊢;obtain⟨F,aM,bc⟩:=r;have hl:=S2 x u F aM;exact⟨F,D8 K.hs x u F (fun b hb=>K.dF b (hl b hb) (bc b hb)) aM,fun b hb=>K.cR b (hl b hb) (bc b hb)⟩
 |.dw _,_,r=>by simpa [VRel]using r
 |.agg vs,u,r=>by
  simp only[VRel]at r⊢;obtain⟨us,aM,bc⟩:=r;exact⟨us,aM,uo K vs us.toList bc⟩
 |.ptr id b0 off,u,r=>by
  simp only[VRel]at r⊢;obtain⟨β,b,aM,bc,cq⟩:=r;obtain⟨a_,k1,k2,ee,ix,zB⟩:=K.zH id β aM;exact⟨a_,b,k1,by rw[k2];exact bc,by rw[ee,zB];exact cq⟩
 |.fo cells off,u,r=>by
  simp only[VRel]at r⊢;obtain⟨b,f,G,aM,bc,cq,cI,fb⟩:=r;have hl:=Mn cells b f G cI;exact⟨b,f,G,aM,Nat.lt_of_lt_of_le bc K.hs,K.cR b bc cq,Ii K.hs cells b f G (K.dF b bc cq) (fun g hg=>K.dF g (hl g hg) (fb g hg)) cI,fun g hg=>K.cR g (hl g hg) (fb g hg)⟩
 |.sl id off len,u,r=>by
  simp only[VRel]at r⊢;obtain⟨β,a,c,aM,bc,cq,cI⟩:=r;obtain⟨a_,k1,k2,ee,ix,zB⟩:=K.zH id β aM;refine⟨a_,a,c,k1,bc,cq,?_⟩;rcases cI with cI|⟨b,cI,fb,hT,wW⟩
  ·exact .inl ⟨cI.1,cI.2.1,by rw[ix];exact cI.2.2⟩
  ·exact .inr ⟨b,by rw[k2];exact cI,by rw[ee,zB];exact fb,hT,by rw[ix];exact wW⟩
 |.fn f eZ,u,r=>by
  simp only[VRel]at r⊢;obtain⟨us,aM,bc⟩:=r;exact⟨us,aM,uo K eZ us.toList bc⟩
 |.dV vs,u,r=>by
  simp only[VRel]at r⊢;obtain⟨us,aM,bc⟩:=r;exact⟨us,aM,uo K vs us.toList bc⟩
 |.bC c v,u,r=>by
  simp only[VRel]at r⊢;exact⟨fun e=>D' K v u (r.1 e),r.2⟩
theorem uo(K:Ch φ cV T gO h h'):∀(vs:List V) (us:List Value),VRels φ T h vs us→VRels cV gO h' vs us
 |[],us,r=>by simpa [VRels]using r
 |v::vs,us,r=>by
  simp only[VRels]at r⊢;obtain⟨u,ck,aM,bc,cq⟩:=r;exact⟨u,ck,aM,D' K v u bc,uo K vs ck cq⟩
end
theorem Lc(K:Ch φ cV T gO h h'){β:gQ}{x:H}(r:dX φ T h β x)(hb:∀b,x.m2=true→β.eh=some b→h'[b]?=h[b]?)(hn:∀b,x.own=true→b∈β.c_→h'[b]?=h[b]?):dX cV gO h' β x:=by
 cases x with
 |b'=>trivial
 |box cells=>
  simp only[dX]at r⊢;obtain⟨b,cs,e,aM,bc,cq,cI⟩:=r;exact⟨b,cs,e,aM,bc,by rw[hb b rfl aM];exact cq,uo K cells cs.toList cI⟩
 |ar sz xs jm=>
  simp only[dX]at r⊢;obtain⟨e,r⟩:=r;refine⟨e,?_⟩;rcases r with r|⟨b,G,aM,bc,cq,cI,fb,hT⟩
  ·exact .inl r
  ·have hl:=wY xs b β.off sz G cI;refine .inr ⟨b,G,aM,bc,cq.mono (hb b rfl aM),?_,fb,fun k g hg=>K.cR g (hl g hg) (hT k g hg)⟩;refine yv K.hs xs b β.off sz G (hb b rfl aM) (fun g hg=>?_) cI
   cases jm with
   |true=>exact hn g rfl (fb rfl▸hg)
   |false=>exact K.dF g (hl g hg) (hT rfl g hg)
 |ic sz xs=>
  simp only[dX]at r⊢;obtain⟨e,r⟩:=r;refine⟨e,?_⟩;rcases r with r|⟨b,G,aM,bc,cq,cI,fb⟩
  ·exact .inl r
  ·have hl:=wY xs b β.off sz G cI;exact .inr ⟨b,G,aM,K.cR b cq bc,Nat.lt_of_lt_of_le cq K.hs,yv K.hs xs b β.off sz G (K.dF b cq bc) (fun g hg=>K.dF g (hl g hg) (fb g hg)) cI,fun g hg=>K.cR g (hl g hg) (fb g hg)⟩
 |af sz xs=>
  simp only[dX]at r⊢;obtain⟨e,r⟩:=r;refine⟨e,?_⟩;rcases r with r|⟨b,aM,bc,cq,cI⟩
  ·exact .inl r
  ·exact .inr ⟨b,aM,bc,cq.mono (hb b rfl aM),yv K.hs xs b β.off sz _ (hb b rfl aM) (fun g hg=>hn g rfl hg) cI⟩
 |g1 sz pre cells post=>
  simp only[dX]at r⊢;obtain⟨e,hc,b,bQ,bq,us,aM,bc,cq,cI,fb,hT,wW,zM⟩:=r;refine⟨e,hc,b,bQ,bq,us,aM,bc,cq.mono (hb b rfl aM),cI,?_,uo K cells us hT,fun j u al=>?_,?_⟩
  ·exact yv K.hs pre b β.off sz bQ (hb b rfl aM) (fun g hg=>hn g rfl (by rw[cI];simp[hg])) fb
  ·rw[CU (hb b rfl aM)];exact wW j u al
  ·exact yv K.hs post b _ sz bq (hb b rfl aM) (fun g hg=>hn g rfl (by rw[cI];simp[hg])) zM
end
theorem c5.lt{B:Nat→Prop}{w0:World}{aK:Nat→Prop}{φ:cp}{σ:St}{kp:List (V×Value)}{a:Act}{w:World}(r:R B w0 aK φ σ kp a w){i b:Nat}(av:c5 φ σ.heap i b):b<w.heap.size:=by
 obtain⟨β,e,av⟩:=av;rcases r.hp i with hd|⟨a_,e',hr⟩
 ·rw[hd]at av;rcases av with ⟨h1,_⟩|⟨h1,_⟩<;>cases h1
 ·rw[e]at e';cases e';rcases av with ⟨h1,h2⟩|⟨h1,h2⟩
  ·cases hx:aL σ.heap i with
   |b'=>rw[hx]at h1;cases h1
   |ic sz xs=>rw[hx]at h1;cases h1
   |box cells=>
    rw[hx]at hr;simp only[dX]at hr;obtain⟨dE,cs,t,aM,bc,cq,cI⟩:=hr;rw[h2]at aM;cases aM;exact mB.lt ⟨cs,t,cq,Nat.zero_le _⟩
   |ar sz xs jm=>
    rw[hx]at hr;simp only[dX]at hr;rcases hr.2 with hr|⟨dE,G,aM,bc,cq,cI,fb,hT⟩
    ·rw[h2]at hr;cases hr.1
    ·rw[h2]at aM;cases aM;exact cq.lt
   |af sz xs=>
    rw[hx]at hr;simp only[dX]at hr;rcases hr.2 with hr|⟨dE,aM,bc,cq,cI⟩
    ·rw[h2]at hr;cases hr.1
    ·rw[h2]at aM;cases aM;exact cq.lt
   |g1 sz pre cells post=>
    rw[hx]at hr;simp only[dX]at hr;obtain⟨_,_,dE,bQ,bq,us,aM,bc,cq,cI⟩:=hr;rw[h2]at aM;cases aM;exact cq.lt
  ·cases hx:aL σ.heap i with
   |b'=>rw[hx]at h1;cases h1
   |ic sz xs=>rw[hx]at h1;cases h1
   |box cells=>rw[hx]at h1;cases h1
   |ar sz xs jm=>
    cases jm with
    |false=>rw[hx]at h1;cases h1
    |true=>
     rw[hx]at hr;simp only[dX]at hr;rcases hr.2 with hr|⟨dE,G,aM,bc,cq,cI,fb,hT⟩
     ·rw[hr.2.2.2]at h2;cases h2
     ·exact wY xs dE β.off sz G cI b ((fb trivial)▸h2)
   |af sz xs=>
    rw[hx]at hr;simp only[dX]at hr;rcases hr.2 with hr|⟨dE,aM,bc,cq,cI⟩
    ·rw[hr.2.2.2]at h2;cases h2
    ·exact wY xs dE β.off sz _ cI b h2
   |g1 sz pre cells post=>
    rw[hx]at hr;simp only[dX]at hr;obtain⟨_,_,dE,bQ,bq,us,aM,bc,cq,cI,fb,hT,wW,zM⟩:=hr;rw[cI]at h2;rcases et.1 h2 with h2|h2
    ·exact wY pre dE β.off sz _ fb b h2
    ·exact wY post dE _ sz _ zM b h2
theorem Tj{B:Nat→Prop}{w0:World}{aK:Nat→Prop}{φ:cp}{σ:St}{kp:List (V×Value)}{a:Act}{w:World}(r:R B w0 aK φ σ kp a w){i:Nat}{β:gQ}(e:φ i=some β)
  (hx:(aL σ.heap i).own=true) (hs:(aL σ.heap i).shut=false) {b:Nat} (hb:b∈β.c_):cz φ σ.heap b:=by
 intro j a_ e' ht;have:=r.dJ i j b ⟨β,e,.inr ⟨hx,hb⟩⟩ (jq.wV e' ht);subst this;rw[e]at e';cases e';rcases ht with ⟨_,he⟩|⟨hl,_⟩
 ·exact(r.e9 i β e hx).2 b he hb
 ·rw[hs]at hl;cases hl
theorem wP{B:Nat→Prop}{w0:World}{aK:Nat→Prop}{φ:cp}{σ:St}{kp:List (V×Value)}{a:Act}{w:World}(r:R B w0 aK φ σ kp a w)
  (S:Nat→Prop) (zz:Nat→Prop) (cV:cp) (hs':List H) (w':World)
  (k1:∀i,¬S i→aL hs' i=aL σ.heap i∧cV i=φ i)
  (k2:nq φ cV)
  (ee:w.heap.size≤w'.heap.size)
  (ix:∀b,b<w.heap.size→(∀i,S i→∀β,φ i=some β→¬jq (aL σ.heap i) β b)→w'.heap[b]?=w.heap[b]?)
  (zB:∀i,S i→∀b,c5 cV hs' i b→w.heap.size≤b∨∃j,S j∧c5 φ σ.heap j b)
  (abA:∀i,S i→∀a_,cV i=some a_→∀b,jq (aL hs' i) a_ b→w.heap.size≤b∨∃j β,S j∧φ j=some β∧jq (aL σ.heap j) β b)
  (abB:∀i j b,S i→S j→c5 cV hs' i b→c5 cV hs' j b→i=j)
  (abC:∀i β,S i→cV i=some β→(aL hs' i).own=true→β.c_.Nodup∧∀b,β.eh=some b→b∉β.c_)
  (abD:∀i,S i→aL hs' i=.b'∨∃β,cV i=some β∧dX cV (cz cV hs') w'.heap β (aL hs' i))
  (abE:∀i β,cV i=some β→zz i)
  (abF:Bel B w0 w') :
  R B w0 zz cV ⟨σ.tmps,hs'⟩ kp a w':=by
 have cR:∀b,b<w.heap.size→cz φ σ.heap b→cz cV hs' b:=by
  intro b hb ht i a_ e' he;by_cases hi:S i
  ·rcases abA i hi a_ e' b he with h1|⟨j,β,h1,h2,aj⟩
   ·omega
   ·exact ht j β h2 aj
  ·obtain⟨ah,ai⟩:=k1 i hi;exact ht i a_ (ai▸e') (ah▸he)
 have dF:∀b,b<w.heap.size→cz φ σ.heap b→w'.heap[b]?=w.heap[b]?:=fun b hb ht=>ix b hb fun i _ β e=>ht i β e;have gq:∀i b,¬S i→c5 cV hs' i b→c5 φ σ.heap i b:=by
  intro i b hi av;obtain⟨ah,ai⟩:=k1 i hi;unfold c5 at av⊢;rw[ah,ai]at av;exact av
 have K:Ch φ cV (cz φ σ.heap) (cz cV hs') w.heap w'.heap:=⟨k2,cR,dF,ee⟩;refine⟨uo K _ _ r.g8,fun p hp=>D' K _ _ (r.kp p hp),fun i=>?_,fun i j b hi al=>?_,fun i β e hx=>?_,fun i b av=>?_,abE,abF,fun k hk=>r.bs k (Nat.le_trans ee hk),r.mV,r.ko⟩
 ·by_cases hi:S i
  ·exact abD i hi
  ·obtain⟨ah,ai⟩:=k1 i hi;simp only[ah,ai];rcases r.hp i with hd|⟨β,e,hr⟩
   ·exact .inl hd
   ·refine .inr ⟨β,e,Lc K hr (fun b hl hb=>?_) (fun b hx hb=>?_)⟩
    ·refine ix b (c5.lt r ⟨β,e,.inl ⟨hl,hb⟩⟩) fun j al a_ e' l5=>?_;have:=r.dJ i j b ⟨β,e,.inl ⟨hl,hb⟩⟩ (jq.wV e' l5);exact hi (this▸al)
    ·refine ix b (c5.lt r ⟨β,e,.inr ⟨hx,hb⟩⟩) fun j al a_ e' l5=>?_;have:=r.dJ i j b ⟨β,e,.inr ⟨hx,hb⟩⟩ (jq.wV e' l5);exact hi (this▸al)
 ·by_cases E_:S i<;>by_cases E':S j
  ·exact abB i j b E_ E' hi al
  ·have h2:=gq j b E' al;rcases zB i E_ b hi with h1|⟨k,h1,aj⟩
   ·have:=c5.lt r h2;omega
   ·exact absurd (r.dJ k j b aj h2▸h1) E'
  ·have h2:=gq i b E_ hi;rcases zB j E' b al with h1|⟨k,h1,aj⟩
   ·have:=c5.lt r h2;omega
   ·exact absurd (r.dJ k i b aj h2▸h1) E_
  ·exact r.dJ i j b (gq i b E_ hi) (gq j b E' al)
 ·by_cases hi:S i
  ·exact abC i β hi e hx
  ·obtain⟨ah,ai⟩:=k1 i hi;simp only[ah,ai]at hx e;exact r.e9 i β e hx
 ·by_cases hi:S i
  ·rcases zB i hi b av with h1|⟨j,h1,h2⟩
   ·exact r.bs _ h1
   ·exact r.e_ j b h2
  ·exact r.e_ i b (gq i b hi av)
theorem mD{B:Nat→Prop}{w0:World}{aK:Nat→Prop}{φ:cp}{σ:St}{kp:List (V×Value)}{a:Act}{w:World}(r:R B w0 aK φ σ kp a w)(dst:Option Tmp){v:V}{u:Value}
  (hv:VRel φ (cz φ σ.heap) w.heap v u):R B w0 aK φ ⟨match dst with|some t=>σ.tmps.set t v|none=>σ.tmps,σ.heap⟩ kp (a.put dst u) w:=by
 cases dst with
 |none=>exact r
 |some t=>
  refine⟨?_,r.kp,r.hp,r.dJ,r.e9,r.e_,r.fU,r.fP,r.bs,r.mV,r.ko⟩;have:=abz r.g8 hv t;simpa [Act.put]using this
theorem abG(hs:List H)(n i:Nat)(x:H)(hn:n<hs.length):aL (hs.set n x) i=if i=n then x else aL hs i:=by
 unfold aL;simp only[ib,List.getElem?_set];by_cases hi:n=i
 ·subst hi;simp[hn]
 ·have:¬i=n:=fun e=>hi e.symm;simp[hi,this]
theorem Sg{B:Nat→Prop}{w0:World}{aK:Nat→Prop}{φ:cp}{σ:St}{kp:List (V×Value)}{a:Act}{w w':World}(r:R B w0 aK φ σ kp a w)(hh:w'.heap=w.heap)(hb:Bel B w0 w'):R B w0 aK φ σ kp a w':=
 ⟨by rw[hh];exact r.g8,by rw[hh];exact r.kp,by rw[hh];exact r.hp,r.dJ,r.e9,r.e_,r.fU,hb,by rw[hh];exact r.bs,r.mV,r.ko⟩
def tyI(P:Program)(T:TypeId):Option (Nat×Bool):=
 match P.info? T,P.underlying T with
 |some i,some d=>some (i.size,match d with|.struct _|.array _ _=>true|_=>false)
 |_,_=>none
def elI(P:Program)(T:TypeId):Option (TypeId×Nat×Nat):=
 match P.underlying T with
 |some (.slice e)=>(P.info? e).map fun i=>(e,i.size,i.bytes)
 |_=>none
def arI(P:Program)(T:TypeId):Option (Nat×Nat):=
 match P.underlying T with
 |some (.array n e)=>(P.info? e).map fun i=>(n,i.size)
 |_=>none
def fdI(P:Program)(S f:Nat):Option Nat:=
 match P.underlying S with
 |some (.struct cS)=>
  match cS[f]? with
  |some Fc=>
   match P.info? Fc.type with
   |some i=>if i.size=0 then none else some Fc.offset
   |none=>none
  |none=>none
 |_=>none
def isStrI(P:Program)(T:TypeId):Bool:=match P.underlying T with|some .string=>true|_=>false
def intI(P:Program)(T:TypeId):Option IntKind:=match P.underlying T with|some (.int k)=>some k|_=>none
def Ij(k:IntKind)(n:Int):Bool:=decide (k.min≤n)&&decide (n≤k.max)
def ofVal:Value→V
 |.int k n=>if Ij k n then .d (.int k n)else .ak
 |.bool b=>.d (.bool b)
 |.string s=>if s.data.toList.length≤maxLen then .d (.str s.data.toList)else .ak
 |.slice none 0 0=>.dw 0
 |_=>.ak
theorem Tt{φ:cp}{T:Nat→Prop}{h:Array Obj}(u:Value):VRel φ T h (ofVal u) u:=by
 unfold ofVal;split
 ·split
  ·rename_i k n hk;simp only[Ij,bP,b2]at hk;exact⟨[],⟨rfl,rfl,hk.1,hk.2⟩,by simp⟩
  ·trivial
 ·rename_i b;exact⟨[],⟨rfl,rfl⟩,by simp⟩
 ·split
  ·rename_i s hs;exact⟨[],⟨rfl,rfl,hs⟩,by simp⟩
  ·trivial
 ·simp[VRel]
 ·trivial
def St.ev(σ:St):Operand→V
 |.tmp t=>σ.tmps.getD t .ak
 |.const v=>ofVal v
 |.func f=>.fn f []
 |.global g=>match vI.find? (fun p=>p.1 == g)with|some p=>.fo p.2 0|none=>.ak
section
variable {B:Nat→Prop} {w0:World} {aK:Nat→Prop} {φ:cp} {σ:St} {kp:List (V×Value)} {a:Act} {w:World}
theorem yb(r:R B w0 aK φ σ kp a w)(x:Operand):VRel φ (cz φ σ.heap) w.heap (σ.ev x) (a.eval x):=by
 cases x with
 |tmp t=>
  simp only[St.ev,Act.eval,ib]
  cases ht:σ.tmps[t]? with
  |none=>simp[VRel]
  |some v=>
   obtain⟨u,h1,h2⟩:=vG _ _ r.g8 t v ht;rw[Array.getElem?_toList]at h1;simpa [h1]using h2
 |const v=>exact Tt v
 |func f=>simp only[St.ev,Act.eval,VRel];exact⟨#[],rfl,by simp[VRels]⟩
 |global g=>
  simp only[St.ev];split
  ·rename_i p hp;have h1:=List.find?_some hp;have h2:=List.mem_of_find?_eq_some hp;have:=r.kp (.fo p.2 0,.pointer (some ⟨p.1,0,none⟩)) (List.mem_append_left _ (List.mem_map.2 ⟨p,h2,rfl⟩));have e:p.1=g:=by simpa using h1
   rw[e]at this;exact this
  ·simp[VRel]
theorem R.Mc(r:R B w0 aK φ σ kp a w):GOk w.heap:=⟨fun p hp=>by
 have:=r.kp (.fo p.2 0,.pointer (some ⟨p.1,0,none⟩)) (List.mem_append_left _ (List.mem_map.2 ⟨p,hp,rfl⟩));simp only[VRel]at this;obtain⟨b,f,G,e,h1,_,h2,_⟩:=this
 cases e
 have bM:=Mp _ _ _ (abk p hp) h2;subst bM;exact⟨h1,h2⟩,r.ko.2.mono fun p hp=>r.fP.block p.1 (r.ko.1 p hp)⟩
theorem abL{φ:cp}{T:Nat→Prop}{h:Array Obj}(g:GOk h)(cR:∀p∈vI,T p.1):∀p∈Tf,VRel φ T h p.1 p.2:=by
 intro p hp;obtain⟨q,hq,rfl⟩:=List.mem_map.1 hp;obtain⟨h1,h2⟩:=g.1 q hq;simp only[VRel];exact⟨q.1,0,[],rfl,h1,cR q hq,h2,by simp⟩
end
structure eD where
 v:V
 new:List H
 upd:List (Nat×H)
def b_(hs:List H)(i:Nat)(x:H):List H:=
 if i<hs.length then hs.set i x else hs++List.replicate (i-hs.length) .b'++[x]
theorem hH(hs:List H)(i:Nat)(x:H)(j:Nat):aL (b_ hs i x) j=if j=i then x else aL hs j:=by
 unfold b_;split
 ·rename_i hi;exact abG hs i j x hi
 ·rename_i hi;unfold aL;simp only[ib,List.append_assoc,List.getElem?_append];by_cases al:j=i
  ·subst al;simp[hi]
  ·simp only[al,if_false,List.length_replicate];by_cases h1:j<hs.length
   ·simp[h1]
   ·simp only[h1,if_false,List.getElem?_eq_none (Nat.le_of_not_lt h1)];by_cases h2:j-hs.length<i-hs.length
    ·simp[h2]
    ·have:1≤j-hs.length-(i-hs.length):=by omega
     simp[h2,List.getElem?_eq_none,this]
def hnew:List H→Nat→List H→List H
 |hs,_,[]=>hs
 |hs,n,x::xs=>hnew (b_ hs n x) (n+1) xs
def hupd:List H→List (Nat×H)→List H
 |hs,[]=>hs
 |hs,(i,x)::r=>hupd (b_ hs i x) r
theorem A4:∀(xs:List H) (hs:List H) (n j:Nat),aL (hnew hs n xs) j=if n≤j∧j<n+xs.length then xs.getD (j-n) .b' else aL hs j
 |[],hs,n,j=>by
  have:¬(n≤j∧j<n+([]:List H).length):=by simp only[ft];omega
  rw[if_neg this];rfl
 |x::xs,hs,n,j=>by
  rw[hnew,A4 xs (b_ hs n x) (n+1) j,hH];by_cases h1:n+1≤j∧j<n+1+xs.length
  ·rw[if_pos h1,if_pos (by simp only[eW];omega)];rw[show j-n=(j-(n+1))+1 from by omega];simp[List.getD]
  ·rw[if_neg h1];by_cases h2:j=n
   ·subst h2;rw[if_pos rfl,if_pos (by simp)];simp
   ·rw[if_neg h2,if_neg (by simp only[eW];omega)]
def St.de(σ:St)(dst:Option Tmp)(n:Nat)(r:eD):St:=
 ⟨match dst with|some t=>σ.tmps.set t r.v|none=>σ.tmps,hupd (hnew σ.heap n r.new) r.upd⟩
def St.le(σ σ':St):Prop:=
 (∀(t:Nat) (v:V),σ.tmps[t]?=some v→v=V.ak∨σ'.tmps[t]?=some v)∧∀i,aL σ.heap i=.b'∨aL σ'.heap i=aL σ.heap i
theorem St.le.refl(σ:St):σ.le σ:=⟨fun _ _ h=>.inr h,fun _=>.inr rfl⟩
theorem St.le.ev{σ σ':St}(h:σ.le σ')(x:Operand):σ.ev x=.ak∨σ'.ev x=σ.ev x:=by
 cases x with
 |tmp t=>
  simp only[St.ev,ib]
  cases ht:σ.tmps[t]? with
  |none=>exact .inl rfl
  |some v=>
   rcases h.1 t v ht with rfl|h2
   ·exact .inl rfl
   ·exact .inr (by rw[h2])
 |const v=>exact .inr rfl
 |func f=>exact .inr rfl
 |global g=>exact .inr rfl
def gP(P:Program)(o:Oper)(g:Bool)(σ:St)(n:Nat)(r:eD):Prop:=
 ∀σ':St,σ.le σ'→(∀i,n≤i→i<n+r.new.length→aL σ'.heap i=.b')→
 ∀(B:Nat→Prop) (w0:World) (aK:Nat→Prop) (φ:cp) (kp:List (V×Value)) (a:Act) (w:World),(∀i,n≤i→i<n+r.new.length→¬aK i)→R B w0 aK φ σ' kp a w→g=true→
 ∀(K:Act→World→Prop) (Q:Exit→Act→World→Prop),
  (∀u w' cV,R B w0 (fun i=>aK i∨(n≤i∧i<n+r.new.length)) cV (σ'.de o.dst n r) kp (a.put o.dst u) w'→K (a.put o.dst u) w')→o.wp P a w K Q
def evg(g:Bool)(v:V)(K:V→Prop):Prop:=
 match v with
 |.bC c v=>(g=true→c=true)∧K v
 |v=>K v
theorem mH{P:Program}{o:Oper}{g:Bool}{σ:St}{n:Nat}{v:V}
  (h:∀σ':St,σ.le σ'→∀(B:Nat→Prop) (w0:World) (aK:Nat→Prop) (φ:cp) (kp:List (V×Value)) (a:Act) (w:World),R B w0 aK φ σ' kp a w→g=true→
   ∃u,(execOp a.eval o).run P w=.ok (.value u) w∧VRel φ (cz φ σ'.heap) w.heap v u):gP P o g σ n ⟨v,[],[]⟩:=by
 intro σ' aY _ B w0 aK φ kp a w _ aQ hg K Q b6;obtain⟨u,h1,h2⟩:=h σ' aY B w0 aK φ kp a w aQ hg;unfold Oper.wp;rw[h1,Oper.upon_value];refine b6 u w φ ?_;have hr:=mD aQ o.dst h2;refine⟨hr.g8,hr.kp,hr.hp,hr.dJ,hr.e9,hr.e_,fun i β e=>.inl (hr.fU i β e),hr.fP,hr.bs,hr.mV,hr.ko⟩
theorem ga{g:Bool}{v:V}{K:V→Prop}(h:evg g v K):∃fK,K fK∧∀(φ:cp) (T:Nat→Prop) (hp:Array Obj) (u:Value),g=true→VRel φ T hp v u→VRel φ T hp fK u:=by
 unfold evg at h;split at h
 ·rename_i c fK;exact⟨fK,h.2,fun φ T hp u hg hr=>by simp only[VRel]at hr;exact hr.1 (h.1 hg)⟩
 ·exact⟨v,h,fun _ _ _ _ _ hr=>hr⟩
theorem fR{σ σ':St}{B:Nat→Prop}{w0:World}{aK:Nat→Prop}{φ:cp}{kp:List (V×Value)}{a:Act}{w:World}(aY:σ.le σ')(r:R B w0 aK φ σ' kp a w)(x:Operand) :
  VRel φ (cz φ σ'.heap) w.heap (σ.ev x) (a.eval x):=by
 rcases aY.ev x with h|h
 ·rw[h];trivial
 ·rw[←h];exact yb r x
def j7(P:Program)(T:TypeId):V→V
 |.dw s=>.dw (match elI P T with|some (_,sz,_)=>sz|none=>s)
 |v=>v
theorem Tu{P:Program}{T:TypeId}{φ:cp}{gO:Nat→Prop}{h:Array Obj}{v:V}{u:Value}(r:VRel φ gO h v u):VRel φ gO h (j7 P T v) u:=by
 cases v<;>first|exact r|(simp only[j7,VRel]at r⊢;exact r)
def V.cells:V→List V
 |.agg vs=>vs
 |v=>[v]
def V.oneB:V→Bool
 |.d _|.dw _|.ptr _ _ _|.fo _ _|.sl _ _ _|.fn _ _=>true
 |_=>false
theorem l'{φ:cp}{T:Nat→Prop}{h:Array Obj}{v:V}{u:Value}(hb:v.oneB=true)(r:VRel φ T h v u):u.oneCell'=true∧u.cells=#[u]:=by
 cases v<;>simp only[V.oneB]at hb<;>simp only[VRel]at r
 case d x=>
  obtain⟨F,aM,_⟩:=r;have:=LX aM;refine⟨this,?_⟩
  cases u<;>first|rfl|(simp[Value.oneCell']at this)
 case dw s=>subst r;exact⟨rfl,rfl⟩
 case ptr id b0 off=>obtain⟨β,b,_,_,r⟩:=r;subst r;exact⟨rfl,rfl⟩
 case fo cells off=>obtain⟨b,f,G,r,_⟩:=r;subst r;exact⟨rfl,rfl⟩
 case sl id off len=>obtain⟨β,a,c,_,r,_⟩:=r;subst r;exact⟨rfl,rfl⟩
 case fn f eZ=>obtain⟨us,r,_⟩:=r;subst r;exact⟨rfl,rfl⟩
 all_goals cases hb
def V.wR:V→Bool
 |.agg vs=>vs.all V.oneB
 |v=>v.oneB
theorem E9{φ:cp}{T:Nat→Prop}{h:Array Obj}{v:V}{u:Value}(hb:v.wR=true)(r:VRel φ T h v u):VRels φ T h v.cells u.cells.toList∧∀x∈u.cells.toList,x.oneCell'=true:=by
 cases v with
 |agg vs=>
  simp only[VRel]at r;obtain⟨us,rfl,r⟩:=r;simp only[V.wR,List.all_eq_true]at hb;refine⟨r,fun x hx=>?_⟩;obtain⟨j,al,rfl⟩:=List.getElem_of_mem hx;have hl:=jR _ _ r;obtain⟨kM,h1,h2⟩:=vG _ _ r j (vs[j]'(by simp only[Value.cells]at al;omega)) (b8 _);simp only[Value.cells]at al⊢;rw[b8 al]at h1
  cases h1
  exact(l' (hb _ (eR _)) h2).1
 |d x=>exact⟨by rw[(l' rfl r).2];simp only[V.cells,VRels];exact⟨_,_,rfl,r,rfl⟩,by rw[(l' rfl r).2];simpa using(l' rfl r).1⟩
 |dw x=>exact⟨by rw[(l' rfl r).2];simp only[V.cells,VRels];exact⟨_,_,rfl,r,rfl⟩,by rw[(l' rfl r).2];simpa using(l' rfl r).1⟩
 |ptr x y z=>exact⟨by rw[(l' rfl r).2];simp only[V.cells,VRels];exact⟨_,_,rfl,r,rfl⟩,by rw[(l' rfl r).2];simpa using(l' rfl r).1⟩
 |fo x y=>exact⟨by rw[(l' rfl r).2];simp only[V.cells,VRels];exact⟨_,_,rfl,r,rfl⟩,by rw[(l' rfl r).2];simpa using(l' rfl r).1⟩
 |sl x y z=>exact⟨by rw[(l' rfl r).2];simp only[V.cells,VRels];exact⟨_,_,rfl,r,rfl⟩,by rw[(l' rfl r).2];simpa using(l' rfl r).1⟩
 |fn x y=>exact⟨by rw[(l' rfl r).2];simp only[V.cells,VRels];exact⟨_,_,rfl,r,rfl⟩,by rw[(l' rfl r).2];simpa using(l' rfl r).1⟩
 |ak=>cases hb
 |dV x=>cases hb
 |bC x y=>cases hb
theorem w4(k:IntKind)(n:Int):k.min≤k.wrap n∧k.wrap n≤k.max:=by
 cases k<;>simp only[IntKind.min,IntKind.max,IntKind.wrap,IntKind.bits,IntKind.signed]<;>simp<;>(try split)<;>omega
theorem TV(k:IntKind):k.min≤0∧0≤k.max:=by
 cases k<;>simp[IntKind.min,IntKind.max,IntKind.bits,IntKind.signed]
theorem acL{k:IntKind}{x y:Int}(h:k.min≤x∧x≤k.max):k.min≤x.tmod y∧x.tmod y≤k.max:=by
 have hk:=TV k;rcases Int.le_total 0 x with h0|h0
 ·have h1:=Int.tmod_nonneg y h0;have h2:x.tmod y≤x:=by
   have:=Int.natAbs_tmod x y;have aj:x.natAbs % y.natAbs≤x.natAbs:=Nat.mod_le _ _;omega
  omega
 ·have h1:x.tmod y≤0:=by
   have:=Int.tmod_nonneg (a:=-x) y (by omega);rw[Int.neg_tmod]at this;omega
  have h2:x≤x.tmod y:=by
   have:=Int.natAbs_tmod x y;have aj:x.natAbs % y.natAbs≤x.natAbs:=Nat.mod_le _ _;omega
  omega
theorem acM{k:IntKind}{x:Int}{n:Nat}(h:k.min≤x∧x≤k.max):k.min≤x.fdiv (2^n)∧x.fdiv (2^n)≤k.max:=by
 have hk:=TV k;have hp:(0:Int)<2^n:=Int.pow_pos (by omega);have he:x.fdiv (2^n)=x / (2^n):=Int.fdiv_eq_ediv_of_nonneg x (by omega);rw[he];rcases Int.le_total 0 x with h0|h0
 ·have h1:0≤x / 2^n:=Int.ediv_nonneg h0 (by omega);have h2:x / 2^n≤x:=Int.ediv_le_self _ h0;omega
 ·have h1:x / 2^n≤0:=by
   have:=Int.ediv_le_ediv hp h0;simpa using this
  have h2:x≤x / 2^n:=by
   rw[Int.le_ediv_iff_mul_le hp];have:x * (2^n-1)≤0:=Int.mul_nonpos_of_nonpos_of_nonneg h0 (by omega);rw[Int.mul_sub]at this;omega
  omega
def bitI(op:BinOp)(k:IntKind)(x y:Int):Int:=
 let a:=BitVec.ofInt k.bits x
 let b:=BitVec.ofInt k.bits y
 k.wrap (match op with
  |.and=>(a &&& b).toNat
  |.or=>(a ||| b).toNat
  |.xor=>(a ^^^ b).toNat
  |_=>(a &&& ~~~b).toNat)
def yw(b:Bool):V:=.d (.bool b)
def oQ(k:IntKind)(n:Int):V:=.d (.int k n)
def E1(s:List UInt8):V:=.d (.str s)
def binI(op:BinOp)(k:IntKind)(x y:Int):Option (Prop×V):=
 match op with
 |.add=>some (True,.d (.int k (k.wrap (x+y))))
 |.sub=>some (True,.d (.int k (k.wrap (x-y))))
 |.mul=>some (True,.d (.int k (k.wrap (x * y))))
 |.quo=>some (y≠0,.d (.int k (k.wrap (x.tdiv y))))
 |.rem=>some (y≠0,.d (.int k (x.tmod y)))
 |.and=>some (True,.d (.int k (bitI .and k x y)))
 |.or=>some (True,.d (.int k (bitI .or k x y)))
 |.xor=>some (True,.d (.int k (bitI .xor k x y)))
 |.eql=>some (True,.d (.bool (x == y)))
 |.neq=>some (True,.d (.bool (x != y)))
 |.lss=>some (True,.d (.bool (decide (x<y))))
 |.leq=>some (True,.d (.bool (decide (x≤y))))
 |.gtr=>some (True,.d (.bool (decide (y<x))))
 |.geq=>some (True,.d (.bool (decide (y≤x))))
 |_=>none
def shI(op:BinOp)(k:IntKind)(x y:Int):Option (Prop×V):=
 match op with
 |.shl=>some (0≤y,.d (.int k (k.wrap (x * 2^min y.toNat k.bits))))
 |.shr=>some (0≤y,.d (.int k (x.fdiv (2^min y.toNat k.bits))))
 |_=>none
def binS(op:BinOp)(x y:List UInt8):Option (Prop×V):=
 match op with
 |.add=>some (x.length+y.length≤maxLen,.d (.str (x++y)))
 |.eql=>some (True,.d (.bool (x == y)))
 |.neq=>some (True,.d (.bool (x != y)))
 |_=>none
def eqD:D→D→Option Bool
 |.int k x,.int iS y=>if k=iS then some (decide (x=y))else none
 |.bool x,.bool y=>some (decide (x=y))
 |.str x,.str y=>some (decide (x=y))
 |_,_=>none
section
variable {φ:cp} {T:Nat→Prop} {h:Array Obj}
theorem mG{k:IntKind}{n:Int}{u:Value}(r:VRel φ T h (.d (.int k n)) u):u=.int k n∧k.min≤n∧n≤k.max:=by
 simp only[VRel,rep]at r;obtain⟨F,⟨aM,_,bc,cq⟩,_⟩:=r;exact⟨aM,bc,cq⟩
theorem mY{b:Bool}{u:Value}(r:VRel φ T h (.d (.bool b)) u):u=.bool b:=by
 simp only[VRel,rep]at r;obtain⟨F,⟨aM,_⟩,_⟩:=r;exact aM
theorem zU{s:List UInt8}{u:Value}(r:VRel φ T h (.d (.str s)) u):u=.string ⟨s.toArray⟩∧s.length≤maxLen:=by
 simp only[VRel,rep]at r;obtain⟨F,⟨aM,_,bc⟩,_⟩:=r;exact⟨aM,bc⟩
theorem nB{k:IntKind}{n:Int}(h1:k.min≤n∧n≤k.max):VRel φ T h (.d (.int k n)) (.int k n):=by
 simp only[VRel,rep];exact⟨[],⟨trivial,rfl,h1.1,h1.2⟩,by simp⟩
theorem vN(b:Bool):VRel φ T h (.d (.bool b)) (.bool b):=by
 simp only[VRel,rep];exact⟨[],⟨trivial,rfl⟩,by simp⟩
theorem Fg{s:List UInt8}(h1:s.length≤maxLen):VRel φ T h (.d (.str s)) (.string ⟨s.toArray⟩):=by
 simp only[VRel,rep];exact⟨[],⟨trivial,rfl,h1⟩,by simp⟩
end
theorem acN(x y:List UInt8):(⟨x.toArray⟩:ByteArray)++(⟨y.toArray⟩:ByteArray)=⟨(x++y).toArray⟩:=by
 apply ByteArray.ext;simp[ByteArray.data_append]
theorem TW(x:List UInt8):(⟨x.toArray⟩:ByteArray).toList=x:=by
 rw[Go.ByteArray.toList_eq]
section
variable {P:Program} {w:World} {φ:cp} {T:Nat→Prop} {h:Array Obj}
theorem abX{op:BinOp}{k:IntKind}{x y:Int}{p:Prop}{v:V}(hx:k.min≤x∧x≤k.max)(ag:binI op k x y=some (p,v))(hp:p)(t:TypeId) :
  ∃u,(binOp op t (.int k x) (.int k y)).run P w=.ok u w∧VRel φ T h v u:=by
 cases op<;>simp only[binI,bF,c1,reduceCtorEq]at ag<;>obtain⟨rfl,rfl⟩:=ag
 case add=>exact⟨_,by simp[binOp,Op.intArith],nB (w4 _ _)⟩
 case sub=>exact⟨_,by simp[binOp,Op.intArith],nB (w4 _ _)⟩
 case mul=>exact⟨_,by simp[binOp,Op.intArith],nB (w4 _ _)⟩
 case quo=>exact⟨_,by simp[binOp,Op.intDiv,hp],nB (w4 _ _)⟩
 case rem=>exact⟨_,by simp[binOp,Op.intDiv,hp],nB (acL hx)⟩
 case and=>exact⟨_,by simp[binOp,Op.intBits,bitI],nB (w4 _ _)⟩
 case or=>exact⟨_,by simp[binOp,Op.intBits,bitI],nB (w4 _ _)⟩
 case xor=>exact⟨_,by simp[binOp,Op.intBits,bitI],nB (w4 _ _)⟩
 all_goals exact⟨_,by simp[binOp,Op.intCmp],vN _⟩
theorem TA{op:BinOp}{k iS:IntKind}{x y:Int}{p:Prop}{v:V}(hx:k.min≤x∧x≤k.max)(ag:shI op k x y=some (p,v))(hp:p)(t:TypeId) :
  ∃u,(binOp op t (.int k x) (.int iS y)).run P w=.ok u w∧VRel φ T h v u:=by
 cases op<;>simp only[shI,bF,c1,reduceCtorEq]at ag<;>obtain⟨rfl,rfl⟩:=ag
 case shl=>exact⟨_,by simp[binOp,Op.shift,Int.not_lt.2 hp],nB (w4 _ _)⟩
 case shr=>exact⟨_,by simp[binOp,Op.shift,Int.not_lt.2 hp],nB (acM hx)⟩
theorem abY{op:BinOp}{x y:List UInt8}{p:Prop}{v:V}(ag:binS op x y=some (p,v))(hp:p)(t:TypeId) :
  ∃u,(binOp op t (.string ⟨x.toArray⟩) (.string ⟨y.toArray⟩)).run P w=.ok u w∧VRel φ T h v u:=by
 cases op<;>simp only[binS,bF,c1,reduceCtorEq]at ag<;>obtain⟨rfl,rfl⟩:=ag
 case add=>
  refine⟨_,?_,Fg (by simpa using hp)⟩;have h1:¬(((⟨x.toArray⟩:ByteArray).size+(⟨y.toArray⟩:ByteArray).size:Nat):Int)>IntKind.i64.max:=by
   have h2:(⟨x.toArray⟩:ByteArray).size=x.length:=by simp[ByteArray.size]
   have aj:(⟨y.toArray⟩:ByteArray).size=y.length:=by simp[ByteArray.size]
   have b3:IntKind.i64.max=9223372036854775807:=by decide
   rw[h2,aj,b3];simp only[maxLen]at hp;omega
  simp only[binOp,Op.stringOp];rw[if_neg h1,acN];rfl
 case eql=>exact⟨_,by simp only[binOp,Op.stringOp,TW];rfl,vN _⟩
 case neq=>exact⟨_,by simp only[binOp,Op.stringOp,TW];rfl,vN _⟩
end
def asB(v:V)(K:Bool→Prop):Prop:=match v with|.d (.bool b)=>K b|_=>False
def asI(v:V)(K:IntKind→Int→Prop):Prop:=match v with|.d (.int k n)=>K k n|_=>False
theorem Ir{v:V}{K:Bool→Prop}(h:asB v K):∃b,v=.d (.bool b)∧K b:=by
 unfold asB at h;split at h
 ·exact⟨_,rfl,h⟩
 ·exact h.elim
theorem zS{v:V}{K:IntKind→Int→Prop}(h:asI v K):∃k n,v=.d (.int k n)∧K k n:=by
 unfold asI at h;split at h
 ·exact⟨_,_,rfl,h⟩
 ·exact h.elim
variable {P:Program} {o:Oper} {g:Bool} {σ:St} {n:Nat} {K:eD→Prop}
def cJ(v:V):eD:=⟨v,[],[]⟩
theorem SL{x:Operand}(av:o.op=.move x∨o.op=.assign x)(h:evg g (σ.ev x) fun v=>K (cJ (j7 P o.type v))):∃r,gP P o g σ n r∧K r:=by
 obtain⟨v,b6,hr⟩:=ga h;refine⟨_,mH fun σ' aY B w0 aK φ kp a w r hg=>⟨a.eval x,?_,Tu (hr _ _ _ _ hg (fR aY r x))⟩,b6⟩;rcases av with av|av<;>(unfold execOp;rw[av];rfl)
def Bc(g:Bool)(c a b:V)(K:V→Prop):Prop:=
 evg g c fun c=>asB c fun x=>evg (g&&x) a fun a=>asB a fun y=>evg (g&&!x) b fun b=>asB b fun z=>K (yw (bif x then y else z))
theorem aaO{c x y:Operand}(av:o.op=.pick c x y)(h:Bc g (σ.ev c) (σ.ev x) (σ.ev y) fun v=>K (cJ v)):∃r,gP P o g σ n r∧K r:=by
 obtain⟨c',h,hc⟩:=ga h;obtain⟨b,rfl,h⟩:=Ir h;obtain⟨kM,h,hx⟩:=ga h;obtain⟨abM,rfl,h⟩:=Ir h;obtain⟨aog,h,hy⟩:=ga h;obtain⟨abN,rfl,h⟩:=Ir h;refine⟨_,mH fun σ' aY B w0 aK φ kp a w r hg=>?_,h⟩;have ah:=mY (hc _ _ _ _ hg (fR aY r c))
 cases b with
 |true=>
  have ai:=mY (hx _ _ _ _ (by simp[hg]) (fR aY r x));exact⟨.bool abM,by unfold execOp;rw[av];simp[ah,ai,asBool],vN _⟩
 |false=>
  have ai:=mY (hy _ _ _ _ (by simp[hg]) (fR aY r y));exact⟨.bool abN,by unfold execOp;rw[av];simp[ah,ai,asBool],vN _⟩
def eqCells:List V→List V→Option Bool
 |[],[]=>some true
 |.d x::xs,.d y::ys=>match eqD x y,eqCells xs ys with|some a,some b=>some (a&&b)|_,_=>none
 |_,_=>none
inductive oR where
 |i (k:IntKind)
 |b
 |s
def Fit1:oR→Value→Prop
 |.i q,.int AR n=>AR=q∧q.min≤n∧n≤q.max
 |.b,.bool _=>True
 |.s,.string s=>s.size≤maxLen
 |_,_=>False
def FitL:List oR→List Value→Prop
 |[],us=>us=[]
 |k::di,us=>∃u ck,us=u::ck∧Fit1 k u∧FitL di ck
def litV:Value→Lit
 |.int q n=>.int q n
 |.bool b=>.bool b
 |.string s=>.string s.data.toList
 |_=>.bool false
theorem Is:∀{di:List oR} {us:List Value},FitL di us→us.length=di.length
 |[],us,h=>by simp only[FitL]at h;rw[h];rfl
 |k::di,us,h=>by
  simp only[FitL]at h;obtain⟨u,ck,rfl,_,h⟩:=h;simp[Is h]
theorem MJ:∀{di kO:List oR} {us:List Value},FitL (di++kO) us→FitL di (us.take di.length)∧FitL kO (us.drop di.length)
 |[],kO,us,h=>by simpa [FitL]using h
 |k::di,kO,us,h=>by
  simp only[bB,FitL]at h;obtain⟨u,ck,rfl,h1,h⟩:=h;obtain⟨h2,aj⟩:=MJ h;exact⟨⟨u,ck.take di.length,by simp,h1,h2⟩,by simpa using aj⟩
def shpF(P:Program)(g:TypeId→Option (List oR)):Nat→List Field→Option (List oR)
 |_,[]=>some []
 |off,f::cS=>
  match g f.type with
  |some di=>if f.offset=off∧P.cellsOf f.type=di.length then(shpF P g (off+di.length) cS).map (di++·)else none
  |none=>none
def shp(P:Program):Nat→TypeId→Option (List oR)
 |0,_=>none
 |d+1,t=>
  match P.underlying t with
  |some .bool=>some [.b]
  |some (.int q)=>some [.i q]
  |some .string=>some [.s]
  |some (.struct cS)=>
   match shpF P (shp P d) 0 cS.toList with
   |some di => if P.cellsOf t = di.length ∧ cS.all (·.name != "_") = true then some di else none
   |none=>none
  |some (.array n e)=>
   match shp P d e with
   |some di=>if P.cellsOf e=di.length∧P.cellsOf t=n * di.length then some (List.replicate n di).flatten else none
   |none=>none
  |_=>none
theorem Tv{α β:Type}{g:α→Option β}{h:α→β}:∀(l:List α),(∀x∈l,g x=some (h x))→l.mapM g=some (l.map h)
 |[],_=>rfl
 |x::l,e=>by
  rw[List.mapM_cons,e x (by simp),Tv l fun y hy=>e y (by simp[hy])];rfl
theorem Tw{di:List oR}:∀(n:Nat) (us:List Value),FitL (List.replicate n di).flatten us→us.length=n * di.length∧(∀i,i<n→FitL di ((us.drop (i * di.length)).take di.length))∧
  ((List.range n).map fun i=>((us.drop (i * di.length)).take di.length).map litV).flatten=us.map litV
 |0,us,h=>by
  have:us=[]:=by simpa [FitL]using h
  subst this;simp
 |n+1,us,h=>by
  rw[List.replicate_succ,List.flatten_cons]at h;obtain⟨h1,h2⟩:=MJ h;obtain⟨aj,aE,b3⟩:=Tw n _ h2;have hl:=Is h;rw[eG]at hl;have C1:=aj;rw[List.length_drop]at aj;have hk:di.length≤us.length:=by omega
  refine⟨by rw[Nat.add_mul];omega,fun i hi=>?_,?_⟩
  ·cases i with
   |zero=>simpa using h1
   |succ i=>
    have:=aE i (by omega)
    rwa [List.drop_drop,show di.length+i * di.length=(i+1) * di.length from by rw[Nat.add_mul];omega]at this
  ·rw[List.range_succ_eq_map,List.map_cons,List.flatten_cons,List.map_map];have:((fun i=>((us.drop (i * di.length)).take di.length).map litV)∘Nat.succ)=fun i=>(((us.drop di.length).drop (i * di.length)).take di.length).map litV:=by
    funext i
    simp only[Function.comp,List.drop_drop,Nat.succ_eq_add_one];rw[show di.length+i * di.length=(i+1) * di.length from by rw[Nat.add_mul];omega]
   rw[this,b3,Nat.zero_mul,List.drop_zero,←List.map_append,List.take_append_drop]
theorem Tx{P:Program}{g:TypeId→Option (List oR)}{d:Nat}(hg:∀t di us,g t=some di→FitL di us→P.keyLits d t us=some (us.map litV))(cs:List Value):∀(cS:List Field) (off:Nat) (di:List oR),
  shpF P g off cS=some di→FitL di (cs.drop off)→∃kO,cS.mapM (fun f=>P.keyLits d f.type ((cs.drop f.offset).take (P.cellsOf f.type)))=some kO∧kO.flatten=(cs.drop off).map litV
 |[],off,di,h,hf=>by
  simp only[shpF,bF]at h;subst h;simp only[FitL]at hf;exact⟨[],rfl,by rw[hf];rfl⟩
 |f::cS,off,di,h,hf=>by
  simp only[shpF]at h;split at h
  ·rename_i k1 mr;split at h
   ·rename_i hc
    cases hr:shpF P g (off+k1.length) cS with
    |none=>rw[hr]at h;cases h
    |some k2=>
     rw[hr]at h;simp only[Option.map_some,bF]at h;subst h;obtain⟨h1,h2⟩:=MJ hf;rw[List.drop_drop]at h2;obtain⟨kO,aj,aE⟩:=Tx hg cs cS (off+k1.length) k2 hr h2;refine⟨((cs.drop off).take k1.length).map litV::kO,?_,?_⟩
     ·rw[List.mapM_cons,hc.1,hc.2,hg _ _ _ mr h1,aj];rfl
     ·rw[List.flatten_cons,aE,←List.drop_drop,←List.map_append,List.take_append_drop]
   ·cases h
  ·cases h
theorem It{P:Program}:∀(d:Nat) (t:TypeId) (di:List oR) (us:List Value),shp P d t=some di→FitL di us→P.keyLits d t us=some (us.map litV)
 |0,t,di,us,h,_=>by simp[shp]at h
 |d+1,t,di,us,h,hf=>by
  have one:∀k,di=[k]→∃u,us=[u]∧Fit1 k u:=by
   rintro k rfl;simp only[FitL]at hf;obtain⟨u,ck,rfl,h1,h2⟩:=hf;exact⟨u,by rw[h2],h1⟩
  unfold shp at h;unfold Program.keyLits;split at h
  ·rename_i hu
   cases h
   obtain⟨u,rfl,h1⟩:=one _ rfl
   cases u<;>simp only[Fit1]at h1
   simp[hu,litV]
  ·rename_i q hu
   cases h
   obtain⟨u,rfl,h1⟩:=one _ rfl
   cases u<;>simp only[Fit1]at h1
   obtain⟨rfl,h1,h2⟩:=h1;simp[hu,litV,Lit.wf,h1,h2]
  ·rename_i hu
   cases h
   obtain⟨u,rfl,h1⟩:=one _ rfl
   cases u<;>simp only[Fit1]at h1
   simp[hu,litV,h1]
  ·rename_i cS hu;split at h
   ·rename_i k1 mr;split at h
    ·rename_i hc
     cases h
     obtain⟨kO,aj,aE⟩:=Tx (d:=d) (fun t di us=>It d t di us) us cS.toList 0 _ mr (by simpa using hf);have hl:=Is hf;simp only[hu];rw[if_pos ⟨by omega,hc.2⟩,aj];simp[aE]
    ·cases h
   ·cases h
  ·rename_i n e hu;split at h
   ·rename_i k1 mr;split at h
    ·rename_i hc
     cases h
     obtain⟨h1,h2,aj⟩:=Tw n us hf;simp only[hu];rw[if_pos (by omega),Tv (h:=fun i=>((us.drop (i * k1.length)).take k1.length).map litV) _ fun i hi=>by
      rw[hc.1];exact It d e k1 _ mr (h2 i (by simpa using hi))]
     simp only[Option.map_some,aj]
    ·cases h
   ·cases h
  ·cases h
def nV(P:Program)(T:TypeId)(di:List oR):Prop:=
 ∀(us gu:List Value) (b:Bool) (x y:Operand) (w:World),FitL di us→FitL di gu→(b=true↔us.map litV=gu.map litV)→
  (do eqGuard .eql T x y (.agg us.toArray) (.agg gu.toArray);binOp .eql T (.agg us.toArray) (.agg gu.toArray)).run P w=.ok (.bool b) w∧
  (do eqGuard .neq T x y (.agg us.toArray) (.agg gu.toArray);binOp .neq T (.agg us.toArray) (.agg gu.toArray)).run P w=.ok (.bool !b) w
theorem EqOK_of{P:Program}{T:TypeId}{di:List oR}(h1:shp P 100 T=some di)(h2:P.eqGuardType P.depth T=false)(aj:P.keyTypeAt 100 T=true)(aE:(match P.underlying T with|some (.struct _)|some (.array _ _)=>true|_=>false)=true)(b3:P.cellsOf T=di.length):nV P T di:=by
 intro us gu b x y w hu hw hb;have Ty:∀vs:List Value,FitL di vs→Value.formed P T (.agg vs.toArray)=true:=by
  intro vs hv;have:=Is hv;unfold Value.formed;simp only;split at aE<;>first|(simp only[*];simp[this])|cases aE
 obtain⟨r,hr,hr2⟩:=run_equalIn_deep (P:=P) 9900 100 T aj w 100 100 (.agg us.toArray) (.agg gu.toArray) _ _ (Ty us hu) (Ty gu hw) (It 100 T di _ h1 (by simpa [Value.cells]using hu)) (It 100 T di _ h1 (by simpa [Value.cells]using hw));have abO:r=b:=by
  simp only[Value.cells]at hr2;rw[Bool.eq_iff_iff,hr2,hb]
 subst abO;constructor
 ·simp only[Sem.run_bind,run_eqGuard_agg w _ T x y _ _ h2,Result.andThen_ok,run_eql_struct];rw[show(10000:Nat)=9900+100 from rfl,hr];rfl
 ·simp only[Sem.run_bind,run_eqGuard_agg w _ T x y _ _ h2,Result.andThen_ok,run_neq_struct];rw[show(10000:Nat)=9900+100 from rfl,hr];rfl
def kindsV:List V→List oR
 |[]=>[]
 |.d (.int k _)::xs=>.i k::kindsV xs
 |.d (.str _)::xs=>.s::kindsV xs
 |_::xs=>.b::kindsV xs
def isBoolI(P:Program)(T:TypeId):Bool:=match P.underlying T with|some .bool=>true|_=>false
def isPtrI(P:Program)(T:TypeId):Bool:=
 match P.underlying T with
 |some (.pointer e)=>match P.info? e with|some i=>i.size != 0|none=>false
 |_=>false
theorem abP{T:TypeId}(h:isPtrI P T=true):∃e i,P.underlying T=some (.pointer e)∧P.info? e=some i∧i.size≠0:=by
 unfold isPtrI at h;split at h
 ·rename_i e hu;split at h
  ·rename_i i hi;exact⟨e,i,hu,hi,by simpa using h⟩
  ·cases h
 ·cases h
theorem abQ{T:TypeId}(b f g9:Nat)(w:World)(h:isPtrI P T=true):(binOp .eql T (.pointer (some ⟨b,f,none⟩)) (.pointer (some ⟨b,g9,none⟩))).run P w=.ok (.bool (decide (f=g9))) w:=by
 obtain⟨e,i,hu,hi,hs⟩:=abP h;have h2:∀d:Nat,(Op.equalIn (d+1) T (.pointer (some ⟨b,f,none⟩)) (.pointer (some ⟨b,g9,none⟩))).run P w=.ok (decide (f=g9)) w:=fun d=>by
  have he:((⟨b,f,none⟩:Addr) == ⟨b,g9,none⟩)=decide (f=g9):=by
   rw[Bool.eq_iff_iff];simp
  have hz:(Go.sizeOf e).run P w=Result.ok i.size w:=by simp[Go.sizeOf,typeInfo,hi]
  simp[Op.equalIn,run_underlying hu,hz,hs,sameAddr,he]
 simp only[binOp];simp[Op.equal,Op.maxDepth,h2 9999]
def binE(P:Program)(op:BinOp)(T:TypeId)(x y:V):Option (Prop×V):=
 match x,y with
 |.d (.int k a),.d (.int iS b)=>
  match op with
  |.shl=>shI .shl k a b
  |.shr=>shI .shr k a b
  |op=>if k=iS then binI op k a b else none
 |.d (.str a),.d (.str b)=>binS op a b
 |.d (.bool a),.d (.bool b)=>
  match op with
  |.eql=>if isBoolI P T then some (True,yw (a == b))else none
  |.neq=>if isBoolI P T then some (True,yw (a != b))else none
  |_=>none
 |.agg xs,.agg ys=>
  match op,eqCells xs ys with
  |.eql,some b=>some (nV P T (kindsV xs),yw b)
  |.neq,some b=>some (nV P T (kindsV xs),yw !b)
  |_,_=>none
 |.ptr id b0 off,.ptr oO Tz zP=>
  match op with
  |.eql=>if id=oO∧b0=Tz∧isPtrI P T=true then some (True,yw (decide (off=zP)))else none
  |_=>none
 |_,_=>none
def withR(r:Option (Prop×V))(K:V→Prop):Prop:=match r with|some (p,v)=>p∧K v|none=>False
theorem zT{r:Option (Prop×V)}{K:V→Prop}(h:withR r K):∃p v,r=some (p,v)∧p∧K v:=by
 unfold withR at h;split at h
 ·exact⟨_,_,rfl,h.1,h.2⟩
 ·exact h.elim
theorem MK{φ:cp}{T:Nat→Prop}{h:Array Obj}:∀(xs ys:List V) (b:Bool) (us gu:List Value),eqCells xs ys=some b→VRels φ T h xs us→VRels φ T h ys gu→(b=true↔us.map litV=gu.map litV)∧FitL (kindsV xs) us∧FitL (kindsV xs) gu
 |[],[],b,us,gu,e,r,c4=>by
  simp only[VRels]at r c4;subst r;subst c4;simp only[eqCells,bF]at e;subst e;simp[kindsV,FitL]
 |[],y::ys,b,us,gu,e,_,_=>by cases e
 |x::xs,[],b,us,gu,e,_,_=>by cases x<;>cases e
 |x::xs,y::ys,b,us,gu,e,r,c4=>by
  simp only[VRels]at r c4;obtain⟨u,ck,rfl,aM,bc⟩:=r;obtain⟨v,abR,rfl,ML,abS⟩:=c4
  cases x with
  |d abT=>
   cases y with
   |d abU=>
    simp only[eqCells]at e;split at e
    ·rename_i a dE ah ai;obtain⟨dW,MM,MN⟩:=MK xs ys dE ck abR ai bc abS
     cases e
     cases abT<;>cases abU<;>simp only[eqD]at ah<;>first|(cases ah;done)|skip
     ·split at ah
      ·rename_i hk;subst hk;have k1:=mG aM;have k2:=mG ML;rw[k1.1,k2.1];cases ah;simp only[kindsV,FitL,List.map_cons,litV];exact⟨by simp[dW],⟨_,_,rfl,⟨rfl,k1.2⟩,MM⟩,⟨_,_,rfl,⟨rfl,k2.2⟩,MN⟩⟩
      ·cases ah
     ·rw[mY aM,mY ML];cases ah;simp only[kindsV,FitL,List.map_cons,litV];exact⟨by simp[dW],⟨_,_,rfl,trivial,MM⟩,⟨_,_,rfl,trivial,MN⟩⟩
     ·have k1:=zU aM;have k2:=zU ML;rw[k1.1,k2.1];cases ah;simp only[kindsV,FitL,List.map_cons,litV];exact⟨by simp[dW],⟨_,_,rfl,by simpa [Fit1,ByteArray.size]using k1.2,MM⟩,⟨_,_,rfl,by simpa [Fit1,ByteArray.size]using k2.2,MN⟩⟩
    ·cases e
   |_=>cases e
  |_=>cases e
theorem EJ{φ:cp}{T:Nat→Prop}{h:Array Obj}{vs:List V}{u:Value}(r:VRel φ T h (.agg vs) u):∃us:Array Value,u=.agg us∧VRels φ T h vs us.toList:=by
 simpa only[VRel]using r
theorem run_equalIn_bool(d:Nat){T:TypeId}(a b:Bool)(w:World)(hu:P.underlying T=some .bool):(Op.equalIn (d+1) T (.bool a) (.bool b)).run P w=.ok (a == b) w:=by
 simp[Op.equalIn,run_underlying hu]
theorem run_eql_bool{T:TypeId}(a b:Bool)(w:World)(hu:P.underlying T=some .bool):(binOp .eql T (.bool a) (.bool b)).run P w=.ok (.bool (a == b)) w:=by
 simp only[binOp];simp[Op.equal,Op.maxDepth,run_equalIn_bool 9999 a b w hu]
theorem run_neq_bool{T:TypeId}(a b:Bool)(w:World)(hu:P.underlying T=some .bool):(binOp .neq T (.bool a) (.bool b)).run P w=.ok (.bool (a != b)) w:=by
 simp only[binOp];simp[Op.equal,Op.maxDepth,run_equalIn_bool 9999 a b w hu,bne]
theorem abV{op:BinOp}{T:TypeId}{x y:V}{p:Prop}{v:V}(ag:binE P op T x y=some (p,v))(hp:p){φ:cp}{MO:Nat→Prop}{h:Array Obj}{u wS:Value}(c7:VRel φ MO h x u)(ks:VRel φ MO h y wS)
  (Iu w3:Operand) (w:World):∃z,(do eqGuard op T Iu w3 u wS;binOp op T u wS).run P w=.ok z w∧VRel φ MO h v z:=by
 have Iv:∀(op:BinOp) (a b:Value),(∀cs ds,¬(a=.agg cs∧b=.agg ds))→¬(a=.nilIface∧b=.nilIface)→(eqGuard op T Iu w3 a b).run P w=.ok () w:=by
  intro op a b h1 h2;unfold eqGuard
  cases op<;>simp<;>(split<;>first|rfl|(exact absurd ⟨rfl,rfl⟩ h2)|(exact absurd ⟨rfl,rfl⟩ (h1 _ _)))
 unfold binE at ag;split at ag
 ·rename_i k abW iS q;have ah:=mG c7;have ai:=mG ks;rw[ah.1,ai.1];have hg:=Iv op (.int k abW) (.int iS q) (fun _ _ h=>by cases h.1) (fun h=>by cases h.1);simp only[Sem.run_bind,hg,Result.andThen_ok];split at ag
  ·exact TA ah.2 ag hp T
  ·exact TA ah.2 ag hp T
  ·split at ag
   ·rename_i hk;subst hk;exact abX ah.2 ag hp T
   ·cases ag
 ·rename_i a b;have ah:=zU c7;have ai:=zU ks;rw[ah.1,ai.1];have hg:=Iv op (.string ⟨a.toArray⟩) (.string ⟨b.toArray⟩) (fun _ _ h=>by cases h.1) (fun h=>by cases h.1);simp only[Sem.run_bind,hg,Result.andThen_ok];exact abY ag hp T
 ·rename_i a b;have ah:=mY c7;have ai:=mY ks;rw[ah,ai];have hg:=Iv op (.bool a) (.bool b) (fun _ _ h=>by cases h.1) (fun h=>by cases h.1);simp only[Sem.run_bind,hg,Result.andThen_ok];split at ag
  ·split at ag
   ·rename_i hb;simp only[bF,c1]at ag;obtain⟨_,rfl⟩:=ag;have hu:P.underlying T=some .bool:=by unfold isBoolI at hb;split at hb<;>first|assumption|cases hb
    exact⟨.bool (a == b),run_eql_bool a b w hu,vN _⟩
   ·cases ag
  ·split at ag
   ·rename_i hb;simp only[bF,c1]at ag;obtain⟨_,rfl⟩:=ag;have hu:P.underlying T=some .bool:=by unfold isBoolI at hb;split at hb<;>first|assumption|cases hb
    exact⟨.bool (a != b),run_neq_bool a b w hu,vN _⟩
   ·cases ag
  ·cases ag
 ·rename_i xs ys;obtain⟨us,rfl,aM⟩:=EJ c7;obtain⟨gu,rfl,bc⟩:=EJ ks;split at ag
  ·rename_i b he;simp only[bF,c1]at ag;obtain⟨rfl,rfl⟩:=ag;obtain⟨ah,ai,aX⟩:=MK _ _ _ _ _ he aM bc;have:=(hp us.toList gu.toList b Iu w3 w ai aX ah).1;exact⟨_,this,vN _⟩
  ·rename_i b he;simp only[bF,c1]at ag;obtain⟨rfl,rfl⟩:=ag;obtain⟨ah,ai,aX⟩:=MK _ _ _ _ _ he aM bc;have:=(hp us.toList gu.toList b Iu w3 w ai aX ah).2;exact⟨_,this,vN _⟩
  ·cases ag
 ·rename_i id b0 off oO Tz zP;split at ag
  ·split at ag
   ·rename_i hc;obtain⟨rfl,rfl,hc⟩:=hc;simp only[bF,c1]at ag;obtain⟨_,rfl⟩:=ag;simp only[VRel]at c7 ks;obtain⟨β,b,cQ,bb,bD⟩:=c7;obtain⟨a_,dE,k1,k2,ee⟩:=ks;rw[cQ]at k1;cases k1;rw[bb]at k2;cases k2;rw[bD,ee];have hg:=Iv .eql (.pointer (some ⟨b,β.off+b0 * β.sz+off,none⟩)) (.pointer (some ⟨b,β.off+b0 * β.sz+zP,none⟩)) (fun _ _ h=>by cases h.1) (fun h=>by cases h.1);simp only[Sem.run_bind,hg,Result.andThen_ok];have e:decide (off=zP)=decide (β.off+b0 * β.sz+off=β.off+b0 * β.sz+zP):=by
     rw[decide_eq_decide];omega
    rw[e];exact⟨_,abQ b _ _ w hc,vN _⟩
   ·cases ag
  ·cases ag
 ·cases ag
theorem aaP{op:BinOp}{T gO:TypeId}{x y:Operand}(av:o.op=.binOp op T x y gO)
  (h:evg g (σ.ev x) fun a=>evg g (σ.ev y) fun b=>withR (binE P op T a b) fun v=>K (cJ v)):∃r,gP P o g σ n r∧K r:=by
 obtain⟨j6,h,hx⟩:=ga h;obtain⟨vb,h,hy⟩:=ga h;obtain⟨p,v,ag,hp,b6⟩:=zT h;refine⟨_,mH fun σ' aY B w0 aK φ kp a w r hg=>?_,b6⟩;obtain⟨z,h1,h2⟩:=abV ag hp (hx _ _ _ _ hg (fR aY r x)) (hy _ _ _ _ hg (fR aY r y)) x y w;refine⟨z,?_,h2⟩;unfold execOp;simp only[av,Sem.run_bind,h1,Result.andThen_ok];rfl
variable {P:Program} {o:Oper} {g:Bool} {σ:St} {n:Nat} {K:eD→Prop}
def unE(op:UnOp)(v:V):Option V:=
 match op,v with
 |.not,.d (.bool b)=>some (yw !b)
 |.neg,.d (.int k x)=>some (oQ k (k.wrap (0-x)))
 |_,_=>none
def withO(r:Option V)(K:V→Prop):Prop:=match r with|some v=>K v|none=>False
theorem Iw{r:Option V}{K:V→Prop}(h:withO r K):∃v,r=some v∧K v:=by
 unfold withO at h;split at h
 ·exact⟨_,rfl,h⟩
 ·exact h.elim
theorem aaQ{op:UnOp}{T:TypeId}{x:Operand}(av:o.op=.unOp op T x)(h:evg g (σ.ev x) fun a=>withO (unE op a) fun v=>K (cJ v)):∃r,gP P o g σ n r∧K r:=by
 obtain⟨j6,h,hx⟩:=ga h;obtain⟨v,ag,b6⟩:=Iw h;refine⟨_,mH fun σ' aY B w0 aK φ kp a w r hg=>?_,b6⟩;have c7:=hx _ _ _ _ hg (fR aY r x);unfold unE at ag;split at ag
 ·cases ag;exact⟨.bool _,by unfold execOp;rw[av];simp[mY c7,Op.unary],vN _⟩
 ·cases ag;exact⟨.int _ _,by unfold execOp;rw[av];simp[(mG c7).1,Op.unary,Op.intArith],nB (w4 _ _)⟩
 ·cases ag
def lenE(P:Program)(T:TypeId)(v:V):Option Nat:=
 match v with
 |.d (.str s)=>if isStrI P T then some s.length else none
 |.d (.sl _ xs)=>if(elI P T).isSome then some xs.length else none
 |.dw _=>if(elI P T).isSome then some 0 else none
 |.sl _ _ len=>if(elI P T).isSome then some len else none
 |_=>none
theorem vD{T:TypeId}{e sz f':Nat}(h:elI P T=some (e,sz,f')):∃i,P.underlying T=some (.slice e)∧P.info? e=some i∧i.size=sz∧i.bytes=f':=by
 unfold elI at h;split at h
 ·rename_i e' hu
  cases hi:P.info? e' with
  |none=>rw[hi]at h;cases h
  |some i=>
   rw[hi]at h;simp only[Option.map_some,bF,c1]at h;obtain⟨rfl,rfl,rfl⟩:=h;exact⟨i,hu,hi,rfl,rfl⟩
 ·cases h
theorem C2{T:TypeId}(h:isStrI P T=true):P.underlying T=some .string:=by
 unfold isStrI at h;split at h<;>first|assumption|cases h
theorem MP{T:TypeId}{k:IntKind}(h:intI P T=some k):P.underlying T=some (.int k):=by
 unfold intI at h;split at h
 ·cases h;assumption
 ·cases h
theorem uF{φ:cp}{T:Nat→Prop}{h:Array Obj}{id off len:Nat}{u:Value}(r:VRel φ T h (.sl id off len) u) :
  ∃β a c,φ id=some β∧u=.slice a len c∧len≤c∧c≤maxLen∧((c=0∧len=0∧off=β.cap)∨∃b,β.eh=some b∧a=some ⟨b,β.off+off * β.sz,none⟩∧off+c=β.cap):=by
 simp only[VRel]at r;obtain⟨β,a,c,h1,h2,aj,aE⟩:=r;rcases aE with aE|⟨b,aE,b3,e2,j4⟩
 ·exact⟨β,a,c,h1,h2,by omega,aj,.inl aE⟩
 ·exact⟨β,a,c,h1,h2,e2,aj,.inr ⟨b,aE,b3,j4⟩⟩
theorem EG{φ:cp}{T:Nat→Prop}{h:Array Obj}{sz:Nat}{xs:List (List D)}{u:Value}(r:VRel φ T h (.d (.sl sz xs)) u) :
  ∃a c,u=.slice a xs.length c∧xs.length≤c∧c≤maxLen∧(xs=[]∨∃b f G,a=some ⟨b,f,none⟩∧b<h.size∧T b∧repE h false b f sz xs G∧∀g∈G,T g):=by
 simp only[VRel,rep]at r;obtain⟨F,⟨a,c,h1,h2,aj,aE⟩,cR⟩:=r;refine⟨a,c,h1,h2,aj,?_⟩;rcases aE with aE|⟨b,f,G,ah,ai,aX,br,_⟩
 ·exact .inl aE.1
 ·subst ai;exact .inr ⟨b,f,G,ah,aX,cR b (by simp),br,fun g hg=>cR g (by simp[hg])⟩
theorem Ix{φ:cp}{T:Nat→Prop}{h:Array Obj}{m:Nat}(hm:m≤maxLen):VRel φ T h (oQ .i64 m) (goInt m):=by
 refine nB ⟨?_,?_⟩
 ·have:IntKind.i64.min=-9223372036854775808:=by decide
  rw[this];omega
 ·have:IntKind.i64.max=9223372036854775807:=by decide
  rw[this];simp only[maxLen]at hm;omega
theorem ok_len{c:Call}{x:Operand}{T:TypeId}(av:o.op=.call c)(hc:c={callee:=.builtin .len,args:=#[x],argTypes:=#[T]})
  (h:evg g (σ.ev x) fun a=>match lenE P T a with|some m=>K (cJ (oQ .i64 m))|none=>False):∃r,gP P o g σ n r∧K r:=by
 subst hc;obtain⟨j6,h,hx⟩:=ga h;split at h
 ·rename_i m hm;refine⟨_,mH fun σ' aY B w0 aK φ kp a w r hg=>?_,h⟩;have c7:=hx _ _ _ _ hg (fR aY r x);have hs:∀{e sz f':Nat} {ad:Option Addr} {l l9:Nat},elI P T=some (e,sz,f')→a.eval x=.slice ad l l9→(execOp a.eval o).run P w=.ok (.value (goInt l)) w:=by
   intro e sz f' ad l l9 he hu;obtain⟨i,nx,_⟩:=vD he;unfold execOp;rw[av];simp[resolve,invoke,builtin,Builtin.len_,run_underlying nx,hu]
  unfold lenE at hm;split at hm
  ·split at hm
   ·rename_i s hs'
    cases hm
    have ah:=zU c7;refine⟨goInt s.length,?_,Ix ah.2⟩;unfold execOp;rw[av];have:(⟨s.toArray⟩:ByteArray).size=s.length:=by simp[ByteArray.size]
    simp[resolve,invoke,builtin,Builtin.len_,run_underlying (C2 hs'),ah.1,this]
   ·cases hm
  ·split at hm
   ·rename_i sz xs he
    cases hm
    obtain⟨ad,l9,ah,ai,aX,_⟩:=EG c7;obtain⟨⟨e,s,f'⟩,he⟩:=Option.isSome_iff_exists.1 he;exact⟨_,hs he ah,Ix (by omega)⟩
   ·cases hm
  ·split at hm
   ·rename_i sz he
    cases hm
    obtain⟨⟨e,s,f'⟩,he⟩:=Option.isSome_iff_exists.1 he;simp only[VRel]at c7;exact⟨_,hs he c7,Ix (by decide)⟩
   ·cases hm
  ·split at hm
   ·rename_i id off len he
    cases hm
    obtain⟨β,ad,l9,_,ah,ai,aX,_⟩:=uF c7;obtain⟨⟨e,s,f'⟩,he⟩:=Option.isSome_iff_exists.1 he;exact⟨_,hs he ah,Ix (by omega)⟩
   ·cases hm
  ·cases hm
 ·exact h.elim
def extE(v:V)(i:Nat):Option V:=match v with|.dV vs=>vs[i]?|_=>none
theorem aaR{x:Operand}{i:Nat}(av:o.op=.extract x i)(h:evg g (σ.ev x) fun a=>withO (extE a i) fun v=>K (cJ v)):∃r,gP P o g σ n r∧K r:=by
 obtain⟨j6,h,hx⟩:=ga h;obtain⟨v,ag,b6⟩:=Iw h;refine⟨_,mH fun σ' aY B w0 aK φ kp a w r hg=>?_,b6⟩;have c7:=hx _ _ _ _ hg (fR aY r x);unfold extE at ag;split at ag
 ·simp only[VRel]at c7;obtain⟨us,ah,aM⟩:=c7;obtain⟨u,ai,bc⟩:=vG _ _ aM i v ag;rw[Array.getElem?_toList]at ai;exact⟨u,by unfold execOp;rw[av];simp[ah,Instr.extract,ai],bc⟩
 ·cases ag
def ptrE(v:V):Bool:=match v with|.ptr _ _ _|.fo _ _=>true|_=>false
theorem abZ{φ:cp}{T:Nat→Prop}{h:Array Obj}{v:V}{u:Value}(hv:ptrE v=true)(r:VRel φ T h v u):∃b f,u=.pointer (some ⟨b,f,none⟩):=by
 unfold ptrE at hv;split at hv
 ·simp only[VRel]at r;obtain⟨β,b,_,_,r⟩:=r;exact⟨_,_,r⟩
 ·simp only[VRel]at r;obtain⟨b,f,G,r,_⟩:=r;exact⟨_,_,r⟩
 ·cases hv
theorem aaS{x:Operand}(av:o.op=.nilCheck x)(h:evg g (σ.ev x) fun a=>ptrE a=true∧K (cJ a)):∃r,gP P o g σ n r∧K r:=by
 obtain⟨j6,h,hx⟩:=ga h;refine⟨_,mH fun σ' aY B w0 aK φ kp a w r hg=>?_,h.2⟩;have c7:=hx _ _ _ _ hg (fR aY r x);obtain⟨b,f,e⟩:=abZ h.1 c7;exact⟨a.eval x,by unfold execOp;rw[av];simp[e],c7⟩
def faE(P:Program)(S:TypeId)(f:Nat)(v:V):Option V:=
 match fdI P S f,v with
 |some d,.ptr id b0 off=>some (.ptr id b0 (off+d))
 |some d,.fo cells off=>some (.fo cells (off+d))
 |_,_=>none
theorem add_lit(b f m:Nat):(⟨b,f,none⟩:Addr).add m=⟨b,f+m,none⟩:=by
 unfold Addr.add;split<;>simp_all
theorem aaT{S:TypeId}{x:Operand}{f:Nat}(av:o.op=.fieldAddr S x f)(h:evg g (σ.ev x) fun a=>withO (faE P S f a) fun v=>K (cJ v)):∃r,gP P o g σ n r∧K r:=by
 obtain⟨j6,h,hx⟩:=ga h;obtain⟨v,ag,b6⟩:=Iw h;refine⟨_,mH fun σ' aY B w0 aK φ kp a w r hg=>?_,b6⟩;have c7:=hx _ _ _ _ hg (fR aY r x);unfold faE at ag;have key:∀{d b p:Nat},fdI P S f=some d→a.eval x=.pointer (some ⟨b,p,none⟩)→(execOp a.eval o).run P w=.ok (.value (.pointer (some ⟨b,p+d,none⟩))) w:=by
  intro d b p hd hu;unfold fdI at hd;split at hd
  ·rename_i cS aT;split at hd
   ·rename_i Fc DF;split at hd
    ·rename_i i hi;split at hd
     ·cases hd
     ·rename_i hz
      cases hd
      unfold execOp;rw[av];have h1:(Go.sizeOf Fc.type).run P w=Result.ok i.size w:=by simp[Go.sizeOf,typeInfo,hi]
      simp[Instr.fieldAt,run_underlying aT,DF,hu,Instr.sureAddr,fieldPlace,h1,hz,add_lit]
    ·cases hd
   ·cases hd
  ·cases hd
 split at ag
 ·rename_i d id b0 off hd
  cases ag
  simp only[VRel]at c7;obtain⟨β,b,ah,ai,aX⟩:=c7;exact⟨_,key hd aX,by simp only[VRel];exact⟨β,b,ah,ai,by simp[Nat.add_assoc]⟩⟩
 ·rename_i d cells off hd
  cases ag
  simp only[VRel]at c7;obtain⟨b,p,G,ah,ai⟩:=c7;exact⟨_,key hd ah,by simp only[VRel];exact⟨b,p,G,by simp[Nat.add_assoc],ai⟩⟩
 ·cases ag
variable {P:Program} {o:Oper} {g:Bool} {σ:St} {n:Nat} {K:eD→Prop}
def H.els:H→Option (Nat×List (List D))
 |.ar sz xs _=>some (sz,xs)
 |.ic sz xs=>some (sz,xs)
 |_=>none
def H.esz:H→Option Nat
 |.ar sz _ _=>some sz
 |.ic sz _=>some sz
 |.af sz _=>some sz
 |.g1 sz _ _ _=>some sz
 |_=>none
def iaE(P:Program)(hs:List H)(T:TypeId)(x:V)(i:Int):Option (Prop×V):=
 match x with
 |.sl id off len=>
  match elI P T,(aL hs id).esz with
  |some (_,sz,_),some g3=>if sz=g3 then some (0≤i∧i<len,.ptr id (off+i.toNat) 0)else none
  |some (_,sz,_),none=>match aL hs id with|.box _=>if sz=1∧off=0 then some (0≤i∧i<len,.ptr id 0 i.toNat)else none|_=>none
  |_,_=>none
 |.d (.sl g3 xs)=>
  match elI P T with
  |some (_,sz,_)=>if sz=g3 then some (0≤i∧i.toNat<xs.length,.fo ((xs[i.toNat]?).getD []) 0)else none
  |none=>none
 |.ptr id b0 off=>
  match arI P T with
  |some (len,sz)=>some (0≤i∧i<len,.ptr id b0 (off+i.toNat * sz))
  |none=>none
 |.fo cells off=>
  match arI P T with
  |some (len,sz)=>some (0≤i∧i<len,.fo cells (off+i.toNat * sz))
  |none=>none
 |_=>none
theorem MQ{φ:cp}{T:Nat→Prop}{h:Array Obj}{β:gQ}{x:H}{sz:Nat}{xs:List (List D)}(he:x.els=some (sz,xs))(r:dX φ T h β x):β.sz=sz:=by
 cases x<;>simp only[H.els,reduceCtorEq,bF,c1]at he
 ·simp only[dX]at r;rw[r.1,he.1]
 ·simp only[dX]at r;rw[r.1,he.1]
theorem ab0{φ:cp}{T:Nat→Prop}{h:Array Obj}{β:gQ}{x:H}{sz:Nat}(he:x.esz=some sz)(r:dX φ T h β x):β.sz=sz:=by
 cases x<;>simp only[H.esz,reduceCtorEq,bF]at he<;>(simp only[dX]at r;rw[r.1,he])
theorem TB{σ σ':St}(aY:σ.le σ'){id:Nat}{p:Nat}(he:(aL σ.heap id).esz=some p):(aL σ'.heap id).esz=some p:=by
 rcases aY.2 id with h|h
 ·rw[h]at he;cases he
 ·rw[h];exact he
theorem ab1{B:Nat→Prop}{w0:World}{aK:Nat→Prop}{φ:cp}{kp:List (V×Value)}{a:Act}{w:World}{σ:St}(r:R B w0 aK φ σ kp a w){id:Nat}{p:Nat}(he:(aL σ.heap id).esz=some p) :
  ∃β,φ id=some β∧dX φ (cz φ σ.heap) w.heap β (aL σ.heap id):=by
 rcases r.hp id with h|h
 ·rw[h]at he;cases he
 ·exact h
theorem CG{σ σ':St}(aY:σ.le σ'){id:Nat}{p:Nat×List (List D)}(he:(aL σ.heap id).els=some p):(aL σ'.heap id).els=some p:=by
 rcases aY.2 id with h|h
 ·rw[h]at he;cases he
 ·rw[h];exact he
theorem HV{B:Nat→Prop}{w0:World}{aK:Nat→Prop}{φ:cp}{kp:List (V×Value)}{a:Act}{w:World}{σ:St}(r:R B w0 aK φ σ kp a w){id:Nat}{p:Nat×List (List D)}(he:(aL σ.heap id).els=some p) :
  ∃β,φ id=some β∧dX φ (cz φ σ.heap) w.heap β (aL σ.heap id):=by
 rcases r.hp id with h|h
 ·rw[h]at he;cases he
 ·exact h
theorem ab2{T:TypeId}{l sz:Nat}(h:arI P T=some (l,sz)):∃e i,P.underlying T=some (.array l e)∧P.info? e=some i∧i.size=sz:=by
 unfold arI at h;split at h
 ·rename_i aoh e' hu
  cases hi:P.info? e' with
  |none=>rw[hi]at h;cases h
  |some i=>
   rw[hi]at h;simp only[Option.map_some,bF,c1]at h;obtain⟨rfl,rfl⟩:=h;exact⟨e',i,hu,hi,rfl⟩
 ·cases h
theorem aaU{T:TypeId}{x jo:Operand}(av:o.op=.indexAddr T x jo)
  (h:evg g (σ.ev x) fun a=>evg g (σ.ev jo) fun b=>asI b fun _ i=>withR (iaE P σ.heap T a i) fun v=>K (cJ v)):∃r,gP P o g σ n r∧K r:=by
 obtain⟨j6,h,hx⟩:=ga h;obtain⟨vb,h,hy⟩:=ga h;obtain⟨k,i,rfl,h⟩:=zS h;obtain⟨p,v,ag,hp,b6⟩:=zT h;refine⟨_,mH fun σ' aY B w0 aK φ kp a w r hg=>?_,b6⟩;have c7:=hx _ _ _ _ hg (fR aY r x);have ks:=mG (hy _ _ _ _ hg (fR aY r jo));have slice:∀{e sz f':Nat} {b f len l9:Nat},elI P T=some (e,sz,f')→a.eval x=.slice (some ⟨b,f,none⟩) len l9→0≤i→i<len→
   (execOp a.eval o).run P w=.ok (.value (.pointer (some ⟨b,f+i.toNat * sz,none⟩))) w:=by
  intro e sz f' b f len l9 he hu h0 h1;obtain⟨yB,nx,hi,hs,_⟩:=vD he;unfold execOp;rw[av];have cH:(Go.sizeOf e).run P w=Result.ok sz w:=by simp[Go.sizeOf,typeInfo,hi,hs]
  simp[Instr.indexAt,run_underlying nx,hu,ks.1,asIntOf,h0,h1,cH,add_lit]
 have array:∀{l sz b f:Nat},arI P T=some (l,sz)→a.eval x=.pointer (some ⟨b,f,none⟩)→0≤i→i<l→(execOp a.eval o).run P w=.ok (.value (.pointer (some ⟨b,f+i.toNat * sz,none⟩))) w:=by
  intro l sz b f he hu h0 h1;obtain⟨e,yB,nx,hi,hs⟩:=ab2 he;unfold execOp;rw[av];have cH:(Go.sizeOf e).run P w=Result.ok sz w:=by simp[Go.sizeOf,typeInfo,hi,hs]
  simp[Instr.indexAt,run_underlying nx,hu,ks.1,asIntOf,h0,h1,cH,add_lit,Instr.sureAddr]
 unfold iaE at ag;split at ag
 ·rename_i id off len;split at ag
  ·rename_i e sz f' g3 he hel;split at ag
   ·rename_i cH;subst cH;simp only[bF,c1]at ag;obtain⟨rfl,rfl⟩:=ag;obtain⟨β,ad,c,ah,ai,aX,br,cF⟩:=uF c7;obtain⟨a_,gr,hr⟩:=ab1 r (TB aY hel);rw[ah]at gr;cases gr;have hs:=ab0 (TB aY hel) hr;rcases cF with cF|⟨b,cF,jy,ny⟩
    ·have:=hp.2;omega
    ·subst jy;refine⟨_,slice he ai hp.1 hp.2,?_⟩;simp only[VRel];refine⟨β,b,ah,cF,?_⟩;rw[hs,Nat.add_mul];simp[Nat.add_assoc]
   ·cases ag
  ·rename_i e sz f' he aoi;split at ag
   ·rename_i cells aoj;split at ag
    ·rename_i hc;obtain⟨rfl,rfl⟩:=hc;simp only[bF,c1]at ag;obtain⟨rfl,rfl⟩:=ag;obtain⟨β,ad,c,ah,ai,aX,br,cF⟩:=uF c7;rcases cF with cF|⟨b,cF,jy,ny⟩
     ·have:=hp.2;omega
     ·subst jy;refine⟨_,slice he ai hp.1 hp.2,?_⟩;simp only[VRel];exact⟨β,b,ah,cF,by simp⟩
    ·cases ag
   ·cases ag
  ·cases ag
 ·rename_i g3 xs;split at ag
  ·rename_i e sz f' he;split at ag
   ·rename_i cH;subst cH;simp only[bF,c1]at ag;obtain⟨rfl,rfl⟩:=ag;obtain⟨ad,c,ah,ai,aX,br⟩:=EG c7;rcases br with br|⟨b,f,G,br,cF,jy,ny,Fe⟩
    ·subst br;simp at hp
    ·subst br;have hlt:=hp.2;obtain⟨bQ,nz,bq,rfl,k1,_,k2,_⟩:=EV ny (b8 hlt);refine⟨_,slice he ah hp.1 (by omega),?_⟩;simp only[VRel];refine⟨b,f+i.toNat * sz,nz,by simp,cF,jy,?_,fun g hg=>Fe g (by simp[hg])⟩;rw[b8 hlt];exact k2
   ·cases ag
  ·cases ag
 ·rename_i id b0 off;split at ag
  ·rename_i len sz he;simp only[bF,c1]at ag;obtain⟨rfl,rfl⟩:=ag;simp only[VRel]at c7;obtain⟨β,b,ah,ai,aX⟩:=c7;exact⟨_,array he aX hp.1 hp.2,by simp only[VRel];exact⟨β,b,ah,ai,by simp[Nat.add_assoc]⟩⟩
  ·cases ag
 ·rename_i cells off;split at ag
  ·rename_i len sz he;simp only[bF,c1]at ag;obtain⟨rfl,rfl⟩:=ag;simp only[VRel]at c7;obtain⟨b,f,G,ah,ai⟩:=c7;exact⟨_,array he ah hp.1 hp.2,by simp only[VRel];exact⟨b,f,G,by simp[Nat.add_assoc],ai⟩⟩
  ·cases ag
 ·cases ag
def wZ(gD:Bool)(vs:List V):V:=if gD then .agg vs else vs.headD .ak
def loadE(P:Program)(hs:List H)(T:TypeId)(x:V):Option (Prop×V):=
 match tyI P T,x with
 |some (sz,gD),.ptr id b0 off=>
  match aL hs id with
  |.box cells=>some (b0=0∧off+sz≤cells.length∧(gD=false→sz=1),wZ gD ((cells.drop off).take sz))
  |.ar _ xs _=>some (b0<xs.length∧off+sz≤((xs[b0]?).getD []).length∧(gD=false→sz=1),wZ gD (((((xs[b0]?).getD []).drop off).take sz).map V.d))
  |.ic _ xs=>some (b0<xs.length∧off+sz≤((xs[b0]?).getD []).length∧(gD=false→sz=1),wZ gD (((((xs[b0]?).getD []).drop off).take sz).map V.d))
  |.g1 _ pre cells _=>some (b0=pre.length∧off+sz≤cells.length∧(gD=false→sz=1),wZ gD ((cells.drop off).take sz))
  |_=>none
 |some (sz,gD),.fo cells off=>some (off+sz≤cells.length∧(gD=false→sz=1),wZ gD (((cells.drop off).take sz).map V.d))
 |_,_=>none
theorem Mx{T:TypeId}{sz:Nat}{gD:Bool}(h:tyI P T=some (sz,gD)):∃i,P.info? T=some i∧i.size=sz∧∀w,(isAgg T).run P w=.ok gD w:=by
 unfold tyI at h;split at h
 ·rename_i i d h1 h2;simp only[bF,c1]at h;obtain⟨rfl,rfl⟩:=h;refine⟨i,h1,rfl,fun w=>?_⟩;unfold isAgg;simp only[Sem.run_bind,run_underlying h2,Result.andThen_ok]
  cases d<;>rfl
 ·cases h
theorem run_load{T:TypeId}{sz:Nat}{gD:Bool}(h:tyI P T=some (sz,gD)){w:World}{b f:Nat}{us:List Value}(hl:us.length=sz)(h1:gD=false→sz=1)(hc:∀(j:Nat) (u:Value),us[j]?=some u→cellAt w.heap b (f+j)=some u) :
  (loadVar T ⟨b,f,none⟩).run P w=.ok (if gD then .agg us.toArray else us.headD undef) w:=by
 obtain⟨i,hi,hs,MR⟩:=Mx h;unfold loadVar;simp only[Sem.run_bind,MR,Result.andThen_ok]
 cases gD with
 |true=>
  have:=run_loadCells_list (P:=P) w ⟨b,f,none⟩ us (fun j v al=>by rw[add_lit,cell_eq];exact hc j v al);simp[Go.sizeOf,typeInfo,hi,hs,←hl,this]
 |false=>
  have cH:=h1 rfl
  match us,hl,cH with
  |[u],_,_=>
   have h0:=hc 0 u rfl;rw[Nat.add_zero,←cell_eq]at h0;simp[h0]
theorem ab3{φ:cp}{T:Nat→Prop}{h:Array Obj}{gD:Bool}{vs:List V}{us:List Value}{sz:Nat}(hl:us.length=sz)(h1:gD=false→sz=1)(r:VRels φ T h vs us) :
  VRel φ T h (wZ gD vs) (if gD then .agg us.toArray else us.headD undef):=by
 cases gD with
 |true=>simp only[wZ,if_true,VRel];exact⟨us.toArray,rfl,r⟩
 |false=>
  have cH:=h1 rfl
  match us,hl,cH with
  |[u],_,_=>
   cases vs with
   |nil=>simp only[VRels]at r;cases r
   |cons v vs=>
    simp only[VRels]at r;obtain⟨wS,ck,e,aM,bc⟩:=r
    cases e
    simpa [wZ]using aM
theorem Iy{φ:cp}{T:Nat→Prop}{h:Array Obj}{b:Nat}:∀(ds:List D) (f:Nat) (G:List Nat),repC h false b f ds G→(∀g∈G,T g)→∃us:List Value,us.length=ds.length∧VRels φ T h (ds.map V.d) us∧∀(j:Nat) (u:Value),us[j]?=some u→cellAt h b (f+j)=some u
 |[],_,_,_,_=>⟨[],rfl,by simp[VRels],by simp⟩
 |d::ds,f,G,r,cR=>by
  simp only[repC]at r;obtain⟨v,bQ,bq,rfl,ai,aX,br⟩:=r;obtain⟨us,k1,k2,ee⟩:=Iy ds (f+1) bq br (fun g hg=>cR g (by simp[hg]));refine⟨v::us,by simp[k1],?_,fun j u al=>?_⟩
  ·simp only[List.map_cons,VRels,VRel];exact⟨v,us,rfl,⟨bQ,aX,fun g hg=>cR g (by simp[hg])⟩,k2⟩
  ·cases j with
   |zero=>simp at al;subst al;simpa using ai
   |succ j=>rw[show f+(j+1)=f+1+j from by omega];exact ee j u (by simpa using al)
theorem ab4{h:Array Obj}{b f:Nat}{us:List Value}(hc:∀(j:Nat) (u:Value),us[j]?=some u→cellAt h b (f+j)=some u)(off sz:Nat) :
  ∀(j:Nat) (u:Value),((us.drop off).take sz)[j]?=some u→cellAt h b (f+off+j)=some u:=by
 intro j u al;rw[List.getElem?_take]at al;split at al
 ·rw[List.getElem?_drop]at al;rw[Nat.add_assoc];exact hc _ _ al
 ·cases al
theorem TC{B:Nat→Prop}{w0:World}{aK:Nat→Prop}{φ:cp}{kp:List (V×Value)}{a:Act}{w:World}{σ:St}(r:R B w0 aK φ σ kp a w){id:Nat}{sz:Nat}{xs:List (List D)}(he:(aL σ.heap id).els=some (sz,xs))
  {β:gQ} (hb:φ id=some β) {b0:Nat} (hi:b0<xs.length):∃b,β.eh=some b∧∃us:List Value,us.length=((xs[b0]?).getD []).length∧VRels φ (cz φ σ.heap) w.heap (((xs[b0]?).getD []).map V.d) us∧
   ∀(j:Nat) (u:Value),us[j]?=some u→cellAt w.heap b (β.off+b0 * β.sz+j)=some u:=by
 obtain⟨a_,ah,hr⟩:=HV r he;rw[hb]at ah;cases ah;have cH:=MQ he hr;have px:xs[b0]?=some xs[b0]:=b8 hi;rw[px]
 cases hx:aL σ.heap id with
 |b'=>rw[hx]at he;cases he
 |box cells=>rw[hx]at he;cases he
 |af _ _=>rw[hx]at he;cases he
 |g1 _ _ _ _=>rw[hx]at he;cases he
 |ar g3 l_ jm=>
  rw[hx]at he hr;simp only[H.els,bF,c1]at he;obtain⟨rfl,rfl⟩:=he;simp only[dX]at hr;rcases hr.2 with hr|⟨b,G,aM,bc,cq,cI,fb,hT⟩
  ·rw[hr.2.1]at hi;simp at hi
  ·obtain⟨bQ,nz,bq,rfl,k1,_,k2,_⟩:=EV cI px;have cR:∀g∈nz,cz φ σ.heap g:=by
    intro g hg
    cases jm with
    |true=>exact Tj r hb (by rw[hx];rfl) (by rw[hx];rfl) (by rw[←fb rfl];simp[hg])
    |false=>exact hT rfl g (by simp[hg])
   have ab5:repC w.heap false b (β.off+b0 * g3) (l_[b0]) nz:=by
    cases jm with
    |true=>exact Mo _ _ _ _ k2
    |false=>exact k2
   obtain⟨us,fk,gB,jl⟩:=Iy (φ:=φ) _ _ _ ab5 cR;exact⟨b,aM,us,fk,gB,by rw[cH];exact jl⟩
 |ic g3 l_=>
  rw[hx]at he hr;simp only[H.els,bF,c1]at he;obtain⟨rfl,rfl⟩:=he;simp only[dX]at hr;rcases hr.2 with hr|⟨b,G,aM,bc,cq,cI,fb⟩
  ·rw[hr]at hi;simp at hi
  ·obtain⟨bQ,nz,bq,rfl,k1,_,k2,_⟩:=EV cI px;obtain⟨us,fk,gB,jl⟩:=Iy (φ:=φ) _ _ _ k2 (fun g hg=>fb g (by simp[hg]));exact⟨b,aM,us,fk,gB,by rw[cH];exact jl⟩
theorem TD{T:TypeId}{B:Nat→Prop}{w0:World}{aK:Nat→Prop}{φ:cp}{kp:List (V×Value)}{a:Act}{w:World}{σ σ':St}(aY:σ.le σ')(r:R B w0 aK φ σ' kp a w){j6 v:V}{p:Prop}(ag:loadE P σ.heap T j6=some (p,v))(hp:p)
  {Iz:Value} (c7:VRel φ (cz φ σ'.heap) w.heap j6 Iz):∃b f u,Iz=.pointer (some ⟨b,f,none⟩)∧(loadVar T ⟨b,f,none⟩).run P w=.ok u w∧VRel φ (cz φ σ'.heap) w.heap v u:=by
 have a2:∀{sz:Nat} {gD:Bool} {b f off:Nat} {vs:List V} {us:List Value},tyI P T=some (sz,gD)→(gD=false→sz=1)→off+sz≤us.length→VRels φ (cz φ σ'.heap) w.heap vs us→
   (∀(j:Nat) (u:Value),us[j]?=some u→cellAt w.heap b (f+j)=some u)→Iz=.pointer (some ⟨b,f+off,none⟩)→
   ∃b f u,Iz=.pointer (some ⟨b,f,none⟩)∧(loadVar T ⟨b,f,none⟩).run P w=.ok u w∧VRel φ (cz φ σ'.heap) w.heap (wZ gD ((vs.drop off).take sz)) u:=by
  intro sz gD b f off vs us oS h1 aok hv hc hu;have hl:((us.drop off).take sz).length=sz:=by simp;omega
  refine⟨_,_,_,hu,run_load oS hl h1 (ab4 hc off sz),?_⟩;exact ab3 hl h1 (Th (Ti hv off) sz)
 unfold loadE at ag;split at ag
 ·rename_i sz gD id b0 off oS;simp only[VRel]at c7;obtain⟨β,b,ah,ai,aX⟩:=c7;have hh:=aY.2 id;split at ag
  ·rename_i cells hc;simp only[bF,c1]at ag;obtain⟨rfl,rfl⟩:=ag;have gN:aL σ'.heap id=.box cells:=by
    rcases hh with hh|hh
    ·rw[hc]at hh;cases hh
    ·rw[hh,hc]
   rcases r.hp id with hd|⟨a_,gr,hr⟩
   ·rw[gN]at hd;cases hd
   ·rw[ah]at gr;cases gr;rw[gN]at hr;simp only[dX]at hr;obtain⟨dE,cs,t,aM,bc,cq,cI⟩:=hr;rw[ai]at aM;cases aM;obtain⟨dp,da,gk⟩:=hp;have ff:=jR _ _ cI;refine a2 (b:=b) (f:=0) oS gk (by rw[ff];exact da) cI (fun j u al=>?_) (by rw[aX,dp,bc];simp);unfold cellAt;rw[cq];simpa using al
  ·rename_i g3 xs jm hc;simp only[bF,c1]at ag;obtain⟨rfl,rfl⟩:=ag;have gN:(aL σ'.heap id).els=some (g3,xs):=CG aY (by rw[hc];rfl);obtain⟨dp,da,gk⟩:=hp;obtain⟨dE,k1,us,k2,ee,ix⟩:=TC r gN ah dp;rw[ai]at k1;cases k1;have:=a2 (b:=b) (f:=β.off+b0 * β.sz) oS gk (by rw[k2];exact da) ee ix aX;rw[List.map_take,List.map_drop];exact this
  ·rename_i g3 xs hc;simp only[bF,c1]at ag;obtain⟨rfl,rfl⟩:=ag;have gN:(aL σ'.heap id).els=some (g3,xs):=CG aY (by rw[hc];rfl);obtain⟨dp,da,gk⟩:=hp;obtain⟨dE,k1,us,k2,ee,ix⟩:=TC r gN ah dp;rw[ai]at k1;cases k1;have:=a2 (b:=b) (f:=β.off+b0 * β.sz) oS gk (by rw[k2];exact da) ee ix aX;rw[List.map_take,List.map_drop];exact this
  ·rename_i g3 pre cells post hc;simp only[bF,c1]at ag;obtain⟨rfl,rfl⟩:=ag;have gN:aL σ'.heap id=.g1 g3 pre cells post:=by
    rcases hh with hh|hh
    ·rw[hc]at hh;cases hh
    ·rw[hh,hc]
   rcases r.hp id with hd|⟨a_,gr,hr⟩
   ·rw[gN]at hd;cases hd
   ·rw[ah]at gr;cases gr;rw[gN]at hr;simp only[dX]at hr;obtain⟨hs,hcl,dE,bQ,bq,us,aM,bc,cq,cI,fb,hT,wW,zM⟩:=hr;rw[ai]at aM;cases aM;obtain⟨dp,da,gk⟩:=hp;have ff:=jR _ _ hT;exact a2 (b:=b) (f:=β.off+pre.length * g3) oS gk (by rw[ff];exact da) hT wW (by rw[aX,dp,hs])
  ·cases ag
 ·rename_i sz gD cells off oS;simp only[bF,c1]at ag;obtain⟨rfl,rfl⟩:=ag;simp only[VRel]at c7;obtain⟨b,f,G,ah,ai,aX,br,cF⟩:=c7;obtain⟨us,fk,gB,jl⟩:=Iy (φ:=φ) _ _ _ br cF;have:=a2 (b:=b) (f:=f) oS hp.2 (by rw[fk];exact hp.1) gB jl ah;rw[List.map_take,List.map_drop];exact this
 ·cases ag
theorem aaV{T:TypeId}{x:Operand}(av:o.op=.load T x)(h:evg g (σ.ev x) fun a=>withR (loadE P σ.heap T a) fun v=>K (cJ v)):∃r,gP P o g σ n r∧K r:=by
 obtain⟨j6,h,hx⟩:=ga h;obtain⟨p,v,ag,hp,b6⟩:=zT h;refine⟨_,mH fun σ' aY B w0 aK φ kp a w r hg=>?_,b6⟩;obtain⟨b,f,u,hu,hl,hv⟩:=TD aY r ag hp (hx _ _ _ _ hg (fR aY r x));refine⟨u,?_,hv⟩;unfold execOp;rw[av];simp[Instr.loadAt,hu,Instr.sureAddr,hl]
variable {P:Program} {o:Oper} {g:Bool} {σ:St} {n:Nat} {K:eD→Prop}
def ixE(P:Program)(T:TypeId)(x:V)(i:Int):Option (Prop×V):=
 match x with
 |.d (.str s)=>if isStrI P T then some (0≤i∧i.toNat<s.length,oQ .u8 ((s[i.toNat]?).getD 0).toNat)else none
 |.agg vs=>
  match P.underlying T with
  |some (.array len e)=>if tyI P e=some (1,false)then some (0≤i∧i<len∧i.toNat<vs.length,(vs[i.toNat]?).getD .ak)else none
  |_=>none
 |_=>none
theorem ab6(b:UInt8):IntKind.u8.min≤(b.toNat:Int)∧(b.toNat:Int)≤IntKind.u8.max:=by
 have h:=b.toNat_lt;have h1:IntKind.u8.min=0:=by decide
 have h2:IntKind.u8.max=255:=by decide
 rw[h1,h2];omega
theorem aaW{T:TypeId}{x jo:Operand}(av:o.op=.index T x jo)
  (h:evg g (σ.ev x) fun a=>evg g (σ.ev jo) fun b=>asI b fun _ i=>withR (ixE P T a i) fun v=>K (cJ v)):∃r,gP P o g σ n r∧K r:=by
 obtain⟨j6,h1,hx⟩:=ga h;obtain⟨vb,h2,hy⟩:=ga h1;obtain⟨k,i,rfl,aj⟩:=zS h2;obtain⟨p,v,ag,hp,b6⟩:=zT aj;clear h h1 h2 aj;refine⟨_,mH fun σ' aY B w0 aK φ kp a w r hg=>?_,b6⟩;have c7:=hx _ _ _ _ hg (fR aY r x);have ks:=mG (hy _ _ _ _ hg (fR aY r jo));unfold ixE at ag;split at ag
 ·rename_i s;split at ag
  ·rename_i hs;simp only[bF,c1]at ag;obtain⟨rfl,rfl⟩:=ag;have ah:=zU c7;have hlt:=hp.2;refine⟨.int .u8 (s[i.toNat]'hlt).toNat,?_,?_⟩
   ·unfold execOp;rw[av];have hb:(⟨s.toArray⟩:ByteArray)[i.toNat]?=some (s[i.toNat]'hlt):=by
     have cH:i.toNat<(⟨s.toArray⟩:ByteArray).size:=by simpa [ByteArray.size]using hlt
     rw[getElem?_pos (⟨s.toArray⟩:ByteArray) i.toNat cH];rfl
    simp[Instr.index,run_underlying (C2 hs),ah.1,ks.1,asIntOf,hp.1,hb]
   ·rw[b8 hlt];exact nB (ab6 _)
  ·cases ag
 ·rename_i vs;split at ag
  ·rename_i len e hu;split at ag
   ·rename_i oS;simp only[bF,c1]at ag;obtain⟨rfl,rfl⟩:=ag;obtain⟨us,ah,aM⟩:=EJ c7;have hlt:=hp.2.2;obtain⟨u,fk,gB⟩:=vG _ _ aM i.toNat _ (b8 hlt);refine⟨u,?_,by rw[b8 hlt];exact gB⟩;obtain⟨yB,hi,hs,MR⟩:=Mx oS;unfold execOp;rw[av];rw[Array.getElem?_toList]at fk;simp[Instr.index,run_underlying hu,ah,ks.1,asIntOf,hp.1,hp.2.1,part,MR,Go.sizeOf,typeInfo,hi,hs,fk]
   ·cases ag
  ·cases ag
 ·cases ag
theorem TE(ab7:Bool)(len cap:Nat)(ca hi:Option Value)(l h:Nat)(w:World)(hl:ca=none∧l=0∨∃k,ca=some (.int k l))(hh:hi=none∧h=len∨∃k,hi=some (.int k h))
  (h1:l≤h) (h2:h≤cap):(Instr.sliceBounds ab7 len cap ca hi none).run P w=.ok (l,h,cap) w:=by
 have uO:∀(k:IntKind) (x y:Nat) (c:BoundsCode),x≤y→(Instr.sliceBound (.int k x) y c).run P w=.ok x w:=by
  intro k x y c kL;simp[Instr.sliceBound,asIntOf,kL]
 unfold Instr.sliceBounds;rcases hl with ⟨rfl,rfl⟩|⟨k,rfl⟩<;>rcases hh with ⟨rfl,rfl⟩|⟨iS,rfl⟩
 ·simp
 ·simp[uO _ _ _ _ h2]
 ·simp[uO _ _ _ _ h1]
 ·simp[uO _ _ _ _ h2,uO _ _ _ _ h1]
def reachE(x:H)(k:Nat):Prop:=match x with|.ar _ xs true=>k≤xs.length|_=>False
def cutE(P:Program)(hs:List H)(T:TypeId)(x:V)(l h:Nat):Option (Prop×V):=
 match x with
 |.d (.str s)=>if isStrI P T then some (l≤h∧h≤s.length,E1 ((s.drop l).take (h-l)))else none
 |.sl id off len=>
  match elI P T,(aL hs id).els with
  |some (_,sz,_),some (g3,_)=>if sz=g3 then some (l≤h∧(h≤len∨reachE (aL hs id) (off+h)),.sl id (off+l) (h-l))else none
  |_,_=>none
 |.d (.sl g3 xs)=>
  match elI P T with
  |some (_,sz,_)=>if sz=g3 then some (l≤h∧h≤xs.length,.d (.sl g3 ((xs.drop l).take (h-l))))else none
  |none=>none
 |.dw s=>if(elI P T).isSome then some (l=0∧h=0,.dw s)else none
 |_=>none
def lenOfV(x:V):Nat:=match x with|.d (.str s)=>s.length|.d (.sl _ xs)=>xs.length|.sl _ _ len=>len|_=>0
def bndE(g:Bool)(σ:St)(d:Nat)(x:Option Operand)(K:Nat→Prop):Prop:=
 match x with
 |none=>K d
 |some x=>evg g (σ.ev x) fun v=>asI v fun _ i=>0≤i∧K i.toNat
theorem Ff{d:Nat}{x:Option Operand}{K:Nat→Prop}(h:bndE g σ d x K):∃l:Nat,K l∧∀{σ':St} {B:Nat→Prop} {w0:World} {aK:Nat→Prop} {φ:cp} {kp:List (V×Value)} {a:Act} {w:World},σ.le σ'→R B w0 aK φ σ' kp a w→g=true→
  (x=none∧l=d∨∃k y,x=some y∧a.eval y=.int k l):=by
 unfold bndE at h;split at h
 ·exact⟨d,h,fun _ _ _=>.inl ⟨rfl,rfl⟩⟩
 ·rename_i y;obtain⟨v,h,hy⟩:=ga h;obtain⟨k,i,rfl,h0,b6⟩:=zS h;refine⟨i.toNat,b6,fun aY r hg=>.inr ⟨k,y,rfl,?_⟩⟩;have:=mG (hy _ _ _ _ hg (fR aY r y));rw[this.1,Int.toNat_of_nonneg h0]
theorem ab8(s:List UInt8)(l h:Nat):(⟨s.toArray⟩:ByteArray).extract l h=⟨((s.drop l).take (h-l)).toArray⟩:=by
 apply ByteArray.ext;apply Array.ext';simp[ByteArray.data_extract,List.extract]
theorem aaX{T:TypeId}{x:Operand}{ca hi:Option Operand}(av:o.op=.slice T x ca hi none)
  (h:evg g (σ.ev x) fun a=>bndE g σ 0 ca fun l=>bndE g σ (lenOfV a) hi fun h=>withR (cutE P σ.heap T a l h) fun v=>K (cJ v)):∃r,gP P o g σ n r∧K r:=by
 obtain⟨j6,h1,hx⟩:=ga h;obtain⟨l,h2,hl⟩:=Ff h1;obtain⟨m,aj,hm⟩:=Ff h2;obtain⟨p,v,ag,hp,b6⟩:=zT aj;clear h h1 h2 aj;refine⟨_,mH fun σ' aY B w0 aK φ kp a w r hg=>?_,b6⟩;have c7:=hx _ _ _ _ hg (fR aY r x);have vz:=hl aY r hg;have ab9:=hm aY r hg;have bl:(ca.map a.eval)=none∧l=0∨∃k,(ca.map a.eval)=some (.int k l):=by
  rcases vz with ⟨rfl,rfl⟩|⟨k,y,rfl,e⟩
  ·exact .inl ⟨rfl,rfl⟩
  ·exact .inr ⟨k,by simp[e]⟩
 have MS:(hi.map a.eval)=none∧m=lenOfV j6∨∃k,(hi.map a.eval)=some (.int k m):=by
  rcases ab9 with ⟨rfl,rfl⟩|⟨k,y,rfl,e⟩
  ·exact .inl ⟨rfl,rfl⟩
  ·exact .inr ⟨k,by simp[e]⟩
 have MT:∀{e sz f':Nat} {ad:Option Addr} {len l9:Nat},elI P T=some (e,sz,f')→a.eval x=.slice ad len l9→lenOfV j6=len→l≤m→m≤l9→
   (execOp a.eval o).run P w=.ok (.value (.slice (if l9=l then ad else ad.map (·.add (l * sz))) (m-l) (l9-l))) w:=by
  intro e sz f' ad len l9 he hu ff h1 h2;obtain⟨yB,nx,dC,hs,_⟩:=vD he;have cH:(Go.sizeOf e).run P w=Result.ok sz w:=by simp[Go.sizeOf,typeInfo,dC,hs]
  have hb:=TE (P:=P) true len l9 (ca.map a.eval) (hi.map a.eval) l m w bl (by rw[ff]at MS;exact MS) h1 h2;unfold execOp;rw[av];simp[Instr.sliceAt,Instr.slice,run_underlying nx,hu,hb,cH]
 unfold cutE at ag;split at ag
 ·rename_i s;split at ag
  ·rename_i hs;simp only[bF,c1]at ag;obtain⟨rfl,rfl⟩:=ag;have ah:=zU c7;have cH:(⟨s.toArray⟩:ByteArray).size=s.length:=by simp[ByteArray.size]
   have hb:=TE (P:=P) false s.length s.length (ca.map a.eval) (hi.map a.eval) l m w bl MS hp.1 hp.2;refine⟨.string ⟨((s.drop l).take (m-l)).toArray⟩,?_,Fg (by simp;omega)⟩;unfold execOp;rw[av];simp[Instr.sliceAt,Instr.slice,run_underlying (C2 hs),ah.1,cH,hb,ab8]
  ·cases ag
 ·rename_i id off len;split at ag
  ·rename_i e sz f' g3 xs he hel;split at ag
   ·rename_i cH;subst cH;simp only[bF,c1]at ag;obtain⟨rfl,rfl⟩:=ag;obtain⟨β,ad,c,ah,ai,aX,br,cF⟩:=uF c7;obtain⟨a_,gr,hr⟩:=HV r (CG aY hel);rw[ah]at gr;cases gr;have hs:=MQ (CG aY hel) hr;have aca:m≤c:=by
     rcases hp.2 with hp|hp
     ·omega
     ·unfold reachE at hp;split at hp
      ·rename_i w1 l_ hI;have fJ:aL σ'.heap id=.ar w1 l_ true:=by
        rcases aY.2 id with hh|hh
        ·rw[hI]at hh;cases hh
        ·rw[hh,hI]
       rw[fJ]at hr;simp only[dX]at hr;have aol:off+c=β.cap:=by
        rcases cF with cF|⟨_,_,_,cF⟩
        ·omega
        ·exact cF
       rcases hr.2 with hr|⟨_,_,_,hr,_⟩
       ·rw[hr.2.1]at hp;simp at hp;omega
       ·omega
      ·exact hp.elim
    refine⟨_,MT he ai rfl hp.1 aca,?_⟩;simp only[VRel];refine⟨β,_,c-l,ah,rfl,by omega,?_⟩;by_cases hcl:c=l
    ·exact .inl ⟨by omega,by omega⟩
    ·rcases cF with cF|⟨b,cF,jy,ny⟩
     ·exfalso;omega
     ·subst jy;refine .inr ⟨b,cF,?_,by omega,by omega⟩;rw[if_neg hcl];simp only[Option.map_some,add_lit,hs];rw[Nat.add_mul,←Nat.add_assoc]
   ·cases ag
  ·cases ag
 ·rename_i g3 xs;split at ag
  ·rename_i e sz f' he;split at ag
   ·rename_i cH;subst cH;simp only[bF,c1]at ag;obtain⟨rfl,rfl⟩:=ag;obtain⟨ad,c,ah,ai,aX,br⟩:=EG c7;have ff:((xs.drop l).take (m-l)).length=m-l:=by simp;omega
    refine⟨_,MT he ah rfl hp.1 (by omega),?_⟩;simp only[VRel,rep];by_cases hne:(xs.drop l).take (m-l)=[]
    ·have TF:m-l=0:=by rw[←ff,hne];rfl
     exact⟨[],⟨_,c-l,by rw[ff],by omega,by omega,.inl ⟨hne,rfl,fun h=>by cases h⟩⟩,by simp⟩
    ·rcases br with br|⟨b,f,G,br,cF,jy,ny,Fe⟩
     ·subst br;simp at hne
     ·subst br;have TF:0<m-l:=by rw[←ff];exact List.length_pos_iff.2 hne
      have CH:xs=xs.take l++((xs.drop l).take (m-l)++(xs.drop l).drop (m-l)):=by rw[List.take_append_drop,List.take_append_drop]
      rw[CH]at ny;obtain⟨bQ,bq,rfl,k1,k2⟩:=(repE_append _ _ _ _).1 ny;obtain⟨Bl,Tb,rfl,ee,ix⟩:=(repE_append _ _ _ _).1 k2;have jk:(xs.take l).length=l:=by simp;omega
      rw[jk]at ee;refine⟨b::Bl,⟨_,c-l,by rw[ff],by omega,by omega,.inr ⟨b,f+l * sz,Bl,?_,rfl,cF,ee,fun h=>by cases h⟩⟩,?_⟩
      ·have hcl:¬c=l:=by omega
       rw[if_neg hcl];simp[add_lit]
      ·intro y hy;rcases List.mem_cons.1 hy with rfl|hy
       ·exact jy
       ·exact Fe y (by simp[hy])
   ·cases ag
  ·cases ag
 ·rename_i s;split at ag
  ·rename_i he;simp only[bF,c1]at ag;obtain⟨rfl,rfl⟩:=ag;obtain⟨⟨e,sz,f'⟩,he⟩:=Option.isSome_iff_exists.1 he;simp only[VRel]at c7;have hh:=MT he c7 rfl (by omega) (by omega);obtain⟨rfl,rfl⟩:=hp;refine⟨_,hh,?_⟩;simp[VRel]
  ·cases ag
 ·cases ag
def cut3E(P:Program)(T:TypeId)(x:V)(l h m:Nat):Option (Prop×V):=
 match x with
 |.sl _ _ len=>if(elI P T).isSome then some (l≤h∧h≤m∧m≤len,.ak)else none
 |_=>none
theorem aa3{T:TypeId}{x ca hi wK:Operand}(av:o.op=.slice T x (some ca) (some hi) (some wK))
  (h:evg g (σ.ev x) fun a=>bndE g σ 0 (some ca) fun l=>bndE g σ 0 (some hi) fun h=>bndE g σ 0 (some wK) fun m=>withR (cut3E P T a l h m) fun v=>K (cJ v)):∃r,gP P o g σ n r∧K r:=by
 obtain⟨j6,h1,hx⟩:=ga h;obtain⟨l,h2,hl⟩:=Ff h1;obtain⟨m,aj,hm⟩:=Ff h2;obtain⟨q,aE,hq⟩:=Ff aj;obtain⟨p,v,ag,hp,b6⟩:=zT aE;clear h h1 h2 aj aE;refine⟨_,mH fun σ' aY B w0 aK φ kp a w r hg=>?_,b6⟩;have c7:=hx _ _ _ _ hg (fR aY r x);have MU:∀{z:Operand} {d t:Nat},((some z=none∧t=d)∨∃k y,some z=some y∧a.eval y=.int k t)→∃k,a.eval z=.int k t:=by
  rintro z d t (⟨h,_⟩|⟨k,y,h,e⟩)
  ·cases h
  ·cases h;exact⟨k,e⟩
 obtain⟨k1,MV⟩:=MU (hl aY r hg);obtain⟨k2,em⟩:=MU (hm aY r hg);obtain⟨ee,eq⟩:=MU (hq aY r hg);unfold cut3E at ag;split at ag
 ·rename_i id off len;split at ag
  ·rename_i hs;simp only[bF,c1]at ag;obtain⟨rfl,rfl⟩:=ag;obtain⟨dp,da,gk⟩:=hp;obtain⟨⟨e,sz,f'⟩,he⟩:=Option.isSome_iff_exists.1 hs;obtain⟨yB,nx,dC,hs,_⟩:=vD he;have cH:(Go.sizeOf e).run P w=Result.ok sz w:=by simp[Go.sizeOf,typeInfo,dC,hs]
   obtain⟨β,ad,c,ah,ai,aX,br,cF⟩:=uF c7;have uO:∀(k:IntKind) (x y:Nat) (c:BoundsCode),x≤y→(Instr.sliceBound (.int k x) y c).run P w=.ok x w:=by
    intro k x y c kL;simp[Instr.sliceBound,asIntOf,kL]
   have hb:(Instr.sliceBounds true len c (some (.int k1 l)) (some (.int k2 m)) (some (.int ee q))).run P w=.ok (l,m,q) w:=by
    unfold Instr.sliceBounds;simp[uO _ _ _ _ (show q≤c by omega),uO _ _ _ _ da,uO _ _ _ _ dp]
   refine⟨.slice (if q=l then ad else ad.map (·.add (l * sz))) (m-l) (q-l),?_,by simp only[VRel]⟩;unfold execOp;rw[av];simp[Instr.sliceAt,Instr.slice,run_underlying nx,MV,em,eq,ai,hb,cH]
  ·cases ag
 ·cases ag
variable {P:Program} {o:Oper} {g:Bool} {σ:St} {n:Nat} {K:eD→Prop}
def byte1:List D→Option UInt8
 |[.int .u8 n]=>some (UInt8.ofNat n.toNat)
 |_=>none
def bytesL:List (List D)→Option (List UInt8)
 |[]=>some []
 |c::cs=>match byte1 c,bytesL cs with|some b,some r=>some (b::r)|_,_=>none
def elsOf(hs:List H)(x:V):Option (Nat×List (List D)):=
 match x with
 |.sl id off len=>match(aL hs id).els with|some (sz,xs)=>if off+len≤xs.length then some (sz,(xs.drop off).take len)else none|none=>none
 |.d (.sl sz xs)=>some (sz,xs)
 |.dw sz=>some (sz,[])
 |_=>none
theorem HT{B:Nat→Prop}{w0:World}{aK:Nat→Prop}{φ:cp}{kp:List (V×Value)}{a:Act}{w:World}{σ σ':St}(aY:σ.le σ')(r:R B w0 aK φ σ' kp a w){x:V}{sz:Nat}{xs:List (List D)}(he:elsOf σ.heap x=some (sz,xs))
  {u:Value} (c7:VRel φ (cz φ σ'.heap) w.heap x u):∃ad c,u=.slice ad xs.length c∧xs.length≤c∧c≤maxLen∧
   (xs=[]∨∃b f G,ad=some ⟨b,f,none⟩∧b<w.heap.size∧repE w.heap false b f sz xs G∧∀g∈G,cz φ σ'.heap g):=by
 unfold elsOf at he;split at he
 ·rename_i id off len;split at he
  ·rename_i g3 ys hel;split at he
   ·rename_i hb;simp only[bF,c1]at he;obtain⟨rfl,rfl⟩:=he;obtain⟨β,ad,c,ah,ai,aX,br,cF⟩:=uF c7;have nD:=CG aY hel;obtain⟨a_,gr,hr⟩:=HV r nD;rw[ah]at gr;cases gr;have hs:=MQ nD hr;have ff:((ys.drop off).take len).length=len:=by simp;omega
    refine⟨ad,c,by rw[ff];exact ai,by omega,br,?_⟩;by_cases hne:(ys.drop off).take len=[]
    ·exact .inl hne
    ·have IA:0<len:=by rw[←ff];exact List.length_pos_iff.2 hne
     rcases cF with cF|⟨b,cF,jy,ny⟩
     ·omega
     ·subst jy;have CH:ys=ys.take off++((ys.drop off).take len++(ys.drop off).drop len):=by rw[List.take_append_drop,List.take_append_drop]
      have jk:(ys.take off).length=off:=by simp;omega
      have key:∀{bl:Bool} {G:List Nat},repE w.heap bl b β.off g3 ys G→∃jS,(∀g∈jS,g∈G)∧repE w.heap bl b (β.off+off * g3) g3 ((ys.drop off).take len) jS:=by
       intro bl G bM;rw[CH]at bM;obtain⟨bQ,bq,rfl,k1,k2⟩:=(repE_append _ _ _ _).1 bM;obtain⟨Bl,Tb,rfl,ee,ix⟩:=(repE_append _ _ _ _).1 k2;rw[jk]at ee;exact⟨Bl,fun y hy=>by simp[hy],ee⟩
      cases hx:aL σ'.heap id with
      |b'=>rw[hx]at nD;cases nD
      |box cells=>rw[hx]at nD;cases nD
      |af _ _=>rw[hx]at nD;cases nD
      |g1 _ _ _ _=>rw[hx]at nD;cases nD
      |ar acb MW jm=>
       rw[hx]at nD hr;simp only[H.els,bF,c1]at nD;obtain⟨rfl,rfl⟩:=nD;simp only[dX]at hr;rcases hr.2 with hr|⟨dE,G,aM,bc,cq,cI,fb,hT⟩
       ·rw[hr.2.1]at hb;simp at hb;omega
       ·rw[cF]at aM;cases aM;obtain⟨jS,cC,c8⟩:=key cI;refine .inr ⟨b,_,jS,rfl,cq.lt,?_,fun g hg=>?_⟩
        ·rw[hs]
         cases jm with
         |true=>exact EZ _ _ _ _ _ c8
         |false=>exact c8
        ·cases jm with
         |true=>exact Tj r ah (by rw[hx];rfl) (by rw[hx];rfl) (by rw[←fb rfl];exact cC g hg)
         |false=>exact hT rfl g (cC g hg)
      |ic acb MW=>
       rw[hx]at nD hr;simp only[H.els,bF,c1]at nD;obtain⟨rfl,rfl⟩:=nD;simp only[dX]at hr;rcases hr.2 with hr|⟨dE,G,aM,bc,cq,cI,fb⟩
       ·rw[hr]at hb;simp at hb;omega
       ·rw[cF]at aM;cases aM;obtain⟨jS,cC,c8⟩:=key cI;exact .inr ⟨b,_,jS,rfl,cq,by rw[hs];exact c8,fun g hg=>fb g (cC g hg)⟩
   ·cases he
  ·cases he
 ·simp only[bF,c1]at he;obtain⟨rfl,rfl⟩:=he;obtain⟨ad,c,ah,ai,aX,br⟩:=EG c7;refine⟨ad,c,ah,ai,aX,?_⟩;rcases br with br|⟨b,f,G,br,cF,jy,ny,Fe⟩
  ·exact .inl br
  ·exact .inr ⟨b,f,G,br,cF,ny,Fe⟩
 ·simp only[bF,c1]at he;obtain⟨rfl,rfl⟩:=he;simp only[VRel]at c7;exact⟨none,0,c7,by simp,by decide,.inl rfl⟩
 ·cases he
theorem MX{h:Array Obj}{b:Nat}:∀(cs:List (List D)) (s:List UInt8) (f:Nat) (G:List Nat),bytesL cs=some s→repE h false b f 1 cs G→
  s.length=cs.length∧∀(j:Nat) (c:UInt8),s[j]?=some c→∃n:Int,cellAt h b (f+j)=some (.int .u8 n)∧UInt8.ofNat n.toNat=c
 |[],s,f,G,e,_=>by simp only[bytesL,bF]at e;subst e;simp
 |c::cs,s,f,G,e,r=>by
  simp only[bytesL]at e;split at e
  ·rename_i dE c4 ah ai
   cases e
   simp only[repE]at r;obtain⟨bQ,bq,rfl,k1,k2,ee⟩:=r;obtain⟨acd,ace⟩:=MX cs c4 (f+1) bq ai ee;refine⟨by simp[acd],fun j x al=>?_⟩
   cases j with
   |zero=>
    simp at al;subst al;unfold byte1 at ah;split at ah
    ·rename_i m
     cases ah
     simp only[repC]at k2;obtain⟨v,uL,uM,_,cM,dI,_⟩:=k2;simp only[rep]at dI;exact⟨m,by rw[Nat.add_zero,cM,dI.1],rfl⟩
    ·cases ah
   |succ j=>
    have:=ace j x (by simpa using al);rw[show f+(j+1)=f+1+j from by omega];exact this
  ·cases e
theorem TG:∀(lQ:List Int) (s:ByteArray),lQ.foldl (fun r n=>r.push (UInt8.ofNat n.toNat)) s=⟨(s.data.toList++lQ.map fun n=>UInt8.ofNat n.toNat).toArray⟩
 |[],s=>by simp
 |m::lQ,s=>by
  rw[List.foldl_cons,TG lQ];simp[ByteArray.push]
def cvE(P:Program)(hs:List H)(mA dst:TypeId)(x:V):Option (Prop×V):=
 match x with
 |.d (.int _ n)=>
  match intI P mA,intI P dst with
  |some _,some k=>some (True,oQ k (k.wrap n))
  |_,_=>none
 |.d (.str s)=>if isStrI P mA&&isStrI P dst then some (True,E1 s)else none
 |x=>
  match elI P mA,elsOf hs x with
  |some (e,1,_),some (1,xs)=>if intI P e=some .u8&&isStrI P dst then some ((bytesL xs).isSome=true,E1 ((bytesL xs).getD []))else none
  |some (e,1,_),some (_,[])=>if intI P e=some .u8&&isStrI P dst then some (True,E1 [])else none
  |_,_=>none
theorem TH{w:World}{mA dst e:TypeId}{s f':Nat}(he:elI P mA=some (e,s,f'))(hk:(intI P e=some .u8&&isStrI P dst)=true){ad:Option Addr}{c:Nat}{xs:List (List D)}{t:List UInt8}(ht:bytesL xs=some t)
  (h:xs=[]∨∃b f G,ad=some ⟨b,f,none⟩∧repE w.heap false b f 1 xs G):(convert mA dst (.slice ad xs.length c)).run P w=.ok (.string ⟨t.toArray⟩) w:=by
 simp only[bP,b2]at hk;obtain⟨yB,hu,_⟩:=vD he;rw[run_convert_bytes_string w mA dst e _ _ _ hu (MP hk.1) (C2 hk.2)];have nil:∀(ad:Option Addr) (c:Nat),(Conv.bytesToString (.slice ad 0 c)).run P w=.ok (.string ⟨#[]⟩) w:=by
  intro ad c
  cases ad with
  |none=>rfl
  |some ad=>exact run_bytesToString w ad 0 c [] (by simp[loadCells,loadCellsFrom])
 rcases h with rfl|⟨b,f,G,rfl,h⟩
 ·simp only[bytesL,bF]at ht;subst ht;exact nil ad c
 ·obtain⟨h1,h2⟩:=MX _ _ _ _ ht h;have mF:∃lQ:List Int,lQ.length=xs.length∧(∀(j:Nat) (n:Int),lQ[j]?=some n→cellAt w.heap b (f+j)=some (.int .u8 n))∧lQ.map (fun n=>UInt8.ofNat n.toNat)=t:=by
   clear ht h;have:∀(t:List UInt8) (f:Nat),(∀(j:Nat) (c:UInt8),t[j]?=some c→∃n:Int,cellAt w.heap b (f+j)=some (.int .u8 n)∧UInt8.ofNat n.toNat=c)→
     ∃lQ:List Int,lQ.length=t.length∧(∀(j:Nat) (n:Int),lQ[j]?=some n→cellAt w.heap b (f+j)=some (.int .u8 n))∧lQ.map (fun n=>UInt8.ofNat n.toNat)=t:=by
    intro t
    induction t with
    |nil=>exact fun f _=>⟨[],rfl,by simp,rfl⟩
    |cons c t dW=>
     intro f h;obtain⟨m,vH,zK⟩:=h 0 c rfl;obtain⟨lQ,l7,uG,uH⟩:=dW (f+1) (fun j c al=>by have:=h (j+1) c (by simpa using al);rw[show f+1+j=f+(j+1)from by omega];exact this);refine⟨m::lQ,by simp[l7],fun j n al=>?_,by simp[zK,uH]⟩
     cases j with
     |zero=>simp at al;subst al;exact vH
     |succ j=>rw[show f+(j+1)=f+1+j from by omega];exact uG j n (by simpa using al)
   obtain⟨lQ,l7,uG,uH⟩:=this t f h2;exact⟨lQ,by rw[l7,h1],uG,uH⟩
  obtain⟨lQ,l7,uG,uH⟩:=mF;have hl:=run_loadCells_list (P:=P) w ⟨b,f,none⟩ (lQ.map (Value.int .u8)) (fun j v al=>by
   rw[add_lit,cell_eq];rw[List.getElem?_map]at al
   cases hn:lQ[j]? with
   |none=>rw[hn]at al;cases al
   |some m=>rw[hn]at al;cases al;exact uG j m hn)
  rw[I,l7]at hl;rw[run_bytesToString w _ _ c lQ hl,TG,uH];rfl
theorem aaY{mA dst:TypeId}{x:Operand}(av:o.op=.convert mA dst x)(h:evg g (σ.ev x) fun a=>withR (cvE P σ.heap mA dst a) fun v=>K (cJ v)):∃r,gP P o g σ n r∧K r:=by
 obtain⟨j6,h1,hx⟩:=ga h;obtain⟨p,v,ag,hp,b6⟩:=zT h1;clear h h1;refine⟨_,mH fun σ' aY B w0 aK φ kp a w r hg=>?_,b6⟩;have c7:=hx _ _ _ _ hg (fR aY r x);have mF:∀{u:Value},(convert mA dst (a.eval x)).run P w=.ok u w→(execOp a.eval o).run P w=.ok (.value u) w:=by
  intro u hu;unfold execOp;rw[av];simp[hu]
 unfold cvE at ag;split at ag
 ·rename_i k m;split at ag
  ·rename_i k1 k2 h1 h2;simp only[bF,c1]at ag;obtain⟨_,rfl⟩:=ag;refine⟨_,mF (u:=.int k2 (k2.wrap m)) ?_,nB (w4 _ _)⟩;rw[(mG c7).1];simp[convert,run_underlying (MP h1),run_underlying (MP h2),Conv.intToInt]
  ·cases ag
 ·split at ag
  ·rename_i s hs;simp only[bF,c1]at ag;obtain⟨_,rfl⟩:=ag;simp only[bP]at hs;have ah:=zU c7;refine⟨_,mF (u:=.string ⟨s.toArray⟩) ?_,Fg ah.2⟩;rw[ah.1];simp[convert,run_underlying (C2 hs.1),run_underlying (C2 hs.2)]
  ·cases ag
 ·split at ag
  ·rename_i e f' xs he hel;split at ag
   ·rename_i hk;simp only[bF,c1]at ag;obtain⟨rfl,rfl⟩:=ag;obtain⟨t,ht⟩:=Option.isSome_iff_exists.1 hp;obtain⟨ad,c,ah,ai,aX,br⟩:=HT aY r hel c7;have acf:xs=[]∨∃b f G,ad=some ⟨b,f,none⟩∧repE w.heap false b f 1 xs G:=by
     rcases br with br|⟨b,f,G,br,_,cF,_⟩
     ·exact .inl br
     ·exact .inr ⟨b,f,G,br,cF⟩
    have fa:=TH (w:=w) (dst:=dst) he hk ht (ad:=ad) (c:=c) acf;refine⟨_,mF (u:=.string ⟨t.toArray⟩) (by rw[ah];exact fa),?_⟩;have ff:t.length=xs.length:=by
     rcases br with rfl|⟨b,f,G,br,_,cF,_⟩
     ·simp only[bytesL,bF]at ht;subst ht;rfl
     ·exact(MX _ _ _ _ ht cF).1
    rw[ht];exact Fg (by simp;omega)
   ·cases ag
  ·rename_i e f' s _ he hel;split at ag
   ·rename_i hk;simp only[bF,c1]at ag;obtain⟨_,rfl⟩:=ag;obtain⟨ad,c,ah,ai,aX,br⟩:=HT aY r hel c7;have fa:=TH (w:=w) (dst:=dst) he hk (xs:=[]) (t:=[]) rfl (ad:=ad) (c:=c) (.inl rfl);exact⟨_,mF (by rw[ah];exact fa),Fg (by decide)⟩
   ·cases ag
  ·cases ag
def dQ{α:Type}(l:List α)(off:Nat)(vs:List α):List α:=l.take off++(vs++l.drop (off+vs.length))
theorem yo{α:Type}{l:List α}{off:Nat}{vs:List α}(h:off+vs.length≤l.length):(dQ l off vs).length=l.length:=by
 simp[dQ];omega
theorem MY{φ:cp}{T:Nat→Prop}{h:Array Obj}{cs vs:List V}{us gu:List Value}(r:VRels φ T h cs us)(c4:VRels φ T h vs gu)(off:Nat):VRels φ T h (dQ cs off vs) (dQ us off gu):=by
 unfold dQ;rw[jR _ _ c4];exact CS (Th r off) (CS c4 (Ti r _))
theorem TI:∀(vs:List Value) (k off:Nat) (cells:Array Value),off+k+vs.length≤cells.size→
  (vs.zipIdx k).foldl (fun cs (c,j)=>cs.setIfInBounds (off+j) c) cells=(dQ cells.toList (off+k) vs).toArray
 |[],k,off,cells,_=>by simp[dQ]
 |v::vs,k,off,cells,h=>by
  simp only[eW]at h;rw[List.zipIdx_cons,List.foldl_cons,TI vs (k+1) off _ (by simp;omega)];have hi:off+k<cells.toList.length:=by simp;omega
  have e:=list_seg_step cells.toList (off+k) v vs (by simp;omega)
  congr 1
  unfold dQ;simpa [Array.toList_setIfInBounds,Nat.add_assoc]using e
def vfill(uJ:Nat→Option (Nat×Nat)):List V→List (Nat×V)→Option (List V)
 |cells,[]=>some cells
 |cells,(i,v)::r=>
  match uJ i with
  |some (off,sz)=>if v.cells.length=sz∧off+sz≤cells.length∧v.wR=true then vfill uJ (dQ cells off v.cells) r else none
  |none=>none
def partsRel(φ:cp)(T:Nat→Prop)(h:Array Obj):List (Nat×V)→List (Nat×Value)→Prop
 |[],us=>us=[]
 |(i,v)::r,us=>∃u ck,us=(i,u)::ck∧VRel φ T h v u∧partsRel φ T h r ck
theorem Ip{φ:cp}{T:Nat→Prop}{h:Array Obj}(uJ:Nat→Option (Nat×Nat)):∀(parts:List (Nat×V)) (cells cells':List V) (us:List Value) (ps:List (Nat×Value)),vfill uJ cells parts=some cells'→VRels φ T h cells us→partsRel φ T h parts ps→
  ∃ck:List Value,Instr.fill uJ us.toArray ps=some ck.toArray∧VRels φ T h cells' ck
 |[],cells,cells',us,ps,e,r,fo=>by
  simp only[vfill,bF]at e;subst e;simp only[partsRel]at fo;subst fo;exact⟨us,rfl,r⟩
 |(i,v)::parts,cells,cells',us,ps,e,r,fo=>by
  simp only[partsRel]at fo;obtain⟨u,acg,rfl,cJ,fo⟩:=fo;simp only[vfill]at e;split at e
  ·rename_i off sz gd;split at e
   ·rename_i hb;have hc:=(E9 hb.2.2 cJ).1;have hl:=jR _ _ hc;have iP:=jR _ _ r;obtain⟨ck,k1,k2⟩:=Ip uJ parts _ cells' _ acg e (MY r hc off) fo;refine⟨ck,?_,k2⟩;rw[←k1];have cH:u.cells.size=sz:=by rw[←Array.length_toList,hl];exact hb.1
    have ach:¬(u.cells.size≠sz∨off+u.cells.size>us.toArray.size):=by
     have:=hb.2.1;simp only[List.size_toArray,cH];omega
    have aci:(decide (u.cells.size≠sz)||decide (off+u.cells.size>us.toArray.size))=false:=by
     rw[Bool.eq_false_iff];intro hh;exact ach (by simpa using hh)
    simp only[Instr.fill,gd,aci,Bool.false_eq_true,if_false]
    congr 1
    have:=TI u.cells.toList 0 off us.toArray (by
     have:=hb.2.1;simp only[Nat.add_zero,Array.length_toList,List.size_toArray,cH];omega)
    simp only[Nat.add_zero]at this;rw[←this,←Array.foldl_toList,Array.toList_zipIdx]
   ·cases e
  ·cases e
def plI(P:Program)(T:TypeId):Option (Nat→Option (Nat×Nat)):=
 match P.underlying T with
 |some (.array _ e)=>(P.info? e).map fun i=>fun j=>some (j * i.size,i.size)
 |some (.struct cS)=>(cS.toList.mapM fun f=>(P.info? f.type).map fun i=>(f.offset,i.size)).map fun l=>fun j=>l[j]?
 |_=>none
def IB(P:Program):Nat→TypeId→List Nat
 |0,_=>[]
 |f+1,T=>
  match P.underlying T with
  |some (.array n e)=>(List.replicate n (IB P f e)).flatten
  |some (.struct cS)=>(cS.toList.map fun x=>IB P f x.type).flatten
  |some (.slice e)=>[P.cellsOf e]
  |_=>[0]
def TJ:V→Nat→V
 |.dw _,s=>.dw s
 |v,_=>v
def zrI(P:Program)(T:TypeId):Option (List V):=
 match P.info? T with
 |some i=>
  match i.zero with
  |some z=>
   let l:=List.zipWith TJ (z.cells.toList.map ofVal) (IB P 8 T)
   if l.length=z.cells.toList.length then some l else none
  |none=>none
 |none=>none
theorem A'{T:TypeId}{vs:List V}(h:zrI P T=some vs):∃i z,P.info? T=some i∧i.zero=some z∧∀(φ:cp) (gO:Nat→Prop) (hp:Array Obj),VRels φ gO hp vs z.cells.toList:=by
 unfold zrI at h;split at h
 ·rename_i i hi;split at h
  ·rename_i z hz;simp only at h;split at h
   ·rename_i hl
    cases h
    refine⟨i,z,hi,hz,fun φ gO hp=>zI _ _ hl.symm fun t v u ah ai=>?_⟩;rw[List.getElem?_zipWith]at ah;rw[List.getElem?_map,ai]at ah;simp only[Option.map_some]at ah
    cases hs:(IB P 8 T)[t]? with
    |none=>rw[hs]at ah;cases ah
    |some s=>
     rw[hs]at ah
     cases ah
     have:=Tt (φ:=φ) (T:=gO) (h:=hp) u
     cases hv:ofVal u<;>rw[hv]at this<;>first|exact this|(simp only[TJ,VRel]at this⊢;exact this)
   ·cases h
  ·cases h
 ·cases h
def evParts(g:Bool)(σ:St):List (Nat×Operand)→(List (Nat×V)→Prop)→Prop
 |[],K=>K []
 |(i,x)::r,K=>evg g (σ.ev x) fun v=>evParts g σ r fun vs=>K ((i,v)::vs)
theorem MA:∀(ps:List (Nat×Operand)) (K:List (Nat×V)→Prop),evParts g σ ps K→∃vs,K vs∧∀{σ':St} {B:Nat→Prop} {w0:World} {aK:Nat→Prop} {φ:cp} {kp:List (V×Value)} {a:Act} {w:World},σ.le σ'→R B w0 aK φ σ' kp a w→g=true→
  partsRel φ (cz φ σ'.heap) w.heap vs (ps.map fun(i,x)=>(i,a.eval x))
 |[],K,h=>⟨[],h,fun _ _ _=>by simp[partsRel]⟩
 |(i,x)::ps,K,h=>by
  simp only[evParts]at h;obtain⟨v,h1,hx⟩:=ga h;obtain⟨vs,b6,hr⟩:=MA ps _ h1;refine⟨(i,v)::vs,b6,fun aY r hg=>?_⟩;simp only[List.map_cons,partsRel];exact⟨_,_,rfl,hx _ _ _ _ hg (fR aY r x),hr aY r hg⟩
def bldE(P:Program)(T:TypeId)(parts:List (Nat×V)):Option V:=
 match plI P T,zrI P T with
 |some uJ,some z=>(vfill uJ z parts).map V.agg
 |_,_=>none
theorem aaZ{T:TypeId}{parts:Array (Nat×Operand)}(av:o.op=.build T parts)(h:evParts g σ parts.toList fun ps=>withO (bldE P T ps) fun v=>K (cJ v)):∃r,gP P o g σ n r∧K r:=by
 obtain⟨ps,h1,hx⟩:=MA _ _ h;obtain⟨v,ag,b6⟩:=Iw h1;clear h h1;refine⟨_,mH fun σ' aY B w0 aK φ kp a w r hg=>?_,b6⟩;unfold bldE at ag;split at ag
 ·rename_i uJ z gd hz
  cases hf:vfill uJ z ps with
  |none=>rw[hf]at ag;cases ag
  |some cells=>
   rw[hf]at ag;cases ag;obtain⟨i,aom,hi,Il,pJ⟩:=A' hz;obtain⟨us,k1,k2⟩:=Ip (φ:=φ) (T:=cz φ σ'.heap) (h:=w.heap) uJ ps z cells _ _ hf (pJ _ _ _) (hx aY r hg);have hb:P.built T (parts.map fun(i,x)=>(i,a.eval x)).toList=some us.toArray:=by
    unfold Program.built;unfold plI at gd;simp only[Array.toArray_toList]at k1;split at gd
    ·rename_i MZ e hu
     cases CZ:P.info? e with
     |none=>rw[CZ]at gd;cases gd
     |some vL=>
      rw[CZ]at gd;cases gd;simp only[hi,hu,Il,CZ,Array.toList_map];exact k1
    ·rename_i cS hu
     cases hp:cS.toList.mapM (fun f=>(P.info? f.type).map fun i=>(f.offset,i.size))with
     |none=>rw[hp]at gd;cases gd
     |some aon=>
      rw[hp]at gd;cases gd;simp only[hi,hu,Il,hp,Array.toList_map];simpa using k1
    ·cases gd
   refine⟨.agg us.toArray,?_,by simp only[VRel];exact⟨us.toArray,rfl,by simpa using k2⟩⟩;unfold execOp;rw[av];have:=run_build (P:=P) w T (parts.map fun(i,x)=>(i,a.eval x)) us.toArray hb;simp[this]
 ·cases ag
variable {P:Program} {o:Oper} {g:Bool} {σ:St} {n:Nat} {K:eD→Prop}
def c6(φ:cp)(n:Nat)(β:gQ):cp:=fun i=>if i=n then some β else φ i
section
variable {B:Nat→Prop} {w0:World} {aK:Nat→Prop} {φ:cp} {kp:List (V×Value)} {a:Act} {w:World}
theorem Ta(l9 sz:Nat)(r:R B w0 aK φ σ kp a w){n:Nat}(hd:aL σ.heap n=.b')(hn:¬aK n){cells:List V}{cs:Array Value}{e:TypeId}(hc:VRels φ (cz φ σ.heap) w.heap cells cs.toList){w':World}
  (hh:w'.heap=w.heap.push (.cells cs e)) (hb:Bel B w0 w') :
  R B w0 (fun i=>aK i∨(n≤i∧i<n+1)) (c6 φ n ⟨some w.heap.size,0,l9,sz,[]⟩) ⟨σ.tmps,b_ σ.heap n (.box cells)⟩ kp a w':=by
 have Mt:φ n=none:=by
  cases h:φ n with
  |none=>rfl
  |some β=>exact absurd (r.fU n β h) hn
 have hnew:w'.heap[w.heap.size]?=some (.cells cs e (0,0)):=by rw[hh];simp
 have aY:nq φ (c6 φ n ⟨some w.heap.size,0,l9,sz,[]⟩):=fun i β hi=>by
  have:i≠n:=fun e=>by subst e;rw[Mt]at hi;cases hi
  exact⟨β,by simp[c6,this,hi],rfl,rfl,rfl,rfl⟩
 have hold:∀b,b<w.heap.size→w'.heap[b]?=w.heap[b]?:=fun b hb=>by rw[hh,Array.getElem?_push];simp[Nat.ne_of_lt hb]
 have cR:∀b,b<w.heap.size→cz φ σ.heap b→cz (c6 φ n ⟨some w.heap.size,0,l9,sz,[]⟩) (b_ σ.heap n (.box cells)) b:=by
  intro b hb ht i β hi he;rw[hH]at he;by_cases h:i=n
  ·subst h;simp only[c6,if_true,bF]at hi;subst hi;rcases he with ⟨_,he⟩|⟨_,he⟩
   ·simp only[bF]at he;omega
   ·cases he
  ·simp only[h,if_false]at he;exact ht i β (by simpa [c6,h]using hi) he
 refine wP r (fun i=>i=n) _ _ _ w' (fun i hi=>⟨by rw[hH];simp[hi],by simp[c6,hi]⟩) aY (by rw[hh];simp) (fun b hb _=>hold b hb) ?_ ?_ (fun i j b hi al _ _=>hi.trans al.symm) ?_ ?_ ?_ hb
 ·rintro i rfl b ⟨β,h1,h2⟩;simp only[c6,if_true,bF]at h1;subst h1;rcases h2 with ⟨_,h2⟩|⟨_,h2⟩
  ·simp only[bF]at h2;exact .inl (by omega)
  ·cases h2
 ·rintro i rfl β h1 b h2;simp only[c6,if_true,bF]at h1;subst h1;rcases h2 with ⟨_,h2⟩|⟨_,h2⟩
  ·simp only[bF]at h2;exact .inl (by omega)
  ·cases h2
 ·rintro i β rfl _ hx;rw[hH,if_pos rfl]at hx;cases hx
 ·rintro i rfl;refine .inr ⟨⟨some w.heap.size,0,l9,sz,[]⟩,by simp[c6],?_⟩;rw[hH,if_pos rfl];exact⟨_,cs,e,rfl,rfl,hnew,uo ⟨aY,cR,fun b hb _=>hold b hb,by rw[hh];simp⟩ _ _ hc⟩
 ·intro i β hi;by_cases h:i=n
  ·exact .inr ⟨by omega,by omega⟩
  ·exact .inl (r.fU i β (by simpa [c6,h]using hi))
theorem abr(r:R B w0 aK φ σ kp a w){n:Nat}(hd:aL σ.heap n=.b')(hn:¬aK n){cells:List V}{cs:Array Value}{e:TypeId}(hc:VRels φ (cz φ σ.heap) w.heap cells cs.toList){w':World}
  (hh:w'.heap=w.heap.push (.cells cs e)) (hb:Bel B w0 w') :
  R B w0 (fun i=>aK i∨(n≤i∧i<n+1)) (c6 φ n ⟨some w.heap.size,0,0,0,[]⟩) ⟨σ.tmps,b_ σ.heap n (.box cells)⟩ kp a w':=Ta 0 0 r hd hn hc hh hb
def toD(hs:List H)(v:V):Option (D×List Nat):=
 match v with
 |.d x=>if x.flat then some (x,[])else none
 |.dw s=>some (.sl s [],[])
 |.sl id off len=>match aL hs id with|.ar sz xs true=>if off+len≤xs.length then some (.sl sz ((xs.drop off).take len),[id])else none|_=>none
 |_=>none
def toDs(hs:List H):List V→Option (List D×List Nat)
 |[]=>some ([],[])
 |v::vs=>match toD hs v,toDs hs vs with|some (d,i),some (ds,is)=>some (d::ds,i++is)|_,_=>none
def H.mine:H→Option (Nat×List (List D))
 |.ar sz xs true=>some (sz,xs)
 |.af sz xs=>some (sz,xs)
 |_=>none
theorem H.abt{x:H}{p:Nat×List (List D)}(h:x.mine=some p):x.own=true∧x.m2=true:=by
 cases x<;>first|exact⟨rfl,rfl⟩|(rename_i jm;cases jm<;>first|exact⟨rfl,rfl⟩|cases h)|cases h
theorem L_{φ:cp}{T:Nat→Prop}{h:Array Obj}{β:gQ}{x:H}{sz:Nat}{xs:List (List D)}(he:x.mine=some (sz,xs))(r:dX φ T h β x):β.sz=sz∧((β.eh=none∧xs=[]∧β.cap=0∧β.c_=[])∨
  ∃b,β.eh=some b∧xs.length≤β.cap∧mB h b (β.off+β.cap * sz)∧repE h true b β.off sz xs β.c_):=by
 cases x with
 |ar g3 l_ jm=>
  cases jm with
  |false=>cases he
  |true=>
   simp only[H.mine,bF,c1]at he;obtain⟨rfl,rfl⟩:=he;simp only[dX]at r;obtain⟨r0,r⟩:=r;refine⟨r0,r.imp id ?_⟩;rintro⟨b,G,aM,bc,cq,cI,fb,hT⟩;exact⟨b,aM,bc,cq,(fb trivial)▸cI⟩
 |af g3 l_=>
  simp only[H.mine,bF,c1]at he;obtain⟨rfl,rfl⟩:=he;simpa only[dX]using r
 |_=>cases he
theorem L7(r:R B w0 aK φ σ kp a w){id off len:Nat}{sz:Nat}{xs:List (List D)}(hx:(aL σ.heap id).mine=some (sz,xs))(hl:off+len≤xs.length){u:Value}(fD:VRel φ (cz φ σ.heap) w.heap (.sl id off len) u) :
  ∃F,rep w.heap true (.sl sz ((xs.drop off).take len)) u F∧F.Nodup∧∀b∈F,c5 φ σ.heap id b:=by
 obtain⟨β,ad,c,ah,ai,aX,br,cF⟩:=uF fD;rcases r.hp id with hd|⟨a_,gr,hr⟩
 ·rw[hd]at hx;cases hx
 ·rw[ah]at gr;cases gr;obtain⟨hs,hr⟩:=L_ hx hr;obtain⟨gq,yn⟩:=H.abt hx;have ff:((xs.drop off).take len).length=len:=by simp;omega
  simp only[rep];by_cases hne:len=0
  ·have h0:(xs.drop off).take len=[]:=List.eq_nil_of_length_eq_zero (by omega);rcases cF with cF|⟨b,cF,jy,ny⟩
   ·exact⟨[],⟨ad,c,by rw[ff];exact ai,by omega,br,.inl ⟨h0,rfl,fun _=>cF.1⟩⟩,List.nodup_nil,by simp⟩
   ·rcases hr with hr|⟨dE,aM,bc,cq,cI⟩
    ·rw[cF]at hr;cases hr.1
    ·rw[cF]at aM;cases aM;rcases Nat.eq_zero_or_pos c with w2|w2
     ·exact⟨[],⟨ad,c,by rw[ff];exact ai,by omega,br,.inl ⟨h0,rfl,fun _=>w2⟩⟩,List.nodup_nil,by simp⟩
     refine⟨[b],⟨ad,c,by rw[ff];exact ai,by omega,br,.inr ⟨b,_,[],jy,rfl,cq.lt,by rw[h0];simp[repE],fun _=>⟨w2,?_⟩⟩⟩,by simp,?_⟩
     ·obtain⟨cs,t,cM,dI⟩:=cq;refine⟨cs,t,cM,Nat.le_trans ?_ dI⟩;rw[hs,Nat.add_assoc,←Nat.add_mul];exact Nat.add_le_add_left (Nat.mul_le_mul_right _ (Nat.le_of_eq ny)) _
     ·intro x fJ;simp only[List.mem_singleton]at fJ;subst fJ;exact⟨β,ah,.inl ⟨yn,cF⟩⟩
  ·rcases cF with cF|⟨b,cF,jy,ny⟩
   ·omega
   ·rcases hr with hr|⟨dE,aM,bc,cq,cI⟩
    ·rw[hr.2.1]at hl;simp at hl;omega
    ·rw[cF]at aM;cases aM;generalize bM:β.c_=G at cI;have CH:xs=xs.take off++((xs.drop off).take len++(xs.drop off).drop len):=by rw[List.take_append_drop,List.take_append_drop]
     have jk:(xs.take off).length=off:=by simp;omega
     rw[CH]at cI;obtain⟨bQ,bq,rfl,k1,k2⟩:=(repE_append _ _ _ _).1 cI;obtain⟨Bl,Tb,rfl,ee,ix⟩:=(repE_append _ _ _ _).1 k2;rw[jk]at ee;have gf:=r.e9 id β ah gq;rw[bM]at gf;refine⟨b::Bl,⟨ad,c,by rw[ff];exact ai,by omega,br,.inr ⟨b,_,Bl,jy,rfl,cq.lt,by rw[hs];exact ee,fun _=>⟨by omega,?_⟩⟩⟩,?_,?_⟩
     ·obtain⟨cs,t,cM,dI⟩:=cq;refine⟨cs,t,cM,Nat.le_trans ?_ dI⟩;rw[hs,Nat.add_assoc,←Nat.add_mul];exact Nat.add_le_add_left (Nat.mul_le_mul_right _ (Nat.le_of_eq ny)) _
     ·refine List.nodup_cons.2 ⟨fun hb=>gf.2 b cF (by simp[hb]),?_⟩;have:=gf.1;rw[List.nodup_append]at this;have:=this.2.1;rw[List.nodup_append]at this;exact this.1
     ·intro x fJ;rcases List.mem_cons.1 fJ with rfl|fJ
      ·exact⟨β,ah,.inl ⟨yn,cF⟩⟩
      ·exact⟨β,ah,.inr ⟨gq,by rw[bM];simp[fJ]⟩⟩
theorem Sk(r:R B w0 aK φ σ kp a w){id off len:Nat}{sz:Nat}{xs:List (List D)}(hx:aL σ.heap id=.ar sz xs true)(hl:off+len≤xs.length){u:Value}(fD:VRel φ (cz φ σ.heap) w.heap (.sl id off len) u) :
  ∃F,rep w.heap true (.sl sz ((xs.drop off).take len)) u F∧F.Nodup∧∀b∈F,c5 φ σ.heap id b:=L7 r (by rw[hx];rfl) hl fD
theorem Me(r:R B w0 aK φ σ kp a w){v:V}{d:D}{b9:List Nat}(h:toD σ.heap v=some (d,b9)){u:Value}(fD:VRel φ (cz φ σ.heap) w.heap v u) :
  ∃F,rep w.heap true d u F∧F.Nodup∧(∀b∈F,∃id∈b9,c5 φ σ.heap id b)∧∀id∈b9,∃sz xs,aL σ.heap id=.ar sz xs true:=by
 unfold toD at h;split at h
 ·split at h
  ·rename_i x hf;simp only[bF,c1]at h;obtain⟨rfl,rfl⟩:=h;simp only[VRel]at fD;obtain⟨F,aM,_⟩:=fD;have:=EM hf aM;subst this;exact⟨[],H6 hf aM,List.nodup_nil,by simp,by simp⟩
  ·cases h
 ·simp only[bF,c1]at h;obtain⟨rfl,rfl⟩:=h;simp only[VRel]at fD;subst fD;exact⟨[],⟨none,0,rfl,by simp,by decide,.inl ⟨rfl,rfl,fun _=>rfl⟩⟩,List.nodup_nil,by simp,by simp⟩
 ·rename_i id off len;split at h
  ·rename_i sz xs hx;split at h
   ·rename_i hl;simp only[bF,c1]at h;obtain⟨rfl,rfl⟩:=h;obtain⟨F,k1,k2,ee⟩:=Sk r hx hl fD;exact⟨F,k1,k2,fun b hb=>⟨id,by simp,ee b hb⟩,by simp[hx]⟩
   ·cases h
  ·cases h
 ·cases h
theorem wX:∀(upd:List (Nat×H)) (hs:List H) (i:Nat),(∃x,(i,x)∈upd∧aL (hupd hs upd) i=x)∨((∀x,(i,x)∉upd)∧aL (hupd hs upd) i=aL hs i)
 |[],hs,i=>.inr ⟨by simp,rfl⟩
 |(j,y)::r,hs,i=>by
  rw[hupd];rcases wX r (b_ hs j y) i with ⟨x,h1,h2⟩|⟨h1,h2⟩
  ·exact .inl ⟨x,by simp[h1],h2⟩
  ·rw[hH]at h2;by_cases h:i=j
   ·subst h;rw[if_pos rfl]at h2;exact .inl ⟨y,by simp,h2⟩
   ·rw[if_neg h]at h2;exact .inr ⟨fun x hx=>by
     rcases List.mem_cons.1 hx with hx|hx
     ·cases hx;exact h rfl
     ·exact h1 x hx,h2⟩
theorem HY(r:R B w0 aK φ σ kp a w){n:Nat}(hd:aL σ.heap n=.b')(hn:¬aK n){upd:List (Nat×H)}(hnd:(upd.map (·.1)).Nodup)
  (hu:∀p∈upd,∃sz xs,aL σ.heap p.1=.ar sz xs true∧(p.2=.b'∨p.2=.ic sz xs)) {β:gQ} {sz:Nat} {xs:List (List D)} (cH:β.sz=sz) {w':World} (hs:w.heap.size≤w'.heap.size) (hb:Bel B w0 w')
  (AS:∀b,b<w.heap.size→(∀p∈upd,p.2=.b'→∀a_,φ p.1=some a_→a_.eh≠some b)→w'.heap[b]?=w.heap[b]?)
  (yx:(β.eh=none∧xs=[]∧β.cap=0∧β.c_=[])∨∃b,β.eh=some b∧xs.length≤β.cap∧mB w'.heap b (β.off+β.cap * sz)∧repE w'.heap true b β.off sz xs β.c_)
  (CX:∀b,β.eh=some b→w.heap.size≤b∨∃p∈upd,p.2=.b'∧∃a_,φ p.1=some a_∧a_.eh=some b)
  (zF:∀b∈β.c_,w.heap.size≤b∨∃p∈upd,c5 φ σ.heap p.1 b) (Mu:β.c_.Nodup) (Mv:∀b,β.eh=some b→b∉β.c_) :
  R B w0 (fun i=>aK i∨(n≤i∧i<n+1)) (c6 φ n β) ⟨σ.tmps,hupd (b_ σ.heap n (.ar sz xs true)) upd⟩ kp a w':=by
 have Mt:φ n=none:=by
  cases h:φ n with
  |none=>rfl
  |some β=>exact absurd (r.fU n β h) hn
 have E3:∀x,(n,x)∉upd:=fun x hx=>by
  obtain⟨s,ys,h1,_⟩:=hu _ hx;rw[hd]at h1;cases h1
 have aY:nq φ (c6 φ n β):=fun i a_ hi=>by
  have:i≠n:=fun e=>by subst e;rw[Mt]at hi;cases hi
  exact⟨a_,by simp[c6,this,hi],rfl,rfl,rfl,rfl⟩
 have jr:aL (hupd (b_ σ.heap n (.ar sz xs true)) upd) n=.ar sz xs true:=by
  rcases wX upd (b_ σ.heap n (.ar sz xs true)) n with ⟨x,h1,_⟩|⟨_,h2⟩
  ·exact absurd h1 (E3 x)
  ·rw[h2,hH,if_pos rfl]
 have hin:∀i x,(i,x)∈upd→aL (hupd (b_ σ.heap n (.ar sz xs true)) upd) i=x:=by
  intro i x hx;rcases wX upd (b_ σ.heap n (.ar sz xs true)) i with ⟨y,h1,h2⟩|⟨h1,_⟩
  ·have:y=x:=by
    have hp:List.Pairwise (fun p q=>p.1≠q.1) upd:=by simpa [List.Nodup,List.pairwise_map]using hnd
    by_cases kL:y=x
    ·exact kL
    ·exfalso;have:=List.Pairwise.forall_of_forall_of_flip (R:=fun p q:Nat×H=>p=q∨p.1≠q.1) (l:=upd) (fun p _=>.inl rfl) (hp.imp fun h=>.inr h) (hp.imp fun h=>.inr (Ne.symm h)) h1 hx;rcases this with this|this
     ·cases this;exact kL rfl
     ·exact this rfl
   rw[h2,this]
  ·exact absurd hx (h1 x)
 have m5:∀i,i≠n→(∀x,(i,x)∉upd)→aL (hupd (b_ σ.heap n (.ar sz xs true)) upd) i=aL σ.heap i:=by
  intro i hi hx;rcases wX upd (b_ σ.heap n (.ar sz xs true)) i with ⟨y,h1,h2⟩|⟨_,h2⟩
  ·exact absurd h1 (hx y)
  ·rw[h2,hH,if_neg hi]
 have vK:∀i,i≠n→c6 φ n β i=φ i:=fun i hi=>by simp[c6,hi]
 have yy:∀i x,(i,x)∈upd→x.m2=false∧x.own=false:=by
  intro i x hx;obtain⟨s,ys,_,h2⟩:=hu _ hx;rcases h2 with h2|h2<;>simp only at h2<;>subst h2<;>exact⟨rfl,rfl⟩
 have E4:∀i x,(i,x)∈upd→∀a_ b,¬jq x a_ b:=by
  intro i x hx a_ b ht;rcases ht with ⟨h,_⟩|⟨h,_⟩
  ·rw[(yy i x hx).1]at h;cases h
  ·have:=H.Ik h;rw[(yy i x hx).2]at this;cases this
 have yz:∀i,(i=n∨∃x,(i,x)∈upd)→∀b,c5 (c6 φ n β) (hupd (b_ σ.heap n (.ar sz xs true)) upd) i b→i=n∧(β.eh=some b∨b∈β.c_):=by
  rintro i (rfl|⟨x,hx⟩) b ⟨a_,h1,h2⟩
  ·simp only[c6,if_true,bF]at h1;subst h1;refine⟨rfl,?_⟩;rcases h2 with ⟨_,h2⟩|⟨_,h2⟩
   ·exact .inl h2
   ·exact .inr h2
  ·rw[hin i x hx]at h2;obtain⟨k1,k2⟩:=yy i x hx;rcases h2 with ⟨h2,_⟩|⟨h2,_⟩
   ·rw[k1]at h2;cases h2
   ·rw[k2]at h2;cases h2
 have E5:∀p∈upd,∀a_ b,φ p.1=some a_→a_.eh=some b→c5 φ σ.heap p.1 b:=by
  intro p hp a_ b h1 h2;obtain⟨s,ys,aj,_⟩:=hu p hp;exact⟨a_,h1,.inl ⟨by rw[aj];rfl,h2⟩⟩
 have abu:∀b,b<w.heap.size→cz φ σ.heap b→cz (c6 φ n β) (hupd (b_ σ.heap n (.ar sz xs true)) upd) b:=by
  intro b gC ht i a_ hi he;by_cases h:i=n
  ·subst h;simp only[c6,if_true,bF]at hi;subst hi;rw[jr]at he;rcases he with ⟨_,he⟩|⟨he,_⟩
   ·rcases CX b he with h1|⟨p,hp,_,a_,h1,h2⟩
    ·omega
    ·obtain⟨s,ys,aj,_⟩:=hu p hp;exact ht p.1 a_ h1 (.inl ⟨by rw[aj];rfl,h2⟩)
   ·cases he
  ·rw[vK i h]at hi;by_cases hx:∃x,(i,x)∈upd
   ·obtain⟨x,hx⟩:=hx;rw[hin i x hx]at he;exact E4 i x hx _ _ he
   ·rw[m5 i h (fun x fJ=>hx ⟨x,fJ⟩)]at he;exact ht i a_ hi he
 refine wP r (fun i=>i=n∨∃x,(i,x)∈upd) _ _ _ w' (fun i hi=>?_) aY hs (fun b gC ht=>?_) (fun i hi b av=>?_) (fun i hi a_ h1 b h2=>?_) (fun i j b hi al h1 h2=>?_) (fun i a_ hi h1 hx=>?_) (fun i hi=>?_) (fun i a_ hi=>?_) hb
 ·exact⟨m5 i (fun e=>hi (.inl e)) (fun x hx=>hi (.inr ⟨x,hx⟩)),vK i (fun e=>hi (.inl e))⟩
 ·refine AS b gC fun p hp _ a_ h1 h2=>?_;obtain⟨s,ys,aj,_⟩:=hu p hp;exact ht p.1 (.inr ⟨p.2,hp⟩) a_ h1 (.inl ⟨by rw[aj];rfl,h2⟩)
 ·obtain⟨rfl,h1⟩:=yz i hi b av;rcases h1 with h1|h1
  ·rcases CX b h1 with h2|⟨p,hp,_,a_,h2,aj⟩
   ·exact .inl h2
   ·exact .inr ⟨p.1,.inr ⟨p.2,hp⟩,E5 p hp a_ b h2 aj⟩
  ·rcases zF b h1 with h2|⟨p,hp,h2⟩
   ·exact .inl h2
   ·exact .inr ⟨p.1,.inr ⟨p.2,hp⟩,h2⟩
 ·have av:c5 (c6 φ n β) (hupd (b_ σ.heap n (.ar sz xs true)) upd) i b:=jq.wV h1 h2;obtain⟨rfl,_⟩:=yz i hi b av;simp only[c6,if_true,bF]at h1;subst h1;rw[jr]at h2;rcases h2 with ⟨_,h2⟩|⟨h2,_⟩
  ·rcases CX b h2 with aj|⟨p,hp,_,a_,aj,aE⟩
   ·exact .inl aj
   ·obtain⟨s,ys,b3,_⟩:=hu p hp;exact .inr ⟨p.1,a_,.inr ⟨p.2,hp⟩,aj,.inl ⟨by rw[b3];rfl,aE⟩⟩
  ·cases h2
 ·rw[(yz i hi b h1).1,(yz j al b h2).1]
 ·rcases hi with rfl|⟨x,fJ⟩
  ·simp only[c6,if_true,bF]at h1;subst h1;exact⟨Mu,Mv⟩
  ·rw[hin i x fJ,(yy i x fJ).2]at hx;cases hx
 ·rcases hi with rfl|⟨x,hx⟩
  ·refine .inr ⟨β,by simp[c6],?_⟩;rw[jr];refine⟨cH,?_⟩;rcases yx with h1|⟨b,h1,h2,aj,aE⟩
   ·exact .inl h1
   ·exact .inr ⟨b,β.c_,h1,h2,aj,aE,fun _=>rfl,fun h=>by cases h⟩
  ·rw[hin i x hx];obtain⟨s,ys,h1,h2⟩:=hu _ hx;rcases h2 with h2|h2
   ·exact .inl h2
   ·simp only at h2 h1;subst h2;have E6:i≠n:=fun e=>by subst e;exact E3 _ hx
    rcases r.hp i with gX|⟨a_,ah,hr⟩
    ·rw[h1]at gX;cases gX
    ·refine .inr ⟨a_,by rw[vK i E6];exact ah,?_⟩;rw[h1]at hr;obtain⟨vE,hr⟩:=hr;refine⟨vE,?_⟩;rcases hr with hr|⟨b,G,aM,bc,cq,cI,fb,hT⟩
     ·exact .inl hr.2.1
     ·have bM:=fb rfl;have vB:c5 φ σ.heap i b:=⟨a_,ah,.inl ⟨by rw[h1];rfl,aM⟩⟩;have E7:∀g∈G,c5 φ σ.heap i g:=fun g hg=>⟨a_,ah,.inr ⟨by rw[h1];rfl,bM▸hg⟩⟩;have hk:∀c,c5 φ σ.heap i c→w'.heap[c]?=w.heap[c]?:=by
       intro c hc;refine AS c (c5.lt r hc) fun p hp E8 jL cQ bb=>?_;have:=r.dJ i p.1 c hc (E5 p hp jL c cQ bb);have aj:=hin p.1 p.2 hp;rw[←this,hin i _ hx,E8]at aj;cases aj
      have cR:∀c,c5 φ σ.heap i c→cz (c6 φ n β) (hupd (b_ σ.heap n (.ar sz xs true)) upd) c∨∃dE,β.eh=some dE∧dE=c:=by
       intro c hc;by_cases zQ:β.eh=some c
       ·exact .inr ⟨c,zQ,rfl⟩
       ·refine .inl fun j jL al he=>?_;by_cases h:j=n
        ·subst h;simp only[c6,if_true,bF]at al;subst al;rw[jr]at he;rcases he with ⟨_,he⟩|⟨he,_⟩
         ·exact zQ he
         ·cases he
        ·rw[vK j h]at al;by_cases gT:∃x,(j,x)∈upd
         ·obtain⟨x,gT⟩:=gT;rw[hin j x gT]at he;exact E4 j x gT _ _ he
         ·rw[m5 j h (fun x fJ=>gT ⟨x,fJ⟩)]at he;have:=r.dJ i j c hc (jq.wV al he);exact gT ⟨_,this▸hx⟩
      have zR:∀c,c5 φ σ.heap i c→cz (c6 φ n β) (hupd (b_ σ.heap n (.ar sz xs true)) upd) c:=by
       intro c hc;rcases cR c hc with h|⟨dE,cQ,rfl⟩
       ·exact h
       ·exfalso;rcases CX dE cQ with aj|⟨p,hp,E8,jL,bb,bD⟩
        ·have:=c5.lt r hc;omega
        ·have:=r.dJ i p.1 dE hc (E5 p hp jL dE bb bD);have aj:=hin p.1 p.2 hp;rw[←this,hin i _ hx,E8]at aj;cases aj
      exact .inr ⟨b,G,aM,zR b vB,Nat.lt_of_lt_of_le cq.lt hs,yv hs ys b a_.off s G (hk b vB) (fun g hg=>hk g (E7 g hg)) (EZ _ _ _ _ _ cI),fun g hg=>zR g (E7 g hg)⟩
 ·by_cases h:i=n
  ·exact .inr ⟨by omega,by omega⟩
  ·exact .inl (r.fU i a_ (by rw[←vK i h];exact hi))
theorem Tc(r:R B w0 aK φ σ kp a w){n:Nat}{upd:List (Nat×H)}(hnd:(upd.map (·.1)).Nodup)
  (hu:∀p∈upd,∃sz xs,aL σ.heap p.1=.ar sz xs true∧(p.2=.b'∨p.2=.ic sz xs)) {β β0:gQ} {hZ:Nat} {abv:List (List D)} (dR:φ n=some β0) (h0:aL σ.heap n=.ar hZ abv true) (gd:β.eh=β0.eh∧β.off=β0.off∧β.cap=β0.cap∧β.sz=β0.sz) (E3:∀x,(n,x)∉upd) {sz:Nat} {xs:List (List D)} (cH:β.sz=sz) {w':World} (hs:w.heap.size≤w'.heap.size) (hb:Bel B w0 w')
  (AS:∀b,b<w.heap.size→β0.eh≠some b→(∀p∈upd,p.2=.b'→∀a_,φ p.1=some a_→a_.eh≠some b)→w'.heap[b]?=w.heap[b]?)
  (yx:(β.eh=none∧xs=[]∧β.cap=0∧β.c_=[])∨∃b,β.eh=some b∧xs.length≤β.cap∧mB w'.heap b (β.off+β.cap * sz)∧repE w'.heap true b β.off sz xs β.c_)
  (zF:∀b∈β.c_,c5 φ σ.heap n b∨∃p∈upd,c5 φ σ.heap p.1 b) (Mu:β.c_.Nodup) (Mv:∀b,β.eh=some b→b∉β.c_) :
  R B w0 aK (c6 φ n β) ⟨σ.tmps,hupd (b_ σ.heap n (.ar sz xs true)) upd⟩ kp a w':=by
 have aY:nq φ (c6 φ n β):=fun i a_ hi=>by
  by_cases h:i=n
  ·subst h;rw[dR]at hi;cases hi;exact⟨β,by simp[c6],gd.1,gd.2.1,gd.2.2.1,gd.2.2.2⟩
  ·exact⟨a_,by simp[c6,h,hi],rfl,rfl,rfl,rfl⟩
 have jr:aL (hupd (b_ σ.heap n (.ar sz xs true)) upd) n=.ar sz xs true:=by
  rcases wX upd (b_ σ.heap n (.ar sz xs true)) n with ⟨x,h1,_⟩|⟨_,h2⟩
  ·exact absurd h1 (E3 x)
  ·rw[h2,hH,if_pos rfl]
 have hin:∀i x,(i,x)∈upd→aL (hupd (b_ σ.heap n (.ar sz xs true)) upd) i=x:=by
  intro i x hx;rcases wX upd (b_ σ.heap n (.ar sz xs true)) i with ⟨y,h1,h2⟩|⟨h1,_⟩
  ·have:y=x:=by
    have hp:List.Pairwise (fun p q=>p.1≠q.1) upd:=by simpa [List.Nodup,List.pairwise_map]using hnd
    by_cases kL:y=x
    ·exact kL
    ·exfalso;have:=List.Pairwise.forall_of_forall_of_flip (R:=fun p q:Nat×H=>p=q∨p.1≠q.1) (l:=upd) (fun p _=>.inl rfl) (hp.imp fun h=>.inr h) (hp.imp fun h=>.inr (Ne.symm h)) h1 hx;rcases this with this|this
     ·cases this;exact kL rfl
     ·exact this rfl
   rw[h2,this]
  ·exact absurd hx (h1 x)
 have m5:∀i,i≠n→(∀x,(i,x)∉upd)→aL (hupd (b_ σ.heap n (.ar sz xs true)) upd) i=aL σ.heap i:=by
  intro i hi hx;rcases wX upd (b_ σ.heap n (.ar sz xs true)) i with ⟨y,h1,h2⟩|⟨_,h2⟩
  ·exact absurd h1 (hx y)
  ·rw[h2,hH,if_neg hi]
 have vK:∀i,i≠n→c6 φ n β i=φ i:=fun i hi=>by simp[c6,hi]
 have yy:∀i x,(i,x)∈upd→x.m2=false∧x.own=false:=by
  intro i x hx;obtain⟨s,ys,_,h2⟩:=hu _ hx;rcases h2 with h2|h2<;>simp only at h2<;>subst h2<;>exact⟨rfl,rfl⟩
 have E4:∀i x,(i,x)∈upd→∀a_ b,¬jq x a_ b:=by
  intro i x hx a_ b ht;rcases ht with ⟨h,_⟩|⟨h,_⟩
  ·rw[(yy i x hx).1]at h;cases h
  ·have:=H.Ik h;rw[(yy i x hx).2]at this;cases this
 have yz:∀i,(i=n∨∃x,(i,x)∈upd)→∀b,c5 (c6 φ n β) (hupd (b_ σ.heap n (.ar sz xs true)) upd) i b→i=n∧(β.eh=some b∨b∈β.c_):=by
  rintro i (rfl|⟨x,hx⟩) b ⟨a_,h1,h2⟩
  ·simp only[c6,if_true,bF]at h1;subst h1;refine⟨rfl,?_⟩;rcases h2 with ⟨_,h2⟩|⟨_,h2⟩
   ·exact .inl h2
   ·exact .inr h2
  ·rw[hin i x hx]at h2;obtain⟨k1,k2⟩:=yy i x hx;rcases h2 with ⟨h2,_⟩|⟨h2,_⟩
   ·rw[k1]at h2;cases h2
   ·rw[k2]at h2;cases h2
 have E5:∀p∈upd,∀a_ b,φ p.1=some a_→a_.eh=some b→c5 φ σ.heap p.1 b:=by
  intro p hp a_ b h1 h2;obtain⟨s,ys,aj,_⟩:=hu p hp;exact⟨a_,h1,.inl ⟨by rw[aj];rfl,h2⟩⟩
 have abu:∀b,b<w.heap.size→cz φ σ.heap b→cz (c6 φ n β) (hupd (b_ σ.heap n (.ar sz xs true)) upd) b:=by
  intro b gC ht i a_ hi he;by_cases h:i=n
  ·subst h;simp only[c6,if_true,bF]at hi;subst hi;rw[jr]at he;rcases he with ⟨_,he⟩|⟨he,_⟩
   ·exact ht i β0 dR (.inl ⟨by rw[h0];rfl,gd.1▸he⟩)
   ·cases he
  ·rw[vK i h]at hi;by_cases hx:∃x,(i,x)∈upd
   ·obtain⟨x,hx⟩:=hx;rw[hin i x hx]at he;exact E4 i x hx _ _ he
   ·rw[m5 i h (fun x fJ=>hx ⟨x,fJ⟩)]at he;exact ht i a_ hi he
 refine wP r (fun i=>i=n∨∃x,(i,x)∈upd) _ _ _ w' (fun i hi=>?_) aY hs (fun b gC ht=>?_) (fun i hi b av=>?_) (fun i hi a_ h1 b h2=>?_) (fun i j b hi al h1 h2=>?_) (fun i a_ hi h1 hx=>?_) (fun i hi=>?_) (fun i a_ hi=>?_) hb
 ·exact⟨m5 i (fun e=>hi (.inl e)) (fun x hx=>hi (.inr ⟨x,hx⟩)),vK i (fun e=>hi (.inl e))⟩
 ·refine AS b gC (fun ph=>ht n (.inl rfl) β0 dR (.inl ⟨by rw[h0];rfl,ph⟩)) fun p hp _ a_ h1 h2=>?_;obtain⟨s,ys,aj,_⟩:=hu p hp;exact ht p.1 (.inr ⟨p.2,hp⟩) a_ h1 (.inl ⟨by rw[aj];rfl,h2⟩)
 ·obtain⟨rfl,h1⟩:=yz i hi b av;rcases h1 with h1|h1
  ·exact .inr ⟨i,.inl rfl,β0,dR,.inl ⟨by rw[h0];rfl,gd.1▸h1⟩⟩
  ·rcases zF b h1 with h2|⟨p,hp,h2⟩
   ·exact .inr ⟨i,.inl rfl,h2⟩
   ·exact .inr ⟨p.1,.inr ⟨p.2,hp⟩,h2⟩
 ·have av:c5 (c6 φ n β) (hupd (b_ σ.heap n (.ar sz xs true)) upd) i b:=jq.wV h1 h2;obtain⟨rfl,_⟩:=yz i hi b av;simp only[c6,if_true,bF]at h1;subst h1;rw[jr]at h2;rcases h2 with ⟨_,h2⟩|⟨h2,_⟩
  ·exact .inr ⟨i,β0,.inl rfl,dR,.inl ⟨by rw[h0];rfl,gd.1▸h2⟩⟩
  ·cases h2
 ·rw[(yz i hi b h1).1,(yz j al b h2).1]
 ·rcases hi with rfl|⟨x,fJ⟩
  ·simp only[c6,if_true,bF]at h1;subst h1;exact⟨Mu,Mv⟩
  ·rw[hin i x fJ,(yy i x fJ).2]at hx;cases hx
 ·rcases hi with rfl|⟨x,hx⟩
  ·refine .inr ⟨β,by simp[c6],?_⟩;rw[jr];refine⟨cH,?_⟩;rcases yx with h1|⟨b,h1,h2,aj,aE⟩
   ·exact .inl h1
   ·exact .inr ⟨b,β.c_,h1,h2,aj,aE,fun _=>rfl,fun h=>by cases h⟩
  ·rw[hin i x hx];obtain⟨s,ys,h1,h2⟩:=hu _ hx;rcases h2 with h2|h2
   ·exact .inl h2
   ·simp only at h2 h1;subst h2;have E6:i≠n:=fun e=>by subst e;exact E3 _ hx
    rcases r.hp i with gX|⟨a_,ah,hr⟩
    ·rw[h1]at gX;cases gX
    ·refine .inr ⟨a_,by rw[vK i E6];exact ah,?_⟩;rw[h1]at hr;obtain⟨vE,hr⟩:=hr;refine⟨vE,?_⟩;rcases hr with hr|⟨b,G,aM,bc,cq,cI,fb,hT⟩
     ·exact .inl hr.2.1
     ·have bM:=fb rfl;have vB:c5 φ σ.heap i b:=⟨a_,ah,.inl ⟨by rw[h1];rfl,aM⟩⟩;have E7:∀g∈G,c5 φ σ.heap i g:=fun g hg=>⟨a_,ah,.inr ⟨by rw[h1];rfl,bM▸hg⟩⟩;have hk:∀c,c5 φ σ.heap i c→w'.heap[c]?=w.heap[c]?:=by
       intro c hc;refine AS c (c5.lt r hc) (fun w2=>E6 (r.dJ i n c hc ⟨β0,dR,.inl ⟨by rw[h0];rfl,w2⟩⟩)) fun p hp E8 jL cQ bb=>?_;have:=r.dJ i p.1 c hc (E5 p hp jL c cQ bb);have aj:=hin p.1 p.2 hp;rw[←this,hin i _ hx,E8]at aj;cases aj
      have cR:∀c,c5 φ σ.heap i c→cz (c6 φ n β) (hupd (b_ σ.heap n (.ar sz xs true)) upd) c∨∃dE,β.eh=some dE∧dE=c:=by
       intro c hc;by_cases zQ:β.eh=some c
       ·exact .inr ⟨c,zQ,rfl⟩
       ·refine .inl fun j jL al he=>?_;by_cases h:j=n
        ·subst h;simp only[c6,if_true,bF]at al;subst al;rw[jr]at he;rcases he with ⟨_,he⟩|⟨he,_⟩
         ·exact zQ he
         ·cases he
        ·rw[vK j h]at al;by_cases gT:∃x,(j,x)∈upd
         ·obtain⟨x,gT⟩:=gT;rw[hin j x gT]at he;exact E4 j x gT _ _ he
         ·rw[m5 j h (fun x fJ=>gT ⟨x,fJ⟩)]at he;have:=r.dJ i j c hc (jq.wV al he);exact gT ⟨_,this▸hx⟩
      have zR:∀c,c5 φ σ.heap i c→cz (c6 φ n β) (hupd (b_ σ.heap n (.ar sz xs true)) upd) c:=by
       intro c hc;rcases cR c hc with h|⟨dE,cQ,rfl⟩
       ·exact h
       ·exfalso;exact E6 (r.dJ i n dE hc ⟨β0,dR,.inl ⟨by rw[h0];rfl,gd.1▸cQ⟩⟩)
      exact .inr ⟨b,G,aM,zR b vB,Nat.lt_of_lt_of_le cq.lt hs,yv hs ys b a_.off s G (hk b vB) (fun g hg=>hk g (E7 g hg)) (EZ _ _ _ _ _ cI),fun g hg=>zR g (E7 g hg)⟩
 ·by_cases h:i=n
  ·subst h;exact r.fU i β0 dR
  ·exact r.fU i a_ (by rw[←vK i h];exact hi)
end
variable {P:Program} {o:Oper} {g:Bool} {σ:St} {n:Nat} {K:eD→Prop}
section
variable {B:Nat→Prop} {w0:World} {aK:Nat→Prop} {φ:cp} {kp:List (V×Value)} {a:Act} {w:World}
theorem abw(r:R B w0 aK φ σ kp a w){id:Nat}{β:gQ}(dR:φ id=some β){cells cells':List V}(h0:aL σ.heap id=.box cells){b:Nat}(ik:β.eh=some b){CR:Array Value}{e:TypeId}{w':World}
  (hc:VRels φ (cz φ σ.heap) w.heap cells' CR.toList) (hw:w'.heap[b]?=some (.cells CR e (0,0))) (hk:∀c,c≠b→w'.heap[c]?=w.heap[c]?) (hs:w'.heap.size=w.heap.size) (hb:Bel B w0 w') :
  R B w0 aK φ ⟨σ.tmps,b_ σ.heap id (.box cells')⟩ kp a w':=by
 have cR:∀c,cz φ σ.heap c→cz φ (b_ σ.heap id (.box cells')) c:=by
  intro c ht i a_ hi he;rw[hH]at he;by_cases h:i=id
  ·subst h;rw[if_pos rfl]at he;rcases he with ⟨_,he⟩|⟨he,_⟩
   ·exact ht i a_ hi (.inl ⟨by rw[h0];rfl,he⟩)
   ·cases he
  ·rw[if_neg h]at he;exact ht i a_ hi he
 have Bm:∀c,cz φ σ.heap c→c≠b:=fun c ht m6=>by subst m6;exact ht id β dR (.inl ⟨by rw[h0];rfl,ik⟩)
 refine wP r (fun i=>i=id) _ _ _ w' (fun i hi=>⟨by rw[hH,if_neg hi],rfl⟩) (nq.refl φ) (by omega) (fun c _ ht=>hk c fun m6=>?_) ?_ ?_ (fun i j b hi al _ _=>hi.trans al.symm) ?_ ?_ r.fU hb
 ·subst m6;exact ht id rfl β dR (.inl ⟨by rw[h0];rfl,ik⟩)
 ·rintro i rfl c ⟨a_,h1,h2⟩;rw[dR]at h1;cases h1;rw[hH,if_pos rfl]at h2;rcases h2 with ⟨_,h2⟩|⟨h2,_⟩
  ·exact .inr ⟨i,rfl,β,dR,.inl ⟨by rw[h0];rfl,h2⟩⟩
  ·cases h2
 ·rintro i rfl a_ h1 c h2;rw[dR]at h1;cases h1;rw[hH,if_pos rfl]at h2;rcases h2 with ⟨_,h2⟩|⟨h2,_⟩
  ·exact .inr ⟨i,β,rfl,dR,.inl ⟨by rw[h0];rfl,h2⟩⟩
  ·cases h2
 ·rintro i a_ rfl _ hx;rw[hH,if_pos rfl]at hx;cases hx
 ·rintro i rfl;refine .inr ⟨β,dR,?_⟩;rw[hH,if_pos rfl];have abx:β.off=0:=by
   rcases r.hp i with hd|⟨a_,ah,hr⟩
   ·rw[h0]at hd;cases hd
   ·rw[dR]at ah;cases ah;rw[h0]at hr;obtain⟨_,_,_,_,h,_⟩:=hr;exact h
  exact⟨b,CR,e,ik,abx,hw,uo ⟨nq.refl φ,fun c _ ht=>cR c ht,fun c _ ht=>hk c (Bm c ht),by omega⟩ _ _ hc⟩
end
theorem A_{B:Nat→Prop}{w0 w:World}(h:Bel B w0 w)(hB:∀k,w.heap.size≤k→B k)(o:Obj):Bel B w0 (w.alloc o):=
 h.trans ⟨rfl,rfl,rfl,by simp,fun k hk=>RowKit.Below.heap_alloc _ _ _ (by
  rcases Nat.lt_or_ge k w.heap.size with h|h
  ·exact h
  ·exact absurd (hB k h) hk),fun b n r=>r.mono (RowKit.Below.heap_alloc _ _ _ r.lt)⟩
theorem ET{B:Nat→Prop}{w0:World}{aK zz:Nat→Prop}{φ:cp}{kp:List (V×Value)}{a:Act}{w:World}(r:R B w0 aK φ σ kp a w)(h:∀i,aK i→zz i):R B w0 zz φ σ kp a w:=
 ⟨r.g8,r.kp,r.hp,r.dJ,r.e9,r.e_,fun i β e=>h i (r.fU i β e),r.fP,r.bs,r.mV,r.ko⟩
theorem aby{φ:cp}{T:Nat→Prop}{h:Array Obj}{n b:Nat}:VRel (c6 φ n ⟨some b,0,0,0,[]⟩) T h (.ptr n 0 0) (.pointer (some ⟨b,0,none⟩)):=by
 simp only[VRel];exact⟨⟨some b,0,0,0,[]⟩,b,by simp[c6],rfl,by simp⟩
theorem Td{cells:List V}{cs:Act→Array Value}{e:TypeId}(fa:∀(a:Act) (w:World),(execOp a.eval o).run P w=.ok (.value (.pointer (some ⟨w.heap.size,0,none⟩))) (w.alloc (.cells (cs a) e)))
  (yx:∀{σ':St} {B:Nat→Prop} {w0:World} {aK:Nat→Prop} {φ:cp} {kp:List (V×Value)} {a:Act} {w:World},σ.le σ'→R B w0 aK φ σ' kp a w→g=true→VRels φ (cz φ σ'.heap) w.heap cells (cs a).toList) :
  gP P o g σ n ⟨.ptr n 0 0,[.box cells],[]⟩:=by
 intro σ' aY hd B w0 aK φ kp a w iR aQ hg K Q b6;unfold Oper.wp;rw[fa,Oper.upon_value];have h1:=abr aQ (n:=n) (hd n (Nat.le_refl _) (by simp)) (iR n (Nat.le_refl _) (by simp)) (yx aY aQ hg) (w':=w.alloc (.cells (cs a) e)) rfl (A_ aQ.fP aQ.bs _);exact b6 _ _ _ (mD h1 o.dst aby)
theorem ok_alloc{T:TypeId}(av:o.op=.alloc T)(h:match zrI P T with|some cells=>K ⟨.ptr n 0 0,[.box cells],[]⟩|none=>False):∃r,gP P o g σ n r∧K r:=by
 split at h
 ·rename_i cells hz;obtain⟨i,z,hi,Il,hr⟩:=A' hz;refine⟨_,Td (cs:=fun _=>z.cells) (e:=T) (fun a w=>?_) (fun _ _ _=>hr _ _ _),h⟩;unfold execOp;rw[av];simp[Instr.alloc,zeroValue,typeInfo,hi,Il,newVar,newRow]
 ·exact h.elim
theorem aa0{T:TypeId}{x:Operand}(av:o.op=.box T x)(h:evg g (σ.ev x) fun v=>v.wR=true∧K ⟨.ptr n 0 0,[.box v.cells],[]⟩):∃r,gP P o g σ n r∧K r:=by
 obtain⟨v,h1,hx⟩:=ga h;refine⟨_,Td (cs:=fun a=>(a.eval x).cells) (e:=T) (fun a w=>?_) (fun aY r hg=>(E9 h1.1 (hx _ _ _ _ hg (fR aY r x))).1),h1.2⟩;unfold execOp;rw[av];simp[Instr.box,newVar,newRow]
def storeE(P:Program)(hs:List H)(T:TypeId)(p v:V):Option (Prop×List (Nat×H)):=
 match tyI P T,p with
 |some (sz,_),.ptr id b0 off=>
  match aL hs id with
  |.box cells=>some (b0=0∧v.wR=true∧v.cells.length=sz∧off+sz≤cells.length,[(id,.box (dQ cells off v.cells))])
  |.ar s xs true=>
   match toDs hs v.cells with
   |some (ds,b9)=>some (v.wR=true∧v.cells.length=sz∧b0<xs.length∧off+sz≤((xs[b0]?).getD []).length∧b9.Nodup∧id∉b9,(id,.ar s (xs.set b0 (dQ ((xs[b0]?).getD []) off ds)) true)::b9.map fun i=>(i,match aL hs i with|.ar s ys _=>.ic s ys|x=>x))
   |none=>none
  |.g1 s pre cells post=>some (b0=pre.length∧v.wR=true∧v.cells.length=sz∧off+sz≤cells.length,[(id,.g1 s pre (dQ cells off v.cells) post)])
  |_=>none
 |_,_=>none
def reps(h:Array Obj)(o:Bool):List D→List Value→List Nat→Prop
 |[],us,G=>us=[]∧G=[]
 |d::ds,us,G=>∃u ck bQ bq,us=u::ck∧G=bQ++bq∧rep h o d u bQ∧reps h o ds ck bq
theorem Bf{h:Array Obj}{o:Bool}{b:Nat}:∀(ds:List D) (us:List Value) (f:Nat) (G:List Nat),reps h o ds us G→(∀(j:Nat) (u:Value),us[j]?=some u→cellAt h b (f+j)=some u)→repC h o b f ds G
 |[],us,f,G,r,_=>by simp only[reps]at r;simpa [repC]using r.2
 |d::ds,us,f,G,r,hc=>by
  simp only[reps]at r;obtain⟨u,ck,bQ,bq,rfl,rfl,aM,bc⟩:=r;simp only[repC];refine⟨u,bQ,bq,rfl,by simpa using hc 0 u rfl,aM,Bf ds ck (f+1) bq bc fun j v al=>?_⟩;rw[show f+1+j=f+(j+1)from by omega];exact hc (j+1) v (by simpa using al)
theorem Mw{h h':Array Obj}{o:Bool}(hs:h.size≤h'.size):∀(ds:List D) (us:List Value) (G:List Nat),(∀g∈G,h'[g]?=h[g]?)→reps h o ds us G→reps h' o ds us G
 |[],us,G,_,r=>by simpa [reps]using r
 |d::ds,us,G,bM,r=>by
  simp only[reps]at r⊢;obtain⟨u,ck,bQ,bq,rfl,rfl,aM,bc⟩:=r;exact⟨u,ck,bQ,bq,rfl,rfl,D8 hs d u bQ (fun g hg=>bM g (by simp[hg])) aM,Mw hs ds ck bq (fun g hg=>bM g (by simp[hg])) bc⟩
theorem Be{h:Array Obj}{o:Bool}:∀(ds:List D) (us:List Value) (G:List Nat),reps h o ds us G→us.length=ds.length
 |[],us,G,r=>by simp only[reps]at r;rw[r.1];rfl
 |d::ds,us,G,r=>by
  simp only[reps]at r;obtain⟨u,ck,bQ,bq,rfl,rfl,aM,bc⟩:=r;simp[Be ds ck bq bc]
section
variable {B:Nat→Prop} {w0:World} {aK:Nat→Prop} {φ:cp} {kp:List (V×Value)} {a:Act} {w:World}
theorem Ic(r:R B w0 aK φ σ kp a w):∀(vs:List V) (ds:List D) (b9:List Nat) (us:List Value),toDs σ.heap vs=some (ds,b9)→b9.Nodup→VRels φ (cz φ σ.heap) w.heap vs us→
  ∃G,reps w.heap true ds us G∧G.Nodup∧(∀b∈G,∃id∈b9,c5 φ σ.heap id b)∧∀id∈b9,∃sz xs,aL σ.heap id=.ar sz xs true
 |[],ds,b9,us,e,_,cJ=>by
  simp only[toDs,bF,c1]at e;obtain⟨rfl,rfl⟩:=e;simp only[VRels]at cJ;subst cJ;exact⟨[],by simp[reps],List.nodup_nil,by simp,by simp⟩
 |v::vs,ds,b9,us,e,hnd,cJ=>by
  simp only[VRels]at cJ;obtain⟨u,ck,rfl,EN,EO⟩:=cJ;simp only[toDs]at e;split at e
  ·rename_i d i oP is ah ai;simp only[bF,c1]at e;obtain⟨rfl,rfl⟩:=e;rw[List.nodup_append]at hnd;obtain⟨F,dA,fN,f3,f4⟩:=Me r ah EN;obtain⟨G,cC,c8,fs,l2⟩:=Ic r vs oP is ck ai hnd.2.1 EO;refine⟨F++G,?_,?_,?_,?_⟩
   ·simp only[reps];exact⟨u,ck,F,G,rfl,rfl,dA,cC⟩
   ·rw[List.nodup_append];refine⟨fN,c8,fun x hx y hy kL=>?_⟩;subst kL;obtain⟨p,dp,da⟩:=f3 x hx;obtain⟨q,cQ,bb⟩:=fs x hy;have:=r.dJ p q x da bb;exact hnd.2.2 p dp q cQ this
   ·intro b hb;rcases et.1 hb with hb|hb
    ·obtain⟨p,dp,da⟩:=f3 b hb;exact⟨p,by simp[dp],da⟩
    ·obtain⟨p,dp,da⟩:=fs b hb;exact⟨p,by simp[dp],da⟩
   ·intro p hp;rcases et.1 hp with hp|hp
    ·exact f4 p hp
    ·exact l2 p hp
  ·cases e
end
theorem run_store{T:TypeId}{sz:Nat}{gD:Bool}(h:tyI P T=some (sz,gD)){w:World}{b f:Nat}{cs:Array Value}{e:TypeId}(hb:w.heap[b]?=some (.cells cs e (0,0))){u:Value}(hl:u.cells.size=sz)(hf:f+sz≤cs.size)(h1:∀x∈u.cells.toList,x.oneCell'=true) :
  (storeVar T ⟨b,f,none⟩ u).run P w=.ok () (w.setRow b (dQ cs.toList f u.cells.toList).toArray):=by
 obtain⟨i,hi,hs,_⟩:=Mx h;have:=run_storeCells_at P b f e u.cells.toList 0 cs w hb (by simp;omega) h1;simp only[Nat.add_zero,List.append_assoc]at this;simp[storeVar,Go.sizeOf,typeInfo,hi,hs,hl,this,dQ]
theorem setRow_size(w:World)(b:Nat)(cs:Array Value):(w.setRow b cs).heap.size=w.heap.size:=by simp[World.setRow]
theorem wL{B:Nat→Prop}{b:Nat}{w0 w:World}(h:Bel B w0 w)(hb:B b){CY cs:Array Value}{e:TypeId}{cg:Nat×Nat}(hg:w.heap[b]?=some (.cells CY e cg))(hl:CY.size≤cs.size):Bel B w0 (w.setRow b cs):=
 h.trans ⟨rfl,rfl,rfl,by simp[World.setRow],fun k hk=>setRow_other w b k cs (fun e=>hk (e▸hb)),fun k n r=>by
  by_cases hk:k=b
  ·subst hk;obtain⟨c,t,h1,h2⟩:=r;rw[hg]at h1;cases h1;exact⟨cs,e,setRow_heap w k CY cs e (0,0) hg,Nat.le_trans h2 hl⟩
  ·exact r.mono (setRow_other w b k cs hk)⟩
variable {P:Program} {o:Oper} {g:Bool} {σ:St} {n:Nat} {K:eD→Prop}
theorem acx{α:Type}(c:List α)(off m:Nat):c=c.take off++((c.drop off).take m++c.drop (off+m)):=by
 have h1:=(List.take_append_drop off c).symm;have h2:=(List.take_append_drop m (c.drop off)).symm;rw[List.drop_drop]at h2;rw[←h2];exact h1
theorem acy{h h':Array Obj}{b f off:Nat}{c ds:List D}{G iz:List Nat}(r:repC h true b f c G)(hl:off+ds.length≤c.length)(hs:h.size≤h'.size)(bM:∀g∈G,h'[g]?=h[g]?)
  (m5:∀j,j<off∨off+ds.length≤j→cellAt h' b (f+j)=cellAt h b (f+j)) (acz:repC h' true b (f+off) ds iz) :
  ∃j8 Fj js,G=j8++(Fj++js)∧repC h' true b f (dQ c off ds) (j8++(iz++js)):=by
 rw[acx c off ds.length]at r;obtain⟨j8,bq,rfl,aM,bc⟩:=(Bi _ _ _ _).1 r;obtain⟨Fj,js,rfl,cq,cI⟩:=(Bi _ _ _ _).1 bc;have gl:(c.take off).length=off:=by simp;omega
 have gW:((c.drop off).take ds.length).length=ds.length:=by simp;omega
 rw[gl]at cq cI;rw[gW]at cI;refine⟨j8,Fj,js,rfl,(Bi _ _ _ _).2 ⟨j8,iz++js,rfl,?_,(Bi _ _ _ _).2 ⟨iz,js,rfl,by rw[gl];exact acz,?_⟩⟩⟩
 ·exact E0 _ f f j8 hs (fun x hx=>bM x (by simp[hx])) (fun j al=>m5 j (.inl (by omega))) aM
 ·rw[gl];refine E0 _ _ _ js hs (fun x hx=>bM x (by simp[hx])) (fun j al=>?_) cI;rw[Nat.add_assoc,Nat.add_assoc];exact m5 _ (.inr (by omega))
theorem acA{α:Type}(xs:List α)(i:Nat)(c:α)(h:i<xs.length):xs.set i c=xs.take i++(c::xs.drop (i+1)):=by
 rw[List.set_eq_take_append_cons_drop,if_pos h]
theorem acB{hs:List H}{v:V}{d:D}{b9:List Nat}(h:toD hs v=some (d,b9)):∀i∈b9,∃s ys,aL hs i=.ar s ys true:=by
 unfold toD at h;split at h
 ·split at h
  ·simp only[bF,c1]at h;obtain⟨_,rfl⟩:=h;simp
  ·cases h
 ·simp only[bF,c1]at h;obtain⟨_,rfl⟩:=h;simp
 ·rename_i id off len;split at h
  ·rename_i sz xs hx;split at h
   ·simp only[bF,c1]at h;obtain⟨_,rfl⟩:=h;intro i hi;simp only[List.mem_singleton]at hi;subst hi;exact⟨_,_,hx⟩
   ·cases h
  ·cases h
 ·cases h
theorem MC{hs:List H}:∀(vs:List V) (ds:List D) (b9:List Nat),toDs hs vs=some (ds,b9)→∀i∈b9,∃s ys,aL hs i=.ar s ys true
 |[],ds,b9,h=>by simp only[toDs,bF,c1]at h;obtain⟨_,rfl⟩:=h;simp
 |v::vs,ds,b9,h=>by
  simp only[toDs]at h;split at h
  ·rename_i d i oP is ah ai;simp only[bF,c1]at h;obtain⟨_,rfl⟩:=h;intro j al;rcases et.1 al with al|al
   ·exact acB ah j al
   ·exact MC vs oP is ai j al
  ·cases h
theorem acC{σ σ':St}(aY:σ.le σ'){v:V}{r:D×List Nat}(h:toD σ.heap v=some r):toD σ'.heap v=some r:=by
 cases v<;>simp only[toD]at h⊢<;>try exact h
 rename_i id off len;split at h
 ·rename_i sz xs hx;rcases aY.2 id with hh|hh
  ·rw[hx]at hh;cases hh
  ·rw[hh,hx];exact h
 ·cases h
theorem MB{σ σ':St}(aY:σ.le σ'):∀(vs:List V) (r:List D×List Nat),toDs σ.heap vs=some r→toDs σ'.heap vs=some r
 |[],_,h=>h
 |v::vs,r,h=>by
  simp only[toDs]at h⊢;split at h
  ·rename_i d i oP is ah ai;rw[acC aY ah,MB aY vs _ ai];exact h
  ·cases h
theorem H2{w:World}{b f:Nat}{cs:Array Value}{e:TypeId}(hb:w.heap[b]?=some (.cells cs e (0,0))){us:List Value}(hl:f+us.length≤cs.size)(j:Nat) :
  cellAt (w.setRow b (dQ cs.toList f us).toArray).heap b j=if f≤j∧j<f+us.length then us[j-f]? else cellAt w.heap b j:=by
 have hnew:=setRow_heap w b cs (dQ cs.toList f us).toArray e (0,0) hb;unfold cellAt;rw[hnew,hb];simp only[List.getElem?_toArray];unfold dQ;have jk:(cs.toList.take f).length=f:=by simp;omega
 by_cases h1:j<f
 ·rw[List.getElem?_append_left (by omega),if_neg (by omega),List.getElem?_take,if_pos h1,Array.getElem?_toList]
 ·rw[List.getElem?_append_right (by omega),jk];by_cases h2:j<f+us.length
  ·rw[if_pos ⟨by omega,h2⟩,List.getElem?_append_left (by omega)]
  ·rw[if_neg (by omega),List.getElem?_append_right (by omega),List.getElem?_drop,Array.getElem?_toList]
   congr 1;omega
theorem acD{l:List Value}{off:Nat}{vs:List Value}(h:off+vs.length≤l.length)(j:Nat):(dQ l off vs)[j]?=if off≤j∧j<off+vs.length then vs[j-off]? else l[j]?:=by
 unfold dQ;have jk:(l.take off).length=off:=by simp;omega
 by_cases h1:j<off
 ·rw[List.getElem?_append_left (by omega),if_neg (by omega),List.getElem?_take,if_pos h1]
 ·rw[List.getElem?_append_right (by omega),jk];by_cases h2:j<off+vs.length
  ·rw[if_pos ⟨by omega,h2⟩,List.getElem?_append_left (by omega)]
  ·rw[if_neg (by omega),List.getElem?_append_right (by omega),List.getElem?_drop]
   congr 1;omega
theorem pI{cs:Array Value}{f:Nat}{us:List Value}(h:f+us.length≤cs.size):cs.size≤(dQ cs.toList f us).toArray.size:=by
 have:=yo (l:=cs.toList) (off:=f) (vs:=us) (by simpa using h);simp only[List.size_toArray,this,Array.length_toList];exact Nat.le_refl _
theorem ok_store{T:TypeId}{p x:Operand}(av:o.op=.store T p x)
  (h:evg g (σ.ev p) fun q=>evg g (σ.ev x) fun v=>match storeE P σ.heap T q (j7 P T v)with|some (c,upd)=>c∧K ⟨.ak,[],upd⟩|none=>False):∃r,gP P o g σ n r∧K r:=by
 obtain⟨q,h1,hp⟩:=ga h;obtain⟨v,h2,hx⟩:=ga h1;clear h h1;split at h2
 ·rename_i c upd ag;obtain⟨hc,b6⟩:=h2;refine⟨_,?_,b6⟩;intro σ' aY _ B w0 aK φ kp a w _ aQ hg gp Q LV;have fo:=hp _ _ _ _ hg (fR aY aQ p);have c7:VRel φ (cz φ σ'.heap) w.heap (j7 P T v) (a.eval x):=Tu (hx _ _ _ _ hg (fR aY aQ x));generalize j7 P T v=fK at ag c7;clear hp hx;have a2:∀(w':World) (cV:cp),(storeVar T (match a.eval p with|.pointer (some ad)=>ad|_=>⟨0,0,none⟩) (a.eval x)).run P w=.ok () w'→(∃ad,a.eval p=.pointer (some ad))→
    R B w0 aK cV ⟨σ'.tmps,hupd σ'.heap upd⟩ kp a w'→o.wp P a w gp Q:=by
   rintro w' cV fa ⟨ad,EF⟩ eK;have mF:(execOp a.eval o).run P w=.ok .skip w':=by
    rw[EF]at fa;unfold execOp;rw[av];simp[Instr.storeAt,EF,Instr.sureAddr,fa]
   unfold Oper.wp;rw[mF,Oper.upon_skip];exact LV undef w' cV (mD (ET eK fun i hi=>.inl hi) o.dst (v:=.ak) (by simp[VRel]))
  unfold storeE at ag;split at ag
  ·rename_i sz gD id b0 off oS;simp only[VRel]at fo;obtain⟨β,b,ah,ai,aX⟩:=fo;have hh:=aY.2 id;split at ag
   ·
    rename_i cells l8;simp only[bF,c1]at ag;obtain⟨rfl,rfl⟩:=ag;obtain⟨cM,dI,jj,uj⟩:=hc;have gN:aL σ'.heap id=.box cells:=by
     rcases hh with hh|hh
     ·rw[l8]at hh;cases hh
     ·rw[hh,l8]
    rcases aQ.hp id with hd|⟨a_,gr,hr⟩
    ·rw[gN]at hd;cases hd
    ·rw[ah]at gr;cases gr;rw[gN]at hr;obtain⟨dE,cs,e,aM,bc,cq,cI⟩:=hr;rw[ai]at aM;cases aM;obtain⟨k1,k2⟩:=E9 dI c7;have C3:=jR _ _ k1;have Fk:=jR _ _ cI;have cH:(a.eval x).cells.size=sz:=by rw[←Array.length_toList,C3];exact jj
     have acE:β.off+b0 * β.sz+off=off:=by rw[bc,cM];simp
     rw[acE]at aX;have fa:=run_store oS cq cH (f:=off) (by rw[←Array.length_toList,Fk];exact uj) k2;have hnew:=setRow_heap w b cs (dQ cs.toList off (a.eval x).cells.toList).toArray e (0,0) cq;have hB:B b:=aQ.e_ id b ⟨β,ah,.inl ⟨by rw[gN];rfl,ai⟩⟩;refine a2 _ φ (by rw[aX];exact fa) ⟨_,aX⟩ ?_;exact abw aQ ah gN ai (cells':=dQ cells off fK.cells) (by simpa using MY cI k1 off) hnew (fun c m6=>setRow_other w b c _ m6) (setRow_size _ _ _) (wL aQ.fP hB cq (pI (by rw[Array.length_toList,cH,←Array.length_toList (xs:=cs),Fk];exact uj)))
   ·
    rename_i s xs l8;split at ag
    ·rename_i ds b9 uw;simp only[bF,c1]at ag;obtain⟨rfl,rfl⟩:=ag;obtain⟨cM,dI,jj,uj,TT,Hd⟩:=hc;have gN:aL σ'.heap id=.ar s xs true:=by
      rcases hh with hh|hh
      ·rw[l8]at hh;cases hh
      ·rw[hh,l8]
     rcases aQ.hp id with hd|⟨a_,gr,hr⟩
     ·rw[gN]at hd;cases hd
     ·rw[ah]at gr;cases gr;rw[gN]at hr;obtain⟨cH,hr⟩:=hr;rcases hr with hr|⟨dE,G,aM,bc,cq,cI,fb,hT⟩
      ·rw[hr.2.1]at jj;simp at jj
      ·rw[ai]at aM;cases aM;have bM:=fb rfl;obtain⟨cs,e,cQ,bb⟩:=cq;obtain⟨k1,k2⟩:=E9 cM c7;have C3:=jR _ _ k1;have vM:(a.eval x).cells.size=sz:=by rw[←Array.length_toList,C3];exact dI
       obtain⟨iz,eT,fW,iF,pL⟩:=Ic aQ _ _ _ _ (MB aY _ _ uw) TT k1;have jZ:ds.length=sz:=by rw[←Be _ _ _ eT,C3];exact dI
       obtain⟨c,M_⟩:∃c,xs[b0]?=some c:=⟨_,b8 jj⟩;simp only[M_,Option.getD_some]at uj a2;obtain⟨bQ,nz,bq,uq,vH,zK,CO,Mh⟩:=EV cI M_;have hf:β.off+b0 * s+off+sz≤cs.size:=by
        have aj:(b0+1) * s≤β.cap * s:=Nat.mul_le_mul_right _ (by omega);rw[Nat.add_mul]at aj;omega
       rw[cH]at aX;have fa:=run_store oS cQ vM (f:=β.off+b0 * s+off) hf k2;have nC:(a.eval x).cells.toList.length=sz:=by rw[Array.length_toList];exact vM
       have w5:=H2 cQ (us:=(a.eval x).cells.toList) (f:=β.off+b0 * s+off) (by rw[nC];exact hf);generalize vA:w.setRow b (dQ cs.toList (β.off+b0 * s+off) (a.eval x).cells.toList).toArray=w' at fa w5;have acF:w'.heap.size=w.heap.size:=by rw[←vA];exact setRow_size _ _ _
       have wJ:∀c,c≠b→w'.heap[c]?=w.heap[c]?:=fun c m6=>by rw[←vA];exact setRow_other w b c _ m6
       have hnew:w'.heap[b]?=some (.cells (dQ cs.toList (β.off+b0 * s+off) (a.eval x).cells.toList).toArray e (0,0)):=by rw[←vA];exact setRow_heap w b cs _ e (0,0) cQ
       have vB:c5 φ σ'.heap id b:=⟨β,ah,.inl ⟨by rw[gN];rfl,ai⟩⟩;have hB:B b:=aQ.e_ id b vB;have C4:∀g∈G,c5 φ σ'.heap id g:=fun g hg=>⟨β,ah,.inr ⟨by rw[gN];rfl,bM▸hg⟩⟩;have gf:=aQ.e9 id β ah (by rw[gN];rfl);rw[←bM]at gf;have n0:∀g∈G,g≠b:=fun g hg n0=>gf.2 b ai (n0▸hg);have TU:∀g∈iz,g≠b:=fun g hg n0=>by
        obtain⟨i,fm,dM⟩:=iF g hg;have:=aQ.dJ i id b (n0▸dM) vB;exact Hd (this▸fm)
       have IH:∀g∈G,w'.heap[g]?=w.heap[g]?:=fun g hg=>wJ g (n0 g hg);have acG:∀g∈iz,w'.heap[g]?=w.heap[g]?:=fun g hg=>wJ g (TU g hg);have LU:repC w'.heap true b (β.off+b0 * s+off) ds iz:=Bf _ _ _ _ (Mw (by omega) _ _ _ acG eT) fun j u al=>by
        have yA:j<(a.eval x).cells.toList.length:=(List.getElem?_eq_some_iff.1 al).1;rw[w5,if_pos ⟨by omega,by omega⟩];rw[show β.off+b0 * s+off+j-(β.off+b0 * s+off)=j from by omega];exact al
       rw[uq]at IH;obtain⟨j8,Fj,js,wU,l7⟩:=acy (h':=w'.heap) (off:=off) CO (by rw[jZ];exact uj) (by omega) (fun g hg=>IH g (by simp[hg])) (fun j al=>by
        rw[w5,if_neg (by rw[nC,←jZ];omega)]) LU
       have uD:repE w'.heap true b β.off s (xs.set b0 (dQ c off ds)) (bQ++((j8++(iz++js))++bq)):=by
        rw[acA xs b0 _ jj];have jk:(xs.take b0).length=b0:=by simp;omega
        refine(repE_append _ _ _ _).2 ⟨bQ,_,rfl,?_,?_⟩
        ·refine pF _ _ _ _ _ (by omega) (fun g hg=>IH g (by simp[hg])) (fun j al=>?_) zK;rw[jk]at al;rw[w5,if_neg (by omega)]
        ·rw[jk];simp only[repE];refine⟨_,_,rfl,by rw[yo (by rw[jZ];exact uj)];exact vH,l7,?_⟩;have aE:β.off+b0 * s+s=β.off+(b0+1) * s:=by rw[Nat.add_mul];omega
         rw[aE];refine pF _ _ _ _ _ (by omega) (fun g hg=>IH g (by simp[hg])) (fun j al=>?_) Mh;rw[w5,if_neg (by rw[←aE,nC];omega)]
       have acH:=MC _ _ _ uw;refine a2 w' (c6 φ id {β with c_:=bQ++((j8++(iz++js))++bq)}) (by rw[aX];exact fa) ⟨_,aX⟩ ?_;have acI:(bQ++((j8++(Fj++js))++bq)).Nodup:=by rw[←wU,←uq];exact gf.1
       have HO:∀x∈iz,x∉G:=fun y hy acJ=>by
        obtain⟨i,fm,dM⟩:=iF y hy;have:=aQ.dJ i id y dM (C4 y acJ);exact Hd (this▸fm)
       rw[uq,wU]at HO C4;refine Tc aQ (n:=id) (β:={β with c_:=bQ++((j8++(iz++js))++bq)}) (β0:=β) (upd:=b9.map fun i=>(i,match aL σ.heap i with|.ar s ys _=>.ic s ys|x=>x)) ?_ ?_ ah gN ⟨rfl,rfl,rfl,rfl⟩ ?_ cH (by omega) ?_ ?_ ?_ ?_ ?_ ?_
       ·rw[List.map_map];have:((fun x:Nat×H=>x.1)∘fun i=>(i,match aL σ.heap i with|.ar s ys _=>H.ic s ys|x=>x))=(fun i:Nat=>i):=rfl;rw[this,List.map_id'];exact TT
       ·intro p hp;obtain⟨i,fm,rfl⟩:=List.mem_map.1 hp;obtain⟨w1,ym,dM⟩:=acH i fm;obtain⟨dT,MW,ek⟩:=pL i fm;refine⟨dT,MW,ek,.inr ?_⟩;rcases aY.2 i with b3|b3
        ·rw[dM]at b3;cases b3
        ·rw[←b3,ek]
       ·intro y hy;obtain⟨i,fm,dM⟩:=List.mem_map.1 hy;simp only[c1]at dM;exact Hd (dM.1▸fm)
       ·rw[←vA];exact wL aQ.fP hB cQ (pI (by rw[nC];exact hf))
       ·intro c' _ hne _;exact wJ c' fun m6=>hne (m6▸ai)
       ·exact .inr ⟨b,ai,by simpa using bc,⟨_,e,hnew,by
         have:(dQ cs.toList (β.off+b0 * s+off) (a.eval x).cells.toList).length=cs.toList.length:=yo (by rw[nC];simpa using hf);simp only[List.size_toArray,this,Array.length_toList];exact bb⟩,uD⟩
       ·intro g hg;simp only[et]at hg;rcases hg with hg|(hg|hg|hg)|hg
        ·exact .inl (C4 g (by simp[hg]))
        ·exact .inl (C4 g (by simp[hg]))
        ·obtain⟨i,fm,dM⟩:=iF g hg;exact .inr ⟨(i,_),List.mem_map.2 ⟨i,fm,rfl⟩,dM⟩
        ·exact .inl (C4 g (by simp[hg]))
        ·exact .inl (C4 g (by simp[hg]))
       ·simp only[List.nodup_append,et]at acI HO⊢;grind
       ·intro dE gC;simp only at gC;rw[ai]at gC;cases gC;intro jY;simp only[et]at jY;rcases jY with hg|(hg|hg|hg)|hg
        ·exact n0 _ (by rw[uq,wU];simp[hg]) rfl
        ·exact n0 _ (by rw[uq,wU];simp[hg]) rfl
        ·exact TU _ hg rfl
        ·exact n0 _ (by rw[uq,wU];simp[hg]) rfl
        ·exact n0 _ (by rw[uq,wU];simp[hg]) rfl
    ·cases ag
   ·
    rename_i s pre cells post l8;simp only[bF,c1]at ag;obtain⟨rfl,rfl⟩:=ag;obtain⟨cM,dI,jj,uj⟩:=hc;have gN:aL σ'.heap id=.g1 s pre cells post:=by
     rcases hh with hh|hh
     ·rw[l8]at hh;cases hh
     ·rw[hh,l8]
    rcases aQ.hp id with hd|⟨a_,gr,hr⟩
    ·rw[gN]at hd;cases hd
    ·rw[ah]at gr;cases gr;rw[gN]at hr;obtain⟨hs,hcl,dE,bQ,bq,us,aM,bc,cq,cI,fb,hT,wW,zM⟩:=hr;rw[ai]at aM;cases aM;obtain⟨cs,e,cQ,bb⟩:=cq;obtain⟨k1,k2⟩:=E9 dI c7;have C3:=jR _ _ k1;have Fk:=jR _ _ hT;have cH:(a.eval x).cells.size=sz:=by rw[←Array.length_toList,C3];exact jj
     have hf:β.off+pre.length * s+off+sz≤cs.size:=by
      have aj:(pre.length+1) * s≤β.cap * s:=Nat.mul_le_mul_right _ (by omega);rw[Nat.add_mul]at aj;omega
     rw[cM,hs]at aX;have fa:=run_store oS cQ cH (f:=β.off+pre.length * s+off) hf k2;have nC:(a.eval x).cells.toList.length=sz:=by rw[Array.length_toList];exact cH
     have w5:=H2 cQ (us:=(a.eval x).cells.toList) (f:=β.off+pre.length * s+off) (by rw[nC];exact hf);generalize vA:w.setRow b (dQ cs.toList (β.off+pre.length * s+off) (a.eval x).cells.toList).toArray=w' at fa w5;have acF:w'.heap.size=w.heap.size:=by rw[←vA];exact setRow_size _ _ _
     have wJ:∀c,c≠b→w'.heap[c]?=w.heap[c]?:=fun c m6=>by rw[←vA];exact setRow_other w b c _ m6
     have hnew:w'.heap[b]?=some (.cells (dQ cs.toList (β.off+pre.length * s+off) (a.eval x).cells.toList).toArray e (0,0)):=by rw[←vA];exact setRow_heap w b cs _ e (0,0) cQ
     have hB:B b:=aQ.e_ id b ⟨β,ah,.inl ⟨by rw[gN];rfl,ai⟩⟩;have gf:=aQ.e9 id β ah (by rw[gN];rfl);have n0:∀g∈β.c_,w'.heap[g]?=w.heap[g]?:=fun g hg=>wJ g fun n0=>gf.2 b ai (n0▸hg);rw[cI]at n0;have cR:∀c,cz φ σ'.heap c→cz φ (b_ σ'.heap id (.g1 s pre (dQ cells off fK.cells) post)) c:=by
      intro c ht i a_ hi he;rw[hH]at he;by_cases h:i=id
      ·subst h;rw[if_pos rfl]at he;exact ht i a_ hi (by rw[gN];exact he)
      ·rw[if_neg h]at he;exact ht i a_ hi he
     have Bm:∀c,cz φ σ'.heap c→c≠b:=fun c ht m6=>by subst m6;exact ht id β ah (.inl ⟨by rw[gN];rfl,ai⟩)
     refine a2 _ φ (by rw[aX];exact fa) ⟨_,aX⟩ ?_;refine wP aQ (fun i=>i=id) _ _ _ w' (fun i hi=>⟨by show aL (b_ σ'.heap id _) i=_;rw[hH,if_neg hi],rfl⟩) (nq.refl φ) (by omega) (fun c _ ht=>wJ c fun m6=>?_) ?_ ?_ (fun i j b hi al _ _=>hi.trans al.symm) ?_ ?_ aQ.fU
      (by rw[←vA];exact wL aQ.fP hB cQ (pI (by rw[nC];exact hf)))
     ·subst m6;exact ht id rfl β ah (.inl ⟨by rw[gN];rfl,ai⟩)
     ·rintro i rfl c ⟨a_,h1,h2⟩;rw[ah]at h1;cases h1;change (((aL (b_ σ'.heap i _) i).m2=true∧_)∨((aL (b_ σ'.heap i _) i).own=true∧_))at h2;rw[hH,if_pos rfl]at h2;exact .inr ⟨i,rfl,β,ah,by rw[gN];exact h2⟩
     ·rintro i rfl a_ h1 c h2;rw[ah]at h1;cases h1;change jq (aL (b_ σ'.heap i _) i) β c at h2;rw[hH,if_pos rfl]at h2;exact .inr ⟨i,β,rfl,ah,by rw[gN];exact h2⟩
     ·rintro i a_ rfl h1 _;rw[ah]at h1;cases h1;exact gf
     ·rintro i rfl;refine .inr ⟨β,ah,?_⟩
      show dX φ (cz φ (b_ σ'.heap i _)) w'.heap β (aL (b_ σ'.heap i _) i)
      rw[hH,if_pos rfl];have acK:∀(vs:List V) (us:List Value),VRels φ (cz φ σ'.heap) w.heap vs us→VRels φ (cz φ (b_ σ'.heap i (.g1 s pre (dQ cells off fK.cells) post))) w'.heap vs us:=
       fun vs us hv=>uo ⟨nq.refl φ,fun c _ ht=>cR c ht,fun c _ ht=>wJ c (Bm c ht),by omega⟩ _ _ hv
      refine⟨hs,?_,b,bQ,bq,dQ us off (a.eval x).cells.toList,ai,bc,⟨_,e,hnew,?_⟩,cI,?_,acK _ _ (MY hT k1 off),fun j u al=>?_,?_⟩
      ·rw[yo (by rw[jj];omega)];exact hcl
      ·have:(dQ cs.toList (β.off+pre.length * s+off) (a.eval x).cells.toList).length=cs.toList.length:=yo (by rw[nC];simpa using hf);simp only[List.size_toArray,this,Array.length_toList];exact bb
      ·refine pF _ _ _ _ _ (by omega) (fun g hg=>n0 g (by simp[hg])) (fun j al=>?_) fb;rw[w5,if_neg (by omega)]
      ·rw[w5,nC];have vM:off+sz≤us.length:=by rw[Fk];exact uj
       have hsp:=acD (l:=us) (off:=off) (vs:=(a.eval x).cells.toList) (by rw[nC];exact vM) j;rw[hsp,nC]at al;by_cases hin:off≤j∧j<off+sz
       ·rw[if_pos hin]at al;rw[if_pos (by omega),show β.off+pre.length * s+j-(β.off+pre.length * s+off)=j-off from by omega];exact al
       ·rw[if_neg hin]at al;rw[if_neg (by omega)];exact wW j u al
      ·refine pF _ _ _ _ _ (by omega) (fun g hg=>n0 g (by simp[hg])) (fun j al=>?_) zM;rw[w5,if_neg (by rw[nC,Nat.add_mul];omega)]
   ·cases ag
  ·cases ag
 ·exact h2.elim
variable {P:Program} {o:Oper} {g:Bool} {σ:St} {n:Nat} {K:eD→Prop}
theorem HS{h:Array Obj}{bl:Bool}{b:Nat}:∀(cs:List (List D)) (f sz:Nat) (G:List Nat),repE h bl b f sz cs G→∃us:List Value,us.length=cs.length * sz∧(∀(j:Nat) (u:Value),us[j]?=some u→cellAt h b (f+j)=some u)∧∀u∈us,u.oneCell'=true
 |[],f,sz,G,_=>⟨[],by simp,by simp,by simp⟩
 |c::cs,f,sz,G,r=>by
  simp only[repE]at r;obtain⟨bQ,bq,rfl,ai,aX,br⟩:=r;obtain⟨us,fk,gB,jl⟩:=LW c f bQ aX;obtain⟨vs,hP,hE,uE⟩:=HS cs (f+sz) sz bq br;refine⟨us++vs,by rw[eG,fk,hP,ai,eW,Nat.add_mul];omega,fun j u al=>?_,fun u hu=>?_⟩
  ·rw[List.getElem?_append]at al;split at al
   ·exact gB j u al
   ·rename_i px;have:=hE _ u al;rw[show f+sz+(j-us.length)=f+j from by rw[fk,ai]at *;omega]at this;exact this
  ·rcases et.1 hu with hu|hu
   ·obtain⟨j,al,rfl⟩:=List.getElem_of_mem hu;obtain⟨CF,_,k2⟩:=jl j c[j] us[j] (b8 (by omega)) (b8 al);exact LX k2
   ·exact uE u hu
theorem LY{w:World}(t ty e:TypeId)(i:TypeInfo)(ht:P.underlying t=some (.slice e))(hi:P.info? e=some i)(b f yl EE:Nat)(cur:Array Value)(te:TypeId)(hg:w.heap[b]?=some (.cells cur te (0,0)))
  (m:Nat) (mA:Value) (g2:List Value) (hl:Builtin.lenOf mA=(pure m:Sem Nat)) (hf:(Builtin.firstCells i.size m mA).run P w=.ok g2.toArray w) (h1:∀u∈g2,u.oneCell'=true) (hS:yl+m≤EE) (kJ:f+yl * i.size+g2.length≤cur.size) :
  (Builtin.append_ #[t,t] ty #[.slice (some ⟨b,f,none⟩) yl EE,mA]).run P w=.ok (.slice (some ⟨b,f,none⟩) (yl+m) EE) (w.setRow b (dQ cur.toList (f+yl * i.size) g2).toArray):=by
 have cW:=run_storeCells_at P b (f+yl * i.size) te g2 0 cur w hg (by simpa using kJ) h1;simp only[Nat.add_zero,List.append_assoc]at cW;simp[Builtin.append_,run_underlying ht,Go.sizeOf,typeInfo,hi,hl,hS,hf,add_lit,cW,dQ]
theorem LZ{w:World}{ad:Option Addr}{c sz:Nat}{ys:List (List D)}{bl:Bool}(h:ys=[]∨∃b f G,ad=some ⟨b,f,none⟩∧repE w.heap bl b f sz ys G) :
  ∃g2:List Value,g2.length=ys.length * sz∧(∀w':World,w'.heap=w.heap→(Builtin.firstCells sz ys.length (.slice ad ys.length c)).run P w'=.ok g2.toArray w')∧(∀u∈g2,u.oneCell'=true)∧
   (ys≠[]→∃b f,ad=some ⟨b,f,none⟩∧∀(j:Nat) (u:Value),g2[j]?=some u→cellAt w.heap b (f+j)=some u):=by
 by_cases hne:ys=[]
 ·subst hne;refine⟨[],by simp,fun w' _=>?_,by simp,fun h=>absurd rfl h⟩
  cases ad with
  |none=>rfl
  |some ad=>simp[Builtin.firstCells,loadCells,loadCellsFrom]
 ·rcases h with h|⟨b,f,G,rfl,h⟩
  ·exact absurd h hne
  ·obtain⟨us,fk,gB,jl⟩:=HS _ _ _ _ h;refine⟨us,fk,fun w' vA=>?_,jl,fun _=>⟨b,f,rfl,gB⟩⟩;have:=run_loadCells_list (P:=P) w' ⟨b,f,none⟩ us (fun j v al=>by rw[add_lit,cell_eq,vA];exact gB j v al);rw[fk]at this;simpa [Builtin.firstCells]using this
section
variable {B:Nat→Prop} {w0:World} {aK:Nat→Prop} {φ:cp} {kp:List (V×Value)} {a:Act} {w:World}
theorem Si{w':World}{cs:Array Value}{e:TypeId}{b f sz:Nat}{zs:List (List D)}{G:List Nat}{off:Nat}(hh:w'.heap=w.heap.push (.cells cs e))(hz:repE w.heap true b f sz zs G)
  (hc:∀j,j<zs.length * sz→cs[off+j]?=cellAt w.heap b (f+j)) (bM:∀g∈G,g<w.heap.size):repE w'.heap true w.heap.size off sz zs G:=by
 refine pF zs f off sz G (by rw[hh];simp) (fun g hg=>?_) (fun j al=>?_) hz
 ·rw[hh,Array.getElem?_push];simp[Nat.ne_of_lt (bM g hg)]
 ·rw[←hc j al];unfold cellAt;rw[hh];simp
def srcE(hs:List H)(sz:Nat)(y:V):Option (List (List D)×List (Nat×H)):=
 match elsOf hs y with
 |some (g3,ys)=>
  if g3=sz then
   if gy ys then some (ys,[])
   else match y with
    |.sl id _ _=>match aL hs id with|.ar s zs true=>some (ys,[(id,.ic s zs)])|_=>none
    |_=>none
  else none
 |none=>none
theorem aav{σ':St}(aY:σ.le σ')(r:R B w0 aK φ σ' kp a w){sz:Nat}{y:V}{ys:List (List D)}{cons:List (Nat×H)}(he:srcE σ.heap sz y=some (ys,cons)){u:Value}(fD:VRel φ (cz φ σ'.heap) w.heap y u) :
  ∃ad c Gs,u=.slice ad ys.length c∧ys.length≤c∧(ys=[]∧Gs=[]∨∃b f,ad=some ⟨b,f,none⟩∧b<w.heap.size∧repE w.heap true b f sz ys Gs∧∀k β,φ k=some β→β.eh=some b→(aL σ'.heap k).m2=true→∃off l,y=.sl k off l)∧Gs.Nodup∧
   (∀g∈Gs,∃p∈cons,c5 φ σ'.heap p.1 g)∧(cons.map (·.1)).Nodup∧(∀p∈cons,∃s zs,aL σ'.heap p.1=.ar s zs true∧p.2=.ic s zs)∧∀p∈cons,∃off l,y=.sl p.1 off l:=by
 unfold srcE at he;split at he
 ·rename_i g3 ym hel;split at he
  ·rename_i cH;subst cH;obtain⟨ad,c,ah,ai,aX,br⟩:=HT aY r hel fD;have wJ:∀{b f:Nat},ad=some ⟨b,f,none⟩→ym≠[]→∀k β,φ k=some β→β.eh=some b→(aL σ'.heap k).m2=true→∃off l,y=.sl k off l:=by
    intro b f EF hne k β hk hb yn
    cases y with
    |sl id off l=>
     obtain⟨a_,ad',c',cQ,bb,bD,bR,bJ⟩:=uF fD;rw[ah]at bb;simp only[Value.slice.injEq]at bb;rcases bJ with bJ|⟨dE,bJ,ch,cZ⟩
     ·exfalso;have:ym.length=0:=by omega
      exact hne (List.eq_nil_of_length_eq_zero this)
     ·rw[←bb.1,EF]at ch;simp only[bF,Addr.mk.injEq]at ch;rw[←ch.1]at bJ;have HU:∃q,(aL σ.heap id).els=some q:=by
       simp only[elsOf]at hel;split at hel
       ·exact⟨_,by assumption⟩
       ·cases hel
      obtain⟨q,HU⟩:=HU;have hx:=CG aY HU;obtain⟨jL,dp,da⟩:=HV r hx;rw[cQ]at dp;cases dp
      cases hh:aL σ'.heap id with
      |b'=>rw[hh]at hx;cases hx
      |box cells=>rw[hh]at hx;cases hx
      |af _ _=>rw[hh]at hx;cases hx
      |g1 _ _ _ _=>rw[hh]at hx;cases hx
      |ar s zs jm=>
       have:=r.dJ k id b ⟨β,hk,.inl ⟨yn,hb⟩⟩ ⟨a_,cQ,.inl ⟨by rw[hh];rfl,bJ⟩⟩;exact⟨off,l,by rw[this]⟩
      |ic s zs=>
       rw[hh]at da;obtain⟨_,da⟩:=da;rcases da with da|⟨eS,G,f_,gA,wI,zx,A8⟩
       ·exfalso;subst da;rw[hh]at hx;simp only[H.els,bF]at hx;subst hx;simp only[elsOf,HU]at hel;split at hel
        ·simp only[bF,c1]at hel;exact hne (by rw[←hel.2];simp)
        ·cases hel
       ·rw[bJ]at f_;cases f_;exact(gA k β hk (.inl ⟨yn,hb⟩)).elim
    |d x=>
     cases x with
     |sl s zs=>
      obtain⟨ad',c',cQ,bb,bD,bR⟩:=EG fD;rw[ah]at cQ;simp only[Value.slice.injEq]at cQ;rcases bR with bR|⟨dE,g9,G,bR,bJ,ch,cZ,dq⟩
      ·simp only[elsOf,bF,c1]at hel;exact absurd (hel.2▸bR) hne
      ·rw[←cQ.1,EF]at bR;simp only[bF,Addr.mk.injEq]at bR;exact((bR.1▸ch) k β hk (.inl ⟨yn,hb⟩)).elim
     |_=>simp[elsOf]at hel
    |dw s=>
     simp only[elsOf,bF,c1]at hel;exact absurd hel.2.symm hne
    |_=>simp[elsOf]at hel
   split at he
   ·rename_i hf;simp only[bF,c1]at he;obtain⟨rfl,rfl⟩:=he;refine⟨ad,c,[],ah,ai,?_,List.nodup_nil,by simp,by simp,by simp,by simp⟩;rcases br with br|⟨b,f,G,br,cF,jy,ny⟩
    ·exact .inl ⟨br,rfl⟩
    ·by_cases hne:ym=[]
     ·exact .inl ⟨hne,rfl⟩
     ·exact .inr ⟨b,f,br,cF,Sj _ _ _ _ hf jy,wJ br hne⟩
   ·split at he
    ·rename_i id off l;split at he
     ·rename_i s zs hx;simp only[bF,c1]at he;obtain⟨rfl,rfl⟩:=he;have fJ:aL σ'.heap id=.ar s zs true:=by
       rcases aY.2 id with hh|hh
       ·rw[hx]at hh;cases hh
       ·rw[hh,hx]
      simp only[elsOf,hx,H.els]at hel;split at hel
      ·rename_i hb;simp only[bF,c1]at hel;obtain⟨rfl,rfl⟩:=hel;obtain⟨F,dA,fN,f3⟩:=Sk r fJ hb fD;simp only[rep]at dA;obtain⟨ad',c',cC,c8,fs,l2⟩:=dA;refine⟨ad',c',F.tail,cC,c8,?_,?_,?_,by simp,by simp[fJ],by simp⟩
       ·rw[ah]at cC;simp only[Value.slice.injEq,true_and]at cC;rcases l2 with l2|⟨b,f,G,k1,k2,ee,ix,zB⟩
        ·exact .inl ⟨l2.1,by rw[l2.2.1];rfl⟩
        ·subst k2;by_cases hne:(zs.drop off).take l=[]
         ·rw[hne]at ix;simp only[repE]at ix;subst ix;exact .inl ⟨hne,rfl⟩
         ·exact .inr ⟨b,f,k1,ee,ix,wJ (cC.1.trans k1) hne⟩
       ·exact fN.sublist (List.tail_sublist F)
       ·intro x zC;exact⟨_,List.mem_singleton.2 rfl,f3 x (List.mem_of_mem_tail zC)⟩
      ·cases hel
     ·cases he
    ·cases he
  ·cases he
 ·cases he
end
def L0(id:Nat)(y:V):Bool:=match y with|.sl k _ _=>k != id|_=>true
def apE(P:Program)(hs:List H)(T:TypeId)(x y:V)(n:Nat):Option (Prop×eD):=
 match elI P T with
 |none=>none
 |some (e,sz,f')=>
  match srcE hs sz y with
  |none=>none
  |some (ys,cons)=>
   match x with
   |.dw _=>some ((zrI P e).map List.length=some sz∧0<f'∧ys.length * f'≤140737488355328,⟨.sl n 0 ys.length,[.ar sz ys true],cons⟩)
   |.sl id 0 len=>
    match aL hs id with
    |.ar s xs true=>if s=sz then some ((zrI P e).map List.length=some sz∧0<f'∧len=xs.length∧(xs.length+ys.length) * f'≤140737488355328∧L0 id y=true,⟨.sl n 0 (xs.length+ys.length),[.ar sz (xs++ys) true],(id,.b')::cons⟩)else none
    |_=>none
   |_=>none
section
variable {B:Nat→Prop} {w0:World} {aK:Nat→Prop} {φ:cp} {kp:List (V×Value)} {a:Act} {w:World}
structure HW(σ':St)(φ:cp)(w:World)(sz:Nat)(xs:List (List D))(upd:List (Nat×H))(ad:Option Addr)(c:Nat)(G:List Nat):Prop where
 len:xs.length≤c
 wK:c≤maxLen
 lL:G.Nodup
 own:∀g∈G,∃p∈upd,c5 φ σ'.heap p.1 g
 up:upd=[]∨∃id s ys,upd=[(id,.b')]∧aL σ'.heap id=.ar s ys true
 L1:(c=0∧xs=[]∧G=[])∨∃id β b,upd=[(id,.b')]∧φ id=some β∧β.eh=some b∧ad=some ⟨b,β.off,none⟩∧c=β.cap∧β.sz=sz∧mB w.heap b (β.off+β.cap * sz)∧repE w.heap true b β.off sz xs G∧b∉G
theorem aaw{t ty e:TypeId}{i:TypeInfo}(ht:P.underlying t=some (.slice e))(hi:P.info? e=some i)(ad ad':Option Addr)(c':Nat)(w:World) :
  (Builtin.append_ #[t,t] ty #[.slice ad 0 0,.slice ad' 0 c']).run P w=.ok (.slice ad 0 0) w:=by
 have hf:(Builtin.firstCells i.size 0 (.slice ad' 0 c')).run P w=.ok #[] w:=by
  cases ad' with
  |none=>rfl
  |some ad=>simp[Builtin.firstCells,loadCells,loadCellsFrom]
 have hs:(Go.sizeOf e).run P w=Result.ok i.size w:=by simp[Go.sizeOf,typeInfo,hi]
 have hl:(Builtin.lenOf (.slice ad' 0 c')).run P w=.ok 0 w:=rfl
 cases ad<;>simp[Builtin.append_,run_underlying ht,hs,hl,hf,storeCells]
theorem aax{σ':St}(aQ:R B w0 aK φ σ' kp a w){n:Nat}(hd:aL σ'.heap n=.b')(hn:¬aK n){T ty e:TypeId}{i:TypeInfo}{z:Value}(ht:P.underlying T=some (.slice e))(hi:P.info? e=some i)(hz:i.zero=some z)
  (aay:z.cells.size=i.size) (zE:0<i.bytes) {xs ys:List (List D)} (kJ:(xs.length+ys.length) * i.bytes≤140737488355328) {upd cons:List (Nat×H)} {ad ad':Option Addr} {c c':Nat} {G Gs:List Nat} (bs:HW σ' φ w i.size xs upd ad c G)
  (pG:ys=[]∧Gs=[]∨∃b f,ad'=some ⟨b,f,none⟩∧b<w.heap.size∧repE w.heap true b f i.size ys Gs) (L2:Gs.Nodup) (A9:∀g∈Gs,∃p∈cons,c5 φ σ'.heap p.1 g) (aaz:(cons.map (·.1)).Nodup)
  (aaA:∀p∈cons,∃s zs,aL σ'.heap p.1=.ar s zs true∧p.2=.ic s zs) (L3:∀p∈cons,∀q∈upd,p.1≠q.1) (akR:∀b f,ad'=some ⟨b,f,none⟩→ys≠[]→∀q∈upd,∀β,φ q.1=some β→β.eh≠some b) :
  ∃w' cV u,(Builtin.append_ #[T,T] ty #[.slice ad xs.length c,.slice ad' ys.length c']).run P w=.ok u w'∧
   R B w0 (fun i=>aK i∨(n≤i∧i<n+1)) cV ⟨σ'.tmps,hupd (b_ σ'.heap n (.ar i.size (xs++ys) true)) (upd++cons)⟩ kp a w'∧∀gO h',VRel cV gO h' (.sl n 0 (xs.length+ys.length)) u:=by
 have EH:xs.length+ys.length≤maxLen:=by
  have:(xs.length+ys.length) * 1≤(xs.length+ys.length) * i.bytes:=Nat.mul_le_mul_left _ zE;simp only[maxLen];omega
 have Sl:∀p∈upd,p.2=.b'∧∃s ys,aL σ'.heap p.1=.ar s ys true:=by
  intro p hp;rcases bs.up with h|⟨id,s,ym,h,h2⟩
  ·rw[h]at hp;cases hp
  ·rw[h]at hp;simp only[List.mem_singleton]at hp;subst hp;exact⟨rfl,s,ym,h2⟩
 have hnd:((upd++cons).map (·.1)).Nodup:=by
  rw[List.map_append];refine List.nodup_append.2 ⟨?_,aaz,?_⟩
  ·rcases bs.up with h|⟨id,s,ym,h,h2⟩<;>rw[h]<;>simp
  ·intro x hx y hy kL;obtain⟨p,hp,rfl⟩:=List.mem_map.1 hx;obtain⟨q,hq,rfl⟩:=List.mem_map.1 hy;exact L3 q hq p hp kL.symm
 have hu:∀p∈upd++cons,∃sz xs,aL σ'.heap p.1=.ar sz xs true∧(p.2=.b'∨p.2=.ic sz xs):=by
  intro p hp;rcases et.1 hp with hp|hp
  ·obtain⟨h1,s,ym,h2⟩:=Sl p hp;exact⟨s,ym,h2,.inl h1⟩
  ·obtain⟨s,zs,h1,h2⟩:=aaA p hp;exact⟨s,zs,h1,.inr h2⟩
 have aaB:∀x∈G,∀y∈Gs,x≠y:=by
  rintro x hx y hy rfl;obtain⟨p,dp,da⟩:=bs.own x hx;obtain⟨q,cQ,bb⟩:=A9 x hy;exact L3 q cQ p dp (aQ.dJ _ _ _ bb da)
 have HX:∀g∈G,g<w.heap.size:=fun g hg=>by obtain⟨p,_,da⟩:=bs.own g hg;exact c5.lt aQ da
 have Sm:∀g∈Gs,g<w.heap.size:=fun g hg=>by obtain⟨p,_,da⟩:=A9 g hg;exact c5.lt aQ da
 have Sn:(G++Gs).Nodup:=List.nodup_append.2 ⟨bs.lL,L2,aaB⟩;have zF:∀b∈G++Gs,w.heap.size≤b∨∃p∈upd++cons,c5 φ σ'.heap p.1 b:=by
  intro b hb;rcases et.1 hb with hb|hb
  ·obtain⟨p,dp,da⟩:=bs.own b hb;exact .inr ⟨p,List.mem_append_left _ dp,da⟩
  ·obtain⟨p,dp,da⟩:=A9 b hb;exact .inr ⟨p,List.mem_append_right _ dp,da⟩
 have aaC:ys=[]∨∃b f G,ad'=some ⟨b,f,none⟩∧repE w.heap true b f i.size ys G:=by
  rcases pG with h|⟨b,f,h1,_,h2⟩
  ·exact .inl h.1
  ·exact .inr ⟨b,f,Gs,h1,h2⟩
 obtain⟨g2,l7,uG,uH,pH⟩:=LZ (P:=P) (c:=c') aaC;by_cases hS:xs.length+ys.length≤c
 ·rcases bs.L1 with ⟨h1,h2,aj⟩|⟨id,β,b,eF,eS,ew,oH,mv,D7,Cd,AQ,vn⟩
  ·subst h1;subst h2;subst aj;have aE:ys=[]:=List.eq_nil_of_length_eq_zero (by simp at hS;simpa using hS);subst aE;have uq:Gs=[]:=by
    rcases pG with h|⟨b,f,_,_,h⟩
    ·exact h.2
    ·simpa [repE]using h
   refine⟨w,c6 φ n ⟨none,0,0,i.size,[]⟩,.slice ad 0 0,aaw ht hi ad ad' c' w,?_,fun gO h'=>?_⟩
   ·exact HY aQ hd hn hnd hu rfl (Nat.le_refl _) aQ.fP (fun _ _ _=>rfl) (.inl ⟨rfl,rfl,rfl,rfl⟩) (fun b hb=>by cases hb) (fun b hb=>by cases hb) List.nodup_nil (fun b hb=>by cases hb)
   ·simp only[VRel];exact⟨⟨none,0,0,i.size,[]⟩,ad,0,by simp[c6],rfl,by decide,.inl ⟨rfl,rfl,rfl⟩⟩
  ·subst oH;obtain⟨cs,te,aM,bc⟩:=Cd;have So:(xs.length+ys.length) * i.size≤β.cap * i.size:=Nat.mul_le_mul_right _ (Nat.le_trans hS (Nat.le_of_eq mv));have CH:(xs.length+ys.length) * i.size=xs.length * i.size+ys.length * i.size:=Nat.add_mul _ _ _;have HZ:β.off+xs.length * i.size+g2.length≤cs.size:=by rw[l7];omega
   have fa:=LY (P:=P) (w:=w) T ty e i ht hi b β.off xs.length c cs te aM ys.length (.slice ad' ys.length c') g2 rfl (uG w rfl) uH hS HZ;have H0:(id,H.b')∈upd:=by rw[eF];simp
   obtain⟨_,akS,akT,aaD⟩:=Sl _ H0;have vB:c5 φ σ'.heap id b:=⟨β,eS,.inl ⟨by rw[aaD];rfl,ew⟩⟩;have L4:∀dE,dE≠b→(w.setRow b (dQ cs.toList (β.off+xs.length * i.size) g2).toArray).heap[dE]?=w.heap[dE]?:=fun dE gC=>setRow_other w b dE _ gC;have l8:=H2 (f:=β.off+xs.length * i.size) aM HZ;have L5:∀g∈G++Gs,g≠b:=by
    rintro g hg rfl;rcases et.1 hg with hg|hg
    ·exact vn hg
    ·obtain⟨p,dp,da⟩:=A9 g hg;exact L3 p dp _ H0 (aQ.dJ _ _ _ da vB)
   refine⟨_,c6 φ n {β with c_:=G++Gs},_,fa,?_,fun gO h'=>?_⟩
   ·refine HY aQ hd hn hnd hu (β:={β with c_:=G++Gs}) D7 (by rw[setRow_size];exact Nat.le_refl _) (wL aQ.fP (aQ.e_ _ _ vB) aM (pI HZ)) (fun dE _ gC=>L4 dE fun e=>?_) (.inr ⟨b,ew,?_,?_,?_⟩) (fun dE gC=>.inr ⟨(id,.b'),List.mem_append_left _ H0,rfl,β,eS,gC⟩) zF Sn (fun dE gC jY=>?_)
    ·exact gC (id,.b') (List.mem_append_left _ H0) rfl β eS (e▸ew)
    ·simp only[eG];omega
    ·refine⟨_,te,setRow_heap w b cs _ te (0,0) aM,?_⟩;have:=yo (l:=cs.toList) (off:=β.off+xs.length * i.size) (vs:=g2) (by simpa using HZ);simp only[List.size_toArray,this,Array.length_toList];exact bc
    ·refine(repE_append _ _ _ _).2 ⟨G,Gs,rfl,?_,?_⟩
     ·change repE _ true b β.off i.size xs G;refine pF xs β.off β.off i.size G (by rw[setRow_size];exact Nat.le_refl _) (fun g hg=>L4 g (L5 g (by simp[hg]))) (fun j al=>?_) AQ;rw[l8,if_neg (by omega)]
     ·rcases pG with ⟨rfl,rfl⟩|⟨dE,g9,dy,dT,c2⟩
      ·simp[repE]
      ·change repE _ true b (β.off+xs.length * i.size) i.size ys Gs;refine pF ys g9 _ i.size Gs (by rw[setRow_size];exact Nat.le_refl _) (fun g hg=>L4 g (L5 g (by simp[hg]))) (fun j al=>?_) c2;rw[l8,if_pos ⟨by omega,by rw[l7];omega⟩,show β.off+xs.length * i.size+j-(β.off+xs.length * i.size)=j from by omega];have hne:ys≠[]:=fun h=>by rw[h]at al;simp at al
       obtain⟨Sp,Sq,f_,gA⟩:=pH hne;rw[dy]at f_;simp only[bF,Addr.mk.injEq]at f_;obtain⟨rfl,rfl,_⟩:=f_;have mC:j<g2.length:=by rw[l7];exact al
       rw[gA j g2[j] (b8 mC),b8 mC]
    ·simp only at gC jY;rw[ew]at gC;cases gC;exact L5 _ jY rfl
   ·simp only[VRel];refine⟨{β with c_:=G++Gs},_,c,by simp[c6],rfl,bs.wK,.inr ⟨b,ew,by simp,hS,by simpa using mv⟩⟩
 ·have vC:xs=[]∨∃b f G,ad=some ⟨b,f,none⟩∧repE w.heap true b f i.size xs G:=by
   rcases bs.L1 with ⟨h1,h2,aj⟩|⟨id,β,b,eF,eS,ew,oH,mv,D7,Cd,AQ,vn⟩
   ·exact .inl h2
   ·exact .inr ⟨b,_,G,oH,AQ⟩
  obtain⟨wM,dJ,e9,e_,L6⟩:=LZ (P:=P) (c:=c) vC;have aaE:∃e',P.underlying T=some (.slice e'):=⟨e,ht⟩;have aT:Src P i.size T (.slice ad' ys.length c') ys.length g2 w:=⟨.inl aaE,fun _=>rfl,uG w rfl,uG w.drew rfl,l7,uH⟩;have fa:=run_append_grow_src (P:=P) w T T ty e i z ht hi hz ad xs.length c wM (e9 w.drew rfl) _ ys.length g2 aT (by omega) (by simp only[maxLen]at EH;omega) (growslice_fits (by omega) kJ);have px:=grownCap_ge w (xs.length+ys.length) c e;have aY:=grownCap_le_maxLen w (xs.length+ys.length) c e EH;generalize grownCap w (xs.length+ys.length) c e=gc at fa px aY;have wN:(w.drew.alloc (.cells ((wM++g2).toArray++Builtin.zeroCells z.cells (gc-(xs.length+ys.length))) e)).heap=w.heap.push (.cells ((wM++g2).toArray++Builtin.zeroCells z.cells (gc-(xs.length+ys.length))) e):=rfl;have Sr:∀j,j<(wM++g2).length→((wM++g2).toArray++Builtin.zeroCells z.cells (gc-(xs.length+ys.length)))[j]?=(wM++g2)[j]?:=by
   intro j al;rw[Array.getElem?_append_left (by simpa using al)];simp
  refine⟨_,c6 φ n ⟨some w.heap.size,0,gc,i.size,G++Gs⟩,_,fa,?_,fun gO h'=>?_⟩
  ·refine HY aQ hd hn hnd hu rfl (by rw[wN];simp) ((A_ (aQ.fP.drew) aQ.bs _)) (fun dE gC _=>by rw[wN,Array.getElem?_push];simp[Nat.ne_of_lt gC]) (.inr ⟨w.heap.size,rfl,?_,?_,?_⟩) (fun dE gC=>.inl (by cases gC;exact Nat.le_refl _)) zF Sn (fun dE gC jY=>?_)
   ·simp only[eG];exact px
   ·refine⟨((wM++g2).toArray++Builtin.zeroCells z.cells (gc-(xs.length+ys.length))),e,by rw[wN];simp,?_⟩;simp only[Array.size_append,List.size_toArray,eG,dJ,l7,size_zeroCells,aay,Nat.zero_add];rw[←Nat.add_mul,←Nat.add_mul];exact Nat.mul_le_mul_right _ (show gc≤_ from by omega)
   ·refine(repE_append _ _ _ _).2 ⟨G,Gs,rfl,?_,?_⟩
    ·rcases bs.L1 with ⟨h1,rfl,rfl⟩|⟨id,β,b,eF,eS,ew,oH,mv,D7,Cd,AQ,vn⟩
     ·simp[repE]
     ·refine Si wN AQ (fun j al=>?_) HX;have hne:xs≠[]:=fun h=>by rw[h]at al;simp at al
      obtain⟨Sp,Sq,f_,gA⟩:=L6 hne;rw[oH]at f_;simp only[bF,Addr.mk.injEq]at f_;obtain⟨rfl,rfl,_⟩:=f_;have mC:j<wM.length:=by rw[dJ];exact al
      rw[Nat.zero_add,Sr j (by simp;omega),List.getElem?_append_left mC,b8 mC,gA j wM[j] (b8 mC)]
    ·rcases pG with ⟨rfl,rfl⟩|⟨dE,g9,dy,dT,c2⟩
     ·simp[repE]
     ·change repE _ true _ (0+xs.length * i.size) i.size ys Gs;refine Si wN c2 (fun j al=>?_) Sm;have hne:ys≠[]:=fun h=>by rw[h]at al;simp at al
      obtain⟨Sp,Sq,f_,gA⟩:=pH hne;rw[dy]at f_;simp only[bF,Addr.mk.injEq]at f_;obtain⟨rfl,rfl,_⟩:=f_;have mC:j<g2.length:=by rw[l7];exact al
      rw[Sr _ (by simp;omega),List.getElem?_append_right (by omega),show 0+xs.length * i.size+j-wM.length=j from by omega,b8 mC,gA j g2[j] (b8 mC)]
   ·simp only at gC jY
    cases gC
    rcases et.1 jY with h|h
    ·exact Nat.lt_irrefl _ (HX _ h)
    ·exact Nat.lt_irrefl _ (Sm _ h)
  ·simp only[VRel];exact⟨⟨some w.heap.size,0,gc,i.size,G++Gs⟩,_,gc,by simp[c6],rfl,aY,.inr ⟨w.heap.size,rfl,by simp,px,by simp⟩⟩
end
theorem ok_append{c:Call}{x y:Operand}{T:TypeId}(av:o.op=.call c)(hc:c={callee:=.builtin .append,args:=#[x,y],argTypes:=#[T,T]})
  (h:evg g (σ.ev x) fun a=>evg g (σ.ev y) fun b=>match apE P σ.heap T a b n with|some (p,r)=>p∧K r|none=>False):∃r,gP P o g σ n r∧K r:=by
 subst hc;obtain⟨j6,h1,hx⟩:=ga h;obtain⟨vb,h2,hy⟩:=ga h1;clear h h1;split at h2
 ·rename_i p r ag;obtain⟨hp,b6⟩:=h2;refine⟨r,?_,b6⟩;intro σ' aY hd B w0 aK φ kp a w iR aQ hg m3 nW hk;have c7:=hx _ _ _ _ hg (fR aY aQ x);have ks:=hy _ _ _ _ hg (fR aY aQ y);unfold apE at ag;split at ag
  ·cases ag
  ·rename_i e sz f' hel;obtain⟨i,ht,hi,cH,zE⟩:=vD hel;split at ag
   ·cases ag
   ·rename_i ys cons pG;obtain⟨ad',c',Gs,dy,dT,c2,d',l0,mh,mR,mS⟩:=aav aY aQ pG ks;have key:∀{xs:List (List D)} {upd:List (Nat×H)} {ad:Option Addr} {c:Nat} {G:List Nat},(zrI P e).map List.length=some sz→0<f'→(xs.length+ys.length) * f'≤140737488355328→a.eval x=.slice ad xs.length c→HW σ' φ w sz xs upd ad c G→
      (∀q∈upd,∀off l,vb≠.sl q.1 off l)→(∀q∈upd,(aL σ'.heap q.1).m2=true)→r=⟨.sl n 0 (xs.length+ys.length),[.ar sz (xs++ys) true],upd++cons⟩→o.wp P a w m3 nW:=by
     intro xs upd ad c G hz hb hf hu vC hq H3 hr;subst hr
     cases pJ:zrI P e with
     |none=>rw[pJ]at hz;cases hz
     |some vs=>
      rw[pJ]at hz;obtain⟨cr,z,dC,hQ,iQ⟩:=A' pJ;rw[hi]at dC;cases dC;have uI:z.cells.size=i.size:=by
       have:=jR _ _ (iQ φ (fun _=>True) #[]);simp only[Option.map_some,bF]at hz;rw[cH,←hz,←this];simp
      subst cH;obtain⟨w',cV,u,ah,ai,aX⟩:=aax (P:=P) (ty:=o.type) aQ (n:=n) (hd n (Nat.le_refl _) (by simp)) (iR n (Nat.le_refl _) (by simp)) ht hi hQ uI (by rw[zE];exact hb) (by rw[zE];exact hf) vC (ad':=ad') (c':=c') (Gs:=Gs)
       (by
        rcases c2 with c2|⟨b,f,f_,gA,wI,_⟩
        ·exact .inl c2
        ·exact .inr ⟨b,f,f_,gA,wI⟩) d' l0 mh mR
       (fun p hp q pd he=>by
        obtain⟨off,l,h1⟩:=mS p hp;exact hq q pd off l (by rw[h1,he]))
       (fun b f h1 h2 q pd β aj aE=>by
        rcases c2 with c2|⟨dE,g9,f_,gA,wI,zx⟩
        ·exact h2 c2.1
        ·rw[f_]at h1;simp only[bF,Addr.mk.injEq]at h1;obtain⟨off,l,b3⟩:=zx q.1 β aj (by rw[h1.1];exact aE) (H3 q pd);exact hq q pd off l b3)
      unfold Oper.wp;have fa:(execOp a.eval o).run P w=.ok (.value u) w':=by
       unfold execOp;rw[av];simp[resolve,invoke,builtin,hu,dy,ah]
      rw[fa,Oper.upon_value];exact hk _ _ _ (mD ai o.dst (aX _ _))
    split at ag
    ·rename_i s;simp only[bF,c1]at ag;obtain⟨rfl,rfl⟩:=ag;simp only[VRel]at c7;refine key (xs:=[]) (upd:=[]) (G:=[]) hp.1 hp.2.1 (by simpa using hp.2.2) c7 ⟨by simp,by decide,List.nodup_nil,by simp,.inl rfl,.inl ⟨rfl,rfl,rfl⟩⟩ (by simp) (by simp) (by simp)
    ·rename_i id len;split at ag
     ·rename_i s xs hI;split at ag
      ·rename_i hs;subst hs;simp only[bF,c1]at ag;obtain⟨rfl,rfl⟩:=ag;obtain⟨dp,da,gk,iy,nX⟩:=hp;have fJ:aL σ'.heap id=.ar s xs true:=by
        rcases aY.2 id with hh|hh
        ·rw[hI]at hh;cases hh
        ·rw[hh,hI]
       obtain⟨β,ad,nY,cQ,bb,bD,bR,bJ⟩:=uF c7;have vC:∃G,HW σ' φ w s xs [(id,.b')] ad nY G:=by
        have Cs:([(id,H.b')]:List (Nat×H))=[]∨∃oO s ys,[(id,H.b')]=[(oO,H.b')]∧aL σ'.heap oO=.ar s ys true:=.inr ⟨id,s,xs,rfl,fJ⟩;have Ba:nY=0∧len=0→∃G,HW σ' φ w s xs [(id,.b')] ad nY G:=fun h0=>
         ⟨[],by omega,bR,List.nodup_nil,by simp,Cs,.inl ⟨h0.1,List.eq_nil_of_length_eq_zero (by omega),rfl⟩⟩
        rcases bJ with bJ|⟨b,bJ,ch,cZ⟩
        ·exact Ba ⟨bJ.1,bJ.2.1⟩
        ·rcases aQ.hp id with gX|⟨a_,ah,hr⟩
         ·rw[fJ]at gX;cases gX
         ·rw[cQ]at ah;cases ah;rw[fJ]at hr;simp only[dX]at hr;obtain⟨vE,hr⟩:=hr;rcases hr with hr|⟨dE,G,aM,bc,cq,cI,fb,hT⟩
          ·rw[bJ]at hr;cases hr.1
          ·rw[bJ]at aM;cases aM;have gf:=aQ.e9 id β cQ (by rw[fJ];rfl);have H4:=fb trivial;refine⟨G,by omega,bR,by rw[H4];exact gf.1,fun g hg=>⟨_,List.mem_singleton.2 rfl,β,cQ,.inr ⟨by rw[fJ];rfl,by rw[←H4];exact hg⟩⟩,Cs,.inr ⟨id,β,b,rfl,cQ,bJ,by rw[ch];simp,by omega,vE,cq,cI,by rw[H4];exact gf.2 b bJ⟩⟩
       obtain⟨G,vC⟩:=vC;refine key dp da iy (by rw[←gk];exact bb) vC ?_ ?_ rfl
       ·intro q hq off l hv;simp only[List.mem_singleton]at hq;subst hq;subst hv;simp[L0]at nX
       ·intro q hq;simp only[List.mem_singleton]at hq;subst hq;rw[fJ];rfl
      ·cases ag
     ·cases ag
    ·cases ag
 ·exact h2.elim
variable {P:Program} {o:Oper} {g:Bool} {σ:St} {n:Nat} {K:eD→Prop}
def chunk(sz:Nat):Nat→List D→List (List D)
 |0,_=>[]
 |k+1,ds=>ds.take sz::chunk sz k (ds.drop sz)
theorem Io(sz:Nat):∀(k:Nat) (ds:List D),(chunk sz k ds).length=k
 |0,_=>rfl
 |k+1,ds=>by simp[chunk,Io sz k]
theorem Tk{h:Array Obj}{bl:Bool}{b sz:Nat}:∀(k f:Nat) (ds:List D) (G:List Nat),ds.length=k * sz→repC h bl b f ds G→repE h bl b f sz (chunk sz k ds) G
 |0,f,ds,G,hl,r=>by
  have:ds=[]:=List.eq_nil_of_length_eq_zero (by simpa using hl);subst this;simpa [chunk,repE,repC]using r
 |k+1,f,ds,G,hl,r=>by
  rw[Nat.add_mul,Nat.one_mul]at hl;have e:ds=ds.take sz++ds.drop sz:=(List.take_append_drop sz ds).symm;rw[e]at r;obtain⟨bQ,bq,rfl,aM,bc⟩:=(Bi _ _ _ _).1 r;have yk:(ds.take sz).length=sz:=by simp;omega
  rw[yk]at bc;simp only[chunk,repE];exact⟨bQ,bq,rfl,yk,aM,Tk k (f+sz) _ bq (by simp;omega) bc⟩
def bsE(P:Program)(hs:List H)(T:TypeId)(len:Nat)(parts:List (Nat×V))(n:Nat):Option (Prop×eD):=
 match elI P T with
 |some (e,sz,_)=>
  match vfill (fun i=>some (i * sz,sz)) (List.replicate (len * sz) .ak) parts with
  |some cells=>
   match toDs hs cells with
   |some (ds,b9)=>some ((zrI P e).isSome=true∧ds.length=len * sz∧b9.Nodup∧len * sz≤16777216∧len≤maxLen,⟨.sl n 0 len,[.ar sz (chunk sz len ds) true],b9.map fun i=>(i,match aL hs i with|.ar s ys _=>.ic s ys|x=>x)⟩)
   |none=>some (((zrI P e).isSome=true∧sz=1)∧len≤16777216∧len≤maxLen,⟨.sl n 0 len,[.box cells],[]⟩)
  |none=>none
 |none=>none
theorem Tl{φ:cp}{T:Nat→Prop}{h:Array Obj}(us:List Value):VRels φ T h (List.replicate us.length .ak) us:=by
 refine zI _ _ (by simp) fun t v u ah ai=>?_;rw[List.getElem?_replicate]at ah;split at ah
 ·cases ah;simp[VRel]
 ·cases ah
theorem Tm(w:World){t e:TypeId}(len:Nat)(parts:Array (Nat×Value)){vL:TypeInfo}{z:Value}(hu:P.underlying t=some (.slice e))(CZ:P.info? e=some vL)(hz:vL.zero=some z)
  (aoe:len * vL.size≤16777216):∃us:List Value,us.length=len * vL.size∧∀cells,Instr.fill (fun i=>some (i * vL.size,vL.size)) us.toArray parts.toList=some cells→
  (Instr.buildSlice t len parts).run P w=.ok (.slice (some ⟨w.heap.size,0,none⟩) len len) (w.alloc (.cells cells e)):=by
 by_cases h0:len * vL.size=0
 ·refine⟨[],by simp[h0],fun cells h1=>?_⟩;have hs:(Go.sizeOf e).run P w=Result.ok vL.size w:=by simp[Go.sizeOf,typeInfo,CZ]
  simp[Instr.buildSlice,run_underlying hu,hs,h0,Array.range_zero',h1,newRow]
 ·refine⟨((Array.range (len * vL.size)).map (z.cells[· % z.cells.size]!)).toList,by simp,fun cells h=>?_⟩;exact run_buildSlice w t e len parts cells vL z hu CZ hz (by omega) h0 (by rw[←h,Array.toArray_toList])
section
variable {B:Nat→Prop} {w0:World} {aK:Nat→Prop} {φ:cp} {kp:List (V×Value)} {a:Act} {w:World}
theorem Tn{σ':St}(aQ:R B w0 aK φ σ' kp a w){n:Nat}(hd:aL σ'.heap n=.b')(hn:¬aK n){upd:List (Nat×H)}(hnd:(upd.map (·.1)).Nodup)
  (hu:∀p∈upd,∃sz xs,aL σ'.heap p.1=.ar sz xs true∧p.2=.ic sz xs) {cs:Array Value} {e:TypeId} {sz:Nat} {xs:List (List D)} {G:List Nat} (hcs:cs.size=xs.length * sz)
  (D9:repE (w.heap.push (.cells cs e)) true w.heap.size 0 sz xs G) (L2:G.Nodup) (A9:∀b∈G,∃p∈upd,c5 φ σ'.heap p.1 b) (Mz:xs.length≤maxLen) :
  ∃cV,R B w0 (fun i=>aK i∨(n≤i∧i<n+1)) cV ⟨σ'.tmps,hupd (b_ σ'.heap n (.ar sz xs true)) upd⟩ kp a (w.alloc (.cells cs e))∧
   ∀gO h',VRel cV gO h' (.sl n 0 xs.length) (.slice (some ⟨w.heap.size,0,none⟩) xs.length xs.length):=by
 have wN:(w.alloc (.cells cs e)).heap=w.heap.push (.cells cs e):=rfl;have HX:∀b∈G,b<w.heap.size:=fun b hb=>by obtain⟨p,_,h⟩:=A9 b hb;exact c5.lt aQ h
 refine⟨c6 φ n ⟨some w.heap.size,0,xs.length,sz,G⟩,?_,fun gO h'=>?_⟩
 ·refine HY aQ hd hn hnd (fun p hp=>by obtain⟨s,ys,h1,h2⟩:=hu p hp;exact⟨s,ys,h1,.inr h2⟩) rfl (by rw[wN];simp) (A_ aQ.fP aQ.bs _) (fun dE gC _=>by rw[wN,Array.getElem?_push];simp[Nat.ne_of_lt gC]) (.inr ⟨w.heap.size,rfl,Nat.le_refl _,?_,?_⟩) (fun dE gC=>.inl (by cases gC;exact Nat.le_refl _))
   (fun b hb=>.inr (A9 b hb)) L2 (fun dE gC jY=>?_)
  ·exact⟨cs,e,by rw[wN];simp,by simp[hcs]⟩
  ·rw[wN];exact D9
  ·simp only at gC jY
   cases gC
   exact Nat.lt_irrefl _ (HX _ jY)
 ·simp only[VRel];exact⟨⟨some w.heap.size,0,xs.length,sz,G⟩,_,xs.length,by simp[c6],rfl,Mz,.inr ⟨w.heap.size,rfl,by simp,Nat.le_refl _,by simp⟩⟩
end
theorem ok_buildSlice{T:TypeId}{len:Nat}{parts:Array (Nat×Operand)}(av:o.op=.buildSlice T len parts)(h:evParts g σ parts.toList fun ps=>match bsE P σ.heap T len ps n with|some (p,r)=>p∧K r|none=>False) :
  ∃r,gP P o g σ n r∧K r:=by
 obtain⟨ps,h1,hx⟩:=MA _ _ h;clear h;split at h1
 ·rename_i p r ag;obtain⟨hp,b6⟩:=h1;unfold bsE at ag;split at ag
  ·rename_i e sz f' hel;split at ag
   ·rename_i cells hf;split at ag
    ·rename_i ds b9 uw;simp only[bF,c1]at ag;obtain⟨rfl,rfl⟩:=ag;obtain⟨dp,da,gk,iy,nX⟩:=hp;refine⟨_,?_,b6⟩;intro σ' aY hd B w0 aK φ kp a w iR aQ hg m3 nW hk;obtain⟨i,hu,hi,cH,_⟩:=vD hel;subst cH;obtain⟨vs,pJ⟩:=Option.isSome_iff_exists.1 dp;obtain⟨cr,z,dC,hQ,_⟩:=A' pJ;rw[hi]at dC;cases dC;have hps:=hx aY aQ hg;obtain⟨us,vM,fa⟩:=Tm (P:=P) w len (parts.map fun(j,x)=>(j,a.eval x)) hu hi hQ iy;obtain⟨ck,k1,k2⟩:=Ip _ ps _ _ us _ hf (by rw[←vM];exact Tl us) hps;have fa:=fa ck.toArray (by rw[Array.toList_map];exact k1);obtain⟨G,cC,c8,fs,l2⟩:=Ic aQ cells ds b9 ck (MB aY _ _ uw) gk k2;have hl:ck.length=ds.length:=Be _ _ _ cC;have Cs:∀p∈b9.map (fun i=>(i,match aL σ.heap i with|.ar s ys _=>H.ic s ys|x=>x)),∃sz xs,aL σ'.heap p.1=.ar sz xs true∧p.2=.ic sz xs:=by
      intro p hp;obtain⟨j,EX,rfl⟩:=List.mem_map.1 hp;obtain⟨s,ys,q⟩:=MC _ _ _ uw j EX;refine⟨s,ys,?_,by simp only[q]⟩;rcases aY.2 j with hh|hh
      ·rw[q]at hh;cases hh
      ·rw[hh,q]
     obtain⟨cV,ah,ai⟩:=Tn (cs:=ck.toArray) (e:=e) (sz:=i.size) (xs:=chunk i.size len ds) (G:=G) aQ (n:=n) (hd n (Nat.le_refl _) (by simp)) (iR n (Nat.le_refl _) (by simp))
      (upd:=b9.map (fun i=>(i,match aL σ.heap i with|.ar s ys _=>H.ic s ys|x=>x))) (by
       rw[List.map_map];have:((fun x:Nat×H=>x.1)∘fun i=>(i,match aL σ.heap i with|.ar s ys _=>H.ic s ys|x=>x))=(fun i:Nat=>i):=rfl;rw[this,List.map_id'];exact gk) Cs (by simp[Io,hl,da])
      (by
       refine Tk len 0 ds G da (Bf ds ck 0 G (Mw (by simp) ds ck G (fun x hx=>?_) cC) fun j u al=>?_)
       ·obtain⟨q,cQ,bb⟩:=fs x hx;rw[Array.getElem?_push];simp[Nat.ne_of_lt (c5.lt aQ bb)]
       ·unfold cellAt;simp[al]) c8
      (fun x hx=>by
       obtain⟨q,cQ,bb⟩:=fs x hx;exact⟨_,List.mem_map.2 ⟨q,cQ,rfl⟩,bb⟩) (by rw[Io];exact nX)
     unfold Oper.wp;have mF:(execOp a.eval o).run P w=.ok (.value (.slice (some ⟨w.heap.size,0,none⟩) len len)) (w.alloc (.cells ck.toArray e)):=by
      unfold execOp;rw[av];simp[fa]
     rw[mF,Oper.upon_value];rw[Io]at ai;exact hk _ _ _ (mD ah o.dst (ai _ _))
    ·simp only[bF,c1]at ag;obtain⟨rfl,rfl⟩:=ag;obtain⟨⟨dp,gk⟩,iy,nX⟩:=hp;subst gk;refine⟨_,?_,b6⟩;intro σ' aY hd B w0 aK φ kp a w iR aQ hg m3 nW hk;obtain⟨i,hu,hi,cH,_⟩:=vD hel;obtain⟨vs,pJ⟩:=Option.isSome_iff_exists.1 dp;obtain⟨cr,z,dC,hQ,_⟩:=A' pJ;rw[hi]at dC;cases dC;have hps:=hx aY aQ hg;obtain⟨us,vM,fa⟩:=Tm (P:=P) w len (parts.map fun(j,x)=>(j,a.eval x)) hu hi hQ (by rw[cH];omega);rw[cH]at vM fa;obtain⟨ck,k1,k2⟩:=Ip _ ps _ _ us _ hf (by rw[←vM];exact Tl us) hps;have fa:=fa ck.toArray (by rw[Array.toList_map];exact k1);have h1:=Ta len 1 aQ (n:=n) (hd n (Nat.le_refl _) (by simp)) (iR n (Nat.le_refl _) (by simp)) (cells:=cells) (cs:=ck.toArray) (e:=e) k2 (w':=w.alloc (.cells ck.toArray e)) rfl (A_ aQ.fP aQ.bs _);unfold Oper.wp;have mF:(execOp a.eval o).run P w=.ok (.value (.slice (some ⟨w.heap.size,0,none⟩) len len)) (w.alloc (.cells ck.toArray e)):=by
      unfold execOp;rw[av];simp[fa]
     rw[mF,Oper.upon_value];refine hk _ _ _ (mD h1 o.dst ?_);simp only[VRel];exact⟨⟨some w.heap.size,0,len,1,[]⟩,_,len,by simp[c6],rfl,nX,.inr ⟨w.heap.size,rfl,by simp,Nat.le_refl _,by simp⟩⟩
   ·cases ag
  ·cases ag
 ·exact h1.elim
def zD:V→Option D
 |.d x=>if x.flat then some x else none
 |.dw s=>some (.sl s [])
 |_=>none
def zDs:List V→Option (List D)
 |[]=>some []
 |v::vs=>match zD v,zDs vs with|some d,some ds=>some (d::ds)|_,_=>none
theorem MD{φ:cp}{T:Nat→Prop}{h h':Array Obj}{bl:Bool}:∀(vs:List V) (ds:List D) (us:List Value),zDs vs=some ds→VRels φ T h vs us→reps h' bl ds us []
 |[],ds,us,e,r=>by
  simp only[zDs,bF]at e;subst e;simp only[VRels]at r;subst r;simp[reps]
 |v::vs,ds,us,e,r=>by
  simp only[VRels]at r;obtain⟨u,ck,rfl,aM,bc⟩:=r;simp only[zDs]at e;split at e
  ·rename_i d oP ah ai
   cases e
   simp only[reps];refine⟨u,ck,[],[],rfl,rfl,?_,MD vs oP ck ai bc⟩;unfold zD at ah;split at ah
   ·split at ah
    ·rename_i x hf
     cases ah
     simp only[VRel]at aM;obtain⟨F,aM,_⟩:=aM;have:=EM hf aM;subst this;exact H6 hf aM
    ·cases ah
   ·cases ah
    simp only[VRel]at aM;subst aM;exact⟨none,0,rfl,by simp,by decide,.inl ⟨rfl,rfl,fun _=>rfl⟩⟩
   ·cases ah
  ·cases e
theorem ME{h:Array Obj}{b sz:Nat}{ds:List D}(hl:ds.length=sz):∀(m f:Nat),(∀i,i<m→repC h true b (f+i * sz) ds [])→repE h true b f sz (List.replicate m ds) []
 |0,f,_=>by simp[repE]
 |m+1,f,r=>by
  rw[List.replicate_succ];simp only[repE];refine⟨[],[],rfl,hl,by simpa using r 0 (by omega),ME hl m (f+sz) fun i hi=>?_⟩;have:=r (i+1) (by omega);rw[Nat.add_mul,Nat.one_mul]at this;rw[show f+sz+i * sz=f+(i * sz+sz)from by omega];exact this
def mkE(P:Program)(T:TypeId)(i:Int)(n:Nat):Option (Prop×eD):=
 match elI P T with
 |some (e,sz,f')=>
  match zrI P e with
  |some zs=>
   match zDs zs with
   |some ds=>some (ds.length=sz∧0<sz∧0≤i∧(f':Int) * i≤281474976710656∧i.toNat≤maxLen,⟨.sl n 0 i.toNat,[.ar sz (List.replicate i.toNat ds) true],[]⟩)
   |none=>none
  |none=>none
 |none=>none
theorem aa1{T:TypeId}{x:Operand}(av:o.op=.makeSlice T x x)(h:evg g (σ.ev x) fun v=>asI v fun _ i=>match mkE P T i n with|some (p,r)=>p∧K r|none=>False):∃r,gP P o g σ n r∧K r:=by
 obtain⟨j6,h1,hx⟩:=ga h;obtain⟨k,c,rfl,h1⟩:=zS h1;simp only[asI]at h1;split at h1
 ·rename_i p r ag;obtain⟨hp,b6⟩:=h1;unfold mkE at ag;split at ag
  ·rename_i e sz f' hel;split at ag
   ·rename_i zs pJ;split at ag
    ·rename_i ds uw;simp only[bF,c1]at ag;obtain⟨rfl,rfl⟩:=ag;obtain⟨dp,da,gk,iy,nX⟩:=hp;refine⟨_,?_,b6⟩;intro σ' aY hd B w0 aK φ kp a w iR aQ hg m3 nW hk;obtain⟨i,hu,hi,cH,zE⟩:=vD hel;subst cH;subst zE;obtain⟨cr,z,dC,hQ,iQ⟩:=A' pJ;rw[hi]at dC;cases dC;have C0:=fun h':Array Obj=>MD (h':=h') (bl:=true) _ _ _ uw (iQ φ (fun _=>True) #[]);have uI:z.cells.size=i.size:=by rw[←Array.length_toList,Be _ _ _ (C0 #[]),dp]
     have c7:=(mG (hx _ _ _ _ hg (fR aY aQ x))).1;have vv:=run_make (P:=P) w T e i z hu hi hQ k k c c gk (Int.le_refl _) iy (by simp only[maxLen]at nX;omega);obtain⟨cV,ah,ai⟩:=Tn (cs:=madeCells z.cells (c.toNat * i.size)) (e:=e) (sz:=i.size) (xs:=List.replicate c.toNat ds) (G:=[]) aQ (n:=n) (hd n (Nat.le_refl _) (by simp)) (iR n (Nat.le_refl _) (by simp))
      (upd:=[]) (by simp) (by simp) (by simp[size_madeCells])
      (by
       refine ME dp c.toNat 0 fun m hm=>Bf ds z.cells.toList _ [] (C0 _) fun j u al=>?_;have yA:j<i.size:=by
        rw[←uI];rcases Nat.lt_or_ge j z.cells.size with h|h
        ·exact h
        ·rw[List.getElem?_eq_none (by simpa using h)]at al;cases al
       have hlt:m * i.size+j<c.toNat * i.size:=by
        have:(m+1) * i.size≤c.toNat * i.size:=Nat.mul_le_mul_right _ hm;rw[Nat.add_mul]at this;omega
       have MF:(m * i.size+j) % z.cells.size=j:=by rw[uI,Nat.mul_comm,Nat.mul_add_mod,Nat.mod_eq_of_lt yA]
       have mC:j<z.cells.size:=by rw[uI];exact yA
       unfold cellAt;simp[madeCells,hlt,MF];rw[Array.getElem?_toList]at al;rw[Array.getElem?_eq_getElem mC]at al;rw[getElem!_pos z.cells j mC];exact aI al) List.nodup_nil (by simp) (by simpa using nX)
     unfold Oper.wp;have mF:(execOp a.eval o).run P w=.ok (.value (.slice (some ⟨w.heap.size,0,none⟩) c.toNat c.toNat)) (w.alloc (.cells (madeCells z.cells (c.toNat * i.size)) e)):=by
      unfold execOp;rw[av];simp[c7,vv]
     rw[mF,Oper.upon_value];rw[List.length_replicate]at ai;exact hk _ _ _ (mD ah o.dst (ai _ _))
    ·cases ag
   ·cases ag
  ·cases ag
 ·exact h1.elim
theorem aaM{c:Call}{x y:Operand}{T U:TypeId}(av:o.op=.call c)(hc:c={callee:=.builtin .min,args:=#[x,y],argTypes:=#[T,U]})
  (h:evg g (σ.ev x) fun a=>evg g (σ.ev y) fun b=>asI a fun k i=>asI b fun iS j=>k=iS∧K (cJ (oQ k (if j<i then j else i)))):∃r,gP P o g σ n r∧K r:=by
 subst hc;obtain⟨j6,h1,hx⟩:=ga h;obtain⟨vb,h2,hy⟩:=ga h1;obtain⟨k,i,rfl,h2⟩:=zS h2;simp only[asI]at h2;obtain⟨iS,j,rfl,h2⟩:=zS h2;obtain⟨rfl,b6⟩:=h2;refine⟨_,mH fun σ' aY B w0 aK φ kp a w r hg=>⟨.int k (if j<i then j else i),?_,?_⟩,b6⟩
 ·have c7:=mG (hx _ _ _ _ hg (fR aY r x));have ks:=mG (hy _ _ _ _ hg (fR aY r y));unfold execOp;rw[av];simp[resolve,invoke,builtin,Builtin.min_,Builtin.min2,c7.1,ks.1]
 ·have c7:=mG (hx _ _ _ _ hg (fR aY r x));have ks:=mG (hy _ _ _ _ hg (fR aY r y));exact nB (by split<;>omega)
theorem aaN{c:Call}{x y:Operand}{T U:TypeId}(av:o.op=.call c)(hc:c={callee:=.builtin .max,args:=#[x,y],argTypes:=#[T,U]})
  (h:evg g (σ.ev x) fun a=>evg g (σ.ev y) fun b=>asI a fun k i=>asI b fun iS j=>k=iS∧K (cJ (oQ k (if j>i then j else i)))):∃r,gP P o g σ n r∧K r:=by
 subst hc;obtain⟨j6,h1,hx⟩:=ga h;obtain⟨vb,h2,hy⟩:=ga h1;obtain⟨k,i,rfl,h2⟩:=zS h2;simp only[asI]at h2;obtain⟨iS,j,rfl,h2⟩:=zS h2;obtain⟨rfl,b6⟩:=h2;refine⟨_,mH fun σ' aY B w0 aK φ kp a w r hg=>⟨.int k (if j>i then j else i),?_,?_⟩,b6⟩
 ·have c7:=mG (hx _ _ _ _ hg (fR aY r x));have ks:=mG (hy _ _ _ _ hg (fR aY r y));unfold execOp;rw[av];simp[resolve,invoke,builtin,Builtin.max_,Builtin.max2,c7.1,ks.1]
 ·have c7:=mG (hx _ _ _ _ hg (fR aY r x));have ks:=mG (hy _ _ _ _ hg (fR aY r y));exact nB (by split<;>omega)
def evs(g:Bool)(σ:St):List Operand→(List V→Prop)→Prop
 |[],K=>K []
 |x::r,K=>evg g (σ.ev x) fun v=>evs g σ r fun vs=>K (v::vs)
theorem ES:∀(xs:List Operand) (K:List V→Prop),evs g σ xs K→∃vs,K vs∧∀{σ':St} {B:Nat→Prop} {w0:World} {aK:Nat→Prop} {φ:cp} {kp:List (V×Value)} {a:Act} {w:World},σ.le σ'→R B w0 aK φ σ' kp a w→g=true→
  VRels φ (cz φ σ'.heap) w.heap vs (xs.map a.eval)
 |[],K,h=>⟨[],h,fun _ _ _=>by simp[VRels]⟩
 |x::xs,K,h=>by
  simp only[evs]at h;obtain⟨v,h1,hx⟩:=ga h;obtain⟨vs,b6,hr⟩:=ES xs _ h1;refine⟨v::vs,b6,fun aY r hg=>?_⟩;simp only[List.map_cons,VRels];exact⟨_,_,rfl,hx _ _ _ _ hg (fR aY r x),hr aY r hg⟩
theorem aa2{f:FuncId}{eZ:Array Operand}(av:o.op=.makeFunc (.func f) #[] eZ)(h:evs g σ eZ.toList fun vs=>K (cJ (.fn f vs))):∃r,gP P o g σ n r∧K r:=by
 obtain⟨vs,b6,hx⟩:=ES _ _ h;refine⟨_,mH fun σ' aY B w0 aK φ kp a w r hg=>?_,b6⟩;refine⟨.func (.func f) #[] (eZ.map a.eval),by unfold execOp;rw[av];simp[Instr.makeFunc],?_⟩;simp only[VRel];exact⟨_,rfl,by simpa using hx aY r hg⟩
section
variable {B:Nat→Prop} {w0:World} {aK:Nat→Prop} {φ:cp} {kp:List (V×Value)} {a:Act} {w:World} {σ:St}
theorem To(r:R B w0 aK φ σ kp a w){id:Nat}{β:gQ}{b s k:Nat}{xs ys:List (List D)}(dR:φ id=some β)(h0:aL σ.heap id=.ar s xs true)(hx:gy xs=true)(hb:β.eh=some b)(hk:k+ys.length≤xs.length){us:List Value}(nC:us.length=ys.length * s)
  (D9:∀h':Array Obj,w.heap.size≤h'.size→(∀j,j<us.length→cellAt h' b (β.off+k * s+j)=us[j]?)→repE h' true b (β.off+k * s) s ys []) :
  ∃cs te,w.heap[b]?=some (.cells cs te (0,0))∧β.off+k * s+us.length≤cs.size∧
   R B w0 aK (c6 φ id {β with c_:=[]}) ⟨σ.tmps,b_ σ.heap id (.ar s (xs.take k++(ys++xs.drop (k+ys.length))) true)⟩ kp a (w.setRow b (dQ cs.toList (β.off+k * s) us).toArray):=by
 rcases r.hp id with hd|⟨a_,ah,hr⟩
 ·rw[h0]at hd;cases hd
 ·rw[dR]at ah;cases ah;rw[h0]at hr;simp only[dX]at hr;obtain⟨hs,hr⟩:=hr;rcases hr with hr|⟨dE,G,aM,bc,cq,cI,fb,_⟩
  ·rw[hb]at hr;cases hr.1
  ·rw[hb]at aM;cases aM;have bM:=Eb _ _ _ _ hx cI;subst bM;obtain⟨cs,te,cQ,bb⟩:=cq;have So:(k+ys.length) * s≤β.cap * s:=Nat.mul_le_mul_right _ (by omega);have MG:(k+ys.length) * s=k * s+ys.length * s:=Nat.add_mul _ _ _;have hf:β.off+k * s+us.length≤cs.size:=by rw[nC];omega
   have l8:=H2 (f:=β.off+k * s) cQ hf;have cH:(w.setRow b (dQ cs.toList (β.off+k * s) us).toArray).heap.size=w.heap.size:=setRow_size _ _ _;have hB:B b:=r.e_ id b ⟨β,dR,.inl ⟨by rw[h0];rfl,hb⟩⟩;have h1:=cI;have h2:=cI;rw[←List.take_append_drop k xs]at h1;rw[←List.take_append_drop (k+ys.length) xs]at h2;obtain⟨j8,js,Fa,cm,cB⟩:=(repE_append _ _ _ _).1 h1;obtain⟨aof,iz,gc,cM,dI⟩:=(repE_append _ _ _ _).1 h2;obtain⟨rfl,rfl⟩:=List.append_eq_nil_iff.1 Fa.symm;obtain⟨rfl,rfl⟩:=List.append_eq_nil_iff.1 gc.symm;have kD:(xs.take k).length=k:=by simp;omega
   have abH:(xs.take (k+ys.length)).length=k+ys.length:=by simp;omega
   rw[abH,MG]at dI;refine⟨cs,te,cQ,hf,?_⟩;have:=Tc r (n:=id) (β:={β with c_:=[]}) (β0:=β) (upd:=[]) (by simp) (by simp) dR h0 ⟨rfl,rfl,rfl,rfl⟩ (by simp) (sz:=s) (xs:=xs.take k++(ys++xs.drop (k+ys.length))) hs (Nat.le_of_eq cH.symm) (wL r.fP hB cQ (pI hf))
    (fun c _ hne _=>setRow_other w b c _ fun m6=>hne (m6▸hb))
    (.inr ⟨b,hb,by simp;omega,⟨_,te,setRow_heap w b cs _ te (0,0) cQ,by
     have:=yo (l:=cs.toList) (off:=β.off+k * s) (vs:=us) (by simpa using hf);simp only[List.size_toArray,this,Array.length_toList];exact bb⟩,by
     refine(repE_append _ _ _ _).2 ⟨[],[],rfl,?_,(repE_append _ _ _ _).2 ⟨[],[],rfl,?_,?_⟩⟩
     ·refine pF _ _ _ _ _ (Nat.le_of_eq cH.symm) (by simp) (fun j al=>?_) cm;rw[kD]at al
      show cellAt _ b (β.off+j)=_
      rw[l8,if_neg (by omega)]
     ·rw[kD];refine D9 _ (Nat.le_of_eq cH.symm) fun j al=>?_;rw[l8,if_pos (by omega),show β.off+k * s+j-(β.off+k * s)=j from by omega]
     ·rw[kD]
      show repE _ true b (β.off+k * s+ys.length * s) s _ []
      refine pF _ _ _ _ _ (Nat.le_of_eq cH.symm) (by simp) (fun j al=>?_) dI;rw[l8,if_neg (by rw[nC];omega),Nat.add_assoc β.off]⟩)
    (by simp) List.nodup_nil (by simp)
   exact this
end
variable {P:Program} {o:Oper} {g:Bool} {σ:St} {n:Nat} {K:eD→Prop}
def inE(P:Program)(hs:List H)(T:TypeId)(x y:V):Option (Prop×eD):=
 match x,y with
 |.sl id 0 i,.sl oO j l=>
  if id=oO then
   match elI P T,aL hs id with
   |some (_,sz,_),.ar s xs true=>if s=sz then some (gy xs=true∧i+l≤xs.length∧j+l≤xs.length∧0<xs.length,⟨.sl id 0 (i+l),[],[(id,.ar s (xs.take i++((xs.drop j).take l++xs.drop (i+l))) true)]⟩)else none
   |_,_=>none
  else none
 |_,_=>none
theorem ok_inplace{c:Call}{x y:Operand}{T:TypeId}(av:o.op=.call c)(hc:c={callee:=.builtin .append,args:=#[x,y],argTypes:=#[T,T]})
  (h:evg g (σ.ev x) fun a=>evg g (σ.ev y) fun b=>match inE P σ.heap T a b with|some (p,r)=>p∧K r|none=>False):∃r,gP P o g σ n r∧K r:=by
 subst hc;obtain⟨j6,h1,hx⟩:=ga h;obtain⟨vb,h2,hy⟩:=ga h1;clear h h1;split at h2
 ·rename_i p r ag;obtain⟨hp,b6⟩:=h2;refine⟨r,?_,b6⟩;intro σ' aY hd B w0 aK φ kp a w iR aQ hg m3 nW hk;have c7:=hx _ _ _ _ hg (fR aY aQ x);have ks:=hy _ _ _ _ hg (fR aY aQ y);unfold inE at ag;split at ag
  ·rename_i id i oO j l;split at ag
   ·rename_i ec;subst ec;split at ag
    ·rename_i e sz f' s xs hel hI;split at ag
     ·rename_i hs;subst hs;simp only[bF,c1]at ag;obtain⟨rfl,rfl⟩:=ag;obtain⟨dp,da,gk,iy⟩:=hp;obtain⟨yB,ht,hi,cH,zE⟩:=vD hel;have fJ:aL σ'.heap id=.ar s xs true:=by
       rcases aY.2 id with hh|hh
       ·rw[hI]at hh;cases hh
       ·rw[hh,hI]
      obtain⟨β,ad,nY,cQ,bb,bD,bR,bJ⟩:=uF c7;obtain⟨a_,ad',Tp,f_,gA,wI,zx,A8⟩:=uF ks;rw[cQ]at f_;cases f_;rcases aQ.hp id with gX|⟨a_,ah,hr⟩
      ·rw[fJ]at gX;cases gX
      ·rw[cQ]at ah;cases ah;rw[fJ]at hr;simp only[dX]at hr;obtain⟨vE,hr⟩:=hr;have hne:xs≠[]:=fun h=>by rw[h]at iy;simp at iy
       rcases hr with hr|⟨b,G,aM,bc,cq,cI,fb,hT⟩
       ·exact absurd hr.2.1 hne
       ·have bM:=Eb _ _ _ _ dp cI;subst bM;obtain⟨eS,fk,gB,jl⟩:∃b,β.eh=some b∧ad=some ⟨b,β.off+0 * β.sz,none⟩∧0+nY=β.cap:=by
         rcases bJ with bJ|bJ
         ·omega
         ·exact bJ
        rw[aM]at fk;cases fk;rw[Nat.zero_mul,Nat.add_zero]at gB;subst gB;have gJ:((xs.drop j).take l).length=l:=by simp;omega
        have Tq:repE w.heap true b (β.off+j * s) s ((xs.drop j).take l) []:=by
         have h1:=cI;rw[←List.take_append_drop j xs]at h1;obtain⟨j8,js,Fa,_,cB⟩:=(repE_append _ _ _ _).1 h1;obtain⟨rfl,rfl⟩:=List.append_eq_nil_iff.1 Fa.symm;rw[←List.take_append_drop l (xs.drop j)]at cB;obtain⟨j8,js,Fa,cx,_⟩:=(repE_append _ _ _ _).1 cB;obtain⟨rfl,rfl⟩:=List.append_eq_nil_iff.1 Fa.symm;have:(xs.take j).length=j:=by simp;omega
         rw[this]at cx;exact cx
        have pG:(xs.drop j).take l=[]∨∃b f G,ad'=some ⟨b,f,none⟩∧repE w.heap true b f s ((xs.drop j).take l) G:=by
         rcases A8 with A8|⟨ew,hP,hE,_⟩
         ·exact .inl (List.eq_nil_of_length_eq_zero (by rw[gJ];exact A8.2.1))
         ·rw[aM]at hP;cases hP;exact .inr ⟨b,_,[],hE,by rw[vE];exact Tq⟩
        obtain⟨g2,l7,uG,uH,pH⟩:=LZ (P:=P) (c:=Tp) pG;rw[gJ]at uG;have Fb:=To aQ (k:=i) (ys:=(xs.drop j).take l) (us:=g2) cQ fJ dp aM (by rw[gJ];exact da) l7 (fun h' hs' hc=>by
         by_cases hl:(xs.drop j).take l=[]
         ·rw[hl];simp[repE]
         ·obtain⟨ew,f3,hP,hE⟩:=pH hl;rcases A8 with A8|⟨oH,uE,abI,_⟩
          ·exact absurd (List.eq_nil_of_length_eq_zero (by rw[gJ];exact A8.2.1)) hl
          ·rw[aM]at uE;cases uE;rw[abI]at hP;simp only[bF,Addr.mk.injEq]at hP;obtain⟨rfl,rfl,_⟩:=hP;refine pF _ _ _ _ _ hs' (by simp) (fun m hm=>?_) Tq;have MH:m<g2.length:=by rw[l7];exact hm
           rw[hc m MH,←vE,hE m g2[m] (b8 MH),b8 MH])
        rw[gJ]at Fb;obtain⟨cs,te,nk,jc,pq⟩:=Fb;have hS:i+l≤nY:=by omega
        have fa:=LY (P:=P) (w:=w) T o.type e yB ht hi b β.off i nY cs te nk l (.slice ad' l Tp) g2 rfl (by rw[cH];exact uG w rfl) uH hS (by rw[cH];exact jc);rw[cH]at fa;unfold Oper.wp;have mF:(execOp a.eval o).run P w=.ok (.value (.slice (some ⟨b,β.off,none⟩) (i+l) nY)) (w.setRow b (dQ cs.toList (β.off+i * s) g2).toArray):=by
         unfold execOp;rw[av];simp[resolve,invoke,builtin,bb,gA,fa]
        rw[mF,Oper.upon_value];have:=mD pq o.dst (v:=.sl id 0 (i+l)) (u:=.slice (some ⟨b,β.off,none⟩) (i+l) nY) (by
         simp only[VRel];exact⟨{β with c_:=[]},_,nY,by simp[c6],rfl,bR,.inr ⟨b,aM,by simp,hS,jl⟩⟩)
        exact hk _ _ _ (ET this fun i h=>.inl h)
     ·cases ag
    ·cases ag
   ·cases ag
  ·cases ag
 ·exact h2.elim
def clrE(P:Program)(hs:List H)(T:TypeId)(x:V):Option (Prop×eD):=
 match x with
 |.sl id off len=>
  match elI P T,aL hs id with
  |some (e,sz,_),.ar s xs true=>
   match zrI P e with
   |some zs=>
    match zDs zs with
    |some ds=>if s=sz then some (gy xs=true∧off+len≤xs.length∧0<len∧ds.length=sz,⟨.ak,[],[(id,.ar s (xs.take off++(List.replicate len ds++xs.drop (off+len))) true)]⟩)else none
    |none=>none
   |none=>none
  |_,_=>none
 |_=>none
theorem aaL{c:Call}{x:Operand}{T:TypeId}(av:o.op=.call c)(hc:c={callee:=.builtin .clear,args:=#[x],argTypes:=#[T]})
  (h:evg g (σ.ev x) fun a=>match clrE P σ.heap T a with|some (p,r)=>p∧K r|none=>False):∃r,gP P o g σ n r∧K r:=by
 subst hc;obtain⟨j6,h2,hx⟩:=ga h;clear h;split at h2
 ·rename_i p r ag;obtain⟨hp,b6⟩:=h2;refine⟨r,?_,b6⟩;intro σ' aY hd B w0 aK φ kp a w iR aQ hg m3 nW hk;have c7:=hx _ _ _ _ hg (fR aY aQ x);unfold clrE at ag;split at ag
  ·rename_i id off len;split at ag
   ·rename_i e sz f' s xs hel hI;split at ag
    ·rename_i zs pJ;split at ag
     ·rename_i ds uw;split at ag
      ·rename_i hs;subst hs;simp only[bF,c1]at ag;obtain⟨rfl,rfl⟩:=ag;obtain⟨dp,da,gk,iy⟩:=hp;obtain⟨yB,ht,hi,cH,zE⟩:=vD hel;obtain⟨cr,z,dC,hQ,iQ⟩:=A' pJ;rw[hi]at dC;cases dC;have C0:=fun h':Array Obj=>MD (h':=h') (bl:=true) _ _ _ uw (iQ φ (fun _=>True) #[]);have uI:z.cells.size=s:=by rw[←Array.length_toList,Be _ _ _ (C0 #[]),iy]
       have fJ:aL σ'.heap id=.ar s xs true:=by
        rcases aY.2 id with hh|hh
        ·rw[hI]at hh;cases hh
        ·rw[hh,hI]
       obtain⟨β,ad,nY,cQ,bb,bD,bR,bJ⟩:=uF c7;obtain⟨b,fk,gB,jl⟩:∃b,β.eh=some b∧ad=some ⟨b,β.off+off * β.sz,none⟩∧off+nY=β.cap:=by
        rcases bJ with bJ|bJ
        ·omega
        ·exact bJ
       have vE:β.sz=s:=by
        rcases aQ.hp id with gX|⟨a_,ah,hr⟩
        ·rw[fJ]at gX;cases gX
        ·rw[cQ]at ah;cases ah;rw[fJ]at hr;simp only[dX]at hr;exact hr.1
       rw[vE]at gB;subst gB;have nN:(List.replicate len ds).length=len:=List.length_replicate;have Iq:(Builtin.zeroCells z.cells len).toList.length=len * s:=by rw[Array.length_toList,size_zeroCells,uI]
       have aL:∀m j,m<len→j<s→(Builtin.zeroCells z.cells len).toList[m * s+j]?=z.cells[j]?:=by
        intro m j hm al;have hlt:m * s+j<len * s:=by
         have:(m+1) * s≤len * s:=Nat.mul_le_mul_right _ hm;rw[Nat.add_mul]at this;omega
        have MF:(m * s+j) % s=j:=by rw[Nat.mul_comm,Nat.mul_add_mod,Nat.mod_eq_of_lt al]
        have mC:j<z.cells.size:=by rw[uI];exact al
        have abJ:m * s+j<len * z.cells.size:=by rw[uI];exact hlt
        unfold Builtin.zeroCells;rw[Array.getElem?_toList,Array.getElem?_map,Array.getElem?_range,if_pos abJ];simp only[Option.map_some,uI,MF];rw[getElem!_pos z.cells j mC,Array.getElem?_eq_getElem mC]
       have Fb:=To aQ (k:=off) (ys:=List.replicate len ds) (us:=(Builtin.zeroCells z.cells len).toList) cQ fJ dp fk (by rw[nN];exact da) (by rw[nN];exact Iq) (fun h' hs' hc=>by
        refine ME iy len _ fun m hm=>Bf ds z.cells.toList _ [] (C0 _) fun j u al=>?_;have yA:j<s:=by
         rw[←uI];rcases Nat.lt_or_ge j z.cells.size with h|h
         ·exact h
         ·rw[List.getElem?_eq_none (by simpa using h)]at al;cases al
        have hlt:m * s+j<(Builtin.zeroCells z.cells len).toList.length:=by
         rw[Iq];have:(m+1) * s≤len * s:=Nat.mul_le_mul_right _ hm;rw[Nat.add_mul]at this;omega
        have:=hc _ hlt;rw[aL m j hm yA]at this;rw[Nat.add_assoc (β.off+off * s),this,←Array.getElem?_toList];exact al)
       rw[nN]at Fb;obtain⟨cs,te,nk,jc,pq⟩:=Fb;have abK:∀v∈(Builtin.zeroCells z.cells len).toList,v.oneCell'=true:=by
        intro v hv;obtain⟨t,l5,rfl⟩:=List.getElem_of_mem hv;have jt:0<s:=by
         rcases Nat.eq_zero_or_pos s with h|h
         ·rw[Iq,h,Nat.mul_zero]at l5;omega
         ·exact h
        have h1:t=(t / s) * s+t % s:=by rw[Nat.mul_comm];exact(Nat.div_add_mod t s).symm
        have h2:t / s<len:=Nat.div_lt_of_lt_mul (by rw[Nat.mul_comm,←Iq];exact l5);have aj:=aL (t / s) (t % s) h2 (Nat.mod_lt _ jt);rw[←h1,b8 l5]at aj;have mC:t % s<z.cells.toList.length:=by rw[Array.length_toList,uI];exact Nat.mod_lt _ jt
        rw[←Array.getElem?_toList,b8 mC]at aj;rw[aI aj];have MI:repC #[.cells z.cells 0 (0,0)] true 0 0 ds []:=Bf ds z.cells.toList 0 [] (C0 _) fun j u al=>by
         simp[cellAt];rw[Array.getElem?_toList]at al;exact al
        obtain⟨us,k1,k2⟩:=LW ds 0 [] MI;have Tr:t % s<us.length:=by rw[k1,iy];exact Nat.mod_lt _ jt
        have:=k2.1 (t % s) us[t % s] (b8 Tr);obtain⟨CF,_,ee⟩:=k2.2 (t % s) ds[t % s] us[t % s] (b8 (by rw[iy];exact Nat.mod_lt _ jt)) (b8 Tr);have hz:z.cells.toList[t % s]=us[t % s]:=by
         have aE:=this;simp[cellAt]at aE;have b3:z.cells.toList[t % s]?=some us[t % s]:=by rw[Array.getElem?_toList];exact aE
         rw[b8 mC]at b3;exact aI b3
        rw[hz];exact LX ee
       have cW:=run_storeCells_at P b (β.off+off * s) te (Builtin.zeroCells z.cells len).toList 0 cs w nk (by simpa using jc) abK;simp only[Nat.add_zero,List.append_assoc]at cW;unfold Oper.wp;have mF:(execOp a.eval o).run P w=.ok (.value (.tuple #[])) (w.setRow b (dQ cs.toList (β.off+off * s) (Builtin.zeroCells z.cells len).toList).toArray):=by
        unfold execOp;rw[av];obtain⟨m,rfl⟩:∃m,len=m+1:=⟨len-1,by omega⟩;simp[resolve,invoke,builtin,bb,Builtin.clear_,run_underlying ht,zeroValue,typeInfo,hi,hQ,cW,dQ]
       rw[mF,Oper.upon_value];have:=mD pq o.dst (v:=.ak) (u:=.tuple #[]) (by simp only[VRel]);exact hk _ _ _ (ET this fun i h=>.inl h)
      ·cases ag
     ·cases ag
    ·cases ag
   ·cases ag
  ·cases ag
 ·exact h2.elim
def CJ(P:Program)(hs:List H)(T:TypeId)(x y:V)(n:Nat):Option (Prop×eD):=
 match inE P hs T x y with
 |some r=>some r
 |none=>apE P hs T x y n
theorem Ts{g:Bool}{v:V}{K:V→Prop}(h:evg g v K):∃fK,K fK∧∀gp:V→Prop,gp fK→evg g v gp:=by
 unfold evg at h⊢;split at h
 ·exact⟨_,h.2,fun gp h'=>⟨h.1,h'⟩⟩
 ·exact⟨_,h,fun gp h'=>h'⟩
theorem aaK{c:Call}{x y:Operand}{T:TypeId}(av:o.op=.call c)(hc:c={callee:=.builtin .append,args:=#[x,y],argTypes:=#[T,T]})
  (h:evg g (σ.ev x) fun a=>evg g (σ.ev y) fun b=>match CJ P σ.heap T a b n with|some (p,r)=>p∧K r|none=>False):∃r,gP P o g σ n r∧K r:=by
 obtain⟨a,h1,ha⟩:=Ts h;obtain⟨b,h2,hb⟩:=Ts h1
 cases hi:inE P σ.heap T a b with
 |none=>
  refine ok_append av hc (ha _ (hb _ ?_));unfold CJ at h2;rw[hi]at h2;exact h2
 |some r=>
  refine ok_inplace av hc (ha _ (hb _ ?_));unfold CJ at h2;rw[hi]at h2;rw[hi];exact h2
inductive AD where
 |one (d:D)
 |agg (ds:List D)
def EI(h:Array Obj)(o:Bool):AD→Value→List Nat→Prop
 |.one d,u,F=>rep h o d u F
 |.agg ds,u,F=>∃us:Array Value,u=.agg us∧reps h o ds us.toList F
def areps(h:Array Obj)(o:Bool):List AD→List Value→List Nat→Prop
 |[],us,F=>us=[]∧F=[]
 |a::as,us,F=>∃u ck fy g4,us=u::ck∧F=fy++g4∧EI h o a u fy∧areps h o as ck g4
def trep(h:Array Obj)(o:Bool)(rs:List AD)(v:Value)(F:List Nat):Prop:=
 match rs with
 |[r]=>EI h o r v F
 |rs=>∃us:Array Value,v=.tuple us∧areps h o rs us.toList F
def Does(P:Program)(f:FuncId)(us:Array Value)(w:World)(R:Value→World→Prop):Prop:=
 match(callFunc f us).run P w with
 |.ok (.enter g as) w'=>Calls P g as w' fun e Ss=>match e with|.returned v=>R v Ss|_=>False
 |.ok (.value v) w'=>R v w'
 |.ok (.row row as) w'=>Rows P row as w' R
 |_=>False
theorem Does.mono{P:Program}{f:FuncId}{us:Array Value}{w:World}{R Su:Value→World→Prop}(h:Does P f us w R)(hr:∀v w',R v w'→Su v w'):Does P f us w Su:=by
 unfold Does at *;split at h
 ·exact Calls.mono h fun e Ss he=>by cases e<;>first|exact hr _ _ he|exact he.elim
 ·exact hr _ _ h
 ·exact Rows.mono h hr
 ·exact h.elim
theorem Does.enter{P:Program}{f:FuncId}{us:Array Value}{w:World}{R:Value→World→Prop}(fa:(callFunc f us).run P w=.ok (.enter f us) w)
  (h:Calls P f us w fun e w'=>match e with|.returned v=>R v w'|_=>False):Does P f us w R:=by
 unfold Does;rw[fa];exact h
def PureCall(P:Program)(f:FuncId)(args res:List AD):Prop:=
 ∀(w:World) (us:List Value) (F:List Nat),GOk w.heap→areps w.heap false args us F→Does P f us.toArray w fun v w'=>
  ∃F',Bel (fun b=>w.heap.size≤b) w w'∧trep w'.heap true res v F'∧F'.Nodup∧∀b∈F',w.heap.size≤b
def clnOf(hs:List H)(id off len:Nat):Option (Nat×List (List D)):=
 match aL hs id with
 |.af sz xs=>if off+len≤xs.length then some (sz,(xs.drop off).take len)else none
 |_=>elsOf hs (.sl id off len)
def toRD(hs:List H)(v:V):Option D:=
 match v with
 |.d x=>some x
 |.dw s=>some (.sl s [])
 |.sl id off len=>match clnOf hs id off len with|some (sz,xs)=>some (.sl sz xs)|none=>none
 |_=>none
def toRDs(hs:List H):List V→Option (List D)
 |[]=>some []
 |v::vs=>match toRD hs v,toRDs hs vs with|some d,some ds=>some (d::ds)|_,_=>none
def toAD(hs:List H)(v:V):Option AD:=
 match v with
 |.agg vs=>(toRDs hs vs).map .agg
 |v=>(toRD hs v).map .one
def toADs(hs:List H):List V→Option (List AD)
 |[]=>some []
 |v::vs=>match toAD hs v,toADs hs vs with|some d,some ds=>some (d::ds)|_,_=>none
section
variable {B:Nat→Prop} {w0:World} {aK:Nat→Prop} {φ:cp} {kp:List (V×Value)} {a:Act} {w:World} {σ σ':St}
theorem Sv(aY:σ.le σ')(r:R B w0 aK φ σ' kp a w){v:V}{d:D}(h:toRD σ.heap v=some d){u:Value}(fD:VRel φ (cz φ σ'.heap) w.heap v u):∃F,rep w.heap false d u F:=by
 unfold toRD at h;split at h
 ·cases h
  simp only[VRel]at fD;obtain⟨F,aM,_⟩:=fD;exact⟨F,aM⟩
 ·cases h
  simp only[VRel]at fD;subst fD;exact⟨[],none,0,rfl,by simp,by decide,.inl ⟨rfl,rfl,fun e=>by cases e⟩⟩
 ·rename_i id off len;split at h
  ·rename_i sz xs hel
   cases h
   unfold clnOf at hel;split at hel
   ·rename_i g3 ys hx;split at hel
    ·rename_i hl;simp only[bF,c1]at hel;obtain⟨rfl,rfl⟩:=hel;have fJ:aL σ'.heap id=.af g3 ys:=by
      rcases aY.2 id with hh|hh
      ·rw[hx]at hh;cases hh
      ·rw[hh,hx]
     obtain⟨F,dA,_⟩:=L7 r (id:=id) (by rw[fJ];rfl) hl fD;exact⟨F,Sw _ _ _ dA⟩
    ·cases hel
   obtain⟨ad,c,ah,ai,aX,br⟩:=HT aY r hel fD;simp only[rep];rcases br with br|⟨b,f,G,br,cF,jy,ny⟩
   ·exact⟨[],ad,c,ah,ai,aX,.inl ⟨br,rfl,fun e=>by cases e⟩⟩
   ·exact⟨b::G,ad,c,ah,ai,aX,.inr ⟨b,f,G,br,rfl,cF,jy,fun e=>by cases e⟩⟩
  ·cases h
 ·cases h
theorem Sx(aY:σ.le σ')(r:R B w0 aK φ σ' kp a w):∀(vs:List V) (ds:List D) (us:List Value),toRDs σ.heap vs=some ds→VRels φ (cz φ σ'.heap) w.heap vs us→∃F,reps w.heap false ds us F
 |[],ds,us,h,fD=>by
  simp only[toRDs,bF]at h;subst h;simp only[VRels]at fD;subst fD;exact⟨[],rfl,rfl⟩
 |v::vs,ds,us,h,fD=>by
  simp only[VRels]at fD;obtain⟨u,ck,rfl,aM,bc⟩:=fD;simp only[toRDs]at h;split at h
  ·rename_i d oP ah ai
   cases h
   obtain⟨fy,dA⟩:=Sv aY r ah aM;obtain⟨g4,fN⟩:=Sx aY r vs oP ck ai bc;exact⟨fy++g4,u,ck,fy,g4,rfl,rfl,dA,fN⟩
  ·cases h
theorem aaF(aY:σ.le σ')(r:R B w0 aK φ σ' kp a w){v:V}{d:AD}(h:toAD σ.heap v=some d){u:Value}(fD:VRel φ (cz φ σ'.heap) w.heap v u):∃F,EI w.heap false d u F:=by
 unfold toAD at h;split at h
 ·rename_i vs
  cases hd:toRDs σ.heap vs with
  |none=>rw[hd]at h;cases h
  |some ds=>
   rw[hd]at h;cases h;obtain⟨us,rfl,aM⟩:=EJ fD;obtain⟨F,f⟩:=Sx aY r vs ds _ hd aM;exact⟨F,us,rfl,f⟩
 ·cases hd:toRD σ.heap v with
  |none=>rw[hd]at h;cases h
  |some x=>
   rw[hd]at h;cases h;exact Sv aY r hd fD
theorem H5(aY:σ.le σ')(r:R B w0 aK φ σ' kp a w):∀(vs:List V) (ds:List AD) (us:List Value),toADs σ.heap vs=some ds→VRels φ (cz φ σ'.heap) w.heap vs us→∃F,areps w.heap false ds us F
 |[],ds,us,h,fD=>by
  simp only[toADs,bF]at h;subst h;simp only[VRels]at fD;subst fD;exact⟨[],rfl,rfl⟩
 |v::vs,ds,us,h,fD=>by
  simp only[VRels]at fD;obtain⟨u,ck,rfl,aM,bc⟩:=fD;simp only[toADs]at h;split at h
  ·rename_i d oP ah ai
   cases h
   obtain⟨fy,dA⟩:=aaF aY r ah aM;obtain⟨g4,fN⟩:=H5 aY r vs oP ck ai bc;exact⟨fy++g4,u,ck,fy,g4,rfl,rfl,dA,fN⟩
  ·cases h
end
def rV(d:D)(n:Nat):V:=match d with|.sl _ xs=>.sl n 0 xs.length|d=>.d d
def wO(d:D):List H:=match d with|.sl sz xs=>[.ar sz xs true]|_=>[]
def rVs:List D→Nat→List V
 |[],_=>[]
 |d::ds,n=>rV d n::rVs ds (n+(wO d).length)
def rHs:List D→List H
 |[]=>[]
 |d::ds=>wO d++rHs ds
def EK:AD→Nat→V
 |.one d,n=>rV d n
 |.agg ds,n=>.agg (rVs ds n)
def EL:AD→List H
 |.one d=>wO d
 |.agg ds=>rHs ds
def aVs:List AD→Nat→List V
 |[],_=>[]
 |d::ds,n=>EK d n::aVs ds (n+(EL d).length)
def aHs:List AD→List H
 |[]=>[]
 |d::ds=>EL d++aHs ds
def m4(rs:List AD)(n:Nat):V:=match rs with|[r]=>EK r n|rs=>.dV (aVs rs n)
def lM(β:gQ):List Nat:=β.eh.toList++β.c_
def vF(h:Array Obj)(bl:List gQ)(hs:List H)(F:List Nat):Prop:=
 bl.length=hs.length∧bl.flatMap lM=F∧(∀(i:Nat) (β:gQ) (x:H),bl[i]?=some β→hs[i]?=some x→∀φ T,dX φ T h β x)∧∀x∈hs,∃sz xs,x=.ar sz xs true
def pK(φ:cp)(n:Nat)(bl:List gQ):Prop:=∀(i:Nat) (β:gQ),bl[i]?=some β→φ (n+i)=some β
theorem vF.append{h:Array Obj}{eF eS:List gQ}{h1 h2:List H}{fy g4:List Nat}(gl:vF h eF h1 fy)(gW:vF h eS h2 g4):vF h (eF++eS) (h1++h2) (fy++g4):=by
 obtain⟨cm,cB,cx,e0⟩:=gl;obtain⟨cM,dI,jj,uj⟩:=gW;refine⟨by simp[cm,cM],by simp[cB,dI],fun i β x ah ai=>?_,fun x hx=>?_⟩
 ·rw[List.getElem?_append]at ah ai;by_cases hi:i<eF.length
  ·rw[if_pos hi]at ah;rw[if_pos (cm▸hi)]at ai;exact cx i β x ah ai
  ·rw[if_neg hi]at ah;rw[if_neg (cm▸hi),←cm]at ai;exact jj _ β x ah ai
 ·rcases et.1 hx with hx|hx
  ·exact e0 x hx
  ·exact uj x hx
theorem pK.left{φ:cp}{n:Nat}{eF eS:List gQ}(h:pK φ n (eF++eS)):pK φ n eF:=fun i β e=>h i β (by
 rw[List.getElem?_append_left (by
  rcases Nat.lt_or_ge i eF.length with h|h
  ·exact h
  ·rw[List.getElem?_eq_none h]at e;cases e)];exact e)
theorem pK.right{φ:cp}{n:Nat}{eF eS:List gQ}(h:pK φ n (eF++eS)):pK φ (n+eF.length) eS:=fun i β e=>by
 rw[Nat.add_assoc];exact h (eF.length+i) β (by rw[List.getElem?_append_right (by omega),Nat.add_sub_cancel_left];exact e)
theorem Sy{h:Array Obj}{d:D}{u:Value}{F:List Nat}(r:rep h true d u F):∃bl,vF h bl (wO d) F∧∀φ n T,pK φ n bl→VRel φ T h (rV d n) u:=by
 cases d with
 |sl sz xs=>
  simp only[rep]at r;obtain⟨ad,c,rfl,h2,aj,aE⟩:=r;rcases aE with ⟨rfl,rfl,aE⟩|⟨b,f,G,rfl,rfl,b3,e2,j4⟩
  ·refine⟨[⟨none,0,0,sz,[]⟩],⟨rfl,rfl,fun i β x ah ai φ T=>?_,by simp[wO]⟩,fun φ n T hA=>?_⟩
   ·cases i with
    |zero=>
     simp[wO]at ah ai;subst ah;subst ai;simp[dX]
    |succ i=>simp at ah
   ·simp only[rV,VRel];exact⟨_,ad,c,hA 0 _ rfl,rfl,aj,.inl ⟨aE trivial,rfl,rfl⟩⟩
  ·refine⟨[⟨some b,f,c,sz,G⟩],⟨rfl,by simp[lM],fun i β x ah ai φ T=>?_,by simp[wO]⟩,fun φ n T hA=>?_⟩
   ·cases i with
    |zero=>
     simp[wO]at ah ai;subst ah;subst ai;simp only[dX];exact⟨trivial,.inr ⟨b,G,rfl,h2,(j4 trivial).2,e2,fun _=>rfl,fun h=>by cases h⟩⟩
    |succ i=>simp at ah
   ·simp only[rV,VRel];exact⟨_,_,c,hA 0 _ rfl,rfl,aj,.inr ⟨b,rfl,by simp,h2,by simp⟩⟩
 |_=>
  have cd:=EM rfl r;subst cd;refine⟨[],⟨rfl,rfl,by simp,by simp[wO]⟩,fun φ n T _=>?_⟩;simp only[rV,VRel];exact⟨[],H6 rfl r,by simp⟩
theorem L8{h:Array Obj}:∀(ds:List D) (us:List Value) (F:List Nat),reps h true ds us F→∃bl,vF h bl (rHs ds) F∧∀φ n T,pK φ n bl→VRels φ T h (rVs ds n) us
 |[],us,F,r=>by
  simp only[reps]at r;obtain⟨rfl,rfl⟩:=r;exact⟨[],⟨rfl,rfl,by simp,by simp[rHs]⟩,fun _ _ _ _=>by simp[rVs,VRels]⟩
 |d::ds,us,F,r=>by
  simp only[reps]at r;obtain⟨u,ck,fy,g4,rfl,rfl,aM,bc⟩:=r;obtain⟨eF,gl,hP⟩:=Sy aM;obtain⟨eS,gW,hE⟩:=L8 ds ck g4 bc;refine⟨eF++eS,gl.append gW,fun φ n T hA=>?_⟩;simp only[rVs,VRels];refine⟨u,ck,rfl,hP φ n T hA.left,hE φ _ T ?_⟩;rw[←gl.1];exact hA.right
theorem Sz{h:Array Obj}{d:AD}{u:Value}{F:List Nat}(r:EI h true d u F):∃bl,vF h bl (EL d) F∧∀φ n T,pK φ n bl→VRel φ T h (EK d n) u:=by
 cases d with
 |one d=>exact Sy r
 |agg ds=>
  obtain⟨us,rfl,r⟩:=r;obtain⟨bl,l,v⟩:=L8 ds _ F r;refine⟨bl,l,fun φ n T hA=>?_⟩;simp only[EK,VRel];exact⟨us,rfl,v φ n T hA⟩
theorem SA{h:Array Obj}:∀(ds:List AD) (us:List Value) (F:List Nat),areps h true ds us F→∃bl,vF h bl (aHs ds) F∧∀φ n T,pK φ n bl→VRels φ T h (aVs ds n) us
 |[],us,F,r=>by
  simp only[areps]at r;obtain⟨rfl,rfl⟩:=r;exact⟨[],⟨rfl,rfl,by simp,by simp[aHs]⟩,fun _ _ _ _=>by simp[aVs,VRels]⟩
 |d::ds,us,F,r=>by
  simp only[areps]at r;obtain⟨u,ck,fy,g4,rfl,rfl,aM,bc⟩:=r;obtain⟨eF,gl,hP⟩:=Sz aM;obtain⟨eS,gW,hE⟩:=SA ds ck g4 bc;refine⟨eF++eS,gl.append gW,fun φ n T hA=>?_⟩;simp only[aVs,VRels];refine⟨u,ck,rfl,hP φ n T hA.left,hE φ _ T ?_⟩;rw[←gl.1];exact hA.right
theorem L9{h:Array Obj}{rs:List AD}{u:Value}{F:List Nat}(r:trep h true rs u F):∃bl,vF h bl (aHs rs) F∧∀φ n T,pK φ n bl→VRel φ T h (m4 rs n) u:=by
 unfold trep at r;split at r
 ·rename_i x;obtain⟨bl,l,v⟩:=Sz r;exact⟨bl,by simpa [aHs]using l,fun φ n T hA=>v φ n T hA⟩
 ·rename_i hne;obtain⟨us,rfl,r⟩:=r;obtain⟨bl,l,v⟩:=SA _ _ F r;refine⟨bl,l,fun φ n T hA=>?_⟩;have:m4 rs n=.dV (aVs rs n):=by unfold m4;split<;>first|rfl|(rename_i y;exact absurd rfl (hne y))
  rw[this];simp only[VRel];exact⟨us,rfl,v φ n T hA⟩
def H.toCln:H→H
 |.ar sz xs true=>.af sz xs
 |x=>x
theorem vF.af{h:Array Obj}{bl:List gQ}{hs:List H}{F:List Nat}(l:vF h bl hs F):bl.length=(hs.map H.toCln).length∧bl.flatMap lM=F∧(∀(i:Nat) (β:gQ) (x:H),bl[i]?=some β→(hs.map H.toCln)[i]?=some x→∀φ T,dX φ T h β x):=by
 obtain⟨gl,gW,oN,_⟩:=l;refine⟨by simp[gl],gW,fun i β x ah ai φ T=>?_⟩;rw[List.getElem?_map]at ai
 cases hx:hs[i]? with
 |none=>rw[hx]at ai;cases ai
 |some y=>
  rw[hx]at ai;simp only[Option.map_some,bF]at ai;subst ai;have:=oN i β y ah hx φ T;unfold H.toCln;split
  ·rename_i sz xs;have:=L_ (x:=.ar sz xs true) rfl this;simpa only[dX]using this
  ·exact this
theorem SB{F:List Nat}:∀(bl:List gQ),bl.flatMap lM=F→F.Nodup→∀(i j:Nat) (β zG:gQ) (b:Nat),bl[i]?=some β→bl[j]?=some zG→b∈lM β→b∈lM zG→i=j:=by
 intro bl
 induction bl generalizing F with
 |nil=>intro _ _ i j β zG b e;simp at e
 |cons x xs dW=>
  intro e hn i j β zG b ah ai h1 h2;subst e;rw[List.flatMap_cons,List.nodup_append]at hn;have Bb:∀(k:Nat) (H7:gQ),xs[k]?=some H7→b∈lM H7→b∈xs.flatMap lM:=fun k H7 hk hb=>List.mem_flatMap.2 ⟨H7,List.mem_of_getElem? hk,hb⟩
  cases i with
  |zero=>
   cases j with
   |zero=>rfl
   |succ j=>
    simp at ah ai;subst ah;exact absurd rfl (hn.2.2 b h1 b (Bb j zG ai h2))
  |succ i=>
   cases j with
   |zero=>
    simp at ah ai;subst ai;exact absurd rfl (hn.2.2 b h2 b (Bb i β ah h1))
   |succ j=>
    simp at ah ai;rw[dW rfl hn.2.1 i j β zG b ah ai h1 h2]
theorem SC{F:List Nat}:∀(bl:List gQ),bl.flatMap lM=F→F.Nodup→∀β∈bl,(lM β).Nodup:=by
 intro bl
 induction bl generalizing F with
 |nil=>simp
 |cons x xs dW=>
  intro e hn β hb;subst e;rw[List.flatMap_cons,List.nodup_append]at hn;rcases List.mem_cons.1 hb with rfl|hb
  ·exact hn.1
  ·exact dW rfl hn.2.1 β hb
section
variable {B:Nat→Prop} {w0:World} {aK:Nat→Prop} {φ:cp} {kp:List (V×Value)} {a:Act} {w:World} {σ:St}
theorem L'(r:R B w0 aK φ σ kp a w){n:Nat}{bl:List gQ}{hs:List H}{F:List Nat}{w':World}(hn:∀i,n≤i→i<n+hs.length→¬aK i)
  (hb:Bel (fun b=>w.heap.size≤b) w w') (hl:bl.length=hs.length∧bl.flatMap lM=F∧(∀(i:Nat) (β:gQ) (x:H),bl[i]?=some β→hs[i]?=some x→∀φ T,dX φ T w'.heap β x)) (hnd:F.Nodup) (hnew:∀b∈F,w.heap.size≤b) :
  ∃cV,pK cV n bl∧R B w0 (fun i=>aK i∨(n≤i∧i<n+hs.length)) cV ⟨σ.tmps,Gv.hnew σ.heap n hs⟩ kp a w':=by
 obtain⟨gl,gW,oN⟩:=hl;have zH:∀i,n≤i→i<n+hs.length→φ i=none:=fun i h1 h2=>by
  cases h:φ i with
  |none=>rfl
  |some β=>exact absurd (r.fU i β h) (hn i h1 h2)
 let cV:cp:=fun i=>if n≤i∧i<n+hs.length then bl[i-n]? else φ i
 have hin:∀i,n≤i∧i<n+hs.length→cV i=bl[i-n]?:=fun i h=>if_pos h;have m5:∀i,¬(n≤i∧i<n+hs.length)→cV i=φ i:=fun i h=>if_neg h;have aaG:∀i,n≤i∧i<n+hs.length→∃x,hs[i-n]?=some x∧aL (Gv.hnew σ.heap n hs) i=x:=by
  intro i h;have hlt:i-n<hs.length:=by omega
  refine⟨hs[i-n],b8 hlt,?_⟩;rw[A4,if_pos h,ib,b8 hlt];rfl
 have H8:∀i,¬(n≤i∧i<n+hs.length)→aL (Gv.hnew σ.heap n hs) i=aL σ.heap i:=fun i h=>by rw[A4,if_neg h]
 have gq:∀i,n≤i∧i<n+hs.length→∀b,c5 cV (Gv.hnew σ.heap n hs) i b→∃β,bl[i-n]?=some β∧b∈lM β:=by
  rintro i h b ⟨β,ah,ai⟩;rw[hin i h]at ah;refine⟨β,ah,?_⟩;unfold lM;rcases ai with ⟨_,ai⟩|⟨_,ai⟩
  ·simp[ai]
  ·simp[ai]
 have SD:∀(i:Nat) (β:gQ) (b:Nat),bl[i]?=some β→b∈lM β→w.heap.size≤b:=fun i β b h1 h2=>hnew b (by rw[←gW];exact List.mem_flatMap.2 ⟨β,List.mem_of_getElem? h1,h2⟩);refine⟨cV,fun i β hi=>?_,wP r (fun i=>n≤i∧i<n+hs.length) _ cV _ w' (fun i hi=>⟨H8 i hi,m5 i hi⟩) (fun i β hi=>?_) hb.size (fun b gC _=>hb.block b (by omega)) (fun i hi b av=>?_) (fun i hi a_ h1 b h2=>?_)
  (fun i j b hi al h1 h2=>?_) (fun i β hi h1 _=>?_) (fun i hi=>?_) (fun i β hi=>?_) (r.fP.trans (hb.mono fun k hk=>r.bs k hk))⟩
 ·have hlt:i<bl.length:=by
   rcases Nat.lt_or_ge i bl.length with h|h
   ·exact h
   ·rw[List.getElem?_eq_none h]at hi;cases hi
  rw[hin (n+i) ⟨by omega,by omega⟩,Nat.add_sub_cancel_left];exact hi
 ·by_cases h:n≤i∧i<n+hs.length
  ·rw[zH i h.1 h.2]at hi;cases hi
  ·exact⟨β,by rw[m5 i h];exact hi,rfl,rfl,rfl,rfl⟩
 ·obtain⟨β,ah,ai⟩:=gq i hi b av;exact .inl (SD _ β b ah ai)
 ·rw[hin i hi]at h1;refine .inl (SD _ a_ b h1 ?_);unfold lM;rcases h2 with ⟨_,h2⟩|⟨_,h2⟩<;>simp[h2]
 ·obtain⟨β,ah,ai⟩:=gq i hi b h1;obtain⟨zG,dA,fN⟩:=gq j al b h2;have:=SB bl gW hnd _ _ β zG b ah dA ai fN;omega
 ·rw[hin i hi]at h1;have:=SC bl gW hnd β (List.mem_of_getElem? h1);unfold lM at this;rw[List.nodup_append]at this;refine⟨this.2.1,fun b gC jY=>this.2.2 b (by simp[gC]) b jY rfl⟩
 ·right;obtain⟨x,h1,h2⟩:=aaG i hi;have hlt:i-n<bl.length:=by omega
  refine⟨bl[i-n],by rw[hin i hi];exact b8 hlt,?_⟩;rw[h2];exact oN _ _ _ (b8 hlt) h1 _ _
 ·by_cases h:n≤i∧i<n+hs.length
  ·exact .inr h
  ·rw[m5 i h]at hi;exact .inl (r.fU i β hi)
end
variable {P:Program} {o:Oper} {g:Bool} {σ:St} {n:Nat} {K:eD→Prop}
theorem Ma{c:Call}{f:FuncId}{xs:Array Operand}{ts:Array TypeId}(av:o.op=.call c){x:Operand}(hc:c={callee:=.value x,args:=xs,argTypes:=ts})(hf:∀{σ':St} {B:Nat→Prop} {w0:World} {aK:Nat→Prop} {φ:cp} {kp:List (V×Value)} {a:Act} {w:World},σ.le σ'→R B w0 aK φ σ' kp a w→g=true→a.eval x=.func (.func f) #[] #[])
  {vs:List V} (hx:∀{σ':St} {B:Nat→Prop} {w0:World} {aK:Nat→Prop} {φ:cp} {kp:List (V×Value)} {a:Act} {w:World},σ.le σ'→R B w0 aK φ σ' kp a w→g=true→VRels φ (cz φ σ'.heap) w.heap vs (xs.toList.map a.eval))
  {as rs:List AD} (ag:toADs σ.heap vs=some as) (Mb:PureCall P f as rs) (b6:K ⟨m4 rs n,aHs rs,[]⟩):∃r,gP P o g σ n r∧K r:=by
 subst hc;refine⟨_,?_,b6⟩;intro σ' aY _ B w0 aK φ kp a w iR aQ hg m3 nW hk;have hv:=hx aY aQ hg;obtain⟨F,cd⟩:=H5 aY aQ vs as _ ag hv;have hcall:=Mb w _ F aQ.Mc cd;unfold Oper.wp;have fa:(execOp a.eval o).run P w=(callFunc f (xs.map a.eval)).run P w:=by
  unfold execOp;rw[av];have Md:=hf aY aQ hg;simp[resolve,Md,Deferred.ofValue,invoke]
 rw[fa];have l1:(xs.toList.map a.eval).toArray=xs.map a.eval:=by rw[←Array.toList_map,Array.toArray_toList]
 rw[l1]at hcall;have a2:∀v w',(∃F',Bel (fun b=>w.heap.size≤b) w w'∧trep w'.heap true rs v F'∧F'.Nodup∧∀b∈F',w.heap.size≤b)→m3 (a.put o.dst v) w':=by
  rintro v w' ⟨F',ah,ai,aX,br⟩;obtain⟨bl,gl,gW⟩:=L9 ai;obtain⟨cV,hA,eK⟩:=L' aQ iR ah ⟨gl.1,gl.2.1,gl.2.2.1⟩ aX br;exact hk v w' cV (mD eK o.dst (gW cV n _ hA))
 unfold Does at hcall;split at hcall
 ·rename_i h1;rw[h1,Oper.upon_enter];refine Calls.mono hcall fun e w' he=>?_
  cases e with
  |returned v=>exact a2 v w' he
  |panicked c=>exact he.elim
  |outgrown=>exact he.elim
 ·rename_i h1;rw[h1,Oper.upon_value];exact a2 _ _ hcall
 ·rename_i h1;rw[h1,Oper.upon_row];exact Rows.mono hcall a2
 ·exact hcall.elim
theorem H9{c:Call}{f:FuncId}{xs:Array Operand}{ts:Array TypeId}(av:o.op=.call c){x:Operand}(hc:c={callee:=.value x,args:=xs,argTypes:=ts})(hf:∀{σ':St} {B:Nat→Prop} {w0:World} {aK:Nat→Prop} {φ:cp} {kp:List (V×Value)} {a:Act} {w:World},σ.le σ'→R B w0 aK φ σ' kp a w→g=true→a.eval x=.func (.func f) #[] #[])
  {vs:List V} (hx:∀{σ':St} {B:Nat→Prop} {w0:World} {aK:Nat→Prop} {φ:cp} {kp:List (V×Value)} {a:Act} {w:World},σ.le σ'→R B w0 aK φ σ' kp a w→g=true→VRels φ (cz φ σ'.heap) w.heap vs (xs.toList.map a.eval))
  {as rs:List AD} (ag:toADs σ.heap vs=some as) (Mb:PureCall P f as rs) (b6:K ⟨m4 rs n,(aHs rs).map H.toCln,[]⟩):∃r,gP P o g σ n r∧K r:=by
 subst hc;refine⟨_,?_,b6⟩;intro σ' aY _ B w0 aK φ kp a w iR aQ hg m3 nW hk;have hv:=hx aY aQ hg;obtain⟨F,cd⟩:=H5 aY aQ vs as _ ag hv;have hcall:=Mb w _ F aQ.Mc cd;unfold Oper.wp;have fa:(execOp a.eval o).run P w=(callFunc f (xs.map a.eval)).run P w:=by
  unfold execOp;rw[av];have Md:=hf aY aQ hg;simp[resolve,Md,Deferred.ofValue,invoke]
 rw[fa];have l1:(xs.toList.map a.eval).toArray=xs.map a.eval:=by rw[←Array.toList_map,Array.toArray_toList]
 rw[l1]at hcall;have a2:∀v w',(∃F',Bel (fun b=>w.heap.size≤b) w w'∧trep w'.heap true rs v F'∧F'.Nodup∧∀b∈F',w.heap.size≤b)→m3 (a.put o.dst v) w':=by
  rintro v w' ⟨F',ah,ai,aX,br⟩;obtain⟨bl,gl,gW⟩:=L9 ai;obtain⟨cV,hA,eK⟩:=L' aQ iR ah gl.af aX br;exact hk v w' cV (mD eK o.dst (gW cV n _ hA))
 unfold Does at hcall;split at hcall
 ·rename_i h1;rw[h1,Oper.upon_enter];refine Calls.mono hcall fun e w' he=>?_
  cases e with
  |returned v=>exact a2 v w' he
  |panicked c=>exact he.elim
  |outgrown=>exact he.elim
 ·rename_i h1;rw[h1,Oper.upon_value];exact a2 _ _ hcall
 ·rename_i h1;rw[h1,Oper.upon_row];exact Rows.mono hcall a2
 ·exact hcall.elim
def toX(hs:List H)(v:V):Option (D×List Nat):=
 match v with
 |.sl id off len=>match aL hs id with|.af sz xs=>if off+len≤xs.length then some (.sl sz ((xs.drop off).take len),[id])else none|_=>toD hs (.sl id off len)
 |v=>toD hs v
def toXs(hs:List H):List V→Option (List D×List Nat)
 |[]=>some ([],[])
 |v::vs=>match toX hs v,toXs hs vs with|some (d,i),some (ds,is)=>some (d::ds,i++is)|_,_=>none
section
variable {B:Nat→Prop} {w0:World} {aK:Nat→Prop} {φ:cp} {kp:List (V×Value)} {a:Act} {w:World} {σ:St}
theorem SE(r:R B w0 aK φ σ kp a w){v:V}{d:D}{b9:List Nat}(h:toX σ.heap v=some (d,b9)){u:Value}(fD:VRel φ (cz φ σ.heap) w.heap v u) :
  ∃F,rep w.heap true d u F∧F.Nodup∧(∀b∈F,∃id∈b9,c5 φ σ.heap id b)∧∀id∈b9,(aL σ.heap id).own=true:=by
 unfold toX at h;split at h
 ·rename_i id off len;split at h
  ·rename_i sz xs hx;split at h
   ·rename_i hl;simp only[bF,c1]at h;obtain⟨rfl,rfl⟩:=h;obtain⟨F,dA,fN,f3⟩:=L7 r (id:=id) (by rw[hx];rfl) hl fD;refine⟨F,dA,fN,fun b hb=>⟨id,by simp,f3 b hb⟩,fun i hi=>?_⟩;simp only[List.mem_singleton]at hi;subst hi;rw[hx];rfl
   ·cases h
  ·obtain⟨F,dA,fN,f3,f4⟩:=Me r h fD;exact⟨F,dA,fN,f3,fun i hi=>by obtain⟨s,ys,e⟩:=f4 i hi;rw[e];rfl⟩
 ·obtain⟨F,dA,fN,f3,f4⟩:=Me r h fD;exact⟨F,dA,fN,f3,fun i hi=>by obtain⟨s,ys,e⟩:=f4 i hi;rw[e];rfl⟩
theorem SF(r:R B w0 aK φ σ kp a w):∀(vs:List V) (ds:List D) (b9:List Nat) (us:List Value),toXs σ.heap vs=some (ds,b9)→b9.Nodup→VRels φ (cz φ σ.heap) w.heap vs us→
  ∃G,reps w.heap true ds us G∧G.Nodup∧(∀b∈G,∃id∈b9,c5 φ σ.heap id b)
 |[],ds,b9,us,e,_,cJ=>by
  simp only[toXs,bF,c1]at e;obtain⟨rfl,rfl⟩:=e;simp only[VRels]at cJ;subst cJ;exact⟨[],by simp[reps],List.nodup_nil,by simp⟩
 |v::vs,ds,b9,us,e,hnd,cJ=>by
  simp only[VRels]at cJ;obtain⟨u,ck,rfl,EN,EO⟩:=cJ;simp only[toXs]at e;split at e
  ·rename_i d i oP is ah ai;simp only[bF,c1]at e;obtain⟨rfl,rfl⟩:=e;rw[List.nodup_append]at hnd;obtain⟨F,dA,fN,f3,f4⟩:=SE r ah EN;obtain⟨G,cC,c8,fs⟩:=SF r vs oP is ck ai hnd.2.1 EO;refine⟨F++G,?_,?_,?_⟩
   ·simp only[reps];exact⟨u,ck,F,G,rfl,rfl,dA,cC⟩
   ·rw[List.nodup_append];refine⟨fN,c8,fun x hx y hy kL=>?_⟩;subst kL;obtain⟨p,dp,da⟩:=f3 x hx;obtain⟨q,cQ,bb⟩:=fs x hy;have:=r.dJ p q x da bb;exact hnd.2.2 p dp q cQ this
   ·intro b hb;rcases et.1 hb with hb|hb
    ·obtain⟨p,dp,da⟩:=f3 b hb;exact⟨p,by simp[dp],da⟩
    ·obtain⟨p,dp,da⟩:=fs b hb;exact⟨p,by simp[dp],da⟩
  ·cases e
end
def H_(hs:List H)(v:V):Option (AD×List Nat):=
 match v with
 |.agg vs=>(toXs hs vs).map fun(ds,b9)=>(.agg ds,b9)
 |v=>(toX hs v).map fun(d,b9)=>(.one d,b9)
def toOAs(hs:List H):List V→Option (List AD×List Nat)
 |[]=>some ([],[])
 |v::vs=>match H_ hs v,toOAs hs vs with|some (d,i),some (ds,is)=>some (d::ds,i++is)|_,_=>none
section
variable {B:Nat→Prop} {w0:World} {aK:Nat→Prop} {φ:cp} {kp:List (V×Value)} {a:Act} {w:World} {σ:St}
theorem aaH(r:R B w0 aK φ σ kp a w){v:V}{d:AD}{b9:List Nat}(h:H_ σ.heap v=some (d,b9))(hn:b9.Nodup){u:Value}(fD:VRel φ (cz φ σ.heap) w.heap v u) :
  ∃F,EI w.heap true d u F∧F.Nodup∧∀b∈F,∃id∈b9,c5 φ σ.heap id b:=by
 unfold H_ at h;split at h
 ·rename_i vs
  cases hd:toXs σ.heap vs with
  |none=>rw[hd]at h;cases h
  |some p=>
   obtain⟨ds,is⟩:=p;rw[hd]at h;simp only[Option.map_some,bF,c1]at h;obtain⟨rfl,rfl⟩:=h;obtain⟨us,rfl,aM⟩:=EJ fD;obtain⟨G,cC,c8,fs⟩:=SF r vs ds is _ hd hn aM;exact⟨G,⟨us,rfl,cC⟩,c8,fs⟩
 ·cases hd:toX σ.heap v with
  |none=>rw[hd]at h;cases h
  |some p=>
   obtain⟨ds,is⟩:=p;rw[hd]at h;simp only[Option.map_some,bF,c1]at h;obtain⟨rfl,rfl⟩:=h;obtain⟨G,cC,c8,fs,_⟩:=SE r hd fD;exact⟨G,cC,c8,fs⟩
theorem SG(r:R B w0 aK φ σ kp a w):∀(vs:List V) (ds:List AD) (b9:List Nat) (us:List Value),toOAs σ.heap vs=some (ds,b9)→b9.Nodup→VRels φ (cz φ σ.heap) w.heap vs us→
  ∃F,areps w.heap true ds us F∧F.Nodup∧∀b∈F,∃id∈b9,c5 φ σ.heap id b
 |[],ds,b9,us,e,_,cJ=>by
  simp only[toOAs,bF,c1]at e;obtain⟨rfl,rfl⟩:=e;simp only[VRels]at cJ;subst cJ;exact⟨[],⟨rfl,rfl⟩,List.nodup_nil,by simp⟩
 |v::vs,ds,b9,us,e,hnd,cJ=>by
  simp only[VRels]at cJ;obtain⟨u,ck,rfl,EN,EO⟩:=cJ;simp only[toOAs]at e;split at e
  ·rename_i d i oP is ah ai;simp only[bF,c1]at e;obtain⟨rfl,rfl⟩:=e;rw[List.nodup_append]at hnd;obtain⟨F,dA,fN,f3⟩:=aaH r ah hnd.1 EN;obtain⟨G,cC,c8,fs⟩:=SG r vs oP is ck ai hnd.2.1 EO;refine⟨F++G,⟨u,ck,F,G,rfl,rfl,dA,cC⟩,?_,?_⟩
   ·rw[List.nodup_append];refine⟨fN,c8,fun x hx y hy kL=>?_⟩;subst kL;obtain⟨p,dp,da⟩:=f3 x hx;obtain⟨q,cQ,bb⟩:=fs x hy;exact hnd.2.2 p dp q cQ (r.dJ p q x da bb)
   ·intro b hb;rcases et.1 hb with hb|hb
    ·obtain⟨p,dp,da⟩:=f3 b hb;exact⟨p,by simp[dp],da⟩
    ·obtain⟨p,dp,da⟩:=fs b hb;exact⟨p,by simp[dp],da⟩
  ·cases e
end
structure EP where
 q:Nat×H
 β:gQ
 F:List Nat
 F':List Nat
structure aaI(σ':St)(φ:cp)(h':Array Obj)(it:EP):Prop where
 akU:∀b∈it.F,c5 φ σ'.heap it.q.1 b
 uJ:∃β,φ it.q.1=some β∧it.β.eh=β.eh∧it.β.off=β.off∧it.β.cap=β.cap∧it.β.sz=β.sz
 hr:∀φ T,dX φ T h' it.β it.q.2
 akV:(it.F=[]∧it.F'=[]∧it.β.c_=[])∨∃b G,it.β.eh=some b∧it.F=b::G∧it.F'=b::it.β.c_
 m2:(aL σ'.heap it.q.1).m2=true
 kind:(it.q.2.shut=false∧it.β.c_=[]∧∀β,φ it.q.1=some β→β.c_=[])∨(aL σ'.heap it.q.1).shut=true
section
variable {B:Nat→Prop} {w0:World} {aK:Nat→Prop} {φ:cp} {kp:List (V×Value)} {a:Act} {w:World} {σ σ':St}
def CI(σ':St)(φ:cp)(h':Array Obj)(upd:List (Nat×H))(F F':List Nat):Prop:=
 ∃its:List EP,its.map EP.q=upd∧its.flatMap EP.F=F∧its.flatMap EP.F'=F'∧∀it∈its,aaI σ' φ h' it
theorem CI.nil:CI σ' φ w.heap [] [] []:=⟨[],rfl,rfl,rfl,by simp⟩
theorem CI.append{h':Array Obj}{fk gB:List (Nat×H)}{fy g4 SH SI:List Nat}(h1:CI σ' φ h' fk fy SH)(h2:CI σ' φ h' gB g4 SI):CI σ' φ h' (fk++gB) (fy++g4) (SH++SI):=by
 obtain⟨fm,cm,cB,cx,e0⟩:=h1;obtain⟨dM,eF,eS,ew,oH⟩:=h2;refine⟨fm++dM,by rw[List.map_append,cm,eF],by rw[List.flatMap_append,cB,eS],by rw[List.flatMap_append,cx,ew],fun it ER=>?_⟩;rcases et.1 ER with ER|ER
 ·exact e0 it ER
 ·exact oH it ER
end
variable {P:Program} {o:Oper} {g:Bool} {σ:St} {n:Nat} {K:eD→Prop}
section
variable {B:Nat→Prop} {w0:World} {aK:Nat→Prop} {φ:cp} {kp:List (V×Value)} {a:Act} {w:World} {σ:St}
end
section
variable {P:Program} {o:Oper} {g:Bool} {σ:St} {n:Nat} {K:eD→Prop}
end
end Gv
